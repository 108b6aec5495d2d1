import Derived.Test.YtelnglhodnoclaaGreatB4
set_option linter.unusedVariables false
set_option linter.unusedSimpArgs false
set_option maxRecDepth 100000
set_option maxHeartbeats 0
section
namespace Go.Proofs.YtelnglhodnoclaaGreat
namespace Bn
open Go Go.Sy
section
variable {i j:Nat}{p:El→Bool}{d:Array El}
theorem fR(h:i≤j)(hp:p d[i]! =true):Sort.scanUp p d j i=Sort.scanUp p d j (i+1):=by
 conv=>lhs;rw [Sort.scanUp,Ez (by simp [h,hp])]
theorem bY(h:j<i∨p d[i]! =false):Sort.scanUp p d j i=i:=by
 rw [Sort.scanUp,Ey]
 simp only [Ek,EZ]
 rintro⟨h1,h2⟩
 rcases h with h|h
 ·omega
 ·rw [h] at h2;cases h2
theorem d7(h:i≤j+1)(hp:p d[j+1]! =true):Sort.scanDown p d i (j+1)=Sort.scanDown p d i j:=by
 conv=>lhs;rw [Sort.scanDown,Ez (by simp [h,hp])]
theorem bI(h:j<i∨p d[j]! =false):Sort.scanDown p d i j=j:=by
 cases j with
 | zero=>rfl
 | succ j=>
   rw [Sort.scanDown,Ey]
   simp only [Ek,EZ]
   rintro⟨h1,h2⟩
   rcases h with h|h
   ·omega
   ·rw [h] at h2;cases h2
theorem jL{lt:El→El→Bool}{a i2 j2:Nat}(hi:Sort.scanUp (fun x=> !lt d[a]! x) d j i=i2)(hj:Sort.scanDown (fun x=>lt d[a]! x) d i2 j=j2)(h1:i≤i2)(h2:j2≤j) :
 Sort.partEqLoop lt a i j d=if j2<i2 then(i2,d) else Sort.partEqLoop lt a (i2+1) (j2-1) (Sort.swp d i2 j2):=by
 conv=>lhs;unfold Sort.partEqLoop
 simp only [hi,hj]
 split
 ·rfl
 ·rw [dif_pos (by omega)]
theorem jM(n a b pv:Nat)(d:Array El)(hn:n<4611686018427387904)(hd:d.size=n)(hap:a≤pv)(hpb:pv<b)(hb:b≤n) :
 Ctr Tryz.prog 113 [.slu 0 0 n,.sc (.int .i64 (a:Int)),.sc (.int .i64 (b:Int)),.sc (.int .i64 (pv:Int)),cmpF] [rowP n d] (fun c=>c=⟨.sc (.int .i64 ((Sort.partitionEqual ltP d a b pv).1:Int)),[some (rowP n (Sort.partitionEqual ltP d a b pv).2)]⟩):=by
 refine E2 Tryz.func113 rfl rfl ?_
 repeat apply ae;rfl
 refine aS (by kernel_rfl) (by kernel_rfl) ?_
 repeat first|apply aA;rfl|refine aX rfl rfl rfl (F.ag _ rfl) (recP) rfl (by(omega)) (by(omega)) ?_|refine db (bS (F.sz _ rfl) rfl rfl rfl (recP) rfl (by first|omega|(simp only [D4,aq];omega)) (by first|omega|(simp only [D4,aq];omega))) rfl rfl ?_|refine an (q:=a) rfl rfl rfl rfl (F.un _ rfl) (F.sz _ rfl) rfl (by omega) (by omega) (by omega) ?_|refine an (q:=pv) rfl rfl rfl rfl (F.un _ rfl) (F.sz _ rfl) rfl (by omega) (by omega) (by omega) ?_
 refine ay ⟨by kernel_rfl,?_,?_⟩;(focus(repeat(first|exact Gc|apply bZ;rfl|apply bM;rfl|refine⟨.inr (by(repeat(refine⟨(by(exact az (F.un _ rfl) (F.sz _ rfl) rfl rfl rfl (by omega) (by omega) (by omega))),?_⟩));exact Gc),?_⟩|refine⟨.inl (by kernel_rfl),?_⟩)))
 repeat first|apply ae;rfl|apply aB;rfl;omega;omega
 refine cO 1 (fun s:(Nat×Nat)×Array El=> [(0,.slu 0 0 n),(1,.sc (.int .i64 (a:Int))),(4,cmpF),(11,.sc (.int .i64 (s.1.1:Int))),(12,.sc (.int .i64 (s.1.2:Int)))]) (fun s=> [some (rowP n s.2)]) (fun s=>a<s.1.1∧s.1.1≤n∧s.1.2<n∧s.2.size=n∧Sort.partEqLoop ltP a s.1.1 s.1.2 s.2=Sort.partitionEqual ltP d a b pv) (fun s=>s.1.2+1-s.1.1) ((a+1,b-1),Sort.swp d a pv) []
  (fun _=>rfl) ⟨by simp only;omega,by simp only;omega,by simp only;omega,by rw [aq];exact hd,rfl⟩ ?_ (fun _=>rfl) (fun _=>rfl) ?_
 ·(refine⟨(E0 rfl),rfl,(by repeat(first|exact Gc|refine⟨rfl,?_⟩|refine⟨cK (by(simp only;omega)),?_⟩)),⟨ai rfl,trivial⟩⟩)
 rintro⟨⟨i,j⟩,d1⟩ ⟨hai,hi,hj,hd1,ho⟩ ih
 simp only at hai hi hj hd1 ho ih ⊢
 repeat apply ae;rfl
 refine cI 1 (fun x:Nat=> [(0,.slu 0 0 n),(1,.sc (.int .i64 (a:Int))),(4,cmpF),(11,.sc (.int .i64 (x:Int))),(12,.sc (.int .i64 (j:Int)))]) (fun _=> [some (rowP n d1)]) (fun x=>i≤x∧x≤n∧Sort.scanUp (fun y=> !ltP d1[a]! y) d1 j x=Sort.scanUp (fun y=> !ltP d1[a]! y) d1 j i) (fun x=>n-x) i []
  1 (fun x:Nat=> [(0,.slu 0 0 n),(1,.sc (.int .i64 (a:Int))),(4,cmpF),(11,.sc (.int .i64 (x:Int))),(12,.sc (.int .i64 (j:Int)))]) (fun _=> [some (rowP n d1)]) (fun x=>i≤x∧x≤n∧Sort.scanUp (fun y=> !ltP d1[a]! y) d1 j i=x)
  (fun _=>rfl) (fun _=>rfl) ⟨Em _,hi,rfl⟩ ?_ (fun _=>rfl) (fun _=>rfl) ?_ ?_
 ·(exact Ga rfl rfl rfl ⟨ai rfl,trivial⟩)
 ·rintro i1 ⟨hii,hi1,hu⟩ ihu out
  repeat apply ae;rfl
  refine aS (by kernel_rfl) (by kernel_rfl) ?_
  repeat apply aA;rfl
  refine fx rfl rfl rfl rfl ?_ ?_
  all_goals intro h1
  ·repeat first|apply aA;rfl|refine aX rfl rfl rfl (F.ag _ rfl) (recP) rfl (by(omega)) (by(omega)) ?_|refine an (q:=a) rfl rfl rfl rfl (F.un _ rfl) (F.sz _ rfl) rfl (by omega) (by omega) (by omega) ?_|refine an (q:=i1) rfl rfl rfl rfl (F.un _ rfl) (F.sz _ rfl) rfl (by omega) (by omega) (by omega) ?_|refine bg rfl rfl rfl rfl (by kernel_rfl) rfl (Ctr.callV (cmp_spec d1[a]! d1[i1]!) [] rfl (E0 rfl) rfl trivial rfl) ?_
   refine bx rfl rfl rfl rfl ?_ ?_
   all_goals intro h2
   ·repeat apply aA;rfl
    refine ay ⟨by kernel_rfl,?_,?_⟩;(focus(repeat(first|exact Gc|apply bZ;rfl|apply bM;rfl|refine⟨.inr (by(repeat(refine⟨(by(exact az (F.un _ rfl) (F.sz _ rfl) rfl rfl rfl (by omega) (by omega) (by omega))),?_⟩));exact Gc),?_⟩|refine⟨.inl (by kernel_rfl),?_⟩)))
    repeat first|refine out _ _ _ i1 [] ⟨hii,hi1,by rw [← hu];exact bY (.inr (by simpa [ltP] using h2))⟩ ?_;(exact Ga rfl rfl rfl ⟨ai rfl,trivial⟩)|apply bk;rfl
   ·repeat apply aA;rfl
    refine ay ⟨by kernel_rfl,?_,?_⟩;(focus(repeat(first|exact Gc|apply bZ;rfl|apply bM;rfl|refine⟨.inr (by(repeat(refine⟨(by(exact az (F.un _ rfl) (F.sz _ rfl) rfl rfl rfl (by omega) (by omega) (by omega))),?_⟩));exact Gc),?_⟩|refine⟨.inl (by kernel_rfl),?_⟩)))
    repeat first|apply ae;rfl|apply aB;rfl;omega;omega
    refine ihu _ _ _ (i1+1) [] ⟨by omega,by omega,?_⟩ (by omega) ?_
    ·rw [← hu]
     exact(fR (by omega) (by simpa [ltP] using h2)).symm
    ·(exact Ga rfl rfl rfl ⟨ai rfl,trivial⟩)
  ·repeat first|apply aA;rfl|refine b8 rfl rfl ?_
   refine ay ⟨by kernel_rfl,?_,?_⟩;(focus(repeat(first|exact Gc|apply ow;rfl|apply bM;rfl|refine⟨.inl rfl,?_⟩)))
   repeat first|refine out _ _ _ i1 [] ⟨hii,hi1,by rw [← hu];exact bY (.inl (by omega))⟩ ?_;(exact Ga rfl rfl rfl ⟨ai rfl,trivial⟩)|apply bk;rfl
 rintro i2 ⟨hii,hi2,hu⟩
 repeat apply ae;rfl
 refine cI 1 (fun x:Nat=> [(0,.slu 0 0 n),(1,.sc (.int .i64 (a:Int))),(4,cmpF),(11,.sc (.int .i64 (i2:Int))),(12,.sc (.int .i64 (x:Int)))]) (fun _=> [some (rowP n d1)]) (fun x=>x≤j∧Sort.scanDown (fun y=>ltP d1[a]! y) d1 i2 x=Sort.scanDown (fun y=>ltP d1[a]! y) d1 i2 j) (fun x=>x) j []
  1 (fun x:Nat=> [(0,.slu 0 0 n),(1,.sc (.int .i64 (a:Int))),(4,cmpF),(11,.sc (.int .i64 (i2:Int))),(12,.sc (.int .i64 (x:Int)))]) (fun _=> [some (rowP n d1)]) (fun x=>x≤j∧Sort.scanDown (fun y=>ltP d1[a]! y) d1 i2 j=x)
  (fun _=>rfl) (fun _=>rfl) ⟨Em _,rfl⟩ ?_ (fun _=>rfl) (fun _=>rfl) ?_ ?_
 ·(exact Ga rfl rfl rfl ⟨ai rfl,trivial⟩)
 ·rintro j1 ⟨hjj,hv⟩ ihv out
  repeat apply ae;rfl
  refine aS (by kernel_rfl) (by kernel_rfl) ?_
  repeat apply aA;rfl
  refine fx rfl rfl rfl rfl ?_ ?_
  all_goals intro h1
  ·repeat first|apply aA;rfl|refine aX rfl rfl rfl (F.ag _ rfl) (recP) rfl (by(omega)) (by(omega)) ?_|refine an (q:=a) rfl rfl rfl rfl (F.un _ rfl) (F.sz _ rfl) rfl (by omega) (by omega) (by omega) ?_|refine an (q:=j1) rfl rfl rfl rfl (F.un _ rfl) (F.sz _ rfl) rfl (by omega) (by omega) (by omega) ?_|refine bg rfl rfl rfl rfl (by kernel_rfl) rfl (Ctr.callV (cmp_spec d1[a]! d1[j1]!) [] rfl (E0 rfl) rfl trivial rfl) ?_
   refine bx rfl rfl rfl rfl ?_ ?_
   all_goals intro h2
   ·repeat apply aA;rfl
    refine ay ⟨by kernel_rfl,?_,?_⟩;(focus(repeat(first|exact Gc|apply bZ;rfl|apply bM;rfl|refine⟨.inr (by(repeat(refine⟨(by(exact az (F.un _ rfl) (F.sz _ rfl) rfl rfl rfl (by omega) (by omega) (by omega))),?_⟩));exact Gc),?_⟩|refine⟨.inl (by kernel_rfl),?_⟩)))
    repeat first|apply ae;rfl|apply aB;rfl;omega;omega
    obtain⟨j1,rfl⟩: ∃ j',j1=j'+1:=⟨j1-1,by omega⟩
    refine ihv _ _ _ j1 [] ⟨by omega,?_⟩ (by omega) ?_
    ·rw [← hv]
     exact(d7 (by omega) (by simpa [ltP] using h2)).symm
    ·(refine⟨(E0 rfl),rfl,(by repeat(first|exact Gc|refine⟨rfl,?_⟩|refine⟨cK (by(omega)),?_⟩)),⟨ai rfl,trivial⟩⟩)
   ·repeat apply aA;rfl
    refine ay ⟨by kernel_rfl,?_,?_⟩;(focus(repeat(first|exact Gc|apply bZ;rfl|apply bM;rfl|refine⟨.inr (by(repeat(refine⟨(by(exact az (F.un _ rfl) (F.sz _ rfl) rfl rfl rfl (by omega) (by omega) (by omega))),?_⟩));exact Gc),?_⟩|refine⟨.inl (by kernel_rfl),?_⟩)))
    repeat first|refine out _ _ _ j1 [] ⟨hjj,by rw [← hv];exact bI (.inr (by simpa [ltP] using h2))⟩ ?_;(exact Ga rfl rfl rfl ⟨ai rfl,trivial⟩)|apply bk;rfl
  ·repeat first|apply aA;rfl|refine b8 rfl rfl ?_
   refine ay ⟨by kernel_rfl,?_,?_⟩;(focus(repeat(first|exact Gc|apply ow;rfl|apply bM;rfl|refine⟨.inl rfl,?_⟩)))
   repeat first|refine out _ _ _ j1 [] ⟨hjj,by rw [← hv];exact bI (.inl (by omega))⟩ ?_;(exact Ga rfl rfl rfl ⟨ai rfl,trivial⟩)|apply bk;rfl
 rintro j2 ⟨hjj,hv⟩
 have e:=jL hu hv hii hjj
 repeat apply ae;rfl
 refine dS rfl rfl rfl rfl ?_ ?_
 all_goals intro h3
 ·rw [ho,Ez (by omega)] at e
  repeat apply ae;rfl
  rw [e]
  ((apply bv Tryz.func113 (congrArg Array.toList Tryz.results113));(focus(repeat(first|exact E3|apply E5 rfl)));refine⟨_,rfl,Ends.mk [] (E0 rfl) rfl rfl ?_⟩)
  exact⟨ai rfl,trivial⟩
 ·rw [ho,Ey (by omega)] at e
  repeat apply ae;rfl
  refine aS (by kernel_rfl) (by kernel_rfl) ?_
  repeat first|apply aA;rfl|refine aX rfl rfl rfl (F.ag _ rfl) (recP) rfl (by(omega)) (by(omega)) ?_|refine db (bS (F.sz _ rfl) rfl rfl rfl (recP) rfl (by first|omega|(simp only [D4,aq];omega)) (by first|omega|(simp only [D4,aq];omega))) rfl rfl ?_|refine an (q:=i2) rfl rfl rfl rfl (F.un _ rfl) (F.sz _ rfl) rfl (by omega) (by omega) (by omega) ?_|refine an (q:=j2) rfl rfl rfl rfl (F.un _ rfl) (F.sz _ rfl) rfl (by omega) (by omega) (by omega) ?_
  refine ay ⟨by kernel_rfl,?_,?_⟩;(focus(repeat(first|exact Gc|apply bZ;rfl|apply bM;rfl|refine⟨.inr (by(repeat(refine⟨(by(exact az (F.un _ rfl) (F.sz _ rfl) rfl rfl rfl (by omega) (by omega) (by omega))),?_⟩));exact Gc),?_⟩|refine⟨.inl (by kernel_rfl),?_⟩)))
  repeat first|apply ae;rfl|apply aB;rfl;omega;omega
  refine ih _ _ _ ((i2+1,j2-1),Sort.swp d1 i2 j2) [] ⟨by simp only;omega,by simp only;omega,by simp only;omega,by rw [aq];exact hd1,e.symm⟩ (by simp only;omega) ?_
  (refine⟨(E0 rfl),rfl,(by repeat(first|exact Gc|refine⟨rfl,?_⟩|refine⟨cK (by(simp only;omega)),?_⟩)),⟨ai rfl,trivial⟩⟩)
end
end Bn
end Go.Proofs.YtelnglhodnoclaaGreat
end
section
namespace Go.Proofs.YtelnglhodnoclaaGreat
namespace Bn
open Go Go.Sy
theorem mS{lt:El→El→Bool}{d:Array El}{a i j i2 j2:Nat}(hi:Sort.scanUp (fun x=>lt x d[a]!) d j i=i2)(hj:Sort.scanDown (fun x=> !lt x d[a]!) d i2 j=j2)(h1:i≤i2)(h2:j2≤j) :
 Sort.partLoop lt a i j d=if j2<i2 then(j2,d) else Sort.partLoop lt a (i2+1) (j2-1) (Sort.swp d i2 j2):=by
 conv=>lhs;unfold Sort.partLoop
 simp only [hi,hj]
 split
 ·rfl
 ·rw [dif_pos (by omega)]
theorem pq{lt:El→El→Bool}{d:Array El}{a b pv i2 j2:Nat}(hi:Sort.scanUp (fun x=>lt x (Sort.swp d a pv)[a]!) (Sort.swp d a pv) (b-1) (a+1)=i2)(hj:Sort.scanDown (fun x=> !lt x (Sort.swp d a pv)[a]!) (Sort.swp d a pv) i2 (b-1)=j2) :
 Sort.partition lt d a b pv=if j2<i2 then(j2,true,Sort.swp (Sort.swp d a pv) j2 a) else((Sort.partLoop lt a (i2+1) (j2-1) (Sort.swp (Sort.swp d a pv) i2 j2)).1,false,Sort.swp (Sort.partLoop lt a (i2+1) (j2-1) (Sort.swp (Sort.swp d a pv) i2 j2)).2 (Sort.partLoop lt a (i2+1) (j2-1) (Sort.swp (Sort.swp d a pv) i2 j2)).1 a):=by
 simp only [Sort.partition,hi,hj]
theorem mT(n a b pv:Nat)(d:Array El)(hn:n<4611686018427387904)(hd:d.size=n)(hap:a≤pv)(hpb:pv<b)(hb:b≤n) :
 Ctr Tryz.prog 114 [.slu 0 0 n,.sc (.int .i64 (a:Int)),.sc (.int .i64 (b:Int)),.sc (.int .i64 (pv:Int)),cmpF] [rowP n d] (fun c=>c=⟨.tup [.sc (.int .i64 ((Sort.partition ltP d a b pv).1:Int)),.sc (.bool (Sort.partition ltP d a b pv).2.1)],[some (rowP n (Sort.partition ltP d a b pv).2.2)]⟩):=by
 refine E2 Tryz.func114 rfl rfl ?_
 repeat apply ae;rfl
 refine aS (by kernel_rfl) (by kernel_rfl) ?_
 repeat first|apply aA;rfl|refine aX rfl rfl rfl (F.ag _ rfl) (recP) rfl (by(omega)) (by(omega)) ?_|refine db (bS (F.sz _ rfl) rfl rfl rfl (recP) rfl (by first|omega|(simp only [D4,aq];omega)) (by first|omega|(simp only [D4,aq];omega))) rfl rfl ?_|refine an (q:=a) rfl rfl rfl rfl (F.un _ rfl) (F.sz _ rfl) rfl (by omega) (by omega) (by omega) ?_|refine an (q:=pv) rfl rfl rfl rfl (F.un _ rfl) (F.sz _ rfl) rfl (by omega) (by omega) (by omega) ?_
 refine ay ⟨by kernel_rfl,?_,?_⟩;(focus(repeat(first|exact Gc|apply bZ;rfl|apply bM;rfl|refine⟨.inr (by(repeat(refine⟨(by(exact az (F.un _ rfl) (F.sz _ rfl) rfl rfl rfl (by omega) (by omega) (by omega))),?_⟩));exact Gc),?_⟩|refine⟨.inl (by kernel_rfl),?_⟩)))
 have e0:=pq (lt:=ltP) (d:=d) (a:=a) (b:=b) (pv:=pv) rfl rfl
 have hd1:(Sort.swp d a pv).size=n:=by rw [aq];exact hd
 generalize hsw:Sort.swp d a pv=d1 at e0 hd1
 have hsw':(d.setIfInBounds a d[pv]!).setIfInBounds pv d[a]! =d1:=hsw
 rw [hsw']
 repeat first|apply ae;rfl|apply aB;rfl;omega;omega
 refine cI 1 (fun x:Nat=> [(0,.slu 0 0 n),(1,.sc (.int .i64 (a:Int))),(4,cmpF),(12,.sc (.int .i64 (x:Int))),(13,.sc (.int .i64 ((b-1:Nat):Int)))]) (fun _=> [some (rowP n d1)]) (fun x=>a+1≤x∧x≤n∧Sort.scanUp (fun y=>ltP y d1[a]!) d1 (b-1) x=Sort.scanUp (fun y=>ltP y d1[a]!) d1 (b-1) (a+1)) (fun x=>n-x) (a+1) []
  1 (fun x:Nat=> [(0,.slu 0 0 n),(1,.sc (.int .i64 (a:Int))),(4,cmpF),(12,.sc (.int .i64 (x:Int))),(13,.sc (.int .i64 ((b-1:Nat):Int)))]) (fun _=> [some (rowP n d1)]) (fun x=>a+1≤x∧x≤n∧Sort.scanUp (fun y=>ltP y d1[a]!) d1 (b-1) (a+1)=x)
  (fun _=>rfl) (fun _=>rfl) ⟨Em _,by omega,rfl⟩ ?_ (fun _=>rfl) (fun _=>rfl) ?_ ?_
 ·(refine⟨(E0 rfl),rfl,(by repeat(first|exact Gc|refine⟨rfl,?_⟩|refine⟨cK (by(omega)),?_⟩)),⟨ai rfl,trivial⟩⟩)
 ·rintro i1 ⟨hii,hi1,hu⟩ ihu out
  repeat apply ae;rfl
  refine aS (by kernel_rfl) (by kernel_rfl) ?_
  repeat apply aA;rfl
  refine fx rfl rfl rfl rfl ?_ ?_
  all_goals intro h1
  ·repeat first|apply aA;rfl|refine aX rfl rfl rfl (F.ag _ rfl) (recP) rfl (by(omega)) (by(omega)) ?_|refine an (q:=a) rfl rfl rfl rfl (F.un _ rfl) (F.sz _ rfl) rfl (by omega) (by omega) (by omega) ?_|refine an (q:=i1) rfl rfl rfl rfl (F.un _ rfl) (F.sz _ rfl) rfl (by omega) (by omega) (by omega) ?_|refine bg rfl rfl rfl rfl (by kernel_rfl) rfl (Ctr.callV (cmp_spec d1[i1]! d1[a]!) [] rfl (E0 rfl) rfl trivial rfl) ?_
   refine bx rfl rfl rfl rfl ?_ ?_
   all_goals intro h2
   ·repeat apply aA;rfl
    refine ay ⟨by kernel_rfl,?_,?_⟩;(focus(repeat(first|exact Gc|apply bZ;rfl|apply bM;rfl|refine⟨.inr (by(repeat(refine⟨(by(exact az (F.un _ rfl) (F.sz _ rfl) rfl rfl rfl (by omega) (by omega) (by omega))),?_⟩));exact Gc),?_⟩|refine⟨.inl (by kernel_rfl),?_⟩)))
    repeat first|apply ae;rfl|apply aB;rfl;omega;omega
    refine ihu _ _ _ (i1+1) [] ⟨by omega,by omega,?_⟩ (by omega) ?_
    ·rw [← hu]
     exact(fR (by omega) (by simpa [ltP] using h2)).symm
    ·(exact Ga rfl rfl rfl ⟨ai rfl,trivial⟩)
   ·repeat apply aA;rfl
    refine ay ⟨by kernel_rfl,?_,?_⟩;(focus(repeat(first|exact Gc|apply bZ;rfl|apply bM;rfl|refine⟨.inr (by(repeat(refine⟨(by(exact az (F.un _ rfl) (F.sz _ rfl) rfl rfl rfl (by omega) (by omega) (by omega))),?_⟩));exact Gc),?_⟩|refine⟨.inl (by kernel_rfl),?_⟩)))
    repeat first|refine out _ _ _ i1 [] ⟨hii,hi1,by rw [← hu];exact bY (.inr (by simpa [ltP] using h2))⟩ ?_;(exact Ga rfl rfl rfl ⟨ai rfl,trivial⟩)|apply bk;rfl
  ·repeat first|apply aA;rfl|refine b8 rfl rfl ?_
   refine ay ⟨by kernel_rfl,?_,?_⟩;(focus(repeat(first|exact Gc|apply ow;rfl|apply bM;rfl|refine⟨.inl rfl,?_⟩)))
   repeat first|refine out _ _ _ i1 [] ⟨hii,hi1,by rw [← hu];exact bY (.inl (by omega))⟩ ?_;(exact Ga rfl rfl rfl ⟨ai rfl,trivial⟩)|apply bk;rfl
 rintro i2 ⟨hii,hi2,hu⟩
 rw [hu] at e0
 repeat apply ae;rfl
 refine cI 1 (fun x:Nat=> [(0,.slu 0 0 n),(1,.sc (.int .i64 (a:Int))),(4,cmpF),(12,.sc (.int .i64 (i2:Int))),(13,.sc (.int .i64 (x:Int)))]) (fun _=> [some (rowP n d1)]) (fun x=>x≤b-1∧Sort.scanDown (fun y=> !ltP y d1[a]!) d1 i2 x=Sort.scanDown (fun y=> !ltP y d1[a]!) d1 i2 (b-1)) (fun x=>x) (b-1) []
  1 (fun x:Nat=> [(0,.slu 0 0 n),(1,.sc (.int .i64 (a:Int))),(4,cmpF),(12,.sc (.int .i64 (i2:Int))),(13,.sc (.int .i64 (x:Int)))]) (fun _=> [some (rowP n d1)]) (fun x=>x≤b-1∧Sort.scanDown (fun y=> !ltP y d1[a]!) d1 i2 (b-1)=x)
  (fun _=>rfl) (fun _=>rfl) ⟨Em _,rfl⟩ ?_ (fun _=>rfl) (fun _=>rfl) ?_ ?_
 ·(exact Ga rfl rfl rfl ⟨ai rfl,trivial⟩)
 ·rintro j1 ⟨hjj,hv⟩ ihv out
  repeat apply ae;rfl
  refine aS (by kernel_rfl) (by kernel_rfl) ?_
  repeat apply aA;rfl
  refine fx rfl rfl rfl rfl ?_ ?_
  all_goals intro h1
  ·repeat first|apply aA;rfl|refine aX rfl rfl rfl (F.ag _ rfl) (recP) rfl (by(omega)) (by(omega)) ?_|refine an (q:=a) rfl rfl rfl rfl (F.un _ rfl) (F.sz _ rfl) rfl (by omega) (by omega) (by omega) ?_|refine an (q:=j1) rfl rfl rfl rfl (F.un _ rfl) (F.sz _ rfl) rfl (by omega) (by omega) (by omega) ?_|refine bg rfl rfl rfl rfl (by kernel_rfl) rfl (Ctr.callV (cmp_spec d1[j1]! d1[a]!) [] rfl (E0 rfl) rfl trivial rfl) ?_
   refine bx rfl rfl rfl rfl ?_ ?_
   all_goals intro h2
   ·repeat apply aA;rfl
    refine ay ⟨by kernel_rfl,?_,?_⟩;(focus(repeat(first|exact Gc|apply bZ;rfl|apply bM;rfl|refine⟨.inr (by(repeat(refine⟨(by(exact az (F.un _ rfl) (F.sz _ rfl) rfl rfl rfl (by omega) (by omega) (by omega))),?_⟩));exact Gc),?_⟩|refine⟨.inl (by kernel_rfl),?_⟩)))
    repeat first|refine out _ _ _ j1 [] ⟨hjj,by rw [← hv];exact bI (.inr (by simpa [ltP] using h2))⟩ ?_;(exact Ga rfl rfl rfl ⟨ai rfl,trivial⟩)|apply bk;rfl
   ·repeat apply aA;rfl
    refine ay ⟨by kernel_rfl,?_,?_⟩;(focus(repeat(first|exact Gc|apply bZ;rfl|apply bM;rfl|refine⟨.inr (by(repeat(refine⟨(by(exact az (F.un _ rfl) (F.sz _ rfl) rfl rfl rfl (by omega) (by omega) (by omega))),?_⟩));exact Gc),?_⟩|refine⟨.inl (by kernel_rfl),?_⟩)))
    repeat first|apply ae;rfl|apply aB;rfl;omega;omega
    obtain⟨j1,rfl⟩: ∃ j',j1=j'+1:=⟨j1-1,by omega⟩
    refine ihv _ _ _ j1 [] ⟨by omega,?_⟩ (by omega) ?_
    ·rw [← hv]
     exact(d7 (by omega) (by simpa [ltP] using h2)).symm
    ·(refine⟨(E0 rfl),rfl,(by repeat(first|exact Gc|refine⟨rfl,?_⟩|refine⟨cK (by(omega)),?_⟩)),⟨ai rfl,trivial⟩⟩)
  ·repeat first|apply aA;rfl|refine b8 rfl rfl ?_
   refine ay ⟨by kernel_rfl,?_,?_⟩;(focus(repeat(first|exact Gc|apply ow;rfl|apply bM;rfl|refine⟨.inl rfl,?_⟩)))
   repeat first|refine out _ _ _ j1 [] ⟨hjj,by rw [← hv];exact bI (.inl (by omega))⟩ ?_;(exact Ga rfl rfl rfl ⟨ai rfl,trivial⟩)|apply bk;rfl
 rintro j2 ⟨hjj,hv⟩
 rw [hv] at e0
 repeat apply ae;rfl
 refine dS rfl rfl rfl rfl ?_ ?_
 all_goals intro h3
 ·rw [Ez (by omega)] at e0
  rw [e0]
  repeat apply ae;rfl
  refine aS (by kernel_rfl) (by kernel_rfl) ?_
  repeat first|apply aA;rfl|refine aX rfl rfl rfl (F.ag _ rfl) (recP) rfl (by(omega)) (by(omega)) ?_|refine db (bS (F.sz _ rfl) rfl rfl rfl (recP) rfl (by first|omega|(simp only [D4,aq];omega)) (by first|omega|(simp only [D4,aq];omega))) rfl rfl ?_|refine an (q:=a) rfl rfl rfl rfl (F.un _ rfl) (F.sz _ rfl) rfl (by omega) (by omega) (by omega) ?_|refine an (q:=j2) rfl rfl rfl rfl (F.un _ rfl) (F.sz _ rfl) rfl (by omega) (by omega) (by omega) ?_
  refine ay ⟨by kernel_rfl,?_,?_⟩;(focus(repeat(first|exact Gc|apply bZ;rfl|apply bM;rfl|refine⟨.inr (by(repeat(refine⟨(by(exact az (F.un _ rfl) (F.sz _ rfl) rfl rfl rfl (by omega) (by omega) (by omega))),?_⟩));exact Gc),?_⟩|refine⟨.inl (by kernel_rfl),?_⟩)))
  repeat apply ae;rfl
  ((apply bv Tryz.func114 (congrArg Array.toList Tryz.results114));(focus(repeat(first|exact E3|apply E5 rfl)));refine⟨_,rfl,Ends.mk [] (E0 rfl) rfl rfl ?_⟩)
  exact⟨ai rfl,trivial⟩
 rw [Ey (by omega)] at e0
 rw [e0]
 repeat apply ae;rfl
 refine aS (by kernel_rfl) (by kernel_rfl) ?_
 repeat first|apply aA;rfl|refine aX rfl rfl rfl (F.ag _ rfl) (recP) rfl (by(omega)) (by(omega)) ?_|refine db (bS (F.sz _ rfl) rfl rfl rfl (recP) rfl (by first|omega|(simp only [D4,aq];omega)) (by first|omega|(simp only [D4,aq];omega))) rfl rfl ?_|refine an (q:=i2) rfl rfl rfl rfl (F.un _ rfl) (F.sz _ rfl) rfl (by omega) (by omega) (by omega) ?_|refine an (q:=j2) rfl rfl rfl rfl (F.un _ rfl) (F.sz _ rfl) rfl (by omega) (by omega) (by omega) ?_
 refine ay ⟨by kernel_rfl,?_,?_⟩;(focus(repeat(first|exact Gc|apply bZ;rfl|apply bM;rfl|refine⟨.inr (by(repeat(refine⟨(by(exact az (F.un _ rfl) (F.sz _ rfl) rfl rfl rfl (by omega) (by omega) (by omega))),?_⟩));exact Gc),?_⟩|refine⟨.inl (by kernel_rfl),?_⟩)))
 repeat first|apply ae;rfl|apply aB;rfl;omega;omega
 refine cI 1 (fun s:(Nat×Nat)×Array El=> [(0,.slu 0 0 n),(1,.sc (.int .i64 (a:Int))),(4,cmpF),(12,.sc (.int .i64 (s.1.1:Int))),(13,.sc (.int .i64 (s.1.2:Int)))]) (fun s=> [some (rowP n s.2)]) (fun s=>a<s.1.1∧s.1.1≤n∧s.1.2<n∧s.2.size=n∧Sort.partLoop ltP a s.1.1 s.1.2 s.2=Sort.partLoop ltP a (i2+1) (j2-1) (Sort.swp d1 i2 j2)) (fun s=>s.1.2+1-s.1.1) ((i2+1,j2-1),Sort.swp d1 i2 j2) []
  1 (fun s:Nat×Array El=> [(0,.slu 0 0 n),(1,.sc (.int .i64 (a:Int))),(4,cmpF),(13,.sc (.int .i64 (s.1:Int)))]) (fun s=> [some (rowP n s.2)]) (fun s=>s.1<n∧s.2.size=n∧Sort.partLoop ltP a (i2+1) (j2-1) (Sort.swp d1 i2 j2)=s)
  (fun _=>rfl) (fun _=>rfl) ⟨by simp only;omega,by simp only;omega,by simp only;omega,by rw [aq];exact hd1,rfl⟩ ?_ (fun _=>rfl) (fun _=>rfl) ?_ ?_
 ·(refine⟨(E0 rfl),rfl,(by repeat(first|exact Gc|refine⟨rfl,?_⟩|refine⟨cK (by(simp only;omega)),?_⟩)),⟨ai rfl,trivial⟩⟩)
 ·rintro⟨⟨i,j⟩,d3⟩ ⟨hai,hi,hj,hd3,ho⟩ ih outer
  simp only at hai hi hj hd3 ho ih ⊢
  repeat apply ae;rfl
  refine cI 1 (fun x:Nat=> [(0,.slu 0 0 n),(1,.sc (.int .i64 (a:Int))),(4,cmpF),(12,.sc (.int .i64 (x:Int))),(13,.sc (.int .i64 (j:Int)))]) (fun _=> [some (rowP n d3)]) (fun x=>i≤x∧x≤n∧Sort.scanUp (fun y=>ltP y d3[a]!) d3 j x=Sort.scanUp (fun y=>ltP y d3[a]!) d3 j i) (fun x=>n-x) i []
   1 (fun x:Nat=> [(0,.slu 0 0 n),(1,.sc (.int .i64 (a:Int))),(4,cmpF),(12,.sc (.int .i64 (x:Int))),(13,.sc (.int .i64 (j:Int)))]) (fun _=> [some (rowP n d3)]) (fun x=>i≤x∧x≤n∧Sort.scanUp (fun y=>ltP y d3[a]!) d3 j i=x)
   (fun _=>rfl) (fun _=>rfl) ⟨Em _,hi,rfl⟩ ?_ (fun _=>rfl) (fun _=>rfl) ?_ ?_
  ·(exact Ga rfl rfl rfl ⟨ai rfl,trivial⟩)
  ·rintro i1 ⟨hii,hi1,hu⟩ ihu out
   repeat apply ae;rfl
   refine aS (by kernel_rfl) (by kernel_rfl) ?_
   repeat apply aA;rfl
   refine fx rfl rfl rfl rfl ?_ ?_
   all_goals intro h1
   ·repeat first|apply aA;rfl|refine aX rfl rfl rfl (F.ag _ rfl) (recP) rfl (by(omega)) (by(omega)) ?_|refine an (q:=a) rfl rfl rfl rfl (F.un _ rfl) (F.sz _ rfl) rfl (by omega) (by omega) (by omega) ?_|refine an (q:=i1) rfl rfl rfl rfl (F.un _ rfl) (F.sz _ rfl) rfl (by omega) (by omega) (by omega) ?_|refine bg rfl rfl rfl rfl (by kernel_rfl) rfl (Ctr.callV (cmp_spec d3[i1]! d3[a]!) [] rfl (E0 rfl) rfl trivial rfl) ?_
    refine bx rfl rfl rfl rfl ?_ ?_
    all_goals intro h2
    ·repeat apply aA;rfl
     refine ay ⟨by kernel_rfl,?_,?_⟩;(focus(repeat(first|exact Gc|apply bZ;rfl|apply bM;rfl|refine⟨.inr (by(repeat(refine⟨(by(exact az (F.un _ rfl) (F.sz _ rfl) rfl rfl rfl (by omega) (by omega) (by omega))),?_⟩));exact Gc),?_⟩|refine⟨.inl (by kernel_rfl),?_⟩)))
     repeat first|apply ae;rfl|apply aB;rfl;omega;omega
     refine ihu _ _ _ (i1+1) [] ⟨by omega,by omega,?_⟩ (by omega) ?_
     ·rw [← hu]
      exact(fR (by omega) (by simpa [ltP] using h2)).symm
     ·(exact Ga rfl rfl rfl ⟨ai rfl,trivial⟩)
    ·repeat apply aA;rfl
     refine ay ⟨by kernel_rfl,?_,?_⟩;(focus(repeat(first|exact Gc|apply bZ;rfl|apply bM;rfl|refine⟨.inr (by(repeat(refine⟨(by(exact az (F.un _ rfl) (F.sz _ rfl) rfl rfl rfl (by omega) (by omega) (by omega))),?_⟩));exact Gc),?_⟩|refine⟨.inl (by kernel_rfl),?_⟩)))
     repeat first|refine out _ _ _ i1 [] ⟨hii,hi1,by rw [← hu];exact bY (.inr (by simpa [ltP] using h2))⟩ ?_;(exact Ga rfl rfl rfl ⟨ai rfl,trivial⟩)|apply bk;rfl
   ·repeat first|apply aA;rfl|refine b8 rfl rfl ?_
    refine ay ⟨by kernel_rfl,?_,?_⟩;(focus(repeat(first|exact Gc|apply ow;rfl|apply bM;rfl|refine⟨.inl rfl,?_⟩)))
    repeat first|refine out _ _ _ i1 [] ⟨hii,hi1,by rw [← hu];exact bY (.inl (by omega))⟩ ?_;(exact Ga rfl rfl rfl ⟨ai rfl,trivial⟩)|apply bk;rfl
  rintro i3 ⟨hii3,hi3,hu3⟩
  repeat apply ae;rfl
  refine cI 1 (fun x:Nat=> [(0,.slu 0 0 n),(1,.sc (.int .i64 (a:Int))),(4,cmpF),(12,.sc (.int .i64 (i3:Int))),(13,.sc (.int .i64 (x:Int)))]) (fun _=> [some (rowP n d3)]) (fun x=>x≤j∧Sort.scanDown (fun y=> !ltP y d3[a]!) d3 i3 x=Sort.scanDown (fun y=> !ltP y d3[a]!) d3 i3 (j)) (fun x=>x) (j) []
   1 (fun x:Nat=> [(0,.slu 0 0 n),(1,.sc (.int .i64 (a:Int))),(4,cmpF),(12,.sc (.int .i64 (i3:Int))),(13,.sc (.int .i64 (x:Int)))]) (fun _=> [some (rowP n d3)]) (fun x=>x≤j∧Sort.scanDown (fun y=> !ltP y d3[a]!) d3 i3 (j)=x)
   (fun _=>rfl) (fun _=>rfl) ⟨Em _,rfl⟩ ?_ (fun _=>rfl) (fun _=>rfl) ?_ ?_
  ·(exact Ga rfl rfl rfl ⟨ai rfl,trivial⟩)
  ·rintro j1 ⟨hjj,hv⟩ ihv out
   repeat apply ae;rfl
   refine aS (by kernel_rfl) (by kernel_rfl) ?_
   repeat apply aA;rfl
   refine fx rfl rfl rfl rfl ?_ ?_
   all_goals intro h1
   ·repeat first|apply aA;rfl|refine aX rfl rfl rfl (F.ag _ rfl) (recP) rfl (by(omega)) (by(omega)) ?_|refine an (q:=a) rfl rfl rfl rfl (F.un _ rfl) (F.sz _ rfl) rfl (by omega) (by omega) (by omega) ?_|refine an (q:=j1) rfl rfl rfl rfl (F.un _ rfl) (F.sz _ rfl) rfl (by omega) (by omega) (by omega) ?_|refine bg rfl rfl rfl rfl (by kernel_rfl) rfl (Ctr.callV (cmp_spec d3[j1]! d3[a]!) [] rfl (E0 rfl) rfl trivial rfl) ?_
    refine bx rfl rfl rfl rfl ?_ ?_
    all_goals intro h2
    ·repeat apply aA;rfl
     refine ay ⟨by kernel_rfl,?_,?_⟩;(focus(repeat(first|exact Gc|apply bZ;rfl|apply bM;rfl|refine⟨.inr (by(repeat(refine⟨(by(exact az (F.un _ rfl) (F.sz _ rfl) rfl rfl rfl (by omega) (by omega) (by omega))),?_⟩));exact Gc),?_⟩|refine⟨.inl (by kernel_rfl),?_⟩)))
     repeat first|refine out _ _ _ j1 [] ⟨hjj,by rw [← hv];exact bI (.inr (by simpa [ltP] using h2))⟩ ?_;(exact Ga rfl rfl rfl ⟨ai rfl,trivial⟩)|apply bk;rfl
    ·repeat apply aA;rfl
     refine ay ⟨by kernel_rfl,?_,?_⟩;(focus(repeat(first|exact Gc|apply bZ;rfl|apply bM;rfl|refine⟨.inr (by(repeat(refine⟨(by(exact az (F.un _ rfl) (F.sz _ rfl) rfl rfl rfl (by omega) (by omega) (by omega))),?_⟩));exact Gc),?_⟩|refine⟨.inl (by kernel_rfl),?_⟩)))
     repeat first|apply ae;rfl|apply aB;rfl;omega;omega
     obtain⟨j1,rfl⟩: ∃ j',j1=j'+1:=⟨j1-1,by omega⟩
     refine ihv _ _ _ j1 [] ⟨by omega,?_⟩ (by omega) ?_
     ·rw [← hv]
      exact(d7 (by omega) (by simpa [ltP] using h2)).symm
     ·(refine⟨(E0 rfl),rfl,(by repeat(first|exact Gc|refine⟨rfl,?_⟩|refine⟨cK (by(omega)),?_⟩)),⟨ai rfl,trivial⟩⟩)
   ·repeat first|apply aA;rfl|refine b8 rfl rfl ?_
    refine ay ⟨by kernel_rfl,?_,?_⟩;(focus(repeat(first|exact Gc|apply ow;rfl|apply bM;rfl|refine⟨.inl rfl,?_⟩)))
    repeat first|refine out _ _ _ j1 [] ⟨hjj,by rw [← hv];exact bI (.inl (by omega))⟩ ?_;(exact Ga rfl rfl rfl ⟨ai rfl,trivial⟩)|apply bk;rfl
  rintro j3 ⟨hjj3,hv3⟩
  have e:=mS hu3 hv3 hii3 hjj3
  repeat apply ae;rfl
  refine dS rfl rfl rfl rfl ?_ ?_
  all_goals intro h3
  ·rw [ho,Ez (by omega)] at e
   repeat first|refine outer _ _ _ (j3,d3) [] ⟨by simp only;omega,hd3,e⟩ ?_;(exact Ga rfl rfl rfl ⟨ai rfl,trivial⟩)|apply bk;rfl
  ·rw [ho,Ey (by omega)] at e
   repeat apply ae;rfl
   refine aS (by kernel_rfl) (by kernel_rfl) ?_
   repeat first|apply aA;rfl|refine aX rfl rfl rfl (F.ag _ rfl) (recP) rfl (by(omega)) (by(omega)) ?_|refine db (bS (F.sz _ rfl) rfl rfl rfl (recP) rfl (by first|omega|(simp only [D4,aq];omega)) (by first|omega|(simp only [D4,aq];omega))) rfl rfl ?_|refine an (q:=i3) rfl rfl rfl rfl (F.un _ rfl) (F.sz _ rfl) rfl (by omega) (by omega) (by omega) ?_|refine an (q:=j3) rfl rfl rfl rfl (F.un _ rfl) (F.sz _ rfl) rfl (by omega) (by omega) (by omega) ?_
   refine ay ⟨by kernel_rfl,?_,?_⟩;(focus(repeat(first|exact Gc|apply bZ;rfl|apply bM;rfl|refine⟨.inr (by(repeat(refine⟨(by(exact az (F.un _ rfl) (F.sz _ rfl) rfl rfl rfl (by omega) (by omega) (by omega))),?_⟩));exact Gc),?_⟩|refine⟨.inl (by kernel_rfl),?_⟩)))
   repeat first|apply ae;rfl|apply aB;rfl;omega;omega
   refine ih _ _ _ ((i3+1,j3-1),Sort.swp d3 i3 j3) [] ⟨by simp only;omega,by simp only;omega,by simp only;omega,by rw [aq];exact hd3,e.symm⟩ (by simp only;omega) ?_
   (refine⟨(E0 rfl),rfl,(by repeat(first|exact Gc|refine⟨rfl,?_⟩|refine⟨cK (by(simp only;omega)),?_⟩)),⟨ai rfl,trivial⟩⟩)
 rintro⟨j3,d3⟩ ⟨hj3,hd3,e⟩
 simp only at hj3 hd3 e ⊢
 rw [e]
 repeat apply ae;rfl
 refine aS (by kernel_rfl) (by kernel_rfl) ?_
 repeat first|apply aA;rfl|refine aX rfl rfl rfl (F.ag _ rfl) (recP) rfl (by(omega)) (by(omega)) ?_|refine db (bS (F.sz _ rfl) rfl rfl rfl (recP) rfl (by first|omega|(simp only [D4,aq];omega)) (by first|omega|(simp only [D4,aq];omega))) rfl rfl ?_|refine an (q:=a) rfl rfl rfl rfl (F.un _ rfl) (F.sz _ rfl) rfl (by omega) (by omega) (by omega) ?_|refine an (q:=j3) rfl rfl rfl rfl (F.un _ rfl) (F.sz _ rfl) rfl (by omega) (by omega) (by omega) ?_
 refine ay ⟨by kernel_rfl,?_,?_⟩;(focus(repeat(first|exact Gc|apply bZ;rfl|apply bM;rfl|refine⟨.inr (by(repeat(refine⟨(by(exact az (F.un _ rfl) (F.sz _ rfl) rfl rfl rfl (by omega) (by omega) (by omega))),?_⟩));exact Gc),?_⟩|refine⟨.inl (by kernel_rfl),?_⟩)))
 repeat apply ae;rfl
 ((apply bv Tryz.func114 (congrArg Array.toList Tryz.results114));(focus(repeat(first|exact E3|apply E5 rfl)));refine⟨_,rfl,Ends.mk [] (E0 rfl) rfl rfl ?_⟩)
 exact⟨ai rfl,trivial⟩
end Bn
end Go.Proofs.YtelnglhodnoclaaGreat
end
section
namespace Go.Proofs.YtelnglhodnoclaaGreat
namespace Bn
open Go Go.Sy
section
variable {a b i i1 s:Nat}{d:Array El}{lt:El→El→Bool}
theorem gQ(h:i<b)(hp:lt d[i]! d[i-1]! =false):Sort.scanSorted lt d b i=Sort.scanSorted lt d b (i+1):=by
 conv=>lhs;rw [Sort.scanSorted,Ez (by simp [h,hp])]
theorem dv(h:b≤i∨lt d[i]! d[i-1]! =true):Sort.scanSorted lt d b i=i:=by
 rw [Sort.scanSorted,Ey]
 simp only [Ek,EZ,Bool.not_eq_true']
 rintro⟨h1,h2⟩
 rcases h with h|h
 ·omega
 ·rw [h] at h2;cases h2
theorem gz{j:Nat}(h:j<b)(hp:lt d[j]! d[j-1]! =true):Sort.shiftUp lt b j d=Sort.shiftUp lt b (j+1) (Sort.swp d j (j-1)):=by
 conv=>lhs;rw [Sort.shiftUp,Ez h,Ey (by simp [hp])]
theorem cL{j:Nat}(h:b≤j∨lt d[j]! d[j-1]! =false):Sort.shiftUp lt b j d=d:=by
 rw [Sort.shiftUp]
 split
 ·rename_i h1
  rw [Ez]
  rcases h with h|h
  ·omega
  ·simp [h]
 ·rfl
theorem mN{d2 d3:Array El}(hi:Sort.scanSorted lt d b i=i1)(h1:i1≠b)(h2: ¬ b-a<50)
 (e2:(if i1-a≥2 then Sort.shiftDown lt (i1-1) (Sort.swp d i1 (i1-1)) else Sort.swp d i1 (i1-1))=d2) (e3:(if b-i1≥2 then Sort.shiftUp lt b (i1+1) d2 else d2)=d3):Sort.partialIns lt a b (s+1) i d=Sort.partialIns lt a b s i1 d3:=by
 rw [Sort.partialIns]
 simp only [hi,Ey h1,Ey h2]
 rw [e2,e3]
theorem mM(hi:Sort.scanSorted lt d b i=i1)(h1:i1=b):Sort.partialIns lt a b (s+1) i d=(d,true):=by
 rw [Sort.partialIns]
 simp only [hi,Ez h1]
theorem lh(hi:Sort.scanSorted lt d b i=i1)(h1:i1≠b)(h2:b-a<50):Sort.partialIns lt a b (s+1) i d=(d,false):=by
 rw [Sort.partialIns]
 simp only [hi,Ey h1,Ez h2]
theorem mO(n a b:Nat)(d:Array El)(hn:n<4611686018427387904)(hd:d.size=n)(hab:a<b)(hb:b≤n) :
 Ctr Tryz.prog 112 [.slu 0 0 n,.sc (.int .i64 (a:Int)),.sc (.int .i64 (b:Int)),cmpF] [rowP n d] (fun c=>c=⟨.sc (.bool (Sort.partialInsertionSort ltP d a b).2),[some (rowP n (Sort.partialInsertionSort ltP d a b).1)]⟩):=by
 refine E2 Tryz.func112 rfl rfl ?_
 repeat first|apply ae;rfl|apply aB;rfl;omega;omega
 refine cO 1 (fun s:(Nat×Nat)×Array El=> [(0,.slu 0 0 n),(1,.sc (.int .i64 (a:Int))),(2,.sc (.int .i64 (b:Int))),(3,cmpF),(9,.sc (.int .i64 (s.1.2:Int))),(10,.sc (.int .i64 ((5-s.1.1:Nat):Int)))]) (fun s=> [some (rowP n s.2)]) (fun s=>s.1.1≤5∧a+1≤s.1.2∧s.1.2≤b∧s.2.size=n∧Sort.partialIns ltP a b s.1.1 s.1.2 s.2=Sort.partialInsertionSort ltP d a b) (fun s=>s.1.1) ((5,a+1),d) []
  (fun _=>rfl) ⟨Em _,Em _,hab,hd,rfl⟩ ?_ (fun _=>rfl) (fun _=>rfl) ?_
 ·(exact Ga rfl rfl rfl ⟨ai rfl,trivial⟩)
 rintro⟨⟨s,i⟩,d0⟩ ⟨hs,hai,hi,hd0,ho⟩ ih
 simp only at hs hai hi hd0 ho ih ⊢
 repeat apply ae;rfl
 refine bm rfl rfl rfl rfl ?_ ?_
 all_goals intro h0
 ·obtain⟨s,rfl⟩: ∃ s',s=s'+1:=⟨s-1,by omega⟩
  repeat apply ae;rfl
  refine cI 1 (fun x:Nat=> [(0,.slu 0 0 n),(1,.sc (.int .i64 (a:Int))),(2,.sc (.int .i64 (b:Int))),(3,cmpF),(9,.sc (.int .i64 (x:Int))),(10,.sc (.int .i64 ((5-(s+1):Nat):Int)))]) (fun _=> [some (rowP n d0)]) (fun x=>a+1≤x∧x≤b∧Sort.scanSorted ltP d0 b x=Sort.scanSorted ltP d0 b i) (fun x=>b-x) i []
   1 (fun x:Nat=> [(0,.slu 0 0 n),(1,.sc (.int .i64 (a:Int))),(2,.sc (.int .i64 (b:Int))),(3,cmpF),(9,.sc (.int .i64 (x:Int))),(10,.sc (.int .i64 ((5-(s+1):Nat):Int)))]) (fun _=> [some (rowP n d0)]) (fun x=>a+1≤x∧x≤b∧Sort.scanSorted ltP d0 b i=x)
   (fun _=>rfl) (fun _=>rfl) ⟨hai,hi,rfl⟩ ?_ (fun _=>rfl) (fun _=>rfl) ?_ ?_
  ·(exact Ga rfl rfl rfl ⟨ai rfl,trivial⟩)
  ·rintro i1 ⟨hai1,hi1,hu⟩ ihu out
   repeat apply ae;rfl
   refine aS (by kernel_rfl) (by kernel_rfl) ?_
   repeat apply aA;rfl
   refine bx rfl rfl rfl rfl ?_ ?_
   all_goals intro h1
   ·repeat first|apply aA;rfl|refine bq (ak rfl rfl (.inr (.inl ⟨rfl,(D3 _ ⟨(by omega),(by omega)⟩).symm⟩))) rfl rfl rfl ?_|refine aX rfl rfl rfl (F.ag _ rfl) (recP) rfl (by(omega)) (by(omega)) ?_|refine an (q:=i1) rfl rfl rfl rfl (F.un _ rfl) (F.sz _ rfl) rfl (by omega) (by omega) (by omega) ?_|refine an (q:=i1-1) rfl rfl rfl rfl (F.un _ rfl) (F.sz _ rfl) rfl (by omega) (by omega) (by omega) ?_|refine bg rfl rfl rfl rfl (by kernel_rfl) rfl (Ctr.callV (cmp_spec d0[i1]! d0[i1-1]!) [] rfl (E0 rfl) rfl trivial rfl) ?_
    refine bx rfl rfl rfl rfl ?_ ?_
    all_goals intro h2
    ·repeat apply aA;rfl
     refine ay ⟨by kernel_rfl,?_,?_⟩;(focus(repeat(first|exact Gc|apply bZ;rfl|apply bM;rfl|refine⟨.inr (by(repeat(refine⟨(by first|exact az (F.un _ rfl) (F.sz _ rfl) rfl rfl rfl (by omega) (by omega) (by omega)|exact ak rfl rfl (.inr (.inl ⟨rfl,(D3 _ ⟨by omega,by omega⟩).symm⟩))),?_⟩));exact Gc),?_⟩|refine⟨.inl (by kernel_rfl),?_⟩)))
     repeat first|refine out _ _ _ i1 [] ⟨hai1,hi1,by rw [← hu];exact dv (.inr (by simpa [ltP] using h2))⟩ ?_;(exact Ga rfl rfl rfl ⟨ai rfl,trivial⟩)|apply bk;rfl
    ·repeat apply aA;rfl
     refine ay ⟨by kernel_rfl,?_,?_⟩;(focus(repeat(first|exact Gc|apply bZ;rfl|apply bM;rfl|refine⟨.inr (by(repeat(refine⟨(by first|exact az (F.un _ rfl) (F.sz _ rfl) rfl rfl rfl (by omega) (by omega) (by omega)|exact ak rfl rfl (.inr (.inl ⟨rfl,(D3 _ ⟨by omega,by omega⟩).symm⟩))),?_⟩));exact Gc),?_⟩|refine⟨.inl (by kernel_rfl),?_⟩)))
     repeat first|apply ae;rfl|apply aB;rfl;omega;omega
     refine ihu _ _ _ (i1+1) [] ⟨by omega,by omega,?_⟩ (by omega) ?_
     ·rw [← hu]
      exact(gQ (by omega) (by simpa [ltP] using h2)).symm
     ·(exact Ga rfl rfl rfl ⟨ai rfl,trivial⟩)
   ·repeat first|apply aA;rfl|refine b8 rfl rfl ?_
    refine ay ⟨by kernel_rfl,?_,?_⟩;(focus(repeat(first|exact Gc|apply ow;rfl|apply bM;rfl|refine⟨.inl rfl,?_⟩)))
    repeat first|refine out _ _ _ i1 [] ⟨hai1,hi1,by rw [← hu];exact dv (.inl (by omega))⟩ ?_;(exact Ga rfl rfl rfl ⟨ai rfl,trivial⟩)|apply bk;rfl
  rintro i1 ⟨hai1,hi1,hu⟩
  repeat apply ae;rfl
  refine cE rfl rfl rfl rfl ?_ ?_
  all_goals intro h1
  ·rw [mM hu (by omega)] at ho
   repeat apply ae;rfl
   rw [← ho]
   ((apply bv Tryz.func112 (congrArg Array.toList Tryz.results112));(focus(repeat(first|exact E3|apply E5 rfl)));refine⟨_,rfl,Ends.mk [] (E0 rfl) rfl rfl ?_⟩)
   exact⟨ai rfl,trivial⟩
  repeat first|apply ae;rfl|apply aB;rfl;omega;omega
  refine bm rfl rfl rfl rfl ?_ ?_
  all_goals intro h2
  ·rw [lh hu (by omega) (by omega)] at ho
   repeat apply ae;rfl
   rw [← ho]
   ((apply bv Tryz.func112 (congrArg Array.toList Tryz.results112));(focus(repeat(first|exact E3|apply E5 rfl)));refine⟨_,rfl,Ends.mk [] (E0 rfl) rfl rfl ?_⟩)
   exact⟨ai rfl,trivial⟩
  repeat apply ae;rfl
  refine aS (by kernel_rfl) (by kernel_rfl) ?_
  repeat first|apply aA;rfl|refine bq (ak rfl rfl (.inr (.inl ⟨rfl,(D3 _ ⟨(by omega),(by omega)⟩).symm⟩))) rfl rfl rfl ?_|refine aX rfl rfl rfl (F.ag _ rfl) (recP) rfl (by(omega)) (by(omega)) ?_|refine db (bS (F.sz _ rfl) rfl rfl rfl (recP) rfl (by first|omega|(simp only [D4,aq];omega)) (by first|omega|(simp only [D4,aq];omega))) rfl rfl ?_|refine an (q:=i1) rfl rfl rfl rfl (F.un _ rfl) (F.sz _ rfl) rfl (by omega) (by omega) (by omega) ?_|refine an (q:=i1-1) rfl rfl rfl rfl (F.un _ rfl) (F.sz _ rfl) rfl (by omega) (by omega) (by omega) ?_
  refine ay ⟨by kernel_rfl,?_,?_⟩;(focus(repeat(first|exact Gc|apply bZ;rfl|apply bM;rfl|refine⟨.inr (by(repeat(refine⟨(by first|exact az (F.un _ rfl) (F.sz _ rfl) rfl rfl rfl (by omega) (by omega) (by omega)|exact ak rfl rfl (.inr (.inl ⟨rfl,(D3 _ ⟨by omega,by omega⟩).symm⟩))),?_⟩));exact Gc),?_⟩|refine⟨.inl (by kernel_rfl),?_⟩)))
  have hd1:(Sort.swp d0 i1 (i1-1)).size=n:=by rw [aq];exact hd0
  have e2: ∃ d2,(if i1-a≥2 then Sort.shiftDown ltP (i1-1) (Sort.swp d0 i1 (i1-1)) else Sort.swp d0 i1 (i1-1))=d2:=⟨_,rfl⟩
  obtain⟨d2,e2⟩:=e2
  have hps:=fun d3 e3=>mN (s:=s) (d3:=d3) hu (by omega) (by omega) e2 e3
  generalize hsw:Sort.swp d0 i1 (i1-1)=d1 at e2 hd1
  have hsw':(d0.setIfInBounds i1 d0[i1-1]!).setIfInBounds (i1-1) d0[i1]! =d1:=hsw
  rw [hsw']
  repeat first|apply ae;rfl|apply aB;rfl;omega;omega
  refine cD rfl rfl rfl rfl ?_ ?_
  all_goals intro h3
  ·rw [Ez (by omega)] at e2
   repeat first|apply ae;rfl|apply aB;rfl;omega;omega
   refine cI 1 (fun s1:Nat×Array El=> [(0,.slu 0 0 n),(1,.sc (.int .i64 (a:Int))),(2,.sc (.int .i64 (b:Int))),(3,cmpF),(9,.sc (.int .i64 (i1:Int))),(10,.sc (.int .i64 ((5-(s+1):Nat):Int))),(11,.sc (.int .i64 (s1.1:Int)))]) (fun s1=> [some (rowP n s1.2)]) (fun s1=>s1.1≤i1-1∧s1.2.size=n∧Sort.shiftDown ltP s1.1 s1.2=d2) (fun s1=>s1.1) (i1-1,d1) []
    1 (fun d':Array El=> [(0,.slu 0 0 n),(1,.sc (.int .i64 (a:Int))),(2,.sc (.int .i64 (b:Int))),(3,cmpF),(9,.sc (.int .i64 (i1:Int))),(10,.sc (.int .i64 ((5-(s+1):Nat):Int)))]) (fun d'=> [some (rowP n d')]) (fun d'=>d'.size=n∧d'=d2)
    (fun _=>rfl) (fun _=>rfl) ⟨Em _,hd1,e2⟩ ?_ (fun _=>rfl) (fun _=>rfl) ?_ ?_
   ·(refine⟨(E0 rfl),rfl,(by repeat(first|exact Gc|refine⟨rfl,?_⟩|refine⟨cK (by(omega)),?_⟩)),⟨ai rfl,trivial⟩⟩)
   ·rintro⟨j,d'⟩ ⟨hj,hd',hsd⟩ ihd out
    simp only at hj hd' hsd ihd ⊢
    repeat apply ae;rfl
    refine cD rfl rfl rfl rfl ?_ ?_
    all_goals intro h4
    ·obtain⟨j,rfl⟩: ∃ j',j=j'+1:=⟨j-1,by omega⟩
     repeat apply ae;rfl
     refine aS (by kernel_rfl) (by kernel_rfl) ?_
     repeat first|apply aA;rfl|refine bq (ak rfl rfl (.inr (.inl ⟨rfl,(D3 _ ⟨(by omega),(by omega)⟩).symm⟩))) rfl rfl rfl ?_|refine aX rfl rfl rfl (F.ag _ rfl) (recP) rfl (by(omega)) (by(omega)) ?_|refine an (q:=j+1) rfl rfl rfl rfl (F.un _ rfl) (F.sz _ rfl) rfl (by omega) (by omega) (by omega) ?_|refine an (q:=j) rfl rfl rfl rfl (F.un _ rfl) (F.sz _ rfl) rfl (by omega) (by omega) (by omega) ?_|refine bg rfl rfl rfl rfl (by kernel_rfl) rfl (Ctr.callV (cmp_spec d'[j+1]! d'[j]!) [] rfl (E0 rfl) rfl trivial rfl) ?_
     refine bx rfl rfl rfl rfl ?_ ?_
     all_goals intro h5
     ·repeat apply aA;rfl
      refine ay ⟨by kernel_rfl,?_,?_⟩;(focus(repeat(first|exact Gc|apply bZ;rfl|apply bM;rfl|refine⟨.inr (by(repeat(refine⟨(by first|exact az (F.un _ rfl) (F.sz _ rfl) rfl rfl rfl (by omega) (by omega) (by omega)|exact ak rfl rfl (.inr (.inl ⟨rfl,(D3 _ ⟨by omega,by omega⟩).symm⟩))),?_⟩));exact Gc),?_⟩|refine⟨.inl (by kernel_rfl),?_⟩)))
      repeat apply ae;rfl
      refine aS (by kernel_rfl) (by kernel_rfl) ?_
      repeat first|apply aA;rfl|refine bq (ak rfl rfl (.inr (.inl ⟨rfl,(D3 _ ⟨(by omega),(by omega)⟩).symm⟩))) rfl rfl rfl ?_|refine aX rfl rfl rfl (F.ag _ rfl) (recP) rfl (by(omega)) (by(omega)) ?_|refine db (bS (F.sz _ rfl) rfl rfl rfl (recP) rfl (by first|omega|(simp only [D4,aq];omega)) (by first|omega|(simp only [D4,aq];omega))) rfl rfl ?_|refine an (q:=j+1) rfl rfl rfl rfl (F.un _ rfl) (F.sz _ rfl) rfl (by omega) (by omega) (by omega) ?_|refine an (q:=j) rfl rfl rfl rfl (F.un _ rfl) (F.sz _ rfl) rfl (by omega) (by omega) (by omega) ?_
      refine ay ⟨by kernel_rfl,?_,?_⟩;(focus(repeat(first|exact Gc|apply bZ;rfl|apply bM;rfl|refine⟨.inr (by(repeat(refine⟨(by first|exact az (F.un _ rfl) (F.sz _ rfl) rfl rfl rfl (by omega) (by omega) (by omega)|exact ak rfl rfl (.inr (.inl ⟨rfl,(D3 _ ⟨by omega,by omega⟩).symm⟩))),?_⟩));exact Gc),?_⟩|refine⟨.inl (by kernel_rfl),?_⟩)))
      repeat first|apply ae;rfl|apply aB;rfl;omega;omega
      refine ihd _ _ _ (j,Sort.swp d' (j+1) j) [] ⟨by simp only;omega,by rw [aq];exact hd',?_⟩ (by simp only;omega) ?_
      ·rw [← hsd]
       conv=>rhs;rw [Sort.shiftDown,Ey (by simpa [ltP] using h5)]
      ·(refine⟨(E0 rfl),rfl,(by repeat(first|exact Gc|refine⟨rfl,?_⟩|refine⟨cK (by(omega)),?_⟩)),⟨ai rfl,trivial⟩⟩)
     ·repeat apply aA;rfl
      refine ay ⟨by kernel_rfl,?_,?_⟩;(focus(repeat(first|exact Gc|apply bZ;rfl|apply bM;rfl|refine⟨.inr (by(repeat(refine⟨(by first|exact az (F.un _ rfl) (F.sz _ rfl) rfl rfl rfl (by omega) (by omega) (by omega)|exact ak rfl rfl (.inr (.inl ⟨rfl,(D3 _ ⟨by omega,by omega⟩).symm⟩))),?_⟩));exact Gc),?_⟩|refine⟨.inl (by kernel_rfl),?_⟩)))
      repeat first|refine out _ _ _ d' [] ⟨hd',by rw [← hsd,Sort.shiftDown,Ez (by simpa [ltP] using h5)]⟩ ?_;(exact Ga rfl rfl rfl ⟨ai rfl,trivial⟩)|apply bk;rfl
    ·obtain rfl:j=0:=by omega
     repeat first|refine out _ _ _ d' [] ⟨hd',hsd⟩ ?_;(exact Ga rfl rfl rfl ⟨ai rfl,trivial⟩)|apply bk;rfl
   rintro d2' ⟨hd2,rfl⟩
   repeat first|apply ae;rfl|apply aB;rfl;omega;omega
   refine cD rfl rfl rfl rfl ?_ ?_
   all_goals intro h6
   ·repeat first|apply ae;rfl|apply aB;rfl;omega;omega
    refine cI 1 (fun s1:Nat×Array El=> [(0,.slu 0 0 n),(1,.sc (.int .i64 (a:Int))),(2,.sc (.int .i64 (b:Int))),(3,cmpF),(9,.sc (.int .i64 (i1:Int))),(10,.sc (.int .i64 ((5-(s+1):Nat):Int))),(12,.sc (.int .i64 (s1.1:Int)))]) (fun s1=> [some (rowP n s1.2)]) (fun s1=>i1+1≤s1.1∧s1.1≤b∧s1.2.size=n∧Sort.shiftUp ltP b s1.1 s1.2=Sort.shiftUp ltP b (i1+1) d2') (fun s1=>b-s1.1) (i1+1,d2') []
     1 (fun d':Array El=> [(0,.slu 0 0 n),(1,.sc (.int .i64 (a:Int))),(2,.sc (.int .i64 (b:Int))),(3,cmpF),(9,.sc (.int .i64 (i1:Int))),(10,.sc (.int .i64 ((5-(s+1):Nat):Int)))]) (fun d'=> [some (rowP n d')]) (fun d'=>d'.size=n∧Sort.shiftUp ltP b (i1+1) d2'=d')
     (fun _=>rfl) (fun _=>rfl) ⟨Em _,by simp only;omega,hd2,rfl⟩ ?_ (fun _=>rfl) (fun _=>rfl) ?_ ?_
    ·(exact Ga rfl rfl rfl ⟨ai rfl,trivial⟩)
    ·rintro⟨j,d'⟩ ⟨hj,hjb,hd',hsd⟩ ihd out
     simp only at hj hjb hd' hsd ihd ⊢
     repeat apply ae;rfl
     refine bm rfl rfl rfl rfl ?_ ?_
     all_goals intro h4
     ·repeat apply ae;rfl
      refine aS (by kernel_rfl) (by kernel_rfl) ?_
      repeat first|apply aA;rfl|refine bq (ak rfl rfl (.inr (.inl ⟨rfl,(D3 _ ⟨(by omega),(by omega)⟩).symm⟩))) rfl rfl rfl ?_|refine aX rfl rfl rfl (F.ag _ rfl) (recP) rfl (by(omega)) (by(omega)) ?_|refine an (q:=j) rfl rfl rfl rfl (F.un _ rfl) (F.sz _ rfl) rfl (by omega) (by omega) (by omega) ?_|refine an (q:=j-1) rfl rfl rfl rfl (F.un _ rfl) (F.sz _ rfl) rfl (by omega) (by omega) (by omega) ?_|refine bg rfl rfl rfl rfl (by kernel_rfl) rfl (Ctr.callV (cmp_spec d'[j]! d'[j-1]!) [] rfl (E0 rfl) rfl trivial rfl) ?_
      refine bx rfl rfl rfl rfl ?_ ?_
      all_goals intro h5
      ·repeat apply aA;rfl
       refine ay ⟨by kernel_rfl,?_,?_⟩;(focus(repeat(first|exact Gc|apply bZ;rfl|apply bM;rfl|refine⟨.inr (by(repeat(refine⟨(by first|exact az (F.un _ rfl) (F.sz _ rfl) rfl rfl rfl (by omega) (by omega) (by omega)|exact ak rfl rfl (.inr (.inl ⟨rfl,(D3 _ ⟨by omega,by omega⟩).symm⟩))),?_⟩));exact Gc),?_⟩|refine⟨.inl (by kernel_rfl),?_⟩)))
       repeat apply ae;rfl
       refine aS (by kernel_rfl) (by kernel_rfl) ?_
       repeat first|apply aA;rfl|refine bq (ak rfl rfl (.inr (.inl ⟨rfl,(D3 _ ⟨(by omega),(by omega)⟩).symm⟩))) rfl rfl rfl ?_|refine aX rfl rfl rfl (F.ag _ rfl) (recP) rfl (by(omega)) (by(omega)) ?_|refine db (bS (F.sz _ rfl) rfl rfl rfl (recP) rfl (by first|omega|(simp only [D4,aq];omega)) (by first|omega|(simp only [D4,aq];omega))) rfl rfl ?_|refine an (q:=j) rfl rfl rfl rfl (F.un _ rfl) (F.sz _ rfl) rfl (by omega) (by omega) (by omega) ?_|refine an (q:=j-1) rfl rfl rfl rfl (F.un _ rfl) (F.sz _ rfl) rfl (by omega) (by omega) (by omega) ?_
       refine ay ⟨by kernel_rfl,?_,?_⟩;(focus(repeat(first|exact Gc|apply bZ;rfl|apply bM;rfl|refine⟨.inr (by(repeat(refine⟨(by first|exact az (F.un _ rfl) (F.sz _ rfl) rfl rfl rfl (by omega) (by omega) (by omega)|exact ak rfl rfl (.inr (.inl ⟨rfl,(D3 _ ⟨by omega,by omega⟩).symm⟩))),?_⟩));exact Gc),?_⟩|refine⟨.inl (by kernel_rfl),?_⟩)))
       repeat first|apply ae;rfl|apply aB;rfl;omega;omega
       refine ihd _ _ _ (j+1,Sort.swp d' j (j-1)) [] ⟨by simp only;omega,by simp only;omega,by rw [aq];exact hd',?_⟩ (by simp only;omega) ?_
       ·rw [← hsd]
        exact(gz (by omega) (by simpa [ltP] using h5)).symm
       ·(exact Ga rfl rfl rfl ⟨ai rfl,trivial⟩)
      ·repeat apply aA;rfl
       refine ay ⟨by kernel_rfl,?_,?_⟩;(focus(repeat(first|exact Gc|apply bZ;rfl|apply bM;rfl|refine⟨.inr (by(repeat(refine⟨(by first|exact az (F.un _ rfl) (F.sz _ rfl) rfl rfl rfl (by omega) (by omega) (by omega)|exact ak rfl rfl (.inr (.inl ⟨rfl,(D3 _ ⟨by omega,by omega⟩).symm⟩))),?_⟩));exact Gc),?_⟩|refine⟨.inl (by kernel_rfl),?_⟩)))
       repeat first|refine out _ _ _ d' [] ⟨hd',by rw [← hsd];exact cL (.inr (by simpa [ltP] using h5))⟩ ?_;(exact Ga rfl rfl rfl ⟨ai rfl,trivial⟩)|apply bk;rfl
     ·repeat first|refine out _ _ _ d' [] ⟨hd',by rw [← hsd];exact cL (.inl (by omega))⟩ ?_;(exact Ga rfl rfl rfl ⟨ai rfl,trivial⟩)|apply bk;rfl
    rintro d3 ⟨hd3,e3⟩
    repeat first|apply ae;rfl|apply aB;rfl;omega;omega
    refine ih _ _ _ ((s,i1),d3) [] ⟨by simp only;omega,hai1,hi1,hd3,by rw [← ho];exact(hps d3 (by rw [Ez (by omega)];exact e3)).symm⟩ (by simp only;omega) ?_
    (refine⟨(E0 rfl),rfl,(by repeat(first|exact Gc|refine⟨rfl,?_⟩|refine⟨cK (by(simp only;omega)),?_⟩)),⟨ai rfl,trivial⟩⟩)
   ·repeat first|apply ae;rfl|apply aB;rfl;omega;omega
    refine ih _ _ _ ((s,i1),d2') [] ⟨by simp only;omega,hai1,hi1,hd2,by rw [← ho];exact(hps d2' (by rw [Ey (by omega)])).symm⟩ (by simp only;omega) ?_
    (refine⟨(E0 rfl),rfl,(by repeat(first|exact Gc|refine⟨rfl,?_⟩|refine⟨cK (by(simp only;omega)),?_⟩)),⟨ai rfl,trivial⟩⟩)
  ·rw [Ey (by omega)] at e2
   subst e2
   have hd2:=hd1
   repeat first|apply ae;rfl|apply aB;rfl;omega;omega
   refine cD rfl rfl rfl rfl ?_ ?_
   all_goals intro h6
   ·repeat first|apply ae;rfl|apply aB;rfl;omega;omega
    refine cI 1 (fun s1:Nat×Array El=> [(0,.slu 0 0 n),(1,.sc (.int .i64 (a:Int))),(2,.sc (.int .i64 (b:Int))),(3,cmpF),(9,.sc (.int .i64 (i1:Int))),(10,.sc (.int .i64 ((5-(s+1):Nat):Int))),(12,.sc (.int .i64 (s1.1:Int)))]) (fun s1=> [some (rowP n s1.2)]) (fun s1=>i1+1≤s1.1∧s1.1≤b∧s1.2.size=n∧Sort.shiftUp ltP b s1.1 s1.2=Sort.shiftUp ltP b (i1+1) d1) (fun s1=>b-s1.1) (i1+1,d1) []
     1 (fun d':Array El=> [(0,.slu 0 0 n),(1,.sc (.int .i64 (a:Int))),(2,.sc (.int .i64 (b:Int))),(3,cmpF),(9,.sc (.int .i64 (i1:Int))),(10,.sc (.int .i64 ((5-(s+1):Nat):Int)))]) (fun d'=> [some (rowP n d')]) (fun d'=>d'.size=n∧Sort.shiftUp ltP b (i1+1) d1=d')
     (fun _=>rfl) (fun _=>rfl) ⟨Em _,by simp only;omega,hd2,rfl⟩ ?_ (fun _=>rfl) (fun _=>rfl) ?_ ?_
    ·(exact Ga rfl rfl rfl ⟨ai rfl,trivial⟩)
    ·rintro⟨j,d'⟩ ⟨hj,hjb,hd',hsd⟩ ihd out
     simp only at hj hjb hd' hsd ihd ⊢
     repeat apply ae;rfl
     refine bm rfl rfl rfl rfl ?_ ?_
     all_goals intro h4
     ·repeat apply ae;rfl
      refine aS (by kernel_rfl) (by kernel_rfl) ?_
      repeat first|apply aA;rfl|refine bq (ak rfl rfl (.inr (.inl ⟨rfl,(D3 _ ⟨(by omega),(by omega)⟩).symm⟩))) rfl rfl rfl ?_|refine aX rfl rfl rfl (F.ag _ rfl) (recP) rfl (by(omega)) (by(omega)) ?_|refine an (q:=j) rfl rfl rfl rfl (F.un _ rfl) (F.sz _ rfl) rfl (by omega) (by omega) (by omega) ?_|refine an (q:=j-1) rfl rfl rfl rfl (F.un _ rfl) (F.sz _ rfl) rfl (by omega) (by omega) (by omega) ?_|refine bg rfl rfl rfl rfl (by kernel_rfl) rfl (Ctr.callV (cmp_spec d'[j]! d'[j-1]!) [] rfl (E0 rfl) rfl trivial rfl) ?_
      refine bx rfl rfl rfl rfl ?_ ?_
      all_goals intro h5
      ·repeat apply aA;rfl
       refine ay ⟨by kernel_rfl,?_,?_⟩;(focus(repeat(first|exact Gc|apply bZ;rfl|apply bM;rfl|refine⟨.inr (by(repeat(refine⟨(by first|exact az (F.un _ rfl) (F.sz _ rfl) rfl rfl rfl (by omega) (by omega) (by omega)|exact ak rfl rfl (.inr (.inl ⟨rfl,(D3 _ ⟨by omega,by omega⟩).symm⟩))),?_⟩));exact Gc),?_⟩|refine⟨.inl (by kernel_rfl),?_⟩)))
       repeat apply ae;rfl
       refine aS (by kernel_rfl) (by kernel_rfl) ?_
       repeat first|apply aA;rfl|refine bq (ak rfl rfl (.inr (.inl ⟨rfl,(D3 _ ⟨(by omega),(by omega)⟩).symm⟩))) rfl rfl rfl ?_|refine aX rfl rfl rfl (F.ag _ rfl) (recP) rfl (by(omega)) (by(omega)) ?_|refine db (bS (F.sz _ rfl) rfl rfl rfl (recP) rfl (by first|omega|(simp only [D4,aq];omega)) (by first|omega|(simp only [D4,aq];omega))) rfl rfl ?_|refine an (q:=j) rfl rfl rfl rfl (F.un _ rfl) (F.sz _ rfl) rfl (by omega) (by omega) (by omega) ?_|refine an (q:=j-1) rfl rfl rfl rfl (F.un _ rfl) (F.sz _ rfl) rfl (by omega) (by omega) (by omega) ?_
       refine ay ⟨by kernel_rfl,?_,?_⟩;(focus(repeat(first|exact Gc|apply bZ;rfl|apply bM;rfl|refine⟨.inr (by(repeat(refine⟨(by first|exact az (F.un _ rfl) (F.sz _ rfl) rfl rfl rfl (by omega) (by omega) (by omega)|exact ak rfl rfl (.inr (.inl ⟨rfl,(D3 _ ⟨by omega,by omega⟩).symm⟩))),?_⟩));exact Gc),?_⟩|refine⟨.inl (by kernel_rfl),?_⟩)))
       repeat first|apply ae;rfl|apply aB;rfl;omega;omega
       refine ihd _ _ _ (j+1,Sort.swp d' j (j-1)) [] ⟨by simp only;omega,by simp only;omega,by rw [aq];exact hd',?_⟩ (by simp only;omega) ?_
       ·rw [← hsd]
        exact(gz (by omega) (by simpa [ltP] using h5)).symm
       ·(exact Ga rfl rfl rfl ⟨ai rfl,trivial⟩)
      ·repeat apply aA;rfl
       refine ay ⟨by kernel_rfl,?_,?_⟩;(focus(repeat(first|exact Gc|apply bZ;rfl|apply bM;rfl|refine⟨.inr (by(repeat(refine⟨(by first|exact az (F.un _ rfl) (F.sz _ rfl) rfl rfl rfl (by omega) (by omega) (by omega)|exact ak rfl rfl (.inr (.inl ⟨rfl,(D3 _ ⟨by omega,by omega⟩).symm⟩))),?_⟩));exact Gc),?_⟩|refine⟨.inl (by kernel_rfl),?_⟩)))
       repeat first|refine out _ _ _ d' [] ⟨hd',by rw [← hsd];exact cL (.inr (by simpa [ltP] using h5))⟩ ?_;(exact Ga rfl rfl rfl ⟨ai rfl,trivial⟩)|apply bk;rfl
     ·repeat first|refine out _ _ _ d' [] ⟨hd',by rw [← hsd];exact cL (.inl (by omega))⟩ ?_;(exact Ga rfl rfl rfl ⟨ai rfl,trivial⟩)|apply bk;rfl
    rintro d3 ⟨hd3,e3⟩
    repeat first|apply ae;rfl|apply aB;rfl;omega;omega
    refine ih _ _ _ ((s,i1),d3) [] ⟨by simp only;omega,hai1,hi1,hd3,by rw [← ho];exact(hps d3 (by rw [Ez (by omega)];exact e3)).symm⟩ (by simp only;omega) ?_
    (refine⟨(E0 rfl),rfl,(by repeat(first|exact Gc|refine⟨rfl,?_⟩|refine⟨cK (by(simp only;omega)),?_⟩)),⟨ai rfl,trivial⟩⟩)
   ·repeat first|apply ae;rfl|apply aB;rfl;omega;omega
    refine ih _ _ _ ((s,i1),d1) [] ⟨by simp only;omega,hai1,hi1,hd2,by rw [← ho];exact(hps d1 (by rw [Ey (by omega)])).symm⟩ (by simp only;omega) ?_
    (refine⟨(E0 rfl),rfl,(by repeat(first|exact Gc|refine⟨rfl,?_⟩|refine⟨cK (by(omega)),?_⟩)),⟨ai rfl,trivial⟩⟩)
 ·obtain rfl:s=0:=by omega
  repeat apply ae;rfl
  rw [← ho]
  ((apply bv Tryz.func112 (congrArg Array.toList Tryz.results112));(focus(repeat(first|exact E3|apply E5 rfl)));refine⟨_,rfl,Ends.mk [] (E0 rfl) rfl rfl ?_⟩)
  exact⟨ai rfl,trivial⟩
end
end Bn
end Go.Proofs.YtelnglhodnoclaaGreat
end
section
namespace Go.Proofs.YtelnglhodnoclaaGreat
namespace Bn
open Go Go.Sy
def brk(a len m:Nat):Nat→UInt64×Array El→Nat→UInt64×Array El
 | 0,st,_=>st
 | k+1,st,i=>brk a len m k (Sort.breakStep a len m st i) (i+1)
theorem pV(n a b:Nat)(d:Array El)(hn:n<65536)(hd:d.size=n)(hab:a≤b)(hb:b≤n) :
 Ctr Tryz.prog 109 [.slu 0 0 n,.sc (.int .i64 (a:Int)),.sc (.int .i64 (b:Int)),cmpF] [rowP n d] (fun c=>c=⟨.tup [],[some (rowP n (Sort.breakPatterns d a b))]⟩):=by
 have eba:(b:Int)-(a:Int)=((b-a:Nat):Int):=by omega
 refine E2 Tryz.func109 rfl rfl ?_
 repeat first|apply ae;rfl|apply aB;rfl;omega;omega
 rw [eba]
 have ebp:Sort.breakPatterns d a b=Sort.breakPatterns d a b:=rfl
 conv at ebp=>rhs;unfold Sort.breakPatterns
 simp only at ebp
 refine cD rfl rfl rfl rfl ?_ ?_
 all_goals intro h1
 ·rw [Ez (by omega)] at ebp
  have ep:Sort.bitsLen (b-a)≤16:=lS (by omega)
  have eq1:(1:Nat) <<< Sort.bitsLen (b-a)=2 ^ Sort.bitsLen (b-a):=by rw [Nat.shiftLeft_eq,Nat.one_mul]
  have eq2:2 ^ Sort.bitsLen (b-a)≤2*(b-a):=Sort.two_pow_bitsLen_le (by omega)
  have eq3:0<2 ^ Sort.bitsLen (b-a):=Nat.pow_pos (by decide)
  repeat first|apply ae;rfl|apply aR;rfl;(focus((repeat(exact ah));done));rfl|apply aB;rfl;omega;omega|refine bN (ii rfl rfl (by omega) (dR (by omega) (by omega) (by omega))) rfl rfl rfl ?_|refine bN (cG (F.un _ rfl) (F.un _ rfl) rfl (show _=((b-a:Nat):Int)from EX _ ⟨by omega,by omega⟩)) rfl rfl rfl ?_|refine ey (qE (b-a) (by omega)) [] rfl rfl rfl (by kernel_rfl) rfl (E0 rfl) rfl trivial ?_
  rw [eq1] at ebp
  generalize hm:2 ^ Sort.bitsLen (b-a)=m at ebp eq2 eq3
  have e4:(a:Int)+((b-a:Nat):Int) / 4*2-1=((a+(b-a) / 4*2-1:Nat):Int):=by omega
  rw [e4]
  have hbase:a+(b-a) / 4*2-1+3≤b:=by omega
  have hlt:0<a+(b-a) / 4*2:=by omega
  generalize hbs:a+(b-a) / 4*2-1=base at ebp hbase
  have ht:Sort.breakPatterns d a b=(brk a (b-a) m 3 (UInt64.ofNat (b-a),d) base).2:=ebp
  refine cO 2 (fun s:(Nat×UInt64)×Array El=> [(0,.slu 0 0 n),(1,.sc (.int .i64 (a:Int))),(8,.sc (.int .i64 ((b-a:Nat):Int))),(9,.ptr 1 0),(10,.sc (.int .u64 (m:Int))),(11,.sc (.int .i64 ((base+3-s.1.1:Nat):Int)))]) (fun s=> [some (rowP n s.2),some (xsO s.1.2.toNat)]) (fun s=>s.1.1≤3∧s.2.size=n∧(brk a (b-a) m s.1.1 (s.1.2,s.2) (base+3-s.1.1)).2=Sort.breakPatterns d a b) (fun s=>s.1.1) ((3,UInt64.ofNat (b-a)),d) [1]
   (fun _=>rfl) ⟨Em _,hd,by rw [ht];rfl⟩ ?_ (fun _=>rfl) (fun _=>rfl) ?_
  ·have e0:(UInt64.ofNat (b-a)).toNat=b-a:=by rw [UInt64.toNat_ofNat',Nat.mod_eq_of_lt (by omega)]
   rw [e0]
   (refine⟨(E0 rfl),rfl,(by repeat(first|exact Gc|refine⟨rfl,?_⟩)),(by repeat(first|exact Gc|refine⟨ai rfl,?_⟩|refine⟨cm rfl,?_⟩))⟩)
  rintro⟨⟨s,r⟩,d1⟩ ⟨hs,hd1,ho⟩ ih
  simp only at hs hd1 ho ih ⊢
  repeat first|apply ae;rfl|apply aB;rfl;omega;omega|refine bN (ii rfl rfl (by omega) (dR (by omega) (by omega) (by omega))) rfl rfl rfl ?_
  refine my rfl rfl rfl rfl ?_ ?_
  all_goals intro h2
  ·obtain⟨s,rfl⟩: ∃ s',s=s'+1:=⟨s-1,by omega⟩
   have hr:=UInt64.toNat_lt r
   have hnx:=Sort.xorNextN_lt r.toNat hr
   have hxn:=Sort.xorNext_toNat r
   have hst:Sort.breakStep a (b-a) m (r,d1) (base+3-(s+1))=(Sort.xorNext r,Sort.swp d1 (base+3-(s+1)) (a+(if(Sort.xorNext r).toNat &&& (m-1)≥b-a then((Sort.xorNext r).toNat &&& (m-1))-(b-a) else(Sort.xorNext r).toNat &&& (m-1)))):=rfl
   have ho':(brk a (b-a) m s (Sort.breakStep a (b-a) m (r,d1) (base+3-(s+1))) (base+3-s)).2=Sort.breakPatterns d a b:=by
    rw [← ho,brk,show base+3-(s+1)+1=base+3-s by omega]
   rw [hst] at ho'
   rw [hxn] at ho'
   have hmw:IntKind.u64.wrap ((m:Int)-1)=((m-1:Nat):Int):=by
    rw [EX _ ⟨by omega,by omega⟩]
    omega
   have hand:=andU (a:=Sort.xorNextN r.toNat) (b:=m-1) hnx (by omega)
   have hle:Sort.xorNextN r.toNat &&& (m-1)≤m-1:=Nat.and_le_right
   generalize hoo:Sort.xorNextN r.toNat &&& (m-1)=o at hand hle ho'
   repeat first|apply ae;rfl|refine aP rfl rfl rfl (by kernel_rfl) (Ctr.bF (qL r.toNat hr) [1] rfl (E0 rfl) rfl (by repeat(first|exact Gc|refine⟨cm rfl,?_⟩)) rfl (by repeat(first|exact Gc|refine⟨bD (fun _=>rfl),?_⟩)) (fun _=>rfl) rfl rfl) ?_
   refine bN (ak rfl rfl (.inr (.inl ⟨rfl,rfl⟩))) rfl rfl rfl ?_
   rw [hmw]
   refine bN (kZ rfl rfl (.inl rfl) hand) rfl rfl rfl ?_
   repeat first|apply ae;rfl|refine bN (cG (F.un _ rfl) (F.un _ rfl) rfl (show _=(o:Int)from D3 _ ⟨by omega,by omega⟩)) rfl rfl rfl ?_
   refine cD rfl rfl rfl rfl ?_ ?_
   all_goals intro h3
   ·rw [Ez (by omega)] at ho'
    repeat first|apply ae;rfl|apply aB;rfl;omega;omega
    refine aS (by kernel_rfl) (by kernel_rfl) ?_
    repeat first|apply aA;rfl|refine bq (ak rfl rfl (.inl ⟨rfl,(D3 _ ⟨(by omega),(by omega)⟩).symm⟩)) rfl rfl rfl ?_|refine aX rfl rfl rfl (F.ag _ rfl) (recP) rfl (by(omega)) (by(omega)) ?_|refine db (bS (F.sz _ rfl) rfl rfl rfl (recP) rfl (by first|omega|(simp only [D4,aq];omega)) (by first|omega|(simp only [D4,aq];omega))) rfl rfl ?_|refine an (q:=base+3-(s+1)) rfl rfl rfl rfl (F.un _ rfl) (F.sz _ rfl) rfl (by omega) (by omega) (by omega) ?_|refine an (q:=a+(o-(b-a))) rfl rfl rfl rfl (F.un _ rfl) (F.sz _ rfl) rfl (by omega) (by omega) (by omega) ?_
    refine ay ⟨by kernel_rfl,?_,?_⟩;(focus(repeat(first|exact Gc|apply bZ;rfl|apply bM;rfl|refine⟨.inr (by(repeat(refine⟨(by first|exact az (F.un _ rfl) (F.sz _ rfl) rfl rfl rfl (by omega) (by omega) (by omega)|exact ak rfl rfl (.inl ⟨rfl,(D3 _ ⟨by omega,by omega⟩).symm⟩)),?_⟩));exact Gc),?_⟩|refine⟨.inl (by kernel_rfl),?_⟩)))
    repeat first|apply ae;rfl|apply aB;rfl;omega;omega
    refine ih _ _ _ ((s,Sort.xorNext r),Sort.swp d1 (base+3-(s+1)) (a+(o-(b-a)))) [1] ⟨by simp only;omega,by rw [aq];exact hd1,ho'⟩ (by simp only;omega) ?_
    rw [hxn]
    (refine⟨(E0 rfl),rfl,(by repeat(first|exact Gc|refine⟨rfl,?_⟩|refine⟨cK (by(simp only;omega)),?_⟩)),(by repeat(first|exact Gc|refine⟨ai rfl,?_⟩|refine⟨cm rfl,?_⟩))⟩)
   ·rw [Ey (by omega)] at ho'
    repeat apply ae;rfl
    refine aS (by kernel_rfl) (by kernel_rfl) ?_
    repeat first|apply aA;rfl|refine bq (ak rfl rfl (.inl ⟨rfl,(D3 _ ⟨(by omega),(by omega)⟩).symm⟩)) rfl rfl rfl ?_|refine aX rfl rfl rfl (F.ag _ rfl) (recP) rfl (by(omega)) (by(omega)) ?_|refine db (bS (F.sz _ rfl) rfl rfl rfl (recP) rfl (by first|omega|(simp only [D4,aq];omega)) (by first|omega|(simp only [D4,aq];omega))) rfl rfl ?_|refine an (q:=base+3-(s+1)) rfl rfl rfl rfl (F.un _ rfl) (F.sz _ rfl) rfl (by omega) (by omega) (by omega) ?_|refine an (q:=a+o) rfl rfl rfl rfl (F.un _ rfl) (F.sz _ rfl) rfl (by omega) (by omega) (by omega) ?_
    refine ay ⟨by kernel_rfl,?_,?_⟩;(focus(repeat(first|exact Gc|apply bZ;rfl|apply bM;rfl|refine⟨.inr (by(repeat(refine⟨(by first|exact az (F.un _ rfl) (F.sz _ rfl) rfl rfl rfl (by omega) (by omega) (by omega)|exact ak rfl rfl (.inl ⟨rfl,(D3 _ ⟨by omega,by omega⟩).symm⟩)),?_⟩));exact Gc),?_⟩|refine⟨.inl (by kernel_rfl),?_⟩)))
    repeat first|apply ae;rfl|apply aB;rfl;omega;omega
    refine ih _ _ _ ((s,Sort.xorNext r),Sort.swp d1 (base+3-(s+1)) (a+o)) [1] ⟨by simp only;omega,by rw [aq];exact hd1,ho'⟩ (by simp only;omega) ?_
    rw [hxn]
    (refine⟨(E0 rfl),rfl,(by repeat(first|exact Gc|refine⟨rfl,?_⟩|refine⟨cK (by(simp only;omega)),?_⟩)),(by repeat(first|exact Gc|refine⟨ai rfl,?_⟩|refine⟨cm rfl,?_⟩))⟩)
  ·obtain rfl:s=0:=by omega
   repeat apply ae;rfl
   ((apply jF Tryz.func109 (congrArg Array.toList Tryz.results109));(focus(repeat(exact E3)));refine⟨_,rfl,Ends.mk [] (E0 rfl) rfl rfl ?_⟩)
   rw [← ho]
   exact⟨ai rfl,trivial⟩
 ·rw [Ey (by omega)] at ebp
  repeat apply ae;rfl
  ((apply jF Tryz.func109 (congrArg Array.toList Tryz.results109));(focus(repeat(exact E3)));refine⟨_,rfl,Ends.mk [] (E0 rfl) rfl rfl ?_⟩)
  rw [ebp]
  exact⟨ai rfl,trivial⟩
end Bn
end Go.Proofs.YtelnglhodnoclaaGreat
end
section
namespace Go.Proofs.YtelnglhodnoclaaGreat
namespace Bn
open Go Go.Sy
section
variable {a b:Nat}{d d3 d4:ArP}{limit mid pivot:Nat}{wb wp:Bool}{lt:El→El→Bool}
theorem sB(h:b-a≤12):Sort.pdq lt d a b limit wb wp=Sort.insertionSort lt d a b:=by rw [Sort.pdq,Ez h]
theorem pp(h: ¬ b-a≤12)(h0:limit=0):Sort.pdq lt d a b limit wb wp=Sort.heapSort lt d a b:=by rw [Sort.pdq,Ey h,Ez h0]
def dA(lt:El→El→Bool)(d3:ArP)(a b pivot limit:Nat)(wb wp:Bool):ArP:=
 if a>0 && !lt d3[a-1]! d3[pivot]! then
  match Sort.partitionEqual lt d3 a b pivot with
  | (mid,d4)=>if _h:a<mid∧mid≤b then Sort.pdq lt d4 mid b limit wb wp else d4
 else
  match Sort.partition lt d3 a b pivot with
  | (mid,alreadyPartitioned,d4)=>
    if _h:a≤mid∧mid<b then
     if mid-a<b-mid then
      Sort.pdq lt (Sort.pdq lt d4 a mid limit true true) (mid+1) b limit (decide (mid-a≥(b-a) / 8)) alreadyPartitioned
     else
      Sort.pdq lt (Sort.pdq lt d4 (mid+1) b limit true true) a mid limit (decide (b-mid≥(b-a) / 8)) alreadyPartitioned
    else d4
theorem wV{d1 d2:ArP}{limit1:Nat}{c:Nat×Sort.Hint}{hint:Sort.Hint}{pi:ArP×Bool}(h: ¬ b-a≤12)(h0: ¬ limit=0)
 (e1:d1=(if(!wb)=true then Sort.breakPatterns d a b else d)) (el:limit1=(if(!wb)=true then limit-1 else limit)) (ec:Sort.choosePivot lt d1 a b=c)
 (e2:d2=(if c.2 = .decreasing then Sort.reverseRange d1 a b else d1)) (ep:pivot=(if c.2 = .decreasing then(b-1)-(c.1-a) else c.1)) (eh:hint=(if c.2 = .decreasing then .increasing else c.2))
 (ei:(if(wb && wp && decide (hint = .increasing))=true then Sort.partialInsertionSort lt d2 a b else(d2,false))=pi) :
 Sort.pdq lt d a b limit wb wp=if pi.2=true then pi.1 else dA lt pi.1 a b pivot limit1 wb wp:=by
 subst e1 el ec e2 ep eh ei
 rw [Sort.pdq,Ey h,Ey h0]
 rfl
theorem sh(h:(decide (a>0) && !lt d3[a-1]! d3[pivot]!)=true)(hx:Sort.partitionEqual lt d3 a b pivot=(mid,d4))(hm:a<mid∧mid≤b) :
 dA lt d3 a b pivot limit wb wp=Sort.pdq lt d4 mid b limit wb wp:=by
 unfold dA
 rw [Ez h,hx]
 simp only [dif_pos hm]
theorem mC{ap:Bool}(h: ¬ (decide (a>0) && !lt d3[a-1]! d3[pivot]!)=true)(hx:Sort.partition lt d3 a b pivot=(mid,ap,d4))(hm:a≤mid∧mid<b)(hl:mid-a<b-mid) :
 dA lt d3 a b pivot limit wb wp=Sort.pdq lt (Sort.pdq lt d4 a mid limit true true) (mid+1) b limit (decide (mid-a≥(b-a) / 8)) ap:=by
 unfold dA
 rw [Ey h,hx]
 simp only [dif_pos hm,Ez hl]
theorem kV{ap:Bool}(h: ¬ (decide (a>0) && !lt d3[a-1]! d3[pivot]!)=true)(hx:Sort.partition lt d3 a b pivot=(mid,ap,d4))(hm:a≤mid∧mid<b)(hl: ¬ mid-a<b-mid) :
 dA lt d3 a b pivot limit wb wp=Sort.pdq lt (Sort.pdq lt d4 (mid+1) b limit true true) a mid limit (decide (b-mid≥(b-a) / 8)) ap:=by
 unfold dA
 rw [Ey h,hx]
 simp only [dif_pos hm,Ey hl]
theorem po(n:Nat)(hn:n<65536): ∀ (k a b limit:Nat) (d:ArP),b-a=k→a≤b→b≤n→d.size=n→limit<4611686018427387904→Sort.Below ltP a b d →
 Ctr Tryz.prog 97 [.slu 0 0 n,.sc (.int .i64 (a:Int)),.sc (.int .i64 (b:Int)),.sc (.int .i64 (limit:Int)),cmpF] [rowP n d] (fun c=>c=⟨.tup [],[some (rowP n (Sort.pdq ltP d a b limit true true))]⟩):=by
 intro k
 induction k using Nat.strongRecOn with
 | _ k ihk=>
 intro a b limit d hk hab hb hd hl hB
 refine E2 Tryz.func97 rfl rfl ?_
 repeat apply ae;rfl
 refine cO 1 (fun s:((Nat×Nat)×Nat)×((Bool×Bool)×ArP)=> [(0,.slu 0 0 n),(1,.sc (.int .i64 (s.1.1.1:Int))),(2,.sc (.int .i64 (s.1.1.2:Int))),(3,.sc (.int .i64 (s.1.2:Int))),(4,cmpF),(10,.sc (.bool s.2.1.1)),(11,.sc (.bool s.2.1.2))]) (fun s=> [some (rowP n s.2.2)])
  (fun s=>s.1.1.1≤s.1.1.2∧s.1.1.2≤n∧s.1.1.2-s.1.1.1≤k∧s.2.2.size=n∧s.1.2<4611686018427387904∧Sort.Below ltP s.1.1.1 s.1.1.2 s.2.2∧Sort.pdq ltP s.2.2 s.1.1.1 s.1.1.2 s.1.2 s.2.1.1 s.2.1.2=Sort.pdq ltP d a b limit true true) (fun s=>s.1.1.2-s.1.1.1) (((a,b),limit),((true,true),d)) []
  (fun _=>rfl) ⟨hab,hb,Nat.le_of_eq hk,hd,hl,hB,rfl⟩ ?_ (fun _=>rfl) (fun _=>rfl) ?_
 ·(exact Ga rfl rfl rfl ⟨ai rfl,trivial⟩)
 rintro⟨⟨⟨a1,b1⟩,l1⟩,⟨⟨wb,wp⟩,d1⟩⟩ ⟨hab1,hb1,hk1,hd1,hl1,hB1,ho⟩ ih
 simp only at hab1 hb1 hk1 hd1 hl1 hB1 ho ih ⊢
 have eba:(b1:Int)-(a1:Int)=((b1-a1:Nat):Int):=by omega
 repeat first|apply ae;rfl|apply aB;rfl;omega;omega
 rw [eba]
 refine my rfl rfl rfl rfl ?_ ?_
 all_goals intro h1
 ·rw [sB (by omega)] at ho
  repeat first|apply ae;rfl|refine aP rfl rfl rfl (by kernel_rfl) (Ctr.bF (pH n a1 b1 d1 (by omega) hd1 hab1 hb1) [0] rfl (E0 rfl) rfl ⟨ai rfl,trivial⟩ rfl (by repeat(first|exact Gc|refine⟨aF,?_⟩)) (fun _=>rfl) rfl rfl) ?_
  ((apply bv Tryz.func97 (congrArg Array.toList Tryz.results97));(focus(repeat(exact E3)));refine⟨_,rfl,Ends.mk [] (E0 rfl) rfl rfl ?_⟩)
  rw [← ho]
  exact⟨ai rfl,trivial⟩
 repeat apply ae;rfl
 refine cE rfl rfl rfl rfl ?_ ?_
 all_goals intro h2
 ·rw [pp (by omega) (by omega)] at ho
  repeat first|apply ae;rfl|refine aP rfl rfl rfl (by kernel_rfl) (Ctr.bF (nd n a1 b1 d1 (by omega) hd1 hab1 hb1) [0] rfl (E0 rfl) rfl ⟨ai rfl,trivial⟩ rfl (by repeat(first|exact Gc|refine⟨aF,?_⟩)) (fun _=>rfl) rfl rfl) ?_
  ((apply bv Tryz.func97 (congrArg Array.toList Tryz.results97));(focus(repeat(exact E3)));refine⟨_,rfl,Ends.mk [] (E0 rfl) rfl rfl ?_⟩)
  rw [← ho]
  exact⟨ai rfl,trivial⟩
 repeat apply bk;rfl
 refine uH 1 (fun s:Nat×ArP=> [(0,.slu 0 0 n),(1,.sc (.int .i64 (a1:Int))),(2,.sc (.int .i64 (b1:Int))),(3,.sc (.int .i64 (s.1:Int))),(4,cmpF),(10,.sc (.bool wb)),(11,.sc (.bool wp)),(12,.sc (.int .i64 ((b1-a1:Nat):Int)))]) (fun s=> [some (rowP n s.2)])
  (fun s=>s.1=(if(!wb)=true then l1-1 else l1)∧s.2=(if(!wb)=true then Sort.breakPatterns d1 a1 b1 else d1)) (fun _=>rfl) rfl (fun _=>rfl) (fun _=>rfl) ?_ ?_ ?_
 ·intro hw out
  repeat first|refine out _ _ _ (l1-1,Sort.breakPatterns d1 a1 b1) [] ⟨by rw [Ez hw],by rw [Ez hw]⟩ ?_;(refine⟨(E0 rfl),rfl,(by repeat(first|exact Gc|refine⟨rfl,?_⟩|refine⟨cK (by(omega)),?_⟩)),⟨ai rfl,trivial⟩⟩)|apply bk;rfl|apply aB;rfl;omega;omega|refine aP rfl rfl rfl (by kernel_rfl) (Ctr.bF (pV n a1 b1 d1 hn hd1 hab1 hb1) [0] rfl (E0 rfl) rfl ⟨ai rfl,trivial⟩ rfl (by repeat(first|exact Gc|refine⟨aF,?_⟩)) (fun _=>rfl) rfl rfl) ?_
 ·intro hw out
  repeat first|refine out _ _ _ (l1,d1) [] ⟨by rw [hw];rfl,by rw [hw];rfl⟩ ?_;(exact Ga rfl rfl rfl ⟨ai rfl,trivial⟩)|apply bk;rfl
 rintro⟨l2,d2⟩ ⟨el,ed⟩
 simp only at el ed ⊢
 have hl2:l2<4611686018427387904:=by rw [el];split <;> omega
 have hpd:Sort.PermIn a1 b1 d1 d2:=by
  rw [ed]
  split
  ·exact Sort.breakPatterns_holds d1 a1 b1 hab1 (by omega)
  ·exact Sort.permIn_refl d1 a1 b1
 have hd2:d2.size=n:=by rw [hpd.1];exact hd1
 have hB2:Sort.Below ltP a1 b1 d2:=hB1.perm (by omega) hpd
 have hpv:=ph n a1 b1 d2 (by omega) hd2 (by omega) hb1
 have hpr:=Sort.choosePivot_holds ltP d2 a1 b1 (by omega)
 have hgo:=fun d3 pivot hint pi=>wV (lt:=ltP) (d:=d1) (d1:=d2) (d2:=d3) (a:=a1) (b:=b1) (limit:=l1) (limit1:=l2) (pivot:=pivot) (wb:=wb) (wp:=wp) (c:=Sort.choosePivot ltP d2 a1 b1) (hint:=hint) (pi:=pi) (by omega) (by omega) ed el rfl
 generalize Sort.choosePivot ltP d2 a1 b1=c at hpv hpr hgo
 obtain⟨p,hint⟩:=c
 simp only at hpv hpr hgo
 repeat first|apply ae;rfl|refine aP rfl rfl rfl (by kernel_rfl) (Ctr.bF (hpv) [0] rfl (E0 rfl) rfl ⟨ai rfl,trivial⟩ rfl (by repeat(first|exact Gc|refine⟨aF,?_⟩)) (fun _=>rfl) rfl rfl) ?_
 refine bN (ct rfl rfl (.inl ⟨rfl,rfl⟩)) rfl rfl rfl ?_
 rw [q9]
 repeat apply bk;rfl
 refine uH 1 (fun s:(Nat×Sort.Hint)×ArP=> [(0,.slu 0 0 n),(1,.sc (.int .i64 (a1:Int))),(2,.sc (.int .i64 (b1:Int))),(3,.sc (.int .i64 (l2:Int))),(4,cmpF),(10,.sc (.bool wb)),(11,.sc (.bool wp)),(12,.sc (.int .i64 ((b1-a1:Nat):Int))),(13,.sc (.int .i64 (s.1.1:Int))),(14,.sc (.int .i64 (xH s.1.2)))]) (fun s=> [some (rowP n s.2)])
  (fun s=>s.2=(if hint = .decreasing then Sort.reverseRange d2 a1 b1 else d2)∧s.1.1=(if hint = .decreasing then(b1-1)-(p-a1) else p)∧s.1.2=(if hint = .decreasing then .increasing else hint)) (fun _=>rfl) rfl (fun _=>rfl) (fun _=>rfl) ?_ ?_ ?_
 ·intro hw out
  have hw:=EK hw
  repeat first|refine out _ _ _ (((b1-1)-(p-a1),.increasing),Sort.reverseRange d2 a1 b1) [] ⟨by rw [Ez hw],by rw [Ez hw],by rw [Ez hw]⟩ ?_;(refine⟨(E0 rfl),rfl,(by repeat(first|exact Gc|refine⟨rfl,?_⟩|refine⟨cK (by(simp only;omega)),?_⟩)),⟨ai rfl,trivial⟩⟩)|apply bk;rfl|apply aB;rfl;omega;omega|refine aP rfl rfl rfl (by kernel_rfl) (Ctr.bF (oZ n a1 b1 d2 (by omega) hd2 (by omega) hb1) [0] rfl (E0 rfl) rfl ⟨ai rfl,trivial⟩ rfl (by repeat(first|exact Gc|refine⟨aF,?_⟩)) (fun _=>rfl) rfl rfl) ?_
 ·intro hw out
  have hw:=of_decide_eq_false hw
  repeat first|refine out _ _ _ ((p,hint),d2) [] ⟨by rw [Ey hw],by rw [Ey hw],by rw [Ey hw]⟩ ?_;(exact Ga rfl rfl rfl ⟨ai rfl,trivial⟩)|apply bk;rfl
 rintro⟨⟨pv,hint2⟩,d3⟩ ⟨ed3,epv,ehi⟩
 simp only at ed3 epv ehi ⊢
 have hpd3:Sort.PermIn a1 b1 d2 d3:=by
  rw [ed3]
  split
  ·exact Sort.reverseRange_holds d2 a1 b1 hab1 (by omega)
  ·exact Sort.permIn_refl d2 a1 b1
 have hd3:d3.size=n:=by rw [hpd3.1];exact hd2
 have hB3:Sort.Below ltP a1 b1 d3:=hB2.perm (by omega) hpd3
 have hpv1:a1≤pv∧pv<b1:=by rw [epv];split <;> omega
 have hgo:=fun pi=>hgo d3 pv hint2 pi ed3 epv ehi
 (repeat refine uG ?_)
 refine oP 1 (fun _:Unit=> [(0,.slu 0 0 n),(1,.sc (.int .i64 (a1:Int))),(2,.sc (.int .i64 (b1:Int))),(3,.sc (.int .i64 (l2:Int))),(4,cmpF),(10,.sc (.bool wb)),(11,.sc (.bool wp)),(12,.sc (.int .i64 ((b1-a1:Nat):Int))),(13,.sc (.int .i64 (pv:Int))),(75,.sc (.bool (wb && wp && decide (hint2 = .increasing))))]) (fun _=> [some (rowP n d3)])
  (fun _=>True) (fun _=>rfl) (fun _=>rfl) (fun _=>rfl) ?_ ?_
 ·intro out
  clear ih ihk ho hgo ehi ed el hpr hpv
  cases wb <;> cases wp <;> cases hint2 <;> (repeat(first|refine out _ _ _ () [] trivial ?_;(exact Ga rfl rfl rfl ⟨ai rfl,trivial⟩)|apply bk;rfl|refine bN (ct rfl rfl (.inl ⟨rfl,rfl⟩)) rfl rfl rfl ?_))
 rintro _ -
 (repeat refine uG ?_)
 refine uH 1 (fun d':ArP=> [(0,.slu 0 0 n),(1,.sc (.int .i64 (a1:Int))),(2,.sc (.int .i64 (b1:Int))),(3,.sc (.int .i64 (l2:Int))),(4,cmpF),(10,.sc (.bool wb)),(11,.sc (.bool wp)),(12,.sc (.int .i64 ((b1-a1:Nat):Int))),(13,.sc (.int .i64 (pv:Int)))]) (fun d'=> [some (rowP n d')])
  (fun d'=>d'.size=n∧Sort.Below ltP a1 b1 d'∧Sort.pdq ltP d1 a1 b1 l1 wb wp=dA ltP d' a1 b1 pv l2 wb wp) (fun _=>rfl) rfl (fun _=>rfl) (fun _=>rfl) ?_ ?_ ?_
 ·intro hw out
  have hps:=mO n a1 b1 d3 (by omega) hd3 (by omega) hb1
  have hpp:=(Sort.partialInsertionSort_holds CE d3 a1 b1 (by omega) (by omega) hB3).1
  have hgo:=hgo _ (by rw [Ez hw])
  generalize Sort.partialInsertionSort ltP d3 a1 b1=pi at hps hpp hgo
  obtain⟨d4,done⟩:=pi
  simp only at hps hpp hgo
  cases done
  ·rw [Ey (by decide)] at hgo
   repeat first|refine out _ _ _ d4 [] ⟨by rw [hpp.1];exact hd3,hB3.perm (by omega) hpp,hgo⟩ ?_;(exact Ga rfl rfl rfl ⟨ai rfl,trivial⟩)|apply bk;rfl|refine aP rfl rfl rfl (by kernel_rfl) (Ctr.bF (hps) [0] rfl (E0 rfl) rfl ⟨ai rfl,trivial⟩ rfl (by repeat(first|exact Gc|refine⟨aF,?_⟩)) (fun _=>rfl) rfl rfl) ?_
  ·rw [Ez rfl] at hgo
   repeat first|apply ae;rfl|refine aP rfl rfl rfl (by kernel_rfl) (Ctr.bF (hps) [0] rfl (E0 rfl) rfl ⟨ai rfl,trivial⟩ rfl (by repeat(first|exact Gc|refine⟨aF,?_⟩)) (fun _=>rfl) rfl rfl) ?_
   ((apply bv Tryz.func97 (congrArg Array.toList Tryz.results97));(focus(repeat(exact E3)));refine⟨_,rfl,Ends.mk [] (E0 rfl) rfl rfl ?_⟩)
   rw [← ho,hgo]
   exact⟨ai rfl,trivial⟩
 ·intro hw out
  have hgo:=hgo (d3,false) (by rw [hw];rfl)
  repeat first|refine out _ _ _ d3 [] ⟨hd3,hB3,by rw [hgo];rfl⟩ ?_;(exact Ga rfl rfl rfl ⟨ai rfl,trivial⟩)|apply bk;rfl
 rintro d4 ⟨hd4,hB4,hT⟩
 rw [hT] at ho
 clear hgo hT hB3 hd3 hpd3 hB2 hd2 hpd ed ed3 ehi epv el hpv
 have arm: ∀ t:Bool,(decide (a1>0) && !ltP d4[a1-1]! d4[pv]!)=t→(decide (a1>0) && !ltP d4[a1-1]! d4[pv]!)=t:=fun _ h=>h
 repeat apply ae;rfl
 refine oP 1 (fun _:Unit=> [(0,.slu 0 0 n),(1,.sc (.int .i64 (a1:Int))),(2,.sc (.int .i64 (b1:Int))),(3,.sc (.int .i64 (l2:Int))),(4,cmpF),(10,.sc (.bool wb)),(11,.sc (.bool wp)),(12,.sc (.int .i64 ((b1-a1:Nat):Int))),(13,.sc (.int .i64 (pv:Int))),(97,.sc (.bool (decide (a1>0) && !ltP d4[a1-1]! d4[pv]!)))]) (fun _=> [some (rowP n d4)])
  (fun _=>True) (fun _=>rfl) (fun _=>rfl) (fun _=>rfl) ?_ ?_
 ·intro out
  refine aS (by kernel_rfl) (by kernel_rfl) ?_
  repeat apply aA;rfl
  refine jV rfl rfl rfl rfl ?_ ?_
  all_goals intro h5
  ·repeat first|apply aA;rfl|refine bq (ak rfl rfl (.inr (.inl ⟨rfl,(D3 _ ⟨(by omega),(by omega)⟩).symm⟩))) rfl rfl rfl ?_|refine aX rfl rfl rfl (F.ag _ rfl) (recP) rfl (by(omega)) (by(omega)) ?_|refine an (q:=a1-1) rfl rfl rfl rfl (F.un _ rfl) (F.sz _ rfl) rfl (by omega) (by omega) (by omega) ?_|refine an (q:=pv) rfl rfl rfl rfl (F.un _ rfl) (F.sz _ rfl) rfl (by omega) (by omega) (by omega) ?_|refine bg rfl rfl rfl rfl (by kernel_rfl) rfl (Ctr.callV (cmp_spec d4[a1-1]! d4[pv]!) [] rfl (E0 rfl) rfl trivial rfl) ?_
   refine bx rfl rfl rfl rfl ?_ ?_
   all_goals intro h6
   ·repeat apply aA;rfl
    refine ay ⟨by kernel_rfl,?_,?_⟩;(focus(repeat(first|exact Gc|apply bZ;rfl|apply bM;rfl|refine⟨.inr (by(repeat(refine⟨(by first|exact az (F.un _ rfl) (F.sz _ rfl) rfl rfl rfl (by omega) (by omega) (by omega)|exact ak rfl rfl (.inr (.inl ⟨rfl,(D3 _ ⟨by omega,by omega⟩).symm⟩))),?_⟩));exact Gc),?_⟩|refine⟨.inl (by kernel_rfl),?_⟩)))
    have e5:(decide (a1>0) && !ltP d4[a1-1]! d4[pv]!)=false:=by simp [ltP,h6]
    rw [e5] at out
    repeat refine out _ _ _ () [] trivial ?_;(exact Ga rfl rfl rfl ⟨ai rfl,trivial⟩)
   ·repeat apply aA;rfl
    refine ay ⟨by kernel_rfl,?_,?_⟩;(focus(repeat(first|exact Gc|apply bZ;rfl|apply bM;rfl|refine⟨.inr (by(repeat(refine⟨(by first|exact az (F.un _ rfl) (F.sz _ rfl) rfl rfl rfl (by omega) (by omega) (by omega)|exact ak rfl rfl (.inr (.inl ⟨rfl,(D3 _ ⟨by omega,by omega⟩).symm⟩))),?_⟩));exact Gc),?_⟩|refine⟨.inl (by kernel_rfl),?_⟩)))
    have e5:(decide (a1>0) && !ltP d4[a1-1]! d4[pv]!)=true:=by
     have:0<a1:=by omega
     simp [ltP,this,h6]
    rw [e5] at out
    repeat refine out _ _ _ () [] trivial ?_;(exact Ga rfl rfl rfl ⟨ai rfl,trivial⟩)
  ·repeat first|apply aA;rfl|refine b8 rfl rfl ?_
   refine ay ⟨by kernel_rfl,?_,?_⟩;(focus(repeat(first|exact Gc|apply ow;rfl|apply bM;rfl|refine⟨.inl rfl,?_⟩)))
   have e5:(decide (a1>0) && !ltP d4[a1-1]! d4[pv]!)=false:=by
    have: ¬ 0<a1:=by omega
    simp [this]
   rw [e5] at out
   repeat refine out _ _ _ () [] trivial ?_;(exact Ga rfl rfl rfl ⟨ai rfl,trivial⟩)
 rintro _ -
 cases h7:(decide (a1>0) && !ltP d4[a1-1]! d4[pv]!)
 ·have hps:=mT n a1 b1 pv d4 (by omega) hd4 hpv1.1 hpv1.2 hb1
  obtain⟨mid,ap,d5,hx⟩: ∃ mid ap,∃ d5,Sort.partition ltP d4 a1 b1 pv=(mid,ap,d5):=⟨_,_,_,rfl⟩
  obtain⟨g1,g2,g3,g4,g5,g6,g7⟩:=Sort.round_part CE (Sort.partition_holds ltP) hpv1.1 hpv1.2 (by omega) hB4 hx
  rw [hx] at hps
  simp only at hps
  have hd5:d5.size=n:=by rw [g3];exact hd4
  repeat first|apply ae;rfl|apply aB;rfl;omega;omega|refine bN (ii rfl rfl (by omega) (dR (by omega) (by omega) (by omega))) rfl rfl rfl ?_|refine aP rfl rfl rfl (by kernel_rfl) (Ctr.bF (hps) [0] rfl (E0 rfl) rfl ⟨ai rfl,trivial⟩ rfl (by repeat(first|exact Gc|refine⟨aF,?_⟩)) (fun _=>rfl) rfl rfl) ?_
  refine bm rfl rfl rfl rfl ?_ ?_
  all_goals intro h8
  ·rw [mC (by rw [h7];decide) hx ⟨g1,g2⟩ (by omega)] at ho
   have hrec:=ihk (mid-a1) (by omega) a1 mid l2 d5 rfl g1 (by omega) hd5 hl2 g4
   have hL:=Sort.pdq_sorts ltP CE d5 a1 mid l2 true true g1 (by omega) g4
   have hB6:=(g6 _ hL.1 hL.2).1
   have hd6:(Sort.pdq ltP d5 a1 mid l2 true true).size=n:=by rw [hL.1.1];exact hd5
   generalize Sort.pdq ltP d5 a1 mid l2 true true=d6 at hrec hB6 hd6 ho
   clear hL g6 g7 hps hpr
   repeat first|apply ae;rfl|apply aB;rfl;omega;omega|refine aP rfl rfl rfl (by kernel_rfl) (Ctr.bF (hrec) [0] rfl (E0 rfl) rfl ⟨ai rfl,trivial⟩ rfl (by repeat(first|exact Gc|refine⟨aF,?_⟩)) (fun _=>rfl) rfl rfl) ?_|refine bN (ct rfl rfl (.inr (.inr (.inr (.inr (.inr (⟨rfl,rfl⟩))))))) rfl rfl rfl ?_
   refine ih _ _ _ (((mid+1,b1),l2),((decide (mid-a1≥(b1-a1) / 8),ap),d6)) [] ⟨by simp only;omega,hb1,by simp only;omega,hd6,hl2,hB6,ho⟩ (by simp only;omega) ?_
   have eb:decide ((mid:Int)-(a1:Int)≥((b1-a1:Nat):Int) / 8)=decide (mid-a1≥(b1-a1) / 8):=by
    rw [Bool.eq_iff_iff,EZ,EZ]
    omega
   rw [← eb]
   (exact Ga rfl rfl rfl ⟨ai rfl,trivial⟩)
  ·rw [kV (by rw [h7];decide) hx ⟨g1,g2⟩ (by omega)] at ho
   have hrec:=ihk (b1-(mid+1)) (by omega) (mid+1) b1 l2 d5 rfl (by omega) hb1 hd5 hl2 g5
   have hL:=Sort.pdq_sorts ltP CE d5 (mid+1) b1 l2 true true (by omega) (by omega) g5
   have hB6:=(g7 _ hL.1 hL.2).1
   have hd6:(Sort.pdq ltP d5 (mid+1) b1 l2 true true).size=n:=by rw [hL.1.1];exact hd5
   generalize Sort.pdq ltP d5 (mid+1) b1 l2 true true=d6 at hrec hB6 hd6 ho
   clear hL g6 g7 hps hpr
   have emid:((mid:Int)+1)=((mid+1:Nat):Int):=by omega
   repeat first|apply ae;rfl|apply aB;rfl;omega;omega|refine bN (ct rfl rfl (.inr (.inr (.inr (.inr (.inr (⟨rfl,rfl⟩))))))) rfl rfl rfl ?_
   rw [emid]
   repeat first|apply ae;rfl|refine aP rfl rfl rfl (by kernel_rfl) (Ctr.bF (hrec) [0] rfl (E0 rfl) rfl ⟨ai rfl,trivial⟩ rfl (by repeat(first|exact Gc|refine⟨aF,?_⟩)) (fun _=>rfl) rfl rfl) ?_
   refine ih _ _ _ (((a1,mid),l2),((decide (b1-mid≥(b1-a1) / 8),ap),d6)) [] ⟨g1,by simp only;omega,by simp only;omega,hd6,hl2,hB6,ho⟩ (by simp only;omega) ?_
   have eb:decide ((b1:Int)-(mid:Int)≥((b1-a1:Nat):Int) / 8)=decide (b1-mid≥(b1-a1) / 8):=by
    rw [Bool.eq_iff_iff,EZ,EZ]
    omega
   rw [← eb]
   (exact Ga rfl rfl rfl ⟨ai rfl,trivial⟩)
 ·have h7':=h7
  rw [Ek,EZ,Bool.not_eq_true'] at h7'
  have hps:=jM n a1 b1 pv d4 (by omega) hd4 hpv1.1 hpv1.2 hb1
  obtain⟨mid,d5,hx⟩: ∃ mid,∃ d5,Sort.partitionEqual ltP d4 a1 b1 pv=(mid,d5):=⟨_,_,rfl⟩
  obtain⟨g1,g2,g3,g4,_⟩:=Sort.round_eq CE (Sort.partitionEqual_holds ltP) h7'.1 hpv1.1 hpv1.2 (by omega) hB4 h7'.2 hx
  rw [hx] at hps
  simp only at hps
  rw [sh h7 hx ⟨g1,g2⟩] at ho
  repeat first|apply ae;rfl|refine aP rfl rfl rfl (by kernel_rfl) (Ctr.bF (hps) [0] rfl (E0 rfl) rfl ⟨ai rfl,trivial⟩ rfl (by repeat(first|exact Gc|refine⟨aF,?_⟩)) (fun _=>rfl) rfl rfl) ?_
  refine ih _ _ _ (((mid,b1),l2),((wb,wp),d5)) [] ⟨g2,hb1,by simp only;omega,by rw [g3];exact hd4,hl2,g4,ho⟩ (by simp only;omega) ?_
  (exact Ga rfl rfl rfl ⟨ai rfl,trivial⟩)
end
end Bn
end Go.Proofs.YtelnglhodnoclaaGreat
end
section
namespace Go.Proofs.YtelnglhodnoclaaGreat
namespace Bn
open Go Go.Sy
theorem sortF_spec(n:Nat)(d:ArP)(hn:n<65536)(hd:d.size=n) :
 Ctr Tryz.prog 71 [.slu 0 0 n,DQ] [rowP n d] (fun c=>c=⟨.tup [],[some (rowP n (Sort.sort ltP d))]⟩):=by
 have h16:=lS hn
 refine E2 Tryz.func71 rfl rfl ?_
 refine vV (d:=1) (s:=DQ) (s':=cmpF) rfl (fun e v h=>by simpa [SV.conc,SV.aC] using h) ?_
 have hp:=po n hn n 0 n (Sort.bitsLen n) d rfl (En _) (Em _) hd (by omega) (.inl rfl)
 have hs:Sort.pdq ltP d 0 n (Sort.bitsLen n) true true=Sort.sort ltP d:=by unfold Sort.sort;rw [hd]
 rw [hs] at hp
 repeat first|apply ae;rfl|refine bN (cG (F.un _ rfl) (F.un _ rfl) rfl (show _=(n:Int)from EX _ ⟨by omega,by omega⟩)) rfl rfl rfl ?_|refine ey (pD n hn) [] rfl rfl rfl (by kernel_rfl) rfl (E0 rfl) rfl trivial ?_|refine aP rfl rfl rfl (by kernel_rfl) (Ctr.bF (hp) [0] rfl (E0 rfl) rfl ⟨ai rfl,trivial⟩ rfl (by repeat(first|exact Gc|refine⟨aF,?_⟩)) (fun _=>rfl) rfl rfl) ?_
 ((apply jF Tryz.func71 (congrArg Array.toList Tryz.results71));(focus(repeat(exact E3)));refine⟨_,rfl,Ends.mk [] (E0 rfl) rfl rfl ?_⟩)
 exact⟨ai rfl,trivial⟩
end Bn
end Go.Proofs.YtelnglhodnoclaaGreat
end
section
namespace Go.Proofs.YtelnglhodnoclaaGreat
open Go Go.Sy Go.Sl Go.RowKit
section
variable {H:aw}{s:SV}{hi lo:Nat}{n:Int}{bs:List Bn.El}{p:List UInt8}
abbrev nY(b:Nat):SV:= .ifc 42 (.ptr b 0)
theorem lm{nx b c:Nat}{mem:List UInt8}{left:Int}(hb:PgAt H b mem left c)(hm:mem.length=28672):Fnc Tryz.prog 37 [nY b] H nx
 (fun q=>nx≤q.2.2∧(∀ m,m<nx→q.2.1.at' m=H.at' m)∧((gr (aQ mem 0)=none∧q.1 = .tup [.agg (pgS zeroP),cC,.sc (.int .i64 13)])∨ ∃ bs r,gr (aQ mem 0)=some bs∧q.1 = .tup [.agg (pgS (aQ mem 0)),.slu r 0 bs.length,.sc (.int .i64 0)]∧nx≤r∧r<q.2.2∧q.2.1.at' r=some (nS bs))):=by
 obtain⟨s0,hb,hL⟩:=hb
 have hp:=dB hm (n:=0) (by decide)
 refine E2 Tryz.func37 rfl rfl ?_
 refine a9 fun hund=>?_
 have hlt:=hund _ _ hb
 repeat first|refine eR (aW dN) rfl rfl rfl ?_|apply ae;rfl
 refine fC 152 rfl rfl rfl rfl (by kernel_rfl) (E1 (AH (n:=0) ((ab _ _ (by omega)).trans hb) hm (by decide)) ?_)
 rintro _ rfl
 dsimp only
 generalize aQ mem 0=p at hp ⊢
 have h12: ∀ j u l,j≤aj p→ch p j=some (u,l)→l.length<65536:=fun _ _ _ _ h=>Nat.lt_of_le_of_lt (qx h) (by decide)
 repeat first|refine eR (aW dN) rfl rfl rfl ?_|apply cx hp ac;rfl;(focus((repeat(first|exact ah|refine aa (by omega) ?_));done))|apply ae;rfl|apply aR;rfl;(focus((repeat(first|exact ah|refine aa (by omega) ?_));done));rfl|apply ig;rfl;rfl
 refine im (R:=fun H1 n1=>n1=nx+1+1+1∧H1.at' nx=some (pgO zeroP)∧H1.at' (nx+1)=some (pgO p)∧H1.at' (nx+1+1)=some (l7 0)∧ ∀ m,m<nx→H1.at' m=H.at' m) ⟨rfl,by repeat(first|exact ah|refine aa (by omega) ?_),by repeat(first|exact ah|refine aa (by omega) ?_),by repeat(exact ah),fun m hm=>by(repeat(refine aa (by omega) ?_));rfl⟩ ?_
 rintro H1 n1 ⟨rfl,a0,a1,a2,ao⟩
 have hri:=fun(H:aw) nx=>yv (H:=H) (nx:=nx) hp
 have hki:=fun(H:aw) nx=>A3 (H:=H) (nx:=nx) hp
 by_cases hok: ¬ (cr p=true∧kP p=2)
 ·have hno:gr p=none:=Ey hok
  cases hr:cr p with
  | false=>
    rw [hr] at hri
    repeat first|apply dc hp;rfl;assumption|apply cx ac ac;rfl;assumption|apply ae;rfl|apply cH;rfl;kernel_rfl;exact hri _ _|refine cv rfl rfl f9 ?_
    ((apply bv Tryz.func37 (congrArg Array.toList Tryz.results37));(focus((apply E4 rfl (E6 (F.ag _ rfl) (by repeat(exact ah)) (bH ac)));(repeat(first|exact E3|apply E5 rfl)))))
    exact⟨by dsimp only;omega,fun m hm=>by(repeat(refine aa (by omega) ?_));exact ao m hm,.inl ⟨hno,rfl⟩⟩
  | true=>
    rw [hr] at hri
    have hk:((kP p).toNat:Int)≠2:=fun h=>hok ⟨hr,UInt8.toNat_inj.1 (by show(kP p).toNat=2;omega)⟩
    repeat first|apply dc hp;rfl;assumption|apply cx ac ac;rfl;assumption|apply ae;rfl|apply cH;rfl;kernel_rfl;exact hri _ _|apply cH;rfl;kernel_rfl;exact hki _ _|refine ga rfl rfl rfl rfl (fun _=>?_) (fun hq=>absurd hq hk)|refine cv rfl rfl f9 ?_
    ((apply bv Tryz.func37 (congrArg Array.toList Tryz.results37));(focus((apply E4 rfl (E6 (F.ag _ rfl) (by repeat(exact ah)) (bH ac)));(repeat(first|exact E3|apply E5 rfl)))))
    exact⟨by dsimp only;omega,fun m hm=>by(repeat(refine aa (by omega) ?_));exact ao m hm,.inl ⟨hno,rfl⟩⟩
 have hok:=Classical.not_not.1 hok
 have hM:gr p=(match ch p (aj p)with
  | none=>none
  | some (_,l)=>if okB (lW l)=true then some (lW l) else none):=Ez hok
 obtain⟨hr,hk⟩:=hok
 rw [hr] at hri
 rw [hk] at hki
 have hits:=fun(H:aw) nx=>sO (H:=H) (nx:=nx) hp
 rw [hr] at hits
 repeat first|apply dc hp;rfl;(focus((repeat(first|assumption|refine aa (by omega) ?_));done))|apply ae;rfl|apply aR;rfl;(focus((repeat(first|exact ah|refine aa (by omega) ?_));done));rfl|refine ma rfl rfl rfl rfl (F.sz _ rfl) (by repeat(first|assumption|exact ah|refine aa (by omega) ?_)) rfl (by exact D7 rfl) rfl ?_|apply cH;rfl;kernel_rfl;exact hri _ _|apply cH;rfl;kernel_rfl;exact hki _ _|apply ig;rfl;rfl|apply cH;rfl;kernel_rfl;exact hits _ _
 obtain⟨q0,hq0⟩: ∃ q0,q0=nx+1+1+1+1+1+1:=⟨_,rfl⟩
 rw [← hq0]
 refine im (R:=fun H4 n4=>n4=q0+1+1∧H4.at' q0=some (pgO p)∧H4.at' (q0+1)=some (nI true)∧H4.at' nx=some (pgO zeroP)∧H4.at' (nx+1)=some (pgO p)∧H4.at' (nx+1+1)=some (l7 0)∧H4.at' (nx+1+1+1)=some (lvO cC)∧H4.at' (nx+1+1+1+1)=some (nI false)∧H4.at' (nx+1+1+1+1+1)=some (usO (List.replicate 28 false))∧ ∀ m,m<nx→H4.at' m=H.at' m)
  ⟨rfl,by repeat(first|exact ah|refine aa (by omega) ?_),by repeat(exact ah),by repeat(first|assumption|refine aa (by omega) ?_),by repeat(first|assumption|refine aa (by omega) ?_),by repeat(first|assumption|refine aa (by omega) ?_),by repeat(first|exact ah|refine aa (by omega) ?_),by repeat(first|exact ah|refine aa (by omega) ?_),by repeat(first|exact ah|refine aa (by omega) ?_),fun m hm=>by(repeat(refine aa (by omega) ?_));exact ao m hm⟩ ?_
 clear a0 a1 a2 ao
 rintro H4 n4 ⟨rfl,m0,m1,m2,m3,m4,m5,m6,m7,mo⟩
 refine jE [(2,.ptr nx 0),(5,.ptr (nx+1) 0),(6,.ptr (nx+1+1) 0),(7,.ptr (nx+1+1+1) 0),(8,.ptr (nx+1+1+1+1) 0),(9,.ptr (nx+1+1+1+1+1) 0)] rfl rfl (by kernel_rfl) (E8 (Gb rfl)) ?_
 intro cA cB hcA hcB2
 refine E1 (sN (l:=q0+1+1+1) (f:=q0+1) (q:=q0) hp hr (f2:=37) (nt2:=124) (T2:=slT [(2,.ptr nx 0),(5,.ptr (nx+1) 0),(6,.ptr (nx+1+1) 0),(7,.ptr (nx+1+1+1) 0),(8,.ptr (nx+1+1+1+1) 0),(9,.ptr (nx+1+1+1+1+1) 0)]) (ps:= #[36,37]) (ca:=cA) (cb:=cB) (dr:=q0+1+1) rfl
  (fun j H5 n5=>H5.at' (q0+1+1+1)=some (.loop .ready none 37 124 (slT [(2,.ptr nx 0),(5,.ptr (nx+1) 0),(6,.ptr (nx+1+1) 0),(7,.ptr (nx+1+1+1) 0),(8,.ptr (nx+1+1+1+1) 0),(9,.ptr (nx+1+1+1+1+1) 0)]) #[36,37] cA cB (q0+1+1))∧H5.at' (q0+1)=some (nI true)∧H5.at' q0=some (pgO p)∧q0+1+1+1+1≤n5∧H5.at' nx=some (pgO zeroP)∧H5.at' (nx+1)=some (pgO p)∧H5.at' (nx+1+1)=some (l7 0)∧H5.at' (nx+1+1+1+1)=some (nI false)∧H5.at' (q0+1+1)=some (.dfd (some []))∧(∃ u l s,ch p j=some (u,l)∧H5.at' (nx+1+1+1)=some (lvO s)∧H5.at' (nx+1+1+1+1+1)=some (usO u)∧LvAt H5 s l (q0+1+1+1+1+1) n5)∧ ∀ m,m<nx→H5.at' m=H.at' m)
  (fun H5 n5=>H5.at' (q0+1+1+1)=some (.loop .done (some (.exit 0)) 37 124 (slT [(2,.ptr nx 0),(5,.ptr (nx+1) 0),(6,.ptr (nx+1+1) 0),(7,.ptr (nx+1+1+1) 0),(8,.ptr (nx+1+1+1+1) 0),(9,.ptr (nx+1+1+1+1+1) 0)]) #[36,37] cA cB (q0+1+1))∧q0+1+1+1+1≤n5∧H5.at' nx=some (pgO zeroP)∧H5.at' (nx+1+1+1+1)=some (nI true)∧H5.at' (q0+1+1)=some (.dfd (some []))∧(∃ l s,l.length<65536∧H5.at' (nx+1+1+1)=some (lvO s)∧LvAt H5 s l (q0+1+1+1+1+1) n5)∧ch p (aj p)=none∧ ∀ m,m<nx→H5.at' m=H.at' m)
  ?_ ?_ ?_ ?_ ?_) ?_
 ·rintro j H5 n5 ⟨i1,i2,i3,i4,_⟩
  exact⟨i1,i2,i3,by omega,by omega,by omega⟩
 ·rintro j H5 n5 H6 n6 ⟨i1,i2,i3,i4,i5,i6,i7,i8,i9,⟨u,l,s,j1,j2,j3,j4⟩,i12⟩ hle hs
  exact⟨(hs _ (by omega)).trans i1,(hs _ (by omega)).trans i2,(hs _ (by omega)).trans i3,by omega,(hs _ (by omega)).trans i5,(hs _ (by omega)).trans i6,(hs _ (by omega)).trans i7,(hs _ (by omega)).trans i8,(hs _ (by omega)).trans i9,⟨u,l,s,j1,(hs _ (by omega)).trans j2,(hs _ (by omega)).trans j3,j4.frame hle fun m _ h=>hs m h⟩,fun m hm=>(hs _ (by omega)).trans (i12 m hm)⟩
 ·rintro j H5 n5 ⟨i1,i2,i3,i4,i5,i6,i7,i8,i9,⟨u,l,s,j1,j2⟩,i12⟩ hz
  have e1:ch p (j+1)=some (u,l):=by
   show(match ch p j with|none=>none|some (u,l)=>_)=_
   rw [j1]
   exact Ez hz
  exact⟨i1,i2,i3,i4,i5,i6,i7,i8,i9,⟨u,l,s,e1,j2⟩,i12⟩
 ·rintro j H5 n5 r0 ⟨i1,i2,i3,i4,i5,i6,i7,i8,i9,⟨u,l,s,j1,j2,j3,j4⟩,i12⟩ hr1 hr2 hj hs hrow
  have hrow2:(H5.set (q0+1+1+1) (.loop .busy none 37 124 (slT [(2,.ptr nx 0),(5,.ptr (nx+1) 0),(6,.ptr (nx+1+1) 0),(7,.ptr (nx+1+1+1) 0),(8,.ptr (nx+1+1+1+1) 0),(9,.ptr (nx+1+1+1+1+1) 0)]) #[36,37] cA cB (q0+1+1))).at' r0=some (u8R false (byV (cd p j))):=(ab _ _ (by omega)).trans hrow
  have hil:(cd p j).length≤1024:=by unfold cd;rw [EC,EF];omega
  refine nV hcA ?_
  repeat apply ae;rfl
  refine r9 (by assumption) ?_
  refine nV hcB2 ?_
  repeat apply ae;rfl
  have hsl:=mG hr hj hs
  have hln:=kB hp hsl.2.2.2
  obtain⟨c0,rest,hit⟩: ∃ c0 rest,cd p j=c0 :: rest:=by
   cases h:cd p j with
   | nil=>rw [h] at hln;simp at hln;omega
   | cons a l=>exact⟨a,l,rfl⟩
  rw [hit] at hrow2 hil ⊢
  have hrow3:(H5.set (q0+1+1+1) (.loop .busy none 37 124 (slT [(2,.ptr nx 0),(5,.ptr (nx+1) 0),(6,.ptr (nx+1+1) 0),(7,.ptr (nx+1+1+1) 0),(8,.ptr (nx+1+1+1+1) 0),(9,.ptr (nx+1+1+1+1+1) 0)]) #[36,37] cA cB (q0+1+1))).at' r0=some (dat false (c0 :: rest).length 1 5 (byV (c0 :: rest))):=hrow2.trans (by unfold u8R;rw [fu])
  have hrl:(c0 :: rest).length=rest.length+1:=rfl
  rw [hrl] at hrow3 hil ⊢
  have hul:=(kY j1).1
  have hkc:c0.toNat<256:=c0.toNat_lt
  repeat first|apply ae;rfl|apply aR;rfl;(focus((repeat(first|exact ah|refine aa (by omega) ?_));done));rfl|refine cQ (q:=0) rfl rfl rfl rfl (F.un _ rfl) (F.sz _ rfl) hrow3 rfl (by omega) (Em _) ?_|refine e7 (v:= .int .u8 (c0.toNat:Int)) rfl rfl rfl (F.ag _ rfl) hrow3 rfl (by omega) ?_|refine bN (cG (F.un _ rfl) (F.un _ rfl) rfl (wj _)) rfl rfl rfl ?_
  refine bm rfl rfl rfl rfl (fun c1=>?_) (fun c1=>?_)
  ·have hbo:jr u (c0 :: rest)=none:=Ez (.inl (by omega))
   have hbn:ch p (aj p)=none:=gR (j:=j+1) (by show(match ch p j with|none=>none|some (u,l)=>_)=none;rw [j1];exact(Ey hs).trans (by rw [hit,hbo])) (by omega);(repeat(first|apply ae;rfl|apply aR;rfl;(focus((repeat(first|assumption|exact ah|refine aa (by omega) ?_));done));rfl));refine fP rfl (by repeat(first|exact ah|refine aa (by omega) ?_)) (.inr ⟨rfl,au _ _ _,by dsimp only;omega,by repeat(first|assumption|refine aa (by omega) ?_),by repeat(first|exact ah|refine aa (by omega) ?_),by repeat(first|assumption|refine aa (by omega) ?_),⟨l,s,h12 j u l (by omega) j1,by repeat(first|assumption|refine aa (by omega) ?_),j4.frame (by dsimp only;omega) fun m _ _=>by(repeat(refine aa (by omega) ?_));rfl⟩,hbn,fun m hm=>by(repeat(refine aa (by omega) ?_));exact i12 m hm⟩)
  repeat apply ae;rfl
  refine cD rfl rfl rfl rfl (fun c2=>?_) (fun c2=>?_)
  ·have hbo:jr u (c0 :: rest)=none:=Ez (.inr (.inl (by omega)))
   have hbn:ch p (aj p)=none:=gR (j:=j+1) (by show(match ch p j with|none=>none|some (u,l)=>_)=none;rw [j1];exact(Ey hs).trans (by rw [hit,hbo])) (by omega);(repeat(first|apply ae;rfl|apply aR;rfl;(focus((repeat(first|assumption|exact ah|refine aa (by omega) ?_));done));rfl));refine fP rfl (by repeat(first|exact ah|refine aa (by omega) ?_)) (.inr ⟨rfl,au _ _ _,by dsimp only;omega,by repeat(first|assumption|refine aa (by omega) ?_),by repeat(first|exact ah|refine aa (by omega) ?_),by repeat(first|assumption|refine aa (by omega) ?_),⟨l,s,h12 j u l (by omega) j1,by repeat(first|assumption|refine aa (by omega) ?_),j4.frame (by dsimp only;omega) fun m _ _=>by(repeat(refine aa (by omega) ?_));rfl⟩,hbn,fun m hm=>by(repeat(refine aa (by omega) ?_));exact i12 m hm⟩)
  have hkl:c0.toNat<u.length:=by omega
  have hucell:(u.map fun b=>SV.sc (.bool b))[c0.toNat]? =some (.sc (.bool u[c0.toNat])):=by rw [EP,D5 hkl];rfl
  repeat first|apply ae;rfl|apply ic (q:=c0.toNat);rfl;rfl;rfl;rfl;exact(F.un _ rfl);exact(F.sz _ rfl);(focus(omega));(focus(omega))
  rw [show 0+c0.toNat*1=c0.toNat by omega]
  refine aZ rfl rfl rfl (F.ag _ rfl) (by repeat(first|assumption|refine aa (by omega) ?_)) hucell ?_
  cases hu:u[c0.toNat] with
  | true=>
    have hbo:jr u (c0 :: rest)=none:=Ez (.inr (.inr (by rw [D5 hkl,hu])))
    rw [hu] at hucell
    have hbn:ch p (aj p)=none:=gR (j:=j+1) (by show(match ch p j with|none=>none|some (u,l)=>_)=none;rw [j1];exact(Ey hs).trans (by rw [hit,hbo])) (by omega);(repeat(first|apply ae;rfl|apply aR;rfl;(focus((repeat(first|assumption|exact ah|refine aa (by omega) ?_));done));rfl));refine fP rfl (by repeat(first|exact ah|refine aa (by omega) ?_)) (.inr ⟨rfl,au _ _ _,by dsimp only;omega,by repeat(first|assumption|refine aa (by omega) ?_),by repeat(first|exact ah|refine aa (by omega) ?_),by repeat(first|assumption|refine aa (by omega) ?_),⟨l,s,h12 j u l (by omega) j1,by repeat(first|assumption|refine aa (by omega) ?_),j4.frame (by dsimp only;omega) fun m _ _=>by(repeat(refine aa (by omega) ?_));rfl⟩,hbn,fun m hm=>by(repeat(refine aa (by omega) ?_));exact i12 m hm⟩)
  | false=>
    repeat first|apply ae;rfl|apply aR;rfl;(focus((repeat(first|assumption|exact ah|refine aa (by omega) ?_));done));rfl
    rcases rest with _|⟨c1',rest⟩
    ·have hbo:jr u [c0]=some (c0.toNat,cn):=Ey (by rw [D5 hkl,hu];simp;omega)
     repeat first|apply ae;rfl|apply aR;rfl;(focus((repeat(exact ah));done));rfl|apply rX;rfl;decide
     have e1:ch p (j+1)=some (u.set c0.toNat true,l ++ [((4:Int)+(c0.toNat:Int),cn)]):=(by show(match ch p j with|none=>none|some (u,l)=>_)=_;rw [j1];exact(Ey hs).trans (by rw [hit,hbo]));have hus:(u.map fun b=>SV.sc (.bool b)).set c0.toNat (.sc (.bool true))=(u.set c0.toNat true).map fun b=>SV.sc (.bool b):=(by rw [List.map_set]);have hle:=h12 j u l (by omega) j1;(repeat(apply ic (q:=c0.toNat);rfl;rfl;rfl;rfl;exact(F.un _ rfl);exact(F.sz _ rfl);(focus(omega));(focus(omega))));rw [show 0+c0.toNat*1=c0.toNat by omega];refine cJ (cs:=u.map fun b=>SV.sc (.bool b)) rfl rfl rfl (F.sz _ rfl) (by repeat(first|assumption|refine aa (by omega) ?_)) rfl (D9 (by rw [ED];omega)) ?_;rw [hus]
     rcases j4 with ⟨rfl,rfl⟩|⟨r,k1,rfl,k2,k3,k4⟩
     ·(repeat(first|apply ae;rfl|apply aR;rfl;(focus((repeat(first|assumption|exact ah|refine aa (by omega) ?_));done));rfl|apply aB;rfl;omega;omega|refine eR (aU (F.un _ rfl) (F.sz _ rfl) (aN rfl) (F.ze _ rfl) rfl rfl rfl rfl rfl) rfl rfl rfl ?_));refine gO (b:=40) (n:=1) (cs:=(Bn.elV ((4:Int)+(c0.toNat:Int),cn)).map .sc) rfl rfl rfl rfl (F.un _ rfl) (.inl ⟨_,F.un _ rfl⟩) (F.sz _ rfl) rfl (by kernel_rfl) (by kernel_rfl) (SlOf.row (by repeat(exact ah)) rfl) rfl (by decide) (by decide) ?_;rintro _ _ _ (⟨h,_⟩|⟨_,rfl,rfl,rfl⟩);exact absurd h (by decide);(repeat(first|apply ae;rfl|apply aR;rfl;(focus((repeat(first|assumption|refine aa (by omega) ?_));done));rfl));refine dF (by repeat(first|exact ah|refine aa (by omega) ?_)) (.inl ⟨rfl,⟨au _ _ _,by repeat(first|assumption|refine aa (by omega) ?_),by repeat(first|assumption|refine aa (by omega) ?_),by dsimp only;omega,by repeat(first|assumption|refine aa (by omega) ?_),by repeat(first|assumption|refine aa (by omega) ?_),by repeat(first|assumption|refine aa (by omega) ?_),by repeat(first|exact ah|refine aa (by omega) ?_),by repeat(first|assumption|refine aa (by omega) ?_),⟨_,_,_,e1,by repeat(first|exact ah|refine aa (by omega) ?_),by repeat(first|exact ah|refine aa (by omega) ?_),.inr ⟨n5+1+1,by simp,rfl,by first|omega|(dsimp only;omega),by first|omega|(dsimp only;omega),Eq.trans (b:=some (fA false 1 4 100 ((Bn.elV ((4:Int)+(c0.toNat:Int),cn)).map .sc))) (by repeat(first|exact ah|refine aa (by omega) ?_)) (congrArg some (bU _ _ _ _ _))⟩⟩,fun m hm=>by(repeat(refine aa (by omega) ?_));exact i12 m hm⟩,by dsimp only;omega,by(repeat(refine aa (by omega) ?_));rfl⟩)
     ·(repeat(first|apply ae;rfl|apply aR;rfl;(focus((repeat(first|assumption|exact ah|refine aa (by omega) ?_|refine bO (by omega) ?_));done));rfl|apply aB;rfl;omega;omega|refine eR (aU (F.un _ rfl) (F.sz _ rfl) (aN rfl) (F.ze _ rfl) rfl rfl rfl rfl rfl) rfl rfl rfl ?_|refine mw (b:=40) (xs:=l) (a:=((4:Int)+(c0.toNat:Int),cn)) rfl rfl rfl rfl (F.un _ rfl) (.inl ⟨_,F.un _ rfl⟩) (F.sz _ rfl) rfl (by kernel_rfl) (by kernel_rfl) (by repeat(first|assumption|refine aa (by omega) ?_)) (by repeat(exact ah)) (by rfl) (Bn.recP) (by omega) (by omega) ?_));refine dF (by repeat(first|exact ah|refine aa (by omega) ?_|refine bO (by omega) ?_)) (.inl ⟨rfl,⟨au _ _ _,by repeat(first|assumption|refine aa (by omega) ?_|refine bO (by omega) ?_),by repeat(first|assumption|refine aa (by omega) ?_|refine bO (by omega) ?_),by dsimp only;omega,by repeat(first|assumption|refine aa (by omega) ?_|refine bO (by omega) ?_),by repeat(first|assumption|refine aa (by omega) ?_|refine bO (by omega) ?_),by repeat(first|assumption|refine aa (by omega) ?_|refine bO (by omega) ?_),by repeat(first|exact ah|refine aa (by omega) ?_|refine bO (by omega) ?_),by repeat(first|assumption|refine aa (by omega) ?_|refine bO (by omega) ?_),⟨_,_,_,e1,by repeat(first|exact ah|refine aa (by omega) ?_),by repeat(first|exact ah|refine aa (by omega) ?_|refine bO (by omega) ?_),.inr ⟨n5+1+1,by simp,rfl,by first|omega|(dsimp only;omega),by first|omega|(dsimp only;omega),(by repeat(first|exact ah|refine aa (by omega) ?_))⟩⟩,fun m hm=>by(repeat(first|refine aa (by omega) ?_|refine bO (by omega) ?_));exact i12 m hm⟩,by dsimp only;omega,by(repeat(first|refine aa (by omega) ?_|refine bO (by omega) ?_));rfl⟩)
    ·have hrow5:H5.at' r0=some (u8R false (byV (c0 :: c1' :: rest))):=by rw [hrow,hit]
     have hrow6:H5.at' r0=some (dat false (rest.length+1+1) 1 5 (byV (c0 :: c1' :: rest))):=hrow5.trans (by unfold u8R;rw [fu];rfl)
     repeat first|apply ae;rfl|refine dS rfl rfl rfl rfl (fun _=>?_) (fun hq=>absurd hq (by simp only [Ep];omega))|refine wa (lw:=1) (hg:=rest.length+1+1) rfl rfl rfl (F.un _ rfl) (F.sz _ rfl) (by(repeat(refine aa (by omega) ?_));exact hrow6) rfl rfl (by omega) (by omega) (by omega) ?_
     refine aL rfl rfl rfl (by kernel_rfl) (E1 (of_u (eo:=0+1) (w:=c0 :: c1' :: rest) (l:=c1' :: rest) (by(repeat(refine aa (by omega) ?_));exact hrow5) (by simp only [Ep];omega) rfl (by simp only [Ep] at hil ⊢;omega)) ?_)
     rintro _ rfl
     dsimp only
     cases hof:ofL (c1' :: rest)with
     | none=>
       rw [gD hof]
       have hbo:jr u (c0 :: c1' :: rest)=none:=(Ey (by rw [D5 hkl,hu];simp;omega)).trans (by simp only [hof];rfl)
       repeat first|apply ae;rfl|apply aR;rfl;(focus((repeat(first|assumption|exact ah|refine aa (by omega) ?_));done));rfl|apply tp;rfl;decide
       have hbn:ch p (aj p)=none:=gR (j:=j+1) (by show(match ch p j with|none=>none|some (u,l)=>_)=none;rw [j1];exact(Ey hs).trans (by rw [hit,hbo])) (by omega);skip;refine fP rfl (by repeat(first|exact ah|refine aa (by omega) ?_)) (.inr ⟨rfl,au _ _ _,by dsimp only;omega,by repeat(first|assumption|refine aa (by omega) ?_),by repeat(first|exact ah|refine aa (by omega) ?_),by repeat(first|assumption|refine aa (by omega) ?_),⟨l,s,h12 j u l (by omega) j1,by repeat(first|assumption|refine aa (by omega) ?_),j4.frame (by dsimp only;omega) fun m _ _=>by(repeat(refine aa (by omega) ?_));rfl⟩,hbn,fun m hm=>by(repeat(refine aa (by omega) ?_));exact i12 m hm⟩)
     | some e=>
       rw [ll hof]
       have hbo:jr u (c0 :: c1' :: rest)=some (c0.toNat,e):=(Ey (by rw [D5 hkl,hu];simp;omega)).trans (by simp only [hof];rfl)
       repeat first|apply ae;rfl|apply aR;rfl;(focus((repeat(first|assumption|exact ah|refine aa (by omega) ?_));done));rfl|apply ig;rfl;rfl
       have e1:ch p (j+1)=some (u.set c0.toNat true,l ++ [((4:Int)+(c0.toNat:Int),e)]):=(by show(match ch p j with|none=>none|some (u,l)=>_)=_;rw [j1];exact(Ey hs).trans (by rw [hit,hbo]));have hus:(u.map fun b=>SV.sc (.bool b)).set c0.toNat (.sc (.bool true))=(u.set c0.toNat true).map fun b=>SV.sc (.bool b):=(by rw [List.map_set]);have hle:=h12 j u l (by omega) j1;(repeat(apply ic (q:=c0.toNat);rfl;rfl;rfl;rfl;exact(F.un _ rfl);exact(F.sz _ rfl);(focus(omega));(focus(omega))));rw [show 0+c0.toNat*1=c0.toNat by omega];refine cJ (cs:=u.map fun b=>SV.sc (.bool b)) rfl rfl rfl (F.sz _ rfl) (by repeat(first|assumption|refine aa (by omega) ?_)) rfl (D9 (by rw [ED];omega)) ?_;rw [hus]
       rcases j4 with ⟨rfl,rfl⟩|⟨r,k1,rfl,k2,k3,k4⟩
       ·(repeat(first|apply ae;rfl|apply aR;rfl;(focus((repeat(first|assumption|exact ah|refine aa (by omega) ?_));done));rfl|apply aB;rfl;omega;omega|refine eR (aU (F.un _ rfl) (F.sz _ rfl) (aN rfl) (F.ze _ rfl) rfl rfl rfl rfl rfl) rfl rfl rfl ?_));refine gO (b:=40) (n:=1) (cs:=(Bn.elV ((4:Int)+(c0.toNat:Int),e)).map .sc) rfl rfl rfl rfl (F.un _ rfl) (.inl ⟨_,F.un _ rfl⟩) (F.sz _ rfl) rfl (by kernel_rfl) (by kernel_rfl) (SlOf.row (by repeat(exact ah)) rfl) rfl (by decide) (by decide) ?_;rintro _ _ _ (⟨h,_⟩|⟨_,rfl,rfl,rfl⟩);exact absurd h (by decide);(repeat(first|apply ae;rfl|apply aR;rfl;(focus((repeat(first|assumption|refine aa (by omega) ?_));done));rfl));refine dF (by repeat(first|exact ah|refine aa (by omega) ?_)) (.inl ⟨rfl,⟨au _ _ _,by repeat(first|assumption|refine aa (by omega) ?_),by repeat(first|assumption|refine aa (by omega) ?_),by dsimp only;omega,by repeat(first|assumption|refine aa (by omega) ?_),by repeat(first|assumption|refine aa (by omega) ?_),by repeat(first|exact ah|refine aa (by omega) ?_),by repeat(first|exact ah|refine aa (by omega) ?_),by repeat(first|assumption|refine aa (by omega) ?_),⟨_,_,_,e1,by repeat(first|exact ah|refine aa (by omega) ?_),by repeat(first|exact ah|refine aa (by omega) ?_),.inr ⟨n5+1+1,by simp,rfl,by first|omega|(dsimp only;omega),by first|omega|(dsimp only;omega),Eq.trans (b:=some (fA false 1 4 100 ((Bn.elV ((4:Int)+(c0.toNat:Int),e)).map .sc))) (by repeat(first|exact ah|refine aa (by omega) ?_)) (congrArg some (bU _ _ _ _ _))⟩⟩,fun m hm=>by(repeat(refine aa (by omega) ?_));exact i12 m hm⟩,by dsimp only;omega,by(repeat(refine aa (by omega) ?_));rfl⟩)
       ·(repeat(first|apply ae;rfl|apply aR;rfl;(focus((repeat(first|assumption|exact ah|refine aa (by omega) ?_|refine bO (by omega) ?_));done));rfl|apply aB;rfl;omega;omega|refine eR (aU (F.un _ rfl) (F.sz _ rfl) (aN rfl) (F.ze _ rfl) rfl rfl rfl rfl rfl) rfl rfl rfl ?_|refine mw (b:=40) (xs:=l) (a:=((4:Int)+(c0.toNat:Int),e)) rfl rfl rfl rfl (F.un _ rfl) (.inl ⟨_,F.un _ rfl⟩) (F.sz _ rfl) rfl (by kernel_rfl) (by kernel_rfl) (by repeat(first|assumption|refine aa (by omega) ?_)) (by repeat(exact ah)) (by rfl) (Bn.recP) (by omega) (by omega) ?_));refine dF (by repeat(first|exact ah|refine aa (by omega) ?_|refine bO (by omega) ?_)) (.inl ⟨rfl,⟨au _ _ _,by repeat(first|assumption|refine aa (by omega) ?_|refine bO (by omega) ?_),by repeat(first|assumption|refine aa (by omega) ?_|refine bO (by omega) ?_),by dsimp only;omega,by repeat(first|assumption|refine aa (by omega) ?_|refine bO (by omega) ?_),by repeat(first|assumption|refine aa (by omega) ?_|refine bO (by omega) ?_),by repeat(first|exact ah|refine aa (by omega) ?_|refine bO (by omega) ?_),by repeat(first|exact ah|refine aa (by omega) ?_|refine bO (by omega) ?_),by repeat(first|assumption|refine aa (by omega) ?_|refine bO (by omega) ?_),⟨_,_,_,e1,by repeat(first|exact ah|refine aa (by omega) ?_),by repeat(first|exact ah|refine aa (by omega) ?_|refine bO (by omega) ?_),.inr ⟨n5+1+1,by simp,rfl,by first|omega|(dsimp only;omega),by first|omega|(dsimp only;omega),(by repeat(first|exact ah|refine aa (by omega) ?_))⟩⟩,fun m hm=>by(repeat(first|refine aa (by omega) ?_|refine bO (by omega) ?_));exact i12 m hm⟩,by dsimp only;omega,by(repeat(first|refine aa (by omega) ?_|refine bO (by omega) ?_));rfl⟩)
 ·refine⟨au _ _ _,by repeat(first|assumption|refine aa (by omega) ?_),by repeat(first|assumption|refine aa (by omega) ?_),Em _,by repeat(first|assumption|refine aa (by omega) ?_),by repeat(first|assumption|refine aa (by omega) ?_),by repeat(first|assumption|refine aa (by omega) ?_),by repeat(first|assumption|refine aa (by omega) ?_),by repeat(first|exact ah|refine aa (by omega) ?_),⟨_,[],cC,rfl,by repeat(first|assumption|refine aa (by omega) ?_),by repeat(first|assumption|refine aa (by omega) ?_),.inl ⟨rfl,rfl⟩⟩,fun m hm=>by(repeat(refine aa (by omega) ?_));exact mo m hm⟩
 ·rintro⟨v,H5,n5⟩ (⟨i1,i2,i3,i4,i5,i6,i7,i8,i9,⟨u,l,s,j1,j2,j3,j4⟩,i12⟩|⟨i1,i4,i5,i8,i9,⟨l,s,hl,j2,j4⟩,hno,i12⟩)
  ·dsimp only at i1 i2 i3 i4 i5 i6 i7 i8 i9 j2 j3 j4 i12 ⊢
   rw [j1] at hM
   have hl:=h12 _ _ _ (Em _) j1
   clear i2 i3 i7 j3 j1 h12
   refine gy i1 (fun h=>by cases h) ?_
   dsimp only [gM]
   repeat first|apply ae;rfl|apply aR;rfl;(focus((repeat(first|assumption|refine aa (by omega) ?_));done));rfl
   rcases j4 with ⟨rfl,rfl⟩|⟨r,k1,rfl,k2,k3,k4⟩
   ·have hn:gr p=none:=by
     rw [hM]
     show(if okB (lW [])=true then some (lW []) else none)=none
     rw [show lW []= [] from Eh (mb [])]
     rfl
    have hs0:=Bn.sortF_spec 0 #[] (by decide) rfl
    refine l9 4 100 (d:=79) rfl rfl ?_
    (refine aL rfl rfl rfl (by kernel_rfl) (Ctr.lV (hs0) [n5] rfl ⟨by intro n hn;simp at hn;omega,by simp;try omega⟩ rfl (by repeat(first|exact Gc|refine⟨ai (by repeat(exact ah)),?_⟩)) ?_);rintro _ rfl;refine⟨_,0,[n5],[some _],rfl,(by repeat(first|exact Gc|refine⟨dw _ _ _ _ _ _,?_⟩)),rfl,rfl,?_⟩;dsimp only [wrL])
    repeat first|apply ae;rfl|apply aR;rfl;(focus((repeat(first|assumption|refine aa (by omega) ?_));done));rfl|refine bN (bX (F.un _ rfl) rfl) rfl rfl rfl ?_
    refine br (α:=Nat) (fun i=> [(2,.ptr nx 0),(7,.ptr (nx+1+1+1) 0),(8,.ptr (nx+1+1+1+1) 0),(83,.sc (.int .i64 0)),(84,.sc (.int .i64 0))])
     (fun i H7 n7=>H7.at' nx=some (pgO zeroP)∧H7.at' (nx+1+1+1)=some (lvO cC)∧H7.at' (nx+1+1+1+1)=some (nI false)∧H7.at' (q0+1+1)=some (.dfd (some []))∧nx≤n7∧ ∀ m,m<nx→H7.at' m=H.at' m) (fun i=>0) 0
     ⟨by repeat(first|assumption|refine aa (by omega) ?_),by repeat(first|assumption|refine aa (by omega) ?_),by repeat(first|assumption|refine aa (by omega) ?_),by repeat(first|assumption|refine aa (by omega) ?_),by first|omega|(dsimp only;omega),fun m hm=>by(repeat(refine aa (by omega) ?_));exact i12 m hm⟩ (E8 (Gb rfl)) ?_
    rintro i H7 n7 ⟨o1,o2,o3,o4,o5,o6⟩ _
    repeat first|apply ae;rfl|apply aR;rfl;assumption;rfl|apply rX;rfl;decide|refine bN (bX (F.un _ rfl) rfl) rfl rfl rfl ?_|apply ig;rfl;rfl
    (repeat(first|apply cx ac ac;rfl;assumption|refine cv rfl rfl f9 ?_|apply ae;rfl));refine ia Tryz.func37 (congrArg Array.toList Tryz.results37) (rs:= [q0+1+1]) rfl (fun r hr=>by rw [EE.1 hr];(focus((repeat(first|assumption|refine aa (by omega) ?_));done))) (by simp) ?_;intro H8 hH8;have kz:H8.at' nx=some (pgO zeroP):=(hH8 _ (fun h=>absurd (EE.1 h) (by omega))).trans (by repeat(exact ah));refine⟨_,(by(apply E4 rfl (E6 (F.ag _ rfl) (by assumption) (bH ac)));(repeat(first|exact E3|apply E5 rfl))),?_⟩;exact⟨by dsimp only;omega,fun m hm=>(hH8 _ (fun h=>absurd (EE.1 h) (by omega))).trans (by(repeat(refine aa (by omega) ?_));exact o6 m hm),.inl ⟨hn,rfl⟩⟩
   ·have hs0:=Bn.sortF_spec l.length l.toArray hl (by simp)
    have hn0:0<l.length:=List.length_pos_iff.2 k1
    refine im (R:=fun H6 n6=>n5=n6∧H6.at' nx=some (pgO zeroP)∧H6.at' (nx+1)=some (pgO p)∧H6.at' (nx+1+1+1)=some (lvO (.slu r 0 l.length))∧H6.at' (nx+1+1+1+1)=some (nI false)∧H6.at' r=some (nS l)∧H6.at' (q0+1+1)=some (.dfd (some []))∧ ∀ m,m<nx→H6.at' m=H.at' m) ⟨rfl,by repeat(first|assumption|refine aa (by omega) ?_),by repeat(first|assumption|refine aa (by omega) ?_),by repeat(first|assumption|refine aa (by omega) ?_),by repeat(first|assumption|refine aa (by omega) ?_),by repeat(first|assumption|refine aa (by omega) ?_),by repeat(first|assumption|refine aa (by omega) ?_),fun m hm=>by(repeat(refine aa (by omega) ?_));exact i12 m hm⟩ ?_
    clear i1 i5 i6 i8 i9 i12 k4 j2
    rintro H6 n6 ⟨rfl,b1,b2,b3,b4,b5,b6,b7⟩
    (refine aL rfl rfl rfl (by kernel_rfl) (Ctr.lV (hs0) [r] rfl ⟨by intro n hn;simp at hn;omega,by simp;try omega⟩ rfl (by repeat(first|exact Gc|refine⟨ai (by assumption),?_⟩)) ?_);rintro _ rfl;refine⟨_,0,[r],[some _],rfl,(by repeat(first|exact Gc|refine⟨dw _ _ _ _ _ _,?_⟩)),rfl,rfl,?_⟩;dsimp only [wrL])
    rw [show dat false l.length 4 100 ((Sort.sort Bn.ltP l.toArray).toList.flatMap Bn.elV)=nS (lW l)from zb l]
    replace hM:gr p=if okB (lW l)=true then some (lW l) else none:=hM
    have hsl:=mb l
    rw [← hsl] at hl hn0 b3 ⊢
    generalize lW l=sb at hM hl hn0 b3 ⊢
    clear hs0 hsl k1 b5
    repeat first|apply ae;rfl|apply aR;rfl;(focus((repeat(first|assumption|refine aa (by omega) ?_));done));rfl
    refine vV (d:=14) (s':=Bn.cmpF) rfl (fun e v h=>by simpa [SV.conc,SV.aC] using h) ?_
    refine br (α:=Nat) (fun i=> [(2,.ptr nx 0),(5,.ptr (nx+1) 0),(7,.ptr (nx+1+1+1) 0),(8,.ptr (nx+1+1+1+1) 0),(14,Bn.cmpF),(83,.sc (.int .i64 (sb.length:Int))),(84,.sc (.int .i64 (i:Int)))])
     (fun i H7 n7=>i≤sb.length∧H7.at' nx=some (pgO zeroP)∧H7.at' (nx+1)=some (pgO p)∧H7.at' (nx+1+1+1)=some (lvO (.slu r 0 sb.length))∧H7.at' (nx+1+1+1+1)=some (nI (yD sb i))∧H7.at' r=some (nS sb)∧H7.at' (q0+1+1)=some (.dfd (some []))∧n5≤n7∧ ∀ m,m<nx→H7.at' m=H.at' m) (fun i=>sb.length-i) 0
     ⟨En _,by repeat(first|assumption|refine aa (by omega) ?_),by repeat(first|assumption|refine aa (by omega) ?_),by repeat(first|assumption|refine aa (by omega) ?_),by repeat(first|assumption|refine aa (by omega) ?_),by repeat(exact ah),by repeat(first|assumption|refine aa (by omega) ?_),by first|omega|(dsimp only;omega),fun m hm=>by(repeat(refine aa (by omega) ?_));exact b7 m hm⟩ (E8 (Gb rfl)) ?_
    clear b1 b2 b3 b4 b6 b7
    rintro i H7 n7 ⟨o0,o1,o2,o3,o4,o5,o6,o7,o8⟩ ih
    repeat apply ae;rfl
    refine bm rfl rfl rfl rfl (fun c1=>?_) (fun c1=>?_)
    ·have hi:i<sb.length:=by omega
     repeat apply ae;rfl
     have hdb:yD sb (i+1)=(yD sb i || (decide (0<i) && decide (Bn.ordP (sb.getD i (0,cn)) (sb.getD (i-1) (0,cn))=0))):=rfl
     cases hd:yD sb i with
     | true=>
       rw [hd] at o4 hdb
       (apply cR;(focus(kernel_rfl));(focus(kernel_rfl)))
       repeat first|apply lz;rfl;assumption;rfl|refine ci rfl rfl rfl (F.sz _ rfl) (by assumption) (by rfl) (by rfl) ?_|apply aA;rfl|apply b8;rfl;rfl
       refine ay ⟨by kernel_rfl,?_,?_⟩;(focus(repeat(first|exact Gc|apply mh;rfl|apply Ch;rfl|apply l5;rfl;kernel_rfl|refine jC 0 rfl (by kernel_rfl) (by(repeat(refine⟨(by(exact aI (F.ag _ rfl) rfl (by repeat(first|assumption|exact ah)) (aE rfl))),?_⟩));exact Gc) ?_)))
       repeat first|apply ae;rfl|apply aB;rfl;omega;omega
       exact ih _ _ _ (i+1) ⟨hi,by repeat(first|assumption|refine aa (by omega) ?_),by repeat(first|assumption|refine aa (by omega) ?_),by repeat(first|assumption|refine aa (by omega) ?_),by rw [hdb];(focus((repeat(exact ah));done)),by repeat(first|assumption|refine aa (by omega) ?_),by repeat(first|assumption|refine aa (by omega) ?_),by first|omega|(dsimp only;omega),fun m hm=>by(repeat(refine aa (by omega) ?_));exact o8 m hm⟩ (by omega) (E8 (Gb rfl))
     | false=>
       rw [hd] at o4 hdb
       (apply cR;(focus(kernel_rfl));(focus(kernel_rfl)))
       repeat first|apply lz;rfl;assumption;rfl|apply aA;rfl
       refine jV rfl rfl rfl rfl (fun c2=>?_) (fun c2=>?_)
       ·have hg1:sb.getD i (0,cn)=sb.toArray[i]! :=by rw [Eg,D5 hi,getElem!_pos _ i (by simpa using hi)];simp
        have hg2:sb.getD (i-1) (0,cn)=sb.toArray[i-1]! :=by rw [Eg,D5 (by omega),getElem!_pos _ (i-1) (by simp;omega)];simp
        rw [hg1,hg2] at hdb
        repeat first|apply lz;rfl;assumption;rfl|refine an (q:=i-1) rfl rfl rfl rfl (F.un _ rfl) (F.sz _ rfl) (by assumption) (by omega) (by(omega)) (Em _) ?_|refine an (q:=i) rfl rfl rfl rfl (F.un _ rfl) (F.sz _ rfl) (by assumption) (by omega) (by(omega)) (Em _) ?_|refine aX rfl rfl rfl (F.ag _ rfl) Bn.recP o5 (by simp;omega) (by simp) ?_|apply bg;rfl;rfl;rfl;rfl;(focus(kernel_rfl));rfl;exact(Ctr.callV (Bn.cmp_spec sb.toArray[i-1]! sb.toArray[i]!) [] rfl (E0 rfl) rfl trivial rfl)|apply aA;rfl|refine bq (ak rfl rfl (.inr (.inl ⟨rfl,(D3 _ ⟨(by focus(omega)),(by focus(omega))⟩).symm⟩))) rfl rfl rfl ?_
        refine xX rfl rfl rfl rfl (fun c3=>?_) (fun c3=>?_)
        ·rw [ER (by omega:0<i),ER c3] at hdb
         repeat first|refine ci rfl rfl rfl (F.sz _ rfl) (by assumption) (by rfl) (by rfl) ?_|apply aA;rfl
         refine ay ⟨by kernel_rfl,?_,?_⟩;(focus(repeat(first|exact Gc|apply mh;rfl|apply l5;rfl;kernel_rfl|refine⟨.inr ⟨0,by kernel_rfl,AllH.all (fun _=>(by(exact ak rfl rfl (.inr (.inl ⟨rfl,(D3 _ ⟨by omega,by omega⟩).symm⟩))))) _⟩,?_⟩|refine jC 0 rfl (by kernel_rfl) (by(repeat(refine⟨(by(exact aI (F.ag _ rfl) rfl (by repeat(first|assumption|exact ah|refine aa (by omega) ?_)) (aE rfl))),?_⟩));exact Gc) ?_|refine jC 1 rfl (by kernel_rfl) (by(repeat(refine⟨(by(exact aI (F.ag _ rfl) rfl (by assumption) (aE rfl))),?_⟩));exact Gc) ?_|apply xS;kernel_rfl)));(repeat(first|apply ae;rfl|apply aB;rfl;omega;omega))
         exact ih _ _ _ (i+1) ⟨hi,by repeat(first|assumption|refine aa (by omega) ?_),by repeat(first|assumption|refine aa (by omega) ?_),by repeat(first|assumption|refine aa (by omega) ?_),by rw [hdb];(focus((repeat(exact ah));done)),by repeat(first|assumption|refine aa (by omega) ?_),by repeat(first|assumption|refine aa (by omega) ?_),by first|omega|(dsimp only;omega),fun m hm=>by(repeat(refine aa (by omega) ?_));exact o8 m hm⟩ (by omega) (E8 (Gb rfl))
        ·rw [ER (by omega:0<i),ES c3] at hdb
         repeat first|refine ci rfl rfl rfl (F.sz _ rfl) (by assumption) (by rfl) (by rfl) ?_|apply aA;rfl
         refine ay ⟨by kernel_rfl,?_,?_⟩;(focus(repeat(first|exact Gc|apply mh;rfl|apply l5;rfl;kernel_rfl|refine⟨.inr ⟨0,by kernel_rfl,AllH.all (fun _=>(by(exact ak rfl rfl (.inr (.inl ⟨rfl,(D3 _ ⟨by omega,by omega⟩).symm⟩))))) _⟩,?_⟩|refine jC 0 rfl (by kernel_rfl) (by(repeat(refine⟨(by(exact aI (F.ag _ rfl) rfl (by repeat(first|assumption|exact ah|refine aa (by omega) ?_)) (aE rfl))),?_⟩));exact Gc) ?_|apply xS;kernel_rfl)));(repeat(first|apply ae;rfl|apply aB;rfl;omega;omega))
         exact ih _ _ _ (i+1) ⟨hi,by repeat(first|assumption|refine aa (by omega) ?_),by repeat(first|assumption|refine aa (by omega) ?_),by repeat(first|assumption|refine aa (by omega) ?_),by rw [hdb];(focus((repeat(exact ah));done)),by repeat(first|assumption|refine aa (by omega) ?_),by repeat(first|assumption|refine aa (by omega) ?_),by first|omega|(dsimp only;omega),fun m hm=>by(repeat(refine aa (by omega) ?_));exact o8 m hm⟩ (by omega) (E8 (Gb rfl))
       ·rw [ES (by omega: ¬ 0<i)] at hdb
        repeat first|refine ci rfl rfl rfl (F.sz _ rfl) (by assumption) (by rfl) (by rfl) ?_|apply aA;rfl|apply b8;rfl;rfl
        refine ay ⟨by kernel_rfl,?_,?_⟩;(focus(repeat(first|exact Gc|apply mh;rfl|apply Ch;rfl|apply l5;rfl;kernel_rfl|refine jC 0 rfl (by kernel_rfl) (by(repeat(refine⟨(by(exact aI (F.ag _ rfl) rfl (by repeat(first|assumption|exact ah)) (aE rfl))),?_⟩));exact Gc) ?_|apply xS;kernel_rfl)));(repeat(first|apply ae;rfl|apply aB;rfl;omega;omega))
        exact ih _ _ _ (i+1) ⟨hi,by repeat(first|assumption|refine aa (by omega) ?_),by repeat(first|assumption|refine aa (by omega) ?_),by repeat(first|assumption|refine aa (by omega) ?_),by rw [hdb];(focus((repeat(exact ah));done)),by repeat(first|assumption|refine aa (by omega) ?_),by repeat(first|assumption|refine aa (by omega) ?_),by first|omega|(dsimp only;omega),fun m hm=>by(repeat(refine aa (by omega) ?_));exact o8 m hm⟩ (by omega) (E8 (Gb rfl))
    ·repeat first|apply ae;rfl|apply bk;rfl|apply aR;rfl;assumption;rfl
     have hin:i=sb.length:=by omega
     subst hin
     have hB:okB sb=(!(yD sb sb.length) && xJ sb):=rfl
     cases hd:yD sb sb.length with
     | true=>
       rw [hd] at o4 hB
       have hn:gr p=none:=by rw [hM,hB];rfl
       repeat apply ae;rfl
       (repeat(first|apply cx ac ac;rfl;assumption|refine cv rfl rfl f9 ?_|apply ae;rfl));refine ia Tryz.func37 (congrArg Array.toList Tryz.results37) (rs:= [q0+1+1]) rfl (fun r hr=>by rw [EE.1 hr];(focus((repeat(first|assumption|refine aa (by omega) ?_));done))) (by simp) ?_;intro H8 hH8;have kz:H8.at' nx=some (pgO zeroP):=(hH8 _ (fun h=>absurd (EE.1 h) (by omega))).trans (by repeat(exact ah));refine⟨_,(by(apply E4 rfl (E6 (F.ag _ rfl) (by assumption) (bH ac)));(repeat(first|exact E3|apply E5 rfl))),?_⟩;exact⟨by dsimp only;omega,fun m hm=>(hH8 _ (fun h=>absurd (EE.1 h) (by omega))).trans (by(repeat(refine aa (by omega) ?_));exact o8 m hm),.inl ⟨hn,rfl⟩⟩
     | false=>
       rw [hd] at o4 hB
       repeat first|apply ae;rfl|apply aR;rfl;assumption;rfl|apply tp;rfl;omega
       obtain⟨x0,s0',rfl⟩: ∃ x l,sb=x :: l:=by cases sb with|nil=>simp at hn0|cons a l=>exact⟨a,l,rfl⟩
       repeat first|refine cQ (q:=0) rfl rfl rfl rfl (F.un _ rfl) (F.sz _ rfl) o5 rfl hn0 (Em _) ?_|refine cP (us:= [.string x0.2.1,.int .i64 x0.2.2.1,.int .i64 x0.2.2.2]) rfl rfl rfl (F.ag _ rfl) o5 rfl rfl (by simp;omega) ?_|apply ae;rfl
       cases he:gq x0.2 cn with
       | false=>
         refine bN (mc he rfl rfl) rfl rfl rfl ?_
         have hn:gr p=none:=by rw [hM,hB];simp only [xJ,he];rfl
         repeat apply ae;rfl
         (repeat(first|apply cx ac ac;rfl;assumption|refine cv rfl rfl f9 ?_|apply ae;rfl));refine ia Tryz.func37 (congrArg Array.toList Tryz.results37) (rs:= [q0+1+1]) rfl (fun r hr=>by rw [EE.1 hr];(focus((repeat(first|assumption|refine aa (by omega) ?_));done))) (by simp) ?_;intro H8 hH8;have kz:H8.at' nx=some (pgO zeroP):=(hH8 _ (fun h=>absurd (EE.1 h) (by omega))).trans (by repeat(exact ah));refine⟨_,(by(apply E4 rfl (E6 (F.ag _ rfl) (by assumption) (bH ac)));(repeat(first|exact E3|apply E5 rfl))),?_⟩;exact⟨by dsimp only;omega,fun m hm=>(hH8 _ (fun h=>absurd (EE.1 h) (by omega))).trans (by(repeat(refine aa (by omega) ?_));exact o8 m hm),.inl ⟨hn,rfl⟩⟩
       | true=>
         refine bN (mc he rfl rfl) rfl rfl rfl ?_
         have hn:gr p=some (x0 :: s0'):=by rw [hM,hB];simp only [xJ,he];rfl
         repeat apply ae;rfl
         (apply cR;(focus(kernel_rfl));(focus(kernel_rfl)))
         repeat first|refine fp rfl rfl rfl (F.ag _ rfl) o2 (bf hp) ?_|refine fV rfl rfl rfl (F.sz _ rfl) (by assumption) (bf hp) (by rw [bf ac];exact Em _) (iG _) (jx _ _ ac hp) ?_|apply lz;rfl;assumption;rfl|apply aA;rfl
         refine ay ⟨by kernel_rfl,?_,?_⟩;(focus(repeat(first|exact Gc|apply mh;rfl|apply l5;rfl;kernel_rfl|refine jC 0 rfl (by kernel_rfl) (by(repeat(refine⟨(by first|exact aI (F.ag _ rfl) rfl (by repeat(first|assumption|refine aa (by omega) ?_)) (aE rfl)|exact bA (F.ag _ rfl) rfl o2 (bH hp)|exact bA (F.ag _ rfl) rfl (by(repeat(refine aa (by omega) ?_));exact o2) (bH hp)),?_⟩));exact Gc) ?_)))
         refine ia Tryz.func37 (congrArg Array.toList Tryz.results37) (rs:= [q0+1+1]) rfl (fun r hr=>by rw [EE.1 hr];(focus((repeat(first|assumption|refine aa (by omega) ?_));done))) (by simp) ?_
         intro H8 hH8
         have kz:H8.at' nx=some (pgO p):=(hH8 _ (fun h=>absurd (EE.1 h) (by omega))).trans (by repeat(exact ah))
         refine⟨_,(by(apply E4 rfl (E6 (F.ag _ rfl) (by assumption) (bH hp)));(repeat(first|exact E3|apply E5 rfl))),?_⟩
         exact⟨by dsimp only;omega,fun m hm=>(hH8 _ (fun h=>absurd (EE.1 h) (by omega))).trans (by(repeat(refine aa (by omega) ?_));exact o8 m hm),.inr ⟨x0 :: s0',r,hn,rfl,by omega,by dsimp only;omega,(hH8 _ (fun h=>absurd (EE.1 h) (by omega))).trans (by(repeat(refine aa (by omega) ?_));exact o5)⟩⟩
  ·dsimp only at i1 i4 i5 i8 i9 j2 j4 i12 ⊢
   have hn:gr p=none:=by rw [hM,hno]
   refine gy i1 (fun h=>by cases h) ?_
   dsimp only [gM]
   repeat first|apply ae;rfl|apply aR;rfl;(focus((repeat(first|assumption|refine aa (by omega) ?_));done));rfl
   rcases j4 with ⟨rfl,rfl⟩|⟨r,k1,rfl,k2,k3,k4⟩
   ·have hs0:=Bn.sortF_spec 0 #[] (by decide) rfl
    refine l9 4 100 (d:=79) rfl rfl ?_
    (refine aL rfl rfl rfl (by kernel_rfl) (Ctr.lV (hs0) [n5] rfl ⟨by intro n hn;simp at hn;omega,by simp;try omega⟩ rfl (by repeat(first|exact Gc|refine⟨ai (by repeat(exact ah)),?_⟩)) ?_);rintro _ rfl;refine⟨_,0,[n5],[some _],rfl,(by repeat(first|exact Gc|refine⟨dw _ _ _ _ _ _,?_⟩)),rfl,rfl,?_⟩;dsimp only [wrL])
    repeat first|apply ae;rfl|apply aR;rfl;(focus((repeat(first|assumption|refine aa (by omega) ?_));done));rfl|refine bN (bX (F.un _ rfl) rfl) rfl rfl rfl ?_
    refine br (α:=Nat) (fun i=> [(2,.ptr nx 0),(7,.ptr (nx+1+1+1) 0),(8,.ptr (nx+1+1+1+1) 0),(83,.sc (.int .i64 0)),(84,.sc (.int .i64 0))])
     (fun i H7 n7=>H7.at' nx=some (pgO zeroP)∧H7.at' (nx+1+1+1+1)=some (nI true)∧H7.at' (q0+1+1)=some (.dfd (some []))∧nx≤n7∧ ∀ m,m<nx→H7.at' m=H.at' m) (fun i=>0) 0
     ⟨by repeat(first|assumption|refine aa (by omega) ?_),by repeat(first|assumption|refine aa (by omega) ?_),by repeat(first|assumption|refine aa (by omega) ?_),by first|omega|(dsimp only;omega),fun m hm=>by(repeat(refine aa (by omega) ?_));exact i12 m hm⟩ (E8 (Gb rfl)) ?_
    rintro i H7 n7 ⟨o1,o3,o4,o5,o6⟩ _
    repeat first|apply ae;rfl|apply aR;rfl;assumption;rfl|apply rX;rfl;decide
    (repeat(first|apply cx ac ac;rfl;assumption|refine cv rfl rfl f9 ?_|apply ae;rfl));refine ia Tryz.func37 (congrArg Array.toList Tryz.results37) (rs:= [q0+1+1]) rfl (fun r hr=>by rw [EE.1 hr];(focus((repeat(first|assumption|refine aa (by omega) ?_));done))) (by simp) ?_;intro H8 hH8;have kz:H8.at' nx=some (pgO zeroP):=(hH8 _ (fun h=>absurd (EE.1 h) (by omega))).trans (by repeat(exact ah));refine⟨_,(by(apply E4 rfl (E6 (F.ag _ rfl) (by assumption) (bH ac)));(repeat(first|exact E3|apply E5 rfl))),?_⟩;exact⟨by dsimp only;omega,fun m hm=>(hH8 _ (fun h=>absurd (EE.1 h) (by omega))).trans (by(repeat(refine aa (by omega) ?_));exact o6 m hm),.inl ⟨hn,rfl⟩⟩
   ·have hs0:=Bn.sortF_spec l.length l.toArray hl (by simp)
    refine im (R:=fun H6 n6=>n5=n6∧H6.at' nx=some (pgO zeroP)∧H6.at' (nx+1+1+1)=some (lvO (.slu r 0 l.length))∧H6.at' (nx+1+1+1+1)=some (nI true)∧H6.at' r=some (nS l)∧H6.at' (q0+1+1)=some (.dfd (some []))∧ ∀ m,m<nx→H6.at' m=H.at' m) ⟨rfl,by repeat(first|assumption|refine aa (by omega) ?_),by repeat(first|assumption|refine aa (by omega) ?_),by repeat(first|assumption|refine aa (by omega) ?_),by repeat(first|assumption|refine aa (by omega) ?_),by repeat(first|assumption|refine aa (by omega) ?_),fun m hm=>by(repeat(refine aa (by omega) ?_));exact i12 m hm⟩ ?_
    clear i1 i5 i8 i9 i12 k4 j2
    rintro H6 n6 ⟨rfl,b1,b3,b4,b5,b6,b7⟩
    (refine aL rfl rfl rfl (by kernel_rfl) (Ctr.lV (hs0) [r] rfl ⟨by intro n hn;simp at hn;omega,by simp;try omega⟩ rfl (by repeat(first|exact Gc|refine⟨ai (by assumption),?_⟩)) ?_);rintro _ rfl;refine⟨_,0,[r],[some _],rfl,(by repeat(first|exact Gc|refine⟨dw _ _ _ _ _ _,?_⟩)),rfl,rfl,?_⟩;dsimp only [wrL])
    repeat first|apply ae;rfl|apply aR;rfl;(focus((repeat(first|assumption|refine aa (by omega) ?_));done));rfl
    refine br (α:=Nat) (fun i=> [(2,.ptr nx 0),(7,.ptr (nx+1+1+1) 0),(8,.ptr (nx+1+1+1+1) 0),(83,.sc (.int .i64 (l.length:Int))),(84,.sc (.int .i64 (i:Int)))])
     (fun i H7 n7=>i≤l.length∧H7.at' nx=some (pgO zeroP)∧H7.at' (nx+1+1+1)=some (lvO (.slu r 0 l.length))∧H7.at' (nx+1+1+1+1)=some (nI true)∧H7.at' (q0+1+1)=some (.dfd (some []))∧nx≤n7∧ ∀ m,m<nx→H7.at' m=H.at' m) (fun i=>l.length-i) 0
     ⟨En _,by repeat(first|assumption|refine aa (by omega) ?_),by repeat(first|assumption|refine aa (by omega) ?_),by repeat(first|assumption|refine aa (by omega) ?_),by repeat(first|assumption|refine aa (by omega) ?_),by first|omega|(dsimp only;omega),fun m hm=>by(repeat(refine aa (by omega) ?_));exact b7 m hm⟩ (E8 (Gb rfl)) ?_
    clear b1 b3 b4 b6 b7
    rintro i H7 n7 ⟨o0,o1,o3,o4,o6,o7,o8⟩ ih
    repeat apply ae;rfl
    refine bm rfl rfl rfl rfl (fun c1=>?_) (fun c1=>?_)
    ·repeat apply ae;rfl
     (apply cR;(focus(kernel_rfl));(focus(kernel_rfl)))
     repeat first|apply lz;rfl;assumption;rfl|refine ci rfl rfl rfl (F.sz _ rfl) (by assumption) (by rfl) (by rfl) ?_|apply aA;rfl|apply b8;rfl;rfl
     refine ay ⟨by kernel_rfl,?_,?_⟩;(focus(repeat(first|exact Gc|apply mh;rfl|apply Ch;rfl|apply l5;rfl;kernel_rfl|refine jC 0 rfl (by kernel_rfl) (by(repeat(refine⟨(by(exact aI (F.ag _ rfl) rfl (by repeat(first|assumption|exact ah)) (aE rfl))),?_⟩));exact Gc) ?_)))
     repeat first|apply ae;rfl|apply aB;rfl;omega;omega
     exact ih _ _ _ (i+1) ⟨by omega,by repeat(first|assumption|refine aa (by omega) ?_),by repeat(first|assumption|refine aa (by omega) ?_),by repeat(exact ah),by repeat(first|assumption|refine aa (by omega) ?_),by first|omega|(dsimp only;omega),fun m hm=>by(repeat(refine aa (by omega) ?_));exact o8 m hm⟩ (by omega) (E8 (Gb rfl))
    ·repeat first|refine aZ rfl rfl rfl (F.ag _ rfl) o4 rfl ?_|apply ae;rfl
     (repeat(first|apply cx ac ac;rfl;assumption|refine cv rfl rfl f9 ?_|apply ae;rfl));refine ia Tryz.func37 (congrArg Array.toList Tryz.results37) (rs:= [q0+1+1]) rfl (fun r hr=>by rw [EE.1 hr];(focus((repeat(first|assumption|refine aa (by omega) ?_));done))) (by simp) ?_;intro H8 hH8;have kz:H8.at' nx=some (pgO zeroP):=(hH8 _ (fun h=>absurd (EE.1 h) (by omega))).trans (by repeat(exact ah));refine⟨_,(by(apply E4 rfl (E6 (F.ag _ rfl) (by assumption) (bH ac)));(repeat(first|exact E3|apply E5 rfl))),?_⟩;exact⟨by dsimp only;omega,fun m hm=>(hH8 _ (fun h=>absurd (EE.1 h) (by omega))).trans (by(repeat(refine aa (by omega) ?_));exact o8 m hm),.inl ⟨hn,rfl⟩⟩
abbrev fB(e:a7):List Value:= [.string e.1,.int .i64 e.2.1,.int .i64 e.2.2]
theorem dW{A:Type}{f:A→List Value}(hf: ∀ a,(f a).length=4): ∀ (l:List A) (i o n:Nat) (hi:i<l.length),o+n≤4→((l.flatMap f).drop (i*4+o)).take n=((f l[i]).drop o).take n
 | [],i,_,_,hi,_=>by simp at hi
 | a :: l,0,o,n,_,h=>by
   rw [List.flatMap_cons,Nat.zero_mul,EA,List.drop_append_of_le_length (by rw [hf];omega),List.take_append_of_le_length (by rw [EF,hf];omega)]
   rfl
 | a :: l,i+1,o,n,hi,h=>by
   rw [List.flatMap_cons,List.drop_append,List.drop_of_length_le (by rw [hf];omega),List.nil_append,hf,show(i+1)*4+o-4=i*4+o by omega]
   exact dW hf l i o n (by simpa using hi) h
def ij(bs:List Bn.El)(e:a7):Nat→Nat
 | 0=>0
 | i+1=>if bj e (bs.getD (i+1) (0,cn)).2=true then ij bs e i else i+1
def bG(bs:List Bn.El)(e:a7):Nat:=ij bs e (bs.length-1)
theorem qU(bs:List Bn.El)(e:a7): ∀ i,ij bs e i≤i
 | 0=>Em _
 | i+1=>by
   unfold ij
   split
   ·exact Nat.le_succ_of_le (qU bs e i)
   ·exact Em _
theorem eW(e:a7)(h:0<bs.length):bG bs e<bs.length:=by
 have:=qU bs e (bs.length-1)
 unfold bG
 omega
theorem pF{nx r:Nat}(e:a7)(hr:H.at' r=some (nS bs))(h0:0<bs.length)(hl:bs.length≤1000000):Fnc Tryz.prog 39 [.slu r 0 bs.length,io e] H nx (fun q=>q=(.sc (.int .i64 (bG bs e:Int)),H,nx)):=by
 refine Fnc.bV (Free.sc _) ?_
 refine E2 Tryz.func39 rfl rfl ?_
 refine a9 fun hund=>?_
 have hlt:=hund _ _ hr
 repeat first|apply ae;rfl|apply aB;rfl;omega;omega
 rw [show(bs.length:Int)-1=((bs.length-1:Nat):Int) by omega]
 refine br (α:=Nat) (fun i=> [(0,.slu r 0 bs.length),(3,.ptr nx 0),(5,.sc (.int .i64 (i:Int)))])
  (fun i H1 n1=>i<bs.length∧n1=nx+1∧H1.at' nx=some (am 25 ((fB e).map .sc))∧H1.at' r=some (nS bs)∧(∀ m,m<nx→H1.at' m=H.at' m)∧ij bs e i=bG bs e) (fun i=>i) (bs.length-1)
  ⟨by omega,rfl,by repeat(exact ah),by repeat(first|assumption|refine aa (by omega) ?_),fun m hm=>by(repeat(refine aa (by omega) ?_));rfl,rfl⟩ (E8 (Gb rfl)) ?_
 rintro i H1 n1 ⟨i0,rfl,i1,i2,i3,i4⟩ ih
 repeat apply ae;rfl
 (apply cR;(focus(kernel_rfl));(focus(kernel_rfl)))
 repeat apply aA;rfl
 refine jV rfl rfl rfl rfl (fun c1=>?_) (fun c1=>?_)
 ·obtain⟨i,rfl⟩: ∃ i',i=i'+1:=⟨i-1,by omega⟩
  have hfp:=dW (f:=Bn.elV) (fun _=>rfl) bs (i+1) 1 3 i0 (by decide)
  have hle:=AM e (bs[i+1]).2 (H:=H1) (nx:=nx+1)
  have hgd:(bs.getD (i+1) (0,cn)).2=(bs[i+1]).2:=by rw [Eg,D5 i0];rfl
  have hgo:ij bs e (i+1)=if bj e (bs.getD (i+1) (0,cn)).2=true then ij bs e i else i+1:=rfl
  rw [hgd] at hgo
  repeat first|apply lz;rfl;assumption;rfl|refine an (q:=i+1) rfl rfl rfl rfl (F.un _ rfl) (F.sz _ rfl) (by assumption) (by omega) (by(omega)) (Em _) ?_|refine fW (us:=fB (bs[i+1]).2) rfl rfl rfl (F.ag _ rfl) i2 hfp rfl (by omega) ?_|refine eZ rfl rfl rfl (by kernel_rfl) hle ?_|apply aA;rfl
  refine ay ⟨by kernel_rfl,?_,?_⟩;(focus(repeat(first|exact Gc|apply mh;rfl|apply l5;rfl;kernel_rfl|refine jC 0 rfl (by kernel_rfl) (by(repeat(refine⟨(by first|exact bA (F.ag _ rfl) rfl (by assumption) (aH _ 0 rfl rfl)|exact az (i:=i+1) (F.un _ rfl) (F.sz _ rfl) rfl rfl i2 rfl (by omega) (Em _)|exact bA (F.ag _ rfl) rfl i2 (dM _ _ hfp rfl (by omega))|exact ct rfl rfl (.inr (.inr (.inr (.inr (.inl ⟨rfl,(ER (by omega)).symm⟩)))))),?_⟩));exact Gc) ?_)))
  cases hc:bj e (bs[i+1]).2 with
  | true=>
    rw [hc,Ez rfl] at hgo
    repeat first|apply ae;rfl|apply aB;rfl;omega;omega
    rw [show((i+1:Nat):Int)-1=(i:Int) by omega]
    exact ih _ _ _ i ⟨by omega,rfl,i1,i2,i3,by rw [← hgo];exact i4⟩ (by omega) (E8 (Gb rfl))
  | false=>
    rw [hc,Ey (by decide)] at hgo
    repeat apply ae;rfl
    (apply bW Tryz.func39 Tryz.results39;rfl)
    exact⟨by rw [← i4,hgo];rfl,Ew _,i3⟩
 ·repeat first|apply aA;rfl|apply b8;rfl;rfl
  refine ay ⟨by kernel_rfl,?_,?_⟩;(focus(repeat(first|exact Gc|apply Ch;rfl|apply l5;rfl;kernel_rfl|refine jC 0 rfl (by kernel_rfl) (by(repeat(refine⟨(by(exact ct rfl rfl (.inr (.inr (.inr (.inr (.inl ⟨rfl,(ES (by omega)).symm⟩))))))),?_⟩));exact Gc) ?_)))
  repeat apply ae;rfl
  (apply bW Tryz.func39 Tryz.results39;rfl)
  obtain rfl:i=0:=by omega
  exact⟨by rw [← i4];rfl,Ew _,i3⟩
def cU(p:List UInt8)(bs:List Bn.El)(i:Nat):Nat→Option (List Ow.El×List Int)
 | 0=>some ([],[])
 | j+1=>match cU p bs i j with
   | none=>none
   | some (own,left)=>if aG p j=0 then some (own,left) else match ofL (cd p j)with
     | none=>none
     | some e=>if bG bs e=i then some (own ++ [(e,(j:Int))],left) else some (own,left ++ [(j:Int)])
theorem sM{i j:Nat}(h:cU p bs i j=none): ∀ {k:Nat},j≤k→cU p bs i k=none:=by
 intro k hk
 induction k with
 | zero=>rw [Nat.le_zero.1 hk] at h;exact h
 | succ k ih=>
   rcases EB k j with h1|h1
   ·rw [show k+1=j by omega];exact h
   ·show(match cU p bs i k with|none=>none|some (own,left)=>_)=none
    rw [ih h1]
theorem gF{p:List UInt8}{bs:List Bn.El}{i:Nat}: ∀ {j:Nat} {own:List Ow.El} {left:List Int},cU p bs i j=some (own,left)→own.length+left.length≤j
 | 0,own,left,h=>by
   unfold cU at h
   cases h
   exact Em _
 | j+1,own,left,h=>by
   unfold cU at h
   cases hr:cU p bs i j with
   | none=>rw [hr] at h;cases h
   | some x=>
     obtain⟨o,l⟩:=x
     have:=gF hr
     rw [hr] at h
     simp only at h
     split at h
     ·cases h;omega
     ·cases hb:ofL (cd p j)with
      | none=>rw [hb] at h;cases h
      | some e=>
        rw [hb] at h
        simp only at h
        split at h
        ·cases h;rw [Er,List.length_singleton];omega
        ·cases h;rw [Er,List.length_singleton];omega
def nJ(l:List Ow.El):List Ow.El:=(Sort.sort Ow.ltP l.toArray).toList
def xZ(s:List Ow.El):Nat→Bool
 | 0=>false
 | i+1=>xZ s i || (decide (0<i) && gq (s.getD (i-1) (cn,0)).1 (s.getD i (cn,0)).1)
def eL(p:List UInt8)(bs:List Bn.El)(i:Nat):Option (List Ow.El×List Int):=if cr p=true∧kP p=3 then(match cU p bs i (aj p)with
 | none=>none
 | some (own,left)=>if xZ (nJ own) (nJ own).length=true then none else some (nJ own,left)) else none
abbrev tO(l:List Ow.El):VO:=Ow.rowP l.length l.toArray
abbrev xv(l:List Int):VO:=dat false l.length 1 3 (l.flatMap fun n=> [.int .i64 n])
theorem kW(l:List Ow.El):(nJ l).Perm l∧(nJ l).Pairwise (fun x y=>bj y.1 x.1=false):=nZ CD l
theorem j6(l:List Ow.El):(nJ l).length=l.length:=(kW l).1.length_eq
theorem tv(l:List Ow.El):dat false l.length 4 128 ((Sort.sort Ow.ltP l.toArray).toList.flatMap Ow.elV)=tO (nJ l):=by
 show dat false l.length 4 _ _=dat false (nJ l).length 4 _ _
 rw [j6]
 rfl
def OwnAt(H:aw)(s:SV)(l:List Ow.El)(lo hi:Nat):Prop:=(l= []∧s=cC)∨ ∃ r,l≠ []∧s = .slu r 0 l.length∧lo≤r∧r<hi∧H.at' r=some (tO l)
def IntsAt(H:aw)(s:SV)(l:List Int)(lo hi:Nat):Prop:=(l= []∧s=cC)∨ ∃ r,l≠ []∧s = .slu r 0 l.length∧lo≤r∧r<hi∧H.at' r=some (xv l)
theorem OwnAt.frame{H':aw}{l:List Ow.El}{hi':Nat}(h:OwnAt H s l lo hi)(hh:hi≤hi')(hf: ∀ m,lo≤m→m<hi→H.at' m=some (tO l)→H'.at' m=H.at' m):OwnAt H' s l lo hi':=by
 rcases h with h|⟨r,h1,h2,h3,h4,h5⟩
 ·exact .inl h
 ·exact .inr ⟨r,h1,h2,h3,by omega,(hf r h3 h4 h5).trans h5⟩
theorem IntsAt.frame{H':aw}{l:List Int}{hi':Nat}(h:IntsAt H s l lo hi)(hh:hi≤hi')(hf: ∀ m,lo≤m→m<hi→H.at' m=some (xv l)→H'.at' m=H.at' m):IntsAt H' s l lo hi':=by
 rcases h with h|⟨r,h1,h2,h3,h4,h5⟩
 ·exact .inl h
 ·exact .inr ⟨r,h1,h2,h3,by omega,(hf r h3 h4 h5).trans h5⟩
theorem OwnAt.one{H:aw}{s:SV}{l:List Ow.El}{lo hi:Nat}(h:OwnAt H s l lo hi):s.one=true:=by
 rcases h with ⟨_,rfl⟩|⟨_,_,rfl,_⟩ <;> rfl
theorem IntsAt.one{H:aw}{s:SV}{l:List Int}{lo hi:Nat}(h:IntsAt H s l lo hi):s.one=true:=by
 rcases h with ⟨_,rfl⟩|⟨_,_,rfl,_⟩ <;> rfl
abbrev dP(n:Int)(p:List UInt8)(so sl:SV):List SV:= .sc (.int .i64 n) :: (pgS p ++ [so,sl])
abbrev ee(n:Int)(p:List UInt8)(so sl:SV):VO:=am 86 (dP n p so sl)
theorem aO(hp:p.length=1024)(so sl:SV):(dP n p so sl).length=1027:=by simp [hp]
theorem bC(hp:p.length=1024)(so sl:SV)(j:Nat):(dP n p so sl)[1025+j]? = [so,sl][j]? :=by
 rw [show 1025+j=(1024+j)+1 by omega,List.getElem?_cons_succ,EI (by rw [bf hp];omega),bf hp,Nat.add_sub_cancel_left]
theorem ol(hp:p.length=1024)(so sl so':SV):(dP n p so sl).set 1025 so'=dP n p so' sl:=by
 show _ :: (pgS p ++ [so,sl]).set 1024 so'=_
 rw [List.set_append_right _ _ (by rw [bf hp];exact Em _),bf hp]
 rfl
theorem oq(hp:p.length=1024)(so sl sl':SV):(dP n p so sl).set 1026 sl'=dP n p so sl':=by
 show _ :: (pgS p ++ [so,sl]).set 1025 sl'=_
 rw [List.set_append_right _ _ (by rw [bf hp];decide),bf hp]
 rfl
theorem vk{x:List UInt8}(hp:p.length=1024)(hx:x.length=1024)(so sl:SV):(dP n p so sl).take (0+1) ++ pgS x ++ (dP n p so sl).drop (0+1+1024)=dP n x so sl:=by
 show [.sc (.int .i64 n)] ++ pgS x ++ (pgS p ++ [so,sl]).drop 1024=_
 rw [List.drop_append_of_le_length (by rw [bf hp];exact Em _),List.drop_of_length_le (by rw [bf hp];exact Em _)]
 rfl
theorem mX(hp:p.length=1024)(so sl:SV):(ee n p so sl).cellsFrom (0+1) 1024=some (pgS p):=
 aH _ _ (by show(pgS p ++ [so,sl]).take 1024=pgS p;rw [List.take_append_of_le_length (by rw [bf hp];exact Em _)];exact Ed (by rw [bf hp];exact Em _)) (bf hp)
theorem gX(hp:p.length=1024)(so sl:SV):(ee n p so sl).cellsFrom 0 1027=some (dP n p so sl):=
 aH _ _ (by rw [List.drop_zero];exact Ed (by rw [aO hp];exact Em _)) (aO hp _ _)
abbrev tf:List SV:=dP 0 zeroP cC cC
theorem nU:qe Tryz.prog 86=some tf:=by kernel_rfl
theorem qf:lR Tryz.prog 86 []=some (.agg tf):=by kernel_rfl
theorem dK(n:Int)(p:List UInt8){so sl:SV}(h1:so.one=true)(h2:sl.one=true):cq (dP n p so sl)=true:=by
 show(true && cq (pgS p ++ [so,sl]))=true
 have h:=iG p
 generalize pgS p=l at h ⊢
 induction l with
 | nil=>simp [cq,h1,h2]
 | cons a l ih=>
   simp only [cq,Ek,List.cons_append,Bool.true_and] at h ih ⊢
   exact⟨h.1,ih h.2⟩
theorem dI{n':Int}{p':List UInt8}{so sl so' sl':SV}(hp:p.length=1024)(hp':p'.length=1024):(dP n p so sl).take 0 ++ dP n' p' so' sl' ++ (dP n p so sl).drop (0+1027)=dP n' p' so' sl':=by
 rw [List.take_zero,List.nil_append,List.drop_of_length_le (by rw [aO hp];decide),EM]
end
end Go.Proofs.YtelnglhodnoclaaGreat
end
section
namespace Go.Proofs.YtelnglhodnoclaaGreat
namespace Ow
open Go Go.Sy
section
variable {first hi root:Nat}{d:Array El}{lt:El→El→Bool}
theorem ez(lt:El→El→Bool)(hi first root:Nat)(d:Array El):(Sort.siftDown lt hi first root d).size=d.size:=by
 induction h:hi-root using Nat.strongRecOn generalizing root d with
 | _ m ih=>
   subst h
   unfold Sort.siftDown
   split
   ·rfl
   ·split
    ·split
     ·rfl
     ·split
      ·rw [ih _ (by omega) _ _ rfl,aq]
      ·rfl
    ·split
     ·rfl
     ·rw [ih _ (by omega) _ _ rfl,aq]
theorem mE(h:hi≤2*root+1):Sort.siftDown lt hi first root d=d:=by
 unfold Sort.siftDown
 rw [dif_pos h]
theorem ww(h:2*root+2<hi)(hl:lt d[first+(2*root+1)]! d[first+(2*root+2)]! =true) :
 Sort.siftDown lt hi first root d=if lt d[first+root]! d[first+(2*root+2)]! =true then Sort.siftDown lt hi first (2*root+2) (Sort.swp d (first+root) (first+(2*root+2))) else d:=by
 conv=>lhs;unfold Sort.siftDown
 rw [dif_neg (by omega),Ez (by simp only [Ek,EZ];exact⟨by omega,hl⟩)]
 cases lt d[first+root]! d[first+(2*root+2)]!
 ·simp
 ·simp only [Bool.not_true,Bool.false_eq_true,if_false,if_true]
  rw [dif_pos (by omega)]
theorem qr(h:2*root+1<hi)(hl:hi≤2*root+2∨lt d[first+(2*root+1)]! d[first+(2*root+2)]! =false) :
 Sort.siftDown lt hi first root d=if lt d[first+root]! d[first+(2*root+1)]! =true then Sort.siftDown lt hi first (2*root+1) (Sort.swp d (first+root) (first+(2*root+1))) else d:=by
 conv=>lhs;unfold Sort.siftDown
 rw [dif_neg (by omega),Ey (by
  simp only [Ek,EZ]
  rintro⟨h1,h2⟩
  rcases hl with hl|hl
  ·omega
  ·rw [show first+(2*root+2)=first+(2*root+1)+1 by omega,h2] at hl;cases hl)]
 cases lt d[first+root]! d[first+(2*root+1)]! <;> simp
theorem iw(n lo hi first:Nat)(d:Array El)(hn:n<4611686018427387904)(hd:d.size=n)(hf:first+hi≤n)(hlo:lo≤n) :
 Ctr Tryz.prog 131 [.slu 0 0 n,.sc (.int .i64 (lo:Int)),.sc (.int .i64 (hi:Int)),.sc (.int .i64 (first:Int)),cmpF] [rowP n d] (fun c=>c=⟨.tup [],[some (rowP n (Sort.siftDown ltP hi first lo d))]⟩):=by
 refine E2 Tryz.func131 rfl rfl ?_
 repeat apply ae;rfl
 refine cO 1 (fun s:Nat×Array El=> [(0,.slu 0 0 n),(2,.sc (.int .i64 (hi:Int))),(3,.sc (.int .i64 (first:Int))),(4,cmpF),(10,.sc (.int .i64 (s.1:Int)))]) (fun s=> [some (rowP n s.2)]) (fun s=>s.1≤n∧s.2.size=n∧Sort.siftDown ltP hi first s.1 s.2=Sort.siftDown ltP hi first lo d) (fun s=>n-s.1) (lo,d) []
  (fun _=>rfl) ⟨hlo,hd,rfl⟩ ?_ (fun _=>rfl) (fun _=>rfl) ?_
 ·(exact Ga rfl rfl rfl ⟨ai rfl,trivial⟩)
 rintro⟨r,d1⟩ ⟨hr,hd1,ho⟩ ih
 simp only at hr hd1 ho ih ⊢
 repeat first|apply ae;rfl|apply aB;rfl;omega;omega
 refine cD rfl rfl rfl rfl ?_ ?_
 all_goals intro h1
 ·repeat apply ae;rfl
  ((apply jF Tryz.func131 (congrArg Array.toList Tryz.results131));(focus(repeat(exact E3)));refine⟨_,rfl,Ends.mk [] (E0 rfl) rfl rfl ?_⟩)
  rw [← ho,mE (by omega)]
  exact⟨ai rfl,trivial⟩
 ·repeat apply ae;rfl
  refine aS (by kernel_rfl) (by kernel_rfl) ?_
  repeat first|apply aA;rfl|refine bq (ak rfl rfl (.inl ⟨rfl,(D3 _ ⟨(by omega),(by omega)⟩).symm⟩)) rfl rfl rfl ?_
  refine bx rfl rfl rfl rfl ?_ ?_
  all_goals intro h2
  ·repeat first|apply aA;rfl|refine bq (ak rfl rfl (.inl ⟨rfl,(D3 _ ⟨(by omega),(by omega)⟩).symm⟩)) rfl rfl rfl ?_|refine aX rfl rfl rfl (F.ag _ rfl) (recP) rfl (by(omega)) (by(omega)) ?_|refine an (q:=first+(2*r+1)) rfl rfl rfl rfl (F.un _ rfl) (F.sz _ rfl) rfl (by omega) (by omega) (by omega) ?_|refine an (q:=first+(2*r+2)) rfl rfl rfl rfl (F.un _ rfl) (F.sz _ rfl) rfl (by omega) (by omega) (by omega) ?_|refine bg rfl rfl rfl rfl (by kernel_rfl) rfl (Ctr.callV (cmp_spec d1[first+(2*r+1)]! d1[first+(2*r+2)]!) [] rfl (E0 rfl) rfl trivial rfl) ?_
   refine bx rfl rfl rfl rfl ?_ ?_
   all_goals intro h3
   ·have e:=ww (lt:=ltP) (hi:=hi) (first:=first) (root:=r) (d:=d1) (by omega) (by simpa [ltP] using h3)
    repeat apply aA;rfl
    refine ay ⟨by kernel_rfl,?_,?_⟩;(focus(repeat(first|exact Gc|apply bZ;rfl|apply bM;rfl|refine⟨.inr (by(repeat(refine⟨(by first|exact az (F.un _ rfl) (F.sz _ rfl) rfl rfl rfl (by omega) (by omega) (by omega)|exact ak rfl rfl (.inl ⟨rfl,(D3 _ ⟨by omega,by omega⟩).symm⟩)),?_⟩));exact Gc),?_⟩|refine⟨.inl (by kernel_rfl),?_⟩)))
    repeat first|apply ae;rfl|apply aB;rfl;omega;omega
    refine aS (by kernel_rfl) (by kernel_rfl) ?_
    repeat first|apply aA;rfl|refine bq (ak rfl rfl (.inl ⟨rfl,(D3 _ ⟨(by omega),(by omega)⟩).symm⟩)) rfl rfl rfl ?_|refine aX rfl rfl rfl (F.ag _ rfl) (recP) rfl (by(omega)) (by(omega)) ?_|refine an (q:=first+r) rfl rfl rfl rfl (F.un _ rfl) (F.sz _ rfl) rfl (by omega) (by omega) (by omega) ?_|refine an (q:=first+(2*r+2)) rfl rfl rfl rfl (F.un _ rfl) (F.sz _ rfl) rfl (by omega) (by omega) (by omega) ?_|refine bg rfl rfl rfl rfl (by kernel_rfl) rfl (Ctr.callV (cmp_spec d1[first+r]! d1[first+(2*r+2)]!) [] rfl (E0 rfl) rfl trivial rfl) ?_
    refine bx rfl rfl rfl rfl ?_ ?_
    all_goals intro h4
    ·rw [Ez (by simpa [ltP] using h4)] at e
     repeat apply aA;rfl
     refine ay ⟨by kernel_rfl,?_,?_⟩;(focus(repeat(first|exact Gc|apply bZ;rfl|apply bM;rfl|refine⟨.inr (by(repeat(refine⟨(by first|exact az (F.un _ rfl) (F.sz _ rfl) rfl rfl rfl (by omega) (by omega) (by omega)|exact ak rfl rfl (.inl ⟨rfl,(D3 _ ⟨by omega,by omega⟩).symm⟩)),?_⟩));exact Gc),?_⟩|refine⟨.inl (by kernel_rfl),?_⟩)))
     repeat apply ae;rfl
     refine aS (by kernel_rfl) (by kernel_rfl) ?_
     repeat first|apply aA;rfl|refine bq (ak rfl rfl (.inl ⟨rfl,(D3 _ ⟨(by omega),(by omega)⟩).symm⟩)) rfl rfl rfl ?_|refine aX rfl rfl rfl (F.ag _ rfl) (recP) rfl (by(omega)) (by(omega)) ?_|refine db (bS (F.sz _ rfl) rfl rfl rfl (recP) rfl (by first|omega|(simp only [D4,aq];omega)) (by first|omega|(simp only [D4,aq];omega))) rfl rfl ?_|refine an (q:=first+r) rfl rfl rfl rfl (F.un _ rfl) (F.sz _ rfl) rfl (by omega) (by omega) (by omega) ?_|refine an (q:=first+(2*r+2)) rfl rfl rfl rfl (F.un _ rfl) (F.sz _ rfl) rfl (by omega) (by omega) (by omega) ?_
     refine ay ⟨by kernel_rfl,?_,?_⟩;(focus(repeat(first|exact Gc|apply bZ;rfl|apply bM;rfl|refine⟨.inr (by(repeat(refine⟨(by first|exact az (F.un _ rfl) (F.sz _ rfl) rfl rfl rfl (by omega) (by omega) (by omega)|exact ak rfl rfl (.inl ⟨rfl,(D3 _ ⟨by omega,by omega⟩).symm⟩)),?_⟩));exact Gc),?_⟩|refine⟨.inl (by kernel_rfl),?_⟩)))
     repeat apply ae;rfl
     refine ih _ _ _ (2*r+2,Sort.swp d1 (first+r) (first+(2*r+2))) [] ⟨by simp only;omega,by rw [aq];exact hd1,by rw [← ho,e]⟩ (by simp only;omega) ?_
     (exact Ga rfl rfl rfl ⟨ai rfl,trivial⟩)
    ·rw [Ey (by simpa [ltP] using h4)] at e
     repeat apply aA;rfl
     refine ay ⟨by kernel_rfl,?_,?_⟩;(focus(repeat(first|exact Gc|apply bZ;rfl|apply bM;rfl|refine⟨.inr (by(repeat(refine⟨(by first|exact az (F.un _ rfl) (F.sz _ rfl) rfl rfl rfl (by omega) (by omega) (by omega)|exact ak rfl rfl (.inl ⟨rfl,(D3 _ ⟨by omega,by omega⟩).symm⟩)),?_⟩));exact Gc),?_⟩|refine⟨.inl (by kernel_rfl),?_⟩)))
     repeat apply ae;rfl
     ((apply bv Tryz.func131 (congrArg Array.toList Tryz.results131));(focus(repeat(exact E3)));refine⟨_,rfl,Ends.mk [] (E0 rfl) rfl rfl ?_⟩)
     rw [← ho,e]
     exact⟨ai rfl,trivial⟩
   ·have e:=qr (lt:=ltP) (hi:=hi) (first:=first) (root:=r) (d:=d1) (by omega) (.inr (by simpa [ltP] using h3))
    repeat apply aA;rfl
    refine ay ⟨by kernel_rfl,?_,?_⟩;(focus(repeat(first|exact Gc|apply bZ;rfl|apply bM;rfl|refine⟨.inr (by(repeat(refine⟨(by first|exact az (F.un _ rfl) (F.sz _ rfl) rfl rfl rfl (by omega) (by omega) (by omega)|exact ak rfl rfl (.inl ⟨rfl,(D3 _ ⟨by omega,by omega⟩).symm⟩)),?_⟩));exact Gc),?_⟩|refine⟨.inl (by kernel_rfl),?_⟩)))
    repeat apply ae;rfl
    refine aS (by kernel_rfl) (by kernel_rfl) ?_
    repeat first|apply aA;rfl|refine bq (ak rfl rfl (.inl ⟨rfl,(D3 _ ⟨(by omega),(by omega)⟩).symm⟩)) rfl rfl rfl ?_|refine aX rfl rfl rfl (F.ag _ rfl) (recP) rfl (by(omega)) (by(omega)) ?_|refine an (q:=first+r) rfl rfl rfl rfl (F.un _ rfl) (F.sz _ rfl) rfl (by omega) (by omega) (by omega) ?_|refine an (q:=first+(2*r+1)) rfl rfl rfl rfl (F.un _ rfl) (F.sz _ rfl) rfl (by omega) (by omega) (by omega) ?_|refine bg rfl rfl rfl rfl (by kernel_rfl) rfl (Ctr.callV (cmp_spec d1[first+r]! d1[first+(2*r+1)]!) [] rfl (E0 rfl) rfl trivial rfl) ?_
    refine bx rfl rfl rfl rfl ?_ ?_
    all_goals intro h4
    ·rw [Ez (by simpa [ltP] using h4)] at e
     repeat apply aA;rfl
     refine ay ⟨by kernel_rfl,?_,?_⟩;(focus(repeat(first|exact Gc|apply bZ;rfl|apply bM;rfl|refine⟨.inr (by(repeat(refine⟨(by first|exact az (F.un _ rfl) (F.sz _ rfl) rfl rfl rfl (by omega) (by omega) (by omega)|exact ak rfl rfl (.inl ⟨rfl,(D3 _ ⟨by omega,by omega⟩).symm⟩)),?_⟩));exact Gc),?_⟩|refine⟨.inl (by kernel_rfl),?_⟩)))
     repeat apply ae;rfl
     refine aS (by kernel_rfl) (by kernel_rfl) ?_
     repeat first|apply aA;rfl|refine bq (ak rfl rfl (.inl ⟨rfl,(D3 _ ⟨(by omega),(by omega)⟩).symm⟩)) rfl rfl rfl ?_|refine aX rfl rfl rfl (F.ag _ rfl) (recP) rfl (by(omega)) (by(omega)) ?_|refine db (bS (F.sz _ rfl) rfl rfl rfl (recP) rfl (by first|omega|(simp only [D4,aq];omega)) (by first|omega|(simp only [D4,aq];omega))) rfl rfl ?_|refine an (q:=first+r) rfl rfl rfl rfl (F.un _ rfl) (F.sz _ rfl) rfl (by omega) (by omega) (by omega) ?_|refine an (q:=first+(2*r+1)) rfl rfl rfl rfl (F.un _ rfl) (F.sz _ rfl) rfl (by omega) (by omega) (by omega) ?_
     refine ay ⟨by kernel_rfl,?_,?_⟩;(focus(repeat(first|exact Gc|apply bZ;rfl|apply bM;rfl|refine⟨.inr (by(repeat(refine⟨(by first|exact az (F.un _ rfl) (F.sz _ rfl) rfl rfl rfl (by omega) (by omega) (by omega)|exact ak rfl rfl (.inl ⟨rfl,(D3 _ ⟨by omega,by omega⟩).symm⟩)),?_⟩));exact Gc),?_⟩|refine⟨.inl (by kernel_rfl),?_⟩)))
     repeat apply ae;rfl
     refine ih _ _ _ (2*r+1,Sort.swp d1 (first+r) (first+(2*r+1))) [] ⟨by simp only;omega,by rw [aq];exact hd1,by rw [← ho,e]⟩ (by simp only;omega) ?_
     (exact Ga rfl rfl rfl ⟨ai rfl,trivial⟩)
    ·rw [Ey (by simpa [ltP] using h4)] at e
     repeat apply aA;rfl
     refine ay ⟨by kernel_rfl,?_,?_⟩;(focus(repeat(first|exact Gc|apply bZ;rfl|apply bM;rfl|refine⟨.inr (by(repeat(refine⟨(by first|exact az (F.un _ rfl) (F.sz _ rfl) rfl rfl rfl (by omega) (by omega) (by omega)|exact ak rfl rfl (.inl ⟨rfl,(D3 _ ⟨by omega,by omega⟩).symm⟩)),?_⟩));exact Gc),?_⟩|refine⟨.inl (by kernel_rfl),?_⟩)))
     repeat apply ae;rfl
     ((apply bv Tryz.func131 (congrArg Array.toList Tryz.results131));(focus(repeat(exact E3)));refine⟨_,rfl,Ends.mk [] (E0 rfl) rfl rfl ?_⟩)
     rw [← ho,e]
     exact⟨ai rfl,trivial⟩
  ·have e:=qr (lt:=ltP) (hi:=hi) (first:=first) (root:=r) (d:=d1) (by omega) (.inl (by omega))
   repeat first|apply aA;rfl|refine b8 rfl rfl ?_
   refine ay ⟨by kernel_rfl,?_,?_⟩;(focus(repeat(first|exact Gc|apply ow;rfl|apply bM;rfl|refine⟨.inl rfl,?_⟩)))
   repeat apply ae;rfl
   refine aS (by kernel_rfl) (by kernel_rfl) ?_
   repeat first|apply aA;rfl|refine bq (ak rfl rfl (.inl ⟨rfl,(D3 _ ⟨(by omega),(by omega)⟩).symm⟩)) rfl rfl rfl ?_|refine aX rfl rfl rfl (F.ag _ rfl) (recP) rfl (by(omega)) (by(omega)) ?_|refine an (q:=first+r) rfl rfl rfl rfl (F.un _ rfl) (F.sz _ rfl) rfl (by omega) (by omega) (by omega) ?_|refine an (q:=first+(2*r+1)) rfl rfl rfl rfl (F.un _ rfl) (F.sz _ rfl) rfl (by omega) (by omega) (by omega) ?_|refine bg rfl rfl rfl rfl (by kernel_rfl) rfl (Ctr.callV (cmp_spec d1[first+r]! d1[first+(2*r+1)]!) [] rfl (E0 rfl) rfl trivial rfl) ?_
   refine bx rfl rfl rfl rfl ?_ ?_
   all_goals intro h4
   ·rw [Ez (by simpa [ltP] using h4)] at e
    repeat apply aA;rfl
    refine ay ⟨by kernel_rfl,?_,?_⟩;(focus(repeat(first|exact Gc|apply bZ;rfl|apply bM;rfl|refine⟨.inr (by(repeat(refine⟨(by first|exact az (F.un _ rfl) (F.sz _ rfl) rfl rfl rfl (by omega) (by omega) (by omega)|exact ak rfl rfl (.inl ⟨rfl,(D3 _ ⟨by omega,by omega⟩).symm⟩)),?_⟩));exact Gc),?_⟩|refine⟨.inl (by kernel_rfl),?_⟩)))
    repeat apply ae;rfl
    refine aS (by kernel_rfl) (by kernel_rfl) ?_
    repeat first|apply aA;rfl|refine bq (ak rfl rfl (.inl ⟨rfl,(D3 _ ⟨(by omega),(by omega)⟩).symm⟩)) rfl rfl rfl ?_|refine aX rfl rfl rfl (F.ag _ rfl) (recP) rfl (by(omega)) (by(omega)) ?_|refine db (bS (F.sz _ rfl) rfl rfl rfl (recP) rfl (by first|omega|(simp only [D4,aq];omega)) (by first|omega|(simp only [D4,aq];omega))) rfl rfl ?_|refine an (q:=first+r) rfl rfl rfl rfl (F.un _ rfl) (F.sz _ rfl) rfl (by omega) (by omega) (by omega) ?_|refine an (q:=first+(2*r+1)) rfl rfl rfl rfl (F.un _ rfl) (F.sz _ rfl) rfl (by omega) (by omega) (by omega) ?_
    refine ay ⟨by kernel_rfl,?_,?_⟩;(focus(repeat(first|exact Gc|apply bZ;rfl|apply bM;rfl|refine⟨.inr (by(repeat(refine⟨(by first|exact az (F.un _ rfl) (F.sz _ rfl) rfl rfl rfl (by omega) (by omega) (by omega)|exact ak rfl rfl (.inl ⟨rfl,(D3 _ ⟨by omega,by omega⟩).symm⟩)),?_⟩));exact Gc),?_⟩|refine⟨.inl (by kernel_rfl),?_⟩)))
    repeat apply ae;rfl
    refine ih _ _ _ (2*r+1,Sort.swp d1 (first+r) (first+(2*r+1))) [] ⟨by simp only;omega,by rw [aq];exact hd1,by rw [← ho,e]⟩ (by simp only;omega) ?_
    (exact Ga rfl rfl rfl ⟨ai rfl,trivial⟩)
   ·rw [Ey (by simpa [ltP] using h4)] at e
    repeat apply aA;rfl
    refine ay ⟨by kernel_rfl,?_,?_⟩;(focus(repeat(first|exact Gc|apply bZ;rfl|apply bM;rfl|refine⟨.inr (by(repeat(refine⟨(by first|exact az (F.un _ rfl) (F.sz _ rfl) rfl rfl rfl (by omega) (by omega) (by omega)|exact ak rfl rfl (.inl ⟨rfl,(D3 _ ⟨by omega,by omega⟩).symm⟩)),?_⟩));exact Gc),?_⟩|refine⟨.inl (by kernel_rfl),?_⟩)))
    repeat apply ae;rfl
    ((apply bv Tryz.func131 (congrArg Array.toList Tryz.results131));(focus(repeat(exact E3)));refine⟨_,rfl,Ends.mk [] (E0 rfl) rfl rfl ?_⟩)
    rw [← ho,e]
    exact⟨ai rfl,trivial⟩
end
end Ow
end Go.Proofs.YtelnglhodnoclaaGreat
end
section
namespace Go.Proofs.YtelnglhodnoclaaGreat
namespace Ow
open Go Go.Sy
theorem nd(n a b:Nat)(d:Array El)(hn:n<4611686018427387904)(hd:d.size=n)(hab:a≤b)(hb:b≤n) :
 Ctr Tryz.prog 118 [.slu 0 0 n,.sc (.int .i64 (a:Int)),.sc (.int .i64 (b:Int)),cmpF] [rowP n d] (fun c=>c=⟨.tup [],[some (rowP n (Sort.heapSort ltP d a b))]⟩):=by
 refine E2 Tryz.func118 rfl rfl ?_
 repeat first|apply ae;rfl|apply aB;rfl;omega;omega
 refine bN (ii rfl rfl (by decide) (show _=(((b-a-1) / 2:Nat):Int)from tJ (m:=b-a) (by omega) (by omega))) rfl rfl rfl ?_
 repeat apply ae;rfl
 refine cO 1 (fun s:Nat×Array El=> [(0,.slu 0 0 n),(3,cmpF),(8,.sc (.int .i64 (a:Int))),(9,.sc (.int .i64 0)),(10,.sc (.int .i64 ((b-a:Nat):Int))),(11,.sc (.int .i64 ((s.1:Int)-1)))]) (fun s=> [some (rowP n s.2)]) (fun s=>s.1≤(b-a-1) / 2+1∧s.2.size=n∧Sort.heapBuild ltP (b-a) a s.1 s.2=Sort.heapBuild ltP (b-a) a ((b-a-1) / 2+1) d) (fun s=>s.1) ((b-a-1) / 2+1,d) []
  (fun _=>rfl) ⟨Em _,hd,rfl⟩ ?_ (fun _=>rfl) (fun _=>rfl) ?_
 ·(refine⟨(E0 rfl),rfl,(by repeat(first|exact Gc|refine⟨rfl,?_⟩|refine⟨cK (by(omega)),?_⟩)),⟨ai rfl,trivial⟩⟩)
 rintro⟨k,d1⟩ ⟨hk,hd1,ho⟩ ih
 simp only at hk hd1 ho ih ⊢
 repeat apply ae;rfl
 refine cD rfl rfl rfl rfl ?_ ?_
 all_goals intro h1
 ·obtain⟨k,rfl⟩: ∃ k',k=k'+1:=⟨k-1,by omega⟩
  have ek:((k+1:Nat):Int)-1=(k:Int):=by omega
  rw [ek]
  repeat first|apply ae;rfl|apply aB;rfl;omega;omega|refine aP rfl rfl rfl (by kernel_rfl) (Ctr.bF (iw n k (b-a) a d1 hn hd1 (by omega) (by omega)) [0] rfl (E0 rfl) rfl ⟨ai rfl,trivial⟩ rfl (by repeat(first|exact Gc|refine⟨aF,?_⟩)) (fun _=>rfl) rfl rfl) ?_
  refine ih _ _ _ (k,Sort.siftDown ltP (b-a) a k d1) [] ⟨by simp only;omega,by rw [ez];exact hd1,by rw [← ho];rfl⟩ (by simp only;omega) ?_
  (exact Ga rfl rfl rfl ⟨ai rfl,trivial⟩)
 ·obtain rfl:k=0:=by omega
  have ho1:d1=Sort.heapBuild ltP (b-a) a ((b-a-1) / 2+1) d:=ho
  repeat first|apply ae;rfl|apply aB;rfl;omega;omega
  refine cO 1 (fun s:Nat×Array El=> [(0,.slu 0 0 n),(3,cmpF),(8,.sc (.int .i64 (a:Int))),(9,.sc (.int .i64 0)),(12,.sc (.int .i64 ((s.1:Int)-1)))]) (fun s=> [some (rowP n s.2)]) (fun s=>s.1≤b-a∧s.2.size=n∧Sort.heapPop ltP a s.1 s.2=Sort.heapSort ltP d a b) (fun s=>s.1) (b-a,d1) []
   (fun _=>rfl) ⟨Em _,hd1,by rw [ho1];rfl⟩ ?_ (fun _=>rfl) (fun _=>rfl) ?_
  ·(exact Ga rfl rfl rfl ⟨ai rfl,trivial⟩)
  rintro⟨m,d2⟩ ⟨hm,hd2,hp⟩ ihm
  simp only at hm hd2 hp ihm ⊢
  repeat apply ae;rfl
  refine cD rfl rfl rfl rfl ?_ ?_
  all_goals intro h2
  ·obtain⟨m,rfl⟩: ∃ m',m=m'+1:=⟨m-1,by omega⟩
   have em:((m+1:Nat):Int)-1=(m:Int):=by omega
   rw [em]
   repeat apply ae;rfl
   refine aS (by kernel_rfl) (by kernel_rfl) ?_
   repeat first|apply aA;rfl|refine bq (ak rfl rfl (.inl ⟨rfl,(D3 _ ⟨(by omega),(by omega)⟩).symm⟩)) rfl rfl rfl ?_|refine aX rfl rfl rfl (F.ag _ rfl) (recP) rfl (by(omega)) (by(omega)) ?_|refine db (bS (F.sz _ rfl) rfl rfl rfl (recP) rfl (by first|omega|(simp only [D4,aq];omega)) (by first|omega|(simp only [D4,aq];omega))) rfl rfl ?_|refine an (q:=a) rfl rfl rfl rfl (F.un _ rfl) (F.sz _ rfl) rfl (by omega) (by omega) (by omega) ?_|refine an (q:=a+m) rfl rfl rfl rfl (F.un _ rfl) (F.sz _ rfl) rfl (by omega) (by omega) (by omega) ?_
   refine ay ⟨by kernel_rfl,?_,?_⟩;(focus(repeat(first|exact Gc|apply bZ;rfl|apply bM;rfl|refine⟨.inr (by(repeat(refine⟨(by first|exact az (F.un _ rfl) (F.sz _ rfl) rfl rfl rfl (by omega) (by omega) (by omega)|exact ak rfl rfl (.inl ⟨rfl,(D3 _ ⟨by omega,by omega⟩).symm⟩)),?_⟩));exact Gc),?_⟩|refine⟨.inl (by kernel_rfl),?_⟩)))
   repeat first|apply ae;rfl|apply aB;rfl;omega;omega|refine aP rfl rfl rfl (by kernel_rfl) (Ctr.bF (iw n 0 m a (Sort.swp d2 a (a+m)) hn (by rw [aq];exact hd2) (by omega) (by omega)) [0] rfl (E0 rfl) rfl ⟨ai rfl,trivial⟩ rfl (by repeat(first|exact Gc|refine⟨aF,?_⟩)) (fun _=>rfl) rfl rfl) ?_
   refine ihm _ _ _ (m,Sort.siftDown ltP m a 0 (Sort.swp d2 a (a+m))) [] ⟨by simp only;omega,by rw [ez,aq];exact hd2,by rw [← hp];rfl⟩ (by simp only;omega) ?_
   (exact Ga rfl rfl rfl ⟨ai rfl,trivial⟩)
  ·obtain rfl:m=0:=by omega
   repeat apply ae;rfl
   ((apply jF Tryz.func118 (congrArg Array.toList Tryz.results118));(focus(repeat(exact E3)));refine⟨_,rfl,Ends.mk [] (E0 rfl) rfl rfl ?_⟩)
   rw [← hp]
   exact⟨ai rfl,trivial⟩
end Ow
end Go.Proofs.YtelnglhodnoclaaGreat
end
section
namespace Go.Proofs.YtelnglhodnoclaaGreat
namespace Ow
open Go Go.Sy
theorem oZ(n a b:Nat)(d:Array El)(hn:n<4611686018427387904)(hd:d.size=n)(hab:a<b)(hb:b≤n) :
 Ctr Tryz.prog 121 [.slu 0 0 n,.sc (.int .i64 (a:Int)),.sc (.int .i64 (b:Int)),cmpF] [rowP n d] (fun c=>c=⟨.tup [],[some (rowP n (Sort.reverseRange d a b))]⟩):=by
 refine E2 Tryz.func121 rfl rfl ?_
 repeat first|apply ae;rfl|apply aB;rfl;omega;omega
 refine cO 1 (fun s:(Nat×Nat)×Array El=> [(0,.slu 0 0 n),(8,.sc (.int .i64 (s.1.1:Int))),(9,.sc (.int .i64 (s.1.2:Int)))]) (fun s=> [some (rowP n s.2)]) (fun s=>s.1.1≤n∧s.1.2<n∧s.1.1≤s.1.2+1∧s.2.size=n∧Sort.reverseLoop s.1.1 s.1.2 s.2=Sort.reverseRange d a b) (fun s=>s.1.2+1-s.1.1) ((a,b-1),d) []
  (fun _=>rfl) ⟨by simp only;omega,by simp only;omega,by simp only;omega,hd,rfl⟩ ?_ (fun _=>rfl) (fun _=>rfl) ?_
 ·(refine⟨(E0 rfl),rfl,(by repeat(first|exact Gc|refine⟨rfl,?_⟩|refine⟨cK (by(simp only;omega)),?_⟩)),⟨ai rfl,trivial⟩⟩)
 rintro⟨⟨i,j⟩,d1⟩ ⟨hi,hj,hij,hd1,ho⟩ ih
 simp only at hi hj hij hd1 ho ih ⊢
 repeat apply ae;rfl
 refine bm rfl rfl rfl rfl ?_ ?_
 all_goals intro h1
 ·repeat apply ae;rfl
  refine aS (by kernel_rfl) (by kernel_rfl) ?_
  repeat first|apply aA;rfl|refine aX rfl rfl rfl (F.ag _ rfl) (recP) rfl (by(omega)) (by(omega)) ?_|refine db (bS (F.sz _ rfl) rfl rfl rfl (recP) rfl (by first|omega|(simp only [D4,aq];omega)) (by first|omega|(simp only [D4,aq];omega))) rfl rfl ?_|refine an (q:=i) rfl rfl rfl rfl (F.un _ rfl) (F.sz _ rfl) rfl (by omega) (by omega) (by omega) ?_|refine an (q:=j) rfl rfl rfl rfl (F.un _ rfl) (F.sz _ rfl) rfl (by omega) (by omega) (by omega) ?_
  refine ay ⟨by kernel_rfl,?_,?_⟩;(focus(repeat(first|exact Gc|apply bZ;rfl|apply bM;rfl|refine⟨.inr (by(repeat(refine⟨(by(exact az (F.un _ rfl) (F.sz _ rfl) rfl rfl rfl (by omega) (by omega) (by omega))),?_⟩));exact Gc),?_⟩|refine⟨.inl (by kernel_rfl),?_⟩)))
  repeat first|apply ae;rfl|apply aB;rfl;omega;omega
  refine ih _ _ _ ((i+1,j-1),Sort.swp d1 i j) [] ⟨by simp only;omega,by simp only;omega,by simp only;omega,by rw [aq];exact hd1,?_⟩ (by simp only;omega) ?_
  ·rw [← ho]
   conv=>rhs;rw [Sort.reverseLoop,Ez (by omega)]
  ·(refine⟨(E0 rfl),rfl,(by repeat(first|exact Gc|refine⟨rfl,?_⟩|refine⟨cK (by(simp only;omega)),?_⟩)),⟨ai rfl,trivial⟩⟩)
 ·repeat apply ae;rfl
  ((apply jF Tryz.func121 (congrArg Array.toList Tryz.results121));(focus(repeat(exact E3)));refine⟨_,rfl,Ends.mk [] (E0 rfl) rfl rfl ?_⟩)
  rw [← ho,Sort.reverseLoop,Ey (by omega)]
  exact⟨ai rfl,trivial⟩
abbrev vy(k:Nat):VO:=am 3 [.sc (.int .i64 (k:Int))]
theorem d8(n a b k:Nat)(d:Array El)(hn:n<4611686018427387904)(hd:d.size=n)(ha:a<n)(hb:b<n)(hk:k<1000) :
 Ctr Tryz.prog 135 [.slu 0 0 n,.sc (.int .i64 (a:Int)),.sc (.int .i64 (b:Int)),.ptr 1 0,cmpF] [rowP n d,vy k] (fun c=>c=⟨.tup [.sc (.int .i64 ((Sort.order2 ltP d a b k).1:Int)),.sc (.int .i64 ((Sort.order2 ltP d a b k).2.1:Int))],[some (rowP n d),some (vy (Sort.order2 ltP d a b k).2.2)]⟩):=by
 refine E2 Tryz.func135 rfl rfl ?_
 repeat apply ae;rfl
 refine aS (by kernel_rfl) (by kernel_rfl) ?_
 repeat first|apply aA;rfl|refine aX rfl rfl rfl (F.ag _ rfl) (recP) rfl (by(omega)) (by(omega)) ?_|refine an (q:=a) rfl rfl rfl rfl (F.un _ rfl) (F.sz _ rfl) rfl (by omega) (by omega) (by omega) ?_|refine an (q:=b) rfl rfl rfl rfl (F.un _ rfl) (F.sz _ rfl) rfl (by omega) (by omega) (by omega) ?_|refine bg rfl rfl rfl rfl (by kernel_rfl) rfl (Ctr.callV (cmp_spec d[b]! d[a]!) [] rfl (E0 rfl) rfl trivial rfl) ?_
 refine bx rfl rfl rfl rfl ?_ ?_
 all_goals intro h1
 ·skip
  refine ay ⟨by kernel_rfl,?_,?_⟩;(focus(repeat(first|exact Gc|apply bZ;rfl|apply bM;rfl|refine⟨.inr (by(repeat(refine⟨(by(exact az (F.un _ rfl) (F.sz _ rfl) rfl rfl rfl (by omega) (by omega) (by omega))),?_⟩));exact Gc),?_⟩|refine⟨.inl (by kernel_rfl),?_⟩)))
  repeat first|apply ae;rfl|apply aB;rfl;omega;omega|refine aZ rfl rfl rfl (F.ag _ rfl) rfl rfl ?_|refine cJ rfl rfl rfl (F.sz _ rfl) rfl rfl rfl ?_
  rw [show Sort.order2 ltP d a b k=(b,a,k+1) by rw [Sort.order2,Ez (by simpa [ltP] using h1)]]
  ((apply bv Tryz.func135 (congrArg Array.toList Tryz.results135));(focus(repeat(first|exact E3|apply E5 rfl)));refine⟨_,rfl,Ends.mk [] (E0 rfl) rfl rfl ?_⟩)
  exact(by repeat(first|exact Gc|refine⟨ai rfl,?_⟩|refine⟨cm rfl,?_⟩))
 ·skip
  refine ay ⟨by kernel_rfl,?_,?_⟩;(focus(repeat(first|exact Gc|apply bZ;rfl|apply bM;rfl|refine⟨.inr (by(repeat(refine⟨(by(exact az (F.un _ rfl) (F.sz _ rfl) rfl rfl rfl (by omega) (by omega) (by omega))),?_⟩));exact Gc),?_⟩|refine⟨.inl (by kernel_rfl),?_⟩)))
  repeat apply ae;rfl
  rw [show Sort.order2 ltP d a b k=(a,b,k) by rw [Sort.order2,Ey (by simpa [ltP] using h1)]]
  ((apply bv Tryz.func135 (congrArg Array.toList Tryz.results135));(focus(repeat(first|exact E3|apply E5 rfl)));refine⟨_,rfl,Ends.mk [] (E0 rfl) rfl rfl ?_⟩)
  exact(by repeat(first|exact Gc|refine⟨ai rfl,?_⟩|refine⟨cm rfl,?_⟩))
theorem cT{lt:El→El→Bool}{d:Array El}{a b k n:Nat}(ha:a<n)(hb:b<n):(Sort.order2 lt d a b k).1<n∧(Sort.order2 lt d a b k).2.1<n∧(Sort.order2 lt d a b k).2.2≤k+1:=by
 unfold Sort.order2
 split
 ·exact⟨hb,ha,Em _⟩
 ·exact⟨ha,hb,Ew _⟩
theorem d9(n a b c k:Nat)(d:Array El)(hn:n<4611686018427387904)(hd:d.size=n)(ha:a<n)(hb:b<n)(hc:c<n)(hk:k<900) :
 Ctr Tryz.prog 133 [.slu 0 0 n,.sc (.int .i64 (a:Int)),.sc (.int .i64 (b:Int)),.sc (.int .i64 (c:Int)),.ptr 1 0,cmpF] [rowP n d,vy k] (fun r=>r=⟨.sc (.int .i64 ((Sort.median ltP d a b c k).1:Int)),[some (rowP n d),some (vy (Sort.median ltP d a b c k).2)]⟩):=by
 obtain⟨q1,q2,q3⟩:=cT (lt:=ltP) (d:=d) (k:=k) ha hb
 have e1:=d8 n a b k d hn hd ha hb (by omega)
 unfold Sort.median
 generalize Sort.order2 ltP d a b k=r1 at q1 q2 q3 e1 ⊢
 obtain⟨a1,b1,k1⟩:=r1
 obtain⟨p1,p2,p3⟩:=cT (lt:=ltP) (d:=d) (k:=k1) q2 hc
 have e2:=d8 n b1 c k1 d hn hd q2 hc (by simp only at q3;omega)
 simp only at q1 q2 q3 p1 p2 p3 e1 e2 ⊢
 generalize Sort.order2 ltP d b1 c k1=r2 at p1 p2 p3 e2 ⊢
 obtain⟨b2,c2,k2⟩:=r2
 obtain⟨o1,o2,o3⟩:=cT (lt:=ltP) (d:=d) (k:=k2) q1 p1
 have e3:=d8 n a1 b2 k2 d hn hd q1 p1 (by simp only at p3;omega)
 simp only at p1 p2 p3 o1 o2 o3 e2 e3 ⊢
 generalize Sort.order2 ltP d a1 b2 k2=r3 at o1 o2 o3 e3 ⊢
 obtain⟨a3,b3,k3⟩:=r3
 simp only at o1 o2 o3 e3 ⊢
 refine E2 Tryz.func133 rfl rfl ?_
 repeat first|apply ae;rfl|refine aP rfl rfl rfl (by kernel_rfl) (Ctr.bF (e1) [0,1] rfl (E0 rfl) rfl (by repeat(first|exact Gc|refine⟨ai rfl,?_⟩|refine⟨cm rfl,?_⟩)) rfl (by repeat(first|exact Gc|refine⟨aF,?_⟩|refine⟨bD (fun _=>rfl),?_⟩)) (fun _=>rfl) rfl rfl) ?_|refine aP rfl rfl rfl (by kernel_rfl) (Ctr.bF (e2) [0,1] rfl (E0 rfl) rfl (by repeat(first|exact Gc|refine⟨ai rfl,?_⟩|refine⟨cm rfl,?_⟩)) rfl (by repeat(first|exact Gc|refine⟨aF,?_⟩|refine⟨bD (fun _=>rfl),?_⟩)) (fun _=>rfl) rfl rfl) ?_|refine aP rfl rfl rfl (by kernel_rfl) (Ctr.bF (e3) [0,1] rfl (E0 rfl) rfl (by repeat(first|exact Gc|refine⟨ai rfl,?_⟩|refine⟨cm rfl,?_⟩)) rfl (by repeat(first|exact Gc|refine⟨aF,?_⟩|refine⟨bD (fun _=>rfl),?_⟩)) (fun _=>rfl) rfl rfl) ?_
 ((apply bv Tryz.func133 (congrArg Array.toList Tryz.results133));(focus(repeat(first|exact E3|apply E5 rfl)));refine⟨_,rfl,Ends.mk [] (E0 rfl) rfl rfl ?_⟩)
 exact(by repeat(first|exact Gc|refine⟨ai rfl,?_⟩|refine⟨cm rfl,?_⟩))
theorem fU{lt:El→El→Bool}{d:Array El}{a b c k n:Nat}(ha:a<n)(hb:b<n)(hc:c<n):(Sort.median lt d a b c k).1<n∧(Sort.median lt d a b c k).2≤k+3:=by
 obtain⟨q1,q2,q3⟩:=cT (lt:=lt) (d:=d) (k:=k) ha hb
 obtain⟨p1,p2,p3⟩:=cT (lt:=lt) (d:=d) (k:=(Sort.order2 lt d a b k).2.2) q2 hc
 obtain⟨o1,o2,o3⟩:=cT (lt:=lt) (d:=d) (k:=(Sort.order2 lt d (Sort.order2 lt d a b k).2.1 c (Sort.order2 lt d a b k).2.2).2.2) q1 p1
 exact⟨o2,by simp only [Sort.median];omega⟩
theorem ea(n a k:Nat)(d:Array El)(hn:n<4611686018427387904)(hd:d.size=n)(ha:a+1<n)(h1:1≤a)(hk:k<900) :
 Ctr Tryz.prog 132 [.slu 0 0 n,.sc (.int .i64 (a:Int)),.ptr 1 0,cmpF] [rowP n d,vy k] (fun r=>r=⟨.sc (.int .i64 ((Sort.medianAdjacent ltP d a k).1:Int)),[some (rowP n d),some (vy (Sort.medianAdjacent ltP d a k).2)]⟩):=by
 obtain⟨a,rfl⟩: ∃ a',a=a'+1:=⟨a-1,by omega⟩
 have e:=d9 n a (a+1) (a+1+1) k d hn hd (by omega) (by omega) (by omega) hk
 have e0:((a:Nat):Int)=((a+1:Nat):Int)-1:=by omega
 rw [e0] at e
 refine E2 Tryz.func132 rfl rfl ?_
 repeat first|apply ae;rfl|apply aB;rfl;omega;omega|refine aP rfl rfl rfl (by kernel_rfl) (Ctr.bF (e) [0,1] rfl (E0 rfl) rfl (by repeat(first|exact Gc|refine⟨ai rfl,?_⟩|refine⟨cm rfl,?_⟩)) rfl (by repeat(first|exact Gc|refine⟨aF,?_⟩|refine⟨bD (fun _=>rfl),?_⟩)) (fun _=>rfl) rfl rfl) ?_
 ((apply bv Tryz.func132 (congrArg Array.toList Tryz.results132));(focus(repeat(first|exact E3|apply E5 rfl)));refine⟨_,rfl,Ends.mk [] (E0 rfl) rfl rfl ?_⟩)
 exact(by repeat(first|exact Gc|refine⟨ai rfl,?_⟩|refine⟨cm rfl,?_⟩))
end Ow
end Go.Proofs.YtelnglhodnoclaaGreat
end
section
namespace Go.Proofs.YtelnglhodnoclaaGreat
namespace Ow
open Go Go.Sy
theorem ph(n a b:Nat)(d:Array El)(hn:n<4611686018427387904)(hd:d.size=n)(hab:a<b)(hb:b≤n) :
 Ctr Tryz.prog 120 [.slu 0 0 n,.sc (.int .i64 (a:Int)),.sc (.int .i64 (b:Int)),cmpF] [rowP n d] (fun r=>r=⟨.tup [.sc (.int .i64 ((Sort.choosePivot ltP d a b).1:Int)),.sc (.int .i64 (xH (Sort.choosePivot ltP d a b).2))],[some (rowP n d)]⟩):=by
 have e1:((a:Int)+((b:Int)-(a:Int)) / 4*1)=((a+(b-a) / 4*1:Nat):Int):=by omega
 have e2:((a:Int)+((b:Int)-(a:Int)) / 4*2)=((a+(b-a) / 4*2:Nat):Int):=by omega
 have e3:((a:Int)+((b:Int)-(a:Int)) / 4*3)=((a+(b-a) / 4*3:Nat):Int):=by omega
 refine E2 Tryz.func120 rfl rfl ?_
 repeat first|apply ae;rfl|apply aB;rfl;omega;omega|refine bN (ii rfl rfl (by omega) (dR (by omega) (by omega) (by omega))) rfl rfl rfl ?_
 rw [e1,e2,e3]
 have fin: ∀ (T:Tr SV) (H:aw) (nx:Nat) (p k:Nat),True:=fun _ _ _ _ _=>trivial
 refine cD rfl rfl rfl rfl ?_ ?_
 all_goals intro h1
 ·repeat apply ae;rfl
  refine cD rfl rfl rfl rfl ?_ ?_
  all_goals intro h2
  ·have m1:=ea n (a+(b-a) / 4*1) 0 d hn hd (by omega) (by omega) (by omega)
   have l1:(Sort.medianAdjacent ltP d (a+(b-a) / 4*1) 0).1<n∧(Sort.medianAdjacent ltP d (a+(b-a) / 4*1) 0).2≤0+3:=fU (by omega) (by omega) (by omega)
   have ec:Sort.choosePivot ltP d a b=Sort.choosePivot ltP d a b:=rfl
   conv at ec=>rhs;unfold Sort.choosePivot
   simp only [show b-a≥8 by omega,show b-a≥50 by omega,if_true] at ec
   generalize Sort.medianAdjacent ltP d (a+(b-a) / 4*1) 0=r1 at m1 l1 ec
   have m2:=ea n (a+(b-a) / 4*2) r1.2 d hn hd (by omega) (by omega) (by omega)
   have l2:(Sort.medianAdjacent ltP d (a+(b-a) / 4*2) r1.2).1<n∧(Sort.medianAdjacent ltP d (a+(b-a) / 4*2) r1.2).2≤r1.2+3:=fU (by omega) (by omega) (by omega)
   generalize Sort.medianAdjacent ltP d (a+(b-a) / 4*2) r1.2=r2 at m2 l2 ec
   have m3:=ea n (a+(b-a) / 4*3) r2.2 d hn hd (by omega) (by omega) (by omega)
   have l3:(Sort.medianAdjacent ltP d (a+(b-a) / 4*3) r2.2).1<n∧(Sort.medianAdjacent ltP d (a+(b-a) / 4*3) r2.2).2≤r2.2+3:=fU (by omega) (by omega) (by omega)
   generalize Sort.medianAdjacent ltP d (a+(b-a) / 4*3) r2.2=r3 at m3 l3 ec
   have m4:=d9 n r1.1 r2.1 r3.1 r3.2 d hn hd l1.1 l2.1 l3.1 (by omega)
   generalize Sort.median ltP d r1.1 r2.1 r3.1 r3.2=r4 at m4 ec
   rw [ec]
   obtain⟨p,k⟩:=r4
   repeat first|apply ae;rfl|apply aR;rfl;(focus((repeat(exact ah));done));rfl|refine aP rfl rfl rfl (by kernel_rfl) (Ctr.bF (m1) [0,1] rfl (E0 rfl) rfl (by repeat(first|exact Gc|refine⟨ai rfl,?_⟩|refine⟨cm rfl,?_⟩)) rfl (by repeat(first|exact Gc|refine⟨aF,?_⟩|refine⟨bD (fun _=>rfl),?_⟩)) (fun _=>rfl) rfl rfl) ?_|refine aP rfl rfl rfl (by kernel_rfl) (Ctr.bF (m2) [0,1] rfl (E0 rfl) rfl (by repeat(first|exact Gc|refine⟨ai rfl,?_⟩|refine⟨cm rfl,?_⟩)) rfl (by repeat(first|exact Gc|refine⟨aF,?_⟩|refine⟨bD (fun _=>rfl),?_⟩)) (fun _=>rfl) rfl rfl) ?_|refine aP rfl rfl rfl (by kernel_rfl) (Ctr.bF (m3) [0,1] rfl (E0 rfl) rfl (by repeat(first|exact Gc|refine⟨ai rfl,?_⟩|refine⟨cm rfl,?_⟩)) rfl (by repeat(first|exact Gc|refine⟨aF,?_⟩|refine⟨bD (fun _=>rfl),?_⟩)) (fun _=>rfl) rfl rfl) ?_|refine aP rfl rfl rfl (by kernel_rfl) (Ctr.bF (m4) [0,1] rfl (E0 rfl) rfl (by repeat(first|exact Gc|refine⟨ai rfl,?_⟩|refine⟨cm rfl,?_⟩)) rfl (by repeat(first|exact Gc|refine⟨aF,?_⟩|refine⟨bD (fun _=>rfl),?_⟩)) (fun _=>rfl) rfl rfl) ?_
   refine cE rfl rfl rfl rfl ?_ ?_
   all_goals intro h3
   ·repeat apply ae;rfl
    rw [Ez (show(p,k).2=0 by simp only;omega)]
    ((apply bv Tryz.func120 (congrArg Array.toList Tryz.results120));(focus(repeat(first|exact E3|apply E5 rfl)));refine⟨_,rfl,Ends.mk [] (E0 rfl) rfl rfl ?_⟩)
    exact⟨ai rfl,trivial⟩
   ·repeat apply ae;rfl
    refine cE rfl rfl rfl rfl ?_ ?_
    all_goals intro h4
    ·repeat apply ae;rfl
     rw [Ey (show ¬ (p,k).2=0 by simp only;omega),Ez (show(p,k).2=12 by simp only;omega)]
     ((apply bv Tryz.func120 (congrArg Array.toList Tryz.results120));(focus(repeat(first|exact E3|apply E5 rfl)));refine⟨_,rfl,Ends.mk [] (E0 rfl) rfl rfl ?_⟩)
     exact⟨ai rfl,trivial⟩
    ·repeat apply ae;rfl
     rw [Ey (show ¬ (p,k).2=0 by simp only;omega),Ey (show ¬ (p,k).2=12 by simp only;omega)]
     ((apply bv Tryz.func120 (congrArg Array.toList Tryz.results120));(focus(repeat(first|exact E3|apply E5 rfl)));refine⟨_,rfl,Ends.mk [] (E0 rfl) rfl rfl ?_⟩)
     exact⟨ai rfl,trivial⟩
  ·have ec:Sort.choosePivot ltP d a b=Sort.choosePivot ltP d a b:=rfl
   conv at ec=>rhs;unfold Sort.choosePivot
   simp only [show b-a≥8 by omega,show ¬ (b-a≥50) by omega,if_true,if_false] at ec
   have m4:=d9 n (a+(b-a) / 4*1) (a+(b-a) / 4*2) (a+(b-a) / 4*3) 0 d hn hd (by omega) (by omega) (by omega) (by omega)
   generalize Sort.median ltP d (a+(b-a) / 4*1) (a+(b-a) / 4*2) (a+(b-a) / 4*3) 0=r4 at m4 ec
   rw [ec]
   obtain⟨p,k⟩:=r4
   repeat first|apply ae;rfl|apply aR;rfl;(focus((repeat(exact ah));done));rfl|refine aP rfl rfl rfl (by kernel_rfl) (Ctr.bF (m4) [0,1] rfl (E0 rfl) rfl (by repeat(first|exact Gc|refine⟨ai rfl,?_⟩|refine⟨cm rfl,?_⟩)) rfl (by repeat(first|exact Gc|refine⟨aF,?_⟩|refine⟨bD (fun _=>rfl),?_⟩)) (fun _=>rfl) rfl rfl) ?_
   refine cE rfl rfl rfl rfl ?_ ?_
   all_goals intro h3
   ·repeat apply ae;rfl
    rw [Ez (show(p,k).2=0 by simp only;omega)]
    ((apply bv Tryz.func120 (congrArg Array.toList Tryz.results120));(focus(repeat(first|exact E3|apply E5 rfl)));refine⟨_,rfl,Ends.mk [] (E0 rfl) rfl rfl ?_⟩)
    exact⟨ai rfl,trivial⟩
   ·repeat apply ae;rfl
    refine cE rfl rfl rfl rfl ?_ ?_
    all_goals intro h4
    ·repeat apply ae;rfl
     rw [Ey (show ¬ (p,k).2=0 by simp only;omega),Ez (show(p,k).2=12 by simp only;omega)]
     ((apply bv Tryz.func120 (congrArg Array.toList Tryz.results120));(focus(repeat(first|exact E3|apply E5 rfl)));refine⟨_,rfl,Ends.mk [] (E0 rfl) rfl rfl ?_⟩)
     exact⟨ai rfl,trivial⟩
    ·repeat apply ae;rfl
     rw [Ey (show ¬ (p,k).2=0 by simp only;omega),Ey (show ¬ (p,k).2=12 by simp only;omega)]
     ((apply bv Tryz.func120 (congrArg Array.toList Tryz.results120));(focus(repeat(first|exact E3|apply E5 rfl)));refine⟨_,rfl,Ends.mk [] (E0 rfl) rfl rfl ?_⟩)
     exact⟨ai rfl,trivial⟩
 ·have ec:Sort.choosePivot ltP d a b=(a+(b-a) / 4*2,.increasing):=by
   unfold Sort.choosePivot
   simp only [show ¬ (b-a≥8) by omega,if_false,if_true]
  rw [ec]
  repeat first|apply ae;rfl|apply aR;rfl;(focus((repeat(exact ah));done));rfl|refine bN (ct rfl rfl (.inl ⟨rfl,rfl⟩)) rfl rfl rfl ?_
  ((apply bv Tryz.func120 (congrArg Array.toList Tryz.results120));(focus(repeat(first|exact E3|apply E5 rfl)));refine⟨_,rfl,Ends.mk [] (E0 rfl) rfl rfl ?_⟩)
  exact⟨ai rfl,trivial⟩
end Ow
end Go.Proofs.YtelnglhodnoclaaGreat
end
