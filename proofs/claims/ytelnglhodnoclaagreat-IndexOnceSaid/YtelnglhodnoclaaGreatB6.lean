import Derived.Test.YtelnglhodnoclaaGreatB5
set_option linter.unusedVariables false
set_option linter.unusedSimpArgs false
set_option maxRecDepth 100000
set_option maxHeartbeats 0
section
namespace Go.Proofs.YtelnglhodnoclaaGreat
namespace Ow
open Go Go.Sy
section
variable {i j:Nat}{p:El→Bool}{d:Array El}
theorem fR(h:i≤j)(hp:p d[i]! =true):Sort.scanUp p d j i=Sort.scanUp p d j (i+1):=by
 conv=>lhs;rw [Sort.scanUp,Ez (by simp [h,hp])]
theorem bY(h:j<i∨p d[i]! =false):Sort.scanUp p d j i=i:=by
 rw [Sort.scanUp,Ey]
 simp only [Ek,EZ]
 rintro⟨h1,h2⟩
 rcases h with h|h
 ·omega
 ·rw [h] at h2;cases h2
theorem d7(h:i≤j+1)(hp:p d[j+1]! =true):Sort.scanDown p d i (j+1)=Sort.scanDown p d i j:=by
 conv=>lhs;rw [Sort.scanDown,Ez (by simp [h,hp])]
theorem bI(h:j<i∨p d[j]! =false):Sort.scanDown p d i j=j:=by
 cases j with
 | zero=>rfl
 | succ j=>
   rw [Sort.scanDown,Ey]
   simp only [Ek,EZ]
   rintro⟨h1,h2⟩
   rcases h with h|h
   ·omega
   ·rw [h] at h2;cases h2
theorem jL{lt:El→El→Bool}{a i2 j2:Nat}(hi:Sort.scanUp (fun x=> !lt d[a]! x) d j i=i2)(hj:Sort.scanDown (fun x=>lt d[a]! x) d i2 j=j2)(h1:i≤i2)(h2:j2≤j) :
 Sort.partEqLoop lt a i j d=if j2<i2 then(i2,d) else Sort.partEqLoop lt a (i2+1) (j2-1) (Sort.swp d i2 j2):=by
 conv=>lhs;unfold Sort.partEqLoop
 simp only [hi,hj]
 split
 ·rfl
 ·rw [dif_pos (by omega)]
theorem jM(n a b pv:Nat)(d:Array El)(hn:n<4611686018427387904)(hd:d.size=n)(hap:a≤pv)(hpb:pv<b)(hb:b≤n) :
 Ctr Tryz.prog 123 [.slu 0 0 n,.sc (.int .i64 (a:Int)),.sc (.int .i64 (b:Int)),.sc (.int .i64 (pv:Int)),cmpF] [rowP n d] (fun c=>c=⟨.sc (.int .i64 ((Sort.partitionEqual ltP d a b pv).1:Int)),[some (rowP n (Sort.partitionEqual ltP d a b pv).2)]⟩):=by
 refine E2 Tryz.func123 rfl rfl ?_
 repeat apply ae;rfl
 refine aS (by kernel_rfl) (by kernel_rfl) ?_
 repeat first|apply aA;rfl|refine aX rfl rfl rfl (F.ag _ rfl) (recP) rfl (by(omega)) (by(omega)) ?_|refine db (bS (F.sz _ rfl) rfl rfl rfl (recP) rfl (by first|omega|(simp only [D4,aq];omega)) (by first|omega|(simp only [D4,aq];omega))) rfl rfl ?_|refine an (q:=a) rfl rfl rfl rfl (F.un _ rfl) (F.sz _ rfl) rfl (by omega) (by omega) (by omega) ?_|refine an (q:=pv) rfl rfl rfl rfl (F.un _ rfl) (F.sz _ rfl) rfl (by omega) (by omega) (by omega) ?_
 refine ay ⟨by kernel_rfl,?_,?_⟩;(focus(repeat(first|exact Gc|apply bZ;rfl|apply bM;rfl|refine⟨.inr (by(repeat(refine⟨(by(exact az (F.un _ rfl) (F.sz _ rfl) rfl rfl rfl (by omega) (by omega) (by omega))),?_⟩));exact Gc),?_⟩|refine⟨.inl (by kernel_rfl),?_⟩)))
 repeat first|apply ae;rfl|apply aB;rfl;omega;omega
 refine cO 1 (fun s:(Nat×Nat)×Array El=> [(0,.slu 0 0 n),(1,.sc (.int .i64 (a:Int))),(4,cmpF),(11,.sc (.int .i64 (s.1.1:Int))),(12,.sc (.int .i64 (s.1.2:Int)))]) (fun s=> [some (rowP n s.2)]) (fun s=>a<s.1.1∧s.1.1≤n∧s.1.2<n∧s.2.size=n∧Sort.partEqLoop ltP a s.1.1 s.1.2 s.2=Sort.partitionEqual ltP d a b pv) (fun s=>s.1.2+1-s.1.1) ((a+1,b-1),Sort.swp d a pv) []
  (fun _=>rfl) ⟨by simp only;omega,by simp only;omega,by simp only;omega,by rw [aq];exact hd,rfl⟩ ?_ (fun _=>rfl) (fun _=>rfl) ?_
 ·(refine⟨(E0 rfl),rfl,(by repeat(first|exact Gc|refine⟨rfl,?_⟩|refine⟨cK (by(simp only;omega)),?_⟩)),⟨ai rfl,trivial⟩⟩)
 rintro⟨⟨i,j⟩,d1⟩ ⟨hai,hi,hj,hd1,ho⟩ ih
 simp only at hai hi hj hd1 ho ih ⊢
 repeat apply ae;rfl
 refine cI 1 (fun x:Nat=> [(0,.slu 0 0 n),(1,.sc (.int .i64 (a:Int))),(4,cmpF),(11,.sc (.int .i64 (x:Int))),(12,.sc (.int .i64 (j:Int)))]) (fun _=> [some (rowP n d1)]) (fun x=>i≤x∧x≤n∧Sort.scanUp (fun y=> !ltP d1[a]! y) d1 j x=Sort.scanUp (fun y=> !ltP d1[a]! y) d1 j i) (fun x=>n-x) i []
  1 (fun x:Nat=> [(0,.slu 0 0 n),(1,.sc (.int .i64 (a:Int))),(4,cmpF),(11,.sc (.int .i64 (x:Int))),(12,.sc (.int .i64 (j:Int)))]) (fun _=> [some (rowP n d1)]) (fun x=>i≤x∧x≤n∧Sort.scanUp (fun y=> !ltP d1[a]! y) d1 j i=x)
  (fun _=>rfl) (fun _=>rfl) ⟨Em _,hi,rfl⟩ ?_ (fun _=>rfl) (fun _=>rfl) ?_ ?_
 ·(exact Ga rfl rfl rfl ⟨ai rfl,trivial⟩)
 ·rintro i1 ⟨hii,hi1,hu⟩ ihu out
  repeat apply ae;rfl
  refine aS (by kernel_rfl) (by kernel_rfl) ?_
  repeat apply aA;rfl
  refine fx rfl rfl rfl rfl ?_ ?_
  all_goals intro h1
  ·repeat first|apply aA;rfl|refine aX rfl rfl rfl (F.ag _ rfl) (recP) rfl (by(omega)) (by(omega)) ?_|refine an (q:=a) rfl rfl rfl rfl (F.un _ rfl) (F.sz _ rfl) rfl (by omega) (by omega) (by omega) ?_|refine an (q:=i1) rfl rfl rfl rfl (F.un _ rfl) (F.sz _ rfl) rfl (by omega) (by omega) (by omega) ?_|refine bg rfl rfl rfl rfl (by kernel_rfl) rfl (Ctr.callV (cmp_spec d1[a]! d1[i1]!) [] rfl (E0 rfl) rfl trivial rfl) ?_
   refine bx rfl rfl rfl rfl ?_ ?_
   all_goals intro h2
   ·repeat apply aA;rfl
    refine ay ⟨by kernel_rfl,?_,?_⟩;(focus(repeat(first|exact Gc|apply bZ;rfl|apply bM;rfl|refine⟨.inr (by(repeat(refine⟨(by(exact az (F.un _ rfl) (F.sz _ rfl) rfl rfl rfl (by omega) (by omega) (by omega))),?_⟩));exact Gc),?_⟩|refine⟨.inl (by kernel_rfl),?_⟩)))
    repeat first|refine out _ _ _ i1 [] ⟨hii,hi1,by rw [← hu];exact bY (.inr (by simpa [ltP] using h2))⟩ ?_;(exact Ga rfl rfl rfl ⟨ai rfl,trivial⟩)|apply bk;rfl
   ·repeat apply aA;rfl
    refine ay ⟨by kernel_rfl,?_,?_⟩;(focus(repeat(first|exact Gc|apply bZ;rfl|apply bM;rfl|refine⟨.inr (by(repeat(refine⟨(by(exact az (F.un _ rfl) (F.sz _ rfl) rfl rfl rfl (by omega) (by omega) (by omega))),?_⟩));exact Gc),?_⟩|refine⟨.inl (by kernel_rfl),?_⟩)))
    repeat first|apply ae;rfl|apply aB;rfl;omega;omega
    refine ihu _ _ _ (i1+1) [] ⟨by omega,by omega,?_⟩ (by omega) ?_
    ·rw [← hu]
     exact(fR (by omega) (by simpa [ltP] using h2)).symm
    ·(exact Ga rfl rfl rfl ⟨ai rfl,trivial⟩)
  ·repeat first|apply aA;rfl|refine b8 rfl rfl ?_
   refine ay ⟨by kernel_rfl,?_,?_⟩;(focus(repeat(first|exact Gc|apply ow;rfl|apply bM;rfl|refine⟨.inl rfl,?_⟩)))
   repeat first|refine out _ _ _ i1 [] ⟨hii,hi1,by rw [← hu];exact bY (.inl (by omega))⟩ ?_;(exact Ga rfl rfl rfl ⟨ai rfl,trivial⟩)|apply bk;rfl
 rintro i2 ⟨hii,hi2,hu⟩
 repeat apply ae;rfl
 refine cI 1 (fun x:Nat=> [(0,.slu 0 0 n),(1,.sc (.int .i64 (a:Int))),(4,cmpF),(11,.sc (.int .i64 (i2:Int))),(12,.sc (.int .i64 (x:Int)))]) (fun _=> [some (rowP n d1)]) (fun x=>x≤j∧Sort.scanDown (fun y=>ltP d1[a]! y) d1 i2 x=Sort.scanDown (fun y=>ltP d1[a]! y) d1 i2 j) (fun x=>x) j []
  1 (fun x:Nat=> [(0,.slu 0 0 n),(1,.sc (.int .i64 (a:Int))),(4,cmpF),(11,.sc (.int .i64 (i2:Int))),(12,.sc (.int .i64 (x:Int)))]) (fun _=> [some (rowP n d1)]) (fun x=>x≤j∧Sort.scanDown (fun y=>ltP d1[a]! y) d1 i2 j=x)
  (fun _=>rfl) (fun _=>rfl) ⟨Em _,rfl⟩ ?_ (fun _=>rfl) (fun _=>rfl) ?_ ?_
 ·(exact Ga rfl rfl rfl ⟨ai rfl,trivial⟩)
 ·rintro j1 ⟨hjj,hv⟩ ihv out
  repeat apply ae;rfl
  refine aS (by kernel_rfl) (by kernel_rfl) ?_
  repeat apply aA;rfl
  refine fx rfl rfl rfl rfl ?_ ?_
  all_goals intro h1
  ·repeat first|apply aA;rfl|refine aX rfl rfl rfl (F.ag _ rfl) (recP) rfl (by(omega)) (by(omega)) ?_|refine an (q:=a) rfl rfl rfl rfl (F.un _ rfl) (F.sz _ rfl) rfl (by omega) (by omega) (by omega) ?_|refine an (q:=j1) rfl rfl rfl rfl (F.un _ rfl) (F.sz _ rfl) rfl (by omega) (by omega) (by omega) ?_|refine bg rfl rfl rfl rfl (by kernel_rfl) rfl (Ctr.callV (cmp_spec d1[a]! d1[j1]!) [] rfl (E0 rfl) rfl trivial rfl) ?_
   refine bx rfl rfl rfl rfl ?_ ?_
   all_goals intro h2
   ·repeat apply aA;rfl
    refine ay ⟨by kernel_rfl,?_,?_⟩;(focus(repeat(first|exact Gc|apply bZ;rfl|apply bM;rfl|refine⟨.inr (by(repeat(refine⟨(by(exact az (F.un _ rfl) (F.sz _ rfl) rfl rfl rfl (by omega) (by omega) (by omega))),?_⟩));exact Gc),?_⟩|refine⟨.inl (by kernel_rfl),?_⟩)))
    repeat first|apply ae;rfl|apply aB;rfl;omega;omega
    obtain⟨j1,rfl⟩: ∃ j',j1=j'+1:=⟨j1-1,by omega⟩
    refine ihv _ _ _ j1 [] ⟨by omega,?_⟩ (by omega) ?_
    ·rw [← hv]
     exact(d7 (by omega) (by simpa [ltP] using h2)).symm
    ·(refine⟨(E0 rfl),rfl,(by repeat(first|exact Gc|refine⟨rfl,?_⟩|refine⟨cK (by(omega)),?_⟩)),⟨ai rfl,trivial⟩⟩)
   ·repeat apply aA;rfl
    refine ay ⟨by kernel_rfl,?_,?_⟩;(focus(repeat(first|exact Gc|apply bZ;rfl|apply bM;rfl|refine⟨.inr (by(repeat(refine⟨(by(exact az (F.un _ rfl) (F.sz _ rfl) rfl rfl rfl (by omega) (by omega) (by omega))),?_⟩));exact Gc),?_⟩|refine⟨.inl (by kernel_rfl),?_⟩)))
    repeat first|refine out _ _ _ j1 [] ⟨hjj,by rw [← hv];exact bI (.inr (by simpa [ltP] using h2))⟩ ?_;(exact Ga rfl rfl rfl ⟨ai rfl,trivial⟩)|apply bk;rfl
  ·repeat first|apply aA;rfl|refine b8 rfl rfl ?_
   refine ay ⟨by kernel_rfl,?_,?_⟩;(focus(repeat(first|exact Gc|apply ow;rfl|apply bM;rfl|refine⟨.inl rfl,?_⟩)))
   repeat first|refine out _ _ _ j1 [] ⟨hjj,by rw [← hv];exact bI (.inl (by omega))⟩ ?_;(exact Ga rfl rfl rfl ⟨ai rfl,trivial⟩)|apply bk;rfl
 rintro j2 ⟨hjj,hv⟩
 have e:=jL hu hv hii hjj
 repeat apply ae;rfl
 refine dS rfl rfl rfl rfl ?_ ?_
 all_goals intro h3
 ·rw [ho,Ez (by omega)] at e
  repeat apply ae;rfl
  rw [e]
  ((apply bv Tryz.func123 (congrArg Array.toList Tryz.results123));(focus(repeat(first|exact E3|apply E5 rfl)));refine⟨_,rfl,Ends.mk [] (E0 rfl) rfl rfl ?_⟩)
  exact⟨ai rfl,trivial⟩
 ·rw [ho,Ey (by omega)] at e
  repeat apply ae;rfl
  refine aS (by kernel_rfl) (by kernel_rfl) ?_
  repeat first|apply aA;rfl|refine aX rfl rfl rfl (F.ag _ rfl) (recP) rfl (by(omega)) (by(omega)) ?_|refine db (bS (F.sz _ rfl) rfl rfl rfl (recP) rfl (by first|omega|(simp only [D4,aq];omega)) (by first|omega|(simp only [D4,aq];omega))) rfl rfl ?_|refine an (q:=i2) rfl rfl rfl rfl (F.un _ rfl) (F.sz _ rfl) rfl (by omega) (by omega) (by omega) ?_|refine an (q:=j2) rfl rfl rfl rfl (F.un _ rfl) (F.sz _ rfl) rfl (by omega) (by omega) (by omega) ?_
  refine ay ⟨by kernel_rfl,?_,?_⟩;(focus(repeat(first|exact Gc|apply bZ;rfl|apply bM;rfl|refine⟨.inr (by(repeat(refine⟨(by(exact az (F.un _ rfl) (F.sz _ rfl) rfl rfl rfl (by omega) (by omega) (by omega))),?_⟩));exact Gc),?_⟩|refine⟨.inl (by kernel_rfl),?_⟩)))
  repeat first|apply ae;rfl|apply aB;rfl;omega;omega
  refine ih _ _ _ ((i2+1,j2-1),Sort.swp d1 i2 j2) [] ⟨by simp only;omega,by simp only;omega,by simp only;omega,by rw [aq];exact hd1,e.symm⟩ (by simp only;omega) ?_
  (refine⟨(E0 rfl),rfl,(by repeat(first|exact Gc|refine⟨rfl,?_⟩|refine⟨cK (by(simp only;omega)),?_⟩)),⟨ai rfl,trivial⟩⟩)
end
end Ow
end Go.Proofs.YtelnglhodnoclaaGreat
end
section
namespace Go.Proofs.YtelnglhodnoclaaGreat
namespace Ow
open Go Go.Sy
theorem mS{lt:El→El→Bool}{d:Array El}{a i j i2 j2:Nat}(hi:Sort.scanUp (fun x=>lt x d[a]!) d j i=i2)(hj:Sort.scanDown (fun x=> !lt x d[a]!) d i2 j=j2)(h1:i≤i2)(h2:j2≤j) :
 Sort.partLoop lt a i j d=if j2<i2 then(j2,d) else Sort.partLoop lt a (i2+1) (j2-1) (Sort.swp d i2 j2):=by
 conv=>lhs;unfold Sort.partLoop
 simp only [hi,hj]
 split
 ·rfl
 ·rw [dif_pos (by omega)]
theorem pq{lt:El→El→Bool}{d:Array El}{a b pv i2 j2:Nat}(hi:Sort.scanUp (fun x=>lt x (Sort.swp d a pv)[a]!) (Sort.swp d a pv) (b-1) (a+1)=i2)(hj:Sort.scanDown (fun x=> !lt x (Sort.swp d a pv)[a]!) (Sort.swp d a pv) i2 (b-1)=j2) :
 Sort.partition lt d a b pv=if j2<i2 then(j2,true,Sort.swp (Sort.swp d a pv) j2 a) else((Sort.partLoop lt a (i2+1) (j2-1) (Sort.swp (Sort.swp d a pv) i2 j2)).1,false,Sort.swp (Sort.partLoop lt a (i2+1) (j2-1) (Sort.swp (Sort.swp d a pv) i2 j2)).2 (Sort.partLoop lt a (i2+1) (j2-1) (Sort.swp (Sort.swp d a pv) i2 j2)).1 a):=by
 simp only [Sort.partition,hi,hj]
theorem mT(n a b pv:Nat)(d:Array El)(hn:n<4611686018427387904)(hd:d.size=n)(hap:a≤pv)(hpb:pv<b)(hb:b≤n) :
 Ctr Tryz.prog 124 [.slu 0 0 n,.sc (.int .i64 (a:Int)),.sc (.int .i64 (b:Int)),.sc (.int .i64 (pv:Int)),cmpF] [rowP n d] (fun c=>c=⟨.tup [.sc (.int .i64 ((Sort.partition ltP d a b pv).1:Int)),.sc (.bool (Sort.partition ltP d a b pv).2.1)],[some (rowP n (Sort.partition ltP d a b pv).2.2)]⟩):=by
 refine E2 Tryz.func124 rfl rfl ?_
 repeat apply ae;rfl
 refine aS (by kernel_rfl) (by kernel_rfl) ?_
 repeat first|apply aA;rfl|refine aX rfl rfl rfl (F.ag _ rfl) (recP) rfl (by(omega)) (by(omega)) ?_|refine db (bS (F.sz _ rfl) rfl rfl rfl (recP) rfl (by first|omega|(simp only [D4,aq];omega)) (by first|omega|(simp only [D4,aq];omega))) rfl rfl ?_|refine an (q:=a) rfl rfl rfl rfl (F.un _ rfl) (F.sz _ rfl) rfl (by omega) (by omega) (by omega) ?_|refine an (q:=pv) rfl rfl rfl rfl (F.un _ rfl) (F.sz _ rfl) rfl (by omega) (by omega) (by omega) ?_
 refine ay ⟨by kernel_rfl,?_,?_⟩;(focus(repeat(first|exact Gc|apply bZ;rfl|apply bM;rfl|refine⟨.inr (by(repeat(refine⟨(by(exact az (F.un _ rfl) (F.sz _ rfl) rfl rfl rfl (by omega) (by omega) (by omega))),?_⟩));exact Gc),?_⟩|refine⟨.inl (by kernel_rfl),?_⟩)))
 have e0:=pq (lt:=ltP) (d:=d) (a:=a) (b:=b) (pv:=pv) rfl rfl
 have hd1:(Sort.swp d a pv).size=n:=by rw [aq];exact hd
 generalize hsw:Sort.swp d a pv=d1 at e0 hd1
 have hsw':(d.setIfInBounds a d[pv]!).setIfInBounds pv d[a]! =d1:=hsw
 rw [hsw']
 repeat first|apply ae;rfl|apply aB;rfl;omega;omega
 refine cI 1 (fun x:Nat=> [(0,.slu 0 0 n),(1,.sc (.int .i64 (a:Int))),(4,cmpF),(12,.sc (.int .i64 (x:Int))),(13,.sc (.int .i64 ((b-1:Nat):Int)))]) (fun _=> [some (rowP n d1)]) (fun x=>a+1≤x∧x≤n∧Sort.scanUp (fun y=>ltP y d1[a]!) d1 (b-1) x=Sort.scanUp (fun y=>ltP y d1[a]!) d1 (b-1) (a+1)) (fun x=>n-x) (a+1) []
  1 (fun x:Nat=> [(0,.slu 0 0 n),(1,.sc (.int .i64 (a:Int))),(4,cmpF),(12,.sc (.int .i64 (x:Int))),(13,.sc (.int .i64 ((b-1:Nat):Int)))]) (fun _=> [some (rowP n d1)]) (fun x=>a+1≤x∧x≤n∧Sort.scanUp (fun y=>ltP y d1[a]!) d1 (b-1) (a+1)=x)
  (fun _=>rfl) (fun _=>rfl) ⟨Em _,by omega,rfl⟩ ?_ (fun _=>rfl) (fun _=>rfl) ?_ ?_
 ·(refine⟨(E0 rfl),rfl,(by repeat(first|exact Gc|refine⟨rfl,?_⟩|refine⟨cK (by(omega)),?_⟩)),⟨ai rfl,trivial⟩⟩)
 ·rintro i1 ⟨hii,hi1,hu⟩ ihu out
  repeat apply ae;rfl
  refine aS (by kernel_rfl) (by kernel_rfl) ?_
  repeat apply aA;rfl
  refine fx rfl rfl rfl rfl ?_ ?_
  all_goals intro h1
  ·repeat first|apply aA;rfl|refine aX rfl rfl rfl (F.ag _ rfl) (recP) rfl (by(omega)) (by(omega)) ?_|refine an (q:=a) rfl rfl rfl rfl (F.un _ rfl) (F.sz _ rfl) rfl (by omega) (by omega) (by omega) ?_|refine an (q:=i1) rfl rfl rfl rfl (F.un _ rfl) (F.sz _ rfl) rfl (by omega) (by omega) (by omega) ?_|refine bg rfl rfl rfl rfl (by kernel_rfl) rfl (Ctr.callV (cmp_spec d1[i1]! d1[a]!) [] rfl (E0 rfl) rfl trivial rfl) ?_
   refine bx rfl rfl rfl rfl ?_ ?_
   all_goals intro h2
   ·repeat apply aA;rfl
    refine ay ⟨by kernel_rfl,?_,?_⟩;(focus(repeat(first|exact Gc|apply bZ;rfl|apply bM;rfl|refine⟨.inr (by(repeat(refine⟨(by(exact az (F.un _ rfl) (F.sz _ rfl) rfl rfl rfl (by omega) (by omega) (by omega))),?_⟩));exact Gc),?_⟩|refine⟨.inl (by kernel_rfl),?_⟩)))
    repeat first|apply ae;rfl|apply aB;rfl;omega;omega
    refine ihu _ _ _ (i1+1) [] ⟨by omega,by omega,?_⟩ (by omega) ?_
    ·rw [← hu]
     exact(fR (by omega) (by simpa [ltP] using h2)).symm
    ·(exact Ga rfl rfl rfl ⟨ai rfl,trivial⟩)
   ·repeat apply aA;rfl
    refine ay ⟨by kernel_rfl,?_,?_⟩;(focus(repeat(first|exact Gc|apply bZ;rfl|apply bM;rfl|refine⟨.inr (by(repeat(refine⟨(by(exact az (F.un _ rfl) (F.sz _ rfl) rfl rfl rfl (by omega) (by omega) (by omega))),?_⟩));exact Gc),?_⟩|refine⟨.inl (by kernel_rfl),?_⟩)))
    repeat first|refine out _ _ _ i1 [] ⟨hii,hi1,by rw [← hu];exact bY (.inr (by simpa [ltP] using h2))⟩ ?_;(exact Ga rfl rfl rfl ⟨ai rfl,trivial⟩)|apply bk;rfl
  ·repeat first|apply aA;rfl|refine b8 rfl rfl ?_
   refine ay ⟨by kernel_rfl,?_,?_⟩;(focus(repeat(first|exact Gc|apply ow;rfl|apply bM;rfl|refine⟨.inl rfl,?_⟩)))
   repeat first|refine out _ _ _ i1 [] ⟨hii,hi1,by rw [← hu];exact bY (.inl (by omega))⟩ ?_;(exact Ga rfl rfl rfl ⟨ai rfl,trivial⟩)|apply bk;rfl
 rintro i2 ⟨hii,hi2,hu⟩
 rw [hu] at e0
 repeat apply ae;rfl
 refine cI 1 (fun x:Nat=> [(0,.slu 0 0 n),(1,.sc (.int .i64 (a:Int))),(4,cmpF),(12,.sc (.int .i64 (i2:Int))),(13,.sc (.int .i64 (x:Int)))]) (fun _=> [some (rowP n d1)]) (fun x=>x≤b-1∧Sort.scanDown (fun y=> !ltP y d1[a]!) d1 i2 x=Sort.scanDown (fun y=> !ltP y d1[a]!) d1 i2 (b-1)) (fun x=>x) (b-1) []
  1 (fun x:Nat=> [(0,.slu 0 0 n),(1,.sc (.int .i64 (a:Int))),(4,cmpF),(12,.sc (.int .i64 (i2:Int))),(13,.sc (.int .i64 (x:Int)))]) (fun _=> [some (rowP n d1)]) (fun x=>x≤b-1∧Sort.scanDown (fun y=> !ltP y d1[a]!) d1 i2 (b-1)=x)
  (fun _=>rfl) (fun _=>rfl) ⟨Em _,rfl⟩ ?_ (fun _=>rfl) (fun _=>rfl) ?_ ?_
 ·(exact Ga rfl rfl rfl ⟨ai rfl,trivial⟩)
 ·rintro j1 ⟨hjj,hv⟩ ihv out
  repeat apply ae;rfl
  refine aS (by kernel_rfl) (by kernel_rfl) ?_
  repeat apply aA;rfl
  refine fx rfl rfl rfl rfl ?_ ?_
  all_goals intro h1
  ·repeat first|apply aA;rfl|refine aX rfl rfl rfl (F.ag _ rfl) (recP) rfl (by(omega)) (by(omega)) ?_|refine an (q:=a) rfl rfl rfl rfl (F.un _ rfl) (F.sz _ rfl) rfl (by omega) (by omega) (by omega) ?_|refine an (q:=j1) rfl rfl rfl rfl (F.un _ rfl) (F.sz _ rfl) rfl (by omega) (by omega) (by omega) ?_|refine bg rfl rfl rfl rfl (by kernel_rfl) rfl (Ctr.callV (cmp_spec d1[j1]! d1[a]!) [] rfl (E0 rfl) rfl trivial rfl) ?_
   refine bx rfl rfl rfl rfl ?_ ?_
   all_goals intro h2
   ·repeat apply aA;rfl
    refine ay ⟨by kernel_rfl,?_,?_⟩;(focus(repeat(first|exact Gc|apply bZ;rfl|apply bM;rfl|refine⟨.inr (by(repeat(refine⟨(by(exact az (F.un _ rfl) (F.sz _ rfl) rfl rfl rfl (by omega) (by omega) (by omega))),?_⟩));exact Gc),?_⟩|refine⟨.inl (by kernel_rfl),?_⟩)))
    repeat first|refine out _ _ _ j1 [] ⟨hjj,by rw [← hv];exact bI (.inr (by simpa [ltP] using h2))⟩ ?_;(exact Ga rfl rfl rfl ⟨ai rfl,trivial⟩)|apply bk;rfl
   ·repeat apply aA;rfl
    refine ay ⟨by kernel_rfl,?_,?_⟩;(focus(repeat(first|exact Gc|apply bZ;rfl|apply bM;rfl|refine⟨.inr (by(repeat(refine⟨(by(exact az (F.un _ rfl) (F.sz _ rfl) rfl rfl rfl (by omega) (by omega) (by omega))),?_⟩));exact Gc),?_⟩|refine⟨.inl (by kernel_rfl),?_⟩)))
    repeat first|apply ae;rfl|apply aB;rfl;omega;omega
    obtain⟨j1,rfl⟩: ∃ j',j1=j'+1:=⟨j1-1,by omega⟩
    refine ihv _ _ _ j1 [] ⟨by omega,?_⟩ (by omega) ?_
    ·rw [← hv]
     exact(d7 (by omega) (by simpa [ltP] using h2)).symm
    ·(refine⟨(E0 rfl),rfl,(by repeat(first|exact Gc|refine⟨rfl,?_⟩|refine⟨cK (by(omega)),?_⟩)),⟨ai rfl,trivial⟩⟩)
  ·repeat first|apply aA;rfl|refine b8 rfl rfl ?_
   refine ay ⟨by kernel_rfl,?_,?_⟩;(focus(repeat(first|exact Gc|apply ow;rfl|apply bM;rfl|refine⟨.inl rfl,?_⟩)))
   repeat first|refine out _ _ _ j1 [] ⟨hjj,by rw [← hv];exact bI (.inl (by omega))⟩ ?_;(exact Ga rfl rfl rfl ⟨ai rfl,trivial⟩)|apply bk;rfl
 rintro j2 ⟨hjj,hv⟩
 rw [hv] at e0
 repeat apply ae;rfl
 refine dS rfl rfl rfl rfl ?_ ?_
 all_goals intro h3
 ·rw [Ez (by omega)] at e0
  rw [e0]
  repeat apply ae;rfl
  refine aS (by kernel_rfl) (by kernel_rfl) ?_
  repeat first|apply aA;rfl|refine aX rfl rfl rfl (F.ag _ rfl) (recP) rfl (by(omega)) (by(omega)) ?_|refine db (bS (F.sz _ rfl) rfl rfl rfl (recP) rfl (by first|omega|(simp only [D4,aq];omega)) (by first|omega|(simp only [D4,aq];omega))) rfl rfl ?_|refine an (q:=a) rfl rfl rfl rfl (F.un _ rfl) (F.sz _ rfl) rfl (by omega) (by omega) (by omega) ?_|refine an (q:=j2) rfl rfl rfl rfl (F.un _ rfl) (F.sz _ rfl) rfl (by omega) (by omega) (by omega) ?_
  refine ay ⟨by kernel_rfl,?_,?_⟩;(focus(repeat(first|exact Gc|apply bZ;rfl|apply bM;rfl|refine⟨.inr (by(repeat(refine⟨(by(exact az (F.un _ rfl) (F.sz _ rfl) rfl rfl rfl (by omega) (by omega) (by omega))),?_⟩));exact Gc),?_⟩|refine⟨.inl (by kernel_rfl),?_⟩)))
  repeat apply ae;rfl
  ((apply bv Tryz.func124 (congrArg Array.toList Tryz.results124));(focus(repeat(first|exact E3|apply E5 rfl)));refine⟨_,rfl,Ends.mk [] (E0 rfl) rfl rfl ?_⟩)
  exact⟨ai rfl,trivial⟩
 rw [Ey (by omega)] at e0
 rw [e0]
 repeat apply ae;rfl
 refine aS (by kernel_rfl) (by kernel_rfl) ?_
 repeat first|apply aA;rfl|refine aX rfl rfl rfl (F.ag _ rfl) (recP) rfl (by(omega)) (by(omega)) ?_|refine db (bS (F.sz _ rfl) rfl rfl rfl (recP) rfl (by first|omega|(simp only [D4,aq];omega)) (by first|omega|(simp only [D4,aq];omega))) rfl rfl ?_|refine an (q:=i2) rfl rfl rfl rfl (F.un _ rfl) (F.sz _ rfl) rfl (by omega) (by omega) (by omega) ?_|refine an (q:=j2) rfl rfl rfl rfl (F.un _ rfl) (F.sz _ rfl) rfl (by omega) (by omega) (by omega) ?_
 refine ay ⟨by kernel_rfl,?_,?_⟩;(focus(repeat(first|exact Gc|apply bZ;rfl|apply bM;rfl|refine⟨.inr (by(repeat(refine⟨(by(exact az (F.un _ rfl) (F.sz _ rfl) rfl rfl rfl (by omega) (by omega) (by omega))),?_⟩));exact Gc),?_⟩|refine⟨.inl (by kernel_rfl),?_⟩)))
 repeat first|apply ae;rfl|apply aB;rfl;omega;omega
 refine cI 1 (fun s:(Nat×Nat)×Array El=> [(0,.slu 0 0 n),(1,.sc (.int .i64 (a:Int))),(4,cmpF),(12,.sc (.int .i64 (s.1.1:Int))),(13,.sc (.int .i64 (s.1.2:Int)))]) (fun s=> [some (rowP n s.2)]) (fun s=>a<s.1.1∧s.1.1≤n∧s.1.2<n∧s.2.size=n∧Sort.partLoop ltP a s.1.1 s.1.2 s.2=Sort.partLoop ltP a (i2+1) (j2-1) (Sort.swp d1 i2 j2)) (fun s=>s.1.2+1-s.1.1) ((i2+1,j2-1),Sort.swp d1 i2 j2) []
  1 (fun s:Nat×Array El=> [(0,.slu 0 0 n),(1,.sc (.int .i64 (a:Int))),(4,cmpF),(13,.sc (.int .i64 (s.1:Int)))]) (fun s=> [some (rowP n s.2)]) (fun s=>s.1<n∧s.2.size=n∧Sort.partLoop ltP a (i2+1) (j2-1) (Sort.swp d1 i2 j2)=s)
  (fun _=>rfl) (fun _=>rfl) ⟨by simp only;omega,by simp only;omega,by simp only;omega,by rw [aq];exact hd1,rfl⟩ ?_ (fun _=>rfl) (fun _=>rfl) ?_ ?_
 ·(refine⟨(E0 rfl),rfl,(by repeat(first|exact Gc|refine⟨rfl,?_⟩|refine⟨cK (by(simp only;omega)),?_⟩)),⟨ai rfl,trivial⟩⟩)
 ·rintro⟨⟨i,j⟩,d3⟩ ⟨hai,hi,hj,hd3,ho⟩ ih outer
  simp only at hai hi hj hd3 ho ih ⊢
  repeat apply ae;rfl
  refine cI 1 (fun x:Nat=> [(0,.slu 0 0 n),(1,.sc (.int .i64 (a:Int))),(4,cmpF),(12,.sc (.int .i64 (x:Int))),(13,.sc (.int .i64 (j:Int)))]) (fun _=> [some (rowP n d3)]) (fun x=>i≤x∧x≤n∧Sort.scanUp (fun y=>ltP y d3[a]!) d3 j x=Sort.scanUp (fun y=>ltP y d3[a]!) d3 j i) (fun x=>n-x) i []
   1 (fun x:Nat=> [(0,.slu 0 0 n),(1,.sc (.int .i64 (a:Int))),(4,cmpF),(12,.sc (.int .i64 (x:Int))),(13,.sc (.int .i64 (j:Int)))]) (fun _=> [some (rowP n d3)]) (fun x=>i≤x∧x≤n∧Sort.scanUp (fun y=>ltP y d3[a]!) d3 j i=x)
   (fun _=>rfl) (fun _=>rfl) ⟨Em _,hi,rfl⟩ ?_ (fun _=>rfl) (fun _=>rfl) ?_ ?_
  ·(exact Ga rfl rfl rfl ⟨ai rfl,trivial⟩)
  ·rintro i1 ⟨hii,hi1,hu⟩ ihu out
   repeat apply ae;rfl
   refine aS (by kernel_rfl) (by kernel_rfl) ?_
   repeat apply aA;rfl
   refine fx rfl rfl rfl rfl ?_ ?_
   all_goals intro h1
   ·repeat first|apply aA;rfl|refine aX rfl rfl rfl (F.ag _ rfl) (recP) rfl (by(omega)) (by(omega)) ?_|refine an (q:=a) rfl rfl rfl rfl (F.un _ rfl) (F.sz _ rfl) rfl (by omega) (by omega) (by omega) ?_|refine an (q:=i1) rfl rfl rfl rfl (F.un _ rfl) (F.sz _ rfl) rfl (by omega) (by omega) (by omega) ?_|refine bg rfl rfl rfl rfl (by kernel_rfl) rfl (Ctr.callV (cmp_spec d3[i1]! d3[a]!) [] rfl (E0 rfl) rfl trivial rfl) ?_
    refine bx rfl rfl rfl rfl ?_ ?_
    all_goals intro h2
    ·repeat apply aA;rfl
     refine ay ⟨by kernel_rfl,?_,?_⟩;(focus(repeat(first|exact Gc|apply bZ;rfl|apply bM;rfl|refine⟨.inr (by(repeat(refine⟨(by(exact az (F.un _ rfl) (F.sz _ rfl) rfl rfl rfl (by omega) (by omega) (by omega))),?_⟩));exact Gc),?_⟩|refine⟨.inl (by kernel_rfl),?_⟩)))
     repeat first|apply ae;rfl|apply aB;rfl;omega;omega
     refine ihu _ _ _ (i1+1) [] ⟨by omega,by omega,?_⟩ (by omega) ?_
     ·rw [← hu]
      exact(fR (by omega) (by simpa [ltP] using h2)).symm
     ·(exact Ga rfl rfl rfl ⟨ai rfl,trivial⟩)
    ·repeat apply aA;rfl
     refine ay ⟨by kernel_rfl,?_,?_⟩;(focus(repeat(first|exact Gc|apply bZ;rfl|apply bM;rfl|refine⟨.inr (by(repeat(refine⟨(by(exact az (F.un _ rfl) (F.sz _ rfl) rfl rfl rfl (by omega) (by omega) (by omega))),?_⟩));exact Gc),?_⟩|refine⟨.inl (by kernel_rfl),?_⟩)))
     repeat first|refine out _ _ _ i1 [] ⟨hii,hi1,by rw [← hu];exact bY (.inr (by simpa [ltP] using h2))⟩ ?_;(exact Ga rfl rfl rfl ⟨ai rfl,trivial⟩)|apply bk;rfl
   ·repeat first|apply aA;rfl|refine b8 rfl rfl ?_
    refine ay ⟨by kernel_rfl,?_,?_⟩;(focus(repeat(first|exact Gc|apply ow;rfl|apply bM;rfl|refine⟨.inl rfl,?_⟩)))
    repeat first|refine out _ _ _ i1 [] ⟨hii,hi1,by rw [← hu];exact bY (.inl (by omega))⟩ ?_;(exact Ga rfl rfl rfl ⟨ai rfl,trivial⟩)|apply bk;rfl
  rintro i3 ⟨hii3,hi3,hu3⟩
  repeat apply ae;rfl
  refine cI 1 (fun x:Nat=> [(0,.slu 0 0 n),(1,.sc (.int .i64 (a:Int))),(4,cmpF),(12,.sc (.int .i64 (i3:Int))),(13,.sc (.int .i64 (x:Int)))]) (fun _=> [some (rowP n d3)]) (fun x=>x≤j∧Sort.scanDown (fun y=> !ltP y d3[a]!) d3 i3 x=Sort.scanDown (fun y=> !ltP y d3[a]!) d3 i3 (j)) (fun x=>x) (j) []
   1 (fun x:Nat=> [(0,.slu 0 0 n),(1,.sc (.int .i64 (a:Int))),(4,cmpF),(12,.sc (.int .i64 (i3:Int))),(13,.sc (.int .i64 (x:Int)))]) (fun _=> [some (rowP n d3)]) (fun x=>x≤j∧Sort.scanDown (fun y=> !ltP y d3[a]!) d3 i3 (j)=x)
   (fun _=>rfl) (fun _=>rfl) ⟨Em _,rfl⟩ ?_ (fun _=>rfl) (fun _=>rfl) ?_ ?_
  ·(exact Ga rfl rfl rfl ⟨ai rfl,trivial⟩)
  ·rintro j1 ⟨hjj,hv⟩ ihv out
   repeat apply ae;rfl
   refine aS (by kernel_rfl) (by kernel_rfl) ?_
   repeat apply aA;rfl
   refine fx rfl rfl rfl rfl ?_ ?_
   all_goals intro h1
   ·repeat first|apply aA;rfl|refine aX rfl rfl rfl (F.ag _ rfl) (recP) rfl (by(omega)) (by(omega)) ?_|refine an (q:=a) rfl rfl rfl rfl (F.un _ rfl) (F.sz _ rfl) rfl (by omega) (by omega) (by omega) ?_|refine an (q:=j1) rfl rfl rfl rfl (F.un _ rfl) (F.sz _ rfl) rfl (by omega) (by omega) (by omega) ?_|refine bg rfl rfl rfl rfl (by kernel_rfl) rfl (Ctr.callV (cmp_spec d3[j1]! d3[a]!) [] rfl (E0 rfl) rfl trivial rfl) ?_
    refine bx rfl rfl rfl rfl ?_ ?_
    all_goals intro h2
    ·repeat apply aA;rfl
     refine ay ⟨by kernel_rfl,?_,?_⟩;(focus(repeat(first|exact Gc|apply bZ;rfl|apply bM;rfl|refine⟨.inr (by(repeat(refine⟨(by(exact az (F.un _ rfl) (F.sz _ rfl) rfl rfl rfl (by omega) (by omega) (by omega))),?_⟩));exact Gc),?_⟩|refine⟨.inl (by kernel_rfl),?_⟩)))
     repeat first|refine out _ _ _ j1 [] ⟨hjj,by rw [← hv];exact bI (.inr (by simpa [ltP] using h2))⟩ ?_;(exact Ga rfl rfl rfl ⟨ai rfl,trivial⟩)|apply bk;rfl
    ·repeat apply aA;rfl
     refine ay ⟨by kernel_rfl,?_,?_⟩;(focus(repeat(first|exact Gc|apply bZ;rfl|apply bM;rfl|refine⟨.inr (by(repeat(refine⟨(by(exact az (F.un _ rfl) (F.sz _ rfl) rfl rfl rfl (by omega) (by omega) (by omega))),?_⟩));exact Gc),?_⟩|refine⟨.inl (by kernel_rfl),?_⟩)))
     repeat first|apply ae;rfl|apply aB;rfl;omega;omega
     obtain⟨j1,rfl⟩: ∃ j',j1=j'+1:=⟨j1-1,by omega⟩
     refine ihv _ _ _ j1 [] ⟨by omega,?_⟩ (by omega) ?_
     ·rw [← hv]
      exact(d7 (by omega) (by simpa [ltP] using h2)).symm
     ·(refine⟨(E0 rfl),rfl,(by repeat(first|exact Gc|refine⟨rfl,?_⟩|refine⟨cK (by(omega)),?_⟩)),⟨ai rfl,trivial⟩⟩)
   ·repeat first|apply aA;rfl|refine b8 rfl rfl ?_
    refine ay ⟨by kernel_rfl,?_,?_⟩;(focus(repeat(first|exact Gc|apply ow;rfl|apply bM;rfl|refine⟨.inl rfl,?_⟩)))
    repeat first|refine out _ _ _ j1 [] ⟨hjj,by rw [← hv];exact bI (.inl (by omega))⟩ ?_;(exact Ga rfl rfl rfl ⟨ai rfl,trivial⟩)|apply bk;rfl
  rintro j3 ⟨hjj3,hv3⟩
  have e:=mS hu3 hv3 hii3 hjj3
  repeat apply ae;rfl
  refine dS rfl rfl rfl rfl ?_ ?_
  all_goals intro h3
  ·rw [ho,Ez (by omega)] at e
   repeat first|refine outer _ _ _ (j3,d3) [] ⟨by simp only;omega,hd3,e⟩ ?_;(exact Ga rfl rfl rfl ⟨ai rfl,trivial⟩)|apply bk;rfl
  ·rw [ho,Ey (by omega)] at e
   repeat apply ae;rfl
   refine aS (by kernel_rfl) (by kernel_rfl) ?_
   repeat first|apply aA;rfl|refine aX rfl rfl rfl (F.ag _ rfl) (recP) rfl (by(omega)) (by(omega)) ?_|refine db (bS (F.sz _ rfl) rfl rfl rfl (recP) rfl (by first|omega|(simp only [D4,aq];omega)) (by first|omega|(simp only [D4,aq];omega))) rfl rfl ?_|refine an (q:=i3) rfl rfl rfl rfl (F.un _ rfl) (F.sz _ rfl) rfl (by omega) (by omega) (by omega) ?_|refine an (q:=j3) rfl rfl rfl rfl (F.un _ rfl) (F.sz _ rfl) rfl (by omega) (by omega) (by omega) ?_
   refine ay ⟨by kernel_rfl,?_,?_⟩;(focus(repeat(first|exact Gc|apply bZ;rfl|apply bM;rfl|refine⟨.inr (by(repeat(refine⟨(by(exact az (F.un _ rfl) (F.sz _ rfl) rfl rfl rfl (by omega) (by omega) (by omega))),?_⟩));exact Gc),?_⟩|refine⟨.inl (by kernel_rfl),?_⟩)))
   repeat first|apply ae;rfl|apply aB;rfl;omega;omega
   refine ih _ _ _ ((i3+1,j3-1),Sort.swp d3 i3 j3) [] ⟨by simp only;omega,by simp only;omega,by simp only;omega,by rw [aq];exact hd3,e.symm⟩ (by simp only;omega) ?_
   (refine⟨(E0 rfl),rfl,(by repeat(first|exact Gc|refine⟨rfl,?_⟩|refine⟨cK (by(simp only;omega)),?_⟩)),⟨ai rfl,trivial⟩⟩)
 rintro⟨j3,d3⟩ ⟨hj3,hd3,e⟩
 simp only at hj3 hd3 e ⊢
 rw [e]
 repeat apply ae;rfl
 refine aS (by kernel_rfl) (by kernel_rfl) ?_
 repeat first|apply aA;rfl|refine aX rfl rfl rfl (F.ag _ rfl) (recP) rfl (by(omega)) (by(omega)) ?_|refine db (bS (F.sz _ rfl) rfl rfl rfl (recP) rfl (by first|omega|(simp only [D4,aq];omega)) (by first|omega|(simp only [D4,aq];omega))) rfl rfl ?_|refine an (q:=a) rfl rfl rfl rfl (F.un _ rfl) (F.sz _ rfl) rfl (by omega) (by omega) (by omega) ?_|refine an (q:=j3) rfl rfl rfl rfl (F.un _ rfl) (F.sz _ rfl) rfl (by omega) (by omega) (by omega) ?_
 refine ay ⟨by kernel_rfl,?_,?_⟩;(focus(repeat(first|exact Gc|apply bZ;rfl|apply bM;rfl|refine⟨.inr (by(repeat(refine⟨(by(exact az (F.un _ rfl) (F.sz _ rfl) rfl rfl rfl (by omega) (by omega) (by omega))),?_⟩));exact Gc),?_⟩|refine⟨.inl (by kernel_rfl),?_⟩)))
 repeat apply ae;rfl
 ((apply bv Tryz.func124 (congrArg Array.toList Tryz.results124));(focus(repeat(first|exact E3|apply E5 rfl)));refine⟨_,rfl,Ends.mk [] (E0 rfl) rfl rfl ?_⟩)
 exact⟨ai rfl,trivial⟩
end Ow
end Go.Proofs.YtelnglhodnoclaaGreat
end
section
namespace Go.Proofs.YtelnglhodnoclaaGreat
namespace Ow
open Go Go.Sy
section
variable {a b i i1 s:Nat}{d:Array El}{lt:El→El→Bool}
theorem gQ(h:i<b)(hp:lt d[i]! d[i-1]! =false):Sort.scanSorted lt d b i=Sort.scanSorted lt d b (i+1):=by
 conv=>lhs;rw [Sort.scanSorted,Ez (by simp [h,hp])]
theorem dv(h:b≤i∨lt d[i]! d[i-1]! =true):Sort.scanSorted lt d b i=i:=by
 rw [Sort.scanSorted,Ey]
 simp only [Ek,EZ,Bool.not_eq_true']
 rintro⟨h1,h2⟩
 rcases h with h|h
 ·omega
 ·rw [h] at h2;cases h2
theorem gz{j:Nat}(h:j<b)(hp:lt d[j]! d[j-1]! =true):Sort.shiftUp lt b j d=Sort.shiftUp lt b (j+1) (Sort.swp d j (j-1)):=by
 conv=>lhs;rw [Sort.shiftUp,Ez h,Ey (by simp [hp])]
theorem cL{j:Nat}(h:b≤j∨lt d[j]! d[j-1]! =false):Sort.shiftUp lt b j d=d:=by
 rw [Sort.shiftUp]
 split
 ·rename_i h1
  rw [Ez]
  rcases h with h|h
  ·omega
  ·simp [h]
 ·rfl
theorem mN{d2 d3:Array El}(hi:Sort.scanSorted lt d b i=i1)(h1:i1≠b)(h2: ¬ b-a<50)
 (e2:(if i1-a≥2 then Sort.shiftDown lt (i1-1) (Sort.swp d i1 (i1-1)) else Sort.swp d i1 (i1-1))=d2) (e3:(if b-i1≥2 then Sort.shiftUp lt b (i1+1) d2 else d2)=d3):Sort.partialIns lt a b (s+1) i d=Sort.partialIns lt a b s i1 d3:=by
 rw [Sort.partialIns]
 simp only [hi,Ey h1,Ey h2]
 rw [e2,e3]
theorem mM(hi:Sort.scanSorted lt d b i=i1)(h1:i1=b):Sort.partialIns lt a b (s+1) i d=(d,true):=by
 rw [Sort.partialIns]
 simp only [hi,Ez h1]
theorem lh(hi:Sort.scanSorted lt d b i=i1)(h1:i1≠b)(h2:b-a<50):Sort.partialIns lt a b (s+1) i d=(d,false):=by
 rw [Sort.partialIns]
 simp only [hi,Ey h1,Ez h2]
theorem mO(n a b:Nat)(d:Array El)(hn:n<4611686018427387904)(hd:d.size=n)(hab:a<b)(hb:b≤n) :
 Ctr Tryz.prog 122 [.slu 0 0 n,.sc (.int .i64 (a:Int)),.sc (.int .i64 (b:Int)),cmpF] [rowP n d] (fun c=>c=⟨.sc (.bool (Sort.partialInsertionSort ltP d a b).2),[some (rowP n (Sort.partialInsertionSort ltP d a b).1)]⟩):=by
 refine E2 Tryz.func122 rfl rfl ?_
 repeat first|apply ae;rfl|apply aB;rfl;omega;omega
 refine cO 1 (fun s:(Nat×Nat)×Array El=> [(0,.slu 0 0 n),(1,.sc (.int .i64 (a:Int))),(2,.sc (.int .i64 (b:Int))),(3,cmpF),(9,.sc (.int .i64 (s.1.2:Int))),(10,.sc (.int .i64 ((5-s.1.1:Nat):Int)))]) (fun s=> [some (rowP n s.2)]) (fun s=>s.1.1≤5∧a+1≤s.1.2∧s.1.2≤b∧s.2.size=n∧Sort.partialIns ltP a b s.1.1 s.1.2 s.2=Sort.partialInsertionSort ltP d a b) (fun s=>s.1.1) ((5,a+1),d) []
  (fun _=>rfl) ⟨Em _,Em _,hab,hd,rfl⟩ ?_ (fun _=>rfl) (fun _=>rfl) ?_
 ·(exact Ga rfl rfl rfl ⟨ai rfl,trivial⟩)
 rintro⟨⟨s,i⟩,d0⟩ ⟨hs,hai,hi,hd0,ho⟩ ih
 simp only at hs hai hi hd0 ho ih ⊢
 repeat apply ae;rfl
 refine bm rfl rfl rfl rfl ?_ ?_
 all_goals intro h0
 ·obtain⟨s,rfl⟩: ∃ s',s=s'+1:=⟨s-1,by omega⟩
  repeat apply ae;rfl
  refine cI 1 (fun x:Nat=> [(0,.slu 0 0 n),(1,.sc (.int .i64 (a:Int))),(2,.sc (.int .i64 (b:Int))),(3,cmpF),(9,.sc (.int .i64 (x:Int))),(10,.sc (.int .i64 ((5-(s+1):Nat):Int)))]) (fun _=> [some (rowP n d0)]) (fun x=>a+1≤x∧x≤b∧Sort.scanSorted ltP d0 b x=Sort.scanSorted ltP d0 b i) (fun x=>b-x) i []
   1 (fun x:Nat=> [(0,.slu 0 0 n),(1,.sc (.int .i64 (a:Int))),(2,.sc (.int .i64 (b:Int))),(3,cmpF),(9,.sc (.int .i64 (x:Int))),(10,.sc (.int .i64 ((5-(s+1):Nat):Int)))]) (fun _=> [some (rowP n d0)]) (fun x=>a+1≤x∧x≤b∧Sort.scanSorted ltP d0 b i=x)
   (fun _=>rfl) (fun _=>rfl) ⟨hai,hi,rfl⟩ ?_ (fun _=>rfl) (fun _=>rfl) ?_ ?_
  ·(exact Ga rfl rfl rfl ⟨ai rfl,trivial⟩)
  ·rintro i1 ⟨hai1,hi1,hu⟩ ihu out
   repeat apply ae;rfl
   refine aS (by kernel_rfl) (by kernel_rfl) ?_
   repeat apply aA;rfl
   refine bx rfl rfl rfl rfl ?_ ?_
   all_goals intro h1
   ·repeat first|apply aA;rfl|refine bq (ak rfl rfl (.inr (.inl ⟨rfl,(D3 _ ⟨(by omega),(by omega)⟩).symm⟩))) rfl rfl rfl ?_|refine aX rfl rfl rfl (F.ag _ rfl) (recP) rfl (by(omega)) (by(omega)) ?_|refine an (q:=i1) rfl rfl rfl rfl (F.un _ rfl) (F.sz _ rfl) rfl (by omega) (by omega) (by omega) ?_|refine an (q:=i1-1) rfl rfl rfl rfl (F.un _ rfl) (F.sz _ rfl) rfl (by omega) (by omega) (by omega) ?_|refine bg rfl rfl rfl rfl (by kernel_rfl) rfl (Ctr.callV (cmp_spec d0[i1]! d0[i1-1]!) [] rfl (E0 rfl) rfl trivial rfl) ?_
    refine bx rfl rfl rfl rfl ?_ ?_
    all_goals intro h2
    ·repeat apply aA;rfl
     refine ay ⟨by kernel_rfl,?_,?_⟩;(focus(repeat(first|exact Gc|apply bZ;rfl|apply bM;rfl|refine⟨.inr (by(repeat(refine⟨(by first|exact az (F.un _ rfl) (F.sz _ rfl) rfl rfl rfl (by omega) (by omega) (by omega)|exact ak rfl rfl (.inr (.inl ⟨rfl,(D3 _ ⟨by omega,by omega⟩).symm⟩))),?_⟩));exact Gc),?_⟩|refine⟨.inl (by kernel_rfl),?_⟩)))
     repeat first|refine out _ _ _ i1 [] ⟨hai1,hi1,by rw [← hu];exact dv (.inr (by simpa [ltP] using h2))⟩ ?_;(exact Ga rfl rfl rfl ⟨ai rfl,trivial⟩)|apply bk;rfl
    ·repeat apply aA;rfl
     refine ay ⟨by kernel_rfl,?_,?_⟩;(focus(repeat(first|exact Gc|apply bZ;rfl|apply bM;rfl|refine⟨.inr (by(repeat(refine⟨(by first|exact az (F.un _ rfl) (F.sz _ rfl) rfl rfl rfl (by omega) (by omega) (by omega)|exact ak rfl rfl (.inr (.inl ⟨rfl,(D3 _ ⟨by omega,by omega⟩).symm⟩))),?_⟩));exact Gc),?_⟩|refine⟨.inl (by kernel_rfl),?_⟩)))
     repeat first|apply ae;rfl|apply aB;rfl;omega;omega
     refine ihu _ _ _ (i1+1) [] ⟨by omega,by omega,?_⟩ (by omega) ?_
     ·rw [← hu]
      exact(gQ (by omega) (by simpa [ltP] using h2)).symm
     ·(exact Ga rfl rfl rfl ⟨ai rfl,trivial⟩)
   ·repeat first|apply aA;rfl|refine b8 rfl rfl ?_
    refine ay ⟨by kernel_rfl,?_,?_⟩;(focus(repeat(first|exact Gc|apply ow;rfl|apply bM;rfl|refine⟨.inl rfl,?_⟩)))
    repeat first|refine out _ _ _ i1 [] ⟨hai1,hi1,by rw [← hu];exact dv (.inl (by omega))⟩ ?_;(exact Ga rfl rfl rfl ⟨ai rfl,trivial⟩)|apply bk;rfl
  rintro i1 ⟨hai1,hi1,hu⟩
  repeat apply ae;rfl
  refine cE rfl rfl rfl rfl ?_ ?_
  all_goals intro h1
  ·rw [mM hu (by omega)] at ho
   repeat apply ae;rfl
   rw [← ho]
   ((apply bv Tryz.func122 (congrArg Array.toList Tryz.results122));(focus(repeat(first|exact E3|apply E5 rfl)));refine⟨_,rfl,Ends.mk [] (E0 rfl) rfl rfl ?_⟩)
   exact⟨ai rfl,trivial⟩
  repeat first|apply ae;rfl|apply aB;rfl;omega;omega
  refine bm rfl rfl rfl rfl ?_ ?_
  all_goals intro h2
  ·rw [lh hu (by omega) (by omega)] at ho
   repeat apply ae;rfl
   rw [← ho]
   ((apply bv Tryz.func122 (congrArg Array.toList Tryz.results122));(focus(repeat(first|exact E3|apply E5 rfl)));refine⟨_,rfl,Ends.mk [] (E0 rfl) rfl rfl ?_⟩)
   exact⟨ai rfl,trivial⟩
  repeat apply ae;rfl
  refine aS (by kernel_rfl) (by kernel_rfl) ?_
  repeat first|apply aA;rfl|refine bq (ak rfl rfl (.inr (.inl ⟨rfl,(D3 _ ⟨(by omega),(by omega)⟩).symm⟩))) rfl rfl rfl ?_|refine aX rfl rfl rfl (F.ag _ rfl) (recP) rfl (by(omega)) (by(omega)) ?_|refine db (bS (F.sz _ rfl) rfl rfl rfl (recP) rfl (by first|omega|(simp only [D4,aq];omega)) (by first|omega|(simp only [D4,aq];omega))) rfl rfl ?_|refine an (q:=i1) rfl rfl rfl rfl (F.un _ rfl) (F.sz _ rfl) rfl (by omega) (by omega) (by omega) ?_|refine an (q:=i1-1) rfl rfl rfl rfl (F.un _ rfl) (F.sz _ rfl) rfl (by omega) (by omega) (by omega) ?_
  refine ay ⟨by kernel_rfl,?_,?_⟩;(focus(repeat(first|exact Gc|apply bZ;rfl|apply bM;rfl|refine⟨.inr (by(repeat(refine⟨(by first|exact az (F.un _ rfl) (F.sz _ rfl) rfl rfl rfl (by omega) (by omega) (by omega)|exact ak rfl rfl (.inr (.inl ⟨rfl,(D3 _ ⟨by omega,by omega⟩).symm⟩))),?_⟩));exact Gc),?_⟩|refine⟨.inl (by kernel_rfl),?_⟩)))
  have hd1:(Sort.swp d0 i1 (i1-1)).size=n:=by rw [aq];exact hd0
  have e2: ∃ d2,(if i1-a≥2 then Sort.shiftDown ltP (i1-1) (Sort.swp d0 i1 (i1-1)) else Sort.swp d0 i1 (i1-1))=d2:=⟨_,rfl⟩
  obtain⟨d2,e2⟩:=e2
  have hps:=fun d3 e3=>mN (s:=s) (d3:=d3) hu (by omega) (by omega) e2 e3
  generalize hsw:Sort.swp d0 i1 (i1-1)=d1 at e2 hd1
  have hsw':(d0.setIfInBounds i1 d0[i1-1]!).setIfInBounds (i1-1) d0[i1]! =d1:=hsw
  rw [hsw']
  repeat first|apply ae;rfl|apply aB;rfl;omega;omega
  refine cD rfl rfl rfl rfl ?_ ?_
  all_goals intro h3
  ·rw [Ez (by omega)] at e2
   repeat first|apply ae;rfl|apply aB;rfl;omega;omega
   refine cI 1 (fun s1:Nat×Array El=> [(0,.slu 0 0 n),(1,.sc (.int .i64 (a:Int))),(2,.sc (.int .i64 (b:Int))),(3,cmpF),(9,.sc (.int .i64 (i1:Int))),(10,.sc (.int .i64 ((5-(s+1):Nat):Int))),(11,.sc (.int .i64 (s1.1:Int)))]) (fun s1=> [some (rowP n s1.2)]) (fun s1=>s1.1≤i1-1∧s1.2.size=n∧Sort.shiftDown ltP s1.1 s1.2=d2) (fun s1=>s1.1) (i1-1,d1) []
    1 (fun d':Array El=> [(0,.slu 0 0 n),(1,.sc (.int .i64 (a:Int))),(2,.sc (.int .i64 (b:Int))),(3,cmpF),(9,.sc (.int .i64 (i1:Int))),(10,.sc (.int .i64 ((5-(s+1):Nat):Int)))]) (fun d'=> [some (rowP n d')]) (fun d'=>d'.size=n∧d'=d2)
    (fun _=>rfl) (fun _=>rfl) ⟨Em _,hd1,e2⟩ ?_ (fun _=>rfl) (fun _=>rfl) ?_ ?_
   ·(refine⟨(E0 rfl),rfl,(by repeat(first|exact Gc|refine⟨rfl,?_⟩|refine⟨cK (by(omega)),?_⟩)),⟨ai rfl,trivial⟩⟩)
   ·rintro⟨j,d'⟩ ⟨hj,hd',hsd⟩ ihd out
    simp only at hj hd' hsd ihd ⊢
    repeat apply ae;rfl
    refine cD rfl rfl rfl rfl ?_ ?_
    all_goals intro h4
    ·obtain⟨j,rfl⟩: ∃ j',j=j'+1:=⟨j-1,by omega⟩
     repeat apply ae;rfl
     refine aS (by kernel_rfl) (by kernel_rfl) ?_
     repeat first|apply aA;rfl|refine bq (ak rfl rfl (.inr (.inl ⟨rfl,(D3 _ ⟨(by omega),(by omega)⟩).symm⟩))) rfl rfl rfl ?_|refine aX rfl rfl rfl (F.ag _ rfl) (recP) rfl (by(omega)) (by(omega)) ?_|refine an (q:=j+1) rfl rfl rfl rfl (F.un _ rfl) (F.sz _ rfl) rfl (by omega) (by omega) (by omega) ?_|refine an (q:=j) rfl rfl rfl rfl (F.un _ rfl) (F.sz _ rfl) rfl (by omega) (by omega) (by omega) ?_|refine bg rfl rfl rfl rfl (by kernel_rfl) rfl (Ctr.callV (cmp_spec d'[j+1]! d'[j]!) [] rfl (E0 rfl) rfl trivial rfl) ?_
     refine bx rfl rfl rfl rfl ?_ ?_
     all_goals intro h5
     ·repeat apply aA;rfl
      refine ay ⟨by kernel_rfl,?_,?_⟩;(focus(repeat(first|exact Gc|apply bZ;rfl|apply bM;rfl|refine⟨.inr (by(repeat(refine⟨(by first|exact az (F.un _ rfl) (F.sz _ rfl) rfl rfl rfl (by omega) (by omega) (by omega)|exact ak rfl rfl (.inr (.inl ⟨rfl,(D3 _ ⟨by omega,by omega⟩).symm⟩))),?_⟩));exact Gc),?_⟩|refine⟨.inl (by kernel_rfl),?_⟩)))
      repeat apply ae;rfl
      refine aS (by kernel_rfl) (by kernel_rfl) ?_
      repeat first|apply aA;rfl|refine bq (ak rfl rfl (.inr (.inl ⟨rfl,(D3 _ ⟨(by omega),(by omega)⟩).symm⟩))) rfl rfl rfl ?_|refine aX rfl rfl rfl (F.ag _ rfl) (recP) rfl (by(omega)) (by(omega)) ?_|refine db (bS (F.sz _ rfl) rfl rfl rfl (recP) rfl (by first|omega|(simp only [D4,aq];omega)) (by first|omega|(simp only [D4,aq];omega))) rfl rfl ?_|refine an (q:=j+1) rfl rfl rfl rfl (F.un _ rfl) (F.sz _ rfl) rfl (by omega) (by omega) (by omega) ?_|refine an (q:=j) rfl rfl rfl rfl (F.un _ rfl) (F.sz _ rfl) rfl (by omega) (by omega) (by omega) ?_
      refine ay ⟨by kernel_rfl,?_,?_⟩;(focus(repeat(first|exact Gc|apply bZ;rfl|apply bM;rfl|refine⟨.inr (by(repeat(refine⟨(by first|exact az (F.un _ rfl) (F.sz _ rfl) rfl rfl rfl (by omega) (by omega) (by omega)|exact ak rfl rfl (.inr (.inl ⟨rfl,(D3 _ ⟨by omega,by omega⟩).symm⟩))),?_⟩));exact Gc),?_⟩|refine⟨.inl (by kernel_rfl),?_⟩)))
      repeat first|apply ae;rfl|apply aB;rfl;omega;omega
      refine ihd _ _ _ (j,Sort.swp d' (j+1) j) [] ⟨by simp only;omega,by rw [aq];exact hd',?_⟩ (by simp only;omega) ?_
      ·rw [← hsd]
       conv=>rhs;rw [Sort.shiftDown,Ey (by simpa [ltP] using h5)]
      ·(refine⟨(E0 rfl),rfl,(by repeat(first|exact Gc|refine⟨rfl,?_⟩|refine⟨cK (by(omega)),?_⟩)),⟨ai rfl,trivial⟩⟩)
     ·repeat apply aA;rfl
      refine ay ⟨by kernel_rfl,?_,?_⟩;(focus(repeat(first|exact Gc|apply bZ;rfl|apply bM;rfl|refine⟨.inr (by(repeat(refine⟨(by first|exact az (F.un _ rfl) (F.sz _ rfl) rfl rfl rfl (by omega) (by omega) (by omega)|exact ak rfl rfl (.inr (.inl ⟨rfl,(D3 _ ⟨by omega,by omega⟩).symm⟩))),?_⟩));exact Gc),?_⟩|refine⟨.inl (by kernel_rfl),?_⟩)))
      repeat first|refine out _ _ _ d' [] ⟨hd',by rw [← hsd,Sort.shiftDown,Ez (by simpa [ltP] using h5)]⟩ ?_;(exact Ga rfl rfl rfl ⟨ai rfl,trivial⟩)|apply bk;rfl
    ·obtain rfl:j=0:=by omega
     repeat first|refine out _ _ _ d' [] ⟨hd',hsd⟩ ?_;(exact Ga rfl rfl rfl ⟨ai rfl,trivial⟩)|apply bk;rfl
   rintro d2' ⟨hd2,rfl⟩
   repeat first|apply ae;rfl|apply aB;rfl;omega;omega
   refine cD rfl rfl rfl rfl ?_ ?_
   all_goals intro h6
   ·repeat first|apply ae;rfl|apply aB;rfl;omega;omega
    refine cI 1 (fun s1:Nat×Array El=> [(0,.slu 0 0 n),(1,.sc (.int .i64 (a:Int))),(2,.sc (.int .i64 (b:Int))),(3,cmpF),(9,.sc (.int .i64 (i1:Int))),(10,.sc (.int .i64 ((5-(s+1):Nat):Int))),(12,.sc (.int .i64 (s1.1:Int)))]) (fun s1=> [some (rowP n s1.2)]) (fun s1=>i1+1≤s1.1∧s1.1≤b∧s1.2.size=n∧Sort.shiftUp ltP b s1.1 s1.2=Sort.shiftUp ltP b (i1+1) d2') (fun s1=>b-s1.1) (i1+1,d2') []
     1 (fun d':Array El=> [(0,.slu 0 0 n),(1,.sc (.int .i64 (a:Int))),(2,.sc (.int .i64 (b:Int))),(3,cmpF),(9,.sc (.int .i64 (i1:Int))),(10,.sc (.int .i64 ((5-(s+1):Nat):Int)))]) (fun d'=> [some (rowP n d')]) (fun d'=>d'.size=n∧Sort.shiftUp ltP b (i1+1) d2'=d')
     (fun _=>rfl) (fun _=>rfl) ⟨Em _,by simp only;omega,hd2,rfl⟩ ?_ (fun _=>rfl) (fun _=>rfl) ?_ ?_
    ·(exact Ga rfl rfl rfl ⟨ai rfl,trivial⟩)
    ·rintro⟨j,d'⟩ ⟨hj,hjb,hd',hsd⟩ ihd out
     simp only at hj hjb hd' hsd ihd ⊢
     repeat apply ae;rfl
     refine bm rfl rfl rfl rfl ?_ ?_
     all_goals intro h4
     ·repeat apply ae;rfl
      refine aS (by kernel_rfl) (by kernel_rfl) ?_
      repeat first|apply aA;rfl|refine bq (ak rfl rfl (.inr (.inl ⟨rfl,(D3 _ ⟨(by omega),(by omega)⟩).symm⟩))) rfl rfl rfl ?_|refine aX rfl rfl rfl (F.ag _ rfl) (recP) rfl (by(omega)) (by(omega)) ?_|refine an (q:=j) rfl rfl rfl rfl (F.un _ rfl) (F.sz _ rfl) rfl (by omega) (by omega) (by omega) ?_|refine an (q:=j-1) rfl rfl rfl rfl (F.un _ rfl) (F.sz _ rfl) rfl (by omega) (by omega) (by omega) ?_|refine bg rfl rfl rfl rfl (by kernel_rfl) rfl (Ctr.callV (cmp_spec d'[j]! d'[j-1]!) [] rfl (E0 rfl) rfl trivial rfl) ?_
      refine bx rfl rfl rfl rfl ?_ ?_
      all_goals intro h5
      ·repeat apply aA;rfl
       refine ay ⟨by kernel_rfl,?_,?_⟩;(focus(repeat(first|exact Gc|apply bZ;rfl|apply bM;rfl|refine⟨.inr (by(repeat(refine⟨(by first|exact az (F.un _ rfl) (F.sz _ rfl) rfl rfl rfl (by omega) (by omega) (by omega)|exact ak rfl rfl (.inr (.inl ⟨rfl,(D3 _ ⟨by omega,by omega⟩).symm⟩))),?_⟩));exact Gc),?_⟩|refine⟨.inl (by kernel_rfl),?_⟩)))
       repeat apply ae;rfl
       refine aS (by kernel_rfl) (by kernel_rfl) ?_
       repeat first|apply aA;rfl|refine bq (ak rfl rfl (.inr (.inl ⟨rfl,(D3 _ ⟨(by omega),(by omega)⟩).symm⟩))) rfl rfl rfl ?_|refine aX rfl rfl rfl (F.ag _ rfl) (recP) rfl (by(omega)) (by(omega)) ?_|refine db (bS (F.sz _ rfl) rfl rfl rfl (recP) rfl (by first|omega|(simp only [D4,aq];omega)) (by first|omega|(simp only [D4,aq];omega))) rfl rfl ?_|refine an (q:=j) rfl rfl rfl rfl (F.un _ rfl) (F.sz _ rfl) rfl (by omega) (by omega) (by omega) ?_|refine an (q:=j-1) rfl rfl rfl rfl (F.un _ rfl) (F.sz _ rfl) rfl (by omega) (by omega) (by omega) ?_
       refine ay ⟨by kernel_rfl,?_,?_⟩;(focus(repeat(first|exact Gc|apply bZ;rfl|apply bM;rfl|refine⟨.inr (by(repeat(refine⟨(by first|exact az (F.un _ rfl) (F.sz _ rfl) rfl rfl rfl (by omega) (by omega) (by omega)|exact ak rfl rfl (.inr (.inl ⟨rfl,(D3 _ ⟨by omega,by omega⟩).symm⟩))),?_⟩));exact Gc),?_⟩|refine⟨.inl (by kernel_rfl),?_⟩)))
       repeat first|apply ae;rfl|apply aB;rfl;omega;omega
       refine ihd _ _ _ (j+1,Sort.swp d' j (j-1)) [] ⟨by simp only;omega,by simp only;omega,by rw [aq];exact hd',?_⟩ (by simp only;omega) ?_
       ·rw [← hsd]
        exact(gz (by omega) (by simpa [ltP] using h5)).symm
       ·(exact Ga rfl rfl rfl ⟨ai rfl,trivial⟩)
      ·repeat apply aA;rfl
       refine ay ⟨by kernel_rfl,?_,?_⟩;(focus(repeat(first|exact Gc|apply bZ;rfl|apply bM;rfl|refine⟨.inr (by(repeat(refine⟨(by first|exact az (F.un _ rfl) (F.sz _ rfl) rfl rfl rfl (by omega) (by omega) (by omega)|exact ak rfl rfl (.inr (.inl ⟨rfl,(D3 _ ⟨by omega,by omega⟩).symm⟩))),?_⟩));exact Gc),?_⟩|refine⟨.inl (by kernel_rfl),?_⟩)))
       repeat first|refine out _ _ _ d' [] ⟨hd',by rw [← hsd];exact cL (.inr (by simpa [ltP] using h5))⟩ ?_;(exact Ga rfl rfl rfl ⟨ai rfl,trivial⟩)|apply bk;rfl
     ·repeat first|refine out _ _ _ d' [] ⟨hd',by rw [← hsd];exact cL (.inl (by omega))⟩ ?_;(exact Ga rfl rfl rfl ⟨ai rfl,trivial⟩)|apply bk;rfl
    rintro d3 ⟨hd3,e3⟩
    repeat first|apply ae;rfl|apply aB;rfl;omega;omega
    refine ih _ _ _ ((s,i1),d3) [] ⟨by simp only;omega,hai1,hi1,hd3,by rw [← ho];exact(hps d3 (by rw [Ez (by omega)];exact e3)).symm⟩ (by simp only;omega) ?_
    (refine⟨(E0 rfl),rfl,(by repeat(first|exact Gc|refine⟨rfl,?_⟩|refine⟨cK (by(simp only;omega)),?_⟩)),⟨ai rfl,trivial⟩⟩)
   ·repeat first|apply ae;rfl|apply aB;rfl;omega;omega
    refine ih _ _ _ ((s,i1),d2') [] ⟨by simp only;omega,hai1,hi1,hd2,by rw [← ho];exact(hps d2' (by rw [Ey (by omega)])).symm⟩ (by simp only;omega) ?_
    (refine⟨(E0 rfl),rfl,(by repeat(first|exact Gc|refine⟨rfl,?_⟩|refine⟨cK (by(simp only;omega)),?_⟩)),⟨ai rfl,trivial⟩⟩)
  ·rw [Ey (by omega)] at e2
   subst e2
   have hd2:=hd1
   repeat first|apply ae;rfl|apply aB;rfl;omega;omega
   refine cD rfl rfl rfl rfl ?_ ?_
   all_goals intro h6
   ·repeat first|apply ae;rfl|apply aB;rfl;omega;omega
    refine cI 1 (fun s1:Nat×Array El=> [(0,.slu 0 0 n),(1,.sc (.int .i64 (a:Int))),(2,.sc (.int .i64 (b:Int))),(3,cmpF),(9,.sc (.int .i64 (i1:Int))),(10,.sc (.int .i64 ((5-(s+1):Nat):Int))),(12,.sc (.int .i64 (s1.1:Int)))]) (fun s1=> [some (rowP n s1.2)]) (fun s1=>i1+1≤s1.1∧s1.1≤b∧s1.2.size=n∧Sort.shiftUp ltP b s1.1 s1.2=Sort.shiftUp ltP b (i1+1) d1) (fun s1=>b-s1.1) (i1+1,d1) []
     1 (fun d':Array El=> [(0,.slu 0 0 n),(1,.sc (.int .i64 (a:Int))),(2,.sc (.int .i64 (b:Int))),(3,cmpF),(9,.sc (.int .i64 (i1:Int))),(10,.sc (.int .i64 ((5-(s+1):Nat):Int)))]) (fun d'=> [some (rowP n d')]) (fun d'=>d'.size=n∧Sort.shiftUp ltP b (i1+1) d1=d')
     (fun _=>rfl) (fun _=>rfl) ⟨Em _,by simp only;omega,hd2,rfl⟩ ?_ (fun _=>rfl) (fun _=>rfl) ?_ ?_
    ·(exact Ga rfl rfl rfl ⟨ai rfl,trivial⟩)
    ·rintro⟨j,d'⟩ ⟨hj,hjb,hd',hsd⟩ ihd out
     simp only at hj hjb hd' hsd ihd ⊢
     repeat apply ae;rfl
     refine bm rfl rfl rfl rfl ?_ ?_
     all_goals intro h4
     ·repeat apply ae;rfl
      refine aS (by kernel_rfl) (by kernel_rfl) ?_
      repeat first|apply aA;rfl|refine bq (ak rfl rfl (.inr (.inl ⟨rfl,(D3 _ ⟨(by omega),(by omega)⟩).symm⟩))) rfl rfl rfl ?_|refine aX rfl rfl rfl (F.ag _ rfl) (recP) rfl (by(omega)) (by(omega)) ?_|refine an (q:=j) rfl rfl rfl rfl (F.un _ rfl) (F.sz _ rfl) rfl (by omega) (by omega) (by omega) ?_|refine an (q:=j-1) rfl rfl rfl rfl (F.un _ rfl) (F.sz _ rfl) rfl (by omega) (by omega) (by omega) ?_|refine bg rfl rfl rfl rfl (by kernel_rfl) rfl (Ctr.callV (cmp_spec d'[j]! d'[j-1]!) [] rfl (E0 rfl) rfl trivial rfl) ?_
      refine bx rfl rfl rfl rfl ?_ ?_
      all_goals intro h5
      ·repeat apply aA;rfl
       refine ay ⟨by kernel_rfl,?_,?_⟩;(focus(repeat(first|exact Gc|apply bZ;rfl|apply bM;rfl|refine⟨.inr (by(repeat(refine⟨(by first|exact az (F.un _ rfl) (F.sz _ rfl) rfl rfl rfl (by omega) (by omega) (by omega)|exact ak rfl rfl (.inr (.inl ⟨rfl,(D3 _ ⟨by omega,by omega⟩).symm⟩))),?_⟩));exact Gc),?_⟩|refine⟨.inl (by kernel_rfl),?_⟩)))
       repeat apply ae;rfl
       refine aS (by kernel_rfl) (by kernel_rfl) ?_
       repeat first|apply aA;rfl|refine bq (ak rfl rfl (.inr (.inl ⟨rfl,(D3 _ ⟨(by omega),(by omega)⟩).symm⟩))) rfl rfl rfl ?_|refine aX rfl rfl rfl (F.ag _ rfl) (recP) rfl (by(omega)) (by(omega)) ?_|refine db (bS (F.sz _ rfl) rfl rfl rfl (recP) rfl (by first|omega|(simp only [D4,aq];omega)) (by first|omega|(simp only [D4,aq];omega))) rfl rfl ?_|refine an (q:=j) rfl rfl rfl rfl (F.un _ rfl) (F.sz _ rfl) rfl (by omega) (by omega) (by omega) ?_|refine an (q:=j-1) rfl rfl rfl rfl (F.un _ rfl) (F.sz _ rfl) rfl (by omega) (by omega) (by omega) ?_
       refine ay ⟨by kernel_rfl,?_,?_⟩;(focus(repeat(first|exact Gc|apply bZ;rfl|apply bM;rfl|refine⟨.inr (by(repeat(refine⟨(by first|exact az (F.un _ rfl) (F.sz _ rfl) rfl rfl rfl (by omega) (by omega) (by omega)|exact ak rfl rfl (.inr (.inl ⟨rfl,(D3 _ ⟨by omega,by omega⟩).symm⟩))),?_⟩));exact Gc),?_⟩|refine⟨.inl (by kernel_rfl),?_⟩)))
       repeat first|apply ae;rfl|apply aB;rfl;omega;omega
       refine ihd _ _ _ (j+1,Sort.swp d' j (j-1)) [] ⟨by simp only;omega,by simp only;omega,by rw [aq];exact hd',?_⟩ (by simp only;omega) ?_
       ·rw [← hsd]
        exact(gz (by omega) (by simpa [ltP] using h5)).symm
       ·(exact Ga rfl rfl rfl ⟨ai rfl,trivial⟩)
      ·repeat apply aA;rfl
       refine ay ⟨by kernel_rfl,?_,?_⟩;(focus(repeat(first|exact Gc|apply bZ;rfl|apply bM;rfl|refine⟨.inr (by(repeat(refine⟨(by first|exact az (F.un _ rfl) (F.sz _ rfl) rfl rfl rfl (by omega) (by omega) (by omega)|exact ak rfl rfl (.inr (.inl ⟨rfl,(D3 _ ⟨by omega,by omega⟩).symm⟩))),?_⟩));exact Gc),?_⟩|refine⟨.inl (by kernel_rfl),?_⟩)))
       repeat first|refine out _ _ _ d' [] ⟨hd',by rw [← hsd];exact cL (.inr (by simpa [ltP] using h5))⟩ ?_;(exact Ga rfl rfl rfl ⟨ai rfl,trivial⟩)|apply bk;rfl
     ·repeat first|refine out _ _ _ d' [] ⟨hd',by rw [← hsd];exact cL (.inl (by omega))⟩ ?_;(exact Ga rfl rfl rfl ⟨ai rfl,trivial⟩)|apply bk;rfl
    rintro d3 ⟨hd3,e3⟩
    repeat first|apply ae;rfl|apply aB;rfl;omega;omega
    refine ih _ _ _ ((s,i1),d3) [] ⟨by simp only;omega,hai1,hi1,hd3,by rw [← ho];exact(hps d3 (by rw [Ez (by omega)];exact e3)).symm⟩ (by simp only;omega) ?_
    (refine⟨(E0 rfl),rfl,(by repeat(first|exact Gc|refine⟨rfl,?_⟩|refine⟨cK (by(simp only;omega)),?_⟩)),⟨ai rfl,trivial⟩⟩)
   ·repeat first|apply ae;rfl|apply aB;rfl;omega;omega
    refine ih _ _ _ ((s,i1),d1) [] ⟨by simp only;omega,hai1,hi1,hd2,by rw [← ho];exact(hps d1 (by rw [Ey (by omega)])).symm⟩ (by simp only;omega) ?_
    (refine⟨(E0 rfl),rfl,(by repeat(first|exact Gc|refine⟨rfl,?_⟩|refine⟨cK (by(omega)),?_⟩)),⟨ai rfl,trivial⟩⟩)
 ·obtain rfl:s=0:=by omega
  repeat apply ae;rfl
  rw [← ho]
  ((apply bv Tryz.func122 (congrArg Array.toList Tryz.results122));(focus(repeat(first|exact E3|apply E5 rfl)));refine⟨_,rfl,Ends.mk [] (E0 rfl) rfl rfl ?_⟩)
  exact⟨ai rfl,trivial⟩
end
end Ow
end Go.Proofs.YtelnglhodnoclaaGreat
end
section
namespace Go.Proofs.YtelnglhodnoclaaGreat
namespace Ow
open Go Go.Sy
def brk(a len m:Nat):Nat→UInt64×Array El→Nat→UInt64×Array El
 | 0,st,_=>st
 | k+1,st,i=>brk a len m k (Sort.breakStep a len m st i) (i+1)
theorem pV(n a b:Nat)(d:Array El)(hn:n<65536)(hd:d.size=n)(hab:a≤b)(hb:b≤n) :
 Ctr Tryz.prog 119 [.slu 0 0 n,.sc (.int .i64 (a:Int)),.sc (.int .i64 (b:Int)),cmpF] [rowP n d] (fun c=>c=⟨.tup [],[some (rowP n (Sort.breakPatterns d a b))]⟩):=by
 have eba:(b:Int)-(a:Int)=((b-a:Nat):Int):=by omega
 refine E2 Tryz.func119 rfl rfl ?_
 repeat first|apply ae;rfl|apply aB;rfl;omega;omega
 rw [eba]
 have ebp:Sort.breakPatterns d a b=Sort.breakPatterns d a b:=rfl
 conv at ebp=>rhs;unfold Sort.breakPatterns
 simp only at ebp
 refine cD rfl rfl rfl rfl ?_ ?_
 all_goals intro h1
 ·rw [Ez (by omega)] at ebp
  have ep:Sort.bitsLen (b-a)≤16:=lS (by omega)
  have eq1:(1:Nat) <<< Sort.bitsLen (b-a)=2 ^ Sort.bitsLen (b-a):=by rw [Nat.shiftLeft_eq,Nat.one_mul]
  have eq2:2 ^ Sort.bitsLen (b-a)≤2*(b-a):=Sort.two_pow_bitsLen_le (by omega)
  have eq3:0<2 ^ Sort.bitsLen (b-a):=Nat.pow_pos (by decide)
  repeat first|apply ae;rfl|apply aR;rfl;(focus((repeat(exact ah));done));rfl|apply aB;rfl;omega;omega|refine bN (ii rfl rfl (by omega) (dR (by omega) (by omega) (by omega))) rfl rfl rfl ?_|refine bN (cG (F.un _ rfl) (F.un _ rfl) rfl (show _=((b-a:Nat):Int)from EX _ ⟨by omega,by omega⟩)) rfl rfl rfl ?_|refine ey (qE (b-a) (by omega)) [] rfl rfl rfl (by kernel_rfl) rfl (E0 rfl) rfl trivial ?_
  rw [eq1] at ebp
  generalize hm:2 ^ Sort.bitsLen (b-a)=m at ebp eq2 eq3
  have e4:(a:Int)+((b-a:Nat):Int) / 4*2-1=((a+(b-a) / 4*2-1:Nat):Int):=by omega
  rw [e4]
  have hbase:a+(b-a) / 4*2-1+3≤b:=by omega
  have hlt:0<a+(b-a) / 4*2:=by omega
  generalize hbs:a+(b-a) / 4*2-1=base at ebp hbase
  have ht:Sort.breakPatterns d a b=(brk a (b-a) m 3 (UInt64.ofNat (b-a),d) base).2:=ebp
  refine cO 2 (fun s:(Nat×UInt64)×Array El=> [(0,.slu 0 0 n),(1,.sc (.int .i64 (a:Int))),(8,.sc (.int .i64 ((b-a:Nat):Int))),(9,.ptr 1 0),(10,.sc (.int .u64 (m:Int))),(11,.sc (.int .i64 ((base+3-s.1.1:Nat):Int)))]) (fun s=> [some (rowP n s.2),some (xsO s.1.2.toNat)]) (fun s=>s.1.1≤3∧s.2.size=n∧(brk a (b-a) m s.1.1 (s.1.2,s.2) (base+3-s.1.1)).2=Sort.breakPatterns d a b) (fun s=>s.1.1) ((3,UInt64.ofNat (b-a)),d) [1]
   (fun _=>rfl) ⟨Em _,hd,by rw [ht];rfl⟩ ?_ (fun _=>rfl) (fun _=>rfl) ?_
  ·have e0:(UInt64.ofNat (b-a)).toNat=b-a:=by rw [UInt64.toNat_ofNat',Nat.mod_eq_of_lt (by omega)]
   rw [e0]
   (refine⟨(E0 rfl),rfl,(by repeat(first|exact Gc|refine⟨rfl,?_⟩)),(by repeat(first|exact Gc|refine⟨ai rfl,?_⟩|refine⟨cm rfl,?_⟩))⟩)
  rintro⟨⟨s,r⟩,d1⟩ ⟨hs,hd1,ho⟩ ih
  simp only at hs hd1 ho ih ⊢
  repeat first|apply ae;rfl|apply aB;rfl;omega;omega|refine bN (ii rfl rfl (by omega) (dR (by omega) (by omega) (by omega))) rfl rfl rfl ?_
  refine my rfl rfl rfl rfl ?_ ?_
  all_goals intro h2
  ·obtain⟨s,rfl⟩: ∃ s',s=s'+1:=⟨s-1,by omega⟩
   have hr:=UInt64.toNat_lt r
   have hnx:=Sort.xorNextN_lt r.toNat hr
   have hxn:=Sort.xorNext_toNat r
   have hst:Sort.breakStep a (b-a) m (r,d1) (base+3-(s+1))=(Sort.xorNext r,Sort.swp d1 (base+3-(s+1)) (a+(if(Sort.xorNext r).toNat &&& (m-1)≥b-a then((Sort.xorNext r).toNat &&& (m-1))-(b-a) else(Sort.xorNext r).toNat &&& (m-1)))):=rfl
   have ho':(brk a (b-a) m s (Sort.breakStep a (b-a) m (r,d1) (base+3-(s+1))) (base+3-s)).2=Sort.breakPatterns d a b:=by
    rw [← ho,brk,show base+3-(s+1)+1=base+3-s by omega]
   rw [hst] at ho'
   rw [hxn] at ho'
   have hmw:IntKind.u64.wrap ((m:Int)-1)=((m-1:Nat):Int):=by
    rw [EX _ ⟨by omega,by omega⟩]
    omega
   have hand:=andU (a:=Sort.xorNextN r.toNat) (b:=m-1) hnx (by omega)
   have hle:Sort.xorNextN r.toNat &&& (m-1)≤m-1:=Nat.and_le_right
   generalize hoo:Sort.xorNextN r.toNat &&& (m-1)=o at hand hle ho'
   repeat first|apply ae;rfl|refine aP rfl rfl rfl (by kernel_rfl) (Ctr.bF (qL r.toNat hr) [1] rfl (E0 rfl) rfl (by repeat(first|exact Gc|refine⟨cm rfl,?_⟩)) rfl (by repeat(first|exact Gc|refine⟨bD (fun _=>rfl),?_⟩)) (fun _=>rfl) rfl rfl) ?_
   refine bN (ak rfl rfl (.inr (.inl ⟨rfl,rfl⟩))) rfl rfl rfl ?_
   rw [hmw]
   refine bN (kZ rfl rfl (.inl rfl) hand) rfl rfl rfl ?_
   repeat first|apply ae;rfl|refine bN (cG (F.un _ rfl) (F.un _ rfl) rfl (show _=(o:Int)from D3 _ ⟨by omega,by omega⟩)) rfl rfl rfl ?_
   refine cD rfl rfl rfl rfl ?_ ?_
   all_goals intro h3
   ·rw [Ez (by omega)] at ho'
    repeat first|apply ae;rfl|apply aB;rfl;omega;omega
    refine aS (by kernel_rfl) (by kernel_rfl) ?_
    repeat first|apply aA;rfl|refine bq (ak rfl rfl (.inl ⟨rfl,(D3 _ ⟨(by omega),(by omega)⟩).symm⟩)) rfl rfl rfl ?_|refine aX rfl rfl rfl (F.ag _ rfl) (recP) rfl (by(omega)) (by(omega)) ?_|refine db (bS (F.sz _ rfl) rfl rfl rfl (recP) rfl (by first|omega|(simp only [D4,aq];omega)) (by first|omega|(simp only [D4,aq];omega))) rfl rfl ?_|refine an (q:=base+3-(s+1)) rfl rfl rfl rfl (F.un _ rfl) (F.sz _ rfl) rfl (by omega) (by omega) (by omega) ?_|refine an (q:=a+(o-(b-a))) rfl rfl rfl rfl (F.un _ rfl) (F.sz _ rfl) rfl (by omega) (by omega) (by omega) ?_
    refine ay ⟨by kernel_rfl,?_,?_⟩;(focus(repeat(first|exact Gc|apply bZ;rfl|apply bM;rfl|refine⟨.inr (by(repeat(refine⟨(by first|exact az (F.un _ rfl) (F.sz _ rfl) rfl rfl rfl (by omega) (by omega) (by omega)|exact ak rfl rfl (.inl ⟨rfl,(D3 _ ⟨by omega,by omega⟩).symm⟩)),?_⟩));exact Gc),?_⟩|refine⟨.inl (by kernel_rfl),?_⟩)))
    repeat first|apply ae;rfl|apply aB;rfl;omega;omega
    refine ih _ _ _ ((s,Sort.xorNext r),Sort.swp d1 (base+3-(s+1)) (a+(o-(b-a)))) [1] ⟨by simp only;omega,by rw [aq];exact hd1,ho'⟩ (by simp only;omega) ?_
    rw [hxn]
    (refine⟨(E0 rfl),rfl,(by repeat(first|exact Gc|refine⟨rfl,?_⟩|refine⟨cK (by(simp only;omega)),?_⟩)),(by repeat(first|exact Gc|refine⟨ai rfl,?_⟩|refine⟨cm rfl,?_⟩))⟩)
   ·rw [Ey (by omega)] at ho'
    repeat apply ae;rfl
    refine aS (by kernel_rfl) (by kernel_rfl) ?_
    repeat first|apply aA;rfl|refine bq (ak rfl rfl (.inl ⟨rfl,(D3 _ ⟨(by omega),(by omega)⟩).symm⟩)) rfl rfl rfl ?_|refine aX rfl rfl rfl (F.ag _ rfl) (recP) rfl (by(omega)) (by(omega)) ?_|refine db (bS (F.sz _ rfl) rfl rfl rfl (recP) rfl (by first|omega|(simp only [D4,aq];omega)) (by first|omega|(simp only [D4,aq];omega))) rfl rfl ?_|refine an (q:=base+3-(s+1)) rfl rfl rfl rfl (F.un _ rfl) (F.sz _ rfl) rfl (by omega) (by omega) (by omega) ?_|refine an (q:=a+o) rfl rfl rfl rfl (F.un _ rfl) (F.sz _ rfl) rfl (by omega) (by omega) (by omega) ?_
    refine ay ⟨by kernel_rfl,?_,?_⟩;(focus(repeat(first|exact Gc|apply bZ;rfl|apply bM;rfl|refine⟨.inr (by(repeat(refine⟨(by first|exact az (F.un _ rfl) (F.sz _ rfl) rfl rfl rfl (by omega) (by omega) (by omega)|exact ak rfl rfl (.inl ⟨rfl,(D3 _ ⟨by omega,by omega⟩).symm⟩)),?_⟩));exact Gc),?_⟩|refine⟨.inl (by kernel_rfl),?_⟩)))
    repeat first|apply ae;rfl|apply aB;rfl;omega;omega
    refine ih _ _ _ ((s,Sort.xorNext r),Sort.swp d1 (base+3-(s+1)) (a+o)) [1] ⟨by simp only;omega,by rw [aq];exact hd1,ho'⟩ (by simp only;omega) ?_
    rw [hxn]
    (refine⟨(E0 rfl),rfl,(by repeat(first|exact Gc|refine⟨rfl,?_⟩|refine⟨cK (by(simp only;omega)),?_⟩)),(by repeat(first|exact Gc|refine⟨ai rfl,?_⟩|refine⟨cm rfl,?_⟩))⟩)
  ·obtain rfl:s=0:=by omega
   repeat apply ae;rfl
   ((apply jF Tryz.func119 (congrArg Array.toList Tryz.results119));(focus(repeat(exact E3)));refine⟨_,rfl,Ends.mk [] (E0 rfl) rfl rfl ?_⟩)
   rw [← ho]
   exact⟨ai rfl,trivial⟩
 ·rw [Ey (by omega)] at ebp
  repeat apply ae;rfl
  ((apply jF Tryz.func119 (congrArg Array.toList Tryz.results119));(focus(repeat(exact E3)));refine⟨_,rfl,Ends.mk [] (E0 rfl) rfl rfl ?_⟩)
  rw [ebp]
  exact⟨ai rfl,trivial⟩
end Ow
end Go.Proofs.YtelnglhodnoclaaGreat
end
section
namespace Go.Proofs.YtelnglhodnoclaaGreat
namespace Ow
open Go Go.Sy
section
variable {a b:Nat}{d d3 d4:ArP}{limit mid pivot:Nat}{wb wp:Bool}{lt:El→El→Bool}
theorem sB(h:b-a≤12):Sort.pdq lt d a b limit wb wp=Sort.insertionSort lt d a b:=by rw [Sort.pdq,Ez h]
theorem pp(h: ¬ b-a≤12)(h0:limit=0):Sort.pdq lt d a b limit wb wp=Sort.heapSort lt d a b:=by rw [Sort.pdq,Ey h,Ez h0]
def dA(lt:El→El→Bool)(d3:ArP)(a b pivot limit:Nat)(wb wp:Bool):ArP:=
 if a>0 && !lt d3[a-1]! d3[pivot]! then
  match Sort.partitionEqual lt d3 a b pivot with
  | (mid,d4)=>if _h:a<mid∧mid≤b then Sort.pdq lt d4 mid b limit wb wp else d4
 else
  match Sort.partition lt d3 a b pivot with
  | (mid,alreadyPartitioned,d4)=>
    if _h:a≤mid∧mid<b then
     if mid-a<b-mid then
      Sort.pdq lt (Sort.pdq lt d4 a mid limit true true) (mid+1) b limit (decide (mid-a≥(b-a) / 8)) alreadyPartitioned
     else
      Sort.pdq lt (Sort.pdq lt d4 (mid+1) b limit true true) a mid limit (decide (b-mid≥(b-a) / 8)) alreadyPartitioned
    else d4
theorem wV{d1 d2:ArP}{limit1:Nat}{c:Nat×Sort.Hint}{hint:Sort.Hint}{pi:ArP×Bool}(h: ¬ b-a≤12)(h0: ¬ limit=0)
 (e1:d1=(if(!wb)=true then Sort.breakPatterns d a b else d)) (el:limit1=(if(!wb)=true then limit-1 else limit)) (ec:Sort.choosePivot lt d1 a b=c)
 (e2:d2=(if c.2 = .decreasing then Sort.reverseRange d1 a b else d1)) (ep:pivot=(if c.2 = .decreasing then(b-1)-(c.1-a) else c.1)) (eh:hint=(if c.2 = .decreasing then .increasing else c.2))
 (ei:(if(wb && wp && decide (hint = .increasing))=true then Sort.partialInsertionSort lt d2 a b else(d2,false))=pi) :
 Sort.pdq lt d a b limit wb wp=if pi.2=true then pi.1 else dA lt pi.1 a b pivot limit1 wb wp:=by
 subst e1 el ec e2 ep eh ei
 rw [Sort.pdq,Ey h,Ey h0]
 rfl
theorem sh(h:(decide (a>0) && !lt d3[a-1]! d3[pivot]!)=true)(hx:Sort.partitionEqual lt d3 a b pivot=(mid,d4))(hm:a<mid∧mid≤b) :
 dA lt d3 a b pivot limit wb wp=Sort.pdq lt d4 mid b limit wb wp:=by
 unfold dA
 rw [Ez h,hx]
 simp only [dif_pos hm]
theorem mC{ap:Bool}(h: ¬ (decide (a>0) && !lt d3[a-1]! d3[pivot]!)=true)(hx:Sort.partition lt d3 a b pivot=(mid,ap,d4))(hm:a≤mid∧mid<b)(hl:mid-a<b-mid) :
 dA lt d3 a b pivot limit wb wp=Sort.pdq lt (Sort.pdq lt d4 a mid limit true true) (mid+1) b limit (decide (mid-a≥(b-a) / 8)) ap:=by
 unfold dA
 rw [Ey h,hx]
 simp only [dif_pos hm,Ez hl]
theorem kV{ap:Bool}(h: ¬ (decide (a>0) && !lt d3[a-1]! d3[pivot]!)=true)(hx:Sort.partition lt d3 a b pivot=(mid,ap,d4))(hm:a≤mid∧mid<b)(hl: ¬ mid-a<b-mid) :
 dA lt d3 a b pivot limit wb wp=Sort.pdq lt (Sort.pdq lt d4 (mid+1) b limit true true) a mid limit (decide (b-mid≥(b-a) / 8)) ap:=by
 unfold dA
 rw [Ey h,hx]
 simp only [dif_pos hm,Ey hl]
theorem po(n:Nat)(hn:n<65536): ∀ (k a b limit:Nat) (d:ArP),b-a=k→a≤b→b≤n→d.size=n→limit<4611686018427387904→Sort.Below ltP a b d →
 Ctr Tryz.prog 99 [.slu 0 0 n,.sc (.int .i64 (a:Int)),.sc (.int .i64 (b:Int)),.sc (.int .i64 (limit:Int)),cmpF] [rowP n d] (fun c=>c=⟨.tup [],[some (rowP n (Sort.pdq ltP d a b limit true true))]⟩):=by
 intro k
 induction k using Nat.strongRecOn with
 | _ k ihk=>
 intro a b limit d hk hab hb hd hl hB
 refine E2 Tryz.func99 rfl rfl ?_
 repeat apply ae;rfl
 refine cO 1 (fun s:((Nat×Nat)×Nat)×((Bool×Bool)×ArP)=> [(0,.slu 0 0 n),(1,.sc (.int .i64 (s.1.1.1:Int))),(2,.sc (.int .i64 (s.1.1.2:Int))),(3,.sc (.int .i64 (s.1.2:Int))),(4,cmpF),(10,.sc (.bool s.2.1.1)),(11,.sc (.bool s.2.1.2))]) (fun s=> [some (rowP n s.2.2)])
  (fun s=>s.1.1.1≤s.1.1.2∧s.1.1.2≤n∧s.1.1.2-s.1.1.1≤k∧s.2.2.size=n∧s.1.2<4611686018427387904∧Sort.Below ltP s.1.1.1 s.1.1.2 s.2.2∧Sort.pdq ltP s.2.2 s.1.1.1 s.1.1.2 s.1.2 s.2.1.1 s.2.1.2=Sort.pdq ltP d a b limit true true) (fun s=>s.1.1.2-s.1.1.1) (((a,b),limit),((true,true),d)) []
  (fun _=>rfl) ⟨hab,hb,Nat.le_of_eq hk,hd,hl,hB,rfl⟩ ?_ (fun _=>rfl) (fun _=>rfl) ?_
 ·(exact Ga rfl rfl rfl ⟨ai rfl,trivial⟩)
 rintro⟨⟨⟨a1,b1⟩,l1⟩,⟨⟨wb,wp⟩,d1⟩⟩ ⟨hab1,hb1,hk1,hd1,hl1,hB1,ho⟩ ih
 simp only at hab1 hb1 hk1 hd1 hl1 hB1 ho ih ⊢
 have eba:(b1:Int)-(a1:Int)=((b1-a1:Nat):Int):=by omega
 repeat first|apply ae;rfl|apply aB;rfl;omega;omega
 rw [eba]
 refine my rfl rfl rfl rfl ?_ ?_
 all_goals intro h1
 ·rw [sB (by omega)] at ho
  repeat first|apply ae;rfl|refine aP rfl rfl rfl (by kernel_rfl) (Ctr.bF (pH n a1 b1 d1 (by omega) hd1 hab1 hb1) [0] rfl (E0 rfl) rfl ⟨ai rfl,trivial⟩ rfl (by repeat(first|exact Gc|refine⟨aF,?_⟩)) (fun _=>rfl) rfl rfl) ?_
  ((apply bv Tryz.func99 (congrArg Array.toList Tryz.results99));(focus(repeat(exact E3)));refine⟨_,rfl,Ends.mk [] (E0 rfl) rfl rfl ?_⟩)
  rw [← ho]
  exact⟨ai rfl,trivial⟩
 repeat apply ae;rfl
 refine cE rfl rfl rfl rfl ?_ ?_
 all_goals intro h2
 ·rw [pp (by omega) (by omega)] at ho
  repeat first|apply ae;rfl|refine aP rfl rfl rfl (by kernel_rfl) (Ctr.bF (nd n a1 b1 d1 (by omega) hd1 hab1 hb1) [0] rfl (E0 rfl) rfl ⟨ai rfl,trivial⟩ rfl (by repeat(first|exact Gc|refine⟨aF,?_⟩)) (fun _=>rfl) rfl rfl) ?_
  ((apply bv Tryz.func99 (congrArg Array.toList Tryz.results99));(focus(repeat(exact E3)));refine⟨_,rfl,Ends.mk [] (E0 rfl) rfl rfl ?_⟩)
  rw [← ho]
  exact⟨ai rfl,trivial⟩
 repeat apply bk;rfl
 refine uH 1 (fun s:Nat×ArP=> [(0,.slu 0 0 n),(1,.sc (.int .i64 (a1:Int))),(2,.sc (.int .i64 (b1:Int))),(3,.sc (.int .i64 (s.1:Int))),(4,cmpF),(10,.sc (.bool wb)),(11,.sc (.bool wp)),(12,.sc (.int .i64 ((b1-a1:Nat):Int)))]) (fun s=> [some (rowP n s.2)])
  (fun s=>s.1=(if(!wb)=true then l1-1 else l1)∧s.2=(if(!wb)=true then Sort.breakPatterns d1 a1 b1 else d1)) (fun _=>rfl) rfl (fun _=>rfl) (fun _=>rfl) ?_ ?_ ?_
 ·intro hw out
  repeat first|refine out _ _ _ (l1-1,Sort.breakPatterns d1 a1 b1) [] ⟨by rw [Ez hw],by rw [Ez hw]⟩ ?_;(refine⟨(E0 rfl),rfl,(by repeat(first|exact Gc|refine⟨rfl,?_⟩|refine⟨cK (by(omega)),?_⟩)),⟨ai rfl,trivial⟩⟩)|apply bk;rfl|apply aB;rfl;omega;omega|refine aP rfl rfl rfl (by kernel_rfl) (Ctr.bF (pV n a1 b1 d1 hn hd1 hab1 hb1) [0] rfl (E0 rfl) rfl ⟨ai rfl,trivial⟩ rfl (by repeat(first|exact Gc|refine⟨aF,?_⟩)) (fun _=>rfl) rfl rfl) ?_
 ·intro hw out
  repeat first|refine out _ _ _ (l1,d1) [] ⟨by rw [hw];rfl,by rw [hw];rfl⟩ ?_;(exact Ga rfl rfl rfl ⟨ai rfl,trivial⟩)|apply bk;rfl
 rintro⟨l2,d2⟩ ⟨el,ed⟩
 simp only at el ed ⊢
 have hl2:l2<4611686018427387904:=by rw [el];split <;> omega
 have hpd:Sort.PermIn a1 b1 d1 d2:=by
  rw [ed]
  split
  ·exact Sort.breakPatterns_holds d1 a1 b1 hab1 (by omega)
  ·exact Sort.permIn_refl d1 a1 b1
 have hd2:d2.size=n:=by rw [hpd.1];exact hd1
 have hB2:Sort.Below ltP a1 b1 d2:=hB1.perm (by omega) hpd
 have hpv:=ph n a1 b1 d2 (by omega) hd2 (by omega) hb1
 have hpr:=Sort.choosePivot_holds ltP d2 a1 b1 (by omega)
 have hgo:=fun d3 pivot hint pi=>wV (lt:=ltP) (d:=d1) (d1:=d2) (d2:=d3) (a:=a1) (b:=b1) (limit:=l1) (limit1:=l2) (pivot:=pivot) (wb:=wb) (wp:=wp) (c:=Sort.choosePivot ltP d2 a1 b1) (hint:=hint) (pi:=pi) (by omega) (by omega) ed el rfl
 generalize Sort.choosePivot ltP d2 a1 b1=c at hpv hpr hgo
 obtain⟨p,hint⟩:=c
 simp only at hpv hpr hgo
 repeat first|apply ae;rfl|refine aP rfl rfl rfl (by kernel_rfl) (Ctr.bF (hpv) [0] rfl (E0 rfl) rfl ⟨ai rfl,trivial⟩ rfl (by repeat(first|exact Gc|refine⟨aF,?_⟩)) (fun _=>rfl) rfl rfl) ?_
 refine bN (ct rfl rfl (.inl ⟨rfl,rfl⟩)) rfl rfl rfl ?_
 rw [q9]
 repeat apply bk;rfl
 refine uH 1 (fun s:(Nat×Sort.Hint)×ArP=> [(0,.slu 0 0 n),(1,.sc (.int .i64 (a1:Int))),(2,.sc (.int .i64 (b1:Int))),(3,.sc (.int .i64 (l2:Int))),(4,cmpF),(10,.sc (.bool wb)),(11,.sc (.bool wp)),(12,.sc (.int .i64 ((b1-a1:Nat):Int))),(13,.sc (.int .i64 (s.1.1:Int))),(14,.sc (.int .i64 (xH s.1.2)))]) (fun s=> [some (rowP n s.2)])
  (fun s=>s.2=(if hint = .decreasing then Sort.reverseRange d2 a1 b1 else d2)∧s.1.1=(if hint = .decreasing then(b1-1)-(p-a1) else p)∧s.1.2=(if hint = .decreasing then .increasing else hint)) (fun _=>rfl) rfl (fun _=>rfl) (fun _=>rfl) ?_ ?_ ?_
 ·intro hw out
  have hw:=EK hw
  repeat first|refine out _ _ _ (((b1-1)-(p-a1),.increasing),Sort.reverseRange d2 a1 b1) [] ⟨by rw [Ez hw],by rw [Ez hw],by rw [Ez hw]⟩ ?_;(refine⟨(E0 rfl),rfl,(by repeat(first|exact Gc|refine⟨rfl,?_⟩|refine⟨cK (by(simp only;omega)),?_⟩)),⟨ai rfl,trivial⟩⟩)|apply bk;rfl|apply aB;rfl;omega;omega|refine aP rfl rfl rfl (by kernel_rfl) (Ctr.bF (oZ n a1 b1 d2 (by omega) hd2 (by omega) hb1) [0] rfl (E0 rfl) rfl ⟨ai rfl,trivial⟩ rfl (by repeat(first|exact Gc|refine⟨aF,?_⟩)) (fun _=>rfl) rfl rfl) ?_
 ·intro hw out
  have hw:=of_decide_eq_false hw
  repeat first|refine out _ _ _ ((p,hint),d2) [] ⟨by rw [Ey hw],by rw [Ey hw],by rw [Ey hw]⟩ ?_;(exact Ga rfl rfl rfl ⟨ai rfl,trivial⟩)|apply bk;rfl
 rintro⟨⟨pv,hint2⟩,d3⟩ ⟨ed3,epv,ehi⟩
 simp only at ed3 epv ehi ⊢
 have hpd3:Sort.PermIn a1 b1 d2 d3:=by
  rw [ed3]
  split
  ·exact Sort.reverseRange_holds d2 a1 b1 hab1 (by omega)
  ·exact Sort.permIn_refl d2 a1 b1
 have hd3:d3.size=n:=by rw [hpd3.1];exact hd2
 have hB3:Sort.Below ltP a1 b1 d3:=hB2.perm (by omega) hpd3
 have hpv1:a1≤pv∧pv<b1:=by rw [epv];split <;> omega
 have hgo:=fun pi=>hgo d3 pv hint2 pi ed3 epv ehi
 (repeat refine uG ?_)
 refine oP 1 (fun _:Unit=> [(0,.slu 0 0 n),(1,.sc (.int .i64 (a1:Int))),(2,.sc (.int .i64 (b1:Int))),(3,.sc (.int .i64 (l2:Int))),(4,cmpF),(10,.sc (.bool wb)),(11,.sc (.bool wp)),(12,.sc (.int .i64 ((b1-a1:Nat):Int))),(13,.sc (.int .i64 (pv:Int))),(75,.sc (.bool (wb && wp && decide (hint2 = .increasing))))]) (fun _=> [some (rowP n d3)])
  (fun _=>True) (fun _=>rfl) (fun _=>rfl) (fun _=>rfl) ?_ ?_
 ·intro out
  clear ih ihk ho hgo ehi ed el hpr hpv
  cases wb <;> cases wp <;> cases hint2 <;> (repeat(first|refine out _ _ _ () [] trivial ?_;(exact Ga rfl rfl rfl ⟨ai rfl,trivial⟩)|apply bk;rfl|refine bN (ct rfl rfl (.inl ⟨rfl,rfl⟩)) rfl rfl rfl ?_))
 rintro _ -
 (repeat refine uG ?_)
 refine uH 1 (fun d':ArP=> [(0,.slu 0 0 n),(1,.sc (.int .i64 (a1:Int))),(2,.sc (.int .i64 (b1:Int))),(3,.sc (.int .i64 (l2:Int))),(4,cmpF),(10,.sc (.bool wb)),(11,.sc (.bool wp)),(12,.sc (.int .i64 ((b1-a1:Nat):Int))),(13,.sc (.int .i64 (pv:Int)))]) (fun d'=> [some (rowP n d')])
  (fun d'=>d'.size=n∧Sort.Below ltP a1 b1 d'∧Sort.pdq ltP d1 a1 b1 l1 wb wp=dA ltP d' a1 b1 pv l2 wb wp) (fun _=>rfl) rfl (fun _=>rfl) (fun _=>rfl) ?_ ?_ ?_
 ·intro hw out
  have hps:=mO n a1 b1 d3 (by omega) hd3 (by omega) hb1
  have hpp:=(Sort.partialInsertionSort_holds CD d3 a1 b1 (by omega) (by omega) hB3).1
  have hgo:=hgo _ (by rw [Ez hw])
  generalize Sort.partialInsertionSort ltP d3 a1 b1=pi at hps hpp hgo
  obtain⟨d4,done⟩:=pi
  simp only at hps hpp hgo
  cases done
  ·rw [Ey (by decide)] at hgo
   repeat first|refine out _ _ _ d4 [] ⟨by rw [hpp.1];exact hd3,hB3.perm (by omega) hpp,hgo⟩ ?_;(exact Ga rfl rfl rfl ⟨ai rfl,trivial⟩)|apply bk;rfl|refine aP rfl rfl rfl (by kernel_rfl) (Ctr.bF (hps) [0] rfl (E0 rfl) rfl ⟨ai rfl,trivial⟩ rfl (by repeat(first|exact Gc|refine⟨aF,?_⟩)) (fun _=>rfl) rfl rfl) ?_
  ·rw [Ez rfl] at hgo
   repeat first|apply ae;rfl|refine aP rfl rfl rfl (by kernel_rfl) (Ctr.bF (hps) [0] rfl (E0 rfl) rfl ⟨ai rfl,trivial⟩ rfl (by repeat(first|exact Gc|refine⟨aF,?_⟩)) (fun _=>rfl) rfl rfl) ?_
   ((apply bv Tryz.func99 (congrArg Array.toList Tryz.results99));(focus(repeat(exact E3)));refine⟨_,rfl,Ends.mk [] (E0 rfl) rfl rfl ?_⟩)
   rw [← ho,hgo]
   exact⟨ai rfl,trivial⟩
 ·intro hw out
  have hgo:=hgo (d3,false) (by rw [hw];rfl)
  repeat first|refine out _ _ _ d3 [] ⟨hd3,hB3,by rw [hgo];rfl⟩ ?_;(exact Ga rfl rfl rfl ⟨ai rfl,trivial⟩)|apply bk;rfl
 rintro d4 ⟨hd4,hB4,hT⟩
 rw [hT] at ho
 clear hgo hT hB3 hd3 hpd3 hB2 hd2 hpd ed ed3 ehi epv el hpv
 have arm: ∀ t:Bool,(decide (a1>0) && !ltP d4[a1-1]! d4[pv]!)=t→(decide (a1>0) && !ltP d4[a1-1]! d4[pv]!)=t:=fun _ h=>h
 repeat apply ae;rfl
 refine oP 1 (fun _:Unit=> [(0,.slu 0 0 n),(1,.sc (.int .i64 (a1:Int))),(2,.sc (.int .i64 (b1:Int))),(3,.sc (.int .i64 (l2:Int))),(4,cmpF),(10,.sc (.bool wb)),(11,.sc (.bool wp)),(12,.sc (.int .i64 ((b1-a1:Nat):Int))),(13,.sc (.int .i64 (pv:Int))),(97,.sc (.bool (decide (a1>0) && !ltP d4[a1-1]! d4[pv]!)))]) (fun _=> [some (rowP n d4)])
  (fun _=>True) (fun _=>rfl) (fun _=>rfl) (fun _=>rfl) ?_ ?_
 ·intro out
  refine aS (by kernel_rfl) (by kernel_rfl) ?_
  repeat apply aA;rfl
  refine jV rfl rfl rfl rfl ?_ ?_
  all_goals intro h5
  ·repeat first|apply aA;rfl|refine bq (ak rfl rfl (.inr (.inl ⟨rfl,(D3 _ ⟨(by omega),(by omega)⟩).symm⟩))) rfl rfl rfl ?_|refine aX rfl rfl rfl (F.ag _ rfl) (recP) rfl (by(omega)) (by(omega)) ?_|refine an (q:=a1-1) rfl rfl rfl rfl (F.un _ rfl) (F.sz _ rfl) rfl (by omega) (by omega) (by omega) ?_|refine an (q:=pv) rfl rfl rfl rfl (F.un _ rfl) (F.sz _ rfl) rfl (by omega) (by omega) (by omega) ?_|refine bg rfl rfl rfl rfl (by kernel_rfl) rfl (Ctr.callV (cmp_spec d4[a1-1]! d4[pv]!) [] rfl (E0 rfl) rfl trivial rfl) ?_
   refine bx rfl rfl rfl rfl ?_ ?_
   all_goals intro h6
   ·repeat apply aA;rfl
    refine ay ⟨by kernel_rfl,?_,?_⟩;(focus(repeat(first|exact Gc|apply bZ;rfl|apply bM;rfl|refine⟨.inr (by(repeat(refine⟨(by first|exact az (F.un _ rfl) (F.sz _ rfl) rfl rfl rfl (by omega) (by omega) (by omega)|exact ak rfl rfl (.inr (.inl ⟨rfl,(D3 _ ⟨by omega,by omega⟩).symm⟩))),?_⟩));exact Gc),?_⟩|refine⟨.inl (by kernel_rfl),?_⟩)))
    have e5:(decide (a1>0) && !ltP d4[a1-1]! d4[pv]!)=false:=by simp [ltP,h6]
    rw [e5] at out
    repeat refine out _ _ _ () [] trivial ?_;(exact Ga rfl rfl rfl ⟨ai rfl,trivial⟩)
   ·repeat apply aA;rfl
    refine ay ⟨by kernel_rfl,?_,?_⟩;(focus(repeat(first|exact Gc|apply bZ;rfl|apply bM;rfl|refine⟨.inr (by(repeat(refine⟨(by first|exact az (F.un _ rfl) (F.sz _ rfl) rfl rfl rfl (by omega) (by omega) (by omega)|exact ak rfl rfl (.inr (.inl ⟨rfl,(D3 _ ⟨by omega,by omega⟩).symm⟩))),?_⟩));exact Gc),?_⟩|refine⟨.inl (by kernel_rfl),?_⟩)))
    have e5:(decide (a1>0) && !ltP d4[a1-1]! d4[pv]!)=true:=by
     have:0<a1:=by omega
     simp [ltP,this,h6]
    rw [e5] at out
    repeat refine out _ _ _ () [] trivial ?_;(exact Ga rfl rfl rfl ⟨ai rfl,trivial⟩)
  ·repeat first|apply aA;rfl|refine b8 rfl rfl ?_
   refine ay ⟨by kernel_rfl,?_,?_⟩;(focus(repeat(first|exact Gc|apply ow;rfl|apply bM;rfl|refine⟨.inl rfl,?_⟩)))
   have e5:(decide (a1>0) && !ltP d4[a1-1]! d4[pv]!)=false:=by
    have: ¬ 0<a1:=by omega
    simp [this]
   rw [e5] at out
   repeat refine out _ _ _ () [] trivial ?_;(exact Ga rfl rfl rfl ⟨ai rfl,trivial⟩)
 rintro _ -
 cases h7:(decide (a1>0) && !ltP d4[a1-1]! d4[pv]!)
 ·have hps:=mT n a1 b1 pv d4 (by omega) hd4 hpv1.1 hpv1.2 hb1
  obtain⟨mid,ap,d5,hx⟩: ∃ mid ap,∃ d5,Sort.partition ltP d4 a1 b1 pv=(mid,ap,d5):=⟨_,_,_,rfl⟩
  obtain⟨g1,g2,g3,g4,g5,g6,g7⟩:=Sort.round_part CD (Sort.partition_holds ltP) hpv1.1 hpv1.2 (by omega) hB4 hx
  rw [hx] at hps
  simp only at hps
  have hd5:d5.size=n:=by rw [g3];exact hd4
  repeat first|apply ae;rfl|apply aB;rfl;omega;omega|refine bN (ii rfl rfl (by omega) (dR (by omega) (by omega) (by omega))) rfl rfl rfl ?_|refine aP rfl rfl rfl (by kernel_rfl) (Ctr.bF (hps) [0] rfl (E0 rfl) rfl ⟨ai rfl,trivial⟩ rfl (by repeat(first|exact Gc|refine⟨aF,?_⟩)) (fun _=>rfl) rfl rfl) ?_
  refine bm rfl rfl rfl rfl ?_ ?_
  all_goals intro h8
  ·rw [mC (by rw [h7];decide) hx ⟨g1,g2⟩ (by omega)] at ho
   have hrec:=ihk (mid-a1) (by omega) a1 mid l2 d5 rfl g1 (by omega) hd5 hl2 g4
   have hL:=Sort.pdq_sorts ltP CD d5 a1 mid l2 true true g1 (by omega) g4
   have hB6:=(g6 _ hL.1 hL.2).1
   have hd6:(Sort.pdq ltP d5 a1 mid l2 true true).size=n:=by rw [hL.1.1];exact hd5
   generalize Sort.pdq ltP d5 a1 mid l2 true true=d6 at hrec hB6 hd6 ho
   clear hL g6 g7 hps hpr
   repeat first|apply ae;rfl|apply aB;rfl;omega;omega|refine aP rfl rfl rfl (by kernel_rfl) (Ctr.bF (hrec) [0] rfl (E0 rfl) rfl ⟨ai rfl,trivial⟩ rfl (by repeat(first|exact Gc|refine⟨aF,?_⟩)) (fun _=>rfl) rfl rfl) ?_|refine bN (ct rfl rfl (.inr (.inr (.inr (.inr (.inr (⟨rfl,rfl⟩))))))) rfl rfl rfl ?_
   refine ih _ _ _ (((mid+1,b1),l2),((decide (mid-a1≥(b1-a1) / 8),ap),d6)) [] ⟨by simp only;omega,hb1,by simp only;omega,hd6,hl2,hB6,ho⟩ (by simp only;omega) ?_
   have eb:decide ((mid:Int)-(a1:Int)≥((b1-a1:Nat):Int) / 8)=decide (mid-a1≥(b1-a1) / 8):=by
    rw [Bool.eq_iff_iff,EZ,EZ]
    omega
   rw [← eb]
   (exact Ga rfl rfl rfl ⟨ai rfl,trivial⟩)
  ·rw [kV (by rw [h7];decide) hx ⟨g1,g2⟩ (by omega)] at ho
   have hrec:=ihk (b1-(mid+1)) (by omega) (mid+1) b1 l2 d5 rfl (by omega) hb1 hd5 hl2 g5
   have hL:=Sort.pdq_sorts ltP CD d5 (mid+1) b1 l2 true true (by omega) (by omega) g5
   have hB6:=(g7 _ hL.1 hL.2).1
   have hd6:(Sort.pdq ltP d5 (mid+1) b1 l2 true true).size=n:=by rw [hL.1.1];exact hd5
   generalize Sort.pdq ltP d5 (mid+1) b1 l2 true true=d6 at hrec hB6 hd6 ho
   clear hL g6 g7 hps hpr
   have emid:((mid:Int)+1)=((mid+1:Nat):Int):=by omega
   repeat first|apply ae;rfl|apply aB;rfl;omega;omega|refine bN (ct rfl rfl (.inr (.inr (.inr (.inr (.inr (⟨rfl,rfl⟩))))))) rfl rfl rfl ?_
   rw [emid]
   repeat first|apply ae;rfl|refine aP rfl rfl rfl (by kernel_rfl) (Ctr.bF (hrec) [0] rfl (E0 rfl) rfl ⟨ai rfl,trivial⟩ rfl (by repeat(first|exact Gc|refine⟨aF,?_⟩)) (fun _=>rfl) rfl rfl) ?_
   refine ih _ _ _ (((a1,mid),l2),((decide (b1-mid≥(b1-a1) / 8),ap),d6)) [] ⟨g1,by simp only;omega,by simp only;omega,hd6,hl2,hB6,ho⟩ (by simp only;omega) ?_
   have eb:decide ((b1:Int)-(mid:Int)≥((b1-a1:Nat):Int) / 8)=decide (b1-mid≥(b1-a1) / 8):=by
    rw [Bool.eq_iff_iff,EZ,EZ]
    omega
   rw [← eb]
   (exact Ga rfl rfl rfl ⟨ai rfl,trivial⟩)
 ·have h7':=h7
  rw [Ek,EZ,Bool.not_eq_true'] at h7'
  have hps:=jM n a1 b1 pv d4 (by omega) hd4 hpv1.1 hpv1.2 hb1
  obtain⟨mid,d5,hx⟩: ∃ mid,∃ d5,Sort.partitionEqual ltP d4 a1 b1 pv=(mid,d5):=⟨_,_,rfl⟩
  obtain⟨g1,g2,g3,g4,_⟩:=Sort.round_eq CD (Sort.partitionEqual_holds ltP) h7'.1 hpv1.1 hpv1.2 (by omega) hB4 h7'.2 hx
  rw [hx] at hps
  simp only at hps
  rw [sh h7 hx ⟨g1,g2⟩] at ho
  repeat first|apply ae;rfl|refine aP rfl rfl rfl (by kernel_rfl) (Ctr.bF (hps) [0] rfl (E0 rfl) rfl ⟨ai rfl,trivial⟩ rfl (by repeat(first|exact Gc|refine⟨aF,?_⟩)) (fun _=>rfl) rfl rfl) ?_
  refine ih _ _ _ (((mid,b1),l2),((wb,wp),d5)) [] ⟨g2,hb1,by simp only;omega,by rw [g3];exact hd4,hl2,g4,ho⟩ (by simp only;omega) ?_
  (exact Ga rfl rfl rfl ⟨ai rfl,trivial⟩)
end
end Ow
end Go.Proofs.YtelnglhodnoclaaGreat
end
section
namespace Go.Proofs.YtelnglhodnoclaaGreat
namespace Ow
open Go Go.Sy
theorem sortF_spec(n:Nat)(d:ArP)(hn:n<65536)(hd:d.size=n) :
 Ctr Tryz.prog 72 [.slu 0 0 n,DQ] [rowP n d] (fun c=>c=⟨.tup [],[some (rowP n (Sort.sort ltP d))]⟩):=by
 have h16:=lS hn
 refine E2 Tryz.func72 rfl rfl ?_
 refine vV (d:=1) (s:=DQ) (s':=cmpF) rfl (fun e v h=>by simpa [SV.conc,SV.aC] using h) ?_
 have hp:=po n hn n 0 n (Sort.bitsLen n) d rfl (En _) (Em _) hd (by omega) (.inl rfl)
 have hs:Sort.pdq ltP d 0 n (Sort.bitsLen n) true true=Sort.sort ltP d:=by unfold Sort.sort;rw [hd]
 rw [hs] at hp
 repeat first|apply ae;rfl|refine bN (cG (F.un _ rfl) (F.un _ rfl) rfl (show _=(n:Int)from EX _ ⟨by omega,by omega⟩)) rfl rfl rfl ?_|refine ey (pD n hn) [] rfl rfl rfl (by kernel_rfl) rfl (E0 rfl) rfl trivial ?_|refine aP rfl rfl rfl (by kernel_rfl) (Ctr.bF (hp) [0] rfl (E0 rfl) rfl ⟨ai rfl,trivial⟩ rfl (by repeat(first|exact Gc|refine⟨aF,?_⟩)) (fun _=>rfl) rfl rfl) ?_
 ((apply jF Tryz.func72 (congrArg Array.toList Tryz.results72));(focus(repeat(exact E3)));refine⟨_,rfl,Ends.mk [] (E0 rfl) rfl rfl ?_⟩)
 exact⟨ai rfl,trivial⟩
end Ow
end Go.Proofs.YtelnglhodnoclaaGreat
end
section
namespace Go.Proofs.YtelnglhodnoclaaGreat
open Go Go.Sy Go.Sl Go.RowKit
section
variable {H:aw}{e:a7}{s:SV}{hi i lo nx:Nat}{bs:List Bn.El}{mem:List UInt8}{own:List Ow.El}{p:List UInt8}
theorem CY:dY Tryz.prog 86=some (.agg (Value.int .i64 0 :: (List.replicate 1024 (Value.int .u8 0) ++ [.slice none 0 0,.slice none 0 0])).toArray):=by kernel_rfl
theorem Dl:AG Tryz.prog 86=some [(0,1),(1,1024),(1025,1),(1026,1)]:=by kernel_rfl
theorem xP{n:Int}:hJ (fun i=>([(0,1),(1,1024),(1025,1),(1026,1)]:List (Nat×Nat))[i]?) ((Value.agg (Value.int .i64 0 :: (List.replicate 1024 (Value.int .u8 0) ++ [.slice none 0 0,.slice none 0 0])).toArray).cells.toList.map .sc) [(0,.sc (.int .i64 n))]=some (dP n zeroP cC cC):=by
 have e:(Value.agg (Value.int .i64 0 :: (List.replicate 1024 (Value.int .u8 0) ++ [.slice none 0 0,.slice none 0 0])).toArray).cells.toList.map SV.sc=tf:=by kernel_rfl
 rw [e,mg (off:=0) (size:=1) (vc:= [.sc (.int .i64 n)]) rfl rfl rfl (by rw [aO ac];decide)]
 rfl
theorem IntsAt.low{l:List Int}{lo':Nat}(h:IntsAt H s l lo hi)(hl:lo'≤lo):IntsAt H s l lo' hi:=by
 rcases h with h|⟨r,h1,h2,h3,h4,h5⟩
 ·exact .inl h
 ·exact .inr ⟨r,h1,h2,by omega,h4,h5⟩
theorem md{a:List Ow.El}{b:List Int}(h:some (tO a)=some (xv b)):False:=by
 have h:=Option.some.inj h
 unfold tO xv Ow.rowP arr dat at h
 injection h with _ _ h
 exact absurd h (by decide)
theorem ln{b c r k:Nat}{e0:a7}{left:Int}(hb:PgAt H b mem left c)(hm:mem.length=28672)(hr:H.at' r=some (nS bs))(hi:i<bs.length)(hbi:bs[i]=(((4+k:Nat):Int),e0))(hk:k<28)(hl:bs.length≤1000):Fnc Tryz.prog 38 [nY b,.slu r 0 bs.length,.sc (.int .i64 (i:Int))] H nx
 (fun q=>nx≤q.2.2∧(∀ m,m<nx→q.2.1.at' m=H.at' m)∧((eL (aQ mem k) bs i=none∧q.1 = .tup [.agg tf,.sc (.int .i64 13)])∨ ∃ own left so sl,eL (aQ mem k) bs i=some (own,left)∧q.1 = .tup [.agg (dP ((4+k:Nat):Int) (aQ mem k) so sl),.sc (.int .i64 0)]∧OwnAt q.2.1 so own nx q.2.2∧IntsAt q.2.1 sl left nx q.2.2)):=by
 obtain⟨s0,hb,hL⟩:=hb
 have hp:=dB hm (n:=k) hk
 refine E2 Tryz.func38 rfl rfl ?_
 refine a9 fun hund=>?_
 have hlt:=hund _ _ hb
 have hltr:=hund _ _ hr
 have hc0:(bs.toArray.toList.flatMap Bn.elV)[i*4]? =some (.int .i64 ((4+k:Nat):Int)):=by
  have:=dW (f:=Bn.elV) (fun _=>rfl) bs i 0 1 hi (by decide)
  have h2:=congrArg (fun l:List Value=>l[0]?) this
  rw [hbi] at h2
  simp only [List.getElem?_take_of_lt (show 0<1 by decide),List.getElem?_drop] at h2
  exact h2
 repeat first|refine eR (aW nU) rfl rfl rfl ?_|refine cQ (q:=i) rfl rfl rfl rfl (F.un _ rfl) (F.sz _ rfl) (by(repeat(refine aa (by omega) ?_));exact hr) rfl hi (Em _) ?_|refine e7 (v:= .int .i64 ((4+k:Nat):Int)) rfl rfl rfl (F.ag _ rfl) (by(repeat(refine aa (by omega) ?_));exact hr) hc0 (by omega) ?_|refine bN (eH rfl CY Dl xP) rfl rfl rfl ?_|refine dp rfl rfl rfl (F.sz _ rfl) (by repeat(exact ah)) (aO ac _ _) (by rw [aO ac];exact Em _) (dK _ _ rfl rfl) (dI ac ac) ?_|apply ae;rfl|apply aR;rfl;(focus((repeat(first|exact ah|refine aa (by omega) ?_));done));rfl
 refine fC 152 rfl rfl rfl rfl (by kernel_rfl) (E1 (AH (n:=k) (by(repeat(refine aa (by omega) ?_));exact hb) hm hk) ?_)
 rintro _ rfl
 dsimp only
 generalize aQ mem k=p at hp ⊢
 repeat first|refine eR (aW dN) rfl rfl rfl ?_|apply cx hp ac;rfl;(focus((repeat(exact ah));done))|apply ae;rfl|apply ig;rfl;rfl
 refine im (R:=fun H1 n1=>n1=nx+1+1+1+1+1∧H1.at' nx=some (am 81 [.slu r 0 bs.length])∧H1.at' (nx+1)=some (am 3 [.sc (.int .i64 (i:Int))])∧H1.at' (nx+1+1)=some (ee 0 zeroP cC cC)∧H1.at' (nx+1+1+1)=some (ee ((4+k:Nat):Int) zeroP cC cC)∧H1.at' (nx+1+1+1+1)=some (pgO p)∧ ∀ m,m<nx→H1.at' m=H.at' m) ⟨rfl,by repeat(first|exact ah|refine aa (by omega) ?_),by repeat(first|exact ah|refine aa (by omega) ?_),by repeat(first|exact ah|refine aa (by omega) ?_),by repeat(first|exact ah|refine aa (by omega) ?_),by repeat(exact ah),fun m hm=>by(repeat(refine aa (by omega) ?_));rfl⟩ ?_
 rintro H1 n1 ⟨rfl,a0,a1,a2,a3,a4,ao⟩
 have hri:=fun(H:aw) nx=>yv (H:=H) (nx:=nx) hp
 have hki:=fun(H:aw) nx=>A3 (H:=H) (nx:=nx) hp
 by_cases hok: ¬ (cr p=true∧kP p=3)
 ·have hno:eL p bs i=none:=Ey hok
  cases hrp:cr p with
  | false=>
    rw [hrp] at hri
    repeat first|apply dc hp;rfl;assumption|refine dp rfl rfl rfl (F.sz _ rfl) (by assumption) (aO ac _ _) (by rw [aO ac];exact Em _) (dK _ _ rfl rfl) (dI ac ac) ?_|apply ae;rfl|apply cH;rfl;kernel_rfl;exact hri _ _|refine cv rfl rfl qf ?_
    ((apply bv Tryz.func38 (congrArg Array.toList Tryz.results38));(focus((apply E4 rfl (E6 (F.ag _ rfl) (by repeat(exact ah)) (gX ac _ _));(repeat(first|exact E3|apply E5 rfl))))))
    exact⟨by dsimp only;omega,fun m hm=>by(repeat(refine aa (by omega) ?_));exact ao m hm,.inl ⟨hno,rfl⟩⟩
  | true=>
    rw [hrp] at hri
    have hk3:((kP p).toNat:Int)≠3:=fun h=>hok ⟨hrp,UInt8.toNat_inj.1 (by show(kP p).toNat=3;omega)⟩
    repeat first|apply dc hp;rfl;assumption|refine dp rfl rfl rfl (F.sz _ rfl) (by assumption) (aO ac _ _) (by rw [aO ac];exact Em _) (dK _ _ rfl rfl) (dI ac ac) ?_|apply ae;rfl|apply cH;rfl;kernel_rfl;exact hri _ _|apply cH;rfl;kernel_rfl;exact hki _ _|refine ga rfl rfl rfl rfl (fun _=>?_) (fun hq=>absurd hq hk3)|refine cv rfl rfl qf ?_
    ((apply bv Tryz.func38 (congrArg Array.toList Tryz.results38));(focus((apply E4 rfl (E6 (F.ag _ rfl) (by repeat(exact ah)) (gX ac _ _));(repeat(first|exact E3|apply E5 rfl))))))
    exact⟨by dsimp only;omega,fun m hm=>by(repeat(refine aa (by omega) ?_));exact ao m hm,.inl ⟨hno,rfl⟩⟩
 have hok:=Classical.not_not.1 hok
 have hM:eL p bs i=(match cU p bs i (aj p)with
  | none=>none
  | some (own,left)=>if xZ (nJ own) (nJ own).length=true then none else some (nJ own,left)):=Ez hok
 obtain⟨hrp,hk3⟩:=hok
 have h12: ∀ j own left,j≤aj p→cU p bs i j=some (own,left)→own.length<65536:=fun j own left h1 h2=>by have:=gF h2;have:=(eY hp hrp).2;omega
 rw [hrp] at hri
 rw [hk3] at hki
 have hits:=fun(H:aw) nx=>sO (H:=H) (nx:=nx) hp
 rw [hrp] at hits
 repeat first|apply dc hp;rfl;(focus((repeat(first|assumption|refine aa (by omega) ?_));done))|refine dp rfl rfl rfl (F.sz _ rfl) (by assumption) (bf hp) (by rw [aO ac];decide) (iG _) (vk ac hp _ _) ?_|apply ae;rfl|apply aR;rfl;(focus((repeat(exact ah));done));rfl|apply cH;rfl;kernel_rfl;exact hri _ _|apply cH;rfl;kernel_rfl;exact hki _ _|apply ig;rfl;rfl|apply cH;rfl;kernel_rfl;exact hits _ _
 obtain⟨q0,hq0⟩: ∃ q0,q0=nx+1+1+1+1+1+1:=⟨_,rfl⟩
 rw [← hq0]
 obtain⟨N,hN⟩: ∃ N:Int,N=((4+k:Nat):Int):=⟨_,rfl⟩
 rw [← hN] at a3 ⊢
 have hr1:H1.at' r=some (nS bs):=(ao r hltr).trans hr
 refine im (R:=fun H4 n4=>n4=q0+1+1∧H4.at' q0=some (pgO p)∧H4.at' (q0+1)=some (nI true)∧H4.at' nx=some (am 81 [.slu r 0 bs.length])∧H4.at' (nx+1)=some (am 3 [.sc (.int .i64 (i:Int))])∧H4.at' (nx+1+1)=some (ee 0 zeroP cC cC)∧H4.at' (nx+1+1+1)=some (ee N p cC cC)∧H4.at' (nx+1+1+1+1+1)=some (nI false)∧ ∀ m,m<nx→H4.at' m=H.at' m)
  ⟨by first|rfl|omega,by repeat(first|exact ah|refine aa (by omega) ?_),by repeat(exact ah),by repeat(first|assumption|refine aa (by omega) ?_),by repeat(first|assumption|refine aa (by omega) ?_),by repeat(first|assumption|refine aa (by omega) ?_),by repeat(first|exact ah|refine aa (by omega) ?_),by repeat(first|exact ah|refine aa (by omega) ?_),fun m hm=>by(repeat(refine aa (by omega) ?_));exact ao m hm⟩ ?_
 clear a0 a1 a2 a3 a4 ao hr1
 rintro H4 n4 ⟨rfl,m0,m1,m2,m3,m4,m5,m7,mo⟩
 refine jE [(4,.ptr nx 0),(5,.ptr (nx+1) 0),(6,.ptr (nx+1+1) 0),(8,.ptr (nx+1+1+1) 0),(11,.ptr (nx+1+1+1+1+1) 0)] rfl rfl (by kernel_rfl) (E8 (Gb rfl)) ?_
 intro cA cB hcA hcB2
 refine E1 (sN (l:=q0+1+1+1) (f:=q0+1) (q:=q0) hp hrp (f2:=38) (nt2:=111) (T2:=slT [(4,.ptr nx 0),(5,.ptr (nx+1) 0),(6,.ptr (nx+1+1) 0),(8,.ptr (nx+1+1+1) 0),(11,.ptr (nx+1+1+1+1+1) 0)]) (ps:= #[47,48]) (ca:=cA) (cb:=cB) (dr:=q0+1+1) rfl
  (fun j H5 n5=>H5.at' (q0+1+1+1)=some (.loop .ready none 38 111 (slT [(4,.ptr nx 0),(5,.ptr (nx+1) 0),(6,.ptr (nx+1+1) 0),(8,.ptr (nx+1+1+1) 0),(11,.ptr (nx+1+1+1+1+1) 0)]) #[47,48] cA cB (q0+1+1))∧H5.at' (q0+1)=some (nI true)∧H5.at' q0=some (pgO p)∧q0+1+1+1+1≤n5∧H5.at' nx=some (am 81 [.slu r 0 bs.length])∧H5.at' (nx+1)=some (am 3 [.sc (.int .i64 (i:Int))])∧H5.at' (nx+1+1)=some (ee 0 zeroP cC cC)∧H5.at' (nx+1+1+1+1+1)=some (nI false)∧H5.at' (q0+1+1)=some (.dfd (some []))∧(∃ own left so sl,cU p bs i j=some (own,left)∧H5.at' (nx+1+1+1)=some (ee N p so sl)∧OwnAt H5 so own (q0+1+1+1+1+1) n5∧IntsAt H5 sl left (q0+1+1+1+1+1) n5)∧ ∀ m,m<nx→H5.at' m=H.at' m)
  (fun H5 n5=>H5.at' (q0+1+1+1)=some (.loop .done (some (.exit 0)) 38 111 (slT [(4,.ptr nx 0),(5,.ptr (nx+1) 0),(6,.ptr (nx+1+1) 0),(8,.ptr (nx+1+1+1) 0),(11,.ptr (nx+1+1+1+1+1) 0)]) #[47,48] cA cB (q0+1+1))∧q0+1+1+1+1≤n5∧H5.at' (nx+1+1)=some (ee 0 zeroP cC cC)∧H5.at' (nx+1+1+1+1+1)=some (nI true)∧H5.at' (q0+1+1)=some (.dfd (some []))∧(∃ own left so sl,own.length<65536∧H5.at' (nx+1+1+1)=some (ee N p so sl)∧OwnAt H5 so own (q0+1+1+1+1+1) n5∧IntsAt H5 sl left (q0+1+1+1+1+1) n5)∧cU p bs i (aj p)=none∧ ∀ m,m<nx→H5.at' m=H.at' m)
  ?_ ?_ ?_ ?_ ?_) ?_
 ·rintro j H5 n5 ⟨i1,i2,i3,i4,_⟩
  exact⟨i1,i2,i3,by omega,by omega,by omega⟩
 ·rintro j H5 n5 H6 n6 ⟨i1,i2,i3,i4,i5,i6,i7,i8,i9,⟨own,left,so,sl,j1,j2,j3,j4⟩,i12⟩ hle hs
  exact⟨(hs _ (by omega)).trans i1,(hs _ (by omega)).trans i2,(hs _ (by omega)).trans i3,by omega,(hs _ (by omega)).trans i5,(hs _ (by omega)).trans i6,(hs _ (by omega)).trans i7,(hs _ (by omega)).trans i8,(hs _ (by omega)).trans i9,⟨own,left,so,sl,j1,(hs _ (by omega)).trans j2,j3.frame hle fun m _ h _=>hs m h,j4.frame hle fun m _ h _=>hs m h⟩,fun m hm=>(hs _ (by omega)).trans (i12 m hm)⟩
 ·rintro j H5 n5 ⟨i1,i2,i3,i4,i5,i6,i7,i8,i9,⟨own,left,so,sl,j1,j2⟩,i12⟩ hz
  have e1:cU p bs i (j+1)=some (own,left):=by
   show(match cU p bs i j with|none=>none|some (own,left)=>_)=_
   rw [j1]
   exact Ez hz
  exact⟨i1,i2,i3,i4,i5,i6,i7,i8,i9,⟨own,left,so,sl,e1,j2⟩,i12⟩
 ·rintro j H5 n5 r0 ⟨i1,i2,i3,i4,i5,i6,i7,i8,i9,⟨own,left,so,sl,j1,j2,j3,j4⟩,i12⟩ hr1 hr2 hj hs hrow
  have hrow2:(H5.set (q0+1+1+1) (.loop .busy none 38 111 (slT [(4,.ptr nx 0),(5,.ptr (nx+1) 0),(6,.ptr (nx+1+1) 0),(8,.ptr (nx+1+1+1) 0),(11,.ptr (nx+1+1+1+1+1) 0)]) #[47,48] cA cB (q0+1+1))).at' r0=some (u8R false (byV (cd p j))):=(ab _ _ (by omega)).trans hrow
  have hil:(cd p j).length≤1024:=by unfold cd;rw [EC,EF];omega
  have hrb:(H5.set (q0+1+1+1) (.loop .busy none 38 111 (slT [(4,.ptr nx 0),(5,.ptr (nx+1) 0),(6,.ptr (nx+1+1) 0),(8,.ptr (nx+1+1+1) 0),(11,.ptr (nx+1+1+1+1+1) 0)]) #[47,48] cA cB (q0+1+1))).at' r=some (nS bs):=(ab _ _ (by omega)).trans ((i12 r hltr).trans hr)
  refine nV hcA ?_
  repeat apply ae;rfl
  refine r9 (by assumption) ?_
  refine nV hcB2 ?_
  repeat apply ae;rfl
  have hl1:=gF j1
  obtain⟨_,hsp,hsp2⟩:=eY hp hrp
  refine aL rfl rfl rfl (by kernel_rfl) (E1 (of_u (eo:=0) (w:=cd p j) (l:=cd p j) (by(repeat(refine aa (by omega) ?_));exact hrow) (EA _) rfl (by omega)) ?_)
  rintro _ rfl
  dsimp only
  cases hof:ofL (cd p j)with
  | none=>
    rw [gD hof]
    have hbn:cU p bs i (aj p)=none:=sM (j:=j+1) (by show(match cU p bs i j with|none=>none|some (own,left)=>_)=none;rw [j1];exact(Ey hs).trans (by rw [hof])) (by omega)
    repeat first|apply ae;rfl|apply aR;rfl;(focus((repeat(first|assumption|exact ah|refine aa (by omega) ?_));done));rfl|apply tp;rfl;decide
    refine fP rfl (by repeat(first|exact ah|refine aa (by omega) ?_)) (.inr ⟨rfl,au _ _ _,by dsimp only;omega,by repeat(first|assumption|refine aa (by omega) ?_),by repeat(first|exact ah|refine aa (by omega) ?_),by repeat(first|assumption|refine aa (by omega) ?_),⟨own,left,so,sl,h12 j own left (by omega) j1,by repeat(first|assumption|refine aa (by omega) ?_),j3.frame (by dsimp only;omega) fun m _ _ _=>by(repeat(refine aa (by omega) ?_));rfl,j4.frame (by dsimp only;omega) fun m _ _ _=>by(repeat(refine aa (by omega) ?_));rfl⟩,hbn,fun m hm=>by(repeat(refine aa (by omega) ?_));exact i12 m hm⟩)
  | some e=>
    rw [ll hof]
    have e1:cU p bs i (j+1)=if bG bs e=i then some (own ++ [(e,(j:Int))],left) else some (own,left ++ [(j:Int)]):=by
     show(match cU p bs i j with|none=>none|some (own,left)=>_)=_
     rw [j1]
     exact(Ey hs).trans (by rw [hof])
    repeat first|apply ae;rfl|apply aR;rfl;(focus((repeat(exact ah));done));rfl|apply ig;rfl;rfl
    (apply cR;(focus(kernel_rfl));(focus(kernel_rfl)))
    repeat first|apply lz;rfl;(focus((repeat(first|assumption|exact ah|refine aa (by omega) ?_));done));rfl|refine eZ rfl rfl rfl (by kernel_rfl) (pF e (by(repeat(refine aa (by omega) ?_));exact(i12 r hltr).trans hr) (by omega) (by omega)) ?_
    refine xX rfl rfl rfl rfl (fun c1=>?_) (fun c1=>?_)
    ·repeat apply aA;rfl
     refine ay ⟨by kernel_rfl,?_,?_⟩;(focus(repeat(first|exact Gc|apply mh;rfl|apply l5;rfl;kernel_rfl|refine jC 0 rfl (by kernel_rfl) (by(repeat(refine⟨(by first|exact aI (F.ag _ rfl) rfl (by repeat(first|assumption|exact ah|refine aa (by omega) ?_)) (aE rfl)|exact bA (F.ag _ rfl) rfl (by repeat(first|assumption|exact ah)) (aH _ 0 rfl rfl)),?_⟩));exact Gc) ?_|apply xS;kernel_rfl)))
     dsimp only
     rw [Ez (by omega)] at e1
     rcases j3 with ⟨rfl,rfl⟩|⟨rw,k1,rfl,k2,k3,k4⟩
     ·repeat first|refine aZ rfl rfl rfl (F.ag _ rfl) (by repeat(first|assumption|exact ah|refine aa (by omega) ?_)) (bC hp cC sl 0) ?_|apply ae;rfl|apply aR;rfl;(focus((repeat(exact ah));done));rfl|refine eR (aU (F.un _ rfl) (F.sz _ rfl) (aN rfl) (F.ze _ rfl) rfl rfl rfl rfl rfl) rfl rfl rfl ?_
      refine gO (b:=40) (n:=1) (cs:=(Ow.elV (e,(j:Int))).map .sc) rfl rfl rfl rfl (F.un _ rfl) (.inl ⟨_,F.un _ rfl⟩) (F.sz _ rfl) rfl (by kernel_rfl) (by kernel_rfl) (SlOf.row (by repeat(exact ah)) rfl) rfl (by decide) (by decide) ?_
      rintro _ _ _ (⟨h,_⟩|⟨_,rfl,rfl,rfl⟩)
      ·exact absurd h (by decide)
      repeat apply ae;rfl
      refine cJ (cs:=dP N p cC sl) rfl rfl rfl (F.sz _ rfl) (by repeat(first|assumption|refine aa (by omega) ?_)) rfl (D9 (by rw [aO hp];decide)) ?_
      rw [show ∀ x,(dP N p cC sl).set (0+1025) x=dP N p x sl from fun x=>ol hp _ _ _]
      repeat apply ae;rfl
      refine dF (by repeat(first|exact ah|refine aa (by omega) ?_)) (.inl ⟨rfl,⟨au _ _ _,by repeat(first|assumption|refine aa (by omega) ?_),by repeat(first|assumption|refine aa (by omega) ?_),by dsimp only;omega,by repeat(first|assumption|refine aa (by omega) ?_),by repeat(first|assumption|refine aa (by omega) ?_),by repeat(first|assumption|refine aa (by omega) ?_),by repeat(first|assumption|refine aa (by omega) ?_),by repeat(first|assumption|refine aa (by omega) ?_),⟨_,_,_,_,e1,by repeat(first|exact ah|refine aa (by omega) ?_),.inr ⟨n5+1+1,by simp,rfl,by first|omega|(dsimp only;omega),by first|omega|(dsimp only;omega),Eq.trans (b:=some (fA false 1 4 128 ((Ow.elV (e,(j:Int))).map .sc))) (by repeat(first|exact ah|refine aa (by omega) ?_)) (congrArg some (bU _ _ _ _ _))⟩,j4.frame (by(dsimp only;omega)) fun m _ _ _=>by(repeat(refine aa (by omega) ?_));rfl⟩,fun m hm=>by(repeat(refine aa (by omega) ?_));exact i12 m hm⟩,by dsimp only;omega,by(repeat(refine aa (by omega) ?_));rfl⟩)
     ·repeat first|refine aZ rfl rfl rfl (F.ag _ rfl) (by repeat(first|assumption|exact ah|refine aa (by omega) ?_)) (bC hp (.slu rw 0 own.length) sl 0) ?_|apply ae;rfl|apply aR;rfl;(focus((repeat(first|assumption|exact ah|refine aa (by omega) ?_|refine bO (by omega) ?_));done));rfl|refine eR (aU (F.un _ rfl) (F.sz _ rfl) (aN rfl) (F.ze _ rfl) rfl rfl rfl rfl rfl) rfl rfl rfl ?_|refine mw (b:=40) (xs:=own) (a:=(e,(j:Int))) rfl rfl rfl rfl (F.un _ rfl) (.inl ⟨_,F.un _ rfl⟩) (F.sz _ rfl) rfl (by kernel_rfl) (by kernel_rfl) (by repeat(first|assumption|refine aa (by omega) ?_)) (by repeat(exact ah)) (by rfl) (Ow.recP) (by omega) (by omega) ?_
      refine cJ (cs:=dP N p (.slu rw 0 own.length) sl) rfl rfl rfl (F.sz _ rfl) (by repeat(first|assumption|refine aa (by omega) ?_|refine bO (by omega) ?_)) rfl (D9 (by rw [aO hp];decide)) ?_
      rw [show ∀ x,(dP N p (.slu rw 0 own.length) sl).set (0+1025) x=dP N p x sl from fun x=>ol hp _ _ _]
      repeat apply ae;rfl
      refine dF (by repeat(first|exact ah|refine aa (by omega) ?_|refine bO (by omega) ?_)) (.inl ⟨rfl,⟨au _ _ _,by repeat(first|assumption|refine aa (by omega) ?_|refine bO (by omega) ?_),by repeat(first|assumption|refine aa (by omega) ?_|refine bO (by omega) ?_),by dsimp only;omega,by repeat(first|assumption|refine aa (by omega) ?_|refine bO (by omega) ?_),by repeat(first|assumption|refine aa (by omega) ?_|refine bO (by omega) ?_),by repeat(first|assumption|refine aa (by omega) ?_|refine bO (by omega) ?_),by repeat(first|assumption|refine aa (by omega) ?_|refine bO (by omega) ?_),by repeat(first|assumption|refine aa (by omega) ?_|refine bO (by omega) ?_),⟨_,_,_,_,e1,by repeat(first|exact ah|refine aa (by omega) ?_),.inr ⟨n5+1+1,by simp,rfl,by first|omega|(dsimp only;omega),by first|omega|(dsimp only;omega),(by repeat(first|exact ah|refine aa (by omega) ?_))⟩,j4.frame (by(dsimp only;omega)) fun m h1 h2 h3=>(by have hmr:m≠rw:=(by rintro rfl;exact md (k4.symm.trans h3));(focus((repeat(first|refine aa (by omega) ?_|refine bO (by omega) ?_));rfl)))⟩,fun m hm=>by(repeat(first|refine aa (by omega) ?_|refine bO (by omega) ?_));exact i12 m hm⟩,by dsimp only;omega,by(repeat(first|refine aa (by omega) ?_|refine bO (by omega) ?_));rfl⟩)
    ·repeat apply aA;rfl
     refine ay ⟨by kernel_rfl,?_,?_⟩;(focus(repeat(first|exact Gc|apply mh;rfl|apply l5;rfl;kernel_rfl|refine jC 0 rfl (by kernel_rfl) (by(repeat(refine⟨(by first|exact aI (F.ag _ rfl) rfl (by repeat(first|assumption|exact ah|refine aa (by omega) ?_)) (aE rfl)|exact bA (F.ag _ rfl) rfl (by repeat(first|assumption|exact ah)) (aH _ 0 rfl rfl)),?_⟩));exact Gc) ?_|apply xS;kernel_rfl)))
     dsimp only
     rw [Ey (by omega)] at e1
     rcases j4 with ⟨rfl,rfl⟩|⟨rw,k1,rfl,k2,k3,k4⟩
     ·repeat first|refine aZ rfl rfl rfl (F.ag _ rfl) (by repeat(first|assumption|refine aa (by omega) ?_)) (bC hp so cC 1) ?_|apply ae;rfl|refine eR (aU (F.un _ rfl) (F.sz _ rfl) (aN rfl) (F.ze _ rfl) rfl rfl rfl rfl rfl) rfl rfl rfl ?_
      refine gO (b:=8) (n:=1) (cs:= [.sc (.int .i64 (j:Int))]) rfl rfl rfl rfl (F.un _ rfl) (.inl ⟨_,F.un _ rfl⟩) (F.sz _ rfl) rfl (by kernel_rfl) (by kernel_rfl) (SlOf.row (by repeat(exact ah)) rfl) rfl (by decide) (by decide) ?_
      rintro _ _ _ (⟨h,_⟩|⟨_,rfl,rfl,rfl⟩)
      ·exact absurd h (by decide)
      repeat apply ae;rfl
      refine cJ (cs:=dP N p so cC) rfl rfl rfl (F.sz _ rfl) (by repeat(first|assumption|refine aa (by omega) ?_)) rfl (D9 (by rw [aO hp];decide)) ?_
      rw [show ∀ x,(dP N p so cC).set (0+1026) x=dP N p so x from fun x=>oq hp _ _ _]
      repeat apply ae;rfl
      refine dF (by repeat(first|exact ah|refine aa (by omega) ?_)) (.inl ⟨rfl,⟨au _ _ _,by repeat(first|assumption|refine aa (by omega) ?_),by repeat(first|assumption|refine aa (by omega) ?_),by dsimp only;omega,by repeat(first|assumption|refine aa (by omega) ?_),by repeat(first|assumption|refine aa (by omega) ?_),by repeat(first|assumption|refine aa (by omega) ?_),by repeat(first|assumption|refine aa (by omega) ?_),by repeat(first|assumption|refine aa (by omega) ?_),⟨_,_,_,_,e1,by repeat(first|exact ah|refine aa (by omega) ?_),j3.frame (by(dsimp only;omega)) fun m _ _ _=>(by(repeat(refine aa (by omega) ?_));rfl),.inr ⟨n5+1+1,by simp,rfl,by first|omega|(dsimp only;omega),by first|omega|(dsimp only;omega),Eq.trans (b:=some (fA false 1 1 3 [.sc (.int .i64 (j:Int))])) (by repeat(first|exact ah|refine aa (by omega) ?_)) (congrArg some (bU _ _ _ _ [.int .i64 (j:Int)]))⟩⟩,fun m hm=>by(repeat(refine aa (by omega) ?_));exact i12 m hm⟩,by dsimp only;omega,by(repeat(refine aa (by omega) ?_));rfl⟩)
     ·repeat first|refine aZ rfl rfl rfl (F.ag _ rfl) (by repeat(first|assumption|refine aa (by omega) ?_)) (bC hp so (.slu rw 0 left.length) 1) ?_|apply ae;rfl|refine eR (aU (F.un _ rfl) (F.sz _ rfl) (aN rfl) (F.ze _ rfl) rfl rfl rfl rfl rfl) rfl rfl rfl ?_|refine mw (b:=8) (xs:=left) (a:=(j:Int)) rfl rfl rfl rfl (F.un _ rfl) (.inl ⟨_,F.un _ rfl⟩) (F.sz _ rfl) rfl (by kernel_rfl) (by kernel_rfl) (by repeat(first|assumption|refine aa (by omega) ?_)) (by repeat(exact ah)) (by rfl) ((AE (g:=fun n:Int=>Value.int .i64 n) fun _=>rfl)) (by omega) (by omega) ?_
      refine cJ (cs:=dP N p so (.slu rw 0 left.length)) rfl rfl rfl (F.sz _ rfl) (by repeat(first|assumption|refine aa (by omega) ?_|refine bO (by omega) ?_)) rfl (D9 (by rw [aO hp];decide)) ?_
      rw [show ∀ x,(dP N p so (.slu rw 0 left.length)).set (0+1026) x=dP N p so x from fun x=>oq hp _ _ _]
      repeat apply ae;rfl
      refine dF (by repeat(first|exact ah|refine aa (by omega) ?_|refine bO (by omega) ?_)) (.inl ⟨rfl,⟨au _ _ _,by repeat(first|assumption|refine aa (by omega) ?_|refine bO (by omega) ?_),by repeat(first|assumption|refine aa (by omega) ?_|refine bO (by omega) ?_),by dsimp only;omega,by repeat(first|assumption|refine aa (by omega) ?_|refine bO (by omega) ?_),by repeat(first|assumption|refine aa (by omega) ?_|refine bO (by omega) ?_),by repeat(first|assumption|refine aa (by omega) ?_|refine bO (by omega) ?_),by repeat(first|assumption|refine aa (by omega) ?_|refine bO (by omega) ?_),by repeat(first|assumption|refine aa (by omega) ?_|refine bO (by omega) ?_),⟨_,_,_,_,e1,by repeat(first|exact ah|refine aa (by omega) ?_),j3.frame (by(dsimp only;omega)) fun m h1 h2 h3=>(by have hmr:m≠rw:=(by rintro rfl;exact md (h3.symm.trans k4));(focus((repeat(first|refine aa (by omega) ?_|refine bO (by omega) ?_));rfl))),.inr ⟨n5+1+1,by simp,rfl,by first|omega|(dsimp only;omega),by first|omega|(dsimp only;omega),(by repeat(first|exact ah|refine aa (by omega) ?_))⟩⟩,fun m hm=>by(repeat(first|refine aa (by omega) ?_|refine bO (by omega) ?_));exact i12 m hm⟩,by dsimp only;omega,by(repeat(first|refine aa (by omega) ?_|refine bO (by omega) ?_));rfl⟩)
 ·refine⟨au _ _ _,by repeat(first|assumption|refine aa (by omega) ?_),by repeat(first|assumption|refine aa (by omega) ?_),Em _,by repeat(first|assumption|refine aa (by omega) ?_),by repeat(first|assumption|refine aa (by omega) ?_),by repeat(first|assumption|refine aa (by omega) ?_),by repeat(first|assumption|refine aa (by omega) ?_),by repeat(first|exact ah|refine aa (by omega) ?_),⟨[],[],cC,cC,rfl,by repeat(first|assumption|refine aa (by omega) ?_),.inl ⟨rfl,rfl⟩,.inl ⟨rfl,rfl⟩⟩,fun m hm=>by(repeat(refine aa (by omega) ?_));exact mo m hm⟩
 ·rintro⟨v,H5,n5⟩ (⟨i1,i2,i3,i4,i5,i6,i7,i8,i9,⟨own,left,so,sl,j1,j2,j3,j4⟩,i12⟩|⟨i1,i4,i7,i8,i9,⟨own,left,so,sl,hl,j2,j3,j4⟩,hno,i12⟩)
  ·dsimp only at i1 i2 i3 i4 i5 i6 i7 i8 i9 j2 j3 j4 i12 ⊢
   have hM:eL p bs i=if xZ (nJ own) (nJ own).length=true then none else some (nJ own,left):=by rw [hM,j1]
   have hl:=h12 _ _ _ (Em _) j1
   have hl1:=gF j1
   obtain⟨_,hsp,hsp2⟩:=eY hp hrp
   clear i2 i3 i5 i6 j1 h12
   refine gy i1 (fun h=>by cases h) ?_
   dsimp only [gM]
   repeat apply ae;rfl
   rcases j3 with ⟨rfl,rfl⟩|⟨ra,k1,rfl,k2,k3,k4⟩
   ·have hM:eL p bs i=some ([],left):=by
     rw [hM,show nJ []= [] from Eh (j6 [])]
     rfl
    have hs0:=Ow.sortF_spec 0 #[] (by decide) rfl
    repeat refine aZ rfl rfl rfl (F.ag _ rfl) (by repeat(first|assumption|refine aa (by omega) ?_)) (bC hp cC sl 0) ?_
    refine l9 4 128 (d:=78) rfl rfl ?_
    (refine aL rfl rfl rfl (by kernel_rfl) (Ctr.lV (hs0) [n5] rfl ⟨by intro n hn;simp at hn;omega,by simp;try omega⟩ rfl (by repeat(first|exact Gc|refine⟨ai (by repeat(exact ah)),?_⟩)) ?_);rintro _ rfl;refine⟨_,0,[n5],[some _],rfl,(by repeat(first|exact Gc|refine⟨dw _ _ _ _ _ _,?_⟩)),rfl,rfl,?_⟩;dsimp only [wrL])
    repeat first|refine aZ rfl rfl rfl (F.ag _ rfl) (by repeat(first|assumption|refine aa (by omega) ?_)) (bC hp cC sl 0) ?_|apply ae;rfl|refine bN (bX (F.un _ rfl) rfl) rfl rfl rfl ?_
    refine br (α:=Nat) (fun x=> [(6,.ptr (nx+1+1) 0),(8,.ptr (nx+1+1+1) 0),(11,.ptr (nx+1+1+1+1+1) 0),(82,.sc (.int .i64 0)),(83,.sc (.int .i64 0))])
     (fun x H7 n7=>H7.at' (nx+1+1)=some (ee 0 zeroP cC cC)∧H7.at' (nx+1+1+1)=some (ee N p cC sl)∧H7.at' (nx+1+1+1+1+1)=some (nI false)∧IntsAt H7 sl left (q0+1+1+1+1+1) n7∧H7.at' (q0+1+1)=some (.dfd (some []))∧n5≤n7∧ ∀ m,m<nx→H7.at' m=H.at' m) (fun x=>0) 0
     ⟨by repeat(first|assumption|refine aa (by omega) ?_),by repeat(first|assumption|refine aa (by omega) ?_),by repeat(first|assumption|refine aa (by omega) ?_),j4.frame (by(omega)) fun m h1 h2 _=>(by(repeat(refine aa (by omega) ?_));rfl),by repeat(first|assumption|refine aa (by omega) ?_),by first|omega|(dsimp only;omega),fun m hm=>by(repeat(refine aa (by omega) ?_));exact i12 m hm⟩ (E8 (Gb rfl)) ?_
    clear j4 i12 i8 i9 i7 i1
    rintro x H7 n7 ⟨o1,o2,o3,o5,o6,o7,o8⟩ _
    repeat first|apply ae;rfl|apply aR;rfl;assumption;rfl|apply rX;rfl;decide
    (repeat(first|refine jZ rfl rfl rfl (F.ag _ rfl) (by assumption) (aO hp _ _) ?_|refine dp rfl rfl rfl (F.sz _ rfl) (by assumption) (aO hp _ _) (by rw [aO ac];exact Em _) (dK _ _ rfl o5.one) (dI ac hp) ?_|apply ae;rfl));refine ia Tryz.func38 (congrArg Array.toList Tryz.results38) (rs:= [q0+1+1]) rfl (fun r hr=>by rw [EE.1 hr];(focus((repeat(first|assumption|refine aa (by omega) ?_));done))) (by simp) ?_;intro H8 hH8;have kz:H8.at' (nx+1+1)=some (ee N p cC sl):=(hH8 _ (fun h=>absurd (EE.1 h) (by omega))).trans (by repeat(exact ah));refine⟨_,(by(apply E4 rfl (E6 (F.ag _ rfl) (by assumption) (gX hp _ _));(repeat(first|exact E3|apply E5 rfl)))),?_⟩;refine⟨by dsimp only;omega,fun m hm=>(hH8 _ (fun h=>absurd (EE.1 h) (by omega))).trans (by(repeat(refine aa (by omega) ?_));exact o8 m hm),.inr ⟨_,left,cC,sl,hM,rfl,?_,?_⟩⟩
    ·exact .inl ⟨rfl,rfl⟩
    ·exact(o5.frame (by(dsimp only;omega)) fun m h1 h2 _=>(hH8 _ (fun h=>absurd (EE.1 h) (by omega))).trans (by(repeat(refine aa (by omega) ?_));rfl)).low (by omega)
   ·have hs0:=Ow.sortF_spec own.length own.toArray hl (by simp)
    have hn0:0<own.length:=List.length_pos_iff.2 k1
    refine im (R:=fun H6 n6=>n5=n6∧H6.at' (nx+1+1)=some (ee 0 zeroP cC cC)∧H6.at' (nx+1+1+1)=some (ee N p (.slu ra 0 own.length) sl)∧H6.at' (nx+1+1+1+1+1)=some (nI false)∧H6.at' ra=some (tO own)∧IntsAt H6 sl left (q0+1+1+1+1+1) n5∧H6.at' (q0+1+1)=some (.dfd (some []))∧ ∀ m,m<nx→H6.at' m=H.at' m) ⟨rfl,by repeat(first|assumption|refine aa (by omega) ?_),by repeat(first|assumption|refine aa (by omega) ?_),by repeat(first|assumption|refine aa (by omega) ?_),by repeat(first|assumption|refine aa (by omega) ?_),j4.frame (Em _) fun m h1 h2 _=>(by(repeat(refine aa (by omega) ?_));rfl),by repeat(first|assumption|refine aa (by omega) ?_),fun m hm=>by(repeat(refine aa (by omega) ?_));exact i12 m hm⟩ ?_
    clear i1 i7 i8 i9 i12 k4 j2 j4
    rintro H6 n6 ⟨rfl,b1,b2,b3,b4,b5,b6,b7⟩
    repeat refine aZ rfl rfl rfl (F.ag _ rfl) (by assumption) (bC hp (.slu ra 0 own.length) sl 0) ?_
    (refine aL rfl rfl rfl (by kernel_rfl) (Ctr.lV (hs0) [ra] rfl ⟨by intro n hn;simp at hn;omega,by simp;try omega⟩ rfl (by repeat(first|exact Gc|refine⟨ai (by assumption),?_⟩)) ?_);rintro _ rfl;refine⟨_,0,[ra],[some _],rfl,(by repeat(first|exact Gc|refine⟨dw _ _ _ _ _ _,?_⟩)),rfl,rfl,?_⟩;dsimp only [wrL])
    rw [show dat false own.length 4 128 ((Sort.sort Ow.ltP own.toArray).toList.flatMap Ow.elV)=tO (nJ own)from tv own]
    have hsl:=j6 own
    rw [← hsl] at hl hn0 b2 ⊢
    generalize nJ own=sb at hM hl hn0 b2 ⊢
    clear hs0 hsl k1
    repeat first|refine aZ rfl rfl rfl (F.ag _ rfl) (by repeat(first|assumption|refine aa (by omega) ?_)) (bC hp (.slu ra 0 sb.length) sl 0) ?_|apply ae;rfl
    refine br (α:=Nat) (fun x=> [(6,.ptr (nx+1+1) 0),(8,.ptr (nx+1+1+1) 0),(11,.ptr (nx+1+1+1+1+1) 0),(82,.sc (.int .i64 (sb.length:Int))),(83,.sc (.int .i64 (x:Int)))])
     (fun x H7 n7=>x≤sb.length∧H7.at' (nx+1+1)=some (ee 0 zeroP cC cC)∧H7.at' (nx+1+1+1)=some (ee N p (.slu ra 0 sb.length) sl)∧H7.at' (nx+1+1+1+1+1)=some (nI (xZ sb x))∧H7.at' ra=some (tO sb)∧IntsAt H7 sl left (q0+1+1+1+1+1) n7∧H7.at' (q0+1+1)=some (.dfd (some []))∧n5≤n7∧ ∀ m,m<nx→H7.at' m=H.at' m) (fun x=>sb.length-x) 0
     ⟨En _,by repeat(first|assumption|refine aa (by omega) ?_),by repeat(first|assumption|refine aa (by omega) ?_),by repeat(first|assumption|refine aa (by omega) ?_),by repeat(exact ah),b5.frame (by(omega)) fun m h1 h2 h3=>(by have hmr:m≠ra:=(by rintro rfl;exact md (b4.symm.trans h3));(focus((repeat(refine aa (by omega) ?_));rfl))),by repeat(first|assumption|refine aa (by omega) ?_),by first|omega|(dsimp only;omega),fun m hm=>by(repeat(refine aa (by omega) ?_));exact b7 m hm⟩ (E8 (Gb rfl)) ?_
    clear b1 b2 b3 b4 b5 b6 b7
    rintro x H7 n7 ⟨o0,o1,o2,o3,o4,o5,o6,o7,o8⟩ ih
    repeat apply ae;rfl
    refine bm rfl rfl rfl rfl (fun c1=>?_) (fun c1=>?_)
    ·have hx:x<sb.length:=by omega
     repeat apply ae;rfl
     have hdb:xZ sb (x+1)=(xZ sb x || (decide (0<x) && gq (sb.getD (x-1) (cn,0)).1 (sb.getD x (cn,0)).1)):=rfl
     cases hd:xZ sb x with
     | true=>
       rw [hd] at o3 hdb
       (apply cR;(focus(kernel_rfl));(focus(kernel_rfl)))
       repeat first|apply lz;rfl;assumption;rfl|refine ci rfl rfl rfl (F.sz _ rfl) (by assumption) (by rfl) (by rfl) ?_|apply aA;rfl|apply b8;rfl;rfl
       refine ay ⟨by kernel_rfl,?_,?_⟩;(focus(repeat(first|exact Gc|apply mh;rfl|apply Ch;rfl|apply l5;rfl;kernel_rfl|refine jC 0 rfl (by kernel_rfl) (by(repeat(refine⟨(by(exact aI (F.ag _ rfl) rfl (by repeat(first|assumption|exact ah)) (aE rfl))),?_⟩));exact Gc) ?_)))
       repeat first|apply ae;rfl|apply aB;rfl;omega;omega
       exact ih _ _ _ (x+1) ⟨hx,by repeat(first|assumption|refine aa (by omega) ?_),by repeat(first|assumption|refine aa (by omega) ?_),by rw [hdb];(focus((repeat(exact ah));done)),by repeat(first|assumption|refine aa (by omega) ?_),o5.frame (by(dsimp only;omega)) fun m h1 h2 h3=>(by(repeat(refine aa (by omega) ?_));rfl),by repeat(first|assumption|refine aa (by omega) ?_),by first|omega|(dsimp only;omega),fun m hm=>by(repeat(refine aa (by omega) ?_));exact o8 m hm⟩ (by omega) (E8 (Gb rfl))
     | false=>
       rw [hd] at o3 hdb
       (apply cR;(focus(kernel_rfl));(focus(kernel_rfl)))
       repeat first|apply lz;rfl;assumption;rfl|apply aA;rfl
       refine jV rfl rfl rfl rfl (fun c2=>?_) (fun c2=>?_)
       ·have hx1:x-1<sb.length:=by omega
        have hf1:=dW (f:=Ow.elV) (fun _=>rfl) sb (x-1) 0 3 hx1 (by decide)
        have hf2:=dW (f:=Ow.elV) (fun _=>rfl) sb x 0 3 hx (by decide)
        rw [show sb.getD (x-1) (cn,0)=sb[x-1] by rw [Eg,D5 hx1];rfl,show sb.getD x (cn,0)=sb[x] by rw [Eg,D5 hx];rfl,ER (by omega:0<x)] at hdb
        cases hse:gq (sb[x-1]).1 (sb[x]).1 with
        | true=>
          rw [hse] at hdb
          repeat first|refine ci rfl rfl rfl (F.sz _ rfl) (by assumption) (by rfl) (by rfl) ?_|refine bq (aI (F.ag _ rfl) rfl (by assumption) (aE (bC hp (.slu ra 0 sb.length) sl 0))) rfl rfl rfl ?_|refine an (q:=x-1) rfl rfl rfl rfl (F.un _ rfl) (F.sz _ rfl) (by assumption) (by omega) (by(omega)) (Em _) ?_|refine an (q:=x) rfl rfl rfl rfl (F.un _ rfl) (F.sz _ rfl) (by assumption) (by omega) (by(omega)) (Em _) ?_|refine fW (us:=fB (sb[x-1]).1) rfl rfl rfl (F.ag _ rfl) o4 hf1 rfl (by omega) ?_|refine fW (us:=fB (sb[x]).1) rfl rfl rfl (F.ag _ rfl) o4 hf2 rfl (by omega) ?_|apply dn;rfl;rfl;exact(fun _ h=>by cases h);exact(pf (a:=(sb[x-1]).1) (b:=(sb[x]).1) hse rfl rfl)|apply aA;rfl|refine bq (ak rfl rfl (.inr (.inl ⟨rfl,(D3 _ ⟨(by focus(omega)),(by focus(omega))⟩).symm⟩))) rfl rfl rfl ?_
          refine ay ⟨by kernel_rfl,?_,?_⟩;(focus(repeat(first|exact Gc|apply mh;rfl|apply l5;rfl;kernel_rfl|refine⟨.inr ⟨0,by kernel_rfl,AllH.all (fun _=>(by(exact ak rfl rfl (.inr (.inl ⟨rfl,(D3 _ ⟨by omega,by omega⟩).symm⟩))))) _⟩,?_⟩|refine jC 1 rfl (by kernel_rfl) (by(repeat(refine⟨(by(exact aI (F.ag _ rfl) rfl (by assumption) (aE rfl))),?_⟩));exact Gc) ?_|apply xS;kernel_rfl)))
          repeat first|apply ae;rfl|apply aB;rfl;omega;omega
          exact ih _ _ _ (x+1) ⟨hx,by repeat(first|assumption|refine aa (by omega) ?_),by repeat(first|assumption|refine aa (by omega) ?_),by rw [hdb];(focus((repeat(exact ah));done)),by repeat(first|assumption|refine aa (by omega) ?_),o5.frame (by(dsimp only;omega)) fun m h1 h2 h3=>(by(repeat(refine aa (by omega) ?_));rfl),by repeat(first|assumption|refine aa (by omega) ?_),by first|omega|(dsimp only;omega),fun m hm=>by(repeat(refine aa (by omega) ?_));exact o8 m hm⟩ (by omega) (E8 (Gb rfl))
        | false=>
          rw [hse] at hdb
          repeat first|refine ci rfl rfl rfl (F.sz _ rfl) (by assumption) (by rfl) (by rfl) ?_|refine bq (aI (F.ag _ rfl) rfl (by assumption) (aE (bC hp (.slu ra 0 sb.length) sl 0))) rfl rfl rfl ?_|refine an (q:=x-1) rfl rfl rfl rfl (F.un _ rfl) (F.sz _ rfl) (by assumption) (by omega) (by(omega)) (Em _) ?_|refine an (q:=x) rfl rfl rfl rfl (F.un _ rfl) (F.sz _ rfl) (by assumption) (by omega) (by(omega)) (Em _) ?_|refine fW (us:=fB (sb[x-1]).1) rfl rfl rfl (F.ag _ rfl) o4 hf1 rfl (by omega) ?_|refine fW (us:=fB (sb[x]).1) rfl rfl rfl (F.ag _ rfl) o4 hf2 rfl (by omega) ?_|apply dn;rfl;rfl;exact(fun _ h=>by cases h);exact(pf (a:=(sb[x-1]).1) (b:=(sb[x]).1) hse rfl rfl)|apply aA;rfl|refine bq (ak rfl rfl (.inr (.inl ⟨rfl,(D3 _ ⟨(by focus(omega)),(by focus(omega))⟩).symm⟩))) rfl rfl rfl ?_
          refine ay ⟨by kernel_rfl,?_,?_⟩;(focus(repeat(first|exact Gc|apply mh;rfl|apply l5;rfl;kernel_rfl|refine⟨.inr ⟨0,by kernel_rfl,AllH.all (fun _=>(by(exact ak rfl rfl (.inr (.inl ⟨rfl,(D3 _ ⟨by omega,by omega⟩).symm⟩))))) _⟩,?_⟩|refine jC 0 rfl (by kernel_rfl) (by(repeat(refine⟨(by(exact aI (F.ag _ rfl) rfl (by repeat(first|assumption|exact ah|refine aa (by omega) ?_)) (aE rfl))),?_⟩));exact Gc) ?_|apply xS;kernel_rfl)))
          repeat first|apply ae;rfl|apply aB;rfl;omega;omega
          exact ih _ _ _ (x+1) ⟨hx,by repeat(first|assumption|refine aa (by omega) ?_),by repeat(first|assumption|refine aa (by omega) ?_),by rw [hdb];(focus((repeat(exact ah));done)),by repeat(first|assumption|refine aa (by omega) ?_),o5.frame (by(dsimp only;omega)) fun m h1 h2 h3=>(by(repeat(refine aa (by omega) ?_));rfl),by repeat(first|assumption|refine aa (by omega) ?_),by first|omega|(dsimp only;omega),fun m hm=>by(repeat(refine aa (by omega) ?_));exact o8 m hm⟩ (by omega) (E8 (Gb rfl))
       ·rw [ES (by omega: ¬ 0<x)] at hdb
        repeat first|refine ci rfl rfl rfl (F.sz _ rfl) (by assumption) (by rfl) (by rfl) ?_|apply aA;rfl|apply b8;rfl;rfl
        refine ay ⟨by kernel_rfl,?_,?_⟩;(focus(repeat(first|exact Gc|apply mh;rfl|apply Ch;rfl|apply l5;rfl;kernel_rfl|refine jC 0 rfl (by kernel_rfl) (by(repeat(refine⟨(by(exact aI (F.ag _ rfl) rfl (by repeat(first|assumption|exact ah)) (aE rfl))),?_⟩));exact Gc) ?_|apply xS;kernel_rfl)))
        repeat first|apply ae;rfl|apply aB;rfl;omega;omega
        exact ih _ _ _ (x+1) ⟨hx,by repeat(first|assumption|refine aa (by omega) ?_),by repeat(first|assumption|refine aa (by omega) ?_),by rw [hdb];(focus((repeat(exact ah));done)),by repeat(first|assumption|refine aa (by omega) ?_),o5.frame (by(dsimp only;omega)) fun m h1 h2 h3=>(by(repeat(refine aa (by omega) ?_));rfl),by repeat(first|assumption|refine aa (by omega) ?_),by first|omega|(dsimp only;omega),fun m hm=>by(repeat(refine aa (by omega) ?_));exact o8 m hm⟩ (by omega) (E8 (Gb rfl))
    ·repeat first|apply ae;rfl|apply bk;rfl|apply aR;rfl;assumption;rfl
     have hin:x=sb.length:=by omega
     subst hin
     cases hd:xZ sb sb.length with
     | true=>
       rw [hd] at o3 hM
       have hn:eL p bs i=none:=hM
       repeat apply ae;rfl
       (repeat(first|refine cv rfl rfl qf ?_|refine dp rfl rfl rfl (F.sz _ rfl) (by assumption) (aO ac _ _) (by rw [aO ac];exact Em _) (dK _ _ rfl rfl) (dI ac ac) ?_|apply ae;rfl));refine ia Tryz.func38 (congrArg Array.toList Tryz.results38) (rs:= [q0+1+1]) rfl (fun r hr=>by rw [EE.1 hr];(focus((repeat(first|assumption|refine aa (by omega) ?_));done))) (by simp) ?_;intro H8 hH8;have kz:H8.at' (nx+1+1)=some (ee 0 zeroP cC cC):=(hH8 _ (fun h=>absurd (EE.1 h) (by omega))).trans (by repeat(exact ah));refine⟨_,(by(apply E4 rfl (E6 (F.ag _ rfl) (by assumption) (gX ac _ _));(repeat(first|exact E3|apply E5 rfl)))),?_⟩;exact⟨by dsimp only;omega,fun m hm=>(hH8 _ (fun h=>absurd (EE.1 h) (by omega))).trans (by(repeat(refine aa (by omega) ?_));exact o8 m hm),.inl ⟨hn,rfl⟩⟩
     | false=>
       rw [hd] at o3 hM
       have hn:eL p bs i=some (sb,left):=hM
       repeat apply ae;rfl
       (repeat(first|refine jZ rfl rfl rfl (F.ag _ rfl) (by assumption) (aO hp _ _) ?_|refine dp rfl rfl rfl (F.sz _ rfl) (by assumption) (aO hp _ _) (by rw [aO ac];exact Em _) (dK _ _ rfl o5.one) (dI ac hp) ?_|apply ae;rfl));refine ia Tryz.func38 (congrArg Array.toList Tryz.results38) (rs:= [q0+1+1]) rfl (fun r hr=>by rw [EE.1 hr];(focus((repeat(first|assumption|refine aa (by omega) ?_));done))) (by simp) ?_;intro H8 hH8;have kz:H8.at' (nx+1+1)=some (ee N p (.slu ra 0 sb.length) sl):=(hH8 _ (fun h=>absurd (EE.1 h) (by omega))).trans (by repeat(exact ah));refine⟨_,(by(apply E4 rfl (E6 (F.ag _ rfl) (by assumption) (gX hp _ _));(repeat(first|exact E3|apply E5 rfl)))),?_⟩;refine⟨by dsimp only;omega,fun m hm=>(hH8 _ (fun h=>absurd (EE.1 h) (by omega))).trans (by(repeat(refine aa (by omega) ?_));exact o8 m hm),.inr ⟨_,left,(.slu ra 0 sb.length),sl,hn,rfl,?_,?_⟩⟩
       ·exact .inr ⟨ra,fun h=>by rw [h] at hn0;exact absurd hn0 (by decide),rfl,by omega,by dsimp only;omega,(hH8 _ (fun h=>absurd (EE.1 h) (by omega))).trans (by repeat(first|assumption|refine aa (by omega) ?_))⟩
       ·exact(o5.frame (by(dsimp only;omega)) fun m h1 h2 _=>(hH8 _ (fun h=>absurd (EE.1 h) (by omega))).trans (by(repeat(refine aa (by omega) ?_));rfl)).low (by omega)
  ·dsimp only at i1 i4 i7 i8 i9 j2 j3 j4 i12 ⊢
   have hn:eL p bs i=none:=by rw [hM,hno]
   refine gy i1 (fun h=>by cases h) ?_
   dsimp only [gM]
   repeat apply ae;rfl
   rcases j3 with ⟨rfl,rfl⟩|⟨ra,k1,rfl,k2,k3,k4⟩
   ·have hs0:=Ow.sortF_spec 0 #[] (by decide) rfl
    repeat refine aZ rfl rfl rfl (F.ag _ rfl) (by repeat(first|assumption|refine aa (by omega) ?_)) (bC hp cC sl 0) ?_
    refine l9 4 128 (d:=78) rfl rfl ?_
    (refine aL rfl rfl rfl (by kernel_rfl) (Ctr.lV (hs0) [n5] rfl ⟨by intro n hn;simp at hn;omega,by simp;try omega⟩ rfl (by repeat(first|exact Gc|refine⟨ai (by repeat(exact ah)),?_⟩)) ?_);rintro _ rfl;refine⟨_,0,[n5],[some _],rfl,(by repeat(first|exact Gc|refine⟨dw _ _ _ _ _ _,?_⟩)),rfl,rfl,?_⟩;dsimp only [wrL])
    repeat first|refine aZ rfl rfl rfl (F.ag _ rfl) (by repeat(first|assumption|refine aa (by omega) ?_)) (bC hp cC sl 0) ?_|apply ae;rfl|refine bN (bX (F.un _ rfl) rfl) rfl rfl rfl ?_
    refine br (α:=Nat) (fun x=> [(6,.ptr (nx+1+1) 0),(8,.ptr (nx+1+1+1) 0),(11,.ptr (nx+1+1+1+1+1) 0),(82,.sc (.int .i64 0)),(83,.sc (.int .i64 0))])
     (fun x H7 n7=>H7.at' (nx+1+1)=some (ee 0 zeroP cC cC)∧H7.at' (nx+1+1+1)=some (ee N p cC sl)∧H7.at' (nx+1+1+1+1+1)=some (nI true)∧IntsAt H7 sl left (q0+1+1+1+1+1) n7∧H7.at' (q0+1+1)=some (.dfd (some []))∧n5≤n7∧ ∀ m,m<nx→H7.at' m=H.at' m) (fun x=>0) 0
     ⟨by repeat(first|assumption|refine aa (by omega) ?_),by repeat(first|assumption|refine aa (by omega) ?_),by repeat(first|assumption|refine aa (by omega) ?_),j4.frame (by(omega)) fun m h1 h2 _=>(by(repeat(refine aa (by omega) ?_));rfl),by repeat(first|assumption|refine aa (by omega) ?_),by first|omega|(dsimp only;omega),fun m hm=>by(repeat(refine aa (by omega) ?_));exact i12 m hm⟩ (E8 (Gb rfl)) ?_
    clear j4 i12 i8 i9 i7 i1
    rintro x H7 n7 ⟨o1,o2,o3,o5,o6,o7,o8⟩ _
    repeat first|apply ae;rfl|apply aR;rfl;assumption;rfl|apply rX;rfl;decide
    (repeat(first|refine cv rfl rfl qf ?_|refine dp rfl rfl rfl (F.sz _ rfl) (by assumption) (aO ac _ _) (by rw [aO ac];exact Em _) (dK _ _ rfl rfl) (dI ac ac) ?_|apply ae;rfl));refine ia Tryz.func38 (congrArg Array.toList Tryz.results38) (rs:= [q0+1+1]) rfl (fun r hr=>by rw [EE.1 hr];(focus((repeat(first|assumption|refine aa (by omega) ?_));done))) (by simp) ?_;intro H8 hH8;have kz:H8.at' (nx+1+1)=some (ee 0 zeroP cC cC):=(hH8 _ (fun h=>absurd (EE.1 h) (by omega))).trans (by repeat(exact ah));refine⟨_,(by(apply E4 rfl (E6 (F.ag _ rfl) (by assumption) (gX ac _ _));(repeat(first|exact E3|apply E5 rfl)))),?_⟩;exact⟨by dsimp only;omega,fun m hm=>(hH8 _ (fun h=>absurd (EE.1 h) (by omega))).trans (by(repeat(refine aa (by omega) ?_));exact o8 m hm),.inl ⟨hn,rfl⟩⟩
   ·have hs0:=Ow.sortF_spec own.length own.toArray hl (by simp)
    refine im (R:=fun H6 n6=>n5=n6∧H6.at' (nx+1+1)=some (ee 0 zeroP cC cC)∧H6.at' (nx+1+1+1)=some (ee N p (.slu ra 0 own.length) sl)∧H6.at' (nx+1+1+1+1+1)=some (nI true)∧H6.at' ra=some (tO own)∧IntsAt H6 sl left (q0+1+1+1+1+1) n5∧H6.at' (q0+1+1)=some (.dfd (some []))∧ ∀ m,m<nx→H6.at' m=H.at' m) ⟨rfl,by repeat(first|assumption|refine aa (by omega) ?_),by repeat(first|assumption|refine aa (by omega) ?_),by repeat(first|assumption|refine aa (by omega) ?_),by repeat(first|assumption|refine aa (by omega) ?_),j4.frame (Em _) fun m h1 h2 _=>(by(repeat(refine aa (by omega) ?_));rfl),by repeat(first|assumption|refine aa (by omega) ?_),fun m hm=>by(repeat(refine aa (by omega) ?_));exact i12 m hm⟩ ?_
    clear i1 i7 i8 i9 i12 k4 j2 j4
    rintro H6 n6 ⟨rfl,b1,b2,b3,b4,b5,b6,b7⟩
    repeat refine aZ rfl rfl rfl (F.ag _ rfl) (by assumption) (bC hp (.slu ra 0 own.length) sl 0) ?_
    (refine aL rfl rfl rfl (by kernel_rfl) (Ctr.lV (hs0) [ra] rfl ⟨by intro n hn;simp at hn;omega,by simp;try omega⟩ rfl (by repeat(first|exact Gc|refine⟨ai (by assumption),?_⟩)) ?_);rintro _ rfl;refine⟨_,0,[ra],[some _],rfl,(by repeat(first|exact Gc|refine⟨dw _ _ _ _ _ _,?_⟩)),rfl,rfl,?_⟩;dsimp only [wrL])
    rw [show dat false own.length 4 128 ((Sort.sort Ow.ltP own.toArray).toList.flatMap Ow.elV)=tO (nJ own)from tv own]
    have hsl:=j6 own
    rw [← hsl] at hl b2 ⊢
    generalize nJ own=sb at hl b2 ⊢
    clear hs0 hsl k1
    repeat first|refine aZ rfl rfl rfl (F.ag _ rfl) (by repeat(first|assumption|refine aa (by omega) ?_)) (bC hp (.slu ra 0 sb.length) sl 0) ?_|apply ae;rfl
    refine br (α:=Nat) (fun x=> [(6,.ptr (nx+1+1) 0),(8,.ptr (nx+1+1+1) 0),(11,.ptr (nx+1+1+1+1+1) 0),(82,.sc (.int .i64 (sb.length:Int))),(83,.sc (.int .i64 (x:Int)))])
     (fun x H7 n7=>x≤sb.length∧H7.at' (nx+1+1)=some (ee 0 zeroP cC cC)∧H7.at' (nx+1+1+1)=some (ee N p (.slu ra 0 sb.length) sl)∧H7.at' (nx+1+1+1+1+1)=some (nI true)∧H7.at' ra=some (tO sb)∧IntsAt H7 sl left (q0+1+1+1+1+1) n7∧H7.at' (q0+1+1)=some (.dfd (some []))∧n5≤n7∧ ∀ m,m<nx→H7.at' m=H.at' m) (fun x=>sb.length-x) 0
     ⟨En _,by repeat(first|assumption|refine aa (by omega) ?_),by repeat(first|assumption|refine aa (by omega) ?_),by repeat(first|assumption|refine aa (by omega) ?_),by repeat(exact ah),b5.frame (by(omega)) fun m h1 h2 h3=>(by have hmr:m≠ra:=(by rintro rfl;exact md (b4.symm.trans h3));(focus((repeat(refine aa (by omega) ?_));rfl))),by repeat(first|assumption|refine aa (by omega) ?_),by first|omega|(dsimp only;omega),fun m hm=>by(repeat(refine aa (by omega) ?_));exact b7 m hm⟩ (E8 (Gb rfl)) ?_
    clear b1 b2 b3 b4 b5 b6 b7
    rintro x H7 n7 ⟨o0,o1,o2,o3,o4,o5,o6,o7,o8⟩ ih
    repeat apply ae;rfl
    refine bm rfl rfl rfl rfl (fun c1=>?_) (fun c1=>?_)
    ·have hx:x<sb.length:=by omega
     have hdb:true=true:=rfl
     repeat apply ae;rfl
     (apply cR;(focus(kernel_rfl));(focus(kernel_rfl)))
     repeat first|apply lz;rfl;assumption;rfl|refine ci rfl rfl rfl (F.sz _ rfl) (by assumption) (by rfl) (by rfl) ?_|apply aA;rfl|apply b8;rfl;rfl
     refine ay ⟨by kernel_rfl,?_,?_⟩;(focus(repeat(first|exact Gc|apply mh;rfl|apply Ch;rfl|apply l5;rfl;kernel_rfl|refine jC 0 rfl (by kernel_rfl) (by(repeat(refine⟨(by(exact aI (F.ag _ rfl) rfl (by repeat(first|assumption|exact ah)) (aE rfl))),?_⟩));exact Gc) ?_)))
     repeat first|apply ae;rfl|apply aB;rfl;omega;omega
     exact ih _ _ _ (x+1) ⟨hx,by repeat(first|assumption|refine aa (by omega) ?_),by repeat(first|assumption|refine aa (by omega) ?_),by repeat(exact ah),by repeat(first|assumption|refine aa (by omega) ?_),o5.frame (by(dsimp only;omega)) fun m h1 h2 h3=>(by(repeat(refine aa (by omega) ?_));rfl),by repeat(first|assumption|refine aa (by omega) ?_),by first|omega|(dsimp only;omega),fun m hm=>by(repeat(refine aa (by omega) ?_));exact o8 m hm⟩ (by omega) (E8 (Gb rfl))
    ·repeat first|refine aZ rfl rfl rfl (F.ag _ rfl) o3 rfl ?_|apply ae;rfl
     (repeat(first|refine cv rfl rfl qf ?_|refine dp rfl rfl rfl (F.sz _ rfl) (by assumption) (aO ac _ _) (by rw [aO ac];exact Em _) (dK _ _ rfl rfl) (dI ac ac) ?_|apply ae;rfl));refine ia Tryz.func38 (congrArg Array.toList Tryz.results38) (rs:= [q0+1+1]) rfl (fun r hr=>by rw [EE.1 hr];(focus((repeat(first|assumption|refine aa (by omega) ?_));done))) (by simp) ?_;intro H8 hH8;have kz:H8.at' (nx+1+1)=some (ee 0 zeroP cC cC):=(hH8 _ (fun h=>absurd (EE.1 h) (by omega))).trans (by repeat(exact ah));refine⟨_,(by(apply E4 rfl (E6 (F.ag _ rfl) (by assumption) (gX ac _ _));(repeat(first|exact E3|apply E5 rfl)))),?_⟩;exact⟨by dsimp only;omega,fun m hm=>(hH8 _ (fun h=>absurd (EE.1 h) (by omega))).trans (by(repeat(refine aa (by omega) ?_));exact o8 m hm),.inl ⟨hn,rfl⟩⟩
def fD(own:List Ow.El)(e:a7):Option Int:=(own.find? fun o=>gq o.1 e).map (·.2)
abbrev Da(o:Option Int):SV:= .tup [.sc (.int .i64 (o.getD 0)),.sc (.bool o.isSome)]
theorem uN(o:Option Int):Free (Da o):=Free.two (Free.sc _) (Free.sc _)
theorem wt{x:Ow.El}{l:List Ow.El}(h:gq x.1 e=true):fD (x :: l) e=some x.2:=by simp [fD,h]
theorem zc{x:Ow.El}{l:List Ow.El}(h:gq x.1 e=false):fD (x :: l) e=fD l e:=by simp [fD,h]
theorem tz{N:Int}{so sl:SV}(hp:p.length=1024)(ho:OwnAt H so own lo hi)(hl:own.length≤1000)(e:a7):Fnc Tryz.prog 40 [.agg (dP N p so sl),io e] H nx (fun q=>q=(Da (fD own e),H,nx)):=by
 refine Fnc.bV (uN _) ?_
 refine E2 Tryz.func40 rfl rfl ?_
 refine a9 fun hund=>?_
 rcases ho with ⟨rfl,rfl⟩|⟨r,k1,rfl,k2,k3,k4⟩
 ·repeat first|refine aZ rfl rfl rfl (F.ag _ rfl) (by repeat(first|exact ah|refine aa (by omega) ?_)) (bC hp cC sl 0) ?_|apply ae;rfl|refine bN (bX (F.un _ rfl) rfl) rfl rfl rfl ?_
  refine br (α:=Nat) (fun x=> [(10,.sc (.int .i64 0)),(11,.sc (.int .i64 0))])
   (fun x H7 n7=>nx≤n7∧ ∀ m,m<nx→H7.at' m=H.at' m) (fun x=>0) 0
   ⟨by omega,fun m hm=>by(repeat(refine aa (by omega) ?_));rfl⟩ (E8 (Gb rfl)) ?_
  rintro x H7 n7 ⟨o1,o2⟩ _
  repeat first|apply ae;rfl|apply rX;rfl;decide
  (apply bW Tryz.func40 Tryz.results40;rfl)
  exact⟨rfl,o1,o2⟩
 ·have hlt:=hund _ _ k4
  repeat first|refine aZ rfl rfl rfl (F.ag _ rfl) (by repeat(first|exact ah|refine aa (by omega) ?_)) (bC hp (.slu r 0 own.length) sl 0) ?_|apply ae;rfl
  refine br (α:=Nat) (fun x=> [(3,.ptr (nx+1) 0),(9,.slu r 0 own.length),(10,.sc (.int .i64 (own.length:Int))),(11,.sc (.int .i64 (x:Int)))])
   (fun x H7 n7=>x≤own.length∧nx+1+1≤n7∧H7.at' (nx+1)=some (am 25 ((fB e).map .sc))∧fD (own.drop x) e=fD own e∧ ∀ m,m<nx→H7.at' m=H.at' m) (fun x=>own.length-x) 0
   ⟨En _,Em _,by repeat(exact ah),rfl,fun m hm=>by(repeat(refine aa (by omega) ?_));rfl⟩ (E8 (Gb rfl)) ?_
  rintro x H7 n7 ⟨o0,o1,o2,o3,o4⟩ ih
  have o5:=(o4 r hlt).trans k4
  repeat apply ae;rfl
  refine bm rfl rfl rfl rfl (fun c1=>?_) (fun c1=>?_)
  ·have hx:x<own.length:=by omega
   have hf:=dW (f:=Ow.elV) (fun _=>rfl) own x 0 4 hx (by decide)
   rw [List.drop_eq_getElem_cons hx] at o3
   repeat first|refine cQ (q:=x) rfl rfl rfl rfl (F.un _ rfl) (F.sz _ rfl) (by exact o5) rfl hx (Em _) ?_|refine cP (us:=Ow.elV own[x]) rfl rfl rfl (F.ag _ rfl) (by exact o5) hf rfl (by omega) ?_|refine dO rfl rfl rfl (F.ag _ rfl) (by repeat(first|assumption|exact ah|refine aa (by omega) ?_)) (aH 3 0 rfl rfl) ?_|apply ae;rfl|apply aR;rfl;(focus((repeat(exact ah));done));rfl
   cases he:gq (own[x]).1 e with
   | true=>
     rw [wt he] at o3
     refine wg (a:=(own[x]).1) (b:=e) rfl rfl he rfl rfl ?_
     repeat first|apply ae;rfl|apply aR;rfl;(focus((repeat(exact ah));done));rfl
     (apply bW Tryz.func40 Tryz.results40;rfl)
     exact⟨by rw [← o3];rfl,by dsimp only;omega,fun m hm=>by(repeat(refine aa (by omega) ?_));exact o4 m hm⟩
   | false=>
     rw [zc he] at o3
     refine wg (a:=(own[x]).1) (b:=e) rfl rfl he rfl rfl ?_
     repeat first|apply ae;rfl|apply aB;rfl;omega;omega
     exact ih _ _ _ (x+1) ⟨hx,by first|omega|(dsimp only;omega),by repeat(first|assumption|refine aa (by omega) ?_),o3,fun m hm=>by(repeat(refine aa (by omega) ?_));exact o4 m hm⟩ (by omega) (E8 (Gb rfl))
  ·repeat apply ae;rfl
   obtain rfl:x=own.length:=by omega
   rw [List.drop_length] at o3
   (apply bW Tryz.func40 Tryz.results40;rfl)
   exact⟨by rw [← o3];rfl,by first|omega|(dsimp only;omega),o4⟩
def bn(e:a7):List UInt8:= [UInt8.ofNat e.2.1.toNat,UInt8.ofNat e.2.2.toNat] ++ e.1.data.toList
theorem gU:fk e=true↔(1≤e.1.size∧e.1.size≤32)∧32≤e.2.1∧e.2.1<128∧0≤e.2.2∧e.2.2≤255:=decide_eq_true_iff
theorem fM(e:a7):(bn e).length=e.1.size+2:=by
 show e.1.data.toList.length+2=_
 rfl
theorem sY(e:a7)(hm:fk e=true):Fnc Tryz.prog 9 [io e] H nx (fun q=> ∃ r,q.1 = .tup [.slu r 0 (bn e).length,.sc (.int .i64 0)]∧q.2.1.at' r=some (u8R false (byV (bn e)))∧nx≤r∧r<q.2.2∧ ∀ m,m<nx→q.2.1.at' m=H.at' m):=by
 obtain⟨⟨h1,h2⟩,h3,h4,h5,h6⟩:=gU.1 hm
 have w1:IntKind.u8.wrap e.2.1=((UInt8.ofNat e.2.1.toNat).toNat:Int):=by rw [← v7,Int.toNat_of_nonneg (by omega)]
 have w2:IntKind.u8.wrap e.2.2=((UInt8.ofNat e.2.2.toNat).toNat:Int):=by rw [← v7,Int.toNat_of_nonneg (by omega)]
 refine E2 Tryz.func9 rfl rfl ?_
 have hmf:=fun(H:aw) (nx:Nat)=>sJ e (H:=H) (nx:=nx)
 rw [hm] at hmf
 repeat first|apply cH;rfl;kernel_rfl;exact hmf _ _|refine bN (cG (F.un _ rfl) (F.un _ rfl) rfl w1) rfl rfl rfl ?_|refine bN (cG (F.un _ rfl) (F.un _ rfl) rfl w2) rfl rfl rfl ?_|refine eR (sC (F.un _ rfl) (F.un _ rfl) (F.un _ rfl) rfl (by focus(omega))) rfl rfl rfl ?_|apply ae;rfl|apply aR;rfl;(focus((repeat(first|exact ah|refine aa (by omega) ?_));done));rfl|refine eR (aU (F.un _ rfl) (F.sz _ rfl) (aN rfl) (F.ze _ rfl) rfl rfl rfl rfl rfl) rfl rfl rfl ?_
 have hA:BsIs ((((H.set nx (am 25 ((fB e).map .sc))).set (nx+1) (fA false 2 1 5 ((byV [UInt8.ofNat e.2.1.toNat,UInt8.ofNat e.2.2.toNat]).map .sc))).set (nx+1+1) (dat false e.1.size 1 5 (u8L e.1))).set (nx+1+1+1) (bsR false [.slu (nx+1) 0 2,.slu (nx+1+1) 0 e.1.size])) (.slu (nx+1) 0 2) (byV [UInt8.ofNat e.2.1.toNat,UInt8.ofNat e.2.2.toNat]):=
  rK (ro:=false) (n:=2) (Eq.trans (b:=some (fA false 2 1 5 ((byV [UInt8.ofNat e.2.1.toNat,UInt8.ofNat e.2.2.toNat]).map .sc))) (by repeat(first|exact ah|refine aa (by omega) ?_)) (congrArg some (bU _ _ _ _ _))) rfl
 have hB:BsIs ((((H.set nx (am 25 ((fB e).map .sc))).set (nx+1) (fA false 2 1 5 ((byV [UInt8.ofNat e.2.1.toNat,UInt8.ofNat e.2.2.toNat]).map .sc))).set (nx+1+1) (dat false e.1.size 1 5 (u8L e.1))).set (nx+1+1+1) (bsR false [.slu (nx+1) 0 2,.slu (nx+1+1) 0 e.1.size])) (.slu (nx+1+1) 0 e.1.size) (u8L e.1):=
  rK (ro:=false) (by repeat(first|exact ah|refine aa (by omega) ?_)) rfl
 have hfl: [byV [UInt8.ofNat e.2.1.toNat,UInt8.ofNat e.2.2.toNat],u8L e.1].flatten=byV (bn e):=by
  show byV [UInt8.ofNat e.2.1.toNat,UInt8.ofNat e.2.2.toNat] ++ (u8L e.1 ++ [])=_
  rw [EM]
  rfl
 have hle:=fM e
 refine aL rfl rfl rfl (by kernel_rfl) (E1 (xq (r:=nx+1+1+1) (ro:=false) (ls:= [.slu (nx+1) 0 2,.slu (nx+1+1) 0 e.1.size]) (au _ _ _) (LsIs.cons hA (LsIs.cons hB (LsIs.nil _))) (by rw [hfl,fu];omega) (D7 rfl)) ?_)
 rintro _ rfl
 dsimp only
 rw [hfl,fu]
 repeat apply ae;rfl
 (apply bW Tryz.func9 Tryz.results9;rfl)
 exact⟨nx+1+1+1+1,rfl,by repeat(exact ah),by omega,Nat.lt_succ_self _,fun m hm=>by(repeat(refine aa (by omega) ?_));rfl⟩
theorem od{p:List UInt8}: ∀ {j:Nat} {u:List Bool} {l:List Bn.El},ch p j=some (u,l)→ ∀ x∈l,∃ k:Nat,1≤k∧k<28∧x.1=((4+k:Nat):Int)
 | 0,u,l,h=>by
   unfold ch at h
   cases h
   intro x hx
   exact absurd hx (by simp)
 | j+1,u,l,h=>by
   unfold ch at h
   cases hr:ch p j with
   | none=>rw [hr] at h;cases h
   | some x=>
     obtain⟨u0,l0⟩:=x
     have h1:=od hr
     rw [hr] at h
     simp only at h
     split at h
     ·cases h;exact h1
     ·cases hb:jr u0 (cd p j)with
      | none=>rw [hb] at h;cases h
      | some y=>
        obtain⟨k,e⟩:=y
        rw [hb] at h
        simp only [D2,Ea] at h
        obtain⟨rfl,rfl⟩:=h
        obtain⟨k1,k2,_⟩:=pW hb
        intro x hx
        rcases List.mem_append.1 hx with hx|hx
        ·exact h1 x hx
        ·rw [EE.1 hx]
         exact⟨k,k1,k2,by show(4:Int)+(k:Int)=_;omega⟩
theorem iB(h:gr p=some bs):0<bs.length∧bs.length≤28∧ ∀ x∈bs,∃ k:Nat,1≤k∧k<28∧x.1=((4+k:Nat):Int):=by
 unfold gr at h
 split at h
 ·cases hr:ch p (aj p)with
  | none=>rw [hr] at h;cases h
  | some y=>
    obtain⟨u,l⟩:=y
    rw [hr] at h
    simp only at h
    split at h
    ·rename_i hok
     cases h
     refine⟨?_,by rw [mb];exact qx hr,fun x hx=>od hr x ((kX l).1.mem_iff.1 hx)⟩
     cases hs:lW l with
     | nil=>rw [hs] at hok;exact absurd hok (by decide)
     | cons a s=>simp
    ·cases h
 ·cases h
def lk(bs:List Bn.El)(i:Nat):Nat:=(bs.getD i (0,cn)).1.toNat-4
def kH(mem:List UInt8)(bs:List Bn.El)(W:a7→Bool):Nat→Option (List a7)
 | 0=>some []
 | i+1=>match kH mem bs W i with
   | none=>none
   | some l=>match eL (aQ mem (lk bs i)) bs i with
     | none=>none
     | some (own,_)=>some (l ++ (own.map (·.1)).filter W)
def rv(mem:List UInt8)(W:a7→Bool):Option (List a7):=match gr (aQ mem 0)with
 | none=>none
 | some bs=>kH mem bs W bs.length
theorem vu{W:a7→Bool}(h:kH mem bs W i=none): ∀ {k:Nat},i≤k→kH mem bs W k=none:=by
 intro k hk
 induction k with
 | zero=>rw [Nat.le_zero.1 hk] at h;exact h
 | succ k ih=>
   rcases EB k i with h1|h1
   ·rw [show k+1=i by omega];exact h
   ·show(match kH mem bs W k with|none=>none|some l=>_)=none
    rw [ih h1]
abbrev AU(l:List a7):VO:=dat false l.length 3 25 (l.flatMap fB)
def EnAt(H:aw)(s:SV)(l:List a7)(lo hi:Nat):Prop:=(l= []∧s=cC)∨ ∃ r,l≠ []∧s = .slu r 0 l.length∧lo≤r∧r<hi∧H.at' r=some (AU l)
theorem EnAt.frame{H':aw}{l:List a7}{hi':Nat}(h:EnAt H s l lo hi)(hh:hi≤hi')(hf: ∀ m,lo≤m→m<hi→H.at' m=some (AU l)→H'.at' m=H.at' m):EnAt H' s l lo hi':=by
 rcases h with h|⟨r,h1,h2,h3,h4,h5⟩
 ·exact .inl h
 ·exact .inr ⟨r,h1,h2,h3,by omega,(hf r h3 h4 h5).trans h5⟩
theorem EnAt.low{l:List a7}{lo':Nat}(h:EnAt H s l lo hi)(hl:lo'≤lo):EnAt H s l lo' hi:=by
 rcases h with h|⟨r,h1,h2,h3,h4,h5⟩
 ·exact .inl h
 ·exact .inr ⟨r,h1,h2,by omega,h4,h5⟩
theorem recE:RecOf fB 3:=⟨fun _=>rfl,fun a v hv=>by
 simp only [fB,EN,List.not_mem_nil,or_false] at hv
 rcases hv with rfl|rfl|rfl <;> rfl⟩
theorem zy{a:List Ow.El}{b:List a7}(h:some (tO a)=some (AU b)):False:=by
 have h:=Option.some.inj h
 unfold tO AU Ow.rowP arr dat at h
 injection h with _ _ h
 exact absurd h (by decide)
theorem kw{left:List Int}(h:eL p bs i=some (own,left)):own.length+left.length≤aj p:=by
 unfold eL at h
 split at h
 ·cases hr:cU p bs i (aj p)with
  | none=>rw [hr] at h;cases h
  | some y=>
    obtain⟨o,l⟩:=y
    rw [hr] at h
    simp only at h
    split at h
    ·cases h
    ·cases h
     rw [j6]
     exact gF hr
 ·cases h
theorem gY(hp:p.length=1024){left:List Int}(h:eL p bs i=some (own,left)):aj p≤252:=by
 unfold eL at h
 split at h
 ·rename_i h1
  have:=(eY hp h1.1).2
  omega
 ·cases h
theorem kG{b c:Nat}{left:Int}{g:FuncId}{caps:List SV}{W:a7→Bool}(hb:PgAt H b mem left c)(hm:mem.length=28672)(hg:bB Tryz.prog g=true)
 (hW: ∀ e H' nx',nx≤nx'→(∀ m,m<nx→H'.at' m=H.at' m)→Fnc Tryz.prog g (io e :: caps) H' nx' (fun q=>q=(.sc (.bool (W e)),H',nx'))):Fnc Tryz.prog 46 [nY b,.fn (.func g) [] caps] H nx
 (fun q=>nx≤q.2.2∧(∀ m,m<nx→q.2.1.at' m=H.at' m)∧((rv mem W=none∧q.1 = .tup [cC,.sc (.int .i64 13)])∨ ∃ l s,rv mem W=some l∧q.1 = .tup [s,.sc (.int .i64 0)]∧EnAt q.2.1 s l nx q.2.2)):=by
 refine E2 Tryz.func46 rfl rfl ?_
 refine a9 fun hund=>?_
 repeat apply ae;rfl
 refine aL rfl rfl rfl (by kernel_rfl) (E1 (lm hb hm) ?_)
 rintro⟨v,H1,n1⟩ ⟨q1,q2,(⟨hn,rfl⟩|⟨bs,r,hbs,rfl,r1,r2,r3⟩)⟩
 ·dsimp only at q1 q2 ⊢
  repeat first|refine eR (aW dN) rfl rfl rfl ?_|apply cx ac ac;rfl;(focus((repeat(exact ah));done))|apply ae;rfl|apply tp;rfl;decide
  (apply bW Tryz.func46 Tryz.results46;rfl)
  exact⟨by first|omega|(dsimp only;omega),fun m hm=>by(repeat(refine aa (by omega) ?_));exact q2 m hm,.inl ⟨by unfold rv;rw [hn],rfl⟩⟩
 dsimp only at q1 q2 r1 r2 r3 ⊢
 obtain⟨hb0,hb28,hbm⟩:=iB hbs
 have hM:rv mem W=kH mem bs W bs.length:=by unfold rv;rw [hbs]
 have hp0:=dB hm (n:=0) (by decide)
 repeat first|refine eR (aW dN) rfl rfl rfl ?_|apply cx hp0 ac;rfl;(focus((repeat(exact ah));done))|apply ae;rfl|apply ig;rfl;rfl
 refine br (α:=Nat×SV) (fun x=> [(0,nY b),(1,.fn (.func g) [] caps),(7,.slu r 0 bs.length),(9,x.2),(25,.sc (.int .i64 (bs.length:Int))),(26,.sc (.int .i64 (x.1:Int)))])
  (fun x H7 n7=>x.1≤bs.length∧n1≤n7∧H7.at' r=some (nS bs)∧(∃ l,kH mem bs W x.1=some l∧l.length≤300*x.1∧EnAt H7 x.2 l n1 n7)∧ ∀ m,m<nx→H7.at' m=H.at' m) (fun x=>bs.length-x.1) (0,cC)
  ⟨En _,by first|omega|(dsimp only;omega),by(repeat(refine aa (by omega) ?_));exact r3,⟨[],rfl,Em _,.inl ⟨rfl,rfl⟩⟩,fun m hm=>by(repeat(refine aa (by omega) ?_));exact q2 m hm⟩ (E8 (Gb rfl)) ?_
 rintro⟨i,s⟩ H7 n7 ⟨o0,o1,o2,⟨l,o3,o4,o5⟩,o6⟩ ih
 dsimp only at o0 o1 o2 o3 o4 o5 o6 ih ⊢
 repeat apply ae;rfl
 refine bm rfl rfl rfl rfl (fun c1=>?_) (fun c1=>?_)
 ·have hi:i<bs.length:=by omega
  obtain⟨k,hk1,hk2,hk3⟩:=hbm _ (Ex hi)
  have hlk:lk bs i=k:=by unfold lk;rw [Eg,D5 hi];show(bs[i].1).toNat-4=k;rw [hk3];omega
  have e1:kH mem bs W (i+1)=(match eL (aQ mem k) bs i with|none=>none|some (own,_)=>some (l ++ (own.map (·.1)).filter W)):=by
   show(match kH mem bs W i with|none=>none|some l=>_)=_
   rw [o3,hlk]
  repeat apply ae;rfl
  refine aL rfl rfl rfl (by kernel_rfl) (E1 (ln (k:=k) (e0:=bs[i].2) (hb.frame hund (fun m hm=>by exact o6 m hm)) hm (by exact o2) hi (Prod.ext hk3 rfl) hk2 (by omega)) ?_)
  rintro⟨v,H8,n8⟩ ⟨p1,p2,(⟨hn,rfl⟩|⟨own,left,so,sl,hown,rfl,w1,w2⟩)⟩
  ·dsimp only at p1 p2 ⊢
   repeat first|refine eR (aW nU) rfl rfl rfl ?_|refine dp rfl rfl rfl (F.sz _ rfl) (by repeat(exact ah)) (aO ac _ _) (by rw [aO ac];exact Em _) (dK _ _ rfl rfl) (dI ac ac) ?_|apply ae;rfl|apply tp;rfl;decide
   (apply bW Tryz.func46 Tryz.results46;rfl)
   exact⟨by first|omega|(dsimp only;omega),fun m hm=>by(repeat(refine aa (by omega) ?_));exact(p2 m (by omega)).trans (o6 m hm),.inl ⟨by rw [hM];exact vu (i:=i+1) (by rw [e1,hn]) hi,rfl⟩⟩
  ·dsimp only at p1 p2 w1 w2 ⊢
   rw [hown] at e1
   dsimp only at e1
   have hpk:=dB hm (n:=k) hk2
   have hlo:=kw hown
   have hsk:=gY hpk hown
   rcases w1 with ⟨rfl,rfl⟩|⟨ro,k1,rfl,k2,k3,k4⟩
   ·repeat first|refine eR (aW nU) rfl rfl rfl ?_|refine dp rfl rfl rfl (F.sz _ rfl) (by repeat(exact ah)) (aO hpk _ _) (by rw [aO ac];exact Em _) (dK _ _ rfl w2.one) (dI ac hpk) ?_|refine aZ rfl rfl rfl (F.ag _ rfl) (by repeat(exact ah)) (bC hpk cC sl 0) ?_|apply ae;rfl|apply ig;rfl;rfl|refine bN (bX (F.un _ rfl) rfl) rfl rfl rfl ?_
    refine br (α:=Nat) (fun y=> [(0,nY b),(1,.fn (.func g) [] caps),(7,.slu r 0 bs.length),(9,s),(25,.sc (.int .i64 (bs.length:Int))),(26,.sc (.int .i64 (i:Int))),(41,.sc (.int .i64 0)),(42,.sc (.int .i64 0))])
     (fun y H9 n9=>n8≤n9∧H9.at' r=some (nS bs)∧EnAt H9 s l n1 n9∧ ∀ m,m<nx→H9.at' m=H.at' m) (fun y=>0) 0
     ⟨by first|omega|(dsimp only;omega),by(repeat(refine aa (by omega) ?_));exact(p2 r (by omega)).trans o2,o5.frame (by(omega)) fun m h1 h2 _=>(by(repeat(refine aa (by omega) ?_));exact p2 m (by omega)),fun m hm=>by(repeat(refine aa (by omega) ?_));exact(p2 m (by omega)).trans (o6 m hm)⟩ (E8 (Gb rfl)) ?_
    rintro y H9 n9 ⟨u1,u2,u3,u4⟩ _
    repeat first|apply ae;rfl|apply aB;rfl;omega;omega|apply rX;rfl;decide
    exact ih _ _ _ (i+1,s) ⟨hi,by first|omega|(dsimp only;omega),u2,⟨l,by rw [e1];simp,by omega,u3⟩,u4⟩ (by(omega)) (E8 (Gb rfl))
   ·have hn0:0<own.length:=List.length_pos_iff.2 k1
    repeat first|refine eR (aW nU) rfl rfl rfl ?_|refine dp rfl rfl rfl (F.sz _ rfl) (by repeat(exact ah)) (aO hpk _ _) (by rw [aO ac];exact Em _) (dK _ _ rfl w2.one) (dI ac hpk) ?_|refine aZ rfl rfl rfl (F.ag _ rfl) (by repeat(exact ah)) (bC hpk (.slu ro 0 own.length) sl 0) ?_|apply ae;rfl|apply ig;rfl;rfl
    refine br (α:=Nat×SV) (fun y=> [(0,nY b),(1,.fn (.func g) [] caps),(7,.slu r 0 bs.length),(9,y.2),(25,.sc (.int .i64 (bs.length:Int))),(26,.sc (.int .i64 (i:Int))),(40,.slu ro 0 own.length),(41,.sc (.int .i64 (own.length:Int))),(42,.sc (.int .i64 (y.1:Int)))])
     (fun y H9 n9=>y.1≤own.length∧n8≤n9∧H9.at' r=some (nS bs)∧H9.at' ro=some (tO own)∧(∃ l',l'=l ++ ((own.take y.1).map (·.1)).filter W∧l'.length≤300*i+y.1∧EnAt H9 y.2 l' n1 n9)∧ ∀ m,m<nx→H9.at' m=H.at' m) (fun y=>own.length-y.1) (0,s)
     ⟨En _,by first|omega|(dsimp only;omega),by(repeat(refine aa (by omega) ?_));exact(p2 r (by omega)).trans o2,by(repeat(refine aa (by omega) ?_));exact k4,⟨l,by simp,by omega,o5.frame (by(omega)) fun m h1 h2 _=>(by(repeat(refine aa (by omega) ?_));exact p2 m (by omega))⟩,fun m hm=>by(repeat(refine aa (by omega) ?_));exact(p2 m (by omega)).trans (o6 m hm)⟩ (E8 (Gb rfl)) ?_
    clear o2 o5 o6 p1 p2 k4 q2 r3 hown w2
    rintro⟨y,s'⟩ H9 n9 ⟨u0,u1,u2,u3,⟨l',u4,u5,u6⟩,u7⟩ ih2
    dsimp only at u0 u1 u2 u3 u4 u5 u6 u7 ih2 ⊢
    repeat apply ae;rfl
    refine bm rfl rfl rfl rfl (fun c2=>?_) (fun c2=>?_)
    ·have hy:y<own.length:=by omega
     have hf:=dW (f:=Ow.elV) (fun _=>rfl) own y 0 4 hy (by decide)
     have ht:((own.take (y+1)).map (·.1)).filter W=((own.take y).map (·.1)).filter W ++ [(own[y]).1].filter W:=by rw [List.take_succ_eq_append_getElem hy,Es,List.filter_append];rfl
     repeat first|refine cQ (q:=y) rfl rfl rfl rfl (F.un _ rfl) (F.sz _ rfl) (by exact u3) rfl hy (Em _) ?_|refine cP (us:=Ow.elV own[y]) rfl rfl rfl (F.ag _ rfl) (by exact u3) hf rfl (by omega) ?_|refine dO rfl rfl rfl (F.ag _ rfl) (by repeat(exact ah)) (aH 3 0 rfl rfl) ?_|apply ae;rfl|apply aR;rfl;(focus((repeat(exact ah));done));rfl
     refine jG rfl rfl rfl rfl hg (E1 (hW (own[y]).1 _ _ (by omega) (fun m hm=>by(repeat(refine aa (by omega) ?_));exact u7 m hm)) ?_)
     rintro _ rfl
     dsimp only
     cases hw:W (own[y]).1 with
     | false=>
       have ht:((own.take (y+1)).map (·.1)).filter W=((own.take y).map (·.1)).filter W:=by rw [ht,List.filter_cons_of_neg (by rw [hw];decide),List.filter_nil,EM]
       repeat first|apply ae;rfl|apply aB;rfl;omega;omega
       exact ih2 _ _ _ (y+1,s') ⟨hy,by first|omega|(dsimp only;omega),by(repeat(refine aa (by omega) ?_));exact u2,by(repeat(refine aa (by omega) ?_));exact u3,⟨l',by rw [ht];exact u4,by first|omega|(dsimp only;omega),u6.frame (by(omega)) fun m h1 h2 _=>(by(repeat(refine aa (by omega) ?_));rfl)⟩,fun m hm=>by(repeat(refine aa (by omega) ?_));exact u7 m hm⟩ (by(omega)) (E8 (Gb rfl))
     | true=>
       have ht:l' ++ [(own[y]).1]=l ++ ((own.take (y+1)).map (·.1)).filter W:=by rw [ht,List.filter_cons_of_pos hw,List.filter_nil,←EJ,←u4]
       rcases u6 with ⟨rfl,rfl⟩|⟨re,v1,rfl,v2,v3,v4⟩
       ·repeat first|refine dO rfl rfl rfl (F.ag _ rfl) (by repeat(exact ah)) (aH 3 0 rfl rfl) ?_|apply ae;rfl|refine eR (aU (F.un _ rfl) (F.sz _ rfl) (aN rfl) (F.ze _ rfl) rfl rfl rfl rfl rfl) rfl rfl rfl ?_
        refine gO (b:=32) (n:=1) (cs:=(fB (own[y]).1).map .sc) rfl rfl rfl rfl (F.un _ rfl) (.inl ⟨_,F.un _ rfl⟩) (F.sz _ rfl) rfl (by kernel_rfl) (by kernel_rfl) (SlOf.row (by repeat(exact ah)) rfl) rfl (by decide) (by decide) ?_
        rintro _ _ _ (⟨h,_⟩|⟨_,rfl,rfl,rfl⟩)
        ·exact absurd h (by decide)
        repeat first|apply ae;rfl|apply aB;rfl;omega;omega
        exact ih2 _ _ _ (y+1,.slu (n9+1+1) 0 1) ⟨hy,by first|omega|(dsimp only;omega),by(repeat(refine aa (by omega) ?_));exact u2,by(repeat(refine aa (by omega) ?_));exact u3,⟨[(own[y]).1],ht,by show 1≤_;omega,.inr ⟨n9+1+1,by simp,rfl,by first|omega|(dsimp only;omega),by first|omega|(dsimp only;omega),Eq.trans (b:=some (fA false 1 3 25 ((fB (own[y]).1).map .sc))) (by repeat(exact ah)) (congrArg some (bU _ _ _ _ _))⟩⟩,fun m hm=>by(repeat(refine aa (by omega) ?_));exact u7 m hm⟩ (by(omega)) (E8 (Gb rfl))
       ·have hre:ro≠re:=(by rintro rfl;exact zy (u3.symm.trans v4))
        repeat first|refine dO rfl rfl rfl (F.ag _ rfl) (by repeat(exact ah)) (aH 3 0 rfl rfl) ?_|apply ae;rfl|apply aB;rfl;omega;omega|refine eR (aU (F.un _ rfl) (F.sz _ rfl) (aN rfl) (F.ze _ rfl) rfl rfl rfl rfl rfl) rfl rfl rfl ?_|refine mw (b:=32) (xs:=l') (a:=(own[y]).1) rfl rfl rfl rfl (F.un _ rfl) (.inl ⟨_,F.un _ rfl⟩) (F.sz _ rfl) rfl (by kernel_rfl) (by kernel_rfl) (by repeat(first|assumption|refine aa (by omega) ?_)) (by repeat(exact ah)) (by rfl) (recE) (by omega) (by omega) ?_
        exact ih2 _ _ _ (y+1,.slu (n9+1+1) 0 (l' ++ [(own[y]).1]).length) ⟨hy,by first|omega|(dsimp only;omega),by(repeat(first|refine aa (by omega) ?_|refine bO (by omega) ?_));exact u2,by(repeat(first|refine aa (by omega) ?_|refine bO (by omega) ?_));exact u3,⟨l' ++ [(own[y]).1],ht,by rw [Er,List.length_singleton];omega,.inr ⟨n9+1+1,by simp,rfl,by first|omega|(dsimp only;omega),by first|omega|(dsimp only;omega),by repeat(exact ah)⟩⟩,fun m hm=>by(repeat(first|refine aa (by omega) ?_|refine bO (by omega) ?_));exact u7 m hm⟩ (by(omega)) (E8 (Gb rfl))
    ·repeat first|apply ae;rfl|apply aB;rfl;omega;omega
     obtain rfl:y=own.length:=by omega
     rw [List.take_length] at u4
     exact ih _ _ _ (i+1,s') ⟨hi,by first|omega|(dsimp only;omega),u2,⟨l',by rw [e1,u4],by omega,u6⟩,u7⟩ (by(omega)) (E8 (Gb rfl))
 ·repeat apply ae;rfl
  obtain rfl:i=bs.length:=by omega
  (apply bW Tryz.func46 Tryz.results46;rfl)
  exact⟨by first|omega|(dsimp only;omega),o6,.inr ⟨l,s,by rw [hM];exact o3,rfl,o5.low q1⟩⟩
theorem ou{a:Nat}:Fnc Tryz.prog 42 [.ptr a 0] H nx (fun q=>q=(.tup [],H,nx)):=by
 refine E2 Tryz.func42 rfl rfl ?_
 repeat first|apply ae;rfl|apply fQ;rfl;rfl|refine bN (fS rfl Tryz.underlying20) rfl rfl rfl ?_
 (apply wd Tryz.func42 Tryz.results42;rfl)
 rfl
theorem uu{a:Nat}:Fnc Tryz.prog 36 [.ptr a 0] H nx (fun q=>q=(.tup [],H,nx)):=by
 refine E2 Tryz.func36 rfl rfl ?_
 repeat first|apply ae;rfl|apply fQ;rfl;rfl|refine bN (fS rfl Tryz.underlying20) rfl rfl rfl ?_
 (apply wd Tryz.func36 Tryz.results36;rfl)
 rfl
end
structure Home (mem:List UInt8) (e:a7) (bs:List Bn.El) (k:Nat) (own:List Ow.El) (left:List Int):Prop where
 root:gr (aQ mem 0)=some bs
 num:lk bs (bG bs e)=k
 leaf:eL (aQ mem k) bs (bG bs e)=some (own,left)
theorem Home.at{mem:List UInt8}{e:a7}{bs:List Bn.El}{k:Nat}{own:List Ow.El}{left:List Int}(h:Home mem e bs k own left): ∃ hi:bG bs e<bs.length,1≤k∧k<28∧bs[bG bs e].1=((4+k:Nat):Int):=by
 obtain⟨h0,h28,hb⟩:=iB h.root
 have hi:=eW e h0
 refine⟨hi,?_⟩
 obtain⟨k',k1,k2,k3⟩:=hb _ (Ex hi)
 have hk:=h.num
 unfold lk at hk
 rw [Eg,D5 hi] at hk
 have hk:(bs[bG bs e].1).toNat-4=k:=hk
 rw [k3] at hk
 obtain rfl:k'=k:=by omega
 exact⟨k1,k2,k3⟩
theorem rL{H:aw}{m c:Nat}{t:TypeId}{l:List SV}(h:H.at' m=some (am t l)): ∀ ws,H.at' m≠some (fA false c 1025 212 ws):=fun ws h2=>by
 rw [h] at h2
 unfold am at h2
 cases h2
def eB1:a7:=(⟨#[98]⟩,40,1)
def eA0:a7:=(⟨#[97]⟩,40,0)
def eB9:a7:=(⟨#[98]⟩,39,9)
def eC0:a7:=(⟨#[99]⟩,40,0)
def root0:List UInt8:=nP (dm 2) [1]
def lp0:List UInt8:=dm 3
def lp1:List UInt8:=nP lp0 (bn eB1)
def lp2:List UInt8:=nP lp1 (bn eA0)
def lp3:List UInt8:=nP lp2 (bn eB9)
theorem t9:eX (dm 2) [1]=(root0,0,0):=by kernel_rfl
abbrev a6:Value:= .int .u8 0
abbrev js:List Value:= [.slice none 0 0,.int .i64 0,.bool false]
def yI:List Value:= [a6,a6,a6,a6,a6,a6,a6,a6,a6,a6,a6,a6,a6,a6,a6,a6,a6,a6,a6,a6,a6,a6,a6,a6,a6,a6,a6,a6,a6,a6,a6,a6,a6,a6,a6,a6,a6,a6,a6,a6,a6,a6,a6,a6,a6,a6,a6,a6,a6,a6,a6,a6,a6,a6,a6,a6]
theorem rZ:yI=List.replicate 56 a6:=rfl
def oN:List Value:=List.append yI yI
theorem oM:oN=List.replicate 112 a6:=by
 show yI ++ yI=_
 rw [rZ,EY]
def oL:List Value:=List.append oN oN
theorem oK:oL=List.replicate 224 a6:=by
 show oN ++ oN=_
 rw [oM,EY]
def oJ:List Value:=List.append oL oL
theorem oI:oJ=List.replicate 448 a6:=by
 show oL ++ oL=_
 rw [oK,EY]
def oH:List Value:=List.append oJ oJ
theorem oG:oH=List.replicate 896 a6:=by
 show oJ ++ oJ=_
 rw [oI,EY]
def jY:List Value:=List.append oH oH
theorem mn:jY=List.replicate 1792 a6:=by
 show oH ++ oH=_
 rw [oG,EY]
def jX:List Value:=List.append jY jY
theorem mm:jX=List.replicate 3584 a6:=by
 show jY ++ jY=_
 rw [mn,EY]
def vJ:List Value:=List.append jX jX
theorem vI:vJ=List.replicate 7168 a6:=by
 show jX ++ jX=_
 rw [mm,EY]
def zt57:List Value:= [a6,a6,a6,a6,a6,a6,a6,a6,a6,a6,a6,a6,a6,a6,a6,a6,a6,a6,a6,a6,a6,a6,a6,a6,a6,a6,a6,a6,a6,a6,a6,a6,a6,a6,a6,a6,a6,a6,a6,a6,a6,a6,a6,a6,a6,a6,a6,a6,a6,a6,a6,a6,a6,a6,a6,a6,a6]
theorem A6:zt57=List.replicate 57 a6:=rfl
def A9:List Value:=List.append yI zt57
theorem yL:A9=List.replicate 113 a6:=by
 show yI ++ zt57=_
 rw [rZ,A6,EY]
def A8:List Value:=List.append oN A9
theorem yK:A8=List.replicate 225 a6:=by
 show oN ++ A9=_
 rw [oM,yL,EY]
def A7:List Value:=List.append oL A8
theorem yJ:A7=List.replicate 449 a6:=by
 show oL ++ A8=_
 rw [oK,yK,EY]
def A5:List Value:=List.append oJ A7
theorem yH:A5=List.replicate 897 a6:=by
 show oJ ++ A7=_
 rw [oI,yJ,EY]
def vN:List Value:=List.append oH A5
theorem vM:vN=List.replicate 1793 a6:=by
 show oH ++ A5=_
 rw [oG,yH,EY]
def vL:List Value:=List.append jY vN
theorem vK:vL=List.replicate 3585 a6:=by
 show jY ++ vN=_
 rw [mn,vM,EY]
def qb:List Value:=List.append jX vL
theorem qa:qb=List.replicate 7169 a6:=by
 show jX ++ vL=_
 rw [mm,vK,EY]
def r5:List Value:=List.append vJ qb
theorem uC:r5=List.replicate 14337 a6:=by
 show vJ ++ qb=_
 rw [vI,qa,EY]
def zq57:List Value:= [a6,a6,a6,a6,a6,a6,a6,a6,a6,a6,a6,a6,a6,a6,a6,a6,a6,a6,a6,a6,a6,a6,a6,a6,a6,a6,a6,a6,a6,a6,a6,a6,a6,a6,a6,a6,a6,a6,a6,a6,a6,a6,a6,a6,a6,a6,a6,a6,a6,a6,a6,a6,a6,a6,Value.slice none 0 0,Value.int .i64 0,Value.bool false]
theorem Bb:zq57=List.replicate 54 a6 ++ js:=rfl
def Be:List Value:=List.append yI zq57
theorem yP:Be=List.replicate 110 a6 ++ js:=by
 show yI ++ zq57=_
 rw [rZ,Bb,←EJ,EY]
def Bd:List Value:=List.append oN Be
theorem yO:Bd=List.replicate 222 a6 ++ js:=by
 show oN ++ Be=_
 rw [oM,yP,←EJ,EY]
def Bc:List Value:=List.append oL Bd
theorem yN:Bc=List.replicate 446 a6 ++ js:=by
 show oL ++ Bd=_
 rw [oK,yO,←EJ,EY]
def Ba:List Value:=List.append oJ Bc
theorem yM:Ba=List.replicate 894 a6 ++ js:=by
 show oJ ++ Bc=_
 rw [oI,yN,←EJ,EY]
def vT:List Value:=List.append oH Ba
theorem vS:vT=List.replicate 1790 a6 ++ js:=by
 show oH ++ Ba=_
 rw [oG,yM,←EJ,EY]
def vR:List Value:=List.append jY vT
theorem vQ:vR=List.replicate 3582 a6 ++ js:=by
 show jY ++ vT=_
 rw [mn,vS,←EJ,EY]
def vP:List Value:=List.append jX vR
theorem vO:vP=List.replicate 7166 a6 ++ js:=by
 show jX ++ vR=_
 rw [mm,vQ,←EJ,EY]
def r6:List Value:=List.append qb vP
theorem uE:r6=List.replicate 14335 a6 ++ js:=by
 show qb ++ vP=_
 rw [qa,vO,←EJ,EY]
def zq28675:List Value:=List.append r5 r6
theorem uD:zq28675=List.replicate 28672 a6 ++ js:=by
 show r5 ++ r6=_
 rw [uC,uE,←EJ,EY]
theorem CX:dY Tryz.prog 53=some (.agg (List.toArray zq28675)):=by kernel_rfl
abbrev zeroM:List UInt8:=List.replicate 28672 0
theorem iq:zeroM.length=28672:=EL
theorem yQ:zq28675.map SV.sc=nN zeroM cC 0 false:=by
 rw [uD,Es,List.map_replicate]
 show _=(byV (List.replicate 28672 0)).map SV.sc ++ _
 rw [show byV (List.replicate 28672 (0:UInt8))=List.replicate 28672 a6 from List.map_replicate,List.map_replicate]
 rfl
theorem BA:AG Tryz.prog 53=some [(0,28672),(28672,1),(28673,1),(28674,1)]:=by kernel_rfl
theorem zV:hJ (fun i=>([(0,28672),(28672,1),(28673,1),(28674,1)]:List (Nat×Nat))[i]?) ((Value.agg (List.toArray zq28675)).cells.toList.map .sc) [(2,.sc (.int .i64 (-1)))]=some (nN zeroM cC (-1) false):=by
 have e:(Value.agg (List.toArray zq28675)).cells.toList.map SV.sc=nN zeroM cC 0 false:=(congrArg (List.map SV.sc) (List.toList_toArray ..)).trans yQ
 have h1:=iS iq
 have hl:=jK iq cC 0 false
 rw [e,mg (vc:= [.sc (.int .i64 (-1))]) (size:=1) (off:=28673) rfl rfl rfl (by rw [hl];exact D7 rfl)]
 clear e hl
 unfold nN
 generalize (byV zeroM).map SV.sc=A at h1 ⊢
 rw [List.take_append,Ed (by omega),List.drop_append,List.drop_of_length_le (by omega),h1]
 simp
structure Okp (p:List UInt8):Prop where
 len:p.length=1024
 head:18+4*aj p≤aM p
 top:aM p≤1024
 last:0<aj p→aG p (aj p-1)≠0
 slot: ∀ j,j<aj p→(aY p j=0∧aG p j=0)∨(1≤aG p j∧aG p j≤1000∧aM p≤aY p j∧aY p j+aG p j≤1024)
 apart: ∀ i j,i<j→j<aj p→aG p i≠0→aG p j≠0→aY p i+aG p i≤aY p j∨aY p j+aG p j≤aY p i
section
variable {p:List UInt8}
theorem gH{seen:List (Nat×Nat)}{i:Nat}:cu seen i=true↔ ∃ x∈seen,x.1≤i∧i<x.1+x.2:=by
 simp [cu,List.any_eq_true]
theorem qO{seen:List (Nat×Nat)}{a s:Nat}(h0:1≤s)(hs: ∀ x∈seen,1≤x.2):sI seen a s=true↔ ∃ x∈seen,x.1<a+s∧a<x.1+x.2:=by
 constructor
 ·intro h
  obtain⟨j,hj,hc⟩:=List.any_eq_true.1 h
  obtain⟨x,hx,h1⟩:=gH.1 hc
  have:=EU.1 hj
  exact⟨x,hx,by omega,by omega⟩
 ·rintro⟨x,hx,h1,h2⟩
  have:=hs x hx
  rcases EB a x.1 with h3|h3
  ·exact kq (i:=x.1) (by omega) (by omega) (gH.2 ⟨x,hx,by omega,by omega⟩)
  ·exact kq (i:=a) (by omega) (by omega) (gH.2 ⟨x,hx,by omega,by omega⟩)
def gA(p:List UInt8):Nat→List (Nat×Nat)
 | 0=> []
 | n+1=>if aG p n=0 then gA p n else(aY p n,aG p n) :: gA p n
theorem fT{p:List UInt8}{x:Nat×Nat}: ∀ {n:Nat},x∈gA p n↔ ∃ i,i<n∧aG p i≠0∧x=(aY p i,aG p i)
 | 0=>by simp [gA]
 | n+1=>by
   unfold gA
   split
   ·rename_i h
    rw [fT]
    constructor
    ·rintro⟨i,h1,h2⟩
     exact⟨i,by omega,h2⟩
    ·rintro⟨i,h1,h2,h3⟩
     rcases EB i n with h4|h4
     ·exact⟨i,h4,h2,h3⟩
     ·obtain rfl:i=n:=by omega
      exact absurd h h2
   ·rename_i h
    rw [EN,fT]
    constructor
    ·rintro(h1|⟨i,h1,h2⟩)
     ·exact⟨n,by omega,h,h1⟩
     ·exact⟨i,by omega,h2⟩
    ·rintro⟨i,h1,h2,h3⟩
     rcases EB i n with h4|h4
     ·exact .inr ⟨i,h4,h2,h3⟩
     ·obtain rfl:i=n:=by omega
      exact .inl h3
def tw(p:List UInt8)(j:Nat):Prop:=(aY p j=0∧aG p j=0)∨((1≤aG p j∧aG p j≤1000∧aM p≤aY p j∧aY p j+aG p j≤1024)∧ ∀ i,i<j→aG p i≠0→aY p i+aG p i≤aY p j∨aY p j+aG p j≤aY p i)
theorem jJ(p:List UInt8): ∀ (k n:Nat) (fine:Bool),eF p k n (gA p n) fine=true↔((∀ j,n≤j→j<n+k→tw p j)∧(if k=0 then fine=true else aG p (n+k-1)≠0∨n+k<aj p))
 | 0,n,fine=>by
   rw [Ez rfl]
   exact⟨fun h=>⟨fun j h1 h2=>absurd h1 (by omega),h⟩,fun h=>h.2⟩
 | k+1,n,fine=>by
   rw [Ey (Nat.succ_ne_zero k)]
   have hsz: ∀ x∈gA p n,1≤x.2:=fun x hx=>by
    obtain⟨i,_,h2,rfl⟩:=fT.1 hx
    exact Nat.pos_of_ne_zero h2
   have hall: ∀ {A:Prop},(tw p n)→(((∀ j,n≤j→j<n+(k+1)→tw p j)∧A)↔((∀ j,n+1≤j→j<n+1+k→tw p j)∧A)):=fun h=>
    ⟨fun g=>⟨fun j h1 h2=>g.1 j (by omega) (by omega),g.2⟩,fun g=>⟨fun j h1 h2=>by
      rcases EB n j with h3|h3
      ·exact g.1 j (by omega) (by omega)
      ·obtain rfl:n=j:=by omega
       exact h,g.2⟩⟩
   have hend: ∀ {b:Bool},(b=true↔aG p n≠0∨n+1<aj p)→((if k=0 then b=true else aG p (n+1+k-1)≠0∨n+1+k<aj p)↔(aG p (n+(k+1)-1)≠0∨n+(k+1)<aj p)):=fun {b} hb=>by
    by_cases hk:k=0
    ·subst hk
     rw [Ez rfl]
     exact hb
    ·rw [Ey hk,show n+1+k=n+(k+1) by omega]
   unfold eF
   split
   ·rename_i h
    have hs:gA p (n+1)=gA p n:=by show(if aG p n=0 then _ else _)=_;rw [Ez h.2]
    rw [← hs,jJ p k (n+1),hall (.inl h),hend]
    rw [EZ]
    constructor
    ·exact .inr
    ·rintro(h1|h1)
     ·exact absurd h.2 h1
     ·exact h1
   ·rename_i h
    split
    ·rename_i h1
     constructor
     ·intro h2;cases h2
     ·rintro⟨h2,_⟩
      rcases h2 n (Em _) (by omega)with h3|⟨h3,_⟩
      ·exact absurd h3 h
      ·omega
    ·rename_i h1
     split
     ·rename_i h2
      constructor
      ·intro h2;cases h2
      ·rintro⟨h3,_⟩
       obtain⟨x,hx,h4⟩:=(qO (by omega) hsz).1 h2
       obtain⟨i,h5,h6,rfl⟩:=fT.1 hx
       rcases h3 n (Em _) (by omega)with h7|⟨_,h7⟩
       ·exact absurd h7 h
       ·have:=h7 i h5 h6
        dsimp only at h4
        omega
     ·rename_i h2
      have hs:gA p (n+1)=(aY p n,aG p n) :: gA p n:=by show(if aG p n=0 then _ else _)=_;rw [Ey (by omega)]
      rw [← hs,jJ p k (n+1),hall (.inr ⟨by omega,fun i hi hz=>?_⟩),hend]
      ·exact⟨fun _=> .inl (by omega),fun _=>rfl⟩
      ·rcases EB (aY p n) (aY p i+aG p i)with h3|h3
       ·rcases EB (aY p i) (aY p n+aG p n)with h4|h4
        ·exact absurd ((qO (by omega) hsz).2 ⟨_,fT.2 ⟨i,hi,hz,rfl⟩,h4,h3⟩) h2
        ·exact .inr h4
       ·exact .inl h3
theorem df(hp:p.length=1024):cr p=true↔Okp p:=by
 unfold cr
 have hg:=jJ p (aj p) 0 true
 rw [show gA p 0= [] from rfl] at hg
 rw [Ek,EZ,hg]
 constructor
 ·rintro⟨⟨h1,h2⟩,h3,h4⟩
  refine⟨hp,h1,h2,fun h=>?_,fun j hj=>?_,fun i j hi hj hzi hzj=>?_⟩
  ·rw [Ey (by omega),EA] at h4
   rcases h4 with h4|h4
   ·exact h4
   ·exact absurd h4 (Nat.lt_irrefl _)
  ·rcases h3 j (En _) (by omega)with h5|h5
   ·exact .inl h5
   ·exact .inr h5.1
  ·rcases h3 j (En _) (by omega)with h5|h5
   ·exact absurd h5.2 hzj
   ·exact h5.2 i hi hzi
 ·intro h
  refine⟨⟨h.head,h.top⟩,fun j _ hj=>?_,?_⟩
  ·rcases h.slot j (by omega)with h5|h5
   ·exact .inl h5
   ·exact .inr ⟨h5,fun i hi hz=>h.apart i j hi (by omega) hz (by omega)⟩
  ·split
   ·rfl
   ·exact .inl (by rw [EA];exact h.last (by omega))
theorem rE{P Q:Nat→Bool}: ∀ (l:List Nat),(∀ i∈l,P i=true→Q i=true→False)→l.countP (fun i=>P i || Q i)=l.countP P+l.countP Q
 | [],_=>rfl
 | a :: l,h=>by
   have ih:=rE l fun i hi=>h i (EH _ hi)
   have ha:=h a EG
   rw [List.countP_cons,List.countP_cons,List.countP_cons,ih]
   cases hP:P a <;> cases hQ:Q a
   ·simp
   ·simp;omega
   ·simp;omega
   ·exact absurd hQ (fun h2=>ha hP h2)
theorem lA(a s:Nat): ∀ n,(List.range n).countP (fun i=>decide (a≤i∧i<a+s))=min n (a+s)-min n a
 | 0=>by simp
 | n+1=>by
   rw [List.range_succ,List.countP_append,lA a s n,List.countP_cons,List.countP_nil]
   by_cases h:a≤n∧n<a+s
   ·rw [Ez (by rw [ER h])];omega
   ·rw [Ey (by rw [ES h];decide)];omega
def cg(p:List UInt8):Nat→Nat
 | 0=>0
 | n+1=>cg p n+aG p n
theorem Okp.count(h:Okp p): ∀ n,n≤aj p→(List.range 1024).countP (cu (gA p n))=cg p n
 | 0,_=>by
   show(List.range 1024).countP (cu [])=0
   rw [List.countP_eq_zero]
   intro a _
   simp [cu]
 | n+1,hn=>by
   have ih:=h.count n (by omega)
   by_cases hz:aG p n=0
   ·have hs:gA p (n+1)=gA p n:=by show(if aG p n=0 then _ else _)=_;rw [Ez hz]
    rw [hs,ih]
    show _=cg p n+aG p n
    omega
   ·have hs:gA p (n+1)=(aY p n,aG p n) :: gA p n:=by show(if aG p n=0 then _ else _)=_;rw [Ey hz]
    have hsl:=h.slot n (by omega)
    rw [hs,show cu ((aY p n,aG p n) :: gA p n)=fun i=>decide (aY p n≤i∧i<aY p n+aG p n) || cu (gA p n) i from funext fun i=>by simp only [cu,List.any_cons],
     rE,lA,ih]
    ·show _=cg p n+aG p n
     omega
    ·intro i _ h1 h2
     have h1:=EK h1
     obtain⟨x,hx,h3⟩:=gH.1 h2
     obtain⟨k,hk,hkz,rfl⟩:=fT.1 hx
     have:=h.apart k n hk (by omega) hkz hz
     dsimp only at h3
     omega
theorem Okp.sum_le(h:Okp p):aM p+cg p (aj p)≤1024:=by
 have h1:=h.count _ (Em _)
 have h2:(List.range 1024).countP (cu (gA p (aj p)))≤(List.range 1024).countP (fun i=>decide (aM p≤i∧i<aM p+1024)):=by
  refine List.countP_mono_left fun i _ hi=>?_
  obtain⟨x,hx,h3⟩:=gH.1 hi
  obtain⟨k,hk,hkz,rfl⟩:=fT.1 hx
  have h4:=h.slot k hk
  dsimp only at h3
  exact ER (by omega)
 rw [lA] at h2
 have:=h.top
 omega
theorem ew(p:List UInt8){m:Nat}: ∀ {n:Nat},m≤n→cg p m≤cg p n
 | 0,h=>by cases Nat.le_zero.1 h;exact Em _
 | n+1,h=>by
   rcases EB m (n+1)with h1|h1
   ·have:=ew p (show m≤n by omega)
    show _≤cg p n+aG p n
    omega
   ·obtain rfl:m=n+1:=by omega
    exact Em _
end
end Go.Proofs.YtelnglhodnoclaaGreat
end
