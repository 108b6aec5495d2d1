import Derived.Test.YtelnglhodnoclaaGreatA5
set_option linter.unusedVariables false
set_option linter.unusedSimpArgs false
set_option maxRecDepth 100000
set_option maxHeartbeats 0
section
namespace Go.Proofs.YtelnglhodnoclaaGreat
namespace Ow
open Go Go.Sy
section
variable {i j:Nat}{p:El→Bool}{d:Array El}
theorem fN(h:i≤j)(hp:p d[i]! =true):Sort.scanUp p d j i=Sort.scanUp p d j (i+1):=by
 conv=>lhs;rw [Sort.scanUp,EQ (by simp [h,hp])]
theorem b9(h:j<i∨p d[i]! =false):Sort.scanUp p d j i=i:=by
 rw [Sort.scanUp,EP]
 simp only [ED,Gg]
 rintro⟨h1,h2⟩
 rcases h with h|h
 ·omega
 ·rw [h] at h2;cases h2
theorem dX(h:i≤j+1)(hp:p d[j+1]! =true):Sort.scanDown p d i (j+1)=Sort.scanDown p d i j:=by
 conv=>lhs;rw [Sort.scanDown,EQ (by simp [h,hp])]
theorem bJ(h:j<i∨p d[j]! =false):Sort.scanDown p d i j=j:=by
 cases j with
 | zero=>rfl
 | succ j=>
   rw [Sort.scanDown,EP]
   simp only [ED,Gg]
   rintro⟨h1,h2⟩
   rcases h with h|h
   ·omega
   ·rw [h] at h2;cases h2
theorem jN{lt:El→El→Bool}{a i2 j2:Nat}(hi:Sort.scanUp (fun x=> !lt d[a]! x) d j i=i2)(hj:Sort.scanDown (fun x=>lt d[a]! x) d i2 j=j2)(h1:i≤i2)(h2:j2≤j) :
 Sort.partEqLoop lt a i j d=if j2<i2 then(i2,d) else Sort.partEqLoop lt a (i2+1) (j2-1) (Sort.swp d i2 j2):=by
 conv=>lhs;unfold Sort.partEqLoop
 simp only [hi,hj]
 split
 ·rfl
 ·rw [dif_pos (by omega)]
theorem jO(n a b pv:Nat)(d:Array El)(hn:n<4611686018427387904)(hd:d.size=n)(hap:a≤pv)(hpb:pv<b)(hb:b≤n) :
 Ctr Tryz.prog 123 [.slu 0 0 n,.sc (.int .i64 (a:Int)),.sc (.int .i64 (b:Int)),.sc (.int .i64 (pv:Int)),cmpF] [rowP n d] (fun c=>c=⟨.sc (.int .i64 ((Sort.partitionEqual ltP d a b pv).1:Int)),[some (rowP n (Sort.partitionEqual ltP d a b pv).2)]⟩):=by
 refine Gj Tryz.func123 rfl rfl ?_
 repeat apply ah;rfl
 refine aS (by kernel_rfl) (by kernel_rfl) ?_
 repeat first|apply az;rfl|refine aX rfl rfl rfl (F.ag _ rfl) (recP) rfl (by(omega)) (by(omega)) ?_|refine c8 (bX (F.sz _ rfl) rfl rfl rfl (recP) rfl (by first|omega|(simp only [Em,ar];omega)) (by first|omega|(simp only [Em,ar];omega))) rfl rfl ?_|refine ak (q:=a) rfl rfl rfl rfl (F.un _ rfl) (F.sz _ rfl) rfl (by omega) (by omega) (by omega) ?_|refine ak (q:=pv) rfl rfl rfl rfl (F.un _ rfl) (F.sz _ rfl) rfl (by omega) (by omega) (by omega) ?_
 refine au ⟨by kernel_rfl,?_,?_⟩;(focus(repeat(first|exact Gu|apply cc;rfl|apply bN;rfl|refine⟨.inr (by(repeat(refine⟨(by(exact aA (F.un _ rfl) (F.sz _ rfl) rfl rfl rfl (by omega) (by omega) (by omega))),?_⟩));exact Gu),?_⟩|refine⟨.inl (by kernel_rfl),?_⟩)))
 repeat first|apply ah;rfl|apply aC;rfl;omega;omega
 refine cS 1 (fun s:(Nat×Nat)×Array El=> [(0,.slu 0 0 n),(1,.sc (.int .i64 (a:Int))),(4,cmpF),(11,.sc (.int .i64 (s.1.1:Int))),(12,.sc (.int .i64 (s.1.2:Int)))]) (fun s=> [some (rowP n s.2)]) (fun s=>a<s.1.1∧s.1.1≤n∧s.1.2<n∧s.2.size=n∧Sort.partEqLoop ltP a s.1.1 s.1.2 s.2=Sort.partitionEqual ltP d a b pv) (fun s=>s.1.2+1-s.1.1) ((a+1,b-1),Sort.swp d a pv) []
  (fun _=>rfl) ⟨by simp only;omega,by simp only;omega,by simp only;omega,by rw [ar];exact hd,rfl⟩ ?_ (fun _=>rfl) (fun _=>rfl) ?_
 ·(refine⟨(Gh rfl),rfl,(by repeat(first|exact Gu|refine⟨rfl,?_⟩|refine⟨cO (by(simp only;omega)),?_⟩)),⟨ai rfl,trivial⟩⟩)
 rintro⟨⟨i,j⟩,d1⟩ ⟨hai,hi,hj,hd1,ho⟩ ih
 simp only at hai hi hj hd1 ho ih ⊢
 repeat apply ah;rfl
 refine cM 1 (fun x:Nat=> [(0,.slu 0 0 n),(1,.sc (.int .i64 (a:Int))),(4,cmpF),(11,.sc (.int .i64 (x:Int))),(12,.sc (.int .i64 (j:Int)))]) (fun _=> [some (rowP n d1)]) (fun x=>i≤x∧x≤n∧Sort.scanUp (fun y=> !ltP d1[a]! y) d1 j x=Sort.scanUp (fun y=> !ltP d1[a]! y) d1 j i) (fun x=>n-x) i []
  1 (fun x:Nat=> [(0,.slu 0 0 n),(1,.sc (.int .i64 (a:Int))),(4,cmpF),(11,.sc (.int .i64 (x:Int))),(12,.sc (.int .i64 (j:Int)))]) (fun _=> [some (rowP n d1)]) (fun x=>i≤x∧x≤n∧Sort.scanUp (fun y=> !ltP d1[a]! y) d1 j i=x)
  (fun _=>rfl) (fun _=>rfl) ⟨EE _,hi,rfl⟩ ?_ (fun _=>rfl) (fun _=>rfl) ?_ ?_
 ·(exact Gs rfl rfl rfl ⟨ai rfl,trivial⟩)
 ·rintro i1 ⟨hii,hi1,hu⟩ ihu out
  repeat apply ah;rfl
  refine aS (by kernel_rfl) (by kernel_rfl) ?_
  repeat apply az;rfl
  refine fk rfl rfl rfl rfl ?_ ?_
  all_goals intro h1
  ·repeat first|apply az;rfl|refine aX rfl rfl rfl (F.ag _ rfl) (recP) rfl (by(omega)) (by(omega)) ?_|refine ak (q:=a) rfl rfl rfl rfl (F.un _ rfl) (F.sz _ rfl) rfl (by omega) (by omega) (by omega) ?_|refine ak (q:=i1) rfl rfl rfl rfl (F.un _ rfl) (F.sz _ rfl) rfl (by omega) (by omega) (by omega) ?_|refine bj rfl rfl rfl rfl (by kernel_rfl) rfl (Ctr.callV (cmp_spec d1[a]! d1[i1]!) [] rfl (Gh rfl) rfl trivial rfl) ?_
   refine bz rfl rfl rfl rfl ?_ ?_
   all_goals intro h2
   ·repeat apply az;rfl
    refine au ⟨by kernel_rfl,?_,?_⟩;(focus(repeat(first|exact Gu|apply cc;rfl|apply bN;rfl|refine⟨.inr (by(repeat(refine⟨(by(exact aA (F.un _ rfl) (F.sz _ rfl) rfl rfl rfl (by omega) (by omega) (by omega))),?_⟩));exact Gu),?_⟩|refine⟨.inl (by kernel_rfl),?_⟩)))
    repeat first|refine out _ _ _ i1 [] ⟨hii,hi1,by rw [← hu];exact b9 (.inr (by simpa [ltP] using h2))⟩ ?_;(exact Gs rfl rfl rfl ⟨ai rfl,trivial⟩)|apply a6;rfl
   ·repeat apply az;rfl
    refine au ⟨by kernel_rfl,?_,?_⟩;(focus(repeat(first|exact Gu|apply cc;rfl|apply bN;rfl|refine⟨.inr (by(repeat(refine⟨(by(exact aA (F.un _ rfl) (F.sz _ rfl) rfl rfl rfl (by omega) (by omega) (by omega))),?_⟩));exact Gu),?_⟩|refine⟨.inl (by kernel_rfl),?_⟩)))
    repeat first|apply ah;rfl|apply aC;rfl;omega;omega
    refine ihu _ _ _ (i1+1) [] ⟨by omega,by omega,?_⟩ (by omega) ?_
    ·rw [← hu]
     exact(fN (by omega) (by simpa [ltP] using h2)).symm
    ·(exact Gs rfl rfl rfl ⟨ai rfl,trivial⟩)
  ·repeat first|apply az;rfl|refine bA rfl rfl ?_
   refine au ⟨by kernel_rfl,?_,?_⟩;(focus(repeat(first|exact Gu|apply oC;rfl|apply bN;rfl|refine⟨.inl rfl,?_⟩)))
   repeat first|refine out _ _ _ i1 [] ⟨hii,hi1,by rw [← hu];exact b9 (.inl (by omega))⟩ ?_;(exact Gs rfl rfl rfl ⟨ai rfl,trivial⟩)|apply a6;rfl
 rintro i2 ⟨hii,hi2,hu⟩
 repeat apply ah;rfl
 refine cM 1 (fun x:Nat=> [(0,.slu 0 0 n),(1,.sc (.int .i64 (a:Int))),(4,cmpF),(11,.sc (.int .i64 (i2:Int))),(12,.sc (.int .i64 (x:Int)))]) (fun _=> [some (rowP n d1)]) (fun x=>x≤j∧Sort.scanDown (fun y=>ltP d1[a]! y) d1 i2 x=Sort.scanDown (fun y=>ltP d1[a]! y) d1 i2 j) (fun x=>x) j []
  1 (fun x:Nat=> [(0,.slu 0 0 n),(1,.sc (.int .i64 (a:Int))),(4,cmpF),(11,.sc (.int .i64 (i2:Int))),(12,.sc (.int .i64 (x:Int)))]) (fun _=> [some (rowP n d1)]) (fun x=>x≤j∧Sort.scanDown (fun y=>ltP d1[a]! y) d1 i2 j=x)
  (fun _=>rfl) (fun _=>rfl) ⟨EE _,rfl⟩ ?_ (fun _=>rfl) (fun _=>rfl) ?_ ?_
 ·(exact Gs rfl rfl rfl ⟨ai rfl,trivial⟩)
 ·rintro j1 ⟨hjj,hv⟩ ihv out
  repeat apply ah;rfl
  refine aS (by kernel_rfl) (by kernel_rfl) ?_
  repeat apply az;rfl
  refine fk rfl rfl rfl rfl ?_ ?_
  all_goals intro h1
  ·repeat first|apply az;rfl|refine aX rfl rfl rfl (F.ag _ rfl) (recP) rfl (by(omega)) (by(omega)) ?_|refine ak (q:=a) rfl rfl rfl rfl (F.un _ rfl) (F.sz _ rfl) rfl (by omega) (by omega) (by omega) ?_|refine ak (q:=j1) rfl rfl rfl rfl (F.un _ rfl) (F.sz _ rfl) rfl (by omega) (by omega) (by omega) ?_|refine bj rfl rfl rfl rfl (by kernel_rfl) rfl (Ctr.callV (cmp_spec d1[a]! d1[j1]!) [] rfl (Gh rfl) rfl trivial rfl) ?_
   refine bz rfl rfl rfl rfl ?_ ?_
   all_goals intro h2
   ·repeat apply az;rfl
    refine au ⟨by kernel_rfl,?_,?_⟩;(focus(repeat(first|exact Gu|apply cc;rfl|apply bN;rfl|refine⟨.inr (by(repeat(refine⟨(by(exact aA (F.un _ rfl) (F.sz _ rfl) rfl rfl rfl (by omega) (by omega) (by omega))),?_⟩));exact Gu),?_⟩|refine⟨.inl (by kernel_rfl),?_⟩)))
    repeat first|apply ah;rfl|apply aC;rfl;omega;omega
    obtain⟨j1,rfl⟩: ∃ j',j1=j'+1:=⟨j1-1,by omega⟩
    refine ihv _ _ _ j1 [] ⟨by omega,?_⟩ (by omega) ?_
    ·rw [← hv]
     exact(dX (by omega) (by simpa [ltP] using h2)).symm
    ·(refine⟨(Gh rfl),rfl,(by repeat(first|exact Gu|refine⟨rfl,?_⟩|refine⟨cO (by(omega)),?_⟩)),⟨ai rfl,trivial⟩⟩)
   ·repeat apply az;rfl
    refine au ⟨by kernel_rfl,?_,?_⟩;(focus(repeat(first|exact Gu|apply cc;rfl|apply bN;rfl|refine⟨.inr (by(repeat(refine⟨(by(exact aA (F.un _ rfl) (F.sz _ rfl) rfl rfl rfl (by omega) (by omega) (by omega))),?_⟩));exact Gu),?_⟩|refine⟨.inl (by kernel_rfl),?_⟩)))
    repeat first|refine out _ _ _ j1 [] ⟨hjj,by rw [← hv];exact bJ (.inr (by simpa [ltP] using h2))⟩ ?_;(exact Gs rfl rfl rfl ⟨ai rfl,trivial⟩)|apply a6;rfl
  ·repeat first|apply az;rfl|refine bA rfl rfl ?_
   refine au ⟨by kernel_rfl,?_,?_⟩;(focus(repeat(first|exact Gu|apply oC;rfl|apply bN;rfl|refine⟨.inl rfl,?_⟩)))
   repeat first|refine out _ _ _ j1 [] ⟨hjj,by rw [← hv];exact bJ (.inl (by omega))⟩ ?_;(exact Gs rfl rfl rfl ⟨ai rfl,trivial⟩)|apply a6;rfl
 rintro j2 ⟨hjj,hv⟩
 have e:=jN hu hv hii hjj
 repeat apply ah;rfl
 refine dI rfl rfl rfl rfl ?_ ?_
 all_goals intro h3
 ·rw [ho,EQ (by omega)] at e
  repeat apply ah;rfl
  rw [e]
  ((apply bw Tryz.func123 (congrArg Array.toList Tryz.results123));(focus(repeat(first|exact Gk|apply Gm rfl)));refine⟨_,rfl,Ends.mk [] (Gh rfl) rfl rfl ?_⟩)
  exact⟨ai rfl,trivial⟩
 ·rw [ho,EP (by omega)] at e
  repeat apply ah;rfl
  refine aS (by kernel_rfl) (by kernel_rfl) ?_
  repeat first|apply az;rfl|refine aX rfl rfl rfl (F.ag _ rfl) (recP) rfl (by(omega)) (by(omega)) ?_|refine c8 (bX (F.sz _ rfl) rfl rfl rfl (recP) rfl (by first|omega|(simp only [Em,ar];omega)) (by first|omega|(simp only [Em,ar];omega))) rfl rfl ?_|refine ak (q:=i2) rfl rfl rfl rfl (F.un _ rfl) (F.sz _ rfl) rfl (by omega) (by omega) (by omega) ?_|refine ak (q:=j2) rfl rfl rfl rfl (F.un _ rfl) (F.sz _ rfl) rfl (by omega) (by omega) (by omega) ?_
  refine au ⟨by kernel_rfl,?_,?_⟩;(focus(repeat(first|exact Gu|apply cc;rfl|apply bN;rfl|refine⟨.inr (by(repeat(refine⟨(by(exact aA (F.un _ rfl) (F.sz _ rfl) rfl rfl rfl (by omega) (by omega) (by omega))),?_⟩));exact Gu),?_⟩|refine⟨.inl (by kernel_rfl),?_⟩)))
  repeat first|apply ah;rfl|apply aC;rfl;omega;omega
  refine ih _ _ _ ((i2+1,j2-1),Sort.swp d1 i2 j2) [] ⟨by simp only;omega,by simp only;omega,by simp only;omega,by rw [ar];exact hd1,e.symm⟩ (by simp only;omega) ?_
  (refine⟨(Gh rfl),rfl,(by repeat(first|exact Gu|refine⟨rfl,?_⟩|refine⟨cO (by(simp only;omega)),?_⟩)),⟨ai rfl,trivial⟩⟩)
end
end Ow
end Go.Proofs.YtelnglhodnoclaaGreat
end
section
namespace Go.Proofs.YtelnglhodnoclaaGreat
namespace Ow
open Go Go.Sy
theorem mV{lt:El→El→Bool}{d:Array El}{a i j i2 j2:Nat}(hi:Sort.scanUp (fun x=>lt x d[a]!) d j i=i2)(hj:Sort.scanDown (fun x=> !lt x d[a]!) d i2 j=j2)(h1:i≤i2)(h2:j2≤j) :
 Sort.partLoop lt a i j d=if j2<i2 then(j2,d) else Sort.partLoop lt a (i2+1) (j2-1) (Sort.swp d i2 j2):=by
 conv=>lhs;unfold Sort.partLoop
 simp only [hi,hj]
 split
 ·rfl
 ·rw [dif_pos (by omega)]
theorem pz{lt:El→El→Bool}{d:Array El}{a b pv i2 j2:Nat}(hi:Sort.scanUp (fun x=>lt x (Sort.swp d a pv)[a]!) (Sort.swp d a pv) (b-1) (a+1)=i2)(hj:Sort.scanDown (fun x=> !lt x (Sort.swp d a pv)[a]!) (Sort.swp d a pv) i2 (b-1)=j2) :
 Sort.partition lt d a b pv=if j2<i2 then(j2,true,Sort.swp (Sort.swp d a pv) j2 a) else((Sort.partLoop lt a (i2+1) (j2-1) (Sort.swp (Sort.swp d a pv) i2 j2)).1,false,Sort.swp (Sort.partLoop lt a (i2+1) (j2-1) (Sort.swp (Sort.swp d a pv) i2 j2)).2 (Sort.partLoop lt a (i2+1) (j2-1) (Sort.swp (Sort.swp d a pv) i2 j2)).1 a):=by
 simp only [Sort.partition,hi,hj]
theorem mW(n a b pv:Nat)(d:Array El)(hn:n<4611686018427387904)(hd:d.size=n)(hap:a≤pv)(hpb:pv<b)(hb:b≤n) :
 Ctr Tryz.prog 124 [.slu 0 0 n,.sc (.int .i64 (a:Int)),.sc (.int .i64 (b:Int)),.sc (.int .i64 (pv:Int)),cmpF] [rowP n d] (fun c=>c=⟨.tup [.sc (.int .i64 ((Sort.partition ltP d a b pv).1:Int)),.sc (.bool (Sort.partition ltP d a b pv).2.1)],[some (rowP n (Sort.partition ltP d a b pv).2.2)]⟩):=by
 refine Gj Tryz.func124 rfl rfl ?_
 repeat apply ah;rfl
 refine aS (by kernel_rfl) (by kernel_rfl) ?_
 repeat first|apply az;rfl|refine aX rfl rfl rfl (F.ag _ rfl) (recP) rfl (by(omega)) (by(omega)) ?_|refine c8 (bX (F.sz _ rfl) rfl rfl rfl (recP) rfl (by first|omega|(simp only [Em,ar];omega)) (by first|omega|(simp only [Em,ar];omega))) rfl rfl ?_|refine ak (q:=a) rfl rfl rfl rfl (F.un _ rfl) (F.sz _ rfl) rfl (by omega) (by omega) (by omega) ?_|refine ak (q:=pv) rfl rfl rfl rfl (F.un _ rfl) (F.sz _ rfl) rfl (by omega) (by omega) (by omega) ?_
 refine au ⟨by kernel_rfl,?_,?_⟩;(focus(repeat(first|exact Gu|apply cc;rfl|apply bN;rfl|refine⟨.inr (by(repeat(refine⟨(by(exact aA (F.un _ rfl) (F.sz _ rfl) rfl rfl rfl (by omega) (by omega) (by omega))),?_⟩));exact Gu),?_⟩|refine⟨.inl (by kernel_rfl),?_⟩)))
 have e0:=pz (lt:=ltP) (d:=d) (a:=a) (b:=b) (pv:=pv) rfl rfl
 have hd1:(Sort.swp d a pv).size=n:=by rw [ar];exact hd
 generalize hsw:Sort.swp d a pv=d1 at e0 hd1
 have hsw':(d.setIfInBounds a d[pv]!).setIfInBounds pv d[a]! =d1:=hsw
 rw [hsw']
 repeat first|apply ah;rfl|apply aC;rfl;omega;omega
 refine cM 1 (fun x:Nat=> [(0,.slu 0 0 n),(1,.sc (.int .i64 (a:Int))),(4,cmpF),(12,.sc (.int .i64 (x:Int))),(13,.sc (.int .i64 ((b-1:Nat):Int)))]) (fun _=> [some (rowP n d1)]) (fun x=>a+1≤x∧x≤n∧Sort.scanUp (fun y=>ltP y d1[a]!) d1 (b-1) x=Sort.scanUp (fun y=>ltP y d1[a]!) d1 (b-1) (a+1)) (fun x=>n-x) (a+1) []
  1 (fun x:Nat=> [(0,.slu 0 0 n),(1,.sc (.int .i64 (a:Int))),(4,cmpF),(12,.sc (.int .i64 (x:Int))),(13,.sc (.int .i64 ((b-1:Nat):Int)))]) (fun _=> [some (rowP n d1)]) (fun x=>a+1≤x∧x≤n∧Sort.scanUp (fun y=>ltP y d1[a]!) d1 (b-1) (a+1)=x)
  (fun _=>rfl) (fun _=>rfl) ⟨EE _,by omega,rfl⟩ ?_ (fun _=>rfl) (fun _=>rfl) ?_ ?_
 ·(refine⟨(Gh rfl),rfl,(by repeat(first|exact Gu|refine⟨rfl,?_⟩|refine⟨cO (by(omega)),?_⟩)),⟨ai rfl,trivial⟩⟩)
 ·rintro i1 ⟨hii,hi1,hu⟩ ihu out
  repeat apply ah;rfl
  refine aS (by kernel_rfl) (by kernel_rfl) ?_
  repeat apply az;rfl
  refine fk rfl rfl rfl rfl ?_ ?_
  all_goals intro h1
  ·repeat first|apply az;rfl|refine aX rfl rfl rfl (F.ag _ rfl) (recP) rfl (by(omega)) (by(omega)) ?_|refine ak (q:=a) rfl rfl rfl rfl (F.un _ rfl) (F.sz _ rfl) rfl (by omega) (by omega) (by omega) ?_|refine ak (q:=i1) rfl rfl rfl rfl (F.un _ rfl) (F.sz _ rfl) rfl (by omega) (by omega) (by omega) ?_|refine bj rfl rfl rfl rfl (by kernel_rfl) rfl (Ctr.callV (cmp_spec d1[i1]! d1[a]!) [] rfl (Gh rfl) rfl trivial rfl) ?_
   refine bz rfl rfl rfl rfl ?_ ?_
   all_goals intro h2
   ·repeat apply az;rfl
    refine au ⟨by kernel_rfl,?_,?_⟩;(focus(repeat(first|exact Gu|apply cc;rfl|apply bN;rfl|refine⟨.inr (by(repeat(refine⟨(by(exact aA (F.un _ rfl) (F.sz _ rfl) rfl rfl rfl (by omega) (by omega) (by omega))),?_⟩));exact Gu),?_⟩|refine⟨.inl (by kernel_rfl),?_⟩)))
    repeat first|apply ah;rfl|apply aC;rfl;omega;omega
    refine ihu _ _ _ (i1+1) [] ⟨by omega,by omega,?_⟩ (by omega) ?_
    ·rw [← hu]
     exact(fN (by omega) (by simpa [ltP] using h2)).symm
    ·(exact Gs rfl rfl rfl ⟨ai rfl,trivial⟩)
   ·repeat apply az;rfl
    refine au ⟨by kernel_rfl,?_,?_⟩;(focus(repeat(first|exact Gu|apply cc;rfl|apply bN;rfl|refine⟨.inr (by(repeat(refine⟨(by(exact aA (F.un _ rfl) (F.sz _ rfl) rfl rfl rfl (by omega) (by omega) (by omega))),?_⟩));exact Gu),?_⟩|refine⟨.inl (by kernel_rfl),?_⟩)))
    repeat first|refine out _ _ _ i1 [] ⟨hii,hi1,by rw [← hu];exact b9 (.inr (by simpa [ltP] using h2))⟩ ?_;(exact Gs rfl rfl rfl ⟨ai rfl,trivial⟩)|apply a6;rfl
  ·repeat first|apply az;rfl|refine bA rfl rfl ?_
   refine au ⟨by kernel_rfl,?_,?_⟩;(focus(repeat(first|exact Gu|apply oC;rfl|apply bN;rfl|refine⟨.inl rfl,?_⟩)))
   repeat first|refine out _ _ _ i1 [] ⟨hii,hi1,by rw [← hu];exact b9 (.inl (by omega))⟩ ?_;(exact Gs rfl rfl rfl ⟨ai rfl,trivial⟩)|apply a6;rfl
 rintro i2 ⟨hii,hi2,hu⟩
 rw [hu] at e0
 repeat apply ah;rfl
 refine cM 1 (fun x:Nat=> [(0,.slu 0 0 n),(1,.sc (.int .i64 (a:Int))),(4,cmpF),(12,.sc (.int .i64 (i2:Int))),(13,.sc (.int .i64 (x:Int)))]) (fun _=> [some (rowP n d1)]) (fun x=>x≤b-1∧Sort.scanDown (fun y=> !ltP y d1[a]!) d1 i2 x=Sort.scanDown (fun y=> !ltP y d1[a]!) d1 i2 (b-1)) (fun x=>x) (b-1) []
  1 (fun x:Nat=> [(0,.slu 0 0 n),(1,.sc (.int .i64 (a:Int))),(4,cmpF),(12,.sc (.int .i64 (i2:Int))),(13,.sc (.int .i64 (x:Int)))]) (fun _=> [some (rowP n d1)]) (fun x=>x≤b-1∧Sort.scanDown (fun y=> !ltP y d1[a]!) d1 i2 (b-1)=x)
  (fun _=>rfl) (fun _=>rfl) ⟨EE _,rfl⟩ ?_ (fun _=>rfl) (fun _=>rfl) ?_ ?_
 ·(exact Gs rfl rfl rfl ⟨ai rfl,trivial⟩)
 ·rintro j1 ⟨hjj,hv⟩ ihv out
  repeat apply ah;rfl
  refine aS (by kernel_rfl) (by kernel_rfl) ?_
  repeat apply az;rfl
  refine fk rfl rfl rfl rfl ?_ ?_
  all_goals intro h1
  ·repeat first|apply az;rfl|refine aX rfl rfl rfl (F.ag _ rfl) (recP) rfl (by(omega)) (by(omega)) ?_|refine ak (q:=a) rfl rfl rfl rfl (F.un _ rfl) (F.sz _ rfl) rfl (by omega) (by omega) (by omega) ?_|refine ak (q:=j1) rfl rfl rfl rfl (F.un _ rfl) (F.sz _ rfl) rfl (by omega) (by omega) (by omega) ?_|refine bj rfl rfl rfl rfl (by kernel_rfl) rfl (Ctr.callV (cmp_spec d1[j1]! d1[a]!) [] rfl (Gh rfl) rfl trivial rfl) ?_
   refine bz rfl rfl rfl rfl ?_ ?_
   all_goals intro h2
   ·repeat apply az;rfl
    refine au ⟨by kernel_rfl,?_,?_⟩;(focus(repeat(first|exact Gu|apply cc;rfl|apply bN;rfl|refine⟨.inr (by(repeat(refine⟨(by(exact aA (F.un _ rfl) (F.sz _ rfl) rfl rfl rfl (by omega) (by omega) (by omega))),?_⟩));exact Gu),?_⟩|refine⟨.inl (by kernel_rfl),?_⟩)))
    repeat first|refine out _ _ _ j1 [] ⟨hjj,by rw [← hv];exact bJ (.inr (by simpa [ltP] using h2))⟩ ?_;(exact Gs rfl rfl rfl ⟨ai rfl,trivial⟩)|apply a6;rfl
   ·repeat apply az;rfl
    refine au ⟨by kernel_rfl,?_,?_⟩;(focus(repeat(first|exact Gu|apply cc;rfl|apply bN;rfl|refine⟨.inr (by(repeat(refine⟨(by(exact aA (F.un _ rfl) (F.sz _ rfl) rfl rfl rfl (by omega) (by omega) (by omega))),?_⟩));exact Gu),?_⟩|refine⟨.inl (by kernel_rfl),?_⟩)))
    repeat first|apply ah;rfl|apply aC;rfl;omega;omega
    obtain⟨j1,rfl⟩: ∃ j',j1=j'+1:=⟨j1-1,by omega⟩
    refine ihv _ _ _ j1 [] ⟨by omega,?_⟩ (by omega) ?_
    ·rw [← hv]
     exact(dX (by omega) (by simpa [ltP] using h2)).symm
    ·(refine⟨(Gh rfl),rfl,(by repeat(first|exact Gu|refine⟨rfl,?_⟩|refine⟨cO (by(omega)),?_⟩)),⟨ai rfl,trivial⟩⟩)
  ·repeat first|apply az;rfl|refine bA rfl rfl ?_
   refine au ⟨by kernel_rfl,?_,?_⟩;(focus(repeat(first|exact Gu|apply oC;rfl|apply bN;rfl|refine⟨.inl rfl,?_⟩)))
   repeat first|refine out _ _ _ j1 [] ⟨hjj,by rw [← hv];exact bJ (.inl (by omega))⟩ ?_;(exact Gs rfl rfl rfl ⟨ai rfl,trivial⟩)|apply a6;rfl
 rintro j2 ⟨hjj,hv⟩
 rw [hv] at e0
 repeat apply ah;rfl
 refine dI rfl rfl rfl rfl ?_ ?_
 all_goals intro h3
 ·rw [EQ (by omega)] at e0
  rw [e0]
  repeat apply ah;rfl
  refine aS (by kernel_rfl) (by kernel_rfl) ?_
  repeat first|apply az;rfl|refine aX rfl rfl rfl (F.ag _ rfl) (recP) rfl (by(omega)) (by(omega)) ?_|refine c8 (bX (F.sz _ rfl) rfl rfl rfl (recP) rfl (by first|omega|(simp only [Em,ar];omega)) (by first|omega|(simp only [Em,ar];omega))) rfl rfl ?_|refine ak (q:=a) rfl rfl rfl rfl (F.un _ rfl) (F.sz _ rfl) rfl (by omega) (by omega) (by omega) ?_|refine ak (q:=j2) rfl rfl rfl rfl (F.un _ rfl) (F.sz _ rfl) rfl (by omega) (by omega) (by omega) ?_
  refine au ⟨by kernel_rfl,?_,?_⟩;(focus(repeat(first|exact Gu|apply cc;rfl|apply bN;rfl|refine⟨.inr (by(repeat(refine⟨(by(exact aA (F.un _ rfl) (F.sz _ rfl) rfl rfl rfl (by omega) (by omega) (by omega))),?_⟩));exact Gu),?_⟩|refine⟨.inl (by kernel_rfl),?_⟩)))
  repeat apply ah;rfl
  ((apply bw Tryz.func124 (congrArg Array.toList Tryz.results124));(focus(repeat(first|exact Gk|apply Gm rfl)));refine⟨_,rfl,Ends.mk [] (Gh rfl) rfl rfl ?_⟩)
  exact⟨ai rfl,trivial⟩
 rw [EP (by omega)] at e0
 rw [e0]
 repeat apply ah;rfl
 refine aS (by kernel_rfl) (by kernel_rfl) ?_
 repeat first|apply az;rfl|refine aX rfl rfl rfl (F.ag _ rfl) (recP) rfl (by(omega)) (by(omega)) ?_|refine c8 (bX (F.sz _ rfl) rfl rfl rfl (recP) rfl (by first|omega|(simp only [Em,ar];omega)) (by first|omega|(simp only [Em,ar];omega))) rfl rfl ?_|refine ak (q:=i2) rfl rfl rfl rfl (F.un _ rfl) (F.sz _ rfl) rfl (by omega) (by omega) (by omega) ?_|refine ak (q:=j2) rfl rfl rfl rfl (F.un _ rfl) (F.sz _ rfl) rfl (by omega) (by omega) (by omega) ?_
 refine au ⟨by kernel_rfl,?_,?_⟩;(focus(repeat(first|exact Gu|apply cc;rfl|apply bN;rfl|refine⟨.inr (by(repeat(refine⟨(by(exact aA (F.un _ rfl) (F.sz _ rfl) rfl rfl rfl (by omega) (by omega) (by omega))),?_⟩));exact Gu),?_⟩|refine⟨.inl (by kernel_rfl),?_⟩)))
 repeat first|apply ah;rfl|apply aC;rfl;omega;omega
 refine cM 1 (fun s:(Nat×Nat)×Array El=> [(0,.slu 0 0 n),(1,.sc (.int .i64 (a:Int))),(4,cmpF),(12,.sc (.int .i64 (s.1.1:Int))),(13,.sc (.int .i64 (s.1.2:Int)))]) (fun s=> [some (rowP n s.2)]) (fun s=>a<s.1.1∧s.1.1≤n∧s.1.2<n∧s.2.size=n∧Sort.partLoop ltP a s.1.1 s.1.2 s.2=Sort.partLoop ltP a (i2+1) (j2-1) (Sort.swp d1 i2 j2)) (fun s=>s.1.2+1-s.1.1) ((i2+1,j2-1),Sort.swp d1 i2 j2) []
  1 (fun s:Nat×Array El=> [(0,.slu 0 0 n),(1,.sc (.int .i64 (a:Int))),(4,cmpF),(13,.sc (.int .i64 (s.1:Int)))]) (fun s=> [some (rowP n s.2)]) (fun s=>s.1<n∧s.2.size=n∧Sort.partLoop ltP a (i2+1) (j2-1) (Sort.swp d1 i2 j2)=s)
  (fun _=>rfl) (fun _=>rfl) ⟨by simp only;omega,by simp only;omega,by simp only;omega,by rw [ar];exact hd1,rfl⟩ ?_ (fun _=>rfl) (fun _=>rfl) ?_ ?_
 ·(refine⟨(Gh rfl),rfl,(by repeat(first|exact Gu|refine⟨rfl,?_⟩|refine⟨cO (by(simp only;omega)),?_⟩)),⟨ai rfl,trivial⟩⟩)
 ·rintro⟨⟨i,j⟩,d3⟩ ⟨hai,hi,hj,hd3,ho⟩ ih outer
  simp only at hai hi hj hd3 ho ih ⊢
  repeat apply ah;rfl
  refine cM 1 (fun x:Nat=> [(0,.slu 0 0 n),(1,.sc (.int .i64 (a:Int))),(4,cmpF),(12,.sc (.int .i64 (x:Int))),(13,.sc (.int .i64 (j:Int)))]) (fun _=> [some (rowP n d3)]) (fun x=>i≤x∧x≤n∧Sort.scanUp (fun y=>ltP y d3[a]!) d3 j x=Sort.scanUp (fun y=>ltP y d3[a]!) d3 j i) (fun x=>n-x) i []
   1 (fun x:Nat=> [(0,.slu 0 0 n),(1,.sc (.int .i64 (a:Int))),(4,cmpF),(12,.sc (.int .i64 (x:Int))),(13,.sc (.int .i64 (j:Int)))]) (fun _=> [some (rowP n d3)]) (fun x=>i≤x∧x≤n∧Sort.scanUp (fun y=>ltP y d3[a]!) d3 j i=x)
   (fun _=>rfl) (fun _=>rfl) ⟨EE _,hi,rfl⟩ ?_ (fun _=>rfl) (fun _=>rfl) ?_ ?_
  ·(exact Gs rfl rfl rfl ⟨ai rfl,trivial⟩)
  ·rintro i1 ⟨hii,hi1,hu⟩ ihu out
   repeat apply ah;rfl
   refine aS (by kernel_rfl) (by kernel_rfl) ?_
   repeat apply az;rfl
   refine fk rfl rfl rfl rfl ?_ ?_
   all_goals intro h1
   ·repeat first|apply az;rfl|refine aX rfl rfl rfl (F.ag _ rfl) (recP) rfl (by(omega)) (by(omega)) ?_|refine ak (q:=a) rfl rfl rfl rfl (F.un _ rfl) (F.sz _ rfl) rfl (by omega) (by omega) (by omega) ?_|refine ak (q:=i1) rfl rfl rfl rfl (F.un _ rfl) (F.sz _ rfl) rfl (by omega) (by omega) (by omega) ?_|refine bj rfl rfl rfl rfl (by kernel_rfl) rfl (Ctr.callV (cmp_spec d3[i1]! d3[a]!) [] rfl (Gh rfl) rfl trivial rfl) ?_
    refine bz rfl rfl rfl rfl ?_ ?_
    all_goals intro h2
    ·repeat apply az;rfl
     refine au ⟨by kernel_rfl,?_,?_⟩;(focus(repeat(first|exact Gu|apply cc;rfl|apply bN;rfl|refine⟨.inr (by(repeat(refine⟨(by(exact aA (F.un _ rfl) (F.sz _ rfl) rfl rfl rfl (by omega) (by omega) (by omega))),?_⟩));exact Gu),?_⟩|refine⟨.inl (by kernel_rfl),?_⟩)))
     repeat first|apply ah;rfl|apply aC;rfl;omega;omega
     refine ihu _ _ _ (i1+1) [] ⟨by omega,by omega,?_⟩ (by omega) ?_
     ·rw [← hu]
      exact(fN (by omega) (by simpa [ltP] using h2)).symm
     ·(exact Gs rfl rfl rfl ⟨ai rfl,trivial⟩)
    ·repeat apply az;rfl
     refine au ⟨by kernel_rfl,?_,?_⟩;(focus(repeat(first|exact Gu|apply cc;rfl|apply bN;rfl|refine⟨.inr (by(repeat(refine⟨(by(exact aA (F.un _ rfl) (F.sz _ rfl) rfl rfl rfl (by omega) (by omega) (by omega))),?_⟩));exact Gu),?_⟩|refine⟨.inl (by kernel_rfl),?_⟩)))
     repeat first|refine out _ _ _ i1 [] ⟨hii,hi1,by rw [← hu];exact b9 (.inr (by simpa [ltP] using h2))⟩ ?_;(exact Gs rfl rfl rfl ⟨ai rfl,trivial⟩)|apply a6;rfl
   ·repeat first|apply az;rfl|refine bA rfl rfl ?_
    refine au ⟨by kernel_rfl,?_,?_⟩;(focus(repeat(first|exact Gu|apply oC;rfl|apply bN;rfl|refine⟨.inl rfl,?_⟩)))
    repeat first|refine out _ _ _ i1 [] ⟨hii,hi1,by rw [← hu];exact b9 (.inl (by omega))⟩ ?_;(exact Gs rfl rfl rfl ⟨ai rfl,trivial⟩)|apply a6;rfl
  rintro i3 ⟨hii3,hi3,hu3⟩
  repeat apply ah;rfl
  refine cM 1 (fun x:Nat=> [(0,.slu 0 0 n),(1,.sc (.int .i64 (a:Int))),(4,cmpF),(12,.sc (.int .i64 (i3:Int))),(13,.sc (.int .i64 (x:Int)))]) (fun _=> [some (rowP n d3)]) (fun x=>x≤j∧Sort.scanDown (fun y=> !ltP y d3[a]!) d3 i3 x=Sort.scanDown (fun y=> !ltP y d3[a]!) d3 i3 (j)) (fun x=>x) (j) []
   1 (fun x:Nat=> [(0,.slu 0 0 n),(1,.sc (.int .i64 (a:Int))),(4,cmpF),(12,.sc (.int .i64 (i3:Int))),(13,.sc (.int .i64 (x:Int)))]) (fun _=> [some (rowP n d3)]) (fun x=>x≤j∧Sort.scanDown (fun y=> !ltP y d3[a]!) d3 i3 (j)=x)
   (fun _=>rfl) (fun _=>rfl) ⟨EE _,rfl⟩ ?_ (fun _=>rfl) (fun _=>rfl) ?_ ?_
  ·(exact Gs rfl rfl rfl ⟨ai rfl,trivial⟩)
  ·rintro j1 ⟨hjj,hv⟩ ihv out
   repeat apply ah;rfl
   refine aS (by kernel_rfl) (by kernel_rfl) ?_
   repeat apply az;rfl
   refine fk rfl rfl rfl rfl ?_ ?_
   all_goals intro h1
   ·repeat first|apply az;rfl|refine aX rfl rfl rfl (F.ag _ rfl) (recP) rfl (by(omega)) (by(omega)) ?_|refine ak (q:=a) rfl rfl rfl rfl (F.un _ rfl) (F.sz _ rfl) rfl (by omega) (by omega) (by omega) ?_|refine ak (q:=j1) rfl rfl rfl rfl (F.un _ rfl) (F.sz _ rfl) rfl (by omega) (by omega) (by omega) ?_|refine bj rfl rfl rfl rfl (by kernel_rfl) rfl (Ctr.callV (cmp_spec d3[j1]! d3[a]!) [] rfl (Gh rfl) rfl trivial rfl) ?_
    refine bz rfl rfl rfl rfl ?_ ?_
    all_goals intro h2
    ·repeat apply az;rfl
     refine au ⟨by kernel_rfl,?_,?_⟩;(focus(repeat(first|exact Gu|apply cc;rfl|apply bN;rfl|refine⟨.inr (by(repeat(refine⟨(by(exact aA (F.un _ rfl) (F.sz _ rfl) rfl rfl rfl (by omega) (by omega) (by omega))),?_⟩));exact Gu),?_⟩|refine⟨.inl (by kernel_rfl),?_⟩)))
     repeat first|refine out _ _ _ j1 [] ⟨hjj,by rw [← hv];exact bJ (.inr (by simpa [ltP] using h2))⟩ ?_;(exact Gs rfl rfl rfl ⟨ai rfl,trivial⟩)|apply a6;rfl
    ·repeat apply az;rfl
     refine au ⟨by kernel_rfl,?_,?_⟩;(focus(repeat(first|exact Gu|apply cc;rfl|apply bN;rfl|refine⟨.inr (by(repeat(refine⟨(by(exact aA (F.un _ rfl) (F.sz _ rfl) rfl rfl rfl (by omega) (by omega) (by omega))),?_⟩));exact Gu),?_⟩|refine⟨.inl (by kernel_rfl),?_⟩)))
     repeat first|apply ah;rfl|apply aC;rfl;omega;omega
     obtain⟨j1,rfl⟩: ∃ j',j1=j'+1:=⟨j1-1,by omega⟩
     refine ihv _ _ _ j1 [] ⟨by omega,?_⟩ (by omega) ?_
     ·rw [← hv]
      exact(dX (by omega) (by simpa [ltP] using h2)).symm
     ·(refine⟨(Gh rfl),rfl,(by repeat(first|exact Gu|refine⟨rfl,?_⟩|refine⟨cO (by(omega)),?_⟩)),⟨ai rfl,trivial⟩⟩)
   ·repeat first|apply az;rfl|refine bA rfl rfl ?_
    refine au ⟨by kernel_rfl,?_,?_⟩;(focus(repeat(first|exact Gu|apply oC;rfl|apply bN;rfl|refine⟨.inl rfl,?_⟩)))
    repeat first|refine out _ _ _ j1 [] ⟨hjj,by rw [← hv];exact bJ (.inl (by omega))⟩ ?_;(exact Gs rfl rfl rfl ⟨ai rfl,trivial⟩)|apply a6;rfl
  rintro j3 ⟨hjj3,hv3⟩
  have e:=mV hu3 hv3 hii3 hjj3
  repeat apply ah;rfl
  refine dI rfl rfl rfl rfl ?_ ?_
  all_goals intro h3
  ·rw [ho,EQ (by omega)] at e
   repeat first|refine outer _ _ _ (j3,d3) [] ⟨by simp only;omega,hd3,e⟩ ?_;(exact Gs rfl rfl rfl ⟨ai rfl,trivial⟩)|apply a6;rfl
  ·rw [ho,EP (by omega)] at e
   repeat apply ah;rfl
   refine aS (by kernel_rfl) (by kernel_rfl) ?_
   repeat first|apply az;rfl|refine aX rfl rfl rfl (F.ag _ rfl) (recP) rfl (by(omega)) (by(omega)) ?_|refine c8 (bX (F.sz _ rfl) rfl rfl rfl (recP) rfl (by first|omega|(simp only [Em,ar];omega)) (by first|omega|(simp only [Em,ar];omega))) rfl rfl ?_|refine ak (q:=i3) rfl rfl rfl rfl (F.un _ rfl) (F.sz _ rfl) rfl (by omega) (by omega) (by omega) ?_|refine ak (q:=j3) rfl rfl rfl rfl (F.un _ rfl) (F.sz _ rfl) rfl (by omega) (by omega) (by omega) ?_
   refine au ⟨by kernel_rfl,?_,?_⟩;(focus(repeat(first|exact Gu|apply cc;rfl|apply bN;rfl|refine⟨.inr (by(repeat(refine⟨(by(exact aA (F.un _ rfl) (F.sz _ rfl) rfl rfl rfl (by omega) (by omega) (by omega))),?_⟩));exact Gu),?_⟩|refine⟨.inl (by kernel_rfl),?_⟩)))
   repeat first|apply ah;rfl|apply aC;rfl;omega;omega
   refine ih _ _ _ ((i3+1,j3-1),Sort.swp d3 i3 j3) [] ⟨by simp only;omega,by simp only;omega,by simp only;omega,by rw [ar];exact hd3,e.symm⟩ (by simp only;omega) ?_
   (refine⟨(Gh rfl),rfl,(by repeat(first|exact Gu|refine⟨rfl,?_⟩|refine⟨cO (by(simp only;omega)),?_⟩)),⟨ai rfl,trivial⟩⟩)
 rintro⟨j3,d3⟩ ⟨hj3,hd3,e⟩
 simp only at hj3 hd3 e ⊢
 rw [e]
 repeat apply ah;rfl
 refine aS (by kernel_rfl) (by kernel_rfl) ?_
 repeat first|apply az;rfl|refine aX rfl rfl rfl (F.ag _ rfl) (recP) rfl (by(omega)) (by(omega)) ?_|refine c8 (bX (F.sz _ rfl) rfl rfl rfl (recP) rfl (by first|omega|(simp only [Em,ar];omega)) (by first|omega|(simp only [Em,ar];omega))) rfl rfl ?_|refine ak (q:=a) rfl rfl rfl rfl (F.un _ rfl) (F.sz _ rfl) rfl (by omega) (by omega) (by omega) ?_|refine ak (q:=j3) rfl rfl rfl rfl (F.un _ rfl) (F.sz _ rfl) rfl (by omega) (by omega) (by omega) ?_
 refine au ⟨by kernel_rfl,?_,?_⟩;(focus(repeat(first|exact Gu|apply cc;rfl|apply bN;rfl|refine⟨.inr (by(repeat(refine⟨(by(exact aA (F.un _ rfl) (F.sz _ rfl) rfl rfl rfl (by omega) (by omega) (by omega))),?_⟩));exact Gu),?_⟩|refine⟨.inl (by kernel_rfl),?_⟩)))
 repeat apply ah;rfl
 ((apply bw Tryz.func124 (congrArg Array.toList Tryz.results124));(focus(repeat(first|exact Gk|apply Gm rfl)));refine⟨_,rfl,Ends.mk [] (Gh rfl) rfl rfl ?_⟩)
 exact⟨ai rfl,trivial⟩
end Ow
end Go.Proofs.YtelnglhodnoclaaGreat
end
section
namespace Go.Proofs.YtelnglhodnoclaaGreat
namespace Ow
open Go Go.Sy
section
variable {a b i i1 s:Nat}{d:Array El}{lt:El→El→Bool}
theorem gR(h:i<b)(hp:lt d[i]! d[i-1]! =false):Sort.scanSorted lt d b i=Sort.scanSorted lt d b (i+1):=by
 conv=>lhs;rw [Sort.scanSorted,EQ (by simp [h,hp])]
theorem dp(h:b≤i∨lt d[i]! d[i-1]! =true):Sort.scanSorted lt d b i=i:=by
 rw [Sort.scanSorted,EP]
 simp only [ED,Gg,Bool.not_eq_true']
 rintro⟨h1,h2⟩
 rcases h with h|h
 ·omega
 ·rw [h] at h2;cases h2
theorem gt{j:Nat}(h:j<b)(hp:lt d[j]! d[j-1]! =true):Sort.shiftUp lt b j d=Sort.shiftUp lt b (j+1) (Sort.swp d j (j-1)):=by
 conv=>lhs;rw [Sort.shiftUp,EQ h,EP (by simp [hp])]
theorem cP{j:Nat}(h:b≤j∨lt d[j]! d[j-1]! =false):Sort.shiftUp lt b j d=d:=by
 rw [Sort.shiftUp]
 split
 ·rename_i h1
  rw [EQ]
  rcases h with h|h
  ·omega
  ·simp [h]
 ·rfl
theorem mR{d2 d3:Array El}(hi:Sort.scanSorted lt d b i=i1)(h1:i1≠b)(h2: ¬ b-a<50)
 (e2:(if i1-a≥2 then Sort.shiftDown lt (i1-1) (Sort.swp d i1 (i1-1)) else Sort.swp d i1 (i1-1))=d2) (e3:(if b-i1≥2 then Sort.shiftUp lt b (i1+1) d2 else d2)=d3):Sort.partialIns lt a b (s+1) i d=Sort.partialIns lt a b s i1 d3:=by
 rw [Sort.partialIns]
 simp only [hi,EP h1,EP h2]
 rw [e2,e3]
theorem mQ(hi:Sort.scanSorted lt d b i=i1)(h1:i1=b):Sort.partialIns lt a b (s+1) i d=(d,true):=by
 rw [Sort.partialIns]
 simp only [hi,EQ h1]
theorem lj(hi:Sort.scanSorted lt d b i=i1)(h1:i1≠b)(h2:b-a<50):Sort.partialIns lt a b (s+1) i d=(d,false):=by
 rw [Sort.partialIns]
 simp only [hi,EP h1,EQ h2]
theorem mS(n a b:Nat)(d:Array El)(hn:n<4611686018427387904)(hd:d.size=n)(hab:a<b)(hb:b≤n) :
 Ctr Tryz.prog 122 [.slu 0 0 n,.sc (.int .i64 (a:Int)),.sc (.int .i64 (b:Int)),cmpF] [rowP n d] (fun c=>c=⟨.sc (.bool (Sort.partialInsertionSort ltP d a b).2),[some (rowP n (Sort.partialInsertionSort ltP d a b).1)]⟩):=by
 refine Gj Tryz.func122 rfl rfl ?_
 repeat first|apply ah;rfl|apply aC;rfl;omega;omega
 refine cS 1 (fun s:(Nat×Nat)×Array El=> [(0,.slu 0 0 n),(1,.sc (.int .i64 (a:Int))),(2,.sc (.int .i64 (b:Int))),(3,cmpF),(9,.sc (.int .i64 (s.1.2:Int))),(10,.sc (.int .i64 ((5-s.1.1:Nat):Int)))]) (fun s=> [some (rowP n s.2)]) (fun s=>s.1.1≤5∧a+1≤s.1.2∧s.1.2≤b∧s.2.size=n∧Sort.partialIns ltP a b s.1.1 s.1.2 s.2=Sort.partialInsertionSort ltP d a b) (fun s=>s.1.1) ((5,a+1),d) []
  (fun _=>rfl) ⟨EE _,EE _,hab,hd,rfl⟩ ?_ (fun _=>rfl) (fun _=>rfl) ?_
 ·(exact Gs rfl rfl rfl ⟨ai rfl,trivial⟩)
 rintro⟨⟨s,i⟩,d0⟩ ⟨hs,hai,hi,hd0,ho⟩ ih
 simp only at hs hai hi hd0 ho ih ⊢
 repeat apply ah;rfl
 refine bq rfl rfl rfl rfl ?_ ?_
 all_goals intro h0
 ·obtain⟨s,rfl⟩: ∃ s',s=s'+1:=⟨s-1,by omega⟩
  repeat apply ah;rfl
  refine cM 1 (fun x:Nat=> [(0,.slu 0 0 n),(1,.sc (.int .i64 (a:Int))),(2,.sc (.int .i64 (b:Int))),(3,cmpF),(9,.sc (.int .i64 (x:Int))),(10,.sc (.int .i64 ((5-(s+1):Nat):Int)))]) (fun _=> [some (rowP n d0)]) (fun x=>a+1≤x∧x≤b∧Sort.scanSorted ltP d0 b x=Sort.scanSorted ltP d0 b i) (fun x=>b-x) i []
   1 (fun x:Nat=> [(0,.slu 0 0 n),(1,.sc (.int .i64 (a:Int))),(2,.sc (.int .i64 (b:Int))),(3,cmpF),(9,.sc (.int .i64 (x:Int))),(10,.sc (.int .i64 ((5-(s+1):Nat):Int)))]) (fun _=> [some (rowP n d0)]) (fun x=>a+1≤x∧x≤b∧Sort.scanSorted ltP d0 b i=x)
   (fun _=>rfl) (fun _=>rfl) ⟨hai,hi,rfl⟩ ?_ (fun _=>rfl) (fun _=>rfl) ?_ ?_
  ·(exact Gs rfl rfl rfl ⟨ai rfl,trivial⟩)
  ·rintro i1 ⟨hai1,hi1,hu⟩ ihu out
   repeat apply ah;rfl
   refine aS (by kernel_rfl) (by kernel_rfl) ?_
   repeat apply az;rfl
   refine bz rfl rfl rfl rfl ?_ ?_
   all_goals intro h1
   ·repeat first|apply az;rfl|refine ba (am rfl rfl (.inr (.inl ⟨rfl,(Ek _ ⟨(by omega),(by omega)⟩).symm⟩))) rfl rfl rfl ?_|refine aX rfl rfl rfl (F.ag _ rfl) (recP) rfl (by(omega)) (by(omega)) ?_|refine ak (q:=i1) rfl rfl rfl rfl (F.un _ rfl) (F.sz _ rfl) rfl (by omega) (by omega) (by omega) ?_|refine ak (q:=i1-1) rfl rfl rfl rfl (F.un _ rfl) (F.sz _ rfl) rfl (by omega) (by omega) (by omega) ?_|refine bj rfl rfl rfl rfl (by kernel_rfl) rfl (Ctr.callV (cmp_spec d0[i1]! d0[i1-1]!) [] rfl (Gh rfl) rfl trivial rfl) ?_
    refine bz rfl rfl rfl rfl ?_ ?_
    all_goals intro h2
    ·repeat apply az;rfl
     refine au ⟨by kernel_rfl,?_,?_⟩;(focus(repeat(first|exact Gu|apply cc;rfl|apply bN;rfl|refine⟨.inr (by(repeat(refine⟨(by first|exact aA (F.un _ rfl) (F.sz _ rfl) rfl rfl rfl (by omega) (by omega) (by omega)|exact am rfl rfl (.inr (.inl ⟨rfl,(Ek _ ⟨by omega,by omega⟩).symm⟩))),?_⟩));exact Gu),?_⟩|refine⟨.inl (by kernel_rfl),?_⟩)))
     repeat first|refine out _ _ _ i1 [] ⟨hai1,hi1,by rw [← hu];exact dp (.inr (by simpa [ltP] using h2))⟩ ?_;(exact Gs rfl rfl rfl ⟨ai rfl,trivial⟩)|apply a6;rfl
    ·repeat apply az;rfl
     refine au ⟨by kernel_rfl,?_,?_⟩;(focus(repeat(first|exact Gu|apply cc;rfl|apply bN;rfl|refine⟨.inr (by(repeat(refine⟨(by first|exact aA (F.un _ rfl) (F.sz _ rfl) rfl rfl rfl (by omega) (by omega) (by omega)|exact am rfl rfl (.inr (.inl ⟨rfl,(Ek _ ⟨by omega,by omega⟩).symm⟩))),?_⟩));exact Gu),?_⟩|refine⟨.inl (by kernel_rfl),?_⟩)))
     repeat first|apply ah;rfl|apply aC;rfl;omega;omega
     refine ihu _ _ _ (i1+1) [] ⟨by omega,by omega,?_⟩ (by omega) ?_
     ·rw [← hu]
      exact(gR (by omega) (by simpa [ltP] using h2)).symm
     ·(exact Gs rfl rfl rfl ⟨ai rfl,trivial⟩)
   ·repeat first|apply az;rfl|refine bA rfl rfl ?_
    refine au ⟨by kernel_rfl,?_,?_⟩;(focus(repeat(first|exact Gu|apply oC;rfl|apply bN;rfl|refine⟨.inl rfl,?_⟩)))
    repeat first|refine out _ _ _ i1 [] ⟨hai1,hi1,by rw [← hu];exact dp (.inl (by omega))⟩ ?_;(exact Gs rfl rfl rfl ⟨ai rfl,trivial⟩)|apply a6;rfl
  rintro i1 ⟨hai1,hi1,hu⟩
  repeat apply ah;rfl
  refine cD rfl rfl rfl rfl ?_ ?_
  all_goals intro h1
  ·rw [mQ hu (by omega)] at ho
   repeat apply ah;rfl
   rw [← ho]
   ((apply bw Tryz.func122 (congrArg Array.toList Tryz.results122));(focus(repeat(first|exact Gk|apply Gm rfl)));refine⟨_,rfl,Ends.mk [] (Gh rfl) rfl rfl ?_⟩)
   exact⟨ai rfl,trivial⟩
  repeat first|apply ah;rfl|apply aC;rfl;omega;omega
  refine bq rfl rfl rfl rfl ?_ ?_
  all_goals intro h2
  ·rw [lj hu (by omega) (by omega)] at ho
   repeat apply ah;rfl
   rw [← ho]
   ((apply bw Tryz.func122 (congrArg Array.toList Tryz.results122));(focus(repeat(first|exact Gk|apply Gm rfl)));refine⟨_,rfl,Ends.mk [] (Gh rfl) rfl rfl ?_⟩)
   exact⟨ai rfl,trivial⟩
  repeat apply ah;rfl
  refine aS (by kernel_rfl) (by kernel_rfl) ?_
  repeat first|apply az;rfl|refine ba (am rfl rfl (.inr (.inl ⟨rfl,(Ek _ ⟨(by omega),(by omega)⟩).symm⟩))) rfl rfl rfl ?_|refine aX rfl rfl rfl (F.ag _ rfl) (recP) rfl (by(omega)) (by(omega)) ?_|refine c8 (bX (F.sz _ rfl) rfl rfl rfl (recP) rfl (by first|omega|(simp only [Em,ar];omega)) (by first|omega|(simp only [Em,ar];omega))) rfl rfl ?_|refine ak (q:=i1) rfl rfl rfl rfl (F.un _ rfl) (F.sz _ rfl) rfl (by omega) (by omega) (by omega) ?_|refine ak (q:=i1-1) rfl rfl rfl rfl (F.un _ rfl) (F.sz _ rfl) rfl (by omega) (by omega) (by omega) ?_
  refine au ⟨by kernel_rfl,?_,?_⟩;(focus(repeat(first|exact Gu|apply cc;rfl|apply bN;rfl|refine⟨.inr (by(repeat(refine⟨(by first|exact aA (F.un _ rfl) (F.sz _ rfl) rfl rfl rfl (by omega) (by omega) (by omega)|exact am rfl rfl (.inr (.inl ⟨rfl,(Ek _ ⟨by omega,by omega⟩).symm⟩))),?_⟩));exact Gu),?_⟩|refine⟨.inl (by kernel_rfl),?_⟩)))
  have hd1:(Sort.swp d0 i1 (i1-1)).size=n:=by rw [ar];exact hd0
  have e2: ∃ d2,(if i1-a≥2 then Sort.shiftDown ltP (i1-1) (Sort.swp d0 i1 (i1-1)) else Sort.swp d0 i1 (i1-1))=d2:=⟨_,rfl⟩
  obtain⟨d2,e2⟩:=e2
  have hps:=fun d3 e3=>mR (s:=s) (d3:=d3) hu (by omega) (by omega) e2 e3
  generalize hsw:Sort.swp d0 i1 (i1-1)=d1 at e2 hd1
  have hsw':(d0.setIfInBounds i1 d0[i1-1]!).setIfInBounds (i1-1) d0[i1]! =d1:=hsw
  rw [hsw']
  repeat first|apply ah;rfl|apply aC;rfl;omega;omega
  refine cL rfl rfl rfl rfl ?_ ?_
  all_goals intro h3
  ·rw [EQ (by omega)] at e2
   repeat first|apply ah;rfl|apply aC;rfl;omega;omega
   refine cM 1 (fun s1:Nat×Array El=> [(0,.slu 0 0 n),(1,.sc (.int .i64 (a:Int))),(2,.sc (.int .i64 (b:Int))),(3,cmpF),(9,.sc (.int .i64 (i1:Int))),(10,.sc (.int .i64 ((5-(s+1):Nat):Int))),(11,.sc (.int .i64 (s1.1:Int)))]) (fun s1=> [some (rowP n s1.2)]) (fun s1=>s1.1≤i1-1∧s1.2.size=n∧Sort.shiftDown ltP s1.1 s1.2=d2) (fun s1=>s1.1) (i1-1,d1) []
    1 (fun d':Array El=> [(0,.slu 0 0 n),(1,.sc (.int .i64 (a:Int))),(2,.sc (.int .i64 (b:Int))),(3,cmpF),(9,.sc (.int .i64 (i1:Int))),(10,.sc (.int .i64 ((5-(s+1):Nat):Int)))]) (fun d'=> [some (rowP n d')]) (fun d'=>d'.size=n∧d'=d2)
    (fun _=>rfl) (fun _=>rfl) ⟨EE _,hd1,e2⟩ ?_ (fun _=>rfl) (fun _=>rfl) ?_ ?_
   ·(refine⟨(Gh rfl),rfl,(by repeat(first|exact Gu|refine⟨rfl,?_⟩|refine⟨cO (by(omega)),?_⟩)),⟨ai rfl,trivial⟩⟩)
   ·rintro⟨j,d'⟩ ⟨hj,hd',hsd⟩ ihd out
    simp only at hj hd' hsd ihd ⊢
    repeat apply ah;rfl
    refine cL rfl rfl rfl rfl ?_ ?_
    all_goals intro h4
    ·obtain⟨j,rfl⟩: ∃ j',j=j'+1:=⟨j-1,by omega⟩
     repeat apply ah;rfl
     refine aS (by kernel_rfl) (by kernel_rfl) ?_
     repeat first|apply az;rfl|refine ba (am rfl rfl (.inr (.inl ⟨rfl,(Ek _ ⟨(by omega),(by omega)⟩).symm⟩))) rfl rfl rfl ?_|refine aX rfl rfl rfl (F.ag _ rfl) (recP) rfl (by(omega)) (by(omega)) ?_|refine ak (q:=j+1) rfl rfl rfl rfl (F.un _ rfl) (F.sz _ rfl) rfl (by omega) (by omega) (by omega) ?_|refine ak (q:=j) rfl rfl rfl rfl (F.un _ rfl) (F.sz _ rfl) rfl (by omega) (by omega) (by omega) ?_|refine bj rfl rfl rfl rfl (by kernel_rfl) rfl (Ctr.callV (cmp_spec d'[j+1]! d'[j]!) [] rfl (Gh rfl) rfl trivial rfl) ?_
     refine bz rfl rfl rfl rfl ?_ ?_
     all_goals intro h5
     ·repeat apply az;rfl
      refine au ⟨by kernel_rfl,?_,?_⟩;(focus(repeat(first|exact Gu|apply cc;rfl|apply bN;rfl|refine⟨.inr (by(repeat(refine⟨(by first|exact aA (F.un _ rfl) (F.sz _ rfl) rfl rfl rfl (by omega) (by omega) (by omega)|exact am rfl rfl (.inr (.inl ⟨rfl,(Ek _ ⟨by omega,by omega⟩).symm⟩))),?_⟩));exact Gu),?_⟩|refine⟨.inl (by kernel_rfl),?_⟩)))
      repeat apply ah;rfl
      refine aS (by kernel_rfl) (by kernel_rfl) ?_
      repeat first|apply az;rfl|refine ba (am rfl rfl (.inr (.inl ⟨rfl,(Ek _ ⟨(by omega),(by omega)⟩).symm⟩))) rfl rfl rfl ?_|refine aX rfl rfl rfl (F.ag _ rfl) (recP) rfl (by(omega)) (by(omega)) ?_|refine c8 (bX (F.sz _ rfl) rfl rfl rfl (recP) rfl (by first|omega|(simp only [Em,ar];omega)) (by first|omega|(simp only [Em,ar];omega))) rfl rfl ?_|refine ak (q:=j+1) rfl rfl rfl rfl (F.un _ rfl) (F.sz _ rfl) rfl (by omega) (by omega) (by omega) ?_|refine ak (q:=j) rfl rfl rfl rfl (F.un _ rfl) (F.sz _ rfl) rfl (by omega) (by omega) (by omega) ?_
      refine au ⟨by kernel_rfl,?_,?_⟩;(focus(repeat(first|exact Gu|apply cc;rfl|apply bN;rfl|refine⟨.inr (by(repeat(refine⟨(by first|exact aA (F.un _ rfl) (F.sz _ rfl) rfl rfl rfl (by omega) (by omega) (by omega)|exact am rfl rfl (.inr (.inl ⟨rfl,(Ek _ ⟨by omega,by omega⟩).symm⟩))),?_⟩));exact Gu),?_⟩|refine⟨.inl (by kernel_rfl),?_⟩)))
      repeat first|apply ah;rfl|apply aC;rfl;omega;omega
      refine ihd _ _ _ (j,Sort.swp d' (j+1) j) [] ⟨by simp only;omega,by rw [ar];exact hd',?_⟩ (by simp only;omega) ?_
      ·rw [← hsd]
       conv=>rhs;rw [Sort.shiftDown,EP (by simpa [ltP] using h5)]
      ·(refine⟨(Gh rfl),rfl,(by repeat(first|exact Gu|refine⟨rfl,?_⟩|refine⟨cO (by(omega)),?_⟩)),⟨ai rfl,trivial⟩⟩)
     ·repeat apply az;rfl
      refine au ⟨by kernel_rfl,?_,?_⟩;(focus(repeat(first|exact Gu|apply cc;rfl|apply bN;rfl|refine⟨.inr (by(repeat(refine⟨(by first|exact aA (F.un _ rfl) (F.sz _ rfl) rfl rfl rfl (by omega) (by omega) (by omega)|exact am rfl rfl (.inr (.inl ⟨rfl,(Ek _ ⟨by omega,by omega⟩).symm⟩))),?_⟩));exact Gu),?_⟩|refine⟨.inl (by kernel_rfl),?_⟩)))
      repeat first|refine out _ _ _ d' [] ⟨hd',by rw [← hsd,Sort.shiftDown,EQ (by simpa [ltP] using h5)]⟩ ?_;(exact Gs rfl rfl rfl ⟨ai rfl,trivial⟩)|apply a6;rfl
    ·obtain rfl:j=0:=by omega
     repeat first|refine out _ _ _ d' [] ⟨hd',hsd⟩ ?_;(exact Gs rfl rfl rfl ⟨ai rfl,trivial⟩)|apply a6;rfl
   rintro d2' ⟨hd2,rfl⟩
   repeat first|apply ah;rfl|apply aC;rfl;omega;omega
   refine cL rfl rfl rfl rfl ?_ ?_
   all_goals intro h6
   ·repeat first|apply ah;rfl|apply aC;rfl;omega;omega
    refine cM 1 (fun s1:Nat×Array El=> [(0,.slu 0 0 n),(1,.sc (.int .i64 (a:Int))),(2,.sc (.int .i64 (b:Int))),(3,cmpF),(9,.sc (.int .i64 (i1:Int))),(10,.sc (.int .i64 ((5-(s+1):Nat):Int))),(12,.sc (.int .i64 (s1.1:Int)))]) (fun s1=> [some (rowP n s1.2)]) (fun s1=>i1+1≤s1.1∧s1.1≤b∧s1.2.size=n∧Sort.shiftUp ltP b s1.1 s1.2=Sort.shiftUp ltP b (i1+1) d2') (fun s1=>b-s1.1) (i1+1,d2') []
     1 (fun d':Array El=> [(0,.slu 0 0 n),(1,.sc (.int .i64 (a:Int))),(2,.sc (.int .i64 (b:Int))),(3,cmpF),(9,.sc (.int .i64 (i1:Int))),(10,.sc (.int .i64 ((5-(s+1):Nat):Int)))]) (fun d'=> [some (rowP n d')]) (fun d'=>d'.size=n∧Sort.shiftUp ltP b (i1+1) d2'=d')
     (fun _=>rfl) (fun _=>rfl) ⟨EE _,by simp only;omega,hd2,rfl⟩ ?_ (fun _=>rfl) (fun _=>rfl) ?_ ?_
    ·(exact Gs rfl rfl rfl ⟨ai rfl,trivial⟩)
    ·rintro⟨j,d'⟩ ⟨hj,hjb,hd',hsd⟩ ihd out
     simp only at hj hjb hd' hsd ihd ⊢
     repeat apply ah;rfl
     refine bq rfl rfl rfl rfl ?_ ?_
     all_goals intro h4
     ·repeat apply ah;rfl
      refine aS (by kernel_rfl) (by kernel_rfl) ?_
      repeat first|apply az;rfl|refine ba (am rfl rfl (.inr (.inl ⟨rfl,(Ek _ ⟨(by omega),(by omega)⟩).symm⟩))) rfl rfl rfl ?_|refine aX rfl rfl rfl (F.ag _ rfl) (recP) rfl (by(omega)) (by(omega)) ?_|refine ak (q:=j) rfl rfl rfl rfl (F.un _ rfl) (F.sz _ rfl) rfl (by omega) (by omega) (by omega) ?_|refine ak (q:=j-1) rfl rfl rfl rfl (F.un _ rfl) (F.sz _ rfl) rfl (by omega) (by omega) (by omega) ?_|refine bj rfl rfl rfl rfl (by kernel_rfl) rfl (Ctr.callV (cmp_spec d'[j]! d'[j-1]!) [] rfl (Gh rfl) rfl trivial rfl) ?_
      refine bz rfl rfl rfl rfl ?_ ?_
      all_goals intro h5
      ·repeat apply az;rfl
       refine au ⟨by kernel_rfl,?_,?_⟩;(focus(repeat(first|exact Gu|apply cc;rfl|apply bN;rfl|refine⟨.inr (by(repeat(refine⟨(by first|exact aA (F.un _ rfl) (F.sz _ rfl) rfl rfl rfl (by omega) (by omega) (by omega)|exact am rfl rfl (.inr (.inl ⟨rfl,(Ek _ ⟨by omega,by omega⟩).symm⟩))),?_⟩));exact Gu),?_⟩|refine⟨.inl (by kernel_rfl),?_⟩)))
       repeat apply ah;rfl
       refine aS (by kernel_rfl) (by kernel_rfl) ?_
       repeat first|apply az;rfl|refine ba (am rfl rfl (.inr (.inl ⟨rfl,(Ek _ ⟨(by omega),(by omega)⟩).symm⟩))) rfl rfl rfl ?_|refine aX rfl rfl rfl (F.ag _ rfl) (recP) rfl (by(omega)) (by(omega)) ?_|refine c8 (bX (F.sz _ rfl) rfl rfl rfl (recP) rfl (by first|omega|(simp only [Em,ar];omega)) (by first|omega|(simp only [Em,ar];omega))) rfl rfl ?_|refine ak (q:=j) rfl rfl rfl rfl (F.un _ rfl) (F.sz _ rfl) rfl (by omega) (by omega) (by omega) ?_|refine ak (q:=j-1) rfl rfl rfl rfl (F.un _ rfl) (F.sz _ rfl) rfl (by omega) (by omega) (by omega) ?_
       refine au ⟨by kernel_rfl,?_,?_⟩;(focus(repeat(first|exact Gu|apply cc;rfl|apply bN;rfl|refine⟨.inr (by(repeat(refine⟨(by first|exact aA (F.un _ rfl) (F.sz _ rfl) rfl rfl rfl (by omega) (by omega) (by omega)|exact am rfl rfl (.inr (.inl ⟨rfl,(Ek _ ⟨by omega,by omega⟩).symm⟩))),?_⟩));exact Gu),?_⟩|refine⟨.inl (by kernel_rfl),?_⟩)))
       repeat first|apply ah;rfl|apply aC;rfl;omega;omega
       refine ihd _ _ _ (j+1,Sort.swp d' j (j-1)) [] ⟨by simp only;omega,by simp only;omega,by rw [ar];exact hd',?_⟩ (by simp only;omega) ?_
       ·rw [← hsd]
        exact(gt (by omega) (by simpa [ltP] using h5)).symm
       ·(exact Gs rfl rfl rfl ⟨ai rfl,trivial⟩)
      ·repeat apply az;rfl
       refine au ⟨by kernel_rfl,?_,?_⟩;(focus(repeat(first|exact Gu|apply cc;rfl|apply bN;rfl|refine⟨.inr (by(repeat(refine⟨(by first|exact aA (F.un _ rfl) (F.sz _ rfl) rfl rfl rfl (by omega) (by omega) (by omega)|exact am rfl rfl (.inr (.inl ⟨rfl,(Ek _ ⟨by omega,by omega⟩).symm⟩))),?_⟩));exact Gu),?_⟩|refine⟨.inl (by kernel_rfl),?_⟩)))
       repeat first|refine out _ _ _ d' [] ⟨hd',by rw [← hsd];exact cP (.inr (by simpa [ltP] using h5))⟩ ?_;(exact Gs rfl rfl rfl ⟨ai rfl,trivial⟩)|apply a6;rfl
     ·repeat first|refine out _ _ _ d' [] ⟨hd',by rw [← hsd];exact cP (.inl (by omega))⟩ ?_;(exact Gs rfl rfl rfl ⟨ai rfl,trivial⟩)|apply a6;rfl
    rintro d3 ⟨hd3,e3⟩
    repeat first|apply ah;rfl|apply aC;rfl;omega;omega
    refine ih _ _ _ ((s,i1),d3) [] ⟨by simp only;omega,hai1,hi1,hd3,by rw [← ho];exact(hps d3 (by rw [EQ (by omega)];exact e3)).symm⟩ (by simp only;omega) ?_
    (refine⟨(Gh rfl),rfl,(by repeat(first|exact Gu|refine⟨rfl,?_⟩|refine⟨cO (by(simp only;omega)),?_⟩)),⟨ai rfl,trivial⟩⟩)
   ·repeat first|apply ah;rfl|apply aC;rfl;omega;omega
    refine ih _ _ _ ((s,i1),d2') [] ⟨by simp only;omega,hai1,hi1,hd2,by rw [← ho];exact(hps d2' (by rw [EP (by omega)])).symm⟩ (by simp only;omega) ?_
    (refine⟨(Gh rfl),rfl,(by repeat(first|exact Gu|refine⟨rfl,?_⟩|refine⟨cO (by(simp only;omega)),?_⟩)),⟨ai rfl,trivial⟩⟩)
  ·rw [EP (by omega)] at e2
   subst e2
   have hd2:=hd1
   repeat first|apply ah;rfl|apply aC;rfl;omega;omega
   refine cL rfl rfl rfl rfl ?_ ?_
   all_goals intro h6
   ·repeat first|apply ah;rfl|apply aC;rfl;omega;omega
    refine cM 1 (fun s1:Nat×Array El=> [(0,.slu 0 0 n),(1,.sc (.int .i64 (a:Int))),(2,.sc (.int .i64 (b:Int))),(3,cmpF),(9,.sc (.int .i64 (i1:Int))),(10,.sc (.int .i64 ((5-(s+1):Nat):Int))),(12,.sc (.int .i64 (s1.1:Int)))]) (fun s1=> [some (rowP n s1.2)]) (fun s1=>i1+1≤s1.1∧s1.1≤b∧s1.2.size=n∧Sort.shiftUp ltP b s1.1 s1.2=Sort.shiftUp ltP b (i1+1) d1) (fun s1=>b-s1.1) (i1+1,d1) []
     1 (fun d':Array El=> [(0,.slu 0 0 n),(1,.sc (.int .i64 (a:Int))),(2,.sc (.int .i64 (b:Int))),(3,cmpF),(9,.sc (.int .i64 (i1:Int))),(10,.sc (.int .i64 ((5-(s+1):Nat):Int)))]) (fun d'=> [some (rowP n d')]) (fun d'=>d'.size=n∧Sort.shiftUp ltP b (i1+1) d1=d')
     (fun _=>rfl) (fun _=>rfl) ⟨EE _,by simp only;omega,hd2,rfl⟩ ?_ (fun _=>rfl) (fun _=>rfl) ?_ ?_
    ·(exact Gs rfl rfl rfl ⟨ai rfl,trivial⟩)
    ·rintro⟨j,d'⟩ ⟨hj,hjb,hd',hsd⟩ ihd out
     simp only at hj hjb hd' hsd ihd ⊢
     repeat apply ah;rfl
     refine bq rfl rfl rfl rfl ?_ ?_
     all_goals intro h4
     ·repeat apply ah;rfl
      refine aS (by kernel_rfl) (by kernel_rfl) ?_
      repeat first|apply az;rfl|refine ba (am rfl rfl (.inr (.inl ⟨rfl,(Ek _ ⟨(by omega),(by omega)⟩).symm⟩))) rfl rfl rfl ?_|refine aX rfl rfl rfl (F.ag _ rfl) (recP) rfl (by(omega)) (by(omega)) ?_|refine ak (q:=j) rfl rfl rfl rfl (F.un _ rfl) (F.sz _ rfl) rfl (by omega) (by omega) (by omega) ?_|refine ak (q:=j-1) rfl rfl rfl rfl (F.un _ rfl) (F.sz _ rfl) rfl (by omega) (by omega) (by omega) ?_|refine bj rfl rfl rfl rfl (by kernel_rfl) rfl (Ctr.callV (cmp_spec d'[j]! d'[j-1]!) [] rfl (Gh rfl) rfl trivial rfl) ?_
      refine bz rfl rfl rfl rfl ?_ ?_
      all_goals intro h5
      ·repeat apply az;rfl
       refine au ⟨by kernel_rfl,?_,?_⟩;(focus(repeat(first|exact Gu|apply cc;rfl|apply bN;rfl|refine⟨.inr (by(repeat(refine⟨(by first|exact aA (F.un _ rfl) (F.sz _ rfl) rfl rfl rfl (by omega) (by omega) (by omega)|exact am rfl rfl (.inr (.inl ⟨rfl,(Ek _ ⟨by omega,by omega⟩).symm⟩))),?_⟩));exact Gu),?_⟩|refine⟨.inl (by kernel_rfl),?_⟩)))
       repeat apply ah;rfl
       refine aS (by kernel_rfl) (by kernel_rfl) ?_
       repeat first|apply az;rfl|refine ba (am rfl rfl (.inr (.inl ⟨rfl,(Ek _ ⟨(by omega),(by omega)⟩).symm⟩))) rfl rfl rfl ?_|refine aX rfl rfl rfl (F.ag _ rfl) (recP) rfl (by(omega)) (by(omega)) ?_|refine c8 (bX (F.sz _ rfl) rfl rfl rfl (recP) rfl (by first|omega|(simp only [Em,ar];omega)) (by first|omega|(simp only [Em,ar];omega))) rfl rfl ?_|refine ak (q:=j) rfl rfl rfl rfl (F.un _ rfl) (F.sz _ rfl) rfl (by omega) (by omega) (by omega) ?_|refine ak (q:=j-1) rfl rfl rfl rfl (F.un _ rfl) (F.sz _ rfl) rfl (by omega) (by omega) (by omega) ?_
       refine au ⟨by kernel_rfl,?_,?_⟩;(focus(repeat(first|exact Gu|apply cc;rfl|apply bN;rfl|refine⟨.inr (by(repeat(refine⟨(by first|exact aA (F.un _ rfl) (F.sz _ rfl) rfl rfl rfl (by omega) (by omega) (by omega)|exact am rfl rfl (.inr (.inl ⟨rfl,(Ek _ ⟨by omega,by omega⟩).symm⟩))),?_⟩));exact Gu),?_⟩|refine⟨.inl (by kernel_rfl),?_⟩)))
       repeat first|apply ah;rfl|apply aC;rfl;omega;omega
       refine ihd _ _ _ (j+1,Sort.swp d' j (j-1)) [] ⟨by simp only;omega,by simp only;omega,by rw [ar];exact hd',?_⟩ (by simp only;omega) ?_
       ·rw [← hsd]
        exact(gt (by omega) (by simpa [ltP] using h5)).symm
       ·(exact Gs rfl rfl rfl ⟨ai rfl,trivial⟩)
      ·repeat apply az;rfl
       refine au ⟨by kernel_rfl,?_,?_⟩;(focus(repeat(first|exact Gu|apply cc;rfl|apply bN;rfl|refine⟨.inr (by(repeat(refine⟨(by first|exact aA (F.un _ rfl) (F.sz _ rfl) rfl rfl rfl (by omega) (by omega) (by omega)|exact am rfl rfl (.inr (.inl ⟨rfl,(Ek _ ⟨by omega,by omega⟩).symm⟩))),?_⟩));exact Gu),?_⟩|refine⟨.inl (by kernel_rfl),?_⟩)))
       repeat first|refine out _ _ _ d' [] ⟨hd',by rw [← hsd];exact cP (.inr (by simpa [ltP] using h5))⟩ ?_;(exact Gs rfl rfl rfl ⟨ai rfl,trivial⟩)|apply a6;rfl
     ·repeat first|refine out _ _ _ d' [] ⟨hd',by rw [← hsd];exact cP (.inl (by omega))⟩ ?_;(exact Gs rfl rfl rfl ⟨ai rfl,trivial⟩)|apply a6;rfl
    rintro d3 ⟨hd3,e3⟩
    repeat first|apply ah;rfl|apply aC;rfl;omega;omega
    refine ih _ _ _ ((s,i1),d3) [] ⟨by simp only;omega,hai1,hi1,hd3,by rw [← ho];exact(hps d3 (by rw [EQ (by omega)];exact e3)).symm⟩ (by simp only;omega) ?_
    (refine⟨(Gh rfl),rfl,(by repeat(first|exact Gu|refine⟨rfl,?_⟩|refine⟨cO (by(simp only;omega)),?_⟩)),⟨ai rfl,trivial⟩⟩)
   ·repeat first|apply ah;rfl|apply aC;rfl;omega;omega
    refine ih _ _ _ ((s,i1),d1) [] ⟨by simp only;omega,hai1,hi1,hd2,by rw [← ho];exact(hps d1 (by rw [EP (by omega)])).symm⟩ (by simp only;omega) ?_
    (refine⟨(Gh rfl),rfl,(by repeat(first|exact Gu|refine⟨rfl,?_⟩|refine⟨cO (by(omega)),?_⟩)),⟨ai rfl,trivial⟩⟩)
 ·obtain rfl:s=0:=by omega
  repeat apply ah;rfl
  rw [← ho]
  ((apply bw Tryz.func122 (congrArg Array.toList Tryz.results122));(focus(repeat(first|exact Gk|apply Gm rfl)));refine⟨_,rfl,Ends.mk [] (Gh rfl) rfl rfl ?_⟩)
  exact⟨ai rfl,trivial⟩
end
end Ow
end Go.Proofs.YtelnglhodnoclaaGreat
end
section
namespace Go.Proofs.YtelnglhodnoclaaGreat
namespace Ow
open Go Go.Sy
def brk(a len m:Nat):Nat→UInt64×Array El→Nat→UInt64×Array El
 | 0,st,_=>st
 | k+1,st,i=>brk a len m k (Sort.breakStep a len m st i) (i+1)
theorem p0(n a b:Nat)(d:Array El)(hn:n<65536)(hd:d.size=n)(hab:a≤b)(hb:b≤n) :
 Ctr Tryz.prog 119 [.slu 0 0 n,.sc (.int .i64 (a:Int)),.sc (.int .i64 (b:Int)),cmpF] [rowP n d] (fun c=>c=⟨.tup [],[some (rowP n (Sort.breakPatterns d a b))]⟩):=by
 have eba:(b:Int)-(a:Int)=((b-a:Nat):Int):=by omega
 refine Gj Tryz.func119 rfl rfl ?_
 repeat first|apply ah;rfl|apply aC;rfl;omega;omega
 rw [eba]
 have ebp:Sort.breakPatterns d a b=Sort.breakPatterns d a b:=rfl
 conv at ebp=>rhs;unfold Sort.breakPatterns
 simp only at ebp
 refine cL rfl rfl rfl rfl ?_ ?_
 all_goals intro h1
 ·rw [EQ (by omega)] at ebp
  have ep:Sort.bitsLen (b-a)≤16:=lV (by omega)
  have eq1:(1:Nat) <<< Sort.bitsLen (b-a)=2 ^ Sort.bitsLen (b-a):=by rw [Nat.shiftLeft_eq,Nat.one_mul]
  have eq2:2 ^ Sort.bitsLen (b-a)≤2*(b-a):=Sort.two_pow_bitsLen_le (by omega)
  have eq3:0<2 ^ Sort.bitsLen (b-a):=Nat.pow_pos (by decide)
  repeat first|apply ah;rfl|apply aM;rfl;(focus((repeat(exact ae));done));rfl|apply aC;rfl;omega;omega|refine bO (ij rfl rfl (by omega) (dP (by omega) (by omega) (by omega))) rfl rfl rfl ?_|refine bO (cK (F.un _ rfl) (F.un _ rfl) rfl (show _=((b-a:Nat):Int)from Ge _ ⟨by omega,by omega⟩)) rfl rfl rfl ?_|refine ey (qH (b-a) (by omega)) [] rfl rfl rfl (by kernel_rfl) rfl (Gh rfl) rfl trivial ?_
  rw [eq1] at ebp
  generalize hm:2 ^ Sort.bitsLen (b-a)=m at ebp eq2 eq3
  have e4:(a:Int)+((b-a:Nat):Int) / 4*2-1=((a+(b-a) / 4*2-1:Nat):Int):=by omega
  rw [e4]
  have hbase:a+(b-a) / 4*2-1+3≤b:=by omega
  have hlt:0<a+(b-a) / 4*2:=by omega
  generalize hbs:a+(b-a) / 4*2-1=base at ebp hbase
  have ht:Sort.breakPatterns d a b=(brk a (b-a) m 3 (UInt64.ofNat (b-a),d) base).2:=ebp
  refine cS 2 (fun s:(Nat×UInt64)×Array El=> [(0,.slu 0 0 n),(1,.sc (.int .i64 (a:Int))),(8,.sc (.int .i64 ((b-a:Nat):Int))),(9,.ptr 1 0),(10,.sc (.int .u64 (m:Int))),(11,.sc (.int .i64 ((base+3-s.1.1:Nat):Int)))]) (fun s=> [some (rowP n s.2),some (xsO s.1.2.toNat)]) (fun s=>s.1.1≤3∧s.2.size=n∧(brk a (b-a) m s.1.1 (s.1.2,s.2) (base+3-s.1.1)).2=Sort.breakPatterns d a b) (fun s=>s.1.1) ((3,UInt64.ofNat (b-a)),d) [1]
   (fun _=>rfl) ⟨EE _,hd,by rw [ht];rfl⟩ ?_ (fun _=>rfl) (fun _=>rfl) ?_
  ·have e0:(UInt64.ofNat (b-a)).toNat=b-a:=by rw [UInt64.toNat_ofNat',Nat.mod_eq_of_lt (by omega)]
   rw [e0]
   (refine⟨(Gh rfl),rfl,(by repeat(first|exact Gu|refine⟨rfl,?_⟩)),(by repeat(first|exact Gu|refine⟨ai rfl,?_⟩|refine⟨co rfl,?_⟩))⟩)
  rintro⟨⟨s,r⟩,d1⟩ ⟨hs,hd1,ho⟩ ih
  simp only at hs hd1 ho ih ⊢
  repeat first|apply ah;rfl|apply aC;rfl;omega;omega|refine bO (ij rfl rfl (by omega) (dP (by omega) (by omega) (by omega))) rfl rfl rfl ?_
  refine lK rfl rfl rfl rfl ?_ ?_
  all_goals intro h2
  ·obtain⟨s,rfl⟩: ∃ s',s=s'+1:=⟨s-1,by omega⟩
   have hr:=UInt64.toNat_lt r
   have hnx:=Sort.xorNextN_lt r.toNat hr
   have hxn:=Sort.xorNext_toNat r
   have hst:Sort.breakStep a (b-a) m (r,d1) (base+3-(s+1))=(Sort.xorNext r,Sort.swp d1 (base+3-(s+1)) (a+(if(Sort.xorNext r).toNat &&& (m-1)≥b-a then((Sort.xorNext r).toNat &&& (m-1))-(b-a) else(Sort.xorNext r).toNat &&& (m-1)))):=rfl
   have ho':(brk a (b-a) m s (Sort.breakStep a (b-a) m (r,d1) (base+3-(s+1))) (base+3-s)).2=Sort.breakPatterns d a b:=by
    rw [← ho,brk,show base+3-(s+1)+1=base+3-s by omega]
   rw [hst] at ho'
   rw [hxn] at ho'
   have hmw:IntKind.u64.wrap ((m:Int)-1)=((m-1:Nat):Int):=by
    rw [Ge _ ⟨by omega,by omega⟩]
    omega
   have hand:=andU (a:=Sort.xorNextN r.toNat) (b:=m-1) hnx (by omega)
   have hle:Sort.xorNextN r.toNat &&& (m-1)≤m-1:=Nat.and_le_right
   generalize hoo:Sort.xorNextN r.toNat &&& (m-1)=o at hand hle ho'
   repeat first|apply ah;rfl|refine aQ rfl rfl rfl (by kernel_rfl) (Ctr.bF (qO r.toNat hr) [1] rfl (Gh rfl) rfl (by repeat(first|exact Gu|refine⟨co rfl,?_⟩)) rfl (by repeat(first|exact Gu|refine⟨bD (fun _=>rfl),?_⟩)) (fun _=>rfl) rfl rfl) ?_
   refine bO (am rfl rfl (.inr (.inl ⟨rfl,rfl⟩))) rfl rfl rfl ?_
   rw [hmw]
   refine bO (lg rfl rfl (.inl rfl) hand) rfl rfl rfl ?_
   repeat first|apply ah;rfl|refine bO (cK (F.un _ rfl) (F.un _ rfl) rfl (show _=(o:Int)from Ek _ ⟨by omega,by omega⟩)) rfl rfl rfl ?_
   refine cL rfl rfl rfl rfl ?_ ?_
   all_goals intro h3
   ·rw [EQ (by omega)] at ho'
    repeat first|apply ah;rfl|apply aC;rfl;omega;omega
    refine aS (by kernel_rfl) (by kernel_rfl) ?_
    repeat first|apply az;rfl|refine ba (am rfl rfl (.inl ⟨rfl,(Ek _ ⟨(by omega),(by omega)⟩).symm⟩)) rfl rfl rfl ?_|refine aX rfl rfl rfl (F.ag _ rfl) (recP) rfl (by(omega)) (by(omega)) ?_|refine c8 (bX (F.sz _ rfl) rfl rfl rfl (recP) rfl (by first|omega|(simp only [Em,ar];omega)) (by first|omega|(simp only [Em,ar];omega))) rfl rfl ?_|refine ak (q:=base+3-(s+1)) rfl rfl rfl rfl (F.un _ rfl) (F.sz _ rfl) rfl (by omega) (by omega) (by omega) ?_|refine ak (q:=a+(o-(b-a))) rfl rfl rfl rfl (F.un _ rfl) (F.sz _ rfl) rfl (by omega) (by omega) (by omega) ?_
    refine au ⟨by kernel_rfl,?_,?_⟩;(focus(repeat(first|exact Gu|apply cc;rfl|apply bN;rfl|refine⟨.inr (by(repeat(refine⟨(by first|exact aA (F.un _ rfl) (F.sz _ rfl) rfl rfl rfl (by omega) (by omega) (by omega)|exact am rfl rfl (.inl ⟨rfl,(Ek _ ⟨by omega,by omega⟩).symm⟩)),?_⟩));exact Gu),?_⟩|refine⟨.inl (by kernel_rfl),?_⟩)))
    repeat first|apply ah;rfl|apply aC;rfl;omega;omega
    refine ih _ _ _ ((s,Sort.xorNext r),Sort.swp d1 (base+3-(s+1)) (a+(o-(b-a)))) [1] ⟨by simp only;omega,by rw [ar];exact hd1,ho'⟩ (by simp only;omega) ?_
    rw [hxn]
    (refine⟨(Gh rfl),rfl,(by repeat(first|exact Gu|refine⟨rfl,?_⟩|refine⟨cO (by(simp only;omega)),?_⟩)),(by repeat(first|exact Gu|refine⟨ai rfl,?_⟩|refine⟨co rfl,?_⟩))⟩)
   ·rw [EP (by omega)] at ho'
    repeat apply ah;rfl
    refine aS (by kernel_rfl) (by kernel_rfl) ?_
    repeat first|apply az;rfl|refine ba (am rfl rfl (.inl ⟨rfl,(Ek _ ⟨(by omega),(by omega)⟩).symm⟩)) rfl rfl rfl ?_|refine aX rfl rfl rfl (F.ag _ rfl) (recP) rfl (by(omega)) (by(omega)) ?_|refine c8 (bX (F.sz _ rfl) rfl rfl rfl (recP) rfl (by first|omega|(simp only [Em,ar];omega)) (by first|omega|(simp only [Em,ar];omega))) rfl rfl ?_|refine ak (q:=base+3-(s+1)) rfl rfl rfl rfl (F.un _ rfl) (F.sz _ rfl) rfl (by omega) (by omega) (by omega) ?_|refine ak (q:=a+o) rfl rfl rfl rfl (F.un _ rfl) (F.sz _ rfl) rfl (by omega) (by omega) (by omega) ?_
    refine au ⟨by kernel_rfl,?_,?_⟩;(focus(repeat(first|exact Gu|apply cc;rfl|apply bN;rfl|refine⟨.inr (by(repeat(refine⟨(by first|exact aA (F.un _ rfl) (F.sz _ rfl) rfl rfl rfl (by omega) (by omega) (by omega)|exact am rfl rfl (.inl ⟨rfl,(Ek _ ⟨by omega,by omega⟩).symm⟩)),?_⟩));exact Gu),?_⟩|refine⟨.inl (by kernel_rfl),?_⟩)))
    repeat first|apply ah;rfl|apply aC;rfl;omega;omega
    refine ih _ _ _ ((s,Sort.xorNext r),Sort.swp d1 (base+3-(s+1)) (a+o)) [1] ⟨by simp only;omega,by rw [ar];exact hd1,ho'⟩ (by simp only;omega) ?_
    rw [hxn]
    (refine⟨(Gh rfl),rfl,(by repeat(first|exact Gu|refine⟨rfl,?_⟩|refine⟨cO (by(simp only;omega)),?_⟩)),(by repeat(first|exact Gu|refine⟨ai rfl,?_⟩|refine⟨co rfl,?_⟩))⟩)
  ·obtain rfl:s=0:=by omega
   repeat apply ah;rfl
   ((apply jI Tryz.func119 (congrArg Array.toList Tryz.results119));(focus(repeat(exact Gk)));refine⟨_,rfl,Ends.mk [] (Gh rfl) rfl rfl ?_⟩)
   rw [← ho]
   exact⟨ai rfl,trivial⟩
 ·rw [EP (by omega)] at ebp
  repeat apply ah;rfl
  ((apply jI Tryz.func119 (congrArg Array.toList Tryz.results119));(focus(repeat(exact Gk)));refine⟨_,rfl,Ends.mk [] (Gh rfl) rfl rfl ?_⟩)
  rw [ebp]
  exact⟨ai rfl,trivial⟩
end Ow
end Go.Proofs.YtelnglhodnoclaaGreat
end
section
namespace Go.Proofs.YtelnglhodnoclaaGreat
namespace Ow
open Go Go.Sy
section
variable {a b:Nat}{d d3 d4:ArP}{limit mid pivot:Nat}{wb wp:Bool}{lt:El→El→Bool}
theorem sF(h:b-a≤12):Sort.pdq lt d a b limit wb wp=Sort.insertionSort lt d a b:=by rw [Sort.pdq,EQ h]
theorem py(h: ¬ b-a≤12)(h0:limit=0):Sort.pdq lt d a b limit wb wp=Sort.heapSort lt d a b:=by rw [Sort.pdq,EP h,EQ h0]
def dv(lt:El→El→Bool)(d3:ArP)(a b pivot limit:Nat)(wb wp:Bool):ArP:=
 if a>0 && !lt d3[a-1]! d3[pivot]! then
  match Sort.partitionEqual lt d3 a b pivot with
  | (mid,d4)=>if _h:a<mid∧mid≤b then Sort.pdq lt d4 mid b limit wb wp else d4
 else
  match Sort.partition lt d3 a b pivot with
  | (mid,alreadyPartitioned,d4)=>
    if _h:a≤mid∧mid<b then
     if mid-a<b-mid then
      Sort.pdq lt (Sort.pdq lt d4 a mid limit true true) (mid+1) b limit (decide (mid-a≥(b-a) / 8)) alreadyPartitioned
     else
      Sort.pdq lt (Sort.pdq lt d4 (mid+1) b limit true true) a mid limit (decide (b-mid≥(b-a) / 8)) alreadyPartitioned
    else d4
theorem xf{d1 d2:ArP}{limit1:Nat}{c:Nat×Sort.Hint}{hint:Sort.Hint}{pi:ArP×Bool}(h: ¬ b-a≤12)(h0: ¬ limit=0)
 (e1:d1=(if(!wb)=true then Sort.breakPatterns d a b else d)) (el:limit1=(if(!wb)=true then limit-1 else limit)) (ec:Sort.choosePivot lt d1 a b=c)
 (e2:d2=(if c.2 = .decreasing then Sort.reverseRange d1 a b else d1)) (ep:pivot=(if c.2 = .decreasing then(b-1)-(c.1-a) else c.1)) (eh:hint=(if c.2 = .decreasing then .increasing else c.2))
 (ei:(if(wb && wp && decide (hint = .increasing))=true then Sort.partialInsertionSort lt d2 a b else(d2,false))=pi) :
 Sort.pdq lt d a b limit wb wp=if pi.2=true then pi.1 else dv lt pi.1 a b pivot limit1 wb wp:=by
 subst e1 el ec e2 ep eh ei
 rw [Sort.pdq,EP h,EP h0]
 rfl
theorem sk(h:(decide (a>0) && !lt d3[a-1]! d3[pivot]!)=true)(hx:Sort.partitionEqual lt d3 a b pivot=(mid,d4))(hm:a<mid∧mid≤b) :
 dv lt d3 a b pivot limit wb wp=Sort.pdq lt d4 mid b limit wb wp:=by
 unfold dv
 rw [EQ h,hx]
 simp only [dif_pos hm]
theorem mH{ap:Bool}(h: ¬ (decide (a>0) && !lt d3[a-1]! d3[pivot]!)=true)(hx:Sort.partition lt d3 a b pivot=(mid,ap,d4))(hm:a≤mid∧mid<b)(hl:mid-a<b-mid) :
 dv lt d3 a b pivot limit wb wp=Sort.pdq lt (Sort.pdq lt d4 a mid limit true true) (mid+1) b limit (decide (mid-a≥(b-a) / 8)) ap:=by
 unfold dv
 rw [EP h,hx]
 simp only [dif_pos hm,EQ hl]
theorem k9{ap:Bool}(h: ¬ (decide (a>0) && !lt d3[a-1]! d3[pivot]!)=true)(hx:Sort.partition lt d3 a b pivot=(mid,ap,d4))(hm:a≤mid∧mid<b)(hl: ¬ mid-a<b-mid) :
 dv lt d3 a b pivot limit wb wp=Sort.pdq lt (Sort.pdq lt d4 (mid+1) b limit true true) a mid limit (decide (b-mid≥(b-a) / 8)) ap:=by
 unfold dv
 rw [EP h,hx]
 simp only [dif_pos hm,EP hl]
theorem px(n:Nat)(hn:n<65536): ∀ (k a b limit:Nat) (d:ArP),b-a=k→a≤b→b≤n→d.size=n→limit<4611686018427387904→Sort.Below ltP a b d →
 Ctr Tryz.prog 99 [.slu 0 0 n,.sc (.int .i64 (a:Int)),.sc (.int .i64 (b:Int)),.sc (.int .i64 (limit:Int)),cmpF] [rowP n d] (fun c=>c=⟨.tup [],[some (rowP n (Sort.pdq ltP d a b limit true true))]⟩):=by
 intro k
 induction k using Nat.strongRecOn with
 | _ k ihk=>
 intro a b limit d hk hab hb hd hl hB
 refine Gj Tryz.func99 rfl rfl ?_
 repeat apply ah;rfl
 refine cS 1 (fun s:((Nat×Nat)×Nat)×((Bool×Bool)×ArP)=> [(0,.slu 0 0 n),(1,.sc (.int .i64 (s.1.1.1:Int))),(2,.sc (.int .i64 (s.1.1.2:Int))),(3,.sc (.int .i64 (s.1.2:Int))),(4,cmpF),(10,.sc (.bool s.2.1.1)),(11,.sc (.bool s.2.1.2))]) (fun s=> [some (rowP n s.2.2)])
  (fun s=>s.1.1.1≤s.1.1.2∧s.1.1.2≤n∧s.1.1.2-s.1.1.1≤k∧s.2.2.size=n∧s.1.2<4611686018427387904∧Sort.Below ltP s.1.1.1 s.1.1.2 s.2.2∧Sort.pdq ltP s.2.2 s.1.1.1 s.1.1.2 s.1.2 s.2.1.1 s.2.1.2=Sort.pdq ltP d a b limit true true) (fun s=>s.1.1.2-s.1.1.1) (((a,b),limit),((true,true),d)) []
  (fun _=>rfl) ⟨hab,hb,Nat.le_of_eq hk,hd,hl,hB,rfl⟩ ?_ (fun _=>rfl) (fun _=>rfl) ?_
 ·(exact Gs rfl rfl rfl ⟨ai rfl,trivial⟩)
 rintro⟨⟨⟨a1,b1⟩,l1⟩,⟨⟨wb,wp⟩,d1⟩⟩ ⟨hab1,hb1,hk1,hd1,hl1,hB1,ho⟩ ih
 simp only at hab1 hb1 hk1 hd1 hl1 hB1 ho ih ⊢
 have eba:(b1:Int)-(a1:Int)=((b1-a1:Nat):Int):=by omega
 repeat first|apply ah;rfl|apply aC;rfl;omega;omega
 rw [eba]
 refine lK rfl rfl rfl rfl ?_ ?_
 all_goals intro h1
 ·rw [sF (by omega)] at ho
  repeat first|apply ah;rfl|refine aQ rfl rfl rfl (by kernel_rfl) (Ctr.bF (pN n a1 b1 d1 (by omega) hd1 hab1 hb1) [0] rfl (Gh rfl) rfl ⟨ai rfl,trivial⟩ rfl (by repeat(first|exact Gu|refine⟨aG,?_⟩)) (fun _=>rfl) rfl rfl) ?_
  ((apply bw Tryz.func99 (congrArg Array.toList Tryz.results99));(focus(repeat(exact Gk)));refine⟨_,rfl,Ends.mk [] (Gh rfl) rfl rfl ?_⟩)
  rw [← ho]
  exact⟨ai rfl,trivial⟩
 repeat apply ah;rfl
 refine cD rfl rfl rfl rfl ?_ ?_
 all_goals intro h2
 ·rw [py (by omega) (by omega)] at ho
  repeat first|apply ah;rfl|refine aQ rfl rfl rfl (by kernel_rfl) (Ctr.bF (nk n a1 b1 d1 (by omega) hd1 hab1 hb1) [0] rfl (Gh rfl) rfl ⟨ai rfl,trivial⟩ rfl (by repeat(first|exact Gu|refine⟨aG,?_⟩)) (fun _=>rfl) rfl rfl) ?_
  ((apply bw Tryz.func99 (congrArg Array.toList Tryz.results99));(focus(repeat(exact Gk)));refine⟨_,rfl,Ends.mk [] (Gh rfl) rfl rfl ?_⟩)
  rw [← ho]
  exact⟨ai rfl,trivial⟩
 repeat apply a6;rfl
 refine uJ 1 (fun s:Nat×ArP=> [(0,.slu 0 0 n),(1,.sc (.int .i64 (a1:Int))),(2,.sc (.int .i64 (b1:Int))),(3,.sc (.int .i64 (s.1:Int))),(4,cmpF),(10,.sc (.bool wb)),(11,.sc (.bool wp)),(12,.sc (.int .i64 ((b1-a1:Nat):Int)))]) (fun s=> [some (rowP n s.2)])
  (fun s=>s.1=(if(!wb)=true then l1-1 else l1)∧s.2=(if(!wb)=true then Sort.breakPatterns d1 a1 b1 else d1)) (fun _=>rfl) rfl (fun _=>rfl) (fun _=>rfl) ?_ ?_ ?_
 ·intro hw out
  repeat first|refine out _ _ _ (l1-1,Sort.breakPatterns d1 a1 b1) [] ⟨by rw [EQ hw],by rw [EQ hw]⟩ ?_;(refine⟨(Gh rfl),rfl,(by repeat(first|exact Gu|refine⟨rfl,?_⟩|refine⟨cO (by(omega)),?_⟩)),⟨ai rfl,trivial⟩⟩)|apply a6;rfl|apply aC;rfl;omega;omega|refine aQ rfl rfl rfl (by kernel_rfl) (Ctr.bF (p0 n a1 b1 d1 hn hd1 hab1 hb1) [0] rfl (Gh rfl) rfl ⟨ai rfl,trivial⟩ rfl (by repeat(first|exact Gu|refine⟨aG,?_⟩)) (fun _=>rfl) rfl rfl) ?_
 ·intro hw out
  repeat first|refine out _ _ _ (l1,d1) [] ⟨by rw [hw];rfl,by rw [hw];rfl⟩ ?_;(exact Gs rfl rfl rfl ⟨ai rfl,trivial⟩)|apply a6;rfl
 rintro⟨l2,d2⟩ ⟨el,ed⟩
 simp only at el ed ⊢
 have hl2:l2<4611686018427387904:=by rw [el];split <;> omega
 have hpd:Sort.PermIn a1 b1 d1 d2:=by
  rw [ed]
  split
  ·exact Sort.breakPatterns_holds d1 a1 b1 hab1 (by omega)
  ·exact Sort.permIn_refl d1 a1 b1
 have hd2:d2.size=n:=by rw [hpd.1];exact hd1
 have hB2:Sort.Below ltP a1 b1 d2:=hB1.perm (by omega) hpd
 have hpv:=pu n a1 b1 d2 (by omega) hd2 (by omega) hb1
 have hpr:=Sort.choosePivot_holds ltP d2 a1 b1 (by omega)
 have hgo:=fun d3 pivot hint pi=>xf (lt:=ltP) (d:=d1) (d1:=d2) (d2:=d3) (a:=a1) (b:=b1) (limit:=l1) (limit1:=l2) (pivot:=pivot) (wb:=wb) (wp:=wp) (c:=Sort.choosePivot ltP d2 a1 b1) (hint:=hint) (pi:=pi) (by omega) (by omega) ed el rfl
 generalize Sort.choosePivot ltP d2 a1 b1=c at hpv hpr hgo
 obtain⟨p,hint⟩:=c
 simp only at hpv hpr hgo
 repeat first|apply ah;rfl|refine aQ rfl rfl rfl (by kernel_rfl) (Ctr.bF (hpv) [0] rfl (Gh rfl) rfl ⟨ai rfl,trivial⟩ rfl (by repeat(first|exact Gu|refine⟨aG,?_⟩)) (fun _=>rfl) rfl rfl) ?_
 refine bO (cu rfl rfl (.inl ⟨rfl,rfl⟩)) rfl rfl rfl ?_
 rw [rh]
 repeat apply a6;rfl
 refine uJ 1 (fun s:(Nat×Sort.Hint)×ArP=> [(0,.slu 0 0 n),(1,.sc (.int .i64 (a1:Int))),(2,.sc (.int .i64 (b1:Int))),(3,.sc (.int .i64 (l2:Int))),(4,cmpF),(10,.sc (.bool wb)),(11,.sc (.bool wp)),(12,.sc (.int .i64 ((b1-a1:Nat):Int))),(13,.sc (.int .i64 (s.1.1:Int))),(14,.sc (.int .i64 (xY s.1.2)))]) (fun s=> [some (rowP n s.2)])
  (fun s=>s.2=(if hint = .decreasing then Sort.reverseRange d2 a1 b1 else d2)∧s.1.1=(if hint = .decreasing then(b1-1)-(p-a1) else p)∧s.1.2=(if hint = .decreasing then .increasing else hint)) (fun _=>rfl) rfl (fun _=>rfl) (fun _=>rfl) ?_ ?_ ?_
 ·intro hw out
  have hw:=E1 hw
  repeat first|refine out _ _ _ (((b1-1)-(p-a1),.increasing),Sort.reverseRange d2 a1 b1) [] ⟨by rw [EQ hw],by rw [EQ hw],by rw [EQ hw]⟩ ?_;(refine⟨(Gh rfl),rfl,(by repeat(first|exact Gu|refine⟨rfl,?_⟩|refine⟨cO (by(simp only;omega)),?_⟩)),⟨ai rfl,trivial⟩⟩)|apply a6;rfl|apply aC;rfl;omega;omega|refine aQ rfl rfl rfl (by kernel_rfl) (Ctr.bF (pj n a1 b1 d2 (by omega) hd2 (by omega) hb1) [0] rfl (Gh rfl) rfl ⟨ai rfl,trivial⟩ rfl (by repeat(first|exact Gu|refine⟨aG,?_⟩)) (fun _=>rfl) rfl rfl) ?_
 ·intro hw out
  have hw:=of_decide_eq_false hw
  repeat first|refine out _ _ _ ((p,hint),d2) [] ⟨by rw [EP hw],by rw [EP hw],by rw [EP hw]⟩ ?_;(exact Gs rfl rfl rfl ⟨ai rfl,trivial⟩)|apply a6;rfl
 rintro⟨⟨pv,hint2⟩,d3⟩ ⟨ed3,epv,ehi⟩
 simp only at ed3 epv ehi ⊢
 have hpd3:Sort.PermIn a1 b1 d2 d3:=by
  rw [ed3]
  split
  ·exact Sort.reverseRange_holds d2 a1 b1 hab1 (by omega)
  ·exact Sort.permIn_refl d2 a1 b1
 have hd3:d3.size=n:=by rw [hpd3.1];exact hd2
 have hB3:Sort.Below ltP a1 b1 d3:=hB2.perm (by omega) hpd3
 have hpv1:a1≤pv∧pv<b1:=by rw [epv];split <;> omega
 have hgo:=fun pi=>hgo d3 pv hint2 pi ed3 epv ehi
 (repeat refine jG ?_)
 refine oW 1 (fun _:Unit=> [(0,.slu 0 0 n),(1,.sc (.int .i64 (a1:Int))),(2,.sc (.int .i64 (b1:Int))),(3,.sc (.int .i64 (l2:Int))),(4,cmpF),(10,.sc (.bool wb)),(11,.sc (.bool wp)),(12,.sc (.int .i64 ((b1-a1:Nat):Int))),(13,.sc (.int .i64 (pv:Int))),(75,.sc (.bool (wb && wp && decide (hint2 = .increasing))))]) (fun _=> [some (rowP n d3)])
  (fun _=>True) (fun _=>rfl) (fun _=>rfl) (fun _=>rfl) ?_ ?_
 ·intro out
  clear ih ihk ho hgo ehi ed el hpr hpv
  cases wb <;> cases wp <;> cases hint2 <;> (repeat(first|refine out _ _ _ () [] trivial ?_;(exact Gs rfl rfl rfl ⟨ai rfl,trivial⟩)|apply a6;rfl|refine bO (cu rfl rfl (.inl ⟨rfl,rfl⟩)) rfl rfl rfl ?_))
 rintro _ -
 (repeat refine jG ?_)
 refine uJ 1 (fun d':ArP=> [(0,.slu 0 0 n),(1,.sc (.int .i64 (a1:Int))),(2,.sc (.int .i64 (b1:Int))),(3,.sc (.int .i64 (l2:Int))),(4,cmpF),(10,.sc (.bool wb)),(11,.sc (.bool wp)),(12,.sc (.int .i64 ((b1-a1:Nat):Int))),(13,.sc (.int .i64 (pv:Int)))]) (fun d'=> [some (rowP n d')])
  (fun d'=>d'.size=n∧Sort.Below ltP a1 b1 d'∧Sort.pdq ltP d1 a1 b1 l1 wb wp=dv ltP d' a1 b1 pv l2 wb wp) (fun _=>rfl) rfl (fun _=>rfl) (fun _=>rfl) ?_ ?_ ?_
 ·intro hw out
  have hps:=mS n a1 b1 d3 (by omega) hd3 (by omega) hb1
  have hpp:=(Sort.partialInsertionSort_holds CS d3 a1 b1 (by omega) (by omega) hB3).1
  have hgo:=hgo _ (by rw [EQ hw])
  generalize Sort.partialInsertionSort ltP d3 a1 b1=pi at hps hpp hgo
  obtain⟨d4,done⟩:=pi
  simp only at hps hpp hgo
  cases done
  ·rw [EP (by decide)] at hgo
   repeat first|refine out _ _ _ d4 [] ⟨by rw [hpp.1];exact hd3,hB3.perm (by omega) hpp,hgo⟩ ?_;(exact Gs rfl rfl rfl ⟨ai rfl,trivial⟩)|apply a6;rfl|refine aQ rfl rfl rfl (by kernel_rfl) (Ctr.bF (hps) [0] rfl (Gh rfl) rfl ⟨ai rfl,trivial⟩ rfl (by repeat(first|exact Gu|refine⟨aG,?_⟩)) (fun _=>rfl) rfl rfl) ?_
  ·rw [EQ rfl] at hgo
   repeat first|apply ah;rfl|refine aQ rfl rfl rfl (by kernel_rfl) (Ctr.bF (hps) [0] rfl (Gh rfl) rfl ⟨ai rfl,trivial⟩ rfl (by repeat(first|exact Gu|refine⟨aG,?_⟩)) (fun _=>rfl) rfl rfl) ?_
   ((apply bw Tryz.func99 (congrArg Array.toList Tryz.results99));(focus(repeat(exact Gk)));refine⟨_,rfl,Ends.mk [] (Gh rfl) rfl rfl ?_⟩)
   rw [← ho,hgo]
   exact⟨ai rfl,trivial⟩
 ·intro hw out
  have hgo:=hgo (d3,false) (by rw [hw];rfl)
  repeat first|refine out _ _ _ d3 [] ⟨hd3,hB3,by rw [hgo];rfl⟩ ?_;(exact Gs rfl rfl rfl ⟨ai rfl,trivial⟩)|apply a6;rfl
 rintro d4 ⟨hd4,hB4,hT⟩
 rw [hT] at ho
 clear hgo hT hB3 hd3 hpd3 hB2 hd2 hpd ed ed3 ehi epv el hpv
 have arm: ∀ t:Bool,(decide (a1>0) && !ltP d4[a1-1]! d4[pv]!)=t→(decide (a1>0) && !ltP d4[a1-1]! d4[pv]!)=t:=fun _ h=>h
 repeat apply ah;rfl
 refine oW 1 (fun _:Unit=> [(0,.slu 0 0 n),(1,.sc (.int .i64 (a1:Int))),(2,.sc (.int .i64 (b1:Int))),(3,.sc (.int .i64 (l2:Int))),(4,cmpF),(10,.sc (.bool wb)),(11,.sc (.bool wp)),(12,.sc (.int .i64 ((b1-a1:Nat):Int))),(13,.sc (.int .i64 (pv:Int))),(97,.sc (.bool (decide (a1>0) && !ltP d4[a1-1]! d4[pv]!)))]) (fun _=> [some (rowP n d4)])
  (fun _=>True) (fun _=>rfl) (fun _=>rfl) (fun _=>rfl) ?_ ?_
 ·intro out
  refine aS (by kernel_rfl) (by kernel_rfl) ?_
  repeat apply az;rfl
  refine fV rfl rfl rfl rfl ?_ ?_
  all_goals intro h5
  ·repeat first|apply az;rfl|refine ba (am rfl rfl (.inr (.inl ⟨rfl,(Ek _ ⟨(by omega),(by omega)⟩).symm⟩))) rfl rfl rfl ?_|refine aX rfl rfl rfl (F.ag _ rfl) (recP) rfl (by(omega)) (by(omega)) ?_|refine ak (q:=a1-1) rfl rfl rfl rfl (F.un _ rfl) (F.sz _ rfl) rfl (by omega) (by omega) (by omega) ?_|refine ak (q:=pv) rfl rfl rfl rfl (F.un _ rfl) (F.sz _ rfl) rfl (by omega) (by omega) (by omega) ?_|refine bj rfl rfl rfl rfl (by kernel_rfl) rfl (Ctr.callV (cmp_spec d4[a1-1]! d4[pv]!) [] rfl (Gh rfl) rfl trivial rfl) ?_
   refine bz rfl rfl rfl rfl ?_ ?_
   all_goals intro h6
   ·repeat apply az;rfl
    refine au ⟨by kernel_rfl,?_,?_⟩;(focus(repeat(first|exact Gu|apply cc;rfl|apply bN;rfl|refine⟨.inr (by(repeat(refine⟨(by first|exact aA (F.un _ rfl) (F.sz _ rfl) rfl rfl rfl (by omega) (by omega) (by omega)|exact am rfl rfl (.inr (.inl ⟨rfl,(Ek _ ⟨by omega,by omega⟩).symm⟩))),?_⟩));exact Gu),?_⟩|refine⟨.inl (by kernel_rfl),?_⟩)))
    have e5:(decide (a1>0) && !ltP d4[a1-1]! d4[pv]!)=false:=by simp [ltP,h6]
    rw [e5] at out
    repeat refine out _ _ _ () [] trivial ?_;(exact Gs rfl rfl rfl ⟨ai rfl,trivial⟩)
   ·repeat apply az;rfl
    refine au ⟨by kernel_rfl,?_,?_⟩;(focus(repeat(first|exact Gu|apply cc;rfl|apply bN;rfl|refine⟨.inr (by(repeat(refine⟨(by first|exact aA (F.un _ rfl) (F.sz _ rfl) rfl rfl rfl (by omega) (by omega) (by omega)|exact am rfl rfl (.inr (.inl ⟨rfl,(Ek _ ⟨by omega,by omega⟩).symm⟩))),?_⟩));exact Gu),?_⟩|refine⟨.inl (by kernel_rfl),?_⟩)))
    have e5:(decide (a1>0) && !ltP d4[a1-1]! d4[pv]!)=true:=by
     have:0<a1:=by omega
     simp [ltP,this,h6]
    rw [e5] at out
    repeat refine out _ _ _ () [] trivial ?_;(exact Gs rfl rfl rfl ⟨ai rfl,trivial⟩)
  ·repeat first|apply az;rfl|refine bA rfl rfl ?_
   refine au ⟨by kernel_rfl,?_,?_⟩;(focus(repeat(first|exact Gu|apply oC;rfl|apply bN;rfl|refine⟨.inl rfl,?_⟩)))
   have e5:(decide (a1>0) && !ltP d4[a1-1]! d4[pv]!)=false:=by
    have: ¬ 0<a1:=by omega
    simp [this]
   rw [e5] at out
   repeat refine out _ _ _ () [] trivial ?_;(exact Gs rfl rfl rfl ⟨ai rfl,trivial⟩)
 rintro _ -
 cases h7:(decide (a1>0) && !ltP d4[a1-1]! d4[pv]!)
 ·have hps:=mW n a1 b1 pv d4 (by omega) hd4 hpv1.1 hpv1.2 hb1
  obtain⟨mid,ap,d5,hx⟩: ∃ mid ap,∃ d5,Sort.partition ltP d4 a1 b1 pv=(mid,ap,d5):=⟨_,_,_,rfl⟩
  obtain⟨g1,g2,g3,g4,g5,g6,g7⟩:=Sort.round_part CS (Sort.partition_holds ltP) hpv1.1 hpv1.2 (by omega) hB4 hx
  rw [hx] at hps
  simp only at hps
  have hd5:d5.size=n:=by rw [g3];exact hd4
  repeat first|apply ah;rfl|apply aC;rfl;omega;omega|refine bO (ij rfl rfl (by omega) (dP (by omega) (by omega) (by omega))) rfl rfl rfl ?_|refine aQ rfl rfl rfl (by kernel_rfl) (Ctr.bF (hps) [0] rfl (Gh rfl) rfl ⟨ai rfl,trivial⟩ rfl (by repeat(first|exact Gu|refine⟨aG,?_⟩)) (fun _=>rfl) rfl rfl) ?_
  refine bq rfl rfl rfl rfl ?_ ?_
  all_goals intro h8
  ·rw [mH (by rw [h7];decide) hx ⟨g1,g2⟩ (by omega)] at ho
   have hrec:=ihk (mid-a1) (by omega) a1 mid l2 d5 rfl g1 (by omega) hd5 hl2 g4
   have hL:=Sort.pdq_sorts ltP CS d5 a1 mid l2 true true g1 (by omega) g4
   have hB6:=(g6 _ hL.1 hL.2).1
   have hd6:(Sort.pdq ltP d5 a1 mid l2 true true).size=n:=by rw [hL.1.1];exact hd5
   generalize Sort.pdq ltP d5 a1 mid l2 true true=d6 at hrec hB6 hd6 ho
   clear hL g6 g7 hps hpr
   repeat first|apply ah;rfl|apply aC;rfl;omega;omega|refine aQ rfl rfl rfl (by kernel_rfl) (Ctr.bF (hrec) [0] rfl (Gh rfl) rfl ⟨ai rfl,trivial⟩ rfl (by repeat(first|exact Gu|refine⟨aG,?_⟩)) (fun _=>rfl) rfl rfl) ?_|refine bO (cu rfl rfl (.inr (.inr (.inr (.inr (.inr (⟨rfl,rfl⟩))))))) rfl rfl rfl ?_
   refine ih _ _ _ (((mid+1,b1),l2),((decide (mid-a1≥(b1-a1) / 8),ap),d6)) [] ⟨by simp only;omega,hb1,by simp only;omega,hd6,hl2,hB6,ho⟩ (by simp only;omega) ?_
   have eb:decide ((mid:Int)-(a1:Int)≥((b1-a1:Nat):Int) / 8)=decide (mid-a1≥(b1-a1) / 8):=by
    rw [Bool.eq_iff_iff,Gg,Gg]
    omega
   rw [← eb]
   (exact Gs rfl rfl rfl ⟨ai rfl,trivial⟩)
  ·rw [k9 (by rw [h7];decide) hx ⟨g1,g2⟩ (by omega)] at ho
   have hrec:=ihk (b1-(mid+1)) (by omega) (mid+1) b1 l2 d5 rfl (by omega) hb1 hd5 hl2 g5
   have hL:=Sort.pdq_sorts ltP CS d5 (mid+1) b1 l2 true true (by omega) (by omega) g5
   have hB6:=(g7 _ hL.1 hL.2).1
   have hd6:(Sort.pdq ltP d5 (mid+1) b1 l2 true true).size=n:=by rw [hL.1.1];exact hd5
   generalize Sort.pdq ltP d5 (mid+1) b1 l2 true true=d6 at hrec hB6 hd6 ho
   clear hL g6 g7 hps hpr
   have emid:((mid:Int)+1)=((mid+1:Nat):Int):=by omega
   repeat first|apply ah;rfl|apply aC;rfl;omega;omega|refine bO (cu rfl rfl (.inr (.inr (.inr (.inr (.inr (⟨rfl,rfl⟩))))))) rfl rfl rfl ?_
   rw [emid]
   repeat first|apply ah;rfl|refine aQ rfl rfl rfl (by kernel_rfl) (Ctr.bF (hrec) [0] rfl (Gh rfl) rfl ⟨ai rfl,trivial⟩ rfl (by repeat(first|exact Gu|refine⟨aG,?_⟩)) (fun _=>rfl) rfl rfl) ?_
   refine ih _ _ _ (((a1,mid),l2),((decide (b1-mid≥(b1-a1) / 8),ap),d6)) [] ⟨g1,by simp only;omega,by simp only;omega,hd6,hl2,hB6,ho⟩ (by simp only;omega) ?_
   have eb:decide ((b1:Int)-(mid:Int)≥((b1-a1:Nat):Int) / 8)=decide (b1-mid≥(b1-a1) / 8):=by
    rw [Bool.eq_iff_iff,Gg,Gg]
    omega
   rw [← eb]
   (exact Gs rfl rfl rfl ⟨ai rfl,trivial⟩)
 ·have h7':=h7
  rw [ED,Gg,Bool.not_eq_true'] at h7'
  have hps:=jO n a1 b1 pv d4 (by omega) hd4 hpv1.1 hpv1.2 hb1
  obtain⟨mid,d5,hx⟩: ∃ mid,∃ d5,Sort.partitionEqual ltP d4 a1 b1 pv=(mid,d5):=⟨_,_,rfl⟩
  obtain⟨g1,g2,g3,g4,_⟩:=Sort.round_eq CS (Sort.partitionEqual_holds ltP) h7'.1 hpv1.1 hpv1.2 (by omega) hB4 h7'.2 hx
  rw [hx] at hps
  simp only at hps
  rw [sk h7 hx ⟨g1,g2⟩] at ho
  repeat first|apply ah;rfl|refine aQ rfl rfl rfl (by kernel_rfl) (Ctr.bF (hps) [0] rfl (Gh rfl) rfl ⟨ai rfl,trivial⟩ rfl (by repeat(first|exact Gu|refine⟨aG,?_⟩)) (fun _=>rfl) rfl rfl) ?_
  refine ih _ _ _ (((mid,b1),l2),((wb,wp),d5)) [] ⟨g2,hb1,by simp only;omega,by rw [g3];exact hd4,hl2,g4,ho⟩ (by simp only;omega) ?_
  (exact Gs rfl rfl rfl ⟨ai rfl,trivial⟩)
end
end Ow
end Go.Proofs.YtelnglhodnoclaaGreat
end
section
namespace Go.Proofs.YtelnglhodnoclaaGreat
namespace Ow
open Go Go.Sy
theorem sortF_spec(n:Nat)(d:ArP)(hn:n<65536)(hd:d.size=n) :
 Ctr Tryz.prog 72 [.slu 0 0 n,D7] [rowP n d] (fun c=>c=⟨.tup [],[some (rowP n (Sort.sort ltP d))]⟩):=by
 have h16:=lV hn
 refine Gj Tryz.func72 rfl rfl ?_
 refine wg (d:=1) (s:=D7) (s':=cmpF) rfl (fun e v h=>by simpa [SV.conc,SV.aD] using h) ?_
 have hp:=px n hn n 0 n (Sort.bitsLen n) d rfl (EF _) (EE _) hd (by omega) (.inl rfl)
 have hs:Sort.pdq ltP d 0 n (Sort.bitsLen n) true true=Sort.sort ltP d:=by unfold Sort.sort;rw [hd]
 rw [hs] at hp
 repeat first|apply ah;rfl|refine bO (cK (F.un _ rfl) (F.un _ rfl) rfl (show _=(n:Int)from Ge _ ⟨by omega,by omega⟩)) rfl rfl rfl ?_|refine ey (pJ n hn) [] rfl rfl rfl (by kernel_rfl) rfl (Gh rfl) rfl trivial ?_|refine aQ rfl rfl rfl (by kernel_rfl) (Ctr.bF (hp) [0] rfl (Gh rfl) rfl ⟨ai rfl,trivial⟩ rfl (by repeat(first|exact Gu|refine⟨aG,?_⟩)) (fun _=>rfl) rfl rfl) ?_
 ((apply jI Tryz.func72 (congrArg Array.toList Tryz.results72));(focus(repeat(exact Gk)));refine⟨_,rfl,Ends.mk [] (Gh rfl) rfl rfl ?_⟩)
 exact⟨ai rfl,trivial⟩
end Ow
end Go.Proofs.YtelnglhodnoclaaGreat
end
section
namespace Go.Proofs.YtelnglhodnoclaaGreat
open Go Go.Sy Go.Sl Go.RowKit
section
variable {H:ay}{e:bf}{s:SV}{hi i lo nx:Nat}{bs:List Bn.El}{mem:List UInt8}{own:List Ow.El}{p:List UInt8}
theorem De:dJ Tryz.prog 86=some (.agg (Value.int .i64 0 :: (List.replicate 1024 (Value.int .u8 0) ++ [.slice none 0 0,.slice none 0 0])).toArray):=by kernel_rfl
theorem DB:AS Tryz.prog 86=some [(0,1),(1,1024),(1025,1),(1026,1)]:=by kernel_rfl
theorem yf{n:Int}:hY (fun i=>([(0,1),(1,1024),(1025,1),(1026,1)]:List (Nat×Nat))[i]?) ((Value.agg (Value.int .i64 0 :: (List.replicate 1024 (Value.int .u8 0) ++ [.slice none 0 0,.slice none 0 0])).toArray).cells.toList.map .sc) [(0,.sc (.int .i64 n))]=some (dL n zeroP cF cF):=by
 have e:(Value.agg (Value.int .i64 0 :: (List.replicate 1024 (Value.int .u8 0) ++ [.slice none 0 0,.slice none 0 0])).toArray).cells.toList.map SV.sc=ti:=by kernel_rfl
 rw [e,mm (off:=0) (size:=1) (vc:= [.sc (.int .i64 n)]) rfl rfl rfl (by rw [aO ac];decide)]
 rfl
theorem IntsAt.low{l:List Int}{lo':Nat}(h:IntsAt H s l lo hi)(hl:lo'≤lo):IntsAt H s l lo' hi:=by
 rcases h with h|⟨r,h1,h2,h3,h4,h5⟩
 ·exact .inl h
 ·exact .inr ⟨r,h1,h2,by omega,h4,h5⟩
theorem mh{a:List Ow.El}{b:List Int}(h:some (tR a)=some (xO b)):False:=by
 have h:=Option.some.inj h
 unfold tR xO Ow.rowP arr dat at h
 injection h with _ _ h
 exact absurd h (by decide)
theorem lq{b c r k:Nat}{e0:bf}{left:Int}(hb:PgAt H b mem left c)(hm:mem.length=28672)(hr:H.at' r=some (nZ bs))(hi:i<bs.length)(hbi:bs[i]=(((4+k:Nat):Int),e0))(hk:k<28)(hl:bs.length≤1000):Fnc Tryz.prog 38 [og b,.slu r 0 bs.length,.sc (.int .i64 (i:Int))] H nx
 (fun q=>nx≤q.2.2∧(∀ m,m<nx→q.2.1.at' m=H.at' m)∧((eM (aR mem k) bs i=none∧q.1 = .tup [.agg ti,.sc (.int .i64 13)])∨ ∃ own left so sl,eM (aR mem k) bs i=some (own,left)∧q.1 = .tup [.agg (dL ((4+k:Nat):Int) (aR mem k) so sl),.sc (.int .i64 0)]∧OwnAt q.2.1 so own nx q.2.2∧IntsAt q.2.1 sl left nx q.2.2)):=by
 obtain⟨s0,hb,hL⟩:=hb
 have hp:=dw hm (n:=k) hk
 refine Gj Tryz.func38 rfl rfl ?_
 refine bh fun hund=>?_
 have hlt:=hund _ _ hb
 have hltr:=hund _ _ hr
 have hc0:(bs.toArray.toList.flatMap Bn.elV)[i*4]? =some (.int .i64 ((4+k:Nat):Int)):=by
  have:=dW (f:=Bn.elV) (fun _=>rfl) bs i 0 1 hi (by decide)
  have h2:=congrArg (fun l:List Value=>l[0]?) this
  rw [hbi] at h2
  simp only [List.getElem?_take_of_lt (show 0<1 by decide),List.getElem?_drop] at h2
  exact h2
 repeat first|refine er (aW oa) rfl rfl rfl ?_|refine ew (q:=i) rfl rfl rfl rfl (F.un _ rfl) (F.sz _ rfl) (by(repeat(refine aa (by omega) ?_));exact hr) rfl hi (EE _) ?_|refine gN (v:= .int .i64 ((4+k:Nat):Int)) rfl rfl rfl (F.ag _ rfl) (by(repeat(refine aa (by omega) ?_));exact hr) hc0 (by omega) ?_|refine bO (eI rfl De DB yf) rfl rfl rfl ?_|refine di rfl rfl rfl (F.sz _ rfl) (by repeat(exact ae)) (aO ac _ _) (by rw [aO ac];exact EE _) (dF _ _ rfl rfl) (dD ac ac) ?_|apply ah;rfl|apply aM;rfl;(focus((repeat(first|exact ae|refine aa (by omega) ?_));done));rfl
 refine fu 152 rfl rfl rfl rfl (by kernel_rfl) (Gi (AT (n:=k) (by(repeat(refine aa (by omega) ?_));exact hb) hm hk) ?_)
 rintro _ rfl
 dsimp only
 generalize aR mem k=p at hp ⊢
 repeat first|refine er (aW dK) rfl rfl rfl ?_|apply cG hp ac;rfl;(focus((repeat(exact ae));done))|apply ah;rfl|apply jK;rfl;rfl
 refine gL (R:=fun H1 n1=>n1=nx+1+1+1+1+1∧H1.at' nx=some (an 81 [.slu r 0 bs.length])∧H1.at' (nx+1)=some (an 3 [.sc (.int .i64 (i:Int))])∧H1.at' (nx+1+1)=some (d8 0 zeroP cF cF)∧H1.at' (nx+1+1+1)=some (d8 ((4+k:Nat):Int) zeroP cF cF)∧H1.at' (nx+1+1+1+1)=some (pgO p)∧ ∀ m,m<nx→H1.at' m=H.at' m) ⟨rfl,by repeat(first|exact ae|refine aa (by omega) ?_),by repeat(first|exact ae|refine aa (by omega) ?_),by repeat(first|exact ae|refine aa (by omega) ?_),by repeat(first|exact ae|refine aa (by omega) ?_),by repeat(exact ae),fun m hm=>by(repeat(refine aa (by omega) ?_));rfl⟩ ?_
 rintro H1 n1 ⟨rfl,a0,a1,a2,a3,a4,ao⟩
 have hri:=fun(H:ay) nx=>yI (H:=H) (nx:=nx) hp
 have hki:=fun(H:ay) nx=>Bd (H:=H) (nx:=nx) hp
 by_cases hok: ¬ (ct p=true∧kP p=3)
 ·have hno:eM p bs i=none:=EP hok
  cases hrp:ct p with
  | false=>
    rw [hrp] at hri
    repeat first|apply da hp;rfl;assumption|refine di rfl rfl rfl (F.sz _ rfl) (by assumption) (aO ac _ _) (by rw [aO ac];exact EE _) (dF _ _ rfl rfl) (dD ac ac) ?_|apply ah;rfl|apply cT;rfl;kernel_rfl;exact hri _ _|refine cx rfl rfl qj ?_
    ((apply bw Tryz.func38 (congrArg Array.toList Tryz.results38));(focus((apply Gl rfl (Gn (F.ag _ rfl) (by repeat(exact ae)) (gY ac _ _));(repeat(first|exact Gk|apply Gm rfl))))))
    exact⟨by dsimp only;omega,fun m hm=>by(repeat(refine aa (by omega) ?_));exact ao m hm,.inl ⟨hno,rfl⟩⟩
  | true=>
    rw [hrp] at hri
    have hk3:((kP p).toNat:Int)≠3:=fun h=>hok ⟨hrp,UInt8.toNat_inj.1 (by show(kP p).toNat=3;omega)⟩
    repeat first|apply da hp;rfl;assumption|refine di rfl rfl rfl (F.sz _ rfl) (by assumption) (aO ac _ _) (by rw [aO ac];exact EE _) (dF _ _ rfl rfl) (dD ac ac) ?_|apply ah;rfl|apply cT;rfl;kernel_rfl;exact hri _ _|apply cT;rfl;kernel_rfl;exact hki _ _|refine fp rfl rfl rfl rfl (fun _=>?_) (fun hq=>absurd hq hk3)|refine cx rfl rfl qj ?_
    ((apply bw Tryz.func38 (congrArg Array.toList Tryz.results38));(focus((apply Gl rfl (Gn (F.ag _ rfl) (by repeat(exact ae)) (gY ac _ _));(repeat(first|exact Gk|apply Gm rfl))))))
    exact⟨by dsimp only;omega,fun m hm=>by(repeat(refine aa (by omega) ?_));exact ao m hm,.inl ⟨hno,rfl⟩⟩
 have hok:=Classical.not_not.1 hok
 have hM:eM p bs i=(match cX p bs i (aj p)with
  | none=>none
  | some (own,left)=>if ym (nQ own) (nQ own).length=true then none else some (nQ own,left)):=EQ hok
 obtain⟨hrp,hk3⟩:=hok
 have h12: ∀ j own left,j≤aj p→cX p bs i j=some (own,left)→own.length<65536:=fun j own left h1 h2=>by have:=gA h2;have:=(eW hp hrp).2;omega
 rw [hrp] at hri
 rw [hk3] at hki
 have hits:=fun(H:ay) nx=>sS (H:=H) (nx:=nx) hp
 rw [hrp] at hits
 repeat first|apply da hp;rfl;(focus((repeat(first|assumption|refine aa (by omega) ?_));done))|refine di rfl rfl rfl (F.sz _ rfl) (by assumption) (bi hp) (by rw [aO ac];decide) (iH _) (vv ac hp _ _) ?_|apply ah;rfl|apply aM;rfl;(focus((repeat(exact ae));done));rfl|apply cT;rfl;kernel_rfl;exact hri _ _|apply cT;rfl;kernel_rfl;exact hki _ _|apply jK;rfl;rfl|apply cT;rfl;kernel_rfl;exact hits _ _
 obtain⟨q0,hq0⟩: ∃ q0,q0=nx+1+1+1+1+1+1:=⟨_,rfl⟩
 rw [← hq0]
 obtain⟨N,hN⟩: ∃ N:Int,N=((4+k:Nat):Int):=⟨_,rfl⟩
 rw [← hN] at a3 ⊢
 have hr1:H1.at' r=some (nZ bs):=(ao r hltr).trans hr
 refine gL (R:=fun H4 n4=>n4=q0+1+1∧H4.at' q0=some (pgO p)∧H4.at' (q0+1)=some (nP true)∧H4.at' nx=some (an 81 [.slu r 0 bs.length])∧H4.at' (nx+1)=some (an 3 [.sc (.int .i64 (i:Int))])∧H4.at' (nx+1+1)=some (d8 0 zeroP cF cF)∧H4.at' (nx+1+1+1)=some (d8 N p cF cF)∧H4.at' (nx+1+1+1+1+1)=some (nP false)∧ ∀ m,m<nx→H4.at' m=H.at' m)
  ⟨by first|rfl|omega,by repeat(first|exact ae|refine aa (by omega) ?_),by repeat(exact ae),by repeat(first|assumption|refine aa (by omega) ?_),by repeat(first|assumption|refine aa (by omega) ?_),by repeat(first|assumption|refine aa (by omega) ?_),by repeat(first|exact ae|refine aa (by omega) ?_),by repeat(first|exact ae|refine aa (by omega) ?_),fun m hm=>by(repeat(refine aa (by omega) ?_));exact ao m hm⟩ ?_
 clear a0 a1 a2 a3 a4 ao hr1
 rintro H4 n4 ⟨rfl,m0,m1,m2,m3,m4,m5,m7,mo⟩
 refine jH [(4,.ptr nx 0),(5,.ptr (nx+1) 0),(6,.ptr (nx+1+1) 0),(8,.ptr (nx+1+1+1) 0),(11,.ptr (nx+1+1+1+1+1) 0)] rfl rfl (by kernel_rfl) (Gq (Gt rfl)) ?_
 intro cA cB hcA hcB2
 refine Gi (sR (l:=q0+1+1+1) (f:=q0+1) (q:=q0) hp hrp (f2:=38) (nt2:=111) (T2:=slT [(4,.ptr nx 0),(5,.ptr (nx+1) 0),(6,.ptr (nx+1+1) 0),(8,.ptr (nx+1+1+1) 0),(11,.ptr (nx+1+1+1+1+1) 0)]) (ps:= #[47,48]) (ca:=cA) (cb:=cB) (dr:=q0+1+1) rfl
  (fun j H5 n5=>H5.at' (q0+1+1+1)=some (.loop .ready none 38 111 (slT [(4,.ptr nx 0),(5,.ptr (nx+1) 0),(6,.ptr (nx+1+1) 0),(8,.ptr (nx+1+1+1) 0),(11,.ptr (nx+1+1+1+1+1) 0)]) #[47,48] cA cB (q0+1+1))∧H5.at' (q0+1)=some (nP true)∧H5.at' q0=some (pgO p)∧q0+1+1+1+1≤n5∧H5.at' nx=some (an 81 [.slu r 0 bs.length])∧H5.at' (nx+1)=some (an 3 [.sc (.int .i64 (i:Int))])∧H5.at' (nx+1+1)=some (d8 0 zeroP cF cF)∧H5.at' (nx+1+1+1+1+1)=some (nP false)∧H5.at' (q0+1+1)=some (.dfd (some []))∧(∃ own left so sl,cX p bs i j=some (own,left)∧H5.at' (nx+1+1+1)=some (d8 N p so sl)∧OwnAt H5 so own (q0+1+1+1+1+1) n5∧IntsAt H5 sl left (q0+1+1+1+1+1) n5)∧ ∀ m,m<nx→H5.at' m=H.at' m)
  (fun H5 n5=>H5.at' (q0+1+1+1)=some (.loop .done (some (.exit 0)) 38 111 (slT [(4,.ptr nx 0),(5,.ptr (nx+1) 0),(6,.ptr (nx+1+1) 0),(8,.ptr (nx+1+1+1) 0),(11,.ptr (nx+1+1+1+1+1) 0)]) #[47,48] cA cB (q0+1+1))∧q0+1+1+1+1≤n5∧H5.at' (nx+1+1)=some (d8 0 zeroP cF cF)∧H5.at' (nx+1+1+1+1+1)=some (nP true)∧H5.at' (q0+1+1)=some (.dfd (some []))∧(∃ own left so sl,own.length<65536∧H5.at' (nx+1+1+1)=some (d8 N p so sl)∧OwnAt H5 so own (q0+1+1+1+1+1) n5∧IntsAt H5 sl left (q0+1+1+1+1+1) n5)∧cX p bs i (aj p)=none∧ ∀ m,m<nx→H5.at' m=H.at' m)
  ?_ ?_ ?_ ?_ ?_) ?_
 ·rintro j H5 n5 ⟨i1,i2,i3,i4,_⟩
  exact⟨i1,i2,i3,by omega,by omega,by omega⟩
 ·rintro j H5 n5 H6 n6 ⟨i1,i2,i3,i4,i5,i6,i7,i8,i9,⟨own,left,so,sl,j1,j2,j3,j4⟩,i12⟩ hle hs
  exact⟨(hs _ (by omega)).trans i1,(hs _ (by omega)).trans i2,(hs _ (by omega)).trans i3,by omega,(hs _ (by omega)).trans i5,(hs _ (by omega)).trans i6,(hs _ (by omega)).trans i7,(hs _ (by omega)).trans i8,(hs _ (by omega)).trans i9,⟨own,left,so,sl,j1,(hs _ (by omega)).trans j2,j3.frame hle fun m _ h _=>hs m h,j4.frame hle fun m _ h _=>hs m h⟩,fun m hm=>(hs _ (by omega)).trans (i12 m hm)⟩
 ·rintro j H5 n5 ⟨i1,i2,i3,i4,i5,i6,i7,i8,i9,⟨own,left,so,sl,j1,j2⟩,i12⟩ hz
  have e1:cX p bs i (j+1)=some (own,left):=by
   show(match cX p bs i j with|none=>none|some (own,left)=>_)=_
   rw [j1]
   exact EQ hz
  exact⟨i1,i2,i3,i4,i5,i6,i7,i8,i9,⟨own,left,so,sl,e1,j2⟩,i12⟩
 ·rintro j H5 n5 r0 ⟨i1,i2,i3,i4,i5,i6,i7,i8,i9,⟨own,left,so,sl,j1,j2,j3,j4⟩,i12⟩ hr1 hr2 hj hs hrow
  have hrow2:(H5.set (q0+1+1+1) (.loop .busy none 38 111 (slT [(4,.ptr nx 0),(5,.ptr (nx+1) 0),(6,.ptr (nx+1+1) 0),(8,.ptr (nx+1+1+1) 0),(11,.ptr (nx+1+1+1+1+1) 0)]) #[47,48] cA cB (q0+1+1))).at' r0=some (u8R false (byV (ck p j))):=(ab _ _ (by omega)).trans hrow
  have hil:(ck p j).length≤1024:=by unfold ck;rw [ET,EW];omega
  have hrb:(H5.set (q0+1+1+1) (.loop .busy none 38 111 (slT [(4,.ptr nx 0),(5,.ptr (nx+1) 0),(6,.ptr (nx+1+1) 0),(8,.ptr (nx+1+1+1) 0),(11,.ptr (nx+1+1+1+1+1) 0)]) #[47,48] cA cB (q0+1+1))).at' r=some (nZ bs):=(ab _ _ (by omega)).trans ((i12 r hltr).trans hr)
  refine od hcA ?_
  repeat apply ah;rfl
  refine sa (by assumption) ?_
  refine od hcB2 ?_
  repeat apply ah;rfl
  have hl1:=gA j1
  obtain⟨_,hsp,hsp2⟩:=eW hp hrp
  refine aZ rfl rfl rfl (by kernel_rfl) (Gi (of_u (eo:=0) (w:=ck p j) (l:=ck p j) (by(repeat(refine aa (by omega) ?_));exact hrow) (ER _) rfl (by omega)) ?_)
  rintro _ rfl
  dsimp only
  cases hof:ofL (ck p j)with
  | none=>
    rw [gw hof]
    have hbn:cX p bs i (aj p)=none:=sQ (j:=j+1) (by show(match cX p bs i j with|none=>none|some (own,left)=>_)=none;rw [j1];exact(EP hs).trans (by rw [hof])) (by omega)
    repeat first|apply ah;rfl|apply aM;rfl;(focus((repeat(first|assumption|exact ae|refine aa (by omega) ?_));done));rfl|apply sh;rfl;decide
    refine fK rfl (by repeat(first|exact ae|refine aa (by omega) ?_)) (.inr ⟨rfl,aw _ _ _,by dsimp only;omega,by repeat(first|assumption|refine aa (by omega) ?_),by repeat(first|exact ae|refine aa (by omega) ?_),by repeat(first|assumption|refine aa (by omega) ?_),⟨own,left,so,sl,h12 j own left (by omega) j1,by repeat(first|assumption|refine aa (by omega) ?_),j3.frame (by dsimp only;omega) fun m _ _ _=>by(repeat(refine aa (by omega) ?_));rfl,j4.frame (by dsimp only;omega) fun m _ _ _=>by(repeat(refine aa (by omega) ?_));rfl⟩,hbn,fun m hm=>by(repeat(refine aa (by omega) ?_));exact i12 m hm⟩)
  | some e=>
    rw [ln hof]
    have e1:cX p bs i (j+1)=if bG bs e=i then some (own ++ [(e,(j:Int))],left) else some (own,left ++ [(j:Int)]):=by
     show(match cX p bs i j with|none=>none|some (own,left)=>_)=_
     rw [j1]
     exact(EP hs).trans (by rw [hof])
    repeat first|apply ah;rfl|apply aM;rfl;(focus((repeat(exact ae));done));rfl|apply jK;rfl;rfl
    (apply bU;(focus(kernel_rfl));(focus(kernel_rfl)))
    repeat first|apply kO;rfl;(focus((repeat(first|assumption|exact ae|refine aa (by omega) ?_));done));rfl|refine eX rfl rfl rfl (by kernel_rfl) (pK e (by(repeat(refine aa (by omega) ?_));exact(i12 r hltr).trans hr) (by omega) (by omega)) ?_
    refine iL rfl rfl rfl rfl (fun c1=>?_) (fun c1=>?_)
    ·repeat apply az;rfl
     refine au ⟨by kernel_rfl,?_,?_⟩;(focus(repeat(first|exact Gu|apply mn;rfl|apply jk;rfl;kernel_rfl|refine js 0 rfl (by kernel_rfl) (by(repeat(refine⟨(by first|exact aK (F.ag _ rfl) rfl (by repeat(first|assumption|exact ae|refine aa (by omega) ?_)) (aF rfl)|exact bn (F.ag _ rfl) rfl (by repeat(first|assumption|exact ae)) (aB _ 0 rfl rfl)),?_⟩));exact Gu) ?_|apply oD;kernel_rfl)))
     dsimp only
     rw [EQ (by omega)] at e1
     rcases j3 with ⟨rfl,rfl⟩|⟨rw,k1,rfl,k2,k3,k4⟩
     ·repeat first|refine a7 rfl rfl rfl (F.ag _ rfl) (by repeat(first|assumption|exact ae|refine aa (by omega) ?_)) (bC hp cF sl 0) ?_|apply ah;rfl|apply aM;rfl;(focus((repeat(exact ae));done));rfl|refine er (aU (F.un _ rfl) (F.sz _ rfl) (aN rfl) (F.ze _ rfl) rfl rfl rfl rfl rfl) rfl rfl rfl ?_
      refine gP (b:=40) (n:=1) (cs:=(Ow.elV (e,(j:Int))).map .sc) rfl rfl rfl rfl (F.un _ rfl) (.inl ⟨_,F.un _ rfl⟩) (F.sz _ rfl) rfl (by kernel_rfl) (by kernel_rfl) (SlOf.row (by repeat(exact ae)) rfl) rfl (by decide) (by decide) ?_
      rintro _ _ _ (⟨h,_⟩|⟨_,rfl,rfl,rfl⟩)
      ·exact absurd h (by decide)
      repeat apply ah;rfl
      refine cq (cs:=dL N p cF sl) rfl rfl rfl (F.sz _ rfl) (by repeat(first|assumption|refine aa (by omega) ?_)) rfl (Es (by rw [aO hp];decide)) ?_
      rw [show ∀ x,(dL N p cF sl).set (0+1025) x=dL N p x sl from fun x=>oy hp _ _ _]
      repeat apply ah;rfl
      refine dB (by repeat(first|exact ae|refine aa (by omega) ?_)) (.inl ⟨rfl,⟨aw _ _ _,by repeat(first|assumption|refine aa (by omega) ?_),by repeat(first|assumption|refine aa (by omega) ?_),by dsimp only;omega,by repeat(first|assumption|refine aa (by omega) ?_),by repeat(first|assumption|refine aa (by omega) ?_),by repeat(first|assumption|refine aa (by omega) ?_),by repeat(first|assumption|refine aa (by omega) ?_),by repeat(first|assumption|refine aa (by omega) ?_),⟨_,_,_,_,e1,by repeat(first|exact ae|refine aa (by omega) ?_),.inr ⟨n5+1+1,by simp,rfl,by first|omega|(dsimp only;omega),by first|omega|(dsimp only;omega),Eq.trans (b:=some (ft false 1 4 128 ((Ow.elV (e,(j:Int))).map .sc))) (by repeat(first|exact ae|refine aa (by omega) ?_)) (congrArg some (bZ _ _ _ _ _))⟩,j4.frame (by(dsimp only;omega)) fun m _ _ _=>by(repeat(refine aa (by omega) ?_));rfl⟩,fun m hm=>by(repeat(refine aa (by omega) ?_));exact i12 m hm⟩,by dsimp only;omega,by(repeat(refine aa (by omega) ?_));rfl⟩)
     ·repeat first|refine a7 rfl rfl rfl (F.ag _ rfl) (by repeat(first|assumption|exact ae|refine aa (by omega) ?_)) (bC hp (.slu rw 0 own.length) sl 0) ?_|apply ah;rfl|apply aM;rfl;(focus((repeat(first|assumption|exact ae|refine aa (by omega) ?_|refine bQ (by omega) ?_));done));rfl|refine er (aU (F.un _ rfl) (F.sz _ rfl) (aN rfl) (F.ze _ rfl) rfl rfl rfl rfl rfl) rfl rfl rfl ?_|refine mC (b:=40) (xs:=own) (a:=(e,(j:Int))) rfl rfl rfl rfl (F.un _ rfl) (.inl ⟨_,F.un _ rfl⟩) (F.sz _ rfl) rfl (by kernel_rfl) (by kernel_rfl) (by repeat(first|assumption|refine aa (by omega) ?_)) (by repeat(exact ae)) (by rfl) (Ow.recP) (by omega) (by omega) ?_
      refine cq (cs:=dL N p (.slu rw 0 own.length) sl) rfl rfl rfl (F.sz _ rfl) (by repeat(first|assumption|refine aa (by omega) ?_|refine bQ (by omega) ?_)) rfl (Es (by rw [aO hp];decide)) ?_
      rw [show ∀ x,(dL N p (.slu rw 0 own.length) sl).set (0+1025) x=dL N p x sl from fun x=>oy hp _ _ _]
      repeat apply ah;rfl
      refine dB (by repeat(first|exact ae|refine aa (by omega) ?_|refine bQ (by omega) ?_)) (.inl ⟨rfl,⟨aw _ _ _,by repeat(first|assumption|refine aa (by omega) ?_|refine bQ (by omega) ?_),by repeat(first|assumption|refine aa (by omega) ?_|refine bQ (by omega) ?_),by dsimp only;omega,by repeat(first|assumption|refine aa (by omega) ?_|refine bQ (by omega) ?_),by repeat(first|assumption|refine aa (by omega) ?_|refine bQ (by omega) ?_),by repeat(first|assumption|refine aa (by omega) ?_|refine bQ (by omega) ?_),by repeat(first|assumption|refine aa (by omega) ?_|refine bQ (by omega) ?_),by repeat(first|assumption|refine aa (by omega) ?_|refine bQ (by omega) ?_),⟨_,_,_,_,e1,by repeat(first|exact ae|refine aa (by omega) ?_),.inr ⟨n5+1+1,by simp,rfl,by first|omega|(dsimp only;omega),by first|omega|(dsimp only;omega),(by repeat(first|exact ae|refine aa (by omega) ?_))⟩,j4.frame (by(dsimp only;omega)) fun m h1 h2 h3=>(by have hmr:m≠rw:=(by rintro rfl;exact mh (k4.symm.trans h3));(focus((repeat(first|refine aa (by omega) ?_|refine bQ (by omega) ?_));rfl)))⟩,fun m hm=>by(repeat(first|refine aa (by omega) ?_|refine bQ (by omega) ?_));exact i12 m hm⟩,by dsimp only;omega,by(repeat(first|refine aa (by omega) ?_|refine bQ (by omega) ?_));rfl⟩)
    ·repeat apply az;rfl
     refine au ⟨by kernel_rfl,?_,?_⟩;(focus(repeat(first|exact Gu|apply mn;rfl|apply jk;rfl;kernel_rfl|refine js 0 rfl (by kernel_rfl) (by(repeat(refine⟨(by first|exact aK (F.ag _ rfl) rfl (by repeat(first|assumption|exact ae|refine aa (by omega) ?_)) (aF rfl)|exact bn (F.ag _ rfl) rfl (by repeat(first|assumption|exact ae)) (aB _ 0 rfl rfl)),?_⟩));exact Gu) ?_|apply oD;kernel_rfl)))
     dsimp only
     rw [EP (by omega)] at e1
     rcases j4 with ⟨rfl,rfl⟩|⟨rw,k1,rfl,k2,k3,k4⟩
     ·repeat first|refine a7 rfl rfl rfl (F.ag _ rfl) (by repeat(first|assumption|refine aa (by omega) ?_)) (bC hp so cF 1) ?_|apply ah;rfl|refine er (aU (F.un _ rfl) (F.sz _ rfl) (aN rfl) (F.ze _ rfl) rfl rfl rfl rfl rfl) rfl rfl rfl ?_
      refine gP (b:=8) (n:=1) (cs:= [.sc (.int .i64 (j:Int))]) rfl rfl rfl rfl (F.un _ rfl) (.inl ⟨_,F.un _ rfl⟩) (F.sz _ rfl) rfl (by kernel_rfl) (by kernel_rfl) (SlOf.row (by repeat(exact ae)) rfl) rfl (by decide) (by decide) ?_
      rintro _ _ _ (⟨h,_⟩|⟨_,rfl,rfl,rfl⟩)
      ·exact absurd h (by decide)
      repeat apply ah;rfl
      refine cq (cs:=dL N p so cF) rfl rfl rfl (F.sz _ rfl) (by repeat(first|assumption|refine aa (by omega) ?_)) rfl (Es (by rw [aO hp];decide)) ?_
      rw [show ∀ x,(dL N p so cF).set (0+1026) x=dL N p so x from fun x=>oz hp _ _ _]
      repeat apply ah;rfl
      refine dB (by repeat(first|exact ae|refine aa (by omega) ?_)) (.inl ⟨rfl,⟨aw _ _ _,by repeat(first|assumption|refine aa (by omega) ?_),by repeat(first|assumption|refine aa (by omega) ?_),by dsimp only;omega,by repeat(first|assumption|refine aa (by omega) ?_),by repeat(first|assumption|refine aa (by omega) ?_),by repeat(first|assumption|refine aa (by omega) ?_),by repeat(first|assumption|refine aa (by omega) ?_),by repeat(first|assumption|refine aa (by omega) ?_),⟨_,_,_,_,e1,by repeat(first|exact ae|refine aa (by omega) ?_),j3.frame (by(dsimp only;omega)) fun m _ _ _=>(by(repeat(refine aa (by omega) ?_));rfl),.inr ⟨n5+1+1,by simp,rfl,by first|omega|(dsimp only;omega),by first|omega|(dsimp only;omega),Eq.trans (b:=some (ft false 1 1 3 [.sc (.int .i64 (j:Int))])) (by repeat(first|exact ae|refine aa (by omega) ?_)) (congrArg some (bZ _ _ _ _ [.int .i64 (j:Int)]))⟩⟩,fun m hm=>by(repeat(refine aa (by omega) ?_));exact i12 m hm⟩,by dsimp only;omega,by(repeat(refine aa (by omega) ?_));rfl⟩)
     ·repeat first|refine a7 rfl rfl rfl (F.ag _ rfl) (by repeat(first|assumption|refine aa (by omega) ?_)) (bC hp so (.slu rw 0 left.length) 1) ?_|apply ah;rfl|refine er (aU (F.un _ rfl) (F.sz _ rfl) (aN rfl) (F.ze _ rfl) rfl rfl rfl rfl rfl) rfl rfl rfl ?_|refine mC (b:=8) (xs:=left) (a:=(j:Int)) rfl rfl rfl rfl (F.un _ rfl) (.inl ⟨_,F.un _ rfl⟩) (F.sz _ rfl) rfl (by kernel_rfl) (by kernel_rfl) (by repeat(first|assumption|refine aa (by omega) ?_)) (by repeat(exact ae)) (by rfl) ((AP (g:=fun n:Int=>Value.int .i64 n) fun _=>rfl)) (by omega) (by omega) ?_
      refine cq (cs:=dL N p so (.slu rw 0 left.length)) rfl rfl rfl (F.sz _ rfl) (by repeat(first|assumption|refine aa (by omega) ?_|refine bQ (by omega) ?_)) rfl (Es (by rw [aO hp];decide)) ?_
      rw [show ∀ x,(dL N p so (.slu rw 0 left.length)).set (0+1026) x=dL N p so x from fun x=>oz hp _ _ _]
      repeat apply ah;rfl
      refine dB (by repeat(first|exact ae|refine aa (by omega) ?_|refine bQ (by omega) ?_)) (.inl ⟨rfl,⟨aw _ _ _,by repeat(first|assumption|refine aa (by omega) ?_|refine bQ (by omega) ?_),by repeat(first|assumption|refine aa (by omega) ?_|refine bQ (by omega) ?_),by dsimp only;omega,by repeat(first|assumption|refine aa (by omega) ?_|refine bQ (by omega) ?_),by repeat(first|assumption|refine aa (by omega) ?_|refine bQ (by omega) ?_),by repeat(first|assumption|refine aa (by omega) ?_|refine bQ (by omega) ?_),by repeat(first|assumption|refine aa (by omega) ?_|refine bQ (by omega) ?_),by repeat(first|assumption|refine aa (by omega) ?_|refine bQ (by omega) ?_),⟨_,_,_,_,e1,by repeat(first|exact ae|refine aa (by omega) ?_),j3.frame (by(dsimp only;omega)) fun m h1 h2 h3=>(by have hmr:m≠rw:=(by rintro rfl;exact mh (h3.symm.trans k4));(focus((repeat(first|refine aa (by omega) ?_|refine bQ (by omega) ?_));rfl))),.inr ⟨n5+1+1,by simp,rfl,by first|omega|(dsimp only;omega),by first|omega|(dsimp only;omega),(by repeat(first|exact ae|refine aa (by omega) ?_))⟩⟩,fun m hm=>by(repeat(first|refine aa (by omega) ?_|refine bQ (by omega) ?_));exact i12 m hm⟩,by dsimp only;omega,by(repeat(first|refine aa (by omega) ?_|refine bQ (by omega) ?_));rfl⟩)
 ·refine⟨aw _ _ _,by repeat(first|assumption|refine aa (by omega) ?_),by repeat(first|assumption|refine aa (by omega) ?_),EE _,by repeat(first|assumption|refine aa (by omega) ?_),by repeat(first|assumption|refine aa (by omega) ?_),by repeat(first|assumption|refine aa (by omega) ?_),by repeat(first|assumption|refine aa (by omega) ?_),by repeat(first|exact ae|refine aa (by omega) ?_),⟨[],[],cF,cF,rfl,by repeat(first|assumption|refine aa (by omega) ?_),.inl ⟨rfl,rfl⟩,.inl ⟨rfl,rfl⟩⟩,fun m hm=>by(repeat(refine aa (by omega) ?_));exact mo m hm⟩
 ·rintro⟨v,H5,n5⟩ (⟨i1,i2,i3,i4,i5,i6,i7,i8,i9,⟨own,left,so,sl,j1,j2,j3,j4⟩,i12⟩|⟨i1,i4,i7,i8,i9,⟨own,left,so,sl,hl,j2,j3,j4⟩,hno,i12⟩)
  ·dsimp only at i1 i2 i3 i4 i5 i6 i7 i8 i9 j2 j3 j4 i12 ⊢
   have hM:eM p bs i=if ym (nQ own) (nQ own).length=true then none else some (nQ own,left):=by rw [hM,j1]
   have hl:=h12 _ _ _ (EE _) j1
   have hl1:=gA j1
   obtain⟨_,hsp,hsp2⟩:=eW hp hrp
   clear i2 i3 i5 i6 j1 h12
   refine gr i1 (fun h=>by cases h) ?_
   dsimp only [gM]
   repeat apply ah;rfl
   rcases j3 with ⟨rfl,rfl⟩|⟨ra,k1,rfl,k2,k3,k4⟩
   ·have hM:eM p bs i=some ([],left):=by
     rw [hM,show nQ []= [] from EA (j8 [])]
     rfl
    have hs0:=Ow.sortF_spec 0 #[] (by decide) rfl
    repeat refine a7 rfl rfl rfl (F.ag _ rfl) (by repeat(first|assumption|refine aa (by omega) ?_)) (bC hp cF sl 0) ?_
    refine ma 4 128 (d:=78) rfl rfl ?_
    (refine aZ rfl rfl rfl (by kernel_rfl) (Ctr.lX (hs0) [n5] rfl ⟨by intro n hn;simp at hn;omega,by simp;try omega⟩ rfl (by repeat(first|exact Gu|refine⟨ai (by repeat(exact ae)),?_⟩)) ?_);rintro _ rfl;refine⟨_,0,[n5],[some _],rfl,(by repeat(first|exact Gu|refine⟨dq _ _ _ _ _ _,?_⟩)),rfl,rfl,?_⟩;dsimp only [wrL])
    repeat first|refine a7 rfl rfl rfl (F.ag _ rfl) (by repeat(first|assumption|refine aa (by omega) ?_)) (bC hp cF sl 0) ?_|apply ah;rfl|refine bO (cj (F.un _ rfl) rfl) rfl rfl rfl ?_
    refine bv (α:=Nat) (fun x=> [(6,.ptr (nx+1+1) 0),(8,.ptr (nx+1+1+1) 0),(11,.ptr (nx+1+1+1+1+1) 0),(82,.sc (.int .i64 0)),(83,.sc (.int .i64 0))])
     (fun x H7 n7=>H7.at' (nx+1+1)=some (d8 0 zeroP cF cF)∧H7.at' (nx+1+1+1)=some (d8 N p cF sl)∧H7.at' (nx+1+1+1+1+1)=some (nP false)∧IntsAt H7 sl left (q0+1+1+1+1+1) n7∧H7.at' (q0+1+1)=some (.dfd (some []))∧n5≤n7∧ ∀ m,m<nx→H7.at' m=H.at' m) (fun x=>0) 0
     ⟨by repeat(first|assumption|refine aa (by omega) ?_),by repeat(first|assumption|refine aa (by omega) ?_),by repeat(first|assumption|refine aa (by omega) ?_),j4.frame (by(omega)) fun m h1 h2 _=>(by(repeat(refine aa (by omega) ?_));rfl),by repeat(first|assumption|refine aa (by omega) ?_),by first|omega|(dsimp only;omega),fun m hm=>by(repeat(refine aa (by omega) ?_));exact i12 m hm⟩ (Gq (Gt rfl)) ?_
    clear j4 i12 i8 i9 i7 i1
    rintro x H7 n7 ⟨o1,o2,o3,o5,o6,o7,o8⟩ _
    repeat first|apply ah;rfl|apply aM;rfl;assumption;rfl|apply si;rfl;decide
    (repeat(first|refine j6 rfl rfl rfl (F.ag _ rfl) (by assumption) (aO hp _ _) ?_|refine di rfl rfl rfl (F.sz _ rfl) (by assumption) (aO hp _ _) (by rw [aO ac];exact EE _) (dF _ _ rfl o5.one) (dD ac hp) ?_|apply ah;rfl));refine ic Tryz.func38 (congrArg Array.toList Tryz.results38) (rs:= [q0+1+1]) rfl (fun r hr=>by rw [EV.1 hr];(focus((repeat(first|assumption|refine aa (by omega) ?_));done))) (by simp) ?_;intro H8 hH8;have kz:H8.at' (nx+1+1)=some (d8 N p cF sl):=(hH8 _ (fun h=>absurd (EV.1 h) (by omega))).trans (by repeat(exact ae));refine⟨_,(by(apply Gl rfl (Gn (F.ag _ rfl) (by assumption) (gY hp _ _));(repeat(first|exact Gk|apply Gm rfl)))),?_⟩;refine⟨by dsimp only;omega,fun m hm=>(hH8 _ (fun h=>absurd (EV.1 h) (by omega))).trans (by(repeat(refine aa (by omega) ?_));exact o8 m hm),.inr ⟨_,left,cF,sl,hM,rfl,?_,?_⟩⟩
    ·exact .inl ⟨rfl,rfl⟩
    ·exact(o5.frame (by(dsimp only;omega)) fun m h1 h2 _=>(hH8 _ (fun h=>absurd (EV.1 h) (by omega))).trans (by(repeat(refine aa (by omega) ?_));rfl)).low (by omega)
   ·have hs0:=Ow.sortF_spec own.length own.toArray hl (by simp)
    have hn0:0<own.length:=List.length_pos_iff.2 k1
    refine gL (R:=fun H6 n6=>n5=n6∧H6.at' (nx+1+1)=some (d8 0 zeroP cF cF)∧H6.at' (nx+1+1+1)=some (d8 N p (.slu ra 0 own.length) sl)∧H6.at' (nx+1+1+1+1+1)=some (nP false)∧H6.at' ra=some (tR own)∧IntsAt H6 sl left (q0+1+1+1+1+1) n5∧H6.at' (q0+1+1)=some (.dfd (some []))∧ ∀ m,m<nx→H6.at' m=H.at' m) ⟨rfl,by repeat(first|assumption|refine aa (by omega) ?_),by repeat(first|assumption|refine aa (by omega) ?_),by repeat(first|assumption|refine aa (by omega) ?_),by repeat(first|assumption|refine aa (by omega) ?_),j4.frame (EE _) fun m h1 h2 _=>(by(repeat(refine aa (by omega) ?_));rfl),by repeat(first|assumption|refine aa (by omega) ?_),fun m hm=>by(repeat(refine aa (by omega) ?_));exact i12 m hm⟩ ?_
    clear i1 i7 i8 i9 i12 k4 j2 j4
    rintro H6 n6 ⟨rfl,b1,b2,b3,b4,b5,b6,b7⟩
    repeat refine a7 rfl rfl rfl (F.ag _ rfl) (by assumption) (bC hp (.slu ra 0 own.length) sl 0) ?_
    (refine aZ rfl rfl rfl (by kernel_rfl) (Ctr.lX (hs0) [ra] rfl ⟨by intro n hn;simp at hn;omega,by simp;try omega⟩ rfl (by repeat(first|exact Gu|refine⟨ai (by assumption),?_⟩)) ?_);rintro _ rfl;refine⟨_,0,[ra],[some _],rfl,(by repeat(first|exact Gu|refine⟨dq _ _ _ _ _ _,?_⟩)),rfl,rfl,?_⟩;dsimp only [wrL])
    rw [show dat false own.length 4 128 ((Sort.sort Ow.ltP own.toArray).toList.flatMap Ow.elV)=tR (nQ own)from tz own]
    have hsl:=j8 own
    rw [← hsl] at hl hn0 b2 ⊢
    generalize nQ own=sb at hM hl hn0 b2 ⊢
    clear hs0 hsl k1
    repeat first|refine a7 rfl rfl rfl (F.ag _ rfl) (by repeat(first|assumption|refine aa (by omega) ?_)) (bC hp (.slu ra 0 sb.length) sl 0) ?_|apply ah;rfl
    refine bv (α:=Nat) (fun x=> [(6,.ptr (nx+1+1) 0),(8,.ptr (nx+1+1+1) 0),(11,.ptr (nx+1+1+1+1+1) 0),(82,.sc (.int .i64 (sb.length:Int))),(83,.sc (.int .i64 (x:Int)))])
     (fun x H7 n7=>x≤sb.length∧H7.at' (nx+1+1)=some (d8 0 zeroP cF cF)∧H7.at' (nx+1+1+1)=some (d8 N p (.slu ra 0 sb.length) sl)∧H7.at' (nx+1+1+1+1+1)=some (nP (ym sb x))∧H7.at' ra=some (tR sb)∧IntsAt H7 sl left (q0+1+1+1+1+1) n7∧H7.at' (q0+1+1)=some (.dfd (some []))∧n5≤n7∧ ∀ m,m<nx→H7.at' m=H.at' m) (fun x=>sb.length-x) 0
     ⟨EF _,by repeat(first|assumption|refine aa (by omega) ?_),by repeat(first|assumption|refine aa (by omega) ?_),by repeat(first|assumption|refine aa (by omega) ?_),by repeat(exact ae),b5.frame (by(omega)) fun m h1 h2 h3=>(by have hmr:m≠ra:=(by rintro rfl;exact mh (b4.symm.trans h3));(focus((repeat(refine aa (by omega) ?_));rfl))),by repeat(first|assumption|refine aa (by omega) ?_),by first|omega|(dsimp only;omega),fun m hm=>by(repeat(refine aa (by omega) ?_));exact b7 m hm⟩ (Gq (Gt rfl)) ?_
    clear b1 b2 b3 b4 b5 b6 b7
    rintro x H7 n7 ⟨o0,o1,o2,o3,o4,o5,o6,o7,o8⟩ ih
    repeat apply ah;rfl
    refine bq rfl rfl rfl rfl (fun c1=>?_) (fun c1=>?_)
    ·have hx:x<sb.length:=by omega
     repeat apply ah;rfl
     have hdb:ym sb (x+1)=(ym sb x || (decide (0<x) && eE (sb.getD (x-1) (cp,0)).1 (sb.getD x (cp,0)).1)):=rfl
     cases hd:ym sb x with
     | true=>
       rw [hd] at o3 hdb
       (apply bU;(focus(kernel_rfl));(focus(kernel_rfl)))
       repeat first|apply kO;rfl;assumption;rfl|refine cm rfl rfl rfl (F.sz _ rfl) (by assumption) (by rfl) (by rfl) ?_|apply az;rfl|apply bA;rfl;rfl
       refine au ⟨by kernel_rfl,?_,?_⟩;(focus(repeat(first|exact Gu|apply mn;rfl|apply sV;rfl|apply jk;rfl;kernel_rfl|refine js 0 rfl (by kernel_rfl) (by(repeat(refine⟨(by(exact aK (F.ag _ rfl) rfl (by repeat(first|assumption|exact ae)) (aF rfl))),?_⟩));exact Gu) ?_)))
       repeat first|apply ah;rfl|apply aC;rfl;omega;omega
       exact ih _ _ _ (x+1) ⟨hx,by repeat(first|assumption|refine aa (by omega) ?_),by repeat(first|assumption|refine aa (by omega) ?_),by rw [hdb];(focus((repeat(exact ae));done)),by repeat(first|assumption|refine aa (by omega) ?_),o5.frame (by(dsimp only;omega)) fun m h1 h2 h3=>(by(repeat(refine aa (by omega) ?_));rfl),by repeat(first|assumption|refine aa (by omega) ?_),by first|omega|(dsimp only;omega),fun m hm=>by(repeat(refine aa (by omega) ?_));exact o8 m hm⟩ (by omega) (Gq (Gt rfl))
     | false=>
       rw [hd] at o3 hdb
       (apply bU;(focus(kernel_rfl));(focus(kernel_rfl)))
       repeat first|apply kO;rfl;assumption;rfl|apply az;rfl
       refine fV rfl rfl rfl rfl (fun c2=>?_) (fun c2=>?_)
       ·have hx1:x-1<sb.length:=by omega
        have hf1:=dW (f:=Ow.elV) (fun _=>rfl) sb (x-1) 0 3 hx1 (by decide)
        have hf2:=dW (f:=Ow.elV) (fun _=>rfl) sb x 0 3 hx (by decide)
        rw [show sb.getD (x-1) (cp,0)=sb[x-1] by rw [Ez,En hx1];rfl,show sb.getD x (cp,0)=sb[x] by rw [Ez,En hx];rfl,E8 (by omega:0<x)] at hdb
        cases hse:eE (sb[x-1]).1 (sb[x]).1 with
        | true=>
          rw [hse] at hdb
          repeat first|refine cm rfl rfl rfl (F.sz _ rfl) (by assumption) (by rfl) (by rfl) ?_|refine ba (aK (F.ag _ rfl) rfl (by assumption) (aF (bC hp (.slu ra 0 sb.length) sl 0))) rfl rfl rfl ?_|refine ak (q:=x-1) rfl rfl rfl rfl (F.un _ rfl) (F.sz _ rfl) (by assumption) (by omega) (by(omega)) (EE _) ?_|refine ak (q:=x) rfl rfl rfl rfl (F.un _ rfl) (F.sz _ rfl) (by assumption) (by omega) (by(omega)) (EE _) ?_|refine cv (us:=fX (sb[x-1]).1) rfl rfl rfl (F.ag _ rfl) o4 hf1 rfl (by omega) ?_|refine cv (us:=fX (sb[x]).1) rfl rfl rfl (F.ag _ rfl) o4 hf2 rfl (by omega) ?_|apply cd;rfl;rfl;exact(fun _ h=>by cases h);exact(md (a:=(sb[x-1]).1) (b:=(sb[x]).1) hse rfl rfl)|apply az;rfl|refine ba (am rfl rfl (.inr (.inl ⟨rfl,(Ek _ ⟨(by focus(omega)),(by focus(omega))⟩).symm⟩))) rfl rfl rfl ?_
          refine au ⟨by kernel_rfl,?_,?_⟩;(focus(repeat(first|exact Gu|apply mn;rfl|apply jk;rfl;kernel_rfl|refine⟨.inr ⟨0,by kernel_rfl,AllH.all (fun _=>(by(exact am rfl rfl (.inr (.inl ⟨rfl,(Ek _ ⟨by omega,by omega⟩).symm⟩))))) _⟩,?_⟩|refine js 1 rfl (by kernel_rfl) (by(repeat(refine⟨(by(exact aK (F.ag _ rfl) rfl (by assumption) (aF rfl))),?_⟩));exact Gu) ?_|apply oD;kernel_rfl)))
          repeat first|apply ah;rfl|apply aC;rfl;omega;omega
          exact ih _ _ _ (x+1) ⟨hx,by repeat(first|assumption|refine aa (by omega) ?_),by repeat(first|assumption|refine aa (by omega) ?_),by rw [hdb];(focus((repeat(exact ae));done)),by repeat(first|assumption|refine aa (by omega) ?_),o5.frame (by(dsimp only;omega)) fun m h1 h2 h3=>(by(repeat(refine aa (by omega) ?_));rfl),by repeat(first|assumption|refine aa (by omega) ?_),by first|omega|(dsimp only;omega),fun m hm=>by(repeat(refine aa (by omega) ?_));exact o8 m hm⟩ (by omega) (Gq (Gt rfl))
        | false=>
          rw [hse] at hdb
          repeat first|refine cm rfl rfl rfl (F.sz _ rfl) (by assumption) (by rfl) (by rfl) ?_|refine ba (aK (F.ag _ rfl) rfl (by assumption) (aF (bC hp (.slu ra 0 sb.length) sl 0))) rfl rfl rfl ?_|refine ak (q:=x-1) rfl rfl rfl rfl (F.un _ rfl) (F.sz _ rfl) (by assumption) (by omega) (by(omega)) (EE _) ?_|refine ak (q:=x) rfl rfl rfl rfl (F.un _ rfl) (F.sz _ rfl) (by assumption) (by omega) (by(omega)) (EE _) ?_|refine cv (us:=fX (sb[x-1]).1) rfl rfl rfl (F.ag _ rfl) o4 hf1 rfl (by omega) ?_|refine cv (us:=fX (sb[x]).1) rfl rfl rfl (F.ag _ rfl) o4 hf2 rfl (by omega) ?_|apply cd;rfl;rfl;exact(fun _ h=>by cases h);exact(md (a:=(sb[x-1]).1) (b:=(sb[x]).1) hse rfl rfl)|apply az;rfl|refine ba (am rfl rfl (.inr (.inl ⟨rfl,(Ek _ ⟨(by focus(omega)),(by focus(omega))⟩).symm⟩))) rfl rfl rfl ?_
          refine au ⟨by kernel_rfl,?_,?_⟩;(focus(repeat(first|exact Gu|apply mn;rfl|apply jk;rfl;kernel_rfl|refine⟨.inr ⟨0,by kernel_rfl,AllH.all (fun _=>(by(exact am rfl rfl (.inr (.inl ⟨rfl,(Ek _ ⟨by omega,by omega⟩).symm⟩))))) _⟩,?_⟩|refine js 0 rfl (by kernel_rfl) (by(repeat(refine⟨(by(exact aK (F.ag _ rfl) rfl (by repeat(first|assumption|exact ae|refine aa (by omega) ?_)) (aF rfl))),?_⟩));exact Gu) ?_|apply oD;kernel_rfl)))
          repeat first|apply ah;rfl|apply aC;rfl;omega;omega
          exact ih _ _ _ (x+1) ⟨hx,by repeat(first|assumption|refine aa (by omega) ?_),by repeat(first|assumption|refine aa (by omega) ?_),by rw [hdb];(focus((repeat(exact ae));done)),by repeat(first|assumption|refine aa (by omega) ?_),o5.frame (by(dsimp only;omega)) fun m h1 h2 h3=>(by(repeat(refine aa (by omega) ?_));rfl),by repeat(first|assumption|refine aa (by omega) ?_),by first|omega|(dsimp only;omega),fun m hm=>by(repeat(refine aa (by omega) ?_));exact o8 m hm⟩ (by omega) (Gq (Gt rfl))
       ·rw [E9 (by omega: ¬ 0<x)] at hdb
        repeat first|refine cm rfl rfl rfl (F.sz _ rfl) (by assumption) (by rfl) (by rfl) ?_|apply az;rfl|apply bA;rfl;rfl
        refine au ⟨by kernel_rfl,?_,?_⟩;(focus(repeat(first|exact Gu|apply mn;rfl|apply sV;rfl|apply jk;rfl;kernel_rfl|refine js 0 rfl (by kernel_rfl) (by(repeat(refine⟨(by(exact aK (F.ag _ rfl) rfl (by repeat(first|assumption|exact ae)) (aF rfl))),?_⟩));exact Gu) ?_|apply oD;kernel_rfl)))
        repeat first|apply ah;rfl|apply aC;rfl;omega;omega
        exact ih _ _ _ (x+1) ⟨hx,by repeat(first|assumption|refine aa (by omega) ?_),by repeat(first|assumption|refine aa (by omega) ?_),by rw [hdb];(focus((repeat(exact ae));done)),by repeat(first|assumption|refine aa (by omega) ?_),o5.frame (by(dsimp only;omega)) fun m h1 h2 h3=>(by(repeat(refine aa (by omega) ?_));rfl),by repeat(first|assumption|refine aa (by omega) ?_),by first|omega|(dsimp only;omega),fun m hm=>by(repeat(refine aa (by omega) ?_));exact o8 m hm⟩ (by omega) (Gq (Gt rfl))
    ·repeat first|apply ah;rfl|apply a6;rfl|apply aM;rfl;assumption;rfl
     have hin:x=sb.length:=by omega
     subst hin
     cases hd:ym sb sb.length with
     | true=>
       rw [hd] at o3 hM
       have hn:eM p bs i=none:=hM
       repeat apply ah;rfl
       (repeat(first|refine cx rfl rfl qj ?_|refine di rfl rfl rfl (F.sz _ rfl) (by assumption) (aO ac _ _) (by rw [aO ac];exact EE _) (dF _ _ rfl rfl) (dD ac ac) ?_|apply ah;rfl));refine ic Tryz.func38 (congrArg Array.toList Tryz.results38) (rs:= [q0+1+1]) rfl (fun r hr=>by rw [EV.1 hr];(focus((repeat(first|assumption|refine aa (by omega) ?_));done))) (by simp) ?_;intro H8 hH8;have kz:H8.at' (nx+1+1)=some (d8 0 zeroP cF cF):=(hH8 _ (fun h=>absurd (EV.1 h) (by omega))).trans (by repeat(exact ae));refine⟨_,(by(apply Gl rfl (Gn (F.ag _ rfl) (by assumption) (gY ac _ _));(repeat(first|exact Gk|apply Gm rfl)))),?_⟩;exact⟨by dsimp only;omega,fun m hm=>(hH8 _ (fun h=>absurd (EV.1 h) (by omega))).trans (by(repeat(refine aa (by omega) ?_));exact o8 m hm),.inl ⟨hn,rfl⟩⟩
     | false=>
       rw [hd] at o3 hM
       have hn:eM p bs i=some (sb,left):=hM
       repeat apply ah;rfl
       (repeat(first|refine j6 rfl rfl rfl (F.ag _ rfl) (by assumption) (aO hp _ _) ?_|refine di rfl rfl rfl (F.sz _ rfl) (by assumption) (aO hp _ _) (by rw [aO ac];exact EE _) (dF _ _ rfl o5.one) (dD ac hp) ?_|apply ah;rfl));refine ic Tryz.func38 (congrArg Array.toList Tryz.results38) (rs:= [q0+1+1]) rfl (fun r hr=>by rw [EV.1 hr];(focus((repeat(first|assumption|refine aa (by omega) ?_));done))) (by simp) ?_;intro H8 hH8;have kz:H8.at' (nx+1+1)=some (d8 N p (.slu ra 0 sb.length) sl):=(hH8 _ (fun h=>absurd (EV.1 h) (by omega))).trans (by repeat(exact ae));refine⟨_,(by(apply Gl rfl (Gn (F.ag _ rfl) (by assumption) (gY hp _ _));(repeat(first|exact Gk|apply Gm rfl)))),?_⟩;refine⟨by dsimp only;omega,fun m hm=>(hH8 _ (fun h=>absurd (EV.1 h) (by omega))).trans (by(repeat(refine aa (by omega) ?_));exact o8 m hm),.inr ⟨_,left,(.slu ra 0 sb.length),sl,hn,rfl,?_,?_⟩⟩
       ·exact .inr ⟨ra,fun h=>by rw [h] at hn0;exact absurd hn0 (by decide),rfl,by omega,by dsimp only;omega,(hH8 _ (fun h=>absurd (EV.1 h) (by omega))).trans (by repeat(first|assumption|refine aa (by omega) ?_))⟩
       ·exact(o5.frame (by(dsimp only;omega)) fun m h1 h2 _=>(hH8 _ (fun h=>absurd (EV.1 h) (by omega))).trans (by(repeat(refine aa (by omega) ?_));rfl)).low (by omega)
  ·dsimp only at i1 i4 i7 i8 i9 j2 j3 j4 i12 ⊢
   have hn:eM p bs i=none:=by rw [hM,hno]
   refine gr i1 (fun h=>by cases h) ?_
   dsimp only [gM]
   repeat apply ah;rfl
   rcases j3 with ⟨rfl,rfl⟩|⟨ra,k1,rfl,k2,k3,k4⟩
   ·have hs0:=Ow.sortF_spec 0 #[] (by decide) rfl
    repeat refine a7 rfl rfl rfl (F.ag _ rfl) (by repeat(first|assumption|refine aa (by omega) ?_)) (bC hp cF sl 0) ?_
    refine ma 4 128 (d:=78) rfl rfl ?_
    (refine aZ rfl rfl rfl (by kernel_rfl) (Ctr.lX (hs0) [n5] rfl ⟨by intro n hn;simp at hn;omega,by simp;try omega⟩ rfl (by repeat(first|exact Gu|refine⟨ai (by repeat(exact ae)),?_⟩)) ?_);rintro _ rfl;refine⟨_,0,[n5],[some _],rfl,(by repeat(first|exact Gu|refine⟨dq _ _ _ _ _ _,?_⟩)),rfl,rfl,?_⟩;dsimp only [wrL])
    repeat first|refine a7 rfl rfl rfl (F.ag _ rfl) (by repeat(first|assumption|refine aa (by omega) ?_)) (bC hp cF sl 0) ?_|apply ah;rfl|refine bO (cj (F.un _ rfl) rfl) rfl rfl rfl ?_
    refine bv (α:=Nat) (fun x=> [(6,.ptr (nx+1+1) 0),(8,.ptr (nx+1+1+1) 0),(11,.ptr (nx+1+1+1+1+1) 0),(82,.sc (.int .i64 0)),(83,.sc (.int .i64 0))])
     (fun x H7 n7=>H7.at' (nx+1+1)=some (d8 0 zeroP cF cF)∧H7.at' (nx+1+1+1)=some (d8 N p cF sl)∧H7.at' (nx+1+1+1+1+1)=some (nP true)∧IntsAt H7 sl left (q0+1+1+1+1+1) n7∧H7.at' (q0+1+1)=some (.dfd (some []))∧n5≤n7∧ ∀ m,m<nx→H7.at' m=H.at' m) (fun x=>0) 0
     ⟨by repeat(first|assumption|refine aa (by omega) ?_),by repeat(first|assumption|refine aa (by omega) ?_),by repeat(first|assumption|refine aa (by omega) ?_),j4.frame (by(omega)) fun m h1 h2 _=>(by(repeat(refine aa (by omega) ?_));rfl),by repeat(first|assumption|refine aa (by omega) ?_),by first|omega|(dsimp only;omega),fun m hm=>by(repeat(refine aa (by omega) ?_));exact i12 m hm⟩ (Gq (Gt rfl)) ?_
    clear j4 i12 i8 i9 i7 i1
    rintro x H7 n7 ⟨o1,o2,o3,o5,o6,o7,o8⟩ _
    repeat first|apply ah;rfl|apply aM;rfl;assumption;rfl|apply si;rfl;decide
    (repeat(first|refine cx rfl rfl qj ?_|refine di rfl rfl rfl (F.sz _ rfl) (by assumption) (aO ac _ _) (by rw [aO ac];exact EE _) (dF _ _ rfl rfl) (dD ac ac) ?_|apply ah;rfl));refine ic Tryz.func38 (congrArg Array.toList Tryz.results38) (rs:= [q0+1+1]) rfl (fun r hr=>by rw [EV.1 hr];(focus((repeat(first|assumption|refine aa (by omega) ?_));done))) (by simp) ?_;intro H8 hH8;have kz:H8.at' (nx+1+1)=some (d8 0 zeroP cF cF):=(hH8 _ (fun h=>absurd (EV.1 h) (by omega))).trans (by repeat(exact ae));refine⟨_,(by(apply Gl rfl (Gn (F.ag _ rfl) (by assumption) (gY ac _ _));(repeat(first|exact Gk|apply Gm rfl)))),?_⟩;exact⟨by dsimp only;omega,fun m hm=>(hH8 _ (fun h=>absurd (EV.1 h) (by omega))).trans (by(repeat(refine aa (by omega) ?_));exact o8 m hm),.inl ⟨hn,rfl⟩⟩
   ·have hs0:=Ow.sortF_spec own.length own.toArray hl (by simp)
    refine gL (R:=fun H6 n6=>n5=n6∧H6.at' (nx+1+1)=some (d8 0 zeroP cF cF)∧H6.at' (nx+1+1+1)=some (d8 N p (.slu ra 0 own.length) sl)∧H6.at' (nx+1+1+1+1+1)=some (nP true)∧H6.at' ra=some (tR own)∧IntsAt H6 sl left (q0+1+1+1+1+1) n5∧H6.at' (q0+1+1)=some (.dfd (some []))∧ ∀ m,m<nx→H6.at' m=H.at' m) ⟨rfl,by repeat(first|assumption|refine aa (by omega) ?_),by repeat(first|assumption|refine aa (by omega) ?_),by repeat(first|assumption|refine aa (by omega) ?_),by repeat(first|assumption|refine aa (by omega) ?_),j4.frame (EE _) fun m h1 h2 _=>(by(repeat(refine aa (by omega) ?_));rfl),by repeat(first|assumption|refine aa (by omega) ?_),fun m hm=>by(repeat(refine aa (by omega) ?_));exact i12 m hm⟩ ?_
    clear i1 i7 i8 i9 i12 k4 j2 j4
    rintro H6 n6 ⟨rfl,b1,b2,b3,b4,b5,b6,b7⟩
    repeat refine a7 rfl rfl rfl (F.ag _ rfl) (by assumption) (bC hp (.slu ra 0 own.length) sl 0) ?_
    (refine aZ rfl rfl rfl (by kernel_rfl) (Ctr.lX (hs0) [ra] rfl ⟨by intro n hn;simp at hn;omega,by simp;try omega⟩ rfl (by repeat(first|exact Gu|refine⟨ai (by assumption),?_⟩)) ?_);rintro _ rfl;refine⟨_,0,[ra],[some _],rfl,(by repeat(first|exact Gu|refine⟨dq _ _ _ _ _ _,?_⟩)),rfl,rfl,?_⟩;dsimp only [wrL])
    rw [show dat false own.length 4 128 ((Sort.sort Ow.ltP own.toArray).toList.flatMap Ow.elV)=tR (nQ own)from tz own]
    have hsl:=j8 own
    rw [← hsl] at hl b2 ⊢
    generalize nQ own=sb at hl b2 ⊢
    clear hs0 hsl k1
    repeat first|refine a7 rfl rfl rfl (F.ag _ rfl) (by repeat(first|assumption|refine aa (by omega) ?_)) (bC hp (.slu ra 0 sb.length) sl 0) ?_|apply ah;rfl
    refine bv (α:=Nat) (fun x=> [(6,.ptr (nx+1+1) 0),(8,.ptr (nx+1+1+1) 0),(11,.ptr (nx+1+1+1+1+1) 0),(82,.sc (.int .i64 (sb.length:Int))),(83,.sc (.int .i64 (x:Int)))])
     (fun x H7 n7=>x≤sb.length∧H7.at' (nx+1+1)=some (d8 0 zeroP cF cF)∧H7.at' (nx+1+1+1)=some (d8 N p (.slu ra 0 sb.length) sl)∧H7.at' (nx+1+1+1+1+1)=some (nP true)∧H7.at' ra=some (tR sb)∧IntsAt H7 sl left (q0+1+1+1+1+1) n7∧H7.at' (q0+1+1)=some (.dfd (some []))∧n5≤n7∧ ∀ m,m<nx→H7.at' m=H.at' m) (fun x=>sb.length-x) 0
     ⟨EF _,by repeat(first|assumption|refine aa (by omega) ?_),by repeat(first|assumption|refine aa (by omega) ?_),by repeat(first|assumption|refine aa (by omega) ?_),by repeat(exact ae),b5.frame (by(omega)) fun m h1 h2 h3=>(by have hmr:m≠ra:=(by rintro rfl;exact mh (b4.symm.trans h3));(focus((repeat(refine aa (by omega) ?_));rfl))),by repeat(first|assumption|refine aa (by omega) ?_),by first|omega|(dsimp only;omega),fun m hm=>by(repeat(refine aa (by omega) ?_));exact b7 m hm⟩ (Gq (Gt rfl)) ?_
    clear b1 b2 b3 b4 b5 b6 b7
    rintro x H7 n7 ⟨o0,o1,o2,o3,o4,o5,o6,o7,o8⟩ ih
    repeat apply ah;rfl
    refine bq rfl rfl rfl rfl (fun c1=>?_) (fun c1=>?_)
    ·have hx:x<sb.length:=by omega
     have hdb:true=true:=rfl
     repeat apply ah;rfl
     (apply bU;(focus(kernel_rfl));(focus(kernel_rfl)))
     repeat first|apply kO;rfl;assumption;rfl|refine cm rfl rfl rfl (F.sz _ rfl) (by assumption) (by rfl) (by rfl) ?_|apply az;rfl|apply bA;rfl;rfl
     refine au ⟨by kernel_rfl,?_,?_⟩;(focus(repeat(first|exact Gu|apply mn;rfl|apply sV;rfl|apply jk;rfl;kernel_rfl|refine js 0 rfl (by kernel_rfl) (by(repeat(refine⟨(by(exact aK (F.ag _ rfl) rfl (by repeat(first|assumption|exact ae)) (aF rfl))),?_⟩));exact Gu) ?_)))
     repeat first|apply ah;rfl|apply aC;rfl;omega;omega
     exact ih _ _ _ (x+1) ⟨hx,by repeat(first|assumption|refine aa (by omega) ?_),by repeat(first|assumption|refine aa (by omega) ?_),by repeat(exact ae),by repeat(first|assumption|refine aa (by omega) ?_),o5.frame (by(dsimp only;omega)) fun m h1 h2 h3=>(by(repeat(refine aa (by omega) ?_));rfl),by repeat(first|assumption|refine aa (by omega) ?_),by first|omega|(dsimp only;omega),fun m hm=>by(repeat(refine aa (by omega) ?_));exact o8 m hm⟩ (by omega) (Gq (Gt rfl))
    ·repeat first|refine a7 rfl rfl rfl (F.ag _ rfl) o3 rfl ?_|apply ah;rfl
     (repeat(first|refine cx rfl rfl qj ?_|refine di rfl rfl rfl (F.sz _ rfl) (by assumption) (aO ac _ _) (by rw [aO ac];exact EE _) (dF _ _ rfl rfl) (dD ac ac) ?_|apply ah;rfl));refine ic Tryz.func38 (congrArg Array.toList Tryz.results38) (rs:= [q0+1+1]) rfl (fun r hr=>by rw [EV.1 hr];(focus((repeat(first|assumption|refine aa (by omega) ?_));done))) (by simp) ?_;intro H8 hH8;have kz:H8.at' (nx+1+1)=some (d8 0 zeroP cF cF):=(hH8 _ (fun h=>absurd (EV.1 h) (by omega))).trans (by repeat(exact ae));refine⟨_,(by(apply Gl rfl (Gn (F.ag _ rfl) (by assumption) (gY ac _ _));(repeat(first|exact Gk|apply Gm rfl)))),?_⟩;exact⟨by dsimp only;omega,fun m hm=>(hH8 _ (fun h=>absurd (EV.1 h) (by omega))).trans (by(repeat(refine aa (by omega) ?_));exact o8 m hm),.inl ⟨hn,rfl⟩⟩
def fM(own:List Ow.El)(e:bf):Option Int:=(own.find? fun o=>eE o.1 e).map (·.2)
abbrev Dq(o:Option Int):SV:= .tup [.sc (.int .i64 (o.getD 0)),.sc (.bool o.isSome)]
theorem uP(o:Option Int):Free (Dq o):=Free.two (Free.sc _) (Free.sc _)
theorem wG{x:Ow.El}{l:List Ow.El}(h:eE x.1 e=true):fM (x :: l) e=some x.2:=by simp [fM,h]
theorem zn{x:Ow.El}{l:List Ow.El}(h:eE x.1 e=false):fM (x :: l) e=fM l e:=by simp [fM,h]
theorem tB{N:Int}{so sl:SV}(hp:p.length=1024)(ho:OwnAt H so own lo hi)(hl:own.length≤1000)(e:bf):Fnc Tryz.prog 40 [.agg (dL N p so sl),gC e] H nx (fun q=>q=(Dq (fM own e),H,nx)):=by
 refine Fnc.bW (uP _) ?_
 refine Gj Tryz.func40 rfl rfl ?_
 refine bh fun hund=>?_
 rcases ho with ⟨rfl,rfl⟩|⟨r,k1,rfl,k2,k3,k4⟩
 ·repeat first|refine a7 rfl rfl rfl (F.ag _ rfl) (by repeat(first|exact ae|refine aa (by omega) ?_)) (bC hp cF sl 0) ?_|apply ah;rfl|refine bO (cj (F.un _ rfl) rfl) rfl rfl rfl ?_
  refine bv (α:=Nat) (fun x=> [(10,.sc (.int .i64 0)),(11,.sc (.int .i64 0))])
   (fun x H7 n7=>nx≤n7∧ ∀ m,m<nx→H7.at' m=H.at' m) (fun x=>0) 0
   ⟨by omega,fun m hm=>by(repeat(refine aa (by omega) ?_));rfl⟩ (Gq (Gt rfl)) ?_
  rintro x H7 n7 ⟨o1,o2⟩ _
  repeat first|apply ah;rfl|apply si;rfl;decide
  (apply b8 Tryz.func40 Tryz.results40;rfl)
  exact⟨rfl,o1,o2⟩
 ·have hlt:=hund _ _ k4
  repeat first|refine a7 rfl rfl rfl (F.ag _ rfl) (by repeat(first|exact ae|refine aa (by omega) ?_)) (bC hp (.slu r 0 own.length) sl 0) ?_|apply ah;rfl
  refine bv (α:=Nat) (fun x=> [(3,.ptr (nx+1) 0),(9,.slu r 0 own.length),(10,.sc (.int .i64 (own.length:Int))),(11,.sc (.int .i64 (x:Int)))])
   (fun x H7 n7=>x≤own.length∧nx+1+1≤n7∧H7.at' (nx+1)=some (an 25 ((fX e).map .sc))∧fM (own.drop x) e=fM own e∧ ∀ m,m<nx→H7.at' m=H.at' m) (fun x=>own.length-x) 0
   ⟨EF _,EE _,by repeat(exact ae),rfl,fun m hm=>by(repeat(refine aa (by omega) ?_));rfl⟩ (Gq (Gt rfl)) ?_
  rintro x H7 n7 ⟨o0,o1,o2,o3,o4⟩ ih
  have o5:=(o4 r hlt).trans k4
  repeat apply ah;rfl
  refine bq rfl rfl rfl rfl (fun c1=>?_) (fun c1=>?_)
  ·have hx:x<own.length:=by omega
   have hf:=dW (f:=Ow.elV) (fun _=>rfl) own x 0 4 hx (by decide)
   rw [List.drop_eq_getElem_cons hx] at o3
   repeat first|refine ew (q:=x) rfl rfl rfl rfl (F.un _ rfl) (F.sz _ rfl) (by exact o5) rfl hx (EE _) ?_|refine eu (us:=Ow.elV own[x]) rfl rfl rfl (F.ag _ rfl) (by exact o5) hf rfl (by omega) ?_|refine cN rfl rfl rfl (F.ag _ rfl) (by repeat(first|assumption|exact ae|refine aa (by omega) ?_)) (aB 3 0 rfl rfl) ?_|apply ah;rfl|apply aM;rfl;(focus((repeat(exact ae));done));rfl
   cases he:eE (own[x]).1 e with
   | true=>
     rw [wG he] at o3
     refine wr (a:=(own[x]).1) (b:=e) rfl rfl he rfl rfl ?_
     repeat first|apply ah;rfl|apply aM;rfl;(focus((repeat(exact ae));done));rfl
     (apply b8 Tryz.func40 Tryz.results40;rfl)
     exact⟨by rw [← o3];rfl,by dsimp only;omega,fun m hm=>by(repeat(refine aa (by omega) ?_));exact o4 m hm⟩
   | false=>
     rw [zn he] at o3
     refine wr (a:=(own[x]).1) (b:=e) rfl rfl he rfl rfl ?_
     repeat first|apply ah;rfl|apply aC;rfl;omega;omega
     exact ih _ _ _ (x+1) ⟨hx,by first|omega|(dsimp only;omega),by repeat(first|assumption|refine aa (by omega) ?_),o3,fun m hm=>by(repeat(refine aa (by omega) ?_));exact o4 m hm⟩ (by omega) (Gq (Gt rfl))
  ·repeat apply ah;rfl
   obtain rfl:x=own.length:=by omega
   rw [List.drop_length] at o3
   (apply b8 Tryz.func40 Tryz.results40;rfl)
   exact⟨by rw [← o3];rfl,by first|omega|(dsimp only;omega),o4⟩
def br(e:bf):List UInt8:= [UInt8.ofNat e.2.1.toNat,UInt8.ofNat e.2.2.toNat] ++ e.1.data.toList
theorem jd:gz e=true↔(1≤e.1.size∧e.1.size≤32)∧32≤e.2.1∧e.2.1<128∧0≤e.2.2∧e.2.2≤255:=decide_eq_true_iff
theorem gH(e:bf):(br e).length=e.1.size+2:=by
 show e.1.data.toList.length+2=_
 rfl
theorem td(e:bf)(hm:gz e=true):Fnc Tryz.prog 9 [gC e] H nx (fun q=> ∃ r,q.1 = .tup [.slu r 0 (br e).length,.sc (.int .i64 0)]∧q.2.1.at' r=some (u8R false (byV (br e)))∧nx≤r∧r<q.2.2∧ ∀ m,m<nx→q.2.1.at' m=H.at' m):=by
 obtain⟨⟨h1,h2⟩,h3,h4,h5,h6⟩:=jd.1 hm
 have w1:IntKind.u8.wrap e.2.1=((UInt8.ofNat e.2.1.toNat).toNat:Int):=by rw [← wk,Int.toNat_of_nonneg (by omega)]
 have w2:IntKind.u8.wrap e.2.2=((UInt8.ofNat e.2.2.toNat).toNat:Int):=by rw [← wk,Int.toNat_of_nonneg (by omega)]
 refine Gj Tryz.func9 rfl rfl ?_
 have hmf:=fun(H:ay) (nx:Nat)=>sN e (H:=H) (nx:=nx)
 rw [hm] at hmf
 repeat first|apply cT;rfl;kernel_rfl;exact hmf _ _|refine bO (cK (F.un _ rfl) (F.un _ rfl) rfl w1) rfl rfl rfl ?_|refine bO (cK (F.un _ rfl) (F.un _ rfl) rfl w2) rfl rfl rfl ?_|refine er (sG (F.un _ rfl) (F.un _ rfl) (F.un _ rfl) rfl (by focus(omega))) rfl rfl rfl ?_|apply ah;rfl|apply aM;rfl;(focus((repeat(first|exact ae|refine aa (by omega) ?_));done));rfl|refine er (aU (F.un _ rfl) (F.sz _ rfl) (aN rfl) (F.ze _ rfl) rfl rfl rfl rfl rfl) rfl rfl rfl ?_
 have hA:BsIs ((((H.set nx (an 25 ((fX e).map .sc))).set (nx+1) (ft false 2 1 5 ((byV [UInt8.ofNat e.2.1.toNat,UInt8.ofNat e.2.2.toNat]).map .sc))).set (nx+1+1) (dat false e.1.size 1 5 (u8L e.1))).set (nx+1+1+1) (bsR false [.slu (nx+1) 0 2,.slu (nx+1+1) 0 e.1.size])) (.slu (nx+1) 0 2) (byV [UInt8.ofNat e.2.1.toNat,UInt8.ofNat e.2.2.toNat]):=
  rN (ro:=false) (n:=2) (Eq.trans (b:=some (ft false 2 1 5 ((byV [UInt8.ofNat e.2.1.toNat,UInt8.ofNat e.2.2.toNat]).map .sc))) (by repeat(first|exact ae|refine aa (by omega) ?_)) (congrArg some (bZ _ _ _ _ _))) rfl
 have hB:BsIs ((((H.set nx (an 25 ((fX e).map .sc))).set (nx+1) (ft false 2 1 5 ((byV [UInt8.ofNat e.2.1.toNat,UInt8.ofNat e.2.2.toNat]).map .sc))).set (nx+1+1) (dat false e.1.size 1 5 (u8L e.1))).set (nx+1+1+1) (bsR false [.slu (nx+1) 0 2,.slu (nx+1+1) 0 e.1.size])) (.slu (nx+1+1) 0 e.1.size) (u8L e.1):=
  rN (ro:=false) (by repeat(first|exact ae|refine aa (by omega) ?_)) rfl
 have hfl: [byV [UInt8.ofNat e.2.1.toNat,UInt8.ofNat e.2.2.toNat],u8L e.1].flatten=byV (br e):=by
  show byV [UInt8.ofNat e.2.1.toNat,UInt8.ofNat e.2.2.toNat] ++ (u8L e.1 ++ [])=_
  rw [E3]
  rfl
 have hle:=gH e
 refine aZ rfl rfl rfl (by kernel_rfl) (Gi (xM (r:=nx+1+1+1) (ro:=false) (ls:= [.slu (nx+1) 0 2,.slu (nx+1+1) 0 e.1.size]) (aw _ _ _) (LsIs.cons hA (LsIs.cons hB (LsIs.nil _))) (by rw [hfl,fh];omega) (Ep rfl)) ?_)
 rintro _ rfl
 dsimp only
 rw [hfl,fh]
 repeat apply ah;rfl
 (apply b8 Tryz.func9 Tryz.results9;rfl)
 exact⟨nx+1+1+1+1,rfl,by repeat(exact ae),by omega,Nat.lt_succ_self _,fun m hm=>by(repeat(refine aa (by omega) ?_));rfl⟩
theorem ot{p:List UInt8}: ∀ {j:Nat} {u:List Bool} {l:List Bn.El},ci p j=some (u,l)→ ∀ x∈l,∃ k:Nat,1≤k∧k<28∧x.1=((4+k:Nat):Int)
 | 0,u,l,h=>by
   unfold ci at h
   cases h
   intro x hx
   exact absurd hx (by simp)
 | j+1,u,l,h=>by
   unfold ci at h
   cases hr:ci p j with
   | none=>rw [hr] at h;cases h
   | some x=>
     obtain⟨u0,l0⟩:=x
     have h1:=ot hr
     rw [hr] at h
     simp only at h
     split at h
     ·cases h;exact h1
     ·cases hb:ju u0 (ck p j)with
      | none=>rw [hb] at h;cases h
      | some y=>
        obtain⟨k,e⟩:=y
        rw [hb] at h
        simp only [Ej,Et] at h
        obtain⟨rfl,rfl⟩:=h
        obtain⟨k1,k2,_⟩:=p8 hb
        intro x hx
        rcases List.mem_append.1 hx with hx|hx
        ·exact h1 x hx
        ·rw [EV.1 hx]
         exact⟨k,k1,k2,by show(4:Int)+(k:Int)=_;omega⟩
theorem iB(h:gj p=some bs):0<bs.length∧bs.length≤28∧ ∀ x∈bs,∃ k:Nat,1≤k∧k<28∧x.1=((4+k:Nat):Int):=by
 unfold gj at h
 split at h
 ·cases hr:ci p (aj p)with
  | none=>rw [hr] at h;cases h
  | some y=>
    obtain⟨u,l⟩:=y
    rw [hr] at h
    simp only at h
    split at h
    ·rename_i hok
     cases h
     refine⟨?_,by rw [mc];exact qA hr,fun x hx=>ot hr x ((lb l).1.mem_iff.1 hx)⟩
     cases hs:lY l with
     | nil=>rw [hs] at hok;exact absurd hok (by decide)
     | cons a s=>simp
    ·cases h
 ·cases h
def lk(bs:List Bn.El)(i:Nat):Nat:=(bs.getD i (0,cp)).1.toNat-4
def kJ(mem:List UInt8)(bs:List Bn.El)(W:bf→Bool):Nat→Option (List bf)
 | 0=>some []
 | i+1=>match kJ mem bs W i with
   | none=>none
   | some l=>match eM (aR mem (lk bs i)) bs i with
     | none=>none
     | some (own,_)=>some (l ++ (own.map (·.1)).filter W)
def rz(mem:List UInt8)(W:bf→Bool):Option (List bf):=match gj (aR mem 0)with
 | none=>none
 | some bs=>kJ mem bs W bs.length
theorem vG{W:bf→Bool}(h:kJ mem bs W i=none): ∀ {k:Nat},i≤k→kJ mem bs W k=none:=by
 intro k hk
 induction k with
 | zero=>rw [Nat.le_zero.1 hk] at h;exact h
 | succ k ih=>
   rcases ES k i with h1|h1
   ·rw [show k+1=i by omega];exact h
   ·show(match kJ mem bs W k with|none=>none|some l=>_)=none
    rw [ih h1]
abbrev DY(l:List bf):VO:=dat false l.length 3 25 (l.flatMap fX)
def EnAt(H:ay)(s:SV)(l:List bf)(lo hi:Nat):Prop:=(l= []∧s=cF)∨ ∃ r,l≠ []∧s = .slu r 0 l.length∧lo≤r∧r<hi∧H.at' r=some (DY l)
theorem EnAt.frame{H':ay}{l:List bf}{hi':Nat}(h:EnAt H s l lo hi)(hh:hi≤hi')(hf: ∀ m,lo≤m→m<hi→H.at' m=some (DY l)→H'.at' m=H.at' m):EnAt H' s l lo hi':=by
 rcases h with h|⟨r,h1,h2,h3,h4,h5⟩
 ·exact .inl h
 ·exact .inr ⟨r,h1,h2,h3,by omega,(hf r h3 h4 h5).trans h5⟩
theorem EnAt.low{l:List bf}{lo':Nat}(h:EnAt H s l lo hi)(hl:lo'≤lo):EnAt H s l lo' hi:=by
 rcases h with h|⟨r,h1,h2,h3,h4,h5⟩
 ·exact .inl h
 ·exact .inr ⟨r,h1,h2,by omega,h4,h5⟩
theorem recE:RecOf fX 3:=⟨fun _=>rfl,fun a v hv=>by
 simp only [fX,E4,List.not_mem_nil,or_false] at hv
 rcases hv with rfl|rfl|rfl <;> rfl⟩
theorem zK{a:List Ow.El}{b:List bf}(h:some (tR a)=some (DY b)):False:=by
 have h:=Option.some.inj h
 unfold tR DY Ow.rowP arr dat at h
 injection h with _ _ h
 exact absurd h (by decide)
theorem kC{left:List Int}(h:eM p bs i=some (own,left)):own.length+left.length≤aj p:=by
 unfold eM at h
 split at h
 ·cases hr:cX p bs i (aj p)with
  | none=>rw [hr] at h;cases h
  | some y=>
    obtain⟨o,l⟩:=y
    rw [hr] at h
    simp only at h
    split at h
    ·cases h
    ·cases h
     rw [j8]
     exact gA hr
 ·cases h
theorem gZ(hp:p.length=1024){left:List Int}(h:eM p bs i=some (own,left)):aj p≤252:=by
 unfold eM at h
 split at h
 ·rename_i h1
  have:=(eW hp h1.1).2
  omega
 ·cases h
theorem kI{b c:Nat}{left:Int}{g:FuncId}{caps:List SV}{W:bf→Bool}(hb:PgAt H b mem left c)(hm:mem.length=28672)(hg:bB Tryz.prog g=true)
 (hW: ∀ e H' nx',nx≤nx'→(∀ m,m<nx→H'.at' m=H.at' m)→Fnc Tryz.prog g (gC e :: caps) H' nx' (fun q=>q=(.sc (.bool (W e)),H',nx'))):Fnc Tryz.prog 46 [og b,.fn (.func g) [] caps] H nx
 (fun q=>nx≤q.2.2∧(∀ m,m<nx→q.2.1.at' m=H.at' m)∧((rz mem W=none∧q.1 = .tup [cF,.sc (.int .i64 13)])∨ ∃ l s,rz mem W=some l∧q.1 = .tup [s,.sc (.int .i64 0)]∧EnAt q.2.1 s l nx q.2.2)):=by
 refine Gj Tryz.func46 rfl rfl ?_
 refine bh fun hund=>?_
 repeat apply ah;rfl
 refine aZ rfl rfl rfl (by kernel_rfl) (Gi (lp hb hm) ?_)
 rintro⟨v,H1,n1⟩ ⟨q1,q2,(⟨hn,rfl⟩|⟨bs,r,hbs,rfl,r1,r2,r3⟩)⟩
 ·dsimp only at q1 q2 ⊢
  repeat first|refine er (aW dK) rfl rfl rfl ?_|apply cG ac ac;rfl;(focus((repeat(exact ae));done))|apply ah;rfl|apply sh;rfl;decide
  (apply b8 Tryz.func46 Tryz.results46;rfl)
  exact⟨by first|omega|(dsimp only;omega),fun m hm=>by(repeat(refine aa (by omega) ?_));exact q2 m hm,.inl ⟨by unfold rz;rw [hn],rfl⟩⟩
 dsimp only at q1 q2 r1 r2 r3 ⊢
 obtain⟨hb0,hb28,hbm⟩:=iB hbs
 have hM:rz mem W=kJ mem bs W bs.length:=by unfold rz;rw [hbs]
 have hp0:=dw hm (n:=0) (by decide)
 repeat first|refine er (aW dK) rfl rfl rfl ?_|apply cG hp0 ac;rfl;(focus((repeat(exact ae));done))|apply ah;rfl|apply jK;rfl;rfl
 refine bv (α:=Nat×SV) (fun x=> [(0,og b),(1,.fn (.func g) [] caps),(7,.slu r 0 bs.length),(9,x.2),(25,.sc (.int .i64 (bs.length:Int))),(26,.sc (.int .i64 (x.1:Int)))])
  (fun x H7 n7=>x.1≤bs.length∧n1≤n7∧H7.at' r=some (nZ bs)∧(∃ l,kJ mem bs W x.1=some l∧l.length≤300*x.1∧EnAt H7 x.2 l n1 n7)∧ ∀ m,m<nx→H7.at' m=H.at' m) (fun x=>bs.length-x.1) (0,cF)
  ⟨EF _,by first|omega|(dsimp only;omega),by(repeat(refine aa (by omega) ?_));exact r3,⟨[],rfl,EE _,.inl ⟨rfl,rfl⟩⟩,fun m hm=>by(repeat(refine aa (by omega) ?_));exact q2 m hm⟩ (Gq (Gt rfl)) ?_
 rintro⟨i,s⟩ H7 n7 ⟨o0,o1,o2,⟨l,o3,o4,o5⟩,o6⟩ ih
 dsimp only at o0 o1 o2 o3 o4 o5 o6 ih ⊢
 repeat apply ah;rfl
 refine bq rfl rfl rfl rfl (fun c1=>?_) (fun c1=>?_)
 ·have hi:i<bs.length:=by omega
  obtain⟨k,hk1,hk2,hk3⟩:=hbm _ (EO hi)
  have hlk:lk bs i=k:=by unfold lk;rw [Ez,En hi];show(bs[i].1).toNat-4=k;rw [hk3];omega
  have e1:kJ mem bs W (i+1)=(match eM (aR mem k) bs i with|none=>none|some (own,_)=>some (l ++ (own.map (·.1)).filter W)):=by
   show(match kJ mem bs W i with|none=>none|some l=>_)=_
   rw [o3,hlk]
  repeat apply ah;rfl
  refine aZ rfl rfl rfl (by kernel_rfl) (Gi (lq (k:=k) (e0:=bs[i].2) (hb.frame hund (fun m hm=>by exact o6 m hm)) hm (by exact o2) hi (Prod.ext hk3 rfl) hk2 (by omega)) ?_)
  rintro⟨v,H8,n8⟩ ⟨p1,p2,(⟨hn,rfl⟩|⟨own,left,so,sl,hown,rfl,w1,w2⟩)⟩
  ·dsimp only at p1 p2 ⊢
   repeat first|refine er (aW oa) rfl rfl rfl ?_|refine di rfl rfl rfl (F.sz _ rfl) (by repeat(exact ae)) (aO ac _ _) (by rw [aO ac];exact EE _) (dF _ _ rfl rfl) (dD ac ac) ?_|apply ah;rfl|apply sh;rfl;decide
   (apply b8 Tryz.func46 Tryz.results46;rfl)
   exact⟨by first|omega|(dsimp only;omega),fun m hm=>by(repeat(refine aa (by omega) ?_));exact(p2 m (by omega)).trans (o6 m hm),.inl ⟨by rw [hM];exact vG (i:=i+1) (by rw [e1,hn]) hi,rfl⟩⟩
  ·dsimp only at p1 p2 w1 w2 ⊢
   rw [hown] at e1
   dsimp only at e1
   have hpk:=dw hm (n:=k) hk2
   have hlo:=kC hown
   have hsk:=gZ hpk hown
   rcases w1 with ⟨rfl,rfl⟩|⟨ro,k1,rfl,k2,k3,k4⟩
   ·repeat first|refine er (aW oa) rfl rfl rfl ?_|refine di rfl rfl rfl (F.sz _ rfl) (by repeat(exact ae)) (aO hpk _ _) (by rw [aO ac];exact EE _) (dF _ _ rfl w2.one) (dD ac hpk) ?_|refine a7 rfl rfl rfl (F.ag _ rfl) (by repeat(exact ae)) (bC hpk cF sl 0) ?_|apply ah;rfl|apply jK;rfl;rfl|refine bO (cj (F.un _ rfl) rfl) rfl rfl rfl ?_
    refine bv (α:=Nat) (fun y=> [(0,og b),(1,.fn (.func g) [] caps),(7,.slu r 0 bs.length),(9,s),(25,.sc (.int .i64 (bs.length:Int))),(26,.sc (.int .i64 (i:Int))),(41,.sc (.int .i64 0)),(42,.sc (.int .i64 0))])
     (fun y H9 n9=>n8≤n9∧H9.at' r=some (nZ bs)∧EnAt H9 s l n1 n9∧ ∀ m,m<nx→H9.at' m=H.at' m) (fun y=>0) 0
     ⟨by first|omega|(dsimp only;omega),by(repeat(refine aa (by omega) ?_));exact(p2 r (by omega)).trans o2,o5.frame (by(omega)) fun m h1 h2 _=>(by(repeat(refine aa (by omega) ?_));exact p2 m (by omega)),fun m hm=>by(repeat(refine aa (by omega) ?_));exact(p2 m (by omega)).trans (o6 m hm)⟩ (Gq (Gt rfl)) ?_
    rintro y H9 n9 ⟨u1,u2,u3,u4⟩ _
    repeat first|apply ah;rfl|apply aC;rfl;omega;omega|apply si;rfl;decide
    exact ih _ _ _ (i+1,s) ⟨hi,by first|omega|(dsimp only;omega),u2,⟨l,by rw [e1];simp,by omega,u3⟩,u4⟩ (by(omega)) (Gq (Gt rfl))
   ·have hn0:0<own.length:=List.length_pos_iff.2 k1
    repeat first|refine er (aW oa) rfl rfl rfl ?_|refine di rfl rfl rfl (F.sz _ rfl) (by repeat(exact ae)) (aO hpk _ _) (by rw [aO ac];exact EE _) (dF _ _ rfl w2.one) (dD ac hpk) ?_|refine a7 rfl rfl rfl (F.ag _ rfl) (by repeat(exact ae)) (bC hpk (.slu ro 0 own.length) sl 0) ?_|apply ah;rfl|apply jK;rfl;rfl
    refine bv (α:=Nat×SV) (fun y=> [(0,og b),(1,.fn (.func g) [] caps),(7,.slu r 0 bs.length),(9,y.2),(25,.sc (.int .i64 (bs.length:Int))),(26,.sc (.int .i64 (i:Int))),(40,.slu ro 0 own.length),(41,.sc (.int .i64 (own.length:Int))),(42,.sc (.int .i64 (y.1:Int)))])
     (fun y H9 n9=>y.1≤own.length∧n8≤n9∧H9.at' r=some (nZ bs)∧H9.at' ro=some (tR own)∧(∃ l',l'=l ++ ((own.take y.1).map (·.1)).filter W∧l'.length≤300*i+y.1∧EnAt H9 y.2 l' n1 n9)∧ ∀ m,m<nx→H9.at' m=H.at' m) (fun y=>own.length-y.1) (0,s)
     ⟨EF _,by first|omega|(dsimp only;omega),by(repeat(refine aa (by omega) ?_));exact(p2 r (by omega)).trans o2,by(repeat(refine aa (by omega) ?_));exact k4,⟨l,by simp,by omega,o5.frame (by(omega)) fun m h1 h2 _=>(by(repeat(refine aa (by omega) ?_));exact p2 m (by omega))⟩,fun m hm=>by(repeat(refine aa (by omega) ?_));exact(p2 m (by omega)).trans (o6 m hm)⟩ (Gq (Gt rfl)) ?_
    clear o2 o5 o6 p1 p2 k4 q2 r3 hown w2
    rintro⟨y,s'⟩ H9 n9 ⟨u0,u1,u2,u3,⟨l',u4,u5,u6⟩,u7⟩ ih2
    dsimp only at u0 u1 u2 u3 u4 u5 u6 u7 ih2 ⊢
    repeat apply ah;rfl
    refine bq rfl rfl rfl rfl (fun c2=>?_) (fun c2=>?_)
    ·have hy:y<own.length:=by omega
     have hf:=dW (f:=Ow.elV) (fun _=>rfl) own y 0 4 hy (by decide)
     have ht:((own.take (y+1)).map (·.1)).filter W=((own.take y).map (·.1)).filter W ++ [(own[y]).1].filter W:=by rw [List.take_succ_eq_append_getElem hy,EJ,List.filter_append];rfl
     repeat first|refine ew (q:=y) rfl rfl rfl rfl (F.un _ rfl) (F.sz _ rfl) (by exact u3) rfl hy (EE _) ?_|refine eu (us:=Ow.elV own[y]) rfl rfl rfl (F.ag _ rfl) (by exact u3) hf rfl (by omega) ?_|refine cN rfl rfl rfl (F.ag _ rfl) (by repeat(exact ae)) (aB 3 0 rfl rfl) ?_|apply ah;rfl|apply aM;rfl;(focus((repeat(exact ae));done));rfl
     refine jJ rfl rfl rfl rfl hg (Gi (hW (own[y]).1 _ _ (by omega) (fun m hm=>by(repeat(refine aa (by omega) ?_));exact u7 m hm)) ?_)
     rintro _ rfl
     dsimp only
     cases hw:W (own[y]).1 with
     | false=>
       have ht:((own.take (y+1)).map (·.1)).filter W=((own.take y).map (·.1)).filter W:=by rw [ht,List.filter_cons_of_neg (by rw [hw];decide),List.filter_nil,E3]
       repeat first|apply ah;rfl|apply aC;rfl;omega;omega
       exact ih2 _ _ _ (y+1,s') ⟨hy,by first|omega|(dsimp only;omega),by(repeat(refine aa (by omega) ?_));exact u2,by(repeat(refine aa (by omega) ?_));exact u3,⟨l',by rw [ht];exact u4,by first|omega|(dsimp only;omega),u6.frame (by(omega)) fun m h1 h2 _=>(by(repeat(refine aa (by omega) ?_));rfl)⟩,fun m hm=>by(repeat(refine aa (by omega) ?_));exact u7 m hm⟩ (by(omega)) (Gq (Gt rfl))
     | true=>
       have ht:l' ++ [(own[y]).1]=l ++ ((own.take (y+1)).map (·.1)).filter W:=by rw [ht,List.filter_cons_of_pos hw,List.filter_nil,←E0,←u4]
       rcases u6 with ⟨rfl,rfl⟩|⟨re,v1,rfl,v2,v3,v4⟩
       ·repeat first|refine cN rfl rfl rfl (F.ag _ rfl) (by repeat(exact ae)) (aB 3 0 rfl rfl) ?_|apply ah;rfl|refine er (aU (F.un _ rfl) (F.sz _ rfl) (aN rfl) (F.ze _ rfl) rfl rfl rfl rfl rfl) rfl rfl rfl ?_
        refine gP (b:=32) (n:=1) (cs:=(fX (own[y]).1).map .sc) rfl rfl rfl rfl (F.un _ rfl) (.inl ⟨_,F.un _ rfl⟩) (F.sz _ rfl) rfl (by kernel_rfl) (by kernel_rfl) (SlOf.row (by repeat(exact ae)) rfl) rfl (by decide) (by decide) ?_
        rintro _ _ _ (⟨h,_⟩|⟨_,rfl,rfl,rfl⟩)
        ·exact absurd h (by decide)
        repeat first|apply ah;rfl|apply aC;rfl;omega;omega
        exact ih2 _ _ _ (y+1,.slu (n9+1+1) 0 1) ⟨hy,by first|omega|(dsimp only;omega),by(repeat(refine aa (by omega) ?_));exact u2,by(repeat(refine aa (by omega) ?_));exact u3,⟨[(own[y]).1],ht,by show 1≤_;omega,.inr ⟨n9+1+1,by simp,rfl,by first|omega|(dsimp only;omega),by first|omega|(dsimp only;omega),Eq.trans (b:=some (ft false 1 3 25 ((fX (own[y]).1).map .sc))) (by repeat(exact ae)) (congrArg some (bZ _ _ _ _ _))⟩⟩,fun m hm=>by(repeat(refine aa (by omega) ?_));exact u7 m hm⟩ (by(omega)) (Gq (Gt rfl))
       ·have hre:ro≠re:=(by rintro rfl;exact zK (u3.symm.trans v4))
        repeat first|refine cN rfl rfl rfl (F.ag _ rfl) (by repeat(exact ae)) (aB 3 0 rfl rfl) ?_|apply ah;rfl|apply aC;rfl;omega;omega|refine er (aU (F.un _ rfl) (F.sz _ rfl) (aN rfl) (F.ze _ rfl) rfl rfl rfl rfl rfl) rfl rfl rfl ?_|refine mC (b:=32) (xs:=l') (a:=(own[y]).1) rfl rfl rfl rfl (F.un _ rfl) (.inl ⟨_,F.un _ rfl⟩) (F.sz _ rfl) rfl (by kernel_rfl) (by kernel_rfl) (by repeat(first|assumption|refine aa (by omega) ?_)) (by repeat(exact ae)) (by rfl) (recE) (by omega) (by omega) ?_
        exact ih2 _ _ _ (y+1,.slu (n9+1+1) 0 (l' ++ [(own[y]).1]).length) ⟨hy,by first|omega|(dsimp only;omega),by(repeat(first|refine aa (by omega) ?_|refine bQ (by omega) ?_));exact u2,by(repeat(first|refine aa (by omega) ?_|refine bQ (by omega) ?_));exact u3,⟨l' ++ [(own[y]).1],ht,by rw [EI,List.length_singleton];omega,.inr ⟨n9+1+1,by simp,rfl,by first|omega|(dsimp only;omega),by first|omega|(dsimp only;omega),by repeat(exact ae)⟩⟩,fun m hm=>by(repeat(first|refine aa (by omega) ?_|refine bQ (by omega) ?_));exact u7 m hm⟩ (by(omega)) (Gq (Gt rfl))
    ·repeat first|apply ah;rfl|apply aC;rfl;omega;omega
     obtain rfl:y=own.length:=by omega
     rw [List.take_length] at u4
     exact ih _ _ _ (i+1,s') ⟨hi,by first|omega|(dsimp only;omega),u2,⟨l',by rw [e1,u4],by omega,u6⟩,u7⟩ (by(omega)) (Gq (Gt rfl))
 ·repeat apply ah;rfl
  obtain rfl:i=bs.length:=by omega
  (apply b8 Tryz.func46 Tryz.results46;rfl)
  exact⟨by first|omega|(dsimp only;omega),o6,.inr ⟨l,s,by rw [hM];exact o3,rfl,o5.low q1⟩⟩
theorem oA{a:Nat}:Fnc Tryz.prog 42 [.ptr a 0] H nx (fun q=>q=(.tup [],H,nx)):=by
 refine Gj Tryz.func42 rfl rfl ?_
 repeat first|apply ah;rfl|apply fL;rfl;rfl|refine bO (fO rfl Tryz.underlying20) rfl rfl rfl ?_
 (apply wo Tryz.func42 Tryz.results42;rfl)
 rfl
theorem uw{a:Nat}:Fnc Tryz.prog 36 [.ptr a 0] H nx (fun q=>q=(.tup [],H,nx)):=by
 refine Gj Tryz.func36 rfl rfl ?_
 repeat first|apply ah;rfl|apply fL;rfl;rfl|refine bO (fO rfl Tryz.underlying20) rfl rfl rfl ?_
 (apply wo Tryz.func36 Tryz.results36;rfl)
 rfl
end
structure Home (mem:List UInt8) (e:bf) (bs:List Bn.El) (k:Nat) (own:List Ow.El) (left:List Int):Prop where
 root:gj (aR mem 0)=some bs
 num:lk bs (bG bs e)=k
 leaf:eM (aR mem k) bs (bG bs e)=some (own,left)
theorem Home.at{mem:List UInt8}{e:bf}{bs:List Bn.El}{k:Nat}{own:List Ow.El}{left:List Int}(h:Home mem e bs k own left): ∃ hi:bG bs e<bs.length,1≤k∧k<28∧bs[bG bs e].1=((4+k:Nat):Int):=by
 obtain⟨h0,h28,hb⟩:=iB h.root
 have hi:=eV e h0
 refine⟨hi,?_⟩
 obtain⟨k',k1,k2,k3⟩:=hb _ (EO hi)
 have hk:=h.num
 unfold lk at hk
 rw [Ez,En hi] at hk
 have hk:(bs[bG bs e].1).toNat-4=k:=hk
 rw [k3] at hk
 obtain rfl:k'=k:=by omega
 exact⟨k1,k2,k3⟩
theorem rO{H:ay}{m c:Nat}{t:TypeId}{l:List SV}(h:H.at' m=some (an t l)): ∀ ws,H.at' m≠some (ft false c 1025 212 ws):=fun ws h2=>by
 rw [h] at h2
 unfold an at h2
 cases h2
def eB1:bf:=(⟨#[98]⟩,40,1)
def eA0:bf:=(⟨#[97]⟩,40,0)
def eB9:bf:=(⟨#[98]⟩,39,9)
def eC0:bf:=(⟨#[99]⟩,40,0)
def root0:List UInt8:=nW (dh 2) [1]
def lp0:List UInt8:=dh 3
def lp1:List UInt8:=nW lp0 (br eB1)
def lp2:List UInt8:=nW lp1 (br eA0)
def lp3:List UInt8:=nW lp2 (br eB9)
theorem ub:fe (dh 2) [1]=(root0,0,0):=by kernel_rfl
abbrev a8:Value:= .int .u8 0
abbrev jx:List Value:= [.slice none 0 0,.int .i64 0,.bool false]
def yV:List Value:= [a8,a8,a8,a8,a8,a8,a8,a8,a8,a8,a8,a8,a8,a8,a8,a8,a8,a8,a8,a8,a8,a8,a8,a8,a8,a8,a8,a8,a8,a8,a8,a8,a8,a8,a8,a8,a8,a8,a8,a8,a8,a8,a8,a8,a8,a8,a8,a8,a8,a8,a8,a8,a8,a8,a8,a8]
theorem r5:yV=List.replicate 56 a8:=rfl
def oT:List Value:=List.append yV yV
theorem oS:oT=List.replicate 112 a8:=by
 show yV ++ yV=_
 rw [r5,Gf]
def oR:List Value:=List.append oT oT
theorem oQ:oR=List.replicate 224 a8:=by
 show oT ++ oT=_
 rw [oS,Gf]
def oP:List Value:=List.append oR oR
theorem oO:oP=List.replicate 448 a8:=by
 show oR ++ oR=_
 rw [oQ,Gf]
def oN:List Value:=List.append oP oP
theorem oM:oN=List.replicate 896 a8:=by
 show oP ++ oP=_
 rw [oO,Gf]
def j5:List Value:=List.append oN oN
theorem mw:j5=List.replicate 1792 a8:=by
 show oN ++ oN=_
 rw [oM,Gf]
def jZ:List Value:=List.append j5 j5
theorem mv:jZ=List.replicate 3584 a8:=by
 show j5 ++ j5=_
 rw [mw,Gf]
def vX:List Value:=List.append jZ jZ
theorem vW:vX=List.replicate 7168 a8:=by
 show jZ ++ jZ=_
 rw [mv,Gf]
def zt57:List Value:= [a8,a8,a8,a8,a8,a8,a8,a8,a8,a8,a8,a8,a8,a8,a8,a8,a8,a8,a8,a8,a8,a8,a8,a8,a8,a8,a8,a8,a8,a8,a8,a8,a8,a8,a8,a8,a8,a8,a8,a8,a8,a8,a8,a8,a8,a8,a8,a8,a8,a8,a8,a8,a8,a8,a8,a8,a8]
theorem Bg:zt57=List.replicate 57 a8:=rfl
def Bj:List Value:=List.append yV zt57
theorem yY:Bj=List.replicate 113 a8:=by
 show yV ++ zt57=_
 rw [r5,Bg,Gf]
def Bi:List Value:=List.append oT Bj
theorem yX:Bi=List.replicate 225 a8:=by
 show oT ++ Bj=_
 rw [oS,yY,Gf]
def Bh:List Value:=List.append oR Bi
theorem yW:Bh=List.replicate 449 a8:=by
 show oR ++ Bi=_
 rw [oQ,yX,Gf]
def Bf:List Value:=List.append oP Bh
theorem yU:Bf=List.replicate 897 a8:=by
 show oP ++ Bh=_
 rw [oO,yW,Gf]
def v6:List Value:=List.append oN Bf
theorem v5:v6=List.replicate 1793 a8:=by
 show oN ++ Bf=_
 rw [oM,yU,Gf]
def vZ:List Value:=List.append j5 v6
theorem vY:vZ=List.replicate 3585 a8:=by
 show j5 ++ v6=_
 rw [mw,v5,Gf]
def qf:List Value:=List.append jZ vZ
theorem qe:qf=List.replicate 7169 a8:=by
 show jZ ++ vZ=_
 rw [mv,vY,Gf]
def r6:List Value:=List.append vX qf
theorem uF:r6=List.replicate 14337 a8:=by
 show vX ++ qf=_
 rw [vW,qe,Gf]
def zq57:List Value:= [a8,a8,a8,a8,a8,a8,a8,a8,a8,a8,a8,a8,a8,a8,a8,a8,a8,a8,a8,a8,a8,a8,a8,a8,a8,a8,a8,a8,a8,a8,a8,a8,a8,a8,a8,a8,a8,a8,a8,a8,a8,a8,a8,a8,a8,a8,a8,a8,a8,a8,a8,a8,a8,a8,Value.slice none 0 0,Value.int .i64 0,Value.bool false]
theorem Bl:zq57=List.replicate 54 a8 ++ jx:=rfl
def Bp:List Value:=List.append yV zq57
theorem y7:Bp=List.replicate 110 a8 ++ jx:=by
 show yV ++ zq57=_
 rw [r5,Bl,←E0,Gf]
def Bo:List Value:=List.append oT Bp
theorem y6:Bo=List.replicate 222 a8 ++ jx:=by
 show oT ++ Bp=_
 rw [oS,y7,←E0,Gf]
def Bm:List Value:=List.append oR Bo
theorem y5:Bm=List.replicate 446 a8 ++ jx:=by
 show oR ++ Bo=_
 rw [oQ,y6,←E0,Gf]
def Bk:List Value:=List.append oP Bm
theorem yZ:Bk=List.replicate 894 a8 ++ jx:=by
 show oP ++ Bm=_
 rw [oO,y5,←E0,Gf]
def wd:List Value:=List.append oN Bk
theorem wc:wd=List.replicate 1790 a8 ++ jx:=by
 show oN ++ Bk=_
 rw [oM,yZ,←E0,Gf]
def wa:List Value:=List.append j5 wd
theorem v9:wa=List.replicate 3582 a8 ++ jx:=by
 show j5 ++ wd=_
 rw [mw,wc,←E0,Gf]
def v8:List Value:=List.append jZ wa
theorem v7:v8=List.replicate 7166 a8 ++ jx:=by
 show jZ ++ wa=_
 rw [mv,v9,←E0,Gf]
def r7:List Value:=List.append qf v8
theorem uH:r7=List.replicate 14335 a8 ++ jx:=by
 show qf ++ v8=_
 rw [qe,v7,←E0,Gf]
def zq28675:List Value:=List.append r6 r7
theorem uG:zq28675=List.replicate 28672 a8 ++ jx:=by
 show r6 ++ r7=_
 rw [uF,uH,←E0,Gf]
theorem Dd:dJ Tryz.prog 53=some (.agg (List.toArray zq28675)):=by kernel_rfl
abbrev zeroM:List UInt8:=List.replicate 28672 0
theorem iq:zeroM.length=28672:=E2
theorem y8:zq28675.map SV.sc=lP zeroM cF 0 false:=by
 rw [uG,EJ,List.map_replicate]
 show _=(byV (List.replicate 28672 0)).map SV.sc ++ _
 rw [show byV (List.replicate 28672 (0:UInt8))=List.replicate 28672 a8 from List.map_replicate,List.map_replicate]
 rfl
theorem BO:AS Tryz.prog 53=some [(0,28672),(28672,1),(28673,1),(28674,1)]:=by kernel_rfl
theorem Af:hY (fun i=>([(0,28672),(28672,1),(28673,1),(28674,1)]:List (Nat×Nat))[i]?) ((Value.agg (List.toArray zq28675)).cells.toList.map .sc) [(2,.sc (.int .i64 (-1)))]=some (lP zeroM cF (-1) false):=by
 have e:(Value.agg (List.toArray zq28675)).cells.toList.map SV.sc=lP zeroM cF 0 false:=(congrArg (List.map SV.sc) (List.toList_toArray ..)).trans y8
 have h1:=iR iq
 have hl:=gl iq cF 0 false
 rw [e,mm (vc:= [.sc (.int .i64 (-1))]) (size:=1) (off:=28673) rfl rfl rfl (by rw [hl];exact Ep rfl)]
 clear e hl
 unfold lP
 generalize (byV zeroM).map SV.sc=A at h1 ⊢
 rw [List.take_append,Ew (by omega),List.drop_append,List.drop_of_length_le (by omega),h1]
 simp
structure Okp (p:List UInt8):Prop where
 len:p.length=1024
 head:18+4*aj p≤aP p
 top:aP p≤1024
 last:0<aj p→aH p (aj p-1)≠0
 slot: ∀ j,j<aj p→(aY p j=0∧aH p j=0)∨(1≤aH p j∧aH p j≤1000∧aP p≤aY p j∧aY p j+aH p j≤1024)
 apart: ∀ i j,i<j→j<aj p→aH p i≠0→aH p j≠0→aY p i+aH p i≤aY p j∨aY p j+aH p j≤aY p i
section
variable {p:List UInt8}
theorem gF{seen:List (Nat×Nat)}{i:Nat}:cw seen i=true↔ ∃ x∈seen,x.1≤i∧i<x.1+x.2:=by
 simp [cw,List.any_eq_true]
theorem qR{seen:List (Nat×Nat)}{a s:Nat}(h0:1≤s)(hs: ∀ x∈seen,1≤x.2):sM seen a s=true↔ ∃ x∈seen,x.1<a+s∧a<x.1+x.2:=by
 constructor
 ·intro h
  obtain⟨j,hj,hc⟩:=List.any_eq_true.1 h
  obtain⟨x,hx,h1⟩:=gF.1 hc
  have:=Gb.1 hj
  exact⟨x,hx,by omega,by omega⟩
 ·rintro⟨x,hx,h1,h2⟩
  have:=hs x hx
  rcases ES a x.1 with h3|h3
  ·exact kr (i:=x.1) (by omega) (by omega) (gF.2 ⟨x,hx,by omega,by omega⟩)
  ·exact kr (i:=a) (by omega) (by omega) (gF.2 ⟨x,hx,by omega,by omega⟩)
def gu(p:List UInt8):Nat→List (Nat×Nat)
 | 0=> []
 | n+1=>if aH p n=0 then gu p n else(aY p n,aH p n) :: gu p n
theorem fQ{p:List UInt8}{x:Nat×Nat}: ∀ {n:Nat},x∈gu p n↔ ∃ i,i<n∧aH p i≠0∧x=(aY p i,aH p i)
 | 0=>by simp [gu]
 | n+1=>by
   unfold gu
   split
   ·rename_i h
    rw [fQ]
    constructor
    ·rintro⟨i,h1,h2⟩
     exact⟨i,by omega,h2⟩
    ·rintro⟨i,h1,h2,h3⟩
     rcases ES i n with h4|h4
     ·exact⟨i,h4,h2,h3⟩
     ·obtain rfl:i=n:=by omega
      exact absurd h h2
   ·rename_i h
    rw [E4,fQ]
    constructor
    ·rintro(h1|⟨i,h1,h2⟩)
     ·exact⟨n,by omega,h,h1⟩
     ·exact⟨i,by omega,h2⟩
    ·rintro⟨i,h1,h2,h3⟩
     rcases ES i n with h4|h4
     ·exact .inr ⟨i,h4,h2,h3⟩
     ·obtain rfl:i=n:=by omega
      exact .inl h3
def tA(p:List UInt8)(j:Nat):Prop:=(aY p j=0∧aH p j=0)∨((1≤aH p j∧aH p j≤1000∧aP p≤aY p j∧aY p j+aH p j≤1024)∧ ∀ i,i<j→aH p i≠0→aY p i+aH p i≤aY p j∨aY p j+aH p j≤aY p i)
theorem jM(p:List UInt8): ∀ (k n:Nat) (fine:Bool),eG p k n (gu p n) fine=true↔((∀ j,n≤j→j<n+k→tA p j)∧(if k=0 then fine=true else aH p (n+k-1)≠0∨n+k<aj p))
 | 0,n,fine=>by
   rw [EQ rfl]
   exact⟨fun h=>⟨fun j h1 h2=>absurd h1 (by omega),h⟩,fun h=>h.2⟩
 | k+1,n,fine=>by
   rw [EP (Nat.succ_ne_zero k)]
   have hsz: ∀ x∈gu p n,1≤x.2:=fun x hx=>by
    obtain⟨i,_,h2,rfl⟩:=fQ.1 hx
    exact Nat.pos_of_ne_zero h2
   have hall: ∀ {A:Prop},(tA p n)→(((∀ j,n≤j→j<n+(k+1)→tA p j)∧A)↔((∀ j,n+1≤j→j<n+1+k→tA p j)∧A)):=fun h=>
    ⟨fun g=>⟨fun j h1 h2=>g.1 j (by omega) (by omega),g.2⟩,fun g=>⟨fun j h1 h2=>by
      rcases ES n j with h3|h3
      ·exact g.1 j (by omega) (by omega)
      ·obtain rfl:n=j:=by omega
       exact h,g.2⟩⟩
   have hend: ∀ {b:Bool},(b=true↔aH p n≠0∨n+1<aj p)→((if k=0 then b=true else aH p (n+1+k-1)≠0∨n+1+k<aj p)↔(aH p (n+(k+1)-1)≠0∨n+(k+1)<aj p)):=fun {b} hb=>by
    by_cases hk:k=0
    ·subst hk
     rw [EQ rfl]
     exact hb
    ·rw [EP hk,show n+1+k=n+(k+1) by omega]
   unfold eG
   split
   ·rename_i h
    have hs:gu p (n+1)=gu p n:=by show(if aH p n=0 then _ else _)=_;rw [EQ h.2]
    rw [← hs,jM p k (n+1),hall (.inl h),hend]
    rw [Gg]
    constructor
    ·exact .inr
    ·rintro(h1|h1)
     ·exact absurd h.2 h1
     ·exact h1
   ·rename_i h
    split
    ·rename_i h1
     constructor
     ·intro h2;cases h2
     ·rintro⟨h2,_⟩
      rcases h2 n (EE _) (by omega)with h3|⟨h3,_⟩
      ·exact absurd h3 h
      ·omega
    ·rename_i h1
     split
     ·rename_i h2
      constructor
      ·intro h2;cases h2
      ·rintro⟨h3,_⟩
       obtain⟨x,hx,h4⟩:=(qR (by omega) hsz).1 h2
       obtain⟨i,h5,h6,rfl⟩:=fQ.1 hx
       rcases h3 n (EE _) (by omega)with h7|⟨_,h7⟩
       ·exact absurd h7 h
       ·have:=h7 i h5 h6
        dsimp only at h4
        omega
     ·rename_i h2
      have hs:gu p (n+1)=(aY p n,aH p n) :: gu p n:=by show(if aH p n=0 then _ else _)=_;rw [EP (by omega)]
      rw [← hs,jM p k (n+1),hall (.inr ⟨by omega,fun i hi hz=>?_⟩),hend]
      ·exact⟨fun _=> .inl (by omega),fun _=>rfl⟩
      ·rcases ES (aY p n) (aY p i+aH p i)with h3|h3
       ·rcases ES (aY p i) (aY p n+aH p n)with h4|h4
        ·exact absurd ((qR (by omega) hsz).2 ⟨_,fQ.2 ⟨i,hi,hz,rfl⟩,h4,h3⟩) h2
        ·exact .inr h4
       ·exact .inl h3
theorem dT(hp:p.length=1024):ct p=true↔Okp p:=by
 unfold ct
 have hg:=jM p (aj p) 0 true
 rw [show gu p 0= [] from rfl] at hg
 rw [ED,Gg,hg]
 constructor
 ·rintro⟨⟨h1,h2⟩,h3,h4⟩
  refine⟨hp,h1,h2,fun h=>?_,fun j hj=>?_,fun i j hi hj hzi hzj=>?_⟩
  ·rw [EP (by omega),ER] at h4
   rcases h4 with h4|h4
   ·exact h4
   ·exact absurd h4 (Nat.lt_irrefl _)
  ·rcases h3 j (EF _) (by omega)with h5|h5
   ·exact .inl h5
   ·exact .inr h5.1
  ·rcases h3 j (EF _) (by omega)with h5|h5
   ·exact absurd h5.2 hzj
   ·exact h5.2 i hi hzi
 ·intro h
  refine⟨⟨h.head,h.top⟩,fun j _ hj=>?_,?_⟩
  ·rcases h.slot j (by omega)with h5|h5
   ·exact .inl h5
   ·exact .inr ⟨h5,fun i hi hz=>h.apart i j hi (by omega) hz (by omega)⟩
  ·split
   ·rfl
   ·exact .inl (by rw [ER];exact h.last (by omega))
theorem rI{P Q:Nat→Bool}: ∀ (l:List Nat),(∀ i∈l,P i=true→Q i=true→False)→l.countP (fun i=>P i || Q i)=l.countP P+l.countP Q
 | [],_=>rfl
 | a :: l,h=>by
   have ih:=rI l fun i hi=>h i (EY _ hi)
   have ha:=h a EX
   rw [List.countP_cons,List.countP_cons,List.countP_cons,ih]
   cases hP:P a <;> cases hQ:Q a
   ·simp
   ·simp;omega
   ·simp;omega
   ·exact absurd hQ (fun h2=>ha hP h2)
theorem lC(a s:Nat): ∀ n,(List.range n).countP (fun i=>decide (a≤i∧i<a+s))=min n (a+s)-min n a
 | 0=>by simp
 | n+1=>by
   rw [List.range_succ,List.countP_append,lC a s n,List.countP_cons,List.countP_nil]
   by_cases h:a≤n∧n<a+s
   ·rw [EQ (by rw [E8 h])];omega
   ·rw [EP (by rw [E9 h];decide)];omega
def ch(p:List UInt8):Nat→Nat
 | 0=>0
 | n+1=>ch p n+aH p n
theorem Okp.count(h:Okp p): ∀ n,n≤aj p→(List.range 1024).countP (cw (gu p n))=ch p n
 | 0,_=>by
   show(List.range 1024).countP (cw [])=0
   rw [List.countP_eq_zero]
   intro a _
   simp [cw]
 | n+1,hn=>by
   have ih:=h.count n (by omega)
   by_cases hz:aH p n=0
   ·have hs:gu p (n+1)=gu p n:=by show(if aH p n=0 then _ else _)=_;rw [EQ hz]
    rw [hs,ih]
    show _=ch p n+aH p n
    omega
   ·have hs:gu p (n+1)=(aY p n,aH p n) :: gu p n:=by show(if aH p n=0 then _ else _)=_;rw [EP hz]
    have hsl:=h.slot n (by omega)
    rw [hs,show cw ((aY p n,aH p n) :: gu p n)=fun i=>decide (aY p n≤i∧i<aY p n+aH p n) || cw (gu p n) i from funext fun i=>by simp only [cw,List.any_cons],
     rI,lC,ih]
    ·show _=ch p n+aH p n
     omega
    ·intro i _ h1 h2
     have h1:=E1 h1
     obtain⟨x,hx,h3⟩:=gF.1 h2
     obtain⟨k,hk,hkz,rfl⟩:=fQ.1 hx
     have:=h.apart k n hk (by omega) hkz hz
     dsimp only at h3
     omega
theorem Okp.sum_le(h:Okp p):aP p+ch p (aj p)≤1024:=by
 have h1:=h.count _ (EE _)
 have h2:(List.range 1024).countP (cw (gu p (aj p)))≤(List.range 1024).countP (fun i=>decide (aP p≤i∧i<aP p+1024)):=by
  refine List.countP_mono_left fun i _ hi=>?_
  obtain⟨x,hx,h3⟩:=gF.1 hi
  obtain⟨k,hk,hkz,rfl⟩:=fQ.1 hx
  have h4:=h.slot k hk
  dsimp only at h3
  exact E8 (by omega)
 rw [lC] at h2
 have:=h.top
 omega
theorem eg(p:List UInt8){m:Nat}: ∀ {n:Nat},m≤n→ch p m≤ch p n
 | 0,h=>by cases Nat.le_zero.1 h;exact EE _
 | n+1,h=>by
   rcases ES m (n+1)with h1|h1
   ·have:=eg p (show m≤n by omega)
    show _≤ch p n+aH p n
    omega
   ·obtain rfl:m=n+1:=by omega
    exact EE _
end
end Go.Proofs.YtelnglhodnoclaaGreat
end
