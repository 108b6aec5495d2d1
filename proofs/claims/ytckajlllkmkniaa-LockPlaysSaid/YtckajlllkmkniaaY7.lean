import Derived.Test.YtckajlllkmkniaaY6
set_option linter.unusedVariables false
set_option linter.unusedSimpArgs false
set_option maxRecDepth 100000
set_option maxHeartbeats 0
section
namespace Go.Proofs.Ytckajlllkmkniaa
open Go Go.Sy Go.RowKit
theorem pm(n a b:Nat)(d:Array (Nat))(hn:n<4611686018427387904)(hd:d.size=n)(hab:a<b)(hb:b≤n) :
 Ctr Try.prog 63 [.slu 0 0 n,.sc (.int .i64 (a:Int)),.sc (.int .i64 (b:Int))] [bY n d] (fun c=>c=⟨.tup [],[some (bY n (Sort.reverseRange d a b))]⟩):=by
 refine Fnc.start Try.func63 rfl rfl ?_
 (repeat(first|refine ao ?_|refine ai ?_|refine ah ?_|refine aT ?_|refine am rfl rfl rfl ?_|refine aj rfl rfl rfl ?_|refine dB rfl rfl rfl rfl (by omega) (by omega) ?_))
 refine ft 1 (fun s:(Nat×Nat)×Array (Nat)=> [(0,.slu 0 0 n),(6,.sc (.int .i64 (s.1.1:Int))),(7,.sc (.int .i64 (s.1.2:Int)))]) (fun s=> [some (bY n s.2)]) (fun s=>s.1.1≤n∧s.1.2<n∧s.1.1≤s.1.2+1∧s.2.size=n∧Sort.reverseLoop s.1.1 s.1.2 s.2=Sort.reverseRange d a b) (fun s=>s.1.2+1-s.1.1) ((a,b-1),d) []
  (fun _=>rfl) ⟨by simp only;omega,by simp only;omega,by simp only;omega,hd,rfl⟩ ?_ (fun _=>rfl) (fun _=>rfl) ?_
 ·(refine⟨(ExtOk.of rfl),rfl,(by repeat(first|exact trivial|refine⟨rfl,?_⟩|refine⟨dS (by first|omega|(simp only;omega)),?_⟩)),(by repeat(first|exact trivial|refine⟨aW rfl,?_⟩))⟩)
 rintro⟨⟨i,j⟩,d1⟩ ⟨hi,hj,hij,hd1,ho⟩ ih
 simp only at hi hj hij hd1 ho ih ⊢
 (repeat(first|refine ao ?_|refine ai ?_|refine am rfl rfl rfl ?_))
 refine cu rfl rfl rfl rfl ?_ ?_
 all_goals intro h1
 ·(repeat(first|refine ao ?_|refine ah ?_|refine aT ?_|refine aN ?_|refine aD rfl ?_))
  refine bP (by kernel_rfl) (by kernel_rfl) ?_
  (repeat(first|refine aX rfl rfl rfl ?_|(refine cv (g:=fun x:Nat=> .int .u64 x) rfl rfl rfl (F.ag _ rfl) rfl (by first|omega|(simp only [zy,aB];omega)) (by first|omega|(simp only [zy,aB];omega)) ?_)|(refine er (g:=fun x:Nat=> .int .u64 x) rfl rfl rfl (fun _=>rfl) (F.sz _ rfl) rfl (by first|omega|(simp only [zy,aB];omega)) (by first|omega|(simp only [zy,aB];omega)) ?_)|refine bb (q:=i) rfl rfl rfl rfl (F.un _ rfl) (F.sz _ rfl) rfl (by omega) (by omega) (by omega) ?_|refine bb (q:=j) rfl rfl rfl rfl (F.un _ rfl) (F.sz _ rfl) rfl (by omega) (by omega) (by omega) ?_))
  (refine be ?_);(refine⟨by kernel_rfl,?_,?_⟩);(focus(repeat(first|exact trivial|refine⟨.inl rfl,?_⟩|refine⟨.inr (by(repeat(refine⟨(by first|exact bq rfl|exact bi rfl rfl (.inr (.inr (.inr (.inr (.inl ⟨rfl,rfl⟩)))))|exact bk (F.un _ rfl) (F.sz _ rfl) rfl rfl rfl (by omega) (by omega) (by omega)|exact an rfl rfl (.inl ⟨rfl,(zx _ ⟨by omega,by omega⟩).symm⟩)|exact an rfl rfl (.inr (.inl ⟨rfl,(zx _ ⟨by omega,by omega⟩).symm⟩))|exact aq (F.fo _ _ rfl rfl) rfl|exact aY rfl|exact aH rfl|exact aw (F.ag _ rfl) rfl rfl (az rfl)|exact aC (F.ag _ rfl) rfl rfl (ak _ 0 rfl rfl)|exact aE rfl rfl|exact aP (F.un _ rfl) rfl|exact aI (F.un _ rfl) rfl|exact ax rfl|exact aQ rfl rfl|exact aR rfl rfl),?_⟩));exact trivial),?_⟩|refine⟨.inl (by kernel_rfl),?_⟩)))
  (repeat(first|refine ao ?_|refine ai ?_|refine ah ?_|refine aM ?_|refine am rfl rfl rfl ?_|refine aj rfl rfl rfl ?_|refine bT rfl rfl rfl rfl (by omega) (by omega) ?_|refine dB rfl rfl rfl rfl (by omega) (by omega) ?_))
  refine ih _ _ _ ((i+1,j-1),Sort.swp d1 i j) [] ⟨by simp only;omega,by simp only;omega,by simp only;omega,by rw [aB];exact hd1,?_⟩ (by simp only;omega) ?_
  ·rw [← ho]
   conv=>rhs;rw [Sort.reverseLoop,if_pos (by omega)]
  ·(refine⟨(ExtOk.of rfl),rfl,(by repeat(first|exact trivial|refine⟨rfl,?_⟩|refine⟨dS (by first|omega|(simp only;omega)),?_⟩)),(by repeat(first|exact trivial|refine⟨aW rfl,?_⟩))⟩)
 ·(repeat(first|refine ah ?_|refine bA rfl ?_|refine ay rfl ?_))
  ((apply lm Try.func63 (congrArg Array.toList Try.results63));(focus(repeat(exact ResIs.nil)));refine⟨_,rfl,Ends.mk [] (ExtOk.of rfl) rfl rfl ?_⟩)
  rw [← ho,Sort.reverseLoop,if_neg (by omega)]
  exact(by repeat(first|exact trivial|refine⟨aW rfl,?_⟩))
abbrev jG(k:Nat):VO:=aG 3 [.sc (.int .i64 (k:Int))]
theorem fO(n a b k:Nat)(d:Array (Nat))(hn:n<4611686018427387904)(hd:d.size=n)(ha:a<n)(hb:b<n)(hk:k<1000) :
 Ctr Try.prog 76 [.slu 0 0 n,.sc (.int .i64 (a:Int)),.sc (.int .i64 (b:Int)),.ptr 1 0] [bY n d,jG k] (fun c=>c=⟨.tup [.sc (.int .i64 ((Sort.order2 bB d a b k).1:Int)),.sc (.int .i64 ((Sort.order2 bB d a b k).2.1:Int))],[some (bY n d),some (jG (Sort.order2 bB d a b k).2.2)]⟩):=by
 refine Fnc.start Try.func76 rfl rfl ?_
 (repeat(first|refine ao ?_|refine ai ?_|refine ah ?_|refine aj rfl rfl rfl ?_))
 refine bP (by kernel_rfl) (by kernel_rfl) ?_
 have hls_h1:=eW (d[b]!) (d[a]!)
 cases h1:bB (d[b]!) (d[a]!)
 all_goals rw [h1] at hls_h1
 rotate_left
 all_goals(repeat(first|refine aX rfl rfl rfl ?_|(refine cv (g:=fun x:Nat=> .int .u64 x) rfl rfl rfl (F.ag _ rfl) rfl (by first|omega|(simp only [zy,aB];omega)) (by first|omega|(simp only [zy,aB];omega)) ?_)|refine bb (q:=a) rfl rfl rfl rfl (F.un _ rfl) (F.sz _ rfl) rfl (by omega) (by omega) (by omega) ?_|refine bb (q:=b) rfl rfl rfl rfl (F.un _ rfl) (F.sz _ rfl) rfl (by omega) (by omega) (by omega) ?_|refine b5 rfl rfl rfl (by kernel_rfl) (Ctr.callV (hls_h1) [] rfl (ExtOk.of rfl) rfl trivial rfl) ?_))
 ·skip
  (refine be ?_);(refine⟨by kernel_rfl,?_,?_⟩);(focus(repeat(first|exact trivial|refine⟨.inl rfl,?_⟩|refine⟨.inr (by(repeat(refine⟨(by first|exact bq rfl|exact bi rfl rfl (.inr (.inr (.inr (.inr (.inl ⟨rfl,rfl⟩)))))|exact bk (F.un _ rfl) (F.sz _ rfl) rfl rfl rfl (by omega) (by omega) (by omega)|exact an rfl rfl (.inl ⟨rfl,(zx _ ⟨by omega,by omega⟩).symm⟩)|exact an rfl rfl (.inr (.inl ⟨rfl,(zx _ ⟨by omega,by omega⟩).symm⟩))|exact aq (F.fo _ _ rfl rfl) rfl|exact aY rfl|exact aH rfl|exact aw (F.ag _ rfl) rfl rfl (az rfl)|exact aC (F.ag _ rfl) rfl rfl (ak _ 0 rfl rfl)|exact aE rfl rfl|exact aP (F.un _ rfl) rfl|exact aI (F.un _ rfl) rfl|exact ax rfl|exact aQ rfl rfl|exact aR rfl rfl),?_⟩));exact trivial),?_⟩|refine⟨.inl (by kernel_rfl),?_⟩)))
  (repeat(first|refine ao ?_|refine ai ?_|refine ah ?_|refine aD rfl ?_|refine am rfl rfl rfl ?_|refine aj rfl rfl rfl ?_|refine aJ rfl rfl rfl ?_|refine aL rfl rfl rfl (F.ag _ rfl) rfl rfl ?_|refine pT rfl rfl rfl (F.sz _ rfl) rfl rfl rfl ?_|refine bT rfl rfl rfl rfl (by omega) (by omega) ?_))
  rw [show Sort.order2 bB d a b k=(b,a,k+1) by rw [Sort.order2,if_pos (by simpa [bB] using h1)]]
  ((apply bj Try.func76 (congrArg Array.toList Try.results76));(focus(repeat(first|exact ResIs.nil|apply ResIs.tmp rfl)));refine⟨_,rfl,Ends.mk [] (ExtOk.of rfl) rfl rfl ?_⟩)
  exact(by repeat(first|exact trivial|refine⟨aW rfl,?_⟩|refine⟨eE rfl,?_⟩))
 ·skip
  (refine be ?_);(refine⟨by kernel_rfl,?_,?_⟩);(focus(repeat(first|exact trivial|refine⟨.inl rfl,?_⟩|refine⟨.inr (by(repeat(refine⟨(by first|exact bq rfl|exact bi rfl rfl (.inr (.inr (.inr (.inr (.inl ⟨rfl,rfl⟩)))))|exact bk (F.un _ rfl) (F.sz _ rfl) rfl rfl rfl (by omega) (by omega) (by omega)|exact an rfl rfl (.inl ⟨rfl,(zx _ ⟨by omega,by omega⟩).symm⟩)|exact an rfl rfl (.inr (.inl ⟨rfl,(zx _ ⟨by omega,by omega⟩).symm⟩))|exact aq (F.fo _ _ rfl rfl) rfl|exact aY rfl|exact aH rfl|exact aw (F.ag _ rfl) rfl rfl (az rfl)|exact aC (F.ag _ rfl) rfl rfl (ak _ 0 rfl rfl)|exact aE rfl rfl|exact aP (F.un _ rfl) rfl|exact aI (F.un _ rfl) rfl|exact ax rfl|exact aQ rfl rfl|exact aR rfl rfl),?_⟩));exact trivial),?_⟩|refine⟨.inl (by kernel_rfl),?_⟩)))
  (repeat(first|refine ao ?_|refine ai ?_|refine ah ?_|refine aN ?_|refine ay rfl ?_|refine am rfl rfl rfl ?_|refine aj rfl rfl rfl ?_))
  rw [show Sort.order2 bB d a b k=(a,b,k) by rw [Sort.order2,if_neg (by simpa [bB] using h1)]]
  ((apply bj Try.func76 (congrArg Array.toList Try.results76));(focus(repeat(first|exact ResIs.nil|apply ResIs.tmp rfl)));refine⟨_,rfl,Ends.mk [] (ExtOk.of rfl) rfl rfl ?_⟩)
  exact(by repeat(first|exact trivial|refine⟨aW rfl,?_⟩|refine⟨eE rfl,?_⟩))
theorem dN{lt:Nat→Nat→Bool}{d:Array (Nat)}{a b k n:Nat}(ha:a<n)(hb:b<n):(Sort.order2 lt d a b k).1<n∧(Sort.order2 lt d a b k).2.1<n∧(Sort.order2 lt d a b k).2.2≤k+1:=by
 unfold Sort.order2
 split
 ·exact⟨hb,ha,zP _⟩
 ·exact⟨ha,hb,zY _⟩
theorem fP(n a b c k:Nat)(d:Array (Nat))(hn:n<4611686018427387904)(hd:d.size=n)(ha:a<n)(hb:b<n)(hc:c<n)(hk:k<900) :
 Ctr Try.prog 74 [.slu 0 0 n,.sc (.int .i64 (a:Int)),.sc (.int .i64 (b:Int)),.sc (.int .i64 (c:Int)),.ptr 1 0] [bY n d,jG k] (fun r=>r=⟨.sc (.int .i64 ((Sort.median bB d a b c k).1:Int)),[some (bY n d),some (jG (Sort.median bB d a b c k).2)]⟩):=by
 obtain⟨q1,q2,q3⟩:=dN (lt:=bB) (d:=d) (k:=k) ha hb
 have e1:=fO n a b k d hn hd ha hb (by omega)
 unfold Sort.median
 generalize Sort.order2 bB d a b k=r1 at q1 q2 q3 e1 ⊢
 obtain⟨a1,b1,k1⟩:=r1
 obtain⟨p1,p2,p3⟩:=dN (lt:=bB) (d:=d) (k:=k1) q2 hc
 have e2:=fO n b1 c k1 d hn hd q2 hc (by simp only at q3;omega)
 simp only at q1 q2 q3 p1 p2 p3 e1 e2 ⊢
 generalize Sort.order2 bB d b1 c k1=r2 at p1 p2 p3 e2 ⊢
 obtain⟨b2,c2,k2⟩:=r2
 obtain⟨o1,o2,o3⟩:=dN (lt:=bB) (d:=d) (k:=k2) q1 p1
 have e3:=fO n a1 b2 k2 d hn hd q1 p1 (by simp only at p3;omega)
 simp only at p1 p2 p3 o1 o2 o3 e2 e3 ⊢
 generalize Sort.order2 bB d a1 b2 k2=r3 at o1 o2 o3 e3 ⊢
 obtain⟨a3,b3,k3⟩:=r3
 simp only at o1 o2 o3 e3 ⊢
 refine Fnc.start Try.func74 rfl rfl ?_
 (repeat(first|refine ao ?_|refine ai ?_|refine ah ?_|refine am rfl rfl rfl ?_|refine aj rfl rfl rfl ?_|refine bX rfl rfl rfl rfl ?_|refine cc rfl rfl rfl (by kernel_rfl) (Ctr.dp (e1) [0,1] rfl (ExtOk.of rfl) rfl (by repeat(first|exact trivial|refine⟨aW rfl,?_⟩|refine⟨eE rfl,?_⟩)) rfl (by repeat(first|exact trivial|refine⟨bL,?_⟩|refine⟨dl (fun _=>rfl),?_⟩)) (fun _=>rfl) rfl rfl) ?_|refine cc rfl rfl rfl (by kernel_rfl) (Ctr.dp (e2) [0,1] rfl (ExtOk.of rfl) rfl (by repeat(first|exact trivial|refine⟨aW rfl,?_⟩|refine⟨eE rfl,?_⟩)) rfl (by repeat(first|exact trivial|refine⟨bL,?_⟩|refine⟨dl (fun _=>rfl),?_⟩)) (fun _=>rfl) rfl rfl) ?_|refine cc rfl rfl rfl (by kernel_rfl) (Ctr.dp (e3) [0,1] rfl (ExtOk.of rfl) rfl (by repeat(first|exact trivial|refine⟨aW rfl,?_⟩|refine⟨eE rfl,?_⟩)) rfl (by repeat(first|exact trivial|refine⟨bL,?_⟩|refine⟨dl (fun _=>rfl),?_⟩)) (fun _=>rfl) rfl rfl) ?_))
 ((apply bj Try.func74 (congrArg Array.toList Try.results74));(focus(repeat(first|exact ResIs.nil|apply ResIs.tmp rfl)));refine⟨_,rfl,Ends.mk [] (ExtOk.of rfl) rfl rfl ?_⟩)
 exact(by repeat(first|exact trivial|refine⟨aW rfl,?_⟩|refine⟨eE rfl,?_⟩))
theorem gM{lt:Nat→Nat→Bool}{d:Array (Nat)}{a b c k n:Nat}(ha:a<n)(hb:b<n)(hc:c<n):(Sort.median lt d a b c k).1<n∧(Sort.median lt d a b c k).2≤k+3:=by
 obtain⟨q1,q2,q3⟩:=dN (lt:=lt) (d:=d) (k:=k) ha hb
 obtain⟨p1,p2,p3⟩:=dN (lt:=lt) (d:=d) (k:=(Sort.order2 lt d a b k).2.2) q2 hc
 obtain⟨o1,o2,o3⟩:=dN (lt:=lt) (d:=d) (k:=(Sort.order2 lt d (Sort.order2 lt d a b k).2.1 c (Sort.order2 lt d a b k).2.2).2.2) q1 p1
 exact⟨o2,by simp only [Sort.median];omega⟩
theorem fQ(n a k:Nat)(d:Array (Nat))(hn:n<4611686018427387904)(hd:d.size=n)(ha:a+1<n)(h1:1≤a)(hk:k<900) :
 Ctr Try.prog 73 [.slu 0 0 n,.sc (.int .i64 (a:Int)),.ptr 1 0] [bY n d,jG k] (fun r=>r=⟨.sc (.int .i64 ((Sort.medianAdjacent bB d a k).1:Int)),[some (bY n d),some (jG (Sort.medianAdjacent bB d a k).2)]⟩):=by
 obtain⟨a,rfl⟩: ∃ a',a=a'+1:=⟨a-1,by omega⟩
 have e:=fP n a (a+1) (a+1+1) k d hn hd (by omega) (by omega) (by omega) hk
 have e0:((a:Nat):Int)=((a+1:Nat):Int)-1:=by omega
 rw [e0] at e
 refine Fnc.start Try.func73 rfl rfl ?_
 (repeat(first|refine ao ?_|refine ai ?_|refine ah ?_|refine am rfl rfl rfl ?_|refine aj rfl rfl rfl ?_|refine bT rfl rfl rfl rfl (by omega) (by omega) ?_|refine dB rfl rfl rfl rfl (by omega) (by omega) ?_|refine cc rfl rfl rfl (by kernel_rfl) (Ctr.dp (e) [0,1] rfl (ExtOk.of rfl) rfl (by repeat(first|exact trivial|refine⟨aW rfl,?_⟩|refine⟨eE rfl,?_⟩)) rfl (by repeat(first|exact trivial|refine⟨bL,?_⟩|refine⟨dl (fun _=>rfl),?_⟩)) (fun _=>rfl) rfl rfl) ?_))
 ((apply bj Try.func73 (congrArg Array.toList Try.results73));(focus(repeat(first|exact ResIs.nil|apply ResIs.tmp rfl)));refine⟨_,rfl,Ends.mk [] (ExtOk.of rfl) rfl rfl ?_⟩)
 exact(by repeat(first|exact trivial|refine⟨aW rfl,?_⟩|refine⟨eE rfl,?_⟩))
theorem po(n a b:Nat)(d:Array (Nat))(hn:n<4611686018427387904)(hd:d.size=n)(hab:a<b)(hb:b≤n) :
 Ctr Try.prog 62 [.slu 0 0 n,.sc (.int .i64 (a:Int)),.sc (.int .i64 (b:Int))] [bY n d] (fun r=>r=⟨.tup [.sc (.int .i64 ((Sort.choosePivot bB d a b).1:Int)),.sc (.int .i64 (x7 (Sort.choosePivot bB d a b).2))],[some (bY n d)]⟩):=by
 have e1:((a:Int)+((b:Int)-(a:Int)) / 4*1)=((a+(b-a) / 4*1:Nat):Int):=by omega
 have e2:((a:Int)+((b:Int)-(a:Int)) / 4*2)=((a+(b-a) / 4*2:Nat):Int):=by omega
 have e3:((a:Int)+((b:Int)-(a:Int)) / 4*3)=((a+(b-a) / 4*3:Nat):Int):=by omega
 refine Fnc.start Try.func62 rfl rfl ?_
 (repeat(first|refine ao ?_|refine ai ?_|refine ah ?_|refine am rfl rfl rfl ?_|refine aj rfl rfl rfl ?_|refine jC rfl rfl (F.zl _ rfl) ?_|refine bT rfl rfl rfl rfl (by omega) (by omega) ?_|refine dB rfl rfl rfl rfl (by omega) (by omega) ?_|refine uY rfl rfl rfl rfl (by omega) (by omega) ?_|refine sk rfl rfl rfl rfl (by omega) (by omega) (by omega) ?_))
 rw [e1,e2,e3]
 have fin: ∀ (T:Tr SV) (H:aV) (nx:Nat) (p k:Nat),True:=fun _ _ _ _ _=>trivial
 refine dQ rfl rfl rfl rfl ?_ ?_
 all_goals intro h1
 ·(repeat(first|refine ao ?_|refine ai ?_|refine ah ?_|refine aD rfl ?_|refine am rfl rfl rfl ?_))
  refine dQ rfl rfl rfl rfl ?_ ?_
  all_goals intro h2
  ·have m1:=fQ n (a+(b-a) / 4*1) 0 d hn hd (by omega) (by omega) (by omega)
   have l1:(Sort.medianAdjacent bB d (a+(b-a) / 4*1) 0).1<n∧(Sort.medianAdjacent bB d (a+(b-a) / 4*1) 0).2≤0+3:=gM (by omega) (by omega) (by omega)
   have ec:Sort.choosePivot bB d a b=Sort.choosePivot bB d a b:=rfl
   conv at ec=>rhs;unfold Sort.choosePivot
   simp only [show b-a≥8 by omega,show b-a≥50 by omega,if_true] at ec
   generalize Sort.medianAdjacent bB d (a+(b-a) / 4*1) 0=r1 at m1 l1 ec
   have m2:=fQ n (a+(b-a) / 4*2) r1.2 d hn hd (by omega) (by omega) (by omega)
   have l2:(Sort.medianAdjacent bB d (a+(b-a) / 4*2) r1.2).1<n∧(Sort.medianAdjacent bB d (a+(b-a) / 4*2) r1.2).2≤r1.2+3:=gM (by omega) (by omega) (by omega)
   generalize Sort.medianAdjacent bB d (a+(b-a) / 4*2) r1.2=r2 at m2 l2 ec
   have m3:=fQ n (a+(b-a) / 4*3) r2.2 d hn hd (by omega) (by omega) (by omega)
   have l3:(Sort.medianAdjacent bB d (a+(b-a) / 4*3) r2.2).1<n∧(Sort.medianAdjacent bB d (a+(b-a) / 4*3) r2.2).2≤r2.2+3:=gM (by omega) (by omega) (by omega)
   generalize Sort.medianAdjacent bB d (a+(b-a) / 4*3) r2.2=r3 at m3 l3 ec
   have m4:=fP n r1.1 r2.1 r3.1 r3.2 d hn hd l1.1 l2.1 l3.1 (by omega)
   generalize Sort.median bB d r1.1 r2.1 r3.1 r3.2=r4 at m4 ec
   rw [ec]
   obtain⟨p,k⟩:=r4
   (repeat(first|refine ao ?_|refine ai ?_|refine ah ?_|refine aT ?_|refine aD rfl ?_|refine am rfl rfl rfl ?_|refine aj rfl rfl rfl ?_|refine aL rfl rfl rfl (F.ag _ rfl) rfl rfl ?_|refine cc rfl rfl rfl (by kernel_rfl) (Ctr.dp (m1) [0,1] rfl (ExtOk.of rfl) rfl (by repeat(first|exact trivial|refine⟨aW rfl,?_⟩|refine⟨eE rfl,?_⟩)) rfl (by repeat(first|exact trivial|refine⟨bL,?_⟩|refine⟨dl (fun _=>rfl),?_⟩)) (fun _=>rfl) rfl rfl) ?_|refine cc rfl rfl rfl (by kernel_rfl) (Ctr.dp (m2) [0,1] rfl (ExtOk.of rfl) rfl (by repeat(first|exact trivial|refine⟨aW rfl,?_⟩|refine⟨eE rfl,?_⟩)) rfl (by repeat(first|exact trivial|refine⟨bL,?_⟩|refine⟨dl (fun _=>rfl),?_⟩)) (fun _=>rfl) rfl rfl) ?_|refine cc rfl rfl rfl (by kernel_rfl) (Ctr.dp (m3) [0,1] rfl (ExtOk.of rfl) rfl (by repeat(first|exact trivial|refine⟨aW rfl,?_⟩|refine⟨eE rfl,?_⟩)) rfl (by repeat(first|exact trivial|refine⟨bL,?_⟩|refine⟨dl (fun _=>rfl),?_⟩)) (fun _=>rfl) rfl rfl) ?_|refine cc rfl rfl rfl (by kernel_rfl) (Ctr.dp (m4) [0,1] rfl (ExtOk.of rfl) rfl (by repeat(first|exact trivial|refine⟨aW rfl,?_⟩|refine⟨eE rfl,?_⟩)) rfl (by repeat(first|exact trivial|refine⟨bL,?_⟩|refine⟨dl (fun _=>rfl),?_⟩)) (fun _=>rfl) rfl rfl) ?_))
   refine cF rfl rfl rfl rfl ?_ ?_
   all_goals intro h3
   ·(repeat(first|refine ao ?_|refine ai ?_|refine ah ?_|refine aD rfl ?_|refine am rfl rfl rfl ?_|refine aj rfl rfl rfl ?_))
    rw [if_pos (show(p,k).2=0 by simp only;omega)]
    ((apply bj Try.func62 (congrArg Array.toList Try.results62));(focus(repeat(first|exact ResIs.nil|apply ResIs.tmp rfl)));refine⟨_,rfl,Ends.mk [] (ExtOk.of rfl) rfl rfl ?_⟩)
    exact(by repeat(first|exact trivial|refine⟨aW rfl,?_⟩))
   ·(repeat(first|refine ao ?_|refine ai ?_|refine ah ?_|refine ay rfl ?_|refine aj rfl rfl rfl ?_))
    refine cF rfl rfl rfl rfl ?_ ?_
    all_goals intro h4
    ·(repeat(first|refine ao ?_|refine ai ?_|refine ah ?_|refine aD rfl ?_|refine am rfl rfl rfl ?_|refine aj rfl rfl rfl ?_))
     rw [if_neg (show ¬ (p,k).2=0 by simp only;omega),if_pos (show(p,k).2=12 by simp only;omega)]
     ((apply bj Try.func62 (congrArg Array.toList Try.results62));(focus(repeat(first|exact ResIs.nil|apply ResIs.tmp rfl)));refine⟨_,rfl,Ends.mk [] (ExtOk.of rfl) rfl rfl ?_⟩)
     exact(by repeat(first|exact trivial|refine⟨aW rfl,?_⟩))
    ·(repeat(first|refine ao ?_|refine ai ?_|refine ah ?_|refine ay rfl ?_|refine am rfl rfl rfl ?_|refine aj rfl rfl rfl ?_))
     rw [if_neg (show ¬ (p,k).2=0 by simp only;omega),if_neg (show ¬ (p,k).2=12 by simp only;omega)]
     ((apply bj Try.func62 (congrArg Array.toList Try.results62));(focus(repeat(first|exact ResIs.nil|apply ResIs.tmp rfl)));refine⟨_,rfl,Ends.mk [] (ExtOk.of rfl) rfl rfl ?_⟩)
     exact(by repeat(first|exact trivial|refine⟨aW rfl,?_⟩))
  ·have ec:Sort.choosePivot bB d a b=Sort.choosePivot bB d a b:=rfl
   conv at ec=>rhs;unfold Sort.choosePivot
   simp only [show b-a≥8 by omega,show ¬ (b-a≥50) by omega,if_true,if_false] at ec
   have m4:=fP n (a+(b-a) / 4*1) (a+(b-a) / 4*2) (a+(b-a) / 4*3) 0 d hn hd (by omega) (by omega) (by omega) (by omega)
   generalize Sort.median bB d (a+(b-a) / 4*1) (a+(b-a) / 4*2) (a+(b-a) / 4*3) 0=r4 at m4 ec
   rw [ec]
   obtain⟨p,k⟩:=r4
   (repeat(first|refine ao ?_|refine ai ?_|refine ah ?_|refine aT ?_|refine aN ?_|refine ay rfl ?_|refine am rfl rfl rfl ?_|refine aj rfl rfl rfl ?_|refine aL rfl rfl rfl (F.ag _ rfl) rfl rfl ?_|refine cc rfl rfl rfl (by kernel_rfl) (Ctr.dp (m4) [0,1] rfl (ExtOk.of rfl) rfl (by repeat(first|exact trivial|refine⟨aW rfl,?_⟩|refine⟨eE rfl,?_⟩)) rfl (by repeat(first|exact trivial|refine⟨bL,?_⟩|refine⟨dl (fun _=>rfl),?_⟩)) (fun _=>rfl) rfl rfl) ?_))
   refine cF rfl rfl rfl rfl ?_ ?_
   all_goals intro h3
   ·(repeat(first|refine ao ?_|refine ai ?_|refine ah ?_|refine aD rfl ?_|refine am rfl rfl rfl ?_|refine aj rfl rfl rfl ?_))
    rw [if_pos (show(p,k).2=0 by simp only;omega)]
    ((apply bj Try.func62 (congrArg Array.toList Try.results62));(focus(repeat(first|exact ResIs.nil|apply ResIs.tmp rfl)));refine⟨_,rfl,Ends.mk [] (ExtOk.of rfl) rfl rfl ?_⟩)
    exact(by repeat(first|exact trivial|refine⟨aW rfl,?_⟩))
   ·(repeat(first|refine ao ?_|refine ai ?_|refine ah ?_|refine ay rfl ?_|refine aj rfl rfl rfl ?_))
    refine cF rfl rfl rfl rfl ?_ ?_
    all_goals intro h4
    ·(repeat(first|refine ao ?_|refine ai ?_|refine ah ?_|refine aD rfl ?_|refine am rfl rfl rfl ?_|refine aj rfl rfl rfl ?_))
     rw [if_neg (show ¬ (p,k).2=0 by simp only;omega),if_pos (show(p,k).2=12 by simp only;omega)]
     ((apply bj Try.func62 (congrArg Array.toList Try.results62));(focus(repeat(first|exact ResIs.nil|apply ResIs.tmp rfl)));refine⟨_,rfl,Ends.mk [] (ExtOk.of rfl) rfl rfl ?_⟩)
     exact(by repeat(first|exact trivial|refine⟨aW rfl,?_⟩))
    ·(repeat(first|refine ao ?_|refine ai ?_|refine ah ?_|refine ay rfl ?_|refine am rfl rfl rfl ?_|refine aj rfl rfl rfl ?_))
     rw [if_neg (show ¬ (p,k).2=0 by simp only;omega),if_neg (show ¬ (p,k).2=12 by simp only;omega)]
     ((apply bj Try.func62 (congrArg Array.toList Try.results62));(focus(repeat(first|exact ResIs.nil|apply ResIs.tmp rfl)));refine⟨_,rfl,Ends.mk [] (ExtOk.of rfl) rfl rfl ?_⟩)
     exact(by repeat(first|exact trivial|refine⟨aW rfl,?_⟩))
 ·have ec:Sort.choosePivot bB d a b=(a+(b-a) / 4*2,.increasing):=by
   unfold Sort.choosePivot
   simp only [show ¬ (b-a≥8) by omega,if_false,if_true]
  rw [ec]
  (repeat(first|refine ao ?_|refine ai ?_|refine ah ?_|refine aT ?_|refine aN ?_|refine aD rfl ?_|refine ay rfl ?_|refine am rfl rfl rfl ?_|refine aj rfl rfl rfl ?_|refine aL rfl rfl rfl (F.ag _ rfl) rfl rfl ?_|refine u9 rfl rfl rfl rfl ?_))
  ((apply bj Try.func62 (congrArg Array.toList Try.results62));(focus(repeat(first|exact ResIs.nil|apply ResIs.tmp rfl)));refine⟨_,rfl,Ends.mk [] (ExtOk.of rfl) rfl rfl ?_⟩)
  exact(by repeat(first|exact trivial|refine⟨aW rfl,?_⟩))
theorem gL{p:Nat→Bool}{d:Array (Nat)}{i j:Nat}(h:i≤j)(hp:p d[i]! =true):Sort.scanUp p d j i=Sort.scanUp p d j (i+1):=by
 conv=>lhs;rw [Sort.scanUp,if_pos (by simp [h,hp])]
theorem dk{p:Nat→Bool}{d:Array (Nat)}{i j:Nat}(h:j<i∨p d[i]! =false):Sort.scanUp p d j i=i:=by
 rw [Sort.scanUp,if_neg]
 simp only [zO,decide_eq_true_eq]
 rintro⟨h1,h2⟩
 rcases h with h|h
 ·omega
 ·rw [h] at h2;cases h2
theorem fN{p:Nat→Bool}{d:Array (Nat)}{i j:Nat}(h:i≤j+1)(hp:p d[j+1]! =true):Sort.scanDown p d i (j+1)=Sort.scanDown p d i j:=by
 conv=>lhs;rw [Sort.scanDown,if_pos (by simp [h,hp])]
theorem cM{p:Nat→Bool}{d:Array (Nat)}{i j:Nat}(h:j<i∨p d[j]! =false):Sort.scanDown p d i j=j:=by
 cases j with
 | zero=>rfl
 | succ j=>
   rw [Sort.scanDown,if_neg]
   simp only [zO,decide_eq_true_eq]
   rintro⟨h1,h2⟩
   rcases h with h|h
   ·omega
   ·rw [h] at h2;cases h2
theorem lA{lt:Nat→Nat→Bool}{d:Array (Nat)}{a i j i2 j2:Nat}(hi:Sort.scanUp (fun x=> !lt d[a]! x) d j i=i2)(hj:Sort.scanDown (fun x=>lt d[a]! x) d i2 j=j2)(h1:i≤i2)(h2:j2≤j) :
 Sort.partEqLoop lt a i j d=if j2<i2 then(i2,d) else Sort.partEqLoop lt a (i2+1) (j2-1) (Sort.swp d i2 j2):=by
 conv=>lhs;unfold Sort.partEqLoop
 simp only [hi,hj]
 split
 ·rfl
 ·rw [dif_pos (by omega)]
theorem lB(n a b pv:Nat)(d:Array (Nat))(hn:n<4611686018427387904)(hd:d.size=n)(hap:a≤pv)(hpb:pv<b)(hb:b≤n) :
 Ctr Try.prog 66 [.slu 0 0 n,.sc (.int .i64 (a:Int)),.sc (.int .i64 (b:Int)),.sc (.int .i64 (pv:Int))] [bY n d] (fun c=>c=⟨.sc (.int .i64 ((Sort.partitionEqual bB d a b pv).1:Int)),[some (bY n (Sort.partitionEqual bB d a b pv).2)]⟩):=by
 refine Fnc.start Try.func66 rfl rfl ?_
 (repeat(first|refine ao ?_|refine ai ?_|refine ah ?_|refine aj rfl rfl rfl ?_))
 refine bP (by kernel_rfl) (by kernel_rfl) ?_
 (repeat(first|refine aX rfl rfl rfl ?_|(refine cv (g:=fun x:Nat=> .int .u64 x) rfl rfl rfl (F.ag _ rfl) rfl (by first|omega|(simp only [zy,aB];omega)) (by first|omega|(simp only [zy,aB];omega)) ?_)|(refine er (g:=fun x:Nat=> .int .u64 x) rfl rfl rfl (fun _=>rfl) (F.sz _ rfl) rfl (by first|omega|(simp only [zy,aB];omega)) (by first|omega|(simp only [zy,aB];omega)) ?_)|refine bb (q:=a) rfl rfl rfl rfl (F.un _ rfl) (F.sz _ rfl) rfl (by omega) (by omega) (by omega) ?_|refine bb (q:=pv) rfl rfl rfl rfl (F.un _ rfl) (F.sz _ rfl) rfl (by omega) (by omega) (by omega) ?_))
 (refine be ?_);(refine⟨by kernel_rfl,?_,?_⟩);(focus(repeat(first|exact trivial|refine⟨.inl rfl,?_⟩|refine⟨.inr (by(repeat(refine⟨(by first|exact bq rfl|exact bi rfl rfl (.inr (.inr (.inr (.inr (.inl ⟨rfl,rfl⟩)))))|exact bk (F.un _ rfl) (F.sz _ rfl) rfl rfl rfl (by omega) (by omega) (by omega)|exact an rfl rfl (.inl ⟨rfl,(zx _ ⟨by omega,by omega⟩).symm⟩)|exact an rfl rfl (.inr (.inl ⟨rfl,(zx _ ⟨by omega,by omega⟩).symm⟩))|exact aq (F.fo _ _ rfl rfl) rfl|exact aY rfl|exact aH rfl|exact aw (F.ag _ rfl) rfl rfl (az rfl)|exact aC (F.ag _ rfl) rfl rfl (ak _ 0 rfl rfl)|exact aE rfl rfl|exact aP (F.un _ rfl) rfl|exact aI (F.un _ rfl) rfl|exact ax rfl|exact aQ rfl rfl|exact aR rfl rfl),?_⟩));exact trivial),?_⟩|refine⟨.inl (by kernel_rfl),?_⟩)))
 (repeat(first|refine ao ?_|refine ai ?_|refine ah ?_|refine aT ?_|refine am rfl rfl rfl ?_|refine aj rfl rfl rfl ?_|refine bT rfl rfl rfl rfl (by omega) (by omega) ?_|refine dB rfl rfl rfl rfl (by omega) (by omega) ?_))
 refine ft 1 (fun s:(Nat×Nat)×Array (Nat)=> [(0,.slu 0 0 n),(1,.sc (.int .i64 (a:Int))),(9,.sc (.int .i64 (s.1.1:Int))),(10,.sc (.int .i64 (s.1.2:Int)))]) (fun s=> [some (bY n s.2)]) (fun s=>a<s.1.1∧s.1.1≤n∧s.1.2<n∧s.2.size=n∧Sort.partEqLoop bB a s.1.1 s.1.2 s.2=Sort.partitionEqual bB d a b pv) (fun s=>s.1.2+1-s.1.1) ((a+1,b-1),Sort.swp d a pv) []
  (fun _=>rfl) ⟨by simp only;omega,by simp only;omega,by simp only;omega,by rw [aB];exact hd,rfl⟩ ?_ (fun _=>rfl) (fun _=>rfl) ?_
 ·(refine⟨(ExtOk.of rfl),rfl,(by repeat(first|exact trivial|refine⟨rfl,?_⟩|refine⟨dS (by first|omega|(simp only;omega)),?_⟩)),(by repeat(first|exact trivial|refine⟨aW rfl,?_⟩))⟩)
 rintro⟨⟨i,j⟩,d1⟩ ⟨hai,hi,hj,hd1,ho⟩ ih
 simp only at hai hi hj hd1 ho ih ⊢
 (repeat(first|refine ao ?_|refine aT ?_))
 refine fq 1 (fun x:Nat=> [(0,.slu 0 0 n),(1,.sc (.int .i64 (a:Int))),(9,.sc (.int .i64 (x:Int))),(10,.sc (.int .i64 (j:Int)))]) (fun _=> [some (bY n d1)]) (fun x=>i≤x∧x≤n∧Sort.scanUp (fun y=> !bB d1[a]! y) d1 j x=Sort.scanUp (fun y=> !bB d1[a]! y) d1 j i) (fun x=>n-x) i []
  1 (fun x:Nat=> [(0,.slu 0 0 n),(1,.sc (.int .i64 (a:Int))),(9,.sc (.int .i64 (x:Int))),(10,.sc (.int .i64 (j:Int)))]) (fun _=> [some (bY n d1)]) (fun x=>i≤x∧x≤n∧Sort.scanUp (fun y=> !bB d1[a]! y) d1 j i=x)
  (fun _=>rfl) (fun _=>rfl) ⟨zP _,hi,rfl⟩ ?_ (fun _=>rfl) (fun _=>rfl) ?_ ?_
 ·(refine⟨(ExtOk.of rfl),rfl,(by repeat(first|exact trivial|refine⟨rfl,?_⟩)),(by repeat(first|exact trivial|refine⟨aW rfl,?_⟩))⟩)
 ·rintro i1 ⟨hii,hi1,hu⟩ ihu out
  (repeat(refine ao ?_))
  refine bP (by kernel_rfl) (by kernel_rfl) ?_
  (repeat(refine aX rfl rfl rfl ?_))
  refine jL rfl rfl rfl rfl ?_ ?_
  all_goals intro h1
  ·have hls_h2:=eW (d1[a]!) (d1[i1]!)
   cases h2:bB (d1[a]!) (d1[i1]!)
   all_goals rw [h2] at hls_h2
   rotate_left
   all_goals(repeat(first|refine aX rfl rfl rfl ?_|refine dH rfl rfl rfl rfl ?_|refine eu rfl rfl rfl ?_|(refine cv (g:=fun x:Nat=> .int .u64 x) rfl rfl rfl (F.ag _ rfl) rfl (by first|omega|(simp only [zy,aB];omega)) (by first|omega|(simp only [zy,aB];omega)) ?_)|refine bb (q:=a) rfl rfl rfl rfl (F.un _ rfl) (F.sz _ rfl) rfl (by omega) (by omega) (by omega) ?_|refine bb (q:=i1) rfl rfl rfl rfl (F.un _ rfl) (F.sz _ rfl) rfl (by omega) (by omega) (by omega) ?_|refine b5 rfl rfl rfl (by kernel_rfl) (Ctr.callV (hls_h2) [] rfl (ExtOk.of rfl) rfl trivial rfl) ?_))
   ·skip
    (refine be ?_);(refine⟨by kernel_rfl,?_,?_⟩);(focus(repeat(first|exact trivial|refine⟨.inl rfl,?_⟩|refine⟨.inr (by(repeat(refine⟨(by first|exact bq rfl|exact bi rfl rfl (.inr (.inr (.inr (.inr (.inl ⟨rfl,rfl⟩)))))|exact bk (F.un _ rfl) (F.sz _ rfl) rfl rfl rfl (by omega) (by omega) (by omega)|exact an rfl rfl (.inl ⟨rfl,(zx _ ⟨by omega,by omega⟩).symm⟩)|exact an rfl rfl (.inr (.inl ⟨rfl,(zx _ ⟨by omega,by omega⟩).symm⟩))|exact aq (F.fo _ _ rfl rfl) rfl|exact aY rfl|exact aH rfl|exact aw (F.ag _ rfl) rfl rfl (az rfl)|exact aC (F.ag _ rfl) rfl rfl (ak _ 0 rfl rfl)|exact aE rfl rfl|exact aP (F.un _ rfl) rfl|exact aI (F.un _ rfl) rfl|exact ax rfl|exact aQ rfl rfl|exact aR rfl rfl),?_⟩));exact trivial),?_⟩|refine⟨.inl (by kernel_rfl),?_⟩)))
    (repeat(first|(refine out _ _ _ i1 [] ⟨hii,hi1,by rw [← hu];exact dk (.inr (by simpa [bB] using h2))⟩ ?_;(refine⟨(ExtOk.of rfl),rfl,(by repeat(first|exact trivial|refine⟨rfl,?_⟩)),(by repeat(first|exact trivial|refine⟨aW rfl,?_⟩))⟩))|refine bA rfl ?_|refine ay rfl ?_))
   ·skip
    (refine be ?_);(refine⟨by kernel_rfl,?_,?_⟩);(focus(repeat(first|exact trivial|refine⟨.inl rfl,?_⟩|refine⟨.inr (by(repeat(refine⟨(by first|exact bq rfl|exact bi rfl rfl (.inr (.inr (.inr (.inr (.inl ⟨rfl,rfl⟩)))))|exact bk (F.un _ rfl) (F.sz _ rfl) rfl rfl rfl (by omega) (by omega) (by omega)|exact an rfl rfl (.inl ⟨rfl,(zx _ ⟨by omega,by omega⟩).symm⟩)|exact an rfl rfl (.inr (.inl ⟨rfl,(zx _ ⟨by omega,by omega⟩).symm⟩))|exact aq (F.fo _ _ rfl rfl) rfl|exact aY rfl|exact aH rfl|exact aw (F.ag _ rfl) rfl rfl (az rfl)|exact aC (F.ag _ rfl) rfl rfl (ak _ 0 rfl rfl)|exact aE rfl rfl|exact aP (F.un _ rfl) rfl|exact aI (F.un _ rfl) rfl|exact ax rfl|exact aQ rfl rfl|exact aR rfl rfl),?_⟩));exact trivial),?_⟩|refine⟨.inl (by kernel_rfl),?_⟩)))
    (repeat(first|refine ai ?_|refine ah ?_|refine aT ?_|refine aM ?_|refine aN ?_|refine aD rfl ?_|refine am rfl rfl rfl ?_|refine aj rfl rfl rfl ?_|refine bT rfl rfl rfl rfl (by omega) (by omega) ?_))
    refine ihu _ _ _ (i1+1) [] ⟨by omega,by omega,?_⟩ (by omega) ?_
    ·rw [← hu]
     exact(gL (by omega) (by simpa [bB] using h2)).symm
    ·(refine⟨(ExtOk.of rfl),rfl,(by repeat(first|exact trivial|refine⟨rfl,?_⟩)),(by repeat(first|exact trivial|refine⟨aW rfl,?_⟩))⟩)
  ·(repeat(first|refine aX rfl rfl rfl ?_|refine cW rfl rfl rfl rfl ?_|refine e8 rfl rfl ?_))
   (refine be ?_);(refine⟨by kernel_rfl,?_,?_⟩);(focus(repeat(first|exact trivial|refine⟨.inl rfl,?_⟩)))
   (repeat(first|(refine out _ _ _ i1 [] ⟨hii,hi1,by rw [← hu];exact dk (.inl (by omega))⟩ ?_;(refine⟨(ExtOk.of rfl),rfl,(by repeat(first|exact trivial|refine⟨rfl,?_⟩)),(by repeat(first|exact trivial|refine⟨aW rfl,?_⟩))⟩))|refine bA rfl ?_|refine ay rfl ?_))
 rintro i2 ⟨hii,hi2,hu⟩
 (repeat(first|refine ao ?_|refine aT ?_))
 refine fq 1 (fun x:Nat=> [(0,.slu 0 0 n),(1,.sc (.int .i64 (a:Int))),(9,.sc (.int .i64 (i2:Int))),(10,.sc (.int .i64 (x:Int)))]) (fun _=> [some (bY n d1)]) (fun x=>x≤j∧Sort.scanDown (fun y=>bB d1[a]! y) d1 i2 x=Sort.scanDown (fun y=>bB d1[a]! y) d1 i2 j) (fun x=>x) j []
  1 (fun x:Nat=> [(0,.slu 0 0 n),(1,.sc (.int .i64 (a:Int))),(9,.sc (.int .i64 (i2:Int))),(10,.sc (.int .i64 (x:Int)))]) (fun _=> [some (bY n d1)]) (fun x=>x≤j∧Sort.scanDown (fun y=>bB d1[a]! y) d1 i2 j=x)
  (fun _=>rfl) (fun _=>rfl) ⟨zP _,rfl⟩ ?_ (fun _=>rfl) (fun _=>rfl) ?_ ?_
 ·(refine⟨(ExtOk.of rfl),rfl,(by repeat(first|exact trivial|refine⟨rfl,?_⟩)),(by repeat(first|exact trivial|refine⟨aW rfl,?_⟩))⟩)
 ·rintro j1 ⟨hjj,hv⟩ ihv out
  (repeat(refine ao ?_))
  refine bP (by kernel_rfl) (by kernel_rfl) ?_
  (repeat(refine aX rfl rfl rfl ?_))
  refine jL rfl rfl rfl rfl ?_ ?_
  all_goals intro h1
  ·have hls_h2:=eW (d1[a]!) (d1[j1]!)
   cases h2:bB (d1[a]!) (d1[j1]!)
   all_goals rw [h2] at hls_h2
   rotate_left
   all_goals(repeat(first|refine aX rfl rfl rfl ?_|refine dH rfl rfl rfl rfl ?_|(refine cv (g:=fun x:Nat=> .int .u64 x) rfl rfl rfl (F.ag _ rfl) rfl (by first|omega|(simp only [zy,aB];omega)) (by first|omega|(simp only [zy,aB];omega)) ?_)|refine bb (q:=a) rfl rfl rfl rfl (F.un _ rfl) (F.sz _ rfl) rfl (by omega) (by omega) (by omega) ?_|refine bb (q:=j1) rfl rfl rfl rfl (F.un _ rfl) (F.sz _ rfl) rfl (by omega) (by omega) (by omega) ?_|refine b5 rfl rfl rfl (by kernel_rfl) (Ctr.callV (hls_h2) [] rfl (ExtOk.of rfl) rfl trivial rfl) ?_))
   ·skip
    (refine be ?_);(refine⟨by kernel_rfl,?_,?_⟩);(focus(repeat(first|exact trivial|refine⟨.inl rfl,?_⟩|refine⟨.inr (by(repeat(refine⟨(by first|exact bq rfl|exact bi rfl rfl (.inr (.inr (.inr (.inr (.inl ⟨rfl,rfl⟩)))))|exact bk (F.un _ rfl) (F.sz _ rfl) rfl rfl rfl (by omega) (by omega) (by omega)|exact an rfl rfl (.inl ⟨rfl,(zx _ ⟨by omega,by omega⟩).symm⟩)|exact an rfl rfl (.inr (.inl ⟨rfl,(zx _ ⟨by omega,by omega⟩).symm⟩))|exact aq (F.fo _ _ rfl rfl) rfl|exact aY rfl|exact aH rfl|exact aw (F.ag _ rfl) rfl rfl (az rfl)|exact aC (F.ag _ rfl) rfl rfl (ak _ 0 rfl rfl)|exact aE rfl rfl|exact aP (F.un _ rfl) rfl|exact aI (F.un _ rfl) rfl|exact ax rfl|exact aQ rfl rfl|exact aR rfl rfl),?_⟩));exact trivial),?_⟩|refine⟨.inl (by kernel_rfl),?_⟩)))
    (repeat(first|refine ai ?_|refine ah ?_|refine aT ?_|refine aM ?_|refine aN ?_|refine aD rfl ?_|refine am rfl rfl rfl ?_|refine aj rfl rfl rfl ?_|refine dB rfl rfl rfl rfl (by omega) (by omega) ?_))
    obtain⟨j1,rfl⟩: ∃ j',j1=j'+1:=⟨j1-1,by omega⟩
    refine ihv _ _ _ j1 [] ⟨by omega,?_⟩ (by omega) ?_
    ·rw [← hv]
     exact(fN (by omega) (by simpa [bB] using h2)).symm
    ·(refine⟨(ExtOk.of rfl),rfl,(by repeat(first|exact trivial|refine⟨rfl,?_⟩|refine⟨dS (by first|omega|(simp only;omega)),?_⟩)),(by repeat(first|exact trivial|refine⟨aW rfl,?_⟩))⟩)
   ·skip
    (refine be ?_);(refine⟨by kernel_rfl,?_,?_⟩);(focus(repeat(first|exact trivial|refine⟨.inl rfl,?_⟩|refine⟨.inr (by(repeat(refine⟨(by first|exact bq rfl|exact bi rfl rfl (.inr (.inr (.inr (.inr (.inl ⟨rfl,rfl⟩)))))|exact bk (F.un _ rfl) (F.sz _ rfl) rfl rfl rfl (by omega) (by omega) (by omega)|exact an rfl rfl (.inl ⟨rfl,(zx _ ⟨by omega,by omega⟩).symm⟩)|exact an rfl rfl (.inr (.inl ⟨rfl,(zx _ ⟨by omega,by omega⟩).symm⟩))|exact aq (F.fo _ _ rfl rfl) rfl|exact aY rfl|exact aH rfl|exact aw (F.ag _ rfl) rfl rfl (az rfl)|exact aC (F.ag _ rfl) rfl rfl (ak _ 0 rfl rfl)|exact aE rfl rfl|exact aP (F.un _ rfl) rfl|exact aI (F.un _ rfl) rfl|exact ax rfl|exact aQ rfl rfl|exact aR rfl rfl),?_⟩));exact trivial),?_⟩|refine⟨.inl (by kernel_rfl),?_⟩)))
    (repeat(first|(refine out _ _ _ j1 [] ⟨hjj,by rw [← hv];exact cM (.inr (by simpa [bB] using h2))⟩ ?_;(refine⟨(ExtOk.of rfl),rfl,(by repeat(first|exact trivial|refine⟨rfl,?_⟩)),(by repeat(first|exact trivial|refine⟨aW rfl,?_⟩))⟩))|refine bA rfl ?_|refine ay rfl ?_))
  ·(repeat(first|refine aX rfl rfl rfl ?_|refine cW rfl rfl rfl rfl ?_|refine e8 rfl rfl ?_))
   (refine be ?_);(refine⟨by kernel_rfl,?_,?_⟩);(focus(repeat(first|exact trivial|refine⟨.inl rfl,?_⟩)))
   (repeat(first|(refine out _ _ _ j1 [] ⟨hjj,by rw [← hv];exact cM (.inl (by omega))⟩ ?_;(refine⟨(ExtOk.of rfl),rfl,(by repeat(first|exact trivial|refine⟨rfl,?_⟩)),(by repeat(first|exact trivial|refine⟨aW rfl,?_⟩))⟩))|refine bA rfl ?_|refine ay rfl ?_))
 rintro j2 ⟨hjj,hv⟩
 have e:=lA hu hv hii hjj
 (repeat(first|refine ao ?_|refine ai ?_|refine am rfl rfl rfl ?_))
 refine gv rfl rfl rfl rfl ?_ ?_
 all_goals intro h3
 ·rw [ho,if_pos (by omega)] at e
  (repeat(first|refine ao ?_|refine ai ?_|refine ah ?_|refine bA rfl ?_|refine aD rfl ?_|refine am rfl rfl rfl ?_|refine aj rfl rfl rfl ?_))
  rw [e]
  ((apply bj Try.func66 (congrArg Array.toList Try.results66));(focus(repeat(first|exact ResIs.nil|apply ResIs.tmp rfl)));refine⟨_,rfl,Ends.mk [] (ExtOk.of rfl) rfl rfl ?_⟩)
  exact(by repeat(first|exact trivial|refine⟨aW rfl,?_⟩))
 ·rw [ho,if_neg (by omega)] at e
  (repeat(first|refine ao ?_|refine ah ?_|refine aN ?_|refine ay rfl ?_))
  refine bP (by kernel_rfl) (by kernel_rfl) ?_
  (repeat(first|refine aX rfl rfl rfl ?_|(refine cv (g:=fun x:Nat=> .int .u64 x) rfl rfl rfl (F.ag _ rfl) rfl (by first|omega|(simp only [zy,aB];omega)) (by first|omega|(simp only [zy,aB];omega)) ?_)|(refine er (g:=fun x:Nat=> .int .u64 x) rfl rfl rfl (fun _=>rfl) (F.sz _ rfl) rfl (by first|omega|(simp only [zy,aB];omega)) (by first|omega|(simp only [zy,aB];omega)) ?_)|refine bb (q:=i2) rfl rfl rfl rfl (F.un _ rfl) (F.sz _ rfl) rfl (by omega) (by omega) (by omega) ?_|refine bb (q:=j2) rfl rfl rfl rfl (F.un _ rfl) (F.sz _ rfl) rfl (by omega) (by omega) (by omega) ?_))
  (refine be ?_);(refine⟨by kernel_rfl,?_,?_⟩);(focus(repeat(first|exact trivial|refine⟨.inl rfl,?_⟩|refine⟨.inr (by(repeat(refine⟨(by first|exact bq rfl|exact bi rfl rfl (.inr (.inr (.inr (.inr (.inl ⟨rfl,rfl⟩)))))|exact bk (F.un _ rfl) (F.sz _ rfl) rfl rfl rfl (by omega) (by omega) (by omega)|exact an rfl rfl (.inl ⟨rfl,(zx _ ⟨by omega,by omega⟩).symm⟩)|exact an rfl rfl (.inr (.inl ⟨rfl,(zx _ ⟨by omega,by omega⟩).symm⟩))|exact aq (F.fo _ _ rfl rfl) rfl|exact aY rfl|exact aH rfl|exact aw (F.ag _ rfl) rfl rfl (az rfl)|exact aC (F.ag _ rfl) rfl rfl (ak _ 0 rfl rfl)|exact aE rfl rfl|exact aP (F.un _ rfl) rfl|exact aI (F.un _ rfl) rfl|exact ax rfl|exact aQ rfl rfl|exact aR rfl rfl),?_⟩));exact trivial),?_⟩|refine⟨.inl (by kernel_rfl),?_⟩)))
  (repeat(first|refine ao ?_|refine ai ?_|refine ah ?_|refine aM ?_|refine am rfl rfl rfl ?_|refine aj rfl rfl rfl ?_|refine bT rfl rfl rfl rfl (by omega) (by omega) ?_|refine dB rfl rfl rfl rfl (by omega) (by omega) ?_))
  refine ih _ _ _ ((i2+1,j2-1),Sort.swp d1 i2 j2) [] ⟨by simp only;omega,by simp only;omega,by simp only;omega,by rw [aB];exact hd1,e.symm⟩ (by simp only;omega) ?_
  (refine⟨(ExtOk.of rfl),rfl,(by repeat(first|exact trivial|refine⟨rfl,?_⟩|refine⟨dS (by first|omega|(simp only;omega)),?_⟩)),(by repeat(first|exact trivial|refine⟨aW rfl,?_⟩))⟩)
theorem nL{lt:Nat→Nat→Bool}{d:Array (Nat)}{a i j i2 j2:Nat}(hi:Sort.scanUp (fun x=>lt x d[a]!) d j i=i2)(hj:Sort.scanDown (fun x=> !lt x d[a]!) d i2 j=j2)(h1:i≤i2)(h2:j2≤j) :
 Sort.partLoop lt a i j d=if j2<i2 then(j2,d) else Sort.partLoop lt a (i2+1) (j2-1) (Sort.swp d i2 j2):=by
 conv=>lhs;unfold Sort.partLoop
 simp only [hi,hj]
 split
 ·rfl
 ·rw [dif_pos (by omega)]
theorem pt{lt:Nat→Nat→Bool}{d:Array (Nat)}{a b pv i2 j2:Nat}(hi:Sort.scanUp (fun x=>lt x (Sort.swp d a pv)[a]!) (Sort.swp d a pv) (b-1) (a+1)=i2)(hj:Sort.scanDown (fun x=> !lt x (Sort.swp d a pv)[a]!) (Sort.swp d a pv) i2 (b-1)=j2) :
 Sort.partition lt d a b pv=if j2<i2 then(j2,true,Sort.swp (Sort.swp d a pv) j2 a) else((Sort.partLoop lt a (i2+1) (j2-1) (Sort.swp (Sort.swp d a pv) i2 j2)).1,false,Sort.swp (Sort.partLoop lt a (i2+1) (j2-1) (Sort.swp (Sort.swp d a pv) i2 j2)).2 (Sort.partLoop lt a (i2+1) (j2-1) (Sort.swp (Sort.swp d a pv) i2 j2)).1 a):=by
 simp only [Sort.partition,hi,hj]
theorem nM(n a b pv:Nat)(d:Array (Nat))(hn:n<4611686018427387904)(hd:d.size=n)(hap:a≤pv)(hpb:pv<b)(hb:b≤n) :
 Ctr Try.prog 67 [.slu 0 0 n,.sc (.int .i64 (a:Int)),.sc (.int .i64 (b:Int)),.sc (.int .i64 (pv:Int))] [bY n d] (fun c=>c=⟨.tup [.sc (.int .i64 ((Sort.partition bB d a b pv).1:Int)),.sc (.bool (Sort.partition bB d a b pv).2.1)],[some (bY n (Sort.partition bB d a b pv).2.2)]⟩):=by
 refine Fnc.start Try.func67 rfl rfl ?_
 (repeat(first|refine ao ?_|refine ai ?_|refine ah ?_|refine aj rfl rfl rfl ?_))
 refine bP (by kernel_rfl) (by kernel_rfl) ?_
 (repeat(first|refine aX rfl rfl rfl ?_|(refine cv (g:=fun x:Nat=> .int .u64 x) rfl rfl rfl (F.ag _ rfl) rfl (by first|omega|(simp only [zy,aB];omega)) (by first|omega|(simp only [zy,aB];omega)) ?_)|(refine er (g:=fun x:Nat=> .int .u64 x) rfl rfl rfl (fun _=>rfl) (F.sz _ rfl) rfl (by first|omega|(simp only [zy,aB];omega)) (by first|omega|(simp only [zy,aB];omega)) ?_)|refine bb (q:=a) rfl rfl rfl rfl (F.un _ rfl) (F.sz _ rfl) rfl (by omega) (by omega) (by omega) ?_|refine bb (q:=pv) rfl rfl rfl rfl (F.un _ rfl) (F.sz _ rfl) rfl (by omega) (by omega) (by omega) ?_))
 (refine be ?_);(refine⟨by kernel_rfl,?_,?_⟩);(focus(repeat(first|exact trivial|refine⟨.inl rfl,?_⟩|refine⟨.inr (by(repeat(refine⟨(by first|exact bq rfl|exact bi rfl rfl (.inr (.inr (.inr (.inr (.inl ⟨rfl,rfl⟩)))))|exact bk (F.un _ rfl) (F.sz _ rfl) rfl rfl rfl (by omega) (by omega) (by omega)|exact an rfl rfl (.inl ⟨rfl,(zx _ ⟨by omega,by omega⟩).symm⟩)|exact an rfl rfl (.inr (.inl ⟨rfl,(zx _ ⟨by omega,by omega⟩).symm⟩))|exact aq (F.fo _ _ rfl rfl) rfl|exact aY rfl|exact aH rfl|exact aw (F.ag _ rfl) rfl rfl (az rfl)|exact aC (F.ag _ rfl) rfl rfl (ak _ 0 rfl rfl)|exact aE rfl rfl|exact aP (F.un _ rfl) rfl|exact aI (F.un _ rfl) rfl|exact ax rfl|exact aQ rfl rfl|exact aR rfl rfl),?_⟩));exact trivial),?_⟩|refine⟨.inl (by kernel_rfl),?_⟩)))
 have e0:=pt (lt:=bB) (d:=d) (a:=a) (b:=b) (pv:=pv) rfl rfl
 have hd1:(Sort.swp d a pv).size=n:=by rw [aB];exact hd
 generalize hsw:Sort.swp d a pv=d1 at e0 hd1
 have hsw':(d.setIfInBounds a d[pv]!).setIfInBounds pv d[a]! =d1:=hsw
 rw [hsw']
 (repeat(first|refine ao ?_|refine ai ?_|refine ah ?_|refine aT ?_|refine am rfl rfl rfl ?_|refine aj rfl rfl rfl ?_|refine bT rfl rfl rfl rfl (by omega) (by omega) ?_|refine dB rfl rfl rfl rfl (by omega) (by omega) ?_))
 refine fq 1 (fun x:Nat=> [(0,.slu 0 0 n),(1,.sc (.int .i64 (a:Int))),(10,.sc (.int .i64 (x:Int))),(11,.sc (.int .i64 ((b-1:Nat):Int)))]) (fun _=> [some (bY n d1)]) (fun x=>a+1≤x∧x≤n∧Sort.scanUp (fun y=>bB y d1[a]!) d1 (b-1) x=Sort.scanUp (fun y=>bB y d1[a]!) d1 (b-1) (a+1)) (fun x=>n-x) (a+1) []
  1 (fun x:Nat=> [(0,.slu 0 0 n),(1,.sc (.int .i64 (a:Int))),(10,.sc (.int .i64 (x:Int))),(11,.sc (.int .i64 ((b-1:Nat):Int)))]) (fun _=> [some (bY n d1)]) (fun x=>a+1≤x∧x≤n∧Sort.scanUp (fun y=>bB y d1[a]!) d1 (b-1) (a+1)=x)
  (fun _=>rfl) (fun _=>rfl) ⟨zP _,by omega,rfl⟩ ?_ (fun _=>rfl) (fun _=>rfl) ?_ ?_
 ·(refine⟨(ExtOk.of rfl),rfl,(by repeat(first|exact trivial|refine⟨rfl,?_⟩|refine⟨dS (by first|omega|(simp only;omega)),?_⟩)),(by repeat(first|exact trivial|refine⟨aW rfl,?_⟩))⟩)
 ·rintro i1 ⟨hii,hi1,hu⟩ ihu out
  (repeat(refine ao ?_))
  refine bP (by kernel_rfl) (by kernel_rfl) ?_
  (repeat(refine aX rfl rfl rfl ?_))
  refine jL rfl rfl rfl rfl ?_ ?_
  all_goals intro h1
  ·have hls_h2:=eW (d1[i1]!) (d1[a]!)
   cases h2:bB (d1[i1]!) (d1[a]!)
   all_goals rw [h2] at hls_h2
   rotate_left
   all_goals(repeat(first|refine aX rfl rfl rfl ?_|refine dH rfl rfl rfl rfl ?_|(refine cv (g:=fun x:Nat=> .int .u64 x) rfl rfl rfl (F.ag _ rfl) rfl (by first|omega|(simp only [zy,aB];omega)) (by first|omega|(simp only [zy,aB];omega)) ?_)|refine bb (q:=a) rfl rfl rfl rfl (F.un _ rfl) (F.sz _ rfl) rfl (by omega) (by omega) (by omega) ?_|refine bb (q:=i1) rfl rfl rfl rfl (F.un _ rfl) (F.sz _ rfl) rfl (by omega) (by omega) (by omega) ?_|refine b5 rfl rfl rfl (by kernel_rfl) (Ctr.callV (hls_h2) [] rfl (ExtOk.of rfl) rfl trivial rfl) ?_))
   ·skip
    (refine be ?_);(refine⟨by kernel_rfl,?_,?_⟩);(focus(repeat(first|exact trivial|refine⟨.inl rfl,?_⟩|refine⟨.inr (by(repeat(refine⟨(by first|exact bq rfl|exact bi rfl rfl (.inr (.inr (.inr (.inr (.inl ⟨rfl,rfl⟩)))))|exact bk (F.un _ rfl) (F.sz _ rfl) rfl rfl rfl (by omega) (by omega) (by omega)|exact an rfl rfl (.inl ⟨rfl,(zx _ ⟨by omega,by omega⟩).symm⟩)|exact an rfl rfl (.inr (.inl ⟨rfl,(zx _ ⟨by omega,by omega⟩).symm⟩))|exact aq (F.fo _ _ rfl rfl) rfl|exact aY rfl|exact aH rfl|exact aw (F.ag _ rfl) rfl rfl (az rfl)|exact aC (F.ag _ rfl) rfl rfl (ak _ 0 rfl rfl)|exact aE rfl rfl|exact aP (F.un _ rfl) rfl|exact aI (F.un _ rfl) rfl|exact ax rfl|exact aQ rfl rfl|exact aR rfl rfl),?_⟩));exact trivial),?_⟩|refine⟨.inl (by kernel_rfl),?_⟩)))
    (repeat(first|refine ai ?_|refine ah ?_|refine aT ?_|refine aM ?_|refine aN ?_|refine aD rfl ?_|refine am rfl rfl rfl ?_|refine aj rfl rfl rfl ?_|refine bT rfl rfl rfl rfl (by omega) (by omega) ?_))
    refine ihu _ _ _ (i1+1) [] ⟨by omega,by omega,?_⟩ (by omega) ?_
    ·rw [← hu]
     exact(gL (by omega) (by simpa [bB] using h2)).symm
    ·(refine⟨(ExtOk.of rfl),rfl,(by repeat(first|exact trivial|refine⟨rfl,?_⟩)),(by repeat(first|exact trivial|refine⟨aW rfl,?_⟩))⟩)
   ·skip
    (refine be ?_);(refine⟨by kernel_rfl,?_,?_⟩);(focus(repeat(first|exact trivial|refine⟨.inl rfl,?_⟩|refine⟨.inr (by(repeat(refine⟨(by first|exact bq rfl|exact bi rfl rfl (.inr (.inr (.inr (.inr (.inl ⟨rfl,rfl⟩)))))|exact bk (F.un _ rfl) (F.sz _ rfl) rfl rfl rfl (by omega) (by omega) (by omega)|exact an rfl rfl (.inl ⟨rfl,(zx _ ⟨by omega,by omega⟩).symm⟩)|exact an rfl rfl (.inr (.inl ⟨rfl,(zx _ ⟨by omega,by omega⟩).symm⟩))|exact aq (F.fo _ _ rfl rfl) rfl|exact aY rfl|exact aH rfl|exact aw (F.ag _ rfl) rfl rfl (az rfl)|exact aC (F.ag _ rfl) rfl rfl (ak _ 0 rfl rfl)|exact aE rfl rfl|exact aP (F.un _ rfl) rfl|exact aI (F.un _ rfl) rfl|exact ax rfl|exact aQ rfl rfl|exact aR rfl rfl),?_⟩));exact trivial),?_⟩|refine⟨.inl (by kernel_rfl),?_⟩)))
    (repeat(first|(refine out _ _ _ i1 [] ⟨hii,hi1,by rw [← hu];exact dk (.inr (by simpa [bB] using h2))⟩ ?_;(refine⟨(ExtOk.of rfl),rfl,(by repeat(first|exact trivial|refine⟨rfl,?_⟩)),(by repeat(first|exact trivial|refine⟨aW rfl,?_⟩))⟩))|refine bA rfl ?_|refine ay rfl ?_))
  ·(repeat(first|refine aX rfl rfl rfl ?_|refine cW rfl rfl rfl rfl ?_|refine e8 rfl rfl ?_))
   (refine be ?_);(refine⟨by kernel_rfl,?_,?_⟩);(focus(repeat(first|exact trivial|refine⟨.inl rfl,?_⟩)))
   (repeat(first|(refine out _ _ _ i1 [] ⟨hii,hi1,by rw [← hu];exact dk (.inl (by omega))⟩ ?_;(refine⟨(ExtOk.of rfl),rfl,(by repeat(first|exact trivial|refine⟨rfl,?_⟩)),(by repeat(first|exact trivial|refine⟨aW rfl,?_⟩))⟩))|refine bA rfl ?_|refine ay rfl ?_))
 rintro i2 ⟨hii,hi2,hu⟩
 rw [hu] at e0
 (repeat(first|refine ao ?_|refine aT ?_))
 refine fq 1 (fun x:Nat=> [(0,.slu 0 0 n),(1,.sc (.int .i64 (a:Int))),(10,.sc (.int .i64 (i2:Int))),(11,.sc (.int .i64 (x:Int)))]) (fun _=> [some (bY n d1)]) (fun x=>x≤b-1∧Sort.scanDown (fun y=> !bB y d1[a]!) d1 i2 x=Sort.scanDown (fun y=> !bB y d1[a]!) d1 i2 (b-1)) (fun x=>x) (b-1) []
  1 (fun x:Nat=> [(0,.slu 0 0 n),(1,.sc (.int .i64 (a:Int))),(10,.sc (.int .i64 (i2:Int))),(11,.sc (.int .i64 (x:Int)))]) (fun _=> [some (bY n d1)]) (fun x=>x≤b-1∧Sort.scanDown (fun y=> !bB y d1[a]!) d1 i2 (b-1)=x)
  (fun _=>rfl) (fun _=>rfl) ⟨zP _,rfl⟩ ?_ (fun _=>rfl) (fun _=>rfl) ?_ ?_
 ·(refine⟨(ExtOk.of rfl),rfl,(by repeat(first|exact trivial|refine⟨rfl,?_⟩)),(by repeat(first|exact trivial|refine⟨aW rfl,?_⟩))⟩)
 ·rintro j1 ⟨hjj,hv⟩ ihv out
  (repeat(refine ao ?_))
  refine bP (by kernel_rfl) (by kernel_rfl) ?_
  (repeat(refine aX rfl rfl rfl ?_))
  refine jL rfl rfl rfl rfl ?_ ?_
  all_goals intro h1
  ·have hls_h2:=eW (d1[j1]!) (d1[a]!)
   cases h2:bB (d1[j1]!) (d1[a]!)
   all_goals rw [h2] at hls_h2
   rotate_left
   all_goals(repeat(first|refine aX rfl rfl rfl ?_|refine dH rfl rfl rfl rfl ?_|refine eu rfl rfl rfl ?_|(refine cv (g:=fun x:Nat=> .int .u64 x) rfl rfl rfl (F.ag _ rfl) rfl (by first|omega|(simp only [zy,aB];omega)) (by first|omega|(simp only [zy,aB];omega)) ?_)|refine bb (q:=a) rfl rfl rfl rfl (F.un _ rfl) (F.sz _ rfl) rfl (by omega) (by omega) (by omega) ?_|refine bb (q:=j1) rfl rfl rfl rfl (F.un _ rfl) (F.sz _ rfl) rfl (by omega) (by omega) (by omega) ?_|refine b5 rfl rfl rfl (by kernel_rfl) (Ctr.callV (hls_h2) [] rfl (ExtOk.of rfl) rfl trivial rfl) ?_))
   ·skip
    (refine be ?_);(refine⟨by kernel_rfl,?_,?_⟩);(focus(repeat(first|exact trivial|refine⟨.inl rfl,?_⟩|refine⟨.inr (by(repeat(refine⟨(by first|exact bq rfl|exact bi rfl rfl (.inr (.inr (.inr (.inr (.inl ⟨rfl,rfl⟩)))))|exact bk (F.un _ rfl) (F.sz _ rfl) rfl rfl rfl (by omega) (by omega) (by omega)|exact an rfl rfl (.inl ⟨rfl,(zx _ ⟨by omega,by omega⟩).symm⟩)|exact an rfl rfl (.inr (.inl ⟨rfl,(zx _ ⟨by omega,by omega⟩).symm⟩))|exact aq (F.fo _ _ rfl rfl) rfl|exact aY rfl|exact aH rfl|exact aw (F.ag _ rfl) rfl rfl (az rfl)|exact aC (F.ag _ rfl) rfl rfl (ak _ 0 rfl rfl)|exact aE rfl rfl|exact aP (F.un _ rfl) rfl|exact aI (F.un _ rfl) rfl|exact ax rfl|exact aQ rfl rfl|exact aR rfl rfl),?_⟩));exact trivial),?_⟩|refine⟨.inl (by kernel_rfl),?_⟩)))
    (repeat(first|(refine out _ _ _ j1 [] ⟨hjj,by rw [← hv];exact cM (.inr (by simpa [bB] using h2))⟩ ?_;(refine⟨(ExtOk.of rfl),rfl,(by repeat(first|exact trivial|refine⟨rfl,?_⟩)),(by repeat(first|exact trivial|refine⟨aW rfl,?_⟩))⟩))|refine bA rfl ?_|refine ay rfl ?_))
   ·skip
    (refine be ?_);(refine⟨by kernel_rfl,?_,?_⟩);(focus(repeat(first|exact trivial|refine⟨.inl rfl,?_⟩|refine⟨.inr (by(repeat(refine⟨(by first|exact bq rfl|exact bi rfl rfl (.inr (.inr (.inr (.inr (.inl ⟨rfl,rfl⟩)))))|exact bk (F.un _ rfl) (F.sz _ rfl) rfl rfl rfl (by omega) (by omega) (by omega)|exact an rfl rfl (.inl ⟨rfl,(zx _ ⟨by omega,by omega⟩).symm⟩)|exact an rfl rfl (.inr (.inl ⟨rfl,(zx _ ⟨by omega,by omega⟩).symm⟩))|exact aq (F.fo _ _ rfl rfl) rfl|exact aY rfl|exact aH rfl|exact aw (F.ag _ rfl) rfl rfl (az rfl)|exact aC (F.ag _ rfl) rfl rfl (ak _ 0 rfl rfl)|exact aE rfl rfl|exact aP (F.un _ rfl) rfl|exact aI (F.un _ rfl) rfl|exact ax rfl|exact aQ rfl rfl|exact aR rfl rfl),?_⟩));exact trivial),?_⟩|refine⟨.inl (by kernel_rfl),?_⟩)))
    (repeat(first|refine ai ?_|refine ah ?_|refine aT ?_|refine aM ?_|refine aN ?_|refine aD rfl ?_|refine am rfl rfl rfl ?_|refine aj rfl rfl rfl ?_|refine dB rfl rfl rfl rfl (by omega) (by omega) ?_))
    obtain⟨j1,rfl⟩: ∃ j',j1=j'+1:=⟨j1-1,by omega⟩
    refine ihv _ _ _ j1 [] ⟨by omega,?_⟩ (by omega) ?_
    ·rw [← hv]
     exact(fN (by omega) (by simpa [bB] using h2)).symm
    ·(refine⟨(ExtOk.of rfl),rfl,(by repeat(first|exact trivial|refine⟨rfl,?_⟩|refine⟨dS (by first|omega|(simp only;omega)),?_⟩)),(by repeat(first|exact trivial|refine⟨aW rfl,?_⟩))⟩)
  ·(repeat(first|refine aX rfl rfl rfl ?_|refine cW rfl rfl rfl rfl ?_|refine e8 rfl rfl ?_))
   (refine be ?_);(refine⟨by kernel_rfl,?_,?_⟩);(focus(repeat(first|exact trivial|refine⟨.inl rfl,?_⟩)))
   (repeat(first|(refine out _ _ _ j1 [] ⟨hjj,by rw [← hv];exact cM (.inl (by omega))⟩ ?_;(refine⟨(ExtOk.of rfl),rfl,(by repeat(first|exact trivial|refine⟨rfl,?_⟩)),(by repeat(first|exact trivial|refine⟨aW rfl,?_⟩))⟩))|refine bA rfl ?_|refine ay rfl ?_))
 rintro j2 ⟨hjj,hv⟩
 rw [hv] at e0
 (repeat(first|refine ao ?_|refine ai ?_|refine am rfl rfl rfl ?_))
 refine gv rfl rfl rfl rfl ?_ ?_
 all_goals intro h3
 ·rw [if_pos (by omega)] at e0
  rw [e0]
  (repeat(first|refine ao ?_|refine ah ?_|refine aD rfl ?_))
  refine bP (by kernel_rfl) (by kernel_rfl) ?_
  (repeat(first|refine aX rfl rfl rfl ?_|(refine cv (g:=fun x:Nat=> .int .u64 x) rfl rfl rfl (F.ag _ rfl) rfl (by first|omega|(simp only [zy,aB];omega)) (by first|omega|(simp only [zy,aB];omega)) ?_)|(refine er (g:=fun x:Nat=> .int .u64 x) rfl rfl rfl (fun _=>rfl) (F.sz _ rfl) rfl (by first|omega|(simp only [zy,aB];omega)) (by first|omega|(simp only [zy,aB];omega)) ?_)|refine bb (q:=a) rfl rfl rfl rfl (F.un _ rfl) (F.sz _ rfl) rfl (by omega) (by omega) (by omega) ?_|refine bb (q:=j2) rfl rfl rfl rfl (F.un _ rfl) (F.sz _ rfl) rfl (by omega) (by omega) (by omega) ?_))
  (refine be ?_);(refine⟨by kernel_rfl,?_,?_⟩);(focus(repeat(first|exact trivial|refine⟨.inl rfl,?_⟩|refine⟨.inr (by(repeat(refine⟨(by first|exact bq rfl|exact bi rfl rfl (.inr (.inr (.inr (.inr (.inl ⟨rfl,rfl⟩)))))|exact bk (F.un _ rfl) (F.sz _ rfl) rfl rfl rfl (by omega) (by omega) (by omega)|exact an rfl rfl (.inl ⟨rfl,(zx _ ⟨by omega,by omega⟩).symm⟩)|exact an rfl rfl (.inr (.inl ⟨rfl,(zx _ ⟨by omega,by omega⟩).symm⟩))|exact aq (F.fo _ _ rfl rfl) rfl|exact aY rfl|exact aH rfl|exact aw (F.ag _ rfl) rfl rfl (az rfl)|exact aC (F.ag _ rfl) rfl rfl (ak _ 0 rfl rfl)|exact aE rfl rfl|exact aP (F.un _ rfl) rfl|exact aI (F.un _ rfl) rfl|exact ax rfl|exact aQ rfl rfl|exact aR rfl rfl),?_⟩));exact trivial),?_⟩|refine⟨.inl (by kernel_rfl),?_⟩)))
  (repeat(first|refine ao ?_|refine ai ?_|refine ah ?_|refine am rfl rfl rfl ?_|refine aj rfl rfl rfl ?_))
  ((apply bj Try.func67 (congrArg Array.toList Try.results67));(focus(repeat(first|exact ResIs.nil|apply ResIs.tmp rfl)));refine⟨_,rfl,Ends.mk [] (ExtOk.of rfl) rfl rfl ?_⟩)
  exact(by repeat(first|exact trivial|refine⟨aW rfl,?_⟩))
 rw [if_neg (by omega)] at e0
 rw [e0]
 (repeat(first|refine ao ?_|refine ah ?_|refine aN ?_|refine ay rfl ?_))
 refine bP (by kernel_rfl) (by kernel_rfl) ?_
 (repeat(first|refine aX rfl rfl rfl ?_|(refine cv (g:=fun x:Nat=> .int .u64 x) rfl rfl rfl (F.ag _ rfl) rfl (by first|omega|(simp only [zy,aB];omega)) (by first|omega|(simp only [zy,aB];omega)) ?_)|(refine er (g:=fun x:Nat=> .int .u64 x) rfl rfl rfl (fun _=>rfl) (F.sz _ rfl) rfl (by first|omega|(simp only [zy,aB];omega)) (by first|omega|(simp only [zy,aB];omega)) ?_)|refine bb (q:=i2) rfl rfl rfl rfl (F.un _ rfl) (F.sz _ rfl) rfl (by omega) (by omega) (by omega) ?_|refine bb (q:=j2) rfl rfl rfl rfl (F.un _ rfl) (F.sz _ rfl) rfl (by omega) (by omega) (by omega) ?_))
 (refine be ?_);(refine⟨by kernel_rfl,?_,?_⟩);(focus(repeat(first|exact trivial|refine⟨.inl rfl,?_⟩|refine⟨.inr (by(repeat(refine⟨(by first|exact bq rfl|exact bi rfl rfl (.inr (.inr (.inr (.inr (.inl ⟨rfl,rfl⟩)))))|exact bk (F.un _ rfl) (F.sz _ rfl) rfl rfl rfl (by omega) (by omega) (by omega)|exact an rfl rfl (.inl ⟨rfl,(zx _ ⟨by omega,by omega⟩).symm⟩)|exact an rfl rfl (.inr (.inl ⟨rfl,(zx _ ⟨by omega,by omega⟩).symm⟩))|exact aq (F.fo _ _ rfl rfl) rfl|exact aY rfl|exact aH rfl|exact aw (F.ag _ rfl) rfl rfl (az rfl)|exact aC (F.ag _ rfl) rfl rfl (ak _ 0 rfl rfl)|exact aE rfl rfl|exact aP (F.un _ rfl) rfl|exact aI (F.un _ rfl) rfl|exact ax rfl|exact aQ rfl rfl|exact aR rfl rfl),?_⟩));exact trivial),?_⟩|refine⟨.inl (by kernel_rfl),?_⟩)))
 (repeat(first|refine ao ?_|refine ai ?_|refine ah ?_|refine aT ?_|refine am rfl rfl rfl ?_|refine aj rfl rfl rfl ?_|refine bT rfl rfl rfl rfl (by omega) (by omega) ?_|refine dB rfl rfl rfl rfl (by omega) (by omega) ?_))
 refine fq 1 (fun s:(Nat×Nat)×Array (Nat)=> [(0,.slu 0 0 n),(1,.sc (.int .i64 (a:Int))),(10,.sc (.int .i64 (s.1.1:Int))),(11,.sc (.int .i64 (s.1.2:Int)))]) (fun s=> [some (bY n s.2)]) (fun s=>a<s.1.1∧s.1.1≤n∧s.1.2<n∧s.2.size=n∧Sort.partLoop bB a s.1.1 s.1.2 s.2=Sort.partLoop bB a (i2+1) (j2-1) (Sort.swp d1 i2 j2)) (fun s=>s.1.2+1-s.1.1) ((i2+1,j2-1),Sort.swp d1 i2 j2) []
  1 (fun s:Nat×Array (Nat)=> [(0,.slu 0 0 n),(1,.sc (.int .i64 (a:Int))),(11,.sc (.int .i64 (s.1:Int)))]) (fun s=> [some (bY n s.2)]) (fun s=>s.1<n∧s.2.size=n∧Sort.partLoop bB a (i2+1) (j2-1) (Sort.swp d1 i2 j2)=s)
  (fun _=>rfl) (fun _=>rfl) ⟨by simp only;omega,by simp only;omega,by simp only;omega,by rw [aB];exact hd1,rfl⟩ ?_ (fun _=>rfl) (fun _=>rfl) ?_ ?_
 ·(refine⟨(ExtOk.of rfl),rfl,(by repeat(first|exact trivial|refine⟨rfl,?_⟩|refine⟨dS (by first|omega|(simp only;omega)),?_⟩)),(by repeat(first|exact trivial|refine⟨aW rfl,?_⟩))⟩)
 ·rintro⟨⟨i,j⟩,d3⟩ ⟨hai,hi,hj,hd3,ho⟩ ih outer
  simp only at hai hi hj hd3 ho ih ⊢
  (repeat(first|refine ao ?_|refine aT ?_))
  refine fq 1 (fun x:Nat=> [(0,.slu 0 0 n),(1,.sc (.int .i64 (a:Int))),(10,.sc (.int .i64 (x:Int))),(11,.sc (.int .i64 (j:Int)))]) (fun _=> [some (bY n d3)]) (fun x=>i≤x∧x≤n∧Sort.scanUp (fun y=>bB y d3[a]!) d3 j x=Sort.scanUp (fun y=>bB y d3[a]!) d3 j i) (fun x=>n-x) i []
   1 (fun x:Nat=> [(0,.slu 0 0 n),(1,.sc (.int .i64 (a:Int))),(10,.sc (.int .i64 (x:Int))),(11,.sc (.int .i64 (j:Int)))]) (fun _=> [some (bY n d3)]) (fun x=>i≤x∧x≤n∧Sort.scanUp (fun y=>bB y d3[a]!) d3 j i=x)
   (fun _=>rfl) (fun _=>rfl) ⟨zP _,hi,rfl⟩ ?_ (fun _=>rfl) (fun _=>rfl) ?_ ?_
  ·(refine⟨(ExtOk.of rfl),rfl,(by repeat(first|exact trivial|refine⟨rfl,?_⟩)),(by repeat(first|exact trivial|refine⟨aW rfl,?_⟩))⟩)
  ·rintro i1 ⟨hii,hi1,hu⟩ ihu out
   (repeat(refine ao ?_))
   refine bP (by kernel_rfl) (by kernel_rfl) ?_
   (repeat(refine aX rfl rfl rfl ?_))
   refine jL rfl rfl rfl rfl ?_ ?_
   all_goals intro h1
   ·have hls_h2:=eW (d3[i1]!) (d3[a]!)
    cases h2:bB (d3[i1]!) (d3[a]!)
    all_goals rw [h2] at hls_h2
    rotate_left
    all_goals(repeat(first|refine aX rfl rfl rfl ?_|refine dH rfl rfl rfl rfl ?_|(refine cv (g:=fun x:Nat=> .int .u64 x) rfl rfl rfl (F.ag _ rfl) rfl (by first|omega|(simp only [zy,aB];omega)) (by first|omega|(simp only [zy,aB];omega)) ?_)|refine bb (q:=a) rfl rfl rfl rfl (F.un _ rfl) (F.sz _ rfl) rfl (by omega) (by omega) (by omega) ?_|refine bb (q:=i1) rfl rfl rfl rfl (F.un _ rfl) (F.sz _ rfl) rfl (by omega) (by omega) (by omega) ?_|refine b5 rfl rfl rfl (by kernel_rfl) (Ctr.callV (hls_h2) [] rfl (ExtOk.of rfl) rfl trivial rfl) ?_))
    ·skip
     (refine be ?_);(refine⟨by kernel_rfl,?_,?_⟩);(focus(repeat(first|exact trivial|refine⟨.inl rfl,?_⟩|refine⟨.inr (by(repeat(refine⟨(by first|exact bq rfl|exact bi rfl rfl (.inr (.inr (.inr (.inr (.inl ⟨rfl,rfl⟩)))))|exact bk (F.un _ rfl) (F.sz _ rfl) rfl rfl rfl (by omega) (by omega) (by omega)|exact an rfl rfl (.inl ⟨rfl,(zx _ ⟨by omega,by omega⟩).symm⟩)|exact an rfl rfl (.inr (.inl ⟨rfl,(zx _ ⟨by omega,by omega⟩).symm⟩))|exact aq (F.fo _ _ rfl rfl) rfl|exact aY rfl|exact aH rfl|exact aw (F.ag _ rfl) rfl rfl (az rfl)|exact aC (F.ag _ rfl) rfl rfl (ak _ 0 rfl rfl)|exact aE rfl rfl|exact aP (F.un _ rfl) rfl|exact aI (F.un _ rfl) rfl|exact ax rfl|exact aQ rfl rfl|exact aR rfl rfl),?_⟩));exact trivial),?_⟩|refine⟨.inl (by kernel_rfl),?_⟩)))
     (repeat(first|refine ai ?_|refine ah ?_|refine aT ?_|refine aM ?_|refine aN ?_|refine aD rfl ?_|refine am rfl rfl rfl ?_|refine aj rfl rfl rfl ?_|refine bT rfl rfl rfl rfl (by omega) (by omega) ?_))
     refine ihu _ _ _ (i1+1) [] ⟨by omega,by omega,?_⟩ (by omega) ?_
     ·rw [← hu]
      exact(gL (by omega) (by simpa [bB] using h2)).symm
     ·(refine⟨(ExtOk.of rfl),rfl,(by repeat(first|exact trivial|refine⟨rfl,?_⟩)),(by repeat(first|exact trivial|refine⟨aW rfl,?_⟩))⟩)
    ·skip
     (refine be ?_);(refine⟨by kernel_rfl,?_,?_⟩);(focus(repeat(first|exact trivial|refine⟨.inl rfl,?_⟩|refine⟨.inr (by(repeat(refine⟨(by first|exact bq rfl|exact bi rfl rfl (.inr (.inr (.inr (.inr (.inl ⟨rfl,rfl⟩)))))|exact bk (F.un _ rfl) (F.sz _ rfl) rfl rfl rfl (by omega) (by omega) (by omega)|exact an rfl rfl (.inl ⟨rfl,(zx _ ⟨by omega,by omega⟩).symm⟩)|exact an rfl rfl (.inr (.inl ⟨rfl,(zx _ ⟨by omega,by omega⟩).symm⟩))|exact aq (F.fo _ _ rfl rfl) rfl|exact aY rfl|exact aH rfl|exact aw (F.ag _ rfl) rfl rfl (az rfl)|exact aC (F.ag _ rfl) rfl rfl (ak _ 0 rfl rfl)|exact aE rfl rfl|exact aP (F.un _ rfl) rfl|exact aI (F.un _ rfl) rfl|exact ax rfl|exact aQ rfl rfl|exact aR rfl rfl),?_⟩));exact trivial),?_⟩|refine⟨.inl (by kernel_rfl),?_⟩)))
     (repeat(first|(refine out _ _ _ i1 [] ⟨hii,hi1,by rw [← hu];exact dk (.inr (by simpa [bB] using h2))⟩ ?_;(refine⟨(ExtOk.of rfl),rfl,(by repeat(first|exact trivial|refine⟨rfl,?_⟩)),(by repeat(first|exact trivial|refine⟨aW rfl,?_⟩))⟩))|refine bA rfl ?_|refine ay rfl ?_))
   ·(repeat(first|refine aX rfl rfl rfl ?_|refine cW rfl rfl rfl rfl ?_|refine e8 rfl rfl ?_))
    (refine be ?_);(refine⟨by kernel_rfl,?_,?_⟩);(focus(repeat(first|exact trivial|refine⟨.inl rfl,?_⟩)))
    (repeat(first|(refine out _ _ _ i1 [] ⟨hii,hi1,by rw [← hu];exact dk (.inl (by omega))⟩ ?_;(refine⟨(ExtOk.of rfl),rfl,(by repeat(first|exact trivial|refine⟨rfl,?_⟩)),(by repeat(first|exact trivial|refine⟨aW rfl,?_⟩))⟩))|refine bA rfl ?_|refine ay rfl ?_))
  rintro i3 ⟨hii3,hi3,hu3⟩
  (repeat(first|refine ao ?_|refine aT ?_))
  refine fq 1 (fun x:Nat=> [(0,.slu 0 0 n),(1,.sc (.int .i64 (a:Int))),(10,.sc (.int .i64 (i3:Int))),(11,.sc (.int .i64 (x:Int)))]) (fun _=> [some (bY n d3)]) (fun x=>x≤j∧Sort.scanDown (fun y=> !bB y d3[a]!) d3 i3 x=Sort.scanDown (fun y=> !bB y d3[a]!) d3 i3 (j)) (fun x=>x) (j) []
   1 (fun x:Nat=> [(0,.slu 0 0 n),(1,.sc (.int .i64 (a:Int))),(10,.sc (.int .i64 (i3:Int))),(11,.sc (.int .i64 (x:Int)))]) (fun _=> [some (bY n d3)]) (fun x=>x≤j∧Sort.scanDown (fun y=> !bB y d3[a]!) d3 i3 (j)=x)
   (fun _=>rfl) (fun _=>rfl) ⟨zP _,rfl⟩ ?_ (fun _=>rfl) (fun _=>rfl) ?_ ?_
  ·(refine⟨(ExtOk.of rfl),rfl,(by repeat(first|exact trivial|refine⟨rfl,?_⟩)),(by repeat(first|exact trivial|refine⟨aW rfl,?_⟩))⟩)
  ·rintro j1 ⟨hjj,hv⟩ ihv out
   (repeat(refine ao ?_))
   refine bP (by kernel_rfl) (by kernel_rfl) ?_
   (repeat(refine aX rfl rfl rfl ?_))
   refine jL rfl rfl rfl rfl ?_ ?_
   all_goals intro h1
   ·have hls_h2:=eW (d3[j1]!) (d3[a]!)
    cases h2:bB (d3[j1]!) (d3[a]!)
    all_goals rw [h2] at hls_h2
    rotate_left
    all_goals(repeat(first|refine aX rfl rfl rfl ?_|refine dH rfl rfl rfl rfl ?_|refine eu rfl rfl rfl ?_|(refine cv (g:=fun x:Nat=> .int .u64 x) rfl rfl rfl (F.ag _ rfl) rfl (by first|omega|(simp only [zy,aB];omega)) (by first|omega|(simp only [zy,aB];omega)) ?_)|refine bb (q:=a) rfl rfl rfl rfl (F.un _ rfl) (F.sz _ rfl) rfl (by omega) (by omega) (by omega) ?_|refine bb (q:=j1) rfl rfl rfl rfl (F.un _ rfl) (F.sz _ rfl) rfl (by omega) (by omega) (by omega) ?_|refine b5 rfl rfl rfl (by kernel_rfl) (Ctr.callV (hls_h2) [] rfl (ExtOk.of rfl) rfl trivial rfl) ?_))
    ·skip
     (refine be ?_);(refine⟨by kernel_rfl,?_,?_⟩);(focus(repeat(first|exact trivial|refine⟨.inl rfl,?_⟩|refine⟨.inr (by(repeat(refine⟨(by first|exact bq rfl|exact bi rfl rfl (.inr (.inr (.inr (.inr (.inl ⟨rfl,rfl⟩)))))|exact bk (F.un _ rfl) (F.sz _ rfl) rfl rfl rfl (by omega) (by omega) (by omega)|exact an rfl rfl (.inl ⟨rfl,(zx _ ⟨by omega,by omega⟩).symm⟩)|exact an rfl rfl (.inr (.inl ⟨rfl,(zx _ ⟨by omega,by omega⟩).symm⟩))|exact aq (F.fo _ _ rfl rfl) rfl|exact aY rfl|exact aH rfl|exact aw (F.ag _ rfl) rfl rfl (az rfl)|exact aC (F.ag _ rfl) rfl rfl (ak _ 0 rfl rfl)|exact aE rfl rfl|exact aP (F.un _ rfl) rfl|exact aI (F.un _ rfl) rfl|exact ax rfl|exact aQ rfl rfl|exact aR rfl rfl),?_⟩));exact trivial),?_⟩|refine⟨.inl (by kernel_rfl),?_⟩)))
     (repeat(first|(refine out _ _ _ j1 [] ⟨hjj,by rw [← hv];exact cM (.inr (by simpa [bB] using h2))⟩ ?_;(refine⟨(ExtOk.of rfl),rfl,(by repeat(first|exact trivial|refine⟨rfl,?_⟩)),(by repeat(first|exact trivial|refine⟨aW rfl,?_⟩))⟩))|refine bA rfl ?_|refine ay rfl ?_))
    ·skip
     (refine be ?_);(refine⟨by kernel_rfl,?_,?_⟩);(focus(repeat(first|exact trivial|refine⟨.inl rfl,?_⟩|refine⟨.inr (by(repeat(refine⟨(by first|exact bq rfl|exact bi rfl rfl (.inr (.inr (.inr (.inr (.inl ⟨rfl,rfl⟩)))))|exact bk (F.un _ rfl) (F.sz _ rfl) rfl rfl rfl (by omega) (by omega) (by omega)|exact an rfl rfl (.inl ⟨rfl,(zx _ ⟨by omega,by omega⟩).symm⟩)|exact an rfl rfl (.inr (.inl ⟨rfl,(zx _ ⟨by omega,by omega⟩).symm⟩))|exact aq (F.fo _ _ rfl rfl) rfl|exact aY rfl|exact aH rfl|exact aw (F.ag _ rfl) rfl rfl (az rfl)|exact aC (F.ag _ rfl) rfl rfl (ak _ 0 rfl rfl)|exact aE rfl rfl|exact aP (F.un _ rfl) rfl|exact aI (F.un _ rfl) rfl|exact ax rfl|exact aQ rfl rfl|exact aR rfl rfl),?_⟩));exact trivial),?_⟩|refine⟨.inl (by kernel_rfl),?_⟩)))
     (repeat(first|refine ai ?_|refine ah ?_|refine aT ?_|refine aM ?_|refine aN ?_|refine aD rfl ?_|refine am rfl rfl rfl ?_|refine aj rfl rfl rfl ?_|refine dB rfl rfl rfl rfl (by omega) (by omega) ?_))
     obtain⟨j1,rfl⟩: ∃ j',j1=j'+1:=⟨j1-1,by omega⟩
     refine ihv _ _ _ j1 [] ⟨by omega,?_⟩ (by omega) ?_
     ·rw [← hv]
      exact(fN (by omega) (by simpa [bB] using h2)).symm
     ·(refine⟨(ExtOk.of rfl),rfl,(by repeat(first|exact trivial|refine⟨rfl,?_⟩|refine⟨dS (by first|omega|(simp only;omega)),?_⟩)),(by repeat(first|exact trivial|refine⟨aW rfl,?_⟩))⟩)
   ·(repeat(first|refine aX rfl rfl rfl ?_|refine cW rfl rfl rfl rfl ?_|refine e8 rfl rfl ?_))
    (refine be ?_);(refine⟨by kernel_rfl,?_,?_⟩);(focus(repeat(first|exact trivial|refine⟨.inl rfl,?_⟩)))
    (repeat(first|(refine out _ _ _ j1 [] ⟨hjj,by rw [← hv];exact cM (.inl (by omega))⟩ ?_;(refine⟨(ExtOk.of rfl),rfl,(by repeat(first|exact trivial|refine⟨rfl,?_⟩)),(by repeat(first|exact trivial|refine⟨aW rfl,?_⟩))⟩))|refine bA rfl ?_|refine ay rfl ?_))
  rintro j3 ⟨hjj3,hv3⟩
  have e:=nL hu3 hv3 hii3 hjj3
  (repeat(first|refine ao ?_|refine ai ?_|refine am rfl rfl rfl ?_))
  refine gv rfl rfl rfl rfl ?_ ?_
  all_goals intro h3
  ·rw [ho,if_pos (by omega)] at e
   (repeat(first|(refine outer _ _ _ (j3,d3) [] ⟨by simp only;omega,hd3,e⟩ ?_;(refine⟨(ExtOk.of rfl),rfl,(by repeat(first|exact trivial|refine⟨rfl,?_⟩)),(by repeat(first|exact trivial|refine⟨aW rfl,?_⟩))⟩))|refine ah ?_|refine bA rfl ?_|refine aD rfl ?_))
  ·rw [ho,if_neg (by omega)] at e
   (repeat(first|refine ao ?_|refine ah ?_|refine aN ?_|refine ay rfl ?_))
   refine bP (by kernel_rfl) (by kernel_rfl) ?_
   (repeat(first|refine aX rfl rfl rfl ?_|(refine cv (g:=fun x:Nat=> .int .u64 x) rfl rfl rfl (F.ag _ rfl) rfl (by first|omega|(simp only [zy,aB];omega)) (by first|omega|(simp only [zy,aB];omega)) ?_)|(refine er (g:=fun x:Nat=> .int .u64 x) rfl rfl rfl (fun _=>rfl) (F.sz _ rfl) rfl (by first|omega|(simp only [zy,aB];omega)) (by first|omega|(simp only [zy,aB];omega)) ?_)|refine bb (q:=i3) rfl rfl rfl rfl (F.un _ rfl) (F.sz _ rfl) rfl (by omega) (by omega) (by omega) ?_|refine bb (q:=j3) rfl rfl rfl rfl (F.un _ rfl) (F.sz _ rfl) rfl (by omega) (by omega) (by omega) ?_))
   (refine be ?_);(refine⟨by kernel_rfl,?_,?_⟩);(focus(repeat(first|exact trivial|refine⟨.inl rfl,?_⟩|refine⟨.inr (by(repeat(refine⟨(by first|exact bq rfl|exact bi rfl rfl (.inr (.inr (.inr (.inr (.inl ⟨rfl,rfl⟩)))))|exact bk (F.un _ rfl) (F.sz _ rfl) rfl rfl rfl (by omega) (by omega) (by omega)|exact an rfl rfl (.inl ⟨rfl,(zx _ ⟨by omega,by omega⟩).symm⟩)|exact an rfl rfl (.inr (.inl ⟨rfl,(zx _ ⟨by omega,by omega⟩).symm⟩))|exact aq (F.fo _ _ rfl rfl) rfl|exact aY rfl|exact aH rfl|exact aw (F.ag _ rfl) rfl rfl (az rfl)|exact aC (F.ag _ rfl) rfl rfl (ak _ 0 rfl rfl)|exact aE rfl rfl|exact aP (F.un _ rfl) rfl|exact aI (F.un _ rfl) rfl|exact ax rfl|exact aQ rfl rfl|exact aR rfl rfl),?_⟩));exact trivial),?_⟩|refine⟨.inl (by kernel_rfl),?_⟩)))
   (repeat(first|refine ao ?_|refine ai ?_|refine ah ?_|refine aM ?_|refine am rfl rfl rfl ?_|refine aj rfl rfl rfl ?_|refine bT rfl rfl rfl rfl (by omega) (by omega) ?_|refine dB rfl rfl rfl rfl (by omega) (by omega) ?_))
   refine ih _ _ _ ((i3+1,j3-1),Sort.swp d3 i3 j3) [] ⟨by simp only;omega,by simp only;omega,by simp only;omega,by rw [aB];exact hd3,e.symm⟩ (by simp only;omega) ?_
   (refine⟨(ExtOk.of rfl),rfl,(by repeat(first|exact trivial|refine⟨rfl,?_⟩|refine⟨dS (by first|omega|(simp only;omega)),?_⟩)),(by repeat(first|exact trivial|refine⟨aW rfl,?_⟩))⟩)
 rintro⟨j3,d3⟩ ⟨hj3,hd3,e⟩
 simp only at hj3 hd3 e ⊢
 rw [e]
 (repeat(refine ao ?_))
 refine bP (by kernel_rfl) (by kernel_rfl) ?_
 (repeat(first|refine aX rfl rfl rfl ?_|(refine cv (g:=fun x:Nat=> .int .u64 x) rfl rfl rfl (F.ag _ rfl) rfl (by first|omega|(simp only [zy,aB];omega)) (by first|omega|(simp only [zy,aB];omega)) ?_)|(refine er (g:=fun x:Nat=> .int .u64 x) rfl rfl rfl (fun _=>rfl) (F.sz _ rfl) rfl (by first|omega|(simp only [zy,aB];omega)) (by first|omega|(simp only [zy,aB];omega)) ?_)|refine bb (q:=a) rfl rfl rfl rfl (F.un _ rfl) (F.sz _ rfl) rfl (by omega) (by omega) (by omega) ?_|refine bb (q:=j3) rfl rfl rfl rfl (F.un _ rfl) (F.sz _ rfl) rfl (by omega) (by omega) (by omega) ?_))
 (refine be ?_);(refine⟨by kernel_rfl,?_,?_⟩);(focus(repeat(first|exact trivial|refine⟨.inl rfl,?_⟩|refine⟨.inr (by(repeat(refine⟨(by first|exact bq rfl|exact bi rfl rfl (.inr (.inr (.inr (.inr (.inl ⟨rfl,rfl⟩)))))|exact bk (F.un _ rfl) (F.sz _ rfl) rfl rfl rfl (by omega) (by omega) (by omega)|exact an rfl rfl (.inl ⟨rfl,(zx _ ⟨by omega,by omega⟩).symm⟩)|exact an rfl rfl (.inr (.inl ⟨rfl,(zx _ ⟨by omega,by omega⟩).symm⟩))|exact aq (F.fo _ _ rfl rfl) rfl|exact aY rfl|exact aH rfl|exact aw (F.ag _ rfl) rfl rfl (az rfl)|exact aC (F.ag _ rfl) rfl rfl (ak _ 0 rfl rfl)|exact aE rfl rfl|exact aP (F.un _ rfl) rfl|exact aI (F.un _ rfl) rfl|exact ax rfl|exact aQ rfl rfl|exact aR rfl rfl),?_⟩));exact trivial),?_⟩|refine⟨.inl (by kernel_rfl),?_⟩)))
 (repeat(first|refine ao ?_|refine ai ?_|refine ah ?_|refine am rfl rfl rfl ?_|refine aj rfl rfl rfl ?_))
 ((apply bj Try.func67 (congrArg Array.toList Try.results67));(focus(repeat(first|exact ResIs.nil|apply ResIs.tmp rfl)));refine⟨_,rfl,Ends.mk [] (ExtOk.of rfl) rfl rfl ?_⟩)
 exact(by repeat(first|exact trivial|refine⟨aW rfl,?_⟩))
theorem j9{lt:Nat→Nat→Bool}{d:Array (Nat)}{b i:Nat}(h:i<b)(hp:lt d[i]! d[i-1]! =false):Sort.scanSorted lt d b i=Sort.scanSorted lt d b (i+1):=by
 conv=>lhs;rw [Sort.scanSorted,if_pos (by simp [h,hp])]
theorem fI{lt:Nat→Nat→Bool}{d:Array (Nat)}{b i:Nat}(h:b≤i∨lt d[i]! d[i-1]! =true):Sort.scanSorted lt d b i=i:=by
 rw [Sort.scanSorted,if_neg]
 simp only [zO,decide_eq_true_eq,Bool.not_eq_true']
 rintro⟨h1,h2⟩
 rcases h with h|h
 ·omega
 ·rw [h] at h2;cases h2
theorem jg{lt:Nat→Nat→Bool}{d:Array (Nat)}{b j:Nat}(h:j<b)(hp:lt d[j]! d[j-1]! =true):Sort.shiftUp lt b j d=Sort.shiftUp lt b (j+1) (Sort.swp d j (j-1)):=by
 conv=>lhs;rw [Sort.shiftUp,if_pos h,if_neg (by simp [hp])]
theorem dV{lt:Nat→Nat→Bool}{d:Array (Nat)}{b j:Nat}(h:b≤j∨lt d[j]! d[j-1]! =false):Sort.shiftUp lt b j d=d:=by
 rw [Sort.shiftUp]
 split
 ·rename_i h1
  rw [if_pos]
  rcases h with h|h
  ·omega
  ·simp [h]
 ·rfl
theorem nJ{lt:Nat→Nat→Bool}{a b s i i1:Nat}{d d2 d3:Array (Nat)}(hi:Sort.scanSorted lt d b i=i1)(h1:i1≠b)(h2: ¬ b-a<50)
 (e2:(if i1-a≥2 then Sort.shiftDown lt (i1-1) (Sort.swp d i1 (i1-1)) else Sort.swp d i1 (i1-1))=d2) (e3:(if b-i1≥2 then Sort.shiftUp lt b (i1+1) d2 else d2)=d3):Sort.partialIns lt a b (s+1) i d=Sort.partialIns lt a b s i1 d3:=by
 rw [Sort.partialIns]
 simp only [hi,if_neg h1,if_neg h2]
 rw [e2,e3]
theorem nI{lt:Nat→Nat→Bool}{a b s i i1:Nat}{d:Array (Nat)}(hi:Sort.scanSorted lt d b i=i1)(h1:i1=b):Sort.partialIns lt a b (s+1) i d=(d,true):=by
 rw [Sort.partialIns]
 simp only [hi,if_pos h1]
theorem mv{lt:Nat→Nat→Bool}{a b s i i1:Nat}{d:Array (Nat)}(hi:Sort.scanSorted lt d b i=i1)(h1:i1≠b)(h2:b-a<50):Sort.partialIns lt a b (s+1) i d=(d,false):=by
 rw [Sort.partialIns]
 simp only [hi,if_neg h1,if_pos h2]
theorem nK(n a b:Nat)(d:Array (Nat))(hn:n<4611686018427387904)(hd:d.size=n)(hab:a<b)(hb:b≤n) :
 Ctr Try.prog 64 [.slu 0 0 n,.sc (.int .i64 (a:Int)),.sc (.int .i64 (b:Int))] [bY n d] (fun c=>c=⟨.sc (.bool (Sort.partialInsertionSort bB d a b).2),[some (bY n (Sort.partialInsertionSort bB d a b).1)]⟩):=by
 refine Fnc.start Try.func64 rfl rfl ?_
 (repeat(first|refine ao ?_|refine ai ?_|refine ah ?_|refine aT ?_|refine am rfl rfl rfl ?_|refine aj rfl rfl rfl ?_|refine bT rfl rfl rfl rfl (by omega) (by omega) ?_))
 refine ft 1 (fun s:(Nat×Nat)×Array (Nat)=> [(0,.slu 0 0 n),(1,.sc (.int .i64 (a:Int))),(2,.sc (.int .i64 (b:Int))),(7,.sc (.int .i64 (s.1.2:Int))),(8,.sc (.int .i64 ((5-s.1.1:Nat):Int)))]) (fun s=> [some (bY n s.2)]) (fun s=>s.1.1≤5∧a+1≤s.1.2∧s.1.2≤b∧s.2.size=n∧Sort.partialIns bB a b s.1.1 s.1.2 s.2=Sort.partialInsertionSort bB d a b) (fun s=>s.1.1) ((5,a+1),d) []
  (fun _=>rfl) ⟨zP _,zP _,hab,hd,rfl⟩ ?_ (fun _=>rfl) (fun _=>rfl) ?_
 ·(refine⟨(ExtOk.of rfl),rfl,(by repeat(first|exact trivial|refine⟨rfl,?_⟩)),(by repeat(first|exact trivial|refine⟨aW rfl,?_⟩))⟩)
 rintro⟨⟨s,i⟩,d0⟩ ⟨hs,hai,hi,hd0,ho⟩ ih
 simp only at hs hai hi hd0 ho ih ⊢
 (repeat(first|refine ao ?_|refine ai ?_|refine am rfl rfl rfl ?_))
 refine cu rfl rfl rfl rfl ?_ ?_
 all_goals intro h0
 ·obtain⟨s,rfl⟩: ∃ s',s=s'+1:=⟨s-1,by omega⟩
  (repeat(first|refine ao ?_|refine ah ?_|refine aT ?_|refine aN ?_|refine aD rfl ?_))
  refine fq 1 (fun x:Nat=> [(0,.slu 0 0 n),(1,.sc (.int .i64 (a:Int))),(2,.sc (.int .i64 (b:Int))),(7,.sc (.int .i64 (x:Int))),(8,.sc (.int .i64 ((5-(s+1):Nat):Int)))]) (fun _=> [some (bY n d0)]) (fun x=>a+1≤x∧x≤b∧Sort.scanSorted bB d0 b x=Sort.scanSorted bB d0 b i) (fun x=>b-x) i []
   1 (fun x:Nat=> [(0,.slu 0 0 n),(1,.sc (.int .i64 (a:Int))),(2,.sc (.int .i64 (b:Int))),(7,.sc (.int .i64 (x:Int))),(8,.sc (.int .i64 ((5-(s+1):Nat):Int)))]) (fun _=> [some (bY n d0)]) (fun x=>a+1≤x∧x≤b∧Sort.scanSorted bB d0 b i=x)
   (fun _=>rfl) (fun _=>rfl) ⟨hai,hi,rfl⟩ ?_ (fun _=>rfl) (fun _=>rfl) ?_ ?_
  ·(refine⟨(ExtOk.of rfl),rfl,(by repeat(first|exact trivial|refine⟨rfl,?_⟩)),(by repeat(first|exact trivial|refine⟨aW rfl,?_⟩))⟩)
  ·rintro i1 ⟨hai1,hi1,hu⟩ ihu out
   (repeat(refine ao ?_))
   refine bP (by kernel_rfl) (by kernel_rfl) ?_
   (repeat(refine aX rfl rfl rfl ?_))
   refine kY rfl rfl rfl rfl ?_ ?_
   all_goals intro h1
   ·have hls_h2:=eW (d0[i1]!) (d0[i1-1]!)
    cases h2:bB (d0[i1]!) (d0[i1-1]!)
    all_goals rw [h2] at hls_h2
    rotate_left
    all_goals(repeat(first|refine aX rfl rfl rfl ?_|refine dH rfl rfl rfl rfl ?_|refine f8 rfl rfl rfl rfl (by omega) (by omega) ?_|refine eu rfl rfl rfl ?_|(refine cv (g:=fun x:Nat=> .int .u64 x) rfl rfl rfl (F.ag _ rfl) rfl (by first|omega|(simp only [zy,aB];omega)) (by first|omega|(simp only [zy,aB];omega)) ?_)|refine bb (q:=i1) rfl rfl rfl rfl (F.un _ rfl) (F.sz _ rfl) rfl (by omega) (by omega) (by omega) ?_|refine bb (q:=i1-1) rfl rfl rfl rfl (F.un _ rfl) (F.sz _ rfl) rfl (by omega) (by omega) (by omega) ?_|refine b5 rfl rfl rfl (by kernel_rfl) (Ctr.callV (hls_h2) [] rfl (ExtOk.of rfl) rfl trivial rfl) ?_))
    ·skip
     (refine be ?_);(refine⟨by kernel_rfl,?_,?_⟩);(focus(repeat(first|exact trivial|refine⟨.inl rfl,?_⟩|refine⟨.inr (by(repeat(refine⟨(by first|exact bq rfl|exact bi rfl rfl (.inr (.inr (.inr (.inr (.inl ⟨rfl,rfl⟩)))))|exact bk (F.un _ rfl) (F.sz _ rfl) rfl rfl rfl (by omega) (by omega) (by omega)|exact an rfl rfl (.inl ⟨rfl,(zx _ ⟨by omega,by omega⟩).symm⟩)|exact an rfl rfl (.inr (.inl ⟨rfl,(zx _ ⟨by omega,by omega⟩).symm⟩))|exact aq (F.fo _ _ rfl rfl) rfl|exact aY rfl|exact aH rfl|exact aw (F.ag _ rfl) rfl rfl (az rfl)|exact aC (F.ag _ rfl) rfl rfl (ak _ 0 rfl rfl)|exact aE rfl rfl|exact aP (F.un _ rfl) rfl|exact aI (F.un _ rfl) rfl|exact ax rfl|exact aQ rfl rfl|exact aR rfl rfl),?_⟩));exact trivial),?_⟩|refine⟨.inl (by kernel_rfl),?_⟩)))
     (repeat(first|(refine out _ _ _ i1 [] ⟨hai1,hi1,by rw [← hu];exact fI (.inr (by simpa [bB] using h2))⟩ ?_;(refine⟨(ExtOk.of rfl),rfl,(by repeat(first|exact trivial|refine⟨rfl,?_⟩)),(by repeat(first|exact trivial|refine⟨aW rfl,?_⟩))⟩))|refine bA rfl ?_|refine ay rfl ?_))
    ·skip
     (refine be ?_);(refine⟨by kernel_rfl,?_,?_⟩);(focus(repeat(first|exact trivial|refine⟨.inl rfl,?_⟩|refine⟨.inr (by(repeat(refine⟨(by first|exact bq rfl|exact bi rfl rfl (.inr (.inr (.inr (.inr (.inl ⟨rfl,rfl⟩)))))|exact bk (F.un _ rfl) (F.sz _ rfl) rfl rfl rfl (by omega) (by omega) (by omega)|exact an rfl rfl (.inl ⟨rfl,(zx _ ⟨by omega,by omega⟩).symm⟩)|exact an rfl rfl (.inr (.inl ⟨rfl,(zx _ ⟨by omega,by omega⟩).symm⟩))|exact aq (F.fo _ _ rfl rfl) rfl|exact aY rfl|exact aH rfl|exact aw (F.ag _ rfl) rfl rfl (az rfl)|exact aC (F.ag _ rfl) rfl rfl (ak _ 0 rfl rfl)|exact aE rfl rfl|exact aP (F.un _ rfl) rfl|exact aI (F.un _ rfl) rfl|exact ax rfl|exact aQ rfl rfl|exact aR rfl rfl),?_⟩));exact trivial),?_⟩|refine⟨.inl (by kernel_rfl),?_⟩)))
     (repeat(first|refine ai ?_|refine ah ?_|refine aT ?_|refine aM ?_|refine aN ?_|refine aD rfl ?_|refine am rfl rfl rfl ?_|refine aj rfl rfl rfl ?_|refine bT rfl rfl rfl rfl (by omega) (by omega) ?_))
     refine ihu _ _ _ (i1+1) [] ⟨by omega,by omega,?_⟩ (by omega) ?_
     ·rw [← hu]
      exact(j9 (by omega) (by simpa [bB] using h2)).symm
     ·(refine⟨(ExtOk.of rfl),rfl,(by repeat(first|exact trivial|refine⟨rfl,?_⟩)),(by repeat(first|exact trivial|refine⟨aW rfl,?_⟩))⟩)
   ·(repeat(first|refine aX rfl rfl rfl ?_|refine cW rfl rfl rfl rfl ?_|refine e8 rfl rfl ?_))
    (refine be ?_);(refine⟨by kernel_rfl,?_,?_⟩);(focus(repeat(first|exact trivial|refine⟨.inl rfl,?_⟩)))
    (repeat(first|(refine out _ _ _ i1 [] ⟨hai1,hi1,by rw [← hu];exact fI (.inl (by omega))⟩ ?_;(refine⟨(ExtOk.of rfl),rfl,(by repeat(first|exact trivial|refine⟨rfl,?_⟩)),(by repeat(first|exact trivial|refine⟨aW rfl,?_⟩))⟩))|refine bA rfl ?_|refine ay rfl ?_))
  rintro i1 ⟨hai1,hi1,hu⟩
  (repeat(first|refine ao ?_|refine ai ?_|refine am rfl rfl rfl ?_))
  refine cF rfl rfl rfl rfl ?_ ?_
  all_goals intro h1
  ·rw [nI hu (by omega)] at ho
   (repeat(first|refine ao ?_|refine ai ?_|refine ah ?_|refine aD rfl ?_|refine aj rfl rfl rfl ?_))
   rw [← ho]
   ((apply bj Try.func64 (congrArg Array.toList Try.results64));(focus(repeat(first|exact ResIs.nil|apply ResIs.tmp rfl)));refine⟨_,rfl,Ends.mk [] (ExtOk.of rfl) rfl rfl ?_⟩)
   exact(by repeat(first|exact trivial|refine⟨aW rfl,?_⟩))
  (repeat(first|refine ao ?_|refine ai ?_|refine ah ?_|refine aN ?_|refine ay rfl ?_|refine am rfl rfl rfl ?_|refine dB rfl rfl rfl rfl (by omega) (by omega) ?_))
  refine cu rfl rfl rfl rfl ?_ ?_
  all_goals intro h2
  ·rw [mv hu (by omega) (by omega)] at ho
   (repeat(first|refine ao ?_|refine ai ?_|refine ah ?_|refine aD rfl ?_|refine aj rfl rfl rfl ?_))
   rw [← ho]
   ((apply bj Try.func64 (congrArg Array.toList Try.results64));(focus(repeat(first|exact ResIs.nil|apply ResIs.tmp rfl)));refine⟨_,rfl,Ends.mk [] (ExtOk.of rfl) rfl rfl ?_⟩)
   exact(by repeat(first|exact trivial|refine⟨aW rfl,?_⟩))
  (repeat(first|refine ao ?_|refine ah ?_|refine aN ?_|refine ay rfl ?_))
  refine bP (by kernel_rfl) (by kernel_rfl) ?_
  (repeat(first|refine aX rfl rfl rfl ?_|refine f8 rfl rfl rfl rfl (by omega) (by omega) ?_|(refine cv (g:=fun x:Nat=> .int .u64 x) rfl rfl rfl (F.ag _ rfl) rfl (by first|omega|(simp only [zy,aB];omega)) (by first|omega|(simp only [zy,aB];omega)) ?_)|(refine er (g:=fun x:Nat=> .int .u64 x) rfl rfl rfl (fun _=>rfl) (F.sz _ rfl) rfl (by first|omega|(simp only [zy,aB];omega)) (by first|omega|(simp only [zy,aB];omega)) ?_)|refine bb (q:=i1) rfl rfl rfl rfl (F.un _ rfl) (F.sz _ rfl) rfl (by omega) (by omega) (by omega) ?_|refine bb (q:=i1-1) rfl rfl rfl rfl (F.un _ rfl) (F.sz _ rfl) rfl (by omega) (by omega) (by omega) ?_))
  (refine be ?_);(refine⟨by kernel_rfl,?_,?_⟩);(focus(repeat(first|exact trivial|refine⟨.inl rfl,?_⟩|refine⟨.inr (by(repeat(refine⟨(by first|exact bq rfl|exact bi rfl rfl (.inr (.inr (.inr (.inr (.inl ⟨rfl,rfl⟩)))))|exact bk (F.un _ rfl) (F.sz _ rfl) rfl rfl rfl (by omega) (by omega) (by omega)|exact an rfl rfl (.inl ⟨rfl,(zx _ ⟨by omega,by omega⟩).symm⟩)|exact an rfl rfl (.inr (.inl ⟨rfl,(zx _ ⟨by omega,by omega⟩).symm⟩))|exact aq (F.fo _ _ rfl rfl) rfl|exact aY rfl|exact aH rfl|exact aw (F.ag _ rfl) rfl rfl (az rfl)|exact aC (F.ag _ rfl) rfl rfl (ak _ 0 rfl rfl)|exact aE rfl rfl|exact aP (F.un _ rfl) rfl|exact aI (F.un _ rfl) rfl|exact ax rfl|exact aQ rfl rfl|exact aR rfl rfl),?_⟩));exact trivial),?_⟩|refine⟨.inl (by kernel_rfl),?_⟩)))
  have hd1:(Sort.swp d0 i1 (i1-1)).size=n:=by rw [aB];exact hd0
  have e2: ∃ d2,(if i1-a≥2 then Sort.shiftDown bB (i1-1) (Sort.swp d0 i1 (i1-1)) else Sort.swp d0 i1 (i1-1))=d2:=⟨_,rfl⟩
  obtain⟨d2,e2⟩:=e2
  have hps:=fun d3 e3=>nJ (s:=s) (d3:=d3) hu (by omega) (by omega) e2 e3
  generalize hsw:Sort.swp d0 i1 (i1-1)=d1 at e2 hd1
  have hsw':(d0.setIfInBounds i1 d0[i1-1]!).setIfInBounds (i1-1) d0[i1]! =d1:=hsw
  rw [hsw']
  (repeat(first|refine ao ?_|refine ai ?_|refine am rfl rfl rfl ?_|refine dB rfl rfl rfl rfl (by omega) (by omega) ?_))
  refine dQ rfl rfl rfl rfl ?_ ?_
  all_goals intro h3
  ·rw [if_pos (by omega)] at e2
   (repeat(first|refine ao ?_|refine ai ?_|refine ah ?_|refine aT ?_|refine aD rfl ?_|refine am rfl rfl rfl ?_|refine aj rfl rfl rfl ?_|refine dB rfl rfl rfl rfl (by omega) (by omega) ?_))
   refine fq 1 (fun s1:Nat×Array (Nat)=> [(0,.slu 0 0 n),(1,.sc (.int .i64 (a:Int))),(2,.sc (.int .i64 (b:Int))),(7,.sc (.int .i64 (i1:Int))),(8,.sc (.int .i64 ((5-(s+1):Nat):Int))),(9,.sc (.int .i64 (s1.1:Int)))]) (fun s1=> [some (bY n s1.2)]) (fun s1=>s1.1≤i1-1∧s1.2.size=n∧Sort.shiftDown bB s1.1 s1.2=d2) (fun s1=>s1.1) (i1-1,d1) []
    1 (fun d':Array (Nat)=> [(0,.slu 0 0 n),(1,.sc (.int .i64 (a:Int))),(2,.sc (.int .i64 (b:Int))),(7,.sc (.int .i64 (i1:Int))),(8,.sc (.int .i64 ((5-(s+1):Nat):Int)))]) (fun d'=> [some (bY n d')]) (fun d'=>d'.size=n∧d'=d2)
    (fun _=>rfl) (fun _=>rfl) ⟨zP _,hd1,e2⟩ ?_ (fun _=>rfl) (fun _=>rfl) ?_ ?_
   ·(refine⟨(ExtOk.of rfl),rfl,(by repeat(first|exact trivial|refine⟨rfl,?_⟩|refine⟨dS (by first|omega|(simp only;omega)),?_⟩)),(by repeat(first|exact trivial|refine⟨aW rfl,?_⟩))⟩)
   ·rintro⟨j,d'⟩ ⟨hj,hd',hsd⟩ ihd out
    simp only at hj hd' hsd ihd ⊢
    (repeat(first|refine ao ?_|refine ai ?_|refine am rfl rfl rfl ?_))
    refine dQ rfl rfl rfl rfl ?_ ?_
    all_goals intro h4
    ·obtain⟨j,rfl⟩: ∃ j',j=j'+1:=⟨j-1,by omega⟩
     (repeat(first|refine ao ?_|refine ah ?_|refine aT ?_|refine aN ?_|refine aD rfl ?_))
     refine bP (by kernel_rfl) (by kernel_rfl) ?_
     have hls_h5:=eW (d'[j+1]!) (d'[j]!)
     cases h5:bB (d'[j+1]!) (d'[j]!)
     all_goals rw [h5] at hls_h5
     rotate_left
     all_goals(repeat(first|refine aX rfl rfl rfl ?_|refine f8 rfl rfl rfl rfl (by omega) (by omega) ?_|refine eu rfl rfl rfl ?_|(refine cv (g:=fun x:Nat=> .int .u64 x) rfl rfl rfl (F.ag _ rfl) rfl (by first|omega|(simp only [zy,aB];omega)) (by first|omega|(simp only [zy,aB];omega)) ?_)|refine bb (q:=j+1) rfl rfl rfl rfl (F.un _ rfl) (F.sz _ rfl) rfl (by omega) (by omega) (by omega) ?_|refine bb (q:=j) rfl rfl rfl rfl (F.un _ rfl) (F.sz _ rfl) rfl (by omega) (by omega) (by omega) ?_|refine b5 rfl rfl rfl (by kernel_rfl) (Ctr.callV (hls_h5) [] rfl (ExtOk.of rfl) rfl trivial rfl) ?_))
     ·skip
      (refine be ?_);(refine⟨by kernel_rfl,?_,?_⟩);(focus(repeat(first|exact trivial|refine⟨.inl rfl,?_⟩|refine⟨.inr (by(repeat(refine⟨(by first|exact bq rfl|exact bi rfl rfl (.inr (.inr (.inr (.inr (.inl ⟨rfl,rfl⟩)))))|exact bk (F.un _ rfl) (F.sz _ rfl) rfl rfl rfl (by omega) (by omega) (by omega)|exact an rfl rfl (.inl ⟨rfl,(zx _ ⟨by omega,by omega⟩).symm⟩)|exact an rfl rfl (.inr (.inl ⟨rfl,(zx _ ⟨by omega,by omega⟩).symm⟩))|exact aq (F.fo _ _ rfl rfl) rfl|exact aY rfl|exact aH rfl|exact aw (F.ag _ rfl) rfl rfl (az rfl)|exact aC (F.ag _ rfl) rfl rfl (ak _ 0 rfl rfl)|exact aE rfl rfl|exact aP (F.un _ rfl) rfl|exact aI (F.un _ rfl) rfl|exact ax rfl|exact aQ rfl rfl|exact aR rfl rfl),?_⟩));exact trivial),?_⟩|refine⟨.inl (by kernel_rfl),?_⟩)))
      (repeat(first|refine aN ?_|refine ay rfl ?_))
      refine bP (by kernel_rfl) (by kernel_rfl) ?_
      (repeat(first|refine aX rfl rfl rfl ?_|refine f8 rfl rfl rfl rfl (by omega) (by omega) ?_|(refine cv (g:=fun x:Nat=> .int .u64 x) rfl rfl rfl (F.ag _ rfl) rfl (by first|omega|(simp only [zy,aB];omega)) (by first|omega|(simp only [zy,aB];omega)) ?_)|(refine er (g:=fun x:Nat=> .int .u64 x) rfl rfl rfl (fun _=>rfl) (F.sz _ rfl) rfl (by first|omega|(simp only [zy,aB];omega)) (by first|omega|(simp only [zy,aB];omega)) ?_)|refine bb (q:=j+1) rfl rfl rfl rfl (F.un _ rfl) (F.sz _ rfl) rfl (by omega) (by omega) (by omega) ?_|refine bb (q:=j) rfl rfl rfl rfl (F.un _ rfl) (F.sz _ rfl) rfl (by omega) (by omega) (by omega) ?_))
      (refine be ?_);(refine⟨by kernel_rfl,?_,?_⟩);(focus(repeat(first|exact trivial|refine⟨.inl rfl,?_⟩|refine⟨.inr (by(repeat(refine⟨(by first|exact bq rfl|exact bi rfl rfl (.inr (.inr (.inr (.inr (.inl ⟨rfl,rfl⟩)))))|exact bk (F.un _ rfl) (F.sz _ rfl) rfl rfl rfl (by omega) (by omega) (by omega)|exact an rfl rfl (.inl ⟨rfl,(zx _ ⟨by omega,by omega⟩).symm⟩)|exact an rfl rfl (.inr (.inl ⟨rfl,(zx _ ⟨by omega,by omega⟩).symm⟩))|exact aq (F.fo _ _ rfl rfl) rfl|exact aY rfl|exact aH rfl|exact aw (F.ag _ rfl) rfl rfl (az rfl)|exact aC (F.ag _ rfl) rfl rfl (ak _ 0 rfl rfl)|exact aE rfl rfl|exact aP (F.un _ rfl) rfl|exact aI (F.un _ rfl) rfl|exact ax rfl|exact aQ rfl rfl|exact aR rfl rfl),?_⟩));exact trivial),?_⟩|refine⟨.inl (by kernel_rfl),?_⟩)))
      (repeat(first|refine ai ?_|refine ah ?_|refine aM ?_|refine am rfl rfl rfl ?_|refine aj rfl rfl rfl ?_|refine dB rfl rfl rfl rfl (by omega) (by omega) ?_))
      refine ihd _ _ _ (j,Sort.swp d' (j+1) j) [] ⟨by simp only;omega,by rw [aB];exact hd',?_⟩ (by simp only;omega) ?_
      ·rw [← hsd]
       conv=>rhs;rw [Sort.shiftDown,if_neg (by simpa [bB] using h5)]
      ·(refine⟨(ExtOk.of rfl),rfl,(by repeat(first|exact trivial|refine⟨rfl,?_⟩|refine⟨dS (by first|omega|(simp only;omega)),?_⟩)),(by repeat(first|exact trivial|refine⟨aW rfl,?_⟩))⟩)
     ·skip
      (refine be ?_);(refine⟨by kernel_rfl,?_,?_⟩);(focus(repeat(first|exact trivial|refine⟨.inl rfl,?_⟩|refine⟨.inr (by(repeat(refine⟨(by first|exact bq rfl|exact bi rfl rfl (.inr (.inr (.inr (.inr (.inl ⟨rfl,rfl⟩)))))|exact bk (F.un _ rfl) (F.sz _ rfl) rfl rfl rfl (by omega) (by omega) (by omega)|exact an rfl rfl (.inl ⟨rfl,(zx _ ⟨by omega,by omega⟩).symm⟩)|exact an rfl rfl (.inr (.inl ⟨rfl,(zx _ ⟨by omega,by omega⟩).symm⟩))|exact aq (F.fo _ _ rfl rfl) rfl|exact aY rfl|exact aH rfl|exact aw (F.ag _ rfl) rfl rfl (az rfl)|exact aC (F.ag _ rfl) rfl rfl (ak _ 0 rfl rfl)|exact aE rfl rfl|exact aP (F.un _ rfl) rfl|exact aI (F.un _ rfl) rfl|exact ax rfl|exact aQ rfl rfl|exact aR rfl rfl),?_⟩));exact trivial),?_⟩|refine⟨.inl (by kernel_rfl),?_⟩)))
      (repeat(first|(refine out _ _ _ d' [] ⟨hd',by rw [← hsd,Sort.shiftDown,if_pos (by simpa [bB] using h5)]⟩ ?_;(refine⟨(ExtOk.of rfl),rfl,(by repeat(first|exact trivial|refine⟨rfl,?_⟩)),(by repeat(first|exact trivial|refine⟨aW rfl,?_⟩))⟩))|refine bA rfl ?_|refine aD rfl ?_))
    ·obtain rfl:j=0:=by omega
     (repeat(first|(refine out _ _ _ d' [] ⟨hd',hsd⟩ ?_;(refine⟨(ExtOk.of rfl),rfl,(by repeat(first|exact trivial|refine⟨rfl,?_⟩)),(by repeat(first|exact trivial|refine⟨aW rfl,?_⟩))⟩))|refine ah ?_|refine bA rfl ?_|refine ay rfl ?_))
   rintro d2' ⟨hd2,rfl⟩
   (repeat(first|refine ao ?_|refine ai ?_|refine am rfl rfl rfl ?_|refine dB rfl rfl rfl rfl (by omega) (by omega) ?_))
   refine dQ rfl rfl rfl rfl ?_ ?_
   all_goals intro h6
   ·(repeat(first|refine ao ?_|refine ai ?_|refine ah ?_|refine aT ?_|refine aD rfl ?_|refine am rfl rfl rfl ?_|refine aj rfl rfl rfl ?_|refine bT rfl rfl rfl rfl (by omega) (by omega) ?_))
    refine fq 1 (fun s1:Nat×Array (Nat)=> [(0,.slu 0 0 n),(1,.sc (.int .i64 (a:Int))),(2,.sc (.int .i64 (b:Int))),(7,.sc (.int .i64 (i1:Int))),(8,.sc (.int .i64 ((5-(s+1):Nat):Int))),(10,.sc (.int .i64 (s1.1:Int)))]) (fun s1=> [some (bY n s1.2)]) (fun s1=>i1+1≤s1.1∧s1.1≤b∧s1.2.size=n∧Sort.shiftUp bB b s1.1 s1.2=Sort.shiftUp bB b (i1+1) d2') (fun s1=>b-s1.1) (i1+1,d2') []
     1 (fun d':Array (Nat)=> [(0,.slu 0 0 n),(1,.sc (.int .i64 (a:Int))),(2,.sc (.int .i64 (b:Int))),(7,.sc (.int .i64 (i1:Int))),(8,.sc (.int .i64 ((5-(s+1):Nat):Int)))]) (fun d'=> [some (bY n d')]) (fun d'=>d'.size=n∧Sort.shiftUp bB b (i1+1) d2'=d')
     (fun _=>rfl) (fun _=>rfl) ⟨zP _,by simp only;omega,hd2,rfl⟩ ?_ (fun _=>rfl) (fun _=>rfl) ?_ ?_
    ·(refine⟨(ExtOk.of rfl),rfl,(by repeat(first|exact trivial|refine⟨rfl,?_⟩)),(by repeat(first|exact trivial|refine⟨aW rfl,?_⟩))⟩)
    ·rintro⟨j,d'⟩ ⟨hj,hjb,hd',hsd⟩ ihd out
     simp only at hj hjb hd' hsd ihd ⊢
     (repeat(first|refine ao ?_|refine ai ?_|refine am rfl rfl rfl ?_))
     refine cu rfl rfl rfl rfl ?_ ?_
     all_goals intro h4
     ·(repeat(first|refine ao ?_|refine ah ?_|refine aT ?_|refine aN ?_|refine aD rfl ?_))
      refine bP (by kernel_rfl) (by kernel_rfl) ?_
      have hls_h5:=eW (d'[j]!) (d'[j-1]!)
      cases h5:bB (d'[j]!) (d'[j-1]!)
      all_goals rw [h5] at hls_h5
      rotate_left
      all_goals(repeat(first|refine aX rfl rfl rfl ?_|refine f8 rfl rfl rfl rfl (by omega) (by omega) ?_|refine eu rfl rfl rfl ?_|(refine cv (g:=fun x:Nat=> .int .u64 x) rfl rfl rfl (F.ag _ rfl) rfl (by first|omega|(simp only [zy,aB];omega)) (by first|omega|(simp only [zy,aB];omega)) ?_)|refine bb (q:=j) rfl rfl rfl rfl (F.un _ rfl) (F.sz _ rfl) rfl (by omega) (by omega) (by omega) ?_|refine bb (q:=j-1) rfl rfl rfl rfl (F.un _ rfl) (F.sz _ rfl) rfl (by omega) (by omega) (by omega) ?_|refine b5 rfl rfl rfl (by kernel_rfl) (Ctr.callV (hls_h5) [] rfl (ExtOk.of rfl) rfl trivial rfl) ?_))
      ·skip
       (refine be ?_);(refine⟨by kernel_rfl,?_,?_⟩);(focus(repeat(first|exact trivial|refine⟨.inl rfl,?_⟩|refine⟨.inr (by(repeat(refine⟨(by first|exact bq rfl|exact bi rfl rfl (.inr (.inr (.inr (.inr (.inl ⟨rfl,rfl⟩)))))|exact bk (F.un _ rfl) (F.sz _ rfl) rfl rfl rfl (by omega) (by omega) (by omega)|exact an rfl rfl (.inl ⟨rfl,(zx _ ⟨by omega,by omega⟩).symm⟩)|exact an rfl rfl (.inr (.inl ⟨rfl,(zx _ ⟨by omega,by omega⟩).symm⟩))|exact aq (F.fo _ _ rfl rfl) rfl|exact aY rfl|exact aH rfl|exact aw (F.ag _ rfl) rfl rfl (az rfl)|exact aC (F.ag _ rfl) rfl rfl (ak _ 0 rfl rfl)|exact aE rfl rfl|exact aP (F.un _ rfl) rfl|exact aI (F.un _ rfl) rfl|exact ax rfl|exact aQ rfl rfl|exact aR rfl rfl),?_⟩));exact trivial),?_⟩|refine⟨.inl (by kernel_rfl),?_⟩)))
       (repeat(first|refine aN ?_|refine ay rfl ?_))
       refine bP (by kernel_rfl) (by kernel_rfl) ?_
       (repeat(first|refine aX rfl rfl rfl ?_|refine f8 rfl rfl rfl rfl (by omega) (by omega) ?_|(refine cv (g:=fun x:Nat=> .int .u64 x) rfl rfl rfl (F.ag _ rfl) rfl (by first|omega|(simp only [zy,aB];omega)) (by first|omega|(simp only [zy,aB];omega)) ?_)|(refine er (g:=fun x:Nat=> .int .u64 x) rfl rfl rfl (fun _=>rfl) (F.sz _ rfl) rfl (by first|omega|(simp only [zy,aB];omega)) (by first|omega|(simp only [zy,aB];omega)) ?_)|refine bb (q:=j) rfl rfl rfl rfl (F.un _ rfl) (F.sz _ rfl) rfl (by omega) (by omega) (by omega) ?_|refine bb (q:=j-1) rfl rfl rfl rfl (F.un _ rfl) (F.sz _ rfl) rfl (by omega) (by omega) (by omega) ?_))
       (refine be ?_);(refine⟨by kernel_rfl,?_,?_⟩);(focus(repeat(first|exact trivial|refine⟨.inl rfl,?_⟩|refine⟨.inr (by(repeat(refine⟨(by first|exact bq rfl|exact bi rfl rfl (.inr (.inr (.inr (.inr (.inl ⟨rfl,rfl⟩)))))|exact bk (F.un _ rfl) (F.sz _ rfl) rfl rfl rfl (by omega) (by omega) (by omega)|exact an rfl rfl (.inl ⟨rfl,(zx _ ⟨by omega,by omega⟩).symm⟩)|exact an rfl rfl (.inr (.inl ⟨rfl,(zx _ ⟨by omega,by omega⟩).symm⟩))|exact aq (F.fo _ _ rfl rfl) rfl|exact aY rfl|exact aH rfl|exact aw (F.ag _ rfl) rfl rfl (az rfl)|exact aC (F.ag _ rfl) rfl rfl (ak _ 0 rfl rfl)|exact aE rfl rfl|exact aP (F.un _ rfl) rfl|exact aI (F.un _ rfl) rfl|exact ax rfl|exact aQ rfl rfl|exact aR rfl rfl),?_⟩));exact trivial),?_⟩|refine⟨.inl (by kernel_rfl),?_⟩)))
       (repeat(first|refine ai ?_|refine ah ?_|refine aM ?_|refine am rfl rfl rfl ?_|refine aj rfl rfl rfl ?_|refine bT rfl rfl rfl rfl (by omega) (by omega) ?_))
       refine ihd _ _ _ (j+1,Sort.swp d' j (j-1)) [] ⟨by simp only;omega,by simp only;omega,by rw [aB];exact hd',?_⟩ (by simp only;omega) ?_
       ·rw [← hsd]
        exact(jg (by omega) (by simpa [bB] using h5)).symm
       ·(refine⟨(ExtOk.of rfl),rfl,(by repeat(first|exact trivial|refine⟨rfl,?_⟩)),(by repeat(first|exact trivial|refine⟨aW rfl,?_⟩))⟩)
      ·skip
       (refine be ?_);(refine⟨by kernel_rfl,?_,?_⟩);(focus(repeat(first|exact trivial|refine⟨.inl rfl,?_⟩|refine⟨.inr (by(repeat(refine⟨(by first|exact bq rfl|exact bi rfl rfl (.inr (.inr (.inr (.inr (.inl ⟨rfl,rfl⟩)))))|exact bk (F.un _ rfl) (F.sz _ rfl) rfl rfl rfl (by omega) (by omega) (by omega)|exact an rfl rfl (.inl ⟨rfl,(zx _ ⟨by omega,by omega⟩).symm⟩)|exact an rfl rfl (.inr (.inl ⟨rfl,(zx _ ⟨by omega,by omega⟩).symm⟩))|exact aq (F.fo _ _ rfl rfl) rfl|exact aY rfl|exact aH rfl|exact aw (F.ag _ rfl) rfl rfl (az rfl)|exact aC (F.ag _ rfl) rfl rfl (ak _ 0 rfl rfl)|exact aE rfl rfl|exact aP (F.un _ rfl) rfl|exact aI (F.un _ rfl) rfl|exact ax rfl|exact aQ rfl rfl|exact aR rfl rfl),?_⟩));exact trivial),?_⟩|refine⟨.inl (by kernel_rfl),?_⟩)))
       (repeat(first|(refine out _ _ _ d' [] ⟨hd',by rw [← hsd];exact dV (.inr (by simpa [bB] using h5))⟩ ?_;(refine⟨(ExtOk.of rfl),rfl,(by repeat(first|exact trivial|refine⟨rfl,?_⟩)),(by repeat(first|exact trivial|refine⟨aW rfl,?_⟩))⟩))|refine bA rfl ?_|refine aD rfl ?_))
     ·(repeat(first|(refine out _ _ _ d' [] ⟨hd',by rw [← hsd];exact dV (.inl (by omega))⟩ ?_;(refine⟨(ExtOk.of rfl),rfl,(by repeat(first|exact trivial|refine⟨rfl,?_⟩)),(by repeat(first|exact trivial|refine⟨aW rfl,?_⟩))⟩))|refine ah ?_|refine bA rfl ?_|refine ay rfl ?_))
    rintro d3 ⟨hd3,e3⟩
    (repeat(first|refine ai ?_|refine ah ?_|refine aM ?_|refine am rfl rfl rfl ?_|refine aj rfl rfl rfl ?_|refine bT rfl rfl rfl rfl (by omega) (by omega) ?_))
    refine ih _ _ _ ((s,i1),d3) [] ⟨by simp only;omega,hai1,hi1,hd3,by rw [← ho];exact(hps d3 (by rw [if_pos (by omega)];exact e3)).symm⟩ (by simp only;omega) ?_
    (refine⟨(ExtOk.of rfl),rfl,(by repeat(first|exact trivial|refine⟨rfl,?_⟩|refine⟨dS (by first|omega|(simp only;omega)),?_⟩)),(by repeat(first|exact trivial|refine⟨aW rfl,?_⟩))⟩)
   ·(repeat(first|refine ai ?_|refine ah ?_|refine aM ?_|refine aN ?_|refine ay rfl ?_|refine am rfl rfl rfl ?_|refine aj rfl rfl rfl ?_|refine bT rfl rfl rfl rfl (by omega) (by omega) ?_))
    refine ih _ _ _ ((s,i1),d2') [] ⟨by simp only;omega,hai1,hi1,hd2,by rw [← ho];exact(hps d2' (by rw [if_neg (by omega)])).symm⟩ (by simp only;omega) ?_
    (refine⟨(ExtOk.of rfl),rfl,(by repeat(first|exact trivial|refine⟨rfl,?_⟩|refine⟨dS (by first|omega|(simp only;omega)),?_⟩)),(by repeat(first|exact trivial|refine⟨aW rfl,?_⟩))⟩)
  ·rw [if_neg (by omega)] at e2
   subst e2
   have hd2:=hd1
   (repeat(first|refine ao ?_|refine ai ?_|refine ah ?_|refine aN ?_|refine ay rfl ?_|refine am rfl rfl rfl ?_|refine dB rfl rfl rfl rfl (by omega) (by omega) ?_))
   refine dQ rfl rfl rfl rfl ?_ ?_
   all_goals intro h6
   ·(repeat(first|refine ao ?_|refine ai ?_|refine ah ?_|refine aT ?_|refine aD rfl ?_|refine am rfl rfl rfl ?_|refine aj rfl rfl rfl ?_|refine bT rfl rfl rfl rfl (by omega) (by omega) ?_))
    refine fq 1 (fun s1:Nat×Array (Nat)=> [(0,.slu 0 0 n),(1,.sc (.int .i64 (a:Int))),(2,.sc (.int .i64 (b:Int))),(7,.sc (.int .i64 (i1:Int))),(8,.sc (.int .i64 ((5-(s+1):Nat):Int))),(10,.sc (.int .i64 (s1.1:Int)))]) (fun s1=> [some (bY n s1.2)]) (fun s1=>i1+1≤s1.1∧s1.1≤b∧s1.2.size=n∧Sort.shiftUp bB b s1.1 s1.2=Sort.shiftUp bB b (i1+1) d1) (fun s1=>b-s1.1) (i1+1,d1) []
     1 (fun d':Array (Nat)=> [(0,.slu 0 0 n),(1,.sc (.int .i64 (a:Int))),(2,.sc (.int .i64 (b:Int))),(7,.sc (.int .i64 (i1:Int))),(8,.sc (.int .i64 ((5-(s+1):Nat):Int)))]) (fun d'=> [some (bY n d')]) (fun d'=>d'.size=n∧Sort.shiftUp bB b (i1+1) d1=d')
     (fun _=>rfl) (fun _=>rfl) ⟨zP _,by simp only;omega,hd2,rfl⟩ ?_ (fun _=>rfl) (fun _=>rfl) ?_ ?_
    ·(refine⟨(ExtOk.of rfl),rfl,(by repeat(first|exact trivial|refine⟨rfl,?_⟩)),(by repeat(first|exact trivial|refine⟨aW rfl,?_⟩))⟩)
    ·rintro⟨j,d'⟩ ⟨hj,hjb,hd',hsd⟩ ihd out
     simp only at hj hjb hd' hsd ihd ⊢
     (repeat(first|refine ao ?_|refine ai ?_|refine am rfl rfl rfl ?_))
     refine cu rfl rfl rfl rfl ?_ ?_
     all_goals intro h4
     ·(repeat(first|refine ao ?_|refine ah ?_|refine aT ?_|refine aN ?_|refine aD rfl ?_))
      refine bP (by kernel_rfl) (by kernel_rfl) ?_
      have hls_h5:=eW (d'[j]!) (d'[j-1]!)
      cases h5:bB (d'[j]!) (d'[j-1]!)
      all_goals rw [h5] at hls_h5
      rotate_left
      all_goals(repeat(first|refine aX rfl rfl rfl ?_|refine f8 rfl rfl rfl rfl (by omega) (by omega) ?_|refine eu rfl rfl rfl ?_|(refine cv (g:=fun x:Nat=> .int .u64 x) rfl rfl rfl (F.ag _ rfl) rfl (by first|omega|(simp only [zy,aB];omega)) (by first|omega|(simp only [zy,aB];omega)) ?_)|refine bb (q:=j) rfl rfl rfl rfl (F.un _ rfl) (F.sz _ rfl) rfl (by omega) (by omega) (by omega) ?_|refine bb (q:=j-1) rfl rfl rfl rfl (F.un _ rfl) (F.sz _ rfl) rfl (by omega) (by omega) (by omega) ?_|refine b5 rfl rfl rfl (by kernel_rfl) (Ctr.callV (hls_h5) [] rfl (ExtOk.of rfl) rfl trivial rfl) ?_))
      ·skip
       (refine be ?_);(refine⟨by kernel_rfl,?_,?_⟩);(focus(repeat(first|exact trivial|refine⟨.inl rfl,?_⟩|refine⟨.inr (by(repeat(refine⟨(by first|exact bq rfl|exact bi rfl rfl (.inr (.inr (.inr (.inr (.inl ⟨rfl,rfl⟩)))))|exact bk (F.un _ rfl) (F.sz _ rfl) rfl rfl rfl (by omega) (by omega) (by omega)|exact an rfl rfl (.inl ⟨rfl,(zx _ ⟨by omega,by omega⟩).symm⟩)|exact an rfl rfl (.inr (.inl ⟨rfl,(zx _ ⟨by omega,by omega⟩).symm⟩))|exact aq (F.fo _ _ rfl rfl) rfl|exact aY rfl|exact aH rfl|exact aw (F.ag _ rfl) rfl rfl (az rfl)|exact aC (F.ag _ rfl) rfl rfl (ak _ 0 rfl rfl)|exact aE rfl rfl|exact aP (F.un _ rfl) rfl|exact aI (F.un _ rfl) rfl|exact ax rfl|exact aQ rfl rfl|exact aR rfl rfl),?_⟩));exact trivial),?_⟩|refine⟨.inl (by kernel_rfl),?_⟩)))
       (repeat(first|refine aN ?_|refine ay rfl ?_))
       refine bP (by kernel_rfl) (by kernel_rfl) ?_
       (repeat(first|refine aX rfl rfl rfl ?_|refine f8 rfl rfl rfl rfl (by omega) (by omega) ?_|(refine cv (g:=fun x:Nat=> .int .u64 x) rfl rfl rfl (F.ag _ rfl) rfl (by first|omega|(simp only [zy,aB];omega)) (by first|omega|(simp only [zy,aB];omega)) ?_)|(refine er (g:=fun x:Nat=> .int .u64 x) rfl rfl rfl (fun _=>rfl) (F.sz _ rfl) rfl (by first|omega|(simp only [zy,aB];omega)) (by first|omega|(simp only [zy,aB];omega)) ?_)|refine bb (q:=j) rfl rfl rfl rfl (F.un _ rfl) (F.sz _ rfl) rfl (by omega) (by omega) (by omega) ?_|refine bb (q:=j-1) rfl rfl rfl rfl (F.un _ rfl) (F.sz _ rfl) rfl (by omega) (by omega) (by omega) ?_))
       (refine be ?_);(refine⟨by kernel_rfl,?_,?_⟩);(focus(repeat(first|exact trivial|refine⟨.inl rfl,?_⟩|refine⟨.inr (by(repeat(refine⟨(by first|exact bq rfl|exact bi rfl rfl (.inr (.inr (.inr (.inr (.inl ⟨rfl,rfl⟩)))))|exact bk (F.un _ rfl) (F.sz _ rfl) rfl rfl rfl (by omega) (by omega) (by omega)|exact an rfl rfl (.inl ⟨rfl,(zx _ ⟨by omega,by omega⟩).symm⟩)|exact an rfl rfl (.inr (.inl ⟨rfl,(zx _ ⟨by omega,by omega⟩).symm⟩))|exact aq (F.fo _ _ rfl rfl) rfl|exact aY rfl|exact aH rfl|exact aw (F.ag _ rfl) rfl rfl (az rfl)|exact aC (F.ag _ rfl) rfl rfl (ak _ 0 rfl rfl)|exact aE rfl rfl|exact aP (F.un _ rfl) rfl|exact aI (F.un _ rfl) rfl|exact ax rfl|exact aQ rfl rfl|exact aR rfl rfl),?_⟩));exact trivial),?_⟩|refine⟨.inl (by kernel_rfl),?_⟩)))
       (repeat(first|refine ai ?_|refine ah ?_|refine aM ?_|refine am rfl rfl rfl ?_|refine aj rfl rfl rfl ?_|refine bT rfl rfl rfl rfl (by omega) (by omega) ?_))
       refine ihd _ _ _ (j+1,Sort.swp d' j (j-1)) [] ⟨by simp only;omega,by simp only;omega,by rw [aB];exact hd',?_⟩ (by simp only;omega) ?_
       ·rw [← hsd]
        exact(jg (by omega) (by simpa [bB] using h5)).symm
       ·(refine⟨(ExtOk.of rfl),rfl,(by repeat(first|exact trivial|refine⟨rfl,?_⟩)),(by repeat(first|exact trivial|refine⟨aW rfl,?_⟩))⟩)
      ·skip
       (refine be ?_);(refine⟨by kernel_rfl,?_,?_⟩);(focus(repeat(first|exact trivial|refine⟨.inl rfl,?_⟩|refine⟨.inr (by(repeat(refine⟨(by first|exact bq rfl|exact bi rfl rfl (.inr (.inr (.inr (.inr (.inl ⟨rfl,rfl⟩)))))|exact bk (F.un _ rfl) (F.sz _ rfl) rfl rfl rfl (by omega) (by omega) (by omega)|exact an rfl rfl (.inl ⟨rfl,(zx _ ⟨by omega,by omega⟩).symm⟩)|exact an rfl rfl (.inr (.inl ⟨rfl,(zx _ ⟨by omega,by omega⟩).symm⟩))|exact aq (F.fo _ _ rfl rfl) rfl|exact aY rfl|exact aH rfl|exact aw (F.ag _ rfl) rfl rfl (az rfl)|exact aC (F.ag _ rfl) rfl rfl (ak _ 0 rfl rfl)|exact aE rfl rfl|exact aP (F.un _ rfl) rfl|exact aI (F.un _ rfl) rfl|exact ax rfl|exact aQ rfl rfl|exact aR rfl rfl),?_⟩));exact trivial),?_⟩|refine⟨.inl (by kernel_rfl),?_⟩)))
       (repeat(first|(refine out _ _ _ d' [] ⟨hd',by rw [← hsd];exact dV (.inr (by simpa [bB] using h5))⟩ ?_;(refine⟨(ExtOk.of rfl),rfl,(by repeat(first|exact trivial|refine⟨rfl,?_⟩)),(by repeat(first|exact trivial|refine⟨aW rfl,?_⟩))⟩))|refine bA rfl ?_|refine aD rfl ?_))
     ·(repeat(first|(refine out _ _ _ d' [] ⟨hd',by rw [← hsd];exact dV (.inl (by omega))⟩ ?_;(refine⟨(ExtOk.of rfl),rfl,(by repeat(first|exact trivial|refine⟨rfl,?_⟩)),(by repeat(first|exact trivial|refine⟨aW rfl,?_⟩))⟩))|refine ah ?_|refine bA rfl ?_|refine ay rfl ?_))
    rintro d3 ⟨hd3,e3⟩
    (repeat(first|refine ai ?_|refine ah ?_|refine aM ?_|refine am rfl rfl rfl ?_|refine aj rfl rfl rfl ?_|refine bT rfl rfl rfl rfl (by omega) (by omega) ?_))
    refine ih _ _ _ ((s,i1),d3) [] ⟨by simp only;omega,hai1,hi1,hd3,by rw [← ho];exact(hps d3 (by rw [if_pos (by omega)];exact e3)).symm⟩ (by simp only;omega) ?_
    (refine⟨(ExtOk.of rfl),rfl,(by repeat(first|exact trivial|refine⟨rfl,?_⟩|refine⟨dS (by first|omega|(simp only;omega)),?_⟩)),(by repeat(first|exact trivial|refine⟨aW rfl,?_⟩))⟩)
   ·(repeat(first|refine ai ?_|refine ah ?_|refine aM ?_|refine aN ?_|refine ay rfl ?_|refine am rfl rfl rfl ?_|refine aj rfl rfl rfl ?_|refine bT rfl rfl rfl rfl (by omega) (by omega) ?_))
    refine ih _ _ _ ((s,i1),d1) [] ⟨by simp only;omega,hai1,hi1,hd2,by rw [← ho];exact(hps d1 (by rw [if_neg (by omega)])).symm⟩ (by simp only;omega) ?_
    (refine⟨(ExtOk.of rfl),rfl,(by repeat(first|exact trivial|refine⟨rfl,?_⟩|refine⟨dS (by first|omega|(simp only;omega)),?_⟩)),(by repeat(first|exact trivial|refine⟨aW rfl,?_⟩))⟩)
 ·obtain rfl:s=0:=by omega
  (repeat(first|refine ao ?_|refine ai ?_|refine ah ?_|refine bA rfl ?_|refine ay rfl ?_|refine aj rfl rfl rfl ?_))
  rw [← ho]
  ((apply bj Try.func64 (congrArg Array.toList Try.results64));(focus(repeat(first|exact ResIs.nil|apply ResIs.tmp rfl)));refine⟨_,rfl,Ends.mk [] (ExtOk.of rfl) rfl rfl ?_⟩)
  exact(by repeat(first|exact trivial|refine⟨aW rfl,?_⟩))
def nO(a len m:Nat):Nat→UInt64×Array (Nat)→Nat→UInt64×Array (Nat)
 | 0,st,_=>st
 | k+1,st,i=>nO a len m k (Sort.breakStep a len m st i) (i+1)
theorem pu(n a b:Nat)(d:Array (Nat))(hn:n<65536)(hd:d.size=n)(hab:a≤b)(hb:b≤n) :
 Ctr Try.prog 61 [.slu 0 0 n,.sc (.int .i64 (a:Int)),.sc (.int .i64 (b:Int))] [bY n d] (fun c=>c=⟨.tup [],[some (bY n (Sort.breakPatterns d a b))]⟩):=by
 have eba:(b:Int)-(a:Int)=((b-a:Nat):Int):=by omega
 refine Fnc.start Try.func61 rfl rfl ?_
 (repeat(first|refine ao ?_|refine ai ?_|refine ah ?_|refine am rfl rfl rfl ?_|refine aj rfl rfl rfl ?_|refine dB rfl rfl rfl rfl (by omega) (by omega) ?_))
 rw [eba]
 have ebp:Sort.breakPatterns d a b=Sort.breakPatterns d a b:=rfl
 conv at ebp=>rhs;unfold Sort.breakPatterns
 simp only at ebp
 refine dQ rfl rfl rfl rfl ?_ ?_
 all_goals intro h1
 ·rw [if_pos (by omega)] at ebp
  have ep:Sort.bitsLen (b-a)≤16:=lY (by omega)
  have eq1:(1:Nat) <<< Sort.bitsLen (b-a)=2 ^ Sort.bitsLen (b-a):=by rw [Nat.shiftLeft_eq,Nat.one_mul]
  have eq2:2 ^ Sort.bitsLen (b-a)≤2*(b-a):=Sort.two_pow_bitsLen_le (by omega)
  have eq3:0<2 ^ Sort.bitsLen (b-a):=Nat.pow_pos (by decide)
  (repeat(first|refine ao ?_|refine ai ?_|refine ah ?_|refine aT ?_|refine aD rfl ?_|refine am rfl rfl rfl ?_|refine aj rfl rfl rfl ?_|refine jC rfl rfl (F.zl _ rfl) ?_|refine pT rfl rfl rfl (F.sz _ rfl) rfl rfl rfl ?_|refine bT rfl rfl rfl rfl (by omega) (by omega) ?_|refine dB rfl rfl rfl rfl (by omega) (by omega) ?_|refine uY rfl rfl rfl rfl (by omega) (by omega) ?_|refine sk rfl rfl rfl rfl (by omega) (by omega) (by omega) ?_|refine jU rfl rfl rfl (F.un _ rfl) (F.un _ rfl) (show _=((b-a:Nat):Int)from Go.IntWalk.u64_in _ ⟨by omega,by omega⟩) ?_|refine kx (te (b-a) (by omega)) [] rfl rfl rfl (by kernel_rfl) rfl (ExtOk.of rfl) rfl trivial ?_))
  rw [eq1] at ebp
  generalize hm:2 ^ Sort.bitsLen (b-a)=m at ebp eq2 eq3
  have e4:(a:Int)+((b-a:Nat):Int) / 4*2-1=((a+(b-a) / 4*2-1:Nat):Int):=by omega
  rw [e4]
  have hbase:a+(b-a) / 4*2-1+3≤b:=by omega
  have hlt:0<a+(b-a) / 4*2:=by omega
  generalize hbs:a+(b-a) / 4*2-1=base at ebp hbase
  have ht:Sort.breakPatterns d a b=(nO a (b-a) m 3 (UInt64.ofNat (b-a),d) base).2:=ebp
  refine ft 2 (fun s:(Nat×UInt64)×Array (Nat)=> [(0,.slu 0 0 n),(1,.sc (.int .i64 (a:Int))),(6,.sc (.int .i64 ((b-a:Nat):Int))),(7,.ptr 1 0),(8,.sc (.int .u64 (m:Int))),(9,.sc (.int .i64 ((base+3-s.1.1:Nat):Int)))]) (fun s=> [some (bY n s.2),some (xsO s.1.2.toNat)]) (fun s=>s.1.1≤3∧s.2.size=n∧(nO a (b-a) m s.1.1 (s.1.2,s.2) (base+3-s.1.1)).2=Sort.breakPatterns d a b) (fun s=>s.1.1) ((3,UInt64.ofNat (b-a)),d) [1]
   (fun _=>rfl) ⟨zP _,hd,by rw [ht];rfl⟩ ?_ (fun _=>rfl) (fun _=>rfl) ?_
  ·have e0:(UInt64.ofNat (b-a)).toNat=b-a:=by rw [UInt64.toNat_ofNat',Nat.mod_eq_of_lt (by omega)]
   rw [e0]
   (refine⟨(ExtOk.of rfl),rfl,(by repeat(first|exact trivial|refine⟨rfl,?_⟩)),(by repeat(first|exact trivial|refine⟨aW rfl,?_⟩|refine⟨eE rfl,?_⟩))⟩)
  rintro⟨⟨s,r⟩,d1⟩ ⟨hs,hd1,ho⟩ ih
  simp only at hs hd1 ho ih ⊢
  (repeat(first|refine ao ?_|refine ai ?_|refine am rfl rfl rfl ?_|refine bT rfl rfl rfl rfl (by omega) (by omega) ?_|refine uY rfl rfl rfl rfl (by omega) (by omega) ?_|refine sk rfl rfl rfl rfl (by omega) (by omega) (by omega) ?_))
  refine sq rfl rfl rfl rfl ?_ ?_
  all_goals intro h2
  ·obtain⟨s,rfl⟩: ∃ s',s=s'+1:=⟨s-1,by omega⟩
   have hr:=UInt64.toNat_lt r
   have hnx:=Sort.xorNextN_lt r.toNat hr
   have hxn:=Sort.xorNext_toNat r
   have hst:Sort.breakStep a (b-a) m (r,d1) (base+3-(s+1))=(Sort.xorNext r,Sort.swp d1 (base+3-(s+1)) (a+(if(Sort.xorNext r).toNat &&& (m-1)≥b-a then((Sort.xorNext r).toNat &&& (m-1))-(b-a) else(Sort.xorNext r).toNat &&& (m-1)))):=rfl
   have ho':(nO a (b-a) m s (Sort.breakStep a (b-a) m (r,d1) (base+3-(s+1))) (base+3-s)).2=Sort.breakPatterns d a b:=by
    rw [← ho,nO,show base+3-(s+1)+1=base+3-s by omega]
   rw [hst] at ho'
   rw [hxn] at ho'
   have hmw:IntKind.u64.wrap ((m:Int)-1)=((m-1:Nat):Int):=by
    rw [Go.IntWalk.u64_in _ ⟨by omega,by omega⟩]
    omega
   have hand:=andU (a:=Sort.xorNextN r.toNat) (b:=m-1) hnx (by omega)
   have hle:Sort.xorNextN r.toNat &&& (m-1)≤m-1:=Nat.and_le_right
   generalize hoo:Sort.xorNextN r.toNat &&& (m-1)=o at hand hle ho'
   (repeat(first|refine ao ?_|refine ai ?_|refine ah ?_|refine aT ?_|refine aN ?_|refine aD rfl ?_|refine am rfl rfl rfl ?_|refine cc rfl rfl rfl (by kernel_rfl) (Ctr.dp (tC r.toNat hr) [1] rfl (ExtOk.of rfl) rfl (by repeat(first|exact trivial|refine⟨eE rfl,?_⟩)) rfl (by repeat(first|exact trivial|refine⟨dl (fun _=>rfl),?_⟩)) (fun _=>rfl) rfl rfl) ?_))
   refine yu rfl rfl rfl rfl ?_
   rw [hmw]
   refine yE rfl rfl rfl rfl (.inl rfl) hand ?_
   (repeat(first|refine ao ?_|refine ai ?_|refine ah ?_|refine am rfl rfl rfl ?_|refine aj rfl rfl rfl ?_|refine jU rfl rfl rfl (F.un _ rfl) (F.un _ rfl) (show _=(o:Int)from zx _ ⟨by omega,by omega⟩) ?_))
   refine dQ rfl rfl rfl rfl ?_ ?_
   all_goals intro h3
   ·rw [if_pos (by omega)] at ho'
    (repeat(first|refine ai ?_|refine ah ?_|refine aD rfl ?_|refine am rfl rfl rfl ?_|refine aj rfl rfl rfl ?_|refine dB rfl rfl rfl rfl (by omega) (by omega) ?_))
    refine bP (by kernel_rfl) (by kernel_rfl) ?_
    (repeat(first|refine aX rfl rfl rfl ?_|refine fD rfl rfl rfl rfl (by omega) (by omega) ?_|(refine cv (g:=fun x:Nat=> .int .u64 x) rfl rfl rfl (F.ag _ rfl) rfl (by first|omega|(simp only [zy,aB];omega)) (by first|omega|(simp only [zy,aB];omega)) ?_)|(refine er (g:=fun x:Nat=> .int .u64 x) rfl rfl rfl (fun _=>rfl) (F.sz _ rfl) rfl (by first|omega|(simp only [zy,aB];omega)) (by first|omega|(simp only [zy,aB];omega)) ?_)|refine bb (q:=base+3-(s+1)) rfl rfl rfl rfl (F.un _ rfl) (F.sz _ rfl) rfl (by omega) (by omega) (by omega) ?_|refine bb (q:=a+(o-(b-a))) rfl rfl rfl rfl (F.un _ rfl) (F.sz _ rfl) rfl (by omega) (by omega) (by omega) ?_))
    (refine be ?_);(refine⟨by kernel_rfl,?_,?_⟩);(focus(repeat(first|exact trivial|refine⟨.inl rfl,?_⟩|refine⟨.inr (by(repeat(refine⟨(by first|exact bq rfl|exact bi rfl rfl (.inr (.inr (.inr (.inr (.inl ⟨rfl,rfl⟩)))))|exact bk (F.un _ rfl) (F.sz _ rfl) rfl rfl rfl (by omega) (by omega) (by omega)|exact an rfl rfl (.inl ⟨rfl,(zx _ ⟨by omega,by omega⟩).symm⟩)|exact an rfl rfl (.inr (.inl ⟨rfl,(zx _ ⟨by omega,by omega⟩).symm⟩))|exact aq (F.fo _ _ rfl rfl) rfl|exact aY rfl|exact aH rfl|exact aw (F.ag _ rfl) rfl rfl (az rfl)|exact aC (F.ag _ rfl) rfl rfl (ak _ 0 rfl rfl)|exact aE rfl rfl|exact aP (F.un _ rfl) rfl|exact aI (F.un _ rfl) rfl|exact ax rfl|exact aQ rfl rfl|exact aR rfl rfl),?_⟩));exact trivial),?_⟩|refine⟨.inl (by kernel_rfl),?_⟩)))
    (repeat(first|refine ai ?_|refine ah ?_|refine aM ?_|refine am rfl rfl rfl ?_|refine aj rfl rfl rfl ?_|refine bT rfl rfl rfl rfl (by omega) (by omega) ?_))
    refine ih _ _ _ ((s,Sort.xorNext r),Sort.swp d1 (base+3-(s+1)) (a+(o-(b-a)))) [1] ⟨by simp only;omega,by rw [aB];exact hd1,ho'⟩ (by simp only;omega) ?_
    rw [hxn]
    (refine⟨(ExtOk.of rfl),rfl,(by repeat(first|exact trivial|refine⟨rfl,?_⟩|refine⟨dS (by first|omega|(simp only;omega)),?_⟩)),(by repeat(first|exact trivial|refine⟨aW rfl,?_⟩|refine⟨eE rfl,?_⟩))⟩)
   ·rw [if_neg (by omega)] at ho'
    (repeat(first|refine ah ?_|refine aN ?_|refine ay rfl ?_))
    refine bP (by kernel_rfl) (by kernel_rfl) ?_
    (repeat(first|refine aX rfl rfl rfl ?_|refine fD rfl rfl rfl rfl (by omega) (by omega) ?_|(refine cv (g:=fun x:Nat=> .int .u64 x) rfl rfl rfl (F.ag _ rfl) rfl (by first|omega|(simp only [zy,aB];omega)) (by first|omega|(simp only [zy,aB];omega)) ?_)|(refine er (g:=fun x:Nat=> .int .u64 x) rfl rfl rfl (fun _=>rfl) (F.sz _ rfl) rfl (by first|omega|(simp only [zy,aB];omega)) (by first|omega|(simp only [zy,aB];omega)) ?_)|refine bb (q:=base+3-(s+1)) rfl rfl rfl rfl (F.un _ rfl) (F.sz _ rfl) rfl (by omega) (by omega) (by omega) ?_|refine bb (q:=a+o) rfl rfl rfl rfl (F.un _ rfl) (F.sz _ rfl) rfl (by omega) (by omega) (by omega) ?_))
    (refine be ?_);(refine⟨by kernel_rfl,?_,?_⟩);(focus(repeat(first|exact trivial|refine⟨.inl rfl,?_⟩|refine⟨.inr (by(repeat(refine⟨(by first|exact bq rfl|exact bi rfl rfl (.inr (.inr (.inr (.inr (.inl ⟨rfl,rfl⟩)))))|exact bk (F.un _ rfl) (F.sz _ rfl) rfl rfl rfl (by omega) (by omega) (by omega)|exact an rfl rfl (.inl ⟨rfl,(zx _ ⟨by omega,by omega⟩).symm⟩)|exact an rfl rfl (.inr (.inl ⟨rfl,(zx _ ⟨by omega,by omega⟩).symm⟩))|exact aq (F.fo _ _ rfl rfl) rfl|exact aY rfl|exact aH rfl|exact aw (F.ag _ rfl) rfl rfl (az rfl)|exact aC (F.ag _ rfl) rfl rfl (ak _ 0 rfl rfl)|exact aE rfl rfl|exact aP (F.un _ rfl) rfl|exact aI (F.un _ rfl) rfl|exact ax rfl|exact aQ rfl rfl|exact aR rfl rfl),?_⟩));exact trivial),?_⟩|refine⟨.inl (by kernel_rfl),?_⟩)))
    (repeat(first|refine ai ?_|refine ah ?_|refine aM ?_|refine am rfl rfl rfl ?_|refine aj rfl rfl rfl ?_|refine bT rfl rfl rfl rfl (by omega) (by omega) ?_))
    refine ih _ _ _ ((s,Sort.xorNext r),Sort.swp d1 (base+3-(s+1)) (a+o)) [1] ⟨by simp only;omega,by rw [aB];exact hd1,ho'⟩ (by simp only;omega) ?_
    rw [hxn]
    (refine⟨(ExtOk.of rfl),rfl,(by repeat(first|exact trivial|refine⟨rfl,?_⟩|refine⟨dS (by first|omega|(simp only;omega)),?_⟩)),(by repeat(first|exact trivial|refine⟨aW rfl,?_⟩|refine⟨eE rfl,?_⟩))⟩)
  ·obtain rfl:s=0:=by omega
   (repeat(first|refine ah ?_|refine bA rfl ?_|refine ay rfl ?_))
   ((apply lm Try.func61 (congrArg Array.toList Try.results61));(focus(repeat(exact ResIs.nil)));refine⟨_,rfl,Ends.mk [] (ExtOk.of rfl) rfl rfl ?_⟩)
   rw [← ho]
   exact(by repeat(first|exact trivial|refine⟨aW rfl,?_⟩))
 ·rw [if_neg (by omega)] at ebp
  (repeat(first|refine ah ?_|refine aN ?_|refine ay rfl ?_))
  ((apply lm Try.func61 (congrArg Array.toList Try.results61));(focus(repeat(exact ResIs.nil)));refine⟨_,rfl,Ends.mk [] (ExtOk.of rfl) rfl rfl ?_⟩)
  rw [ebp]
  exact(by repeat(first|exact trivial|refine⟨aW rfl,?_⟩))
abbrev qh:=Array (Nat)
theorem rz:Sort.SWO bB where
 irrefl:=fun a=>by simp [bB]
 trans:=fun a b c h h'=>by
  simp only [bB,decide_eq_true_eq] at h h' ⊢
  omega
 ntrans:=fun a b c h h'=>by
  simp only [bB,decide_eq_false_iff_not] at h h' ⊢
  omega
theorem rB{lt:Nat→Nat→Bool}{d:qh}{a b limit:Nat}{wb wp:Bool}(h:b-a≤12):Sort.pdq lt d a b limit wb wp=Sort.insertionSort lt d a b:=by rw [Sort.pdq,if_pos h]
theorem pq{lt:Nat→Nat→Bool}{d:qh}{a b limit:Nat}{wb wp:Bool}(h: ¬ b-a≤12)(h0:limit=0):Sort.pdq lt d a b limit wb wp=Sort.heapSort lt d a b:=by rw [Sort.pdq,if_neg h,if_pos h0]
def dM(lt:Nat→Nat→Bool)(d3:qh)(a b pivot limit:Nat)(wb wp:Bool):qh:=
 if a>0 && !lt d3[a-1]! d3[pivot]! then
  match Sort.partitionEqual lt d3 a b pivot with
  | (mid,d4)=>if _h:a<mid∧mid≤b then Sort.pdq lt d4 mid b limit wb wp else d4
 else
  match Sort.partition lt d3 a b pivot with
  | (mid,alreadyPartitioned,d4)=>
    if _h:a≤mid∧mid<b then
     if mid-a<b-mid then
      Sort.pdq lt (Sort.pdq lt d4 a mid limit true true) (mid+1) b limit (decide (mid-a≥(b-a) / 8)) alreadyPartitioned
     else
      Sort.pdq lt (Sort.pdq lt d4 (mid+1) b limit true true) a mid limit (decide (b-mid≥(b-a) / 8)) alreadyPartitioned
    else d4
theorem tw{lt:Nat→Nat→Bool}{d d1 d2:qh}{a b limit limit1 pivot:Nat}{wb wp:Bool}{c:Nat×Sort.Hint}{hint:Sort.Hint}{pi:qh×Bool}(h: ¬ b-a≤12)(h0: ¬ limit=0)
 (e1:d1=(if(!wb)=true then Sort.breakPatterns d a b else d)) (el:limit1=(if(!wb)=true then limit-1 else limit)) (ec:Sort.choosePivot lt d1 a b=c)
 (e2:d2=(if c.2 = .decreasing then Sort.reverseRange d1 a b else d1)) (ep:pivot=(if c.2 = .decreasing then(b-1)-(c.1-a) else c.1)) (eh:hint=(if c.2 = .decreasing then .increasing else c.2))
 (ei:(if(wb && wp && decide (hint = .increasing))=true then Sort.partialInsertionSort lt d2 a b else(d2,false))=pi) :
 Sort.pdq lt d a b limit wb wp=if pi.2=true then pi.1 else dM lt pi.1 a b pivot limit1 wb wp:=by
 subst e1 el ec e2 ep eh ei
 rw [Sort.pdq,if_neg h,if_neg h0]
 rfl
theorem rA{lt:Nat→Nat→Bool}{d3 d4:qh}{a b pivot limit mid:Nat}{wb wp:Bool}(h:(decide (a>0) && !lt d3[a-1]! d3[pivot]!)=true)(hx:Sort.partitionEqual lt d3 a b pivot=(mid,d4))(hm:a<mid∧mid≤b) :
 dM lt d3 a b pivot limit wb wp=Sort.pdq lt d4 mid b limit wb wp:=by
 unfold dM
 rw [if_pos h,hx]
 simp only [dif_pos hm]
theorem nF{lt:Nat→Nat→Bool}{d3 d4:qh}{a b pivot limit mid:Nat}{wb wp ap:Bool}(h: ¬ (decide (a>0) && !lt d3[a-1]! d3[pivot]!)=true)(hx:Sort.partition lt d3 a b pivot=(mid,ap,d4))(hm:a≤mid∧mid<b)(hl:mid-a<b-mid) :
 dM lt d3 a b pivot limit wb wp=Sort.pdq lt (Sort.pdq lt d4 a mid limit true true) (mid+1) b limit (decide (mid-a≥(b-a) / 8)) ap:=by
 unfold dM
 rw [if_neg h,hx]
 simp only [dif_pos hm,if_pos hl]
theorem mu{lt:Nat→Nat→Bool}{d3 d4:qh}{a b pivot limit mid:Nat}{wb wp ap:Bool}(h: ¬ (decide (a>0) && !lt d3[a-1]! d3[pivot]!)=true)(hx:Sort.partition lt d3 a b pivot=(mid,ap,d4))(hm:a≤mid∧mid<b)(hl: ¬ mid-a<b-mid) :
 dM lt d3 a b pivot limit wb wp=Sort.pdq lt (Sort.pdq lt d4 (mid+1) b limit true true) a mid limit (decide (b-mid≥(b-a) / 8)) ap:=by
 unfold dM
 rw [if_neg h,hx]
 simp only [dif_pos hm,if_neg hl]
theorem pp(n:Nat)(hn:n<65536): ∀ (k a b limit:Nat) (d:qh),b-a=k→a≤b→b≤n→d.size=n→limit<4611686018427387904→Sort.Below bB a b d →
 Ctr Try.prog 55 [.slu 0 0 n,.sc (.int .i64 (a:Int)),.sc (.int .i64 (b:Int)),.sc (.int .i64 (limit:Int))] [bY n d] (fun c=>c=⟨.tup [],[some (bY n (Sort.pdq bB d a b limit true true))]⟩):=by
 intro k
 induction k using Nat.strongRecOn with
 | _ k ihk=>
 intro a b limit d hk hab hb hd hl hB
 refine Fnc.start Try.func55 rfl rfl ?_
 (repeat(first|refine ao ?_|refine ai ?_|refine ah ?_|refine aT ?_|refine aj rfl rfl rfl ?_))
 refine ft 1 (fun s:((Nat×Nat)×Nat)×((Bool×Bool)×qh)=> [(0,.slu 0 0 n),(1,.sc (.int .i64 (s.1.1.1:Int))),(2,.sc (.int .i64 (s.1.1.2:Int))),(3,.sc (.int .i64 (s.1.2:Int))),(8,.sc (.bool s.2.1.1)),(9,.sc (.bool s.2.1.2))]) (fun s=> [some (bY n s.2.2)])
  (fun s=>s.1.1.1≤s.1.1.2∧s.1.1.2≤n∧s.1.1.2-s.1.1.1≤k∧s.2.2.size=n∧s.1.2<4611686018427387904∧Sort.Below bB s.1.1.1 s.1.1.2 s.2.2∧Sort.pdq bB s.2.2 s.1.1.1 s.1.1.2 s.1.2 s.2.1.1 s.2.1.2=Sort.pdq bB d a b limit true true) (fun s=>s.1.1.2-s.1.1.1) (((a,b),limit),((true,true),d)) []
  (fun _=>rfl) ⟨hab,hb,Nat.le_of_eq hk,hd,hl,hB,rfl⟩ ?_ (fun _=>rfl) (fun _=>rfl) ?_
 ·(refine⟨(ExtOk.of rfl),rfl,(by repeat(first|exact trivial|refine⟨rfl,?_⟩)),(by repeat(first|exact trivial|refine⟨aW rfl,?_⟩))⟩)
 rintro⟨⟨⟨a1,b1⟩,l1⟩,⟨⟨wb,wp⟩,d1⟩⟩ ⟨hab1,hb1,hk1,hd1,hl1,hB1,ho⟩ ih
 simp only at hab1 hb1 hk1 hd1 hl1 hB1 ho ih ⊢
 have eba:(b1:Int)-(a1:Int)=((b1-a1:Nat):Int):=by omega
 (repeat(first|refine ao ?_|refine ai ?_|refine ah ?_|refine aT ?_|refine am rfl rfl rfl ?_|refine aj rfl rfl rfl ?_|refine dB rfl rfl rfl rfl (by omega) (by omega) ?_))
 rw [eba]
 refine sq rfl rfl rfl rfl ?_ ?_
 all_goals intro h1
 ·rw [rB (by omega)] at ho
  (repeat(first|refine ao ?_|refine ai ?_|refine ah ?_|refine aD rfl ?_|refine am rfl rfl rfl ?_|refine cc rfl rfl rfl (by kernel_rfl) (Ctr.dp (oUins n a1 b1 d1 (by omega) hd1 hab1 hb1) [0] rfl (ExtOk.of rfl) rfl (by repeat(first|exact trivial|refine⟨aW rfl,?_⟩)) rfl (by repeat(first|exact trivial|refine⟨bL,?_⟩)) (fun _=>rfl) rfl rfl) ?_))
  ((apply bj Try.func55 (congrArg Array.toList Try.results55));(focus(repeat(exact ResIs.nil)));refine⟨_,rfl,Ends.mk [] (ExtOk.of rfl) rfl rfl ?_⟩)
  rw [← ho]
  exact(by repeat(first|exact trivial|refine⟨aW rfl,?_⟩))
 (repeat(first|refine ao ?_|refine ai ?_|refine ah ?_|refine aN ?_|refine ay rfl ?_|refine am rfl rfl rfl ?_))
 refine cF rfl rfl rfl rfl ?_ ?_
 all_goals intro h2
 ·rw [pq (by omega) (by omega)] at ho
  (repeat(first|refine ao ?_|refine ai ?_|refine ah ?_|refine aD rfl ?_|refine am rfl rfl rfl ?_|refine cc rfl rfl rfl (by kernel_rfl) (Ctr.dp (nN n a1 b1 d1 (by omega) hd1 hab1 hb1) [0] rfl (ExtOk.of rfl) rfl (by repeat(first|exact trivial|refine⟨aW rfl,?_⟩)) rfl (by repeat(first|exact trivial|refine⟨bL,?_⟩)) (fun _=>rfl) rfl rfl) ?_))
  ((apply bj Try.func55 (congrArg Array.toList Try.results55));(focus(repeat(exact ResIs.nil)));refine⟨_,rfl,Ends.mk [] (ExtOk.of rfl) rfl rfl ?_⟩)
  rw [← ho]
  exact(by repeat(first|exact trivial|refine⟨aW rfl,?_⟩))
 (repeat(first|refine ao ?_|refine ai ?_|refine ah ?_|refine aN ?_|refine ay rfl ?_|refine am rfl rfl rfl ?_|refine i7 rfl rfl rfl ?_))
 refine xe 1 (fun s:Nat×qh=> [(0,.slu 0 0 n),(1,.sc (.int .i64 (a1:Int))),(2,.sc (.int .i64 (b1:Int))),(3,.sc (.int .i64 (s.1:Int))),(8,.sc (.bool wb)),(9,.sc (.bool wp)),(10,.sc (.int .i64 ((b1-a1:Nat):Int)))]) (fun s=> [some (bY n s.2)])
  (fun s=>s.1=(if(!wb)=true then l1-1 else l1)∧s.2=(if(!wb)=true then Sort.breakPatterns d1 a1 b1 else d1)) (fun _=>rfl) rfl (fun _=>rfl) (fun _=>rfl) ?_ ?_ ?_
 ·intro hw out
  (repeat(first|(refine out _ _ _ (l1-1,Sort.breakPatterns d1 a1 b1) [] ⟨by rw [if_pos hw],by rw [if_pos hw]⟩ ?_;(refine⟨(ExtOk.of rfl),rfl,(by repeat(first|exact trivial|refine⟨rfl,?_⟩|refine⟨dS (by first|omega|(simp only;omega)),?_⟩)),(by repeat(first|exact trivial|refine⟨aW rfl,?_⟩))⟩))|refine ao ?_|refine ai ?_|refine ah ?_|refine am rfl rfl rfl ?_|refine aj rfl rfl rfl ?_|refine dB rfl rfl rfl rfl (by omega) (by omega) ?_|refine cc rfl rfl rfl (by kernel_rfl) (Ctr.dp (pu n a1 b1 d1 hn hd1 hab1 hb1) [0] rfl (ExtOk.of rfl) rfl (by repeat(first|exact trivial|refine⟨aW rfl,?_⟩)) rfl (by repeat(first|exact trivial|refine⟨bL,?_⟩)) (fun _=>rfl) rfl rfl) ?_))
 ·intro hw out
  (repeat(first|(refine out _ _ _ (l1,d1) [] ⟨by rw [hw];rfl,by rw [hw];rfl⟩ ?_;(refine⟨(ExtOk.of rfl),rfl,(by repeat(first|exact trivial|refine⟨rfl,?_⟩)),(by repeat(first|exact trivial|refine⟨aW rfl,?_⟩))⟩))|(refine aN ?_)))
 rintro⟨l2,d2⟩ ⟨el,ed⟩
 simp only at el ed ⊢
 have hl2:l2<4611686018427387904:=by rw [el];split <;> omega
 have hpd:Sort.PermIn a1 b1 d1 d2:=by
  rw [ed]
  split
  ·exact Sort.breakPatterns_holds d1 a1 b1 hab1 (by omega)
  ·exact Sort.permIn_refl d1 a1 b1
 have hd2:d2.size=n:=by rw [hpd.1];exact hd1
 have hB2:Sort.Below bB a1 b1 d2:=hB1.perm (by omega) hpd
 have hpv:=po n a1 b1 d2 (by omega) hd2 (by omega) hb1
 have hpr:=Sort.choosePivot_holds bB d2 a1 b1 (by omega)
 have hgo:=fun d3 pivot hint pi=>tw (lt:=bB) (d:=d1) (d1:=d2) (d2:=d3) (a:=a1) (b:=b1) (limit:=l1) (limit1:=l2) (pivot:=pivot) (wb:=wb) (wp:=wp) (c:=Sort.choosePivot bB d2 a1 b1) (hint:=hint) (pi:=pi) (by omega) (by omega) ed el rfl
 generalize Sort.choosePivot bB d2 a1 b1=c at hpv hpr hgo
 obtain⟨p,hint⟩:=c
 simp only at hpv hpr hgo
 (repeat(first|refine ao ?_|refine ai ?_|refine ah ?_|refine am rfl rfl rfl ?_|refine aj rfl rfl rfl ?_|refine bX rfl rfl rfl rfl ?_|refine cc rfl rfl rfl (by kernel_rfl) (Ctr.dp (hpv) [0] rfl (ExtOk.of rfl) rfl (by repeat(first|exact trivial|refine⟨aW rfl,?_⟩)) rfl (by repeat(first|exact trivial|refine⟨bL,?_⟩)) (fun _=>rfl) rfl rfl) ?_))
 refine u9 rfl rfl rfl rfl ?_
 rw [uj]
 (repeat(refine ah ?_))
 refine xe 1 (fun s:(Nat×Sort.Hint)×qh=> [(0,.slu 0 0 n),(1,.sc (.int .i64 (a1:Int))),(2,.sc (.int .i64 (b1:Int))),(3,.sc (.int .i64 (l2:Int))),(8,.sc (.bool wb)),(9,.sc (.bool wp)),(10,.sc (.int .i64 ((b1-a1:Nat):Int))),(11,.sc (.int .i64 (s.1.1:Int))),(12,.sc (.int .i64 (x7 s.1.2)))]) (fun s=> [some (bY n s.2)])
  (fun s=>s.2=(if hint = .decreasing then Sort.reverseRange d2 a1 b1 else d2)∧s.1.1=(if hint = .decreasing then(b1-1)-(p-a1) else p)∧s.1.2=(if hint = .decreasing then .increasing else hint)) (fun _=>rfl) rfl (fun _=>rfl) (fun _=>rfl) ?_ ?_ ?_
 ·intro hw out
  have hw:=of_decide_eq_true hw
  (repeat(first|(refine out _ _ _ (((b1-1)-(p-a1),.increasing),Sort.reverseRange d2 a1 b1) [] ⟨by rw [if_pos hw],by rw [if_pos hw],by rw [if_pos hw]⟩ ?_;(refine⟨(ExtOk.of rfl),rfl,(by repeat(first|exact trivial|refine⟨rfl,?_⟩|refine⟨dS (by first|omega|(simp only;omega)),?_⟩)),(by repeat(first|exact trivial|refine⟨aW rfl,?_⟩))⟩))|refine ao ?_|refine ai ?_|refine ah ?_|refine am rfl rfl rfl ?_|refine aj rfl rfl rfl ?_|refine dB rfl rfl rfl rfl (by omega) (by omega) ?_|refine cc rfl rfl rfl (by kernel_rfl) (Ctr.dp (pm n a1 b1 d2 (by omega) hd2 (by omega) hb1) [0] rfl (ExtOk.of rfl) rfl (by repeat(first|exact trivial|refine⟨aW rfl,?_⟩)) rfl (by repeat(first|exact trivial|refine⟨bL,?_⟩)) (fun _=>rfl) rfl rfl) ?_))
 ·intro hw out
  have hw:=of_decide_eq_false hw
  (repeat(first|(refine out _ _ _ ((p,hint),d2) [] ⟨by rw [if_neg hw],by rw [if_neg hw],by rw [if_neg hw]⟩ ?_;(refine⟨(ExtOk.of rfl),rfl,(by repeat(first|exact trivial|refine⟨rfl,?_⟩)),(by repeat(first|exact trivial|refine⟨aW rfl,?_⟩))⟩))|(refine aN ?_)))
 rintro⟨⟨pv,hint2⟩,d3⟩ ⟨ed3,epv,ehi⟩
 simp only at ed3 epv ehi ⊢
 have hpd3:Sort.PermIn a1 b1 d2 d3:=by
  rw [ed3]
  split
  ·exact Sort.reverseRange_holds d2 a1 b1 hab1 (by omega)
  ·exact Sort.permIn_refl d2 a1 b1
 have hd3:d3.size=n:=by rw [hpd3.1];exact hd2
 have hB3:Sort.Below bB a1 b1 d3:=hB2.perm (by omega) hpd3
 have hpv1:a1≤pv∧pv<b1:=by rw [epv];split <;> omega
 have hgo:=fun pi=>hgo d3 pv hint2 pi ed3 epv ehi
 (repeat refine ao ?_)
 refine sa 1 (fun _:Unit=> [(0,.slu 0 0 n),(1,.sc (.int .i64 (a1:Int))),(2,.sc (.int .i64 (b1:Int))),(3,.sc (.int .i64 (l2:Int))),(8,.sc (.bool wb)),(9,.sc (.bool wp)),(10,.sc (.int .i64 ((b1-a1:Nat):Int))),(11,.sc (.int .i64 (pv:Int))),(68,.sc (.bool (wb && wp && decide (hint2 = .increasing))))]) (fun _=> [some (bY n d3)])
  (fun _=>True) (fun _=>rfl) (fun _=>rfl) (fun _=>rfl) ?_ ?_
 ·intro out
  clear ih ihk ho hgo ehi ed el hpr hpv
  cases wb <;> cases wp <;> cases hint2 <;> (repeat(first|(refine out _ _ _ () [] trivial ?_;(refine⟨(ExtOk.of rfl),rfl,(by repeat(first|exact trivial|refine⟨rfl,?_⟩)),(by repeat(first|exact trivial|refine⟨aW rfl,?_⟩))⟩))|refine ai ?_|refine ah ?_|refine am rfl rfl rfl ?_|refine ce rfl rfl rfl rfl ?_|refine bO rfl rfl rfl rfl ?_|refine ix rfl ?_|(refine u9 rfl rfl rfl rfl ?_)))
 rintro _ -
 (repeat refine ao ?_)
 refine xe 1 (fun d':qh=> [(0,.slu 0 0 n),(1,.sc (.int .i64 (a1:Int))),(2,.sc (.int .i64 (b1:Int))),(3,.sc (.int .i64 (l2:Int))),(8,.sc (.bool wb)),(9,.sc (.bool wp)),(10,.sc (.int .i64 ((b1-a1:Nat):Int))),(11,.sc (.int .i64 (pv:Int)))]) (fun d'=> [some (bY n d')])
  (fun d'=>d'.size=n∧Sort.Below bB a1 b1 d'∧Sort.pdq bB d1 a1 b1 l1 wb wp=dM bB d' a1 b1 pv l2 wb wp) (fun _=>rfl) rfl (fun _=>rfl) (fun _=>rfl) ?_ ?_ ?_
 ·intro hw out
  have hps:=nK n a1 b1 d3 (by omega) hd3 (by omega) hb1
  have hpp:=(Sort.partialInsertionSort_holds rz d3 a1 b1 (by omega) (by omega) hB3).1
  have hgo:=hgo _ (by rw [if_pos hw])
  generalize Sort.partialInsertionSort bB d3 a1 b1=pi at hps hpp hgo
  obtain⟨d4,done⟩:=pi
  simp only at hps hpp hgo
  cases done
  ·rw [if_neg (by decide)] at hgo
   (repeat(first|(refine out _ _ _ d4 [] ⟨by rw [hpp.1];exact hd3,hB3.perm (by omega) hpp,hgo⟩ ?_;(refine⟨(ExtOk.of rfl),rfl,(by repeat(first|exact trivial|refine⟨rfl,?_⟩)),(by repeat(first|exact trivial|refine⟨aW rfl,?_⟩))⟩))|refine ao ?_|refine ai ?_|refine ah ?_|refine aN ?_|refine ay rfl ?_|refine am rfl rfl rfl ?_|refine cc rfl rfl rfl (by kernel_rfl) (Ctr.dp (hps) [0] rfl (ExtOk.of rfl) rfl (by repeat(first|exact trivial|refine⟨aW rfl,?_⟩)) rfl (by repeat(first|exact trivial|refine⟨bL,?_⟩)) (fun _=>rfl) rfl rfl) ?_))
  ·rw [if_pos rfl] at hgo
   (repeat(first|refine ao ?_|refine ai ?_|refine ah ?_|refine aD rfl ?_|refine am rfl rfl rfl ?_|refine cc rfl rfl rfl (by kernel_rfl) (Ctr.dp (hps) [0] rfl (ExtOk.of rfl) rfl (by repeat(first|exact trivial|refine⟨aW rfl,?_⟩)) rfl (by repeat(first|exact trivial|refine⟨bL,?_⟩)) (fun _=>rfl) rfl rfl) ?_))
   ((apply bj Try.func55 (congrArg Array.toList Try.results55));(focus(repeat(exact ResIs.nil)));refine⟨_,rfl,Ends.mk [] (ExtOk.of rfl) rfl rfl ?_⟩)
   rw [← ho,hgo]
   exact(by repeat(first|exact trivial|refine⟨aW rfl,?_⟩))
 ·intro hw out
  have hgo:=hgo (d3,false) (by rw [hw];rfl)
  (repeat(first|(refine out _ _ _ d3 [] ⟨hd3,hB3,by rw [hgo];rfl⟩ ?_;(refine⟨(ExtOk.of rfl),rfl,(by repeat(first|exact trivial|refine⟨rfl,?_⟩)),(by repeat(first|exact trivial|refine⟨aW rfl,?_⟩))⟩))|(refine aN ?_)))
 rintro d4 ⟨hd4,hB4,hT⟩
 rw [hT] at ho
 clear hgo hT hB3 hd3 hpd3 hB2 hd2 hpd ed ed3 ehi epv el hpv
 have arm: ∀ t:Bool,(decide (a1>0) && !bB d4[a1-1]! d4[pv]!)=t→(decide (a1>0) && !bB d4[a1-1]! d4[pv]!)=t:=fun _ h=>h
 (repeat(refine ao ?_))
 refine sa 1 (fun _:Unit=> [(0,.slu 0 0 n),(1,.sc (.int .i64 (a1:Int))),(2,.sc (.int .i64 (b1:Int))),(3,.sc (.int .i64 (l2:Int))),(8,.sc (.bool wb)),(9,.sc (.bool wp)),(10,.sc (.int .i64 ((b1-a1:Nat):Int))),(11,.sc (.int .i64 (pv:Int))),(87,.sc (.bool (decide (a1>0) && !bB d4[a1-1]! d4[pv]!)))]) (fun _=> [some (bY n d4)])
  (fun _=>True) (fun _=>rfl) (fun _=>rfl) (fun _=>rfl) ?_ ?_
 ·intro out
  refine bP (by kernel_rfl) (by kernel_rfl) ?_
  (repeat(refine aX rfl rfl rfl ?_))
  refine mK rfl rfl rfl rfl ?_ ?_
  all_goals intro h5
  ·have hls_h6:=eW (d4[a1-1]!) (d4[pv]!)
   cases h6:bB (d4[a1-1]!) (d4[pv]!)
   all_goals rw [h6] at hls_h6
   rotate_left
   all_goals(repeat(first|refine aX rfl rfl rfl ?_|refine dH rfl rfl rfl rfl ?_|refine f8 rfl rfl rfl rfl (by omega) (by omega) ?_|refine eu rfl rfl rfl ?_|(refine cv (g:=fun x:Nat=> .int .u64 x) rfl rfl rfl (F.ag _ rfl) rfl (by first|omega|(simp only [zy,aB];omega)) (by first|omega|(simp only [zy,aB];omega)) ?_)|refine bb (q:=a1-1) rfl rfl rfl rfl (F.un _ rfl) (F.sz _ rfl) rfl (by omega) (by omega) (by omega) ?_|refine bb (q:=pv) rfl rfl rfl rfl (F.un _ rfl) (F.sz _ rfl) rfl (by omega) (by omega) (by omega) ?_|refine b5 rfl rfl rfl (by kernel_rfl) (Ctr.callV (hls_h6) [] rfl (ExtOk.of rfl) rfl trivial rfl) ?_))
   ·skip
    (refine be ?_);(refine⟨by kernel_rfl,?_,?_⟩);(focus(repeat(first|exact trivial|refine⟨.inl rfl,?_⟩|refine⟨.inr (by(repeat(refine⟨(by first|exact bq rfl|exact bi rfl rfl (.inr (.inr (.inr (.inr (.inl ⟨rfl,rfl⟩)))))|exact bk (F.un _ rfl) (F.sz _ rfl) rfl rfl rfl (by omega) (by omega) (by omega)|exact an rfl rfl (.inl ⟨rfl,(zx _ ⟨by omega,by omega⟩).symm⟩)|exact an rfl rfl (.inr (.inl ⟨rfl,(zx _ ⟨by omega,by omega⟩).symm⟩))|exact aq (F.fo _ _ rfl rfl) rfl|exact aY rfl|exact aH rfl|exact aw (F.ag _ rfl) rfl rfl (az rfl)|exact aC (F.ag _ rfl) rfl rfl (ak _ 0 rfl rfl)|exact aE rfl rfl|exact aP (F.un _ rfl) rfl|exact aI (F.un _ rfl) rfl|exact ax rfl|exact aQ rfl rfl|exact aR rfl rfl),?_⟩));exact trivial),?_⟩|refine⟨.inl (by kernel_rfl),?_⟩)))
    have e5:(decide (a1>0) && !bB d4[a1-1]! d4[pv]!)=false:=by simp [h6]
    rw [e5] at out
    (repeat(refine out _ _ _ () [] trivial ?_;(refine⟨(ExtOk.of rfl),rfl,(by repeat(first|exact trivial|refine⟨rfl,?_⟩)),(by repeat(first|exact trivial|refine⟨aW rfl,?_⟩))⟩)))
   ·skip
    (refine be ?_);(refine⟨by kernel_rfl,?_,?_⟩);(focus(repeat(first|exact trivial|refine⟨.inl rfl,?_⟩|refine⟨.inr (by(repeat(refine⟨(by first|exact bq rfl|exact bi rfl rfl (.inr (.inr (.inr (.inr (.inl ⟨rfl,rfl⟩)))))|exact bk (F.un _ rfl) (F.sz _ rfl) rfl rfl rfl (by omega) (by omega) (by omega)|exact an rfl rfl (.inl ⟨rfl,(zx _ ⟨by omega,by omega⟩).symm⟩)|exact an rfl rfl (.inr (.inl ⟨rfl,(zx _ ⟨by omega,by omega⟩).symm⟩))|exact aq (F.fo _ _ rfl rfl) rfl|exact aY rfl|exact aH rfl|exact aw (F.ag _ rfl) rfl rfl (az rfl)|exact aC (F.ag _ rfl) rfl rfl (ak _ 0 rfl rfl)|exact aE rfl rfl|exact aP (F.un _ rfl) rfl|exact aI (F.un _ rfl) rfl|exact ax rfl|exact aQ rfl rfl|exact aR rfl rfl),?_⟩));exact trivial),?_⟩|refine⟨.inl (by kernel_rfl),?_⟩)))
    have e5:(decide (a1>0) && !bB d4[a1-1]! d4[pv]!)=true:=by
     have:0<a1:=by omega
     simp [this,h6]
    rw [e5] at out
    (repeat(refine out _ _ _ () [] trivial ?_;(refine⟨(ExtOk.of rfl),rfl,(by repeat(first|exact trivial|refine⟨rfl,?_⟩)),(by repeat(first|exact trivial|refine⟨aW rfl,?_⟩))⟩)))
  ·(repeat(first|refine aX rfl rfl rfl ?_|refine cW rfl rfl rfl rfl ?_|refine e8 rfl rfl ?_))
   (refine be ?_);(refine⟨by kernel_rfl,?_,?_⟩);(focus(repeat(first|exact trivial|refine⟨.inl rfl,?_⟩)))
   have e5:(decide (a1>0) && !bB d4[a1-1]! d4[pv]!)=false:=by
    have: ¬ 0<a1:=by omega
    simp [this]
   rw [e5] at out
   (repeat(refine out _ _ _ () [] trivial ?_;(refine⟨(ExtOk.of rfl),rfl,(by repeat(first|exact trivial|refine⟨rfl,?_⟩)),(by repeat(first|exact trivial|refine⟨aW rfl,?_⟩))⟩)))
 rintro _ -
 cases h7:(decide (a1>0) && !bB d4[a1-1]! d4[pv]!)
 ·have hps:=nM n a1 b1 pv d4 (by omega) hd4 hpv1.1 hpv1.2 hb1
  obtain⟨mid,ap,d5,hx⟩: ∃ mid ap,∃ d5,Sort.partition bB d4 a1 b1 pv=(mid,ap,d5):=⟨_,_,_,rfl⟩
  obtain⟨g1,g2,g3,g4,g5,g6,g7⟩:=Sort.round_part rz (Sort.partition_holds bB) hpv1.1 hpv1.2 (by omega) hB4 hx
  rw [hx] at hps
  simp only at hps
  have hd5:d5.size=n:=by rw [g3];exact hd4
  (repeat(first|refine ao ?_|refine ai ?_|refine ah ?_|refine aN ?_|refine ay rfl ?_|refine am rfl rfl rfl ?_|refine aj rfl rfl rfl ?_|refine bX rfl rfl rfl rfl ?_|refine dB rfl rfl rfl rfl (by omega) (by omega) ?_|refine sk rfl rfl rfl rfl (by omega) (by omega) (by omega) ?_|refine cc rfl rfl rfl (by kernel_rfl) (Ctr.dp (hps) [0] rfl (ExtOk.of rfl) rfl (by repeat(first|exact trivial|refine⟨aW rfl,?_⟩)) rfl (by repeat(first|exact trivial|refine⟨bL,?_⟩)) (fun _=>rfl) rfl rfl) ?_))
  refine cu rfl rfl rfl rfl ?_ ?_
  all_goals intro h8
  ·rw [nF (by rw [h7];decide) hx ⟨g1,g2⟩ (by omega)] at ho
   have hrec:=ihk (mid-a1) (by omega) a1 mid l2 d5 rfl g1 (by omega) hd5 hl2 g4
   have hL:=Sort.pdq_sorts bB rz d5 a1 mid l2 true true g1 (by omega) g4
   have hB6:=(g6 _ hL.1 hL.2).1
   have hd6:(Sort.pdq bB d5 a1 mid l2 true true).size=n:=by rw [hL.1.1];exact hd5
   generalize Sort.pdq bB d5 a1 mid l2 true true=d6 at hrec hB6 hd6 ho
   clear hL g6 g7 hps hpr
   (repeat(first|refine ao ?_|refine ai ?_|refine ah ?_|refine aM ?_|refine aD rfl ?_|refine am rfl rfl rfl ?_|refine aj rfl rfl rfl ?_|refine bT rfl rfl rfl rfl (by omega) (by omega) ?_|refine cc rfl rfl rfl (by kernel_rfl) (Ctr.dp (hrec) [0] rfl (ExtOk.of rfl) rfl (by repeat(first|exact trivial|refine⟨aW rfl,?_⟩)) rfl (by repeat(first|exact trivial|refine⟨bL,?_⟩)) (fun _=>rfl) rfl rfl) ?_|(refine xj rfl rfl rfl rfl ?_)))
   refine ih _ _ _ (((mid+1,b1),l2),((decide (mid-a1≥(b1-a1) / 8),ap),d6)) [] ⟨by simp only;omega,hb1,by simp only;omega,hd6,hl2,hB6,ho⟩ (by simp only;omega) ?_
   have eb:decide ((mid:Int)-(a1:Int)≥((b1-a1:Nat):Int) / 8)=decide (mid-a1≥(b1-a1) / 8):=by
    rw [Bool.eq_iff_iff,decide_eq_true_eq,decide_eq_true_eq]
    omega
   rw [← eb]
   (refine⟨(ExtOk.of rfl),rfl,(by repeat(first|exact trivial|refine⟨rfl,?_⟩)),(by repeat(first|exact trivial|refine⟨aW rfl,?_⟩))⟩)
  ·rw [mu (by rw [h7];decide) hx ⟨g1,g2⟩ (by omega)] at ho
   have hrec:=ihk (b1-(mid+1)) (by omega) (mid+1) b1 l2 d5 rfl (by omega) hb1 hd5 hl2 g5
   have hL:=Sort.pdq_sorts bB rz d5 (mid+1) b1 l2 true true (by omega) (by omega) g5
   have hB6:=(g7 _ hL.1 hL.2).1
   have hd6:(Sort.pdq bB d5 (mid+1) b1 l2 true true).size=n:=by rw [hL.1.1];exact hd5
   generalize Sort.pdq bB d5 (mid+1) b1 l2 true true=d6 at hrec hB6 hd6 ho
   clear hL g6 g7 hps hpr
   have emid:((mid:Int)+1)=((mid+1:Nat):Int):=by omega
   (repeat(first|refine ao ?_|refine ai ?_|refine ah ?_|refine ay rfl ?_|refine am rfl rfl rfl ?_|refine aj rfl rfl rfl ?_|refine bT rfl rfl rfl rfl (by omega) (by omega) ?_|(refine xj rfl rfl rfl rfl ?_)))
   rw [emid]
   (repeat(first|refine ai ?_|refine ah ?_|refine aM ?_|refine am rfl rfl rfl ?_|refine aj rfl rfl rfl ?_|refine cc rfl rfl rfl (by kernel_rfl) (Ctr.dp (hrec) [0] rfl (ExtOk.of rfl) rfl (by repeat(first|exact trivial|refine⟨aW rfl,?_⟩)) rfl (by repeat(first|exact trivial|refine⟨bL,?_⟩)) (fun _=>rfl) rfl rfl) ?_))
   refine ih _ _ _ (((a1,mid),l2),((decide (b1-mid≥(b1-a1) / 8),ap),d6)) [] ⟨g1,by simp only;omega,by simp only;omega,hd6,hl2,hB6,ho⟩ (by simp only;omega) ?_
   have eb:decide ((b1:Int)-(mid:Int)≥((b1-a1:Nat):Int) / 8)=decide (b1-mid≥(b1-a1) / 8):=by
    rw [Bool.eq_iff_iff,decide_eq_true_eq,decide_eq_true_eq]
    omega
   rw [← eb]
   (refine⟨(ExtOk.of rfl),rfl,(by repeat(first|exact trivial|refine⟨rfl,?_⟩)),(by repeat(first|exact trivial|refine⟨aW rfl,?_⟩))⟩)
 ·have h7':=h7
  rw [zO,decide_eq_true_eq,Bool.not_eq_true'] at h7'
  have hps:=lB n a1 b1 pv d4 (by omega) hd4 hpv1.1 hpv1.2 hb1
  obtain⟨mid,d5,hx⟩: ∃ mid,∃ d5,Sort.partitionEqual bB d4 a1 b1 pv=(mid,d5):=⟨_,_,rfl⟩
  obtain⟨g1,g2,g3,g4,_⟩:=Sort.round_eq rz (Sort.partitionEqual_holds bB) h7'.1 hpv1.1 hpv1.2 (by omega) hB4 h7'.2 hx
  rw [hx] at hps
  simp only at hps
  rw [rA h7 hx ⟨g1,g2⟩] at ho
  (repeat(first|refine ao ?_|refine ai ?_|refine ah ?_|refine bA rfl ?_|refine aD rfl ?_|refine am rfl rfl rfl ?_|refine aj rfl rfl rfl ?_|refine cc rfl rfl rfl (by kernel_rfl) (Ctr.dp (hps) [0] rfl (ExtOk.of rfl) rfl (by repeat(first|exact trivial|refine⟨aW rfl,?_⟩)) rfl (by repeat(first|exact trivial|refine⟨bL,?_⟩)) (fun _=>rfl) rfl rfl) ?_))
  refine ih _ _ _ (((mid,b1),l2),((wb,wp),d5)) [] ⟨g2,hb1,by simp only;omega,by rw [g3];exact hd4,hl2,g4,ho⟩ (by simp only;omega) ?_
  (refine⟨(ExtOk.of rfl),rfl,(by repeat(first|exact trivial|refine⟨rfl,?_⟩)),(by repeat(first|exact trivial|refine⟨aW rfl,?_⟩))⟩)
end Go.Proofs.Ytckajlllkmkniaa
end
section
namespace Go.Proofs.Ytckajlllkmkniaa
theorem kJ{A:Type}: ∀ (l m:List A),l.Nodup→(∀ x∈l,x∈m)→l.length≤m.length
 | [],m,_,_=>zQ _
 | x :: l,m,hn,hs=>by
   obtain⟨a,b,rfl⟩:=List.append_of_mem (hs x (by simp))
   rw [List.nodup_cons] at hn
   have:=kJ l (a ++ b) hn.2 fun y hy=>by
    have:=hs y (List.mem_cons_of_mem _ hy)
    rcases List.mem_append.1 this with h|h
    ·exact List.mem_append_left _ h
    ·rcases List.mem_cons.1 h with rfl|h
     ·exact absurd hy hn.1
     ·exact List.mem_append_right _ h
   simp only [zS,zT] at this ⊢
   omega
end Go.Proofs.Ytckajlllkmkniaa
end
section
namespace Go.Proofs.Ytckajlllkmkniaa
open Go Go.Sy Go.Sl Go.RowKit
abbrev uD:Nat→List Value:=fun x:Nat=> [.int .u64 x]
theorem uB:RecOf uD 1:=pZ (fun _=>rfl)
abbrev oG(ro:Bool)(l:List Nat):VO:=dat ro l.length 1 23 (l.flatMap uD)
theorem rM{V:Type}(val:V→SV)(m:List (Nat×V×Nat))(c:Nat){H:aV}{nx b:Nat}:Fnc Try.prog 39 [.mp b] H nx
 (fun r=>r=(.fn (.func 50) [] [.ptr nx 0],H.set nx (aG 65 [.mp b]),nx+1)):=by
 refine Fnc.start Try.func39 rfl rfl ?_
 (repeat(first|refine ao ?_|refine ai ?_|refine ah ?_|refine aj rfl rfl rfl ?_|refine jA rfl rfl rfl rfl ?_|refine vg rfl rfl rfl rfl ?_))
 apply bj Try.func39 (congrArg Array.toList Try.results39)
 ·(repeat(first|exact ResIs.nil|apply ResIs.tmp rfl))
 rfl
theorem collU{V:Type}(val:V→SV)(m:List (Nat×V×Nat))(c:Nat)(hok:KOk m c)(hl:m.length<1000000){H:aV}{nx bx b:Nat}(hbx:H.at' bx=some (aG 65 [.mp b]))(hb:H.at' b=some (iN (fun x:Nat=> .int .u64 x) val m c))(g1:bx<nx)(g2:b<nx) :
 Fnc Try.prog 48 [.fn (.func 50) [] [.ptr bx 0]] H nx
  (fun r=> ∃ (done:List (Nat×V×Nat)) (nm:Nat),done.Perm m∧r.1 = .slu nm 0 (done.map (·.1)).length∧nx≤nm∧nm<r.2.2∧r.2.1.at' nm=some (oG false (done.map (·.1)))∧ ∀ n,n<nx→r.2.1.at' n=H.at' n):=by
 refine Fnc.start Try.func48 rfl rfl ?_
 (repeat(first|refine ao ?_|refine ai ?_|refine ah ?_|refine am rfl rfl rfl ?_|refine aj rfl rfl rfl ?_))
 refine bn rfl rfl rfl (by kernel_rfl) ?_
 refine Fnc.start Try.func54 rfl rfl ?_
 refine co (d:=0) 1 23 rfl rfl ?_
 (repeat(first|refine ao ?_|refine ai ?_|refine ah ?_|refine aT ?_|refine am rfl rfl rfl ?_|refine aj rfl rfl rfl ?_|refine vg rfl rfl rfl rfl ?_))
 refine kp [(2,.ptr (nx+1) 0)] rfl rfl (by kernel_rfl) (SlIn.sub ⟨rfl,trivial⟩) ?_
 intro cA cB hcA hcB
 refine Fnc.start Try.func50 rfl rfl ?_
 (repeat(first|refine ao ?_|refine ai ?_|refine ah ?_|refine aT ?_|refine aL rfl rfl rfl (F.ag _ rfl) (by(repeat(refine(Tr.aa _ _ (by omega)).trans ?_));first|exact Tr.ae _ _ _|assumption) (by exact rfl) ?_|(refine oU (b:=b) (m:=m) (c:=c) (enc:=fun x:Nat=> .int .u64 x) (val:=val) rfl rfl rfl (F.un _ rfl) (by(repeat(refine(Tr.aa _ _ (by omega)).trans ?_));first|exact Tr.ae _ _ _|assumption) ?_)))
 refine ch (α:=List (Nat×V×Nat)) (fun _=> [(0,.yld (nx+1+1+1)),(1,.ptr bx 0),(5,.ptr (nx+1+1+1+1) 0)]) (fun done H1 nx1=>(done.Nodup∧ ∀ x∈done,x∈m)∧nx+1+1+1+1+1≤nx1∧(∀ n,n<nx→H1.at' n=H.at' n)∧H1.at' (nx+1+1)=some (.dfd (some []))∧H1.at' (nx+1+1+1)=some (.loop .ready none 54 13 (slT [(2,.ptr (nx+1) 0)]) #[7] cA cB (nx+1+1))
  ∧ H1.at' (nx+1+1+1+1)=some (itV b c done)∧ ∃ r,r<nx1∧(r=nx∨nx+1+1+1+1+1≤r)∧H1.at' (nx+1)=some (aG 28 [.slu r 0 (done.map (·.1)).length])∧H1.at' r=some (oG false (done.map (·.1)))) (fun done=>m.length-done.length) []
  ⟨⟨List.nodup_nil,fun _ h=>by cases h⟩,zP _,fun n hn=>by(focus((repeat(refine(Tr.aa _ _ (by omega)).trans ?_));exact rfl)),by(focus((repeat(refine(Tr.aa _ _ (by omega)).trans ?_));first|exact Tr.ae _ _ _|assumption)),by(focus((repeat(refine(Tr.aa _ _ (by omega)).trans ?_));first|exact Tr.ae _ _ _|assumption)),by(focus(skip;first|exact Tr.ae _ _ _|assumption)),nx,by omega,.inl rfl,by(focus((repeat(refine(Tr.aa _ _ (by omega)).trans ?_));first|exact Tr.ae _ _ _|assumption)),by(focus((repeat(refine(Tr.aa _ _ (by omega)).trans ?_));first|exact Tr.ae _ _ _|assumption))⟩ (SlIn.sub ⟨rfl,rfl,rfl,trivial⟩) ?_
 rintro done H1 nx1 ⟨hdn,hnx,hold,h4,h5,h6,r,hr,hr2,h3,hrow⟩ ih
 have hlen:=kJ done m hdn.1 hdn.2
 have hb1:H1.at' b=some (iN (fun x:Nat=> .int .u64 x) val m c):=(hold b g2).trans hb
 have hbx1:H1.at' bx=some (aG 65 [.mp b]):=(hold bx g1).trans hbx
 (repeat(first|refine ao ?_|refine ai ?_))
 refine sn (b:=b) (m:=m) (c:=c) (enc:=fun x:Nat=> .int .u64 x) (val:=val) (done:=done) rfl rfl rfl ?_ ?_ hok hdn ?_ ?_
 ·(focus(skip;first|exact Tr.ae _ _ _|assumption))
 ·(focus(skip;first|exact Tr.ae _ _ _|assumption))
 ·intro hp
  (repeat(first|refine ao ?_|refine ah ?_|refine bA rfl ?_|refine ay rfl ?_|refine jB rfl rfl rfl rfl ?_))
  apply lm Try.func50 (congrArg Array.toList Try.results50) ResIs.nil
  dsimp only
  refine jz h5 (fun h=>by cases h) ?_
  (repeat(first|refine ao ?_|refine ai ?_|refine ah ?_|refine aM ?_|refine aj rfl rfl rfl ?_|refine aL rfl rfl rfl (F.ag _ rfl) (by(repeat(refine(Tr.aa _ _ (by omega)).trans ?_));first|exact Tr.ae _ _ _|assumption) (by exact rfl) ?_))
  refine r9 Try.func54 (congrArg Array.toList Try.results54) (rs:= [nx+1+1]) rfl (fun r hr=>by rw [List.mem_singleton] at hr;subst hr;(focus((repeat(refine(Tr.aa _ _ (by omega)).trans ?_));first|exact Tr.ae _ _ _|assumption))) (by simp) ?_
  intro H2 hH2
  refine⟨_,(by(repeat(first|exact ResIs.nil|apply ResIs.tmp rfl))),?_⟩
  dsimp only
  (repeat(first|refine ah ?_|refine aj rfl rfl rfl ?_))
  apply bj Try.func48 (congrArg Array.toList Try.results48)
  ·(repeat(first|exact ResIs.nil|apply ResIs.tmp rfl))
  refine⟨done,r,hp,rfl,by omega,hr,?_,fun n hn=>?_⟩
  ·exact(hH2 r (by simp;omega)).trans (by(repeat(refine(Tr.aa _ _ (by omega)).trans ?_));first|exact Tr.ae _ _ _|assumption)
  ·refine(hH2 n (by simp;omega)).trans ((Tr.aa _ _ (by omega)).trans (hold n hn))
 ·intro x hx hxn hdn2
  have hlm:(done.map (·.1)).length=done.length:=List.length_map ..
  have hlen2:=kJ _ m hdn2.1 hdn2.2
  rw [zT,List.length_singleton] at hlen2
  (repeat(first|refine ao ?_|refine ai ?_|refine ah ?_|refine aT ?_|refine aN ?_|refine aD rfl ?_|refine am rfl rfl rfl ?_|refine aj rfl rfl rfl ?_|refine bX rfl rfl rfl rfl ?_|(refine oW (b:=b) (m:=m) (c:=c) (enc:=fun x:Nat=> .int .u64 x) (val:=val) (x:=x) (done:=done) rfl rfl rfl ?_ ?_ hok hx ?_;(focus(skip;first|exact Tr.ae _ _ _|assumption));(focus((repeat(refine(Tr.aa _ _ (by omega)).trans ?_));first|exact Tr.ae _ _ _|assumption)))))
  refine sj (n:=nx+1+1+1) rfl rfl rfl rfl (by(repeat(refine(Tr.aa _ _ (by omega)).trans ?_));first|exact Tr.ae _ _ _|assumption) (by exact rfl) ?_
  refine pR hcA ?_
  (repeat(first|refine ai ?_|refine ah ?_|refine aj rfl rfl rfl ?_))
  refine sd (by(repeat(refine(Tr.aa _ _ (by omega)).trans ?_));first|exact Tr.ae _ _ _|assumption) ?_
  refine pR hcB ?_
  (repeat(first|refine ai ?_|refine aT ?_|refine am rfl rfl rfl ?_|refine aL rfl rfl rfl (F.ag _ rfl) (by(repeat(refine(Tr.aa _ _ (by omega)).trans ?_));first|exact Tr.ae _ _ _|assumption) (by exact rfl) ?_|refine cb rfl rfl (F.un _ rfl) (F.sz _ rfl) rfl (F.ze _ rfl) rfl rfl rfl rfl rfl ?_))
  refine gu (b:=8) (xs:=done.map (·.1)) (a:=x.1) rfl rfl rfl rfl (F.un _ rfl) (.inl ⟨_,F.un _ rfl⟩) (F.sz _ rfl) rfl (by kernel_rfl) (by kernel_rfl) (by(repeat(refine(Tr.aa _ _ (by omega)).trans ?_));first|exact Tr.ae _ _ _|assumption) (by first|exact Tr.ae _ _ _|assumption) (by exact rfl) (uB) (by omega) (by omega) ?_
  (repeat(first|refine ah ?_|refine aM ?_|refine cI rfl rfl rfl rfl (F.sz _ rfl) (by first|exact rfl|(focus((repeat(first|refine(Tr.aa _ _ (by omega)).trans ?_|refine(Tr.aF _ (by omega)).trans ?_));first|exact Tr.ae _ _ _|assumption))) rfl (by exact zB rfl) rfl ?_))
  refine lE (by(repeat(first|refine(Tr.aa _ _ (by omega)).trans ?_|refine(Tr.aF _ (by omega)).trans ?_));first|exact Tr.ae _ _ _|assumption) ?_
  dsimp only
  (repeat(first|refine ah ?_|refine aM ?_|refine aN ?_|refine ay rfl ?_|refine i7 rfl rfl rfl ?_))
  have e:done.map (·.1) ++ [x.1]=(done ++ [x]).map (·.1):=by simp
  refine ih _ _ _ (done ++ [x]) ⟨hdn2,by omega,fun n hn=>?_,by(focus((repeat(first|refine(Tr.aa _ _ (by omega)).trans ?_|refine(Tr.aF _ (by omega)).trans ?_));first|exact Tr.ae _ _ _|assumption)),by(focus(skip;first|exact Tr.ae _ _ _|assumption)),by(focus((repeat(first|refine(Tr.aa _ _ (by omega)).trans ?_|refine(Tr.aF _ (by omega)).trans ?_));first|exact Tr.ae _ _ _|assumption)),nx1+1,by omega,.inr (by omega),?_,?_⟩ (by simp only [zT,List.length_singleton];omega) (SlIn.sub ⟨rfl,rfl,rfl,trivial⟩)
  ·(focus((repeat(first|refine(Tr.aa _ _ (by omega)).trans ?_|refine(Tr.aF _ (by omega)).trans ?_));exact hold n hn))
  ·rw [← e]
   (focus((repeat(refine(Tr.aa _ _ (by omega)).trans ?_));first|exact Tr.ae _ _ _|assumption))
  ·rw [← e]
   (focus((repeat(refine(Tr.aa _ _ (by omega)).trans ?_));first|exact Tr.ae _ _ _|assumption))
def iy(l:List Nat):List Nat:=(Sort.sort bB l.toArray).toList
theorem fw(l:List Nat):(iy l).Perm l∧(iy l).Pairwise (fun x y=>x≤y):=by
 obtain⟨⟨h1,h2,h3⟩,h4⟩:=Sort.sort_sorts bB rz l.toArray
 have hsz:(Sort.sort bB l.toArray).size=l.length:=by simpa using h1
 constructor
 ·have e1:((Sort.sort bB l.toArray).extract 0 l.toArray.size)=Sort.sort bB l.toArray:=by
   rw [show l.toArray.size=(Sort.sort bB l.toArray).size by simpa using h1.symm]
   exact Array.extract_size
  have e2:(l.toArray.extract 0 l.toArray.size)=l.toArray:=Array.extract_size
  rw [e1,e2] at h3
  exact h3
 ·rw [List.pairwise_iff_getElem]
  intro i j hi hj hij
  have hi':i<(Sort.sort bB l.toArray).size:=hi
  have hj':j<(Sort.sort bB l.toArray).size:=hj
  have:=h4 i j (zQ _) hij (by simp;omega)
  rw [getElem!_pos _ i hi',getElem!_pos _ j hj'] at this
  simp only [iy,Array.getElem_toList]
  simp only [bB,decide_eq_false_iff_not] at this
  omega
theorem rg{l l':List Nat}(h:l.Perm l'):iy l=iy l':=by
 obtain⟨a1,a2⟩:=fw l
 obtain⟨b1,b2⟩:=fw l'
 exact List.Perm.eq_of_pairwise (le:=fun x y=>x≤y) (fun a b _ _ h1 h2=>Nat.le_antisymm h1 h2) a2 b2 (a1.trans (h.trans b1.symm))
theorem gE(l:List Nat):(iy l).length=l.length:=(fw l).1.length_eq
theorem yM(n:Nat)(d:Array Nat)(hn:n<65536)(hd:d.size=n) :
 Ctr Try.prog 49 [.slu 0 0 n] [bY n d] (fun c=>c=⟨.tup [],[some (bY n (Sort.sort bB d))]⟩):=by
 have h16:=lY hn
 refine Fnc.start Try.func49 rfl rfl ?_
 have hp:=pp n hn n 0 n (Sort.bitsLen n) d rfl (zQ _) (zP _) hd (by omega) (.inl rfl)
 have hs:Sort.pdq bB d 0 n (Sort.bitsLen n) true true=Sort.sort bB d:=by unfold Sort.sort;rw [hd]
 rw [hs] at hp
 (repeat(first|refine ao ?_|refine ai ?_|refine ah ?_|refine am rfl rfl rfl ?_|refine aj rfl rfl rfl ?_|refine cr rfl rfl rfl (F.un _ rfl) ?_|refine jU rfl rfl rfl (F.un _ rfl) (F.un _ rfl) (show _=(n:Int)from Go.IntWalk.u64_in _ ⟨by omega,by omega⟩) ?_|refine kx (qu n hn) [] rfl rfl rfl (by kernel_rfl) rfl (ExtOk.of rfl) rfl trivial ?_|refine cc rfl rfl rfl (by kernel_rfl) (Ctr.dp (hp) [0] rfl (ExtOk.of rfl) rfl (by repeat(first|exact trivial|refine⟨aW rfl,?_⟩)) rfl (by repeat(first|exact trivial|refine⟨bL,?_⟩)) (fun _=>rfl) rfl rfl) ?_))
 ((apply lm Try.func49 (congrArg Array.toList Try.results49));(focus(repeat(exact ResIs.nil)));refine⟨_,rfl,Ends.mk [] (ExtOk.of rfl) rfl rfl ?_⟩)
 exact(by repeat(first|exact trivial|refine⟨aW rfl,?_⟩))
theorem vv{V:Type}(val:V→SV)(m:List (Nat×V×Nat))(c:Nat)(hok:KOk m c)(hl:m.length<60000){H:aV}{nx bx b:Nat}(hbx:H.at' bx=some (aG 65 [.mp b]))(hb:H.at' b=some (iN (fun x:Nat=> .int .u64 x) val m c))(g1:bx<nx)(g2:b<nx) :
 Fnc Try.prog 38 [.fn (.func 50) [] [.ptr bx 0]] H nx
  (fun r=> ∃ nm,r.1 = .slu nm 0 (iy (m.map (·.1))).length∧nx≤nm∧nm<r.2.2∧r.2.1.at' nm=some (uR false (iy (m.map (·.1))))∧ ∀ n,n<nx→r.2.1.at' n=H.at' n):=by
 refine Fnc.start Try.func38 rfl rfl ?_
 (repeat(first|refine ao ?_|refine ai ?_|refine ah ?_|refine am rfl rfl rfl ?_|refine aj rfl rfl rfl ?_))
 refine bn rfl rfl rfl (by kernel_rfl) (Fnc.mono (collU val m c hok (by omega) hbx hb g1 g2) ?_)
 rintro⟨_,H1,n1⟩ ⟨done,nm,hp,rfl,h1,h2,h3,h4⟩
 dsimp only at h1 h2 h3 h4 ⊢
 have hpm:(done.map (·.1)).Perm (m.map (·.1)):=hp.map _
 have hlen:(done.map (·.1)).length=m.length:=by rw [hpm.length_eq,List.length_map]
 have hse:iy (m.map (·.1))=iy (done.map (·.1)):=(rg hpm).symm
 rw [hse]
 generalize done.map (·.1)=ks at h3 hlen ⊢
 have h3':H1.at' nm=some (bY ks.length ks.toArray):=h3
 have hs:=yM ks.length ks.toArray (by omega) (by simp)
 have hrow:bY ks.length (Sort.sort bB ks.toArray)=uR false (iy ks):=by
  have:(iy ks).length=ks.length:=gE ks
  show dat false ks.length 1 23 _=dat false (iy ks).length 1 23 _
  rw [this]
  rfl
 have hsl:=gE ks
 rw [hrow] at hs
 (repeat(first|refine ao ?_|refine ai ?_|refine ah ?_|refine am rfl rfl rfl ?_|refine aj rfl rfl rfl ?_))
 (refine bn rfl rfl rfl (by kernel_rfl) (Ctr.zv (hs) [nm] rfl ⟨by intro n hn;simp at hn;omega,by simp;try omega⟩ rfl (by repeat(first|exact trivial|refine⟨aW (by first|exact Tr.ae _ _ _|assumption),?_⟩)) ?_);rintro _ rfl;refine⟨_,0,[nm],[some _],rfl,(by repeat(first|exact trivial|refine⟨mj _ _ _ _ _ _,?_⟩)),rfl,rfl,?_⟩;dsimp only [wrL])
 (repeat(first|refine ao ?_|refine ai ?_|refine ah ?_|refine am rfl rfl rfl ?_|refine aj rfl rfl rfl ?_))
 ((apply bj Try.func38 (congrArg Array.toList Try.results38));(focus(repeat(first|exact ResIs.nil|apply ResIs.tmp rfl))))
 rw [← hsl]
 exact⟨nm,rfl,h1,h2,Tr.ae _ _ _,fun n hn=>(Tr.aa _ _ (by omega)).trans (h4 n hn)⟩
def LT.owners(T:LT):List Nat:=iy (T.parties.map (·.1))
theorem ph(ml:MLk)(mp:MPt):(b9 ml mp).owners=iy (mp.map (·.1)):=by
 unfold LT.owners b9 kv
 simp only [List.map_map]
 rfl
theorem vR{t:Nat}{T:LT}{Fp:Nat→Prop}{H:aV}{nx:Nat}(hT:TabAt t T Fp H)(hl:T.parties.length<60000):Fnc Try.prog 21 [.ptr t 0] H nx (fun q=> ∃ r,q.1 = .fn (.func 40) [] [.ptr nx 0]∧q.2.1.at' nx=some (aG 28 [.slu r 0 T.owners.length])∧q.2.1.at' r=some (uR false T.owners)∧nx<r∧r<q.2.2∧ ∀ n,n<nx→q.2.1.at' n=H.at' n):=by
 obtain⟨a,b,ml,cl,mp,cp,F1,F2,h,rfl,hF⟩:=hT
 have htab:=h.tab
 have hpar:=h.parties
 have hlen:mp.length<60000:=by
  have:(b9 ml mp).parties.length=mp.length:=by simp [b9,kv]
  omega
 refine Fnc.start Try.func21 rfl rfl ?_
 refine b4 fun hund=>?_
 obtain⟨ut,ua,ub,u1,u2⟩:=h.lt hund
 rw [ph]
 (repeat(first|refine ao ?_|refine ai ?_|refine ah ?_|refine aD rfl ?_|refine am rfl rfl rfl ?_|refine aj rfl rfl rfl ?_|refine aJ rfl rfl rfl ?_|refine au rfl rfl rfl (F.fo _ _ rfl rfl) ?_|refine jC rfl rfl (F.zl _ rfl) ?_|refine aL rfl rfl rfl (F.ag _ rfl) (by(repeat(first|assumption|refine(Tr.aa _ _ (by omega)).trans ?_));done) (by exact rfl) ?_|refine i7 rfl rfl rfl ?_|(refine bn rfl rfl rfl (by kernel_rfl) (Fnc.mono (iM (by(repeat(first|assumption|refine(Tr.aa _ _ (by omega)).trans ?_));done)) ?_);rintro _ rfl;dsimp only)|(refine bn rfl rfl rfl (by kernel_rfl) (Fnc.mono (rM jY mp cp) ?_);rintro _ rfl;dsimp only)))
 refine bn rfl rfl rfl (by kernel_rfl) (Fnc.mono (vv jY mp cp h.okp hlen (by(repeat(exact Tr.ae _ _ _));done) (b:=b) (by(repeat(first|assumption|refine(Tr.aa _ _ (by omega)).trans ?_));done) (by omega) (by omega)) ?_)
 rintro⟨_,H1,n1⟩ ⟨nm,rfl,h1,h2,h3,h4⟩
 dsimp only at h1 h2 h3 h4 ⊢
 have h5:H1.at' nx=some (aG 28 [.sc (.slice none 0 0)]):=(h4 nx (by omega)).trans (by(repeat(first|exact Tr.ae _ _ _|refine(Tr.aa _ _ (by omega)).trans ?_));done)
 (repeat(first|refine ao ?_|refine ai ?_|refine ah ?_|refine aj rfl rfl rfl ?_|refine jA rfl rfl rfl rfl ?_|refine cI rfl rfl rfl rfl (F.sz _ rfl) (by first|exact rfl|assumption) rfl (by exact zB rfl) rfl ?_))
 ((apply bj Try.func21 (congrArg Array.toList Try.results21));(focus(repeat(first|exact ResIs.nil|apply ResIs.tmp rfl))))
 exact⟨nm,rfl,Tr.ae _ _ _,(Tr.aa _ _ (by omega)).trans h3,by omega,h2,fun n hn=>(Tr.aa _ _ (by omega)).trans ((h4 n (by omega)).trans (by(repeat(refine(Tr.aa _ _ (by omega)).trans ?_));exact rfl))⟩
end Go.Proofs.Ytckajlllkmkniaa
end
section
namespace Go.Proofs.Ytckajlllkmkniaa
open Go.Sl
def gA:List Nat→Nat→List Nat
 | [],n=> [n]
 | x :: l,n=>if x<n then x :: gA l n else if x=n then x :: l else n :: x :: l
theorem mr{n y:Nat}: ∀ {l:List Nat},y∈gA l n↔y∈l∨y=n
 | []=>by simp [gA]
 | x :: l=>by
   unfold gA
   split
   ·rw [List.mem_cons,List.mem_cons,mr,or_assoc]
   ·split
    ·rename_i e
     subst e
     simp only [List.mem_cons]
     exact⟨fun h=> .inl h,fun h=>h.elim id fun h=> .inl h⟩
    ·simp only [List.mem_cons]
     exact⟨fun h=>h.elim (fun h=> .inr h) fun h=> .inl h,fun h=>h.elim (fun h=> .inr h) fun h=> .inl h⟩
theorem ny{n:Nat}: ∀ {l:List Nat},l.Pairwise (·< ·)→(gA l n).Pairwise (·< ·)
 | [],_=>by simp [gA]
 | x :: l,h=>by
   rw [List.pairwise_cons] at h
   unfold gA
   split
   ·rename_i hx
    rw [List.pairwise_cons]
    refine⟨fun y hy=>?_,ny h.2⟩
    rcases mr.1 hy with hy|rfl
    ·exact h.1 y hy
    ·exact hx
   ·split
    ·exact List.pairwise_cons.2 h
    ·rename_i h1 h2
     refine List.pairwise_cons.2 ⟨fun y hy=>?_,List.pairwise_cons.2 h⟩
     rcases List.mem_cons.1 hy with rfl|hy
     ·omega
     ·have:=h.1 y hy;omega
def gh(W:RT):List Nat:=(gI W).foldl gA []
theorem nz{y:Nat}: ∀ (m l:List Nat),y∈m.foldl gA l↔y∈l∨y∈m
 | [],l=>by simp
 | n :: m,l=>by
   rw [List.foldl_cons,nz m,mr,List.mem_cons,or_assoc]
theorem lP: ∀ (m l:List Nat),l.Pairwise (·< ·)→(m.foldl gA l).Pairwise (·< ·)
 | [],l,h=>h
 | n :: m,l,h=>lP m _ (ny h)
theorem sK: ∀ {l m:List Nat},l.Pairwise (·< ·)→m.Pairwise (·< ·)→(∀ y,y∈l↔y∈m)→l=m
 | [],[],_,_,_=>rfl
 | [],y :: m,_,_,h=>absurd ((h y).2 (by simp)) (by simp)
 | x :: l,[],_,_,h=>absurd ((h x).1 (by simp)) (by simp)
 | x :: l,y :: m,hl,hm,h=>by
   rw [List.pairwise_cons] at hl hm
   have e:x=y:=by
    have h1:=(h x).1 (by simp)
    have h2:=(h y).2 (by simp)
    rcases List.mem_cons.1 h1 with e|h1
    ·exact e
    ·rcases List.mem_cons.1 h2 with e|h2
     ·exact e.symm
     ·have:=hl.1 y h2;have:=hm.1 x h1;omega
   subst e
   rw [sK hl.2 hm.2 fun z=>⟨fun hz=>?_,fun hz=>?_⟩]
   ·rcases List.mem_cons.1 ((h z).1 (List.mem_cons_of_mem _ hz))with rfl|q
    ·have:=hl.1 z hz;omega
    ·exact q
   ·rcases List.mem_cons.1 ((h z).2 (List.mem_cons_of_mem _ hz))with rfl|q
    ·have:=hm.1 z hz;omega
    ·exact q
theorem re{l:List Nat}(hn:l.Nodup):(iy l).Pairwise (·< ·):=by
 obtain⟨h1,h2⟩:=fw l
 have h3:=h1.nodup_iff.2 hn
 exact(h2.and h3).imp fun h=>by omega
theorem Rel.owners{T:LT}{W:RT}{N:Nat}(h:Rel T W)(H:T.Fine N)(hb:T.Busy):T.owners=gh W:=by
 have hn:=h.nd H
 unfold LT.owners gh
 refine sK (re H.ndP) (lP _ _ List.Pairwise.nil) fun y=>?_
 rw [(fw _).1.mem_iff,nz,show(y∈gI W)=(y∈W.flatMap fun x=>x.2.1 :: x.2.2)from rfl,List.mem_flatMap]
 constructor
 ·intro hy
  refine .inr ?_
  obtain⟨⟨ks,w⟩,hp⟩:=qo hy
  obtain⟨_,_,p3,p4⟩:=H.wf.par y ks w hp
  by_cases hw:w.size=0
  ·have hks:ks≠ []:=(hb y ks w hp).elim id fun q=>absurd hw q
   obtain⟨k,hk⟩:=List.exists_mem_of_ne_nil ks hks
   obtain⟨l,hg⟩:=p3 k hk
   rw [h.get H] at hg
   obtain⟨A,B,e,_⟩:=bH hg
   exact⟨(k,(y,l)),by rw [e];simp,by simp⟩
  ·obtain⟨q,l,hg,hin⟩:=p4 hw
   rw [h.get H] at hg
   obtain⟨A,B,e,_⟩:=bH hg
   exact⟨(w,(q,l)),by rw [e];simp,by simp [hin]⟩
 ·intro hy
  rcases hy with hy|⟨⟨k,q,l⟩,hx,hy⟩
  ·cases hy
  ·have hg:=dc hn hx
   rw [← h.get H] at hg
   obtain⟨_,_,⟨ks,w,hp,_⟩,_,a5⟩:=H.wf.own k q l hg
   rcases List.mem_cons.1 hy with rfl|hy
   ·exact gk hp
   ·obtain⟨_,_,ks',hp'⟩:=a5 y hy
    exact gk hp'
end Go.Proofs.Ytckajlllkmkniaa
end
