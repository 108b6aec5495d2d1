import Derived.Test.YtjjgjjlgchidlaaGreatE6
set_option linter.unusedVariables false
set_option linter.unusedSimpArgs false
set_option maxRecDepth 100000
set_option maxHeartbeats 0
section
namespace Go.Proofs.YtjjgjjlgchidlaaGreat
open Go Go.Sy Go.Sl Go.RowKit
def ir(own:List Ow.El)(e:cO):Option Int:=(own.find? fun o=>gu o.1 e).map (·.2)
abbrev yw(o:Option Int):SV:= .tup [.sc (.int .i64 (o.getD 0)),.sc (.bool o.isSome)]
theorem rh(o:Option Int):Free (yw o):=Free.two (Free.sc _) (Free.sc _)
theorem sJ{x:Ow.El}{l:List Ow.El}{e:cO}(h:gu x.1 e=true):ir (x :: l) e=some x.2:=by simp [ir,h]
theorem uX{x:Ow.El}{l:List Ow.El}{e:cO}(h:gu x.1 e=false):ir (x :: l) e=ir l e:=by simp [ir,h]
theorem mF{H:aJ}{nx lo hi:Nat}{N:Int}{p:List UInt8}{so sl:SV}{own:List Ow.El}(hp:p.length=1024)(ho:OwnAt H so own lo hi)(hl:own.length≤1000)(e:cO):Fnc Tryz.prog 37 [.agg (dX N p so sl),eO e] H nx (fun q=>q=(yw (ir own e),H,nx)):=by
 refine Fnc.dp (rh _) ?_
 refine Fnc.start Tryz.func37 rfl rfl ?_
 refine cn fun hund=>?_
 rcases ho with ⟨rfl,rfl⟩|⟨r,k1,rfl,k2,k3,k4⟩
 ·(repeat(first|(refine an rfl rfl rfl (F.ag _ rfl) (by(repeat(first|exact Tr.ab _ _ _|refine(Tr.aa _ _ (by omega)).trans ?_));done) (cM hp dl sl 0) ?_)|refine aq ?_|refine ae ?_|refine ac ?_|refine aI ?_|(apply aj;exact rfl;exact rfl;exact rfl)|(apply ai;exact rfl;exact rfl;exact rfl)|(apply ap;exact rfl;exact rfl;exact rfl;exact(F.fo _ _ rfl rfl))|(apply bj;exact rfl;exact rfl;exact rfl)|((apply dB;exact rfl;exact rfl;exact rfl;exact(F.un _ rfl)))))
  refine co (α:=Nat) (fun x=> [(10,.sc (.int .i64 0)),(11,.sc (.int .i64 0))])
   (fun x H7 n7=>nx≤n7∧ ∀ m,m<nx→H7.at' m=H.at' m) (fun x=>0) 0
   ⟨by omega,fun m hm=>by(focus((repeat(refine(Tr.aa _ _ (by omega)).trans ?_));exact rfl))⟩ (SlIn.sub (by repeat(first|exact trivial|refine⟨rfl,?_⟩))) ?_
  rintro x H7 n7 ⟨o1,o2⟩ _
  (repeat(first|refine aq ?_|refine ae ?_|refine ac ?_|refine a9 rfl ?_|refine au rfl ?_|(apply ai;exact rfl;exact rfl;exact rfl)|(refine bR rfl rfl rfl rfl (fun hq=>absurd hq (by decide)) (fun _=>?_))))
  ((apply bf Tryz.func37 (congrArg Array.toList Tryz.results37));(focus(repeat(first|exact ResIs.nil|apply ResIs.tmp rfl))))
  exact⟨rfl,o1,o2⟩
 ·have hlt:=hund _ _ k4
  (repeat(first|(refine an rfl rfl rfl (F.ag _ rfl) (by(repeat(first|exact Tr.ab _ _ _|refine(Tr.aa _ _ (by omega)).trans ?_));done) (cM hp (.slu r 0 own.length) sl 0) ?_)|refine aq ?_|refine ae ?_|refine ac ?_|refine aI ?_|(apply aj;exact rfl;exact rfl;exact rfl)|(apply ai;exact rfl;exact rfl;exact rfl)|(apply ap;exact rfl;exact rfl;exact rfl;exact(F.fo _ _ rfl rfl))|(apply bj;exact rfl;exact rfl;exact rfl)|(apply a6;exact rfl;exact rfl;exact rfl;exact(F.un _ rfl))))
  refine co (α:=Nat) (fun x=> [(3,.ptr (nx+1) 0),(9,.slu r 0 own.length),(10,.sc (.int .i64 (own.length:Int))),(11,.sc (.int .i64 (x:Int)))])
   (fun x H7 n7=>x≤own.length∧nx+1+1≤n7∧H7.at' (nx+1)=some (az 25 ((iV e).map .sc))∧ir (own.drop x) e=ir own e∧ ∀ m,m<nx→H7.at' m=H.at' m) (fun x=>own.length-x) 0
   ⟨zE _,zD _,by(focus((repeat(exact Tr.ab _ _ _));done)),rfl,fun m hm=>by(focus((repeat(refine(Tr.aa _ _ (by omega)).trans ?_));exact rfl))⟩ (SlIn.sub (by repeat(first|exact trivial|refine⟨rfl,?_⟩))) ?_
  rintro x H7 n7 ⟨o0,o1,o2,o3,o4⟩ ih
  have o5:=(o4 r hlt).trans k4
  (repeat(first|refine aq ?_|refine ae ?_))
  refine bR rfl rfl rfl rfl (fun c1=>?_) (fun c1=>?_)
  ·have hx:x<own.length:=by omega
   have hf:=fg (f:=Ow.elV) (fun _=>rfl) own x 0 4 hx (by decide)
   rw [List.drop_eq_getElem_cons hx] at o3
   (repeat(first|(refine fm (q:=x) rfl rfl rfl rfl (F.un _ rfl) (F.sz _ rfl) (by exact o5) rfl hx (zD _) ?_)|(refine fS (us:=Ow.elV own[x]) rfl rfl rfl (F.ag _ rfl) (by exact o5) hf rfl (by omega) ?_)|(refine fv rfl rfl rfl (F.ag _ rfl) (by(repeat(first|assumption|exact Tr.ab _ _ _|refine(Tr.aa _ _ (by omega)).trans ?_));done) (aw 3 0 rfl rfl) ?_)|refine aq ?_|refine ae ?_|refine ac ?_|refine aI ?_|refine aH ?_|refine ax rfl ?_|(apply ap;exact rfl;exact rfl;exact rfl;exact(F.fo _ _ rfl rfl))|refine aM rfl rfl rfl rfl (F.sz _ rfl) (by(repeat(first|assumption|exact Tr.ab _ _ _));done) rfl (by exact zn rfl) rfl ?_|(apply aP;exact rfl;exact rfl;exact(F.zl _ rfl))))
   cases he:gu (own[x]).1 e with
   | true=>
     rw [sJ he] at o3
     refine sw (a:=(own[x]).1) (b:=e) rfl rfl he rfl rfl ?_
     (repeat(first|refine aq ?_|refine ae ?_|refine ac ?_|refine ax rfl ?_|(apply ai;exact rfl;exact rfl;exact rfl)|(apply ap;exact rfl;exact rfl;exact rfl;exact(F.fo _ _ rfl rfl))|refine an rfl rfl rfl (F.ag _ rfl) (by(repeat(first|assumption|exact Tr.ab _ _ _));done) (by exact rfl) ?_))
     ((apply bf Tryz.func37 (congrArg Array.toList Tryz.results37));(focus(repeat(first|exact ResIs.nil|apply ResIs.tmp rfl))))
     exact⟨by rw [← o3];rfl,by dsimp only;omega,fun m hm=>by(focus((repeat(refine(Tr.aa _ _ (by omega)).trans ?_));exact o4 m hm))⟩
   | false=>
     rw [uX he] at o3
     refine sw (a:=(own[x]).1) (b:=e) rfl rfl he rfl rfl ?_
     (repeat(first|refine ae ?_|refine ac ?_|refine aB ?_|refine aH ?_|refine au rfl ?_|(apply aj;exact rfl;exact rfl;exact rfl)|(apply bn;exact rfl;exact rfl;exact rfl;exact rfl;(focus(omega));(focus(omega)))))
     exact ih _ _ _ (x+1) ⟨hx,by first|omega|(dsimp only;omega),by(focus((repeat(first|assumption|refine(Tr.aa _ _ (by omega)).trans ?_));done)),o3,fun m hm=>by(focus((repeat(refine(Tr.aa _ _ (by omega)).trans ?_));exact o4 m hm))⟩ (by omega) (SlIn.sub (by repeat(first|exact trivial|refine⟨rfl,?_⟩)))
  ·(repeat(first|refine aq ?_|refine ae ?_|refine ac ?_|refine a9 rfl ?_|refine au rfl ?_|(apply ai;exact rfl;exact rfl;exact rfl)))
   obtain rfl:x=own.length:=by omega
   rw [List.drop_length] at o3
   ((apply bf Tryz.func37 (congrArg Array.toList Tryz.results37));(focus(repeat(first|exact ResIs.nil|apply ResIs.tmp rfl))))
   exact⟨by rw [← o3];rfl,by first|omega|(dsimp only;omega),o4⟩
def cy(e:cO):List UInt8:= [UInt8.ofNat e.2.1.toNat,UInt8.ofNat e.2.2.toNat] ++ e.1.data.toList
theorem mQ{e:cO}:kF e=true↔(1≤e.1.size∧e.1.size≤32)∧32≤e.2.1∧e.2.1<128∧0≤e.2.2∧e.2.2≤255:=decide_eq_true_iff
theorem ip(e:cO):(cy e).length=e.1.size+2:=by
 show e.1.data.toList.length+2=_
 rfl
theorem uk{H:aJ}{nx:Nat}(e:cO)(hm:kF e=true):Fnc Tryz.prog 8 [eO e] H nx (fun q=> ∃ r,q.1 = .tup [.slu r 0 (cy e).length,.sc (.int .i64 0)]∧q.2.1.at' r=some (u8R false (byV (cy e)))∧nx≤r∧r<q.2.2∧ ∀ m,m<nx→q.2.1.at' m=H.at' m):=by
 obtain⟨⟨h1,h2⟩,h3,h4,h5,h6⟩:=mQ.1 hm
 have w1:IntKind.u8.wrap e.2.1=((UInt8.ofNat e.2.1.toNat).toNat:Int):=by rw [← qY,Int.toNat_of_nonneg (by omega)]
 have w2:IntKind.u8.wrap e.2.2=((UInt8.ofNat e.2.2.toNat).toNat:Int):=by rw [← qY,Int.toNat_of_nonneg (by omega)]
 refine Fnc.start Tryz.func8 rfl rfl ?_
 have hmf:=fun(H:aJ) (nx:Nat)=>nZ e (H:=H) (nx:=nx)
 rw [hm] at hmf
 (repeat(first|(refine aL rfl rfl rfl (by kernel_rfl) (Fnc.mono (hmf _ _) ?_);rintro _ rfl;dsimp only)|(refine eR rfl rfl rfl (F.un _ rfl) (F.un _ rfl) w1 ?_)|(refine eR rfl rfl rfl (F.un _ rfl) (F.un _ rfl) w2 ?_)|((apply lV;exact rfl;exact rfl;exact(F.un _ rfl);exact(F.un _ rfl);exact(F.un _ rfl);exact rfl;(focus(omega))))|refine aq ?_|refine ae ?_|refine ac ?_|refine aH ?_|refine au rfl ?_|(apply ai;exact rfl;exact rfl;exact rfl)|(apply ap;exact rfl;exact rfl;exact rfl;exact(F.fo _ _ rfl rfl))|(apply bj;exact rfl;exact rfl;exact rfl)|refine an rfl rfl rfl (F.ag _ rfl) (by(repeat(first|exact Tr.ab _ _ _|refine(Tr.aa _ _ (by omega)).trans ?_));done) (by exact rfl) ?_|refine ay rfl rfl rfl (F.ag _ rfl) (by(repeat(exact Tr.ab _ _ _));done) (by exact rfl) ?_|(apply bh;exact rfl;exact rfl;exact rfl)|(apply bE;exact rfl;exact rfl;exact(F.un _ rfl);exact(F.sz _ rfl);exact rfl;exact(F.ze _ rfl);exact rfl;exact rfl;exact rfl;exact rfl;exact rfl)))
 have hA:BsIs ((((H.set nx (az 25 ((iV e).map .sc))).set (nx+1) (fQ false 2 1 5 ((byV [UInt8.ofNat e.2.1.toNat,UInt8.ofNat e.2.2.toNat]).map .sc))).set (nx+1+1) (dat false e.1.size 1 5 (u8L e.1))).set (nx+1+1+1) (bsR false [.slu (nx+1) 0 2,.slu (nx+1+1) 0 e.1.size])) (.slu (nx+1) 0 2) (byV [UInt8.ofNat e.2.1.toNat,UInt8.ofNat e.2.2.toNat]):=
  qK (ro:=false) (n:=2) (Eq.trans (b:=some (fQ false 2 1 5 ((byV [UInt8.ofNat e.2.1.toNat,UInt8.ofNat e.2.2.toNat]).map .sc))) (by(repeat(first|exact Tr.ab _ _ _|refine(Tr.aa _ _ (by omega)).trans ?_));done) (congrArg some (cR _ _ _ _ _))) rfl
 have hB:BsIs ((((H.set nx (az 25 ((iV e).map .sc))).set (nx+1) (fQ false 2 1 5 ((byV [UInt8.ofNat e.2.1.toNat,UInt8.ofNat e.2.2.toNat]).map .sc))).set (nx+1+1) (dat false e.1.size 1 5 (u8L e.1))).set (nx+1+1+1) (bsR false [.slu (nx+1) 0 2,.slu (nx+1+1) 0 e.1.size])) (.slu (nx+1+1) 0 e.1.size) (u8L e.1):=
  qK (ro:=false) (by(repeat(first|exact Tr.ab _ _ _|refine(Tr.aa _ _ (by omega)).trans ?_));done) rfl
 have hfl: [byV [UInt8.ofNat e.2.1.toNat,UInt8.ofNat e.2.2.toNat],u8L e.1].flatten=byV (cy e):=by
  show byV [UInt8.ofNat e.2.1.toNat,UInt8.ofNat e.2.2.toNat] ++ (u8L e.1 ++ [])=_
  rw [List.append_nil]
  rfl
 have hle:=ip e
 refine aL rfl rfl rfl (by kernel_rfl) (Fnc.mono (wt (r:=nx+1+1+1) (ro:=false) (ls:= [.slu (nx+1) 0 2,.slu (nx+1+1) 0 e.1.size]) (Tr.ab _ _ _) (LsIs.cons hA (LsIs.cons hB (LsIs.nil _))) (by rw [hfl,fk];omega) (zn rfl)) ?_)
 rintro _ rfl
 dsimp only
 rw [hfl,fk]
 (repeat(first|refine ac ?_|(apply ai;exact rfl;exact rfl;exact rfl)))
 ((apply bf Tryz.func8 (congrArg Array.toList Tryz.results8));(focus(repeat(first|exact ResIs.nil|apply ResIs.tmp rfl))))
 exact⟨nx+1+1+1+1,rfl,by(focus((repeat(exact Tr.ab _ _ _));done)),by omega,Nat.lt_succ_self _,fun m hm=>by(focus((repeat(refine(Tr.aa _ _ (by omega)).trans ?_));exact rfl))⟩
theorem uL{H:aJ}{nx n:Nat}{p x:List UInt8}{sl:SV}(e:cO)(hp:p.length=1024)(hx:x.length=1024)(hm:kF e=true)(hi:oY p (cy e)=(x,n,0)):Fnc Tryz.prog 40 [.agg (pgS p),sl,eO e] H nx (fun q=>q.1 = .tup [.agg (pgS x),.sc (.bool true)]∧nx≤q.2.2∧ ∀ m,m<nx→q.2.1.at' m=H.at' m):=by
 have hle:=ip e
 have hme:=mQ.1 hm
 refine Fnc.start Tryz.func40 rfl rfl ?_
 (repeat(first|(refine aP rfl rfl iI ?_)|refine aq ?_|refine ae ?_|refine ac ?_|(apply ai;exact rfl;exact rfl;exact rfl)|(apply bj;exact rfl;exact rfl;exact rfl)|refine ay rfl rfl rfl (F.ag _ rfl) (by(repeat(first|exact Tr.ab _ _ _|refine(Tr.aa _ _ (by omega)).trans ?_));done) (by exact rfl) ?_))
 refine aL rfl rfl rfl (by kernel_rfl) (Fnc.mono (uk e hm) ?_)
 rintro⟨_,H1,n1⟩ ⟨r,rfl,a1,a2,a3,a4⟩
 dsimp only at a1 a2 a3 a4 ⊢
 have b0:H1.at' nx=some (pgO p):=(a4 _ (by omega)).trans (by(repeat(first|exact Tr.ab _ _ _|refine(Tr.aa _ _ (by omega)).trans ?_));done)
 have b2:H1.at' (nx+1+1)=some (pgO zeroP):=(a4 _ (by omega)).trans (by(repeat(exact Tr.ab _ _ _));done)
 have bo: ∀ m,m<nx→H1.at' m=H.at' m:=fun m hm=>(a4 m (by omega)).trans (by(repeat(refine(Tr.aa _ _ (by omega)).trans ?_));exact rfl)
 clear a4
 have hins:=qv (nx:=n1) hp (jl a1) (by omega)
 rw [hi] at hins
 (repeat(first|(refine ay rfl rfl rfl (F.ag _ rfl) (by exact b0) (aY hp) ?_)|(refine aL rfl rfl rfl (by kernel_rfl) (Fnc.mono (hins) ?_);rintro _ rfl;dsimp only)|(refine aP rfl rfl iI ?_)|(apply aE;(exact rfl);(exact rfl);(exact rfl);(exact F.sz _ rfl);(focus((focus((repeat(first|assumption|exact Tr.ab _ _ _|refine(Tr.aa _ _ (by omega)).trans ?_));done))));(exact aY hx);(rw [aY ak];exact zD _);(exact dv _);(exact dt _ _ ak hx))|(apply ay;(exact rfl);(exact rfl);(exact rfl);(exact F.ag _ rfl);(focus((focus((repeat(exact Tr.ab _ _ _));done))));(exact aY hx))|(refine cD rfl rfl rfl rfl (fun hq=>absurd rfl hq) (fun _=>?_))|(refine eQ rfl rfl rfl rfl (fun _=>?_) (fun hq=>absurd rfl hq))|refine aq ?_|refine ae ?_|refine ac ?_|refine aH ?_|refine ax rfl ?_|refine au rfl ?_|(apply aj;exact rfl;exact rfl;exact rfl)|(apply ai;exact rfl;exact rfl;exact rfl)|(apply aD;exact rfl;exact rfl;exact rfl;exact rfl)))
 ((apply bf Tryz.func40 (congrArg Array.toList Tryz.results40));(focus((apply ResIs.cell rfl (LoadIs.many (F.ag _ rfl) (by(repeat(exact Tr.ab _ _ _));done) (dg hx)));(repeat(first|exact ResIs.nil|apply ResIs.tmp rfl)))))
 exact⟨rfl,by first|omega|(dsimp only;omega),fun m hm=>by(focus((repeat(refine(Tr.aa _ _ (by omega)).trans ?_));exact bo m hm))⟩
theorem l6{p:List UInt8}: ∀ {j:Nat} {u:List Bool} {l:List Bn.El},cr p j=some (u,l)→ ∀ x∈l,∃ k:Nat,1≤k∧k<28∧x.1=((4+k:Nat):Int)
 | 0,u,l,h=>by
   unfold cr at h
   cases h
   intro x hx
   exact absurd hx (by simp)
 | j+1,u,l,h=>by
   unfold cr at h
   cases hr:cr p j with
   | none=>rw [hr] at h;cases h
   | some x=>
     obtain⟨u0,l0⟩:=x
     have h1:=l6 hr
     rw [hr] at h
     simp only at h
     split at h
     ·cases h;exact h1
     ·cases hb:kq u0 (dJ p j)with
      | none=>rw [hb] at h;cases h
      | some y=>
        obtain⟨k,e⟩:=y
        rw [hb] at h
        simp only [zh,zq] at h
        obtain⟨rfl,rfl⟩:=h
        obtain⟨k1,k2,_⟩:=qM hb
        intro x hx
        rcases List.mem_append.1 hx with hx|hx
        ·exact h1 x hx
        ·rw [List.mem_singleton.1 hx]
         exact⟨k,k1,k2,by show(4:Int)+(k:Int)=_;omega⟩
theorem gG{p:List UInt8}{bs:List Bn.El}(h:iK p=some bs):0<bs.length∧bs.length≤28∧ ∀ x∈bs,∃ k:Nat,1≤k∧k<28∧x.1=((4+k:Nat):Int):=by
 unfold iK at h
 split at h
 ·cases hr:cr p (aT p)with
  | none=>rw [hr] at h;cases h
  | some y=>
    obtain⟨u,l⟩:=y
    rw [hr] at h
    simp only at h
    split at h
    ·rename_i hok
     cases h
     refine⟨?_,by rw [kw];exact sO hr,fun x hx=>l6 hr x ((l3 l).1.mem_iff.1 hx)⟩
     cases hs:nG l with
     | nil=>rw [hs] at hok;exact absurd hok (by decide)
     | cons a s=>simp
    ·cases h
 ·cases h
def Small(mem:List UInt8):Prop:= ∀ k,k<28→aT (cP mem k)≤12
def lk(bs:List Bn.El)(i:Nat):Nat:=(bs.getD i (0,ei)).1.toNat-4
def nc(mem:List UInt8)(bs:List Bn.El)(W:cO→Bool):Nat→Option (List cO)
 | 0=>some []
 | i+1=>match nc mem bs W i with
   | none=>none
   | some l=>match fy (cP mem (lk bs i)) bs i with
     | none=>none
     | some (own,_)=>some (l ++ (own.map (·.1)).filter W)
def t5(mem:List UInt8)(W:cO→Bool):Option (List cO):=match iK (cP mem 0)with
 | none=>none
 | some bs=>nc mem bs W bs.length
theorem rR{mem:List UInt8}{bs:List Bn.El}{W:cO→Bool}{i:Nat}(h:nc mem bs W i=none): ∀ {k:Nat},i≤k→nc mem bs W k=none:=by
 intro k hk
 induction k with
 | zero=>rw [Nat.le_zero.1 hk] at h;exact h
 | succ k ih=>
   rcases Nat.lt_or_ge k i with h1|h1
   ·rw [show k+1=i by omega];exact h
   ·show(match nc mem bs W k with|none=>none|some l=>_)=none
    rw [ih h1]
abbrev y4(l:List cO):VO:=dat false l.length 3 25 (l.flatMap iV)
def EnAt(H:aJ)(s:SV)(l:List cO)(lo hi:Nat):Prop:=(l= []∧s=dl)∨ ∃ r,l≠ []∧s = .slu r 0 l.length∧lo≤r∧r<hi∧H.at' r=some (y4 l)
theorem EnAt.frame{H H':aJ}{s:SV}{l:List cO}{lo hi hi':Nat}(h:EnAt H s l lo hi)(hh:hi≤hi')(hf: ∀ m,lo≤m→m<hi→H.at' m=some (y4 l)→H'.at' m=H.at' m):EnAt H' s l lo hi':=by
 rcases h with h|⟨r,h1,h2,h3,h4,h5⟩
 ·exact .inl h
 ·exact .inr ⟨r,h1,h2,h3,by omega,(hf r h3 h4 h5).trans h5⟩
theorem EnAt.low{H:aJ}{s:SV}{l:List cO}{lo lo' hi:Nat}(h:EnAt H s l lo hi)(hl:lo'≤lo):EnAt H s l lo' hi:=by
 rcases h with h|⟨r,h1,h2,h3,h4,h5⟩
 ·exact .inl h
 ·exact .inr ⟨r,h1,h2,by omega,h4,h5⟩
theorem recE:RecOf iV 3:=⟨fun _=>rfl,fun a v hv=>by
 simp only [iV,List.mem_cons,List.not_mem_nil,or_false] at hv
 rcases hv with rfl|rfl|rfl <;> rfl⟩
theorem vw{a:List Ow.El}{b:List cO}(h:some (qh a)=some (y4 b)):False:=by
 have h:=Option.some.inj h
 unfold qh y4 Ow.rowP arr dat at h
 injection h with _ _ h
 exact absurd h (by decide)
theorem js{p:List UInt8}{bs:List Bn.El}{i:Nat}{own:List Ow.El}{left:List Int}(h:fy p bs i=some (own,left)):own.length+left.length≤aT p:=by
 unfold fy at h
 split at h
 ·cases hr:dW p bs i (aT p)with
  | none=>rw [hr] at h;cases h
  | some y=>
    obtain⟨o,l⟩:=y
    rw [hr] at h
    simp only at h
    split at h
    ·cases h
    ·cases h
     rw [ji]
     exact fF hr
 ·cases h
theorem Small.root{mem:List UInt8}(h:Small mem): ∀ j u l,j≤aT (cP mem 0)→cr (cP mem 0) j=some (u,l)→l.length≤12:=by
 have hj: ∀ j u l,cr (cP mem 0) j=some (u,l)→l.length≤j:=by
  intro j
  induction j with
  | zero=>intro u l h;unfold cr at h;cases h;exact zD _
  | succ j ih=>
    intro u l h
    unfold cr at h
    cases hr:cr (cP mem 0) j with
    | none=>rw [hr] at h;cases h
    | some x=>
      obtain⟨u0,l0⟩:=x
      have h1:=ih _ _ hr
      rw [hr] at h
      simp only at h
      split at h
      ·cases h;omega
      ·cases hb:kq u0 (dJ (cP mem 0) j)with
       | none=>rw [hb] at h;cases h
       | some y=>
         rw [hb] at h
         simp only [zh,zq] at h
         obtain⟨_,rfl⟩:=h
         rw [zH,List.length_singleton]
         omega
 intro j u l h1 h2
 have:=hj _ _ _ h2
 have:=h 0 (by decide)
 omega
theorem Small.leaf{mem:List UInt8}(h:Small mem){k:Nat}(hk:k<28){bs:List Bn.El}{i:Nat}: ∀ j own left,j≤aT (cP mem k)→dW (cP mem k) bs i j=some (own,left)→own.length≤12:=by
 intro j own left h1 h2
 have:=fF h2
 have:=h k hk
 omega
theorem oA{H:aJ}{nx b c:Nat}{mem:List UInt8}{left:Int}{g:FuncId}{caps:List SV}{W:cO→Bool}(hb:PgAt H b mem left c)(hm:mem.length=28672)(hs:Small mem)(hg:cf Tryz.prog g=true)
 (hW: ∀ e H' nx',nx≤nx'→(∀ m,m<nx→H'.at' m=H.at' m)→Fnc Tryz.prog g (eO e :: caps) H' nx' (fun q=>q=(.sc (.bool (W e)),H',nx'))):Fnc Tryz.prog 43 [q9 b,.fn (.func g) [] caps] H nx
 (fun q=>nx≤q.2.2∧(∀ m,m<nx→q.2.1.at' m=H.at' m)∧((t5 mem W=none∧q.1 = .tup [dl,.sc (.int .i64 13)])∨ ∃ l s,t5 mem W=some l∧q.1 = .tup [s,.sc (.int .i64 0)]∧EnAt q.2.1 s l nx q.2.2)):=by
 refine Fnc.start Tryz.func43 rfl rfl ?_
 refine cn fun hund=>?_
 (repeat(first|refine aq ?_|refine ae ?_|refine ac ?_|(apply aj;exact rfl;exact rfl;exact rfl)|(apply ai;exact rfl;exact rfl;exact rfl)))
 refine aL rfl rfl rfl (by kernel_rfl) (Fnc.mono (ia hb hm hs.root) ?_)
 rintro⟨v,H1,n1⟩ ⟨q1,q2,(⟨hn,rfl⟩|⟨bs,r,hbs,rfl,r1,r2,r3⟩)⟩
 ·dsimp only at q1 q2 ⊢
  (repeat(first|(refine aP rfl rfl iI ?_)|(apply aE;(exact rfl);(exact rfl);(exact rfl);(exact F.sz _ rfl);(focus((focus((repeat(exact Tr.ab _ _ _));done))));(exact aY ak);(rw [aY ak];exact zD _);(exact dv _);(exact dt _ _ ak ak))|refine aq ?_|refine ae ?_|refine ac ?_|refine ax rfl ?_|(apply aj;exact rfl;exact rfl;exact rfl)|(apply ai;exact rfl;exact rfl;exact rfl)|(apply aD;exact rfl;exact rfl;exact rfl;exact rfl)|(refine cD rfl rfl rfl rfl (fun _=>?_) (fun hq=>absurd hq (by decide)))))
  ((apply bf Tryz.func43 (congrArg Array.toList Tryz.results43));(focus(repeat(first|exact ResIs.nil|apply ResIs.tmp rfl))))
  exact⟨by first|omega|(dsimp only;omega),fun m hm=>by(focus((repeat(refine(Tr.aa _ _ (by omega)).trans ?_));exact q2 m hm)),.inl ⟨by unfold t5;rw [hn],rfl⟩⟩
 dsimp only at q1 q2 r1 r2 r3 ⊢
 obtain⟨hb0,hb28,hbm⟩:=gG hbs
 have hM:t5 mem W=nc mem bs W bs.length:=by unfold t5;rw [hbs]
 have hp0:=du hm (n:=0) (by decide)
 (repeat(first|(refine aP rfl rfl iI ?_)|(apply aE;(exact rfl);(exact rfl);(exact rfl);(exact F.sz _ rfl);(focus((focus((repeat(exact Tr.ab _ _ _));done))));(exact aY hp0);(rw [aY ak];exact zD _);(exact dv _);(exact dt _ _ ak hp0))|refine aq ?_|refine ae ?_|refine ac ?_|refine aI ?_|refine aH ?_|refine au rfl ?_|(apply aj;exact rfl;exact rfl;exact rfl)|(apply ai;exact rfl;exact rfl;exact rfl)|(apply aD;exact rfl;exact rfl;exact rfl;exact rfl)|(apply a6;exact rfl;exact rfl;exact rfl;exact(F.un _ rfl))|(refine cD rfl rfl rfl rfl (fun hq=>absurd rfl hq) (fun _=>?_))))
 refine co (α:=Nat×SV) (fun x=> [(0,q9 b),(1,.fn (.func g) [] caps),(7,.slu r 0 bs.length),(9,x.2),(25,.sc (.int .i64 (bs.length:Int))),(26,.sc (.int .i64 (x.1:Int)))])
  (fun x H7 n7=>x.1≤bs.length∧n1≤n7∧H7.at' r=some (pM bs)∧(∃ l,nc mem bs W x.1=some l∧l.length≤300*x.1∧EnAt H7 x.2 l n1 n7)∧ ∀ m,m<nx→H7.at' m=H.at' m) (fun x=>bs.length-x.1) (0,dl)
  ⟨zE _,by first|omega|(dsimp only;omega),by(focus((repeat(refine(Tr.aa _ _ (by omega)).trans ?_));exact r3)),⟨[],rfl,zD _,.inl ⟨rfl,rfl⟩⟩,fun m hm=>by(focus((repeat(refine(Tr.aa _ _ (by omega)).trans ?_));exact q2 m hm))⟩ (SlIn.sub (by repeat(first|exact trivial|refine⟨rfl,?_⟩))) ?_
 rintro⟨i,s⟩ H7 n7 ⟨o0,o1,o2,⟨l,o3,o4,o5⟩,o6⟩ ih
 dsimp only at o0 o1 o2 o3 o4 o5 o6 ih ⊢
 (repeat(first|refine aq ?_|refine ae ?_))
 refine bR rfl rfl rfl rfl (fun c1=>?_) (fun c1=>?_)
 ·have hi:i<bs.length:=by omega
  obtain⟨k,hk1,hk2,hk3⟩:=hbm _ (zN hi)
  have hlk:lk bs i=k:=by unfold lk;rw [zy,zk hi];show(bs[i].1).toNat-4=k;rw [hk3];omega
  have e1:nc mem bs W (i+1)=(match fy (cP mem k) bs i with|none=>none|some (own,_)=>some (l ++ (own.map (·.1)).filter W)):=by
   show(match nc mem bs W i with|none=>none|some l=>_)=_
   rw [o3,hlk]
  (repeat(first|refine aq ?_|refine ae ?_|refine ac ?_|refine aI ?_|refine aH ?_|refine ax rfl ?_|(apply aj;exact rfl;exact rfl;exact rfl)|(apply ai;exact rfl;exact rfl;exact rfl)))
  refine aL rfl rfl rfl (by kernel_rfl) (Fnc.mono (ib (k:=k) (e0:=bs[i].2) (hb.frame hund (fun m hm=>by(focus(skip;exact o6 m hm)))) hm (by exact o2) hi (Prod.ext hk3 rfl) hk2 (by omega) (hs.leaf hk2)) ?_)
  rintro⟨v,H8,n8⟩ ⟨p1,p2,(⟨hn,rfl⟩|⟨own,left,so,sl,hown,rfl,w1,w2⟩)⟩
  ·dsimp only at p1 p2 ⊢
   (repeat(first|(refine aP rfl rfl kQ ?_)|(refine aE rfl rfl rfl (F.sz _ rfl) (by(repeat(exact Tr.ab _ _ _));done) (ba ak _ _) (by rw [ba ak];exact zD _) (dD _ _ rfl rfl) (dC ak ak) ?_)|refine aq ?_|refine ae ?_|refine ac ?_|refine ax rfl ?_|(apply aj;exact rfl;exact rfl;exact rfl)|(apply ai;exact rfl;exact rfl;exact rfl)|(apply aD;exact rfl;exact rfl;exact rfl;exact rfl)|(refine cD rfl rfl rfl rfl (fun _=>?_) (fun hq=>absurd hq (by decide)))))
   ((apply bf Tryz.func43 (congrArg Array.toList Tryz.results43));(focus(repeat(first|exact ResIs.nil|apply ResIs.tmp rfl))))
   exact⟨by first|omega|(dsimp only;omega),fun m hm=>by(focus((repeat(refine(Tr.aa _ _ (by omega)).trans ?_));exact(p2 m (by omega)).trans (o6 m hm))),.inl ⟨by rw [hM];exact rR (i:=i+1) (by rw [e1,hn]) hi,rfl⟩⟩
  ·dsimp only at p1 p2 w1 w2 ⊢
   rw [hown] at e1
   dsimp only at e1
   have hpk:=du hm (n:=k) hk2
   have hlo:=js hown
   have hsk:=hs k hk2
   rcases w1 with ⟨rfl,rfl⟩|⟨ro,k1,rfl,k2,k3,k4⟩
   ·(repeat(first|(refine aP rfl rfl kQ ?_)|(refine aE rfl rfl rfl (F.sz _ rfl) (by(repeat(exact Tr.ab _ _ _));done) (ba hpk _ _) (by rw [ba ak];exact zD _) (dD _ _ rfl w2.one) (dC ak hpk) ?_)|(refine an rfl rfl rfl (F.ag _ rfl) (by(repeat(exact Tr.ab _ _ _));done) (cM hpk dl sl 0) ?_)|refine aq ?_|refine ae ?_|refine ac ?_|refine aI ?_|refine aH ?_|refine au rfl ?_|(apply aj;exact rfl;exact rfl;exact rfl)|(apply ai;exact rfl;exact rfl;exact rfl)|(apply aD;exact rfl;exact rfl;exact rfl;exact rfl)|(apply ap;exact rfl;exact rfl;exact rfl;exact(F.fo _ _ rfl rfl))|(refine cD rfl rfl rfl rfl (fun hq=>absurd rfl hq) (fun _=>?_))|((apply dB;exact rfl;exact rfl;exact rfl;exact(F.un _ rfl)))))
    refine co (α:=Nat) (fun y=> [(0,q9 b),(1,.fn (.func g) [] caps),(7,.slu r 0 bs.length),(9,s),(25,.sc (.int .i64 (bs.length:Int))),(26,.sc (.int .i64 (i:Int))),(41,.sc (.int .i64 0)),(42,.sc (.int .i64 0))])
     (fun y H9 n9=>n8≤n9∧H9.at' r=some (pM bs)∧EnAt H9 s l n1 n9∧ ∀ m,m<nx→H9.at' m=H.at' m) (fun y=>0) 0
     ⟨by first|omega|(dsimp only;omega),by(focus((repeat(refine(Tr.aa _ _ (by omega)).trans ?_));exact(p2 r (by omega)).trans o2)),o5.frame (by(omega)) fun m h1 h2 _=>(by(repeat(refine(Tr.aa _ _ (by omega)).trans ?_));exact p2 m (by omega)),fun m hm=>by(focus((repeat(refine(Tr.aa _ _ (by omega)).trans ?_));exact(p2 m (by omega)).trans (o6 m hm)))⟩ (SlIn.sub (by repeat(first|exact trivial|refine⟨rfl,?_⟩))) ?_
    rintro y H9 n9 ⟨u1,u2,u3,u4⟩ _
    (repeat(first|refine aq ?_|refine ae ?_|refine ac ?_|refine aB ?_|refine a9 rfl ?_|refine au rfl ?_|(apply aj;exact rfl;exact rfl;exact rfl)|(apply bn;exact rfl;exact rfl;exact rfl;exact rfl;(focus(omega));(focus(omega)))|(refine bR rfl rfl rfl rfl (fun hq=>absurd hq (by decide)) (fun _=>?_))))
    exact ih _ _ _ (i+1,s) ⟨hi,by first|omega|(dsimp only;omega),u2,⟨l,by rw [e1];simp,by omega,u3⟩,u4⟩ (by(omega)) (SlIn.sub (by repeat(first|exact trivial|refine⟨rfl,?_⟩)))
   ·have hn0:0<own.length:=List.length_pos_iff.2 k1
    (repeat(first|(refine aP rfl rfl kQ ?_)|(refine aE rfl rfl rfl (F.sz _ rfl) (by(repeat(exact Tr.ab _ _ _));done) (ba hpk _ _) (by rw [ba ak];exact zD _) (dD _ _ rfl w2.one) (dC ak hpk) ?_)|(refine an rfl rfl rfl (F.ag _ rfl) (by(repeat(exact Tr.ab _ _ _));done) (cM hpk (.slu ro 0 own.length) sl 0) ?_)|refine aq ?_|refine ae ?_|refine ac ?_|refine aI ?_|refine aH ?_|refine au rfl ?_|(apply aj;exact rfl;exact rfl;exact rfl)|(apply ai;exact rfl;exact rfl;exact rfl)|(apply aD;exact rfl;exact rfl;exact rfl;exact rfl)|(apply ap;exact rfl;exact rfl;exact rfl;exact(F.fo _ _ rfl rfl))|(apply a6;exact rfl;exact rfl;exact rfl;exact(F.un _ rfl))|(refine cD rfl rfl rfl rfl (fun hq=>absurd rfl hq) (fun _=>?_))))
    refine co (α:=Nat×SV) (fun y=> [(0,q9 b),(1,.fn (.func g) [] caps),(7,.slu r 0 bs.length),(9,y.2),(25,.sc (.int .i64 (bs.length:Int))),(26,.sc (.int .i64 (i:Int))),(40,.slu ro 0 own.length),(41,.sc (.int .i64 (own.length:Int))),(42,.sc (.int .i64 (y.1:Int)))])
     (fun y H9 n9=>y.1≤own.length∧n8≤n9∧H9.at' r=some (pM bs)∧H9.at' ro=some (qh own)∧(∃ l',l'=l ++ ((own.take y.1).map (·.1)).filter W∧l'.length≤300*i+y.1∧EnAt H9 y.2 l' n1 n9)∧ ∀ m,m<nx→H9.at' m=H.at' m) (fun y=>own.length-y.1) (0,s)
     ⟨zE _,by first|omega|(dsimp only;omega),by(focus((repeat(refine(Tr.aa _ _ (by omega)).trans ?_));exact(p2 r (by omega)).trans o2)),by(focus((repeat(refine(Tr.aa _ _ (by omega)).trans ?_));exact k4)),⟨l,by simp,by omega,o5.frame (by(omega)) fun m h1 h2 _=>(by(repeat(refine(Tr.aa _ _ (by omega)).trans ?_));exact p2 m (by omega))⟩,fun m hm=>by(focus((repeat(refine(Tr.aa _ _ (by omega)).trans ?_));exact(p2 m (by omega)).trans (o6 m hm)))⟩ (SlIn.sub (by repeat(first|exact trivial|refine⟨rfl,?_⟩))) ?_
    clear o2 o5 o6 p1 p2 k4 q2 r3 hown w2
    rintro⟨y,s'⟩ H9 n9 ⟨u0,u1,u2,u3,⟨l',u4,u5,u6⟩,u7⟩ ih2
    dsimp only at u0 u1 u2 u3 u4 u5 u6 u7 ih2 ⊢
    (repeat(first|refine aq ?_|refine ae ?_))
    refine bR rfl rfl rfl rfl (fun c2=>?_) (fun c2=>?_)
    ·have hy:y<own.length:=by omega
     have hf:=fg (f:=Ow.elV) (fun _=>rfl) own y 0 4 hy (by decide)
     have ht:((own.take (y+1)).map (·.1)).filter W=((own.take y).map (·.1)).filter W ++ [(own[y]).1].filter W:=by rw [List.take_succ_eq_append_getElem hy,zI,List.filter_append];rfl
     (repeat(first|(refine fm (q:=y) rfl rfl rfl rfl (F.un _ rfl) (F.sz _ rfl) (by exact u3) rfl hy (zD _) ?_)|(refine fS (us:=Ow.elV own[y]) rfl rfl rfl (F.ag _ rfl) (by exact u3) hf rfl (by omega) ?_)|(refine fv rfl rfl rfl (F.ag _ rfl) (by(repeat(exact Tr.ab _ _ _));done) (aw 3 0 rfl rfl) ?_)|refine aq ?_|refine ae ?_|refine ac ?_|refine aI ?_|refine aH ?_|refine ax rfl ?_|(apply aj;exact rfl;exact rfl;exact rfl)|(apply ap;exact rfl;exact rfl;exact rfl;exact(F.fo _ _ rfl rfl))|refine aM rfl rfl rfl rfl (F.sz _ rfl) (by(repeat(exact Tr.ab _ _ _));done) rfl (by exact zn rfl) rfl ?_|(apply aP;exact rfl;exact rfl;exact(F.zl _ rfl))))
     refine kV rfl rfl rfl rfl hg (Fnc.mono (hW (own[y]).1 _ _ (by omega) (fun m hm=>by(focus((repeat(refine(Tr.aa _ _ (by omega)).trans ?_));exact u7 m hm)))) ?_)
     rintro _ rfl
     dsimp only
     cases hw:W (own[y]).1 with
     | false=>
       have ht:((own.take (y+1)).map (·.1)).filter W=((own.take y).map (·.1)).filter W:=by rw [ht,List.filter_cons_of_neg (by rw [hw];decide),List.filter_nil,List.append_nil]
       (repeat(first|refine ae ?_|refine ac ?_|refine aB ?_|refine aH ?_|refine au rfl ?_|(apply aj;exact rfl;exact rfl;exact rfl)|(apply bn;exact rfl;exact rfl;exact rfl;exact rfl;(focus(omega));(focus(omega)))))
       exact ih2 _ _ _ (y+1,s') ⟨hy,by first|omega|(dsimp only;omega),by(focus((repeat(refine(Tr.aa _ _ (by omega)).trans ?_));exact u2)),by(focus((repeat(refine(Tr.aa _ _ (by omega)).trans ?_));exact u3)),⟨l',by rw [ht];exact u4,by first|omega|(dsimp only;omega),u6.frame (by(omega)) fun m h1 h2 _=>(by(repeat(refine(Tr.aa _ _ (by omega)).trans ?_));exact rfl)⟩,fun m hm=>by(focus((repeat(refine(Tr.aa _ _ (by omega)).trans ?_));exact u7 m hm))⟩ (by(omega)) (SlIn.sub (by repeat(first|exact trivial|refine⟨rfl,?_⟩)))
     | true=>
       have ht:l' ++ [(own[y]).1]=l ++ ((own.take (y+1)).map (·.1)).filter W:=by rw [ht,List.filter_cons_of_pos hw,List.filter_nil,←List.append_assoc,←u4]
       rcases u6 with ⟨rfl,rfl⟩|⟨re,v1,rfl,v2,v3,v4⟩
       ·(repeat(first|(refine fv rfl rfl rfl (F.ag _ rfl) (by(repeat(exact Tr.ab _ _ _));done) (aw 3 0 rfl rfl) ?_)|refine ae ?_|refine ac ?_|refine ax rfl ?_|(apply aj;exact rfl;exact rfl;exact rfl)|(apply ap;exact rfl;exact rfl;exact rfl;exact(F.fo _ _ rfl rfl))|(apply bE;exact rfl;exact rfl;exact(F.un _ rfl);exact(F.sz _ rfl);exact rfl;exact(F.ze _ rfl);exact rfl;exact rfl;exact rfl;exact rfl;exact rfl)))
        refine gY (b:=32) (n:=1) (cs:=(iV (own[y]).1).map .sc) rfl rfl rfl rfl (F.un _ rfl) (.inl ⟨_,F.un _ rfl⟩) (F.sz _ rfl) rfl (by kernel_rfl) (by kernel_rfl) (SlOf.row (by(repeat(exact Tr.ab _ _ _));done) rfl) rfl (by decide) (by decide) ?_
        rintro _ _ _ (⟨h,_⟩|⟨_,rfl,rfl,rfl⟩)
        ·exact absurd h (by decide)
        (repeat(first|refine ae ?_|refine ac ?_|refine aB ?_|(apply aj;exact rfl;exact rfl;exact rfl)|(apply ai;exact rfl;exact rfl;exact rfl)|(apply bn;exact rfl;exact rfl;exact rfl;exact rfl;(focus(omega));(focus(omega)))))
        exact ih2 _ _ _ (y+1,.slu (n9+1+1) 0 1) ⟨hy,by first|omega|(dsimp only;omega),by(focus((repeat(refine(Tr.aa _ _ (by omega)).trans ?_));exact u2)),by(focus((repeat(refine(Tr.aa _ _ (by omega)).trans ?_));exact u3)),⟨[(own[y]).1],ht,by show 1≤_;omega,.inr ⟨n9+1+1,by simp,rfl,by first|omega|(dsimp only;omega),by first|omega|(dsimp only;omega),Eq.trans (b:=some (fQ false 1 3 25 ((iV (own[y]).1).map .sc))) (by(repeat(exact Tr.ab _ _ _));done) (congrArg some (cR _ _ _ _ _))⟩⟩,fun m hm=>by(focus((repeat(refine(Tr.aa _ _ (by omega)).trans ?_));exact u7 m hm))⟩ (by(omega)) (SlIn.sub (by repeat(first|exact trivial|refine⟨rfl,?_⟩)))
       ·have hre:ro≠re:=(by rintro rfl;exact vw (u3.symm.trans v4))
        (repeat(first|(refine fv rfl rfl rfl (F.ag _ rfl) (by(repeat(exact Tr.ab _ _ _));done) (aw 3 0 rfl rfl) ?_)|refine ae ?_|refine ac ?_|refine aB ?_|refine ax rfl ?_|(apply aj;exact rfl;exact rfl;exact rfl)|(apply ai;exact rfl;exact rfl;exact rfl)|(apply ap;exact rfl;exact rfl;exact rfl;exact(F.fo _ _ rfl rfl))|(apply bn;exact rfl;exact rfl;exact rfl;exact rfl;(focus(omega));(focus(omega)))|(apply bE;exact rfl;exact rfl;exact(F.un _ rfl);exact(F.sz _ rfl);exact rfl;exact(F.ze _ rfl);exact rfl;exact rfl;exact rfl;exact rfl;exact rfl)|refine lW (b:=32) (xs:=l') (a:=(own[y]).1) rfl rfl rfl rfl (F.un _ rfl) (.inl ⟨_,F.un _ rfl⟩) (F.sz _ rfl) rfl (by kernel_rfl) (by kernel_rfl) (by(repeat(first|assumption|refine(Tr.aa _ _ (by omega)).trans ?_));done) (by(repeat(exact Tr.ab _ _ _));done) (by exact rfl) (recE) (by omega) (by omega) ?_))
        exact ih2 _ _ _ (y+1,.slu (n9+1+1) 0 (l' ++ [(own[y]).1]).length) ⟨hy,by first|omega|(dsimp only;omega),by(focus((repeat(first|refine(Tr.aa _ _ (by omega)).trans ?_|refine(Tr.ah _ (by omega)).trans ?_));exact u2)),by(focus((repeat(first|refine(Tr.aa _ _ (by omega)).trans ?_|refine(Tr.ah _ (by omega)).trans ?_));exact u3)),⟨l' ++ [(own[y]).1],ht,by rw [zH,List.length_singleton];omega,.inr ⟨n9+1+1,by simp,rfl,by first|omega|(dsimp only;omega),by first|omega|(dsimp only;omega),by(focus((repeat(exact Tr.ab _ _ _));done))⟩⟩,fun m hm=>by(focus((repeat(first|refine(Tr.aa _ _ (by omega)).trans ?_|refine(Tr.ah _ (by omega)).trans ?_));exact u7 m hm))⟩ (by(omega)) (SlIn.sub (by repeat(first|exact trivial|refine⟨rfl,?_⟩)))
    ·(repeat(first|refine aq ?_|refine ae ?_|refine ac ?_|refine aB ?_|refine a9 rfl ?_|refine au rfl ?_|(apply aj;exact rfl;exact rfl;exact rfl)|(apply bn;exact rfl;exact rfl;exact rfl;exact rfl;(focus(omega));(focus(omega)))))
     obtain rfl:y=own.length:=by omega
     rw [List.take_length] at u4
     exact ih _ _ _ (i+1,s') ⟨hi,by first|omega|(dsimp only;omega),u2,⟨l',by rw [e1,u4],by omega,u6⟩,u7⟩ (by(omega)) (SlIn.sub (by repeat(first|exact trivial|refine⟨rfl,?_⟩)))
 ·(repeat(first|refine aq ?_|refine ae ?_|refine ac ?_|refine a9 rfl ?_|refine au rfl ?_|(apply aj;exact rfl;exact rfl;exact rfl)|(apply ai;exact rfl;exact rfl;exact rfl)))
  obtain rfl:i=bs.length:=by omega
  ((apply bf Tryz.func43 (congrArg Array.toList Tryz.results43));(focus(repeat(first|exact ResIs.nil|apply ResIs.tmp rfl))))
  exact⟨by first|omega|(dsimp only;omega),o6,.inr ⟨l,s,by rw [hM];exact o3,rfl,o5.low q1⟩⟩
theorem wv{H:aJ}{nx a:Nat}:Fnc Tryz.prog 39 [.ptr a 0] H nx (fun q=>q=(.tup [],H,nx)):=by
 refine Fnc.start Tryz.func39 rfl rfl ?_
 (repeat(first|refine aq ?_|refine ae ?_|refine ac ?_|refine aH ?_|refine au rfl ?_|((apply gz;exact rfl;exact rfl))|(refine je rfl rfl rfl Tryz.underlying20 ?_)))
 ((apply fT Tryz.func39 (congrArg Array.toList Tryz.results39));(focus(repeat(exact ResIs.nil))))
 rfl
theorem za{H:aJ}{nx a:Nat}:Fnc Tryz.prog 33 [.ptr a 0] H nx (fun q=>q=(.tup [],H,nx)):=by
 refine Fnc.start Tryz.func33 rfl rfl ?_
 (repeat(first|refine aq ?_|refine ae ?_|refine ac ?_|refine aH ?_|refine au rfl ?_|((apply gz;exact rfl;exact rfl))|(refine je rfl rfl rfl Tryz.underlying20 ?_)))
 ((apply fT Tryz.func33 (congrArg Array.toList Tryz.results33));(focus(repeat(exact ResIs.nil))))
 rfl
structure Home (mem:List UInt8) (e:cO) (bs:List Bn.El) (k:Nat) (own:List Ow.El) (left:List Int):Prop where
 root:iK (cP mem 0)=some bs
 num:lk bs (ep bs e)=k
 leaf:fy (cP mem k) bs (ep bs e)=some (own,left)
theorem Home.at{mem:List UInt8}{e:cO}{bs:List Bn.El}{k:Nat}{own:List Ow.El}{left:List Int}(h:Home mem e bs k own left): ∃ hi:ep bs e<bs.length,1≤k∧k<28∧bs[ep bs e].1=((4+k:Nat):Int):=by
 obtain⟨h0,h28,hb⟩:=gG h.root
 have hi:=rM e h0
 refine⟨hi,?_⟩
 obtain⟨k',k1,k2,k3⟩:=hb _ (zN hi)
 have hk:=h.num
 unfold lk at hk
 rw [zy,zk hi] at hk
 have hk:(bs[ep bs e].1).toNat-4=k:=hk
 rw [k3] at hk
 obtain rfl:k'=k:=by omega
 exact⟨k1,k2,k3⟩
theorem gU{H:aJ}{m c:Nat}{t:TypeId}{l:List SV}(h:H.at' m=some (az t l)): ∀ ws,H.at' m≠some (fQ false c 1025 209 ws):=fun ws h2=>by
 rw [h] at h2
 unfold az at h2
 cases h2
theorem xJ{H:aJ}{nx b c k:Nat}{mem:List UInt8}{left:Int}{e:cO}{bs:List Bn.El}{own:List Ow.El}{lf:List Int}(hb:PgAt H b mem left c)(hm:mem.length=28672)(hs:Small mem)(he:kF e=true)(hh:Home mem e bs k own lf){z:Int}(hd:ir own e=some z):Fnc Tryz.prog 20 [q9 b,eO e] H nx
 (fun q=>q.1 = .sc (.int .i64 14)∧nx≤q.2.2∧ ∀ m,m<nx→q.2.1.at' m=H.at' m):=by
 obtain⟨hi,hk1,hk2,hk3⟩:=hh.at
 obtain⟨h0,h28,_⟩:=gG hh.root
 have hp0:=du hm (n:=0) (by decide)
 have hpk:=du hm (n:=k) hk2
 have hlo:=js hh.leaf
 have hsk:=hs k hk2
 refine Fnc.start Tryz.func20 rfl rfl ?_
 refine cn fun hund=>?_
 have hmf:=fun(H:aJ) (nx:Nat)=>nZ e (H:=H) (nx:=nx)
 rw [he] at hmf
 (repeat(first|(refine aL rfl rfl rfl (by kernel_rfl) (Fnc.mono (hmf _ _) ?_);rintro _ rfl;dsimp only)|refine aq ?_|refine ae ?_|refine ac ?_|refine aH ?_|refine au rfl ?_|(apply aj;exact rfl;exact rfl;exact rfl)|(apply aN;exact rfl;exact rfl;exact rfl;exact rfl)|(apply aP;exact rfl;exact rfl;exact(F.zl _ rfl))|(apply bj;exact rfl;exact rfl;exact rfl)|refine ay rfl rfl rfl (F.ag _ rfl) (by(repeat(first|exact Tr.ab _ _ _|refine(Tr.aa _ _ (by omega)).trans ?_));done) (by exact rfl) ?_|(apply bh;exact rfl;exact rfl;exact rfl)|((apply jG;exact rfl;exact rfl;exact rfl;(focus(kernel_rfl))))|(refine cw rfl rfl rfl rfl Tryz.underlying78 rfl ?_)))
 refine aL rfl rfl rfl (by kernel_rfl) (Fnc.mono (ia (hb.frame hund (fun m hm=>by(focus((repeat(refine(Tr.aa _ _ (by omega)).trans ?_));exact rfl)))) hm hs.root) ?_)
 rintro⟨v,H1,n1⟩ ⟨q1,q2,(⟨hn,rfl⟩|⟨bs',r,hbs,rfl,r1,r2,r3⟩)⟩
 ·rw [hh.root] at hn;cases hn
 obtain rfl:bs=bs':=by rw [hh.root] at hbs;cases hbs;rfl
 dsimp only at q1 q2 r1 r2 r3 ⊢
 have b0:H1.at' nx=some (az 25 ((iV e).map .sc)):=(q2 _ (by omega)).trans (by(repeat(first|exact Tr.ab _ _ _|refine(Tr.aa _ _ (by omega)).trans ?_));done)
 have b1:H1.at' (nx+1)=some (md 0):=(q2 _ (by omega)).trans (by(repeat(exact Tr.ab _ _ _));done)
 have bo: ∀ m,m<nx→H1.at' m=H.at' m:=fun m hm=>(q2 m (by omega)).trans (by(repeat(refine(Tr.aa _ _ (by omega)).trans ?_));exact rfl)
 clear q2
 (repeat(first|(refine aP rfl rfl iI ?_)|(apply aE;(exact rfl);(exact rfl);(exact rfl);(exact F.sz _ rfl);(focus((focus((repeat(exact Tr.ab _ _ _));done))));(exact aY hp0);(rw [aY ak];exact zD _);(exact dv _);(exact dt _ _ ak hp0))|(refine cD rfl rfl rfl rfl (fun hq=>absurd rfl hq) (fun _=>?_))|refine aq ?_|refine ae ?_|refine ac ?_|refine aH ?_|refine au rfl ?_|(apply aj;exact rfl;exact rfl;exact rfl)|(apply ai;exact rfl;exact rfl;exact rfl)|(apply aD;exact rfl;exact rfl;exact rfl;exact rfl)|refine aM rfl rfl rfl rfl (F.sz _ rfl) (by(repeat(first|assumption|refine(Tr.aa _ _ (by omega)).trans ?_));done) rfl (by exact zn rfl) rfl ?_|refine an rfl rfl rfl (F.ag _ rfl) (by(repeat(first|assumption|exact Tr.ab _ _ _|refine(Tr.aa _ _ (by omega)).trans ?_));done) (by exact rfl) ?_|refine ay rfl rfl rfl (F.ag _ rfl) (by(repeat(first|assumption|refine(Tr.aa _ _ (by omega)).trans ?_));done) (by exact rfl) ?_))
 refine aL rfl rfl rfl (by kernel_rfl) (Fnc.mono (kG e (by(repeat(refine(Tr.aa _ _ (by omega)).trans ?_));exact r3) h0 (by omega)) ?_)
 rintro _ rfl
 dsimp only
 refine aL rfl rfl rfl (by kernel_rfl) (Fnc.mono (ib (k:=k) (e0:=bs[ep bs e].2) (hb.frame hund (fun m hm=>by(focus((repeat(refine(Tr.aa _ _ (by omega)).trans ?_));exact bo m hm)))) hm (by(repeat(refine(Tr.aa _ _ (by omega)).trans ?_));exact r3) hi (Prod.ext hk3 rfl) hk2 (by omega) (hs.leaf hk2)) ?_)
 rintro⟨v,H8,n8⟩ ⟨p1,p2,(⟨hn,rfl⟩|⟨own',left',so,sl,hown,rfl,w1,w2⟩)⟩
 ·rw [hh.leaf] at hn;cases hn
 obtain⟨rfl,rfl⟩:own=own'∧lf=left':=by rw [hh.leaf] at hown;cases hown;exact⟨rfl,rfl⟩
 dsimp only at p1 p2 w1 w2 ⊢
 have d0:H8.at' nx=some (az 25 ((iV e).map .sc)):=(p2 nx (by omega)).trans (by(repeat(refine(Tr.aa _ _ (by omega)).trans ?_));exact b0)
 have d1:H8.at' (nx+1)=some (md 0):=(p2 (nx+1) (by omega)).trans (by(repeat(exact Tr.ab _ _ _));done)
 have do': ∀ m,m<nx→H8.at' m=H.at' m:=fun m hm=>(p2 m (by omega)).trans (by(repeat(refine(Tr.aa _ _ (by omega)).trans ?_));exact bo m hm)
 clear p2 b0 b1 bo r3
 have hso:=fun(H:aJ) (nx:Nat) (h:OwnAt H so own (n1+1) n8)=>mF (nx:=nx) (N:=((4+k:Nat):Int)) (sl:=sl) hpk h (by omega) e
 rw [hd] at hso
 (repeat(first|(refine aP rfl rfl kQ ?_)|(refine aE rfl rfl rfl (F.sz _ rfl) (by(repeat(first|assumption|exact Tr.ab _ _ _|refine(Tr.aa _ _ (by omega)).trans ?_));done) (ba hpk _ _) (by rw [ba ak];exact zD _) (dD _ _ w1.one w2.one) (dC ak hpk) ?_)|(refine cD rfl rfl rfl rfl (fun hq=>absurd rfl hq) (fun _=>?_))|(refine ay rfl rfl rfl (F.ag _ rfl) (by(repeat(first|assumption|exact Tr.ab _ _ _|refine(Tr.aa _ _ (by omega)).trans ?_));done) (ba hpk _ _) ?_)|refine aq ?_|refine ae ?_|refine ac ?_|refine aH ?_|refine au rfl ?_|(apply aj;exact rfl;exact rfl;exact rfl)|(apply aD;exact rfl;exact rfl;exact rfl;exact rfl)|refine aM rfl rfl rfl rfl (F.sz _ rfl) (by(repeat(first|assumption|refine(Tr.aa _ _ (by omega)).trans ?_));done) rfl (by exact zn rfl) rfl ?_|refine an rfl rfl rfl (F.ag _ rfl) (by(repeat(first|assumption|exact Tr.ab _ _ _|refine(Tr.aa _ _ (by omega)).trans ?_));done) (by exact rfl) ?_|refine ay rfl rfl rfl (F.ag _ rfl) (by(repeat(first|assumption|refine(Tr.aa _ _ (by omega)).trans ?_));done) (by exact rfl) ?_))
 refine aL rfl rfl rfl (by kernel_rfl) (Fnc.mono (hso _ _ (w1.frame (zD _) fun m h1 h2 _=>(by(repeat(refine(Tr.aa _ _ (by omega)).trans ?_));exact rfl))) ?_)
 rintro _ rfl
 dsimp only
 (repeat(first|refine aq ?_|refine ae ?_|refine ac ?_|refine ax rfl ?_|(apply aj;exact rfl;exact rfl;exact rfl)|(apply ai;exact rfl;exact rfl;exact rfl)|(apply aD;exact rfl;exact rfl;exact rfl;exact rfl)|refine aM rfl rfl rfl rfl (F.sz _ rfl) (by(repeat(first|assumption|exact Tr.ab _ _ _));done) rfl (by exact zn rfl) rfl ?_))
 refine jX Tryz.func20 (congrArg Array.toList Tryz.results20) (by kernel_rfl) (Fnc.mono wv ?_)
 rintro _ rfl
 refine⟨_,(by(repeat(first|exact ResIs.nil|apply ResIs.cell rfl (LoadIs.one (F.ag _ rfl) (by(repeat(exact Tr.ab _ _ _));done) (aW rfl))))),?_⟩
 exact⟨rfl,by first|omega|(dsimp only;omega),fun m hm=>by(focus((repeat(refine(Tr.aa _ _ (by omega)).trans ?_));exact do' m hm))⟩
theorem qH{H:aJ}{nx b c k:Nat}{mem:List UInt8}{left:Int}{e:cO}{bs:List Bn.El}{own:List Ow.El}{lf:List Int}(hb:PgAt H b mem left c)(hm:mem.length=28672)(hs:Small mem)(he:kF e=true)(hh:Home mem e bs k own lf)(hd:ir own e=none):Fnc Tryz.prog 19 [q9 b,eO e] H nx
 (fun q=>q.1 = .sc (.int .i64 6)∧nx≤q.2.2∧ ∀ m,m<nx→q.2.1.at' m=H.at' m):=by
 obtain⟨hi,hk1,hk2,hk3⟩:=hh.at
 obtain⟨h0,h28,_⟩:=gG hh.root
 have hp0:=du hm (n:=0) (by decide)
 have hpk:=du hm (n:=k) hk2
 have hlo:=js hh.leaf
 have hsk:=hs k hk2
 refine Fnc.start Tryz.func19 rfl rfl ?_
 refine cn fun hund=>?_
 have hmf:=fun(H:aJ) (nx:Nat)=>nZ e (H:=H) (nx:=nx)
 rw [he] at hmf
 (repeat(first|(refine aL rfl rfl rfl (by kernel_rfl) (Fnc.mono (hmf _ _) ?_);rintro _ rfl;dsimp only)|refine aq ?_|refine ae ?_|refine ac ?_|refine aH ?_|refine au rfl ?_|(apply aj;exact rfl;exact rfl;exact rfl)|(apply aN;exact rfl;exact rfl;exact rfl;exact rfl)|(apply aP;exact rfl;exact rfl;exact(F.zl _ rfl))|(apply bj;exact rfl;exact rfl;exact rfl)|refine ay rfl rfl rfl (F.ag _ rfl) (by(repeat(first|exact Tr.ab _ _ _|refine(Tr.aa _ _ (by omega)).trans ?_));done) (by exact rfl) ?_|(apply bh;exact rfl;exact rfl;exact rfl)|((apply jG;exact rfl;exact rfl;exact rfl;(focus(kernel_rfl))))|(refine cw rfl rfl rfl rfl Tryz.underlying78 rfl ?_)))
 refine aL rfl rfl rfl (by kernel_rfl) (Fnc.mono (ia (hb.frame hund (fun m hm=>by(focus((repeat(refine(Tr.aa _ _ (by omega)).trans ?_));exact rfl)))) hm hs.root) ?_)
 rintro⟨v,H1,n1⟩ ⟨q1,q2,(⟨hn,rfl⟩|⟨bs',r,hbs,rfl,r1,r2,r3⟩)⟩
 ·rw [hh.root] at hn;cases hn
 obtain rfl:bs=bs':=by rw [hh.root] at hbs;cases hbs;rfl
 dsimp only at q1 q2 r1 r2 r3 ⊢
 have b0:H1.at' nx=some (az 25 ((iV e).map .sc)):=(q2 _ (by omega)).trans (by(repeat(first|exact Tr.ab _ _ _|refine(Tr.aa _ _ (by omega)).trans ?_));done)
 have b1:H1.at' (nx+1)=some (md 0):=(q2 _ (by omega)).trans (by(repeat(exact Tr.ab _ _ _));done)
 have bo: ∀ m,m<nx→H1.at' m=H.at' m:=fun m hm=>(q2 m (by omega)).trans (by(repeat(refine(Tr.aa _ _ (by omega)).trans ?_));exact rfl)
 clear q2
 (repeat(first|(refine aP rfl rfl iI ?_)|(apply aE;(exact rfl);(exact rfl);(exact rfl);(exact F.sz _ rfl);(focus((focus((repeat(exact Tr.ab _ _ _));done))));(exact aY hp0);(rw [aY ak];exact zD _);(exact dv _);(exact dt _ _ ak hp0))|(refine cD rfl rfl rfl rfl (fun hq=>absurd rfl hq) (fun _=>?_))|refine aq ?_|refine ae ?_|refine ac ?_|refine aH ?_|refine au rfl ?_|(apply aj;exact rfl;exact rfl;exact rfl)|(apply ai;exact rfl;exact rfl;exact rfl)|(apply aD;exact rfl;exact rfl;exact rfl;exact rfl)|refine aM rfl rfl rfl rfl (F.sz _ rfl) (by(repeat(first|assumption|refine(Tr.aa _ _ (by omega)).trans ?_));done) rfl (by exact zn rfl) rfl ?_|refine an rfl rfl rfl (F.ag _ rfl) (by(repeat(first|assumption|exact Tr.ab _ _ _|refine(Tr.aa _ _ (by omega)).trans ?_));done) (by exact rfl) ?_|refine ay rfl rfl rfl (F.ag _ rfl) (by(repeat(first|assumption|refine(Tr.aa _ _ (by omega)).trans ?_));done) (by exact rfl) ?_))
 refine aL rfl rfl rfl (by kernel_rfl) (Fnc.mono (kG e (by(repeat(refine(Tr.aa _ _ (by omega)).trans ?_));exact r3) h0 (by omega)) ?_)
 rintro _ rfl
 dsimp only
 refine aL rfl rfl rfl (by kernel_rfl) (Fnc.mono (ib (k:=k) (e0:=bs[ep bs e].2) (hb.frame hund (fun m hm=>by(focus((repeat(refine(Tr.aa _ _ (by omega)).trans ?_));exact bo m hm)))) hm (by(repeat(refine(Tr.aa _ _ (by omega)).trans ?_));exact r3) hi (Prod.ext hk3 rfl) hk2 (by omega) (hs.leaf hk2)) ?_)
 rintro⟨v,H8,n8⟩ ⟨p1,p2,(⟨hn,rfl⟩|⟨own',left',so,sl,hown,rfl,w1,w2⟩)⟩
 ·rw [hh.leaf] at hn;cases hn
 obtain⟨rfl,rfl⟩:own=own'∧lf=left':=by rw [hh.leaf] at hown;cases hown;exact⟨rfl,rfl⟩
 dsimp only at p1 p2 w1 w2 ⊢
 have d0:H8.at' nx=some (az 25 ((iV e).map .sc)):=(p2 nx (by omega)).trans (by(repeat(refine(Tr.aa _ _ (by omega)).trans ?_));exact b0)
 have d1:H8.at' (nx+1)=some (md 0):=(p2 (nx+1) (by omega)).trans (by(repeat(exact Tr.ab _ _ _));done)
 have do': ∀ m,m<nx→H8.at' m=H.at' m:=fun m hm=>(p2 m (by omega)).trans (by(repeat(refine(Tr.aa _ _ (by omega)).trans ?_));exact bo m hm)
 clear p2 b0 b1 bo r3
 have hso:=fun(H:aJ) (nx:Nat) (h:OwnAt H so own (n1+1) n8)=>mF (nx:=nx) (N:=((4+k:Nat):Int)) (sl:=sl) hpk h (by omega) e
 rw [hd] at hso
 (repeat(first|(refine aP rfl rfl kQ ?_)|(refine aE rfl rfl rfl (F.sz _ rfl) (by(repeat(first|assumption|exact Tr.ab _ _ _|refine(Tr.aa _ _ (by omega)).trans ?_));done) (ba hpk _ _) (by rw [ba ak];exact zD _) (dD _ _ w1.one w2.one) (dC ak hpk) ?_)|(refine cD rfl rfl rfl rfl (fun hq=>absurd rfl hq) (fun _=>?_))|(refine ay rfl rfl rfl (F.ag _ rfl) (by(repeat(first|assumption|exact Tr.ab _ _ _|refine(Tr.aa _ _ (by omega)).trans ?_));done) (ba hpk _ _) ?_)|refine aq ?_|refine ae ?_|refine ac ?_|refine aH ?_|refine au rfl ?_|(apply aj;exact rfl;exact rfl;exact rfl)|(apply aD;exact rfl;exact rfl;exact rfl;exact rfl)|refine aM rfl rfl rfl rfl (F.sz _ rfl) (by(repeat(first|assumption|refine(Tr.aa _ _ (by omega)).trans ?_));done) rfl (by exact zn rfl) rfl ?_|refine an rfl rfl rfl (F.ag _ rfl) (by(repeat(first|assumption|exact Tr.ab _ _ _|refine(Tr.aa _ _ (by omega)).trans ?_));done) (by exact rfl) ?_|refine ay rfl rfl rfl (F.ag _ rfl) (by(repeat(first|assumption|refine(Tr.aa _ _ (by omega)).trans ?_));done) (by exact rfl) ?_))
 refine aL rfl rfl rfl (by kernel_rfl) (Fnc.mono (hso _ _ (w1.frame (zD _) fun m h1 h2 _=>(by(repeat(refine(Tr.aa _ _ (by omega)).trans ?_));exact rfl))) ?_)
 rintro _ rfl
 dsimp only
 (repeat(first|refine aq ?_|refine ae ?_|refine ac ?_|refine ax rfl ?_|(apply aj;exact rfl;exact rfl;exact rfl)|(apply ai;exact rfl;exact rfl;exact rfl)|(apply aD;exact rfl;exact rfl;exact rfl;exact rfl)|refine aM rfl rfl rfl rfl (F.sz _ rfl) (by(repeat(first|assumption|exact Tr.ab _ _ _));done) rfl (by exact zn rfl) rfl ?_|(apply bh;exact rfl;exact rfl;exact rfl)))
 refine jX Tryz.func19 (congrArg Array.toList Tryz.results19) (by kernel_rfl) (Fnc.mono za ?_)
 rintro _ rfl
 refine⟨_,(by(repeat(first|exact ResIs.nil|apply ResIs.cell rfl (LoadIs.one (F.ag _ rfl) (by(repeat(exact Tr.ab _ _ _));done) (aW rfl))))),?_⟩
 exact⟨rfl,by first|omega|(dsimp only;omega),fun m hm=>by(focus((repeat(refine(Tr.aa _ _ (by omega)).trans ?_));exact do' m hm))⟩
theorem pD{H:aJ}{nx b c k:Nat}{mem:List UInt8}{left:Int}{e:cO}{bs:List Bn.El}{own:List Ow.El}{lf:List Int}(hb:PgAt H b mem left c)(hm:mem.length=28672)(hs:Small mem)(he:kF e=true)(hh:Home mem e bs k own lf){x:List UInt8}{sn:Nat}(hd:ir own e=none)(hi':oY (cP mem k) (cy e)=(x,sn,0))(hx:x.length=1024)(hl:left≠0)(hl2 : -1000000000≤left∧left≤9000000000000000000)(hc:c≤1000000):Fnc Tryz.prog 20 [q9 b,eO e] H nx
 (fun q=>q.1 = .sc (.int .i64 0)∧PgAt q.2.1 b (lN mem k x) (left-1) (c+1)∧nx≤q.2.2∧ ∀ m,m<nx→m≠b→(∀ ws,H.at' m≠some (fQ false c 1025 209 ws))→q.2.1.at' m=H.at' m):=by
 obtain⟨hi,hk1,hk2,hk3⟩:=hh.at
 obtain⟨h0,h28,_⟩:=gG hh.root
 have hp0:=du hm (n:=0) (by decide)
 have hpk:=du hm (n:=k) hk2
 have hlo:=js hh.leaf
 have hsk:=hs k hk2
 refine Fnc.start Tryz.func20 rfl rfl ?_
 refine cn fun hund=>?_
 have hmf:=fun(H:aJ) (nx:Nat)=>nZ e (H:=H) (nx:=nx)
 rw [he] at hmf
 (repeat(first|(refine aL rfl rfl rfl (by kernel_rfl) (Fnc.mono (hmf _ _) ?_);rintro _ rfl;dsimp only)|refine aq ?_|refine ae ?_|refine ac ?_|refine aH ?_|refine au rfl ?_|(apply aj;exact rfl;exact rfl;exact rfl)|(apply aN;exact rfl;exact rfl;exact rfl;exact rfl)|(apply aP;exact rfl;exact rfl;exact(F.zl _ rfl))|(apply bj;exact rfl;exact rfl;exact rfl)|refine ay rfl rfl rfl (F.ag _ rfl) (by(repeat(first|exact Tr.ab _ _ _|refine(Tr.aa _ _ (by omega)).trans ?_));done) (by exact rfl) ?_|(apply bh;exact rfl;exact rfl;exact rfl)|((apply jG;exact rfl;exact rfl;exact rfl;(focus(kernel_rfl))))|(refine cw rfl rfl rfl rfl Tryz.underlying78 rfl ?_)))
 refine aL rfl rfl rfl (by kernel_rfl) (Fnc.mono (ia (hb.frame hund (fun m hm=>by(focus((repeat(refine(Tr.aa _ _ (by omega)).trans ?_));exact rfl)))) hm hs.root) ?_)
 rintro⟨v,H1,n1⟩ ⟨q1,q2,(⟨hn,rfl⟩|⟨bs',r,hbs,rfl,r1,r2,r3⟩)⟩
 ·rw [hh.root] at hn;cases hn
 obtain rfl:bs=bs':=by rw [hh.root] at hbs;cases hbs;rfl
 dsimp only at q1 q2 r1 r2 r3 ⊢
 have b0:H1.at' nx=some (az 25 ((iV e).map .sc)):=(q2 _ (by omega)).trans (by(repeat(first|exact Tr.ab _ _ _|refine(Tr.aa _ _ (by omega)).trans ?_));done)
 have b1:H1.at' (nx+1)=some (md 0):=(q2 _ (by omega)).trans (by(repeat(exact Tr.ab _ _ _));done)
 have bo: ∀ m,m<nx→H1.at' m=H.at' m:=fun m hm=>(q2 m (by omega)).trans (by(repeat(refine(Tr.aa _ _ (by omega)).trans ?_));exact rfl)
 clear q2
 (repeat(first|(refine aP rfl rfl iI ?_)|(apply aE;(exact rfl);(exact rfl);(exact rfl);(exact F.sz _ rfl);(focus((focus((repeat(exact Tr.ab _ _ _));done))));(exact aY hp0);(rw [aY ak];exact zD _);(exact dv _);(exact dt _ _ ak hp0))|(refine cD rfl rfl rfl rfl (fun hq=>absurd rfl hq) (fun _=>?_))|refine aq ?_|refine ae ?_|refine ac ?_|refine aH ?_|refine au rfl ?_|(apply aj;exact rfl;exact rfl;exact rfl)|(apply ai;exact rfl;exact rfl;exact rfl)|(apply aD;exact rfl;exact rfl;exact rfl;exact rfl)|refine aM rfl rfl rfl rfl (F.sz _ rfl) (by(repeat(first|assumption|refine(Tr.aa _ _ (by omega)).trans ?_));done) rfl (by exact zn rfl) rfl ?_|refine an rfl rfl rfl (F.ag _ rfl) (by(repeat(first|assumption|exact Tr.ab _ _ _|refine(Tr.aa _ _ (by omega)).trans ?_));done) (by exact rfl) ?_|refine ay rfl rfl rfl (F.ag _ rfl) (by(repeat(first|assumption|refine(Tr.aa _ _ (by omega)).trans ?_));done) (by exact rfl) ?_))
 refine aL rfl rfl rfl (by kernel_rfl) (Fnc.mono (kG e (by(repeat(refine(Tr.aa _ _ (by omega)).trans ?_));exact r3) h0 (by omega)) ?_)
 rintro _ rfl
 dsimp only
 refine aL rfl rfl rfl (by kernel_rfl) (Fnc.mono (ib (k:=k) (e0:=bs[ep bs e].2) (hb.frame hund (fun m hm=>by(focus((repeat(refine(Tr.aa _ _ (by omega)).trans ?_));exact bo m hm)))) hm (by(repeat(refine(Tr.aa _ _ (by omega)).trans ?_));exact r3) hi (Prod.ext hk3 rfl) hk2 (by omega) (hs.leaf hk2)) ?_)
 rintro⟨v,H8,n8⟩ ⟨p1,p2,(⟨hn,rfl⟩|⟨own',left',so,sl,hown,rfl,w1,w2⟩)⟩
 ·rw [hh.leaf] at hn;cases hn
 obtain⟨rfl,rfl⟩:own=own'∧lf=left':=by rw [hh.leaf] at hown;cases hown;exact⟨rfl,rfl⟩
 dsimp only at p1 p2 w1 w2 ⊢
 have d0:H8.at' nx=some (az 25 ((iV e).map .sc)):=(p2 nx (by omega)).trans (by(repeat(refine(Tr.aa _ _ (by omega)).trans ?_));exact b0)
 have d1:H8.at' (nx+1)=some (md 0):=(p2 (nx+1) (by omega)).trans (by(repeat(exact Tr.ab _ _ _));done)
 have do': ∀ m,m<nx→H8.at' m=H.at' m:=fun m hm=>(p2 m (by omega)).trans (by(repeat(refine(Tr.aa _ _ (by omega)).trans ?_));exact bo m hm)
 clear p2 b0 b1 bo r3
 have hso:=fun(H:aJ) (nx:Nat) (h:OwnAt H so own (n1+1) n8)=>mF (nx:=nx) (N:=((4+k:Nat):Int)) (sl:=sl) hpk h (by omega) e
 rw [hd] at hso
 (repeat(first|(refine aP rfl rfl kQ ?_)|(refine aE rfl rfl rfl (F.sz _ rfl) (by(repeat(first|assumption|exact Tr.ab _ _ _|refine(Tr.aa _ _ (by omega)).trans ?_));done) (ba hpk _ _) (by rw [ba ak];exact zD _) (dD _ _ w1.one w2.one) (dC ak hpk) ?_)|(refine cD rfl rfl rfl rfl (fun hq=>absurd rfl hq) (fun _=>?_))|(refine ay rfl rfl rfl (F.ag _ rfl) (by(repeat(first|assumption|exact Tr.ab _ _ _|refine(Tr.aa _ _ (by omega)).trans ?_));done) (ba hpk _ _) ?_)|refine aq ?_|refine ae ?_|refine ac ?_|refine aH ?_|refine au rfl ?_|(apply aj;exact rfl;exact rfl;exact rfl)|(apply aD;exact rfl;exact rfl;exact rfl;exact rfl)|refine aM rfl rfl rfl rfl (F.sz _ rfl) (by(repeat(first|assumption|refine(Tr.aa _ _ (by omega)).trans ?_));done) rfl (by exact zn rfl) rfl ?_|refine an rfl rfl rfl (F.ag _ rfl) (by(repeat(first|assumption|exact Tr.ab _ _ _|refine(Tr.aa _ _ (by omega)).trans ?_));done) (by exact rfl) ?_|refine ay rfl rfl rfl (F.ag _ rfl) (by(repeat(first|assumption|refine(Tr.aa _ _ (by omega)).trans ?_));done) (by exact rfl) ?_))
 refine aL rfl rfl rfl (by kernel_rfl) (Fnc.mono (hso _ _ (w1.frame (zD _) fun m h1 h2 _=>(by(repeat(refine(Tr.aa _ _ (by omega)).trans ?_));exact rfl))) ?_)
 rintro _ rfl
 dsimp only
 have hlb:=(let ⟨_,h,_⟩:=hb;hund _ _ h)
 (repeat(first|(refine fv rfl rfl rfl (F.ag _ rfl) (by(repeat(first|assumption|exact Tr.ab _ _ _|refine(Tr.aa _ _ (by omega)).trans ?_));done) (tK hpk so sl) ?_)|(refine an rfl rfl rfl (F.ag _ rfl) (by(repeat(first|assumption|exact Tr.ab _ _ _|refine(Tr.aa _ _ (by omega)).trans ?_));done) (cM hpk so sl 1) ?_)|refine aq ?_|refine ae ?_|refine ac ?_|refine aH ?_|refine au rfl ?_|(apply aj;exact rfl;exact rfl;exact rfl)|(apply ai;exact rfl;exact rfl;exact rfl)|(apply aD;exact rfl;exact rfl;exact rfl;exact rfl)|(apply ap;exact rfl;exact rfl;exact rfl;exact(F.fo _ _ rfl rfl))|refine ay rfl rfl rfl (F.ag _ rfl) (by(repeat(first|assumption|refine(Tr.aa _ _ (by omega)).trans ?_));done) (by exact rfl) ?_))
 refine aL rfl rfl rfl (by kernel_rfl) (Fnc.mono (uL e hpk hx he hi') ?_)
 rintro⟨_,H9,n9⟩ ⟨rfl,g1,g2⟩
 dsimp only at g1 g2 ⊢
 have f1:H9.at' (nx+1)=some (md 0):=(g2 (nx+1) (by omega)).trans (by(repeat(exact Tr.ab _ _ _));done)
 have f2:H9.at' n8=some (ey ((4+k:Nat):Int) (cP mem k) so sl):=(g2 n8 (by omega)).trans (by(repeat(first|exact Tr.ab _ _ _|refine(Tr.aa _ _ (by omega)).trans ?_));done)
 have fo: ∀ m,m<nx→H9.at' m=H.at' m:=fun m hm=>(g2 m (by omega)).trans (by(repeat(refine(Tr.aa _ _ (by omega)).trans ?_));exact do' m hm)
 clear g2 do' d0 d1
 (repeat(first|(refine aP rfl rfl iI ?_)|(apply aE;(exact rfl);(exact rfl);(exact rfl);(exact F.sz _ rfl);(focus((focus((repeat(exact Tr.ab _ _ _));done))));(exact aY hx);(rw [aY ak];exact zD _);(exact dv _);(exact dt _ _ ak hx))|(apply ay;(exact rfl);(exact rfl);(exact rfl);(exact F.ag _ rfl);(focus((focus((repeat(exact Tr.ab _ _ _));done))));(exact aY hx))|(refine an rfl rfl rfl (F.ag _ rfl) (by(repeat(refine(Tr.aa _ _ (by omega)).trans ?_));exact f2) rfl ?_)|refine aq ?_|refine ae ?_|refine ac ?_|refine ax rfl ?_|(apply aj;exact rfl;exact rfl;exact rfl)|(apply ai;exact rfl;exact rfl;exact rfl)|(apply aD;exact rfl;exact rfl;exact rfl;exact rfl)|(apply ap;exact rfl;exact rfl;exact rfl;exact(F.fo _ _ rfl rfl))))
 refine ki (R:=fun Hb nb=>n9+1=nb∧Hb.at' (nx+1)=some (md 0)∧ ∀ m,m<nx→Hb.at' m=H.at' m) ⟨rfl,by(focus((repeat(refine(Tr.aa _ _ (by omega)).trans ?_));exact f1)),fun m hm=>by(focus((repeat(refine(Tr.aa _ _ (by omega)).trans ?_));exact fo m hm))⟩ ?_
 clear f1 f2 fo
 rintro Hb nb ⟨rfl,f1,fo⟩
 refine ks 149 rfl rfl rfl rfl (by kernel_rfl) (Fnc.mono (sX (n:=k) (hb.frame hund fo) hm hk2 hx hl hl2 hc) ?_)
 rintro⟨_,Ha,na⟩ ⟨rfl,⟨s,z1,z1'⟩,z2,z3⟩
 dsimp only at z1 z1' z2 z3 ⊢
 have y1:Ha.at' (nx+1)=some (md 0):=(z3 (nx+1) (by omega) (by omega) (gU f1)).trans f1
 have yo: ∀ m,m<nx→m≠b→(∀ ws,H.at' m≠some (fQ false c 1025 209 ws))→Ha.at' m=H.at' m:=fun m h1 h2 h3=>(z3 m (by omega) h2 (fun ws h=>h3 ws ((fo m h1).symm.trans h))).trans (fo m h1)
 clear z3 f1 fo
 (repeat(first|refine ac ?_|refine aM rfl rfl rfl rfl (F.sz _ rfl) (by assumption) rfl (by exact zn rfl) rfl ?_))
 refine jX Tryz.func20 (congrArg Array.toList Tryz.results20) (by kernel_rfl) (Fnc.mono wv ?_)
 rintro _ rfl
 refine⟨_,(by(repeat(first|exact ResIs.nil|apply ResIs.cell rfl (LoadIs.one (F.ag _ rfl) (by(repeat(exact Tr.ab _ _ _));done) (aW rfl))))),?_⟩
 exact⟨rfl,⟨s,by(focus((repeat(refine(Tr.aa _ _ (by omega)).trans ?_));exact z1)),z1'.frame fun r ws hr=>(by have hrn:r≠nx+1:=(by rintro rfl;exact gU y1 ws hr);(focus((repeat(refine(Tr.aa _ _ (by omega)).trans ?_));exact rfl)))⟩,by first|omega|(dsimp only;omega),fun m h1 h2 h3=>by(focus((repeat(refine(Tr.aa _ _ (by omega)).trans ?_));exact yo m h1 h2 h3))⟩
end Go.Proofs.YtjjgjjlgchidlaaGreat
end
section
namespace Go.Sy.Nd
open Go Go.Sy Go.Sl Go.RowKit
section
variable (P:Program) (E:Nat→Tr SV→aJ→Nat→Oper→Res→Prop) (nt:Nat) (ops:Array Oper) (T0:Tr SV)
def Src(R:List Rec)(i:Nat)(t:Nat)(s:SV):Prop:=
 (∃ (k:Nat) (r:Rec),k<i∧R[k]? =some r∧r.o.dst=some t∧r.val=s)∨((∀ (k:Nat) (r:Rec),k<i→R[k]? =some r→r.o.dst≠some t)∧T0.at' t=some s)
structure RecOK (R:List Rec) (Q:List (aJ×Nat)) (C:List Nat) (i:Nat) (r:Rec):Prop where
 idx:r.i=i
 op:ops[i]? =some r.o
 slots: ∀ t s,r.T.at' t=some s→Operand.tmp t∈aF ops.toList r.o∧Src T0 R i t s
 want:ar r.T ops r.o=some r.wanted
 skip:r.wanted=false→r.val=de∧r.chain=false
 float:r.wanted=true→r.chain=false→(∀ c,r.o.op ≠ .defer c)∧ ∃ H n,Q[r.stg]? =some (H,n)∧ReadDoes P r.T H r.o r.val
 eff:r.chain=true→r.wanted=true∧C[r.stg]? =some i∧ ∃ H n H' n',Q[r.stg]? =some (H,n)∧Q[r.stg+1]? =some (H',n')∧E i r.T H n r.o (r.val,H',n')
structure DSOK (i:Nat) (s:DS):Prop where
 len:s.recs.length=i
 hs:s.Hs.length=s.stg+1
 last:s.Hs.reverse[s.stg]? =some (s.H,s.nx)
 cnt:((s.recs.reverse.filter (·.chain)).map (·.i)).length=s.stg
 recs: ∀ (k:Nat) r,s.recs.reverse[k]? =some r→RecOK P E ops T0 s.recs.reverse s.Hs.reverse ((s.recs.reverse.filter (·.chain)).map (·.i)) k r
 slots: ∀ t v,s.T.at' t=some v→Src T0 s.recs.reverse i t v
end
section
variable {P:Program} {rn:Rn} {E:Nat→Tr SV→aJ→Nat→Oper→Res→Prop} {nt:Nat} {ops:Array Oper} {T0:Tr SV}
theorem Src.mono{R R':List Rec}{i:Nat}{t:Nat}{s:SV}(h:Src T0 R i t s)(hR: ∀ k,k<i→R'[k]? =R[k]?):Src T0 R' i t s:=by
 rcases h with ⟨k,r,h1,h2,h3,h4⟩|⟨h1,h2⟩
 ·exact .inl ⟨k,r,h1,by rw [hR k h1];exact h2,h3,h4⟩
 ·exact .inr ⟨fun k r hk hr=>h1 k r hk (by rw [← hR k hk];exact hr),h2⟩
theorem RecOK.mono{R R':List Rec}{Q Q':List (aJ×Nat)}{C C':List Nat}{i:Nat}{r:Rec}(h:RecOK P E ops T0 R Q C i r)(hR: ∀ k,k<i→R'[k]? =R[k]?)(hQ: ∀ (j:Nat) x,Q[j]? =some x→Q'[j]? =some x)(hC: ∀ (j:Nat) x,C[j]? =some x→C'[j]? =some x) :
 RecOK P E ops T0 R' Q' C' i r:=
 ⟨h.idx,h.op,fun t s hs=>let ⟨a,b⟩:=h.slots t s hs;⟨a,b.mono hR⟩,h.want,h.skip,fun a b=>let ⟨x,H,n,c,d⟩:=h.float a b;⟨x,H,n,hQ _ _ c,d⟩,
   fun a=>let ⟨b,c,H,n,H',n',d,e,f⟩:=h.eff a;⟨b,hC _ _ c,H,n,H',n',hQ _ _ d,hQ _ _ e,f⟩⟩
theorem gf{A:Type}{l:List A}{x y:A}{j:Nat}(h:l[j]? =some y):(l ++ [x])[j]? =some y:=by
 rw [zA (zm.1 h).1];exact h
theorem dO{A:Type}(l:List A)(x:A):(l ++ [x])[l.length]? =some x:=by simp
theorem DSOK.snoc{i:Nat}{s:DS}(h:DSOK P E ops T0 i s)(hdst: ∀ (j:Nat) o d,ops.toList[j]? =some o→o.dst=some d→d<nt){r:Rec}{H:aJ}{nx:Nat}{Hs:List (aJ×Nat)}{stg:Nat}(ho:ops[i]? =some r.o)
 (hlen:Hs.length=stg+1) (hlast:Hs.reverse[stg]? =some (H,nx)) (hQ: ∀ (j:Nat) x,s.Hs.reverse[j]? =some x→Hs.reverse[j]? =some x) (hcnt:(if r.chain then s.stg+1 else s.stg)=stg)
 (hrec:RecOK P E ops T0 (s.recs.reverse ++ [r]) Hs.reverse (((s.recs.reverse ++ [r]).filter (·.chain)).map (·.i)) i r):DSOK P E ops T0 (i+1) ⟨gv nt s.T r.o.dst r.val,H,nx,r :: s.recs,Hs,stg⟩:=by
 have hR: ∀ k,k<i→(s.recs.reverse ++ [r])[k]? =s.recs.reverse[k]? :=fun k hk=>zA (by simp [h.len];exact hk)
 have hri:(s.recs.reverse ++ [r])[i]? =some r:=by have:=dO s.recs.reverse r;rw [List.length_reverse,h.len] at this;exact this
 refine⟨by simp [h.len],hlen,hlast,?_,fun k r' hr'=>?_,fun t v hv=>?_⟩
 ·simp only [List.reverse_cons,List.filter_append,zI,zH,h.cnt]
  rw [← hcnt]
  cases hc:r.chain <;> simp [List.filter_cons,hc]
 ·simp only [List.reverse_cons] at hr' ⊢
  rcases Nat.lt_or_ge k i with hk|hk
  ·rw [hR k hk] at hr'
   refine(h.recs k r' hr').mono (fun k' hk'=>hR k' (by omega)) hQ (fun j x hj=>?_)
   rw [List.filter_append,zI]
   rw [zA (zm.1 hj).1]
   exact hj
  ·have:k=i:=by
    have:=(zm.1 hr').1
    simp [h.len] at this
    omega
   subst this
   rw [hri] at hr'
   simp only [zh] at hr'
   subst hr'
   exact hrec
 ·simp only [List.reverse_cons] at hv ⊢
  have old:s.T.at' t=some v→r.o.dst≠some t→Src T0 (s.recs.reverse ++ [r]) (i+1) t v:=by
   intro hv hne
   rcases h.slots t v hv with ⟨k,r',h1,h2,h3,h4⟩|⟨h1,h2⟩
   ·exact .inl ⟨k,r',by omega,by rw [hR k h1];exact h2,h3,h4⟩
   ·refine .inr ⟨fun k r' hk hr'=>?_,h2⟩
    rcases Nat.lt_or_ge k i with hk'|hk'
    ·rw [hR k hk'] at hr'
     exact h1 k r' hk' hr'
    ·have:k=i:=by omega
     subst this
     rw [hri] at hr'
     simp only [zh] at hr'
     subst hr'
     exact hne
  cases hd:r.o.dst with
  | none=>rw [hd] at hv old;exact old hv (by simp)
  | some d=>
    rw [hd] at hv
    have hlt:=hdst i r.o d (by simpa using ho) hd
    simp only [gv,show Nat.blt d nt=true from zp hlt,cond_true] at hv
    rcases Tr.b8 hv with ⟨rfl,rfl⟩|⟨hne,hv⟩
    ·exact .inl ⟨i,r,by omega,hri,hd,rfl⟩
    ·exact old hv (by rw [hd];simp;exact fun hc=>hne hc.symm)
theorem fK{i:Nat}{o:Oper}{s s':DS}(hE: ∀ T H nx r,eD P rn T H nx o r→E i T H nx o r)(h:DSOK P E ops T0 i s)(hdst: ∀ (j:Nat) o d,ops.toList[j]? =some o→o.dst=some d→d<nt)(ho:ops[i]? =some o)(hd:pQ P rn nt ops i o s s'):DSOK P E ops T0 (i+1) s':=by
 have hslots: ∀ (R:List Rec),(∀ k,k<i→R[k]? =s.recs.reverse[k]?)→ ∀ t v,(aG s.T (aF ops.toList o)).at' t=some v→Operand.tmp t∈aF ops.toList o∧Src T0 R i t v:=by
  intro R hR t v hv
  obtain⟨h1,h2⟩:=ga _ t v hv
  exact⟨h1,(h.slots t v h2).mono hR⟩
 have hR: ∀ (r:Rec) k,k<i→(s.recs.reverse ++ [r])[k]? =s.recs.reverse[k]? :=fun r k hk=>zA (by simp [h.len];exact hk)
 rcases hd with ⟨hw,rfl⟩|⟨hw,hnd,v,hf,rfl⟩|⟨hw,v,H,nx,he,rfl⟩
 ·exact h.snoc (r:=⟨i,o,_,s.stg,false,false,de⟩) hdst ho h.hs h.last (fun _ _ hj=>hj) rfl
   ⟨rfl,ho,hslots _ (hR _),hw,fun _=>⟨rfl,rfl⟩,fun hc _=>(by cases hc),fun hc=>(by cases hc)⟩
 ·exact h.snoc (r:=⟨i,o,_,s.stg,false,true,v⟩) hdst ho h.hs h.last (fun _ _ hj=>hj) rfl
   ⟨rfl,ho,hslots _ (hR _),hw,fun hc=>(by cases hc),fun _ _=>⟨hnd,s.H,s.nx,h.last,hf⟩,fun hc=>(by cases hc)⟩
 ·have hl:=h.hs
  have hq: ∀ (j:Nat) x,s.Hs.reverse[j]? =some x→((H,nx) :: s.Hs).reverse[j]? =some x:=fun j x hj=>by rw [List.reverse_cons];exact gf hj
  have hlast:((H,nx) :: s.Hs).reverse[s.stg+1]? =some (H,nx):=by
   rw [List.reverse_cons]
   have:=dO s.Hs.reverse (H,nx)
   rw [List.length_reverse,hl] at this
   exact this
  refine h.snoc (r:=⟨i,o,_,s.stg,true,true,v⟩) hdst ho (by simp [hl]) hlast hq rfl
   ⟨rfl,ho,hslots _ (hR _),hw,fun hc=>(by cases hc),fun _ hc=>(by cases hc),fun _=>⟨rfl,?_,s.H,s.nx,H,nx,hq _ _ h.last,hlast,hE _ _ _ _ he⟩⟩
  simp only [List.filter_append,zI,List.filter_cons,if_true,List.filter_nil,zF,List.map_nil]
  have:=dO ((s.recs.reverse.filter (·.chain)).map (·.i)) i
  rw [h.cnt] at this
  exact this
theorem iX(hdst: ∀ (j:Nat) o d,ops.toList[j]? =some o→o.dst=some d→d<nt): ∀ (l:List Oper) (i:Nat) (s s':DS),(∀ (k:Nat) o,l[k]? =some o→ops[i+k]? =some o∧ ∀ T H nx r,eD P rn T H nx o r→E (i+k) T H nx o r)→DSOK P E ops T0 i s→DrawRun P rn nt ops i l s s'→DSOK P E ops T0 (i+l.length) s'
 | [],i,s,s',_,h,hd=>by
   cases hd
   exact h
 | o :: l,i,s,s',hl,h,hd=>by
   cases hd with
   | cons hone hd=>
     obtain⟨ho,hE⟩:=hl 0 o rfl
     have:=iX hdst l (i+1) _ s' (fun k o' hk=>by
      have:=hl (k+1) o' (by simpa using hk)
      rw [show i+1+k=i+(k+1) by omega]
      exact this) (fK hE h hdst ho hone) hd
     rw [zG,show i+(l.length+1)=i+1+l.length by omega]
     exact this
end
def pP(P:Program)(K:Zone)(w0:World)(nt:Nat)(ops:Array Oper)(E:Nat→Tr SV→aJ→Nat→Oper→Res→Prop)(i:Nat):Prop:=
 ∀ {e:Env} {w:World} {H:aJ} {n:Nat} {T:Tr SV} {tr:Array Value} {fn:FuncId} {rest:List Nat} {k:List Item} {ds:List Deferred} {kd:CallKind} {rof:Option Nat} {cs:List Frame} {o:Oper} {v:SV} {H2:aJ} {n2:Nat},St K w0 e H n w→TRel e nt T tr→ops[i]? =some o→Region.wanted o (yielded ops tr)=true→E i T H n o (v,H2,n2) →
  ∃ e' w' u,e.le e'∧St K w0 e' H2 n2 w'∧v.conc e'=some u∧Steps P (lone (fr0 fn tr (.inRegion ops (i :: rest) :: k) ds kd rof) cs w) (lone (fr0 fn (fR tr o.dst u) (.inRegion ops rest :: k) ds kd rof) cs w')
section
variable {P:Program} {K:Zone} {w0 w:World} {e:Env} {H:aJ} {nx:Nat} {E:Nat→Tr SV→aJ→Nat→Oper→Res→Prop}
structure RegOK (P:Program) (E:Nat→Tr SV→aJ→Nat→Oper→Res→Prop) (nt:Nat) (ops:Array Oper) (T0:Tr SV) (R:List Rec) (Q:List (aJ×Nat)) (C:List Nat):Prop where
 len:R.length=ops.size
 recs: ∀ (k:Nat) r,R[k]? =some r→RecOK P E ops T0 R Q C k r
 stages:Q.length=C.length+1
 chainR:C=(R.filter (·.chain)).map (·.i)
 chain:dT (bM [] ops.toList) C=true
 floats: ∀ r∈R,r.chain=false→r.wanted=true→(∀ c,r.o.op ≠ .defer c)∧ ∀ s,eM ((bM [] ops.toList).getD r.i 0) C≤s→s≤dc (bM [] ops.toList) r.i C→ ∀ H n,Q[s]? =some (H,n)→ReadDoes P r.T H r.o r.val
 small: ∀ (i:Nat) o d,ops.toList[i]? =some o→o.dst=some d→d<nt
 dist: ∀ (i j:Nat) oi oj d,ops.toList[i]? =some oi→ops.toList[j]? =some oj→oi.dst=some d→oj.dst=some d→i=j
 edges: ∀ (i:Nat) o,ops.toList[i]? =some o→eC i o.after.toList=true
 opnds: ∀ (i:Nat) o,ops.toList[i]? =some o→cT ops.toList (bM [] ops.toList) i ((bM [] ops.toList).getD i 0) (aF ops.toList o)=true
def rT(T0:Tr SV)(R:List Rec)(L:Nat→Prop)(t:Nat)(s:SV):Prop:=
 (∃ (k:Nat) (r:Rec),L k∧R[k]? =some r∧r.o.dst=some t∧r.val=s)∨((∀ (k:Nat) (r:Rec),L k→R[k]? =some r→r.o.dst≠some t)∧T0.at' t=some s)
structure PInv (K:Zone) (w0:World) (nt:Nat) (ops:Array Oper) (T0:Tr SV) (R:List Rec) (Q:List (aJ×Nat)) (C:List Nat) (L:Nat→Prop) (s:Nat) (e:Env) (w:World) (tr:Array Value):Prop where
 st: ∃ H n,Q[s]? =some (H,n)∧St K w0 e H n w
 size:tr.size=nt
 good: ∀ t sv,rT T0 R L t sv→ ∃ v,sv.conc e=some v∧tr.getD t undef=v
 chain: ∀ (j c:Nat),C[j]? =some c→(L c↔j<s)
 closed: ∀ (i:Nat) o,L i→ops.toList[i]? =some o→ ∀ ed∈o.after.toList,Region.binds .any ed=true→L ed.on
variable {nt:Nat} {ops:Array Oper} {T0:Tr SV} {R:List Rec} {Q:List (aJ×Nat)} {C:List Nat}
theorem PInv.need(hR:RegOK P E nt ops T0 R Q C){L:Nat→Prop}{s:Nat}{tr:Array Value}(h:PInv K w0 nt ops T0 R Q C L s e w tr){i:Nat}{o:Oper}(ho:ops[i]? =some o)(hni: ¬ L i)
 (hed: ∀ ed∈o.after.toList,Region.binds .any ed=true→L ed.on) {r:Rec} (hr:R[i]? =some r):TRel e nt r.T tr∧Region.wanted o (yielded ops tr)=r.wanted:=by
 have hoL:ops.toList[i]? =some o:=by simpa using ho
 have hilt:i<ops.size:=(zt.1 ho).1
 have hrec:=hR.recs i r hr
 have hro:r.o=o:=by
  have:=hrec.op
  rw [ho] at this
  simpa using this.symm
 have hanc:=br L hR.edges (fun i o hi ho'=>h.closed i o hi ho') i o hoL hed
 have hT:TRel e nt r.T tr:=by
  refine⟨h.size,fun t sv ht=>?_⟩
  obtain⟨hneed,hsrc⟩:=hrec.slots t sv ht
  rw [hro] at hneed
  have hwr: ∀ (k':Nat) o',ops.toList[k']? =some o'→o'.dst=some t→(L k'∧k'<i)∨(¬ L k'∧i<k'):=fun k' o' ho' hd'=>by
   rcases dk hR.dist (hR.opnds i o hoL) t hneed k' o' ho' hd' with hb|hb
   ·exact .inl (hanc k' hb)
   ·refine .inr ⟨fun hL=>?_,?_⟩
    ·exact hni (br L hR.edges (fun i o hi ho'=>h.closed i o hi ho') k' o' ho' (h.closed k' o' hL ho') i hb).1
    ·exact(br (fun _=>True) hR.edges (fun _ _ _ _ _ _ _=>trivial) k' o' ho' (fun _ _ _=>trivial) i hb).2
  refine h.good t sv ?_
  rcases hsrc with ⟨k',r',h1,h2,h3,h4⟩|⟨h1,h2⟩
  ·have hop:=(hR.recs k' r' h2).op
   rcases hwr k' r'.o (by simpa using hop) h3 with g|g
   ·exact .inl ⟨k',r',g.1,h2,h3,h4⟩
   ·omega
  ·refine .inr ⟨fun k' r' hLk hr' hd'=>?_,h2⟩
   have hop:=(hR.recs k' r' hr').op
   rcases hwr k' r'.o (by simpa using hop) hd' with g|g
   ·exact h1 k' r' g.2 hr' hd'
   ·exact g.1 hLk
 have hwant:=eh hrec.want hT
 rw [hro] at hwant
 exact⟨hT,hwant⟩
theorem PInv.step(hR:RegOK P E nt ops T0 R Q C){L:Nat→Prop}{s:Nat}{tr:Array Value}(h:PInv K w0 nt ops T0 R Q C L s e w tr){i:Nat}{o:Oper}(ho:ops[i]? =some o)(hni: ¬ L i)
 (hed: ∀ ed∈o.after.toList,Region.binds .any ed=true→L ed.on) (fn:FuncId) (rest:List Nat) (k:List Item) (ds:List Deferred) (kd:CallKind) (rof:Option Nat) (cs:List Frame) (hX: ∀ r,R[i]? =some r→r.chain=true→ ∀ H n H2 n2,Q[s]? =some (H,n)→Q[s+1]? =some (H2,n2)→E i r.T H n o (r.val,H2,n2)→St K w0 e H n w→TRel e nt r.T tr→Region.wanted o (yielded ops tr)=true→ ∃ e' w' u,e.le e'∧St K w0 e' H2 n2 w'∧r.val.conc e'=some u∧Steps P (lone (fr0 fn tr (.inRegion ops (i :: rest) :: k) ds kd rof) cs w) (lone (fr0 fn (fR tr o.dst u) (.inRegion ops rest :: k) ds kd rof) cs w')) :
 ∃ e' w' tr' s',e.le e'∧PInv K w0 nt ops T0 R Q C (fun j=>L j∨j=i) s' e' w' tr' ∧
  Steps P (lone (fr0 fn tr (.inRegion ops (i :: rest) :: k) ds kd rof) cs w) (lone (fr0 fn tr' (.inRegion ops rest :: k) ds kd rof) cs w'):=by
 have hoL:ops.toList[i]? =some o:=by simpa using ho
 have hilt:i<ops.size:=(zt.1 ho).1
 obtain⟨r,hr⟩: ∃ r,R[i]? =some r:=⟨_,zk (by rw [hR.len];exact hilt)⟩
 have hrec:=hR.recs i r hr
 have hro:r.o=o:=by
  have:=hrec.op
  rw [ho] at this
  simpa using this.symm
 have hanc:=br L hR.edges (fun i o hi ho'=>h.closed i o hi ho') i o hoL hed
 have hT:TRel e nt r.T tr:=by
  refine⟨h.size,fun t sv ht=>?_⟩
  obtain⟨hneed,hsrc⟩:=hrec.slots t sv ht
  rw [hro] at hneed
  have hwr: ∀ (k':Nat) o',ops.toList[k']? =some o'→o'.dst=some t→(L k'∧k'<i)∨(¬ L k'∧i<k'):=fun k' o' ho' hd'=>by
   rcases dk hR.dist (hR.opnds i o hoL) t hneed k' o' ho' hd' with hb|hb
   ·exact .inl (hanc k' hb)
   ·refine .inr ⟨fun hL=>?_,?_⟩
    ·exact hni (br L hR.edges (fun i o hi ho'=>h.closed i o hi ho') k' o' ho' (h.closed k' o' hL ho') i hb).1
    ·exact(br (fun _=>True) hR.edges (fun _ _ _ _ _ _ _=>trivial) k' o' ho' (fun _ _ _=>trivial) i hb).2
  refine h.good t sv ?_
  rcases hsrc with ⟨k',r',h1,h2,h3,h4⟩|⟨h1,h2⟩
  ·have hop:=(hR.recs k' r' h2).op
   rcases hwr k' r'.o (by simpa using hop) h3 with g|g
   ·exact .inl ⟨k',r',g.1,h2,h3,h4⟩
   ·omega
  ·refine .inr ⟨fun k' r' hLk hr' hd'=>?_,h2⟩
   have hop:=(hR.recs k' r' hr').op
   rcases hwr k' r'.o (by simpa using hop) hd' with g|g
   ·exact h1 k' r' g.2 hr' hd'
   ·exact g.1 hLk
 have hwant:=eh hrec.want hT
 rw [hro] at hwant
 have build: ∀ (e':Env) (w':World) (u:Value) (s':Nat),e.le e'→(∃ H n,Q[s']? =some (H,n)∧St K w0 e' H n w')→r.val.conc e'=some u→(∀ (j c:Nat),C[j]? =some c→((L c∨c=i)↔j<s')) →
  PInv K w0 nt ops T0 R Q C (fun j=>L j∨j=i) s' e' w' (fR tr o.dst u):=by
  intro e' w' u s' hle hst hu hch
  refine⟨hst,?_,fun t sv hg=>?_,hch,fun j oj hj hoj ed hed' hb=>?_⟩
  ·unfold fR
   cases o.dst with
   | none=>exact h.size
   | some d=>simpa using h.size
  ·have old:(∀ d,o.dst=some d→d≠t)→ ∃ v,sv.conc e'=some v∧(fR tr o.dst u).getD t undef=v:=by
    intro hne
    have hg':rT T0 R L t sv:=by
     rcases hg with ⟨k',r',hk',h2,h3,h4⟩|hg
     ·refine .inl ⟨k',r',?_,h2,h3,h4⟩
      rcases hk' with hk'|rfl
      ·exact hk'
      ·exfalso
       rw [hr] at h2
       simp only [zh] at h2
       subst h2
       rw [hro] at h3
       exact hne t h3 rfl
     ·exact .inr ⟨fun k' r' hLk=>hg.1 k' r' (.inl hLk),hg.2⟩
    obtain⟨v,hv,hgv⟩:=h.good t sv hg'
    refine⟨v,SV.cm hle _ _ hv,?_⟩
    cases hd:o.dst with
    | none=>exact hgv
    | some d=>
      have:=hne d hd
      simp only [fR]
      rw [zo,Array.getElem?_setIfInBounds_ne this,←zo]
      exact hgv
   cases hd:o.dst with
   | none=>rw [hd] at old;exact old (fun d hd'=>by cases hd')
   | some d=>
     by_cases hdt:d=t
     ·subst hdt
      have hval:sv=r.val:=by
       rcases hg with ⟨k',r',hk',h2,h3,h4⟩|⟨h1,_⟩
       ·have hop:=(hR.recs k' r' h2).op
        have:=hR.dist k' i r'.o o d (by simpa using hop) hoL h3 hd
        subst this
        rw [hr] at h2
        simp only [zh] at h2
        subst h2
        exact h4.symm
       ·exact absurd (by rw [hro];exact hd) (h1 i r (.inr rfl) hr)
      subst hval
      refine⟨u,hu,?_⟩
      have hlt:=hR.small i o d hoL hd
      simp only [fR]
      rw [zo,Array.getElem?_setIfInBounds_self_of_lt (by rw [h.size];exact hlt)]
      rfl
     ·rw [hd] at old
      exact old (fun d' hd'=>by simp only [zh] at hd';subst hd';exact hdt)
  ·rcases hj with hj|rfl
   ·exact .inl (h.closed j oj hj hoj ed hed' hb)
   ·rw [hoL] at hoj
    simp only [zh] at hoj
    subst hoj
    exact .inl (hed ed hed' hb)
 have notChain:r.chain=false→ ∀ (j c:Nat),C[j]? =some c→((L c∨c=i)↔j<s):=by
  intro hc j c hj
  have hne:c≠i:=by
   rintro rfl
   rw [hR.chainR] at hj
   rw [List.getElem?_map,zr] at hj
   obtain⟨r',hr',hi'⟩:=hj
   have hmem:=zw hr'
   rw [List.mem_filter] at hmem
   obtain⟨k',hk'⟩:=List.mem_iff_getElem?.1 hmem.1
   have:=(hR.recs k' r' hk').idx
   rw [hi'] at this
   subst this
   rw [hr] at hk'
   simp only [zh] at hk'
   subst hk'
   rw [hc] at hmem
   simp at hmem
  rw [← h.chain j c hj]
  simp [hne]
 obtain⟨H,n,hQ,hS⟩:=h.st
 cases hwd:r.wanted with
 | false=>
   rw [hwd] at hwant
   obtain⟨h1,h2⟩:=hrec.skip hwd
   exact⟨e,w,_,s,Env.le_refl e,build e w undef s (Env.le_refl e) ⟨H,n,hQ,hS⟩ (by rw [h1];rfl) (notChain h2),.one (eH ho hwant)⟩
 | true=>
   rw [hwd] at hwant
   cases hc:r.chain with
   | false=>
     have hri:=hrec.idx
     have hlo:eM ((bM [] ops.toList).getD r.i 0) C≤s:=by
      rcases Nat.lt_or_ge s (eM ((bM [] ops.toList).getD r.i 0) C)with hlt|hge
      ·exfalso
       obtain⟨c,h1,h2⟩:=jq s hlt
       rw [hri] at h2
       have:=(h.chain s c h1).1 (hanc c h2).1
       omega
      ·exact hge
     have hhi:s≤dc (bM [] ops.toList) r.i C:=by
      rcases Nat.lt_or_ge (dc (bM [] ops.toList) r.i C) s with hlt|hge
      ·exfalso
       have hsC:s≤C.length:=by
        have:=(zm.1 hQ).1
        have:=hR.stages
        omega
       obtain⟨c,h1,h2⟩:=gN (ancs:=bM [] ops.toList) (i:=r.i) (l:=C) (by omega)
       have hLc:=(h.chain _ c h1).2 hlt
       have hcl:c<ops.size:=by
        have hcm:=zw h1
        rw [hR.chainR,List.mem_map] at hcm
        obtain⟨r',hr',rfl⟩:=hcm
        rw [List.mem_filter] at hr'
        obtain⟨k',hk'⟩:=List.mem_iff_getElem?.1 hr'.1
        have hx:=hR.recs k' r' hk'
        rw [hx.idx]
        exact(zt.1 hx.op).1
       have hoc:ops.toList[c]? =some (ops.toList[c]'(by simpa using hcl)):=zk (by simpa using hcl)
       have:=br L hR.edges (fun i o hi ho'=>h.closed i o hi ho') c _ hoc (h.closed c _ hLc hoc) r.i h2
       rw [hri] at this
       exact hni this.1
      ·exact hge
     have hf:=(hR.floats r (zw hr) hc hwd).2 s hlo hhi H n hQ
     have hnd:=(hR.floats r (zw hr) hc hwd).1
     rw [hro] at hf hnd
     obtain⟨u,hu,hst⟩:=gg (P:=P) (fn:=fn) (rest:=rest) (k:=k) (ds:=ds) (kd:=kd) (rof:=rof) (cs:=cs) hS hT ho hwant hnd hf
     exact⟨e,w,_,s,Env.le_refl e,build e w u s (Env.le_refl e) ⟨H,n,hQ,hS⟩ hu (notChain hc),hst⟩
   | true=>
     obtain⟨_,hC,H1,n1,H2,n2,hQ1,hQ2,heff⟩:=hrec.eff hc
     have hss:r.stg=s:=by
      have h1: ¬ r.stg<s:=fun hlt=>hni ((h.chain r.stg i hC).2 hlt)
      rcases Nat.eq_zero_or_pos r.stg with h0|hp
      ·omega
      ·have hlt:r.stg-1<C.length:=by
        have:=(zm.1 hC).1
        omega
       have hprev:C[r.stg-1]? =some C[r.stg-1]:=zk hlt
       have hbit:=fM hR.chain (r.stg-1) C[r.stg-1] i hprev (by rw [show r.stg-1+1=r.stg by omega];exact hC)
       have:=(h.chain _ _ hprev).1 (hanc _ hbit).1
       omega
     rw [hss] at hQ1 hQ2 hC
     rw [hQ] at hQ1
     simp only [zh,zq] at hQ1
     obtain⟨rfl,rfl⟩:=hQ1
     rw [hro] at heff
     obtain⟨e',w',u,hle,hS',hu,hst⟩:=hX r hr hc H n H2 n2 hQ hQ2 heff hS hT hwant
     refine⟨e',w',_,s+1,hle,build e' w' u (s+1) hle ⟨H2,n2,hQ2,hS'⟩ hu (fun j c hj=>?_),hst⟩
     constructor
     ·rintro(hL|rfl)
      ·have:=(h.chain j c hj).1 hL;omega
      ·rcases Nat.lt_or_ge j (s+1)with hlt|hge
       ·exact hlt
       ·exfalso
        have hi1:=chain_inj hR hC hj
        omega
     ·intro hlt
      rcases Nat.lt_or_ge j s with hj'|hj'
      ·exact .inl ((h.chain j c hj).2 hj')
      ·have:j=s:=by omega
       subst this
       rw [hC] at hj
       simp only [zh] at hj
       exact .inr hj.symm
where
 chain_inj {P:Program} {E:Nat→Tr SV→aJ→Nat→Oper→Res→Prop} {nt:Nat} {ops:Array Oper} {T0:Tr SV} {R:List Rec} {Q:List (aJ×Nat)} {C:List Nat} (hR:RegOK P E nt ops T0 R Q C) {s j c:Nat} (h1:C[s]? =some c) (h2:C[j]? =some c):s=j:=by
  have hnd:C.Nodup:=by
   rw [hR.chainR]
   have hall:((R.filter (·.chain)).map (·.i)).Sublist (R.map (·.i)):=(List.filter_sublist).map _
   refine hall.nodup ?_
   have:R.map (·.i)=List.range R.length:=by
    apply List.ext_getElem?
    intro k
    rw [List.getElem?_map]
    cases hk:R[k]? with
    | none=>
      rw [List.getElem?_eq_none_iff] at hk
      simp [hk]
    | some r=>
      have hlt:=(zm.1 hk).1
      rw [zJ,(hR.recs k r hk).idx,List.getElem?_range hlt]
   rw [this]
   exact List.nodup_range
  have a:=zm.1 h1
  have b:=zm.1 h2
  obtain⟨a1,a2⟩:=a
  obtain⟨b1,b2⟩:=b
  exact(List.getElem_inj hnd).1 (a2.trans b2.symm)
end
section
variable {P:Program} {K:Zone} {w0 w:World} {e:Env} {E:Nat→Tr SV→aJ→Nat→Oper→Res→Prop} {nt:Nat} {ops:Array Oper} {T0:Tr SV} {R:List Rec} {Q:List (aJ×Nat)} {C:List Nat}
def aV(listed:Array Bool)(j:Nat):Prop:=listed[j]? =some true
theorem ff{listed:Array Bool}(hsz:listed.size=ops.size){i:Nat}(h:i∈Region.ready .any ops listed): ∃ o,ops[i]? =some o∧ ¬ aV listed i∧ ∀ ed∈o.after.toList,Region.binds .any ed=true→aV listed ed.on:=by
 unfold Region.ready at h
 rw [List.mem_filter,List.mem_range,zC] at h
 obtain⟨h1,h2,h3⟩:=h
 have ho:ops[i]? =some ops[i]:=zv h1
 refine⟨ops[i],ho,?_,fun ed hed hb=>?_⟩
 ·intro hl
  unfold aV at hl
  rw [zo,hl] at h2
  simp at h2
 ·rw [ho] at h3
  simp only [zJ,Option.getD_some] at h3
  rw [Array.all_eq_true_iff_forall_mem] at h3
  have:=h3 ed (by simpa using hed)
  rw [hb] at this
  simp only [Bool.not_true,Bool.false_or] at this
  unfold aV
  rw [zo] at this
  cases hx:listed[ed.on]? with
  | none=>rw [hx] at this;simp at this
  | some b=>rw [hx] at this;simp only [Option.getD_some] at this;rw [this]
theorem fX{listed:Array Bool}(hsz:listed.size=ops.size)(hE: ∀ (i:Nat) o,ops.toList[i]? =some o→eC i o.after.toList=true){i:Nat}(hi:i<ops.size)(hn: ¬ aV listed i): ∃ j,j∈Region.ready .any ops listed:=by
 induction i using Nat.strongRecOn with
 | _ i ih=>
   have ho:ops[i]? =some ops[i]:=zv hi
   by_cases hall: ∀ ed∈ops[i].after.toList,Region.binds .any ed=true→aV listed ed.on
   ·refine⟨i,?_⟩
    unfold Region.ready
    rw [List.mem_filter,List.mem_range,zC]
    refine⟨hi,?_,?_⟩
    ·unfold aV at hn
     rw [zo]
     have hlt:i<listed.size:=by omega
     rw [zv hlt] at hn ⊢
     simp only [zh,Bool.not_eq_true] at hn
     simp [hn]
    ·rw [ho]
     simp only [zJ,Option.getD_some]
     rw [Array.all_eq_true_iff_forall_mem]
     intro ed hed
     cases hb:Region.binds .any ed with
     | false=>rfl
     | true=>
       have:=hall ed (by simpa only [Array.mem_toList_iff] using hed) hb
       unfold aV at this
       rw [zo,this]
       rfl
   ·have: ∃ ed,ed∈ops[i].after.toList∧Region.binds .any ed=true∧ ¬ aV listed ed.on:=by
     apply Classical.byContradiction
     intro hc
     apply hall
     intro ed h1 h2
     apply Classical.byContradiction
     intro h3
     exact hc ⟨ed,h1,h2,h3⟩
    obtain⟨ed,h1,h2,h3⟩:=this
    have hlt:=fI (hE i ops[i] (by simp)) ed h1 h2
    exact ih ed.on hlt (by omega) h3
def bN(listed:Array Bool):Nat:=listed.toList.count false
theorem dZ: ∀ (l:List Bool) (i:Nat),l[i]? =some false→(l.set i true).count false+1=l.count false
 | [],i,h=>by simp at h
 | b :: l,0,h=>by
   simp only [zB,zh] at h
   subst h
   simp [List.count_cons]
 | b :: l,i+1,h=>by
   have:=dZ l i (by simpa using h)
   simp only [List.set_cons_succ,List.count_cons]
   omega
theorem jm{c:Nat}(hE: ∀ i,i≠c→pP P K w0 nt ops E i)(hR:RegOK P E nt ops T0 R Q C)(fn:FuncId)(k:List Item)(ds:List Deferred)(kd:CallKind)(rof:Option Nat)(cs:List Frame): ∀ (fuel t:Nat) (listed:Array Bool) (s:Nat) (e:Env) (w:World) (tr:Array Value),
 listed.size=ops.size→bN listed≤fuel→aV listed c→PInv K w0 nt ops T0 R Q C (aV listed) s e w tr →
 ∃ e' w' tr' s' listed',e.le e'∧listed'.size=ops.size∧(∀ j,j<ops.size→aV listed' j)∧PInv K w0 nt ops T0 R Q C (aV listed') s' e' w' tr' ∧
  Steps P (lone (fr0 fn tr (.inRegion ops (Region.linearise.go .any ops fuel t listed []) :: k) ds kd rof) cs w) (lone (fr0 fn tr' (.inRegion ops [] :: k) ds kd rof) cs w'):=by
 have allOf: ∀ (listed:Array Bool),listed.size=ops.size→(∀ j,j∉Region.ready .any ops listed)→ ∀ j,j<ops.size→aV listed j:=by
  intro listed hsz hno j hj
  apply Classical.byContradiction
  intro hn
  obtain⟨i,hi⟩:=fX hsz hR.edges hj hn
  exact hno i hi
 intro fuel
 induction fuel with
 | zero=>
   intro t listed s e w tr hsz hun hcl hI
   refine⟨e,w,tr,s,listed,Env.le_refl e,hsz,fun j hj=>?_,hI,by simp only [Region.linearise.go,List.reverse_nil];exact .refl P _⟩
   unfold aV
   have hlt:j<listed.size:=by omega
   rw [zv hlt]
   cases hb:listed[j] with
   | true=>rfl
   | false=>
     exfalso
     have:0<listed.toList.count false:=List.count_pos_iff.2 (by rw [← hb];simp)
     unfold bN at hun
     omega
 | succ fuel ih=>
   intro t listed s e w tr hsz hun hcl hI
   simp only [Region.linearise.go]
   change ∃ e' w' tr' s' listed',_∧_∧_∧_∧Steps P (lone (fr0 fn tr (.inRegion ops (match (Region.ready .any ops listed)[t % (Region.ready .any ops listed).length]? with
    | some i=>Region.linearise.go .any ops fuel (t / (Region.ready .any ops listed).length) (listed.setIfInBounds i true) [i]
    | none=> [].reverse) :: k) ds kd rof) cs w) _
   cases hpick:(Region.ready .any ops listed)[t % (Region.ready .any ops listed).length]? with
   | none=>
     have hnil:Region.ready .any ops listed= []:=by
      cases hx:Region.ready .any ops listed with
      | nil=>rfl
      | cons x xs=>
        rw [hx] at hpick
        have hlt:t % (x :: xs).length<(x :: xs).length:=Nat.mod_lt _ (by simp)
        rw [zk hlt] at hpick
        cases hpick
     exact⟨e,w,tr,s,listed,Env.le_refl e,hsz,allOf listed hsz (by rw [hnil];simp),hI,.refl P _⟩
   | some i=>
     simp only
     have hmem:=zw hpick
     obtain⟨o,ho,hni,hed⟩:=ff hsz hmem
     rw [linearise_go_acc,List.reverse_singleton,List.singleton_append]
     obtain⟨e1,w1,tr1,s1,hle1,hI1,hst1⟩:=hI.step hR ho hni hed fn (Region.linearise.go .any ops fuel (t / (Region.ready .any ops listed).length) (listed.setIfInBounds i true) []) k ds kd rof cs (fun r _ _ H n H2 n2 _ _ he hS hT hw=>hE i (fun hic=>hni (hic ▸ hcl)) hS hT ho hw he)
     have hilt:i<ops.size:=(zt.1 ho).1
     have hfalse:listed.toList[i]? =some false:=by
      have hlt:i<listed.size:=by omega
      unfold aV at hni
      rw [zv hlt] at hni
      rw [Array.getElem?_toList,zv hlt]
      simpa using hni
     have hcnt:bN (listed.setIfInBounds i true)+1=bN listed:=by
      unfold bN
      rw [Array.toList_setIfInBounds]
      exact dZ _ _ hfalse
     have hLeq: ∀ j,aV (listed.setIfInBounds i true) j↔(aV listed j∨j=i):=by
      intro j
      unfold aV
      by_cases hji:j=i
      ·subst hji
       rw [Array.getElem?_setIfInBounds_self_of_lt (by omega)]
       simp
      ·rw [Array.getElem?_setIfInBounds_ne (Ne.symm hji)]
       simp [hji]
     have hI2:PInv K w0 nt ops T0 R Q C (aV (listed.setIfInBounds i true)) s1 e1 w1 tr1:=by
      have:aV (listed.setIfInBounds i true)=fun j=>aV listed j∨j=i:=funext fun j=>propext (hLeq j)
      rw [this]
      exact hI1
     obtain⟨e2,w2,tr2,s2,l2,hle2,hs2,ha2,hI3,hst2⟩:=ih _ _ s1 e1 w1 tr1 (by simpa using hsz) (by omega) ((hLeq c).2 (.inl hcl)) hI2
     exact⟨e2,w2,tr2,s2,l2,Env.le_trans hle1 hle2,hs2,ha2,hI3,hst1.trans hst2⟩
theorem PInv.turn{R':List Rec}{Q':List (aJ×Nat)}{L:Nat→Prop}{s:Nat}{tr:Array Value}(h:PInv K w0 nt ops T0 R Q C L s e w tr)(hR: ∀ k,L k→R'[k]? =R[k]?)(hQ:Q'[s]? =Q[s]?):PInv K w0 nt ops T0 R' Q' C L s e w tr:=by
 obtain⟨⟨H,n,h1,h2⟩,h3,h4,h5,h6⟩:=h
 refine⟨⟨H,n,hQ.trans h1,h2⟩,h3,fun t sv hg=>h4 t sv ?_,h5,h6⟩
 rcases hg with ⟨k,r,g1,g2,g3,g4⟩|⟨g1,g2⟩
 ·exact .inl ⟨k,r,g1,by rw [← hR k g1];exact g2,g3,g4⟩
 ·exact .inr ⟨fun k r hk hr=>g1 k r hk (by rw [hR k hk];exact hr),g2⟩
theorem s8{A:Type}{c m:Nat}{Rf:A→List Rec}{Qf:A→List (aJ×Nat)}{good:A→Prop}(hE: ∀ i,i≠c→pP P K w0 nt ops E i)(hR: ∀ a,RegOK P E nt ops T0 (Rf a) (Qf a) C)
 (hm:C[m]? =some c) (hcs:c<ops.size) (hRf: ∀ a b k,k<c→(Rf a)[k]? =(Rf b)[k]?) (hQf: ∀ a b k,k≤m→(Qf a)[k]? =(Qf b)[k]?)
 (hdesc: ∀ j,c<j→j<ops.size→((bM [] ops.toList).getD j 0).testBit c=true) (fn:FuncId) (k:List Item) (ds:List Deferred) (kd:CallKind) (rof:Option Nat) (cs:List Frame)
 (hX: ∀ (a0:A) (e:Env) (w:World) (tr:Array Value) (rest:List Nat) (o:Oper) (r:Rec) (H:aJ) (n:Nat),(Rf a0)[c]? =some r→ops[c]? =some o→(Qf a0)[m]? =some (H,n)→St K w0 e H n w→TRel e nt r.T tr→Region.wanted o (yielded ops tr)=true →
   ∃ a,good a∧ ∃ e' w' u H2 n2 ra,e.le e'∧(Qf a)[m+1]? =some (H2,n2)∧St K w0 e' H2 n2 w'∧(Rf a)[c]? =some ra∧ra.val.conc e'=some u ∧
    Steps P (lone (fr0 fn tr (.inRegion ops (c :: rest) :: k) ds kd rof) cs w) (lone (fr0 fn (fR tr o.dst u) (.inRegion ops rest :: k) ds kd rof) cs w')) (a0:A) :
 ∀ (fuel t:Nat) (listed:Array Bool) (s:Nat) (e:Env) (w:World) (tr:Array Value),
 listed.size=ops.size→bN listed≤fuel→ ¬ aV listed c→PInv K w0 nt ops T0 (Rf a0) (Qf a0) C (aV listed) s e w tr →
 ∃ a,good a∧ ∃ e' w' tr' s' listed',e.le e'∧listed'.size=ops.size∧(∀ j,j<ops.size→aV listed' j)∧PInv K w0 nt ops T0 (Rf a) (Qf a) C (aV listed') s' e' w' tr' ∧
  Steps P (lone (fr0 fn tr (.inRegion ops (Region.linearise.go .any ops fuel t listed []) :: k) ds kd rof) cs w) (lone (fr0 fn tr' (.inRegion ops [] :: k) ds kd rof) cs w'):=by
 intro fuel
 induction fuel with
 | zero=>
   intro t listed s e w tr hsz hun hcl hI
   exfalso
   have hlt:c<listed.size:=by omega
   unfold aV at hcl
   rw [zv hlt] at hcl
   cases hb:listed[c] with
   | true=>rw [hb] at hcl;exact hcl rfl
   | false=>
     have:0<listed.toList.count false:=List.count_pos_iff.2 (by rw [← hb];simp)
     unfold bN at hun
     omega
 | succ fuel ih=>
   intro t listed s e w tr hsz hun hcl hI
   simp only [Region.linearise.go]
   change ∃ a,good a∧ ∃ e' w' tr' s' listed',_∧_∧_∧_∧Steps P (lone (fr0 fn tr (.inRegion ops (match (Region.ready .any ops listed)[t % (Region.ready .any ops listed).length]? with
    | some i=>Region.linearise.go .any ops fuel (t / (Region.ready .any ops listed).length) (listed.setIfInBounds i true) [i]
    | none=> [].reverse) :: k) ds kd rof) cs w) _
   cases hpick:(Region.ready .any ops listed)[t % (Region.ready .any ops listed).length]? with
   | none=>
     exfalso
     obtain⟨i,hi⟩:=fX hsz (hR a0).edges hcs hcl
     cases hx:Region.ready .any ops listed with
     | nil=>rw [hx] at hi;cases hi
     | cons x xs=>
       rw [hx] at hpick
       have hlt:t % (x :: xs).length<(x :: xs).length:=Nat.mod_lt _ (by simp)
       rw [zk hlt] at hpick
       cases hpick
   | some i=>
     simp only
     have hmem:=zw hpick
     obtain⟨o,ho,hni,hed⟩:=ff hsz hmem
     rw [linearise_go_acc,List.reverse_singleton,List.singleton_append]
     have hilt:i<ops.size:=(zt.1 ho).1
     have hfalse:listed.toList[i]? =some false:=by
      have hlt:i<listed.size:=by omega
      unfold aV at hni
      rw [zv hlt] at hni
      rw [Array.getElem?_toList,zv hlt]
      simpa using hni
     have hcnt:bN (listed.setIfInBounds i true)+1=bN listed:=by
      unfold bN
      rw [Array.toList_setIfInBounds]
      exact dZ _ _ hfalse
     have hLeq: ∀ j,aV (listed.setIfInBounds i true) j↔(aV listed j∨j=i):=by
      intro j
      unfold aV
      by_cases hji:j=i
      ·subst hji
       rw [Array.getElem?_setIfInBounds_self_of_lt (by omega)]
       simp
      ·rw [Array.getElem?_setIfInBounds_ne (Ne.symm hji)]
       simp [hji]
     have hLL:aV (listed.setIfInBounds i true)=fun j=>aV listed j∨j=i:=funext fun j=>propext (hLeq j)
     by_cases hic:i=c
     ·subst hic
      have hoL:ops.toList[i]? =some o:=by simpa using ho
      obtain⟨r,hr⟩: ∃ r,(Rf a0)[i]? =some r:=⟨_,zk (by rw [(hR a0).len];exact hilt)⟩
      obtain⟨hT,hw⟩:=hI.need (hR a0) ho hni hed hr
      have hrec:=(hR a0).recs i r hr
      have hchain:r.chain=true:=by
       have hmm:=zw hm
       rw [(hR a0).chainR,List.mem_map] at hmm
       obtain⟨r',hr',hi'⟩:=hmm
       rw [List.mem_filter] at hr'
       obtain⟨k',hk'⟩:=List.mem_iff_getElem?.1 hr'.1
       have:=((hR a0).recs k' r' hk').idx
       rw [hi'] at this
       subst this
       rw [hr] at hk'
       simp only [zh] at hk'
       subst hk'
       exact hr'.2
      rw [(hrec.eff hchain).1] at hw
      have hanc:=br (aV listed) (hR a0).edges (fun i o hi ho'=>hI.closed i o hi ho') i o hoL hed
      have hs:s=m:=by
       have h1: ¬ m<s:=fun hlt=>hni ((hI.chain m i hm).2 hlt)
       rcases Nat.eq_zero_or_pos m with h0|hp
       ·omega
       ·have hlt:m-1<C.length:=by
         have:=(zm.1 hm).1
         omega
        have hprev:C[m-1]? =some C[m-1]:=zk hlt
        have hbit:=fM (hR a0).chain (m-1) C[m-1] i hprev (by rw [show m-1+1=m by omega];exact hm)
        have:=(hI.chain _ _ hprev).1 (hanc _ hbit).1
        omega
      subst hs
      obtain⟨H,n,hQ,hS⟩:=hI.st
      obtain⟨a,hga,e',w',u,H2,n2,ra,hle,hq2,hS2,hra,hu,hst⟩:=hX a0 e w tr (Region.linearise.go .any ops fuel (t / (Region.ready .any ops listed).length) (listed.setIfInBounds i true) []) o r H n hr ho hQ hS hT hw
      have hless: ∀ j,aV listed j→j<i:=fun j hj=>by
       rcases Nat.lt_trichotomy j i with h|h|h
       ·exact h
       ·exact absurd (h ▸ hj) hni
       ·exfalso
        have hjs:j<ops.size:=by
         unfold aV at hj
         have:=(zt.1 hj).1
         omega
        have hoj:ops.toList[j]? =some (ops.toList[j]'(by simpa using hjs)):=zk (by simpa using hjs)
        exact hni (br (aV listed) (hR a0).edges (fun i o hi ho'=>hI.closed i o hi ho') j _ hoj (hI.closed j _ hj hoj) i (hdesc j h hjs)).1
      have hIa:=hI.turn (R':=Rf a) (Q':=Qf a) (fun k hk=>hRf a a0 k (hless k hk)) (hQf a a0 _ (zD _))
      obtain⟨e1,w1,tr1,s1,hle1,hI1,hst1⟩:=hIa.step (hR a) ho hni hed fn (Region.linearise.go .any ops fuel (t / (Region.ready .any ops listed).length) (listed.setIfInBounds i true) []) k ds kd rof cs (fun r' hr' _ H' n' H2' n2' _ hQ2' _ _ _ _=>by
       rw [hra] at hr'
       simp only [zh] at hr'
       subst hr'
       rw [hq2] at hQ2'
       simp only [zh,zq] at hQ2'
       obtain⟨rfl,rfl⟩:=hQ2'
       exact⟨e',w',u,hle,hS2,hu,hst⟩)
      have hI2:PInv K w0 nt ops T0 (Rf a) (Qf a) C (aV (listed.setIfInBounds i true)) s1 e1 w1 tr1:=by rw [hLL];exact hI1
      obtain⟨e2,w2,tr2,s2,l2,hle2,hs2,ha2,hI3,hst2⟩:=jm hE (hR a) fn k ds kd rof cs fuel _ _ s1 e1 w1 tr1 (by simpa using hsz) (by omega) ((hLeq i).2 (.inr rfl)) hI2
      exact⟨a,hga,e2,w2,tr2,s2,l2,Env.le_trans hle1 hle2,hs2,ha2,hI3,hst1.trans hst2⟩
     ·obtain⟨e1,w1,tr1,s1,hle1,hI1,hst1⟩:=hI.step (hR a0) ho hni hed fn (Region.linearise.go .any ops fuel (t / (Region.ready .any ops listed).length) (listed.setIfInBounds i true) []) k ds kd rof cs (fun r _ _ H n H2 n2 _ _ he hS hT hw=>hE i hic hS hT ho hw he)
      have hI2:PInv K w0 nt ops T0 (Rf a0) (Qf a0) C (aV (listed.setIfInBounds i true)) s1 e1 w1 tr1:=by rw [hLL];exact hI1
      obtain⟨a,hga,e2,w2,tr2,s2,l2,hle2,hs2,ha2,hI3,hst2⟩:=ih _ _ s1 e1 w1 tr1 (by simpa using hsz) (by omega) (fun h=>by
       rcases(hLeq c).1 h with h|h
       ·exact hcl h
       ·exact hic h.symm) hI2
      exact⟨a,hga,e2,w2,tr2,s2,l2,Env.le_trans hle1 hle2,hs2,ha2,hI3,hst1.trans hst2⟩
end
theorem gi{P:Program}{rn:Rn}{nt:Nat}{ops:Array Oper}: ∀ (l:List Oper) {i:Nat} {s s':DS},DrawRun P rn nt ops i l s s'→(∃ x,s'.recs=x ++ s.recs)∧ ∃ y,s'.Hs=y ++ s.Hs
 | [],i,s,s',h=>by cases h;exact⟨⟨[],rfl⟩,[],rfl⟩
 | o :: l,i,s,s',h=>by
   cases h with
   | cons ho h=>
     obtain⟨⟨x,hx⟩,y,hy⟩:=gi l h
     rcases ho with ⟨_,rfl⟩|⟨_,_,v,_,rfl⟩|⟨_,v,H,nx,_,rfl⟩
     ·exact⟨⟨x ++ [_],by rw [hx];simp;rfl⟩,y,hy⟩
     ·exact⟨⟨x ++ [_],by rw [hx];simp;rfl⟩,y,hy⟩
     ·exact⟨⟨x ++ [_],by rw [hx];simp;rfl⟩,y ++ [_],by rw [hy];simp;rfl⟩
def descOk(ancs:List Nat)(c n:Nat):Bool:=(List.range n).all fun j=> !(Nat.blt c j) || (ancs.getD j 0).testBit c
theorem uc{ancs:List Nat}{c n:Nat}(h:descOk ancs c n=true): ∀ j,c<j→j<n→(ancs.getD j 0).testBit c=true:=fun j h1 h2=>by
 unfold descOk at h
 have:=List.all_eq_true.1 h j (List.mem_range.2 h2)
 rw [Bool.or_eq_true] at this
 rcases this with q|q
 ·rw [show Nat.blt c j=true from zp h1] at q
  cases q
 ·exact q
theorem drawN{P:Program}{rn:Rn}{K:Zone}{w0:World}(hrn:gk P K w0 rn){ops:Array Oper}{nt:Nat}{T:Tr SV}{H:aJ}{nx:Nat}{l1 l2:List Oper}{oc:Oper}(hops:ops.toList=l1 ++ oc :: l2)(hro:fW nt ops.toList=true){s1:DS}
 (h1:DrawRun P rn nt ops 0 l1 ⟨T,H,nx,[],[(H,nx)],0⟩ s1) (hwt:ar (aG s1.T (aF ops.toList oc)) ops oc=some true) {f:FuncId} {args:List SV} {Q':Pst}
 (hdo:OpDoes P (aG s1.T (aF ops.toList oc)) s1.H s1.nx oc (.enter f args,s1.H,s1.nx)) (hnd: ∀ c,oc.op ≠ .defer c) (hcall:gS P rn f args s1.H s1.nx Q') (hde:descOk (bM [] ops.toList) l1.length ops.size=true) {r0:Res} {Kt:DS→Prop}
 (h2: ∀ r:Res,(Q' r∨r=r0)→ ∃ s,DrawRun P rn nt ops (l1.length+1) l2 ⟨gv nt s1.T oc.dst r.1,r.2.1,r.2.2,⟨l1.length,oc,aG s1.T (aF ops.toList oc),s1.stg,true,true,r.1⟩ :: s1.recs,(r.2.1,r.2.2) :: s1.Hs,s1.stg+1⟩ s ∧
   dT (bM [] ops.toList) (bG s)=true∧bG s=bG s1 ++ [l1.length]∧qR P ops s∧(Q' r→Kt s))
 (hm:P.follows .mixedOrders=true) {e:Env} {w:World} {tmps:Array Value} (hS:St K w0 e H nx w) (hT:TRel e nt T tmps) (t fn:Nat) (k:List Item) (ds:List Deferred) (kd:CallKind) (rof:Option Nat) (cs:List Frame) :
 ∃ s,Kt s∧ ∃ e' w' tmps',e.le e'∧St K w0 e' s.H s.nx w'∧TRel e' nt s.T tmps' ∧
  Steps P (lone (fr0 fn tmps (.inRegion ops (Region.schedule (P.follows .mixedOrders) ops t) :: k) ds kd rof) cs w) (lone (fr0 fn tmps' (.inRegion ops [] :: k) ds kd rof) cs w'):=by
 simp only [fW,zC] at hro
 obtain⟨hd1,hd2⟩:=jx hro.1
 have hopk:=mL hro.2
 have hdst: ∀ (j:Nat) o d,ops.toList[j]? =some o→o.dst=some d→d<nt:=fun j o d hj hd=>(hd1 j o d hj hd).1
 have hsz:ops.size=l1.length+1+l2.length:=by
  have:=congrArg List.length hops
  simp at this
  omega
 have hocat:ops[l1.length]? =some oc:=by
  have:ops.toList[l1.length]? =some oc:=by rw [hops];simp
  simpa using this
 let E:Nat→Tr SV→aJ→Nat→Oper→Res→Prop:=fun i T H nx o r=>i≠l1.length→eD P rn T H nx o r
 have h0:DSOK P E ops T 0 ⟨T,H,nx,[],[(H,nx)],0⟩:=
  ⟨rfl,rfl,rfl,rfl,fun k r hr=>by simp at hr,fun t v hv=> .inr ⟨fun k r hk=>by omega,hv⟩⟩
 have hD1:DSOK P E ops T (0+l1.length) s1:=iX hdst l1 0 _ s1 (fun k o hk=>by
  have hkl:=(zm.1 hk).1
  refine⟨?_,fun T H nx r h _=>h⟩
  have:ops.toList[0+k]? =some o:=by rw [hops,Nat.zero_add,zA hkl];exact hk
  simpa using this) h0 h1
 rw [Nat.zero_add] at hD1
 let sf:=fun(r:Res) (h:Q' r∨r=r0)=>Classical.choose (h2 r h)
 have hsf:=fun(r:Res) (h:Q' r∨r=r0)=>Classical.choose_spec (h2 r h)
 let A:={r:Res // Q' r∨r=r0}
 have hD: ∀ a:A,DSOK P E ops T ops.size (sf a.1 a.2):=fun a=>by
  have hl:=hD1.hs
  have hq: ∀ (j:Nat) x,s1.Hs.reverse[j]? =some x→((a.1.2.1,a.1.2.2) :: s1.Hs).reverse[j]? =some x:=fun j x hj=>by rw [List.reverse_cons];exact gf hj
  have hlast:((a.1.2.1,a.1.2.2) :: s1.Hs).reverse[s1.stg+1]? =some (a.1.2.1,a.1.2.2):=by
   rw [List.reverse_cons]
   have:=dO s1.Hs.reverse (a.1.2.1,a.1.2.2)
   rw [List.length_reverse,hl] at this
   exact this
  have hslots: ∀ t v,(aG s1.T (aF ops.toList oc)).at' t=some v→Operand.tmp t∈aF ops.toList oc∧Src T (s1.recs.reverse ++ [⟨l1.length,oc,aG s1.T (aF ops.toList oc),s1.stg,true,true,a.1.1⟩]) l1.length t v:=by
   intro t v hv
   obtain⟨h1,h2⟩:=ga _ t v hv
   exact⟨h1,(hD1.slots t v h2).mono fun k hk=>zA (by simp [hD1.len];exact hk)⟩
  have hS1:=hD1.snoc (r:=⟨l1.length,oc,aG s1.T (aF ops.toList oc),s1.stg,true,true,a.1.1⟩) (H:=a.1.2.1) (nx:=a.1.2.2) hdst hocat (by simp [hl]) hlast hq rfl
   ⟨rfl,hocat,hslots,hwt,fun hc=>(by cases hc),fun _ hc=>(by cases hc),fun _=>⟨rfl,by
     simp only [List.filter_append,zI,List.filter_cons,if_true,List.filter_nil,zF,List.map_nil]
     have:=dO ((s1.recs.reverse.filter (·.chain)).map (·.i)) l1.length
     rw [hD1.cnt] at this
     exact this,s1.H,s1.nx,a.1.2.1,a.1.2.2,hq _ _ hD1.last,hlast,fun h=>absurd rfl h⟩⟩
  have:=iX hdst l2 (l1.length+1) _ _ (fun k o hk=>by
   refine⟨?_,fun T H nx r h _=>h⟩
   have:ops.toList[l1.length+1+k]? =some o:=by
    rw [hops,List.getElem?_append_right (by omega),show l1.length+1+k-l1.length=k+1 by omega,List.getElem?_cons_succ]
    exact hk
   simpa using this) hS1 (hsf a.1 a.2).1
  rw [hsz]
  exact this
 have hC: ∀ a:A,((sf a.1 a.2).recs.reverse.filter (·.chain)).map (·.i)=bG s1 ++ [l1.length]:=fun a=>(hsf a.1 a.2).2.2.1
 have hR: ∀ a:A,RegOK P E nt ops T (sf a.1 a.2).recs.reverse (sf a.1 a.2).Hs.reverse (bG s1 ++ [l1.length]):=fun a=>by
  obtain⟨hrun,hch,hcc,hfl,_⟩:=hsf a.1 a.2
  have hDa:=hD a
  have hrecs:=hDa.recs
  have hcnt:=hDa.cnt
  rw [hC a] at hrecs hcnt
  refine⟨by simp [hDa.len],hrecs,by rw [hcnt];simp [hDa.hs],(hC a).symm,by rw [← hcc];exact hch,fun r hr hc hw=>?_,fun i o d hi hd=>(hd1 i o d hi hd).1,hd2,fun i o hi=>?_,fun i o hi=>?_⟩
  ·obtain⟨kk,hkk⟩:=List.mem_iff_getElem?.1 hr
   obtain⟨hnd,H0,n0,hQ0,hf0⟩:=(hrecs kk r hkk).float hw hc
   refine⟨hnd,fun s1' hlo hhi H1 n1 hQ1=>?_⟩
   by_cases hs1:s1'=r.stg
   ·subst hs1
    rw [hQ1] at hQ0
    simp only [zh,zq] at hQ0
    rw [hQ0.1]
    exact hf0
   ·exact hfl r (by simpa using hr) hc hw s1' (by rw [hcc];exact hlo) (by rw [hcc];exact hhi) hs1 H1 n1 hQ1
  ·obtain⟨anc,_,g2,_⟩:=hopk i o hi
   simpa using g2
  ·obtain⟨anc,g1,_,g3⟩:=hopk i o hi
   rw [zy,g1]
   rw [Nat.zero_add] at g3
   exact g3
 have hrec1: ∀ a:A,∃ x,(sf a.1 a.2).recs.reverse=s1.recs.reverse ++ (⟨l1.length,oc,aG s1.T (aF ops.toList oc),s1.stg,true,true,a.1.1⟩ :: x):=fun a=>by
  obtain⟨⟨x,hx⟩,_⟩:=gi l2 (hsf a.1 a.2).1
  exact⟨x.reverse,by rw [hx];simp⟩
 have hHs1: ∀ a:A,∃ y,(sf a.1 a.2).Hs.reverse=s1.Hs.reverse ++ ((a.1.2.1,a.1.2.2) :: y):=fun a=>by
  obtain⟨_,y,hy⟩:=gi l2 (hsf a.1 a.2).1
  exact⟨y.reverse,by rw [hy];simp⟩
 have hcl:(bG s1).length=s1.stg:=hD1.cnt
 have hatc: ∀ a:A,(sf a.1 a.2).recs.reverse[l1.length]? =some ⟨l1.length,oc,aG s1.T (aF ops.toList oc),s1.stg,true,true,a.1.1⟩:=fun a=>by
  obtain⟨x,hx⟩:=hrec1 a
  rw [hx,List.getElem?_append_right (by simp [hD1.len])]
  simp [hD1.len]
 have hatQ: ∀ a:A,(sf a.1 a.2).Hs.reverse[s1.stg+1]? =some (a.1.2.1,a.1.2.2):=fun a=>by
  obtain⟨y,hy⟩:=hHs1 a
  rw [hy,List.getElem?_append_right (by simp [hD1.hs])]
  simp [hD1.hs]
 have hatS: ∀ a:A,(sf a.1 a.2).Hs.reverse[s1.stg]? =some (s1.H,s1.nx):=fun a=>by
  obtain⟨y,hy⟩:=hHs1 a
  rw [hy,zA (by simp [hD1.hs])]
  exact hD1.last
 have hE: ∀ i,i≠l1.length→pP P K w0 nt ops E i:=fun i hi=>by
  intro e w H n T tr fn rest k ds kd rof cs o v H2 n2 hS hT ho hw he
  exact fi (P:=P) hrn hS hT ho hw (he hi)
 have hinit: ∀ a:A,PInv K w0 nt ops T (sf a.1 a.2).recs.reverse (sf a.1 a.2).Hs.reverse (bG s1 ++ [l1.length]) (aV (Array.replicate ops.size false)) 0 e w tmps:=fun a=>by
  have hno: ∀ j,¬ aV (Array.replicate ops.size false) j:=by
   intro j hj
   unfold aV at hj
   rw [Array.getElem?_replicate] at hj
   split at hj <;> simp at hj
  have hQ0:(sf a.1 a.2).Hs.reverse[0]? =some (H,nx):=by
   obtain⟨y,hy⟩:=hHs1 a
   obtain⟨_,z,hz⟩:=gi l1 h1
   rw [hy,hz]
   simp
  refine⟨⟨H,nx,hQ0,hS⟩,hT.1,fun t sv hg=>?_,fun j c hj=>⟨fun hl=>absurd hl (hno c),fun hl=>by omega⟩,fun i o hi=>absurd hi (hno i)⟩
  rcases hg with ⟨k',r',hk',_⟩|⟨_,h2⟩
  ·exact absurd hk' (hno k')
  ·exact hT.2 t sv h2
 have hsched:Region.schedule (P.follows .mixedOrders) ops t=Region.linearise.go .any ops ops.size t (Array.replicate ops.size false) []:=by
  rw [hm]
  rfl
 rw [hsched]
 obtain⟨a,hga,e',w',tr',s',listed',hle,_,hall,hI,hst⟩:=s8 (A:=A) (c:=l1.length) (m:=s1.stg) (Rf:=fun a=>(sf a.1 a.2).recs.reverse) (Qf:=fun a=>(sf a.1 a.2).Hs.reverse) (good:=fun a=>Q' a.1) hE hR
  (by rw [List.getElem?_append_right (by omega),hcl];simp) (by omega)
  (fun a b j hj=>by
    obtain⟨x,hx⟩:=hrec1 a
    obtain⟨y,hy⟩:=hrec1 b
    simp only [hx,hy]
    rw [zA (by simp [hD1.len];exact hj),zA (by simp [hD1.len];exact hj)])
  (fun a b j hj=>by
    obtain⟨x,hx⟩:=hHs1 a
    obtain⟨y,hy⟩:=hHs1 b
    simp only [hx,hy]
    rw [zA (by simp [hD1.hs];omega),zA (by simp [hD1.hs];omega)])
  (uc hde) fn k ds kd rof cs
  (fun a0 e w tr rest o r H n hr ho hQ hS hT hw=>by
    rw [hatc a0] at hr
    simp only [zh] at hr
    subst hr
    rw [hocat] at ho
    simp only [zh] at ho
    subst ho
    rw [hatS a0] at hQ
    simp only [zh,zq] at hQ
    obtain⟨rfl,rfl⟩:=hQ
    have hEv:=TRel.ev (fr:=fr0 fn tr (.inRegion ops (l1.length :: rest) :: k) ds kd rof) hT
    obtain⟨e1,w1,hle,hS1,hrun⟩:=hdo _ _ _ _ _ hS hEv
    obtain⟨vs,hvs,hres⟩:=hrun
    obtain⟨r,hr,e2,w2,u,g1,g2,g3,g4⟩:=jC (io hrn hcall hS1 hvs (kd:= .normal) (cs:=fr0 fn tr (.inRegion ops (l1.length :: rest) :: k) ds kd rof :: cs) ⟨rfl,.inl rfl⟩)
    refine⟨⟨r,.inl hr⟩,hr,e2,w2,u,r.2.1,r.2.2,_,Env.le_trans hle g1,hatQ ⟨r,.inl hr⟩,g2,hatc ⟨r,.inl hr⟩,g3,?_⟩
    rw [dP hocat] at g4
    refine .head (step_lone_go ?_) g4
    rw [fB hocat hw (.inr hnd)]
    simp only [stepG.apply,Sem.runT_eq,if_true,hres,GStep.bare_after,GStep.bare_go]
    rfl)
  ⟨r0,.inr rfl⟩ ops.size t (Array.replicate ops.size false) 0 e w tmps (by simp) (by unfold bN;simp) (by
    intro hj
    unfold aV at hj
    rw [Array.getElem?_replicate] at hj
    split at hj <;> simp at hj) (hinit _)
 have hDa:=hD a
 have hs':s'=(sf a.1 a.2).stg:=by
  obtain⟨H1,n1,hQ1,_⟩:=hI.st
  have hle1:s'≤(sf a.1 a.2).stg:=by
   have:=(zm.1 hQ1).1
   simp [hDa.hs] at this
   omega
  have hcnt:=hDa.cnt
  rw [hC a] at hcnt
  rcases Nat.lt_or_ge s' (sf a.1 a.2).stg with hlt|hge
  ·exfalso
   obtain⟨c,hc⟩: ∃ c,(bG s1 ++ [l1.length])[s']? =some c:=⟨_,zk (by rw [hcnt];exact hlt)⟩
   have hcl':c<ops.size:=by
    have hcm:=zw hc
    rw [← hC a,List.mem_map] at hcm
    obtain⟨r',hr',rfl⟩:=hcm
    rw [List.mem_filter] at hr'
    obtain⟨k',hk'⟩:=List.mem_iff_getElem?.1 hr'.1
    have hx:=hDa.recs k' r' hk'
    rw [hx.idx]
    exact(zt.1 hx.op).1
   have:=(hI.chain s' c hc).1 (hall c hcl')
   omega
  ·omega
 subst hs'
 obtain⟨H1,n1,hQ1,hS1⟩:=hI.st
 rw [hDa.last] at hQ1
 simp only [zh,zq] at hQ1
 obtain⟨rfl,rfl⟩:=hQ1
 refine⟨_,(hsf a.1 a.2).2.2.2.2 hga,e',w',tr',hle,hS1,⟨hI.size,fun t sv ht=>hI.good t sv ?_⟩,hst⟩
 rcases hDa.slots t sv ht with ⟨k',r',h1,h2,h3,h4⟩|⟨h1,h2⟩
 ·exact .inl ⟨k',r',hall k' h1,h2,h3,h4⟩
 ·refine .inr ⟨fun k' r' _ hr'=>?_,h2⟩
  have hlt:=(zm.1 hr').1
  rw [List.length_reverse,hDa.len] at hlt
  exact h1 k' r' hlt hr'
end Go.Sy.Nd
end
section
namespace Go.Sy
open Go Go.Sl Go.RowKit
section
variable {P:Program} {ro:Option Nat} {fn nt nx:Nat} {T:Tr SV} {k:List AIt} {dfs:List ADf} {H:aJ} {Q:Pst}
structure TailK (P:Program) (ro:Option Nat) (fn nt:Nat) (k:List AIt) (dfs:List ADf) (Q:Pst) (opl:List Oper) (n:Nat) (oc:Oper) (s1:DS):Prop where
 ex:ar (aG s1.T (aF opl oc)) opl.toArray oc=some true∧ ∃ (f:FuncId) (args:List SV) (Q':Pst) (r0:Res),OpDoes P (aG s1.T (aF opl oc)) s1.H s1.nx oc (.enter f args,s1.H,s1.nx)∧(∀ c,oc.op ≠ .defer c)∧gS P (wpr P) f args s1.H s1.nx Q' ∧
  (∀ r:Res,Q' r→DrawK P nt opl.toArray (n+1) (opl.drop (n+1)) ⟨gv nt s1.T oc.dst r.1,r.2.1,r.2.2,⟨n,oc,aG s1.T (aF opl oc),s1.stg,true,true,r.1⟩ :: s1.recs,(r.2.1,r.2.2) :: s1.Hs,s1.stg+1⟩
    (fun s=>dT (bM [] opl) (bG s)=true∧bG s=bG s1 ++ [n]∧FlOk P (bM [] opl) (bG s) s.Hs s.recs∧Wp P ro ⟨fn,nt,s.T,k,dfs,s.H,s.nx⟩ Q)) ∧
  DrawK P nt opl.toArray (n+1) (opl.drop (n+1)) ⟨gv nt s1.T oc.dst r0.1,r0.2.1,r0.2.2,⟨n,oc,aG s1.T (aF opl oc),s1.stg,true,true,r0.1⟩ :: s1.recs,(r0.2.1,r0.2.2) :: s1.Hs,s1.stg+1⟩
   (fun s=>dT (bM [] opl) (bG s)=true∧bG s=bG s1 ++ [n]∧FlOk P (bM [] opl) (bG s) s.Hs s.recs)
theorem ph{id:Nat}{opl:List Oper}(n:Nat){oc:Oper}(hm:P.follows .mixedOrders=true)(hr:fW nt opl=true)(hde:Nd.descOk (bM [] opl) n opl.length=true)(hoc:opl[n]? =some oc)
 (h:DrawK P nt opl.toArray 0 (opl.take n) ⟨T,H,nx,[],[(H,nx)],0⟩ (TailK P ro fn nt k dfs Q opl n oc)) :
 Wp P ro ⟨fn,nt,T,.code (.region id opl.toArray true) :: k,dfs,H,nx⟩ Q:=by
 obtain⟨s1,hrun1,hK⟩:=h.ex
 obtain⟨hw,f,args,Q',r0,hdo,hnd,hcall,h1,h0⟩:=hK.ex
 have hlt:n<opl.length:=(zm.1 hoc).1
 have hnl:(opl.take n).length=n:=by rw [List.length_take];omega
 have hops:opl=opl.take n ++ oc :: opl.drop (n+1):=by
  have hg:opl[n]=oc:=(zm.1 hoc).2
  rw [← hg,List.getElem_cons_drop,List.take_append_drop]
 refine⟨fun K w0 e w tmps todo ds kd rof cs hS hT ht hd hc=>?_⟩
 obtain⟨it,k',rfl,hi,hk⟩:=ht.cons
 have hi:it=Item.code (.region id opl.toArray true):=hi
 subst hi
 obtain⟨s,hKt,e',w',tmps',g1,g2,g3,g4⟩:=Nd.drawN (ops:=opl.toArray) (l1:=opl.take n) (l2:=opl.drop (n+1)) (oc:=oc) (T:=T) (H:=H) (nx:=nx) (nt:=nt) (r0:=r0) (Q':=Q') (Kt:=fun s=>Wp P ro ⟨fn,nt,s.T,k,dfs,s.H,s.nx⟩ Q) (kT K w0) hops hr hrun1 hw hdo hnd hcall (by rw [hnl];simpa using hde)
  (fun r hr=>by
    rw [hnl]
    by_cases hq:Q' r
    ·obtain⟨s,q1,q2,q3,q4,q5⟩:=(h1 r hq).ex
     exact⟨s,q1,q2,q3,fun r hr=>FlOk.ok q4 r hr,fun _=>q5⟩
    ·have hr:=hr.resolve_left hq
     subst hr
     obtain⟨s,q1,q2,q3,q4⟩:=h0.ex
     exact⟨s,q1,q2,q3,fun r hr=>FlOk.ok q4 r hr,fun h=>absurd h hq⟩) hm (w:={w with drawn:=w.drawn+1}) hS.drew hT (w.tape w.drawn (.order fn id)) fn k' ds kd rof cs
 exact(hKt.run K w0 e' w' tmps' k' ds kd rof cs g2 g3 (hk.mono g1) (hd.mono g1) (hc.mono g1)).pre (.head sH (g4.trans (.one gD))) g1 rfl rfl (fun _ hr=>hr)
theorem sA{opl:List Oper}{n:Nat}{s1:DS}{ty:TypeId}{pos:String}{af:Array Edge}{gd:Option (Nat×Bool)}{g:FuncId}{as1:List Operand}{ats:Array TypeId}{args:List SV}{Q':Pst}{dd:Nat}
 (hw:ar (aG s1.T (aF opl ⟨some dd,.call {callee:= .value (.func g),args:=as1.toArray,argTypes:=ats},ty,pos,af,gd⟩)) opl.toArray ⟨some dd,.call {callee:= .value (.func g),args:=as1.toArray,argTypes:=ats},ty,pos,af,gd⟩=some true) (hd:Nat.blt dd nt=true)
 (ha:dw (aG s1.T (aF opl ⟨some dd,.call {callee:= .value (.func g),args:=as1.toArray,argTypes:=ats},ty,pos,af,gd⟩)) as1=some args) (hm:cf P g=true) (hr:Fnc P g args s1.H s1.nx Q') (r0:Res)
 (h1: ∀ r:Res,Q' r→DrawK P nt opl.toArray (n+1) (opl.drop (n+1)) ⟨s1.T.set dd r.1,r.2.1,r.2.2,⟨n,⟨some dd,.call {callee:= .value (.func g),args:=as1.toArray,argTypes:=ats},ty,pos,af,gd⟩,aG s1.T (aF opl ⟨some dd,.call {callee:= .value (.func g),args:=as1.toArray,argTypes:=ats},ty,pos,af,gd⟩),s1.stg,true,true,r.1⟩ :: s1.recs,(r.2.1,r.2.2) :: s1.Hs,s1.stg+1⟩
   (fun s=>dT (bM [] opl) (bG s)=true∧bG s=bG s1 ++ [n]∧FlOk P (bM [] opl) (bG s) s.Hs s.recs∧Wp P ro ⟨fn,nt,s.T,k,dfs,s.H,s.nx⟩ Q))
 (h0:DrawK P nt opl.toArray (n+1) (opl.drop (n+1)) ⟨s1.T.set dd r0.1,r0.2.1,r0.2.2,⟨n,⟨some dd,.call {callee:= .value (.func g),args:=as1.toArray,argTypes:=ats},ty,pos,af,gd⟩,aG s1.T (aF opl ⟨some dd,.call {callee:= .value (.func g),args:=as1.toArray,argTypes:=ats},ty,pos,af,gd⟩),s1.stg,true,true,r0.1⟩ :: s1.recs,(r0.2.1,r0.2.2) :: s1.Hs,s1.stg+1⟩
   (fun s=>dT (bM [] opl) (bG s)=true∧bG s=bG s1 ++ [n]∧FlOk P (bM [] opl) (bG s) s.Hs s.recs)) :
 TailK P ro fn nt k dfs Q opl n ⟨some dd,.call {callee:= .value (.func g),args:=as1.toArray,argTypes:=ats},ty,pos,af,gd⟩ s1:=
 ⟨hw,g,args,Q',r0,td ha hm,fun c hc=>(by cases hc),hr,fun r hq=>by rw [aC hd];exact h1 r hq,by rw [aC hd];exact h0⟩
end
section
variable {P:Program} {ro:Option Nat} {fn nt nx:Nat} {T:Tr SV} {k:List AIt} {dfs:List ADf} {H:aJ} {Q:Pst} {ty:TypeId} {pos:String} {af:Array Edge} {gd:Option (Nat×Bool)} {d:Option Tmp}
theorem tc{x:Operand}{name:String}{as1:List Operand}{ats:Array TypeId}{t:TypeId}{v:SV}{args:List SV}{g:FuncId}(hx:am T x=some (.ifc t v))(ha:dw T as1=some args)(hm:iP P t name=some g):OpDoes P T H nx ⟨d,.call {callee:= .invoke x name,args:=as1.toArray,argTypes:=ats},ty,pos,af,gd⟩ (.enter g (v :: args),H,nx):=by
 refine iW ?_
 have hc:cc P T {callee:= .invoke x name,args:=as1.toArray,argTypes:=ats}=some (.enter g (v :: args)):=by
  simp only [cc,ha,hx,hm]
 unfold fl
 simp only [hc,zJ]
theorem sy{opl:List Oper}{n:Nat}{s1:DS}{x:Operand}{name:String}{t:TypeId}{v:SV}(g:FuncId){as1:List Operand}{ats:Array TypeId}{args:List SV}{Q':Pst}{dd:Nat}
 (hw:ar (aG s1.T (aF opl ⟨some dd,.call {callee:= .invoke x name,args:=as1.toArray,argTypes:=ats},ty,pos,af,gd⟩)) opl.toArray ⟨some dd,.call {callee:= .invoke x name,args:=as1.toArray,argTypes:=ats},ty,pos,af,gd⟩=some true) (hd:Nat.blt dd nt=true)
 (hx:am (aG s1.T (aF opl ⟨some dd,.call {callee:= .invoke x name,args:=as1.toArray,argTypes:=ats},ty,pos,af,gd⟩)) x=some (.ifc t v))
 (ha:dw (aG s1.T (aF opl ⟨some dd,.call {callee:= .invoke x name,args:=as1.toArray,argTypes:=ats},ty,pos,af,gd⟩)) as1=some args) (hm:iP P t name=some g) (hr:Fnc P g (v :: args) s1.H s1.nx Q') (r0:Res)
 (h1: ∀ r:Res,Q' r→DrawK P nt opl.toArray (n+1) (opl.drop (n+1)) ⟨s1.T.set dd r.1,r.2.1,r.2.2,⟨n,⟨some dd,.call {callee:= .invoke x name,args:=as1.toArray,argTypes:=ats},ty,pos,af,gd⟩,aG s1.T (aF opl ⟨some dd,.call {callee:= .invoke x name,args:=as1.toArray,argTypes:=ats},ty,pos,af,gd⟩),s1.stg,true,true,r.1⟩ :: s1.recs,(r.2.1,r.2.2) :: s1.Hs,s1.stg+1⟩
   (fun s=>dT (bM [] opl) (bG s)=true∧bG s=bG s1 ++ [n]∧FlOk P (bM [] opl) (bG s) s.Hs s.recs∧Wp P ro ⟨fn,nt,s.T,k,dfs,s.H,s.nx⟩ Q))
 (h0:DrawK P nt opl.toArray (n+1) (opl.drop (n+1)) ⟨s1.T.set dd r0.1,r0.2.1,r0.2.2,⟨n,⟨some dd,.call {callee:= .invoke x name,args:=as1.toArray,argTypes:=ats},ty,pos,af,gd⟩,aG s1.T (aF opl ⟨some dd,.call {callee:= .invoke x name,args:=as1.toArray,argTypes:=ats},ty,pos,af,gd⟩),s1.stg,true,true,r0.1⟩ :: s1.recs,(r0.2.1,r0.2.2) :: s1.Hs,s1.stg+1⟩
   (fun s=>dT (bM [] opl) (bG s)=true∧bG s=bG s1 ++ [n]∧FlOk P (bM [] opl) (bG s) s.Hs s.recs)) :
 TailK P ro fn nt k dfs Q opl n ⟨some dd,.call {callee:= .invoke x name,args:=as1.toArray,argTypes:=ats},ty,pos,af,gd⟩ s1:=
 ⟨hw,g,v :: args,Q',r0,tc hx ha hm,fun c hc=>(by cases hc),hr,fun r hq=>by rw [aC hd];exact h1 r hq,by rw [aC hd];exact h0⟩
end
end Go.Sy
end
section
namespace Go.Proofs.YtjjgjjlgchidlaaGreat
open Go Go.Sy Go.Sl Go.RowKit
section
variable {P:Program} {T:Tr SV} {H:aJ} {d:Option Tmp} {ty:TypeId} {pos:String} {af:Array Edge} {gd:Option (Nat×Bool)}
variable (P)in
def ld(t:TypeId)(name:String):Bool:=
 match P.info? t with
 | none=>false
 | some i=>match i.methods.find? (fun m=>m.name == name)with
   | none=>false
   | some m=>match m.func with
     | some (_,true)=>m.path.isEmpty
     | _=>false
theorem nP{t:TypeId}{name:String}(h:ld P t name=true)(v:Value)(w:World):(nilAhead (P.types.size+Made.depth) t v name).run P w = .ok (some false) w:=by
 unfold ld at h
 cases hi:P.info? t with
 | none=>rw [hi] at h;cases h
 | some i=>
   rw [hi] at h
   simp only at h
   cases hm:i.methods.find? (fun m=>m.name == name)with
   | none=>rw [hm] at h;cases h
   | some m=>
     rw [hm] at h
     simp only at h
     cases hmf:m.func with
     | none=>rw [hmf] at h;cases h
     | some q=>
       obtain⟨g',pr⟩:=q
       rw [hmf] at h
       cases pr with
       | false=>cases h
       | true=>
         simp only at h
         obtain⟨n,hn⟩: ∃ n,P.types.size+Made.depth=n+1:=⟨P.types.size+99,by unfold Made.depth;omega⟩
         have hpath:m.path.toList= []:=by
          cases hp:m.path.toList with
          | nil=>rfl
          | cons a l=>rw [Array.isEmpty_iff] at h;rw [h] at hp;cases hp
         have hi':(typeInfo t).run P w = .ok i w:=by simp [typeInfo,hi]
         simp only [Sem.run_bind,Result.andThen,hn,nilAhead,hi',hm,hpath,followBlind,Sem.run_pure,hmf]
theorem gI{x:Operand}{n:String}{t:TypeId}{v:SV}(hp:ld P t n=true)(h:am T x=some (.fn (.method n) [.ifc t v] [])):ReadDoes P T H ⟨d,.nilCheck x,ty,pos,af,gd⟩ (.fn (.method n) [.ifc t v] []):=by
 intro K w0 e nx w ev hS hE
 have hv:=hE x _ h
 obtain⟨x1,y1,hx1,_,hx⟩:=nj hv
 obtain⟨u,us,rfl,hu,_⟩:=cl hx1
 obtain⟨u0,_,rfl⟩:=kL hu
 exact⟨_,hv,by simp [execOp,hx,nP hp]⟩
end
abbrev fnR(fs:List (FuncId×List SV)):VO:=fQ false fs.length 1 112 (fs.map fun x=> .fn (.func x.1) [] x.2)
theorem yn{H:aJ}{nx r:Nat}{fs:List (FuncId×List SV)}(hl:fs.length≤1000)(hg: ∀ x∈fs,cf Tryz.prog x.1=true)(S:Nat→aJ→Nat→Prop)(E:Int→aJ→Nat→Prop)
 (hrow: ∀ i H n,S i H n→H.at' r=some (fnR fs))
 (hstep: ∀ i (hi:i<fs.length) H n,S i H n→Fnc Tryz.prog (fs[i]).1 (fs[i]).2 H n (fun q=>(q.1 = .sc (.int .i64 0)∧S (i+1) q.2.1 q.2.2)∨ ∃ e,e≠0∧q.1 = .sc (.int .i64 e)∧E e q.2.1 q.2.2))
 (h0:S 0 H nx):Fnc Tryz.prog 60 [.slu r 0 fs.length] H nx (fun q=>(q.1 = .sc (.int .i64 0)∧S fs.length q.2.1 q.2.2)∨ ∃ e,e≠0∧q.1 = .sc (.int .i64 e)∧E e q.2.1 q.2.2):=by
 refine Fnc.start Tryz.func60 rfl rfl ?_
 (repeat(first|refine aq ?_|refine ae ?_|refine ac ?_|refine aI ?_|(apply aj;exact rfl;exact rfl;exact rfl)|(apply ai;exact rfl;exact rfl;exact rfl)|(apply a6;exact rfl;exact rfl;exact rfl;exact(F.un _ rfl))))
 refine co (α:=Nat) (fun i=> [(6,.slu r 0 fs.length),(7,.sc (.int .i64 (fs.length:Int))),(8,.sc (.int .i64 (i:Int)))])
  (fun i H1 n1=>i≤fs.length∧S i H1 n1) (fun i=>fs.length-i) 0 ⟨zE _,h0⟩ (SlIn.sub (by repeat(first|exact trivial|refine⟨rfl,?_⟩))) ?_
 rintro i H1 n1 ⟨h1,h2⟩ ih
 have hr:=hrow _ _ _ h2
 (repeat(first|refine aq ?_|refine ae ?_))
 refine bR rfl rfl rfl rfl (fun c1=>?_) (fun c1=>?_)
 ·have hi:i<fs.length:=by omega
  have hcell:(fnR fs).cell (i*1)=some (.fn (.func (fs[i]).1) [] (fs[i]).2):=jB (by rw [Nat.mul_one,List.getElem?_map,zk hi];rfl) (by omega)
  (repeat(first|refine fm (q:=i) rfl rfl rfl rfl (F.un _ rfl) (F.sz _ rfl) (by assumption) (by omega) (by(omega)) (zD _) ?_|(refine jg rfl rfl rfl (F.ag _ rfl) hr hcell ?_)|refine aq ?_|refine ae ?_|refine ac ?_|refine aI ?_|refine aH ?_|refine ax rfl ?_|(apply aj;exact rfl;exact rfl;exact rfl)|(apply ai;exact rfl;exact rfl;exact rfl)))
  refine kV rfl rfl rfl rfl (hg _ (zN hi)) (Fnc.mono (hstep i hi _ _ h2) ?_)
  rintro⟨_,H2,n2⟩ (⟨rfl,g⟩|⟨e,he,rfl,g⟩)
  ·dsimp only at g ⊢
   (repeat(first|(refine cD rfl rfl rfl rfl (fun hq=>absurd rfl hq) (fun _=>?_))|refine aq ?_|refine ae ?_|refine ac ?_|refine aB ?_|refine aH ?_|refine au rfl ?_|(apply aj;exact rfl;exact rfl;exact rfl)|(apply ai;exact rfl;exact rfl;exact rfl)|(apply bn;exact rfl;exact rfl;exact rfl;exact rfl;(focus(omega));(focus(omega)))))
   exact ih _ _ _ (i+1) ⟨hi,g⟩ (by omega) (SlIn.sub (by repeat(first|exact trivial|refine⟨rfl,?_⟩)))
  ·dsimp only at g ⊢
   (repeat(first|(refine cD rfl rfl rfl rfl (fun _=>?_) (fun hq=>absurd hq he))|refine aq ?_|refine ae ?_|refine ac ?_|refine ax rfl ?_|(apply aj;exact rfl;exact rfl;exact rfl)|(apply ai;exact rfl;exact rfl;exact rfl)))
   ((apply bf Tryz.func60 (congrArg Array.toList Tryz.results60));(focus(repeat(first|exact ResIs.nil|apply ResIs.tmp rfl))))
   exact .inr ⟨e,he,rfl,g⟩
 ·obtain rfl:i=fs.length:=by omega
  (repeat(first|refine aq ?_|refine ae ?_|refine ac ?_|refine a9 rfl ?_|refine au rfl ?_|(apply ai;exact rfl;exact rfl;exact rfl)))
  ((apply bf Tryz.func60 (congrArg Array.toList Tryz.results60));(focus(repeat(first|exact ResIs.nil|apply ResIs.tmp rfl))))
  exact .inl ⟨rfl,h2⟩
theorem xB{H:aJ}{nx a:Nat}:Fnc Tryz.prog 57 [.ptr a 0] H nx (fun q=>q=(.tup [],H,nx)):=by
 refine Fnc.start Tryz.func57 rfl rfl ?_
 (repeat(first|refine aq ?_|refine ae ?_|refine ac ?_|refine aH ?_|refine au rfl ?_|((apply gz;exact rfl;exact rfl))|(refine je rfl rfl rfl Tryz.underlying20 ?_)))
 ((apply fT Tryz.func57 (congrArg Array.toList Tryz.results57));(focus(repeat(exact ResIs.nil))))
 rfl
abbrev x5(b:Nat):VO:=az 78 [q9 b]
theorem xA{H:aJ}{nx b c a:Nat}{mem:List UInt8}{left:Int}(ha:H.at' a=some (x5 b))(hab:a≠b)(hb:PgAt H b mem left c)(hm:mem.length=28672)(hl:left≠0)(hl2 : -1000000000≤left∧left≤9000000000000000000)(hc:c≤1000000):Fnc Tryz.prog 61 [.ptr a 0] H nx
 (fun q=>q.1 = .sc (.int .i64 0)∧PgAt q.2.1 b (lN mem 1 (gM 3)) (left-1) (c+1)∧nx≤q.2.2∧ ∀ m,m<nx→m≠b→(∀ ws,H.at' m≠some (fQ false c 1025 209 ws))→q.2.1.at' m=H.at' m):=by
 refine Fnc.start Tryz.func61 rfl rfl ?_
 refine cn fun hund=>?_
 have hla:=hund _ _ ha
 have hin:=ww (H:=H) (nx:=nx) 3
 (repeat(first|refine aq ?_|refine ae ?_|refine ac ?_|(apply ai;exact rfl;exact rfl;exact rfl)))
 refine ph 5 (by kernel_rfl) (by kernel_rfl) (by kernel_rfl) rfl ?_
 (repeat(first|refine bx rfl rfl rfl (F.ag _ rfl) (by assumption) (by exact rfl) ?_|(refine b9 rfl rfl rfl (by kernel_rfl) hin ?_)|((apply bl;exact rfl;exact rfl;exact(fun _ h=>by cases h);exact(gI (by kernel_rfl) rfl)))|(apply bD;exact rfl;exact rfl;exact rfl)|(apply cx;exact rfl;exact rfl;exact rfl;exact rfl)))
 refine bZ ?_
 refine sy 149 rfl rfl rfl rfl (by kernel_rfl) (sX (n:=1) hb hm (by decide) (fG 3) hl hl2 hc) (.sc (.int .i64 0),H,nx) ?_ ?_
 ·rintro⟨_,HA,nA⟩ ⟨rfl,w1,w2,w3⟩
  dsimp only at w1 w2 w3 ⊢
  have aA:HA.at' a=some (x5 b):=(w3 a hla hab (gU ha)).trans ha
  (repeat(apply bY;exact rfl;exact rfl;exact rfl))
  refine bZ ⟨by kernel_rfl,rfl,?_,?_⟩
  ·(repeat(first|exact trivial|refine⟨.inl rfl,?_⟩|refine⟨.inr (by(repeat(refine⟨(by first|exact bC rfl|exact ch rfl|exact aZ (F.ag _ rfl) rfl (by assumption) (aW rfl)|exact fZ rfl rfl|exact gI (by kernel_rfl) rfl),?_⟩));exact trivial),?_⟩))
  dsimp only
  ((apply bf Tryz.func61 (congrArg Array.toList Tryz.results61));(focus(repeat(first|exact ResIs.nil|apply ResIs.tmp rfl))))
  exact⟨rfl,w1,w2,w3⟩
 ·(repeat(apply bY;exact rfl;exact rfl;exact rfl))
  refine bZ ⟨by kernel_rfl,rfl,?_⟩
  (repeat(first|exact trivial|refine⟨.inl rfl,?_⟩|refine⟨.inr (by(repeat(refine⟨(by first|exact bC rfl|exact ch rfl|exact aZ (F.ag _ rfl) rfl (by assumption) (aW rfl)|exact fZ rfl rfl|exact gI (by kernel_rfl) rfl),?_⟩));exact trivial),?_⟩))
theorem xz{H:aJ}{nx b c a d:Nat}{mem x:List UInt8}{left:Int}(ha:H.at' a=some (x5 b))(hd:H.at' d=some (pgO x))(hx:x.length=1024)(hb:PgAt H b mem left c)(hm:mem.length=28672)(hl:left≠0)(hl2 : -1000000000≤left∧left≤9000000000000000000)(hc:c≤1000000):Fnc Tryz.prog 62 [.ptr a 0,.ptr d 0] H nx
 (fun q=>q.1 = .sc (.int .i64 0)∧PgAt q.2.1 b (lN mem 0 x) (left-1) (c+1)∧nx≤q.2.2∧ ∀ m,m<nx→m≠b→(∀ ws,H.at' m≠some (fQ false c 1025 209 ws))→q.2.1.at' m=H.at' m):=by
 refine Fnc.start Tryz.func62 rfl rfl ?_
 (repeat(first|(apply ay;(exact rfl);(exact rfl);(exact rfl);(exact F.ag _ rfl);(focus(assumption));(exact aY hx))|refine aq ?_|refine ae ?_|refine ac ?_|(apply ai;exact rfl;exact rfl;exact rfl)|refine an rfl rfl rfl (F.ag _ rfl) (by assumption) (by exact rfl) ?_))
 refine ks 149 rfl rfl rfl rfl (by kernel_rfl) (Fnc.mono (sX (n:=0) hb hm (by decide) hx hl hl2 hc) ?_)
 rintro⟨_,HA,nA⟩ ⟨rfl,w1,w2,w3⟩
 dsimp only at w1 w2 w3 ⊢
 (repeat(first|refine ac ?_|(apply ai;exact rfl;exact rfl;exact rfl)))
 ((apply bf Tryz.func62 (congrArg Array.toList Tryz.results62));(focus(repeat(first|exact ResIs.nil|apply ResIs.tmp rfl))))
 exact⟨rfl,w1,w2,w3⟩
def eB1:cO:=(⟨#[98]⟩,40,1)
def eA0:cO:=(⟨#[97]⟩,40,0)
def eB9:cO:=(⟨#[98]⟩,39,9)
def eC0:cO:=(⟨#[99]⟩,40,0)
def root0:List UInt8:=mV (gM 2) [1]
def lp0:List UInt8:=gM 3
def lp1:List UInt8:=mV lp0 (cy eB1)
def lp2:List UInt8:=mV lp1 (cy eA0)
def lp3:List UInt8:=mV lp2 (cy eB9)
theorem vJ:oY (gM 2) [1]=(root0,0,0):=by kernel_rfl
theorem xI:oY lp0 (cy eB1)=(lp1,0,0):=by kernel_rfl
theorem xH:oY lp1 (cy eA0)=(lp2,1,0):=by kernel_rfl
theorem xG:oY lp2 (cy eB9)=(lp3,2,0):=by kernel_rfl
def NoPut(H:aJ)(m:Nat):Prop:= ∀ c ws,H.at' m≠some (fQ false c 1025 209 ws)
theorem NoPut.box{H:aJ}{m:Nat}{t:TypeId}{l:List SV}(h:H.at' m=some (az t l)):NoPut H m:=fun c=>gU h
theorem NoPut.same{H H':aJ}{m:Nat}(h:NoPut H m)(e:H'.at' m=H.at' m):NoPut H' m:=fun c ws=>by rw [e];exact h c ws
theorem gH:root0.length=1024:=by kernel_rfl
def pz(mem:List UInt8):Nat→List UInt8
 | 0=>mem
 | 1=>lN mem 1 (gM 3)
 | _=>lN (lN mem 1 (gM 3)) 0 root0
theorem yP{H:aJ}{nx b c:Nat}{mem:List UInt8}{left:Int}(hb:PgAt H b mem left c)(hm:mem.length=28672)(hl:left<0)(hl2 : -1000000≤left)(hc:c≤100000):Fnc Tryz.prog 32 [q9 b] H nx
 (fun q=>q.1 = .sc (.int .i64 0)∧PgAt q.2.1 b (pz mem 2) (left-1-1) (c+1+1)∧nx≤q.2.2∧ ∀ m,m<nx→m≠b→NoPut H m→q.2.1.at' m=H.at' m):=by
 refine Fnc.start Tryz.func32 rfl rfl ?_
 refine cn fun hund=>?_
 have hlb:b<nx:=(let ⟨_,h,_⟩:=hb;hund _ _ h)
 have hin:=fun(H:aJ) (nx:Nat)=>ww (H:=H) (nx:=nx) 2
 (repeat(first|(refine aL rfl rfl rfl (by kernel_rfl) (Fnc.mono (hin _ _) ?_);rintro _ rfl;dsimp only)|refine aq ?_|refine ae ?_|refine ac ?_|refine aH ?_|refine au rfl ?_|(apply aN;exact rfl;exact rfl;exact rfl;exact rfl)|(apply aP;exact rfl;exact rfl;exact(F.zl _ rfl))|(apply cJ;exact rfl;exact rfl;exact rfl;exact rfl)|refine an rfl rfl rfl (F.ag _ rfl) (by(repeat(first|exact Tr.ab _ _ _|refine(Tr.aa _ _ (by omega)).trans ?_));done) (by exact rfl) ?_|(apply bE;exact rfl;exact rfl;exact(F.un _ rfl);exact(F.sz _ rfl);exact rfl;exact(F.ze _ rfl);exact rfl;exact rfl;exact rfl;exact rfl;exact rfl)|((apply jG;exact rfl;exact rfl;exact rfl;(focus(kernel_rfl))))|(refine cw rfl rfl rfl rfl Tryz.underlying78 rfl ?_)))
 have hB:BsIs ((((H.set nx (x5 b)).set (nx+1) (md 0))).set (nx+1+1) (fQ false 1 1 5 ((byV [1]).map .sc))) (.slu (nx+1+1) 0 1) (byV [1]):=
  qK (ro:=false) (n:=1) (Eq.trans (b:=some (fQ false 1 1 5 ((byV [1]).map .sc))) (by(repeat(exact Tr.ab _ _ _));done) (congrArg some (cR _ _ _ _ _))) rfl
 have hins:=qv (nx:=nx+1+1+1) (fG 2) hB (by decide)
 rw [vJ] at hins
 (repeat(first|(refine aL rfl rfl rfl (by kernel_rfl) (Fnc.mono (hins) ?_);rintro _ rfl;dsimp only)|(refine aP rfl rfl iI ?_)|(apply aE;(exact rfl);(exact rfl);(exact rfl);(exact F.sz _ rfl);(focus((focus((repeat(exact Tr.ab _ _ _));done))));(exact aY gH);(rw [aY ak];exact zD _);(exact dv _);(exact dt _ _ ak gH))|(refine cD rfl rfl rfl rfl (fun hq=>absurd rfl hq) (fun _=>?_))|refine aq ?_|refine ae ?_|refine ac ?_|refine aH ?_|refine au rfl ?_|(apply aj;exact rfl;exact rfl;exact rfl)|(apply ai;exact rfl;exact rfl;exact rfl)|(apply aD;exact rfl;exact rfl;exact rfl;exact rfl)|(apply aN;exact rfl;exact rfl;exact rfl;exact rfl)|refine aM rfl rfl rfl rfl (F.sz _ rfl) (by(repeat(first|exact Tr.ab _ _ _|refine(Tr.aa _ _ (by omega)).trans ?_));done) rfl (by exact zn rfl) rfl ?_|refine an rfl rfl rfl (F.ag _ rfl) (by(repeat(exact Tr.ab _ _ _));done) (by exact rfl) ?_|(apply bE;exact rfl;exact rfl;exact(F.un _ rfl);exact(F.sz _ rfl);exact rfl;exact(F.ze _ rfl);exact rfl;exact rfl;exact rfl;exact rfl;exact rfl)))
 refine ki (R:=fun H2 n2=>n2=nx+1+1+1+1+1∧H2.at' nx=some (x5 b)∧H2.at' (nx+1)=some (md 0)∧H2.at' (nx+1+1+1)=some (pgO root0)∧H2.at' (nx+1+1+1+1)=some (fnR [(61,[.ptr nx 0]),(62,[.ptr nx 0,.ptr (nx+1+1+1) 0])])∧ ∀ m,m<nx→H2.at' m=H.at' m) ⟨rfl,by(focus((repeat(first|exact Tr.ab _ _ _|refine(Tr.aa _ _ (by omega)).trans ?_));done)),by(focus((repeat(first|exact Tr.ab _ _ _|refine(Tr.aa _ _ (by omega)).trans ?_));done)),by(focus((repeat(first|exact Tr.ab _ _ _|refine(Tr.aa _ _ (by omega)).trans ?_));done)),by(focus((repeat(exact Tr.ab _ _ _));done)),fun m hm=>by(focus((repeat(refine(Tr.aa _ _ (by omega)).trans ?_));exact rfl))⟩ ?_
 clear hins hB
 rintro H2 n2 ⟨rfl,b0,b1,b3,b4,bo⟩
 refine aL rfl rfl rfl (by kernel_rfl) (Fnc.mono (yn (r:=nx+1+1+1+1) (fs:= [(61,[.ptr nx 0]),(62,[.ptr nx 0,.ptr (nx+1+1+1) 0])]) (zn rfl) (fun x hx=>by rcases List.mem_cons.1 hx with rfl|hx;kernel_rfl;rw [List.mem_singleton.1 hx];kernel_rfl)
  (fun i H3 n3=>H3.at' (nx+1+1+1+1)=some (fnR [(61,[.ptr nx 0]),(62,[.ptr nx 0,.ptr (nx+1+1+1) 0])])∧H3.at' nx=some (x5 b)∧H3.at' (nx+1)=some (md 0)∧H3.at' (nx+1+1+1)=some (pgO root0)∧nx+1+1+1+1+1≤n3∧(∃ lf,lf=left-(i:Int)∧PgAt H3 b (pz mem i) lf (c+i))∧ ∀ m,m<nx→m≠b→NoPut H m→H3.at' m=H.at' m)
  (fun _ _ _=>False) (fun i H3 n3 h=>h.1) ?_ ⟨b4,b0,b1,b3,zD _,⟨left,by omega,hb.frame hund bo⟩,fun m hm _ _=>bo m hm⟩) ?_)
 ·intro i hi H3 n3 ⟨s1,s2,s3,s4,s5,⟨lf,hlf,s6⟩,s7⟩
  have hfn: ∀ c ws,H3.at' (nx+1+1+1+1)≠some (fQ false c 1025 209 ws):=fun c ws h=>by
   rw [s1] at h
   injection h with h
   injection h with _ _ h
   exact absurd h (by decide)
  rcases i with _|_|i
  ·refine Fnc.mono (xA (a:=nx) s2 (by omega) s6 hm (by omega) (by omega) (by omega)) ?_
   rintro⟨_,H4,n4⟩ ⟨rfl,g1,g2,g3⟩
   exact .inl ⟨rfl,(g3 _ (by omega) (by omega) (hfn _)).trans s1,(g3 _ (by omega) (by omega) (gU s2)).trans s2,(g3 _ (by omega) (by omega) (gU s3)).trans s3,(g3 _ (by omega) (by omega) (gU s4)).trans s4,by dsimp only at g2 ⊢;omega,⟨_,by omega,g1⟩,fun m h1 h2 h3=>(g3 m (by omega) h2 (h3.same (s7 m h1 h2 h3) _)).trans (s7 m h1 h2 h3)⟩
  ·refine Fnc.mono (xz (a:=nx) (d:=nx+1+1+1) s2 s4 gH s6 (kC hm (by decide) (fG 3)) (by omega) (by omega) (by omega)) ?_
   rintro⟨_,H4,n4⟩ ⟨rfl,g1,g2,g3⟩
   exact .inl ⟨rfl,(g3 _ (by omega) (by omega) (hfn _)).trans s1,(g3 _ (by omega) (by omega) (gU s2)).trans s2,(g3 _ (by omega) (by omega) (gU s3)).trans s3,(g3 _ (by omega) (by omega) (gU s4)).trans s4,by dsimp only at g2 ⊢;omega,⟨_,by omega,g1⟩,fun m h1 h2 h3=>(g3 m (by omega) h2 (h3.same (s7 m h1 h2 h3) _)).trans (s7 m h1 h2 h3)⟩
  ·exact absurd hi (by show ¬ (i+1+1<2);omega)
 rintro⟨_,H4,n4⟩ (⟨rfl,s1,s2,s3,s4,s5,⟨lf,hlf,s6⟩,s7⟩|⟨_,_,_,hf⟩)
 case inr=>exact hf.elim
 obtain rfl:lf=left-1-1:=by rw [hlf];show left-((2:Nat):Int)=_;omega
 obtain⟨s,z1,z2⟩:=s6
 dsimp only at s3 s5 z1 z2 s7 ⊢
 (repeat(first|refine ac ?_|refine aM rfl rfl rfl rfl (F.sz _ rfl) (by assumption) rfl (by exact zn rfl) rfl ?_))
 refine jX Tryz.func32 (congrArg Array.toList Tryz.results32) (by kernel_rfl) (Fnc.mono xB ?_)
 rintro _ rfl
 refine⟨_,(by(repeat(first|exact ResIs.nil|apply ResIs.cell rfl (LoadIs.one (F.ag _ rfl) (by(repeat(exact Tr.ab _ _ _));done) (aW rfl))))),?_⟩
 exact⟨rfl,⟨s,by(focus((repeat(refine(Tr.aa _ _ (by omega)).trans ?_));exact z1)),z2.frame fun r ws hr=>(by have hrn:r≠nx+1:=(by rintro rfl;exact gU s3 ws hr);(focus((repeat(refine(Tr.aa _ _ (by omega)).trans ?_));exact rfl)))⟩,by first|omega|(dsimp only;omega),fun m h1 h2 h3=>by(focus((repeat(refine(Tr.aa _ _ (by omega)).trans ?_));exact s7 m h1 h2 h3))⟩
abbrev bp:Value:= .int .u8 0
abbrev iz:List Value:= [.slice none 0 0,.int .i64 0,.bool false]
def uB:List Value:= [bp,bp,bp,bp,bp,bp,bp,bp,bp,bp,bp,bp,bp,bp,bp,bp,bp,bp,bp,bp,bp,bp,bp,bp,bp,bp,bp,bp,bp,bp,bp,bp,bp,bp,bp,bp,bp,bp,bp,bp,bp,bp,bp,bp,bp,bp,bp,bp,bp,bp,bp,bp,bp,bp,bp,bp]
theorem oZ:uB=List.replicate 56 bp:=rfl
def mw:List Value:=List.append uB uB
theorem mv:mw=List.replicate 112 bp:=by
 show uB ++ uB=_
 rw [oZ,List.replicate_append_replicate]
def mu:List Value:=List.append mw mw
theorem mt:mu=List.replicate 224 bp:=by
 show mw ++ mw=_
 rw [mv,List.replicate_append_replicate]
def mr:List Value:=List.append mu mu
theorem mq:mr=List.replicate 448 bp:=by
 show mu ++ mu=_
 rw [mt,List.replicate_append_replicate]
def mn:List Value:=List.append mr mr
theorem mm:mn=List.replicate 896 bp:=by
 show mr ++ mr=_
 rw [mq,List.replicate_append_replicate]
def jc:List Value:=List.append mn mn
theorem kN:jc=List.replicate 1792 bp:=by
 show mn ++ mn=_
 rw [mm,List.replicate_append_replicate]
def jb:List Value:=List.append jc jc
theorem kM:jb=List.replicate 3584 bp:=by
 show jc ++ jc=_
 rw [kN,List.replicate_append_replicate]
def rW:List Value:=List.append jb jb
theorem rV:rW=List.replicate 7168 bp:=by
 show jb ++ jb=_
 rw [kM,List.replicate_append_replicate]
def zt57:List Value:= [bp,bp,bp,bp,bp,bp,bp,bp,bp,bp,bp,bp,bp,bp,bp,bp,bp,bp,bp,bp,bp,bp,bp,bp,bp,bp,bp,bp,bp,bp,bp,bp,bp,bp,bp,bp,bp,bp,bp,bp,bp,bp,bp,bp,bp,bp,bp,bp,bp,bp,bp,bp,bp,bp,bp,bp,bp]
theorem wG:zt57=List.replicate 57 bp:=rfl
def wJ:List Value:=List.append uB zt57
theorem uE:wJ=List.replicate 113 bp:=by
 show uB ++ zt57=_
 rw [oZ,wG,List.replicate_append_replicate]
def wI:List Value:=List.append mw wJ
theorem uD:wI=List.replicate 225 bp:=by
 show mw ++ wJ=_
 rw [mv,uE,List.replicate_append_replicate]
def wH:List Value:=List.append mu wI
theorem uC:wH=List.replicate 449 bp:=by
 show mu ++ wI=_
 rw [mt,uD,List.replicate_append_replicate]
def wF:List Value:=List.append mr wH
theorem uA:wF=List.replicate 897 bp:=by
 show mr ++ wH=_
 rw [mq,uC,List.replicate_append_replicate]
def r5:List Value:=List.append mn wF
theorem rZ:r5=List.replicate 1793 bp:=by
 show mn ++ wF=_
 rw [mm,uA,List.replicate_append_replicate]
def rY:List Value:=List.append jc r5
theorem rX:rY=List.replicate 3585 bp:=by
 show jc ++ r5=_
 rw [kN,rZ,List.replicate_append_replicate]
def ny:List Value:=List.append jb rY
theorem nw:ny=List.replicate 7169 bp:=by
 show jb ++ rY=_
 rw [kM,rX,List.replicate_append_replicate]
def o9:List Value:=List.append rW ny
theorem qU:o9=List.replicate 14337 bp:=by
 show rW ++ ny=_
 rw [rV,nw,List.replicate_append_replicate]
def zq57:List Value:= [bp,bp,bp,bp,bp,bp,bp,bp,bp,bp,bp,bp,bp,bp,bp,bp,bp,bp,bp,bp,bp,bp,bp,bp,bp,bp,bp,bp,bp,bp,bp,bp,bp,bp,bp,bp,bp,bp,bp,bp,bp,bp,bp,bp,bp,bp,bp,bp,bp,bp,bp,bp,bp,bp,Value.slice none 0 0,Value.int .i64 0,Value.bool false]
theorem wL:zq57=List.replicate 54 bp ++ iz:=rfl
def wO:List Value:=List.append uB zq57
theorem uI:wO=List.replicate 110 bp ++ iz:=by
 show uB ++ zq57=_
 rw [oZ,wL,←List.append_assoc,List.replicate_append_replicate]
def wN:List Value:=List.append mw wO
theorem uH:wN=List.replicate 222 bp ++ iz:=by
 show mw ++ wO=_
 rw [mv,uI,←List.append_assoc,List.replicate_append_replicate]
def wM:List Value:=List.append mu wN
theorem uG:wM=List.replicate 446 bp ++ iz:=by
 show mu ++ wN=_
 rw [mt,uH,←List.append_assoc,List.replicate_append_replicate]
def wK:List Value:=List.append mr wM
theorem uF:wK=List.replicate 894 bp ++ iz:=by
 show mr ++ wM=_
 rw [mq,uG,←List.append_assoc,List.replicate_append_replicate]
def sd:List Value:=List.append mn wK
theorem sa:sd=List.replicate 1790 bp ++ iz:=by
 show mn ++ wK=_
 rw [mm,uF,←List.append_assoc,List.replicate_append_replicate]
def r9:List Value:=List.append jc sd
theorem r8:r9=List.replicate 3582 bp ++ iz:=by
 show jc ++ sd=_
 rw [kN,sa,←List.append_assoc,List.replicate_append_replicate]
def r7:List Value:=List.append jb r9
theorem r6:r7=List.replicate 7166 bp ++ iz:=by
 show jb ++ r9=_
 rw [kM,r8,←List.append_assoc,List.replicate_append_replicate]
def pb:List Value:=List.append ny r7
theorem qW:pb=List.replicate 14335 bp ++ iz:=by
 show ny ++ r7=_
 rw [nw,r6,←List.append_assoc,List.replicate_append_replicate]
def zq28675:List Value:=List.append o9 pb
theorem qV:zq28675=List.replicate 28672 bp ++ iz:=by
 show o9 ++ pb=_
 rw [qU,qW,←List.append_assoc,List.replicate_append_replicate]
theorem ye:dq Tryz.prog 53=some (.agg (List.toArray zq28675)):=by kernel_rfl
abbrev zeroM:List UInt8:=List.replicate 28672 0
theorem gw:zeroM.length=28672:=List.length_replicate
theorem uJ:zq28675.map SV.sc=nS zeroM dl 0 false:=by
 rw [qV,zI,List.map_replicate]
 show _=(byV (List.replicate 28672 0)).map SV.sc ++ _
 rw [show byV (List.replicate 28672 (0:UInt8))=List.replicate 28672 bp from List.map_replicate,List.map_replicate]
 rfl
theorem xh:vq Tryz.prog 53=some [(0,28672),(28672,1),(28673,1),(28674,1)]:=by kernel_rfl
theorem vN:fh (fun i=>([(0,28672),(28672,1),(28673,1),(28674,1)]:List (Nat×Nat))[i]?) ((Value.agg (List.toArray zq28675)).cells.toList.map .sc) [(2,.sc (.int .i64 (-1)))]=some (nS zeroM dl (-1) false):=by
 have e:(Value.agg (List.toArray zq28675)).cells.toList.map SV.sc=nS zeroM dl 0 false:=(congrArg (List.map SV.sc) (List.toList_toArray ..)).trans uJ
 have h1:=gT gw
 have hl:=jM gw dl 0 false
 rw [e,kJ (vc:= [.sc (.int .i64 (-1))]) (size:=1) (off:=28673) rfl rfl rfl (by rw [hl];exact zn rfl)]
 clear e hl
 unfold nS
 generalize (byV zeroM).map SV.sc=A at h1 ⊢
 rw [List.take_append,zu (by omega),List.drop_append,List.drop_of_length_le (by omega),h1]
 simp
structure Okp (p:List UInt8):Prop where
 len:p.length=1024
 head:18+4*aT p≤bi p
 top:bi p≤1024
 last:0<aT p→bq p (aT p-1)≠0
 slot: ∀ j,j<aT p→(bL p j=0∧bq p j=0)∨(1≤bq p j∧bq p j≤1000∧bi p≤bL p j∧bL p j+bq p j≤1024)
 apart: ∀ i j,i<j→j<aT p→bq p i≠0→bq p j≠0→bL p i+bq p i≤bL p j∨bL p j+bq p j≤bL p i
theorem mg{seen:List (Nat×Nat)}{i:Nat}:cI seen i=true↔ ∃ x∈seen,x.1≤i∧i<x.1+x.2:=by
 simp [cI,List.any_eq_true]
def jI(p:List UInt8):Nat→List (Nat×Nat)
 | 0=> []
 | n+1=>if bq p n=0 then jI p n else(bL p n,bq p n) :: jI p n
theorem jp{p:List UInt8}{x:Nat×Nat}: ∀ {n:Nat},x∈jI p n↔ ∃ i,i<n∧bq p i≠0∧x=(bL p i,bq p i)
 | 0=>by simp [jI]
 | n+1=>by
   unfold jI
   split
   ·rename_i h
    rw [jp]
    constructor
    ·rintro⟨i,h1,h2⟩
     exact⟨i,by omega,h2⟩
    ·rintro⟨i,h1,h2,h3⟩
     rcases Nat.lt_or_ge i n with h4|h4
     ·exact⟨i,h4,h2,h3⟩
     ·obtain rfl:i=n:=by omega
      exact absurd h h2
   ·rename_i h
    rw [List.mem_cons,jp]
    constructor
    ·rintro(h1|⟨i,h1,h2⟩)
     ·exact⟨n,by omega,h,h1⟩
     ·exact⟨i,by omega,h2⟩
    ·rintro⟨i,h1,h2,h3⟩
     rcases Nat.lt_or_ge i n with h4|h4
     ·exact .inr ⟨i,h4,h2,h3⟩
     ·obtain rfl:i=n:=by omega
      exact .inl h3
theorem oK{P Q:Nat→Bool}: ∀ (l:List Nat),(∀ i∈l,P i=true→Q i=true→False)→l.countP (fun i=>P i || Q i)=l.countP P+l.countP Q
 | [],_=>rfl
 | a :: l,h=>by
   have ih:=oK l fun i hi=>h i (List.mem_cons_of_mem _ hi)
   have ha:=h a List.mem_cons_self
   rw [List.countP_cons,List.countP_cons,List.countP_cons,ih]
   cases hP:P a <;> cases hQ:Q a
   ·simp
   ·simp;omega
   ·simp;omega
   ·exact absurd hQ (fun h2=>ha hP h2)
theorem jQ(a s:Nat): ∀ n,(List.range n).countP (fun i=>decide (a≤i∧i<a+s))=min n (a+s)-min n a
 | 0=>by simp
 | n+1=>by
   rw [List.range_succ,List.countP_append,jQ a s n,List.countP_cons,List.countP_nil]
   by_cases h:a≤n∧n<a+s
   ·rw [if_pos (by rw [decide_eq_true h])];omega
   ·rw [if_neg (by rw [decide_eq_false h];decide)];omega
def gC(p:List UInt8):Nat→Nat
 | 0=>0
 | n+1=>gC p n+bq p n
theorem Okp.count{p:List UInt8}(h:Okp p): ∀ n,n≤aT p→(List.range 1024).countP (cI (jI p n))=gC p n
 | 0,_=>by
   show(List.range 1024).countP (cI [])=0
   rw [List.countP_eq_zero]
   intro a _
   simp [cI]
 | n+1,hn=>by
   have ih:=h.count n (by omega)
   by_cases hz:bq p n=0
   ·have hs:jI p (n+1)=jI p n:=by show(if bq p n=0 then _ else _)=_;rw [if_pos hz]
    rw [hs,ih]
    show _=gC p n+bq p n
    omega
   ·have hs:jI p (n+1)=(bL p n,bq p n) :: jI p n:=by show(if bq p n=0 then _ else _)=_;rw [if_neg hz]
    have hsl:=h.slot n (by omega)
    rw [hs,show cI ((bL p n,bq p n) :: jI p n)=fun i=>decide (bL p n≤i∧i<bL p n+bq p n) || cI (jI p n) i from funext fun i=>by simp only [cI,List.any_cons],
     oK,jQ,ih]
    ·show _=gC p n+bq p n
     omega
    ·intro i _ h1 h2
     have h1:=of_decide_eq_true h1
     obtain⟨x,hx,h3⟩:=mg.1 h2
     obtain⟨k,hk,hkz,rfl⟩:=jp.1 hx
     have:=h.apart k n hk (by omega) hkz hz
     dsimp only at h3
     omega
theorem Okp.sum_le{p:List UInt8}(h:Okp p):bi p+gC p (aT p)≤1024:=by
 have h1:=h.count _ (zD _)
 have h2:(List.range 1024).countP (cI (jI p (aT p)))≤(List.range 1024).countP (fun i=>decide (bi p≤i∧i<bi p+1024)):=by
  refine List.countP_mono_left fun i _ hi=>?_
  obtain⟨x,hx,h3⟩:=mg.1 hi
  obtain⟨k,hk,hkz,rfl⟩:=jp.1 hx
  have h4:=h.slot k hk
  dsimp only at h3
  exact decide_eq_true (by omega)
 rw [jQ] at h2
 have:=h.top
 omega
theorem gZ(p:List UInt8){m:Nat}: ∀ {n:Nat},m≤n→gC p m≤gC p n
 | 0,h=>by cases Nat.le_zero.1 h;exact zD _
 | n+1,h=>by
   rcases Nat.lt_or_ge m (n+1)with h1|h1
   ·have:=gZ p (show m≤n by omega)
    show _≤gC p n+bq p n
    omega
   ·obtain rfl:m=n+1:=by omega
    exact zD _
theorem qy{p q:List UInt8}{o m:Nat}(h: ∀ i,o≤i→i<o+m→q[i]? =p[i]?):(q.drop o).take m=(p.drop o).take m:=by
 refine List.ext_getElem? fun j=>?_
 rw [List.getElem?_take,List.getElem?_take]
 split
 ·rw [List.getElem?_drop,List.getElem?_drop]
  exact h _ (by omega) (by omega)
 ·rfl
theorem wl{p:List UInt8}{o:Nat}{l:List UInt8}(h:o+l.length≤p.length):((is p o l).drop o).take l.length=l:=by
 refine List.ext_getElem? fun j=>?_
 rw [List.getElem?_take]
 split
 ·rw [List.getElem?_drop,lb h,if_pos (by omega),show o+j-o=j by omega]
 ·rw [List.getElem?_eq_none (by omega)]
theorem pt{p:List UInt8}{o:Nat}{l:List UInt8}(h:o+l.length≤p.length){i:Nat}(hi:i<o∨o+l.length≤i):(is p o l)[i]? =p[i]? :=by
 rw [lb h,if_neg (by omega)]
theorem kB{p:List UInt8}{o n:Nat}(h:o+2≤p.length){i:Nat}(hi:i<o∨o+2≤i):(kj p o n)[i]? =p[i]? :=
 pt (by rw [ee];exact h) (by rw [ee];exact hi)
theorem nQ{p:List UInt8}{n a s:Nat}(h:18+4*n+4≤p.length){i:Nat}(hi:i<18+4*n∨18+4*n+4≤i):(dV p n a s)[i]? =p[i]? :=by
 unfold dV
 rw [kB (by rw [dN (by omega)];omega) (by omega),kB (by omega) (by omega)]
theorem iM{p:List UInt8}{n a s o:Nat}(h:18+4*n+4≤p.length)(ho:o+2≤18+4*n∨18+4*n+4≤o):j6 (dV p n a s) o=j6 p o:=
 tp fun i h1 h2=>nQ h (by omega)
theorem ru{p:List UInt8}{n a s:Nat}(h:18+4*n+4≤p.length)(ha:a<65536):bL (dV p n a s) n=a:=by
 unfold dV
 exact(hY (by rw [dN (by omega)];omega) (by omega)).trans (jo (by omega) ha)
theorem rp{p:List UInt8}{n a s:Nat}(h:18+4*n+4≤p.length)(hs:s<65536):bq (dV p n a s) n=s:=by
 unfold dV
 exact jo (by rw [dN (by omega)];omega) hs
theorem ka(p:List UInt8): ∀ k n,(∀ j,n≤j→j<dR p k n→bq p j≠0)∧(dR p k n<n+k→bq p (dR p k n)=0)∧n≤dR p k n∧dR p k n≤n+k
 | 0,n=>⟨fun j h1 h2=>absurd (show j<n from h2) (by omega),fun h=>absurd (show n<n+0 from h) (by omega),zD _,zD _⟩
 | k+1,n=>by
   unfold dR
   split
   ·rename_i h
    exact⟨fun j h1 h2=>absurd h1 (by omega),fun _=>h,zD _,by omega⟩
   ·rename_i h
    have ih:=ka p k (n+1)
    refine⟨fun j h1 h2=>?_,fun h1=>ih.2.1 (by omega),by omega,by omega⟩
    rcases Nat.lt_or_ge n j with h3|h3
    ·exact ih.1 j (by omega) h2
    ·obtain rfl:j=n:=by omega
     exact h
theorem lC(p:List UInt8):(∀ j,j<bB p→bq p j≠0)∧(bB p<aT p→bq p (bB p)=0)∧bB p≤aT p:=by
 have:=ka p (aT p) 0
 unfold bB
 exact⟨fun j hj=>this.1 j (zE _) hj,fun h=>this.2.1 (by omega),by omega⟩
abbrev gL(p:List UInt8):Nat:=if bB p=aT p then aT p+1 else aT p
theorem tA{p:List UInt8}(hp:p.length=1024):(fx p).length=1024:=by
 unfold fx
 split
 ·rw [dN (by omega),hp]
 ·exact hp
theorem ln{p:List UInt8}(hp:p.length=1024){o:Nat}(ho:o+2≤14∨16≤o):j6 (fx p) o=j6 p o:=by
 unfold fx
 split
 ·exact hY (by omega) (by omega)
 ·rfl
theorem tB{p:List UInt8}(hp:p.length=1024){i:Nat}(hi:i<14∨16≤i):(fx p)[i]? =p[i]? :=by
 unfold fx
 split
 ·exact kB (by omega) (by omega)
 ·rfl
theorem py{p:List UInt8}(hp:p.length=1024)(hs:aT p<1000):aT (fx p)=gL p:=by
 unfold fx gL
 split
 ·rename_i h
  rw [show aT (kj p 14 (bB p+1))=bB p+1 from jo (by omega) (by omega),h]
 ·rfl
structure Laid (p it q:List UInt8):Prop where
 len:q.length=1024
 slots:aT q=gL p
 begins:bi q=bi p-it.length
 froms:bL q (bB p)=bi p-it.length
 sizes:bq q (bB p)=it.length
 from': ∀ j,j≠bB p→j<aT p→bL q j=bL p j
 size': ∀ j,j≠bB p→j<aT p→bq q j=bq p j
 item:(q.drop (bi p-it.length)).take it.length=it
 get: ∀ i,i<14∨bi p≤i→q[i]? =p[i]?
theorem laid{p it:List UInt8}(h:Okp p)(h2:it.length≤1000)(hroom:it.length≤kZ p)(h1:1≤it.length):Laid p it (mV p it):=by
 have hp:=h.len
 have hh:=h.head
 have ht:=h.top
 have he:=(lC p).2.2
 have hmb:bi (fx p)=bi p:=ln hp (by omega)
 have hms:=py hp (by omega)
 have hml:=tA hp
 unfold kZ at hroom
 have ha:18+4*gL p+it.length≤bi p∧bB p<gL p:=by unfold gL;split at hroom <;> split <;> omega
 obtain⟨ha,hee⟩:=ha
 have hl2:(dV (fx p) (bB p) (bi p-it.length) it.length).length=1024:=(jL (by omega)).trans hml
 have hl3:(kj (dV (fx p) (bB p) (bi p-it.length) it.length) 16 (bi p-it.length)).length=1024:=(dN (by omega)).trans hl2
 have hl: ∀ o,o+2≤bi p-it.length→j6 (mV p it) o=j6 (kj (dV (fx p) (bB p) (bi p-it.length) it.length) 16 (bi p-it.length)) o:=fun o ho=>by
  unfold mV
  rw [hmb]
  exact qj (by omega) (by omega)
 have ho: ∀ o,o+2≤bi p-it.length→(o+2≤16∨18≤o)→j6 (mV p it) o=j6 (dV (fx p) (bB p) (bi p-it.length) it.length) o:=fun o ho h3=>(hl o ho).trans (hY (by omega) (by omega))
 have hmany:aT p≤gL p:=by unfold gL;split <;> omega
 refine⟨?_,?_,?_,?_,?_,fun j h3 h4=>?_,fun j h3 h4=>?_,?_,fun i hi=>?_⟩
 ·unfold mV
  rw [hmb,gJ (by omega),hl3]
 ·exact(ho 14 (by omega) (by omega)).trans ((iM (by omega) (by omega)).trans hms)
 ·exact(hl 16 (by omega)).trans (jo (by omega) (by omega))
 ·exact(ho _ (by omega) (by omega)).trans (ru (by omega) (by omega))
 ·exact(ho _ (by omega) (by omega)).trans (rp (by omega) (by omega))
 ·exact(ho _ (by omega) (by omega)).trans ((iM (by omega) (by omega)).trans (ln hp (by omega)))
 ·exact(ho _ (by omega) (by omega)).trans ((iM (by omega) (by omega)).trans (ln hp (by omega)))
 ·unfold mV
  rw [hmb]
  exact wl (by omega)
 ·unfold mV
  rw [hmb,pt (by omega) (by omega),kB (by omega) (by omega),nQ (by omega) (by omega),tB hp (by omega)]
theorem Laid.ok{p it q:List UInt8}(h:Okp p)(h2:it.length≤1000)(hroom:it.length≤kZ p)(h1:1≤it.length)(g:Laid p it q):Okp q:=by
 have hh:=h.head
 have ht:=h.top
 obtain⟨he1,he2,he3⟩:=lC p
 unfold kZ at hroom
 have ha:18+4*gL p+it.length≤bi p∧bB p<gL p:=by unfold gL;split at hroom <;> split <;> omega
 have hm: ∀ j,j<gL p→j=bB p∨j≠bB p∧j<aT p:=fun j hj=>by unfold gL at hj;split at hj <;> omega
 have gb:=g.begins
 have gs:=g.slots
 refine⟨g.len,by omega,by omega,fun hpos=>?_,fun j hj=>?_,fun i j hij hj hzi hzj=>?_⟩
 ·rw [gs]
  rcases hm (gL p-1) (by omega)with h3|⟨h3,h4⟩
  ·rw [h3,g.sizes];omega
  ·rw [g.size' _ h3 h4]
   have:gL p=aT p:=by
    by_cases hc:bB p=aT p
    ·unfold gL at h3 h4
     rw [if_pos hc] at h3 h4
     omega
    ·unfold gL
     rw [if_neg hc]
   rw [this]
   exact h.last (by omega)
 ·rcases hm j (by omega)with h3|⟨h3,h4⟩
  ·subst h3
   rw [g.froms,g.sizes,gb]
   omega
  ·rw [g.from' _ h3 h4,g.size' _ h3 h4,gb]
   have:=h.slot j h4
   omega
 ·rcases hm i (by omega)with h3|⟨h3,h4⟩
  ·subst h3
   rcases hm j (by omega)with h5|⟨h5,h6⟩
   ·omega
   ·rw [g.froms,g.sizes,g.from' _ h5 h6,g.size' _ h5 h6]
    rw [g.size' _ h5 h6] at hzj
    have:=h.slot j h6
    omega
  ·rw [g.size' _ h3 h4] at hzi
   rw [g.from' _ h3 h4,g.size' _ h3 h4]
   have h7:=h.slot i h4
   rcases hm j (by omega)with h5|⟨h5,h6⟩
   ·subst h5
    rw [g.froms,g.sizes]
    omega
   ·rw [g.size' _ h5 h6] at hzj
    rw [g.from' _ h5 h6,g.size' _ h5 h6]
    exact h.apart i j hij h6 hzi hzj
theorem Laid.items{p it q:List UInt8}(h:Okp p)(g:Laid p it q):dJ q (bB p)=it∧ ∀ j,j≠bB p→j<aT p→bq p j≠0→dJ q j=dJ p j:=by
 refine⟨?_,fun j h3 h4 h5=>?_⟩
 ·unfold dJ
  rw [g.froms,g.sizes,g.item]
 ·unfold dJ
  rw [g.from' _ h3 h4,g.size' _ h3 h4]
  have:=h.slot j h4
  exact qy fun i h6 h7=>g.get i (by omega)
structure PackN (p:List UInt8) (n:Nat) (q:List UInt8):Prop where
 len:q.length=1024
 low: ∀ i,i<18→q[i]? =p[i]?
 from': ∀ j,j<n→bq p j≠0→bL q j=1024-gC p (j+1)
 size': ∀ j,j<n→bq p j≠0→bq q j=bq p j
 fromE: ∀ j,j<aT p→n≤j∨bq p j=0→bL q j=bL p j
 sizeE: ∀ j,j<aT p→n≤j∨bq p j=0→bq q j=bq p j
 item: ∀ j,j<n→bq p j≠0→(q.drop (1024-gC p (j+1))).take (bq p j)=dJ p j
 zero: ∀ i,18+4*aT p≤i→i<1024-gC p n→q[i]? =some 0
structure Packed (p q:List UInt8):Prop where
 len:q.length=1024
 low: ∀ i,i<16→q[i]? =p[i]?
 slots:aT q=aT p
 begins:bi q=1024-gC p (aT p)
 froms: ∀ j,j<aT p→bL q j=if bq p j=0 then 0 else 1024-gC p (j+1)
 sizes: ∀ j,j<aT p→bq q j=bq p j
 item: ∀ j,j<aT p→bq p j≠0→dJ q j=dJ p j
theorem Packed.ok{p q:List UInt8}(h:Okp p)(g:Packed p q):Okp q:=by
 have hh:=h.head
 have ht:=h.top
 have hs1:=h.sum_le
 have gs:=g.slots
 have gb:=g.begins
 refine⟨g.len,by omega,by omega,fun hpos=>?_,fun j hj=>?_,fun i j hij hj hzi hzj=>?_⟩
 ·rw [gs,g.sizes _ (by omega)]
  exact h.last (by omega)
 ·have h1:=h.slot j (by omega)
  have h4:=gZ p (show j+1≤aT p by omega)
  have h5:gC p (j+1)=gC p j+bq p j:=rfl
  rw [g.froms j (by omega),g.sizes j (by omega),gb]
  split <;> omega
 ·rw [g.sizes i (by omega)] at hzi
  rw [g.sizes j (by omega)] at hzj
  rw [g.froms i (by omega),g.sizes i (by omega),g.froms j (by omega),g.sizes j (by omega),if_neg hzi,if_neg hzj]
  have h4:=gZ p (show i+1≤j by omega)
  have h5:gC p (j+1)=gC p j+bq p j:=rfl
  have h6:=gZ p (show j+1≤aT p by omega)
  exact .inr (by omega)
theorem mf{p q:List UInt8}: ∀ {k n},(∀ j,n≤j→j<n+k→bq q j=bq p j)→dR q k n=dR p k n
 | 0,_,_=>rfl
 | k+1,n,h=>by
   unfold dR
   rw [h n (zD _) (by omega),mf fun j h1 h2=>h j (by omega) (by omega)]
theorem Packed.empty{p q:List UInt8}(g:Packed p q):bB q=bB p:=by
 unfold bB
 rw [g.slots]
 exact mf fun j _ h2=>g.sizes j (by omega)
abbrev bs0:List Bn.El:= [(5,ei)]
theorem li{mem x:List UInt8}{a b:Nat}(ha:1024*a+1024≤mem.length)(hx:x.length=1024):cP (lN mem a x) b=if b=a then x else cP mem b:=by
 unfold cP lN
 by_cases h:b=a
 ·rw [if_pos h,h]
  have:=wl (p:=mem) (o:=1024*a) (l:=x) (by omega)
  rwa [hx] at this
 ·rw [if_neg h]
  exact qy fun i h1 h2=>pt (by omega) (by omega)
theorem wj:iK root0=some bs0:=by kernel_rfl
theorem yT:fy lp0 bs0 0=some ([],[]):=by kernel_rfl
theorem yS:fy lp1 bs0 0=some ([(eB1,0)],[]):=by kernel_rfl
theorem yR:fy lp2 bs0 0=some ([(eA0,1),(eB1,0)],[]):=by kernel_rfl
theorem qt:fy lp3 bs0 0=some ([(eA0,1),(eB9,2),(eB1,0)],[]):=by kernel_rfl
theorem slot0:ir [] eB1=none:=by kernel_rfl
theorem slot1:ir [(eB1,0)] eA0=none:=by kernel_rfl
theorem slot2:ir [(eA0,1),(eB1,0)] eB9=none:=by kernel_rfl
theorem yy:ir [(eA0,1),(eB9,2),(eB1,0)] eA0=some 1:=by kernel_rfl
theorem yx:ir [(eA0,1),(eB9,2),(eB1,0)] eC0=none:=by kernel_rfl
theorem len1:lp1.length=1024:=by kernel_rfl
theorem len2:lp2.length=1024:=by kernel_rfl
theorem len3:lp3.length=1024:=by kernel_rfl
section
variable {P:Program} {ro:Option Nat} {fn nt nx:Nat} {T:Tr SV} {k:List AIt} {dfs:List ADf} {H:aJ} {Q:Pst} {ops:Array Oper} {i:Nat} {l:List Oper} {d:Option Tmp} {ty:TypeId} {pos:String} {af:Array Edge} {gd:Option (Nat×Bool)}
theorem vj{t yt:TypeId}{x y:Operand}{a b:ByteArray}{r:Bool}(hx:am T x=some (.sc (.string a)))(hy:am T y=some (.sc (.string b)))(hr:(!bLt a b)=r):ReadDoes P T H ⟨d,.binOp .geq t x y yt,ty,pos,af,gd⟩ (.sc (.bool r)):=by
 subst hr
 refine cS fun ev w he=>?_
 have e1:=he x _ hx _ rfl
 have e2:=he y _ hy _ rfl
 rw [← up]
 simp [execOp,e1,e2,eqGuard,binOp,Op.stringOp]
theorem pg{t yt:TypeId}{x y:Operand}{a b:ByteArray}{r:Bool}{dd:Nat}(hw:ar T ops ⟨some dd,.binOp .geq t x y yt,ty,pos,af,gd⟩=some true)(hd:Nat.blt dd nt=true)(hx:am T x=some (.sc (.string a)))(hy:am T y=some (.sc (.string b)))(hr:(!bLt a b)=r)
 (h:Wp P ro ⟨fn,nt,T.set dd (.sc (.bool r)),.inReg ops (i+1) l :: k,dfs,H,nx⟩ Q):Wp P ro ⟨fn,nt,T,.inReg ops i (⟨some dd,.binOp .geq t x y yt,ty,pos,af,gd⟩ :: l) :: k,dfs,H,nx⟩ Q:=
 bK hw (.inr (fun _ h=>by cases h)) ((vj hx hy hr).does) (by rw [aC hd];exact h)
end
theorem EnAt.one{H:aJ}{s:SV}{l:List cO}{lo hi:Nat}(h:EnAt H s l lo hi):s.one=true:=by
 rcases h with ⟨_,rfl⟩|⟨_,_,rfl,_⟩ <;> rfl
theorem qd{H:aJ}{nx a b:Nat}:Fnc Tryz.prog 52 [.ptr a 0,.ptr b 0] H nx (fun q=>q=(.tup [],H,nx)):=by
 refine Fnc.start Tryz.func52 rfl rfl ?_
 (repeat(first|refine aq ?_|refine ae ?_|refine ac ?_|refine aH ?_|refine au rfl ?_|((apply gz;exact rfl;exact rfl))|(refine je rfl rfl rfl Tryz.underlying20 ?_)))
 ((apply fT Tryz.func52 (congrArg Array.toList Tryz.results52));(focus(repeat(exact ResIs.nil))))
 rfl
theorem tU{H:aJ}{nx a b:Nat}:Fnc Tryz.prog 50 [.ptr a 0,.ptr b 0] H nx (fun q=>q=(.tup [],H,nx)):=by
 refine Fnc.start Tryz.func50 rfl rfl ?_
 (repeat(first|refine aq ?_|refine ae ?_|refine ac ?_|refine aH ?_|refine au rfl ?_|((apply gz;exact rfl;exact rfl))|(refine je rfl rfl rfl Tryz.underlying20 ?_)))
 ((apply fT Tryz.func50 (congrArg Array.toList Tryz.results50));(focus(repeat(exact ResIs.nil))))
 rfl
theorem xM{H:aJ}{nx a:Nat}{key:ByteArray}(ha:H.at' a=some (az 9 [.sc (.string key)]))(e:cO):Fnc Tryz.prog 51 [eO e,.ptr a 0] H nx (fun q=>q=(.sc (.bool (e.1 == key)),H,nx)):=by
 refine Fnc.dp (Free.sc _) ?_
 refine Fnc.start Tryz.func51 rfl rfl ?_
 refine cn fun hund=>?_
 have hlt:=hund _ _ ha
 (repeat(first|((apply wR;exact rfl;exact rfl;exact rfl;exact rfl))|(refine an rfl rfl rfl (F.ag _ rfl) (by(repeat(refine(Tr.aa _ _ (by omega)).trans ?_));exact ha) rfl ?_)|refine aq ?_|refine ae ?_|refine ac ?_|(apply ai;exact rfl;exact rfl;exact rfl)|(apply ap;exact rfl;exact rfl;exact rfl;exact(F.fo _ _ rfl rfl))|(apply bj;exact rfl;exact rfl;exact rfl)|refine an rfl rfl rfl (F.ag _ rfl) (by(repeat(first|assumption|exact Tr.ab _ _ _));done) (by exact rfl) ?_))
 ((apply bf Tryz.func51 (congrArg Array.toList Tryz.results51));(focus(repeat(first|exact ResIs.nil|apply ResIs.tmp rfl))))
 exact⟨rfl,zM _,fun m hm=>by(focus((repeat(refine(Tr.aa _ _ (by omega)).trans ?_));exact rfl))⟩
def inR(from' to':ByteArray)(e:cO):Bool:= !bLt e.1 from' && (to' == ⟨#[]⟩ || bLt e.1 to')
theorem vp{H:aJ}{nx a b:Nat}{k1 k2:ByteArray}(ha:H.at' a=some (az 9 [.sc (.string k1)]))(hb:H.at' b=some (az 9 [.sc (.string k2)]))(e:cO):Fnc Tryz.prog 53 [eO e,.ptr a 0,.ptr b 0] H nx (fun q=>q=(.sc (.bool (inR k1 k2 e)),H,nx)):=by
 refine Fnc.dp (Free.sc _) ?_
 refine Fnc.start Tryz.func53 rfl rfl ?_
 refine cn fun hund=>?_
 have hla:=hund _ _ ha
 have hlb:=hund _ _ hb
 cases h1:bLt e.1 k1 with
 | true=>
   (repeat(first|((apply pg (r:=false);exact rfl;exact rfl;exact rfl;exact rfl;exact(congrArg not h1)))|(refine an rfl rfl rfl (F.ag _ rfl) (by(repeat(refine(Tr.aa _ _ (by omega)).trans ?_));exact ha) rfl ?_)|refine aq ?_|refine ae ?_|refine ac ?_|(apply aj;exact rfl;exact rfl;exact rfl)|(apply ai;exact rfl;exact rfl;exact rfl)|(apply aO;exact rfl;exact rfl;exact rfl;exact rfl)|(apply ap;exact rfl;exact rfl;exact rfl;exact(F.fo _ _ rfl rfl))|(apply bT;exact rfl)|(apply bj;exact rfl;exact rfl;exact rfl)|refine an rfl rfl rfl (F.ag _ rfl) (by(repeat(first|assumption|exact Tr.ab _ _ _));done) (by exact rfl) ?_))
   ((apply bf Tryz.func53 (congrArg Array.toList Tryz.results53));(focus(repeat(first|exact ResIs.nil|apply ResIs.tmp rfl))))
   exact⟨by unfold inR;rw [h1];rfl,zM _,fun m hm=>by(focus((repeat(refine(Tr.aa _ _ (by omega)).trans ?_));exact rfl))⟩
 | false=>
   cases h2:(k2 == (⟨#[]⟩:ByteArray))with
   | true=>
     (repeat(first|((apply pg (r:=true);exact rfl;exact rfl;exact rfl;exact rfl;exact(congrArg not h1)))|(refine pY (r:=true) rfl rfl rfl rfl h2 ?_)|(refine an rfl rfl rfl (F.ag _ rfl) (by first|(focus((repeat(refine(Tr.aa _ _ (by omega)).trans ?_));exact ha))|(focus((repeat(refine(Tr.aa _ _ (by omega)).trans ?_));exact hb))) rfl ?_)|refine aq ?_|refine ae ?_|refine ac ?_|(apply aj;exact rfl;exact rfl;exact rfl)|(apply ai;exact rfl;exact rfl;exact rfl)|(apply aX;exact rfl;exact rfl;exact rfl;exact rfl)|(apply ap;exact rfl;exact rfl;exact rfl;exact(F.fo _ _ rfl rfl))|(apply bT;exact rfl)|(apply bj;exact rfl;exact rfl;exact rfl)|refine an rfl rfl rfl (F.ag _ rfl) (by(repeat(first|assumption|exact Tr.ab _ _ _));done) (by exact rfl) ?_))
     ((apply bf Tryz.func53 (congrArg Array.toList Tryz.results53));(focus(repeat(first|exact ResIs.nil|apply ResIs.tmp rfl))))
     exact⟨by unfold inR;rw [h1,h2];rfl,zM _,fun m hm=>by(focus((repeat(refine(Tr.aa _ _ (by omega)).trans ?_));exact rfl))⟩
   | false=>
     (repeat(first|((apply pg (r:=true);exact rfl;exact rfl;exact rfl;exact rfl;exact(congrArg not h1)))|(refine pY (r:=false) rfl rfl rfl rfl h2 ?_)|((apply kU;exact rfl;exact rfl;exact rfl;exact rfl;exact rfl))|(refine an rfl rfl rfl (F.ag _ rfl) (by first|(focus((repeat(refine(Tr.aa _ _ (by omega)).trans ?_));exact ha))|(focus((repeat(refine(Tr.aa _ _ (by omega)).trans ?_));exact hb))) rfl ?_)|refine aq ?_|refine ae ?_|refine ac ?_|(apply aj;exact rfl;exact rfl;exact rfl)|(apply ai;exact rfl;exact rfl;exact rfl)|(apply aX;exact rfl;exact rfl;exact rfl;exact rfl)|(apply aO;exact rfl;exact rfl;exact rfl;exact rfl)|(apply ap;exact rfl;exact rfl;exact rfl;exact(F.fo _ _ rfl rfl))|(apply bj;exact rfl;exact rfl;exact rfl)|refine an rfl rfl rfl (F.ag _ rfl) (by(repeat(first|assumption|exact Tr.ab _ _ _));done) (by exact rfl) ?_))
     ((apply bf Tryz.func53 (congrArg Array.toList Tryz.results53));(focus(repeat(first|exact ResIs.nil|apply ResIs.tmp rfl))))
     exact⟨by unfold inR;rw [h1,h2];rfl,zM _,fun m hm=>by(focus((repeat(refine(Tr.aa _ _ (by omega)).trans ?_));exact rfl))⟩
theorem xg{H:aJ}{nx b c:Nat}{mem:List UInt8}{left:Int}(k1 k2:ByteArray)(hb:PgAt H b mem left c)(hm:mem.length=28672)(hs:Small mem):Fnc Tryz.prog 28 [q9 b,.sc (.string k1),.sc (.string k2)] H nx
 (fun q=>nx≤q.2.2∧(∀ m,m<nx→q.2.1.at' m=H.at' m)∧((t5 mem (inR k1 k2)=none∧q.1 = .tup [dl,.sc (.int .i64 13)])∨ ∃ l s,t5 mem (inR k1 k2)=some l∧q.1 = .tup [s,.sc (.int .i64 0)]∧EnAt q.2.1 s l nx q.2.2)):=by
 refine Fnc.start Tryz.func28 rfl rfl ?_
 refine cn fun hund=>?_
 (repeat(first|refine aq ?_|refine ae ?_|refine ac ?_|refine aH ?_|refine au rfl ?_|(apply aj;exact rfl;exact rfl;exact rfl)|(apply aN;exact rfl;exact rfl;exact rfl;exact rfl)|(apply aP;exact rfl;exact rfl;exact(F.zl _ rfl))|(apply cJ;exact rfl;exact rfl;exact rfl;exact rfl)|((apply jG;exact rfl;exact rfl;exact rfl;(focus(kernel_rfl))))|(refine cw rfl rfl rfl rfl Tryz.underlying78 rfl ?_)))
 refine aL rfl rfl rfl (by kernel_rfl) (Fnc.mono (oA (g:=53) (caps:= [.ptr nx 0,.ptr (nx+1) 0]) (W:=inR k1 k2) (hb.frame hund (fun m hm=>by(focus((repeat(refine(Tr.aa _ _ (by omega)).trans ?_));exact rfl)))) hm hs (by kernel_rfl) (fun e H' nx' _ hf=>vp ((hf nx (by omega)).trans (by(repeat(first|exact Tr.ab _ _ _|refine(Tr.aa _ _ (by omega)).trans ?_));done)) ((hf (nx+1) (by omega)).trans (by(repeat(first|exact Tr.ab _ _ _|refine(Tr.aa _ _ (by omega)).trans ?_));done)) e)) ?_)
 rintro⟨v,H8,n8⟩ ⟨p1,p2,(⟨hn,rfl⟩|⟨l,s,hn,rfl,w⟩)⟩
 ·dsimp only at p1 p2 ⊢
  have b1:H8.at' (nx+1+1)=some (az 56 [dl]):=(p2 (nx+1+1) (by omega)).trans (by(repeat(first|exact Tr.ab _ _ _|refine(Tr.aa _ _ (by omega)).trans ?_));done)
  have b2:H8.at' (nx+1+1+1)=some (md 0):=(p2 (nx+1+1+1) (by omega)).trans (by(repeat(exact Tr.ab _ _ _));done)
  have bo: ∀ m,m<nx→H8.at' m=H.at' m:=fun m hm=>(p2 m (by omega)).trans (by(repeat(refine(Tr.aa _ _ (by omega)).trans ?_));exact rfl)
  clear p2
  (repeat(first|refine ac ?_|(apply aD;exact rfl;exact rfl;exact rfl;exact rfl)|refine aM rfl rfl rfl rfl (F.sz _ rfl) (by(repeat(first|assumption|refine(Tr.aa _ _ (by omega)).trans ?_));done) rfl (by exact zn rfl) rfl ?_))
  refine jX Tryz.func28 (congrArg Array.toList Tryz.results28) (by kernel_rfl) (Fnc.mono qd ?_)
  rintro _ rfl
  refine⟨_,(by(repeat(first|exact ResIs.nil|apply ResIs.cell rfl (LoadIs.one (F.ag _ rfl) (by(repeat(first|exact Tr.ab _ _ _|refine(Tr.aa _ _ (by omega)).trans ?_));done) (aW rfl))))),?_⟩
  exact⟨by first|omega|(dsimp only;omega),fun m hm=>by(focus((repeat(refine(Tr.aa _ _ (by omega)).trans ?_));exact bo m hm)),.inl ⟨hn,rfl⟩⟩
 ·dsimp only at p1 p2 w ⊢
  have b1:H8.at' (nx+1+1)=some (az 56 [dl]):=(p2 (nx+1+1) (by omega)).trans (by(repeat(first|exact Tr.ab _ _ _|refine(Tr.aa _ _ (by omega)).trans ?_));done)
  have b2:H8.at' (nx+1+1+1)=some (md 0):=(p2 (nx+1+1+1) (by omega)).trans (by(repeat(exact Tr.ab _ _ _));done)
  have bo: ∀ m,m<nx→H8.at' m=H.at' m:=fun m hm=>(p2 m (by omega)).trans (by(repeat(refine(Tr.aa _ _ (by omega)).trans ?_));exact rfl)
  have h1:=w.one
  clear p2
  (repeat(first|(refine aK rfl rfl rfl (F.sz _ rfl) (by assumption) h1 rfl ?_)|refine ac ?_|(apply aD;exact rfl;exact rfl;exact rfl;exact rfl)|refine aM rfl rfl rfl rfl (F.sz _ rfl) (by(repeat(first|assumption|refine(Tr.aa _ _ (by omega)).trans ?_));done) rfl (by exact zn rfl) rfl ?_))
  refine jX Tryz.func28 (congrArg Array.toList Tryz.results28) (by kernel_rfl) (Fnc.mono qd ?_)
  rintro _ rfl
  refine⟨_,(by(repeat(first|exact ResIs.nil|apply ResIs.cell rfl (LoadIs.one (F.ag _ rfl) (by(repeat(first|exact Tr.ab _ _ _|refine(Tr.aa _ _ (by omega)).trans ?_));done) (aW rfl))))),?_⟩
  exact⟨by first|omega|(dsimp only;omega),fun m hm=>by(focus((repeat(refine(Tr.aa _ _ (by omega)).trans ?_));exact bo m hm)),.inr ⟨l,s,hn,rfl,(w.frame (by(dsimp only;omega)) fun m h1 h2 _=>(by(repeat(refine(Tr.aa _ _ (by omega)).trans ?_));exact rfl)).low (by omega)⟩⟩
abbrev xZ(e:cO):List Value:= [.int .i64 e.2.1,.int .i64 e.2.2]
theorem kH{A:Type}{f:A→List Value}{sz:Nat}(hf: ∀ a,(f a).length=sz): ∀ (l:List A) (i o n:Nat) (hi:i<l.length),o+n≤sz→((l.flatMap f).drop (i*sz+o)).take n=((f l[i]).drop o).take n
 | [],i,_,_,hi,_=>by simp at hi
 | a :: l,0,o,n,_,h=>by
   rw [List.flatMap_cons,Nat.zero_mul,Nat.zero_add,List.drop_append_of_le_length (by rw [hf];omega),List.take_append_of_le_length (by rw [List.length_drop,hf];omega)]
   rfl
 | a :: l,i+1,o,n,hi,h=>by
   have e:(i+1)*sz+o-sz=i*sz+o:=by rw [Nat.succ_mul];omega
   have e2:sz≤(i+1)*sz+o:=by rw [Nat.succ_mul];omega
   rw [List.flatMap_cons,List.drop_append,List.drop_of_length_le (by rw [hf];exact e2),List.nil_append,hf,e]
   exact kH hf l i o n (by simpa using hi) h
theorem recT:RecOf xZ 2:=⟨fun _=>rfl,fun a v hv=>by
 simp only [xZ,List.mem_cons,List.not_mem_nil,or_false] at hv
 rcases hv with rfl|rfl <;> rfl⟩
abbrev tidR(l:List cO):VO:=dat false l.length 2 23 (l.flatMap xZ)
def TdAt(H:aJ)(s:SV)(l:List cO)(lo hi:Nat):Prop:=(l= []∧s=dl)∨ ∃ r,l≠ []∧s = .slu r 0 l.length∧lo≤r∧r<hi∧H.at' r=some (tidR l)
theorem TdAt.frame{H H':aJ}{s:SV}{l:List cO}{lo hi hi':Nat}(h:TdAt H s l lo hi)(hh:hi≤hi')(hf: ∀ m,lo≤m→m<hi→H'.at' m=H.at' m):TdAt H' s l lo hi':=by
 rcases h with h|⟨r,h1,h2,h3,h4,h5⟩
 ·exact .inl h
 ·exact .inr ⟨r,h1,h2,h3,by omega,(hf r h3 h4).trans h5⟩
theorem TdAt.low{H:aJ}{s:SV}{l:List cO}{lo lo' hi:Nat}(h:TdAt H s l lo hi)(hl:lo'≤lo):TdAt H s l lo' hi:=by
 rcases h with h|⟨r,h1,h2,h3,h4,h5⟩
 ·exact .inl h
 ·exact .inr ⟨r,h1,h2,by omega,h4,h5⟩
theorem TdAt.one{H:aJ}{s:SV}{l:List cO}{lo hi:Nat}(h:TdAt H s l lo hi):s.one=true:=by
 rcases h with ⟨_,rfl⟩|⟨_,_,rfl,_⟩ <;> rfl
theorem yO(k:ByteArray){H:aJ}{nx:Nat}:Fnc Tryz.prog 30 [.sc (.string k)] H nx (fun q=>q=(.sc (.bool (xy k)),H,nx)):=Ctr.callV (lp k) [] rfl (ExtOk.of rfl) rfl trivial rfl
theorem yZ{H:aJ}{nx b c:Nat}{mem:List UInt8}{left:Int}(k:ByteArray)(hk:xy k=true)(hb:PgAt H b mem left c)(hm:mem.length=28672)(hs:Small mem){l:List cO}(hn:t5 mem (fun e=>e.1 == k)=some l)(hl:l.length≤100000):Fnc Tryz.prog 27 [q9 b,.sc (.string k)] H nx
 (fun q=>nx≤q.2.2∧(∀ m,m<nx→q.2.1.at' m=H.at' m)∧ ∃ s,q.1 = .tup [s,.sc (.int .i64 0)]∧TdAt q.2.1 s l nx q.2.2):=by
 refine Fnc.start Tryz.func27 rfl rfl ?_
 refine cn fun hund=>?_
 have hmk:=fun(H:aJ) (nx:Nat)=>yO k (H:=H) (nx:=nx)
 rw [hk] at hmk
 (repeat(first|(refine aL rfl rfl rfl (by kernel_rfl) (Fnc.mono (hmk _ _) ?_);rintro _ rfl;dsimp only)|refine aq ?_|refine ae ?_|refine ac ?_|refine aH ?_|refine au rfl ?_|(apply aj;exact rfl;exact rfl;exact rfl)|(apply aN;exact rfl;exact rfl;exact rfl;exact rfl)|(apply aP;exact rfl;exact rfl;exact(F.zl _ rfl))|(apply cJ;exact rfl;exact rfl;exact rfl;exact rfl)|refine an rfl rfl rfl (F.ag _ rfl) (by(repeat(first|exact Tr.ab _ _ _|refine(Tr.aa _ _ (by omega)).trans ?_));done) (by exact rfl) ?_|(apply bh;exact rfl;exact rfl;exact rfl)|((apply jG;exact rfl;exact rfl;exact rfl;(focus(kernel_rfl))))|(refine cw rfl rfl rfl rfl Tryz.underlying78 rfl ?_)))
 refine aL rfl rfl rfl (by kernel_rfl) (Fnc.mono (oA (g:=51) (caps:= [.ptr nx 0]) (W:=fun e=>e.1 == k) (hb.frame hund (fun m hm=>by(focus((repeat(refine(Tr.aa _ _ (by omega)).trans ?_));exact rfl)))) hm hs (by kernel_rfl) (fun e H' nx' _ hf=>xM ((hf nx (by omega)).trans (by(repeat(first|exact Tr.ab _ _ _|refine(Tr.aa _ _ (by omega)).trans ?_));done)) e)) ?_)
 rintro⟨v,H8,n8⟩ ⟨p1,p2,(⟨hn',rfl⟩|⟨l',s,hn',rfl,w⟩)⟩
 ·rw [hn] at hn';cases hn'
 rw [hn] at hn'
 cases hn'
 dsimp only at p1 p2 w ⊢
 have b1:H8.at' (nx+1)=some (az 70 [dl]):=(p2 (nx+1) (by omega)).trans (by(repeat(first|exact Tr.ab _ _ _|refine(Tr.aa _ _ (by omega)).trans ?_));done)
 have b2:H8.at' (nx+1+1)=some (md 0):=(p2 (nx+1+1) (by omega)).trans (by(repeat(exact Tr.ab _ _ _));done)
 have bo: ∀ m,m<nx→H8.at' m=H.at' m:=fun m hm=>(p2 m (by omega)).trans (by(repeat(refine(Tr.aa _ _ (by omega)).trans ?_));exact rfl)
 clear p2
 rcases w with ⟨rfl,rfl⟩|⟨re,k1,rfl,k2,k3,k4⟩
 ·(repeat(first|refine aq ?_|refine ae ?_|refine ac ?_|refine aI ?_|refine aH ?_|refine au rfl ?_|(apply aj;exact rfl;exact rfl;exact rfl)|(apply ai;exact rfl;exact rfl;exact rfl)|(apply aD;exact rfl;exact rfl;exact rfl;exact rfl)|refine aM rfl rfl rfl rfl (F.sz _ rfl) (by assumption) rfl (by exact zn rfl) rfl ?_|refine an rfl rfl rfl (F.ag _ rfl) (by(repeat(first|assumption|exact Tr.ab _ _ _));done) (by exact rfl) ?_|(refine cD rfl rfl rfl rfl (fun hq=>absurd rfl hq) (fun _=>?_))|((apply dB;exact rfl;exact rfl;exact rfl;exact(F.un _ rfl)))))
  refine co (α:=Nat) (fun x=> [(4,.ptr (nx+1) 0),(5,.ptr (nx+1+1) 0),(25,.sc (.int .i64 0)),(26,.sc (.int .i64 0))])
   (fun x H9 n9=>n8≤n9∧H9.at' (nx+1)=some (az 70 [dl])∧H9.at' (nx+1+1)=some (md 0)∧ ∀ m,m<nx→H9.at' m=H.at' m) (fun x=>0) 0
   ⟨zD _,by(focus((repeat(first|assumption|refine(Tr.aa _ _ (by omega)).trans ?_));done)),by(focus((repeat(exact Tr.ab _ _ _));done)),fun m hm=>by(focus((repeat(refine(Tr.aa _ _ (by omega)).trans ?_));exact bo m hm))⟩ (SlIn.sub (by repeat(first|exact trivial|refine⟨rfl,?_⟩))) ?_
  rintro x H9 n9 ⟨u1,u2,u3,u4⟩ _
  (repeat(first|refine aq ?_|refine ae ?_|refine ac ?_|refine a9 rfl ?_|refine au rfl ?_|refine aM rfl rfl rfl rfl (F.sz _ rfl) (by(repeat(first|assumption|refine(Tr.aa _ _ (by omega)).trans ?_));done) rfl (by exact zn rfl) rfl ?_|refine an rfl rfl rfl (F.ag _ rfl) (by assumption) (by exact rfl) ?_|(refine bR rfl rfl rfl rfl (fun hq=>absurd hq (by decide)) (fun _=>?_))))
  refine jX Tryz.func27 (congrArg Array.toList Tryz.results27) (by kernel_rfl) (Fnc.mono tU ?_)
  rintro _ rfl
  refine⟨_,(by(repeat(first|exact ResIs.nil|apply ResIs.cell rfl (LoadIs.one (F.ag _ rfl) (by(repeat(first|exact Tr.ab _ _ _|refine(Tr.aa _ _ (by omega)).trans ?_));done) (aW rfl))))),?_⟩
  exact⟨by first|omega|(dsimp only;omega),fun m hm=>by(focus((repeat(refine(Tr.aa _ _ (by omega)).trans ?_));exact u4 m hm)),dl,rfl,.inl ⟨rfl,rfl⟩⟩
 ·(repeat(first|refine aq ?_|refine ae ?_|refine ac ?_|refine aI ?_|refine aH ?_|refine au rfl ?_|(apply aj;exact rfl;exact rfl;exact rfl)|(apply ai;exact rfl;exact rfl;exact rfl)|(apply aD;exact rfl;exact rfl;exact rfl;exact rfl)|refine aM rfl rfl rfl rfl (F.sz _ rfl) (by assumption) rfl (by exact zn rfl) rfl ?_|refine an rfl rfl rfl (F.ag _ rfl) (by(repeat(first|assumption|exact Tr.ab _ _ _));done) (by exact rfl) ?_|(apply a6;exact rfl;exact rfl;exact rfl;exact(F.un _ rfl))|(refine cD rfl rfl rfl rfl (fun hq=>absurd rfl hq) (fun _=>?_))))
  refine co (α:=Nat×SV) (fun x=> [(4,.ptr (nx+1) 0),(5,.ptr (nx+1+1) 0),(24,.slu re 0 l.length),(25,.sc (.int .i64 (l.length:Int))),(26,.sc (.int .i64 (x.1:Int)))])
   (fun x H9 n9=>x.1≤l.length∧n8≤n9∧H9.at' (nx+1)=some (az 70 [x.2])∧H9.at' (nx+1+1)=some (md 0)∧H9.at' re=some (y4 l)∧TdAt H9 x.2 (l.take x.1) n8 n9∧ ∀ m,m<nx→H9.at' m=H.at' m) (fun x=>l.length-x.1) (0,dl)
   ⟨zE _,zD _,by(focus((repeat(first|assumption|refine(Tr.aa _ _ (by omega)).trans ?_));done)),by(focus((repeat(exact Tr.ab _ _ _));done)),by(focus((repeat(refine(Tr.aa _ _ (by omega)).trans ?_));exact k4)),.inl ⟨rfl,rfl⟩,fun m hm=>by(focus((repeat(refine(Tr.aa _ _ (by omega)).trans ?_));exact bo m hm))⟩ (SlIn.sub (by repeat(first|exact trivial|refine⟨rfl,?_⟩))) ?_
  clear b1 b2 bo k4
  rintro⟨x,s⟩ H9 n9 ⟨u0,u1,u2,u3,u4,u5,u6⟩ ih
  dsimp only at u0 u1 u2 u3 u4 u5 u6 ih ⊢
  have hone:=u5.one
  (repeat(first|refine aq ?_|refine ae ?_))
  refine bR rfl rfl rfl rfl (fun c1=>?_) (fun c1=>?_)
  ·have hx:x<l.length:=by omega
   have hf:=kH (f:=iV) (sz:=3) (fun _=>rfl) l x 0 3 hx (by decide)
   have ht:l.take x ++ [l[x]]=l.take (x+1):=(List.take_succ_eq_append_getElem hx).symm
   have hlt:(l.take x).length≤100000:=by rw [List.length_take];omega
   rcases u5 with ⟨h0,rfl⟩|⟨r,v1,rfl,v2,v3,v4⟩
   ·(repeat(first|(refine fm (q:=x) rfl rfl rfl rfl (F.un _ rfl) (F.sz _ rfl) (by exact u4) rfl hx (zD _) ?_)|(refine fS (us:=iV l[x]) rfl rfl rfl (F.ag _ rfl) (by(repeat(refine(Tr.aa _ _ (by omega)).trans ?_));exact u4) hf rfl (by omega) ?_)|(refine fv rfl rfl rfl (F.ag _ rfl) (by(repeat(first|assumption|exact Tr.ab _ _ _|refine(Tr.aa _ _ (by omega)).trans ?_));done) (aw 2 1 rfl rfl) ?_)|refine aq ?_|refine ae ?_|refine ac ?_|refine aI ?_|refine aH ?_|refine ax rfl ?_|(apply ap;exact rfl;exact rfl;exact rfl;exact(F.fo _ _ rfl rfl))|refine aM rfl rfl rfl rfl (F.sz _ rfl) (by(repeat(first|assumption|exact Tr.ab _ _ _));done) rfl (by exact zn rfl) rfl ?_|(apply aP;exact rfl;exact rfl;exact(F.zl _ rfl))|refine an rfl rfl rfl (F.ag _ rfl) (by(repeat(first|assumption|refine(Tr.aa _ _ (by omega)).trans ?_));done) (by exact rfl) ?_|(apply bE;exact rfl;exact rfl;exact(F.un _ rfl);exact(F.sz _ rfl);exact rfl;exact(F.ze _ rfl);exact rfl;exact rfl;exact rfl;exact rfl;exact rfl)))
    refine gY (b:=16) (n:=1) (cs:=(xZ l[x]).map .sc) rfl rfl rfl rfl (F.un _ rfl) (.inl ⟨_,F.un _ rfl⟩) (F.sz _ rfl) rfl (by kernel_rfl) (by kernel_rfl) (SlOf.row (by(repeat(exact Tr.ab _ _ _));done) rfl) rfl (by decide) (by decide) ?_
    rintro _ _ _ (⟨h,_⟩|⟨_,rfl,rfl,rfl⟩)
    ·exact absurd h (by decide)
    (repeat(first|refine ae ?_|refine ac ?_|refine aB ?_|(apply aj;exact rfl;exact rfl;exact rfl)|refine aM rfl rfl rfl rfl (F.sz _ rfl) (by(repeat(first|assumption|refine(Tr.aa _ _ (by omega)).trans ?_));done) rfl (by exact zn rfl) rfl ?_|(apply bn;exact rfl;exact rfl;exact rfl;exact rfl;(focus(omega));(focus(omega)))))
    exact ih _ _ _ (x+1,.slu (n9+1+1) 0 1) ⟨hx,by first|omega|(dsimp only;omega),by(focus((repeat(exact Tr.ab _ _ _));done)),by(focus((repeat(first|assumption|refine(Tr.aa _ _ (by omega)).trans ?_));done)),by(focus((repeat(refine(Tr.aa _ _ (by omega)).trans ?_));exact u4)),.inr ⟨n9+1+1,by rw [← ht];simp;exact k1,by rw [← ht,h0];rfl,by first|omega|(dsimp only;omega),by first|omega|(dsimp only;omega),by rw [← ht,h0];exact Eq.trans (b:=some (fQ false 1 2 23 ((xZ l[x]).map .sc))) (by(repeat(first|exact Tr.ab _ _ _|refine(Tr.aa _ _ (by omega)).trans ?_));done) (congrArg some (cR _ _ _ _ (xZ l[x])))⟩,fun m hm=>by(focus((repeat(refine(Tr.aa _ _ (by omega)).trans ?_));exact u6 m hm))⟩ (by(omega)) (SlIn.sub (by repeat(first|exact trivial|refine⟨rfl,?_⟩)))
   ·(repeat(first|(refine fm (q:=x) rfl rfl rfl rfl (F.un _ rfl) (F.sz _ rfl) (by exact u4) rfl hx (zD _) ?_)|(refine fS (us:=iV l[x]) rfl rfl rfl (F.ag _ rfl) (by(repeat(refine(Tr.aa _ _ (by omega)).trans ?_));exact u4) hf rfl (by omega) ?_)|(refine fv rfl rfl rfl (F.ag _ rfl) (by(repeat(first|assumption|exact Tr.ab _ _ _|refine(Tr.aa _ _ (by omega)).trans ?_));done) (aw 2 1 rfl rfl) ?_)|refine aq ?_|refine ae ?_|refine ac ?_|refine aI ?_|refine aB ?_|refine aH ?_|refine ax rfl ?_|(apply aj;exact rfl;exact rfl;exact rfl)|(apply ap;exact rfl;exact rfl;exact rfl;exact(F.fo _ _ rfl rfl))|refine aM rfl rfl rfl rfl (F.sz _ rfl) (by(repeat(first|assumption|exact Tr.ab _ _ _|refine(Tr.aa _ _ (by omega)).trans ?_|refine(Tr.ah _ (by omega)).trans ?_));done) rfl (by exact zn rfl) rfl ?_|(apply aP;exact rfl;exact rfl;exact(F.zl _ rfl))|refine an rfl rfl rfl (F.ag _ rfl) (by(repeat(first|assumption|refine(Tr.aa _ _ (by omega)).trans ?_));done) (by exact rfl) ?_|(apply bn;exact rfl;exact rfl;exact rfl;exact rfl;(focus(omega));(focus(omega)))|(apply bE;exact rfl;exact rfl;exact(F.un _ rfl);exact(F.sz _ rfl);exact rfl;exact(F.ze _ rfl);exact rfl;exact rfl;exact rfl;exact rfl;exact rfl)|refine lW (b:=16) (xs:=(l.take x)) (a:=l[x]) rfl rfl rfl rfl (F.un _ rfl) (.inl ⟨_,F.un _ rfl⟩) (F.sz _ rfl) rfl (by kernel_rfl) (by kernel_rfl) (by(repeat(first|assumption|refine(Tr.aa _ _ (by omega)).trans ?_));done) (by(repeat(exact Tr.ab _ _ _));done) (by exact rfl) (recT) (by omega) (by omega) ?_))
    exact ih _ _ _ (x+1,.slu (n9+1+1) 0 (l.take x ++ [l[x]]).length) ⟨hx,by first|omega|(dsimp only;omega),by(focus((repeat(exact Tr.ab _ _ _));done)),by(focus((repeat(first|assumption|refine(Tr.aa _ _ (by omega)).trans ?_|refine(Tr.ah _ (by omega)).trans ?_));done)),by(focus((repeat(first|refine(Tr.aa _ _ (by omega)).trans ?_|refine(Tr.ah _ (by omega)).trans ?_));exact u4)),.inr ⟨n9+1+1,by rw [← ht];simp;exact k1,by rw [← ht],by first|omega|(dsimp only;omega),by first|omega|(dsimp only;omega),by rw [← ht];(focus((repeat(first|exact Tr.ab _ _ _|refine(Tr.aa _ _ (by omega)).trans ?_));done))⟩,fun m hm=>by(focus((repeat(first|refine(Tr.aa _ _ (by omega)).trans ?_|refine(Tr.ah _ (by omega)).trans ?_));exact u6 m hm))⟩ (by(omega)) (SlIn.sub (by repeat(first|exact trivial|refine⟨rfl,?_⟩)))
  ·obtain rfl:x=l.length:=by omega
   rw [List.take_length] at u5
   (repeat(first|(refine aK rfl rfl rfl (F.sz _ rfl) (by assumption) hone rfl ?_)|refine aq ?_|refine ae ?_|refine ac ?_|refine a9 rfl ?_|refine au rfl ?_|refine aM rfl rfl rfl rfl (F.sz _ rfl) (by(repeat(first|assumption|refine(Tr.aa _ _ (by omega)).trans ?_));done) rfl (by exact zn rfl) rfl ?_|refine an rfl rfl rfl (F.ag _ rfl) (by assumption) (by exact rfl) ?_))
   refine jX Tryz.func27 (congrArg Array.toList Tryz.results27) (by kernel_rfl) (Fnc.mono tU ?_)
   rintro _ rfl
   refine⟨_,(by(repeat(first|exact ResIs.nil|apply ResIs.cell rfl (LoadIs.one (F.ag _ rfl) (by(repeat(first|exact Tr.ab _ _ _|refine(Tr.aa _ _ (by omega)).trans ?_));done) (aW rfl))))),?_⟩
   exact⟨by first|omega|(dsimp only;omega),fun m hm=>by(focus((repeat(refine(Tr.aa _ _ (by omega)).trans ?_));exact u6 m hm)),s,rfl,(u5.frame (by(dsimp only;omega)) fun m h1 h2=>(by(repeat(refine(Tr.aa _ _ (by omega)).trans ?_));exact rfl)).low (by omega)⟩
structure Mst (mem x:List UInt8):Prop where
 len:mem.length=28672
 root:cP mem 0=root0
 leaf:cP mem 1=x
 rest: ∀ k,2≤k→k<28→cP mem k=zeroP
theorem Mst.set{mem x y:List UInt8}(h:Mst mem x)(hy:y.length=1024):Mst (lN mem 1 y) y:=by
 have hl:=h.len
 have hg: ∀ k,cP (lN mem 1 y) k=if k=1 then y else cP mem k:=fun k=>li (by rw [hl];decide) hy
 refine⟨kC h.len (by decide) hy,?_,?_,fun k h1 h2=>?_⟩
 ·rw [hg,if_neg (by decide)];exact h.root
 ·rw [hg,if_pos rfl]
 ·rw [hg,if_neg (by omega)];exact h.rest k h1 h2
theorem qX{k:Nat}(hk:k<28):cP zeroM k=zeroP:=by
 unfold cP
 rw [List.drop_replicate,List.take_replicate,Nat.min_eq_left (by omega)]
 rfl
theorem mst0:Mst (pz zeroM 2) lp0:=by
 have h1:(lN zeroM 1 (gM 3)).length=28672:=kC gw (by decide) (fG 3)
 have hg: ∀ k,cP (pz zeroM 2) k=if k=0 then root0 else cP (lN zeroM 1 (gM 3)) k:=fun k=>li (by rw [h1];decide) gH
 have hg2: ∀ k,cP (lN zeroM 1 (gM 3)) k=if k=1 then gM 3 else cP zeroM k:=fun k=>li (by rw [gw];decide) (fG 3)
 refine⟨kC h1 (by decide) gH,?_,?_,fun k h1 h2=>?_⟩
 ·rw [hg,if_pos rfl]
 ·rw [hg,if_neg (by decide),hg2,if_pos rfl];rfl
 ·rw [hg,if_neg (by omega),hg2,if_neg (by omega),qX h2]
theorem Mst.small{mem x:List UInt8}(h:Mst mem x)(hx:aT x≤12):Small mem:=fun k hk=>by
 rcases Nat.lt_or_ge k 2 with h2|h2
 ·rcases k with _|_|k
  ·rw [h.root];exact zn (by kernel_rfl)
  ·rw [h.leaf];exact hx
  ·omega
 ·rw [h.rest k h2 hk];exact zn (by kernel_rfl)
theorem Mst.home{mem x:List UInt8}(h:Mst mem x){own:List Ow.El}{left:List Int}(hl:fy x bs0 0=some (own,left))(e:cO):Home mem e bs0 1 own left:=by
 refine⟨by rw [h.root];exact wj,rfl,?_⟩
 rw [h.leaf]
 exact hl
theorem Mst.ent{mem x:List UInt8}(h:Mst mem x){own:List Ow.El}{left:List Int}(hl:fy x bs0 0=some (own,left))(W:cO→Bool):t5 mem W=some ((own.map (·.1)).filter W):=by
 unfold t5
 rw [h.root,wj]
 show(match some [] with|none=>none|some l=>match fy (cP mem 1) bs0 0 with|none=>none|some (own,_)=>some (l ++ (own.map (fun x:Ow.El=>x.1)).filter W))=_
 rw [h.leaf,hl]
 rfl
theorem jP{H:aJ}{nx:Nat}(k:ByteArray)(p s:Int):Fnc Tryz.prog 26 [.sc (.string k),.sc (.int .i64 p),.sc (.int .i64 s)] H nx (fun q=>q=(eO (k,p,s),H,nx)):=by
 refine Fnc.dp (lB _) ?_
 refine Fnc.start Tryz.func26 rfl rfl ?_
 (repeat(first|refine aq ?_|refine ae ?_|refine ac ?_|(apply aj;exact rfl;exact rfl;exact rfl)|refine aM rfl rfl rfl rfl (F.sz _ rfl) (by(repeat(exact Tr.ab _ _ _));done) rfl (by exact zn rfl) rfl ?_|(apply aP;exact rfl;exact rfl;exact(F.zl _ rfl))|(apply bc;exact rfl;exact rfl;exact rfl;exact(F.ze _ rfl);exact(F.pl _ rfl);exact rfl)))
 ((apply bf Tryz.func26 (congrArg Array.toList Tryz.results26));(focus(repeat(first|exact ResIs.nil|apply ResIs.cell rfl (LoadIs.many (F.ag _ rfl) (by(repeat(exact Tr.ab _ _ _));done) (aw _ 0 rfl rfl))))))
 exact⟨rfl,zM _,fun m hm=>by(focus((repeat(refine(Tr.aa _ _ (by omega)).trans ?_));exact rfl))⟩
theorem xL{H:aJ}{nx:Nat}:Fnc Tryz.prog 18 [] H nx (fun q=>q.1 = .ptr nx 0∧PgAt q.2.1 nx (pz zeroM 2) (-3) 0∧nx<q.2.2∧ ∀ m,m<nx→NoPut H m→q.2.1.at' m=H.at' m):=by
 refine Fnc.start Tryz.func18 rfl rfl ?_
 (repeat(first|(refine bc rfl rfl rfl ye xh vN ?_)|(refine gA rfl rfl rfl Tryz.underlying42 rfl ?_)|refine aq ?_|refine ae ?_|refine ac ?_|(apply aj;exact rfl;exact rfl;exact rfl)|(apply ai;exact rfl;exact rfl;exact rfl)|(apply bj;exact rfl;exact rfl;exact rfl)))
 refine aL rfl rfl rfl (by kernel_rfl) (Fnc.mono (yP (b:=nx) (c:=0) (mem:=zeroM) (left:= -1) ⟨dl,Tr.ab _ _ _,.inl ⟨rfl,rfl⟩⟩ gw (by decide) (by decide) (by decide)) ?_)
 rintro⟨_,H1,n1⟩ ⟨rfl,⟨s,g1,g2⟩,g3,g4⟩
 dsimp only at g1 g2 g3 g4 ⊢
 obtain⟨mem,hmem⟩: ∃ mem,mem=pz zeroM 2:=⟨_,rfl⟩
 have hml:mem.length=28672:=by rw [hmem];exact mst0.len
 rw [← hmem] at g1 ⊢
 (repeat(first|refine aq ?_|refine ae ?_|refine ac ?_|(apply aj;exact rfl;exact rfl;exact rfl)|(apply aU;exact rfl;exact rfl;exact rfl)|(apply ap;exact rfl;exact rfl;exact rfl;exact(F.fo _ _ rfl rfl))))
 refine aK (cs:=nS mem s (-1-1-1) false) rfl rfl rfl (F.sz _ rfl) g1 rfl (zp (by rw [jM hml];decide)) ?_
 rw [show ∀ x,(nS mem s (-1-1-1) false).set (0+28672) x=nS mem x (-1-1-1) false from fun x=>mK hml _ _ _ _]
 (repeat(first|refine aq ?_|refine ae ?_|refine ac ?_|(apply aj;exact rfl;exact rfl;exact rfl)|(apply ai;exact rfl;exact rfl;exact rfl)))
 ((apply bf Tryz.func18 (congrArg Array.toList Tryz.results18));(focus(repeat(first|exact ResIs.nil|apply ResIs.tmp rfl))))
 exact⟨rfl,⟨dl,Tr.ab _ _ _,.inl ⟨rfl,rfl⟩⟩,by first|omega|(dsimp only;omega),fun m h1 h2=>(Tr.aa _ _ (by omega)).trans ((g4 m (by omega) (by omega) (h2.same (Tr.aa _ _ (by omega)))).trans (Tr.aa _ _ (by omega)))⟩
theorem yB{H:aJ}{nx lo1 hi1 lo2 hi2:Nat}{s1 s2:SV}{l1 l2:List cO}(h1:EnAt H s1 l1 lo1 hi1)(h2:EnAt H s2 l2 lo2 hi2)(hl1:l1.length≤100000)(hl2:l2.length≤100000):Fnc Tryz.prog 23 [s1,s2] H nx (fun q=>q=(.sc (.bool (decide (l1=l2))),H,nx)):=by
 refine Fnc.start Tryz.func23 rfl rfl ?_
 rcases h1 with ⟨rfl,rfl⟩|⟨r1,a1,rfl,a2,a3,a4⟩ <;> rcases h2 with ⟨rfl,rfl⟩|⟨r2,b1,rfl,b2,b3,b4⟩
 ·(repeat(first|refine aq ?_|refine ae ?_|refine ac ?_|refine aI ?_|refine aH ?_|refine au rfl ?_|(apply aj;exact rfl;exact rfl;exact rfl)|(apply ai;exact rfl;exact rfl;exact rfl)|((apply dB;exact rfl;exact rfl;exact rfl;exact(F.un _ rfl)))|(refine cD rfl rfl rfl rfl (fun hq=>absurd rfl hq) (fun _=>?_))))
  refine co (α:=Nat) (fun x=> [(0,dl),(5,.sc (.int .i64 0))]) (fun x H7 n7=>H7=H∧n7=nx) (fun x=>0) 0 ⟨rfl,rfl⟩ (SlIn.sub (by repeat(first|exact trivial|refine⟨rfl,?_⟩))) ?_
  rintro x H7 n7 ⟨rfl,rfl⟩ _
  (repeat(first|refine aq ?_|refine ae ?_|refine ac ?_|refine a9 rfl ?_|refine au rfl ?_|(apply aj;exact rfl;exact rfl;exact rfl)|(apply ai;exact rfl;exact rfl;exact rfl)|((apply dB;exact rfl;exact rfl;exact rfl;exact(F.un _ rfl)))|(refine bR rfl rfl rfl rfl (fun hq=>absurd hq (by decide)) (fun _=>?_))))
  ((apply bf Tryz.func23 (congrArg Array.toList Tryz.results23));(focus(repeat(first|exact ResIs.nil|apply ResIs.tmp rfl))))
  rfl
 ·have hn: ¬ ([]:List cO)=l2:=fun h=>b1 h.symm
  have hn0:0<l2.length:=List.length_pos_iff.2 b1
  (repeat(first|refine aq ?_|refine ae ?_|refine ac ?_|refine ax rfl ?_|(apply aj;exact rfl;exact rfl;exact rfl)|(apply ai;exact rfl;exact rfl;exact rfl)|(apply a6;exact rfl;exact rfl;exact rfl;exact(F.un _ rfl))|((apply dB;exact rfl;exact rfl;exact rfl;exact(F.un _ rfl)))|(refine cD rfl rfl rfl rfl (fun _=>?_) (fun hq=>absurd hq (by omega)))))
  ((apply bf Tryz.func23 (congrArg Array.toList Tryz.results23));(focus(repeat(first|exact ResIs.nil|apply ResIs.tmp rfl))))
  rw [decide_eq_false hn];rfl
 ·have hn: ¬ l1=([]:List cO):=a1
  have hn0:0<l1.length:=List.length_pos_iff.2 a1
  (repeat(first|refine aq ?_|refine ae ?_|refine ac ?_|refine ax rfl ?_|(apply aj;exact rfl;exact rfl;exact rfl)|(apply ai;exact rfl;exact rfl;exact rfl)|(apply a6;exact rfl;exact rfl;exact rfl;exact(F.un _ rfl))|((apply dB;exact rfl;exact rfl;exact rfl;exact(F.un _ rfl)))|(refine cD rfl rfl rfl rfl (fun _=>?_) (fun hq=>absurd hq (by omega)))))
  ((apply bf Tryz.func23 (congrArg Array.toList Tryz.results23));(focus(repeat(first|exact ResIs.nil|apply ResIs.tmp rfl))))
  rw [decide_eq_false hn];rfl
 ·(repeat(first|refine aq ?_|refine ae ?_|refine ac ?_|(apply aj;exact rfl;exact rfl;exact rfl)|(apply ai;exact rfl;exact rfl;exact rfl)|(apply a6;exact rfl;exact rfl;exact rfl;exact(F.un _ rfl))))
  refine cD rfl rfl rfl rfl (fun c0=>?_) (fun c0=>?_)
  ·have hn: ¬ l1=l2:=fun h=>c0 (by rw [h])
   (repeat(first|refine aq ?_|refine ae ?_|refine ac ?_|refine ax rfl ?_|(apply ai;exact rfl;exact rfl;exact rfl)))
   ((apply bf Tryz.func23 (congrArg Array.toList Tryz.results23));(focus(repeat(first|exact ResIs.nil|apply ResIs.tmp rfl))))
   rw [decide_eq_false hn];rfl
  have hll:l1.length=l2.length:=by omega
  (repeat(first|refine aq ?_|refine ae ?_|refine ac ?_|refine aI ?_|refine aH ?_|refine au rfl ?_|(apply ai;exact rfl;exact rfl;exact rfl)))
  refine co (α:=Nat) (fun x=> [(0,.slu r1 0 l1.length),(1,.slu r2 0 l2.length),(5,.sc (.int .i64 (x:Int)))]) (fun x H7 n7=>H7=H∧n7=nx∧x≤l1.length∧l1.take x=l2.take x) (fun x=>l1.length-x) 0 ⟨rfl,rfl,zE _,rfl⟩ (SlIn.sub (by repeat(first|exact trivial|refine⟨rfl,?_⟩))) ?_
  rintro x H7 n7 ⟨rfl,rfl,h3,h4⟩ ih
  (repeat(first|refine aq ?_|refine ae ?_|(apply aj;exact rfl;exact rfl;exact rfl)|(apply a6;exact rfl;exact rfl;exact rfl;exact(F.un _ rfl))))
  refine bR rfl rfl rfl rfl (fun c1=>?_) (fun c1=>?_)
  ·have hx:x<l1.length:=by omega
   have hx2:x<l2.length:=by omega
   have hf1:=kH (f:=iV) (sz:=3) (fun _=>rfl) l1 x 0 3 hx (by decide)
   have hf2:=kH (f:=iV) (sz:=3) (fun _=>rfl) l2 x 0 3 hx2 (by decide)
   (repeat(first|refine aq ?_|refine ac ?_|refine aI ?_|refine aH ?_|refine ax rfl ?_))
   (apply cY;(focus(kernel_rfl));(focus(kernel_rfl)))
   (repeat(first|(refine dK (q:=x) rfl rfl rfl rfl (F.un _ rfl) (F.sz _ rfl) a4 rfl hx (zD _) ?_)|(refine dK (q:=x) rfl rfl rfl rfl (F.un _ rfl) (F.sz _ rfl) b4 rfl hx2 (zD _) ?_)|(refine fj (us:=iV l1[x]) rfl rfl rfl (F.ag _ rfl) a4 hf1 rfl (by omega) ?_)|(refine fj (us:=iV l2[x]) rfl rfl rfl (F.ag _ rfl) b4 hf2 rfl (by omega) ?_)|(apply bD;exact rfl;exact rfl;exact rfl)))
   cases hse:gu l1[x] l2[x] with
   | true=>
     (apply bl;exact rfl;exact rfl;exact(fun _ h=>by cases h);exact(di (a:=l1[x]) (b:=l2[x]) hse rfl rfl))
     (refine bZ ?_);(refine⟨by kernel_rfl,?_,?_⟩);(focus(repeat(first|exact trivial|refine⟨.inr ⟨0,by kernel_rfl,AllH.all (fun _=>(by(exact bC rfl))) _⟩,?_⟩|refine⟨.inl (by kernel_rfl),?_⟩)))
     have he:l1[x]=l2[x]:=of_decide_eq_true hse
     (repeat(first|refine ae ?_|refine ac ?_|refine aB ?_|refine aH ?_|refine au rfl ?_|(apply aj;exact rfl;exact rfl;exact rfl)|(apply ai;exact rfl;exact rfl;exact rfl)|(apply bn;exact rfl;exact rfl;exact rfl;exact rfl;(focus(omega));(focus(omega)))))
     exact ih _ _ _ (x+1) ⟨rfl,rfl,hx,by rw [List.take_succ_eq_append_getElem hx,List.take_succ_eq_append_getElem hx2,h4,he]⟩ (by omega) (SlIn.sub (by repeat(first|exact trivial|refine⟨rfl,?_⟩)))
   | false=>
     (apply bl;exact rfl;exact rfl;exact(fun _ h=>by cases h);exact(di (a:=l1[x]) (b:=l2[x]) hse rfl rfl))
     (refine bZ ?_);(refine⟨by kernel_rfl,?_,?_⟩);(focus(repeat(first|exact trivial|refine⟨.inr ⟨0,by kernel_rfl,AllH.all (fun _=>(by(exact bC rfl))) _⟩,?_⟩|refine⟨.inl (by kernel_rfl),?_⟩)))
     have hn: ¬ l1=l2:=fun h=>by subst h;exact of_decide_eq_false hse rfl
     (repeat(first|refine aq ?_|refine ae ?_|refine ac ?_|refine ax rfl ?_|(apply ai;exact rfl;exact rfl;exact rfl)))
     ((apply bf Tryz.func23 (congrArg Array.toList Tryz.results23));(focus(repeat(first|exact ResIs.nil|apply ResIs.tmp rfl))))
     rw [decide_eq_false hn];rfl
  ·obtain rfl:x=l1.length:=by omega
   have he:l1=l2:=by rw [List.take_length,hll,List.take_length] at h4;exact h4
   (repeat(first|refine aq ?_|refine ae ?_|refine ac ?_|refine a9 rfl ?_|refine au rfl ?_|(apply ai;exact rfl;exact rfl;exact rfl)))
   ((apply bf Tryz.func23 (congrArg Array.toList Tryz.results23));(focus(repeat(first|exact ResIs.nil|apply ResIs.tmp rfl))))
   rw [decide_eq_true he];rfl
end Go.Proofs.YtjjgjjlgchidlaaGreat
end
