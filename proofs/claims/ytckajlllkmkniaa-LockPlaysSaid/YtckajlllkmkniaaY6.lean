import Derived.Sort.AssemblyPlain
import Derived.Sort.LotD5
import Derived.Test.YtckajlllkmkniaaY5
set_option linter.unusedVariables false
set_option linter.unusedSimpArgs false
set_option maxRecDepth 100000
set_option maxHeartbeats 0
section
namespace Go.Proofs.Ytckajlllkmkniaa
open Go Go.Sy Go.Sl Go.RowKit
theorem kq{P:Program}{ro:Option Nat}{fn nt nx:Nat}{T:Tr SV}{it:AIt}{k:List AIt}{dfs:List ADf}{H:aV}{Q:Pst}{α:Type}(sl:α→List (Nat×SV))(I:α→aV→Nat→Prop)
 (body: ∀ k',(∀ T' H' nx' a',I a' H' nx'→(∀ n x,(slT (sl a')).at' n=some x→T'.at' n=some x)→Wp P ro ⟨fn,nt,T',k',dfs,H',nx'⟩ Q)→Wp P ro ⟨fn,nt,T,it :: k',dfs,H,nx⟩ Q)
 (rest: ∀ a H nx,I a H nx→Wp P ro ⟨fn,nt,slT (sl a),k,dfs,H,nx⟩ Q):Wp P ro ⟨fn,nt,T,it :: k,dfs,H,nx⟩ Q:=
 body k fun T' H' nx' a' ha hs=>Wp.less (rest a' H' nx' ha) hs (Tr.le_refl _)
theorem Tb.frame{t a b:Nat}{ml:MLk}{cl:Nat}{mp:MPt}{cp:Nat}{F1 F2:Nat→Prop}{H H':aV}(h:Tb t a b ml cl mp cp F1 F2 H)(hf: ∀ n,All t a b F1 F2 n→H'.at' n=H.at' n):Tb t a b ml cl mp cp F1 F2 H':=⟨(hf _ (.inl rfl)).trans h.tab,(hf _ (.inr (.inl rfl))).trans h.locks,(hf _ (.inr (.inr (.inl rfl)))).trans h.parties,h.okl,h.okp,Big.frame eR _ _ _ _ h.bl fun z hz=>hf _ (.inr (.inr (.inr (.inl hz)))),Big.frame eQ _ _ _ _ h.bp fun z hz=>hf _ (.inr (.inr (.inr (.inr hz)))),h.ne,h.d1,h.d2⟩
theorem Tb.all_lt{t a b:Nat}{ml:MLk}{cl:Nat}{mp:MPt}{cp:Nat}{F1 F2:Nat→Prop}{H:aV}{nx:Nat}(h:Tb t a b ml cl mp cp F1 F2 H)(hu: ∀ b vo,H.at' b=some vo→b<nx): ∀ n,All t a b F1 F2 n→n<nx:=by
 obtain⟨h1,h2,h3,h4,h5⟩:=h.lt hu
 intro n hn
 rcases hn with rfl|rfl|rfl|hn|hn
 ·exact h1
 ·exact h2
 ·exact h3
 ·exact h4 _ hn
 ·exact h5 _ hn
def ChgL(t:Nat)(T':LT)(l:List Nat)(e:Int)(Fp:Nat→Prop)(H:aV)(nx:Nat):Pst:=fun q=> ∃ r,q.1 = .tup [.slu r 0 l.length,.sc (.int .i64 e)]∧q.2.1.at' r=some (uR false l)∧nx≤r∧r<q.2.2∧ ∃ F',TabAt t T' F' q.2.1∧ ¬ F' r∧Step Fp F' H nx q.2.1 q.2.2
def LT.backOk(T:LT)(o:Nat)(mark:Int):Prop:=
 (T.keys o).length<999999∧((T.waits o).size≠0→ ∃ h l,bE T.locks (T.waits o)=some (h,l)∧o∈l∧l.length<1000000)∧(0≤mark→mark≤((T.keys o).length:Int)→LT.li o ((T.keys o).length-mark.toNat) (T.leave o))
theorem get_s{l:List ByteArray}{i:Nat}(hi:i<l.length):(l.flatMap sV)[i*1]? =some (.string l[i]):=by
 have:(l.flatMap sV)=l.map (fun s:ByteArray=>Value.string s):=by
  clear hi
  induction l with
  | nil=>rfl
  | cons a l ih=>rw [List.flatMap_cons,ih];rfl
 rw [this,Nat.mul_one,List.getElem?_map,zz hi];rfl
theorem Step.stay{F F':Nat→Prop}{H H':aV}{nx nx' r:Nat}(h:Step F F' H nx H' nx')(hr:r<nx)(hf: ¬ F r):H'.at' r=H.at' r∧ ¬ F' r∧r<nx':=by
 refine⟨h.2.2 r hr hf,fun q=>?_,Nat.lt_of_lt_of_le hr h.1⟩
 rcases h.2.1 r q with q|q
 ·exact hf q
 ·omega
theorem xx(l:List ByteArray):(l.flatMap sV).take ((l.length-1)*1)=l.dropLast.flatMap sV:=by
 have hm: ∀ l:List ByteArray,(l.flatMap sV)=l.map (fun s:ByteArray=>Value.string s):=by
  intro l
  induction l with
  | nil=>rfl
  | cons a l ih=>rw [List.flatMap_cons,ih];rfl
 rw [hm,hm,Nat.mul_one,List.dropLast_eq_take,List.map_take]
theorem bdN{T:Tr SV}{dflt n:Nat}{o:Operand}{k:IntKind}{j:Int}(h:ar T o=some (.sc (.int k j)))(hj:j=(n:Int)):gZ T dflt (some o) n:=by
 subst hj
 exact mV h (by omega)
theorem uJ{t:Nat}{T:LT}{Fp:Nat→Prop}{H:aV}{nx:Nat}(hT:TabAt t T Fp H)(o:Nat)(mark:Int)(hok:T.backOk o mark):Fnc Try.prog 15 [.ptr t 0,.sc (.int .u64 (o:Int)),.sc (.int .i64 mark)] H nx (ChgL t (T.back o mark).1 (T.back o mark).2.1 (T.back o mark).2.2 Fp H nx):=by
 obtain⟨ok1,ok2,ok3⟩:=hok
 have hT0:=hT
 have hT1:=hT
 obtain⟨a,b,ml,cl,mp,cp,F1,F2,h,rfl,hF⟩:=hT
 have hFp:Fp=All t a b F1 F2:=funext fun n=>propext (hF n)
 subst hFp
 have htab:=h.tab
 have hpar:=h.parties
 have hne:=h.ne
 refine Fnc.start Try.func15 rfl rfl ?_
 refine b4 fun hund=>?_
 have hall:=h.all_lt hund
 have early: ∀ e:Int,ChgL t (b9 ml mp) [] e (All t a b F1 F2) H nx (.tup [.slu nx 0 0,.sc (.int .i64 e)],H.set nx (dat false 0 1 23 []),nx+1):=fun e=>by
  refine⟨nx,rfl,Tr.ae _ _ _,zP _,Nat.lt_succ_self _,_,hT0.frame fun n hn=>Tr.aa _ _ ?_,fun q=>Nat.lt_irrefl _ (hall _ q),zY _,fun _ q=> .inl q,fun n hn _=>Tr.aa _ _ (by omega)⟩
  have:=hall _ hn
  omega
 (repeat(first|refine ao ?_|refine ai ?_|refine ah ?_|refine aN ?_|refine ay rfl ?_|refine am rfl rfl rfl ?_|refine aj rfl rfl rfl ?_|(refine bn rfl rfl rfl (by kernel_rfl) (Fnc.mono (iM htab) ?_);rintro _ rfl;dsimp only)))
 refine cF rfl rfl rfl rfl ?_ ?_
 all_goals intro h1
 ·have hb:(b9 ml mp).back o mark=(b9 ml mp,[],2):=by unfold LT.back;rw [if_pos (.inl (by omega))]
  rw [hb]
  (repeat(first|refine ao ?_|refine ai ?_|refine ah ?_|refine aD rfl ?_|refine am rfl rfl rfl ?_|refine aj rfl rfl rfl ?_|refine ce rfl rfl rfl rfl ?_|refine ix rfl ?_))
  refine co 1 23 (d:=6) (by(repeat(refine(Tr.aa _ _ (by omega)).trans ?_));first|exact Tr.ae _ _ _|assumption) rfl ?_
  ((apply bj Try.func15 (congrArg Array.toList Try.results15));(focus(repeat(first|exact ResIs.nil|apply ResIs.tmp rfl))))
  exact early 2
 (repeat(refine am rfl rfl rfl ?_))
 refine cu rfl rfl rfl rfl ?_ ?_
 all_goals intro h2
 ·have hb:(b9 ml mp).back o mark=(b9 ml mp,[],2):=by unfold LT.back;rw [if_pos (.inr (.inl (by omega)))]
  rw [hb]
  (repeat(first|refine ao ?_|refine ai ?_|refine ah ?_|refine aD rfl ?_|refine am rfl rfl rfl ?_|refine aj rfl rfl rfl ?_|refine ce rfl rfl rfl rfl ?_|refine bO rfl rfl rfl rfl ?_|refine ix rfl ?_))
  refine co 1 23 (d:=6) (by(repeat(refine(Tr.aa _ _ (by omega)).trans ?_));first|exact Tr.ae _ _ _|assumption) rfl ?_
  ((apply bj Try.func15 (congrArg Array.toList Try.results15));(focus(repeat(first|exact ResIs.nil|apply ResIs.tmp rfl))))
  exact early 2
 (repeat(first|refine am rfl rfl rfl ?_|refine bO rfl rfl rfl rfl ?_|(refine bn rfl rfl rfl (by kernel_rfl) (Fnc.mono (tN hT0 o) ?_);rintro _ rfl;dsimp only)))
 refine gv rfl rfl rfl rfl ?_ ?_
 all_goals intro h3
 ·have hb:(b9 ml mp).back o mark=(b9 ml mp,[],2):=by unfold LT.back;rw [if_pos (.inr (.inr (by omega)))]
  rw [hb]
  (repeat(first|refine ao ?_|refine ai ?_|refine ah ?_|refine aD rfl ?_|refine aj rfl rfl rfl ?_|refine bO rfl rfl rfl rfl ?_))
  refine co 1 23 (d:=6) (by(repeat(refine(Tr.aa _ _ (by omega)).trans ?_));first|exact Tr.ae _ _ _|assumption) rfl ?_
  ((apply bj Try.func15 (congrArg Array.toList Try.results15));(focus(repeat(first|exact ResIs.nil|apply ResIs.tmp rfl))))
  exact early 2
 have hc1: ¬ (o=0∨mark<0∨(((b9 ml mp).keys o).length:Int)<mark):=by omega
 obtain⟨m,rfl⟩: ∃ m:Nat,mark=(m:Int):=⟨mark.toNat,by omega⟩
 rw [Int.toNat_natCast] at ok3
 replace ok3:=ok3 (by omega) (by omega)
 (repeat(first|refine ao ?_|refine ai ?_|refine ah ?_|refine aN ?_|refine ay rfl ?_|refine am rfl rfl rfl ?_|refine bO rfl rfl rfl rfl ?_|refine aJ rfl rfl rfl ?_|refine au rfl rfl rfl (F.fo _ _ rfl rfl) ?_|refine aL rfl rfl rfl (F.ag _ rfl) (by first|exact Tr.ae _ _ _|assumption) (by exact rfl) ?_))
 cases hgp:cO mp o with
 | none=>
   have hb:(b9 ml mp).back o (m:Int)=(b9 ml mp,[],0):=by unfold LT.back;rw [if_neg hc1,pA,hgp];rfl
   rw [hb]
   (repeat(first|refine ao ?_|refine ai ?_|refine ah ?_|refine aD rfl ?_|refine am rfl rfl rfl ?_|refine aj rfl rfl rfl ?_|refine fv rfl rfl rfl rfl rfl (F.un _ rfl) rfl ?_|refine fL (m:=mp) (enc:=oE) (val:=jY) rfl rfl rfl rfl (F.un _ rfl) (oK) (by first|exact rfl|(focus(skip;first|exact Tr.ae _ _ _|assumption))) (hgp) (F.ze _ rfl) ?_))
   refine co 1 23 (d:=6) (by(repeat(refine(Tr.aa _ _ (by omega)).trans ?_));first|exact Tr.ae _ _ _|assumption) rfl ?_
   ((apply bj Try.func15 (congrArg Array.toList Try.results15));(focus(repeat(first|exact ResIs.nil|apply ResIs.tmp rfl))))
   exact early 0
 | some x=>
   obtain⟨pn,ks,w⟩:=x
   have hkeys:(b9 ml mp).keys o=ks:=by rw [iG,hgp]
   have hwts:(b9 ml mp).waits o=w:=by rw [jD,hgp]
   have hgpm:bE (b9 ml mp).parties o=some (ks,w):=by rw [pA,hgp];rfl
   rw [hwts] at ok2
   have hmk:m≤ks.length:=by rw [hkeys] at h3;omega
   obtain⟨pr,p1,p2,p3,p4,p5,p6,p7,hturn⟩:=h.turnParty hund hgp
   (repeat(first|refine ao ?_|refine ai ?_|refine ah ?_|refine aN ?_|refine ay rfl ?_|refine am rfl rfl rfl ?_|refine aj rfl rfl rfl ?_|refine aJ rfl rfl rfl ?_|refine au rfl rfl rfl (F.fo _ _ rfl rfl) ?_|refine dD rfl rfl rfl rfl (F.un _ rfl) rfl ?_|refine aL rfl rfl rfl (F.ag _ rfl) (by first|exact Tr.ae _ _ _|assumption) (by exact rfl) ?_|refine fu (m:=mp) (enc:=oE) (val:=jY) rfl rfl rfl rfl (F.un _ rfl) (oK) (by first|exact rfl|(focus(skip;first|exact Tr.ae _ _ _|assumption))) (hgp) ?_|refine md rfl rfl rfl rfl (rfl:(w != (⟨#[]⟩:ByteArray))=_) ?_))
   refine kq (α:=Unit) (fun _=> [(0,.ptr t 0),(1,.sc (.int .u64 (o:Int))),(2,.sc (.int .i64 (m:Int))),(8,.ptr pn 0)]) (fun _ H1 nx1=> ∃ ml' cl' mp' cp' F1' F2' w',Tb t a b ml' cl' mp' cp' F1' F2' H1∧b9 ml' mp'=(b9 ml mp).leave o∧cO mp' o=some (pn,(ks,w'))∧Step (All t a b F1 F2) (All t a b F1' F2') H nx H1 nx1) (fun kk out=>?_) ?_
   ·by_cases hw:w.size=0
    ·have he:(w != (⟨#[]⟩:ByteArray))=false:=by
      rw [show(w != (⟨#[]⟩:ByteArray)) = !(w == (⟨#[]⟩:ByteArray))from rfl,im hw];rfl
     rw [he]
     (repeat(first|refine aN ?_|refine ay rfl ?_))
     refine out _ _ _ () ⟨ml,cl,mp,cp,F1,F2,w,h,by unfold LT.leave;rw [hwts,if_pos hw],hgp,Step.refl⟩ (SlIn.sub (by repeat(first|exact trivial|refine⟨rfl,?_⟩)))
    ·have he:(w != (⟨#[]⟩:ByteArray))=true:=by
      rw [show(w != (⟨#[]⟩:ByteArray)) = !(w == (⟨#[]⟩:ByteArray))from rfl,jm hw];rfl
     rw [he]
     obtain⟨hh,l,q1,q2,q3⟩:=ok2 hw
     have q1':=q1
     rw [lC] at q1
     obtain⟨⟨ln,x⟩,hgl,hx⟩:=zF.1 q1
     simp only at hx
     subst hx
     obtain⟨lr,k1,k2,k3,k4,k5,k6,k7,hturnL⟩:=h.turnLock hund hgl
     have hloc:=h.locks
     (repeat(first|refine ao ?_|refine aD rfl ?_))
     refine bP (by kernel_rfl) (by kernel_rfl) ?_
     (repeat(first|refine aX rfl rfl rfl ?_|refine dF rfl rfl rfl ?_|refine bD rfl rfl rfl ?_|refine bu rfl rfl rfl (F.fo _ _ rfl rfl) ?_|refine bK rfl rfl rfl (F.ag _ rfl) (by first|exact Tr.ae _ _ _|assumption) (by exact rfl) ?_|refine mJ (m:=ml) (enc:=kE) (val:=ke) rfl rfl rfl rfl (F.un _ rfl) (kK) (by first|exact rfl|(focus(skip;first|exact Tr.ae _ _ _|assumption))) (hgl) ?_))
     (refine be ?_);(refine⟨by kernel_rfl,?_,?_⟩);(focus(repeat(first|exact trivial|refine⟨.inl rfl,?_⟩)))
     dsimp only [wrL,ke]
     have hix:x6 l o=((l.idxOf o:Nat):Int):=by unfold x6;rw [if_pos q2]
     have hi:l.idxOf o<l.length:=List.idxOf_lt_length_of_mem q2
     (repeat(first|refine ao ?_|refine ai ?_|refine ah ?_|refine am rfl rfl rfl ?_|refine aj rfl rfl rfl ?_|refine aJ rfl rfl rfl ?_|refine au rfl rfl rfl (F.fo _ _ rfl rfl) ?_|refine aL rfl rfl rfl (F.ag _ rfl) (by first|exact Tr.ae _ _ _|assumption) (by exact rfl) ?_|(refine bn rfl rfl rfl (by kernel_rfl) (Fnc.mono (x4 l o k2 (by omega)) ?_);rintro _ rfl;dsimp only)))
     rw [hix]
     refine dQ rfl rfl rfl rfl ?_ ?_
     all_goals intro h5
     rotate_left
     ·omega
     (repeat(first|refine ai ?_|refine ah ?_|refine aD rfl ?_|refine am rfl rfl rfl ?_|refine aJ rfl rfl rfl ?_|refine au rfl rfl rfl (F.fo _ _ rfl rfl) ?_|refine aL rfl rfl rfl (F.ag _ rfl) (by first|exact Tr.ae _ _ _|assumption) (by exact rfl) ?_|refine bT rfl rfl rfl rfl (by omega) (by omega) ?_))
     refine bn rfl rfl rfl (by kernel_rfl) (Fnc.mono (wk l (l.idxOf o) k2 (by omega) hi) ?_)
     rintro⟨_,H5,n5⟩ ⟨rfl,d1,rfl,d2⟩
     dsimp only at d1 d2 ⊢
     have k1':=(d2 ln k3).trans k1
     clear p1 p2 hturn hloc
     (repeat(first|refine ai ?_|refine ah ?_|refine am rfl rfl rfl ?_|refine aJ rfl rfl rfl ?_|refine au rfl rfl rfl (F.fo _ _ rfl rfl) ?_|refine cI rfl rfl rfl rfl (F.sz _ rfl) (by first|exact rfl|(focus(skip;first|exact Tr.ae _ _ _|assumption))) rfl (by exact zB rfl) rfl ?_))
     refine fK (R:=fun H2 n2=> ∃ F1',Tb t a b (dm ml w (ln,(hh,l.eraseIdx (l.idxOf o))) cl) cl mp cp F1' F2 H2∧Step (All t a b F1 F2) (All t a b F1' F2) H n5 H2 n2) (hturnL (r':=lr) hh (l.eraseIdx (l.idxOf o)) (zP _) (.inr rfl) ?_ ?_ ?_) ?_
     ·exact Tr.ae _ _ _
     ·exact(Tr.aa _ _ (by omega)).trans d1
     ·exact fun z hz hz1 hz2=>(Tr.aa _ _ (by omega)).trans (d2 z hz2)
     rintro H6 n6 ⟨F1',h6,hst6⟩
     refine b4 fun hund6=>?_
     obtain⟨pr6,y1,y2,y3,y4,y5,y6,y7,hturn6⟩:=h6.turnParty hund6 hgp
     (repeat(first|refine ah ?_|refine cI rfl rfl rfl rfl (F.sz _ rfl) (by first|exact rfl|(focus(skip;first|exact Tr.ae _ _ _|assumption))) rfl (by exact zB rfl) rfl ?_))
     obtain⟨F2',h7,hst7⟩:=hturn6 (H':=_) (nx':=n6) (r':=pr6) ks ⟨#[]⟩ (zP _) (.inr rfl) (Tr.ae _ _ _) ((Tr.aa _ _ (by omega)).trans y2) (fun z hz hz1 hz2=>Tr.aa _ _ (by omega))
     refine out _ _ _ () ⟨_,_,_,_,_,_,_,h7,?_,ij _ _ _ _,hst6.trans hst7⟩ (SlIn.sub (by repeat(first|exact trivial|refine⟨rfl,?_⟩)))
     rw [dX,fW]
     unfold LT.leave
     rw [hwts,if_neg hw,q1',hkeys]
     simp only
     rw [List.erase_eq_eraseIdx_of_idxOf]
     rfl
   ·rintro⟨⟩ H1 nx1 ⟨ml1,cl1,mp1,cp1,G1,G2,w1,h1t,hlt,hg1,hst1⟩
    clear p1 p2 hturn hpar htab hgp
    have hk1:((b9 ml mp).leave o).keys o=ks:=by rw [← hlt,iG,hg1]
    have hback:(b9 ml mp).back o (m:Int)=(if((LT.pops o (ks.length-m) ((b9 ml mp).leave o) []).1.keys o).length=0 then⟨(LT.pops o (ks.length-m) ((b9 ml mp).leave o) []).1.locks,dO (LT.pops o (ks.length-m) ((b9 ml mp).leave o) []).1.parties o⟩ else(LT.pops o (ks.length-m) ((b9 ml mp).leave o) []).1,(LT.pops o (ks.length-m) ((b9 ml mp).leave o) []).2,0):=by
     unfold LT.back
     rw [if_neg hc1,hgpm]
     simp only [hk1,Int.toNat_natCast]
    rw [hback]
    rw [hkeys] at ok3 ok1
    refine b4 fun hund1'=>?_
    have hund1:=h1t.all_lt hund1'
    (repeat(first|refine ao ?_|refine ai ?_|refine ah ?_|refine aT ?_|refine aj rfl rfl rfl ?_))
    refine co 1 23 (d:=11) (by first|exact Tr.ae _ _ _|assumption) rfl ?_
    have hfr1: ∀ z,All t a b G1 G2 z→z≠nx1:=fun z hz e=>by
     have:=hund1 _ hz
     omega
    have hle1:=hst1.1
    refine ch (α:=Nat×List Nat×Nat) (fun x=> [(0,.ptr t 0),(1,.sc (.int .u64 (o:Int))),(2,.sc (.int .i64 (m:Int))),(8,.ptr pn 0),(11,.slu x.1 0 x.2.1.length)]) (fun x H2 nx2=> ∃ ml' cl' mp' cp' F1' F2' ks' w',Tb t a b ml' cl' mp' cp' F1' F2' H2∧cO mp' o=some (pn,(ks',w'))∧Step (All t a b F1 F2) (All t a b F1' F2') H nx H2 nx2∧H2.at' x.1=some (uR false x.2.1)∧nx≤x.1∧x.1<nx2∧ ¬ All t a b F1' F2' x.1∧ks'.length=m+x.2.2∧x.2.1.length+x.2.2≤999999∧LT.li o x.2.2 (b9 ml' mp')∧LT.pops o x.2.2 (b9 ml' mp') x.2.1=LT.pops o (ks.length-m) ((b9 ml mp).leave o) []) (fun x=>x.2.2) (nx1,[],ks.length-m) ⟨ml1,cl1,mp1,cp1,G1,G2,ks,w1,h1t.frame fun z hz=>Tr.aa _ _ (hfr1 z hz),hg1,?_,Tr.ae _ _ _,hle1,Nat.lt_succ_self _,fun q=>hfr1 _ q rfl,by simp only;omega,by simp only [List.length_nil];omega,by rw [hlt];exact ok3,by rw [hlt]⟩ (SlIn.sub (by repeat(first|exact trivial|refine⟨rfl,?_⟩))) ?_
    ·exact hst1.trans ⟨zY _,fun _ q=> .inl q,fun n hn _=>Tr.aa _ _ (by omega)⟩
    rintro⟨r,came,n⟩ H2 nx2 ⟨ml2,cl2,mp2,cp2,K1,K2,ks2,w2,t1,t2,t3,t4,t5,t6,t7,t8,t9,t10,t11⟩ again
    simp only at t4 t5 t6 t7 t8 t9 t10 t11 ⊢
    clear h1t hg1 hst1 hfr1
    refine b4 fun hund2=>?_
    have t12:=t1.turnParty hund2 t2
    obtain⟨pr2,v1,v2,v3,v4,v5,v6,v7,hturn2⟩:=t12
    have hk2:(b9 ml2 mp2).keys o=ks2:=by rw [iG,t2]
    (repeat(first|refine ao ?_|refine ai ?_|refine am rfl rfl rfl ?_|refine aJ rfl rfl rfl ?_|refine au rfl rfl rfl (F.fo _ _ rfl rfl) ?_|refine aL rfl rfl rfl (F.ag _ rfl) (by first|exact Tr.ae _ _ _|assumption) (by exact rfl) ?_|refine cr rfl rfl rfl (F.un _ rfl) ?_))
    refine gv rfl rfl rfl rfl ?_ ?_
    all_goals intro h4
    ·obtain⟨n',rfl⟩: ∃ n',n=n'+1:=⟨n-1,by omega⟩
     obtain⟨k,o1,o2,o3,o4,o5⟩:=t10
     have hpops:LT.pops o (n'+1) (b9 ml2 mp2) came=LT.pops o n' (((b9 ml2 mp2).pop o).letGo k).1 (if(((b9 ml2 mp2).pop o).letGo k).2=0 then came else came ++ [(((b9 ml2 mp2).pop o).letGo k).2]):=by
      conv=>lhs;unfold LT.pops
      rw [o1]
     rw [hpops] at t11
     rw [hk2] at o1 o4
     have hi:ks2.length-1<ks2.length:=by omega
     have hkk:ks2[ks2.length-1]=k:=by
      rw [List.getLast?_eq_getElem?,zz hi] at o1
      exact Option.some.inj o1
     (repeat(first|refine ao ?_|refine ah ?_|refine aT ?_|refine aN ?_|refine aD rfl ?_))
     refine bP (by kernel_rfl) (by kernel_rfl) ?_
     (repeat(first|refine aX rfl rfl rfl ?_|refine dF rfl rfl rfl ?_|refine bD rfl rfl rfl ?_|refine bu rfl rfl rfl (F.fo _ _ rfl rfl) ?_|refine io rfl rfl rfl (F.un _ rfl) ?_|refine f8 rfl rfl rfl rfl (by omega) (by omega) ?_|refine bK rfl rfl rfl (F.ag _ rfl) (by first|exact Tr.ae _ _ _|assumption) (by exact rfl) ?_|refine bb (q:=ks2.length-1) rfl rfl rfl rfl (F.un _ rfl) (F.sz _ rfl) (by first|exact Tr.ae _ _ _|assumption) (by omega) (by first|omega|(simp;done)) (zP _) ?_|refine fC rfl rfl rfl (F.ag _ rfl) (by first|exact Tr.ae _ _ _|assumption) (get_s hi) (by first|omega|(simp;done)) ?_))
     (refine be ?_);(refine⟨by kernel_rfl,?_,?_⟩);(focus(repeat(first|exact trivial|refine⟨.inl rfl,?_⟩)))
     dsimp only [wrL]
     rw [hkk]
     (repeat(refine ao ?_))
     refine bP (by kernel_rfl) (by kernel_rfl) ?_
     (repeat(first|refine aX rfl rfl rfl ?_|refine bD rfl rfl rfl ?_|refine bu rfl rfl rfl (F.fo _ _ rfl rfl) ?_|refine io rfl rfl rfl (F.un _ rfl) ?_|refine f8 rfl rfl rfl rfl (by omega) (by omega) ?_|refine en rfl rfl rfl rfl (F.sz _ rfl) (by first|exact rfl|(focus(skip;first|exact Tr.ae _ _ _|assumption))) rfl (by exact zB rfl) rfl ?_|refine bK rfl rfl rfl (F.ag _ rfl) (by first|exact Tr.ae _ _ _|assumption) (by exact rfl) ?_|refine we (lw:=0) (hg:=ks2.length-1) rfl rfl rfl (F.un _ rfl) (F.sz _ rfl) (by first|exact Tr.ae _ _ _|assumption) bh (bdN rfl (by omega)) (by omega) (by omega) (by omega) ?_))
     (refine be ?_);(refine⟨by kernel_rfl,?_,?_⟩);(focus(repeat(first|exact trivial|refine⟨.inl rfl,?_⟩|refine⟨.inr (by(repeat(refine⟨(by first|exact bq rfl|exact bi rfl rfl (.inr (.inr (.inr (.inr (.inl ⟨rfl,rfl⟩)))))|exact bk (F.un _ rfl) (F.sz _ rfl) rfl rfl rfl (by omega) (by omega) (by omega)|exact an rfl rfl (.inl ⟨rfl,(zx _ ⟨by omega,by omega⟩).symm⟩)|exact an rfl rfl (.inr (.inl ⟨rfl,(zx _ ⟨by omega,by omega⟩).symm⟩))|exact aq (F.fo _ _ rfl rfl) rfl|exact aY rfl|exact aH rfl|exact aw (F.ag _ rfl) rfl rfl (az rfl)|exact aC (F.ag _ rfl) rfl rfl (ak _ 0 rfl rfl)|exact aE rfl rfl|exact aP (F.un _ rfl) rfl|exact aI (F.un _ rfl) rfl|exact ax rfl|exact aQ rfl rfl|exact aR rfl rfl),?_⟩));exact trivial),?_⟩|refine⟨.inl (by kernel_rfl),?_⟩)))
     dsimp only [wrL]
     refine pQ pr2 (ks2.length-1) (by(repeat(refine(Tr.aa _ _ (by omega)).trans ?_));first|exact Tr.ae _ _ _|assumption) (by omega) ?_
     refine fK (R:=fun H3 n3=> ∃ F2',Tb t a b ml2 cl2 (dm mp2 o (pn,(ks2.dropLast,w2)) cp2) cp2 K1 F2' H3∧Step (All t a b K1 K2) (All t a b K1 F2') H2 nx2 H3 n3) (hturn2 (r':=pr2) ks2.dropLast w2 (zP _) (.inr rfl) ?_ ?_ ?_) ?_
     ·refine(Tr.aa _ _ (by omega)).trans ((Tr.ae _ _ _).trans ?_)
      rw [List.length_dropLast]
      rfl
     ·refine(Tr.ae _ _ _).trans ?_
      show _=some (dat false ks2.dropLast.length 1 9 _)
      rw [xx,List.length_dropLast]
     ·exact fun z hz hz1 hz2=>(Tr.aa _ _ (by omega)).trans (Tr.aa _ _ (by omega))
     rintro H3 nx3 ⟨K3,t13,t14⟩
     have hpop:b9 ml2 (dm mp2 o (pn,(ks2.dropLast,w2)) cp2)=(b9 ml2 mp2).pop o:=by
      rw [dX]
      unfold LT.pop
      rw [hk2,jD,t2]
     rw [← hpop] at o2 o3 o4 o5 t11
     clear v1 v2 hturn2
     (repeat(first|refine ao ?_|refine ai ?_|refine am rfl rfl rfl ?_))
     refine bn rfl rfl rfl (by kernel_rfl) (Fnc.mono (xY t13 k o2) ?_)
     rintro⟨_,H4,n4⟩ ⟨rfl,ml4,cl4,mp4,cp4,M1,M2,u1,u2,u3,u4⟩
     dsimp only at u1 u2 u3 u4 ⊢
     obtain⟨s1,s2,s3⟩:=t14.stay t6 t7
     obtain⟨s4,s5,s6⟩:=u4.stay s3 s2
     have s7:=s4.trans (s1.trans t4)
     obtain⟨⟨ks4,w4⟩,hg4⟩:=u3 o pn _ (ij _ _ _ _)
     generalize hnx:(LT.letGo (b9 ml2 (dm mp2 o (pn,(ks2.dropLast,w2)) cp2)) k).2=nxt at *
     rw [u2] at o3 o4 o5 t11
     have hk4:(b9 ml4 mp4).keys o=ks4:=by rw [iG,hg4]
     rw [hk4] at o4
     have hst4:=t3.trans (t14.trans u4)
     (repeat(first|refine ao ?_|refine ai ?_|refine ah ?_|refine am rfl rfl rfl ?_|refine aj rfl rfl rfl ?_))
     refine jT rfl rfl rfl rfl ?_ ?_
     all_goals intro h5
     ·rw [if_neg (by omega)] at t11
      have hlen:(came ++ [nxt]).length=came.length+1:=by simp
      refine b4 fun hund4=>?_
      have hal4:=u1.all_lt hund4
      (repeat(first|refine ai ?_|refine ah ?_|refine aM ?_|refine aD rfl ?_|refine am rfl rfl rfl ?_|refine aj rfl rfl rfl ?_|refine cb rfl rfl (F.un _ rfl) (F.sz _ rfl) rfl (F.ze _ rfl) rfl rfl rfl rfl rfl ?_|refine gu (b:=8) (xs:=came) (a:=nxt) rfl rfl rfl rfl (F.un _ rfl) (.inl ⟨_,F.un _ rfl⟩) (F.sz _ rfl) rfl (by kernel_rfl) (by kernel_rfl) (by(repeat(refine(Tr.aa _ _ (by omega)).trans ?_));first|exact Tr.ae _ _ _|assumption) (by first|exact Tr.ae _ _ _|assumption) (by exact rfl) (rY) (by omega) (by omega) ?_))
      have hfr4: ∀ z,All t a b M1 M2 z→z<n4∧z≠r:=fun z hz=>⟨hal4 z hz,fun e=>s5 (e ▸ hz)⟩
      refine again _ _ _ (n4+1,came ++ [nxt],n') ⟨ml4,cl4,mp4,cp4,M1,M2,ks4,w4,u1.frame fun z hz=>?_,hg4,⟨zX hst4.1 (zX (zY _) (zY _)),hst4.2.1,fun z hz hf=>?_⟩,?_,by simp only;have:=hst4.1;omega,by simp only;omega,fun q=>by have:=hal4 _ q;simp only at this;omega,by simp only;omega,by simp only;omega,o5,t11⟩ (by simp only;omega) (SlIn.sub (by repeat(first|exact trivial|refine⟨rfl,?_⟩)))
      ·have:=hfr4 z hz
       exact(Tr.aa _ _ (by omega)).trans ((Tr.aF _ (by omega)).trans (Tr.aa _ _ (by omega)))
      ·have:=hst4.1
       exact(Tr.aa _ _ (by omega)).trans ((Tr.aF _ (by omega)).trans ((Tr.aa _ _ (by omega)).trans (hst4.2.2 z hz hf)))
      ·exact Tr.ae _ _ _
     ·rw [if_pos (by omega)] at t11
      (repeat(first|refine ah ?_|refine aM ?_|refine aN ?_|refine ay rfl ?_))
      refine again _ _ _ (r,came,n') ⟨ml4,cl4,mp4,cp4,M1,M2,ks4,w4,u1,hg4,hst4,s7,t5,s6,s5,by simp only;omega,by simp only;omega,o5,t11⟩ (by simp only;omega) (SlIn.sub (by repeat(first|exact trivial|refine⟨rfl,?_⟩)))
    ·have hn:n=0:=by omega
     subst hn
     have t11':(b9 ml2 mp2,came)=LT.pops o (ks.length-m) ((b9 ml mp).leave o) []:=t11
     rw [← t11']
     simp only [hk2]
     (repeat(first|refine ao ?_|refine ai ?_|refine ah ?_|refine bA rfl ?_|refine ay rfl ?_|refine am rfl rfl rfl ?_|refine aJ rfl rfl rfl ?_|refine au rfl rfl rfl (F.fo _ _ rfl rfl) ?_|refine aL rfl rfl rfl (F.ag _ rfl) (by first|exact Tr.ae _ _ _|assumption) (by exact rfl) ?_|refine cr rfl rfl rfl (F.un _ rfl) ?_))
     refine cF rfl rfl rfl rfl ?_ ?_
     all_goals intro h5
     ·have hpar2:=t1.parties
      have htab2:=t1.tab
      rw [if_pos (by omega)]
      (repeat(first|refine ao ?_|refine ai ?_|refine ah ?_|refine aD rfl ?_|refine am rfl rfl rfl ?_|refine aj rfl rfl rfl ?_|refine aJ rfl rfl rfl ?_|refine au rfl rfl rfl (F.fo _ _ rfl rfl) ?_|refine aL rfl rfl rfl (F.ag _ rfl) (by first|exact Tr.ae _ _ _|assumption) (by exact rfl) ?_|refine nc (m:=mp2) (enc:=oE) (val:=jY) rfl rfl rfl (F.un _ rfl) (oK) (by first|exact rfl|(focus(skip;first|exact Tr.ae _ _ _|assumption))) ?_))
      ((apply bj Try.func15 (congrArg Array.toList Try.results15));(focus(repeat(first|exact ResIs.nil|apply ResIs.tmp rfl))))
      obtain⟨pr',PG,g1,g2,g3,g4,g5,g6,g7,_⟩:=t1.party t2
      have hGF: ∀ z,PG z→K2 z:=fun z hz=>(g7 z).2 (.inr hz)
      have hrb:r≠b:=fun e=>t7 (.inr (.inr (.inl e)))
      have hne2:=t1.ne
      have hsub: ∀ z,All t a b K1 PG z→All t a b K1 K2 z:=fun z hz=>by
       rcases hz with hz|hz|hz|hz|hz
       ·exact .inl hz
       ·exact .inr (.inl hz)
       ·exact .inr (.inr (.inl hz))
       ·exact .inr (.inr (.inr (.inl hz)))
       ·exact .inr (.inr (.inr (.inr (hGF z hz))))
      refine⟨r,rfl,(Tr.aa _ _ (by omega)).trans t4,t5,t6,All t a b K1 PG,⟨a,b,_,_,_,_,K1,PG,t1.delParty g4 hGF (Tr.ae _ _ _) (fun z hz=>Tr.aa _ _ ?_),(tL _ _ _).symm,fun _=>Iff.rfl⟩,fun q=>t7 (hsub _ q),t3.trans ⟨zP _,fun z hz=> .inl (hsub z hz),fun z hz hf=>Tr.aa _ _ ?_⟩⟩
      ·rcases hz with rfl|rfl|hz|hz
       ·omega
       ·omega
       ·have:=(t1.d2 _ (hGF z hz)).2.2;omega
       ·have:=(t1.d1 _ hz).2.2.1;omega
      ·intro e
       exact hf (.inr (.inr (.inl (by omega))))
     ·rw [if_neg (by omega)]
      (repeat(first|refine ao ?_|refine ai ?_|refine ah ?_|refine aN ?_|refine ay rfl ?_|refine am rfl rfl rfl ?_|refine aj rfl rfl rfl ?_))
      ((apply bj Try.func15 (congrArg Array.toList Try.results15));(focus(repeat(first|exact ResIs.nil|apply ResIs.tmp rfl))))
      exact⟨r,rfl,t4,t5,t6,_,⟨a,b,_,_,_,_,_,_,t1,rfl,fun _=>Iff.rfl⟩,t7,t3⟩
def ChgW(t r:Nat)(W':RT)(v:SV)(Fw:Nat→Prop)(H:aV)(nx:Nat):Pst:=fun q=>q.1=v∧nx≤q.2.2∧ ∃ r',WAt t r' W' (fun n=>(Fw n∨nx≤n)∧n<q.2.2) q.2.1∧(r'=r∨nx≤r')∧r'<q.2.2∧ ∀ n,n<nx→n≠t→n≠r→q.2.1.at' n=H.at' n
theorem WV.mono{t r:Nat}{s:SV}{V:RV}{F1 F2:Nat→Prop}{H:aV}(h:WV t r s V F1 H)(hf: ∀ n,F1 n→F2 n):WV t r s V F2 H:=by
 refine⟨h.box,?_,fun x hx=>?_,hf _ h.own⟩
 ·rcases h.row with q|⟨q1,q2,q3,q4,q5⟩
  ·exact .inl q
  ·exact .inr ⟨q1,q2,q3,hf _ q4,q5⟩
 ·obtain⟨g1,g2⟩:=h.lines x hx
  exact⟨g1,fun b hb=>⟨hf _ (g2 b hb).1,(g2 b hb).2⟩⟩
theorem uH{t r:Nat}{W:RT}{Fw:Nat→Prop}{H:aV}{nx:Nat}(hW:WAt t r W Fw H)(hFw: ∀ n,Fw n→n<nx)(hr:r<nx)(v:SV):ChgW t r W v Fw H nx (v,H,nx):=by
 obtain⟨s,V,h1,h2⟩:=hW
 exact⟨rfl,zP _,r,⟨s,V,h1.mono fun n hn=>⟨.inl hn,hFw n hn⟩,h2⟩,.inl rfl,hr,fun _ _ _ _=>rfl⟩
theorem jS{t r n:Nat}{V:RV}{Fw:Nat→Prop}{H:aV}{cells:List SV}(hn:V.length=n)(h0:0<n)(hc:V.flatMap vC=cells)(hb:H.at' t=some (aG 56 [.slu r 0 n]))(hr:H.at' r=some (eU false n 3 91 cells))(hrt:r≠t)(Fr:Fw r)(Ft:Fw t)
 (hl: ∀ x∈V,uT H x.2 x.1.2.2∧ ∀ b,nmS x.2=some b→Fw b∧b≠t∧b≠r):WV t r (.slu r 0 n) V Fw H:=by
 subst hn hc
 exact⟨hb,.inr ⟨fun e=>by rw [e] at h0;exact absurd h0 (by simp),rfl,hr,Fr,hrt⟩,hl,Ft⟩
theorem xV{V:RV}{k:ByteArray}(h:bE (V.map (·.1)) k=none): ∀ x∈V,x.1.1≠k:=by
 intro x hx e
 have hm:x.1∈V.map (·.1):=List.mem_map_of_mem hx
 unfold bE at h
 rw [Option.map_eq_none_iff,List.find?_eq_none] at h
 have:=h _ hm
 simp [e] at this
theorem tJ{V:RV}{k:ByteArray}{y:Nat×List Nat}(h:bE (V.map (·.1)) k=some y): ∃ i,∃ hi:i<V.length,V[i].1=(k,y)∧ ∀ j,j<i→ ∀ x,V[j]? =some x→x.1.1≠k:=by
 obtain⟨A,B,e,hno⟩:=bH h
 have hlen:V.length=A.length+(B.length+1):=by
  have:=congrArg List.length e
  simpa using this
 refine⟨A.length,by omega,?_,fun j hj x hx hk=>?_⟩
 ·have:(V.map (·.1))[A.length]? =some (k,y):=by rw [e,List.getElem?_append_right (zP _)];simp
  rw [List.getElem?_map,zz (show A.length<V.length by omega)] at this
  simpa using this
 ·have:(V.map (·.1))[j]? =some x.1:=by rw [List.getElem?_map,hx];rfl
  rw [e,zM hj] at this
  exact hno (List.mem_map.2 ⟨x.1,zJ this,hk⟩)
theorem tH{V:RV}{k:ByteArray}{y y':Nat×List Nat}{i:Nat}(hi:i<V.length)(he:V[i].1=(k,y))(hno: ∀ j,j<i→ ∀ x,V[j]? =some x→x.1.1≠k)(s:SV):(V.set i ((k,y'),s)).map (·.1)=ca (V.map (·.1)) k y':=by
 have e1:V.map (·.1)=(V.take i).map (·.1) ++ (k,y) :: (V.drop (i+1)).map (·.1):=by
  conv=>lhs;rw [← List.take_append_drop i V,List.drop_eq_getElem_cons hi]
  rw [zU,zR,he]
 have hn:k∉((V.take i).map (·.1)).map (·.1):=fun h=>by
  obtain⟨z,hz,ez⟩:=List.mem_map.1 h
  obtain⟨x,hx,rfl⟩:=List.mem_map.1 hz
  obtain⟨j,hj,ej⟩:=List.getElem_of_mem hx
  rw [List.length_take] at hj
  refine hno j (by omega) x ?_ ez
  rw [List.getElem_take] at ej
  rw [← ej]
  exact zz (by omega)
 rw [e1,cN hn,List.set_eq_take_append_cons_drop,if_pos hi,zU,zR]
theorem kT{V:RV}{i:Nat}(hi:i<V.length)(x:(ByteArray×(Nat×List Nat))×SV)(hx: ∃ b c,vC V[i]= [b,c,V[i].2]∧vC x= [b,c,x.2]):(V.set i x).flatMap vC=(V.flatMap vC).take (i*3+2) ++ [x.2] ++ (V.flatMap vC).drop (i*3+2+1):=by
 obtain⟨b,c,h1,h2⟩:=hx
 have hA:=dv (V.take i)
 rw [List.length_take,Nat.min_eq_left (by omega)] at hA
 have e1:V.flatMap vC=(V.take i).flatMap vC ++ ([b,c] ++ (V[i].2 :: (V.drop (i+1)).flatMap vC)):=by
  conv=>lhs;rw [← List.take_append_drop i V,List.drop_eq_getElem_cons hi]
  rw [List.flatMap_append,List.flatMap_cons,h1]
  rfl
 have e2:(V.set i x).flatMap vC=(V.take i).flatMap vC ++ ([b,c] ++ (x.2 :: (V.drop (i+1)).flatMap vC)):=by
  rw [List.set_eq_take_append_cons_drop,if_pos hi,List.flatMap_append,List.flatMap_cons,h2]
  rfl
 rw [e2,e1]
 generalize (V.take i).flatMap vC=A at hA
 generalize (V.drop (i+1)).flatMap vC=B
 have t1:(A ++ ([b,c] ++ (V[i].2 :: B))).take (i*3+2)=A ++ [b,c]:=by
  rw [← List.append_assoc,List.take_append_of_le_length (by simp;omega),zH (by simp;omega)]
 have t2:(A ++ ([b,c] ++ (V[i].2 :: B))).drop (i*3+2+1)=B:=by
  rw [← List.append_assoc,List.drop_append,List.drop_eq_nil_of_le (by simp;omega),List.nil_append,show i*3+2+1-(A ++ [b,c]).length=1 by simp;omega]
  rfl
 rw [t1,t2]
 simp
theorem vN{W:RT}{k:ByteArray}{h o:Nat}{l:List Nat}(hm:bE W k=some (h,l)):(gI (ca W k (h,l ++ [o]))).length=(gI W).length+1:=by
 obtain⟨A,B,rfl,hno⟩:=bH hm
 rw [cN hno]
 unfold gI
 simp only [List.flatMap_append,List.flatMap_cons,zT,zS,List.length_nil]
 omega
theorem oM: ∀ l:List Nat,bU (uC l)=true
 | []=>rfl
 | _ :: l=>oM l
theorem ask_r{t r:Nat}{W:RT}{Fw:Nat→Prop}{H:aV}{nx:Nat}(hW:WAt t r W Fw H)(hFw: ∀ n,Fw n→n<nx)(hr:r<nx)(o:Nat)(k:ByteArray)(hA:(gI W).length<390000)(hsz:k.size<4611686018427387904):Fnc Try.prog 41 [.ptr t 0,.sc (.int .u64 (o:Int)),.sc (.string k)] H nx (ChgW t r (j8 W o k).1 (.sc (.int .i64 (j8 W o k).2)) Fw H nx):=by
 have hl:W.length<1000000:=Nat.lt_of_le_of_lt eG (by omega)
 have hll: ∀ x∈W,x.2.2.length<1000000:=fun x hx=>Nat.lt_trans (fy hx) (by omega)
 have hsame:=fun v=>uH hW hFw hr v
 have hwa:=mc (nx:=nx) hW o hl hll
 have hat:=zr (nx:=nx) hW k hl
 refine Fnc.start Try.func41 rfl rfl ?_
 (repeat(first|refine ao ?_|refine ai ?_|refine ah ?_|refine am rfl rfl rfl ?_|refine aj rfl rfl rfl ?_))
 refine cF rfl rfl rfl rfl ?_ ?_
 all_goals intro h1
 ·have hask:j8 W o k=(W,2):=by unfold j8;rw [if_pos (.inl (by omega))]
  rw [hask]
  (repeat(first|refine ao ?_|refine ai ?_|refine ah ?_|refine aD rfl ?_|refine am rfl rfl rfl ?_|refine aj rfl rfl rfl ?_|refine ce rfl rfl rfl rfl ?_|refine ix rfl ?_))
  ((apply bj Try.func41 (congrArg Array.toList Try.results41));(focus(repeat(first|exact ResIs.nil|apply ResIs.tmp rfl))))
  exact hsame _
 (repeat(first|refine am rfl rfl rfl ?_|refine kb rfl rfl rfl (F.un _ rfl) ?_))
 refine cu rfl rfl rfl rfl ?_ ?_
 all_goals intro h2
 ·have hask:j8 W o k=(W,2):=by unfold j8;rw [if_pos (.inr (.inl (by omega)))]
  rw [hask]
  (repeat(first|refine ao ?_|refine ai ?_|refine ah ?_|refine aD rfl ?_|refine am rfl rfl rfl ?_|refine aj rfl rfl rfl ?_|refine ce rfl rfl rfl rfl ?_|refine bO rfl rfl rfl rfl ?_|refine ix rfl ?_))
  ((apply bj Try.func41 (congrArg Array.toList Try.results41));(focus(repeat(first|exact ResIs.nil|apply ResIs.tmp rfl))))
  exact hsame _
 (repeat(first|refine am rfl rfl rfl ?_|refine bO rfl rfl rfl rfl ?_|refine kb rfl rfl rfl (F.un _ rfl) ?_))
 refine gv rfl rfl rfl rfl ?_ ?_
 all_goals intro h3
 ·have hask:j8 W o k=(W,2):=by unfold j8;rw [if_pos (.inr (.inr (by omega)))]
  rw [hask]
  (repeat(first|refine ao ?_|refine ai ?_|refine ah ?_|refine aD rfl ?_|refine aj rfl rfl rfl ?_|refine bO rfl rfl rfl rfl ?_))
  ((apply bj Try.func41 (congrArg Array.toList Try.results41));(focus(repeat(first|exact ResIs.nil|apply ResIs.tmp rfl))))
  exact hsame _
 have hc1: ¬ (o=0∨k.size=0∨32<k.size):=by omega
 cases hw:cJ W o with
 | some kw=>
   have hwv:cK W o=(kw,true):=by unfold cK;rw [hw]
   have hask:j8 W o k=(W,7):=by unfold j8;rw [if_neg hc1,hw];rfl
   rw [hwv] at hwa
   rw [hask]
   (repeat(first|refine ao ?_|refine ai ?_|refine ah ?_|refine aN ?_|refine aD rfl ?_|refine ay rfl ?_|refine am rfl rfl rfl ?_|refine aj rfl rfl rfl ?_|refine bO rfl rfl rfl rfl ?_|refine bX rfl rfl rfl rfl ?_|(refine bn rfl rfl rfl (by kernel_rfl) (Fnc.mono (hwa) ?_);rintro _ rfl;dsimp only)))
   ((apply bj Try.func41 (congrArg Array.toList Try.results41));(focus(repeat(first|exact ResIs.nil|apply ResIs.tmp rfl))))
   exact hsame _
 | none=>
 have hwv:cK W o=(⟨#[]⟩,false):=by unfold cK;rw [hw]
 rw [hwv] at hwa
 obtain⟨s,V,hV,rfl⟩:=hW
 rw [List.length_map] at hl
 have hbox:=hV.box
 have htn:=hFw t hV.own
 cases hm:bE (V.map (·.1)) k with
 | none=>
   have hask:j8 (V.map (·.1)) o k=(V.map (·.1) ++ [(k,(o,[]))],0):=by unfold j8;rw [if_neg hc1,hw,if_neg (by simp),hm]
   rw [qd (xV hm)] at hat
   rw [hask]
   (repeat(first|refine ao ?_|refine ai ?_|refine ah ?_|refine aN ?_|refine ay rfl ?_|refine am rfl rfl rfl ?_|refine aj rfl rfl rfl ?_|refine bO rfl rfl rfl rfl ?_|refine bX rfl rfl rfl rfl ?_|(refine bn rfl rfl rfl (by kernel_rfl) (Fnc.mono (hwa) ?_);rintro _ rfl;dsimp only)|(refine bn rfl rfl rfl (by kernel_rfl) (Fnc.mono (hat) ?_);rintro _ rfl;dsimp only)))
   refine cu rfl rfl rfl rfl (fun _=>?_) (fun hq=>absurd hq (by omega))
   (repeat(first|refine ao ?_|refine ah ?_|refine aD rfl ?_))
   rcases hV.row with ⟨rfl,rfl⟩|⟨hne,rfl,hrow,hFr,hrt⟩
   ·refine dJ (by kernel_rfl) (by kernel_rfl) ?_
    (repeat(first|refine aX rfl rfl rfl ?_|refine bD rfl rfl rfl ?_|refine bu rfl rfl rfl (F.fo _ _ rfl rfl) ?_|refine ip rfl rfl rfl (F.ze _ rfl) (F.pl _ rfl) rfl ?_|refine en rfl rfl rfl rfl (F.sz _ rfl) (by first|exact rfl|(focus((repeat(first|assumption|refine(Tr.aa _ _ (by omega)).trans ?_));done))) rfl (by exact zB rfl) rfl ?_|refine bK rfl rfl rfl (F.ag _ rfl) (by assumption) (by exact rfl) ?_|refine bv rfl rfl (fun _ h=>by cases h) (e9 (F.un _ rfl) rfl (SlOf.none (sz:=3) (t:=91))) ?_|refine bv rfl rfl (fun _ h=>by cases h) (fT (F.un _ rfl) (F.sz _ rfl) rfl rfl rfl) ?_|refine cx rfl rfl (F.un _ rfl) (F.sz _ rfl) rfl (F.ze _ rfl) rfl rfl rfl rfl rfl ?_|refine cR rfl rfl (fun _ h=>by cases h) (ct (b:=48) (F.un _ rfl) (.inl ⟨_,F.un _ rfl⟩) (F.sz _ rfl) (by decide) (by kernel_rfl) (by kernel_rfl) rfl rfl (lu (by(repeat(exact Tr.ae _ _ _));done) rfl) (by exact rfl) (by omega) (by omega) (by omega)) ?_))
    (refine be ?_);(refine⟨by kernel_rfl,?_,?_⟩);(focus(repeat(first|exact trivial|refine⟨.inl (ck rfl),?_⟩|refine⟨.inr ⟨0,by kernel_rfl,AllH.all (fun _=>(by first|exact aY rfl|exact ax rfl|exact aq (F.fo _ _ rfl rfl) rfl|exact aP (F.un _ rfl) rfl|exact aE rfl rfl|exact aH rfl|exact aU rfl (F.ze _ rfl) (F.pl _ rfl) rfl|exact bq rfl|exact aI (F.un _ rfl) rfl|exact aQ rfl rfl|exact aR rfl rfl|exact bi rfl rfl (.inr (.inr (.inr (.inr (.inl ⟨rfl,rfl⟩)))))|exact an rfl rfl (.inl ⟨rfl,(zx _ ⟨by omega,by omega⟩).symm⟩)|exact an rfl rfl (.inr (.inl ⟨rfl,(zx _ ⟨by omega,by omega⟩).symm⟩)))) _⟩,?_⟩|refine⟨.inr ⟨0,by kernel_rfl,(by(refine⟨(by first|exact aw (F.ag _ rfl) rfl (by(repeat(first|assumption|exact Tr.ae _ _ _));done) (az rfl)|exact aC (F.ag _ rfl) rfl (by assumption) (ak _ 0 rfl rfl)|exact aU rfl (F.ze _ rfl) (F.pl _ rfl) rfl|exact e9 (F.un _ rfl) rfl (SlOf.none (sz:=3) (t:=91))|exact fT (F.un _ rfl) (F.sz _ rfl) rfl rfl rfl),?_⟩;(repeat(refine⟨(by first|exact aw (F.ag _ rfl) rfl (by assumption) (az rfl)|exact aC (F.ag _ rfl) rfl (by assumption) (ak _ 0 rfl rfl)|exact aU rfl (F.ze _ rfl) (F.pl _ rfl) rfl|exact e9 (F.un _ rfl) rfl (SlOf.none (sz:=3) (t:=91))|exact fT (F.un _ rfl) (F.sz _ rfl) rfl rfl rfl),?_⟩));exact trivial))⟩,?_⟩|refine⟨.inr ⟨1,by kernel_rfl,(by(refine⟨(by first|exact aw (F.ag _ rfl) rfl (by(repeat(first|assumption|refine(Tr.aa _ _ (by omega)).trans ?_));done) (az rfl)|exact aC (F.ag _ rfl) rfl (by done) (ak _ 0 rfl rfl)|exact aU rfl (F.ze _ rfl) (F.pl _ rfl) rfl|exact e9 (F.un _ rfl) rfl (SlOf.none (sz:=3) (t:=91))|exact fT (F.un _ rfl) (F.sz _ rfl) rfl rfl rfl),?_⟩;(repeat(refine⟨(by first|exact aw (F.ag _ rfl) rfl (by(repeat(first|assumption|refine(Tr.aa _ _ (by omega)).trans ?_));done) (az rfl)|exact aC (F.ag _ rfl) rfl (by done) (ak _ 0 rfl rfl)|exact aU rfl (F.ze _ rfl) (F.pl _ rfl) rfl|exact e9 (F.un _ rfl) rfl (SlOf.none (sz:=3) (t:=91))|exact fT (F.un _ rfl) (F.sz _ rfl) rfl rfl rfl),?_⟩));exact trivial))⟩,?_⟩)))
    dsimp only
    (repeat(first|refine ao ?_|refine ai ?_|refine ah ?_|refine aj rfl rfl rfl ?_))
    ((apply bj Try.func41 (congrArg Array.toList Try.results41));(focus(repeat(first|exact ResIs.nil|apply ResIs.tmp rfl))))
    refine⟨rfl,by simp only;omega,nx+1,⟨_,[((k,(o,[])),.sc (.slice none 0 0))],jS (n:=1) rfl (by omega) rfl (by(repeat(exact Tr.ae _ _ _));done) (by(repeat(first|exact Tr.ae _ _ _|refine(Tr.aa _ _ (by omega)).trans ?_));done) (by omega) ⟨.inr (by omega),by simp only;omega⟩ ⟨.inl hV.own,by simp only;omega⟩ (fun x hx=>?_),rfl⟩,.inr (by omega),by simp only;omega,fun n hn hnt hnr=>by(focus((repeat(refine(Tr.aa _ _ (by omega)).trans ?_));exact rfl))⟩
    simp only [List.mem_singleton] at hx
    subst hx
    exact⟨SlOf.none,fun b hb=>by cases hb⟩
   ·have hpos:0<V.length:=List.length_pos_iff.2 hne
    have hrn:=hFw r hFr
    refine dJ (by kernel_rfl) (by kernel_rfl) ?_
    (repeat(first|refine aX rfl rfl rfl ?_|refine bD rfl rfl rfl ?_|refine bu rfl rfl rfl (F.fo _ _ rfl rfl) ?_|refine io rfl rfl rfl (F.un _ rfl) ?_|refine ip rfl rfl rfl (F.ze _ rfl) (F.pl _ rfl) rfl ?_|refine en rfl rfl rfl rfl (F.sz _ rfl) (by first|exact rfl|(focus((repeat(first|assumption|refine(Tr.aa _ _ (by omega)).trans ?_));done))) rfl (by exact zB rfl) rfl ?_|refine bK rfl rfl rfl (F.ag _ rfl) (by assumption) (by exact rfl) ?_|refine bv rfl rfl (fun _ h=>by cases h) (jd (eo:=0) (F.un _ rfl) (F.sz _ rfl) rfl (c8 rfl rfl) (c8 rfl rfl) (by assumption) (by omega) hpos) ?_|refine cx rfl rfl (F.un _ rfl) (F.sz _ rfl) rfl (F.ze _ rfl) rfl rfl rfl rfl rfl ?_|refine cR rfl rfl (fun _ h=>by cases h) (ry (b:=48) (F.un _ rfl) (.inl ⟨_,F.un _ rfl⟩) (F.sz _ rfl) (by decide) (by kernel_rfl) (by kernel_rfl) rfl rfl (yN (by(repeat(first|assumption|refine(Tr.aa _ _ (by omega)).trans ?_));done) (dv V)) (lu (by(repeat(first|assumption|exact Tr.ae _ _ _));done) rfl) (by exact rfl) (by omega) (by omega) (by omega)) ?_))
    (refine be ?_);(refine⟨by kernel_rfl,?_,?_⟩);(focus(repeat(first|exact trivial|refine⟨.inl (ck rfl),?_⟩|refine⟨.inr ⟨0,by kernel_rfl,AllH.all (fun _=>(by first|exact aY rfl|exact ax rfl|exact aq (F.fo _ _ rfl rfl) rfl|exact aP (F.un _ rfl) rfl|exact aE rfl rfl|exact aH rfl|exact aU rfl (F.ze _ rfl) (F.pl _ rfl) rfl|exact bq rfl|exact aI (F.un _ rfl) rfl|exact aQ rfl rfl|exact aR rfl rfl|exact bi rfl rfl (.inr (.inr (.inr (.inr (.inl ⟨rfl,rfl⟩)))))|exact an rfl rfl (.inl ⟨rfl,(zx _ ⟨by omega,by omega⟩).symm⟩)|exact an rfl rfl (.inr (.inl ⟨rfl,(zx _ ⟨by omega,by omega⟩).symm⟩)))) _⟩,?_⟩|refine⟨.inr ⟨0,by kernel_rfl,(by(refine⟨(by first|exact aw (F.ag _ rfl) rfl (by(repeat(first|assumption|exact Tr.ae _ _ _));done) (az rfl)|exact aC (F.ag _ rfl) rfl (by assumption) (ak _ 0 rfl rfl)|exact aU rfl (F.ze _ rfl) (F.pl _ rfl) rfl|exact jd (eo:=0) (F.un _ rfl) (F.sz _ rfl) rfl (c8 rfl rfl) (c8 rfl rfl) (by(repeat(first|assumption|refine(Tr.aa _ _ (by omega)).trans ?_));done) (by omega) hpos),?_⟩;(repeat(refine⟨(by first|exact aw (F.ag _ rfl) rfl (by assumption) (az rfl)|exact aC (F.ag _ rfl) rfl (by assumption) (ak _ 0 rfl rfl)|exact aU rfl (F.ze _ rfl) (F.pl _ rfl) rfl|exact jd (eo:=0) (F.un _ rfl) (F.sz _ rfl) rfl (c8 rfl rfl) (c8 rfl rfl) (by(repeat(first|assumption|refine(Tr.aa _ _ (by omega)).trans ?_));done) (by omega) hpos),?_⟩));exact trivial))⟩,?_⟩|refine⟨.inr ⟨1,by kernel_rfl,(by(refine⟨(by first|exact aw (F.ag _ rfl) rfl (by(repeat(first|assumption|refine(Tr.aa _ _ (by omega)).trans ?_));done) (az rfl)|exact aC (F.ag _ rfl) rfl (by done) (ak _ 0 rfl rfl)|exact aU rfl (F.ze _ rfl) (F.pl _ rfl) rfl|exact jd (eo:=0) (F.un _ rfl) (F.sz _ rfl) rfl (c8 rfl rfl) (c8 rfl rfl) (by done) (by omega) hpos),?_⟩;(repeat(refine⟨(by first|exact aw (F.ag _ rfl) rfl (by(repeat(first|assumption|refine(Tr.aa _ _ (by omega)).trans ?_));done) (az rfl)|exact aC (F.ag _ rfl) rfl (by done) (ak _ 0 rfl rfl)|exact aU rfl (F.ze _ rfl) (F.pl _ rfl) rfl|exact jd (eo:=0) (F.un _ rfl) (F.sz _ rfl) rfl (c8 rfl rfl) (c8 rfl rfl) (by done) (by omega) hpos),?_⟩));exact trivial))⟩,?_⟩)))
    dsimp only
    (repeat(first|refine ao ?_|refine ai ?_|refine ah ?_|refine aj rfl rfl rfl ?_))
    ((apply bj Try.func41 (congrArg Array.toList Try.results41));(focus(repeat(first|exact ResIs.nil|apply ResIs.tmp rfl))))
    refine⟨rfl,by simp only;omega,nx+1,⟨_,V ++ [((k,(o,[])),.sc (.slice none 0 0))],jS (n:=V.length+1) (by simp) (by omega) (by rw [List.flatMap_append]) (by(repeat(exact Tr.ae _ _ _));done) (by(repeat(first|exact Tr.ae _ _ _|refine(Tr.aa _ _ (by omega)).trans ?_));done) (by omega) ⟨.inr (by omega),by simp only;omega⟩ ⟨.inl hV.own,by simp only;omega⟩ (fun x hx=>?_),by simp⟩,.inr (by omega),by simp only;omega,fun n hn hnt hnr=>by(focus((repeat(refine(Tr.aa _ _ (by omega)).trans ?_));exact rfl))⟩
    rcases List.mem_append.1 hx with hx|hx
    ·obtain⟨g1,g2⟩:=hV.lines x hx
     refine⟨SlOf.frame g1 fun b hb=>?_,fun b hb=>?_⟩
     ·obtain⟨u1,u2,u3⟩:=g2 b hb
      have:=hFw b u1
      (focus((repeat(refine(Tr.aa _ _ (by omega)).trans ?_));exact rfl))
     ·obtain⟨u1,u2,u3⟩:=g2 b hb
      have:=hFw b u1
      exact⟨⟨.inl u1,by simp only;omega⟩,u2,by omega⟩
    ·simp only [List.mem_singleton] at hx
     subst hx
     exact⟨SlOf.none,fun b hb=>by cases hb⟩
 | some y=>
   obtain⟨h,l⟩:=y
   obtain⟨i,hq,he,hno⟩:=tJ hm
   have hkey:V[i].1.1=k:=by rw [he]
   have hown:V[i].1.2.1=h:=by rw [he]
   have hline:V[i].1.2.2=l:=by rw [he]
   rw [lQ hq hkey hno] at hat
   have hx:V[i]? =some V[i]:=zz hq
   obtain⟨hln,hfr⟩:=hV.lines V[i] (zZ hq)
   rw [hline] at hln
   have hll':l.length<390000:=by
    have:=fy (jH hm)
    simp only at this
    omega
   have hone:=lT hln
   rcases hV.row with ⟨rfl,_⟩|⟨hne,rfl,hrow,hFr,hrt⟩
   ·simp at hq
   have hrn:=hFw r hFr
   have hfl:=dv V
   obtain⟨c1,c2,c3⟩:=kB (de hx)
   (repeat(first|refine ao ?_|refine ai ?_|refine ah ?_|refine aN ?_|refine ay rfl ?_|refine am rfl rfl rfl ?_|refine aj rfl rfl rfl ?_|refine bO rfl rfl rfl rfl ?_|refine bX rfl rfl rfl rfl ?_|(refine bn rfl rfl rfl (by kernel_rfl) (Fnc.mono (hwa) ?_);rintro _ rfl;dsimp only)|(refine bn rfl rfl rfl (by kernel_rfl) (Fnc.mono (hat) ?_);rintro _ rfl;dsimp only)))
   refine cu rfl rfl rfl rfl (fun hq'=>absurd hq' (by omega)) (fun _=>?_)
   (repeat(first|refine ao ?_|refine ai ?_|refine ah ?_|refine aN ?_|refine ay rfl ?_|refine am rfl rfl rfl ?_|refine aJ rfl rfl rfl ?_|refine au rfl rfl rfl (F.fo _ _ rfl rfl) ?_|refine aL rfl rfl rfl (F.ag _ rfl) (by assumption) (by exact rfl) ?_|refine c7 (q:=i) rfl rfl rfl rfl (F.un _ rfl) (F.sz _ rfl) (by assumption) (by omega) (by first|omega|(simp;done)) (zP _) ?_|(refine di rfl rfl rfl (F.ag _ rfl) hrow (br (by exact c2) (by omega)) ?_)))
   refine cF rfl rfl rfl rfl ?_ ?_
   all_goals intro h4
   ·have hask:j8 (V.map (·.1)) o k=(V.map (·.1),0):=by unfold j8;rw [if_neg hc1,hw,if_neg (by simp),hm];dsimp only;rw [if_pos (by omega)]
    rw [hask]
    (repeat(first|refine ao ?_|refine ai ?_|refine ah ?_|refine aD rfl ?_|refine aj rfl rfl rfl ?_))
    ((apply bj Try.func41 (congrArg Array.toList Try.results41));(focus(repeat(first|exact ResIs.nil|apply ResIs.tmp rfl))))
    exact hsame _
   have hho: ¬ h=o:=by omega
   (repeat(first|refine ao ?_|refine ai ?_|refine ah ?_|refine aN ?_|refine ay rfl ?_|refine am rfl rfl rfl ?_|refine aj rfl rfl rfl ?_|refine aJ rfl rfl rfl ?_|refine au rfl rfl rfl (F.fo _ _ rfl rfl) ?_|refine aL rfl rfl rfl (F.ag _ rfl) (by assumption) (by exact rfl) ?_|refine c7 (q:=i) rfl rfl rfl rfl (F.un _ rfl) (F.sz _ rfl) (by assumption) (by omega) (by first|omega|(simp;done)) (zP _) ?_|(refine di rfl rfl rfl (F.ag _ rfl) hrow (br (by exact c3) (by omega)) ?_)))
   have hcell: ∀ H',(∀ n,n<nx→H'.at' n=H.at' n)→aZ H' 1 V[i].2=some (l.length,uC l):=fun H' hh=>(SlOf.frame hln fun b hb=>hh b (hFw b (hfr b hb).1)).cells
   have turn: ∀ (H':aV) (n' q:Nat),nx≤q→q<n'→H'.at' t=some (aG 56 [.slu r 0 V.length])→H'.at' r=some (eU false V.length 3 91 ((V.flatMap vC).take (i*3+2) ++ [.slu q 0 (l.length+1)] ++ (V.flatMap vC).drop (i*3+2+1)))→H'.at' q=some (eU false (l.length+1) 1 23 (uC l ++ [.sc (.int .u64 (o:Int))])) →
    (∀ n,n<nx→n≠r→H'.at' n=H.at' n)→WV t r (.slu r 0 V.length) (V.set i ((k,(h,l ++ [o])),.slu q 0 (l.length+1))) (fun n=>(Fw n∨nx≤n)∧n<n') H':=fun H' n' q g1 g2 g3 g4 g5 g6=>by
    have hvc:vC V[i]= [.sc (.string k),.sc (.int .u64 (h:Int)),V[i].2]:=by
     show [SV.sc (.string V[i].1.1),SV.sc (.int .u64 (V[i].1.2.1:Int)),V[i].2]=_
     rw [he]
    refine jS (by rw [List.length_set]) (by omega) (kT hq _ ⟨_,_,hvc,rfl⟩) g3 g4 hrt ⟨.inl hFr,by omega⟩ ⟨.inl hV.own,by omega⟩ fun x hxm=>?_
    rcases List.mem_or_eq_of_mem_set hxm with hxm|rfl
    ·obtain⟨u1,u2⟩:=hV.lines x hxm
     refine⟨SlOf.frame u1 fun b hb=>?_,fun b hb=>?_⟩
     ·obtain⟨z1,z2,z3⟩:=u2 b hb
      exact g6 b (hFw b z1) z3
     ·obtain⟨z1,z2,z3⟩:=u2 b hb
      have:=hFw b z1
      exact⟨⟨.inl z1,by omega⟩,z2,z3⟩
    ·refine⟨?_,fun b hb=>?_⟩
     ·have:=SlOf.row (sz:=1) g5 (by simp)
      show SlOf H' 1 _ _ (l ++ [o]).length (uC (l ++ [o]))
      rw [zT,show uC (l ++ [o])=uC l ++ [.sc (.int .u64 (o:Int))] from zU]
      exact this
     ·cases hb
      exact⟨⟨.inr g1,g2⟩,by omega,by omega⟩
   refine kq (α:=Unit) (fun _=> [(0,.ptr t 0),(1,.sc (.int .u64 (o:Int))),(9,.sc (.int .i64 (i:Int))),(10,V[i].2)]) (fun _ H1 n1=> ∃ sv,WV t r (.slu r 0 V.length) (V.set i ((k,(h,l ++ [o])),sv)) (fun n=>(Fw n∨nx≤n)∧n<n1) H1∧nx≤n1∧ ∀ n,n<nx→n≠t→n≠r→H1.at' n=H.at' n) (fun kk out=>?_) ?_
   ·rcases Nat.eq_zero_or_pos l.length with hl0|hl0
    ·obtain rfl:=zL hl0
     have hcell0: ∀ H',(∀ n,n<nx→H'.at' n=H.at' n)→aZ H' 1 V[i].2=some (0,[]):=fun H' hh=>hcell H' hh
     refine oX (by kernel_rfl) (by kernel_rfl) ?_
     refine mM 6 (zB rfl) ?_
     (repeat(first|refine aX rfl rfl rfl ?_|refine bD rfl rfl rfl ?_|refine bu rfl rfl rfl (F.fo _ _ rfl rfl) ?_|refine bK rfl rfl rfl (F.ag _ rfl) (by assumption) (by exact rfl) ?_))
     (refine be ?_);refine ux rfl rfl (fun _ h=>by cases h) (eH (F.un _ rfl) (.inl ⟨_,F.un _ rfl⟩) (F.sz _ rfl) (by decide) rfl rfl (hcell0 _ (fun m hm=>by(focus(skip;exact rfl))))) ?_
     refine qI ?_
     (repeat(first|refine aX rfl rfl rfl ?_|refine bu rfl rfl rfl (F.fo _ _ rfl rfl) ?_|refine bb (q:=i) rfl rfl rfl rfl (F.un _ rfl) (F.sz _ rfl) (by(repeat(first|assumption|refine(Tr.aa _ _ (by omega)).trans ?_));done) (by omega) (by first|omega|(simp;done)) (zP _) ?_|refine cx rfl rfl (F.un _ rfl) (F.sz _ rfl) rfl (F.ze _ rfl) rfl rfl rfl rfl rfl ?_|refine cR rfl rfl (fun _ h=>by cases h) (ct (b:=8) (F.un _ rfl) (.inl ⟨_,F.un _ rfl⟩) (F.sz _ rfl) (by decide) (by kernel_rfl) (by kernel_rfl) rfl rfl (lu (by(repeat(exact Tr.ae _ _ _));done) rfl) (by exact rfl) (by omega) (by omega) (by omega)) ?_|refine iY rfl (fun _ h=>by cases h) (kH (F.sz _ rfl) rfl rfl rfl (by(repeat(first|assumption|refine(Tr.aa _ _ (by omega)).trans ?_));done) rfl (by omega) (by omega) rfl) ?_))
     (refine be ?_);(refine⟨by kernel_rfl,?_,?_⟩);(focus(repeat(first|exact trivial|refine⟨.inl (ck rfl),?_⟩|refine⟨.inr ⟨0,by kernel_rfl,.inl (AllH.all (fun _=>(by first|exact aY rfl|exact ax rfl|exact aq (F.fo _ _ rfl rfl) rfl|exact aP (F.un _ rfl) rfl|exact aE rfl rfl|exact aH rfl|exact aU rfl (F.ze _ rfl) (F.pl _ rfl) rfl|exact bq rfl|exact aI (F.un _ rfl) rfl|exact aQ rfl rfl|exact aR rfl rfl|exact bi rfl rfl (.inr (.inr (.inr (.inr (.inl ⟨rfl,rfl⟩)))))|exact an rfl rfl (.inl ⟨rfl,(zx _ ⟨by omega,by omega⟩).symm⟩)|exact an rfl rfl (.inr (.inl ⟨rfl,(zx _ ⟨by omega,by omega⟩).symm⟩)))) _)⟩,?_⟩|refine⟨.inr ⟨0,by kernel_rfl,.inl (by(refine⟨(by first|exact aw (F.ag _ rfl) rfl (by(repeat(first|assumption|refine(Tr.aa _ _ (by omega)).trans ?_));done) (az rfl)|exact aC (F.ag _ rfl) rfl (by assumption) (ak _ 0 rfl rfl)|exact aU rfl (F.ze _ rfl) (F.pl _ rfl) rfl|exact bk (F.un _ rfl) (F.sz _ rfl) rfl rfl (by(repeat(first|assumption|exact Tr.ae _ _ _));done) rfl hq (zP _)),?_⟩;(repeat(refine⟨(by first|exact aw (F.ag _ rfl) rfl (by(repeat(first|assumption|refine(Tr.aa _ _ (by omega)).trans ?_));done) (az rfl)|exact aC (F.ag _ rfl) rfl (by assumption) (ak _ 0 rfl rfl)|exact aU rfl (F.ze _ rfl) (F.pl _ rfl) rfl|exact bk (F.un _ rfl) (F.sz _ rfl) rfl rfl (by(repeat(first|assumption|refine(Tr.aa _ _ (by omega)).trans ?_));done) rfl hq (zP _)),?_⟩));exact trivial))⟩,?_⟩|refine⟨.inr ⟨1,by kernel_rfl,.inr (by(refine⟨(by exact eZ (fun _ h=>by cases h) (eH (F.un _ rfl) (.inl ⟨_,F.un _ rfl⟩) (F.sz _ rfl) (by decide) rfl rfl (hcell0 _ (fun m hm=>by(focus((repeat(refine(Tr.aa _ _ (by omega)).trans ?_));exact rfl)))))),?_⟩;(repeat(refine⟨(by exact eZ (fun _ h=>by cases h) (eH (F.un _ rfl) (.inl ⟨_,F.un _ rfl⟩) (F.sz _ rfl) (by decide) rfl rfl (hcell0 _ (fun m hm=>by(focus((repeat(refine(Tr.aa _ _ (by omega)).trans ?_));exact rfl)))))),?_⟩));exact trivial))⟩,?_⟩)))
     dsimp only
     refine out _ _ _ () ⟨.slu (nx+1) 0 1,turn _ _ (nx+1) (by omega) (by omega) (by(repeat(first|assumption|refine(Tr.aa _ _ (by omega)).trans ?_));done) (by(repeat(exact Tr.ae _ _ _));done) (by(repeat(first|exact Tr.ae _ _ _|refine(Tr.aa _ _ (by omega)).trans ?_));done) (fun n hn hnr=>by(focus((repeat(refine(Tr.aa _ _ (by omega)).trans ?_));exact rfl))),by omega,fun n hn hnt hnr=>by(focus((repeat(refine(Tr.aa _ _ (by omega)).trans ?_));exact rfl))⟩ (SlIn.sub (by repeat(first|exact trivial|refine⟨rfl,?_⟩)))
    ·have ho1:bU (uC l)=true:=oM l
     refine mf 6 8 84 (by kernel_rfl) (by kernel_rfl) (by kernel_rfl) ?_
     (repeat(first|refine aX rfl rfl rfl ?_|refine bD rfl rfl rfl ?_|refine bu rfl rfl rfl (F.fo _ _ rfl rfl) ?_|refine bK rfl rfl rfl (F.ag _ rfl) (by assumption) (by exact rfl) ?_|refine bb (q:=i) rfl rfl rfl rfl (F.un _ rfl) (F.sz _ rfl) (by(repeat(first|assumption|refine(Tr.aa _ _ (by omega)).trans ?_|refine(Tr.aF _ (by omega)).trans ?_));done) (by omega) (by first|omega|(simp;done)) (zP _) ?_|refine cR rfl rfl (fun _ h=>by cases h) (ct (b:=8) (F.un _ rfl) (.inl ⟨_,F.un _ rfl⟩) (F.sz _ rfl) (by decide) (by kernel_rfl) (by kernel_rfl) rfl rfl (hcell _ (fun m hm=>by(focus(skip;exact rfl)))) (by exact ho1) (by omega) (by omega) (by omega)) ?_|refine cx rfl rfl (F.un _ rfl) (F.sz _ rfl) rfl (F.ze _ rfl) rfl rfl rfl rfl rfl ?_|refine cR rfl rfl (fun _ h=>by cases h) (iU (b:=8) (F.un _ rfl) (.inl ⟨_,F.un _ rfl⟩) (F.sz _ rfl) (by decide) (by kernel_rfl) (by kernel_rfl) rfl rfl (by(repeat(first|exact Tr.ae _ _ _|refine(Tr.aa _ _ (by omega)).trans ?_));done) (by simp) (lu (by(repeat(exact Tr.ae _ _ _));done) rfl) (by exact rfl) (by omega) (by omega) (by omega)) ?_|refine iY rfl (fun _ h=>by cases h) (kH (F.sz _ rfl) rfl rfl rfl (by(repeat(first|assumption|refine(Tr.aa _ _ (by omega)).trans ?_|refine(Tr.aF _ (by omega)).trans ?_));done) rfl (by omega) (by omega) rfl) ?_))
     refine be ?_
     refine⟨⟨[9,12],by kernel_rfl,by kernel_rfl⟩,?_,?_,?_⟩
     ·(repeat(first|exact trivial|refine⟨.inl (ck rfl),?_⟩|refine⟨.inr ⟨0,by kernel_rfl,AllH.all (fun _=>(by first|exact aY rfl|exact ax rfl|exact aq (F.fo _ _ rfl rfl) rfl|exact aP (F.un _ rfl) rfl|exact aE rfl rfl|exact aH rfl|exact aU rfl (F.ze _ rfl) (F.pl _ rfl) rfl|exact bq rfl|exact aI (F.un _ rfl) rfl|exact aQ rfl rfl|exact aR rfl rfl|exact bi rfl rfl (.inr (.inr (.inr (.inr (.inl ⟨rfl,rfl⟩)))))|exact an rfl rfl (.inl ⟨rfl,(zx _ ⟨by omega,by omega⟩).symm⟩)|exact an rfl rfl (.inr (.inl ⟨rfl,(zx _ ⟨by omega,by omega⟩).symm⟩)))) _⟩,?_⟩|refine⟨.inr ⟨0,by kernel_rfl,(by(refine⟨(by first|exact aw (F.ag _ rfl) rfl (by(repeat(first|assumption|refine(Tr.aa _ _ (by omega)).trans ?_|refine(Tr.aF _ (by omega)).trans ?_));done) (az rfl)|exact aC (F.ag _ rfl) rfl (by assumption) (ak _ 0 rfl rfl)|exact aU rfl (F.ze _ rfl) (F.pl _ rfl) rfl|exact bk (F.un _ rfl) (F.sz _ rfl) rfl rfl (by(repeat(exact Tr.ae _ _ _));done) rfl hq (zP _)),?_⟩;(repeat(refine⟨(by first|exact aw (F.ag _ rfl) rfl (by(repeat(first|assumption|refine(Tr.aa _ _ (by omega)).trans ?_|refine(Tr.aF _ (by omega)).trans ?_));done) (az rfl)|exact aC (F.ag _ rfl) rfl (by assumption) (ak _ 0 rfl rfl)|exact aU rfl (F.ze _ rfl) (F.pl _ rfl) rfl|exact bk (F.un _ rfl) (F.sz _ rfl) rfl rfl (by(repeat(first|assumption|refine(Tr.aa _ _ (by omega)).trans ?_|refine(Tr.aF _ (by omega)).trans ?_));done) rfl hq (zP _)),?_⟩));exact trivial))⟩,?_⟩))
     ·refine⟨_,_,_,_,_,_,_,_,⟨rfl,rfl,by kernel_rfl,by kernel_rfl,rfl,rfl,rfl,rfl,rfl,mN _ _,fun ρ=>lI (l.map fun n:Nat=>Value.int .u64 (n:Int)) (by simp [uC]),fun ρ=>lI [Value.int .u64 (o:Int)] rfl,eZ (fun _ h=>by cases h) (cQ (F.un _ rfl) (F.sz _ rfl) (by decide) (F.ze _ rfl) rfl rfl rfl rfl rfl),eZ (fun _ h=>by cases h) (ct (b:=8) (F.un _ rfl) (.inl ⟨_,F.un _ rfl⟩) (F.sz _ rfl) (by decide) (by kernel_rfl) (by kernel_rfl) rfl rfl (hcell _ (fun m hm=>by(focus((repeat(refine(Tr.aa _ _ (by omega)).trans ?_));exact rfl)))) (by exact ho1) (by omega) (by omega) (by omega))⟩⟩
     dsimp only
     refine out _ _ _ () ⟨.slu (nx+2) 0 (l.length+1),turn _ _ (nx+2) (by omega) (by omega) (by(repeat(first|assumption|refine(Tr.aa _ _ (by omega)).trans ?_|refine(Tr.aF _ (by omega)).trans ?_));done) (by(repeat(exact Tr.ae _ _ _));done) (by(repeat(first|exact Tr.ae _ _ _|refine(Tr.aa _ _ (by omega)).trans ?_));done) (fun n hn hnr=>by(focus((repeat(first|refine(Tr.aa _ _ (by omega)).trans ?_|refine(Tr.aF _ (by omega)).trans ?_));exact rfl))),by omega,fun n hn hnt hnr=>by(focus((repeat(first|refine(Tr.aa _ _ (by omega)).trans ?_|refine(Tr.aF _ (by omega)).trans ?_));exact rfl))⟩ (SlIn.sub (by repeat(first|exact trivial|refine⟨rfl,?_⟩)))
   ·rintro⟨⟩ H1 n1 ⟨sv,hV1,hn1,hfr1⟩
    have hmp:=tH hq he hno (y':=(h,l ++ [o])) sv
    have hW1:WAt t r (ca (V.map (·.1)) k (h,l ++ [o])) (fun n=>(Fw n∨nx≤n)∧n<n1) H1:=⟨_,_,hV1,hmp⟩
    have hcir:=wq (nx:=n1) hW1 (fun n hn=>hn.2) o (by rw [vN hm];omega)
    have hask1:RReach (ca (V.map (·.1)) k (h,l ++ [o])) o o→j8 (V.map (·.1)) o k=(V.map (·.1),10):=fun hx=>by
     unfold j8
     rw [if_neg hc1,hw,if_neg (by simp),hm]
     dsimp only
     rw [if_neg hho,if_pos hx]
    have hask2: ¬ RReach (ca (V.map (·.1)) k (h,l ++ [o])) o o→j8 (V.map (·.1)) o k=(ca (V.map (·.1)) k (h,l ++ [o]),9):=fun hx=>by
     unfold j8
     rw [if_neg hc1,hw,if_neg (by simp),hm]
     dsimp only
     rw [if_neg hho,if_neg hx]
    (repeat(first|refine ao ?_|refine ai ?_|refine am rfl rfl rfl ?_))
    refine bn rfl rfl rfl (by kernel_rfl) (Fnc.mono hcir ?_)
    rintro⟨_,H2,n2⟩ ⟨b,rfl,hb,u1,u2⟩
    dsimp only at u1 u2 ⊢
    have hV2:=hV1.frame (fun n hn=>u2 n hn.2)
    have hbox2:=hV2.box
    have hrow2:H2.at' r=some (eU false V.length 3 91 ((V.set i ((k,(h,l ++ [o])),sv)).flatMap vC)):=by
     rcases hV2.row with ⟨e,_⟩|⟨_,_,q3,_,_⟩
     ·have:=congrArg List.length e
      rw [List.length_set] at this
      simp only [List.length_nil] at this
      omega
     ·rw [List.length_set] at q3
      exact q3
    have hfl2:=dv (V.set i ((k,(h,l ++ [o])),sv))
    rw [List.length_set] at hfl2
    cases b with
    | false=>
      rw [hask2 (fun hx=>by have:=hb.2 hx;cases this)]
      (repeat(first|refine ao ?_|refine ai ?_|refine ah ?_|refine aN ?_|refine ay rfl ?_|refine aj rfl rfl rfl ?_))
      ((apply bj Try.func41 (congrArg Array.toList Try.results41));(focus(repeat(first|exact ResIs.nil|apply ResIs.tmp rfl))))
      exact⟨rfl,by simp only;omega,r,⟨_,_,hV2.mono fun n hn=>⟨hn.1,by have:=hn.2;simp only;omega⟩,hmp⟩,.inl rfl,by simp only;omega,fun n hn hnt hnr=>(u2 n (by omega)).trans (hfr1 n hn hnt hnr)⟩
    | true=>
      rw [hask1 (hb.1 rfl)]
      (repeat(first|refine ao ?_|refine ai ?_|refine ah ?_|refine aD rfl ?_|refine am rfl rfl rfl ?_|refine aj rfl rfl rfl ?_|refine aJ rfl rfl rfl ?_|refine au rfl rfl rfl (F.fo _ _ rfl rfl) ?_|refine aL rfl rfl rfl (F.ag _ rfl) (by assumption) (by exact rfl) ?_|refine c7 (q:=i) rfl rfl rfl rfl (F.un _ rfl) (F.sz _ rfl) (by assumption) (by omega) (by first|omega|(simp;done)) (zP _) ?_|(refine ka rfl rfl rfl (tp hone) (F.sz _ rfl) hrow2 rfl (by omega) (by omega) (by show(V[i].2.one && true)=true;rw [hone];rfl) ?_)))
      ((apply bj Try.func41 (congrArg Array.toList Try.results41));(focus(repeat(first|exact ResIs.nil|apply ResIs.tmp rfl))))
      have hset:(V.set i ((k,(h,l ++ [o])),sv)).set i V[i]=V:=by
       rw [List.set_set]
       exact List.set_getElem_self hq
      have hvc:vC V[i]= [.sc (.string k),.sc (.int .u64 (h:Int)),V[i].2]:=by
       show [SV.sc (.string V[i].1.1),SV.sc (.int .u64 (V[i].1.2.1:Int)),V[i].2]=_
       rw [he]
      have hfs:=kT (V:=V.set i ((k,(h,l ++ [o])),sv)) (i:=i) (by rw [List.length_set];exact hq) V[i] ⟨.sc (.string k),.sc (.int .u64 (h:Int)),by rw [List.getElem_set_self],hvc⟩
      rw [hset] at hfs
      refine⟨rfl,by simp only;omega,r,⟨_,V,jS rfl (by omega) hfs ((Tr.aa _ _ (by omega)).trans hbox2) (Tr.ae _ _ _) hrt ⟨.inl hFr,by simp only;omega⟩ ⟨.inl hV.own,by simp only;omega⟩ (fun x hx=>?_),rfl⟩,.inl rfl,by simp only;omega,fun n hn hnt hnr=>(Tr.aa _ _ hnr).trans ((u2 n (by omega)).trans (hfr1 n hn hnt hnr))⟩
      obtain⟨z1,z2⟩:=hV.lines x hx
      refine⟨SlOf.frame z1 fun b hb=>?_,fun b hb=>?_⟩
      ·obtain⟨y1,y2,y3⟩:=z2 b hb
       have:=hFw b y1
       exact(Tr.aa _ _ y3).trans ((u2 b (by omega)).trans (hfr1 b this y2 y3))
      ·obtain⟨y1,y2,y3⟩:=z2 b hb
       have:=hFw b y1
       exact⟨⟨.inl y1,by simp only;omega⟩,y2,y3⟩
end Go.Proofs.Ytckajlllkmkniaa
end
section
namespace Go.Sy
open Go Go.Sl Go.RowKit
theorem gG{H:aV}{b o c sz:Nat}{vo:VO}(hb:H.at' b=some vo):aZ H sz (.sl b o 0 c)=some (0,[]):=by
 simp [aZ,hb,VO.cellsFrom]
theorem iJ{H:aV}{r eo m n sz c:Nat}{t:TypeId}{l:List SV}(hb:H.at' r=some (eU false n sz t l))(hl:l.length=n*sz)(he:eo+m≤n):aZ H sz (.sl r (eo*sz) m c)=some (m,(l.drop (eo*sz)).take (m*sz)):=by
 have e1:=Nat.mul_le_mul_right sz he
 rw [Nat.add_mul] at e1
 have:=cT (ro:=false) (ne:=n) (sz:=sz) (t:=t) (l:=l) (m*sz) (eo*sz) _ rfl (by rw [List.length_take,List.length_drop];omega) (by omega)
 simp only [aZ,hb,this,zV]
theorem xl{P:Program}{ro:Option Nat}{fn nt nx:Nat}{T:Tr SV}{k:List AIt}{dfs:List ADf}{H:aV}{Q:Pst}{ops:Array Oper}{i:Nat}{l:List Oper}{ty:TypeId}{pos:String}{af:Array Edge}{gd:Option (Nat×Bool)}{t:TypeId}{x:Operand}{b o n:Nat}{vo:VO}{cs:List SV}{dd:Nat}(hw:aA T ops ⟨some dd,.load t x,ty,pos,af,gd⟩=some true)(hd:Nat.blt dd nt=true)(hx:ar T x=some (.ptr b o))(ha:b7 P t=some (some n))(hb:H.at' b=some vo)(hv:vo.cellsFrom o n=some cs)
 (h:Wp P ro ⟨fn,nt,T.set dd (.agg cs),.inReg ops (i+1) l :: k,dfs,H,nx⟩ Q):Wp P ro ⟨fn,nt,T,.inReg ops i (⟨some dd,.load t x,ty,pos,af,gd⟩ :: l) :: k,dfs,H,nx⟩ Q:=
 bS hw (.inr (fun _ h=>by cases h)) ((aC ha hx hb hv).does) (by rw [aK hd];exact h)
theorem pk{P:Program}{T:Tr SV}{H:aV}{nx:Nat}{d:Option Tmp}{ty:TypeId}{pos:String}{af:Array Edge}{gd:Option (Nat×Bool)}{t tx el rt:TypeId}{sz r n ne sz':Nat}{rr:Bool}{c:Tr SV}{s x:Operand}{v:SV}(hu:P.underlying t=some (.slice el))(hk:(∃ e',P.underlying tx=some (.slice e'))∨P.underlying tx=some .string)(hs:bC P el=some sz)(h0:0<sz)
 (hx0:ar T s=some (.slu r 0 n)) (hx:ar T x=some v) (hro:H.at' r=some (.row rr ne sz' rt c)) (hn:n≤ne) (hr:aZ H sz v=some (0,[])) :
 OpDoes P T H nx ⟨d,.call {callee:= .builtin .append,args:= #[s,x],argTypes:= #[t,tx]},ty,pos,af,gd⟩ (.val (.slu r 0 n),H,nx):=
 lR (vs:= []) hu hk hs h0 hx0 hx hro (by omega) (by show aZ H sz v=some (0,([]:List Value).map .sc);exact hr) (by first|trivial|rfl|simp [qg])
theorem eK: ∀ {l:List SV},bU l=true↔ ∀ x∈l,x.one=true
 | []=>by simp [bU]
 | y :: l=>by simp [bU,eK (l:=l)]
theorem jP{l m:List SV}(h:bU m=true)(hs: ∀ x∈l,x∈m):bU l=true:=eK.2 fun x hx=>eK.1 h x (hs x hx)
end Go.Sy
namespace Go.Proofs.Ytckajlllkmkniaa
open Go Go.Sy Go.Sl Go.RowKit
theorem rI{V:RV}{i:Nat}(hi:i≤V.length):(V.take i).flatMap vC=(V.flatMap vC).take (i*3):=by
 have hA:=dv (V.take i)
 rw [List.length_take,Nat.min_eq_left hi] at hA
 conv=>rhs;rw [← List.take_append_drop i V,List.flatMap_append]
 rw [← hA,List.take_left]
theorem rK{V:RV}{i:Nat}(hi:i≤V.length):(V.drop i).flatMap vC=(V.flatMap vC).drop (i*3):=by
 have hA:=dv (V.take i)
 rw [List.length_take,Nat.min_eq_left hi] at hA
 conv=>rhs;rw [← List.take_append_drop i V,List.flatMap_append]
 rw [← hA,List.drop_left]
theorem xW{V:RV}{k:ByteArray}{y:Nat×List Nat}{i:Nat}(hi:i<V.length)(he:V[i].1=(k,y))(hno: ∀ j,j<i→ ∀ x,V[j]? =some x→x.1.1≠k):(V.take i ++ V.drop (i+1)).map (·.1)=dO (V.map (·.1)) k:=by
 have e1:V.map (·.1)=(V.take i).map (·.1) ++ (k,y) :: (V.drop (i+1)).map (·.1):=by
  conv=>lhs;rw [← List.take_append_drop i V,List.drop_eq_getElem_cons hi]
  rw [zU,zR,he]
 have hn:k∉((V.take i).map (·.1)).map (·.1):=fun h=>by
  obtain⟨z,hz,ez⟩:=List.mem_map.1 h
  obtain⟨x,hx,rfl⟩:=List.mem_map.1 hz
  obtain⟨j,hj,ej⟩:=List.getElem_of_mem hx
  rw [List.length_take] at hj
  refine hno j (by omega) x ?_ ez
  rw [List.getElem_take] at ej
  rw [← ej]
  exact zz (by omega)
 rw [e1,fk hn,zU]
theorem vJ{W:RT}{k:ByteArray}{h:Nat}(hm:bE W k=some (h,[])):gz W k=(dO W k,[]):=by
 unfold gz
 rw [hm]
theorem s8{W:RT}{k:ByteArray}{h n:Nat}{rest:List Nat}(hm:bE W k=some (h,n :: rest)):gz W k=(dO W k ++ [(k,(n,rest))],[n]):=by
 unfold gz
 rw [hm]
theorem sZ{W:RT}(hn:(W.map (·.1)).Nodup)(k:ByteArray):((gz W k).1.map (·.1)).Nodup:=by
 obtain⟨h1,h2⟩:=ic hn k
 unfold gz
 split
 ·rw [zU,List.nodup_append]
  refine⟨h1,by simp,fun a ha b hb=>?_⟩
  simp only [zR,List.map_nil,List.mem_singleton] at hb
  subst hb
  rintro rfl
  exact h2 ha
 ·exact h1
theorem tI{W:RT}{k k':ByteArray}{y:Nat×List Nat}(h:k≠k'):bE (W ++ [(k,y)]) k'=bE W k':=by
 unfold bE
 rw [List.find?_append]
 cases hf:W.find? (fun x=>decide (x.1=k'))with
 | some z=>simp [hf]
 | none=>simp [hf,h]
theorem qb{W:RT}(hn:(W.map (·.1)).Nodup){k k':ByteArray}(h:k≠k'):bE (gz W k).1 k'=bE W k':=by
 have h1:=cZ hn k k'
 rw [if_neg h] at h1
 unfold gz
 split
 ·rw [tI h,h1]
 ·exact h1
theorem lM(k:ByteArray): ∀ (ks:List ByteArray) (W:RT) (out:List Nat),fU (ks ++ [k]) W out=((gz (fU ks W out).1 k).1,(fU ks W out).2 ++ (gz (fU ks W out).1 k).2)
 | [],W,out=>rfl
 | q :: ks,W,out=>by
   rw [List.cons_append]
   exact lM k ks _ _
theorem nr{k':ByteArray}: ∀ (ks:List ByteArray) {W:RT} (out:List Nat),(W.map (·.1)).Nodup→k'∉ks→bE (fU ks W out).1 k'=bE W k'
 | [],_,_,_,_=>rfl
 | k :: ks,W,out,h,hk=>by
   rw [List.mem_cons,not_or] at hk
   have:=nr (k':=k') ks (W:=(gz W k).1) (out ++ (gz W k).2) (sZ h k) hk.2
   show bE (fU ks (gz W k).1 (out ++ (gz W k).2)).1 k'=_
   rw [this,qb h (Ne.symm hk.1)]
theorem qp: ∀ (W:RT) (k:ByteArray),(dO W k).Sublist W
 | [],_=>List.Sublist.slnil
 | x :: W,k=>by
   unfold dO
   split
   ·exact List.sublist_cons_self _ _
   ·exact(qp W k).cons_cons _
theorem vK{W:RT}{k:ByteArray}(hm:(bE W k).isSome):(gz W k).1.length≤W.length∧(gz W k).2.length≤1:=by
 obtain⟨y,hy⟩:=Option.isSome_iff_exists.1 hm
 obtain⟨A,B,rfl,hno⟩:=bH hy
 unfold gz
 rw [hy,fk hno]
 obtain⟨h,_|⟨n,rest⟩⟩:=y <;> simp <;> omega
theorem nq: ∀ (ks:List ByteArray) {W:RT} (out:List Nat),(W.map (·.1)).Nodup→ks.Nodup→(∀ k∈ks,(bE W k).isSome)→(fU ks W out).1.length≤W.length∧(fU ks W out).2.length≤out.length+ks.length
 | [],_,_,_,_,_=>⟨zP _,zP _⟩
 | k :: ks,W,out,h,hk,hs=>by
   rw [List.nodup_cons] at hk
   obtain⟨a1,a2⟩:=vK (hs k List.mem_cons_self)
   obtain⟨b1,b2⟩:=nq ks (W:=(gz W k).1) (out ++ (gz W k).2) (sZ h k) hk.2 fun q hq=>by
    have hne:k≠q:=by
     rintro rfl
     exact hk.1 hq
    rw [qb h hne]
    exact hs q (List.mem_cons_of_mem _ hq)
   show(fU ks (gz W k).1 (out ++ (gz W k).2)).1.length≤_∧(fU ks (gz W k).1 (out ++ (gz W k).2)).2.length≤_
   rw [zT] at b2
   simp only [zS]
   omega
theorem vL{W:RT}(hn:(W.map (·.1)).Nodup)(o:Nat):(dt W o).Nodup:=by
 unfold dt
 exact(List.filter_sublist.map _).nodup hn
theorem ta{W:RT}{o:Nat}{k:ByteArray}(h:k∈dt W o):(bE W k).isSome:=by
 unfold dt at h
 obtain⟨x,hx,rfl⟩:=List.mem_map.1 h
 have:=(List.mem_filter.1 hx).1
 unfold bE
 rw [Option.isSome_map,List.find?_isSome]
 exact⟨x,this,by simp⟩
theorem nv{W:RT}{o:Nat}:(dt W o).length≤W.length:=by
 unfold dt
 rw [List.length_map]
 exact List.length_filter_le _ _
theorem s9{W:RT}(hn:(W.map (·.1)).Nodup)(o:Nat):((dA W o).map (·.1)).Nodup∧(dA W o).length=W.length:=by
 unfold dA
 cases cJ W o with
 | none=>exact⟨hn,rfl⟩
 | some k=>
   dsimp only
   cases hm:bE W k with
   | none=>exact⟨hn,rfl⟩
   | some y=>
     obtain⟨h,l⟩:=y
     obtain⟨A,B,rfl,hno⟩:=bH hm
     dsimp only
     rw [cN hno]
     simpa using hn
theorem xU{W:RT}{k:ByteArray}{y y':Nat×List Nat}{x:ByteArray×(Nat×List Nat)}(hm:bE W k=some y)(hx:x∈ca W k y'):x∈W∨x=(k,y'):=by
 obtain⟨A,B,rfl,hno⟩:=bH hm
 rw [cN hno] at hx
 simp only [List.mem_append,List.mem_cons] at hx ⊢
 rcases hx with hx|hx|hx
 ·exact .inl (.inl hx)
 ·exact .inr hx
 ·exact .inl (.inr (.inr hx))
def oO(W:RT)(N:Nat):Prop:= ∀ x∈W,x.2.2.length<N
theorem nu{W:RT}{N:Nat}(h:oO W N)(o:Nat):oO (dA W o) N:=by
 unfold dA
 cases cJ W o with
 | none=>exact h
 | some k=>
   dsimp only
   cases hm:bE W k with
   | none=>exact h
   | some y=>
     obtain⟨q,l⟩:=y
     intro x hx
     rcases xU hm hx with hx|rfl
     ·exact h x hx
     ·have:=h _ (jH hm)
      have h2:=List.length_filter_le (fun x=>decide (x≠o)) l
      simp only at this ⊢
      omega
theorem rm{W:RT}{N:Nat}(h:oO W N)(k:ByteArray):oO (gz W k).1 N:=by
 have hd:oO (dO W k) N:=fun x hx=>h x ((qp W k).mem hx)
 unfold gz
 split
 ·next h' n rest hm=>
  intro x hx
  rcases List.mem_append.1 hx with hx|hx
  ·exact hd x hx
  ·simp only [List.mem_singleton] at hx
   subst hx
   have:=h _ (jH hm)
   simp only [zS] at this ⊢
   omega
 ·exact hd
theorem kD{N:Nat}: ∀ (ks:List ByteArray) {W:RT} (out:List Nat),oO W N→oO (fU ks W out).1 N
 | [],_,_,h=>h
 | k :: ks,_,_,h=>kD ks _ (rm h k)
end Go.Proofs.Ytckajlllkmkniaa
end
section
namespace Go.Proofs.Ytckajlllkmkniaa
open Go Go.Sy Go.Sl Go.RowKit
def KeepW(t r:Nat)(W':RT)(Fw:Nat→Prop)(H:aV)(nx:Nat)(q:Res):Prop:=nx≤q.2.2∧ ∃ r',WAt t r' W' (fun n=>(Fw n∨nx≤n)∧n<q.2.2) q.2.1∧(r'=r∨nx≤r')∧r'<q.2.2∧ ∀ n,n<nx→n≠t→n≠r→q.2.1.at' n=H.at' n
theorem xg{P:Program}{ro:Option Nat}{fn nt nx:Nat}{T:Tr SV}{k:List AIt}{dfs:List ADf}{H:aV}{Q:Pst}{R:aV→Nat→Prop}(h1:(∀ H' nx',R H' nx'→Wp P ro ⟨fn,nt,T,k,dfs,H',nx'⟩ Q)→Wp P ro ⟨fn,nt,T,k,dfs,H,nx⟩ Q)(h2: ∀ H' nx',R H' nx'→Wp P ro ⟨fn,nt,T,k,dfs,H',nx'⟩ Q):Wp P ro ⟨fn,nt,T,k,dfs,H,nx⟩ Q:=h1 h2
def Hid(p:Prop):Prop:=p
theorem sw{t r nx i h:Nat}{V:RV}{Fw:Nat→Prop}{H:aV}{k:ByteArray}{l:List Nat}(hV:WV t r (.slu r 0 V.length) V Fw H)(hFw: ∀ n,Fw n→n<nx)(hFr:Fw r)(hrt:r≠t)(hq:i<V.length)(he:V[i].1=(k,(h,l)))(l':List Nat)(q n':Nat){H':aV}(g1:nx≤q)(g2:q<n')(g3:H'.at' t=H.at' t)
 (g4:H'.at' r=some (eU false V.length 3 91 ((V.flatMap vC).take (i*3+2) ++ [.slu q 0 l'.length] ++ (V.flatMap vC).drop (i*3+2+1)))) (g5:H'.at' q=some (uR false l')) (g6: ∀ n,n<nx→n≠r→H'.at' n=H.at' n) :
 WV t r (.slu r 0 V.length) (V.set i ((k,(h,l')),.slu q 0 l'.length)) (fun n=>(Fw n∨nx≤n)∧n<n') H':=by
 have hrn:=hFw r hFr
 have htn:=hFw t hV.own
 have hvc:vC V[i]= [.sc (.string k),.sc (.int .u64 (h:Int)),V[i].2]:=by
  show [SV.sc (.string V[i].1.1),SV.sc (.int .u64 (V[i].1.2.1:Int)),V[i].2]=_
  rw [he]
 refine jS (by rw [List.length_set]) (by omega) (kT hq _ ⟨_,_,hvc,rfl⟩) (g3.trans hV.box) g4 hrt ⟨.inl hFr,by omega⟩ ⟨.inl hV.own,by omega⟩ fun x hxm=>?_
 rcases List.mem_or_eq_of_mem_set hxm with hxm|rfl
 ·obtain⟨u1,u2⟩:=hV.lines x hxm
  refine⟨SlOf.frame u1 fun b hb=>?_,fun b hb=>?_⟩
  ·obtain⟨z1,z2,z3⟩:=u2 b hb
   exact g6 b (hFw b z1) z3
  ·obtain⟨z1,z2,z3⟩:=u2 b hb
   have:=hFw b z1
   exact⟨⟨.inl z1,by omega⟩,z2,z3⟩
 ·refine⟨qt g5,fun b hb=>?_⟩
  cases hb
  exact⟨⟨.inr g1,g2⟩,by omega,by omega⟩
theorem w8{t r:Nat}{W:RT}{Fw:Nat→Prop}{H:aV}{nx:Nat}(hW:WAt t r W Fw H)(hFw: ∀ n,Fw n→n<nx)(hr:r<nx)(o mark:Nat)(hA:(gI W).length<390000)(hnd:(W.map (·.1)).Nodup)(hmk:mark<1000000):Fnc Try.prog 43 [.ptr t 0,.sc (.int .u64 (o:Int)),.sc (.int .i64 (mark:Int))] H nx
 (fun q=> ∃ cm,q.1 = .slu cm 0 (gH W o mark).2.length∧q.2.1.at' cm=some (uR false (gH W o mark).2)∧nx≤cm∧cm<q.2.2∧KeepW t r (gH W o mark).1 Fw H nx q):=by
 have hl:W.length<1000000:=Nat.lt_of_le_of_lt eG (by omega)
 have hll: ∀ x∈W,x.2.2.length<1000000:=fun x hx=>Nat.lt_trans (fy hx) (by omega)
 have hwa:=mc (nx:=nx) hW o hl hll
 have hW0:=hW
 refine Fnc.start Try.func43 rfl rfl ?_
 have htn:t<nx:=by
  obtain⟨s,V,hV,_⟩:=hW
  exact hFw t hV.own
 (repeat(first|refine ao ?_|refine ai ?_|refine ah ?_|(apply am;exact rfl;exact rfl;exact rfl)|(apply aj;exact rfl;exact rfl;exact rfl)|(apply bX;exact rfl;exact rfl;exact rfl;exact rfl)|(refine bn rfl rfl rfl (by kernel_rfl) (Fnc.mono (hwa) ?_);rintro _ rfl;dsimp only)))
 refine kq (α:=Unit) (fun _=> [(0,.ptr t 0),(1,.sc (.int .u64 (o:Int))),(2,.sc (.int .i64 (mark:Int)))]) (fun _ H1 n1=>WAt t r (dA W o) (fun n=>(Fw n∨nx≤n)∧n<n1) H1∧nx≤n1∧ ∀ n,n<nx→n≠t→n≠r→H1.at' n=H.at' n) (fun kk out=>?_) ?_
 ·cases hw:cJ W o with
  | none=>
    have hwv:cK W o=(⟨#[]⟩,false):=by unfold cK;rw [hw]
    have hlv:dA W o=W:=by unfold dA;rw [hw]
    rw [hwv]
    (repeat(first|refine aN ?_|refine ay rfl ?_))
    refine out _ _ _ () ⟨?_,zP _,fun _ _ _ _=>rfl⟩ (SlIn.sub (by repeat(first|exact trivial|refine⟨rfl,?_⟩)))
    rw [hlv]
    obtain⟨s,V,h1,h2⟩:=hW
    exact⟨s,V,h1.mono fun n hn=>⟨.inl hn,hFw n hn⟩,h2⟩
  | some k=>
    have hwv:cK W o=(k,true):=by unfold cK;rw [hw]
    obtain⟨s,V,hV,rfl⟩:=hW
    rw [List.length_map] at hl
    have hbox:=hV.box
    obtain⟨i,hq,hkey,hno⟩:=lK hw
    have hx:V[i]? =some V[i]:=zz hq
    obtain⟨hln,hfr⟩:=hV.lines V[i] (zZ hq)
    have hat:=zr (nx:=nx) hW0 k (by rw [List.length_map];exact hl)
    rw [lQ hq hkey hno] at hat
    have hm:bE (V.map (·.1)) k=some V[i].1.2:=by
     have:=px (W:=V.map (·.1)) (k:=k) (i:=i) (by simpa using hq) (by simpa using hkey) (fun j hj x hx=>by
      rw [List.getElem?_map,zF] at hx
      obtain⟨y,hy,rfl⟩:=hx
      exact hno j hj y hy)
     rw [this,List.getElem_map]
    have hlv:dA (V.map (·.1)) o=ca (V.map (·.1)) k (V[i].1.2.1,V[i].1.2.2.filter fun x=>decide (x≠o)):=by
     unfold dA
     rw [hw]
     dsimp only
     rw [hm]
    have he:V[i].1=(k,(V[i].1.2.1,V[i].1.2.2)):=by rw [← hkey]
    have hlen:V[i].1.2.2.length<1000000:=hll V[i].1 (List.mem_map_of_mem (zZ hq))
    have hone:=lT hln
    rcases hV.row with ⟨rfl,_⟩|⟨hne,rfl,hrow,hFr,hrt⟩
    ·simp at hq
    have hrn:=hFw r hFr
    have hfl:=dv V
    obtain⟨c1,c2,c3⟩:=kB (de hx)
    rw [hwv]
    (repeat(first|refine ao ?_|refine ai ?_|refine ah ?_|refine aT ?_|refine aD rfl ?_|(apply am;exact rfl;exact rfl;exact rfl)|(apply aj;exact rfl;exact rfl;exact rfl)|(refine bn rfl rfl rfl (by kernel_rfl) (Fnc.mono (hat) ?_);rintro _ rfl;dsimp only)))
    refine co 1 23 (d:=10) (by(repeat(first|exact Tr.ae _ _ _|refine(Tr.aa _ _ (by omega)).trans ?_));done) rfl ?_
    generalize hL:V[i].1.2.2=l at hln hlen hlv he
    generalize hown:V[i].1.2.1=h at hlv he
    refine ch (α:=Nat×Nat) (fun x=> [(0,.ptr t 0),(1,.sc (.int .u64 (o:Int))),(2,.sc (.int .i64 (mark:Int))),(9,.sc (.int .i64 (i:Int))),(10,.slu x.2 0 ((l.take x.1).filter fun x=>decide (x≠o)).length),(11,.sc (.int .i64 (x.1:Int)))]) (fun x H1 n1=>x.1≤l.length∧nx≤x.2∧x.2<n1∧H1.at' x.2=some (uR false ((l.take x.1).filter fun x=>decide (x≠o)))∧ ∀ n,n<nx→H1.at' n=H.at' n) (fun x=>l.length-x.1) (0,nx) ⟨zQ _,zP _,Nat.lt_succ_self _,by(focus((repeat(exact Tr.ae _ _ _));done)),fun n hn=>by(focus((repeat(refine(Tr.aa _ _ (by omega)).trans ?_));exact rfl))⟩ (SlIn.sub (by repeat(first|exact trivial|refine⟨rfl,?_⟩))) ?_
    rintro⟨m,nm⟩ H1 n1 ⟨hmm,g1,g2,g3,g4⟩ ih
    simp only at hmm g1 g2 g3 ih ⊢
    have hbox1:=(g4 t htn).trans hbox
    have hrow1:=(g4 r hrn).trans hrow
    have hln1:=SlOf.frame hln fun b hb=>g4 b (hFw b (hfr b hb).1)
    have hle:((l.take m).filter fun x=>decide (x≠o)).length≤l.length:=zX (List.length_filter_le _ _) (by rw [List.length_take];omega)
    (repeat(first|refine ao ?_|refine ai ?_|(apply am;exact rfl;exact rfl;exact rfl)|(apply aJ;exact rfl;exact rfl;exact rfl)|(apply au;exact rfl;exact rfl;exact rfl;exact(F.fo _ _ rfl rfl))|refine aL rfl rfl rfl (F.ag _ rfl) (by assumption) (by exact rfl) ?_|refine c7 (q:=i) rfl rfl rfl rfl (F.un _ rfl) (F.sz _ rfl) (by assumption) (by omega) (by first|omega|(simp;done)) (zP _) ?_|(refine di rfl rfl rfl (F.ag _ rfl) hrow1 (br (by exact c3) (by omega)) ?_)|(refine dC rfl rfl rfl (F.un _ rfl) hln1 ?_)))
    (apply cu;exact rfl;exact rfl;exact rfl;exact rfl)
    all_goals intro h1
    ·have hmq:m<l.length:=by omega
     have hsn:(l.take (m+1)).filter (fun x=>decide (x≠o))=(l.take m).filter (fun x=>decide (x≠o)) ++ if l[m]=o then [] else [l[m]]:=by
      rw [List.take_succ_eq_append_getElem hmq,List.filter_append]
      congr 1
      by_cases e:l[m]=o
      ·rw [if_pos e,List.filter_cons_of_neg (by simpa using e)]
       rfl
      ·rw [if_neg e,List.filter_cons_of_pos (by simpa using e)]
       rfl
     (repeat(first|refine ao ?_|refine ai ?_|refine ah ?_|refine aT ?_|refine aN ?_|refine aD rfl ?_|(apply am;exact rfl;exact rfl;exact rfl)|(apply aJ;exact rfl;exact rfl;exact rfl)|(apply au;exact rfl;exact rfl;exact rfl;exact(F.fo _ _ rfl rfl))|refine aL rfl rfl rfl (F.ag _ rfl) (by assumption) (by exact rfl) ?_|refine c7 (q:=i) rfl rfl rfl rfl (F.un _ rfl) (F.sz _ rfl) (by assumption) (by omega) (by first|omega|(simp;done)) (zP _) ?_|(refine di rfl rfl rfl (F.ag _ rfl) hrow1 (br (by exact c3) (by omega)) ?_)))
     refine dq rfl rfl rfl rfl (F.un _ rfl) (F.sz _ rfl) hln1 rfl hmq fun rr2 p2 ne2 rl2 u1 u2 u3 u4 _=>?_
     rw [lp hmq] at u4
     have e1:=lq u4
     (repeat(first|(apply am;exact rfl;exact rfl;exact rfl)|(refine di rfl rfl rfl (F.ag _ rfl) u1 (br (by exact e1) (by omega)) ?_)))
     (apply jT;exact rfl;exact rfl;exact rfl;exact rfl)
     all_goals intro h3
     ·rw [if_neg (by omega)] at hsn
      generalize hls:(l.take m).filter (fun x=>decide (x≠o))=ls at g3 hle hsn ⊢
      (repeat(first|refine ai ?_|refine ah ?_|refine aD rfl ?_|(apply am;exact rfl;exact rfl;exact rfl)|(apply aJ;exact rfl;exact rfl;exact rfl)|(apply au;exact rfl;exact rfl;exact rfl;exact(F.fo _ _ rfl rfl))|refine aL rfl rfl rfl (F.ag _ rfl) (by assumption) (by exact rfl) ?_|refine c7 (q:=i) rfl rfl rfl rfl (F.un _ rfl) (F.sz _ rfl) (by assumption) (by omega) (by first|omega|(simp;done)) (zP _) ?_|(refine di rfl rfl rfl (F.ag _ rfl) hrow1 (br (by exact c3) (by omega)) ?_)))
      refine dq rfl rfl rfl rfl (F.un _ rfl) (F.sz _ rfl) hln1 rfl hmq fun rr2 p2 ne2 rl2 u1 u2 u3 u4 _=>?_
      rw [lp hmq] at u4
      have e1:=lq u4
      (repeat(first|refine ai ?_|refine ah ?_|refine aM ?_|(apply am;exact rfl;exact rfl;exact rfl)|(apply aj;exact rfl;exact rfl;exact rfl)|(apply bT;exact rfl;exact rfl;exact rfl;exact rfl;(focus(omega));(focus(omega)))|(refine di rfl rfl rfl (F.ag _ rfl) u1 (br (by exact e1) (by omega)) ?_)|(apply cb;exact rfl;exact rfl;exact(F.un _ rfl);exact(F.sz _ rfl);exact rfl;exact(F.ze _ rfl);exact rfl;exact rfl;exact rfl;exact rfl;exact rfl)|refine gu (b:=8) (xs:=ls) (a:=l[m]) rfl rfl rfl rfl (F.un _ rfl) (.inl ⟨_,F.un _ rfl⟩) (F.sz _ rfl) rfl (by kernel_rfl) (by kernel_rfl) (by(repeat(first|assumption|refine(Tr.aa _ _ (by omega)).trans ?_));done) (by(repeat(exact Tr.ae _ _ _));done) (by exact rfl) (rY) (by omega) (by omega) ?_))
      refine ih _ _ _ (m+1,n1+1) ⟨hmq,by simp only;omega,by simp only;omega,by simp only [hsn];exact Tr.ae _ _ _,fun n hn=>?_⟩ (by simp only;omega) (SlIn.sub (by simp only [hsn];exact(by repeat(first|exact trivial|refine⟨rfl,?_⟩))))
      exact(Tr.aa _ _ (by omega)).trans ((Tr.aF _ (by omega)).trans ((Tr.aa _ _ (by omega)).trans (g4 n hn)))
     ·rw [if_pos (by omega),List.append_nil] at hsn
      (repeat(first|refine ai ?_|refine ah ?_|refine aM ?_|refine aN ?_|refine ay rfl ?_|(apply am;exact rfl;exact rfl;exact rfl)|(apply aj;exact rfl;exact rfl;exact rfl)|(apply bT;exact rfl;exact rfl;exact rfl;exact rfl;(focus(omega));(focus(omega)))))
      refine ih _ _ _ (m+1,nm) ⟨hmq,g1,g2,by simp only [hsn];exact g3,g4⟩ (by simp only;omega) (SlIn.sub (by simp only [hsn];exact(by repeat(first|exact trivial|refine⟨rfl,?_⟩))))
    ·clear ih
     have hie:m=l.length:=by omega
     subst hie
     rw [List.take_length] at g3 ⊢
     (repeat(first|refine ai ?_|refine ah ?_|refine bA rfl ?_|refine ay rfl ?_|(apply am;exact rfl;exact rfl;exact rfl)|(apply aJ;exact rfl;exact rfl;exact rfl)|(apply au;exact rfl;exact rfl;exact rfl;exact(F.fo _ _ rfl rfl))|refine aL rfl rfl rfl (F.ag _ rfl) (by assumption) (by exact rfl) ?_|refine c7 (q:=i) rfl rfl rfl rfl (F.un _ rfl) (F.sz _ rfl) (by assumption) (by omega) (by first|omega|(simp;done)) (zP _) ?_|(refine ka rfl rfl rfl rfl (F.sz _ rfl) hrow1 rfl (by omega) (by omega) rfl ?_)))
     refine out _ _ _ () ⟨⟨_,_,sw hV hFw hFr hrt hq he (l.filter fun x=>decide (x≠o)) nm n1 g1 g2 ((Tr.aa _ _ (by omega)).trans (g4 t htn)) (Tr.ae _ _ _) ((Tr.aa _ _ (by omega)).trans g3) (fun n hn hnr=>(Tr.aa _ _ hnr).trans (g4 n hn)),?_⟩,by omega,fun n hn hnt hnr=>(Tr.aa _ _ hnr).trans (g4 n hn)⟩ (SlIn.sub (by repeat(first|exact trivial|refine⟨rfl,?_⟩)))
     rw [hlv]
     exact tH hq he hno _
 ·rintro⟨⟩ H1 n1 ⟨hW1,hn1,hfr1⟩
  obtain⟨hnd1,hlen1⟩:=s9 hnd o
  have hsh:oO (dA W o) 1000000:=nu hll o
  have hbk:gH W o mark=fU ((dt (dA W o) o).drop mark).reverse (dA W o) []:=rfl
  rw [hbk]
  generalize hWW:dA W o=W1 at hW1 hnd1 hlen1 hsh ⊢
  (repeat(first|refine ao ?_|refine ai ?_|refine ah ?_|(apply am;exact rfl;exact rfl;exact rfl)|(apply aj;exact rfl;exact rfl;exact rfl)))
  refine co 1 23 (d:=12) (by(repeat(first|exact Tr.ae _ _ _|refine(Tr.aa _ _ (by omega)).trans ?_));done) rfl ?_
  have hkey:=tV (nx:=n1+1) (hW1.frame (H':=H1.set n1 (dat false 0 1 23 [])) fun n hn=>Tr.aa _ _ (by have:=hn.2;omega)) (fun n hn=>by have:=hn.2;omega) o (by omega)
  refine bn rfl rfl rfl (by kernel_rfl) (Fnc.mono hkey ?_)
  rintro⟨_,H2,n2⟩ ⟨kr,rfl,k1,k2,k3,k4,k5⟩
  dsimp only at k1 k3 k4 k5 ⊢
  have hKn:=vL hnd1 o
  have hKh: ∀ k∈dt W1 o,(bE W1 k).isSome:=fun k hk=>ta hk
  have hKl:=nv (W:=W1) (o:=o)
  generalize hK:dt W1 o=K at k1 hKn hKh hKl ⊢
  have hcm0:H2.at' n1=some (uR false []):=(k5 n1 (by omega)).trans (Tr.ae _ _ _)
  have hlow: ∀ n,n<n1→H2.at' n=H1.at' n:=fun n hn=>(k5 n (by omega)).trans (Tr.aa _ _ (by omega))
  (repeat(first|refine ao ?_|refine ai ?_|refine ah ?_|refine aT ?_|(apply am;exact rfl;exact rfl;exact rfl)|(apply aj;exact rfl;exact rfl;exact rfl)|(apply cr;exact rfl;exact rfl;exact rfl;exact(F.un _ rfl))|(apply dB;exact rfl;exact rfl;exact rfl;exact rfl;(focus(omega));(focus(omega)))))
  refine ch (α:=RT×List Nat×Nat×Nat×Nat) (fun x=> [(0,.ptr t 0),(2,.sc (.int .i64 (mark:Int))),(12,.slu x.2.2.1 0 x.2.1.length),(13,.slu kr 0 K.length),(14,.sc (.int .i64 ((x.2.2.2.1:Int)-1)))])
   (fun x H3 n3=>x.2.2.2.1≤K.length∧(mark≤x.2.2.2.1∨x.2.2.2.1=K.length)∧fU (K.drop x.2.2.2.1).reverse W1 []=(x.1,x.2.1)∧(∃ F3:Nat→Prop,WAt t x.2.2.2.2 x.1 F3 H3∧ ∀ n,F3 n→(Fw n∨nx≤n)∧n<n3∧n≠kr∧n≠x.2.2.1)∧(x.2.2.2.2=r∨nx≤x.2.2.2.2)∧x.2.2.2.2<n3∧nx≤x.2.2.1∧x.2.2.1<n3∧H3.at' x.2.2.1=some (uR false x.2.1)∧x.2.2.1≠kr∧kr<n3∧H3.at' kr=some (sR false K)∧ ∀ n,n<nx→n≠t→n≠r→H3.at' n=H.at' n)
   (fun x=>x.2.2.2.1) (W1,[],n1,K.length,r) ⟨zP _,.inr rfl,by simp only [List.drop_length];rfl,⟨_,hW1.frame fun n hn=>hlow n hn.2,fun n hn=>⟨hn.1,by have:=hn.2;first|omega|(simp only;omega),by have:=hn.2;omega,by have:=hn.2;first|omega|(simp only;omega)⟩⟩,.inl rfl,by first|omega|(simp only;omega),hn1,by first|omega|(simp only;omega),hcm0,by first|omega|(simp only;omega),k3,k1,fun n hn hnt hnr=>(hlow n (by omega)).trans (hfr1 n hn hnt hnr)⟩ (SlIn.sub (by repeat(first|exact trivial|refine⟨rfl,?_⟩))) ?_
  rintro⟨Wj,came,cm,j,rj⟩ H3 n3 ⟨a1,a2,a3,⟨F3,a4,a5⟩,a6,a7,a8,a9,a10,a11,a12,a13,a14⟩ ih
  simp only at a1 a2 a3 a4 a5 a6 a7 a8 a9 a10 a11 ih ⊢
  have b2:Hid (mark≤j∨j=K.length):=a2
  have b6:Hid (rj=r∨nx≤rj):=a6
  have b11:Hid (cm≠kr):=a11
  clear a2 a6 a11
  have hKd:(K.drop j).reverse.Nodup:=(List.reverse_perm _).nodup_iff.2 ((List.drop_sublist j K).nodup hKn)
  have hpl:=nq (K.drop j).reverse (W:=W1) [] hnd1 hKd (fun k hk=>hKh k (List.mem_of_mem_drop (List.mem_reverse.1 hk)))
  have hps:=kD (K.drop j).reverse (W:=W1) [] hsh
  rw [a3] at hpl hps
  simp only [List.length_reverse,List.length_drop,List.length_nil] at hpl hps
  obtain⟨hpl1,hpl2⟩:=hpl
  replace hpl2:came.length≤K.length:=by omega
  (repeat(first|refine ao ?_|refine ai ?_|(apply am;exact rfl;exact rfl;exact rfl)))
  (apply dQ;exact rfl;exact rfl;exact rfl;exact rfl)
  all_goals intro h1
  ·obtain⟨jj,rfl⟩: ∃ jj,j=jj+1:=⟨j-1,by omega⟩
   have hj:jj<K.length:=by omega
   have hnotin:K[jj]∉(K.drop (jj+1)).reverse:=fun hin=>by
    have hd:=(List.drop_sublist jj K).nodup hKn
    rw [List.drop_eq_getElem_cons hj,List.nodup_cons] at hd
    exact hd.1 (List.mem_reverse.1 hin)
   have hmj:(bE Wj K[jj]).isSome:=by
    have:=nr (k':=K[jj]) (K.drop (jj+1)).reverse (W:=W1) [] hnd1 hnotin
    rw [a3] at this
    rw [this]
    exact hKh _ (zZ hj)
   have hnext:fU (K.drop jj).reverse W1 []=((gz Wj K[jj]).1,came ++ (gz Wj K[jj]).2):=by
    rw [List.drop_eq_getElem_cons hj,List.reverse_cons,lM,a3]
   obtain⟨⟨h,l⟩,hm⟩:=Option.isSome_iff_exists.1 hmj
   have hlenl:l.length<1000000:=hps _ (jH hm)
   have hat:=zr (nx:=n3) a4 K[jj] (by omega)
   obtain⟨s,V,hV,rfl⟩:=a4
   obtain⟨i,hq,he,hno⟩:=tJ hm
   have hkey':V[i].1.1=K[jj]:=by rw [he]
   have hline:V[i].1.2.2=l:=by rw [he]
   rw [lQ hq hkey' hno] at hat
   rw [List.length_map] at hpl1
   have hx:V[i]? =some V[i]:=zz hq
   obtain⟨hln,hfr⟩:=hV.lines V[i] (zZ hq)
   rw [hline] at hln
   have hone:=lT hln
   have hbox:=hV.box
   have ht3:t<n3:=(a5 t hV.own).2.1
   rcases hV.row with ⟨rfl,_⟩|⟨hne,rfl,hrow,hFr,hrt⟩
   ·simp at hq
   have hr3:rj<n3:=(a5 rj hFr).2.1
   have brt:Hid (rj≠t):=hrt
   clear hrt
   have hfl:=dv V
   (repeat(first|refine ao ?_|refine ai ?_|refine ah ?_|refine aT ?_|refine aN ?_|refine aD rfl ?_|(apply am;exact rfl;exact rfl;exact rfl)|refine c7 (q:=jj) rfl rfl rfl rfl (F.un _ rfl) (F.sz _ rfl) (by assumption) (by omega) (by first|omega|(simp;done)) (zP _) ?_|refine fE rfl rfl rfl (F.ag _ rfl) (by assumption) (at_s hj) (by first|omega|(simp;done)) ?_))
   refine bn rfl rfl rfl (by kernel_rfl) (Fnc.mono hat ?_)
   rintro _ rfl
   dsimp only
   (repeat(first|refine ao ?_|refine ai ?_|refine ah ?_|(apply am;exact rfl;exact rfl;exact rfl)|(apply aj;exact rfl;exact rfl;exact rfl)|(apply aJ;exact rfl;exact rfl;exact rfl)|(apply au;exact rfl;exact rfl;exact rfl;exact(F.fo _ _ rfl rfl))|(apply jC;exact rfl;exact rfl;exact(F.zl _ rfl))|refine aL rfl rfl rfl (F.ag _ rfl) (by assumption) (by exact rfl) ?_|refine c7 (q:=i) rfl rfl rfl rfl (F.un _ rfl) (F.sz _ rfl) (by assumption) (by omega) (by first|omega|(simp;done)) (zP _) ?_|(refine xl rfl rfl rfl (F.ag _ rfl) hrow (cT 3 (i*3) _ (de hx) rfl (by omega)) ?_)|(refine uX rfl rfl rfl (F.sz _ rfl) (by(repeat(first|assumption|exact Tr.ae _ _ _));done) rfl (by exact zB rfl) (pW hone) (by exact rfl) ?_)))
   refine fK (R:=fun H4 n4=>n4=n3+1∧H4.at' n3=some (aG 91 (vC V[i]))∧ ∀ n,n<n3→H4.at' n=H3.at' n) ⟨rfl,Tr.ae _ _ _,fun n hn=>by(focus((repeat(refine(Tr.aa _ _ (by omega)).trans ?_));exact rfl))⟩ ?_
   rintro H4 _ ⟨rfl,hnb,h43⟩
   have hpos:0<V.length:=by omega
   refine lF [] [] ((h43 t ht3).trans hbox) ((h43 rj hr3).trans hrow) hpos (by omega) fun C hC=>?_
   refine fK (R:=fun H6 n6=>n6=n3+1∧H6.at' t=some (aG 56 [.sl rj (0*3) V.length C])∧H6.at' rj=some (eU false V.length 3 91 (V.flatMap vC))∧ ∀ n,n<n3+1→n≠t→H6.at' n=H4.at' n) ⟨rfl,Tr.ae _ _ _,(Tr.aa _ _ brt).trans ((h43 rj hr3).trans hrow),fun n hn hnt=>Tr.aa _ _ hnt⟩ ?_
   rintro H6 _ ⟨rfl,hbox6,hrow6,h64⟩
   refine kq (α:=Unit) (fun _=> [(0,.ptr t 0),(2,.sc (.int .i64 (mark:Int))),(12,.slu cm 0 came.length),(13,.slu kr 0 K.length),(14,.sc (.int .i64 (((jj+1:Nat):Int)-1))),(16,.ptr n3 0)])
    (fun _ H5 n5=> ∃ s' r' F5,WV t r' s' (V.take i ++ V.drop (i+1)) F5 H5∧(∀ n,F5 n→(F3 n∨n3<n)∧n<n5)∧(r'=rj∨n3<r')∧r'<n5∧n3<n5∧ ∀ n,n<n3+1→n≠t→H5.at' n=H6.at' n) (fun kk out=>?_) ?_
   ·have hkeep: ∀ x∈V.take i ++ V.drop (i+1),∀ (H':aV) (r' n5:Nat) (F5:Nat→Prop),(∀ n,n<n3+1→n≠t→H'.at' n=H6.at' n)→n3<r'→(∀ n,F3 n→F5 n)→uT H' x.2 x.1.2.2∧ ∀ b,nmS x.2=some b→F5 b∧b≠t∧b≠r':=fun x hx H' r' n5 F5 g1 g2 g3=>by
     have hxV:x∈V:=by
      rcases List.mem_append.1 hx with hx|hx
      ·exact List.mem_of_mem_take hx
      ·exact List.mem_of_mem_drop hx
     obtain⟨u1,u2⟩:=hV.lines x hxV
     refine⟨SlOf.frame u1 fun b hb=>?_,fun b hb=>?_⟩
     ·obtain⟨z1,z2,z3⟩:=u2 b hb
      have:=a5 b z1
      exact(g1 b (by omega) z2).trans ((h64 b (by omega) z2).trans (h43 b this.2.1))
     ·obtain⟨z1,z2,z3⟩:=u2 b hb
      have:=a5 b z1
      exact⟨g3 b z1,z2,by omega⟩
    have ho1:(if C=0 then 0*3 else 0*3+0*3)=0*3:=by split <;> rfl
    have hflat:(V.take i ++ V.drop (i+1)).flatMap vC=(V.flatMap vC).take (i*3) ++ (V.flatMap vC).drop ((i+1)*3):=by
     rw [List.flatMap_append,rI (by omega),rK (by omega)]
    have blen:Hid ((V.take i ++ V.drop (i+1)).length=V.length-1):=by
     show(V.take i ++ V.drop (i+1)).length=V.length-1
     rw [zT,List.length_take,List.length_drop]
     omega
    have hones:bU (V.flatMap vC)=true:=eK.2 fun x hx=>by
     obtain⟨y,hy,hx⟩:=List.mem_flatMap.1 hx
     exact eK.1 (pW (lT (hV.lines y hy).1)) x hx
    have hone1: ∀ q m,bU (((V.flatMap vC).drop q).take m)=true:=fun q m=>jP hones fun x hx=>List.mem_of_mem_drop (List.mem_of_mem_take hx)
    have hT:((V.flatMap vC).drop ((i+1)*3)).take ((V.length-(i+1))*3)=(V.flatMap vC).drop ((i+1)*3):=zH (by rw [List.length_drop,hfl];omega)
    have hZ:((V.flatMap vC).drop (0*3)).take ((i-0)*3)=(V.flatMap vC).take (i*3):=by rw [Nat.zero_mul,List.drop_zero,Nat.sub_zero]
    have fin: ∀ (H5:aV) (n5 q m:Nat) (cells:List SV),m=V.length-1→0<m→(V.take i ++ V.drop (i+1)).flatMap vC=cells→n3<q→q<n5→H5.at' t=some (aG 56 [.slu q 0 m])→H5.at' q=some (eU false m 3 91 cells)→(∀ n,n<n3+1→n≠t→H5.at' n=H6.at' n) →
     ∃ s' r' F5,WV t r' s' (V.take i ++ V.drop (i+1)) F5 H5∧(∀ n,F5 n→(F3 n∨n3<n)∧n<n5)∧(r'=rj∨n3<r')∧r'<n5∧n3<n5∧ ∀ n,n<n3+1→n≠t→H5.at' n=H6.at' n:=fun H5 n5 q m cells hm0 hm1 hc g1 g2 g3 g4 g5=>
     ⟨_,q,fun n=>F3 n∨n=q,jS ((show(V.take i ++ V.drop (i+1)).length=V.length-1 from blen).trans hm0.symm) hm1 hc g3 g4 (by omega) (.inr rfl) (.inl hV.own) (fun x hx=>hkeep x hx H5 q n5 _ g5 g1 fun n hn=> .inl hn),
       fun n hn=>⟨hn.elim .inl fun e=> .inr (by omega),hn.elim (fun h=>by have:=(a5 n h).2.1;omega) fun e=>by omega⟩,.inr g1,g2,by omega,g5⟩
    rcases Nat.eq_zero_or_pos i with hi0|hi0
    ·subst hi0
     rcases Nat.eq_or_lt_of_le (show 0+1≤V.length by omega)with hi1|hi1
     ·
      (apply dJ;(focus(kernel_rfl));(focus(kernel_rfl)))
      (repeat(first|(apply aX;exact rfl;exact rfl;exact rfl)|(apply bD;exact rfl;exact rfl;exact rfl)|(apply bu;exact rfl;exact rfl;exact rfl;exact(F.fo _ _ rfl rfl))|(apply fD;exact rfl;exact rfl;exact rfl;exact rfl;(focus(omega));(focus(omega)))|refine en rfl rfl rfl rfl (F.sz _ rfl) (by first|exact rfl|assumption) rfl (by exact zB rfl) rfl ?_|refine bK rfl rfl rfl (F.ag _ rfl) (by assumption) (by exact rfl) ?_|(apply bv;exact rfl;exact rfl;exact(fun _ h=>by cases h);exact(bm (l:=0) (h:=0) (F.un _ rfl) (F.sz _ rfl) rfl bh (c8 rfl rfl) (zQ _) (zQ _) ho1))|(apply bv;exact rfl;exact rfl;exact(fun _ h=>by cases h);exact(bm (l:=0+1) (h:=V.length) (F.un _ rfl) (F.sz _ rfl) rfl (c8 rfl (by omega)) bh (by omega) hC rfl))|refine cR rfl rfl (fun _ h=>by cases h) (eH (F.un _ rfl) (.inl ⟨_,F.un _ rfl⟩) (F.sz _ rfl) (by decide) rfl rfl (gG (by assumption))) ?_|refine cR rfl rfl (fun _ h=>by cases h) (eH (F.un _ rfl) (.inl ⟨_,F.un _ rfl⟩) (F.sz _ rfl) (by decide) rfl rfl ((by rw [show V.length-(0+1)=0 from by omega];exact gG (by assumption)))) ?_))
      (refine be ?_);(refine⟨by kernel_rfl,?_,?_⟩);(focus(repeat(first|exact trivial|refine⟨.inl (ck rfl),?_⟩|refine⟨.inr ⟨0,by kernel_rfl,AllH.all (fun _=>(by first|exact aY rfl|exact ax rfl|exact aq (F.fo _ _ rfl rfl) rfl|exact aP (F.un _ rfl) rfl|exact aE rfl rfl|exact aH rfl|exact aU rfl (F.ze _ rfl) (F.pl _ rfl) rfl|exact bq rfl|exact aI (F.un _ rfl) rfl|exact aQ rfl rfl|exact aR rfl rfl|exact bi rfl rfl (.inr (.inr (.inr (.inr (.inl ⟨rfl,rfl⟩)))))|exact an rfl rfl (.inl ⟨rfl,(zx _ ⟨by omega,by omega⟩).symm⟩)|exact an rfl rfl (.inr (.inl ⟨rfl,(zx _ ⟨by omega,by omega⟩).symm⟩)))) _⟩,?_⟩|refine⟨.inr ⟨0,by kernel_rfl,(by(refine⟨(by first|exact aw (F.ag _ rfl) rfl (by(repeat(first|assumption|exact Tr.ae _ _ _));done) (az rfl)|exact aC (F.ag _ rfl) rfl (by assumption) (ak _ 0 rfl rfl)|exact aU rfl (F.ze _ rfl) (F.pl _ rfl) rfl|exact bm (l:=0) (h:=0) (F.un _ rfl) (F.sz _ rfl) rfl bh (c8 rfl rfl) (zQ _) (zQ _) ho1|exact bm (l:=0+1) (h:=V.length) (F.un _ rfl) (F.sz _ rfl) rfl (c8 rfl (by omega)) bh (by omega) hC rfl),?_⟩;(repeat(refine⟨(by first|exact aw (F.ag _ rfl) rfl (by assumption) (az rfl)|exact aC (F.ag _ rfl) rfl (by assumption) (ak _ 0 rfl rfl)|exact aU rfl (F.ze _ rfl) (F.pl _ rfl) rfl|exact bm (l:=0) (h:=0) (F.un _ rfl) (F.sz _ rfl) rfl bh (c8 rfl rfl) (zQ _) (zQ _) ho1|exact bm (l:=0+1) (h:=V.length) (F.un _ rfl) (F.sz _ rfl) rfl (c8 rfl (by omega)) bh (by omega) hC rfl),?_⟩));exact trivial))⟩,?_⟩|refine⟨.inr ⟨1,by kernel_rfl,(by(refine⟨(by first|exact aw (F.ag _ rfl) rfl (by assumption) (az rfl)|exact aC (F.ag _ rfl) rfl (by done) (ak _ 0 rfl rfl)|exact aU rfl (F.ze _ rfl) (F.pl _ rfl) rfl|exact bm (l:=0) (h:=0) (F.un _ rfl) (F.sz _ rfl) rfl bh (c8 rfl rfl) (zQ _) (zQ _) ho1|exact bm (l:=0+1) (h:=V.length) (F.un _ rfl) (F.sz _ rfl) rfl (c8 rfl (by omega)) bh (by omega) hC rfl),?_⟩;(repeat(refine⟨(by first|exact aw (F.ag _ rfl) rfl (by assumption) (az rfl)|exact aC (F.ag _ rfl) rfl (by done) (ak _ 0 rfl rfl)|exact aU rfl (F.ze _ rfl) (F.pl _ rfl) rfl|exact bm (l:=0) (h:=0) (F.un _ rfl) (F.sz _ rfl) rfl bh (c8 rfl rfl) (zQ _) (zQ _) ho1|exact bm (l:=0+1) (h:=V.length) (F.un _ rfl) (F.sz _ rfl) rfl (c8 rfl (by omega)) bh (by omega) hC rfl),?_⟩));exact trivial))⟩,?_⟩)))
      dsimp only
      have hnil:V.take 0 ++ V.drop (0+1)= []:=zL (by have:(V.take 0 ++ V.drop (0+1)).length=V.length-1:=blen;omega)
      refine out _ _ _ () ⟨.sc (.slice none 0 0),rj,F3,⟨by(focus((repeat(exact Tr.ae _ _ _));done)),.inl ⟨hnil,rfl⟩,fun x hx=>(by rw [hnil] at hx;cases hx),hV.own⟩,fun n hn=>⟨.inl hn,by have:=(a5 n hn).2.1;omega⟩,.inl rfl,by omega,by omega,fun n hn hnt=>by(focus((repeat(refine(Tr.aa _ _ (by omega)).trans ?_));exact rfl))⟩ (SlIn.sub (by repeat(first|exact trivial|refine⟨rfl,?_⟩)))
     ·have ho2:(if C=0+1 then 0*3 else 0*3+(0+1)*3)=(0+1)*3:=by rw [if_neg (by omega)]
      (apply dJ;(focus(kernel_rfl));(focus(kernel_rfl)))
      (repeat(first|(apply aX;exact rfl;exact rfl;exact rfl)|(apply bD;exact rfl;exact rfl;exact rfl)|(apply bu;exact rfl;exact rfl;exact rfl;exact(F.fo _ _ rfl rfl))|(apply fD;exact rfl;exact rfl;exact rfl;exact rfl;(focus(omega));(focus(omega)))|refine en rfl rfl rfl rfl (F.sz _ rfl) (by first|exact rfl|(focus((repeat(first|assumption|refine(Tr.aa _ _ (by omega)).trans ?_));done))) rfl (by exact zB rfl) rfl ?_|refine bK rfl rfl rfl (F.ag _ rfl) (by assumption) (by exact rfl) ?_|(apply bv;exact rfl;exact rfl;exact(fun _ h=>by cases h);exact(bm (l:=0) (h:=0) (F.un _ rfl) (F.sz _ rfl) rfl bh (c8 rfl rfl) (zQ _) (zQ _) ho1))|(apply bv;exact rfl;exact rfl;exact(fun _ h=>by cases h);exact(bm (l:=0+1) (h:=V.length) (F.un _ rfl) (F.sz _ rfl) rfl (c8 rfl (by omega)) bh (by omega) hC ho2))|refine cR rfl rfl (fun _ h=>by cases h) (eH (F.un _ rfl) (.inl ⟨_,F.un _ rfl⟩) (F.sz _ rfl) (by decide) rfl rfl (gG (by assumption))) ?_|refine cR rfl rfl (fun _ h=>by cases h) (ct (b:=48) (F.un _ rfl) (.inl ⟨_,F.un _ rfl⟩) (F.sz _ rfl) (by decide) (by kernel_rfl) (by kernel_rfl) rfl rfl (iJ (by assumption) hfl (by omega)) (by exact hone1 _ _) (by omega) (by omega) (by omega)) ?_))
      (refine be ?_);(refine⟨by kernel_rfl,?_,?_⟩);(focus(repeat(first|exact trivial|refine⟨.inl (ck rfl),?_⟩|refine⟨.inr ⟨0,by kernel_rfl,AllH.all (fun _=>(by first|exact aY rfl|exact ax rfl|exact aq (F.fo _ _ rfl rfl) rfl|exact aP (F.un _ rfl) rfl|exact aE rfl rfl|exact aH rfl|exact aU rfl (F.ze _ rfl) (F.pl _ rfl) rfl|exact bq rfl|exact aI (F.un _ rfl) rfl|exact aQ rfl rfl|exact aR rfl rfl|exact bi rfl rfl (.inr (.inr (.inr (.inr (.inl ⟨rfl,rfl⟩)))))|exact an rfl rfl (.inl ⟨rfl,(zx _ ⟨by omega,by omega⟩).symm⟩)|exact an rfl rfl (.inr (.inl ⟨rfl,(zx _ ⟨by omega,by omega⟩).symm⟩)))) _⟩,?_⟩|refine⟨.inr ⟨0,by kernel_rfl,(by(refine⟨(by first|exact aw (F.ag _ rfl) rfl (by(repeat(first|assumption|exact Tr.ae _ _ _));done) (az rfl)|exact aC (F.ag _ rfl) rfl (by assumption) (ak _ 0 rfl rfl)|exact aU rfl (F.ze _ rfl) (F.pl _ rfl) rfl|exact bm (l:=0) (h:=0) (F.un _ rfl) (F.sz _ rfl) rfl bh (c8 rfl rfl) (zQ _) (zQ _) ho1|exact bm (l:=0+1) (h:=V.length) (F.un _ rfl) (F.sz _ rfl) rfl (c8 rfl (by omega)) bh (by omega) hC ho2),?_⟩;(repeat(refine⟨(by first|exact aw (F.ag _ rfl) rfl (by assumption) (az rfl)|exact aC (F.ag _ rfl) rfl (by assumption) (ak _ 0 rfl rfl)|exact aU rfl (F.ze _ rfl) (F.pl _ rfl) rfl|exact bm (l:=0) (h:=0) (F.un _ rfl) (F.sz _ rfl) rfl bh (c8 rfl rfl) (zQ _) (zQ _) ho1|exact bm (l:=0+1) (h:=V.length) (F.un _ rfl) (F.sz _ rfl) rfl (c8 rfl (by omega)) bh (by omega) hC ho2),?_⟩));exact trivial))⟩,?_⟩|refine⟨.inr ⟨1,by kernel_rfl,(by(refine⟨(by first|exact aw (F.ag _ rfl) rfl (by(repeat(first|assumption|refine(Tr.aa _ _ (by omega)).trans ?_));done) (az rfl)|exact aC (F.ag _ rfl) rfl (by done) (ak _ 0 rfl rfl)|exact aU rfl (F.ze _ rfl) (F.pl _ rfl) rfl|exact bm (l:=0) (h:=0) (F.un _ rfl) (F.sz _ rfl) rfl bh (c8 rfl rfl) (zQ _) (zQ _) ho1|exact bm (l:=0+1) (h:=V.length) (F.un _ rfl) (F.sz _ rfl) rfl (c8 rfl (by omega)) bh (by omega) hC ho2),?_⟩;(repeat(refine⟨(by first|exact aw (F.ag _ rfl) rfl (by assumption) (az rfl)|exact aC (F.ag _ rfl) rfl (by done) (ak _ 0 rfl rfl)|exact aU rfl (F.ze _ rfl) (F.pl _ rfl) rfl|exact bm (l:=0) (h:=0) (F.un _ rfl) (F.sz _ rfl) rfl bh (c8 rfl rfl) (zQ _) (zQ _) ho1|exact bm (l:=0+1) (h:=V.length) (F.un _ rfl) (F.sz _ rfl) rfl (c8 rfl (by omega)) bh (by omega) hC ho2),?_⟩));exact trivial))⟩,?_⟩)))
      dsimp only
      refine out _ _ _ () (fin _ _ (n3+1) (V.length-(0+1)) (((V.flatMap vC).drop ((0+1)*3)).take ((V.length-(0+1))*3)) (by omega) (by omega) (by rw [hflat,hT];simp) (by omega) (by omega) (by(repeat(exact Tr.ae _ _ _));done) (by(repeat(first|exact Tr.ae _ _ _|refine(Tr.aa _ _ (by omega)).trans ?_));done) (fun n hn hnt=>by(focus((repeat(refine(Tr.aa _ _ (by omega)).trans ?_));exact rfl)))) (SlIn.sub (by repeat(first|exact trivial|refine⟨rfl,?_⟩)))
    ·rcases Nat.eq_or_lt_of_le (show i+1≤V.length by omega)with hi1|hi1
     ·(apply dJ;(focus(kernel_rfl));(focus(kernel_rfl)))
      (repeat(first|(apply aX;exact rfl;exact rfl;exact rfl)|(apply bD;exact rfl;exact rfl;exact rfl)|(apply bu;exact rfl;exact rfl;exact rfl;exact(F.fo _ _ rfl rfl))|(apply fD;exact rfl;exact rfl;exact rfl;exact rfl;(focus(omega));(focus(omega)))|refine en rfl rfl rfl rfl (F.sz _ rfl) (by first|exact rfl|(focus((repeat(first|assumption|refine(Tr.aa _ _ (by omega)).trans ?_));done))) rfl (by exact zB rfl) rfl ?_|refine bK rfl rfl rfl (F.ag _ rfl) (by(repeat(first|assumption|refine(Tr.aa _ _ (by omega)).trans ?_));done) (by exact rfl) ?_|(apply bv;exact rfl;exact rfl;exact(fun _ h=>by cases h);exact(bm (l:=0) (h:=i) (F.un _ rfl) (F.sz _ rfl) rfl bh (c8 rfl rfl) (zQ _) (by omega) ho1))|(apply bv;exact rfl;exact rfl;exact(fun _ h=>by cases h);exact(bm (l:=i+1) (h:=V.length) (F.un _ rfl) (F.sz _ rfl) rfl (c8 rfl (by omega)) bh (by omega) hC rfl))|refine cR rfl rfl (fun _ h=>by cases h) (ct (b:=48) (F.un _ rfl) (.inl ⟨_,F.un _ rfl⟩) (F.sz _ rfl) (by decide) (by kernel_rfl) (by kernel_rfl) rfl rfl (iJ (by assumption) hfl (by omega)) (by exact hone1 _ _) (by omega) (by omega) (by omega)) ?_|refine cR rfl rfl (fun _ h=>by cases h) (pk (F.un _ rfl) (.inl ⟨_,F.un _ rfl⟩) (F.sz _ rfl) (by decide) rfl rfl (by(repeat(exact Tr.ae _ _ _));done) (zP _) (by rw [show V.length-(i+1)=0 from by omega];exact gG (by(repeat(first|assumption|refine(Tr.aa _ _ (by omega)).trans ?_));done))) ?_))
      (refine be ?_);(refine⟨by kernel_rfl,?_,?_⟩);(focus(repeat(first|exact trivial|refine⟨.inl (ck rfl),?_⟩|refine⟨.inr ⟨0,by kernel_rfl,AllH.all (fun _=>(by first|exact aY rfl|exact ax rfl|exact aq (F.fo _ _ rfl rfl) rfl|exact aP (F.un _ rfl) rfl|exact aE rfl rfl|exact aH rfl|exact aU rfl (F.ze _ rfl) (F.pl _ rfl) rfl|exact bq rfl|exact aI (F.un _ rfl) rfl|exact aQ rfl rfl|exact aR rfl rfl|exact bi rfl rfl (.inr (.inr (.inr (.inr (.inl ⟨rfl,rfl⟩)))))|exact an rfl rfl (.inl ⟨rfl,(zx _ ⟨by omega,by omega⟩).symm⟩)|exact an rfl rfl (.inr (.inl ⟨rfl,(zx _ ⟨by omega,by omega⟩).symm⟩)))) _⟩,?_⟩|refine⟨.inr ⟨0,by kernel_rfl,(by(refine⟨(by first|exact aw (F.ag _ rfl) rfl (by(repeat(first|assumption|exact Tr.ae _ _ _));done) (az rfl)|exact aC (F.ag _ rfl) rfl (by assumption) (ak _ 0 rfl rfl)|exact aU rfl (F.ze _ rfl) (F.pl _ rfl) rfl|exact bm (l:=0) (h:=i) (F.un _ rfl) (F.sz _ rfl) rfl bh (c8 rfl rfl) (zQ _) (by omega) ho1|exact bm (l:=i+1) (h:=V.length) (F.un _ rfl) (F.sz _ rfl) rfl (c8 rfl (by omega)) bh (by omega) hC rfl),?_⟩;(repeat(refine⟨(by first|exact aw (F.ag _ rfl) rfl (by assumption) (az rfl)|exact aC (F.ag _ rfl) rfl (by assumption) (ak _ 0 rfl rfl)|exact aU rfl (F.ze _ rfl) (F.pl _ rfl) rfl|exact bm (l:=0) (h:=i) (F.un _ rfl) (F.sz _ rfl) rfl bh (c8 rfl rfl) (zQ _) (by omega) ho1|exact bm (l:=i+1) (h:=V.length) (F.un _ rfl) (F.sz _ rfl) rfl (c8 rfl (by omega)) bh (by omega) hC rfl),?_⟩));exact trivial))⟩,?_⟩|refine⟨.inr ⟨1,by kernel_rfl,(by(refine⟨(by first|exact aw (F.ag _ rfl) rfl (by(repeat(first|assumption|refine(Tr.aa _ _ (by omega)).trans ?_));done) (az rfl)|exact aC (F.ag _ rfl) rfl (by done) (ak _ 0 rfl rfl)|exact aU rfl (F.ze _ rfl) (F.pl _ rfl) rfl|exact bm (l:=0) (h:=i) (F.un _ rfl) (F.sz _ rfl) rfl bh (c8 rfl rfl) (zQ _) (by omega) ho1|exact bm (l:=i+1) (h:=V.length) (F.un _ rfl) (F.sz _ rfl) rfl (c8 rfl (by omega)) bh (by omega) hC rfl),?_⟩;(repeat(refine⟨(by first|exact aw (F.ag _ rfl) rfl (by(repeat(first|assumption|refine(Tr.aa _ _ (by omega)).trans ?_));done) (az rfl)|exact aC (F.ag _ rfl) rfl (by done) (ak _ 0 rfl rfl)|exact aU rfl (F.ze _ rfl) (F.pl _ rfl) rfl|exact bm (l:=0) (h:=i) (F.un _ rfl) (F.sz _ rfl) rfl bh (c8 rfl rfl) (zQ _) (by omega) ho1|exact bm (l:=i+1) (h:=V.length) (F.un _ rfl) (F.sz _ rfl) rfl (c8 rfl (by omega)) bh (by omega) hC rfl),?_⟩));exact trivial))⟩,?_⟩)))
      dsimp only
      refine out _ _ _ () (fin _ _ (n3+1) (i-0) (((V.flatMap vC).drop (0*3)).take ((i-0)*3)) (by omega) (by omega) (by rw [hflat,hZ,List.drop_eq_nil_of_le (by rw [hfl];omega),List.append_nil]) (by omega) (by omega) (by(repeat(exact Tr.ae _ _ _));done) (by(repeat(first|exact Tr.ae _ _ _|refine(Tr.aa _ _ (by omega)).trans ?_));done) (fun n hn hnt=>by(focus((repeat(refine(Tr.aa _ _ (by omega)).trans ?_));exact rfl)))) (SlIn.sub (by repeat(first|exact trivial|refine⟨rfl,?_⟩)))
     ·have ho2:(if C=i+1 then 0*3 else 0*3+(i+1)*3)=(i+1)*3:=by rw [if_neg (by omega)];omega
      (apply dJ;(focus(kernel_rfl));(focus(kernel_rfl)))
      (repeat(first|(apply aX;exact rfl;exact rfl;exact rfl)|(apply bD;exact rfl;exact rfl;exact rfl)|(apply bu;exact rfl;exact rfl;exact rfl;exact(F.fo _ _ rfl rfl))|(apply fD;exact rfl;exact rfl;exact rfl;exact rfl;(focus(omega));(focus(omega)))|refine en rfl rfl rfl rfl (F.sz _ rfl) (by first|exact rfl|(focus((repeat(first|assumption|refine(Tr.aa _ _ (by omega)).trans ?_|refine(Tr.aF _ (by omega)).trans ?_));done))) rfl (by exact zB rfl) rfl ?_|refine bK rfl rfl rfl (F.ag _ rfl) (by(repeat(first|assumption|refine(Tr.aa _ _ (by omega)).trans ?_));done) (by exact rfl) ?_|(apply bv;exact rfl;exact rfl;exact(fun _ h=>by cases h);exact(bm (l:=0) (h:=i) (F.un _ rfl) (F.sz _ rfl) rfl bh (c8 rfl rfl) (zQ _) (by omega) ho1))|(apply bv;exact rfl;exact rfl;exact(fun _ h=>by cases h);exact(bm (l:=i+1) (h:=V.length) (F.un _ rfl) (F.sz _ rfl) rfl (c8 rfl (by omega)) bh (by omega) hC ho2))|refine cR rfl rfl (fun _ h=>by cases h) (ct (b:=48) (F.un _ rfl) (.inl ⟨_,F.un _ rfl⟩) (F.sz _ rfl) (by decide) (by kernel_rfl) (by kernel_rfl) rfl rfl (iJ (by(repeat(first|assumption|refine(Tr.aa _ _ (by omega)).trans ?_));done) hfl (by omega)) (by exact hone1 _ _) (by omega) (by omega) (by omega)) ?_|refine cR rfl rfl (fun _ h=>by cases h) (iU (b:=48) (F.un _ rfl) (.inl ⟨_,F.un _ rfl⟩) (F.sz _ rfl) (by decide) (by kernel_rfl) (by kernel_rfl) rfl rfl (by(repeat(first|assumption|exact Tr.ae _ _ _));done) (by rw [List.length_take,List.length_drop,hfl];omega) (iJ (by(repeat(first|assumption|refine(Tr.aa _ _ (by omega)).trans ?_));done) hfl (by omega)) (by exact hone1 _ _) (by omega) (by omega) (by omega)) ?_))
      (refine be ?_);(refine⟨by kernel_rfl,?_,?_⟩);(focus(repeat(first|exact trivial|refine⟨.inl (ck rfl),?_⟩|refine⟨.inr ⟨0,by kernel_rfl,AllH.all (fun _=>(by first|exact aY rfl|exact ax rfl|exact aq (F.fo _ _ rfl rfl) rfl|exact aP (F.un _ rfl) rfl|exact aE rfl rfl|exact aH rfl|exact aU rfl (F.ze _ rfl) (F.pl _ rfl) rfl|exact bq rfl|exact aI (F.un _ rfl) rfl|exact aQ rfl rfl|exact aR rfl rfl|exact bi rfl rfl (.inr (.inr (.inr (.inr (.inl ⟨rfl,rfl⟩)))))|exact an rfl rfl (.inl ⟨rfl,(zx _ ⟨by omega,by omega⟩).symm⟩)|exact an rfl rfl (.inr (.inl ⟨rfl,(zx _ ⟨by omega,by omega⟩).symm⟩)))) _⟩,?_⟩|refine⟨.inr ⟨0,by kernel_rfl,(by(refine⟨(by first|exact aw (F.ag _ rfl) rfl (by(repeat(first|assumption|exact Tr.ae _ _ _));done) (az rfl)|exact aC (F.ag _ rfl) rfl (by assumption) (ak _ 0 rfl rfl)|exact aU rfl (F.ze _ rfl) (F.pl _ rfl) rfl|exact bm (l:=0) (h:=i) (F.un _ rfl) (F.sz _ rfl) rfl bh (c8 rfl rfl) (zQ _) (by omega) ho1|exact bm (l:=i+1) (h:=V.length) (F.un _ rfl) (F.sz _ rfl) rfl (c8 rfl (by omega)) bh (by omega) hC ho2),?_⟩;(repeat(refine⟨(by first|exact aw (F.ag _ rfl) rfl (by assumption) (az rfl)|exact aC (F.ag _ rfl) rfl (by assumption) (ak _ 0 rfl rfl)|exact aU rfl (F.ze _ rfl) (F.pl _ rfl) rfl|exact bm (l:=0) (h:=i) (F.un _ rfl) (F.sz _ rfl) rfl bh (c8 rfl rfl) (zQ _) (by omega) ho1|exact bm (l:=i+1) (h:=V.length) (F.un _ rfl) (F.sz _ rfl) rfl (c8 rfl (by omega)) bh (by omega) hC ho2),?_⟩));exact trivial))⟩,?_⟩|refine⟨.inr ⟨1,by kernel_rfl,(by(refine⟨(by first|exact aw (F.ag _ rfl) rfl (by(repeat(first|assumption|refine(Tr.aa _ _ (by omega)).trans ?_|refine(Tr.aF _ (by omega)).trans ?_));done) (az rfl)|exact aC (F.ag _ rfl) rfl (by done) (ak _ 0 rfl rfl)|exact aU rfl (F.ze _ rfl) (F.pl _ rfl) rfl|exact bm (l:=0) (h:=i) (F.un _ rfl) (F.sz _ rfl) rfl bh (c8 rfl rfl) (zQ _) (by omega) ho1|exact bm (l:=i+1) (h:=V.length) (F.un _ rfl) (F.sz _ rfl) rfl (c8 rfl (by omega)) bh (by omega) hC ho2),?_⟩;(repeat(refine⟨(by first|exact aw (F.ag _ rfl) rfl (by(repeat(first|assumption|refine(Tr.aa _ _ (by omega)).trans ?_));done) (az rfl)|exact aC (F.ag _ rfl) rfl (by done) (ak _ 0 rfl rfl)|exact aU rfl (F.ze _ rfl) (F.pl _ rfl) rfl|exact bm (l:=0) (h:=i) (F.un _ rfl) (F.sz _ rfl) rfl bh (c8 rfl rfl) (zQ _) (by omega) ho1|exact bm (l:=i+1) (h:=V.length) (F.un _ rfl) (F.sz _ rfl) rfl (c8 rfl (by omega)) bh (by omega) hC ho2),?_⟩));exact trivial))⟩,?_⟩)))
      dsimp only
      refine out _ _ _ () (fin _ _ (n3+2) ((i-0)+(V.length-(i+1))) (((V.flatMap vC).drop (0*3)).take ((i-0)*3) ++ ((V.flatMap vC).drop ((i+1)*3)).take ((V.length-(i+1))*3)) (by omega) (by omega) (by rw [hflat,hZ,hT]) (by omega) (by omega) (by(repeat(exact Tr.ae _ _ _));done) (by(repeat(first|exact Tr.ae _ _ _|refine(Tr.aa _ _ (by omega)).trans ?_));done) (fun n hn hnt=>by(focus((repeat(first|refine(Tr.aa _ _ (by omega)).trans ?_|refine(Tr.aF _ (by omega)).trans ?_));exact rfl)))) (SlIn.sub (by repeat(first|exact trivial|refine⟨rfl,?_⟩)))
   ·rintro⟨⟩ H5 n5 ⟨s',r',F5,hV5,hF5,hr5,hr5',hn5,h56⟩
    obtain⟨_,ht3',htk,htc⟩:=a5 t hV.own
    have low5: ∀ n,n<n3→n≠t→H5.at' n=H3.at' n:=fun n hn hnt=>(h56 n (by omega) hnt).trans ((h64 n (by omega) hnt).trans (h43 n hn))
    have hnb5:H5.at' n3=some (aG 91 (vC V[i])):=(h56 n3 (by omega) (by omega)).trans ((h64 n3 (by omega) (by omega)).trans hnb)
    have hcm5:=(low5 cm a9 (Ne.symm htc)).trans a10
    have hkr5:=(low5 kr a12 (Ne.symm htk)).trans a13
    have hln5:SlOf H5 1 23 V[i].2 l.length (uC l):=SlOf.frame hln fun b hb=>low5 b (a5 b (hfr b hb).1).2.1 (hfr b hb).2.1
    have hmd:=xW hq he hno
    have btk:Hid (t≠kr∧t≠cm):=⟨htk,htc⟩
    have bhr5:Hid (r'=rj∨n3<r'):=hr5
    clear htk htc hr5
    have hF5': ∀ n,F5 n→(Fw n∨nx≤n)∧n≠kr∧n≠cm∧n<n5∧n≠n3:=fun n hn=>by
     obtain⟨g1,g2⟩:=hF5 n hn
     rcases g1 with g1|g1
     ·obtain⟨y1,y2,y3,y4⟩:=a5 n g1
      exact⟨y1,y3,y4,g2,by omega⟩
     ·exact⟨.inr (by omega),by omega,by omega,g2,by omega⟩
    have hrr:Hid (r'=r∨nx≤r'):=by
     rcases bhr5 with e|e
     ·rw [e];exact b6
     ·exact .inr (by omega)
    rcases l with _|⟨n,rest⟩
    ·have hpop:gz (V.map (·.1)) K[jj]=(dO (V.map (·.1)) K[jj],[]):=vJ hm
     rw [hpop] at hnext
     (repeat(first|refine ao ?_|refine ai ?_|(apply au;exact rfl;exact rfl;exact rfl;exact(F.fo _ _ rfl rfl))|refine aL rfl rfl rfl (F.ag _ rfl) (by assumption) (by exact rfl) ?_|(refine dC rfl rfl rfl (F.un _ rfl) hln5 ?_)))
     refine gv rfl rfl rfl rfl (fun hq'=>absurd hq' (by simp)) (fun _=>?_)
     (repeat(first|refine ai ?_|refine ah ?_|refine aM ?_|refine aN ?_|refine ay rfl ?_|(apply am;exact rfl;exact rfl;exact rfl)|(apply aj;exact rfl;exact rfl;exact rfl)|(apply dB;exact rfl;exact rfl;exact rfl;exact rfl;(focus(omega));(focus(omega)))))
     refine ih _ _ _ (dO (V.map (·.1)) K[jj],came,cm,jj,r') ⟨by simp only;omega,.inl (by simp only;omega),by simp only;rw [hnext,List.append_nil],⟨F5,⟨_,_,hV5,hmd⟩,fun m hm'=>⟨(hF5' m hm').1,(hF5' m hm').2.2.2.1,(hF5' m hm').2.1,(hF5' m hm').2.2.1⟩⟩,hrr,hr5',a8,by simp only;omega,hcm5,b11,by omega,hkr5,fun m hm' hmt hmr=>(low5 m (by omega) hmt).trans (a14 m hm' hmt hmr)⟩ (by simp only;omega) (SlIn.sub (by repeat(first|exact trivial|refine⟨rfl,?_⟩|refine⟨dS (by first|omega|(simp only;omega)),?_⟩)))
    ·have hpop:gz (V.map (·.1)) K[jj]=(dO (V.map (·.1)) K[jj] ++ [(K[jj],(n,rest))],[n]):=s8 hm
     rw [hpop] at hnext
     (repeat(first|refine ao ?_|refine ai ?_|(apply au;exact rfl;exact rfl;exact rfl;exact(F.fo _ _ rfl rfl))|refine aL rfl rfl rfl (F.ag _ rfl) (by assumption) (by exact rfl) ?_|(refine dC rfl rfl rfl (F.un _ rfl) hln5 ?_)))
     refine gv rfl rfl rfl rfl (fun _=>?_) (fun hq'=>absurd hq' (by simp only [zS];omega))
     (repeat(first|refine ao ?_|refine ah ?_|refine aD rfl ?_))
     refine xg (R:=fun H7 n7=>n5=n7∧ ∃ lr eo ne rl C,rest.length+1≤C∧H7.at' n3=some (aG 91 [.sc (.string K[jj]),.sc (.int .u64 (h:Int)),.sl lr (eo*1) (rest.length+1) C])∧H7.at' lr=some (eU false ne 1 23 rl)∧(rl.drop (eo*1)).take ((rest.length+1)*1)=uC (n :: rest)∧eo+(rest.length+1)≤ne∧rl.length=ne*1∧lr<n3∧F3 lr∧lr≠t∧lr≠rj∧ ∀ m,m≠n3→H7.at' m=H5.at' m) (fun cont=>?_) ?_
     ·obtain⟨_,⟨h0,_⟩|⟨lr,eo,ne,rl,hs,hb,hc,hle',hrl⟩⟩:=hln5
      ·simp at h0
      ·have hlr:=hfr lr (by rcases hs with e|⟨C,_,e⟩ <;> rw [e] <;> rfl)
       have hlr3:=(a5 lr hlr.1).2.1
       have hvc:vC V[i]= [.sc (.string K[jj]),.sc (.int .u64 (h:Int)),V[i].2]:=by
        show [SV.sc (.string V[i].1.1),SV.sc (.int .u64 (V[i].1.2.1:Int)),V[i].2]=_
        rw [he]
       rw [hvc] at hnb5
       rcases hs with e|⟨C,hC',e⟩
       ·rw [e] at hnb5
        refine lF [.sc (.string K[jj]),.sc (.int .u64 (h:Int))] [] hnb5 hb (by simp only [zS] at hle';omega) hle' fun C hC'=>?_
        exact cont _ _ ⟨rfl,lr,eo,ne,rl,C,hC',Tr.ae _ _ _,(Tr.aa _ _ (by omega)).trans hb,hc,hle',hrl,hlr3,hlr.1,hlr.2.1,hlr.2.2,fun m hm'=>Tr.aa _ _ hm'⟩
       ·rw [e] at hnb5
        exact cont _ _ ⟨rfl,lr,eo,ne,rl,C,hC',hnb5,hb,hc,hle',hrl,hlr3,hlr.1,hlr.2.1,hlr.2.2,fun m hm'=>rfl⟩
     rintro H7 _ ⟨rfl,lr,eo,ne,rl,C7,hC7,d1,d2,d3,d4,d5,d6,d7,d8,d9,d10⟩
     have bd:Hid (lr≠t∧lr≠rj):=⟨d8,d9⟩
     clear d8 d9
     have hV7:=hV5.frame fun m hm'=>d10 m (hF5' m hm').2.2.2.2
     have hbox7:=hV7.box
     have hcell0:rl[eo*1+0*1]? =some (.sc (.int .u64 (n:Int))):=by
      have:=congrArg (·[0]?) d3
      simp only [List.getElem?_take,List.getElem?_drop] at this
      simpa using this
     have hsl7:SlOf H7 1 23 (.sl lr (eo*1) (rest.length+1) C7) (rest.length+1) (uC (n :: rest)):=⟨by simp,.inr ⟨lr,eo,ne,rl,.inr ⟨C7,hC7,rfl⟩,d2,d3,d4,d5⟩⟩
     have hrest: ∀ H',H'.at' lr=some (eU false ne 1 23 rl)→uT H' (.sl lr (if C7=1 then eo*1 else eo*1+1*1) (rest.length+1-1) (C7-1)) rest:=fun H' hr'=>by
      have e1:(rl.drop ((eo+1)*1)).take (rest.length*1)=uC rest:=by
       have:=congrArg (List.drop 1) d3
       rw [List.drop_take,List.drop_drop] at this
       rw [show(eo+1)*1=eo*1+1 by omega,show rest.length*1=(rest.length+1)*1-1 by omega]
       exact this
      refine⟨by simp,?_⟩
      rw [Nat.add_sub_cancel]
      rcases Nat.eq_zero_or_pos rest.length with h0|h0
      ·rw [h0]
       exact .inl ⟨rfl,.inr ⟨lr,_,C7-1,_,rfl,hr'⟩⟩
      ·refine .inr ⟨lr,eo+1,ne,rl,.inr ⟨C7-1,by omega,?_⟩,hr',e1,by omega,d5⟩
       rw [if_neg (by omega),show(eo+1)*1=eo*1+1*1 by omega]
     generalize ho1:(if C7=1 then eo*1 else eo*1+1*1)=o1 at hrest
     have hlenV5:(V.take i ++ V.drop (i+1)).length≤V.length:=by
      rw [zT,List.length_take,List.length_drop]
      omega
     generalize hV':V.take i ++ V.drop (i+1)=V' at hV5 hV7 hmd hlenV5
     have hfl7:=dv V'
     have fin: ∀ (H8:aV) (n8 q:Nat),n5<q→q<n8→H8.at' t=some (aG 56 [.slu q 0 (V'.length+1)])→H8.at' q=some (eU false (V'.length+1) 3 91 (V'.flatMap vC ++ [.sc (.string K[jj]),.sc (.int .u64 (n:Int)),.sl lr o1 (rest.length+1-1) (C7-1)]))→(∀ m,m<n5→m≠t→m≠r'→H8.at' m=H7.at' m)→(lr≠r') →
      WV t q (.slu q 0 (V'.length+1)) (V' ++ [((K[jj],(n,rest)),.sl lr o1 (rest.length+1-1) (C7-1))]) (fun m=>F5 m∨m=q∨m=lr) H8:=fun H8 n8 q g1 g2 g3 g4 g5 g6=>by
      have hbt:lr≠t:=bd.1
      refine jS (by simp) (by omega) (by rw [List.flatMap_append];rfl) g3 g4 (by omega) (.inr (.inl rfl)) (.inl hV5.own) fun x hx=>?_
      rcases List.mem_append.1 hx with hx|hx
      ·obtain⟨u1,u2⟩:=hV7.lines x hx
       refine⟨SlOf.frame u1 fun b hb=>?_,fun b hb=>?_⟩
       ·obtain⟨z1,z2,z3⟩:=u2 b hb
        exact g5 b (hF5' b z1).2.2.2.1 z2 z3
       ·obtain⟨z1,z2,z3⟩:=u2 b hb
        have:=(hF5' b z1).2.2.2.1
        exact⟨.inl z1,z2,by omega⟩
      ·simp only [List.mem_singleton] at hx
       subst hx
       refine⟨hrest H8 ((g5 lr (by omega) hbt g6).trans d2),fun b hb=>?_⟩
       cases hb
       exact⟨.inr (.inr rfl),hbt,by omega⟩
     have hlr':lr≠r':=by
      have h2:lr≠rj:=bd.2
      rcases bhr5 with e|e
      ·rw [e];exact h2
      ·omega
     have btr:Hid (lr≠r'):=hlr'
     clear hlr'
     refine kq (α:=Unit) (fun _=> [(0,.ptr t 0),(2,.sc (.int .i64 (mark:Int))),(12,.slu cm 0 came.length),(13,.slu kr 0 K.length),(14,.sc (.int .i64 (((jj+1:Nat):Int)-1))),(16,.ptr n3 0)])
      (fun _ H8 n8=>n8=n5+2∧WV t (n5+1) (.slu (n5+1) 0 (V'.length+1)) (V' ++ [((K[jj],(n,rest)),.sl lr o1 (rest.length+1-1) (C7-1))]) (fun m=>F5 m∨m=n5+1∨m=lr) H8∧ ∀ m,m<n5→m≠t→m≠r'→H8.at' m=H7.at' m) (fun kk out=>?_) ?_
     ·rcases hV7.row with ⟨hnil,rfl⟩|⟨hne5,rfl,hrow7,hFr7,hrt7⟩
      ·subst hnil
       (apply dJ;(focus(kernel_rfl));(focus(kernel_rfl)))
       (repeat(first|(apply aX;exact rfl;exact rfl;exact rfl)|(apply bD;exact rfl;exact rfl;exact rfl)|(apply bu;exact rfl;exact rfl;exact rfl;exact(F.fo _ _ rfl rfl))|(apply ip;exact rfl;exact rfl;exact rfl;exact(F.ze _ rfl);exact(F.pl _ rfl);exact rfl)|refine en rfl rfl rfl rfl (F.sz _ rfl) (by first|exact rfl|(focus((repeat(first|assumption|refine(Tr.aa _ _ (by omega)).trans ?_));done))) rfl (by exact zB rfl) rfl ?_|refine bK rfl rfl rfl (F.ag _ rfl) (by assumption) (by exact rfl) ?_|(apply bv;exact rfl;exact rfl;exact(fun _ h=>by cases h);exact(cP (q:=0) (F.un _ rfl) (F.sz _ rfl) rfl rfl (Nat.succ_pos _)))|refine bv rfl rfl (fun _ h=>by cases h) (aw (F.ag _ rfl) rfl (by assumption) (br (ne:=ne) (sz:=1) hcell0 (by omega))) ?_|(apply bv;exact rfl;exact rfl;exact(fun _ h=>by cases h);exact(bm (l:=1) (h:=rest.length+1) (F.un _ rfl) (F.sz _ rfl) rfl (c8 rfl rfl) bh (by omega) hC7 ho1))|(apply cx;exact rfl;exact rfl;exact(F.un _ rfl);exact(F.sz _ rfl);exact rfl;exact(F.ze _ rfl);exact rfl;exact rfl;exact rfl;exact rfl;exact rfl)|refine cR rfl rfl (fun _ h=>by cases h) (ct (b:=48) (F.un _ rfl) (.inl ⟨_,F.un _ rfl⟩) (F.sz _ rfl) (by decide) (by kernel_rfl) (by kernel_rfl) rfl rfl (lu (by(repeat(exact Tr.ae _ _ _));done) rfl) (by exact rfl) (by omega) (by omega) (by omega)) ?_))
       (refine be ?_);(refine⟨by kernel_rfl,?_,?_⟩);(focus(repeat(first|exact trivial|refine⟨.inl (ck rfl),?_⟩|refine⟨.inr ⟨0,by kernel_rfl,AllH.all (fun _=>(by first|exact aY rfl|exact ax rfl|exact aq (F.fo _ _ rfl rfl) rfl|exact aP (F.un _ rfl) rfl|exact aE rfl rfl|exact aH rfl|exact aU rfl (F.ze _ rfl) (F.pl _ rfl) rfl|exact bq rfl|exact aI (F.un _ rfl) rfl|exact aQ rfl rfl|exact aR rfl rfl|exact bi rfl rfl (.inr (.inr (.inr (.inr (.inl ⟨rfl,rfl⟩)))))|exact an rfl rfl (.inl ⟨rfl,(zx _ ⟨by omega,by omega⟩).symm⟩)|exact an rfl rfl (.inr (.inl ⟨rfl,(zx _ ⟨by omega,by omega⟩).symm⟩)))) _⟩,?_⟩|refine⟨.inr ⟨0,by kernel_rfl,(by(refine⟨(by first|exact aw (F.ag _ rfl) rfl (by(repeat(first|assumption|exact Tr.ae _ _ _|refine(Tr.aa _ _ (by omega)).trans ?_));done) (az rfl)|exact aC (F.ag _ rfl) rfl (by assumption) (ak _ 0 rfl rfl)|exact aU rfl (F.ze _ rfl) (F.pl _ rfl) rfl|exact cP (q:=0) (F.un _ rfl) (F.sz _ rfl) rfl rfl (Nat.succ_pos _)|exact aw (F.ag _ rfl) rfl (by assumption) (br (ne:=ne) (sz:=1) hcell0 (by omega))|exact bm (l:=1) (h:=rest.length+1) (F.un _ rfl) (F.sz _ rfl) rfl (c8 rfl rfl) bh (by omega) hC7 ho1),?_⟩;(repeat(refine⟨(by first|exact aw (F.ag _ rfl) rfl (by(repeat(first|assumption|refine(Tr.aa _ _ (by omega)).trans ?_));done) (az rfl)|exact aC (F.ag _ rfl) rfl (by assumption) (ak _ 0 rfl rfl)|exact aU rfl (F.ze _ rfl) (F.pl _ rfl) rfl|exact cP (q:=0) (F.un _ rfl) (F.sz _ rfl) rfl rfl (Nat.succ_pos _)|exact aw (F.ag _ rfl) rfl (by assumption) (br (ne:=ne) (sz:=1) hcell0 (by omega))|exact bm (l:=1) (h:=rest.length+1) (F.un _ rfl) (F.sz _ rfl) rfl (c8 rfl rfl) bh (by omega) hC7 ho1),?_⟩));exact trivial))⟩,?_⟩|refine⟨.inr ⟨1,by kernel_rfl,(by(refine⟨(by first|exact aw (F.ag _ rfl) rfl (by(repeat(first|assumption|refine(Tr.aa _ _ (by omega)).trans ?_));done) (az rfl)|exact aC (F.ag _ rfl) rfl (by assumption) (ak _ 0 rfl rfl)|exact aU rfl (F.ze _ rfl) (F.pl _ rfl) rfl|exact cP (q:=0) (F.un _ rfl) (F.sz _ rfl) rfl rfl (Nat.succ_pos _)|exact aw (F.ag _ rfl) rfl (by(repeat(first|assumption|refine(Tr.aa _ _ (by omega)).trans ?_));done) (br (ne:=ne) (sz:=1) hcell0 (by omega))|exact bm (l:=1) (h:=rest.length+1) (F.un _ rfl) (F.sz _ rfl) rfl (c8 rfl rfl) bh (by omega) hC7 ho1),?_⟩;(repeat(refine⟨(by first|exact aw (F.ag _ rfl) rfl (by(repeat(first|assumption|refine(Tr.aa _ _ (by omega)).trans ?_));done) (az rfl)|exact aC (F.ag _ rfl) rfl (by assumption) (ak _ 0 rfl rfl)|exact aU rfl (F.ze _ rfl) (F.pl _ rfl) rfl|exact cP (q:=0) (F.un _ rfl) (F.sz _ rfl) rfl rfl (Nat.succ_pos _)|exact aw (F.ag _ rfl) rfl (by(repeat(first|assumption|refine(Tr.aa _ _ (by omega)).trans ?_));done) (br (ne:=ne) (sz:=1) hcell0 (by omega))|exact bm (l:=1) (h:=rest.length+1) (F.un _ rfl) (F.sz _ rfl) rfl (c8 rfl rfl) bh (by omega) hC7 ho1),?_⟩));exact trivial))⟩,?_⟩)))
       dsimp only
       refine out _ _ _ () ⟨rfl,fin _ (n5+2) (n5+1) (by omega) (by omega) (by(repeat(exact Tr.ae _ _ _));done) (by(repeat(first|exact Tr.ae _ _ _|refine(Tr.aa _ _ (by omega)).trans ?_));done) (fun m hm' hmt hmr=>by(focus((repeat(refine(Tr.aa _ _ (by omega)).trans ?_));exact rfl))) btr,fun m hm' hmt hmr=>by(focus((repeat(refine(Tr.aa _ _ (by omega)).trans ?_));exact rfl))⟩ (SlIn.sub (by repeat(first|exact trivial|refine⟨rfl,?_⟩)))
      ·have hr7:=(hF5' r' hFr7).2.2.2.1
       have brt7:Hid (r'≠t):=hrt7
       clear hrt7
       have hlr':lr≠r':=btr
       have hrt':r'≠t:=brt7
       (apply dJ;(focus(kernel_rfl));(focus(kernel_rfl)))
       (repeat(first|(apply aX;exact rfl;exact rfl;exact rfl)|(apply bD;exact rfl;exact rfl;exact rfl)|(apply bu;exact rfl;exact rfl;exact rfl;exact(F.fo _ _ rfl rfl))|(apply ip;exact rfl;exact rfl;exact rfl;exact(F.ze _ rfl);exact(F.pl _ rfl);exact rfl)|refine en rfl rfl rfl rfl (F.sz _ rfl) (by first|exact rfl|(focus((repeat(first|assumption|refine(Tr.aa _ _ (by omega)).trans ?_|refine(Tr.aF _ (by omega)).trans ?_));done))) rfl (by exact zB rfl) rfl ?_|refine bK rfl rfl rfl (F.ag _ rfl) (by assumption) (by exact rfl) ?_|(apply bv;exact rfl;exact rfl;exact(fun _ h=>by cases h);exact(cP (q:=0) (F.un _ rfl) (F.sz _ rfl) rfl rfl (Nat.succ_pos _)))|refine bv rfl rfl (fun _ h=>by cases h) (aw (F.ag _ rfl) rfl (by assumption) (br (ne:=ne) (sz:=1) hcell0 (by omega))) ?_|(apply bv;exact rfl;exact rfl;exact(fun _ h=>by cases h);exact(bm (l:=1) (h:=rest.length+1) (F.un _ rfl) (F.sz _ rfl) rfl (c8 rfl rfl) bh (by omega) hC7 ho1))|(apply cx;exact rfl;exact rfl;exact(F.un _ rfl);exact(F.sz _ rfl);exact rfl;exact(F.ze _ rfl);exact rfl;exact rfl;exact rfl;exact rfl;exact rfl)|refine cR rfl rfl (fun _ h=>by cases h) (iU (b:=48) (F.un _ rfl) (.inl ⟨_,F.un _ rfl⟩) (F.sz _ rfl) (by decide) (by kernel_rfl) (by kernel_rfl) rfl rfl (by(repeat(first|assumption|refine(Tr.aa _ _ (by omega)).trans ?_));done) (hfl7) (lu (by(repeat(first|assumption|exact Tr.ae _ _ _));done) rfl) (by exact rfl) (by omega) (by omega) (by omega)) ?_))
       (refine be ?_);(refine⟨by kernel_rfl,?_,?_⟩);(focus(repeat(first|exact trivial|refine⟨.inl (ck rfl),?_⟩|refine⟨.inr ⟨0,by kernel_rfl,AllH.all (fun _=>(by first|exact aY rfl|exact ax rfl|exact aq (F.fo _ _ rfl rfl) rfl|exact aP (F.un _ rfl) rfl|exact aE rfl rfl|exact aH rfl|exact aU rfl (F.ze _ rfl) (F.pl _ rfl) rfl|exact bq rfl|exact aI (F.un _ rfl) rfl|exact aQ rfl rfl|exact aR rfl rfl|exact bi rfl rfl (.inr (.inr (.inr (.inr (.inl ⟨rfl,rfl⟩)))))|exact an rfl rfl (.inl ⟨rfl,(zx _ ⟨by omega,by omega⟩).symm⟩)|exact an rfl rfl (.inr (.inl ⟨rfl,(zx _ ⟨by omega,by omega⟩).symm⟩)))) _⟩,?_⟩|refine⟨.inr ⟨0,by kernel_rfl,(by(refine⟨(by first|exact aw (F.ag _ rfl) rfl (by(repeat(first|assumption|exact Tr.ae _ _ _|refine(Tr.aa _ _ (by omega)).trans ?_));done) (az rfl)|exact aC (F.ag _ rfl) rfl (by assumption) (ak _ 0 rfl rfl)|exact aU rfl (F.ze _ rfl) (F.pl _ rfl) rfl|exact cP (q:=0) (F.un _ rfl) (F.sz _ rfl) rfl rfl (Nat.succ_pos _)|exact aw (F.ag _ rfl) rfl (by(repeat(first|assumption|refine(Tr.aa _ _ (by omega)).trans ?_));done) (br (ne:=ne) (sz:=1) hcell0 (by omega))|exact bm (l:=1) (h:=rest.length+1) (F.un _ rfl) (F.sz _ rfl) rfl (c8 rfl rfl) bh (by omega) hC7 ho1),?_⟩;(repeat(refine⟨(by first|exact aw (F.ag _ rfl) rfl (by assumption) (az rfl)|exact aC (F.ag _ rfl) rfl (by assumption) (ak _ 0 rfl rfl)|exact aU rfl (F.ze _ rfl) (F.pl _ rfl) rfl|exact cP (q:=0) (F.un _ rfl) (F.sz _ rfl) rfl rfl (Nat.succ_pos _)|exact aw (F.ag _ rfl) rfl (by assumption) (br (ne:=ne) (sz:=1) hcell0 (by omega))|exact bm (l:=1) (h:=rest.length+1) (F.un _ rfl) (F.sz _ rfl) rfl (c8 rfl rfl) bh (by omega) hC7 ho1),?_⟩));exact trivial))⟩,?_⟩|refine⟨.inr ⟨1,by kernel_rfl,(by(refine⟨(by first|exact aw (F.ag _ rfl) rfl (by(repeat(first|assumption|refine(Tr.aa _ _ (by omega)).trans ?_|refine(Tr.aF _ (by omega)).trans ?_));done) (az rfl)|exact aC (F.ag _ rfl) rfl (by assumption) (ak _ 0 rfl rfl)|exact aU rfl (F.ze _ rfl) (F.pl _ rfl) rfl|exact cP (q:=0) (F.un _ rfl) (F.sz _ rfl) rfl rfl (Nat.succ_pos _)|exact aw (F.ag _ rfl) rfl (by(repeat(first|assumption|refine(Tr.aa _ _ (by omega)).trans ?_|refine(Tr.aF _ (by omega)).trans ?_));done) (br (ne:=ne) (sz:=1) hcell0 (by omega))|exact bm (l:=1) (h:=rest.length+1) (F.un _ rfl) (F.sz _ rfl) rfl (c8 rfl rfl) bh (by omega) hC7 ho1),?_⟩;(repeat(refine⟨(by first|exact aw (F.ag _ rfl) rfl (by(repeat(first|assumption|refine(Tr.aa _ _ (by omega)).trans ?_));done) (az rfl)|exact aC (F.ag _ rfl) rfl (by assumption) (ak _ 0 rfl rfl)|exact aU rfl (F.ze _ rfl) (F.pl _ rfl) rfl|exact cP (q:=0) (F.un _ rfl) (F.sz _ rfl) rfl rfl (Nat.succ_pos _)|exact aw (F.ag _ rfl) rfl (by(repeat(first|assumption|refine(Tr.aa _ _ (by omega)).trans ?_));done) (br (ne:=ne) (sz:=1) hcell0 (by omega))|exact bm (l:=1) (h:=rest.length+1) (F.un _ rfl) (F.sz _ rfl) rfl (c8 rfl rfl) bh (by omega) hC7 ho1),?_⟩));exact trivial))⟩,?_⟩|refine⟨.inr ⟨2,by kernel_rfl,(by(refine⟨(by first|exact aw (F.ag _ rfl) rfl (by(repeat(first|assumption|refine(Tr.aa _ _ (by omega)).trans ?_));done) (az rfl)|exact aC (F.ag _ rfl) rfl (by done) (ak _ 0 rfl rfl)|exact aU rfl (F.ze _ rfl) (F.pl _ rfl) rfl|exact cP (q:=0) (F.un _ rfl) (F.sz _ rfl) rfl rfl (Nat.succ_pos _)|exact aw (F.ag _ rfl) rfl (by done) (br (ne:=ne) (sz:=1) hcell0 (by omega))|exact bm (l:=1) (h:=rest.length+1) (F.un _ rfl) (F.sz _ rfl) rfl (c8 rfl rfl) bh (by omega) hC7 ho1),?_⟩;(repeat(refine⟨(by first|exact aw (F.ag _ rfl) rfl (by assumption) (az rfl)|exact aC (F.ag _ rfl) rfl (by done) (ak _ 0 rfl rfl)|exact aU rfl (F.ze _ rfl) (F.pl _ rfl) rfl|exact cP (q:=0) (F.un _ rfl) (F.sz _ rfl) rfl rfl (Nat.succ_pos _)|exact aw (F.ag _ rfl) rfl (by done) (br (ne:=ne) (sz:=1) hcell0 (by omega))|exact bm (l:=1) (h:=rest.length+1) (F.un _ rfl) (F.sz _ rfl) rfl (c8 rfl rfl) bh (by omega) hC7 ho1),?_⟩));exact trivial))⟩,?_⟩)))
       dsimp only
       refine out _ _ _ () ⟨rfl,fin _ (n5+2) (n5+1) (by omega) (by omega) (by(repeat(exact Tr.ae _ _ _));done) (by(repeat(first|exact Tr.ae _ _ _|refine(Tr.aa _ _ (by omega)).trans ?_));done) (fun m hm' hmt hmr=>by(focus((repeat(first|refine(Tr.aa _ _ (by omega)).trans ?_|refine(Tr.aF _ (by omega)).trans ?_));exact rfl))) btr,fun m hm' hmt hmr=>by(focus((repeat(first|refine(Tr.aa _ _ (by omega)).trans ?_|refine(Tr.aF _ (by omega)).trans ?_));exact rfl))⟩ (SlIn.sub (by repeat(first|exact trivial|refine⟨rfl,?_⟩)))
     ·rintro⟨⟩ H8 _ ⟨rfl,hV8,h87⟩
      have hbt:lr≠t:=bd.1
      have hrlow: ∀ m,m<n3→F3 m∨m=cm∨m=kr→m≠r'→m≠t→H8.at' m=H5.at' m:=fun m hm' _ hmr hmt=>(h87 m (by omega) hmt hmr).trans (d10 m (by omega))
      have hF5r:r'=rj∨n3<r':=bhr5
      have hcmr:cm≠r'∧kr≠r':=by
       have:=a5 rj hFr
       rcases hF5r with e|e
       ·rw [e];exact⟨fun e=>this.2.2.2 e.symm,fun e=>this.2.2.1 e.symm⟩
       ·exact⟨by omega,by omega⟩
      have htkc:t≠kr∧t≠cm:=btk
      have hcm8:H8.at' cm=some (uR false came):=(hrlow cm a9 (.inr (.inl rfl)) hcmr.1 (Ne.symm htkc.2)).trans hcm5
      have hkr8:H8.at' kr=some (sR false K):=(hrlow kr a12 (.inr (.inr rfl)) hcmr.2 (Ne.symm htkc.1)).trans hkr5
      have hnb8:H8.at' n3=some (aG 91 [.sc (.string K[jj]),.sc (.int .u64 (h:Int)),.sl lr (eo*1) (rest.length+1) C7]):=(h87 n3 (by omega) (by omega) (by
       have:=(a5 rj hFr).2.1
       rcases hF5r with e|e <;> omega)).trans d1
      have hlr8:H8.at' lr=some (eU false ne 1 23 rl):=(h87 lr (by omega) hbt btr).trans d2
      have hsl8:SlOf H8 1 23 (.sl lr (eo*1) (rest.length+1) C7) (rest.length+1) (uC (n :: rest)):=⟨by simp,.inr ⟨lr,eo,ne,rl,.inr ⟨C7,hC7,rfl⟩,hlr8,d3,d4,d5⟩⟩
      have blrk:Hid (lr≠kr∧lr≠cm):=⟨(a5 lr d7).2.2.1,(a5 lr d7).2.2.2⟩
      have hfinal: ∀ m,m<nx→m≠t→m≠r→H8.at' m=H.at' m:=fun m hm' hmt hmr=>by
       have hmr':m≠r':=by
        rcases hrr with e|e
        ·rw [e];exact hmr
        ·omega
       exact(h87 m (by omega) hmt hmr').trans ((d10 m (by omega)).trans ((low5 m (by omega) hmt).trans (a14 m hm' hmt hmr)))
      have bcm:Hid (cm≠kr):=b11
      clear hbt hF5r hcmr htkc
      (repeat(first|refine ai ?_|(apply am;exact rfl;exact rfl;exact rfl)|(apply au;exact rfl;exact rfl;exact rfl;exact(F.fo _ _ rfl rfl))|refine aL rfl rfl rfl (F.ag _ rfl) (by assumption) (by exact rfl) ?_))
      refine dq rfl rfl rfl rfl (F.un _ rfl) (F.sz _ rfl) hsl8 (q:=0) rfl (Nat.succ_pos _) fun rr2 p2 ne2 rl2 u1 u2 u3 u4 _=>?_
      have e1:=lq (u4.trans (lp (l:=n :: rest) (q:=0) (Nat.succ_pos _)))
      (repeat(first|refine ai ?_|refine ah ?_|refine aM ?_|(apply am;exact rfl;exact rfl;exact rfl)|(apply aj;exact rfl;exact rfl;exact rfl)|(apply dB;exact rfl;exact rfl;exact rfl;exact rfl;(focus(omega));(focus(omega)))|(refine di rfl rfl rfl (F.ag _ rfl) u1 (br (by exact e1) (by omega)) ?_)|(apply cb;exact rfl;exact rfl;exact(F.un _ rfl);exact(F.sz _ rfl);exact rfl;exact(F.ze _ rfl);exact rfl;exact rfl;exact rfl;exact rfl;exact rfl)|refine gu (b:=8) (xs:=came) (a:=n) rfl rfl rfl rfl (F.un _ rfl) (.inl ⟨_,F.un _ rfl⟩) (F.sz _ rfl) rfl (by kernel_rfl) (by kernel_rfl) (by(repeat(first|assumption|refine(Tr.aa _ _ (by omega)).trans ?_));done) (by(repeat(exact Tr.ae _ _ _));done) (by exact rfl) (rY) (by omega) (by omega) ?_))
      have hkcm:cm≠kr:=bcm
      have hmem: ∀ m,(F5 m∨m=n5+1∨m=lr)→(Fw m∨nx≤m)∧m≠kr∧m≠cm∧m<n5+2:=fun m hm'=>by
       rcases hm' with hm'|rfl|rfl
       ·obtain⟨y1,y2,y3,y4,_⟩:=hF5' m hm'
        exact⟨y1,y2,y3,by omega⟩
       ·exact⟨.inr (by omega),by omega,by omega,by omega⟩
       ·obtain⟨y1,y2,y3,y4⟩:=a5 m d7
        exact⟨y1,y3,y4,by omega⟩
      refine ih _ _ _ (dO (V.map (·.1)) K[jj] ++ [(K[jj],(n,rest))],came ++ [n],n5+2+1,jj,n5+1) ⟨by simp only;omega,.inl (by simp only;omega),hnext,⟨fun m=>F5 m∨m=n5+1∨m=lr,⟨_,_,hV8.frame fun m hm'=>?_,by rw [zU,hmd];rfl⟩,fun m hm'=>?_⟩,.inr (by simp only;omega),by simp only;omega,by simp only;omega,by simp only;omega,Tr.ae _ _ _,by simp only;omega,by omega,?_,fun m hm' hmt hmr=>?_⟩ (by simp only;omega) (SlIn.sub (by repeat(first|exact trivial|refine⟨rfl,?_⟩|refine⟨dS (by first|omega|(simp only;omega)),?_⟩)))
      ·obtain⟨y1,y2,y3,y4⟩:=hmem m hm'
       exact(Tr.aa _ _ (by omega)).trans ((Tr.aF _ y3).trans (Tr.aa _ _ (by omega)))
      ·obtain⟨y1,y2,y3,y4⟩:=hmem m hm'
       exact⟨y1,by omega,y2,by simp only;omega⟩
      ·exact(Tr.aa _ _ (by omega)).trans ((Tr.aF _ (Ne.symm hkcm)).trans ((Tr.aa _ _ (by omega)).trans hkr8))
      ·exact(Tr.aa _ _ (by omega)).trans ((Tr.aF _ (by omega)).trans ((Tr.aa _ _ (by omega)).trans (hfinal m hm' hmt hmr)))
  ·clear ih
   have hfin:fU (K.drop mark).reverse W1 []=(Wj,came):=by
    rcases b2 with e|e
    ·rw [show mark=j by omega];exact a3
    ·rw [List.drop_eq_nil_of_le (show K.length≤mark by omega)]
     rw [e,List.drop_length] at a3
     exact a3
   (repeat(first|refine ao ?_|refine ai ?_|refine ah ?_|refine bA rfl ?_|refine ay rfl ?_|(apply am;exact rfl;exact rfl;exact rfl)|(apply aj;exact rfl;exact rfl;exact rfl)))
   rw [hfin]
   ((apply bj Try.func43 (congrArg Array.toList Try.results43));(focus(repeat(first|exact ResIs.nil|apply ResIs.tmp rfl))))
   exact⟨cm,rfl,a10,a8,a9,by simp only;omega,rj,(by obtain⟨s,V,h1,h2⟩:=a4;exact⟨s,V,h1.mono fun m hm'=>⟨(a5 m hm').1,(a5 m hm').2.1⟩,h2⟩),b6,a7,a14⟩
section
variable {P:Program} {H:aV} {T:Tr SV} {nx:Nat}
variable {d:Option Tmp} {ty:TypeId} {pos:String} {af:Array Edge} {gd:Option (Nat×Bool)}
theorem vz{t:TypeId}{x y:Operand}{s:ByteArray}{k:IntKind}{i:Nat}{v:UInt8}(hx:ar T x=some (.sc (.string s)))(hy:ar T y=some (.sc (.int k (i:Int))))(hu:P.underlying t=some .string)(hv:s[i]? =some v) :
 ReadDoes P T H ⟨d,.index t x y,ty,pos,af,gd⟩ (.sc (.int .u8 v.toNat)):=by
 refine c9 fun ev w he=>?_
 have e1:=he x _ hx _ rfl
 have e2:=he y _ hy _ rfl
 simp [execOp,e1,e2,Instr.index,asIntOf,run_underlying hu,hv]
end
section
variable {ro:Option Nat} {fn nt nx i:Nat} {T:Tr SV} {k:List AIt} {dfs:List ADf} {H:aV} {Q:Pst} {ops:Array Oper} {l:List Oper} {ty:TypeId} {pos:String} {af:Array Edge} {gd:Option (Nat×Bool)} {P:Program}
theorem si{t:TypeId}{x y:Operand}{s:ByteArray}{kd:IntKind}{j:Nat}{v:UInt8}{dd:Nat}(hw:aA T ops ⟨some dd,.index t x y,ty,pos,af,gd⟩=some true)(hd:Nat.blt dd nt=true)(hx:ar T x=some (.sc (.string s)))(hy:ar T y=some (.sc (.int kd (j:Int))))(hu:P.underlying t=some .string)(hv:s[j]? =some v)
 (h:Wp P ro ⟨fn,nt,T.set dd (.sc (.int .u8 v.toNat)),.inReg ops (i+1) l :: k,dfs,H,nx⟩ Q):Wp P ro ⟨fn,nt,T,.inReg ops i (⟨some dd,.index t x y,ty,pos,af,gd⟩ :: l) :: k,dfs,H,nx⟩ Q:=
 bS hw (.inr (fun _ h=>by cases h)) ((vz hx hy hu hv).does) (by rw [aK hd];exact h)
end
theorem aB{A:Type} [Inhabited A](d:Array A)(i j:Nat):(Sort.swp d i j).size=d.size:=by simp [Sort.swp]
theorem vP{x:Int}{m:Nat}(hx:x=(m:Int)-1)(hm:m<4611686018427387904):IntKind.i64.wrap (x.tdiv 2)=(((m-1) / 2:Nat):Int):=by
 subst hx
 rcases Nat.eq_zero_or_pos m with rfl|h
 ·decide
 ·rw [Int.tdiv_eq_ediv_of_nonneg (by omega),zx _ ⟨by omega,by omega⟩]
  omega
def x7:Sort.Hint→Int
 | .unknown=>0
 | .increasing=>1
 | .decreasing=>2
theorem uj{h:Sort.Hint}:(x7 h == 2)=decide (h = .decreasing):=by cases h <;> rfl
theorem wI{m:Nat}(h:m<2 ^ 64):IntKind.u64.wrap ((m:Nat):Int)=(m:Int):=by
 rw [Go.IntWalk.u64_in _ ⟨by omega,by omega⟩]
theorem xorU{a b:Nat}(ha:a<18446744073709551616)(hb:b<18446744073709551616):rP .xor .u64 (a:Int) (b:Int)=((a ^^^ b:Nat):Int):=by
 show IntKind.u64.wrap (((BitVec.ofInt 64 (a:Int) ^^^ BitVec.ofInt 64 (b:Int)).toNat:Nat):Int)=_
 rw [BitVec.toNat_xor,BitVec.ofInt_natCast,BitVec.ofInt_natCast,BitVec.toNat_ofNat,BitVec.toNat_ofNat,Nat.mod_eq_of_lt ha,Nat.mod_eq_of_lt hb,wI]
 exact Nat.xor_lt_two_pow ha hb
theorem andU{a b:Nat}(ha:a<18446744073709551616)(hb:b<18446744073709551616):rP .and .u64 (a:Int) (b:Int)=((a &&& b:Nat):Int):=by
 show IntKind.u64.wrap (((BitVec.ofInt 64 (a:Int) &&& BitVec.ofInt 64 (b:Int)).toNat:Nat):Int)=_
 rw [BitVec.toNat_and,BitVec.ofInt_natCast,BitVec.ofInt_natCast,BitVec.toNat_ofNat,BitVec.toNat_ofNat,Nat.mod_eq_of_lt ha,Nat.mod_eq_of_lt hb,wI]
 exact Nat.and_lt_two_pow _ hb
theorem sh13(x:Nat):IntKind.u64.wrap ((x:Int)*2 ^ (min (Int.toNat 13) IntKind.u64.bits))=((x*8192 % 18446744073709551616:Nat):Int):=by
 have:(2:Int) ^ (min (Int.toNat 13) IntKind.u64.bits)=8192:=by decide
 rw [this,IntKind.wrap_u64]
 omega
theorem sh17(x:Nat):IntKind.u64.wrap ((x:Int)*2 ^ (min (Int.toNat 17) IntKind.u64.bits))=((x*131072 % 18446744073709551616:Nat):Int):=by
 have:(2:Int) ^ (min (Int.toNat 17) IntKind.u64.bits)=131072:=by decide
 rw [this,IntKind.wrap_u64]
 omega
theorem sh7(x:Nat):Int.fdiv (x:Int) (2 ^ (min (Int.toNat 7) IntKind.u64.bits))=((x / 128:Nat):Int):=by
 have:(2:Int) ^ (min (Int.toNat 7) IntKind.u64.bits)=128:=by decide
 rw [this,Int.fdiv_eq_ediv_of_nonneg _ (by decide)]
 omega
theorem sh8(x:Nat):Int.fdiv (x:Int) (2 ^ (min (Int.toNat 8) IntKind.u64.bits))=((x / 256:Nat):Int):=by
 have:(2:Int) ^ (min (Int.toNat 8) IntKind.u64.bits)=256:=by decide
 rw [this,Int.fdiv_eq_ediv_of_nonneg _ (by decide)]
 omega
abbrev xsO(x:Nat):VO:=aG 107 [.sc (.int .u64 (x:Int))]
theorem tC(x:Nat)(hx:x<18446744073709551616):Ctr Try.prog 72 [.ptr 0 0] [xsO x] (fun c=>c=⟨.sc (.int .u64 (Sort.xorNextN x:Int)),[some (xsO (Sort.xorNextN x))]⟩):=by
 have hA:x ^^^ (x*8192 % 18446744073709551616)<18446744073709551616:=Nat.xor_lt_two_pow (n:=64) (by omega) (by omega)
 have eA:=xorU (a:=x) (b:=x*8192 % 18446744073709551616) hx (by omega)
 have eC:Sort.xorNextN x=Sort.xorNextN x:=rfl
 conv at eC=>rhs;unfold Sort.xorNextN
 simp only at eC
 generalize x ^^^ (x*8192 % 18446744073709551616)=A at hA eA eC
 have hB:A ^^^ (A / 128)<18446744073709551616:=Nat.xor_lt_two_pow (n:=64) (by omega) (by omega)
 have eB:=xorU (a:=A) (b:=A / 128) hA (by omega)
 generalize A ^^^ (A / 128)=B at hB eB eC
 have eD:=xorU (a:=B) (b:=B*131072 % 18446744073709551616) hB (by omega)
 rw [← eC] at eD
 refine Fnc.start Try.func72 rfl rfl ?_
 (repeat(first|refine ao ?_|refine ai ?_|refine ah ?_|refine aj rfl rfl rfl ?_))
 refine bP (by kernel_rfl) (by kernel_rfl) ?_
 (repeat(first|refine aX rfl rfl rfl ?_|refine bD rfl rfl rfl ?_|refine bK rfl rfl rfl (F.ag _ rfl) rfl rfl ?_|refine kW rfl rfl rfl (F.sz _ rfl) rfl rfl rfl ?_|(refine ur rfl rfl rfl rfl (by decide) (sh13 x) ?_)|(refine pB rfl rfl rfl rfl (.inr (.inr (.inl rfl))) eA ?_)))
 (refine be ?_);(refine⟨by kernel_rfl,?_,?_⟩);(focus(repeat(first|exact trivial|refine⟨.inl rfl,?_⟩|refine⟨.inr (by(repeat(refine⟨(by first|exact bq rfl|exact bi rfl rfl (.inr (.inr (.inr (.inr (.inl ⟨rfl,rfl⟩)))))|exact bk (F.un _ rfl) (F.sz _ rfl) rfl rfl rfl (by omega) (by omega) (by omega)|exact an rfl rfl (.inl ⟨rfl,(zx _ ⟨by omega,by omega⟩).symm⟩)|exact an rfl rfl (.inr (.inl ⟨rfl,(zx _ ⟨by omega,by omega⟩).symm⟩))|exact aq (F.fo _ _ rfl rfl) rfl|exact aY rfl|exact aH rfl|exact aw (F.ag _ rfl) rfl rfl (az rfl)|exact aC (F.ag _ rfl) rfl rfl (ak _ 0 rfl rfl)|exact aE rfl rfl|exact aP (F.un _ rfl) rfl|exact aI (F.un _ rfl) rfl|exact ax rfl|exact aQ rfl rfl|exact aR rfl rfl),?_⟩));exact trivial),?_⟩|refine⟨.inl (by kernel_rfl),?_⟩)))
 (repeat(refine ao ?_))
 refine bP (by kernel_rfl) (by kernel_rfl) ?_
 (repeat(first|refine aX rfl rfl rfl ?_|refine bD rfl rfl rfl ?_|refine bK rfl rfl rfl (F.ag _ rfl) rfl rfl ?_|refine kW rfl rfl rfl (F.sz _ rfl) rfl rfl rfl ?_|(refine yc rfl rfl rfl rfl (by decide) (sh7 A) ?_)|(refine pB rfl rfl rfl rfl (.inr (.inr (.inl rfl))) eB ?_)))
 (refine be ?_);(refine⟨by kernel_rfl,?_,?_⟩);(focus(repeat(first|exact trivial|refine⟨.inl rfl,?_⟩|refine⟨.inr (by(repeat(refine⟨(by first|exact bq rfl|exact bi rfl rfl (.inr (.inr (.inr (.inr (.inl ⟨rfl,rfl⟩)))))|exact bk (F.un _ rfl) (F.sz _ rfl) rfl rfl rfl (by omega) (by omega) (by omega)|exact an rfl rfl (.inl ⟨rfl,(zx _ ⟨by omega,by omega⟩).symm⟩)|exact an rfl rfl (.inr (.inl ⟨rfl,(zx _ ⟨by omega,by omega⟩).symm⟩))|exact aq (F.fo _ _ rfl rfl) rfl|exact aY rfl|exact aH rfl|exact aw (F.ag _ rfl) rfl rfl (az rfl)|exact aC (F.ag _ rfl) rfl rfl (ak _ 0 rfl rfl)|exact aE rfl rfl|exact aP (F.un _ rfl) rfl|exact aI (F.un _ rfl) rfl|exact ax rfl|exact aQ rfl rfl|exact aR rfl rfl),?_⟩));exact trivial),?_⟩|refine⟨.inl (by kernel_rfl),?_⟩)))
 (repeat(refine ao ?_))
 refine bP (by kernel_rfl) (by kernel_rfl) ?_
 (repeat(first|refine aX rfl rfl rfl ?_|refine bD rfl rfl rfl ?_|refine bK rfl rfl rfl (F.ag _ rfl) rfl rfl ?_|refine kW rfl rfl rfl (F.sz _ rfl) rfl rfl rfl ?_|(refine ur rfl rfl rfl rfl (by decide) (sh17 B) ?_)|(refine pB rfl rfl rfl rfl (.inr (.inr (.inl rfl))) eD ?_)))
 (refine be ?_);(refine⟨by kernel_rfl,?_,?_⟩);(focus(repeat(first|exact trivial|refine⟨.inl rfl,?_⟩|refine⟨.inr (by(repeat(refine⟨(by first|exact bq rfl|exact bi rfl rfl (.inr (.inr (.inr (.inr (.inl ⟨rfl,rfl⟩)))))|exact bk (F.un _ rfl) (F.sz _ rfl) rfl rfl rfl (by omega) (by omega) (by omega)|exact an rfl rfl (.inl ⟨rfl,(zx _ ⟨by omega,by omega⟩).symm⟩)|exact an rfl rfl (.inr (.inl ⟨rfl,(zx _ ⟨by omega,by omega⟩).symm⟩))|exact aq (F.fo _ _ rfl rfl) rfl|exact aY rfl|exact aH rfl|exact aw (F.ag _ rfl) rfl rfl (az rfl)|exact aC (F.ag _ rfl) rfl rfl (ak _ 0 rfl rfl)|exact aE rfl rfl|exact aP (F.un _ rfl) rfl|exact aI (F.un _ rfl) rfl|exact ax rfl|exact aQ rfl rfl|exact aR rfl rfl),?_⟩));exact trivial),?_⟩|refine⟨.inl (by kernel_rfl),?_⟩)))
 (repeat(first|refine ao ?_|refine ai ?_|refine ah ?_|refine am rfl rfl rfl ?_|refine aj rfl rfl rfl ?_|refine aJ rfl rfl rfl ?_|refine aL rfl rfl rfl (F.ag _ rfl) rfl rfl ?_))
 ((apply bj Try.func72 (congrArg Array.toList Try.results72));(focus(repeat(first|exact ResIs.nil|apply ResIs.tmp rfl)));refine⟨_,rfl,Ends.mk [] (ExtOk.of rfl) rfl rfl ?_⟩)
 exact(by repeat(first|exact trivial|refine⟨eE rfl,?_⟩))
def yH(s:ByteArray):Bool:=(List.range 256).all fun i=>match s[i]? with
 | some v=>v.toNat == Sort.bitsLen i
 | none=>false
theorem wJ{s:ByteArray}(h:yH s=true){i:Nat}(hi:i<256):s[i]? =some (UInt8.ofNat (Sort.bitsLen i)):=by
 unfold yH at h
 rw [List.all_eq_true] at h
 have:=h i (List.mem_range.2 hi)
 split at this
 ·rename_i v hv
  rw [hv,←(beq_iff_eq.1 this),UInt8.ofNat_toNat]
 ·cases this
theorem wr(x:Nat)(h:256≤x):Sort.bitsLen x=8+Sort.bitsLen (x / 256):=by
 have key: ∀ k,Sort.bitsLen (x / 256)≤k↔Sort.bitsLen x≤k+8:=fun k=>by
  rw [Sort.bitsLen_le_iff,Sort.bitsLen_le_iff,Nat.pow_add,Nat.div_lt_iff_lt_mul (by decide)]
 have h8: ¬ Sort.bitsLen x≤7:=by
  rw [Sort.bitsLen_le_iff]
  omega
 have h1:=(key (Sort.bitsLen (x / 256))).1 (zP _)
 have h2:=(key (Sort.bitsLen x-8)).2 (by omega)
 omega
theorem lY{x:Nat}(h:x<65536):Sort.bitsLen x≤16:=(Sort.bitsLen_le_iff x 16).2 h
theorem yG{x:Nat}(h:x<65536):IntKind.i64.wrap (((UInt8.ofNat (Sort.bitsLen x)).toNat:Nat):Int)=(Sort.bitsLen x:Int):=by
 have:=lY h
 rw [UInt8.toNat_ofNat',Nat.mod_eq_of_lt (by omega),zx _ ⟨by omega,by omega⟩]
theorem rH(x:Nat)(hx:x<65536):Ctr Try.prog 69 [.sc (.int .u64 (x:Int))] [] (fun c=>c=⟨.sc (.int .i64 (Sort.bitsLen x:Int)),[]⟩):=by
 have h16:=lY hx
 refine Fnc.start Try.func69 rfl rfl ?_
 (repeat(first|refine ao ?_|refine ai ?_|refine ah ?_|refine am rfl rfl rfl ?_|refine aj rfl rfl rfl ?_))
 refine dQ rfl rfl rfl rfl ?_ ?_
 all_goals intro h1
 ·exact absurd h1 (by omega)
 (repeat(first|refine ao ?_|refine ai ?_|refine ah ?_|refine aN ?_|refine ay rfl ?_|refine am rfl rfl rfl ?_))
 refine dQ rfl rfl rfl rfl ?_ ?_
 all_goals intro h2
 ·exact absurd h2 (by omega)
 (repeat(first|refine ao ?_|refine ai ?_|refine ah ?_|refine aN ?_|refine ay rfl ?_|refine am rfl rfl rfl ?_))
 refine dQ rfl rfl rfl rfl ?_ ?_
 all_goals intro h3
 ·have h17:=lY (x:=x / 256) (by omega)
  (repeat(first|refine ao ?_|refine ai ?_|refine ah ?_|refine aD rfl ?_|refine am rfl rfl rfl ?_|refine aj rfl rfl rfl ?_|refine bT rfl rfl rfl rfl (by omega) (by omega) ?_|(refine yv rfl rfl rfl rfl (by decide) (sh8 x) ?_)|refine jU rfl rfl rfl (F.un _ rfl) (F.un _ rfl) (show _=((x / 256:Nat):Int)from Go.IntWalk.u8_in _ ⟨by omega,by omega⟩) ?_|(refine si rfl rfl rfl rfl (F.un _ rfl) (wJ (by kernel_rfl) (show x / 256<256 by omega)) ?_)|refine jU rfl rfl rfl (F.un _ rfl) (F.un _ rfl) (yG (x:=x / 256) (by omega)) ?_))
  rw [wr x (by omega)]
  (apply bj Try.func69 (congrArg Array.toList Try.results69);(focus(repeat(first|exact ResIs.nil|apply ResIs.tmp rfl))))
  (refine⟨_,rfl,Ends.val (ExtOk.of rfl) rfl ?_ ?_⟩)
  ·simp
  ·trivial
 ·(repeat(first|refine ao ?_|refine ai ?_|refine ah ?_|refine aN ?_|refine ay rfl ?_|refine am rfl rfl rfl ?_|refine aj rfl rfl rfl ?_|refine bT rfl rfl rfl rfl (by omega) (by omega) ?_|refine jU rfl rfl rfl (F.un _ rfl) (F.un _ rfl) (show _=(x:Int)from Go.IntWalk.u8_in _ ⟨by omega,by omega⟩) ?_|(refine si rfl rfl rfl rfl (F.un _ rfl) (wJ (by kernel_rfl) (show x<256 by omega)) ?_)|refine jU rfl rfl rfl (F.un _ rfl) (F.un _ rfl) (yG (x:=x) (by omega)) ?_))
  (apply bj Try.func69 (congrArg Array.toList Try.results69);(focus(repeat(first|exact ResIs.nil|apply ResIs.tmp rfl))))
  (refine⟨_,rfl,Ends.val (ExtOk.of rfl) rfl ?_ ?_⟩)
  ·simp
  ·trivial
theorem qu(x:Nat)(hx:x<65536):Ctr Try.prog 56 [.sc (.int .u64 (x:Int))] [] (fun c=>c=⟨.sc (.int .i64 (Sort.bitsLen x:Int)),[]⟩):=by
 refine Fnc.start Try.func56 rfl rfl ?_
 (repeat(first|refine ao ?_|refine ai ?_|refine ah ?_|refine aN ?_|refine ay rfl ?_|refine am rfl rfl rfl ?_|refine aj rfl rfl rfl ?_|refine kx (rH x hx) [] rfl rfl rfl (by kernel_rfl) rfl (ExtOk.of rfl) rfl trivial ?_))
 (apply bj Try.func56 (congrArg Array.toList Try.results56);(focus(repeat(first|exact ResIs.nil|apply ResIs.tmp rfl))))
 (refine⟨_,rfl,Ends.val (ExtOk.of rfl) rfl ?_ ?_⟩)
 ·rfl
 ·trivial
theorem yT{k:Nat}(h:k≤16):IntKind.u64.wrap ((1:Int)*2 ^ (min (Int.toNat (k:Int)) IntKind.u64.bits))=((2 ^ k:Nat):Int):=by
 have: ∀ k:Fin 17,IntKind.u64.wrap ((1:Int)*2 ^ (min (Int.toNat (k.val:Int)) IntKind.u64.bits))=((2 ^ k.val:Nat):Int):=by decide
 exact this ⟨k,by omega⟩
theorem te(x:Nat)(hx:x<65536):Ctr Try.prog 71 [.sc (.int .i64 (x:Int))] [] (fun c=>c=⟨.sc (.int .u64 ((2 ^ Sort.bitsLen x:Nat):Int)),[]⟩):=by
 refine Fnc.start Try.func71 rfl rfl ?_
 (repeat(first|refine ao ?_|refine ai ?_|refine ah ?_|refine am rfl rfl rfl ?_|refine aj rfl rfl rfl ?_|refine jU rfl rfl rfl (F.un _ rfl) (F.un _ rfl) (show _=(x:Int)from Go.IntWalk.u64_in _ ⟨by omega,by omega⟩) ?_|refine kx (qu x hx) [] rfl rfl rfl (by kernel_rfl) rfl (ExtOk.of rfl) rfl trivial ?_|(refine yw rfl rfl rfl rfl (by omega) (yT (lY hx)) ?_)))
 (apply bj Try.func71 (congrArg Array.toList Try.results71);(focus(repeat(first|exact ResIs.nil|apply ResIs.tmp rfl))))
 (refine⟨_,rfl,Ends.val (ExtOk.of rfl) rfl ?_ ?_⟩)
 ·rfl
 ·trivial
abbrev oUV:Nat→List Value:=fun x=> [.int .u64 x]
abbrev bY(n:Nat)(d:Array Nat):VO:=arr false n 1 23 oUV d
def bB(x y:Nat):Bool:=decide ((x:Int)<(y:Int))
theorem oUnan(a:Nat):Ctr Try.prog 75 [.sc (.int .u64 a)] [] (fun c=>c=⟨.sc (.bool false),[]⟩):=by
 refine Fnc.start Try.func75 rfl rfl ?_
 (repeat(first|refine ao ?_|refine ai ?_|refine ah ?_|refine am rfl rfl rfl ?_|refine aj rfl rfl rfl ?_|refine yz rfl rfl rfl rfl ?_))
 (apply bj Try.func75 (congrArg Array.toList Try.results75);(focus(repeat(first|exact ResIs.nil|apply ResIs.tmp rfl))))
 (refine⟨_,rfl,Ends.val (ExtOk.of rfl) rfl ?_ ?_⟩)
 ·simp
 ·trivial
theorem eW(a b:Nat):Ctr Try.prog 65 [.sc (.int .u64 a),.sc (.int .u64 b)] [] (fun c=>c=⟨.sc (.bool (bB a b)),[]⟩):=by
 refine Fnc.start Try.func65 rfl rfl ?_
 (repeat(first|refine ao ?_|refine ai ?_|refine ah ?_|refine am rfl rfl rfl ?_|refine aj rfl rfl rfl ?_|refine bO rfl rfl rfl rfl ?_|refine ix rfl ?_|refine kx (oUnan _) [] rfl rfl rfl (by kernel_rfl) rfl (ExtOk.of rfl) rfl trivial ?_|refine yA rfl rfl rfl rfl ?_))
 (apply bj Try.func65 (congrArg Array.toList Try.results65);(focus(repeat(first|exact ResIs.nil|apply ResIs.tmp rfl))))
 (refine⟨_,rfl,Ends.val (ExtOk.of rfl) rfl ?_ ?_⟩)
 ·rfl
 ·trivial
theorem oUins(n a b:Nat)(d:Array Nat)(hn:n<4611686018427387904)(hd:d.size=n)(hab:a≤b)(hb:b≤n) :
 Ctr Try.prog 59 [.slu 0 0 n,.sc (.int .i64 (a:Int)),.sc (.int .i64 (b:Int))] [bY n d] (fun c=>c=⟨.tup [],[some (bY n (Sort.insertionSort bB d a b))]⟩):=by
 refine Fnc.start Try.func59 rfl rfl ?_
 (repeat(first|refine ao ?_|refine ai ?_|refine ah ?_|refine aT ?_|refine am rfl rfl rfl ?_|refine aj rfl rfl rfl ?_|refine bT rfl rfl rfl rfl (by omega) (by omega) ?_))
 refine ft 1 (fun s:Nat×Array Nat=> [(0,.slu 0 0 n),(1,.sc (.int .i64 (a:Int))),(2,.sc (.int .i64 (b:Int))),(6,.sc (.int .i64 (s.1:Int)))]) (fun s=> [some (bY n s.2)]) (fun s=>s.1≤n+1∧a<s.1∧s.2.size=n∧Sort.insOuter bB a b s.1 s.2=Sort.insertionSort bB d a b) (fun s=>n+1-s.1) (a+1,d) []
  (fun _=>rfl) ⟨by omega,by omega,hd,rfl⟩ ?_ (fun _=>rfl) (fun _=>rfl) ?_
 ·(refine⟨(ExtOk.of rfl),rfl,(by repeat(first|exact trivial|refine⟨rfl,?_⟩)),(by repeat(first|exact trivial|refine⟨aW rfl,?_⟩))⟩)
 rintro⟨i,d1⟩ ⟨hi,hai,hd1,ho⟩ ih
 simp only at hi hai hd1 ho ih ⊢
 (repeat(first|refine ao ?_|refine ai ?_|refine am rfl rfl rfl ?_))
 refine cu rfl rfl rfl rfl ?_ ?_
 all_goals intro h1
 ·(repeat(first|refine ao ?_|refine ai ?_|refine ah ?_|refine aT ?_|refine aN ?_|refine aD rfl ?_|refine am rfl rfl rfl ?_|refine aj rfl rfl rfl ?_))
  have ho2:Sort.insOuter bB a b (i+1) (Sort.insInner bB a i d1)=Sort.insertionSort bB d a b:=by
   rw [← ho]
   conv=>rhs;rw [Sort.insOuter,if_pos (by omega)]
  refine ft 1 (fun s:Nat×Array Nat=> [(0,.slu 0 0 n),(1,.sc (.int .i64 (a:Int))),(2,.sc (.int .i64 (b:Int))),(6,.sc (.int .i64 (i:Int))),(7,.sc (.int .i64 (s.1:Int)))]) (fun s=> [some (bY n s.2)]) (fun s=>s.1≤i∧s.2.size=n∧Sort.insInner bB a s.1 s.2=Sort.insInner bB a i d1) (fun s=>s.1) (i,d1) []
   (fun _=>rfl) ⟨by omega,hd1,rfl⟩ ?_ (fun _=>rfl) (fun _=>rfl) ?_
  ·(refine⟨(ExtOk.of rfl),rfl,(by repeat(first|exact trivial|refine⟨rfl,?_⟩)),(by repeat(first|exact trivial|refine⟨aW rfl,?_⟩))⟩)
  rintro⟨j,d2⟩ ⟨hj,hd2,hin⟩ ihj
  simp only at hj hd2 hin ihj ⊢
  (repeat(refine ao ?_))
  refine bP (by kernel_rfl) (by kernel_rfl) ?_
  (repeat(refine aX rfl rfl rfl ?_))
  refine mK rfl rfl rfl rfl ?_ ?_
  all_goals intro h2
  ·obtain⟨j,rfl⟩: ∃ j',j=j'+1:=⟨j-1,by omega⟩
   have hls:=eW d2[j+1]! d2[j]!
   cases h3:bB d2[j+1]! d2[j]!
   all_goals rw [h3] at hls
   all_goals(repeat(first|refine aX rfl rfl rfl ?_|refine dH rfl rfl rfl rfl ?_|refine f8 rfl rfl rfl rfl (by omega) (by omega) ?_|refine bb (q:=j+1) rfl rfl rfl rfl (F.un _ rfl) (F.sz _ rfl) rfl (by omega) (by omega) (by omega) ?_|refine bb (q:=j) rfl rfl rfl rfl (F.un _ rfl) (F.sz _ rfl) rfl (by omega) (by omega) (by omega) ?_|(refine cv (g:=fun x:Nat=> .int .u64 x) rfl rfl rfl (F.ag _ rfl) rfl (by omega) (by omega) ?_)|refine b5 rfl rfl rfl (by kernel_rfl) (Ctr.callV (hls) [] rfl (ExtOk.of rfl) rfl trivial rfl) ?_))
   ·(refine be ?_);(refine⟨by kernel_rfl,?_,?_⟩);(focus(repeat(first|exact trivial|refine⟨.inl rfl,?_⟩|refine⟨.inr (by(repeat(refine⟨(by first|exact bq rfl|exact bi rfl rfl (.inr (.inr (.inr (.inr (.inl ⟨rfl,rfl⟩)))))|exact bk (F.un _ rfl) (F.sz _ rfl) rfl rfl rfl (by omega) (by omega) (by omega)|exact an rfl rfl (.inl ⟨rfl,(zx _ ⟨by omega,by omega⟩).symm⟩)|exact an rfl rfl (.inr (.inl ⟨rfl,(zx _ ⟨by omega,by omega⟩).symm⟩))|exact aq (F.fo _ _ rfl rfl) rfl|exact aY rfl|exact aH rfl|exact aw (F.ag _ rfl) rfl rfl (az rfl)|exact aC (F.ag _ rfl) rfl rfl (ak _ 0 rfl rfl)|exact aE rfl rfl|exact aP (F.un _ rfl) rfl|exact aI (F.un _ rfl) rfl|exact ax rfl|exact aQ rfl rfl|exact aR rfl rfl),?_⟩));exact trivial),?_⟩|refine⟨.inl (by kernel_rfl),?_⟩)))
    (repeat(first|refine ai ?_|refine ah ?_|refine aM ?_|refine bA rfl ?_|refine ay rfl ?_|refine am rfl rfl rfl ?_|refine aj rfl rfl rfl ?_|refine bT rfl rfl rfl rfl (by omega) (by omega) ?_))
    have hin2:Sort.insInner bB a i d1=d2:=by
     rw [← hin,Sort.insInner,if_neg (by rw [h3];simp)]
    refine ih _ _ _ (i+1,d2) [] ⟨by omega,by omega,hd2,by rw [← hin2];exact ho2⟩ (by simp only;omega) ?_
    (refine⟨(ExtOk.of rfl),rfl,(by repeat(first|exact trivial|refine⟨rfl,?_⟩)),(by repeat(first|exact trivial|refine⟨aW rfl,?_⟩))⟩)
   ·(refine be ?_);(refine⟨by kernel_rfl,?_,?_⟩);(focus(repeat(first|exact trivial|refine⟨.inl rfl,?_⟩|refine⟨.inr (by(repeat(refine⟨(by first|exact bq rfl|exact bi rfl rfl (.inr (.inr (.inr (.inr (.inl ⟨rfl,rfl⟩)))))|exact bk (F.un _ rfl) (F.sz _ rfl) rfl rfl rfl (by omega) (by omega) (by omega)|exact an rfl rfl (.inl ⟨rfl,(zx _ ⟨by omega,by omega⟩).symm⟩)|exact an rfl rfl (.inr (.inl ⟨rfl,(zx _ ⟨by omega,by omega⟩).symm⟩))|exact aq (F.fo _ _ rfl rfl) rfl|exact aY rfl|exact aH rfl|exact aw (F.ag _ rfl) rfl rfl (az rfl)|exact aC (F.ag _ rfl) rfl rfl (ak _ 0 rfl rfl)|exact aE rfl rfl|exact aP (F.un _ rfl) rfl|exact aI (F.un _ rfl) rfl|exact ax rfl|exact aQ rfl rfl|exact aR rfl rfl),?_⟩));exact trivial),?_⟩|refine⟨.inl (by kernel_rfl),?_⟩)))
    (repeat(first|refine ao ?_|refine aT ?_|refine aN ?_|refine aD rfl ?_))
    refine bP (by kernel_rfl) (by kernel_rfl) ?_
    (repeat(first|refine aX rfl rfl rfl ?_|refine f8 rfl rfl rfl rfl (by omega) (by omega) ?_|refine bb (q:=j+1) rfl rfl rfl rfl (F.un _ rfl) (F.sz _ rfl) rfl (by omega) (by omega) (by omega) ?_|refine bb (q:=j) rfl rfl rfl rfl (F.un _ rfl) (F.sz _ rfl) rfl (by omega) (by omega) (by omega) ?_|(refine cv (g:=fun x:Nat=> .int .u64 x) rfl rfl rfl (F.ag _ rfl) rfl (by omega) (by omega) ?_)|(refine er (g:=fun x:Nat=> .int .u64 x) rfl rfl rfl (fun _=>rfl) (F.sz _ rfl) rfl (by first|omega|(simp only [zy,aB];omega)) (by first|omega|(simp only [zy,aB];omega)) ?_)))
    (refine be ?_);(refine⟨by kernel_rfl,?_,?_⟩);(focus(repeat(first|exact trivial|refine⟨.inl rfl,?_⟩|refine⟨.inr (by(repeat(refine⟨(by first|exact bq rfl|exact bi rfl rfl (.inr (.inr (.inr (.inr (.inl ⟨rfl,rfl⟩)))))|exact bk (F.un _ rfl) (F.sz _ rfl) rfl rfl rfl (by omega) (by omega) (by omega)|exact an rfl rfl (.inl ⟨rfl,(zx _ ⟨by omega,by omega⟩).symm⟩)|exact an rfl rfl (.inr (.inl ⟨rfl,(zx _ ⟨by omega,by omega⟩).symm⟩))|exact aq (F.fo _ _ rfl rfl) rfl|exact aY rfl|exact aH rfl|exact aw (F.ag _ rfl) rfl rfl (az rfl)|exact aC (F.ag _ rfl) rfl rfl (ak _ 0 rfl rfl)|exact aE rfl rfl|exact aP (F.un _ rfl) rfl|exact aI (F.un _ rfl) rfl|exact ax rfl|exact aQ rfl rfl|exact aR rfl rfl),?_⟩));exact trivial),?_⟩|refine⟨.inl (by kernel_rfl),?_⟩)))
    (repeat(first|refine ai ?_|refine ah ?_|refine aM ?_|refine am rfl rfl rfl ?_|refine aj rfl rfl rfl ?_|refine dB rfl rfl rfl rfl (by omega) (by omega) ?_))
    refine ihj _ _ _ (j,Sort.swp d2 (j+1) j) [] ⟨by omega,by rw [aB];exact hd2,?_⟩ (by simp only;omega) ?_
    ·rw [← hin]
     conv=>rhs;rw [Sort.insInner,if_pos (by simp only [h3,zO,decide_eq_true_eq,and_true];omega)]
    ·(refine⟨(ExtOk.of rfl),rfl,(by repeat(first|exact trivial|refine⟨rfl,?_⟩|refine⟨dS (by first|omega|(simp only;omega)),?_⟩)),(by repeat(first|exact trivial|refine⟨aW rfl,?_⟩))⟩)
  ·(repeat(first|refine aX rfl rfl rfl ?_|refine cW rfl rfl rfl rfl ?_|refine e8 rfl rfl ?_))
   (refine be ?_);(refine⟨by kernel_rfl,?_,?_⟩);(focus(repeat(first|exact trivial|refine⟨.inl rfl,?_⟩)))
   (repeat(first|refine ai ?_|refine ah ?_|refine aM ?_|refine bA rfl ?_|refine ay rfl ?_|refine am rfl rfl rfl ?_|refine aj rfl rfl rfl ?_|refine bT rfl rfl rfl rfl (by omega) (by omega) ?_))
   have hin2:Sort.insInner bB a i d1=d2:=by
    rw [← hin]
    cases j with
    | zero=>rfl
    | succ j=>rw [Sort.insInner,if_neg (by simp only [zO,decide_eq_true_eq];omega)]
   refine ih _ _ _ (i+1,d2) [] ⟨by omega,by omega,hd2,by rw [← hin2];exact ho2⟩ (by simp only;omega) ?_
   (refine⟨(ExtOk.of rfl),rfl,(by repeat(first|exact trivial|refine⟨rfl,?_⟩)),(by repeat(first|exact trivial|refine⟨aW rfl,?_⟩))⟩)
 ·(repeat(first|refine ah ?_|refine bA rfl ?_|refine ay rfl ?_))
  have ho2:d1=Sort.insertionSort bB d a b:=by rw [← ho,Sort.insOuter,if_neg (by omega)]
  (apply lm Try.func59 (congrArg Array.toList Try.results59);(focus(repeat(exact ResIs.nil)));refine⟨_,rfl,Ends.mk [] (ExtOk.of rfl) rfl rfl ?_⟩)
  rw [← ho2]
  exact(by repeat(first|exact trivial|refine⟨aW rfl,?_⟩))
end Go.Proofs.Ytckajlllkmkniaa
end
section
namespace Go.Proofs.Ytckajlllkmkniaa
open Go Go.Sy Go.RowKit
theorem gw(lt:Nat→Nat→Bool)(hi first root:Nat)(d:Array (Nat)):(Sort.siftDown lt hi first root d).size=d.size:=by
 induction h:hi-root using Nat.strongRecOn generalizing root d with
 | _ m ih=>
   subst h
   unfold Sort.siftDown
   split
   ·rfl
   ·split
    ·split
     ·rfl
     ·split
      ·rw [ih _ (by omega) _ _ rfl,aB]
      ·rfl
    ·split
     ·rfl
     ·rw [ih _ (by omega) _ _ rfl,aB]
theorem nG{lt:Nat→Nat→Bool}{hi first root:Nat}{d:Array (Nat)}(h:hi≤2*root+1):Sort.siftDown lt hi first root d=d:=by
 unfold Sort.siftDown
 rw [dif_pos h]
theorem tv{lt:Nat→Nat→Bool}{hi first root:Nat}{d:Array (Nat)}(h:2*root+2<hi)(hl:lt d[first+(2*root+1)]! d[first+(2*root+2)]! =true) :
 Sort.siftDown lt hi first root d=if lt d[first+root]! d[first+(2*root+2)]! =true then Sort.siftDown lt hi first (2*root+2) (Sort.swp d (first+root) (first+(2*root+2))) else d:=by
 conv=>lhs;unfold Sort.siftDown
 rw [dif_neg (by omega),if_pos (by simp only [zO,decide_eq_true_eq];exact⟨by omega,hl⟩)]
 cases lt d[first+root]! d[first+(2*root+2)]!
 ·simp
 ·simp only [Bool.not_true,Bool.false_eq_true,if_false,if_true]
  rw [dif_pos (by omega)]
theorem nH{lt:Nat→Nat→Bool}{hi first root:Nat}{d:Array (Nat)}(h:2*root+1<hi)(hl:hi≤2*root+2∨lt d[first+(2*root+1)]! d[first+(2*root+2)]! =false) :
 Sort.siftDown lt hi first root d=if lt d[first+root]! d[first+(2*root+1)]! =true then Sort.siftDown lt hi first (2*root+1) (Sort.swp d (first+root) (first+(2*root+1))) else d:=by
 conv=>lhs;unfold Sort.siftDown
 rw [dif_neg (by omega),if_neg (by
  simp only [zO,decide_eq_true_eq]
  rintro⟨h1,h2⟩
  rcases hl with hl|hl
  ·omega
  ·rw [show first+(2*root+2)=first+(2*root+1)+1 by omega,h2] at hl;cases hl)]
 cases lt d[first+root]! d[first+(2*root+1)]! <;> simp
theorem jZ(n lo hi first:Nat)(d:Array (Nat))(hn:n<4611686018427387904)(hd:d.size=n)(hf:first+hi≤n)(hlo:lo≤n) :
 Ctr Try.prog 70 [.slu 0 0 n,.sc (.int .i64 (lo:Int)),.sc (.int .i64 (hi:Int)),.sc (.int .i64 (first:Int))] [bY n d] (fun c=>c=⟨.tup [],[some (bY n (Sort.siftDown bB hi first lo d))]⟩):=by
 refine Fnc.start Try.func70 rfl rfl ?_
 (repeat(first|refine ao ?_|refine ai ?_|refine ah ?_|refine aT ?_|refine am rfl rfl rfl ?_|refine aj rfl rfl rfl ?_))
 refine ft 1 (fun s:Nat×Array (Nat)=> [(0,.slu 0 0 n),(2,.sc (.int .i64 (hi:Int))),(3,.sc (.int .i64 (first:Int))),(8,.sc (.int .i64 (s.1:Int)))]) (fun s=> [some (bY n s.2)]) (fun s=>s.1≤n∧s.2.size=n∧Sort.siftDown bB hi first s.1 s.2=Sort.siftDown bB hi first lo d) (fun s=>n-s.1) (lo,d) []
  (fun _=>rfl) ⟨hlo,hd,rfl⟩ ?_ (fun _=>rfl) (fun _=>rfl) ?_
 ·(refine⟨(ExtOk.of rfl),rfl,(by repeat(first|exact trivial|refine⟨rfl,?_⟩)),(by repeat(first|exact trivial|refine⟨aW rfl,?_⟩))⟩)
 rintro⟨r,d1⟩ ⟨hr,hd1,ho⟩ ih
 simp only at hr hd1 ho ih ⊢
 (repeat(first|refine ao ?_|refine ai ?_|refine ah ?_|refine aT ?_|refine am rfl rfl rfl ?_|refine aj rfl rfl rfl ?_|refine bT rfl rfl rfl rfl (by omega) (by omega) ?_|refine uY rfl rfl rfl rfl (by omega) (by omega) ?_))
 refine dQ rfl rfl rfl rfl ?_ ?_
 all_goals intro h1
 ·(repeat(first|refine ah ?_|refine bA rfl ?_|refine aD rfl ?_))
  ((apply lm Try.func70 (congrArg Array.toList Try.results70));(focus(repeat(exact ResIs.nil)));refine⟨_,rfl,Ends.mk [] (ExtOk.of rfl) rfl rfl ?_⟩)
  rw [← ho,nG (by omega)]
  exact(by repeat(first|exact trivial|refine⟨aW rfl,?_⟩))
 ·(repeat(first|refine ao ?_|refine ah ?_|refine aN ?_|refine ay rfl ?_))
  refine bP (by kernel_rfl) (by kernel_rfl) ?_
  (repeat(first|refine aX rfl rfl rfl ?_|refine fD rfl rfl rfl rfl (by omega) (by omega) ?_))
  refine kY rfl rfl rfl rfl ?_ ?_
  all_goals intro h2
  ·have hls_h3:=eW (d1[first+(2*r+1)]!) (d1[first+(2*r+2)]!)
   cases h3:bB (d1[first+(2*r+1)]!) (d1[first+(2*r+2)]!)
   all_goals rw [h3] at hls_h3
   rotate_left
   all_goals(repeat(first|refine aX rfl rfl rfl ?_|refine dH rfl rfl rfl rfl ?_|refine fD rfl rfl rfl rfl (by omega) (by omega) ?_|(refine cv (g:=fun x:Nat=> .int .u64 x) rfl rfl rfl (F.ag _ rfl) rfl (by first|omega|(simp only [zy,aB];omega)) (by first|omega|(simp only [zy,aB];omega)) ?_)|refine bb (q:=first+(2*r+1)) rfl rfl rfl rfl (F.un _ rfl) (F.sz _ rfl) rfl (by omega) (by omega) (by omega) ?_|refine bb (q:=first+(2*r+2)) rfl rfl rfl rfl (F.un _ rfl) (F.sz _ rfl) rfl (by omega) (by omega) (by omega) ?_|refine b5 rfl rfl rfl (by kernel_rfl) (Ctr.callV (hls_h3) [] rfl (ExtOk.of rfl) rfl trivial rfl) ?_))
   ·have e:=tv (lt:=bB) (hi:=hi) (first:=first) (root:=r) (d:=d1) (by omega) (by simpa [bB] using h3)
    (refine be ?_);(refine⟨by kernel_rfl,?_,?_⟩);(focus(repeat(first|exact trivial|refine⟨.inl rfl,?_⟩|refine⟨.inr (by(repeat(refine⟨(by first|exact bq rfl|exact bi rfl rfl (.inr (.inr (.inr (.inr (.inl ⟨rfl,rfl⟩)))))|exact bk (F.un _ rfl) (F.sz _ rfl) rfl rfl rfl (by omega) (by omega) (by omega)|exact an rfl rfl (.inl ⟨rfl,(zx _ ⟨by omega,by omega⟩).symm⟩)|exact an rfl rfl (.inr (.inl ⟨rfl,(zx _ ⟨by omega,by omega⟩).symm⟩))|exact aq (F.fo _ _ rfl rfl) rfl|exact aY rfl|exact aH rfl|exact aw (F.ag _ rfl) rfl rfl (az rfl)|exact aC (F.ag _ rfl) rfl rfl (ak _ 0 rfl rfl)|exact aE rfl rfl|exact aP (F.un _ rfl) rfl|exact aI (F.un _ rfl) rfl|exact ax rfl|exact aQ rfl rfl|exact aR rfl rfl),?_⟩));exact trivial),?_⟩|refine⟨.inl (by kernel_rfl),?_⟩)))
    (repeat(first|refine ao ?_|refine ai ?_|refine ah ?_|refine aD rfl ?_|refine am rfl rfl rfl ?_|refine aj rfl rfl rfl ?_|refine bT rfl rfl rfl rfl (by omega) (by omega) ?_))
    refine bP (by kernel_rfl) (by kernel_rfl) ?_
    have hls_h4:=eW (d1[first+r]!) (d1[first+(2*r+2)]!)
    cases h4:bB (d1[first+r]!) (d1[first+(2*r+2)]!)
    all_goals rw [h4] at hls_h4
    rotate_left
    all_goals(repeat(first|refine aX rfl rfl rfl ?_|refine fD rfl rfl rfl rfl (by omega) (by omega) ?_|refine eu rfl rfl rfl ?_|(refine cv (g:=fun x:Nat=> .int .u64 x) rfl rfl rfl (F.ag _ rfl) rfl (by first|omega|(simp only [zy,aB];omega)) (by first|omega|(simp only [zy,aB];omega)) ?_)|refine bb (q:=first+r) rfl rfl rfl rfl (F.un _ rfl) (F.sz _ rfl) rfl (by omega) (by omega) (by omega) ?_|refine bb (q:=first+(2*r+2)) rfl rfl rfl rfl (F.un _ rfl) (F.sz _ rfl) rfl (by omega) (by omega) (by omega) ?_|refine b5 rfl rfl rfl (by kernel_rfl) (Ctr.callV (hls_h4) [] rfl (ExtOk.of rfl) rfl trivial rfl) ?_))
    ·rw [if_pos (by simpa [bB] using h4)] at e
     (refine be ?_);(refine⟨by kernel_rfl,?_,?_⟩);(focus(repeat(first|exact trivial|refine⟨.inl rfl,?_⟩|refine⟨.inr (by(repeat(refine⟨(by first|exact bq rfl|exact bi rfl rfl (.inr (.inr (.inr (.inr (.inl ⟨rfl,rfl⟩)))))|exact bk (F.un _ rfl) (F.sz _ rfl) rfl rfl rfl (by omega) (by omega) (by omega)|exact an rfl rfl (.inl ⟨rfl,(zx _ ⟨by omega,by omega⟩).symm⟩)|exact an rfl rfl (.inr (.inl ⟨rfl,(zx _ ⟨by omega,by omega⟩).symm⟩))|exact aq (F.fo _ _ rfl rfl) rfl|exact aY rfl|exact aH rfl|exact aw (F.ag _ rfl) rfl rfl (az rfl)|exact aC (F.ag _ rfl) rfl rfl (ak _ 0 rfl rfl)|exact aE rfl rfl|exact aP (F.un _ rfl) rfl|exact aI (F.un _ rfl) rfl|exact ax rfl|exact aQ rfl rfl|exact aR rfl rfl),?_⟩));exact trivial),?_⟩|refine⟨.inl (by kernel_rfl),?_⟩)))
     (repeat(first|refine ao ?_|refine aN ?_|refine ay rfl ?_))
     refine bP (by kernel_rfl) (by kernel_rfl) ?_
     (repeat(first|refine aX rfl rfl rfl ?_|refine fD rfl rfl rfl rfl (by omega) (by omega) ?_|(refine cv (g:=fun x:Nat=> .int .u64 x) rfl rfl rfl (F.ag _ rfl) rfl (by first|omega|(simp only [zy,aB];omega)) (by first|omega|(simp only [zy,aB];omega)) ?_)|(refine er (g:=fun x:Nat=> .int .u64 x) rfl rfl rfl (fun _=>rfl) (F.sz _ rfl) rfl (by first|omega|(simp only [zy,aB];omega)) (by first|omega|(simp only [zy,aB];omega)) ?_)|refine bb (q:=first+r) rfl rfl rfl rfl (F.un _ rfl) (F.sz _ rfl) rfl (by omega) (by omega) (by omega) ?_|refine bb (q:=first+(2*r+2)) rfl rfl rfl rfl (F.un _ rfl) (F.sz _ rfl) rfl (by omega) (by omega) (by omega) ?_))
     (refine be ?_);(refine⟨by kernel_rfl,?_,?_⟩);(focus(repeat(first|exact trivial|refine⟨.inl rfl,?_⟩|refine⟨.inr (by(repeat(refine⟨(by first|exact bq rfl|exact bi rfl rfl (.inr (.inr (.inr (.inr (.inl ⟨rfl,rfl⟩)))))|exact bk (F.un _ rfl) (F.sz _ rfl) rfl rfl rfl (by omega) (by omega) (by omega)|exact an rfl rfl (.inl ⟨rfl,(zx _ ⟨by omega,by omega⟩).symm⟩)|exact an rfl rfl (.inr (.inl ⟨rfl,(zx _ ⟨by omega,by omega⟩).symm⟩))|exact aq (F.fo _ _ rfl rfl) rfl|exact aY rfl|exact aH rfl|exact aw (F.ag _ rfl) rfl rfl (az rfl)|exact aC (F.ag _ rfl) rfl rfl (ak _ 0 rfl rfl)|exact aE rfl rfl|exact aP (F.un _ rfl) rfl|exact aI (F.un _ rfl) rfl|exact ax rfl|exact aQ rfl rfl|exact aR rfl rfl),?_⟩));exact trivial),?_⟩|refine⟨.inl (by kernel_rfl),?_⟩)))
     (repeat(first|refine ai ?_|refine ah ?_|refine aM ?_|refine am rfl rfl rfl ?_|refine aj rfl rfl rfl ?_))
     refine ih _ _ _ (2*r+2,Sort.swp d1 (first+r) (first+(2*r+2))) [] ⟨by simp only;omega,by rw [aB];exact hd1,by rw [← ho,e]⟩ (by simp only;omega) ?_
     (refine⟨(ExtOk.of rfl),rfl,(by repeat(first|exact trivial|refine⟨rfl,?_⟩)),(by repeat(first|exact trivial|refine⟨aW rfl,?_⟩))⟩)
    ·rw [if_neg (by simpa [bB] using h4)] at e
     (refine be ?_);(refine⟨by kernel_rfl,?_,?_⟩);(focus(repeat(first|exact trivial|refine⟨.inl rfl,?_⟩|refine⟨.inr (by(repeat(refine⟨(by first|exact bq rfl|exact bi rfl rfl (.inr (.inr (.inr (.inr (.inl ⟨rfl,rfl⟩)))))|exact bk (F.un _ rfl) (F.sz _ rfl) rfl rfl rfl (by omega) (by omega) (by omega)|exact an rfl rfl (.inl ⟨rfl,(zx _ ⟨by omega,by omega⟩).symm⟩)|exact an rfl rfl (.inr (.inl ⟨rfl,(zx _ ⟨by omega,by omega⟩).symm⟩))|exact aq (F.fo _ _ rfl rfl) rfl|exact aY rfl|exact aH rfl|exact aw (F.ag _ rfl) rfl rfl (az rfl)|exact aC (F.ag _ rfl) rfl rfl (ak _ 0 rfl rfl)|exact aE rfl rfl|exact aP (F.un _ rfl) rfl|exact aI (F.un _ rfl) rfl|exact ax rfl|exact aQ rfl rfl|exact aR rfl rfl),?_⟩));exact trivial),?_⟩|refine⟨.inl (by kernel_rfl),?_⟩)))
     (repeat(refine aD rfl ?_))
     ((apply bj Try.func70 (congrArg Array.toList Try.results70));(focus(repeat(exact ResIs.nil)));refine⟨_,rfl,Ends.mk [] (ExtOk.of rfl) rfl rfl ?_⟩)
     rw [← ho,e]
     exact(by repeat(first|exact trivial|refine⟨aW rfl,?_⟩))
   ·have e:=nH (lt:=bB) (hi:=hi) (first:=first) (root:=r) (d:=d1) (by omega) (.inr (by simpa [bB] using h3))
    (refine be ?_);(refine⟨by kernel_rfl,?_,?_⟩);(focus(repeat(first|exact trivial|refine⟨.inl rfl,?_⟩|refine⟨.inr (by(repeat(refine⟨(by first|exact bq rfl|exact bi rfl rfl (.inr (.inr (.inr (.inr (.inl ⟨rfl,rfl⟩)))))|exact bk (F.un _ rfl) (F.sz _ rfl) rfl rfl rfl (by omega) (by omega) (by omega)|exact an rfl rfl (.inl ⟨rfl,(zx _ ⟨by omega,by omega⟩).symm⟩)|exact an rfl rfl (.inr (.inl ⟨rfl,(zx _ ⟨by omega,by omega⟩).symm⟩))|exact aq (F.fo _ _ rfl rfl) rfl|exact aY rfl|exact aH rfl|exact aw (F.ag _ rfl) rfl rfl (az rfl)|exact aC (F.ag _ rfl) rfl rfl (ak _ 0 rfl rfl)|exact aE rfl rfl|exact aP (F.un _ rfl) rfl|exact aI (F.un _ rfl) rfl|exact ax rfl|exact aQ rfl rfl|exact aR rfl rfl),?_⟩));exact trivial),?_⟩|refine⟨.inl (by kernel_rfl),?_⟩)))
    (repeat(first|refine ao ?_|refine aN ?_|refine ay rfl ?_))
    refine bP (by kernel_rfl) (by kernel_rfl) ?_
    have hls_h4:=eW (d1[first+r]!) (d1[first+(2*r+1)]!)
    cases h4:bB (d1[first+r]!) (d1[first+(2*r+1)]!)
    all_goals rw [h4] at hls_h4
    rotate_left
    all_goals(repeat(first|refine aX rfl rfl rfl ?_|refine fD rfl rfl rfl rfl (by omega) (by omega) ?_|refine eu rfl rfl rfl ?_|(refine cv (g:=fun x:Nat=> .int .u64 x) rfl rfl rfl (F.ag _ rfl) rfl (by first|omega|(simp only [zy,aB];omega)) (by first|omega|(simp only [zy,aB];omega)) ?_)|refine bb (q:=first+r) rfl rfl rfl rfl (F.un _ rfl) (F.sz _ rfl) rfl (by omega) (by omega) (by omega) ?_|refine bb (q:=first+(2*r+1)) rfl rfl rfl rfl (F.un _ rfl) (F.sz _ rfl) rfl (by omega) (by omega) (by omega) ?_|refine b5 rfl rfl rfl (by kernel_rfl) (Ctr.callV (hls_h4) [] rfl (ExtOk.of rfl) rfl trivial rfl) ?_))
    ·rw [if_pos (by simpa [bB] using h4)] at e
     (refine be ?_);(refine⟨by kernel_rfl,?_,?_⟩);(focus(repeat(first|exact trivial|refine⟨.inl rfl,?_⟩|refine⟨.inr (by(repeat(refine⟨(by first|exact bq rfl|exact bi rfl rfl (.inr (.inr (.inr (.inr (.inl ⟨rfl,rfl⟩)))))|exact bk (F.un _ rfl) (F.sz _ rfl) rfl rfl rfl (by omega) (by omega) (by omega)|exact an rfl rfl (.inl ⟨rfl,(zx _ ⟨by omega,by omega⟩).symm⟩)|exact an rfl rfl (.inr (.inl ⟨rfl,(zx _ ⟨by omega,by omega⟩).symm⟩))|exact aq (F.fo _ _ rfl rfl) rfl|exact aY rfl|exact aH rfl|exact aw (F.ag _ rfl) rfl rfl (az rfl)|exact aC (F.ag _ rfl) rfl rfl (ak _ 0 rfl rfl)|exact aE rfl rfl|exact aP (F.un _ rfl) rfl|exact aI (F.un _ rfl) rfl|exact ax rfl|exact aQ rfl rfl|exact aR rfl rfl),?_⟩));exact trivial),?_⟩|refine⟨.inl (by kernel_rfl),?_⟩)))
     (repeat(first|refine ao ?_|refine aN ?_|refine ay rfl ?_))
     refine bP (by kernel_rfl) (by kernel_rfl) ?_
     (repeat(first|refine aX rfl rfl rfl ?_|refine fD rfl rfl rfl rfl (by omega) (by omega) ?_|(refine cv (g:=fun x:Nat=> .int .u64 x) rfl rfl rfl (F.ag _ rfl) rfl (by first|omega|(simp only [zy,aB];omega)) (by first|omega|(simp only [zy,aB];omega)) ?_)|(refine er (g:=fun x:Nat=> .int .u64 x) rfl rfl rfl (fun _=>rfl) (F.sz _ rfl) rfl (by first|omega|(simp only [zy,aB];omega)) (by first|omega|(simp only [zy,aB];omega)) ?_)|refine bb (q:=first+r) rfl rfl rfl rfl (F.un _ rfl) (F.sz _ rfl) rfl (by omega) (by omega) (by omega) ?_|refine bb (q:=first+(2*r+1)) rfl rfl rfl rfl (F.un _ rfl) (F.sz _ rfl) rfl (by omega) (by omega) (by omega) ?_))
     (refine be ?_);(refine⟨by kernel_rfl,?_,?_⟩);(focus(repeat(first|exact trivial|refine⟨.inl rfl,?_⟩|refine⟨.inr (by(repeat(refine⟨(by first|exact bq rfl|exact bi rfl rfl (.inr (.inr (.inr (.inr (.inl ⟨rfl,rfl⟩)))))|exact bk (F.un _ rfl) (F.sz _ rfl) rfl rfl rfl (by omega) (by omega) (by omega)|exact an rfl rfl (.inl ⟨rfl,(zx _ ⟨by omega,by omega⟩).symm⟩)|exact an rfl rfl (.inr (.inl ⟨rfl,(zx _ ⟨by omega,by omega⟩).symm⟩))|exact aq (F.fo _ _ rfl rfl) rfl|exact aY rfl|exact aH rfl|exact aw (F.ag _ rfl) rfl rfl (az rfl)|exact aC (F.ag _ rfl) rfl rfl (ak _ 0 rfl rfl)|exact aE rfl rfl|exact aP (F.un _ rfl) rfl|exact aI (F.un _ rfl) rfl|exact ax rfl|exact aQ rfl rfl|exact aR rfl rfl),?_⟩));exact trivial),?_⟩|refine⟨.inl (by kernel_rfl),?_⟩)))
     (repeat(first|refine ai ?_|refine ah ?_|refine aM ?_|refine am rfl rfl rfl ?_|refine aj rfl rfl rfl ?_))
     refine ih _ _ _ (2*r+1,Sort.swp d1 (first+r) (first+(2*r+1))) [] ⟨by simp only;omega,by rw [aB];exact hd1,by rw [← ho,e]⟩ (by simp only;omega) ?_
     (refine⟨(ExtOk.of rfl),rfl,(by repeat(first|exact trivial|refine⟨rfl,?_⟩)),(by repeat(first|exact trivial|refine⟨aW rfl,?_⟩))⟩)
    ·rw [if_neg (by simpa [bB] using h4)] at e
     (refine be ?_);(refine⟨by kernel_rfl,?_,?_⟩);(focus(repeat(first|exact trivial|refine⟨.inl rfl,?_⟩|refine⟨.inr (by(repeat(refine⟨(by first|exact bq rfl|exact bi rfl rfl (.inr (.inr (.inr (.inr (.inl ⟨rfl,rfl⟩)))))|exact bk (F.un _ rfl) (F.sz _ rfl) rfl rfl rfl (by omega) (by omega) (by omega)|exact an rfl rfl (.inl ⟨rfl,(zx _ ⟨by omega,by omega⟩).symm⟩)|exact an rfl rfl (.inr (.inl ⟨rfl,(zx _ ⟨by omega,by omega⟩).symm⟩))|exact aq (F.fo _ _ rfl rfl) rfl|exact aY rfl|exact aH rfl|exact aw (F.ag _ rfl) rfl rfl (az rfl)|exact aC (F.ag _ rfl) rfl rfl (ak _ 0 rfl rfl)|exact aE rfl rfl|exact aP (F.un _ rfl) rfl|exact aI (F.un _ rfl) rfl|exact ax rfl|exact aQ rfl rfl|exact aR rfl rfl),?_⟩));exact trivial),?_⟩|refine⟨.inl (by kernel_rfl),?_⟩)))
     (repeat(refine aD rfl ?_))
     ((apply bj Try.func70 (congrArg Array.toList Try.results70));(focus(repeat(exact ResIs.nil)));refine⟨_,rfl,Ends.mk [] (ExtOk.of rfl) rfl rfl ?_⟩)
     rw [← ho,e]
     exact(by repeat(first|exact trivial|refine⟨aW rfl,?_⟩))
  ·have e:=nH (lt:=bB) (hi:=hi) (first:=first) (root:=r) (d:=d1) (by omega) (.inl (by omega))
   (repeat(first|refine aX rfl rfl rfl ?_|refine cW rfl rfl rfl rfl ?_|refine e8 rfl rfl ?_))
   (refine be ?_);(refine⟨by kernel_rfl,?_,?_⟩);(focus(repeat(first|exact trivial|refine⟨.inl rfl,?_⟩)))
   (repeat(first|refine ao ?_|refine aN ?_|refine ay rfl ?_))
   refine bP (by kernel_rfl) (by kernel_rfl) ?_
   have hls_h4:=eW (d1[first+r]!) (d1[first+(2*r+1)]!)
   cases h4:bB (d1[first+r]!) (d1[first+(2*r+1)]!)
   all_goals rw [h4] at hls_h4
   rotate_left
   all_goals(repeat(first|refine aX rfl rfl rfl ?_|refine fD rfl rfl rfl rfl (by omega) (by omega) ?_|refine eu rfl rfl rfl ?_|(refine cv (g:=fun x:Nat=> .int .u64 x) rfl rfl rfl (F.ag _ rfl) rfl (by first|omega|(simp only [zy,aB];omega)) (by first|omega|(simp only [zy,aB];omega)) ?_)|refine bb (q:=first+r) rfl rfl rfl rfl (F.un _ rfl) (F.sz _ rfl) rfl (by omega) (by omega) (by omega) ?_|refine bb (q:=first+(2*r+1)) rfl rfl rfl rfl (F.un _ rfl) (F.sz _ rfl) rfl (by omega) (by omega) (by omega) ?_|refine b5 rfl rfl rfl (by kernel_rfl) (Ctr.callV (hls_h4) [] rfl (ExtOk.of rfl) rfl trivial rfl) ?_))
   ·rw [if_pos (by simpa [bB] using h4)] at e
    (refine be ?_);(refine⟨by kernel_rfl,?_,?_⟩);(focus(repeat(first|exact trivial|refine⟨.inl rfl,?_⟩|refine⟨.inr (by(repeat(refine⟨(by first|exact bq rfl|exact bi rfl rfl (.inr (.inr (.inr (.inr (.inl ⟨rfl,rfl⟩)))))|exact bk (F.un _ rfl) (F.sz _ rfl) rfl rfl rfl (by omega) (by omega) (by omega)|exact an rfl rfl (.inl ⟨rfl,(zx _ ⟨by omega,by omega⟩).symm⟩)|exact an rfl rfl (.inr (.inl ⟨rfl,(zx _ ⟨by omega,by omega⟩).symm⟩))|exact aq (F.fo _ _ rfl rfl) rfl|exact aY rfl|exact aH rfl|exact aw (F.ag _ rfl) rfl rfl (az rfl)|exact aC (F.ag _ rfl) rfl rfl (ak _ 0 rfl rfl)|exact aE rfl rfl|exact aP (F.un _ rfl) rfl|exact aI (F.un _ rfl) rfl|exact ax rfl|exact aQ rfl rfl|exact aR rfl rfl),?_⟩));exact trivial),?_⟩|refine⟨.inl (by kernel_rfl),?_⟩)))
    (repeat(first|refine ao ?_|refine aN ?_|refine ay rfl ?_))
    refine bP (by kernel_rfl) (by kernel_rfl) ?_
    (repeat(first|refine aX rfl rfl rfl ?_|refine fD rfl rfl rfl rfl (by omega) (by omega) ?_|(refine cv (g:=fun x:Nat=> .int .u64 x) rfl rfl rfl (F.ag _ rfl) rfl (by first|omega|(simp only [zy,aB];omega)) (by first|omega|(simp only [zy,aB];omega)) ?_)|(refine er (g:=fun x:Nat=> .int .u64 x) rfl rfl rfl (fun _=>rfl) (F.sz _ rfl) rfl (by first|omega|(simp only [zy,aB];omega)) (by first|omega|(simp only [zy,aB];omega)) ?_)|refine bb (q:=first+r) rfl rfl rfl rfl (F.un _ rfl) (F.sz _ rfl) rfl (by omega) (by omega) (by omega) ?_|refine bb (q:=first+(2*r+1)) rfl rfl rfl rfl (F.un _ rfl) (F.sz _ rfl) rfl (by omega) (by omega) (by omega) ?_))
    (refine be ?_);(refine⟨by kernel_rfl,?_,?_⟩);(focus(repeat(first|exact trivial|refine⟨.inl rfl,?_⟩|refine⟨.inr (by(repeat(refine⟨(by first|exact bq rfl|exact bi rfl rfl (.inr (.inr (.inr (.inr (.inl ⟨rfl,rfl⟩)))))|exact bk (F.un _ rfl) (F.sz _ rfl) rfl rfl rfl (by omega) (by omega) (by omega)|exact an rfl rfl (.inl ⟨rfl,(zx _ ⟨by omega,by omega⟩).symm⟩)|exact an rfl rfl (.inr (.inl ⟨rfl,(zx _ ⟨by omega,by omega⟩).symm⟩))|exact aq (F.fo _ _ rfl rfl) rfl|exact aY rfl|exact aH rfl|exact aw (F.ag _ rfl) rfl rfl (az rfl)|exact aC (F.ag _ rfl) rfl rfl (ak _ 0 rfl rfl)|exact aE rfl rfl|exact aP (F.un _ rfl) rfl|exact aI (F.un _ rfl) rfl|exact ax rfl|exact aQ rfl rfl|exact aR rfl rfl),?_⟩));exact trivial),?_⟩|refine⟨.inl (by kernel_rfl),?_⟩)))
    (repeat(first|refine ai ?_|refine ah ?_|refine aM ?_|refine am rfl rfl rfl ?_|refine aj rfl rfl rfl ?_))
    refine ih _ _ _ (2*r+1,Sort.swp d1 (first+r) (first+(2*r+1))) [] ⟨by simp only;omega,by rw [aB];exact hd1,by rw [← ho,e]⟩ (by simp only;omega) ?_
    (refine⟨(ExtOk.of rfl),rfl,(by repeat(first|exact trivial|refine⟨rfl,?_⟩)),(by repeat(first|exact trivial|refine⟨aW rfl,?_⟩))⟩)
   ·rw [if_neg (by simpa [bB] using h4)] at e
    (refine be ?_);(refine⟨by kernel_rfl,?_,?_⟩);(focus(repeat(first|exact trivial|refine⟨.inl rfl,?_⟩|refine⟨.inr (by(repeat(refine⟨(by first|exact bq rfl|exact bi rfl rfl (.inr (.inr (.inr (.inr (.inl ⟨rfl,rfl⟩)))))|exact bk (F.un _ rfl) (F.sz _ rfl) rfl rfl rfl (by omega) (by omega) (by omega)|exact an rfl rfl (.inl ⟨rfl,(zx _ ⟨by omega,by omega⟩).symm⟩)|exact an rfl rfl (.inr (.inl ⟨rfl,(zx _ ⟨by omega,by omega⟩).symm⟩))|exact aq (F.fo _ _ rfl rfl) rfl|exact aY rfl|exact aH rfl|exact aw (F.ag _ rfl) rfl rfl (az rfl)|exact aC (F.ag _ rfl) rfl rfl (ak _ 0 rfl rfl)|exact aE rfl rfl|exact aP (F.un _ rfl) rfl|exact aI (F.un _ rfl) rfl|exact ax rfl|exact aQ rfl rfl|exact aR rfl rfl),?_⟩));exact trivial),?_⟩|refine⟨.inl (by kernel_rfl),?_⟩)))
    (repeat(refine aD rfl ?_))
    ((apply bj Try.func70 (congrArg Array.toList Try.results70));(focus(repeat(exact ResIs.nil)));refine⟨_,rfl,Ends.mk [] (ExtOk.of rfl) rfl rfl ?_⟩)
    rw [← ho,e]
    exact(by repeat(first|exact trivial|refine⟨aW rfl,?_⟩))
theorem nN(n a b:Nat)(d:Array (Nat))(hn:n<4611686018427387904)(hd:d.size=n)(hab:a≤b)(hb:b≤n) :
 Ctr Try.prog 60 [.slu 0 0 n,.sc (.int .i64 (a:Int)),.sc (.int .i64 (b:Int))] [bY n d] (fun c=>c=⟨.tup [],[some (bY n (Sort.heapSort bB d a b))]⟩):=by
 refine Fnc.start Try.func60 rfl rfl ?_
 (repeat(first|refine ao ?_|refine ai ?_|refine ah ?_|refine am rfl rfl rfl ?_|refine aj rfl rfl rfl ?_|refine dB rfl rfl rfl rfl (by omega) (by omega) ?_))
 refine yy rfl rfl rfl rfl (by decide) (show _=(((b-a-1) / 2:Nat):Int)from vP (m:=b-a) (by omega) (by omega)) ?_
 (repeat(first|refine ah ?_|refine aT ?_|refine aj rfl rfl rfl ?_))
 refine ft 1 (fun s:Nat×Array (Nat)=> [(0,.slu 0 0 n),(6,.sc (.int .i64 (a:Int))),(7,.sc (.int .i64 0)),(8,.sc (.int .i64 ((b-a:Nat):Int))),(9,.sc (.int .i64 ((s.1:Int)-1)))]) (fun s=> [some (bY n s.2)]) (fun s=>s.1≤(b-a-1) / 2+1∧s.2.size=n∧Sort.heapBuild bB (b-a) a s.1 s.2=Sort.heapBuild bB (b-a) a ((b-a-1) / 2+1) d) (fun s=>s.1) ((b-a-1) / 2+1,d) []
  (fun _=>rfl) ⟨zP _,hd,rfl⟩ ?_ (fun _=>rfl) (fun _=>rfl) ?_
 ·(refine⟨(ExtOk.of rfl),rfl,(by repeat(first|exact trivial|refine⟨rfl,?_⟩|refine⟨dS (by first|omega|(simp only;omega)),?_⟩)),(by repeat(first|exact trivial|refine⟨aW rfl,?_⟩))⟩)
 rintro⟨k,d1⟩ ⟨hk,hd1,ho⟩ ih
 simp only at hk hd1 ho ih ⊢
 (repeat(first|refine ao ?_|refine ai ?_|refine am rfl rfl rfl ?_))
 refine dQ rfl rfl rfl rfl ?_ ?_
 all_goals intro h1
 ·obtain⟨k,rfl⟩: ∃ k',k=k'+1:=⟨k-1,by omega⟩
  have ek:((k+1:Nat):Int)-1=(k:Int):=by omega
  rw [ek]
  (repeat(first|refine ao ?_|refine ai ?_|refine ah ?_|refine aT ?_|refine aM ?_|refine aN ?_|refine aD rfl ?_|refine am rfl rfl rfl ?_|refine aj rfl rfl rfl ?_|refine dB rfl rfl rfl rfl (by omega) (by omega) ?_|refine cc rfl rfl rfl (by kernel_rfl) (Ctr.dp (jZ n k (b-a) a d1 hn hd1 (by omega) (by omega)) [0] rfl (ExtOk.of rfl) rfl (by repeat(first|exact trivial|refine⟨aW rfl,?_⟩)) rfl (by repeat(first|exact trivial|refine⟨bL,?_⟩)) (fun _=>rfl) rfl rfl) ?_))
  refine ih _ _ _ (k,Sort.siftDown bB (b-a) a k d1) [] ⟨by simp only;omega,by rw [gw];exact hd1,by rw [← ho];rfl⟩ (by simp only;omega) ?_
  (refine⟨(ExtOk.of rfl),rfl,(by repeat(first|exact trivial|refine⟨rfl,?_⟩)),(by repeat(first|exact trivial|refine⟨aW rfl,?_⟩))⟩)
 ·obtain rfl:k=0:=by omega
  have ho1:d1=Sort.heapBuild bB (b-a) a ((b-a-1) / 2+1) d:=ho
  (repeat(first|refine ao ?_|refine ai ?_|refine ah ?_|refine aT ?_|refine bA rfl ?_|refine ay rfl ?_|refine am rfl rfl rfl ?_|refine aj rfl rfl rfl ?_|refine dB rfl rfl rfl rfl (by omega) (by omega) ?_))
  refine ft 1 (fun s:Nat×Array (Nat)=> [(0,.slu 0 0 n),(6,.sc (.int .i64 (a:Int))),(7,.sc (.int .i64 0)),(10,.sc (.int .i64 ((s.1:Int)-1)))]) (fun s=> [some (bY n s.2)]) (fun s=>s.1≤b-a∧s.2.size=n∧Sort.heapPop bB a s.1 s.2=Sort.heapSort bB d a b) (fun s=>s.1) (b-a,d1) []
   (fun _=>rfl) ⟨zP _,hd1,by rw [ho1];rfl⟩ ?_ (fun _=>rfl) (fun _=>rfl) ?_
  ·(refine⟨(ExtOk.of rfl),rfl,(by repeat(first|exact trivial|refine⟨rfl,?_⟩)),(by repeat(first|exact trivial|refine⟨aW rfl,?_⟩))⟩)
  rintro⟨m,d2⟩ ⟨hm,hd2,hp⟩ ihm
  simp only at hm hd2 hp ihm ⊢
  (repeat(first|refine ao ?_|refine ai ?_|refine am rfl rfl rfl ?_))
  refine dQ rfl rfl rfl rfl ?_ ?_
  all_goals intro h2
  ·obtain⟨m,rfl⟩: ∃ m',m=m'+1:=⟨m-1,by omega⟩
   have em:((m+1:Nat):Int)-1=(m:Int):=by omega
   rw [em]
   (repeat(first|refine ao ?_|refine ah ?_|refine aT ?_|refine aN ?_|refine aD rfl ?_))
   refine bP (by kernel_rfl) (by kernel_rfl) ?_
   (repeat(first|refine aX rfl rfl rfl ?_|refine fD rfl rfl rfl rfl (by omega) (by omega) ?_|(refine cv (g:=fun x:Nat=> .int .u64 x) rfl rfl rfl (F.ag _ rfl) rfl (by first|omega|(simp only [zy,aB];omega)) (by first|omega|(simp only [zy,aB];omega)) ?_)|(refine er (g:=fun x:Nat=> .int .u64 x) rfl rfl rfl (fun _=>rfl) (F.sz _ rfl) rfl (by first|omega|(simp only [zy,aB];omega)) (by first|omega|(simp only [zy,aB];omega)) ?_)|refine bb (q:=a) rfl rfl rfl rfl (F.un _ rfl) (F.sz _ rfl) rfl (by omega) (by omega) (by omega) ?_|refine bb (q:=a+m) rfl rfl rfl rfl (F.un _ rfl) (F.sz _ rfl) rfl (by omega) (by omega) (by omega) ?_))
   (refine be ?_);(refine⟨by kernel_rfl,?_,?_⟩);(focus(repeat(first|exact trivial|refine⟨.inl rfl,?_⟩|refine⟨.inr (by(repeat(refine⟨(by first|exact bq rfl|exact bi rfl rfl (.inr (.inr (.inr (.inr (.inl ⟨rfl,rfl⟩)))))|exact bk (F.un _ rfl) (F.sz _ rfl) rfl rfl rfl (by omega) (by omega) (by omega)|exact an rfl rfl (.inl ⟨rfl,(zx _ ⟨by omega,by omega⟩).symm⟩)|exact an rfl rfl (.inr (.inl ⟨rfl,(zx _ ⟨by omega,by omega⟩).symm⟩))|exact aq (F.fo _ _ rfl rfl) rfl|exact aY rfl|exact aH rfl|exact aw (F.ag _ rfl) rfl rfl (az rfl)|exact aC (F.ag _ rfl) rfl rfl (ak _ 0 rfl rfl)|exact aE rfl rfl|exact aP (F.un _ rfl) rfl|exact aI (F.un _ rfl) rfl|exact ax rfl|exact aQ rfl rfl|exact aR rfl rfl),?_⟩));exact trivial),?_⟩|refine⟨.inl (by kernel_rfl),?_⟩)))
   (repeat(first|refine ai ?_|refine ah ?_|refine aM ?_|refine am rfl rfl rfl ?_|refine aj rfl rfl rfl ?_|refine dB rfl rfl rfl rfl (by omega) (by omega) ?_|refine cc rfl rfl rfl (by kernel_rfl) (Ctr.dp (jZ n 0 m a (Sort.swp d2 a (a+m)) hn (by rw [aB];exact hd2) (by omega) (by omega)) [0] rfl (ExtOk.of rfl) rfl (by repeat(first|exact trivial|refine⟨aW rfl,?_⟩)) rfl (by repeat(first|exact trivial|refine⟨bL,?_⟩)) (fun _=>rfl) rfl rfl) ?_))
   refine ihm _ _ _ (m,Sort.siftDown bB m a 0 (Sort.swp d2 a (a+m))) [] ⟨by simp only;omega,by rw [gw,aB];exact hd2,by rw [← hp];rfl⟩ (by simp only;omega) ?_
   (refine⟨(ExtOk.of rfl),rfl,(by repeat(first|exact trivial|refine⟨rfl,?_⟩)),(by repeat(first|exact trivial|refine⟨aW rfl,?_⟩))⟩)
  ·obtain rfl:m=0:=by omega
   (repeat(first|refine ah ?_|refine bA rfl ?_|refine ay rfl ?_))
   ((apply lm Try.func60 (congrArg Array.toList Try.results60));(focus(repeat(exact ResIs.nil)));refine⟨_,rfl,Ends.mk [] (ExtOk.of rfl) rfl rfl ?_⟩)
   rw [← hp]
   exact(by repeat(first|exact trivial|refine⟨aW rfl,?_⟩))
end Go.Proofs.Ytckajlllkmkniaa
end
