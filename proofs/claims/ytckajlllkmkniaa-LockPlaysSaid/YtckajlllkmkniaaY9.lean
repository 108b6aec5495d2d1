import Derived.WalkKit
import Derived.ProofKit
import Derived.OpenShut
import Derived.Below
import Derived.ChangeSame
import Derived.Carry
import Derived.ChangeArms
import Derived.Test.YtckajlllkmkniaaChecked
import Derived.Test.YtckajlllkmkniaaY8
set_option linter.unusedVariables false
set_option linter.unusedSimpArgs false
set_option maxRecDepth 100000
set_option maxHeartbeats 0
section
namespace Go.Proofs.Ytckajlllkmkniaa
open Go Go.Sy Go.Sl Go.RowKit
theorem qy{K V:Type} [DecidableEq K]{m:List (K×V×Nat)}{c:Nat}(h:KOk m c){x:K×V×Nat}(hx:x∈m):cO m x.1=some x.2.1:=by
 have hk:=h.keys
 clear h
 induction m with
 | nil=>cases hx
 | cons y m ih=>
   rw [zR,List.nodup_cons] at hk
   rcases List.mem_cons.1 hx with rfl|hm
   ·simp [cO]
   ·have hne:y.1≠x.1:=fun e=>hk.1 (by rw [e];exact List.mem_map_of_mem hm)
    have:cO (y :: m) x.1=cO m x.1:=by simp [cO,hne]
    rw [this]
    exact ih hm hk.2
theorem qx{K V W:Type} [DecidableEq K]{m:List (K×V×Nat)}{k:K}{done:List (K×W×Nat)}(hm:m.map (·.1)=done.map (·.1))(hk:k∉done.map (·.1)):cO m k=none:=by
 rw [nX,hm]
 exact hk
theorem tW{K V:Type} [DecidableEq K]: ∀ {m:List (K×V×Nat)},(m.map (·.1)).Nodup→ ∀ {x y:K×V×Nat},x∈m→y∈m→x.1=y.1→x=y
 | [],_,_,_,h,_,_=>by cases h
 | z :: m,hn,x,y,hx,hy,e=>by
   rw [zR,List.nodup_cons] at hn
   rcases List.mem_cons.1 hx with h1|h1
   ·rcases List.mem_cons.1 hy with h2|h2
    ·rw [h1,h2]
    ·refine absurd ?_ hn.1
     rw [← h1,e]
     exact List.mem_map_of_mem h2
   ·rcases List.mem_cons.1 hy with h2|h2
    ·refine absurd ?_ hn.1
     rw [← h2,←e]
     exact List.mem_map_of_mem h1
    ·exact tW hn.2 h1 h2 e
theorem oh{K V:Type} [DecidableEq K]{m:List (K×V×Nat)}{c:Nat}(h:KOk m c){done:List (K×V×Nat)}{x:K×V×Nat}(hx:x∈m)(hd: ∀ y∈done,y∈m)(hn:x∉done):x.1∉done.map (·.1):=by
 intro q
 obtain⟨y,hy,e⟩:=List.mem_map.1 q
 exact hn (tW h.keys hx (hd y hy) e.symm ▸ hy)
theorem Tb.newPartyL{t a b:Nat}{ml:MLk}{cl:Nat}{mp:MPt}{cp:Nat}{F1 F2:Nat→Prop}{H:aV}{nx:Nat}(h:Tb t a b ml cl mp cp F1 F2 H)(hu: ∀ b vo,H.at' b=some vo→b<nx){o:Nat}{ks:List ByteArray}{w:ByteArray}(hg:cO mp o=none){H':aV}(e1:H'.at' (nx+1)=some (aG 72 [.slu nx 0 ks.length,.sc (.string w)]))(e2:H'.at' nx=some (sR false ks))(hm:H'.at' b=some (pmV (dm mp o (nx+1,(ks,w)) cp) (iz mp o cp)))(fr: ∀ z,z<nx→z≠b→H'.at' z=H.at' z) :
 Tb t a b ml cl (dm mp o (nx+1,(ks,w)) cp) (iz mp o cp) F1 (fun z=>(z=nx+1∨z=nx)∨F2 z) H'∧Step (All t a b F1 F2) (All t a b F1 (fun z=>(z=nx+1∨z=nx)∨F2 z)) H nx H' (nx+1+1):=by
 obtain⟨ut,ua,ub,u1,u2⟩:=h.lt hu
 have hne:=h.ne
 refine⟨h.addParty hg ⟨nx,e1,e2,by omega,fun z=>Iff.rfl⟩ ⟨by omega,by omega,by omega,fun q=>by have:=u2 _ q;omega,fun q=>by have:=u1 _ q;omega⟩ ⟨by omega,by omega,by omega,fun q=>by have:=u2 _ q;omega,fun q=>by have:=u1 _ q;omega⟩ hm fun z hz=>?_,by omega,fun z hz=>?_,fun z hz hf=>fr z hz fun e=>hf (.inr (.inr (.inl e)))⟩
 ·rcases hz with rfl|rfl|hz|hz
  ·exact fr _ ut hne.2.1
  ·exact fr _ ua hne.2.2
  ·exact fr _ (u2 _ hz) (h.d2 _ hz).2.2
  ·exact fr _ (u1 _ hz) (h.d1 _ hz).2.2.1
 ·rcases hz with hz|hz|hz|hz|((hz|hz)|hz)
  ·exact .inl (.inl hz)
  ·exact .inl (.inr (.inl hz))
  ·exact .inl (.inr (.inr (.inl hz)))
  ·exact .inl (.inr (.inr (.inr (.inl hz))))
  ·exact .inr (by omega)
  ·exact .inr (by omega)
  ·exact .inl (.inr (.inr (.inr (.inr hz))))
theorem Tb.newLockL{t a b:Nat}{ml:MLk}{cl:Nat}{mp:MPt}{cp:Nat}{F1 F2:Nat→Prop}{H:aV}{nx:Nat}(h:Tb t a b ml cl mp cp F1 F2 H)(hu: ∀ b vo,H.at' b=some vo→b<nx){k:ByteArray}{o:Nat}{l:List Nat}(hg:cO ml k=none){H':aV}(e1:H'.at' (nx+1)=some (aG 75 [.sc (.int .u64 (o:Int)),.slu nx 0 l.length]))(e2:H'.at' nx=some (uR false l))(hm:H'.at' a=some (lmV (dm ml k (nx+1,(o,l)) cl) (iz ml k cl)))(fr: ∀ z,z<nx→z≠a→H'.at' z=H.at' z) :
 Tb t a b (dm ml k (nx+1,(o,l)) cl) (iz ml k cl) mp cp (fun z=>(z=nx+1∨z=nx)∨F1 z) F2 H'∧Step (All t a b F1 F2) (All t a b (fun z=>(z=nx+1∨z=nx)∨F1 z) F2) H nx H' (nx+1+1):=by
 obtain⟨ut,ua,ub,u1,u2⟩:=h.lt hu
 have hne:=h.ne
 refine⟨h.addLock hg ⟨nx,e1,e2,by omega,fun z=>Iff.rfl⟩ ⟨by omega,by omega,by omega,fun q=>by have:=u1 _ q;omega,fun q=>by have:=u2 _ q;omega⟩ ⟨by omega,by omega,by omega,fun q=>by have:=u1 _ q;omega,fun q=>by have:=u2 _ q;omega⟩ hm fun z hz=>?_,by omega,fun z hz=>?_,fun z hz hf=>fr z hz fun e=>hf (.inr (.inl e))⟩
 ·rcases hz with rfl|rfl|hz|hz
  ·exact fr _ ut hne.1
  ·exact fr _ ub (Ne.symm hne.2.2)
  ·exact fr _ (u1 _ hz) (h.d1 _ hz).2.1
  ·exact fr _ (u2 _ hz) (h.d2 _ hz).2.1
 ·rcases hz with hz|hz|hz|((hz|hz)|hz)|hz
  ·exact .inl (.inl hz)
  ·exact .inl (.inr (.inl hz))
  ·exact .inl (.inr (.inr (.inl hz)))
  ·exact .inr (by omega)
  ·exact .inr (by omega)
  ·exact .inl (.inr (.inr (.inr (.inl hz))))
  ·exact .inl (.inr (.inr (.inr (.inr hz))))
theorem Tb.frame2{t a b:Nat}{ml:MLk}{cl:Nat}{mp:MPt}{cp:Nat}{F1 F2:Nat→Prop}{H H':aV}(h:Tb t a b ml cl mp cp F1 F2 H)(hf: ∀ n,All t a b F1 F2 n→H'.at' n=H.at' n):Tb t a b ml cl mp cp F1 F2 H':=⟨(hf _ (.inl rfl)).trans h.tab,(hf _ (.inr (.inl rfl))).trans h.locks,(hf _ (.inr (.inr (.inl rfl)))).trans h.parties,h.okl,h.okp,Big.frame eR _ _ _ _ h.bl fun z hz=>hf _ (.inr (.inr (.inr (.inl hz)))),Big.frame eQ _ _ _ _ h.bp fun z hz=>hf _ (.inr (.inr (.inr (.inr hz)))),h.ne,h.d1,h.d2⟩
def lOf:ByteArray×(Nat×(Nat×List Nat))×Nat→ByteArray×(Nat×List Nat):=fun x=>(x.1,x.2.1.2)
def pOf:Nat×(Nat×(List ByteArray×ByteArray))×Nat→Nat×(List ByteArray×ByteArray):=fun x=>(x.1,x.2.1.2)
theorem wU(ml:MLk)(mp:MPt):(b9 ml mp).locks=ml.map lOf:=by
 show((ml.map fun x=>(x.1,x.2.1)).map fun x=>(x.1,x.2.2))=_
 rw [List.map_map]
 rfl
theorem wR(ml:MLk)(mp:MPt):(b9 ml mp).parties=mp.map pOf:=by
 show((mp.map fun x=>(x.1,x.2.1)).map fun x=>(x.1,x.2.2))=_
 rw [List.map_map]
 rfl
theorem zo{t:Nat}{T:LT}{Fp:Nat→Prop}{H:aV}{nx:Nat}(hT:TabAt t T Fp H)(hl: ∀ k,(T.line k).length<2000000)(hk: ∀ o,(T.keys o).length<2000000):Fnc Try.prog 14 [.ptr t 0] H nx (fun q=> ∃ c T' F',q.1 = .ptr c 0∧TabAt c T' F' q.2.1∧T'.locks.Perm T.locks∧T'.parties.Perm T.parties∧(∀ n,F' n→nx≤n∧n<q.2.2)∧nx≤q.2.2∧ ∀ n,n<nx→q.2.1.at' n=H.at' n):=by
 obtain⟨a,b,ml,cl,mp,cp,F1,F2,h,rfl,hF⟩:=hT
 have hFp:Fp=All t a b F1 F2:=funext fun n=>propext (hF n)
 subst hFp
 have htab:=h.tab
 have hloc:=h.locks
 have hpar:=h.parties
 have hne:=h.ne
 refine Fnc.start Try.func14 rfl rfl ?_
 refine b4 fun hund=>?_
 obtain⟨ut,ua,ub,u1,u2⟩:=h.lt hund
 (repeat(first|refine ao ?_|refine ai ?_|refine ah ?_|refine aT ?_|refine aN ?_|refine ay rfl ?_|refine am rfl rfl rfl ?_|refine aj rfl rfl rfl ?_|refine aJ rfl rfl rfl ?_|refine au rfl rfl rfl (F.fo _ _ rfl rfl) ?_|refine aL rfl rfl rfl (F.ag _ rfl) (by(repeat(refine(Tr.aa _ _ (by omega)).trans ?_));first|exact Tr.ae _ _ _|assumption) (by exact rfl) ?_|(refine bn rfl rfl rfl (by kernel_rfl) (Fnc.mono (iM htab) ?_);rintro _ rfl;dsimp only)|(refine bn rfl rfl rfl (by kernel_rfl) (Fnc.mono (xT) ?_);rintro _ rfl;dsimp only)|(refine oU (b:=a) (m:=ml) (c:=cl) (enc:=kE) (val:=ke) rfl rfl rfl (F.un _ rfl) (by(repeat(refine(Tr.aa _ _ (by omega)).trans ?_));first|exact Tr.ae _ _ _|assumption) ?_)))
 refine ch (α:=MLk) (fun _=> [(0,.ptr t 0),(3,.ptr (nx+1+1) 0),(15,.ptr (nx+1+1+1) 0)]) (fun done H1 nx1=>(done.Nodup∧ ∀ x∈done,x∈ml)∧nx+1+1+1+1≤nx1∧(∀ n,n<nx→H1.at' n=H.at' n)∧H1.at' (nx+1+1+1)=some (itV a cl done)∧ ∃ ml' cl' F1',Tb (nx+1+1) nx (nx+1) ml' cl' [] 0 F1' (fun _=>False) H1∧ml'.map lOf=done.map lOf∧ ∀ n,F1' n→nx+1+1+1+1≤n∧n<nx1) (fun done=>ml.length-done.length) []
  ⟨⟨List.nodup_nil,fun _ h=>by cases h⟩,zP _,fun n hn=>by(focus((repeat(refine(Tr.aa _ _ (by omega)).trans ?_));exact rfl)),by(focus(skip;first|exact Tr.ae _ _ _|assumption)),[],0,fun _=>False,⟨by(focus((repeat(refine(Tr.aa _ _ (by omega)).trans ?_));first|exact Tr.ae _ _ _|assumption)),by(focus((repeat(refine(Tr.aa _ _ (by omega)).trans ?_));first|exact Tr.ae _ _ _|assumption)),by(focus((repeat(refine(Tr.aa _ _ (by omega)).trans ?_));first|exact Tr.ae _ _ _|assumption)),KOk.nil _,KOk.nil _,Big.nil,Big.nil,⟨by omega,by omega,by omega⟩,fun n h=>h.elim,fun n h=>h.elim⟩,rfl,fun n h=>h.elim⟩ (SlIn.sub (by repeat(first|exact trivial|refine⟨rfl,?_⟩))) ?_
 rintro done H1 nx1 ⟨hdn,hnx,hold,hit,ml1,cl1,G1,t1,hml,hG1⟩ again
 have hlen:=dW done ml hdn.1 hdn.2
 have hloc1:=(hold a ua).trans hloc
 (repeat(first|refine ao ?_|refine ai ?_))
 refine sn (b:=a) (m:=ml) (c:=cl) (enc:=kE) (val:=ke) (done:=done) rfl rfl rfl ?_ ?_ h.okl hdn ?_ ?_
 ·(focus(skip;first|exact Tr.ae _ _ _|assumption))
 ·(focus(skip;first|exact Tr.ae _ _ _|assumption))
 ·intro hp
  have htab1:=(hold t ut).trans htab
  have hpar1:=(hold b ub).trans hpar
  (repeat(first|refine ao ?_|refine ai ?_|refine ah ?_|refine aT ?_|refine bA rfl ?_|refine ay rfl ?_|refine am rfl rfl rfl ?_|refine aJ rfl rfl rfl ?_|refine au rfl rfl rfl (F.fo _ _ rfl rfl) ?_|refine jB rfl rfl rfl rfl ?_|refine aL rfl rfl rfl (F.ag _ rfl) (by first|exact Tr.ae _ _ _|assumption) (by exact rfl) ?_|(refine oU (b:=b) (m:=mp) (c:=cp) (enc:=oE) (val:=jY) rfl rfl rfl (F.un _ rfl) (by first|exact Tr.ae _ _ _|assumption) ?_)))
  clear again hdn hlen hloc1 hit htab1 hpar1
  refine ch (α:=MPt) (fun _=> [(3,.ptr (nx+1+1) 0),(41,.ptr nx1 0)]) (fun done2 H2 nx2=>(done2.Nodup∧ ∀ x∈done2,x∈mp)∧nx1+1≤nx2∧(∀ n,n<nx→H2.at' n=H.at' n)∧H2.at' nx1=some (itV b cp done2)∧ ∃ mp' cp' F2',Tb (nx+1+1) nx (nx+1) ml1 cl1 mp' cp' G1 F2' H2∧mp'.map pOf=done2.map pOf∧ ∀ n,F2' n→nx1+1≤n∧n<nx2) (fun done2=>mp.length-done2.length) []
   ⟨⟨List.nodup_nil,fun _ h=>by cases h⟩,zP _,fun n hn=>(Tr.aa _ _ (by omega)).trans (hold n hn),by(focus(skip;first|exact Tr.ae _ _ _|assumption)),[],0,fun _=>False,t1.frame2 (fun n hn=>Tr.aa _ _ (by
     rcases hn with q|q|q|q|q
     ·omega
     ·omega
     ·omega
     ·have:=hG1 n q;omega
     ·exact q.elim)),rfl,fun n h=>h.elim⟩ (SlIn.sub (by repeat(first|exact trivial|refine⟨rfl,?_⟩))) ?_
  clear t1 hold
  rintro done2 H2 nx2 ⟨hdn,hnx2,hold,hit,mp1,cp1,K1,t1,hmp,hK1⟩ again
  have hlen:=dW done2 mp hdn.1 hdn.2
  have hpar2:=(hold b ub).trans hpar
  (repeat(first|refine ao ?_|refine ai ?_))
  refine sn (b:=b) (m:=mp) (c:=cp) (enc:=oE) (val:=jY) (done:=done2) rfl rfl rfl ?_ ?_ h.okp hdn ?_ ?_
  ·(focus(skip;first|exact Tr.ae _ _ _|assumption))
  ·(focus(skip;first|exact Tr.ae _ _ _|assumption))
  ·intro hp2
   (repeat(first|refine ao ?_|refine ai ?_|refine ah ?_|refine bA rfl ?_|refine ay rfl ?_|refine am rfl rfl rfl ?_|refine aj rfl rfl rfl ?_|refine jB rfl rfl rfl rfl ?_))
   ((apply bj Try.func14 (congrArg Array.toList Try.results14));(focus(repeat(first|exact ResIs.nil|apply ResIs.tmp rfl))))
   refine⟨nx+1+1,b9 ml1 mp1,_,rfl,⟨nx,nx+1,_,_,_,_,_,_,t1,rfl,fun _=>Iff.rfl⟩,?_,?_,fun n hn=>?_,by simp only;omega,hold⟩
   ·rw [wU,wU,hml]
    exact hp.map lOf
   ·rw [wR,wR,hmp]
    exact hp2.map pOf
   ·simp only
    rcases hn with q|q|q|q|q
    ·omega
    ·omega
    ·omega
    ·have:=hG1 n q;omega
    ·have:=hK1 n q;omega
  ·rintro⟨o,⟨hn,ks,w⟩,st⟩ hx hnx hdn2
   refine b4 fun hund1=>?_
   have hlen2:=dW _ mp hdn2.1 hdn2.2
   have hg:=qy h.okp hx
   have hll:ks.length<2000000:=by
    have:=hk o
    rw [iG,hg] at this
    exact this
   obtain⟨r,G,g1,g2,g3,_⟩:=h.party hg
   have g1l:=hund _ _ g1
   have g2l:=hund _ _ g2
   have g1':=(hold _ g1l).trans g1
   have g2':=(hold _ g2l).trans g2
   have ctab:=t1.tab
   have cpar:=t1.parties
   have hnew:cO mp1 o=none:=by
    refine qx (done:=done2) ?_ (oh h.okp hx hdn.2 hnx)
    have:=congrArg (List.map (·.1)) hmp
    rw [List.map_map,List.map_map] at this
    exact this
   (repeat(first|refine ao ?_|refine ai ?_|refine ah ?_|refine aT ?_|refine aN ?_|refine aD rfl ?_|refine aj rfl rfl rfl ?_|refine bX rfl rfl rfl rfl ?_|(refine oW (b:=b) (m:=mp) (c:=cp) (enc:=oE) (val:=jY) (done:=done2) (x:=(o,((hn,(ks,w)),st))) rfl rfl rfl (by first|exact Tr.ae _ _ _|assumption) (by(repeat(refine(Tr.aa _ _ (by omega)).trans ?_));first|exact Tr.ae _ _ _|assumption) h.okp hx ?_)))
   dsimp only [jY]
   refine bP (by kernel_rfl) (by kernel_rfl) ?_
   (repeat(first|refine aX rfl rfl rfl ?_|refine bD rfl rfl rfl ?_|refine bu rfl rfl rfl (F.fo _ _ rfl rfl) ?_|refine uw rfl rfl rfl ?_|refine ip rfl rfl rfl (F.ze _ rfl) (F.pl _ rfl) rfl ?_|refine bK rfl rfl rfl (F.ag _ rfl) (by(repeat(refine(Tr.aa _ _ (by omega)).trans ?_));first|exact Tr.ae _ _ _|assumption) (by exact rfl) ?_|refine b5 rfl rfl rfl (by kernel_rfl) (Fnc.next (uF ks (by(repeat(refine(Tr.aa _ _ (by omega)).trans ?_));first|exact Tr.ae _ _ _|assumption) hll)) ?_|refine qG (m:=mp1) (enc:=oE) (val:=jY) (kk:=o) (v:=(nx2+1,(ks,w))) rfl rfl rfl (F.un _ rfl) (oK) (by first|exact rfl|(focus((repeat(refine(Tr.aa _ _ (by omega)).trans ?_));first|exact Tr.ae _ _ _|assumption))) rfl ?_))
   (refine be ?_);(refine⟨by kernel_rfl,?_,?_⟩);(focus(repeat(first|exact trivial|refine⟨.inl rfl,?_⟩|refine⟨.inr (by(repeat(refine⟨(by first|exact bq rfl|exact bi rfl rfl (.inr (.inr (.inr (.inr (.inl ⟨rfl,rfl⟩)))))|exact bk (F.un _ rfl) (F.sz _ rfl) rfl rfl rfl (by omega) (by omega) (by omega)|exact an rfl rfl (.inl ⟨rfl,(zx _ ⟨by omega,by omega⟩).symm⟩)|exact an rfl rfl (.inr (.inl ⟨rfl,(zx _ ⟨by omega,by omega⟩).symm⟩))|exact aq (F.fo _ _ rfl rfl) rfl|exact aY rfl|exact aH rfl|exact aw (F.ag _ rfl) rfl rfl (az rfl)|exact aC (F.ag _ rfl) rfl rfl (ak _ 0 rfl rfl)|exact aE rfl rfl|exact aP (F.un _ rfl) rfl|exact aI (F.un _ rfl) rfl|exact ax rfl|exact aQ rfl rfl|exact aR rfl rfl|exact aw (F.ag _ rfl) rfl (by(repeat(refine(Tr.aa _ _ (by omega)).trans ?_));first|exact Tr.ae _ _ _|assumption) (az rfl)|exact aC (F.ag _ rfl) rfl (by first|exact Tr.ae _ _ _|assumption) (ak _ 0 rfl rfl)|exact aU rfl (F.ze _ rfl) (F.pl _ rfl) rfl),?_⟩));exact trivial),?_⟩)))
   dsimp only [wrL]
   have t2:=t1.frame2 (H':=H2.set nx1 (itV b cp (done2 ++ [(o,((hn,(ks,w)),st))]))) fun n hn=>Tr.aa _ _ (by
    rcases hn with q|q|q|q|q
    ·omega
    ·omega
    ·omega
    ·have:=hG1 n q;omega
    ·have:=hK1 n q;omega)
   have t3:=t2.newPartyL hund1 (ks:=ks) (w:=w) hnew (H':=_) ((Tr.aa _ _ (by omega)).trans (Tr.ae _ _ _)) ((Tr.aa _ _ (by omega)).trans ((Tr.aa _ _ (by omega)).trans (Tr.ae _ _ _))) (Tr.ae _ _ _) (fun z hz hb=>(Tr.aa _ _ (by omega)).trans ((Tr.aa _ _ (by omega)).trans (Tr.aa _ _ (by omega))))
   (repeat(refine aM ?_))
   refine again _ _ _ (done2 ++ [(o,((hn,(ks,w)),st))]) ⟨hdn2,by omega,fun n hn=>(Tr.aa _ _ (by omega)).trans ((Tr.aa _ _ (by omega)).trans ((Tr.aa _ _ (by omega)).trans ((Tr.aa _ _ (by omega)).trans (hold n hn)))),(Tr.aa _ _ (by omega)).trans ((Tr.aa _ _ (by omega)).trans ((Tr.aa _ _ (by omega)).trans (Tr.ae _ _ _))),_,_,_,t3.1,?_,fun n q=>?_⟩ ?_ (SlIn.sub (by repeat(first|exact trivial|refine⟨rfl,?_⟩)))
   ·rw [gO hnew,zU,zU,hmp]
    rfl
   ·rcases q with (q|q)|q
    ·omega
    ·omega
    ·have:=hK1 n q;omega
   ·simp only [zT,List.length_singleton] at hlen2 ⊢
    omega
 ·rintro⟨k,⟨hn,ow,l⟩,st⟩ hx hnx hdn2
  refine b4 fun hund1=>?_
  have hlen2:=dW _ ml hdn2.1 hdn2.2
  have hg:=qy h.okl hx
  have hll:l.length<2000000:=by
   have:=hl k
   rw [wK,hg] at this
   exact this
  obtain⟨r,G,g1,g2,g3,_⟩:=h.lock hg
  have g1l:=hund _ _ g1
  have g2l:=hund _ _ g2
  have g1':=(hold _ g1l).trans g1
  have g2':=(hold _ g2l).trans g2
  have ctab:=t1.tab
  have cloc:=t1.locks
  have hnew:cO ml1 k=none:=by
   refine qx (done:=done) ?_ (oh h.okl hx hdn.2 hnx)
   have:=congrArg (List.map (·.1)) hml
   rw [List.map_map,List.map_map] at this
   exact this
  (repeat(first|refine ao ?_|refine ai ?_|refine ah ?_|refine aT ?_|refine aN ?_|refine aD rfl ?_|refine aj rfl rfl rfl ?_|refine bX rfl rfl rfl rfl ?_|(refine oW (b:=a) (m:=ml) (c:=cl) (enc:=kE) (val:=ke) (done:=done) (x:=(k,((hn,(ow,l)),st))) rfl rfl rfl (by first|exact Tr.ae _ _ _|assumption) (by(repeat(refine(Tr.aa _ _ (by omega)).trans ?_));first|exact Tr.ae _ _ _|assumption) h.okl hx ?_)))
  dsimp only [ke]
  refine bP (by kernel_rfl) (by kernel_rfl) ?_
  (repeat(first|refine aX rfl rfl rfl ?_|refine bD rfl rfl rfl ?_|refine bu rfl rfl rfl (F.fo _ _ rfl rfl) ?_|refine uw rfl rfl rfl ?_|refine ip rfl rfl rfl (F.ze _ rfl) (F.pl _ rfl) rfl ?_|refine bK rfl rfl rfl (F.ag _ rfl) (by(repeat(refine(Tr.aa _ _ (by omega)).trans ?_));first|exact Tr.ae _ _ _|assumption) (by exact rfl) ?_|refine b5 rfl rfl rfl (by kernel_rfl) (Fnc.next (uE l (by(repeat(refine(Tr.aa _ _ (by omega)).trans ?_));first|exact Tr.ae _ _ _|assumption) hll)) ?_|refine qG (m:=ml1) (enc:=kE) (val:=ke) (kk:=k) (v:=(nx1+1,(ow,l))) rfl rfl rfl (F.un _ rfl) (kK) (by first|exact rfl|(focus((repeat(refine(Tr.aa _ _ (by omega)).trans ?_));first|exact Tr.ae _ _ _|assumption))) rfl ?_))
  (refine be ?_);(refine⟨by kernel_rfl,?_,?_⟩);(focus(repeat(first|exact trivial|refine⟨.inl rfl,?_⟩|refine⟨.inr (by(repeat(refine⟨(by first|exact bq rfl|exact bi rfl rfl (.inr (.inr (.inr (.inr (.inl ⟨rfl,rfl⟩)))))|exact bk (F.un _ rfl) (F.sz _ rfl) rfl rfl rfl (by omega) (by omega) (by omega)|exact an rfl rfl (.inl ⟨rfl,(zx _ ⟨by omega,by omega⟩).symm⟩)|exact an rfl rfl (.inr (.inl ⟨rfl,(zx _ ⟨by omega,by omega⟩).symm⟩))|exact aq (F.fo _ _ rfl rfl) rfl|exact aY rfl|exact aH rfl|exact aw (F.ag _ rfl) rfl rfl (az rfl)|exact aC (F.ag _ rfl) rfl rfl (ak _ 0 rfl rfl)|exact aE rfl rfl|exact aP (F.un _ rfl) rfl|exact aI (F.un _ rfl) rfl|exact ax rfl|exact aQ rfl rfl|exact aR rfl rfl|exact aw (F.ag _ rfl) rfl (by(repeat(refine(Tr.aa _ _ (by omega)).trans ?_));first|exact Tr.ae _ _ _|assumption) (az rfl)|exact aC (F.ag _ rfl) rfl (by first|exact Tr.ae _ _ _|assumption) (ak _ 0 rfl rfl)|exact aU rfl (F.ze _ rfl) (F.pl _ rfl) rfl),?_⟩));exact trivial),?_⟩)))
  dsimp only [wrL]
  have t2:=t1.frame2 (H':=H1.set (nx+1+1+1) (itV a cl (done ++ [(k,((hn,(ow,l)),st))]))) fun n hn=>Tr.aa _ _ (by
   rcases hn with q|q|q|q|q
   ·omega
   ·omega
   ·omega
   ·have:=hG1 n q;omega
   ·exact q.elim)
  have t3:=t2.newLockL hund1 (o:=ow) (l:=l) hnew (H':=_) ((Tr.aa _ _ (by omega)).trans (Tr.ae _ _ _)) ((Tr.aa _ _ (by omega)).trans ((Tr.aa _ _ (by omega)).trans (Tr.ae _ _ _))) (Tr.ae _ _ _) (fun z hz hb=>(Tr.aa _ _ (by omega)).trans ((Tr.aa _ _ (by omega)).trans (Tr.aa _ _ (by omega))))
  (repeat(refine aM ?_))
  refine again _ _ _ (done ++ [(k,((hn,(ow,l)),st))]) ⟨hdn2,by omega,fun n hn=>(Tr.aa _ _ (by omega)).trans ((Tr.aa _ _ (by omega)).trans ((Tr.aa _ _ (by omega)).trans ((Tr.aa _ _ (by omega)).trans (hold n hn)))),(Tr.aa _ _ (by omega)).trans ((Tr.aa _ _ (by omega)).trans ((Tr.aa _ _ (by omega)).trans (Tr.ae _ _ _))),_,_,_,t3.1,?_,fun n q=>?_⟩ ?_ (SlIn.sub (by repeat(first|exact trivial|refine⟨rfl,?_⟩)))
  ·rw [gO hnew,zU,zU,hml]
   rfl
  ·rcases q with (q|q)|q
   ·omega
   ·omega
   ·have:=hG1 n q;omega
  ·simp only [zT,List.length_singleton] at hlen2 ⊢
   omega
structure Twin (T:LT) (W:RT) (N:Nat):Prop where
 fine:T.Fine N
 busy:T.Busy
 rel:Rel T W
 mass:T.mass≤N
theorem Twin.empty:Twin LT.empty [] 0:=⟨LT.Fine.empty,LT.Busy.empty,Rel.empty,zP _⟩
theorem Twin.mono{T:LT}{W:RT}{N M:Nat}(h:Twin T W N)(hN:N≤M):Twin T W M:=⟨h.fine.mono hN,h.busy,h.rel,zX h.mass hN⟩
theorem pX{l m:List Nat}(h:l.Perm m):l.sum=m.sum:=by
 induction h with
 | nil=>rfl
 | cons x _ ih=>simp [ih]
 | swap x y l=>simp only [List.sum_cons];omega
 | trans _ _ h1 h2=>exact h1.trans h2
theorem LT.rT{T T':LT}(h:T'.locks.Perm T.locks):T'.mass=T.mass:=pX (h.map _)
theorem vO(W:RT):(gI W).length=(W.map fun x=>1+x.2.2.length).sum:=by
 unfold gI
 induction W with
 | nil=>rfl
 | cons x W ih=>rw [List.flatMap_cons,zT,ih,zS,zR,List.sum_cons];omega
theorem Twin.all{T:LT}{W:RT}{N:Nat}(h:Twin T W N):(gI W).length≤N:=by
 rw [vO]
 refine zX (Nat.le_of_eq ?_) h.mass
 exact pX (h.rel.locks.symm.map _)
theorem Twin.nd{T:LT}{W:RT}{N:Nat}(h:Twin T W N):(W.map (·.1)).Nodup:=h.rel.nd h.fine
theorem Twin.like{T T':LT}{W:RT}{N:Nat}(h:Twin T W N)(hl:T'.Like T):Twin T' W N:=by
 refine⟨hl.fine h.fine,fun o ks w hg=>?_,⟨hl.locks.trans h.rel.locks,fun o=>(hl.keys h.fine o).trans (h.rel.keys o)⟩,by rw [LT.rT hl.locks];exact h.mass⟩
 rw [dY h.fine.ndP hl.parties] at hg
 exact h.busy o ks w hg
theorem qY{T:LT}{N:Nat}(h:T.Fine N):(T.waits 0).size=0:=by
 unfold LT.waits
 cases hp:bE T.parties 0 with
 | none=>rfl
 | some p=>
   obtain⟨ks,w⟩:=p
   exact absurd rfl (h.wf.par 0 ks w hp).1
theorem tT{T:LT}{N:Nat}(h:T.Fine N):T.keys 0= []:=by
 unfold LT.keys
 cases hp:bE T.parties 0 with
 | none=>rfl
 | some p=>
   obtain⟨ks,w⟩:=p
   exact absurd rfl (h.wf.par 0 ks w hp).1
theorem Twin.back0{T:LT}{W:RT}{N:Nat}(h:Twin T W N):gH W 0 0=(W,[]):=by
 have hl:dA W 0=W:=by unfold dA;rw [h.rel.waits h.fine,if_pos (qY h.fine)]
 unfold gH
 rw [hl,←h.rel.keys,tT h.fine]
 rfl
theorem Twin.act{T:LT}{W:RT}{N:Nat}(h:Twin T W N)(hN:N<900)(x:pO) :
 T.actOk x∧Twin (T.act x).1 (lz W x).1 (N+1)∧(lz W x).2.1=(T.act x).2.1∧(lz W x).2.2=(T.act x).2.2:=by
 obtain⟨a1,a2,a3,a4⟩:=h.fine.act2 hN h.busy x
 have hm:=h.mass
 have key:Rel (T.act x).1 (lz W x).1∧(lz W x).2.1=(T.act x).2.1∧(lz W x).2.2=(T.act x).2.2:=by
  obtain⟨kd,o,k,mk⟩:=x
  unfold LT.act lz
  dsimp only
  by_cases h1:kd=1
  ·rw [if_pos h1,if_pos h1]
   obtain⟨r1,r2⟩:=h.rel.ask h.fine o k fun q l hg _ hw=>h.rel.circle h.fine hw hg
   exact⟨r1,rfl,r2⟩
  rw [if_neg h1,if_neg h1]
  have bad: ∀ mk:Int,(o=0∨mk<0∨((T.keys o).length:Int)<mk)→T.back o mk=(T,[],2):=fun mk h=>by
   unfold LT.back
   rw [if_pos h]
  by_cases h2:kd=2
  ·rw [if_pos h2,if_pos h2]
   rw [← h.rel.keys]
   by_cases h3:o=0∨mk<0∨((T.keys o).length:Int)<mk
   ·rw [if_pos h3,bad _ h3]
    exact⟨h.rel,rfl,rfl⟩
   ·rw [if_neg h3]
    obtain⟨m,rfl⟩: ∃ m:Nat,mk=(m:Int):=⟨mk.toNat,by omega⟩
    obtain⟨r1,r2,r3⟩:=h.rel.back h.fine (by omega) o m (by omega) (by omega)
    rw [Int.toNat_natCast]
    exact⟨r1,r2.symm,r3.symm⟩
  rw [if_neg h2,if_neg h2]
  by_cases h3:kd=3
  ·rw [if_pos h3,if_pos h3]
   by_cases h0:o=0
   ·subst h0
    rw [h.back0,bad 0 (.inl rfl)]
    exact⟨h.rel,rfl,rfl⟩
   ·obtain⟨r1,r2,r3⟩:=h.rel.back h.fine (by omega) o 0 h0 (zQ _)
    exact⟨r1,r2.symm,rfl⟩
  rw [if_neg h3,if_neg h3]
  exact⟨h.rel,rfl,rfl⟩
 exact⟨a1,⟨a2,a3,key.1,by omega⟩,key.2⟩
theorem LT.Fine.came_few{T:LT}{N:Nat}(H:T.Fine N)(hN:N<900)(x:pO):(T.act x).2.1.length<2000000:=by
 have hb: ∀ o mark,(T.back o mark).2.1.length<2000000:=fun o mark=>by
  by_cases hc:o=0∨mark<0∨((T.keys o).length:Int)<mark
  ·have:T.back o mark=(T,[],2):=by unfold LT.back;rw [if_pos hc]
   rw [this]
   exact Nat.zero_lt_succ _
  ·obtain⟨m,rfl⟩: ∃ m:Nat,mark=(m:Int):=⟨mark.toNat,by omega⟩
   obtain⟨_,_,m3,_⟩:=H.marks (by omega) o m (by omega) (by omega)
   have h1:=(H.back (by omega) o (m:Int)).szL
   have h2:=H.wf.keys_le o
   have h3:=H.szL
   omega
 unfold LT.act
 split
 ·exact Nat.zero_lt_succ _
 ·split
  ·exact hb _ _
  ·split
   ·exact hb _ _
   ·exact Nat.zero_lt_succ _
theorem py{t t2 r2:Nat}{T:LT}{W:RT}{N:Nat}{Fp Fw:Nat→Prop}{H:aV}{nx:Nat}(hT:TabAt t T Fp H)(hW:WAt t2 r2 W Fw H)(hFw: ∀ n,Fw n→n<nx)(h:Twin T W N)(hN:N<900)(o:Nat)(k:ByteArray)(most:Int) :
 Fnc Try.prog 28 [.ptr t 0,.ptr t2 0,.sc (.int .u64 (o:Int)),.sc (.string k),.sc (.int .i64 most)] H nx (fun q=>q.1 = .sc (.bool true)∧nx≤q.2.2∧ ∀ n,n<nx→q.2.1.at' n=H.at' n):=by
 have hf:=h.fine
 have hw:=h.rel.waits hf o
 have hA:=h.all
 have hg:=h.rel.get hf k
 have h1:=hf.wf.keys_le o
 have h2:=hf.szL
 have h3:=hf.szP
 have h4:=hf.wf.line_le k
 refine xX hT hW hFw o k most ?_ ?_ ?_ ?_ (h.rel.keys o) h.rel.locks.length_eq (h.rel.owners hf h.busy) (by omega) (by omega) (by omega) (by omega)
 ·unfold cK
  rw [hw]
  by_cases e:(T.waits o).size=0
  ·rw [if_pos e]
   exact(MapKept.bytes_beq _ ⟨#[]⟩).1 (im e)
  ·rw [if_neg e]
 ·unfold cK
  rw [hw,show(T.waits o != (⟨#[]⟩:ByteArray)) = !(T.waits o == (⟨#[]⟩:ByteArray))from rfl]
  by_cases e:(T.waits o).size=0
  ·rw [if_pos e,im e];rfl
  ·rw [if_neg e,jm e];rfl
 ·unfold LT.has ru
  rw [hg]
  cases bE W k <;> rfl
 ·unfold LT.line ru
  rw [hg]
  cases bE W k <;> rfl
theorem w7{t:Nat}{T:LT}{W:RT}{N:Nat}{Fp:Nat→Prop}{H:aV}{nx:Nat}(hT:TabAt t T Fp H)(h:Twin T W N)(hN:N<900):Fnc Try.prog 14 [.ptr t 0] H nx (fun q=> ∃ c T' F',q.1 = .ptr c 0∧TabAt c T' F' q.2.1∧Twin T' W N∧(∀ n,F' n→nx≤n∧n<q.2.2)∧nx≤q.2.2∧ ∀ n,n<nx→q.2.1.at' n=H.at' n):=by
 have h1:=h.fine.wf.keys_le
 have h2:=h.fine.szL
 have h3:=h.fine.szP
 have h4:=h.fine.wf.line_le
 refine Fnc.mono (zo hT (fun k=>by have:=h4 k;omega) (fun o=>by have:=h1 o;omega)) ?_
 rintro q ⟨c,T',F',a1,a2,a3,a4,a5,a6,a7⟩
 exact⟨c,T',F',a1,a2,h.like ⟨a3,a4⟩,a5,a6,a7⟩
theorem rJ{t r:Nat}{s:SV}{V:RV}{Fw:Nat→Prop}{H:aV}(hV:WV t r s V Fw H):bU (V.flatMap vC)=true:=eK.2 fun x hx=>by
 obtain⟨y,hy,hx⟩:=List.mem_flatMap.1 hx
 exact eK.1 (pW (lT (hV.lines y hy).1)) x hx
theorem uz{t r:Nat}{W:RT}{Fw:Nat→Prop}{H:aV}{nx:Nat}(hW:WAt t r W Fw H)(hFw: ∀ n,Fw n→n<nx)(hl:W.length<1000000):Fnc Try.prog 25 [.ptr t 0] H nx
 (fun q=> ∃ t' r',q.1 = .ptr t' 0∧nx≤t'∧t'<q.2.2∧nx≤r'∧r'<q.2.2∧WAt t' r' W (fun n=>((Fw n∧n≠t∧n≠r)∨nx≤n)∧n<q.2.2) q.2.1∧ ∀ n,n<nx→q.2.1.at' n=H.at' n):=by
 obtain⟨s,V,hV,rfl⟩:=hW
 rw [List.length_map] at hl
 have htn:=hFw t hV.own
 have hbox:=hV.box
 have hsl:=hV.sl
 have hones:=rJ hV
 refine Fnc.start Try.func25 rfl rfl ?_
 (repeat(first|refine ao ?_|refine ai ?_|refine ah ?_|(apply am;exact rfl;exact rfl;exact rfl)|(apply aj;exact rfl;exact rfl;exact rfl)|(apply aJ;exact rfl;exact rfl;exact rfl)|(apply au;exact rfl;exact rfl;exact rfl;exact(F.fo _ _ rfl rfl))|refine aL rfl rfl rfl (F.ag _ rfl) (by assumption) (by exact rfl) ?_))
 refine vh (b:=48) rfl rfl rfl rfl (F.un _ rfl) (.inl ⟨_,F.un _ rfl⟩) (F.sz _ rfl) rfl (by kernel_rfl) (by kernel_rfl) hsl hones (by omega) (by omega) fun s' H' nx' hc=>?_
 rcases hc with ⟨h0,rfl,rfl,rfl⟩|⟨h0,rfl,rfl,rfl⟩
 ·obtain rfl:=zL h0
  (repeat(first|refine ah ?_|(apply aj;exact rfl;exact rfl;exact rfl)|(apply iD;exact rfl;exact rfl;exact rfl)|(apply gC;exact rfl;exact rfl;exact rfl;exact(F.ze _ rfl);exact(F.pl _ rfl);exact rfl)))
  ((apply bj Try.func25 (congrArg Array.toList Try.results25));(focus(repeat(first|exact ResIs.nil|apply ResIs.tmp rfl))))
  exact⟨nx',nx',rfl,zP _,Nat.lt_succ_self _,zP _,Nat.lt_succ_self _,⟨_,[],⟨Tr.ae _ _ _,.inl ⟨rfl,rfl⟩,fun x hx=>(by cases hx),⟨.inr (zP _),Nat.lt_succ_self _⟩⟩,rfl⟩,fun n hn=>Tr.aa _ _ (by omega)⟩
 ·(repeat(first|refine ah ?_|(apply aj;exact rfl;exact rfl;exact rfl)|(apply iD;exact rfl;exact rfl;exact rfl)|(apply gC;exact rfl;exact rfl;exact rfl;exact(F.ze _ rfl);exact(F.pl _ rfl);exact rfl)))
  ((apply bj Try.func25 (congrArg Array.toList Try.results25));(focus(repeat(first|exact ResIs.nil|apply ResIs.tmp rfl))))
  refine⟨nx+1,nx,rfl,by omega,by simp only;omega,zP _,by simp only;omega,⟨_,V,jS rfl h0 rfl (Tr.ae _ _ _) ((Tr.aa _ _ (by omega)).trans (Tr.ae _ _ _)) (by omega) ⟨.inr (zP _),by simp only;omega⟩ ⟨.inr (by omega),by simp only;omega⟩ (fun x hx=>?_),rfl⟩,fun n hn=>(Tr.aa _ _ (by omega)).trans (Tr.aa _ _ (by omega))⟩
  obtain⟨u1,u2⟩:=hV.lines x hx
  refine⟨SlOf.frame u1 fun b hb=>?_,fun b hb=>?_⟩
  ·have:=hFw b (u2 b hb).1
   exact(Tr.aa _ _ (by omega)).trans (Tr.aa _ _ (by omega))
  ·obtain⟨z1,z2,z3⟩:=u2 b hb
   have:=hFw b z1
   exact⟨⟨.inl ⟨z1,z2,z3⟩,by simp only;omega⟩,by omega,by omega⟩
abbrev knA:ByteArray:=⟨#[97]⟩
abbrev knB:ByteArray:=⟨#[98]⟩
abbrev kn0:ByteArray:=⟨#[]⟩
def kn1:LT:=⟨[(knA,(1,[]))],[(1,([knA],kn0))]⟩
def kn2:LT:=⟨[(knA,(1,[])),(knB,(2,[]))],[(1,([knA],kn0)),(2,([knB],kn0))]⟩
def kn3:LT:=⟨[(knA,(1,[])),(knB,(2,[1]))],[(1,([knA],knB)),(2,([knB],kn0))]⟩
def kn5:LT:=⟨[(knA,(1,[])),(knB,(1,[]))],[(1,([knA,knB],kn0))]⟩
theorem wZ:LT.empty.ask 1 knA=(kn1,0):=by kernel_rfl
theorem wY:kn1.ask 2 knB=(kn2,0):=by kernel_rfl
theorem wX:kn2.ask 1 knB=(kn3,9):=by kernel_rfl
theorem zf:kn3.ask 2 knA=(kn3,10):=by kernel_rfl
theorem wW:kn3.back 2 0=(kn5,[1],0):=by kernel_rfl
theorem zd:kn5.back 1 1=(kn1,[],0):=by kernel_rfl
theorem kn1_f:kn1.Fine 1:=by have h:=LT.Fine.empty.ask 1 knA;rw [wZ] at h;exact h
theorem kn2_f:kn2.Fine 2:=by have h:=kn1_f.ask 2 knB;rw [wY] at h;exact h
theorem kn3_f:kn3.Fine 3:=by have h:=kn2_f.ask 1 knB;rw [wX] at h;exact h
theorem kn5_f:kn5.Fine 3:=by have h:=kn3_f.back (by omega) 2 0;rw [wW] at h;exact h
theorem ww{t:Nat}{T T':LT}{Fp:Nat→Prop}{H:aV}{nx N:Nat}{e:Int}(hT:TabAt t T Fp H)(hf:T.Fine N)(hN:N<900)(o:Nat)(k:ByteArray)(hsz:k.size<4611686018427387904)(he:T.ask o k=(T',e)) :
 Fnc Try.prog 29 [.ptr t 0,.sc (.int .u64 (o:Int)),.sc (.string k)] H nx (Chg t T' (.sc (.int .i64 e)) Fp H nx):=by
 obtain⟨h1,h2,h3⟩:=hf.askOk hN o k
 have h:=zt (nx:=nx) hT o k h1 h2 hsz h3
 rw [he] at h
 exact h
theorem tA{H:aV}{nx r1 r2:Nat}{a1 a2:Bool}(xs:List Nat)(h1:H.at' r1=some (uR a1 xs))(h2:H.at' r2=some (uR a2 xs))(hl:xs.length<2000000):Fnc Try.prog 27 [.slu r1 0 xs.length,.slu r2 0 xs.length] H nx (fun q=>q=(.sc (.bool true),H,nx)):=by
 have h:=kI (nx:=nx) xs xs h1 h2 hl hl
 rw [decide_eq_true rfl] at h
 exact h
theorem sy{H:aV}{nx r1 r2:Nat}{a1 a2:Bool}(xs:List ByteArray)(h1:H.at' r1=some (sR a1 xs))(h2:H.at' r2=some (sR a2 xs))(hl:xs.length<2000000):Fnc Try.prog 17 [.slu r1 0 xs.length,.slu r2 0 xs.length] H nx (fun q=>q=(.sc (.bool true),H,nx)):=by
 have h:=sx (nx:=nx) xs xs h1 h2 hl hl
 rw [decide_eq_true rfl] at h
 exact h
theorem tS{H:aV}{nx:Nat}:Fnc Try.prog 9 [] H nx (fun q=>q.1 = .sc (.bool true)∧nx≤q.2.2∧ ∀ n,n<nx→q.2.1.at' n=H.at' n):=by
 refine Fnc.start Try.func9 rfl rfl ?_
 (repeat(first|refine ao ?_|refine ai ?_|refine ah ?_|refine aN ?_|refine ay rfl ?_|refine am rfl rfl rfl ?_|refine aj rfl rfl rfl ?_|refine dD rfl rfl rfl rfl (F.un _ rfl) rfl ?_|(refine bn rfl rfl rfl (by kernel_rfl) (Fnc.mono (xT) ?_);rintro _ rfl;dsimp only)))
 refine bn rfl rfl rfl (by kernel_rfl) (Fnc.mono (ww new_at LT.Fine.empty (by omega) 1 knA (by decide) wZ) ?_)
 rintro⟨_,H1,n1⟩ ⟨rfl,F1,a1,a2⟩
 dsimp only at a1 a2 ⊢
 (repeat(refine am rfl rfl rfl ?_))
 refine bn rfl rfl rfl (by kernel_rfl) (Fnc.mono (ww a1 kn1_f (by omega) 2 knB (by decide) wY) ?_)
 rintro⟨_,H2,n2⟩ ⟨rfl,F2,b1,b2⟩
 dsimp only at b1 b2 ⊢
 (repeat(first|(refine am rfl rfl rfl ?_)|(refine bn rfl rfl rfl (by kernel_rfl) (Fnc.mono (tN b1 1) ?_);rintro _ rfl;dsimp only)))
 refine bn rfl rfl rfl (by kernel_rfl) (Fnc.mono (ww b1 kn2_f (by omega) 1 knB (by decide) wX) ?_)
 rintro⟨_,H3,n3⟩ ⟨rfl,F3,c1,c2⟩
 dsimp only at c1 c2 ⊢
 (repeat(refine am rfl rfl rfl ?_))
 refine bn rfl rfl rfl (by kernel_rfl) (Fnc.mono (ww c1 kn3_f (by omega) 2 knA (by decide) zf) ?_)
 rintro⟨_,H4,n4⟩ ⟨rfl,F4,d1,d2⟩
 dsimp only at d1 d2 ⊢
 (repeat(first|refine ao ?_|refine ai ?_|refine ah ?_|refine am rfl rfl rfl ?_|refine aj rfl rfl rfl ?_))
 have hfr:=w6 (nx:=n4) d1 2 ⟨by decide,(kn3_f.backOk (by omega) 2 0).2⟩
 rw [wW] at hfr
 refine bn rfl rfl rfl (by kernel_rfl) (Fnc.mono hfr ?_)
 rintro⟨_,H5,n5⟩ ⟨r5,rfl,e1,e2,e3,F5,e4,e5,e6⟩
 dsimp only at e1 e3 e4 e6 ⊢
 clear hfr
 refine b4 fun hund5=>?_
 have hF5:=e4.lt hund5
 (repeat(first|refine ao ?_|refine ai ?_|refine ah ?_|refine am rfl rfl rfl ?_|refine aj rfl rfl rfl ?_))
 refine bn rfl rfl rfl (by kernel_rfl) (Fnc.mono (tU e4 1 (by decide)) ?_)
 rintro⟨_,H6,n6⟩ ⟨r6,rfl,f1,f2,f3,f4,f5⟩
 dsimp only at f1 f3 f4 f5 ⊢
 (repeat(first|refine ao ?_|refine ai ?_|refine ah ?_|refine am rfl rfl rfl ?_|refine aj rfl rfl rfl ?_))
 have hba:=uJ (nx:=n6) (e4.frame fun n hn=>f5 n (hF5 n hn)) 1 1 ⟨by decide,(kn5_f.backOk (by omega) 1 1).2⟩
 rw [zd] at hba
 refine bn rfl rfl rfl (by kernel_rfl) (Fnc.mono hba ?_)
 rintro⟨_,H7,n7⟩ ⟨r7,rfl,g1,g2,g3,F7,g4,g5,g6⟩
 dsimp only at g1 g3 g4 g6 ⊢
 clear hba
 refine b4 fun hund7=>?_
 have hF7:=g4.lt hund7
 have hr5:H7.at' r5=some (uR false [1]):=(g6.2.2 r5 (by omega) fun h=>e5 h).trans ((f5 r5 e3).trans e1)
 have hr6:H7.at' r6=some (sR false [knA,knB]):=(g6.2.2 r6 f3 fun h=>by have:=hF5 _ h;omega).trans f1
 (repeat(first|refine ao ?_|refine ai ?_|refine ah ?_|refine am rfl rfl rfl ?_|refine aj rfl rfl rfl ?_|refine ce rfl rfl rfl rfl ?_|refine bX rfl rfl rfl rfl ?_|refine bT rfl rfl rfl rfl (by omega) (by omega) ?_|(refine bn rfl rfl rfl (by kernel_rfl) (Fnc.mono (xP _) ?_);rintro _ rfl;dsimp only)|(refine cF rfl rfl rfl rfl (fun _=>?_) (fun hq=>absurd (by decide) hq))|refine wG rfl rfl rfl (F.un _ rfl) (F.sz _ rfl) (F.ze _ rfl) rfl ?_))
 (refine bn rfl rfl rfl (by kernel_rfl) (Fnc.mono (tA (H:=H7.set n7 (uR false [1])) [1] (by(repeat(refine(Tr.aa _ _ (by omega)).trans ?_));exact hr5) (Tr.ae _ _ _) (by decide)) ?_);rintro _ rfl;dsimp only)
 (repeat(first|refine am rfl rfl rfl ?_|refine ce rfl rfl rfl rfl ?_|refine yD rfl rfl rfl rfl (F.un _ rfl) (F.sz _ rfl) (F.ze _ rfl) rfl rfl ?_))
 (refine bn rfl rfl rfl (by kernel_rfl) (Fnc.mono (sy (H:=(H7.set n7 (uR false [1])).set (n7+1) (sR false [knA,knB])) [knA,knB] (by(repeat(refine(Tr.aa _ _ (by omega)).trans ?_));exact hr6) (Tr.ae _ _ _) (by decide)) ?_);rintro _ rfl;dsimp only)
 (repeat(first|refine am rfl rfl rfl ?_|refine ce rfl rfl rfl rfl ?_|refine cr rfl rfl rfl (F.un _ rfl) ?_|(refine cF rfl rfl rfl rfl (fun _=>?_) (fun hq=>absurd (by decide) hq))))
 refine bn rfl rfl rfl (by kernel_rfl) (Fnc.mono (tU (T:=kn1) (Fp:=F7) (g4.frame fun n hn=>by have:=hF7 n hn;(focus((repeat(refine(Tr.aa _ _ (by omega)).trans ?_));exact rfl))) 1 (by decide)) ?_)
 rintro⟨_,H8,n8⟩ ⟨r8,rfl,i1,i2,i3,i4,i5⟩
 dsimp only at i1 i3 i4 i5 ⊢
 (repeat(refine wG rfl rfl rfl (F.un _ rfl) (F.sz _ rfl) (F.ze _ rfl) rfl ?_))
 (refine bn rfl rfl rfl (by kernel_rfl) (Fnc.mono (sy (H:=H8.set n8 (sR false [knA])) [knA] (by(repeat(refine(Tr.aa _ _ (by omega)).trans ?_));exact i1) (Tr.ae _ _ _) (by decide)) ?_);rintro _ rfl;dsimp only)
 (repeat(first|refine ah ?_|refine aj rfl rfl rfl ?_|refine ce rfl rfl rfl rfl ?_))
 ((apply bj Try.func9 (congrArg Array.toList Try.results9));(focus(repeat(first|exact ResIs.nil|apply ResIs.tmp rfl))))
 have s1:=a2.1
 have s2:=b2.1
 have s3:=c2.1
 have s4:=d2.1
 have s5:=e6.1
 have s7:=g6.1
 clear hr5 hr6 hF7 hF5 hund5 hund7
 have k1: ∀ n,F1 n→nx≤n:=fun n hn=>by
  rcases a2.2.1 n hn with h|h
  ·have h:n=nx+1+1∨n=nx∨n=nx+1:=h
   omega
  ·omega
 have k2: ∀ n,F2 n→nx≤n:=fun n hn=>(b2.2.1 n hn).elim (k1 n) fun h=>by omega
 have k3: ∀ n,F3 n→nx≤n:=fun n hn=>(c2.2.1 n hn).elim (k2 n) fun h=>by omega
 have k4: ∀ n,F4 n→nx≤n:=fun n hn=>(d2.2.1 n hn).elim (k3 n) fun h=>by omega
 have k5: ∀ n,F5 n→nx≤n:=fun n hn=>(e6.2.1 n hn).elim (k4 n) fun h=>by omega
 refine⟨rfl,by simp only;omega,fun n hn=>?_⟩
 have m1:H1.at' n=H.at' n:=(a2.2.2 n (by omega) fun h=>by
  have h:n=nx+1+1∨n=nx∨n=nx+1:=h
  omega).trans (by(repeat(refine(Tr.aa _ _ (by omega)).trans ?_));exact rfl)
 have m2:=(b2.2.2 n (by omega) fun h=>by have:=k1 n h;omega).trans m1
 have m3:=(c2.2.2 n (by omega) fun h=>by have:=k2 n h;omega).trans m2
 have m4:=(d2.2.2 n (by omega) fun h=>by have:=k3 n h;omega).trans m3
 have m5:=(e6.2.2 n (by omega) fun h=>by have:=k4 n h;omega).trans m4
 have m6:=(f5 n (by omega)).trans m5
 have m7:=(g6.2.2 n (by omega) fun h=>by have:=k5 n h;omega).trans m6
 have m8:=(i5 n (by omega)).trans (show _=H.at' n by(focus((repeat(refine(Tr.aa _ _ (by omega)).trans ?_));exact m7)))
 (focus((repeat(refine(Tr.aa _ _ (by omega)).trans ?_));exact m8))
end Go.Proofs.Ytckajlllkmkniaa
end
section
namespace Go.Sy
open Go Go.Sl Go.RowKit
section
variable {P:Program}
theorem St.drop{K:Zone}{w0 w w1:World}{e e1:Env}{H H1:aV}{nx nx1:Nat}(hS:St K w0 e H nx w)(hle:e.le e1)(hS1:St K w0 e1 H1 nx1 w1)(hk: ∀ m,m<nx→H1.at' m=H.at' m):St K w0 e H nx w1:=by
 refine⟨hS1.below,fun m vo h=>?_,hS.inj,hS.fresh⟩
 obtain⟨x0,hx0,hl0⟩:=hS.rel m vo h
 have hm:m<nx:=by
  rcases Nat.lt_or_ge m nx with q|q
  ·exact q
  ·rw [hS.fresh m q] at hx0;cases hx0
 obtain⟨x,hx,hl⟩:=hS1.rel m vo ((hk m hm).trans h)
 have:=hle m x0 hx0
 rw [hx] at this
 cases this
 exact⟨_,hx0,qR hle (Env.le_refl e) hl0 hl⟩
theorem Fnc.pL{f:FuncId}{args:List SV}{H:aV}{nx:Nat}{v:Value}(h:Fnc P f args H nx (fun q=>q.1 = .sc v∧nx≤q.2.2∧ ∀ n,n<nx→q.2.1.at' n=H.at' n)):Fnc P f args H nx (fun q=>q=(.sc v,H,nx)):=by
 unfold Fnc iB at h ⊢
 rcases h with ⟨h1,u,r,h2,⟨q1,q2,q3⟩,h4⟩|h
 ·refine .inl ⟨h1,u,_,h2,rfl,fun K w0 e w hS=>?_⟩
  obtain⟨e',g1,g2,g3⟩:=h4 K w0 e w hS
  rw [q1] at g3
  exact⟨e,Env.le_refl e,hS.drop g1 g2 q3,g3⟩
 ·refine .inr ?_
  split at h
  ·refine⟨fun K w0 e w tmps todo ds kd rof cs hS a2 a3 a4 a5=>?_⟩
   obtain⟨r,⟨q1,q2,q3⟩,e',w',u,g1,g2,g3,g4⟩:=Wp.run h K w0 e w tmps todo ds kd rof cs hS a2 a3 a4 a5
   rw [q1] at g3
   exact⟨_,rfl,e,w',u,Env.le_refl e,hS.drop g1 g2 q3,g3,g4⟩
  ·exact h.elim
end
end Go.Sy
end
section
namespace Go.Proofs.Ytckajlllkmkniaa
open Go Go.Sy Go.Sl Go.RowKit
structure Own (lo nx:Nat) (E N:Nat→Prop):Prop where
 e: ∀ n,E n→lo≤n∧n<nx
 n: ∀ n,N n→lo≤n∧n<nx
def Apart(E N E' N':Nat→Prop):Prop:=(∀ n,E n→ ¬ N' n)∧ ∀ n,E' n→ ¬ N n
theorem Apart.swap{E N E' N':Nat→Prop}(h:Apart E N E' N'):Apart E' N' E N:=⟨h.2,h.1⟩
theorem Own.mono{lo nx nx':Nat}{E N:Nat→Prop}(h:Own lo nx E N)(hn:nx≤nx'):Own lo nx' E N:=⟨fun n q=>⟨(h.e n q).1,by have:=(h.e n q).2;omega⟩,fun n q=>⟨(h.n n q).1,by have:=(h.n n q).2;omega⟩⟩
theorem Own.next{lo nx nx':Nat}{E N E' N':Nat→Prop}(h:Own lo nx E N)(hlo:lo≤nx)(hn:nx≤nx')(h1: ∀ n,E' n→(E n∨nx≤n)∧n<nx')(h2: ∀ n,N' n→(N n∨nx≤n)∧n<nx'):Own lo nx' E' N':=
 ⟨fun n q=>⟨(h1 n q).1.elim (fun g=>(h.e n g).1) fun g=>by omega,(h1 n q).2⟩,fun n q=>⟨(h2 n q).1.elim (fun g=>(h.n n g).1) fun g=>by omega,(h2 n q).2⟩⟩
theorem Apart.next{lo nx nx':Nat}{E N E' N' E2 N2:Nat→Prop}(h:Apart E N E2 N2)(ho:Own lo nx E2 N2)(h1: ∀ n,E' n→(E n∨nx≤n)∧n<nx')(h2: ∀ n,N' n→(N n∨nx≤n)∧n<nx'):Apart E' N' E2 N2:=
 ⟨fun n q g=>(h1 n q).1.elim (fun p=>h.1 n p g) fun p=>by have:=(ho.n n g).2;omega,fun n q g=>(h2 n g).1.elim (fun p=>h.2 n q p) fun p=>by have:=(ho.e n q).2;omega⟩
def two(t r:Nat)(n:Nat):Prop:=n=t∨n=r
structure Quad (t w c v r rv:Nat) (T:LT) (W:RT) (Tc:LT) (Wc:RT) (Fo Fw Fc Fv:Nat→Prop) (lo:Nat) (H:aV) (nx:Nat):Prop where
 le:lo≤nx
 a:TabAt t T Fo H
 b:WAt w r W Fw H
 c':TabAt c Tc Fc H
 d':WAt v rv Wc Fv H
 oa:Own lo nx Fo Fo
 ob:Own lo nx (two w r) Fw
 oc:Own lo nx Fc Fc
 od:Own lo nx (two v rv) Fv
 ab:Apart Fo Fo (two w r) Fw
 ac:Apart Fo Fo Fc Fc
 ad:Apart Fo Fo (two v rv) Fv
 bc:Apart (two w r) Fw Fc Fc
 bd:Apart (two w r) Fw (two v rv) Fv
 cd:Apart Fc Fc (two v rv) Fv
section
variable {t w c v r rv lo nx nx':Nat} {T:LT} {W:RT} {Tc:LT} {Wc:RT} {Fo Fw Fc Fv:Nat→Prop} {H H':aV}
theorem Quad.swap(h:Quad t w c v r rv T W Tc Wc Fo Fw Fc Fv lo H nx):Quad c v t w rv r Tc Wc T W Fc Fv Fo Fw lo H nx:=
 ⟨h.le,h.c',h.d',h.a,h.b,h.oc,h.od,h.oa,h.ob,h.cd,h.ac.swap,h.bc.swap,h.ad.swap,h.bd.swap,h.ab⟩
theorem Quad.keep(h:Quad t w c v r rv T W Tc Wc Fo Fw Fc Fv lo H nx)(hn:nx≤nx')(hH: ∀ n,n<nx→H'.at' n=H.at' n):Quad t w c v r rv T W Tc Wc Fo Fw Fc Fv lo H' nx':=
 ⟨zX h.le hn,h.a.frame fun n q=>hH n (h.oa.n n q).2,h.b.frame fun n q=>hH n (h.ob.n n q).2,h.c'.frame fun n q=>hH n (h.oc.n n q).2,h.d'.frame fun n q=>hH n (h.od.n n q).2,h.oa.mono hn,h.ob.mono hn,h.oc.mono hn,h.od.mono hn,h.ab,h.ac,h.ad,h.bc,h.bd,h.cd⟩
theorem Quad.doT(h:Quad t w c v r rv T W Tc Wc Fo Fw Fc Fv lo H nx){T':LT}{F':Nat→Prop}(hT:TabAt t T' F' H')(hlt: ∀ n,F' n→n<nx')(hs:Step Fo F' H nx H' nx'):Quad t w c v r rv T' W Tc Wc F' Fw Fc Fv lo H' nx':=by
 have h1: ∀ n,F' n→(Fo n∨nx≤n)∧n<nx':=fun n q=>⟨hs.2.1 n q,hlt n q⟩
 have hH: ∀ {E N},Own lo nx E N→Apart Fo Fo E N→ ∀ n,N n→H'.at' n=H.at' n:=fun ho ha n q=>hs.2.2 n (ho.n n q).2 fun g=>ha.1 n g q
 exact⟨zX h.le hs.1,hT,h.b.frame (hH h.ob h.ab),h.c'.frame (hH h.oc h.ac),h.d'.frame (hH h.od h.ad),h.oa.next h.le hs.1 h1 h1,h.ob.mono hs.1,h.oc.mono hs.1,h.od.mono hs.1,h.ab.next h.ob h1 h1,h.ac.next h.oc h1 h1,h.ad.next h.od h1 h1,h.bc,h.bd,h.cd⟩
theorem Quad.doW(h:Quad t w c v r rv T W Tc Wc Fo Fw Fc Fv lo H nx){W':RT}{q:Res}(hk:KeepW w r W' Fw H nx q): ∃ r' Fw',Quad t w c v r' rv T W' Tc Wc Fo Fw' Fc Fv lo q.2.1 q.2.2:=by
 obtain⟨k1,r',k2,k3,k4,k5⟩:=hk
 refine⟨r',fun n=>(Fw n∨nx≤n)∧n<q.2.2,?_⟩
 have hr:=h.ob.e
 have hw:=(hr w (.inl rfl)).2
 have h1: ∀ n,two w r' n→(two w r n∨nx≤n)∧n<q.2.2:=fun n g=>by
  rcases g with rfl|rfl
  ·exact⟨.inl (.inl rfl),by omega⟩
  ·exact⟨k3.imp (fun e=> .inr e) id,k4⟩
 have h2: ∀ n,((Fw n∨nx≤n)∧n<q.2.2)→(Fw n∨nx≤n)∧n<q.2.2:=fun n g=>g
 have hH: ∀ {E N},Own lo nx E N→Apart E N (two w r) Fw→ ∀ n,N n→q.2.1.at' n=H.at' n:=fun ho ha n g=>k5 n (ho.n n g).2 (fun e=>ha.2 n (.inl e) g) (fun e=>ha.2 n (.inr e) g)
 exact⟨zX h.le k1,h.a.frame (hH h.oa h.ab),k2,h.c'.frame (hH h.oc h.bc.swap),h.d'.frame (hH h.od h.bd.swap),h.oa.mono k1,h.ob.next h.le k1 h1 h2,h.oc.mono k1,h.od.mono k1,(h.ab.swap.next h.oa h1 h2).swap,h.ac,h.ad,h.bc.next h.oc h1 h2,h.bd.next h.od h1 h2,h.cd⟩
end
structure Duo (t w r:Nat) (T:LT) (W:RT) (Fo Fw:Nat→Prop) (lo:Nat) (H:aV) (nx:Nat):Prop where
 le:lo≤nx
 a:TabAt t T Fo H
 b:WAt w r W Fw H
 oa:Own lo nx Fo Fo
 ob:Own lo nx (two w r) Fw
 ab:Apart Fo Fo (two w r) Fw
section
variable {t w c v r rv lo nx n2 n3:Nat} {T:LT} {W:RT} {Tc:LT} {Wc:RT} {Fo Fw Fc Fv:Nat→Prop} {H H2 H3:aV}
theorem Quad.duo(h:Quad t w c v r rv T W Tc Wc Fo Fw Fc Fv lo H nx):Duo t w r T W Fo Fw lo H nx:=⟨h.le,h.a,h.b,h.oa,h.ob,h.ab⟩
theorem Duo.keep{nx':Nat}{H':aV}(h:Duo t w r T W Fo Fw lo H nx)(hn:nx≤nx')(hH: ∀ n,n<nx→H'.at' n=H.at' n):Duo t w r T W Fo Fw lo H' nx':=
 ⟨zX h.le hn,h.a.frame fun n q=>hH n (h.oa.n n q).2,h.b.frame fun n q=>hH n (h.ob.n n q).2,h.oa.mono hn,h.ob.mono hn,h.ab⟩
theorem Duo.copy(h:Duo t w r T W Fo Fw lo H nx)(hr:lo≤nx)(h2: ∀ n,n<nx→H2.at' n=H.at' n)(hn2:nx≤n2)(hc:TabAt c Tc Fc H2)(hFc: ∀ n,Fc n→nx≤n∧n<n2)
 (hv1:n2≤v) (hv2:v<n3) (hv3:n2≤rv) (hv4:rv<n3) (hv:WAt v rv W (fun n=>((Fw n∧n≠w∧n≠r)∨n2≤n)∧n<n3) H3) (h3: ∀ n,n<n2→H3.at' n=H2.at' n) :
 ∃ Fv,Quad t w c v r rv T W Tc W Fo Fw Fc Fv lo H3 n3:=by
 have hH: ∀ n,n<nx→H3.at' n=H.at' n:=fun n q=>(h3 n (by omega)).trans (h2 n q)
 have hw:=(h.ob.e w (.inl rfl)).2
 have hrr:=(h.ob.e r (.inr rfl)).2
 have hvv: ∀ n,two v rv n→n2≤n∧n<n3:=fun n g=>by rcases g with rfl|rfl <;> exact⟨by omega,by omega⟩
 have hww: ∀ n,two w r n→n<nx:=fun n g=>(h.ob.e n g).2
 refine⟨_,by omega,h.a.frame fun n q=>hH n (h.oa.n n q).2,h.b.frame fun n q=>hH n (h.ob.n n q).2,hc.frame fun n q=>h3 n (hFc n q).2,hv,h.oa.mono (by omega),h.ob.mono (by omega),⟨fun n q=>⟨by have:=hFc n q;omega,by have:=hFc n q;omega⟩,fun n q=>⟨by have:=hFc n q;omega,by have:=hFc n q;omega⟩⟩,⟨fun n q=>⟨by have:=hvv n q;omega,(hvv n q).2⟩,fun n q=>⟨q.1.elim (fun g=>(h.ob.n n g.1).1) fun g=>by omega,q.2⟩⟩,h.ab,⟨fun n q g=>?_,fun n q g=>?_⟩,⟨fun n q g=>?_,fun n q g=>?_⟩,⟨fun n q g=>?_,fun n q g=>?_⟩,⟨fun n q g=>?_,fun n q g=>?_⟩,⟨fun n q g=>?_,fun n q g=>?_⟩⟩
 ·have:=(h.oa.n n q).2;have:=hFc n g;omega
 ·have:=(h.oa.n n g).2;have:=hFc n q;omega
 ·rcases g.1 with g|g
  ·exact h.ab.1 n q g.1
  ·have:=(h.oa.n n q).2;omega
 ·have:=(h.oa.n n g).2;have:=hvv n q;omega
 ·have:=hww n q;have:=hFc n g;omega
 ·have:=(h.ob.n n g).2;have:=hFc n q;omega
 ·rcases g.1 with g|g
  ·rcases q with q|q
   ·exact g.2.1 q
   ·exact g.2.2 q
  ·have:=hww n q;omega
 ·have:=(h.ob.n n g).2;have:=hvv n q;omega
 ·rcases g.1 with g|g
  ·have:=(h.ob.n n g.1).2;have:=hFc n q;omega
  ·have:=hFc n q;omega
 ·have:=hFc n g;have:=hvv n q;omega
theorem Duo.new{H:aV}{nx:Nat}(hT:TabAt (nx+1+1) LT.empty (fun n=>n=nx+1+1∨n=nx∨n=nx+1) H)(hb:H.at' (nx+1+1+1)=some (aG 56 [.sc (.slice none 0 0)])):Duo (nx+1+1) (nx+1+1+1) (nx+1+1+1) LT.empty [] (fun n=>n=nx+1+1∨n=nx∨n=nx+1) (fun n=>n=nx+1+1+1) nx H (nx+1+1+1+1):=
 ⟨by omega,hT,⟨_,[],⟨hb,.inl ⟨rfl,rfl⟩,fun x hx=>(by cases hx),rfl⟩,rfl⟩,⟨fun n q=>by omega,fun n q=>by omega⟩,⟨fun n q=>by unfold two at q;omega,fun n q=>by omega⟩,⟨fun n q g=>by omega,fun n q g=>by unfold two at q;omega⟩⟩
end
theorem xG{H:aV}{nx r:Nat}{ro:Bool}(a:Array pO)(leave:Int)(hr:H.at' r=some (actR ro a))(ha:a.size≤9223372036854775807):Fnc Try.prog 6 [.slu r 0 a.size,.sc (.int .i64 leave)] H nx (fun q=>q.1 = .sc (.bool true)):=by
 refine Fnc.start Try.func6 rfl rfl ?_
 refine b4 fun hund=>?_
 have hrl:=hund _ _ hr
 (repeat(first|refine ao ?_|refine ai ?_|refine ah ?_|(apply am;exact rfl;exact rfl;exact rfl)|(apply aj;exact rfl;exact rfl;exact rfl)|(refine bn rfl rfl rfl (by kernel_rfl) (Fnc.mono (y9 a 150 hr ha) ?_);rintro _ rfl;dsimp only)))
 cases hm:nR a 150 with
 | true=>
   (repeat(first|refine ao ?_|refine ai ?_|refine ah ?_|refine aD rfl ?_|(apply aj;exact rfl;exact rfl;exact rfl)|(refine bn rfl rfl rfl (by kernel_rfl) (Fnc.mono tS ?_);rintro⟨_,Hk,nk⟩ ⟨rfl,hk1,hk2⟩;dsimp only at hk1 hk2 ⊢)))
   ((apply bj Try.func6 (congrArg Array.toList Try.results6));(focus(repeat(first|exact ResIs.nil|apply ResIs.tmp rfl))))
   rfl
 | false=>
   obtain⟨hsz,hks⟩:=tB (m:=150) hm
   (repeat(first|refine ao ?_|refine ai ?_|refine ah ?_|refine aN ?_|refine ay rfl ?_|(apply am;exact rfl;exact rfl;exact rfl)|(apply aj;exact rfl;exact rfl;exact rfl)|(apply dD;exact rfl;exact rfl;exact rfl;exact rfl;exact(F.un _ rfl);exact rfl)|(apply iD;exact rfl;exact rfl;exact rfl)|(apply gC;exact rfl;exact rfl;exact rfl;exact(F.ze _ rfl);exact(F.pl _ rfl);exact rfl)|(refine bn rfl rfl rfl (by kernel_rfl) (Fnc.mono (xT) ?_);rintro _ rfl;dsimp only)))
   have D0:=Duo.new (H:=(((H.set nx (.map [] 0)).set (nx+1) (.map [] 0)).set (nx+1+1) (aG 67 [.mp nx,.mp (nx+1)])).set (nx+1+1+1) (aG 56 [.sc (.slice none 0 0)])) (new_at.frame fun n hn=>by(focus((repeat(refine(Tr.aa _ _ (by omega)).trans ?_));exact rfl))) (Tr.ae _ _ _)
   have hold0: ∀ n,n<nx→((((H.set nx (.map [] 0)).set (nx+1) (.map [] 0)).set (nx+1+1) (aG 67 [.mp nx,.mp (nx+1)])).set (nx+1+1+1) (aG 56 [.sc (.slice none 0 0)])).at' n=H.at' n:=fun n hn=>by(focus((repeat(refine(Tr.aa _ _ (by omega)).trans ?_));exact rfl))
   refine bn rfl rfl rfl (by kernel_rfl) (Fnc.mono (w7 D0.a Twin.empty (by omega)) ?_)
   rintro⟨_,H2,n2⟩ ⟨c0,Tc0,Fc0,rfl,p1,p2,p3,p4,p5⟩
   dsimp only at p1 p3 p4 p5 ⊢
   have D2:=D0.keep p4 p5
   (repeat(apply am;exact rfl;exact rfl;exact rfl))
   refine bn rfl rfl rfl (by kernel_rfl) (Fnc.mono (uz D2.b (fun n g=>(D2.ob.n n g).2) (by simp)) ?_)
   rintro⟨_,H3,n3⟩ ⟨v0,rv0,rfl,v1,v2,v3,v4,v5,v6⟩
   dsimp only at v1 v2 v3 v4 v5 v6 ⊢
   obtain⟨Fv0,Q0⟩:=D0.copy D0.le p5 p4 p1 p3 v1 v2 v3 v4 v5 v6
   have hold3: ∀ n,n<nx→H3.at' n=H.at' n:=fun n hn=>(v6 n (by omega)).trans ((p5 n (by omega)).trans (hold0 n hn))
   clear D0 D2 hold0 p1 p3 p5 v5 v6
   (repeat(first|refine ao ?_|refine ai ?_|refine ah ?_|refine aT ?_|(apply aj;exact rfl;exact rfl;exact rfl)))
   refine ch (α:=Nat×(LT×RT)×(LT×RT)×Nat×Nat) (fun x=> [(0,.slu r 0 a.size),(1,.sc (.int .i64 leave)),(5,.ptr (nx+1+1) 0),(6,.ptr (nx+1+1+1) 0),(7,.ptr x.2.2.2.1 0),(8,.ptr x.2.2.2.2 0),(9,.sc (.int .i64 (x.1:Int)))]) (fun x H1 n1=>x.1≤a.size∧Twin x.2.1.1 x.2.1.2 x.1∧Twin x.2.2.1.1 x.2.2.1.2 x.1∧(∃ r2 rv Fo Fw Fc Fv,Quad (nx+1+1) (nx+1+1+1) x.2.2.2.1 x.2.2.2.2 r2 rv x.2.1.1 x.2.1.2 x.2.2.1.1 x.2.2.1.2 Fo Fw Fc Fv nx H1 n1)∧ ∀ n,n<nx→H1.at' n=H.at' n) (fun x=>a.size-x.1) (0,(LT.empty,[]),(Tc0,[]),c0,v0) ⟨zQ _,Twin.empty,p2,⟨_,_,_,_,_,_,Q0⟩,hold3⟩ (SlIn.sub (by repeat(first|exact trivial|refine⟨rfl,?_⟩))) ?_
   clear Q0 p2 hold3
   rintro⟨i,⟨T,W⟩,⟨Tc,Wc⟩,c,v⟩ H1 nx1 ⟨hi,hT,hC,⟨r2,rv,Fo,Fw,Fc,Fv,Q⟩,hold⟩ again
   simp only at hi hT hC Q again ⊢
   have hr1:=(hold _ hrl).trans hr
   (repeat(first|refine ao ?_|refine ai ?_|(apply am;exact rfl;exact rfl;exact rfl)|(apply cr;exact rfl;exact rfl;exact rfl;exact(F.un _ rfl))))
   (apply cu;exact rfl;exact rfl;exact rfl;exact rfl)
   all_goals intro h1
   ·have hi':i<a.size:=by omega
    have hmem:a[i]! ∈a.toList:=by rw [getElem!_pos a i hi'];exact Array.getElem_mem_toList hi'
    have hkx:=hks _ hmem
    obtain⟨hok,hT2,hca,hce⟩:=hT.act (by omega) (a[i]!)
    have hcl:(T.act (a[i]!)).2.1.length<2000000:=hT.fine.came_few (by omega) (a[i]!)
    (repeat(first|refine ao ?_|refine ai ?_|refine ah ?_|refine aT ?_|refine aN ?_|refine aD rfl ?_|(apply am;exact rfl;exact rfl;exact rfl)|refine c7 (q:=i) rfl rfl rfl rfl (F.un _ rfl) (F.sz _ rfl) (by assumption) (by omega) (by first|omega|(simp;done)) (zP _) ?_|(refine u7 rfl rfl rfl (F.ag _ rfl) (vy) (by assumption) (by omega) (by omega) ?_)))
    refine bn rfl rfl rfl (by kernel_rfl) (Fnc.mono (do_t Q.a (a[i]!) hok (by omega)) ?_)
    rintro⟨_,H2,n2⟩ ⟨ra,rfl,q1,q2,q3,F2,q4,q5,q6⟩
    dsimp only at q1 q2 q3 q4 q5 q6 ⊢
    refine b4 fun hund2=>?_
    have Q2:=Q.doT q4 (q4.lt hund2) q6
    have hold2: ∀ n,n<nx→H2.at' n=H.at' n:=fun n hn=>(q6.2.2 n (by have:=Q.le;omega) fun g=>by have:=(Q.oa.e n g).1;omega).trans (hold n hn)
    have hr2:=(hold2 _ hrl).trans hr
    have hwn:=(Q.ob.e _ (.inl rfl)).2
    have hrn:=(Q.ob.e _ (.inr rfl)).2
    clear hund2 q4 q5 q6 hr1 hold Q
    (repeat(first|refine ao ?_|refine ai ?_|refine ah ?_|(apply am;exact rfl;exact rfl;exact rfl)|(apply aj;exact rfl;exact rfl;exact rfl)|(apply bX;exact rfl;exact rfl;exact rfl;exact rfl)|refine c7 (q:=i) rfl rfl rfl rfl (F.un _ rfl) (F.sz _ rfl) (by assumption) (by omega) (by first|omega|(simp;done)) (zP _) ?_|(refine u7 rfl rfl rfl (F.ag _ rfl) (vy) (by assumption) (by omega) (by omega) ?_)))
    refine bn rfl rfl rfl (by kernel_rfl) (Fnc.mono (zn Q2.b (fun n g=>(Q2.ob.n n g).2) (Q2.ob.e _ (.inr rfl)).2 (a[i]!) (by have:=hT.all;omega) hT.nd (by omega)) ?_)
    rintro⟨_,H3,n3⟩ ⟨rb,rfl,s1,s2,s3,s4⟩
    dsimp only at s1 s2 s3 s4 ⊢
    obtain⟨r3,Fw3,Q3⟩:=Q2.doW s4
    dsimp only at Q3
    obtain⟨k1,_,_,_,_,k5⟩:=s4
    dsimp only at k1 k5
    have hra:=(k5 ra q3 (by omega) (by omega)).trans q1
    have hwl:=Q2.ob.e
    have hold3: ∀ n,n<nx→H3.at' n=H.at' n:=fun n hn=>(k5 n (by have:=Q2.le;omega) (fun e=>by have:=(hwl _ (.inl rfl)).1;omega) (fun e=>by have:=(hwl _ (.inr rfl)).1;omega)).trans (hold2 n hn)
    have hr3:=(hold3 _ hrl).trans hr
    clear k5 hwl hold2 hr2 Q2 q1 hT hok
    rw [hca] at s1 ⊢
    rw [hce]
    clear hca hce
    generalize (T.act (a[i]!)).2.1=came at hra s1 hcl ⊢
    generalize (T.act (a[i]!)).2.2=ee
    have hnum:=kI (nx:=n3) came came hra s1 hcl hcl
    rw [decide_eq_true rfl] at hnum
    have hlk:=Fnc.pL (py Q3.a Q3.b (fun n g=>(Q3.ob.n n g).2) hT2 (by omega) (a[i]!).2.1 (a[i]!).2.2.1 leave)
    (repeat(first|refine ao ?_|refine ah ?_|(apply am;exact rfl;exact rfl;exact rfl)|(apply aj;exact rfl;exact rfl;exact rfl)|(apply bX;exact rfl;exact rfl;exact rfl;exact rfl)))
    (apply bP;(focus(kernel_rfl));(focus(kernel_rfl)))
    (repeat(first|(apply aX;exact rfl;exact rfl;exact rfl)|(apply cW;exact rfl;exact rfl;exact rfl;exact rfl)|(apply bu;exact rfl;exact rfl;exact rfl;exact(F.fo _ _ rfl rfl))|(apply eu;exact rfl;exact rfl;exact rfl)|(refine jK rfl rfl rfl rfl (fun hq=>absurd rfl hq) (fun _=>?_))|(refine b5 rfl rfl rfl (by kernel_rfl) hnum ?_)|(refine b5 rfl rfl rfl (by kernel_rfl) hlk ?_)|refine bb (q:=i) rfl rfl rfl rfl (F.un _ rfl) (F.sz _ rfl) (by assumption) (by omega) (by first|omega|(simp;done)) (zP _) ?_|refine qH i 1 rfl rfl rfl (F.ag _ rfl) (vy) (by first|exact rfl|assumption) (by omega) (by omega) (by omega) rfl ?_|refine qH i 2 rfl rfl rfl (F.ag _ rfl) (vy) (by first|exact rfl|assumption) (by omega) (by omega) (by omega) rfl ?_))
    (refine be ?_);(refine⟨by kernel_rfl,?_,?_⟩);(focus(repeat(first|exact trivial|refine⟨.inl rfl,?_⟩|refine⟨.inr (by(repeat(refine⟨(by first|exact bq rfl|exact bi rfl rfl (.inr (.inr (.inr (.inr (.inl ⟨rfl,rfl⟩)))))|exact bk (F.un _ rfl) (F.sz _ rfl) rfl rfl rfl (by omega) (by omega) (by omega)|exact an rfl rfl (.inl ⟨rfl,(zx _ ⟨by omega,by omega⟩).symm⟩)|exact an rfl rfl (.inr (.inl ⟨rfl,(zx _ ⟨by omega,by omega⟩).symm⟩))|exact aq (F.fo _ _ rfl rfl) rfl|exact aY rfl|exact aH rfl|exact aw (F.ag _ rfl) rfl rfl (az rfl)|exact aC (F.ag _ rfl) rfl rfl (ak _ 0 rfl rfl)|exact aE rfl rfl|exact aP (F.un _ rfl) rfl|exact aI (F.un _ rfl) rfl|exact ax rfl|exact aQ rfl rfl|exact aR rfl rfl|exact aw (F.ag _ rfl) rfl (by done) (az rfl)|exact aC (F.ag _ rfl) rfl (by done) (ak _ 0 rfl rfl)|exact aU rfl (F.ze _ rfl) (F.pl _ rfl) rfl),?_⟩));exact trivial),?_⟩|refine⟨.inl (by kernel_rfl),?_⟩)))
    dsimp only [wrL]
    (repeat(first|refine ao ?_|refine ai ?_|refine aN ?_|refine ay rfl ?_|(apply am;exact rfl;exact rfl;exact rfl)|(apply cr;exact rfl;exact rfl;exact rfl;exact(F.un _ rfl))|(apply sk;exact rfl;exact rfl;exact rfl;exact rfl;(focus(omega));(focus(omega));(focus(omega)))))
    (apply cF;exact rfl;exact rfl;exact rfl;exact rfl)
    all_goals intro h2
    ·(repeat(first|refine ai ?_|refine ah ?_|refine aD rfl ?_|(apply am;exact rfl;exact rfl;exact rfl)))
     clear hnum hlk hra s1
     have D3:=Q3.duo
     refine bn rfl rfl rfl (by kernel_rfl) (Fnc.mono (w7 D3.a hT2 (by omega)) ?_)
     rintro⟨_,H4,n4⟩ ⟨c4,Tc4,Fc4,rfl,p1,p2,p3,p5,p6⟩
     dsimp only at p1 p3 p5 p6 ⊢
     have D4:=D3.keep p5 p6
     (repeat(apply am;exact rfl;exact rfl;exact rfl))
     refine bn rfl rfl rfl (by kernel_rfl) (Fnc.mono (uz D4.b (fun n g=>(D4.ob.n n g).2) (by have:=hT2.all;have:=eG (W:=(lz W (a[i]!)).1);omega)) ?_)
     rintro⟨_,H5,n5⟩ ⟨v5,rv5,rfl,u1,u2,u3,u4,u5,u6⟩
     dsimp only at u1 u2 u3 u4 u5 u6 ⊢
     obtain⟨Fv5,Q5⟩:=D3.copy D3.le p6 p5 p1 p3 u1 u2 u3 u4 u5 u6
     have hold5: ∀ n,n<nx→H5.at' n=H.at' n:=fun n hn=>(u6 n (by have:=D3.le;omega)).trans ((p6 n (by have:=D3.le;omega)).trans (hold3 n hn))
     clear D3 D4 p1 p3 p6 u5 u6
     (repeat(first|refine ai ?_|refine ah ?_|refine aM ?_|(apply am;exact rfl;exact rfl;exact rfl)|(apply aj;exact rfl;exact rfl;exact rfl)|(apply bT;exact rfl;exact rfl;exact rfl;exact rfl;(focus(omega));(focus(omega)))))
     refine again _ _ _ (i+1,(_,_),(Tc4,_),c4,v5) ⟨hi',hT2,p2,⟨_,_,_,_,_,_,Q5⟩,hold5⟩ (by omega) (SlIn.sub (by repeat(first|exact trivial|refine⟨rfl,?_⟩)))
    ·(repeat(first|refine ai ?_|refine ah ?_|refine aM ?_|refine aN ?_|refine ay rfl ?_|(apply am;exact rfl;exact rfl;exact rfl)|(apply aj;exact rfl;exact rfl;exact rfl)|(apply bT;exact rfl;exact rfl;exact rfl;exact rfl;(focus(omega));(focus(omega)))))
     refine again _ _ _ (i+1,(_,_),(Tc,Wc),c,v) ⟨hi',hT2,hC.mono (zY _),⟨_,_,_,_,_,_,Q3⟩,hold3⟩ (by omega) (SlIn.sub (by repeat(first|exact trivial|refine⟨rfl,?_⟩)))
   ·clear again
    obtain rfl:i=a.size:=by omega
    (repeat(first|refine ao ?_|refine ai ?_|refine ah ?_|refine aT ?_|refine aN ?_|refine bA rfl ?_|refine ay rfl ?_|(apply am;exact rfl;exact rfl;exact rfl)|(apply aj;exact rfl;exact rfl;exact rfl)|(apply dD;exact rfl;exact rfl;exact rfl;exact rfl;exact(F.un _ rfl);exact rfl)))
    refine ch (α:=Nat×(LT×RT)) (fun x=> [(0,.slu r 0 a.size),(5,.ptr (nx+1+1) 0),(6,.ptr (nx+1+1+1) 0),(7,.ptr c 0),(8,.ptr v 0),(14,.sc (.int .i64 (x.1:Int)))]) (fun x H1 n1=>x.1≤a.size∧Twin x.2.1 x.2.2 (a.size+x.1)∧(∃ r2 rv Fo Fw Fc Fv,Quad c v (nx+1+1) (nx+1+1+1) rv r2 x.2.1 x.2.2 T W Fo Fw Fc Fv nx H1 n1)∧ ∀ n,n<nx→H1.at' n=H.at' n) (fun x=>a.size-x.1) (0,(Tc,Wc)) ⟨zQ _,hC,⟨_,_,_,_,_,_,Q.swap⟩,hold⟩ (SlIn.sub (by repeat(first|exact trivial|refine⟨rfl,?_⟩))) ?_
    clear Q hC hold hr1 h1 hi
    rintro⟨i,⟨Tc,Wc⟩⟩ H1 nx1 ⟨hi,hC,⟨r2,rv,Fo,Fw,Fc,Fv,Q⟩,hold⟩ again
    simp only at hi hC Q again ⊢
    have hr1:=(hold _ hrl).trans hr
    (repeat(first|refine ao ?_|refine ai ?_|(apply am;exact rfl;exact rfl;exact rfl)|(apply cr;exact rfl;exact rfl;exact rfl;exact(F.un _ rfl))))
    (apply cu;exact rfl;exact rfl;exact rfl;exact rfl)
    all_goals intro h1
    ·have hi':i<a.size:=by omega
     have hmem:a[i]! ∈a.toList:=by rw [getElem!_pos a i hi'];exact Array.getElem_mem_toList hi'
     have hkx:=hks _ hmem
     obtain⟨hok,hT2,hca,hce⟩:=hC.act (by omega) (a[i]!)
     have hcl:(Tc.act (a[i]!)).2.1.length<2000000:=hC.fine.came_few (by omega) (a[i]!)
     (repeat(first|refine ao ?_|refine ai ?_|refine ah ?_|refine aT ?_|refine aN ?_|refine aD rfl ?_|(apply am;exact rfl;exact rfl;exact rfl)|refine c7 (q:=i) rfl rfl rfl rfl (F.un _ rfl) (F.sz _ rfl) (by assumption) (by omega) (by first|omega|(simp;done)) (zP _) ?_|(refine u7 rfl rfl rfl (F.ag _ rfl) (vy) (by assumption) (by omega) (by omega) ?_)))
     refine bn rfl rfl rfl (by kernel_rfl) (Fnc.mono (do_t Q.a (a[i]!) hok (by omega)) ?_)
     rintro⟨_,H2,n2⟩ ⟨ra,rfl,q1,q2,q3,F2,q4,q5,q6⟩
     dsimp only at q1 q2 q3 q4 q5 q6 ⊢
     refine b4 fun hund2=>?_
     have Q2:=Q.doT q4 (q4.lt hund2) q6
     have hold2: ∀ n,n<nx→H2.at' n=H.at' n:=fun n hn=>(q6.2.2 n (by have:=Q.le;omega) fun g=>by have:=(Q.oa.e n g).1;omega).trans (hold n hn)
     have hr2:=(hold2 _ hrl).trans hr
     have hwn:=(Q.ob.e _ (.inl rfl)).2
     have hrn:=(Q.ob.e _ (.inr rfl)).2
     clear hund2 q4 q5 q6 hr1 hold Q
     (repeat(first|refine ao ?_|refine ai ?_|refine ah ?_|(apply am;exact rfl;exact rfl;exact rfl)|(apply aj;exact rfl;exact rfl;exact rfl)|(apply bX;exact rfl;exact rfl;exact rfl;exact rfl)|refine c7 (q:=i) rfl rfl rfl rfl (F.un _ rfl) (F.sz _ rfl) (by assumption) (by omega) (by first|omega|(simp;done)) (zP _) ?_|(refine u7 rfl rfl rfl (F.ag _ rfl) (vy) (by assumption) (by omega) (by omega) ?_)))
     refine bn rfl rfl rfl (by kernel_rfl) (Fnc.mono (zn Q2.b (fun n g=>(Q2.ob.n n g).2) (Q2.ob.e _ (.inr rfl)).2 (a[i]!) (by have:=hC.all;omega) hC.nd (by omega)) ?_)
     rintro⟨_,H3,n3⟩ ⟨rb,rfl,s1,s2,s3,s4⟩
     dsimp only at s1 s2 s3 s4 ⊢
     obtain⟨r3,Fw3,Q3⟩:=Q2.doW s4
     dsimp only at Q3
     obtain⟨k1,_,_,_,_,k5⟩:=s4
     dsimp only at k1 k5
     have hra:=(k5 ra q3 (by omega) (by omega)).trans q1
     have hwl:=Q2.ob.e
     have hold3: ∀ n,n<nx→H3.at' n=H.at' n:=fun n hn=>(k5 n (by have:=Q2.le;omega) (fun e=>by have:=(hwl _ (.inl rfl)).1;omega) (fun e=>by have:=(hwl _ (.inr rfl)).1;omega)).trans (hold2 n hn)
     have hr3:=(hold3 _ hrl).trans hr
     clear k5 hwl hold2 hr2 Q2 q1 hC hok
     rw [hca] at s1 ⊢
     rw [hce]
     clear hca hce
     generalize (Tc.act (a[i]!)).2.1=came at hra s1 hcl ⊢
     generalize (Tc.act (a[i]!)).2.2=ee
     have hnum:=kI (nx:=n3) came came hra s1 hcl hcl
     rw [decide_eq_true rfl] at hnum
     have hlk:=Fnc.pL (py Q3.a Q3.b (fun n g=>(Q3.ob.n n g).2) hT2 (by omega) (a[i]!).2.1 (a[i]!).2.2.1 0)
     have hlm:=Fnc.pL (py Q3.c' Q3.d' (fun n g=>(Q3.od.n n g).2) hT (by omega) (a[i]!).2.1 (a[i]!).2.2.1 0)
     (repeat(first|refine ao ?_|refine ah ?_|(apply am;exact rfl;exact rfl;exact rfl)|(apply aj;exact rfl;exact rfl;exact rfl)|(apply bX;exact rfl;exact rfl;exact rfl;exact rfl)))
     (apply bP;(focus(kernel_rfl));(focus(kernel_rfl)))
     (repeat(first|(apply aX;exact rfl;exact rfl;exact rfl)|(apply cW;exact rfl;exact rfl;exact rfl;exact rfl)|(apply bu;exact rfl;exact rfl;exact rfl;exact(F.fo _ _ rfl rfl))|(apply eu;exact rfl;exact rfl;exact rfl)|(refine jK rfl rfl rfl rfl (fun hq=>absurd rfl hq) (fun _=>?_))|(refine b5 rfl rfl rfl (by kernel_rfl) hnum ?_)|(refine b5 rfl rfl rfl (by kernel_rfl) hlk ?_)|(refine b5 rfl rfl rfl (by kernel_rfl) hlm ?_)|refine bb (q:=i) rfl rfl rfl rfl (F.un _ rfl) (F.sz _ rfl) (by assumption) (by omega) (by first|omega|(simp;done)) (zP _) ?_|refine qH i 1 rfl rfl rfl (F.ag _ rfl) (vy) (by first|exact rfl|assumption) (by omega) (by omega) (by omega) rfl ?_|refine qH i 2 rfl rfl rfl (F.ag _ rfl) (vy) (by first|exact rfl|assumption) (by omega) (by omega) (by omega) rfl ?_))
     (refine be ?_);(refine⟨by kernel_rfl,?_,?_⟩);(focus(repeat(first|exact trivial|refine⟨.inl rfl,?_⟩|refine⟨.inr (by(repeat(refine⟨(by first|exact bq rfl|exact bi rfl rfl (.inr (.inr (.inr (.inr (.inl ⟨rfl,rfl⟩)))))|exact bk (F.un _ rfl) (F.sz _ rfl) rfl rfl rfl (by omega) (by omega) (by omega)|exact an rfl rfl (.inl ⟨rfl,(zx _ ⟨by omega,by omega⟩).symm⟩)|exact an rfl rfl (.inr (.inl ⟨rfl,(zx _ ⟨by omega,by omega⟩).symm⟩))|exact aq (F.fo _ _ rfl rfl) rfl|exact aY rfl|exact aH rfl|exact aw (F.ag _ rfl) rfl rfl (az rfl)|exact aC (F.ag _ rfl) rfl rfl (ak _ 0 rfl rfl)|exact aE rfl rfl|exact aP (F.un _ rfl) rfl|exact aI (F.un _ rfl) rfl|exact ax rfl|exact aQ rfl rfl|exact aR rfl rfl|exact aw (F.ag _ rfl) rfl (by done) (az rfl)|exact aC (F.ag _ rfl) rfl (by done) (ak _ 0 rfl rfl)|exact aU rfl (F.ze _ rfl) (F.pl _ rfl) rfl),?_⟩));exact trivial),?_⟩|refine⟨.inl (by kernel_rfl),?_⟩)))
     dsimp only [wrL]
     (repeat(first|refine ai ?_|refine ah ?_|refine aM ?_|refine aN ?_|refine ay rfl ?_|(apply am;exact rfl;exact rfl;exact rfl)|(apply aj;exact rfl;exact rfl;exact rfl)|(apply bT;exact rfl;exact rfl;exact rfl;exact rfl;(focus(omega));(focus(omega)))))
     refine again _ _ _ (i+1,(_,_)) ⟨hi',hT2,⟨_,_,_,_,_,_,Q3⟩,hold3⟩ (by omega) (SlIn.sub (by repeat(first|exact trivial|refine⟨rfl,?_⟩)))
    ·clear again
     (repeat(first|refine ao ?_|refine ai ?_|refine ah ?_|refine bA rfl ?_|refine ay rfl ?_|(apply aj;exact rfl;exact rfl;exact rfl)|(refine bn rfl rfl rfl (by kernel_rfl) (Fnc.mono tS ?_);rintro⟨_,Hk,nk⟩ ⟨rfl,hk1,hk2⟩;dsimp only at hk1 hk2 ⊢)))
     ((apply bj Try.func6 (congrArg Array.toList Try.results6));(focus(repeat(first|exact ResIs.nil|apply ResIs.tmp rfl))))
     rfl
end Go.Proofs.Ytckajlllkmkniaa
end
section
namespace Go.Sl
open Go Go.RowKit Go.WideShapes Go.ChangeShapes
theorem post_new{H:Type}{enc:TypeId×Value→H}{P:Program}{f:Func}{s:ChangeSpec}{apart fresh handsOn again:Bool}{W W':World}{args:Array Value}{v:Value}{ds gs:List (DataW H)}{before pa pv:List MemPlace}
 (hW:DataW.Whole enc P f.params.toList s.vars apart W args.toList ds gs before) (hb:Below W.heap.size W W') (hps:before=pa ++ pv)
 (hres: ∀ (b:Nat) (sp:Nat→Bool) (hd:Bool),DataW.TrodAll enc P W' b sp hd f.resultTypes.toList (v.resultList f.resultTypes.size) (s.fn H (ds ++ gs)).results [])
 (hargs: ∀ sp:Nat→Bool,(∀ p∈before,sp p.block=true)→DataW.TrodAll enc P W' 0 sp true f.params.toList args.toList (s.fn H (ds ++ gs)).args pa)
 (hvars: ∀ sp:Nat→Bool,(∀ p∈before,sp p.block=true)→DataW.TrodVars enc P W' sp s.vars (s.fn H (ds ++ gs)).vars pv)
 (hok: ∀ (j:Nat) (t:TypeId) (r:Value),f.resultTypes[j]? =some t→(v.resultList f.resultTypes.size)[j]? =some r→Value.okWide P W' .any 0 t r) :
 s.post enc P f apart fresh handsOn again W args v W':=by
 have hsp: ∀ p∈before,(fun b=>decide (b<W.heap.size)) p.block=true:=fun p hp=>by simpa using hW.lt p hp
 have hmem: ∀ p,p∈pa ++ pv↔p∈before:=fun p=>by rw [hps]
 refine⟨ds,gs,before,[],pa,pv,hW,hres _ _ _,hargs _ hsp,hvars _ hsp,World.keptBut_mono (fun p hp=>⟨hp,?_⟩) (hb.frame (·∈before)),fun _=>?_⟩
 ·have:=(hmem p).2 hp
  rw [List.mem_append] at this
  exact .inr this
 obtain⟨_,_,_,_,_,hz,hn⟩:=id hW
 refine⟨hok,_,_,([] ++ pa) ++ pv,⟨[] ++ pa,pv,trodAll_append (hargs _ (fun _ _=>rfl)) (hres _ _ _),hvars _ (fun _ _=>rfl),rfl,fun b off hp=>?_,fun ha=>?_⟩,fun p hp _=>?_⟩
 ·have hin:MemPlace.cell b off∈before:=(hmem _).1 (by simpa using hp)
  rw [hb.frozen (hW.lt _ hin)]
  exact hz b off hin
 ·have:=hn ha
  rw [hps] at this
  simpa using this
 ·exact(hmem p).1 (by simpa using hp)
end Go.Sl
end
section
namespace Go.Sy
open Go Go.Sl Go.RowKit Go.WideShapes
theorem sJ(p:Program)(fits:TypeId→Bool)(d:Nat)(e:TypeId)(count off n:Nat)(h:rowAt p fits d e count off n=true):off≤count*p.cellsOf e:=by
 cases d with
 | zero=>simp [rowAt] at h
 | succ d=>
   unfold rowAt at h
   simp only at h
   split at h
   ·cases h
   ·rename_i hs
    have hdiv:=Nat.div_add_mod off (p.cellsOf e)
    rw [Bool.or_eq_true] at h
    rcases h with h|h
    ·simp only [zO,beq_iff_eq,decide_eq_true_eq] at h
     obtain⟨⟨h1,h2⟩,_⟩:=h
     have:p.cellsOf e*(off / p.cellsOf e)≤p.cellsOf e*count:=Nat.mul_le_mul_left _ (by omega)
     rw [Nat.mul_comm count]
     omega
    ·rw [zO,decide_eq_true_eq] at h
     have hm:=Nat.mod_lt off (Nat.pos_of_ne_zero hs)
     have:p.cellsOf e*(off / p.cellsOf e+1)≤p.cellsOf e*count:=Nat.mul_le_mul_left _ (by omega)
     rw [Nat.mul_add,Nat.mul_one] at this
     rw [Nat.mul_comm count]
     omega
theorem lU(p:Program): ∀ (d:Nat) (e:TypeId) (count off:Nat) (u:TypeId) (n:Nat),liesAt p d e count off u n=true→off≤count*p.cellsOf e
 | 0,_,_,_,_,_,h=>by simp [liesAt] at h
 | d+1,e,count,off,u,n,h=>by
   unfold liesAt at h
   rw [Bool.or_eq_true] at h
   rcases h with h|h
   ·exact sJ p _ _ e count off n h
   ·split at h
    ·exact lU p d e count off _ _ h
    ·cases h
theorem rE{A:Type}{f:Nat→Option A}: ∀ {n:Nat} {l:List A},(List.range n).mapM f=some l→l.length=n∧ ∀ i,i<n→f i=l[i]? :=by
 intro n
 induction n with
 | zero=>intro l h;simp at h;subst h;exact⟨rfl,fun i hi=>by omega⟩
 | succ n ih=>
   intro l h
   rw [List.range_succ,List.mapM_append] at h
   simp only [Option.bind_eq_bind,Option.bind_eq_some_iff] at h
   obtain⟨a,ha,b,hb,hl⟩:=h
   obtain⟨h1,h2⟩:=ih ha
   cases hf:f n with
   | none=>simp [hf] at hb
   | some x=>
     simp [hf] at hb
     subst hb
     simp at hl
     subst hl
     refine⟨by simp [h1],fun i hi=>?_⟩
     rcases Nat.lt_or_ge i n with h|h
     ·rw [zM (by omega)];exact h2 i h
     ·obtain rfl:i=n:=by omega
      rw [hf,List.getElem?_append_right (by omega),h1]
      simp
theorem sH{b0:Nat}{H:Type}{enc:TypeId×Value→H}{P:Program}{w:World}{t e:TypeId}{sz:Nat}{v:Value}{dd:DataW H}{p:List MemPlace}(ht:P.underlying t=some (.slice e))(hc:P.cellsOf e=sz)(h0:0<sz)
 (hT:DataW.Trod enc P w 0 (fun _=>true) true t v dd p) (hok:Value.okWide P w .any b0 t v) :
 (v = .slice none 0 0)∨ ∃ (b o len cap:Nat) (cs:Array Value) (tt:TypeId) (fz:Nat×Nat),v = .slice (some ⟨b,o,none⟩) len cap∧w.heap[b]? =some (.cells cs tt fz)∧len≤cap∧cap≤maxLen∧o+cap*sz≤cs.size ∧
   ∀ i,i<len→ ∃ us:List Value,us.length=sz∧(∀ j,j<sz→cs[o+i*sz+j]? =us[j]?)∧ ∃ n y,DataW.trod enc P w 0 (fun _=>true) true n e us=some y:=by
 obtain⟨fuel,hT⟩:=hT
 obtain⟨a0,len0,cap0,rfl⟩:=okWide_slice ht hok
 have hcells:(Value.slice a0 len0 cap0).cells.toList= [.slice a0 len0 cap0]:=rfl
 rw [hcells] at hT
 rcases DataW.trod_slice ht hT with ⟨h1,_⟩|⟨a,len,cap,elems,rest,n,_,h1,_,_,h3,h4,h5,h6,h7,_⟩
 ·left
  simpa using h1
 ·right
  simp only [List.cons.injEq,and_true,Value.slice.injEq] at h1
  obtain⟨rfl,rfl,rfl⟩:=h1
  unfold Value.okWide at hok
  rw [ht] at hok
  simp only at hok
  unfold Cell.okWide at hok
  rw [ht] at hok
  simp only at hok
  unfold Cell.ok at hok
  rw [ht] at hok
  simp only at hok
  obtain⟨_,_,_,hsp,row,cells,hsh,hli⟩:=hok
  obtain⟨b,o,sp⟩:=a
  simp only at hsp hsh hli h6 h7
  subst hsp
  unfold World.shape? at hsh
  cases hob:w.heap[b]? with
  | none=>rw [hob] at hsh;cases hsh
  | some ob=>
    rw [hob] at hsh
    cases ob with
    | cells cs tt fz=>
      simp only [zw,zE] at hsh
      obtain⟨rfl,rfl⟩:=hsh
      have hoff:=lU P _ _ _ _ _ _ hli
      have hoff2:o≤cs.size:=zX hoff (Nat.div_mul_le_self _ _)
      have hcell: ∀ q:Nat,w.cell? ⟨b,q,none⟩=cs[q]? :=fun q=>by simp [World.cell?,hob]
      have hget: ∀ (q:Nat) (us:List Value),w.cells? 0 ((⟨b,o,none⟩:Addr).add (q*P.cellsOf e)) (P.cellsOf e)=some us→us.length=sz∧ ∀ j,j<sz→cs[o+q*sz+j]? =us[j]? :=by
       intro q us hus
       rw [add_plain] at hus
       unfold World.cells? at hus
       rw [if_pos (zQ _)] at hus
       obtain⟨g1,g2⟩:=rE hus
       rw [hc] at g1 g2 hus
       refine⟨g1,fun j hj=>?_⟩
       have:=g2 j hj
       rw [add_plain,hcell] at this
       exact this
      refine⟨b,o,len0,cap0,cs,tt,fz,rfl,hob,h3,h4,?_,fun i hi=>?_⟩
      ·rcases Nat.eq_zero_or_pos cap0 with hz|hz
       ·subst hz;simpa using hoff2
       ·have hlast: ∃ us,w.cells? 0 ((⟨b,o,none⟩:Addr).add ((cap0-1)*P.cellsOf e)) (P.cellsOf e)=some us:=by
         rcases Nat.lt_or_ge (cap0-1) len0 with hl|hl
         ·have h8:=h6 (cap0-1) hl
          rw [zz (by omega)] at h8
          cases hcs:w.cells? 0 ((⟨b,o,none⟩:Addr).add ((cap0-1)*P.cellsOf e)) (P.cellsOf e)with
          | none=>rw [hcs] at h8;cases h8
          | some us=>exact⟨us,rfl⟩
         ·obtain⟨h9,h10⟩:=h7 trivial
          have h8:=h10 (cap0-1-len0) (by omega)
          rw [zz (by omega),show len0+(cap0-1-len0)=cap0-1 by omega] at h8
          cases hcs:w.cells? 0 ((⟨b,o,none⟩:Addr).add ((cap0-1)*P.cellsOf e)) (P.cellsOf e)with
          | none=>rw [hcs] at h8;cases h8
          | some us=>exact⟨us,rfl⟩
        obtain⟨us,hus⟩:=hlast
        obtain⟨g1,g2⟩:=hget _ _ hus
        have g3:=g2 (sz-1) (by omega)
        rw [zz (show sz-1<us.length by omega)] at g3
        have g4:=(zG.1 g3).1
        have:cap0*sz=(cap0-1)*sz+sz:=by
         conv=>lhs;rw [show cap0=cap0-1+1 by omega,Nat.add_mul,Nat.one_mul]
        omega
      ·have h8:=h6 i hi
       rw [zz (by omega)] at h8
       cases hcs:w.cells? 0 ((⟨b,o,none⟩:Addr).add (i*P.cellsOf e)) (P.cellsOf e)with
       | none=>rw [hcs] at h8;cases h8
       | some us=>
         rw [hcs] at h8
         simp only [zW] at h8
         obtain⟨g1,g2⟩:=hget _ _ hcs
         exact⟨us,g1,g2,n,_,h8⟩
    | _=>cases hsh
def jF(w:World):Zone:=⟨fun j=>j<w.heap.size,fun j=>j<w.heap.size,fun _ h=>h⟩
theorem tX(w:World):Kept (jF w) w w:=⟨rfl,rfl,rfl,zP _,fun _ h=>h,fun _ _=>rfl⟩
theorem wt{w0 w:World}(h:Kept (jF w0) w0 w):Below w0.heap.size w0 w:=⟨h.os,h.tape,h.output,h.size,fun j hj=>h.block j hj⟩
def lZ(sz:Nat):Value→Ent
 | .slice (some a) _ cap=>⟨a.block,a.off,cap,sz,false⟩
 | _=>⟨0,0,0,sz,true⟩
def ArgRow{A:Type}(w:World)(sz:Nat)(f:A→List Value)(v:Value)(l:List A):Prop:=
 (v = .slice none 0 0∧l= [])∨ ∃ (b o len cap:Nat) (cs:Array Value) (tt:TypeId) (fz:Nat×Nat),v = .slice (some ⟨b,o,none⟩) len cap∧w.heap[b]? =some (.cells cs tt fz)∧len=l.length∧len≤cap∧cap≤maxLen∧o+cap*sz≤cs.size ∧
   ∀ i c,l[i]? =some c→ ∀ j,j<sz→cs[o+i*sz+j]? =(f c)[j]?
theorem uK{b0:Nat}{A:Type}{H:Type}{enc:TypeId×Value→H}{P:Program}{w:World}{t e:TypeId}{sz:Nat}{v:Value}{dd:DataW H}{p:List MemPlace}{f:A→List Value}(ht:P.underlying t=some (.slice e))(hc:P.cellsOf e=sz)(h0:0<sz)
 (hT:DataW.Trod enc P w 0 (fun _=>true) true t v dd p) (hok:Value.okWide P w .any b0 t v) (hf: ∀ n us y,DataW.trod enc P w 0 (fun _=>true) true n e us=some y→ ∃ a,us=f a): ∃ l:List A,ArgRow w sz f v l:=by
 rcases sH ht hc h0 hT hok with h|⟨b,o,len,cap,cs,tt,fz,h1,h2,h3,h4,h5,h6⟩
 ·exact⟨[],.inl ⟨h,rfl⟩⟩
 ·have hex: ∀ i,i<len→ ∃ a:A,∀ j,j<sz→cs[o+i*sz+j]? =(f a)[j]? :=by
   intro i hi
   obtain⟨us,g1,g2,n,y,g3⟩:=h6 i hi
   obtain⟨a,rfl⟩:=hf n us y g3
   exact⟨a,g2⟩
  refine⟨(List.range len).attach.map (fun i=>Classical.choose (hex i.1 (List.mem_range.1 i.2))),.inr ⟨b,o,len,cap,cs,tt,fz,h1,h2,by simp,h3,h4,h5,?_⟩⟩
  intro i c hi j hj
  rw [List.getElem?_map] at hi
  obtain⟨q,hq,rfl⟩:=zF.1 hi
  have hq1:q.1=i:=by
   obtain⟨hlt,hh⟩:=zA.1 hq
   rw [← hh]
   simp
  have:=Classical.choose_spec (hex q.1 (List.mem_range.1 q.2)) j hj
  rw [← hq1]
  exact this
theorem ArgRow.conc{A:Type}{w:World}{sz:Nat}{f:A→List Value}{v:Value}{l:List A}(h:ArgRow w sz f v l){e:Env}{b:Nat}(he:e b=some (lZ sz v)):(SV.slu b 0 l.length).conc e=some v:=by
 rcases h with ⟨rfl,rfl⟩|⟨b',o,len,cap,cs,tt,fz,rfl,h2,rfl,h3,h4,h5,h6⟩
 ·simp [SV.conc,he,lZ,Ent.at]
 ·simp [SV.conc,he,lZ,Ent.at]
theorem qB{A:Type}{f:A→List Value}{sz:Nat}(hf: ∀ a,(f a).length=sz): ∀ (l:List A) (i j:Nat),j<sz→(l.flatMap f)[i*sz+j]? =(l[i]?).bind (fun c=>(f c)[j]?)
 | [],i,j,_=>by simp
 | a :: l,0,j,hj=>by
   rw [List.flatMap_cons,zM (by rw [hf];omega)]
   simp
 | a :: l,i+1,j,hj=>by
   rw [List.flatMap_cons,List.getElem?_append_right (by rw [hf,Nat.add_mul];omega),hf,show(i+1)*sz+j-sz=i*sz+j by rw [Nat.add_mul];omega,qB hf l i j hj]
   simp
theorem ArgRow.lies{A:Type}{w:World}{sz:Nat}{f:A→List Value}{v:Value}{l:List A}(h:ArgRow w sz f v l)(hf: ∀ a,(f a).length=sz)(h0:0<sz)(rt:TypeId)(e:Env):Lies (jF w) w e (dat true l.length sz rt (l.flatMap f)) (lZ sz v):=by
 rcases h with ⟨rfl,rfl⟩|⟨b,o,len,cap,cs,tt,fz,rfl,h2,rfl,h3,h4,h5,h6⟩
 ·exact .inr ⟨rfl,rfl,true,rt,_,rfl,h0⟩
 ·refine .inl ⟨rfl,.cells cs tt fz,⟨fun _=>fl h2,fun h=>by cases h⟩,h2,rfl,cs,fz,tt,rfl,h3,h5,h4,(fun h=>by cases h),h0,fun i hi s hs=>?_⟩
  have hs':((l.flatMap f)[i]?).map SV.sc=some s:=hs
  obtain⟨u,hu,rfl⟩:=zF.1 hs'
  refine⟨u,rfl,?_⟩
  have hdm:=Nat.div_add_mod i sz
  have hm:=Nat.mod_lt i h0
  have e1:i=i / sz*sz+i % sz:=by rw [Nat.mul_comm];omega
  rw [e1,qB hf l _ _ hm] at hu
  obtain⟨c,hc,hcu⟩:=Option.bind_eq_some_iff.1 hu
  have:=h6 (i / sz) c hc (i % sz) hm
  show cs[o+i]? =some u
  rw [e1,←Nat.add_assoc,this]
  exact hcu
theorem St.init{w:World}{e:Env}{H:aV}{nx:Nat}(h1: ∀ id vo,H.at' id=some vo→vo.ro=true∧ ∃ x,e id=some x∧Lies (jF w) w e vo x)(h2: ∀ i,nx≤i→e i=none):St (jF w) w e H nx w:=
 ⟨tX w,fun id vo h=>(h1 id vo h).2,fun id id' vo vo' x x' h _ _ _ _ _ _ hr _=>by(rw [(h1 id vo h).1] at hr;cases hr),h2⟩
end Go.Sy
end
section
namespace Go.Proofs.Ytckajlllkmkniaa
open Go Go.Sy Go.ChangeShapes Go.WideShapes Go.ChangeAt Go.RowKit
section
variable {H:Type} {enc:TypeId×Value→H} {P:Program} {w:World} {base:Nat} {sp:Nat→Bool} {held:Bool} {n:Nat} {t:TypeId} {cs:List Value} {y:DataW H×List MemPlace}
theorem iS{k:IntKind}(hu:P.underlying t=some (.int k))(h:DataW.trod enc P w base sp held n t cs=some y): ∃ x,cs= [.int k x]∧(Lit.int k x).wf=true:=by
 cases n with
 | zero=>simp [DataW.trod] at h
 | succ n=>
   unfold DataW.trod at h
   rw [hu] at h
   split at h <;> simp_all
theorem oZ(hu:P.underlying t=some .string)(h:DataW.trod enc P w base sp held n t cs=some y): ∃ s,cs= [.string s]:=by
 cases n with
 | zero=>simp [DataW.trod] at h
 | succ n=>
   unfold DataW.trod at h
   rw [hu] at h
   split at h <;> simp_all
theorem o6(hu:P.underlying t=some (.int .u64))(h:DataW.trod enc P w base sp held n t cs=some y): ∃ x:Nat,cs= [.int .u64 (x:Int)]:=by
 obtain⟨x,hx,hw⟩:=iS hu h
 have h0:0≤x:=by
  simp only [Lit.wf,IntKind.has,IntKind.min,show IntKind.u64.signed=false from rfl,zO,decide_eq_true_eq] at hw
  first|exact hw.1|(simp at hw;omega)
 exact⟨x.toNat,by rw [hx,Int.toNat_of_nonneg h0]⟩
end
theorem uAct:Try.prog.underlying 32=some (.struct (Try.prog.fieldsOf 32)):=by kernel_rfl
theorem fAct:(Try.prog.fieldsOf 32).toList.map (fun f=>(f.type,f.offset))= [(3,0),(23,1),(9,2),(3,3)]:=by kernel_rfl
theorem vi{H:Type}{enc:TypeId×Value→H}{w:World}{base:Nat}{sp:Nat→Bool}{held:Bool}{n:Nat}{us:List Value}{y:DataW H×List MemPlace}(h:DataW.trod enc Try.prog w base sp held n 32 us=some y): ∃ a:pO,us=w9 a:=by
 have hf:=fAct
 have hu:=uAct
 generalize Try.prog.fieldsOf 32=fs at hf hu
 obtain⟨xs,m,_,_,hl,hlen,hx⟩:=DataW.trod_struct hu h
 obtain⟨l⟩:=fs
 simp only at hf
 have hl4:l.length=4:=by simpa using congrArg List.length hf
 rcases l with _|⟨f0,_|⟨f1,_|⟨f2,_|⟨f3,_|⟨f4,l⟩⟩⟩⟩⟩
 ·simp at hl4
 ·simp at hl4
 ·simp at hl4
 ·simp at hl4
 ·simp only [zR,List.map_nil,List.cons.injEq,zE,and_true] at hf
  obtain⟨⟨a1,a2⟩,⟨b1,b2⟩,⟨c1,c2⟩,d1,d2⟩:=hf
  have hc:Try.prog.cellsOf 32=4:=by kernel_rfl
  have hi:Try.prog.cellsOf 3=1:=by kernel_rfl
  have hu64:Try.prog.cellsOf 23=1:=by kernel_rfl
  have hs:Try.prog.cellsOf 9=1:=by kernel_rfl
  rw [hc] at hl
  have hlen4:xs.length=4:=by simpa using hlen
  have h0:=hx 0 f0 rfl
  have h1:=hx 1 f1 rfl
  have h2:=hx 2 f2 rfl
  have h3:=hx 3 f3 rfl
  rw [a1,a2,hi] at h0
  rw [b1,b2,hu64] at h1
  rw [c1,c2,hs] at h2
  rw [d1,d2,hi] at h3
  have g0: ∃ y,DataW.trod enc Try.prog w base sp held m 3 ((us.drop 0).take 1)=some y:=⟨_,h0.trans (zz (by omega))⟩
  have g1: ∃ y,DataW.trod enc Try.prog w base sp held m 23 ((us.drop 1).take 1)=some y:=⟨_,h1.trans (zz (by omega))⟩
  have g2: ∃ y,DataW.trod enc Try.prog w base sp held m 9 ((us.drop 2).take 1)=some y:=⟨_,h2.trans (zz (by omega))⟩
  have g3: ∃ y,DataW.trod enc Try.prog w base sp held m 3 ((us.drop 3).take 1)=some y:=⟨_,h3.trans (zz (by omega))⟩
  obtain⟨_,g0⟩:=g0
  obtain⟨_,g1⟩:=g1
  obtain⟨_,g2⟩:=g2
  obtain⟨_,g3⟩:=g3
  obtain⟨k,hk,_⟩:=iS (F.un 3 rfl) g0
  obtain⟨o,ho⟩:=o6 (F.un 23 rfl) g1
  obtain⟨s,hst⟩:=oZ (F.un 9 rfl) g2
  obtain⟨m,hmk,_⟩:=iS (F.un 3 rfl) g3
  rcases us with _|⟨u0,_|⟨u1,_|⟨u2,_|⟨u3,_|⟨u4,us⟩⟩⟩⟩⟩
  ·simp at hl
  ·simp at hl
  ·simp at hl
  ·simp at hl
  ·simp at hk ho hst hmk
   exact⟨(k,o,s,m),by simp [w9,hk,ho,hst,hmk]⟩
  ·simp at hl
 ·simp at hl4
theorem own:ownKnob Try.prog.godebug=none:=by kernel_rfl
theorem laid:laidOutB Try.prog=true:=by kernel_rfl
theorem uL{A:Type}{w:World}{sz:Nat}{f:A→List Value}{v:Value}{l:List A}(h:ArgRow w sz f v l):l.toArray.size≤9223372036854775807:=by
 rcases h with ⟨_,rfl⟩|⟨b,o,len,cap,cs,tt,fz,_,_,h1,h2,h3,_⟩
 ·simp
 ·have:maxLen=9223372036854775807:=rfl
  simp only [List.size_toArray]
  omega
end Go.Proofs.Ytckajlllkmkniaa
end
