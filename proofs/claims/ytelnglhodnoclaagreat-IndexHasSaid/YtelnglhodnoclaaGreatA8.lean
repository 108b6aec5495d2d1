import Derived.WalkKit
import Derived.ProofKit
import Derived.OpenShut
import Derived.Below
import Derived.ChangeSame
import Derived.Test.YtelnglhodnoclaaGreatA7
set_option linter.unusedVariables false
set_option linter.unusedSimpArgs false
set_option maxRecDepth 100000
set_option maxHeartbeats 0
section
namespace Go.Sy
open Go Go.Sl Go.RowKit
theorem CD{vF:Nat→SV}(h: ∀ (ρ:Nat→Nat) n,(vF n).ren ρ=vF (ρ n)){e e':Env}{a b:Nat}(hab:e a=e' b):(vF a).conc e=(vF b).conc e':=by
 have k: ∀ (e:Env) a,(vF a).conc e=(vF 0).conc (pull e fun _=>a):=fun e a=>by
  have:=dG (ρ:=fun _=>a) (e:=e) (vF 0)
  rw [h] at this
  exact this
 rw [k e a,k e' b,show pull e (fun _=>a)=pull e' (fun _=>b)from funext fun _=>hab]
theorem zW{K:Zone}{w:World}{vo:VO}{x:Ent}{e e':Env}{a b:Nat}(h: ∀ ρ,vo.ren ρ=vo)(hab:e a=e' b)(hl:Lies K w e vo x):Lies K w e' vo x:=by
 have k: ∀ (e:Env) a,Lies K w e vo x↔Lies K w (pull e fun _=>a) vo x:=fun e a=>by
  have:=ib (K:=K) (w:=w) (vo:=vo) (x:=x) (ρ:=fun _=>a) (e:=e)
  rw [h] at this
  exact this
 rw [k e a,show pull e (fun _=>a)=pull e' (fun _=>b)from funext fun _=>hab] at hl
 exact(k e' b).2 hl
structure Mk where
 c:Nat
 vF:Nat→SV
 vo:VO
structure MkOne (P:Program) (rn:Rn) (R:List Rec) (H0:ay) (n0 p:Nat) (m:Mk):Prop where
 ex: ∃ r,R[m.c]? =some r∧r.val=m.vF (n0+p)∧ ∀ (H:ay) (n:Nat),n0≤n→(∀ i,i<n0→H.at' i=H0.at' i)→gq P rn r.T H n r.o (m.vF n,H.set n m.vo,n+1)
 ren: ∀ (ρ:Nat→Nat) n,(m.vF n).ren ρ=m.vF (ρ n)
 na: ∀ ρ,m.vo.ren ρ=m.vo
def rW(P:Program)(rn:Rn)(r:Rec)(H:ay)(n:Nat):Prop:=ReadDoes P r.T H r.o r.val∨(Free r.val∧gq P rn r.T H n r.o (r.val,H,n))
structure MkOk (P:Program) (rn:Rn) (ops:Array Oper) (R:List Rec) (Q:List (ay×Nat)) (C:List Nat) (ms:List Mk) (H0:ay) (n0:Nat):Prop where
 c: ∀ (p:Nat) m,ms[p]? =some m→C[p]? =some m.c
 one: ∀ (p:Nat) m,ms[p]? =some m→MkOne P rn R H0 n0 p m
 q: ∃ Hk,Q[ms.length]? =some (Hk,n0+ms.length)∧(∀ i,i<n0∨n0+ms.length≤i→Hk.at' i=H0.at' i)∧ ∀ (p:Nat) m,ms[p]? =some m→Hk.at' (n0+p)=some m.vo
 behind: ∀ (j c:Nat),ms.length≤j→C[j]? =some c→ ∀ m∈ms,Anc ops c m.c
 fl: ∀ r∈R,r.chain=false→r.wanted=true→(∃ m∈ms,¬ Anc ops r.i m.c)→ ∀ H,(∀ i,i<n0→H.at' i=H0.at' i)→(∀ (p:Nat) m,ms[p]? =some m→Anc ops r.i m.c→H.at' (n0+p)=some m.vo)→rW P rn r H (n0+ms.length)
def CN(ms:List Mk)(C:List Nat)(H0:ay)(n0:Nat):Mem:=fun L e H n=>(∃ m∈ms,¬ L m.c)∧n=n0+ms.length∧(∀ (j c:Nat),ms.length≤j→C[j]? =some c→ ¬ L c)∧(∀ i,i<n0∨n0+ms.length≤i→H.at' i=H0.at' i) ∧
 ∀ (p:Nat) m,ms[p]? =some m→(L m.c→H.at' (n0+p)=some m.vo)∧(¬ L m.c→H.at' (n0+p)=none∧e (n0+p)=none)
section
variable {P:Program} {K:Zone} {w0:World} {rn:Rn} {nt:Nat} {ops:Array Oper} {T0:Tr SV} {R:List Rec} {Q:List (ay×Nat)} {C:List Nat} {ms:List Mk} {H0:ay} {n0:Nat}
theorem uM(hrn:l9 P K w0 rn)(hR:RegOK P rn nt ops T0 R Q C)(hk:MkOk P rn ops R Q C ms H0 n0)(hl:Bc P rn ops R Q C ms.length):rV P K w0 nt ops R (fun L e H n=>CN ms C H0 n0 L e H n∨Eh Q C ms.length L e H n):=by
 intro L i o r e w tr H n fn rest k ds kd rof cs ho hr hro hni hanc hcl hT hwant hM hS
 rcases hM with hM|hM
 rotate_left
 ·obtain⟨e',w',u,H',n',g1,g2,g⟩:=qt hrn hR hl L i o r e w tr H n fn rest k ds kd rof cs ho hr hro hni hanc hcl hT hwant hM hS
  exact⟨e',w',u,H',n',g1,.inr g2,g⟩
 obtain⟨⟨m0,hm0,hm0L⟩,rfl,hlate,hold,hmk⟩:=hM
 have hrec:=hR.recs i r hr
 have stay:r.chain=false→CN ms C H0 n0 (fun j=>L j∨j=i) e H (n0+ms.length):=fun hc=>by
  have hne: ∀ {j c:Nat},C[j]? =some c→c≠i:=fun {j c} hj he=>by
   subst he
   rw [hR.at_chain hj hr] at hc
   cases hc
  refine⟨⟨m0,hm0,?_⟩,rfl,fun j c hj hc'=>?_,hold,fun p m hp=>?_⟩
  ·obtain⟨p,hp⟩:=List.mem_iff_getElem?.1 hm0
   exact fun h=>h.elim hm0L (hne (hk.c p m0 hp))
  ·exact fun h=>h.elim (hlate j c hj hc') (hne hc')
  ·have hn:=hne (hk.c p m hp)
   exact⟨fun h=>(hmk p m hp).1 (h.resolve_right hn),fun h=>(hmk p m hp).2 fun h'=>h (.inl h')⟩
 cases hwd:r.wanted with
 | false=>
   rw [hwd] at hwant
   obtain⟨h1,h2⟩:=hrec.skip hwd
   exact⟨e,w,undef,H,_,Gr e,.inl (stay h2),hS,by rw [h1];rfl,.one (iv ho hwant)⟩
 | true=>
   rw [hwd] at hwant
   cases hc:r.chain with
   | false=>
     have hri:=hrec.idx
     rcases hk.fl r (Ey hr) hc hwd ⟨m0,hm0,fun h=>hm0L (hanc _ (hri ▸ h))⟩ H (fun i hi=>hold i (.inl hi)) (fun p m hp ha=>(hmk p m hp).1 (hanc _ (hri ▸ ha)))with hf|⟨hfree,hf⟩
     ·rw [hro] at hf
      obtain⟨u,hu,hst⟩:=nn (P:=P) (fn:=fn) (rest:=rest) (k:=k) (ds:=ds) (kd:=kd) (rof:=rof) (cs:=cs) hS hT ho hwant (hro ▸ (hrec.float hwd hc).1) hf
      exact⟨e,w,u,H,_,Gr e,.inl (stay hc),hS,hu,hst⟩
     ·rw [hro] at hf
      obtain⟨e1,w1,u,hle,hS1,hu,hst⟩:=kK (P:=P) hrn (fn:=fn) (rest:=rest) (k:=k) (ds:=ds) (kd:=kd) (rof:=rof) (cs:=cs) hS hT ho hwant hf
      exact⟨e,w1,u,H,_,Gr e,.inl (stay hc),hS.drop hle hS1 (fun _ _=>rfl),hfree _ _ _ hu,hst⟩
   | true=>
     obtain⟨_,hC,_⟩:=hrec.eff hc
     have hlt:r.stg<ms.length:=by
      rcases ES r.stg ms.length with h|h
      ·exact h
      ·exact absurd (hanc _ (hk.behind r.stg i h hC m0 hm0)) hm0L
     obtain⟨m,hm⟩: ∃ m,ms[r.stg]? =some m:=⟨_,En hlt⟩
     generalize r.stg=p at hC hlt hm
     have hmc:m.c=i:=by
      have:=hk.c _ m hm
      rw [hC] at this
      exact(Option.some.inj this).symm
     have h1:=hk.one p m hm
     obtain⟨r',hr',hv,hef⟩:=h1.ex
     rw [hmc,hr] at hr'
     cases hr'
     have hef:=hef H (n0+ms.length) (Nat.le_add_right _ _) (fun i hi=>hold i (.inl hi))
     rw [hro] at hef
     obtain⟨e1,w1,u,hle,hS1,hu,hst⟩:=kK (P:=P) hrn (fn:=fn) (rest:=rest) (k:=k) (ds:=ds) (kd:=kd) (rof:=rof) (cs:=cs) hS hT ho hwant hef
     obtain⟨_,heN⟩:=(hmk p m hm).2 (by rw [hmc];exact hni)
     have hle':e.le (fun j=>if j=n0+p then e1 (n0+ms.length) else e j):=fun j x hx=>by
      by_cases hj:j=n0+p
      ·rw [hj,heN] at hx;cases hx
      ·exact(EP hj).trans hx
     have hlow: ∀ {j:Nat} {v:VO},H.at' j=some v→j<n0+ms.length:=fun {j v} h=>by
      obtain⟨x,hx,_⟩:=hS.rel j v h
      rcases ES j (n0+ms.length)with q|q
      ·exact q
      ·rw [hS.fresh j q] at hx;cases hx
     have up: ∀ {j:Nat} {v:VO},(H.set (n0+p) m.vo).at' j=some v→(H.set (n0+ms.length) m.vo).at' (if j=n0+p then n0+ms.length else j)=some v:=fun {j v} h=>by
      rcases bp h with ⟨rfl,rfl⟩|⟨hne,h⟩
      ·rw [EQ rfl];exact ae
      ·rw [EP hne];exact aa (Nat.ne_of_lt (hlow h)) h
     have upe: ∀ {j:Nat} {v:VO} {x:Ent},(H.set (n0+p) m.vo).at' j=some v→(if j=n0+p then e1 (n0+ms.length) else e j)=some x→e1 (if j=n0+p then n0+ms.length else j)=some x:=fun {j v x} h hx=>by
      by_cases hj:j=n0+p
      ·rw [EQ hj] at hx ⊢;exact hx
      ·rw [EP hj] at hx ⊢;exact hle j x hx
     have hS':St K w0 (fun j=>if j=n0+p then e1 (n0+ms.length) else e j) (H.set (n0+p) m.vo) (n0+ms.length) w1:=by
      refine⟨hS1.below,fun j v h=>?_,fun j j' v v' x x' a b c d hne q1 q2 q3 q4=>hS1.inj _ _ v v' x x' (up a) (up b) (upe a c) (upe b d) (fun he=>hne ?_) q1 q2 q3 q4,fun j hj=>(EP (by omega)).trans (hS.fresh j hj)⟩
      ·obtain⟨x,hx,hlx⟩:=hS1.rel _ v (up h)
       rcases bp h with ⟨rfl,rfl⟩|⟨hne,h⟩
       ·rw [EQ rfl] at hx
        exact⟨x,(EQ rfl).trans hx,zW (a:=n0+ms.length+1) (b:=n0+ms.length+1) h1.na (by rw [hS1.fresh _ (EE _),EP (by omega),hS.fresh _ (EN _)]) hlx⟩
       ·rw [EP hne] at hx
        obtain⟨x0,hx0,hl0⟩:=hS.rel j v h
        have:=hle j x0 hx0
        rw [hx] at this
        cases this
        exact⟨x,(EP hne).trans hx0,mu hle hle' hl0 hlx⟩
      ·by_cases g1:j=n0+p
       ·by_cases g2:j'=n0+p
        ·rw [g1,g2]
        ·rw [EQ g1,EP g2] at he
         rcases bp b with ⟨q,_⟩|⟨_,q⟩
         ·exact absurd q g2
         ·have:=hlow q
          omega
       ·by_cases g2:j'=n0+p
        ·rw [EP g1,EQ g2] at he
         rcases bp a with ⟨q,_⟩|⟨_,q⟩
         ·exact absurd q g1
         ·have:=hlow q
          omega
        ·rw [EP g1,EP g2] at he
         exact he
     have hval:r.val.conc (fun j=>if j=n0+p then e1 (n0+ms.length) else e j)=some u:=by
      rw [hv,CD h1.ren (e':=e1) (b:=n0+ms.length) (EQ rfl)]
      exact hu
     refine⟨_,w1,u,H.set (n0+p) m.vo,n0+ms.length,hle',?_,hS',hval,hst⟩
     have hqp: ∀ {q:Nat} {mq:Mk},ms[q]? =some mq→mq.c=i→q=p:=fun {q mq} hq he=>nz hR (by rw [← he];exact hk.c q mq hq) hC
     have hinj: ∀ {j:Nat},C[j]? =some i→j=p:=fun {j} hj=>nz hR hj hC
     by_cases hall: ∀ m'∈ms,L m'.c∨m'.c=i
     ·obtain⟨Hk,hQ,g1,g2⟩:=hk.q
      have hH:H.set (n0+p) m.vo=Hk:=funext fun j=>by
       show(H.set (n0+p) m.vo).at' j=Hk.at' j
       by_cases hj:j<n0∨n0+ms.length≤j
       ·exact(aa (by omega) (hold j hj)).trans (g1 j hj).symm
       ·obtain⟨q,rfl⟩: ∃ q,j=n0+q:=⟨j-n0,by omega⟩
        obtain⟨mq,hq⟩: ∃ mq,ms[q]? =some mq:=⟨_,En (by omega)⟩
        rw [g2 q mq hq]
        by_cases hqe:q=p
        ·subst hqe
         rw [hm] at hq
         cases hq
         exact ae
        ·exact aa (by omega) ((hmk q mq hq).1 ((hall mq (Ey hq)).resolve_right fun he=>hqe (hqp hq he)))
      refine .inr ⟨ms.length,EE _,by rw [hH];exact hQ,fun j c hj=>⟨fun h=>?_,fun h=>?_⟩⟩
      ·rcases ES j ms.length with g|g
       ·exact g
       ·exact h.elim (fun h=>absurd h (hlate j c g hj)) fun h=>by
         subst h
         have:=hinj hj
         omega
      ·obtain⟨m',hm'⟩: ∃ m',ms[j]? =some m':=⟨_,En h⟩
       have:=hk.c j m' hm'
       rw [hj] at this
       cases this
       exact hall m' (Ey hm')
     ·refine .inl ⟨?_,rfl,fun j c hj hc'=>?_,fun j hj=>aa (by omega) (hold j hj),fun q mq hq=>⟨fun h=>?_,fun h=>?_⟩⟩
      ·apply Classical.byContradiction
       intro hno
       exact hall fun m' hm'=>Classical.byContradiction fun h=>hno ⟨m',hm',h⟩
      ·rintro(h|h)
       ·exact hlate j c hj hc' h
       ·subst h
        have:=hinj hc'
        omega
      ·by_cases hqe:q=p
       ·subst hqe
        rw [hm] at hq
        cases hq
        exact ae
       ·exact aa (by omega) ((hmk q mq hq).1 (h.resolve_right fun he=>hqe (hqp hq he)))
      ·have hqe:q≠p:=fun he=>by
        subst he
        rw [hm] at hq
        cases hq
        exact h (.inr hmc)
       have:=(hmk q mq hq).2 fun h'=>h (.inl h')
       exact⟨aa (by omega) this.1,(EP (by omega)).trans this.2⟩
end
def addL(H:ay):Nat→List VO→ay
 | _,[]=>H
 | n,vo :: l=>addL (H.set n vo) (n+1) l
theorem nI: ∀ (l:List VO) (H:ay) (n i:Nat),(addL H n l).at' i=if n≤i∧i<n+l.length then l[i-n]? else H.at' i
 | [],H,n,i=>by
   rw [EP (by simp only [List.length_nil];omega)]
   rfl
 | x :: l,H,n,i=>by
   show(addL (H.set n x) (n+1) l).at' i=_
   rw [nI l]
   by_cases h1:n+1≤i∧i<n+1+l.length
   ·rw [EQ h1,EQ (by simp only [EH];omega),show i-n=(i-(n+1))+1 by omega]
    rfl
   ·rw [EP h1]
    by_cases h2:i=n
    ·subst h2
     rw [EQ (by simp only [EH];omega),Nat.sub_self]
     exact ae
    ·rw [EP (by simp only [EH];omega)]
     exact aa h2 rfl
def MkAll(P:Program)(rn:Rn)(R:List Rec)(H0:ay)(n0:Nat):Nat→List Mk→Prop
 | _,[]=>True
 | p,m :: l=>MkOne P rn R H0 n0 p m∧MkAll P rn R H0 n0 (p+1) l
theorem MkAll.get{P:Program}{rn:Rn}{R:List Rec}{H0:ay}{n0:Nat}: ∀ {l:List Mk} {p:Nat},MkAll P rn R H0 n0 p l→ ∀ (j:Nat) m,l[j]? =some m→MkOne P rn R H0 n0 (p+j) m
 | [],_,_,j,m,h=>by simp at h
 | x :: l,p,hh,0,m,h=>by
   cases h
   exact hh.1
 | x :: l,p,hh,j+1,m,h=>by
   rw [show p+(j+1)=p+1+j by omega]
   exact hh.2.get j m (by simpa using h)
def CM(b:Nat)(H:ay):Nat→List Mk→Prop
 | _,[]=>True
 | n,m :: l=>(b.testBit m.c=true→H.at' n=some m.vo)∧CM b H (n+1) l
theorem sL{b:Nat}{H:ay}: ∀ {l:List Mk} {n:Nat},(∀ (p:Nat) m,l[p]? =some m→b.testBit m.c=true→H.at' (n+p)=some m.vo)→CM b H n l
 | [],_,_=>trivial
 | m :: l,n,h=>⟨fun hb=>h 0 m rfl hb,sL fun p m' hp hb=>by
    rw [show n+1+p=n+(p+1) by omega]
    exact h (p+1) m' hp hb⟩
def FlM(P:Program)(ancs chain:List Nat)(ms:List Mk)(H0:ay)(n0:Nat)(Q:List (ay×Nat)):List Rec→Prop
 | []=>True
 | r :: l=>((r.chain || !r.wanted || (Nat.beq (gW (ancs.getD r.i 0) chain) r.stg && Nat.beq (dj ancs r.i chain) r.stg && ms.all fun m=>(ancs.getD r.i 0).testBit m.c))=true ∨
    ((∀ H n,(∀ i,i<n0→H.at' i=H0.at' i)→CM (ancs.getD r.i 0) H n0 ms→rW P (wpr P) r H n)∧AllHQ (Q.take (chain.length-ms.length)) (fun H n=>rW P (wpr P) r H n)))∧FlM P ancs chain ms H0 n0 Q l
theorem FlM.ok{P:Program}{ancs chain:List Nat}{ms:List Mk}{H0:ay}{n0:Nat}{Q:List (ay×Nat)}: ∀ {l:List Rec},FlM P ancs chain ms H0 n0 Q l→ ∀ r∈l,r.chain=false→r.wanted=true →
 (gW (ancs.getD r.i 0) chain=r.stg∧dj ancs r.i chain=r.stg∧ ∀ m∈ms,(ancs.getD r.i 0).testBit m.c=true)∨((∀ H n,(∀ i,i<n0→H.at' i=H0.at' i)→CM (ancs.getD r.i 0) H n0 ms→rW P (wpr P) r H n)∧AllHQ (Q.take (chain.length-ms.length)) (fun H n=>rW P (wpr P) r H n))
 | [],_,r,hm,_,_=>by cases hm
 | r0 :: l,hh,r,hm,hc,hw=>by
   rcases E4.1 hm with rfl|hm
   ·rcases hh.1 with h|h
    ·rw [hc,hw] at h
     simp only [Bool.not_true,Bool.false_or,ED] at h
     exact .inl ⟨E5 h.1.1,E5 h.1.2,fun m hm=>List.all_eq_true.1 h.2 m hm⟩
    ·exact .inr h
   ·exact FlM.ok hh.2 r hm hc hw
theorem wL{P:Program}{rn:Rn}{nt:Nat}{ops:Array Oper}: ∀ {l:List Oper} {i:Nat} {s s':DS},DrawRun P rn nt ops i l s s'→s'.recs.length=s.recs.length+l.length
 | [],i,s,s',h=>by
   cases h
   rfl
 | o :: l,i,s,s',h=>by
   cases h with
   | cons h1 h2=>
     rw [wL h2,EH]
     rcases h1 with ⟨_,rfl⟩|⟨_,_,v,_,rfl⟩|⟨_,v,H,nx,_,rfl⟩ <;> simp only [EH] <;> omega
def A7(ancs cs l:List Nat):Bool:=iP ancs l && l.all fun d=>cs.all fun c=>(ancs.getD d 0).testBit c
section
variable {P:Program} {ro:Option Nat} {fn nt nx:Nat} {T:Tr SV} {k:List AIt} {dfs:List ADf} {H:ay} {Q:Pst}
theorem pb{id:Nat}{opl:List Oper}(hm:P.follows .mixedOrders=true)(hr:fw nt opl=true)
 (h:kW P nt opl.toArray 0 opl ⟨T,H,nx,[],[(H,nx)],0⟩ (fun s=> ∃ (ms:List Mk) (l:List Nat),dN s=ms.map (·.c) ++ l∧A7 (dO [] opl) (ms.map (·.c)) l=true∧ms≠ []∧s.Hs.reverse[ms.length]? =some (addL H nx (ms.map (·.vo)),nx+ms.length) ∧
   MkAll P (wpr P) s.recs.reverse H nx 0 ms∧FlM P (dO [] opl) (dN s) ms H nx s.Hs s.recs∧Wp P ro ⟨fn,nt,s.T,k,dfs,s.H,s.nx⟩ Q)) :
 Wp P ro ⟨fn,nt,T,.code (.region id opl.toArray true) :: k,dfs,H,nx⟩ Q:=by
 obtain⟨s,hs,ms,l,h1,h2,h3,h4,h5,h6,h7⟩:=h.ex
 refine⟨fun K w0 e w tmps todo ds' kd rof cs' hS hT ht hd hc=>?_⟩
 obtain⟨it,k',rfl,hi,hk⟩:=ht.cons
 have hi:it=Item.code (.region id opl.toArray true):=hi
 subst hi
 simp only [A7,ED] at h2
 have hcl: ∀ (p:Nat) m,ms[p]? =some m→(dN s)[p]? =some m.c:=fun p m hp=>by
  rw [h1,EB (by rw [EU];exact(Eo.1 hp).1),E6,hp]
  rfl
 have hrest: ∀ (j c:Nat),ms.length≤j→(dN s)[j]? =some c→l[j-ms.length]? =some c:=fun j c hj hc=>by
  rw [h1,EZ (by rw [EU];exact hj),EU] at hc
  exact hc
 have hlow: ∀ {i:Nat} {v:VO},H.at' i=some v→i<nx:=fun {i v} hi=>by
  obtain⟨x,hx,_⟩:=hS.rel i v hi
  rcases ES i nx with q|q
  ·exact q
  ·rw [hS.fresh i q] at hx;cases hx
 have hnone: ∀ i,nx≤i→H.at' i=none:=fun i hi=>by
  cases hv:H.at' i with
  | none=>rfl
  | some v=>have:=hlow hv;omega
 have hpos:0<ms.length:=List.length_pos_iff.2 h3
 obtain⟨m0,hm0⟩: ∃ m0,m0∈ms:=List.exists_mem_of_ne_nil ms h3
 obtain⟨e',w',tmps',H',n',L,g1,g2,g3,g4,g5,g6⟩:=uv (K:=K) (w0:=w0) (rn:=wpr P) hm (ops:=opl.toArray) (w:={w with drawn:=w.drawn+1}) hr hs
  (M:=fun L e H' n=>CN ms (dN s) H nx L e H' n∨Eh s.Hs.reverse (dN s) ms.length L e H' n)
  (fun hR=>by
    have hfl:=FlM.ok h6
    refine uM (mz K w0) hR ⟨hcl,fun p m hp=>by have:=h5.get p m hp;rwa [ER] at this,⟨_,h4,fun i hi=>?_,fun p m hp=>?_⟩,fun j c hj hc m hm=>?_,fun r hr hc hw ⟨m,hm,hb⟩ H1 q1 q2=>?_⟩ ⟨fun j c c' hj q1 q2=>?_,fun r hr hc hw st hst hlo hhi H1 n1 hQ1=>qK hR hr hc hw hQ1 fun hne=>?_⟩
    ·rw [nI,EP (by rw [EU];omega)]
    ·have:=(Eo.1 hp).1
     rw [nI,EQ (by rw [EU];omega),Nat.add_sub_cancel_left,E6,hp]
     rfl
    ·exact List.all_eq_true.1 (List.all_eq_true.1 h2.2 c (Ey (hrest j c hj hc))) m.c (List.mem_map_of_mem hm)
    ·rcases hfl r (by simpa using hr) hc hw with ⟨_,_,h⟩|h
     ·exact absurd (h m hm) hb
     ·exact h.1 H1 _ q1 (sL q2)
    ·exact lE h2.1 (j-ms.length) c c' (hrest j c hj q1) (by rw [show j-ms.length+1=j+1-ms.length by omega];exact hrest (j+1) c' (by omega) q2)
    ·have both:rW P (wpr P) r H1 n1→qc P (wpr P) r.T H1 n1 r.o r.val:=fun h=>h.elim .inl fun h=> .inr h.2
     rcases hfl r (by simpa using hr) hc hw with ⟨q1,q2,_⟩|h
     ·exact absurd (Nat.le_antisymm (q2 ▸ hhi) (q1 ▸ hlo)) hne
     ·refine both ?_
      have hlen:=hR.stages
      change s.Hs.reverse.length=(dN s).length+1 at hlen
      have hst1:=(Eo.1 hQ1).1
      rw [List.length_reverse] at hlen hst1
      rcases ES ms.length st with hg|hg
      ·refine AllHQ.get h.2 (i:=s.Hs.length-1-st) ?_
       rw [List.getElem?_take,EQ (by omega),←List.getElem?_reverse hst1]
       exact hQ1
      ·have hst2:st=ms.length:=by omega
       subst hst2
       rw [h4] at hQ1
       cases hQ1
       refine h.1 _ _ (fun i hi=>?_) (sL fun p m hp _=>?_)
       ·rw [nI,EP (by omega)]
       ·have:=(Eo.1 hp).1
        rw [nI,EQ (by rw [EU];omega),Nat.add_sub_cancel_left,E6,hp]
        rfl)
  (n:=nx+ms.length) (.inl ⟨⟨m0,hm0,fun h=>h⟩,rfl,fun _ _ _ _ h=>h,fun _ _=>rfl,fun p m hp=>⟨fun h=>h.elim,fun _=>⟨hnone _ (Nat.le_add_right _ _),hS.fresh _ (Nat.le_add_right _ _)⟩⟩⟩)
  (by
    have h:=hS.drew (w:=w)
    exact⟨h.below,h.rel,h.inj,fun i hi=>h.fresh i (by show nx≤i;omega)⟩) hT (w.tape w.drawn (.order fn id)) fn k' ds' kd rof cs'
 rcases g3 with ⟨⟨m,hm,hno⟩,_⟩|g3
 ·exfalso
  obtain⟨p,hp⟩:=List.mem_iff_getElem?.1 hm
  have:=hcl p m hp
  obtain⟨r,hr1,_⟩:=(h5.get p m hp).ex
  have hlt:=(Eo.1 hr1).1
  rw [List.length_reverse,wL hs] at hlt
  exact hno (g2 _ (by simpa using hlt))
 obtain⟨rfl,rfl⟩:=t9 hr hs g3 g2
 exact(h7.run K w0 e' w' tmps' k' ds' kd rof cs' g4 g5 (hk.mono g1) (hd.mono g1) (hc.mono g1)).pre (.head wE (g6.trans (.one iu))) g1 rfl rfl (fun _ hr=>hr)
end
section
variable {P:Program} {tb:Tbl} {ancs chain:List Nat} {ms:List Mk} {H0:ay} {n0:Nat} {Q:List (ay×Nat)} {r:Rec} {l:List Rec}
theorem fm_c(h:r.chain=true)(k:FlM P ancs chain ms H0 n0 Q l):FlM P ancs chain ms H0 n0 Q (r :: l):=⟨.inl (nw h),k⟩
theorem A3(h1: ∀ H n,(∀ i,i<n0→H.at' i=H0.at' i)→CM (ancs.getD r.i 0) H n0 ms→rW P (wpr P) r H n)(h2:AllHQ (Q.take (chain.length-ms.length)) (fun H n=>rW P (wpr P) r H n))(k:FlM P ancs chain ms H0 n0 Q l):FlM P ancs chain ms H0 n0 Q (r :: l):=⟨.inr ⟨h1,h2⟩,k⟩
theorem Ec{p:ay→Nat→Prop}(h: ∀ H n,p H n): ∀ Q:List (ay×Nat),AllHQ Q p
 | []=>trivial
 | q :: l=>⟨h q.1 q.2,Ec h l⟩
theorem fm_pG(ht:TblOk P tb)(h:mO tb r.T r.o.op=some r.val)(k:FlM P ancs chain ms H0 n0 Q l):FlM P ancs chain ms H0 n0 Q (r :: l):=A3 (fun _ _ _ _=> .inl (iZ ht h)) (Ec (fun _ _=> .inl (iZ ht h)) _) k
end
end Go.Sy
namespace Go.Proofs.YtelnglhodnoclaaGreat
open Go Go.Sy
theorem fm_p{ancs chain:List Nat}{ms:List Mk}{H0:ay}{n0:Nat}{Q:List (ay×Nat)}{r:Rec}{l:List Rec}(h:mO wA r.T r.o.op=some r.val)(k:FlM Tryz.prog ancs chain ms H0 n0 Q l):FlM Tryz.prog ancs chain ms H0 n0 Q (r :: l):=fm_pG jz h k
end Go.Proofs.YtelnglhodnoclaaGreat
end
section
namespace Go.Proofs.YtelnglhodnoclaaGreat
open Go Go.Sy Go.Sl Go.RowKit
theorem tV: ∀ S:List Int,cr ((S.flatMap fun n=> [Value.int .i64 n]).map SV.sc)=true
 | []=>rfl
 | a :: S=>tV S
structure PartI (H:ay) (nx b k fq:Nat) (xr p:List UInt8) (so sl:SV) (e f:bf):Prop where
 b0:H.at' nx=some (vT b)
 b1:H.at' (nx+1)=some (pgO xr)
 b2:H.at' (nx+1+1)=some (d8 ((4+k:Nat):Int) p so sl)
 b3:H.at' (nx+1+1+1)=some (an 25 ((fX e).map .sc))
 b4:H.at' (nx+1+1+1+1)=some (z8 ((4+fq:Nat):Int))
 b5:H.at' (nx+1+1+1+1+1)=some (an 25 ((fX f).map .sc))
section
variable {H:ay}{e:bf}{b c k:Nat}{left:Int}{n no nx:Nat}{lf:List Int}{bs:List Bn.El}{mem:List UInt8}{own:List Ow.El}{p root:List UInt8}
theorem PartI.frame{H':ay}{fq:Nat}{xr:List UInt8}{so sl:SV}{f:bf}(h:PartI H nx b k fq xr p so sl e f)(g: ∀ m,nx≤m→m≤nx+1+1+1+1+1→H'.at' m=H.at' m):PartI H' nx b k fq xr p so sl e f:=
 ⟨(g _ (by omega) (by omega)).trans h.b0,(g _ (by omega) (by omega)).trans h.b1,(g _ (by omega) (by omega)).trans h.b2,(g _ (by omega) (by omega)).trans h.b3,(g _ (by omega) (by omega)).trans h.b4,(g _ (by omega) (by omega)).trans h.b5⟩
abbrev PartQ(H:ay)(nx b c k:Nat)(mem root p:List UInt8)(bs:List Bn.El)(own:List Ow.El)(lf:List Int)(e:bf)(left:Int):Pst:=fun q=>nx≤q.2.2∧((nU root p bs k own lf e=none∧q.1 = .sc (.int .i64 5)∧ ∀ m,m<nx→q.2.1.at' m=H.at' m)∨ ∃ ws,nU root p bs k own lf e=some ws∧ws.length=4∧q.1 = .sc (.int .i64 ((gE left 4 0:Nat):Int))∧PgAt q.2.1 b (dU mem (ws.take (fC left 4))) (left-(fC left 4:Nat)) (c+fC left 4)∧Kept H q.2.1 b nx)
theorem DC{r lo hi:Nat}{so sl:SV}(e:bf)(hb:PgAt H b mem left c)(hm:mem.length=28672)(hroot:root.length=1024)(hp:p.length=1024)(hk:k<28)(hr:H.at' r=some (nZ bs))(h28:bs.length≤28)(hbm: ∀ x∈bs,∃ k:Nat,1≤k∧k<28∧x.1=((4+k:Nat):Int))(ho:OwnAt H so own lo hi)(hs:IntsAt H sl lf lo hi)
 (hown: ∀ o,o∈own→gz o.1=true∧0≤o.2) (hpos: ∀ x,x∈lf→0≤x) (he:gz e=true) (hlen:own.length+lf.length≤252) (hl2 : -100000000≤left∧left≤9223372036854775807) (hc:c≤999990):Fnc Tryz.prog 44 [og b,.agg (pgS root),.slu r 0 bs.length,.agg (dL ((4+k:Nat):Int) p so sl),gC e] H nx (PartQ H nx b c k mem root p bs own lf e left):=by
 have hF:=Ac bs
 refine Gj Tryz.func44 rfl rfl ?_
 refine bh fun hund=>?_
 have hlt:=hund _ _ hr
 have hlb:b<nx:=(let ⟨_,h,_⟩:=hb;hund _ _ h)
 have ho1:=ho.one
 have hs1:=hs.one
 have hfl:=fun(H':ay) (n:Nat) (h:H'.at' r=some (nZ bs))=>vC (nx:=n) h h28 hbm
 rcases ho with ⟨rfl,rfl⟩|⟨ro,k1,rfl,k2,k3,k4⟩
 ·have hno:nU root p bs k [] lf e=none:=pA (.inr rfl)
  repeat first|apply cT;rfl;kernel_rfl;exact hfl _ _ (by(repeat(refine aa (by omega) ?_));exact hr)|refine a7 rfl rfl rfl (F.ag _ rfl) (by repeat(first|exact ae|refine aa (by omega) ?_)) (bC hp cF sl 0) ?_|refine bO (cj (F.un _ rfl) rfl) rfl rfl rfl ?_|apply ah;rfl|apply aM;rfl;(focus((repeat(exact ae));done));rfl|refine er (tU rfl rfl) rfl rfl rfl ?_|refine bO (ij rfl rfl (by omega) (dP (by focus(omega)) (by focus(omega)) (by focus(omega)))) rfl rfl rfl ?_
  refine cD rfl rfl rfl rfl (fun c1=>?_) (fun c1=>?_)
  ·repeat apply ah;rfl
   (apply b8 Tryz.func44 Tryz.results44;rfl)
   exact⟨by first|omega|(dsimp only;omega),.inl ⟨hno,rfl,fun m hm=>by(repeat(refine aa (by omega) ?_));rfl⟩⟩
  ·repeat first|apply jK;rfl;decide|apply ah;rfl
   (apply b8 Tryz.func44 Tryz.results44;rfl)
   exact⟨by first|omega|(dsimp only;omega),.inl ⟨hno,rfl,fun m hm=>by(repeat(refine aa (by omega) ?_));rfl⟩⟩
 have hlo:=hund _ _ k4
 repeat first|apply cT;rfl;kernel_rfl;exact hfl _ _ (by(repeat(refine aa (by omega) ?_));exact hr)|refine a7 rfl rfl rfl (F.ag _ rfl) (by repeat(first|exact ae|refine aa (by omega) ?_)) (bC hp (.slu ro 0 own.length) sl 0) ?_|apply ah;rfl|apply aM;rfl;(focus((repeat(exact ae));done));rfl|refine er (tU rfl rfl) rfl rfl rfl ?_|refine bO (ij rfl rfl (by omega) (dP (by focus(omega)) (by focus(omega)) (by focus(omega)))) rfl rfl rfl ?_
 refine cD rfl rfl rfl rfl (fun c1=>?_) (fun c1=>?_)
 ·have hF0:d9 bs=0:=by
   rcases Nat.eq_zero_or_pos (d9 bs)with h|h
   ·exact h
   ·rw [sT,EP (by omega)] at c1;omega
  repeat apply ah;rfl
  (apply b8 Tryz.func44 Tryz.results44;rfl)
  exact⟨by first|omega|(dsimp only;omega),.inl ⟨pA (.inl hF0),rfl,fun m hm=>by(repeat(refine aa (by omega) ?_));rfl⟩⟩
 have hF0:d9 bs≠0:=fun h=>c1 (by rw [sT,EQ h])
 have hI:sT bs=((4+d9 bs:Nat):Int):=by rw [sT,EP hF0];omega
 obtain⟨fq,hFe⟩: ∃ fq,d9 bs=fq:=⟨_,rfl⟩
 rw [hFe] at hI hF0 hF
 obtain⟨h,hh⟩: ∃ h,own.length / 2=h:=⟨_,rfl⟩
 rw [hI,show((own.length:Nat):Int) / 2=(h:Int) by omega]
 repeat apply ah;rfl
 refine cD rfl rfl rfl rfl (fun c2=>?_) (fun c2=>?_)
 ·repeat apply ah;rfl
  (apply b8 Tryz.func44 Tryz.results44;rfl)
  exact⟨by first|omega|(dsimp only;omega),.inl ⟨pA (.inr (by omega)),rfl,fun m hm=>by(repeat(refine aa (by omega) ?_));rfl⟩⟩
 have hh2:h<own.length:=by omega
 obtain⟨f,hf⟩: ∃ f,(own[h]).1=f:=⟨_,rfl⟩
 have hmf:gz f=true:=by rw [← hf];exact(hown _ (EO hh2)).1
 have hpe:=zI (root:=root) (p:=p) (n:=k) (left:=lf) (e:=e) hFe hh (by omega) (by omega) hh2 hf
 have hfl2:=dW (f:=Ow.elV) (fun _=>rfl) own h 0 3 hh2 (by decide)
 rw [show((Ow.elV own[h]).drop 0).take 3=fX f by rw [← hf];rfl] at hfl2
 repeat first|refine a7 rfl rfl rfl (F.ag _ rfl) (by repeat(first|exact ae|refine aa (by omega) ?_)) (bC hp (.slu ro 0 own.length) sl 0) ?_|refine ew (q:=h) rfl rfl rfl rfl (F.un _ rfl) (F.sz _ rfl) (by(repeat(refine aa (by omega) ?_));exact k4) rfl hh2 (EE _) ?_|refine eu (us:=fX f) rfl rfl rfl (F.ag _ rfl) (by(repeat(refine aa (by omega) ?_));exact k4) hfl2 rfl (by omega) ?_|apply ah;rfl|apply aM;rfl;(focus((repeat(exact ae));done));rfl
 refine aZ rfl rfl rfl (by kernel_rfl) (Gi (td f hmf) ?_)
 rintro⟨_,H1,n1⟩ ⟨r1,rfl,a1,a2,a3,a4⟩
 dsimp only at a1 a2 a3 a4 ⊢
 have b0:H1.at' nx=some (vT b):=(a4 _ (by omega)).trans (by repeat(first|exact ae|refine aa (by omega) ?_))
 have b1:H1.at' (nx+1)=some (pgO root):=(a4 _ (by omega)).trans (by repeat(first|exact ae|refine aa (by omega) ?_))
 have b2:H1.at' (nx+1+1)=some (d8 ((4+k:Nat):Int) p (.slu ro 0 own.length) sl):=(a4 _ (by omega)).trans (by repeat(first|exact ae|refine aa (by omega) ?_))
 have b3:H1.at' (nx+1+1+1)=some (an 25 ((fX e).map .sc)):=(a4 _ (by omega)).trans (by repeat(first|exact ae|refine aa (by omega) ?_))
 have b4:H1.at' (nx+1+1+1+1)=some (z8 ((4+fq:Nat):Int)):=(a4 _ (by omega)).trans (by repeat(first|exact ae|refine aa (by omega) ?_))
 have b5:H1.at' (nx+1+1+1+1+1)=some (an 25 ((fX f).map .sc)):=(a4 _ (by omega)).trans (by repeat(exact ae))
 have bo: ∀ m,m<nx→H1.at' m=H.at' m:=fun m hm=>(a4 m (by omega)).trans (by(repeat(refine aa (by omega) ?_));rfl)
 clear a4
 repeat apply ah;rfl
 obtain⟨it,hit⟩: ∃ it,UInt8.ofNat fq :: br f=it:=⟨_,rfl⟩
 have hle:=gH f
 have hme:=jd.1 hmf
 have hitl:it.length=(br f).length+1:=by rw [← hit];rfl
 have hwr:IntKind.u8.wrap (((4+fq:Nat):Int)-4)=((UInt8.ofNat fq).toNat:Int):=by rw [show((4+fq:Nat):Int)-4=(fq:Int) by omega,wk]
 have hA:BsIs ((H1.set n1 (ft false 1 1 5 ((byV [UInt8.ofNat fq]).map .sc))).set (n1+1) (bsR false [.slu n1 0 1,.slu r1 0 (br f).length])) (.slu n1 0 1) (byV [UInt8.ofNat fq]):=
  rN (ro:=false) (n:=1) (Eq.trans (b:=some (ft false 1 1 5 ((byV [UInt8.ofNat fq]).map .sc))) (by repeat(first|exact ae|refine aa (by omega) ?_)) (congrArg some (bZ _ _ _ _ _))) rfl
 have hB:BsIs ((H1.set n1 (ft false 1 1 5 ((byV [UInt8.ofNat fq]).map .sc))).set (n1+1) (bsR false [.slu n1 0 1,.slu r1 0 (br f).length])) (.slu r1 0 (br f).length) (byV (br f)):=ol (ro:=false) (by(repeat(refine aa (by omega) ?_));exact a1)
 have hfl3: [byV [UInt8.ofNat fq],byV (br f)].flatten=byV it:=by
  rw [← hit]
  show byV [UInt8.ofNat fq] ++ (byV (br f) ++ [])=_
  rw [E3]
  rfl
 have hj:=xM (nx:=n1+1+1) (r:=n1+1) (ro:=false) (ls:= [.slu n1 0 1,.slu r1 0 (br f).length]) (aw _ _ _) (LsIs.cons hA (LsIs.cons hB (LsIs.nil _))) (by rw [hfl3,fh];omega) (Ep rfl)
 rw [hfl3,fh] at hj
 have hip:=nX (nx:=n1+1+1+1) (s:= .slu (n1+1+1) 0 it.length) hroot (ol (ro:=false) (aw ((H1.set n1 (ft false 1 1 5 ((byV [UInt8.ofNat fq]).map .sc))).set (n1+1) (bsR false [.slu n1 0 1,.slu r1 0 (br f).length])) (n1+1+1) (u8R false (byV it)))) (by omega)
 have hipl:=xS (it:=it) hroot
 rw [hit] at hpe
 generalize g8 root it=ip at hip hipl hpe
 obtain⟨ip,is,ie⟩:=ip
 dsimp only at hip hipl hpe
 (apply bU;(focus(kernel_rfl));(focus(kernel_rfl)))
 repeat first|refine ff rfl rfl rfl (F.ag _ rfl) b1 (bi hroot) ?_|apply hZ;rfl;rfl;exact(F.un _ rfl);exact(F.sz _ rfl);rfl;exact(F.ze _ rfl);rfl;rfl;rfl;rfl;rfl|refine ba (cK (F.un _ rfl) (F.un _ rfl) rfl (hwr)) rfl rfl rfl ?_|refine eX rfl rfl rfl (by kernel_rfl) hj ?_|refine eX rfl rfl rfl (by kernel_rfl) hip ?_|refine fU rfl rfl rfl (F.sz _ rfl) (by(repeat(refine aa (by omega) ?_));exact b1) (bi hipl) (by rw [bi hroot];exact EE _) (iH _) (jC _ _ hroot hipl) ?_|apply kO;rfl;assumption;rfl|apply az;rfl|refine ba (am rfl rfl (.inr (.inl ⟨rfl,(Ek _ ⟨(by focus(omega)),(by focus(omega))⟩).symm⟩))) rfl rfl rfl ?_
 refine au ⟨by kernel_rfl,?_,?_⟩;(focus(repeat(first|exact Gu|apply mn;rfl|apply jk;rfl;kernel_rfl|refine⟨.inr ⟨0,by kernel_rfl,AllH.all (fun _=>(by(exact am rfl rfl (.inr (.inl ⟨rfl,(Ek _ ⟨by omega,by omega⟩).symm⟩))))) _⟩,?_⟩|refine js 0 rfl (by kernel_rfl) (by(repeat(refine⟨(by first|exact aK (F.ag _ rfl) rfl (by repeat(first|assumption|exact ae|refine aa (by omega) ?_)) (aF rfl)|exact cK (F.un _ rfl) (F.un _ rfl) rfl hwr),?_⟩));exact Gu) ?_|refine js 1 rfl (by kernel_rfl) (by(repeat(refine⟨(by first|exact bn (F.ag _ rfl) rfl b1 (bH hroot)|exact bn (F.ag _ rfl) rfl (by(repeat(refine aa (by omega) ?_));exact b1) (bH hroot)),?_⟩));exact Gu) ?_)))
 refine gL (R:=fun H2 n2=>n1<n2∧PartI H2 nx b k fq ip p (.slu ro 0 own.length) sl e f∧ ∀ m,m<nx→H2.at' m=H.at' m) ⟨by dsimp only;omega,⟨by(repeat(refine aa (by omega) ?_));exact b0,by repeat(exact ae),by(repeat(refine aa (by omega) ?_));exact b2,by(repeat(refine aa (by omega) ?_));exact b3,by(repeat(refine aa (by omega) ?_));exact b4,by(repeat(refine aa (by omega) ?_));exact b5⟩,fun m hm=>by(repeat(refine aa (by omega) ?_));exact bo m hm⟩ ?_
 have hr1n:nx+1+1+1+1+1+1<n1:=by omega
 clear hj hip hA hB a1 a2 a3 b0 b1 b2 b3 b4 b5 bo
 rintro H2 n2 ⟨g1,⟨b0,b1,b2,b3,b4,b5⟩,bo⟩
 have hn2:nx+1+1+1+1+1+1<n2:=by omega
 clear g1 hr1n
 repeat apply ah;rfl
 refine fp rfl rfl rfl rfl (fun c3=>?_) (fun c3=>?_)
 ·rw [EQ (by(try dsimp only at c3);omega)] at hpe
  repeat apply ah;rfl
  (apply b8 Tryz.func44 Tryz.results44;rfl)
  exact⟨by first|omega|(dsimp only;omega),.inl ⟨hpe,rfl,bo⟩⟩
 rw [EP (by(try dsimp only at c3);omega)] at hpe
 repeat apply ah;rfl
 refine jw (A:=SV×Nat) (fun a=> [(5,.ptr nx 0),(6,.ptr (nx+1) 0),(8,.ptr (nx+1+1) 0),(9,.ptr (nx+1+1+1) 0),(10,.sc (.int .i64 0)),(11,.ptr (nx+1+1+1+1) 0),(12,.sc (.int .i64 (h:Int))),(13,.ptr (nx+1+1+1+1+1) 0),(18,.ptr a.2 0),(19,a.1)])
  (fun a H3 n3=>n2≤a.2∧a.2<n3∧H3.at' a.2=some (pgO (dh 3))∧IntsAt H3 a.1 lf n2 n3∧PartI H3 nx b k fq ip p (.slu ro 0 own.length) sl e f∧ ∀ m,m<nx→H3.at' m=H.at' m) ?_ ?_
 ·rintro⟨g,u⟩ H3 n3 ⟨d1,d2,d3,d4,⟨b0,b1,b2,b3,b4,b5⟩,bo⟩
  dsimp only at d1 d2 d3 d4 ⊢
  obtain⟨cnt,hcnt⟩: ∃ cnt,own.length-h=cnt:=⟨_,rfl⟩
  repeat first|refine a7 rfl rfl rfl (F.ag _ rfl) (by assumption) (bC hp (.slu ro 0 own.length) sl 0) ?_|refine wm (lw:=h) (hg:=own.length) rfl rfl rfl (F.un _ rfl) (F.sz _ rfl) (by exact(bo ro hlo).trans k4) rfl rfl (by omega) (by omega) (by omega) ?_|apply ah;rfl
  rw [hcnt]
  refine bv (α:=Nat×SV) (fun x=> [(5,.ptr nx 0),(6,.ptr (nx+1) 0),(8,.ptr (nx+1+1) 0),(9,.ptr (nx+1+1+1) 0),(11,.ptr (nx+1+1+1+1) 0),(13,.ptr (nx+1+1+1+1+1) 0),(18,.ptr u 0),(19,x.2),(73,.slu ro (0+h) cnt),(74,.sc (.int .i64 (cnt:Int))),(75,.sc (.int .i64 (x.1:Int)))])
   (fun x H7 n7=>x.1≤cnt∧n3≤n7∧(∃ up,qp ((own.drop h).take x.1) (dh 3)=some up∧up.length=1024∧H7.at' u=some (pgO up))∧IntsAt H7 x.2 (lf ++ ((own.drop h).take x.1).map (·.2)) n2 n7∧PartI H7 nx b k fq ip p (.slu ro 0 own.length) sl e f∧ ∀ m,m<nx→H7.at' m=H.at' m) (fun x=>cnt-x.1) (0,g)
   ⟨EF _,EE _,⟨_,rfl,cQ 3,d3⟩,by simpa using d4,⟨b0,b1,b2,b3,b4,b5⟩,bo⟩ (Gq (Gt rfl)) ?_
  clear d3 d4 b0 b1 b2 b3 b4 b5 bo
  rintro⟨i,gs⟩ H7 n7 ⟨o0,o1,⟨up,o2,o3,o4⟩,o5,⟨b0,b1,b2,b3,b4,b5⟩,bo⟩ ih
  dsimp only at o0 o1 o2 o5 ih ⊢
  repeat apply ah;rfl
  refine bq rfl rfl rfl rfl (fun c4=>?_) (fun c4=>?_)
  ·have hi:h+i<own.length:=by omega
   have hi2:i<(own.drop h).length:=by rw [EW];omega
   have hdi:(own.drop h)[i]=own[h+i]:=List.getElem_drop ..
   have hfo:=dW (f:=Ow.elV) (fun _=>rfl) own (h+i) 0 4 hi (by decide)
   have hko:=(bo ro hlo).trans k4
   obtain⟨hom,hop⟩:=hown _ (EO hi)
   repeat first|refine bO (f9 (F.un _ rfl) (F.sz _ rfl) rfl rfl hko (by omega) (by omega) (by omega)) rfl rfl rfl ?_|apply ah;rfl
   rw [show(0+h+((i:Int)).toNat)*4=(h+i)*4+0 by omega]
   repeat first|refine eu (us:=Ow.elV own[h+i]) rfl rfl rfl (F.ag _ rfl) (by exact hko) hfo rfl (by omega) ?_|refine cN rfl rfl rfl (F.ag _ rfl) (by repeat(first|assumption|exact ae)) (aB 3 0 rfl rfl) ?_|apply ah;rfl|apply aM;rfl;(focus((repeat(exact ae));done));rfl
   refine aZ rfl rfl rfl (by kernel_rfl) (Gi (td (own[h+i]).1 hom) ?_)
   rintro⟨_,H8,n8⟩ ⟨r8,rfl,a1,a2,a3,a4⟩
   dsimp only at a1 a2 a3 a4 ⊢
   have q0:H8.at' n7=some (an 128 ((Ow.elV own[h+i]).map .sc)):=(a4 _ (by omega)).trans (by repeat(exact ae))
   have q1:H8.at' u=some (pgO up):=(a4 _ (by omega)).trans (by(repeat(refine aa (by omega) ?_));exact o4)
   have q2:IntsAt H8 gs (lf ++ ((own.drop h).take i).map (·.2)) n2 n8:=o5.frame (by omega) fun m h1 h2 _=>(a4 m (by omega)).trans (by(repeat(refine aa (by omega) ?_));rfl)
   have q3:PartI H8 nx b k fq ip p (.slu ro 0 own.length) sl e f:=PartI.frame (H:=H7) ⟨b0,b1,b2,b3,b4,b5⟩ fun m h1 h2=>(a4 m (by omega)).trans (by(repeat(refine aa (by omega) ?_));rfl)
   have q4: ∀ m,m<nx→H8.at' m=H.at' m:=fun m hm=>(a4 m (by omega)).trans (by(repeat(refine aa (by omega) ?_));exact bo m hm)
   clear a4 o4 o5 b0 b1 b2 b3 b4 b5 bo hko
   have hle2:=gH (own[h+i]).1
   have hme2:=jd.1 hom
   have hins:=fun(H':ay) (n:Nat) (hh:H'.at' r8=some (u8R false (byV (br (own[h+i]).1))))=>ji (nx:=n) o3 (ol hh) (by omega)
   have hyl:=fB (it:=br (own[h+i]).1) o3
   have hun:=fun(hn:(fe up (br (own[h+i]).1)).2.2≠0)=>qo (l:=own.drop h) i hi2 o2 (by rw [hdi];exact hn)
   have hus:=fun(hn:(fe up (br (own[h+i]).1)).2.2=0)=>qn (o:=own[h+i]) o2 hn
   generalize fe up (br (own[h+i]).1)=y at hins hyl hun hus
   obtain⟨y,ys,ye⟩:=y
   dsimp only at hins hyl hun hus
   repeat first|apply da o3;rfl;assumption|apply cT;rfl;kernel_rfl;exact hins _ _ (by exact a1)|apply cG hyl o3;rfl;assumption|apply ah;rfl
   refine fp rfl rfl rfl rfl (fun c5=>?_) (fun c5=>?_)
   ·rw [hun (by(try dsimp only at c5);omega)] at hpe
    repeat apply ah;rfl
    (apply b8 Tryz.func44 Tryz.results44;rfl)
    exact⟨by first|omega|(dsimp only;omega),.inl ⟨hpe,rfl,fun m hm=>by(repeat(refine aa (by omega) ?_));exact q4 m hm⟩⟩
   have hup:=hus (by(try dsimp only at c5);omega)
   have htk:(own.drop h).take (i+1)=(own.drop h).take i ++ [own[h+i]]:=by rw [List.take_succ_eq_append_getElem hi2,hdi]
   rw [← htk] at hup
   have hmap:lf ++ ((own.drop h).take (i+1)).map (·.2)=(lf ++ ((own.drop h).take i).map (·.2)) ++ [(own[h+i]).2]:=by rw [htk,EJ,E0];rfl
   have hll:(lf ++ ((own.drop h).take i).map (·.2)).length≤252:=by rw [EI,EU,ET,EW];omega
   obtain⟨L,hL⟩: ∃ L,lf ++ ((own.drop h).take i).map (·.2)=L:=⟨_,rfl⟩
   rw [hL] at q2 hmap hll
   rcases q2 with ⟨hL0,rfl⟩|⟨rg,w1,rfl,w2,w3,w4⟩
   ·subst hL0
    repeat first|apply ah;rfl|apply aM;rfl;(focus((repeat(first|assumption|refine aa (by omega) ?_));done));rfl|refine er (aU (F.un _ rfl) (F.sz _ rfl) (aN rfl) (F.ze _ rfl) rfl rfl rfl rfl rfl) rfl rfl rfl ?_
    refine gP (b:=8) (n:=1) (cs:= [.sc (.int .i64 (own[h+i]).2)]) rfl rfl rfl rfl (F.un _ rfl) (.inl ⟨_,F.un _ rfl⟩) (F.sz _ rfl) rfl (by kernel_rfl) (by kernel_rfl) (SlOf.row (by repeat(exact ae)) rfl) rfl (by decide) (by decide) ?_
    rintro _ _ _ (⟨h,_⟩|⟨_,rfl,rfl,rfl⟩)
    ·exact absurd h (by decide)
    repeat first|apply ah;rfl|apply aC;rfl;omega;omega
    exact ih _ _ _ (i+1,.slu (n8+1) 0 1) ⟨by omega,by first|omega|(dsimp only;omega),⟨y,hup,hyl,by repeat(first|exact ae|refine aa (by omega) ?_)⟩,by rw [hmap];exact .inr ⟨n8+1,by simp,rfl,by first|omega|(dsimp only;omega),by first|omega|(dsimp only;omega),Eq.trans (b:=some (ft false 1 1 3 [.sc (.int .i64 (own[h+i]).2)])) (by repeat(exact ae)) (congrArg some (bZ false 1 1 3 [.int .i64 (own[h+i]).2]))⟩,q3.frame fun m h1 h2=>(by(repeat(refine aa (by omega) ?_));rfl),fun m hm=>by(repeat(refine aa (by omega) ?_));exact q4 m hm⟩ (by omega) (Gq (Gt rfl))
   ·have hru:rg≠u:=by rintro rfl;rw [q1] at w4;unfold pgO an at w4;cases w4
    repeat first|apply ah;rfl|apply aM;rfl;(focus((repeat(first|assumption|refine aa (by omega) ?_));done));rfl|apply aC;rfl;omega;omega|refine er (aU (F.un _ rfl) (F.sz _ rfl) (aN rfl) (F.ze _ rfl) rfl rfl rfl rfl rfl) rfl rfl rfl ?_|refine mC (b:=8) (xs:=L) (a:=(own[h+i]).2) rfl rfl rfl rfl (F.un _ rfl) (.inl ⟨_,F.un _ rfl⟩) (F.sz _ rfl) rfl (by kernel_rfl) (by kernel_rfl) (by repeat(first|assumption|refine aa (by omega) ?_)) (by repeat(exact ae)) (by rfl) ((AP (g:=fun n:Int=>Value.int .i64 n) fun _=>rfl)) (by omega) (by omega) ?_
    exact ih _ _ _ (i+1,.slu (n8+1) 0 (L ++ [(own[h+i]).2]).length) ⟨by omega,by first|omega|(dsimp only;omega),⟨y,hup,hyl,by repeat(first|exact ae|refine aa (by omega) ?_|refine bQ (by omega) ?_)⟩,by rw [hmap];exact .inr ⟨n8+1,by simp,rfl,by first|omega|(dsimp only;omega),by first|omega|(dsimp only;omega),by repeat(exact ae)⟩,q3.frame fun m h1 h2=>(by(repeat(first|refine aa (by omega) ?_|refine bQ (by omega) ?_));rfl),fun m hm=>by(repeat(first|refine aa (by omega) ?_|refine bQ (by omega) ?_));exact q4 m hm⟩ (by omega) (Gq (Gt rfl))
  ·obtain rfl:i=cnt:=by omega
   have htake:(own.drop h).take i=own.drop h:=Ew (by rw [EW];omega)
   rw [htake] at o2 o5
   rw [o2] at hpe
   dsimp only at hpe
   have hwo:=qm (nx:=n7) hp o5 (fun x hx=>by
    rcases List.mem_append.1 hx with hx|hx
    ·exact hpos x hx
    ·obtain⟨o,ho,rfl⟩:=Gc.1 hx
     exact(hown o (List.mem_of_mem_drop ho)).2) (by rw [EI,EU,EW];omega)
   have hwl:=ir hp (lf ++ (own.drop h).map (·.2))
   generalize bI p (lf ++ (own.drop h).map (·.2))=lw at hwo hwl hpe
   clear o5
   repeat first|refine cN rfl rfl rfl (F.ag _ rfl) (by assumption) (nc hp _ _) ?_|apply cT;rfl;kernel_rfl;exact hwo|refine er (aW dK) rfl rfl rfl ?_|apply cG hwl ac;rfl;(focus((repeat(exact ae));done))|apply ah;rfl
   refine gL (R:=fun H9 n9=>n9=n7+1∧H9.at' n7=some (pgO lw)∧H9.at' u=some (pgO up)∧PartI H9 nx b k fq ip p (.slu ro 0 own.length) sl e f∧ ∀ m,m<nx→H9.at' m=H.at' m) ⟨rfl,by repeat(exact ae),by(repeat(refine aa (by omega) ?_));exact o4,PartI.frame (H:=H7) ⟨b0,b1,b2,b3,b4,b5⟩ fun m h1 h2=>(by(repeat(refine aa (by omega) ?_));rfl),fun m hm=>by(repeat(refine aa (by omega) ?_));exact bo m hm⟩ ?_
   clear hwo o4 b0 b1 b2 b3 b4 b5 bo ih
   rintro H9 n9 ⟨rfl,e1,e2,⟨b0,b1,b2,b3,b4,b5⟩,bo⟩
   (apply pb;(focus(kernel_rfl));(focus(kernel_rfl)))
   refine rE ?_
   repeat first|refine ff rfl rfl rfl (F.ag _ rfl) e1 (bi hwl) ?_|refine vI (aW dK) rfl rfl rfl ?_|refine fU rfl rfl rfl (F.sz _ rfl) (by repeat(first|exact ae|refine aa (by omega) ?_)) (bi hwl) (by rw [bi ac];exact EE _) (iH _) (jC _ _ ac hwl) ?_|refine ba (aK (F.ag _ rfl) rfl b2 (aF rfl)) rfl rfl rfl ?_|refine cm rfl rfl rfl (F.sz _ rfl) (by repeat(first|assumption|exact ae|refine aa (by omega) ?_)) (by rfl) (by rfl) ?_|apply az;rfl|refine vI (aW (F.zl _ rfl)) rfl rfl rfl ?_
   refine au ?_
   refine⟨[⟨3,fun n=> .ptr n 0,z8 0⟩,⟨4,fun n=> .ptr n 0,pgO zeroP⟩],[5,6],by kernel_rfl,by kernel_rfl,List.cons_ne_nil _ _,rfl,
    ⟨⟨⟨_,rfl,rfl,fun H n _ _=>jW (fun _ h=>(by cases h)) (aW (F.zl _ rfl))⟩,fun _ _=>rfl,fun ρ=>pn (vs:= [.int .i64 0])⟩,⟨⟨_,rfl,rfl,fun H n _ _=>jW (fun _ h=>(by cases h)) (aW dK)⟩,fun _ _=>rfl,fun ρ=>pn⟩,trivial⟩,?_,?_⟩
   ·repeat first|exact Gu|apply fm_c;rfl|apply fm_p;rfl|refine A3 (fun H5 n5 g1 g2=> .inl (bn (F.ag _ rfl) rfl ((g1 _ (by omega)).trans e1) (bH hwl))) ⟨.inl (bn (F.ag _ rfl) rfl (by(repeat(refine aa (by omega) ?_));exact e1) (bH hwl)),.inl (bn (F.ag _ rfl) rfl (by(repeat(refine aa (by omega) ?_));exact e1) (bH hwl)),trivial⟩ ?_|refine A3 (fun H5 n5 g1 g2=> .inl (aK (F.ag _ rfl) rfl ((g1 _ (by omega)).trans b2) (aF rfl))) ⟨.inl (aK (F.ag _ rfl) rfl (by(repeat(refine aa (by omega) ?_));exact b2) (aF rfl)),.inl (aK (F.ag _ rfl) rfl (by(repeat(refine aa (by omega) ?_));exact b2) (aF rfl)),trivial⟩ ?_
   dsimp only
   obtain⟨tn,htn⟩: ∃ tn,(if bl e f=true then k else fq)=tn:=⟨_,rfl⟩
   obtain⟨xx,hxx⟩: ∃ xx,(if bl e f=true then lw else up)=xx:=⟨_,rfl⟩
   have htn28:tn<28:=by rw [← htn];split <;> omega
   have hxxl:xx.length=1024:=by
    rw [← hxx]
    split
    ·exact hwl
    ·exact o3
   have hpe2:nU root p bs k own lf e=if(dR xx [] e).2=true then some [(fq,up),(0,ip),(k,lw),(tn,(dR xx [] e).1)] else none:=by
    rw [hpe,←htn,←hxx]
    cases bl e f <;> rfl
   refine gL (R:=fun H9 n9=>n9=n7+1+1+1∧H9.at' n7=some (pgO lw)∧H9.at' u=some (pgO up)∧H9.at' (n7+1)=some (z8 ((4+k:Nat):Int))∧H9.at' (n7+1+1)=some (pgO lw)∧PartI H9 nx b k fq ip p (.slu ro 0 own.length) sl e f∧ ∀ m,m<nx→H9.at' m=H.at' m) ⟨rfl,by(repeat(refine aa (by omega) ?_));exact e1,by(repeat(refine aa (by omega) ?_));exact e2,by repeat(first|exact ae|refine aa (by omega) ?_),by repeat(exact ae),PartI.frame (H:=H9) ⟨b0,b1,b2,b3,b4,b5⟩ fun m h1 h2=>(by(repeat(refine aa (by omega) ?_));rfl),fun m hm=>by(repeat(refine aa (by omega) ?_));exact bo m hm⟩ ?_
   clear e1 e2 b0 b1 b2 b3 b4 b5 bo
   rintro HA nA ⟨rfl,e1,e2,e3,e4,⟨b0,b1,b2,b3,b4,b5⟩,bo⟩
   refine jG ?_
   refine jw (A:=Unit) (fun _=> [(5,.ptr nx 0),(6,.ptr (nx+1) 0),(8,.ptr (nx+1+1) 0),(9,.ptr (nx+1+1+1) 0),(11,.ptr (nx+1+1+1+1) 0),(13,.ptr (nx+1+1+1+1+1) 0),(18,.ptr u 0),(24,.ptr n7 0),(25,.ptr (n7+1) 0),(26,.ptr (n7+1+1) 0)])
    (fun _ HB nB=>nB=n7+1+1+1∧HB.at' n7=some (pgO lw)∧HB.at' u=some (pgO up)∧HB.at' (n7+1)=some (z8 ((4+tn:Nat):Int))∧HB.at' (n7+1+1)=some (pgO xx)∧PartI HB nx b k fq ip p (.slu ro 0 own.length) sl e f∧ ∀ m,m<nx→HB.at' m=H.at' m) ?_ ?_
   ·clear e1 e2 e3 e4 b0 b1 b2 b3 b4 b5 bo
    rintro _ HB nB ⟨rfl,e1,e2,e3,e4,⟨b0,b1,b2,b3,b4,b5⟩,bo⟩
    have hwi:=fun(H':ay) (n:Nat)=>AH (H:=H') (nx:=n) (S:= []) (lo:=0) (hi:=0) (s:=cF) e hxxl he (.inl ⟨rfl,rfl⟩) (fun x hx=>by simp at hx) (EF _)
    have hyl:=mA hxxl [] e
    generalize dR xx [] e=wy at hwi hyl hpe2
    obtain⟨wy,fits⟩:=wy
    dsimp only at hwi hyl hpe2
    repeat first|apply da hxxl;rfl;assumption|refine cN rfl rfl rfl (F.ag _ rfl) (by assumption) (aB 3 0 rfl rfl) ?_|apply cT;rfl;kernel_rfl;exact hwi _ _|apply cG hyl hxxl;rfl;assumption|apply ah;rfl|apply a6;rfl
    cases fits with
    | false=>
      rw [EP (by decide)] at hpe2
      repeat apply ah;rfl
      (apply b8 Tryz.func44 Tryz.results44;rfl)
      exact⟨by first|omega|(dsimp only;omega),.inl ⟨hpe2,rfl,fun m hm=>by(repeat(refine aa (by omega) ?_));exact bo m hm⟩⟩
    | true=>
      rw [EQ rfl] at hpe2
      have hnw:nx+1+1+1+1+1+1<n7:=by omega
      have hui:u<n7∧nx+1+1+1+1+1+1<u:=by omega
      repeat first|apply ah;rfl|refine er (aU (F.un _ rfl) (F.sz _ rfl) (aN rfl) (F.ze _ rfl) rfl rfl rfl rfl rfl) rfl rfl rfl ?_
      refine aZ rfl rfl rfl (by kernel_rfl) (Gi (Dz (a:=nx) (f:=nx+1+1+1+1) (u:=u) (rt:=nx+1) (lr:=nx+1+1) (lw:=n7) (t:=n7+1) (x:=n7+1+1) (r:=n7+1+1+1) (F:=fq) (k:=k) (T:=tn) (xu:=up) (xr:=ip) (xl:=lw) (xx:=wy) ⟨by(repeat(refine aa (by omega) ?_));exact b0,by(repeat(refine aa (by omega) ?_));exact b4,by(repeat(refine aa (by omega) ?_));exact e2,by(repeat(refine aa (by omega) ?_));exact b1,by(repeat(refine aa (by omega) ?_));exact b2,by(repeat(refine aa (by omega) ?_));exact e1,by(repeat(refine aa (by omega) ?_));exact e3,by repeat(first|exact ae|refine aa (by omega) ?_)⟩ (by repeat(exact ae)) (fun m hm=>by
       simp only [E4,List.not_mem_nil,or_false] at hm
       rcases hm with rfl|rfl|rfl|rfl|rfl|rfl|rfl|rfl <;> constructor <;> omega) (by constructor <;> omega) (hb.frame hund (fun m hm=>by(repeat(refine aa (by omega) ?_));exact bo m hm)) hm hF hk htn28 o3 hipl hwl hyl hl2 hc) ?_)
      rintro⟨_,HC,nC⟩ ⟨z1,rfl,z3,z4⟩
      dsimp only at z1 z3 z4 ⊢
      repeat apply ah;rfl
      (apply b8 Tryz.func44 Tryz.results44;rfl)
      exact⟨by first|omega|(dsimp only;omega),.inr ⟨_,hpe2,rfl,rfl,z3,fun m h1 h2 h3=>(z4 m (by omega) h2 (h3.same (by(repeat(refine aa (by omega) ?_));exact bo m h1))).trans (by(repeat(refine aa (by omega) ?_));exact bo m h1)⟩⟩
   ·intro join2
    have hls:=fun(H':ay) (n:Nat)=>AY e f (H:=H') (nx:=n)
    cases hl:bl e f with
    | true=>
      rw [hl] at hls
      rw [hl,EQ rfl] at htn hxx
      subst htn hxx
      repeat first|exact join2 _ _ _ () ⟨rfl,e1,e2,e3,e4,⟨b0,b1,b2,b3,b4,b5⟩,bo⟩ (Gq (Gt rfl))|refine cN rfl rfl rfl (F.ag _ rfl) (by assumption) (aB 3 0 rfl rfl) ?_|apply cT;rfl;kernel_rfl;exact hls _ _|apply a6;rfl
    | false=>
      rw [hl] at hls
      rw [hl,EP (by decide)] at htn hxx
      subst htn hxx
      repeat first|refine cN rfl rfl rfl (F.ag _ rfl) (by assumption) (aB 3 0 rfl rfl) ?_|apply cT;rfl;kernel_rfl;exact hls _ _|apply ah;rfl
      (apply bU;(focus(kernel_rfl));(focus(kernel_rfl)))
      repeat first|refine ff rfl rfl rfl (F.ag _ rfl) e2 (bi o3) ?_|refine fU rfl rfl rfl (F.sz _ rfl) (by(repeat(refine aa (by omega) ?_));exact e4) (bi o3) (by rw [bi hwl];exact EE _) (iH _) (jC _ _ hwl o3) ?_|apply kO;rfl;assumption;rfl|refine cm rfl rfl rfl (F.sz _ rfl) (by assumption) (by rfl) (by rfl) ?_
      refine au ⟨by kernel_rfl,?_,?_⟩;(focus(repeat(first|exact Gu|apply mn;rfl|refine js 0 rfl (by kernel_rfl) (by(repeat(refine⟨(by first|exact aK (F.ag _ rfl) rfl (by repeat(first|assumption|refine aa (by omega) ?_)) (aF rfl)|exact bn (F.ag _ rfl) rfl e2 (bH o3)|exact bn (F.ag _ rfl) rfl (by(repeat(refine aa (by omega) ?_));exact e2) (bH o3)),?_⟩));exact Gu) ?_)))
      repeat exact join2 _ _ _ () ⟨rfl,by(repeat(refine aa (by omega) ?_));exact e1,by(repeat(refine aa (by omega) ?_));exact e2,by repeat(first|exact ae|refine aa (by omega) ?_),by repeat(exact ae),PartI.frame (H:=HA) ⟨b0,b1,b2,b3,b4,b5⟩ fun m h1 h2=>(by(repeat(refine aa (by omega) ?_));rfl),fun m hm=>by(repeat(refine aa (by omega) ?_));exact bo m hm⟩ (Gq (Gt rfl))
 ·intro join
  have hin:=fun(H':ay) (n:Nat)=>xU (H:=H') (nx:=n) 3
  rcases hs with ⟨rfl,rfl⟩|⟨rl,s1,rfl,s2,s3,s4⟩
  ·(apply pb;(focus(kernel_rfl));(focus(kernel_rfl)))
   (apply pT;rfl;rfl;rfl;(focus(kernel_rfl));exact(hin _ _))
   refine sW 2 (Ep rfl) ?_
   repeat first|refine ba (aK (F.ag _ rfl) rfl b2 (aF (bC hp (.slu ro 0 own.length) cF 1))) rfl rfl rfl ?_|apply az;rfl
   refine au ?_
   (apply D1;rfl;rfl;exact(fun _ h=>by cases h);exact(pB (F.un _ rfl) (.inl ⟨_,F.un _ rfl⟩) (F.sz _ rfl) (by decide) rfl rfl ((SlOf.none (t:=3)).cells)))
   refine rE ?_
   repeat first|refine vI (aW dK) rfl rfl rfl ?_|refine fU rfl rfl rfl (F.sz _ rfl) (by repeat(exact ae)) (bi (cQ 3)) (by rw [bi ac];exact EE _) (iH _) (jC _ _ ac (cQ 3)) ?_|apply az;rfl
   refine au ?_
   refine⟨[⟨4,fun n=> .ptr n 0,pgO zeroP⟩],[5],by kernel_rfl,by kernel_rfl,List.cons_ne_nil _ _,rfl,
    ⟨⟨⟨_,rfl,rfl,fun H n _ _=>jW (fun _ h=>(by cases h)) (aW dK)⟩,fun _ _=>rfl,fun ρ=>pn⟩,trivial⟩,?_,?_⟩
   ·repeat first|exact Gu|apply fm_c;rfl|apply fm_p;rfl|refine A3 (fun H5 n5 g1 g2=> .inr ⟨Free.agg (byV (dh 3)),kL rfl (by kernel_rfl) (hin _ _)⟩) ⟨.inr ⟨Free.agg (byV (dh 3)),kL rfl (by kernel_rfl) (hin _ _)⟩,trivial⟩ ?_|refine A3 (fun H5 n5 g1 g2=> .inr ⟨Free.sc _,jW (fun _ h=>by cases h) (pB (F.un _ rfl) (.inl ⟨_,F.un _ rfl⟩) (F.sz _ rfl) (by decide) rfl rfl ((SlOf.none (t:=3)).cells))⟩) ⟨.inr ⟨Free.sc _,jW (fun _ h=>by cases h) (pB (F.un _ rfl) (.inl ⟨_,F.un _ rfl⟩) (F.sz _ rfl) (by decide) rfl rfl ((SlOf.none (t:=3)).cells))⟩,trivial⟩ ?_|refine A3 (fun H5 n5 g1 g2=> .inl (aK (F.ag _ rfl) rfl ((g1 _ (by omega)).trans b2) (aF (bC hp (.slu ro 0 own.length) cF 1)))) ⟨.inl (aK (F.ag _ rfl) rfl (by(repeat(refine aa (by omega) ?_));exact b2) (aF (bC hp (.slu ro 0 own.length) cF 1))),trivial⟩ ?_
   dsimp only
   exact join _ _ _ (cF,n2) ⟨EE _,by first|omega|(dsimp only;omega),by repeat(exact ae),.inl ⟨rfl,rfl⟩,PartI.frame (H:=H2) ⟨b0,b1,b2,b3,b4,b5⟩ fun m h1 h2=>(by(repeat(refine aa (by omega) ?_));rfl),fun m hm=>by(repeat(refine aa (by omega) ?_));exact bo m hm⟩ (Gq (Gt rfl))
  ·have hll:0<lf.length:=List.length_pos_iff.2 s1
   have hrl:rl<nx:=hund _ _ s4
   have hfl4:(lf.flatMap fun n=> [Value.int .i64 n]).length=lf.length:=by rw [ni,EU]
   obtain⟨vs,hvs⟩: ∃ vs:List Value,(lf.flatMap fun n=> [Value.int .i64 n])=vs:=⟨_,rfl⟩
   have s5:H.at' rl=some (ft false lf.length 1 3 (vs.map .sc)):=s4.trans (by rw [← hvs];exact congrArg some (bZ _ _ _ _ _).symm)
   rw [hvs] at hfl4
   have hone:cr (vs.map SV.sc)=true:=by rw [← hvs];exact tV lf
   have hds:ft false lf.length 1 3 (vs.map .sc)=dat false lf.length 1 3 vs:=bZ _ _ _ _ _
   have hrn: ∀ ρ,(ft false lf.length 1 3 (vs.map .sc)).ren ρ=ft false lf.length 1 3 (vs.map .sc):=fun ρ=>by rw [hds,dq]
   have hsl: ∀ H5:ay,H5.at' rl=H.at' rl→aL H5 1 (.slu rl 0 lf.length)=some (lf.length,vs.map .sc):=fun H5 h5=>(SlOf.row (h5.trans s5) (by rw [EU,hfl4,Nat.mul_one])).cells
   have s6:=bo rl hrl
   (apply pb;(focus(kernel_rfl));(focus(kernel_rfl)))
   (apply pT;rfl;rfl;rfl;(focus(kernel_rfl));exact(hin _ _))
   refine rE ?_
   repeat first|refine ba (aK (F.ag _ rfl) rfl b2 (aF (bC hp (.slu ro 0 own.length) (.slu rl 0 lf.length) 1))) rfl rfl rfl ?_|refine oH rfl rfl (fun _ h=>by cases h) (jc (b:=8) (F.un _ rfl) (.inl ⟨_,F.un _ rfl⟩) (F.sz _ rfl) (by decide) (by kernel_rfl) (by kernel_rfl) rfl rfl (hsl _ (by exact s6)) (by exact hone) (by omega) (by omega) (by omega)) ?_|refine vI (aW dK) rfl rfl rfl ?_|refine fU rfl rfl rfl (F.sz _ rfl) (by repeat(exact ae)) (bi (cQ 3)) (by rw [bi ac];exact EE _) (iH _) (jC _ _ ac (cQ 3)) ?_|apply az;rfl
   refine au ?_
   refine⟨[⟨3,fun n=> .slu n 0 lf.length,ft false lf.length 1 3 (vs.map .sc)⟩,⟨4,fun n=> .ptr n 0,pgO zeroP⟩],[5],by kernel_rfl,by kernel_rfl,List.cons_ne_nil _ _,rfl,
    ⟨⟨⟨_,rfl,rfl,fun H5 n5 _ h5=>jW (fun _ h=>(by cases h)) (jc (b:=8) (F.un _ rfl) (.inl ⟨_,F.un _ rfl⟩) (F.sz _ rfl) (by decide) (by kernel_rfl) (by kernel_rfl) rfl rfl (hsl _ ((h5 rl (by omega)).trans s6)) (by exact hone) (by omega) (by omega) (by omega))⟩,fun _ _=>rfl,hrn⟩,⟨⟨_,rfl,rfl,fun H n _ _=>jW (fun _ h=>(by cases h)) (aW dK)⟩,fun _ _=>rfl,fun ρ=>pn⟩,trivial⟩,?_,?_⟩
   ·repeat first|exact Gu|apply fm_c;rfl|apply fm_p;rfl|refine A3 (fun H5 n5 g1 g2=> .inr ⟨Free.agg (byV (dh 3)),kL rfl (by kernel_rfl) (hin _ _)⟩) ⟨.inr ⟨Free.agg (byV (dh 3)),kL rfl (by kernel_rfl) (hin _ _)⟩,trivial⟩ ?_|refine A3 (fun H5 n5 g1 g2=> .inl (aK (F.ag _ rfl) rfl ((g1 _ (by omega)).trans b2) (aF (bC hp (.slu ro 0 own.length) (.slu rl 0 lf.length) 1)))) ⟨.inl (aK (F.ag _ rfl) rfl (by(repeat(refine aa (by omega) ?_));exact b2) (aF (bC hp (.slu ro 0 own.length) (.slu rl 0 lf.length) 1))),trivial⟩ ?_
   dsimp only
   exact join _ _ _ (.slu n2 0 lf.length,n2+1) ⟨by omega,by first|omega|(dsimp only;omega),by repeat(exact ae),.inr ⟨n2,s1,rfl,EE _,by first|omega|(dsimp only;omega),Eq.trans (b:=some (ft false lf.length 1 3 (vs.map .sc))) (by repeat(first|exact ae|refine aa (by omega) ?_)) (by unfold xO;rw [hvs];exact congrArg some (bZ _ _ _ _ _))⟩,PartI.frame (H:=H2) ⟨b0,b1,b2,b3,b4,b5⟩ fun m h1 h2=>(by(repeat(refine aa (by omega) ?_));rfl),fun m hm=>by(repeat(refine aa (by omega) ?_));exact bo m hm⟩ (Gq (Gt rfl))
theorem vB{left:List Int}{z:Int}(h:fM own e=some z):uc root p bs n own left e=(14,[]):=by
 unfold uc;rw [h];rfl
theorem Ab{left:List Int}(h:fM own e=none)(hw:(dR p left e).2=true):uc root p bs n own left e=(0,[(n,(dR p left e).1)]):=by
 unfold uc;rw [h,EP (by decide),EQ hw]
theorem xR{left:List Int}(h:fM own e=none)(hw:(dR p left e).2=false):uc root p bs n own left e=(match nU root p bs n own left e with
 | none=>(5,[])
 | some ws=>(0,ws)):=by
 unfold uc;rw [h,EP (by decide),EP (by rw [hw];decide)];rfl
abbrev StepQ(H:ay)(nx b c no:Nat)(mem:List UInt8)(ws:List (Nat×List UInt8))(left:Int):Pst:=fun q=>q.1 = .sc (.int .i64 ((gE left ws.length no:Nat):Int))∧PgAt q.2.1 b (dU mem (ws.take (fC left ws.length))) (left-(fC left ws.length:Nat)) (c+fC left ws.length)∧nx≤q.2.2∧Kept H q.2.1 b nx∧(ws= []→ ∀ m,m<nx→q.2.1.at' m=H.at' m)
theorem PgAt.box{H':ay}{nx m:Nat}(h:PgAt H b mem left c)(hf: ∀ m',m'≠m→H'.at' m'=H.at' m')(hn:m≠b)(hp:NoPut H m):PgAt H' b mem left c:=by
 obtain⟨s,h1,h2⟩:=h
 exact⟨s,(hf b (Ne.symm hn)).trans h1,h2.frame fun r ws hr=>hf r fun e=>hp _ _ (e ▸ hr)⟩
theorem cut0(left:Int):fC left 0=0:=by unfold fC;split <;> omega
theorem cutE0(left:Int)(no:Nat):gE left 0 no=no:=by unfold gE;rw [EP (by omega)]
theorem StepQ.none{q:SV×ay×Nat}(h1:q.1 = .sc (.int .i64 (no:Int)))(h2:PgAt q.2.1 b mem left c)(h3:nx≤q.2.2)(h4: ∀ m,m<nx→q.2.1.at' m=H.at' m):StepQ H nx b c no mem [] left q:=by
 refine⟨?_,?_,h3,Kept.old h4,fun _=>h4⟩
 ·show q.1 = .sc (.int .i64 ((gE left 0 no:Nat):Int))
  rw [cutE0];exact h1
 ·show PgAt q.2.1 b (dU mem ([].take (fC left 0))) (left-(fC left 0:Nat)) (c+fC left 0)
  rw [cut0]
  simpa [dU] using h2
theorem xP{ws:List (Nat×List UInt8)}(hb:PgAt H b mem left c)(hm:mem.length=28672)(he:gz e=true)(hh:Home mem e bs k own lf)(hx:uc (aR mem 0) (aR mem k) bs k own lf e=(no,ws))(hl2 : -100000000≤left∧left≤9223372036854775807)(hc:c≤999990):Fnc Tryz.prog 21 [og b,gC e] H nx (StepQ H nx b c no mem ws left):=by
 obtain⟨hi,hk1,hk2,hk3⟩:=hh.at
 obtain⟨h0,h28,hbm⟩:=iB hh.root
 have hp0:=dw hm (n:=0) (by decide)
 have hpk:=dw hm (n:=k) hk2
 have hlo:=kC hh.leaf
 have hsk:=gZ hpk hh.leaf
 obtain⟨hmay,hpos⟩:=qX hh.leaf
 refine Gj Tryz.func21 rfl rfl ?_
 refine bh fun hund=>?_
 have hlb:b<nx:=(let ⟨_,h,_⟩:=hb;hund _ _ h)
 have hmf:=fun(H:ay) (nx:Nat)=>sN e (H:=H) (nx:=nx)
 rw [he] at hmf
 repeat first|apply cT;rfl;kernel_rfl;exact hmf _ _|apply ah;rfl|apply aM;rfl;(focus((repeat(first|exact ae|refine aa (by omega) ?_));done));rfl|apply gO;rfl;rfl;rfl;(focus(kernel_rfl))|refine bO (e6 rfl rfl Tryz.underlying80 rfl) rfl rfl rfl ?_
 refine aZ rfl rfl rfl (by kernel_rfl) (Gi (lp (hb.frame hund (fun m hm=>by(repeat(refine aa (by omega) ?_));rfl)) hm) ?_)
 rintro⟨v,H1,n1⟩ ⟨q1,q2,(⟨hn,rfl⟩|⟨bs',r,hbs,rfl,r1,r2,r3⟩)⟩
 ·rw [hh.root] at hn;cases hn
 obtain rfl:bs=bs':=by rw [hh.root] at hbs;cases hbs;rfl
 dsimp only at q1 q2 r1 r2 r3 ⊢
 have b0:H1.at' nx=some (an 25 ((fX e).map .sc)):=(q2 _ (by omega)).trans (by repeat(first|exact ae|refine aa (by omega) ?_))
 have b1:H1.at' (nx+1)=some (l8 0):=(q2 _ (by omega)).trans (by repeat(exact ae))
 have bo: ∀ m,m<nx→H1.at' m=H.at' m:=fun m hm=>(q2 m (by omega)).trans (by(repeat(refine aa (by omega) ?_));rfl)
 clear q2
 repeat first|refine er (aW dK) rfl rfl rfl ?_|apply cG hp0 ac;rfl;(focus((repeat(exact ae));done))|apply jK;rfl;rfl|apply ah;rfl|apply aM;rfl;(focus((repeat(first|assumption|exact ae|refine aa (by omega) ?_));done));rfl
 refine aZ rfl rfl rfl (by kernel_rfl) (Gi (pK e (by(repeat(refine aa (by omega) ?_));exact r3) h0 (by omega)) ?_)
 rintro _ rfl
 dsimp only
 refine aZ rfl rfl rfl (by kernel_rfl) (Gi (lq (k:=k) (e0:=bs[bG bs e].2) (hb.frame hund (fun m hm=>by(repeat(refine aa (by omega) ?_));exact bo m hm)) hm (by(repeat(refine aa (by omega) ?_));exact r3) hi (Prod.ext hk3 rfl) hk2 (by omega)) ?_)
 rintro⟨v,H8,n8⟩ ⟨p1,p2,(⟨hn,rfl⟩|⟨own',left',so,sl,hown,rfl,w1,w2⟩)⟩
 ·rw [hh.leaf] at hn;cases hn
 obtain⟨rfl,rfl⟩:own=own'∧lf=left':=by rw [hh.leaf] at hown;cases hown;exact⟨rfl,rfl⟩
 dsimp only at p1 p2 w1 w2 ⊢
 have d0:H8.at' nx=some (an 25 ((fX e).map .sc)):=(p2 nx (by omega)).trans (by(repeat(refine aa (by omega) ?_));exact b0)
 have d1:H8.at' (nx+1)=some (l8 0):=(p2 (nx+1) (by omega)).trans (by repeat(exact ae))
 have d2:H8.at' n1=some (pgO (aR mem 0)):=(p2 n1 (by omega)).trans (by repeat(first|exact ae|refine aa (by omega) ?_))
 have d3:H8.at' r=some (nZ bs):=(p2 r (by omega)).trans (by(repeat(refine aa (by omega) ?_));exact r3)
 have do': ∀ m,m<nx→H8.at' m=H.at' m:=fun m hm=>(p2 m (by omega)).trans (by(repeat(refine aa (by omega) ?_));exact bo m hm)
 clear p2 b0 b1 bo r3
 have hso:=fun(H:ay) (nx:Nat) (h:OwnAt H so own (n1+1) n8)=>tB (nx:=nx) (N:=((4+k:Nat):Int)) (sl:=sl) hpk h (by omega) e
 repeat first|refine er (aW oa) rfl rfl rfl ?_|refine di rfl rfl rfl (F.sz _ rfl) (by repeat(first|assumption|exact ae|refine aa (by omega) ?_)) (aO hpk _ _) (by rw [aO ac];exact EE _) (dF _ _ w1.one w2.one) (dD ac hpk) ?_|apply jK;rfl;rfl|refine j6 rfl rfl rfl (F.ag _ rfl) (by repeat(first|assumption|exact ae|refine aa (by omega) ?_)) (aO hpk _ _) ?_|apply ah;rfl|apply aM;rfl;(focus((repeat(first|assumption|exact ae|refine aa (by omega) ?_));done));rfl
 refine aZ rfl rfl rfl (by kernel_rfl) (Gi (hso _ _ (w1.frame (EE _) fun m h1 h2 _=>(by(repeat(refine aa (by omega) ?_));rfl))) ?_)
 rintro _ rfl
 clear hso
 dsimp only
 cases hd:fM own e with
 | some z=>
   rw [vB hd] at hx
   cases hx
   repeat first|apply ah;rfl|apply aM;rfl;(focus((repeat(exact ae));done));rfl
   refine eR Tryz.func21 (congrArg Array.toList Tryz.results21) (by kernel_rfl) (Gi oA ?_)
   rintro _ rfl
   refine⟨_,(by(repeat(first|exact Gk|apply Gl rfl (Gp (F.ag _ rfl) (by repeat(exact ae)) (aF rfl))))),?_⟩
   exact StepQ.none rfl (hb.frame hund fun m hm=>by(repeat(refine aa (by omega) ?_));exact do' m hm) (by(dsimp only;omega)) fun m hm=>by(repeat(refine aa (by omega) ?_));exact do' m hm
 | none=>
   have hxl:=mA hpk lf e
   have hwi:=fun(H':ay) (n:Nat) (h:IntsAt H' sl lf (n1+1) n8)=>AH (nx:=n) e hpk he h hpos (by omega)
   repeat first|refine cN rfl rfl rfl (F.ag _ rfl) (by repeat(first|assumption|exact ae|refine aa (by omega) ?_)) (nc hpk so sl) ?_|refine a7 rfl rfl rfl (F.ag _ rfl) (by repeat(first|assumption|exact ae|refine aa (by omega) ?_)) (bC hpk so sl 1) ?_|apply ah;rfl|apply aM;rfl;(focus((repeat(first|assumption|refine aa (by omega) ?_));done));rfl
   refine aZ rfl rfl rfl (by kernel_rfl) (Gi (hwi _ _ (w2.frame (EE _) fun m h1 h2 _=>(by(repeat(refine aa (by omega) ?_));rfl))) ?_)
   rintro _ rfl
   clear hwi
   dsimp only
   cases hw:(dR (aR mem k) lf e).2 with
   | true=>
     rw [Ab hd hw] at hx
     cases hx
     generalize (dR (aR mem k) lf e).1=x at hxl ⊢
     repeat first|refine er (aW dK) rfl rfl rfl ?_|apply cG hxl ac;rfl;(focus((repeat(exact ae));done))|apply da hxl;rfl;(focus((repeat(exact ae));done))|refine a7 rfl rfl rfl (F.ag _ rfl) (by repeat(first|assumption|exact ae|refine aa (by omega) ?_)) rfl ?_|apply ah;rfl
     refine gL (R:=fun Hb nb=>nx+1<nb∧Hb.at' (nx+1)=some (l8 0)∧ ∀ m,m<nx→Hb.at' m=H.at' m) ⟨by omega,by repeat(first|exact ae|refine aa (by omega) ?_),fun m hm=>by(repeat(refine aa (by omega) ?_));exact do' m hm⟩ ?_
     clear d0 d1 d2 d3 do' w1 w2
     rintro Hb nb ⟨g0,f1,fo⟩
     refine fu 153 rfl rfl rfl rfl (by kernel_rfl) (Gi (uW (n:=k) (hb.frame hund fo) hm hk2 hxl (by omega) (by omega)) ?_)
     rintro⟨_,Ha,na⟩ ⟨z2,z3,z4⟩
     dsimp only at z2 z3 z4 ⊢
     have y1:Ha.at' (nx+1)=some (l8 0):=(z3 (nx+1) (by omega) (by omega) (NoPut.box f1)).trans f1
     have yo:Kept H Ha b nx:=fun m h1 h2 h3=>(z3 m (by omega) h2 (h3.same (fo m h1))).trans (fo m h1)
     clear z3 f1 fo
     rcases z4 with ⟨z5,rfl,z6⟩|⟨rfl,rfl,z6⟩
     ·have hc0: ¬ (0≤left∧left.toNat<1):=by omega
      repeat first|apply ah;rfl|apply aM;rfl;assumption;rfl
      refine eR Tryz.func21 (congrArg Array.toList Tryz.results21) (by kernel_rfl) (Gi oA ?_)
      rintro _ rfl
      refine⟨_,(by(repeat(first|exact Gk|apply Gl rfl (Gp (F.ag _ rfl) (by repeat(exact ae)) (aF rfl))))),?_⟩
      refine⟨?_,?_,by first|omega|(dsimp only;omega),fun m h1 h2 h3=>by(repeat(refine aa (by omega) ?_));exact yo m h1 h2 h3,fun h=>by cases h⟩
      ·show _=SV.sc (.int .i64 ((gE left 1 0:Nat):Int))
       rw [gE,EP hc0];rfl
      ·show PgAt _ b (dU mem ([(k,x)].take (fC left 1))) (left-(fC left 1:Nat)) (c+fC left 1)
       rw [fC,EP hc0]
       exact z6.box (m:=nx+1) (nx:=0) (fun m' h=>ab _ _ h) (by omega) (NoPut.box y1)
     ·have hc0:(0:Int)≤0∧(0:Int).toNat<1:=⟨Int.le_refl _,by decide⟩
      repeat first|apply ah;rfl|apply aM;rfl;assumption;rfl
      refine eR Tryz.func21 (congrArg Array.toList Tryz.results21) (by kernel_rfl) (Gi oA ?_)
      rintro _ rfl
      refine⟨_,(by(repeat(first|exact Gk|apply Gl rfl (Gp (F.ag _ rfl) (by repeat(exact ae)) (aF rfl))))),?_⟩
      refine⟨?_,?_,by first|omega|(dsimp only;omega),fun m h1 h2 h3=>by(repeat(refine aa (by omega) ?_));exact yo m h1 h2 h3,fun h=>by cases h⟩
      ·show _=SV.sc (.int .i64 ((gE 0 1 0:Nat):Int))
       rw [gE,EQ hc0];rfl
      ·show PgAt _ b (dU mem ([(k,x)].take (fC 0 1))) (0-(fC 0 1:Nat)) (c+fC 0 1)
       rw [fC,EQ hc0]
       exact z6.box (m:=nx+1) (nx:=0) (fun m' h=>ab _ _ h) (by omega) (NoPut.box y1)
   | false=>
     rw [xR hd hw] at hx
     have hxl:=mA hpk lf e
     generalize (dR (aR mem k) lf e).1=x at hxl ⊢
     repeat first|refine er (aW dK) rfl rfl rfl ?_|apply cG hxl ac;rfl;(focus((repeat(exact ae));done))|apply da hp0;rfl;(focus((repeat(first|assumption|refine aa (by omega) ?_));done))|refine j6 rfl rfl rfl (F.ag _ rfl) (by repeat(first|assumption|exact ae|refine aa (by omega) ?_)) (aO hpk _ _) ?_|apply ah;rfl|apply aM;rfl;(focus((repeat(first|assumption|refine aa (by omega) ?_));done));rfl
     refine gL (R:=fun Hb nb=>n8≤nb∧nx+1<nb∧Hb.at' (nx+1)=some (l8 0)∧Hb.at' r=some (nZ bs)∧OwnAt Hb so own (n1+1) n8∧IntsAt Hb sl lf (n1+1) n8∧ ∀ m,m<nx→Hb.at' m=H.at' m) ⟨by omega,by omega,by repeat(first|exact ae|refine aa (by omega) ?_),by(repeat(refine aa (by omega) ?_));exact d3,w1.frame (EE _) fun m h1 h2 _=>(by(repeat(refine aa (by omega) ?_));rfl),w2.frame (EE _) fun m h1 h2 _=>(by(repeat(refine aa (by omega) ?_));rfl),fun m hm=>by(repeat(refine aa (by omega) ?_));exact do' m hm⟩ ?_
     clear d0 d1 d2 d3 do' w1 w2
     rintro Hb nb ⟨g00,g0,f1,fr,fw1,fw2,fo⟩
     refine aZ rfl rfl rfl (by kernel_rfl) (Gi (DC e (hb.frame hund fo) hm hp0 hpk hk2 fr h28 hbm fw1 fw2 hmay hpos he (by omega) hl2 hc) ?_)
     rintro⟨_,Ha,na⟩ ⟨z1,(⟨z2,rfl,z3⟩|⟨ws',z2,z3,rfl,z4,z5⟩)⟩
     ·dsimp only at z1 z3 ⊢
      rw [z2] at hx
      cases hx
      have y1:Ha.at' (nx+1)=some (l8 0):=(z3 (nx+1) (by omega)).trans f1
      have yo: ∀ m,m<nx→Ha.at' m=H.at' m:=fun m h=>(z3 m (by omega)).trans (fo m h)
      clear z3
      repeat first|apply ah;rfl|apply aM;rfl;assumption;rfl
      refine eR Tryz.func21 (congrArg Array.toList Tryz.results21) (by kernel_rfl) (Gi oA ?_)
      rintro _ rfl
      refine⟨_,(by(repeat(first|exact Gk|apply Gl rfl (Gp (F.ag _ rfl) (by repeat(exact ae)) (aF rfl))))),?_⟩
      exact StepQ.none rfl (hb.frame hund fun m hm=>by(repeat(refine aa (by omega) ?_));exact yo m hm) (by(dsimp only;omega)) fun m hm=>by(repeat(refine aa (by omega) ?_));exact yo m hm
     ·dsimp only at z1 z4 z5 ⊢
      rw [z2] at hx
      cases hx
      have y1:Ha.at' (nx+1)=some (l8 0):=(z5 (nx+1) (by omega) (by omega) (NoPut.box f1)).trans f1
      have yo:Kept H Ha b nx:=fun m h1 h2 h3=>(z5 m (by omega) h2 (h3.same (fo m h1))).trans (fo m h1)
      clear z5
      repeat first|apply ah;rfl|apply aM;rfl;assumption;rfl
      refine eR Tryz.func21 (congrArg Array.toList Tryz.results21) (by kernel_rfl) (Gi oA ?_)
      rintro _ rfl
      refine⟨_,(by(repeat(first|exact Gk|apply Gl rfl (Gp (F.ag _ rfl) (by repeat(exact ae)) (aF rfl))))),?_⟩
      refine⟨?_,?_,by first|omega|(dsimp only;omega),fun m h1 h2 h3=>by(repeat(refine aa (by omega) ?_));exact yo m h1 h2 h3,fun h=>by rw [h] at z3;cases z3⟩
      ·show _=SV.sc (.int .i64 ((gE left ws.length 0:Nat):Int))
       rw [z3]
       rfl
      ·show PgAt _ b (dU mem (ws.take (fC left ws.length))) (left-(fC left ws.length:Nat)) (c+fC left ws.length)
       rw [z3]
       exact z4.box (m:=nx+1) (nx:=0) (fun m' h=>ab _ _ h) (by omega) (NoPut.box y1)
theorem D5{ws:List (Nat×List UInt8)}(hb:PgAt H b mem left c)(hm:mem.length=28672)(he:gz e=true)(hh:Home mem e bs k own lf)(hx:Aj (aR mem k) k own e=(no,ws))(hitm: ∀ z,fM own e=some z→ea (aR mem k) z.toNat=(gg (aR mem k) z.toNat,0))(hl2 : -100000000≤left∧left≤9223372036854775807)(hc:c≤999990):Fnc Tryz.prog 20 [og b,gC e] H nx (StepQ H nx b c no mem ws left):=by
 obtain⟨hi,hk1,hk2,hk3⟩:=hh.at
 obtain⟨h0,h28,hbm⟩:=iB hh.root
 have hp0:=dw hm (n:=0) (by decide)
 have hpk:=dw hm (n:=k) hk2
 have hlo:=kC hh.leaf
 have hsk:=gZ hpk hh.leaf
 obtain⟨hmay,hpos⟩:=qX hh.leaf
 refine Gj Tryz.func20 rfl rfl ?_
 refine bh fun hund=>?_
 have hlb:b<nx:=(let ⟨_,h,_⟩:=hb;hund _ _ h)
 have hmf:=fun(H:ay) (nx:Nat)=>sN e (H:=H) (nx:=nx)
 rw [he] at hmf
 repeat first|apply cT;rfl;kernel_rfl;exact hmf _ _|apply ah;rfl|apply aM;rfl;(focus((repeat(first|exact ae|refine aa (by omega) ?_));done));rfl|apply gO;rfl;rfl;rfl;(focus(kernel_rfl))|refine bO (e6 rfl rfl Tryz.underlying80 rfl) rfl rfl rfl ?_
 refine aZ rfl rfl rfl (by kernel_rfl) (Gi (lp (hb.frame hund (fun m hm=>by(repeat(refine aa (by omega) ?_));rfl)) hm) ?_)
 rintro⟨v,H1,n1⟩ ⟨q1,q2,(⟨hn,rfl⟩|⟨bs',r,hbs,rfl,r1,r2,r3⟩)⟩
 ·rw [hh.root] at hn;cases hn
 obtain rfl:bs=bs':=by rw [hh.root] at hbs;cases hbs;rfl
 dsimp only at q1 q2 r1 r2 r3 ⊢
 have b0:H1.at' nx=some (an 25 ((fX e).map .sc)):=(q2 _ (by omega)).trans (by repeat(first|exact ae|refine aa (by omega) ?_))
 have b1:H1.at' (nx+1)=some (l8 0):=(q2 _ (by omega)).trans (by repeat(exact ae))
 have bo: ∀ m,m<nx→H1.at' m=H.at' m:=fun m hm=>(q2 m (by omega)).trans (by(repeat(refine aa (by omega) ?_));rfl)
 clear q2
 repeat first|refine er (aW dK) rfl rfl rfl ?_|apply cG hp0 ac;rfl;(focus((repeat(exact ae));done))|apply jK;rfl;rfl|apply ah;rfl|apply aM;rfl;(focus((repeat(first|assumption|exact ae|refine aa (by omega) ?_));done));rfl
 refine aZ rfl rfl rfl (by kernel_rfl) (Gi (pK e (by(repeat(refine aa (by omega) ?_));exact r3) h0 (by omega)) ?_)
 rintro _ rfl
 dsimp only
 refine aZ rfl rfl rfl (by kernel_rfl) (Gi (lq (k:=k) (e0:=bs[bG bs e].2) (hb.frame hund (fun m hm=>by(repeat(refine aa (by omega) ?_));exact bo m hm)) hm (by(repeat(refine aa (by omega) ?_));exact r3) hi (Prod.ext hk3 rfl) hk2 (by omega)) ?_)
 rintro⟨v,H8,n8⟩ ⟨p1,p2,(⟨hn,rfl⟩|⟨own',left',so,sl,hown,rfl,w1,w2⟩)⟩
 ·rw [hh.leaf] at hn;cases hn
 obtain⟨rfl,rfl⟩:own=own'∧lf=left':=by rw [hh.leaf] at hown;cases hown;exact⟨rfl,rfl⟩
 dsimp only at p1 p2 w1 w2 ⊢
 have d0:H8.at' nx=some (an 25 ((fX e).map .sc)):=(p2 nx (by omega)).trans (by(repeat(refine aa (by omega) ?_));exact b0)
 have d1:H8.at' (nx+1)=some (l8 0):=(p2 (nx+1) (by omega)).trans (by repeat(exact ae))
 have d2:H8.at' n1=some (pgO (aR mem 0)):=(p2 n1 (by omega)).trans (by repeat(first|exact ae|refine aa (by omega) ?_))
 have d3:H8.at' r=some (nZ bs):=(p2 r (by omega)).trans (by(repeat(refine aa (by omega) ?_));exact r3)
 have do': ∀ m,m<nx→H8.at' m=H.at' m:=fun m hm=>(p2 m (by omega)).trans (by(repeat(refine aa (by omega) ?_));exact bo m hm)
 clear p2 b0 b1 bo r3
 have hso:=fun(H:ay) (nx:Nat) (h:OwnAt H so own (n1+1) n8)=>tB (nx:=nx) (N:=((4+k:Nat):Int)) (sl:=sl) hpk h (by omega) e
 repeat first|refine er (aW oa) rfl rfl rfl ?_|refine di rfl rfl rfl (F.sz _ rfl) (by repeat(first|assumption|exact ae|refine aa (by omega) ?_)) (aO hpk _ _) (by rw [aO ac];exact EE _) (dF _ _ w1.one w2.one) (dD ac hpk) ?_|apply jK;rfl;rfl|refine j6 rfl rfl rfl (F.ag _ rfl) (by repeat(first|assumption|exact ae|refine aa (by omega) ?_)) (aO hpk _ _) ?_|apply ah;rfl|apply aM;rfl;(focus((repeat(first|assumption|exact ae|refine aa (by omega) ?_));done));rfl
 refine aZ rfl rfl rfl (by kernel_rfl) (Gi (hso _ _ (w1.frame (EE _) fun m h1 h2 _=>(by(repeat(refine aa (by omega) ?_));rfl))) ?_)
 rintro _ rfl
 clear hso
 dsimp only
 cases hd:fM own e with
 | none=>
   have hx2:Aj (aR mem k) k own e=(6,[]):=by unfold Aj;rw [hd]
   rw [hx2] at hx
   cases hx
   repeat first|apply ah;rfl|apply aM;rfl;(focus((repeat(exact ae));done));rfl
   refine eR Tryz.func20 (congrArg Array.toList Tryz.results20) (by kernel_rfl) (Gi uw ?_)
   rintro _ rfl
   refine⟨_,(by(repeat(first|exact Gk|apply Gl rfl (Gp (F.ag _ rfl) (by repeat(exact ae)) (aF rfl))))),?_⟩
   exact StepQ.none rfl (hb.frame hund fun m hm=>by(repeat(refine aa (by omega) ?_));exact do' m hm) (by(dsimp only;omega)) fun m hm=>by(repeat(refine aa (by omega) ?_));exact do' m hm
 | some z=>
   have hx2:Aj (aR mem k) k own e=(0,[(k,gg (aR mem k) z.toNat)]):=by unfold Aj;rw [hd]
   rw [hx2] at hx
   cases hx
   have hz:=Int.toNat_of_nonneg (hmay _ (iW hd)).2
   have hdd:=hitm z hd
   have hxl:(gg (aR mem k) z.toNat).length=1024:=by have:=oG (n:=z.toNat) hpk;rwa [hdd] at this
   have hdr:=fun(H:ay) (nx:Nat)=>A5 (H:=H) (nx:=nx) (n:=z.toNat) hpk
   rw [hdd] at hdr
   simp only [hz] at hdr
   generalize gg (aR mem k) z.toNat=x at hxl hdr ⊢
   repeat first|apply cT;rfl;kernel_rfl;exact hdr _ _|refine cN rfl rfl rfl (F.ag _ rfl) (by repeat(first|exact ae|refine aa (by omega) ?_)) (nc hpk so sl) ?_|refine er (aW dK) rfl rfl rfl ?_|apply cG hxl ac;rfl;(focus((repeat(exact ae));done))|apply da hxl;rfl;(focus((repeat(first|exact ae|refine aa (by omega) ?_));done))|apply jK;rfl;rfl|refine a7 rfl rfl rfl (F.ag _ rfl) (by repeat(first|assumption|exact ae|refine aa (by omega) ?_)) rfl ?_|apply ah;rfl|apply aM;rfl;(focus((repeat(first|exact ae|refine aa (by omega) ?_));done));rfl
   refine gL (R:=fun Hb nb=>nx+1<nb∧Hb.at' (nx+1)=some (l8 0)∧ ∀ m,m<nx→Hb.at' m=H.at' m) ⟨by omega,by repeat(exact ae),fun m hm=>by(repeat(refine aa (by omega) ?_));exact do' m hm⟩ ?_
   clear d0 d1 d2 d3 do' w1 w2
   rintro Hb nb ⟨g0,f1,fo⟩
   refine fu 153 rfl rfl rfl rfl (by kernel_rfl) (Gi (uW (n:=k) (hb.frame hund fo) hm hk2 hxl (by omega) (by omega)) ?_)
   rintro⟨_,Ha,na⟩ ⟨z2,z3,z4⟩
   dsimp only at z2 z3 z4 ⊢
   have y1:Ha.at' (nx+1)=some (l8 0):=(z3 (nx+1) (by omega) (by omega) (NoPut.box f1)).trans f1
   have yo:Kept H Ha b nx:=fun m h1 h2 h3=>(z3 m (by omega) h2 (h3.same (fo m h1))).trans (fo m h1)
   clear z3 f1 fo
   rcases z4 with ⟨z5,rfl,z6⟩|⟨rfl,rfl,z6⟩
   ·have hc0: ¬ (0≤left∧left.toNat<1):=by omega
    repeat first|apply ah;rfl|apply aM;rfl;assumption;rfl
    refine eR Tryz.func20 (congrArg Array.toList Tryz.results20) (by kernel_rfl) (Gi uw ?_)
    rintro _ rfl
    refine⟨_,(by(repeat(first|exact Gk|apply Gl rfl (Gp (F.ag _ rfl) (by repeat(exact ae)) (aF rfl))))),?_⟩
    refine⟨?_,?_,by first|omega|(dsimp only;omega),fun m h1 h2 h3=>by(repeat(refine aa (by omega) ?_));exact yo m h1 h2 h3,fun h=>by cases h⟩
    ·show _=SV.sc (.int .i64 ((gE left 1 0:Nat):Int))
     rw [gE,EP hc0];rfl
    ·show PgAt _ b (dU mem ([(k,x)].take (fC left 1))) (left-(fC left 1:Nat)) (c+fC left 1)
     rw [fC,EP hc0]
     exact z6.box (m:=nx+1) (nx:=0) (fun m' h=>ab _ _ h) (by omega) (NoPut.box y1)
   ·have hc0:(0:Int)≤0∧(0:Int).toNat<1:=⟨Int.le_refl _,by decide⟩
    repeat first|apply ah;rfl|apply aM;rfl;assumption;rfl
    refine eR Tryz.func20 (congrArg Array.toList Tryz.results20) (by kernel_rfl) (Gi uw ?_)
    rintro _ rfl
    refine⟨_,(by(repeat(first|exact Gk|apply Gl rfl (Gp (F.ag _ rfl) (by repeat(exact ae)) (aF rfl))))),?_⟩
    refine⟨?_,?_,by first|omega|(dsimp only;omega),fun m h1 h2 h3=>by(repeat(refine aa (by omega) ?_));exact yo m h1 h2 h3,fun h=>by cases h⟩
    ·show _=SV.sc (.int .i64 ((gE 0 1 0:Nat):Int))
     rw [gE,EQ hc0];rfl
    ·show PgAt _ b (dU mem ([(k,x)].take (fC 0 1))) (0-(fC 0 1:Nat)) (c+fC 0 1)
     rw [fC,EQ hc0]
     exact z6.box (m:=nx+1) (nx:=0) (fun m' h=>ab _ _ h) (by omega) (NoPut.box y1)
end
end Go.Proofs.YtelnglhodnoclaaGreat
end
section
namespace Go.Sy
open Go Go.Sl Go.RowKit
section
variable {A:Type}{P:Program}
theorem cV{P:Program}{A B:Type}(f:A→Sem B): ∀ s:Sem A,aJ P (s >>= f)=(aJ P s).bind fun a=>aJ P (f a)
 | .pure a=>rfl
 | .program k=>cV f (k P)
 | .mark m k=>cV f k
 | .choose q k=>by
   show(bif q.forced then aJ P (k 0 >>= f) else none)=(bif q.forced then aJ P (k 0) else none).bind _
   cases q.forced with
   | true=>exact cV f (k 0)
   | false=>rfl
 | .load .. =>rfl
 | .store .. =>rfl
 | .new .. =>rfl
 | .shape .. =>rfl
 | .freeze .. =>rfl
 | .frozen .. =>rfl
 | .getObj .. =>rfl
 | .setObj .. =>rfl
 | .sys .. =>rfl
 | .halt .. =>rfl
theorem bM(a:A):aJ P (pure a:Sem A)=some a:=rfl
theorem fP(c:Prop) [Decidable c](a b:Sem A):aJ P (if c then a else b)=if c then aJ P a else aJ P b:=by split <;> rfl
theorem cZ{t:TypeId}{d:TypeDesc}(h:P.underlying t=some d):aJ P (underlying t)=some d:=by
 show aJ P (match P.underlying t with|some d=>(pure d:Sem TypeDesc)|none=>stuck "no such type")=_
 rw [h]
 rfl
theorem iF:aJ P program=some P:=rfl
end
section
variable {K V:Type} [DecidableEq K]
theorem uB{P:Program}{kt:TypeId}{enc:K→Value}(hE: ∀ a b,aJ P (Op.equal kt (enc a) (enc b))=some (decide (a=b)))(k:K): ∀ (l:List (K×SV×Nat)) (i:Nat),
 aJ P (Instr.findAsking kt (enc k) (dummies (l.map fun x=>(enc x.1,x.2))) i)=some ((l.findIdx? fun x=>decide (x.1=k)).map fun j=>(i+j,.nilFunc))
 | [],i=>rfl
 | x :: l,i=>by
   have ih:=uB hE k l (i+1)
   simp only [dummies] at ih
   simp only [dummies,EG,Instr.findAsking,cV,hE,EL,List.findIdx?_cons,fP]
   by_cases h:x.1=k
   ·simp [h,bM]
   ·have h': ¬ k=x.1:=fun e=>h e.symm
    simp only [h,h',decide_false,ih,Option.map_map,Bool.false_eq_true,if_false]
    congr 2
    funext j
    simp only [Function.comp_apply,Et,and_true]
    omega
theorem zY{P:Program}{kt:TypeId}{kd:TypeDesc}{enc:K→Value}(h:P.underlying kt=some kd)(hn: ∀ a b,Instr.sameNow kd (enc a) (enc b)=none)(hE: ∀ a b,aJ P (Op.equal kt (enc a) (enc b))=some (decide (a=b)))
 (hc: ∀ e k,aJ P (Instr.checkKey e 10000 kt (enc k))=some ()) (hb: ∀ k,Instr.sameBits 10000 (enc k) (enc k)=true):KEnc P kt enc:=by
 refine⟨fun l k=>?_,fun k=>hc _ _,hb⟩
 unfold lx
 rw [hc]
 simp only
 unfold Instr.findKey
 rw [kj _ h]
 cases l with
 | nil=>rfl
 | cons x l=>
   have e:Instr.findNow kd (enc k) (dummies ((x :: l).map fun x=>(enc x.1,x.2))) 0=none:=by
    simp only [dummies,EG,Instr.findNow,hn]
   rw [e]
   simp only [uB hE]
   cases(x :: l).findIdx? fun x=>decide (x.1=k) <;> simp
variable {P:Program} {T:Tr SV} {H:ay} {nx:Nat} {d:Option Tmp} {ty:TypeId} {pos:String} {af:Array Edge} {gd:Option (Nat×Bool)}
section
variable {kk:K}{s:SV}{b c:Nat}{val:V→SV}{e kt t:TypeId}{enc:K→Value}{x y:Operand}{m:List (K×V×Nat)}
theorem zx{v:V}{ok:Bool}(hx:aq T x=some (.mp b))(hy:aq T y=some s)(hs:s.lit=some (enc kk))(hu:P.underlying t=some (.map kt e))(hE:KEnc P kt enc)
 (hb:H.at' b=some (nV enc val m c)) (hg:io m kk=some v):ReadDoes P T H ⟨d,.lookup t x y ok,ty,pos,af,gd⟩ (bif ok then .tup [val v,.sc (.bool true)] else val v):=by
 refine ej ?_
 have hk:=CY m kk
 unfold cJ
 simp only [AX,hy,hs,EL,hx,gX,hu,hb,kG hE]
 cases hi:m.findIdx? fun x=>decide (x.1=kk)with
 | none=>rw [hi] at hk;rw [hk.1] at hg;cases hg
 | some i=>
   rw [hi] at hk
   obtain⟨z,h1,_,h3,_⟩:=hk
   rw [hg] at h3
   simp only [Ej] at h3
   subst h3
   simp only [E6,h1,EK]
theorem wV{z:Value}{ok:Bool}(hx:aq T x=some (.mp b))(hy:aq T y=some s)(hs:s.lit=some (enc kk))(hu:P.underlying t=some (.map kt e))(hE:KEnc P kt enc)
 (hb:H.at' b=some (nV enc val m c)) (hg:io m kk=none) (hz:dJ P e=some z):ReadDoes P T H ⟨d,.lookup t x y ok,ty,pos,af,gd⟩ (bif ok then .tup [.sc z,.sc (.bool false)] else .sc z):=by
 refine ej ?_
 have hk:=CY m kk
 unfold cJ
 simp only [AX,hy,hs,EL,hx,gX,hu,hb,kG hE]
 cases hi:m.findIdx? fun x=>decide (x.1=kk)with
 | none=>simp only [hz]
 | some i=>
   rw [hi] at hk
   obtain⟨z,h1,_,h3,_⟩:=hk
   rw [hg] at h3
   cases h3
theorem xi{w:Operand}{v:V}(hx:aq T x=some (.mp b))(hy:aq T y=some s)(hs:s.lit=some (enc kk))(hu:P.underlying t=some (.map kt e))(hE:KEnc P kt enc)
 (hb:H.at' b=some (nV enc val m c)) (hw:aq T w=some (val v)):OpDoes P T H nx ⟨d,.mapUpdate t x y w,ty,pos,af,gd⟩ (.skip,H.set b (nV enc val (nO m kk v c) (xL m kk c)),nx):=by
 refine jt ?_
 have hk:=CY m kk
 unfold fT
 simp only [AX,hy,hs,EL,hx,hw,ov,hu,hb,putK,hE.check,kG hE]
 cases hi:m.findIdx? fun x=>decide (x.1=kk)with
 | none=>
   rw [hi] at hk
   obtain⟨h1,_,h3⟩:=hk
   simp only [nV,CX,h3,xL,h1,EJ,EG,List.map_nil]
 | some i=>
   rw [hi] at hk
   obtain⟨z,h1,h2,h3,_,h5⟩:=hk
   simp only [nV,CX,h5,xL,h3,E6,h1,EK,h2,hE.bits,cond_true,List.map_set]
end
end
section
variable {P:Program} {ro:Option Nat} {fn nt nx:Nat} {T:Tr SV} {k:List AIt} {dfs:List ADf} {H:ay} {Q:Pst} {ops:Array Oper} {i:Nat} {l:List Oper} {d:Option Tmp} {ty:TypeId} {pos:String} {af:Array Edge} {gd:Option (Nat×Bool)}
theorem za{K V:Type} [DecidableEq K]{enc:K→Value}{val:V→SV}{m:List (K×V×Nat)}{c:Nat}{t kt e:TypeId}{x y:Operand}{b:Nat}{kk:K}{w:Operand}{v:V}{s:SV}(hw:aE T ops ⟨none,.mapUpdate t x y w,ty,pos,af,gd⟩=some true)(hx:aq T x=some (.mp b))(hy:aq T y=some s)(hs:s.lit=some (enc kk))(hu:P.underlying t=some (.map kt e))(hE:KEnc P kt enc)(hb:H.at' b=some (nV enc val m c))(hw2:aq T w=some (val v))
 (h:Wp P ro ⟨fn,nt,T,.inReg ops (i+1) l :: k,dfs,(H.set b (nV enc val (nO m kk v c) (xL m kk c))),nx⟩ Q):Wp P ro ⟨fn,nt,T,.inReg ops i (⟨none,.mapUpdate t x y w,ty,pos,af,gd⟩ :: l) :: k,dfs,H,nx⟩ Q:=
 oc hw (.inr (fun _ h=>by cases h)) (xi hx hy hs hu hE hb hw2) h
end
def m8(P:Program)(H:ay)(nx:Nat)(t:TypeId)(k:Value):SV→Option Out
 | .mp b=>match P.underlying t with
   | some (.map kt _)=>match H.at' b with
     | some (.map l clock)=>match lx P kt k l with
       | some (some i)=>some (.val (.sc (.tuple #[])),H.set b (.map (l.eraseIdx i) clock),nx)
       | some none=>some (.val (.sc (.tuple #[])),H.set b (.map l clock),nx)
       | none=>none
     | _=>none
   | _=>none
 | _=>none
section
variable {P:Program} {K:Zone} {w0 w:World} {e:Env} {H:ay} {nx:Nat}
theorem MRel.erase: ∀ {l:List (Value×SV×Nat)} {ms:List MapEntry},MRel e l ms→ ∀ (i:Nat),MRel e (l.eraseIdx i) (ms.eraseIdx i)
 | [],[],_,i=>by simp [MRel]
 | (_,_,_) :: l,m :: ms,h,0=>h.2.2.2
 | (_,_,_) :: l,m :: ms,h,i+1=>⟨h.1,h.2.1,h.2.2.1,MRel.erase h.2.2.2 i⟩
 | [],_ :: _,h,_=>h.elim
 | (_,_,_) :: _,[],h,_=>by simp [MRel] at h
theorem vq{t ty:TypeId}{ts:Array TypeId}{k:Value}{m:SV}{vm:Value}{out:Out}(hts:ts[0]? =some t)(hS:St K w0 e H nx w)(h:m8 P H nx t k m=some out)(hm:m.conc e=some vm):nN P K w0 e out (Builtin.delete_ ts ty #[vm,k]) w:=by
 cases m with
 | mp b=>
   obtain⟨x,hx,rfl⟩:=jX hm
   simp only [m8] at h
   cases hu:P.underlying t with
   | none=>rw [hu] at h;cases h
   | some d=>
     rw [hu] at h
     cases d with
     | map kt el=>
       simp only at h
       cases hb:H.at' b with
       | none=>rw [hb] at h;cases h
       | some vo=>
         rw [hb] at h
         cases vo with
         | map l clock=>
           simp only at h
           obtain⟨hxn,o,_,hw,ho⟩:=hS.at hb hx (by simp)
           obtain⟨es,rfl,hmr⟩:=ho
           have hg:=Go.MapKept.run_getObj_map (P:=P) hw
           cases hf:lx P kt k l with
           | none=>rw [hf] at h;cases h
           | some q=>
             obtain⟨hc,r',hr,hq,hget⟩:=ml hf hmr w
             have hc':=hc es.isEmpty (by simp)
             rw [hf] at h
             cases q with
             | none=>
               simp only [Ej] at h
               subst h
               have:r'=none:=by cases r' with|none=>rfl|some x=>simp at hq
               subst this
               refine⟨e,_,_,.tuple #[],rfl,Gr e,hS.upd (o':= .map es clock) hb hx hxn rfl rfl (cy x.blk _) (cC hw) ⟨es,rfl,hmr⟩,rfl,?_⟩
               simp [Builtin.delete_,hts,run_underlying hu,hg,hc',hr,Go.MapKept.run_setObj_map _ hw]
             | some i=>
               simp only [Ej] at h
               subst h
               cases r' with
               | none=>simp at hq
               | some jv=>
                 obtain⟨j,u'⟩:=jv
                 simp only [EK,Ej] at hq
                 subst hq
                 have e1:(es.eraseIdxIfInBounds i).toList=es.toList.eraseIdx i:=by
                  unfold Array.eraseIdxIfInBounds
                  split
                  ·simp
                  ·rename_i hj;rw [List.eraseIdx_of_length_le (by simpa using hj)]
                 refine⟨e,_,_,.tuple #[],rfl,Gr e,hS.upd (o':= .map (es.eraseIdxIfInBounds i) clock) hb hx hxn rfl rfl (cy x.blk _) (cC hw) ⟨_,rfl,by rw [e1];exact hmr.erase i⟩,rfl,?_⟩
                 simp [Builtin.delete_,hts,run_underlying hu,hg,hc',hr,Go.MapKept.run_setObj_map _ hw]
         | _=>cases h
     | _=>cases h
 | _=>simp [m8] at h
end
section
variable {P:Program} {T:Tr SV} {H:ay} {nx:Nat} {d:Option Tmp} {ty:TypeId} {pos:String} {af:Array Edge} {gd:Option (Nat×Bool)}
theorem uZ{K V:Type} [DecidableEq K]{enc:K→Value}{val:V→SV}{m:List (K×V×Nat)}{c:Nat}{t kt kt' e:TypeId}{x y:Operand}{b:Nat}{kk:K}{s:SV}(hx:aq T x=some (.mp b))(hy:aq T y=some s)(hs:s.lit=some (enc kk))(hu:P.underlying t=some (.map kt e))(hE:KEnc P kt enc)
 (hb:H.at' b=some (nV enc val m c)):OpDoes P T H nx ⟨d,.call {callee:= .builtin .delete,args:= #[x,y],argTypes:= #[t,kt']},ty,pos,af,gd⟩ (.val (.sc (.tuple #[])),H.set b (nV enc val (kZ m kk) c),nx):=by
 intro K0 w0 ev w evf hS hEv
 have hk:=CY m kk
 have hm:m8 P H nx t (enc kk) (.mp b)=some (.val (.sc (.tuple #[])),H.set b (nV enc val (kZ m kk) c),nx):=by
  simp only [m8,hu,hb,kG hE]
  cases hi:m.findIdx? fun x=>decide (x.1=kk)with
  | none=>
    rw [hi] at hk
    simp only [nV,hk.2.1]
  | some i=>
    rw [hi] at hk
    obtain⟨z,h1,h2,h3,h4,h5⟩:=hk
    simp only [nV,CX,h4,fA]
 have hxs:cY T [x,y]=some [.mp b,s]:=by simp only [cY,hx,hy,EL]
 have hargs:=hEv.list _ _ hxs
 obtain⟨v1,l1,h1,h2,h3⟩:=bS hargs
 obtain⟨v2,l2,h4,h5,h6⟩:=bS h3
 simp only [SV.aD,Ej] at h6
 subst h6
 subst h4
 have hlit:=SV.kU ev s (enc kk) hs
 rw [h5] at hlit
 simp only [Ej] at hlit
 subst hlit
 simp only [EG,List.map_nil,List.cons.injEq,and_true] at h1
 obtain⟨e1,e2⟩:=h1
 have hD:=vq (ts:= #[t,kt']) (ty:=ty) (by simp) hS hm h2
 simp only [execOp,resolve,Sem.run_bind,Sem.run_pure,Result.andThen,invoke]
 refine gD hD (fun v w' hr=>?_)
 simp [builtin,e1,e2,hr]
end
end Go.Sy
end
section
namespace Go.Proofs.YtelnglhodnoclaaGreat
open Go Go.Sy Go.Sl Go.RowKit
abbrev vP:=List (bf×Unit×Nat)
theorem pH: ∀ {m:vP},(m.map (·.1)).Nodup→ ∀ k x,x∈(kZ m k).map (·.1)↔x≠k∧x∈m.map (·.1)
 | [],_,k,x=>by simp [kZ]
 | y :: m,h,k,x=>by
   rw [EG,List.nodup_cons] at h
   unfold kZ
   split
   ·rename_i hy
    rw [EG,E4]
    exact⟨fun hx=>⟨fun hc=>h.1 (by rw [hy,←hc];exact hx),.inr hx⟩,fun⟨h1,h2⟩=>h2.elim (fun h3=>absurd (h3.trans hy) h1) id⟩
   ·rename_i hy
    rw [EG,EG,E4,E4,pH h.2 k x]
    constructor
    ·rintro(rfl|⟨h1,h2⟩)
     ·exact⟨hy,.inl rfl⟩
     ·exact⟨h1,.inr h2⟩
    ·rintro⟨h1,rfl|h2⟩
     ·exact .inl rfl
     ·exact .inr ⟨h1,h2⟩
structure HasM (mem:List UInt8) (bs:List Bn.El) (m:vP) (c:Nat):Prop where
 ok:KOk m c
 keys: ∀ e,e∈m.map (·.1)↔HasH mem bs e
section
variable {e:bf}{m:vP}{c:Nat}{bs bs':List Bn.El}{mem mem':List UInt8}
theorem HasM.yes(h:HasM mem bs m c)(hh:HasH mem bs e):io m e=some ():=by
 cases hk:io m e with
 | none=>exact absurd ((h.keys e).2 hh) (ng.1 hk)
 | some v=>rfl
theorem HasM.no(h:HasM mem bs m c)(hh: ¬ HasH mem bs e):io m e=none:=ng.2 fun hc=>hh ((h.keys e).1 hc)
theorem HasM.len(h:HasM mem bs m c){l:List bf}(hl:l.Pairwise fun x y=>bl x y=true)(hm: ∀ e,e∈l↔HasH mem bs e):l.length=m.length:=by
 have:=tC (sn hl) h.ok.keys (fun x=>(hm x).trans (h.keys x).symm)
 rwa [EU] at this
theorem HasM.same(h:HasM mem bs m c)(hs: ∀ x,HasH mem' bs' x↔HasH mem bs x):HasM mem' bs' m c:=⟨h.ok,fun x=>(h.keys x).trans (hs x).symm⟩
theorem HasM.less(h:HasM mem bs m c)(hs: ∀ x,x≠e→(HasH mem' bs' x↔HasH mem bs x))(hn: ¬ HasH mem' bs' e):HasM mem' bs' (kZ m e) c:=⟨h.ok.del e,fun x=>by
 rw [pH h.ok.keys,h.keys]
 by_cases hx:x=e
 ·subst hx
  exact⟨fun hc=>absurd rfl hc.1,fun hc=>absurd hc hn⟩
 ·rw [hs x hx]
  exact⟨fun hc=>hc.2,fun hc=>⟨hx,hc⟩⟩⟩
theorem HasM.more(h:HasM mem bs m c)(hs: ∀ x,x≠e→(HasH mem' bs' x↔HasH mem bs x))(hn:HasH mem' bs' e):HasM mem' bs' (nO (kZ m e) e () c) (xL (kZ m e) e c):=⟨(h.ok.del e).put e (),fun x=>by
 rw [zR,pH h.ok.keys,h.keys]
 by_cases hx:x=e
 ·subst hx
  exact⟨fun _=>hn,fun _=> .inl rfl⟩
 ·rw [hs x hx]
  exact⟨fun hc=>hc.elim (fun h1=>absurd h1 hx) fun h1=>h1.2,fun hc=> .inr ⟨hx,hc⟩⟩⟩
end
structure StepIs (del:Bool) (mem:List UInt8) (bs:List Bn.El) (e:bf) (no:Nat) (mem':List UInt8) (bs':List Bn.El):Prop where
 ix:IxH mem' bs'
 nos:no=0∨no=2∨no=5∨no=6∨no=8∨no=14
 same: ∀ x,x≠e→(HasH mem' bs' x↔HasH mem bs x)
 zero:no=0→(HasH mem bs e↔del=true)∧(HasH mem' bs' e↔del=false)
 there:no=14→HasH mem bs e
 away:no=6→ ¬ HasH mem bs e
 still:no≠0→ ∀ x,HasH mem' bs' x↔HasH mem bs x
section
variable {bs:List Bn.El}{mem:List UInt8}
theorem StepIs.arg{del:Bool}(h:IxH mem bs)(e:bf):StepIs del mem bs e 2 mem bs:=⟨h,.inr (.inl rfl),fun _ _=>Iff.rfl,fun h=>(by cases h),fun h=>(by cases h),fun h=>(by cases h),fun _ _=>Iff.rfl⟩
theorem DP{e:bf}{no:Nat}{ws:List (Nat×List UInt8)}(h:InsLaw mem bs e no ws)(left:Int): ∃ bs',StepIs false mem bs e (gE left ws.length no) (dU mem (ws.take (fC left ws.length))) bs':=by
 obtain⟨h1,_,h3,h4,bs',h5,h6⟩:=Aa h left
 refine⟨bs',h5,by omega,fun x hx=>(h6 x).trans ⟨fun hc=>hc.elim id fun hc=>absurd hc.2 hx,.inl⟩,fun h0=>⟨⟨fun hc=>absurd hc (h4 h0),fun hc=>(by cases hc)⟩,⟨fun _=>rfl,fun _=>(h6 e).2 (.inr ⟨h0,rfl⟩)⟩⟩,h3.1,fun hc=>(by omega),fun h0 x=>(h6 x).trans ⟨fun hc=>hc.elim id fun hc=>absurd hc.1 h0,.inl⟩⟩
theorem D6{e:bf}{no:Nat}{ws:List (Nat×List UInt8)}(h:DelLaw mem bs e no ws)(left:Int):StepIs true mem bs e (gE left ws.length no) (dU mem (ws.take (fC left ws.length))) bs:=by
 obtain⟨h1,_,h3,h4,h5,h6⟩:=Ai h left
 refine⟨h5,by omega,fun x hx=>(h6 x).trans ⟨fun hc=>hc.1,fun hc=>⟨hc,fun hc=>hx hc.2⟩⟩,fun h0=>⟨⟨fun _=>rfl,fun _=>h4 h0⟩,⟨fun hc=>absurd ⟨h0,rfl⟩ ((h6 e).1 hc).2,fun hc=>(by cases hc)⟩⟩,fun hc=>(by omega),fun hc=>h3.1 hc,fun h0 x=>(h6 x).trans ⟨fun hc=>hc.1,fun hc=>⟨hc,fun hc=>h0 hc.1⟩⟩⟩
end
section
variable {P:Program} {ro:Option Nat} {fn nt nx:Nat} {T:Tr SV} {k:List AIt} {dfs:List ADf} {H:ay} {Q:Pst} {ops:Array Oper} {i:Nat} {l:List Oper} {d:Option Tmp} {ty:TypeId} {pos:String} {af:Array Edge} {gd:Option (Nat×Bool)}
theorem zz{t yt:TypeId}{x y:Operand}{a b:ByteArray}{r:Bool}(hx:aq T x=some (.sc (.string a)))(hy:aq T y=some (.sc (.string b)))(hr:(!bLt a b)=r):ReadDoes P T H ⟨d,.binOp .geq t x y yt,ty,pos,af,gd⟩ (.sc (.bool r)):=by
 subst hr
 refine cU fun ev w he=>?_
 have e1:=he x _ hx _ rfl
 have e2:=he y _ hy _ rfl
 rw [← yG]
 simp [execOp,e1,e2,eqGuard,binOp,Op.stringOp]
theorem sg{t yt:TypeId}{x y:Operand}{a b:ByteArray}{r:Bool}{dd:Nat}(hw:aE T ops ⟨some dd,.binOp .geq t x y yt,ty,pos,af,gd⟩=some true)(hd:Nat.blt dd nt=true)(hx:aq T x=some (.sc (.string a)))(hy:aq T y=some (.sc (.string b)))(hr:(!bLt a b)=r)
 (h:Wp P ro ⟨fn,nt,T.set dd (.sc (.bool r)),.inReg ops (i+1) l :: k,dfs,H,nx⟩ Q):Wp P ro ⟨fn,nt,T,.inReg ops i (⟨some dd,.binOp .geq t x y yt,ty,pos,af,gd⟩ :: l) :: k,dfs,H,nx⟩ Q:=
 dn hw (.inr (fun _ h=>by cases h)) ((zz hx hy hr).does) (by rw [aI hd];exact h)
end
section
variable {H:ay}{s:SV}{a b c hi:Nat}{left:Int}{lo nx:Nat}{l:List bf}{mem:List UInt8}
theorem Fnc.fnC{P:Program}{f g:FuncId}{a:SV}{Q:Pst}(h:Fnc P f [a,.fn (.func g) [] []] H nx Q):Fnc P f [a,.sc (.func (.func g) #[] #[])] H nx Q:=by
 unfold Fnc iQ at h ⊢
 rcases h with ⟨h0,_⟩|h
 ·cases h0
 ·refine .inr ?_
  cases hb:rP P f with
  | none=>rw [hb] at h;exact h
  | some c=>
    rw [hb] at h
    have h2:Wp P none ⟨f,max 2 (B6 P f),im .nil 0 [a,.fn (.func g) [] []],[.code c],[],H,nx⟩ Q:=h
    refine(⟨fun K w0 e w tmps todo ds kd rof cs hS hTr htd hds hcx=>h2.run K w0 e w tmps todo ds kd rof cs hS ⟨hTr.1,fun t u hu=>?_⟩ htd hds hcx⟩:Wp P none ⟨f,max 2 (B6 P f),im .nil 0 [a,.sc (.func (.func g) #[] #[])],[.code c],[],H,nx⟩ Q)
    rcases bp hu with ⟨rfl,rfl⟩|⟨_,hu⟩
    ·obtain⟨v,g1,g2⟩:=hTr.2 1 _ rfl
     exact⟨v,by simpa [SV.conc,SV.aD] using g1,g2⟩
    ·rcases bp hu with ⟨rfl,rfl⟩|⟨_,hu⟩
     ·exact hTr.2 0 _ rfl
     ·cases hu
theorem EnAt.one{H:ay}{s:SV}{l:List bf}{lo hi:Nat}(h:EnAt H s l lo hi):s.one=true:=by
 rcases h with ⟨_,rfl⟩|⟨_,_,rfl,_⟩ <;> rfl
theorem Ba:Fnc Tryz.prog 45 [.ptr a 0,.ptr b 0] H nx (fun q=>q=(.tup [],H,nx)):=by
 refine Gj Tryz.func45 rfl rfl ?_
 repeat first|apply ah;rfl|apply fL;rfl;rfl|refine bO (fO rfl Tryz.underlying20) rfl rfl rfl ?_
 (apply wo Tryz.func45 Tryz.results45;rfl)
 rfl
theorem tL:Fnc Tryz.prog 52 [.ptr a 0,.ptr b 0] H nx (fun q=>q=(.tup [],H,nx)):=by
 refine Gj Tryz.func52 rfl rfl ?_
 repeat first|apply ah;rfl|apply fL;rfl;rfl|refine bO (fO rfl Tryz.underlying20) rfl rfl rfl ?_
 (apply wo Tryz.func52 Tryz.results52;rfl)
 rfl
theorem yd:Fnc Tryz.prog 50 [.ptr a 0,.ptr b 0] H nx (fun q=>q=(.tup [],H,nx)):=by
 refine Gj Tryz.func50 rfl rfl ?_
 repeat first|apply ah;rfl|apply fL;rfl;rfl|refine bO (fO rfl Tryz.underlying20) rfl rfl rfl ?_
 (apply wo Tryz.func50 Tryz.results50;rfl)
 rfl
theorem Aq:Fnc Tryz.prog 48 [.ptr a 0] H nx (fun q=>q=(.tup [],H,nx)):=by
 refine Gj Tryz.func48 rfl rfl ?_
 repeat first|apply ah;rfl|apply fL;rfl;rfl|refine bO (fO rfl Tryz.underlying20) rfl rfl rfl ?_
 (apply wo Tryz.func48 Tryz.results48;rfl)
 rfl
theorem Ed(e:bf):Fnc Tryz.prog 47 [gC e] H nx (fun q=>q=(.sc (.bool true),H,nx)):=by
 refine Fnc.bW (Free.sc _) ?_
 refine Gj Tryz.func47 rfl rfl ?_
 repeat apply ah;rfl
 (apply b8 Tryz.func47 Tryz.results47;rfl)
 exact⟨rfl,EN _,fun m hm=>by(repeat(refine aa (by omega) ?_));rfl⟩
theorem Ap(e:bf):Fnc Tryz.prog 49 [gC e] H nx (fun q=>q=(.sc (.bool false),H,nx)):=by
 refine Fnc.bW (Free.sc _) ?_
 refine Gj Tryz.func49 rfl rfl ?_
 repeat apply ah;rfl
 (apply b8 Tryz.func49 Tryz.results49;rfl)
 exact⟨rfl,EN _,fun m hm=>by(repeat(refine aa (by omega) ?_));rfl⟩
theorem Cu{key:ByteArray}(ha:H.at' a=some (an 9 [.sc (.string key)]))(e:bf):Fnc Tryz.prog 51 [gC e,.ptr a 0] H nx (fun q=>q=(.sc (.bool (e.1 == key)),H,nx)):=by
 refine Fnc.bW (Free.sc _) ?_
 refine Gj Tryz.func51 rfl rfl ?_
 refine bh fun hund=>?_
 have hlt:=hund _ _ ha
 repeat first|refine bO (tK rfl rfl) rfl rfl rfl ?_|refine a7 rfl rfl rfl (F.ag _ rfl) (by(repeat(refine aa (by omega) ?_));exact ha) rfl ?_|apply ah;rfl|apply aM;rfl;(focus((repeat(exact ae));done));rfl
 (apply b8 Tryz.func51 Tryz.results51;rfl)
 exact⟨rfl,EN _,fun m hm=>by(repeat(refine aa (by omega) ?_));rfl⟩
def inR(from' to':ByteArray)(e:bf):Bool:= !bLt e.1 from' && (to' == ⟨#[]⟩ || bLt e.1 to')
theorem zB{k1 k2:ByteArray}(ha:H.at' a=some (an 9 [.sc (.string k1)]))(hb:H.at' b=some (an 9 [.sc (.string k2)]))(e:bf):Fnc Tryz.prog 53 [gC e,.ptr a 0,.ptr b 0] H nx (fun q=>q=(.sc (.bool (inR k1 k2 e)),H,nx)):=by
 refine Fnc.bW (Free.sc _) ?_
 refine Gj Tryz.func53 rfl rfl ?_
 refine bh fun hund=>?_
 have hla:=hund _ _ ha
 have hlb:=hund _ _ hb
 cases h1:bLt e.1 k1 with
 | true=>
   repeat first|apply sg (r:=false);rfl;rfl;rfl;rfl;exact(congrArg not h1)|refine a7 rfl rfl rfl (F.ag _ rfl) (by(repeat(refine aa (by omega) ?_));exact ha) rfl ?_|apply ah;rfl|apply aM;rfl;(focus((repeat(exact ae));done));rfl
   (apply b8 Tryz.func53 Tryz.results53;rfl)
   exact⟨by unfold inR;rw [h1];rfl,EN _,fun m hm=>by(repeat(refine aa (by omega) ?_));rfl⟩
 | false=>
   cases h2:(k2 == (⟨#[]⟩:ByteArray))with
   | true=>
     repeat first|apply sg (r:=true);rfl;rfl;rfl;rfl;exact(congrArg not h1)|refine tv (r:=true) rfl rfl rfl rfl h2 ?_|refine a7 rfl rfl rfl (F.ag _ rfl) (by first|(focus((repeat(refine aa (by omega) ?_));exact ha))|(focus((repeat(refine aa (by omega) ?_));exact hb))) rfl ?_|apply ah;rfl|apply aM;rfl;(focus((repeat(exact ae));done));rfl
     (apply b8 Tryz.func53 Tryz.results53;rfl)
     exact⟨by unfold inR;rw [h1,h2];rfl,EN _,fun m hm=>by(repeat(refine aa (by omega) ?_));rfl⟩
   | false=>
     repeat first|apply sg (r:=true);rfl;rfl;rfl;rfl;exact(congrArg not h1)|refine tv (r:=false) rfl rfl rfl rfl h2 ?_|apply mD;rfl;rfl;rfl;rfl;rfl|refine a7 rfl rfl rfl (F.ag _ rfl) (by first|(focus((repeat(refine aa (by omega) ?_));exact ha))|(focus((repeat(refine aa (by omega) ?_));exact hb))) rfl ?_|apply ah;rfl|apply aM;rfl;(focus((repeat(exact ae));done));rfl
     (apply b8 Tryz.func53 Tryz.results53;rfl)
     exact⟨by unfold inR;rw [h1,h2];rfl,EN _,fun m hm=>by(repeat(refine aa (by omega) ?_));rfl⟩
theorem all_s(hb:PgAt H b mem left c)(hm:mem.length=28672):Fnc Tryz.prog 22 [og b] H nx
 (fun q=>nx≤q.2.2∧(∀ m,m<nx→q.2.1.at' m=H.at' m)∧((rz mem (fun _=>true)=none∧q.1 = .tup [cF,.sc (.int .i64 13)])∨ ∃ l s,rz mem (fun _=>true)=some l∧q.1 = .tup [s,.sc (.int .i64 0)]∧EnAt q.2.1 s l nx q.2.2)):=by
 refine Gj Tryz.func22 rfl rfl ?_
 refine bh fun hund=>?_
 repeat first|apply ah;rfl|apply gO;rfl;rfl;rfl;(focus(kernel_rfl))|refine bO (e6 rfl rfl Tryz.underlying80 rfl) rfl rfl rfl ?_
 refine aZ rfl rfl rfl (by kernel_rfl) (Gi (Fnc.fnC <| kI (g:=47) (caps:= []) (W:=fun _=>true) (hb.frame hund (fun m hm=>by(repeat(refine aa (by omega) ?_));rfl)) hm (by kernel_rfl) (fun e H' nx' _ _=>Ed e)) ?_)
 rintro⟨v,H8,n8⟩ ⟨p1,p2,(⟨hn,rfl⟩|⟨l,s,hn,rfl,w⟩)⟩
 ·dsimp only at p1 p2 ⊢
  have b1:H8.at' nx=some (an 56 [cF]):=(p2 nx (by omega)).trans (by repeat(first|exact ae|refine aa (by omega) ?_))
  have b2:H8.at' (nx+1)=some (l8 0):=(p2 (nx+1) (by omega)).trans (by repeat(exact ae))
  have bo: ∀ m,m<nx→H8.at' m=H.at' m:=fun m hm=>(p2 m (by omega)).trans (by(repeat(refine aa (by omega) ?_));rfl)
  clear p2
  repeat first|apply ah;rfl|apply aM;rfl;(focus((repeat(first|assumption|refine aa (by omega) ?_));done));rfl|refine mb rfl rfl rfl rfl (F.sz _ rfl) (by assumption) rfl (by exact Ep rfl) rfl ?_
  refine eR Tryz.func22 (congrArg Array.toList Tryz.results22) (by kernel_rfl) (Gi Ba ?_)
  rintro _ rfl
  refine⟨_,(by(repeat(first|exact Gk|apply Gl rfl (Gp (F.ag _ rfl) (by repeat(first|exact ae|refine aa (by omega) ?_)) (aF rfl))))),?_⟩
  exact⟨by first|omega|(dsimp only;omega),fun m hm=>by(repeat(refine aa (by omega) ?_));exact bo m hm,.inl ⟨hn,rfl⟩⟩
 ·dsimp only at p1 p2 w ⊢
  have b1:H8.at' nx=some (an 56 [cF]):=(p2 nx (by omega)).trans (by repeat(first|exact ae|refine aa (by omega) ?_))
  have b2:H8.at' (nx+1)=some (l8 0):=(p2 (nx+1) (by omega)).trans (by repeat(exact ae))
  have bo: ∀ m,m<nx→H8.at' m=H.at' m:=fun m hm=>(p2 m (by omega)).trans (by(repeat(refine aa (by omega) ?_));rfl)
  have h1:=w.one
  clear p2
  repeat first|refine cq rfl rfl rfl (F.sz _ rfl) (by assumption) h1 rfl ?_|apply ah;rfl|apply aM;rfl;(focus((repeat(first|assumption|refine aa (by omega) ?_));done));rfl
  refine eR Tryz.func22 (congrArg Array.toList Tryz.results22) (by kernel_rfl) (Gi Ba ?_)
  rintro _ rfl
  refine⟨_,(by(repeat(first|exact Gk|apply Gl rfl (Gp (F.ag _ rfl) (by repeat(first|exact ae|refine aa (by omega) ?_)) (aF rfl))))),?_⟩
  exact⟨by first|omega|(dsimp only;omega),fun m hm=>by(repeat(refine aa (by omega) ?_));exact bo m hm,.inr ⟨l,s,hn,rfl,(w.frame (by(dsimp only;omega)) fun m h1 h2 _=>(by(repeat(refine aa (by omega) ?_));rfl)).low (by omega)⟩⟩
theorem BJ(k1 k2:ByteArray)(hb:PgAt H b mem left c)(hm:mem.length=28672):Fnc Tryz.prog 27 [og b,.sc (.string k1),.sc (.string k2)] H nx
 (fun q=>nx≤q.2.2∧(∀ m,m<nx→q.2.1.at' m=H.at' m)∧((rz mem (inR k1 k2)=none∧q.1 = .tup [cF,.sc (.int .i64 13)])∨ ∃ l s,rz mem (inR k1 k2)=some l∧q.1 = .tup [s,.sc (.int .i64 0)]∧EnAt q.2.1 s l nx q.2.2)):=by
 refine Gj Tryz.func27 rfl rfl ?_
 refine bh fun hund=>?_
 repeat first|apply ah;rfl|apply gO;rfl;rfl;rfl;(focus(kernel_rfl))|refine bO (e6 rfl rfl Tryz.underlying80 rfl) rfl rfl rfl ?_
 refine aZ rfl rfl rfl (by kernel_rfl) (Gi (kI (g:=53) (caps:= [.ptr nx 0,.ptr (nx+1) 0]) (W:=inR k1 k2) (hb.frame hund (fun m hm=>by(repeat(refine aa (by omega) ?_));rfl)) hm (by kernel_rfl) (fun e H' nx' _ hf=>zB ((hf nx (by omega)).trans (by repeat(first|exact ae|refine aa (by omega) ?_))) ((hf (nx+1) (by omega)).trans (by repeat(first|exact ae|refine aa (by omega) ?_))) e)) ?_)
 rintro⟨v,H8,n8⟩ ⟨p1,p2,(⟨hn,rfl⟩|⟨l,s,hn,rfl,w⟩)⟩
 ·dsimp only at p1 p2 ⊢
  have b1:H8.at' (nx+1+1)=some (an 56 [cF]):=(p2 (nx+1+1) (by omega)).trans (by repeat(first|exact ae|refine aa (by omega) ?_))
  have b2:H8.at' (nx+1+1+1)=some (l8 0):=(p2 (nx+1+1+1) (by omega)).trans (by repeat(exact ae))
  have bo: ∀ m,m<nx→H8.at' m=H.at' m:=fun m hm=>(p2 m (by omega)).trans (by(repeat(refine aa (by omega) ?_));rfl)
  clear p2
  repeat first|apply ah;rfl|apply aM;rfl;(focus((repeat(first|assumption|refine aa (by omega) ?_));done));rfl|refine mb rfl rfl rfl rfl (F.sz _ rfl) (by assumption) rfl (by exact Ep rfl) rfl ?_
  refine eR Tryz.func27 (congrArg Array.toList Tryz.results27) (by kernel_rfl) (Gi tL ?_)
  rintro _ rfl
  refine⟨_,(by(repeat(first|exact Gk|apply Gl rfl (Gp (F.ag _ rfl) (by repeat(first|exact ae|refine aa (by omega) ?_)) (aF rfl))))),?_⟩
  exact⟨by first|omega|(dsimp only;omega),fun m hm=>by(repeat(refine aa (by omega) ?_));exact bo m hm,.inl ⟨hn,rfl⟩⟩
 ·dsimp only at p1 p2 w ⊢
  have b1:H8.at' (nx+1+1)=some (an 56 [cF]):=(p2 (nx+1+1) (by omega)).trans (by repeat(first|exact ae|refine aa (by omega) ?_))
  have b2:H8.at' (nx+1+1+1)=some (l8 0):=(p2 (nx+1+1+1) (by omega)).trans (by repeat(exact ae))
  have bo: ∀ m,m<nx→H8.at' m=H.at' m:=fun m hm=>(p2 m (by omega)).trans (by(repeat(refine aa (by omega) ?_));rfl)
  have h1:=w.one
  clear p2
  repeat first|refine cq rfl rfl rfl (F.sz _ rfl) (by assumption) h1 rfl ?_|apply ah;rfl|apply aM;rfl;(focus((repeat(first|assumption|refine aa (by omega) ?_));done));rfl
  refine eR Tryz.func27 (congrArg Array.toList Tryz.results27) (by kernel_rfl) (Gi tL ?_)
  rintro _ rfl
  refine⟨_,(by(repeat(first|exact Gk|apply Gl rfl (Gp (F.ag _ rfl) (by repeat(first|exact ae|refine aa (by omega) ?_)) (aF rfl))))),?_⟩
  exact⟨by first|omega|(dsimp only;omega),fun m hm=>by(repeat(refine aa (by omega) ?_));exact bo m hm,.inr ⟨l,s,hn,rfl,(w.frame (by(dsimp only;omega)) fun m h1 h2 _=>(by(repeat(refine aa (by omega) ?_));rfl)).low (by omega)⟩⟩
abbrev CP(e:bf):List Value:= [.int .i64 e.2.1,.int .i64 e.2.2]
theorem hJ{A:Type}{f:A→List Value}{sz:Nat}(hf: ∀ a,(f a).length=sz): ∀ (l:List A) (i o n:Nat) (hi:i<l.length),o+n≤sz→((l.flatMap f).drop (i*sz+o)).take n=((f l[i]).drop o).take n
 | [],i,_,_,hi,_=>by simp at hi
 | a :: l,0,o,n,_,h=>by
   rw [List.flatMap_cons,Nat.zero_mul,ER,List.drop_append_of_le_length (by rw [hf];omega),List.take_append_of_le_length (by rw [EW,hf];omega)]
   rfl
 | a :: l,i+1,o,n,hi,h=>by
   have e:(i+1)*sz+o-sz=i*sz+o:=by rw [Nat.succ_mul];omega
   have e2:sz≤(i+1)*sz+o:=by rw [Nat.succ_mul];omega
   rw [List.flatMap_cons,List.drop_append,List.drop_of_length_le (by rw [hf];exact e2),List.nil_append,hf,e]
   exact hJ hf l i o n (by simpa using hi) h
theorem recT:RecOf CP 2:=⟨fun _=>rfl,fun a v hv=>by
 simp only [CP,E4,List.not_mem_nil,or_false] at hv
 rcases hv with rfl|rfl <;> rfl⟩
abbrev tidR(l:List bf):VO:=dat false l.length 2 23 (l.flatMap CP)
def TdAt(H:ay)(s:SV)(l:List bf)(lo hi:Nat):Prop:=(l= []∧s=cF)∨ ∃ r,l≠ []∧s = .slu r 0 l.length∧lo≤r∧r<hi∧H.at' r=some (tidR l)
theorem TdAt.frame{H':ay}{hi':Nat}(h:TdAt H s l lo hi)(hh:hi≤hi')(hf: ∀ m,lo≤m→m<hi→H'.at' m=H.at' m):TdAt H' s l lo hi':=by
 rcases h with h|⟨r,h1,h2,h3,h4,h5⟩
 ·exact .inl h
 ·exact .inr ⟨r,h1,h2,h3,by omega,(hf r h3 h4).trans h5⟩
theorem TdAt.low{lo':Nat}(h:TdAt H s l lo hi)(hl:lo'≤lo):TdAt H s l lo' hi:=by
 rcases h with h|⟨r,h1,h2,h3,h4,h5⟩
 ·exact .inl h
 ·exact .inr ⟨r,h1,h2,by omega,h4,h5⟩
theorem TdAt.one{H:ay}{s:SV}{l:List bf}{lo hi:Nat}(h:TdAt H s l lo hi):s.one=true:=by
 rcases h with ⟨_,rfl⟩|⟨_,_,rfl,_⟩ <;> rfl
theorem DH(k:ByteArray):Fnc Tryz.prog 34 [.sc (.string k)] H nx (fun q=>q=(.sc (.bool (Cc k)),H,nx)):=Ctr.callV (mZ k) [] rfl (Gh rfl) rfl trivial rfl
theorem DW(k:ByteArray)(hk:Cc k=true)(hb:PgAt H b mem left c)(hm:mem.length=28672)(hn:rz mem (fun e=>e.1 == k)=some l)(hl:l.length≤100000):Fnc Tryz.prog 26 [og b,.sc (.string k)] H nx
 (fun q=>nx≤q.2.2∧(∀ m,m<nx→q.2.1.at' m=H.at' m)∧ ∃ s,q.1 = .tup [s,.sc (.int .i64 0)]∧TdAt q.2.1 s l nx q.2.2):=by
 refine Gj Tryz.func26 rfl rfl ?_
 refine bh fun hund=>?_
 have hmk:=fun(H:ay) (nx:Nat)=>DH k (H:=H) (nx:=nx)
 rw [hk] at hmk
 repeat first|apply cT;rfl;kernel_rfl;exact hmk _ _|apply ah;rfl|apply aM;rfl;(focus((repeat(first|exact ae|refine aa (by omega) ?_));done));rfl|apply gO;rfl;rfl;rfl;(focus(kernel_rfl))|refine bO (e6 rfl rfl Tryz.underlying80 rfl) rfl rfl rfl ?_
 refine aZ rfl rfl rfl (by kernel_rfl) (Gi (kI (g:=51) (caps:= [.ptr nx 0]) (W:=fun e=>e.1 == k) (hb.frame hund (fun m hm=>by(repeat(refine aa (by omega) ?_));rfl)) hm (by kernel_rfl) (fun e H' nx' _ hf=>Cu ((hf nx (by omega)).trans (by repeat(first|exact ae|refine aa (by omega) ?_))) e)) ?_)
 rintro⟨v,H8,n8⟩ ⟨p1,p2,(⟨hn',rfl⟩|⟨l',s,hn',rfl,w⟩)⟩
 ·rw [hn] at hn';cases hn'
 rw [hn] at hn'
 cases hn'
 dsimp only at p1 p2 w ⊢
 have b1:H8.at' (nx+1)=some (an 65 [cF]):=(p2 (nx+1) (by omega)).trans (by repeat(first|exact ae|refine aa (by omega) ?_))
 have b2:H8.at' (nx+1+1)=some (l8 0):=(p2 (nx+1+1) (by omega)).trans (by repeat(exact ae))
 have bo: ∀ m,m<nx→H8.at' m=H.at' m:=fun m hm=>(p2 m (by omega)).trans (by(repeat(refine aa (by omega) ?_));rfl)
 clear p2
 rcases w with ⟨rfl,rfl⟩|⟨re,k1,rfl,k2,k3,k4⟩
 ·repeat first|apply ah;rfl|apply aM;rfl;(focus((repeat(first|assumption|exact ae));done));rfl|apply jK;rfl;rfl|refine bO (cj (F.un _ rfl) rfl) rfl rfl rfl ?_
  refine bv (α:=Nat) (fun x=> [(4,.ptr (nx+1) 0),(5,.ptr (nx+1+1) 0),(25,.sc (.int .i64 0)),(26,.sc (.int .i64 0))])
   (fun x H9 n9=>n8≤n9∧H9.at' (nx+1)=some (an 65 [cF])∧H9.at' (nx+1+1)=some (l8 0)∧ ∀ m,m<nx→H9.at' m=H.at' m) (fun x=>0) 0
   ⟨EE _,by repeat(first|assumption|refine aa (by omega) ?_),by repeat(exact ae),fun m hm=>by(repeat(refine aa (by omega) ?_));exact bo m hm⟩ (Gq (Gt rfl)) ?_
  rintro x H9 n9 ⟨u1,u2,u3,u4⟩ _
  repeat first|apply ah;rfl|apply aM;rfl;(focus((repeat(first|assumption|refine aa (by omega) ?_));done));rfl|refine mb rfl rfl rfl rfl (F.sz _ rfl) (by assumption) rfl (by exact Ep rfl) rfl ?_|apply si;rfl;decide
  refine eR Tryz.func26 (congrArg Array.toList Tryz.results26) (by kernel_rfl) (Gi yd ?_)
  rintro _ rfl
  refine⟨_,(by(repeat(first|exact Gk|apply Gl rfl (Gp (F.ag _ rfl) (by repeat(first|exact ae|refine aa (by omega) ?_)) (aF rfl))))),?_⟩
  exact⟨by first|omega|(dsimp only;omega),fun m hm=>by(repeat(refine aa (by omega) ?_));exact u4 m hm,cF,rfl,.inl ⟨rfl,rfl⟩⟩
 ·repeat first|apply ah;rfl|apply aM;rfl;(focus((repeat(first|assumption|exact ae));done));rfl|apply jK;rfl;rfl
  refine bv (α:=Nat×SV) (fun x=> [(4,.ptr (nx+1) 0),(5,.ptr (nx+1+1) 0),(24,.slu re 0 l.length),(25,.sc (.int .i64 (l.length:Int))),(26,.sc (.int .i64 (x.1:Int)))])
   (fun x H9 n9=>x.1≤l.length∧n8≤n9∧H9.at' (nx+1)=some (an 65 [x.2])∧H9.at' (nx+1+1)=some (l8 0)∧H9.at' re=some (DY l)∧TdAt H9 x.2 (l.take x.1) n8 n9∧ ∀ m,m<nx→H9.at' m=H.at' m) (fun x=>l.length-x.1) (0,cF)
   ⟨EF _,EE _,by repeat(first|assumption|refine aa (by omega) ?_),by repeat(exact ae),by(repeat(refine aa (by omega) ?_));exact k4,.inl ⟨rfl,rfl⟩,fun m hm=>by(repeat(refine aa (by omega) ?_));exact bo m hm⟩ (Gq (Gt rfl)) ?_
  clear b1 b2 bo k4
  rintro⟨x,s⟩ H9 n9 ⟨u0,u1,u2,u3,u4,u5,u6⟩ ih
  dsimp only at u0 u1 u2 u3 u4 u5 u6 ih ⊢
  have hone:=u5.one
  repeat apply ah;rfl
  refine bq rfl rfl rfl rfl (fun c1=>?_) (fun c1=>?_)
  ·have hx:x<l.length:=by omega
   have hf:=hJ (f:=fX) (sz:=3) (fun _=>rfl) l x 0 3 hx (by decide)
   have ht:l.take x ++ [l[x]]=l.take (x+1):=(List.take_succ_eq_append_getElem hx).symm
   have hlt:(l.take x).length≤100000:=by rw [ET];omega
   rcases u5 with ⟨h0,rfl⟩|⟨r,v1,rfl,v2,v3,v4⟩
   ·repeat first|refine ew (q:=x) rfl rfl rfl rfl (F.un _ rfl) (F.sz _ rfl) (by exact u4) rfl hx (EE _) ?_|refine eu (us:=fX l[x]) rfl rfl rfl (F.ag _ rfl) (by(repeat(refine aa (by omega) ?_));exact u4) hf rfl (by omega) ?_|refine cN rfl rfl rfl (F.ag _ rfl) (by repeat(first|assumption|exact ae|refine aa (by omega) ?_)) (aB 2 1 rfl rfl) ?_|apply ah;rfl|apply aM;rfl;(focus((repeat(first|assumption|exact ae|refine aa (by omega) ?_));done));rfl|refine er (aU (F.un _ rfl) (F.sz _ rfl) (aN rfl) (F.ze _ rfl) rfl rfl rfl rfl rfl) rfl rfl rfl ?_
    refine gP (b:=16) (n:=1) (cs:=(CP l[x]).map .sc) rfl rfl rfl rfl (F.un _ rfl) (.inl ⟨_,F.un _ rfl⟩) (F.sz _ rfl) rfl (by kernel_rfl) (by kernel_rfl) (SlOf.row (by repeat(exact ae)) rfl) rfl (by decide) (by decide) ?_
    rintro _ _ _ (⟨h,_⟩|⟨_,rfl,rfl,rfl⟩)
    ·exact absurd h (by decide)
    repeat first|apply ah;rfl|apply aM;rfl;(focus((repeat(first|assumption|refine aa (by omega) ?_));done));rfl|apply aC;rfl;omega;omega
    exact ih _ _ _ (x+1,.slu (n9+1+1) 0 1) ⟨hx,by first|omega|(dsimp only;omega),by repeat(exact ae),by repeat(first|assumption|refine aa (by omega) ?_),by(repeat(refine aa (by omega) ?_));exact u4,.inr ⟨n9+1+1,by rw [← ht];simp;exact k1,by rw [← ht,h0];rfl,by first|omega|(dsimp only;omega),by first|omega|(dsimp only;omega),by rw [← ht,h0];exact Eq.trans (b:=some (ft false 1 2 23 ((CP l[x]).map .sc))) (by repeat(first|exact ae|refine aa (by omega) ?_)) (congrArg some (bZ _ _ _ _ (CP l[x])))⟩,fun m hm=>by(repeat(refine aa (by omega) ?_));exact u6 m hm⟩ (by(omega)) (Gq (Gt rfl))
   ·repeat first|refine ew (q:=x) rfl rfl rfl rfl (F.un _ rfl) (F.sz _ rfl) (by exact u4) rfl hx (EE _) ?_|refine eu (us:=fX l[x]) rfl rfl rfl (F.ag _ rfl) (by(repeat(refine aa (by omega) ?_));exact u4) hf rfl (by omega) ?_|refine cN rfl rfl rfl (F.ag _ rfl) (by repeat(first|assumption|exact ae|refine aa (by omega) ?_)) (aB 2 1 rfl rfl) ?_|apply ah;rfl|apply aM;rfl;(focus((repeat(first|assumption|exact ae|refine aa (by omega) ?_|refine bQ (by omega) ?_));done));rfl|apply aC;rfl;omega;omega|refine er (aU (F.un _ rfl) (F.sz _ rfl) (aN rfl) (F.ze _ rfl) rfl rfl rfl rfl rfl) rfl rfl rfl ?_|refine mC (b:=16) (xs:=(l.take x)) (a:=l[x]) rfl rfl rfl rfl (F.un _ rfl) (.inl ⟨_,F.un _ rfl⟩) (F.sz _ rfl) rfl (by kernel_rfl) (by kernel_rfl) (by repeat(first|assumption|refine aa (by omega) ?_)) (by repeat(exact ae)) (by rfl) (recT) (by omega) (by omega) ?_
    exact ih _ _ _ (x+1,.slu (n9+1+1) 0 (l.take x ++ [l[x]]).length) ⟨hx,by first|omega|(dsimp only;omega),by repeat(exact ae),by repeat(first|assumption|refine aa (by omega) ?_|refine bQ (by omega) ?_),by(repeat(first|refine aa (by omega) ?_|refine bQ (by omega) ?_));exact u4,.inr ⟨n9+1+1,by rw [← ht];simp;exact k1,by rw [← ht],by first|omega|(dsimp only;omega),by first|omega|(dsimp only;omega),by rw [← ht];(focus((repeat(first|exact ae|refine aa (by omega) ?_));done))⟩,fun m hm=>by(repeat(first|refine aa (by omega) ?_|refine bQ (by omega) ?_));exact u6 m hm⟩ (by(omega)) (Gq (Gt rfl))
  ·obtain rfl:x=l.length:=by omega
   rw [List.take_length] at u5
   repeat first|refine cq rfl rfl rfl (F.sz _ rfl) (by assumption) hone rfl ?_|apply ah;rfl|apply aM;rfl;(focus((repeat(first|assumption|refine aa (by omega) ?_));done));rfl
   refine eR Tryz.func26 (congrArg Array.toList Tryz.results26) (by kernel_rfl) (Gi yd ?_)
   rintro _ rfl
   refine⟨_,(by(repeat(first|exact Gk|apply Gl rfl (Gp (F.ag _ rfl) (by repeat(first|exact ae|refine aa (by omega) ?_)) (aF rfl))))),?_⟩
   exact⟨by first|omega|(dsimp only;omega),fun m hm=>by(repeat(refine aa (by omega) ?_));exact u6 m hm,s,rfl,(u5.frame (by(dsimp only;omega)) fun m h1 h2=>(by(repeat(refine aa (by omega) ?_));rfl)).low (by omega)⟩
end
structure Mst (mem x:List UInt8):Prop where
 len:mem.length=28672
 root:aR mem 0=root0
 leaf:aR mem 1=x
 rest: ∀ k,2≤k→k<28→aR mem k=zeroP
section
variable {H:ay}{e:bf}{b c:Nat}{left:Int}{nx:Nat}{bs:List Bn.El}{mem:List UInt8}{own:List Ow.El}{x:List UInt8}
theorem Mst.set{y:List UInt8}(h:Mst mem x)(hy:y.length=1024):Mst (bT mem 1 y) y:=by
 have hl:=h.len
 have hg: ∀ k,aR (bT mem 1 y) k=if k=1 then y else aR mem k:=fun k=>kn (by rw [hl];decide) hy
 refine⟨j9 h.len (by decide) hy,?_,?_,fun k h1 h2=>?_⟩
 ·rw [hg,EP (by decide)];exact h.root
 ·rw [hg,EQ rfl]
 ·rw [hg,EP (by omega)];exact h.rest k h1 h2
theorem uI{k:Nat}(hk:k<28):aR zeroM k=zeroP:=by
 unfold aR
 rw [List.drop_replicate,List.take_replicate,Nat.min_eq_left (by omega)]
 rfl
theorem mst0:Mst (qQ zeroM 2) lp0:=by
 have h1:(bT zeroM 1 (dh 3)).length=28672:=j9 iq (by decide) (cQ 3)
 have hg: ∀ k,aR (qQ zeroM 2) k=if k=0 then root0 else aR (bT zeroM 1 (dh 3)) k:=fun k=>kn (by rw [h1];decide) kf
 have hg2: ∀ k,aR (bT zeroM 1 (dh 3)) k=if k=1 then dh 3 else aR zeroM k:=fun k=>kn (by rw [iq];decide) (cQ 3)
 refine⟨j9 h1 (by decide) kf,?_,?_,fun k h1 h2=>?_⟩
 ·rw [hg,EQ rfl]
 ·rw [hg,EP (by decide),hg2,EQ rfl];rfl
 ·rw [hg,EP (by omega),hg2,EP (by omega),uI h2]
theorem Mst.home(h:Mst mem x){left:List Int}(hl:eM x bs0 0=some (own,left))(e:bf):Home mem e bs0 1 own left:=by
 refine⟨by rw [h.root];exact AO,rfl,?_⟩
 rw [h.leaf]
 exact hl
theorem Mst.ent(h:Mst mem x){left:List Int}(hl:eM x bs0 0=some (own,left))(W:bf→Bool):rz mem W=some ((own.map (·.1)).filter W):=by
 unfold rz
 rw [h.root,AO]
 show(match some [] with|none=>none|some l=>match eM (aR mem 1) bs0 0 with|none=>none|some (own,_)=>some (l ++ (own.map (fun x:Ow.El=>x.1)).filter W))=_
 rw [h.leaf,hl]
 rfl
theorem ly(k:ByteArray)(p s:Int):Fnc Tryz.prog 25 [.sc (.string k),.sc (.int .i64 p),.sc (.int .i64 s)] H nx (fun q=>q=(gC (k,p,s),H,nx)):=by
 refine Fnc.bW (ry _) ?_
 refine Gj Tryz.func25 rfl rfl ?_
 repeat first|apply ah;rfl|apply aM;rfl;(focus((repeat(exact ae));done));rfl
 ((apply bw Tryz.func25 (congrArg Array.toList Tryz.results25));(focus(repeat(first|exact Gk|apply Gl rfl (Gn (F.ag _ rfl) (by repeat(exact ae)) (aB _ 0 rfl rfl))))))
 exact⟨rfl,EN _,fun m hm=>by(repeat(refine aa (by omega) ?_));rfl⟩
theorem x9:Fnc Tryz.prog 19 [] H nx (fun q=>q.1 = .ptr nx 0∧PgAt q.2.1 nx (qQ zeroM 2) (-3) 0∧nx<q.2.2∧ ∀ m,m<nx→NoPut H m→q.2.1.at' m=H.at' m):=by
 refine Gj Tryz.func19 rfl rfl ?_
 repeat first|refine bO (eI rfl Dd BO Af) rfl rfl rfl ?_|apply ah;rfl
 refine aZ rfl rfl rfl (by kernel_rfl) (Gi (DI (b:=nx) (mem:=zeroM) (left:= -1) (aw _ _ _) iq (by decide) (by decide)) ?_)
 rintro⟨_,H1,n1⟩ ⟨rfl,⟨s,g1,g2⟩,g3,g4⟩
 dsimp only at g1 g2 g3 g4 ⊢
 obtain⟨mem,hmem⟩: ∃ mem,mem=qQ zeroM 2:=⟨_,rfl⟩
 have hml:mem.length=28672:=by rw [hmem];exact mst0.len
 rw [← hmem] at g1 ⊢
 repeat apply ah;rfl
 refine cq (cs:=lP mem s (-1-1-1) false) rfl rfl rfl (F.sz _ rfl) g1 rfl (Es (by rw [gl hml];decide)) ?_
 rw [show ∀ x,(lP mem s (-1-1-1) false).set (0+28672) x=lP mem x (-1-1-1) false from fun x=>mf hml _ _ _ _]
 repeat apply ah;rfl
 (apply b8 Tryz.func19 Tryz.results19;rfl)
 exact⟨rfl,⟨cF,aw _ _ _,.inl ⟨rfl,rfl⟩⟩,by first|omega|(dsimp only;omega),fun m h1 h2=>(ab _ _ (by omega)).trans ((g4 m (by omega) (by omega) (h2.same (ab _ _ (by omega)))).trans (ab _ _ (by omega)))⟩
theorem Du{lo1 hi1 lo2 hi2:Nat}{s1 s2:SV}{l1 l2:List bf}(h1:EnAt H s1 l1 lo1 hi1)(h2:EnAt H s2 l2 lo2 hi2)(hl1:l1.length≤100000)(hl2:l2.length≤100000):Fnc Tryz.prog 24 [s1,s2] H nx (fun q=>q=(.sc (.bool (decide (l1=l2))),H,nx)):=by
 refine Gj Tryz.func24 rfl rfl ?_
 rcases h1 with ⟨rfl,rfl⟩|⟨r1,a1,rfl,a2,a3,a4⟩ <;> rcases h2 with ⟨rfl,rfl⟩|⟨r2,b1,rfl,b2,b3,b4⟩
 ·repeat first|apply ah;rfl|refine bO (cj (F.un _ rfl) rfl) rfl rfl rfl ?_|apply jK;rfl;rfl
  refine bv (α:=Nat) (fun x=> [(0,cF),(5,.sc (.int .i64 0))]) (fun x H7 n7=>H7=H∧n7=nx) (fun x=>0) 0 ⟨rfl,rfl⟩ (Gq (Gt rfl)) ?_
  rintro x H7 n7 ⟨rfl,rfl⟩ _
  repeat first|apply ah;rfl|refine bO (cj (F.un _ rfl) rfl) rfl rfl rfl ?_|apply si;rfl;decide
  (apply b8 Tryz.func24 Tryz.results24;rfl)
  rfl
 ·have hn: ¬ ([]:List bf)=l2:=fun h=>b1 h.symm
  have hn0:0<l2.length:=List.length_pos_iff.2 b1
  repeat first|apply ah;rfl|refine bO (cj (F.un _ rfl) rfl) rfl rfl rfl ?_|apply sh;rfl;omega
  (apply b8 Tryz.func24 Tryz.results24;rfl)
  rw [E9 hn];rfl
 ·have hn: ¬ l1=([]:List bf):=a1
  have hn0:0<l1.length:=List.length_pos_iff.2 a1
  repeat first|apply ah;rfl|refine bO (cj (F.un _ rfl) rfl) rfl rfl rfl ?_|apply sh;rfl;omega
  (apply b8 Tryz.func24 Tryz.results24;rfl)
  rw [E9 hn];rfl
 ·repeat apply ah;rfl
  refine fp rfl rfl rfl rfl (fun c0=>?_) (fun c0=>?_)
  ·have hn: ¬ l1=l2:=fun h=>c0 (by rw [h])
   repeat apply ah;rfl
   (apply b8 Tryz.func24 Tryz.results24;rfl)
   rw [E9 hn];rfl
  have hll:l1.length=l2.length:=by omega
  repeat apply ah;rfl
  refine bv (α:=Nat) (fun x=> [(0,.slu r1 0 l1.length),(1,.slu r2 0 l2.length),(5,.sc (.int .i64 (x:Int)))]) (fun x H7 n7=>H7=H∧n7=nx∧x≤l1.length∧l1.take x=l2.take x) (fun x=>l1.length-x) 0 ⟨rfl,rfl,EF _,rfl⟩ (Gq (Gt rfl)) ?_
  rintro x H7 n7 ⟨rfl,rfl,h3,h4⟩ ih
  repeat apply ah;rfl
  refine bq rfl rfl rfl rfl (fun c1=>?_) (fun c1=>?_)
  ·have hx:x<l1.length:=by omega
   have hx2:x<l2.length:=by omega
   have hf1:=hJ (f:=fX) (sz:=3) (fun _=>rfl) l1 x 0 3 hx (by decide)
   have hf2:=hJ (f:=fX) (sz:=3) (fun _=>rfl) l2 x 0 3 hx2 (by decide)
   repeat apply ah;rfl
   (apply bU;(focus(kernel_rfl));(focus(kernel_rfl)))
   repeat first|refine ak (q:=x) rfl rfl rfl rfl (F.un _ rfl) (F.sz _ rfl) a4 rfl hx (EE _) ?_|refine ak (q:=x) rfl rfl rfl rfl (F.un _ rfl) (F.sz _ rfl) b4 rfl hx2 (EE _) ?_|refine cv (us:=fX l1[x]) rfl rfl rfl (F.ag _ rfl) a4 hf1 rfl (by omega) ?_|refine cv (us:=fX l2[x]) rfl rfl rfl (F.ag _ rfl) b4 hf2 rfl (by omega) ?_|apply az;rfl
   cases hse:eE l1[x] l2[x] with
   | true=>
     (apply cd;rfl;rfl;exact(fun _ h=>by cases h);exact(iY (a:=l1[x]) (b:=l2[x]) hse rfl rfl))
     refine au ⟨by kernel_rfl,?_,?_⟩;(focus(repeat(first|exact Gu|apply jk;rfl;kernel_rfl|apply oD;kernel_rfl)))
     have he:l1[x]=l2[x]:=E1 hse
     repeat first|apply ah;rfl|apply aC;rfl;omega;omega
     exact ih _ _ _ (x+1) ⟨rfl,rfl,hx,by rw [List.take_succ_eq_append_getElem hx,List.take_succ_eq_append_getElem hx2,h4,he]⟩ (by omega) (Gq (Gt rfl))
   | false=>
     (apply cd;rfl;rfl;exact(fun _ h=>by cases h);exact(iY (a:=l1[x]) (b:=l2[x]) hse rfl rfl))
     refine au ⟨by kernel_rfl,?_,?_⟩;(focus(repeat(first|exact Gu|apply jk;rfl;kernel_rfl|apply oD;kernel_rfl)))
     have hn: ¬ l1=l2:=fun h=>by subst h;exact of_decide_eq_false hse rfl
     repeat apply ah;rfl
     (apply b8 Tryz.func24 Tryz.results24;rfl)
     rw [E9 hn];rfl
  ·obtain rfl:x=l1.length:=by omega
   have he:l1=l2:=by rw [List.take_length,hll,List.take_length] at h4;exact h4
   repeat apply ah;rfl
   (apply b8 Tryz.func24 Tryz.results24;rfl)
   rw [E8 he];rfl
theorem Cq(hb:PgAt H b mem left c)(he:gz e=false):Fnc Tryz.prog 21 [og b,gC e] H nx (fun q=>q.1 = .sc (.int .i64 2)∧PgAt q.2.1 b mem left c∧nx≤q.2.2∧ ∀ m,m<nx→q.2.1.at' m=H.at' m):=by
 refine Gj Tryz.func21 rfl rfl ?_
 refine bh fun hund=>?_
 have hmf:=fun(H:ay) (nx:Nat)=>sN e (H:=H) (nx:=nx)
 rw [he] at hmf
 repeat first|apply cT;rfl;kernel_rfl;exact hmf _ _|apply ah;rfl|apply aM;rfl;(focus((repeat(first|exact ae|refine aa (by omega) ?_));done));rfl|apply gO;rfl;rfl;rfl;(focus(kernel_rfl))|refine bO (e6 rfl rfl Tryz.underlying80 rfl) rfl rfl rfl ?_
 refine eR Tryz.func21 (congrArg Array.toList Tryz.results21) (by kernel_rfl) (Gi oA ?_)
 rintro _ rfl
 refine⟨_,(by(repeat(first|exact Gk|apply Gl rfl (Gp (F.ag _ rfl) (by repeat(exact ae)) (aF rfl))))),?_⟩
 exact⟨rfl,hb.frame hund (fun m hm=>by(repeat(refine aa (by omega) ?_));rfl),by first|omega|(dsimp only;omega),fun m hm=>by(repeat(refine aa (by omega) ?_));rfl⟩
theorem CC(hb:PgAt H b mem left c)(he:gz e=false):Fnc Tryz.prog 20 [og b,gC e] H nx (fun q=>q.1 = .sc (.int .i64 2)∧PgAt q.2.1 b mem left c∧nx≤q.2.2∧ ∀ m,m<nx→q.2.1.at' m=H.at' m):=by
 refine Gj Tryz.func20 rfl rfl ?_
 refine bh fun hund=>?_
 have hmf:=fun(H:ay) (nx:Nat)=>sN e (H:=H) (nx:=nx)
 rw [he] at hmf
 repeat first|apply cT;rfl;kernel_rfl;exact hmf _ _|apply ah;rfl|apply aM;rfl;(focus((repeat(first|exact ae|refine aa (by omega) ?_));done));rfl|apply gO;rfl;rfl;rfl;(focus(kernel_rfl))|refine bO (e6 rfl rfl Tryz.underlying80 rfl) rfl rfl rfl ?_
 refine eR Tryz.func20 (congrArg Array.toList Tryz.results20) (by kernel_rfl) (Gi uw ?_)
 rintro _ rfl
 refine⟨_,(by(repeat(first|exact Gk|apply Gl rfl (Gp (F.ag _ rfl) (by repeat(exact ae)) (aF rfl))))),?_⟩
 exact⟨rfl,hb.frame hund (fun m hm=>by(repeat(refine aa (by omega) ?_));rfl),by first|omega|(dsimp only;omega),fun m hm=>by(repeat(refine aa (by omega) ?_));rfl⟩
theorem HomeOk.home(h:IxH mem bs){y:Bn.El}{left:List Int}(g:HomeOk mem bs e y own left):Home mem e bs (db y) own left:=⟨h.read,g.num.symm,g.leaf⟩
abbrev CO(del:Bool)(H:ay)(nx b c:Nat)(mem:List UInt8)(bs:List Bn.El)(e:bf)(left:Int):Pst:=fun q=> ∃ (no:Nat) (mem':List UInt8) (bs':List Bn.El) (left':Int) (c':Nat),q.1 = .sc (.int .i64 (no:Int))∧StepIs del mem bs e no mem' bs'∧PgAt q.2.1 b mem' left' c'∧(left-4≤left'∧left'≤left)∧c'≤c+4∧nx≤q.2.2∧Kept H q.2.1 b nx∧(left<0→no≠8)
theorem StepQ.done{del:Bool}{no:Nat}{bs':List Bn.El}{ws:List (Nat×List UInt8)}{q:SV×ay×Nat}(h:StepQ H nx b c no mem ws left q)(hw:ws.length≤4)(h8:no≠8)(hs:StepIs del mem bs e (gE left ws.length no) (dU mem (ws.take (fC left ws.length))) bs'):CO del H nx b c mem bs e left q:=by
 obtain⟨h1,h2,h3,h4,_⟩:=h
 have hc:=s9 left ws.length
 refine⟨_,_,bs',_,_,h1,hs,h2,⟨by omega,by omega⟩,by omega,h3,h4,fun hl=>?_⟩
 rw [gE,EP (by omega)]
 exact h8
theorem vA(hb:PgAt H b mem left c)(hI:IxH mem bs)(hl2 : -100000000≤left∧left≤9223372036854775807)(hc:c≤999990):Fnc Tryz.prog 21 [og b,gC e] H nx (CO false H nx b c mem bs e left):=by
 cases he:gz e with
 | false=>
   refine Gi (Cq hb he) ?_
   rintro⟨_,H1,n1⟩ ⟨rfl,g0,g1,g2⟩
   exact⟨2,mem,bs,left,c,rfl,.arg hI e,g0,⟨by omega,by omega⟩,by omega,g1,Kept.old g2,fun _=>by decide⟩
 | true=>
   obtain⟨y,own,lf,g⟩:=xX hI he
   obtain⟨no,ws,hx⟩: ∃ no ws,uc (aR mem 0) (aR mem (db y)) bs (db y) own lf e=(no,ws):=⟨_,_,rfl⟩
   have hL:=Cp hI he g hx
   obtain⟨bs',hs⟩:=DP hL left
   refine Gi (xP hb hI.len he (g.home hI) hx hl2 hc) fun q hq=>hq.done hL.few ?_ hs
   rcases hL.nos with h|h|h <;> omega
theorem vJ(hb:PgAt H b mem left c)(hI:IxH mem bs)(hl2 : -100000000≤left∧left≤9223372036854775807)(hc:c≤999990):Fnc Tryz.prog 20 [og b,gC e] H nx (CO true H nx b c mem bs e left):=by
 cases he:gz e with
 | false=>
   refine Gi (CC hb he) ?_
   rintro⟨_,H1,n1⟩ ⟨rfl,g0,g1,g2⟩
   exact⟨2,mem,bs,left,c,rfl,.arg hI e,g0,⟨by omega,by omega⟩,by omega,g1,Kept.old g2,fun _=>by decide⟩
 | true=>
   obtain⟨y,own,lf,g⟩:=xX hI he
   obtain⟨no,ws,hx⟩: ∃ no ws,Aj (aR mem (db y)) (db y) own e=(no,ws):=⟨_,_,rfl⟩
   have hL:=CB hI g hx
   have hs:=D6 hL left
   have hlen:ws.length≤4:=by
    rcases hL.nos with h|h
    ·rw [hL.one h];decide
    ·rw [hL.none' (by omega)];exact EF _
   refine Gi (D5 hb hI.len he (g.home hI) hx (fun z hz=>?_) hl2 hc) fun q hq=>hq.done hlen ?_ hs
   ·obtain⟨j,e1,h1,_,h3⟩:=(g.is'.mem _).1 (iW hz)
    simp only [Et] at h3
    obtain⟨x,hx,_⟩:=h1
    rw [h3.2,E7]
    exact lA (hI.leaf y g.hom.1).ok hx
   ·rcases hL.nos with h|h <;> omega
theorem rx{mem:List UInt8}{bs:List Bn.El}{W:bf→Bool}(hm:mem.length=28672)(hb: ∀ x∈bs,∃ k:Nat,1≤k∧k<28∧x.1=((4+k:Nat):Int)): ∀ {n:Nat} {l:List bf},n≤bs.length→kJ mem bs W n=some l→l.length≤252*n
 | 0,l,_,h=>by cases h;exact EE _
 | n+1,l,hn,h=>by
   have hn2:n<bs.length:=hn
   obtain⟨k,k1,k2,k3⟩:=hb _ (EO hn2)
   have hlk:lk bs n=k:=by unfold lk;rw [Ez,En hn2];show(bs[n].1).toNat-4=k;rw [k3];omega
   unfold kJ at h
   cases h0:kJ mem bs W n with
   | none=>rw [h0] at h;cases h
   | some l0=>
     have h1:=rx hm hb (by omega) h0
     rw [h0,hlk] at h
     simp only at h
     cases hl:eM (aR mem k) bs n with
     | none=>rw [hl] at h;cases h
     | some y=>
       obtain⟨own,left⟩:=y
       have h2:=kC hl
       have h3:=gZ (dw hm k2) hl
       rw [hl] at h
       cases h
       have h4:((own.map (·.1)).filter W).length≤own.length:=by
        have:=List.length_filter_le W (own.map (·.1))
        rwa [EU] at this
       rw [EI]
       omega
theorem Ag{W:bf→Bool}{l:List bf}(hm:mem.length=28672)(h:rz mem W=some l):l.length≤8000:=by
 unfold rz at h
 cases hr:gj (aR mem 0)with
 | none=>rw [hr] at h;cases h
 | some bs=>
   rw [hr] at h
   obtain⟨_,h2,h3⟩:=iB hr
   have:=rx hm h3 (EE _) h
   omega
theorem CK(hb:PgAt H b mem left c)(hI:IxH mem bs):Fnc Tryz.prog 22 [og b] H nx (fun q=>nx≤q.2.2∧(∀ m,m<nx→q.2.1.at' m=H.at' m)∧ ∃ l s,q.1 = .tup [s,.sc (.int .i64 0)]∧EnAt q.2.1 s l nx q.2.2∧l.Pairwise (fun a b=>bl a b=true)∧(∀ e,e∈l↔HasH mem bs e)∧l.length≤8000):=by
 obtain⟨l,h1,h2,h3⟩:=A4 hI.ix (fun _=>true)
 refine Gi (all_s hb hI.len) ?_
 rintro⟨_,H1,n1⟩ ⟨g1,g2,(⟨g3,rfl⟩|⟨l',s,g3,rfl,g4⟩)⟩
 ·rw [h1] at g3;cases g3
 ·rw [h1] at g3
  cases g3
  exact⟨g1,g2,l,s,rfl,g4,h2,fun e=>(h3 e).trans ⟨fun h=>(ug hI.bnds e).1 h.1,fun h=>⟨(ug hI.bnds e).2 h,rfl⟩⟩,Ag hI.len h1⟩
theorem yB(hb:PgAt H b mem left c)(hI:IxH mem bs):Fnc Tryz.prog 23 [og b] H nx (fun q=>q.1 = .sc (.int .i64 0)∧nx≤q.2.2∧ ∀ m,m<nx→q.2.1.at' m=H.at' m):=by
 obtain⟨l,h1,_⟩:=A4 hI.ix (fun _=>false)
 refine Gj Tryz.func23 rfl rfl ?_
 refine bh fun hund=>?_
 repeat first|apply ah;rfl|apply gO;rfl;rfl;rfl;(focus(kernel_rfl))|refine bO (e6 rfl rfl Tryz.underlying80 rfl) rfl rfl rfl ?_
 refine aZ rfl rfl rfl (by kernel_rfl) (Gi (Fnc.fnC <| kI (g:=49) (caps:= []) (W:=fun _=>false) (hb.frame hund (fun m hm=>by(repeat(refine aa (by omega) ?_));rfl)) hI.len (by kernel_rfl) (fun e H' nx' _ _=>Ap e)) ?_)
 rintro⟨v,H8,n8⟩ ⟨p1,p2,(⟨hn,rfl⟩|⟨l',s,hn,rfl,w⟩)⟩
 ·rw [h1] at hn;cases hn
 dsimp only at p1 p2 w ⊢
 have b1:H8.at' nx=some (l8 0):=(p2 nx (by omega)).trans (by repeat(exact ae))
 have bo: ∀ m,m<nx→H8.at' m=H.at' m:=fun m hm=>(p2 m (by omega)).trans (by(repeat(refine aa (by omega) ?_));rfl)
 clear p2
 repeat first|apply ah;rfl|apply aM;rfl;(focus((repeat(first|assumption|exact ae));done));rfl
 refine eR Tryz.func23 (congrArg Array.toList Tryz.results23) (by kernel_rfl) (Gi Aq ?_)
 rintro _ rfl
 refine⟨_,(by(repeat(first|exact Gk|apply Gl rfl (Gp (F.ag _ rfl) (by repeat(exact ae)) (aF rfl))))),?_⟩
 exact⟨rfl,by first|omega|(dsimp only;omega),fun m hm=>by(repeat(refine aa (by omega) ?_));exact bo m hm⟩
theorem yb:Fnc Tryz.prog 19 [] H nx (fun q=>q.1 = .ptr nx 0∧(∃ mem bs,PgAt q.2.1 nx mem (-3) 0∧IxH mem bs∧ ∀ e,¬ HasH mem bs e)∧nx<q.2.2∧ ∀ m,m<nx→NoPut H m→q.2.1.at' m=H.at' m):=by
 have h0:=mst0
 obtain⟨bs,h1,h2⟩:=z7 h0.len h0.root h0.leaf ub
 refine Gi x9 ?_
 rintro⟨_,H1,n1⟩ ⟨rfl,g1,g2,g3⟩
 exact⟨rfl,⟨_,bs,g1,h1,h2⟩,g2,g3⟩
end
structure StT where
 del:Bool
 e:bf
 left:Int
 n:Int
 at':Int
 by':Int
section
variable {l:List StT}
abbrev stV(s:StT):List Value:= [.bool s.del,.string s.e.1,.int .i64 s.e.2.1,.int .i64 s.e.2.2,.int .i64 s.left,.int .i64 s.n,.int .i64 s.at',.int .u8 s.by']
abbrev stR(ro:Bool)(l:List StT):VO:=dat ro l.length 8 46 (l.flatMap stV)
theorem DT(l:List StT)(i o n:Nat)(hi:i<l.length)(h:o+n≤8):((l.flatMap stV).drop (i*8+o)).take n=((stV l[i]).drop o).take n:=hJ (f:=stV) (sz:=8) (fun _=>rfl) l i o n hi h
theorem ph{H:ay}{m:Nat}{ro:Bool}(h:H.at' m=some (stR ro l)):NoPut H m:=fun c ws h2=>by
 rw [h] at h2
 injection h2 with h2
 unfold stR dat at h2
 injection h2 with _ _ h2
 exact absurd h2 (by decide)
def l6(l:List StT)(most:Nat):Bool:=(l.take (most+1)).any (fun s=>decide (300<s.e.1.size)) || decide (most<l.length)
theorem DG{H:ay}{nx r:Nat}{ro:Bool}(hr:H.at' r=some (stR ro l))(hl:l.length≤9223372036854775807):Fnc Tryz.prog 18 [.slu r 0 l.length,.sc (.int .i64 300)] H nx (fun q=>q=(.sc (.bool (l6 l 300)),H,nx)):=by
 refine Fnc.bW (Free.sc _) ?_
 refine Gj Tryz.func18 rfl rfl ?_
 repeat apply ah;rfl
 refine bv (α:=Nat) (fun x=> [(0,.slu r 0 l.length),(1,.sc (.int .i64 300)),(5,.sc (.int .i64 (x:Int)))])
  (fun x H7 n7=>x≤l.length∧x≤301∧H7=H∧n7=nx∧(l.take x).any (fun s=>decide (300<s.e.1.size))=false) (fun x=>301-x) 0 ⟨EF _,by decide,rfl,rfl,rfl⟩ (Gq (Gt rfl)) ?_
 rintro x H7 n7 ⟨h1,h2,rfl,rfl,h3⟩ ih
 repeat apply ah;rfl
 refine bq rfl rfl rfl rfl (fun c1=>?_) (fun c1=>?_)
 ·have hx:x<l.length:=by omega
  repeat apply ah;rfl
  refine lK rfl rfl rfl rfl (fun c2=>?_) (fun c2=>?_)
  ·have htk:(l.take (x+1)).any (fun s=>decide (300<s.e.1.size))=decide (300<(l[x]).e.1.size):=by
    rw [List.take_succ_eq_append_getElem hx,List.any_append,h3];simp
   have hv:(l.flatMap stV)[x*8+1]? =some (.string (l[x]).e.1):=by
    have h:=DT l x 1 1 hx (by decide)
    have h2:=congrArg (·[0]?) h
    simpa [List.getElem?_take,List.getElem?_drop] using h2
   repeat first|refine ew (q:=x) rfl rfl rfl rfl (F.un _ rfl) (F.sz _ rfl) hr rfl hx (EE _) ?_|apply ah;rfl
   refine gN (v:= .string (l[x]).e.1) rfl rfl rfl (F.ag _ rfl) hr hv (by omega) ?_
   repeat apply ah;rfl
   refine dI rfl rfl rfl rfl (fun c3=>?_) (fun c3=>?_)
   ·have hm:l6 l 300=true:=by
     unfold l6
     rw [Bool.or_eq_true]
     refine .inl (List.any_eq_true.2 ⟨l[x],?_,E8 (by omega)⟩)
     exact List.mem_take_iff_getElem.2 ⟨x,by omega,rfl⟩
    repeat apply ah;rfl
    (apply b8 Tryz.func18 Tryz.results18;rfl)
    exact⟨by rw [hm];rfl,EE _,fun m _=>rfl⟩
   ·repeat first|apply ah;rfl|apply aC;rfl;omega;omega
    exact ih _ _ _ (x+1) ⟨by omega,by omega,rfl,rfl,htk.trans (E9 (by omega))⟩ (by omega) (Gq (Gt rfl))
  ·have hx1:x=301:=by omega
   subst hx1
   have hm:l6 l 300=true:=by
    unfold l6
    rw [Bool.or_eq_true]
    exact .inr (E8 (by omega))
   repeat first|apply w_cT;rfl;omega|apply ah;rfl
   (apply b8 Tryz.func18 Tryz.results18;rfl)
   exact⟨by rw [hm];rfl,EE _,fun m _=>rfl⟩
 ·have hx1:x=l.length:=by omega
  subst hx1
  rw [List.take_length] at h3
  repeat apply ah;rfl
  refine dI rfl rfl rfl rfl (fun c3=>?_) (fun c3=>?_)
  ·have hm:l6 l 300=true:=by
    unfold l6
    rw [Bool.or_eq_true]
    exact .inr (E8 (by omega))
   repeat apply ah;rfl
   (apply b8 Tryz.func18 Tryz.results18;rfl)
   exact⟨by rw [hm];rfl,EE _,fun m _=>rfl⟩
  ·have hm:l6 l 300=false:=by
    unfold l6
    rw [Ew (by omega),h3,E9 (by omega)];rfl
   repeat apply ah;rfl
   (apply b8 Tryz.func18 Tryz.results18;rfl)
   exact⟨by rw [hm];rfl,EE _,fun m _=>rfl⟩
theorem Ca(h:l6 l 300=false):l.length≤300:=by
 unfold l6 at h
 rw [Bool.or_eq_false_iff] at h
 have:=of_decide_eq_false h.2
 omega
end
section
variable {H:ay} {T:Tr SV} {d:Option Tmp} {ty:TypeId} {pos:String} {af:Array Edge} {gd:Option (Nat×Bool)}
theorem zA{x y:Operand}{yt:TypeId}{a b:Int×Int}{r:Bool}(hr:decide (a=b)=r)(hx:aq T x=some (.agg [.sc (.int .i64 a.1),.sc (.int .i64 a.2)]))(hy:aq T y=some (.agg [.sc (.int .i64 b.1),.sc (.int .i64 b.2)])):ReadDoes Tryz.prog T H ⟨d,.binOp .eql 23 x y yt,ty,pos,af,gd⟩ (.sc (.bool r)):=by
 subst hr
 intro K w0 e nx w ev hS hE
 refine⟨_,rfl,?_⟩
 have e1:ev x = .agg #[.int .i64 a.1,.int .i64 a.2]:=by simpa [SV.conc,SV.aD] using (hE x _ hx).symm
 have e2:ev y = .agg #[.int .i64 b.1,.int .i64 b.2]:=by simpa [SV.conc,SV.aD] using (hE y _ hy).symm
 have h:=fun w=>tD 9998 a b w
 simp [execOp,e1,e2,run_eqGuard_agg (P:=Tryz.prog) w .eql 23 x y _ _ (by kernel_rfl),run_eql_struct,h]
end
section
variable {ro:Option Nat} {fn nt nx i:Nat} {T:Tr SV} {k:List AIt} {dfs:List ADf} {H:ay} {Q:Pst} {ops:Array Oper} {l:List Oper} {ty:TypeId} {pos:String} {af:Array Edge} {gd:Option (Nat×Bool)}
theorem wq{x y:Operand}{yt:TypeId}{a b:Int×Int}{r:Bool}{dd:Nat}(hw:aE T ops ⟨some dd,.binOp .eql 23 x y yt,ty,pos,af,gd⟩=some true)(hd:Nat.blt dd nt=true)(hr:decide (a=b)=r)(hx:aq T x=some (.agg [.sc (.int .i64 a.1),.sc (.int .i64 a.2)]))(hy:aq T y=some (.agg [.sc (.int .i64 b.1),.sc (.int .i64 b.2)]))
 (h:Wp Tryz.prog ro ⟨fn,nt,T.set dd (.sc (.bool r)),.inReg ops (i+1) l :: k,dfs,H,nx⟩ Q):Wp Tryz.prog ro ⟨fn,nt,T,.inReg ops i (⟨some dd,.binOp .eql 23 x y yt,ty,pos,af,gd⟩ :: l) :: k,dfs,H,nx⟩ Q:=
 dn hw (.inr (fun _ h=>by cases h)) ((zA hr hx hy).does) (by rw [aI hd];exact h)
end
section
variable {H:ay}{nx:Nat}{t:TypeId}{P:Program}
theorem insX0:uc root0 lp0 bs0 1 [] [] eB1=(0,[(1,lp1)]):=by kernel_rfl
theorem insX1:uc root0 lp1 bs0 1 [(eB1,0)] [] eA0=(0,[(1,lp2)]):=by kernel_rfl
theorem insX2:uc root0 lp2 bs0 1 [(eA0,1),(eB1,0)] [] eB9=(0,[(1,lp3)]):=by kernel_rfl
theorem insX3:uc root0 lp3 bs0 1 [(eA0,1),(eB9,2),(eB1,0)] [] eA0=(14,[]):=by kernel_rfl
theorem delX3:Aj lp3 1 [(eA0,1),(eB9,2),(eB1,0)] eC0=(6,[]):=by kernel_rfl
theorem StepQ.all{b c no:Nat}{mem:List UInt8}{ws:List (Nat×List UInt8)}{left:Int}{q:SV×ay×Nat}(h:StepQ H nx b c no mem ws left q)(hl:left<0):q.1 = .sc (.int .i64 (no:Int))∧PgAt q.2.1 b (dU mem ws) (left-(ws.length:Nat)) (c+ws.length)∧nx≤q.2.2∧Kept H q.2.1 b nx∧(ws= []→ ∀ m,m<nx→q.2.1.at' m=H.at' m):=by
 obtain⟨h1,h2,h3⟩:=h
 have hn: ¬ (0≤left∧left.toNat<ws.length):=fun h=>by omega
 rw [gE,EP hn] at h1
 rw [fC,EP hn,List.take_length] at h2
 exact⟨h1,h2,h3⟩
theorem vg(a:Int):Fnc Tryz.prog 16 [.sc (.int .i64 a)] H nx (fun q=>q=(.sc (.int .i64 a),H,nx)):=Ctr.callV (zN a) [] rfl (Gh rfl) rfl trivial rfl
theorem Cn:Fnc Tryz.prog 8 [] H nx (fun q=>q.1 = .sc (.bool true)∧nx≤q.2.2∧ ∀ m,m<nx→NoPut H m→q.2.1.at' m=H.at' m):=by
 refine Gj Tryz.func8 rfl rfl ?_
 repeat apply ah;rfl
 refine aZ rfl rfl rfl (by kernel_rfl) (Gi x9 ?_)
 rintro⟨_,H1,n1⟩ ⟨rfl,g1,g2,f1⟩
 have t0:=mst0
 dsimp only at g1 g2 f1 ⊢
 generalize qQ zeroM 2=M0 at g1 t0
 repeat first|apply cT;rfl;kernel_rfl;exact ly _ _ _|apply ah;rfl
 refine aZ rfl rfl rfl (by kernel_rfl) (Gi (xP (k:=1) (e:=eB1) (no:=0) (ws:= [(1,lp1)]) g1 t0.len (by kernel_rfl) (t0.home DL eB1) (by rw [t0.root,t0.leaf];exact insX0) (by decide) (by decide)) ?_)
 clear g1
 rintro⟨_,H2,n2⟩ hq
 obtain⟨rfl,g1,h2,h3,_⟩:=hq.all (by decide)
 clear hq
 dsimp only at g1 h2 h3 ⊢
 replace g1:PgAt H2 nx (bT M0 1 lp1) (-4) 1:=g1
 have f2: ∀ m,m<nx→NoPut H m→H2.at' m=H.at' m:=fun m hm hp=>(h3 m (by omega) (by omega) (hp.same (f1 m hm hp))).trans (f1 m hm hp)
 have t1:=t0.set (y:=lp1) len1
 have hn2:nx<n2:=by omega
 clear h2 h3 f1
 repeat first|apply cT;rfl;kernel_rfl;exact ly _ _ _|apply ah;rfl
 refine aZ rfl rfl rfl (by kernel_rfl) (Gi (xP (k:=1) (e:=eA0) (no:=0) (ws:= [(1,lp2)]) g1 t1.len (by kernel_rfl) (t1.home DK eA0) (by rw [t1.root,t1.leaf];exact insX1) (by decide) (by decide)) ?_)
 clear g1
 rintro⟨_,H3,n3⟩ hq
 obtain⟨rfl,g1,h2,h3,_⟩:=hq.all (by decide)
 clear hq
 dsimp only at g1 h2 h3 ⊢
 replace g1:PgAt H3 nx (bT (bT M0 1 lp1) 1 lp2) (-5) 2:=g1
 have f3: ∀ m,m<nx→NoPut H m→H3.at' m=H.at' m:=fun m hm hp=>(h3 m (by omega) (by omega) (hp.same (f2 m hm hp))).trans (f2 m hm hp)
 have t2:=t1.set (y:=lp2) len2
 have hn3:nx<n3:=by omega
 clear h2 h3 f2
 repeat first|apply cT;rfl;kernel_rfl;exact ly _ _ _|apply ah;rfl
 refine aZ rfl rfl rfl (by kernel_rfl) (Gi (xP (k:=1) (e:=eB9) (no:=0) (ws:= [(1,lp3)]) g1 t2.len (by kernel_rfl) (t2.home DJ eB9) (by rw [t2.root,t2.leaf];exact insX2) (by decide) (by decide)) ?_)
 clear g1
 rintro⟨_,H4,n4⟩ hq
 obtain⟨rfl,g1,h2,h3,_⟩:=hq.all (by decide)
 clear hq
 dsimp only at g1 h2 h3 ⊢
 replace g1:PgAt H4 nx (bT (bT (bT M0 1 lp1) 1 lp2) 1 lp3) (-6) 3:=g1
 have f4: ∀ m,m<nx→NoPut H m→H4.at' m=H.at' m:=fun m hm hp=>(h3 m (by omega) (by omega) (hp.same (f3 m hm hp))).trans (f3 m hm hp)
 have t3:=t2.set (y:=lp3) len3
 have hn4:nx<n4:=by omega
 clear h2 h3 f3
 repeat apply ah;rfl
 refine bh fun hund4=>?_
 refine aZ rfl rfl rfl (by kernel_rfl) (Gi (DW (l:= [eB9,eB1]) ⟨#[98]⟩ (by kernel_rfl) g1 t3.len ((t3.ent t8 _).trans (by kernel_rfl)) (by decide)) ?_)
 rintro⟨_,H5,n5⟩ ⟨p1,p2,s,rfl,(⟨h,_⟩|⟨rt,_,rfl,r2,r3,r4⟩)⟩
 ·cases h
 dsimp only at p1 p2 r3 r4 ⊢
 have f5: ∀ m,m<nx→NoPut H m→H5.at' m=H.at' m:=fun m hm hp=>(p2 m (by omega)).trans (f4 m hm hp)
 replace g1:=g1.frame hund4 p2
 clear p2 f4 hund4
 repeat first|apply cT;rfl;kernel_rfl;exact ly _ _ _|apply ah;rfl
 refine bh fun hund5=>?_
 refine aZ rfl rfl rfl (by kernel_rfl) (Gi (xP (k:=1) (e:=eA0) (no:=14) (ws:= []) g1 t3.len (by kernel_rfl) (t3.home t8 eA0) (by rw [t3.root,t3.leaf];exact insX3) (by decide) (by decide)) ?_)
 rintro⟨_,H6,n6⟩ hq
 obtain⟨rfl,_,p2,_,p3⟩:=hq.all (by decide)
 replace p3:=p3 rfl
 clear hq
 dsimp only at p2 p3 ⊢
 have f6: ∀ m,m<nx→NoPut H m→H6.at' m=H.at' m:=fun m hm hp=>(p3 m (by omega)).trans (f5 m hm hp)
 replace g1:=g1.frame hund5 p3
 replace r4:=(p3 rt r3).trans r4
 have k6:rt<n6:=by omega
 have m6:nx<n6:=by omega
 clear p3 f5 hund5
 repeat first|apply cT;rfl;kernel_rfl;exact ly _ _ _|apply ah;rfl
 refine bh fun hund6=>?_
 refine aZ rfl rfl rfl (by kernel_rfl) (Gi (D5 (k:=1) (e:=eC0) (no:=6) (ws:= []) g1 t3.len (by kernel_rfl) (t3.home t8 eC0) (by rw [t3.leaf];exact delX3) (fun z hz=>by rw [Dr] at hz;cases hz) (by decide) (by decide)) ?_)
 rintro⟨_,H7,n7⟩ hq
 obtain⟨rfl,_,p4,_,p5⟩:=hq.all (by decide)
 replace p5:=p5 rfl
 clear hq
 dsimp only at p4 p5 ⊢
 have f7: ∀ m,m<nx→NoPut H m→H7.at' m=H.at' m:=fun m hm hp=>(p5 m (by omega)).trans (f6 m hm hp)
 replace g1:=g1.frame hund6 p5
 replace r4:=(p5 rt k6).trans r4
 have k7:rt<n7:=by omega
 clear p5 f6 hund6
 repeat apply ah;rfl
 have he:rz (bT (bT (bT M0 1 lp1) 1 lp2) 1 lp3) (inR ⟨#[97]⟩ ⟨#[98]⟩)=some [eA0]:=(t3.ent t8 _).trans (by kernel_rfl)
 refine aZ rfl rfl rfl (by kernel_rfl) (Gi (BJ ⟨#[97]⟩ ⟨#[98]⟩ g1 t3.len) ?_)
 rintro⟨_,H8,n8⟩ ⟨p6,p7,(⟨hn,rfl⟩|⟨l,s,hn,rfl,w⟩)⟩
 ·rw [he] at hn;cases hn
 rw [he] at hn
 cases hn
 dsimp only at p6 p7 w ⊢
 have f8: ∀ m,m<nx→NoPut H m→H8.at' m=H.at' m:=fun m hm hp=>(p7 m (by omega)).trans (f7 m hm hp)
 replace r4:=(p7 rt k7).trans r4
 clear p7 f7
 repeat first|apply cT;rfl;kernel_rfl;exact ly _ _ _|apply cT;rfl;kernel_rfl;exact vg _|apply jK;rfl;rfl|refine ew (q:=0) rfl rfl rfl rfl (F.un _ rfl) (F.sz _ rfl) r4 rfl (by decide) (EE _) ?_|refine ew (q:=1) rfl rfl rfl rfl (F.un _ rfl) (F.sz _ rfl) r4 rfl (by decide) (EE _) ?_|refine eu (us:= [.int .i64 39,.int .i64 9]) rfl rfl rfl (F.ag _ rfl) r4 rfl rfl (by decide) ?_|refine eu (us:= [.int .i64 40,.int .i64 1]) rfl rfl rfl (F.ag _ rfl) r4 rfl rfl (by decide) ?_|apply wq (r:=true) (a:=(39,9)) (b:=(39,9));rfl;rfl;(focus(decide));rfl;rfl|apply wq (r:=true) (a:=(40,1)) (b:=(40,1));rfl;rfl;(focus(decide));rfl;rfl|apply ah;rfl|apply aC;rfl;omega;omega|refine er (aU (F.un _ rfl) (F.sz _ rfl) (aN rfl) (F.ze _ rfl) rfl rfl rfl rfl rfl) rfl rfl rfl ?_
 refine aZ rfl rfl rfl (by kernel_rfl) (Gi (Du (l1:= [eA0]) (l2:= [eA0]) (lo1:=n7) (hi1:=n8) (lo2:=n8) (hi2:=n8+1) (w.frame (EE _) fun m h1 h2 _=>(by(repeat(refine aa (by omega) ?_));rfl)) (.inr ⟨n8,by simp,rfl,EE _,Nat.lt_succ_self _,Eq.trans (b:=some (ft false 1 3 25 ((fX eA0).map .sc))) (by repeat(exact ae)) (congrArg some (bZ _ _ _ _ (fX eA0)))⟩) (by decide) (by decide)) ?_)
 rintro _ rfl
 dsimp only
 repeat apply ah;rfl
 (apply b8 Tryz.func8 Tryz.results8;rfl)
 exact⟨rfl,by first|omega|(dsimp only;omega),fun m hm hp=>by(repeat(refine aa (by omega) ?_));exact f8 m hm hp⟩
abbrev tidK(a:Int×Int):Value:= .agg #[.int .i64 a.1,.int .i64 a.2]
abbrev pS(e:bf):Value:= .agg #[.string e.1,.int .i64 e.2.1,.int .i64 e.2.2]
theorem me{cs:Array Value}{off:Nat}{v:Value}{k:IntKind}(hu:P.underlying t=some (.int k))(hv:cs[off]? =some v):aJ P (part t cs off)=some v:=by
 simp [part,isAgg,cV,cZ hu,hv,bM]
theorem tQ{cs:Array Value}{off:Nat}{v:Value}(hu:P.underlying t=some .string)(hv:cs[off]? =some v):aJ P (part t cs off)=some v:=by
 simp [part,isAgg,cV,cZ hu,hv,bM]
theorem pq(s x y:Value):aJ Tryz.prog (part 23 #[s,x,y] 1)=some (.agg #[x,y]):=by
 obtain⟨i,hi⟩: ∃ i,Tryz.prog.info? 23=some i:=by
  have:(Tryz.prog.info? 23).isSome=true:=by kernel_rfl
  exact Option.isSome_iff_exists.1 this
 have hc:Tryz.prog.cellsOf 23=2:=by kernel_rfl
 have hz:aJ Tryz.prog (sizeOf 23)=some 2:=by
  have hs:i.size=2:=by simpa [Program.cellsOf,hi] using hc
  simp [sizeOf,typeInfo,cV,iF,bM,hi,hs,-bind_pure_comp]
 simp [part,isAgg,cV,cZ uTd,hz,bM,-bind_pure_comp]
theorem zE{a b:Int}(n:Nat)(hu:P.underlying t=some (.int .i64)):aJ P (Op.equalIn (n+1) t (.int .i64 a) (.int .i64 b))=some (a == b):=by
 simp [Op.equalIn,cV,cZ hu,bM]
theorem zD{a b:ByteArray}(n:Nat)(hu:P.underlying t=some .string):aJ P (Op.equalIn (n+1) t (.string a) (.string b))=some (decide (a=b)):=by
 have hab:(a == b)=decide (a=b):=by rw [Bool.eq_iff_iff,MapKept.bytes_beq,decide_eq_true_iff]
 simp [Op.equalIn,cV,cZ hu,bM,hab]
theorem vz:Tryz.prog.underlying 3=some (.int .i64):=by kernel_rfl
theorem z0:Tryz.prog.underlying 9=some .string:=by kernel_rfl
theorem BL(n:Nat)(a b:Int×Int):aJ Tryz.prog (Op.equalIn (n+1+1) 23 (tidK a) (tidK b))=some (decide (a=b)):=by
 obtain⟨f,g,hl,f1,f2,f3,g1,g2,g3⟩:=fE fTd
 have hp:Tryz.prog.stoodInHeld 23=false:=by kernel_rfl
 have hp1:=fun(v:Value) (c:Value)=>me (P:=Tryz.prog) (t:=3) (cs:= #[v,c]) (off:=0) (v:=v) vz rfl
 have hp2:=fun(v:Value) (c:Value)=>me (P:=Tryz.prog) (t:=3) (cs:= #[v,c]) (off:=1) (v:=c) vz rfl
 have he:=fun(x y:Int)=>zE (P:=Tryz.prog) (t:=3) (a:=x) (b:=y) n vz
 rw [Op.equalIn]
 simp only [cV,cZ uTd,EL,iF,hp,Bool.false_eq_true,if_false]
 rw [← Array.forIn_toList,hl]
 simp only [List.forIn_cons,List.forIn_nil,cV,fP,EQ f1,EQ g1,f2,f3,g2,g3,bM,EL,hp1,hp2,he]
 obtain⟨a1,a2⟩:=a
 obtain⟨b1,b2⟩:=b
 by_cases h1:a1=b1 <;> by_cases h2:a2=b2 <;> simp [h1,h2,bM,cV,hp1,hp2,he]
theorem BM(a b:bf):aJ Tryz.prog (Op.equal 25 (pS a) (pS b))=some (decide (a=b)):=by
 obtain⟨f,g,hl,f1,f2,f3,g1,g2,g3⟩:=fE fEn
 have hp:Tryz.prog.stoodInHeld 25=false:=by kernel_rfl
 have hp1:=fun(v c d:Value)=>tQ (P:=Tryz.prog) (t:=9) (cs:= #[v,c,d]) (off:=0) (v:=v) z0 rfl
 have he:=fun(x y:ByteArray)=>zD (P:=Tryz.prog) (t:=9) (a:=x) (b:=y) 9998 z0
 have ht:=fun(x y:Int×Int)=>BL 9997 x y
 show aJ Tryz.prog (Op.equalIn (9999+1) 25 (pS a) (pS b))=_
 rw [Op.equalIn]
 simp only [cV,cZ uEn,EL,iF,hp,Bool.false_eq_true,if_false]
 rw [← Array.forIn_toList,hl]
 simp only [List.forIn_cons,List.forIn_nil,cV,fP,EQ f1,EQ g1,f2,f3,g2,g3,bM,EL,hp1,pq,he]
 obtain⟨a1,a2⟩:=a
 obtain⟨b1,b2⟩:=b
 by_cases h1:a1=b1
 ·by_cases h2:a2=b2 <;> simp [h1,h2,bM,cV,pq,ht]
 ·simp [h1,bM,cV]
theorem xd(e:Bool)(n:Nat)(a:Int×Int):aJ Tryz.prog (Instr.checkKey e (n+1+1) 23 (tidK a))=some ():=by
 obtain⟨f,g,hl,f1,f2,f3,g1,g2,g3⟩:=fE fTd
 have hi: ∀ v:Value,aJ Tryz.prog (Instr.checkKey e (n+1) 3 v)=some ():=fun v=>ny (P:=Tryz.prog) vz rfl e n
 have hp1:=fun(v:Value) (c:Value)=>me (P:=Tryz.prog) (t:=3) (cs:= #[v,c]) (off:=0) (v:=v) vz rfl
 have hp2:=fun(v:Value) (c:Value)=>me (P:=Tryz.prog) (t:=3) (cs:= #[v,c]) (off:=1) (v:=c) vz rfl
 rw [Instr.checkKey]
 simp only [cV,cZ uTd,EL]
 rw [← Array.forIn_toList,hl]
 simp [List.forIn_cons,List.forIn_nil,cV,fP,f1,g1,f2,f3,g2,g3,bM,hp1,hp2,hi]
theorem BN(e:Bool)(a:bf):aJ Tryz.prog (Instr.checkKey e 10000 25 (pS a))=some ():=by
 obtain⟨f,g,hl,f1,f2,f3,g1,g2,g3⟩:=fE fEn
 have hi: ∀ v:Value,aJ Tryz.prog (Instr.checkKey e 9999 9 v)=some ():=fun v=>ny (P:=Tryz.prog) z0 rfl e 9998
 have hp1:=fun(v c d:Value)=>tQ (P:=Tryz.prog) (t:=9) (cs:= #[v,c,d]) (off:=0) (v:=v) z0 rfl
 have ht:=fun(x y:Value) (a:Int×Int)=>xd e 9997 a
 show aJ Tryz.prog (Instr.checkKey e (9999+1) 25 (pS a))=_
 rw [Instr.checkKey]
 simp only [cV,cZ uEn,EL]
 rw [← Array.forIn_toList,hl]
 simp [List.forIn_cons,List.forIn_nil,cV,fP,f1,g1,f2,f3,g2,g3,bM,hp1,pq,hi,xd e 9997]
theorem pM:KEnc Tryz.prog 25 pS:=
 zY uEn (fun a b=>rfl) BM BN (fun k=>by simp [pS,Instr.sameBits,MapKept.bytes_beq])
theorem Cj(a b:bf):Fnc Tryz.prog 15 [gC a,gC b] H nx (fun q=>q=(.sc (.bool (bl a b)),H,nx)):=Ctr.callV (vt a b) [] rfl (Gh rfl) rfl trivial rfl
abbrev uV:Unit→SV:=fun _=> .agg [.sc (.bool true)]
def qU(s:StT):Int:=if 0<s.left then s.left else -1
abbrev stO(s:StT):VO:=an 46 ((stV s).map .sc)
end
structure HasS where
 i:Nat
 mem:List UInt8
 bs:List Bn.El
 left:Int
 c:Nat
 m:vP
 cl:Nat
structure HasA where
 no:Nat
 mem:List UInt8
 bs:List Bn.El
 left:Int
 c:Nat
structure HasK (H H':ay) (nx p q r:Nat) (ro:Bool) (l:List StT) (m:vP) (cl:Nat):Prop where
 row:H'.at' r=some (stR ro l)
 map:H'.at' q=some (nV pS uV m cl)
 old: ∀ m,m<nx→NoPut H m→H'.at' m=H.at' m
theorem qS{H:ay}{q:Nat}{m:vP}{cl:Nat}(h:H.at' q=some (nV pS uV m cl)):NoPut H q:=fun c ws h2=>by rw [h] at h2;cases h2
theorem HasK.kept{H H' H'':ay}{nx n p q r:Nat}{ro:Bool}{l:List StT}{m:vP}{cl:Nat}(h:HasK H H' nx p q r ro l m cl)(g:Kept H' H'' p n)(h1:nx≤n)(h2:r<nx)(h3:nx≤p)(h4:q<n)(h5:q≠p):HasK H H'' nx p q r ro l m cl:=
 ⟨(g r (by omega) (by omega) (ph h.row)).trans h.row,(g q h4 h5 (qS h.map)).trans h.map,fun j j1 j2=>(g j (by omega) (by omega) (j2.same (h.old j j1 j2))).trans (h.old j j1 j2)⟩
theorem zHas:dJ Tryz.prog 55=some (.agg #[.bool false]):=by kernel_rfl
section
variable {T:Tr SV} {H:ay} {d:Option Tmp} {ty:TypeId} {pos:String} {af:Array Edge} {gd:Option (Nat×Bool)}
section
variable {P:Program}{x y:Operand}
theorem wT{o:Oper}{v v':SV}(h:ReadDoes P T H o v)(hv: ∀ e u,v.conc e=some u→v'.conc e=some u):ReadDoes P T H o v':=fun K w0 e nx w ev hS hE=>by
 obtain⟨u,h1,h2⟩:=h K w0 e nx w ev hS hE
 exact⟨u,hv e u h1,h2⟩
theorem tI{t:TypeId}{yt:TypeId}{a:Bool}(hx:aq T x=some (.sc (.bool a)))(hy:aq T y=some (.sc (.bool a)))(hu:P.underlying t=some .bool):ReadDoes P T H ⟨d,.binOp .neq t x y yt,ty,pos,af,gd⟩ (.sc (.bool false)):=by
 refine cU fun ev w he=>?_
 have e1:=he x _ hx _ rfl
 have e2:=he y _ hy _ rfl
 have hg:(eqGuard .neq t x y (.bool a) (.bool a)).run P w = .ok () w:=rfl
 have ha:(!(a == a))=false:=by cases a <;> rfl
 simp only [execOp,e1,e2,Sem.run_bind,hg,run_neq_bool w t a a hu,Result.andThen_ok,Sem.run_pure,ha]
theorem BI{t:TypeId}{yt:TypeId}{a b r:Bool}(hr:(a == b)=r)(hx:aq T x=some (.sc (.bool a)))(hy:aq T y=some (.sc (.bool b)))(hu:P.underlying t=some .bool):ReadDoes P T H ⟨d,.binOp .eql t x y yt,ty,pos,af,gd⟩ (.sc (.bool r)):=by
 refine cU fun ev w he=>?_
 have e1:=he x _ hx _ rfl
 have e2:=he y _ hy _ rfl
 have hg:(eqGuard .eql t x y (.bool a) (.bool b)).run P w = .ok () w:=rfl
 simp only [execOp,e1,e2,Sem.run_bind,hg,run_eql_bool w t a b hu,Result.andThen_ok,Sem.run_pure,hr]
theorem lN{m:vP}{c q:Nat}{e:bf}{r:Bool}{s:SV}(hg:(io m e).isSome=r)(hx:aq T x=some (.mp q))(hy:aq T y=some s)(hs:s.lit=some (pS e))(hb:H.at' q=some (nV pS uV m c)):ReadDoes Tryz.prog T H ⟨d,.lookup 44 x y false,ty,pos,af,gd⟩ (.agg [.sc (.bool r)]):=by
 cases hk:io m e with
 | none=>
   rw [hk] at hg
   subst hg
   exact wT (wV (ok:=false) hx hy hs Tryz.underlying44 pM hb hk zHas) (fun e u h=>by simpa [SV.conc,SV.aD] using h)
 | some v=>
   rw [hk] at hg
   subst hg
   exact zx (ok:=false) (val:=uV) hx hy hs Tryz.underlying44 pM hb hk
end
end
theorem Cs{H:ay}{nx r:Nat}{ro:Bool}{l:List StT}(hr:H.at' r=some (stR ro l))(hl:l.length≤9223372036854775807)(hbd: ∀ s,s∈l → -9223372036854775808≤s.left∧s.left≤9223372036854775807):Fnc Tryz.prog 4 [.slu r 0 l.length] H nx (fun q=>q.1 = .sc (.bool true)∧nx≤q.2.2∧ ∀ m,m<nx→NoPut H m→q.2.1.at' m=H.at' m):=by
 refine Gj Tryz.func4 rfl rfl ?_
 refine bh fun hund=>?_
 have hlt:=hund _ _ hr
 repeat apply ah;rfl
 refine aZ rfl rfl rfl (by kernel_rfl) (Gi Cn ?_)
 rintro⟨_,H1,n1⟩ ⟨rfl,g1,f1⟩
 dsimp only at g1 f1 ⊢
 have r1:H1.at' r=some (stR ro l):=(f1 r hlt (ph hr)).trans hr
 have hmu:=fun(n:Nat)=>DG (nx:=n) r1 hl
 cases hm:l6 l 300 with
 | true=>
   rw [hm] at hmu
   repeat first|apply cT;rfl;kernel_rfl;exact hmu _|apply ah;rfl
   (apply b8 Tryz.func4 Tryz.results4;rfl)
   exact⟨rfl,g1,f1⟩
 | false=>
 have h300:=Ca hm
 rw [hm] at hmu
 repeat first|apply cT;rfl;kernel_rfl;exact hmu _|apply ah;rfl
 refine aZ rfl rfl rfl (by kernel_rfl) (Gi yb ?_)
 rintro⟨_,H2,n2⟩ ⟨rfl,⟨mem0,bs0',p1,p2,p3⟩,g2,f2⟩
 dsimp only at p1 g2 f2 ⊢
 have r2:H2.at' r=some (stR ro l):=(f2 r (by omega) (ph r1)).trans r1
 have f3: ∀ m,m<nx→NoPut H m→H2.at' m=H.at' m:=fun m h1 h2=>(f2 m (by omega) (h2.same (f1 m h1 h2))).trans (f1 m h1 h2)
 refine bh fun hund2=>?_
 repeat first|apply ah;rfl|refine er (u9) rfl rfl rfl ?_
 refine bv (α:=HasS) (fun x=> [(0,.slu r 0 l.length),(3,.ptr n1 0),(4,.mp n2),(5,.sc (.int .i64 (x.i:Int)))])
  (fun x H3 n3=>x.i≤l.length∧IxH x.mem x.bs∧HasM x.mem x.bs x.m x.cl∧PgAt H3 n1 x.mem x.left x.c∧n2<n3∧HasK H H3 nx n1 n2 r ro l x.m x.cl) (fun x=>l.length-x.i) ⟨0,mem0,bs0',-3,0,[],0⟩
  ⟨EF _,p2,⟨KOk.nil _,fun e=>⟨fun h=>by simp at h,fun h=>absurd h (p3 e)⟩⟩,p1.frame hund2 (fun m' h=>ab _ _ (by omega)),by first|omega|(dsimp only;omega),⟨by(repeat(refine aa (by omega) ?_));exact r2,by repeat(exact ae),fun m h1 h2=>by(repeat(refine aa (by omega) ?_));exact f3 m h1 h2⟩⟩ (Gq (Gt rfl)) ?_
 clear p1 p2 p3 f1 f2 f3 r1 r2 hmu hund2
 rintro⟨i,mem,bs,left,c,m,cl⟩ H3 n3 ⟨i1,i2,i3,i4,i5,⟨j1,j2,j3⟩⟩ ih
 dsimp only at i1 i2 i3 i4 i5 j1 j2 j3 ih ⊢
 refine bh fun hund3=>?_
 have hlb:n1<n3:=by omega
 repeat apply ah;rfl
 refine bq rfl rfl rfl rfl (fun c1=>?_) (fun c1=>?_)
 ·have hi:i<l.length:=by omega
  obtain⟨s,hs⟩: ∃ s,l[i]=s:=⟨_,rfl⟩
  have hsl:=hbd _ (EO hi)
  have hf:=DT l i 0 8 hi (by decide)
  rw [hs] at hf hsl
  obtain⟨sp,hp1,hp2⟩:=i4
  have hpl:=gl i2.len sp left false
  have hrp:r≠n1:=by omega
  repeat first|refine ew (q:=i) rfl rfl rfl rfl (F.un _ rfl) (F.sz _ rfl) (by exact j1) rfl hi (EE _) ?_|refine eu (us:=stV s) rfl rfl rfl (F.ag _ rfl) (by exact j1) hf rfl (by omega) ?_|apply ah;rfl|apply aM;rfl;(focus((repeat(exact ae));done));rfl
  refine dI rfl rfl rfl rfl (fun c2=>?_) (fun c2=>?_)
  ·repeat first|apply ah;rfl|apply aC;rfl;omega;omega
   exact ih _ _ _ ⟨i+1,mem,bs,left,c,m,cl⟩ ⟨hi,i2,i3,⟨sp,by(repeat(refine aa (by omega) ?_));exact hp1,hp2.frame fun rr ws hr=>(by have:=hund3 _ _ hr;(focus((repeat(refine aa (by omega) ?_));rfl)))⟩,by first|omega|(dsimp only;omega),⟨by(repeat(refine aa (by omega) ?_));exact j1,by(repeat(refine aa (by omega) ?_));exact j2,fun m h1 h2=>by(repeat(refine aa (by omega) ?_));exact j3 m h1 h2⟩⟩ (by dsimp only;omega) (Gq (Gt rfl))
  repeat apply ah;rfl
  refine cq (cs:=lP mem sp left false) rfl rfl rfl (F.sz _ rfl) (by(repeat(refine aa (by omega) ?_));exact hp1) rfl (Es (by rw [hpl];decide)) ?_
  rw [show ∀ x,(lP mem sp left false).set (0+28673) (.sc (.int .i64 x))=lP mem sp x false from fun x=>mg i2.len _ _ _ _]
  repeat apply ah;rfl
  refine cq (cs:=lP mem sp (-1) false) rfl rfl rfl (F.sz _ rfl) (by repeat(exact ae)) rfl (Es (by rw [gl i2.len];decide)) ?_
  rw [show ∀ x,(lP mem sp (-1) false).set (0+28672) x=lP mem x (-1) false from fun x=>mf i2.len _ _ _ _]
  refine gL (R:=fun H4 n4=>n4=n3+1∧H4.at' n3=some (stO s)∧H4.at' n1=some (jY mem cF (-1) false)∧HasK H H4 nx n1 n2 r ro l m cl) ⟨rfl,by repeat(first|exact ae|refine aa (by omega) ?_),by repeat(exact ae),⟨by(repeat(refine aa (by omega) ?_));exact j1,by(repeat(refine aa (by omega) ?_));exact j2,fun m h1 h2=>by(repeat(refine aa (by omega) ?_));exact j3 m h1 h2⟩⟩ ?_
  clear hp1 hp2 hpl j1 j2 j3 hund3
  rintro H4 n4 ⟨rfl,a1,a2,⟨j1,j2,j3⟩⟩
  refine oV ?_
  refine jG ?_
  refine jw (A:=Unit) (fun _=> [(0,.slu r 0 l.length),(3,.ptr n1 0),(4,.mp n2),(5,.sc (.int .i64 (i:Int))),(6,.ptr n3 0)])
   (fun _ H5 n5=>n5=n3+1∧H5.at' n3=some (stO s)∧PgAt H5 n1 mem (qU s) 0∧HasK H H5 nx n1 n2 r ro l m cl) ?_ ?_
  ·clear a1 a2 j1 j2 j3
   rintro _ H5 n5 ⟨rfl,a1,a2,hK⟩
   have hlb5 : -100000000≤qU s∧qU s≤9223372036854775807:=by unfold qU;split <;> omega
   refine jG ?_
   repeat first|apply a6;rfl|apply aM;rfl;assumption;rfl
   refine jw (A:=HasA) (fun a=> [(0,.slu r 0 l.length),(3,.ptr n1 0),(4,.mp n2),(5,.sc (.int .i64 (i:Int))),(6,.ptr n3 0),(7,.sc (.int .i64 (a.no:Int)))])
    (fun a H6 n6=>StepIs s.del mem bs s.e a.no a.mem a.bs∧PgAt H6 n1 a.mem a.left a.c∧n3+1≤n6∧H6.at' n3=some (stO s)∧HasK H H6 nx n1 n2 r ro l m cl) ?_ ?_
   ·clear a1 a2 hK
    rintro⟨no,mem',bs',left',c'⟩ H6 n6 ⟨hS,a2,a3,a1,hK⟩
    dsimp only at hS a2 ⊢
    obtain⟨j1,j2,j3⟩:=hK
    have hcont: ∀ (T':Tr SV) (H':ay) (n':Nat),(∀ x,HasH mem' bs' x↔HasH mem bs x)→Kept H6 H' n1 n6→n6≤n'→PgAt H' n1 mem' left' c'→(∀ n x,(slT [(0,.slu r 0 l.length),(3,.ptr n1 0),(4,.mp n2),(5,.sc (.int .i64 ((i+1:Nat):Int)))]).at' n=some x→T'.at' n=some x)→_:=fun T' H' n' hh hk hn hp hT=>ih T' H' n' ⟨i+1,mem',bs',left',c',m,cl⟩ ⟨hi,hS.ix,i3.same hh,hp,by first|omega|(dsimp only;omega),HasK.kept (n:=n6) ⟨j1,j2,j3⟩ hk (by omega) (by omega) (by omega) (by omega) (by omega)⟩ (by dsimp only;omega) hT
    by_cases h08:no=0∨no=8
    ·refine jG ?_
     refine jw (A:=Unit) (fun _=> [(0,.slu r 0 l.length),(3,.ptr n1 0),(4,.mp n2),(5,.sc (.int .i64 (i:Int))),(6,.ptr n3 0),(7,.sc (.int .i64 (no:Int)))]) (fun _ H7 n7=>H7=H6∧n7=n6) ?_ ?_
     ·rintro _ H7 n7 ⟨h7,h8⟩
      rw [h7,h8]
      clear h7 h8
      refine jG ?_
      refine jw (A:=Unit) (fun _=> [(0,.slu r 0 l.length),(3,.ptr n1 0),(4,.mp n2),(5,.sc (.int .i64 (i:Int))),(6,.ptr n3 0),(7,.sc (.int .i64 (no:Int)))]) (fun _ H7 n7=>H7=H6∧n7=n6) ?_ ?_
      ·rintro _ H7 n7 ⟨h7,h8⟩
       rw [h7,h8]
       clear h7 h8
       repeat apply ah;rfl
       refine bh fun hund6=>?_
       refine aZ rfl rfl rfl (by kernel_rfl) (Gi (CK a2 hS.ix) ?_)
       rintro⟨_,H7,n7⟩ ⟨z1,z2,lv,sv,rfl,z3,z4,z5,z6⟩
       dsimp only at z1 z2 z3 ⊢
       repeat first|refine we 26 ?_|apply a6;rfl
       refine⟨?_⟩
       obtain⟨fd,hfd⟩: ∃ fd,(lv.any fun y=>eE y s.e)=fd:=⟨_,rfl⟩
       refine jw (A:=Unit) (fun _=> [(0,.slu r 0 l.length),(3,.ptr n1 0),(4,.mp n2),(5,.sc (.int .i64 (i:Int))),(6,.ptr n3 0),(7,.sc (.int .i64 (no:Int))),(8,sv),(9,.sc (.int .i64 0)),(10,.sc (.bool fd))]) (fun _ H8 n8=>H8=H7∧n8=n7) ?_ ?_
       ·rintro _ H8 n8 ⟨h7,h8⟩
        rw [h7,h8]
        clear h7 h8
        have hfe:fd=true↔HasH mem' bs' s.e:=by
         rw [← hfd,List.any_eq_true,←z5]
         exact⟨fun⟨y,h1,h2⟩=>E1 h2 ▸ h1,fun h=>⟨_,h,E8 rfl⟩⟩
        have b1:H7.at' n3=some (stO s):=(z2 n3 (by omega)).trans a1
        have b2:H7.at' n2=some (nV pS uV m cl):=(z2 n2 (by omega)).trans j2
        have b3:H7.at' r=some (stR ro l):=(z2 r (by omega)).trans j1
        have b4: ∀ j,j<nx→NoPut H j→H7.at' j=H.at' j:=fun j h1 h2=>(z2 j (by omega)).trans (j3 j h1 h2)
        refine jG ?_
        refine jw (A:=Unit) (fun _=> [(0,.slu r 0 l.length),(3,.ptr n1 0),(4,.mp n2),(5,.sc (.int .i64 (i:Int))),(6,.ptr n3 0),(8,sv),(9,.sc (.int .i64 0)),(10,.sc (.bool fd))]) (fun _ H8 n8=>H8=H7∧n8=n7) ?_ ?_
        ·rintro _ H8 n8 ⟨h7,h8⟩
         rw [h7,h8]
         clear h7 h8
         have b0:PgAt H7 n1 mem' left' c':=a2.frame hund6 z2
         obtain⟨m',cl',hM,hmt,hmf⟩: ∃ m' cl',HasM mem' bs' m' cl'∧(fd=true→m'=nO (kZ m s.e) s.e () cl∧cl'=xL (kZ m s.e) s.e cl)∧(fd=false→m'=kZ m s.e∧cl'=cl):=by
          cases hf9:fd with
          | true=>exact⟨_,_,i3.more hS.same (hfe.1 hf9),fun _=>⟨rfl,rfl⟩,fun h=>by cases h⟩
          | false=>exact⟨_,_,i3.less hS.same (fun h=>by rw [hfe.2 h] at hf9;cases hf9),fun h=>(by cases h),fun _=>⟨rfl,rfl⟩⟩
         repeat first|refine cN rfl rfl rfl (F.ag _ rfl) b1 (aB 3 1 rfl rfl) ?_|apply ah;rfl
         refine dn rfl (.inr (fun _ h=>by cases h)) (uZ (m:=m) (c:=cl) (kk:=s.e) (enc:=pS) (val:=uV) rfl rfl (by rfl) (F.un _ rfl) pM b2) ?_
         dsimp only [kY]
         repeat first|refine we 35 ?_|apply a6;rfl
         refine⟨?_⟩
         refine jw (A:=Unit) (fun _=> [(0,.slu r 0 l.length),(3,.ptr n1 0),(4,.mp n2),(5,.sc (.int .i64 (i:Int))),(8,sv),(9,.sc (.int .i64 0))]) (fun _ H8 n8=>n8=n7∧H8.at' n2=some (nV pS uV m' cl')∧(∀ j,j≠n2→H8.at' j=H7.at' j)) ?_ ?_
         ·rintro _ H8 n8 ⟨rfl,y1,y2⟩
          have hlen:=hM.len z4 z5
          have hpg:PgAt H8 n1 mem' left' c':=b0.box (m:=n2) (nx:=0) y2 (by omega) (qS b2)
          have y3:H8.at' r=some (stR ro l):=(y2 r (by omega)).trans b3
          have y4: ∀ j,j<nx→NoPut H j→H8.at' j=H.at' j:=fun j h1 h2=>(y2 j (by omega)).trans (b4 j h1 h2)
          have hgo: ∀ (T':Tr SV),(∀ n x,(slT [(0,.slu r 0 l.length),(3,.ptr n1 0),(4,.mp n2),(5,.sc (.int .i64 ((i+1:Nat):Int)))]).at' n=some x→T'.at' n=some x)→_:=fun T' hT=>ih T' H8 n8 ⟨i+1,mem',bs',left',c',m',cl'⟩ ⟨hi,hS.ix,hM,hpg,by first|omega|(dsimp only;omega),⟨y3,y1,y4⟩⟩ (by dsimp only;omega) hT
          rcases z3 with ⟨rfl,rfl⟩|⟨rv,k1,rfl,k2,k3,k4⟩
          ·repeat first|exact hgo _ (Gq (Gt rfl))|apply cT;rfl;kernel_rfl;exact vg _|refine bO (cj (F.un _ rfl) rfl) rfl rfl rfl ?_|refine tu (m:=m') (c:=cl') (enc:=pS) (val:=uV) rfl rfl rfl (F.un _ rfl) y1 ?_|apply jK;rfl;rfl|refine fp rfl rfl rfl rfl (fun hq=>absurd (congrArg (fun q:Nat=>(q:Int)) hlen) hq) (fun _=>?_)|apply a6;rfl|apply aC;rfl;omega;omega
           done
          ·repeat first|exact hgo _ (Gq (Gt rfl))|apply cT;rfl;kernel_rfl;exact vg _|refine tu (m:=m') (c:=cl') (enc:=pS) (val:=uV) rfl rfl rfl (F.un _ rfl) y1 ?_|apply jK;rfl;rfl|refine fp rfl rfl rfl rfl (fun hq=>absurd (congrArg (fun q:Nat=>(q:Int)) hlen) hq) (fun _=>?_)|apply a6;rfl|apply aC;rfl;omega;omega
           done
         ·intro join6
          cases hf9:fd with
          | true=>
            obtain⟨rfl,rfl⟩:=hmt hf9
            repeat first|exact join6 _ _ _ () ⟨rfl,by repeat(exact ae),fun j hj=>by rw [ab _ _ hj,ab _ _ hj]⟩ (Gq (Gt rfl))|refine cN rfl rfl rfl (F.ag _ rfl) (by(repeat(refine aa (by omega) ?_));exact b1) (aB 3 1 rfl rfl) ?_|refine za (m:=kZ m s.e) (c:=cl) (kk:=s.e) (v:=()) (enc:=pS) (val:=uV) rfl rfl rfl (by rfl) (F.un _ rfl) pM (by repeat(exact ae)) rfl ?_|apply a6;rfl
            done
          | false=>
            obtain⟨rfl,rfl⟩:=hmf hf9
            repeat first|exact join6 _ _ _ () ⟨rfl,by repeat(exact ae),fun j hj=>ab _ _ hj⟩ (Gq (Gt rfl))|apply a6;rfl
            done
        ·intro join5
         rcases h08 with rfl|rfl
         ·have hne:(fd == s.del)=false:=by
           have h0:=(hS.zero rfl).2
           cases hd:s.del with
           | true=>
             have:fd=false:=by
              cases hf9:fd with
              | false=>rfl
              | true=>rw [h0.1 (hfe.1 hf9)] at hd;cases hd
             rw [this];rfl
           | false=>rw [hfe.2 (h0.2 hd)];rfl
          repeat first|exact join5 _ _ _ () ⟨rfl,rfl⟩ (Gq (Gt rfl))|(refine dn rfl (.inr (fun _ h=>by cases h)) ((BI hne rfl rfl Tryz.underlying4).does) ?_);rw [aI rfl]|apply a6;rfl|apply aM;rfl;assumption;rfl|apply jK;rfl;omega
         ·repeat first|exact join5 _ _ _ () ⟨rfl,rfl⟩ (Gq (Gt rfl))|apply a6;rfl|apply sh;rfl;omega
       ·intro join4
        have b1:H7.at' n3=some (stO s):=(z2 n3 (by omega)).trans a1
        have b2:H7.at' n2=some (nV pS uV m cl):=(z2 n2 (by omega)).trans j2
        rcases z3 with ⟨rfl,rfl⟩|⟨rv,k1,rfl,k2,k3,k4⟩
        ·have hfd0:fd=false:=by rw [← hfd];rfl
         rw [hfd0] at join4
         repeat apply ah;rfl
         refine bv (α:=Nat) (fun _=> [(0,.slu r 0 l.length),(3,.ptr n1 0),(4,.mp n2),(5,.sc (.int .i64 (i:Int))),(6,.ptr n3 0),(7,.sc (.int .i64 (no:Int))),(8,cF),(9,.sc (.int .i64 0)),(10,.sc (.bool false)),(11,.sc (.int .i64 0))]) (fun _ H8 n8=>H8=H7∧n8=n7) (fun _=>0) 0 ⟨rfl,rfl⟩ (Gq (Gt rfl)) ?_
         rintro _ H8 n8 ⟨h7,h8⟩ _
         rw [h7,h8]
         repeat first|exact join4 _ _ _ () ⟨rfl,rfl⟩ (Gq (Gt rfl))|refine bO (cj (F.un _ rfl) rfl) rfl rfl rfl ?_|apply si;rfl;decide|apply a6;rfl
        ·repeat apply ah;rfl
         refine bv (α:=Nat) (fun x=> [(0,.slu r 0 l.length),(3,.ptr n1 0),(4,.mp n2),(5,.sc (.int .i64 (i:Int))),(6,.ptr n3 0),(7,.sc (.int .i64 (no:Int))),(8,.slu rv 0 lv.length),(9,.sc (.int .i64 0)),(10,.sc (.bool ((lv.take x).any fun y=>eE y s.e))),(11,.sc (.int .i64 (x:Int)))]) (fun x H8 n8=>x≤lv.length∧H8=H7∧n8=n7) (fun x=>lv.length-x) 0 ⟨EF _,rfl,rfl⟩ (Gq (Gt rfl)) ?_
         rintro x H8 n8 ⟨x1,h7,h8⟩ ih2
         rw [h7,h8]
         clear h7 h8
         repeat apply ah;rfl
         refine bq rfl rfl rfl rfl (fun c5=>?_) (fun c5=>?_)
         ·have hx:x<lv.length:=by omega
          have hf1:=hJ (f:=fX) (sz:=3) (fun _=>rfl) lv x 0 3 hx (by decide)
          have hnew:(io m lv[x]).isSome=true∨eE lv[x] s.e=true:=by
           by_cases hq:lv[x]=s.e
           ·exact .inr (E8 hq)
           ·exact .inl (by rw [i3.yes ((hS.same _ hq).1 ((z5 _).1 (EO hx)))];rfl)
          have htk:(lv.take (x+1)).any (fun y=>eE y s.e)=((lv.take x).any (fun y=>eE y s.e) || eE lv[x] s.e):=by
           rw [List.take_succ_eq_append_getElem hx,List.any_append];simp
          obtain⟨gb,hg9⟩: ∃ gb,(io m lv[x]).isSome=gb:=⟨_,rfl⟩
          obtain⟨se,hse⟩: ∃ se,eE lv[x] s.e=se:=⟨_,rfl⟩
          obtain⟨fx,hfx⟩: ∃ fx,((lv.take x).any fun y=>eE y s.e)=fx:=⟨_,rfl⟩
          have ih3:=fun T' H' n' h=>ih2 T' H' n' (x+1) h (by omega)
          rw [hfx,hse] at htk
          simp only [htk] at ih3
          rw [hfx]
          rw [hg9,hse] at hnew
          repeat first|refine we 29 ?_|apply a6;rfl
          refine⟨?_⟩
          refine jw (A:=Unit) (fun _=> [(0,.slu r 0 l.length),(3,.ptr n1 0),(4,.mp n2),(5,.sc (.int .i64 (i:Int))),(6,.ptr n3 0),(7,.sc (.int .i64 (no:Int))),(8,.slu rv 0 lv.length),(9,.sc (.int .i64 0)),(10,.sc (.bool fx)),(11,.sc (.int .i64 (x:Int)))]) (fun _ H8 n8=>H8=H7∧n8=n7) ?_ ?_
          ·rintro _ H8 n8 ⟨h7,h8⟩
           rw [h7,h8]
           clear h7 h8
           have hf0:=hf1
           cases fx <;> cases se
           all_goals((apply bU;(focus(kernel_rfl));(focus(kernel_rfl)));(repeat(first|refine ak (q:=x) rfl rfl rfl rfl (F.un _ rfl) (F.sz _ rfl) k4 rfl hx (EE _) ?_|refine cv (us:=fX lv[x]) rfl rfl rfl (F.ag _ rfl) k4 hf1 rfl (by omega) ?_|refine ba (bn (F.ag _ rfl) rfl b1 (aB 3 1 rfl rfl)) rfl rfl rfl ?_|apply cd;rfl;rfl;exact(fun _ h=>by cases h);exact(md hse rfl rfl)|apply az;rfl|apply bA;rfl;rfl));refine au ⟨by kernel_rfl,?_,?_⟩;(focus(repeat(first|exact Gu|apply sV;rfl|apply jk;rfl;kernel_rfl|apply oD;kernel_rfl)));(repeat(first|exact ih3 _ _ _ ⟨hx,rfl,rfl⟩ (Gq (Gt rfl))|apply a6;rfl|apply aC;rfl;omega;omega)))
          ·intro join7
           rcases Nat.eq_zero_or_pos x with hx0|hx0
           ·have hf0:=hf1
            rcases hnew with rfl|rfl
            ·(refine jG ?_;(apply bU;(focus(kernel_rfl));(focus(kernel_rfl)));(repeat(first|refine ak (q:=x) rfl rfl rfl rfl (F.un _ rfl) (F.sz _ rfl) k4 rfl hx (EE _) ?_|refine cv (us:=fX lv[x]) rfl rfl rfl (F.ag _ rfl) k4 hf1 rfl (by omega) ?_|(apply cd;rfl;rfl;exact(fun _ h=>by cases h);exact(lN (m:=m) (c:=cl) (hg9) rfl rfl (by rfl) b2));(refine ba (ga rfl rfl) rfl rfl rfl ?_)|apply az;rfl|apply bA;rfl;rfl|refine fV rfl rfl rfl rfl (fun hq=>absurd hq (by omega)) (fun _=>?_)));refine au ⟨by kernel_rfl,?_,?_⟩;(focus(repeat(first|exact Gu|apply sV;rfl|apply jk;rfl;kernel_rfl|apply oD;kernel_rfl)));(repeat(first|exact join7 _ _ _ () ⟨rfl,rfl⟩ (Gq (Gt rfl))|apply a6;rfl)))
             done
            ·cases gb
             all_goals(refine jG ?_;(apply bU;(focus(kernel_rfl));(focus(kernel_rfl)));(repeat(first|refine ak (q:=x) rfl rfl rfl rfl (F.un _ rfl) (F.sz _ rfl) k4 rfl hx (EE _) ?_|refine cv (us:=fX lv[x]) rfl rfl rfl (F.ag _ rfl) k4 hf1 rfl (by omega) ?_|refine ba (bn (F.ag _ rfl) rfl b1 (aB 3 1 rfl rfl)) rfl rfl rfl ?_|(apply cd;rfl;rfl;exact(fun _ h=>by cases h);exact(lN (m:=m) (c:=cl) (hg9) rfl rfl (by rfl) b2));(refine ba (ga rfl rfl) rfl rfl rfl ?_)|apply cd;rfl;rfl;exact(fun _ h=>by cases h);exact(iY hse rfl rfl)|apply az;rfl|apply bA;rfl;rfl|refine fV rfl rfl rfl rfl (fun hq=>absurd hq (by omega)) (fun _=>?_)));refine au ⟨by kernel_rfl,?_,?_⟩;(focus(repeat(first|exact Gu|apply sV;rfl|apply jk;rfl;kernel_rfl|apply oD;kernel_rfl)));(repeat(first|exact join7 _ _ _ () ⟨rfl,rfl⟩ (Gq (Gt rfl))|apply a6;rfl)))
           ·have hf0:=hJ (f:=fX) (sz:=3) (fun _=>rfl) lv (x-1) 0 3 (by omega) (by decide)
            have hls:bl (lv[x-1]'(by omega)) lv[x]=true:=List.pairwise_iff_getElem.1 z4 (x-1) x (by omega) hx (by omega)
            have hlr:=fun(H9:ay) (n9:Nat)=>Cj (lv[x-1]'(by omega)) lv[x] (H:=H9) (nx:=n9)
            rw [hls] at hlr
            rcases hnew with rfl|rfl
            ·(refine jG ?_;(apply wt;(focus(kernel_rfl));(focus(kernel_rfl)));refine sW 12 (Ep rfl) ?_;(repeat(first|refine ak (q:=x) rfl rfl rfl rfl (F.un _ rfl) (F.sz _ rfl) k4 rfl hx (EE _) ?_|refine ak (q:=x-1) rfl rfl rfl rfl (F.un _ rfl) (F.sz _ rfl) k4 (by omega) (by omega) (EE _) ?_|refine cv (us:=fX lv[x]) rfl rfl rfl (F.ag _ rfl) k4 hf1 rfl (by omega) ?_|refine cv (us:=fX (lv[x-1]'(by omega))) rfl rfl rfl (F.ag _ rfl) k4 hf0 rfl (by omega) ?_|apply az;rfl|refine ba (am rfl rfl (.inr (.inl ⟨rfl,(Ek _ ⟨(by focus(omega)),(by focus(omega))⟩).symm⟩))) rfl rfl rfl ?_|refine fV rfl rfl rfl rfl (fun _=>?_) (fun hq=>absurd hq (by omega))));(refine au ?_);(apply pT;rfl;rfl;rfl;(focus(kernel_rfl));exact(hlr _ _));refine rE ?_;(repeat(first|refine ak (q:=x) rfl rfl rfl rfl (F.un _ rfl) (F.sz _ rfl) k4 rfl hx (EE _) ?_|refine cv (us:=fX lv[x]) rfl rfl rfl (F.ag _ rfl) k4 hf1 rfl (by omega) ?_|(apply cd;rfl;rfl;exact(fun _ h=>by cases h);exact(lN (m:=m) (c:=cl) (hg9) rfl rfl (by rfl) b2));(refine ba (ga rfl rfl) rfl rfl rfl ?_)|apply az;rfl|apply bA;rfl;rfl));refine au ⟨by kernel_rfl,?_,?_⟩;(focus(repeat(first|exact Gu|refine⟨.inl rfl,?_⟩)));(repeat(first|exact join7 _ _ _ () ⟨rfl,rfl⟩ (Gq (Gt rfl))|apply a6;rfl)))
             done
            ·cases gb
             all_goals(refine jG ?_;(apply wt;(focus(kernel_rfl));(focus(kernel_rfl)));refine sW 12 (Ep rfl) ?_;(repeat(first|refine ak (q:=x) rfl rfl rfl rfl (F.un _ rfl) (F.sz _ rfl) k4 rfl hx (EE _) ?_|refine ak (q:=x-1) rfl rfl rfl rfl (F.un _ rfl) (F.sz _ rfl) k4 (by omega) (by omega) (EE _) ?_|refine cv (us:=fX lv[x]) rfl rfl rfl (F.ag _ rfl) k4 hf1 rfl (by omega) ?_|refine cv (us:=fX (lv[x-1]'(by omega))) rfl rfl rfl (F.ag _ rfl) k4 hf0 rfl (by omega) ?_|apply az;rfl|refine ba (am rfl rfl (.inr (.inl ⟨rfl,(Ek _ ⟨(by focus(omega)),(by focus(omega))⟩).symm⟩))) rfl rfl rfl ?_|refine fV rfl rfl rfl rfl (fun _=>?_) (fun hq=>absurd hq (by omega))));(refine au ?_);(apply pT;rfl;rfl;rfl;(focus(kernel_rfl));exact(hlr _ _));refine rE ?_;(repeat(first|refine ak (q:=x) rfl rfl rfl rfl (F.un _ rfl) (F.sz _ rfl) k4 rfl hx (EE _) ?_|refine cv (us:=fX lv[x]) rfl rfl rfl (F.ag _ rfl) k4 hf1 rfl (by omega) ?_|refine ba (bn (F.ag _ rfl) rfl b1 (aB 3 1 rfl rfl)) rfl rfl rfl ?_|(apply cd;rfl;rfl;exact(fun _ h=>by cases h);exact(lN (m:=m) (c:=cl) (hg9) rfl rfl (by rfl) b2));(refine ba (ga rfl rfl) rfl rfl rfl ?_)|apply cd;rfl;rfl;exact(fun _ h=>by cases h);exact(iY hse rfl rfl)|apply az;rfl|apply bA;rfl;rfl));refine au ⟨by kernel_rfl,?_,?_⟩;(focus(repeat(first|exact Gu|refine⟨.inl rfl,?_⟩)));(repeat(first|exact join7 _ _ _ () ⟨rfl,rfl⟩ (Gq (Gt rfl))|apply a6;rfl)))
         ·obtain rfl:x=lv.length:=by omega
          rw [List.take_length,hfd]
          repeat first|exact join4 _ _ _ () ⟨rfl,rfl⟩ (Gq (Gt rfl))|apply a6;rfl
      ·intro join3
       rcases h08 with rfl|rfl <;> (repeat(first|exact join3 _ _ _ () ⟨rfl,rfl⟩ (Gq (Gt rfl))|apply a6;rfl|apply jK;rfl;omega|apply sh;rfl;omega))
     ·intro join3
      rcases h08 with rfl|rfl
      ·have hg:(io m s.e).isSome=s.del:=by
        have h0:=(hS.zero rfl).1
        cases hd:s.del with
        | true=>rw [i3.yes (h0.2 hd)];rfl
        | false=>rw [i3.no (fun h=>by rw [h0.1 h] at hd;cases hd)];rfl
       repeat apply ah;rfl
       (apply bU;(focus(kernel_rfl));(focus(kernel_rfl)))
       repeat first|refine ba (bn (F.ag _ rfl) rfl a1 (aB 3 1 rfl rfl)) rfl rfl rfl ?_|(apply cd;rfl;rfl;exact(fun _ h=>by cases h);exact(lN (m:=m) (c:=cl) (hg) rfl rfl (by rfl) j2));(refine ba (ga rfl rfl) rfl rfl rfl ?_)|apply cd;rfl;rfl;exact(fun _ h=>by cases h);exact(tI rfl rfl Tryz.underlying4)|apply kO;rfl;assumption;rfl|apply az;rfl|refine iL rfl rfl rfl rfl (fun _=>?_) (fun hq=>absurd hq (by omega))
       refine au ⟨by kernel_rfl,?_,?_⟩;(focus(repeat(first|exact Gu|apply jk;rfl;kernel_rfl|refine js 0 rfl (by kernel_rfl) (by(repeat(refine⟨(by first|exact aK (F.ag _ rfl) rfl (by assumption) (aF rfl)|exact lN hg rfl rfl (by rfl) j2|exact tI rfl rfl Tryz.underlying4|exact ga rfl rfl|exact bn (F.ag _ rfl) rfl a1 (aB 3 1 rfl rfl)),?_⟩));exact Gu) ?_|apply oD;kernel_rfl)))
       repeat first|exact join3 _ _ _ () ⟨rfl,rfl⟩ (Gq (Gt rfl))|apply a6;rfl
      ·repeat apply ah;rfl
       (apply bU;(focus(kernel_rfl));(focus(kernel_rfl)))
       repeat first|apply az;rfl|apply bA;rfl;rfl|refine iL rfl rfl rfl rfl (fun hq=>absurd hq (by omega)) (fun _=>?_)
       refine au ⟨by kernel_rfl,?_,?_⟩;(focus(repeat(first|exact Gu|apply sV;rfl|apply jk;rfl;kernel_rfl|apply oD;kernel_rfl)))
       repeat first|exact join3 _ _ _ () ⟨rfl,rfl⟩ (Gq (Gt rfl))|apply a6;rfl
    rcases hS.nos with rfl|rfl|rfl|rfl|rfl|rfl
    ·exact absurd (.inl rfl) h08
    ·have hst:=hS.still (by decide)
     repeat apply ah;rfl
     (apply bU;(focus(kernel_rfl));(focus(kernel_rfl)))
     repeat first|apply az;rfl|apply bA;rfl;rfl|refine iL rfl rfl rfl rfl (fun hq=>absurd hq (by omega)) (fun _=>?_)
     refine au ⟨by kernel_rfl,?_,?_⟩;(focus(repeat(first|exact Gu|apply sV;rfl|apply jk;rfl;kernel_rfl|apply oD;kernel_rfl)))
     repeat first|exact hcont _ _ _ hst (Kept.refl _ _ _) (EE _) a2 (Gq (Gt rfl))|apply a6;rfl|apply aC;rfl;omega;omega|apply sh;rfl;omega
    ·have hst:=hS.still (by decide)
     repeat apply ah;rfl
     (apply bU;(focus(kernel_rfl));(focus(kernel_rfl)))
     repeat first|apply az;rfl|apply bA;rfl;rfl|refine iL rfl rfl rfl rfl (fun hq=>absurd hq (by omega)) (fun _=>?_)
     refine au ⟨by kernel_rfl,?_,?_⟩;(focus(repeat(first|exact Gu|apply sV;rfl|apply jk;rfl;kernel_rfl|apply oD;kernel_rfl)))
     repeat first|exact hcont _ _ _ hst (Kept.refl _ _ _) (EE _) a2 (Gq (Gt rfl))|apply a6;rfl|apply aC;rfl;omega;omega|apply sh;rfl;omega
    ·have hst:=hS.still (by decide)
     have hg:(io m s.e).isSome=false:=by rw [i3.no (hS.away rfl)];rfl
     repeat apply ah;rfl
     (apply bU;(focus(kernel_rfl));(focus(kernel_rfl)))
     repeat first|apply az;rfl|apply bA;rfl;rfl|refine iL rfl rfl rfl rfl (fun hq=>absurd hq (by omega)) (fun _=>?_)
     refine au ⟨by kernel_rfl,?_,?_⟩;(focus(repeat(first|exact Gu|apply sV;rfl|apply jk;rfl;kernel_rfl|apply oD;kernel_rfl)))
     repeat first|exact hcont _ _ _ hst (Kept.refl _ _ _) (EE _) a2 (Gq (Gt rfl))|(refine dn rfl (.inr (fun _ h=>by cases h)) ((lN (m:=m) (c:=cl) (hg) rfl rfl (by rfl) j2).does) ?_);rw [aI rfl];(refine bO (ga rfl rfl) rfl rfl rfl ?_)|refine cN rfl rfl rfl (F.ag _ rfl) a1 (aB 3 1 rfl rfl) ?_|apply a6;rfl|apply aC;rfl;omega;omega|apply jK;rfl;omega|apply sh;rfl;omega
    ·exact absurd (.inr rfl) h08
    ·have hst:=hS.still (by decide)
     have hg:(io m s.e).isSome=true:=by rw [i3.yes (hS.there rfl)];rfl
     repeat apply ah;rfl
     (apply bU;(focus(kernel_rfl));(focus(kernel_rfl)))
     repeat first|apply az;rfl|apply bA;rfl;rfl|refine iL rfl rfl rfl rfl (fun hq=>absurd hq (by omega)) (fun _=>?_)
     refine au ⟨by kernel_rfl,?_,?_⟩;(focus(repeat(first|exact Gu|apply sV;rfl|apply jk;rfl;kernel_rfl|apply oD;kernel_rfl)))
     repeat first|exact hcont _ _ _ hst (Kept.refl _ _ _) (EE _) a2 (Gq (Gt rfl))|(refine dn rfl (.inr (fun _ h=>by cases h)) ((lN (m:=m) (c:=cl) (hg) rfl rfl (by rfl) j2).does) ?_);rw [aI rfl];(refine bO (ga rfl rfl) rfl rfl rfl ?_)|refine cN rfl rfl rfl (F.ag _ rfl) a1 (aB 3 1 rfl rfl) ?_|apply a6;rfl|apply aC;rfl;omega;omega|apply jK;rfl;omega|apply sh;rfl;omega
   ·intro join2
    cases hd:s.del with
    | true=>
      repeat first|refine cN rfl rfl rfl (F.ag _ rfl) a1 (aB 3 1 rfl rfl) ?_|apply ah;rfl
      refine aZ rfl rfl rfl (by kernel_rfl) (Gi (vJ (e:=s.e) a2 i2 hlb5 (EF _)) ?_)
      rintro⟨_,H6,n6⟩ ⟨no,mem',bs',left',c',rfl,hS,z1,z2,z3,z4,z5,_⟩
      dsimp only at z1 z4 z5 ⊢
      repeat first|exact join2 _ _ _ ⟨no,mem',bs',left',c'⟩ ⟨hd ▸ hS,z1,z4,(z5 n3 (by omega) (by omega) (NoPut.box a1)).trans a1,hK.kept z5 (by omega) (by omega) (by omega) (by omega) (by omega)⟩ (Gq (Gt rfl))|apply cT;rfl;kernel_rfl;exact vg _|apply a6;rfl
    | false=>
      repeat first|refine cN rfl rfl rfl (F.ag _ rfl) a1 (aB 3 1 rfl rfl) ?_|apply ah;rfl
      refine aZ rfl rfl rfl (by kernel_rfl) (Gi (vA (e:=s.e) a2 i2 hlb5 (EF _)) ?_)
      rintro⟨_,H6,n6⟩ ⟨no,mem',bs',left',c',rfl,hS,z1,z2,z3,z4,z5,_⟩
      dsimp only at z1 z4 z5 ⊢
      repeat first|exact join2 _ _ _ ⟨no,mem',bs',left',c'⟩ ⟨hd ▸ hS,z1,z4,(z5 n3 (by omega) (by omega) (NoPut.box a1)).trans a1,hK.kept z5 (by omega) (by omega) (by omega) (by omega) (by omega)⟩ (Gq (Gt rfl))|apply cT;rfl;kernel_rfl;exact vg _|apply a6;rfl
  ·intro join
   have hlf:qU s=if 0<s.left then s.left else -1:=rfl
   repeat first|apply ah;rfl|apply aM;rfl;assumption;rfl
   refine dI rfl rfl rfl rfl (fun c3=>?_) (fun c3=>?_)
   ·rw [EQ c3] at hlf
    repeat first|apply ah;rfl|apply aM;rfl;assumption;rfl
    refine cq (cs:=lP mem cF (-1) false) rfl rfl rfl (F.sz _ rfl) (by exact a2) rfl (Es (by rw [gl i2.len];decide)) ?_
    rw [show ∀ x,(lP mem cF (-1) false).set (0+28673) (.sc (.int .i64 x))=lP mem cF x false from fun x=>mg i2.len _ _ _ _]
    repeat first|exact join _ _ _ () ⟨rfl,by(repeat(refine aa (by omega) ?_));exact a1,⟨cF,by rw [hlf];(focus((repeat(exact ae));done)),.inl ⟨rfl,rfl⟩⟩,⟨by(repeat(refine aa (by omega) ?_));exact j1,by(repeat(refine aa (by omega) ?_));exact j2,fun m h1 h2=>by(repeat(refine aa (by omega) ?_));exact j3 m h1 h2⟩⟩ (Gq (Gt rfl))|apply a6;rfl
   ·rw [EP (by omega)] at hlf
    repeat first|exact join _ _ _ () ⟨rfl,a1,⟨cF,by rw [hlf];exact a2,.inl ⟨rfl,rfl⟩⟩,⟨j1,j2,j3⟩⟩ (Gq (Gt rfl))|apply a6;rfl
 ·repeat apply ah;rfl
  refine aZ rfl rfl rfl (by kernel_rfl) (Gi (yB i4 i2) ?_)
  rintro⟨_,H9,n9⟩ ⟨rfl,z1,z2⟩
  dsimp only at z1 z2 ⊢
  repeat first|apply cT;rfl;kernel_rfl;exact vg _|apply jK;rfl;rfl|apply ah;rfl
  (apply b8 Tryz.func4 Tryz.results4;rfl)
  exact⟨rfl,by first|omega|(dsimp only;omega),fun m h1 h2=>(z2 m (by omega)).trans (j3 m h1 h2)⟩
end Go.Proofs.YtelnglhodnoclaaGreat
end
section
namespace Go.Sl
open Go Go.RowKit Go.WideShapes Go.ChangeShapes
theorem post_new{H:Type}{enc:TypeId×Value→H}{P:Program}{f:Func}{s:ChangeSpec}{apart fresh handsOn again:Bool}{W W':World}{args:Array Value}{v:Value}{ds gs:List (DataW H)}{before pa pv:List MemPlace}
 (hW:DataW.Whole enc P f.params.toList s.vars apart W args.toList ds gs before) (hb:Below W.heap.size W W') (hps:before=pa ++ pv)
 (hres: ∀ (b:Nat) (sp:Nat→Bool) (hd:Bool),DataW.TrodAll enc P W' b sp hd f.resultTypes.toList (v.resultList f.resultTypes.size) (s.fn H (ds ++ gs)).results [])
 (hargs: ∀ sp:Nat→Bool,(∀ p∈before,sp p.block=true)→DataW.TrodAll enc P W' 0 sp true f.params.toList args.toList (s.fn H (ds ++ gs)).args pa)
 (hvars: ∀ sp:Nat→Bool,(∀ p∈before,sp p.block=true)→DataW.TrodVars enc P W' sp s.vars (s.fn H (ds ++ gs)).vars pv)
 (hok: ∀ (j:Nat) (t:TypeId) (r:Value),f.resultTypes[j]? =some t→(v.resultList f.resultTypes.size)[j]? =some r→Value.okWide P W' .any 0 t r) :
 s.post enc P f apart fresh handsOn again W args v W':=by
 have hsp: ∀ p∈before,(fun b=>decide (b<W.heap.size)) p.block=true:=fun p hp=>by simpa using hW.lt p hp
 have hmem: ∀ p,p∈pa ++ pv↔p∈before:=fun p=>by rw [hps]
 refine⟨ds,gs,before,[],pa,pv,hW,hres _ _ _,hargs _ hsp,hvars _ hsp,World.keptBut_mono (fun p hp=>⟨hp,?_⟩) (hb.frame (·∈before)),fun _=>?_⟩
 ·have:=(hmem p).2 hp
  rw [List.mem_append] at this
  exact .inr this
 obtain⟨_,_,_,_,_,hz,hn⟩:=id hW
 refine⟨hok,_,_,([] ++ pa) ++ pv,⟨[] ++ pa,pv,trodAll_append (hargs _ (fun _ _=>rfl)) (hres _ _ _),hvars _ (fun _ _=>rfl),rfl,fun b off hp=>?_,fun ha=>?_⟩,fun p hp _=>?_⟩
 ·have hin:MemPlace.cell b off∈before:=(hmem _).1 (by simpa using hp)
  rw [hb.frozen (hW.lt _ hin)]
  exact hz b off hin
 ·have:=hn ha
  rw [hps] at this
  simpa using this
 ·exact(hmem p).1 (by simpa using hp)
end Go.Sl
end
