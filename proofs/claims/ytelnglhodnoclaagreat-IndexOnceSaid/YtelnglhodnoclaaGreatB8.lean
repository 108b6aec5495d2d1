import Derived.WalkKit
import Derived.ProofKit
import Derived.OpenShut
import Derived.Below
import Derived.ChangeSame
import Derived.Carry
import Derived.ChangeArms
import Derived.Test.YtelnglhodnoclaaGreatB7
set_option linter.unusedVariables false
set_option linter.unusedSimpArgs false
set_option maxRecDepth 100000
set_option maxHeartbeats 0
section
namespace Go.Sy
open Go Go.Sl Go.RowKit
theorem Cn{vF:Nat→SV}(h: ∀ (ρ:Nat→Nat) n,(vF n).ren ρ=vF (ρ n)){e e':Env}{a b:Nat}(hab:e a=e' b):(vF a).conc e=(vF b).conc e':=by
 have k: ∀ (e:Env) a,(vF a).conc e=(vF 0).conc (pull e fun _=>a):=fun e a=>by
  have:=dL (ρ:=fun _=>a) (e:=e) (vF 0)
  rw [h] at this
  exact this
 rw [k e a,k e' b,show pull e (fun _=>a)=pull e' (fun _=>b)from funext fun _=>hab]
theorem zK{K:Zone}{w:World}{vo:VO}{x:Ent}{e e':Env}{a b:Nat}(h: ∀ ρ,vo.ren ρ=vo)(hab:e a=e' b)(hl:Lies K w e vo x):Lies K w e' vo x:=by
 have k: ∀ (e:Env) a,Lies K w e vo x↔Lies K w (pull e fun _=>a) vo x:=fun e a=>by
  have:=hZ (K:=K) (w:=w) (vo:=vo) (x:=x) (ρ:=fun _=>a) (e:=e)
  rw [h] at this
  exact this
 rw [k e a,show pull e (fun _=>a)=pull e' (fun _=>b)from funext fun _=>hab] at hl
 exact(k e' b).2 hl
structure Mk where
 c:Nat
 vF:Nat→SV
 vo:VO
structure MkOne (P:Program) (rn:Rn) (R:List Rec) (H0:aw) (n0 p:Nat) (m:Mk):Prop where
 ex: ∃ r,R[m.c]? =some r∧r.val=m.vF (n0+p)∧ ∀ (H:aw) (n:Nat),n0≤n→(∀ i,i<n0→H.at' i=H0.at' i)→gv P rn r.T H n r.o (m.vF n,H.set n m.vo,n+1)
 ren: ∀ (ρ:Nat→Nat) n,(m.vF n).ren ρ=m.vF (ρ n)
 na: ∀ ρ,m.vo.ren ρ=m.vo
def rU(P:Program)(rn:Rn)(r:Rec)(H:aw)(n:Nat):Prop:=ReadDoes P r.T H r.o r.val∨(Free r.val∧gv P rn r.T H n r.o (r.val,H,n))
structure MkOk (P:Program) (rn:Rn) (ops:Array Oper) (R:List Rec) (Q:List (aw×Nat)) (C:List Nat) (ms:List Mk) (H0:aw) (n0:Nat):Prop where
 c: ∀ (p:Nat) m,ms[p]? =some m→C[p]? =some m.c
 one: ∀ (p:Nat) m,ms[p]? =some m→MkOne P rn R H0 n0 p m
 q: ∃ Hk,Q[ms.length]? =some (Hk,n0+ms.length)∧(∀ i,i<n0∨n0+ms.length≤i→Hk.at' i=H0.at' i)∧ ∀ (p:Nat) m,ms[p]? =some m→Hk.at' (n0+p)=some m.vo
 behind: ∀ (j c:Nat),ms.length≤j→C[j]? =some c→ ∀ m∈ms,Anc ops c m.c
 fl: ∀ r∈R,r.chain=false→r.wanted=true→(∃ m∈ms,¬ Anc ops r.i m.c)→ ∀ H,(∀ i,i<n0→H.at' i=H0.at' i)→(∀ (p:Nat) m,ms[p]? =some m→Anc ops r.i m.c→H.at' (n0+p)=some m.vo)→rU P rn r H (n0+ms.length)
def Cx(ms:List Mk)(C:List Nat)(H0:aw)(n0:Nat):Mem:=fun L e H n=>(∃ m∈ms,¬ L m.c)∧n=n0+ms.length∧(∀ (j c:Nat),ms.length≤j→C[j]? =some c→ ¬ L c)∧(∀ i,i<n0∨n0+ms.length≤i→H.at' i=H0.at' i) ∧
 ∀ (p:Nat) m,ms[p]? =some m→(L m.c→H.at' (n0+p)=some m.vo)∧(¬ L m.c→H.at' (n0+p)=none∧e (n0+p)=none)
section
variable {P:Program} {K:Zone} {w0:World} {rn:Rn} {nt:Nat} {ops:Array Oper} {T0:Tr SV} {R:List Rec} {Q:List (aw×Nat)} {C:List Nat} {ms:List Mk} {H0:aw} {n0:Nat}
theorem uK(hrn:l8 P K w0 rn)(hR:RegOK P rn nt ops T0 R Q C)(hk:MkOk P rn ops R Q C ms H0 n0)(hl:A2 P rn ops R Q C ms.length):rT P K w0 nt ops R (fun L e H n=>Cx ms C H0 n0 L e H n∨D0 Q C ms.length L e H n):=by
 intro L i o r e w tr H n fn rest k ds kd rof cs ho hr hro hni hanc hcl hT hwant hM hS
 rcases hM with hM|hM
 rotate_left
 ·obtain⟨e',w',u,H',n',g1,g2,g⟩:=qo hrn hR hl L i o r e w tr H n fn rest k ds kd rof cs ho hr hro hni hanc hcl hT hwant hM hS
  exact⟨e',w',u,H',n',g1,.inr g2,g⟩
 obtain⟨⟨m0,hm0,hm0L⟩,rfl,hlate,hold,hmk⟩:=hM
 have hrec:=hR.recs i r hr
 have stay:r.chain=false→Cx ms C H0 n0 (fun j=>L j∨j=i) e H (n0+ms.length):=fun hc=>by
  have hne: ∀ {j c:Nat},C[j]? =some c→c≠i:=fun {j c} hj he=>by
   subst he
   rw [hR.at_chain hj hr] at hc
   cases hc
  refine⟨⟨m0,hm0,?_⟩,rfl,fun j c hj hc'=>?_,hold,fun p m hp=>?_⟩
  ·obtain⟨p,hp⟩:=List.mem_iff_getElem?.1 hm0
   exact fun h=>h.elim hm0L (hne (hk.c p m0 hp))
  ·exact fun h=>h.elim (hlate j c hj hc') (hne hc')
  ·have hn:=hne (hk.c p m hp)
   exact⟨fun h=>(hmk p m hp).1 (h.resolve_right hn),fun h=>(hmk p m hp).2 fun h'=>h (.inl h')⟩
 cases hwd:r.wanted with
 | false=>
   rw [hwd] at hwant
   obtain⟨h1,h2⟩:=hrec.skip hwd
   exact⟨e,w,undef,H,_,E9 e,.inl (stay h2),hS,by rw [h1];rfl,.one (iv ho hwant)⟩
 | true=>
   rw [hwd] at hwant
   cases hc:r.chain with
   | false=>
     have hri:=hrec.idx
     rcases hk.fl r (Ef hr) hc hwd ⟨m0,hm0,fun h=>hm0L (hanc _ (hri ▸ h))⟩ H (fun i hi=>hold i (.inl hi)) (fun p m hp ha=>(hmk p m hp).1 (hanc _ (hri ▸ ha)))with hf|⟨hfree,hf⟩
     ·rw [hro] at hf
      obtain⟨u,hu,hst⟩:=ng (P:=P) (fn:=fn) (rest:=rest) (k:=k) (ds:=ds) (kd:=kd) (rof:=rof) (cs:=cs) hS hT ho hwant (hro ▸ (hrec.float hwd hc).1) hf
      exact⟨e,w,u,H,_,E9 e,.inl (stay hc),hS,hu,hst⟩
     ·rw [hro] at hf
      obtain⟨e1,w1,u,hle,hS1,hu,hst⟩:=kI (P:=P) hrn (fn:=fn) (rest:=rest) (k:=k) (ds:=ds) (kd:=kd) (rof:=rof) (cs:=cs) hS hT ho hwant hf
      exact⟨e,w1,u,H,_,E9 e,.inl (stay hc),hS.drop hle hS1 (fun _ _=>rfl),hfree _ _ _ hu,hst⟩
   | true=>
     obtain⟨_,hC,_⟩:=hrec.eff hc
     have hlt:r.stg<ms.length:=by
      rcases EB r.stg ms.length with h|h
      ·exact h
      ·exact absurd (hanc _ (hk.behind r.stg i h hC m0 hm0)) hm0L
     obtain⟨m,hm⟩: ∃ m,ms[r.stg]? =some m:=⟨_,D5 hlt⟩
     generalize r.stg=p at hC hlt hm
     have hmc:m.c=i:=by
      have:=hk.c _ m hm
      rw [hC] at this
      exact(Option.some.inj this).symm
     have h1:=hk.one p m hm
     obtain⟨r',hr',hv,hef⟩:=h1.ex
     rw [hmc,hr] at hr'
     cases hr'
     have hef:=hef H (n0+ms.length) (Nat.le_add_right _ _) (fun i hi=>hold i (.inl hi))
     rw [hro] at hef
     obtain⟨e1,w1,u,hle,hS1,hu,hst⟩:=kI (P:=P) hrn (fn:=fn) (rest:=rest) (k:=k) (ds:=ds) (kd:=kd) (rof:=rof) (cs:=cs) hS hT ho hwant hef
     obtain⟨_,heN⟩:=(hmk p m hm).2 (by rw [hmc];exact hni)
     have hle':e.le (fun j=>if j=n0+p then e1 (n0+ms.length) else e j):=fun j x hx=>by
      by_cases hj:j=n0+p
      ·rw [hj,heN] at hx;cases hx
      ·exact(Ey hj).trans hx
     have hlow: ∀ {j:Nat} {v:VO},H.at' j=some v→j<n0+ms.length:=fun {j v} h=>by
      obtain⟨x,hx,_⟩:=hS.rel j v h
      rcases EB j (n0+ms.length)with q|q
      ·exact q
      ·rw [hS.fresh j q] at hx;cases hx
     have up: ∀ {j:Nat} {v:VO},(H.set (n0+p) m.vo).at' j=some v→(H.set (n0+ms.length) m.vo).at' (if j=n0+p then n0+ms.length else j)=some v:=fun {j v} h=>by
      rcases bl h with ⟨rfl,rfl⟩|⟨hne,h⟩
      ·rw [Ez rfl];exact ah
      ·rw [Ey hne];exact aa (Nat.ne_of_lt (hlow h)) h
     have upe: ∀ {j:Nat} {v:VO} {x:Ent},(H.set (n0+p) m.vo).at' j=some v→(if j=n0+p then e1 (n0+ms.length) else e j)=some x→e1 (if j=n0+p then n0+ms.length else j)=some x:=fun {j v x} h hx=>by
      by_cases hj:j=n0+p
      ·rw [Ez hj] at hx ⊢;exact hx
      ·rw [Ey hj] at hx ⊢;exact hle j x hx
     have hS':St K w0 (fun j=>if j=n0+p then e1 (n0+ms.length) else e j) (H.set (n0+p) m.vo) (n0+ms.length) w1:=by
      refine⟨hS1.below,fun j v h=>?_,fun j j' v v' x x' a b c d hne q1 q2 q3 q4=>hS1.inj _ _ v v' x x' (up a) (up b) (upe a c) (upe b d) (fun he=>hne ?_) q1 q2 q3 q4,fun j hj=>(Ey (by omega)).trans (hS.fresh j hj)⟩
      ·obtain⟨x,hx,hlx⟩:=hS1.rel _ v (up h)
       rcases bl h with ⟨rfl,rfl⟩|⟨hne,h⟩
       ·rw [Ez rfl] at hx
        exact⟨x,(Ez rfl).trans hx,zK (a:=n0+ms.length+1) (b:=n0+ms.length+1) h1.na (by rw [hS1.fresh _ (Em _),Ey (by omega),hS.fresh _ (Ew _)]) hlx⟩
       ·rw [Ey hne] at hx
        obtain⟨x0,hx0,hl0⟩:=hS.rel j v h
        have:=hle j x0 hx0
        rw [hx] at this
        cases this
        exact⟨x,(Ey hne).trans hx0,ml hle hle' hl0 hlx⟩
      ·by_cases g1:j=n0+p
       ·by_cases g2:j'=n0+p
        ·rw [g1,g2]
        ·rw [Ez g1,Ey g2] at he
         rcases bl b with ⟨q,_⟩|⟨_,q⟩
         ·exact absurd q g2
         ·have:=hlow q
          omega
       ·by_cases g2:j'=n0+p
        ·rw [Ey g1,Ez g2] at he
         rcases bl a with ⟨q,_⟩|⟨_,q⟩
         ·exact absurd q g1
         ·have:=hlow q
          omega
        ·rw [Ey g1,Ey g2] at he
         exact he
     have hval:r.val.conc (fun j=>if j=n0+p then e1 (n0+ms.length) else e j)=some u:=by
      rw [hv,Cn h1.ren (e':=e1) (b:=n0+ms.length) (Ez rfl)]
      exact hu
     refine⟨_,w1,u,H.set (n0+p) m.vo,n0+ms.length,hle',?_,hS',hval,hst⟩
     have hqp: ∀ {q:Nat} {mq:Mk},ms[q]? =some mq→mq.c=i→q=p:=fun {q mq} hq he=>np hR (by rw [← he];exact hk.c q mq hq) hC
     have hinj: ∀ {j:Nat},C[j]? =some i→j=p:=fun {j} hj=>np hR hj hC
     by_cases hall: ∀ m'∈ms,L m'.c∨m'.c=i
     ·obtain⟨Hk,hQ,g1,g2⟩:=hk.q
      have hH:H.set (n0+p) m.vo=Hk:=funext fun j=>by
       show(H.set (n0+p) m.vo).at' j=Hk.at' j
       by_cases hj:j<n0∨n0+ms.length≤j
       ·exact(aa (by omega) (hold j hj)).trans (g1 j hj).symm
       ·obtain⟨q,rfl⟩: ∃ q,j=n0+q:=⟨j-n0,by omega⟩
        obtain⟨mq,hq⟩: ∃ mq,ms[q]? =some mq:=⟨_,D5 (by omega)⟩
        rw [g2 q mq hq]
        by_cases hqe:q=p
        ·subst hqe
         rw [hm] at hq
         cases hq
         exact ah
        ·exact aa (by omega) ((hmk q mq hq).1 ((hall mq (Ef hq)).resolve_right fun he=>hqe (hqp hq he)))
      refine .inr ⟨ms.length,Em _,by rw [hH];exact hQ,fun j c hj=>⟨fun h=>?_,fun h=>?_⟩⟩
      ·rcases EB j ms.length with g|g
       ·exact g
       ·exact h.elim (fun h=>absurd h (hlate j c g hj)) fun h=>by
         subst h
         have:=hinj hj
         omega
      ·obtain⟨m',hm'⟩: ∃ m',ms[j]? =some m':=⟨_,D5 h⟩
       have:=hk.c j m' hm'
       rw [hj] at this
       cases this
       exact hall m' (Ef hm')
     ·refine .inl ⟨?_,rfl,fun j c hj hc'=>?_,fun j hj=>aa (by omega) (hold j hj),fun q mq hq=>⟨fun h=>?_,fun h=>?_⟩⟩
      ·apply Classical.byContradiction
       intro hno
       exact hall fun m' hm'=>Classical.byContradiction fun h=>hno ⟨m',hm',h⟩
      ·rintro(h|h)
       ·exact hlate j c hj hc' h
       ·subst h
        have:=hinj hc'
        omega
      ·by_cases hqe:q=p
       ·subst hqe
        rw [hm] at hq
        cases hq
        exact ah
       ·exact aa (by omega) ((hmk q mq hq).1 (h.resolve_right fun he=>hqe (hqp hq he)))
      ·have hqe:q≠p:=fun he=>by
        subst he
        rw [hm] at hq
        cases hq
        exact h (.inr hmc)
       have:=(hmk q mq hq).2 fun h'=>h (.inl h')
       exact⟨aa (by omega) this.1,(Ey (by omega)).trans this.2⟩
end
def addL(H:aw):Nat→List VO→aw
 | _,[]=>H
 | n,vo :: l=>addL (H.set n vo) (n+1) l
theorem nw: ∀ (l:List VO) (H:aw) (n i:Nat),(addL H n l).at' i=if n≤i∧i<n+l.length then l[i-n]? else H.at' i
 | [],H,n,i=>by
   rw [Ey (by simp only [List.length_nil];omega)]
   rfl
 | x :: l,H,n,i=>by
   show(addL (H.set n x) (n+1) l).at' i=_
   rw [nw l]
   by_cases h1:n+1≤i∧i<n+1+l.length
   ·rw [Ez h1,Ez (by simp only [Ep];omega),show i-n=(i-(n+1))+1 by omega]
    rfl
   ·rw [Ey h1]
    by_cases h2:i=n
    ·subst h2
     rw [Ez (by simp only [Ep];omega),Nat.sub_self]
     exact ah
    ·rw [Ey (by simp only [Ep];omega)]
     exact aa h2 rfl
def MkAll(P:Program)(rn:Rn)(R:List Rec)(H0:aw)(n0:Nat):Nat→List Mk→Prop
 | _,[]=>True
 | p,m :: l=>MkOne P rn R H0 n0 p m∧MkAll P rn R H0 n0 (p+1) l
theorem MkAll.get{P:Program}{rn:Rn}{R:List Rec}{H0:aw}{n0:Nat}: ∀ {l:List Mk} {p:Nat},MkAll P rn R H0 n0 p l→ ∀ (j:Nat) m,l[j]? =some m→MkOne P rn R H0 n0 (p+j) m
 | [],_,_,j,m,h=>by simp at h
 | x :: l,p,hh,0,m,h=>by
   cases h
   exact hh.1
 | x :: l,p,hh,j+1,m,h=>by
   rw [show p+(j+1)=p+1+j by omega]
   exact hh.2.get j m (by simpa using h)
def Cv(b:Nat)(H:aw):Nat→List Mk→Prop
 | _,[]=>True
 | n,m :: l=>(b.testBit m.c=true→H.at' n=some m.vo)∧Cv b H (n+1) l
theorem sH{b:Nat}{H:aw}: ∀ {l:List Mk} {n:Nat},(∀ (p:Nat) m,l[p]? =some m→b.testBit m.c=true→H.at' (n+p)=some m.vo)→Cv b H n l
 | [],_,_=>trivial
 | m :: l,n,h=>⟨fun hb=>h 0 m rfl hb,sH fun p m' hp hb=>by
    rw [show n+1+p=n+(p+1) by omega]
    exact h (p+1) m' hp hb⟩
def FlM(P:Program)(ancs chain:List Nat)(ms:List Mk)(H0:aw)(n0:Nat)(Q:List (aw×Nat)):List Rec→Prop
 | []=>True
 | r :: l=>((r.chain || !r.wanted || (Nat.beq (gW (ancs.getD r.i 0) chain) r.stg && Nat.beq (dq ancs r.i chain) r.stg && ms.all fun m=>(ancs.getD r.i 0).testBit m.c))=true ∨
    ((∀ H n,(∀ i,i<n0→H.at' i=H0.at' i)→Cv (ancs.getD r.i 0) H n0 ms→rU P (wpr P) r H n)∧AllHQ (Q.take (chain.length-ms.length)) (fun H n=>rU P (wpr P) r H n)))∧FlM P ancs chain ms H0 n0 Q l
theorem FlM.ok{P:Program}{ancs chain:List Nat}{ms:List Mk}{H0:aw}{n0:Nat}{Q:List (aw×Nat)}: ∀ {l:List Rec},FlM P ancs chain ms H0 n0 Q l→ ∀ r∈l,r.chain=false→r.wanted=true →
 (gW (ancs.getD r.i 0) chain=r.stg∧dq ancs r.i chain=r.stg∧ ∀ m∈ms,(ancs.getD r.i 0).testBit m.c=true)∨((∀ H n,(∀ i,i<n0→H.at' i=H0.at' i)→Cv (ancs.getD r.i 0) H n0 ms→rU P (wpr P) r H n)∧AllHQ (Q.take (chain.length-ms.length)) (fun H n=>rU P (wpr P) r H n))
 | [],_,r,hm,_,_=>by cases hm
 | r0 :: l,hh,r,hm,hc,hw=>by
   rcases EN.1 hm with rfl|hm
   ·rcases hh.1 with h|h
    ·rw [hc,hw] at h
     simp only [Bool.not_true,Bool.false_or,Ek] at h
     exact .inl ⟨EO h.1.1,EO h.1.2,fun m hm=>List.all_eq_true.1 h.2 m hm⟩
    ·exact .inr h
   ·exact FlM.ok hh.2 r hm hc hw
theorem wz{P:Program}{rn:Rn}{nt:Nat}{ops:Array Oper}: ∀ {l:List Oper} {i:Nat} {s s':DS},DrawRun P rn nt ops i l s s'→s'.recs.length=s.recs.length+l.length
 | [],i,s,s',h=>by
   cases h
   rfl
 | o :: l,i,s,s',h=>by
   cases h with
   | cons h1 h2=>
     rw [wz h2,Ep]
     rcases h1 with ⟨_,rfl⟩|⟨_,_,v,_,rfl⟩|⟨_,v,H,nx,_,rfl⟩ <;> simp only [Ep] <;> omega
def AX(ancs cs l:List Nat):Bool:=jW ancs l && l.all fun d=>cs.all fun c=>(ancs.getD d 0).testBit c
section
variable {P:Program} {ro:Option Nat} {fn nt nx:Nat} {T:Tr SV} {k:List AIt} {dfs:List ADf} {H:aw} {Q:Pst}
theorem oU{id:Nat}{opl:List Oper}(hm:P.follows .mixedOrders=true)(hr:gf nt opl=true)
 (h:lU P nt opl.toArray 0 opl ⟨T,H,nx,[],[(H,nx)],0⟩ (fun s=> ∃ (ms:List Mk) (l:List Nat),eP s=ms.map (·.c) ++ l∧AX (er [] opl) (ms.map (·.c)) l=true∧ms≠ []∧s.Hs.reverse[ms.length]? =some (addL H nx (ms.map (·.vo)),nx+ms.length) ∧
   MkAll P (wpr P) s.recs.reverse H nx 0 ms∧FlM P (er [] opl) (eP s) ms H nx s.Hs s.recs∧Wp P ro ⟨fn,nt,s.T,k,dfs,s.H,s.nx⟩ Q)) :
 Wp P ro ⟨fn,nt,T,.code (.region id opl.toArray true) :: k,dfs,H,nx⟩ Q:=by
 obtain⟨s,hs,ms,l,h1,h2,h3,h4,h5,h6,h7⟩:=h.ex
 refine⟨fun K w0 e w tmps todo ds' kd rof cs' hS hT ht hd hc=>?_⟩
 obtain⟨it,k',rfl,hi,hk⟩:=ht.cons
 have hi:it=Item.code (.region id opl.toArray true):=hi
 subst hi
 simp only [AX,Ek] at h2
 have hcl: ∀ (p:Nat) m,ms[p]? =some m→(eP s)[p]? =some m.c:=fun p m hp=>by
  rw [h1,Ei (by rw [ED];exact(D6.1 hp).1),EP,hp]
  rfl
 have hrest: ∀ (j c:Nat),ms.length≤j→(eP s)[j]? =some c→l[j-ms.length]? =some c:=fun j c hj hc=>by
  rw [h1,EI (by rw [ED];exact hj),ED] at hc
  exact hc
 have hlow: ∀ {i:Nat} {v:VO},H.at' i=some v→i<nx:=fun {i v} hi=>by
  obtain⟨x,hx,_⟩:=hS.rel i v hi
  rcases EB i nx with q|q
  ·exact q
  ·rw [hS.fresh i q] at hx;cases hx
 have hnone: ∀ i,nx≤i→H.at' i=none:=fun i hi=>by
  cases hv:H.at' i with
  | none=>rfl
  | some v=>have:=hlow hv;omega
 have hpos:0<ms.length:=List.length_pos_iff.2 h3
 obtain⟨m0,hm0⟩: ∃ m0,m0∈ms:=List.exists_mem_of_ne_nil ms h3
 obtain⟨e',w',tmps',H',n',L,g1,g2,g3,g4,g5,g6⟩:=ut (K:=K) (w0:=w0) (rn:=wpr P) hm (ops:=opl.toArray) (w:={w with drawn:=w.drawn+1}) hr hs
  (M:=fun L e H' n=>Cx ms (eP s) H nx L e H' n∨D0 s.Hs.reverse (eP s) ms.length L e H' n)
  (fun hR=>by
    have hfl:=FlM.ok h6
    refine uK (mt K w0) hR ⟨hcl,fun p m hp=>by have:=h5.get p m hp;rwa [EA] at this,⟨_,h4,fun i hi=>?_,fun p m hp=>?_⟩,fun j c hj hc m hm=>?_,fun r hr hc hw ⟨m,hm,hb⟩ H1 q1 q2=>?_⟩ ⟨fun j c c' hj q1 q2=>?_,fun r hr hc hw st hst hlo hhi H1 n1 hQ1=>qH hR hr hc hw hQ1 fun hne=>?_⟩
    ·rw [nw,Ey (by rw [ED];omega)]
    ·have:=(D6.1 hp).1
     rw [nw,Ez (by rw [ED];omega),Nat.add_sub_cancel_left,EP,hp]
     rfl
    ·exact List.all_eq_true.1 (List.all_eq_true.1 h2.2 c (Ef (hrest j c hj hc))) m.c (List.mem_map_of_mem hm)
    ·rcases hfl r (by simpa using hr) hc hw with ⟨_,_,h⟩|h
     ·exact absurd (h m hm) hb
     ·exact h.1 H1 _ q1 (sH q2)
    ·exact lD h2.1 (j-ms.length) c c' (hrest j c hj q1) (by rw [show j-ms.length+1=j+1-ms.length by omega];exact hrest (j+1) c' (by omega) q2)
    ·have both:rU P (wpr P) r H1 n1→p8 P (wpr P) r.T H1 n1 r.o r.val:=fun h=>h.elim .inl fun h=> .inr h.2
     rcases hfl r (by simpa using hr) hc hw with ⟨q1,q2,_⟩|h
     ·exact absurd (Nat.le_antisymm (q2 ▸ hhi) (q1 ▸ hlo)) hne
     ·refine both ?_
      have hlen:=hR.stages
      change s.Hs.reverse.length=(eP s).length+1 at hlen
      have hst1:=(D6.1 hQ1).1
      rw [List.length_reverse] at hlen hst1
      rcases EB ms.length st with hg|hg
      ·refine AllHQ.get h.2 (i:=s.Hs.length-1-st) ?_
       rw [List.getElem?_take,Ez (by omega),←List.getElem?_reverse hst1]
       exact hQ1
      ·have hst2:st=ms.length:=by omega
       subst hst2
       rw [h4] at hQ1
       cases hQ1
       refine h.1 _ _ (fun i hi=>?_) (sH fun p m hp _=>?_)
       ·rw [nw,Ey (by omega)]
       ·have:=(D6.1 hp).1
        rw [nw,Ez (by rw [ED];omega),Nat.add_sub_cancel_left,EP,hp]
        rfl)
  (n:=nx+ms.length) (.inl ⟨⟨m0,hm0,fun h=>h⟩,rfl,fun _ _ _ _ h=>h,fun _ _=>rfl,fun p m hp=>⟨fun h=>h.elim,fun _=>⟨hnone _ (Nat.le_add_right _ _),hS.fresh _ (Nat.le_add_right _ _)⟩⟩⟩)
  (by
    have h:=hS.drew (w:=w)
    exact⟨h.below,h.rel,h.inj,fun i hi=>h.fresh i (by show nx≤i;omega)⟩) hT (w.tape w.drawn (.order fn id)) fn k' ds' kd rof cs'
 rcases g3 with ⟨⟨m,hm,hno⟩,_⟩|g3
 ·exfalso
  obtain⟨p,hp⟩:=List.mem_iff_getElem?.1 hm
  have:=hcl p m hp
  obtain⟨r,hr1,_⟩:=(h5.get p m hp).ex
  have hlt:=(D6.1 hr1).1
  rw [List.length_reverse,wz hs] at hlt
  exact hno (g2 _ (by simpa using hlt))
 obtain⟨rfl,rfl⟩:=t7 hr hs g3 g2
 exact(h7.run K w0 e' w' tmps' k' ds' kd rof cs' g4 g5 (hk.mono g1) (hd.mono g1) (hc.mono g1)).pre (.head wq (g6.trans (.one iu))) g1 rfl rfl (fun _ hr=>hr)
end
section
variable {P:Program} {tb:Tbl} {ancs chain:List Nat} {ms:List Mk} {H0:aw} {n0:Nat} {Q:List (aw×Nat)} {r:Rec} {l:List Rec}
theorem fm_c(h:r.chain=true)(k:FlM P ancs chain ms H0 n0 Q l):FlM P ancs chain ms H0 n0 Q (r :: l):=⟨.inl (nn h),k⟩
theorem AS(h1: ∀ H n,(∀ i,i<n0→H.at' i=H0.at' i)→Cv (ancs.getD r.i 0) H n0 ms→rU P (wpr P) r H n)(h2:AllHQ (Q.take (chain.length-ms.length)) (fun H n=>rU P (wpr P) r H n))(k:FlM P ancs chain ms H0 n0 Q l):FlM P ancs chain ms H0 n0 Q (r :: l):=⟨.inr ⟨h1,h2⟩,k⟩
theorem DV{p:aw→Nat→Prop}(h: ∀ H n,p H n): ∀ Q:List (aw×Nat),AllHQ Q p
 | []=>trivial
 | q :: l=>⟨h q.1 q.2,DV h l⟩
theorem fm_pG(ht:TblOk P tb)(h:mK tb r.T r.o.op=some r.val)(k:FlM P ancs chain ms H0 n0 Q l):FlM P ancs chain ms H0 n0 Q (r :: l):=AS (fun _ _ _ _=> .inl (iZ ht h)) (DV (fun _ _=> .inl (iZ ht h)) _) k
end
end Go.Sy
namespace Go.Proofs.YtelnglhodnoclaaGreat
open Go Go.Sy
theorem fm_p{ancs chain:List Nat}{ms:List Mk}{H0:aw}{n0:Nat}{Q:List (aw×Nat)}{r:Rec}{l:List Rec}(h:mK wl r.T r.o.op=some r.val)(k:FlM Tryz.prog ancs chain ms H0 n0 Q l):FlM Tryz.prog ancs chain ms H0 n0 Q (r :: l):=fm_pG jt h k
end Go.Proofs.YtelnglhodnoclaaGreat
end
section
namespace Go.Proofs.YtelnglhodnoclaaGreat
open Go Go.Sy Go.Sl Go.RowKit
theorem tS: ∀ S:List Int,cq ((S.flatMap fun n=> [Value.int .i64 n]).map SV.sc)=true
 | []=>rfl
 | a :: S=>tS S
structure PartI (H:aw) (nx b k fq:Nat) (xr p:List UInt8) (so sl:SV) (e f:a7):Prop where
 b0:H.at' nx=some (vE b)
 b1:H.at' (nx+1)=some (pgO xr)
 b2:H.at' (nx+1+1)=some (ee ((4+k:Nat):Int) p so sl)
 b3:H.at' (nx+1+1+1)=some (am 25 ((fB e).map .sc))
 b4:H.at' (nx+1+1+1+1)=some (zP ((4+fq:Nat):Int))
 b5:H.at' (nx+1+1+1+1+1)=some (am 25 ((fB f).map .sc))
section
variable {H:aw}{e:a7}{b c k:Nat}{left:Int}{n no nx:Nat}{lf:List Int}{bs:List Bn.El}{mem:List UInt8}{own:List Ow.El}{p root:List UInt8}
theorem PartI.frame{H':aw}{fq:Nat}{xr:List UInt8}{so sl:SV}{f:a7}(h:PartI H nx b k fq xr p so sl e f)(g: ∀ m,nx≤m→m≤nx+1+1+1+1+1→H'.at' m=H.at' m):PartI H' nx b k fq xr p so sl e f:=
 ⟨(g _ (by omega) (by omega)).trans h.b0,(g _ (by omega) (by omega)).trans h.b1,(g _ (by omega) (by omega)).trans h.b2,(g _ (by omega) (by omega)).trans h.b3,(g _ (by omega) (by omega)).trans h.b4,(g _ (by omega) (by omega)).trans h.b5⟩
abbrev PartQ(H:aw)(nx b c k:Nat)(mem root p:List UInt8)(bs:List Bn.El)(own:List Ow.El)(lf:List Int)(e:a7)(left:Int):Pst:=fun q=>nx≤q.2.2∧((nO root p bs k own lf e=none∧q.1 = .sc (.int .i64 5)∧ ∀ m,m<nx→q.2.1.at' m=H.at' m)∨ ∃ ws,nO root p bs k own lf e=some ws∧ws.length=4∧q.1 = .sc (.int .i64 ((gw left 4 0:Nat):Int))∧PgAt q.2.1 b (dU mem (ws.take (fH left 4))) (left-(fH left 4:Nat)) (c+fH left 4)∧Kept H q.2.1 b nx)
theorem Dm{r lo hi:Nat}{so sl:SV}(e:a7)(hb:PgAt H b mem left c)(hm:mem.length=28672)(hroot:root.length=1024)(hp:p.length=1024)(hk:k<28)(hr:H.at' r=some (nS bs))(h28:bs.length≤28)(hbm: ∀ x∈bs,∃ k:Nat,1≤k∧k<28∧x.1=((4+k:Nat):Int))(ho:OwnAt H so own lo hi)(hs:IntsAt H sl lf lo hi)
 (hown: ∀ o,o∈own→fk o.1=true∧0≤o.2) (hpos: ∀ x,x∈lf→0≤x) (he:fk e=true) (hlen:own.length+lf.length≤252) (hl2 : -100000000≤left∧left≤9223372036854775807) (hc:c≤999990):Fnc Tryz.prog 44 [nY b,.agg (pgS root),.slu r 0 bs.length,.agg (dP ((4+k:Nat):Int) p so sl),io e] H nx (PartQ H nx b c k mem root p bs own lf e left):=by
 have hF:=zS bs
 refine E2 Tryz.func44 rfl rfl ?_
 refine a9 fun hund=>?_
 have hlt:=hund _ _ hr
 have hlb:b<nx:=(let ⟨_,h,_⟩:=hb;hund _ _ h)
 have ho1:=ho.one
 have hs1:=hs.one
 have hfl:=fun(H':aw) (n:Nat) (h:H'.at' r=some (nS bs))=>vq (nx:=n) h h28 hbm
 rcases ho with ⟨rfl,rfl⟩|⟨ro,k1,rfl,k2,k3,k4⟩
 ·have hno:nO root p bs k [] lf e=none:=pt (.inr rfl)
  repeat first|apply cH;rfl;kernel_rfl;exact hfl _ _ (by(repeat(refine aa (by omega) ?_));exact hr)|refine aZ rfl rfl rfl (F.ag _ rfl) (by repeat(first|exact ah|refine aa (by omega) ?_)) (bC hp cC sl 0) ?_|refine bN (bX (F.un _ rfl) rfl) rfl rfl rfl ?_|apply ae;rfl|apply aR;rfl;(focus((repeat(exact ah));done));rfl|refine eR (tR rfl rfl) rfl rfl rfl ?_|refine bN (ii rfl rfl (by omega) (dR (by focus(omega)) (by focus(omega)) (by focus(omega)))) rfl rfl rfl ?_
  refine cE rfl rfl rfl rfl (fun c1=>?_) (fun c1=>?_)
  ·repeat apply ae;rfl
   (apply bW Tryz.func44 Tryz.results44;rfl)
   exact⟨by first|omega|(dsimp only;omega),.inl ⟨hno,rfl,fun m hm=>by(repeat(refine aa (by omega) ?_));rfl⟩⟩
  ·repeat first|apply ig;rfl;decide|apply ae;rfl
   (apply bW Tryz.func44 Tryz.results44;rfl)
   exact⟨by first|omega|(dsimp only;omega),.inl ⟨hno,rfl,fun m hm=>by(repeat(refine aa (by omega) ?_));rfl⟩⟩
 have hlo:=hund _ _ k4
 repeat first|apply cH;rfl;kernel_rfl;exact hfl _ _ (by(repeat(refine aa (by omega) ?_));exact hr)|refine aZ rfl rfl rfl (F.ag _ rfl) (by repeat(first|exact ah|refine aa (by omega) ?_)) (bC hp (.slu ro 0 own.length) sl 0) ?_|apply ae;rfl|apply aR;rfl;(focus((repeat(exact ah));done));rfl|refine eR (tR rfl rfl) rfl rfl rfl ?_|refine bN (ii rfl rfl (by omega) (dR (by focus(omega)) (by focus(omega)) (by focus(omega)))) rfl rfl rfl ?_
 refine cE rfl rfl rfl rfl (fun c1=>?_) (fun c1=>?_)
 ·have hF0:ef bs=0:=by
   rcases Nat.eq_zero_or_pos (ef bs)with h|h
   ·exact h
   ·rw [sQ,Ey (by omega)] at c1;omega
  repeat apply ae;rfl
  (apply bW Tryz.func44 Tryz.results44;rfl)
  exact⟨by first|omega|(dsimp only;omega),.inl ⟨pt (.inl hF0),rfl,fun m hm=>by(repeat(refine aa (by omega) ?_));rfl⟩⟩
 have hF0:ef bs≠0:=fun h=>c1 (by rw [sQ,Ez h])
 have hI:sQ bs=((4+ef bs:Nat):Int):=by rw [sQ,Ey hF0];omega
 obtain⟨fq,hFe⟩: ∃ fq,ef bs=fq:=⟨_,rfl⟩
 rw [hFe] at hI hF0 hF
 obtain⟨h,hh⟩: ∃ h,own.length / 2=h:=⟨_,rfl⟩
 rw [hI,show((own.length:Nat):Int) / 2=(h:Int) by omega]
 repeat apply ae;rfl
 refine cE rfl rfl rfl rfl (fun c2=>?_) (fun c2=>?_)
 ·repeat apply ae;rfl
  (apply bW Tryz.func44 Tryz.results44;rfl)
  exact⟨by first|omega|(dsimp only;omega),.inl ⟨pt (.inr (by omega)),rfl,fun m hm=>by(repeat(refine aa (by omega) ?_));rfl⟩⟩
 have hh2:h<own.length:=by omega
 obtain⟨f,hf⟩: ∃ f,(own[h]).1=f:=⟨_,rfl⟩
 have hmf:fk f=true:=by rw [← hf];exact(hown _ (Ex hh2)).1
 have hpe:=zw (root:=root) (p:=p) (n:=k) (left:=lf) (e:=e) hFe hh (by omega) (by omega) hh2 hf
 have hfl2:=dW (f:=Ow.elV) (fun _=>rfl) own h 0 3 hh2 (by decide)
 rw [show((Ow.elV own[h]).drop 0).take 3=fB f by rw [← hf];rfl] at hfl2
 repeat first|refine aZ rfl rfl rfl (F.ag _ rfl) (by repeat(first|exact ah|refine aa (by omega) ?_)) (bC hp (.slu ro 0 own.length) sl 0) ?_|refine cQ (q:=h) rfl rfl rfl rfl (F.un _ rfl) (F.sz _ rfl) (by(repeat(refine aa (by omega) ?_));exact k4) rfl hh2 (Em _) ?_|refine cP (us:=fB f) rfl rfl rfl (F.ag _ rfl) (by(repeat(refine aa (by omega) ?_));exact k4) hfl2 rfl (by omega) ?_|apply ae;rfl|apply aR;rfl;(focus((repeat(exact ah));done));rfl
 refine aL rfl rfl rfl (by kernel_rfl) (E1 (sY f hmf) ?_)
 rintro⟨_,H1,n1⟩ ⟨r1,rfl,a1,a2,a3,a4⟩
 dsimp only at a1 a2 a3 a4 ⊢
 have b0:H1.at' nx=some (vE b):=(a4 _ (by omega)).trans (by repeat(first|exact ah|refine aa (by omega) ?_))
 have b1:H1.at' (nx+1)=some (pgO root):=(a4 _ (by omega)).trans (by repeat(first|exact ah|refine aa (by omega) ?_))
 have b2:H1.at' (nx+1+1)=some (ee ((4+k:Nat):Int) p (.slu ro 0 own.length) sl):=(a4 _ (by omega)).trans (by repeat(first|exact ah|refine aa (by omega) ?_))
 have b3:H1.at' (nx+1+1+1)=some (am 25 ((fB e).map .sc)):=(a4 _ (by omega)).trans (by repeat(first|exact ah|refine aa (by omega) ?_))
 have b4:H1.at' (nx+1+1+1+1)=some (zP ((4+fq:Nat):Int)):=(a4 _ (by omega)).trans (by repeat(first|exact ah|refine aa (by omega) ?_))
 have b5:H1.at' (nx+1+1+1+1+1)=some (am 25 ((fB f).map .sc)):=(a4 _ (by omega)).trans (by repeat(exact ah))
 have bo: ∀ m,m<nx→H1.at' m=H.at' m:=fun m hm=>(a4 m (by omega)).trans (by(repeat(refine aa (by omega) ?_));rfl)
 clear a4
 repeat apply ae;rfl
 obtain⟨it,hit⟩: ∃ it,UInt8.ofNat fq :: bn f=it:=⟨_,rfl⟩
 have hle:=fM f
 have hme:=gU.1 hmf
 have hitl:it.length=(bn f).length+1:=by rw [← hit];rfl
 have hwr:IntKind.u8.wrap (((4+fq:Nat):Int)-4)=((UInt8.ofNat fq).toNat:Int):=by rw [show((4+fq:Nat):Int)-4=(fq:Int) by omega,v7]
 have hA:BsIs ((H1.set n1 (fA false 1 1 5 ((byV [UInt8.ofNat fq]).map .sc))).set (n1+1) (bsR false [.slu n1 0 1,.slu r1 0 (bn f).length])) (.slu n1 0 1) (byV [UInt8.ofNat fq]):=
  rK (ro:=false) (n:=1) (Eq.trans (b:=some (fA false 1 1 5 ((byV [UInt8.ofNat fq]).map .sc))) (by repeat(first|exact ah|refine aa (by omega) ?_)) (congrArg some (bU _ _ _ _ _))) rfl
 have hB:BsIs ((H1.set n1 (fA false 1 1 5 ((byV [UInt8.ofNat fq]).map .sc))).set (n1+1) (bsR false [.slu n1 0 1,.slu r1 0 (bn f).length])) (.slu r1 0 (bn f).length) (byV (bn f)):=oa (ro:=false) (by(repeat(refine aa (by omega) ?_));exact a1)
 have hfl3: [byV [UInt8.ofNat fq],byV (bn f)].flatten=byV it:=by
  rw [← hit]
  show byV [UInt8.ofNat fq] ++ (byV (bn f) ++ [])=_
  rw [EM]
  rfl
 have hj:=xq (nx:=n1+1+1) (r:=n1+1) (ro:=false) (ls:= [.slu n1 0 1,.slu r1 0 (bn f).length]) (au _ _ _) (LsIs.cons hA (LsIs.cons hB (LsIs.nil _))) (by rw [hfl3,fu];omega) (D7 rfl)
 rw [hfl3,fu] at hj
 have hip:=nQ (nx:=n1+1+1+1) (s:= .slu (n1+1+1) 0 it.length) hroot (oa (ro:=false) (au ((H1.set n1 (fA false 1 1 5 ((byV [UInt8.ofNat fq]).map .sc))).set (n1+1) (bsR false [.slu n1 0 1,.slu r1 0 (bn f).length])) (n1+1+1) (u8R false (byV it)))) (by omega)
 have hipl:=xB (it:=it) hroot
 rw [hit] at hpe
 generalize gZ root it=ip at hip hipl hpe
 obtain⟨ip,is,ie⟩:=ip
 dsimp only at hip hipl hpe
 (apply cR;(focus(kernel_rfl));(focus(kernel_rfl)))
 repeat first|refine fp rfl rfl rfl (F.ag _ rfl) b1 (bf hroot) ?_|apply hX;rfl;rfl;exact(F.un _ rfl);exact(F.sz _ rfl);rfl;exact(F.ze _ rfl);rfl;rfl;rfl;rfl;rfl|refine bq (cG (F.un _ rfl) (F.un _ rfl) rfl (hwr)) rfl rfl rfl ?_|refine eZ rfl rfl rfl (by kernel_rfl) hj ?_|refine eZ rfl rfl rfl (by kernel_rfl) hip ?_|refine fV rfl rfl rfl (F.sz _ rfl) (by(repeat(refine aa (by omega) ?_));exact b1) (bf hipl) (by rw [bf hroot];exact Em _) (iG _) (jx _ _ hroot hipl) ?_|apply lz;rfl;assumption;rfl|apply aA;rfl|refine bq (ak rfl rfl (.inr (.inl ⟨rfl,(D3 _ ⟨(by focus(omega)),(by focus(omega))⟩).symm⟩))) rfl rfl rfl ?_
 refine ay ⟨by kernel_rfl,?_,?_⟩;(focus(repeat(first|exact Gc|apply mh;rfl|apply l5;rfl;kernel_rfl|refine⟨.inr ⟨0,by kernel_rfl,AllH.all (fun _=>(by(exact ak rfl rfl (.inr (.inl ⟨rfl,(D3 _ ⟨by omega,by omega⟩).symm⟩))))) _⟩,?_⟩|refine jC 0 rfl (by kernel_rfl) (by(repeat(refine⟨(by first|exact aI (F.ag _ rfl) rfl (by repeat(first|assumption|exact ah|refine aa (by omega) ?_)) (aE rfl)|exact cG (F.un _ rfl) (F.un _ rfl) rfl hwr),?_⟩));exact Gc) ?_|refine jC 1 rfl (by kernel_rfl) (by(repeat(refine⟨(by first|exact bA (F.ag _ rfl) rfl b1 (bH hroot)|exact bA (F.ag _ rfl) rfl (by(repeat(refine aa (by omega) ?_));exact b1) (bH hroot)),?_⟩));exact Gc) ?_)))
 refine im (R:=fun H2 n2=>n1<n2∧PartI H2 nx b k fq ip p (.slu ro 0 own.length) sl e f∧ ∀ m,m<nx→H2.at' m=H.at' m) ⟨by dsimp only;omega,⟨by(repeat(refine aa (by omega) ?_));exact b0,by repeat(exact ah),by(repeat(refine aa (by omega) ?_));exact b2,by(repeat(refine aa (by omega) ?_));exact b3,by(repeat(refine aa (by omega) ?_));exact b4,by(repeat(refine aa (by omega) ?_));exact b5⟩,fun m hm=>by(repeat(refine aa (by omega) ?_));exact bo m hm⟩ ?_
 have hr1n:nx+1+1+1+1+1+1<n1:=by omega
 clear hj hip hA hB a1 a2 a3 b0 b1 b2 b3 b4 b5 bo
 rintro H2 n2 ⟨g1,⟨b0,b1,b2,b3,b4,b5⟩,bo⟩
 have hn2:nx+1+1+1+1+1+1<n2:=by omega
 clear g1 hr1n
 repeat apply ae;rfl
 refine ga rfl rfl rfl rfl (fun c3=>?_) (fun c3=>?_)
 ·rw [Ez (by(try dsimp only at c3);omega)] at hpe
  repeat apply ae;rfl
  (apply bW Tryz.func44 Tryz.results44;rfl)
  exact⟨by first|omega|(dsimp only;omega),.inl ⟨hpe,rfl,bo⟩⟩
 rw [Ey (by(try dsimp only at c3);omega)] at hpe
 repeat apply ae;rfl
 refine vY (A:=SV×Nat) (fun a=> [(5,.ptr nx 0),(6,.ptr (nx+1) 0),(8,.ptr (nx+1+1) 0),(9,.ptr (nx+1+1+1) 0),(10,.sc (.int .i64 0)),(11,.ptr (nx+1+1+1+1) 0),(12,.sc (.int .i64 (h:Int))),(13,.ptr (nx+1+1+1+1+1) 0),(18,.ptr a.2 0),(19,a.1)])
  (fun a H3 n3=>n2≤a.2∧a.2<n3∧H3.at' a.2=some (pgO (dm 3))∧IntsAt H3 a.1 lf n2 n3∧PartI H3 nx b k fq ip p (.slu ro 0 own.length) sl e f∧ ∀ m,m<nx→H3.at' m=H.at' m) ?_ ?_
 ·rintro⟨g,u⟩ H3 n3 ⟨d1,d2,d3,d4,⟨b0,b1,b2,b3,b4,b5⟩,bo⟩
  dsimp only at d1 d2 d3 d4 ⊢
  obtain⟨cnt,hcnt⟩: ∃ cnt,own.length-h=cnt:=⟨_,rfl⟩
  repeat first|refine aZ rfl rfl rfl (F.ag _ rfl) (by assumption) (bC hp (.slu ro 0 own.length) sl 0) ?_|refine wa (lw:=h) (hg:=own.length) rfl rfl rfl (F.un _ rfl) (F.sz _ rfl) (by exact(bo ro hlo).trans k4) rfl rfl (by omega) (by omega) (by omega) ?_|apply ae;rfl
  rw [hcnt]
  refine br (α:=Nat×SV) (fun x=> [(5,.ptr nx 0),(6,.ptr (nx+1) 0),(8,.ptr (nx+1+1) 0),(9,.ptr (nx+1+1+1) 0),(11,.ptr (nx+1+1+1+1) 0),(13,.ptr (nx+1+1+1+1+1) 0),(18,.ptr u 0),(19,x.2),(73,.slu ro (0+h) cnt),(74,.sc (.int .i64 (cnt:Int))),(75,.sc (.int .i64 (x.1:Int)))])
   (fun x H7 n7=>x.1≤cnt∧n3≤n7∧(∃ up,qm ((own.drop h).take x.1) (dm 3)=some up∧up.length=1024∧H7.at' u=some (pgO up))∧IntsAt H7 x.2 (lf ++ ((own.drop h).take x.1).map (·.2)) n2 n7∧PartI H7 nx b k fq ip p (.slu ro 0 own.length) sl e f∧ ∀ m,m<nx→H7.at' m=H.at' m) (fun x=>cnt-x.1) (0,g)
   ⟨En _,Em _,⟨_,rfl,cM 3,d3⟩,by simpa using d4,⟨b0,b1,b2,b3,b4,b5⟩,bo⟩ (E8 (Gb rfl)) ?_
  clear d3 d4 b0 b1 b2 b3 b4 b5 bo
  rintro⟨i,gs⟩ H7 n7 ⟨o0,o1,⟨up,o2,o3,o4⟩,o5,⟨b0,b1,b2,b3,b4,b5⟩,bo⟩ ih
  dsimp only at o0 o1 o2 o5 ih ⊢
  repeat apply ae;rfl
  refine bm rfl rfl rfl rfl (fun c4=>?_) (fun c4=>?_)
  ·have hi:h+i<own.length:=by omega
   have hi2:i<(own.drop h).length:=by rw [EF];omega
   have hdi:(own.drop h)[i]=own[h+i]:=List.getElem_drop ..
   have hfo:=dW (f:=Ow.elV) (fun _=>rfl) own (h+i) 0 4 hi (by decide)
   have hko:=(bo ro hlo).trans k4
   obtain⟨hom,hop⟩:=hown _ (Ex hi)
   repeat first|refine bN (gg (F.un _ rfl) (F.sz _ rfl) rfl rfl hko (by omega) (by omega) (by omega)) rfl rfl rfl ?_|apply ae;rfl
   rw [show(0+h+((i:Int)).toNat)*4=(h+i)*4+0 by omega]
   repeat first|refine cP (us:=Ow.elV own[h+i]) rfl rfl rfl (F.ag _ rfl) (by exact hko) hfo rfl (by omega) ?_|refine dO rfl rfl rfl (F.ag _ rfl) (by repeat(first|assumption|exact ah)) (aH 3 0 rfl rfl) ?_|apply ae;rfl|apply aR;rfl;(focus((repeat(exact ah));done));rfl
   refine aL rfl rfl rfl (by kernel_rfl) (E1 (sY (own[h+i]).1 hom) ?_)
   rintro⟨_,H8,n8⟩ ⟨r8,rfl,a1,a2,a3,a4⟩
   dsimp only at a1 a2 a3 a4 ⊢
   have q0:H8.at' n7=some (am 128 ((Ow.elV own[h+i]).map .sc)):=(a4 _ (by omega)).trans (by repeat(exact ah))
   have q1:H8.at' u=some (pgO up):=(a4 _ (by omega)).trans (by(repeat(refine aa (by omega) ?_));exact o4)
   have q2:IntsAt H8 gs (lf ++ ((own.drop h).take i).map (·.2)) n2 n8:=o5.frame (by omega) fun m h1 h2 _=>(a4 m (by omega)).trans (by(repeat(refine aa (by omega) ?_));rfl)
   have q3:PartI H8 nx b k fq ip p (.slu ro 0 own.length) sl e f:=PartI.frame (H:=H7) ⟨b0,b1,b2,b3,b4,b5⟩ fun m h1 h2=>(a4 m (by omega)).trans (by(repeat(refine aa (by omega) ?_));rfl)
   have q4: ∀ m,m<nx→H8.at' m=H.at' m:=fun m hm=>(a4 m (by omega)).trans (by(repeat(refine aa (by omega) ?_));exact bo m hm)
   clear a4 o4 o5 b0 b1 b2 b3 b4 b5 bo hko
   have hle2:=fM (own[h+i]).1
   have hme2:=gU.1 hom
   have hins:=fun(H':aw) (n:Nat) (hh:H'.at' r8=some (u8R false (byV (bn (own[h+i]).1))))=>jh (nx:=n) o3 (oa hh) (by omega)
   have hyl:=fG (it:=bn (own[h+i]).1) o3
   have hun:=fun(hn:(eX up (bn (own[h+i]).1)).2.2≠0)=>ql (l:=own.drop h) i hi2 o2 (by rw [hdi];exact hn)
   have hus:=fun(hn:(eX up (bn (own[h+i]).1)).2.2=0)=>qk (o:=own[h+i]) o2 hn
   generalize eX up (bn (own[h+i]).1)=y at hins hyl hun hus
   obtain⟨y,ys,ye⟩:=y
   dsimp only at hins hyl hun hus
   repeat first|apply dc o3;rfl;assumption|apply cH;rfl;kernel_rfl;exact hins _ _ (by exact a1)|apply cx hyl o3;rfl;assumption|apply ae;rfl
   refine ga rfl rfl rfl rfl (fun c5=>?_) (fun c5=>?_)
   ·rw [hun (by(try dsimp only at c5);omega)] at hpe
    repeat apply ae;rfl
    (apply bW Tryz.func44 Tryz.results44;rfl)
    exact⟨by first|omega|(dsimp only;omega),.inl ⟨hpe,rfl,fun m hm=>by(repeat(refine aa (by omega) ?_));exact q4 m hm⟩⟩
   have hup:=hus (by(try dsimp only at c5);omega)
   have htk:(own.drop h).take (i+1)=(own.drop h).take i ++ [own[h+i]]:=by rw [List.take_succ_eq_append_getElem hi2,hdi]
   rw [← htk] at hup
   have hmap:lf ++ ((own.drop h).take (i+1)).map (·.2)=(lf ++ ((own.drop h).take i).map (·.2)) ++ [(own[h+i]).2]:=by rw [htk,Es,EJ];rfl
   have hll:(lf ++ ((own.drop h).take i).map (·.2)).length≤252:=by rw [Er,ED,EC,EF];omega
   obtain⟨L,hL⟩: ∃ L,lf ++ ((own.drop h).take i).map (·.2)=L:=⟨_,rfl⟩
   rw [hL] at q2 hmap hll
   rcases q2 with ⟨hL0,rfl⟩|⟨rg,w1,rfl,w2,w3,w4⟩
   ·subst hL0
    repeat first|apply ae;rfl|apply aR;rfl;(focus((repeat(first|assumption|refine aa (by omega) ?_));done));rfl|refine eR (aU (F.un _ rfl) (F.sz _ rfl) (aN rfl) (F.ze _ rfl) rfl rfl rfl rfl rfl) rfl rfl rfl ?_
    refine gO (b:=8) (n:=1) (cs:= [.sc (.int .i64 (own[h+i]).2)]) rfl rfl rfl rfl (F.un _ rfl) (.inl ⟨_,F.un _ rfl⟩) (F.sz _ rfl) rfl (by kernel_rfl) (by kernel_rfl) (SlOf.row (by repeat(exact ah)) rfl) rfl (by decide) (by decide) ?_
    rintro _ _ _ (⟨h,_⟩|⟨_,rfl,rfl,rfl⟩)
    ·exact absurd h (by decide)
    repeat first|apply ae;rfl|apply aB;rfl;omega;omega
    exact ih _ _ _ (i+1,.slu (n8+1) 0 1) ⟨by omega,by first|omega|(dsimp only;omega),⟨y,hup,hyl,by repeat(first|exact ah|refine aa (by omega) ?_)⟩,by rw [hmap];exact .inr ⟨n8+1,by simp,rfl,by first|omega|(dsimp only;omega),by first|omega|(dsimp only;omega),Eq.trans (b:=some (fA false 1 1 3 [.sc (.int .i64 (own[h+i]).2)])) (by repeat(exact ah)) (congrArg some (bU false 1 1 3 [.int .i64 (own[h+i]).2]))⟩,q3.frame fun m h1 h2=>(by(repeat(refine aa (by omega) ?_));rfl),fun m hm=>by(repeat(refine aa (by omega) ?_));exact q4 m hm⟩ (by omega) (E8 (Gb rfl))
   ·have hru:rg≠u:=by rintro rfl;rw [q1] at w4;unfold pgO am at w4;cases w4
    repeat first|apply ae;rfl|apply aR;rfl;(focus((repeat(first|assumption|refine aa (by omega) ?_));done));rfl|apply aB;rfl;omega;omega|refine eR (aU (F.un _ rfl) (F.sz _ rfl) (aN rfl) (F.ze _ rfl) rfl rfl rfl rfl rfl) rfl rfl rfl ?_|refine mw (b:=8) (xs:=L) (a:=(own[h+i]).2) rfl rfl rfl rfl (F.un _ rfl) (.inl ⟨_,F.un _ rfl⟩) (F.sz _ rfl) rfl (by kernel_rfl) (by kernel_rfl) (by repeat(first|assumption|refine aa (by omega) ?_)) (by repeat(exact ah)) (by rfl) ((AE (g:=fun n:Int=>Value.int .i64 n) fun _=>rfl)) (by omega) (by omega) ?_
    exact ih _ _ _ (i+1,.slu (n8+1) 0 (L ++ [(own[h+i]).2]).length) ⟨by omega,by first|omega|(dsimp only;omega),⟨y,hup,hyl,by repeat(first|exact ah|refine aa (by omega) ?_|refine bO (by omega) ?_)⟩,by rw [hmap];exact .inr ⟨n8+1,by simp,rfl,by first|omega|(dsimp only;omega),by first|omega|(dsimp only;omega),by repeat(exact ah)⟩,q3.frame fun m h1 h2=>(by(repeat(first|refine aa (by omega) ?_|refine bO (by omega) ?_));rfl),fun m hm=>by(repeat(first|refine aa (by omega) ?_|refine bO (by omega) ?_));exact q4 m hm⟩ (by omega) (E8 (Gb rfl))
  ·obtain rfl:i=cnt:=by omega
   have htake:(own.drop h).take i=own.drop h:=Ed (by rw [EF];omega)
   rw [htake] at o2 o5
   rw [o2] at hpe
   dsimp only at hpe
   have hwo:=qj (nx:=n7) hp o5 (fun x hx=>by
    rcases List.mem_append.1 hx with hx|hx
    ·exact hpos x hx
    ·obtain⟨o,ho,rfl⟩:=EV.1 hx
     exact(hown o (List.mem_of_mem_drop ho)).2) (by rw [Er,ED,EF];omega)
   have hwl:=ir hp (lf ++ (own.drop h).map (·.2))
   generalize bz p (lf ++ (own.drop h).map (·.2))=lw at hwo hwl hpe
   clear o5
   repeat first|refine dO rfl rfl rfl (F.ag _ rfl) (by assumption) (mX hp _ _) ?_|apply cH;rfl;kernel_rfl;exact hwo|refine eR (aW dN) rfl rfl rfl ?_|apply cx hwl ac;rfl;(focus((repeat(exact ah));done))|apply ae;rfl
   refine im (R:=fun H9 n9=>n9=n7+1∧H9.at' n7=some (pgO lw)∧H9.at' u=some (pgO up)∧PartI H9 nx b k fq ip p (.slu ro 0 own.length) sl e f∧ ∀ m,m<nx→H9.at' m=H.at' m) ⟨rfl,by repeat(exact ah),by(repeat(refine aa (by omega) ?_));exact o4,PartI.frame (H:=H7) ⟨b0,b1,b2,b3,b4,b5⟩ fun m h1 h2=>(by(repeat(refine aa (by omega) ?_));rfl),fun m hm=>by(repeat(refine aa (by omega) ?_));exact bo m hm⟩ ?_
   clear hwo o4 b0 b1 b2 b3 b4 b5 bo ih
   rintro H9 n9 ⟨rfl,e1,e2,⟨b0,b1,b2,b3,b4,b5⟩,bo⟩
   (apply oU;(focus(kernel_rfl));(focus(kernel_rfl)))
   refine x9 ?_
   repeat first|refine fp rfl rfl rfl (F.ag _ rfl) e1 (bf hwl) ?_|refine vw (aW dN) rfl rfl rfl ?_|refine fV rfl rfl rfl (F.sz _ rfl) (by repeat(first|exact ah|refine aa (by omega) ?_)) (bf hwl) (by rw [bf ac];exact Em _) (iG _) (jx _ _ ac hwl) ?_|refine bq (aI (F.ag _ rfl) rfl b2 (aE rfl)) rfl rfl rfl ?_|refine ci rfl rfl rfl (F.sz _ rfl) (by repeat(first|assumption|exact ah|refine aa (by omega) ?_)) (by rfl) (by rfl) ?_|apply aA;rfl|refine vw (aW (F.zl _ rfl)) rfl rfl rfl ?_
   refine ay ?_
   refine⟨[⟨3,fun n=> .ptr n 0,zP 0⟩,⟨4,fun n=> .ptr n 0,pgO zeroP⟩],[5,6],by kernel_rfl,by kernel_rfl,List.cons_ne_nil _ _,rfl,
    ⟨⟨⟨_,rfl,rfl,fun H n _ _=>jU (fun _ h=>(by cases h)) (aW (F.zl _ rfl))⟩,fun _ _=>rfl,fun ρ=>pb (vs:= [.int .i64 0])⟩,⟨⟨_,rfl,rfl,fun H n _ _=>jU (fun _ h=>(by cases h)) (aW dN)⟩,fun _ _=>rfl,fun ρ=>pb⟩,trivial⟩,?_,?_⟩
   ·repeat first|exact Gc|apply fm_c;rfl|apply fm_p;rfl|refine AS (fun H5 n5 g1 g2=> .inl (bA (F.ag _ rfl) rfl ((g1 _ (by omega)).trans e1) (bH hwl))) ⟨.inl (bA (F.ag _ rfl) rfl (by(repeat(refine aa (by omega) ?_));exact e1) (bH hwl)),.inl (bA (F.ag _ rfl) rfl (by(repeat(refine aa (by omega) ?_));exact e1) (bH hwl)),trivial⟩ ?_|refine AS (fun H5 n5 g1 g2=> .inl (aI (F.ag _ rfl) rfl ((g1 _ (by omega)).trans b2) (aE rfl))) ⟨.inl (aI (F.ag _ rfl) rfl (by(repeat(refine aa (by omega) ?_));exact b2) (aE rfl)),.inl (aI (F.ag _ rfl) rfl (by(repeat(refine aa (by omega) ?_));exact b2) (aE rfl)),trivial⟩ ?_
   dsimp only
   obtain⟨tn,htn⟩: ∃ tn,(if bj e f=true then k else fq)=tn:=⟨_,rfl⟩
   obtain⟨xx,hxx⟩: ∃ xx,(if bj e f=true then lw else up)=xx:=⟨_,rfl⟩
   have htn28:tn<28:=by rw [← htn];split <;> omega
   have hxxl:xx.length=1024:=by
    rw [← hxx]
    split
    ·exact hwl
    ·exact o3
   have hpe2:nO root p bs k own lf e=if(dG xx [] e).2=true then some [(fq,up),(0,ip),(k,lw),(tn,(dG xx [] e).1)] else none:=by
    rw [hpe,←htn,←hxx]
    cases bj e f <;> rfl
   refine im (R:=fun H9 n9=>n9=n7+1+1+1∧H9.at' n7=some (pgO lw)∧H9.at' u=some (pgO up)∧H9.at' (n7+1)=some (zP ((4+k:Nat):Int))∧H9.at' (n7+1+1)=some (pgO lw)∧PartI H9 nx b k fq ip p (.slu ro 0 own.length) sl e f∧ ∀ m,m<nx→H9.at' m=H.at' m) ⟨rfl,by(repeat(refine aa (by omega) ?_));exact e1,by(repeat(refine aa (by omega) ?_));exact e2,by repeat(first|exact ah|refine aa (by omega) ?_),by repeat(exact ah),PartI.frame (H:=H9) ⟨b0,b1,b2,b3,b4,b5⟩ fun m h1 h2=>(by(repeat(refine aa (by omega) ?_));rfl),fun m hm=>by(repeat(refine aa (by omega) ?_));exact bo m hm⟩ ?_
   clear e1 e2 b0 b1 b2 b3 b4 b5 bo
   rintro HA nA ⟨rfl,e1,e2,e3,e4,⟨b0,b1,b2,b3,b4,b5⟩,bo⟩
   refine uG ?_
   refine vY (A:=Unit) (fun _=> [(5,.ptr nx 0),(6,.ptr (nx+1) 0),(8,.ptr (nx+1+1) 0),(9,.ptr (nx+1+1+1) 0),(11,.ptr (nx+1+1+1+1) 0),(13,.ptr (nx+1+1+1+1+1) 0),(18,.ptr u 0),(24,.ptr n7 0),(25,.ptr (n7+1) 0),(26,.ptr (n7+1+1) 0)])
    (fun _ HB nB=>nB=n7+1+1+1∧HB.at' n7=some (pgO lw)∧HB.at' u=some (pgO up)∧HB.at' (n7+1)=some (zP ((4+tn:Nat):Int))∧HB.at' (n7+1+1)=some (pgO xx)∧PartI HB nx b k fq ip p (.slu ro 0 own.length) sl e f∧ ∀ m,m<nx→HB.at' m=H.at' m) ?_ ?_
   ·clear e1 e2 e3 e4 b0 b1 b2 b3 b4 b5 bo
    rintro _ HB nB ⟨rfl,e1,e2,e3,e4,⟨b0,b1,b2,b3,b4,b5⟩,bo⟩
    have hwi:=fun(H':aw) (n:Nat)=>Av (H:=H') (nx:=n) (S:= []) (lo:=0) (hi:=0) (s:=cC) e hxxl he (.inl ⟨rfl,rfl⟩) (fun x hx=>by simp at hx) (En _)
    have hyl:=mu hxxl [] e
    generalize dG xx [] e=wy at hwi hyl hpe2
    obtain⟨wy,fits⟩:=wy
    dsimp only at hwi hyl hpe2
    repeat first|apply dc hxxl;rfl;assumption|refine dO rfl rfl rfl (F.ag _ rfl) (by assumption) (aH 3 0 rfl rfl) ?_|apply cH;rfl;kernel_rfl;exact hwi _ _|apply cx hyl hxxl;rfl;assumption|apply ae;rfl|apply bk;rfl
    cases fits with
    | false=>
      rw [Ey (by decide)] at hpe2
      repeat apply ae;rfl
      (apply bW Tryz.func44 Tryz.results44;rfl)
      exact⟨by first|omega|(dsimp only;omega),.inl ⟨hpe2,rfl,fun m hm=>by(repeat(refine aa (by omega) ?_));exact bo m hm⟩⟩
    | true=>
      rw [Ez rfl] at hpe2
      have hnw:nx+1+1+1+1+1+1<n7:=by omega
      have hui:u<n7∧nx+1+1+1+1+1+1<u:=by omega
      repeat first|apply ae;rfl|refine eR (aU (F.un _ rfl) (F.sz _ rfl) (aN rfl) (F.ze _ rfl) rfl rfl rfl rfl rfl) rfl rfl rfl ?_
      refine aL rfl rfl rfl (by kernel_rfl) (E1 (Di (a:=nx) (f:=nx+1+1+1+1) (u:=u) (rt:=nx+1) (lr:=nx+1+1) (lw:=n7) (t:=n7+1) (x:=n7+1+1) (r:=n7+1+1+1) (F:=fq) (k:=k) (T:=tn) (xu:=up) (xr:=ip) (xl:=lw) (xx:=wy) ⟨by(repeat(refine aa (by omega) ?_));exact b0,by(repeat(refine aa (by omega) ?_));exact b4,by(repeat(refine aa (by omega) ?_));exact e2,by(repeat(refine aa (by omega) ?_));exact b1,by(repeat(refine aa (by omega) ?_));exact b2,by(repeat(refine aa (by omega) ?_));exact e1,by(repeat(refine aa (by omega) ?_));exact e3,by repeat(first|exact ah|refine aa (by omega) ?_)⟩ (by repeat(exact ah)) (fun m hm=>by
       simp only [EN,List.not_mem_nil,or_false] at hm
       rcases hm with rfl|rfl|rfl|rfl|rfl|rfl|rfl|rfl <;> constructor <;> omega) (by constructor <;> omega) (hb.frame hund (fun m hm=>by(repeat(refine aa (by omega) ?_));exact bo m hm)) hm hF hk htn28 o3 hipl hwl hyl hl2 hc) ?_)
      rintro⟨_,HC,nC⟩ ⟨z1,rfl,z3,z4⟩
      dsimp only at z1 z3 z4 ⊢
      repeat apply ae;rfl
      (apply bW Tryz.func44 Tryz.results44;rfl)
      exact⟨by first|omega|(dsimp only;omega),.inr ⟨_,hpe2,rfl,rfl,z3,(Kept.old hlb (fun m h1=>by(repeat(refine aa (by omega) ?_));exact bo m h1)).trans z4 (by omega)⟩⟩
   ·intro join2
    have hls:=fun(H':aw) (n:Nat)=>AM e f (H:=H') (nx:=n)
    cases hl:bj e f with
    | true=>
      rw [hl] at hls
      rw [hl,Ez rfl] at htn hxx
      subst htn hxx
      repeat first|exact join2 _ _ _ () ⟨rfl,e1,e2,e3,e4,⟨b0,b1,b2,b3,b4,b5⟩,bo⟩ (E8 (Gb rfl))|refine dO rfl rfl rfl (F.ag _ rfl) (by assumption) (aH 3 0 rfl rfl) ?_|apply cH;rfl;kernel_rfl;exact hls _ _|apply bk;rfl
    | false=>
      rw [hl] at hls
      rw [hl,Ey (by decide)] at htn hxx
      subst htn hxx
      repeat first|refine dO rfl rfl rfl (F.ag _ rfl) (by assumption) (aH 3 0 rfl rfl) ?_|apply cH;rfl;kernel_rfl;exact hls _ _|apply ae;rfl
      (apply cR;(focus(kernel_rfl));(focus(kernel_rfl)))
      repeat first|refine fp rfl rfl rfl (F.ag _ rfl) e2 (bf o3) ?_|refine fV rfl rfl rfl (F.sz _ rfl) (by(repeat(refine aa (by omega) ?_));exact e4) (bf o3) (by rw [bf hwl];exact Em _) (iG _) (jx _ _ hwl o3) ?_|apply lz;rfl;assumption;rfl|refine ci rfl rfl rfl (F.sz _ rfl) (by assumption) (by rfl) (by rfl) ?_
      refine ay ⟨by kernel_rfl,?_,?_⟩;(focus(repeat(first|exact Gc|apply mh;rfl|refine jC 0 rfl (by kernel_rfl) (by(repeat(refine⟨(by first|exact aI (F.ag _ rfl) rfl (by repeat(first|assumption|refine aa (by omega) ?_)) (aE rfl)|exact bA (F.ag _ rfl) rfl e2 (bH o3)|exact bA (F.ag _ rfl) rfl (by(repeat(refine aa (by omega) ?_));exact e2) (bH o3)),?_⟩));exact Gc) ?_)))
      repeat exact join2 _ _ _ () ⟨rfl,by(repeat(refine aa (by omega) ?_));exact e1,by(repeat(refine aa (by omega) ?_));exact e2,by repeat(first|exact ah|refine aa (by omega) ?_),by repeat(exact ah),PartI.frame (H:=HA) ⟨b0,b1,b2,b3,b4,b5⟩ fun m h1 h2=>(by(repeat(refine aa (by omega) ?_));rfl),fun m hm=>by(repeat(refine aa (by omega) ?_));exact bo m hm⟩ (E8 (Gb rfl))
 ·intro join
  have hin:=fun(H':aw) (n:Nat)=>xD (H:=H') (nx:=n) 3
  rcases hs with ⟨rfl,rfl⟩|⟨rl,s1,rfl,s2,s3,s4⟩
  ·(apply oU;(focus(kernel_rfl));(focus(kernel_rfl)))
   (apply x8;rfl;rfl;rfl;(focus(kernel_rfl));exact(hin _ _))
   refine Ck 2 (D7 rfl) ?_
   repeat first|refine bq (aI (F.ag _ rfl) rfl b2 (aE (bC hp (.slu ro 0 own.length) cC 1))) rfl rfl rfl ?_|apply aA;rfl
   refine ay ?_
   (apply DK;rfl;rfl;exact(fun _ h=>by cases h);exact(pu (F.un _ rfl) (.inl ⟨_,F.un _ rfl⟩) (F.sz _ rfl) (by decide) rfl rfl ((SlOf.none (t:=3)).cells)))
   refine x9 ?_
   repeat first|refine vw (aW dN) rfl rfl rfl ?_|refine fV rfl rfl rfl (F.sz _ rfl) (by repeat(exact ah)) (bf (cM 3)) (by rw [bf ac];exact Em _) (iG _) (jx _ _ ac (cM 3)) ?_|apply aA;rfl
   refine ay ?_
   refine⟨[⟨4,fun n=> .ptr n 0,pgO zeroP⟩],[5],by kernel_rfl,by kernel_rfl,List.cons_ne_nil _ _,rfl,
    ⟨⟨⟨_,rfl,rfl,fun H n _ _=>jU (fun _ h=>(by cases h)) (aW dN)⟩,fun _ _=>rfl,fun ρ=>pb⟩,trivial⟩,?_,?_⟩
   ·repeat first|exact Gc|apply fm_c;rfl|apply fm_p;rfl|refine AS (fun H5 n5 g1 g2=> .inr ⟨Free.agg (byV (dm 3)),kJ rfl (by kernel_rfl) (hin _ _)⟩) ⟨.inr ⟨Free.agg (byV (dm 3)),kJ rfl (by kernel_rfl) (hin _ _)⟩,trivial⟩ ?_|refine AS (fun H5 n5 g1 g2=> .inr ⟨Free.sc _,jU (fun _ h=>by cases h) (pu (F.un _ rfl) (.inl ⟨_,F.un _ rfl⟩) (F.sz _ rfl) (by decide) rfl rfl ((SlOf.none (t:=3)).cells))⟩) ⟨.inr ⟨Free.sc _,jU (fun _ h=>by cases h) (pu (F.un _ rfl) (.inl ⟨_,F.un _ rfl⟩) (F.sz _ rfl) (by decide) rfl rfl ((SlOf.none (t:=3)).cells))⟩,trivial⟩ ?_|refine AS (fun H5 n5 g1 g2=> .inl (aI (F.ag _ rfl) rfl ((g1 _ (by omega)).trans b2) (aE (bC hp (.slu ro 0 own.length) cC 1)))) ⟨.inl (aI (F.ag _ rfl) rfl (by(repeat(refine aa (by omega) ?_));exact b2) (aE (bC hp (.slu ro 0 own.length) cC 1))),trivial⟩ ?_
   dsimp only
   exact join _ _ _ (cC,n2) ⟨Em _,by first|omega|(dsimp only;omega),by repeat(exact ah),.inl ⟨rfl,rfl⟩,PartI.frame (H:=H2) ⟨b0,b1,b2,b3,b4,b5⟩ fun m h1 h2=>(by(repeat(refine aa (by omega) ?_));rfl),fun m hm=>by(repeat(refine aa (by omega) ?_));exact bo m hm⟩ (E8 (Gb rfl))
  ·have hll:0<lf.length:=List.length_pos_iff.2 s1
   have hrl:rl<nx:=hund _ _ s4
   have hfl4:(lf.flatMap fun n=> [Value.int .i64 n]).length=lf.length:=by rw [kC,ED]
   obtain⟨vs,hvs⟩: ∃ vs:List Value,(lf.flatMap fun n=> [Value.int .i64 n])=vs:=⟨_,rfl⟩
   have s5:H.at' rl=some (fA false lf.length 1 3 (vs.map .sc)):=s4.trans (by rw [← hvs];exact congrArg some (bU _ _ _ _ _).symm)
   rw [hvs] at hfl4
   have hone:cq (vs.map SV.sc)=true:=by rw [← hvs];exact tS lf
   have hds:fA false lf.length 1 3 (vs.map .sc)=dat false lf.length 1 3 vs:=bU _ _ _ _ _
   have hrn: ∀ ρ,(fA false lf.length 1 3 (vs.map .sc)).ren ρ=fA false lf.length 1 3 (vs.map .sc):=fun ρ=>by rw [hds,dw]
   have hsl: ∀ H5:aw,H5.at' rl=H.at' rl→aJ H5 1 (.slu rl 0 lf.length)=some (lf.length,vs.map .sc):=fun H5 h5=>(SlOf.row (h5.trans s5) (by rw [ED,hfl4,Nat.mul_one])).cells
   have s6:=bo rl hrl
   (apply oU;(focus(kernel_rfl));(focus(kernel_rfl)))
   (apply x8;rfl;rfl;rfl;(focus(kernel_rfl));exact(hin _ _))
   refine x9 ?_
   repeat first|refine bq (aI (F.ag _ rfl) rfl b2 (aE (bC hp (.slu ro 0 own.length) (.slu rl 0 lf.length) 1))) rfl rfl rfl ?_|refine oA rfl rfl (fun _ h=>by cases h) (jc (b:=8) (F.un _ rfl) (.inl ⟨_,F.un _ rfl⟩) (F.sz _ rfl) (by decide) (by kernel_rfl) (by kernel_rfl) rfl rfl (hsl _ (by exact s6)) (by exact hone) (by omega) (by omega) (by omega)) ?_|refine vw (aW dN) rfl rfl rfl ?_|refine fV rfl rfl rfl (F.sz _ rfl) (by repeat(exact ah)) (bf (cM 3)) (by rw [bf ac];exact Em _) (iG _) (jx _ _ ac (cM 3)) ?_|apply aA;rfl
   refine ay ?_
   refine⟨[⟨3,fun n=> .slu n 0 lf.length,fA false lf.length 1 3 (vs.map .sc)⟩,⟨4,fun n=> .ptr n 0,pgO zeroP⟩],[5],by kernel_rfl,by kernel_rfl,List.cons_ne_nil _ _,rfl,
    ⟨⟨⟨_,rfl,rfl,fun H5 n5 _ h5=>jU (fun _ h=>(by cases h)) (jc (b:=8) (F.un _ rfl) (.inl ⟨_,F.un _ rfl⟩) (F.sz _ rfl) (by decide) (by kernel_rfl) (by kernel_rfl) rfl rfl (hsl _ ((h5 rl (by omega)).trans s6)) (by exact hone) (by omega) (by omega) (by omega))⟩,fun _ _=>rfl,hrn⟩,⟨⟨_,rfl,rfl,fun H n _ _=>jU (fun _ h=>(by cases h)) (aW dN)⟩,fun _ _=>rfl,fun ρ=>pb⟩,trivial⟩,?_,?_⟩
   ·repeat first|exact Gc|apply fm_c;rfl|apply fm_p;rfl|refine AS (fun H5 n5 g1 g2=> .inr ⟨Free.agg (byV (dm 3)),kJ rfl (by kernel_rfl) (hin _ _)⟩) ⟨.inr ⟨Free.agg (byV (dm 3)),kJ rfl (by kernel_rfl) (hin _ _)⟩,trivial⟩ ?_|refine AS (fun H5 n5 g1 g2=> .inl (aI (F.ag _ rfl) rfl ((g1 _ (by omega)).trans b2) (aE (bC hp (.slu ro 0 own.length) (.slu rl 0 lf.length) 1)))) ⟨.inl (aI (F.ag _ rfl) rfl (by(repeat(refine aa (by omega) ?_));exact b2) (aE (bC hp (.slu ro 0 own.length) (.slu rl 0 lf.length) 1))),trivial⟩ ?_
   dsimp only
   exact join _ _ _ (.slu n2 0 lf.length,n2+1) ⟨by omega,by first|omega|(dsimp only;omega),by repeat(exact ah),.inr ⟨n2,s1,rfl,Em _,by first|omega|(dsimp only;omega),Eq.trans (b:=some (fA false lf.length 1 3 (vs.map .sc))) (by repeat(first|exact ah|refine aa (by omega) ?_)) (by unfold xv;rw [hvs];exact congrArg some (bU _ _ _ _ _))⟩,PartI.frame (H:=H2) ⟨b0,b1,b2,b3,b4,b5⟩ fun m h1 h2=>(by(repeat(refine aa (by omega) ?_));rfl),fun m hm=>by(repeat(refine aa (by omega) ?_));exact bo m hm⟩ (E8 (Gb rfl))
theorem ot{left:List Int}{z:Int}(h:fD own e=some z):ub root p bs n own left e=(14,[]):=by
 unfold ub;rw [h];rfl
theorem ua{left:List Int}(h:fD own e=none)(hw:(dG p left e).2=true):ub root p bs n own left e=(0,[(n,(dG p left e).1)]):=by
 unfold ub;rw [h,Ey (by decide),Ez hw]
theorem xA{left:List Int}(h:fD own e=none)(hw:(dG p left e).2=false):ub root p bs n own left e=(match nO root p bs n own left e with
 | none=>(5,[])
 | some ws=>(0,ws)):=by
 unfold ub;rw [h,Ey (by decide),Ey (by rw [hw];decide)];rfl
abbrev StepQ(H:aw)(nx b c no:Nat)(mem:List UInt8)(ws:List (Nat×List UInt8))(left:Int):Pst:=fun q=>q.1 = .sc (.int .i64 ((gw left ws.length no:Nat):Int))∧PgAt q.2.1 b (dU mem (ws.take (fH left ws.length))) (left-(fH left ws.length:Nat)) (c+fH left ws.length)∧nx≤q.2.2∧Kept H q.2.1 b nx∧(ws= []→ ∀ m,m<nx→q.2.1.at' m=H.at' m)
theorem PgAt.box{H':aw}{nx m:Nat}(h:PgAt H b mem left c)(hf: ∀ m',m'≠m→H'.at' m'=H.at' m')(hn:m≠b)(hp:NoPut H m):PgAt H' b mem left c:=by
 obtain⟨s,h1,h2⟩:=h
 exact⟨s,(hf b (Ne.symm hn)).trans h1,h2.frame fun r ws hr=>hf r fun e=>hp _ _ (e ▸ hr)⟩
theorem cut0(left:Int):fH left 0=0:=by unfold fH;split <;> omega
theorem cutE0(left:Int)(no:Nat):gw left 0 no=no:=by unfold gw;rw [Ey (by omega)]
theorem StepQ.none{q:SV×aw×Nat}(hb:b<nx)(h1:q.1 = .sc (.int .i64 (no:Int)))(h2:PgAt q.2.1 b mem left c)(h3:nx≤q.2.2)(h4: ∀ m,m<nx→q.2.1.at' m=H.at' m):StepQ H nx b c no mem [] left q:=by
 refine⟨?_,?_,h3,Kept.old hb h4,fun _=>h4⟩
 ·show q.1 = .sc (.int .i64 ((gw left 0 no:Nat):Int))
  rw [cutE0];exact h1
 ·show PgAt q.2.1 b (dU mem ([].take (fH left 0))) (left-(fH left 0:Nat)) (c+fH left 0)
  rw [cut0]
  simpa [dU] using h2
theorem xw{ws:List (Nat×List UInt8)}(hb:PgAt H b mem left c)(hm:mem.length=28672)(he:fk e=true)(hh:Home mem e bs k own lf)(hx:ub (aQ mem 0) (aQ mem k) bs k own lf e=(no,ws))(hl2 : -100000000≤left∧left≤9223372036854775807)(hc:c≤999990):Fnc Tryz.prog 21 [nY b,io e] H nx (StepQ H nx b c no mem ws left):=by
 obtain⟨hi,hk1,hk2,hk3⟩:=hh.at
 obtain⟨h0,h28,hbm⟩:=iB hh.root
 have hp0:=dB hm (n:=0) (by decide)
 have hpk:=dB hm (n:=k) hk2
 have hlo:=kw hh.leaf
 have hsk:=gY hpk hh.leaf
 obtain⟨hmay,hpos⟩:=qT hh.leaf
 refine E2 Tryz.func21 rfl rfl ?_
 refine a9 fun hund=>?_
 have hlb:b<nx:=(let ⟨_,h,_⟩:=hb;hund _ _ h)
 have hmf:=fun(H:aw) (nx:Nat)=>sJ e (H:=H) (nx:=nx)
 rw [he] at hmf
 repeat first|apply cH;rfl;kernel_rfl;exact hmf _ _|apply ae;rfl|apply aR;rfl;(focus((repeat(first|exact ah|refine aa (by omega) ?_));done));rfl|apply gN;rfl;rfl;rfl;(focus(kernel_rfl))|refine bN (fe rfl rfl Tryz.underlying80 rfl) rfl rfl rfl ?_
 refine aL rfl rfl rfl (by kernel_rfl) (E1 (lm (hb.frame hund (fun m hm=>by(repeat(refine aa (by omega) ?_));rfl)) hm) ?_)
 rintro⟨v,H1,n1⟩ ⟨q1,q2,(⟨hn,rfl⟩|⟨bs',r,hbs,rfl,r1,r2,r3⟩)⟩
 ·rw [hh.root] at hn;cases hn
 obtain rfl:bs=bs':=by rw [hh.root] at hbs;cases hbs;rfl
 dsimp only at q1 q2 r1 r2 r3 ⊢
 have b0:H1.at' nx=some (am 25 ((fB e).map .sc)):=(q2 _ (by omega)).trans (by repeat(first|exact ah|refine aa (by omega) ?_))
 have b1:H1.at' (nx+1)=some (l7 0):=(q2 _ (by omega)).trans (by repeat(exact ah))
 have bo: ∀ m,m<nx→H1.at' m=H.at' m:=fun m hm=>(q2 m (by omega)).trans (by(repeat(refine aa (by omega) ?_));rfl)
 clear q2
 repeat first|refine eR (aW dN) rfl rfl rfl ?_|apply cx hp0 ac;rfl;(focus((repeat(exact ah));done))|apply ig;rfl;rfl|apply ae;rfl|apply aR;rfl;(focus((repeat(first|assumption|exact ah|refine aa (by omega) ?_));done));rfl
 refine aL rfl rfl rfl (by kernel_rfl) (E1 (pF e (by(repeat(refine aa (by omega) ?_));exact r3) h0 (by omega)) ?_)
 rintro _ rfl
 dsimp only
 refine aL rfl rfl rfl (by kernel_rfl) (E1 (ln (k:=k) (e0:=bs[bG bs e].2) (hb.frame hund (fun m hm=>by(repeat(refine aa (by omega) ?_));exact bo m hm)) hm (by(repeat(refine aa (by omega) ?_));exact r3) hi (Prod.ext hk3 rfl) hk2 (by omega)) ?_)
 rintro⟨v,H8,n8⟩ ⟨p1,p2,(⟨hn,rfl⟩|⟨own',left',so,sl,hown,rfl,w1,w2⟩)⟩
 ·rw [hh.leaf] at hn;cases hn
 obtain⟨rfl,rfl⟩:own=own'∧lf=left':=by rw [hh.leaf] at hown;cases hown;exact⟨rfl,rfl⟩
 dsimp only at p1 p2 w1 w2 ⊢
 have d0:H8.at' nx=some (am 25 ((fB e).map .sc)):=(p2 nx (by omega)).trans (by(repeat(refine aa (by omega) ?_));exact b0)
 have d1:H8.at' (nx+1)=some (l7 0):=(p2 (nx+1) (by omega)).trans (by repeat(exact ah))
 have d2:H8.at' n1=some (pgO (aQ mem 0)):=(p2 n1 (by omega)).trans (by repeat(first|exact ah|refine aa (by omega) ?_))
 have d3:H8.at' r=some (nS bs):=(p2 r (by omega)).trans (by(repeat(refine aa (by omega) ?_));exact r3)
 have do': ∀ m,m<nx→H8.at' m=H.at' m:=fun m hm=>(p2 m (by omega)).trans (by(repeat(refine aa (by omega) ?_));exact bo m hm)
 clear p2 b0 b1 bo r3
 have hso:=fun(H:aw) (nx:Nat) (h:OwnAt H so own (n1+1) n8)=>tz (nx:=nx) (N:=((4+k:Nat):Int)) (sl:=sl) hpk h (by omega) e
 repeat first|refine eR (aW nU) rfl rfl rfl ?_|refine dp rfl rfl rfl (F.sz _ rfl) (by repeat(first|assumption|exact ah|refine aa (by omega) ?_)) (aO hpk _ _) (by rw [aO ac];exact Em _) (dK _ _ w1.one w2.one) (dI ac hpk) ?_|apply ig;rfl;rfl|refine jZ rfl rfl rfl (F.ag _ rfl) (by repeat(first|assumption|exact ah|refine aa (by omega) ?_)) (aO hpk _ _) ?_|apply ae;rfl|apply aR;rfl;(focus((repeat(first|assumption|exact ah|refine aa (by omega) ?_));done));rfl
 refine aL rfl rfl rfl (by kernel_rfl) (E1 (hso _ _ (w1.frame (Em _) fun m h1 h2 _=>(by(repeat(refine aa (by omega) ?_));rfl))) ?_)
 rintro _ rfl
 clear hso
 dsimp only
 cases hd:fD own e with
 | some z=>
   rw [ot hd] at hx
   cases hx
   repeat first|apply ae;rfl|apply aR;rfl;(focus((repeat(exact ah));done));rfl
   refine eS Tryz.func21 (congrArg Array.toList Tryz.results21) (by kernel_rfl) (E1 ou ?_)
   rintro _ rfl
   refine⟨_,(by(repeat(first|exact E3|apply E4 rfl (E7 (F.ag _ rfl) (by repeat(exact ah)) (aE rfl))))),?_⟩
   exact StepQ.none hlb rfl (hb.frame hund fun m hm=>by(repeat(refine aa (by omega) ?_));exact do' m hm) (by(dsimp only;omega)) fun m hm=>by(repeat(refine aa (by omega) ?_));exact do' m hm
 | none=>
   have hxl:=mu hpk lf e
   have hwi:=fun(H':aw) (n:Nat) (h:IntsAt H' sl lf (n1+1) n8)=>Av (nx:=n) e hpk he h hpos (by omega)
   repeat first|refine dO rfl rfl rfl (F.ag _ rfl) (by repeat(first|assumption|exact ah|refine aa (by omega) ?_)) (mX hpk so sl) ?_|refine aZ rfl rfl rfl (F.ag _ rfl) (by repeat(first|assumption|exact ah|refine aa (by omega) ?_)) (bC hpk so sl 1) ?_|apply ae;rfl|apply aR;rfl;(focus((repeat(first|assumption|refine aa (by omega) ?_));done));rfl
   refine aL rfl rfl rfl (by kernel_rfl) (E1 (hwi _ _ (w2.frame (Em _) fun m h1 h2 _=>(by(repeat(refine aa (by omega) ?_));rfl))) ?_)
   rintro _ rfl
   clear hwi
   dsimp only
   cases hw:(dG (aQ mem k) lf e).2 with
   | true=>
     rw [ua hd hw] at hx
     cases hx
     generalize (dG (aQ mem k) lf e).1=x at hxl ⊢
     repeat first|refine eR (aW dN) rfl rfl rfl ?_|apply cx hxl ac;rfl;(focus((repeat(exact ah));done))|apply dc hxl;rfl;(focus((repeat(exact ah));done))|refine aZ rfl rfl rfl (F.ag _ rfl) (by repeat(first|assumption|exact ah|refine aa (by omega) ?_)) rfl ?_|apply ae;rfl
     refine im (R:=fun Hb nb=>nx+1<nb∧Hb.at' (nx+1)=some (l7 0)∧ ∀ m,m<nx→Hb.at' m=H.at' m) ⟨by omega,by repeat(first|exact ah|refine aa (by omega) ?_),fun m hm=>by(repeat(refine aa (by omega) ?_));exact do' m hm⟩ ?_
     clear d0 d1 d2 d3 do' w1 w2
     rintro Hb nb ⟨g0,f1,fo⟩
     refine fC 153 rfl rfl rfl rfl (by kernel_rfl) (E1 (uT (n:=k) (hb.frame hund fo) hm hk2 hxl (by omega) (by omega)) ?_)
     rintro⟨_,Ha,na⟩ ⟨z2,z3,z4⟩
     dsimp only at z2 z3 z4 ⊢
     have y1:Ha.at' (nx+1)=some (l7 0):=(z3 (nx+1) (by omega) (by omega) (NoPut.box f1)).trans f1
     have yo:Kept H Ha b nx:=(Kept.old hlb fo).trans z3 (by omega)
     clear z3 f1 fo
     rcases z4 with ⟨z5,rfl,z6⟩|⟨rfl,rfl,z6⟩
     ·have hc0: ¬ (0≤left∧left.toNat<1):=by omega
      repeat first|apply ae;rfl|apply aR;rfl;assumption;rfl
      refine eS Tryz.func21 (congrArg Array.toList Tryz.results21) (by kernel_rfl) (E1 ou ?_)
      rintro _ rfl
      refine⟨_,(by(repeat(first|exact E3|apply E4 rfl (E7 (F.ag _ rfl) (by repeat(exact ah)) (aE rfl))))),?_⟩
      refine⟨?_,?_,by first|omega|(dsimp only;omega),yo.set (by omega) (by omega),fun h=>by cases h⟩
      ·show _=SV.sc (.int .i64 ((gw left 1 0:Nat):Int))
       rw [gw,Ey hc0];rfl
      ·show PgAt _ b (dU mem ([(k,x)].take (fH left 1))) (left-(fH left 1:Nat)) (c+fH left 1)
       rw [fH,Ey hc0]
       exact z6.box (m:=nx+1) (nx:=0) (fun m' h=>ab _ _ h) (by omega) (NoPut.box y1)
     ·have hc0:(0:Int)≤0∧(0:Int).toNat<1:=⟨Int.le_refl _,by decide⟩
      repeat first|apply ae;rfl|apply aR;rfl;assumption;rfl
      refine eS Tryz.func21 (congrArg Array.toList Tryz.results21) (by kernel_rfl) (E1 ou ?_)
      rintro _ rfl
      refine⟨_,(by(repeat(first|exact E3|apply E4 rfl (E7 (F.ag _ rfl) (by repeat(exact ah)) (aE rfl))))),?_⟩
      refine⟨?_,?_,by first|omega|(dsimp only;omega),yo.set (by omega) (by omega),fun h=>by cases h⟩
      ·show _=SV.sc (.int .i64 ((gw 0 1 0:Nat):Int))
       rw [gw,Ez hc0];rfl
      ·show PgAt _ b (dU mem ([(k,x)].take (fH 0 1))) (0-(fH 0 1:Nat)) (c+fH 0 1)
       rw [fH,Ez hc0]
       exact z6.box (m:=nx+1) (nx:=0) (fun m' h=>ab _ _ h) (by omega) (NoPut.box y1)
   | false=>
     rw [xA hd hw] at hx
     have hxl:=mu hpk lf e
     generalize (dG (aQ mem k) lf e).1=x at hxl ⊢
     repeat first|refine eR (aW dN) rfl rfl rfl ?_|apply cx hxl ac;rfl;(focus((repeat(exact ah));done))|apply dc hp0;rfl;(focus((repeat(first|assumption|refine aa (by omega) ?_));done))|refine jZ rfl rfl rfl (F.ag _ rfl) (by repeat(first|assumption|exact ah|refine aa (by omega) ?_)) (aO hpk _ _) ?_|apply ae;rfl|apply aR;rfl;(focus((repeat(first|assumption|refine aa (by omega) ?_));done));rfl
     refine im (R:=fun Hb nb=>n8≤nb∧nx+1<nb∧Hb.at' (nx+1)=some (l7 0)∧Hb.at' r=some (nS bs)∧OwnAt Hb so own (n1+1) n8∧IntsAt Hb sl lf (n1+1) n8∧ ∀ m,m<nx→Hb.at' m=H.at' m) ⟨by omega,by omega,by repeat(first|exact ah|refine aa (by omega) ?_),by(repeat(refine aa (by omega) ?_));exact d3,w1.frame (Em _) fun m h1 h2 _=>(by(repeat(refine aa (by omega) ?_));rfl),w2.frame (Em _) fun m h1 h2 _=>(by(repeat(refine aa (by omega) ?_));rfl),fun m hm=>by(repeat(refine aa (by omega) ?_));exact do' m hm⟩ ?_
     clear d0 d1 d2 d3 do' w1 w2
     rintro Hb nb ⟨g00,g0,f1,fr,fw1,fw2,fo⟩
     refine aL rfl rfl rfl (by kernel_rfl) (E1 (Dm e (hb.frame hund fo) hm hp0 hpk hk2 fr h28 hbm fw1 fw2 hmay hpos he (by omega) hl2 hc) ?_)
     rintro⟨_,Ha,na⟩ ⟨z1,(⟨z2,rfl,z3⟩|⟨ws',z2,z3,rfl,z4,z5⟩)⟩
     ·dsimp only at z1 z3 ⊢
      rw [z2] at hx
      cases hx
      have y1:Ha.at' (nx+1)=some (l7 0):=(z3 (nx+1) (by omega)).trans f1
      have yo: ∀ m,m<nx→Ha.at' m=H.at' m:=fun m h=>(z3 m (by omega)).trans (fo m h)
      clear z3
      repeat first|apply ae;rfl|apply aR;rfl;assumption;rfl
      refine eS Tryz.func21 (congrArg Array.toList Tryz.results21) (by kernel_rfl) (E1 ou ?_)
      rintro _ rfl
      refine⟨_,(by(repeat(first|exact E3|apply E4 rfl (E7 (F.ag _ rfl) (by repeat(exact ah)) (aE rfl))))),?_⟩
      exact StepQ.none hlb rfl (hb.frame hund fun m hm=>by(repeat(refine aa (by omega) ?_));exact yo m hm) (by(dsimp only;omega)) fun m hm=>by(repeat(refine aa (by omega) ?_));exact yo m hm
     ·dsimp only at z1 z4 z5 ⊢
      rw [z2] at hx
      cases hx
      have y1:Ha.at' (nx+1)=some (l7 0):=(z5 (nx+1) (by omega) (by omega) (NoPut.box f1)).trans f1
      have yo:Kept H Ha b nx:=(Kept.old hlb fo).trans z5 (by omega)
      clear z5
      repeat first|apply ae;rfl|apply aR;rfl;assumption;rfl
      refine eS Tryz.func21 (congrArg Array.toList Tryz.results21) (by kernel_rfl) (E1 ou ?_)
      rintro _ rfl
      refine⟨_,(by(repeat(first|exact E3|apply E4 rfl (E7 (F.ag _ rfl) (by repeat(exact ah)) (aE rfl))))),?_⟩
      refine⟨?_,?_,by first|omega|(dsimp only;omega),yo.set (by omega) (by omega),fun h=>by rw [h] at z3;cases z3⟩
      ·show _=SV.sc (.int .i64 ((gw left ws.length 0:Nat):Int))
       rw [z3]
       rfl
      ·show PgAt _ b (dU mem (ws.take (fH left ws.length))) (left-(fH left ws.length:Nat)) (c+fH left ws.length)
       rw [z3]
       exact z4.box (m:=nx+1) (nx:=0) (fun m' h=>ab _ _ h) (by omega) (NoPut.box y1)
theorem DO{ws:List (Nat×List UInt8)}(hb:PgAt H b mem left c)(hm:mem.length=28672)(he:fk e=true)(hh:Home mem e bs k own lf)(hx:zZ (aQ mem k) k own e=(no,ws))(hitm: ∀ z,fD own e=some z→eg (aQ mem k) z.toNat=(gl (aQ mem k) z.toNat,0))(hl2 : -100000000≤left∧left≤9223372036854775807)(hc:c≤999990):Fnc Tryz.prog 20 [nY b,io e] H nx (StepQ H nx b c no mem ws left):=by
 obtain⟨hi,hk1,hk2,hk3⟩:=hh.at
 obtain⟨h0,h28,hbm⟩:=iB hh.root
 have hp0:=dB hm (n:=0) (by decide)
 have hpk:=dB hm (n:=k) hk2
 have hlo:=kw hh.leaf
 have hsk:=gY hpk hh.leaf
 obtain⟨hmay,hpos⟩:=qT hh.leaf
 refine E2 Tryz.func20 rfl rfl ?_
 refine a9 fun hund=>?_
 have hlb:b<nx:=(let ⟨_,h,_⟩:=hb;hund _ _ h)
 have hmf:=fun(H:aw) (nx:Nat)=>sJ e (H:=H) (nx:=nx)
 rw [he] at hmf
 repeat first|apply cH;rfl;kernel_rfl;exact hmf _ _|apply ae;rfl|apply aR;rfl;(focus((repeat(first|exact ah|refine aa (by omega) ?_));done));rfl|apply gN;rfl;rfl;rfl;(focus(kernel_rfl))|refine bN (fe rfl rfl Tryz.underlying80 rfl) rfl rfl rfl ?_
 refine aL rfl rfl rfl (by kernel_rfl) (E1 (lm (hb.frame hund (fun m hm=>by(repeat(refine aa (by omega) ?_));rfl)) hm) ?_)
 rintro⟨v,H1,n1⟩ ⟨q1,q2,(⟨hn,rfl⟩|⟨bs',r,hbs,rfl,r1,r2,r3⟩)⟩
 ·rw [hh.root] at hn;cases hn
 obtain rfl:bs=bs':=by rw [hh.root] at hbs;cases hbs;rfl
 dsimp only at q1 q2 r1 r2 r3 ⊢
 have b0:H1.at' nx=some (am 25 ((fB e).map .sc)):=(q2 _ (by omega)).trans (by repeat(first|exact ah|refine aa (by omega) ?_))
 have b1:H1.at' (nx+1)=some (l7 0):=(q2 _ (by omega)).trans (by repeat(exact ah))
 have bo: ∀ m,m<nx→H1.at' m=H.at' m:=fun m hm=>(q2 m (by omega)).trans (by(repeat(refine aa (by omega) ?_));rfl)
 clear q2
 repeat first|refine eR (aW dN) rfl rfl rfl ?_|apply cx hp0 ac;rfl;(focus((repeat(exact ah));done))|apply ig;rfl;rfl|apply ae;rfl|apply aR;rfl;(focus((repeat(first|assumption|exact ah|refine aa (by omega) ?_));done));rfl
 refine aL rfl rfl rfl (by kernel_rfl) (E1 (pF e (by(repeat(refine aa (by omega) ?_));exact r3) h0 (by omega)) ?_)
 rintro _ rfl
 dsimp only
 refine aL rfl rfl rfl (by kernel_rfl) (E1 (ln (k:=k) (e0:=bs[bG bs e].2) (hb.frame hund (fun m hm=>by(repeat(refine aa (by omega) ?_));exact bo m hm)) hm (by(repeat(refine aa (by omega) ?_));exact r3) hi (Prod.ext hk3 rfl) hk2 (by omega)) ?_)
 rintro⟨v,H8,n8⟩ ⟨p1,p2,(⟨hn,rfl⟩|⟨own',left',so,sl,hown,rfl,w1,w2⟩)⟩
 ·rw [hh.leaf] at hn;cases hn
 obtain⟨rfl,rfl⟩:own=own'∧lf=left':=by rw [hh.leaf] at hown;cases hown;exact⟨rfl,rfl⟩
 dsimp only at p1 p2 w1 w2 ⊢
 have d0:H8.at' nx=some (am 25 ((fB e).map .sc)):=(p2 nx (by omega)).trans (by(repeat(refine aa (by omega) ?_));exact b0)
 have d1:H8.at' (nx+1)=some (l7 0):=(p2 (nx+1) (by omega)).trans (by repeat(exact ah))
 have d2:H8.at' n1=some (pgO (aQ mem 0)):=(p2 n1 (by omega)).trans (by repeat(first|exact ah|refine aa (by omega) ?_))
 have d3:H8.at' r=some (nS bs):=(p2 r (by omega)).trans (by(repeat(refine aa (by omega) ?_));exact r3)
 have do': ∀ m,m<nx→H8.at' m=H.at' m:=fun m hm=>(p2 m (by omega)).trans (by(repeat(refine aa (by omega) ?_));exact bo m hm)
 clear p2 b0 b1 bo r3
 have hso:=fun(H:aw) (nx:Nat) (h:OwnAt H so own (n1+1) n8)=>tz (nx:=nx) (N:=((4+k:Nat):Int)) (sl:=sl) hpk h (by omega) e
 repeat first|refine eR (aW nU) rfl rfl rfl ?_|refine dp rfl rfl rfl (F.sz _ rfl) (by repeat(first|assumption|exact ah|refine aa (by omega) ?_)) (aO hpk _ _) (by rw [aO ac];exact Em _) (dK _ _ w1.one w2.one) (dI ac hpk) ?_|apply ig;rfl;rfl|refine jZ rfl rfl rfl (F.ag _ rfl) (by repeat(first|assumption|exact ah|refine aa (by omega) ?_)) (aO hpk _ _) ?_|apply ae;rfl|apply aR;rfl;(focus((repeat(first|assumption|exact ah|refine aa (by omega) ?_));done));rfl
 refine aL rfl rfl rfl (by kernel_rfl) (E1 (hso _ _ (w1.frame (Em _) fun m h1 h2 _=>(by(repeat(refine aa (by omega) ?_));rfl))) ?_)
 rintro _ rfl
 clear hso
 dsimp only
 cases hd:fD own e with
 | none=>
   have hx2:zZ (aQ mem k) k own e=(6,[]):=by unfold zZ;rw [hd]
   rw [hx2] at hx
   cases hx
   repeat first|apply ae;rfl|apply aR;rfl;(focus((repeat(exact ah));done));rfl
   refine eS Tryz.func20 (congrArg Array.toList Tryz.results20) (by kernel_rfl) (E1 uu ?_)
   rintro _ rfl
   refine⟨_,(by(repeat(first|exact E3|apply E4 rfl (E7 (F.ag _ rfl) (by repeat(exact ah)) (aE rfl))))),?_⟩
   exact StepQ.none hlb rfl (hb.frame hund fun m hm=>by(repeat(refine aa (by omega) ?_));exact do' m hm) (by(dsimp only;omega)) fun m hm=>by(repeat(refine aa (by omega) ?_));exact do' m hm
 | some z=>
   have hx2:zZ (aQ mem k) k own e=(0,[(k,gl (aQ mem k) z.toNat)]):=by unfold zZ;rw [hd]
   rw [hx2] at hx
   cases hx
   have hz:=Int.toNat_of_nonneg (hmay _ (iX hd)).2
   have hdd:=hitm z hd
   have hxl:(gl (aQ mem k) z.toNat).length=1024:=by have:=oz (n:=z.toNat) hpk;rwa [hdd] at this
   have hdr:=fun(H:aw) (nx:Nat)=>AV (H:=H) (nx:=nx) (n:=z.toNat) hpk
   rw [hdd] at hdr
   simp only [hz] at hdr
   generalize gl (aQ mem k) z.toNat=x at hxl hdr ⊢
   repeat first|apply cH;rfl;kernel_rfl;exact hdr _ _|refine dO rfl rfl rfl (F.ag _ rfl) (by repeat(first|exact ah|refine aa (by omega) ?_)) (mX hpk so sl) ?_|refine eR (aW dN) rfl rfl rfl ?_|apply cx hxl ac;rfl;(focus((repeat(exact ah));done))|apply dc hxl;rfl;(focus((repeat(first|exact ah|refine aa (by omega) ?_));done))|apply ig;rfl;rfl|refine aZ rfl rfl rfl (F.ag _ rfl) (by repeat(first|assumption|exact ah|refine aa (by omega) ?_)) rfl ?_|apply ae;rfl|apply aR;rfl;(focus((repeat(first|exact ah|refine aa (by omega) ?_));done));rfl
   refine im (R:=fun Hb nb=>nx+1<nb∧Hb.at' (nx+1)=some (l7 0)∧ ∀ m,m<nx→Hb.at' m=H.at' m) ⟨by omega,by repeat(exact ah),fun m hm=>by(repeat(refine aa (by omega) ?_));exact do' m hm⟩ ?_
   clear d0 d1 d2 d3 do' w1 w2
   rintro Hb nb ⟨g0,f1,fo⟩
   refine fC 153 rfl rfl rfl rfl (by kernel_rfl) (E1 (uT (n:=k) (hb.frame hund fo) hm hk2 hxl (by omega) (by omega)) ?_)
   rintro⟨_,Ha,na⟩ ⟨z2,z3,z4⟩
   dsimp only at z2 z3 z4 ⊢
   have y1:Ha.at' (nx+1)=some (l7 0):=(z3 (nx+1) (by omega) (by omega) (NoPut.box f1)).trans f1
   have yo:Kept H Ha b nx:=(Kept.old hlb fo).trans z3 (by omega)
   clear z3 f1 fo
   rcases z4 with ⟨z5,rfl,z6⟩|⟨rfl,rfl,z6⟩
   ·have hc0: ¬ (0≤left∧left.toNat<1):=by omega
    repeat first|apply ae;rfl|apply aR;rfl;assumption;rfl
    refine eS Tryz.func20 (congrArg Array.toList Tryz.results20) (by kernel_rfl) (E1 uu ?_)
    rintro _ rfl
    refine⟨_,(by(repeat(first|exact E3|apply E4 rfl (E7 (F.ag _ rfl) (by repeat(exact ah)) (aE rfl))))),?_⟩
    refine⟨?_,?_,by first|omega|(dsimp only;omega),yo.set (by omega) (by omega),fun h=>by cases h⟩
    ·show _=SV.sc (.int .i64 ((gw left 1 0:Nat):Int))
     rw [gw,Ey hc0];rfl
    ·show PgAt _ b (dU mem ([(k,x)].take (fH left 1))) (left-(fH left 1:Nat)) (c+fH left 1)
     rw [fH,Ey hc0]
     exact z6.box (m:=nx+1) (nx:=0) (fun m' h=>ab _ _ h) (by omega) (NoPut.box y1)
   ·have hc0:(0:Int)≤0∧(0:Int).toNat<1:=⟨Int.le_refl _,by decide⟩
    repeat first|apply ae;rfl|apply aR;rfl;assumption;rfl
    refine eS Tryz.func20 (congrArg Array.toList Tryz.results20) (by kernel_rfl) (E1 uu ?_)
    rintro _ rfl
    refine⟨_,(by(repeat(first|exact E3|apply E4 rfl (E7 (F.ag _ rfl) (by repeat(exact ah)) (aE rfl))))),?_⟩
    refine⟨?_,?_,by first|omega|(dsimp only;omega),yo.set (by omega) (by omega),fun h=>by cases h⟩
    ·show _=SV.sc (.int .i64 ((gw 0 1 0:Nat):Int))
     rw [gw,Ez hc0];rfl
    ·show PgAt _ b (dU mem ([(k,x)].take (fH 0 1))) (0-(fH 0 1:Nat)) (c+fH 0 1)
     rw [fH,Ez hc0]
     exact z6.box (m:=nx+1) (nx:=0) (fun m' h=>ab _ _ h) (by omega) (NoPut.box y1)
abbrev Cw:=List (a7×Unit×Nat)
theorem pB: ∀ {m:Cw},(m.map (·.1)).Nodup→ ∀ k x,x∈(nH m k).map (·.1)↔x≠k∧x∈m.map (·.1)
 | [],_,k,x=>by simp [nH]
 | y :: m,h,k,x=>by
   rw [Eo,List.nodup_cons] at h
   unfold nH
   split
   ·rename_i hy
    rw [Eo,EN]
    exact⟨fun hx=>⟨fun hc=>h.1 (by rw [hy,←hc];exact hx),.inr hx⟩,fun⟨h1,h2⟩=>h2.elim (fun h3=>absurd (h3.trans hy) h1) id⟩
   ·rename_i hy
    rw [Eo,Eo,EN,EN,pB h.2 k x]
    constructor
    ·rintro(rfl|⟨h1,h2⟩)
     ·exact⟨hy,.inl rfl⟩
     ·exact⟨h1,.inr h2⟩
    ·rintro⟨h1,rfl|h2⟩
     ·exact .inl rfl
     ·exact .inr ⟨h1,h2⟩
end
structure HasM (mem:List UInt8) (bs:List Bn.El) (m:Cw) (c:Nat):Prop where
 ok:KOk m c
 keys: ∀ e,e∈m.map (·.1)↔HasH mem bs e
section
variable {e:a7}{m:Cw}{c:Nat}{bs bs':List Bn.El}{mem mem':List UInt8}
theorem HasM.no(h:HasM mem bs m c)(hh: ¬ HasH mem bs e):lN m e=none:=qV.2 fun hc=>hh ((h.keys e).1 hc)
theorem HasM.len(h:HasM mem bs m c){l:List a7}(hl:l.Pairwise fun x y=>bj x y=true)(hm: ∀ e,e∈l↔HasH mem bs e):l.length=m.length:=by
 have:=tA (mD hl) h.ok.keys (fun x=>(hm x).trans (h.keys x).symm)
 rwa [ED] at this
theorem HasM.same(h:HasM mem bs m c)(hs: ∀ x,HasH mem' bs' x↔HasH mem bs x):HasM mem' bs' m c:=⟨h.ok,fun x=>(h.keys x).trans (hs x).symm⟩
theorem HasM.less(h:HasM mem bs m c)(hs: ∀ x,x≠e→(HasH mem' bs' x↔HasH mem bs x))(hn: ¬ HasH mem' bs' e):HasM mem' bs' (nH m e) c:=⟨h.ok.del e,fun x=>by
 rw [pB h.ok.keys,h.keys]
 by_cases hx:x=e
 ·subst hx
  exact⟨fun hc=>absurd rfl hc.1,fun hc=>absurd hc hn⟩
 ·rw [hs x hx]
  exact⟨fun hc=>hc.2,fun hc=>⟨hx,hc⟩⟩⟩
theorem HasM.more(h:HasM mem bs m c)(hs: ∀ x,x≠e→(HasH mem' bs' x↔HasH mem bs x))(hn:HasH mem' bs' e):HasM mem' bs' (pG (nH m e) e () c) (CI (nH m e) e c):=⟨(h.ok.del e).put e (),fun x=>by
 rw [zG,pB h.ok.keys,h.keys]
 by_cases hx:x=e
 ·subst hx
  exact⟨fun _=>hn,fun _=> .inl rfl⟩
 ·rw [hs x hx]
  exact⟨fun hc=>hc.elim (fun h1=>absurd h1 hx) fun h1=>h1.2,fun hc=> .inr ⟨hx,hc⟩⟩⟩
end
structure StepIs (del:Bool) (mem:List UInt8) (bs:List Bn.El) (e:a7) (no:Nat) (mem':List UInt8) (bs':List Bn.El):Prop where
 ix:IxH mem' bs'
 nos:no=0∨no=2∨no=5∨no=6∨no=8∨no=14
 same: ∀ x,x≠e→(HasH mem' bs' x↔HasH mem bs x)
 zero:no=0→(HasH mem bs e↔del=true)∧(HasH mem' bs' e↔del=false)
 there:no=14→HasH mem bs e
 away:no=6→ ¬ HasH mem bs e
 still:no≠0→ ∀ x,HasH mem' bs' x↔HasH mem bs x
 bad:no=2→fk e=false
 kind:if del=true then no≠5∧no≠14 else no≠6
 room:(∀ x,¬ HasH mem bs x)→no≠5
section
variable {bs:List Bn.El}{mem:List UInt8}
theorem StepIs.arg{del:Bool}(h:IxH mem bs)(e:a7)(he:fk e=false):StepIs del mem bs e 2 mem bs:=⟨h,.inr (.inl rfl),fun _ _=>Iff.rfl,fun h=>(by cases h),fun h=>(by cases h),fun h=>(by cases h),fun _ _=>Iff.rfl,fun _=>he,by cases del <;> simp,fun _=>by decide⟩
theorem DA{e:a7}{no:Nat}{ws:List (Nat×List UInt8)}(h:InsLaw mem bs e no ws)(left:Int)(hr:(∀ x,¬ HasH mem bs x)→no≠5): ∃ bs',StepIs false mem bs e (gw left ws.length no) (dU mem (ws.take (fH left ws.length))) bs':=by
 obtain⟨h1,_,h3,h4,bs',h5,h6⟩:=zR h left
 refine⟨bs',h5,by omega,fun x hx=>(h6 x).trans ⟨fun hc=>hc.elim id fun hc=>absurd hc.2 hx,.inl⟩,fun h0=>⟨⟨fun hc=>absurd hc (h4 h0),fun hc=>(by cases hc)⟩,⟨fun _=>rfl,fun _=>(h6 e).2 (.inr ⟨h0,rfl⟩)⟩⟩,h3.1,fun hc=>(by omega),fun h0 x=>(h6 x).trans ⟨fun hc=>hc.elim id fun hc=>absurd hc.1 h0,.inl⟩,fun hc=>(by omega),by rw [Ey (by decide)];omega,fun hx hc=>hr hx (by unfold gw at hc;split at hc <;> omega)⟩
theorem DP{e:a7}{no:Nat}{ws:List (Nat×List UInt8)}(h:DelLaw mem bs e no ws)(left:Int):StepIs true mem bs e (gw left ws.length no) (dU mem (ws.take (fH left ws.length))) bs:=by
 obtain⟨h1,_,h3,h4,h5,h6⟩:=zY h left
 refine⟨h5,by omega,fun x hx=>(h6 x).trans ⟨fun hc=>hc.1,fun hc=>⟨hc,fun hc=>hx hc.2⟩⟩,fun h0=>⟨⟨fun _=>rfl,fun _=>h4 h0⟩,⟨fun hc=>absurd ⟨h0,rfl⟩ ((h6 e).1 hc).2,fun hc=>(by cases hc)⟩⟩,fun hc=>(by omega),fun hc=>h3.1 hc,fun h0 x=>(h6 x).trans ⟨fun hc=>hc.1,fun hc=>⟨hc,fun hc=>h0 hc.1⟩⟩,fun hc=>(by omega),by rw [Ez rfl];omega,fun _=>by omega⟩
end
section
variable {P:Program} {ro:Option Nat} {fn nt nx:Nat} {T:Tr SV} {k:List AIt} {dfs:List ADf} {H:aw} {Q:Pst} {ops:Array Oper} {i:Nat} {l:List Oper} {d:Option Tmp} {ty:TypeId} {pos:String} {af:Array Edge} {gd:Option (Nat×Bool)}
theorem zo{t yt:TypeId}{x y:Operand}{a b:ByteArray}{r:Bool}(hx:ar T x=some (.sc (.string a)))(hy:ar T y=some (.sc (.string b)))(hr:(!bLt a b)=r):ReadDoes P T H ⟨d,.binOp .geq t x y yt,ty,pos,af,gd⟩ (.sc (.bool r)):=by
 subst hr
 refine cY fun ev w he=>?_
 have e1:=he x _ hx _ rfl
 have e2:=he y _ hy _ rfl
 rw [← yu]
 simp [execOp,e1,e2,eqGuard,binOp,Op.stringOp]
theorem se{t yt:TypeId}{x y:Operand}{a b:ByteArray}{r:Bool}{dd:Nat}(hw:aD T ops ⟨some dd,.binOp .geq t x y yt,ty,pos,af,gd⟩=some true)(hd:Nat.blt dd nt=true)(hx:ar T x=some (.sc (.string a)))(hy:ar T y=some (.sc (.string b)))(hr:(!bLt a b)=r)
 (h:Wp P ro ⟨fn,nt,T.set dd (.sc (.bool r)),.inReg ops (i+1) l :: k,dfs,H,nx⟩ Q):Wp P ro ⟨fn,nt,T,.inReg ops i (⟨some dd,.binOp .geq t x y yt,ty,pos,af,gd⟩ :: l) :: k,dfs,H,nx⟩ Q:=
 dZ hw (.inr (fun _ h=>by cases h)) ((zo hx hy hr).does) (by rw [aK hd];exact h)
end
section
variable {H:aw}{s:SV}{a b c hi:Nat}{left:Int}{lo nx:Nat}{l:List a7}{mem:List UInt8}
theorem Fnc.fnC{P:Program}{f g:FuncId}{a:SV}{Q:Pst}(h:Fnc P f [a,.fn (.func g) [] []] H nx Q):Fnc P f [a,.sc (.func (.func g) #[] #[])] H nx Q:=by
 unfold Fnc iR at h ⊢
 rcases h with ⟨h0,_⟩|h
 ·cases h0
 ·refine .inr ?_
  cases hb:rM P f with
  | none=>rw [hb] at h;exact h
  | some c=>
    rw [hb] at h
    have h2:Wp P none ⟨f,max 2 (BS P f),il .nil 0 [a,.fn (.func g) [] []],[.code c],[],H,nx⟩ Q:=h
    refine(⟨fun K w0 e w tmps todo ds kd rof cs hS hTr htd hds hcx=>h2.run K w0 e w tmps todo ds kd rof cs hS ⟨hTr.1,fun t u hu=>?_⟩ htd hds hcx⟩:Wp P none ⟨f,max 2 (BS P f),il .nil 0 [a,.sc (.func (.func g) #[] #[])],[.code c],[],H,nx⟩ Q)
    rcases bl hu with ⟨rfl,rfl⟩|⟨_,hu⟩
    ·obtain⟨v,g1,g2⟩:=hTr.2 1 _ rfl
     exact⟨v,by simpa [SV.conc,SV.aC] using g1,g2⟩
    ·rcases bl hu with ⟨rfl,rfl⟩|⟨_,hu⟩
     ·exact hTr.2 0 _ rfl
     ·cases hu
theorem EnAt.one{H:aw}{s:SV}{l:List a7}{lo hi:Nat}(h:EnAt H s l lo hi):s.one=true:=by
 rcases h with ⟨_,rfl⟩|⟨_,_,rfl,_⟩ <;> rfl
theorem A0:Fnc Tryz.prog 45 [.ptr a 0,.ptr b 0] H nx (fun q=>q=(.tup [],H,nx)):=by
 refine E2 Tryz.func45 rfl rfl ?_
 repeat first|apply ae;rfl|apply fQ;rfl;rfl|refine bN (fS rfl Tryz.underlying20) rfl rfl rfl ?_
 (apply wd Tryz.func45 Tryz.results45;rfl)
 rfl
theorem tI:Fnc Tryz.prog 52 [.ptr a 0,.ptr b 0] H nx (fun q=>q=(.tup [],H,nx)):=by
 refine E2 Tryz.func52 rfl rfl ?_
 repeat first|apply ae;rfl|apply fQ;rfl;rfl|refine bN (fS rfl Tryz.underlying20) rfl rfl rfl ?_
 (apply wd Tryz.func52 Tryz.results52;rfl)
 rfl
theorem xO:Fnc Tryz.prog 50 [.ptr a 0,.ptr b 0] H nx (fun q=>q=(.tup [],H,nx)):=by
 refine E2 Tryz.func50 rfl rfl ?_
 repeat first|apply ae;rfl|apply fQ;rfl;rfl|refine bN (fS rfl Tryz.underlying20) rfl rfl rfl ?_
 (apply wd Tryz.func50 Tryz.results50;rfl)
 rfl
theorem Ae:Fnc Tryz.prog 48 [.ptr a 0] H nx (fun q=>q=(.tup [],H,nx)):=by
 refine E2 Tryz.func48 rfl rfl ?_
 repeat first|apply ae;rfl|apply fQ;rfl;rfl|refine bN (fS rfl Tryz.underlying20) rfl rfl rfl ?_
 (apply wd Tryz.func48 Tryz.results48;rfl)
 rfl
theorem DW(e:a7):Fnc Tryz.prog 47 [io e] H nx (fun q=>q=(.sc (.bool true),H,nx)):=by
 refine Fnc.bV (Free.sc _) ?_
 refine E2 Tryz.func47 rfl rfl ?_
 repeat apply ae;rfl
 (apply bW Tryz.func47 Tryz.results47;rfl)
 exact⟨rfl,Ew _,fun m hm=>by(repeat(refine aa (by omega) ?_));rfl⟩
theorem Ad(e:a7):Fnc Tryz.prog 49 [io e] H nx (fun q=>q=(.sc (.bool false),H,nx)):=by
 refine Fnc.bV (Free.sc _) ?_
 refine E2 Tryz.func49 rfl rfl ?_
 repeat apply ae;rfl
 (apply bW Tryz.func49 Tryz.results49;rfl)
 exact⟨rfl,Ew _,fun m hm=>by(repeat(refine aa (by omega) ?_));rfl⟩
theorem Cd{key:ByteArray}(ha:H.at' a=some (am 9 [.sc (.string key)]))(e:a7):Fnc Tryz.prog 51 [io e,.ptr a 0] H nx (fun q=>q=(.sc (.bool (e.1 == key)),H,nx)):=by
 refine Fnc.bV (Free.sc _) ?_
 refine E2 Tryz.func51 rfl rfl ?_
 refine a9 fun hund=>?_
 have hlt:=hund _ _ ha
 repeat first|refine bN (tH rfl rfl) rfl rfl rfl ?_|refine aZ rfl rfl rfl (F.ag _ rfl) (by(repeat(refine aa (by omega) ?_));exact ha) rfl ?_|apply ae;rfl|apply aR;rfl;(focus((repeat(exact ah));done));rfl
 (apply bW Tryz.func51 Tryz.results51;rfl)
 exact⟨rfl,Ew _,fun m hm=>by(repeat(refine aa (by omega) ?_));rfl⟩
def inR(from' to':ByteArray)(e:a7):Bool:= !bLt e.1 from' && (to' == ⟨#[]⟩ || bLt e.1 to')
theorem zq{k1 k2:ByteArray}(ha:H.at' a=some (am 9 [.sc (.string k1)]))(hb:H.at' b=some (am 9 [.sc (.string k2)]))(e:a7):Fnc Tryz.prog 53 [io e,.ptr a 0,.ptr b 0] H nx (fun q=>q=(.sc (.bool (inR k1 k2 e)),H,nx)):=by
 refine Fnc.bV (Free.sc _) ?_
 refine E2 Tryz.func53 rfl rfl ?_
 refine a9 fun hund=>?_
 have hla:=hund _ _ ha
 have hlb:=hund _ _ hb
 cases h1:bLt e.1 k1 with
 | true=>
   repeat first|apply se (r:=false);rfl;rfl;rfl;rfl;exact(congrArg not h1)|refine aZ rfl rfl rfl (F.ag _ rfl) (by(repeat(refine aa (by omega) ?_));exact ha) rfl ?_|apply ae;rfl|apply aR;rfl;(focus((repeat(exact ah));done));rfl
   (apply bW Tryz.func53 Tryz.results53;rfl)
   exact⟨by unfold inR;rw [h1];rfl,Ew _,fun m hm=>by(repeat(refine aa (by omega) ?_));rfl⟩
 | false=>
   cases h2:(k2 == (⟨#[]⟩:ByteArray))with
   | true=>
     repeat first|apply se (r:=true);rfl;rfl;rfl;rfl;exact(congrArg not h1)|refine to (r:=true) rfl rfl rfl rfl h2 ?_|refine aZ rfl rfl rfl (F.ag _ rfl) (by first|(focus((repeat(refine aa (by omega) ?_));exact ha))|(focus((repeat(refine aa (by omega) ?_));exact hb))) rfl ?_|apply ae;rfl|apply aR;rfl;(focus((repeat(exact ah));done));rfl
     (apply bW Tryz.func53 Tryz.results53;rfl)
     exact⟨by unfold inR;rw [h1,h2];rfl,Ew _,fun m hm=>by(repeat(refine aa (by omega) ?_));rfl⟩
   | false=>
     repeat first|apply se (r:=true);rfl;rfl;rfl;rfl;exact(congrArg not h1)|refine to (r:=false) rfl rfl rfl rfl h2 ?_|apply oT;rfl;rfl;rfl;rfl;rfl|refine aZ rfl rfl rfl (F.ag _ rfl) (by first|(focus((repeat(refine aa (by omega) ?_));exact ha))|(focus((repeat(refine aa (by omega) ?_));exact hb))) rfl ?_|apply ae;rfl|apply aR;rfl;(focus((repeat(exact ah));done));rfl
     (apply bW Tryz.func53 Tryz.results53;rfl)
     exact⟨by unfold inR;rw [h1,h2];rfl,Ew _,fun m hm=>by(repeat(refine aa (by omega) ?_));rfl⟩
theorem all_s(hb:PgAt H b mem left c)(hm:mem.length=28672):Fnc Tryz.prog 22 [nY b] H nx
 (fun q=>nx≤q.2.2∧(∀ m,m<nx→q.2.1.at' m=H.at' m)∧((rv mem (fun _=>true)=none∧q.1 = .tup [cC,.sc (.int .i64 13)])∨ ∃ l s,rv mem (fun _=>true)=some l∧q.1 = .tup [s,.sc (.int .i64 0)]∧EnAt q.2.1 s l nx q.2.2)):=by
 refine E2 Tryz.func22 rfl rfl ?_
 refine a9 fun hund=>?_
 repeat first|apply ae;rfl|apply gN;rfl;rfl;rfl;(focus(kernel_rfl))|refine bN (fe rfl rfl Tryz.underlying80 rfl) rfl rfl rfl ?_
 refine aL rfl rfl rfl (by kernel_rfl) (E1 (Fnc.fnC <| kG (g:=47) (caps:= []) (W:=fun _=>true) (hb.frame hund (fun m hm=>by(repeat(refine aa (by omega) ?_));rfl)) hm (by kernel_rfl) (fun e H' nx' _ _=>DW e)) ?_)
 rintro⟨v,H8,n8⟩ ⟨p1,p2,(⟨hn,rfl⟩|⟨l,s,hn,rfl,w⟩)⟩
 ·dsimp only at p1 p2 ⊢
  have b1:H8.at' nx=some (am 56 [cC]):=(p2 nx (by omega)).trans (by repeat(first|exact ah|refine aa (by omega) ?_))
  have b2:H8.at' (nx+1)=some (l7 0):=(p2 (nx+1) (by omega)).trans (by repeat(exact ah))
  have bo: ∀ m,m<nx→H8.at' m=H.at' m:=fun m hm=>(p2 m (by omega)).trans (by(repeat(refine aa (by omega) ?_));rfl)
  clear p2
  repeat first|apply ae;rfl|apply aR;rfl;(focus((repeat(first|assumption|refine aa (by omega) ?_));done));rfl|refine ma rfl rfl rfl rfl (F.sz _ rfl) (by assumption) rfl (by exact D7 rfl) rfl ?_
  refine eS Tryz.func22 (congrArg Array.toList Tryz.results22) (by kernel_rfl) (E1 A0 ?_)
  rintro _ rfl
  refine⟨_,(by(repeat(first|exact E3|apply E4 rfl (E7 (F.ag _ rfl) (by repeat(first|exact ah|refine aa (by omega) ?_)) (aE rfl))))),?_⟩
  exact⟨by first|omega|(dsimp only;omega),fun m hm=>by(repeat(refine aa (by omega) ?_));exact bo m hm,.inl ⟨hn,rfl⟩⟩
 ·dsimp only at p1 p2 w ⊢
  have b1:H8.at' nx=some (am 56 [cC]):=(p2 nx (by omega)).trans (by repeat(first|exact ah|refine aa (by omega) ?_))
  have b2:H8.at' (nx+1)=some (l7 0):=(p2 (nx+1) (by omega)).trans (by repeat(exact ah))
  have bo: ∀ m,m<nx→H8.at' m=H.at' m:=fun m hm=>(p2 m (by omega)).trans (by(repeat(refine aa (by omega) ?_));rfl)
  have h1:=w.one
  clear p2
  repeat first|refine cJ rfl rfl rfl (F.sz _ rfl) (by assumption) h1 rfl ?_|apply ae;rfl|apply aR;rfl;(focus((repeat(first|assumption|refine aa (by omega) ?_));done));rfl
  refine eS Tryz.func22 (congrArg Array.toList Tryz.results22) (by kernel_rfl) (E1 A0 ?_)
  rintro _ rfl
  refine⟨_,(by(repeat(first|exact E3|apply E4 rfl (E7 (F.ag _ rfl) (by repeat(first|exact ah|refine aa (by omega) ?_)) (aE rfl))))),?_⟩
  exact⟨by first|omega|(dsimp only;omega),fun m hm=>by(repeat(refine aa (by omega) ?_));exact bo m hm,.inr ⟨l,s,hn,rfl,(w.frame (by(dsimp only;omega)) fun m h1 h2 _=>(by(repeat(refine aa (by omega) ?_));rfl)).low (by omega)⟩⟩
theorem By(k1 k2:ByteArray)(hb:PgAt H b mem left c)(hm:mem.length=28672):Fnc Tryz.prog 27 [nY b,.sc (.string k1),.sc (.string k2)] H nx
 (fun q=>nx≤q.2.2∧(∀ m,m<nx→q.2.1.at' m=H.at' m)∧((rv mem (inR k1 k2)=none∧q.1 = .tup [cC,.sc (.int .i64 13)])∨ ∃ l s,rv mem (inR k1 k2)=some l∧q.1 = .tup [s,.sc (.int .i64 0)]∧EnAt q.2.1 s l nx q.2.2)):=by
 refine E2 Tryz.func27 rfl rfl ?_
 refine a9 fun hund=>?_
 repeat first|apply ae;rfl|apply gN;rfl;rfl;rfl;(focus(kernel_rfl))|refine bN (fe rfl rfl Tryz.underlying80 rfl) rfl rfl rfl ?_
 refine aL rfl rfl rfl (by kernel_rfl) (E1 (kG (g:=53) (caps:= [.ptr nx 0,.ptr (nx+1) 0]) (W:=inR k1 k2) (hb.frame hund (fun m hm=>by(repeat(refine aa (by omega) ?_));rfl)) hm (by kernel_rfl) (fun e H' nx' _ hf=>zq ((hf nx (by omega)).trans (by repeat(first|exact ah|refine aa (by omega) ?_))) ((hf (nx+1) (by omega)).trans (by repeat(first|exact ah|refine aa (by omega) ?_))) e)) ?_)
 rintro⟨v,H8,n8⟩ ⟨p1,p2,(⟨hn,rfl⟩|⟨l,s,hn,rfl,w⟩)⟩
 ·dsimp only at p1 p2 ⊢
  have b1:H8.at' (nx+1+1)=some (am 56 [cC]):=(p2 (nx+1+1) (by omega)).trans (by repeat(first|exact ah|refine aa (by omega) ?_))
  have b2:H8.at' (nx+1+1+1)=some (l7 0):=(p2 (nx+1+1+1) (by omega)).trans (by repeat(exact ah))
  have bo: ∀ m,m<nx→H8.at' m=H.at' m:=fun m hm=>(p2 m (by omega)).trans (by(repeat(refine aa (by omega) ?_));rfl)
  clear p2
  repeat first|apply ae;rfl|apply aR;rfl;(focus((repeat(first|assumption|refine aa (by omega) ?_));done));rfl|refine ma rfl rfl rfl rfl (F.sz _ rfl) (by assumption) rfl (by exact D7 rfl) rfl ?_
  refine eS Tryz.func27 (congrArg Array.toList Tryz.results27) (by kernel_rfl) (E1 tI ?_)
  rintro _ rfl
  refine⟨_,(by(repeat(first|exact E3|apply E4 rfl (E7 (F.ag _ rfl) (by repeat(first|exact ah|refine aa (by omega) ?_)) (aE rfl))))),?_⟩
  exact⟨by first|omega|(dsimp only;omega),fun m hm=>by(repeat(refine aa (by omega) ?_));exact bo m hm,.inl ⟨hn,rfl⟩⟩
 ·dsimp only at p1 p2 w ⊢
  have b1:H8.at' (nx+1+1)=some (am 56 [cC]):=(p2 (nx+1+1) (by omega)).trans (by repeat(first|exact ah|refine aa (by omega) ?_))
  have b2:H8.at' (nx+1+1+1)=some (l7 0):=(p2 (nx+1+1+1) (by omega)).trans (by repeat(exact ah))
  have bo: ∀ m,m<nx→H8.at' m=H.at' m:=fun m hm=>(p2 m (by omega)).trans (by(repeat(refine aa (by omega) ?_));rfl)
  have h1:=w.one
  clear p2
  repeat first|refine cJ rfl rfl rfl (F.sz _ rfl) (by assumption) h1 rfl ?_|apply ae;rfl|apply aR;rfl;(focus((repeat(first|assumption|refine aa (by omega) ?_));done));rfl
  refine eS Tryz.func27 (congrArg Array.toList Tryz.results27) (by kernel_rfl) (E1 tI ?_)
  rintro _ rfl
  refine⟨_,(by(repeat(first|exact E3|apply E4 rfl (E7 (F.ag _ rfl) (by repeat(first|exact ah|refine aa (by omega) ?_)) (aE rfl))))),?_⟩
  exact⟨by first|omega|(dsimp only;omega),fun m hm=>by(repeat(refine aa (by omega) ?_));exact bo m hm,.inr ⟨l,s,hn,rfl,(w.frame (by(dsimp only;omega)) fun m h1 h2 _=>(by(repeat(refine aa (by omega) ?_));rfl)).low (by omega)⟩⟩
abbrev CA(e:a7):List Value:= [.int .i64 e.2.1,.int .i64 e.2.2]
theorem ff{A:Type}{f:A→List Value}{sz:Nat}(hf: ∀ a,(f a).length=sz): ∀ (l:List A) (i o n:Nat) (hi:i<l.length),o+n≤sz→((l.flatMap f).drop (i*sz+o)).take n=((f l[i]).drop o).take n
 | [],i,_,_,hi,_=>by simp at hi
 | a :: l,0,o,n,_,h=>by
   rw [List.flatMap_cons,Nat.zero_mul,EA,List.drop_append_of_le_length (by rw [hf];omega),List.take_append_of_le_length (by rw [EF,hf];omega)]
   rfl
 | a :: l,i+1,o,n,hi,h=>by
   have e:(i+1)*sz+o-sz=i*sz+o:=by rw [Nat.succ_mul];omega
   have e2:sz≤(i+1)*sz+o:=by rw [Nat.succ_mul];omega
   rw [List.flatMap_cons,List.drop_append,List.drop_of_length_le (by rw [hf];exact e2),List.nil_append,hf,e]
   exact ff hf l i o n (by simpa using hi) h
theorem recT:RecOf CA 2:=⟨fun _=>rfl,fun a v hv=>by
 simp only [CA,EN,List.not_mem_nil,or_false] at hv
 rcases hv with rfl|rfl <;> rfl⟩
abbrev tidR(l:List a7):VO:=dat false l.length 2 23 (l.flatMap CA)
def TdAt(H:aw)(s:SV)(l:List a7)(lo hi:Nat):Prop:=(l= []∧s=cC)∨ ∃ r,l≠ []∧s = .slu r 0 l.length∧lo≤r∧r<hi∧H.at' r=some (tidR l)
theorem TdAt.frame{H':aw}{hi':Nat}(h:TdAt H s l lo hi)(hh:hi≤hi')(hf: ∀ m,lo≤m→m<hi→H'.at' m=H.at' m):TdAt H' s l lo hi':=by
 rcases h with h|⟨r,h1,h2,h3,h4,h5⟩
 ·exact .inl h
 ·exact .inr ⟨r,h1,h2,h3,by omega,(hf r h3 h4).trans h5⟩
theorem TdAt.low{lo':Nat}(h:TdAt H s l lo hi)(hl:lo'≤lo):TdAt H s l lo' hi:=by
 rcases h with h|⟨r,h1,h2,h3,h4,h5⟩
 ·exact .inl h
 ·exact .inr ⟨r,h1,h2,by omega,h4,h5⟩
theorem TdAt.one{H:aw}{s:SV}{l:List a7}{lo hi:Nat}(h:TdAt H s l lo hi):s.one=true:=by
 rcases h with ⟨_,rfl⟩|⟨_,_,rfl,_⟩ <;> rfl
theorem Dp(k:ByteArray):Fnc Tryz.prog 34 [.sc (.string k)] H nx (fun q=>q=(.sc (.bool (BX k)),H,nx)):=Ctr.callV (mW k) [] rfl (E0 rfl) rfl trivial rfl
theorem DG(k:ByteArray)(hk:BX k=true)(hb:PgAt H b mem left c)(hm:mem.length=28672)(hn:rv mem (fun e=>e.1 == k)=some l)(hl:l.length≤100000):Fnc Tryz.prog 26 [nY b,.sc (.string k)] H nx
 (fun q=>nx≤q.2.2∧(∀ m,m<nx→q.2.1.at' m=H.at' m)∧ ∃ s,q.1 = .tup [s,.sc (.int .i64 0)]∧TdAt q.2.1 s l nx q.2.2):=by
 refine E2 Tryz.func26 rfl rfl ?_
 refine a9 fun hund=>?_
 have hmk:=fun(H:aw) (nx:Nat)=>Dp k (H:=H) (nx:=nx)
 rw [hk] at hmk
 repeat first|apply cH;rfl;kernel_rfl;exact hmk _ _|apply ae;rfl|apply aR;rfl;(focus((repeat(first|exact ah|refine aa (by omega) ?_));done));rfl|apply gN;rfl;rfl;rfl;(focus(kernel_rfl))|refine bN (fe rfl rfl Tryz.underlying80 rfl) rfl rfl rfl ?_
 refine aL rfl rfl rfl (by kernel_rfl) (E1 (kG (g:=51) (caps:= [.ptr nx 0]) (W:=fun e=>e.1 == k) (hb.frame hund (fun m hm=>by(repeat(refine aa (by omega) ?_));rfl)) hm (by kernel_rfl) (fun e H' nx' _ hf=>Cd ((hf nx (by omega)).trans (by repeat(first|exact ah|refine aa (by omega) ?_))) e)) ?_)
 rintro⟨v,H8,n8⟩ ⟨p1,p2,(⟨hn',rfl⟩|⟨l',s,hn',rfl,w⟩)⟩
 ·rw [hn] at hn';cases hn'
 rw [hn] at hn'
 cases hn'
 dsimp only at p1 p2 w ⊢
 have b1:H8.at' (nx+1)=some (am 65 [cC]):=(p2 (nx+1) (by omega)).trans (by repeat(first|exact ah|refine aa (by omega) ?_))
 have b2:H8.at' (nx+1+1)=some (l7 0):=(p2 (nx+1+1) (by omega)).trans (by repeat(exact ah))
 have bo: ∀ m,m<nx→H8.at' m=H.at' m:=fun m hm=>(p2 m (by omega)).trans (by(repeat(refine aa (by omega) ?_));rfl)
 clear p2
 rcases w with ⟨rfl,rfl⟩|⟨re,k1,rfl,k2,k3,k4⟩
 ·repeat first|apply ae;rfl|apply aR;rfl;(focus((repeat(first|assumption|exact ah));done));rfl|apply ig;rfl;rfl|refine bN (bX (F.un _ rfl) rfl) rfl rfl rfl ?_
  refine br (α:=Nat) (fun x=> [(4,.ptr (nx+1) 0),(5,.ptr (nx+1+1) 0),(25,.sc (.int .i64 0)),(26,.sc (.int .i64 0))])
   (fun x H9 n9=>n8≤n9∧H9.at' (nx+1)=some (am 65 [cC])∧H9.at' (nx+1+1)=some (l7 0)∧ ∀ m,m<nx→H9.at' m=H.at' m) (fun x=>0) 0
   ⟨Em _,by repeat(first|assumption|refine aa (by omega) ?_),by repeat(exact ah),fun m hm=>by(repeat(refine aa (by omega) ?_));exact bo m hm⟩ (E8 (Gb rfl)) ?_
  rintro x H9 n9 ⟨u1,u2,u3,u4⟩ _
  repeat first|apply ae;rfl|apply aR;rfl;(focus((repeat(first|assumption|refine aa (by omega) ?_));done));rfl|refine ma rfl rfl rfl rfl (F.sz _ rfl) (by assumption) rfl (by exact D7 rfl) rfl ?_|apply rX;rfl;decide
  refine eS Tryz.func26 (congrArg Array.toList Tryz.results26) (by kernel_rfl) (E1 xO ?_)
  rintro _ rfl
  refine⟨_,(by(repeat(first|exact E3|apply E4 rfl (E7 (F.ag _ rfl) (by repeat(first|exact ah|refine aa (by omega) ?_)) (aE rfl))))),?_⟩
  exact⟨by first|omega|(dsimp only;omega),fun m hm=>by(repeat(refine aa (by omega) ?_));exact u4 m hm,cC,rfl,.inl ⟨rfl,rfl⟩⟩
 ·repeat first|apply ae;rfl|apply aR;rfl;(focus((repeat(first|assumption|exact ah));done));rfl|apply ig;rfl;rfl
  refine br (α:=Nat×SV) (fun x=> [(4,.ptr (nx+1) 0),(5,.ptr (nx+1+1) 0),(24,.slu re 0 l.length),(25,.sc (.int .i64 (l.length:Int))),(26,.sc (.int .i64 (x.1:Int)))])
   (fun x H9 n9=>x.1≤l.length∧n8≤n9∧H9.at' (nx+1)=some (am 65 [x.2])∧H9.at' (nx+1+1)=some (l7 0)∧H9.at' re=some (AU l)∧TdAt H9 x.2 (l.take x.1) n8 n9∧ ∀ m,m<nx→H9.at' m=H.at' m) (fun x=>l.length-x.1) (0,cC)
   ⟨En _,Em _,by repeat(first|assumption|refine aa (by omega) ?_),by repeat(exact ah),by(repeat(refine aa (by omega) ?_));exact k4,.inl ⟨rfl,rfl⟩,fun m hm=>by(repeat(refine aa (by omega) ?_));exact bo m hm⟩ (E8 (Gb rfl)) ?_
  clear b1 b2 bo k4
  rintro⟨x,s⟩ H9 n9 ⟨u0,u1,u2,u3,u4,u5,u6⟩ ih
  dsimp only at u0 u1 u2 u3 u4 u5 u6 ih ⊢
  have hone:=u5.one
  repeat apply ae;rfl
  refine bm rfl rfl rfl rfl (fun c1=>?_) (fun c1=>?_)
  ·have hx:x<l.length:=by omega
   have hf:=ff (f:=fB) (sz:=3) (fun _=>rfl) l x 0 3 hx (by decide)
   have ht:l.take x ++ [l[x]]=l.take (x+1):=(List.take_succ_eq_append_getElem hx).symm
   have hlt:(l.take x).length≤100000:=by rw [EC];omega
   rcases u5 with ⟨h0,rfl⟩|⟨r,v1,rfl,v2,v3,v4⟩
   ·repeat first|refine cQ (q:=x) rfl rfl rfl rfl (F.un _ rfl) (F.sz _ rfl) (by exact u4) rfl hx (Em _) ?_|refine cP (us:=fB l[x]) rfl rfl rfl (F.ag _ rfl) (by(repeat(refine aa (by omega) ?_));exact u4) hf rfl (by omega) ?_|refine dO rfl rfl rfl (F.ag _ rfl) (by repeat(first|assumption|exact ah|refine aa (by omega) ?_)) (aH 2 1 rfl rfl) ?_|apply ae;rfl|apply aR;rfl;(focus((repeat(first|assumption|exact ah|refine aa (by omega) ?_));done));rfl|refine eR (aU (F.un _ rfl) (F.sz _ rfl) (aN rfl) (F.ze _ rfl) rfl rfl rfl rfl rfl) rfl rfl rfl ?_
    refine gO (b:=16) (n:=1) (cs:=(CA l[x]).map .sc) rfl rfl rfl rfl (F.un _ rfl) (.inl ⟨_,F.un _ rfl⟩) (F.sz _ rfl) rfl (by kernel_rfl) (by kernel_rfl) (SlOf.row (by repeat(exact ah)) rfl) rfl (by decide) (by decide) ?_
    rintro _ _ _ (⟨h,_⟩|⟨_,rfl,rfl,rfl⟩)
    ·exact absurd h (by decide)
    repeat first|apply ae;rfl|apply aR;rfl;(focus((repeat(first|assumption|refine aa (by omega) ?_));done));rfl|apply aB;rfl;omega;omega
    exact ih _ _ _ (x+1,.slu (n9+1+1) 0 1) ⟨hx,by first|omega|(dsimp only;omega),by repeat(exact ah),by repeat(first|assumption|refine aa (by omega) ?_),by(repeat(refine aa (by omega) ?_));exact u4,.inr ⟨n9+1+1,by rw [← ht];simp;exact k1,by rw [← ht,h0];rfl,by first|omega|(dsimp only;omega),by first|omega|(dsimp only;omega),by rw [← ht,h0];exact Eq.trans (b:=some (fA false 1 2 23 ((CA l[x]).map .sc))) (by repeat(first|exact ah|refine aa (by omega) ?_)) (congrArg some (bU _ _ _ _ (CA l[x])))⟩,fun m hm=>by(repeat(refine aa (by omega) ?_));exact u6 m hm⟩ (by(omega)) (E8 (Gb rfl))
   ·repeat first|refine cQ (q:=x) rfl rfl rfl rfl (F.un _ rfl) (F.sz _ rfl) (by exact u4) rfl hx (Em _) ?_|refine cP (us:=fB l[x]) rfl rfl rfl (F.ag _ rfl) (by(repeat(refine aa (by omega) ?_));exact u4) hf rfl (by omega) ?_|refine dO rfl rfl rfl (F.ag _ rfl) (by repeat(first|assumption|exact ah|refine aa (by omega) ?_)) (aH 2 1 rfl rfl) ?_|apply ae;rfl|apply aR;rfl;(focus((repeat(first|assumption|exact ah|refine aa (by omega) ?_|refine bO (by omega) ?_));done));rfl|apply aB;rfl;omega;omega|refine eR (aU (F.un _ rfl) (F.sz _ rfl) (aN rfl) (F.ze _ rfl) rfl rfl rfl rfl rfl) rfl rfl rfl ?_|refine mw (b:=16) (xs:=(l.take x)) (a:=l[x]) rfl rfl rfl rfl (F.un _ rfl) (.inl ⟨_,F.un _ rfl⟩) (F.sz _ rfl) rfl (by kernel_rfl) (by kernel_rfl) (by repeat(first|assumption|refine aa (by omega) ?_)) (by repeat(exact ah)) (by rfl) (recT) (by omega) (by omega) ?_
    exact ih _ _ _ (x+1,.slu (n9+1+1) 0 (l.take x ++ [l[x]]).length) ⟨hx,by first|omega|(dsimp only;omega),by repeat(exact ah),by repeat(first|assumption|refine aa (by omega) ?_|refine bO (by omega) ?_),by(repeat(first|refine aa (by omega) ?_|refine bO (by omega) ?_));exact u4,.inr ⟨n9+1+1,by rw [← ht];simp;exact k1,by rw [← ht],by first|omega|(dsimp only;omega),by first|omega|(dsimp only;omega),by rw [← ht];(focus((repeat(first|exact ah|refine aa (by omega) ?_));done))⟩,fun m hm=>by(repeat(first|refine aa (by omega) ?_|refine bO (by omega) ?_));exact u6 m hm⟩ (by(omega)) (E8 (Gb rfl))
  ·obtain rfl:x=l.length:=by omega
   rw [List.take_length] at u5
   repeat first|refine cJ rfl rfl rfl (F.sz _ rfl) (by assumption) hone rfl ?_|apply ae;rfl|apply aR;rfl;(focus((repeat(first|assumption|refine aa (by omega) ?_));done));rfl
   refine eS Tryz.func26 (congrArg Array.toList Tryz.results26) (by kernel_rfl) (E1 xO ?_)
   rintro _ rfl
   refine⟨_,(by(repeat(first|exact E3|apply E4 rfl (E7 (F.ag _ rfl) (by repeat(first|exact ah|refine aa (by omega) ?_)) (aE rfl))))),?_⟩
   exact⟨by first|omega|(dsimp only;omega),fun m hm=>by(repeat(refine aa (by omega) ?_));exact u6 m hm,s,rfl,(u5.frame (by(dsimp only;omega)) fun m h1 h2=>(by(repeat(refine aa (by omega) ?_));rfl)).low (by omega)⟩
end
structure Mst (mem x:List UInt8):Prop where
 len:mem.length=28672
 root:aQ mem 0=root0
 leaf:aQ mem 1=x
 rest: ∀ k,2≤k→k<28→aQ mem k=zeroP
section
variable {H:aw}{e:a7}{b c:Nat}{left:Int}{nx:Nat}{bs:List Bn.El}{mem:List UInt8}{own:List Ow.El}{x:List UInt8}
theorem Mst.set{y:List UInt8}(h:Mst mem x)(hy:y.length=1024):Mst (bQ mem 1 y) y:=by
 have hl:=h.len
 have hg: ∀ k,aQ (bQ mem 1 y) k=if k=1 then y else aQ mem k:=fun k=>ki (by rw [hl];decide) hy
 refine⟨j7 h.len (by decide) hy,?_,?_,fun k h1 h2=>?_⟩
 ·rw [hg,Ey (by decide)];exact h.root
 ·rw [hg,Ez rfl]
 ·rw [hg,Ey (by omega)];exact h.rest k h1 h2
theorem uF{k:Nat}(hk:k<28):aQ zeroM k=zeroP:=by
 unfold aQ
 rw [List.drop_replicate,List.take_replicate,Nat.min_eq_left (by omega)]
 rfl
theorem mst0:Mst (qN zeroM 2) lp0:=by
 have h1:(bQ zeroM 1 (dm 3)).length=28672:=j7 iq (by decide) (cM 3)
 have hg: ∀ k,aQ (qN zeroM 2) k=if k=0 then root0 else aQ (bQ zeroM 1 (dm 3)) k:=fun k=>ki (by rw [h1];decide) kc
 have hg2: ∀ k,aQ (bQ zeroM 1 (dm 3)) k=if k=1 then dm 3 else aQ zeroM k:=fun k=>ki (by rw [iq];decide) (cM 3)
 refine⟨j7 h1 (by decide) kc,?_,?_,fun k h1 h2=>?_⟩
 ·rw [hg,Ez rfl]
 ·rw [hg,Ey (by decide),hg2,Ez rfl];rfl
 ·rw [hg,Ey (by omega),hg2,Ey (by omega),uF h2]
theorem Mst.home(h:Mst mem x){left:List Int}(hl:eL x bs0 0=some (own,left))(e:a7):Home mem e bs0 1 own left:=by
 refine⟨by rw [h.root];exact AD,rfl,?_⟩
 rw [h.leaf]
 exact hl
theorem Mst.ent(h:Mst mem x){left:List Int}(hl:eL x bs0 0=some (own,left))(W:a7→Bool):rv mem W=some ((own.map (·.1)).filter W):=by
 unfold rv
 rw [h.root,AD]
 show(match some [] with|none=>none|some l=>match eL (aQ mem 1) bs0 0 with|none=>none|some (own,_)=>some (l ++ (own.map (fun x:Ow.El=>x.1)).filter W))=_
 rw [h.leaf,hl]
 rfl
theorem lq(k:ByteArray)(p s:Int):Fnc Tryz.prog 25 [.sc (.string k),.sc (.int .i64 p),.sc (.int .i64 s)] H nx (fun q=>q=(io (k,p,s),H,nx)):=by
 refine Fnc.bV (ru _) ?_
 refine E2 Tryz.func25 rfl rfl ?_
 repeat first|apply ae;rfl|apply aR;rfl;(focus((repeat(exact ah));done));rfl
 ((apply bv Tryz.func25 (congrArg Array.toList Tryz.results25));(focus(repeat(first|exact E3|apply E4 rfl (E6 (F.ag _ rfl) (by repeat(exact ah)) (aH _ 0 rfl rfl))))))
 exact⟨rfl,Ew _,fun m hm=>by(repeat(refine aa (by omega) ?_));rfl⟩
theorem xM:Fnc Tryz.prog 19 [] H nx (fun q=>q.1 = .ptr nx 0∧PgAt q.2.1 nx (qN zeroM 2) (-3) 0∧nx<q.2.2∧ ∀ m,m<nx→NoPut H m→q.2.1.at' m=H.at' m):=by
 refine E2 Tryz.func19 rfl rfl ?_
 repeat first|refine bN (eH rfl CX BA zV) rfl rfl rfl ?_|apply ae;rfl
 refine aL rfl rfl rfl (by kernel_rfl) (E1 (Dq (b:=nx) (mem:=zeroM) (left:= -1) (au _ _ _) iq (by decide) (by decide)) ?_)
 rintro⟨_,H1,n1⟩ ⟨rfl,⟨s,g1,g2⟩,g3,g4⟩
 dsimp only at g1 g2 g3 g4 ⊢
 obtain⟨mem,hmem⟩: ∃ mem,mem=qN zeroM 2:=⟨_,rfl⟩
 have hml:mem.length=28672:=by rw [hmem];exact mst0.len
 rw [← hmem] at g1 ⊢
 repeat apply ae;rfl
 refine cJ (cs:=nN mem s (-1-1-1) false) rfl rfl rfl (F.sz _ rfl) g1 rfl (D9 (by rw [jK hml];decide)) ?_
 rw [show ∀ x,(nN mem s (-1-1-1) false).set (0+28672) x=nN mem x (-1-1-1) false from fun x=>pj hml _ _ _ _]
 repeat apply ae;rfl
 (apply bW Tryz.func19 Tryz.results19;rfl)
 exact⟨rfl,⟨cC,au _ _ _,.inl ⟨rfl,rfl⟩⟩,by first|omega|(dsimp only;omega),fun m h1 h2=>(ab _ _ (by omega)).trans ((g4 m (by omega) (by omega) (h2.same (ab _ _ (by omega)))).trans (ab _ _ (by omega)))⟩
theorem AC{lo1 hi1 lo2 hi2:Nat}{s1 s2:SV}{l1 l2:List a7}(h1:EnAt H s1 l1 lo1 hi1)(h2:EnAt H s2 l2 lo2 hi2)(hl1:l1.length≤100000)(hl2:l2.length≤100000):Fnc Tryz.prog 24 [s1,s2] H nx (fun q=>q=(.sc (.bool (decide (l1=l2))),H,nx)):=by
 refine E2 Tryz.func24 rfl rfl ?_
 rcases h1 with ⟨rfl,rfl⟩|⟨r1,a1,rfl,a2,a3,a4⟩ <;> rcases h2 with ⟨rfl,rfl⟩|⟨r2,b1,rfl,b2,b3,b4⟩
 ·repeat first|apply ae;rfl|refine bN (bX (F.un _ rfl) rfl) rfl rfl rfl ?_|apply ig;rfl;rfl
  refine br (α:=Nat) (fun x=> [(0,cC),(5,.sc (.int .i64 0))]) (fun x H7 n7=>H7=H∧n7=nx) (fun x=>0) 0 ⟨rfl,rfl⟩ (E8 (Gb rfl)) ?_
  rintro x H7 n7 ⟨rfl,rfl⟩ _
  repeat first|apply ae;rfl|refine bN (bX (F.un _ rfl) rfl) rfl rfl rfl ?_|apply rX;rfl;decide
  (apply bW Tryz.func24 Tryz.results24;rfl)
  rfl
 ·have hn: ¬ ([]:List a7)=l2:=fun h=>b1 h.symm
  have hn0:0<l2.length:=List.length_pos_iff.2 b1
  repeat first|apply ae;rfl|refine bN (bX (F.un _ rfl) rfl) rfl rfl rfl ?_|apply tp;rfl;omega
  (apply bW Tryz.func24 Tryz.results24;rfl)
  rw [ES hn];rfl
 ·have hn: ¬ l1=([]:List a7):=a1
  have hn0:0<l1.length:=List.length_pos_iff.2 a1
  repeat first|apply ae;rfl|refine bN (bX (F.un _ rfl) rfl) rfl rfl rfl ?_|apply tp;rfl;omega
  (apply bW Tryz.func24 Tryz.results24;rfl)
  rw [ES hn];rfl
 ·repeat apply ae;rfl
  refine ga rfl rfl rfl rfl (fun c0=>?_) (fun c0=>?_)
  ·have hn: ¬ l1=l2:=fun h=>c0 (by rw [h])
   repeat apply ae;rfl
   (apply bW Tryz.func24 Tryz.results24;rfl)
   rw [ES hn];rfl
  have hll:l1.length=l2.length:=by omega
  repeat apply ae;rfl
  refine br (α:=Nat) (fun x=> [(0,.slu r1 0 l1.length),(1,.slu r2 0 l2.length),(5,.sc (.int .i64 (x:Int)))]) (fun x H7 n7=>H7=H∧n7=nx∧x≤l1.length∧l1.take x=l2.take x) (fun x=>l1.length-x) 0 ⟨rfl,rfl,En _,rfl⟩ (E8 (Gb rfl)) ?_
  rintro x H7 n7 ⟨rfl,rfl,h3,h4⟩ ih
  repeat apply ae;rfl
  refine bm rfl rfl rfl rfl (fun c1=>?_) (fun c1=>?_)
  ·have hx:x<l1.length:=by omega
   have hx2:x<l2.length:=by omega
   have hf1:=ff (f:=fB) (sz:=3) (fun _=>rfl) l1 x 0 3 hx (by decide)
   have hf2:=ff (f:=fB) (sz:=3) (fun _=>rfl) l2 x 0 3 hx2 (by decide)
   repeat apply ae;rfl
   (apply cR;(focus(kernel_rfl));(focus(kernel_rfl)))
   repeat first|refine an (q:=x) rfl rfl rfl rfl (F.un _ rfl) (F.sz _ rfl) a4 rfl hx (Em _) ?_|refine an (q:=x) rfl rfl rfl rfl (F.un _ rfl) (F.sz _ rfl) b4 rfl hx2 (Em _) ?_|refine fW (us:=fB l1[x]) rfl rfl rfl (F.ag _ rfl) a4 hf1 rfl (by omega) ?_|refine fW (us:=fB l2[x]) rfl rfl rfl (F.ag _ rfl) b4 hf2 rfl (by omega) ?_|apply aA;rfl
   cases hse:gq l1[x] l2[x] with
   | true=>
     (apply dn;rfl;rfl;exact(fun _ h=>by cases h);exact(mc (a:=l1[x]) (b:=l2[x]) hse rfl rfl))
     refine ay ⟨by kernel_rfl,?_,?_⟩;(focus(repeat(first|exact Gc|apply l5;rfl;kernel_rfl|apply xS;kernel_rfl)))
     have he:l1[x]=l2[x]:=EK hse
     repeat first|apply ae;rfl|apply aB;rfl;omega;omega
     exact ih _ _ _ (x+1) ⟨rfl,rfl,hx,by rw [List.take_succ_eq_append_getElem hx,List.take_succ_eq_append_getElem hx2,h4,he]⟩ (by omega) (E8 (Gb rfl))
   | false=>
     (apply dn;rfl;rfl;exact(fun _ h=>by cases h);exact(mc (a:=l1[x]) (b:=l2[x]) hse rfl rfl))
     refine ay ⟨by kernel_rfl,?_,?_⟩;(focus(repeat(first|exact Gc|apply l5;rfl;kernel_rfl|apply xS;kernel_rfl)))
     have hn: ¬ l1=l2:=fun h=>by subst h;exact of_decide_eq_false hse rfl
     repeat apply ae;rfl
     (apply bW Tryz.func24 Tryz.results24;rfl)
     rw [ES hn];rfl
  ·obtain rfl:x=l1.length:=by omega
   have he:l1=l2:=by rw [List.take_length,hll,List.take_length] at h4;exact h4
   repeat apply ae;rfl
   (apply bW Tryz.func24 Tryz.results24;rfl)
   rw [ER he];rfl
theorem Ca(hb:PgAt H b mem left c)(he:fk e=false):Fnc Tryz.prog 21 [nY b,io e] H nx (fun q=>q.1 = .sc (.int .i64 2)∧PgAt q.2.1 b mem left c∧b<nx∧nx≤q.2.2∧ ∀ m,m<nx→q.2.1.at' m=H.at' m):=by
 refine E2 Tryz.func21 rfl rfl ?_
 refine a9 fun hund=>?_
 have hlb:b<nx:=(let ⟨_,h,_⟩:=hb;hund _ _ h)
 have hmf:=fun(H:aw) (nx:Nat)=>sJ e (H:=H) (nx:=nx)
 rw [he] at hmf
 repeat first|apply cH;rfl;kernel_rfl;exact hmf _ _|apply ae;rfl|apply aR;rfl;(focus((repeat(first|exact ah|refine aa (by omega) ?_));done));rfl|apply gN;rfl;rfl;rfl;(focus(kernel_rfl))|refine bN (fe rfl rfl Tryz.underlying80 rfl) rfl rfl rfl ?_
 refine eS Tryz.func21 (congrArg Array.toList Tryz.results21) (by kernel_rfl) (E1 ou ?_)
 rintro _ rfl
 refine⟨_,(by(repeat(first|exact E3|apply E4 rfl (E7 (F.ag _ rfl) (by repeat(exact ah)) (aE rfl))))),?_⟩
 exact⟨rfl,hb.frame hund (fun m hm=>by(repeat(refine aa (by omega) ?_));rfl),hlb,by first|omega|(dsimp only;omega),fun m hm=>by(repeat(refine aa (by omega) ?_));rfl⟩
theorem Cm(hb:PgAt H b mem left c)(he:fk e=false):Fnc Tryz.prog 20 [nY b,io e] H nx (fun q=>q.1 = .sc (.int .i64 2)∧PgAt q.2.1 b mem left c∧b<nx∧nx≤q.2.2∧ ∀ m,m<nx→q.2.1.at' m=H.at' m):=by
 refine E2 Tryz.func20 rfl rfl ?_
 refine a9 fun hund=>?_
 have hlb:b<nx:=(let ⟨_,h,_⟩:=hb;hund _ _ h)
 have hmf:=fun(H:aw) (nx:Nat)=>sJ e (H:=H) (nx:=nx)
 rw [he] at hmf
 repeat first|apply cH;rfl;kernel_rfl;exact hmf _ _|apply ae;rfl|apply aR;rfl;(focus((repeat(first|exact ah|refine aa (by omega) ?_));done));rfl|apply gN;rfl;rfl;rfl;(focus(kernel_rfl))|refine bN (fe rfl rfl Tryz.underlying80 rfl) rfl rfl rfl ?_
 refine eS Tryz.func20 (congrArg Array.toList Tryz.results20) (by kernel_rfl) (E1 uu ?_)
 rintro _ rfl
 refine⟨_,(by(repeat(first|exact E3|apply E4 rfl (E7 (F.ag _ rfl) (by repeat(exact ah)) (aE rfl))))),?_⟩
 exact⟨rfl,hb.frame hund (fun m hm=>by(repeat(refine aa (by omega) ?_));rfl),hlb,by first|omega|(dsimp only;omega),fun m hm=>by(repeat(refine aa (by omega) ?_));rfl⟩
theorem HomeOk.home(h:IxH mem bs){y:Bn.El}{left:List Int}(g:HomeOk mem bs e y own left):Home mem e bs (dg y) own left:=⟨h.read,g.num.symm,g.leaf⟩
abbrev Cy(del:Bool)(H:aw)(nx b c:Nat)(mem:List UInt8)(bs:List Bn.El)(e:a7)(left:Int):Pst:=fun q=> ∃ (no:Nat) (mem':List UInt8) (bs':List Bn.El) (left':Int) (c':Nat),q.1 = .sc (.int .i64 (no:Int))∧StepIs del mem bs e no mem' bs'∧PgAt q.2.1 b mem' left' c'∧(left-4≤left'∧left'≤left)∧c'≤c+4∧nx≤q.2.2∧Kept H q.2.1 b nx∧(left<0→no≠8)
theorem StepQ.done{del:Bool}{no:Nat}{bs':List Bn.El}{ws:List (Nat×List UInt8)}{q:SV×aw×Nat}(h:StepQ H nx b c no mem ws left q)(hw:ws.length≤4)(h8:no≠8)(hs:StepIs del mem bs e (gw left ws.length no) (dU mem (ws.take (fH left ws.length))) bs'):Cy del H nx b c mem bs e left q:=by
 obtain⟨h1,h2,h3,h4,_⟩:=h
 have hc:=sV left ws.length
 refine⟨_,_,bs',_,_,h1,hs,h2,⟨by omega,by omega⟩,by omega,h3,h4,fun hl=>?_⟩
 rw [gw,Ey (by omega)]
 exact h8
theorem ji(hb:PgAt H b mem left c)(hI:IxH mem bs)(hl2 : -100000000≤left∧left≤9223372036854775807)(hc:c≤999990):Fnc Tryz.prog 21 [nY b,io e] H nx (Cy false H nx b c mem bs e left):=by
 cases he:fk e with
 | false=>
   refine E1 (Ca hb he) ?_
   rintro⟨_,H1,n1⟩ ⟨rfl,g0,g3,g1,g2⟩
   exact⟨2,mem,bs,left,c,rfl,.arg hI e he,g0,⟨by omega,by omega⟩,by omega,g1,Kept.old g3 g2,fun _=>by decide⟩
 | true=>
   obtain⟨y,own,lf,g⟩:=xG hI he
   obtain⟨no,ws,hx⟩: ∃ no ws,ub (aQ mem 0) (aQ mem (dg y)) bs (dg y) own lf e=(no,ws):=⟨_,_,rfl⟩
   have hL:=B9 hI he g hx
   obtain⟨bs',hs⟩:=DA hL left (fun hno h5=>by
    have hw:=v9 (hI.leaf y g.hom.1) g.is' he (fun j e' h1 h2=>hno e' ⟨y,h2,j,h1⟩)
    cases hsl:fD own e with
    | none=>rw [ua hsl hw] at hx;cases hx;cases h5
    | some z=>rw [ot hsl] at hx;cases hx;cases h5)
   refine E1 (xw hb hI.len he (g.home hI) hx hl2 hc) fun q hq=>hq.done hL.few ?_ hs
   rcases hL.nos with h|h|h <;> omega
theorem oB(hb:PgAt H b mem left c)(hI:IxH mem bs)(hl2 : -100000000≤left∧left≤9223372036854775807)(hc:c≤999990):Fnc Tryz.prog 20 [nY b,io e] H nx (Cy true H nx b c mem bs e left):=by
 cases he:fk e with
 | false=>
   refine E1 (Cm hb he) ?_
   rintro⟨_,H1,n1⟩ ⟨rfl,g0,g3,g1,g2⟩
   exact⟨2,mem,bs,left,c,rfl,.arg hI e he,g0,⟨by omega,by omega⟩,by omega,g1,Kept.old g3 g2,fun _=>by decide⟩
 | true=>
   obtain⟨y,own,lf,g⟩:=xG hI he
   obtain⟨no,ws,hx⟩: ∃ no ws,zZ (aQ mem (dg y)) (dg y) own e=(no,ws):=⟨_,_,rfl⟩
   have hL:=Cl hI g hx
   have hs:=DP hL left
   have hlen:ws.length≤4:=by
    rcases hL.nos with h|h
    ·rw [hL.one h];decide
    ·rw [hL.none' (by omega)];exact En _
   refine E1 (DO hb hI.len he (g.home hI) hx (fun z hz=>?_) hl2 hc) fun q hq=>hq.done hlen ?_ hs
   ·obtain⟨j,e1,h1,_,h3⟩:=(g.is'.mem _).1 (iX hz)
    simp only [Ea] at h3
    obtain⟨x,hx,_⟩:=h1
    rw [h3.2,EQ]
    exact lx (hI.leaf y g.hom.1).ok hx
   ·rcases hL.nos with h|h <;> omega
theorem rp{mem:List UInt8}{bs:List Bn.El}{W:a7→Bool}(hm:mem.length=28672)(hb: ∀ x∈bs,∃ k:Nat,1≤k∧k<28∧x.1=((4+k:Nat):Int)): ∀ {n:Nat} {l:List a7},n≤bs.length→kH mem bs W n=some l→l.length≤252*n
 | 0,l,_,h=>by cases h;exact Em _
 | n+1,l,hn,h=>by
   have hn2:n<bs.length:=hn
   obtain⟨k,k1,k2,k3⟩:=hb _ (Ex hn2)
   have hlk:lk bs n=k:=by unfold lk;rw [Eg,D5 hn2];show(bs[n].1).toNat-4=k;rw [k3];omega
   unfold kH at h
   cases h0:kH mem bs W n with
   | none=>rw [h0] at h;cases h
   | some l0=>
     have h1:=rp hm hb (by omega) h0
     rw [h0,hlk] at h
     simp only at h
     cases hl:eL (aQ mem k) bs n with
     | none=>rw [hl] at h;cases h
     | some y=>
       obtain⟨own,left⟩:=y
       have h2:=kw hl
       have h3:=gY (dB hm k2) hl
       rw [hl] at h
       cases h
       have h4:((own.map (·.1)).filter W).length≤own.length:=by
        have:=List.length_filter_le W (own.map (·.1))
        rwa [ED] at this
       rw [Er]
       omega
theorem zW{W:a7→Bool}{l:List a7}(hm:mem.length=28672)(h:rv mem W=some l):l.length≤8000:=by
 unfold rv at h
 cases hr:gr (aQ mem 0)with
 | none=>rw [hr] at h;cases h
 | some bs=>
   rw [hr] at h
   obtain⟨_,h2,h3⟩:=iB hr
   have:=rp hm h3 (Em _) h
   omega
theorem td(hb:PgAt H b mem left c)(hI:IxH mem bs):Fnc Tryz.prog 22 [nY b] H nx (fun q=>nx≤q.2.2∧(∀ m,m<nx→q.2.1.at' m=H.at' m)∧ ∃ l s,q.1 = .tup [s,.sc (.int .i64 0)]∧EnAt q.2.1 s l nx q.2.2∧l.Pairwise (fun a b=>bj a b=true)∧(∀ e,e∈l↔HasH mem bs e)∧l.length≤8000):=by
 obtain⟨l,h1,h2,h3⟩:=AT hI.ix (fun _=>true)
 refine E1 (all_s hb hI.len) ?_
 rintro⟨_,H1,n1⟩ ⟨g1,g2,(⟨g3,rfl⟩|⟨l',s,g3,rfl,g4⟩)⟩
 ·rw [h1] at g3;cases g3
 ·rw [h1] at g3
  cases g3
  exact⟨g1,g2,l,s,rfl,g4,h2,fun e=>(h3 e).trans ⟨fun h=>(uf hI.bnds e).1 h.1,fun h=>⟨(uf hI.bnds e).2 h,rfl⟩⟩,zW hI.len h1⟩
theorem rG(hb:PgAt H b mem left c)(hI:IxH mem bs):Fnc Tryz.prog 23 [nY b] H nx (fun q=>q.1 = .sc (.int .i64 0)∧nx≤q.2.2∧ ∀ m,m<nx→q.2.1.at' m=H.at' m):=by
 obtain⟨l,h1,_⟩:=AT hI.ix (fun _=>false)
 refine E2 Tryz.func23 rfl rfl ?_
 refine a9 fun hund=>?_
 repeat first|apply ae;rfl|apply gN;rfl;rfl;rfl;(focus(kernel_rfl))|refine bN (fe rfl rfl Tryz.underlying80 rfl) rfl rfl rfl ?_
 refine aL rfl rfl rfl (by kernel_rfl) (E1 (Fnc.fnC <| kG (g:=49) (caps:= []) (W:=fun _=>false) (hb.frame hund (fun m hm=>by(repeat(refine aa (by omega) ?_));rfl)) hI.len (by kernel_rfl) (fun e H' nx' _ _=>Ad e)) ?_)
 rintro⟨v,H8,n8⟩ ⟨p1,p2,(⟨hn,rfl⟩|⟨l',s,hn,rfl,w⟩)⟩
 ·rw [h1] at hn;cases hn
 dsimp only at p1 p2 w ⊢
 have b1:H8.at' nx=some (l7 0):=(p2 nx (by omega)).trans (by repeat(exact ah))
 have bo: ∀ m,m<nx→H8.at' m=H.at' m:=fun m hm=>(p2 m (by omega)).trans (by(repeat(refine aa (by omega) ?_));rfl)
 clear p2
 repeat first|apply ae;rfl|apply aR;rfl;(focus((repeat(first|assumption|exact ah));done));rfl
 refine eS Tryz.func23 (congrArg Array.toList Tryz.results23) (by kernel_rfl) (E1 Ae ?_)
 rintro _ rfl
 refine⟨_,(by(repeat(first|exact E3|apply E4 rfl (E7 (F.ag _ rfl) (by repeat(exact ah)) (aE rfl))))),?_⟩
 exact⟨rfl,by first|omega|(dsimp only;omega),fun m hm=>by(repeat(refine aa (by omega) ?_));exact bo m hm⟩
theorem rh:Fnc Tryz.prog 19 [] H nx (fun q=>q.1 = .ptr nx 0∧(∃ mem bs,PgAt q.2.1 nx mem (-3) 0∧IxH mem bs∧ ∀ e,¬ HasH mem bs e)∧nx<q.2.2∧ ∀ m,m<nx→NoPut H m→q.2.1.at' m=H.at' m):=by
 have h0:=mst0
 obtain⟨bs,h1,h2⟩:=zO h0.len h0.root h0.leaf t9
 refine E1 xM ?_
 rintro⟨_,H1,n1⟩ ⟨rfl,g1,g2,g3⟩
 exact⟨rfl,⟨_,bs,g1,h1,h2⟩,g2,g3⟩
end
section
variable {H:aw} {T:Tr SV} {d:Option Tmp} {ty:TypeId} {pos:String} {af:Array Edge} {gd:Option (Nat×Bool)}
theorem zp{x y:Operand}{yt:TypeId}{a b:Int×Int}{r:Bool}(hr:decide (a=b)=r)(hx:ar T x=some (.agg [.sc (.int .i64 a.1),.sc (.int .i64 a.2)]))(hy:ar T y=some (.agg [.sc (.int .i64 b.1),.sc (.int .i64 b.2)])):ReadDoes Tryz.prog T H ⟨d,.binOp .eql 23 x y yt,ty,pos,af,gd⟩ (.sc (.bool r)):=by
 subst hr
 intro K w0 e nx w ev hS hE
 refine⟨_,rfl,?_⟩
 have e1:ev x = .agg #[.int .i64 a.1,.int .i64 a.2]:=by simpa [SV.conc,SV.aC] using (hE x _ hx).symm
 have e2:ev y = .agg #[.int .i64 b.1,.int .i64 b.2]:=by simpa [SV.conc,SV.aC] using (hE y _ hy).symm
 have h:=fun w=>tB 9998 a b w
 simp [execOp,e1,e2,run_eqGuard_agg (P:=Tryz.prog) w .eql 23 x y _ _ (by kernel_rfl),run_eql_struct,h]
end
section
variable {ro:Option Nat} {fn nt nx i:Nat} {T:Tr SV} {k:List AIt} {dfs:List ADf} {H:aw} {Q:Pst} {ops:Array Oper} {l:List Oper} {ty:TypeId} {pos:String} {af:Array Edge} {gd:Option (Nat×Bool)}
theorem we{x y:Operand}{yt:TypeId}{a b:Int×Int}{r:Bool}{dd:Nat}(hw:aD T ops ⟨some dd,.binOp .eql 23 x y yt,ty,pos,af,gd⟩=some true)(hd:Nat.blt dd nt=true)(hr:decide (a=b)=r)(hx:ar T x=some (.agg [.sc (.int .i64 a.1),.sc (.int .i64 a.2)]))(hy:ar T y=some (.agg [.sc (.int .i64 b.1),.sc (.int .i64 b.2)]))
 (h:Wp Tryz.prog ro ⟨fn,nt,T.set dd (.sc (.bool r)),.inReg ops (i+1) l :: k,dfs,H,nx⟩ Q):Wp Tryz.prog ro ⟨fn,nt,T,.inReg ops i (⟨some dd,.binOp .eql 23 x y yt,ty,pos,af,gd⟩ :: l) :: k,dfs,H,nx⟩ Q:=
 dZ hw (.inr (fun _ h=>by cases h)) ((zp hr hx hy).does) (by rw [aK hd];exact h)
end
section
variable {H:aw}{e:a7}{no nx o p:Nat}{bs:List Bn.El}{mem:List UInt8}
theorem insX0:ub root0 lp0 bs0 1 [] [] eB1=(0,[(1,lp1)]):=by kernel_rfl
theorem insX1:ub root0 lp1 bs0 1 [(eB1,0)] [] eA0=(0,[(1,lp2)]):=by kernel_rfl
theorem insX2:ub root0 lp2 bs0 1 [(eA0,1),(eB1,0)] [] eB9=(0,[(1,lp3)]):=by kernel_rfl
theorem insX3:ub root0 lp3 bs0 1 [(eA0,1),(eB9,2),(eB1,0)] [] eA0=(14,[]):=by kernel_rfl
theorem delX3:zZ lp3 1 [(eA0,1),(eB9,2),(eB1,0)] eC0=(6,[]):=by kernel_rfl
theorem StepQ.all{b c:Nat}{ws:List (Nat×List UInt8)}{left:Int}{q:SV×aw×Nat}(h:StepQ H nx b c no mem ws left q)(hl:left<0):q.1 = .sc (.int .i64 (no:Int))∧PgAt q.2.1 b (dU mem ws) (left-(ws.length:Nat)) (c+ws.length)∧nx≤q.2.2∧Kept H q.2.1 b nx∧(ws= []→ ∀ m,m<nx→q.2.1.at' m=H.at' m):=by
 obtain⟨h1,h2,h3⟩:=h
 have hn: ¬ (0≤left∧left.toNat<ws.length):=fun h=>by omega
 rw [gw,Ey hn] at h1
 rw [fH,Ey hn,List.take_length] at h2
 exact⟨h1,h2,h3⟩
theorem lZ(a:Int):Fnc Tryz.prog 16 [.sc (.int .i64 a)] H nx (fun q=>q=(.sc (.int .i64 a),H,nx)):=Ctr.callV (zC a) [] rfl (E0 rfl) rfl trivial rfl
theorem iL:Fnc Tryz.prog 8 [] H nx (fun q=>q.1 = .sc (.bool true)∧nx≤q.2.2∧ ∀ m,m<nx→NoPut H m→q.2.1.at' m=H.at' m):=by
 refine E2 Tryz.func8 rfl rfl ?_
 repeat apply ae;rfl
 refine aL rfl rfl rfl (by kernel_rfl) (E1 xM ?_)
 rintro⟨_,H1,n1⟩ ⟨rfl,g1,g2,f1⟩
 have t0:=mst0
 dsimp only at g1 g2 f1 ⊢
 generalize qN zeroM 2=M0 at g1 t0
 repeat first|apply cH;rfl;kernel_rfl;exact lq _ _ _|apply ae;rfl
 refine aL rfl rfl rfl (by kernel_rfl) (E1 (xw (k:=1) (e:=eB1) (no:=0) (ws:= [(1,lp1)]) g1 t0.len (by kernel_rfl) (t0.home Du eB1) (by rw [t0.root,t0.leaf];exact insX0) (by decide) (by decide)) ?_)
 clear g1
 rintro⟨_,H2,n2⟩ hq
 obtain⟨rfl,g1,h2,h3,_⟩:=hq.all (by decide)
 clear hq
 dsimp only at g1 h2 h3 ⊢
 replace g1:PgAt H2 nx (bQ M0 1 lp1) (-4) 1:=g1
 have f2: ∀ m,m<nx→NoPut H m→H2.at' m=H.at' m:=fun m hm hp=>(h3 m (by omega) (by omega) (hp.same (f1 m hm hp))).trans (f1 m hm hp)
 have t1:=t0.set (y:=lp1) len1
 have hn2:nx<n2:=by omega
 clear h2 h3 f1
 repeat first|apply cH;rfl;kernel_rfl;exact lq _ _ _|apply ae;rfl
 refine aL rfl rfl rfl (by kernel_rfl) (E1 (xw (k:=1) (e:=eA0) (no:=0) (ws:= [(1,lp2)]) g1 t1.len (by kernel_rfl) (t1.home Dt eA0) (by rw [t1.root,t1.leaf];exact insX1) (by decide) (by decide)) ?_)
 clear g1
 rintro⟨_,H3,n3⟩ hq
 obtain⟨rfl,g1,h2,h3,_⟩:=hq.all (by decide)
 clear hq
 dsimp only at g1 h2 h3 ⊢
 replace g1:PgAt H3 nx (bQ (bQ M0 1 lp1) 1 lp2) (-5) 2:=g1
 have f3: ∀ m,m<nx→NoPut H m→H3.at' m=H.at' m:=fun m hm hp=>(h3 m (by omega) (by omega) (hp.same (f2 m hm hp))).trans (f2 m hm hp)
 have t2:=t1.set (y:=lp2) len2
 have hn3:nx<n3:=by omega
 clear h2 h3 f2
 repeat first|apply cH;rfl;kernel_rfl;exact lq _ _ _|apply ae;rfl
 refine aL rfl rfl rfl (by kernel_rfl) (E1 (xw (k:=1) (e:=eB9) (no:=0) (ws:= [(1,lp3)]) g1 t2.len (by kernel_rfl) (t2.home Ds eB9) (by rw [t2.root,t2.leaf];exact insX2) (by decide) (by decide)) ?_)
 clear g1
 rintro⟨_,H4,n4⟩ hq
 obtain⟨rfl,g1,h2,h3,_⟩:=hq.all (by decide)
 clear hq
 dsimp only at g1 h2 h3 ⊢
 replace g1:PgAt H4 nx (bQ (bQ (bQ M0 1 lp1) 1 lp2) 1 lp3) (-6) 3:=g1
 have f4: ∀ m,m<nx→NoPut H m→H4.at' m=H.at' m:=fun m hm hp=>(h3 m (by omega) (by omega) (hp.same (f3 m hm hp))).trans (f3 m hm hp)
 have t3:=t2.set (y:=lp3) len3
 have hn4:nx<n4:=by omega
 clear h2 h3 f3
 repeat apply ae;rfl
 refine a9 fun hund4=>?_
 refine aL rfl rfl rfl (by kernel_rfl) (E1 (DG (l:= [eB9,eB1]) ⟨#[98]⟩ (by kernel_rfl) g1 t3.len ((t3.ent tZ _).trans (by kernel_rfl)) (by decide)) ?_)
 rintro⟨_,H5,n5⟩ ⟨p1,p2,s,rfl,(⟨h,_⟩|⟨rt,_,rfl,r2,r3,r4⟩)⟩
 ·cases h
 dsimp only at p1 p2 r3 r4 ⊢
 have f5: ∀ m,m<nx→NoPut H m→H5.at' m=H.at' m:=fun m hm hp=>(p2 m (by omega)).trans (f4 m hm hp)
 replace g1:=g1.frame hund4 p2
 clear p2 f4 hund4
 repeat first|apply cH;rfl;kernel_rfl;exact lq _ _ _|apply ae;rfl
 refine a9 fun hund5=>?_
 refine aL rfl rfl rfl (by kernel_rfl) (E1 (xw (k:=1) (e:=eA0) (no:=14) (ws:= []) g1 t3.len (by kernel_rfl) (t3.home tZ eA0) (by rw [t3.root,t3.leaf];exact insX3) (by decide) (by decide)) ?_)
 rintro⟨_,H6,n6⟩ hq
 obtain⟨rfl,_,p2,_,p3⟩:=hq.all (by decide)
 replace p3:=p3 rfl
 clear hq
 dsimp only at p2 p3 ⊢
 have f6: ∀ m,m<nx→NoPut H m→H6.at' m=H.at' m:=fun m hm hp=>(p3 m (by omega)).trans (f5 m hm hp)
 replace g1:=g1.frame hund5 p3
 replace r4:=(p3 rt r3).trans r4
 have k6:rt<n6:=by omega
 have m6:nx<n6:=by omega
 clear p3 f5 hund5
 repeat first|apply cH;rfl;kernel_rfl;exact lq _ _ _|apply ae;rfl
 refine a9 fun hund6=>?_
 refine aL rfl rfl rfl (by kernel_rfl) (E1 (DO (k:=1) (e:=eC0) (no:=6) (ws:= []) g1 t3.len (by kernel_rfl) (t3.home tZ eC0) (by rw [t3.leaf];exact delX3) (fun z hz=>by rw [Db] at hz;cases hz) (by decide) (by decide)) ?_)
 rintro⟨_,H7,n7⟩ hq
 obtain⟨rfl,_,p4,_,p5⟩:=hq.all (by decide)
 replace p5:=p5 rfl
 clear hq
 dsimp only at p4 p5 ⊢
 have f7: ∀ m,m<nx→NoPut H m→H7.at' m=H.at' m:=fun m hm hp=>(p5 m (by omega)).trans (f6 m hm hp)
 replace g1:=g1.frame hund6 p5
 replace r4:=(p5 rt k6).trans r4
 have k7:rt<n7:=by omega
 clear p5 f6 hund6
 repeat apply ae;rfl
 have he:rv (bQ (bQ (bQ M0 1 lp1) 1 lp2) 1 lp3) (inR ⟨#[97]⟩ ⟨#[98]⟩)=some [eA0]:=(t3.ent tZ _).trans (by kernel_rfl)
 refine aL rfl rfl rfl (by kernel_rfl) (E1 (By ⟨#[97]⟩ ⟨#[98]⟩ g1 t3.len) ?_)
 rintro⟨_,H8,n8⟩ ⟨p6,p7,(⟨hn,rfl⟩|⟨l,s,hn,rfl,w⟩)⟩
 ·rw [he] at hn;cases hn
 rw [he] at hn
 cases hn
 dsimp only at p6 p7 w ⊢
 have f8: ∀ m,m<nx→NoPut H m→H8.at' m=H.at' m:=fun m hm hp=>(p7 m (by omega)).trans (f7 m hm hp)
 replace r4:=(p7 rt k7).trans r4
 clear p7 f7
 repeat first|apply cH;rfl;kernel_rfl;exact lq _ _ _|apply cH;rfl;kernel_rfl;exact lZ _|apply ig;rfl;rfl|refine cQ (q:=0) rfl rfl rfl rfl (F.un _ rfl) (F.sz _ rfl) r4 rfl (by decide) (Em _) ?_|refine cQ (q:=1) rfl rfl rfl rfl (F.un _ rfl) (F.sz _ rfl) r4 rfl (by decide) (Em _) ?_|refine cP (us:= [.int .i64 39,.int .i64 9]) rfl rfl rfl (F.ag _ rfl) r4 rfl rfl (by decide) ?_|refine cP (us:= [.int .i64 40,.int .i64 1]) rfl rfl rfl (F.ag _ rfl) r4 rfl rfl (by decide) ?_|apply we (r:=true) (a:=(39,9)) (b:=(39,9));rfl;rfl;(focus(decide));rfl;rfl|apply we (r:=true) (a:=(40,1)) (b:=(40,1));rfl;rfl;(focus(decide));rfl;rfl|apply ae;rfl|apply aB;rfl;omega;omega|refine eR (aU (F.un _ rfl) (F.sz _ rfl) (aN rfl) (F.ze _ rfl) rfl rfl rfl rfl rfl) rfl rfl rfl ?_
 refine aL rfl rfl rfl (by kernel_rfl) (E1 (AC (l1:= [eA0]) (l2:= [eA0]) (lo1:=n7) (hi1:=n8) (lo2:=n8) (hi2:=n8+1) (w.frame (Em _) fun m h1 h2 _=>(by(repeat(refine aa (by omega) ?_));rfl)) (.inr ⟨n8,by simp,rfl,Em _,Nat.lt_succ_self _,Eq.trans (b:=some (fA false 1 3 25 ((fB eA0).map .sc))) (by repeat(exact ah)) (congrArg some (bU _ _ _ _ (fB eA0)))⟩) (by decide) (by decide)) ?_)
 rintro _ rfl
 dsimp only
 repeat apply ae;rfl
 (apply bW Tryz.func8 Tryz.results8;rfl)
 exact⟨rfl,by first|omega|(dsimp only;omega),fun m hm hp=>by(repeat(refine aa (by omega) ?_));exact f8 m hm hp⟩
def Diff(H:aw)(p o:Nat):Prop:= ∀ m1 r1 n1 l1 d1 m2 r2 n2 l2 d2,H.at' p=some (gC m1 (.slu r1 0 n1) l1 d1)→H.at' o=some (gC m2 (.slu r2 0 n2) l2 d2)→r1≠r2
theorem Diff.symm(h:Diff H p o):Diff H o p:=fun _ _ _ _ _ _ _ _ _ _ e1 e2=>Ne.symm (h _ _ _ _ _ _ _ _ _ _ e2 e1)
theorem Diff.same{H':aw}(h:Diff H p o)(e1:H'.at' p=H.at' p)(e2:H'.at' o=H.at' o):Diff H' p o:=fun _ _ _ _ _ _ _ _ _ _ h1 h2=>h _ _ _ _ _ _ _ _ _ _ (e1.symm.trans h1) (e2.symm.trans h2)
theorem yU{H':aw}{n cp co:Nat}{memp memo:List UInt8}{lp lo:Int}(hu: ∀ b vo,H.at' b=some vo→b<n)(hp:PgAt H p memp lp cp)(ho:PgAt H o memo lo co)(hpo:p≠o)(hd:Diff H p o)(g:Kept H H' o n):PgAt H' p memp lp cp∧Diff H' p o:=by
 obtain⟨sp,h1,h2⟩:=id hp
 obtain⟨so,h3,h4⟩:=id ho
 have hrow: ∀ r c,sp = .slu r 0 c→r<n∧r≠o∧Off H o r:=by
  intro r c hs
  rcases h2 with ⟨_,rfl⟩|⟨r2,ws,_,rfl,h5,_⟩
  ·cases hs
  ·injection hs with hr
   subst hr
   refine⟨hu _ _ h5,?_,fun m2 r3 n2 l2 d2 hq=>Ne.symm (hd _ _ _ _ _ _ _ _ _ _ h1 hq)⟩
   rintro rfl
   rw [h3] at h5
   unfold gC am at h5
   cases h5
 obtain⟨k1,k2⟩:=hp.other g hpo (hu _ _ h1) (fun s hs r c hsc=>hrow r c ((mP (Option.some.inj (h1.symm.trans hs))).trans hsc))
 refine⟨k1,fun m1 r1 n1 l1 d1 m2 r2 n2 l2 d2 e1 e2=>?_⟩
 rw [k2] at e1
 obtain⟨a1,a2,a3⟩:=hrow _ _ (mP (Option.some.inj (h1.symm.trans e1)))
 exact Ne.symm ((g.two r1 a1 a2 a3).2 _ _ _ _ _ e2)
theorem HasH.may(h:HasH mem bs e):fk e=true:=by
 obtain⟨_,_,j,hj⟩:=h
 exact hj.may
theorem sP{mem':List UInt8}{bs':List Bn.El}{Q:a7→Prop}(h:StepIs false mem bs e no mem' bs')(h5:no≠5)(h8:no≠8)(hP: ∀ x,HasH mem bs x↔fk x=true∧Q x): ∀ x,HasH mem' bs' x↔fk x=true∧(Q x∨x=e):=by
 intro x
 have h6:no≠6:=by have:=h.kind;rwa [Ey (by decide)] at this
 by_cases hx:x=e
 ·subst hx
  rcases h.nos with h0|h0|h0|h0|h0|h0
  ·have h1:=(h.zero h0).2.2 rfl
   exact⟨fun hc=>⟨hc.may,.inr rfl⟩,fun _=>h1⟩
  ·rw [h.still (by omega)]
   exact⟨fun hc=>⟨hc.may,.inr rfl⟩,fun hc=>by rw [h.bad h0] at hc;cases hc.1⟩
  ·exact absurd h0 h5
  ·exact absurd h0 h6
  ·exact absurd h0 h8
  ·rw [h.still (by omega)]
   exact⟨fun hc=>⟨hc.may,.inr rfl⟩,fun _=>h.there h0⟩
 ·rw [h.same x hx,hP]
  exact⟨fun hc=>⟨hc.1,.inl hc.2⟩,fun hc=>⟨hc.1,hc.2.resolve_right hx⟩⟩
theorem kp{A:Type}{l:List A}{i:Nat}(hi:i<l.length)(x:A):x∈l.take (i+1)↔x∈l.take i∨x=l[i]:=by
 rw [List.take_succ_eq_append_getElem hi,List.mem_append,EE]
theorem yc{mem':List UInt8}{bs':List Bn.El}(h:StepIs true mem bs e no mem' bs')(h8:no≠8):(HasH mem bs e→no=0∧ ¬ HasH mem' bs' e)∧(fk e=true→ ¬ HasH mem bs e→no=6∧ ∀ x,HasH mem' bs' x↔HasH mem bs x):=by
 have hk:=h.kind
 rw [Ez rfl] at hk
 refine⟨fun hh=>?_,fun hm hh=>?_⟩
 ·have h0:no=0:=by
   rcases h.nos with h0|h0|h0|h0|h0|h0
   ·exact h0
   ·have:=h.bad h0;rw [hh.may] at this;cases this
   ·omega
   ·exact absurd hh (h.away h0)
   ·omega
   ·omega
  exact⟨h0,fun hc=>by have:=(h.zero h0).2.1 hc;cases this⟩
 ·have h0:no=6:=by
   rcases h.nos with h0|h0|h0|h0|h0|h0
   ·exact absurd ((h.zero h0).1.2 rfl) hh
   ·have:=h.bad h0;rw [hm] at this;cases this
   ·omega
   ·exact h0
   ·omega
   ·omega
  exact⟨h0,h.still (by omega)⟩
abbrev enR(ro:Bool)(l:List a7):VO:=dat ro l.length 3 25 (l.flatMap fB)
abbrev DC(ro:Bool)(l:List Int):VO:=dat ro l.length 1 3 (l.flatMap fun n=> [.int .i64 n])
theorem dX{m ne sz:Nat}{t:TypeId}{ro:Bool}{vs:List Value}(h:H.at' m=some (dat ro ne sz t vs))(hs:sz≠1025):NoPut H m:=fun c ws h2=>by
 rw [h] at h2
 injection h2 with h2
 unfold dat at h2
 injection h2 with _ _ h2
 exact hs h2
end
structure OnceK (H H':aw) (nx r q:Nat) (ro ro2:Bool) (l:List a7) (ord:List Int):Prop where
 row:H'.at' r=some (enR ro l)
 ord':H'.at' q=some (DC ro2 ord)
 old: ∀ m,m<nx→NoPut H m→H'.at' m=H.at' m
theorem OnceK.kept{H H' H'':aw}{nx n p r q:Nat}{ro ro2:Bool}{l:List a7}{ord:List Int}(h:OnceK H H' nx r q ro ro2 l ord)(g:Kept H' H'' p n)(h1:nx≤n)(h2:r<nx)(h3:q<nx)(h4:nx≤p):OnceK H H'' nx r q ro ro2 l ord:=
 ⟨(g r (by omega) (by omega) (dX h.row (by decide))).trans h.row,(g q (by omega) (by omega) (dX h.ord' (by decide))).trans h.ord',fun j j1 j2=>(g j (by omega) (by omega) (j2.same (h.old j j1 j2))).trans (h.old j j1 j2)⟩
theorem OnceK.same{H H' H'':aw}{nx n r q:Nat}{ro ro2:Bool}{l:List a7}{ord:List Int}(h:OnceK H H' nx r q ro ro2 l ord)(g: ∀ m,m<n→H''.at' m=H'.at' m)(h1:nx≤n)(h2:r<nx)(h3:q<nx):OnceK H H'' nx r q ro ro2 l ord:=
 ⟨(g r (by omega)).trans h.row,(g q (by omega)).trans h.ord',fun j j1 j2=>(g j (by omega)).trans (h.old j j1 j2)⟩
structure Two (H:aw) (n p o:Nat) (mp mo:List UInt8) (lp lo:Int) (cp co:Nat):Prop where
 p':PgAt H p mp lp cp
 o':PgAt H o mo lo co
 ne:p≠o
 diff:Diff H p o
 pn:p<n
 on:o<n
section
variable {H:aw}{co cp:Nat}{lo lp:Int}{n o p:Nat}{mo mp:List UInt8}
theorem Two.swap(h:Two H n p o mp mo lp lo cp co):Two H n o p mo mp lo lp co cp:=⟨h.o',h.p',h.ne.symm,h.diff.symm,h.on,h.pn⟩
theorem Two.step{H':aw}{n':Nat}{mo':List UInt8}{lo':Int}{co':Nat}(h:Two H n p o mp mo lp lo cp co)(hu: ∀ b vo,H.at' b=some vo→b<n)(g:Kept H H' o n)(hn:n≤n')(ho:PgAt H' o mo' lo' co'):Two H' n' p o mp mo' lp lo' cp co':=by
 obtain⟨a,b⟩:=yU hu h.p' h.o' h.ne h.diff g
 exact⟨a,ho,h.ne,b,Nat.lt_of_lt_of_le h.pn hn,Nat.lt_of_lt_of_le h.on hn⟩
theorem Two.same{H':aw}{n':Nat}(h:Two H n p o mp mo lp lo cp co)(hu: ∀ b vo,H.at' b=some vo→b<n)(g: ∀ m,m<n→H'.at' m=H.at' m)(hn:n≤n'):Two H' n' p o mp mo lp lo cp co:=
 ⟨h.p'.frame hu g,h.o'.frame hu g,h.ne,h.diff.same (g p h.pn) (g o h.on),Nat.lt_of_lt_of_le h.pn hn,Nat.lt_of_lt_of_le h.on hn⟩
end
structure OnS where
 i:Nat
 mem:List UInt8
 bs:List Bn.El
 left:Int
 c:Nat
theorem PgAt.nil{H:aw}{b:Nat}{mem:List UInt8}{left:Int}(h:PgAt H b mem left 0):H.at' b=some (gC mem cC left false):=by
 obtain⟨s,h1,h2⟩:=h
 rcases h2 with ⟨_,rfl⟩|⟨_,_,h0,_⟩
 ·exact h1
 ·exact absurd h0 (Nat.lt_irrefl _)
theorem Dw{ro:Bool}{l:List a7}{i:Nat}(hi:i<l.length):(l.flatMap fB)[i*3]? =some (.string (l[i]).1):=by
 have h:=ff (f:=fB) (sz:=3) (fun _=>rfl) l i 0 1 hi (by decide)
 have h2:=congrArg (·[0]?) h
 simpa [List.getElem?_take,List.getElem?_drop] using h2
theorem Dz{l:List Int}{i:Nat}(hi:i<l.length):(l.flatMap fun n=> [Value.int .i64 n])[i]? =some (.int .i64 l[i]):=by
 rw [kC,EP,D5 hi];rfl
theorem zB{H:aw}{nx r q:Nat}{ro ro2:Bool}{l:List a7}{ord:List Int}(hr:H.at' r=some (enR ro l))(hq:H.at' q=some (DC ro2 ord)):Fnc Tryz.prog 5 [.slu r 0 l.length,.slu q 0 ord.length] H nx (fun q=>q.1 = .sc (.bool true)∧nx≤q.2.2∧ ∀ m,m<nx→NoPut H m→q.2.1.at' m=H.at' m):=by
 refine E2 Tryz.func5 rfl rfl ?_
 refine a9 fun hund=>?_
 have hlr:=hund _ _ hr
 have hlq:=hund _ _ hq
 repeat apply ae;rfl
 refine dS rfl rfl rfl rfl (fun c1=>?_) (fun c1=>?_)
 ·repeat apply ae;rfl
  (refine aL rfl rfl rfl (by kernel_rfl) (E1 iL ?_);rintro⟨_,Hk,nk⟩ ⟨rfl,z8,z9⟩;dsimp only at z8 z9 ⊢;(repeat(apply ae;rfl));(apply bW Tryz.func5 Tryz.results5;rfl);exact⟨rfl,by first|omega|(dsimp only;omega),fun m h1 h2=>(z9 m (by omega) (h2.same (rfl))).trans (rfl)⟩)
 repeat apply ae;rfl
 refine dS rfl rfl rfl rfl (fun c2=>?_) (fun c2=>?_)
 ·repeat apply ae;rfl
  (refine aL rfl rfl rfl (by kernel_rfl) (E1 iL ?_);rintro⟨_,Hk,nk⟩ ⟨rfl,z8,z9⟩;dsimp only at z8 z9 ⊢;(repeat(apply ae;rfl));(apply bW Tryz.func5 Tryz.results5;rfl);exact⟨rfl,by first|omega|(dsimp only;omega),fun m h1 h2=>(z9 m (by omega) (h2.same (rfl))).trans (rfl)⟩)
 repeat apply ae;rfl
 refine aL rfl rfl rfl (by kernel_rfl) (E1 rh ?_)
 rintro⟨_,H1,n1⟩ ⟨rfl,⟨mem1,bs1,p1,p2,p3⟩,g1,f1⟩
 dsimp only at p1 g1 f1 ⊢
 refine aL rfl rfl rfl (by kernel_rfl) (E1 rh ?_)
 rintro⟨_,H2,n2⟩ ⟨rfl,⟨mem2,bs2,q1,q2,q3⟩,g2,f2⟩
 dsimp only at q1 g2 f2 ⊢
 have hb1:H2.at' nx=some (gC mem1 cC (-3) false):=(f2 nx g1 (NoPut.box p1.nil)).trans p1.nil
 have hTwo:Two H2 n2 n1 nx mem2 mem1 (-3) (-3) 0 0:=⟨q1,⟨cC,hb1,.inl ⟨rfl,rfl⟩⟩,by omega,fun m1 r1 n1 l1 d1 m2 r2 n2 l2 d2 e1 e2=>(by have:=mP (Option.some.inj (hb1.symm.trans e2));cases this),g2,by omega⟩
 have hK:OnceK H H2 nx r q ro ro2 l ord:=⟨(f2 r (by omega) ((dX hr (by decide)).same (f1 r hlr (dX hr (by decide))))).trans ((f1 r hlr (dX hr (by decide))).trans hr),(f2 q (by omega) ((dX hq (by decide)).same (f1 q hlq (dX hq (by decide))))).trans ((f1 q hlq (dX hq (by decide))).trans hq),fun m h1 h2=>(f2 m (by omega) (h2.same (f1 m h1 h2))).trans (f1 m h1 h2)⟩
 clear q1 p1 f1 f2 hb1
 repeat apply ae;rfl
 refine br (α:=OnS) (fun x=> [(0,.slu r 0 l.length),(1,.slu q 0 ord.length),(5,.ptr nx 0),(6,.ptr n1 0),(7,.sc (.int .i64 (x.i:Int)))])
  (fun x H3 n3=>x.i≤l.length∧IxH x.mem x.bs∧(∀ e,HasH x.mem x.bs e↔fk e=true∧e∈l.take x.i)∧Two H3 n3 n1 nx mem2 x.mem (-3) x.left 0 x.c∧OnceK H H3 nx r q ro ro2 l ord∧(-3-4*(x.i:Int)≤x.left∧x.left ≤ -3)∧x.c≤4*x.i) (fun x=>l.length-x.i) ⟨0,mem1,bs1,-3,0⟩
  ⟨En _,p2,fun e=>⟨fun h=>absurd h (p3 e),fun h=>by simp at h⟩,hTwo,hK,⟨by simp,Int.le_refl _⟩,Em _⟩ (E8 (Gb rfl)) ?_
 clear hTwo hK p2 p3
 rintro⟨i,mem,bs,left,c⟩ H3 n3 ⟨i1,i2,i3,i4,i5,⟨i6,i7⟩,i8⟩ ih
 dsimp only at i1 i2 i3 i4 i6 i7 i8 ih ⊢
 refine a9 fun hund3=>?_
 have hn3:=i4.pn
 have j1:=i5.row
 repeat apply ae;rfl
 refine bm rfl rfl rfl rfl (fun c3=>?_) (fun c3=>?_)
 ·have hi:i<l.length:=by omega
  have hf:=ff (f:=fB) (sz:=3) (fun _=>rfl) l i 0 3 hi (by decide)
  have hky:=Dw (ro:=ro) hi
  repeat first|refine cQ (q:=i) rfl rfl rfl rfl (F.un _ rfl) (F.sz _ rfl) j1 rfl hi (Em _) ?_|refine e7 (v:= .string (l[i]).1) rfl rfl rfl (F.ag _ rfl) j1 (by(exact hky)) (by omega) ?_|apply ae;rfl
  refine dS rfl rfl rfl rfl (fun c4=>?_) (fun c4=>?_)
  ·repeat apply ae;rfl
   (refine aL rfl rfl rfl (by kernel_rfl) (E1 iL ?_);rintro⟨_,Hk,nk⟩ ⟨rfl,z8,z9⟩;dsimp only at z8 z9 ⊢;(repeat(apply ae;rfl));(apply bW Tryz.func5 Tryz.results5;rfl);exact⟨rfl,by first|omega|(dsimp only;omega),fun m h1 h2=>(z9 m (by omega) (h2.same (i5.old m h1 h2))).trans (i5.old m h1 h2)⟩)
  repeat first|refine cQ (q:=i) rfl rfl rfl rfl (F.un _ rfl) (F.sz _ rfl) j1 rfl hi (Em _) ?_|refine cP (us:=fB l[i]) rfl rfl rfl (F.ag _ rfl) j1 hf rfl (by omega) ?_|apply ae;rfl
  refine aL rfl rfl rfl (by kernel_rfl) (E1 (ji (e:=l[i]) i4.o' i2 (by omega) (by omega)) ?_)
  rintro⟨_,H4,n4⟩ ⟨no,mem',bs',left',c',rfl,hS,z1,z2,z3,z4,z5,z6⟩
  dsimp only at z1 z4 z5 ⊢
  have h8:=z6 (by omega)
  have hT:=i4.step hund3 z5 z4 z1
  have hK:=i5.kept z5 (by omega) hlr hlq (Em _)
  clear z5 z1
  repeat first|apply cH;rfl;kernel_rfl;exact lZ _|apply ae;rfl
  have h6:no≠6:=by have:=hS.kind;rwa [Ey (by decide)] at this
  by_cases h5:no=5
  ·subst h5
   repeat first|apply ig;rfl;omega|apply tp;rfl;omega|apply ae;rfl
   (refine aL rfl rfl rfl (by kernel_rfl) (E1 iL ?_);rintro⟨_,Hk,nk⟩ ⟨rfl,z8,z9⟩;dsimp only at z8 z9 ⊢;(repeat(apply ae;rfl));(apply bW Tryz.func5 Tryz.results5;rfl);exact⟨rfl,by first|omega|(dsimp only;omega),fun m h1 h2=>(z9 m (by omega) (h2.same (hK.old m h1 h2))).trans (hK.old m h1 h2)⟩)
  ·have hset:=sP hS h5 h8 i3
   have hset2: ∀ x,HasH mem' bs' x↔fk x=true∧x∈l.take (i+1):=fun x=>(hset x).trans (by rw [kp hi])
   rcases hS.nos with rfl|rfl|rfl|rfl|rfl|rfl
   ·repeat first|exact ih _ _ _ ⟨i+1,mem',bs',left',c'⟩ ⟨hi,hS.ix,hset2,hT,hK,⟨by dsimp only;omega,by dsimp only;omega⟩,by dsimp only;omega⟩ (by dsimp only;omega) (E8 (Gb rfl))|apply bk;rfl|apply aB;rfl;omega;omega|apply ig;rfl;omega
   ·repeat first|exact ih _ _ _ ⟨i+1,mem',bs',left',c'⟩ ⟨hi,hS.ix,hset2,hT,hK,⟨by dsimp only;omega,by dsimp only;omega⟩,by dsimp only;omega⟩ (by dsimp only;omega) (E8 (Gb rfl))|apply bk;rfl|apply aB;rfl;omega;omega|apply ig;rfl;omega|apply tp;rfl;omega
   ·exact absurd rfl h5
   ·exact absurd rfl h6
   ·exact absurd rfl h8
   ·repeat first|exact ih _ _ _ ⟨i+1,mem',bs',left',c'⟩ ⟨hi,hS.ix,hset2,hT,hK,⟨by dsimp only;omega,by dsimp only;omega⟩,by dsimp only;omega⟩ (by dsimp only;omega) (E8 (Gb rfl))|apply bk;rfl|apply aB;rfl;omega;omega|apply ig;rfl;omega|apply tp;rfl;omega
 obtain rfl:i=l.length:=by omega
 rw [List.take_length] at i3
 clear ih j1 hn3 hund3
 repeat apply ae;rfl
 refine br (α:=OnS) (fun x=> [(0,.slu r 0 l.length),(1,.slu q 0 ord.length),(5,.ptr nx 0),(6,.ptr n1 0),(9,.sc (.int .i64 (x.i:Int)))])
  (fun x H4 n4=>x.i≤ord.length∧IxH x.mem x.bs∧(∀ e,HasH x.mem x.bs e→e∈l)∧Two H4 n4 nx n1 mem x.mem left x.left c x.c∧OnceK H H4 nx r q ro ro2 l ord∧(-3-4*(x.i:Int)≤x.left∧x.left ≤ -3)∧x.c≤4*x.i) (fun x=>ord.length-x.i) ⟨0,mem2,bs2,-3,0⟩
  ⟨En _,q2,fun e h=>absurd h (q3 e),i4.swap,i5,⟨by simp,Int.le_refl _⟩,Em _⟩ (E8 (Gb rfl)) ?_
 clear i4 i5 q2 q3
 rintro⟨k,memo,bso,lefto,co⟩ H4 n4 ⟨k1,k2,k3,k4,k5,⟨k6,k7⟩,k8⟩ ih
 dsimp only at k1 k2 k3 k4 k6 k7 k8 ih ⊢
 refine a9 fun hund4=>?_
 have hn4:=k4.pn
 have j1:=k5.row
 have j2:=k5.ord'
 repeat apply ae;rfl
 refine bm rfl rfl rfl rfl (fun c5=>?_) (fun c5=>?_)
 ·have hk:k<ord.length:=by omega
  have hov:=Dz hk
  repeat first|refine cQ (q:=k) rfl rfl rfl rfl (F.un _ rfl) (F.sz _ rfl) j2 rfl hk (Em _) ?_|refine e7 (v:= .int .i64 ord[k]) rfl rfl rfl (F.ag _ rfl) j2 (by first|exact hov|(rw [Nat.mul_one];exact hov)) (by omega) ?_|apply ae;rfl
  refine cD rfl rfl rfl rfl (fun c6=>?_) (fun c6=>?_)
  ·repeat first|refine cQ (q:=k) rfl rfl rfl rfl (F.un _ rfl) (F.sz _ rfl) j2 rfl hk (Em _) ?_|refine e7 (v:= .int .i64 ord[k]) rfl rfl rfl (F.ag _ rfl) j2 (by first|exact hov|(rw [Nat.mul_one];exact hov)) (by omega) ?_|apply ae;rfl
   refine bm rfl rfl rfl rfl (fun c7=>?_) (fun c7=>?_)
   ·obtain⟨z,hz⟩: ∃ z:Nat,ord[k]=(z:Int):=⟨ord[k].toNat,(Int.toNat_of_nonneg c6).symm⟩
    have hzl:z<l.length:=by omega
    have hf:=ff (f:=fB) (sz:=3) (fun _=>rfl) l z 0 3 hzl (by decide)
    repeat first|refine cQ (q:=k) rfl rfl rfl rfl (F.un _ rfl) (F.sz _ rfl) j2 rfl hk (Em _) ?_|refine e7 (v:= .int .i64 ord[k]) rfl rfl rfl (F.ag _ rfl) j2 (by first|exact hov|(rw [Nat.mul_one];exact hov)) (by omega) ?_|refine cQ (q:=z) rfl rfl rfl rfl (F.un _ rfl) (F.sz _ rfl) j1 hz hzl (Em _) ?_|refine cP (us:=fB l[z]) rfl rfl rfl (F.ag _ rfl) j1 hf rfl (by omega) ?_|apply ae;rfl
    refine aL rfl rfl rfl (by kernel_rfl) (E1 (ji (e:=l[z]) k4.o' k2 (by omega) (by omega)) ?_)
    rintro⟨_,H5,n5⟩ ⟨no,mem',bs',left',c',rfl,hS,z1,z2,z3,z4,z5,z6⟩
    dsimp only at z1 z4 z5 ⊢
    have h8:=z6 (by omega)
    have hT:=k4.step hund4 z5 z4 z1
    have hK:=k5.kept z5 (by omega) hlr hlq (by omega)
    clear z5 z1
    have h6:no≠6:=by have:=hS.kind;rwa [Ey (by decide)] at this
    repeat apply cH;rfl;kernel_rfl;exact lZ _
    by_cases h5:no=5
    ·subst h5
     repeat first|apply ig;rfl;omega|apply ae;rfl
     (refine aL rfl rfl rfl (by kernel_rfl) (E1 iL ?_);rintro⟨_,Hk,nk⟩ ⟨rfl,z8,z9⟩;dsimp only at z8 z9 ⊢;(repeat(apply ae;rfl));(apply bW Tryz.func5 Tryz.results5;rfl);exact⟨rfl,by first|omega|(dsimp only;omega),fun m h1 h2=>(z9 m (by omega) (h2.same (hK.old m h1 h2))).trans (hK.old m h1 h2)⟩)
    ·have hset:=sP (Q:=fun x=>HasH memo bso x) hS h5 h8 (fun x=>⟨fun h=>⟨h.may,h⟩,fun h=>h.2⟩)
     have hset2: ∀ x,HasH mem' bs' x→x∈l:=fun x h=>((hset x).1 h).2.elim (k3 x) fun he=>he ▸ Ex hzl
     repeat first|exact ih _ _ _ ⟨k+1,mem',bs',left',c'⟩ ⟨hk,hS.ix,hset2,hT,hK,⟨by dsimp only;omega,by dsimp only;omega⟩,by dsimp only;omega⟩ (by dsimp only;omega) (E8 (Gb rfl))|apply bk;rfl|apply aB;rfl;omega;omega|apply tp;rfl;omega
   ·repeat first|exact ih _ _ _ ⟨k+1,memo,bso,lefto,co⟩ ⟨hk,k2,k3,k4,k5,⟨by dsimp only;omega,by dsimp only;omega⟩,by dsimp only;omega⟩ (by dsimp only;omega) (E8 (Gb rfl))|apply bk;rfl|apply aB;rfl;omega;omega
  ·repeat first|exact ih _ _ _ ⟨k+1,memo,bso,lefto,co⟩ ⟨hk,k2,k3,k4,k5,⟨by dsimp only;omega,by dsimp only;omega⟩,by dsimp only;omega⟩ (by dsimp only;omega) (E8 (Gb rfl))|apply bk;rfl|apply aB;rfl;omega;omega
 obtain rfl:k=ord.length:=by omega
 clear ih j1 j2 hn4 hund4
 repeat apply ae;rfl
 refine br (α:=OnS) (fun x=> [(0,.slu r 0 l.length),(1,.slu q 0 ord.length),(5,.ptr nx 0),(6,.ptr n1 0),(10,.sc (.int .i64 (x.i:Int)))])
  (fun x H5 n5=>x.i≤l.length∧IxH x.mem x.bs∧(∀ e,HasH x.mem x.bs e↔fk e=true∧(HasH memo bso e∨e∈l.take x.i))∧Two H5 n5 nx n1 mem x.mem left x.left c x.c∧OnceK H H5 nx r q ro ro2 l ord∧(-2000-4*(x.i:Int)≤x.left∧x.left ≤ -3)∧x.c≤2000+4*x.i) (fun x=>l.length-x.i) ⟨0,memo,bso,lefto,co⟩
  ⟨En _,k2,fun e=>⟨fun h=>⟨h.may,.inl h⟩,fun h=>h.2.elim id fun h=>by simp at h⟩,k4,k5,⟨by dsimp only;omega,by dsimp only;omega⟩,by dsimp only;omega⟩ (E8 (Gb rfl)) ?_
 clear k4 k5
 rintro⟨i3,mem3,bs3,left3,c3'⟩ H5 n5 ⟨m1,m2,m3,m4,m5,⟨m6,m7⟩,m8⟩ ih
 dsimp only at m1 m2 m3 m4 m6 m7 m8 ih ⊢
 refine a9 fun hund5=>?_
 have hn5:=m4.pn
 have j1:=m5.row
 repeat apply ae;rfl
 refine bm rfl rfl rfl rfl (fun c8=>?_) (fun c8=>?_)
 ·have hi:i3<l.length:=by omega
  have hf:=ff (f:=fB) (sz:=3) (fun _=>rfl) l i3 0 3 hi (by decide)
  repeat first|refine cQ (q:=i3) rfl rfl rfl rfl (F.un _ rfl) (F.sz _ rfl) j1 rfl hi (Em _) ?_|refine cP (us:=fB l[i3]) rfl rfl rfl (F.ag _ rfl) j1 hf rfl (by omega) ?_|apply ae;rfl
  refine aL rfl rfl rfl (by kernel_rfl) (E1 (ji (e:=l[i3]) m4.o' m2 (by omega) (by omega)) ?_)
  rintro⟨_,H6,n6⟩ ⟨no,mem',bs',left',c',rfl,hS,z1,z2,z3,z4,z5,z6⟩
  dsimp only at z1 z4 z5 ⊢
  have h8:=z6 (by omega)
  have hT:=m4.step hund5 z5 z4 z1
  have hK:=m5.kept z5 (by omega) hlr hlq (by omega)
  clear z5 z1
  repeat apply cH;rfl;kernel_rfl;exact lZ _
  by_cases h5:no=5
  ·subst h5
   repeat first|apply ig;rfl;omega|apply ae;rfl
   (refine aL rfl rfl rfl (by kernel_rfl) (E1 iL ?_);rintro⟨_,Hk,nk⟩ ⟨rfl,z8,z9⟩;dsimp only at z8 z9 ⊢;(repeat(apply ae;rfl));(apply bW Tryz.func5 Tryz.results5;rfl);exact⟨rfl,by first|omega|(dsimp only;omega),fun m h1 h2=>(z9 m (by omega) (h2.same (hK.old m h1 h2))).trans (hK.old m h1 h2)⟩)
  ·have hset:=sP hS h5 h8 m3
   have hset2: ∀ x,HasH mem' bs' x↔fk x=true∧(HasH memo bso x∨x∈l.take (i3+1)):=fun x=>(hset x).trans (by rw [kp hi,or_assoc])
   repeat first|exact ih _ _ _ ⟨i3+1,mem',bs',left',c'⟩ ⟨hi,hS.ix,hset2,hT,hK,⟨by dsimp only;omega,by dsimp only;omega⟩,by dsimp only;omega⟩ (by dsimp only;omega) (E8 (Gb rfl))|apply bk;rfl|apply aB;rfl;omega;omega|apply tp;rfl;omega
 obtain rfl:i3=l.length:=by omega
 rw [List.take_length] at m3
 have hsame: ∀ x,HasH mem bs x↔HasH mem3 bs3 x:=fun x=>by
  rw [i3,m3]
  exact⟨fun h=>⟨h.1,.inr h.2⟩,fun h=>⟨h.1,h.2.elim (k3 x) id⟩⟩
 clear ih j1 hn5
 repeat apply ae;rfl
 refine aL rfl rfl rfl (by kernel_rfl) (E1 (td m4.p' i2) ?_)
 rintro⟨_,H6,n6⟩ ⟨y1,y2,la,sa,rfl,y3,y4,y5,y6⟩
 dsimp only at y1 y2 y3 ⊢
 have hT6:=m4.same hund5 y2 y1
 have hK6:=m5.same y2 (by have:=m4.pn;omega) hlr hlq
 have hnx5:nx<n5:=m4.pn
 clear m4 m5 hund5 y2
 refine a9 fun hund6=>?_
 repeat apply ae;rfl
 refine aL rfl rfl rfl (by kernel_rfl) (E1 (td hT6.o' m2) ?_)
 rintro⟨_,H7,n7⟩ ⟨x1,x2,lb,sb,rfl,x3,x4,x5,x6⟩
 dsimp only at x1 x2 x3 ⊢
 have hp7:=hT6.p'.frame hund6 x2
 have hnx7:nx<n6:=hT6.pn
 have hK7:=hK6.same x2 (by omega) hlr hlq
 have y7:EnAt H7 sa la n5 n6:=y3.frame (Em _) fun m h1 h2 _=>x2 m h2
 have hab:la=lb:=qp y4 x4 fun x=>by rw [y5,x5,hsame]
 have hsm:=fun(n:Nat)=>AC (nx:=n) y7 x3 (by omega) (by omega)
 rw [ER hab] at hsm
 clear hT6 hK6 hund6 x2 y3
 repeat first|refine vU 27 ?_|apply cH;rfl;kernel_rfl;exact lZ _|apply cH;rfl;kernel_rfl;exact hsm _|apply bk;rfl|apply aB;rfl;omega;omega|apply ig;rfl;omega
 refine⟨?_⟩
 refine vY (A:=OnS) (fun _=> [(5,.ptr nx 0),(11,sa)]) (fun a H8 n8=>IxH a.mem a.bs∧(∀ e,¬ HasH a.mem a.bs e)∧PgAt H8 nx a.mem a.left a.c∧EnAt H8 sa la n5 n8∧nx<n8∧(∀ m,m<nx→NoPut H m→H8.at' m=H.at' m)∧(-100000≤a.left∧a.left ≤ -3)∧a.c≤100000) ?_ ?_
 ·clear hp7 hK7 y7 hsm
  rintro⟨_,mem8,bs8,left8,c8'⟩ H8 n8 ⟨u1,u2,u3,u4,u5,u6,⟨u7,u8⟩,u9⟩
  dsimp only at u1 u2 u3 u7 u8 u9 ⊢
  refine a9 fun hund8=>?_
  repeat apply ae;rfl
  refine aL rfl rfl rfl (by kernel_rfl) (E1 (td u3 u1) ?_)
  rintro⟨_,H9,n9⟩ ⟨v1,v2,lc,sc',rfl,v3,v4,v5,v6⟩
  dsimp only at v1 v2 v3 ⊢
  have hlc:lc= []:=List.eq_nil_iff_forall_not_mem.2 fun x hx=>u2 x ((v5 x).1 hx)
  have hsc:sc'=cC:=by
   rcases v3 with ⟨_,h⟩|⟨_,h,_⟩
   ·exact h
   ·exact absurd hlc h
  subst hsc
  have hp9:=u3.frame hund8 v2
  have ho9: ∀ m,m<nx→NoPut H m→H9.at' m=H.at' m:=fun m h1 h2=>(v2 m (by omega)).trans (u6 m h1 h2)
  have ha9:EnAt H9 sa la n5 n8:=u4.frame (Em _) fun m h1 h2 _=>v2 m h2
  clear v2 v3 u3 u4 hund8
  rcases ha9 with ⟨rfl,rfl⟩|⟨ra,w1,rfl,w2,w3,w4⟩
  ·repeat first|refine vU 35 ?_|apply cH;rfl;kernel_rfl;exact lZ _|refine bN (bX (F.un _ rfl) rfl) rfl rfl rfl ?_|apply ig;rfl;rfl|apply rX;rfl;decide|apply bk;rfl
   refine⟨?_⟩
   ((repeat(apply ae;rfl));refine aL rfl rfl rfl (by kernel_rfl) (E1 (rG hp9 u1) ?_);rintro⟨_,HE,nE⟩ ⟨rfl,e8,e9⟩;dsimp only at e8 e9 ⊢;have heo: ∀ m,m<nx→NoPut H m→HE.at' m=H.at' m:=(fun m h1 h2=>(e9 m (by omega)).trans (ho9 m h1 h2));(repeat(first|apply cH;rfl;kernel_rfl;exact lZ _|apply ig;rfl;rfl|apply ae;rfl));(refine aL rfl rfl rfl (by kernel_rfl) (E1 iL ?_);rintro⟨_,Hk,nk⟩ ⟨rfl,z8,z9⟩;dsimp only at z8 z9 ⊢;(repeat(apply ae;rfl));(apply bW Tryz.func5 Tryz.results5;rfl);exact⟨rfl,by first|omega|(dsimp only;omega),fun m h1 h2=>(z9 m (by omega) (h2.same (heo m h1 h2))).trans (heo m h1 h2)⟩))
  ·have hl0:0<la.length:=List.length_pos_iff.2 w1
   have hf:=ff (f:=fB) (sz:=3) (fun _=>rfl) la 0 0 3 hl0 (by decide)
   repeat first|apply cH;rfl;kernel_rfl;exact lZ _|refine bN (bX (F.un _ rfl) rfl) rfl rfl rfl ?_|refine cQ (q:=0) rfl rfl rfl rfl (F.un _ rfl) (F.sz _ rfl) w4 rfl hl0 (Em _) ?_|refine cP (us:=fB la[0]) rfl rfl rfl (F.ag _ rfl) w4 hf rfl (by omega) ?_|apply ig;rfl;rfl|apply w_cT;rfl;omega|apply ae;rfl
   refine aL rfl rfl rfl (by kernel_rfl) (E1 (ji (e:=la[0]) hp9 u1 (by omega) (by omega)) ?_)
   rintro⟨_,HA,nA⟩ ⟨no,mem',bs',left',c',rfl,hS,z1,z2,z3,z4,z5,z6⟩
   dsimp only at z1 z4 z5 ⊢
   have hma:fk la[0]=true:=((y5 _).1 (Ex hl0)).may
   have hno:no=0:=by
    have h6:no≠6:=by have:=hS.kind;rwa [Ey (by decide)] at this
    have h5:=hS.room u2
    have h8:=z6 (by omega)
    rcases hS.nos with h0|h0|h0|h0|h0|h0
    ·exact h0
    ·have:=hS.bad h0;rw [hma] at this;cases this
    ·exact absurd h0 h5
    ·exact absurd h0 h6
    ·exact absurd h0 h8
    ·exact absurd (hS.there h0) (u2 _)
   subst hno
   have hoA: ∀ m,m<nx→NoPut H m→HA.at' m=H.at' m:=fun m h1 h2=>(z5 m (by omega) (by omega) (h2.same (ho9 m h1 h2))).trans (ho9 m h1 h2)
   clear z5 ho9
   repeat first|refine vU 35 ?_|apply cH;rfl;kernel_rfl;exact lZ _|apply ig;rfl;rfl|apply bk;rfl
   refine⟨?_⟩
   ((repeat(apply ae;rfl));refine aL rfl rfl rfl (by kernel_rfl) (E1 (rG z1 hS.ix) ?_);rintro⟨_,HE,nE⟩ ⟨rfl,e8,e9⟩;dsimp only at e8 e9 ⊢;have heo: ∀ m,m<nx→NoPut H m→HE.at' m=H.at' m:=(fun m h1 h2=>(e9 m (by omega)).trans (hoA m h1 h2));(repeat(first|apply cH;rfl;kernel_rfl;exact lZ _|apply ig;rfl;rfl|apply ae;rfl));(refine aL rfl rfl rfl (by kernel_rfl) (E1 iL ?_);rintro⟨_,Hk,nk⟩ ⟨rfl,z8,z9⟩;dsimp only at z8 z9 ⊢;(repeat(apply ae;rfl));(apply bW Tryz.func5 Tryz.results5;rfl);exact⟨rfl,by first|omega|(dsimp only;omega),fun m h1 h2=>(z9 m (by omega) (h2.same (heo m h1 h2))).trans (heo m h1 h2)⟩))
 ·intro join
  rcases y7 with ⟨rfl,rfl⟩|⟨ra,w1,rfl,w2,w3,w4⟩
  ·have hno: ∀ e,¬ HasH mem bs e:=fun e h=>by have:=(y5 e).2 h;simp at this
   repeat apply ae;rfl
   refine br (α:=Nat) (fun _=> [(5,.ptr nx 0),(11,cC),(15,.sc (.int .i64 0))]) (fun _ H8 n8=>H8=H7∧n8=n7) (fun _=>0) 0 ⟨rfl,rfl⟩ (E8 (Gb rfl)) ?_
   rintro _ H8 n8 ⟨h7,h8⟩ _
   rw [h7,h8]
   repeat first|exact join _ _ _ ⟨0,mem,bs,left,c⟩ ⟨i2,hno,hp7,.inl ⟨rfl,rfl⟩,by omega,hK7.old,⟨by dsimp only;omega,by dsimp only;omega⟩,by dsimp only;omega⟩ (E8 (Gb rfl))|refine bN (bX (F.un _ rfl) rfl) rfl rfl rfl ?_|apply rX;rfl;decide|apply bk;rfl
  ·have hra:ra<n7:=by omega
   repeat apply ae;rfl
   refine br (α:=OnS) (fun x=> [(5,.ptr nx 0),(11,.slu ra 0 la.length),(15,.sc (.int .i64 (x.i:Int)))])
    (fun x H8 n8=>x.i≤la.length∧IxH x.mem x.bs∧(∀ e,HasH x.mem x.bs e↔e∈la.drop x.i)∧PgAt H8 nx x.mem x.left x.c∧H8.at' ra=some (AU la)∧nx<n8∧ra<n8∧(∀ m,m<nx→NoPut H m→H8.at' m=H.at' m)∧(-10000-8*(x.i:Int)≤x.left∧x.left ≤ -3)∧x.c≤10000+8*x.i) (fun x=>la.length-x.i) ⟨0,mem,bs,left,c⟩
    ⟨En _,i2,fun e=>(y5 e).symm,hp7,w4,by omega,hra,hK7.old,⟨by dsimp only;omega,by dsimp only;omega⟩,by dsimp only;omega⟩ (E8 (Gb rfl)) ?_
   clear hp7 hK7 w4
   rintro⟨j,memj,bsj,leftj,cj⟩ H8 n8 ⟨u0,u1,u2,u3,u4,u5,u5',u6,⟨u7,u8⟩,u9⟩ ih
   dsimp only at u0 u1 u2 u3 u7 u8 u9 ih ⊢
   repeat apply ae;rfl
   refine bm rfl rfl rfl rfl (fun c9=>?_) (fun c9=>?_)
   ·have hj:j<la.length:=by omega
    have hf:=ff (f:=fB) (sz:=3) (fun _=>rfl) la j 0 3 hj (by decide)
    have hmem:HasH memj bsj la[j]:=(u2 _).2 (by rw [List.drop_eq_getElem_cons hj];exact EG)
    repeat first|refine cQ (q:=j) rfl rfl rfl rfl (F.un _ rfl) (F.sz _ rfl) u4 rfl hj (Em _) ?_|refine cP (us:=fB la[j]) rfl rfl rfl (F.ag _ rfl) u4 hf rfl (by omega) ?_|apply ae;rfl
    refine aL rfl rfl rfl (by kernel_rfl) (E1 (oB (e:=la[j]) u3 u1 (by omega) (by omega)) ?_)
    rintro⟨_,H9,n9⟩ ⟨no,mem',bs',left',c',rfl,hS,z1,z2,z3,z4,z5,z6⟩
    dsimp only at z1 z4 z5 ⊢
    obtain⟨hz0,hz1⟩:=(yc hS (z6 (by omega))).1 hmem
    subst hz0
    have hrow9:H9.at' ra=some (AU la):=(z5 ra u5' (by omega) (dX u4 (by decide))).trans u4
    have hold9: ∀ m,m<nx→NoPut H m→H9.at' m=H.at' m:=fun m h1 h2=>(z5 m (by omega) (by omega) (h2.same (u6 m h1 h2))).trans (u6 m h1 h2)
    clear z5 z6 u3 u4 u6
    repeat first|apply cH;rfl;kernel_rfl;exact lZ _|refine cQ (q:=j) rfl rfl rfl rfl (F.un _ rfl) (F.sz _ rfl) hrow9 rfl hj (Em _) ?_|refine cP (us:=fB la[j]) rfl rfl rfl (F.ag _ rfl) hrow9 hf rfl (by omega) ?_|apply ae;rfl|apply ig;rfl;omega
    refine aL rfl rfl rfl (by kernel_rfl) (E1 (oB (e:=la[j]) z1 hS.ix (by omega) (by omega)) ?_)
    rintro⟨_,HA,nA⟩ ⟨no2,mem2',bs2',left2',c2',rfl,hS2,t1,t2,t3,t4,t5,t6⟩
    dsimp only at t1 t4 t5 ⊢
    obtain⟨hz2,hz3⟩:=(yc hS2 (t6 (by omega))).2 hmem.may hz1
    subst hz2
    have hnd:=mD y4
    have hset: ∀ e,HasH mem2' bs2' e↔e∈la.drop (j+1):=fun e=>by
     rw [hz3]
     by_cases he:e=la[j]
     ·subst he
      refine⟨fun h=>absurd h hz1,fun h=>?_⟩
      rw [← List.take_append_drop (j+1) la,List.nodup_append] at hnd
      exact absurd rfl (hnd.2.2 _ (by rw [List.take_succ_eq_append_getElem hj];exact List.mem_append_right _ EG) _ h)
     ·rw [hS.same e he,u2,List.drop_eq_getElem_cons hj,EN]
      exact⟨fun h=>h.resolve_left he,.inr⟩
    have hrowA:HA.at' ra=some (AU la):=(t5 ra (by omega) (by omega) (dX hrow9 (by decide))).trans hrow9
    have holdA: ∀ m,m<nx→NoPut H m→HA.at' m=H.at' m:=fun m h1 h2=>(t5 m (by omega) (by omega) (h2.same (hold9 m h1 h2))).trans (hold9 m h1 h2)
    clear t5 t6 hrow9 hold9 z1
    repeat first|exact ih _ _ _ ⟨j+1,mem2',bs2',left2',c2'⟩ ⟨hj,hS2.ix,hset,t1,hrowA,by first|omega|(dsimp only;omega),by first|omega|(dsimp only;omega),holdA,⟨by dsimp only;omega,by dsimp only;omega⟩,by dsimp only;omega⟩ (by dsimp only;omega) (E8 (Gb rfl))|apply cH;rfl;kernel_rfl;exact lZ _|apply bk;rfl|apply aB;rfl;omega;omega|apply ig;rfl;omega
    done
   ·obtain rfl:j=la.length:=by omega
    repeat first|exact join _ _ _ ⟨0,memj,bsj,leftj,cj⟩ ⟨u1,fun e h=>by have:=(u2 e).1 h;simp at this,u3,.inr ⟨ra,w1,rfl,w2,u5',u4⟩,u5,u6,⟨by dsimp only;omega,by dsimp only;omega⟩,by dsimp only;omega⟩ (E8 (Gb rfl))|apply bk;rfl
    done
end Go.Proofs.YtelnglhodnoclaaGreat
end
section
namespace Go.Sl
open Go Go.RowKit Go.WideShapes Go.ChangeShapes
theorem post_new{H:Type}{enc:TypeId×Value→H}{P:Program}{f:Func}{s:ChangeSpec}{apart fresh handsOn again:Bool}{W W':World}{args:Array Value}{v:Value}{ds gs:List (DataW H)}{before pa pv:List MemPlace}
 (hW:DataW.Whole enc P f.params.toList s.vars apart W args.toList ds gs before) (hb:Below W.heap.size W W') (hps:before=pa ++ pv)
 (hres: ∀ (b:Nat) (sp:Nat→Bool) (hd:Bool),DataW.TrodAll enc P W' b sp hd f.resultTypes.toList (v.resultList f.resultTypes.size) (s.fn H (ds ++ gs)).results [])
 (hargs: ∀ sp:Nat→Bool,(∀ p∈before,sp p.block=true)→DataW.TrodAll enc P W' 0 sp true f.params.toList args.toList (s.fn H (ds ++ gs)).args pa)
 (hvars: ∀ sp:Nat→Bool,(∀ p∈before,sp p.block=true)→DataW.TrodVars enc P W' sp s.vars (s.fn H (ds ++ gs)).vars pv)
 (hok: ∀ (j:Nat) (t:TypeId) (r:Value),f.resultTypes[j]? =some t→(v.resultList f.resultTypes.size)[j]? =some r→Value.okWide P W' .any 0 t r) :
 s.post enc P f apart fresh handsOn again W args v W':=by
 have hsp: ∀ p∈before,(fun b=>decide (b<W.heap.size)) p.block=true:=fun p hp=>by simpa using hW.lt p hp
 have hmem: ∀ p,p∈pa ++ pv↔p∈before:=fun p=>by rw [hps]
 refine⟨ds,gs,before,[],pa,pv,hW,hres _ _ _,hargs _ hsp,hvars _ hsp,World.keptBut_mono (fun p hp=>⟨hp,?_⟩) (hb.frame (·∈before)),fun _=>?_⟩
 ·have:=(hmem p).2 hp
  rw [List.mem_append] at this
  exact .inr this
 obtain⟨_,_,_,_,_,hz,hn⟩:=id hW
 refine⟨hok,_,_,([] ++ pa) ++ pv,⟨[] ++ pa,pv,trodAll_append (hargs _ (fun _ _=>rfl)) (hres _ _ _),hvars _ (fun _ _=>rfl),rfl,fun b off hp=>?_,fun ha=>?_⟩,fun p hp _=>?_⟩
 ·have hin:MemPlace.cell b off∈before:=(hmem _).1 (by simpa using hp)
  rw [hb.frozen (hW.lt _ hin)]
  exact hz b off hin
 ·have:=hn ha
  rw [hps] at this
  simpa using this
 ·exact(hmem p).1 (by simpa using hp)
end Go.Sl
end
section
namespace Go.Sy
open Go Go.Sl Go.RowKit Go.WideShapes
section
variable {sz:Nat}{A:Type}{v:Value}{w:World}{f:A→List Value}
theorem wB(p:Program)(fits:TypeId→Bool)(d:Nat)(e:TypeId)(count off n:Nat)(h:rowAt p fits d e count off n=true):off≤count*p.cellsOf e:=by
 cases d with
 | zero=>simp [rowAt] at h
 | succ d=>
   unfold rowAt at h
   simp only at h
   split at h
   ·cases h
   ·rename_i hs
    have hdiv:=Nat.div_add_mod off (p.cellsOf e)
    rw [Bool.or_eq_true] at h
    rcases h with h|h
    ·simp only [Ek,beq_iff_eq,EZ] at h
     obtain⟨⟨h1,h2⟩,_⟩:=h
     have:p.cellsOf e*(off / p.cellsOf e)≤p.cellsOf e*count:=Nat.mul_le_mul_left _ (by omega)
     rw [Nat.mul_comm count]
     omega
    ·rw [Ek,EZ] at h
     have hm:=Nat.mod_lt off (Nat.pos_of_ne_zero hs)
     have:p.cellsOf e*(off / p.cellsOf e+1)≤p.cellsOf e*count:=Nat.mul_le_mul_left _ (by omega)
     rw [Nat.mul_add,Nat.mul_one] at this
     rw [Nat.mul_comm count]
     omega
theorem og(p:Program): ∀ (d:Nat) (e:TypeId) (count off:Nat) (u:TypeId) (n:Nat),liesAt p d e count off u n=true→off≤count*p.cellsOf e
 | 0,_,_,_,_,_,h=>by simp [liesAt] at h
 | d+1,e,count,off,u,n,h=>by
   unfold liesAt at h
   rw [Bool.or_eq_true] at h
   rcases h with h|h
   ·exact wB p _ _ e count off n h
   ·split at h
    ·exact og p d e count off _ _ h
    ·cases h
theorem vh{f:Nat→Option A}: ∀ {n:Nat} {l:List A},(List.range n).mapM f=some l→l.length=n∧ ∀ i,i<n→f i=l[i]? :=by
 intro n
 induction n with
 | zero=>intro l h;simp at h;subst h;exact⟨rfl,fun i hi=>by omega⟩
 | succ n ih=>
   intro l h
   rw [List.range_succ,List.mapM_append] at h
   simp only [Option.bind_eq_bind,Option.bind_eq_some_iff] at h
   obtain⟨a,ha,b,hb,hl⟩:=h
   obtain⟨h1,h2⟩:=ih ha
   cases hf:f n with
   | none=>simp [hf] at hb
   | some x=>
     simp [hf] at hb
     subst hb
     simp at hl
     subst hl
     refine⟨by simp [h1],fun i hi=>?_⟩
     rcases EB i n with h|h
     ·rw [Ei (by omega)];exact h2 i h
     ·obtain rfl:i=n:=by omega
      rw [hf,EI (by omega),h1]
      simp
theorem wu{b0:Nat}{H:Type}{enc:TypeId×Value→H}{P:Program}{t e:TypeId}{dd:DataW H}{p:List MemPlace}(ht:P.underlying t=some (.slice e))(hc:P.cellsOf e=sz)(h0:0<sz)
 (hT:DataW.Trod enc P w 0 (fun _=>true) true t v dd p) (hok:Value.okWide P w .any b0 t v) :
 (v = .slice none 0 0)∨ ∃ (b o len cap:Nat) (cs:Array Value) (tt:TypeId) (fz:Nat×Nat),v = .slice (some ⟨b,o,none⟩) len cap∧w.heap[b]? =some (.cells cs tt fz)∧len≤cap∧cap≤maxLen∧o+cap*sz≤cs.size ∧
   ∀ i,i<len→ ∃ us:List Value,us.length=sz∧(∀ j,j<sz→cs[o+i*sz+j]? =us[j]?)∧ ∃ n y,DataW.trod enc P w 0 (fun _=>true) true n e us=some y:=by
 obtain⟨fuel,hT⟩:=hT
 obtain⟨a0,len0,cap0,rfl⟩:=okWide_slice ht hok
 have hcells:(Value.slice a0 len0 cap0).cells.toList= [.slice a0 len0 cap0]:=rfl
 rw [hcells] at hT
 rcases DataW.trod_slice ht hT with ⟨h1,_⟩|⟨a,len,cap,elems,rest,n,_,h1,_,_,h3,h4,h5,h6,h7,_⟩
 ·left
  simpa using h1
 ·right
  simp only [List.cons.injEq,and_true,Value.slice.injEq] at h1
  obtain⟨rfl,rfl,rfl⟩:=h1
  unfold Value.okWide at hok
  rw [ht] at hok
  simp only at hok
  unfold Cell.okWide at hok
  rw [ht] at hok
  simp only at hok
  unfold Cell.ok at hok
  rw [ht] at hok
  simp only at hok
  obtain⟨_,_,_,hsp,row,cells,hsh,hli⟩:=hok
  obtain⟨b,o,sp⟩:=a
  simp only at hsp hsh hli h6 h7
  subst hsp
  unfold World.shape? at hsh
  cases hob:w.heap[b]? with
  | none=>rw [hob] at hsh;cases hsh
  | some ob=>
    rw [hob] at hsh
    cases ob with
    | cells cs tt fz=>
      simp only [D2,Ea] at hsh
      obtain⟨rfl,rfl⟩:=hsh
      have hoff:=og P _ _ _ _ _ _ hli
      have hoff2:o≤cs.size:=Ev hoff (Nat.div_mul_le_self _ _)
      have hcell: ∀ q:Nat,w.cell? ⟨b,q,none⟩=cs[q]? :=fun q=>by simp [World.cell?,hob]
      have hget: ∀ (q:Nat) (us:List Value),w.cells? 0 ((⟨b,o,none⟩:Addr).add (q*P.cellsOf e)) (P.cellsOf e)=some us→us.length=sz∧ ∀ j,j<sz→cs[o+q*sz+j]? =us[j]? :=by
       intro q us hus
       rw [add_plain] at hus
       unfold World.cells? at hus
       rw [Ez (En _)] at hus
       obtain⟨g1,g2⟩:=vh hus
       rw [hc] at g1 g2 hus
       refine⟨g1,fun j hj=>?_⟩
       have:=g2 j hj
       rw [add_plain,hcell] at this
       exact this
      refine⟨b,o,len0,cap0,cs,tt,fz,rfl,hob,h3,h4,?_,fun i hi=>?_⟩
      ·rcases Nat.eq_zero_or_pos cap0 with hz|hz
       ·subst hz;simpa using hoff2
       ·have hlast: ∃ us,w.cells? 0 ((⟨b,o,none⟩:Addr).add ((cap0-1)*P.cellsOf e)) (P.cellsOf e)=some us:=by
         rcases EB (cap0-1) len0 with hl|hl
         ·have h8:=h6 (cap0-1) hl
          rw [D5 (by omega)] at h8
          cases hcs:w.cells? 0 ((⟨b,o,none⟩:Addr).add ((cap0-1)*P.cellsOf e)) (P.cellsOf e)with
          | none=>rw [hcs] at h8;cases h8
          | some us=>exact⟨us,rfl⟩
         ·obtain⟨h9,h10⟩:=h7 trivial
          have h8:=h10 (cap0-1-len0) (by omega)
          rw [D5 (by omega),show len0+(cap0-1-len0)=cap0-1 by omega] at h8
          cases hcs:w.cells? 0 ((⟨b,o,none⟩:Addr).add ((cap0-1)*P.cellsOf e)) (P.cellsOf e)with
          | none=>rw [hcs] at h8;cases h8
          | some us=>exact⟨us,rfl⟩
        obtain⟨us,hus⟩:=hlast
        obtain⟨g1,g2⟩:=hget _ _ hus
        have g3:=g2 (sz-1) (by omega)
        rw [D5 (show sz-1<us.length by omega)] at g3
        have g4:=(Ec.1 g3).1
        have:cap0*sz=(cap0-1)*sz+sz:=by
         conv=>lhs;rw [show cap0=cap0-1+1 by omega,Nat.add_mul,Nat.one_mul]
        omega
      ·have h8:=h6 i hi
       rw [D5 (by omega)] at h8
       cases hcs:w.cells? 0 ((⟨b,o,none⟩:Addr).add (i*P.cellsOf e)) (P.cellsOf e)with
       | none=>rw [hcs] at h8;cases h8
       | some us=>
         rw [hcs] at h8
         simp only [Eu] at h8
         obtain⟨g1,g2⟩:=hget _ _ hcs
         exact⟨us,g1,g2,n,_,h8⟩
    | _=>cases hsh
def iH(w:World):Zone:=⟨fun j=>j<w.heap.size,fun j=>j<w.heap.size,fun _ h=>h⟩
theorem xp(w:World):Kept (iH w) w w:=⟨rfl,rfl,rfl,Em _,fun _ h=>h,fun _ _=>rfl⟩
theorem Ah{w0:World}(h:Kept (iH w0) w0 w):Below w0.heap.size w0 w:=⟨h.os,h.tape,h.output,h.size,fun j hj=>h.block j hj⟩
def jD(sz:Nat):Value→Ent
 | .slice (some a) _ cap=>⟨a.block,a.off,cap,sz,false⟩
 | _=>⟨0,0,0,sz,true⟩
def ArgRow{A:Type}(w:World)(sz:Nat)(f:A→List Value)(v:Value)(l:List A):Prop:=
 (v = .slice none 0 0∧l= [])∨ ∃ (b o len cap:Nat) (cs:Array Value) (tt:TypeId) (fz:Nat×Nat),v = .slice (some ⟨b,o,none⟩) len cap∧w.heap[b]? =some (.cells cs tt fz)∧len=l.length∧len≤cap∧cap≤maxLen∧o+cap*sz≤cs.size ∧
   ∀ i c,l[i]? =some c→ ∀ j,j<sz→cs[o+i*sz+j]? =(f c)[j]?
theorem rP{b0:Nat}{H:Type}{enc:TypeId×Value→H}{P:Program}{t e:TypeId}{dd:DataW H}{p:List MemPlace}(ht:P.underlying t=some (.slice e))(hc:P.cellsOf e=sz)(h0:0<sz)
 (hT:DataW.Trod enc P w 0 (fun _=>true) true t v dd p) (hok:Value.okWide P w .any b0 t v) (hf: ∀ n us y,DataW.trod enc P w 0 (fun _=>true) true n e us=some y→ ∃ a,us=f a): ∃ l:List A,ArgRow w sz f v l:=by
 rcases wu ht hc h0 hT hok with h|⟨b,o,len,cap,cs,tt,fz,h1,h2,h3,h4,h5,h6⟩
 ·exact⟨[],.inl ⟨h,rfl⟩⟩
 ·have hex: ∀ i,i<len→ ∃ a:A,∀ j,j<sz→cs[o+i*sz+j]? =(f a)[j]? :=by
   intro i hi
   obtain⟨us,g1,g2,n,y,g3⟩:=h6 i hi
   obtain⟨a,rfl⟩:=hf n us y g3
   exact⟨a,g2⟩
  refine⟨(List.range len).attach.map (fun i=>Classical.choose (hex i.1 (EU.1 i.2))),.inr ⟨b,o,len,cap,cs,tt,fz,h1,h2,by simp,h3,h4,h5,?_⟩⟩
  intro i c hi j hj
  rw [EP] at hi
  obtain⟨q,hq,rfl⟩:=Eb.1 hi
  have hq1:q.1=i:=by
   obtain⟨hlt,hh⟩:=D6.1 hq
   rw [← hh]
   simp
  have:=Classical.choose_spec (hex q.1 (EU.1 q.2)) j hj
  rw [← hq1]
  exact this
theorem ArgRow.conc{l:List A}(h:ArgRow w sz f v l){e:Env}{b:Nat}(he:e b=some (jD sz v)):(SV.slu b 0 l.length).conc e=some v:=by
 rcases h with ⟨rfl,rfl⟩|⟨b',o,len,cap,cs,tt,fz,rfl,h2,rfl,h3,h4,h5,h6⟩
 ·simp [SV.conc,he,jD,Ent.at]
 ·simp [SV.conc,he,jD,Ent.at]
theorem uk{A:Type}{f:A→List Value}{sz:Nat}(hf: ∀ a,(f a).length=sz): ∀ (l:List A) (i j:Nat),j<sz→(l.flatMap f)[i*sz+j]? =(l[i]?).bind (fun c=>(f c)[j]?)
 | [],i,j,_=>by simp
 | a :: l,0,j,hj=>by
   rw [List.flatMap_cons,Ei (by rw [hf];omega)]
   simp
 | a :: l,i+1,j,hj=>by
   rw [List.flatMap_cons,EI (by rw [hf,Nat.add_mul];omega),hf,show(i+1)*sz+j-sz=i*sz+j by rw [Nat.add_mul];omega,uk hf l i j hj]
   simp
theorem ArgRow.lies{l:List A}(h:ArgRow w sz f v l)(hf: ∀ a,(f a).length=sz)(h0:0<sz)(rt:TypeId)(e:Env):Lies (iH w) w e (dat true l.length sz rt (l.flatMap f)) (jD sz v):=by
 rcases h with ⟨rfl,rfl⟩|⟨b,o,len,cap,cs,tt,fz,rfl,h2,rfl,h3,h4,h5,h6⟩
 ·exact .inr ⟨rfl,rfl,true,rt,_,rfl,h0⟩
 ·refine .inl ⟨rfl,.cells cs tt fz,⟨fun _=>fL h2,fun h=>by cases h⟩,h2,rfl,cs,fz,tt,rfl,h3,h5,h4,(fun h=>by cases h),h0,fun i hi s hs=>?_⟩
  have hs':((l.flatMap f)[i]?).map SV.sc=some s:=hs
  obtain⟨u,hu,rfl⟩:=Eb.1 hs'
  refine⟨u,rfl,?_⟩
  have hdm:=Nat.div_add_mod i sz
  have hm:=Nat.mod_lt i h0
  have e1:i=i / sz*sz+i % sz:=by rw [Nat.mul_comm];omega
  rw [e1,uk hf l _ _ hm] at hu
  obtain⟨c,hc,hcu⟩:=Option.bind_eq_some_iff.1 hu
  have:=h6 (i / sz) c hc (i % sz) hm
  show cs[o+i]? =some u
  rw [e1,←Nat.add_assoc,this]
  exact hcu
theorem St.init{e:Env}{H:aw}{nx:Nat}(h1: ∀ id vo,H.at' id=some vo→vo.ro=true∧ ∃ x,e id=some x∧Lies (iH w) w e vo x)(h2: ∀ i,nx≤i→e i=none):St (iH w) w e H nx w:=
 ⟨xp w,fun id vo h=>(h1 id vo h).2,fun id id' vo vo' x x' h _ _ _ _ _ _ hr _=>by(rw [(h1 id vo h).1] at hr;cases hr),h2⟩
end
end Go.Sy
end
section
namespace Go.Proofs.YtelnglhodnoclaaGreat
open Go Go.Sy Go.ChangeShapes Go.WideShapes Go.ChangeAt Go.RowKit
theorem sL{A:Type}{l:List A}(h:l.length=2): ∃ a b,l= [a,b]:=by
 rcases l with _|⟨a,_|⟨b,_|⟨c,l⟩⟩⟩
 ·simp at h
 ·simp at h
 ·exact⟨a,b,rfl⟩
 ·simp at h
theorem xm{A:Type}{l:List A}(h:l.length=3): ∃ a b c,l= [a,b,c]:=by
 rcases l with _|⟨a,_|⟨b,_|⟨c,_|⟨d,l⟩⟩⟩⟩
 ·simp at h
 ·simp at h
 ·simp at h
 ·exact⟨a,b,c,rfl⟩
 ·simp at h
section
variable {H:Type} {enc:TypeId×Value→H} {P:Program} {w:World} {base:Nat} {sp:Nat→Bool} {held:Bool} {n:Nat} {t:TypeId} {cs:List Value} {y:DataW H×List MemPlace}
theorem jH{k:IntKind}(hu:P.underlying t=some (.int k))(h:DataW.trod enc P w base sp held n t cs=some y): ∃ x,cs= [.int k x]∧(Lit.int k x).wf=true:=by
 cases n with
 | zero=>simp [DataW.trod] at h
 | succ n=>
   unfold DataW.trod at h
   rw [hu] at h
   split at h <;> simp_all
theorem sg(hu:P.underlying t=some .string)(h:DataW.trod enc P w base sp held n t cs=some y): ∃ s,cs= [.string s]:=by
 cases n with
 | zero=>simp [DataW.trod] at h
 | succ n=>
   unfold DataW.trod at h
   rw [hu] at h
   split at h <;> simp_all
end
theorem ownE:ownKnob Tryz.prog.godebug=none:=by kernel_rfl
theorem laidE:laidOutB Tryz.prog=true:=by kernel_rfl
theorem uTid:Tryz.prog.underlying 23=some (.struct (Tryz.prog.fieldsOf 23)):=by kernel_rfl
theorem fTid:(Tryz.prog.fieldsOf 23).toList.map (fun f=>(f.type,f.offset))= [(3,0),(3,1)]:=by kernel_rfl
theorem cInt:Tryz.prog.cellsOf 3=1:=by kernel_rfl
theorem cTid:Tryz.prog.cellsOf 23=2:=by kernel_rfl
theorem cStr:Tryz.prog.cellsOf 9=1:=by kernel_rfl
theorem cEnt:Tryz.prog.cellsOf 25=3:=by kernel_rfl
theorem uEnt:Tryz.prog.underlying 25=some (.struct (Tryz.prog.fieldsOf 25)):=by kernel_rfl
theorem fEnt:(Tryz.prog.fieldsOf 25).toList.map (fun f=>(f.type,f.offset))= [(9,0),(23,1)]:=by kernel_rfl
section
variable {H:Type} {enc:TypeId×Value→H} {w:World} {n:Nat} {us:List Value} {y:DataW H×List MemPlace}
theorem yV(h:DataW.trod enc Tryz.prog w 0 (fun _=>true) true n 23 us=some y): ∃ a b:Int,us= [.int .i64 a,.int .i64 b]:=by
 have hf:=fTid
 have hu:=uTid
 generalize Tryz.prog.fieldsOf 23=fs at hf hu
 obtain⟨xs,m,_,_,hl,hlen,hx⟩:=DataW.trod_struct hu h
 rw [cTid] at hl
 obtain⟨l⟩:=fs
 simp only at hf
 have hl2:l.length=2:=by simpa using congrArg List.length hf
 obtain⟨f0,f1,rfl⟩:=sL hl2
 simp only [Eo,List.map_nil,List.cons.injEq,Ea,and_true] at hf
 obtain⟨⟨a1,a2⟩,⟨b1,b2⟩⟩:=hf
 have hlen2:xs.length=2:=by simpa using hlen
 obtain⟨u0,u1,rfl⟩:=sL hl
 have h0:=hx 0 f0 rfl
 have h1:=hx 1 f1 rfl
 rw [a1,a2,cInt] at h0
 rw [b1,b2,cInt] at h1
 obtain⟨_,g0⟩: ∃ y,DataW.trod enc Tryz.prog w 0 (fun _=>true) true m 3 [u0]=some y:=⟨_,h0.trans (D5 (by omega))⟩
 obtain⟨_,g1⟩: ∃ y,DataW.trod enc Tryz.prog w 0 (fun _=>true) true m 3 [u1]=some y:=⟨_,h1.trans (D5 (by omega))⟩
 obtain⟨a,ha,_⟩:=jH (F.un 3 rfl) g0
 obtain⟨b,hb,_⟩:=jH (F.un 3 rfl) g1
 simp only [List.cons.injEq,and_true] at ha hb
 exact⟨a,b,by rw [ha,hb]⟩
theorem yW(h:DataW.trod enc Tryz.prog w 0 (fun _=>true) true n 25 us=some y): ∃ e:a7,us= [.string e.1,.int .i64 e.2.1,.int .i64 e.2.2]:=by
 have hf:=fEnt
 have hu:=uEnt
 generalize Tryz.prog.fieldsOf 25=fs at hf hu
 obtain⟨xs,m,_,_,hl,hlen,hx⟩:=DataW.trod_struct hu h
 rw [cEnt] at hl
 obtain⟨l⟩:=fs
 simp only at hf
 have hl2:l.length=2:=by simpa using congrArg List.length hf
 obtain⟨f0,f1,rfl⟩:=sL hl2
 simp only [Eo,List.map_nil,List.cons.injEq,Ea,and_true] at hf
 obtain⟨⟨a1,a2⟩,⟨b1,b2⟩⟩:=hf
 have hlen2:xs.length=2:=by simpa using hlen
 obtain⟨u0,u1,u2,rfl⟩:=xm hl
 have h0:=hx 0 f0 rfl
 have h1:=hx 1 f1 rfl
 rw [a1,a2,cStr] at h0
 rw [b1,b2,cTid] at h1
 obtain⟨_,g0⟩: ∃ y,DataW.trod enc Tryz.prog w 0 (fun _=>true) true m 9 [u0]=some y:=⟨_,h0.trans (D5 (by omega))⟩
 obtain⟨_,g1⟩: ∃ y,DataW.trod enc Tryz.prog w 0 (fun _=>true) true m 23 [u1,u2]=some y:=⟨_,h1.trans (D5 (by omega))⟩
 obtain⟨s,hs⟩:=sg (F.un 9 rfl) g0
 obtain⟨a,b,hab⟩:=yV g1
 simp only [List.cons.injEq,and_true] at hs hab
 obtain⟨rfl,rfl⟩:=hab
 subst hs
 exact⟨(s,a,b),rfl⟩
end
end Go.Proofs.YtelnglhodnoclaaGreat
end
