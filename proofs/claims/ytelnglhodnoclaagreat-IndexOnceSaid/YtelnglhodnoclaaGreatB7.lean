import Derived.Test.YtelnglhodnoclaaGreatB6
set_option linter.unusedVariables false
set_option linter.unusedSimpArgs false
set_option maxRecDepth 100000
set_option maxHeartbeats 0
section
namespace Go.Proofs.YtelnglhodnoclaaGreat
open Go Go.Sy Go.Sl Go.RowKit
section
variable {a i n o s:Nat}{p:List UInt8}
theorem jj{q:List UInt8}{m:Nat}(h: ∀ i,o≤i→i<o+m→q[i]? =p[i]?):(q.drop o).take m=(p.drop o).take m:=by
 refine ET fun j=>?_
 rw [List.getElem?_take,List.getElem?_take]
 split
 ·rw [List.getElem?_drop,List.getElem?_drop]
  exact h _ (by omega) (by omega)
 ·rfl
theorem wR{l:List UInt8}(h:o+l.length≤p.length):((eJ p o l).drop o).take l.length=l:=by
 refine ET fun j=>?_
 rw [List.getElem?_take]
 split
 ·rw [List.getElem?_drop,kg h,Ez (by omega),show o+j-o=j by omega]
 ·rw [EW (by omega)]
theorem mI{l:List UInt8}(h:o+l.length≤p.length)(hi:i<o∨o+l.length≤i):(eJ p o l)[i]? =p[i]? :=by
 rw [kg h,Ey (by omega)]
theorem fE(h:o+2≤p.length)(hi:i<o∨o+2≤i):(fi p o n)[i]? =p[i]? :=
 mI (by rw [ej];exact h) (by rw [ej];exact hi)
theorem iF(h:18+4*n+4≤p.length)(hi:i<18+4*n∨18+4*n+4≤i):(bP p n a s)[i]? =p[i]? :=by
 unfold bP
 rw [fE (by rw [cc (by omega)];omega) (by omega),fE (by omega) (by omega)]
theorem dz(h:18+4*n+4≤p.length)(ho:o+2≤18+4*n∨18+4*n+4≤o):gL (bP p n a s) o=gL p o:=
 iI fun i h1 h2=>iF h (by omega)
theorem lg(h:18+4*n+4≤p.length)(ha:a<65536):aY (bP p n a s) n=a:=by
 unfold bP
 exact(cy (by rw [cc (by omega)];omega) (by omega)).trans (eK (by omega) ha)
theorem ld(h:18+4*n+4≤p.length)(hs:s<65536):aG (bP p n a s) n=s:=by
 unfold bP
 exact eK (by rw [cc (by omega)];omega) hs
theorem lO(p:List UInt8): ∀ k n,(∀ j,n≤j→j<dQ p k n→aG p j≠0)∧(dQ p k n<n+k→aG p (dQ p k n)=0)∧n≤dQ p k n∧dQ p k n≤n+k
 | 0,n=>⟨fun j h1 h2=>absurd (show j<n from h2) (by omega),fun h=>absurd (show n<n+0 from h) (by omega),Em _,Em _⟩
 | k+1,n=>by
   unfold dQ
   split
   ·rename_i h
    exact⟨fun j h1 h2=>absurd h1 (by omega),fun _=>h,Em _,by omega⟩
   ·rename_i h
    have ih:=lO p k (n+1)
    refine⟨fun j h1 h2=>?_,fun h1=>ih.2.1 (by omega),by omega,by omega⟩
    rcases EB n j with h3|h3
    ·exact ih.1 j (by omega) h2
    ·obtain rfl:j=n:=by omega
     exact h
theorem jT(p:List UInt8):(∀ j,j<a8 p→aG p j≠0)∧(a8 p<aj p→aG p (a8 p)=0)∧a8 p≤aj p:=by
 have:=lO p (aj p) 0
 unfold a8
 exact⟨fun j hj=>this.1 j (En _) hj,fun h=>this.2.1 (by omega),by omega⟩
abbrev gV(p:List UInt8):Nat:=if a8 p=aj p then aj p+1 else aj p
theorem xf(hp:p.length=1024):(gt p).length=1024:=by
 unfold gt
 split
 ·rw [cc (by omega),hp]
 ·exact hp
theorem mV(hp:p.length=1024)(ho:o+2≤14∨16≤o):gL (gt p) o=gL p o:=by
 unfold gt
 split
 ·exact cy (by omega) (by omega)
 ·rfl
theorem xg(hp:p.length=1024)(hi:i<14∨16≤i):(gt p)[i]? =p[i]? :=by
 unfold gt
 split
 ·exact fE (by omega) (by omega)
 ·rfl
theorem sG(hp:p.length=1024)(hs:aj p<1000):aj (gt p)=gV p:=by
 unfold gt gV
 split
 ·rename_i h
  rw [show aj (fi p 14 (a8 p+1))=a8 p+1 from eK (by omega) (by omega),h]
 ·rfl
end
structure Laid (p it q:List UInt8):Prop where
 len:q.length=1024
 slots:aj q=gV p
 begins:aM q=aM p-it.length
 froms:aY q (a8 p)=aM p-it.length
 sizes:aG q (a8 p)=it.length
 from': ∀ j,j≠a8 p→j<aj p→aY q j=aY p j
 size': ∀ j,j≠a8 p→j<aj p→aG q j=aG p j
 item:(q.drop (aM p-it.length)).take it.length=it
 get: ∀ i,i<14∨aM p≤i→q[i]? =p[i]?
theorem laid{p it:List UInt8}(h:Okp p)(h2:it.length≤1000)(hroom:it.length≤ke p)(h1:1≤it.length):Laid p it (nP p it):=by
 have hp:=h.len
 have hh:=h.head
 have ht:=h.top
 have he:=(jT p).2.2
 have hmb:aM (gt p)=aM p:=mV hp (by omega)
 have hms:=sG hp (by omega)
 have hml:=xf hp
 unfold ke at hroom
 have ha:18+4*gV p+it.length≤aM p∧a8 p<gV p:=by unfold gV;split at hroom <;> split <;> omega
 obtain⟨ha,hee⟩:=ha
 have hl2:(bP (gt p) (a8 p) (aM p-it.length) it.length).length=1024:=(fK (by omega)).trans hml
 have hl3:(fi (bP (gt p) (a8 p) (aM p-it.length) it.length) 16 (aM p-it.length)).length=1024:=(cc (by omega)).trans hl2
 have hl: ∀ o,o+2≤aM p-it.length→gL (nP p it) o=gL (fi (bP (gt p) (a8 p) (aM p-it.length) it.length) 16 (aM p-it.length)) o:=fun o ho=>by
  unfold nP
  rw [hmb]
  exact py (by omega) (by omega)
 have ho: ∀ o,o+2≤aM p-it.length→(o+2≤16∨18≤o)→gL (nP p it) o=gL (bP (gt p) (a8 p) (aM p-it.length) it.length) o:=fun o ho h3=>(hl o ho).trans (cy (by omega) (by omega))
 have hmany:aj p≤gV p:=by unfold gV;split <;> omega
 refine⟨?_,?_,?_,?_,?_,fun j h3 h4=>?_,fun j h3 h4=>?_,?_,fun i hi=>?_⟩
 ·unfold nP
  rw [hmb,eI (by omega),hl3]
 ·exact(ho 14 (by omega) (by omega)).trans ((dz (by omega) (by omega)).trans hms)
 ·exact(hl 16 (by omega)).trans (eK (by omega) (by omega))
 ·exact(ho _ (by omega) (by omega)).trans (lg (by omega) (by omega))
 ·exact(ho _ (by omega) (by omega)).trans (ld (by omega) (by omega))
 ·exact(ho _ (by omega) (by omega)).trans ((dz (by omega) (by omega)).trans (mV hp (by omega)))
 ·exact(ho _ (by omega) (by omega)).trans ((dz (by omega) (by omega)).trans (mV hp (by omega)))
 ·unfold nP
  rw [hmb]
  exact wR (by omega)
 ·unfold nP
  rw [hmb,mI (by omega) (by omega),fE (by omega) (by omega),iF (by omega) (by omega),xg hp (by omega)]
theorem Laid.ok{p it q:List UInt8}(h:Okp p)(h2:it.length≤1000)(hroom:it.length≤ke p)(h1:1≤it.length)(g:Laid p it q):Okp q:=by
 have hh:=h.head
 have ht:=h.top
 obtain⟨he1,he2,he3⟩:=jT p
 unfold ke at hroom
 have ha:18+4*gV p+it.length≤aM p∧a8 p<gV p:=by unfold gV;split at hroom <;> split <;> omega
 have hm: ∀ j,j<gV p→j=a8 p∨j≠a8 p∧j<aj p:=fun j hj=>by unfold gV at hj;split at hj <;> omega
 have gb:=g.begins
 have gs:=g.slots
 refine⟨g.len,by omega,by omega,fun hpos=>?_,fun j hj=>?_,fun i j hij hj hzi hzj=>?_⟩
 ·rw [gs]
  rcases hm (gV p-1) (by omega)with h3|⟨h3,h4⟩
  ·rw [h3,g.sizes];omega
  ·rw [g.size' _ h3 h4]
   have:gV p=aj p:=by
    by_cases hc:a8 p=aj p
    ·unfold gV at h3 h4
     rw [Ez hc] at h3 h4
     omega
    ·unfold gV
     rw [Ey hc]
   rw [this]
   exact h.last (by omega)
 ·rcases hm j (by omega)with h3|⟨h3,h4⟩
  ·subst h3
   rw [g.froms,g.sizes,gb]
   omega
  ·rw [g.from' _ h3 h4,g.size' _ h3 h4,gb]
   have:=h.slot j h4
   omega
 ·rcases hm i (by omega)with h3|⟨h3,h4⟩
  ·subst h3
   rcases hm j (by omega)with h5|⟨h5,h6⟩
   ·omega
   ·rw [g.froms,g.sizes,g.from' _ h5 h6,g.size' _ h5 h6]
    rw [g.size' _ h5 h6] at hzj
    have:=h.slot j h6
    omega
  ·rw [g.size' _ h3 h4] at hzi
   rw [g.from' _ h3 h4,g.size' _ h3 h4]
   have h7:=h.slot i h4
   rcases hm j (by omega)with h5|⟨h5,h6⟩
   ·subst h5
    rw [g.froms,g.sizes]
    omega
   ·rw [g.size' _ h5 h6] at hzj
    rw [g.from' _ h5 h6,g.size' _ h5 h6]
    exact h.apart i j hij h6 hzi hzj
theorem Laid.items{p it q:List UInt8}(h:Okp p)(g:Laid p it q):cd q (a8 p)=it∧ ∀ j,j≠a8 p→j<aj p→aG p j≠0→cd q j=cd p j:=by
 refine⟨?_,fun j h3 h4 h5=>?_⟩
 ·unfold cd
  rw [g.froms,g.sizes,g.item]
 ·unfold cd
  rw [g.from' _ h3 h4,g.size' _ h3 h4]
  have:=h.slot j h4
  exact jj fun i h6 h7=>g.get i (by omega)
def cw(p:List UInt8):Nat→List UInt8
 | 0=>eJ zeroP 0 (p.take (18+4*aj p))
 | n+1=>if aG p n=0 then cw p n else bP (eJ (cw p n) (1024-cg p (n+1)) (cd p n)) n (1024-cg p (n+1)) (aG p n)
def fY(p:List UInt8):List UInt8:=fi (cw p (aj p)) 16 (1024-cg p (aj p))
def eU(p:List UInt8):List UInt8×Nat:=if cr p=true then(fY p,0) else(zeroP,4)
structure PackN (p:List UInt8) (n:Nat) (q:List UInt8):Prop where
 len:q.length=1024
 low: ∀ i,i<18→q[i]? =p[i]?
 from': ∀ j,j<n→aG p j≠0→aY q j=1024-cg p (j+1)
 size': ∀ j,j<n→aG p j≠0→aG q j=aG p j
 fromE: ∀ j,j<aj p→n≤j∨aG p j=0→aY q j=aY p j
 sizeE: ∀ j,j<aj p→n≤j∨aG p j=0→aG q j=aG p j
 item: ∀ j,j<n→aG p j≠0→(q.drop (1024-cg p (j+1))).take (aG p j)=cd p j
 zero: ∀ i,18+4*aj p≤i→i<1024-cg p n→q[i]? =some 0
theorem zx{p:List UInt8}(h:Okp p): ∀ n,n≤aj p→PackN p n (cw p n)
 | 0,_=>by
   have hp:=h.len
   have hh:=h.head
   have ht:=h.top
   have hl:(p.take (18+4*aj p)).length=18+4*aj p:=by rw [EC];omega
   have hz:=ac
   have hg: ∀ i,i<18+4*aj p→(cw p 0)[i]? =p[i]? :=fun i hi=>by
    show(eJ zeroP 0 _)[i]? =_
    rw [kg (by omega),Ez (by omega),Nat.sub_zero,List.getElem?_take,Ez hi]
   refine⟨(eI (by omega)).trans hz,fun i hi=>hg i (by omega),fun j hj=>absurd hj (Nat.not_lt_zero _),fun j hj=>absurd hj (Nat.not_lt_zero _),fun j hj _=>iI fun i h1 h2=>hg i (by omega),fun j hj _=>iI fun i h1 h2=>hg i (by omega),fun j hj=>absurd hj (Nat.not_lt_zero _),fun i h1 h2=>?_⟩
   show(eJ zeroP 0 _)[i]? =_
   rw [mI (by omega) (by omega)]
   have h2:i<1024:=by have:cg p 0=0:=rfl;omega
   unfold zeroP
   rw [List.getElem?_replicate,Ez h2]
 | n+1,hn=>by
   have ih:=zx h n (by omega)
   have hh:=h.head
   have ht:=h.top
   have hs1:=h.sum_le
   have hs2:=ew p (show n+1≤aj p from hn)
   have hs3:cg p (n+1)=cg p n+aG p n:=rfl
   by_cases hz:aG p n=0
   ·have hq:cw p (n+1)=cw p n:=by show(if _ then _ else _)=_;rw [Ez hz]
    rw [hq]
    have hlt: ∀ {j},j<n+1→aG p j≠0→j<n:=fun {j} h1 h2=>by
     rcases EB j n with h3|h3
     ·exact h3
     ·obtain rfl:j=n:=by omega
      exact absurd hz h2
    refine⟨ih.len,ih.low,fun j h1 h2=>ih.from' j (hlt h1 h2) h2,fun j h1 h2=>ih.size' j (hlt h1 h2) h2,fun j h1 h2=>ih.fromE j h1 (by omega),fun j h1 h2=>ih.sizeE j h1 (by omega),fun j h1 h2=>ih.item j (hlt h1 h2) h2,fun i h1 h2=>ih.zero i h1 (by omega)⟩
   ·have hsl:=h.slot n (by omega)
    have hil:=kB h.len (p:=p) (j:=n) (by omega)
    have hq:cw p (n+1)=bP (eJ (cw p n) (1024-cg p (n+1)) (cd p n)) n (1024-cg p (n+1)) (aG p n):=by show(if _ then _ else _)=_;rw [Ey hz]
    have hql:=ih.len
    have hl1:(eJ (cw p n) (1024-cg p (n+1)) (cd p n)).length=1024:=(eI (by omega)).trans hql
    have hno: ∀ o,o+2≤18+4*aj p→o+2≤18+4*n∨18+4*n+4≤o→gL (cw p (n+1)) o=gL (cw p n) o:=fun o h1 h2=>by
     rw [hq]
     exact(dz (by omega) h2).trans (py (by omega) (by omega))
    have hge: ∀ i,(i<18+4*n∨18+4*n+4≤i)→(i<1024-cg p (n+1)∨1024-cg p n≤i)→(cw p (n+1))[i]? =(cw p n)[i]? :=fun i h1 h2=>by
     rw [hq,iF (by omega) h1,mI (by omega) (by omega)]
    have hfr:aY (cw p (n+1)) n=1024-cg p (n+1):=by rw [hq];exact lg (by omega) (by omega)
    have hsz:aG (cw p (n+1)) n=aG p n:=by rw [hq];exact ld (by omega) (by omega)
    refine⟨by rw [hq,fK (by omega),hl1],fun i hi=>(hge i (by omega) (by omega)).trans (ih.low i hi),fun j h1 h2=>?_,fun j h1 h2=>?_,fun j h1 h2=>?_,fun j h1 h2=>?_,fun j h1 h2=>?_,fun i h1 h2=>?_⟩
    ·rcases EB j n with h3|h3
     ·exact(hno _ (by omega) (by omega)).trans (ih.from' j h3 h2)
     ·obtain rfl:j=n:=by omega
      exact hfr
    ·rcases EB j n with h3|h3
     ·exact(hno _ (by omega) (by omega)).trans (ih.size' j h3 h2)
     ·obtain rfl:j=n:=by omega
      exact hsz
    ·have:j≠n:=fun h3=>by subst h3;omega
     exact(hno _ (by omega) (by omega)).trans (ih.fromE j h1 (by omega))
    ·have:j≠n:=fun h3=>by subst h3;omega
     exact(hno _ (by omega) (by omega)).trans (ih.sizeE j h1 (by omega))
    ·rcases EB j n with h3|h3
     ·rw [← ih.item j h3 h2]
      have h4:=ew p (show j+1≤n by omega)
      have h5:cg p (j+1)=cg p j+aG p j:=rfl
      exact jj fun i h6 h7=>hge i (by omega) (by omega)
     ·obtain rfl:j=n:=by omega
      rw [hq]
      have h4:=wR (p:=cw p j) (o:=1024-cg p (j+1)) (l:=cd p j) (by omega)
      rw [hil] at h4
      refine Eq.trans ?_ h4
      exact jj fun i h6 h7=>iF (by omega) (by omega)
    ·exact(hge i (by omega) (by omega)).trans (ih.zero i h1 (by omega))
structure Packed (p q:List UInt8):Prop where
 len:q.length=1024
 low: ∀ i,i<16→q[i]? =p[i]?
 slots:aj q=aj p
 begins:aM q=1024-cg p (aj p)
 froms: ∀ j,j<aj p→aY q j=if aG p j=0 then 0 else 1024-cg p (j+1)
 sizes: ∀ j,j<aj p→aG q j=aG p j
 item: ∀ j,j<aj p→aG p j≠0→cd q j=cd p j
section
variable {p q:List UInt8}
theorem AI(h:Okp p):Packed p (fY p):=by
 have g:=zx h _ (Em _)
 have hl:=g.len
 have hh:=h.head
 have ht:=h.top
 have hs1:=h.sum_le
 unfold fY
 have hno: ∀ o,o+2≤16∨18≤o→gL (fi (cw p (aj p)) 16 (1024-cg p (aj p))) o=gL (cw p (aj p)) o:=fun o ho=>cy (by omega) (by omega)
 have hfr: ∀ j,j<aj p→aY (fi (cw p (aj p)) 16 (1024-cg p (aj p))) j=if aG p j=0 then 0 else 1024-cg p (j+1):=fun j hj=>by
  refine(hno _ (by omega)).trans ?_
  split
  ·rename_i h1
   refine(g.fromE j hj (.inr h1)).trans ?_
   have:=h.slot j hj
   omega
  ·rename_i h1
   exact g.from' j hj h1
 have hsz: ∀ j,j<aj p→aG (fi (cw p (aj p)) 16 (1024-cg p (aj p))) j=aG p j:=fun j hj=>by
  refine(hno _ (by omega)).trans ?_
  by_cases h1:aG p j=0
  ·exact g.sizeE j hj (.inr h1)
  ·exact g.size' j hj h1
 refine⟨(cc (by omega)).trans hl,fun i hi=>(fE (by omega) (by omega)).trans (g.low i (by omega)),(hno 14 (by omega)).trans (iI fun i h1 h2=>g.low i (by omega)),eK (by omega) (by omega),hfr,hsz,fun j hj hz=>?_⟩
 unfold cd
 rw [hfr j hj,hsz j hj,Ey hz]
 have h4:=ew p (show j+1≤aj p by omega)
 refine Eq.trans ?_ (g.item j hj hz)
 exact jj fun i h6 h7=>fE (by omega) (by omega)
theorem Packed.ok(h:Okp p)(g:Packed p q):Okp q:=by
 have hh:=h.head
 have ht:=h.top
 have hs1:=h.sum_le
 have gs:=g.slots
 have gb:=g.begins
 refine⟨g.len,by omega,by omega,fun hpos=>?_,fun j hj=>?_,fun i j hij hj hzi hzj=>?_⟩
 ·rw [gs,g.sizes _ (by omega)]
  exact h.last (by omega)
 ·have h1:=h.slot j (by omega)
  have h4:=ew p (show j+1≤aj p by omega)
  have h5:cg p (j+1)=cg p j+aG p j:=rfl
  rw [g.froms j (by omega),g.sizes j (by omega),gb]
  split <;> omega
 ·rw [g.sizes i (by omega)] at hzi
  rw [g.sizes j (by omega)] at hzj
  rw [g.froms i (by omega),g.sizes i (by omega),g.froms j (by omega),g.sizes j (by omega),Ey hzi,Ey hzj]
  have h4:=ew p (show i+1≤j by omega)
  have h5:cg p (j+1)=cg p j+aG p j:=rfl
  have h6:=ew p (show j+1≤aj p by omega)
  exact .inr (by omega)
theorem oy{p q:List UInt8}: ∀ {k n},(∀ j,n≤j→j<n+k→aG q j=aG p j)→dQ q k n=dQ p k n
 | 0,_,_=>rfl
 | k+1,n,h=>by
   unfold dQ
   rw [h n (Em _) (by omega),oy fun j h1 h2=>h j (by omega) (by omega)]
theorem Packed.empty(g:Packed p q):a8 q=a8 p:=by
 unfold a8
 rw [g.slots]
 exact oy fun j _ h2=>g.sizes j (by omega)
abbrev bs0:List Bn.El:= [(5,cn)]
theorem ki{mem x:List UInt8}{a b:Nat}(ha:1024*a+1024≤mem.length)(hx:x.length=1024):aQ (bQ mem a x) b=if b=a then x else aQ mem b:=by
 unfold aQ bQ
 by_cases h:b=a
 ·rw [Ez h,h]
  have:=wR (p:=mem) (o:=1024*a) (l:=x) (by omega)
  rwa [hx] at this
 ·rw [Ey h]
  exact jj fun i h1 h2=>mI (by omega) (by omega)
theorem AD:gr root0=some bs0:=by kernel_rfl
theorem Du:eL lp0 bs0 0=some ([],[]):=by kernel_rfl
theorem Dt:eL lp1 bs0 0=some ([(eB1,0)],[]):=by kernel_rfl
theorem Ds:eL lp2 bs0 0=some ([(eA0,1),(eB1,0)],[]):=by kernel_rfl
theorem tZ:eL lp3 bs0 0=some ([(eA0,1),(eB9,2),(eB1,0)],[]):=by kernel_rfl
theorem Db:fD [(eA0,1),(eB9,2),(eB1,0)] eC0=none:=by kernel_rfl
theorem len1:lp1.length=1024:=by kernel_rfl
theorem len2:lp2.length=1024:=by kernel_rfl
theorem len3:lp3.length=1024:=by kernel_rfl
def dT(p:List UInt8):Nat→Nat
 | 0=>0
 | m+1=>if aG p m=0 then dT p m else m+1
def sU(p:List UInt8):List UInt8:=if dT p (aj p)=0 then fi (fi p 14 (dT p (aj p))) 16 1024 else fi p 14 (dT p (aj p))
def eg(p:List UInt8)(n:Nat):List UInt8×Nat:=
 if cr p=false then(zeroP,4) else if(kE p n).2.2≠0 then(zeroP,(kE p n).2.2) else(sU (bP p n 0 0),0)
theorem DI{H:aw}{nx n:Nat}(hp:p.length=1024):Fnc Tryz.prog 41 [.agg (pgS p),.sc (.int .i64 (n:Int))] H nx (fun q=>q.1=pgE (eg p n)∧nx≤q.2.2∧ ∀ m,m<nx→q.2.1.at' m=H.at' m):=by
 refine E2 Tryz.func41 rfl rfl ?_
 refine a9 fun hund=>?_
 repeat first|refine eR (aW dN) rfl rfl rfl ?_|apply ae;rfl
 have hb1:((H.set nx (pgO p)).set (nx+1) (pgO zeroP)).at' nx=some (pgO p):=by repeat(first|exact ah|refine aa (by omega) ?_)
 have hz1:((H.set nx (pgO p)).set (nx+1) (pgO zeroP)).at' (nx+1)=some (pgO zeroP):=by repeat(exact ah)
 have ho1: ∀ m,m<nx→((H.set nx (pgO p)).set (nx+1) (pgO zeroP)).at' m=H.at' m:=fun m hm=>by(repeat(refine aa (by omega) ?_));rfl
 generalize (H.set nx (pgO p)).set (nx+1) (pgO zeroP)=H1 at hb1 hz1 ho1 ⊢
 cases hr:cr p with
 | false=>
   have hv:eg p n=(zeroP,4):=by unfold eg;rw [Ez hr]
   have hrs:=fun nx=>jI (nx:=nx) hb1 hp
   rw [hr] at hrs
   repeat first|apply cx ac ac;rfl;assumption|apply ae;rfl|apply cH;rfl;kernel_rfl;exact hrs _|refine cv rfl rfl f9 ?_
   ((apply bv Tryz.func41 (congrArg Array.toList Tryz.results41));(focus((apply E4 rfl (E6 (F.ag _ rfl) (by repeat(exact ah)) (bH ac)));(repeat(first|exact E3|apply E5 rfl)))))
   exact⟨by rw [hv];rfl,by dsimp only;omega,fun m hm=>(ab _ _ (by omega)).trans (ho1 m hm)⟩
 | true=>
   have hf:=eY hp hr
   have hrs:=fun nx=>jI (nx:=nx) hb1 hp
   rw [hr] at hrs
   repeat first|apply ae;rfl|apply cH;rfl;kernel_rfl;exact hrs _
   refine bm rfl rfl rfl rfl (fun hq=>absurd hq (by omega)) (fun _=>?_)
   repeat first|apply ae;rfl|apply cH;rfl;kernel_rfl;exact DE hb1 hf
   refine ga rfl rfl rfl rfl (fun h1=>?_) (fun h1=>?_)
   ·have hv:eg p n=(zeroP,(kE p n).2.2):=by unfold eg;rw [Ey (by rw [hr];decide),Ez (by omega)]
    repeat first|apply cx ac ac;rfl;assumption|apply ae;rfl|refine cv rfl rfl f9 ?_
    ((apply bv Tryz.func41 (congrArg Array.toList Tryz.results41));(focus((apply E4 rfl (E6 (F.ag _ rfl) (by repeat(exact ah)) (bH ac)));(repeat(first|exact E3|apply E5 rfl)))))
    exact⟨by rw [hv];rfl,by dsimp only;omega,fun m hm=>(ab _ _ (by omega)).trans (ho1 m hm)⟩
   ·have hv:eg p n=(sU (bP p n 0 0),0):=by unfold eg;rw [Ey (by rw [hr];decide),Ey (by omega)]
    have hn:n<aj p:=by
     rcases EB n (aj p)with h|h
     ·exact h
     ·exfalso
      have:(kE p n).2.2=6:=by unfold kE;rw [Ez h]
      omega
    have hf1:=hf.2.1
    have hf2:=hf.2.2
    repeat apply ae;rfl
    refine aL rfl rfl rfl (by kernel_rfl) (E1 (pg hb1 hp (n:=n) (a:=0) (s:=0) (by omega) (by omega) (by omega)) ?_)
    rintro⟨_,H2,n2⟩ ⟨rfl,q2,q3,q4⟩
    dsimp only at q2 q3 q4 ⊢
    have hp1:(bP p n 0 0).length=1024:=by rw [fK (by omega)];exact hp
    have hsl:aj (bP p n 0 0)=aj p:=by
     unfold bP
     rw [show aj (fi (fi p (18+4*n) 0) (18+4*n+2) 0)=gL (fi (fi p (18+4*n) 0) (18+4*n+2) 0) 14 from rfl,cy (by rw [cc (by omega)];omega) (by omega),cy (by omega) (by omega)]
    have k2: ∀ m,m<nx→H2.at' m=H.at' m:=fun m hm=>(q4 m (by omega) (by omega)).trans (ho1 m hm)
    have hz2:H2.at' (nx+1)=some (pgO zeroP):=(q4 _ (by omega) (by omega)).trans hz1
    have hb0: ∀ {vo:VO},(H2.set n2 vo).at' nx=some (pgO (bP p n 0 0)):=fun {vo}=>(ab _ _ (by omega)).trans q2
    generalize bP p n 0 0=p1 at hv q2 hp1 hsl hb0 ⊢
    repeat first|apply ae;rfl|apply cH;rfl;kernel_rfl;exact kD|apply cH;rfl;kernel_rfl;exact gP hb0 hp1
    refine br (α:=Nat) (fun m=> [(2,.ptr nx 0),(4,.ptr (nx+1) 0),(9,Cg n2),(10,.sc (.int .i64 (m:Int)))])
     (fun m H3 n3=>n3=n2+1∧m≤aj p1∧dT p1 m=dT p1 (aj p1)∧H3=H2.set n2 (zU nx)) (fun m=>m) (aj p1)
     ⟨rfl,Em _,rfl,rfl⟩ (E8 (Gb rfl)) ?_
    rintro m H3 n3 ⟨rfl,h3,h4,rfl⟩ ih
    repeat apply ae;rfl
    refine dS rfl rfl rfl rfl (fun h5=>?_) (fun h5=>?_)
    ·obtain⟨k,rfl⟩: ∃ k,m=k+1:=⟨m-1,by omega⟩
     repeat first|apply ae;rfl|apply aB;rfl;omega;omega
     rw [show(((k+1:Nat)):Int)-1=(k:Int) by omega]
     refine jG rfl rfl rfl rfl (by kernel_rfl) (E1 (mv (au _ _ _) hb0 hp1 (n:=k) (by omega)) ?_)
     rintro _ rfl
     dsimp only
     repeat apply ae;rfl
     refine ga rfl rfl rfl rfl (fun e1=>?_) (fun e1=>?_)
     ·have hM:dT p1 (aj p1)=k+1:=by rw [← h4];show(if aG p1 k=0 then dT p1 k else k+1)=_;rw [Ey (by omega)]
      have hcut:sU p1=fi p1 14 (k+1):=by unfold sU;rw [hM,Ey (by omega)]
      repeat apply ae;rfl
      refine aL rfl rfl rfl (by kernel_rfl) (E1 (nK hb0 hp1 (o:=14) (n:=k+1) (by decide) (by omega)) ?_)
      rintro⟨_,H4,n4⟩ ⟨rfl,r2,r3,r4⟩
      dsimp only at r2 r3 r4 ⊢
      have hz4:H4.at' (nx+1)=some (pgO zeroP):=(r4 _ (by omega) (by omega)).trans ((ab _ _ (by omega)).trans hz2)
      have hp4:(fi p1 14 (k+1)).length=1024:=by rw [cc (by omega)];exact hp1
      have k4: ∀ m,m<nx→H4.at' m=H.at' m:=fun m hm=>(r4 m (by omega) (by omega)).trans ((ab _ _ (by omega)).trans (k2 m hm))
      generalize fi p1 14 (k+1)=pL at hcut r2 hp4
      repeat apply ae;rfl
      refine cE rfl rfl rfl rfl (fun hq=>absurd hq (by omega)) (fun _=>?_)
      repeat first|apply dc hp4;rfl;assumption|apply cx hp4 ac;rfl;assumption|apply ae;rfl
      ((apply bv Tryz.func41 (congrArg Array.toList Tryz.results41));(focus((apply E4 rfl (E6 (F.ag _ rfl) (by repeat(exact ah)) (bH hp4)));(repeat(first|exact E3|apply E5 rfl)))))
      exact⟨by rw [hv,hcut];rfl,by dsimp only;omega,fun m hm=>(ab _ _ (by omega)).trans (k4 m hm)⟩
     ·have hk:dT p1 k=dT p1 (aj p1):=by rw [← h4];show _=(if aG p1 k=0 then dT p1 k else k+1);rw [Ez (by omega)]
      repeat first|apply ae;rfl|apply aB;rfl;omega;omega
      rw [show(((k+1:Nat)):Int)-1=(k:Int) by omega]
      exact ih _ _ _ k ⟨rfl,by omega,hk,rfl⟩ (by omega) (E8 (Gb rfl))
    ·obtain rfl:m=0:=by omega
     have hM:dT p1 (aj p1)=0:=h4.symm
     have hcut:sU p1=fi (fi p1 14 0) 16 1024:=by unfold sU;rw [hM,Ez rfl]
     repeat apply ae;rfl
     refine aL rfl rfl rfl (by kernel_rfl) (E1 (nK hb0 hp1 (o:=14) (n:=0) (by decide) (by omega)) ?_)
     rintro⟨_,H4,n4⟩ ⟨rfl,r2,r3,r4⟩
     dsimp only at r2 r3 r4 ⊢
     have hz4:H4.at' (nx+1)=some (pgO zeroP):=(r4 _ (by omega) (by omega)).trans ((ab _ _ (by omega)).trans hz2)
     have hp4:(fi p1 14 0).length=1024:=by rw [cc (by omega)];exact hp1
     have k4: ∀ m,m<nx→H4.at' m=H.at' m:=fun m hm=>(r4 m (by omega) (by omega)).trans ((ab _ _ (by omega)).trans (k2 m hm))
     repeat apply ae;rfl
     refine cE rfl rfl rfl rfl (fun _=>?_) (fun hq=>absurd rfl hq)
     repeat apply ae;rfl
     refine aL rfl rfl rfl (by kernel_rfl) (E1 (nK r2 hp4 (o:=16) (n:=1024) (by decide) (by decide)) ?_)
     rintro⟨_,H5,n5⟩ ⟨rfl,u2,u3,u4⟩
     dsimp only at u2 u3 u4 ⊢
     have hz5:H5.at' (nx+1)=some (pgO zeroP):=(u4 _ (by omega) (by omega)).trans hz4
     have hp5:(fi (fi p1 14 0) 16 1024).length=1024:=by rw [cc (by omega)];exact hp4
     have k5: ∀ m,m<nx→H5.at' m=H.at' m:=fun m hm=>(u4 m (by omega) (by omega)).trans (k4 m hm)
     generalize fi (fi p1 14 0) 16 1024=pL at hcut u2 hp5
     repeat first|apply dc hp5;rfl;assumption|apply cx hp5 ac;rfl;assumption|apply ae;rfl
     ((apply bv Tryz.func41 (congrArg Array.toList Tryz.results41));(focus((apply E4 rfl (E6 (F.ag _ rfl) (by repeat(exact ah)) (bH hp5)));(repeat(first|exact E3|apply E5 rfl)))))
     exact⟨by rw [hv,hcut];rfl,by dsimp only;omega,fun m hm=>(ab _ _ (by omega)).trans (k5 m hm)⟩
theorem AV{H:aw}{nx n:Nat}(hp:p.length=1024):Fnc Tryz.prog 41 [.agg (pgS p),.sc (.int .i64 (n:Int))] H nx (fun q=>q=(pgE (eg p n),H,nx)):=Fnc.bV (pm _) (DI hp)
theorem mB(p:List UInt8): ∀ m,dT p m≤m∧(∀ j,dT p m≤j→j<m→aG p j=0)∧(0<dT p m→aG p (dT p m-1)≠0)
 | 0=>⟨Em _,fun j _ h=>absurd h (Nat.not_lt_zero _),fun h=>absurd h (Nat.lt_irrefl _)⟩
 | m+1=>by
   unfold dT
   split
   ·rename_i h
    obtain⟨h1,h2,h3⟩:=mB p m
    refine⟨by omega,fun j h4 h5=>?_,h3⟩
    rcases EB j m with h6|h6
    ·exact h2 j h4 h6
    ·obtain rfl:j=m:=by omega
     exact h
   ·rename_i h
    exact⟨Em _,fun j h4 h5=>absurd h5 (by omega),fun _=>h⟩
abbrev gl(p:List UInt8)(n:Nat):List UInt8:=sU (bP p n 0 0)
end
structure Dps (p:List UInt8) (S:List Nat) (q:List UInt8):Prop where
 ok:Okp q
 slots:aj q≤aj p
 gone: ∀ j,aj q≤j→j<aj p→j∈S∨aG p j=0
 ptr0: ∀ j,j<aj p→j∈S→aY q j=0∧aG q j=0
 ptr: ∀ j,j<aj p→j∉S→aY q j=aY p j∧aG q j=aG p j
 begins:aM q=if aj q=0 then 1024 else aM p
 get: ∀ i,i<14∨18+4*aj p≤i→q[i]? =p[i]?
section
variable {a b:a7}{n:Nat}{S:List Nat}{p q:List UInt8}
theorem xb{o:Nat}(hp:o+2≤p.length)(hq:o+2≤q.length)(h:gL p o=gL q o):p[o]? =q[o]? ∧p[o+1]? =q[o+1]? :=by
 have e: ∀ {r:List UInt8} (hr:o+2≤r.length),gL r o=256*(r[o]'(by omega)).toNat+(r[o+1]'(by omega)).toNat:=fun {r} hr=>by
  have hd:(r.drop o).take 2= [r[o]'(by omega),r[o+1]'(by omega)]:=by
   rw [List.drop_eq_getElem_cons (by omega:o<r.length),List.drop_eq_getElem_cons (by omega:o+1<r.length)]
   rfl
  unfold gL
  rw [hd]
  simp [beN]
 rw [e hp,e hq] at h
 have h1:=(p[o+1]'(by omega)).toNat_lt
 have h2:=(q[o+1]'(by omega)).toNat_lt
 rw [D5 (by omega),D5 (by omega),D5 (by omega),D5 (by omega)]
 exact⟨congrArg some (UInt8.toNat_inj.1 (by omega)),congrArg some (UInt8.toNat_inj.1 (by omega))⟩
theorem sT(h:Okp p)(hn:n<aj p)(hs:aG p n≠0):Dps p [n] (gl p n):=by
 show Dps p [n] (sU (bP p n 0 0))
 have hp:=h.len
 have hh:=h.head
 have ht:=h.top
 have hxl:(bP p n 0 0).length=1024:=(fK (by omega)).trans hp
 have hxs:aj (bP p n 0 0)=aj p:=dz (by omega) (by omega)
 have hxb:aM (bP p n 0 0)=aM p:=dz (by omega) (by omega)
 have hf0:aY (bP p n 0 0) n=0:=lg (by omega) (by decide)
 have hz0:aG (bP p n 0 0) n=0:=ld (by omega) (by decide)
 have hfo: ∀ j,j≠n→aY (bP p n 0 0) j=aY p j:=fun j hj=>dz (by omega) (by omega)
 have hzo: ∀ j,j≠n→aG (bP p n 0 0) j=aG p j:=fun j hj=>dz (by omega) (by omega)
 have hge: ∀ i,i<14∨18+4*aj p≤i→(bP p n 0 0)[i]? =p[i]? :=fun i hi=>iF (by omega) (by omega)
 generalize bP p n 0 0=x at hxl hxs hxb hf0 hz0 hfo hzo hge ⊢
 obtain⟨t1,t2,t3⟩:=mB x (aj x)
 rw [hxs] at t1 t2
 have hcut:sU x=if dT x (aj x)=0 then fi (fi x 14 (dT x (aj x))) 16 1024 else fi x 14 (dT x (aj x)):=rfl
 rw [hxs] at hcut t3
 generalize dT x (aj p)=m at t1 t2 t3 hcut
 have hl1:(fi x 14 m).length=1024:=(cc (by omega)).trans hxl
 have hql:(sU x).length=1024:=by rw [hcut];split;exact(cc (by omega)).trans hl1;exact hl1
 have hqn: ∀ o,18≤o→gL (sU x) o=gL x o:=fun o ho=>by
  rw [hcut]
  split
  ·exact(cy (by omega) (by omega)).trans (cy (by omega) (by omega))
  ·exact cy (by omega) (by omega)
 have hqs:aj (sU x)=m:=by
  rw [hcut]
  split
  ·exact(cy (by omega) (by omega)).trans (eK (by omega) (by omega))
  ·exact eK (by omega) (by omega)
 have hqb:aM (sU x)=if m=0 then 1024 else aM p:=by
  rw [hcut]
  split
  ·exact eK (by omega) (by decide)
  ·exact(cy (by omega) (by omega)).trans hxb
 have hqg: ∀ i,i<14∨18≤i→(sU x)[i]? =x[i]? :=fun i hi=>by
  rw [hcut]
  split
  ·exact(fE (by omega) (by omega)).trans (fE (by omega) (by omega))
  ·exact fE (by omega) (by omega)
 generalize sU x=q at hql hqn hqs hqb hqg
 have hfq: ∀ j,aY q j=aY x j:=fun j=>hqn _ (by omega)
 have hzq: ∀ j,aG q j=aG x j:=fun j=>hqn _ (by omega)
 refine⟨⟨hql,?_,?_,fun hpos=>?_,fun j hj=>?_,fun i j hij hj hzi hzj=>?_⟩,by omega,fun j h1 h2=>?_,fun j h1 h2=>?_,fun j h1 h2=>?_,by rw [hqs];exact hqb,fun i hi=>(hqg i (by omega)).trans (hge i hi)⟩
 ·rw [hqs,hqb];split <;> omega
 ·rw [hqb];split <;> omega
 ·rw [hqs] at hpos ⊢
  rw [hzq]
  exact t3 hpos
 ·rw [hqs] at hj
  rw [hfq,hzq,hqb,Ey (by omega)]
  by_cases hjn:j=n
  ·subst hjn
   exact .inl ⟨hf0,hz0⟩
  ·rw [hfo j hjn,hzo j hjn]
   exact h.slot j (by omega)
 ·rw [hqs] at hj
  rw [hzq] at hzi hzj
  have hi:i≠n:=fun e=>by subst e;exact hzi hz0
  have hj2:j≠n:=fun e=>by subst e;exact hzj hz0
  rw [hzo _ hi] at hzi
  rw [hzo _ hj2] at hzj
  rw [hfq,hzq,hfq,hzq,hfo _ hi,hzo _ hi,hfo _ hj2,hzo _ hj2]
  exact h.apart i j hij (by omega) hzi hzj
 ·rw [hqs] at h1
  by_cases hjn:j=n
  ·exact .inl (by rw [hjn];exact EE.2 rfl)
  ·have:=t2 j h1 h2
   rw [hzo j hjn] at this
   exact .inr this
 ·obtain rfl:=EE.1 h2
  exact⟨(hfq _).trans hf0,(hzq _).trans hz0⟩
 ·have hjn:j≠n:=fun e=>h2 (by rw [e];exact EE.2 rfl)
  exact⟨(hfq _).trans (hfo j hjn),(hzq _).trans (hzo j hjn)⟩
theorem Dps.there(h:Dps p S q)(hn:n<aj p)(hs:aG p n≠0)(hS:n∉S):n<aj q∧aG q n≠0:=by
 refine⟨?_,by rw [(h.ptr n hn hS).2];exact hs⟩
 rcases EB n (aj q)with h1|h1
 ·exact h1
 ·rcases h.gone n h1 hn with h2|h2
  ·exact absurd h2 hS
  ·exact absurd h2 hs
theorem Dps.more(h:Dps p S q)(hn:n<aj p)(hs:aG p n≠0)(hS:n∉S):Dps p (n :: S) (gl q n):=by
 obtain⟨h1,h2⟩:=h.there hn hs hS
 have g:=sT h.ok h1 h2
 generalize gl q n=r at g
 have hsl:=h.slots
 have hgs:=g.slots
 have ho: ∀ j,j<aj p→j≠n→aY r j=aY q j∧aG r j=aG q j:=fun j hj hjn=>by
  rcases EB j (aj q)with h3|h3
  ·exact g.ptr j h3 fun hm=>hjn (EE.1 hm)
  ·exact⟨iI fun i h4 h5=>g.get i (by omega),iI fun i h4 h5=>g.get i (by omega)⟩
 refine⟨g.ok,by omega,fun j h3 h4=>?_,fun j h3 h4=>?_,fun j h3 h4=>?_,?_,fun i hi=>(g.get i (by omega)).trans (h.get i hi)⟩
 ·by_cases hjn:j=n
  ·exact .inl (by rw [hjn];exact EG)
  ·by_cases hjS:j∈S
   ·exact .inl (EH _ hjS)
   ·refine .inr ?_
    rw [← (h.ptr j h4 hjS).2]
    rcases EB j (aj q)with h5|h5
    ·rcases g.gone j h3 h5 with h6|h6
     ·exact absurd (EE.1 h6) hjn
     ·exact h6
    ·rcases h.gone j h5 h4 with h6|h6
     ·exact absurd h6 hjS
     ·rw [(h.ptr j h4 hjS).2];exact h6
 ·by_cases hjn:j=n
  ·subst hjn
   exact g.ptr0 j h1 (EE.2 rfl)
  ·rcases EN.1 h4 with h5|h5
   ·exact absurd h5 hjn
   ·have h6:=ho j h3 hjn
    have h7:=h.ptr0 j h3 h5
    exact⟨h6.1.trans h7.1,h6.2.trans h7.2⟩
 ·have hjn:j≠n:=fun e=>h4 (by rw [e];exact EG)
  have h6:=ho j h3 hjn
  have h7:=h.ptr j h3 fun hm=>h4 (EH _ hm)
  exact⟨h6.1.trans h7.1,h6.2.trans h7.2⟩
 ·have hb:=h.begins
  rw [Ey (by omega)] at hb
  rw [g.begins,hb]
theorem Dps.uniq{q':List UInt8}{S':List Nat}(hp:Okp p)(h:Dps p S q)(h':Dps p S' q')(hS: ∀ j,j∈S↔j∈S'):q=q':=by
 have hh:=hp.head
 have ht:=hp.top
 have lt: ∀ {q q':List UInt8} {S S':List Nat},Dps p S q→Dps p S' q'→(∀ j,j∈S↔j∈S')→ ¬ aj q<aj q':=fun {q q' S S'} h h' hS hlt=>by
  have h1:=h'.ok.last (by omega)
  have h2:=h'.slots
  rcases h.gone (aj q'-1) (by omega) (by omega)with h3|h3
  ·exact h1 (h'.ptr0 _ (by omega) ((hS _).1 h3)).2
  ·by_cases h4:aj q'-1∈S'
   ·exact h1 (h'.ptr0 _ (by omega) h4).2
   ·exact h1 ((h'.ptr _ (by omega) h4).2.trans h3)
 have hsl:aj q=aj q':=by
  have h1:=lt h h' hS
  have h2:=lt h' h fun j=>(hS j).symm
  omega
 have hb:aM q=aM q':=by rw [h.begins,h'.begins,hsl]
 have hpt: ∀ j,j<aj p→aY q j=aY q' j∧aG q j=aG q' j:=fun j hj=>by
  by_cases hjS:j∈S
  ·have h1:=h.ptr0 j hj hjS
   have h2:=h'.ptr0 j hj ((hS j).1 hjS)
   exact⟨h1.1.trans h2.1.symm,h1.2.trans h2.2.symm⟩
  ·have h1:=h.ptr j hj hjS
   have h2:=h'.ptr j hj fun hm=>hjS ((hS j).2 hm)
   exact⟨h1.1.trans h2.1.symm,h1.2.trans h2.2.symm⟩
 have hl:=h.ok.len
 have hl':=h'.ok.len
 have two: ∀ o i,o+2≤1024→gL q o=gL q' o→i=o∨i=o+1→q[i]? =q'[i]? :=fun o i ho hn hi=>by
  have:=xb (by omega) (by omega) hn
  rcases hi with rfl|rfl
  ·exact this.1
  ·exact this.2
 refine ET fun i=>?_
 by_cases h1:i<14∨18+4*aj p≤i
 ·rw [h.get i h1,h'.get i h1]
 ·by_cases h2:i<16
  ·exact two 14 i (by decide) hsl (by omega)
  ·by_cases h3:i<18
   ·exact two 16 i (by decide) hb (by omega)
   ·have hj:=hpt ((i-18) / 4) (by omega)
    by_cases h4:(i-18) % 4<2
    ·exact two (18+4*((i-18) / 4)) i (by omega) hj.1 (by omega)
    ·exact two (18+4*((i-18) / 4)+2) i (by omega) hj.2 (by omega)
def rC(p:List UInt8)(S:List Nat):List UInt8:=S.foldl gl p
theorem dels{p:List UInt8}: ∀ (S A:List Nat) (q:List UInt8),Dps p A q→S.Nodup→(∀ n,n∈S→n∉A∧n<aj p∧aG p n≠0)→ ∃ B,(∀ j,j∈B↔j∈A∨j∈S)∧Dps p B (S.foldl gl q)
 | [],A,q,h,_,_=>⟨A,fun j=>by simp,h⟩
 | n :: S,A,q,h,hnd,hS=>by
   obtain⟨h1,h2,h3⟩:=hS n EG
   rw [List.nodup_cons] at hnd
   obtain⟨B,hB,g⟩:=dels S (n :: A) (gl q n) (h.more h2 h3 h1) hnd.2 fun m hm=>by
    obtain⟨h4,h5⟩:=hS m (EH _ hm)
    refine⟨fun h6=>?_,h5⟩
    rcases EN.1 h6 with rfl|h6
    ·exact hnd.1 hm
    ·exact h4 h6
   refine⟨B,fun j=>?_,g⟩
   rw [hB,EN,EN]
   constructor
   ·rintro((h|h)|h)
    ·exact .inr (.inl h)
    ·exact .inl h
    ·exact .inr (.inr h)
   ·rintro(h|(h|h))
    ·exact .inl (.inr h)
    ·exact .inl (.inl h)
    ·exact .inr h
def Has(p:List UInt8)(S:List Nat):Prop:=S.Nodup∧ ∀ n,n∈S→n<aj p∧aG p n≠0
theorem yd(h:Okp p)(h0:S≠ [])(hS:Has p S): ∃ B,(∀ j,j∈B↔j∈S)∧Dps p B (rC p S):=by
 cases S with
 | nil=>exact absurd rfl h0
 | cons n S=>
   obtain⟨h1,h2⟩:=hS
   rw [List.nodup_cons] at h1
   have h3:=h2 n EG
   obtain⟨B,hB,g⟩:=dels S [n] (gl p n) (sT h h3.1 h3.2) h1.2 fun m hm=>⟨fun h6=>h1.1 (by rw [← EE.1 h6];exact hm),h2 m (EH _ hm)⟩
   refine⟨B,fun j=>?_,g⟩
   rw [hB,EE,EN]
theorem yf(h:Okp p)(hS:Has p S):Okp (rC p S):=by
 by_cases h0:S= []
 ·subst h0;exact h
 ·obtain⟨B,_,g⟩:=yd h h0 hS
  exact g.ok
theorem Has.there(h:Okp p){A:List Nat}{B:List Nat}(hS:Has p (A ++ n :: B)):n<aj (rC p A)∧aG (rC p A) n≠0∧Okp (rC p A):=by
 obtain⟨h1,h2⟩:=hS
 rw [List.nodup_append] at h1
 obtain⟨h3,h4,h5⟩:=h1
 have hA:Has p A:=⟨h3,fun m hm=>h2 m (List.mem_append_left _ hm)⟩
 have hn:=h2 n (List.mem_append_right _ EG)
 have hok:=yf h hA
 by_cases h0:A= []
 ·subst h0;exact⟨hn.1,hn.2,hok⟩
 ·obtain⟨C,hC,g⟩:=yd h h0 hA
  obtain⟨h6,h7⟩:=g.there hn.1 hn.2 fun h8=>h5 n ((hC n).1 h8) n EG rfl
  exact⟨h6,h7,hok⟩
def ItAt(p:List UInt8)(j:Nat)(it:List UInt8):Prop:=j<aj p∧aG p j≠0∧cd p j=it
theorem ItAt.uniq{j:Nat}{a b:List UInt8}(h:ItAt p j a)(g:ItAt p j b):a=b:=h.2.2.symm.trans g.2.2
theorem B8(h:q[12]? =p[12]?):kP q=kP p:=by unfold kP;rw [h]
theorem xz{it:List UInt8}{s:Nat}(hp:p.length=1024)(h:eX p it=(q,s,0)):Okp p∧1≤it.length∧it.length≤1000∧it.length≤ke p∧q=nP p it∧s=a8 p:=by
 unfold eX at h
 split at h
 ·cases h
 rename_i h1
 split at h
 ·cases h
 rename_i h2
 split at h
 ·cases h
 rename_i h3
 have h4:=Classical.not_not.1 h2
 simp only [Ea,and_true] at h
 refine⟨(df hp).1 ?_,h4.1,h4.2,Nat.le_of_not_lt h3,h.1.symm,h.2.symm⟩
 cases hr:cr p with
 | true=>rfl
 | false=>exact absurd hr h1
theorem eM{it:List UInt8}{s:Nat}(hp:p.length=1024)(h:eX p it=(q,s,0)):Okp q∧kP q=kP p∧(∀ x,¬ ItAt p s x)∧ ∀ j x,ItAt q j x↔(j=s∧x=it)∨ItAt p j x:=by
 obtain⟨ho,h1,h2,h3,rfl,rfl⟩:=xz hp h
 have g:=laid ho h2 h3 h1
 obtain⟨e1,e2,e3⟩:=jT p
 have hi:=Laid.items ho g
 have hno: ∀ x,¬ ItAt p (a8 p) x:=fun x hx=>hx.2.1 (e2 hx.1)
 have hmany: ∀ j,j<gV p↔j=a8 p∨j<aj p:=fun j=>by
  unfold gV
  split <;> constructor <;> intro hj
  ·omega
  ·omega
  ·omega
  ·rcases hj with rfl|hj
   ·omega
   ·exact hj
 refine⟨Laid.ok ho h2 h3 h1 g,B8 (g.get 12 (.inl (by decide))),hno,fun j x=>?_⟩
 by_cases hj:j=a8 p
 ·subst hj
  constructor
  ·intro hx
   exact .inl ⟨rfl,hx.2.2.symm.trans hi.1⟩
  ·rintro(⟨_,rfl⟩|hx)
   ·exact⟨by rw [g.slots,hmany];exact .inl rfl,by rw [g.sizes];omega,hi.1⟩
   ·exact absurd hx (hno x)
 ·constructor
  ·rintro⟨x1,x2,x3⟩
   rw [g.slots,hmany] at x1
   have hs:=x1.resolve_left hj
   rw [g.size' j hj hs] at x2
   exact .inr ⟨hs,x2,(hi.2 j hj hs x2).symm.trans x3⟩
  ·rintro(⟨h5,_⟩|⟨x1,x2,x3⟩)
   ·exact absurd h5 hj
   ·exact⟨by rw [g.slots,hmany];exact .inr x1,by rw [g.size' j hj x1];exact x2,(hi.2 j hj x1 x2).trans x3⟩
theorem li(h:Okp p):Okp (fY p)∧kP (fY p)=kP p∧ ∀ j x,ItAt (fY p) j x↔ItAt p j x:=by
 have g:=AI h
 refine⟨Packed.ok h g,B8 (g.low 12 (by decide)),fun j x=>?_⟩
 constructor
 ·rintro⟨x1,x2,x3⟩
  rw [g.slots] at x1
  rw [g.sizes j x1] at x2
  exact⟨x1,x2,(g.item j x1 x2).symm.trans x3⟩
 ·rintro⟨x1,x2,x3⟩
  exact⟨by rw [g.slots];exact x1,by rw [g.sizes j x1];exact x2,(g.item j x1 x2).trans x3⟩
theorem Dps.items(h:Okp p)(g:Dps p S q)(j:Nat)(x:List UInt8):ItAt q j x↔j∉S∧ItAt p j x:=by
 have hit: ∀ j,j<aj p→aG p j≠0→j∉S→cd q j=cd p j:=fun j h1 h2 h3=>by
  unfold cd
  rw [(g.ptr j h1 h3).1,(g.ptr j h1 h3).2]
  refine jj fun i hi _=>g.get i (.inr ?_)
  rcases h.slot j h1 with h4|h4
  ·exact absurd h4.2 h2
  ·have:=h.head
   omega
 constructor
 ·rintro⟨x1,x2,x3⟩
  have hs:j<aj p:=Nat.lt_of_lt_of_le x1 g.slots
  have hS:j∉S:=fun hc=>x2 (g.ptr0 j hs hc).2
  rw [(g.ptr j hs hS).2] at x2
  exact⟨hS,hs,x2,(hit j hs x2 hS).symm.trans x3⟩
 ·rintro⟨hS,x1,x2,x3⟩
  refine⟨?_,by rw [(g.ptr j x1 hS).2];exact x2,(hit j x1 x2 hS).trans x3⟩
  rcases EB j (aj q)with h5|h5
  ·exact h5
  ·rcases g.gone j h5 x1 with h6|h6
   ·exact absurd h6 hS
   ·exact absurd h6 x2
theorem jl(hp:p.length=1024)(h:eg p n=(q,0)):Okp q∧kP q=kP p∧ ∀ j x,ItAt q j x↔j≠n∧ItAt p j x:=by
 unfold eg at h
 split at h
 ·cases h
 rename_i h1
 split at h
 ·rename_i h2
  simp only [Ea] at h
  exact absurd h.2 h2
 rename_i h2
 have h2:=Classical.not_not.1 h2
 have ho:Okp p:=(df hp).1 (by
  cases hr:cr p with
  | true=>rfl
  | false=>exact absurd hr h1)
 unfold kE at h2
 split at h2
 ·cases h2
 rename_i h3
 split at h2
 ·cases h2
 rename_i h4
 simp only [Ea,and_true] at h
 have g:Dps p [n] q:=by rw [← h];exact sT ho (Nat.lt_of_not_le h3) h4
 refine⟨g.ok,B8 (g.get 12 (.inl (by decide))),fun j x=>?_⟩
 rw [g.items ho,EE]
theorem lx{x:List UInt8}(h:Okp p)(hx:ItAt p n x):eg p n=(gl p n,0):=by
 unfold eg kE
 rw [Ey (by rw [(df h.len).2 h];decide),Ey (Nat.not_le.2 hx.1),Ey hx.2.1,Ey (by simp)]
theorem jQ(k:UInt8):Okp (dm k)∧ ∀ j x,¬ ItAt (dm k) j x:=by
 have h14:aj (dm k)=0:=by
  unfold dm
  rw [show aj (fi (zeroP.set 12 k) 16 1024)=gL (zeroP.set 12 k) 14 from cy (by simp [ac]) (by omega)]
  exact iI (p:=zeroP.set 12 k) (q:=zeroP) (fun i h1 h2=>by rw [List.getElem?_set_ne (by omega)]) |>.trans (by rfl)
 have h16:aM (dm k)=1024:=eK (by simp [ac]) (by decide)
 refine⟨⟨cM k,by omega,by omega,fun h=>by omega,fun j h=>by omega,fun i j _ h=>by omega⟩,fun j x h=>?_⟩
 have:=h.1
 omega
theorem qd{e:a7}(h:fk e=true):bj cn e=true:=by
 have h1:=((gU).1 h).1.1
 rw [ks]
 refine .inl ?_
 unfold bLt
 rw [EZ]
 obtain⟨⟨⟨l⟩⟩,n,m⟩:=e
 cases l with
 | nil=>exact absurd h1 (Nat.not_succ_le_zero 0)
 | cons x l=>exact List.Lex.nil
theorem sF{l:List UInt8}{e:a7}(h:ofL l=some e):fk e=true:=by
 unfold ofL at h
 split at h
 ·rename_i b0 b1 b2 r
  cases hm:fk (yC b0 b1 b2 r)with
  | true=>rw [hm] at h;cases h;exact hm
  | false=>rw [hm] at h;cases h
 ·cases h
theorem iK(h:bj a b=true):bj b a=false:=by
 cases g:bj b a with
 | false=>rfl
 | true=>have:=eV h g;rw [dC] at this;cases this
theorem iJ(h:bj a b=true):a≠b:=fun e=>by rw [e,dC] at h;cases h
theorem B5{c:a7}(h:bj a b=true)(g:bj c b=false):bj a c=true:=by
 cases k:bj a c with
 | true=>rfl
 | false=>
   cases k2:bj b c with
   | true=>have:=eV h k2;rw [k] at this;cases this
   | false=>rw [← fm k2 g,h] at k;cases k
end
structure Bnds (bs:List Bn.El):Prop where
 sorted:bs.Pairwise fun x y=>bj x.2 y.2=true
 zero:(bs.getD 0 (0,(⟨#[0]⟩,0,0))).2=cn
section
variable {e:a7}{i:Nat}{bs:List Bn.El}
theorem Bnds.pos(h:Bnds bs):0<bs.length:=by
 cases bs with
 | nil=>have:=congrArg (fun e:a7=>e.1.size) h.zero;exact absurd this (by decide)
 | cons a l=>exact Nat.succ_pos _
theorem Bnds.at0(h:Bnds bs):(bs[0]'h.pos).2=cn:=by
 have:=h.zero
 rwa [Eg,D5 h.pos] at this
theorem Bnds.lt(h:Bnds bs){j:Nat}(hij:i<j)(hj:j<bs.length):bj (bs[i]'(by omega)).2 bs[j].2=true:=List.pairwise_iff_getElem.1 h.sorted i j (by omega) hj hij
def Hom(bs:List Bn.El)(e:a7)(x:Bn.El):Prop:=x∈bs∧bj e x.2=false∧ ∀ y∈bs,bj e y.2=false→bj x.2 y.2=false
theorem Bnds.inj(h:Bnds bs){j:Nat}(hi:i<bs.length)(hj:j<bs.length)(he:bs[i].2=bs[j].2):i=j:=by
 rcases Nat.lt_trichotomy i j with h1|h1|h1
 ·exact absurd he (iJ (h.lt h1 hj))
 ·exact h1
 ·exact absurd he.symm (iJ (h.lt h1 hi))
theorem Bnds.same(h:Bnds bs){x y:Bn.El}(hx:x∈bs)(hy:y∈bs)(he:x.2=y.2):x=y:=by
 obtain⟨i,hi,rfl⟩:=List.getElem_of_mem hx
 obtain⟨j,hj,rfl⟩:=List.getElem_of_mem hy
 obtain rfl:=h.inj hi hj he
 rfl
theorem Hom.uniq(h:Bnds bs){x y:Bn.El}(hx:Hom bs e x)(hy:Hom bs e y):x=y:=
 h.same hx.1 hy.1 (fm (hx.2.2 y hy.1 hy.2.1) (hy.2.2 x hx.1 hx.2.1))
theorem mZ(bs:List Bn.El)(e:a7): ∀ n,n<bs.length→(ij bs e n=0∨bj e (bs.getD (ij bs e n) (0,cn)).2=false)∧ ∀ j,ij bs e n<j→j≤n→bj e (bs.getD j (0,cn)).2=true
 | 0,_=>⟨.inl rfl,fun j h1 h2=>by unfold ij at h1;omega⟩
 | n+1,hn=>by
   unfold ij
   split
   ·rename_i h
    obtain⟨h1,h2⟩:=mZ bs e n (by omega)
    refine⟨h1,fun j h3 h4=>?_⟩
    rcases EB n j with h5|h5
    ·obtain rfl:j=n+1:=by omega
     exact h
    ·exact h2 j h3 h5
   ·rename_i h
    exact⟨.inr (by cases hh:bj e (bs.getD (n+1) (0,cn)).2 with|true=>exact absurd hh h|false=>rfl),fun j h3 h4=>by omega⟩
theorem jg(h:Bnds bs)(he:fk e=true):Hom bs e (bs[bG bs e]'(eW e h.pos)):=by
 have hlt:=eW e h.pos
 obtain⟨h1,h2⟩:=mZ bs e (bs.length-1) (by have:=h.pos;omega)
 change (bG bs e=0∨_)at h1
 have hge:bj e (bs[bG bs e]'hlt).2=false:=by
  rcases h1 with h1|h1
  ·have h3:(bs[bG bs e]'hlt).2=cn:=by
    have:=h.at0
    simp only [h1]
    exact this
   rw [h3]
   exact iK (qd he)
  ·change bj e (bs.getD (bG bs e) (0,cn)).2=false at h1
   rwa [Eg,D5 hlt] at h1
 refine⟨Ex _,hge,fun y hy hey=>?_⟩
 obtain⟨j,hj,rfl⟩:=List.getElem_of_mem hy
 rcases Nat.lt_trichotomy j (bG bs e)with h3|h3|h3
 ·exact iK (h.lt h3 hlt)
 ·subst h3
  exact dC _
 ·have:=h2 j h3 (by omega)
  rw [Eg,D5 hj] at this
  exact absurd (this.symm.trans hey) (by decide)
theorem je(h:Bnds bs)(he:fk e=true)(hi:i<bs.length):bG bs e=i↔Hom bs e bs[i]:=by
 have h1:=jg h he
 constructor
 ·rintro rfl
  exact h1
 ·intro h2
  exact h.inj (eW e h.pos) hi (congrArg Prod.snd (Hom.uniq h h1 h2))
def Af(it:List UInt8):Option (Nat×a7):=jr (List.replicate 28 false) it
theorem Cr{u:List Bool}(hu:u.length=28){it:List UInt8}{k:Nat}(h:Af it=some (k,e)):jr u it=if u[k]? =some true then none else some (k,e):=by
 unfold Af at h
 unfold jr at h ⊢
 split at h
 ·cases h
 rename_i c r
 split at h
 ·cases h
 rename_i hc
 have hk:k=c.toNat:=by
  split at h
  ·cases h;rfl
  ·obtain⟨x,_,hx⟩:=Eb.1 h
   cases hx
   rfl
 subst hk
 by_cases h1:u[c.toNat]? =some true
 ·rw [Ez (.inr (.inr h1)),Ez h1]
 ·rw [Ey (by rintro(h2|h2|h2);exact hc (.inl h2);exact hc (.inr (.inl h2));exact h1 h2),Ey h1]
  exact h
theorem pX{it:List UInt8}{k:Nat}(h:Af it=some (k,e)):(1≤k∧k<28)∧(e=cn∨fk e=true):=by
 have h0:=pW h
 refine⟨⟨h0.1,h0.2.1⟩,?_⟩
 unfold Af jr at h
 split at h
 ·cases h
 split at h
 ·cases h
 split at h
 ·cases h;exact .inl rfl
 ·obtain⟨x,hx1,hx⟩:=Eb.1 h
  cases hx
  exact .inr (sF hx1)
def e6(p:List UInt8)(j:Nat)(k:Nat)(e:a7):Prop:= ∃ x,ItAt p j x∧Af x=some (k,e)
end
structure RootOk (p:List UInt8):Prop where
 ok:Okp p
 kind:kP p=2
 some': ∀ j x,ItAt p j x→ ∃ k e,Af x=some (k,e)
 num: ∀ j j' k e e',e6 p j k e→e6 p j' k e'→j=j'
 ent: ∀ j j' k k' e,e6 p j k e→e6 p j' k' e→j=j'
 zero: ∃ j k,e6 p j k cn
section
variable {p:List UInt8}
theorem qw{p:List UInt8}(h:RootOk p): ∀ n,n≤aj p→ ∃ u l,ch p n=some (u,l)∧u.length=28∧(∀ k,u[k]? =some true→ ∃ j e,j<n∧e6 p j k e)∧(∀ a:Bn.El,a∈l↔ ∃ j k e,j<n∧e6 p j k e∧a=((4:Int)+(k:Int),e))∧l.Pairwise (fun a b=>a.2≠b.2)
 | 0,_=>by
   refine⟨_,_,rfl,EL,fun k hk=>?_,fun a=>⟨fun h=>absurd h List.not_mem_nil,fun⟨j,_,_,hj,_⟩=>absurd hj (Nat.not_lt_zero _)⟩,List.Pairwise.nil⟩
   rw [List.getElem?_replicate] at hk
   split at hk
   ·cases hk
   ·cases hk
 | n+1,hn=>by
   obtain⟨u,l,h1,h2,h3,h4,h5⟩:=qw h n (by omega)
   unfold ch
   rw [h1]
   simp only
   by_cases hs:aG p n=0
   ·rw [Ez hs]
    have hno: ∀ j k e,e6 p j k e→(j<n+1↔j<n):=fun j k e ⟨x,hx,_⟩=>by
     constructor
     ·intro h6
      rcases EB j n with h7|h7
      ·exact h7
      ·obtain rfl:j=n:=by omega
       exact absurd hs hx.2.1
     ·omega
    refine⟨u,l,rfl,h2,fun k hk=>?_,fun a=>?_,h5⟩
    ·obtain⟨j,e,hj,hb⟩:=h3 k hk
     exact⟨j,e,by omega,hb⟩
    ·rw [h4]
     constructor
     ·rintro⟨j,k,e,hj,hb,ha⟩
      exact⟨j,k,e,by omega,hb,ha⟩
     ·rintro⟨j,k,e,hj,hb,ha⟩
      exact⟨j,k,e,(hno j k e hb).1 hj,hb,ha⟩
   ·rw [Ey hs]
    have hit:ItAt p n (cd p n):=⟨by omega,hs,rfl⟩
    obtain⟨k,e,hb⟩:=h.some' n _ hit
    have hB:e6 p n k e:=⟨_,hit,hb⟩
    have hk:=(pX hb).1
    have hu:u[k]? ≠some true:=fun hc=>by
     obtain⟨j,e',hj,hb'⟩:=h3 k hc
     have:=h.num _ _ _ _ _ hB hb'
     omega
    rw [Cr h2 hb,Ey hu]
    simp only
    refine⟨_,_,rfl,by rw [List.length_set];exact h2,fun k' hk'=>?_,fun a=>?_,?_⟩
    ·by_cases hkk:k'=k
     ·subst hkk
      exact⟨n,e,by omega,hB⟩
     ·rw [List.getElem?_set_ne (fun hc=>hkk hc.symm)] at hk'
      obtain⟨j,e',hj,hb'⟩:=h3 k' hk'
      exact⟨j,e',by omega,hb'⟩
    ·rw [List.mem_append,EE,h4]
     constructor
     ·rintro(⟨j,k',e',hj,hb',ha⟩|ha)
      ·exact⟨j,k',e',by omega,hb',ha⟩
      ·exact⟨n,k,e,by omega,hB,ha⟩
     ·rintro⟨j,k',e',hj,hb',ha⟩
      rcases EB j n with h7|h7
      ·exact .inl ⟨j,k',e',h7,hb',ha⟩
      ·obtain rfl:j=n:=by omega
       obtain⟨x,hx,hbx⟩:=hb'
       rw [hx.uniq hit,hb] at hbx
       cases hbx
       exact .inr ha
    ·rw [List.pairwise_append]
     refine⟨h5,List.pairwise_singleton _ _,fun a ha b hb'=>?_⟩
     obtain rfl:=EE.1 hb'
     obtain⟨j,k',e',hj,hb2,rfl⟩:=(h4 a).1 ha
     intro hc
     simp only at hc
     subst hc
     have:=h.ent _ _ _ _ _ hb2 hB
     omega
theorem x7{s:List Bn.El}(h:s.Pairwise fun a b=>a.2≠b.2): ∀ i,i≤s.length→yD s i=false
 | 0,_=>rfl
 | i+1,hi=>by
   unfold yD
   rw [x7 h i (by omega),Bool.false_or]
   cases hd:(decide (0<i) && decide (Bn.ordP (s.getD i (0,cn)) (s.getD (i-1) (0,cn))=0))with
   | false=>rfl
   | true=>
     simp only [Ek,EZ] at hd
     obtain⟨h1,h2⟩:=hd
     have h3:=wW.1 h2
     rw [Eg,Eg,D5 (by omega:i<s.length),D5 (by omega:i-1<s.length)] at h3
     exact absurd h3 (List.pairwise_iff_getElem.1 h (i-1) i (by omega) (by omega) (by omega))
theorem sj(h:RootOk p): ∃ bs,gr p=some bs∧Bnds bs∧ ∀ a:Bn.El,a∈bs↔ ∃ j k e,e6 p j k e∧a=((4:Int)+(k:Int),e):=by
 obtain⟨u,l,h1,_,_,h4,h5⟩:=qw h (aj p) (Em _)
 obtain⟨hp,hs⟩:=kX l
 have hmem: ∀ a:Bn.El,a∈lW l↔ ∃ j k e,e6 p j k e∧a=((4:Int)+(k:Int),e):=fun a=>by
  rw [hp.mem_iff,h4]
  constructor
  ·rintro⟨j,k,e,_,hb,ha⟩
   exact⟨j,k,e,hb,ha⟩
  ·rintro⟨j,k,e,hb,ha⟩
   obtain⟨x,hx,hbx⟩:=hb
   exact⟨j,k,e,hx.1,⟨x,hx,hbx⟩,ha⟩
 have hne:(lW l).Pairwise fun a b=>a.2≠b.2:=(List.Perm.pairwise_iff (fun {a b} hab=>Ne.symm hab) hp).2 h5
 have hst:(lW l).Pairwise fun x y=>bj x.2 y.2=true:=(List.pairwise_and_iff.2 ⟨hs,hne⟩).imp fun {a b} hab=>by
  cases hh:bj a.2 b.2 with
  | true=>rfl
  | false=>exact absurd (fm hh hab.1) hab.2
 obtain⟨j0,k0,hz⟩:=h.zero
 have hz:((4:Int)+(k0:Int),cn)∈lW l:=(hmem _).2 ⟨j0,k0,_,hz,rfl⟩
 have hhead: ∃ n s,lW l=(n,cn) :: s:=by
  cases hl:lW l with
  | nil=>rw [hl] at hz;cases hz
  | cons a s=>
    rw [hl] at hz hs
    rcases EN.1 hz with h6|h6
    ·exact⟨_,s,by rw [← h6]⟩
    ·have h7:=(List.pairwise_cons.1 hs).1 _ h6
     obtain⟨j,k,e,⟨x,_,hb⟩,ha⟩:=(hmem a).1 (by rw [hl];exact EG)
     rcases(pX hb).2 with h8|h8
     ·exact⟨a.1,s,by rw [ha,h8]⟩
     ·rw [ha] at h7
      rw [qd h8] at h7
      cases h7
 obtain⟨n0,s0,hh⟩:=hhead
 have hok:okB (lW l)=true:=by
  unfold okB
  rw [x7 hne _ (Em _),hh]
  simp [xJ,gq]
 refine⟨lW l,?_,⟨hst,by rw [hh];rfl⟩,hmem⟩
 unfold gr
 rw [Ez ⟨(df h.ok.len).2 h.ok,h.kind⟩,h1]
 simp only
 rw [Ez hok]
def EntAt(p:List UInt8)(j:Nat)(e:a7):Prop:= ∃ x,ItAt p j x∧ofL x=some e
theorem EntAt.may{j:Nat}{e:a7}(h:EntAt p j e):fk e=true:=by
 obtain⟨x,_,hx⟩:=h
 exact sF hx
theorem EntAt.uniq{j:Nat}{a b:a7}(h:EntAt p j a)(g:EntAt p j b):a=b:=by
 obtain⟨x,hx,h1⟩:=h
 obtain⟨y,hy,h2⟩:=g
 rw [hx.uniq hy,h2] at h1
 cases h1
 rfl
end
structure LeafOk (p:List UInt8) (W:a7→Prop):Prop where
 ok:Okp p
 kind:kP p=3
 all: ∀ j x,ItAt p j x→ ∃ e,ofL x=some e
 one: ∀ j j' e,W e→EntAt p j e→EntAt p j' e→j=j'
theorem qS{p:List UInt8}{bs:List Bn.El}{i:Nat}(h:LeafOk p (fun e=>bG bs e=i)): ∀ n,n≤aj p→ ∃ own left,cU p bs i n=some (own,left)∧(∀ a:Ow.El,a∈own↔ ∃ j e,j<n∧EntAt p j e∧bG bs e=i∧a=(e,(j:Int)))∧(∀ a:Int,a∈left↔ ∃ j e,j<n∧EntAt p j e∧bG bs e≠i∧a=(j:Int))∧own.Pairwise (fun a b=>a.1≠b.1)∧left.Pairwise (·< ·)
 | 0,_=>⟨[],[],rfl,fun a=>⟨fun h=>absurd h List.not_mem_nil,fun⟨j,_,hj,_⟩=>absurd hj (Nat.not_lt_zero _)⟩,fun a=>⟨fun h=>absurd h List.not_mem_nil,fun⟨j,_,hj,_⟩=>absurd hj (Nat.not_lt_zero _)⟩,List.Pairwise.nil,List.Pairwise.nil⟩
 | n+1,hn=>by
   obtain⟨own,left,h1,h2,h3,h4,h5⟩:=qS h n (by omega)
   unfold cU
   rw [h1]
   simp only
   by_cases hs:aG p n=0
   ·rw [Ez hs]
    have hno: ∀ j e,EntAt p j e→j<n+1→j<n:=fun j e ⟨x,hx,_⟩ h6=>by
     rcases EB j n with h7|h7
     ·exact h7
     ·obtain rfl:j=n:=by omega
      exact absurd hs hx.2.1
    refine⟨own,left,rfl,fun a=>?_,fun a=>?_,h4,h5⟩
    ·rw [h2]
     constructor
     ·rintro⟨j,e,hj,hb⟩
      exact⟨j,e,by omega,hb⟩
     ·rintro⟨j,e,hj,hb⟩
      exact⟨j,e,hno j e hb.1 hj,hb⟩
    ·rw [h3]
     constructor
     ·rintro⟨j,e,hj,hb⟩
      exact⟨j,e,by omega,hb⟩
     ·rintro⟨j,e,hj,hb⟩
      exact⟨j,e,hno j e hb.1 hj,hb⟩
   ·rw [Ey hs]
    have hit:ItAt p n (cd p n):=⟨by omega,hs,rfl⟩
    obtain⟨e,he⟩:=h.all n _ hit
    have hE:EntAt p n e:=⟨_,hit,he⟩
    rw [he]
    simp only
    have hlast: ∀ j e',EntAt p j e'→j<n+1→j<n∨(j=n∧e'=e):=fun j e' hb hj=>by
     rcases EB j n with h7|h7
     ·exact .inl h7
     ·obtain rfl:j=n:=by omega
      exact .inr ⟨rfl,hb.uniq hE⟩
    by_cases hw:bG bs e=i
    ·rw [Ez hw]
     refine⟨_,_,rfl,fun a=>?_,fun a=>?_,?_,h5⟩
     ·rw [List.mem_append,EE,h2]
      constructor
      ·rintro(⟨j,e',hj,hb⟩|ha)
       ·exact⟨j,e',by omega,hb⟩
       ·exact⟨n,e,by omega,hE,hw,ha⟩
      ·rintro⟨j,e',hj,hb,hw',ha⟩
       rcases hlast j e' hb hj with h7|⟨rfl,rfl⟩
       ·exact .inl ⟨j,e',h7,hb,hw',ha⟩
       ·exact .inr ha
     ·rw [h3]
      constructor
      ·rintro⟨j,e',hj,hb⟩
       exact⟨j,e',by omega,hb⟩
      ·rintro⟨j,e',hj,hb,hw',ha⟩
       rcases hlast j e' hb hj with h7|⟨rfl,rfl⟩
       ·exact⟨j,e',h7,hb,hw',ha⟩
       ·exact absurd hw hw'
     ·rw [List.pairwise_append]
      refine⟨h4,List.pairwise_singleton _ _,fun a ha b hb=>?_⟩
      obtain rfl:=EE.1 hb
      obtain⟨j,e',hj,hb2,hw',rfl⟩:=(h2 a).1 ha
      intro hc
      simp only at hc
      subst hc
      have:=h.one _ _ _ hw hb2 hE
      omega
    ·rw [Ey hw]
     refine⟨_,_,rfl,fun a=>?_,fun a=>?_,h4,?_⟩
     ·rw [h2]
      constructor
      ·rintro⟨j,e',hj,hb⟩
       exact⟨j,e',by omega,hb⟩
      ·rintro⟨j,e',hj,hb,hw',ha⟩
       rcases hlast j e' hb hj with h7|⟨rfl,rfl⟩
       ·exact⟨j,e',h7,hb,hw',ha⟩
       ·exact absurd hw' hw
     ·rw [List.mem_append,EE,h3]
      constructor
      ·rintro(⟨j,e',hj,hb⟩|ha)
       ·exact⟨j,e',by omega,hb⟩
       ·exact⟨n,e,by omega,hE,hw,ha⟩
      ·rintro⟨j,e',hj,hb,hw',ha⟩
       rcases hlast j e' hb hj with h7|⟨rfl,rfl⟩
       ·exact .inl ⟨j,e',h7,hb,hw',ha⟩
       ·exact .inr ha
     ·rw [List.pairwise_append]
      refine⟨h5,List.pairwise_singleton _ _,fun a ha b hb=>?_⟩
      obtain rfl:=EE.1 hb
      obtain⟨j,e',hj,_,_,rfl⟩:=(h3 a).1 ha
      omega
theorem xY{s:List Ow.El}(h:s.Pairwise fun a b=>a.1≠b.1): ∀ i,i≤s.length→xZ s i=false
 | 0,_=>rfl
 | i+1,hi=>by
   unfold xZ
   rw [xY h i (by omega),Bool.false_or]
   cases hd:(decide (0<i) && gq (s.getD (i-1) (cn,0)).1 (s.getD i (cn,0)).1)with
   | false=>rfl
   | true=>
     simp only [Ek,EZ,gq] at hd
     obtain⟨h1,h3⟩:=hd
     rw [Eg,Eg,D5 (by omega:i<s.length),D5 (by omega:i-1<s.length)] at h3
     exact absurd h3 (List.pairwise_iff_getElem.1 h (i-1) i (by omega) (by omega) (by omega))
structure LeafIs (p:List UInt8) (W:a7→Prop) (own:List Ow.El) (left:List Int):Prop where
 sorted:own.Pairwise fun a b=>bj a.1 b.1=true
 mem: ∀ a:Ow.El,a∈own↔ ∃ j e,EntAt p j e∧W e∧a=(e,(j:Int))
 rest: ∀ a:Int,a∈left↔ ∃ j e,EntAt p j e∧ ¬ W e∧a=(j:Int)
 rise:left.Pairwise (·< ·)
theorem xn{p:List UInt8}{bs:List Bn.El}{i:Nat}(h:LeafOk p (fun e=>bG bs e=i)): ∃ own left,eL p bs i=some (own,left)∧LeafIs p (fun e=>bG bs e=i) own left:=by
 obtain⟨own,left,h1,h2,h3,h4,h5⟩:=qS h (aj p) (Em _)
 obtain⟨hp,hs⟩:=kW own
 have hne:(nJ own).Pairwise fun a b=>a.1≠b.1:=(List.Perm.pairwise_iff (fun {a b} hab=>Ne.symm hab) hp).2 h4
 refine⟨nJ own,left,?_,?_,fun a=>?_,fun a=>?_,h5⟩
 ·unfold eL
  rw [Ez ⟨(df h.ok.len).2 h.ok,h.kind⟩,h1]
  simp only
  rw [xY hne _ (Em _),Ey (by decide)]
 ·exact(List.pairwise_and_iff.2 ⟨hs,hne⟩).imp fun {a b} hab=>by
   cases hh:bj a.1 b.1 with
   | true=>rfl
   | false=>exact absurd (fm hh hab.1) hab.2
 ·rw [hp.mem_iff,h2]
  constructor
  ·rintro⟨j,e,_,hb⟩
   exact⟨j,e,hb⟩
  ·rintro⟨j,e,hb,hr⟩
   obtain⟨x,hx,hx2⟩:=hb
   exact⟨j,e,hx.1,⟨x,hx,hx2⟩,hr⟩
 ·rw [h3]
  constructor
  ·rintro⟨j,e,_,hb⟩
   exact⟨j,e,hb⟩
  ·rintro⟨j,e,hb,hr⟩
   obtain⟨x,hx,hx2⟩:=hb
   exact⟨j,e,hx.1,⟨x,hx,hx2⟩,hr⟩
structure IxOk (mem:List UInt8) (bs:List Bn.El):Prop where
 len:mem.length=28672
 root:RootOk (aQ mem 0)
 read:gr (aQ mem 0)=some bs
 bnds:Bnds bs
 mem': ∀ a:Bn.El,a∈bs↔ ∃ j k e,e6 (aQ mem 0) j k e∧a=((4:Int)+(k:Int),e)
 leaf: ∀ i,i<bs.length→LeafOk (aQ mem (lk bs i)) (fun e=>bG bs e=i)
section
variable {W:a7→Prop}{bs:List Bn.El}{mem p x:List UInt8}
def HasE(mem:List UInt8)(bs:List Bn.El)(e:a7):Prop:= ∃ j,EntAt (aQ mem (lk bs (bG bs e))) j e
theorem IxOk.of{mem:List UInt8}(hl:mem.length=28672)(hr:RootOk (aQ mem 0)): ∃ bs,gr (aQ mem 0)=some bs∧Bnds bs∧((∀ i,i<bs.length→LeafOk (aQ mem (lk bs i)) (fun e=>bG bs e=i))→IxOk mem bs)∧ ∀ a:Bn.El,a∈bs↔ ∃ j k e,e6 (aQ mem 0) j k e∧a=((4:Int)+(k:Int),e):=by
 obtain⟨bs,h1,h2,h3⟩:=sj hr
 exact⟨bs,h1,h2,fun h4=>⟨hl,hr,h1,h2,h3,h4⟩,h3⟩
theorem sK{i:Nat}(hi:i<bs.length):lk bs i=(bs[i]).1.toNat-4:=by
 unfold lk
 rw [Eg,D5 hi]
 rfl
theorem IxOk.lk_of(h:IxOk mem bs){i:Nat}(hi:i<bs.length): ∃ j,e6 (aQ mem 0) j (lk bs i) (bs[i]).2∧(bs[i]).1=((4:Int)+(lk bs i:Int))∧1≤lk bs i∧lk bs i<28:=by
 obtain⟨j,k,e,hb,ha⟩:=(h.mem' bs[i]).1 (Ex hi)
 have hk:lk bs i=k:=by
  rw [sK hi,ha]
  show((4:Int)+(k:Int)).toNat-4=k
  omega
 rw [hk,ha]
 obtain⟨x,hx,hbx⟩:=hb
 exact⟨j,⟨x,hx,hbx⟩,rfl,(pX hbx).1⟩
theorem ur{mem:List UInt8}{bs:List Bn.El}(h:IxOk mem bs)(W:a7→Bool): ∀ n,n≤bs.length→ ∃ l,kH mem bs W n=some l∧l.Pairwise (fun a b=>bj a b=true)∧ ∀ e,e∈l↔bG bs e<n∧HasE mem bs e∧W e=true
 | 0,_=>⟨[],rfl,List.Pairwise.nil,fun e=>⟨fun h=>absurd h List.not_mem_nil,fun h=>absurd h.1 (Nat.not_lt_zero _)⟩⟩
 | n+1,hn=>by
   obtain⟨l,h1,h2,h3⟩:=ur h W n (by omega)
   obtain⟨own,left,g1,g2⟩:=xn (h.leaf n (by omega))
   unfold kH
   rw [h1]
   simp only
   rw [g1]
   simp only
   have hmem: ∀ e,e∈(own.map (·.1)).filter W↔bG bs e=n∧HasE mem bs e∧W e=true:=fun e=>by
    rw [List.mem_filter,EV]
    constructor
    ·rintro⟨⟨a,ha,rfl⟩,hw⟩
     obtain⟨j,e,hb,hl,rfl⟩:=(g2.mem a).1 ha
     exact⟨hl,⟨j,by show EntAt _ j e;rw [hl];exact hb⟩,hw⟩
    ·rintro⟨hl,⟨j,hb⟩,hw⟩
     rw [hl] at hb
     exact⟨⟨(e,(j:Int)),(g2.mem _).2 ⟨j,e,hb,hl,rfl⟩,rfl⟩,hw⟩
   refine⟨_,rfl,?_,fun e=>?_⟩
   ·rw [List.pairwise_append]
    refine⟨h2,?_,fun a ha b hb=>?_⟩
    ·exact List.Pairwise.filter _ (List.pairwise_map.2 g2.sorted)
    ·obtain⟨a1,⟨ja,a2⟩,_⟩:=(h3 a).1 ha
     obtain⟨b1,⟨jb,b2⟩,_⟩:=(hmem b).1 hb
     have hbn:bs[n].2=bs[n].2:=rfl
     have ha':=jg h.bnds a2.may
     have hb':Hom bs b bs[n]:=(je h.bnds b2.may (by omega)).1 b1
     cases hh:bj a b with
     | true=>rfl
     | false=>
       have h8:bj a bs[n].2=false:=by
        cases h9:bj a bs[n].2 with
        | false=>rfl
        | true=>rw [B5 h9 hb'.2.1] at hh;cases hh
       have h10:=ha'.2.2 _ (Ex (by omega:n<bs.length)) h8
       rw [h.bnds.lt a1 (by omega)] at h10
       cases h10
   ·rw [List.mem_append,h3,hmem]
    constructor
    ·rintro(⟨a,b⟩|⟨a,b⟩)
     ·exact⟨by omega,b⟩
     ·exact⟨by omega,b⟩
    ·rintro⟨a,b⟩
     rcases EB (bG bs e) n with h5|h5
     ·exact .inl ⟨h5,b⟩
     ·exact .inr ⟨by omega,b⟩
theorem AT(h:IxOk mem bs)(W:a7→Bool): ∃ l,rv mem W=some l∧l.Pairwise (fun a b=>bj a b=true)∧ ∀ e,e∈l↔HasE mem bs e∧W e=true:=by
 obtain⟨l,h1,h2,h3⟩:=ur h W bs.length (Em _)
 refine⟨l,by unfold rv;rw [h.read];exact h1,h2,fun e=>?_⟩
 rw [h3]
 exact⟨fun a=>a.2,fun a=>⟨eW e h.bnds.pos,a⟩⟩
theorem qp: ∀ {a b:List a7},a.Pairwise (fun x y=>bj x y=true)→b.Pairwise (fun x y=>bj x y=true)→(∀ x,x∈a↔x∈b)→a=b
 | [],[],_,_,_=>rfl
 | [],y :: b,_,_,h=>absurd ((h y).2 EG) (by simp)
 | x :: a,[],_,_,h=>absurd ((h x).1 EG) (by simp)
 | x :: a,y :: b,ha,hb,h=>by
   rw [List.pairwise_cons] at ha hb
   have hxy:x=y:=by
    rcases EN.1 ((h x).1 EG)with h1|h1
    ·exact h1
    ·rcases EN.1 ((h y).2 EG)with h2|h2
     ·exact h2.symm
     ·have h3:=hb.1 x h1
      rw [iK (ha.1 y h2)] at h3
      cases h3
   subst hxy
   congr 1
   refine qp ha.2 hb.2 fun z=>?_
   constructor
   ·intro hz
    rcases EN.1 ((h z).1 (EH _ hz))with h1|h1
    ·exact absurd h1.symm (iJ (ha.1 z hz))
    ·exact h1
   ·intro hz
    rcases EN.1 ((h z).2 (EH _ hz))with h1|h1
    ·exact absurd h1.symm (iJ (hb.1 z hz))
    ·exact h1
theorem LeafOk.congr{W':a7→Prop}(h:LeafOk p W)(g: ∀ e,fk e=true→W' e→W e):LeafOk p W':=
 ⟨h.ok,h.kind,h.all,fun j j' e hw h1 h2=>h.one j j' e (g e h1.may hw) h1 h2⟩
theorem ko{e:a7}(h:fk e=true):ofL (bn e)=some e:=by
 have hm:=gU.1 h
 obtain⟨⟨⟨l⟩⟩,n,m⟩:=e
 cases l with
 | nil=>exact absurd hm.1.1 (Nat.not_succ_le_zero 0)
 | cons b r=>
   obtain⟨_,h1,h2,h3,h4⟩:=hm
   simp only at h1 h2 h3 h4
   have e1:((UInt8.ofNat n.toNat).toNat:Int)=n:=by
    rw [UInt8.toNat_ofNat']
    omega
   have e2:((UInt8.ofNat m.toNat).toNat:Int)=m:=by
    rw [UInt8.toNat_ofNat']
    omega
   show ofL (UInt8.ofNat n.toNat :: UInt8.ofNat m.toNat :: b :: r)=_
   have e3:yC (UInt8.ofNat n.toNat) (UInt8.ofNat m.toNat) b r=(⟨⟨b :: r⟩⟩,n,m):=by
    unfold yC
    rw [e1,e2]
   rw [w9 (by rw [e3];exact h),e3]
theorem mY{e:a7}{S:List Nat}{s:Nat}(h:LeafOk p W)(hm:fk e=true)(hno:W e→ ∀ j,¬ EntAt p j e)(hS: ∀ j,j∈S→ ∀ e',EntAt p j e'→ ¬ W e')(ok:Okp x)(kind:kP x=kP p)(hx: ∀ j it,ItAt x j it↔(j=s∧it=bn e)∨(j∉S∧ItAt p j it)):LeafOk x W∧ ∀ e',W e'→((∃ j,EntAt x j e')↔e'=e∨ ∃ j,EntAt p j e'):=by
 have hE: ∀ j e',EntAt x j e'→(j=s∧e'=e)∨(j∉S∧EntAt p j e'):=fun j e' ⟨it,h1,h2⟩=>by
  rcases(hx j it).1 h1 with ⟨h3,rfl⟩|⟨h3,h4⟩
  ·rw [ko hm] at h2
   cases h2
   exact .inl ⟨h3,rfl⟩
  ·exact .inr ⟨h3,it,h4,h2⟩
 refine⟨⟨ok,kind.trans h.kind,fun j it hit=>?_,fun j j' e' hw h1 h2=>?_⟩,fun e' hw=>⟨fun⟨j,hj⟩=>?_,?_⟩⟩
 ·rcases(hx j it).1 hit with ⟨_,rfl⟩|⟨_,h4⟩
  ·exact⟨e,ko hm⟩
  ·exact h.all j it h4
 ·rcases hE _ _ h1 with ⟨a1,rfl⟩|⟨a1,a2⟩
  ·rcases hE _ _ h2 with ⟨b1,_⟩|⟨b1,b2⟩
   ·exact a1.trans b1.symm
   ·exact absurd b2 (hno hw j')
  ·rcases hE _ _ h2 with ⟨b1,rfl⟩|⟨b1,b2⟩
   ·exact absurd a2 (hno hw j)
   ·exact h.one j j' e' hw a2 b2
 ·rcases hE _ _ hj with ⟨_,h3⟩|⟨_,h3⟩
  ·exact .inl h3
  ·exact .inr ⟨j,h3⟩
 ·rintro(rfl|⟨j,it,h1,h2⟩)
  ·exact⟨s,_,(hx s _).2 (.inl ⟨rfl,rfl⟩),ko hm⟩
  ·exact⟨j,it,(hx j it).2 (.inr ⟨fun hc=>hS j hc e' ⟨it,h1,h2⟩ hw,h1⟩),h2⟩
theorem qR{W':a7→Prop}{S:List Nat}(h:LeafOk p W)(hW: ∀ e,fk e=true→W' e→W e)(ok:Okp x)(kind:kP x=kP p)(hx: ∀ j it,ItAt x j it↔j∉S∧ItAt p j it):LeafOk x W'∧ ∀ j e,EntAt x j e↔j∉S∧EntAt p j e:=by
 have hE: ∀ j e,EntAt x j e↔j∉S∧EntAt p j e:=fun j e=>by
  constructor
  ·rintro⟨it,h1,h2⟩
   have h3:=(hx j it).1 h1
   exact⟨h3.1,it,h3.2,h2⟩
  ·rintro⟨h1,it,h2,h3⟩
   exact⟨it,(hx j it).2 ⟨h1,h2⟩,h3⟩
 exact⟨⟨ok,kind.trans h.kind,fun j it hit=>h.all j it ((hx j it).1 hit).2,fun j j' e hw h1 h2=>h.one j j' e (hW e h1.may hw) ((hE j e).1 h1).2 ((hE j' e).1 h2).2⟩,hE⟩
theorem wC{c:Nat}{cb:UInt8}{f:a7}{s:Nat}(h:RootOk p)(hc:cb.toNat=c)(hc1:1≤c)(hc2:c<28)(hm:fk f=true)(hk: ∀ j e,¬ e6 p j c e)(hf: ∀ j k,¬ e6 p j k f)(ok:Okp x)(kind:kP x=kP p)(hx: ∀ j it,ItAt x j it↔(j=s∧it=cb :: bn f)∨ItAt p j it):RootOk x∧ ∀ j k e,e6 x j k e↔(j=s∧k=c∧e=f)∨e6 p j k e:=by
 have hb:Af (cb :: bn f)=some (c,f):=by
  unfold Af jr
  simp only
  rw [Ey (by
   rintro(h1|h1|h1)
   ·omega
   ·omega
   ·rw [List.getElem?_replicate] at h1
    split at h1 <;> cases h1)]
  have h2:=ko hm
  have h3:=fM f
  cases hB:bn f with
  | nil=>rw [hB] at h3;simp at h3
  | cons b r=>
    rw [hB] at h2
    simp only [h2,hc,Et]
 have hB: ∀ j k e,e6 x j k e↔(j=s∧k=c∧e=f)∨e6 p j k e:=fun j k e=>by
  constructor
  ·rintro⟨it,h1,h2⟩
   rcases(hx j it).1 h1 with ⟨h3,rfl⟩|h3
   ·rw [hb] at h2
    cases h2
    exact .inl ⟨h3,rfl,rfl⟩
   ·exact .inr ⟨it,h3,h2⟩
  ·rintro(⟨h1,rfl,rfl⟩|⟨it,h1,h2⟩)
   ·exact⟨_,(hx j _).2 (.inl ⟨h1,rfl⟩),hb⟩
   ·exact⟨it,(hx j it).2 (.inr h1),h2⟩
 refine⟨⟨ok,kind.trans h.kind,fun j it hit=>?_,fun j j' k e e' h1 h2=>?_,fun j j' k k' e h1 h2=>?_,?_⟩,hB⟩
 ·rcases(hx j it).1 hit with ⟨_,rfl⟩|h3
  ·exact⟨c,f,hb⟩
  ·exact h.some' j it h3
 ·rcases(hB _ _ _).1 h1 with ⟨a1,a2,a3⟩|a1
  ·rcases(hB _ _ _).1 h2 with ⟨b1,b2,b3⟩|b1
   ·exact a1.trans b1.symm
   ·rw [a2] at b1;exact absurd b1 (hk _ _)
  ·rcases(hB _ _ _).1 h2 with ⟨b1,b2,b3⟩|b1
   ·rw [b2] at a1;exact absurd a1 (hk _ _)
   ·exact h.num _ _ _ _ _ a1 b1
 ·rcases(hB _ _ _).1 h1 with ⟨a1,a2,a3⟩|a1
  ·rcases(hB _ _ _).1 h2 with ⟨b1,b2,b3⟩|b1
   ·exact a1.trans b1.symm
   ·rw [a3] at b1;exact absurd b1 (hf _ _)
  ·rcases(hB _ _ _).1 h2 with ⟨b1,b2,b3⟩|b1
   ·rw [b3] at a1;exact absurd a1 (hf _ _)
   ·exact h.ent _ _ _ _ _ a1 b1
 ·obtain⟨j,k,hz⟩:=h.zero
  exact⟨j,k,(hB _ _ _).2 (.inr hz)⟩
abbrev dg(x:Bn.El):Nat:=x.1.toNat-4
end
structure IxH (mem:List UInt8) (bs:List Bn.El):Prop where
 len:mem.length=28672
 root:RootOk (aQ mem 0)
 read:gr (aQ mem 0)=some bs
 bnds:Bnds bs
 mem': ∀ a:Bn.El,a∈bs↔ ∃ j k e,e6 (aQ mem 0) j k e∧a=((4:Int)+(k:Int),e)
 leaf: ∀ x,x∈bs→LeafOk (aQ mem (dg x)) (fun e=>Hom bs e x)
section
variable {e f:a7}{s:Nat}{y:Bn.El}{left:List Int}{bs:List Bn.El}{mem:List UInt8}{own:List Ow.El}{p x:List UInt8}
def HasH(mem:List UInt8)(bs:List Bn.El)(e:a7):Prop:= ∃ x,Hom bs e x∧ ∃ j,EntAt (aQ mem (dg x)) j e
theorem IxH.ix(h:IxH mem bs):IxOk mem bs:=
 ⟨h.len,h.root,h.read,h.bnds,h.mem',fun i hi=>by
   rw [sK hi]
   exact(h.leaf bs[i] (Ex hi)).congr fun e he hw=>(je h.bnds he hi).1 hw⟩
theorem uf(h:Bnds bs)(e:a7):HasE mem bs e↔HasH mem bs e:=by
 constructor
 ·rintro⟨j,hj⟩
  refine⟨_,jg h hj.may,j,?_⟩
  rwa [sK (eW e h.pos)] at hj
 ·rintro⟨x,hx,j,hj⟩
  obtain⟨i,hi,rfl⟩:=List.getElem_of_mem hx.1
  have h1:=(je h hj.may hi).2 hx
  refine⟨j,?_⟩
  rw [h1,sK hi]
  exact hj
theorem IxH.num(h:IxH mem bs){x:Bn.El}(hx:x∈bs): ∃ j,e6 (aQ mem 0) j (dg x) x.2∧x.1=((4:Int)+(dg x:Int))∧1≤dg x∧dg x<28:=by
 obtain⟨i,hi,rfl⟩:=List.getElem_of_mem hx
 have:=h.ix.lk_of hi
 rwa [sK hi] at this
theorem IxH.num_inj(h:IxH mem bs){x:Bn.El}(hx:x∈bs)(hy:y∈bs)(he:dg x=dg y):x=y:=by
 obtain⟨j,h1,h2,_⟩:=h.num hx
 obtain⟨j',g1,g2,_⟩:=h.num hy
 rw [← he] at g1
 obtain rfl:=h.root.num _ _ _ _ _ h1 g1
 obtain⟨it,a1,a2⟩:=h1
 obtain⟨it',b1,b2⟩:=g1
 rw [a1.uniq b1,b2] at a2
 simp only [D2,Ea,true_and] at a2
 exact h.bnds.same hx hy a2.symm
theorem dV(hm:mem.length=28672){a b:Nat}(ha:a<28)(hx:x.length=1024):aQ (bQ mem a x) b=if b=a then x else aQ mem b:=ki (by omega) hx
theorem mF(hm:mem.length=28672){a:Nat}(ha:a<28)(hx:x.length=1024):(bQ mem a x).length=28672:=by
 unfold bQ
 rw [eI (by rw [hx];omega)]
 exact hm
theorem IxH.spare(h:IxH mem bs){k:Nat}(hk1:1≤k)(hk2:k<28)(hx:x.length=1024)(hno: ∀ y,y∈bs→dg y≠k):IxH (bQ mem k x) bs∧ ∀ e,HasH (bQ mem k x) bs e↔HasH mem bs e:=by
 have hp: ∀ b,b≠k→aQ (bQ mem k x) b=aQ mem b:=fun b hb=>by rw [dV h.len hk2 hx,Ey hb]
 have h0:=hp 0 (by omega)
 refine⟨⟨mF h.len hk2 hx,by rw [h0];exact h.root,by rw [h0];exact h.read,h.bnds,by rw [h0];exact h.mem',fun y hy=>by rw [hp _ (hno y hy)];exact h.leaf y hy⟩,fun e=>?_⟩
 constructor
 ·rintro⟨y,hy,j,hj⟩
  rw [hp _ (hno y hy.1)] at hj
  exact⟨y,hy,j,hj⟩
 ·rintro⟨y,hy,j,hj⟩
  exact⟨y,hy,j,by rw [hp _ (hno y hy.1)];exact hj⟩
theorem IxH.put(h:IxH mem bs)(hy:y∈bs)(hx:LeafOk x (fun e=>Hom bs e y)):IxH (bQ mem (dg y) x) bs∧(∀ e,Hom bs e y→(HasH (bQ mem (dg y) x) bs e↔ ∃ j,EntAt x j e))∧ ∀ e,¬ Hom bs e y→(HasH (bQ mem (dg y) x) bs e↔HasH mem bs e):=by
 obtain⟨_,_,_,hk1,hk2⟩:=h.num hy
 have hp: ∀ b,b≠dg y→aQ (bQ mem (dg y) x) b=aQ mem b:=fun b hb=>by rw [dV h.len hk2 hx.ok.len,Ey hb]
 have hq:aQ (bQ mem (dg y) x) (dg y)=x:=by rw [dV h.len hk2 hx.ok.len,Ez rfl]
 have h0:=hp 0 (by omega)
 refine⟨⟨mF h.len hk2 hx.ok.len,by rw [h0];exact h.root,by rw [h0];exact h.read,h.bnds,by rw [h0];exact h.mem',fun z hz=>?_⟩,?_⟩
 ·by_cases hzy:z=y
  ·subst hzy
   rw [hq]
   exact hx
  ·rw [hp _ (fun hc=>hzy (h.num_inj hz hy hc))]
   exact h.leaf z hz
 ·refine⟨fun e hh=>?_,fun e hh=>?_⟩
  ·constructor
   ·rintro⟨z,hz,j,hj⟩
    obtain rfl:=Hom.uniq h.bnds hz hh
    rw [hq] at hj
    exact⟨j,hj⟩
   ·rintro⟨j,hj⟩
    exact⟨y,hh,j,by rw [hq];exact hj⟩
  ·have hne: ∀ z,Hom bs e z→dg z≠dg y:=fun z hz hc=>by
    obtain rfl:=h.num_inj hz.1 hy hc
    exact hh hz
   constructor
   ·rintro⟨z,hz,j,hj⟩
    rw [hp _ (hne z hz)] at hj
    exact⟨z,hz,j,hj⟩
   ·rintro⟨z,hz,j,hj⟩
    exact⟨z,hz,j,by rw [hp _ (hne z hz)];exact hj⟩
theorem ue{bs':List Bn.El}{n:Bn.El}(hn:n.2=f)(hy:Hom bs f y)(hne:y.2≠f)(hb: ∀ a,a∈bs'↔a=n∨a∈bs) :
 (∀ e,Hom bs e y→bj e f=true→Hom bs' e y)∧(∀ e,Hom bs e y→bj e f=false→Hom bs' e n)∧(∀ e z,Hom bs e z→z.2≠y.2→Hom bs' e z):=by
 subst hn
 have hyf:bj y.2 n.2=true:=by
  cases h:bj y.2 n.2 with
  | true=>rfl
  | false=>exact absurd (fm h hy.2.1) hne
 refine⟨fun e he hl=>⟨(hb _).2 (.inr he.1),he.2.1,fun z hz hez=>?_⟩,fun e he hl=>⟨(hb _).2 (.inl rfl),hl,fun z hz hez=>?_⟩,fun e z he hzy=>⟨(hb _).2 (.inr he.1),he.2.1,fun w hw hew=>?_⟩⟩
 ·rcases(hb z).1 hz with rfl|hz
  ·rw [hl] at hez;cases hez
  ·exact he.2.2 z hz hez
 ·rcases(hb z).1 hz with rfl|hz
  ·exact dC _
  ·have h1:=he.2.2 z hz hez
   cases h2:bj n.2 z.2 with
   | false=>rfl
   | true=>rw [eV hyf h2] at h1;cases h1
 ·rcases(hb w).1 hw with rfl|hw
  ·have h1:bj e y.2=false:=by
    cases h2:bj e y.2 with
    | false=>rfl
    | true=>rw [eV h2 hyf] at hew;cases hew
   have h3:=he.2.2 y hy.1 h1
   have h4:bj y.2 z.2=true:=by
    cases h2:bj y.2 z.2 with
    | true=>rfl
    | false=>exact absurd (fm h3 h2) hzy
   cases h5:bj w.2 z.2 with
   | true=>exact iK h5
   | false=>
     have h6:=hy.2.2 z he.1 h5
     rw [h4] at h6
     cases h6
  ·exact he.2.2 w hw hew
theorem IxH.part{rt:List UInt8}(h:IxH mem bs){c:Nat}(hy:Hom bs f y)(hne:y.2≠f)(hno: ∀ z,z∈bs→dg z≠c)(hrt:RootOk rt)(hb: ∀ j k e,e6 rt j k e↔(j=s∧k=c∧e=f)∨e6 (aQ mem 0) j k e)(hc1:1≤c)(hc2:c<28)(hup:LeafOk (aQ mem c) (fun _=>True))(hue: ∀ e,(∃ j,EntAt (aQ mem c) j e)↔Hom bs e y∧bj e f=false∧ ∃ j,EntAt (aQ mem (dg y)) j e) :
 ∃ bs',IxH (bQ mem 0 rt) bs'∧(∀ e,HasH (bQ mem 0 rt) bs' e↔HasH mem bs e)∧ ∀ a,a∈bs'↔a=((4:Int)+(c:Int),f)∨a∈bs:=by
 obtain⟨bs',h1,h2,h3⟩:=sj hrt
 have hmem: ∀ a,a∈bs'↔a=((4:Int)+(c:Int),f)∨a∈bs:=fun a=>by
  rw [h3,h.mem']
  constructor
  ·rintro⟨j,k,e,hB,ha⟩
   rcases(hb _ _ _).1 hB with ⟨_,rfl,rfl⟩|hB
   ·exact .inl ha
   ·exact .inr ⟨j,k,e,hB,ha⟩
  ·rintro(ha|⟨j,k,e,hB,ha⟩)
   ·exact⟨s,c,f,(hb _ _ _).2 (.inl ⟨rfl,rfl,rfl⟩),ha⟩
   ·exact⟨j,k,e,(hb _ _ _).2 (.inr hB),ha⟩
 have hq:aQ (bQ mem 0 rt) 0=rt:=by rw [dV h.len (by decide) hrt.ok.len,Ez rfl]
 have hp: ∀ b,b≠0→aQ (bQ mem 0 rt) b=aQ mem b:=fun b hb=>by rw [dV h.len (by decide) hrt.ok.len,Ey hb]
 have hn0: ∀ z,z∈bs→dg z≠0:=fun z hz=>by
  obtain⟨_,_,_,h4,_⟩:=h.num hz
  omega
 have hnc:dg ((4:Int)+(c:Int),f)=c:=by show((4:Int)+(c:Int)).toNat-4=c;omega
 obtain⟨g1,g2,g3⟩:=ue (bs':=bs') (n:=((4:Int)+(c:Int),f)) rfl hy hne hmem
 have hback: ∀ e z,z∈bs→Hom bs' e z→Hom bs e z:=fun e z hz he=>⟨hz,he.2.1,fun w hw=>he.2.2 w ((hmem w).2 (.inr hw))⟩
 refine⟨bs',⟨mF h.len (by decide) hrt.ok.len,by rw [hq];exact hrt,by rw [hq];exact h1,h2,by rw [hq];exact h3,fun z hz=>?_⟩,fun e=>?_,hmem⟩
 ·rcases(hmem z).1 hz with rfl|hz
  ·rw [hnc,hp _ (by omega)]
   exact hup.congr fun _ _ _=>trivial
  ·rw [hp _ (hn0 z hz)]
   exact(h.leaf z hz).congr fun e _ he=>hback e z hz he
 ·constructor
  ·rintro⟨z,hz,j,hj⟩
   rcases(hmem z).1 hz.1 with rfl|hzb
   ·rw [hnc,hp _ (by omega)] at hj
    obtain⟨a1,_,a2⟩:=(hue e).1 ⟨j,hj⟩
    exact⟨y,a1,a2⟩
   ·rw [hp _ (hn0 z hzb)] at hj
    exact⟨z,hback e z hzb hz,j,hj⟩
  ·rintro⟨z,hz,j,hj⟩
   by_cases hzy:z.2=y.2
   ·obtain rfl:=h.bnds.same hz.1 hy.1 hzy
    cases hl:bj e f with
    | true=>exact⟨z,g1 e hz hl,j,by rw [hp _ (hn0 z hz.1)];exact hj⟩
    | false=>
      obtain⟨j',hj'⟩:=(hue e).2 ⟨hz,hl,j,hj⟩
      exact⟨_,g2 e hz hl,j',by rw [hnc,hp _ (by omega)];exact hj'⟩
   ·exact⟨z,g3 e z hz hzy,j,by rw [hp _ (hn0 z hz.1)];exact hj⟩
def cV(p:List UInt8):List Int→List UInt8
 | []=>p
 | s :: S=>cV (if(eg p s.toNat).2=0 then(eg p s.toNat).1 else p) S
def bz(p:List UInt8)(S:List Int):List UInt8:=if(eU (cV p S)).2=0 then(eU (cV p S)).1 else cV p S
def te(p:List UInt8)(S:List Int):Prop:= ∀ s,s∈S→ ∃ x,ItAt p s.toNat x
theorem gj{p:List UInt8}(h:Okp p): ∀ S:List Int,∀ q:List UInt8,∀ A:List Nat,Okp q→kP q=kP p→(∀ j x,ItAt q j x↔j∉A∧ItAt p j x)→te p S→ ∃ B:List Nat,(∀ j,j∈B↔j∈A∨ ∃ s∈S,s.toNat=j)∧Okp (cV q S)∧kP (cV q S)=kP p∧ ∀ j x,ItAt (cV q S) j x↔j∉B∧ItAt p j x
 | [],q,A,h1,h2,h3,_=>⟨A,fun j=>by simp,h1,h2,h3⟩
 | s :: S,q,A,h1,h2,h3,h4=>by
   obtain⟨x,hx⟩:=h4 s EG
   have h5:te p S:=fun t ht=>h4 t (EH _ ht)
   unfold cV
   by_cases hs:s.toNat∈A
   ·have hne:(eg q s.toNat).2≠0:=fun hc=>by
     have hd:eg q s.toNat=((eg q s.toNat).1,0):=by rw [← hc]
     have hqi:=jl h1.len hd
     unfold eg at hc
     rw [Ey (by rw [(df h1.len).2 h1];decide)] at hc
     split at hc
     ·rename_i h6;exact h6 hc
     ·rename_i h6
      have h6:=Classical.not_not.1 h6
      unfold kE at h6
      split at h6
      ·cases h6
      ·split at h6
       ·cases h6
       ·rename_i h7 h8
        exact((h3 s.toNat _).1 ⟨Nat.lt_of_not_le h7,h8,rfl⟩).1 hs
    rw [Ey hne]
    obtain⟨B,hB,g⟩:=gj h S q A h1 h2 h3 h5
    refine⟨B,fun j=>?_,g⟩
    rw [hB]
    constructor
    ·rintro(h6|⟨t,ht,rfl⟩)
     ·exact .inl h6
     ·exact .inr ⟨t,EH _ ht,rfl⟩
    ·rintro(h6|⟨t,ht,rfl⟩)
     ·exact .inl h6
     ·rcases EN.1 ht with rfl|ht
      ·exact .inl hs
      ·exact .inr ⟨t,ht,rfl⟩
   ·have hd:=lx h1 ((h3 s.toNat x).2 ⟨hs,hx⟩)
    rw [hd,Ez rfl]
    obtain⟨a1,a2,a3⟩:=jl h1.len hd
    obtain⟨B,hB,g⟩:=gj h S (gl q s.toNat) (s.toNat :: A) a1 (a2.trans h2) (fun j x=>by
     rw [a3,h3,EN]
     exact⟨fun⟨b1,b2,b3⟩=>⟨fun hc=>hc.elim b1 b2,b3⟩,fun⟨b1,b2⟩=>⟨fun hc=>b1 (.inl hc),fun hc=>b1 (.inr hc),b2⟩⟩) h5
    refine⟨B,fun j=>?_,g⟩
    rw [hB,EN]
    constructor
    ·rintro((rfl|h6)|⟨t,ht,rfl⟩)
     ·exact .inr ⟨s,EG,rfl⟩
     ·exact .inl h6
     ·exact .inr ⟨t,EH _ ht,rfl⟩
    ·rintro(h6|⟨t,ht,rfl⟩)
     ·exact .inl (.inr h6)
     ·rcases EN.1 ht with rfl|ht
      ·exact .inl (.inl rfl)
      ·exact .inr ⟨t,ht,rfl⟩
theorem di(h:Okp p){S:List Int}(hS:te p S): ∃ B:List Nat,(∀ j,j∈B↔ ∃ s∈S,s.toNat=j)∧Okp (bz p S)∧kP (bz p S)=kP p∧ ∀ j x,ItAt (bz p S) j x↔j∉B∧ItAt p j x:=by
 obtain⟨B,hB,h1,h2,h3⟩:=gj h S p [] h rfl (fun j x=>⟨fun g=>⟨List.not_mem_nil,g⟩,fun g=>g.2⟩) hS
 have hpk:eU (cV p S)=(fY (cV p S),0):=by unfold eU;rw [Ez ((df h1.len).2 h1)]
 have hw:bz p S=fY (cV p S):=by unfold bz;rw [hpk,Ez rfl]
 obtain⟨g1,g2,g3⟩:=li h1
 refine⟨B,fun j=>by rw [hB];simp,by rw [hw];exact g1,by rw [hw];exact g2.trans h2,fun j x=>by rw [hw,g3];exact h3 j x⟩
def dG(p:List UInt8)(left:List Int)(e:a7):List UInt8×Bool:=
 if(eX p (bn e)).2.2=0 then((eX p (bn e)).1,true) else((eX (bz p left) (bn e)).1,decide ((eX (bz p left) (bn e)).2.2=0))
theorem nc{it:List UInt8}(h:(eX p it).2.2=0):eX p it=((eX p it).1,(eX p it).2.1,0):=by rw [← h]
theorem oR{W:a7→Prop}(h:LeafOk p W)(hm:fk e=true)(hno:W e→ ∀ j,¬ EntAt p j e)(hS: ∀ s,s∈left→ ∃ j e',EntAt p j e'∧ ¬ W e'∧s=(j:Int))(hx:dG p left e=(x,true)):LeafOk x W∧ ∀ e',W e'→((∃ j,EntAt x j e')↔e'=e∨ ∃ j,EntAt p j e'):=by
 unfold dG at hx
 split at hx
 ·rename_i h1
  obtain⟨a1,a2,_,a4⟩:=eM h.ok.len (nc h1)
  simp only [Ea,and_true] at hx
  rw [hx] at a1 a2 a4
  exact mY (S:= []) (s:=(eX p (bn e)).2.1) h hm hno (fun j hj=>absurd hj List.not_mem_nil) a1 a2 (fun j it=>(a4 j it).trans (by simp))
 ·simp only [Ea,EZ] at hx
  obtain⟨hx1,hx2⟩:=hx
  have hsl:te p left:=fun s hs=>by
   obtain⟨j,e',⟨it,h2,_⟩,_,rfl⟩:=hS s hs
   exact⟨it,by simpa using h2⟩
  obtain⟨B,hB,b1,b2,b3⟩:=di h.ok hsl
  obtain⟨a1,a2,_,a4⟩:=eM b1.len (nc hx2)
  rw [hx1] at a1 a2 a4
  refine mY (S:=B) h hm hno (fun j hj e' he' hw=>?_) a1 (a2.trans b2) (fun j it=>(a4 j it).trans (by rw [b3]))
  obtain⟨s,hs,rfl⟩:=(hB j).1 hj
  obtain⟨j',e2,h2,h3,rfl⟩:=hS s hs
  have:EntAt p j' e':=by simpa using he'
  rw [this.uniq h2] at hw
  exact h3 hw
def qm:List Ow.El→List UInt8→Option (List UInt8)
 | [],x=>some x
 | o :: l,x=>if(eX x (bn o.1)).2.2=0 then qm l (eX x (bn o.1)).1 else none
theorem oX: ∀ {l:List Ow.El} {x z:List UInt8},qm l x=some z→LeafOk x (fun _=>True)→(∀ o,o∈l→fk o.1=true∧ ∀ j,¬ EntAt x j o.1)→l.Pairwise (fun a b=>a.1≠b.1)→LeafOk z (fun _=>True)∧ ∀ e,(∃ j,EntAt z j e)↔(∃ o∈l,o.1=e)∨ ∃ j,EntAt x j e
 | [],x,z,h,hx,_,_=>by
   unfold qm at h
   cases h
   exact⟨hx,fun e=>by simp⟩
 | o :: l,x,z,h,hx,hl,hp=>by
   unfold qm at h
   split at h
   ·rename_i h1
    obtain⟨hm,hn⟩:=hl o EG
    obtain⟨a1,a2,_,a4⟩:=eM hx.ok.len (nc h1)
    obtain⟨b1,b2⟩:=mY (S:= []) (s:=(eX x (bn o.1)).2.1) hx hm (fun _=>hn) (fun j hj=>absurd hj List.not_mem_nil) a1 a2 (fun j it=>(a4 j it).trans (by simp))
    rw [List.pairwise_cons] at hp
    obtain⟨c1,c2⟩:=oX h b1 (fun o' ho'=>⟨(hl o' (EH _ ho')).1,fun j hj=>by
     rcases(b2 o'.1 trivial).1 ⟨j,hj⟩with h2|⟨j',h2⟩
     ·exact hp.1 o' ho' h2.symm
     ·exact(hl o' (EH _ ho')).2 j' h2⟩) hp.2
    refine⟨c1,fun e=>?_⟩
    rw [c2,b2 e trivial]
    constructor
    ·rintro(⟨o',ho',rfl⟩|rfl|h2)
     ·exact .inl ⟨o',EH _ ho',rfl⟩
     ·exact .inl ⟨o,EG,rfl⟩
     ·exact .inr h2
    ·rintro(⟨o',ho',rfl⟩|h2)
     ·rcases EN.1 ho' with rfl|ho'
      ·exact .inr (.inl rfl)
      ·exact .inl ⟨o',ho',rfl⟩
     ·exact .inr (.inr h2)
   ·cases h
def gZ(p it:List UInt8):List UInt8×Nat×Nat:=if(eX p it).2.2≠5 then eX p it else if(eU p).2≠0 then(zeroP,0,(eU p).2) else eX (eU p).1 it
theorem uc{it q:List UInt8}(hp:Okp p)(h:gZ p it=(q,s,0)):Okp q∧kP q=kP p∧ ∀ j x,ItAt q j x↔(j=s∧x=it)∨ItAt p j x:=by
 unfold gZ at h
 split at h
 ·obtain⟨a1,a2,_,a3⟩:=eM hp.len h
  exact⟨a1,a2,a3⟩
 ·have hpk:eU p=(fY p,0):=by unfold eU;rw [Ez ((df hp.len).2 hp)]
  rw [hpk,Ey (by simp)] at h
  obtain⟨g1,g2,g3⟩:=li hp
  obtain⟨a1,a2,_,a3⟩:=eM g1.len h
  exact⟨a1,a2.trans g2,fun j x=>by rw [a3,g3]⟩
theorem HasH.at(h:IxH mem bs)(hy:Hom bs e y):HasH mem bs e↔ ∃ j,EntAt (aQ mem (dg y)) j e:=
 ⟨fun⟨z,hz,hj⟩=>by rw [← Hom.uniq h.bnds hz hy];exact hj,fun hj=>⟨y,hy,hj⟩⟩
theorem IxH.more(h:IxH mem bs)(hy:Hom bs e y)(hx:LeafOk x (fun e=>Hom bs e y))(hE: ∀ e',Hom bs e' y→((∃ j,EntAt x j e')↔e'=e∨ ∃ j,EntAt (aQ mem (dg y)) j e')):IxH (bQ mem (dg y) x) bs∧ ∀ e',HasH (bQ mem (dg y) x) bs e'↔HasH mem bs e'∨e'=e:=by
 obtain⟨h1,h2,h3⟩:=h.put hy.1 hx
 refine⟨h1,fun e'=>?_⟩
 by_cases hh:Hom bs e' y
 ·rw [h2 e' hh,hE e' hh,HasH.at h hh]
  exact Or.comm
 ·rw [h3 e' hh]
  exact⟨.inl,fun g=>g.elim id fun g=>absurd (g ▸ hy) hh⟩
theorem IxH.fewer(h:IxH mem bs)(hy:Hom bs e y)(hx:LeafOk x (fun e=>Hom bs e y))(hE: ∀ e',Hom bs e' y→((∃ j,EntAt x j e')↔e'≠e∧ ∃ j,EntAt (aQ mem (dg y)) j e')):IxH (bQ mem (dg y) x) bs∧ ∀ e',HasH (bQ mem (dg y) x) bs e'↔HasH mem bs e'∧e'≠e:=by
 obtain⟨h1,h2,h3⟩:=h.put hy.1 hx
 refine⟨h1,fun e'=>?_⟩
 by_cases hh:Hom bs e' y
 ·rw [h2 e' hh,hE e' hh,HasH.at h hh]
  exact And.comm
 ·rw [h3 e' hh]
  exact⟨fun g=>⟨g,fun hc=>hh (hc ▸ hy)⟩,fun g=>g.1⟩
theorem IxH.even(h:IxH mem bs)(hy:y∈bs)(hx:LeafOk x (fun e=>Hom bs e y))(hE: ∀ e',Hom bs e' y→((∃ j,EntAt x j e')↔ ∃ j,EntAt (aQ mem (dg y)) j e')):IxH (bQ mem (dg y) x) bs∧ ∀ e',HasH (bQ mem (dg y) x) bs e'↔HasH mem bs e':=by
 obtain⟨h1,h2,h3⟩:=h.put hy hx
 refine⟨h1,fun e'=>?_⟩
 by_cases hh:Hom bs e' y
 ·rw [h2 e' hh,hE e' hh,HasH.at h hh]
 ·exact h3 e' hh
def dU(mem:List UInt8):List (Nat×List UInt8)→List UInt8
 | []=>mem
 | w :: ws=>dU (bQ mem w.1 w.2) ws
def jA(bs:List Bn.El):Nat→Nat→Nat
 | 0,_=>0
 | n+1,k=>if bs.any (fun b=>decide (b.1=(4:Int)+(k:Int)))=true then jA bs n (k+1) else k
def ef(bs:List Bn.El):Nat:=jA bs 27 1
theorem nf(bs:List Bn.El): ∀ n k,jA bs n k=0∨(k≤jA bs n k∧jA bs n k<k+n∧ ∀ b,b∈bs→b.1≠(4:Int)+(jA bs n k:Int))
 | 0,k=> .inl rfl
 | n+1,k=>by
   unfold jA
   split
   ·rcases nf bs n (k+1)with h|⟨h1,h2,h3⟩
    ·exact .inl h
    ·exact .inr ⟨by omega,by omega,h3⟩
   ·rename_i h
    refine .inr ⟨Em _,by omega,fun b hb hc=>h ?_⟩
    rw [List.any_eq_true]
    exact⟨b,hb,ER hc⟩
def nO(root p:List UInt8)(bs:List Bn.El)(n:Nat)(own:List Ow.El)(left:List Int)(e:a7):Option (List (Nat×List UInt8)):=
 if ef bs=0∨own.length / 2=0 then none else
 if(gZ root (UInt8.ofNat (ef bs) :: bn (own.getD (own.length / 2) (cn,0)).1)).2.2≠0 then none else
 match qm (own.drop (own.length / 2)) (dm 3)with
 | none=>none
 | some up=>
   if bj e (own.getD (own.length / 2) (cn,0)).1=true then
    (if(dG (bz p (left ++ (own.drop (own.length / 2)).map (·.2))) [] e).2=true then
      some [(ef bs,up),(0,(gZ root (UInt8.ofNat (ef bs) :: bn (own.getD (own.length / 2) (cn,0)).1)).1),(n,bz p (left ++ (own.drop (own.length / 2)).map (·.2))),(n,(dG (bz p (left ++ (own.drop (own.length / 2)).map (·.2))) [] e).1)]
    else none)
   else
    (if(dG up [] e).2=true then
      some [(ef bs,up),(0,(gZ root (UInt8.ofNat (ef bs) :: bn (own.getD (own.length / 2) (cn,0)).1)).1),(n,bz p (left ++ (own.drop (own.length / 2)).map (·.2))),(ef bs,(dG up [] e).1)]
    else none)
theorem LeafIs.congr{W W':a7→Prop}(h:LeafIs p W own left)(g: ∀ e,fk e=true→(W e↔W' e)):LeafIs p W' own left:=
 ⟨h.sorted,fun a=>by
   rw [h.mem]
   exact⟨fun⟨j,e,h1,h2,h3⟩=>⟨j,e,h1,(g e h1.may).1 h2,h3⟩,fun⟨j,e,h1,h2,h3⟩=>⟨j,e,h1,(g e h1.may).2 h2,h3⟩⟩,fun a=>by
   rw [h.rest]
   exact⟨fun⟨j,e,h1,h2,h3⟩=>⟨j,e,h1,fun hc=>h2 ((g e h1.may).2 hc),h3⟩,fun⟨j,e,h1,h2,h3⟩=>⟨j,e,h1,fun hc=>h2 ((g e h1.may).1 hc),h3⟩⟩,h.rise⟩
theorem init_leaf:LeafOk (dm 3) (fun _=>True):=by
 obtain⟨h1,h2⟩:=jQ 3
 exact⟨h1,by kernel_rfl,fun j x hx=>absurd hx (h2 j x),fun j j' e _ ⟨x,hx,_⟩=>absurd hx (h2 j x)⟩
theorem uU{up rt lower:List UInt8}(h:IxH mem bs){c half:Nat}(hy:Hom bs e y)(hm:fk e=true)(hno: ∀ j,¬ EntAt (aQ mem (dg y)) j e)
 (hL:LeafIs (aQ mem (dg y)) (fun e=>Hom bs e y) own left) (hh0:half≠0) (hh:half<own.length) (hf:own[half].1=f) (hc1:1≤c) (hc2:c<28) (hc: ∀ z,z∈bs→dg z≠c)
 (hup:qm (own.drop half) (dm 3)=some up) (hrt:gZ (aQ mem 0) (UInt8.ofNat c :: bn f)=(rt,s,0)) (hlo:lower=bz (aQ mem (dg y)) (left ++ (own.drop half).map (·.2))) :
 (IxH (bQ mem c up) bs∧ ∀ e',HasH (bQ mem c up) bs e'↔HasH mem bs e') ∧
 ∃ bs',(IxH (bQ (bQ mem c up) 0 rt) bs'∧ ∀ e',HasH (bQ (bQ mem c up) 0 rt) bs' e'↔HasH mem bs e') ∧
  (IxH (bQ (bQ (bQ mem c up) 0 rt) (dg y) lower) bs'∧ ∀ e',HasH (bQ (bQ (bQ mem c up) 0 rt) (dg y) lower) bs' e'↔HasH mem bs e') ∧
  (bj e f=true→ ∀ x,dG lower [] e=(x,true)→IxH (bQ (bQ (bQ (bQ mem c up) 0 rt) (dg y) lower) (dg y) x) bs'∧ ∀ e',HasH (bQ (bQ (bQ (bQ mem c up) 0 rt) (dg y) lower) (dg y) x) bs' e'↔HasH mem bs e'∨e'=e) ∧
  (bj e f=false→ ∀ x,dG up [] e=(x,true)→IxH (bQ (bQ (bQ (bQ mem c up) 0 rt) (dg y) lower) c x) bs'∧ ∀ e',HasH (bQ (bQ (bQ (bQ mem c up) 0 rt) (dg y) lower) c x) bs' e'↔HasH mem bs e'∨e'=e):=by
 subst hf
 have hp:=h.leaf y hy.1
 obtain⟨jy,_,_,hn1,hn2⟩:=h.num hy.1
 have hnc:=hc y hy.1
 obtain⟨jf,f,hfE,hfH,hff⟩:=(hL.mem own[half]).1 (Ex hh)
 obtain⟨j0,f0,h0E,h0H,h00⟩:=(hL.mem own[0]).1 (Ex (by omega))
 have hlt: ∀ i (hi:i<half),bj (own[i]'(by omega)).1 own[half].1=true:=fun i hi=>List.pairwise_iff_getElem.1 hL.sorted i half (by omega) hh hi
 have hgt: ∀ i (hi:i<own.length),half<i→bj own[half].1 own[i].1=true:=fun i hi h1=>List.pairwise_iff_getElem.1 hL.sorted half i hh hi h1
 have hfe:own[half].1=f:=by rw [hff]
 rw [hfe] at hrt hlt hgt ⊢
 have hne:y.2≠f:=fun hc2=>by
  have h1:=hlt 0 (by omega)
  rw [h00] at h1
  have h2:=h0H.2.1
  rw [hc2,h1] at h2
  cases h2
 have hyf:bj y.2 f=true:=by
  cases h1:bj y.2 f with
  | true=>rfl
  | false=>exact absurd (fm h1 hfH.2.1) hne
 have hdrop: ∀ o:Ow.El,o∈own.drop half↔o∈own∧bj o.1 f=false:=fun o=>by
  constructor
  ·intro ho
   obtain⟨t,ht,rfl⟩:=List.getElem_of_mem ho
   rw [EF] at ht
   rw [List.getElem_drop]
   refine⟨Ex _,?_⟩
   rcases Nat.eq_zero_or_pos t with rfl|h1
   ·simp only [Nat.add_zero]
    rw [hfe]
    exact dC _
   ·exact iK (hgt (half+t) (by omega) (by omega))
  ·rintro⟨ho,h1⟩
   obtain⟨i,hi,rfl⟩:=List.getElem_of_mem ho
   rcases EB i half with h2|h2
   ·rw [hlt i h2] at h1;cases h1
   ·have h3:(own.drop half)[i-half]'(by rw [EF];omega)=own[i]:=by
     rw [List.getElem_drop]
     congr 1
     omega
    rw [← h3]
    exact Ex _
 obtain⟨hupO,hupE⟩:=oX hup init_leaf (fun o ho=>by
  obtain⟨j,e1,h1,_,h3⟩:=(hL.mem o).1 ((hdrop o).1 ho).1
  rw [h3]
  exact⟨h1.may,fun j ⟨x,hx,_⟩=>(jQ 3).2 j x hx⟩) ((hL.sorted.sublist (List.drop_sublist _ _)).imp fun hab=>iJ hab)
 have hue: ∀ e',(∃ j,EntAt up j e')↔Hom bs e' y∧bj e' f=false∧ ∃ j,EntAt (aQ mem (dg y)) j e':=fun e'=>by
  rw [hupE]
  constructor
  ·rintro(⟨o,ho,rfl⟩|⟨j,x,hx,_⟩)
   ·obtain⟨h1,h2⟩:=(hdrop o).1 ho
    obtain⟨j,e1,h3,h4,rfl⟩:=(hL.mem o).1 h1
    exact⟨h4,h2,j,h3⟩
   ·exact absurd hx ((jQ 3).2 j x)
  ·rintro⟨h1,h2,j,h3⟩
   exact .inl ⟨(e',(j:Int)),(hdrop _).2 ⟨(hL.mem _).2 ⟨j,e',h3,h1,rfl⟩,h2⟩,rfl⟩
 have s1:=h.spare hc1 hc2 hupO.ok.len hc
 have q1c:aQ (bQ mem c up) c=up:=by rw [dV h.len hc2 hupO.ok.len,Ez rfl]
 have q1: ∀ b,b≠c→aQ (bQ mem c up) b=aQ mem b:=fun b hb=>by rw [dV h.len hc2 hupO.ok.len,Ey hb]
 obtain⟨r1,r2,r3⟩:=uc h.root.ok hrt
 have hkB: ∀ j e,¬ e6 (aQ mem 0) j c e:=fun j e hb=>hc _ ((h.mem' ((4:Int)+(c:Int),e)).2 ⟨j,c,e,hb,rfl⟩) (by show((4:Int)+(c:Int)).toNat-4=c;omega)
 have hfB: ∀ j k,¬ e6 (aQ mem 0) j k f:=fun j k hb=>by
  have h1:=hfH.2.2 _ ((h.mem' ((4:Int)+(k:Int),f)).2 ⟨j,k,f,hb,rfl⟩) (dC _)
  rw [hyf] at h1
  cases h1
 obtain⟨t1,t2⟩:=wC h.root (cb:=UInt8.ofNat c) (by rw [UInt8.toNat_ofNat'];omega) hc1 hc2 hfE.may hkB hfB r1 r2 r3
 obtain⟨bs',b1,b2,b3⟩:=s1.1.part (rt:=rt) (f:=f) (c:=c) (s:=s) hfH hne hc t1 (by rw [q1 0 (by omega)];exact t2) hc1 hc2 (by rw [q1c];exact hupO) (by rw [q1c,q1 _ hnc];exact hue)
 have b2': ∀ e',HasH (bQ (bQ mem c up) 0 rt) bs' e'↔HasH mem bs e':=fun e'=>(b2 e').trans (s1.2 e')
 have hy':y∈bs':=(b3 y).2 (.inr hy.1)
 have hback: ∀ e',Hom bs' e' y→Hom bs e' y:=fun e' he=>⟨hy.1,he.2.1,fun w hw=>he.2.2 w ((b3 w).2 (.inr hw))⟩
 have q2: ∀ b,b≠0→aQ (bQ (bQ mem c up) 0 rt) b=aQ (bQ mem c up) b:=fun b hb=>by rw [dV s1.1.len (by decide) t1.ok.len,Ey hb]
 have q2y:aQ (bQ (bQ mem c up) 0 rt) (dg y)=aQ mem (dg y):=by rw [q2 _ (by omega),q1 _ hnc]
 have hsl:te (aQ mem (dg y)) (left ++ (own.drop half).map (·.2)):=fun t ht=>by
  rcases List.mem_append.1 ht with ht|ht
  ·obtain⟨j,e1,⟨it,h1,_⟩,_,rfl⟩:=(hL.rest t).1 ht
   exact⟨it,by simpa using h1⟩
  ·obtain⟨o,ho,rfl⟩:=EV.1 ht
   obtain⟨j,e1,⟨it,h1,_⟩,_,rfl⟩:=(hL.mem o).1 ((hdrop o).1 ho).1
   exact⟨it,by simpa using h1⟩
 obtain⟨B,hB,l1,l2,l3⟩:=di hp.ok hsl
 rw [← hlo] at l1 l2 l3
 obtain⟨m1,m2⟩:=qR (W':=fun e=>Hom bs' e y) hp (fun e' _ he=>hback e' he) l1 l2 l3
 have m3: ∀ e',Hom bs' e' y→((∃ j,EntAt lower j e')↔ ∃ j,EntAt (aQ mem (dg y)) j e'):=fun e' he=>by
  constructor
  ·rintro⟨j,hj⟩
   exact⟨j,((m2 j e').1 hj).2⟩
  ·rintro⟨j,hj⟩
   refine⟨j,(m2 j e').2 ⟨fun hc3=>?_,hj⟩⟩
   obtain⟨t,ht,rfl⟩:=(hB j).1 hc3
   rcases List.mem_append.1 ht with ht|ht
   ·obtain⟨j1,e1,h1,h2,rfl⟩:=(hL.rest t).1 ht
    have h3:EntAt (aQ mem (dg y)) j1 e':=by simpa using hj
    exact h2 (by rw [← h3.uniq h1];exact hback e' he)
   ·obtain⟨o,ho,rfl⟩:=EV.1 ht
    obtain⟨ho1,ho2⟩:=(hdrop o).1 ho
    obtain⟨j1,e1,h1,h2,rfl⟩:=(hL.mem o).1 ho1
    have h3:EntAt (aQ mem (dg y)) j1 e':=by simpa using hj
    have h4:bj e' f=false:=by rw [h3.uniq h1];exact ho2
    have h5:=he.2.2 _ ((b3 _).2 (.inl rfl)) h4
    rw [hyf] at h5
    cases h5
 have s3:=b1.even hy' m1 (fun e' he=>by rw [q2y];exact m3 e' he)
 have s3': ∀ e',HasH (bQ (bQ (bQ mem c up) 0 rt) (dg y) lower) bs' e'↔HasH mem bs e':=fun e'=>(s3.2 e').trans (b2' e')
 have q3y:aQ (bQ (bQ (bQ mem c up) 0 rt) (dg y) lower) (dg y)=lower:=by rw [dV b1.len hn2 l1.len,Ez rfl]
 have q3c:aQ (bQ (bQ (bQ mem c up) 0 rt) (dg y) lower) c=up:=by rw [dV b1.len hn2 l1.len,Ey (fun hc3=>hnc hc3.symm),q2 _ (by omega),q1c]
 have hnn:dg ((4:Int)+(c:Int),f)=c:=by show((4:Int)+(c:Int)).toNat-4=c;omega
 obtain⟨g1,g2,g3⟩:=ue (bs':=bs') (n:=((4:Int)+(c:Int),f)) rfl hfH hne b3
 refine⟨s1,bs',⟨b1,b2'⟩,⟨s3.1,s3'⟩,fun hl x hx=>?_,fun hl x hx=>?_⟩
 ·obtain⟨w1,w2⟩:=oR m1 hm (fun _ j hj=>hno j ((m2 j e).1 hj).2) (fun t ht=>absurd ht List.not_mem_nil) hx
  have:=s3.1.more (g1 e hy hl) w1 (by rw [q3y];exact w2)
  exact⟨this.1,fun e'=>(this.2 e').trans (by rw [s3'])⟩
 ·obtain⟨w1,w2⟩:=oR (hupO.congr (W':=fun e=>Hom bs' e ((4:Int)+(c:Int),f)) fun _ _ _=>trivial) hm (fun _ j hj=>by
   obtain⟨_,_,j',hj'⟩:=(hue e).1 ⟨j,hj⟩
   exact hno j' hj') (fun t ht=>absurd ht List.not_mem_nil) hx
  have:=s3.1.more (g2 e hy hl) w1 (by rw [hnn,q3c];exact w2)
  rw [hnn] at this
  exact⟨this.1,fun e'=>(this.2 e').trans (by rw [s3'])⟩
def ub(root p:List UInt8)(bs:List Bn.El)(n:Nat)(own:List Ow.El)(left:List Int)(e:a7):Nat×List (Nat×List UInt8):=
 if(fD own e).isSome=true then(14,[]) else
 if(dG p left e).2=true then(0,[(n,(dG p left e).1)]) else
 match nO root p bs n own left e with
 | none=>(5,[])
 | some ws=>(0,ws)
def zZ(p:List UInt8)(n:Nat)(own:List Ow.El)(e:a7):Nat×List (Nat×List UInt8):=
 match fD own e with
 | none=>(6,[])
 | some z=>(0,[(n,gl p z.toNat)])
theorem iX{z:Int}(h:fD own e=some z):(e,z)∈own:=by
 unfold fD at h
 obtain⟨o,ho,rfl⟩:=Eb.1 h
 have h1:=List.mem_of_find?_eq_some ho
 have h2:=List.find?_some ho
 simp only [gq,EZ] at h2
 rw [← h2]
 exact h1
theorem uO(h:fD own e=none): ∀ z,(e,z)∉own:=fun z hz=>by
 unfold fD at h
 rw [Option.map_eq_none_iff,List.find?_eq_none] at h
 exact h _ hz (by simp [gq])
end
structure HomeOk (mem:List UInt8) (bs:List Bn.El) (e:a7) (y:Bn.El) (own:List Ow.El) (left:List Int):Prop where
 hom:Hom bs e y
 num:dg y=lk bs (bG bs e)
 leaf:eL (aQ mem (dg y)) bs (bG bs e)=some (own,left)
 is':LeafIs (aQ mem (dg y)) (fun e=>Hom bs e y) own left
theorem xG{mem:List UInt8}{bs:List Bn.El}(h:IxH mem bs){e:a7}(hm:fk e=true): ∃ y own left,HomeOk mem bs e y own left:=by
 have hi:=eW e h.bnds.pos
 obtain⟨own,left,h1,h2⟩:=xn (h.ix.leaf _ hi)
 rw [sK hi] at h1 h2
 exact⟨bs[bG bs e],own,left,jg h.bnds hm,(sK hi).symm,h1,h2.congr fun e' he'=>je h.bnds he' hi⟩
theorem HomeOk.has{mem:List UInt8}{bs:List Bn.El}(h:IxH mem bs){e:a7}{y:Bn.El}{own:List Ow.El}{left:List Int}(g:HomeOk mem bs e y own left):HasH mem bs e↔(fD own e).isSome=true:=by
 rw [HasH.at h g.hom]
 cases hs:fD own e with
 | none=>
   refine⟨fun⟨j,hj⟩=>absurd ((g.is'.mem (e,(j:Int))).2 ⟨j,e,hj,g.hom,rfl⟩) (uO hs _),fun hc=>by cases hc⟩
 | some z=>
   refine⟨fun _=>rfl,fun _=>?_⟩
   obtain⟨j,e1,h1,_,h3⟩:=(g.is'.mem _).1 (iX hs)
   simp only [Ea] at h3
   rw [h3.1]
   exact⟨j,h1⟩
theorem xC{p it:List UInt8}(h:(gZ p it).2.2=0):gZ p it=((gZ p it).1,(gZ p it).2.1,0):=by rw [← h]
structure InsLaw (mem:List UInt8) (bs:List Bn.El) (e:a7) (no:Nat) (ws:List (Nat×List UInt8)):Prop where
 nos:no=0∨no=14∨no=5
 new:no=0→ws≠ []∧ ¬ HasH mem bs e
 none':no≠0→ws= []
 there:no=14↔HasH mem bs e
 few:ws.length≤4
 fit: ∀ w,w∈ws→w.1<28∧w.2.length=1024
 steps: ∀ m,m≤ws.length→ ∃ bs',IxH (dU mem (ws.take m)) bs'∧ ∀ e',HasH (dU mem (ws.take m)) bs' e'↔HasH mem bs e'∨(no=0∧m=ws.length∧e'=e)
section
variable {e:a7}{bs:List Bn.El}{mem:List UInt8}
theorem InsLaw.refused(h:IxH mem bs){no:Nat}(h1:no=14∨no=5)(h2:no=14↔HasH mem bs e):InsLaw mem bs e no [] where
 nos:= .inr h1
 new:=fun hc=>by omega
 none':=fun _=>rfl
 there:=h2
 few:=En _
 fit:=fun w hw=>absurd hw List.not_mem_nil
 steps:=fun m _=>⟨bs,by rw [List.take_nil];exact h,fun e'=>by
  rw [List.take_nil]
  exact⟨.inl,fun hc=>hc.elim id fun hc=>absurd hc.1 (by omega)⟩⟩
theorem InsLaw.one{mem x:List UInt8}{bs:List Bn.El}(h:IxH mem bs){e:a7}{n:Nat}(hn:n<28)(hx:x.length=1024)(hno: ¬ HasH mem bs e)(k:IxH (bQ mem n x) bs∧ ∀ e',HasH (bQ mem n x) bs e'↔HasH mem bs e'∨e'=e):InsLaw mem bs e 0 [(n,x)] where
 nos:= .inl rfl
 new:=fun _=>⟨by simp,hno⟩
 none':=fun hc=>absurd rfl hc
 there:=⟨fun hc=>(by cases hc),fun hc=>absurd hc hno⟩
 few:=by simp
 fit:=fun w hw=>by
  obtain rfl:=EE.1 hw
  exact⟨hn,hx⟩
 steps:=fun m hml=>by
  rcases Nat.eq_zero_or_pos m with rfl|h3
  ·exact⟨bs,h,fun e'=>⟨.inl,fun hc=>hc.elim id fun hc=>by cases hc.2.1⟩⟩
  ·obtain rfl:m=1:=by simp at hml;omega
   exact⟨bs,k.1,fun e'=>(k.2 e').trans ⟨fun hc=>hc.elim .inl fun hc=> .inr ⟨rfl,rfl,hc⟩,fun hc=>hc.elim .inl fun hc=> .inr hc.2.2⟩⟩
theorem InsLaw.four(h:IxH mem bs){a b c d:Nat×List UInt8}(hno: ¬ HasH mem bs e)(hw: ∀ w,w∈ [a,b,c,d]→w.1<28∧w.2.length=1024)(k1: ∃ bs',IxH (bQ mem a.1 a.2) bs'∧ ∀ e',HasH (bQ mem a.1 a.2) bs' e'↔HasH mem bs e')(k2: ∃ bs',IxH (bQ (bQ mem a.1 a.2) b.1 b.2) bs'∧ ∀ e',HasH (bQ (bQ mem a.1 a.2) b.1 b.2) bs' e'↔HasH mem bs e')(k3: ∃ bs',IxH (bQ (bQ (bQ mem a.1 a.2) b.1 b.2) c.1 c.2) bs'∧ ∀ e',HasH (bQ (bQ (bQ mem a.1 a.2) b.1 b.2) c.1 c.2) bs' e'↔HasH mem bs e')
 (k4: ∃ bs',IxH (bQ (bQ (bQ (bQ mem a.1 a.2) b.1 b.2) c.1 c.2) d.1 d.2) bs'∧ ∀ e',HasH (bQ (bQ (bQ (bQ mem a.1 a.2) b.1 b.2) c.1 c.2) d.1 d.2) bs' e'↔HasH mem bs e'∨e'=e):InsLaw mem bs e 0 [a,b,c,d] where
 nos:= .inl rfl
 new:=fun _=>⟨by simp,hno⟩
 none':=fun hc=>absurd rfl hc
 there:=⟨fun hc=>(by cases hc),fun hc=>absurd hc hno⟩
 few:=by simp
 fit:=hw
 steps:=fun m hml=>by
  have hsame: ∀ {m':Nat} {mem':List UInt8},m'<4→(∃ bs',IxH mem' bs'∧ ∀ e',HasH mem' bs' e'↔HasH mem bs e')→ ∃ bs',IxH mem' bs'∧ ∀ e',HasH mem' bs' e'↔HasH mem bs e'∨(0=0∧m'= [a,b,c,d].length∧e'=e):=fun hm' ⟨bs1,x1,x2⟩=>⟨bs1,x1,fun e'=>(x2 e').trans ⟨.inl,fun hc=>hc.elim id fun hc=>absurd hc.2.1 (Nat.ne_of_lt hm')⟩⟩
  rcases m with _|_|_|_|m
  ·exact hsame (by decide) ⟨bs,h,fun e'=>Iff.rfl⟩
  ·exact hsame (by decide) k1
  ·exact hsame (by decide) k2
  ·exact hsame (by decide) k3
  ·obtain rfl:m=0:=by simp at hml;omega
   obtain⟨bs1,x1,x2⟩:=k4
   exact⟨bs1,x1,fun e'=>(x2 e').trans ⟨fun hc=>hc.elim .inl fun hc=> .inr ⟨rfl,rfl,hc⟩,fun hc=>hc.elim .inl fun hc=> .inr hc.2.2⟩⟩
theorem B9(h:IxH mem bs)(hm:fk e=true){y:Bn.El}{own:List Ow.El}{left:List Int}(g:HomeOk mem bs e y own left){no:Nat}{ws:List (Nat×List UInt8)}(hx:ub (aQ mem 0) (aQ mem (dg y)) bs (dg y) own left e=(no,ws)):InsLaw mem bs e no ws:=by
 have hhas:=g.has h
 obtain⟨_,_,_,hn1,hn2⟩:=h.num g.hom.1
 unfold ub at hx
 split at hx
 ·rename_i h1
  cases hx
  exact .refused h (.inl rfl) ⟨fun _=>hhas.2 h1,fun _=>rfl⟩
 rename_i h1
 have hno: ∀ j,¬ EntAt (aQ mem (dg y)) j e:=fun j hj=>h1 (hhas.1 ((HasH.at h g.hom).2 ⟨j,hj⟩))
 have hnH: ¬ HasH mem bs e:=fun hc=>h1 (hhas.1 hc)
 split at hx
 ·rename_i h2
  cases hx
  obtain⟨w1,w2⟩:=oR (x:=(dG (aQ mem (dg y)) left e).1) (h.leaf y g.hom.1) hm (fun _=>hno) (fun s hs=>(g.is'.rest s).1 hs) (by rw [← h2])
  exact .one h hn2 w1.ok.len hnH (h.more g.hom w1 w2)
 rename_i h2
 split at hx
 ·cases hx
  exact .refused h (.inr rfl) ⟨fun hc=>(by cases hc),fun hc=>absurd hc hnH⟩
 rename_i ws' hpart
 cases hx
 unfold nO at hpart
 split at hpart
 ·cases hpart
 rename_i hfr
 split at hpart
 ·cases hpart
 rename_i hrt
 have hrt:=Classical.not_not.1 hrt
 split at hpart
 ·cases hpart
 rename_i up hup
 have hhalf:own.length / 2≠0:=fun hc=>hfr (.inr hc)
 have hhl:own.length / 2<own.length:=by omega
 have hc0:ef bs≠0:=fun hc=>hfr (.inl hc)
 obtain⟨hc1,hc2,hc3⟩:=(nf bs 27 1).resolve_left hc0
 change 1≤ef bs at hc1
 change ef bs<1+27 at hc2
 change ∀ b,b∈bs→b.1≠(4:Int)+(ef bs:Int)at hc3
 have hgd:own.getD (own.length / 2) (cn,0)=own[own.length / 2]:=by rw [Eg,D5 hhl];rfl
 rw [hgd] at hrt hpart
 have hno': ∀ z,z∈bs→dg z≠ef bs:=fun z hz hc=>by
  obtain⟨_,_,h3,_⟩:=h.num hz
  rw [hc] at h3
  exact hc3 z hz h3
 have hrt':=xC hrt
 obtain⟨s1,bs',s2,s3,s4,s5⟩:=uU h g.hom hm hno g.is' hhalf hhl rfl hc1 (by omega) hno' hup hrt' rfl
 have hupl:up.length=1024:=(oX hup init_leaf (fun o ho=>by
  obtain⟨j,e1,h1,_,h3⟩:=(g.is'.mem o).1 (List.mem_of_mem_drop ho)
  rw [h3]
  exact⟨h1.may,fun j ⟨x,hx,_⟩=>(jQ 3).2 j x hx⟩) ((g.is'.sorted.sublist (List.drop_sublist _ _)).imp fun hab=>iJ hab)).1.ok.len
 have hrtl:=(uc h.root.ok hrt').1.len
 have hsl:te (aQ mem (dg y)) (left ++ (own.drop (own.length / 2)).map (·.2)):=fun t ht=>by
  rcases List.mem_append.1 ht with ht|ht
  ·obtain⟨j,e1,⟨it,h1,_⟩,_,rfl⟩:=(g.is'.rest t).1 ht
   exact⟨it,by simpa using h1⟩
  ·obtain⟨o,ho,rfl⟩:=EV.1 ht
   obtain⟨j,e1,⟨it,h1,_⟩,_,rfl⟩:=(g.is'.mem o).1 (List.mem_of_mem_drop ho)
   exact⟨it,by simpa using h1⟩
 have hlol:(bz (aQ mem (dg y)) (left ++ (own.drop (own.length / 2)).map (·.2))).length=1024:=by
  obtain⟨B,_,l1,_⟩:=di (h.leaf y g.hom.1).ok hsl
  exact l1.len
 have hwl: ∀ {p:List UInt8},Okp p→(dG p [] e).2=true→(dG p [] e).1.length=1024:=fun {p} hp hw=>by
  unfold dG at hw ⊢
  split
  ·rename_i h5
   exact(eM hp.len (nc h5)).1.len
  ·rename_i h5
   rw [Ey h5] at hw
   simp only [EZ] at hw
   obtain⟨B,_,l1,_⟩:=di hp (S:= []) (fun s hs=>absurd hs List.not_mem_nil)
   exact(eM l1.len (nc hw)).1.len
 have hupO:=(oX hup init_leaf (fun o ho=>by
  obtain⟨j,e1,h1,_,h3⟩:=(g.is'.mem o).1 (List.mem_of_mem_drop ho)
  rw [h3]
  exact⟨h1.may,fun j ⟨x,hx,_⟩=>(jQ 3).2 j x hx⟩) ((g.is'.sorted.sublist (List.drop_sublist _ _)).imp fun hab=>iJ hab)).1.ok
 have hloO:Okp (bz (aQ mem (dg y)) (left ++ (own.drop (own.length / 2)).map (·.2))):=by
  obtain⟨B,_,l1,_⟩:=di (h.leaf y g.hom.1).ok hsl
  exact l1
 have hfit: ∀ {n:Nat} {x:List UInt8},n<28→x.length=1024→ ∀ w,w∈ [(ef bs,up),(0,(gZ (aQ mem 0) (UInt8.ofNat (ef bs) :: bn own[own.length / 2].1)).1),(dg y,bz (aQ mem (dg y)) (left ++ (own.drop (own.length / 2)).map (·.2))),(n,x)]→w.1<28∧w.2.length=1024:=fun hn hx w hw=>by
  simp only [EN,List.not_mem_nil,or_false] at hw
  rcases hw with rfl|rfl|rfl|rfl
  ·exact⟨by show ef bs<28;omega,hupl⟩
  ·exact⟨Nat.zero_lt_succ 27,hrtl⟩
  ·exact⟨hn2,hlol⟩
  ·exact⟨hn,hx⟩
 split at hpart
 ·rename_i hl
  split at hpart
  ·rename_i hw
   cases hpart
   exact .four h hnH (hfit hn2 (hwl hloO hw)) ⟨bs,s1⟩ ⟨bs',s2⟩ ⟨bs',s3⟩ ⟨bs',s4 hl _ (by rw [← hw])⟩
  ·cases hpart
 ·rename_i hl
  split at hpart
  ·rename_i hw
   cases hpart
   exact .four h hnH (hfit (by omega) (hwl hupO hw)) ⟨bs,s1⟩ ⟨bs',s2⟩ ⟨bs',s3⟩ ⟨bs',s5 (by cases hc:bj e own[own.length / 2].1 with|true=>exact absurd hc hl|false=>rfl) _ (by rw [← hw])⟩
  ·cases hpart
end
structure DelLaw (mem:List UInt8) (bs:List Bn.El) (e:a7) (no:Nat) (ws:List (Nat×List UInt8)):Prop where
 nos:no=0∨no=6
 none':no≠0→ws= []
 one:no=0→ws.length=1
 there:no=0↔HasH mem bs e
 fit: ∀ w,w∈ws→w.1<28∧w.2.length=1024
 steps: ∀ m,m≤ws.length→IxH (dU mem (ws.take m)) bs∧ ∀ e',HasH (dU mem (ws.take m)) bs e'↔HasH mem bs e'∧ ¬ (no=0∧m=ws.length∧e'=e)
section
variable {H:aw}{e:a7}{s:SV}{n no nx:Nat}{left:List Int}{bs:List Bn.El}{it mem:List UInt8}{own:List Ow.El}{p:List UInt8}{ws:List (Nat×List UInt8)}
theorem Cl(h:IxH mem bs){y:Bn.El}(g:HomeOk mem bs e y own left)(hx:zZ (aQ mem (dg y)) (dg y) own e=(no,ws)):DelLaw mem bs e no ws:=by
 have hhas:=g.has h
 obtain⟨_,_,_,hn1,hn2⟩:=h.num g.hom.1
 unfold zZ at hx
 split at hx
 ·rename_i h1
  cases hx
  rw [h1] at hhas
  exact⟨.inr rfl,fun _=>rfl,fun hc=>(by cases hc),⟨fun hc=>(by cases hc),fun hc=>by cases hhas.1 hc⟩,fun w hw=>absurd hw List.not_mem_nil,fun m _=>by
   rw [List.take_nil]
   exact⟨h,fun e'=>⟨fun hc=>⟨hc,fun hc=>by cases hc.1⟩,fun hc=>hc.1⟩⟩⟩
 ·rename_i z h1
  cases hx
  obtain⟨j,e1,h2,_,h3⟩:=(g.is'.mem _).1 (iX h1)
  simp only [Ea] at h3
  obtain⟨rfl,rfl⟩:=h3
  obtain⟨it,h4,h5⟩:=h2
  have hp:=h.leaf y g.hom.1
  have hd:=lx hp.ok h4
  rw [EQ]
  obtain⟨a1,a2,a3⟩:=jl hp.ok.len hd
  obtain⟨m1,m2⟩:=qR (S:= [j]) hp (W':=fun e=>Hom bs e y) (fun _ _ hw=>hw) a1 a2 (fun j' x=>by rw [a3,EE])
  have hf:=h.fewer g.hom m1 (fun e' he'=>by
   constructor
   ·rintro⟨j',hj'⟩
    have h6:=(m2 j' e').1 hj'
    refine⟨fun hc=>h6.1 ?_,j',h6.2⟩
    rw [hc] at h6
    rw [hp.one j' j e g.hom h6.2 ⟨it,h4,h5⟩]
    exact EE.2 rfl
   ·rintro⟨h6,j',hj'⟩
    refine⟨j',(m2 j' e').2 ⟨fun hc=>h6 ?_,hj'⟩⟩
    rw [EE.1 hc] at hj'
    exact hj'.uniq ⟨it,h4,h5⟩)
  refine⟨.inl rfl,fun hc=>absurd rfl hc,fun _=>rfl,⟨fun _=>hhas.2 (by rw [h1];rfl),fun _=>rfl⟩,fun w hw=>by
   obtain rfl:=EE.1 hw
   exact⟨hn2,a1.len⟩,fun m hml=>?_⟩
  rcases Nat.eq_zero_or_pos m with rfl|h6
  ·exact⟨h,fun e'=>⟨fun hc=>⟨hc,fun hc=>by cases hc.2.1⟩,fun hc=>hc.1⟩⟩
  ·obtain rfl:m=1:=by simp at hml;omega
   exact⟨hf.1,fun e'=>(hf.2 e').trans ⟨fun hc=>⟨hc.1,fun hd=>hc.2 hd.2.2⟩,fun hc=>⟨hc.1,fun hd=>hc.2 ⟨rfl,rfl,hd⟩⟩⟩⟩
theorem zO{rt:List UInt8}{s:Nat}(hm:mem.length=28672)(h0:aQ mem 0=rt)(h1:aQ mem 1=dm 3)(hr:eX (dm 2) [1]=(rt,s,0)): ∃ bs,IxH mem bs∧ ∀ e,¬ HasH mem bs e:=by
 obtain⟨a1,a2,_,a3⟩:=eM (cM 2) hr
 obtain⟨_,i2⟩:=jQ 2
 have hit: ∀ j x,ItAt rt j x↔j=s∧x= [1]:=fun j x=>by
  rw [a3]
  exact⟨fun hc=>hc.elim id fun hc=>absurd hc (i2 j x),.inl⟩
 have hb:Af [1]=some (1,cn):=by rfl
 have hB: ∀ j k e,e6 rt j k e↔j=s∧k=1∧e=cn:=fun j k e=>by
  constructor
  ·rintro⟨x,hx,hbx⟩
   obtain⟨rfl,rfl⟩:=(hit j x).1 hx
   rw [hb] at hbx
   cases hbx
   exact⟨rfl,rfl,rfl⟩
  ·rintro⟨rfl,rfl,rfl⟩
   exact⟨[1],(hit _ _).2 ⟨rfl,rfl⟩,hb⟩
 have hroot:RootOk rt:=⟨a1,a2.trans (by kernel_rfl),fun j x hx=>by
  obtain⟨_,rfl⟩:=(hit j x).1 hx
  exact⟨1,cn,hb⟩,fun j j' k e e' g g'=>((hB _ _ _).1 g).1.trans ((hB _ _ _).1 g').1.symm,fun j j' k k' e g g'=>((hB _ _ _).1 g).1.trans ((hB _ _ _).1 g').1.symm,⟨s,1,(hB _ _ _).2 ⟨rfl,rfl,rfl⟩⟩⟩
 rw [← h0] at hroot
 obtain⟨bs,b1,b2,b3⟩:=sj hroot
 have hbs: ∀ x,x∈bs→dg x=1:=fun x hx=>by
  obtain⟨j,k,e,g1,g2⟩:=(b3 x).1 hx
  rw [h0] at g1
  obtain⟨_,rfl,_⟩:=(hB _ _ _).1 g1
  rw [g2]
  rfl
 have hno: ∀ j e,¬ EntAt (dm 3) j e:=fun j e ⟨x,hx,_⟩=>(jQ 3).2 j x hx
 refine⟨bs,⟨hm,hroot,b1,b2,b3,fun x hx=>?_⟩,fun e ⟨x,hx,j,hj⟩=>?_⟩
 ·rw [hbs x hx,h1]
  exact init_leaf.congr fun _ _ _=>trivial
 ·rw [hbs x hx.1,h1] at hj
  exact hno j e hj
theorem xy(h:Okp p)(hno: ∀ j x,¬ ItAt (fY p) j x)(h1:1≤it.length)(h2:it.length≤1000):(eX (fY p) it).2.2=0:=by
 have g:=AI h
 have ho:=Packed.ok h g
 have hs:aj (fY p)=0:=by
  rcases Nat.eq_zero_or_pos (aj (fY p))with h3|h3
  ·exact h3
  ·exact absurd ⟨by omega,ho.last h3,rfl⟩ (hno (aj (fY p)-1) (cd (fY p) (aj (fY p)-1)))
 have hb:aM (fY p)=1024:=by
  rw [g.begins,←g.slots,hs]
  rfl
 unfold eX
 rw [Ey (by rw [(df ho.len).2 ho];decide),Ey (by omega),Ey]
 unfold ke
 rw [hs,hb]
 split <;> omega
theorem v9{W:a7→Prop}(h:LeafOk p W)(hL:LeafIs p W own left)(hm:fk e=true)(hown: ∀ j e',EntAt p j e'→ ¬ W e'):(dG p left e).2=true:=by
 unfold dG
 split
 ·rfl
 ·rw [EZ]
  have hsl:te p left:=fun s hs=>by
   obtain⟨j,e',⟨it,h2,_⟩,_,rfl⟩:=(hL.rest s).1 hs
   exact⟨it,by simpa using h2⟩
  obtain⟨B,hB,b1,b2,b3⟩:=di h.ok hsl
  obtain⟨B',hB',c1,c2,c3⟩:=gj h.ok left p [] h.ok rfl (fun j x=>⟨fun g=>⟨List.not_mem_nil,g⟩,fun g=>g.2⟩) hsl
  have hpk:eU (cV p left)=(fY (cV p left),0):=by unfold eU;rw [Ez ((df c1.len).2 c1)]
  have hw:bz p left=fY (cV p left):=by unfold bz;rw [hpk,Ez rfl]
  rw [hw] at b3 ⊢
  have hl:=fM e
  have hmm:=(gU.1 hm).1
  refine xy c1 (fun j x hx=>?_) (by omega) (by omega)
  obtain⟨g1,g2⟩:=(b3 j x).1 hx
  obtain⟨e',he'⟩:=h.all j x g2
  have hE:EntAt p j e':=⟨x,g2,he'⟩
  exact g1 ((hB j).2 ⟨(j:Int),(hL.rest _).2 ⟨j,e',hE,hown j e' hE,rfl⟩,by simp⟩)
def fH(left:Int)(n:Nat):Nat:=if 0≤left∧left.toNat<n then left.toNat else n
def gw(left:Int)(n no:Nat):Nat:=if 0≤left∧left.toNat<n then 8 else no
theorem sV(left:Int)(n:Nat):fH left n≤n:=by
 unfold fH
 split <;> omega
theorem zR(h:InsLaw mem bs e no ws)(left:Int) :
 (gw left ws.length no=0∨gw left ws.length no=14∨gw left ws.length no=5∨gw left ws.length no=8)∧(left<0→gw left ws.length no≠8)∧(gw left ws.length no=14↔HasH mem bs e)∧(gw left ws.length no=0→ ¬ HasH mem bs e) ∧
 ∃ bs',IxH (dU mem (ws.take (fH left ws.length))) bs'∧ ∀ e',HasH (dU mem (ws.take (fH left ws.length))) bs' e'↔HasH mem bs e'∨(gw left ws.length no=0∧e'=e):=by
 obtain⟨bs',h1,h2⟩:=h.steps _ (sV left ws.length)
 by_cases hc:0≤left∧left.toNat<ws.length
 ·have hn:fH left ws.length=left.toNat:=Ez hc
  have he:gw left ws.length no=8:=Ez hc
  have h0:no=0:=by
   rcases Nat.eq_zero_or_pos no with h3|h3
   ·exact h3
   ·have:=h.none' (by omega)
    rw [this] at hc
    exact absurd hc.2 (Nat.not_lt_zero _)
  have hno:=(h.new h0).2
  refine⟨.inr (.inr (.inr he)),fun hl=>by omega,⟨fun h3=>by omega,fun h3=>absurd h3 hno⟩,fun h3=>by omega,bs',h1,fun e'=>(h2 e').trans ⟨fun h3=>h3.elim .inl fun h3=>by rw [hn] at h3;omega,fun h3=>h3.elim .inl fun h3=>by omega⟩⟩
 ·have hn:fH left ws.length=ws.length:=Ey hc
  have he:gw left ws.length no=no:=Ey hc
  rw [he]
  refine⟨by rcases h.nos with h3|h3|h3 <;> omega,fun _=>by rcases h.nos with h3|h3|h3 <;> omega,h.there,fun h3=>(h.new h3).2,bs',h1,fun e'=>(h2 e').trans ⟨fun h3=>h3.elim .inl fun h3=> .inr ⟨h3.1,h3.2.2⟩,fun h3=>h3.elim .inl fun h3=> .inr ⟨h3.1,hn,h3.2⟩⟩⟩
theorem zY(h:DelLaw mem bs e no ws)(left:Int) :
 (gw left ws.length no=0∨gw left ws.length no=6∨gw left ws.length no=8)∧(left<0→gw left ws.length no≠8)∧(gw left ws.length no=6↔ ¬ HasH mem bs e)∧(gw left ws.length no=0→HasH mem bs e) ∧
 IxH (dU mem (ws.take (fH left ws.length))) bs∧ ∀ e',HasH (dU mem (ws.take (fH left ws.length))) bs e'↔HasH mem bs e'∧ ¬ (gw left ws.length no=0∧e'=e):=by
 obtain⟨h1,h2⟩:=h.steps _ (sV left ws.length)
 by_cases hc:0≤left∧left.toNat<ws.length
 ·have hn:fH left ws.length=left.toNat:=Ez hc
  have he:gw left ws.length no=8:=Ez hc
  have h0:no=0:=by
   rcases Nat.eq_zero_or_pos no with h3|h3
   ·exact h3
   ·have:=h.none' (by omega)
    rw [this] at hc
    exact absurd hc.2 (Nat.not_lt_zero _)
  have hh:=h.there.1 h0
  refine⟨.inr (.inr he),fun hl=>by omega,⟨fun h3=>by omega,fun h3=>absurd hh h3⟩,fun h3=>by omega,h1,fun e'=>(h2 e').trans ⟨fun h3=>⟨h3.1,fun h4=>by omega⟩,fun h3=>⟨h3.1,fun h4=>by rw [hn] at h4;omega⟩⟩⟩
 ·have hn:fH left ws.length=ws.length:=Ey hc
  have he:gw left ws.length no=no:=Ey hc
  rw [he]
  refine⟨by rcases h.nos with h3|h3 <;> omega,fun _=>by rcases h.nos with h3|h3 <;> omega,⟨fun h3 h4=>by have:=h.there.2 h4;omega,fun h3=>h.nos.resolve_left fun h4=>h3 (h.there.1 h4)⟩,h.there.1,h1,fun e'=>(h2 e').trans ⟨fun h3=>⟨h3.1,fun h4=>h3.2 ⟨h4.1,hn,h4.2⟩⟩,fun h3=>⟨h3.1,fun h4=>h3.2 ⟨h4.1,h4.2.2⟩⟩⟩⟩
theorem tA{A:Type}: ∀ {a b:List A},a.Nodup→b.Nodup→(∀ x,x∈a↔x∈b)→a.length=b.length
 | [],[],_,_,_=>rfl
 | [],y :: b,_,_,h=>absurd ((h y).2 EG) (by simp)
 | x :: a,b,ha,hb,h=>by
   obtain⟨s,t,rfl⟩:=List.append_of_mem ((h x).1 EG)
   have hp:(s ++ x :: t).Perm (x :: (s ++ t)):=List.perm_middle
   have hb':=hp.nodup_iff.1 hb
   rw [List.nodup_cons] at ha hb'
   have:=tA ha.2 hb'.2 fun y=>by
    have h1:=h y
    rw [hp.mem_iff,EN,EN] at h1
    constructor
    ·intro hy
     exact(h1.1 (.inr hy)).resolve_left fun hc=>ha.1 (hc ▸ hy)
    ·intro hy
     exact(h1.2 (.inr hy)).resolve_left fun hc=>hb'.1 (hc ▸ hy)
   rw [hp.length_eq,Ep,Ep,this]
theorem mD{a:List a7}(h:a.Pairwise fun x y=>bj x y=true):a.Nodup:=h.imp fun hab=>iJ hab
theorem fG(hp:p.length=1024):(eX p it).1.length=1024:=by
 by_cases h1:cr p=false
 ·rw [eX,Ez h1];exact ac
 by_cases h2: ¬ (1≤it.length∧it.length≤1000)
 ·rw [eX,Ey h1,Ez h2];exact ac
 by_cases h3:ke p<it.length
 ·rw [eX,Ey h1,Ey h2,Ez h3];exact ac
 ·have h:eX p it=(nP p it,a8 p,0):=by rw [eX,Ey h1,Ey h2,Ey h3]
  rw [h]
  exact(eM hp h).1.len
theorem kj(hp:p.length=1024):(eU p).1.length=1024:=by
 by_cases h:cr p=true
 ·rw [eU,Ez h];exact(li ((df hp).1 h)).1.len
 ·rw [eU,Ey h];exact ac
theorem rA(hp:p.length=1024)(h:(eg p n).2=0):(eg p n).1.length=1024:=by
 have he:eg p n=((eg p n).1,0):=by rw [← h]
 exact(jl hp he).1.len
theorem oz(hp:p.length=1024):(eg p n).1.length=1024:=by
 by_cases h:(eg p n).2=0
 ·exact rA hp h
 ·by_cases h1:cr p=false
  ·rw [eg,Ez h1];exact ac
  by_cases h2:(kE p n).2.2≠0
  ·rw [eg,Ey h1,Ez h2];exact ac
  ·exact absurd (by rw [eg,Ey h1,Ey h2]) h
theorem jk: ∀ (S:List Int) {p:List UInt8},p.length=1024→(cV p S).length=1024
 | [],_,hp=>hp
 | s :: S,p,hp=>by
   unfold cV
   refine jk S ?_
   split
   ·rename_i h
    exact rA hp h
   ·exact hp
theorem nl: ∀ (S:List Int) (p:List UInt8) (s:Int),cV p (S ++ [s])=if(eg (cV p S) s.toNat).2=0 then(eg (cV p S) s.toNat).1 else cV p S
 | [],p,s=>rfl
 | a :: S,p,s=>nl S _ s
theorem ir(hp:p.length=1024)(S:List Int):(bz p S).length=1024:=by
 unfold bz
 have h:=jk S hp
 split
 ·exact kj h
 ·exact h
theorem mu(hp:p.length=1024)(S:List Int)(e:a7):(dG p S e).1.length=1024:=by
 unfold dG
 split
 ·exact fG hp
 ·exact fG (ir hp S)
theorem xB(hp:p.length=1024):(gZ p it).1.length=1024:=by
 unfold gZ
 split
 ·exact fG hp
 ·split
  ·exact ac
  ·exact fG (kj hp)
theorem ql: ∀ {l:List Ow.El} {x:List UInt8} (i:Nat) {y:List UInt8} (hi:i<l.length),qm (l.take i) x=some y→(eX y (bn (l[i]).1)).2.2≠0→qm l x=none
 | [],x,i,y,hi,_,_=>absurd hi (Nat.not_lt_zero _)
 | o :: l,x,0,y,hi,h,hn=>by
   cases h
   unfold qm
   exact Ey hn
 | o :: l,x,i+1,y,hi,h,hn=>by
   rw [List.take_succ_cons] at h
   unfold qm at h ⊢
   split
   ·rename_i h0
    rw [Ez h0] at h
    exact ql i (Nat.lt_of_succ_lt_succ hi) h hn
   ·rfl
theorem qk: ∀ {l:List Ow.El} {x y:List UInt8} {o:Ow.El},qm l x=some y→(eX y (bn o.1)).2.2=0→qm (l ++ [o]) x=some (eX y (bn o.1)).1
 | [],x,y,o,h,h0=>by
   cases h
   show qm [o] x=_
   unfold qm
   rw [Ez h0]
   rfl
 | a :: l,x,y,o,h,h0=>by
   rw [List.cons_append]
   unfold qm at h ⊢
   split
   ·rename_i h1
    rw [Ez h1] at h
    exact qk h h0
   ·rename_i h1
    rw [Ey h1] at h
    cases h
theorem zS(bs:List Bn.El):ef bs<28:=by
 rcases nf bs 27 1 with h|h
 ·unfold ef;omega
 ·unfold ef;omega
theorem pt{root:List UInt8}(h:ef bs=0∨own.length / 2=0):nO root p bs n own left e=none:=Ez h
theorem zw{root:List UInt8}{F h:Nat}{f:a7}(hF:ef bs=F)(hh:own.length / 2=h)(h0:F≠0)(h1:h≠0)(h2:h<own.length)(hf:(own[h]).1=f):nO root p bs n own left e=if(gZ root (UInt8.ofNat F :: bn f)).2.2≠0 then none else
 match qm (own.drop h) (dm 3)with
 | none=>none
 | some up=>
   if bj e f=true then
    (if(dG (bz p (left ++ (own.drop h).map (·.2))) [] e).2=true then
      some [(F,up),(0,(gZ root (UInt8.ofNat F :: bn f)).1),(n,bz p (left ++ (own.drop h).map (·.2))),(n,(dG (bz p (left ++ (own.drop h).map (·.2))) [] e).1)]
    else none)
   else
    (if(dG up [] e).2=true then
      some [(F,up),(0,(gZ root (UInt8.ofNat F :: bn f)).1),(n,bz p (left ++ (own.drop h).map (·.2))),(F,(dG up [] e).1)]
    else none):=by
 have hd:(own.getD h (cn,0)).1=f:=by rw [Eg,D5 h2];exact hf
 have hn: ¬ (ef bs=0∨own.length / 2=0):=by omega
 unfold nO
 rw [Ey hn,hF,hh,hd] <;> rfl
theorem uS(mem:List UInt8): ∀ (ws:List (Nat×List UInt8)) (i:Nat) (hi:i<ws.length),dU mem (ws.take (i+1))=bQ (dU mem (ws.take i)) (ws[i]).1 (ws[i]).2:=by
 intro ws
 induction ws generalizing mem with
 | nil=>intro i hi;exact absurd hi (Nat.not_lt_zero _)
 | cons w ws ih=>
   intro i hi
   cases i with
   | zero=>rfl
   | succ i=>exact ih (bQ mem w.1 w.2) i (Nat.lt_of_succ_lt_succ hi)
theorem wP(hm:mem.length=28672): ∀ (ws:List (Nat×List UInt8)),(∀ w,w∈ws→w.1<28∧w.2.length=1024)→(dU mem ws).length=28672:=by
 intro ws
 induction ws generalizing mem with
 | nil=>intro _;exact hm
 | cons w ws ih=>
   intro h
   obtain⟨h1,h2⟩:=h w EG
   exact ih (j7 hm h1 h2) fun v hv=>h v (EH _ hv)
theorem oh{p:List UInt8}{bs:List Bn.El}{i:Nat}: ∀ {j:Nat} {own:List Ow.El} {left:List Int},cU p bs i j=some (own,left)→(∀ o,o∈own→fk o.1=true∧0≤o.2)∧ ∀ x,x∈left→0≤x
 | 0,own,left,h=>by
   unfold cU at h
   cases h
   exact⟨fun o ho=>by simp at ho,fun x hx=>by simp at hx⟩
 | j+1,own,left,h=>by
   unfold cU at h
   cases hr:cU p bs i j with
   | none=>rw [hr] at h;cases h
   | some y=>
     obtain⟨o,l⟩:=y
     obtain⟨h1,h2⟩:=oh hr
     rw [hr] at h
     simp only at h
     split at h
     ·cases h;exact⟨h1,h2⟩
     ·cases hb:ofL (cd p j)with
      | none=>rw [hb] at h;cases h
      | some e=>
        rw [hb] at h
        simp only at h
        split at h
        ·cases h
         refine⟨fun a ha=>?_,h2⟩
         rcases List.mem_append.1 ha with ha|ha
         ·exact h1 a ha
         ·rw [EE.1 ha]
          exact⟨sF hb,Int.natCast_nonneg j⟩
        ·cases h
         refine⟨h1,fun a ha=>?_⟩
         rcases List.mem_append.1 ha with ha|ha
         ·exact h2 a ha
         ·rw [EE.1 ha]
          exact Int.natCast_nonneg j
theorem qT{i:Nat}(h:eL p bs i=some (own,left)):(∀ o,o∈own→fk o.1=true∧0≤o.2)∧ ∀ x,x∈left→0≤x:=by
 unfold eL at h
 split at h
 ·cases hr:cU p bs i (aj p)with
  | none=>rw [hr] at h;cases h
  | some y=>
    obtain⟨o,l⟩:=y
    rw [hr] at h
    simp only at h
    split at h
    ·cases h
    ·cases h
     obtain⟨h1,h2⟩:=oh hr
     exact⟨fun a ha=>h1 a ((kW o).1.mem_iff.1 ha),h2⟩
 ·cases h
abbrev atO(p:List UInt8)(j:Nat):VO:=am 3 [.sc (.int .i64 ((1024-cg p j:Nat):Int))]
theorem Dn(hp:p.length=1024):Fnc Tryz.prog 103 [.agg (pgS p)] H nx (fun q=>q.1=pgE (eU p)∧nx≤q.2.2∧ ∀ m,m<nx→q.2.1.at' m=H.at' m):=by
 refine E2 Tryz.func103 rfl rfl ?_
 refine a9 fun hund=>?_
 repeat first|refine eR (aW dN) rfl rfl rfl ?_|apply ae;rfl
 have hb1:((H.set nx (pgO p)).set (nx+1) (pgO zeroP)).at' nx=some (pgO p):=by repeat(first|exact ah|refine aa (by omega) ?_)
 have hz1:((H.set nx (pgO p)).set (nx+1) (pgO zeroP)).at' (nx+1)=some (pgO zeroP):=by repeat(exact ah)
 have ho1: ∀ m,m<nx→((H.set nx (pgO p)).set (nx+1) (pgO zeroP)).at' m=H.at' m:=fun m hm=>by(repeat(refine aa (by omega) ?_));rfl
 have hrs:=fun nx'=>jI (nx:=nx') hb1 hp
 generalize (H.set nx (pgO p)).set (nx+1) (pgO zeroP)=H1 at hb1 hz1 ho1 hrs ⊢
 cases hr:cr p with
 | false=>
   rw [hr] at hrs
   have hv:eU p=(zeroP,4):=by unfold eU;rw [Ey (by rw [hr];decide)]
   repeat first|apply ae;rfl|apply aR;rfl;assumption;rfl|apply cH;rfl;kernel_rfl;exact hrs _|refine cv rfl rfl f9 ?_
   ((apply bv Tryz.func103 (congrArg Array.toList Tryz.results103));(focus((apply E4 rfl (E6 (F.ag _ rfl) (by repeat(exact ah)) (bH ac)));(repeat(first|exact E3|apply E5 rfl)))))
   exact⟨by rw [hv];rfl,by dsimp only;omega,fun m hm=>(ab _ _ (by omega)).trans (ho1 m hm)⟩
 | true=>
   rw [hr] at hrs
   have hv:eU p=(fY p,0):=by unfold eU;rw [Ez hr]
   have hok:=(df hp).1 hr
   have hh:=hok.head
   have ht:=hok.top
   have hsum:=hok.sum_le
   repeat first|apply ae;rfl|apply cH;rfl;kernel_rfl;exact hrs _|refine eR (aW dN) rfl rfl rfl ?_
   have hb2:(H1.set (nx+1+1) (pgO zeroP)).at' nx=some (pgO p):=by repeat(first|assumption|refine aa (by omega) ?_)
   have hz2:(H1.set (nx+1+1) (pgO zeroP)).at' (nx+1)=some (pgO zeroP):=by repeat(first|assumption|refine aa (by omega) ?_)
   have hq2:(H1.set (nx+1+1) (pgO zeroP)).at' (nx+1+1)=some (pgO zeroP):=by repeat(exact ah)
   have ho2: ∀ m,m<nx→(H1.set (nx+1+1) (pgO zeroP)).at' m=H.at' m:=fun m hm=>(ab _ _ (by omega)).trans (ho1 m hm)
   generalize H1.set (nx+1+1) (pgO zeroP)=H2 at hb2 hz2 hq2 ho2 ⊢
   have htl:(p.take (18+4*aj p)).length=18+4*aj p:=by rw [EC];omega
   have hzl:=ac
   have hbs:BsIs H2 (.sl nx 0 (18+4*aj p) 1024) (byV (p.take (18+4*aj p))):=by
    have:=s9 (b:=nx) (p:=p) (o:=0) (m:=18+4*aj p) (C:=1024) hb2 (by omega)
    rw [List.drop_zero] at this
    exact this
   (apply cR;(focus(kernel_rfl));(focus(kernel_rfl)))
   repeat first|apply dn;rfl;rfl;exact(fun _ h=>by cases h);exact(mH (l:=0) (h:=1024) (F.un _ rfl) (F.sz _ rfl) rfl rfl rfl (by omega) (by omega) (by omega) (show 1024-0=1024 from rfl) rfl rfl)|apply eZ;rfl;rfl;rfl;(focus(kernel_rfl));exact(gP hb2 hp)|apply dn;rfl;rfl;exact(fun _ h=>by cases h);exact(mH (l:=0) (h:=18+4*aj p) (F.un _ rfl) (F.sz _ rfl) rfl rfl rfl (by omega) (by omega) (by omega) (show 18+4*aj p-0=18+4*aj p from rfl) rfl rfl)|apply oA;rfl;rfl;exact(fun _ h=>by cases h);exact(tQ (vs:=byV (p.take (18+4*aj p))) (F.un _ rfl) (F.sz _ rfl) rfl rfl hq2 hbs (by rw [fu];omega) (by rw [bf ac,fu];omega))|refine bq (ak rfl rfl (.inl ⟨rfl,(D3 _ ⟨(by focus(omega)),(by focus(omega))⟩).symm⟩)) rfl rfl rfl ?_|refine bq (ak rfl rfl (.inr (.inr ⟨rfl,(D3 _ ⟨(by focus(omega)),(by focus(omega))⟩).symm⟩))) rfl rfl rfl ?_
   refine ay ⟨by kernel_rfl,?_,?_⟩;(focus(repeat(first|exact Gc|apply mh;rfl|refine⟨.inr ⟨0,by kernel_rfl,AllH.all (fun _=>(by(exact ak rfl rfl (.inl ⟨rfl,(D3 _ ⟨by omega,by omega⟩).symm⟩)))) _⟩,?_⟩|refine jC 0 rfl (by kernel_rfl) (by(repeat(refine⟨(by first|exact mH (l:=0) (h:=1024) (F.un _ rfl) (F.sz _ rfl) rfl rfl rfl (by omega) (by omega) (by omega) (show 1024-0=1024 from rfl) rfl rfl|exact mH (l:=0) (h:=18+4*aj p) (F.un _ rfl) (F.sz _ rfl) rfl rfl rfl (by omega) (by omega) (by omega) (show 18+4*aj p-0=18+4*aj p from rfl) rfl rfl),?_⟩));exact Gc) ?_|apply xS;kernel_rfl)))
   dsimp only
   rw [mR (p:=zeroP) (o:=0) (l:=p.take (18+4*aj p)) rfl]
   have hb3:(H2.set (nx+1+1) (pgO (eJ zeroP 0 (p.take (18+4*aj p))))).at' nx=some (pgO p):=by repeat(first|assumption|refine aa (by omega) ?_)
   have hz3:(H2.set (nx+1+1) (pgO (eJ zeroP 0 (p.take (18+4*aj p))))).at' (nx+1)=some (pgO zeroP):=by repeat(first|assumption|refine aa (by omega) ?_)
   have hq3:(H2.set (nx+1+1) (pgO (eJ zeroP 0 (p.take (18+4*aj p))))).at' (nx+1+1)=some (pgO (cw p 0)):=au _ _ _
   have ho3: ∀ m,m<nx→(H2.set (nx+1+1) (pgO (eJ zeroP 0 (p.take (18+4*aj p))))).at' m=H.at' m:=fun m hm=>(ab _ _ (by omega)).trans (ho2 m hm)
   generalize H2.set (nx+1+1) (pgO (eJ zeroP 0 (p.take (18+4*aj p))))=H3 at hb3 hz3 hq3 ho3 ⊢
   clear hb2 hz2 hq2 ho2 hbs hb1 hz1 ho1 hrs
   repeat first|apply dc hp;rfl;(focus((repeat(first|assumption|refine aa (by omega) ?_));done))|apply ae;rfl|apply aR;rfl;(focus((repeat(exact ah));done));rfl|apply cH;rfl;kernel_rfl;exact sO hp
   rw [hr]
   obtain⟨q0,hq0⟩: ∃ q0,q0=nx+1+1+1+1:=⟨_,rfl⟩
   rw [← hq0]
   refine im (R:=fun H4 n4=>n4=q0+1+1∧H4.at' q0=some (pgO p)∧H4.at' (q0+1)=some (am 4 [.sc (.bool true)])∧H4.at' nx=some (pgO p)∧H4.at' (nx+1)=some (pgO zeroP)∧H4.at' (nx+1+1)=some (pgO (cw p 0))∧H4.at' (nx+1+1+1)=some (atO p 0)∧ ∀ m,m<nx→H4.at' m=H.at' m)
    ⟨rfl,by repeat(first|exact ah|refine aa (by omega) ?_),by repeat(exact ah),by repeat(first|assumption|refine aa (by omega) ?_),by repeat(first|assumption|refine aa (by omega) ?_),by repeat(first|assumption|refine aa (by omega) ?_),by repeat(first|exact ah|refine aa (by omega) ?_),fun m hm=>by(repeat(refine aa (by omega) ?_));exact ho3 m hm⟩ ?_
   rintro H4 n4 ⟨rfl,m0,m1,m2,m4,m5,m6,mo⟩
   clear hb3 hz3 hq3 ho3
   refine jE [(1,.ptr nx 0),(2,.ptr (nx+1) 0),(4,.ptr (nx+1+1) 0),(5,.ptr (nx+1+1+1) 0)] rfl rfl (by kernel_rfl) (E8 (Gb rfl)) ?_
   intro cA cB hcA hcB
   refine E1 (sN (l:=q0+1+1+1) (f:=q0+1) (q:=q0) hp hr (f2:=103) (nt2:=37) (T2:=slT [(1,.ptr nx 0),(2,.ptr (nx+1) 0),(4,.ptr (nx+1+1) 0),(5,.ptr (nx+1+1+1) 0)]) (ps:= #[19,20]) (ca:=cA) (cb:=cB) (dr:=q0+1+1) rfl
    (fun j H5 n5=>H5.at' (q0+1+1+1)=some (.loop .ready none 103 37 (slT [(1,.ptr nx 0),(2,.ptr (nx+1) 0),(4,.ptr (nx+1+1) 0),(5,.ptr (nx+1+1+1) 0)]) #[19,20] cA cB (q0+1+1))∧H5.at' (q0+1)=some (am 4 [.sc (.bool true)])∧H5.at' q0=some (pgO p)∧q0+1+1+1+1≤n5∧H5.at' nx=some (pgO p)∧H5.at' (nx+1)=some (pgO zeroP)∧H5.at' (nx+1+1)=some (pgO (cw p j))∧H5.at' (nx+1+1+1)=some (atO p j)∧H5.at' (q0+1+1)=some (.dfd (some []))∧ ∀ m,m<nx→H5.at' m=H.at' m)
    (fun _ _=>False)
    ?_ ?_ ?_ ?_ ?_) ?_
   ·rintro j H5 n5 ⟨i1,i2,i3,i4,_⟩
    exact⟨i1,i2,i3,by omega,by omega,by omega⟩
   ·rintro j H5 n5 H6 n6 ⟨i1,i2,i3,i4,i5,i6,i7,i8,i9,i10⟩ hle hs
    exact⟨(hs _ (by omega)).trans i1,(hs _ (by omega)).trans i2,(hs _ (by omega)).trans i3,by omega,(hs _ (by omega)).trans i5,(hs _ (by omega)).trans i6,(hs _ (by omega)).trans i7,(hs _ (by omega)).trans i8,(hs _ (by omega)).trans i9,fun m hm=>(hs _ (by omega)).trans (i10 m hm)⟩
   ·rintro j H5 n5 ⟨i1,i2,i3,i4,i5,i6,i7,i8,i9,i10⟩ hz
    have e1:cw p (j+1)=cw p j:=by show(if _ then _ else _)=_;rw [Ez hz]
    have e2:atO p (j+1)=atO p j:=by unfold atO;rw [show cg p (j+1)=cg p j from by show cg p j+aG p j=_;omega]
    exact⟨i1,i2,i3,i4,i5,i6,by rw [e1];exact i7,by rw [e2];exact i8,i9,i10⟩
   ·rintro j H5 n5 r ⟨i1,i2,i3,i4,i5,i6,i7,i8,i9,i10⟩ hr1 hr2 hj hs hrow
    have hrow2:(H5.set (q0+1+1+1) (.loop .busy none 103 37 (slT [(1,.ptr nx 0),(2,.ptr (nx+1) 0),(4,.ptr (nx+1+1) 0),(5,.ptr (nx+1+1+1) 0)]) #[19,20] cA cB (q0+1+1))).at' r=some (u8R false (byV (cd p j))):=(ab _ _ (by omega)).trans hrow
    have hsl:=hok.slot j hj
    have hil:=kB hp (j:=j) (by omega)
    have hbl:=fu (cd p j)
    have hmono:=ew p (show j+1≤aj p by omega)
    have hsj:cg p (j+1)=cg p j+aG p j:=rfl
    have hpk:=zx hok j (by omega)
    have e1:cw p (j+1)=bP (eJ (cw p j) (1024-cg p (j+1)) (cd p j)) j (1024-cg p (j+1)) (aG p j):=by show(if _ then _ else _)=_;rw [Ey hs]
    refine nV hcA ?_
    repeat apply ae;rfl
    refine r9 (by assumption) ?_
    refine nV hcB ?_
    repeat first|apply ae;rfl|apply aR;rfl;(focus((repeat(first|assumption|exact ah|refine aa (by omega) ?_));done));rfl|apply aB;rfl;omega;omega
    rw [show((1024-cg p j:Nat):Int)-((cd p j).length:Int)=((1024-cg p (j+1):Nat):Int) by omega]
    repeat first|apply ae;rfl|apply nW (lw:=1024-cg p (j+1)) (hg:=1024) (m:=1024-(1024-cg p (j+1)));rfl;rfl;rfl;exact(F.un _ rfl);exact(F.sz _ rfl);rfl;rfl;(focus(omega));(focus(omega));(focus(omega));rfl;rfl;exact(EA _)
    refine oV rfl rfl rfl rfl (F.un _ rfl) (F.sz _ rfl) (cs:=pgS (cw p j)) (vs:=byV (cd p j)) (by repeat(first|assumption|refine aa (by omega) ?_)) (oa (by(repeat(refine aa (by omega) ?_));exact hrow)) (by omega) (by rw [bf hpk.len];omega) ?_
    rw [mR rfl]
    have hlq:(eJ (cw p j) (1024-cg p (j+1)) (cd p j)).length=1024:=(eI (by rw [hpk.len];omega)).trans hpk.len
    repeat first|apply ae;rfl|apply aR;rfl;(focus((repeat(first|exact ah|refine aa (by omega) ?_));done));rfl
    refine aL rfl rfl rfl (by kernel_rfl) (E1 (pg (b:=nx+1+1) (by repeat(exact ah)) hlq (n:=j) (a:=1024-cg p (j+1)) (s:=(cd p j).length) (by omega) (by omega) (by omega)) ?_)
    rintro⟨_,H6,n6⟩ ⟨rfl,g1,g2,g3⟩
    dsimp only at g1 g2 g3 ⊢
    rw [hil,←e1] at g1
    have g4:H6.at' (q0+1+1+1)=some (.loop .busy none 103 37 (slT [(1,.ptr nx 0),(2,.ptr (nx+1) 0),(4,.ptr (nx+1+1) 0),(5,.ptr (nx+1+1+1) 0)]) #[19,20] cA cB (q0+1+1)):=(g3 (q0+1+1+1) (by omega) (by omega)).trans (by repeat(first|exact ah|refine aa (by omega) ?_))
    have g6:H6.at' (nx+1+1+1)=some (atO p (j+1)):=(g3 _ (by omega) (by omega)).trans (by repeat(first|exact ah|refine aa (by omega) ?_))
    have gk: ∀ m,m<n5→m≠q0+1+1+1→m≠nx+1+1→m≠nx+1+1+1→H6.at' m=H5.at' m:=fun m h1 h2 h3 h4=>(g3 m h1 h3).trans ((ab _ _ h3).trans ((ab _ _ h4).trans (ab _ _ h2)))
    clear g3 hrow hrow2
    repeat apply ae;rfl
    refine dF (by exact g4) (.inl ⟨rfl,⟨au _ _ _,?_,?_,by dsimp only;omega,?_,?_,?_,?_,?_,fun m hm=>?_⟩,by dsimp only;omega,?_⟩)
    ·(focus((repeat(refine aa (by omega) ?_));exact(gk _ (by omega) (by omega) (by omega) (by omega)).trans i2))
    ·(focus((repeat(refine aa (by omega) ?_));exact(gk _ (by omega) (by omega) (by omega) (by omega)).trans i3))
    ·(focus((repeat(refine aa (by omega) ?_));exact(gk _ (by omega) (by omega) (by omega) (by omega)).trans i5))
    ·(focus((repeat(refine aa (by omega) ?_));exact(gk _ (by omega) (by omega) (by omega) (by omega)).trans i6))
    ·(focus((repeat(refine aa (by omega) ?_));exact g1))
    ·(focus((repeat(refine aa (by omega) ?_));exact g6))
    ·(focus((repeat(refine aa (by omega) ?_));exact(gk _ (by omega) (by omega) (by omega) (by omega)).trans i9))
    ·(focus((repeat(refine aa (by omega) ?_));exact(gk _ (by omega) (by omega) (by omega) (by omega)).trans (i10 m hm)))
    ·(focus((repeat(refine aa (by omega) ?_));exact gk _ (by omega) (by omega) (by omega) (by omega)))
   ·exact⟨au _ _ _,by repeat(first|assumption|refine aa (by omega) ?_),by repeat(first|assumption|refine aa (by omega) ?_),Em _,by repeat(first|assumption|refine aa (by omega) ?_),by repeat(first|assumption|refine aa (by omega) ?_),by repeat(first|assumption|refine aa (by omega) ?_),by repeat(first|assumption|refine aa (by omega) ?_),by repeat(first|exact ah|refine aa (by omega) ?_),fun m hm=>(ab _ _ (by omega)).trans ((ab _ _ (by omega)).trans (mo m hm))⟩
   ·rintro⟨v,H5,n5⟩ (⟨i1,i2,i3,i4,i5,i6,i7,i8,i9,i10⟩|hf)
    ·dsimp only at i1 i2 i3 i4 i5 i6 i7 i8 i9 i10 ⊢
     refine gy i1 (fun h=>by cases h) ?_
     dsimp only [gM]
     have hpk:=zx hok (aj p) (Em _)
     have hpl:=hpk.len
     have hvl:(fi (cw p (aj p)) 16 (1024-cg p (aj p))).length=1024:=(cc (by omega)).trans hpl
     repeat first|apply ae;rfl|apply aR;rfl;(focus((repeat(first|assumption|refine aa (by omega) ?_));done));rfl
     refine aL rfl rfl rfl (by kernel_rfl) (E1 (nK (b:=nx+1+1) (o:=16) (n:=1024-cg p (aj p)) (by(repeat(refine aa (by omega) ?_));exact i7) hpl (by decide) (by omega)) ?_)
     rintro⟨_,H6,n6⟩ ⟨rfl,g1,g2,g3⟩
     dsimp only at g1 g2 g3 ⊢
     have g4:H6.at' (nx+1)=some (pgO zeroP):=(g3 _ (by omega) (by omega)).trans (by(repeat(refine aa (by omega) ?_));exact i6)
     have g9:H6.at' (q0+1+1)=some (.dfd (some [])):=(g3 _ (by omega) (by omega)).trans (by(repeat(refine aa (by omega) ?_));exact i9)
     have go: ∀ m,m<nx→H6.at' m=H.at' m:=fun m hm=>(g3 _ (by omega) (by omega)).trans (by(repeat(refine aa (by omega) ?_));exact i10 m hm)
     have hpv:fi (cw p (aj p)) 16 (1024-cg p (aj p))=fY p:=rfl
     rw [hpv] at g1 hvl
     generalize fY p=pv at hv hvl g1
     clear hpv g3
     repeat first|apply dc hvl;rfl;assumption|apply cx hvl ac;rfl;assumption|apply ae;rfl
     refine ia Tryz.func103 (congrArg Array.toList Tryz.results103) (rs:= [q0+1+1]) rfl (fun r hr=>by rw [EE.1 hr];(focus((repeat(first|assumption|refine aa (by omega) ?_));done))) (by simp) ?_
     intro H7 hH7
     have hno: ∀ m,m≤nx+1→m∉ [q0+1+1]:=fun m hm h=>by have:=EE.1 h;omega
     have k4:H7.at' (nx+1)=some (pgO pv):=(hH7 _ (hno _ (by omega))).trans (by repeat(exact ah))
     refine⟨_,(by(apply E4 rfl (E6 (F.ag _ rfl) (by assumption) (bH hvl)));(repeat(first|exact E3|apply E5 rfl))),?_⟩
     exact⟨by rw [hv];rfl,by dsimp only;omega,fun m hm=>(hH7 m (hno _ (by omega))).trans (by(repeat(refine aa (by omega) ?_));exact go m hm)⟩
    ·exact hf.elim
theorem AJ(hp:p.length=1024):Fnc Tryz.prog 103 [.agg (pgS p)] H nx (fun q=>q=(pgE (eU p),H,nx)):=Fnc.bV (pm _) (Dn hp)
theorem kC: ∀ (S:List Int),(S.flatMap fun n=> [Value.int .i64 n])=S.map (fun n=>Value.int .i64 n)
 | []=>rfl
 | a :: S=>by rw [List.flatMap_cons,kC S];rfl
theorem qj{lo hi:Nat}{S:List Int}(hp:p.length=1024)(hS:IntsAt H s S lo hi)(hpos: ∀ x,x∈S→0≤x)(hl:S.length≤100000):Fnc Tryz.prog 80 [.agg (pgS p),s] H nx (fun q=>q=(.agg (pgS (bz p S)),H,nx)):=by
 refine Fnc.bV (Free.agg _) ?_
 refine E2 Tryz.func80 rfl rfl ?_
 refine a9 fun hund=>?_
 have hdl:=jk S hp
 have hkl:=kj hdl
 have hpk:=fun(H:aw) (nx:Nat)=>AJ (H:=H) (nx:=nx) hdl
 have hw9:bz p S=if(eU (cV p S)).2=0 then(eU (cV p S)).1 else cV p S:=rfl
 generalize eU (cV p S)=pk at hkl hpk hw9
 obtain⟨pk,pe⟩:=pk
 dsimp only at hkl hpk hw9
 rcases hS with ⟨rfl,rfl⟩|⟨r,k1,rfl,k2,k3,k4⟩
 ·rw [show cV p []=p from rfl] at hdl hpk hw9
  repeat first|refine eR (aW dN) rfl rfl rfl ?_|apply ae;rfl|refine bN (bX (F.un _ rfl) rfl) rfl rfl rfl ?_
  refine br (α:=Nat) (fun x=> [(2,.ptr nx 0),(4,.ptr (nx+1) 0),(12,.sc (.int .i64 0)),(13,.sc (.int .i64 0))])
   (fun x H7 n7=>nx+1+1≤n7∧H7.at' nx=some (pgO p)∧H7.at' (nx+1)=some (pgO zeroP)∧ ∀ m,m<nx→H7.at' m=H.at' m) (fun x=>0) 0
   ⟨Em _,by repeat(first|exact ah|refine aa (by omega) ?_),by repeat(exact ah),fun m hm=>by(repeat(refine aa (by omega) ?_));rfl⟩ (E8 (Gb rfl)) ?_
  rintro x H7 n7 ⟨o1,o2,o3,o4⟩ _
  repeat first|apply ae;rfl|apply rX;rfl;decide
  (repeat(first|apply dc hdl;rfl;assumption|apply cH;rfl;kernel_rfl;exact hpk _ _|refine eR (aW dN) rfl rfl rfl ?_|apply cx hkl ac;rfl;(focus((repeat(exact ah));done))|apply ae;rfl));refine cE rfl rfl rfl rfl (fun c9=>?_) (fun c9=>?_);(focus(rw [hw9,Ez (by(try dsimp only at c9);omega)];(repeat(first|apply dc hkl;rfl;(focus((repeat(exact ah));done))|apply cx hkl hdl;rfl;(focus((repeat(first|assumption|refine aa (by omega) ?_));done))|apply cx hkl ac;rfl;(focus((repeat(first|assumption|refine aa (by omega) ?_));done))|apply ae;rfl));((apply bv Tryz.func80 (congrArg Array.toList Tryz.results80));(focus((apply E4 rfl (E6 (F.ag _ rfl) (by repeat(exact ah)) (bH hkl)));(repeat(exact E3)))));exact⟨rfl,by first|omega|(dsimp only;omega),fun m hm=>by(repeat(refine aa (by omega) ?_));exact o4 m hm⟩));(rw [hw9,Ey (by(try dsimp only at c9);omega)];(repeat(first|apply dc hdl;rfl;(focus((repeat(first|assumption|refine aa (by omega) ?_));done))|apply cx hdl ac;rfl;(focus((repeat(first|assumption|refine aa (by omega) ?_));done))|apply ae;rfl));((apply bv Tryz.func80 (congrArg Array.toList Tryz.results80));(focus((apply E4 rfl (E6 (F.ag _ rfl) (by repeat(exact ah)) (bH hdl)));(repeat(exact E3)))));exact⟨rfl,by first|omega|(dsimp only;omega),fun m hm=>by(repeat(refine aa (by omega) ?_));exact o4 m hm⟩)
 ·have hlt:=hund _ _ k4
  repeat first|refine eR (aW dN) rfl rfl rfl ?_|apply ae;rfl
  refine br (α:=Nat) (fun x=> [(2,.ptr nx 0),(4,.ptr (nx+1) 0),(11,.slu r 0 S.length),(12,.sc (.int .i64 (S.length:Int))),(13,.sc (.int .i64 (x:Int)))])
   (fun x H7 n7=>x≤S.length∧nx+1+1≤n7∧H7.at' nx=some (pgO (cV p (S.take x)))∧H7.at' (nx+1)=some (pgO zeroP)∧ ∀ m,m<nx→H7.at' m=H.at' m) (fun x=>S.length-x) 0
   ⟨En _,Em _,by repeat(first|exact ah|refine aa (by omega) ?_),by repeat(exact ah),fun m hm=>by(repeat(refine aa (by omega) ?_));rfl⟩ (E8 (Gb rfl)) ?_
  rintro x H7 n7 ⟨o0,o1,o2,o3,o4⟩ ih
  have o5:=(o4 r hlt).trans k4
  repeat apply ae;rfl
  refine bm rfl rfl rfl rfl (fun c1=>?_) (fun c1=>?_)
  ·have hx:x<S.length:=by omega
   have hz:=Int.toNat_of_nonneg (hpos _ (Ex hx))
   have hxl:=jk (S.take x) hp
   have hyl:=oz (n:=(S[x]).toNat) hxl
   have hdr:=fun(H:aw) (nx:Nat)=>AV (H:=H) (nx:=nx) (n:=(S[x]).toNat) hxl
   simp only [hz] at hdr
   have hs:=nl (S.take x) p S[x]
   rw [← List.take_succ_eq_append_getElem hx] at hs
   have hv:(S.flatMap fun n=> [Value.int .i64 n])[x]? =some (.int .i64 S[x]):=by
    rw [kC,EP,D5 hx];rfl
   generalize hd:cV p (S.take x)=d at o2 hxl hyl hdr hs
   generalize eg d (S[x]).toNat=dy at hyl hdr hs
   obtain⟨dy,de⟩:=dy
   dsimp only at hyl hdr hs
   repeat first|apply dc hxl;rfl;assumption|refine eR (aW dN) rfl rfl rfl ?_|apply cx hyl ac;rfl;(focus((repeat(exact ah));done))|apply cH;rfl;kernel_rfl;exact hdr _ _|refine cQ (q:=x) rfl rfl rfl rfl (F.un _ rfl) (F.sz _ rfl) (by exact o5) rfl hx (Em _) ?_|refine e7 (v:= .int .i64 S[x]) rfl rfl rfl (F.ag _ rfl) (by exact o5) (by first|exact hv|(rw [Nat.mul_one];exact hv)) (by(omega)) ?_|apply ae;rfl
   refine cE rfl rfl rfl rfl (fun c2=>?_) (fun c2=>?_)
   ·rw [Ez (by omega)] at hs
    repeat first|apply dc hyl;rfl;(focus((repeat(exact ah));done))|apply cx hyl hxl;rfl;(focus((repeat(first|assumption|refine aa (by omega) ?_));done))|apply ae;rfl|apply aB;rfl;omega;omega
    exact ih _ _ _ (x+1) ⟨hx,by first|omega|(dsimp only;omega),by rw [hs];(focus((repeat(exact ah));done)),by repeat(first|assumption|refine aa (by omega) ?_),fun m hm=>by(repeat(refine aa (by omega) ?_));exact o4 m hm⟩ (by omega) (E8 (Gb rfl))
   ·rw [Ey (by omega)] at hs
    repeat first|apply ae;rfl|apply aB;rfl;omega;omega
    exact ih _ _ _ (x+1) ⟨hx,by first|omega|(dsimp only;omega),by rw [hs];(focus((repeat(first|assumption|refine aa (by omega) ?_));done)),by repeat(first|assumption|refine aa (by omega) ?_),fun m hm=>by(repeat(refine aa (by omega) ?_));exact o4 m hm⟩ (by omega) (E8 (Gb rfl))
  ·obtain rfl:x=S.length:=by omega
   rw [List.take_length] at o2
   repeat apply ae;rfl
   (repeat(first|apply dc hdl;rfl;assumption|apply cH;rfl;kernel_rfl;exact hpk _ _|refine eR (aW dN) rfl rfl rfl ?_|apply cx hkl ac;rfl;(focus((repeat(exact ah));done))|apply ae;rfl));refine cE rfl rfl rfl rfl (fun c9=>?_) (fun c9=>?_);(focus(rw [hw9,Ez (by(try dsimp only at c9);omega)];(repeat(first|apply dc hkl;rfl;(focus((repeat(exact ah));done))|apply cx hkl hdl;rfl;(focus((repeat(first|assumption|refine aa (by omega) ?_));done))|apply cx hkl ac;rfl;(focus((repeat(first|assumption|refine aa (by omega) ?_));done))|apply ae;rfl));((apply bv Tryz.func80 (congrArg Array.toList Tryz.results80));(focus((apply E4 rfl (E6 (F.ag _ rfl) (by repeat(exact ah)) (bH hkl)));(repeat(exact E3)))));exact⟨rfl,by first|omega|(dsimp only;omega),fun m hm=>by(repeat(refine aa (by omega) ?_));exact o4 m hm⟩));(rw [hw9,Ey (by(try dsimp only at c9);omega)];(repeat(first|apply dc hdl;rfl;(focus((repeat(first|assumption|refine aa (by omega) ?_));done))|apply cx hdl ac;rfl;(focus((repeat(first|assumption|refine aa (by omega) ?_));done))|apply ae;rfl));((apply bv Tryz.func80 (congrArg Array.toList Tryz.results80));(focus((apply E4 rfl (E6 (F.ag _ rfl) (by repeat(exact ah)) (bH hdl)));(repeat(exact E3)))));exact⟨rfl,by first|omega|(dsimp only;omega),fun m hm=>by(repeat(refine aa (by omega) ?_));exact o4 m hm⟩)
theorem Av{lo hi:Nat}{S:List Int}(e:a7)(hp:p.length=1024)(hm:fk e=true)(hS:IntsAt H s S lo hi)(hpos: ∀ x,x∈S→0≤x)(hl:S.length≤100000):Fnc Tryz.prog 43 [.agg (pgS p),s,io e] H nx (fun q=>q=(.tup [.agg (pgS (dG p S e).1),.sc (.bool (dG p S e).2)],H,nx)):=by
 refine Fnc.bV (Free.two (Free.agg _) (Free.sc _)) ?_
 have hle:=fM e
 have hme:=gU.1 hm
 refine E2 Tryz.func43 rfl rfl ?_
 refine a9 fun hund=>?_
 repeat first|refine eR (aW dN) rfl rfl rfl ?_|apply ae;rfl|apply aR;rfl;(focus((repeat(first|exact ah|refine aa (by omega) ?_));done));rfl
 refine aL rfl rfl rfl (by kernel_rfl) (E1 (sY e hm) ?_)
 rintro⟨_,H1,n1⟩ ⟨r,rfl,a1,a2,a3,a4⟩
 dsimp only at a1 a2 a3 a4 ⊢
 have b0:H1.at' nx=some (pgO p):=(a4 _ (by omega)).trans (by repeat(first|exact ah|refine aa (by omega) ?_))
 have b1:H1.at' (nx+1)=some (am 25 ((fB e).map .sc)):=(a4 _ (by omega)).trans (by repeat(first|exact ah|refine aa (by omega) ?_))
 have b2:H1.at' (nx+1+1)=some (pgO zeroP):=(a4 _ (by omega)).trans (by repeat(exact ah))
 have bo: ∀ m,m<nx→H1.at' m=H.at' m:=fun m hm=>(a4 m (by omega)).trans (by(repeat(refine aa (by omega) ?_));rfl)
 clear a4
 have hil:=fG (it:=bn e) hp
 have hwl:=ir hp S
 have hjl:=fG (it:=bn e) hwl
 have hins:=jh (nx:=n1) hp (oa a1) (by omega)
 have hw9:dG p S e=if(eX p (bn e)).2.2=0 then((eX p (bn e)).1,true) else((eX (bz p S) (bn e)).1,decide ((eX (bz p S) (bn e)).2.2=0)):=rfl
 have hSf: ∀ (H':aw),(∀ m,m<nx→H'.at' m=H.at' m)→IntsAt H' s S lo hi:=fun H' hf=>hS.frame (Em _) fun m _ _ h3=>hf m (hund _ _ h3)
 have hwo:=fun(H':aw) (n:Nat) (hf: ∀ m,m<nx→H'.at' m=H.at' m)=>qj (nx:=n) hp (hSf H' hf) hpos hl
 have hin2:=fun(H':aw) (n:Nat) (h:H'.at' r=some (u8R false (byV (bn e))))=>jh (nx:=n) hwl (oa h) (by omega)
 generalize eX p (bn e)=i1 at hil hins hw9
 obtain⟨i1,i2,i3⟩:=i1
 generalize bz p S=w at hwl hjl hw9 hwo hin2
 generalize eX w (bn e)=j1 at hjl hw9 hin2
 obtain⟨j1,j2,j3⟩:=j1
 dsimp only at hil hins hjl hw9 hwo hin2
 repeat first|apply dc hp;rfl;assumption|apply cH;rfl;kernel_rfl;exact hins|refine eR (aW dN) rfl rfl rfl ?_|apply cx hil ac;rfl;(focus((repeat(exact ah));done))|apply ig;rfl;rfl|apply ae;rfl
 refine cE rfl rfl rfl rfl (fun c2=>?_) (fun c2=>?_)
 ·rw [hw9,Ez (by(try dsimp only at c2);omega)]
  repeat first|apply dc hil;rfl;(focus((repeat(exact ah));done))|apply cx hil ac;rfl;(focus((repeat(first|assumption|refine aa (by omega) ?_));done))|apply ae;rfl
  ((apply bv Tryz.func43 (congrArg Array.toList Tryz.results43));(focus((apply E4 rfl (E6 (F.ag _ rfl) (by repeat(exact ah)) (bH hil)));(repeat(first|exact E3|apply E5 rfl)))))
  exact⟨rfl,by first|omega|(dsimp only;omega),fun m hm=>by(repeat(refine aa (by omega) ?_));exact bo m hm⟩
 ·rw [hw9,Ey (by(try dsimp only at c2);omega)]
  repeat first|apply dc hp;rfl;(focus((repeat(first|assumption|refine aa (by omega) ?_));done))|apply cH;rfl;kernel_rfl;exact hwo _ _ (fun m hm=>by(repeat(refine aa (by omega) ?_));exact bo m hm)|apply cH;rfl;kernel_rfl;exact hin2 _ _ (by(repeat(refine aa (by omega) ?_));exact a1)|refine eR (aW dN) rfl rfl rfl ?_|apply cx hjl ac;rfl;(focus((repeat(exact ah));done))|apply dc hjl;rfl;(focus((repeat(exact ah));done))|apply ae;rfl
  refine cE rfl rfl rfl rfl (fun c3=>?_) (fun c3=>?_)
  ·rw [ER (show j3=0 by(try dsimp only at c3);omega)]
   repeat first|apply cx hjl ac;rfl;(focus((repeat(first|assumption|refine aa (by omega) ?_));done))|apply ae;rfl
   ((apply bv Tryz.func43 (congrArg Array.toList Tryz.results43));(focus((apply E4 rfl (E6 (F.ag _ rfl) (by repeat(exact ah)) (bH hjl)));(repeat(first|exact E3|apply E5 rfl)))))
   exact⟨rfl,by first|omega|(dsimp only;omega),fun m hm=>by(repeat(refine aa (by omega) ?_));exact bo m hm⟩
  ·rw [ES (show ¬ j3=0 by(try dsimp only at c3);omega)]
   repeat first|apply cx hjl ac;rfl;(focus((repeat(first|assumption|refine aa (by omega) ?_));done))|apply ae;rfl
   ((apply bv Tryz.func43 (congrArg Array.toList Tryz.results43));(focus((apply E4 rfl (E6 (F.ag _ rfl) (by repeat(exact ah)) (bH hjl)));(repeat(first|exact E3|apply E5 rfl)))))
   exact⟨rfl,by first|omega|(dsimp only;omega),fun m hm=>by(repeat(refine aa (by omega) ?_));exact bo m hm⟩
theorem nQ(hp:p.length=1024)(hB:BsIs H s (byV it))(hit:it.length≤4611686018427387904):Fnc Tryz.prog 82 [.agg (pgS p),s] H nx (fun q=>q=(insS (gZ p it),H,nx)):=by
 refine Fnc.bV (qY _) ?_
 refine E2 Tryz.func82 rfl rfl ?_
 refine a9 fun hund=>?_
 have hil:=fG (it:=it) hp
 have hkl:=kj hp
 have hjl:=fG (it:=it) hkl
 have hin:=fun(H':aw) (n:Nat) (h: ∀ m,m<nx→H'.at' m=H.at' m)=>jh (nx:=n) hp (hB.frame fun b vo hb=>(h b (hund b vo hb)).trans hb) hit
 have hin2:=fun(H':aw) (n:Nat) (h: ∀ m,m<nx→H'.at' m=H.at' m)=>jh (nx:=n) hkl (hB.frame fun b vo hb=>(h b (hund b vo hb)).trans hb) hit
 have hpk:=fun(H:aw) (nx:Nat)=>AJ (H:=H) (nx:=nx) hp
 have hk:gZ p it=if(eX p it).2.2≠5 then eX p it else if(eU p).2≠0 then(zeroP,0,(eU p).2) else eX (eU p).1 it:=rfl
 generalize eX p it=i1 at hil hin hk
 obtain⟨i1,i2,i3⟩:=i1
 generalize eU p=pk at hkl hjl hin2 hpk hk
 obtain⟨pk,pe⟩:=pk
 dsimp only at hkl hjl hin2 hpk hk
 generalize eX pk it=j1 at hjl hin2 hk
 obtain⟨j1,j2,j3⟩:=j1
 dsimp only at hil hin hjl hin2 hk
 repeat first|apply dc hp;rfl;(focus((repeat(first|exact ah|refine aa (by omega) ?_));done))|apply cH;rfl;kernel_rfl;exact hin _ _ (fun m hm=>by(repeat(refine aa (by omega) ?_));rfl)|refine eR (aW dN) rfl rfl rfl ?_|apply cx hil ac;rfl;(focus((repeat(exact ah));done))|apply ae;rfl
 refine ga rfl rfl rfl rfl (fun c1=>?_) (fun c1=>?_)
 ·rw [hk,Ez (by(try dsimp only at c1);omega)]
  repeat first|apply dc hil;rfl;(focus((repeat(exact ah));done))|apply cx hil ac;rfl;(focus((repeat(first|exact ah|refine aa (by omega) ?_));done))|apply ae;rfl
  ((apply bv Tryz.func82 (congrArg Array.toList Tryz.results82));(focus((apply E4 rfl (E6 (F.ag _ rfl) (by repeat(exact ah)) (bH hil)));(repeat(first|exact E3|apply E5 rfl)))))
  exact⟨rfl,by first|omega|(dsimp only;omega),fun m hm=>by(repeat(refine aa (by omega) ?_));rfl⟩
 ·rw [hk,Ey (by(try dsimp only at c1);omega)]
  repeat first|apply dc hp;rfl;(focus((repeat(first|exact ah|refine aa (by omega) ?_));done))|apply cH;rfl;kernel_rfl;exact hpk _ _|apply cx hkl hp;rfl;(focus((repeat(first|exact ah|refine aa (by omega) ?_));done))|apply ae;rfl
  refine ga rfl rfl rfl rfl (fun c2=>?_) (fun c2=>?_)
  ·rw [Ez (by(try dsimp only at c2);omega)]
   repeat first|refine cv rfl rfl f9 ?_|apply cx ac ac;rfl;(focus((repeat(first|exact ah|refine aa (by omega) ?_));done))|apply ae;rfl
   ((apply bv Tryz.func82 (congrArg Array.toList Tryz.results82));(focus((apply E4 rfl (E6 (F.ag _ rfl) (by repeat(exact ah)) (bH ac)));(repeat(first|exact E3|apply E5 rfl)))))
   exact⟨rfl,by first|omega|(dsimp only;omega),fun m hm=>by(repeat(refine aa (by omega) ?_));rfl⟩
  ·rw [Ey (by(try dsimp only at c2);omega)]
   repeat first|apply dc hkl;rfl;(focus((repeat(exact ah));done))|apply cH;rfl;kernel_rfl;exact hin2 _ _ (fun m hm=>by(repeat(refine aa (by omega) ?_));rfl)|apply cx hjl ac;rfl;(focus((repeat(first|exact ah|refine aa (by omega) ?_));done))|apply ae;rfl
   ((apply bv Tryz.func82 (congrArg Array.toList Tryz.results82));(focus((apply E4 rfl (E6 (F.ag _ rfl) (by repeat(exact ah)) (bH hjl)));(repeat(first|exact E3|apply E5 rfl)))))
   exact⟨rfl,by first|omega|(dsimp only;omega),fun m hm=>by(repeat(refine aa (by omega) ?_));rfl⟩
def usB(bs:List Bn.El):List Bool:=(List.range 28).map fun(k:Nat)=>bs.any fun b=>decide (b.1=(4:Int)+(k:Int))
theorem oW(bs:List Bn.El):(usB bs).length=28:=by simp [usB]
theorem wi(bs:List Bn.El){k:Nat}(hk:k<28):(usB bs)[k]? =some (bs.any fun b=>decide (b.1=(4:Int)+(k:Int))):=by
 simp [usB,List.getElem?_range hk]
theorem Bl:usB []=List.replicate 28 false:=by rfl
theorem yT(bs:List Bn.El)(x:Bn.El){k:Nat}(hk:k<28)(hx:x.1=(4:Int)+(k:Int)):usB (bs ++ [x])=(usB bs).set k true:=by
 refine ET fun j=>?_
 by_cases hj:j<28
 ·rw [wi _ hj,List.getElem?_set,oW,wi _ hj]
  by_cases hkj:k=j
  ·subst hkj
   rw [Ez rfl,Ez hk]
   simp [hx]
  ·rw [Ey hkj]
   have: ¬ x.1=(4:Int)+(j:Int):=by omega
   simp [this]
 ·rw [EW (by rw [oW];omega),EW (by rw [List.length_set,oW];omega)]
abbrev sQ(bs:List Bn.El):Int:=if ef bs=0 then 0 else(4:Int)+(ef bs:Int)
theorem vq{r:Nat}(hr:H.at' r=some (nS bs))(h28:bs.length≤28)(hbm: ∀ x∈bs,∃ k:Nat,1≤k∧k<28∧x.1=((4+k:Nat):Int)):Fnc Tryz.prog 81 [.slu r 0 bs.length] H nx (fun q=>q=(.sc (.int .i64 (sQ bs)),H,nx)):=by
 refine Fnc.bV (Free.sc _) ?_
 refine E2 Tryz.func81 rfl rfl ?_
 refine a9 fun hund=>?_
 have hlt:=hund _ _ hr
 repeat apply ae;rfl
 refine br (α:=Nat) (fun x=> [(3,.ptr nx 0),(7,.slu r 0 bs.length),(8,.sc (.int .i64 (bs.length:Int))),(9,.sc (.int .i64 (x:Int)))])
  (fun x H7 n7=>x≤bs.length∧nx+1≤n7∧H7.at' nx=some (usO (usB (bs.take x)))∧ ∀ m,m<nx→H7.at' m=H.at' m) (fun x=>bs.length-x) 0
  ⟨En _,Em _,by rw [List.take_zero,Bl];(focus((repeat(exact ah));done)),fun m hm=>by(repeat(refine aa (by omega) ?_));rfl⟩ (E8 (Gb rfl)) ?_
 rintro x H7 n7 ⟨o0,o1,o2,o3⟩ ih
 have o5:=(o3 r hlt).trans hr
 repeat apply ae;rfl
 refine bm rfl rfl rfl rfl (fun c1=>?_) (fun c1=>?_)
 ·have hx:x<bs.length:=by omega
  have hf:=dW (f:=Bn.elV) (fun _=>rfl) bs x 0 4 hx (by decide)
  obtain⟨k,k1,k2,k3⟩:=hbm _ (Ex hx)
  have hus:((usB (bs.take x)).map fun b=>SV.sc (.bool b)).set k (.sc (.bool true))=(usB (bs.take (x+1))).map fun b=>SV.sc (.bool b):=by
   rw [List.take_succ_eq_append_getElem hx,yT _ _ k2 (by rw [k3];omega),List.map_set]
  have hul:=oW (bs.take x)
  repeat first|refine cQ (q:=x) rfl rfl rfl rfl (F.un _ rfl) (F.sz _ rfl) (by exact o5) rfl hx (Em _) ?_|refine cP (us:=Bn.elV bs[x]) rfl rfl rfl (F.ag _ rfl) (by exact o5) hf rfl (by omega) ?_|refine aZ (v:= .sc (.int .i64 (bs[x]).1)) rfl rfl rfl (F.ag _ rfl) (by repeat(first|assumption|exact ah)) rfl ?_|apply ae;rfl|apply aR;rfl;(focus((repeat(first|assumption|exact ah|refine aa (by omega) ?_));done));rfl|apply aB;rfl;omega;omega|apply ic (q:=k);rfl;rfl;rfl;rfl;exact(F.un _ rfl);exact(F.sz _ rfl);(focus(omega));(focus(omega))
  refine cJ rfl rfl rfl (F.sz _ rfl) (by repeat(first|assumption|refine aa (by omega) ?_)) rfl (by(exact D9 (by rw [ED,hul];omega))) ?_
  rw [show 0+k*1=k by omega,hus]
  repeat first|apply ae;rfl|apply aB;rfl;omega;omega
  exact ih _ _ _ (x+1) ⟨hx,by first|omega|(dsimp only;omega),by repeat(exact ah),fun m hm=>by(repeat(refine aa (by omega) ?_));exact o3 m hm⟩ (by omega) (E8 (Gb rfl))
 ·obtain rfl:x=bs.length:=by omega
  rw [List.take_length] at o2
  repeat apply ae;rfl
  refine br (α:=Nat) (fun k=> [(3,.ptr nx 0),(6,.sc (.int .i64 (k:Int)))])
   (fun k H8 n8=>1≤k∧k≤28∧jA bs (28-k) k=ef bs∧nx+1≤n8∧H8.at' nx=some (usO (usB bs))∧ ∀ m,m<nx→H8.at' m=H.at' m) (fun k=>28-k) 1
   ⟨Em _,by decide,rfl,o1,o2,o3⟩ (E8 (Gb rfl)) ?_
  clear o2 o3 o5 ih
  rintro k H8 n8 ⟨u0,u1,u2,u3,u4,u5⟩ ih2
  repeat apply ae;rfl
  refine bm rfl rfl rfl rfl (fun c2=>?_) (fun c2=>?_)
  ·have hk:k<28:=by omega
   have hcell:((usB bs).map fun b=>SV.sc (.bool b))[k]? =some (.sc (.bool (bs.any fun b=>decide (b.1=(4:Int)+(k:Int))))):=by rw [EP,wi _ hk];rfl
   have hgo:jA bs (28-k) k=if bs.any (fun b=>decide (b.1=(4:Int)+(k:Int)))=true then jA bs (28-(k+1)) (k+1) else k:=by
    rw [show 28-k=(28-(k+1))+1 by omega]
    rfl
   repeat first|apply ae;rfl|apply ic (q:=k);rfl;rfl;rfl;rfl;exact(F.un _ rfl);exact(F.sz _ rfl);(focus(omega));(focus(omega))
   rw [show 0+k*1=k by omega]
   refine aZ rfl rfl rfl (F.ag _ rfl) (by assumption) hcell ?_
   cases ha:bs.any (fun b=>decide (b.1=(4:Int)+(k:Int)))with
   | true=>
     rw [ha,Ez rfl] at hgo
     repeat first|apply ae;rfl|apply aB;rfl;omega;omega
     exact ih2 _ _ _ (k+1) ⟨by omega,by omega,hgo.symm.trans u2,u3,by assumption,u5⟩ (by omega) (E8 (Gb rfl))
   | false=>
     rw [ha,Ey (by decide)] at hgo
     have hfr:ef bs=k:=u2.symm.trans hgo
     repeat first|apply ae;rfl|apply aB;rfl;omega;omega
     (apply bW Tryz.func81 Tryz.results81;rfl)
     exact⟨by rw [sQ,hfr,Ey (by omega)];rfl,by first|omega|(dsimp only;omega),u5⟩
  ·obtain rfl:k=28:=by omega
   have hfr:ef bs=0:=u2.symm
   repeat apply ae;rfl
   (apply bW Tryz.func81 Tryz.results81;rfl)
   exact⟨by rw [sQ,hfr,Ez rfl];rfl,by first|omega|(dsimp only;omega),u5⟩
end
end Go.Proofs.YtelnglhodnoclaaGreat
end
section
namespace Go.Sy
open Go Go.Sl Go.RowKit
section
variable {P:Program} {ro:Option Nat} {fn nt nx:Nat} {T:Tr SV} {k:List AIt} {dfs:List ADf} {H:aw} {Q:Pst} {ty:TypeId} {pos:String} {af:Array Edge} {gd:Option (Nat×Bool)} {d:Option Tmp}
theorem wZ{x:Operand}{name:String}{as1:List Operand}{ats:Array TypeId}{t:TypeId}{v:SV}{args:List SV}{g:FuncId}(hx:ar T x=some (.ifc t v))(ha:dh T as1=some args)(hm:jO P t name=some g):OpDoes P T H nx ⟨d,.call {callee:= .invoke x name,args:=as1.toArray,argTypes:=ats},ty,pos,af,gd⟩ (.enter g (v :: args),H,nx):=by
 refine kL ?_
 have hc:bE P T {callee:= .invoke x name,args:=as1.toArray,argTypes:=ats}=some (.enter g (v :: args)):=by
  simp only [bE,ha,hx,hm]
 unfold fZ
 simp only [hc,Et]
theorem yb{ops:Array Oper}{i stg:Nat}{l:List Oper}{rs:List Rec}{Hs:List (aw×Nat)}{K:DS→Prop}{x:Operand}{name:String}{t:TypeId}{v v':SV}(g:FuncId){as1:List Operand}{ats:Array TypeId}{args:List SV}{H':aw}{nx' dd:Nat}
 (hw:aD (aT T (aV ops.toList ⟨some dd,.call {callee:= .invoke x name,args:=as1.toArray,argTypes:=ats},ty,pos,af,gd⟩)) ops ⟨some dd,.call {callee:= .invoke x name,args:=as1.toArray,argTypes:=ats},ty,pos,af,gd⟩=some true) (hd:Nat.blt dd nt=true)
 (hx:ar (aT T (aV ops.toList ⟨some dd,.call {callee:= .invoke x name,args:=as1.toArray,argTypes:=ats},ty,pos,af,gd⟩)) x=some (.ifc t v))
 (ha:dh (aT T (aV ops.toList ⟨some dd,.call {callee:= .invoke x name,args:=as1.toArray,argTypes:=ats},ty,pos,af,gd⟩)) as1=some args) (hm:jO P t name=some g) (hr:Fnc P g (v :: args) H nx (fun r=>r=(v',H',nx')))
 (h:DrawK P nt ops (i+1) l ⟨T.set dd v',H',nx',⟨i,⟨some dd,.call {callee:= .invoke x name,args:=as1.toArray,argTypes:=ats},ty,pos,af,gd⟩,aT T (aV ops.toList ⟨some dd,.call {callee:= .invoke x name,args:=as1.toArray,argTypes:=ats},ty,pos,af,gd⟩),stg,true,true,v'⟩ :: rs,(H',nx') :: Hs,stg+1⟩ K) :
 DrawK P nt ops i (⟨some dd,.call {callee:= .invoke x name,args:=as1.toArray,argTypes:=ats},ty,pos,af,gd⟩ :: l) ⟨T,H,nx,rs,Hs,stg⟩ K:=by
 obtain⟨s',h1,h2⟩:=h.ex
 refine⟨⟨s',.cons (.inr (.inr ⟨hw,v',H',nx',⟨_,wZ hx ha hm,(fun c hc=>(by cases hc)),hr⟩,?_⟩)) h1,h2⟩⟩
 simp only [aK hd]
end
section
variable {P:Program}
theorem St.dropR{K:Zone}{w0 w w1:World}{e e1:Env}{H H1:aw}{nx nx1 b r:Nat}{vo:Nat→VO}{row vo0:VO}(hS:St K w0 e H nx w)(hle:e.le e1)(hS1:St K w0 e1 H1 nx1 w1)(h0:H.at' b=some vo0)(hb:H1.at' b=some (vo r))(hr:H1.at' r=some row)(hrn:nx≤r)(hc: ∀ ρ n,(vo n).ren ρ=vo (ρ n))(hc2: ∀ ρ,row.ren ρ=row)(hk: ∀ m,m<nx→m≠b→H1.at' m=H.at' m) :
 ∃ e2,e.le e2∧St K w0 e2 ((H.set nx row).set b (vo nx)) (nx+1) w1:=by
 have lt: ∀ {m:Nat} {vo':VO},H.at' m=some vo'→m<nx:=fun {m vo'} h=>by
  obtain⟨x0,hx0,_⟩:=hS.rel m vo' h
  rcases EB m nx with q|q
  ·exact q
  ·rw [hS.fresh m q] at hx0;cases hx0
 have hbn:=lt h0
 let ρ:Nat→Nat:=fun i=>if i=nx then r else if e i=none then nx1 else i
 have hρn:ρ nx=r:=Ez rfl
 have hp: ∀ i,i≠nx→Go.Sy.pull e1 ρ i=e i:=fun i hi=>by
  show e1 (ρ i)=e i
  show e1 (if i=nx then r else if e i=none then nx1 else i)=e i
  rw [Ey hi]
  cases hei:e i with
  | none=>rw [Ez rfl];exact hS1.fresh nx1 (Em _)
  | some x=>rw [Ey (fun h=>by cases h)];exact hle i x hei
 have hpn:Go.Sy.pull e1 ρ nx=e1 r:=by show e1 (ρ nx)=e1 r;rw [hρn]
 have he2:e.le (Go.Sy.pull e1 ρ):=fun i x hx=>by
  rw [hp i (fun hc=>by rw [hc,hS.fresh nx (Em _)] at hx;cases hx)]
  exact hx
 have up: ∀ {m:Nat} {vo':VO},((H.set nx row).set b (vo nx)).at' m=some vo'→ ∃ m1 vo1,H1.at' m1=some vo1∧vo1.ro=vo'.ro∧Go.Sy.pull e1 ρ m=e1 m1∧((m=nx∧m1=r)∨(m<nx∧m1=m)):=fun {m vo'} h=>by
  rcases bl h with ⟨rfl,rfl⟩|⟨hne,h⟩
  ·obtain⟨x0,hx0,_⟩:=hS.rel _ vo0 h0
   refine⟨_,_,hb,?_,?_,.inr ⟨hbn,rfl⟩⟩
   ·rw [← hρn,←hc ρ nx,iC]
   ·rw [hp _ (by omega),hx0,hle _ _ hx0]
  ·rcases bl h with ⟨rfl,rfl⟩|⟨hne2,h⟩
   ·exact⟨_,_,hr,rfl,hpn,.inl ⟨rfl,rfl⟩⟩
   ·have hm:=lt h
    obtain⟨x0,hx0,_⟩:=hS.rel _ vo' h
    exact⟨m,vo',(hk m hm hne).trans h,rfl,by rw [hp _ (by omega),hx0,hle _ _ hx0],.inr ⟨hm,rfl⟩⟩
 refine⟨Go.Sy.pull e1 ρ,he2,hS1.below,fun m vo' h=>?_,fun i i' v v' x x' h1 h2 h3 h4 h5 h6 h7 h8 h9=>?_,fun i hi=>?_⟩
 ·rcases bl h with ⟨rfl,rfl⟩|⟨hne,h⟩
  ·obtain⟨x,hx,hl⟩:=hS1.rel _ _ hb
   obtain⟨x0,hx0,_⟩:=hS.rel _ vo0 h0
   have:=hle _ x0 hx0
   rw [hx] at this
   cases this
   exact⟨_,by rw [hp _ (by omega)];exact hx0,hZ.1 (by rw [hc,hρn];exact hl)⟩
  ·rcases bl h with ⟨rfl,rfl⟩|⟨hne2,h⟩
   ·obtain⟨x,hx,hl⟩:=hS1.rel _ _ hr
    exact⟨_,by rw [hpn];exact hx,hZ.1 (by rw [hc2];exact hl)⟩
   ·have hm:=lt h
    obtain⟨x0,hx0,hl0⟩:=hS.rel m vo' h
    obtain⟨x,hx,hl⟩:=hS1.rel m vo' ((hk m hm hne).trans h)
    have:=hle m x0 hx0
    rw [hx] at this
    cases this
    exact⟨_,by rw [hp _ (by omega)];exact hx0,ml hle he2 hl0 hl⟩
 ·obtain⟨m1,v1,g1,g2,g3,g4⟩:=up h1
  obtain⟨m2,v2,k1,k2,k3,k4⟩:=up h2
  refine hS1.inj m1 m2 v1 v2 x x' g1 k1 (by rw [← g3];exact h3) (by rw [← k3];exact h4) ?_ h6 h7 (g2.trans h8) (k2.trans h9)
  rcases g4 with ⟨a1,a2⟩|⟨a1,a2⟩ <;> rcases k4 with ⟨c1,c2⟩|⟨c1,c2⟩ <;> omega
 ·rw [hp i (by omega)]
  exact hS.fresh i (by omega)
theorem Fnc.Aq{f:FuncId}{args:List SV}{H:aw}{nx b:Nat}{v:Value}{vo:Nat→VO}{row vo0:VO}(h0:H.at' b=some vo0)(hc: ∀ ρ n,(vo n).ren ρ=vo (ρ n))(hc2: ∀ ρ,row.ren ρ=row)(h:Fnc P f args H nx (fun q=>q.1 = .sc v∧(∃ r,nx≤r∧q.2.1.at' b=some (vo r)∧q.2.1.at' r=some row)∧ ∀ n,n<nx→n≠b→q.2.1.at' n=H.at' n)):Fnc P f args H nx (fun q=>q=(.sc v,(H.set nx row).set b (vo nx),nx+1)):=by
 unfold Fnc iR at h ⊢
 rcases h with ⟨h1,u,r,h2,⟨q1,⟨n,q2,q4,q5⟩,q3⟩,h4⟩|h
 ·refine .inl ⟨h1,u,_,h2,rfl,fun K w0 e w hS=>?_⟩
  obtain⟨e',g1,g2,g3⟩:=h4 K w0 e w hS
  rw [q1] at g3
  obtain⟨e2,x1,x2⟩:=hS.dropR g1 g2 h0 q4 q5 q2 hc hc2 q3
  exact⟨e2,x1,x2,g3⟩
 ·refine .inr ?_
  split at h
  ·refine⟨fun K w0 e w tmps todo ds kd rof cs hS a2 a3 a4 a5=>?_⟩
   obtain⟨r,⟨q1,⟨n,q2,q4,q5⟩,q3⟩,e',w',u,g1,g2,g3,g4⟩:=Wp.run h K w0 e w tmps todo ds kd rof cs hS a2 a3 a4 a5
   rw [q1] at g3
   obtain⟨e2,x1,x2⟩:=hS.dropR g1 g2 h0 q4 q5 q2 hc hc2 q3
   exact⟨_,rfl,e2,w',u,x1,x2,g3,g4⟩
  ·exact h.elim
end
end Go.Sy
end
section
namespace Go.Proofs.YtelnglhodnoclaaGreat
open Go Go.Sy Go.Sl Go.RowKit
section
variable {P:Program} {T:Tr SV} {H:aw} {d:Option Tmp} {ty:TypeId} {pos:String} {af:Array Edge} {gd:Option (Nat×Bool)}
variable (P)in
def mL(t:TypeId)(name:String):Bool:=
 match P.info? t with
 | none=>false
 | some i=>match i.methods.find? (fun m=>m.name == name)with
   | none=>false
   | some m=>match m.func with
     | some (_,true)=>m.path.isEmpty
     | _=>false
theorem qD{t:TypeId}{name:String}(h:mL P t name=true)(v:Value)(w:World):(nilAhead (P.types.size+Made.depth) t v name).run P w = .ok (some false) w:=by
 unfold mL at h
 cases hi:P.info? t with
 | none=>rw [hi] at h;cases h
 | some i=>
   rw [hi] at h
   simp only at h
   cases hm:i.methods.find? (fun m=>m.name == name)with
   | none=>rw [hm] at h;cases h
   | some m=>
     rw [hm] at h
     simp only at h
     cases hmf:m.func with
     | none=>rw [hmf] at h;cases h
     | some q=>
       obtain⟨g',pr⟩:=q
       rw [hmf] at h
       cases pr with
       | false=>cases h
       | true=>
         simp only at h
         obtain⟨n,hn⟩: ∃ n,P.types.size+Made.depth=n+1:=⟨P.types.size+99,by unfold Made.depth;omega⟩
         have hpath:m.path.toList= []:=by
          cases hp:m.path.toList with
          | nil=>rfl
          | cons a l=>rw [Array.isEmpty_iff] at h;rw [h] at hp;cases hp
         have hi':(typeInfo t).run P w = .ok i w:=by simp [typeInfo,hi]
         simp only [Sem.run_bind,Result.andThen,hn,nilAhead,hi',hm,hpath,followBlind,Sem.run_pure,hmf]
theorem lK{x:Operand}{n:String}{t:TypeId}{v:SV}(hp:mL P t n=true)(h:ar T x=some (.fn (.method n) [.ifc t v] [])):ReadDoes P T H ⟨d,.nilCheck x,ty,pos,af,gd⟩ (.fn (.method n) [.ifc t v] []):=by
 intro K w0 e nx w ev hS hE
 have hv:=hE x _ h
 obtain⟨x1,y1,hx1,_,hx⟩:=pR hv
 obtain⟨u,us,rfl,hu,_⟩:=b9 hx1
 obtain⟨u0,_,rfl⟩:=mj hu
 exact⟨_,hv,by simp [execOp,hx,qD hp]⟩
end
section
variable {H:aw}{a b c f:Nat}{left:Int}{n nx u:Nat}{mem x:List UInt8}
abbrev fnR(fs:List (FuncId×List SV)):VO:=fA false fs.length 1 105 (fs.map fun x=> .fn (.func x.1) [] x.2)
theorem Az{r:Nat}{fs:List (FuncId×List SV)}(hl:fs.length≤1000)(hg: ∀ x∈fs,bB Tryz.prog x.1=true)(S:Nat→aw→Nat→Prop)(E:Int→aw→Nat→Prop)
 (hrow: ∀ i H n,S i H n→H.at' r=some (fnR fs))
 (hstep: ∀ i (hi:i<fs.length) H n,S i H n→Fnc Tryz.prog (fs[i]).1 (fs[i]).2 H n (fun q=>(q.1 = .sc (.int .i64 0)∧S (i+1) q.2.1 q.2.2)∨ ∃ e,e≠0∧q.1 = .sc (.int .i64 e)∧E e q.2.1 q.2.2))
 (h0:S 0 H nx):Fnc Tryz.prog 58 [.slu r 0 fs.length] H nx (fun q=>(q.1 = .sc (.int .i64 0)∧S fs.length q.2.1 q.2.2)∨ ∃ e,e≠0∧q.1 = .sc (.int .i64 e)∧E e q.2.1 q.2.2):=by
 refine E2 Tryz.func58 rfl rfl ?_
 repeat apply ae;rfl
 refine br (α:=Nat) (fun i=> [(6,.slu r 0 fs.length),(7,.sc (.int .i64 (fs.length:Int))),(8,.sc (.int .i64 (i:Int)))])
  (fun i H1 n1=>i≤fs.length∧S i H1 n1) (fun i=>fs.length-i) 0 ⟨En _,h0⟩ (E8 (Gb rfl)) ?_
 rintro i H1 n1 ⟨h1,h2⟩ ih
 have hr:=hrow _ _ _ h2
 repeat apply ae;rfl
 refine bm rfl rfl rfl rfl (fun c1=>?_) (fun c1=>?_)
 ·have hi:i<fs.length:=by omega
  have hcell:(fnR fs).cell (i*1)=some (.fn (.func (fs[i]).1) [] (fs[i]).2):=kQ (by rw [Nat.mul_one,EP,D5 hi];rfl) (by omega)
  repeat first|refine cQ (q:=i) rfl rfl rfl rfl (F.un _ rfl) (F.sz _ rfl) (by assumption) (by omega) (by(omega)) (Em _) ?_|refine bN (aI (F.ag _ rfl) rfl hr hcell) rfl rfl rfl ?_|apply ae;rfl
  refine jG rfl rfl rfl rfl (hg _ (Ex hi)) (E1 (hstep i hi _ _ h2) ?_)
  rintro⟨_,H2,n2⟩ (⟨rfl,g⟩|⟨e,he,rfl,g⟩)
  ·dsimp only at g ⊢
   repeat first|apply ig;rfl;rfl|apply ae;rfl|apply aB;rfl;omega;omega
   exact ih _ _ _ (i+1) ⟨hi,g⟩ (by omega) (E8 (Gb rfl))
  ·dsimp only at g ⊢
   repeat first|refine ga rfl rfl rfl rfl (fun _=>?_) (fun hq=>absurd hq he)|apply ae;rfl
   (apply bW Tryz.func58 Tryz.results58;rfl)
   exact .inr ⟨e,he,rfl,g⟩
 ·obtain rfl:i=fs.length:=by omega
  repeat apply ae;rfl
  (apply bW Tryz.func58 Tryz.results58;rfl)
  exact .inl ⟨rfl,h2⟩
theorem B0:Fnc Tryz.prog 55 [.ptr a 0] H nx (fun q=>q=(.tup [],H,nx)):=by
 refine E2 Tryz.func55 rfl rfl ?_
 repeat first|apply ae;rfl|apply fQ;rfl;rfl|refine bN (fS rfl Tryz.underlying20) rfl rfl rfl ?_
 (apply wd Tryz.func55 Tryz.results55;rfl)
 rfl
abbrev vE(b:Nat):VO:=am 80 [nY b]
theorem BC{ρ:Nat→Nat}{r:Nat}:(gC mem (.slu r 0 n) left false).ren ρ=gC mem (.slu (ρ r) 0 n) left false:=by
 refine zg ?_
 rw [SV.nz,Es]
 have h:((byV mem).map SV.sc).map (SV.ren ρ)=(byV mem).map SV.sc:=by rw [List.map_map];rfl
 rw [h]
 rfl
theorem Bz{ρ:Nat→Nat}{n:Int}:(fA false c 1025 212 (lY n x)).ren ρ=fA false c 1025 212 (lY n x):=by
 have h:fA false c 1025 212 (lY n x)=dat false c 1025 212 (Value.int .i64 n :: byV x):=bU false c 1025 212 (Value.int .i64 n :: byV x)
 rw [h,dw]
theorem BZ(ha:H.at' a=some (vE b))(hab:a≠b)(hb:H.at' b=some (gC mem cC left false))(hm:mem.length=28672)(hl:left≠0)(hl2 : -1000000000≤left∧left≤9223372036854775807):Fnc Tryz.prog 59 [.ptr a 0] H nx
 (fun q=>q.1 = .sc (.int .i64 0)∧PgAt q.2.1 b (bQ mem 1 (dm 3)) (left-1) 1∧nx≤q.2.2∧ ∀ m,m<nx→m≠b→q.2.1.at' m=H.at' m):=by
 refine E2 Tryz.func59 rfl rfl ?_
 refine a9 fun hund=>?_
 have hla:=hund _ _ ha
 have hlb:=hund _ _ hb
 have hin:=xD (H:=H) (nx:=nx) 3
 have hput:=Fnc.Aq (b:=b) (vo:=fun r=>gC (bQ mem 1 (dm 3)) (.slu r 0 (0+1)) (left-1) false) (row:=fA false (0+1) 1025 212 (lY ((4+1:Nat):Int) (dm 3))) hb (fun _ _=>BC) (fun _=>Bz) (E1 (wS (nx:=nx) (n:=1) hb hm (by decide) (cM 3) hl hl2) (fun q ⟨h1,⟨r,h2,h3,h4⟩,h5,h6⟩=>⟨h1,⟨r,h2,h3,h4⟩,h6⟩))
 repeat apply ae;rfl
 (apply cR;(focus(kernel_rfl));(focus(kernel_rfl)))
 repeat first|apply lz;rfl;assumption;rfl|refine eZ rfl rfl rfl (by kernel_rfl) hin ?_|refine yb 153 rfl rfl rfl rfl rfl hput ?_|apply dn;rfl;rfl;exact(fun _ h=>by cases h);exact(lK (by kernel_rfl) rfl)|apply aA;rfl
 refine ay ⟨by kernel_rfl,?_,?_⟩;(focus(repeat(first|exact Gc|apply mh;rfl|apply l5;rfl;kernel_rfl|refine jC 0 rfl (by kernel_rfl) (by(repeat(refine⟨(by first|exact aI (F.ag _ rfl) rfl (by repeat(first|assumption|refine aa (by omega) ?_)) (aE rfl)|exact lK (by kernel_rfl) rfl),?_⟩));exact Gc) ?_)))
 (apply bW Tryz.func59 Tryz.results59;rfl)
 exact⟨rfl,⟨_,au _ _ _,.inr ⟨nx,_,by decide,rfl,(ab _ _ (by omega)).trans (au _ _ _),kf _ (cM 3)⟩⟩,Ew _,fun m h1 h2=>(ab _ _ h2).trans (ab _ _ (by omega))⟩
theorem BY{d:Nat}(ha:H.at' a=some (vE b))(hd:H.at' d=some (pgO x))(hx:x.length=1024)(hb:PgAt H b mem left c)(hm:mem.length=28672)(hl:left≠0)(hl2 : -1000000000≤left∧left≤9223372036854775807)(hc:c≤1000000):Fnc Tryz.prog 60 [.ptr a 0,.ptr d 0] H nx
 (fun q=>q.1 = .sc (.int .i64 0)∧PgAt q.2.1 b (bQ mem 0 x) (left-1) (c+1)∧nx≤q.2.2∧ ∀ m,m<nx→m≠b→(∀ ws,H.at' m≠some (fA false c 1025 212 ws))→q.2.1.at' m=H.at' m):=by
 refine E2 Tryz.func60 rfl rfl ?_
 repeat first|apply dc hx;rfl;assumption|apply ae;rfl|apply aR;rfl;assumption;rfl
 refine fC 153 rfl rfl rfl rfl (by kernel_rfl) (E1 (Dj (n:=0) hb hm (by decide) hx hl hl2 hc) ?_)
 rintro⟨_,HA,nA⟩ ⟨rfl,w1,w2,w3⟩
 dsimp only at w1 w2 w3 ⊢
 repeat apply ae;rfl
 (apply bW Tryz.func60 Tryz.results60;rfl)
 exact⟨rfl,w1,w2,w3⟩
theorem NoPut.box{m:Nat}{t:TypeId}{l:List SV}(h:H.at' m=some (am t l)):NoPut H m:=fun c=>rL h
theorem kc:root0.length=1024:=by kernel_rfl
def qN(mem:List UInt8):Nat→List UInt8
 | 0=>mem
 | 1=>bQ mem 1 (dm 3)
 | _=>bQ (bQ mem 1 (dm 3)) 0 root0
def Cv(H:aw)(b:Nat)(mem:List UInt8)(left:Int):Nat→Prop
 | 0=>H.at' b=some (gC mem cC left false)
 | i+1=> ∃ lf,lf=left-((i+1:Nat):Int)∧PgAt H b (qN mem (i+1)) lf (i+1)
theorem Dq(hb:H.at' b=some (gC mem cC left false))(hm:mem.length=28672)(hl:left<0)(hl2 : -1000000≤left):Fnc Tryz.prog 29 [nY b] H nx
 (fun q=>q.1 = .sc (.int .i64 0)∧PgAt q.2.1 b (qN mem 2) (left-1-1) 2∧nx≤q.2.2∧ ∀ m,m<nx→m≠b→NoPut H m→q.2.1.at' m=H.at' m):=by
 refine E2 Tryz.func29 rfl rfl ?_
 refine a9 fun hund=>?_
 have hlb:b<nx:=hund _ _ hb
 have hin:=fun(H:aw) (nx:Nat)=>xD (H:=H) (nx:=nx) 2
 repeat first|apply cH;rfl;kernel_rfl;exact hin _ _|apply ae;rfl|apply aR;rfl;(focus((repeat(first|exact ah|refine aa (by omega) ?_));done));rfl|refine eR (tR rfl rfl) rfl rfl rfl ?_|refine eR (aU (F.un _ rfl) (F.sz _ rfl) (aN rfl) (F.ze _ rfl) rfl rfl rfl rfl rfl) rfl rfl rfl ?_|apply gN;rfl;rfl;rfl;(focus(kernel_rfl))|refine bN (fe rfl rfl Tryz.underlying80 rfl) rfl rfl rfl ?_
 have hB:BsIs ((((H.set nx (vE b)).set (nx+1) (l7 0))).set (nx+1+1) (fA false 1 1 5 ((byV [1]).map .sc))) (.slu (nx+1+1) 0 1) (byV [1]):=
  rK (ro:=false) (n:=1) (Eq.trans (b:=some (fA false 1 1 5 ((byV [1]).map .sc))) (by repeat(exact ah)) (congrArg some (bU _ _ _ _ _))) rfl
 have hins:=jh (nx:=nx+1+1+1) (cM 2) hB (by decide)
 rw [t9] at hins
 repeat first|apply cH;rfl;kernel_rfl;exact hins|refine eR (aW dN) rfl rfl rfl ?_|apply cx kc ac;rfl;(focus((repeat(exact ah));done))|apply ig;rfl;rfl|apply ae;rfl|apply aR;rfl;(focus((repeat(first|exact ah|refine aa (by omega) ?_));done));rfl|refine eR (aU (F.un _ rfl) (F.sz _ rfl) (aN rfl) (F.ze _ rfl) rfl rfl rfl rfl rfl) rfl rfl rfl ?_
 refine im (R:=fun H2 n2=>n2=nx+1+1+1+1+1∧H2.at' nx=some (vE b)∧H2.at' (nx+1)=some (l7 0)∧H2.at' (nx+1+1+1)=some (pgO root0)∧H2.at' (nx+1+1+1+1)=some (fnR [(59,[.ptr nx 0]),(60,[.ptr nx 0,.ptr (nx+1+1+1) 0])])∧ ∀ m,m<nx→H2.at' m=H.at' m) ⟨rfl,by repeat(first|exact ah|refine aa (by omega) ?_),by repeat(first|exact ah|refine aa (by omega) ?_),by repeat(first|exact ah|refine aa (by omega) ?_),by repeat(exact ah),fun m hm=>by(repeat(refine aa (by omega) ?_));rfl⟩ ?_
 clear hins hB
 rintro H2 n2 ⟨rfl,b0,b1,b3,b4,bo⟩
 refine aL rfl rfl rfl (by kernel_rfl) (E1 (Az (r:=nx+1+1+1+1) (fs:= [(59,[.ptr nx 0]),(60,[.ptr nx 0,.ptr (nx+1+1+1) 0])]) (D7 rfl) (fun x hx=>by rcases EN.1 hx with rfl|hx;kernel_rfl;rw [EE.1 hx];kernel_rfl)
  (fun i H3 n3=>H3.at' (nx+1+1+1+1)=some (fnR [(59,[.ptr nx 0]),(60,[.ptr nx 0,.ptr (nx+1+1+1) 0])])∧H3.at' nx=some (vE b)∧H3.at' (nx+1)=some (l7 0)∧H3.at' (nx+1+1+1)=some (pgO root0)∧nx+1+1+1+1+1≤n3∧Cv H3 b mem left i∧ ∀ m,m<nx→m≠b→NoPut H m→H3.at' m=H.at' m)
  (fun _ _ _=>False) (fun i H3 n3 h=>h.1) ?_ ⟨b4,b0,b1,b3,Em _,(bo b hlb).trans hb,fun m hm _ _=>bo m hm⟩) ?_)
 ·intro i hi H3 n3 ⟨s1,s2,s3,s4,s5,s6,s7⟩
  have hfn: ∀ c ws,H3.at' (nx+1+1+1+1)≠some (fA false c 1025 212 ws):=fun c ws h=>by
   rw [s1] at h
   injection h with h
   injection h with _ _ h
   exact absurd h (by decide)
  rcases i with _|_|i
  ·refine E1 (BZ (a:=nx) s2 (by omega) s6 hm (by omega) (by omega)) ?_
   rintro⟨_,H4,n4⟩ ⟨rfl,g1,g2,g3⟩
   exact .inl ⟨rfl,(g3 _ (by omega) (by omega)).trans s1,(g3 _ (by omega) (by omega)).trans s2,(g3 _ (by omega) (by omega)).trans s3,(g3 _ (by omega) (by omega)).trans s4,by dsimp only at g2 ⊢;omega,⟨_,rfl,g1⟩,fun m h1 h2 h3=>(g3 m (by omega) h2).trans (s7 m h1 h2 h3)⟩
  ·obtain⟨lf,hlf,s6⟩:=s6
   replace hlf:lf=left-1:=hlf
   replace s6:PgAt H3 b (qN mem 1) lf 1:=s6
   refine E1 (BY (a:=nx) (d:=nx+1+1+1) s2 s4 kc s6 (j7 hm (by decide) (cM 3)) (by omega) (by omega) (by omega)) ?_
   rintro⟨_,H4,n4⟩ ⟨rfl,g1,g2,g3⟩
   exact .inl ⟨rfl,(g3 _ (by omega) (by omega) (hfn _)).trans s1,(g3 _ (by omega) (by omega) (rL s2)).trans s2,(g3 _ (by omega) (by omega) (rL s3)).trans s3,(g3 _ (by omega) (by omega) (rL s4)).trans s4,by dsimp only at g2 ⊢;omega,⟨_,by rw [hlf];show left-1-1=left-((2:Nat):Int);omega,g1⟩,fun m h1 h2 h3=>(g3 m (by omega) h2 ((h3.same (s7 m h1 h2 h3)) _)).trans (s7 m h1 h2 h3)⟩
  ·exact absurd hi (by show ¬ (i+1+1<2);omega)
 rintro⟨_,H4,n4⟩ (⟨rfl,s1,s2,s3,s4,s5,⟨lf,hlf,s6⟩,s7⟩|⟨_,_,_,hf⟩)
 case inr=>exact hf.elim
 obtain rfl:lf=left-1-1:=by rw [hlf];show left-((2:Nat):Int)=_;omega
 obtain⟨s,z1,z2⟩:=s6
 dsimp only at s3 s5 z1 z2 s7 ⊢
 repeat first|apply ae;rfl|apply aR;rfl;assumption;rfl
 refine eS Tryz.func29 (congrArg Array.toList Tryz.results29) (by kernel_rfl) (E1 B0 ?_)
 rintro _ rfl
 refine⟨_,(by(repeat(first|exact E3|apply E4 rfl (E7 (F.ag _ rfl) (by repeat(exact ah)) (aE rfl))))),?_⟩
 exact⟨rfl,⟨s,by(repeat(refine aa (by omega) ?_));exact z1,z2.frame fun r ws hr=>(by have hrn:r≠nx+1:=(by rintro rfl;exact rL s3 ws hr);(focus((repeat(refine aa (by omega) ?_));rfl)))⟩,by first|omega|(dsimp only;omega),fun m h1 h2 h3=>by(repeat(refine aa (by omega) ?_));exact s7 m h1 h2 h3⟩
abbrev zP(n:Int):VO:=am 3 [.sc (.int .i64 n)]
abbrev DX(H:aw)(nx b c n:Nat)(mem x:List UInt8)(left:Int):Pst:=fun q=>nx≤q.2.2∧Kept H q.2.1 b nx∧((left≠0∧q.1 = .sc (.int .i64 0)∧PgAt q.2.1 b (bQ mem n x) (left-1) (c+1))∨(left=0∧q.1 = .sc (.int .i64 8)∧PgAt q.2.1 b mem 0 c))
theorem BH(ha:H.at' a=some (vE b))(hf:H.at' f=some (zP ((4+n:Nat):Int)))(hu:H.at' u=some (pgO x))(hb:PgAt H b mem left c)(hm:mem.length=28672)(hn:n<28)(hx:x.length=1024)(hl2 : -1000000000≤left∧left≤9223372036854775807)(hc:c≤1000000):Fnc Tryz.prog 83 [.ptr a 0,.ptr f 0,.ptr u 0] H nx (DX H nx b c n mem x left):=by
 refine E2 Tryz.func83 rfl rfl ?_
 repeat first|apply dc hx;rfl;assumption|apply ae;rfl|apply aR;rfl;assumption;rfl
 refine fC 153 rfl rfl rfl rfl (by kernel_rfl) (E1 (uT (n:=n) hb hm hn hx hl2 hc) ?_)
 rintro⟨_,H1,n1⟩ ⟨g1,g2,(⟨g3,rfl,g4⟩|⟨g3,rfl,g4⟩)⟩
 ·repeat apply ae;rfl
  (apply bW Tryz.func83 Tryz.results83;rfl)
  exact⟨g1,g2,.inl ⟨g3,rfl,g4⟩⟩
 ·repeat apply ae;rfl
  (apply bW Tryz.func83 Tryz.results83;rfl)
  exact⟨g1,g2,.inr ⟨g3,rfl,g4⟩⟩
theorem BG(ha:H.at' a=some (vE b))(hu:H.at' u=some (pgO x))(hb:PgAt H b mem left c)(hm:mem.length=28672)(hx:x.length=1024)(hl2 : -1000000000≤left∧left≤9223372036854775807)(hc:c≤1000000):Fnc Tryz.prog 84 [.ptr a 0,.ptr u 0] H nx (DX H nx b c 0 mem x left):=by
 refine E2 Tryz.func84 rfl rfl ?_
 repeat first|apply dc hx;rfl;assumption|apply ae;rfl|apply aR;rfl;assumption;rfl
 refine fC 153 rfl rfl rfl rfl (by kernel_rfl) (E1 (uT (n:=0) hb hm (by decide) hx hl2 hc) ?_)
 rintro⟨_,H1,n1⟩ ⟨g1,g2,(⟨g3,rfl,g4⟩|⟨g3,rfl,g4⟩)⟩
 ·repeat apply ae;rfl
  (apply bW Tryz.func84 Tryz.results84;rfl)
  exact⟨g1,g2,.inl ⟨g3,rfl,g4⟩⟩
 ·repeat apply ae;rfl
  (apply bW Tryz.func84 Tryz.results84;rfl)
  exact⟨g1,g2,.inr ⟨g3,rfl,g4⟩⟩
theorem BF{p:List UInt8}{so sl:SV}(ha:H.at' a=some (vE b))(hf:H.at' f=some (ee ((4+n:Nat):Int) p so sl))(hu:H.at' u=some (pgO x))(hb:PgAt H b mem left c)(hm:mem.length=28672)(hn:n<28)(hx:x.length=1024)(hl2 : -1000000000≤left∧left≤9223372036854775807)(hc:c≤1000000):Fnc Tryz.prog 85 [.ptr a 0,.ptr f 0,.ptr u 0] H nx (DX H nx b c n mem x left):=by
 refine E2 Tryz.func85 rfl rfl ?_
 repeat first|apply dc hx;rfl;assumption|refine aZ rfl rfl rfl (F.ag _ rfl) hf rfl ?_|apply ae;rfl|apply aR;rfl;assumption;rfl
 refine fC 153 rfl rfl rfl rfl (by kernel_rfl) (E1 (uT (n:=n) hb hm hn hx hl2 hc) ?_)
 rintro⟨_,H1,n1⟩ ⟨g1,g2,(⟨g3,rfl,g4⟩|⟨g3,rfl,g4⟩)⟩
 ·repeat apply ae;rfl
  (apply bW Tryz.func85 Tryz.results85;rfl)
  exact⟨g1,g2,.inl ⟨g3,rfl,g4⟩⟩
 ·repeat apply ae;rfl
  (apply bW Tryz.func85 Tryz.results85;rfl)
  exact⟨g1,g2,.inr ⟨g3,rfl,g4⟩⟩
theorem BE(ha:H.at' a=some (vE b))(hf:H.at' f=some (zP ((4+n:Nat):Int)))(hu:H.at' u=some (pgO x))(hb:PgAt H b mem left c)(hm:mem.length=28672)(hn:n<28)(hx:x.length=1024)(hl2 : -1000000000≤left∧left≤9223372036854775807)(hc:c≤1000000):Fnc Tryz.prog 86 [.ptr a 0,.ptr f 0,.ptr u 0] H nx (DX H nx b c n mem x left):=by
 refine E2 Tryz.func86 rfl rfl ?_
 repeat first|apply dc hx;rfl;assumption|apply ae;rfl|apply aR;rfl;assumption;rfl
 refine fC 153 rfl rfl rfl rfl (by kernel_rfl) (E1 (uT (n:=n) hb hm hn hx hl2 hc) ?_)
 rintro⟨_,H1,n1⟩ ⟨g1,g2,(⟨g3,rfl,g4⟩|⟨g3,rfl,g4⟩)⟩
 ·repeat apply ae;rfl
  (apply bW Tryz.func86 Tryz.results86;rfl)
  exact⟨g1,g2,.inl ⟨g3,rfl,g4⟩⟩
 ·repeat apply ae;rfl
  (apply bW Tryz.func86 Tryz.results86;rfl)
  exact⟨g1,g2,.inr ⟨g3,rfl,g4⟩⟩
abbrev uV(a f u rt lr lw t x:Nat):List (FuncId×List SV):= [(83,[.ptr a 0,.ptr f 0,.ptr u 0]),(84,[.ptr a 0,.ptr rt 0]),(85,[.ptr a 0,.ptr lr 0,.ptr lw 0]),(86,[.ptr a 0,.ptr t 0,.ptr x 0])]
end
structure PartB (H:aw) (a f u rt lr lw t x:Nat) (b F k T:Nat) (p:List UInt8) (so sl:SV) (xu xr xl xx:List UInt8):Prop where
 a':H.at' a=some (vE b)
 f':H.at' f=some (zP ((4+F:Nat):Int))
 u':H.at' u=some (pgO xu)
 rt':H.at' rt=some (pgO xr)
 lr':H.at' lr=some (ee ((4+k:Nat):Int) p so sl)
 lw':H.at' lw=some (pgO xl)
 t':H.at' t=some (zP ((4+T:Nat):Int))
 x':H.at' x=some (pgO xx)
theorem PartB.kept{H H':aw}{a f u rt lr lw t x b F k T nx:Nat}{p:List UInt8}{so sl:SV}{xu xr xl xx:List UInt8}(h:PartB H a f u rt lr lw t x b F k T p so sl xu xr xl xx)(g:Kept H H' b nx)(hn: ∀ m,m∈ [a,f,u,rt,lr,lw,t,x]→m<nx∧m≠b):PartB H' a f u rt lr lw t x b F k T p so sl xu xr xl xx:=by
 simp only [EN,List.not_mem_nil,or_false,forall_eq_or_imp,forall_eq] at hn
 obtain⟨q1,q2,q3,q4,q5,q6,q7,q8⟩:=hn
 exact⟨(g _ q1.1 q1.2 (NoPut.box h.a')).trans h.a',(g _ q2.1 q2.2 (NoPut.box h.f')).trans h.f',(g _ q3.1 q3.2 (NoPut.box h.u')).trans h.u',(g _ q4.1 q4.2 (NoPut.box h.rt')).trans h.rt',(g _ q5.1 q5.2 (NoPut.box h.lr')).trans h.lr',(g _ q6.1 q6.2 (NoPut.box h.lw')).trans h.lw',(g _ q7.1 q7.2 (NoPut.box h.t')).trans h.t',(g _ q8.1 q8.2 (NoPut.box h.x')).trans h.x'⟩
theorem xN{H:aw}{m:Nat}{fs:List (FuncId×List SV)}(h:H.at' m=some (fnR fs)):NoPut H m:=fun c ws h2=>by
 rw [h] at h2
 injection h2 with h2
 injection h2 with _ _ h2
 exact absurd h2 (by decide)
theorem Di{H:aw}{nx b c a f u rt lr lw t x r F k T:Nat}{p:List UInt8}{so sl:SV}{mem xu xr xl xx:List UInt8}{left:Int}(hB:PartB H a f u rt lr lw t x b F k T p so sl xu xr xl xx)(hr:H.at' r=some (fnR (uV a f u rt lr lw t x)))(hn: ∀ m,m∈ [a,f,u,rt,lr,lw,t,x]→m<nx∧m≠b)(hrn:r<nx∧r≠b)
 (hb:PgAt H b mem left c) (hm:mem.length=28672) (hF:F<28) (hk:k<28) (hT:T<28) (hxu:xu.length=1024) (hxr:xr.length=1024) (hxl:xl.length=1024) (hxx:xx.length=1024) (hl2 : -100000000≤left∧left≤9223372036854775807) (hc:c≤999990) :
 Fnc Tryz.prog 58 [.slu r 0 4] H nx (fun q=>nx≤q.2.2∧q.1 = .sc (.int .i64 ((gw left 4 0:Nat):Int))∧PgAt q.2.1 b (dU mem ([(F,xu),(0,xr),(k,xl),(T,xx)].take (fH left 4))) (left-(fH left 4:Nat)) (c+fH left 4)∧Kept H q.2.1 b nx):=by
 have hw: ∀ w,w∈ [(F,xu),(0,xr),(k,xl),(T,xx)]→w.1<28∧w.2.length=1024:=by
  intro w hw
  simp only [EN,List.not_mem_nil,or_false] at hw
  rcases hw with rfl|rfl|rfl|rfl
  ·exact⟨hF,hxu⟩
  ·exact⟨Nat.zero_lt_succ _,hxr⟩
  ·exact⟨hk,hxl⟩
  ·exact⟨hT,hxx⟩
 obtain⟨ws,hws⟩: ∃ ws,ws= [(F,xu),(0,xr),(k,xl),(T,xx)]:=⟨_,rfl⟩
 have hwl:ws.length=4:=by rw [hws];rfl
 have hml: ∀ i,(dU mem (ws.take i)).length=28672:=fun i=>wP hm _ fun w h=>hw w (hws ▸ List.mem_of_mem_take h)
 rw [← hws]
 refine E1 (Az (r:=r) (fs:=uV a f u rt lr lw t x) (D7 rfl) (fun y hy=>?_)
  (fun i H3 n3=>H3.at' r=some (fnR (uV a f u rt lr lw t x))∧PartB H3 a f u rt lr lw t x b F k T p so sl xu xr xl xx∧nx≤n3∧(0≤left→(i:Int)≤left)∧(∃ lf c',lf=left-(i:Int)∧c'=c+i∧PgAt H3 b (dU mem (ws.take i)) lf c')∧Kept H H3 b nx)
  (fun e H3 n3=>e=8∧nx≤n3∧0≤left∧left.toNat<4∧PgAt H3 b (dU mem (ws.take left.toNat)) 0 (c+left.toNat)∧Kept H H3 b nx) (fun i H3 n3 h=>h.1) ?_ ⟨hr,hB,Em _,fun h=>h,⟨left,c,by omega,rfl,hb⟩,Kept.refl _ _ _⟩) ?_
 ·simp only [uV,EN,List.not_mem_nil,or_false] at hy
  rcases hy with rfl|rfl|rfl|rfl <;> kernel_rfl
 ·intro i hi H3 n3 ⟨s1,s2,s3,s4,⟨lf,c',s5,s6,s7⟩,s8⟩
  have hi4:i<4:=hi
  have hbd : -1000000000≤lf∧lf≤9223372036854775807:=by omega
  have hcd:c'≤1000000:=by omega
  have hi5:i<ws.length:=by omega
  have hnm: ∀ m,m∈ [a,f,u,rt,lr,lw,t,x]→m<n3∧m≠b:=fun m h=>⟨by have:=(hn m h).1;omega,(hn m h).2⟩
  have hgo: ∀ q,DX H3 n3 b c' (ws[i]).1 (dU mem (ws.take i)) (ws[i]).2 lf q→(q.1 = .sc (.int .i64 0)∧(q.2.1.at' r=some (fnR (uV a f u rt lr lw t x))∧PartB q.2.1 a f u rt lr lw t x b F k T p so sl xu xr xl xx∧nx≤q.2.2∧(0≤left→((i+1:Nat):Int)≤left)∧(∃ lf c',lf=left-((i+1:Nat):Int)∧c'=c+(i+1)∧PgAt q.2.1 b (dU mem (ws.take (i+1))) lf c')∧Kept H q.2.1 b nx))∨ ∃ e,e≠0∧q.1 = .sc (.int .i64 e)∧(e=8∧nx≤q.2.2∧0≤left∧left.toNat<4∧PgAt q.2.1 b (dU mem (ws.take left.toNat)) 0 (c+left.toNat)∧Kept H q.2.1 b nx):=by
   rintro⟨v,H4,n4⟩ ⟨g1,g2,(⟨g3,rfl,g4⟩|⟨g3,rfl,g4⟩)⟩
   ·dsimp only at g1 g2 g4 ⊢
    exact .inl ⟨rfl,(g2 r (by omega) hrn.2 (xN s1)).trans s1,s2.kept g2 hnm,by omega,fun h=>by have:=s4 h;omega,⟨lf-1,c'+1,by omega,by omega,by rw [uS mem ws i hi5];exact g4⟩,s8.trans g2 s3⟩
   ·dsimp only at g1 g2 g4 ⊢
    have hi6:i=left.toNat:=by omega
    rw [← hi6]
    exact .inr ⟨8,by decide,rfl,rfl,by omega,by omega,by omega,by rw [← s6];exact g4,s8.trans g2 s3⟩
  have e0: ∀ (h:0<ws.length),ws[0]=(F,xu):=by rw [hws];intro _;rfl
  have e1: ∀ (h:1<ws.length),ws[1]=(0,xr):=by rw [hws];intro _;rfl
  have e2: ∀ (h:2<ws.length),ws[2]=(k,xl):=by rw [hws];intro _;rfl
  have e3: ∀ (h:3<ws.length),ws[3]=(T,xx):=by rw [hws];intro _;rfl
  rcases i with _|_|_|_|i
  ·rw [e0] at hgo
   exact E1 (BH (n:=F) s2.a' s2.f' s2.u' s7 (hml _) hF hxu hbd hcd) hgo
  ·rw [e1] at hgo
   exact E1 (BG s2.a' s2.rt' s7 (hml _) hxr hbd hcd) hgo
  ·rw [e2] at hgo
   exact E1 (BF (n:=k) s2.a' s2.lr' s2.lw' s7 (hml _) hk hxl hbd hcd) hgo
  ·rw [e3] at hgo
   exact E1 (BE (n:=T) s2.a' s2.t' s2.x' s7 (hml _) hT hxx hbd hcd) hgo
  ·omega
 rintro⟨v,H4,n4⟩ (⟨rfl,s1,s2,s3,s4,⟨lf,c',s5,s6,s7⟩,s8⟩|⟨e,_,rfl,rfl,g1,g2,g3,g4,g5⟩)
 ·dsimp only at s3 s4 s5 s6 s7 s8 ⊢
  have hlen:(uV a f u rt lr lw t x).length=4:=rfl
  rw [hlen] at s4 s5 s6 s7
  have hn4: ¬ (0≤left∧left.toNat<4):=fun h=>by have:=s4 h.1;omega
  rw [gw,Ey hn4,fH,Ey hn4]
  subst s5 s6
  exact⟨s3,rfl,s7,s8⟩
 ·dsimp only at g1 g4 g5 ⊢
  rw [gw,Ez ⟨g2,g3⟩,fH,Ez ⟨g2,g3⟩]
  refine⟨g1,rfl,?_,g5⟩
  rw [show left-(left.toNat:Int)=0 by omega]
  exact g4
end Go.Proofs.YtelnglhodnoclaaGreat
end
section
namespace Go.Sy
open Go Go.Sl Go.RowKit
section
variable {P:Program} {ro:Option Nat} {fn nt nx:Nat} {T:Tr SV} {k:List AIt} {dfs:List ADf} {H:aw} {Q:Pst}
theorem vY{A:Type}{it:AIt}(l:A→List (Nat×SV))(R:A→aw→Nat→Prop)(h2: ∀ a H' n',R a H' n'→Wp P ro ⟨fn,nt,slT (l a),k,dfs,H',n'⟩ Q)
 (h1:(∀ T' H' n' a,R a H' n'→(∀ n x,(slT (l a)).at' n=some x→T'.at' n=some x)→Wp P ro ⟨fn,nt,T',k,dfs,H',n'⟩ Q)→Wp P ro ⟨fn,nt,T,it :: k,dfs,H,nx⟩ Q):Wp P ro ⟨fn,nt,T,it :: k,dfs,H,nx⟩ Q:=
 h1 fun _ H' n' a hR hs=>Wp.less (h2 a H' n' hR) hs (Tr.le_refl _)
structure Stop (p:Prop):Prop where
 get:p
theorem vU(id:Nat){ops:Array Oper}{d:Bool}{c:Code}(h:Stop (Wp P ro ⟨fn,nt,T,.code (.seq (.region id ops d) c) :: k,dfs,H,nx⟩ Q)):Wp P ro ⟨fn,nt,T,.code (.seq (.region id ops d) c) :: k,dfs,H,nx⟩ Q:=h.get
end
end Go.Sy
end
