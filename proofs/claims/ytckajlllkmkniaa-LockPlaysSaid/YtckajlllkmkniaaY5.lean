import Derived.Test.YtckajlllkmkniaaY4
set_option linter.unusedVariables false
set_option linter.unusedSimpArgs false
set_option maxRecDepth 100000
set_option maxHeartbeats 0
section
namespace Go.Sy.Nq
open Go Go.Sy Go.Sl Go.RowKit
def ReadQ(P:Program)(rn:Rn)(T:Tr SV)(H:aV)(nx:Nat)(o:Oper)(v:SV):Prop:=ReadDoes P T H o v∨eL P rn T H nx o (v,H,nx)
def qV(P:Program)(rn:Rn)(nt:Nat)(ops:Array Oper)(i:Nat)(o:Oper)(s s':DS):Prop:=
 (aA (aS s.T (aO ops.toList o)) ops o=some false∧s' = {s with T:=gJ nt s.T o.dst cX,recs:=⟨i,o,aS s.T (aO ops.toList o),s.stg,false,false,cX⟩ :: s.recs}) ∨
 (aA (aS s.T (aO ops.toList o)) ops o=some true∧(∀ c,o.op ≠ .defer c)∧ ∃ v,ReadQ P rn (aS s.T (aO ops.toList o)) s.H s.nx o v∧s' = {s with T:=gJ nt s.T o.dst v,recs:=⟨i,o,aS s.T (aO ops.toList o),s.stg,false,true,v⟩ :: s.recs}) ∨
 (aA (aS s.T (aO ops.toList o)) ops o=some true∧ ∃ v H nx,eL P rn (aS s.T (aO ops.toList o)) s.H s.nx o (v,H,nx)∧s'=⟨gJ nt s.T o.dst v,H,nx,⟨i,o,aS s.T (aO ops.toList o),s.stg,true,true,v⟩ :: s.recs,(H,nx) :: s.Hs,s.stg+1⟩)
inductive DrawRunQ (P:Program) (rn:Rn) (nt:Nat) (ops:Array Oper):Nat→List Oper→DS→DS→Prop
 | nil (i:Nat) (s:DS):DrawRunQ P rn nt ops i [] s s
 | cons {i:Nat} {o:Oper} {l:List Oper} {s s1 s':DS}:qV P rn nt ops i o s s1→DrawRunQ P rn nt ops (i+1) l s1 s'→DrawRunQ P rn nt ops i (o :: l) s s'
def uO(P:Program)(rn:Rn)(ops:Array Oper)(s:DS):Prop:=
 ∀ r∈s.recs,r.chain=false→r.wanted=true→ ∀ st,eX ((bQ [] ops.toList).getD r.i 0) (cE s)≤st→st≤cV (bQ [] ops.toList) r.i (cE s)→st≠r.stg →
  ∀ H n,s.Hs.reverse[st]? =some (H,n)→ReadQ P rn r.T H n r.o r.val
def pM(P:Program)(rn:Rn)(ops:Array Oper)(nt:Nat)(T:Tr SV)(H:aV)(nx:Nat)(s:DS):Prop:=
 dT nt ops.toList=true∧DrawRunQ P rn nt ops 0 ops.toList ⟨T,H,nx,[],[(H,nx)],0⟩ s∧dE (bQ [] ops.toList) (cE s)=true∧uO P rn ops s
def yj(P:Program)(K:Zone)(w0:World)(rn:Rn):Prop:=
 P.follows .mixedOrders=true→ ∀ ops nt T H nx d,pM P rn ops nt T H nx d→ ∀ e w tmps,St K w0 e H nx w→TRel e nt T tmps→ ∀ (t fn:Nat) (k:List Item) (ds:List Deferred) (kd:CallKind) (rof:Option Nat) (cs:List Frame),
  ∃ e' w' tmps',e.le e'∧St K w0 e' d.H d.nx w'∧TRel e' nt d.T tmps' ∧
   Steps P (lone (fr0 fn tmps (.inRegion ops (Region.schedule (P.follows .mixedOrders) ops t) :: k) ds kd rof) cs w) (lone (fr0 fn tmps' (.inRegion ops [] :: k) ds kd rof) cs w')
section
variable (P:Program) (rn:Rn) (nt:Nat) (ops:Array Oper) (T0:Tr SV)
def Src(R:List Rec)(i:Nat)(t:Nat)(s:SV):Prop:=
 (∃ (k:Nat) (r:Rec),k<i∧R[k]? =some r∧r.o.dst=some t∧r.val=s)∨((∀ (k:Nat) (r:Rec),k<i→R[k]? =some r→r.o.dst≠some t)∧T0.at' t=some s)
structure RecOK (R:List Rec) (Q:List (aV×Nat)) (C:List Nat) (i:Nat) (r:Rec):Prop where
 idx:r.i=i
 op:ops[i]? =some r.o
 slots: ∀ t s,r.T.at' t=some s→Operand.tmp t∈aO ops.toList r.o∧Src T0 R i t s
 want:aA r.T ops r.o=some r.wanted
 skip:r.wanted=false→r.val=cX∧r.chain=false
 float:r.wanted=true→r.chain=false→(∀ c,r.o.op ≠ .defer c)∧ ∃ H n,Q[r.stg]? =some (H,n)∧ReadQ P rn r.T H n r.o r.val
 eff:r.chain=true→r.wanted=true∧C[r.stg]? =some i∧ ∃ H n H' n',Q[r.stg]? =some (H,n)∧Q[r.stg+1]? =some (H',n')∧eL P rn r.T H n r.o (r.val,H',n')
structure DSOK (i:Nat) (s:DS):Prop where
 len:s.recs.length=i
 hs:s.Hs.length=s.stg+1
 last:s.Hs.reverse[s.stg]? =some (s.H,s.nx)
 cnt:((s.recs.reverse.filter (·.chain)).map (·.i)).length=s.stg
 recs: ∀ (k:Nat) r,s.recs.reverse[k]? =some r→RecOK P rn ops T0 s.recs.reverse s.Hs.reverse ((s.recs.reverse.filter (·.chain)).map (·.i)) k r
 slots: ∀ t v,s.T.at' t=some v→Src T0 s.recs.reverse i t v
end
section
variable {P:Program} {rn:Rn} {nt:Nat} {ops:Array Oper} {T0:Tr SV}
theorem Src.mono{R R':List Rec}{i:Nat}{t:Nat}{s:SV}(h:Src T0 R i t s)(hR: ∀ k,k<i→R'[k]? =R[k]?):Src T0 R' i t s:=by
 rcases h with ⟨k,r,h1,h2,h3,h4⟩|⟨h1,h2⟩
 ·exact .inl ⟨k,r,h1,by rw [hR k h1];exact h2,h3,h4⟩
 ·exact .inr ⟨fun k r hk hr=>h1 k r hk (by rw [← hR k hk];exact hr),h2⟩
theorem RecOK.mono{R R':List Rec}{Q Q':List (aV×Nat)}{C C':List Nat}{i:Nat}{r:Rec}(h:RecOK P rn ops T0 R Q C i r)(hR: ∀ k,k<i→R'[k]? =R[k]?)(hQ: ∀ (j:Nat) x,Q[j]? =some x→Q'[j]? =some x)(hC: ∀ (j:Nat) x,C[j]? =some x→C'[j]? =some x) :
 RecOK P rn ops T0 R' Q' C' i r:=
 ⟨h.idx,h.op,fun t s hs=>let ⟨a,b⟩:=h.slots t s hs;⟨a,b.mono hR⟩,h.want,h.skip,fun a b=>let ⟨x,H,n,c,d⟩:=h.float a b;⟨x,H,n,hQ _ _ c,d⟩,
   fun a=>let ⟨b,c,H,n,H',n',d,e,f⟩:=h.eff a;⟨b,hC _ _ c,H,n,H',n',hQ _ _ d,hQ _ _ e,f⟩⟩
theorem fJ{A:Type}{l:List A}{x y:A}{j:Nat}(h:l[j]? =some y):(l ++ [x])[j]? =some y:=by
 rw [zM (zA.1 h).1];exact h
theorem dZ{A:Type}(l:List A)(x:A):(l ++ [x])[l.length]? =some x:=by simp
theorem DSOK.snoc{i:Nat}{s:DS}(h:DSOK P rn ops T0 i s)(hdst: ∀ (j:Nat) o d,ops.toList[j]? =some o→o.dst=some d→d<nt){r:Rec}{H:aV}{nx:Nat}{Hs:List (aV×Nat)}{stg:Nat}(ho:ops[i]? =some r.o)
 (hlen:Hs.length=stg+1) (hlast:Hs.reverse[stg]? =some (H,nx)) (hQ: ∀ (j:Nat) x,s.Hs.reverse[j]? =some x→Hs.reverse[j]? =some x) (hcnt:(if r.chain then s.stg+1 else s.stg)=stg)
 (hrec:RecOK P rn ops T0 (s.recs.reverse ++ [r]) Hs.reverse (((s.recs.reverse ++ [r]).filter (·.chain)).map (·.i)) i r):DSOK P rn ops T0 (i+1) ⟨gJ nt s.T r.o.dst r.val,H,nx,r :: s.recs,Hs,stg⟩:=by
 have hR: ∀ k,k<i→(s.recs.reverse ++ [r])[k]? =s.recs.reverse[k]? :=fun k hk=>zM (by simp [h.len];exact hk)
 have hri:(s.recs.reverse ++ [r])[i]? =some r:=by have:=dZ s.recs.reverse r;rw [List.length_reverse,h.len] at this;exact this
 refine⟨by simp [h.len],hlen,hlast,?_,fun k r' hr'=>?_,fun t v hv=>?_⟩
 ·simp only [List.reverse_cons,List.filter_append,zU,zT,h.cnt]
  rw [← hcnt]
  cases hc:r.chain <;> simp [List.filter_cons,hc]
 ·simp only [List.reverse_cons] at hr' ⊢
  rcases Nat.lt_or_ge k i with hk|hk
  ·rw [hR k hk] at hr'
   refine(h.recs k r' hr').mono (fun k' hk'=>hR k' (by omega)) hQ (fun j x hj=>?_)
   rw [List.filter_append,zU]
   rw [zM (zA.1 hj).1]
   exact hj
  ·have:k=i:=by
    have:=(zA.1 hr').1
    simp [h.len] at this
    omega
   subst this
   rw [hri] at hr'
   simp only [zw] at hr'
   subst hr'
   exact hrec
 ·simp only [List.reverse_cons] at hv ⊢
  have old:s.T.at' t=some v→r.o.dst≠some t→Src T0 (s.recs.reverse ++ [r]) (i+1) t v:=by
   intro hv hne
   rcases h.slots t v hv with ⟨k,r',h1,h2,h3,h4⟩|⟨h1,h2⟩
   ·exact .inl ⟨k,r',by omega,by rw [hR k h1];exact h2,h3,h4⟩
   ·refine .inr ⟨fun k r' hk hr'=>?_,h2⟩
    rcases Nat.lt_or_ge k i with hk'|hk'
    ·rw [hR k hk'] at hr'
     exact h1 k r' hk' hr'
    ·have:k=i:=by omega
     subst this
     rw [hri] at hr'
     simp only [zw] at hr'
     subst hr'
     exact hne
  cases hd:r.o.dst with
  | none=>rw [hd] at hv old;exact old hv (by simp)
  | some d=>
    rw [hd] at hv
    have hlt:=hdst i r.o d (by simpa using ho) hd
    simp only [gJ,show Nat.blt d nt=true from zD hlt,cond_true] at hv
    rcases Tr.bM hv with ⟨rfl,rfl⟩|⟨hne,hv⟩
    ·exact .inl ⟨i,r,by omega,hri,hd,rfl⟩
    ·exact old hv (by rw [hd];simp;exact fun hc=>hne hc.symm)
theorem iq{i:Nat}{o:Oper}{s s':DS}(h:DSOK P rn ops T0 i s)(hdst: ∀ (j:Nat) o d,ops.toList[j]? =some o→o.dst=some d→d<nt)(ho:ops[i]? =some o)(hd:qV P rn nt ops i o s s'):DSOK P rn ops T0 (i+1) s':=by
 have hslots: ∀ (R:List Rec),(∀ k,k<i→R[k]? =s.recs.reverse[k]?)→ ∀ t v,(aS s.T (aO ops.toList o)).at' t=some v→Operand.tmp t∈aO ops.toList o∧Src T0 R i t v:=by
  intro R hR t v hv
  obtain⟨h1,h2⟩:=ib _ t v hv
  exact⟨h1,(h.slots t v h2).mono hR⟩
 have hR: ∀ (r:Rec) k,k<i→(s.recs.reverse ++ [r])[k]? =s.recs.reverse[k]? :=fun r k hk=>zM (by simp [h.len];exact hk)
 rcases hd with ⟨hw,rfl⟩|⟨hw,hnd,v,hf,rfl⟩|⟨hw,v,H,nx,he,rfl⟩
 ·exact h.snoc (r:=⟨i,o,_,s.stg,false,false,cX⟩) hdst ho h.hs h.last (fun _ _ hj=>hj) rfl
   ⟨rfl,ho,hslots _ (hR _),hw,fun _=>⟨rfl,rfl⟩,fun hc _=>(by cases hc),fun hc=>(by cases hc)⟩
 ·exact h.snoc (r:=⟨i,o,_,s.stg,false,true,v⟩) hdst ho h.hs h.last (fun _ _ hj=>hj) rfl
   ⟨rfl,ho,hslots _ (hR _),hw,fun hc=>(by cases hc),fun _ _=>⟨hnd,s.H,s.nx,h.last,hf⟩,fun hc=>(by cases hc)⟩
 ·have hl:=h.hs
  have hq: ∀ (j:Nat) x,s.Hs.reverse[j]? =some x→((H,nx) :: s.Hs).reverse[j]? =some x:=fun j x hj=>by rw [List.reverse_cons];exact fJ hj
  have hlast:((H,nx) :: s.Hs).reverse[s.stg+1]? =some (H,nx):=by
   rw [List.reverse_cons]
   have:=dZ s.Hs.reverse (H,nx)
   rw [List.length_reverse,hl] at this
   exact this
  refine h.snoc (r:=⟨i,o,_,s.stg,true,true,v⟩) hdst ho (by simp [hl]) hlast hq rfl
   ⟨rfl,ho,hslots _ (hR _),hw,fun hc=>(by cases hc),fun _ hc=>(by cases hc),fun _=>⟨rfl,?_,s.H,s.nx,H,nx,hq _ _ h.last,hlast,he⟩⟩
  simp only [List.filter_append,zU,List.filter_cons,if_true,List.filter_nil,zR,List.map_nil]
  have:=dZ ((s.recs.reverse.filter (·.chain)).map (·.i)) i
  rw [h.cnt] at this
  exact this
theorem fm(hdst: ∀ (j:Nat) o d,ops.toList[j]? =some o→o.dst=some d→d<nt): ∀ (l:List Oper) (i:Nat) (s s':DS),DSOK P rn ops T0 i s→l=ops.toList.drop i→DrawRunQ P rn nt ops i l s s'→DSOK P rn ops T0 ops.size s'
 | [],i,s,s',h,hl,hd=>by
   cases hd
   have h1:=congrArg List.length hl
   simp at h1
   have h2:i≤ops.size:=by
    rcases Nat.lt_or_ge ops.size i with hc|hc
    ·exfalso
     have hlen:=h.len
     have hr:=h.recs (i-1) (s.recs.reverse[i-1]'(by simp;omega)) (zz (by simp;omega))
     have:=(zG.1 hr.op).1
     omega
    ·exact hc
   have:i=ops.size:=by omega
   subst this
   exact h
 | o :: l,i,s,s',h,hl,hd=>by
   have ho:ops[i]? =some o:=by
    have:ops.toList[i]? =some o:=by
     have:=congrArg List.head? hl
     simpa using this.symm
    simpa using this
   have hl':l=ops.toList.drop (i+1):=by
    have:=congrArg List.tail hl
    simpa using this
   cases hd with
   | cons hone hd=>exact fm hdst l (i+1) _ s' (iq h hdst ho hone) hl' hd
end
section
variable {P:Program} {K:Zone} {w0 w:World} {e:Env} {H:aV} {nx:Nat} {rn:Rn}
structure RegOK (P:Program) (rn:Rn) (nt:Nat) (ops:Array Oper) (T0:Tr SV) (R:List Rec) (Q:List (aV×Nat)) (C:List Nat):Prop where
 len:R.length=ops.size
 recs: ∀ (k:Nat) r,R[k]? =some r→RecOK P rn ops T0 R Q C k r
 stages:Q.length=C.length+1
 chainR:C=(R.filter (·.chain)).map (·.i)
 chain:dE (bQ [] ops.toList) C=true
 floats: ∀ r∈R,r.chain=false→r.wanted=true→(∀ c,r.o.op ≠ .defer c)∧ ∀ s,eX ((bQ [] ops.toList).getD r.i 0) C≤s→s≤cV (bQ [] ops.toList) r.i C→ ∀ H n,Q[s]? =some (H,n)→ReadQ P rn r.T H n r.o r.val
 small: ∀ (i:Nat) o d,ops.toList[i]? =some o→o.dst=some d→d<nt
 dist: ∀ (i j:Nat) oi oj d,ops.toList[i]? =some oi→ops.toList[j]? =some oj→oi.dst=some d→oj.dst=some d→i=j
 edges: ∀ (i:Nat) o,ops.toList[i]? =some o→eJ i o.after.toList=true
 opnds: ∀ (i:Nat) o,ops.toList[i]? =some o→cL ops.toList (bQ [] ops.toList) i ((bQ [] ops.toList).getD i 0) (aO ops.toList o)=true
def rV(T0:Tr SV)(R:List Rec)(L:Nat→Prop)(t:Nat)(s:SV):Prop:=
 (∃ (k:Nat) (r:Rec),L k∧R[k]? =some r∧r.o.dst=some t∧r.val=s)∨((∀ (k:Nat) (r:Rec),L k→R[k]? =some r→r.o.dst≠some t)∧T0.at' t=some s)
structure PInv (K:Zone) (w0:World) (nt:Nat) (ops:Array Oper) (T0:Tr SV) (R:List Rec) (Q:List (aV×Nat)) (C:List Nat) (L:Nat→Prop) (s:Nat) (e:Env) (w:World) (tr:Array Value):Prop where
 st: ∃ H n,Q[s]? =some (H,n)∧St K w0 e H n w
 size:tr.size=nt
 good: ∀ t sv,rV T0 R L t sv→ ∃ v,sv.conc e=some v∧tr.getD t undef=v
 chain: ∀ (j c:Nat),C[j]? =some c→(L c↔j<s)
 closed: ∀ (i:Nat) o,L i→ops.toList[i]? =some o→ ∀ ed∈o.after.toList,Region.binds .any ed=true→L ed.on
variable {nt:Nat} {ops:Array Oper} {T0:Tr SV} {R:List Rec} {Q:List (aV×Nat)} {C:List Nat}
theorem PInv.step(hrn:gf P K w0 rn)(hR:RegOK P rn nt ops T0 R Q C){L:Nat→Prop}{s:Nat}{tr:Array Value}(h:PInv K w0 nt ops T0 R Q C L s e w tr){i:Nat}{o:Oper}(ho:ops[i]? =some o)(hni: ¬ L i)
 (hed: ∀ ed∈o.after.toList,Region.binds .any ed=true→L ed.on) (fn:FuncId) (rest:List Nat) (k:List Item) (ds:List Deferred) (kd:CallKind) (rof:Option Nat) (cs:List Frame) :
 ∃ e' w' tr' s',e.le e'∧PInv K w0 nt ops T0 R Q C (fun j=>L j∨j=i) s' e' w' tr' ∧
  Steps P (lone (fr0 fn tr (.inRegion ops (i :: rest) :: k) ds kd rof) cs w) (lone (fr0 fn tr' (.inRegion ops rest :: k) ds kd rof) cs w'):=by
 have hoL:ops.toList[i]? =some o:=by simpa using ho
 have hilt:i<ops.size:=(zG.1 ho).1
 obtain⟨r,hr⟩: ∃ r,R[i]? =some r:=⟨_,zz (by rw [hR.len];exact hilt)⟩
 have hrec:=hR.recs i r hr
 have hro:r.o=o:=by
  have:=hrec.op
  rw [ho] at this
  simpa using this.symm
 have hanc:=bG L hR.edges (fun i o hi ho'=>h.closed i o hi ho') i o hoL hed
 have hT:TRel e nt r.T tr:=by
  refine⟨h.size,fun t sv ht=>?_⟩
  obtain⟨hneed,hsrc⟩:=hrec.slots t sv ht
  rw [hro] at hneed
  have hwr: ∀ (k':Nat) o',ops.toList[k']? =some o'→o'.dst=some t→(L k'∧k'<i)∨(¬ L k'∧i<k'):=fun k' o' ho' hd'=>by
   rcases db hR.dist (hR.opnds i o hoL) t hneed k' o' ho' hd' with hb|hb
   ·exact .inl (hanc k' hb)
   ·refine .inr ⟨fun hL=>?_,?_⟩
    ·exact hni (bG L hR.edges (fun i o hi ho'=>h.closed i o hi ho') k' o' ho' (h.closed k' o' hL ho') i hb).1
    ·exact(bG (fun _=>True) hR.edges (fun _ _ _ _ _ _ _=>trivial) k' o' ho' (fun _ _ _=>trivial) i hb).2
  refine h.good t sv ?_
  rcases hsrc with ⟨k',r',h1,h2,h3,h4⟩|⟨h1,h2⟩
  ·have hop:=(hR.recs k' r' h2).op
   rcases hwr k' r'.o (by simpa using hop) h3 with g|g
   ·exact .inl ⟨k',r',g.1,h2,h3,h4⟩
   ·omega
  ·refine .inr ⟨fun k' r' hLk hr' hd'=>?_,h2⟩
   have hop:=(hR.recs k' r' hr').op
   rcases hwr k' r'.o (by simpa using hop) hd' with g|g
   ·exact h1 k' r' g.2 hr' hd'
   ·exact g.1 hLk
 have hwant:=dL hrec.want hT
 rw [hro] at hwant
 have build: ∀ (e':Env) (w':World) (u:Value) (s':Nat),e.le e'→(∃ H n,Q[s']? =some (H,n)∧St K w0 e' H n w')→r.val.conc e'=some u→(∀ (j c:Nat),C[j]? =some c→((L c∨c=i)↔j<s')) →
  PInv K w0 nt ops T0 R Q C (fun j=>L j∨j=i) s' e' w' (gi tr o.dst u):=by
  intro e' w' u s' hle hst hu hch
  refine⟨hst,?_,fun t sv hg=>?_,hch,fun j oj hj hoj ed hed' hb=>?_⟩
  ·unfold gi
   cases o.dst with
   | none=>exact h.size
   | some d=>simpa using h.size
  ·have old:(∀ d,o.dst=some d→d≠t)→ ∃ v,sv.conc e'=some v∧(gi tr o.dst u).getD t undef=v:=by
    intro hne
    have hg':rV T0 R L t sv:=by
     rcases hg with ⟨k',r',hk',h2,h3,h4⟩|hg
     ·refine .inl ⟨k',r',?_,h2,h3,h4⟩
      rcases hk' with hk'|rfl
      ·exact hk'
      ·exfalso
       rw [hr] at h2
       simp only [zw] at h2
       subst h2
       rw [hro] at h3
       exact hne t h3 rfl
     ·exact .inr ⟨fun k' r' hLk=>hg.1 k' r' (.inl hLk),hg.2⟩
    obtain⟨v,hv,hgv⟩:=h.good t sv hg'
    refine⟨v,SV.bW hle _ _ hv,?_⟩
    cases hd:o.dst with
    | none=>exact hgv
    | some d=>
      have:=hne d hd
      simp only [gi]
      rw [zC,Array.getElem?_setIfInBounds_ne this,←zC]
      exact hgv
   cases hd:o.dst with
   | none=>rw [hd] at old;exact old (fun d hd'=>by cases hd')
   | some d=>
     by_cases hdt:d=t
     ·subst hdt
      have hval:sv=r.val:=by
       rcases hg with ⟨k',r',hk',h2,h3,h4⟩|⟨h1,_⟩
       ·have hop:=(hR.recs k' r' h2).op
        have:=hR.dist k' i r'.o o d (by simpa using hop) hoL h3 hd
        subst this
        rw [hr] at h2
        simp only [zw] at h2
        subst h2
        exact h4.symm
       ·exact absurd (by rw [hro];exact hd) (h1 i r (.inr rfl) hr)
      subst hval
      refine⟨u,hu,?_⟩
      have hlt:=hR.small i o d hoL hd
      simp only [gi]
      rw [zC,Array.getElem?_setIfInBounds_self_of_lt (by rw [h.size];exact hlt)]
      rfl
     ·rw [hd] at old
      exact old (fun d' hd'=>by simp only [zw] at hd';subst hd';exact hdt)
  ·rcases hj with hj|rfl
   ·exact .inl (h.closed j oj hj hoj ed hed' hb)
   ·rw [hoL] at hoj
    simp only [zw] at hoj
    subst hoj
    exact .inl (hed ed hed' hb)
 have notChain:r.chain=false→ ∀ (j c:Nat),C[j]? =some c→((L c∨c=i)↔j<s):=by
  intro hc j c hj
  have hne:c≠i:=by
   rintro rfl
   rw [hR.chainR] at hj
   rw [List.getElem?_map,zF] at hj
   obtain⟨r',hr',hi'⟩:=hj
   have hmem:=zJ hr'
   rw [List.mem_filter] at hmem
   obtain⟨k',hk'⟩:=List.mem_iff_getElem?.1 hmem.1
   have:=(hR.recs k' r' hk').idx
   rw [hi'] at this
   subst this
   rw [hr] at hk'
   simp only [zw] at hk'
   subst hk'
   rw [hc] at hmem
   simp at hmem
  rw [← h.chain j c hj]
  simp [hne]
 obtain⟨H,n,hQ,hS⟩:=h.st
 cases hwd:r.wanted with
 | false=>
   rw [hwd] at hwant
   obtain⟨h1,h2⟩:=hrec.skip hwd
   exact⟨e,w,_,s,Env.le_refl e,build e w undef s (Env.le_refl e) ⟨H,n,hQ,hS⟩ (by rw [h1];rfl) (notChain h2),.one (eT ho hwant)⟩
 | true=>
   rw [hwd] at hwant
   cases hc:r.chain with
   | false=>
     have hri:=hrec.idx
     have hlo:eX ((bQ [] ops.toList).getD r.i 0) C≤s:=by
      rcases Nat.lt_or_ge s (eX ((bQ [] ops.toList).getD r.i 0) C)with hlt|hge
      ·exfalso
       obtain⟨c,h1,h2⟩:=jh s hlt
       rw [hri] at h2
       have:=(h.chain s c h1).1 (hanc c h2).1
       omega
      ·exact hge
     have hhi:s≤cV (bQ [] ops.toList) r.i C:=by
      rcases Nat.lt_or_ge (cV (bQ [] ops.toList) r.i C) s with hlt|hge
      ·exfalso
       have hsC:s≤C.length:=by
        have:=(zA.1 hQ).1
        have:=hR.stages
        omega
       obtain⟨c,h1,h2⟩:=gP (ancs:=bQ [] ops.toList) (i:=r.i) (l:=C) (by omega)
       have hLc:=(h.chain _ c h1).2 hlt
       have hcl:c<ops.size:=by
        have hcm:=zJ h1
        rw [hR.chainR,List.mem_map] at hcm
        obtain⟨r',hr',rfl⟩:=hcm
        rw [List.mem_filter] at hr'
        obtain⟨k',hk'⟩:=List.mem_iff_getElem?.1 hr'.1
        have hx:=hR.recs k' r' hk'
        rw [hx.idx]
        exact(zG.1 hx.op).1
       have hoc:ops.toList[c]? =some (ops.toList[c]'(by simpa using hcl)):=zz (by simpa using hcl)
       have:=bG L hR.edges (fun i o hi ho'=>h.closed i o hi ho') c _ hoc (h.closed c _ hLc hoc) r.i h2
       rw [hri] at this
       exact hni this.1
      ·exact hge
     have hf:=(hR.floats r (zJ hr) hc hwd).2 s hlo hhi H n hQ
     have hnd:=(hR.floats r (zJ hr) hc hwd).1
     rw [hro] at hf hnd
     rcases hf with hf|hf
     ·obtain⟨u,hu,hst⟩:=gm (P:=P) (fn:=fn) (rest:=rest) (k:=k) (ds:=ds) (kd:=kd) (rof:=rof) (cs:=cs) hS hT ho hwant hnd hf
      exact⟨e,w,_,s,Env.le_refl e,build e w u s (Env.le_refl e) ⟨H,n,hQ,hS⟩ hu (notChain hc),hst⟩
     ·obtain⟨e',w',u,hle,hS',hu,hst⟩:=fZ (P:=P) hrn (fn:=fn) (rest:=rest) (k:=k) (ds:=ds) (kd:=kd) (rof:=rof) (cs:=cs) hS hT ho hwant hf
      exact⟨e',w',_,s,hle,build e' w' u s hle ⟨H,n,hQ,hS'⟩ hu (notChain hc),hst⟩
   | true=>
     obtain⟨_,hC,H1,n1,H2,n2,hQ1,hQ2,heff⟩:=hrec.eff hc
     have hss:r.stg=s:=by
      have h1: ¬ r.stg<s:=fun hlt=>hni ((h.chain r.stg i hC).2 hlt)
      rcases Nat.eq_zero_or_pos r.stg with h0|hp
      ·omega
      ·have hlt:r.stg-1<C.length:=by
        have:=(zA.1 hC).1
        omega
       have hprev:C[r.stg-1]? =some C[r.stg-1]:=zz hlt
       have hbit:=ga hR.chain (r.stg-1) C[r.stg-1] i hprev (by rw [show r.stg-1+1=r.stg by omega];exact hC)
       have:=(h.chain _ _ hprev).1 (hanc _ hbit).1
       omega
     rw [hss] at hQ1 hQ2 hC
     rw [hQ] at hQ1
     simp only [zw,zE] at hQ1
     obtain⟨rfl,rfl⟩:=hQ1
     rw [hro] at heff
     obtain⟨e',w',u,hle,hS',hu,hst⟩:=fZ (P:=P) hrn (fn:=fn) (rest:=rest) (k:=k) (ds:=ds) (kd:=kd) (rof:=rof) (cs:=cs) hS hT ho hwant heff
     refine⟨e',w',_,s+1,hle,build e' w' u (s+1) hle ⟨H2,n2,hQ2,hS'⟩ hu (fun j c hj=>?_),hst⟩
     constructor
     ·rintro(hL|rfl)
      ·have:=(h.chain j c hj).1 hL;omega
      ·rcases Nat.lt_or_ge j (s+1)with hlt|hge
       ·exact hlt
       ·exfalso
        have hi1:=chain_inj hR hC hj
        omega
     ·intro hlt
      rcases Nat.lt_or_ge j s with hj'|hj'
      ·exact .inl ((h.chain j c hj).2 hj')
      ·have:j=s:=by omega
       subst this
       rw [hC] at hj
       simp only [zw] at hj
       exact .inr hj.symm
where
 chain_inj {P:Program} {rn:Rn} {nt:Nat} {ops:Array Oper} {T0:Tr SV} {R:List Rec} {Q:List (aV×Nat)} {C:List Nat} (hR:RegOK P rn nt ops T0 R Q C) {s j c:Nat} (h1:C[s]? =some c) (h2:C[j]? =some c):s=j:=by
  have hnd:C.Nodup:=by
   rw [hR.chainR]
   have hall:((R.filter (·.chain)).map (·.i)).Sublist (R.map (·.i)):=(List.filter_sublist).map _
   refine hall.nodup ?_
   have:R.map (·.i)=List.range R.length:=by
    apply List.ext_getElem?
    intro k
    rw [List.getElem?_map]
    cases hk:R[k]? with
    | none=>
      rw [List.getElem?_eq_none_iff] at hk
      simp [hk]
    | some r=>
      have hlt:=(zA.1 hk).1
      rw [zV,(hR.recs k r hk).idx,List.getElem?_range hlt]
   rw [this]
   exact List.nodup_range
  have a:=zA.1 h1
  have b:=zA.1 h2
  obtain⟨a1,a2⟩:=a
  obtain⟨b1,b2⟩:=b
  exact(List.getElem_inj hnd).1 (a2.trans b2.symm)
end
section
variable {P:Program} {K:Zone} {w0 w:World} {e:Env} {rn:Rn} {nt:Nat} {ops:Array Oper} {T0:Tr SV} {R:List Rec} {Q:List (aV×Nat)} {C:List Nat}
def bg(listed:Array Bool)(j:Nat):Prop:=listed[j]? =some true
theorem fS{listed:Array Bool}(hsz:listed.size=ops.size){i:Nat}(h:i∈Region.ready .any ops listed): ∃ o,ops[i]? =some o∧ ¬ bg listed i∧ ∀ ed∈o.after.toList,Region.binds .any ed=true→bg listed ed.on:=by
 unfold Region.ready at h
 rw [List.mem_filter,List.mem_range,zO] at h
 obtain⟨h1,h2,h3⟩:=h
 have ho:ops[i]? =some ops[i]:=zI h1
 refine⟨ops[i],ho,?_,fun ed hed hb=>?_⟩
 ·intro hl
  unfold bg at hl
  rw [zC,hl] at h2
  simp at h2
 ·rw [ho] at h3
  simp only [zV,Option.getD_some] at h3
  rw [Array.all_eq_true_iff_forall_mem] at h3
  have:=h3 ed (by simpa using hed)
  rw [hb] at this
  simp only [Bool.not_true,Bool.false_or] at this
  unfold bg
  rw [zC] at this
  cases hx:listed[ed.on]? with
  | none=>rw [hx] at this;simp at this
  | some b=>rw [hx] at this;simp only [Option.getD_some] at this;rw [this]
theorem hM{listed:Array Bool}(hsz:listed.size=ops.size)(hE: ∀ (i:Nat) o,ops.toList[i]? =some o→eJ i o.after.toList=true){i:Nat}(hi:i<ops.size)(hn: ¬ bg listed i): ∃ j,j∈Region.ready .any ops listed:=by
 induction i using Nat.strongRecOn with
 | _ i ih=>
   have ho:ops[i]? =some ops[i]:=zI hi
   by_cases hall: ∀ ed∈ops[i].after.toList,Region.binds .any ed=true→bg listed ed.on
   ·refine⟨i,?_⟩
    unfold Region.ready
    rw [List.mem_filter,List.mem_range,zO]
    refine⟨hi,?_,?_⟩
    ·unfold bg at hn
     rw [zC]
     have hlt:i<listed.size:=by omega
     rw [zI hlt] at hn ⊢
     simp only [zw,Bool.not_eq_true] at hn
     simp [hn]
    ·rw [ho]
     simp only [zV,Option.getD_some]
     rw [Array.all_eq_true_iff_forall_mem]
     intro ed hed
     cases hb:Region.binds .any ed with
     | false=>rfl
     | true=>
       have:=hall ed (by simpa only [Array.mem_toList_iff] using hed) hb
       unfold bg at this
       rw [zC,this]
       rfl
   ·have: ∃ ed,ed∈ops[i].after.toList∧Region.binds .any ed=true∧ ¬ bg listed ed.on:=by
     apply Classical.byContradiction
     intro hc
     apply hall
     intro ed h1 h2
     apply Classical.byContradiction
     intro h3
     exact hc ⟨ed,h1,h2,h3⟩
    obtain⟨ed,h1,h2,h3⟩:=this
    have hlt:=f7 (hE i ops[i] (by simp)) ed h1 h2
    exact ih ed.on hlt (by omega) h3
def b8(listed:Array Bool):Nat:=listed.toList.count false
theorem ew: ∀ (l:List Bool) (i:Nat),l[i]? =some false→(l.set i true).count false+1=l.count false
 | [],i,h=>by simp at h
 | b :: l,0,h=>by
   simp only [zN,zw] at h
   subst h
   simp [List.count_cons]
 | b :: l,i+1,h=>by
   have:=ew l i (by simpa using h)
   simp only [List.set_cons_succ,List.count_cons]
   omega
theorem ia(hrn:gf P K w0 rn)(hR:RegOK P rn nt ops T0 R Q C)(fn:FuncId)(k:List Item)(ds:List Deferred)(kd:CallKind)(rof:Option Nat)(cs:List Frame): ∀ (fuel t:Nat) (listed:Array Bool) (s:Nat) (e:Env) (w:World) (tr:Array Value),
 listed.size=ops.size→b8 listed≤fuel→PInv K w0 nt ops T0 R Q C (bg listed) s e w tr →
 ∃ e' w' tr' s' listed',e.le e'∧listed'.size=ops.size∧(∀ j,j<ops.size→bg listed' j)∧PInv K w0 nt ops T0 R Q C (bg listed') s' e' w' tr' ∧
  Steps P (lone (fr0 fn tr (.inRegion ops (Region.linearise.go .any ops fuel t listed []) :: k) ds kd rof) cs w) (lone (fr0 fn tr' (.inRegion ops [] :: k) ds kd rof) cs w'):=by
 have allOf: ∀ (listed:Array Bool),listed.size=ops.size→(∀ j,j∉Region.ready .any ops listed)→ ∀ j,j<ops.size→bg listed j:=by
  intro listed hsz hno j hj
  apply Classical.byContradiction
  intro hn
  obtain⟨i,hi⟩:=hM hsz hR.edges hj hn
  exact hno i hi
 intro fuel
 induction fuel with
 | zero=>
   intro t listed s e w tr hsz hun hI
   refine⟨e,w,tr,s,listed,Env.le_refl e,hsz,fun j hj=>?_,hI,by simp only [Region.linearise.go,List.reverse_nil];exact .refl P _⟩
   unfold bg
   have hlt:j<listed.size:=by omega
   rw [zI hlt]
   cases hb:listed[j] with
   | true=>rfl
   | false=>
     exfalso
     have:0<listed.toList.count false:=List.count_pos_iff.2 (by rw [← hb];simp)
     unfold b8 at hun
     omega
 | succ fuel ih=>
   intro t listed s e w tr hsz hun hI
   simp only [Region.linearise.go]
   change ∃ e' w' tr' s' listed',_∧_∧_∧_∧Steps P (lone (fr0 fn tr (.inRegion ops (match (Region.ready .any ops listed)[t % (Region.ready .any ops listed).length]? with
    | some i=>Region.linearise.go .any ops fuel (t / (Region.ready .any ops listed).length) (listed.setIfInBounds i true) [i]
    | none=> [].reverse) :: k) ds kd rof) cs w) _
   cases hpick:(Region.ready .any ops listed)[t % (Region.ready .any ops listed).length]? with
   | none=>
     have hnil:Region.ready .any ops listed= []:=by
      cases hx:Region.ready .any ops listed with
      | nil=>rfl
      | cons x xs=>
        rw [hx] at hpick
        have hlt:t % (x :: xs).length<(x :: xs).length:=Nat.mod_lt _ (by simp)
        rw [zz hlt] at hpick
        cases hpick
     exact⟨e,w,tr,s,listed,Env.le_refl e,hsz,allOf listed hsz (by rw [hnil];simp),hI,.refl P _⟩
   | some i=>
     simp only
     have hmem:=zJ hpick
     obtain⟨o,ho,hni,hed⟩:=fS hsz hmem
     rw [linearise_go_acc,List.reverse_singleton,List.singleton_append]
     obtain⟨e1,w1,tr1,s1,hle1,hI1,hst1⟩:=hI.step hrn hR ho hni hed fn (Region.linearise.go .any ops fuel (t / (Region.ready .any ops listed).length) (listed.setIfInBounds i true) []) k ds kd rof cs
     have hilt:i<ops.size:=(zG.1 ho).1
     have hfalse:listed.toList[i]? =some false:=by
      have hlt:i<listed.size:=by omega
      unfold bg at hni
      rw [zI hlt] at hni
      rw [Array.getElem?_toList,zI hlt]
      simpa using hni
     have hcnt:b8 (listed.setIfInBounds i true)+1=b8 listed:=by
      unfold b8
      rw [Array.toList_setIfInBounds]
      exact ew _ _ hfalse
     have hLeq: ∀ j,bg (listed.setIfInBounds i true) j↔(bg listed j∨j=i):=by
      intro j
      unfold bg
      by_cases hji:j=i
      ·subst hji
       rw [Array.getElem?_setIfInBounds_self_of_lt (by omega)]
       simp
      ·rw [Array.getElem?_setIfInBounds_ne (Ne.symm hji)]
       simp [hji]
     have hI2:PInv K w0 nt ops T0 R Q C (bg (listed.setIfInBounds i true)) s1 e1 w1 tr1:=by
      have:bg (listed.setIfInBounds i true)=fun j=>bg listed j∨j=i:=funext fun j=>propext (hLeq j)
      rw [this]
      exact hI1
     obtain⟨e2,w2,tr2,s2,l2,hle2,hs2,ha2,hI3,hst2⟩:=ih _ _ s1 e1 w1 tr1 (by simpa using hsz) (by omega) hI2
     exact⟨e2,w2,tr2,s2,l2,Env.le_trans hle1 hle2,hs2,ha2,hI3,hst1.trans hst2⟩
theorem drawOKQ(hrn:gf P K w0 rn):yj P K w0 rn:=by
 intro hm ops nt T H nx s h e w tmps hS hT t fn k ds kd rof cs
 obtain⟨hro,hda,hch,hfl⟩:=h
 simp only [dT,zO] at hro
 obtain⟨hd1,hd2⟩:=gR hro.1
 have hops:=kc hro.2
 ···have h0:DSOK P rn ops T 0 ⟨T,H,nx,[],[(H,nx)],0⟩:=
     ⟨rfl,rfl,rfl,rfl,fun k r hr=>by simp at hr,fun t v hv=> .inr ⟨fun k r hk=>by omega,hv⟩⟩
    have hD:=fm (fun j o d hj hd=>(hd1 j o d hj hd).1) ops.toList 0 _ s h0 (by simp) hda
    have hR:RegOK P rn nt ops T s.recs.reverse s.Hs.reverse ((s.recs.reverse.filter (·.chain)).map (·.i)):=by
     refine⟨by simp [hD.len],hD.recs,by rw [hD.cnt];simp [hD.hs],rfl,hch,fun r hr hc hw=>?_,fun i o d hi hd=>(hd1 i o d hi hd).1,hd2,fun i o hi=>?_,fun i o hi=>?_⟩
     ·obtain⟨kk,hkk⟩:=List.mem_iff_getElem?.1 hr
      obtain⟨hnd,H0,n0,hQ0,hf0⟩:=(hD.recs kk r hkk).float hw hc
      refine⟨hnd,fun s1 hlo hhi H1 n1 hQ1=>?_⟩
      by_cases hs1:s1=r.stg
      ·subst hs1
       rw [hQ1] at hQ0
       simp only [zw,zE] at hQ0
       rw [hQ0.1,hQ0.2]
       exact hf0
      ·exact hfl r (by simpa using hr) hc hw s1 hlo hhi hs1 H1 n1 hQ1
     ·obtain⟨anc,_,g2,_⟩:=hops i o hi
      simpa using g2
     ·obtain⟨anc,g1,_,g3⟩:=hops i o hi
      rw [zK,g1]
      rw [Nat.zero_add] at g3
      exact g3
    have hinit:PInv K w0 nt ops T s.recs.reverse s.Hs.reverse ((s.recs.reverse.filter (·.chain)).map (·.i)) (bg (Array.replicate ops.size false)) 0 e w tmps:=by
     have hno: ∀ j,¬ bg (Array.replicate ops.size false) j:=by
      intro j hj
      unfold bg at hj
      rw [Array.getElem?_replicate] at hj
      split at hj <;> simp at hj
     have hQ0:s.Hs.reverse[0]? =some (H,nx):=stage0 _ _ _ hda (by simp)
     refine⟨⟨H,nx,hQ0,hS⟩,hT.1,fun t sv hg=>?_,fun j c hj=>⟨fun hl=>absurd hl (hno c),fun hl=>by omega⟩,fun i o hi=>absurd hi (hno i)⟩
     rcases hg with ⟨k',r',hk',_⟩|⟨_,h2⟩
     ·exact absurd hk' (hno k')
     ·exact hT.2 t sv h2
    have hsched:Region.schedule (P.follows .mixedOrders) ops t=Region.linearise.go .any ops ops.size t (Array.replicate ops.size false) []:=by
     rw [hm]
     rfl
    rw [hsched]
    obtain⟨e',w',tr',s',listed',hle,_,hall,hI,hst⟩:=ia hrn hR fn k ds kd rof cs ops.size t (Array.replicate ops.size false) 0 e w tmps (by simp) (by unfold b8;simp) hinit
    have hs':s'=s.stg:=by
     obtain⟨H1,n1,hQ1,_⟩:=hI.st
     have hle1:s'≤s.stg:=by
      have:=(zA.1 hQ1).1
      simp [hD.hs] at this
      omega
     rcases Nat.lt_or_ge s' s.stg with hlt|hge
     ·exfalso
      have hc: ∃ c,((s.recs.reverse.filter (·.chain)).map (·.i))[s']? =some c:=⟨_,zz (by rw [hD.cnt];exact hlt)⟩
      obtain⟨c,hc⟩:=hc
      have hcl:c<ops.size:=by
       have hcm:=zJ hc
       rw [List.mem_map] at hcm
       obtain⟨r',hr',rfl⟩:=hcm
       rw [List.mem_filter] at hr'
       obtain⟨k',hk'⟩:=List.mem_iff_getElem?.1 hr'.1
       have hx:=hD.recs k' r' hk'
       rw [hx.idx]
       exact(zG.1 hx.op).1
      have:=(hI.chain s' c hc).1 (hall c hcl)
      omega
     ·omega
    subst hs'
    obtain⟨H1,n1,hQ1,hS1⟩:=hI.st
    rw [hD.last] at hQ1
    simp only [zw,zE] at hQ1
    obtain⟨rfl,rfl⟩:=hQ1
    refine⟨e',w',tr',hle,hS1,⟨hI.size,fun t sv ht=>hI.good t sv ?_⟩,hst⟩
    rcases hD.slots t sv ht with ⟨k',r',h1,h2,h3,h4⟩|⟨h1,h2⟩
    ·exact .inl ⟨k',r',hall k' h1,h2,h3,h4⟩
    ·refine .inr ⟨fun k' r' _ hr'=>?_,h2⟩
     have hlt:=(zA.1 hr').1
     rw [List.length_reverse,hD.len] at hlt
     exact h1 k' r' hlt hr'
where
 stage0 {P:Program} {rn:Rn} {nt:Nat} {ops:Array Oper} {x:aV×Nat}: ∀ (l:List Oper) {i:Nat} (s s':DS),DrawRunQ P rn nt ops i l s s'→s.Hs.reverse[0]? =some x→s'.Hs.reverse[0]? =some x
  | [],i,s,s',h,h0=>by cases h;exact h0
  | o :: l,i,s,s',h,h0=>by
    cases h with
    | cons ho h=>
      refine stage0 l _ s' h ?_
      rcases ho with ⟨_,rfl⟩|⟨_,_,v,_,rfl⟩|⟨_,v,H,nx,_,rfl⟩
      ·exact h0
      ·exact h0
      ·simp only [List.reverse_cons]
       exact fJ h0
end
end Go.Sy.Nq
end
section
namespace Go.Sy
open Go Go.Sl Go.RowKit
structure DrawKQ (P:Program) (nt:Nat) (ops:Array Oper) (i:Nat) (l:List Oper) (s:DS) (K:DS→Prop):Prop where
 ex: ∃ s',Nq.DrawRunQ P (wpr P) nt ops i l s s'∧K s'
theorem runQ{P:Program}{nt:Nat}{ops:Array Oper}: ∀ {l:List Oper} {i:Nat} {s s':DS},DrawRun P (wpr P) nt ops i l s s'→Nq.DrawRunQ P (wpr P) nt ops i l s s'
 | [],i,s,s',h=>by
   cases h
   exact .nil _ _
 | o :: l,i,s,s',h=>by
   cases h with
   | cons h1 h2=>
     refine .cons ?_ (runQ h2)
     rcases h1 with h1|⟨h1,h3,v,h4,h5⟩|h1
     ·exact .inl h1
     ·exact .inr (.inl ⟨h1,h3,v,.inl h4,h5⟩)
     ·exact .inr (.inr h1)
theorem pY{P:Program}{nt:Nat}{ops:Array Oper}{l2:List Oper}: ∀ {l:List Oper} {i:Nat} {s s1 s':DS},Nq.DrawRunQ P (wpr P) nt ops i l s s1→Nq.DrawRunQ P (wpr P) nt ops (i+l.length) l2 s1 s'→Nq.DrawRunQ P (wpr P) nt ops i (l ++ l2) s s'
 | [],i,s,s1,s',h,h2=>by
   cases h
   exact h2
 | o :: l,i,s,s1,s',h,h2=>by
   cases h with
   | cons g1 g2=>
     refine .cons g1 (pY g2 ?_)
     rw [zS,show i+(l.length+1)=i+1+l.length by omega] at h2
     exact h2
section
variable {P:Program} {ro:Option Nat} {fn nt nx:Nat} {T:Tr SV} {k:List AIt} {dfs:List ADf} {H:aV} {Q:Pst} {ops:Array Oper} {i:Nat} {l:List Oper} {K:DS→Prop} {s:DS}
theorem qI(h:DrawK P nt ops i l s K):DrawKQ P nt ops i l s K:=by
 obtain⟨s',h1,h2⟩:=h.ex
 exact⟨⟨s',runQ h1,h2⟩⟩
theorem mM(n:Nat)(hn:n≤l.length)(h:DrawK P nt ops i (l.take n) s (fun s1=>DrawKQ P nt ops (i+n) (l.drop n) s1 K)):DrawKQ P nt ops i l s K:=by
 obtain⟨s1,h1,h2⟩:=h.ex
 obtain⟨s',h3,h4⟩:=h2.ex
 have:=pY (runQ h1) (l2:=l.drop n) (s':=s') (by rw [List.length_take,Nat.min_eq_left hn];exact h3)
 rw [List.take_append_drop] at this
 exact⟨⟨s',this,h4⟩⟩
theorem yd{g:FuncId}{as1:List Operand}{ats:Array TypeId}{args:List SV}{v:SV}{dd:Nat}{ty:TypeId}{pos:String}{af:Array Edge}{gd:Option (Nat×Bool)}{rs:List Rec}{Hs:List (aV×Nat)}{stg:Nat}
 (hw:aA (aS T (aO ops.toList ⟨some dd,.call {callee:= .value (.func g),args:=as1.toArray,argTypes:=ats},ty,pos,af,gd⟩)) ops ⟨some dd,.call {callee:= .value (.func g),args:=as1.toArray,argTypes:=ats},ty,pos,af,gd⟩=some true) (hd:Nat.blt dd nt=true)
 (ha:dy (aS T (aO ops.toList ⟨some dd,.call {callee:= .value (.func g),args:=as1.toArray,argTypes:=ats},ty,pos,af,gd⟩)) as1=some args) (hm:cw P g=true)
 (hr:Fnc P g args H nx (fun r=>r=(v,H,nx)))
 (h:DrawKQ P nt ops (i+1) l ⟨T.set dd v,H,nx,⟨i,⟨some dd,.call {callee:= .value (.func g),args:=as1.toArray,argTypes:=ats},ty,pos,af,gd⟩,aS T (aO ops.toList ⟨some dd,.call {callee:= .value (.func g),args:=as1.toArray,argTypes:=ats},ty,pos,af,gd⟩),stg,false,true,v⟩ :: rs,Hs,stg⟩ K) :
 DrawKQ P nt ops i (⟨some dd,.call {callee:= .value (.func g),args:=as1.toArray,argTypes:=ats},ty,pos,af,gd⟩ :: l) ⟨T,H,nx,rs,Hs,stg⟩ K:=by
 obtain⟨s',h1,h2⟩:=h.ex
 refine⟨⟨s',.cons (.inr (.inl ⟨hw,(fun c hc=>(by cases hc)),v,.inr ⟨_,pj ha hm,(fun c hc=>(by cases hc)),hr⟩,?_⟩)) h1,h2⟩⟩
 simp only [aK hd]
theorem wd{g:FuncId}{as1:List Operand}{ats:Array TypeId}{args:List SV}{v:SV}{dd:Option Nat}{ty:TypeId}{pos:String}{af:Array Edge}{gd:Option (Nat×Bool)}(ha:dy T as1=some args)(hm:cw P g=true)
 (hr:Fnc P g args H nx (fun r=>r=(v,H,nx))):eL P (wpr P) T H nx ⟨dd,.call {callee:= .value (.func g),args:=as1.toArray,argTypes:=ats},ty,pos,af,gd⟩ (v,H,nx):=
 ⟨_,pj ha hm,(fun c hc=>(by cases hc)),hr⟩
def AllHQ(Q:List (aV×Nat))(p:aV→Nat→Prop):Prop:=match Q with
 | []=>True
 | q :: l=>p q.1 q.2∧AllHQ l p
theorem AllHQ.get{p:aV→Nat→Prop}: ∀ {Q:List (aV×Nat)},AllHQ Q p→ ∀ {i:Nat} {H:aV} {n:Nat},Q[i]? =some (H,n)→p H n
 | [],_,i,H,n,h=>by simp at h
 | q :: l,hh,i,H,n,h=>by
   cases i with
   | zero=>simp only [zN,zw] at h;subst h;exact hh.1
   | succ i=>exact AllHQ.get hh.2 (by simpa using h)
def FlOkQ(P:Program)(ancs chain:List Nat)(Q:List (aV×Nat)):List Rec→Prop
 | []=>True
 | r :: l=>((r.chain || !r.wanted || (Nat.beq (eX (ancs.getD r.i 0) chain) r.stg && Nat.beq (cV ancs r.i chain) r.stg))=true∨(AllH Q (fun H=>ReadDoes P r.T H r.o r.val)∨AllHQ Q (fun H n=>eL P (wpr P) r.T H n r.o (r.val,H,n))))∧FlOkQ P ancs chain Q l
theorem FlOkQ.ok{P:Program}{ancs chain:List Nat}{Q:List (aV×Nat)}: ∀ {l:List Rec},FlOkQ P ancs chain Q l→ ∀ r∈l,r.chain=false→r.wanted=true→ ∀ st,eX (ancs.getD r.i 0) chain≤st→st≤cV ancs r.i chain→st≠r.stg→ ∀ H n,Q.reverse[st]? =some (H,n)→Nq.ReadQ P (wpr P) r.T H n r.o r.val
 | [],_,r,hm,_,_,_,_,_,_,_,_,_=>by cases hm
 | r0 :: l,hh,r,hm,hc,hw,st,h1,h2,h3,H,n,hq=>by
   rcases List.mem_cons.1 hm with rfl|hm
   ·rcases hh.1 with h|h
    ·rw [hc,hw] at h
     simp only [Bool.not_true,Bool.or_false,Bool.false_or,zO] at h
     have q1:=bz h.1
     have q2:=bz h.2
     omega
    ·have hlt:=(zA.1 hq).1
     rw [List.getElem?_reverse (by simpa using hlt)] at hq
     rcases h with h|h
     ·exact .inl (h.get hq)
     ·exact .inr (h.get hq)
   ·exact FlOkQ.ok hh.2 r hm hc hw st h1 h2 h3 H n hq
theorem xk{id:Nat}{opl:List Oper}(hm:P.follows .mixedOrders=true)(hr:dT nt opl=true)
 (h:DrawKQ P nt opl.toArray 0 opl ⟨T,H,nx,[],[(H,nx)],0⟩ (fun s=>dE (bQ [] opl) (cE s)=true∧FlOkQ P (bQ [] opl) (cE s) s.Hs s.recs∧Wp P ro ⟨fn,nt,s.T,k,dfs,s.H,s.nx⟩ Q)) :
 Wp P ro ⟨fn,nt,T,.code (.region id opl.toArray true) :: k,dfs,H,nx⟩ Q:=by
 obtain⟨s,hs,h1,h2,h3⟩:=h.ex
 refine⟨fun K w0 e w tmps todo ds kd rof cs hS hT ht hd hc=>?_⟩
 obtain⟨it,k',rfl,hi,hk⟩:=ht.cons
 have hi:it=Item.code (.region id opl.toArray true):=hi
 subst hi
 obtain⟨e',w',tmps',g1,g2,g3,g4⟩:=Nq.drawOKQ (iR K w0) hm opl.toArray nt T H nx s ⟨hr,hs,h1,fun r hr=>FlOkQ.ok h2 r hr⟩ e {w with drawn:=w.drawn+1} tmps hS.drew hT (w.tape w.drawn (.order fn id)) fn k' ds kd rof cs
 exact(h3.run K w0 e' w' tmps' k' ds kd rof cs g2 g3 (hk.mono g1) (hd.mono g1) (hc.mono g1)).pre (.head mg (g4.trans (.one eS))) g1 rfl rfl (fun _ hr=>hr)
end
end Go.Sy
end
section
namespace Go.Proofs.Ytckajlllkmkniaa
open Go Go.Sy Go.Sl Go.RowKit
theorem lK{V:RV}{o:Nat}{k:ByteArray}(h:cJ (V.map (·.1)) o=some k): ∃ i,∃ hi:i<V.length,V[i].1.1=k∧ ∀ j,j<i→ ∀ x,V[j]? =some x→x.1.1≠k:=by
 unfold cJ lL at h
 rw [zF] at h
 obtain⟨y,hy,e⟩:=h
 have hm:=List.mem_of_find?_eq_some hy
 obtain⟨x,hx,e2⟩:=List.mem_map.1 hm
 cases hf:V.findIdx? fun x=>decide (x.1.1=k)with
 | none=>
   rw [List.findIdx?_eq_none_iff] at hf
   have:=hf x hx
   rw [e2,e] at this
   simp at this
 | some i=>
   rw [List.findIdx?_eq_some_iff_getElem] at hf
   obtain⟨hi,h1,h2⟩:=hf
   refine⟨i,hi,by simpa using h1,fun j hj x hx=>?_⟩
   obtain⟨hj',rfl⟩:=zA.1 hx
   simpa using h2 j hj
theorem lT{H:aV}{s:SV}{xs:List Nat}(h:uT H s xs):s.one=true:=by
 obtain⟨_,⟨_,rfl|⟨b,o,c,vo,rfl,_⟩⟩|⟨r,eo,ne,l,rfl|⟨_,_,rfl⟩,_⟩⟩:=h <;> rfl
theorem pW{x:(ByteArray×(Nat×List Nat))×SV}(h:x.2.one=true):bU (vC x)=true:=by
 show(true && (true && (x.2.one && true)))=true
 rw [h]
 rfl
theorem px: ∀ {W:RT} {k:ByteArray} {i:Nat} (hi:i<W.length),W[i].1=k→(∀ j,j<i→ ∀ x,W[j]? =some x→x.1≠k)→bE W k=some W[i].2
 | x :: W,k,0,_,he,_=>by
   unfold bE
   rw [List.find?_cons_of_pos (by simpa using he)]
   rfl
 | x :: W,k,i+1,hi,he,hno=>by
   have h0:=hno 0 (by omega) x rfl
   have:=px (W:=W) (k:=k) (i:=i) (by simpa using hi) (by simpa using he) (fun j hj y hy=>hno (j+1) (by omega) y (by simpa using hy))
   unfold bE at this ⊢
   rw [List.find?_cons_of_neg (by simpa using h0)]
   simpa using this
theorem oI{V:RV}{o:Nat}{k:ByteArray}{i:Nat}(hq:i<V.length)(hw:cJ (V.map (·.1)) o=some k)(he:V[i].1.1=k)(hno: ∀ j,j<i→ ∀ x,V[j]? =some x→x.1.1≠k):cf (V.map (·.1)) o=V[i].1.2.1 :: V[i].1.2.2.takeWhile fun x=>decide (x≠o):=by
 have hm:=px (W:=V.map (·.1)) (k:=k) (i:=i) (by simpa using hq) (by simpa using he) (fun j hj x hx=>by
  rw [List.getElem?_map,zF] at hx
  obtain⟨y,hy,rfl⟩:=hx
  exact hno j hj y hy)
 unfold cf
 rw [hw]
 dsimp only
 rw [hm,List.getElem_map]
theorem fM: ∀ {l:List Nat} {m o:Nat},(∀ j,j<m→l[j]? ≠some o)→(m=l.length∨l[m]? =some o)→l.takeWhile (fun x=>decide (x≠o))=l.take m
 | [],m,o,_,_=>by simp
 | x :: l,0,o,_,h=>by
   have:x=o:=by simpa using h
   simp [this]
 | x :: l,m+1,o,hno,h=>by
   have h0:x≠o:=by simpa using hno 0 (by omega)
   rw [List.takeWhile_cons_of_pos (by simpa using h0),List.take_succ_cons,fM (m:=m) (fun j hj=>by simpa using hno (j+1) (by omega)) (by simpa using h)]
theorem pH{V:RV}{o:Nat}{k:ByteArray}{i m:Nat}(hq:i<V.length)(hw:cJ (V.map (·.1)) o=some k)(he:V[i].1.1=k)(hno: ∀ j,j<i→ ∀ x,V[j]? =some x→x.1.1≠k)(hmq:m<V[i].1.2.2.length)(hmo: ∀ j,j<m→V[i].1.2.2[j]? ≠some o)(h:V[i].1.2.2[m]=o):cf (V.map (·.1)) o=V[i].1.2.1 :: V[i].1.2.2.take m:=by
 rw [oI hq hw he hno,fM hmo (.inr (by rw [zz hmq,h]))]
theorem rR{V:RV}{o:Nat}{k:ByteArray}{i m:Nat}(hq:i<V.length)(hw:cJ (V.map (·.1)) o=some k)(he:V[i].1.1=k)(hno: ∀ j,j<i→ ∀ x,V[j]? =some x→x.1.1≠k)(hmq:m=V[i].1.2.2.length)(hmo: ∀ j,j<m→V[i].1.2.2[j]? ≠some o):cf (V.map (·.1)) o=V[i].1.2.1 :: V[i].1.2.2.take m:=by
 rw [oI hq hw he hno,fM hmo (.inl hmq)]
theorem wu{t r:Nat}{W:RT}{Fw:Nat→Prop}{H:aV}{nx:Nat}(hW:WAt t r W Fw H)(hFw: ∀ n,Fw n→n<nx)(o:Nat)(hl:W.length<1000000)(hll: ∀ x∈W,x.2.2.length<1000000):Fnc Try.prog 57 [.ptr t 0,.sc (.int .u64 (o:Int))] H nx (rW (cf W o) H nx):=by
 have hwa:=mc (nx:=nx) hW o hl hll
 have hW0:=hW
 obtain⟨s,V,hV,rfl⟩:=hW
 have hlW:=hl
 rw [List.length_map] at hl
 have hbox:=hV.box
 have hsl:=hV.sl
 refine Fnc.start Try.func57 rfl rfl ?_
 cases hw:cJ (V.map (·.1)) o with
 | none=>
   have hwv:cK (V.map (·.1)) o=(⟨#[]⟩,false):=by unfold cK;rw [hw]
   have hb:cf (V.map (·.1)) o= []:=by unfold cf;rw [hw]
   rw [hwv] at hwa
   rw [hb]
   (repeat(first|refine ao ?_|refine ai ?_|refine ah ?_|refine aD rfl ?_|refine am rfl rfl rfl ?_|refine aj rfl rfl rfl ?_|refine bX rfl rfl rfl rfl ?_|refine i7 rfl rfl rfl ?_|(refine bn rfl rfl rfl (by kernel_rfl) (Fnc.mono (hwa) ?_);rintro _ rfl;dsimp only)))
   refine co 1 23 (d:=4) (by(repeat(exact Tr.ae _ _ _));done) rfl ?_
   ((apply bj Try.func57 (congrArg Array.toList Try.results57));(focus(repeat(first|exact ResIs.nil|apply ResIs.tmp rfl))))
   exact⟨nx,rfl,by(focus((repeat(exact Tr.ae _ _ _));done)),zP _,Nat.lt_succ_self _,zY _,fun n hn=>by(focus((repeat(refine(Tr.aa _ _ (by omega)).trans ?_));exact rfl))⟩
 | some k=>
   have hwv:cK (V.map (·.1)) o=(k,true):=by unfold cK;rw [hw]
   obtain⟨i,hq,he,hno⟩:=lK hw
   have hat:=zr (nx:=nx) hW0 k hlW
   rw [lQ hq he hno] at hat
   have hatF: ∀ H' nx',(∀ n,n<nx→H'.at' n=H.at' n)→Fnc Try.prog 51 [.ptr t 0,.sc (.string k)] H' nx' (fun q=>q=(.sc (.int .i64 (i:Int)),H',nx')):=fun H' nx' hh=>by
    have:=zr (nx:=nx') (hW0.frame (fun n hn=>hh n (hFw n hn))) k hlW
    rw [lQ hq he hno] at this
    exact this
   have hx:V[i]? =some V[i]:=zz hq
   have hln:=(hV.lines V[i] (zZ hq)).1
   rw [hwv] at hwa
   rcases hV.row with ⟨rfl,_⟩|⟨_,rfl,hrow,hFr,_⟩
   ·simp at hq
   (repeat(first|refine ao ?_|refine ai ?_|refine ah ?_|refine aN ?_|refine ay rfl ?_|refine am rfl rfl rfl ?_|refine aj rfl rfl rfl ?_|refine bX rfl rfl rfl rfl ?_|refine i7 rfl rfl rfl ?_|(refine bn rfl rfl rfl (by kernel_rfl) (Fnc.mono (hwa) ?_);rintro _ rfl;dsimp only)))
   have hone:=lT hln
   have hrn:=hFw r hFr
   have htn:=hFw t hV.own
   refine xk (by kernel_rfl) (by kernel_rfl) ?_
   refine mM 6 (zB rfl) ?_
   (repeat(first|refine aX rfl rfl rfl ?_|refine bD rfl rfl rfl ?_|refine bu rfl rfl rfl (F.fo _ _ rfl rfl) ?_|refine bK rfl rfl rfl (F.ag _ rfl) (by assumption) (by exact rfl) ?_))
   (refine be ?_);refine yd rfl rfl rfl (by kernel_rfl) (hat) ?_
   refine qI ?_
   (repeat(first|(refine wi rfl rfl (F.zl _ rfl) ?_)|refine bb (q:=i) rfl rfl rfl rfl (F.un _ rfl) (F.sz _ rfl) (by assumption) (by omega) (by first|omega|(simp;done)) (zP _) ?_|(refine wh rfl rfl rfl (F.ag _ rfl) hrow (cT 3 (i*3) _ (de hx) rfl (by omega)) ?_)|(refine uq rfl rfl rfl (F.sz _ rfl) (by(repeat(first|assumption|exact Tr.ae _ _ _));done) rfl (by exact zB rfl) (pW hone) (by exact rfl) ?_)))
   (refine be ?_);(refine⟨by kernel_rfl,?_,?_⟩);(focus(repeat(first|exact trivial|refine⟨.inl rfl,?_⟩|refine⟨.inr (.inl (by(repeat(refine⟨(by first|exact bq rfl|exact bi rfl rfl (.inr (.inr (.inr (.inr (.inl ⟨rfl,rfl⟩)))))|exact bk (F.un _ rfl) (F.sz _ rfl) rfl rfl rfl (by omega) (by omega) (by omega)|exact an rfl rfl (.inl ⟨rfl,(zx _ ⟨by omega,by omega⟩).symm⟩)|exact an rfl rfl (.inr (.inl ⟨rfl,(zx _ ⟨by omega,by omega⟩).symm⟩))|exact aq (F.fo _ _ rfl rfl) rfl|exact aY rfl|exact aH rfl|exact aw (F.ag _ rfl) rfl rfl (az rfl)|exact aC (F.ag _ rfl) rfl rfl (ak _ 0 rfl rfl)|exact aE rfl rfl|exact aP (F.un _ rfl) rfl|exact aI (F.un _ rfl) rfl|exact ax rfl|exact aQ rfl rfl|exact aR rfl rfl|exact aw (F.ag _ rfl) rfl (by(repeat(first|assumption|refine(Tr.aa _ _ (by omega)).trans ?_));done) (az rfl)|exact aC (F.ag _ rfl) rfl (by(repeat(first|assumption|refine(Tr.aa _ _ (by omega)).trans ?_));done) (ak _ 0 rfl rfl)|exact aU rfl (F.ze _ rfl) (F.pl _ rfl) rfl|exact aC (F.ag _ rfl) rfl (by(repeat(first|assumption|refine(Tr.aa _ _ (by omega)).trans ?_));done) (cT 3 (i*3) _ (de hx) rfl (by omega))|exact bk (F.un _ rfl) (F.sz _ rfl) rfl rfl (by(repeat(first|assumption|refine(Tr.aa _ _ (by omega)).trans ?_));done) rfl hq (zP _)),?_⟩));exact trivial)),?_⟩|refine⟨.inr (.inr (by(repeat(refine⟨(by exact wd rfl (by kernel_rfl) (by exact hatF _ _ (fun m hm=>by(focus((repeat(refine(Tr.aa _ _ (by omega)).trans ?_));exact rfl))))),?_⟩));exact trivial)),?_⟩)))
   dsimp only [wrL]
   (repeat(first|refine ao ?_|refine ai ?_|refine ah ?_|refine aT ?_|refine aj rfl rfl rfl ?_|refine au rfl rfl rfl (F.fo _ _ rfl rfl) ?_|refine aL rfl rfl rfl (F.ag _ rfl) (by(repeat(first|assumption|exact Tr.ae _ _ _));done) (by exact rfl) ?_|refine cb rfl rfl (F.un _ rfl) (F.sz _ rfl) rfl (F.ze _ rfl) rfl rfl rfl rfl rfl ?_))
   have hfr:=(hV.lines V[i] (zZ hq)).2
   have hlen:=hll V[i].1 (List.mem_map_of_mem (zZ hq))
   refine ch (α:=Nat×Nat) (fun x=> [(0,.ptr t 0),(1,.sc (.int .u64 (o:Int))),(7,.ptr nx 0),(8,.slu x.2 0 (V[i].1.2.1 :: V[i].1.2.2.take x.1).length),(9,.sc (.int .i64 (x.1:Int)))]) (fun x H1 n1=>x.1≤V[i].1.2.2.length∧nx<x.2∧x.2<n1∧H1.at' x.2=some (uR false (V[i].1.2.1 :: V[i].1.2.2.take x.1))∧H1.at' nx=some (aG 91 (vC V[i]))∧(∀ n,n<nx→H1.at' n=H.at' n)∧ ∀ j,j<x.1→V[i].1.2.2[j]? ≠some o) (fun x=>V[i].1.2.2.length-x.1) (0,nx+1) ⟨zQ _,by simp only;omega,by simp only;omega,(Tr.ae _ _ _).trans (congrArg some (ff false 1 1 23 [Value.int .u64 (V[i].1.2.1:Int)])),by(focus((repeat(first|exact Tr.ae _ _ _|refine(Tr.aa _ _ (by omega)).trans ?_));done)),fun n hn=>by(focus((repeat(refine(Tr.aa _ _ (by omega)).trans ?_));exact rfl)),fun j hj=>by simp only at hj;omega⟩ (SlIn.sub (by repeat(first|exact trivial|refine⟨rfl,?_⟩))) ?_
   rintro⟨m,nm⟩ H1 n1 ⟨hm,g1,g2,g3,gb,g4,hmo⟩ ih
   simp only at hm g1 g2 g3 hmo ih ⊢
   have hln1:=SlOf.frame hln fun b hb=>g4 b (hFw b (hfr b hb).1)
   have hle:(V[i].1.2.1 :: V[i].1.2.2.take m).length=m+1:=by simp;omega
   (repeat(first|refine ao ?_|refine ai ?_|refine am rfl rfl rfl ?_|refine au rfl rfl rfl (F.fo _ _ rfl rfl) ?_|refine aL rfl rfl rfl (F.ag _ rfl) (by assumption) (by exact rfl) ?_|(refine dC rfl rfl rfl (F.un _ rfl) hln1 ?_)))
   refine cu rfl rfl rfl rfl ?_ ?_
   all_goals intro h1
   ·have hmq:m<V[i].1.2.2.length:=by omega
    (repeat(first|refine am rfl rfl rfl ?_|refine au rfl rfl rfl (F.fo _ _ rfl rfl) ?_|refine aL rfl rfl rfl (F.ag _ rfl) (by assumption) (by exact rfl) ?_))
    refine dq rfl rfl rfl rfl (F.un _ rfl) (F.sz _ rfl) hln1 rfl hmq fun rr2 p2 ne2 rl2 u1 u2 u3 u4 _=>?_
    rw [lp hmq] at u4
    have e1:=lq u4
    (repeat(first|(refine am rfl rfl rfl ?_)|(refine di rfl rfl rfl (F.ag _ rfl) u1 (br (by exact e1) (by omega)) ?_)))
    refine jT rfl rfl rfl rfl ?_ ?_
    all_goals intro h3
    ·generalize hls:V[i].1.2.1 :: V[i].1.2.2.take m=ls at g3 hle ⊢
     have hsn:V[i].1.2.1 :: V[i].1.2.2.take (m+1)=ls ++ [V[i].1.2.2[m]]:=by
      rw [List.take_succ_eq_append_getElem hmq,←hls]
      rfl
     (repeat(first|refine ao ?_|refine ai ?_|refine ah ?_|refine aT ?_|refine aN ?_|refine aD rfl ?_|refine am rfl rfl rfl ?_|refine ce rfl rfl rfl rfl ?_|refine au rfl rfl rfl (F.fo _ _ rfl rfl) ?_|refine aL rfl rfl rfl (F.ag _ rfl) (by assumption) (by exact rfl) ?_))
     refine dq rfl rfl rfl rfl (F.un _ rfl) (F.sz _ rfl) hln1 rfl hmq fun rr2 p2 ne2 rl2 u1 u2 u3 u4 _=>?_
     rw [lp hmq] at u4
     have e1:=lq u4
     (repeat(first|refine ai ?_|refine ah ?_|refine aM ?_|refine am rfl rfl rfl ?_|refine aj rfl rfl rfl ?_|refine bT rfl rfl rfl rfl (by omega) (by omega) ?_|(refine di rfl rfl rfl (F.ag _ rfl) u1 (br (by exact e1) (by omega)) ?_)|refine cb rfl rfl (F.un _ rfl) (F.sz _ rfl) rfl (F.ze _ rfl) rfl rfl rfl rfl rfl ?_|refine gu (b:=8) (xs:=ls) (a:=V[i].1.2.2[m]) rfl rfl rfl rfl (F.un _ rfl) (.inl ⟨_,F.un _ rfl⟩) (F.sz _ rfl) rfl (by kernel_rfl) (by kernel_rfl) (by(repeat(first|assumption|refine(Tr.aa _ _ (by omega)).trans ?_));done) (by(repeat(exact Tr.ae _ _ _));done) (by exact rfl) (rY) (by omega) (by omega) ?_))
     refine ih _ _ _ (m+1,n1+1) ⟨hmq,by simp only;omega,by simp only;omega,by simp only [hsn];exact Tr.ae _ _ _,?_,fun n hn=>?_,fun j hj=>?_⟩ (by simp only;omega) (SlIn.sub (by simp only [hsn];exact(by repeat(first|exact trivial|refine⟨rfl,?_⟩))))
     ·exact(Tr.aa _ _ (by omega)).trans ((Tr.aF _ (by omega)).trans ((Tr.aa _ _ (by omega)).trans gb))
     ·exact(Tr.aa _ _ (by omega)).trans ((Tr.aF _ (by omega)).trans ((Tr.aa _ _ (by omega)).trans (g4 n hn)))
     ·by_cases e:j=m
      ·subst e
       rw [zz hmq]
       intro q
       simp only [zw] at q
       omega
      ·exact hmo j (by simp only at hj;omega)
    ·clear ih
     have hb:cf (V.map (·.1)) o=V[i].1.2.1 :: V[i].1.2.2.take m:=by
      rw [pH hq hw he hno hmq hmo (by omega)]
     (repeat(first|refine ao ?_|refine ai ?_|refine ah ?_|refine bA rfl ?_|refine ay rfl ?_|refine am rfl rfl rfl ?_|refine aj rfl rfl rfl ?_|refine ce rfl rfl rfl rfl ?_))
     ((apply bj Try.func57 (congrArg Array.toList Try.results57));(focus(repeat(first|exact ResIs.nil|apply ResIs.tmp rfl))))
     exact⟨nm,by rw [hb];rfl,by rw [hb];exact g3,by omega,g2,by simp only;omega,g4⟩
   ·clear ih
    have hie:m=V[i].1.2.2.length:=by omega
    have hb:cf (V.map (·.1)) o=V[i].1.2.1 :: V[i].1.2.2.take m:=by
     rw [rR hq hw he hno hie hmo]
    (repeat(first|refine ao ?_|refine ai ?_|refine ah ?_|refine bA rfl ?_|refine ay rfl ?_|refine am rfl rfl rfl ?_|refine aj rfl rfl rfl ?_|refine bO rfl rfl rfl rfl ?_|refine ix rfl ?_))
    ((apply bj Try.func57 (congrArg Array.toList Try.results57));(focus(repeat(first|exact ResIs.nil|apply ResIs.tmp rfl))))
    exact⟨nm,by rw [hb];rfl,by rw [hb];exact g3,by omega,g2,by simp only;omega,g4⟩
theorem maps_(l:List ByteArray):(l.flatMap sV)=l.map (fun s:ByteArray=>Value.string s):=by
 induction l with
 | nil=>rfl
 | cons a l ih=>rw [List.flatMap_cons,ih];rfl
theorem mapu_(l:List Nat):(l.flatMap uV)=l.map (fun n:Nat=>Value.int .u64 (n:Int)):=by
 induction l with
 | nil=>rfl
 | cons a l ih=>rw [List.flatMap_cons,ih];rfl
theorem at_s{l:List ByteArray}{i:Nat}(hi:i<l.length):(l.flatMap sV)[i*1]? =some (.string l[i]):=by
 rw [maps_,Nat.mul_one,List.getElem?_map,zz hi];rfl
theorem wv{l:List Nat}{i:Nat}(hi:i<l.length):(l.flatMap uV)[i*1]? =some (.int .u64 ((l[i]:Nat):Int)):=by
 rw [mapu_,Nat.mul_one,List.getElem?_map,zz hi];rfl
theorem i8{A:Type}{xs ys:List A}{i:Nat}(hx:i<xs.length)(hy:i<ys.length)(h:xs.take i=ys.take i)(e:xs[i]=ys[i]):xs.take (i+1)=ys.take (i+1):=by
 rw [List.take_succ_eq_append_getElem hx,List.take_succ_eq_append_getElem hy,h,e]
theorem xP{H:aV}{nx:Nat}(e:Int):Fnc Try.prog 16 [.sc (.int .i64 e)] H nx (fun q=>q=(.sc (.int .i64 e),H,nx)):=by
 refine Fnc.start Try.func16 rfl rfl ?_
 (repeat(first|refine ao ?_|refine ai ?_|refine ah ?_|refine am rfl rfl rfl ?_|refine aj rfl rfl rfl ?_))
 ((apply bj Try.func16 (congrArg Array.toList Try.results16));(focus(repeat(first|exact ResIs.nil|apply ResIs.tmp rfl))))
 rfl
theorem sx{H:aV}{nx r1 r2:Nat}{a1 a2:Bool}(xs ys:List ByteArray)(h1:H.at' r1=some (sR a1 xs))(h2:H.at' r2=some (sR a2 ys))(hl:xs.length<2000000)(hl2:ys.length<2000000):Fnc Try.prog 17 [.slu r1 0 xs.length,.slu r2 0 ys.length] H nx (fun q=>q=(.sc (.bool (decide (xs=ys))),H,nx)):=by
 refine Fnc.start Try.func17 rfl rfl ?_
 (repeat(first|refine ao ?_|refine ai ?_|refine ah ?_|refine am rfl rfl rfl ?_|refine aj rfl rfl rfl ?_|refine cr rfl rfl rfl (F.un _ rfl) ?_))
 refine jT rfl rfl rfl rfl ?_ ?_
 all_goals intro h3
 ·(repeat(first|refine ao ?_|refine ai ?_|refine ah ?_|refine aD rfl ?_|refine aj rfl rfl rfl ?_))
  ((apply bj Try.func17 (congrArg Array.toList Try.results17));(focus(repeat(first|exact ResIs.nil|apply ResIs.tmp rfl))))
  rw [decide_eq_false (fun e=>h3 (by rw [e]))]
  rfl
 have hle:xs.length=ys.length:=by omega
 (repeat(first|refine ao ?_|refine ai ?_|refine ah ?_|refine aT ?_|refine aN ?_|refine ay rfl ?_|refine aj rfl rfl rfl ?_))
 refine ch (α:=Nat) (fun i=> [(0,.slu r1 0 xs.length),(1,.slu r2 0 ys.length),(5,.sc (.int .i64 (i:Int)))]) (fun i H1 nx1=>H1=H∧nx1=nx∧i≤xs.length∧xs.take i=ys.take i) (fun i=>xs.length-i) 0 ⟨rfl,rfl,zQ _,rfl⟩ (SlIn.sub ⟨rfl,rfl,rfl,trivial⟩) ?_
 rintro i H1 nx1 ⟨rfl,rfl,hi,heq⟩ again
 (repeat(first|refine ao ?_|refine ai ?_|refine am rfl rfl rfl ?_|refine cr rfl rfl rfl (F.un _ rfl) ?_))
 refine cu rfl rfl rfl rfl ?_ ?_
 all_goals intro h4
 ·have hx:i<xs.length:=by omega
  have hy:i<ys.length:=by omega
  by_cases h5:xs[i]=ys[i]
  all_goals have h6:(xs[i] != ys[i]) = !(xs[i] == ys[i]):=rfl
  rotate_left
  all_goals(repeat(first|refine ao ?_|refine ah ?_|refine aT ?_|refine aN ?_|refine aD rfl ?_))
  all_goals refine bP (by kernel_rfl) (by kernel_rfl) ?_
  all_goals(repeat(first|(refine aX rfl rfl rfl ?_)|refine bb (q:=i) rfl rfl rfl rfl (F.un _ rfl) (F.sz _ rfl) (by first|exact Tr.ae _ _ _|assumption) (by omega) (by first|omega|(simp;done)) (zP _) ?_|refine fC rfl rfl rfl (F.ag _ rfl) (by first|exact Tr.ae _ _ _|assumption) (at_s hx) (by first|omega|(simp;done)) ?_|refine fC rfl rfl rfl (F.ag _ rfl) (by first|exact Tr.ae _ _ _|assumption) (at_s hy) (by first|omega|(simp;done)) ?_))
  ·have h7:(xs[i] == ys[i])=false:=by
    cases hq:(xs[i] == ys[i])with
    | false=>rfl
    | true=>exact absurd ((MapKept.bytes_beq _ _).1 hq) h5
   rw [h7] at h6
   refine kX rfl rfl rfl rfl h6 ?_
   (refine be ?_);(refine⟨by kernel_rfl,?_,?_⟩);(focus(repeat(first|exact trivial|refine⟨.inl rfl,?_⟩)))
   dsimp only [wrL]
   (repeat(first|refine ao ?_|refine ai ?_|refine ah ?_|refine aD rfl ?_|refine aj rfl rfl rfl ?_))
   ((apply bj Try.func17 (congrArg Array.toList Try.results17));(focus(repeat(first|exact ResIs.nil|apply ResIs.tmp rfl))))
   rw [decide_eq_false (fun e=>h5 (by subst e;rfl))]
   rfl
  ·rw [(MapKept.bytes_beq _ _).2 h5] at h6
   refine kX rfl rfl rfl rfl h6 ?_
   (refine be ?_);(refine⟨by kernel_rfl,?_,?_⟩);(focus(repeat(first|exact trivial|refine⟨.inl rfl,?_⟩)))
   dsimp only [wrL]
   (repeat(first|refine ai ?_|refine ah ?_|refine aM ?_|refine aN ?_|refine ay rfl ?_|refine am rfl rfl rfl ?_|refine aj rfl rfl rfl ?_|refine bT rfl rfl rfl rfl (by omega) (by omega) ?_))
   refine again _ _ _ (i+1) ⟨rfl,rfl,hx,i8 hx hy heq h5⟩ (by omega) (SlIn.sub (by repeat(first|exact trivial|refine⟨rfl,?_⟩)))
 ·(repeat(first|refine ao ?_|refine ai ?_|refine ah ?_|refine bA rfl ?_|refine ay rfl ?_|refine aj rfl rfl rfl ?_))
  ((apply bj Try.func17 (congrArg Array.toList Try.results17));(focus(repeat(first|exact ResIs.nil|apply ResIs.tmp rfl))))
  rw [zH (by omega),zH (by omega)] at heq
  rw [decide_eq_true heq]
  rfl
theorem kI{H:aV}{nx r1 r2:Nat}{a1 a2:Bool}(xs ys:List Nat)(h1:H.at' r1=some (uR a1 xs))(h2:H.at' r2=some (uR a2 ys))(hl:xs.length<2000000)(hl2:ys.length<2000000):Fnc Try.prog 27 [.slu r1 0 xs.length,.slu r2 0 ys.length] H nx (fun q=>q=(.sc (.bool (decide (xs=ys))),H,nx)):=by
 refine Fnc.start Try.func27 rfl rfl ?_
 (repeat(first|refine ao ?_|refine ai ?_|refine ah ?_|refine am rfl rfl rfl ?_|refine aj rfl rfl rfl ?_|refine cr rfl rfl rfl (F.un _ rfl) ?_))
 refine jT rfl rfl rfl rfl ?_ ?_
 all_goals intro h3
 ·(repeat(first|refine ao ?_|refine ai ?_|refine ah ?_|refine aD rfl ?_|refine aj rfl rfl rfl ?_))
  ((apply bj Try.func27 (congrArg Array.toList Try.results27));(focus(repeat(first|exact ResIs.nil|apply ResIs.tmp rfl))))
  rw [decide_eq_false (fun e=>h3 (by rw [e]))]
  rfl
 have hle:xs.length=ys.length:=by omega
 (repeat(first|refine ao ?_|refine ai ?_|refine ah ?_|refine aT ?_|refine aN ?_|refine ay rfl ?_|refine aj rfl rfl rfl ?_))
 refine ch (α:=Nat) (fun i=> [(0,.slu r1 0 xs.length),(1,.slu r2 0 ys.length),(5,.sc (.int .i64 (i:Int)))]) (fun i H1 nx1=>H1=H∧nx1=nx∧i≤xs.length∧xs.take i=ys.take i) (fun i=>xs.length-i) 0 ⟨rfl,rfl,zQ _,rfl⟩ (SlIn.sub ⟨rfl,rfl,rfl,trivial⟩) ?_
 rintro i H1 nx1 ⟨rfl,rfl,hi,heq⟩ again
 (repeat(first|refine ao ?_|refine ai ?_|refine am rfl rfl rfl ?_|refine cr rfl rfl rfl (F.un _ rfl) ?_))
 refine cu rfl rfl rfl rfl ?_ ?_
 all_goals intro h4
 ·have hx:i<xs.length:=by omega
  have hy:i<ys.length:=by omega
  (repeat(first|refine ao ?_|refine ah ?_|refine aT ?_|refine aN ?_|refine aD rfl ?_))
  refine bP (by kernel_rfl) (by kernel_rfl) ?_
  (repeat(first|(refine aX rfl rfl rfl ?_)|refine bb (q:=i) rfl rfl rfl rfl (F.un _ rfl) (F.sz _ rfl) (by first|exact Tr.ae _ _ _|assumption) (by omega) (by first|omega|(simp;done)) (zP _) ?_|refine fC rfl rfl rfl (F.ag _ rfl) (by first|exact Tr.ae _ _ _|assumption) (wv hx) (by first|omega|(simp;done)) ?_|refine fC rfl rfl rfl (F.ag _ rfl) (by first|exact Tr.ae _ _ _|assumption) (wv hy) (by first|omega|(simp;done)) ?_))
  refine jK rfl rfl rfl rfl ?_ ?_
  all_goals intro h5
  ·(refine be ?_);(refine⟨by kernel_rfl,?_,?_⟩);(focus(repeat(first|exact trivial|refine⟨.inl rfl,?_⟩)))
   dsimp only [wrL]
   (repeat(first|refine ao ?_|refine ai ?_|refine ah ?_|refine aD rfl ?_|refine aj rfl rfl rfl ?_))
   ((apply bj Try.func27 (congrArg Array.toList Try.results27));(focus(repeat(first|exact ResIs.nil|apply ResIs.tmp rfl))))
   rw [decide_eq_false (fun e=>h5 (by subst e;rfl))]
   rfl
  ·(refine be ?_);(refine⟨by kernel_rfl,?_,?_⟩);(focus(repeat(first|exact trivial|refine⟨.inl rfl,?_⟩)))
   dsimp only [wrL]
   (repeat(first|refine ai ?_|refine ah ?_|refine aM ?_|refine aN ?_|refine ay rfl ?_|refine am rfl rfl rfl ?_|refine aj rfl rfl rfl ?_|refine bT rfl rfl rfl rfl (by omega) (by omega) ?_))
   refine again _ _ _ (i+1) ⟨rfl,rfl,hx,i8 hx hy heq (by omega)⟩ (by omega) (SlIn.sub (by repeat(first|exact trivial|refine⟨rfl,?_⟩)))
 ·(repeat(first|refine ao ?_|refine ai ?_|refine ah ?_|refine bA rfl ?_|refine ay rfl ?_|refine aj rfl rfl rfl ?_))
  ((apply bj Try.func27 (congrArg Array.toList Try.results27));(focus(repeat(first|exact ResIs.nil|apply ResIs.tmp rfl))))
  rw [zH (by omega),zH (by omega)] at heq
  rw [decide_eq_true heq]
  rfl
end Go.Proofs.Ytckajlllkmkniaa
end
section
namespace Go.Proofs.Ytckajlllkmkniaa
open Go.Sl
theorem jV{x:Nat}: ∀ {l m:List Nat},x∈l→(l ++ m).takeWhile (fun y=>decide (y≠x))=l.takeWhile fun y=>decide (y≠x)
 | [],_,h=>by cases h
 | y :: l,m,h=>by
   rw [List.cons_append,List.takeWhile_cons,List.takeWhile_cons]
   by_cases e:y=x
   ·simp [e]
   ·have:x∈l:=by
     rcases List.mem_cons.1 h with h|h
     ·exact absurd h.symm e
     ·exact h
    rw [jV this]
theorem iE{x:Nat}: ∀ {l:List Nat},x∉l→(l ++ [x]).takeWhile (fun y=>decide (y≠x))=l
 | [],_=>by simp
 | y :: l,h=>by
   rw [List.mem_cons,not_or] at h
   rw [List.cons_append,List.takeWhile_cons,if_pos (by simpa using Ne.symm h.1),iE h.2]
theorem rk{W:RT}{k:ByteArray}{q o:Nat}{l:List Nat}(hg:bE W k=some (q,l))(ho:cJ W o=none)(x:Nat):cJ (ca W k (q,l ++ [o])) x=if x=o then some k else cJ W x:=by
 obtain⟨A,B,rfl,a1⟩:=bH hg
 rw [cN a1]
 unfold cJ lL at ho ⊢
 rw [Option.map_eq_none_iff,List.find?_eq_none] at ho
 by_cases e:x=o
 ·subst e
  rw [if_pos rfl,List.find?_append]
  have:A.find? (fun y=>decide (x∈y.2.2))=none:=List.find?_eq_none.2 fun y hy=>ho y (by simp [hy])
  rw [this,Option.none_or,List.find?_cons_of_pos (by simp)]
  rfl
 ·rw [if_neg e,List.find?_append,List.find?_append]
  cases A.find? fun y=>decide (x∈y.2.2)with
  | some z=>rfl
  | none=>
    rw [Option.none_or,Option.none_or,List.find?_cons,List.find?_cons]
    have:decide (x∈l ++ [o])=decide (x∈l):=by simp [e]
    dsimp only
    rw [this]
    cases decide (x∈l) <;> rfl
theorem LT.WF.of_line{T:LT}(H:T.WF){k:ByteArray}{q x:Nat}{l:List Nat}(hg:bE T.locks k=some (q,l))(hx:x∈l):T.waits x=k∧(T.waits x).size≠0:=by
 obtain⟨a1,_,_,_,a5⟩:=H.own k q l hg
 obtain⟨_,_,ks,hp⟩:=a5 x hx
 have:T.waits x=k:=by unfold LT.waits;rw [hp]
 exact⟨this,by rw [this];exact a1⟩
theorem iT{W:RT}{x h:Nat}{k:ByteArray}{l:List Nat}(hw:cJ W x=some k)(hg:bE W k=some (h,l)):cf W x=h :: l.takeWhile fun y=>decide (y≠x):=by
 unfold cf
 rw [hw]
 dsimp only
 rw [hg]
theorem Rel.circle{T:LT}{W:RT}{N:Nat}(h:Rel T W)(H:T.Fine N){o q:Nat}{k:ByteArray}{l:List Nat}(hw:(T.waits o).size=0)(hg:bE W k=some (q,l)) :
 T.chase o (T.parties.length+1) q=some true↔RReach (ca W k (q,l ++ [o])) o o:=by
 have hwo:cJ W o=none:=by rw [h.waits H,if_pos hw]
 have hgT:=hg
 rw [← h.get H] at hgT
 have hol:o∉l:=fun q'=>(H.wf.of_line hgT q').2 hw
 have hwx:=rk hg hwo
 have hgx:=fun k'=>bw W k (q,l ++ [o]) k'
 have hb0:cf (ca W k (q,l ++ [o])) o=q :: l:=by
  rw [iT (by rw [hwx,if_pos rfl]) (by rw [hgx,if_pos rfl]),iE hol]
 have hbx: ∀ x,x≠o→ ∀ k',T.waits x=k'→k'.size≠0→ ∃ h' l',bE T.locks k'=some (h',l')∧x∈l'∧cf (ca W k (q,l ++ [o])) x=h' :: l'.takeWhile fun y=>decide (y≠x):=by
  intro x hx k' hk' hs
  have hp: ∃ ks,bE T.parties x=some (ks,k'):=by
   unfold LT.waits at hk'
   cases hp:bE T.parties x with
   | none=>rw [hp] at hk';subst hk';exact absurd rfl hs
   | some p=>
     obtain⟨ks,w⟩:=p
     rw [hp] at hk'
     exact⟨ks,by rw [← hk']⟩
  obtain⟨ks,hp⟩:=hp
  obtain⟨h',l',g,hin⟩:=(H.wf.par x ks k' hp).2.2.2 hs
  have hwW:cJ (ca W k (q,l ++ [o])) x=some k':=by
   rw [hwx,if_neg hx,h.waits H,hk',if_neg hs]
  refine⟨h',l',g,hin,?_⟩
  have gW:=g
  rw [h.get H] at gW
  by_cases e:k=k'
  ·subst e
   rw [hg] at gW
   cases gW
   rw [iT hwW (by rw [hgx,if_pos rfl]),jV hin]
  ·rw [iT hwW (by rw [hgx,if_neg e];exact gW)]
 constructor
 ·have key: ∀ n x,T.chase o n x=some true→RReach (ca W k (q,l ++ [o])) o x→RReach (ca W k (q,l ++ [o])) o o:=by
   intro n
   induction n with
   | zero=>intro x hc;cases hc
   | succ n ih=>
     intro x hc hr
     unfold LT.chase at hc
     by_cases e:x=o
     ·exact e ▸ hr
     rw [if_neg e] at hc
     cases hp:bE T.parties x with
     | none=>rw [hp] at hc;cases hc
     | some p=>
       obtain⟨ks,w⟩:=p
       rw [hp] at hc
       dsimp only at hc
       by_cases hs:w.size=0
       ·rw [if_pos hs] at hc;cases hc
       ·rw [if_neg hs] at hc
        obtain⟨h',l',g,_,hb⟩:=hbx x e w (by unfold LT.waits;rw [hp]) hs
        rw [g] at hc
        exact ih h' hc (.more hr (by rw [hb];simp))
  intro hc
  exact key _ q hc (.one (by rw [hb0];simp))
 ·intro hr
  obtain⟨b,hb⟩:=H.wf.chase o q
  cases b with
  | true=>exact hb
  | false=>
    exfalso
    have key: ∀ y,RReach (ca W k (q,l ++ [o])) o y→y≠o∧((∃ n,T.chase o n y=some false)∨ ∃ k' h' l',bE T.locks k'=some (h',l')∧y∈l'∧ ∃ n,T.chase o n h'=some false):=by
     have hne: ∀ y,(∃ n,T.chase o n y=some false)→y≠o:=by
      rintro y ⟨n,hn⟩ rfl
      cases n with
      | zero=>cases hn
      | succ n=>unfold LT.chase at hn;rw [if_pos rfl] at hn;cases hn
     intro y hy
     induction hy with
     | @one y hm=>
       rw [hb0] at hm
       rcases List.mem_cons.1 hm with rfl|hm
       ·exact⟨hne _ ⟨_,hb⟩,.inl ⟨_,hb⟩⟩
       ·exact⟨fun e=>hol (e ▸ hm),.inr ⟨k,q,l,hgT,hm,_,hb⟩⟩
     | @more x y _ hm ih=>
       obtain⟨hxo,ih⟩:=ih
       by_cases hs:(T.waits x).size=0
       ·exfalso
        have:cJ (ca W k (q,l ++ [o])) x=none:=by rw [hwx,if_neg hxo,h.waits H,if_pos hs]
        unfold cf at hm
        rw [this] at hm
        cases hm
       ·obtain⟨h',l',g,hin,hb'⟩:=hbx x hxo _ rfl hs
        have hF: ∃ n,T.chase o n h'=some false:=by
         rcases ih with ⟨n,hn⟩|⟨k1,h1,l1,g1,hin1,n,hn⟩
         ·cases n with
          | zero=>cases hn
          | succ n=>
            unfold LT.chase at hn
            rw [if_neg hxo] at hn
            unfold LT.waits at hs g
            cases hp:bE T.parties x with
            | none=>rw [hp] at hs;exact absurd rfl hs
            | some p=>
              obtain⟨ks,w⟩:=p
              rw [hp] at hn hs g
              dsimp only at hn hs g
              rw [if_neg hs,g] at hn
              exact⟨n,hn⟩
         ·have e:=(H.wf.of_line g1 hin1).1
          rw [e,g1] at g
          cases g
          exact⟨n,hn⟩
        rw [hb'] at hm
        rcases List.mem_cons.1 hm with rfl|hm
        ·exact⟨hne _ hF,.inl hF⟩
        ·have hyl:=(List.takeWhile_sublist _).subset hm
         exact⟨fun e=>(H.wf.of_line g (e ▸ hyl)).2 hw,.inr ⟨_,h',l',g,hyl,hF⟩⟩
    exact(key o hr).1 rfl
def gI(W:RT):List Nat:=W.flatMap fun x=>x.2.1 :: x.2.2
end Go.Proofs.Ytckajlllkmkniaa
end
section
namespace Go.Proofs.Ytckajlllkmkniaa
open Go Go.Sy Go.Sl Go.RowKit
theorem mE: ∀ (l:List Nat),(l.flatMap uV).map SV.sc=uC l
 | []=>rfl
 | x :: l=>by
   rw [List.flatMap_cons,zU,mE l]
   rfl
theorem kC(l:List Nat):eU false l.length 1 23 (uC l)=uR false l:=by
 rw [← mE]
 exact ff false l.length 1 23 (l.flatMap uV)
theorem qt{H:aV}{r:Nat}{l:List Nat}(h:H.at' r=some (uR false l)):uT H (.slu r 0 l.length) l:=
 SlOf.row (by rw [kC];exact h) (by simp)
theorem eG{W:RT}:W.length≤(gI W).length:=by
 unfold gI
 induction W with
 | nil=>exact zP _
 | cons x W ih=>simp only [List.flatMap_cons,zT,zS];omega
theorem fy{W:RT}{x:ByteArray×(Nat×List Nat)}(h:x∈W):x.2.2.length<(gI W).length:=by
 unfold gI
 induction W with
 | nil=>cases h
 | cons y W ih=>
   simp only [List.flatMap_cons,zT,zS]
   rcases List.mem_cons.1 h with rfl|h
   ·omega
   ·have:=ih h
    omega
theorem jH{W:RT}{k:ByteArray}{y:Nat×List Nat}(h:bE W k=some y):(k,y)∈W:=by
 obtain⟨A,B,rfl,_⟩:=bH h
 simp
theorem pf{W:RT}{o x:Nat}(h:x∈cf W o):x∈gI W:=by
 unfold cf at h
 cases hw:cJ W o with
 | none=>rw [hw] at h;cases h
 | some k=>
   rw [hw] at h
   dsimp only at h
   cases hm:bE W k with
   | none=>rw [hm] at h;cases h
   | some y=>
     rw [hm] at h
     dsimp only at h
     refine List.mem_flatMap.2 ⟨_,jH hm,?_⟩
     rcases List.mem_cons.1 h with rfl|h
     ·exact List.mem_cons_self
     ·exact List.mem_cons_of_mem _ (List.takeWhile_sublist _ |>.mem h)
theorem pg{W:RT}{o:Nat}:(cf W o).length≤(gI W).length:=by
 unfold cf
 cases hw:cJ W o with
 | none=>exact zQ _
 | some k=>
   dsimp only
   cases hm:bE W k with
   | none=>exact zQ _
   | some y=>
     have h1:=fy (jH hm)
     have h2:=(List.takeWhile_sublist (l:=y.2) fun x=>decide (x≠o)).length_le
     simp only [zS]
     simp only at h1
     omega
structure Found (W:RT) (o:Nat) (l:List Nat):Prop where
 len:l.length≤(cf W o).length+(gI W).length
 ext: ∃ l',l=cf W o ++ l'∧l'.Nodup∧(∀ x∈l',x∈gI W)
 reach: ∀ x∈l,RReach W o x
theorem Found.start(W:RT)(o:Nat):Found W o (cf W o):=
 ⟨Nat.le_add_right _ _,⟨[],by simp,List.nodup_nil,fun x h=>by cases h⟩,fun x h=> .one h⟩
theorem Found.more{W:RT}{o x y:Nat}{l:List Nat}(h:Found W o l)(hx:x∈l)(hy:y∈cf W x)(hn:y∉l):Found W o (l ++ [y]):=by
 obtain⟨l',rfl,h2,h3⟩:=h.ext
 have hnd:(l' ++ [y]).Nodup:=by
  rw [List.nodup_append]
  refine⟨h2,by simp,fun a ha b hb=>?_⟩
  simp only [List.mem_singleton] at hb
  subst hb
  rintro rfl
  exact hn (List.mem_append_right _ ha)
 have hsub: ∀ z∈l' ++ [y],z∈gI W:=fun z hz=>by
  rcases List.mem_append.1 hz with hz|hz
  ·exact h3 z hz
  ·simp only [List.mem_singleton] at hz
   subst hz
   exact pf hy
 have hle:=dW _ _ hnd hsub
 refine⟨by rw [List.append_assoc,zT];omega,⟨l' ++ [y],by rw [List.append_assoc],hnd,hsub⟩,fun z hz=>?_⟩
 rcases List.mem_append.1 hz with hz|hz
 ·exact h.reach z hz
 ·simp only [List.mem_singleton] at hz
  subst hz
  exact .more (h.reach x hx) hy
theorem Found.all{W:RT}{o:Nat}{l:List Nat}(h:Found W o l)(hc: ∀ j,j<l.length→ ∀ x,l[j]? =some x→ ∀ y∈cf W x,y∈l)(x:Nat):x∈l↔RReach W o x:=by
 refine⟨h.reach x,fun hr=>?_⟩
 induction hr with
 | one h1=>
   obtain⟨l',rfl,_⟩:=h.ext
   exact List.mem_append_left _ h1
 | more _ h2 ih=>
   obtain⟨j,hj,e⟩:=List.getElem_of_mem ih
   exact hc j hj _ (by rw [zz hj,e]) _ h2
theorem wq{t r:Nat}{W:RT}{Fw:Nat→Prop}{H:aV}{nx:Nat}(hW:WAt t r W Fw H)(hFw: ∀ n,Fw n→n<nx)(o:Nat)(hA:(gI W).length<400000):Fnc Try.prog 52 [.ptr t 0,.sc (.int .u64 (o:Int))] H nx (fun q=> ∃ b,q.1 = .sc (.bool b)∧(b=true↔RReach W o o)∧nx≤q.2.2∧ ∀ n,n<nx→q.2.1.at' n=H.at' n):=by
 have hl:W.length<1000000:=Nat.lt_of_le_of_lt eG (by omega)
 have hll: ∀ x∈W,x.2.2.length<1000000:=fun x hx=>Nat.lt_trans (fy hx) (by omega)
 have hbl:=fun o:Nat=>pg (W:=W) (o:=o)
 have hbef: ∀ H' nx' (o:Nat),nx≤nx'→(∀ n,n<nx→H'.at' n=H.at' n)→Fnc Try.prog 57 [.ptr t 0,.sc (.int .u64 (o:Int))] H' nx' (rW (cf W o) H' nx'):=fun H' nx' o hn hh=>
  wu (hW.frame fun n hn=>hh n (hFw n hn)) (fun n hm=>Nat.lt_of_lt_of_le (hFw n hm) hn) o hl hll
 refine Fnc.start Try.func52 rfl rfl ?_
 have hb0:=hbef H nx o (zP _) (fun _ _=>rfl)
 (repeat(first|refine ao ?_|refine ai ?_|refine ah ?_|refine am rfl rfl rfl ?_|refine aj rfl rfl rfl ?_))
 refine bn rfl rfl rfl (by kernel_rfl) (Fnc.mono hb0 ?_)
 rintro⟨_,H0,n0⟩ ⟨b0,rfl,e1,e2,e3,e4,e5⟩
 dsimp only at e1 e3 e4 e5 ⊢
 (repeat(first|refine ao ?_|refine ai ?_|refine ah ?_|refine aT ?_|refine aj rfl rfl rfl ?_))
 refine ch (α:=List Nat×Nat×Nat) (fun x=> [(0,.ptr t 0),(1,.sc (.int .u64 (o:Int))),(5,.slu x.2.1 0 x.1.length),(6,.sc (.int .i64 (x.2.2:Int)))]) (fun x H1 n1=>x.2.2≤x.1.length∧nx≤x.2.1∧x.2.1<n1∧H1.at' x.2.1=some (uR false x.1)∧(∀ n,n<nx→H1.at' n=H.at' n)∧Found W o x.1∧ ∀ j,j<x.2.2→ ∀ y,x.1[j]? =some y→ ∀ z∈cf W y,z∈x.1) (fun x=>(cf W o).length+(gI W).length-x.2.2) (cf W o,b0,0) ⟨zQ _,e2,e3,e1,e5,.start W o,fun j hj=>by simp only at hj;omega⟩ (SlIn.sub (by repeat(first|exact trivial|refine⟨rfl,?_⟩))) ?_
 rintro⟨l,nm,i⟩ H1 n1 ⟨hi,g1,g2,g3,g4,hf,hcl⟩ ih
 simp only at hi g1 g2 g3 g4 hf hcl ih ⊢
 have hlen:=hf.len
 have hbo:=hbl o
 (repeat(first|refine ao ?_|refine ai ?_|refine am rfl rfl rfl ?_|refine cr rfl rfl rfl (F.un _ rfl) ?_))
 refine cu rfl rfl rfl rfl ?_ ?_
 all_goals intro h1
 ·have hq:i<l.length:=by omega
  (repeat(first|refine ao ?_|refine ai ?_|refine ah ?_|refine aT ?_|refine aN ?_|refine aD rfl ?_|refine am rfl rfl rfl ?_|refine c7 (q:=i) rfl rfl rfl rfl (F.un _ rfl) (F.sz _ rfl) (by assumption) (by omega) (by first|omega|(simp;done)) (zP _) ?_|refine fE rfl rfl rfl (F.ag _ rfl) (by assumption) (wv hq) (by first|omega|(simp;done)) ?_))
  refine bn rfl rfl rfl (by kernel_rfl) (Fnc.mono (hbef H1 n1 l[i] (by omega) g4) ?_)
  rintro⟨_,H2,n2⟩ ⟨mb,rfl,u1,u2,u3,u4,u5⟩
  dsimp only at u1 u3 u4 u5 ⊢
  generalize hB:cf W l[i]=B at u1 ⊢
  have hBl:B.length≤(gI W).length:=by rw [← hB];exact hbl _
  (repeat(first|refine ao ?_|refine ai ?_|refine ah ?_|refine aT ?_|refine aj rfl rfl rfl ?_))
  refine ch (α:=List Nat×Nat×Nat) (fun x=> [(0,.ptr t 0),(1,.sc (.int .u64 (o:Int))),(5,.slu x.2.1 0 x.1.length),(6,.sc (.int .i64 (i:Int))),(7,.slu mb 0 B.length),(8,.sc (.int .i64 (x.2.2:Int)))]) (fun x H3 n3=>x.2.2≤B.length∧nx≤x.2.1∧x.2.1<n3∧mb<n3∧mb≠x.2.1∧H3.at' x.2.1=some (uR false x.1)∧H3.at' mb=some (uR false B)∧(∀ n,n<nx→H3.at' n=H.at' n)∧Found W o x.1∧(∃ e,x.1=l ++ e)∧ ∀ j,j<x.2.2→ ∀ y,B[j]? =some y→y∈x.1) (fun x=>B.length-x.2.2) (l,nm,0) ⟨zQ _,g1,by simp only;omega,u3,by simp only;omega,by simp only;rw [u5 nm (by omega)];exact g3,u1,fun n hn=>by rw [u5 n (by omega)];exact g4 n hn,hf,⟨[],by simp⟩,fun j hj=>by simp only at hj;omega⟩ (SlIn.sub (by repeat(first|exact trivial|refine⟨rfl,?_⟩))) ?_
  rintro⟨l3,nm3,m⟩ H3 n3 ⟨hm,v1,v2,v3,v4,v5,v6,v7,hf3,⟨ex,rfl⟩,hcl3⟩ ihm
  simp only at hm v1 v2 v3 v4 v5 v6 v7 hf3 hcl3 ihm ⊢
  have hlen3:=hf3.len
  generalize hL3:l ++ ex=l3 at v5 hf3 hcl3 hlen3 ⊢
  (repeat(first|refine ao ?_|refine ai ?_|refine am rfl rfl rfl ?_|refine cr rfl rfl rfl (F.un _ rfl) ?_))
  refine cu rfl rfl rfl rfl ?_ ?_
  all_goals intro h2
  ·have hmq:m<B.length:=by omega
   have hin:=fun nx=>in_r (nx:=nx) (qt v5) B[m] (by omega)
   by_cases hmem:B[m]∈l3
   ·rw [decide_eq_true hmem] at hin
    (repeat(first|refine ao ?_|refine ai ?_|refine ah ?_|refine aT ?_|refine aM ?_|refine aN ?_|refine aD rfl ?_|refine ay rfl ?_|refine am rfl rfl rfl ?_|refine aj rfl rfl rfl ?_|refine bT rfl rfl rfl rfl (by omega) (by omega) ?_|refine i7 rfl rfl rfl ?_|refine c7 (q:=m) rfl rfl rfl rfl (F.un _ rfl) (F.sz _ rfl) (by assumption) (by omega) (by first|omega|(simp;done)) (zP _) ?_|refine fE rfl rfl rfl (F.ag _ rfl) (by assumption) (wv hmq) (by first|omega|(simp;done)) ?_|(refine bn rfl rfl rfl (by kernel_rfl) (Fnc.mono (hin _) ?_);rintro _ rfl;dsimp only)))
    refine ihm _ _ _ (l3,nm3,m+1) ⟨hmq,v1,v2,v3,v4,v5,v6,v7,hf3,⟨ex,hL3.symm⟩,fun j hj y hy=>?_⟩ (by simp only;omega) (SlIn.sub (by repeat(first|exact trivial|refine⟨rfl,?_⟩)))
    by_cases e:j=m
    ·subst e
     rw [zz hmq,zw] at hy
     exact hy ▸ hmem
    ·exact hcl3 j (by simp only at hj;omega) y hy
   ·rw [decide_eq_false hmem] at hin
    (repeat(first|refine ao ?_|refine ai ?_|refine ah ?_|refine aT ?_|refine aM ?_|refine aN ?_|refine aD rfl ?_|refine am rfl rfl rfl ?_|refine aj rfl rfl rfl ?_|refine bT rfl rfl rfl rfl (by omega) (by omega) ?_|refine i7 rfl rfl rfl ?_|refine c7 (q:=m) rfl rfl rfl rfl (F.un _ rfl) (F.sz _ rfl) (by assumption) (by omega) (by first|omega|(simp;done)) (zP _) ?_|refine fE rfl rfl rfl (F.ag _ rfl) (by assumption) (wv hmq) (by first|omega|(simp;done)) ?_|(refine bn rfl rfl rfl (by kernel_rfl) (Fnc.mono (hin _) ?_);rintro _ rfl;dsimp only)|refine cb rfl rfl (F.un _ rfl) (F.sz _ rfl) rfl (F.ze _ rfl) rfl rfl rfl rfl rfl ?_|refine gu (b:=8) (xs:=l3) (a:=B[m]) rfl rfl rfl rfl (F.un _ rfl) (.inl ⟨_,F.un _ rfl⟩) (F.sz _ rfl) rfl (by kernel_rfl) (by kernel_rfl) (by(repeat(first|assumption|refine(Tr.aa _ _ (by omega)).trans ?_));done) (by(repeat(exact Tr.ae _ _ _));done) (by exact rfl) (rY) (by omega) (by omega) ?_))
    refine ihm _ _ _ (l3 ++ [B[m]],n3+1,m+1) ⟨hmq,(by first|omega|(simp only;omega)),(by first|omega|(simp only;omega)),(by first|omega|(simp only;omega)),(by first|omega|(simp only;omega)),Tr.ae _ _ _,?_,fun n hn=>?_,hf3.more (x:=l[i]) (by rw [← hL3];exact List.mem_append_left _ (zZ hq)) (by rw [hB];exact zZ hmq) hmem,⟨ex ++ [B[m]],congrArg (·++ [B[m]]) hL3.symm |>.trans (List.append_assoc _ _ _)⟩,fun j hj y hy=>?_⟩ (by simp only;omega) (SlIn.sub (by repeat(first|exact trivial|refine⟨rfl,?_⟩)))
    ·exact(Tr.aa _ _ (by omega)).trans ((Tr.aF _ (by omega)).trans ((Tr.aa _ _ (by omega)).trans v6))
    ·exact(Tr.aa _ _ (by omega)).trans ((Tr.aF _ (by omega)).trans ((Tr.aa _ _ (by omega)).trans (v7 n hn)))
    ·by_cases e:j=m
     ·subst e
      rw [zz hmq,zw] at hy
      exact hy ▸ List.mem_append_right _ (List.mem_singleton.2 rfl)
     ·exact List.mem_append_left _ (hcl3 j (by simp only at hj;omega) y hy)
  ·clear ihm
   (repeat(first|refine ai ?_|refine ah ?_|refine aM ?_|refine bA rfl ?_|refine ay rfl ?_|refine am rfl rfl rfl ?_|refine aj rfl rfl rfl ?_|refine bT rfl rfl rfl rfl (by omega) (by omega) ?_))
   refine ih _ _ _ (l3,nm3,i+1) ⟨?_,v1,v2,v5,v7,hf3,?_⟩ (by simp only;omega) (SlIn.sub (by repeat(first|exact trivial|refine⟨rfl,?_⟩)))
   ·simp only [← hL3,zT]
    omega
   ·intro j hj y hy z hz
    simp only at hj
    have hjl:j<l.length:=by omega
    rw [← hL3,zM hjl] at hy
    by_cases e:j=i
    ·subst e
     rw [zz hjl,zw] at hy
     subst hy
     rw [hB] at hz
     obtain⟨q,hq2,ez⟩:=List.getElem_of_mem hz
     exact hcl3 q (by omega) z (by rw [zz hq2,ez])
    ·exact hL3 ▸ List.mem_append_left _ (hcl j (by omega) y hy z hz)
 ·clear ih
  have hie:i=l.length:=by omega
  subst hie
  have hall:=hf.all hcl
  have hin:=fun nx=>in_r (nx:=nx) (qt g3) o (by omega)
  (repeat(first|refine ao ?_|refine ai ?_|refine ah ?_|refine bA rfl ?_|refine ay rfl ?_|refine am rfl rfl rfl ?_|refine aj rfl rfl rfl ?_|(refine bn rfl rfl rfl (by kernel_rfl) (Fnc.mono (hin _) ?_);rintro _ rfl;dsimp only)))
  ((apply bj Try.func52 (congrArg Array.toList Try.results52));(focus(repeat(first|exact ResIs.nil|apply ResIs.tmp rfl))))
  exact⟨decide (o∈l),rfl,by rw [decide_eq_true_iff];exact hall o,by simp only;omega,g4⟩
end Go.Proofs.Ytckajlllkmkniaa
end
section
namespace Go.Sy
open Go Go.Sl Go.RowKit
theorem jn{e e':Env}(h:e.le e'){s:SV}{v v':Value}(h0:s.conc e=some v)(h1:s.conc e'=some v'):s.conc e=some v':=by
 have:=SV.bW h s v h0
 rw [h1] at this
 rw [h0,←Option.some.inj this]
theorem MRel.down{e e':Env}(h:e.le e'): ∀ {l:List (Value×SV×Nat)} {m m':List MapEntry},MRel e l m→MRel e' l m'→MRel e l m'
 | [],[],[],_,_=>trivial
 | (_,_,_) :: _,_ :: _,_ :: _,hd,hd'=>⟨hd'.1,hd'.2.1,jn h hd.2.2.1 hd'.2.2.1,MRel.down h hd.2.2.2 hd'.2.2.2⟩
 | [],_ :: _,_,hd,_=>hd.elim
 | [],[],_ :: _,_,hd=>hd.elim
 | _ :: _,[],_,hd,_=>by simp [MRel] at hd
 | _ :: _,_ :: _,[],_,hd=>by simp [MRel] at hd
theorem DRel.down{e e':Env}(h:e.le e'){a:ADf}{d d':Deferred}(hd:DRel e a d)(hd':DRel e' a d'):DRel e a d':=by
 cases a with
 | call f args=>
   obtain⟨x,cap,rfl,hl⟩:=hd
   obtain⟨x',cap',rfl,hl'⟩:=hd'
   refine⟨x',cap',rfl,?_⟩
   have:=SV.bZ h _ _ hl
   rw [hl'] at this
   rw [hl,←Option.some.inj this]
 | taken r=>
   obtain⟨x,hx,rfl⟩:=hd
   obtain⟨x',hx',rfl⟩:=hd'
   have:=h _ _ hx
   rw [hx'] at this
   rw [Option.some.inj this]
   exact⟨x,hx,rfl⟩
theorem DsRel.down{e e':Env}(h:e.le e'): ∀ {l:List ADf} {m m':List Deferred},DsRel e l m→DsRel e' l m'→DsRel e l m'
 | [],[],[],_,_=>trivial
 | _ :: _,_ :: _,_ :: _,hd,hd'=>⟨hd.1.down h hd'.1,DsRel.down h hd.2 hd'.2⟩
 | [],_ :: _,_,hd,_=>hd.elim
 | [],[],_ :: _,_,hd=>hd.elim
 | _ :: _,[],_,hd,_=>hd.elim
 | _ :: _,_ :: _,[],_,hd=>hd.elim
theorem TRel.down{e e':Env}(h:e.le e'){nt:Nat}{T:Tr SV}{tr tr':Array Value}(hd:TRel e nt T tr)(hd':TRel e' nt T tr'):TRel e nt T tr':=
 ⟨hd'.1,fun t s hs=>let ⟨_,h0,_⟩:=hd.2 t s hs;let ⟨v,h1,h2⟩:=hd'.2 t s hs;⟨v,jn h h0 h1,h2⟩⟩
theorem ORel.down{e e':Env}(h:e.le e'){vo:VO}{x:Ent}{o o':Obj}(ho:ORel e vo x o)(ho':ORel e' vo x o'):ORel e vo x o':=by
 cases vo with
 | cells n t c=>
   obtain⟨_,cs0,_,_,_,_,h4⟩:=ho
   obtain⟨q0,cs,fz,q1,q2,q3,q4⟩:=ho'
   exact⟨q0,cs,fz,q1,q2,q3,fun i hi s hs=>let ⟨_,a,_⟩:=h4 i hi s hs;let ⟨v,b,g⟩:=q4 i hi s hs;⟨v,jn h a b,g⟩⟩
 | row ro ne sz t c=>
   obtain⟨_,cs0,_,_,_,_,_,_,_,_,h7⟩:=ho
   obtain⟨q0,cs,fz,tt,q1,q2,q3,q4,q5,q6,q7⟩:=ho'
   exact⟨q0,cs,fz,tt,q1,q2,q3,q4,q5,q6,fun i hi s hs=>let ⟨_,a,_⟩:=h7 i hi s hs;let ⟨v,b,g⟩:=q7 i hi s hs;⟨v,jn h a b,g⟩⟩
 | map l clock=>
   obtain⟨_,_,h2⟩:=ho
   obtain⟨es,q1,q2⟩:=ho'
   exact⟨es,q1,h2.down h q2⟩
 | iter m since seen stepped=>
   cases m with
   | none=>exact ho'
   | some m=>
     obtain⟨_,y,h1,_⟩:=ho
     obtain⟨q0,y',q1,q2⟩:=ho'
     have:=h _ _ h1
     rw [q1] at this
     cases Option.some.inj this
     exact⟨q0,y,h1,q2⟩
 | siter s pos=>exact ho'
 | loop st pend fn nt T params assign body dr=>
   obtain⟨_,y,h1,h2,_⟩:=ho
   obtain⟨tmps,y',q1,q2,q3⟩:=ho'
   have:=h _ _ h1
   rw [q1] at this
   cases Option.some.inj this
   exact⟨tmps,y,h1,h2.down h q2,q3⟩
 | dfd l=>
   cases l with
   | none=>exact ho'
   | some l=>
     obtain⟨_,_,h2⟩:=ho
     obtain⟨ds,q1,q2⟩:=ho'
     exact⟨ds,q1,h2.down h q2⟩
theorem Lies.down{K:Zone}{w w':World}{e e':Env}(h:e.le e'){vo:VO}{x:Ent}(hl:Lies K w e vo x)(hl':Lies K w' e' vo x):Lies K w' e vo x:=by
 rcases hl' with ⟨h0,o,h1,h2,h3⟩|h1
 ·rcases hl with ⟨_,o',_,_,g⟩|⟨g,_⟩
  ·exact .inl ⟨h0,o,h1,h2,g.down h h3⟩
  ·rw [h0] at g;cases g
 ·exact .inr h1
theorem St.down{K:Zone}{w0 w w':World}{e e':Env}{H H':aV}{nx nx':Nat}(hS:St K w0 e H nx w)(h:e.le e')(hS':St K w0 e' H' nx' w')(hH: ∀ id vo,H.at' id=some vo→H'.at' id=some vo):St K w0 e H nx w':=by
 refine⟨hS'.below,fun id vo hid=>?_,hS.inj,hS.fresh⟩
 obtain⟨x,hx,hl⟩:=hS.rel id vo hid
 obtain⟨x',hx',hl'⟩:=hS'.rel id vo (hH id vo hid)
 have:=h _ _ hx
 rw [hx'] at this
 cases Option.some.inj this
 exact⟨x,hx,hl.down h hl'⟩
def swp(n:Nat):Nat→Nat:=fun i=>if i=n then n+1 else if i=n+1 then n else i
theorem vn(n:Nat):swp n n=n+1:=by simp [swp]
theorem vk(n:Nat):swp n (n+1)=n:=by simp [swp]
theorem sB{n i:Nat}(h:i≠n)(h':i≠n+1):swp n i=i:=by simp [swp,h,h']
theorem sA(n i:Nat):swp n (swp n i)=i:=by
 by_cases h:i=n
 ·subst h;rw [vn,vk]
 ·by_cases h':i=n+1
  ·subst h';rw [vk,vn]
  ·rw [sB h h',sB h h']
theorem xn{K:Zone}{w0 w:World}{e0 e:Env}{H0:aV}{n:Nat}{a f:VO}(h0:St K w0 e0 H0 n w)(hle:e0.le e)(h:St K w0 e ((H0.set n f).set (n+1) a) (n+2) w)(ha: ∀ ρ,a.ren ρ=a)(hf: ∀ ρ,f.ren ρ=f) :
 e0.le (pull e (swp n))∧St K w0 (pull e (swp n)) ((H0.set n a).set (n+1) f) (n+2) w:=by
 have hn0:=h0.fresh n (zP _)
 have hn1:=h0.fresh (n+1) (by omega)
 have hlow: ∀ {id:Nat} {vo:VO},H0.at' id=some vo→id≠n∧id≠n+1:=fun {id vo} hid=>by
  obtain⟨x,hx,_⟩:=h0.rel id vo hid
  exact⟨fun e=>(by rw [e,hn0] at hx;cases hx),fun e=>(by rw [e,hn1] at hx;cases hx)⟩
 have hle':e0.le (pull e (swp n)):=fun i x hx=>by
  have h1:i≠n:=fun e=>by rw [e,hn0] at hx;cases hx
  have h2:i≠n+1:=fun e=>by rw [e,hn1] at hx;cases hx
  show e (swp n i)=some x
  rw [sB h1 h2]
  exact hle i x hx
 have back: ∀ {id:Nat} {vo:VO},((H0.set n a).set (n+1) f).at' id=some vo→((H0.set n f).set (n+1) a).at' (swp n id)=some vo∧(id=n∨id=n+1∨H0.at' id=some vo):=fun {id vo} hid=>by
  by_cases h1:id=n
  ·subst h1
   rw [Tr.aa _ _ (by omega),Tr.ae] at hid
   rw [vn,Tr.ae]
   exact⟨hid,.inl rfl⟩
  ·by_cases h2:id=n+1
   ·subst h2
    rw [Tr.ae] at hid
    rw [vk,Tr.aa _ _ (by omega),Tr.ae]
    exact⟨hid,.inr (.inl rfl)⟩
   ·rw [Tr.aa _ _ h2,Tr.aa _ _ h1] at hid
    rw [sB h1 h2,Tr.aa _ _ h2,Tr.aa _ _ h1]
    exact⟨hid,.inr (.inr hid)⟩
 refine⟨hle',h.below,fun id vo hid=>?_,fun i j vo vo' x x' hi hj hx hx' hne=>?_,fun i hi=>?_⟩
 ·obtain⟨g1,g2⟩:=back hid
  rcases g2 with rfl|rfl|g2
  ·obtain⟨x,hx,hl⟩:=h.rel _ _ g1
   have hv:vo=a:=by
    rw [Tr.aa _ _ (by omega),Tr.ae] at hid
    exact(Option.some.inj hid).symm
   subst hv
   exact⟨x,hx,iv.1 (by rw [ha];exact hl)⟩
  ·obtain⟨x,hx,hl⟩:=h.rel _ _ g1
   have hv:vo=f:=by
    rw [Tr.ae] at hid
    exact(Option.some.inj hid).symm
   subst hv
   exact⟨x,hx,iv.1 (by rw [hf];exact hl)⟩
  ·obtain⟨x,hx,hl⟩:=h0.rel id vo g2
   exact⟨x,hle' _ _ hx,hl.mono hle'⟩
 ·exact h.inj _ _ _ _ x x' (back hi).1 (back hj).1 hx hx' (fun e=>hne (by rw [← sA n i,e,sA]))
 ·show e (swp n i)=none
  rw [sB (by omega) (by omega)]
  exact h.fresh i hi
namespace Np
section
variable {P:Program} {K:Zone} {w0 w:World} {e:Env} {H:aV} {nx:Nat} {rn:Rn}
structure RegOK (P:Program) (rn:Rn) (nt:Nat) (ops:Array Oper) (T0:Tr SV) (R:List Rec) (Q:List (aV×Nat)) (C:List Nat):Prop where
 len:R.length=ops.size
 recs: ∀ (k:Nat) r,R[k]? =some r→RecOK P rn ops T0 R Q C k r
 stages:Q.length=C.length+1
 chainR:C=(R.filter (·.chain)).map (·.i)
 floats: ∀ r∈R,r.chain=false→r.wanted=true→(∀ c,r.o.op ≠ .defer c)∧ ∀ s,eX ((bQ [] ops.toList).getD r.i 0) C≤s→s≤cV (bQ [] ops.toList) r.i C→ ∀ H n,Q[s]? =some (H,n)→ReadDoes P r.T H r.o r.val
 small: ∀ (i:Nat) o d,ops.toList[i]? =some o→o.dst=some d→d<nt
 dist: ∀ (i j:Nat) oi oj d,ops.toList[i]? =some oi→ops.toList[j]? =some oj→oi.dst=some d→oj.dst=some d→i=j
 edges: ∀ (i:Nat) o,ops.toList[i]? =some o→eJ i o.after.toList=true
 opnds: ∀ (i:Nat) o,ops.toList[i]? =some o→cL ops.toList (bQ [] ops.toList) i ((bQ [] ops.toList).getD i 0) (aO ops.toList o)=true
def rV(T0:Tr SV)(R:List Rec)(L:Nat→Prop)(t:Nat)(s:SV):Prop:=
 (∃ (k:Nat) (r:Rec),L k∧R[k]? =some r∧r.o.dst=some t∧r.val=s)∨((∀ (k:Nat) (r:Rec),L k→R[k]? =some r→r.o.dst≠some t)∧T0.at' t=some s)
structure PInv (K:Zone) (w0:World) (nt:Nat) (ops:Array Oper) (T0:Tr SV) (R:List Rec) (Q:List (aV×Nat)) (C:List Nat) (L:Nat→Prop) (s:Nat) (e:Env) (w:World) (tr:Array Value):Prop where
 st: ∃ H n,Q[s]? =some (H,n)∧St K w0 e H n w
 size:tr.size=nt
 good: ∀ t sv,rV T0 R L t sv→ ∃ v,sv.conc e=some v∧tr.getD t undef=v
 chain: ∀ (j c:Nat),C[j]? =some c→(L c↔j<s)
 closed: ∀ (i:Nat) o,L i→ops.toList[i]? =some o→ ∀ ed∈o.after.toList,Region.binds .any ed=true→L ed.on
variable {nt:Nat} {ops:Array Oper} {T0:Tr SV} {R:List Rec} {Q:List (aV×Nat)} {C:List Nat}
theorem PInv.need(hR:RegOK P rn nt ops T0 R Q C){L:Nat→Prop}{s:Nat}{tr:Array Value}(h:PInv K w0 nt ops T0 R Q C L s e w tr){i:Nat}{o:Oper}(ho:ops[i]? =some o)(hni: ¬ L i)
 (hed: ∀ ed∈o.after.toList,Region.binds .any ed=true→L ed.on) {r:Rec} (hr:R[i]? =some r):TRel e nt r.T tr∧Region.wanted o (yielded ops tr)=r.wanted:=by
 have hoL:ops.toList[i]? =some o:=by simpa using ho
 have hilt:i<ops.size:=(zG.1 ho).1
 have hrec:=hR.recs i r hr
 have hro:r.o=o:=by
  have:=hrec.op
  rw [ho] at this
  simpa using this.symm
 have hanc:=bG L hR.edges (fun i o hi ho'=>h.closed i o hi ho') i o hoL hed
 have hT:TRel e nt r.T tr:=by
  refine⟨h.size,fun t sv ht=>?_⟩
  obtain⟨hneed,hsrc⟩:=hrec.slots t sv ht
  rw [hro] at hneed
  have hwr: ∀ (k':Nat) o',ops.toList[k']? =some o'→o'.dst=some t→(L k'∧k'<i)∨(¬ L k'∧i<k'):=fun k' o' ho' hd'=>by
   rcases db hR.dist (hR.opnds i o hoL) t hneed k' o' ho' hd' with hb|hb
   ·exact .inl (hanc k' hb)
   ·refine .inr ⟨fun hL=>?_,?_⟩
    ·exact hni (bG L hR.edges (fun i o hi ho'=>h.closed i o hi ho') k' o' ho' (h.closed k' o' hL ho') i hb).1
    ·exact(bG (fun _=>True) hR.edges (fun _ _ _ _ _ _ _=>trivial) k' o' ho' (fun _ _ _=>trivial) i hb).2
  refine h.good t sv ?_
  rcases hsrc with ⟨k',r',h1,h2,h3,h4⟩|⟨h1,h2⟩
  ·have hop:=(hR.recs k' r' h2).op
   rcases hwr k' r'.o (by simpa using hop) h3 with g|g
   ·exact .inl ⟨k',r',g.1,h2,h3,h4⟩
   ·omega
  ·refine .inr ⟨fun k' r' hLk hr' hd'=>?_,h2⟩
   have hop:=(hR.recs k' r' hr').op
   rcases hwr k' r'.o (by simpa using hop) hd' with g|g
   ·exact h1 k' r' g.2 hr' hd'
   ·exact g.1 hLk
 have hwant:=dL hrec.want hT
 rw [hro] at hwant
 exact⟨hT,hwant⟩
theorem PInv.step(hrn:gf P K w0 rn)(hR:RegOK P rn nt ops T0 R Q C){L:Nat→Prop}{s:Nat}{tr:Array Value}(h:PInv K w0 nt ops T0 R Q C L s e w tr){i:Nat}{o:Oper}(ho:ops[i]? =some o)(hni: ¬ L i)
 (hed: ∀ ed∈o.after.toList,Region.binds .any ed=true→L ed.on) (fn:FuncId) (rest:List Nat) (k:List Item) (ds:List Deferred) (kd:CallKind) (rof:Option Nat) (cs:List Frame) (hord: ∀ (j c:Nat),C[j+1]? =some i→C[j]? =some c→L c) :
 ∃ e' w' tr' s',e.le e'∧PInv K w0 nt ops T0 R Q C (fun j=>L j∨j=i) s' e' w' tr' ∧
  Steps P (lone (fr0 fn tr (.inRegion ops (i :: rest) :: k) ds kd rof) cs w) (lone (fr0 fn tr' (.inRegion ops rest :: k) ds kd rof) cs w')∧(∃ u,tr'=gi tr o.dst u)∧((∀ r,R[i]? =some r→r.chain=false)→e'=e∧w'=w∧s'=s):=by
 have hoL:ops.toList[i]? =some o:=by simpa using ho
 have hilt:i<ops.size:=(zG.1 ho).1
 obtain⟨r,hr⟩: ∃ r,R[i]? =some r:=⟨_,zz (by rw [hR.len];exact hilt)⟩
 have hrec:=hR.recs i r hr
 have hro:r.o=o:=by
  have:=hrec.op
  rw [ho] at this
  simpa using this.symm
 have hanc:=bG L hR.edges (fun i o hi ho'=>h.closed i o hi ho') i o hoL hed
 have hT:TRel e nt r.T tr:=by
  refine⟨h.size,fun t sv ht=>?_⟩
  obtain⟨hneed,hsrc⟩:=hrec.slots t sv ht
  rw [hro] at hneed
  have hwr: ∀ (k':Nat) o',ops.toList[k']? =some o'→o'.dst=some t→(L k'∧k'<i)∨(¬ L k'∧i<k'):=fun k' o' ho' hd'=>by
   rcases db hR.dist (hR.opnds i o hoL) t hneed k' o' ho' hd' with hb|hb
   ·exact .inl (hanc k' hb)
   ·refine .inr ⟨fun hL=>?_,?_⟩
    ·exact hni (bG L hR.edges (fun i o hi ho'=>h.closed i o hi ho') k' o' ho' (h.closed k' o' hL ho') i hb).1
    ·exact(bG (fun _=>True) hR.edges (fun _ _ _ _ _ _ _=>trivial) k' o' ho' (fun _ _ _=>trivial) i hb).2
  refine h.good t sv ?_
  rcases hsrc with ⟨k',r',h1,h2,h3,h4⟩|⟨h1,h2⟩
  ·have hop:=(hR.recs k' r' h2).op
   rcases hwr k' r'.o (by simpa using hop) h3 with g|g
   ·exact .inl ⟨k',r',g.1,h2,h3,h4⟩
   ·omega
  ·refine .inr ⟨fun k' r' hLk hr' hd'=>?_,h2⟩
   have hop:=(hR.recs k' r' hr').op
   rcases hwr k' r'.o (by simpa using hop) hd' with g|g
   ·exact h1 k' r' g.2 hr' hd'
   ·exact g.1 hLk
 have hwant:=dL hrec.want hT
 rw [hro] at hwant
 have build: ∀ (e':Env) (w':World) (u:Value) (s':Nat),e.le e'→(∃ H n,Q[s']? =some (H,n)∧St K w0 e' H n w')→r.val.conc e'=some u→(∀ (j c:Nat),C[j]? =some c→((L c∨c=i)↔j<s')) →
  PInv K w0 nt ops T0 R Q C (fun j=>L j∨j=i) s' e' w' (gi tr o.dst u):=by
  intro e' w' u s' hle hst hu hch
  refine⟨hst,?_,fun t sv hg=>?_,hch,fun j oj hj hoj ed hed' hb=>?_⟩
  ·unfold gi
   cases o.dst with
   | none=>exact h.size
   | some d=>simpa using h.size
  ·have old:(∀ d,o.dst=some d→d≠t)→ ∃ v,sv.conc e'=some v∧(gi tr o.dst u).getD t undef=v:=by
    intro hne
    have hg':rV T0 R L t sv:=by
     rcases hg with ⟨k',r',hk',h2,h3,h4⟩|hg
     ·refine .inl ⟨k',r',?_,h2,h3,h4⟩
      rcases hk' with hk'|rfl
      ·exact hk'
      ·exfalso
       rw [hr] at h2
       simp only [zw] at h2
       subst h2
       rw [hro] at h3
       exact hne t h3 rfl
     ·exact .inr ⟨fun k' r' hLk=>hg.1 k' r' (.inl hLk),hg.2⟩
    obtain⟨v,hv,hgv⟩:=h.good t sv hg'
    refine⟨v,SV.bW hle _ _ hv,?_⟩
    cases hd:o.dst with
    | none=>exact hgv
    | some d=>
      have:=hne d hd
      simp only [gi]
      rw [zC,Array.getElem?_setIfInBounds_ne this,←zC]
      exact hgv
   cases hd:o.dst with
   | none=>rw [hd] at old;exact old (fun d hd'=>by cases hd')
   | some d=>
     by_cases hdt:d=t
     ·subst hdt
      have hval:sv=r.val:=by
       rcases hg with ⟨k',r',hk',h2,h3,h4⟩|⟨h1,_⟩
       ·have hop:=(hR.recs k' r' h2).op
        have:=hR.dist k' i r'.o o d (by simpa using hop) hoL h3 hd
        subst this
        rw [hr] at h2
        simp only [zw] at h2
        subst h2
        exact h4.symm
       ·exact absurd (by rw [hro];exact hd) (h1 i r (.inr rfl) hr)
      subst hval
      refine⟨u,hu,?_⟩
      have hlt:=hR.small i o d hoL hd
      simp only [gi]
      rw [zC,Array.getElem?_setIfInBounds_self_of_lt (by rw [h.size];exact hlt)]
      rfl
     ·rw [hd] at old
      exact old (fun d' hd'=>by simp only [zw] at hd';subst hd';exact hdt)
  ·rcases hj with hj|rfl
   ·exact .inl (h.closed j oj hj hoj ed hed' hb)
   ·rw [hoL] at hoj
    simp only [zw] at hoj
    subst hoj
    exact .inl (hed ed hed' hb)
 have notChain:r.chain=false→ ∀ (j c:Nat),C[j]? =some c→((L c∨c=i)↔j<s):=by
  intro hc j c hj
  have hne:c≠i:=by
   rintro rfl
   rw [hR.chainR] at hj
   rw [List.getElem?_map,zF] at hj
   obtain⟨r',hr',hi'⟩:=hj
   have hmem:=zJ hr'
   rw [List.mem_filter] at hmem
   obtain⟨k',hk'⟩:=List.mem_iff_getElem?.1 hmem.1
   have:=(hR.recs k' r' hk').idx
   rw [hi'] at this
   subst this
   rw [hr] at hk'
   simp only [zw] at hk'
   subst hk'
   rw [hc] at hmem
   simp at hmem
  rw [← h.chain j c hj]
  simp [hne]
 obtain⟨H,n,hQ,hS⟩:=h.st
 cases hwd:r.wanted with
 | false=>
   rw [hwd] at hwant
   obtain⟨h1,h2⟩:=hrec.skip hwd
   exact⟨e,w,_,s,Env.le_refl e,build e w undef s (Env.le_refl e) ⟨H,n,hQ,hS⟩ (by rw [h1];rfl) (notChain h2),.one (eT ho hwant),⟨_,rfl⟩,fun _=>⟨rfl,rfl,rfl⟩⟩
 | true=>
   rw [hwd] at hwant
   cases hc:r.chain with
   | false=>
     have hri:=hrec.idx
     have hlo:eX ((bQ [] ops.toList).getD r.i 0) C≤s:=by
      rcases Nat.lt_or_ge s (eX ((bQ [] ops.toList).getD r.i 0) C)with hlt|hge
      ·exfalso
       obtain⟨c,h1,h2⟩:=jh s hlt
       rw [hri] at h2
       have:=(h.chain s c h1).1 (hanc c h2).1
       omega
      ·exact hge
     have hhi:s≤cV (bQ [] ops.toList) r.i C:=by
      rcases Nat.lt_or_ge (cV (bQ [] ops.toList) r.i C) s with hlt|hge
      ·exfalso
       have hsC:s≤C.length:=by
        have:=(zA.1 hQ).1
        have:=hR.stages
        omega
       obtain⟨c,h1,h2⟩:=gP (ancs:=bQ [] ops.toList) (i:=r.i) (l:=C) (by omega)
       have hLc:=(h.chain _ c h1).2 hlt
       have hcl:c<ops.size:=by
        have hcm:=zJ h1
        rw [hR.chainR,List.mem_map] at hcm
        obtain⟨r',hr',rfl⟩:=hcm
        rw [List.mem_filter] at hr'
        obtain⟨k',hk'⟩:=List.mem_iff_getElem?.1 hr'.1
        have hx:=hR.recs k' r' hk'
        rw [hx.idx]
        exact(zG.1 hx.op).1
       have hoc:ops.toList[c]? =some (ops.toList[c]'(by simpa using hcl)):=zz (by simpa using hcl)
       have:=bG L hR.edges (fun i o hi ho'=>h.closed i o hi ho') c _ hoc (h.closed c _ hLc hoc) r.i h2
       rw [hri] at this
       exact hni this.1
      ·exact hge
     have hf:=(hR.floats r (zJ hr) hc hwd).2 s hlo hhi H n hQ
     have hnd:=(hR.floats r (zJ hr) hc hwd).1
     rw [hro] at hf hnd
     obtain⟨u,hu,hst⟩:=gm (P:=P) (fn:=fn) (rest:=rest) (k:=k) (ds:=ds) (kd:=kd) (rof:=rof) (cs:=cs) hS hT ho hwant hnd hf
     exact⟨e,w,_,s,Env.le_refl e,build e w u s (Env.le_refl e) ⟨H,n,hQ,hS⟩ hu (notChain hc),hst,⟨_,rfl⟩,fun _=>⟨rfl,rfl,rfl⟩⟩
   | true=>
     obtain⟨_,hC,H1,n1,H2,n2,hQ1,hQ2,heff⟩:=hrec.eff hc
     have hss:r.stg=s:=by
      have h1: ¬ r.stg<s:=fun hlt=>hni ((h.chain r.stg i hC).2 hlt)
      rcases Nat.eq_zero_or_pos r.stg with h0|hp
      ·omega
      ·have hlt:r.stg-1<C.length:=by
        have:=(zA.1 hC).1
        omega
       have hprev:C[r.stg-1]? =some C[r.stg-1]:=zz hlt
       have:=(h.chain _ _ hprev).1 (hord (r.stg-1) C[r.stg-1] (by rw [show r.stg-1+1=r.stg by omega];exact hC) hprev)
       omega
     rw [hss] at hQ1 hQ2 hC
     rw [hQ] at hQ1
     simp only [zw,zE] at hQ1
     obtain⟨rfl,rfl⟩:=hQ1
     rw [hro] at heff
     obtain⟨e',w',u,hle,hS',hu,hst⟩:=fZ (P:=P) hrn (fn:=fn) (rest:=rest) (k:=k) (ds:=ds) (kd:=kd) (rof:=rof) (cs:=cs) hS hT ho hwant heff
     refine⟨e',w',_,s+1,hle,build e' w' u (s+1) hle ⟨H2,n2,hQ2,hS'⟩ hu (fun j c hj=>?_),hst,⟨_,rfl⟩,fun hx=>by have:=hx r hr;rw [hc] at this;cases this⟩
     constructor
     ·rintro(hL|rfl)
      ·have:=(h.chain j c hj).1 hL;omega
      ·rcases Nat.lt_or_ge j (s+1)with hlt|hge
       ·exact hlt
       ·exfalso
        have hi1:=chain_inj hR hC hj
        omega
     ·intro hlt
      rcases Nat.lt_or_ge j s with hj'|hj'
      ·exact .inl ((h.chain j c hj).2 hj')
      ·have:j=s:=by omega
       subst this
       rw [hC] at hj
       simp only [zw] at hj
       exact .inr hj.symm
where
 chain_inj {P:Program} {rn:Rn} {nt:Nat} {ops:Array Oper} {T0:Tr SV} {R:List Rec} {Q:List (aV×Nat)} {C:List Nat} (hR:RegOK P rn nt ops T0 R Q C) {s j c:Nat} (h1:C[s]? =some c) (h2:C[j]? =some c):s=j:=by
  have hnd:C.Nodup:=by
   rw [hR.chainR]
   have hall:((R.filter (·.chain)).map (·.i)).Sublist (R.map (·.i)):=(List.filter_sublist).map _
   refine hall.nodup ?_
   have:R.map (·.i)=List.range R.length:=by
    apply List.ext_getElem?
    intro k
    rw [List.getElem?_map]
    cases hk:R[k]? with
    | none=>
      rw [List.getElem?_eq_none_iff] at hk
      simp [hk]
    | some r=>
      have hlt:=(zA.1 hk).1
      rw [zV,(hR.recs k r hk).idx,List.getElem?_range hlt]
   rw [this]
   exact List.nodup_range
  have a:=zA.1 h1
  have b:=zA.1 h2
  obtain⟨a1,a2⟩:=a
  obtain⟨b1,b2⟩:=b
  exact(List.getElem_inj hnd).1 (a2.trans b2.symm)
end
section
variable {P:Program} {K:Zone} {w0:World} {rn:Rn} {nt:Nat} {ops:Array Oper} {T0:Tr SV} {R:List Rec} {Q:List (aV×Nat)} {C:List Nat} {a f:Nat}
def freeOf(ancs:List Nat)(a f:Nat):List Oper→Nat→Bool
 | [],_=>true
 | o :: l,i=>(o.after.toList.all fun ed=> !(Region.binds .any ed && Nat.beq ed.on f) || (ancs.getD i 0).testBit a) && freeOf ancs a f l (i+1)
theorem ol{ancs:List Nat}: ∀ {l:List Oper} {i0:Nat},freeOf ancs a f l i0=true→ ∀ (i:Nat) o,l[i]? =some o→ ∀ ed∈o.after.toList,Region.binds .any ed=true→ed.on=f→(ancs.getD (i0+i) 0).testBit a=true
 | [],_,_,i,o,h,_,_,_,_=>by simp at h
 | o0 :: l,i0,h,i,o,ho,ed,hed,hb,hf=>by
   simp only [freeOf,zO] at h
   cases i with
   | zero=>
     simp only [zN,zw] at ho
     subst ho
     have:=List.all_eq_true.1 h.1 ed hed
     rw [hb,hf] at this
     simpa using this
   | succ i=>
     have:=ol h.2 i o (by simpa using ho) ed hed hb hf
     rw [show i0+(i+1)=i0+1+i by omega]
     exact this
structure Swap (P:Program) (rn:Rn) (T0:Tr SV) (R:List Rec) (Q:List (aV×Nat)) (C:List Nat) (a f:Nat) (ra rf:Rec) (H0:aV) (n0 la lf:Nat) (va vf:VO) (df:Nat):Prop where
 iA:R[a]? =some ra
 iF:R[f]? =some rf
 c0:C[0]? =some a
 c1:C[1]? =some f
 q0:Q[0]? =some (H0,n0)
 q2:Q[2]? =some ((H0.set n0 va).set (n0+1) vf,n0+2)
 xa:ra.val = .slu n0 0 la
 xf:rf.val = .slu (n0+1) 0 lf
 oF:rf.o.dst=some df
 t0:T0.at' df=none
 na: ∀ ρ,va.ren ρ=va
 nf: ∀ ρ,vf.ren ρ=vf
 ef:eL P rn rf.T H0 n0 rf.o (.slu n0 0 lf,H0.set n0 vf,n0+1)
 ea:eL P rn ra.T (H0.set n0 vf) (n0+1) ra.o (.slu (n0+1) 0 la,(H0.set n0 vf).set (n0+1) va,n0+2)
variable {ra rf:Rec} {H0:aV} {n0 la lf:Nat} {va vf:VO} {df:Nat}
structure Dev (K:Zone) (w0:World) (nt:Nat) (ops:Array Oper) (T0:Tr SV) (R:List Rec) (Q:List (aV×Nat)) (C:List Nat) (a f:Nat) (H0:aV) (n0 lf:Nat) (vf:VO) (df:Nat) (L:Nat→Prop) (e:Env) (w:World) (tr:Array Value):Prop where
 inv:PInv K w0 nt ops T0 R Q C (fun j=>L j∧j≠f) 0 e w tr
 hf:L f
 ha: ¬ L a
 closed: ∀ (i:Nat) o,L i→ops.toList[i]? =some o→ ∀ ed∈o.after.toList,Region.binds .any ed=true→L ed.on
 ex: ∃ eB u,e.le eB∧St K w0 eB (H0.set n0 vf) (n0+1) w∧(SV.slu n0 0 lf).conc eB=some u∧tr.getD df undef=u
theorem hY{tr:Array Value}{d:Option Tmp}{u:Value}{t:Nat}(h:d≠some t):(gi tr d u).getD t undef=tr.getD t undef:=by
 cases d with
 | none=>rfl
 | some d=>
   have:d≠t:=fun e=>h (by rw [e])
   simp only [gi]
   rw [zC,Array.getElem?_setIfInBounds_ne this,←zC]
theorem nB{tr:Array Value}{t:Nat}{u:Value}(h:t<tr.size):(gi tr (some t) u).getD t undef=u:=by
 simp only [gi]
 rw [zC,Array.getElem?_setIfInBounds_self_of_lt h]
 rfl
theorem nA{tr:Array Value}{d:Option Tmp}{u:Value}:(gi tr d u).size=tr.size:=by
 cases d with
 | none=>rfl
 | some d=>simp [gi]
theorem uy(hrn:gf P K w0 rn)(hR:RegOK P rn nt ops T0 R Q C)(hs:Swap P rn T0 R Q C a f ra rf H0 n0 la lf va vf df){L:Nat→Prop}{e:Env}{w:World}{tr:Array Value}(h:PInv K w0 nt ops T0 R Q C L 0 e w tr){o:Oper}(ho:ops[f]? =some o)(hni: ¬ L f)
 (hed: ∀ ed∈o.after.toList,Region.binds .any ed=true→L ed.on) (fn:FuncId) (rest:List Nat) (k:List Item) (ds:List Deferred) (kd:CallKind) (rof:Option Nat) (cs:List Frame) :
 ∃ w' tr',Dev K w0 nt ops T0 R Q C a f H0 n0 lf vf df (fun j=>L j∨j=f) e w' tr' ∧
  Steps P (lone (fr0 fn tr (.inRegion ops (f :: rest) :: k) ds kd rof) cs w) (lone (fr0 fn tr' (.inRegion ops rest :: k) ds kd rof) cs w'):=by
 have hoL:ops.toList[f]? =some o:=by simpa using ho
 obtain⟨hT,hw⟩:=h.need hR ho hni hed hs.iF
 have hrec:=hR.recs f rf hs.iF
 have hro:rf.o=o:=by
  have:=hrec.op
  rw [ho] at this
  simpa using this.symm
 obtain⟨hwd,_⟩:rf.wanted=true∧True:=by
  refine⟨?_,trivial⟩
  cases hc:rf.chain with
  | true=>exact(hrec.eff hc).1
  | false=>
    exfalso
    have:=zJ hs.c1
    rw [hR.chainR,List.mem_map] at this
    obtain⟨r',hr',hi'⟩:=this
    rw [List.mem_filter] at hr'
    obtain⟨k',hk'⟩:=List.mem_iff_getElem?.1 hr'.1
    have:=(hR.recs k' r' hk').idx
    rw [hi'] at this
    subst this
    rw [hs.iF] at hk'
    cases hk'
    rw [hc] at hr'
    simp at hr'
 rw [hwd] at hw
 obtain⟨H,n,hQ,hS⟩:=h.st
 rw [hs.q0] at hQ
 simp only [zw,zE] at hQ
 obtain⟨rfl,rfl⟩:=hQ
 have hef:=hs.ef
 rw [hro] at hef
 obtain⟨eB,w',u,hle,hSB,hu,hst⟩:=fZ (P:=P) hrn (fn:=fn) (rest:=rest) (k:=k) (ds:=ds) (kd:=kd) (rof:=rof) (cs:=cs) hS hT ho hw hef
 have hn0:=hS.fresh n0 (zP _)
 have hS':St K w0 e H0 n0 w':=hS.down hle hSB fun id vo hid=>by
  obtain⟨x,hx,_⟩:=hS.rel id vo hid
  have:id≠n0:=fun e'=>by rw [e',hn0] at hx;cases hx
  rw [Tr.aa _ _ this]
  exact hid
 have hdf:o.dst=some df:=hro ▸ hs.oF
 have hlt:=hR.small f o df hoL hdf
 rw [hdf] at hst
 have hfe: ∀ j,((L j∨j=f)∧j≠f)↔L j:=fun j=>⟨fun h=>h.1.resolve_right h.2,fun h=>⟨.inl h,fun e'=>hni (e' ▸ h)⟩⟩
 refine⟨w',_,⟨⟨⟨H0,n0,hs.q0,hS'⟩,by rw [nA];exact h.size,fun t sv hg=>?_,fun j c hj=>(hfe c).trans (h.chain j c hj),fun i oi hi hoi ed he hb=>(hfe _).2 (h.closed i oi ((hfe i).1 hi) hoi ed he hb)⟩,.inr rfl,fun hc=>?_,fun i oi hi hoi ed he hb=>?_,⟨eB,u,hle,hSB,hu,nB (by rw [h.size];exact hlt)⟩⟩,hst⟩
 ·have hg':rV T0 R L t sv:=by
   rcases hg with ⟨k',r',hk',g⟩|⟨g1,g2⟩
   ·exact .inl ⟨k',r',(hfe k').1 hk',g⟩
   ·exact .inr ⟨fun k' r' hL=>g1 k' r' ((hfe k').2 hL),g2⟩
  obtain⟨v,hv,hgv⟩:=h.good t sv hg'
  refine⟨v,hv,?_⟩
  rw [hY]
  ·exact hgv
  ·intro e'
   cases e'
   rcases hg' with ⟨k',r',hk',h2,h3,_⟩|⟨_,g2⟩
   ·have hop:=(hR.recs k' r' h2).op
    have:=hR.dist k' f r'.o o df (by simpa using hop) hoL h3 hdf
    exact hni (this ▸ hk')
   ·rw [hs.t0] at g2;cases g2
 ·have hne:a≠f:=by
   intro e'
   have q1:=hs.c0
   have q2:=hs.c1
   rw [e'] at q1
   have:=PInv.step.chain_inj hR q1 q2
   omega
  have hLa:L a:=hc.resolve_right hne
  have:=(h.chain 0 a hs.c0).1 hLa
  omega
 ·rcases hi with hi|rfl
  ·exact .inl (h.closed i oi hi hoi ed he hb)
  ·rw [hoL] at hoi
   cases hoi
   exact .inl (hed ed he hb)
theorem ye(hrn:gf P K w0 rn)(hR:RegOK P rn nt ops T0 R Q C)(hs:Swap P rn T0 R Q C a f ra rf H0 n0 la lf va vf df){L:Nat→Prop}{e:Env}{w:World}{tr:Array Value}(h:Dev K w0 nt ops T0 R Q C a f H0 n0 lf vf df L e w tr){o:Oper}(ho:ops[a]? =some o)
 (hed: ∀ ed∈o.after.toList,Region.binds .any ed=true→L ed.on∧ed.on≠f) (fn:FuncId) (rest:List Nat) (k:List Item) (ds:List Deferred) (kd:CallKind) (rof:Option Nat) (cs:List Frame) :
 ∃ e' w' tr',e.le e'∧PInv K w0 nt ops T0 R Q C (fun j=>L j∨j=a) 2 e' w' tr' ∧
  Steps P (lone (fr0 fn tr (.inRegion ops (a :: rest) :: k) ds kd rof) cs w) (lone (fr0 fn tr' (.inRegion ops rest :: k) ds kd rof) cs w'):=by
 have hoL:ops.toList[a]? =some o:=by simpa using ho
 obtain⟨hT,hw⟩:=h.inv.need hR ho (fun hc=>h.ha hc.1) hed hs.iA
 have hrec:=hR.recs a ra hs.iA
 have hro:ra.o=o:=by
  have:=hrec.op
  rw [ho] at this
  simpa using this.symm
 have hwd:ra.wanted=true:=by
  cases hc:ra.chain with
  | true=>exact(hrec.eff hc).1
  | false=>
    exfalso
    have:=zJ hs.c0
    rw [hR.chainR,List.mem_map] at this
    obtain⟨r',hr',hi'⟩:=this
    rw [List.mem_filter] at hr'
    obtain⟨k',hk'⟩:=List.mem_iff_getElem?.1 hr'.1
    have:=(hR.recs k' r' hk').idx
    rw [hi'] at this
    subst this
    rw [hs.iA] at hk'
    cases hk'
    rw [hc] at hr'
    simp at hr'
 rw [hwd] at hw
 obtain⟨H,n,hQ,hS⟩:=h.inv.st
 rw [hs.q0] at hQ
 simp only [zw,zE] at hQ
 obtain⟨rfl,rfl⟩:=hQ
 obtain⟨eB,uf,hleB,hSB,huf,htf⟩:=h.ex
 have hea:=hs.ea
 rw [hro] at hea
 obtain⟨e2,w',u,hle2,hS2,hu,hst⟩:=fZ (P:=P) hrn (fn:=fn) (rest:=rest) (k:=k) (ds:=ds) (kd:=kd) (rof:=rof) (cs:=cs) hSB (hT.mono hleB) ho hw hea
 have hn0:=hS.fresh n0 (zP _)
 have hn1:=hS.fresh (n0+1) (by omega)
 have hS':St K w0 e H0 n0 w':=hS.down (Env.le_trans hleB hle2) hS2 fun id vo hid=>by
  obtain⟨x,hx,_⟩:=hS.rel id vo hid
  have h1:id≠n0:=fun e'=>by rw [e',hn0] at hx;cases hx
  have h2:id≠n0+1:=fun e'=>by rw [e',hn1] at hx;cases hx
  rw [Tr.aa _ _ h2,Tr.aa _ _ h1]
  exact hid
 obtain⟨hle',hSF⟩:=xn hS' (Env.le_trans hleB hle2) hS2 hs.na hs.nf
 have hne:a≠f:=fun e'=>h.ha (e' ▸ h.hf)
 refine⟨_,w',_,hle',⟨⟨_,_,hs.q2,hSF⟩,by rw [nA];exact h.inv.size,fun t sv hg=>?_,fun j c hj=>?_,fun i oi hi hoi ed he hb=>?_⟩,hst⟩
 ·
  have main: ∀ (hd:o.dst≠some t),t≠df→ ∃ v,sv.conc (pull e2 (swp n0))=some v∧(gi tr o.dst u).getD t undef=v:=fun hd htd=>by
   have hg':rV T0 R (fun j=>L j∧j≠f) t sv:=by
    rcases hg with ⟨k',r',hk',h2,h3,h4⟩|⟨g1,g2⟩
    ·have hop:=(hR.recs k' r' h2).op
     refine .inl ⟨k',r',⟨hk'.resolve_right fun e'=>?_,fun e'=>?_⟩,h2,h3,h4⟩
     ·subst e'
      rw [hs.iA] at h2
      cases h2
      exact hd (hro ▸ h3)
     ·subst e'
      rw [hs.iF] at h2
      cases h2
      rw [hs.oF] at h3
      exact htd (Option.some.inj h3).symm
    ·exact .inr ⟨fun k' r' hL=>g1 k' r' (.inl hL.1),g2⟩
   obtain⟨v,hv,hgv⟩:=h.inv.good t sv hg'
   exact⟨v,SV.bW hle' _ _ hv,by rw [hY hd];exact hgv⟩
  by_cases hd:o.dst=some t
  ·have hval:sv=ra.val:=by
    rcases hg with ⟨k',r',hk',h2,h3,h4⟩|⟨h1,_⟩
    ·have hop:=(hR.recs k' r' h2).op
     have:=hR.dist k' a r'.o o t (by simpa using hop) hoL h3 hd
     subst this
     rw [hs.iA] at h2
     cases h2
     exact h4.symm
    ·exact absurd (by rw [hro];exact hd) (h1 a ra (.inr rfl) hs.iA)
   rw [hval,hs.xa]
   refine⟨u,?_,?_⟩
   ·rw [← dn]
    show(SV.slu (swp n0 n0) 0 la).conc e2=some u
    rw [vn]
    exact hu
   ·rw [hd]
    exact nB (by rw [h.inv.size];exact hR.small a o t hoL hd)
  ·by_cases htd:t=df
   ·subst htd
    have hof:=(hR.recs f rf hs.iF).op
    have hval:sv=rf.val:=by
     rcases hg with ⟨k',r',hk',h2,h3,h4⟩|⟨h1,_⟩
     ·have hop:=(hR.recs k' r' h2).op
      have:=hR.dist k' f r'.o rf.o t (by simpa using hop) (by simpa using hof) h3 hs.oF
      subst this
      rw [hs.iF] at h2
      cases h2
      exact h4.symm
     ·exact absurd hs.oF (h1 f rf (.inl h.hf) hs.iF)
    rw [hval,hs.xf]
    refine⟨uf,?_,by rw [hY hd];exact htf⟩
    rw [← dn]
    show(SV.slu (swp n0 (n0+1)) 0 lf).conc e2=some uf
    rw [vk]
    exact SV.bW hle2 _ _ huf
   ·exact main hd htd
 ·constructor
  ·rintro(hL|rfl)
   ·by_cases e':c=f
    ·subst e'
     have:=PInv.step.chain_inj hR hj hs.c1
     omega
    ·have:=(h.inv.chain j c hj).1 ⟨hL,e'⟩
     omega
   ·have:=PInv.step.chain_inj hR hj hs.c0
    omega
  ·intro hlt
   have:j=0∨j=1:=by omega
   rcases this with rfl|rfl
   ·rw [hs.c0] at hj
    exact .inr (Option.some.inj hj).symm
   ·rw [hs.c1] at hj
    exact .inl (Option.some.inj hj ▸ h.hf)
 ·rcases hi with hi|rfl
  ·exact .inl (h.closed i oi hi hoi ed he hb)
  ·rw [hoL] at hoi
   cases hoi
   exact .inl (hed ed he hb).1
theorem ia(hrn:gf P K w0 rn)(hR:RegOK P rn nt ops T0 R Q C)(hs:Swap P rn T0 R Q C a f ra rf H0 n0 la lf va vf df)(hch: ∀ (j c d:Nat),C[j]? =some c→C[j+1]? =some d→d≠f→((bQ [] ops.toList).getD d 0).testBit c=true)
 (hfr:freeOf (bQ [] ops.toList) a f ops.toList 0=true) (fn:FuncId) (k:List Item) (ds:List Deferred) (kd:CallKind) (rof:Option Nat) (cs:List Frame): ∀ (fuel t:Nat) (listed:Array Bool) (s:Nat) (e:Env) (w:World) (tr:Array Value),
 listed.size=ops.size→b8 listed≤fuel→(PInv K w0 nt ops T0 R Q C (bg listed) s e w tr∨Dev K w0 nt ops T0 R Q C a f H0 n0 lf vf df (bg listed) e w tr) →
 ∃ e' w' tr' s' listed',e.le e'∧listed'.size=ops.size∧(∀ j,j<ops.size→bg listed' j)∧PInv K w0 nt ops T0 R Q C (bg listed') s' e' w' tr' ∧
  Steps P (lone (fr0 fn tr (.inRegion ops (Region.linearise.go .any ops fuel t listed []) :: k) ds kd rof) cs w) (lone (fr0 fn tr' (.inRegion ops [] :: k) ds kd rof) cs w'):=by
 have haS:a<ops.size:=(zG.1 (hR.recs a ra hs.iA).op).1
 have hne:a≠f:=by
  intro e'
  have q1:=hs.c0
  have q2:=hs.c1
  rw [e'] at q1
  have:=PInv.step.chain_inj hR q1 q2
  omega
 have allOf: ∀ (listed:Array Bool),listed.size=ops.size→(∀ j,j∉Region.ready .any ops listed)→ ∀ j,j<ops.size→bg listed j:=by
  intro listed hsz hno j hj
  apply Classical.byContradiction
  intro hn
  obtain⟨i,hi⟩:=hM hsz hR.edges hj hn
  exact hno i hi
 have fin: ∀ {listed:Array Bool} {s:Nat} {e:Env} {w:World} {tr:Array Value},(∀ j,j<ops.size→bg listed j)→(PInv K w0 nt ops T0 R Q C (bg listed) s e w tr∨Dev K w0 nt ops T0 R Q C a f H0 n0 lf vf df (bg listed) e w tr)→PInv K w0 nt ops T0 R Q C (bg listed) s e w tr:=fun hall hI=>by
  rcases hI with hI|hI
  ·exact hI
  ·exact absurd (hall a haS) hI.ha
 intro fuel
 induction fuel with
 | zero=>
   intro t listed s e w tr hsz hun hI
   have hall: ∀ j,j<ops.size→bg listed j:=fun j hj=>by
    unfold bg
    have hlt:j<listed.size:=by omega
    rw [zI hlt]
    cases hb:listed[j] with
    | true=>rfl
    | false=>
      exfalso
      have:0<listed.toList.count false:=List.count_pos_iff.2 (by rw [← hb];simp)
      unfold b8 at hun
      omega
   exact⟨e,w,tr,s,listed,Env.le_refl e,hsz,hall,fin hall hI,by simp only [Region.linearise.go,List.reverse_nil];exact .refl P _⟩
 | succ fuel ih=>
   intro t listed s e w tr hsz hun hI
   simp only [Region.linearise.go]
   change ∃ e' w' tr' s' listed',_∧_∧_∧_∧Steps P (lone (fr0 fn tr (.inRegion ops (match (Region.ready .any ops listed)[t % (Region.ready .any ops listed).length]? with
    | some i=>Region.linearise.go .any ops fuel (t / (Region.ready .any ops listed).length) (listed.setIfInBounds i true) [i]
    | none=> [].reverse) :: k) ds kd rof) cs w) _
   cases hpick:(Region.ready .any ops listed)[t % (Region.ready .any ops listed).length]? with
   | none=>
     have hnil:Region.ready .any ops listed= []:=by
      cases hx:Region.ready .any ops listed with
      | nil=>rfl
      | cons x xs=>
        rw [hx] at hpick
        have hlt:t % (x :: xs).length<(x :: xs).length:=Nat.mod_lt _ (by simp)
        rw [zz hlt] at hpick
        cases hpick
     have hall:=allOf listed hsz (by rw [hnil];simp)
     exact⟨e,w,tr,s,listed,Env.le_refl e,hsz,hall,fin hall hI,.refl P _⟩
   | some i=>
     simp only
     have hmem:=zJ hpick
     obtain⟨o,ho,hni,hed⟩:=fS hsz hmem
     rw [linearise_go_acc,List.reverse_singleton,List.singleton_append]
     have hoL:ops.toList[i]? =some o:=by simpa using ho
     have hLeq: ∀ j,bg (listed.setIfInBounds i true) j↔(bg listed j∨j=i):=by
      intro j
      unfold bg
      by_cases hji:j=i
      ·subst hji
       rw [Array.getElem?_setIfInBounds_self_of_lt (by have:=(zG.1 ho).1;omega)]
       simp
      ·rw [Array.getElem?_setIfInBounds_ne (Ne.symm hji)]
       simp [hji]
     have hL2:bg (listed.setIfInBounds i true)=fun j=>bg listed j∨j=i:=funext fun j=>propext (hLeq j)
     have one: ∃ e1 w1 tr1 s1,e.le e1∧(PInv K w0 nt ops T0 R Q C (fun j=>bg listed j∨j=i) s1 e1 w1 tr1∨Dev K w0 nt ops T0 R Q C a f H0 n0 lf vf df (fun j=>bg listed j∨j=i) e1 w1 tr1) ∧
      Steps P (lone (fr0 fn tr (.inRegion ops (i :: Region.linearise.go .any ops fuel (t / (Region.ready .any ops listed).length) (listed.setIfInBounds i true) []) :: k) ds kd rof) cs w)
       (lone (fr0 fn tr1 (.inRegion ops (Region.linearise.go .any ops fuel (t / (Region.ready .any ops listed).length) (listed.setIfInBounds i true) []) :: k) ds kd rof) cs w1):=by
      rcases hI with hI|hI
      ·have hanc:=bG (bg listed) hR.edges (fun i o hi ho'=>hI.closed i o hi ho') i o hoL hed
       by_cases hif:i=f∧s=0
       ·obtain⟨rfl,rfl⟩:=hif
        obtain⟨w1,tr1,hD,hst⟩:=uy hrn hR hs hI ho hni hed fn _ k ds kd rof cs
        exact⟨e,w1,tr1,0,Env.le_refl e,.inr hD,hst⟩
       ·obtain⟨e1,w1,tr1,s1,hle,hP,hst,_⟩:=hI.step hrn hR ho hni hed fn (Region.linearise.go .any ops fuel (t / (Region.ready .any ops listed).length) (listed.setIfInBounds i true) []) k ds kd rof cs (fun j c hj1 hj=>by
         by_cases hf:i=f
         ·have hs0:s≠0:=fun h0=>hif ⟨hf,h0⟩
          rw [hf] at hj1
          have:=PInv.step.chain_inj hR hj1 hs.c1
          have:j=0:=by omega
          subst this
          exact(hI.chain 0 c hj).2 (by omega)
         ·exact(hanc c (hch j c i hj hj1 hf)).1)
        exact⟨e1,w1,tr1,s1,hle,.inl hP,hst⟩
      ·have hanc:=bG (bg listed) hR.edges (fun i o hi ho'=>hI.closed i o hi ho') i o hoL hed
       have hnf: ∀ ed∈o.after.toList,Region.binds .any ed=true→ed.on≠f:=fun ed he hb e'=>by
        have:=ol hfr i o hoL ed he hb e'
        rw [Nat.zero_add] at this
        exact hI.ha (hanc a this).1
       have hif:i≠f:=fun e'=>hni (e' ▸ hI.hf)
       by_cases hia:i=a
       ·subst hia
        obtain⟨e1,w1,tr1,hle,hP,hst⟩:=ye hrn hR hs hI ho (fun ed he hb=>⟨hed ed he hb,hnf ed he hb⟩) fn (Region.linearise.go .any ops fuel (t / (Region.ready .any ops listed).length) (listed.setIfInBounds i true) []) k ds kd rof cs
        exact⟨e1,w1,tr1,2,hle,.inl hP,hst⟩
       ·have hed0: ∀ ed∈o.after.toList,Region.binds .any ed=true→bg listed ed.on∧ed.on≠f:=fun ed he hb=>⟨hed ed he hb,hnf ed he hb⟩
        have hanc0:=bG (fun j=>bg listed j∧j≠f) hR.edges (fun i o hi ho'=>hI.inv.closed i o hi ho') i o hoL hed0
        have hnc: ∀ (j c:Nat),C[j+1]? =some i→C[j]? =some c→False:=fun j c hj1 hj=>by
         have:=(hI.inv.chain j c hj).1 (hanc0 c (hch j c i hj hj1 hif)).1
         omega
        obtain⟨e1,w1,tr1,s1,hle,hP,hst,⟨u,htr⟩,hsame⟩:=hI.inv.step hrn hR ho (fun hc=>hni hc.1) hed0 fn (Region.linearise.go .any ops fuel (t / (Region.ready .any ops listed).length) (listed.setIfInBounds i true) []) k ds kd rof cs (fun j c hj1 hj=>(hnc j c hj1 hj).elim)
        have hquiet: ∀ r,R[i]? =some r→r.chain=false:=fun r hr=>by
         cases hc:r.chain with
         | false=>rfl
         | true=>
           exfalso
           obtain⟨_,hC,_⟩:=(hR.recs i r hr).eff hc
           rcases Nat.eq_zero_or_pos r.stg with h0|hp
           ·rw [h0,hs.c0] at hC
            exact hia (Option.some.inj hC).symm
           ·have hlt:r.stg-1<C.length:=by
             have:=(zA.1 hC).1
             omega
            exact hnc (r.stg-1) C[r.stg-1] (by rw [show r.stg-1+1=r.stg by omega];exact hC) (zz hlt)
        obtain⟨rfl,rfl,rfl⟩:=hsame hquiet
        obtain⟨eB,uf,g1,g2,g3,g4⟩:=hI.ex
        have hof:=(hR.recs f rf hs.iF).op
        have hdst:o.dst≠some df:=fun e'=>hif (hR.dist i f o rf.o df hoL (by simpa using hof) e' hs.oF)
        refine⟨_,_,tr1,0,Env.le_refl _,.inr ⟨?_,.inl hI.hf,fun hc=>hc.elim hI.ha fun e'=>hia e'.symm,fun i' oi hi hoi ed he hb=>?_,⟨eB,uf,g1,g2,g3,by rw [htr,hY hdst];exact g4⟩⟩,hst⟩
        ·have:(fun j=>(bg listed j∨j=i)∧j≠f)=fun j=>(bg listed j∧j≠f)∨j=i:=by
          funext j
          apply propext
          constructor
          ·rintro⟨h1|h1,h2⟩
           ·exact .inl ⟨h1,h2⟩
           ·exact .inr h1
          ·rintro(⟨h1,h2⟩|h1)
           ·exact⟨.inl h1,h2⟩
           ·exact⟨.inr h1,fun e'=>hif (h1 ▸ e')⟩
         rw [this]
         exact hP
        ·rcases hi with hi|rfl
         ·exact .inl (hI.closed i' oi hi hoi ed he hb)
         ·rw [hoL] at hoi
          cases hoi
          exact .inl (hed ed he hb)
     obtain⟨e1,w1,tr1,s1,hle1,hI1,hst1⟩:=one
     have hilt:i<ops.size:=(zG.1 ho).1
     have hfalse:listed.toList[i]? =some false:=by
      have hlt:i<listed.size:=by omega
      unfold bg at hni
      rw [zI hlt] at hni
      rw [Array.getElem?_toList,zI hlt]
      simpa using hni
     have hcnt:b8 (listed.setIfInBounds i true)+1=b8 listed:=by
      unfold b8
      rw [Array.toList_setIfInBounds]
      exact ew _ _ hfalse
     rw [← hL2] at hI1
     obtain⟨e2,w2,tr2,s2,l2,hle2,hs2,ha2,hI3,hst2⟩:=ih _ _ s1 e1 w1 tr1 (by simpa using hsz) (by omega) hI1
     exact⟨e2,w2,tr2,s2,l2,Env.le_trans hle1 hle2,hs2,ha2,hI3,hst1.trans hst2⟩
end
end Np
namespace Np
theorem drawP{P:Program}{K:Zone}{w0:World}{rn:Rn}{a f:Nat}{ra rf:Rec}{H0:aV}{n0 la lf:Nat}{va vf:VO}{df:Nat}(hrn:gf P K w0 rn)(hm:P.follows .mixedOrders=true){ops:Array Oper}{nt:Nat}{T:Tr SV}{H:aV}{nx:Nat}{s:DS}(hro:dT nt ops.toList=true)(hda:DrawRun P rn nt ops 0 ops.toList ⟨T,H,nx,[],[(H,nx)],0⟩ s)
 (hs:Swap P rn T s.recs.reverse s.Hs.reverse ((s.recs.reverse.filter (·.chain)).map (·.i)) a f ra rf H0 n0 la lf va vf df) (hch: ∀ (j c d:Nat),((s.recs.reverse.filter (·.chain)).map (·.i))[j]? =some c→((s.recs.reverse.filter (·.chain)).map (·.i))[j+1]? =some d→d≠f→((bQ [] ops.toList).getD d 0).testBit c=true)
 (hfr:freeOf (bQ [] ops.toList) a f ops.toList 0=true) (hfl:qU P ops s) {e:Env} {w:World} {tmps:Array Value} (hS:St K w0 e H nx w) (hT:TRel e nt T tmps) (t fn:Nat) (k:List Item) (ds:List Deferred) (kd:CallKind) (rof:Option Nat) (cs:List Frame) :
 ∃ e' w' tmps',e.le e'∧St K w0 e' s.H s.nx w'∧TRel e' nt s.T tmps' ∧
  Steps P (lone (fr0 fn tmps (.inRegion ops (Region.schedule (P.follows .mixedOrders) ops t) :: k) ds kd rof) cs w) (lone (fr0 fn tmps' (.inRegion ops [] :: k) ds kd rof) cs w'):=by
 simp only [dT,zO] at hro
 obtain⟨hd1,hd2⟩:=gR hro.1
 have hops:=kc hro.2
 ···have h0:DSOK P rn ops T 0 ⟨T,H,nx,[],[(H,nx)],0⟩:=
     ⟨rfl,rfl,rfl,rfl,fun k r hr=>by simp at hr,fun t v hv=> .inr ⟨fun k r hk=>by omega,hv⟩⟩
    have hD:=fm (fun j o d hj hd=>(hd1 j o d hj hd).1) ops.toList 0 _ s h0 (by simp) hda
    have hR:RegOK P rn nt ops T s.recs.reverse s.Hs.reverse ((s.recs.reverse.filter (·.chain)).map (·.i)):=by
     refine⟨by simp [hD.len],hD.recs,by rw [hD.cnt];simp [hD.hs],rfl,fun r hr hc hw=>?_,fun i o d hi hd=>(hd1 i o d hi hd).1,hd2,fun i o hi=>?_,fun i o hi=>?_⟩
     ·obtain⟨kk,hkk⟩:=List.mem_iff_getElem?.1 hr
      obtain⟨hnd,H0,n0,hQ0,hf0⟩:=(hD.recs kk r hkk).float hw hc
      refine⟨hnd,fun s1 hlo hhi H1 n1 hQ1=>?_⟩
      by_cases hs1:s1=r.stg
      ·subst hs1
       rw [hQ1] at hQ0
       simp only [zw,zE] at hQ0
       rw [hQ0.1]
       exact hf0
      ·exact hfl r (by simpa using hr) hc hw s1 hlo hhi hs1 H1 n1 hQ1
     ·obtain⟨anc,_,g2,_⟩:=hops i o hi
      simpa using g2
     ·obtain⟨anc,g1,_,g3⟩:=hops i o hi
      rw [zK,g1]
      rw [Nat.zero_add] at g3
      exact g3
    have hinit:PInv K w0 nt ops T s.recs.reverse s.Hs.reverse ((s.recs.reverse.filter (·.chain)).map (·.i)) (bg (Array.replicate ops.size false)) 0 e w tmps:=by
     have hno: ∀ j,¬ bg (Array.replicate ops.size false) j:=by
      intro j hj
      unfold bg at hj
      rw [Array.getElem?_replicate] at hj
      split at hj <;> simp at hj
     have hQ0:s.Hs.reverse[0]? =some (H,nx):=stage0 _ _ _ hda (by simp)
     refine⟨⟨H,nx,hQ0,hS⟩,hT.1,fun t sv hg=>?_,fun j c hj=>⟨fun hl=>absurd hl (hno c),fun hl=>by omega⟩,fun i o hi=>absurd hi (hno i)⟩
     rcases hg with ⟨k',r',hk',_⟩|⟨_,h2⟩
     ·exact absurd hk' (hno k')
     ·exact hT.2 t sv h2
    have hsched:Region.schedule (P.follows .mixedOrders) ops t=Region.linearise.go .any ops ops.size t (Array.replicate ops.size false) []:=by
     rw [hm]
     rfl
    rw [hsched]
    obtain⟨e',w',tr',s',listed',hle,_,hall,hI,hst⟩:=ia hrn hR hs hch hfr fn k ds kd rof cs ops.size t (Array.replicate ops.size false) 0 e w tmps (by simp) (by unfold b8;simp) (.inl hinit)
    have hs':s'=s.stg:=by
     obtain⟨H1,n1,hQ1,_⟩:=hI.st
     have hle1:s'≤s.stg:=by
      have:=(zA.1 hQ1).1
      simp [hD.hs] at this
      omega
     rcases Nat.lt_or_ge s' s.stg with hlt|hge
     ·exfalso
      have hc: ∃ c,((s.recs.reverse.filter (·.chain)).map (·.i))[s']? =some c:=⟨_,zz (by rw [hD.cnt];exact hlt)⟩
      obtain⟨c,hc⟩:=hc
      have hcl:c<ops.size:=by
       have hcm:=zJ hc
       rw [List.mem_map] at hcm
       obtain⟨r',hr',rfl⟩:=hcm
       rw [List.mem_filter] at hr'
       obtain⟨k',hk'⟩:=List.mem_iff_getElem?.1 hr'.1
       have hx:=hD.recs k' r' hk'
       rw [hx.idx]
       exact(zG.1 hx.op).1
      have:=(hI.chain s' c hc).1 (hall c hcl)
      omega
     ·omega
    subst hs'
    obtain⟨H1,n1,hQ1,hS1⟩:=hI.st
    rw [hD.last] at hQ1
    simp only [zw,zE] at hQ1
    obtain⟨rfl,rfl⟩:=hQ1
    refine⟨e',w',tr',hle,hS1,⟨hI.size,fun t sv ht=>hI.good t sv ?_⟩,hst⟩
    rcases hD.slots t sv ht with ⟨k',r',h1,h2,h3,h4⟩|⟨h1,h2⟩
    ·exact .inl ⟨k',r',hall k' h1,h2,h3,h4⟩
    ·refine .inr ⟨fun k' r' _ hr'=>?_,h2⟩
     have hlt:=(zA.1 hr').1
     rw [List.length_reverse,hD.len] at hlt
     exact h1 k' r' hlt hr'
where
 stage0 {P:Program} {rn:Rn} {nt:Nat} {ops:Array Oper} {x:aV×Nat}: ∀ (l:List Oper) {i:Nat} (s s':DS),DrawRun P rn nt ops i l s s'→s.Hs.reverse[0]? =some x→s'.Hs.reverse[0]? =some x
  | [],i,s,s',h,h0=>by cases h;exact h0
  | o :: l,i,s,s',h,h0=>by
    cases h with
    | cons ho h=>
      refine stage0 l _ s' h ?_
      rcases ho with ⟨_,rfl⟩|⟨_,_,v,_,rfl⟩|⟨_,v,H,nx,_,rfl⟩
      ·exact h0
      ·exact h0
      ·simp only [List.reverse_cons]
       exact fJ h0
end Np
section
variable {P:Program} {ro:Option Nat} {fn nt nx:Nat} {T:Tr SV} {k:List AIt} {dfs:List ADf} {H:aV} {Q:Pst}
theorem zq{ancs l:List Nat}{a f:Nat}(h:dE ancs (f :: l)=true)(j c d:Nat)(h1:(a :: f :: l)[j]? =some c)(h2:(a :: f :: l)[j+1]? =some d)(hd:d≠f):(ancs.getD d 0).testBit c=true:=by
 cases j with
 | zero=>
   simp only [Nat.zero_add,List.getElem?_cons_succ,zN,zw] at h2
   exact absurd h2.symm hd
 | succ j=>exact ga h j c d (by simpa using h1) (by simpa using h2)
theorem mN{A:Type}(t:Tr A)(n:Nat):(t.del n).at' n=none:=by simp [Tr.del,Tr.at']
end
theorem St.retell{K:Zone}{w0 w:World}{e:Env}{H:aV}{nx t:Nat}{vo vo':VO}(hS:St K w0 e H nx w)(hb:H.at' t=some vo)(hro:vo'.ro=vo.ro)(hl: ∀ x,e t=some x→Lies K w e vo x→Lies K w e vo' x):St K w0 e (H.set t vo') nx w:=by
 have back: ∀ {id:Nat} {v:VO},(H.set t vo').at' id=some v→ ∃ v0,H.at' id=some v0∧v.ro=v0.ro:=fun {id v} hid=>by
  rcases Tr.bM hid with ⟨rfl,rfl⟩|⟨_,h⟩
  ·exact⟨vo,hb,hro⟩
  ·exact⟨v,h,rfl⟩
 refine⟨hS.below,fun id v hid=>?_,fun i j v v' x x' hi hj hx hx' hne h0 h0' hr hr'=>?_,hS.fresh⟩
 ·rcases Tr.bM hid with ⟨rfl,rfl⟩|⟨_,h⟩
  ·obtain⟨x,hx,hlx⟩:=hS.rel _ _ hb
   exact⟨x,hx,hl x hx hlx⟩
  ·exact hS.rel _ _ h
 ·obtain⟨v0,g1,g2⟩:=back hi
  obtain⟨v1,g3,g4⟩:=back hj
  exact hS.inj i j v0 v1 x x' g1 g3 hx hx' hne h0 h0' (g2 ▸ hr) (g4 ▸ hr')
theorem lF{P:Program}{ro:Option Nat}{fn nt:Nat}{T:Tr SV}{k:List AIt}{dfs:List ADf}{H:aV}{nx:Nat}{Q:Pst}{t r eo n ne sz:Nat}{tt rt:TypeId}{rr:Bool}{c:Tr SV}(pre post:List SV)(hb:H.at' t=some (aG tt (pre ++ .slu r eo n :: post)))(hr:H.at' r=some (.row rr ne sz rt c))(h0:0<ne)(hn:eo+n≤ne)
 (h: ∀ C,n≤C→Wp P ro ⟨fn,nt,T,k,dfs,H.set t (aG tt (pre ++ .sl r (eo*sz) n C :: post)),nx⟩ Q):Wp P ro ⟨fn,nt,T,k,dfs,H,nx⟩ Q:=by
 refine⟨fun K w0 e w tmps todo ds kd rof cs hS hTr htd hds hc2=>?_⟩
 obtain⟨z,hz,hlz⟩:=hS.rel _ _ hr
 obtain⟨g1,g2,g3,g4⟩:=Lies.row hlz
 have hnil:=g3 h0
 have hcc:(SV.sl r (eo*sz) n (z.cap-eo)).conc e=(SV.slu r eo n).conc e:=by
  simp [SV.conc,hz,Ent.at,hnil,g1]
 refine(h (z.cap-eo) (by omega)).run K w0 e w tmps todo ds kd rof cs (hS.retell hb rfl fun x hx hlx=>?_) hTr htd hds hc2
 rcases hlx with ⟨q0,o,q1,q2,q3⟩|⟨_,_,ro',sz',c',hq,_⟩
 ·refine .inl ⟨q0,o,q1,q2,?_⟩
  obtain⟨f0,cs,fz,f1,f2,f3,f4⟩:=q3
  refine⟨f0,cs,fz,f1,by rw [f2];simp,by simpa using f3,fun i hi s hs=>?_⟩
  have hi':i<(pre ++ SV.slu r eo n :: post).length:=by simpa using hi
  have hs':(pre ++ SV.sl r (eo*sz) n (z.cap-eo) :: post)[i]? =some s:=hs
  rcases Nat.lt_trichotomy i pre.length with hlt|rfl|hgt
  ·refine f4 i hi' s ?_
   show(pre ++ SV.slu r eo n :: post)[i]? =some s
   rw [zM hlt] at hs' ⊢
   exact hs'
  ·rw [List.getElem?_append_right (zP _),Nat.sub_self,zN,zw] at hs'
   subst hs'
   obtain⟨v,hv,hg⟩:=f4 pre.length hi' (.slu r eo n) (by
    show(pre ++ SV.slu r eo n :: post)[pre.length]? =some (SV.slu r eo n)
    rw [List.getElem?_append_right (zP _),Nat.sub_self,zN])
   exact⟨v,by rw [hcc];exact hv,hg⟩
  ·refine f4 i hi' s ?_
   show(pre ++ SV.slu r eo n :: post)[i]? =some s
   obtain⟨j,hj⟩: ∃ j,i-pre.length=j+1:=⟨i-pre.length-1,by omega⟩
   rw [List.getElem?_append_right (by omega),hj,List.getElem?_cons_succ] at hs' ⊢
   exact hs'
 ·cases hq
section
variable {P:Program} {T:Tr SV} {H:aV} {nx:Nat} {d:Option Tmp} {ty:TypeId} {pos:String} {af:Array Edge} {gd:Option (Nat×Bool)}
theorem fT{t el:TypeId}{x hi mx:Operand}{k1 k2:IntKind}{sz:Nat}(hu:P.underlying t=some (.slice el))(hs:bC P el=some sz)(hx:ar T x=some (.sc (.slice none 0 0)))(hh:ar T hi=some (.sc (.int k1 0)))(hm:ar T mx=some (.sc (.int k2 0))):ReadDoes P T H ⟨d,.slice t x none (some hi) (some mx),ty,pos,af,gd⟩ (.sc (.slice none 0 0)):=by
 refine c9 fun ev w he=>?_
 have e1:=he x _ hx _ rfl
 have e2:=he hi _ hh _ rfl
 have e3:=he mx _ hm _ rfl
 have hbd:=cy (P:=P) (isS:=true) (len:=0) (cap:=0) (l:=0) (h:=0) (m:=0) (lo:=none) (hi:=some (.int k1 0)) (mx:=some (.int k2 0)) (.inl ⟨rfl,rfl⟩) (.inr ⟨k1,rfl⟩) (.inr ⟨k2,rfl⟩) (zP _) (zP _) (zP _) (.inl rfl) w
 simp [execOp,Instr.sliceAt,Instr.slice,run_underlying hu,bR hs,hbd,e1,e2,e3,Sem.run_bind,Result.andThen,Sem.run_pure]
end
theorem c8{T:Tr SV}{dflt n:Nat}{o:Operand}{k:IntKind}{j:Int}(h:ar T o=some (.sc (.int k j)))(hj:j=(n:Int)):gZ T dflt (some o) n:=by
 subst hj
 exact mV h (by omega)
theorem yN{H:aV}{r n sz:Nat}{t:TypeId}{l:List SV}(hb:H.at' r=some (eU false n sz t l))(hl:l.length=n*sz):aZ H sz (.sl r (0*sz) n n)=some (n,l):=
 SlOf.cells (t:=t) ⟨hl,.inr ⟨r,0,n,l,.inr ⟨n,zP _,rfl⟩,hb,by rw [Nat.zero_mul,List.drop_zero,←hl,List.take_length],by omega,hl⟩⟩
theorem lu{H:aV}{r n sz:Nat}{t:TypeId}{l:List SV}(hb:H.at' r=some (eU false n sz t l))(hl:l.length=n*sz):aZ H sz (.slu r 0 n)=some (n,l):=(SlOf.row hb hl).cells
theorem tp{s:SV}(h:s.one=true):s.cells= [s]:=by
 cases s with
 | sc v=>cases v <;> first|rfl|(simp [SV.one,Value.oneCell'] at h)
 | agg l=>simp [SV.one] at h
 | tup l=>simp [SV.one] at h
 | _=>rfl
theorem lI{ρ:Nat→Nat}{ro:Bool}{ne sz:Nat}{t:TypeId}(vs:List Value){l:List SV}(h:l=vs.map .sc):(eU ro ne sz t l).ren ρ=eU ro ne sz t l:=by
 subst h
 rw [show eU ro ne sz t (vs.map .sc)=dat ro ne sz t vs from ff ro ne sz t vs]
 exact mj ρ ro ne sz t vs
section
variable {P:Program} {nt nx:Nat} {T:Tr SV} {H:aV} {ops:Array Oper} {i:Nat} {l:List Oper} {ty:TypeId} {pos:String} {af:Array Edge} {gd:Option (Nat×Bool)} {rs:List Rec} {Hs:List (aV×Nat)} {stg:Nat} {K:DS→Prop} {op:Op} {dd:Nat}
theorem ux{v:SV}(hw:aA (aS T (aO ops.toList ⟨some dd,op,ty,pos,af,gd⟩)) ops ⟨some dd,op,ty,pos,af,gd⟩=some true)(hd:Nat.blt dd nt=true)(hnd: ∀ c,op ≠ .defer c)
 (hr:OpDoes P (aS T (aO ops.toList ⟨some dd,op,ty,pos,af,gd⟩)) H nx ⟨some dd,op,ty,pos,af,gd⟩ (.val v,H,nx))
 (h:DrawKQ P nt ops (i+1) l ⟨T.set dd v,H,nx,⟨i,⟨some dd,op,ty,pos,af,gd⟩,aS T (aO ops.toList ⟨some dd,op,ty,pos,af,gd⟩),stg,false,true,v⟩ :: rs,Hs,stg⟩ K) :
 DrawKQ P nt ops i (⟨some dd,op,ty,pos,af,gd⟩ :: l) ⟨T,H,nx,rs,Hs,stg⟩ K:=by
 obtain⟨s',h1,h2⟩:=h.ex
 refine⟨⟨s',.cons (.inr (.inl ⟨hw,hnd,v,.inr ⟨_,hr,hnd,rfl⟩,?_⟩)) h1,h2⟩⟩
 simp only [aK hd]
theorem eZ{v:SV}{d:Option Nat}{H2:aV}{n2:Nat}(hnd: ∀ c,op ≠ .defer c)(hr:OpDoes P T H nx ⟨d,op,ty,pos,af,gd⟩ (.val v,H2,n2)):eL P (wpr P) T H nx ⟨d,op,ty,pos,af,gd⟩ (v,H2,n2):=⟨_,hr,hnd,rfl⟩
end
theorem iU{P:Program}{T:Tr SV}{H:aV}{nx:Nat}{d:Option Tmp}{ty:TypeId}{pos:String}{af:Array Edge}{gd:Option (Nat×Bool)}{t tx el:TypeId}{sz m b r n:Nat}{s x:Operand}{v:SV}{ws cs:List SV}(hu:P.underlying t=some (.slice el))(hk:(∃ e',P.underlying tx=some (.slice e'))∨P.underlying tx=some .string)(hs:bC P el=some sz)(h0:0<sz)
 (hz:ey P el sz=true) (hb:(P.info? el).map (·.bytes)=some b) (hx0:ar T s=some (.slu r 0 n)) (hx:ar T x=some v) (hro:H.at' r=some (eU false n sz el ws)) (hl:ws.length=n*sz) (hr:aZ H sz v=some (m,cs)) (h1:bU cs=true)
 (hm:0<m) (hm1:(n+m)*b≤140737488355328) (hm2:n+m≤1000000000) :
 OpDoes P T H nx ⟨d,.call {callee:= .builtin .append,args:= #[s,x],argTypes:= #[t,tx]},ty,pos,af,gd⟩ (.val (.slu nx 0 (n+m)),(H.del r).set nx (eU false (n+m) sz el (ws ++ cs)),nx+1):=
 xO (eo:=0) hu hk hs h0 hz hb hx0 hx (by rw [Nat.zero_add];exact hro) ((SlOf.row hro hl).cells) hr h1 hm hm1 hm2
def FlOkD(P:Program)(ancs chain:List Nat)(Q:List (aV×Nat)):List Rec→Prop
 | []=>True
 | r :: l=>((r.chain || !r.wanted || (Nat.beq (eX (ancs.getD r.i 0) chain) r.stg && Nat.beq (cV ancs r.i chain) r.stg))=true∨ ∃ d,Nat.ble (cV ancs r.i chain+(d+1)) Q.length=true∧(AllH (Q.drop d) (fun H=>ReadDoes P r.T H r.o r.val)∨AllHQ (Q.drop d) (fun H n=>eL P (wpr P) r.T H n r.o (r.val,H,n))))∧FlOkD P ancs chain Q l
theorem FlOkD.ok{P:Program}{ancs chain:List Nat}{Q:List (aV×Nat)}: ∀ {l:List Rec},FlOkD P ancs chain Q l→ ∀ r∈l,r.chain=false→r.wanted=true→ ∀ st,eX (ancs.getD r.i 0) chain≤st→st≤cV ancs r.i chain→st≠r.stg→ ∀ H n,Q.reverse[st]? =some (H,n)→Nq.ReadQ P (wpr P) r.T H n r.o r.val
 | [],_,r,hm,_,_,_,_,_,_,_,_,_=>by cases hm
 | r0 :: l,hh,r,hm,hc,hw,st,h1,h2,h3,H,n,hq=>by
   rcases List.mem_cons.1 hm with rfl|hm
   ·rcases hh.1 with h|⟨d,hd,h⟩
    ·rw [hc,hw] at h
     simp only [Bool.not_true,Bool.or_false,Bool.false_or,zO] at h
     have q1:=bz h.1
     have q2:=bz h.2
     omega
    ·have hlt:=(zA.1 hq).1
     rw [List.length_reverse] at hlt
     have hd':=zB hd
     rw [List.getElem?_reverse hlt] at hq
     have hq':(Q.drop d)[Q.length-1-st-d]? =some (H,n):=by
      rw [List.getElem?_drop,show d+(Q.length-1-st-d)=Q.length-1-st by omega]
      exact hq
     rcases h with h|h
     ·exact .inl (h.get hq')
     ·exact .inr (h.get hq')
   ·exact FlOkD.ok hh.2 r hm hc hw st h1 h2 h3 H n hq
def FlOkE(P:Program)(ancs chain:List Nat)(Q:List (aV×Nat)):List Rec→Prop
 | []=>True
 | r :: l=>((r.chain || !r.wanted || (Nat.beq (eX (ancs.getD r.i 0) chain) r.stg && Nat.beq (cV ancs r.i chain) r.stg))=true∨ ∃ d,Nat.ble (cV ancs r.i chain+(d+1)) Q.length=true∧AllH (Q.drop d) (fun H=>ReadDoes P r.T H r.o r.val))∧FlOkE P ancs chain Q l
theorem FlOkE.ok{P:Program}{ancs chain:List Nat}{Q:List (aV×Nat)}: ∀ {l:List Rec},FlOkE P ancs chain Q l→ ∀ r∈l,r.chain=false→r.wanted=true→ ∀ st,eX (ancs.getD r.i 0) chain≤st→st≤cV ancs r.i chain→st≠r.stg→ ∀ H n,Q.reverse[st]? =some (H,n)→ReadDoes P r.T H r.o r.val
 | [],_,r,hm,_,_,_,_,_,_,_,_,_=>by cases hm
 | r0 :: l,hh,r,hm,hc,hw,st,h1,h2,h3,H,n,hq=>by
   rcases List.mem_cons.1 hm with rfl|hm
   ·rcases hh.1 with h|⟨d,hd,h⟩
    ·rw [hc,hw] at h
     simp only [Bool.not_true,Bool.or_false,Bool.false_or,zO] at h
     have q1:=bz h.1
     have q2:=bz h.2
     omega
    ·have hlt:=(zA.1 hq).1
     rw [List.length_reverse] at hlt
     have hd':=zB hd
     rw [List.getElem?_reverse hlt] at hq
     have hq':(Q.drop d)[Q.length-1-st-d]? =some (H,n):=by
      rw [List.getElem?_drop,show d+(Q.length-1-st-d)=Q.length-1-st by omega]
      exact hq
     exact h.get hq'
   ·exact FlOkE.ok hh.2 r hm hc hw st h1 h2 h3 H n hq
theorem AllH.all{p:aV→Prop}(h: ∀ H,p H): ∀ (Q:List (aV×Nat)),AllH Q p
 | []=>trivial
 | q :: l=>⟨h q.1,AllH.all h l⟩
theorem ck{r:Rec}{b:Bool}(h:r.chain=true):(r.chain || !r.wanted || b)=true:=by rw [h];rfl
theorem qJ{r:Rec}{b:Bool}(h:r.wanted=false):(r.chain || !r.wanted || b)=true:=by rw [h];simp
section
variable {P:Program} {ro:Option Nat} {fn nt nx:Nat} {T:Tr SV} {k:List AIt} {dfs:List ADf} {H:aV} {Q:Pst}
theorem dJ{id:Nat}{ops:List Oper}(hm:P.follows .mixedOrders=true)(hr:dT nt ops=true)
 (h:DrawK P nt ops.toArray 0 ops ⟨T,H,nx,[],[(H,nx)],0⟩ (fun s=>dE (bQ [] ops) (cE s)=true∧FlOkE P (bQ [] ops) (cE s) s.Hs s.recs∧Wp P ro ⟨fn,nt,s.T,k,dfs,s.H,s.nx⟩ Q)) :
 Wp P ro ⟨fn,nt,T,.code (.region id ops.toArray true) :: k,dfs,H,nx⟩ Q:=by
 obtain⟨s,hs,h1,h2,h3⟩:=h.ex
 exact .step ⟨hm,s,⟨hr,hs,h1,fun r hr=>FlOkE.ok h2 r hr⟩,h3⟩
theorem oX{id:Nat}{opl:List Oper}(hm:P.follows .mixedOrders=true)(hr:dT nt opl=true)
 (h:DrawKQ P nt opl.toArray 0 opl ⟨T,H,nx,[],[(H,nx)],0⟩ (fun s=>dE (bQ [] opl) (cE s)=true∧FlOkD P (bQ [] opl) (cE s) s.Hs s.recs∧Wp P ro ⟨fn,nt,s.T,k,dfs,s.H,s.nx⟩ Q)) :
 Wp P ro ⟨fn,nt,T,.code (.region id opl.toArray true) :: k,dfs,H,nx⟩ Q:=by
 obtain⟨s,hs,h1,h2,h3⟩:=h.ex
 refine⟨fun K w0 e w tmps todo ds kd rof cs hS hT ht hd hc=>?_⟩
 obtain⟨it,k',rfl,hi,hk⟩:=ht.cons
 have hi:it=Item.code (.region id opl.toArray true):=hi
 subst hi
 obtain⟨e',w',tmps',g1,g2,g3,g4⟩:=Nq.drawOKQ (iR K w0) hm opl.toArray nt T H nx s ⟨hr,hs,h1,fun r hr=>FlOkD.ok h2 r hr⟩ e {w with drawn:=w.drawn+1} tmps hS.drew hT (w.tape w.drawn (.order fn id)) fn k' ds kd rof cs
 exact(h3.run K w0 e' w' tmps' k' ds kd rof cs g2 g3 (hk.mono g1) (hd.mono g1) (hc.mono g1)).pre (.head mg (g4.trans (.one eS))) g1 rfl rfl (fun _ hr=>hr)
theorem mf{id:Nat}{opl:List Oper}(a f df:Nat)(hm:P.follows .mixedOrders=true)(hr:dT nt opl=true)(hfr:Np.freeOf (bQ [] opl) a f opl 0=true)
 (h:DrawK P nt opl.toArray 0 opl ⟨T.del df,H,nx,[],[(H,nx)],0⟩ (fun s=>(∃ l,cE s=a :: f :: l∧dE (bQ [] opl) (f :: l)=true)∧FlOkE P (bQ [] opl) (cE s) s.Hs s.recs ∧
   (∃ ra rf H0 n0 la lf va vf,Np.Swap P (wpr P) (T.del df) s.recs.reverse s.Hs.reverse (cE s) a f ra rf H0 n0 la lf va vf df)∧Wp P ro ⟨fn,nt,s.T,k,dfs,s.H,s.nx⟩ Q)) :
 Wp P ro ⟨fn,nt,T,.code (.region id opl.toArray true) :: k,dfs,H,nx⟩ Q:=by
 obtain⟨s,hs,⟨l,h1,h1'⟩,h2,⟨ra,rf,H0,n0,la,lf,va,vf,h3⟩,h4⟩:=h.ex
 refine⟨fun K w0 e w tmps todo ds kd rof cs hS hT ht hd hc=>?_⟩
 obtain⟨it,k',rfl,hi,hk⟩:=ht.cons
 have hi:it=Item.code (.region id opl.toArray true):=hi
 subst hi
 have hT':TRel e nt (T.del df) tmps:=⟨hT.1,fun t sv ht=>hT.2 t sv (Tr.gU ht).2⟩
 obtain⟨e',w',tmps',g1,g2,g3,g4⟩:=Np.drawP (iR K w0) hm (ops:=opl.toArray) (w:={w with drawn:=w.drawn+1}) hr hs h3 (by
  rw [show(s.recs.reverse.filter (·.chain)).map (·.i)=cE s from rfl,h1]
  exact zq h1') hfr (fun r hr=>FlOkE.ok h2 r hr) hS.drew hT' (w.tape w.drawn (.order fn id)) fn k' ds kd rof cs
 exact(h4.run K w0 e' w' tmps' k' ds kd rof cs g2 g3 (hk.mono g1) (hd.mono g1) (hc.mono g1)).pre (.head mg (g4.trans (.one eS))) g1 rfl rfl (fun _ hr=>hr)
end
end Go.Sy
end
section
namespace Go.Proofs.Ytckajlllkmkniaa
open Go Go.Sy Go.Sl Go.RowKit
def Step(F F':Nat→Prop)(H:aV)(nx:Nat)(H':aV)(nx':Nat):Prop:=nx≤nx'∧(∀ n,F' n→F n∨nx≤n)∧ ∀ n,n<nx→ ¬ F n→H'.at' n=H.at' n
theorem Step.refl{F:Nat→Prop}{H:aV}{nx:Nat}:Step F F H nx H nx:=⟨zP _,fun _ h=> .inl h,fun _ _ _=>rfl⟩
theorem Step.trans{F F' F'':Nat→Prop}{H H' H'':aV}{nx nx' nx'':Nat}(h:Step F F' H nx H' nx')(g:Step F' F'' H' nx' H'' nx''):Step F F'' H nx H'' nx'':=by
 refine⟨zX h.1 g.1,fun n hn=>?_,fun n hn hf=>?_⟩
 ·rcases g.2.1 n hn with h1|h1
  ·exact h.2.1 n h1
  ·exact .inr (zX h.1 h1)
 ·refine(g.2.2 n (Nat.lt_of_lt_of_le hn h.1) fun hf'=>?_).trans (h.2.2 n hn hf)
  rcases h.2.1 n hf' with h1|h1
  ·exact hf h1
  ·omega
abbrev All(t a b:Nat)(F1 F2:Nat→Prop):Nat→Prop:=fun n=>n=t∨n=a∨n=b∨F1 n∨F2 n
def Chg(t:Nat)(T':LT)(v:SV)(Fp:Nat→Prop)(H:aV)(nx:Nat):Pst:=fun q=>q.1=v∧ ∃ F',TabAt t T' F' q.2.1∧Step Fp F' H nx q.2.1 q.2.2
theorem fK{P:Program}{ro:Option Nat}{fn nt nx:Nat}{T:Tr SV}{k:List AIt}{dfs:List ADf}{H:aV}{Q:Pst}{R:aV→Nat→Prop}(h:R H nx)(h2: ∀ H' nx',R H' nx'→Wp P ro ⟨fn,nt,T,k,dfs,H',nx'⟩ Q):Wp P ro ⟨fn,nt,T,k,dfs,H,nx⟩ Q:=h2 _ _ h
theorem fW(ml:MLk)(mp:MPt)(k:ByteArray)(n:Nat)(y:Nat×List Nat)(c:Nat):b9 (dm ml k (n,y) c) mp=⟨ca (b9 ml mp).locks k y,(b9 ml mp).parties⟩:=by
 simp only [b9,tR]
 rw [qm (fun x:Nat×(Nat×List Nat)=>x.2)]
theorem dX(ml:MLk)(mp:MPt)(k:Nat)(n:Nat)(y:List ByteArray×ByteArray)(c:Nat):b9 ml (dm mp k (n,y) c)=⟨(b9 ml mp).locks,ca (b9 ml mp).parties k y⟩:=by
 simp only [b9,tR]
 rw [qm (fun x:Nat×(List ByteArray×ByteArray)=>x.2)]
theorem tM(ml:MLk)(mp:MPt)(k:ByteArray):b9 (ik ml k) mp=⟨dO (b9 ml mp).locks k,(b9 ml mp).parties⟩:=by
 simp only [b9,wV]
 rw [qq (fun x:Nat×(Nat×List Nat)=>x.2)]
theorem tL(ml:MLk)(mp:MPt)(k:Nat):b9 ml (ik mp k)=⟨(b9 ml mp).locks,dO (b9 ml mp).parties k⟩:=by
 simp only [b9,wV]
 rw [qq (fun x:Nat×(List ByteArray×ByteArray)=>x.2)]
theorem nW{K X:Type} [DecidableEq K]{enc:K→Value}{m:List (K×(Nat×X)×Nat)}{k:K}{n:Nat}{x y:X}(hg:cO m k=some (n,x))(c:Nat):oS enc (fun z:Nat×X=>SV.ptr z.1 0) (dm m k (n,y) c)=oS enc (fun z:Nat×X=>SV.ptr z.1 0) m:=by
 obtain⟨A,B,s,h1,_,h3,_⟩:=fX hg
 rw [h3,h1]
 simp [oS]
theorem ij{K V:Type} [DecidableEq K](m:List (K×V×Nat))(k:K)(v:V)(c:Nat):cO (dm m k v c) k=some v:=by
 induction m with
 | nil=>simp [dm,cO]
 | cons x m ih=>
   by_cases h:x.1=k
   ·simp [dm,h,cO]
   ·have e:dm (x :: m) k v c=x :: dm m k v c:=by simp [dm,h]
    have e2:cO (x :: dm m k v c) k=cO (dm m k v c) k:=by simp [cO,h]
    rw [e,e2,ih]
theorem gO{K V:Type} [DecidableEq K]{m:List (K×V×Nat)}{k:K}(hg:cO m k=none)(v:V)(c:Nat):dm m k v c=m ++ [(k,v,c)]:=by
 have hk:=x3 m k
 cases hi:m.findIdx? fun x=>decide (x.1=k)with
 | none=>rw [hi] at hk;exact hk.2.2 v c
 | some i=>
   rw [hi] at hk
   obtain⟨x,_,_,h3,_⟩:=hk
   rw [hg] at h3;cases h3
theorem Big.dom{K X:Type}{P:K→X→Own}(hP: ∀ k x H Fp z,P k x H Fp→Fp z→ ∃ vo,H.at' z=some vo){H:aV}{z:Nat}: ∀ {m:List (K×X)} {Fp:Nat→Prop},Big P m H Fp→Fp z→ ∃ vo,H.at' z=some vo
 | [],_,h,hz=>(h z hz).elim
 | x :: m,_,⟨G1,G2,h1,h2,_,h4⟩,hz=>by
   rcases(h4 z).1 hz with hz|hz
   ·exact hP _ _ _ _ _ h1 hz
   ·exact Big.dom hP h2 hz
theorem Tb.lt{t a b:Nat}{ml:MLk}{cl:Nat}{mp:MPt}{cp:Nat}{F1 F2:Nat→Prop}{H:aV}{nx:Nat}(h:Tb t a b ml cl mp cp F1 F2 H)(hu: ∀ b vo,H.at' b=some vo→b<nx):t<nx∧a<nx∧b<nx∧(∀ z,F1 z→z<nx)∧ ∀ z,F2 z→z<nx:=by
 refine⟨hu _ _ h.tab,hu _ _ h.locks,hu _ _ h.parties,fun z hz=>?_,fun z hz=>?_⟩
 ·obtain⟨vo,hv⟩:=Big.dom (fun k x H Fp z ⟨r,h1,h2,_,h4⟩ hz=>by
   rcases(h4 z).1 hz with rfl|rfl
   ·exact⟨_,h1⟩
   ·exact⟨_,h2⟩) h.bl hz
  exact hu _ _ hv
 ·obtain⟨vo,hv⟩:=Big.dom (fun k x H Fp z ⟨r,h1,h2,_,h4⟩ hz=>by
   rcases(h4 z).1 hz with rfl|rfl
   ·exact⟨_,h1⟩
   ·exact⟨_,h2⟩) h.bp hz
  exact hu _ _ hv
theorem Tb.putLock{t a b:Nat}{ml:MLk}{cl:Nat}{mp:MPt}{cp:Nat}{F1 F2:Nat→Prop}{H:aV}(h:Tb t a b ml cl mp cp F1 F2 H){k:ByteArray}{n:Nat}{x y:Nat×List Nat}{G:Nat→Prop}(hg:cO ml k=some (n,x))(hG:Big PL (kv (ik ml k)) H G)(hGF: ∀ z,G z→F1 z)(hnF:F1 n)(hn: ¬ G n){H':aV}{r:Nat}(e:PL k (n,y) H' (fun z=>z=n∨z=r))(e4:r≠t∧r≠a∧r≠b∧ ¬ G r∧ ¬ F2 r)(fr: ∀ z,(z=t∨z=a∨z=b∨G z∨F2 z)→H'.at' z=H.at' z) :
 Tb t a b (dm ml k (n,y) cl) cl mp cp (fun z=>(z=n∨z=r)∨G z) F2 H':=by
 obtain⟨A,B,s,h1,h2,h3,h4⟩:=fX hg
 have hk:iz ml k cl=cl:=by simp [iz,hg]
 have ok':=h.okl.put k (n,y)
 rw [hk] at ok'
 have hb':Big PL (kv (dm ml k (n,y) cl)) H' (fun z=>(z=n∨z=r)∨G z):=by
  rw [h4] at hG
  rw [h3]
  simp only [kv,zU,zR] at hG ⊢
  refine Big.jx e (Big.frame eR _ _ _ _ hG fun z hz=>fr z (.inr (.inr (.inr (.inl hz))))) fun z hz=>?_
  rcases hz with rfl|rfl
  ·exact hn
  ·exact e4.2.2.2.1
 have hm:H'.at' a=some (lmV (dm ml k (n,y) cl) cl):=(fr a (by simp)).trans (h.locks.trans (congrArg (fun l=>some (VO.map l cl)) (nW hg cl).symm))
 have ho:H'.at' b=some (pmV mp cp):=(fr b (by simp)).trans h.parties
 have hn':n≠t∧n≠a∧n≠b∧ ¬ F2 n:=h.d1 n hnF
 have d: ∀ z,((z=n∨z=r)∨G z)→z≠t∧z≠a∧z≠b∧ ¬ F2 z:=fun z hz=>by
  rcases hz with (rfl|rfl)|hz
  ·exact hn'
  ·exact⟨e4.1,e4.2.1,e4.2.2.1,e4.2.2.2.2⟩
  ·exact h.d1 z (hGF z hz)
 have ob:Big PP (kv mp) H' F2:=Big.frame eQ _ _ _ _ h.bp fun z hz=>fr z (.inr (.inr (.inr (.inr hz))))
 exact⟨(fr t (by simp)).trans h.tab,hm,ho,ok',h.okp,hb',ob,h.ne,d,h.d2⟩
theorem Tb.delLock{t a b:Nat}{ml:MLk}{cl:Nat}{mp:MPt}{cp:Nat}{F1 F2:Nat→Prop}{H:aV}(h:Tb t a b ml cl mp cp F1 F2 H){k:ByteArray}{G:Nat→Prop}(hG:Big PL (kv (ik ml k)) H G)(hGF: ∀ z,G z→F1 z){H':aV}(hm:H'.at' a=some (lmV (ik ml k) cl))(fr: ∀ z,(z=t∨z=b∨G z∨F2 z)→H'.at' z=H.at' z) :
 Tb t a b (ik ml k) cl mp cp G F2 H':=by
 have ok':=h.okl.del k
 have hb':Big PL (kv (ik ml k)) H' G:=Big.frame eR _ _ _ _ hG fun z hz=>fr z (.inr (.inr (.inl hz)))
 have ho:H'.at' b=some (pmV mp cp):=(fr b (by simp)).trans h.parties
 have d: ∀ z,G z→z≠t∧z≠a∧z≠b∧ ¬ F2 z:=fun z hz=>h.d1 z (hGF z hz)
 have ob:Big PP (kv mp) H' F2:=Big.frame eQ _ _ _ _ h.bp fun z hz=>fr z (.inr (.inr (.inr hz)))
 exact⟨(fr t (by simp)).trans h.tab,hm,ho,ok',h.okp,hb',ob,h.ne,d,h.d2⟩
theorem Tb.addLock{t a b:Nat}{ml:MLk}{cl:Nat}{mp:MPt}{cp:Nat}{F1 F2:Nat→Prop}{H:aV}(h:Tb t a b ml cl mp cp F1 F2 H){k:ByteArray}{n:Nat}{y:Nat×List Nat}(hg:cO ml k=none){H':aV}{r:Nat}(e:PL k (n,y) H' (fun z=>z=n∨z=r))(e3:n≠t∧n≠a∧n≠b∧ ¬ F1 n∧ ¬ F2 n)(e4:r≠t∧r≠a∧r≠b∧ ¬ F1 r∧ ¬ F2 r)(hm:H'.at' a=some (lmV (dm ml k (n,y) cl) (iz ml k cl)))(fr: ∀ z,(z=t∨z=b∨F1 z∨F2 z)→H'.at' z=H.at' z) :
 Tb t a b (dm ml k (n,y) cl) (iz ml k cl) mp cp (fun z=>(z=n∨z=r)∨F1 z) F2 H':=by
 have ok':=h.okl.put k (n,y)
 have hb':Big PL (kv (dm ml k (n,y) cl)) H' (fun z=>(z=n∨z=r)∨F1 z):=by
  rw [gO hg]
  have h0:=Big.frame eR _ _ _ _ h.bl fun z hz=>fr z (.inr (.inr (.inl hz)))
  simp only [kv,zU,zR,List.map_nil]
  refine Big.jx (A:=kv ml) (B:= []) e (by rw [List.append_nil];exact h0) fun z hz=>?_
  rcases hz with rfl|rfl
  ·exact e3.2.2.2.1
  ·exact e4.2.2.2.1
 have ho:H'.at' b=some (pmV mp cp):=(fr b (by simp)).trans h.parties
 have d: ∀ z,((z=n∨z=r)∨F1 z)→z≠t∧z≠a∧z≠b∧ ¬ F2 z:=fun z hz=>by
  rcases hz with (rfl|rfl)|hz
  ·exact⟨e3.1,e3.2.1,e3.2.2.1,e3.2.2.2.2⟩
  ·exact⟨e4.1,e4.2.1,e4.2.2.1,e4.2.2.2.2⟩
  ·exact h.d1 z hz
 have ob:Big PP (kv mp) H' F2:=Big.frame eQ _ _ _ _ h.bp fun z hz=>fr z (.inr (.inr (.inr hz)))
 exact⟨(fr t (by simp)).trans h.tab,hm,ho,ok',h.okp,hb',ob,h.ne,d,h.d2⟩
theorem Tb.putParty{t a b:Nat}{ml:MLk}{cl:Nat}{mp:MPt}{cp:Nat}{F1 F2:Nat→Prop}{H:aV}(h:Tb t a b ml cl mp cp F1 F2 H){k:Nat}{n:Nat}{x y:List ByteArray×ByteArray}{G:Nat→Prop}(hg:cO mp k=some (n,x))(hG:Big PP (kv (ik mp k)) H G)(hGF: ∀ z,G z→F2 z)(hnF:F2 n)(hn: ¬ G n){H':aV}{r:Nat}(e:PP k (n,y) H' (fun z=>z=n∨z=r))(e4:r≠t∧r≠a∧r≠b∧ ¬ G r∧ ¬ F1 r)(fr: ∀ z,(z=t∨z=a∨z=b∨G z∨F1 z)→H'.at' z=H.at' z) :
 Tb t a b ml cl (dm mp k (n,y) cp) cp F1 (fun z=>(z=n∨z=r)∨G z) H':=by
 obtain⟨A,B,s,h1,h2,h3,h4⟩:=fX hg
 have hk:iz mp k cp=cp:=by simp [iz,hg]
 have ok':=h.okp.put k (n,y)
 rw [hk] at ok'
 have hb':Big PP (kv (dm mp k (n,y) cp)) H' (fun z=>(z=n∨z=r)∨G z):=by
  rw [h4] at hG
  rw [h3]
  simp only [kv,zU,zR] at hG ⊢
  refine Big.jx e (Big.frame eQ _ _ _ _ hG fun z hz=>fr z (.inr (.inr (.inr (.inl hz))))) fun z hz=>?_
  rcases hz with rfl|rfl
  ·exact hn
  ·exact e4.2.2.2.1
 have hm:H'.at' b=some (pmV (dm mp k (n,y) cp) cp):=(fr b (by simp)).trans (h.parties.trans (congrArg (fun l=>some (VO.map l cp)) (nW hg cp).symm))
 have ho:H'.at' a=some (lmV ml cl):=(fr a (by simp)).trans h.locks
 have hn':n≠t∧n≠a∧n≠b∧ ¬ F1 n:=⟨(h.d2 n hnF).1,(h.d2 n hnF).2.1,(h.d2 n hnF).2.2,fun q=>(h.d1 n q).2.2.2 hnF⟩
 have d: ∀ z,((z=n∨z=r)∨G z)→z≠t∧z≠a∧z≠b∧ ¬ F1 z:=fun z hz=>by
  rcases hz with (rfl|rfl)|hz
  ·exact hn'
  ·exact⟨e4.1,e4.2.1,e4.2.2.1,e4.2.2.2.2⟩
  ·exact⟨(h.d2 z (hGF z hz)).1,(h.d2 z (hGF z hz)).2.1,(h.d2 z (hGF z hz)).2.2,fun q=>(h.d1 z q).2.2.2 (hGF z hz)⟩
 have ob:Big PL (kv ml) H' F1:=Big.frame eR _ _ _ _ h.bl fun z hz=>fr z (.inr (.inr (.inr (.inr hz))))
 exact⟨(fr t (by simp)).trans h.tab,ho,hm,h.okl,ok',ob,hb',h.ne,fun z hz=>⟨(h.d1 z hz).1,(h.d1 z hz).2.1,(h.d1 z hz).2.2.1,fun q=>(d z q).2.2.2 hz⟩,fun z hz=>⟨(d z hz).1,(d z hz).2.1,(d z hz).2.2.1⟩⟩
theorem Tb.delParty{t a b:Nat}{ml:MLk}{cl:Nat}{mp:MPt}{cp:Nat}{F1 F2:Nat→Prop}{H:aV}(h:Tb t a b ml cl mp cp F1 F2 H){k:Nat}{G:Nat→Prop}(hG:Big PP (kv (ik mp k)) H G)(hGF: ∀ z,G z→F2 z){H':aV}(hm:H'.at' b=some (pmV (ik mp k) cp))(fr: ∀ z,(z=t∨z=a∨G z∨F1 z)→H'.at' z=H.at' z) :
 Tb t a b ml cl (ik mp k) cp F1 G H':=by
 have ok':=h.okp.del k
 have hb':Big PP (kv (ik mp k)) H' G:=Big.frame eQ _ _ _ _ hG fun z hz=>fr z (.inr (.inr (.inl hz)))
 have ho:H'.at' a=some (lmV ml cl):=(fr a (by simp)).trans h.locks
 have d: ∀ z,G z→z≠t∧z≠a∧z≠b∧ ¬ F1 z:=fun z hz=>⟨(h.d2 z (hGF z hz)).1,(h.d2 z (hGF z hz)).2.1,(h.d2 z (hGF z hz)).2.2,fun q=>(h.d1 z q).2.2.2 (hGF z hz)⟩
 have ob:Big PL (kv ml) H' F1:=Big.frame eR _ _ _ _ h.bl fun z hz=>fr z (.inr (.inr (.inr hz)))
 exact⟨(fr t (by simp)).trans h.tab,ho,hm,h.okl,ok',ob,hb',h.ne,fun z hz=>⟨(h.d1 z hz).1,(h.d1 z hz).2.1,(h.d1 z hz).2.2.1,fun q=>(d z q).2.2.2 hz⟩,fun z hz=>⟨(d z hz).1,(d z hz).2.1,(d z hz).2.2.1⟩⟩
theorem Tb.addParty{t a b:Nat}{ml:MLk}{cl:Nat}{mp:MPt}{cp:Nat}{F1 F2:Nat→Prop}{H:aV}(h:Tb t a b ml cl mp cp F1 F2 H){k:Nat}{n:Nat}{y:List ByteArray×ByteArray}(hg:cO mp k=none){H':aV}{r:Nat}(e:PP k (n,y) H' (fun z=>z=n∨z=r))(e3:n≠t∧n≠a∧n≠b∧ ¬ F2 n∧ ¬ F1 n)(e4:r≠t∧r≠a∧r≠b∧ ¬ F2 r∧ ¬ F1 r)(hm:H'.at' b=some (pmV (dm mp k (n,y) cp) (iz mp k cp)))(fr: ∀ z,(z=t∨z=a∨F2 z∨F1 z)→H'.at' z=H.at' z) :
 Tb t a b ml cl (dm mp k (n,y) cp) (iz mp k cp) F1 (fun z=>(z=n∨z=r)∨F2 z) H':=by
 have ok':=h.okp.put k (n,y)
 have hb':Big PP (kv (dm mp k (n,y) cp)) H' (fun z=>(z=n∨z=r)∨F2 z):=by
  rw [gO hg]
  have h0:=Big.frame eQ _ _ _ _ h.bp fun z hz=>fr z (.inr (.inr (.inl hz)))
  simp only [kv,zU,zR,List.map_nil]
  refine Big.jx (A:=kv mp) (B:= []) e (by rw [List.append_nil];exact h0) fun z hz=>?_
  rcases hz with rfl|rfl
  ·exact e3.2.2.2.1
  ·exact e4.2.2.2.1
 have ho:H'.at' a=some (lmV ml cl):=(fr a (by simp)).trans h.locks
 have d: ∀ z,((z=n∨z=r)∨F2 z)→z≠t∧z≠a∧z≠b∧ ¬ F1 z:=fun z hz=>by
  rcases hz with (rfl|rfl)|hz
  ·exact⟨e3.1,e3.2.1,e3.2.2.1,e3.2.2.2.2⟩
  ·exact⟨e4.1,e4.2.1,e4.2.2.1,e4.2.2.2.2⟩
  ·exact⟨(h.d2 z hz).1,(h.d2 z hz).2.1,(h.d2 z hz).2.2,fun q=>(h.d1 z q).2.2.2 hz⟩
 have ob:Big PL (kv ml) H' F1:=Big.frame eR _ _ _ _ h.bl fun z hz=>fr z (.inr (.inr (.inr hz)))
 exact⟨(fr t (by simp)).trans h.tab,ho,hm,h.okl,ok',ob,hb',h.ne,fun z hz=>⟨(h.d1 z hz).1,(h.d1 z hz).2.1,(h.d1 z hz).2.2.1,fun q=>(d z q).2.2.2 hz⟩,fun z hz=>⟨(d z hz).1,(d z hz).2.1,(d z hz).2.2.1⟩⟩
theorem im{w:ByteArray}(h:w.size=0):(w == (⟨#[]⟩:ByteArray))=true:=by
 have:w=⟨#[]⟩:=by
  obtain⟨⟨l⟩⟩:=w
  cases l with
  | nil=>rfl
  | cons a l=>cases h
 subst this
 rfl
theorem jm{w:ByteArray}(h:w.size≠0):(w == (⟨#[]⟩:ByteArray))=false:=by
 cases hq:(w == (⟨#[]⟩:ByteArray))with
 | false=>rfl
 | true=>
   have e:=(MapKept.bytes_beq w ⟨#[]⟩).1 hq
   subst e
   exact absurd rfl h
theorem xA{t:Nat}{T:LT}{Fp:Nat→Prop}{H:aV}{nx bt bo bf:Nat}(hT:TabAt t T Fp H)(o who:Nat)(r:Bool)(hbt:H.at' bt=some (aG 26 [.ptr t 0]))(hbo:H.at' bo=some (aG 23 [.sc (.int .u64 (o:Int))]))(hc:T.chase o 1001 who=some r):Fnc Try.prog 53 [.sc (.int .u64 (who:Int)),.ptr bt 0,.ptr bo 0,.ptr bf 0] H nx (fun q=>q=(.sc (.bool r),H,nx)):=by
 obtain⟨a,b,ml,cl,mp,cp,F1,F2,h,rfl,hF⟩:=hT
 have htab:=h.tab
 have hloc:=h.locks
 have hpar:=h.parties
 refine Fnc.start Try.func53 rfl rfl ?_
 (repeat(first|refine ao ?_|refine ai ?_|refine ah ?_|refine aT ?_|refine xc ?_|refine xb ?_|refine am rfl rfl rfl ?_|refine aj rfl rfl rfl ?_))
 refine ch (α:=Nat×Nat) (fun x=> [(0,.sc (.int .u64 (x.2:Int))),(1,.ptr bt 0),(2,.ptr bo 0),(3,.ptr bf 0),(6,.sc (.bool true)),(8,.sc (.int .i64 (x.1:Int)))]) (fun x H1 nx1=>H1=H∧nx1=nx∧x.1≤1001∧(b9 ml mp).chase o (1001-x.1) x.2=some r) (fun x=>1024-x.1) (0,who) ⟨rfl,rfl,zQ _,hc⟩ (SlIn.sub ⟨rfl,rfl,rfl,rfl,rfl,rfl,trivial⟩) ?_
 rintro⟨i,p⟩ H1 nx1 ⟨rfl,rfl,hi,hch⟩ again
 simp only at hi hch again ⊢
 (repeat(first|refine ao ?_|refine ai ?_))
 refine cu rfl rfl rfl rfl ?_ ?_
 all_goals intro h1
 ·obtain⟨n,hn⟩: ∃ n,1001-i=n+1:=by
   cases hq:1001-i with
   | zero=>rw [hq] at hch;cases hch
   | succ n=>exact⟨n,rfl⟩
  rw [hn] at hch
  unfold LT.chase at hch
  cases hg:cO mp p with
  | none=>
    rw [pA,hg] at hch
    (repeat(first|refine ao ?_|refine ai ?_|refine ah ?_|refine aT ?_|refine aN ?_|refine aD rfl ?_|refine am rfl rfl rfl ?_|refine aj rfl rfl rfl ?_|refine aJ rfl rfl rfl ?_|refine au rfl rfl rfl (F.fo _ _ rfl rfl) ?_|refine aL rfl rfl rfl (F.ag _ rfl) (by first|exact Tr.ae _ _ _|assumption) (by exact rfl) ?_|refine fL (m:=mp) (enc:=oE) (val:=jY) rfl rfl rfl rfl (F.un _ rfl) (oK) (by first|exact rfl|(focus(skip;first|exact Tr.ae _ _ _|assumption))) (hg) (F.ze _ rfl) ?_))
    refine cF rfl rfl rfl rfl ?_ ?_
    all_goals intro h2
    ·rw [if_pos (by omega)] at hch
     (repeat(first|refine ao ?_|refine ai ?_|refine ah ?_|refine aD rfl ?_|refine aj rfl rfl rfl ?_))
     ((apply bj Try.func53 (congrArg Array.toList Try.results53));(focus(repeat(first|exact ResIs.nil|apply ResIs.tmp rfl))))
     cases hch
     rfl
    ·rw [if_neg (by omega)] at hch
     (repeat(first|refine ao ?_|refine ai ?_|refine ah ?_|refine bA rfl ?_|refine aD rfl ?_|refine ay rfl ?_|refine am rfl rfl rfl ?_|refine aj rfl rfl rfl ?_|refine ce rfl rfl rfl rfl ?_|refine bO rfl rfl rfl rfl ?_|refine ix rfl ?_|refine fv rfl rfl rfl rfl rfl (F.un _ rfl) rfl ?_))
     ((apply bj Try.func53 (congrArg Array.toList Try.results53));(focus(repeat(first|exact ResIs.nil|apply ResIs.tmp rfl))))
     cases hch
     rfl
  | some x=>
    obtain⟨pn,ks,w⟩:=x
    rw [pA,hg] at hch
    obtain⟨pr,PG,g1,_⟩:=h.party hg
    (repeat(first|refine ao ?_|refine ai ?_|refine ah ?_|refine aT ?_|refine aN ?_|refine aD rfl ?_|refine am rfl rfl rfl ?_|refine aj rfl rfl rfl ?_|refine aJ rfl rfl rfl ?_|refine au rfl rfl rfl (F.fo _ _ rfl rfl) ?_|refine aL rfl rfl rfl (F.ag _ rfl) (by first|exact Tr.ae _ _ _|assumption) (by exact rfl) ?_|refine fu (m:=mp) (enc:=oE) (val:=jY) rfl rfl rfl rfl (F.un _ rfl) (oK) (by first|exact rfl|(focus(skip;first|exact Tr.ae _ _ _|assumption))) (hg) ?_))
    refine cF rfl rfl rfl rfl ?_ ?_
    all_goals intro h2
    ·rw [if_pos (by omega)] at hch
     (repeat(first|refine ao ?_|refine ai ?_|refine ah ?_|refine aD rfl ?_|refine aj rfl rfl rfl ?_))
     ((apply bj Try.func53 (congrArg Array.toList Try.results53));(focus(repeat(first|exact ResIs.nil|apply ResIs.tmp rfl))))
     cases hch
     rfl
    ·rw [if_neg (by omega)] at hch
     simp only [zV] at hch
     dsimp only [jY]
     by_cases hw:w.size=0
     ·rw [if_pos hw] at hch
      have he:=im hw
      (repeat(first|refine ao ?_|refine ai ?_|refine ah ?_|refine bA rfl ?_|refine aD rfl ?_|refine ay rfl ?_|refine am rfl rfl rfl ?_|refine aj rfl rfl rfl ?_|refine bO rfl rfl rfl rfl ?_|refine aJ rfl rfl rfl ?_|refine au rfl rfl rfl (F.fo _ _ rfl rfl) ?_|refine ix rfl ?_|refine dD rfl rfl rfl rfl (F.un _ rfl) rfl ?_|refine aL rfl rfl rfl (F.ag _ rfl) (by first|exact Tr.ae _ _ _|assumption) (by exact rfl) ?_|refine fF rfl rfl rfl rfl he ?_))
      ((apply bj Try.func53 (congrArg Array.toList Try.results53));(focus(repeat(first|exact ResIs.nil|apply ResIs.tmp rfl))))
      cases hch
      rfl
     ·rw [if_neg hw] at hch
      have he:=jm hw
      cases hgl:cO ml w with
      | none=>rw [lC,hgl] at hch;cases hch
      | some y=>
        obtain⟨ln,ow,l⟩:=y
        rw [lC,hgl] at hch
        simp only [zV] at hch
        obtain⟨lr,LG,k1,_⟩:=h.lock hgl
        (repeat(first|refine ao ?_|refine ai ?_|refine ah ?_|refine aM ?_|refine aN ?_|refine ay rfl ?_|refine am rfl rfl rfl ?_|refine aj rfl rfl rfl ?_|refine bO rfl rfl rfl rfl ?_|refine aJ rfl rfl rfl ?_|refine au rfl rfl rfl (F.fo _ _ rfl rfl) ?_|refine dD rfl rfl rfl rfl (F.un _ rfl) rfl ?_|refine aL rfl rfl rfl (F.ag _ rfl) (by first|exact Tr.ae _ _ _|assumption) (by exact rfl) ?_|refine fF rfl rfl rfl rfl he ?_))
        refine bP (by kernel_rfl) (by kernel_rfl) ?_
        (repeat(first|refine aX rfl rfl rfl ?_|refine dF rfl rfl rfl ?_|refine bD rfl rfl rfl ?_|refine bu rfl rfl rfl (F.fo _ _ rfl rfl) ?_|refine bK rfl rfl rfl (F.ag _ rfl) (by first|exact Tr.ae _ _ _|assumption) (by exact rfl) ?_|refine mJ (m:=ml) (enc:=kE) (val:=ke) rfl rfl rfl rfl (F.un _ rfl) (kK) (by first|exact rfl|(focus(skip;first|exact Tr.ae _ _ _|assumption))) (hgl) ?_))
        (refine be ?_);(refine⟨by kernel_rfl,?_,?_⟩);(focus(repeat(first|exact trivial|refine⟨.inl rfl,?_⟩)))
        dsimp only [wrL,ke]
        (repeat(first|refine ai ?_|refine ah ?_|refine aM ?_|refine am rfl rfl rfl ?_|refine bT rfl rfl rfl rfl (by omega) (by omega) ?_))
        refine again _ _ _ (i+1,ow) ⟨rfl,rfl,by simp only;omega,?_⟩ (by simp only;omega) (SlIn.sub (by repeat(first|exact trivial|refine⟨rfl,?_⟩)))
        simp only
        rw [show 1001-(i+1)=n by omega]
        exact hch
 ·omega
theorem TabAt.frame{t:Nat}{T:LT}{Fp:Nat→Prop}{H H':aV}(hT:TabAt t T Fp H)(hf: ∀ n,Fp n→H'.at' n=H.at' n):TabAt t T Fp H':=by
 obtain⟨a,b,ml,cl,mp,cp,F1,F2,h,rfl,hF⟩:=hT
 refine⟨a,b,ml,cl,mp,cp,F1,F2,⟨(hf _ ((hF _).2 (.inl rfl))).trans h.tab,(hf _ ((hF _).2 (.inr (.inl rfl)))).trans h.locks,(hf _ ((hF _).2 (.inr (.inr (.inl rfl))))).trans h.parties,h.okl,h.okp,Big.frame eR _ _ _ _ h.bl fun z hz=>hf _ ((hF _).2 (.inr (.inr (.inr (.inl hz))))),Big.frame eQ _ _ _ _ h.bp fun z hz=>hf _ ((hF _).2 (.inr (.inr (.inr (.inr hz))))),h.ne,h.d1,h.d2⟩,rfl,hF⟩
theorem TabAt.lt{t:Nat}{T:LT}{Fp:Nat→Prop}{H:aV}{nx:Nat}(hT:TabAt t T Fp H)(hu: ∀ b vo,H.at' b=some vo→b<nx): ∀ n,Fp n→n<nx:=by
 obtain⟨a,b,ml,cl,mp,cp,F1,F2,h,rfl,hF⟩:=hT
 obtain⟨h1,h2,h3,h4,h5⟩:=h.lt hu
 intro n hn
 rcases(hF n).1 hn with rfl|rfl|rfl|hn|hn
 ·exact h1
 ·exact h2
 ·exact h3
 ·exact h4 _ hn
 ·exact h5 _ hn
theorem wL{t:Nat}{T:LT}{Fp:Nat→Prop}{H:aV}{nx:Nat}(hT:TabAt t T Fp H)(o who:Nat)(r:Bool)(hc:T.chase o 1001 who=some r):Fnc Try.prog 47 [.ptr t 0,.sc (.int .u64 (o:Int)),.sc (.int .u64 (who:Int))] H nx (fun q=>q.1 = .sc (.bool r)∧nx≤q.2.2∧ ∀ n,n<nx→q.2.1.at' n=H.at' n):=by
 refine Fnc.start Try.func47 rfl rfl ?_
 refine b4 fun hund=>?_
 (repeat(first|refine ao ?_|refine ai ?_|refine ah ?_|refine am rfl rfl rfl ?_|refine aj rfl rfl rfl ?_|refine jA rfl rfl rfl rfl ?_|refine cI rfl rfl rfl rfl (F.sz _ rfl) (by first|exact rfl|(focus((repeat(exact Tr.ae _ _ _));done))) rfl (by exact zB rfl) rfl ?_|refine jC rfl rfl (F.zl _ rfl) ?_|refine vg rfl rfl rfl rfl ?_|refine aL rfl rfl rfl (F.ag _ rfl) (by(repeat(exact Tr.ae _ _ _));done) (by exact rfl) ?_))
 have hlt:=hT.lt hund
 refine ve rfl rfl rfl rfl (by kernel_rfl) rfl (xA (bt:=nx) (bo:=nx+1) (bf:=nx+1+1) (hT.frame fun n hn=>?_) o who r (by(repeat(first|exact Tr.ae _ _ _|refine(Tr.aa _ _ (by omega)).trans ?_));done) (by(repeat(first|exact Tr.ae _ _ _|refine(Tr.aa _ _ (by omega)).trans ?_));done) hc) ?_
 ·have:=hlt n hn
  exact(Tr.aa _ _ (by omega)).trans ((Tr.aa _ _ (by omega)).trans ((Tr.aa _ _ (by omega)).trans (Tr.aa _ _ (by omega))))
 (repeat(first|refine ah ?_|refine aj rfl rfl rfl ?_))
 ((apply bj Try.func47 (congrArg Array.toList Try.results47));(focus(repeat(first|exact ResIs.nil|apply ResIs.tmp rfl))))
 exact⟨rfl,zX (zY _) (zX (zY _) (zY _)),fun n hn=>(Tr.aa _ _ (by omega)).trans ((Tr.aa _ _ (by omega)).trans ((Tr.aa _ _ (by omega)).trans (Tr.aa _ _ (by omega))))⟩
theorem is{t:Nat}{T:LT}{Fp:Nat→Prop}{H:aV}{nx:Nat}(hT:TabAt t T Fp H)(v:SV):Chg t T v Fp H nx (v,H,nx):=⟨rfl,Fp,hT,Step.refl⟩
theorem nT{K V:Type} [DecidableEq K](m:List (K×V))(k:K)(x y:V):ca (ca m k x) k y=ca m k y:=by
 induction m with
 | nil=>simp [ca]
 | cons z m ih=>
   by_cases h:z.1=k
   ·simp [ca,h]
   ·simp [ca,h,ih]
theorem Tb.newParty{t a b:Nat}{ml:MLk}{cl:Nat}{mp:MPt}{cp:Nat}{F1 F2:Nat→Prop}{H:aV}{nx:Nat}(h:Tb t a b ml cl mp cp F1 F2 H)(hu: ∀ b vo,H.at' b=some vo→b<nx){o:Nat}(hg:cO mp o=none){H':aV}(e1:H'.at' (nx+1)=some (aG 72 [.slu nx 0 0,.sc (.string ⟨#[]⟩)]))(e2:H'.at' nx=some (sR false []))(hm:H'.at' b=some (pmV (dm mp o (nx+1,([],⟨#[]⟩)) cp) (iz mp o cp)))(fr: ∀ z,z<nx→z≠b→H'.at' z=H.at' z) :
 Tb t a b ml cl (dm mp o (nx+1,([],⟨#[]⟩)) cp) (iz mp o cp) F1 (fun z=>(z=nx+1∨z=nx)∨F2 z) H'∧Step (All t a b F1 F2) (All t a b F1 (fun z=>(z=nx+1∨z=nx)∨F2 z)) H nx H' (nx+1+1):=by
 obtain⟨ut,ua,ub,u1,u2⟩:=h.lt hu
 have hne:=h.ne
 refine⟨h.addParty hg ⟨nx,e1,e2,by omega,fun z=>Iff.rfl⟩ ⟨by omega,by omega,by omega,fun q=>by have:=u2 _ q;omega,fun q=>by have:=u1 _ q;omega⟩ ⟨by omega,by omega,by omega,fun q=>by have:=u2 _ q;omega,fun q=>by have:=u1 _ q;omega⟩ hm fun z hz=>?_,by omega,fun z hz=>?_,fun z hz hf=>fr z hz fun e=>hf (.inr (.inr (.inl e)))⟩
 ·rcases hz with rfl|rfl|hz|hz
  ·exact fr _ ut hne.2.1
  ·exact fr _ ua hne.2.2
  ·exact fr _ (u2 _ hz) (h.d2 _ hz).2.2
  ·exact fr _ (u1 _ hz) (h.d1 _ hz).2.2.1
 ·rcases hz with hz|hz|hz|hz|((hz|hz)|hz)
  ·exact .inl (.inl hz)
  ·exact .inl (.inr (.inl hz))
  ·exact .inl (.inr (.inr (.inl hz)))
  ·exact .inl (.inr (.inr (.inr (.inl hz))))
  ·exact .inr (by omega)
  ·exact .inr (by omega)
  ·exact .inl (.inr (.inr (.inr (.inr hz))))
theorem Tb.newLock{t a b:Nat}{ml:MLk}{cl:Nat}{mp:MPt}{cp:Nat}{F1 F2:Nat→Prop}{H:aV}{nx:Nat}(h:Tb t a b ml cl mp cp F1 F2 H)(hu: ∀ b vo,H.at' b=some vo→b<nx){k:ByteArray}{o:Nat}(hg:cO ml k=none){H':aV}(e1:H'.at' (nx+1)=some (aG 75 [.sc (.int .u64 (o:Int)),.slu nx 0 0]))(e2:H'.at' nx=some (uR false []))(hm:H'.at' a=some (lmV (dm ml k (nx+1,(o,[])) cl) (iz ml k cl)))(fr: ∀ z,z<nx→z≠a→H'.at' z=H.at' z) :
 Tb t a b (dm ml k (nx+1,(o,[])) cl) (iz ml k cl) mp cp (fun z=>(z=nx+1∨z=nx)∨F1 z) F2 H'∧Step (All t a b F1 F2) (All t a b (fun z=>(z=nx+1∨z=nx)∨F1 z) F2) H nx H' (nx+1+1):=by
 obtain⟨ut,ua,ub,u1,u2⟩:=h.lt hu
 have hne:=h.ne
 refine⟨h.addLock hg ⟨nx,e1,e2,by omega,fun z=>Iff.rfl⟩ ⟨by omega,by omega,by omega,fun q=>by have:=u1 _ q;omega,fun q=>by have:=u2 _ q;omega⟩ ⟨by omega,by omega,by omega,fun q=>by have:=u1 _ q;omega,fun q=>by have:=u2 _ q;omega⟩ hm fun z hz=>?_,by omega,fun z hz=>?_,fun z hz hf=>fr z hz fun e=>hf (.inr (.inl e))⟩
 ·rcases hz with rfl|rfl|hz|hz
  ·exact fr _ ut hne.1
  ·exact fr _ ub (Ne.symm hne.2.2)
  ·exact fr _ (u1 _ hz) (h.d1 _ hz).2.1
  ·exact fr _ (u2 _ hz) (h.d2 _ hz).2.1
 ·rcases hz with hz|hz|hz|((hz|hz)|hz)|hz
  ·exact .inl (.inl hz)
  ·exact .inl (.inr (.inl hz))
  ·exact .inl (.inr (.inr (.inl hz)))
  ·exact .inr (by omega)
  ·exact .inr (by omega)
  ·exact .inl (.inr (.inr (.inr (.inl hz))))
  ·exact .inl (.inr (.inr (.inr (.inr hz))))
theorem Tb.turnParty{t a b:Nat}{ml:MLk}{cl:Nat}{mp:MPt}{cp:Nat}{F1 F2:Nat→Prop}{H:aV}{nx:Nat}(h:Tb t a b ml cl mp cp F1 F2 H)(hu: ∀ b vo,H.at' b=some vo→b<nx){o n:Nat}{ks:List ByteArray}{w:ByteArray}(hg:cO mp o=some (n,(ks,w))) :
 ∃ r,H.at' n=some (aG 72 [.slu r 0 ks.length,.sc (.string w)])∧H.at' r=some (sR false ks)∧n≠r∧n<nx∧r<nx∧F2 n∧F2 r ∧
  ∀ {H':aV} {nx' r':Nat} (ks':List ByteArray) (w':ByteArray),nx≤nx'→(nx≤r'∨r'=r)→H'.at' n=some (aG 72 [.slu r' 0 ks'.length,.sc (.string w')])→H'.at' r'=some (sR false ks')→(∀ z,z<nx→z≠n→z≠r→H'.at' z=H.at' z) →
   ∃ F2',Tb t a b ml cl (dm mp o (n,(ks',w')) cp) cp F1 F2' H'∧Step (All t a b F1 F2) (All t a b F1 F2') H nx H' nx':=by
 obtain⟨ut,ua,ub,u1,u2⟩:=h.lt hu
 obtain⟨r,G,g1,g2,g3,g4,g5,g6,g7,n1,n2,n3,n4,r1,r2,r3,r4⟩:=h.party hg
 have hGF: ∀ z,G z→F2 z:=fun z hz=>(g7 z).2 (.inr hz)
 have fn:F2 n:=(g7 n).2 (.inl (.inl rfl))
 have fr':F2 r:=(g7 r).2 (.inl (.inr rfl))
 have ln:=u2 _ fn
 have lr:=u2 _ fr'
 refine⟨r,g1,g2,g3,ln,lr,fn,fr',fun {H' nx' r'} ks' w' hle hr' e1 e2 fr=>⟨fun z=>(z=n∨z=r')∨G z,h.putParty hg g4 hGF fn g5 ⟨r',e1,e2,by rcases hr' with q|q <;> omega,fun z=>Iff.rfl⟩ ?_ fun z hz=>?_,hle,fun z hz=>?_,fun z hz hf=>fr z hz (fun e=>hf (.inr (.inr (.inr (.inr (e ▸ fn)))))) (fun e=>hf (.inr (.inr (.inr (.inr (e ▸ fr'))))))⟩⟩
 ·rcases hr' with q|q
  ·exact⟨by omega,by omega,by omega,fun e=>by have:=u2 _ (hGF _ e);omega,fun e=>by have:=u1 _ e;omega⟩
  ·subst q
   exact⟨r1,r2,r3,g6,r4⟩
 ·rcases hz with rfl|rfl|rfl|hz|hz
  ·exact fr _ ut (Ne.symm n1) (Ne.symm r1)
  ·exact fr _ ua (Ne.symm n2) (Ne.symm r2)
  ·exact fr _ ub (Ne.symm n3) (Ne.symm r3)
  ·exact fr _ (u2 _ (hGF _ hz)) (fun e=>g5 (e ▸ hz)) (fun e=>g6 (e ▸ hz))
  ·exact fr _ (u1 _ hz) (fun e=>n4 (e ▸ hz)) (fun e=>r4 (e ▸ hz))
 ·rcases hz with hz|hz|hz|hz|((hz|hz)|hz)
  ·exact .inl (.inl hz)
  ·exact .inl (.inr (.inl hz))
  ·exact .inl (.inr (.inr (.inl hz)))
  ·exact .inl (.inr (.inr (.inr (.inl hz))))
  ·exact .inl (.inr (.inr (.inr (.inr (hz ▸ fn)))))
  ·rcases hr' with q|q
   ·exact .inr (by omega)
   ·exact .inl (.inr (.inr (.inr (.inr ((hz.trans q) ▸ fr')))))
  ·exact .inl (.inr (.inr (.inr (.inr (hGF z hz)))))
theorem Tb.turnLock{t a b:Nat}{ml:MLk}{cl:Nat}{mp:MPt}{cp:Nat}{F1 F2:Nat→Prop}{H:aV}{nx:Nat}(h:Tb t a b ml cl mp cp F1 F2 H)(hu: ∀ b vo,H.at' b=some vo→b<nx){k:ByteArray}{n o:Nat}{l:List Nat}(hg:cO ml k=some (n,(o,l))) :
 ∃ r,H.at' n=some (aG 75 [.sc (.int .u64 (o:Int)),.slu r 0 l.length])∧H.at' r=some (uR false l)∧n≠r∧n<nx∧r<nx∧F1 n∧F1 r ∧
  ∀ {H':aV} {nx' r':Nat} (o':Nat) (l':List Nat),nx≤nx'→(nx≤r'∨r'=r)→H'.at' n=some (aG 75 [.sc (.int .u64 (o':Int)),.slu r' 0 l'.length])→H'.at' r'=some (uR false l')→(∀ z,z<nx→z≠n→z≠r→H'.at' z=H.at' z) →
   ∃ F1',Tb t a b (dm ml k (n,(o',l')) cl) cl mp cp F1' F2 H'∧Step (All t a b F1 F2) (All t a b F1' F2) H nx H' nx':=by
 obtain⟨ut,ua,ub,u1,u2⟩:=h.lt hu
 obtain⟨r,G,g1,g2,g3,g4,g5,g6,g7,n1,n2,n3,n4,r1,r2,r3,r4⟩:=h.lock hg
 have hGF: ∀ z,G z→F1 z:=fun z hz=>(g7 z).2 (.inr hz)
 have fn:F1 n:=(g7 n).2 (.inl (.inl rfl))
 have fr':F1 r:=(g7 r).2 (.inl (.inr rfl))
 have ln:=u1 _ fn
 have lr:=u1 _ fr'
 refine⟨r,g1,g2,g3,ln,lr,fn,fr',fun {H' nx' r'} o' l' hle hr' e1 e2 fr=>⟨fun z=>(z=n∨z=r')∨G z,h.putLock hg g4 hGF fn g5 ⟨r',e1,e2,by rcases hr' with q|q <;> omega,fun z=>Iff.rfl⟩ ?_ fun z hz=>?_,hle,fun z hz=>?_,fun z hz hf=>fr z hz (fun e=>hf (.inr (.inr (.inr (.inl (e ▸ fn)))))) (fun e=>hf (.inr (.inr (.inr (.inl (e ▸ fr'))))))⟩⟩
 ·rcases hr' with q|q
  ·exact⟨by omega,by omega,by omega,fun e=>by have:=u1 _ (hGF _ e);omega,fun e=>by have:=u2 _ e;omega⟩
  ·subst q
   exact⟨r1,r2,r3,g6,r4⟩
 ·rcases hz with rfl|rfl|rfl|hz|hz
  ·exact fr _ ut (Ne.symm n1) (Ne.symm r1)
  ·exact fr _ ua (Ne.symm n2) (Ne.symm r2)
  ·exact fr _ ub (Ne.symm n3) (Ne.symm r3)
  ·exact fr _ (u1 _ (hGF _ hz)) (fun e=>g5 (e ▸ hz)) (fun e=>g6 (e ▸ hz))
  ·exact fr _ (u2 _ hz) (fun e=>n4 (e ▸ hz)) (fun e=>r4 (e ▸ hz))
 ·rcases hz with hz|hz|hz|((hz|hz)|hz)|hz
  ·exact .inl (.inl hz)
  ·exact .inl (.inr (.inl hz))
  ·exact .inl (.inr (.inr (.inl hz)))
  ·exact .inl (.inr (.inr (.inr (.inl (hz ▸ fn)))))
  ·rcases hr' with q|q
   ·exact .inr (by omega)
   ·exact .inl (.inr (.inr (.inr (.inl ((hz.trans q) ▸ fr')))))
  ·exact .inl (.inr (.inr (.inr (.inl (hGF z hz)))))
  ·exact .inl (.inr (.inr (.inr (.inr hz))))
def x6(l:List Nat)(o:Nat):Int:=if o∈l then((l.idxOf o:Nat):Int) else -1
theorem uS(l:List Nat):(l.flatMap uV)=l.map (fun n:Nat=>Value.int .u64 (n:Int)):=by
 induction l with
 | nil=>rfl
 | cons a l ih=>rw [List.flatMap_cons,ih];rfl
theorem get_u{l:List Nat}{i:Nat}(hi:i<l.length):(l.flatMap uV)[i*1]? =some (.int .u64 ((l[i]:Nat):Int)):=by
 rw [uS,Nat.mul_one,List.getElem?_map,zz hi];rfl
theorem ui{l:List Nat}{o i:Nat}(hi:i<l.length)(h1:o∉l.take i)(h2:l[i]=o):x6 l o=(i:Int):=by
 have hm:o∈l:=h2 ▸ zZ hi
 have hl:l=l.take i ++ l[i] :: l.drop (i+1):=by simp
 unfold x6
 rw [if_pos hm]
 have:l.idxOf o=i:=by
  rw [hl,List.idxOf_append,if_neg h1,h2]
  simp
  omega
 rw [this]
theorem x5{l:List Nat}{o:Nat}(h1:o∉l):x6 l o = -1:=by unfold x6;rw [if_neg h1]
theorem x4{H:aV}{nx r:Nat}(l:List Nat)(o:Nat)(hr:H.at' r=some (uR false l))(hl:l.length<2000000):Fnc Try.prog 35 [.slu r 0 l.length,.sc (.int .u64 (o:Int))] H nx (fun q=>q=(.sc (.int .i64 (x6 l o)),H,nx)):=by
 refine Fnc.start Try.func35 rfl rfl ?_
 (repeat(first|refine ao ?_|refine ai ?_|refine ah ?_|refine aT ?_|refine am rfl rfl rfl ?_|refine aj rfl rfl rfl ?_|refine cr rfl rfl rfl (F.un _ rfl) ?_))
 refine ch (α:=Nat) (fun i=> [(0,.slu r 0 l.length),(1,.sc (.int .u64 (o:Int))),(7,.sc (.int .i64 (l.length:Int))),(8,.sc (.int .i64 (i:Int)))]) (fun i H1 nx1=>H1=H∧nx1=nx∧i≤l.length∧o∉l.take i) (fun i=>l.length-i) 0 ⟨rfl,rfl,zQ _,by simp⟩ (SlIn.sub (by repeat(first|exact trivial|refine⟨rfl,?_⟩))) ?_
 rintro i H1 nx1 ⟨rfl,rfl,hi,hno⟩ again
 (repeat(first|refine ao ?_|refine ai ?_))
 refine cu rfl rfl rfl rfl ?_ ?_
 all_goals intro h1
 ·have hi':i<l.length:=by omega
  (repeat(first|refine ao ?_|refine ai ?_|refine ah ?_|refine aT ?_|refine aN ?_|refine aD rfl ?_|refine am rfl rfl rfl ?_|refine aj rfl rfl rfl ?_|refine c7 (q:=i) rfl rfl rfl rfl (F.un _ rfl) (F.sz _ rfl) (by first|exact Tr.ae _ _ _|assumption) (by omega) (by first|omega|(simp;done)) (zP _) ?_|refine fE rfl rfl rfl (F.ag _ rfl) (by first|exact Tr.ae _ _ _|assumption) (get_u hi') (by first|omega|(simp;done)) ?_))
  refine cF rfl rfl rfl rfl ?_ ?_
  all_goals intro h2
  ·(repeat(first|refine ao ?_|refine ai ?_|refine ah ?_|refine aD rfl ?_|refine am rfl rfl rfl ?_|refine aj rfl rfl rfl ?_))
   ((apply bj Try.func35 (congrArg Array.toList Try.results35));(focus(repeat(first|exact ResIs.nil|apply ResIs.tmp rfl))))
   rw [ui hi' hno (by omega)]
   rfl
  ·(repeat(first|refine ai ?_|refine ah ?_|refine aM ?_|refine aN ?_|refine ay rfl ?_|refine am rfl rfl rfl ?_|refine bT rfl rfl rfl rfl (by omega) (by omega) ?_))
   refine again _ _ _ (i+1) ⟨rfl,rfl,hi',?_⟩ (by omega) (SlIn.sub (by repeat(first|exact trivial|refine⟨rfl,?_⟩)))
   rw [List.take_succ_eq_append_getElem hi',List.mem_append]
   rintro(h3|h3)
   ·exact hno h3
   ·simp at h3
    exact h2 (by omega)
 ·(repeat(first|refine ao ?_|refine ai ?_|refine ah ?_|refine bA rfl ?_|refine ay rfl ?_|refine aj rfl rfl rfl ?_))
  ((apply bj Try.func35 (congrArg Array.toList Try.results35));(focus(repeat(first|exact ResIs.nil|apply ResIs.tmp rfl))))
  rw [x5 (by rwa [zH (by omega)] at hno)]
  rfl
theorem lb{T:Tr SV}{dflt n:Nat}{o:Operand}{k:IntKind}{j:Int}(h:ar T o=some (.sc (.int k j)))(hj:j=(n:Int)):gZ T dflt (some o) n:=by
 subst hj
 exact mV h (by omega)
theorem yf(l:List Nat)(i:Nat)(hi:i<l.length)(R z Y:List Value):(((l.flatMap uV).take (0+i) ++ (l.drop (i+1)).flatMap uV ++ R).take (0+(i+(l.length-(i+1)))) ++ z ++ Y).take ((l.length-1)*1)=(l.eraseIdx i).flatMap uV:=by
 have ha:((l.flatMap uV).take (0+i) ++ (l.drop (i+1)).flatMap uV).length=l.length-1:=by
  rw [uS,uS];simp;omega
 have e:(l.eraseIdx i).flatMap uV=(l.flatMap uV).take (0+i) ++ (l.drop (i+1)).flatMap uV:=by
  rw [List.eraseIdx_eq_take_drop_succ,uS,uS,uS,Nat.zero_add];simp
 rw [e]
 generalize (l.flatMap uV).take (0+i) ++ (l.drop (i+1)).flatMap uV=A at ha
 rw [List.take_append_of_le_length (l₁:=A) (by omega),zH (l:=A) (by omega),List.append_assoc,List.take_append_of_le_length (by omega),zH (by omega)]
def DelU(l:List Nat)(i:Nat)(r:Nat)(H:aV)(nx:Nat):Pst:=fun q=>q.1 = .slu r 0 (l.eraseIdx i).length∧q.2.1.at' r=some (uR false (l.eraseIdx i))∧q.2.2=nx∧ ∀ n,n≠r→q.2.1.at' n=H.at' n
theorem wk{H:aV}{nx r:Nat}(l:List Nat)(i:Nat)(hr:H.at' r=some (uR false l))(hl:l.length<2000000)(hi:i<l.length):Fnc Try.prog 36 [.slu r 0 l.length,.sc (.int .i64 (i:Int)),.sc (.int .i64 ((i:Int)+1))] H nx (DelU l i r H nx):=by
 refine Fnc.start Try.func36 rfl rfl ?_
 refine uW (t:=0) rfl hr (by omega) (zP _) fun C hC=>?_
 (repeat(first|refine ao ?_|refine ai ?_|refine ah ?_|refine am rfl rfl rfl ?_|refine aj rfl rfl rfl ?_|refine sr rfl rfl rfl (F.un _ rfl) ?_|refine yC (lw:=i) (hg:=i+1) (m:=l.length) rfl rfl rfl (F.un _ rfl) (F.sz _ rfl) (lb rfl rfl) (lb rfl (by omega)) (lb rfl rfl) (by omega) (by omega) (by omega) ?_))
 refine cF rfl rfl rfl rfl ?_ ?_
 ·intro h;omega
 intro _
 (repeat(first|refine ao ?_|refine ai ?_|refine ah ?_|refine aN ?_|refine ay rfl ?_|refine am rfl rfl rfl ?_|refine aj rfl rfl rfl ?_|refine sr rfl rfl rfl (F.un _ rfl) ?_))
 refine bP (by kernel_rfl) (by kernel_rfl) ?_
 have hfl:(l.flatMap uV).length=l.length:=by rw [uS,List.length_map]
 have hfd:((l.drop (i+1)).flatMap uV).length=l.length-(i+1):=by rw [uS,List.length_map,List.length_drop]
 have hrd:(((l.flatMap uV).drop (if C=i+1 then 0 else 0+(i+1))).take (l.length-(i+1)))=(l.drop (i+1)).flatMap uV:=by
  by_cases hc:C=i+1
  ·have e:l.length-(i+1)=0:=by omega
   rw [e,List.take_zero]
   exact(zL (by omega)).symm
  ·rw [if_neg hc,Nat.zero_add,zH (by rw [List.length_drop];omega),uS,uS,List.map_drop]
 (repeat(first|refine aX rfl rfl rfl ?_|refine dF rfl rfl rfl ?_|refine uu (lw:=0) (hg:=i) (o':=0) rfl rfl rfl (F.un _ rfl) (F.sz _ rfl) bh (lb rfl rfl) (by omega) (by omega) (by simp) ?_|refine uu (lw:=i+1) (hg:=l.length) (o':=if C=i+1 then 0 else 0+(i+1)) rfl rfl rfl (F.un _ rfl) (F.sz _ rfl) (lb rfl (by omega)) bh (by omega) (by omega) rfl ?_|refine wg (m:=l.length-(i+1)) (n:=i) (o:=0) (us:=l.flatMap uV) (vs:=(l.drop (i+1)).flatMap uV) rfl rfl rfl rfl (F.un _ rfl) (.inl ⟨_,F.un _ rfl⟩) (F.sz _ rfl) (by first|exact Tr.ae _ _ _|assumption) (yP (by first|exact Tr.ae _ _ _|assumption) (by split <;> omega) hrd hfd) (jE rY _) (by omega) (by omega) hfd hfl rfl ?_))
 (refine be ?_);(refine⟨by kernel_rfl,?_,?_⟩);(focus(repeat(first|exact trivial|refine⟨.inl rfl,?_⟩|refine⟨.inr (by(repeat(refine⟨(by first|exact bq rfl|exact bi rfl rfl (.inr (.inr (.inr (.inr (.inl ⟨rfl,rfl⟩)))))|exact bk (F.un _ rfl) (F.sz _ rfl) rfl rfl rfl (by omega) (by omega) (by omega)|exact an rfl rfl (.inl ⟨rfl,(zx _ ⟨by omega,by omega⟩).symm⟩)|exact an rfl rfl (.inr (.inl ⟨rfl,(zx _ ⟨by omega,by omega⟩).symm⟩))|exact aq (F.fo _ _ rfl rfl) rfl|exact aY rfl|exact aH rfl|exact aw (F.ag _ rfl) rfl rfl (az rfl)|exact aC (F.ag _ rfl) rfl rfl (ak _ 0 rfl rfl)|exact aE rfl rfl|exact aP (F.un _ rfl) rfl|exact aI (F.un _ rfl) rfl|exact ax rfl|exact aQ rfl rfl|exact aR rfl rfl),?_⟩));exact trivial),?_⟩|refine⟨.inl (by kernel_rfl),?_⟩)))
 dsimp only [wrL]
 have hm:i+(l.length-(i+1))=l.length-1:=by omega
 have h1l:l.length-(l.length-1)=0+1:=by omega
 rw [hm]
 (repeat(first|refine ao ?_|refine ai ?_|refine am rfl rfl rfl ?_|refine sr rfl rfl rfl (F.un _ rfl) ?_|refine yB (lw:=l.length-1) (hg:=l.length) (o':=0+(l.length-1)) rfl rfl rfl (F.un _ rfl) (F.sz _ rfl) (lb rfl rfl) (lb rfl rfl) (by omega) (by omega) (if_neg (by omega)) ?_))
 rw [h1l]
 have hzc:Builtin.zeroCells (Value.int .u64 0).cells (0+1) = #[Value.int .u64 0]:=by
  simp [Builtin.zeroCells,Value.cells]
  exact⟨0,by decide,rfl⟩
 refine vb (ne:=l.length) rfl rfl (F.un _ rfl) (F.ze _ rfl) (by first|exact Tr.ae _ _ _|assumption) (by omega) ?_ (by rw [hzc];rfl) (fun v hv=>?_) rfl ?_
 ·simp only [zT,List.length_take,List.length_drop,hfd,hfl]
  omega
 ·rw [hzc] at hv
  have:v = .int .u64 0:=by simpa using hv
  subst this
  rfl
 (repeat(first|refine ao ?_|refine ai ?_|refine ah ?_|refine am rfl rfl rfl ?_|refine aj rfl rfl rfl ?_))
 refine pQ r (l.length-1) (by first|exact Tr.ae _ _ _|assumption) (by omega) ?_
 ((apply bj Try.func36 (congrArg Array.toList Try.results36));(focus(repeat(first|exact ResIs.nil|apply ResIs.tmp rfl))))
 have hel:(l.eraseIdx i).length=l.length-1:=by rw [List.length_eraseIdx,if_pos hi]
 refine⟨l.length-1,rfl,?_,?_,rfl,fun n hn=>?_⟩
 ·rw [hel]
 ·refine(Tr.ae _ _ _).trans ?_
  rw [show uR false (l.eraseIdx i)=dat false (l.length-1) 1 23 ((l.eraseIdx i).flatMap uV) by rw [← hel]]
  refine congrArg (fun v=>some (dat false (l.length-1) 1 23 v)) ?_
  have hd:=fun z Y=>yf l i hi (List.drop (0+i+(l.length-(i+1))) (l.flatMap uV)) z Y
  simp only [hm] at hd
  exact hd _ _
 ·exact(Tr.aa _ _ (by omega)).trans ((Tr.aa _ _ (by omega)).trans (Tr.aa _ _ (by omega)))
theorem pz{K V:Type} [DecidableEq K](m:List (K×V×Nat))(k k':K)(v:V)(c:Nat)(h:k≠k'):cO (dm m k v c) k'=cO m k':=by
 rw [← qw,←qw,tR,bw,if_neg h]
def Keep(mp mp':MPt):Prop:= ∀ o n x,cO mp o=some (n,x)→ ∃ y,cO mp' o=some (n,y)
theorem Keep.refl(mp:MPt):Keep mp mp:=fun _ _ x h=>⟨x,h⟩
theorem Keep.put{mp:MPt}{w n:Nat}{x:List ByteArray×ByteArray}(hg:cO mp w=some (n,x))(y:List ByteArray×ByteArray)(c:Nat):Keep mp (dm mp w (n,y) c):=fun o n' x' h=>by
 by_cases e:w=o
 ·subst e
  rw [hg] at h
  cases h
  exact⟨y,ij _ _ _ _⟩
 ·exact⟨x',by rw [pz _ _ _ _ _ e];exact h⟩
def ChgB(t a b:Nat)(T':LT)(mp:MPt)(v:SV)(Fp:Nat→Prop)(H:aV)(nx:Nat):Pst:=fun q=>q.1=v∧ ∃ ml' cl' mp' cp' F1' F2',Tb t a b ml' cl' mp' cp' F1' F2' q.2.1∧T'=b9 ml' mp'∧Keep mp mp'∧Step Fp (All t a b F1' F2') H nx q.2.1 q.2.2
theorem xY{t a b:Nat}{ml:MLk}{cl:Nat}{mp:MPt}{cp:Nat}{F1 F2:Nat→Prop}{H:aV}{nx:Nat}(h:Tb t a b ml cl mp cp F1 F2 H)(k:ByteArray)(hs:(b9 ml mp).safeLetGo k):Fnc Try.prog 37 [.ptr t 0,.sc (.string k)] H nx (ChgB t a b ((b9 ml mp).letGo k).1 mp (.sc (.int .u64 (((b9 ml mp).letGo k).2:Int))) (All t a b F1 F2) H nx):=by
 have hF: ∀ n,All t a b F1 F2 n↔n=t∨n=a∨n=b∨F1 n∨F2 n:=fun n=>Iff.rfl
 obtain⟨ow,l,s1,s2,s3⟩:=hs
 have htab:=h.tab
 have hloc:=h.locks
 have s1':=s1
 rw [lC] at s1
 obtain⟨⟨n,x⟩,hg,hx⟩:=zF.1 s1
 simp only at hx
 subst hx
 obtain⟨r,G,g1,g2,g3,g4,g5,g6,g7,n1,n2,n3,n4,r1,r2,r3,r4⟩:=h.lock hg
 have hne:=h.ne
 refine Fnc.start Try.func37 rfl rfl ?_
 refine b4 fun hund=>?_
 (repeat(first|refine ao ?_|refine ai ?_|refine ah ?_|refine am rfl rfl rfl ?_|refine aj rfl rfl rfl ?_|refine aJ rfl rfl rfl ?_|refine au rfl rfl rfl (F.fo _ _ rfl rfl) ?_|refine aL rfl rfl rfl (F.ag _ rfl) (by first|exact Tr.ae _ _ _|assumption) (by exact rfl) ?_|refine cr rfl rfl rfl (F.un _ rfl) ?_|refine fu (m:=ml) (enc:=kE) (val:=ke) rfl rfl rfl rfl (F.un _ rfl) (kK) (by first|exact rfl|(focus(skip;first|exact Tr.ae _ _ _|assumption))) (hg) ?_))
 refine cF rfl rfl rfl rfl ?_ ?_
 ·intro h0
  have:l= []:=zL (by omega)
  subst this
  have hgo:(b9 ml mp).letGo k=(b9 (ik ml k) mp,0):=by
   rw [tM]
   unfold LT.letGo
   rw [s1']
  rw [hgo]
  (repeat(first|refine ao ?_|refine ai ?_|refine ah ?_|refine aD rfl ?_|refine am rfl rfl rfl ?_|refine aj rfl rfl rfl ?_|refine aJ rfl rfl rfl ?_|refine au rfl rfl rfl (F.fo _ _ rfl rfl) ?_|refine aL rfl rfl rfl (F.ag _ rfl) (by first|exact Tr.ae _ _ _|assumption) (by exact rfl) ?_|refine nc (m:=ml) (enc:=kE) (val:=ke) rfl rfl rfl (F.un _ rfl) (kK) (by first|exact rfl|(focus(skip;first|exact Tr.ae _ _ _|assumption))) ?_))
  ((apply bj Try.func37 (congrArg Array.toList Try.results37));(focus(repeat(first|exact ResIs.nil|apply ResIs.tmp rfl))))
  have hGF: ∀ z,G z→F1 z:=fun z hz=>(g7 z).2 (.inr hz)
  refine⟨rfl,ik ml k,cl,mp,cp,G,F2,h.delLock g4 hGF (Tr.ae _ _ _) fun z hz=>Tr.aa _ _ ?_,rfl,Keep.refl _,zP _,fun z hz=> .inl ((hF z).2 ?_),fun z hz hf=>Tr.aa _ _ ?_⟩
  ·rcases hz with rfl|rfl|hz|hz
   ·exact hne.1
   ·exact Ne.symm hne.2.2
   ·exact(h.d1 z (hGF z hz)).2.1
   ·exact(h.d2 z hz).2.1
  ·rcases hz with hz|hz|hz|hz|hz
   ·exact .inl hz
   ·exact .inr (.inl hz)
   ·exact .inr (.inr (.inl hz))
   ·exact .inr (.inr (.inr (.inl (hGF z hz))))
   ·exact .inr (.inr (.inr (.inr hz)))
  ·intro e
   exact hf ((hF z).2 (.inr (.inl e)))
 ·intro h0
  cases l with
  | nil=>exact absurd rfl h0
  | cons w rest=>
    have hnn:=hund _ _ g1
    have hrn:=hund _ _ g2
    dsimp only [ke]
    (repeat(first|refine ao ?_|refine ai ?_|refine ah ?_|refine aN ?_|refine ay rfl ?_|refine am rfl rfl rfl ?_|refine aJ rfl rfl rfl ?_|refine au rfl rfl rfl (F.fo _ _ rfl rfl) ?_|refine cI rfl rfl rfl rfl (F.sz _ rfl) (by first|exact rfl|(focus(skip;first|exact Tr.ae _ _ _|assumption))) rfl (by exact zB rfl) rfl ?_|refine aL rfl rfl rfl (F.ag _ rfl) (by first|exact Tr.ae _ _ _|assumption) (by exact rfl) ?_|refine c7 (q:=0) rfl rfl rfl rfl (F.un _ rfl) (F.sz _ rfl) (by first|exact Tr.ae _ _ _|assumption) (by omega) (by first|omega|(simp;done)) (zP _) ?_|refine fE rfl rfl rfl (F.ag _ rfl) (by first|exact Tr.ae _ _ _|assumption) (rfl) (by first|omega|(simp;done)) ?_))
    have g2':H.at' r=some (dat false (0+(rest.length+1)) 1 23 ((w :: rest).flatMap uV)):=by rw [Nat.zero_add];exact g2
    refine yx (lw:=1) (hg:=rest.length+1) (rr:=false) (rt:=23) (vs:=(w :: rest).flatMap uV) (us:=rest.flatMap uV) rfl rfl rfl (F.un _ rfl) (F.sz _ rfl) (mV (i:=1) rfl (by omega)) bh (by(repeat(refine(Tr.aa _ _ (by omega)).trans ?_));first|exact Tr.ae _ _ _|assumption) (by omega) rfl ?_
    (repeat(first|refine ao ?_|refine ah ?_|refine aJ rfl rfl rfl ?_|refine au rfl rfl rfl (F.fo _ _ rfl rfl) ?_|refine cI rfl rfl rfl rfl (F.sz _ rfl) (by first|exact rfl|(focus((repeat(first|refine(Tr.aa _ _ (by omega)).trans ?_|refine(Tr.aF _ (by omega)).trans ?_));first|exact Tr.ae _ _ _|assumption))) rfl (by exact zB rfl) rfl ?_))
    obtain⟨ut,ua,ub,u1,u2⟩:=h.lt hund
    have hGF: ∀ z,G z→F1 z:=fun z hz=>(g7 z).2 (.inr hz)
    refine fK (R:=fun H' nx'=>Tb t a b (dm ml k (n,(w,rest)) cl) cl mp cp (fun z=>(z=n∨z=nx)∨G z) F2 H'∧Step (All t a b F1 F2) (All t a b (fun z=>(z=n∨z=nx)∨G z) F2) H nx H' nx') ⟨?_,?_⟩ ?_
    ·refine h.putLock hg g4 hGF ((g7 n).2 (.inl (.inl rfl))) g5 ⟨nx,Tr.ae _ _ _,(Tr.aa _ _ (by omega)).trans (Tr.ae _ _ _),by omega,fun z=>Iff.rfl⟩ ⟨by omega,by omega,by omega,fun q=>by have:=u1 _ (hGF _ q);omega,fun q=>by have:=u2 _ q;omega⟩ fun z hz=>?_
     have hz':z≠n∧z≠r∧z<nx:=by
      rcases hz with rfl|rfl|rfl|hz|hz
      ·exact⟨by omega,by omega,by omega⟩
      ·exact⟨by omega,by omega,by omega⟩
      ·exact⟨by omega,by omega,by omega⟩
      ·exact⟨fun e=>g5 (e ▸ hz),fun e=>g6 (e ▸ hz),u1 _ (hGF _ hz)⟩
      ·exact⟨fun e=>n4 (e ▸ hz),fun e=>r4 (e ▸ hz),u2 _ hz⟩
     exact(Tr.aa _ _ (by omega)).trans ((Tr.aa _ _ (by omega)).trans ((Tr.aF _ (by omega)).trans (Tr.aa _ _ (by omega))))
    ·refine⟨zY _,fun z hz=>?_,fun z hz hf=>?_⟩
     ·rcases hz with hz|hz|hz|((hz|hz)|hz)|hz
      ·exact .inl ((hF z).2 (.inl hz))
      ·exact .inl ((hF z).2 (.inr (.inl hz)))
      ·exact .inl ((hF z).2 (.inr (.inr (.inl hz))))
      ·exact .inl ((hF z).2 (.inr (.inr (.inr (.inl ((g7 z).2 (.inl (.inl hz))))))))
      ·exact .inr (Nat.le_of_eq hz.symm)
      ·exact .inl ((hF z).2 (.inr (.inr (.inr (.inl (hGF z hz))))))
      ·exact .inl ((hF z).2 (.inr (.inr (.inr (.inr hz)))))
     ·have hzn:z≠n:=fun e=>hf ((hF z).2 (.inr (.inr (.inr (.inl ((g7 z).2 (.inl (.inl e))))))))
      have hzr:z≠r:=fun e=>hf ((hF z).2 (.inr (.inr (.inr (.inl ((g7 z).2 (.inl (.inr e))))))))
      exact(Tr.aa _ _ (by omega)).trans ((Tr.aa _ _ (by omega)).trans ((Tr.aF _ (by omega)).trans (Tr.aa _ _ (by omega))))
    rintro H' nx' ⟨h',hstep⟩
    refine b4 fun hund'=>?_
    obtain⟨s4,⟨p,s5⟩,s6⟩:=s3 w rest rfl
    have s5':=s5
    rw [pA] at s5
    obtain⟨⟨pn,ks,pw⟩,hgp,hx⟩:=zF.1 s5
    simp only at hx
    subst hx
    have hks:(b9 ml mp).keys w=ks:=by rw [iG,hgp]
    rw [hks] at s6
    have hg':cO (dm ml k (n,(w,rest)) cl) k=some (n,(w,rest)):=ij _ _ _ _
    obtain⟨r',G',q1,q2,q3,q4,q5,q6,q7,m1,m2,m3,m4,o1,o2,o3,o4⟩:=h'.lock hg'
    obtain⟨pr,PG,p1,p2,p3,p4,p5,p6,p7,i1,i2,i3,i4,j1,j2,j3,j4⟩:=h'.party hgp
    have htab':=h'.tab
    have hpar':=h'.parties
    have hln:=hund' _ _ q1
    have hlp:=hund' _ _ p1
    have hlr:=hund' _ _ p2
    have hpn:pn≠n:=fun e=>m4 (e ▸ (p7 pn).2 (.inl (.inl rfl)))
    have hprn:pr≠n:=fun e=>m4 (e ▸ (p7 pr).2 (.inl (.inr rfl)))
    refine bP (by kernel_rfl) (by kernel_rfl) ?_
    (repeat(first|refine aX rfl rfl rfl ?_|refine dF rfl rfl rfl ?_|refine bD rfl rfl rfl ?_|refine bu rfl rfl rfl (F.fo _ _ rfl rfl) ?_|refine bK rfl rfl rfl (F.ag _ rfl) (by first|exact Tr.ae _ _ _|assumption) (by exact rfl) ?_|refine mJ (m:=mp) (enc:=oE) (val:=jY) rfl rfl rfl rfl (F.un _ rfl) (oK) (by first|exact rfl|(focus(skip;first|exact Tr.ae _ _ _|assumption))) (hgp) ?_))
    (refine be ?_);(refine⟨by kernel_rfl,?_,?_⟩);(focus(repeat(first|exact trivial|refine⟨.inl rfl,?_⟩)))
    dsimp only [wrL,jY]
    (repeat(first|refine ao ?_|refine ai ?_|refine ah ?_|refine am rfl rfl rfl ?_|refine aj rfl rfl rfl ?_|refine aJ rfl rfl rfl ?_|refine au rfl rfl rfl (F.fo _ _ rfl rfl) ?_|refine cI rfl rfl rfl rfl (F.sz _ rfl) (by first|exact rfl|(focus((repeat(first|refine(Tr.aa _ _ (by omega)).trans ?_|refine(Tr.aF _ (by omega)).trans ?_));first|exact Tr.ae _ _ _|assumption))) rfl (by exact zB rfl) rfl ?_|refine aL rfl rfl rfl (F.ag _ rfl) (by(repeat(first|refine(Tr.aa _ _ (by omega)).trans ?_|refine(Tr.aF _ (by omega)).trans ?_));first|exact Tr.ae _ _ _|assumption) (by exact rfl) ?_|refine cb rfl rfl (F.un _ rfl) (F.sz _ rfl) rfl (F.ze _ rfl) rfl rfl rfl rfl rfl ?_|refine gu (b:=16) (xs:=ks) (a:=k) rfl rfl rfl rfl (F.un _ rfl) (.inl ⟨_,F.un _ rfl⟩) (F.sz _ rfl) rfl (by kernel_rfl) (by kernel_rfl) (by(repeat(refine(Tr.aa _ _ (by omega)).trans ?_));first|exact Tr.ae _ _ _|assumption) (by first|exact Tr.ae _ _ _|assumption) (by exact rfl) (wM) (by omega) (by omega) ?_))
    ((apply bj Try.func37 (congrArg Array.toList Try.results37));(focus(repeat(first|exact ResIs.nil|apply ResIs.tmp rfl))))
    have hgo:(b9 ml mp).letGo k=(b9 (dm ml k (n,(w,rest)) cl) (dm mp w (pn,(ks ++ [k],⟨#[]⟩)) cp),w):=by
     rw [dX,fW]
     unfold LT.letGo
     rw [s1']
     simp only [hks]
    rw [hgo]
    obtain⟨ut',ua',ub',u1',u2'⟩:=h'.lt hund'
    have hne':=h'.ne
    have PGF: ∀ z,PG z→F2 z:=fun z hz=>(p7 z).2 (.inr hz)
    have hlen:ks.length+1=(ks ++ [k]).length:=by simp
    refine⟨rfl,_,_,_,_,fun z=>(z=n∨z=nx)∨G z,fun z=>(z=pn∨z=nx'+1)∨PG z,h'.putParty hgp p4 PGF ((p7 pn).2 (.inl (.inl rfl))) p5 ⟨nx'+1,?_,?_,by omega,fun z=>Iff.rfl⟩ ⟨by omega,by omega,by omega,fun q=>by have:=u2' _ (PGF _ q);omega,fun q=>by have:=u1' _ q;omega⟩ fun z hz=>?_,rfl,Keep.put hgp _ _,hstep.trans ⟨zX (zY _) (zY _),fun z hz=>?_,fun z hz hf=>?_⟩⟩
    ·refine(Tr.ae _ _ _).trans ?_
     rw [← hlen]
     rfl
    ·refine(Tr.aa _ _ (by omega)).trans ((Tr.ae _ _ _).trans ?_)
     show _=some (dat false (ks ++ [k]).length 1 9 ((ks ++ [k]).flatMap sV))
     rw [← hlen]
    ·have hz':z≠pn∧z≠pr∧z<nx':=by
      rcases hz with rfl|rfl|rfl|hz|hz
      ·exact⟨by omega,by omega,by omega⟩
      ·exact⟨by omega,by omega,by omega⟩
      ·exact⟨by omega,by omega,by omega⟩
      ·exact⟨fun e=>p5 (e ▸ hz),fun e=>p6 (e ▸ hz),u2' _ (PGF _ hz)⟩
      ·exact⟨fun e=>i4 (e ▸ hz),fun e=>j4 (e ▸ hz),u1' _ hz⟩
     exact(Tr.aa _ _ (by omega)).trans ((Tr.aa _ _ (by omega)).trans ((Tr.aF _ (by omega)).trans ((Tr.aa _ _ (by omega)).trans (Tr.aa _ _ (by omega)))))
    ·rcases hz with hz|hz|hz|hz|((hz|hz)|hz)
     ·exact .inl (.inl hz)
     ·exact .inl (.inr (.inl hz))
     ·exact .inl (.inr (.inr (.inl hz)))
     ·exact .inl (.inr (.inr (.inr (.inl hz))))
     ·exact .inl (.inr (.inr (.inr (.inr ((p7 z).2 (.inl (.inl hz)))))))
     ·exact .inr (by omega)
     ·exact .inl (.inr (.inr (.inr (.inr (PGF z hz)))))
    ·have hzn:z≠pn:=fun e=>hf (.inr (.inr (.inr (.inr ((p7 z).2 (.inl (.inl e)))))))
     have hzr:z≠pr:=fun e=>hf (.inr (.inr (.inr (.inr ((p7 z).2 (.inl (.inr e)))))))
     exact(Tr.aa _ _ (by omega)).trans ((Tr.aa _ _ (by omega)).trans ((Tr.aF _ (by omega)).trans ((Tr.aa _ _ (by omega)).trans (Tr.aa _ _ (by omega)))))
end Go.Proofs.Ytckajlllkmkniaa
end
