import Derived.Calls
import Derived.Orders
import Derived.Test.YtelnglhodnoclaaGreatProg
import Derived.Test.YtelnglhodnoclaaGreatB1
set_option linter.unusedVariables false
set_option linter.unusedSimpArgs false
set_option maxRecDepth 100000
set_option maxHeartbeats 0
section
namespace Go.Sy
open Go Go.Sl Go.RowKit
def IRel(e:Env):AIt→Item→Prop
 | .code c,i=>i = .code c
 | .inBlock id,i=>i = .inBlock id
 | .inLoop b,i=>i = .inLoop b
 | .inScope b,i=>i = .inScope b
 | .inReg ops k l,i=>i = .inRegion ops (List.range' k (ops.size-k))∧l=ops.toList.drop k
 | .inRange l,i=> ∃ x,e l=some x∧i = .inRangeFunc x.blk
 | .endRange l,i=> ∃ x,e l=some x∧i = .endRangeFunc x.blk
 | .beginRound,i=>i = .beginRound
def IsRel(e:Env):List AIt→List Item→Prop
 | [],[]=>True
 | a :: l,i :: m=>IRel e a i∧IsRel e l m
 | _,_=>False
theorem IRel.mono{e e':Env}(h:e.le e'){a:AIt}{i:Item}(hr:IRel e a i):IRel e' a i:=by
 cases a <;> first
  | exact hr
  | (obtain⟨x,hx,hi⟩:=hr;exact⟨x,h _ _ hx,hi⟩)
theorem IsRel.mono{e e':Env}(h:e.le e'): ∀ {l:List AIt} {m:List Item},IsRel e l m→IsRel e' l m
 | [],[],_=>trivial
 | _ :: _,_ :: _,hr=>⟨hr.1.mono h,IsRel.mono h hr.2⟩
 | [],_ :: _,hr=>hr.elim
 | _ :: _,[],hr=>hr.elim
theorem IsRel.cons{e:Env}{a:AIt}{l:List AIt}{m:List Item}(h:IsRel e (a :: l) m): ∃ i m',m=i :: m'∧IRel e a i∧IsRel e l m':=by
 cases m with
 | nil=>exact h.elim
 | cons i m'=>exact⟨i,m',rfl,h.1,h.2⟩
theorem IsRel.nil{e:Env}{m:List Item}(h:IsRel e [] m):m= []:=by
 cases m with
 | nil=>rfl
 | cons i m'=>exact h.elim
theorem uq{e:Env}{id:Nat}: ∀ {l:List AIt} {m:List Item},IsRel e l m→(∀ l',nj id l=some l'→ ∃ m',exitTo id m=some m'∧IsRel e l' m')∧(nj id l=none→exitTo id m=none)
 | [],m,h=>by
   have:=h.nil
   subst this
   exact⟨fun l' hl=>by simp [nj] at hl,fun _=>rfl⟩
 | a :: l,m,h=>by
   obtain⟨i,m',rfl,ha,hl⟩:=h.cons
   have ih:=uq (id:=id) hl
   cases a with
   | inBlock id'=>
     simp only [IRel] at ha
     subst ha
     simp only [nj,exitTo]
     cases hb:Nat.beq id' id with
     | true=>
       have:=ba hb
       subst this
       simp only [cond_true,beq_self_eq_true,if_true]
       exact⟨fun l' hl'=>⟨m',rfl,by simp only [D2] at hl';subst hl';exact hl⟩,fun hn=>by cases hn⟩
     | false=>
       have:(id' == id)=false:=by
        rw [beq_eq_false_iff_ne]
        rintro rfl
        rw [show Nat.beq id' id'=true from Nat.beq_refl id'] at hb
        cases hb
       simp only [cond_false,this,Bool.false_eq_true,if_false]
       exact ih
   | inReg ops k l2=>obtain⟨rfl,_⟩:=ha;exact ih
   | inRange l2=>obtain⟨x,_,rfl⟩:=ha;exact ih
   | endRange l2=>obtain⟨x,_,rfl⟩:=ha;exact ih
   | _=>simp only [IRel] at ha;subst ha;exact ih
theorem ug{e:Env}{id:Nat}: ∀ {l:List AIt} {m:List Item},IsRel e l m→(∀ l',nR id l=some l'→ ∃ m',gotoIn id m=some m'∧IsRel e l' m')∧(nR id l=none→gotoIn id m=none)
 | [],m,h=>by
   have:=h.nil
   subst this
   exact⟨fun l' hl=>by simp [nR] at hl,fun _=>rfl⟩
 | a :: l,m,h=>by
   obtain⟨i,m',rfl,ha,hl⟩:=h.cons
   have ih:=ug (id:=id) hl
   cases a with
   | inScope b=>
     simp only [IRel] at ha
     subst ha
     simp only [nR,gotoIn]
     cases hf:findLabel b id with
     | some rest=>
       simp only
       exact⟨fun l' hl'=>⟨_,rfl,by simp only [D2] at hl';subst hl';exact⟨rfl,rfl,hl⟩⟩,fun hn=>by cases hn⟩
     | none=>exact ih
   | inReg ops k l2=>obtain⟨rfl,_⟩:=ha;exact ih
   | inRange l2=>obtain⟨x,_,rfl⟩:=ha;exact ih
   | endRange l2=>obtain⟨x,_,rfl⟩:=ha;exact ih
   | _=>simp only [IRel] at ha;subst ha;exact ih
structure FRel (e:Env) (s:FrS) (fr:Frame):Prop where
 fn:fr.fn=s.fn
 tmps:TRel e s.nt s.T fr.tmps
 todo:IsRel e s.todo fr.todo
 dfs:DsRel e s.dfs fr.defers
theorem FRel.mono{e e':Env}(h:e.le e'){s:FrS}{fr:Frame}(hr:FRel e s fr):FRel e' s fr:=⟨hr.fn,hr.tmps.mono h,hr.todo.mono h,hr.dfs.mono h⟩
theorem TRel.put{e:Env}{nt:Nat}{T:Tr SV}{tmps:Array Value}(h:TRel e nt T tmps){s:SV}{v:Value}(hv:s.conc e=some v)(d:Tmp):TRel e nt (k9 nt T (some d) s) (tmps.setIfInBounds d v):=by
 refine⟨by simpa using h.1,fun t u hu=>?_⟩
 simp only [k9] at hu
 cases hb:Nat.blt d nt with
 | true=>
   rw [hb] at hu
   simp only [cond_true] at hu
   have hlt:=aN hb
   rcases bl hu with ⟨rfl,rfl⟩|⟨hne,hu⟩
   ·refine⟨v,hv,?_⟩
    rw [D8,Array.getElem?_setIfInBounds_self_of_lt (by rw [h.1];exact hlt)]
    rfl
   ·obtain⟨v',hv',hg⟩:=h.2 t u hu
    refine⟨v',hv',?_⟩
    rw [D8,Array.getElem?_setIfInBounds_ne (Ne.symm hne),←D8]
    exact hg
 | false=>
   rw [hb] at hu
   simp only [cond_false] at hu
   obtain⟨v',hv',hg⟩:=h.2 t u hu
   refine⟨v',hv',?_⟩
   have:tmps.size≤d:=by
    rw [h.1]
    rcases EB d nt with h'|h'
    ·have:Nat.blt d nt=true:=D9 h'
     rw [this] at hb;cases hb
    ·exact h'
   rw [Array.setIfInBounds_eq_of_size_le this]
   exact hg
def tL(tmps:Array Value)(dst:Option Tmp)(v:Value):Array Value:=match dst with
 | some d=>tmps.setIfInBounds d v
 | none=>tmps
theorem TRel.putO{e:Env}{nt:Nat}{T:Tr SV}{tmps:Array Value}(h:TRel e nt T tmps){s:SV}{v:Value}(hv:s.conc e=some v)(dst:Option Tmp):TRel e nt (k9 nt T dst s) (tL tmps dst v):=by
 cases dst with
 | none=>exact h
 | some d=>exact h.put hv d
theorem TRel.fold{e:Env}{nt:Nat}: ∀ {ps:List Tmp} {ss:List SV} {vs:List Value} {T:Tr SV} {tmps:Array Value},SV.aC e ss=some vs→TRel e nt T tmps →
 TRel e nt ((ps.zip ss).foldl (fun T x=>k9 nt T (some x.1) x.2) T) ((ps.zip vs).foldl (fun tmps x=>tmps.setIfInBounds x.1 x.2) tmps)
 | [],ss,vs,T,tmps,hc,h=>by simpa using h
 | p :: ps,[],vs,T,tmps,hc,h=>by
   simp only [SV.aC,D2] at hc
   subst hc
   simpa using h
 | p :: ps,s :: ss,vs,T,tmps,hc,h=>by
   obtain⟨v,ws,rfl,hv,hl⟩:=b9 hc
   simp only [List.zip_cons_cons,List.foldl_cons]
   exact TRel.fold hl (h.put hv p)
theorem rk: ∀ (l:List SV) (T:Tr SV) (i t:Nat) (s:SV),(il T i l).at' t=some s→(i≤t∧l[t-i]? =some s)∨T.at' t=some s
 | [],T,i,t,s,h=> .inr h
 | x :: l,T,i,t,s,h=>by
   rcases rk l (T.set i x) (i+1) t s h with ⟨h1,h2⟩|h
   ·refine .inl ⟨by omega,?_⟩
    rw [show t-i=(t-(i+1))+1 by omega]
    simpa using h2
   ·rcases bl h with ⟨rfl,rfl⟩|⟨_,h⟩
    ·exact .inl ⟨Em _,by simp⟩
    ·exact .inr h
theorem xV{e:Env}{args:List SV}{vs:Array Value}(hc:SV.aC e args=some vs.toList)(n:Nat):TRel e (max args.length n) (il .nil 0 args) (vs ++ Array.replicate (n-vs.size) undef):=by
 have hl:=cN hc
 simp only [Array.length_toList] at hl
 refine⟨by simp only [Array.size_append,Array.size_replicate];omega,fun t s hs=>?_⟩
 rcases rk args .nil 0 t s hs with ⟨_,h⟩|h
 ·obtain⟨v,hv,hg⟩:=ft hc h
  refine⟨v,hv,?_⟩
  simp only [Nat.sub_zero] at hg h
  have hlt:t<vs.size:=by
   have:=(D6.1 hg).1
   simpa using this
  rw [D8,Array.getElem?_append_left hlt]
  simp only [Array.getElem?_toList] at hg
  rw [hg]
  rfl
 ·rw [ny] at h;cases h
section
variable {P:Program} {fn:FuncId} {tmps:Array Value} {k:List Item} {ds:List Deferred} {kd:CallKind} {ro:Option Nat} {cs:List Frame} {w:World}
section
variable {i id l:Nat}{b:Code}{o:Oper}{rest:List Nat}{ops:Array Oper}
def fr0(fn:FuncId)(tmps:Array Value)(todo:List Item)(ds:List Deferred)(kd:CallKind)(ro:Option Nat):Frame:={fn:=fn,tmps:=tmps,todo:=todo,defers:=ds,mode:= .run,kind:=kd,roundOf:=ro}
theorem Bm:step P (lone (fr0 fn tmps (.code .skip :: k) ds kd ro) cs w) = .next (lone (fr0 fn tmps k ds kd ro) cs w):=step_lone_go (by simp [stepG,stepG.exec,fr0])
theorem y9:step P (lone (fr0 fn tmps (.code (.label l) :: k) ds kd ro) cs w) = .next (lone (fr0 fn tmps k ds kd ro) cs w):=step_lone_go (by simp [stepG,stepG.exec,fr0])
theorem uM:step P (lone (fr0 fn tmps (.inBlock l :: k) ds kd ro) cs w) = .next (lone (fr0 fn tmps k ds kd ro) cs w):=step_lone_go (by simp [stepG,stepG.exec,fr0])
theorem uL:step P (lone (fr0 fn tmps (.inScope b :: k) ds kd ro) cs w) = .next (lone (fr0 fn tmps k ds kd ro) cs w):=step_lone_go (by simp [stepG,stepG.exec,fr0])
theorem C6{a:Code}:step P (lone (fr0 fn tmps (.code (.seq a b) :: k) ds kd ro) cs w) = .next (lone (fr0 fn tmps (.code a :: .code b :: k) ds kd ro) cs w):=step_lone_go (by simp [stepG,stepG.exec,fr0])
theorem za:step P (lone (fr0 fn tmps (.code (.block id b) :: k) ds kd ro) cs w) = .next (lone (fr0 fn tmps (.code b :: .inBlock id :: k) ds kd ro) cs w):=step_lone_go (by simp [stepG,stepG.exec,fr0])
theorem Bo:step P (lone (fr0 fn tmps (.code (.loop b) :: k) ds kd ro) cs w) = .next (lone (fr0 fn tmps (.code b :: .inLoop b :: k) ds kd ro) cs w):=step_lone_go (by simp [stepG,stepG.exec,fr0])
theorem wo:step P (lone (fr0 fn tmps (.inLoop b :: k) ds kd ro) cs w) = .next (lone (fr0 fn tmps (.code b :: .inLoop b :: k) ds kd ro) cs w):=step_lone_go (by simp [stepG,stepG.exec,fr0])
theorem yZ:step P (lone (fr0 fn tmps (.code (.scope b) :: k) ds kd ro) cs w) = .next (lone (fr0 fn tmps (.code b :: .inScope b :: k) ds kd ro) cs w):=step_lone_go (by simp [stepG,stepG.exec,fr0])
theorem wr{c:Operand}{a:Code}{t:Bool}(h:(fr0 fn tmps (.code (.cond c a b) :: k) ds kd ro).eval c = .bool t):step P (lone (fr0 fn tmps (.code (.cond c a b) :: k) ds kd ro) cs w) = .next (lone (fr0 fn tmps (.code (if t then a else b) :: k) ds kd ro) cs w):=by
 unfold fr0 at h ⊢
 exact step_lone_go (by simp [stepG,stepG.exec,h])
theorem Bq{k':List Item}(h:exitTo id k=some k'):step P (lone (fr0 fn tmps (.code (.exit id) :: k) ds kd ro) cs w) = .next (lone (fr0 fn tmps k' ds kd ro) cs w):=step_lone_go (by simp [stepG,stepG.exec,fr0,h])
theorem Bp{k':List Item}(h:gotoIn id k=some k'):step P (lone (fr0 fn tmps (.code (.goto id) :: k) ds kd ro) cs w) = .next (lone (fr0 fn tmps k' ds kd ro) cs w):=step_lone_go (by simp [stepG,stepG.exec,fr0,h])
theorem wn:step P (lone (fr0 fn tmps (.code (.region id ops false) :: k) ds kd ro) cs w) = .next (lone (fr0 fn tmps (.inRegion ops (List.range' 0 ops.size) :: k) ds kd ro) cs w):=
 step_lone_go (by simp [stepG,stepG.exec,fr0,List.range_eq_range'])
theorem iu:step P (lone (fr0 fn tmps (.inRegion ops [] :: k) ds kd ro) cs w) = .next (lone (fr0 fn tmps k ds kd ro) cs w):=step_lone_go (by simp [stepG,stepG.exec,fr0])
theorem wq:step P (lone (fr0 fn tmps (.code (.region id ops true) :: k) ds kd ro) cs w) =
 .next (lone (fr0 fn tmps (.inRegion ops (Region.schedule (P.follows .mixedOrders) ops (w.tape w.drawn (.order fn id))) :: k) ds kd ro) cs {w with drawn:=w.drawn+1}):=
 step_lone_go (by simp [stepG,stepG.exec,fr0,choose,Sem.run,Question.forced,Question.cut])
def frL(fn:FuncId)(tmps:Array Value)(todo:List Item)(ds:List Deferred)(kd:CallKind):Frame:={fn:=fn,tmps:=tmps,todo:=todo,defers:=ds,mode:= .returning,kind:=kd,roundOf:=none}
theorem C7:step P (lone (fr0 fn tmps (.code .ret :: k) ds kd none) cs w) = .next (lone (frL fn tmps (.code .ret :: k) ds kd) cs w):=step_lone_go (by simp [stepG,stepG.exec,fr0,frL])
theorem C8:step P (lone (fr0 fn tmps [] ds kd none) cs w) = .next (lone (frL fn tmps [] ds kd) cs w):=step_lone_go (by simp [stepG,stepG.exec,fr0,frL])
def AO(jump:Option Code)(todo:List Item):Prop:=
 (todo= []∧jump=none)∨(∃ k,todo = .code .ret :: k∧jump=some .ret)∨(∃ id k,todo = .code (.exit id) :: k∧exitTo id k=none∧jump=some (.exit id))∨(∃ id k,todo = .code (.goto id) :: k∧gotoIn id k=none∧jump=some (.goto id))
theorem y8{jump:Option Code}{todo:List Item}{c:Frame}{v:Value}{w':World}(h:AO jump todo)(hr:(Instr.endRound l jump).run P w = .ok v w') :
 step P (lone (fr0 fn tmps todo ds .normal (some l)) (c :: cs) w) = .next (lone (c.finish v) cs w'):=by
 rcases h with ⟨rfl,rfl⟩|⟨k,rfl,rfl⟩|⟨id,k,rfl,hx,rfl⟩|⟨id,k,rfl,hx,rfl⟩
 ·exact step_lone_go (by simp [stepG,stepG.exec,fr0,hr,doReturn])
 ·exact step_lone_go (by simp [stepG,stepG.exec,fr0,hr,doReturn])
 ·exact step_lone_go (by simp [stepG,stepG.exec,fr0,hx,hr,doReturn])
 ·exact step_lone_go (by simp [stepG,stepG.exec,fr0,hx,hr,doReturn])
theorem iv(ho:ops[i]? =some o)(hw:Region.wanted o (yielded ops tmps)=false) :
 step P (lone (fr0 fn tmps (.inRegion ops (i :: rest) :: k) ds kd ro) cs w) = .next (lone (fr0 fn (tL tmps o.dst undef) (.inRegion ops rest :: k) ds kd ro) cs w):=by
 refine step_lone_go ?_
 simp only [fr0,stepG,stepG.exec,ho,Et,Option.getD_some,hw,Bool.false_eq_true,if_false,GStep.bare_go,Frame.finish,Eu]
 cases o.dst <;> rfl
theorem iW(ho:ops[i]? =some o)(hw:Region.wanted o (yielded ops tmps)=true)(hd:ro=none∨ ∀ c,o.op ≠ .defer c) :
 stepG P true {frame:=fr0 fn tmps (.inRegion ops (i :: rest) :: k) ds kd ro,callers:=cs,status:= .running,dying:=none} w =
  stepG.apply P true (fr0 fn tmps (.inRegion ops (i :: rest) :: k) ds kd ro) cs none (execOp (fr0 fn tmps (.inRegion ops (i :: rest) :: k) ds kd ro).eval o) w:=by
 simp only [fr0,stepG,stepG.exec,ho,Et,Option.getD_some,hw,if_true,stepG.oper,Frame.oper?]
 rcases hd with rfl|hd
 ·rfl
 ·cases ro with
  | none=>rfl
  | some l=>
    cases hop:o.op <;> first
     | exact absurd hop (hd _)
     | rfl
theorem eN(ho:ops[i]? =some o)(v:Value) :
 (fr0 fn tmps (.inRegion ops (i :: rest) :: k) ds kd ro).finish v=fr0 fn (tL tmps o.dst v) (.inRegion ops rest :: k) ds kd ro:=by
 simp only [fr0,Frame.finish,ho,Eu]
 cases o.dst <;> rfl
end
end
section
variable (P:Program) (K:Zone) (w0:World)
def RetOK(fr:Frame)(cs:List Frame)(w:World)(v:Value)(w':World):Prop:=
 ∃ tmps todo,Steps P (lone fr cs w) (lone (frL fr.fn tmps todo [] fr.kind) cs w')∧ ∃ fn,P.funcs[fr.fn]? =some fn∧(results fn tmps).run P w' = .ok v w'
def FrOK(e:Env)(ro:Option Nat)(fr:Frame)(cs:List Frame)(w:World)(outs:Pst):Prop:=
 ∃ r,outs r∧ ∃ e' w' v,e.le e'∧St K w0 e' r.2.1 r.2.2 w'∧r.1.conc e'=some v ∧
  match ro with
  | none=>RetOK P fr cs w v w'
  | some _=> ∃ c cs',cs=c :: cs'∧Steps P (lone fr cs w) (lone (c.finish v) cs' w')
def Ctx(e:Env)(ro:Option Nat)(kd:CallKind)(rof:Option Nat)(cs:List Frame):Prop:=
 match ro with
 | none=>rof=none∧(kd = .normal∨(kd = .deferred∧ ∃ c cs',cs=c :: cs'∧c.mode = .returning))
 | some l=> ∃ x,e l=some x∧rof=some x.blk∧kd = .normal∧ ∃ c cs',cs=c :: cs'
def l8(rn:Rn):Prop:=
 ∀ ro s outs,rn ro false s outs→ ∀ e w tmps todo ds kd rof cs,St K w0 e s.hp s.nx w→TRel e s.nt s.T tmps→IsRel e s.todo todo→DsRel e s.dfs ds→Ctx e ro kd rof cs →
  FrOK P K w0 e ro (fr0 s.fn tmps todo ds kd rof) cs w outs
def nF(rn:Rn):Prop:=
 ∀ s outs,rn none true s outs→ ∀ e w tmps todo ds kd cs,St K w0 e s.hp s.nx w→TRel e s.nt s.T tmps→DsRel e s.dfs ds→Ctx e none kd none cs →
  FrOK P K w0 e none (frL s.fn tmps todo ds kd) cs w outs
end
section
variable {P:Program} {K:Zone} {w0 w:World} {e:Env} {H:aw} {nx:Nat} {rn:Rn}
section
variable {outs:Pst}{fr:Frame}{g:FuncId}{cs:List Frame}{vs:Array Value}
theorem Ctx.mono{e e':Env}(h:e.le e'){ro:Option Nat}{kd:CallKind}{rof:Option Nat}{cs:List Frame}(hc:Ctx e ro kd rof cs):Ctx e' ro kd rof cs:=by
 cases ro with
 | none=>exact hc
 | some l=>obtain⟨x,hx,h1⟩:=hc;exact⟨x,h _ _ hx,h1⟩
theorem FrOK.pre{e1:Env}{ro:Option Nat}{fr1:Frame}{w1:World}{outs1:Pst}(hs:Steps P (lone fr cs w) (lone fr1 cs w1))(he:e.le e1)(h:FrOK P K w0 e1 ro fr1 cs w1 outs1)
 (hfn:fr1.fn=fr.fn) (hk:fr1.kind=fr.kind) (hsub: ∀ r,outs1 r→outs r):FrOK P K w0 e ro fr cs w outs:=by
 obtain⟨r,hr,e',w',v,h1,h2,h3,h4⟩:=h
 refine⟨r,hsub r hr,e',w',v,Env.le_trans he h1,h2,h3,?_⟩
 cases ro with
 | none=>
   obtain⟨tmps,todo,g1,fn,g2,g3⟩:=h4
   rw [hfn,hk] at g1
   rw [hfn] at g2
   exact⟨tmps,todo,hs.trans g1,fn,g2,g3⟩
 | some l=>
   obtain⟨c,cs',hc,g1⟩:=h4
   exact⟨c,cs',hc,hs.trans g1⟩
theorem kR(hrn:l8 P K w0 rn){args:List SV}(h:iR P rn g args H nx outs)(hS:St K w0 e H nx w)(hargs:SV.aC e args=some vs.toList)
 {kd:CallKind}  (hc:Ctx e none kd none cs):FrOK P K w0 e none (Frame.enter P g vs kd) cs w outs:=by
 unfold iR rM at h
 rcases h with ⟨rfl,v,r,hsure,hq,hsem⟩|h
 ·have hvs:vs = #[]:=by
   have:some []=some vs.toList:=hargs
   simp only [D2] at this
   exact(Array.toList_inj (xs:=vs) (ys:= #[])).1 this.symm
  subst hvs
  obtain⟨w',tmps,hb,⟨todo,hst⟩,fn,hfn,hres⟩:=hsure w kd cs hc.2
  obtain⟨e',h1,h2,h3⟩:=hsem K w0 e w' (hS.kept hb)
  exact⟨r,hq,e',w',v,h1,h2,h3,tmps,todo,hst,fn,hfn,hres⟩
 cases hf:P.funcs[g]? with
 | none=>rw [hf] at h;cases h
 | some fn=>
   rw [hf] at h
   simp only at h
   cases hb:fn.body with
   | none=>rw [hb] at h;cases h
   | some c=>
     rw [hb] at h
     simp only at h
     have:=hrn _ _ _ h e w (vs ++ Array.replicate (fn.ntmps-vs.size) undef) [.code c] [] kd none cs hS
      (by simp only [BS,hf];exact xV hargs fn.ntmps) ⟨rfl,trivial⟩ trivial hc
     have he:Frame.enter P g vs kd=fr0 g (vs ++ Array.replicate (fn.ntmps-vs.size) undef) [.code c] [] kd none:=by
      simp [Frame.enter,fr0,hf,hb]
     rw [he]
     exact this
theorem nr(h:FrOK P K w0 e none (Frame.enter P g vs .normal) (fr :: cs) w outs) :
 ∃ r,outs r∧ ∃ e' w' v,e.le e'∧St K w0 e' r.2.1 r.2.2 w'∧r.1.conc e'=some v∧Steps P (lone (Frame.enter P g vs .normal) (fr :: cs) w) (lone (fr.finish v) cs w'):=by
 obtain⟨r,hr,e',w',v,h1,h2,h3,tmps,todo,g1,fn,g2,g3⟩:=h
 refine⟨r,hr,e',w',v,h1,h2,h3,g1.trans (.one (step_leave_returned ⟨rfl,rfl,rfl,fn,g2,g3⟩))⟩
theorem pP(hm:fr.mode = .returning)(h:FrOK P K w0 e none (Frame.enter P g vs .deferred) (fr :: cs) w outs) :
 ∃ r,outs r∧ ∃ e' w',e.le e'∧St K w0 e' r.2.1 r.2.2 w'∧Steps P (lone (Frame.enter P g vs .deferred) (fr :: cs) w) (lone fr cs w'):=by
 obtain⟨r,hr,e',w',v,h1,h2,h3,tmps,todo,g1,fn,g2,g3⟩:=h
 refine⟨r,hr,e',w',h1,h2,g1.trans (.one (step_lone_go ?_))⟩
 have hk:(Frame.enter P g vs .deferred).kind = .deferred:=rfl
 have hfn:(Frame.enter P g vs .deferred).fn=g:=rfl
 rw [hfn] at g2
 simp [stepG,unwind,doReturn,frL,hfn,g2,g3,hk,hm]
theorem iP{l:Nat}{st:LoopState}{pend:Option Code}{fn:FuncId}{nt:Nat}{T:Tr SV}{params:Array Tmp}{assign body:Code}{dr:Nat}{x:Ent}(hS:St K w0 e H nx w)(hl:H.at' l=some (.loop st pend fn nt T params assign body dr))(hx:e l=some x) :
 ∃ tmps y,e dr=some y∧TRel e nt T tmps∧w.heap[x.blk]? =some (.loop {state:=st,pending:=pend,fn:=fn,tmps:=tmps,params:=params,assign:=assign,body:=body,defers:=y.blk}):=by
 obtain⟨hxn,o,_,hw,ho⟩:=hS.at hl hx (by simp)
 obtain⟨tmps,y,h1,h2,rfl⟩:=ho
 exact⟨tmps,y,h1,h2,hw⟩
theorem qv(hrn:l8 P K w0 rn){l:Nat}{args:List SV}{vs:List Value}{x:Ent}(h:oc rn l args H nx outs)(hS:St K w0 e H nx w)(hargs:SV.aC e args=some vs)(hx:e l=some x) :
 ∃ fn tmps assign body,(Instr.yield x.blk vs.toArray).run P w = .ok (.round x.blk fn tmps assign body) w∧ ∀ (fr:Frame) (cs:List Frame),
  ∃ r,outs r∧ ∃ e' w' v,e.le e'∧St K w0 e' r.2.1 r.2.2 w'∧r.1.conc e'=some v∧Steps P (lone (Frame.round x.blk fn tmps assign body .normal) (fr :: cs) w) (lone (fr.finish v) cs w'):=by
 unfold oc at h
 split at h
 ·rename_i st pend fn nt T params assign body dr hl
  obtain⟨tmps,y,hy,hT,hw⟩:=iP hS hl hx
  ·obtain⟨hb,h⟩:=h
   have hsz:=ba hb
   have hlen:=cN hargs
   refine⟨fn,(params.zip vs.toArray).foldl (fun tmps (t,a)=>tmps.setIfInBounds t a) tmps,assign,body,?_,fun fr cs=>?_⟩
   ·have hg:=dj (P:=P) hw (by simp)
    have hne: ¬ (vs.toArray.size≠params.size):=by simp;omega
    simp only [Instr.yield,Instr.getLoop,Sem.run_bind,hg,Result.andThen,Sem.run_pure]
    rw [Ey hne]
    rfl
   ·have hfold:(params.zip vs.toArray).foldl (fun tmps (t,a)=>tmps.setIfInBounds t a) tmps=(params.toList.zip vs).foldl (fun tmps x=>tmps.setIfInBounds x.1 x.2) tmps:=by
     rw [← Array.foldl_toList]
     simp
    have:=hrn _ _ _ h e w _ [.code assign,.beginRound,.code body] [] .normal (some x.blk) (fr :: cs) hS (hT.fold hargs) ⟨rfl,rfl,rfl,trivial⟩ trivial ⟨x,hx,rfl,rfl,fr,cs,rfl⟩
    obtain⟨r,hr,e',w',v,h1,h2,h3,c,cs',hc,g⟩:=this
    simp only [List.cons.injEq] at hc
    obtain⟨rfl,rfl⟩:=hc
    refine⟨r,hr,e',w',v,h1,h2,h3,?_⟩
    rw [hfold]
    exact g
 ·cases h
end
end
section
variable {P:Program} {K:Zone} {w0 w:World} {e:Env} {H:aw} {nx:Nat} {rn:Rn}
def yy(P:Program)(K:Zone)(w0:World)(rn:Rn):Prop:=
 P.follows .mixedOrders=true→ ∀ ops nt T H nx d,oF P rn ops nt T H nx d→ ∀ e w tmps,St K w0 e H nx w→TRel e nt T tmps→ ∀ (t fn:Nat) (k:List Item) (ds:List Deferred) (kd:CallKind) (rof:Option Nat) (cs:List Frame),
  ∃ e' w' tmps',e.le e'∧St K w0 e' d.H d.nx w'∧TRel e' nt d.T tmps' ∧
   Steps P (lone (fr0 fn tmps (.inRegion ops (Region.schedule (P.follows .mixedOrders) ops t) :: k) ds kd rof) cs w) (lone (fr0 fn tmps' (.inRegion ops [] :: k) ds kd rof) cs w')
def rvF(tmps:Array Value):ResultVar→Sem Value
 | .tmp t=>pure (tmps.getD t undef)
 | .cell a t=>do loadVar t (← asAddr (tmps.getD a undef))
theorem uQ(fn:Func)(tmps:Array Value):results fn tmps=(do
 let vs←fn.results.mapM (rvF tmps)
 pure (if h:vs.size=1 then vs[0] else .tuple vs)):=rfl
theorem sn(hS:St K w0 e H nx w){nt:Nat}{T:Tr SV}{tmps:Array Value}(hT:TRel e nt T tmps): ∀ (l:List ResultVar) (ss:List SV),o9 P H T l=some ss →
 ∃ vs,SV.aC e ss=some vs∧(l.mapM (rvF tmps)).run P w = .ok vs w
 | [],ss,h=>by
   simp only [o9,D2] at h
   subst h
   exact⟨[],rfl,by simp⟩
 | .tmp t :: l,ss,h=>by
   simp only [o9] at h
   cases ht:T.at' t with
   | none=>rw [ht] at h;cases h
   | some s=>
     rw [ht] at h
     simp only at h
     cases hl:o9 P H T l with
     | none=>rw [hl] at h;cases h
     | some r=>
       rw [hl] at h
       simp only [D2] at h
       subst h
       obtain⟨v,hv,hg⟩:=hT.2 t s ht
       obtain⟨vs,h1,h2⟩:=sn hS hT l r hl
       refine⟨v :: vs,bJ hv h1,?_⟩
       rw [List.mapM_cons]
       have h0:(rvF tmps (.tmp t)).run P w = .ok v w:=by show(pure (tmps.getD t undef):Sem Value).run P w=_;rw [hg];rfl
       simp only [Sem.run_bind,h0,Result.andThen,h2,Sem.run_pure]
 | .cell a t :: l,ss,h=>by
   simp only [o9] at h
   split at h
   ·rename_i b o ha
    obtain⟨v0,hv0,hg⟩:=hT.2 a _ ha
    obtain⟨x,hx,rfl⟩:=fI hv0
    have key: ∀ s,pC P H t b o=some s→ ∃ u,s.conc e=some u∧(rvF tmps (.cell a t)).run P w = .ok u w:=by
     intro s hs
     obtain⟨u,hu,hr⟩:=tX (P:=P) hS hs hx
     exact⟨u,hu,by show(do loadVar t (← asAddr (tmps.getD a undef)):Sem Value).run P w=_;rw [hg];simp [asAddr,hr]⟩
    have fin: ∀ s r,pC P H t b o=some s→o9 P H T l=some r→ss=s :: r→ ∃ vs,SV.aC e ss=some vs∧((ResultVar.cell a t :: l).mapM (rvF tmps)).run P w = .ok vs w:=by
     intro s r hs hr hss
     subst hss
     obtain⟨u,hu,hru⟩:=key s hs
     obtain⟨vs,h1,h2⟩:=sn hS hT l r hr
     refine⟨u :: vs,bJ hu h1,?_⟩
     rw [List.mapM_cons]
     simp only [Sem.run_bind,hru,Result.andThen,h2,Sem.run_pure]
    cases hb:H.at' b with
    | none=>rw [hb] at h;cases h
    | some vo=>
      rw [hb] at h
      cases hag:bT P t with
      | none=>rw [hag] at h;cases h
      | some q=>
        rw [hag] at h
        cases q with
        | none=>
          simp only at h
          cases hc:vo.cell o with
          | none=>rw [hc] at h;cases h
          | some s=>
            cases hl:o9 P H T l with
            | none=>rw [hc,hl] at h;cases h
            | some r=>
              rw [hc,hl] at h
              simp only [D2] at h
              exact fin s r (by simp [pC,hb,hag,hc]) hl h.symm
        | some n=>
          simp only at h
          cases hc:vo.cellsFrom o n with
          | none=>rw [hc] at h;cases h
          | some s=>
            cases hl:o9 P H T l with
            | none=>rw [hc,hl] at h;cases h
            | some r=>
              rw [hc,hl] at h
              simp only [D2] at h
              exact fin (.agg s) r (by simp [pC,hb,hag,hc]) hl h.symm
   ·cases h
theorem uJ{ss:List SV}{vs:List Value}(h:SV.aC e ss=some vs):(fv ss).conc e=some (if h:vs.length=1 then vs[0]'(by omega) else .tuple vs.toArray):=by
 have hl:=cN h
 match ss,h with
 | [],h=>simp only [SV.aC,D2] at h;subst h;rfl
 | [s],h=>
   obtain⟨v,ws,rfl,hv,hw⟩:=b9 h
   simp only [SV.aC,D2] at hw
   subst hw
   exact hv
 | s1 :: s2 :: ss,h=>
   have: ¬ (vs.length=1):=by rw [hl];simp
   rw [dif_neg this]
   simp [fv,SV.conc,h]
theorem Ce(hr:l8 P K w0 rn)(hL:nF P K w0 rn){s:FrS}{outs:Pst}(h:Cf P rn s outs){tmps:Array Value}{todo:List Item}{ds:List Deferred}{kd:CallKind}{cs:List Frame}
 (hS:St K w0 e s.hp s.nx w) (hT:TRel e s.nt s.T tmps) (hd:DsRel e s.dfs ds) (hc:Ctx e none kd none cs):FrOK P K w0 e none (frL s.fn tmps todo ds kd) cs w outs:=by
 unfold Cf at h
 cases hdf:s.dfs with
 | nil=>
   rw [hdf] at h hd
   have:ds= []:=by
    cases ds with
    | nil=>rfl
    | cons _ _=>exact hd.elim
   subst this
   simp only at h
   unfold eG at h
   cases hf:P.funcs[s.fn]? with
   | none=>rw [hf] at h;cases h
   | some fn=>
     rw [hf] at h
     simp only at h
     obtain⟨vs,hres,h⟩:=h
     ·obtain⟨us,h1,h2⟩:=sn (P:=P) hS hT _ _ hres
      refine⟨_,h,e,w,_,E9 e,hS,uJ h1,tmps,todo,.refl P _,fn,hf,?_⟩
      rw [uQ]
      have hm:(fn.results.mapM (rvF tmps)).run P w = .ok us.toArray w:=by
       have ha:fn.results=fn.results.toList.toArray:=by simp
       rw [ha,List.mapM_toArray]
       simp only [Sem.run_map,h2]
       rfl
      simp only [Sem.run_bind,hm,Result.andThen,Sem.run_pure]
      simp
 | cons a l=>
   rw [hdf] at h hd
   cases ds with
   | nil=>exact hd.elim
   | cons d ds'=>
     obtain⟨hda,hdl⟩:=hd
     cases a with
     | taken r=>
       obtain⟨x,hx,rfl⟩:=hda
       simp only at h
       split at h
       ·rename_i l2 hr2
        obtain⟨hxn,o,_,hw,ho⟩:=hS.at hr2 hx (by simp)
        obtain⟨ds2,rfl,hds2⟩:=ho
        have hg:=dj (P:=P) hw (by simp)
        have hset:=fc (P:=P) (.deferred none) hw (by simp)
        have hS':=hS.upd (vo':= .dfd none) (o':= .deferred none) hr2 hx hxn rfl rfl (cW x.blk _) (cX hw) rfl
        have:=hL _ _ h e _ tmps todo (ds2 ++ ds') kd cs hS' hT (hds2.append hdl) hc
        refine this.pre (.one (step_lone_go ?_)) (E9 e) rfl rfl (fun _ hr=>hr)
        simp [stepG,unwind,frL,Instr.takeDeferred,hg,hset]
       ·cases h
     | call g args=>
       obtain⟨av,cap,rfl,hargs⟩:=hda
       simp only at h
       obtain⟨hm,hcall⟩:=h
       ··have hvs:SV.aC e args=some (av ++ cap).toList:=by simpa using hargs
         obtain⟨r,hr1,e',w',h1,h2,h3⟩:=pP (fr:=frL s.fn tmps todo ds' kd) rfl (kR hr hcall hS hvs (kd:= .deferred) (cs:=frL s.fn tmps todo ds' kd :: cs) ⟨rfl,.inr ⟨rfl,_,_,rfl,rfl⟩⟩)
         have:=hL _ _ hr1 e' w' tmps todo ds' kd cs h2 (hT.mono h1) (hdl.mono h1) (hc.mono h1)
         refine this.pre (.head (step_lone_go ?_) h3) h1 rfl rfl (fun _ hr=>hr)
         have hinv:(invoke (.fn (.func g) cap) av).run P w = .ok (.enter g (av ++ cap)) w:=ge hm w
         simp [stepG,unwind,frL,callDeferred,hinv]
end
section
variable {P:Program} {K:Zone} {w0 w:World} {e:Env} {H:aw} {nx:Nat} {rn:Rn}
section
variable {nt:Nat}{T:Tr SV}{kd:CallKind}{cs:List Frame}{ro rof:Option Nat}{tmps:Array Value}
theorem kU{ops:Array Oper}{o:Oper}{b:Bool}(h:aD T ops o=some b)(hT:TRel e nt T tmps):Region.wanted o (yielded ops tmps)=b:=by
 unfold aD at h
 unfold Region.wanted
 cases hg:o.guard with
 | none=>rw [hg] at h;simpa using h
 | some q=>
   obtain⟨j,want⟩:=q
   rw [hg] at h
   simp only at h ⊢
   cases hj:ops[j]? with
   | none=>
     rw [hj] at h
     simp only [D2] at h
     subst h
     simp [yielded,hj]
   | some oj=>
     rw [hj] at h
     simp only at h
     cases hd:oj.dst with
     | none=>
       rw [hd] at h
       simp only [D2] at h
       subst h
       simp [yielded,hj,hd]
     | some d=>
       rw [hd] at h
       simp only at h
       split at h
       ·rename_i t ht
        obtain⟨v,hv,hg2⟩:=hT.2 d _ ht
        simp only [SV.conc,D2] at hv
        subst hv
        simp only [D2] at h
        subst h
        have:tmps[d]? =some (.bool t):=by
         rw [D8] at hg2
         cases ht2:tmps[d]? with
         | none=>rw [ht2] at hg2;cases hg2
         | some v=>rw [ht2] at hg2;simpa using hg2
        simp [yielded,hj,hd,this]
       ·rename_i vs ht
        obtain⟨v,hv,hg2⟩:=hT.2 d _ ht
        simp only [SV.conc,D2] at hv
        subst hv
        simp only [D2] at h
        subst h
        have:yielded ops tmps j=none:=by
         rw [D8] at hg2
         cases ht2:tmps[d]? with
         | none=>simp [yielded,hj,hd,ht2]
         | some v=>rw [ht2] at hg2;simp only [Option.getD_some] at hg2;subst hg2;simp [yielded,hj,hd,ht2]
        simp [this]
       ·cases h
theorem sW{l:Nat}{st:LoopState}{pend:Option Code}{fn:FuncId}{params:Array Tmp}{assign body:Code}{dr:Nat}{x:Ent}(hS:St K w0 e H nx w)(hl:H.at' l=some (.loop st pend fn nt T params assign body dr))(hx:e l=some x):x.nil=false:=
 (hS.at hl hx (by simp)).1
theorem ku(hL:nF P K w0 rn){jump:Option Code}{s:FrS}{outs:Pst}(h:lM rn ro jump s outs){todo:List Item}{ds:List Deferred}
 (hl:AO jump todo) (hS:St K w0 e s.hp s.nx w) (hT:TRel e s.nt s.T tmps) (hd:DsRel e s.dfs ds) (hc:Ctx e ro kd rof cs):FrOK P K w0 e ro (fr0 s.fn tmps todo ds kd rof) cs w outs:=by
 cases ro with
 | none=>
   obtain⟨rfl,hk⟩:=hc
   rcases hl with ⟨rfl,rfl⟩|⟨k,rfl,rfl⟩|⟨id,k,rfl,hx,rfl⟩|⟨id,k,rfl,hx,rfl⟩
   ·exact(hL _ _ h e w tmps [] ds kd cs hS hT hd ⟨rfl,hk⟩).pre (.one C8) (E9 e) rfl rfl (fun _ hr=>hr)
   ·exact(hL _ _ h e w tmps _ ds kd cs hS hT hd ⟨rfl,hk⟩).pre (.one C7) (E9 e) rfl rfl (fun _ hr=>hr)
   ·cases h
   ·cases h
 | some l=>
   obtain⟨x,hx,rfl,rfl,c,cs',rfl⟩:=hc
   simp only [lM,tY] at h
   split at h
   ·rename_i st pend fn nt T params assign body dr hlp
    obtain⟨tm,y,hy,hTm,hw⟩:=iP hS hlp hx
    have hg:=dj (P:=P) hw (by simp)
    have hset:=fun o'=>fc (P:=P) o' hw (by simp)
    have hS':=hS.upd (vo':= .loop (if jump.isNone then .ready else .done) jump fn nt T params assign body dr)
     (o':= .loop {state:=if jump.isNone then .ready else .done,pending:=jump,fn:=fn,tmps:=tm,params:=params,assign:=assign,body:=body,defers:=y.blk}) hlp hx (sW hS hlp hx) rfl rfl (cW x.blk _) (cX hw) ⟨tm,y,hy,hTm,rfl⟩
    refine⟨_,h,e,_,.bool jump.isNone,E9 e,hS',rfl,c,cs',rfl,.one (y8 hl ?_)⟩
    simp only [Instr.endRound,Instr.getLoop,Sem.run_bind,hg,Result.andThen,Sem.run_pure,hset]
   ·cases h
theorem rm{dr nx1:Nat}{H1:aw}{mark:List ADf}(h:jd ro H nx=some (dr,H1,nx1,mark))(hS:St K w0 e H nx w)(hc:Ctx e ro kd rof cs)
    (hT:TRel e nt T tmps) (fn:FuncId) (params:Array Tmp) (assign body:Code) :
 ∃ e' w' x mk,e.le e'∧St K w0 e' (H1.set nx1 (.loop .ready none fn nt T params assign body dr)) (nx1+1) w'∧e' nx1=some x∧DsRel e' mark mk∧(Instr.enterLoop fn tmps params assign body rof).run P w = .ok (x.blk,mk) w':=by
 cases ro with
 | none=>
   obtain⟨rfl,_⟩:=hc
   simp only [jd,D2,Ea] at h
   obtain⟨rfl,rfl,rfl,rfl⟩:=h
   have hf:=hS.fresh nx (Em _)
   have hS1:=hS.new (vo:= .dfd (some [])) (x:=⟨w.heap.size,0,0,1,false⟩) (o:= .deferred (some [])) (w':={w with heap:=w.heap.push (.deferred (some []))}) rfl rfl rfl rfl rfl rfl rfl ⟨[],rfl,trivial⟩
   have hf1:=hS1.fresh (nx+1) (Em _)
   have hle1:=Env.dE (x:=⟨w.heap.size,0,0,1,false⟩) hf
   have hle2:=Env.dE (x:=⟨w.heap.size+1,0,0,1,false⟩) hf1
   have hdr:((e.put nx ⟨w.heap.size,0,0,1,false⟩).put (nx+1) ⟨w.heap.size+1,0,0,1,false⟩) nx=some ⟨w.heap.size,0,0,1,false⟩:=hle2 _ _ (Env.bL _ _ _)
   have hS2:=hS1.new (vo:= .loop .ready none fn nt T params assign body nx) (x:=⟨w.heap.size+1,0,0,1,false⟩)
    (o:= .loop {state:= .ready,pending:=none,fn:=fn,tmps:=tmps,params:=params,assign:=assign,body:=body,defers:=w.heap.size})
    (w':={w with heap:=(w.heap.push (.deferred (some []))).push (.loop {state:= .ready,pending:=none,fn:=fn,tmps:=tmps,params:=params,assign:=assign,body:=body,defers:=w.heap.size})})
    (by simp) rfl rfl rfl rfl rfl rfl ⟨tmps,⟨w.heap.size,0,0,1,false⟩,hdr,hT.mono (Env.le_trans hle1 hle2),rfl⟩
   refine⟨_,_,⟨w.heap.size+1,0,0,1,false⟩,[{target:= .collected w.heap.size,args:= #[]}],Env.le_trans hle1 hle2,hS2,Env.bL _ _ _,⟨⟨⟨w.heap.size,0,0,1,false⟩,hdr,rfl⟩,trivial⟩,?_⟩
   simp [Instr.enterLoop]
   rfl
 | some l=>
   obtain⟨x,hx,rfl,_⟩:=hc
   simp only [jd] at h
   split at h
   ·rename_i st pend fn2 nt2 T2 params2 assign2 body2 dr2 hlp
    simp only [D2,Ea] at h
    obtain⟨rfl,rfl,rfl,rfl⟩:=h
    obtain⟨tm,y,hy,hTm,hw⟩:=iP hS hlp hx
    have hg:=dj (P:=P) hw (by simp)
    have hf:=hS.fresh nx (Em _)
    have hle1:=Env.dE (x:=⟨w.heap.size,0,0,1,false⟩) hf
    have hS1:=hS.new (vo:= .loop .ready none fn nt T params assign body dr2) (x:=⟨w.heap.size,0,0,1,false⟩)
     (o:= .loop {state:= .ready,pending:=none,fn:=fn,tmps:=tmps,params:=params,assign:=assign,body:=body,defers:=y.blk})
     (w':={w with heap:=w.heap.push (.loop {state:= .ready,pending:=none,fn:=fn,tmps:=tmps,params:=params,assign:=assign,body:=body,defers:=y.blk})})
     rfl rfl rfl rfl rfl rfl rfl ⟨tmps,y,hle1 _ _ hy,hT.mono hle1,rfl⟩
    refine⟨_,_,⟨w.heap.size,0,0,1,false⟩,[],hle1,hS1,Env.bL _ _ _,trivial,?_⟩
    simp [Instr.enterLoop,Instr.getLoop,hg]
   ·cases h
theorem Ab(hr:l8 P K w0 rn)(hL:nF P K w0 rn)(hD:yy P K w0 rn){s:FrS}{k:List AIt}{c:Code}{outs:Pst}(h:sX P rn ro s k c outs){k':List Item}{ds:List Deferred}
   (hS:St K w0 e s.hp s.nx w) (hT:TRel e s.nt s.T tmps) (hk:IsRel e k k') (hd:DsRel e s.dfs ds) (hc:Ctx e ro kd rof cs) :
 FrOK P K w0 e ro (fr0 s.fn tmps (.code c :: k') ds kd rof) cs w outs:=by
 cases c with
 | ret=>exact ku (jump:=some .ret) hL h (.inr (.inl ⟨k',rfl,rfl⟩)) hS hT hd hc
 | skip=>exact(hr _ _ _ h e w tmps k' ds kd rof cs hS hT hk hd hc).pre (.one Bm) (E9 e) rfl rfl (fun _ hr=>hr)
 | label l=>exact(hr _ _ _ h e w tmps k' ds kd rof cs hS hT hk hd hc).pre (.one y9) (E9 e) rfl rfl (fun _ hr=>hr)
 | seq a b=>exact(hr _ _ _ h e w tmps (.code a :: .code b :: k') ds kd rof cs hS hT ⟨rfl,rfl,hk⟩ hd hc).pre (.one C6) (E9 e) rfl rfl (fun _ hr=>hr)
 | block id b=>exact(hr _ _ _ h e w tmps (.code b :: .inBlock id :: k') ds kd rof cs hS hT ⟨rfl,rfl,hk⟩ hd hc).pre (.one za) (E9 e) rfl rfl (fun _ hr=>hr)
 | loop b=>exact(hr _ _ _ h e w tmps (.code b :: .inLoop b :: k') ds kd rof cs hS hT ⟨rfl,rfl,hk⟩ hd hc).pre (.one Bo) (E9 e) rfl rfl (fun _ hr=>hr)
 | scope b=>exact(hr _ _ _ h e w tmps (.code b :: .inScope b :: k') ds kd rof cs hS hT ⟨rfl,rfl,hk⟩ hd hc).pre (.one yZ) (E9 e) rfl rfl (fun _ hr=>hr)
 | cond c a b=>
   obtain⟨t,hcd,ht,hf⟩:=h
   ·have hE:=TRel.ev (fr:=fr0 s.fn tmps (.code (.cond c a b) :: k') ds kd rof) hT
    have hv:=hE c _ hcd
    simp only [SV.conc,D2] at hv
    cases t with
    | true=>exact(hr _ _ _ (ht rfl) e w tmps (.code a :: k') ds kd rof cs hS hT ⟨rfl,hk⟩ hd hc).pre (.one (wr hv.symm)) (E9 e) rfl rfl (fun _ hr=>hr)
    | false=>exact(hr _ _ _ (hf rfl) e w tmps (.code b :: k') ds kd rof cs hS hT ⟨rfl,hk⟩ hd hc).pre (.one (wr hv.symm)) (E9 e) rfl rfl (fun _ hr=>hr)
 | exit id=>
   simp only [sX] at h
   have hx:=uq (id:=id) hk
   cases he:nj id k with
   | some l'=>
     rw [he] at h
     obtain⟨m',h1,h2⟩:=hx.1 l' he
     exact(hr _ _ _ h e w tmps m' ds kd rof cs hS hT h2 hd hc).pre (.one (Bq h1)) (E9 e) rfl rfl (fun _ hr=>hr)
   | none=>
     rw [he] at h
     exact ku hL h (.inr (.inr (.inl ⟨id,k',rfl,hx.2 he,rfl⟩))) hS hT hd hc
 | goto id=>
   simp only [sX] at h
   have hx:=ug (id:=id) hk
   cases he:nR id k with
   | some l'=>
     rw [he] at h
     obtain⟨m',h1,h2⟩:=hx.1 l' he
     exact(hr _ _ _ h e w tmps m' ds kd rof cs hS hT h2 hd hc).pre (.one (Bp h1)) (E9 e) rfl rfl (fun _ hr=>hr)
   | none=>
     rw [he] at h
     exact ku hL h (.inr (.inr (.inr ⟨id,k',rfl,hx.2 he,rfl⟩))) hS hT hd hc
 | refuse why=>exact h.elim
 | region id ops draw=>
   cases draw with
   | false=>exact(hr _ _ _ h e w tmps (.inRegion ops (List.range' 0 ops.size) :: k') ds kd rof cs hS hT ⟨⟨rfl,by simp⟩,hk⟩ hd hc).pre (.one wn) (E9 e) rfl rfl (fun _ hr=>hr)
   | true=>
     obtain⟨hm,d,hdr,h⟩:=h
     ·obtain⟨e',w',tmps',h1,h2,h3,h4⟩:=hD hm _ _ _ _ _ _ hdr e {w with drawn:=w.drawn+1} tmps hS.drew hT (w.tape w.drawn (.order s.fn id)) s.fn k' ds kd rof cs
      refine(hr _ _ _ h e' w' tmps' k' ds kd rof cs h2 h3 (hk.mono h1) (hd.mono h1) (hc.mono h1)).pre (.head wq (h4.trans (.one iu))) h1 rfl rfl (fun _ hr=>hr)
 | rangeFunc fo params assign body=>
   obtain⟨dr,H1,nx1,mark,sf,g,a,b,hld,hfo,hft,hm,hcall⟩:=h
   ·····obtain⟨e1,w1,x,mk,h1,h2,h3,h4,h5⟩:=rm (P:=P) hld hS hc hT s.fn params assign body
        have hE:=TRel.ev (fr:=fr0 s.fn tmps (.inRangeFunc x.blk :: k') (mk ++ ds) kd rof) hT
        obtain⟨xs,ys,hev,hxs,hys⟩:=jR hft (hE fo sf hfo)
        have hargs:SV.aC e1 (a ++ [.yld nx1] ++ b)=some (xs ++ #[Value.func (.yield x.blk) #[] #[]] ++ ys).toList:=by
         have:=ck (ck (SV.bR h1 _ _ hxs) (bJ (x:= .yld nx1) (v:= .func (.yield x.blk) #[] #[]) (by simp [SV.conc,h3]) (show SV.aC e1 []=some [] from rfl))) (SV.bR h1 _ _ hys)
         simpa using this
        obtain⟨r,hr1,e',w',v,g1,g2,g3,g4⟩:=nr (kR hr hcall h2 hargs (kd:= .normal) (cs:=fr0 s.fn tmps (.inRangeFunc x.blk :: k') (mk ++ ds) kd rof :: cs) ⟨rfl,.inl rfl⟩)
        have hle:=Env.le_trans h1 g1
        refine(hr _ _ _ hr1 e' w' tmps (.endRangeFunc x.blk :: k') (mk ++ ds) kd rof cs g2 (hT.mono hle) ⟨⟨x,g1 _ _ h3,rfl⟩,hk.mono hle⟩ ((h4.append (hd.mono h1)).mono g1) (hc.mono hle)).pre (.head (step_lone_go ?_) g4) hle rfl rfl (fun _ hr=>hr)
        have hpush:xs ++ #[Value.func (.yield x.blk) #[] #[]] ++ ys=xs.push (Value.func (.yield x.blk) #[] #[]) ++ ys:=by simp
        have hinv:(callFunc g (xs.push (Value.func (.yield x.blk) #[] #[]) ++ ys)).run P w1 = .ok (.enter g (xs.push (Value.func (.yield x.blk) #[] #[]) ++ ys)) w1:=ge hm w1
        have hcon: ∀ v,(fr0 s.fn tmps (.inRangeFunc x.blk :: k') (mk ++ ds) kd rof).eval (.const v)=v:=fun _=>rfl
        rw [hpush]
        simp only [fr0] at hev hcon
        simp [stepG,stepG.exec,fr0,h5,stepG.apply,resolve,hev,hcon,Deferred.ofValue,invoke,hinv]
end
end
section
variable {P:Program} {K:Zone} {w0 w:World} {e:Env} {H:aw} {nx:Nat} {rn:Rn}
section
variable {outs:Pst}{s:FrS}{kd:CallKind}{cs:List Frame}{ro rof:Option Nat}{tmps:Array Value}{ds:List Deferred}
theorem mA{fr:Frame}(h:fr.kind = .normal∨(fr.kind = .deferred∧ ∃ c cs',cs=c :: cs'∧c.mode = .returning)):tryRecover fr cs=none:=by
 rcases h with h|⟨h,c,cs',rfl,hm⟩
 ·cases cs <;> simp [tryRecover,h]
 ·simp [tryRecover,h,hm]
theorem BI(hr:l8 P K w0 rn){out:Out}{ops:Array Oper}{i:Nat}{rest:List Nat}{o:Oper}{k:List Item}{kA:List AIt}
 (h:outS P rn ro s o.dst kA out outs) (ho:ops[i]? =some o) (hw:Region.wanted o (yielded ops tmps)=true) (hT:TRel e s.nt s.T tmps) (hk:IsRel e kA (.inRegion ops rest :: k)) (hd:DsRel e s.dfs ds) (hc:Ctx e ro kd rof cs)
 (hdf:ro=none∨ ∀ c,o.op ≠ .defer c) (hdo:yF P K w0 e out ((execOp (fr0 s.fn tmps (.inRegion ops (i :: rest) :: k) ds kd rof).eval o).run P w)) :
 FrOK P K w0 e ro (fr0 s.fn tmps (.inRegion ops (i :: rest) :: k) ds kd rof) cs w outs:=by
 obtain⟨e',w',hle,hS',hrun⟩:=hdo
 obtain⟨a,H',nx'⟩:=out
 have hdf':rof=none∨ ∀ c,o.op ≠ .defer c:=by
  rcases hdf with rfl|hdf
  ·exact .inl hc.1
  ·exact .inr hdf
 have hoper:=iW (P:=P) (fn:=s.fn) (k:=k) (ds:=ds) (kd:=kd) (cs:=cs) (w:=w) (rest:=rest) ho hw hdf'
 have hfin:=fun v=>eN (fn:=s.fn) (tmps:=tmps) (k:=k) (ds:=ds) (kd:=kd) (ro:=rof) (rest:=rest) ho v
 have hkind: ∀ {A:Type} (x y:A),(match (fr0 s.fn tmps (.inRegion ops (i :: rest) :: k) ds kd rof).todo with | .call _ true _ _ :: _=>x|_=>y)=y:=fun _ _=>rfl
 have value: ∀ (sv:SV) (v:Value) (e2:Env) (w2:World) (H2:aw) (nx2:Nat) (outs2:Pst),e.le e2→St K w0 e2 H2 nx2 w2→sv.conc e2=some v →
  Steps P (lone (fr0 s.fn tmps (.inRegion ops (i :: rest) :: k) ds kd rof) cs w) (lone ((fr0 s.fn tmps (.inRegion ops (i :: rest) :: k) ds kd rof).finish v) cs w2) →
  rn ro false {s with T:=k9 s.nt s.T o.dst sv,todo:=kA,hp:=H2,nx:=nx2} outs2→(∀ r,outs2 r→outs r)→FrOK P K w0 e ro (fr0 s.fn tmps (.inRegion ops (i :: rest) :: k) ds kd rof) cs w outs:=by
  intro sv v e2 w2 H2 nx2 outs2 hle2 hS2 hv hst hrn hsub
  rw [hfin] at hst
  exact(hr _ _ _ hrn e2 w2 (tL tmps o.dst v) (.inRegion ops rest :: k) ds kd rof cs hS2 ((hT.mono hle2).putO hv o.dst) (hk.mono hle2) (hd.mono hle2) (hc.mono hle2)).pre hst hle2 rfl rfl hsub
 cases a with
 | val sv=>
   obtain⟨v,hv,hres⟩:=hrun
   refine value sv v e' w' H' nx' outs hle hS' hv (.one (step_lone_go ?_)) h (fun _ hr=>hr)
   rw [hoper]
   simp only [stepG.apply,Sem.runT_eq,if_true,hres,GStep.bare_after,GStep.bare_go]
 | skip=>
   refine value eu undef e' w' H' nx' outs hle hS' rfl (.one (step_lone_go ?_)) h (fun _ hr=>hr)
   have hres:Sem.run P (execOp (fr0 s.fn tmps (.inRegion ops (i :: rest) :: k) ds kd rof).eval o) w = .ok .skip w':=hrun
   rw [hoper]
   simp only [stepG.apply,Sem.runT_eq,if_true,hres,GStep.bare_after,GStep.bare_go]
 | recover=>
   obtain⟨rfl,h⟩:=h
   ·refine value (.sc .nilIface) .nilIface e' w' H' nx' outs hle hS' rfl (.one (step_lone_go ?_)) h (fun _ hr=>hr)
    have hres:Sem.run P (execOp (fr0 s.fn tmps (.inRegion ops (i :: rest) :: k) ds kd rof).eval o) w = .ok .recover w':=hrun
    obtain⟨rfl,hkd⟩:=hc
    have htr:tryRecover (fr0 s.fn tmps (.inRegion ops (i :: rest) :: k) ds kd none) cs=none:=mA hkd
    have hro:(fr0 s.fn tmps (.inRegion ops (i :: rest) :: k) ds kd none).roundOf=none:=rfl
    rw [hoper]
    simp only [stepG.apply,Sem.runT_eq,if_true,hres,hro,htr,GStep.bare_after,GStep.bare_go]
 | dfr d=>
   obtain⟨rfl,h⟩:=h
   ·obtain⟨dd,hdd,hres⟩:=hrun
    refine(hr _ _ _ h e' w' (tL tmps o.dst undef) (.inRegion ops rest :: k) (dd :: ds) kd rof cs hS' ((hT.mono hle).putO rfl o.dst) (hk.mono hle) ⟨hdd,hd.mono hle⟩ (hc.mono hle)).pre (.one (step_lone_go ?_)) hle rfl rfl (fun _ hr=>hr)
    rw [hoper]
    have:=eN (fn:=s.fn) (tmps:=tmps) (k:=k) (ds:=dd :: ds) (kd:=kd) (ro:=rof) (rest:=rest) ho undef
    simp only [stepG.apply,Sem.runT_eq,if_true,hres,GStep.bare_after,GStep.bare_go]
    rw [← this]
    rfl
 | enter g args=>
   obtain⟨vs,hvs,hres⟩:=hrun
   have hcall:iR P rn g args H' nx' _:=h
   ·obtain⟨r,hr1,e2,w2,v,g1,g2,g3,g4⟩:=nr (kR hr hcall hS' hvs (kd:= .normal) (cs:=fr0 s.fn tmps (.inRegion ops (i :: rest) :: k) ds kd rof :: cs) ⟨rfl,.inl rfl⟩)
    refine value r.1 v e2 w2 r.2.1 r.2.2 outs (Env.le_trans hle g1) g2 g3 (.head (step_lone_go ?_) g4) hr1 (fun _ hr=>hr)
    rw [hoper]
    simp only [stepG.apply,Sem.runT_eq,if_true,hres,GStep.bare_after,GStep.bare_go]
    first|done|rfl
 | round l args=>
   obtain⟨x,vs,hx,hvs,hres⟩:=hrun
   have hround:oc rn l args H' nx' _:=h
   ·obtain⟨fn2,tmps2,assign,body,hy,hback⟩:=qv (P:=P) hr hround hS' hvs hx
    rw [hy] at hres
    obtain⟨r,hr1,e2,w2,v,g1,g2,g3,g4⟩:=hback (fr0 s.fn tmps (.inRegion ops (i :: rest) :: k) ds kd rof) cs
    refine value r.1 v e2 w2 r.2.1 r.2.2 outs (Env.le_trans hle g1) g2 g3 (.head (step_lone_go ?_) g4) hr1 (fun _ hr=>hr)
    rw [hoper]
    simp only [stepG.apply,Sem.runT_eq,if_true,hres,GStep.bare_after,GStep.bare_go]
    first|done|rfl
theorem Do(hr:l8 P K w0 rn){kA:List AIt}{ops:Array Oper}{i:Nat}{o:Oper}{l:List Oper}{k:List Item}
 (h:opS P rn ro s kA ops i o l outs) (hl:o :: l=ops.toList.drop i) (hS:St K w0 e s.hp s.nx w) (hT:TRel e s.nt s.T tmps) (hk:IsRel e kA k) (hd:DsRel e s.dfs ds) (hc:Ctx e ro kd rof cs) :
 FrOK P K w0 e ro (fr0 s.fn tmps (.inRegion ops (List.range' i (ops.size-i)) :: k) ds kd rof) cs w outs:=by
 have hlt:i<ops.size:=by
  have:=congrArg List.length hl
  simp at this
  omega
 have ho:ops[i]? =some o:=by
  have:ops.toList[i]? =some o:=by
   have:=congrArg List.head? hl
   simpa using this.symm
  simpa using this
 have hl':l=ops.toList.drop (i+1):=by
  have:=congrArg List.tail hl
  simpa using this
 have hrange:List.range' i (ops.size-i)=i :: List.range' (i+1) (ops.size-(i+1)):=by
  rw [show ops.size-i=(ops.size-(i+1))+1 by omega,List.range'_succ]
 rw [hrange]
 have hk2:IsRel e (.inReg ops (i+1) l :: kA) (.inRegion ops (List.range' (i+1) (ops.size-(i+1))) :: k):=⟨⟨rfl,hl'⟩,hk⟩
 rcases h with ⟨hw,h⟩|⟨hw,hdf,ha⟩
 ·have hwr:=kU hw hT
  ·exact(hr _ _ _ h e w (tL tmps o.dst undef) _ ds kd rof cs hS (hT.putO rfl o.dst) hk2 hd hc).pre (.one (iv ho hwr)) (E9 e) rfl rfl (fun _ hr=>hr)
 ·have hwr:=kU hw hT
  have hE:=TRel.ev (fr:=fr0 s.fn tmps (.inRegion ops (i :: List.range' (i+1) (ops.size-(i+1))) :: k) ds kd rof) hT
  obtain⟨out,q1,hdo⟩:=ha _ _ _ _ _ hS hE
  exact BI hr q1 ho hwr hT hk2 hd hc hdf hdo
theorem yY(hr:l8 P K w0 rn)(hL:nF P K w0 rn)(hD:yy P K w0 rn)(h:oY P rn ro s outs){todo:List Item}
 (hS:St K w0 e s.hp s.nx w) (hT:TRel e s.nt s.T tmps) (ht:IsRel e s.todo todo) (hd:DsRel e s.dfs ds) (hc:Ctx e ro kd rof cs):FrOK P K w0 e ro (fr0 s.fn tmps todo ds kd rof) cs w outs:=by
 unfold oY at h
 cases hs:s.todo with
 | nil=>
   rw [hs] at h ht
   have:=ht.nil
   subst this
   exact ku hL h (.inl ⟨rfl,rfl⟩) hS hT hd hc
 | cons it kA=>
   rw [hs] at h ht
   obtain⟨i,k,rfl,hi,hk⟩:=ht.cons
   cases it with
   | code c=>
     simp only [IRel] at hi
     subst hi
     exact Ab hr hL hD h hS hT hk hd hc
   | inBlock id=>
     simp only [IRel] at hi
     subst hi
     exact(hr _ _ _ h e w tmps k ds kd rof cs hS hT hk hd hc).pre (.one uM) (E9 e) rfl rfl (fun _ hr=>hr)
   | inScope b=>
     simp only [IRel] at hi
     subst hi
     exact(hr _ _ _ h e w tmps k ds kd rof cs hS hT hk hd hc).pre (.one uL) (E9 e) rfl rfl (fun _ hr=>hr)
   | inLoop b=>
     simp only [IRel] at hi
     subst hi
     exact(hr _ _ _ h e w tmps (.code b :: .inLoop b :: k) ds kd rof cs hS hT ⟨rfl,rfl,hk⟩ hd hc).pre (.one wo) (E9 e) rfl rfl (fun _ hr=>hr)
   | inReg ops j l=>
     obtain⟨rfl,hl⟩:=hi
     cases l with
     | nil=>
       have:ops.size-j=0:=by
        have:=congrArg List.length hl
        simp at this
        omega
       rw [this]
       exact(hr _ _ _ h e w tmps k ds kd rof cs hS hT hk hd hc).pre (.one iu) (E9 e) rfl rfl (fun _ hr=>hr)
     | cons o l=>exact Do hr h hl hS hT hk hd hc
   | inRange l=>cases h
   | endRange l=>
     obtain⟨x,hx,rfl⟩:=hi
     simp only at h
     split at h
     ·rename_i st pend fn nt T params assign body dr hlp
      obtain⟨tm,y,hy,hTm,hw⟩:=iP hS hlp hx
      have hg:=dj (P:=P) hw (by simp)
      have hset:=fun o'=>fc (P:=P) o' hw (by simp)
      obtain⟨hne,h⟩:=h
      ·have hS':=hS.upd (vo':= .loop .exhausted pend fn nt T params assign body dr) (o':= .loop {state:= .exhausted,pending:=pend,fn:=fn,tmps:=tm,params:=params,assign:=assign,body:=body,defers:=y.blk})
        hlp hx (sW hS hlp hx) rfl rfl (cW x.blk _) (cX hw) ⟨tm,y,hy,hTm,rfl⟩
       have hstb:(st == LoopState.busy)=false:=beq_eq_false_iff_ne.2 hne
       have hend:(Instr.endLoop x.blk).run P w = .ok pend {w with heap:=w.heap.setIfInBounds x.blk (.loop {state:= .exhausted,pending:=pend,fn:=fn,tmps:=tm,params:=params,assign:=assign,body:=body,defers:=y.blk})}:=by
        simp [Instr.endLoop,Instr.getLoop,hg,hne,hset]
       refine(hr _ _ _ h e _ tmps ((pend.map Item.code).toList ++ k) ds kd rof cs hS' hT ?_ hd hc).pre (.one (step_lone_go ?_)) (E9 e) rfl rfl (fun _ hr=>hr)
       ·cases pend with
        | none=>exact hk
        | some c=>exact⟨rfl,hk⟩
       ·simp [stepG,stepG.exec,fr0,hend]
     ·cases h
   | beginRound=>
     simp only [IRel] at hi
     subst hi
     cases ro with
     | none=>cases h
     | some l=>
       obtain⟨x,hx,rfl,rfl,c,cs',rfl⟩:=hc
       simp only at h
       split at h
       ·rename_i st pend fn nt T params assign body dr hlp
        obtain⟨tm,y,hy,hTm,hw⟩:=iP hS hlp hx
        have hg:=dj (P:=P) hw (by simp)
        have hset:=fun o'=>fc (P:=P) o' hw (by simp)
        obtain⟨rfl,h⟩:=h
        ·have hS':=hS.upd (vo':= .loop .busy pend fn nt T params assign body dr) (o':= .loop {state:= .busy,pending:=pend,fn:=fn,tmps:=tm,params:=params,assign:=assign,body:=body,defers:=y.blk})
          hlp hx (sW hS hlp hx) rfl rfl (cW x.blk _) (cX hw) ⟨tm,y,hy,hTm,rfl⟩
         have hbeg:(Instr.beginRound x.blk).run P w = .ok () {w with heap:=w.heap.setIfInBounds x.blk (.loop {state:= .busy,pending:=pend,fn:=fn,tmps:=tm,params:=params,assign:=assign,body:=body,defers:=y.blk})}:=by
          simp [Instr.beginRound,Instr.getLoop,hg,hset]
         refine(hr _ _ _ h e _ tmps k ds .normal (some x.blk) (c :: cs') hS' hT hk hd ⟨x,hx,rfl,rfl,c,cs',rfl⟩).pre (.one (step_lone_go ?_)) (E9 e) rfl rfl (fun _ hr=>hr)
         simp [stepG,stepG.exec,fr0,stepG.apply,hbeg,Frame.finish]
       ·cases h
end
end
theorem kM{nt:Nat}: ∀ {l:List Oper} {seen:List Tmp},rz nt l seen=true→(∀ (i:Nat) o d,l[i]? =some o→o.dst=some d→d<nt∧d∉seen) ∧
 (∀ (i j:Nat) oi oj d,l[i]? =some oi→l[j]? =some oj→oi.dst=some d→oj.dst=some d→i=j)
 | [],seen,_=>⟨fun i o d h=>by simp at h,fun i j oi oj d h=>by simp at h⟩
 | o :: l,seen,h=>by
   simp only [rz] at h
   cases hd:o.dst with
   | none=>
     rw [hd] at h
     obtain⟨h1,h2⟩:=kM h
     refine⟨fun i o' d hi hd'=>?_,fun i j oi oj d hi hj hdi hdj=>?_⟩
     ·cases i with
      | zero=>simp only [Ej,D2] at hi;subst hi;rw [hd] at hd';cases hd'
      | succ i=>exact h1 i o' d (by simpa using hi) hd'
     ·cases i with
      | zero=>simp only [Ej,D2] at hi;subst hi;rw [hd] at hdi;cases hdi
      | succ i=>
        cases j with
        | zero=>simp only [Ej,D2] at hj;subst hj;rw [hd] at hdj;cases hdj
        | succ j=>rw [h2 i j oi oj d (by simpa using hi) (by simpa using hj) hdi hdj]
   | some d0=>
     rw [hd] at h
     simp only [Ek,Bool.not_eq_true'] at h
     obtain⟨⟨g1,g2⟩,g3⟩:=h
     obtain⟨h1,h2⟩:=kM g3
     have hns:d0∉seen:=by simpa using g2
     refine⟨fun i o' d hi hd'=>?_,fun i j oi oj d hi hj hdi hdj=>?_⟩
     ·cases i with
      | zero=>
        simp only [Ej,D2] at hi
        subst hi
        rw [hd] at hd'
        simp only [D2] at hd'
        subst hd'
        exact⟨aN g1,hns⟩
      | succ i=>
        obtain⟨a,b⟩:=h1 i o' d (by simpa using hi) hd'
        exact⟨a,fun hc=>b (EH _ hc)⟩
     ·cases i with
      | zero=>
        simp only [Ej,D2] at hi
        subst hi
        rw [hd] at hdi
        simp only [D2] at hdi
        subst hdi
        cases j with
        | zero=>rfl
        | succ j=>exact absurd (EG ..) (h1 j oj d0 (by simpa using hj) hdj).2
      | succ i=>
        cases j with
        | zero=>
          simp only [Ej,D2] at hj
          subst hj
          rw [hd] at hdj
          simp only [D2] at hdj
          subst hdj
          exact absurd (EG ..) (h1 i oi d0 (by simpa using hi) hdi).2
        | succ j=>rw [h2 i j oi oj d (by simpa using hi) (by simpa using hj) hdi hdj]
theorem qh(t:Tmp): ∀ (l:List Oper) (i0 k:Nat) (o:Oper),l[k]? =some o→o.dst=some t→ ∃ (k':Nat) (o':Oper),ib t l i0=some (i0+k')∧l[k']? =some o'∧o'.dst=some t
 | [],i0,k,o,h,_=>by simp at h
 | o0 :: l,i0,k,o,h,hd=>by
   have rest: ∀ k2:Nat,k=k2+1→ ∃ (k':Nat) (o':Oper),ib t l (i0+1)=some (i0+1+k')∧l[k']? =some o'∧o'.dst=some t:=by
    rintro k2 rfl
    exact qh t l (i0+1) k2 o (by simpa using h) hd
   have lift:(∃ (k':Nat) (o':Oper),ib t l (i0+1)=some (i0+1+k')∧l[k']? =some o'∧o'.dst=some t)→ib t (o0 :: l) i0=ib t l (i0+1)→ ∃ (k':Nat) (o':Oper),ib t (o0 :: l) i0=some (i0+k')∧(o0 :: l)[k']? =some o'∧o'.dst=some t:=by
    rintro⟨k',o',h1,h2,h3⟩ he
    exact⟨k'+1,o',by rw [he,h1];congr 1;omega,by simpa using h2,h3⟩
   cases hd0:o0.dst with
   | none=>
     cases k with
     | zero=>simp only [Ej,D2] at h;subst h;rw [hd0] at hd;cases hd
     | succ k=>exact lift (rest k rfl) (by simp [ib,hd0])
   | some d=>
     cases hb:Nat.beq d t with
     | true=>
       have:=ba hb
       subst this
       exact⟨0,o0,by simp only [ib,hd0,hb,cond_true,Nat.add_zero],rfl,hd0⟩
     | false=>
       cases k with
       | zero=>
         simp only [Ej,D2] at h
         subst h
         rw [hd0] at hd
         simp only [D2] at hd
         subst hd
         rw [show Nat.beq d d=true from Nat.beq_refl d] at hb
         cases hb
       | succ k=>exact lift (rest k rfl) (by simp only [ib,hd0,hb,cond_false])
theorem kn{ops:List Oper}{ancs:List Nat}{i:Nat}{anc:Nat}(hdist: ∀ (i j:Nat) oi oj d,ops[i]? =some oi→ops[j]? =some oj→oi.dst=some d→oj.dst=some d→i=j) :
 ∀ {l:List Operand},dJ ops ancs i anc l=true→ ∀ t,Operand.tmp t∈l→ ∀ (k:Nat) o,ops[k]? =some o→o.dst=some t→anc.testBit k=true∨(ancs.getD k 0).testBit i=true
 | [],_,t,h,_,_,_,_=>by cases h
 | x :: l,h,t,hm,k,o,ho,hd=>by
   have tail:dJ ops ancs i anc l=true→Operand.tmp t∈l→anc.testBit k=true∨(ancs.getD k 0).testBit i=true:=fun h1 h2=>kn hdist h1 t h2 k o ho hd
   cases x with
   | tmp u=>
     simp only [dJ,Ek] at h
     rcases EN.1 hm with he|hm
     ·simp only [Operand.tmp.injEq] at he
      subst he
      obtain⟨k',o',h1,h2,h3⟩:=qh t ops 0 k o ho hd
      have:=hdist k k' o o' t ho h2 hd h3
      subst this
      have h4:=h.1
      rw [h1] at h4
      simpa only [EA,Bool.or_eq_true] using h4
     ·exact tail h.2 hm
   | _=>
     simp only [dJ] at h
     rcases EN.1 hm with he|hm
     ·cases he
     ·exact tail h hm
theorem tP{all:List Oper}{as1:List Nat}: ∀ {l:List Oper} {ancs:List Nat} {i0:Nat},wX all as1 ancs l i0=true→ ∀ (j:Nat) o,l[j]? =some o→ ∃ anc,ancs[j]? =some anc∧iN (i0+j) o.after.toList=true∧dJ all as1 (i0+j) anc (aV all o)=true
 | [],ancs,i0,_,j,o,h=>by simp at h
 | o0 :: l,[],i0,h,j,o,hj=>by simp [wX] at h
 | o0 :: l,a :: ancs,i0,h,j,o,hj=>by
   simp only [wX,Ek] at h
   cases j with
   | zero=>
     simp only [Ej,D2] at hj
     subst hj
     exact⟨a,rfl,h.1.1,h.1.2⟩
   | succ j=>
     obtain⟨anc,h1,h2,h3⟩:=tP h.2 j o (by simpa using hj)
     exact⟨anc,by simpa using h1,by rw [show i0+(j+1)=i0+1+j by omega];exact h2,by rw [show i0+(j+1)=i0+1+j by omega];exact h3⟩
theorem lu{i:Nat}: ∀ {l:List Edge},iN i l=true→ ∀ e∈l,Region.binds .any e=true→e.on<i
 | [],_,e,h,_=>by cases h
 | a :: l,h,e,hm,hb=>by
   simp only [iN,Ek] at h
   rcases EN.1 hm with rfl|hm
   ·have:=h.1
    rw [hb] at this
    exact aN this
   ·exact lu h.2 e hm hb
theorem nu{p:List Nat}{j:Nat}: ∀ {l:List Edge},(rQ p l).testBit j=true→ ∃ e∈l,Region.binds .any e=true∧(j=e.on∨(p.getD e.on 0).testBit j=true)
 | [],h=>by simp [rQ] at h
 | a :: l,h=>by
   simp only [rQ] at h
   cases hb:Region.binds .any a with
   | true=>
     rw [hb] at h
     simp only [cond_true,Nat.testBit_or,Bool.or_eq_true] at h
     rcases h with h|h|h
     ·rw [Nat.testBit_two_pow] at h
      exact⟨a,EG ..,hb,.inl (by simpa [eq_comm] using h)⟩
     ·exact⟨a,EG ..,hb,.inr h⟩
     ·obtain⟨e,h1,h2,h3⟩:=nu h
      exact⟨e,EH _ h1,h2,h3⟩
   | false=>
     rw [hb] at h
     simp only [cond_false] at h
     obtain⟨e,h1,h2,h3⟩:=nu h
     exact⟨e,EH _ h1,h2,h3⟩
theorem nv: ∀ (l:List Oper) (acc:List Nat) (k:Nat),k<acc.length→(er acc l)[k]? =acc[k]?
 | [],acc,k,_=>rfl
 | o :: l,acc,k,h=>by
   rw [er,nv l _ k (by simp;omega),Ei h]
theorem rR: ∀ (l:List Oper) (acc:List Nat) (j:Nat) (o:Oper),l[j]? =some o→ ∃ p:List Nat,p.length=acc.length+j∧(∀ k,k<p.length→p[k]? =(er acc l)[k]?)∧(er acc l)[acc.length+j]? =some (rQ p o.after.toList)
 | [],acc,j,o,h=>by simp at h
 | o0 :: l,acc,j,o,h=>by
   cases j with
   | zero=>
     simp only [Ej,D2] at h
     subst h
     refine⟨acc,rfl,fun k hk=>?_,?_⟩
     ·rw [er,nv l _ k (by simp;omega),Ei hk]
     ·rw [er,nv l _ _ (by simp),EI (by simp)]
      simp
   | succ j=>
     obtain⟨p,h1,h2,h3⟩:=rR l (acc ++ [rQ acc o0.after.toList]) j o (by simpa using h)
     simp only [Er,List.length_singleton] at h1 h3
     refine⟨p,by omega,fun k hk=>?_,?_⟩
     ·rw [er];exact h2 k hk
     ·rw [er,show acc.length+(j+1)=acc.length+1+j by omega]
      exact h3
theorem jo{ops:List Oper}(L:Nat→Prop)(hE: ∀ (i:Nat) o,ops[i]? =some o→iN i o.after.toList=true)(hL: ∀ (i:Nat) o,L i→ops[i]? =some o→ ∀ e∈o.after.toList,Region.binds .any e=true→L e.on) :
 ∀ (i:Nat) o,ops[i]? =some o→(∀ e∈o.after.toList,Region.binds .any e=true→L e.on)→ ∀ j,((er [] ops).getD i 0).testBit j=true→L j∧j<i:=by
 intro i
 induction i using Nat.strongRecOn with
 | _ i ih=>
   intro o ho hedges j hj
   obtain⟨p,h1,h2,h3⟩:=rR ops [] i o ho
   simp only [List.length_nil,EA] at h1 h3
   rw [Eg,h3] at hj
   simp only [Option.getD_some] at hj
   obtain⟨e,he,hb,hcase⟩:=nu hj
   have hlt:=lu (hE i o ho) e he hb
   have hLe:=hedges e he hb
   rcases hcase with rfl|hbit
   ·exact⟨hLe,hlt⟩
   ·have hlen:i<ops.length:=(D6.1 ho).1
    have ho':ops[e.on]? =some ops[e.on]:=D5 (by omega)
    rw [Eg,h2 e.on (by omega),←Eg] at hbit
    obtain⟨g1,g2⟩:=ih e.on hlt _ ho' (hL e.on _ hLe ho') j hbit
    exact⟨g1,by omega⟩
theorem me{T:Tr SV}: ∀ (l:List Operand) (t:Nat) (s:SV),(aT T l).at' t=some s→Operand.tmp t∈l∧T.at' t=some s
 | [],t,s,h=>by simp [aT,ny] at h
 | x :: l,t,s,h=>by
   cases x with
   | tmp u=>
     simp only [aT] at h
     cases hu:T.at' u with
     | none=>
       rw [hu] at h
       obtain⟨h1,h2⟩:=me l t s h
       exact⟨EH _ h1,h2⟩
     | some v=>
       rw [hu] at h
       rcases bl h with ⟨rfl,rfl⟩|⟨_,h⟩
       ·exact⟨EG ..,hu⟩
       ·obtain⟨h1,h2⟩:=me l t s h
        exact⟨EH _ h1,h2⟩
   | _=>
     simp only [aT] at h
     obtain⟨h1,h2⟩:=me l t s h
     exact⟨EH _ h1,h2⟩
section
variable (P:Program) (rn:Rn) (nt:Nat) (ops:Array Oper) (T0:Tr SV)
def Src(R:List Rec)(i:Nat)(t:Nat)(s:SV):Prop:=
 (∃ (k:Nat) (r:Rec),k<i∧R[k]? =some r∧r.o.dst=some t∧r.val=s)∨((∀ (k:Nat) (r:Rec),k<i→R[k]? =some r→r.o.dst≠some t)∧T0.at' t=some s)
structure RecOK (R:List Rec) (Q:List (aw×Nat)) (C:List Nat) (i:Nat) (r:Rec):Prop where
 idx:r.i=i
 op:ops[i]? =some r.o
 slots: ∀ t s,r.T.at' t=some s→Operand.tmp t∈aV ops.toList r.o∧Src T0 R i t s
 want:aD r.T ops r.o=some r.wanted
 skip:r.wanted=false→r.val=eu∧r.chain=false
 float:r.wanted=true→r.chain=false→(∀ c,r.o.op ≠ .defer c)∧ ∃ H n,Q[r.stg]? =some (H,n)∧p8 P rn r.T H n r.o r.val
 eff:r.chain=true→r.wanted=true∧C[r.stg]? =some i∧ ∃ H n H' n',Q[r.stg]? =some (H,n)∧Q[r.stg+1]? =some (H',n')∧gv P rn r.T H n r.o (r.val,H',n')
structure DSOK (i:Nat) (s:DS):Prop where
 len:s.recs.length=i
 hs:s.Hs.length=s.stg+1
 last:s.Hs.reverse[s.stg]? =some (s.H,s.nx)
 cnt:((s.recs.reverse.filter (·.chain)).map (·.i)).length=s.stg
 recs: ∀ (k:Nat) r,s.recs.reverse[k]? =some r→RecOK P rn ops T0 s.recs.reverse s.Hs.reverse ((s.recs.reverse.filter (·.chain)).map (·.i)) k r
 slots: ∀ t v,s.T.at' t=some v→Src T0 s.recs.reverse i t v
end
section
variable {P:Program} {rn:Rn} {nt:Nat} {ops:Array Oper} {T0:Tr SV}
theorem Src.mono{R R':List Rec}{i:Nat}{t:Nat}{s:SV}(h:Src T0 R i t s)(hR: ∀ k,k<i→R'[k]? =R[k]?):Src T0 R' i t s:=by
 rcases h with ⟨k,r,h1,h2,h3,h4⟩|⟨h1,h2⟩
 ·exact .inl ⟨k,r,h1,by rw [hR k h1];exact h2,h3,h4⟩
 ·exact .inr ⟨fun k r hk hr=>h1 k r hk (by rw [← hR k hk];exact hr),h2⟩
theorem RecOK.mono{R R':List Rec}{Q Q':List (aw×Nat)}{C C':List Nat}{i:Nat}{r:Rec}(h:RecOK P rn ops T0 R Q C i r)(hR: ∀ k,k<i→R'[k]? =R[k]?)(hQ: ∀ (j:Nat) x,Q[j]? =some x→Q'[j]? =some x)(hC: ∀ (j:Nat) x,C[j]? =some x→C'[j]? =some x) :
 RecOK P rn ops T0 R' Q' C' i r:=
 ⟨h.idx,h.op,fun t s hs=>let ⟨a,b⟩:=h.slots t s hs;⟨a,b.mono hR⟩,h.want,h.skip,fun a b=>let ⟨x,H,n,c,d⟩:=h.float a b;⟨x,H,n,hQ _ _ c,d⟩,
   fun a=>let ⟨b,c,H,n,H',n',d,e,f⟩:=h.eff a;⟨b,hC _ _ c,H,n,H',n',hQ _ _ d,hQ _ _ e,f⟩⟩
theorem uh{A:Type}{l:List A}{x y:A}{j:Nat}(h:l[j]? =some y):(l ++ [x])[j]? =some y:=by
 rw [Ei (D6.1 h).1];exact h
theorem pJ{A:Type}(l:List A)(x:A):(l ++ [x])[l.length]? =some x:=by simp
theorem DSOK.snoc{i:Nat}{s:DS}(h:DSOK P rn ops T0 i s)(hdst: ∀ (j:Nat) o d,ops.toList[j]? =some o→o.dst=some d→d<nt){r:Rec}{H:aw}{nx:Nat}{Hs:List (aw×Nat)}{stg:Nat}(ho:ops[i]? =some r.o)
 (hlen:Hs.length=stg+1) (hlast:Hs.reverse[stg]? =some (H,nx)) (hQ: ∀ (j:Nat) x,s.Hs.reverse[j]? =some x→Hs.reverse[j]? =some x) (hcnt:(if r.chain then s.stg+1 else s.stg)=stg)
 (hrec:RecOK P rn ops T0 (s.recs.reverse ++ [r]) Hs.reverse (((s.recs.reverse ++ [r]).filter (·.chain)).map (·.i)) i r):DSOK P rn ops T0 (i+1) ⟨k9 nt s.T r.o.dst r.val,H,nx,r :: s.recs,Hs,stg⟩:=by
 have hR: ∀ k,k<i→(s.recs.reverse ++ [r])[k]? =s.recs.reverse[k]? :=fun k hk=>Ei (by simp [h.len];exact hk)
 have hri:(s.recs.reverse ++ [r])[i]? =some r:=by have:=pJ s.recs.reverse r;rw [List.length_reverse,h.len] at this;exact this
 refine⟨by simp [h.len],hlen,hlast,?_,fun k r' hr'=>?_,fun t v hv=>?_⟩
 ·simp only [List.reverse_cons,List.filter_append,Es,Er,h.cnt]
  rw [← hcnt]
  cases hc:r.chain <;> simp [List.filter_cons,hc]
 ·simp only [List.reverse_cons] at hr' ⊢
  rcases EB k i with hk|hk
  ·rw [hR k hk] at hr'
   refine(h.recs k r' hr').mono (fun k' hk'=>hR k' (by omega)) hQ (fun j x hj=>?_)
   rw [List.filter_append,Es]
   rw [Ei (D6.1 hj).1]
   exact hj
  ·have:k=i:=by
    have:=(D6.1 hr').1
    simp [h.len] at this
    omega
   subst this
   rw [hri] at hr'
   simp only [D2] at hr'
   subst hr'
   exact hrec
 ·simp only [List.reverse_cons] at hv ⊢
  have old:s.T.at' t=some v→r.o.dst≠some t→Src T0 (s.recs.reverse ++ [r]) (i+1) t v:=by
   intro hv hne
   rcases h.slots t v hv with ⟨k,r',h1,h2,h3,h4⟩|⟨h1,h2⟩
   ·exact .inl ⟨k,r',by omega,by rw [hR k h1];exact h2,h3,h4⟩
   ·refine .inr ⟨fun k r' hk hr'=>?_,h2⟩
    rcases EB k i with hk'|hk'
    ·rw [hR k hk'] at hr'
     exact h1 k r' hk' hr'
    ·have:k=i:=by omega
     subst this
     rw [hri] at hr'
     simp only [D2] at hr'
     subst hr'
     exact hne
  cases hd:r.o.dst with
  | none=>rw [hd] at hv old;exact old hv (by simp)
  | some d=>
    rw [hd] at hv
    have hlt:=hdst i r.o d (by simpa using ho) hd
    simp only [k9,show Nat.blt d nt=true from D9 hlt,cond_true] at hv
    rcases bl hv with ⟨rfl,rfl⟩|⟨hne,hv⟩
    ·exact .inl ⟨i,r,by omega,hri,hd,rfl⟩
    ·exact old hv (by rw [hd];simp;exact fun hc=>hne hc.symm)
theorem vv{i:Nat}{o:Oper}{s s':DS}(h:DSOK P rn ops T0 i s)(hdst: ∀ (j:Nat) o d,ops.toList[j]? =some o→o.dst=some d→d<nt)(ho:ops[i]? =some o)(hd:yx P rn nt ops i o s s'):DSOK P rn ops T0 (i+1) s':=by
 have hslots: ∀ (R:List Rec),(∀ k,k<i→R[k]? =s.recs.reverse[k]?)→ ∀ t v,(aT s.T (aV ops.toList o)).at' t=some v→Operand.tmp t∈aV ops.toList o∧Src T0 R i t v:=by
  intro R hR t v hv
  obtain⟨h1,h2⟩:=me _ t v hv
  exact⟨h1,(h.slots t v h2).mono hR⟩
 have hR: ∀ (r:Rec) k,k<i→(s.recs.reverse ++ [r])[k]? =s.recs.reverse[k]? :=fun r k hk=>Ei (by simp [h.len];exact hk)
 rcases hd with ⟨hw,rfl⟩|⟨hw,hnd,v,hf,rfl⟩|⟨hw,v,H,nx,he,rfl⟩
 ·exact h.snoc (r:=⟨i,o,_,s.stg,false,false,eu⟩) hdst ho h.hs h.last (fun _ _ hj=>hj) rfl
   ⟨rfl,ho,hslots _ (hR _),hw,fun _=>⟨rfl,rfl⟩,fun hc _=>(by cases hc),fun hc=>(by cases hc)⟩
 ·exact h.snoc (r:=⟨i,o,_,s.stg,false,true,v⟩) hdst ho h.hs h.last (fun _ _ hj=>hj) rfl
   ⟨rfl,ho,hslots _ (hR _),hw,fun hc=>(by cases hc),fun _ _=>⟨hnd,s.H,s.nx,h.last,hf⟩,fun hc=>(by cases hc)⟩
 ·have hl:=h.hs
  have hq: ∀ (j:Nat) x,s.Hs.reverse[j]? =some x→((H,nx) :: s.Hs).reverse[j]? =some x:=fun j x hj=>by rw [List.reverse_cons];exact uh hj
  have hlast:((H,nx) :: s.Hs).reverse[s.stg+1]? =some (H,nx):=by
   rw [List.reverse_cons]
   have:=pJ s.Hs.reverse (H,nx)
   rw [List.length_reverse,hl] at this
   exact this
  refine h.snoc (r:=⟨i,o,_,s.stg,true,true,v⟩) hdst ho (by simp [hl]) hlast hq rfl
   ⟨rfl,ho,hslots _ (hR _),hw,fun hc=>(by cases hc),fun _ hc=>(by cases hc),fun _=>⟨rfl,?_,s.H,s.nx,H,nx,hq _ _ h.last,hlast,he⟩⟩
  simp only [List.filter_append,Es,List.filter_cons,if_true,List.filter_nil,Eo,List.map_nil]
  have:=pJ ((s.recs.reverse.filter (·.chain)).map (·.i)) i
  rw [h.cnt] at this
  exact this
theorem ly(hdst: ∀ (j:Nat) o d,ops.toList[j]? =some o→o.dst=some d→d<nt): ∀ (l:List Oper) (i:Nat) (s s':DS),DSOK P rn ops T0 i s→l=ops.toList.drop i→DrawRun P rn nt ops i l s s'→DSOK P rn ops T0 ops.size s'
 | [],i,s,s',h,hl,hd=>by
   cases hd
   have h1:=congrArg List.length hl
   simp at h1
   have h2:i≤ops.size:=by
    rcases EB ops.size i with hc|hc
    ·exfalso
     have hlen:=h.len
     have hr:=h.recs (i-1) (s.recs.reverse[i-1]'(by simp;omega)) (D5 (by simp;omega))
     have:=(Ec.1 hr.op).1
     omega
    ·exact hc
   have:i=ops.size:=by omega
   subst this
   exact h
 | o :: l,i,s,s',h,hl,hd=>by
   have ho:ops[i]? =some o:=by
    have:ops.toList[i]? =some o:=by
     have:=congrArg List.head? hl
     simpa using this.symm
    simpa using this
   have hl':l=ops.toList.drop (i+1):=by
    have:=congrArg List.tail hl
    simpa using this
   cases hd with
   | cons hone hd=>exact ly hdst l (i+1) _ s' (vv h hdst ho hone) hl' hd
end
section
variable {P:Program} {K:Zone} {w0 w:World} {e:Env} {H:aw} {nx:Nat} {rn:Rn}
section
variable {i:Nat}{o:Oper}{fn:FuncId}{kd:CallKind}{rest:List Nat}{k:List Item}{cs:List Frame}{ops:Array Oper}{rof:Option Nat}{tmps:Array Value}{ds:List Deferred}
theorem tW{anc:Nat}: ∀ {l:List Nat} (j:Nat),j<gW anc l→ ∃ c,l[j]? =some c∧anc.testBit c=true
 | [],j,h=>by simp [gW] at h
 | c :: l,j,h=>by
   simp only [gW] at h
   cases hb:anc.testBit c with
   | false=>rw [hb] at h;simp at h
   | true=>
     rw [hb] at h
     simp only [cond_true] at h
     cases j with
     | zero=>exact⟨c,rfl,hb⟩
     | succ j=>
       obtain⟨c',h1,h2⟩:=tW (anc:=anc) (l:=l) j (by omega)
       exact⟨c',by simpa using h1,h2⟩
theorem rb{ancs:List Nat}{i:Nat}: ∀ {l:List Nat},dq ancs i l<l.length→ ∃ c,l[dq ancs i l]? =some c∧(ancs.getD c 0).testBit i=true
 | [],h=>by simp at h
 | c :: l,h=>by
   simp only [dq] at h ⊢
   cases hb:(ancs.getD c 0).testBit i with
   | true=>simp only [cond_true];exact⟨c,rfl,hb⟩
   | false=>
     rw [hb] at h
     simp only [cond_false,Ep] at h
     obtain⟨c',h1,h2⟩:=rb (ancs:=ancs) (i:=i) (l:=l) (by omega)
     exact⟨c',by simpa using h1,h2⟩
theorem lD{ancs:List Nat}: ∀ {l:List Nat},jW ancs l=true→ ∀ (j:Nat) c c',l[j]? =some c→l[j+1]? =some c'→(ancs.getD c' 0).testBit c=true
 | [],_,j,c,c',h,_=>by simp at h
 | [a],_,j,c,c',_,h=>by simp at h
 | a :: b :: l,h,j,c,c',h1,h2=>by
   simp only [jW,Ek] at h
   cases j with
   | zero=>
     simp only [Ej,D2,EA,List.getElem?_cons_succ] at h1 h2
     subst h1 h2
     exact h.1
   | succ j=>exact lD h.2 j c c' (by simpa using h1) (by simpa using h2)
theorem mz{v:Value}{nxt:Next}{w':World}
 (ho:ops[i]? =some o) (hw:Region.wanted o (yielded ops tmps)=true) (hnd: ∀ c,o.op ≠ .defer c) (hn:nxt = .value v∨(nxt = .skip∧v=undef))
 (hr:(execOp (fr0 fn tmps (.inRegion ops (i :: rest) :: k) ds kd rof).eval o).run P w = .ok nxt w') :
 Steps P (lone (fr0 fn tmps (.inRegion ops (i :: rest) :: k) ds kd rof) cs w) (lone (fr0 fn (tL tmps o.dst v) (.inRegion ops rest :: k) ds kd rof) cs w'):=by
 refine .one (step_lone_go ?_)
 rw [iW ho hw (.inr hnd),←eN ho]
 rcases hn with rfl|⟨rfl,rfl⟩
 ·simp only [stepG.apply,Sem.runT_eq,if_true,hr,GStep.bare_after,GStep.bare_go]
 ·simp only [stepG.apply,Sem.runT_eq,if_true,hr,GStep.bare_after,GStep.bare_go]
theorem ng{nt:Nat}{T:Tr SV}{v:SV}
 (hS:St K w0 e H nx w) (hT:TRel e nt T tmps) (ho:ops[i]? =some o) (hw:Region.wanted o (yielded ops tmps)=true) (hnd: ∀ c,o.op ≠ .defer c) (h:ReadDoes P T H o v) :
 ∃ u,v.conc e=some u∧Steps P (lone (fr0 fn tmps (.inRegion ops (i :: rest) :: k) ds kd rof) cs w) (lone (fr0 fn (tL tmps o.dst u) (.inRegion ops rest :: k) ds kd rof) cs w):=by
 have hE:=TRel.ev (fr:=fr0 fn tmps (.inRegion ops (i :: rest) :: k) ds kd rof) hT
 obtain⟨u,hu,hrun⟩:=h _ _ _ _ _ _ hS hE
 exact⟨u,hu,mz ho hw hnd (.inl rfl) hrun⟩
theorem kI(hrn:l8 P K w0 rn){nt:Nat}{T:Tr SV}{v:SV}{H':aw}{nx':Nat}
 (hS:St K w0 e H nx w) (hT:TRel e nt T tmps) (ho:ops[i]? =some o) (hw:Region.wanted o (yielded ops tmps)=true) (h:gv P rn T H nx o (v,H',nx')) :
 ∃ e' w' u,e.le e'∧St K w0 e' H' nx' w'∧v.conc e'=some u∧Steps P (lone (fr0 fn tmps (.inRegion ops (i :: rest) :: k) ds kd rof) cs w) (lone (fr0 fn (tL tmps o.dst u) (.inRegion ops rest :: k) ds kd rof) cs w'):=by
 have hE:=TRel.ev (fr:=fr0 fn tmps (.inRegion ops (i :: rest) :: k) ds kd rof) hT
 obtain⟨out,hdo,hnd,h⟩:=h
 obtain⟨e1,w1,hle,hS1,hrun⟩:=hdo _ _ _ _ _ hS hE
 obtain⟨a,H1,nx1⟩:=out
 cases a with
 | val s=>
   simp only [Ea] at h
   obtain⟨rfl,rfl,rfl⟩:=h
   obtain⟨u,hu,hres⟩:=hrun
   exact⟨e1,w1,u,hle,hS1,hu,mz ho hw hnd (.inl rfl) hres⟩
 | skip=>
   simp only [Ea] at h
   obtain⟨rfl,rfl,rfl⟩:=h
   exact⟨e1,w1,undef,hle,hS1,rfl,mz ho hw hnd (.inr ⟨rfl,rfl⟩) hrun⟩
 | enter f args=>
   simp only at h
   obtain⟨vs,hvs,hres⟩:=hrun
   obtain⟨r,rfl,e2,w2,u,g1,g2,g3,g4⟩:=nr (kR hrn h hS1 hvs (kd:= .normal) (cs:=fr0 fn tmps (.inRegion ops (i :: rest) :: k) ds kd rof :: cs) ⟨rfl,.inl rfl⟩)
   refine⟨e2,w2,u,Env.le_trans hle g1,g2,g3,?_⟩
   rw [eN ho] at g4
   refine .head (step_lone_go ?_) g4
   rw [iW ho hw (.inr hnd)]
   simp only [stepG.apply,Sem.runT_eq,if_true,hres,GStep.bare_after,GStep.bare_go]
   rfl
 | round l args=>
   simp only at h
   obtain⟨x,vs,hx,hvs,hres⟩:=hrun
   obtain⟨fn2,tmps2,assign,body,hy,hback⟩:=qv (P:=P) hrn h hS1 hvs hx
   rw [hy] at hres
   obtain⟨r,rfl,e2,w2,u,g1,g2,g3,g4⟩:=hback (fr0 fn tmps (.inRegion ops (i :: rest) :: k) ds kd rof) cs
   refine⟨e2,w2,u,Env.le_trans hle g1,g2,g3,?_⟩
   rw [eN ho] at g4
   refine .head (step_lone_go ?_) g4
   rw [iW ho hw (.inr hnd)]
   simp only [stepG.apply,Sem.runT_eq,if_true,hres,GStep.bare_after,GStep.bare_go]
 | _=>exact h.elim
end
end
section
variable {P:Program} {K:Zone} {w0:World} {rn:Rn} {nt:Nat} {ops:Array Oper} {T0:Tr SV} {R:List Rec} {Q:List (aw×Nat)} {C:List Nat}
structure RegOK (P:Program) (rn:Rn) (nt:Nat) (ops:Array Oper) (T0:Tr SV) (R:List Rec) (Q:List (aw×Nat)) (C:List Nat):Prop where
 len:R.length=ops.size
 recs: ∀ (k:Nat) r,R[k]? =some r→RecOK P rn ops T0 R Q C k r
 stages:Q.length=C.length+1
 chainR:C=(R.filter (·.chain)).map (·.i)
 small: ∀ (i:Nat) o d,ops.toList[i]? =some o→o.dst=some d→d<nt
 dist: ∀ (i j:Nat) oi oj d,ops.toList[i]? =some oi→ops.toList[j]? =some oj→oi.dst=some d→oj.dst=some d→i=j
 edges: ∀ (i:Nat) o,ops.toList[i]? =some o→iN i o.after.toList=true
 opnds: ∀ (i:Nat) o,ops.toList[i]? =some o→dJ ops.toList (er [] ops.toList) i ((er [] ops.toList).getD i 0) (aV ops.toList o)=true
def Good(T0:Tr SV)(R:List Rec)(L:Nat→Prop)(t:Nat)(s:SV):Prop:=
 (∃ (k:Nat) (r:Rec),L k∧R[k]? =some r∧r.o.dst=some t∧r.val=s)∨((∀ (k:Nat) (r:Rec),L k→R[k]? =some r→r.o.dst≠some t)∧T0.at' t=some s)
abbrev Mem:=(Nat→Prop)→Env→aw→Nat→Prop
structure PInv (K:Zone) (w0:World) (nt:Nat) (ops:Array Oper) (T0:Tr SV) (R:List Rec) (M:Mem) (L:Nat→Prop) (e:Env) (w:World) (tr:Array Value):Prop where
 st: ∃ H n,M L e H n∧St K w0 e H n w
 size:tr.size=nt
 good: ∀ t sv,Good T0 R L t sv→ ∃ v,sv.conc e=some v∧tr.getD t undef=v
 closed: ∀ (i:Nat) o,L i→ops.toList[i]? =some o→ ∀ ed∈o.after.toList,Region.binds .any ed=true→L ed.on
def Anc(ops:Array Oper)(i c:Nat):Prop:=((er [] ops.toList).getD i 0).testBit c=true
def rT(P:Program)(K:Zone)(w0:World)(nt:Nat)(ops:Array Oper)(R:List Rec)(M:Mem):Prop:=
 ∀ (L:Nat→Prop) (i:Nat) (o:Oper) (r:Rec) (e:Env) (w:World) (tr:Array Value) (H:aw) (n:Nat) (fn:FuncId) (rest:List Nat) (k:List Item) (ds:List Deferred) (kd:CallKind) (rof:Option Nat) (cs:List Frame),
  ops[i]? =some o→R[i]? =some r→r.o=o→ ¬ L i→(∀ c,Anc ops i c→L c)→(∀ j c,L j→j<ops.size→Anc ops j c→L c)→TRel e nt r.T tr→Region.wanted o (yielded ops tr)=r.wanted→M L e H n→St K w0 e H n w →
  ∃ e' w' u H' n',e.le e'∧M (fun j=>L j∨j=i) e' H' n'∧St K w0 e' H' n' w'∧r.val.conc e'=some u ∧
   Steps P (lone (fr0 fn tr (.inRegion ops (i :: rest) :: k) ds kd rof) cs w) (lone (fr0 fn (tL tr o.dst u) (.inRegion ops rest :: k) ds kd rof) cs w')
variable {M:Mem} {e:Env} {w:World}
theorem PInv.step(hSt:rT P K w0 nt ops R M)(hR:RegOK P rn nt ops T0 R Q C){L:Nat→Prop}{tr:Array Value}(h:PInv K w0 nt ops T0 R M L e w tr){i:Nat}{o:Oper}(ho:ops[i]? =some o)(hni: ¬ L i)
 (hed: ∀ ed∈o.after.toList,Region.binds .any ed=true→L ed.on) (fn:FuncId) (rest:List Nat) (k:List Item) (ds:List Deferred) (kd:CallKind) (rof:Option Nat) (cs:List Frame) :
 ∃ e' w' tr',e.le e'∧PInv K w0 nt ops T0 R M (fun j=>L j∨j=i) e' w' tr' ∧
  Steps P (lone (fr0 fn tr (.inRegion ops (i :: rest) :: k) ds kd rof) cs w) (lone (fr0 fn tr' (.inRegion ops rest :: k) ds kd rof) cs w'):=by
 have hoL:ops.toList[i]? =some o:=by simpa using ho
 have hilt:i<ops.size:=(Ec.1 ho).1
 obtain⟨r,hr⟩: ∃ r,R[i]? =some r:=⟨_,D5 (by rw [hR.len];exact hilt)⟩
 have hrec:=hR.recs i r hr
 have hro:r.o=o:=by
  have:=hrec.op
  rw [ho] at this
  simpa using this.symm
 have hanc:=jo L hR.edges (fun i o hi ho'=>h.closed i o hi ho') i o hoL hed
 have hT:TRel e nt r.T tr:=by
  refine⟨h.size,fun t sv ht=>?_⟩
  obtain⟨hneed,hsrc⟩:=hrec.slots t sv ht
  rw [hro] at hneed
  have hwr: ∀ (k':Nat) o',ops.toList[k']? =some o'→o'.dst=some t→(L k'∧k'<i)∨(¬ L k'∧i<k'):=fun k' o' ho' hd'=>by
   rcases kn hR.dist (hR.opnds i o hoL) t hneed k' o' ho' hd' with hb|hb
   ·exact .inl (hanc k' hb)
   ·refine .inr ⟨fun hL=>?_,?_⟩
    ·exact hni (jo L hR.edges (fun i o hi ho'=>h.closed i o hi ho') k' o' ho' (h.closed k' o' hL ho') i hb).1
    ·exact(jo (fun _=>True) hR.edges (fun _ _ _ _ _ _ _=>trivial) k' o' ho' (fun _ _ _=>trivial) i hb).2
  refine h.good t sv ?_
  rcases hsrc with ⟨k',r',h1,h2,h3,h4⟩|⟨h1,h2⟩
  ·have hop:=(hR.recs k' r' h2).op
   rcases hwr k' r'.o (by simpa using hop) h3 with g|g
   ·exact .inl ⟨k',r',g.1,h2,h3,h4⟩
   ·omega
  ·refine .inr ⟨fun k' r' hLk hr' hd'=>?_,h2⟩
   have hop:=(hR.recs k' r' hr').op
   rcases hwr k' r'.o (by simpa using hop) hd' with g|g
   ·exact h1 k' r' g.2 hr' hd'
   ·exact g.1 hLk
 have hwant:=kU hrec.want hT
 rw [hro] at hwant
 obtain⟨H,n,hM,hS⟩:=h.st
 obtain⟨e',w',u,H',n',hle,hM',hS',hu,hst⟩:=hSt L i o r e w tr H n fn rest k ds kd rof cs ho hr hro hni (fun c hc=>(hanc c hc).1) (fun j c hj hjl hc=>
  have hoj:ops.toList[j]? =some (ops.toList[j]'(by simpa using hjl)):=D5 (by simpa using hjl)
  (jo L hR.edges (fun i o hi ho'=>h.closed i o hi ho') j _ hoj (h.closed j _ hj hoj) c hc).1) hT hwant hM hS
 refine⟨e',w',_,hle,?_,hst⟩
 refine⟨⟨H',n',hM',hS'⟩,?_,fun t sv hg=>?_,fun j oj hj hoj ed hed' hb=>?_⟩
 ·unfold tL
  cases o.dst with
  | none=>exact h.size
  | some d=>simpa using h.size
 ·have old:(∀ d,o.dst=some d→d≠t)→ ∃ v,sv.conc e'=some v∧(tL tr o.dst u).getD t undef=v:=by
   intro hne
   have hg':Good T0 R L t sv:=by
    rcases hg with ⟨k',r',hk',h2,h3,h4⟩|hg
    ·refine .inl ⟨k',r',?_,h2,h3,h4⟩
     rcases hk' with hk'|rfl
     ·exact hk'
     ·exfalso
      rw [hr] at h2
      simp only [D2] at h2
      subst h2
      rw [hro] at h3
      exact hne t h3 rfl
    ·exact .inr ⟨fun k' r' hLk=>hg.1 k' r' (.inl hLk),hg.2⟩
   obtain⟨v,hv,hgv⟩:=h.good t sv hg'
   refine⟨v,SV.dl hle _ _ hv,?_⟩
   cases hd:o.dst with
   | none=>exact hgv
   | some d=>
     have:=hne d hd
     simp only [tL]
     rw [D8,Array.getElem?_setIfInBounds_ne this,←D8]
     exact hgv
  cases hd:o.dst with
  | none=>rw [hd] at old;exact old (fun d hd'=>by cases hd')
  | some d=>
    by_cases hdt:d=t
    ·subst hdt
     have hval:sv=r.val:=by
      rcases hg with ⟨k',r',hk',h2,h3,h4⟩|⟨h1,_⟩
      ·have hop:=(hR.recs k' r' h2).op
       have:=hR.dist k' i r'.o o d (by simpa using hop) hoL h3 hd
       subst this
       rw [hr] at h2
       simp only [D2] at h2
       subst h2
       exact h4.symm
      ·exact absurd (by rw [hro];exact hd) (h1 i r (.inr rfl) hr)
     subst hval
     refine⟨u,hu,?_⟩
     have hlt:=hR.small i o d hoL hd
     simp only [tL]
     rw [D8,Array.getElem?_setIfInBounds_self_of_lt (by rw [h.size];exact hlt)]
     rfl
    ·rw [hd] at old
     exact old (fun d' hd'=>by simp only [D2] at hd';subst hd';exact hdt)
 ·rcases hj with hj|rfl
  ·exact .inl (h.closed j oj hj hoj ed hed' hb)
  ·rw [hoL] at hoj
   simp only [D2] at hoj
   subst hoj
   exact .inl (hed ed hed' hb)
def du(listed:Array Bool)(j:Nat):Prop:=listed[j]? =some true
theorem wF{listed:Array Bool}(hsz:listed.size=ops.size){i:Nat}(h:i∈Region.ready .any ops listed): ∃ o,ops[i]? =some o∧ ¬ du listed i∧ ∀ ed∈o.after.toList,Region.binds .any ed=true→du listed ed.on:=by
 unfold Region.ready at h
 rw [List.mem_filter,EU,Ek] at h
 obtain⟨h1,h2,h3⟩:=h
 have ho:ops[i]? =some ops[i]:=Ee h1
 refine⟨ops[i],ho,?_,fun ed hed hb=>?_⟩
 ·intro hl
  unfold du at hl
  rw [D8,hl] at h2
  simp at h2
 ·rw [ho] at h3
  simp only [Et,Option.getD_some] at h3
  rw [Array.all_eq_true_iff_forall_mem] at h3
  have:=h3 ed (by simpa using hed)
  rw [hb] at this
  simp only [Bool.not_true,Bool.false_or] at this
  unfold du
  rw [D8] at this
  cases hx:listed[ed.on]? with
  | none=>rw [hx] at this;simp at this
  | some b=>rw [hx] at this;simp only [Option.getD_some] at this;rw [this]
theorem zh{listed:Array Bool}(hsz:listed.size=ops.size)(hE: ∀ (i:Nat) o,ops.toList[i]? =some o→iN i o.after.toList=true){i:Nat}(hi:i<ops.size)(hn: ¬ du listed i): ∃ j,j∈Region.ready .any ops listed:=by
 induction i using Nat.strongRecOn with
 | _ i ih=>
   have ho:ops[i]? =some ops[i]:=Ee hi
   by_cases hall: ∀ ed∈ops[i].after.toList,Region.binds .any ed=true→du listed ed.on
   ·refine⟨i,?_⟩
    unfold Region.ready
    rw [List.mem_filter,EU,Ek]
    refine⟨hi,?_,?_⟩
    ·unfold du at hn
     rw [D8]
     have hlt:i<listed.size:=by omega
     rw [Ee hlt] at hn ⊢
     simp only [D2,Bool.not_eq_true] at hn
     simp [hn]
    ·rw [ho]
     simp only [Et,Option.getD_some]
     rw [Array.all_eq_true_iff_forall_mem]
     intro ed hed
     cases hb:Region.binds .any ed with
     | false=>rfl
     | true=>
       have:=hall ed (by simpa only [Array.mem_toList_iff] using hed) hb
       unfold du at this
       rw [D8,this]
       rfl
   ·have: ∃ ed,ed∈ops[i].after.toList∧Region.binds .any ed=true∧ ¬ du listed ed.on:=by
     apply Classical.byContradiction
     intro hc
     apply hall
     intro ed h1 h2
     apply Classical.byContradiction
     intro h3
     exact hc ⟨ed,h1,h2,h3⟩
    obtain⟨ed,h1,h2,h3⟩:=this
    have hlt:=lu (hE i ops[i] (by simp)) ed h1 h2
    exact ih ed.on hlt (by omega) h3
def iV(listed:Array Bool):Nat:=listed.toList.count false
theorem rD: ∀ (l:List Bool) (i:Nat),l[i]? =some false→(l.set i true).count false+1=l.count false
 | [],i,h=>by simp at h
 | b :: l,0,h=>by
   simp only [Ej,D2] at h
   subst h
   simp [List.count_cons]
 | b :: l,i+1,h=>by
   have:=rD l i (by simpa using h)
   simp only [List.set_cons_succ,List.count_cons]
   omega
theorem zt(hSt:rT P K w0 nt ops R M)(hR:RegOK P rn nt ops T0 R Q C)(fn:FuncId)(k:List Item)(ds:List Deferred)(kd:CallKind)(rof:Option Nat)(cs:List Frame): ∀ (fuel t:Nat) (listed:Array Bool) (e:Env) (w:World) (tr:Array Value),
 listed.size=ops.size→iV listed≤fuel→PInv K w0 nt ops T0 R M (du listed) e w tr →
 ∃ e' w' tr' listed',e.le e'∧listed'.size=ops.size∧(∀ j,j<ops.size→du listed' j)∧PInv K w0 nt ops T0 R M (du listed') e' w' tr' ∧
  Steps P (lone (fr0 fn tr (.inRegion ops (Region.linearise.go .any ops fuel t listed []) :: k) ds kd rof) cs w) (lone (fr0 fn tr' (.inRegion ops [] :: k) ds kd rof) cs w'):=by
 have allOf: ∀ (listed:Array Bool),listed.size=ops.size→(∀ j,j∉Region.ready .any ops listed)→ ∀ j,j<ops.size→du listed j:=by
  intro listed hsz hno j hj
  apply Classical.byContradiction
  intro hn
  obtain⟨i,hi⟩:=zh hsz hR.edges hj hn
  exact hno i hi
 intro fuel
 induction fuel with
 | zero=>
   intro t listed e w tr hsz hun hI
   refine⟨e,w,tr,listed,E9 e,hsz,fun j hj=>?_,hI,by simp only [Region.linearise.go,List.reverse_nil];exact .refl P _⟩
   unfold du
   have hlt:j<listed.size:=by omega
   rw [Ee hlt]
   cases hb:listed[j] with
   | true=>rfl
   | false=>
     exfalso
     have:0<listed.toList.count false:=List.count_pos_iff.2 (by rw [← hb];simp)
     unfold iV at hun
     omega
 | succ fuel ih=>
   intro t listed e w tr hsz hun hI
   simp only [Region.linearise.go]
   change ∃ e' w' tr' listed',_∧_∧_∧_∧Steps P (lone (fr0 fn tr (.inRegion ops (match (Region.ready .any ops listed)[t % (Region.ready .any ops listed).length]? with
    | some i=>Region.linearise.go .any ops fuel (t / (Region.ready .any ops listed).length) (listed.setIfInBounds i true) [i]
    | none=> [].reverse) :: k) ds kd rof) cs w) _
   cases hpick:(Region.ready .any ops listed)[t % (Region.ready .any ops listed).length]? with
   | none=>
     have hnil:Region.ready .any ops listed= []:=by
      cases hx:Region.ready .any ops listed with
      | nil=>rfl
      | cons x xs=>
        rw [hx] at hpick
        have hlt:t % (x :: xs).length<(x :: xs).length:=Nat.mod_lt _ (by simp)
        rw [D5 hlt] at hpick
        cases hpick
     exact⟨e,w,tr,listed,E9 e,hsz,allOf listed hsz (by rw [hnil];simp),hI,.refl P _⟩
   | some i=>
     simp only
     have hmem:=Ef hpick
     obtain⟨o,ho,hni,hed⟩:=wF hsz hmem
     rw [linearise_go_acc,List.reverse_singleton,List.singleton_append]
     obtain⟨e1,w1,tr1,hle1,hI1,hst1⟩:=hI.step hSt hR ho hni hed fn (Region.linearise.go .any ops fuel (t / (Region.ready .any ops listed).length) (listed.setIfInBounds i true) []) k ds kd rof cs
     have hilt:i<ops.size:=(Ec.1 ho).1
     have hfalse:listed.toList[i]? =some false:=by
      have hlt:i<listed.size:=by omega
      unfold du at hni
      rw [Ee hlt] at hni
      rw [Array.getElem?_toList,Ee hlt]
      simpa using hni
     have hcnt:iV (listed.setIfInBounds i true)+1=iV listed:=by
      unfold iV
      rw [Array.toList_setIfInBounds]
      exact rD _ _ hfalse
     have hLeq: ∀ j,du (listed.setIfInBounds i true) j↔(du listed j∨j=i):=by
      intro j
      unfold du
      by_cases hji:j=i
      ·subst hji
       rw [Array.getElem?_setIfInBounds_self_of_lt (by omega)]
       simp
      ·rw [Array.getElem?_setIfInBounds_ne (Ne.symm hji)]
       simp [hji]
     have hI2:PInv K w0 nt ops T0 R M (du (listed.setIfInBounds i true)) e1 w1 tr1:=by
      have:du (listed.setIfInBounds i true)=fun j=>du listed j∨j=i:=funext fun j=>propext (hLeq j)
      rw [this]
      exact hI1
     obtain⟨e2,w2,tr2,l2,hle2,hs2,ha2,hI3,hst2⟩:=ih _ _ e1 w1 tr1 (by simpa using hsz) (by omega) hI2
     exact⟨e2,w2,tr2,l2,Env.le_trans hle1 hle2,hs2,ha2,hI3,hst1.trans hst2⟩
end
section
variable {P:Program} {K:Zone} {w0:World} {rn:Rn} {nt:Nat} {ops:Array Oper} {T0:Tr SV} {R:List Rec} {Q:List (aw×Nat)} {C:List Nat}
theorem np(hR:RegOK P rn nt ops T0 R Q C){s j c:Nat}(h1:C[s]? =some c)(h2:C[j]? =some c):s=j:=by
 have hnd:C.Nodup:=by
  rw [hR.chainR]
  have hall:((R.filter (·.chain)).map (·.i)).Sublist (R.map (·.i)):=(List.filter_sublist).map _
  refine hall.nodup ?_
  have:R.map (·.i)=List.range R.length:=by
   apply ET
   intro k
   rw [EP]
   cases hk:R[k]? with
   | none=>
     rw [List.getElem?_eq_none_iff] at hk
     simp [hk]
   | some r=>
     have hlt:=(D6.1 hk).1
     rw [Et,(hR.recs k r hk).idx,List.getElem?_range hlt]
  rw [this]
  exact List.nodup_range
 have a:=D6.1 h1
 have b:=D6.1 h2
 obtain⟨a1,a2⟩:=a
 obtain⟨b1,b2⟩:=b
 exact(List.getElem_inj hnd).1 (a2.trans b2.symm)
theorem RegOK.at_chain(hR:RegOK P rn nt ops T0 R Q C){j c:Nat}{r:Rec}(hj:C[j]? =some c)(hr:R[c]? =some r):r.chain=true:=by
 rw [hR.chainR] at hj
 have hcm:=Ef hj
 rw [EV] at hcm
 obtain⟨r',hr',hi⟩:=hcm
 rw [List.mem_filter] at hr'
 obtain⟨k',hk'⟩:=List.mem_iff_getElem?.1 hr'.1
 have:=(hR.recs k' r' hk').idx
 rw [hi] at this
 subst this
 rw [hr] at hk'
 cases hk'
 exact hr'.2
theorem RegOK.lt(hR:RegOK P rn nt ops T0 R Q C){j c:Nat}(hj:C[j]? =some c):c<ops.size:=by
 rw [hR.chainR] at hj
 have hcm:=Ef hj
 rw [EV] at hcm
 obtain⟨r',hr',rfl⟩:=hcm
 rw [List.mem_filter] at hr'
 obtain⟨k',hk'⟩:=List.mem_iff_getElem?.1 hr'.1
 have hx:=hR.recs k' r' hk'
 rw [hx.idx]
 exact(Ec.1 hx.op).1
def D0(Q:List (aw×Nat))(C:List Nat)(k:Nat):Mem:=fun L _ H n=> ∃ s,k≤s∧Q[s]? =some (H,n)∧ ∀ (j c:Nat),C[j]? =some c→(L c↔j<s)
def A2(P:Program)(rn:Rn)(ops:Array Oper)(R:List Rec)(Q:List (aw×Nat))(C:List Nat)(k:Nat):Prop:=
 (∀ (j c c':Nat),k≤j→C[j]? =some c→C[j+1]? =some c'→Anc ops c' c) ∧
 ∀ r∈R,r.chain=false→r.wanted=true→ ∀ s,k≤s→gW ((er [] ops.toList).getD r.i 0) C≤s→s≤dq (er [] ops.toList) r.i C→ ∀ H n,Q[s]? =some (H,n)→p8 P rn r.T H n r.o r.val
theorem qo(hrn:l8 P K w0 rn)(hR:RegOK P rn nt ops T0 R Q C){k0:Nat}(hl:A2 P rn ops R Q C k0):rT P K w0 nt ops R (D0 Q C k0):=by
 intro L i o r e w tr H n fn rest k ds kd rof cs ho hr hro hni hanc hcl hT hwant hM hS
 obtain⟨s,hks,hQ,hch⟩:=hM
 have hrec:=hR.recs i r hr
 have notChain:r.chain=false→ ∀ (j c:Nat),C[j]? =some c→((L c∨c=i)↔j<s):=by
  intro hc j c hj
  have hne:c≠i:=by
   rintro rfl
   rw [hR.at_chain hj hr] at hc
   cases hc
  rw [← hch j c hj]
  simp [hne]
 cases hwd:r.wanted with
 | false=>
   rw [hwd] at hwant
   obtain⟨h1,h2⟩:=hrec.skip hwd
   exact⟨e,w,undef,H,n,E9 e,⟨s,hks,hQ,notChain h2⟩,hS,by rw [h1];rfl,.one (iv ho hwant)⟩
 | true=>
   rw [hwd] at hwant
   cases hc:r.chain with
   | false=>
     have hri:=hrec.idx
     have hlo:gW ((er [] ops.toList).getD r.i 0) C≤s:=by
      rcases EB s (gW ((er [] ops.toList).getD r.i 0) C)with hlt|hge
      ·exfalso
       obtain⟨c,h1,h2⟩:=tW s hlt
       rw [hri] at h2
       have:=(hch s c h1).1 (hanc c h2)
       omega
      ·exact hge
     have hhi:s≤dq (er [] ops.toList) r.i C:=by
      rcases EB (dq (er [] ops.toList) r.i C) s with hlt|hge
      ·exfalso
       have hsC:s≤C.length:=by
        have:=(D6.1 hQ).1
        have:=hR.stages
        omega
       obtain⟨c,h1,h2⟩:=rb (ancs:=er [] ops.toList) (i:=r.i) (l:=C) (by omega)
       have:=hcl c r.i ((hch _ c h1).2 hlt) (hR.lt h1) h2
       rw [hri] at this
       exact hni this
      ·exact hge
     have hf:=hl.2 r (Ef hr) hc hwd s hks hlo hhi H n hQ
     have hnd:=(hrec.float hwd hc).1
     rw [hro] at hf hnd
     rcases hf with hf|hf
     ·obtain⟨u,hu,hst⟩:=ng (P:=P) (fn:=fn) (rest:=rest) (k:=k) (ds:=ds) (kd:=kd) (rof:=rof) (cs:=cs) hS hT ho hwant hnd hf
      exact⟨e,w,u,H,n,E9 e,⟨s,hks,hQ,notChain hc⟩,hS,hu,hst⟩
     ·obtain⟨e',w',u,hle,hS',hu,hst⟩:=kI (P:=P) hrn (fn:=fn) (rest:=rest) (k:=k) (ds:=ds) (kd:=kd) (rof:=rof) (cs:=cs) hS hT ho hwant hf
      exact⟨e',w',u,H,n,hle,⟨s,hks,hQ,notChain hc⟩,hS',hu,hst⟩
   | true=>
     obtain⟨_,hC,H1,n1,H2,n2,hQ1,hQ2,heff⟩:=hrec.eff hc
     have hss:r.stg=s:=by
      have h1: ¬ r.stg<s:=fun hlt=>hni ((hch r.stg i hC).2 hlt)
      rcases EB s r.stg with hp|hp
      ·exfalso
       have hlt:r.stg-1<C.length:=by
        have:=(D6.1 hC).1
        omega
       have hprev:C[r.stg-1]? =some C[r.stg-1]:=D5 hlt
       have hbit:=hl.1 (r.stg-1) C[r.stg-1] i (by omega) hprev (by rw [show r.stg-1+1=r.stg by omega];exact hC)
       have:=(hch _ _ hprev).1 (hanc _ hbit)
       omega
      ·omega
     rw [hss] at hQ1 hQ2 hC
     rw [hQ] at hQ1
     simp only [D2,Ea] at hQ1
     obtain⟨rfl,rfl⟩:=hQ1
     rw [hro] at heff
     obtain⟨e',w',u,hle,hS',hu,hst⟩:=kI (P:=P) hrn (fn:=fn) (rest:=rest) (k:=k) (ds:=ds) (kd:=kd) (rof:=rof) (cs:=cs) hS hT ho hwant heff
     refine⟨e',w',u,H2,n2,hle,⟨s+1,by omega,hQ2,fun j c hj=>?_⟩,hS',hu,hst⟩
     constructor
     ·rintro(hL|rfl)
      ·have:=(hch j c hj).1 hL;omega
      ·have:=np hR hC hj
       omega
     ·intro hlt
      rcases EB j s with hj'|hj'
      ·exact .inl ((hch j c hj).2 hj')
      ·have:j=s:=by omega
       subst this
       rw [hC] at hj
       simp only [D2] at hj
       exact .inr hj.symm
end
section
variable {H:aw}{rn:Rn}{n nt:Nat}{P:Program}{ops:Array Oper}
theorem AB{P:Program}{rn:Rn}{nt:Nat}{ops:Array Oper}{x:aw×Nat}: ∀ (l:List Oper) {i:Nat} (s s':DS),DrawRun P rn nt ops i l s s'→s.Hs.reverse[0]? =some x→s'.Hs.reverse[0]? =some x
 | [],i,s,s',h,h0=>by cases h;exact h0
 | o :: l,i,s,s',h,h0=>by
   cases h with
   | cons ho h=>
     refine AB l _ s' h ?_
     rcases ho with ⟨_,rfl⟩|⟨_,_,v,_,rfl⟩|⟨_,v,H,nx,_,rfl⟩
     ·exact h0
     ·exact h0
     ·simp only [List.reverse_cons]
      exact uh h0
theorem ut{K:Zone}{w0:World}(hm:P.follows .mixedOrders=true){T:Tr SV}{nx:Nat}{s:DS}(hro:gf nt ops.toList=true)(hda:DrawRun P rn nt ops 0 ops.toList ⟨T,H,nx,[],[(H,nx)],0⟩ s){M:Mem}
 (hSt:RegOK P rn nt ops T s.recs.reverse s.Hs.reverse ((s.recs.reverse.filter (·.chain)).map (·.i))→rT P K w0 nt ops s.recs.reverse M) {e:Env} {w:World} {tmps:Array Value}  (hM:M (fun _=>False) e H n) (hS:St K w0 e H n w) (hT:TRel e nt T tmps)
 (t fn:Nat) (k:List Item) (ds:List Deferred) (kd:CallKind) (rof:Option Nat) (cs:List Frame) :
 ∃ e' w' tmps' H' n' L,e.le e'∧(∀ j,j<ops.size→L j)∧M L e' H' n'∧St K w0 e' H' n' w'∧TRel e' nt s.T tmps' ∧
  Steps P (lone (fr0 fn tmps (.inRegion ops (Region.schedule (P.follows .mixedOrders) ops t) :: k) ds kd rof) cs w) (lone (fr0 fn tmps' (.inRegion ops [] :: k) ds kd rof) cs w'):=by
 simp only [gf,Ek] at hro
 obtain⟨hd1,hd2⟩:=kM hro.1
 have hops:=tP hro.2
 have h0:DSOK P rn ops T 0 ⟨T,H,nx,[],[(H,nx)],0⟩:=
  ⟨rfl,rfl,rfl,rfl,fun k r hr=>by simp at hr,fun t v hv=> .inr ⟨fun k r hk=>by omega,hv⟩⟩
 have hD:=ly (fun j o d hj hd=>(hd1 j o d hj hd).1) ops.toList 0 _ s h0 (by simp) hda
 have hR:RegOK P rn nt ops T s.recs.reverse s.Hs.reverse ((s.recs.reverse.filter (·.chain)).map (·.i)):=by
  refine⟨by simp [hD.len],hD.recs,by rw [hD.cnt];simp [hD.hs],rfl,fun i o d hi hd=>(hd1 i o d hi hd).1,hd2,fun i o hi=>?_,fun i o hi=>?_⟩
  ·obtain⟨anc,_,g2,_⟩:=hops i o hi
   simpa using g2
  ·obtain⟨anc,g1,_,g3⟩:=hops i o hi
   rw [Eg,g1]
   rw [EA] at g3
   exact g3
 have hno:du (Array.replicate ops.size false)=fun _=>False:=funext fun j=>propext ⟨fun hj=>by
  unfold du at hj
  rw [Array.getElem?_replicate] at hj
  split at hj <;> simp at hj,fun h=>h.elim⟩
 have hinit:PInv K w0 nt ops T s.recs.reverse M (du (Array.replicate ops.size false)) e w tmps:=by
  rw [hno]
  refine⟨⟨H,n,hM,hS⟩,hT.1,fun t sv hg=>?_,fun i o hi=>hi.elim⟩
  rcases hg with ⟨k',r',hk',_⟩|⟨_,h2⟩
  ·exact hk'.elim
  ·exact hT.2 t sv h2
 have hsched:Region.schedule (P.follows .mixedOrders) ops t=Region.linearise.go .any ops ops.size t (Array.replicate ops.size false) []:=by
  rw [hm]
  rfl
 rw [hsched]
 obtain⟨e',w',tr',listed',hle,_,hall,hI,hst⟩:=zt (hSt hR) hR fn k ds kd rof cs ops.size t (Array.replicate ops.size false) e w tmps (by simp) (by unfold iV;simp) hinit
 obtain⟨H1,n1,hM1,hS1⟩:=hI.st
 refine⟨e',w',tr',H1,n1,_,hle,hall,hM1,hS1,⟨hI.size,fun t sv ht=>hI.good t sv ?_⟩,hst⟩
 rcases hD.slots t sv ht with ⟨k',r',h1,h2,h3,h4⟩|⟨h1,h2⟩
 ·exact .inl ⟨k',r',hall k' h1,h2,h3,h4⟩
 ·refine .inr ⟨fun k' r' _ hr'=>?_,h2⟩
  have hlt:=(D6.1 hr').1
  rw [List.length_reverse,hD.len] at hlt
  exact h1 k' r' hlt hr'
theorem t7{T:Tr SV}{nx:Nat}{s:DS}(hro:gf nt ops.toList=true)(hda:DrawRun P rn nt ops 0 ops.toList ⟨T,H,nx,[],[(H,nx)],0⟩ s){k:Nat}{L:Nat→Prop}{e:Env}{H':aw}
 (hM:D0 s.Hs.reverse ((s.recs.reverse.filter (·.chain)).map (·.i)) k L e H' n) (hall: ∀ j,j<ops.size→L j):H'=s.H∧n=s.nx:=by
 simp only [gf,Ek] at hro
 have hd1:=(kM hro.1).1
 have h0:DSOK P rn ops T 0 ⟨T,H,nx,[],[(H,nx)],0⟩:=
  ⟨rfl,rfl,rfl,rfl,fun k r hr=>by simp at hr,fun t v hv=> .inr ⟨fun k r hk=>by omega,hv⟩⟩
 have hD:=ly (fun j o d hj hd=>(hd1 j o d hj hd).1) ops.toList 0 _ s h0 (by simp) hda
 obtain⟨s',_,hQ1,hch⟩:=hM
 have hs':s'=s.stg:=by
  have hle1:s'≤s.stg:=by
   have:=(D6.1 hQ1).1
   simp [hD.hs] at this
   omega
  rcases EB s' s.stg with hlt|hge
  ·exfalso
   obtain⟨c,hc⟩: ∃ c,((s.recs.reverse.filter (·.chain)).map (·.i))[s']? =some c:=⟨_,D5 (by rw [hD.cnt];exact hlt)⟩
   have hcl:c<ops.size:=by
    have hcm:=Ef hc
    rw [EV] at hcm
    obtain⟨r',hr',rfl⟩:=hcm
    rw [List.mem_filter] at hr'
    obtain⟨k',hk'⟩:=List.mem_iff_getElem?.1 hr'.1
    have hx:=hD.recs k' r' hk'
    rw [hx.idx]
    exact(Ec.1 hx.op).1
   have:=(hch s' c hc).1 (hall c hcl)
   omega
  ·omega
 subst hs'
 rw [hD.last] at hQ1
 simp only [D2,Ea] at hQ1
 exact⟨hQ1.1.symm,hQ1.2.symm⟩
theorem qH{T0:Tr SV}{R:List Rec}{Q:List (aw×Nat)}{C:List Nat}(hR:RegOK P rn nt ops T0 R Q C){r:Rec}(hr:r∈R)(hc:r.chain=false)(hw:r.wanted=true){s:Nat}(hQ:Q[s]? =some (H,n))(h:s≠r.stg→p8 P rn r.T H n r.o r.val):p8 P rn r.T H n r.o r.val:=by
 obtain⟨kk,hkk⟩:=List.mem_iff_getElem?.1 hr
 obtain⟨_,H0,n0,hQ0,hf0⟩:=(hR.recs kk r hkk).float hw hc
 by_cases hs1:s=r.stg
 ·subst hs1
  rw [hQ] at hQ0
  simp only [D2,Ea] at hQ0
  rw [hQ0.1,hQ0.2]
  exact hf0
 ·exact h hs1
theorem DJ{K:Zone}{w0:World}(hrn:l8 P K w0 rn):yy P K w0 rn:=by
 intro hm ops nt T H nx s h e w tmps hS hT t fn k ds kd rof cs
 obtain⟨hro,hda,hch,hfl⟩:=h
 have hQ0:s.Hs.reverse[0]? =some (H,nx):=AB _ _ _ hda (by simp)
 obtain⟨e',w',tr',H',n',L,g1,g2,g3,g4,g5,g6⟩:=ut hm hro hda (M:=D0 s.Hs.reverse ((s.recs.reverse.filter (·.chain)).map (·.i)) 0)
  (fun hR=>qo hrn hR ⟨fun j c c' _ h1 h2=>lD hch j c c' h1 h2,fun r hr hc hw s1 _ hlo hhi H1 n1 hQ1=>qH hR hr hc hw hQ1 fun hne=>hfl r (by simpa using hr) hc hw s1 hlo hhi hne H1 n1 hQ1⟩)
  ⟨0,Em _,hQ0,fun j c _=>⟨fun h=>h.elim,fun h=>absurd h (Nat.not_lt_zero _)⟩⟩ hS hT t fn k ds kd rof cs
 obtain⟨rfl,rfl⟩:=t7 hro hda g3 g2
 exact⟨e',w',tr',g1,g4,g5,g6⟩
end
section
variable {P:Program}
structure Wp (P:Program) (ro:Option Nat) (s:FrS) (Q:Pst):Prop where
 run: ∀ K w0 e w tmps todo ds kd rof cs,St K w0 e s.hp s.nx w→TRel e s.nt s.T tmps→IsRel e s.todo todo→DsRel e s.dfs ds→Ctx e ro kd rof cs→FrOK P K w0 e ro (fr0 s.fn tmps todo ds kd rof) cs w Q
structure Lv (P:Program) (s:FrS) (Q:Pst):Prop where
 run: ∀ K w0 e w tmps todo ds kd cs,St K w0 e s.hp s.nx w→TRel e s.nt s.T tmps→DsRel e s.dfs ds→Ctx e none kd none cs→FrOK P K w0 e none (frL s.fn tmps todo ds kd) cs w Q
section
variable {H:aw}{Q:Pst}{e:Env}{nx:Nat}{s:FrS}{f:FuncId}{args:List SV}{ro:Option Nat}
def wpr(P:Program):Rn:=fun ro lv s Q=>match lv with
 | false=>Wp P ro s Q
 | true=>ro=none∧Lv P s Q
theorem mt(K:Zone)(w0:World):l8 P K w0 (wpr P):=fun _ _ _ h e w tmps todo ds kd rof cs=>h.run K w0 e w tmps todo ds kd rof cs
theorem qi(K:Zone)(w0:World):nF P K w0 (wpr P):=fun _ _ h e w tmps todo ds kd cs=>h.2.run K w0 e w tmps todo ds kd cs
theorem Wp.step(h:oY P (wpr P) ro s Q):Wp P ro s Q:=
 ⟨fun K w0 _ _ _ _ _ _ _ _ hS hT ht hd hc=>yY (mt K w0) (qi K w0) (DJ (mt K w0)) h hS hT ht hd hc⟩
theorem Lv.fin(h:Cf P (wpr P) s Q):Lv P s Q:=
 ⟨fun K w0 _ _ _ _ _ _ _ hS hT hd hc=>Ce (mt K w0) (qi K w0) h hS hT hd hc⟩
theorem FrOK.mono{K:Zone}{w0 w:World}{e:Env}{ro:Option Nat}{fr:Frame}{cs:List Frame}{Q Q':Pst}(h:FrOK P K w0 e ro fr cs w Q)(hQ: ∀ r,Q r→Q' r):FrOK P K w0 e ro fr cs w Q':=by
 obtain⟨r,hr,h⟩:=h
 exact⟨r,hQ r hr,h⟩
theorem Wp.mono{ro:Option Nat}{s:FrS}{Q Q':Pst}(h:Wp P ro s Q)(hQ: ∀ r,Q r→Q' r):Wp P ro s Q':=
 ⟨fun K w0 e w tmps todo ds kd rof cs a b c d f=>(h.run K w0 e w tmps todo ds kd rof cs a b c d f).mono hQ⟩
theorem Lv.mono{s:FrS}{Q Q':Pst}(h:Lv P s Q)(hQ: ∀ r,Q r→Q' r):Lv P s Q':=
 ⟨fun K w0 e w tmps todo ds kd cs a b c d=>(h.run K w0 e w tmps todo ds kd cs a b c d).mono hQ⟩
def Tr.le{A:Type}(t t':Tr A):Prop:= ∀ n x,t.at' n=some x→t'.at' n=some x
theorem Tr.le_refl{A:Type}(t:Tr A):t.le t:=fun _ _ h=>h
theorem TRel.less{nt:Nat}{T T':Tr SV}{tmps:Array Value}(h:TRel e nt T tmps)(hl:T'.le T):TRel e nt T' tmps:=⟨h.1,fun t s hs=>h.2 t s (hl t s hs)⟩
theorem Wp.less{fn nt:Nat}{T T':Tr SV}{todo:List AIt}{dfs:List ADf}{H':aw}(h:Wp P ro ⟨fn,nt,T',todo,dfs,H',nx⟩ Q)(hT:T'.le T)(hH:H'.le H):Wp P ro ⟨fn,nt,T,todo,dfs,H,nx⟩ Q:=
 ⟨fun K w0 e w tmps todo ds kd rof cs a b c d f=>h.run K w0 e w tmps todo ds kd rof cs (a.sub hH) (b.less hT) c d f⟩
def Fnc(P:Program)(f:FuncId)(args:List SV)(H:aw)(nx:Nat)(Q:Pst):Prop:=iR P (wpr P) f args H nx Q
theorem Fnc.enter{c:Code}{n:Nat}(hb:rM P f=some c)(hn:BS P f=n)(h:Wp P none ⟨f,max args.length n,il .nil 0 args,[.code c],[],H,nx⟩ Q):Fnc P f args H nx Q:=by
 unfold Fnc iR
 refine .inr ?_
 rw [hb]
 subst hn
 exact h
theorem Fnc.mono{f:FuncId}{args:List SV}{H:aw}{nx:Nat}{Q Q':Pst}(h:Fnc P f args H nx Q)(hQ: ∀ r,Q r→Q' r):Fnc P f args H nx Q':=by
 unfold Fnc iR at h ⊢
 rcases h with ⟨h1,v,r,h2,h3,h4⟩|h
 ·exact .inl ⟨h1,v,r,h2,hQ r h3,h4⟩
 ·refine .inr ?_
  split at h
  ·exact Wp.mono h hQ
  ·exact h.elim
theorem E1:type_of% @Fnc.mono:=@Fnc.mono
theorem Fnc.calls{vs:Array Value}(h:Fnc P f args H nx Q){K:Zone}{w0 w:World}(hS:St K w0 e H nx w)(ha:SV.aC e args=some vs.toList) :
 Calls P f vs w fun x w'=> ∃ r,Q r∧ ∃ e' v,e.le e'∧St K w0 e' r.2.1 r.2.2 w'∧r.1.conc e'=some v∧x = .returned v:=by
 intro cs
 obtain⟨r,hr,e',w',v,h1,h2,h3,tmps,todo,g1,fn,g2,g3⟩:=kR (mt K w0) h hS ha (kd:= .normal) (cs:=cs) ⟨rfl,.inl rfl⟩
 exact⟨.returned v,w',_,⟨r,hr,e',v,h1,h2,h3,rfl⟩,g1,rfl,rfl,rfl,rfl,fn,g2,g3⟩
end
section
variable {ro:Option Nat} {fn nt nx:Nat} {T:Tr SV} {k:List AIt} {dfs:List ADf} {H:aw} {Q:Pst}
section
variable {i id:Nat}{a b:Code}{o:Oper}{pos:String}{ty:TypeId}{c:Operand}{vs:List SV}{l:List Oper}{af:Array Edge}{d:Option Tmp}{ops:Array Oper}{gd:Option (Nat×Bool)}
theorem CZ(h:Wp P ro ⟨fn,nt,T,k,dfs,H,nx⟩ Q):Wp P ro ⟨fn,nt,T,.code .skip :: k,dfs,H,nx⟩ Q:= .step h
theorem Bg{l:Nat}(h:Wp P ro ⟨fn,nt,T,k,dfs,H,nx⟩ Q):Wp P ro ⟨fn,nt,T,.code (.label l) :: k,dfs,H,nx⟩ Q:= .step h
theorem uG(h:Wp P ro ⟨fn,nt,T,.code a :: .code b :: k,dfs,H,nx⟩ Q):Wp P ro ⟨fn,nt,T,.code (.seq a b) :: k,dfs,H,nx⟩ Q:= .step h
theorem Bj(h:Wp P ro ⟨fn,nt,T,.code b :: .inBlock id :: k,dfs,H,nx⟩ Q):Wp P ro ⟨fn,nt,T,.code (.block id b) :: k,dfs,H,nx⟩ Q:= .step h
theorem vX(h:Wp P ro ⟨fn,nt,T,k,dfs,H,nx⟩ Q):Wp P ro ⟨fn,nt,T,.inBlock id :: k,dfs,H,nx⟩ Q:= .step h
theorem Bf(h:Wp P ro ⟨fn,nt,T,.code b :: .inScope b :: k,dfs,H,nx⟩ Q):Wp P ro ⟨fn,nt,T,.code (.scope b) :: k,dfs,H,nx⟩ Q:= .step h
theorem vW(h:Wp P ro ⟨fn,nt,T,k,dfs,H,nx⟩ Q):Wp P ro ⟨fn,nt,T,.inScope b :: k,dfs,H,nx⟩ Q:= .step h
theorem oO(h:Wp P ro ⟨fn,nt,T,.code b :: .inLoop b :: k,dfs,H,nx⟩ Q):Wp P ro ⟨fn,nt,T,.code (.loop b) :: k,dfs,H,nx⟩ Q:= .step h
theorem mr(h:Wp P ro ⟨fn,nt,T,.code b :: .inLoop b :: k,dfs,H,nx⟩ Q):Wp P ro ⟨fn,nt,T,.inLoop b :: k,dfs,H,nx⟩ Q:= .step h
theorem C1{k':List AIt}(hx:nj id k=some k')(h:Wp P ro ⟨fn,nt,T,k',dfs,H,nx⟩ Q):Wp P ro ⟨fn,nt,T,.code (.exit id) :: k,dfs,H,nx⟩ Q:=by
 refine .step ?_
 simp only [oY,sX,hx]
 exact h
theorem C0{l:Nat}{k':List AIt}(hx:nR l k=some k')(h:Wp P ro ⟨fn,nt,T,k',dfs,H,nx⟩ Q):Wp P ro ⟨fn,nt,T,.code (.goto l) :: k,dfs,H,nx⟩ Q:=by
 refine .step ?_
 simp only [oY,sX,hx]
 exact h
theorem vZ{t:Bool}(hc:ar T c=some (.sc (.bool t)))(h1:t=true→Wp P ro ⟨fn,nt,T,.code a :: k,dfs,H,nx⟩ Q)(h2:t=false→Wp P ro ⟨fn,nt,T,.code b :: k,dfs,H,nx⟩ Q) :
 Wp P ro ⟨fn,nt,T,.code (.cond c a b) :: k,dfs,H,nx⟩ Q:= .step ⟨t,hc,h1,h2⟩
theorem Bh(hc:ar T c=some (.sc (.bool true)))(h1:Wp P ro ⟨fn,nt,T,.code a :: k,dfs,H,nx⟩ Q) :
 Wp P ro ⟨fn,nt,T,.code (.cond c a b) :: k,dfs,H,nx⟩ Q:=vZ hc (fun _=>h1) (fun h=>by cases h)
theorem Bi(hc:ar T c=some (.sc (.bool false)))(h1:Wp P ro ⟨fn,nt,T,.code b :: k,dfs,H,nx⟩ Q) :
 Wp P ro ⟨fn,nt,T,.code (.cond c a b) :: k,dfs,H,nx⟩ Q:=vZ hc (fun h=>by cases h) (fun _=>h1)
theorem yR{ops:List Oper}(h:Wp P ro ⟨fn,nt,T,.inReg ops.toArray 0 ops :: k,dfs,H,nx⟩ Q):Wp P ro ⟨fn,nt,T,.code (.region id ops.toArray false) :: k,dfs,H,nx⟩ Q:= .step h
theorem tg(h:Wp P ro ⟨fn,nt,T,k,dfs,H,nx⟩ Q):Wp P ro ⟨fn,nt,T,.inReg ops i [] :: k,dfs,H,nx⟩ Q:= .step h
theorem y_ret{l:List ResultVar}(hl:eG P fn=some l)(hv:o9 P H T l=some vs)(h:Q (fv vs,H,nx)):Wp P none ⟨fn,nt,T,.code .ret :: k,[],H,nx⟩ Q:=by
 refine .step ⟨rfl,.fin ?_⟩
 simp only [Cf,hl]
 exact⟨vs,hv,h⟩
theorem y_end{l:List ResultVar}(hl:eG P fn=some l)(hv:o9 P H T l=some vs)(h:Q (fv vs,H,nx)):Wp P none ⟨fn,nt,T,[],[],H,nx⟩ Q:=by
 refine .step ⟨rfl,.fin ?_⟩
 simp only [Cf,hl]
 exact⟨vs,hv,h⟩
theorem Au(h:Lv P ⟨fn,nt,T,.code .ret :: k,dfs,H,nx⟩ Q):Wp P none ⟨fn,nt,T,.code .ret :: k,dfs,H,nx⟩ Q:= .step ⟨rfl,h⟩
theorem B1{g:FuncId}{args:List SV}(hg:bB P g=true)(h:Fnc P g args H nx (fun r=>Lv P ⟨fn,nt,T,k,dfs,r.2.1,r.2.2⟩ Q)):Lv P ⟨fn,nt,T,k,.call g args :: dfs,H,nx⟩ Q:=by
 refine .fin ⟨hg,?_⟩
 exact E1 h (fun r hr=>⟨rfl,hr⟩)
theorem zJ{r:Nat}{l:List ADf}(hr:H.at' r=some (.dfd (some l)))(h:Lv P ⟨fn,nt,T,k,l ++ dfs,H.set r (.dfd none),nx⟩ Q):Lv P ⟨fn,nt,T,k,.taken r :: dfs,H,nx⟩ Q:=by
 refine .fin ?_
 simp only [Cf,hr]
 exact⟨rfl,h⟩
theorem AL{l:List ResultVar}(hl:eG P fn=some l)(hv:o9 P H T l=some vs)(h:Q (fv vs,H,nx)):Lv P ⟨fn,nt,T,k,[],H,nx⟩ Q:=by
 refine .fin ?_
 simp only [Cf,hl]
 exact⟨vs,hv,h⟩
theorem y_not(hw:aD T ops o=some false)(h:Wp P ro ⟨fn,nt,k9 nt T o.dst eu,.inReg ops (i+1) l :: k,dfs,H,nx⟩ Q) :
 Wp P ro ⟨fn,nt,T,.inReg ops i (o :: l) :: k,dfs,H,nx⟩ Q:= .step (.inl ⟨hw,h⟩)
theorem OpDoes.any{T:Tr SV}{out:Out}{O:Out→Prop}(h:OpDoes P T H nx o out)(hO:O out):DZ P T H nx o O:=fun K w0 e w ev a b=>⟨out,hO,h K w0 e w ev a b⟩
theorem ReadDoes.does{T:Tr SV}{v:SV}(h:ReadDoes P T H o v):OpDoes P T H nx o (.val v,H,nx):=by
 intro K w0 e w ev hS hE
 obtain⟨u,hu,hr⟩:=h _ _ _ _ _ _ hS hE
 exact⟨e,w,E9 e,hS,u,hu,hr⟩
theorem dZ{op:Op}{v:SV}{H':aw}{nx':Nat}(hw:aD T ops ⟨d,op,ty,pos,af,gd⟩=some true)
 (hd:ro=none∨ ∀ c,op ≠ .defer c) (ho:OpDoes P T H nx ⟨d,op,ty,pos,af,gd⟩ (.val v,H',nx'))
 (h:Wp P ro ⟨fn,nt,k9 nt T d v,.inReg ops (i+1) l :: k,dfs,H',nx'⟩ Q):Wp P ro ⟨fn,nt,T,.inReg ops i (⟨d,op,ty,pos,af,gd⟩ :: l) :: k,dfs,H,nx⟩ Q:=
 .step (.inr ⟨hw,hd,ho.any h⟩)
theorem qg{op:Op}{H':aw}{nx':Nat}(hw:aD T ops ⟨d,op,ty,pos,af,gd⟩=some true)
 (hd:ro=none∨ ∀ c,op ≠ .defer c) (ho:OpDoes P T H nx ⟨d,op,ty,pos,af,gd⟩ (.skip,H',nx'))
 (h:Wp P ro ⟨fn,nt,k9 nt T d eu,.inReg ops (i+1) l :: k,dfs,H',nx'⟩ Q):Wp P ro ⟨fn,nt,T,.inReg ops i (⟨d,op,ty,pos,af,gd⟩ :: l) :: k,dfs,H,nx⟩ Q:=
 .step (.inr ⟨hw,hd,ho.any h⟩)
theorem th{c:Call}{g:FuncId}{args:List SV}(hw:aD T ops ⟨d,.call c,ty,pos,af,gd⟩=some true)
 (hc:bE P T c=some (.enter g args))
 (h:Fnc P g args H nx (fun r=>Wp P ro ⟨fn,nt,k9 nt T d r.1,.inReg ops (i+1) l :: k,dfs,r.2.1,r.2.2⟩ Q)):Wp P ro ⟨fn,nt,T,.inReg ops i (⟨d,.call c,ty,pos,af,gd⟩ :: l) :: k,dfs,H,nx⟩ Q:=by
 refine .step (.inr ⟨hw,.inr (fun c hc=>by cases hc),OpDoes.any (out:=(.enter g args,H,nx)) ?_ h⟩)
 intro K w0 e w ev hS hE
 have he:fZ P T H nx ⟨d,.call c,ty,pos,af,gd⟩=some (.enter g args,H,nx):=by
  unfold fZ
  simp only
  cases hcc:c.callee with
  | builtin b=>unfold bE at hc;rw [hcc] at hc;split at hc <;> cases hc
  | _=>simp only [hc,Et]
 exact kK hS hE he
end
end
end
noncomputable section
mutual
def SV.ren(ρ:Nat→Nat):SV→SV
 | .sc v=> .sc v
 | .ptr b o=> .ptr (ρ b) o
 | .sl b o n c=> .sl (ρ b) o n c
 | .slu b eo n=> .slu (ρ b) eo n
 | .mp b=> .mp (ρ b)
 | .yld b=> .yld (ρ b)
 | .agg l=> .agg (SV.gJ ρ l)
 | .tup l=> .tup (SV.gJ ρ l)
 | .ifc t v=> .ifc t (SV.ren ρ v)
 | .fn f a b=> .fn f (SV.gJ ρ a) (SV.gJ ρ b)
def SV.gJ(ρ:Nat→Nat):List SV→List SV
 | []=> []
 | x :: l=>SV.ren ρ x :: SV.gJ ρ l
end
theorem SV.nz(ρ:Nat→Nat): ∀ l,SV.gJ ρ l=l.map (SV.ren ρ)
 | []=>rfl
 | x :: l=>by rw [SV.gJ,SV.nz ρ l,Eo]
def ADf.ren(ρ:Nat→Nat):ADf→ADf
 | .call f args=> .call f (SV.gJ ρ args)
 | .taken r=> .taken (ρ r)
def vG(ρ:Nat→Nat)(c:Tr SV):Tr SV:=fun i=>(c i).map (SV.ren ρ)
def CF(ρ:Nat→Nat)(l:List (Value×SV×Nat)):List (Value×SV×Nat):=l.map fun x=>(x.1,x.2.1.ren ρ,x.2.2)
def VO.ren(ρ:Nat→Nat):VO→VO
 | .cells n t c=> .cells n t (vG ρ c)
 | .row ro ne sz t c=> .row ro ne sz t (vG ρ c)
 | .map l clock=> .map (CF ρ l) clock
 | .iter m since seen stepped=> .iter (m.map ρ) since seen stepped
 | .siter s pos=> .siter s pos
 | .loop st pend fn nt T params assign body dr=> .loop st pend fn nt (vG ρ T) params assign body (ρ dr)
 | .dfd calls=> .dfd (calls.map (List.map (ADf.ren ρ)))
def AIt.ren(ρ:Nat→Nat):AIt→AIt
 | .inRange l=> .inRange (ρ l)
 | .endRange l=> .endRange (ρ l)
 | i=>i
end
section
variable {e:Env} {ρ:Nat→Nat}
abbrev pull(e:Env)(ρ:Nat→Nat):Env:=fun n=>e (ρ n)
mutual
theorem dL: ∀ s:SV,(s.ren ρ).conc e=s.conc (pull e ρ)
 | .sc v=>rfl
 | .ptr b o=>rfl
 | .sl b o n c=>rfl
 | .slu b eo n=>rfl
 | .mp b=>rfl
 | .yld b=>rfl
 | .agg l=>by simp only [SV.ren,SV.conc,gI l]
 | .tup l=>by simp only [SV.ren,SV.conc,gI l]
 | .ifc t v=>by simp only [SV.ren,SV.conc,dL v]
 | .fn f a b=>by simp only [SV.ren,SV.conc,gI a,gI b]
theorem gI: ∀ l:List SV,SV.aC e (SV.gJ ρ l)=SV.aC (pull e ρ) l
 | []=>rfl
 | x :: l=>by simp only [SV.gJ,SV.aC,dL x,gI l]
end
theorem sq(c:Tr SV)(i:Nat):(vG ρ c).at' i=(c.at' i).map (SV.ren ρ):=rfl
theorem qy{c:Tr SV}{i:Nat}{s:SV}(h:(vG ρ c).at' i=some s): ∃ s0,c.at' i=some s0∧s=s0.ren ρ:=by
 rw [sq,Eb] at h
 obtain⟨s0,h1,h2⟩:=h
 exact⟨s0,h1,h2.symm⟩
theorem Al{nt:Nat}{T:Tr SV}{tmps:Array Value}:TRel e nt (vG ρ T) tmps↔TRel (pull e ρ) nt T tmps:=by
 constructor
 ·rintro⟨h1,h2⟩
  refine⟨h1,fun t s hs=>?_⟩
  obtain⟨v,g1,g2⟩:=h2 t (s.ren ρ) (by rw [sq,hs];rfl)
  exact⟨v,by rw [← dL];exact g1,g2⟩
 ·rintro⟨h1,h2⟩
  refine⟨h1,fun t s hs=>?_⟩
  obtain⟨s0,g1,rfl⟩:=qy hs
  obtain⟨v,g2,g3⟩:=h2 t s0 g1
  exact⟨v,by rw [dL];exact g2,g3⟩
theorem At{a:ADf}{d:Deferred}:DRel e (a.ren ρ) d↔DRel (pull e ρ) a d:=by
 cases a with
 | call f args=>simp only [ADf.ren,DRel,gI]
 | taken r=>exact Iff.rfl
theorem kS: ∀ {l:List ADf} {m:List Deferred},DsRel e (l.map (ADf.ren ρ)) m↔DsRel (pull e ρ) l m
 | [],[]=>Iff.rfl
 | a :: l,d :: m=>by simp only [Eo,DsRel,At,kS]
 | [],_ :: _=>Iff.rfl
 | _ :: _,[]=>Iff.rfl
theorem uA: ∀ {l:List (Value×SV×Nat)} {m:List MapEntry},MRel e (CF ρ l) m↔MRel (pull e ρ) l m
 | [],[]=>Iff.rfl
 | (k,s,b) :: l,x :: m=>by
   have:=uA (l:=l) (m:=m)
   simp only [CF] at this
   simp only [CF,Eo,MRel,dL,this]
 | [],_ :: _=>Iff.rfl
 | (_,_,_) :: _,[]=>by simp [CF,MRel]
theorem Ap{a:AIt}{i:Item}:IRel e (a.ren ρ) i↔IRel (pull e ρ) a i:=by cases a <;> exact Iff.rfl
theorem nG: ∀ {l:List AIt} {m:List Item},IsRel e (l.map (AIt.ren ρ)) m↔IsRel (pull e ρ) l m
 | [],[]=>Iff.rfl
 | a :: l,d :: m=>by simp only [Eo,IsRel,Ap,nG]
 | [],_ :: _=>Iff.rfl
 | _ :: _,[]=>Iff.rfl
theorem kN{n:Nat}{c:Tr SV}{g:Nat→Option Value}:(∀ i,i<n→ ∀ s,(vG ρ c).at' i=some s→ ∃ v,s.conc e=some v∧g i=some v)↔(∀ i,i<n→ ∀ s,c.at' i=some s→ ∃ v,s.conc (pull e ρ)=some v∧g i=some v):=by
 constructor
 ·intro h i hi s hs
  obtain⟨v,g1,g2⟩:=h i hi (s.ren ρ) (by rw [sq,hs];rfl)
  exact⟨v,by rw [← dL];exact g1,g2⟩
 ·intro h i hi s hs
  obtain⟨s0,g1,rfl⟩:=qy hs
  obtain⟨v,g2,g3⟩:=h i hi s0 g1
  exact⟨v,by rw [dL];exact g2,g3⟩
theorem An{vo:VO}{x:Ent}{o:Obj}:ORel e (vo.ren ρ) x o↔ORel (pull e ρ) vo x o:=by
 cases vo with
 | cells n t c=>
   simp only [VO.ren,ORel]
   constructor
   ·rintro⟨h0,cs,fz,h1,h2,h3,h4⟩;exact⟨h0,cs,fz,h1,h2,h3,kN.1 h4⟩
   ·rintro⟨h0,cs,fz,h1,h2,h3,h4⟩;exact⟨h0,cs,fz,h1,h2,h3,kN.2 h4⟩
 | row ro ne sz t c=>
   simp only [VO.ren,ORel]
   constructor
   ·rintro⟨h0,cs,fz,tt,h1,h2,h3,h4,h5,h6,h7⟩;exact⟨h0,cs,fz,tt,h1,h2,h3,h4,h5,h6,kN.1 h7⟩
   ·rintro⟨h0,cs,fz,tt,h1,h2,h3,h4,h5,h6,h7⟩;exact⟨h0,cs,fz,tt,h1,h2,h3,h4,h5,h6,kN.2 h7⟩
 | map l clock=>simp only [VO.ren,ORel,uA]
 | iter m since seen stepped=>cases m <;> exact Iff.rfl
 | siter s pos=>exact Iff.rfl
 | loop st pend fn nt T params assign body dr=>simp only [VO.ren,ORel,Al]
 | dfd calls=>
   cases calls with
   | none=>exact Iff.rfl
   | some l=>simp only [VO.ren,ORel,Et,kS]
theorem iC(ρ:Nat→Nat)(vo:VO):(vo.ren ρ).ro=vo.ro:=by cases vo <;> rfl
theorem hZ{K:Zone}{w:World}{vo:VO}{x:Ent}:Lies K w e (vo.ren ρ) x↔Lies K w (pull e ρ) vo x:=by
 unfold Lies
 simp only [An,iC]
 refine or_congr Iff.rfl ?_
 constructor
 ·rintro⟨h1,h2,ro,t,c,h3,h4⟩
  refine⟨h1,h2,ro,t,?_⟩
  cases vo with
  | row ro' ne sz t' c'=>
    simp only [VO.ren] at h3
    injection h3 with a0 a b c d
    subst a0 a b c
    exact⟨_,rfl,h4⟩
  | _=>simp [VO.ren] at h3
 ·rintro⟨h1,h2,ro,t,c,rfl,h4⟩
  exact⟨h1,h2,ro,t,vG ρ c,rfl,h4⟩
end
def ext(L:List Nat)(nx:Nat):Nat→Nat:=fun m=>if m<L.length then L.getD m 0 else nx+(m-L.length)
structure ExtOk (L:List Nat) (nx:Nat):Prop where
 lt: ∀ n∈L,n<nx
 nodup:L.Nodup
theorem jS{L:List Nat}{nx:Nat}(h:ExtOk L nx){a b:Nat}(hab:ext L nx a=ext L nx b):a=b:=by
 unfold ext at hab
 have key: ∀ m,m<L.length→L.getD m 0<nx:=fun m hm=>h.lt _ (by rw [Eg,D5 hm];exact Ex hm)
 by_cases ha:a<L.length
 ·by_cases hb:b<L.length
  ·rw [Ez ha,Ez hb] at hab
   rw [Eg,D5 ha,Eg,D5 hb] at hab
   exact(List.getElem_inj h.nodup).1 hab
  ·rw [Ez ha,Ey hb] at hab
   have:=key a ha;omega
 ·by_cases hb:b<L.length
  ·rw [Ey ha,Ez hb] at hab
   have:=key b hb;omega
  ·rw [Ey ha,Ey hb] at hab;omega
open Classical in
noncomputable def push (e e1:Env) (ρ:Nat→Nat):Env:=fun n=>if h: ∃ m,n=ρ m then e1 (Classical.choose h) else e n
section
variable {e e1:Env}{ρ:Nat→Nat}
theorem iE(hi: ∀ a b,ρ a=ρ b→a=b)(m:Nat):push e e1 ρ (ρ m)=e1 m:=by
 unfold push
 have h: ∃ m',ρ m=ρ m':=⟨m,rfl⟩
 rw [dif_pos h,hi _ _ (Classical.choose_spec h).symm]
theorem mJ(hi: ∀ a b,ρ a=ρ b→a=b):pull (push e e1 ρ) ρ=e1:=funext fun m=>iE hi m
theorem fJ{n:Nat}(h: ∀ m,n≠ρ m):push e e1 ρ n=e n:=by
 unfold push
 rw [dif_neg]
 rintro⟨m,hm⟩
 exact h m hm
theorem wT(hi: ∀ a b,ρ a=ρ b→a=b)(h:(pull e ρ).le e1):e.le (push e e1 ρ):=by
 intro n x hx
 by_cases hn: ∃ m,n=ρ m
 ·obtain⟨m,rfl⟩:=hn
  rw [iE hi]
  exact h m x hx
 ·rw [fJ (fun m hm=>hn ⟨m,hm⟩)]
  exact hx
def rW(K:Zone)(e:Env)(H:aw)(ρ:Nat→Nat):Zone where
 all:=fun j=>K j∨ ∃ n vo x,H.at' n=some vo∧(∀ m,n≠ρ m)∧e n=some x∧x.nil=false∧vo.ro=false∧x.blk=j
 read:=K.read
 sub:=fun j h=> .inl (K.sub j h)
theorem St.inside{K:Zone}{w0 w:World}{H H0:aw}{L:List Nat}{nx:Nat}(hS:St K w0 e H nx w)(hL:ExtOk L nx)(hH: ∀ m vo,H0.at' m=some vo→m<L.length∧H.at' (L.getD m 0)=some (vo.ren (ext L nx))) :
 St (rW K e H (ext L nx)) w (pull e (ext L nx)) H0 L.length w:=by
 have at0: ∀ {m:Nat} {vo:VO},H0.at' m=some vo→H.at' (ext L nx m)=some (vo.ren (ext L nx)):=by
  intro m vo h
  obtain⟨h1,h2⟩:=hH m vo h
  unfold ext
  rw [Ez h1]
  exact h2
 refine⟨⟨rfl,rfl,rfl,Em _,fun j hj=>?_,fun _ _=>rfl⟩,?_,?_,?_⟩
 ·rcases hj with hj|⟨n,vo,x,h1,_,h3,h4,_,rfl⟩
  ·have:=hS.below.old j hj;have:=hS.below.size;omega
  ·rcases hS.lies h1 h3 with ⟨_,o,_,hw,_⟩|⟨h5,_⟩
   ·exact fL hw
   ·rw [h4] at h5;cases h5
 ·intro m vo hm
  obtain⟨x,hx,hl⟩:=hS.rel _ _ (at0 hm)
  refine⟨x,hx,?_⟩
  rcases hZ.1 hl with ⟨h0,o,h1,h2,h3⟩|h
  ·refine .inl ⟨h0,o,⟨h1.1,fun hr=>?_⟩,h2,h3⟩
   rintro(hk|⟨n,vo',x',g1,g2,g3,g4,g6,g5⟩)
   ·exact h1.2 hr hk
   ·exact absurd g5 (hS.inj _ _ _ _ _ _ g1 (at0 hm) g3 hx (g2 m) g4 h0 g6 (by rw [iC];exact hr))
  ·exact .inr h
 ·intro m m' vo vo' x x' h1 h2 h3 h4 hne h5 h6 h7 h8
  exact hS.inj _ _ _ _ _ _ (at0 h1) (at0 h2) h3 h4 (fun h=>hne (jS hL h)) h5 h6 (by rw [iC];exact h7) (by rw [iC];exact h8)
 ·intro m hm
  show e (ext L nx m)=none
  unfold ext
  rw [Ey (by omega)]
  exact hS.fresh _ (by omega)
theorem St.outside{K:Zone}{w0 w w1:World}{H H1 Hc:aw}{L:List Nat}{nx nx1:Nat}(hS:St K w0 e H nx w)(hL:ExtOk L nx)(hS1:St (rW K e H (ext L nx)) w e1 H1 nx1 w1)(hle:(pull e (ext L nx)).le e1)
 (hc: ∀ n vo,Hc.at' n=some vo→(∃ m vo0,n=ext L nx m∧H1.at' m=some vo0∧vo=vo0.ren (ext L nx))∨((∀ m,n≠ext L nx m)∧H.at' n=some vo)) :
 e.le (push e e1 (ext L nx))∧St K w0 (push e e1 (ext L nx)) Hc (nx+(nx1-L.length)) w1:=by
 have hi: ∀ a b,ext L nx a=ext L nx b→a=b:=fun a b h=>jS hL h
 have hle2:=wT hi hle
 refine⟨hle2,?_⟩
 have hpp:=mJ (e:=e) (e1:=e1) hi
 have new: ∀ {m:Nat} {vo0:VO},H1.at' m=some vo0→ ∃ x,push e e1 (ext L nx) (ext L nx m)=some x∧Lies K w1 (push e e1 (ext L nx)) (vo0.ren (ext L nx)) x∧(x.nil=false→vo0.ro=false→ ¬ (rW K e H (ext L nx)) x.blk):=by
  intro m vo0 hm
  obtain⟨x,hx,hl⟩:=hS1.rel m vo0 hm
  refine⟨x,by rw [iE hi];exact hx,?_,?_⟩
  ·rw [hZ,hpp]
   rcases hl with ⟨h0,o,h1,h2,h3⟩|h
   ·exact .inl ⟨h0,o,⟨h1.1,fun hr hk=>h1.2 hr (.inl hk)⟩,h2,h3⟩
   ·exact .inr h
  ·intro hn hr
   rcases hl with ⟨_,o,h1,_,_⟩|⟨h,_⟩
   ·exact h1.2 hr
   ·rw [hn] at h;cases h
 have old: ∀ {n:Nat} {vo:VO},(∀ m,n≠ext L nx m)→H.at' n=some vo→ ∃ x,e n=some x∧push e e1 (ext L nx) n=some x∧Lies K w1 (push e e1 (ext L nx)) vo x∧(x.nil=false→vo.ro=false→(rW K e H (ext L nx)) x.blk):=by
  intro n vo hne hn
  obtain⟨x,hx,hl⟩:=hS.rel n vo hn
  have hap:x.nil=false→vo.ro=false→(rW K e H (ext L nx)) x.blk:=fun h0 hr=> .inr ⟨n,vo,x,hn,hne,hx,h0,hr,rfl⟩
  refine⟨x,hx,by rw [fJ hne];exact hx,?_,hap⟩
  rcases hl with ⟨h0,o,h1,h2,h3⟩|h
  ·refine .inl ⟨h0,o,h1,?_,h3.mono hle2⟩
   rw [hS1.below.block x.blk ?_]
   ·exact h2
   ·cases hr:vo.ro with
    | false=>exact hap h0 hr
    | true=>exact .inl (K.sub _ (h1.1 hr))
  ·exact .inr h
 refine⟨⟨hS1.below.os.trans hS.below.os,hS1.below.tape.trans hS.below.tape,hS1.below.output.trans hS.below.output,Ev hS.below.size hS1.below.size,hS.below.old,fun j hj=>?_⟩,?_,?_,?_⟩
 ·rw [hS1.below.block j (.inl hj)]
  exact hS.below.block j hj
 ·intro n vo hn
  rcases hc n vo hn with ⟨m,vo0,rfl,h1,rfl⟩|⟨h1,h2⟩
  ·obtain⟨x,g1,g2,_⟩:=new h1
   exact⟨x,g1,g2⟩
  ·obtain⟨x,_,g1,g2,_⟩:=old h1 h2
   exact⟨x,g1,g2⟩
 ·intro n n' vo vo' x x' hn hn' hx hx' hne h0 h0' hr hr'
  rcases hc n vo hn with ⟨m,vo0,rfl,h1,rfl⟩|⟨h1,h2⟩
  ·rw [iC] at hr
   rcases hc n' vo' hn' with ⟨m',vo0',rfl,h1',rfl⟩|⟨h1',h2'⟩
   ·rw [iE hi] at hx hx'
    rw [iC] at hr'
    exact hS1.inj _ _ _ _ _ _ h1 h1' hx hx' (fun h=>hne (by rw [h])) h0 h0' hr hr'
   ·obtain⟨y,g1,_,g2⟩:=new h1
    rw [hx] at g1
    simp only [D2] at g1
    subst g1
    obtain⟨y',_,g1',_,g2'⟩:=old h1' h2'
    rw [hx'] at g1'
    simp only [D2] at g1'
    subst g1'
    exact fun h=>g2 h0 hr (h ▸ g2' h0' hr')
  ·rcases hc n' vo' hn' with ⟨m',vo0',rfl,h1',rfl⟩|⟨h1',h2'⟩
   ·rw [iC] at hr'
    obtain⟨y,g1,_,g2⟩:=new h1'
    rw [hx'] at g1
    simp only [D2] at g1
    subst g1
    obtain⟨y',_,g1',_,g2'⟩:=old h1 h2
    rw [hx] at g1'
    simp only [D2] at g1'
    subst g1'
    exact fun h=>g2 h0' hr' (h ▸ g2' h0 hr)
   ·rw [fJ h1] at hx
    rw [fJ h1'] at hx'
    exact hS.inj _ _ _ _ _ _ h2 h2' hx hx' hne h0 h0' hr hr'
 ·intro n hn
  by_cases hex: ∃ m,n=ext L nx m
  ·obtain⟨m,rfl⟩:=hex
   rw [iE hi]
   refine hS1.fresh _ ?_
   unfold ext at hn
   by_cases hm:m<L.length
   ·rw [Ez hm] at hn
    have:=hL.lt (L.getD m 0) (by rw [Eg,D5 hm];exact Ex hm)
    omega
   ·rw [Ey hm] at hn;omega
  ·rw [fJ (fun m hm=>hex ⟨m,hm⟩)]
   exact hS.fresh n (by omega)
end
section
variable {P:Program}
theorem St.pull{K:Zone}{w0 w:World}{e:Env}{H H0:aw}{L:List Nat}{nx:Nat}(hS:St K w0 e H nx w)(hL:ExtOk L nx)(hH: ∀ m vo,H0.at' m=some vo→m<L.length∧H.at' (L.getD m 0)=some (vo.ren (ext L nx))) :
 St K w0 (pull e (ext L nx)) H0 L.length w:=by
 have at0: ∀ {m:Nat} {vo:VO},H0.at' m=some vo→H.at' (ext L nx m)=some (vo.ren (ext L nx)):=by
  intro m vo h
  obtain⟨h1,h2⟩:=hH m vo h
  unfold ext
  rw [Ez h1]
  exact h2
 refine⟨hS.below,fun m vo hm=>?_,fun m m' vo vo' x x' h1 h2 h3 h4 hne h5 h6 h7 h8=>?_,fun m hm=>?_⟩
 ·obtain⟨x,hx,hl⟩:=hS.rel _ _ (at0 hm)
  exact⟨x,hx,hZ.1 hl⟩
 ·exact hS.inj _ _ _ _ _ _ (at0 h1) (at0 h2) h3 h4 (fun h=>hne (jS hL h)) h5 h6 (by rw [iC];exact h7) (by rw [iC];exact h8)
 ·show e (ext L nx m)=none
  unfold ext
  rw [Ey (by omega)]
  exact hS.fresh _ (by omega)
structure Cz where
 v:SV
 objs:List (Option VO)
def HasO(ρ:Nat→Nat)(H:aw):Nat→List (Option VO)→Prop
 | _,[]=>True
 | i,none :: l=>HasO ρ H (i+1) l
 | i,some vo :: l=>H.at' (ρ i)=some (vo.ren ρ)∧HasO ρ H (i+1) l
theorem HasO.get{ρ:Nat→Nat}{H:aw}: ∀ {l:List (Option VO)} {i:Nat},HasO ρ H i l→ ∀ {j:Nat} {vo:VO},l[j]? =some (some vo)→H.at' (ρ (i+j))=some (vo.ren ρ)
 | [],i,_,j,vo,h=>by simp at h
 | none :: l,i,hh,j,vo,h=>by
   cases j with
   | zero=>simp at h
   | succ j=>
     have:=HasO.get (l:=l) (i:=i+1) hh (j:=j) (vo:=vo) (by simpa using h)
     rw [show i+(j+1)=i+1+j by omega]
     exact this
 | some v :: l,i,hh,j,vo,h=>by
   cases j with
   | zero=>
     simp only [Ej,D2] at h
     subst h
     exact hh.1
   | succ j=>
     have:=HasO.get (l:=l) (i:=i+1) hh.2 (j:=j) (vo:=vo) (by simpa using h)
     rw [show i+(j+1)=i+1+j by omega]
     exact this
theorem HasO.of{ρ:Nat→Nat}{H:aw}: ∀ {l:List (Option VO)} {i:Nat},(∀ (j:Nat) vo,l[j]? =some (some vo)→H.at' (ρ (i+j))=some (vo.ren ρ))→HasO ρ H i l
 | [],i,_=>trivial
 | none :: l,i,h=>HasO.of (l:=l) (i:=i+1) (fun j vo hj=>by have:=h (j+1) vo (by simpa using hj);rw [show i+1+j=i+(j+1) by omega];exact this)
 | some v :: l,i,h=>⟨by have:=h 0 v rfl;simpa using this,HasO.of (l:=l) (i:=i+1) (fun j vo hj=>by have:=h (j+1) vo (by simpa using hj);rw [show i+1+j=i+(j+1) by omega];exact this)⟩
def nms(k0:Nat)(σ:List Nat):List Nat:=List.range k0 ++ σ
def Ends(k0:Nat)(c:Cz):Pst:=fun r=> ∃ σ:List Nat,ExtOk (nms k0 σ) r.2.2∧k0+σ.length=c.objs.length∧r.1=c.v.ren (ext (nms k0 σ) r.2.2)∧HasO (ext (nms k0 σ) r.2.2) r.2.1 0 c.objs
def xI(l:List VO):aw:=fun i=>l[i]?
def Ctr(P:Program)(f:FuncId)(args:List SV)(pre:List VO)(Q:Cz→Prop):Prop:=Fnc P f args (xI pre) pre.length (fun r=> ∃ c,Q c∧Ends pre.length c r)
theorem gE(k0:Nat)(σ:List Nat):(nms k0 σ).length=k0+σ.length:=by simp [nms]
theorem pz{k0:Nat}{σ:List Nat}{i:Nat}(h:i<k0):(nms k0 σ).getD i 0=i:=by
 unfold nms
 rw [Eg,Ei (by simpa using h),List.getElem?_range h]
 rfl
def wrO(ρ:Nat→Nat)(H:aw):Nat→List (Option VO)→aw
 | _,[]=>H
 | i,none :: l=>wrO ρ (H.del (ρ i)) (i+1) l
 | i,some vo :: l=>wrO ρ (H.set (ρ i) vo) (i+1) l
theorem v8{ρ:Nat→Nat}(hi: ∀ a b,ρ a=ρ b→a=b): ∀ {l:List (Option VO)} {i:Nat} {H:aw} {n:Nat} {vo:VO},(wrO ρ H i l).at' n=some vo→(∃ j,n=ρ (i+j)∧l[j]? =some (some vo))∨((∀ j,j<l.length→n≠ρ (i+j))∧H.at' n=some vo)
 | [],i,H,n,vo,h=> .inr ⟨fun j hj=>by simp at hj,h⟩
 | none :: l,i,H,n,vo,h=>by
   rcases v8 hi (l:=l) (i:=i+1) h with ⟨j,rfl,h2⟩|⟨h1,h2⟩
   ·exact .inl ⟨j+1,by rw [show i+1+j=i+(j+1) by omega],by simpa using h2⟩
   ·obtain⟨h3,h4⟩:=lG h2
    refine .inr ⟨fun j hj=>?_,h4⟩
    cases j with
    | zero=>exact h3
    | succ j=>rw [show i+(j+1)=i+1+j by omega];exact h1 j (by simpa using hj)
 | some v :: l,i,H,n,vo,h=>by
   rcases v8 hi (l:=l) (i:=i+1) h with ⟨j,rfl,h2⟩|⟨h1,h2⟩
   ·exact .inl ⟨j+1,by rw [show i+1+j=i+(j+1) by omega],by simpa using h2⟩
   ·rcases bl h2 with ⟨rfl,rfl⟩|⟨h3,h4⟩
    ·exact .inl ⟨0,rfl,rfl⟩
    ·refine .inr ⟨fun j hj=>?_,h4⟩
     cases j with
     | zero=>exact h3
     | succ j=>rw [show i+(j+1)=i+1+j by omega];exact h1 j (by simpa using hj)
theorem Ctr.call{f:FuncId}{args0 args:List SV}{pre:List VO}{Q0:Cz→Prop}(h:Ctr P f args0 pre Q0)(L:List Nat){H:aw}{nx:Nat}{Q:Pst}(hlen:L.length=pre.length)(hL:ExtOk L nx)(ha:args=args0.map (SV.ren (ext L nx)))
 (hp:HasO (ext L nx) H 0 (pre.map some))
 (hQ: ∀ c,Q0 c→pre.length≤c.objs.length→Q (c.v.ren (ext L nx),wrO (ext L nx) H 0 (c.objs.map (Option.map (VO.ren (ext L nx)))),nx+(c.objs.length-pre.length))):Fnc P f args H nx Q:=by
 subst ha
 have hi: ∀ a b,ext L nx a=ext L nx b→a=b:=fun a b h=>jS hL h
 unfold Ctr Fnc iR at h
 unfold Fnc iR
 have inside: ∀ K w0 e w,St K w0 e H nx w→St (rW K e H (ext L nx)) w (pull e (ext L nx)) (xI pre) L.length w:=by
  intro K w0 e w hS
  refine hS.inside hL (fun m vo hm=>?_)
  have hm':pre[m]? =some vo:=hm
  have hlt:=(D6.1 hm').1
  refine⟨by omega,?_⟩
  have:=hp.get (j:=m) (vo:=vo) (by rw [EP,hm'];rfl)
  rw [EA] at this
  unfold ext at this
  rw [Ez (by omega)] at this
  exact this
 have back: ∀ K w0 e w w' (r:Res) (cz:Cz) (σ:List Nat) (e':Env) (v:Value),St K w0 e H nx w→ExtOk (nms pre.length σ) r.2.2→pre.length+σ.length=cz.objs.length→r.1=cz.v.ren (ext (nms pre.length σ) r.2.2)→HasO (ext (nms pre.length σ) r.2.2) r.2.1 0 cz.objs →
  (pull e (ext L nx)).le e'→St (rW K e H (ext L nx)) w e' r.2.1 r.2.2 w'→r.1.conc e'=some v →
  ∃ e'',e.le e''∧St K w0 e'' (wrO (ext L nx) H 0 (cz.objs.map (Option.map (VO.ren (ext L nx))))) (nx+(cz.objs.length-pre.length)) w'∧(cz.v.ren (ext L nx)).conc e''=some v:=by
  intro K w0 e w w' r cz σ e' v hS e1 e2 e3 e4 g1 g2 g3
  have hpl:=gE pre.length σ
  have hcan:St (rW K e H (ext L nx)) w (pull e' (ext (nms pre.length σ) r.2.2)) (fun i=>(cz.objs[i]?).join) (nms pre.length σ).length w':=by
   refine g2.pull e1 (fun m vo hm=>?_)
   have hm':cz.objs[m]? =some (some vo):=by
    have:(cz.objs[m]?).join=some vo:=hm
    cases hx:cz.objs[m]? with
    | none=>rw [hx] at this;cases this
    | some y=>rw [hx] at this;simp only [Option.join_some] at this;rw [this]
   have hlt:=(D6.1 hm').1
   have:=e4.get hm'
   rw [EA] at this
   refine⟨by omega,?_⟩
   unfold ext at this
   rw [Ez (by omega)] at this
   exact this
  have hle:(pull e (ext L nx)).le (pull e' (ext (nms pre.length σ) r.2.2)):=by
   intro m x hx
   have hml:m<pre.length:=by
    rcases EB m pre.length with h|h
    ·exact h
    ·have:e (ext L nx m)=none:=by
      unfold ext
      rw [Ey (by omega)]
      exact hS.fresh _ (by omega)
     rw [show pull e (ext L nx) m=e (ext L nx m)from rfl,this] at hx
     cases hx
   show e' (ext (nms pre.length σ) r.2.2 m)=some x
   unfold ext
   rw [Ez (by omega),pz hml]
   exact g1 m x hx
  obtain⟨q1,q2⟩:=hS.outside (Hc:=wrO (ext L nx) H 0 (cz.objs.map (Option.map (VO.ren (ext L nx))))) hL hcan hle (fun n vo hn=>by
   rcases v8 hi hn with ⟨j,rfl,h2⟩|⟨h1,h2⟩
   ·rw [EP,Eb] at h2
    obtain⟨y,hy,hv⟩:=h2
    rw [Eb] at hv
    obtain⟨vo0,rfl,rfl⟩:=hv
    refine .inl ⟨j,vo0,by rw [EA],?_,rfl⟩
    show(cz.objs[j]?).join=some vo0
    rw [hy]
    rfl
   ·refine .inr ⟨fun m hm=>?_,h2⟩
    rcases EB m cz.objs.length with hlt|hge
    ·have:=h1 m (by simpa using hlt)
     rw [EA] at this
     exact this hm
    ·have hml: ¬ m<L.length:=by omega
     have hen:n<nx:=by
      obtain⟨x,hx,_⟩:=hS.rel n vo h2
      rcases EB n nx with h|h
      ·exact h
      ·rw [hS.fresh n h] at hx;cases hx
     rw [hm] at hen
     unfold ext at hen
     rw [Ey hml] at hen
     omega)
  refine⟨push e (pull e' (ext (nms pre.length σ) r.2.2)) (ext L nx),q1,?_,?_⟩
  ·have:nx+(cz.objs.length-pre.length)=nx+((nms pre.length σ).length-L.length):=by omega
   rw [this]
   exact q2
  ·show SV.conc _ (cz.v.ren (ext L nx))=some v
   rw [dL,mJ hi,←dL,←e3]
   exact g3
 rcases h with ⟨h0,v,r,hsure,⟨cz,hq,σ,e1,e2,e3,e4⟩,hsem⟩|h
 ·subst h0
  refine .inl ⟨rfl,v,_,hsure,hQ cz hq (by omega),fun K w0 e w hS=>?_⟩
  have hin:=inside K w0 e w hS
  rw [hlen] at hin
  obtain⟨e',g1,g2,g3⟩:=hsem _ _ _ _ hin
  exact back K w0 e w w r cz σ e' v hS e1 e2 e3 e4 g1 g2 g3
 refine .inr ?_
 split at h
 ·rename_i c hb
  refine⟨fun K w0 e w tmps todo ds kd rof cs hS hT ht hd hc=>?_⟩
  simp only at hS hT ht hd
  have hin:=inside K w0 e w hS
  have hT':TRel (pull e (ext L nx)) (max args0.length (BS P f)) (il .nil 0 args0) tmps:=by
   refine⟨by simpa using hT.1,fun t s hs=>?_⟩
   have:(il .nil 0 (args0.map (SV.ren (ext L nx)))).at' t=some (s.ren (ext L nx)):=by
    have gen: ∀ (l:List SV) (T T':Tr SV) (i:Nat),(∀ u s,T.at' u=some s→T'.at' u=some (s.ren (ext L nx)))→ ∀ u s,(il T i l).at' u=some s→(il T' i (l.map (SV.ren (ext L nx)))).at' u=some (s.ren (ext L nx)):=by
     intro l
     induction l with
     | nil=>intro T T' i h u s hs;exact h u s hs
     | cons x l ih=>
       intro T T' i h u s hs
       refine ih _ _ _ (fun u s hs=>?_) u s hs
       rcases bl hs with ⟨rfl,rfl⟩|⟨hne,hs⟩
       ·exact au _ _ _
       ·rw [ab _ _ hne];exact h u s hs
    exact gen args0 .nil .nil 0 (fun u s hs=>by rw [ny] at hs;cases hs) t s hs
   obtain⟨v,g1,g2⟩:=hT.2 t _ this
   exact⟨v,by rw [← dL];exact g1,g2⟩
  have htd:IsRel (pull e (ext L nx)) [.code c] todo:=by
   have:=(nG (e:=e) (ρ:=ext L nx) (l:= [.code c]) (m:=todo)).1 (by simpa [AIt.ren] using ht)
   exact this
  have hds:DsRel (pull e (ext L nx)) [] ds:=(kS (e:=e) (ρ:=ext L nx) (l:= []) (m:=ds)).1 hd
  obtain⟨r,⟨cz,hq,σ,e1,e2,e3,e4⟩,e',w',v,g1,g2,g3,g4⟩:=h.run _ _ (pull e (ext L nx)) w tmps todo ds kd rof cs (by rw [← hlen];exact hin) hT' htd hds hc
  obtain⟨e'',q1,q2,q3⟩:=back K w0 e w w' r cz σ e' v hS e1 e2 e3 e4 g1 g2 g3
  exact⟨_,hQ cz hq (by omega),e'',w',v,q1,q2,q3,g4⟩
 ·exact h.elim
mutual
theorem SV.ren_ren(ρ τ:Nat→Nat): ∀ s:SV,(s.ren ρ).ren τ=s.ren (fun n=>τ (ρ n))
 | .sc v=>rfl
 | .ptr b o=>rfl
 | .sl b o n c=>rfl
 | .slu b eo n=>rfl
 | .mp b=>rfl
 | .yld b=>rfl
 | .agg l=>by simp only [SV.ren,SV.fO ρ τ l]
 | .tup l=>by simp only [SV.ren,SV.fO ρ τ l]
 | .ifc t v=>by simp only [SV.ren,SV.ren_ren ρ τ v]
 | .fn f a b=>by simp only [SV.ren,SV.fO ρ τ a,SV.fO ρ τ b]
theorem SV.fO(ρ τ:Nat→Nat): ∀ l:List SV,SV.gJ τ (SV.gJ ρ l)=SV.gJ (fun n=>τ (ρ n)) l
 | []=>rfl
 | x :: l=>by simp only [SV.gJ,SV.ren_ren ρ τ x,SV.fO ρ τ l]
end
section
variable {nx:Nat}{L:List Nat}
theorem ADf.ren_ren(ρ τ:Nat→Nat)(a:ADf):(a.ren ρ).ren τ=a.ren (fun n=>τ (ρ n)):=by cases a <;> simp [ADf.ren,SV.fO]
theorem wD(ρ τ:Nat→Nat)(c:Tr SV):vG τ (vG ρ c)=vG (fun n=>τ (ρ n)) c:=by
 funext i
 show((c i).map (SV.ren ρ)).map (SV.ren τ)=(c i).map (SV.ren (fun n=>τ (ρ n)))
 cases c i with
 | none=>rfl
 | some s=>simp [SV.ren_ren]
theorem VO.ren_ren(ρ τ:Nat→Nat)(vo:VO):(vo.ren ρ).ren τ=vo.ren (fun n=>τ (ρ n)):=by
 cases vo with
 | map l clock=>simp [VO.ren,CF,SV.ren_ren,Function.comp_def]
 | iter m since seen stepped=>cases m <;> rfl
 | dfd calls=>
   cases calls with
   | none=>rfl
   | some l=>simp [VO.ren,ADf.ren_ren,Function.comp_def]
 | _=>simp [VO.ren,wD]
def RenQ(L:List Nat)(nx:Nat)(Q:Pst):Prop:=
 ∀ v H1 nx1 Hc,Q (v,H1,nx1)→(∀ m vo0,m<nx1→H1.at' m=some vo0→Hc.at' (ext (L.take nx1) nx m)=some (vo0.ren (ext (L.take nx1) nx)))→Q (v.ren (ext (L.take nx1) nx),Hc,nx+(nx1-(L.take nx1).length))
theorem ExtOk.take(h:ExtOk L nx)(n:Nat):ExtOk (L.take n) nx:=⟨fun m hm=>h.lt m (List.mem_of_mem_take hm),h.nodup.sublist (List.take_sublist _ _)⟩
theorem um{m:Nat}(h:m<L.length):ext L nx m=L.getD m 0:=by unfold ext;rw [Ez h]
theorem uo{m:Nat}(h:L.length≤m):ext L nx m=nx+(m-L.length):=by unfold ext;rw [Ey (by omega)]
theorem yw{k0:Nat}{L2:List Nat}(hL:ExtOk (nms k0 L2) nx)(Q0:Cz→Prop):RenQ (nms k0 L2) nx (fun r=> ∃ c,Q0 c∧Ends k0 c r):=by
 rintro v H1 nx1 Hc ⟨c,hq,σ,e1,e2,e3,e4⟩ hH
 have hL':=hL.take nx1
 have hk1:k0≤nx1:=by
  rcases Nat.eq_zero_or_pos k0 with h|h
  ·omega
  ·have:=e1.lt (k0-1) (by unfold nms;exact List.mem_append_left _ (by simp;omega))
   simp only at this
   omega
 have hlen:=gE k0 L2
 have hlent:((nms k0 L2).take nx1).length=min nx1 (k0+L2.length):=by rw [EC,hlen]
 have hfix: ∀ m,m<k0→ext ((nms k0 L2).take nx1) nx m=m:=by
  intro m hm
  unfold ext
  rw [Ez (by rw [hlent];omega),Eg,List.getElem?_take,Ez (by omega),←Eg,pz hm]
 have hlt: ∀ m,m<nx1→ext ((nms k0 L2).take nx1) nx m<nx+(nx1-((nms k0 L2).take nx1).length):=by
  intro m hm
  unfold ext
  by_cases h:m<((nms k0 L2).take nx1).length
  ·rw [Ez h]
   have:=hL'.lt (((nms k0 L2).take nx1).getD m 0) (by rw [Eg,D5 h];exact Ex h)
   omega
  ·rw [Ey h];omega
 simp only at e1 e3 e4
 have hσl:=gE k0 σ
 have hcomp:(fun n=>ext ((nms k0 L2).take nx1) nx (ext (nms k0 σ) nx1 n))=ext (nms k0 (σ.map (ext ((nms k0 L2).take nx1) nx))) (nx+(nx1-((nms k0 L2).take nx1).length)):=by
  funext n
  have hl2:(nms k0 (σ.map (ext ((nms k0 L2).take nx1) nx))).length=k0+σ.length:=by rw [gE,ED]
  by_cases hn:n<k0+σ.length
  ·have a1:ext (nms k0 σ) nx1 n=(nms k0 σ).getD n 0:=um (by omega)
   have a2:ext (nms k0 (σ.map (ext ((nms k0 L2).take nx1) nx))) (nx+(nx1-((nms k0 L2).take nx1).length)) n=(nms k0 (σ.map (ext ((nms k0 L2).take nx1) nx))).getD n 0:=um (by omega)
   rw [a1,a2]
   by_cases hk:n<k0
   ·rw [pz hk,pz hk,hfix n hk]
   ·unfold nms
    rw [Eg,Eg,EI (by simp;omega),EI (by simp;omega)]
    simp only [List.length_range,EP]
    rw [D5 (by omega:n-k0<σ.length)]
    rfl
  ·have a1:ext (nms k0 σ) nx1 n=nx1+(n-(k0+σ.length)):=by rw [uo (by omega),hσl]
   have a2:ext (nms k0 (σ.map (ext ((nms k0 L2).take nx1) nx))) (nx+(nx1-((nms k0 L2).take nx1).length)) n=nx+(nx1-((nms k0 L2).take nx1).length)+(n-(k0+σ.length)):=by rw [uo (by omega),hl2]
   rw [a1,a2,uo (by rw [hlent];omega)]
   omega
 refine⟨c,hq,σ.map (ext ((nms k0 L2).take nx1) nx),⟨fun n hn=>?_,?_⟩,by simpa using e2,?_,?_⟩
 ·rcases List.mem_append.1 hn with hn|hn
  ·have hn:=EU.1 hn
   have:=hlt n (by omega)
   rw [hfix n hn] at this
   exact this
  ·obtain⟨m,hm,rfl⟩:=EV.1 hn
   exact hlt m (e1.lt m (List.mem_append_right _ hm))
 ·have hmap:nms k0 (σ.map (ext ((nms k0 L2).take nx1) nx))=(nms k0 σ).map (ext ((nms k0 L2).take nx1) nx):=by
   unfold nms
   rw [Es]
   congr 1
   apply ET
   intro i
   rw [EP]
   by_cases hi:i<k0
   ·rw [List.getElem?_range hi,Et]
    exact congrArg some (hfix i hi).symm
   ·rw [EW (by simpa using hi)];rfl
  rw [hmap]
  exact List.Pairwise.map _ (fun a b hab h=>hab (jS hL' h)) e1.nodup
 ·simp only
  rw [e3,SV.ren_ren,hcomp]
 ·refine HasO.of (fun j vo hj=>?_)
  have:=e4.get hj
  rw [EA] at this ⊢
  simp only
  rw [← hcomp]
  have hjl:=(D6.1 hj).1
  have hbound:ext (nms k0 σ) nx1 j<nx1:=by
   unfold ext
   rw [Ez (by omega)]
   exact e1.lt _ (by rw [Eg,D5 (by omega)];exact Ex _)
  have h2:=hH _ _ hbound this
  rw [VO.ren_ren] at h2
  exact h2
theorem Wp.ren{fn nt:Nat}{T T0:Tr SV}{k:List AIt}{dfs:List ADf}{H H0:aw}{Q:Pst}(h:Wp P none ⟨fn,nt,T0,k,dfs,H0,L.length⟩ Q)(hL:ExtOk L nx)(hT: ∀ t s,T0.at' t=some s→T.at' t=some (s.ren (ext L nx)))
 (hH: ∀ m vo,H0.at' m=some vo→m<L.length∧H.at' (L.getD m 0)=some (vo.ren (ext L nx))) (hk:k.map (AIt.ren (ext L nx))=k) (hd:dfs.map (ADf.ren (ext L nx))=dfs) (hQ:RenQ L nx Q):Wp P none ⟨fn,nt,T,k,dfs,H,nx⟩ Q:=by
 refine⟨fun K w0 e w tmps todo ds kd rof cs hS hTr htd hds hc=>?_⟩
 simp only at hS hTr htd hds
 have hi: ∀ a b,ext L nx a=ext L nx b→a=b:=fun a b h=>jS hL h
 have hT':TRel (pull e (ext L nx)) nt T0 tmps:=by
  refine⟨hTr.1,fun t s hs=>?_⟩
  obtain⟨v,g1,g2⟩:=hTr.2 t _ (hT t s hs)
  exact⟨v,by rw [← dL];exact g1,g2⟩
 rw [← hk] at htd
 rw [← hd] at hds
 obtain⟨⟨v,H1,nx1⟩,hq,e1,w',u,g1,g2,g3,g4⟩:=h.run K w0 _ w tmps todo ds kd rof cs (hS.pull hL hH) hT' (nG.1 htd) (kS.1 hds) hc
 simp only at g2 g3
 have hL':=hL.take nx1
 have hi': ∀ a b,ext (L.take nx1) nx a=ext (L.take nx1) nx b→a=b:=fun a b h=>jS hL' h
 have hnone: ∀ m,nx1≤m→e1 m=none:=fun m hm=>g2.fresh m hm
 have hsame: ∀ m,m<nx1→ext (L.take nx1) nx m=ext L nx m:=by
  intro m hm
  unfold ext
  by_cases hml:m<L.length
  ·rw [Ez hml,Ez (by rw [EC];omega),Eg,List.getElem?_take,Ez hm,←Eg]
  ·rw [Ey hml,Ey (by rw [EC];omega),EC]
   congr 1
   omega
 have hle:(pull e (ext (L.take nx1) nx)).le e1:=by
  intro m x hx
  rcases EB m nx1 with hm|hm
  ·exact g1 m x (by show e (ext L nx m)=some x;rw [← hsame m hm];exact hx)
  ·exfalso
   have hfr: ¬ m<(L.take nx1).length:=by rw [EC];omega
   have:e (ext (L.take nx1) nx m)=none:=by
    unfold ext
    rw [Ey hfr]
    exact hS.fresh _ (by omega)
   rw [show pull e (ext (L.take nx1) nx) m=e (ext (L.take nx1) nx m)from rfl,this] at hx
   cases hx
 have hpp:=mJ (e:=e) (e1:=e1) hi'
 have hH1: ∀ m vo,H1.at' m=some vo→m<nx1:=by
  intro m vo hm
  obtain⟨x,hx,_⟩:=g2.rel m vo hm
  rcases EB m nx1 with h|h
  ·exact h
  ·rw [hnone m h] at hx;cases hx
 let Hc:aw:=fun n=>open Classical in if hh: ∃ m,n=ext (L.take nx1) nx m then(H1.at' (Classical.choose hh)).map (VO.ren (ext (L.take nx1) nx)) else none
 have hHc: ∀ m,Hc.at' (ext (L.take nx1) nx m)=(H1.at' m).map (VO.ren (ext (L.take nx1) nx)):=by
  intro m
  have hh: ∃ m',ext (L.take nx1) nx m=ext (L.take nx1) nx m':=⟨m,rfl⟩
  show(open Classical in if hh: ∃ m',ext (L.take nx1) nx m=ext (L.take nx1) nx m' then(H1.at' (Classical.choose hh)).map (VO.ren (ext (L.take nx1) nx)) else none)=_
  rw [dif_pos hh,←hi' _ _ (Classical.choose_spec hh)]
 have hHo: ∀ n vo,Hc.at' n=some vo→ ∃ m vo0,n=ext (L.take nx1) nx m∧H1.at' m=some vo0∧vo=vo0.ren (ext (L.take nx1) nx):=by
  intro n vo hn
  by_cases hh: ∃ m,n=ext (L.take nx1) nx m
  ·obtain⟨m,rfl⟩:=hh
   rw [hHc,Eb] at hn
   obtain⟨vo0,h1,h2⟩:=hn
   exact⟨m,vo0,rfl,h1,h2.symm⟩
  ·have:Hc.at' n=none:=by
    show(open Classical in if hh: ∃ m,n=ext (L.take nx1) nx m then(H1.at' (Classical.choose hh)).map (VO.ren (ext (L.take nx1) nx)) else none)=none
    rw [dif_neg hh]
   rw [this] at hn
   cases hn
 refine⟨_,hQ v H1 nx1 Hc hq (fun m vo0 hm hm1=>by rw [hHc,hm1];rfl),push e e1 (ext (L.take nx1) nx),w',u,wT hi' hle,⟨g2.below,?_,?_,?_⟩,?_,g4⟩
 ·intro n vo hn
  obtain⟨m,vo0,rfl,h1,rfl⟩:=hHo n vo hn
  obtain⟨x,hx,hl⟩:=g2.rel m vo0 h1
  exact⟨x,by rw [iE hi'];exact hx,by rw [hZ,hpp];exact hl⟩
 ·intro n n' vo vo' x x' hn hn' hx hx' hne h0 h0' hr hr'
  obtain⟨m,vo0,rfl,h1,rfl⟩:=hHo n vo hn
  obtain⟨m',vo0',rfl,h1',rfl⟩:=hHo n' vo' hn'
  rw [iE hi'] at hx hx'
  rw [iC] at hr hr'
  exact g2.inj _ _ _ _ _ _ h1 h1' hx hx' (fun h=>hne (by rw [h])) h0 h0' hr hr'
 ·intro n hn
  simp only at hn
  by_cases hh: ∃ m,n=ext (L.take nx1) nx m
  ·obtain⟨m,rfl⟩:=hh
   rw [iE hi']
   refine hnone m ?_
   rcases EB m nx1 with hm|hm
   ·exfalso
    unfold ext at hn
    by_cases hml:m<(L.take nx1).length
    ·rw [Ez hml] at hn
     have:=hL'.lt ((L.take nx1).getD m 0) (by rw [Eg,D5 hml];exact Ex hml)
     omega
    ·rw [Ey hml] at hn;omega
   ·exact hm
  ·rw [fJ (fun m hm=>hh ⟨m,hm⟩)]
   exact hS.fresh n (by omega)
 ·show SV.conc _ (v.ren _)=some u
  rw [dL,hpp]
  exact g3
def slT:List (Nat×SV)→Tr SV
 | []=> .nil
 | (t,s) :: l=>(slT l).set t s
def l4(l:List (Option VO)):aw:=fun i=>(l[i]?).join
def HasT(ρ:Nat→Nat)(T:Tr SV):List (Nat×SV)→Prop
 | []=>True
 | (t,s) :: l=>T.at' t=some (s.ren ρ)∧HasT ρ T l
theorem HasT.get{ρ:Nat→Nat}{T:Tr SV}: ∀ {l:List (Nat×SV)},HasT ρ T l→ ∀ t s,(slT l).at' t=some s→T.at' t=some (s.ren ρ)
 | [],_,t,s,h=>by rw [slT,ny] at h;cases h
 | (t0,s0) :: l,hh,t,s,h=>by
   rcases bl h with ⟨rfl,rfl⟩|⟨_,h⟩
   ·exact hh.1
   ·exact HasT.get hh.2 t s h
end
structure IsAt (k0:Nat) (L2:List Nat) (sl:List (Nat×SV)) (ob:List (Option VO)) (T:Tr SV) (H:aw) (nx:Nat):Prop where
 ok:ExtOk (nms k0 L2) nx
 len:k0+L2.length=ob.length
 slots:HasT (ext (nms k0 L2) nx) T sl
 objs:HasO (ext (nms k0 L2) nx) H 0 ob
theorem Wp.can{fn nt k0:Nat}{T:Tr SV}{k:List AIt}{dfs:List ADf}{H:aw}{nx:Nat}{Q0:Cz→Prop}{L2:List Nat}{sl:List (Nat×SV)}{ob:List (Option VO)}(h:IsAt k0 L2 sl ob T H nx)
 (hk:k.map (AIt.ren (ext (nms k0 L2) nx))=k) (hd:dfs.map (ADf.ren (ext (nms k0 L2) nx))=dfs)
 (hw:Wp P none ⟨fn,nt,slT sl,k,dfs,l4 ob,ob.length⟩ (fun r=> ∃ c,Q0 c∧Ends k0 c r)):Wp P none ⟨fn,nt,T,k,dfs,H,nx⟩ (fun r=> ∃ c,Q0 c∧Ends k0 c r):=by
 have hl:(nms k0 L2).length=ob.length:=by rw [gE];exact h.len
 rw [← hl] at hw
 refine hw.ren h.ok h.slots.get (fun m vo hm=>?_) hk hd (yw h.ok Q0)
 have hm':ob[m]? =some (some vo):=by
  have:(ob[m]?).join=some vo:=hm
  cases hx:ob[m]? with
  | none=>rw [hx] at this;cases this
  | some y=>rw [hx] at this;simp only [Option.join_some] at this;rw [this]
 have hlt:=(D6.1 hm').1
 have:=h.objs.get hm'
 rw [EA] at this
 refine⟨by omega,?_⟩
 unfold ext at this
 rw [Ez (by omega)] at this
 exact this
theorem cO{α:Type}{fn nt k0 nx:Nat}{T:Tr SV}{k:List AIt}{dfs:List ADf}{H:aw}{Q0:Cz→Prop}{b:Code}(n:Nat)(sl:α→List (Nat×SV))(ob:α→List (Option VO))(φ:α→Prop)(μ:α→Nat)(a0:α)(L0:List Nat)
 (hn: ∀ a,(ob a).length=n) (h0:φ a0) (hi:IsAt k0 L0 (sl a0) (ob a0) T H nx) (hk: ∀ ρ,k.map (AIt.ren ρ)=k) (hd: ∀ ρ,dfs.map (ADf.ren ρ)=dfs)
 (body: ∀ a,φ a→(∀ T' H' nx' a' L',φ a'→μ a'<μ a→IsAt k0 L' (sl a') (ob a') T' H' nx'→Wp P none ⟨fn,nt,T',.inLoop b :: k,dfs,H',nx'⟩ (fun r=> ∃ c,Q0 c∧Ends k0 c r)) →
   Wp P none ⟨fn,nt,slT (sl a),.code b :: .inLoop b :: k,dfs,l4 (ob a),n⟩ (fun r=> ∃ c,Q0 c∧Ends k0 c r)) :
 Wp P none ⟨fn,nt,T,.code (.loop b) :: k,dfs,H,nx⟩ (fun r=> ∃ c,Q0 c∧Ends k0 c r):=by
 have hk1: ∀ ρ,(AIt.code b :: AIt.inLoop b :: k).map (AIt.ren ρ)=AIt.code b :: AIt.inLoop b :: k:=fun ρ=>by simp [AIt.ren,hk ρ]
 have main: ∀ m a,μ a=m→φ a→Wp P none ⟨fn,nt,slT (sl a),.code b :: .inLoop b :: k,dfs,l4 (ob a),n⟩ (fun r=> ∃ c,Q0 c∧Ends k0 c r):=by
  intro m
  induction m using Nat.strongRecOn with
  | _ m ih=>
    intro a hm ha
    refine body a ha (fun T' H' nx' a' L' ha' hlt hat=>mr ?_)
    refine Wp.can hat (hk1 _) (hd _) ?_
    rw [hn a']
    exact ih (μ a') (by omega) a' rfl ha'
 refine oO (Wp.can hi (hk1 _) (hd _) ?_)
 rw [hn a0]
 exact main _ a0 rfl h0
end
section
variable {P:Program} {T:Tr SV} {H:aw} {nx:Nat} {d:Option Tmp} {ty:TypeId} {pos:String} {af:Array Edge} {gd:Option (Nat×Bool)}
section
variable {v:SV}{a:Int}{b:Nat}{c:Int}{n ne o sz:Nat}{ro:Bool}{op:BinOp}{t yt:TypeId}{k k2:IntKind}{l:List SV}{x y:Operand}
theorem fj{o:Oper}(h:cS P T H o=some v):ReadDoes P T H o v:=fun _ _ _ _ _ _ hS hE=>wG hS hE h
theorem kL{o:Oper}{out:Out}(h:fZ P T H nx o=some out):OpDoes P T H nx o out:=fun _ _ _ _ _ hS hE=>kK hS hE h
def kF(P:Program)(s:TypeId)(f:Nat):Option Nat:=match P.underlying s with
 | some (.struct fields)=>match fields[f]? with
   | some fd=>match bw P fd.type with
     | some (_+1)=>some fd.offset
     | _=>none
   | none=>none
 | _=>none
def qe(P:Program)(t:TypeId):Option (List SV):=(dY P t).map fun z=>z.cells.toList.map .sc
theorem Bv(h:ar T x=some v):ReadDoes P T H ⟨d,.move x,ty,pos,af,gd⟩ v:=fj h
theorem wM(h:ar T x=some v):ReadDoes P T H ⟨d,.assign x,ty,pos,af,gd⟩ v:=fj h
theorem zi{c a b:Operand}(hc:ar T c=some (.sc (.bool true)))(h:ar T a=some v):ReadDoes P T H ⟨d,.pick c a b,ty,pos,af,gd⟩ v:=by
 refine fj ?_
 unfold cS
 simp only [hc,cond_true]
 exact h
theorem zj{c a b:Operand}(hc:ar T c=some (.sc (.bool false)))(h:ar T b=some v):ReadDoes P T H ⟨d,.pick c a b,ty,pos,af,gd⟩ v:=by
 refine fj ?_
 unfold cS
 simp only [hc,cond_false]
 exact h
theorem uR{i:Nat}(h:ar T x=some (.tup l))(hi:l[i]? =some v):ReadDoes P T H ⟨d,.extract x i,ty,pos,af,gd⟩ v:=by
 refine fj ?_
 unfold cS
 simp only [h,Eu,BR]
 exact hi
theorem sw(h:ar T x=some (.ptr b o)):ReadDoes P T H ⟨d,.nilCheck x,ty,pos,af,gd⟩ (.ptr b o):=by
 refine fj ?_
 unfold cS
 simp only [h,Eu,eO]
theorem qB{f:FuncId}{a c:List SV}(h:ar T x=some (.fn (.func f) a c)):ReadDoes P T H ⟨d,.nilCheck x,ty,pos,af,gd⟩ (.fn (.func f) a c):=by
 refine fj ?_
 unfold cS
 simp only [h,Eu,eO]
theorem qA(h:ar T x=some (.ifc t v)):ReadDoes P T H ⟨d,.nilCheck x,ty,pos,af,gd⟩ (.ifc t v):=by
 refine fj ?_
 unfold cS
 simp only [h,Eu,eO]
theorem qC{s:TypeId}{f off:Nat}(hf:kF P s f=some off)(h:ar T x=some (.ptr b o)):ReadDoes P T H ⟨d,.fieldAddr s x f,ty,pos,af,gd⟩ (.ptr b (o+off)):=by
 refine fj ?_
 unfold cS
 simp only [h,Eu,gG]
 unfold kF at hf
 cases hu:P.underlying s with
 | none=>rw [hu] at hf;cases hf
 | some dd=>
   rw [hu] at hf
   cases dd with
   | struct fields=>
     simp only at hf ⊢
     cases hx:fields[f]? with
     | none=>rw [hx] at hf;cases hf
     | some fd=>
       rw [hx] at hf
       simp only at hf ⊢
       cases hs:bw P fd.type with
       | none=>rw [hs] at hf;cases hf
       | some n=>
         rw [hs] at hf
         cases n with
         | zero=>cases hf
         | succ n=>simp only [D2] at hf;simp only [hf]
   | _=>cases hf
theorem sx{f:Fn}{a b:Array Operand}{x y:List SV}(ha:dh T a.toList=some x)(hb:dh T b.toList=some y):ReadDoes P T H ⟨d,.makeFunc f a b,ty,pos,af,gd⟩ (.fn f x y):=by
 refine fj ?_
 unfold cS
 simp only [ha,hb,Eu,Et]
theorem lX{r:SV}(h:ar T x=some v)(hr:qZ P t v=some r):ReadDoes P T H ⟨d,.makeInterface t x,ty,pos,af,gd⟩ r:=by
 refine fj ?_
 unfold cS
 simp only [h,Eu]
 exact hr
theorem aI{vo:VO}(ha:bT P t=some none)(hx:ar T x=some (.ptr b o))(hb:H.at' b=some vo)(hv:vo.cell o=some v):ReadDoes P T H ⟨d,.load t x,ty,pos,af,gd⟩ v:=by
 refine fj ?_
 unfold cS
 simp only [hx,pC,hb,ha]
 exact hv
theorem bA{vo:VO}(ha:bT P t=some (some n))(hx:ar T x=some (.ptr b o))(hb:H.at' b=some vo)(hv:vo.cellsFrom o n=some l):ReadDoes P T H ⟨d,.load t x,ty,pos,af,gd⟩ (.agg l):=by
 refine fj ?_
 unfold cS
 simp only [hx,pC,hb,ha,hv,Et]
theorem aE(h:l[o]? =some v):(am t l).cell o=some v:=by
 have hlt:=(D6.1 h).1
 simp only [am,VO.cell,kr,h]
 rw [show Nat.blt o l.length=true from D9 hlt]
 rfl
theorem aH{t:TypeId}{l:List SV}: ∀ (n o:Nat) {vs:List SV},(l.drop o).take n=vs→vs.length=n→(am t l).cellsFrom o n=some vs
 | 0,o,vs,h,hn=>by
   have:vs= []:=Eh hn
   subst this
   rfl
 | n+1,o,vs,h,hn=>by
   cases hd:l.drop o with
   | nil=>rw [hd] at h;subst h;simp at hn
   | cons x r=>
     rw [hd] at h
     simp only [List.take_succ_cons] at h
     subst h
     have hx:l[o]? =some x:=by
      have:=congrArg List.head? hd
      simpa using this
     have hr:l.drop (o+1)=r:=by
      have:=congrArg List.tail hd
      simpa using this
     simp only [VO.cellsFrom,aE hx]
     rw [aH n (o+1) (vs:=r.take n) (by rw [hr]) (by simpa using hn)]
theorem aW(hz:qe P t=some l):OpDoes P T H nx ⟨d,.alloc t,ty,pos,af,gd⟩ (.val (.ptr nx 0),H.set nx (am t l),nx+1):=by
 refine kL ?_
 unfold fZ qe at *
 cases hzz:dY P t with
 | none=>rw [hzz] at hz;cases hz
 | some z=>rw [hzz] at hz;simp only [Et,D2] at hz;simp only [hzz,hz]
theorem BM(hx:ar T x=some (.agg l)):OpDoes P T H nx ⟨d,.box t x,ty,pos,af,gd⟩ (.val (.ptr nx 0),H.set nx (am t l),nx+1):=by
 refine kL ?_
 unfold fZ
 simp only [hx]
 rfl
theorem tR(hx:ar T x=some v)(hl:v.cells=l):OpDoes P T H nx ⟨d,.box t x,ty,pos,af,gd⟩ (.val (.ptr nx 0),H.set nx (am t l),nx+1):=by
 refine kL ?_
 unfold fZ
 simp only [hx,hl]
theorem iz{t:TypeId}: ∀ (vs l:List SV) (o:Nat),o+vs.length≤l.length→cq vs=true→(am t l).setCells o vs=some (am t (l.take o ++ vs ++ l.drop (o+vs.length)))
 | [],l,o,h,_=>by simp [VO.setCells]
 | v :: vs,l,o,h,h1=>by
   simp only [cq,Ek] at h1
   simp only [Ep] at h
   have hset:(am t l).setCell o v=some (am t (l.set o v)):=by
    simp only [am,VO.setCell]
    rw [show Nat.blt o l.length=true from D9 (by omega),h1.1]
    simp only [Bool.and_self,cond_true,D2,VO.cells.injEq,List.length_set,true_and]
    funext i
    simp only [fw,Tr.set]
    rw [List.getElem?_set]
    by_cases hi:o=i
    ·subst hi
     rw [Ez rfl,Ez (by omega),Nat.beq_refl]
     rfl
    ·rw [Ey hi,show Nat.beq i o=false from by cases hb:Nat.beq i o with|false=>rfl|true=>exact absurd (EO hb).symm hi]
     rfl
   simp only [VO.setCells,hset]
   rw [iz vs (l.set o v) (o+1) (by rw [List.length_set];omega) h1.2]
   simp only [D2]
   congr 1
   have e1:(l.set o v).take (o+1)=l.take o ++ [v]:=by
    rw [List.take_set,List.set_eq_take_append_cons_drop,Ez (by rw [EC];omega),List.take_take,Nat.min_eq_left (by omega),List.drop_eq_nil_of_le (by rw [EC];omega)]
   have e2:(l.set o v).drop (o+1+vs.length)=l.drop (o+(vs.length+1)):=by
    rw [List.drop_set_of_lt (by omega)]
    congr 1
    omega
   rw [e1,e2]
   simp
theorem gT{a:Operand}{bt:TypeId}{vs:List SV}(hs:bw P t=some n)(ha:ar T a=some (.ptr b o))(hx:ar T x=some v)(hv:v.cells=vs)(hb:H.at' b=some (am bt l))(hn:vs.length=n)(ho:o+n≤l.length)
 (h1:cq vs=true):OpDoes P T H nx ⟨d,.store t a x,ty,pos,af,gd⟩ (.skip,H.set b (am bt (l.take o ++ vs ++ l.drop (o+n))),nx):=by
 refine kL ?_
 subst hn
 unfold fZ
 simp only [ha,hx,hv,qq,hs,Nat.beq_refl,cond_true,eT,hb,iz vs l o ho h1]
theorem qJ{a:Operand}{bt:TypeId}(hs:bw P t=some 1)(ha:ar T a=some (.ptr b o))(hx:ar T x=some v)(hb:H.at' b=some (am bt l))(h1:v.one=true)(ho:o<l.length) :
 OpDoes P T H nx ⟨d,.store t a x,ty,pos,af,gd⟩ (.skip,H.set b (am bt (l.set o v)),nx):=by
 have hv:v.cells= [v]:=by
  cases v with
  | sc c=>cases c <;> first|rfl|(simp [SV.one] at h1)
  | agg l=>simp [SV.one] at h1
  | _=>rfl
 have:=gT (d:=d) (ty:=ty) (pos:=pos) (af:=af) (gd:=gd) (nx:=nx) hs ha hx hv hb rfl (by omega) (by simp [cq,h1])
 rw [List.set_eq_take_append_cons_drop,Ez ho]
 simpa using this
theorem cY{o:Oper}{v:Value}(h: ∀ ev w,(∀ x s,ar T x=some s→ ∀ u,s = .sc u→ev x=u)→(execOp ev o).run P w = .ok (.value v) w):ReadDoes P T H o (.sc v):=by
 intro K w0 e nx w ev hS hE
 refine⟨v,rfl,h ev w (fun x s hs u hu=>?_)⟩
 subst hu
 have:=hE x _ hs
 simpa [SV.conc] using this.symm
theorem ak{b:Int}(hx:ar T x=some (.sc (.int k a)))(hy:ar T y=some (.sc (.int k b)))(hop:op = .add∧c=k.wrap (a+b)∨op = .sub∧c=k.wrap (a-b)∨op = .mul∧c=k.wrap (a*b)) :
 ReadDoes P T H ⟨d,.binOp op t x y yt,ty,pos,af,gd⟩ (.sc (.int k c)):=by
 refine cY fun ev w he=>?_
 have e1:=he x _ hx _ rfl
 have e2:=he y _ hy _ rfl
 rcases hop with ⟨rfl,rfl⟩|⟨rfl,rfl⟩|⟨rfl,rfl⟩ <;> simp [execOp,e1,e2,eqGuard,binOp,Op.intArith]
theorem ct{b:Int}{c:Bool}(hx:ar T x=some (.sc (.int k a)))(hy:ar T y=some (.sc (.int k b)))
 (hop:op = .eql∧c=(a == b)∨op = .neq∧c=(a != b)∨op = .lss∧c=decide (a<b)∨op = .leq∧c=decide (a≤b)∨op = .gtr∧c=decide (a>b)∨op = .geq∧c=decide (a≥b)) :
 ReadDoes P T H ⟨d,.binOp op t x y yt,ty,pos,af,gd⟩ (.sc (.bool c)):=by
 refine cY fun ev w he=>?_
 have e1:=he x _ hx _ rfl
 have e2:=he y _ hy _ rfl
 rcases hop with ⟨rfl,rfl⟩|⟨rfl,rfl⟩|⟨rfl,rfl⟩|⟨rfl,rfl⟩|⟨rfl,rfl⟩|⟨rfl,rfl⟩ <;> simp [execOp,e1,e2,eqGuard,binOp,Op.intCmp]
theorem Dg{b:Bool}(hx:ar T x=some (.sc (.bool b))):ReadDoes P T H ⟨d,.unOp .not t x,ty,pos,af,gd⟩ (.sc (.bool (!b))):=by
 refine cY fun ev w he=>?_
 have e1:=he x _ hx _ rfl
 simp [execOp,e1,Op.unary]
theorem ii{b:Int}(hx:ar T x=some (.sc (.int k a)))(hy:ar T y=some (.sc (.int k b)))(h0:b≠0)(hc:k.wrap (a.tdiv b)=c) :
 ReadDoes P T H ⟨d,.binOp .quo t x y yt,ty,pos,af,gd⟩ (.sc (.int k c)):=by
 refine cY fun ev w he=>?_
 have e1:=he x _ hx _ rfl
 have e2:=he y _ hy _ rfl
 subst hc
 simp [execOp,e1,e2,eqGuard,binOp,Op.intDiv,h0]
def yr(op:BinOp)(k:IntKind)(a b:Int):Int:=match op with
 | .and=>k.wrap (BitVec.ofInt k.bits a &&& BitVec.ofInt k.bits b).toNat
 | .or=>k.wrap (BitVec.ofInt k.bits a ||| BitVec.ofInt k.bits b).toNat
 | .xor=>k.wrap (BitVec.ofInt k.bits a ^^^ BitVec.ofInt k.bits b).toNat
 | _=>k.wrap (BitVec.ofInt k.bits a &&& ~~~(BitVec.ofInt k.bits b)).toNat
theorem kZ{b:Int}(hx:ar T x=some (.sc (.int k a)))(hy:ar T y=some (.sc (.int k b)))(ho:op = .and∨op = .or∨op = .xor∨op = .andNot)(hc:yr op k a b=c) :
 ReadDoes P T H ⟨d,.binOp op t x y yt,ty,pos,af,gd⟩ (.sc (.int k c)):=by
 refine cY fun ev w he=>?_
 have e1:=he x _ hx _ rfl
 have e2:=he y _ hy _ rfl
 subst hc
 rcases ho with rfl|rfl|rfl|rfl <;> simp [execOp,e1,e2,eqGuard,binOp,Op.intBits,yr]
theorem tF{b:Int}(hx:ar T x=some (.sc (.int k a)))(hy:ar T y=some (.sc (.int k2 b)))(h0:0≤b)(hc:k.wrap (a*2 ^ (min b.toNat k.bits))=c) :
 ReadDoes P T H ⟨d,.binOp .shl t x y yt,ty,pos,af,gd⟩ (.sc (.int k c)):=by
 refine cY fun ev w he=>?_
 have e1:=he x _ hx _ rfl
 have e2:=he y _ hy _ rfl
 subst hc
 have h1: ¬ b<0:=by omega
 simp [execOp,e1,e2,eqGuard,binOp,Op.shift,h1]
theorem qz{b:Int}(hx:ar T x=some (.sc (.int k a)))(hy:ar T y=some (.sc (.int k2 b)))(h0:0≤b)(hc:a.fdiv (2 ^ (min b.toNat k.bits))=c) :
 ReadDoes P T H ⟨d,.binOp .shr t x y yt,ty,pos,af,gd⟩ (.sc (.int k c)):=by
 refine cY fun ev w he=>?_
 have e1:=he x _ hx _ rfl
 have e2:=he y _ hy _ rfl
 subst hc
 have h1: ¬ b<0:=by omega
 simp [execOp,e1,e2,eqGuard,binOp,Op.shift,h1]
theorem cG{s:TypeId}{su:TypeDesc}(hs:P.underlying s=some su)(hu:P.underlying t=some (.int k))(hx:ar T x=some (.sc (.int k2 a)))(hc:k.wrap a=c) :
 ReadDoes P T H ⟨d,.convert s t x,ty,pos,af,gd⟩ (.sc (.int k c)):=by
 refine cY fun ev w he=>?_
 have e1:=he x _ hx _ rfl
 subst hc
 simp [execOp,e1,convert,run_underlying hs,run_underlying hu,Conv.intToInt]
def AG(P:Program)(t:TypeId):Option (List (Nat×Nat)):=match P.underlying t with
 | some (.struct fields)=>lL P fields.toList
 | _=>none
theorem eH{parts:List (Nat×Operand)}{ps:List (Nat×SV)}{pl:List (Nat×Nat)}{z:Value}{cs:List SV}(hp:l6 T parts=some ps)(hz:dY P t=some z)(hl:AG P t=some pl)(hf:hJ (fun i=>pl[i]?) (z.cells.toList.map .sc) ps=some cs) :
 ReadDoes P T H ⟨d,.build t parts.toArray,ty,pos,af,gd⟩ (.agg cs):=by
 refine fj ?_
 unfold AG at hl
 cases hu:P.underlying t with
 | none=>rw [hu] at hl;cases hl
 | some u=>
   rw [hu] at hl
   cases u with
   | struct fields=>simp only [cS,hp,Eu,lR,hz,hu,hl,hf,Et]
   | _=>cases hl
theorem tG{e:TypeId}{eo:Nat}(hu:P.underlying t=some (.slice e))(hx:ar T x=some (.slu b eo n)):ReadDoes P T H ⟨d,.call {callee:= .builtin .len,args:= #[x],argTypes:= #[t]},ty,pos,af,gd⟩ (.sc (.int .i64 n)):=by
 refine fj ?_
 simp only [cS,pE,hx,Eu,AN,hu]
theorem wI{s:ByteArray}(hu:P.underlying t=some .string)(hx:ar T x=some (.sc (.string s))):ReadDoes P T H ⟨d,.call {callee:= .builtin .len,args:= #[x],argTypes:= #[t]},ty,pos,af,gd⟩ (.sc (.int .i64 s.size)):=by
 refine cY fun ev w he=>?_
 have e1:=he x _ hx _ rfl
 simp [execOp,resolve,invoke,builtin,e1,Builtin.len_,run_underlying hu,goInt]
def dat(ro:Bool)(ne sz:Nat)(t:TypeId)(vs:List Value):VO:= .row ro ne sz t (fun i=>(vs[i]?).map .sc)
theorem dw(ρ:Nat→Nat)(ro:Bool)(ne sz:Nat)(t:TypeId)(vs:List Value):(dat ro ne sz t vs).ren ρ=dat ro ne sz t vs:=by
 show VO.row ro ne sz t (vG ρ _)=VO.row ro ne sz t _
 congr 1
 funext i
 show((vs[i]?).map SV.sc).map (SV.ren ρ)=(vs[i]?).map SV.sc
 cases vs[i]? <;> rfl
theorem pc(ρ:Nat→Nat)(t:TypeId)(l:List SV):(am t l).ren ρ=am t (SV.gJ ρ l):=by
 rw [SV.nz]
 simp only [am,VO.ren,ED]
 congr 1
 funext i
 show((l[i]?).map (SV.ren ρ))=(l.map (SV.ren ρ))[i]?
 rw [EP]
theorem jn{vs:List Value}{i:Nat}{v:Value}(hi:i<ne*sz)(hv:vs[i]? =some v):(dat ro ne sz t vs).cell i=some (.sc v):=by
 simp only [dat,VO.cell,Tr.at',hv,Et]
 rw [show Nat.blt i (ne*sz)=true from D9 hi]
 rfl
theorem dM{ro:Bool}{ne sz:Nat}{t:TypeId}{vs:List Value}: ∀ (n o:Nat) {us:List Value},(vs.drop o).take n=us→us.length=n→o+n≤ne*sz→(dat ro ne sz t vs).cellsFrom o n=some (us.map .sc)
 | 0,o,us,h,hn,_=>by
   have:us= []:=Eh hn
   subst this
   rfl
 | n+1,o,us,h,hn,hl=>by
   cases hd:vs.drop o with
   | nil=>rw [hd] at h;subst h;simp at hn
   | cons x r=>
     rw [hd] at h
     simp only [List.take_succ_cons] at h
     subst h
     have hx:vs[o]? =some x:=by
      have:=congrArg List.head? hd
      simpa using this
     have hr:vs.drop (o+1)=r:=by
      have:=congrArg List.tail hd
      simpa using this
     simp only [VO.cellsFrom,jn (ro:=ro) (t:=t) (sz:=sz) (show o<ne*sz by omega) hx]
     rw [dM n (o+1) (us:=r.take n) (by rw [hr]) (by simpa using hn) (by omega)]
     rfl
theorem gg{e:TypeId}{eo:Nat}{i:Int}{rt:TypeId}{c:Tr SV}(hu:P.underlying t=some (.slice e))(hs:bw P e=some sz)(hx:ar T x=some (.slu b eo n))(hy:ar T y=some (.sc (.int k i)))
 (hb:H.at' b=some (.row ro ne sz rt c)) (h0:0≤i) (hi:i<n) (hne:eo+n≤ne):ReadDoes P T H ⟨d,.indexAddr t x y,ty,pos,af,gd⟩ (.ptr b ((eo+i.toNat)*sz)):=by
 refine fj ?_
 obtain⟨j,rfl⟩:=Int.eq_ofNat_of_zero_le h0
 have hj:j<n:=by omega
 simp only [cS,zD,hx,hy,Eu,dk,hu,hs,hb,Nat.beq_refl,EQ]
 rw [show Nat.ble (eo+n) ne=true from D9 hne,show Nat.blt j n=true from D9 hj]
 rfl
end
end
def OkAll{A:Type}(p:Nat→A→Prop):Nat→List (Option A)→Prop
 | _,[]=>True
 | i,none :: l=>OkAll p (i+1) l
 | i,some x :: l=>p i x∧OkAll p (i+1) l
theorem OkAll.get{A:Type}{p:Nat→A→Prop}: ∀ {l:List (Option A)} {k:Nat},OkAll p k l→ ∀ {i:Nat} {x:A},l[i]? =some (some x)→p (k+i) x
 | [],k,_,i,x,h=>by simp at h
 | none :: l,k,hh,i,x,h=>by
   cases i with
   | zero=>simp at h
   | succ i=>rw [show k+(i+1)=k+1+i by omega];exact OkAll.get (l:=l) (k:=k+1) hh (by simpa using h)
 | some y :: l,k,hh,i,x,h=>by
   cases i with
   | zero=>simp only [Ej,D2] at h;subst h;exact hh.1
   | succ i=>rw [show k+(i+1)=k+1+i by omega];exact OkAll.get (l:=l) (k:=k+1) hh.2 (by simpa using h)
def OkL{A:Type}(p:Nat→A→Prop):Nat→List A→Prop
 | _,[]=>True
 | i,x :: l=>p i x∧OkL p (i+1) l
theorem OkL.get{A:Type}{p:Nat→A→Prop}: ∀ {l:List A} {k:Nat},OkL p k l→ ∀ {i:Nat} {x:A},l[i]? =some x→p (k+i) x
 | [],k,_,i,x,h=>by simp at h
 | y :: l,k,hh,i,x,h=>by
   cases i with
   | zero=>simp only [Ej,D2] at h;subst h;exact hh.1
   | succ i=>rw [show k+(i+1)=k+1+i by omega];exact OkL.get (l:=l) (k:=k+1) hh.2 (by simpa using h)
inductive LoadIs (P:Program) (H:aw) (t:TypeId) (b o:Nat):SV→Prop
 | one {vo:VO} {v:SV} (ha:bT P t=some none) (hb:H.at' b=some vo) (hv:vo.cell o=some v):LoadIs P H t b o v
 | many {n:Nat} {vo:VO} {l:List SV} (ha:bT P t=some (some n)) (hb:H.at' b=some vo) (hv:vo.cellsFrom o n=some l):LoadIs P H t b o (.agg l)
theorem E7:type_of% @LoadIs.one:=@LoadIs.one
theorem E6:type_of% @LoadIs.many:=@LoadIs.many
inductive ResIs (P:Program) (H:aw) (T:Tr SV):List ResultVar→List SV→Prop
 | nil:ResIs P H T [] []
 | tmp {t:Tmp} {l:List ResultVar} {v:SV} {vs:List SV} (hv:T.at' t=some v) (h:ResIs P H T l vs):ResIs P H T (.tmp t :: l) (v :: vs)
 | cell {a:Tmp} {t:TypeId} {b o:Nat} {l:List ResultVar} {v:SV} {vs:List SV} (ha:T.at' a=some (.ptr b o)) (hv:LoadIs P H t b o v) (h:ResIs P H T l vs):ResIs P H T (.cell a t :: l) (v :: vs)
theorem E5:type_of% @ResIs.tmp:=@ResIs.tmp
theorem E4:type_of% @ResIs.cell:=@ResIs.cell
theorem E3:type_of% @ResIs.nil:=@ResIs.nil
theorem ResIs.res{P:Program}{H:aw}{T:Tr SV}{l:List ResultVar}{vs:List SV}(h:ResIs P H T l vs):o9 P H T l=some vs:=by
 induction h with
 | nil=>rfl
 | tmp hv _ ih=>simp only [o9,hv,ih]
 | cell ha hv _ ih=>
   cases hv with
   | one hag hb hv=>simp only [o9,ha,hb,hag,hv,ih]
   | many hag hb hv=>simp only [o9,ha,hb,hag,hv,ih]
section
variable {P:Program} {ro:Option Nat} {fn nt nx:Nat} {T:Tr SV} {k:List AIt} {dfs:List ADf} {H:aw} {Q:Pst} {ops:Array Oper} {i:Nat} {l:List Oper} {d:Option Tmp} {ty:TypeId} {pos:String} {af:Array Edge} {gd:Option (Nat×Bool)}
section
variable {op:Op}{v:SV}{a b:Int}{dd n o:Nat}{F:Func}{bt t yt:TypeId}{args cs:List SV}{kd:IntKind}{vs:List SV}{x y:Operand}
theorem Fnc.start{f:FuncId}{F:Func}{args:List SV}{c:Code}{n:Nat}(hf:P.funcs[f]? =some F)(hb:F.body=some c)(hn:F.ntmps=n)(h:Wp P none ⟨f,max args.length n,il .nil 0 args,[.code c],[],H,nx⟩ Q):Fnc P f args H nx Q:=
 .enter (by simp only [rM,hf,hb]) (by simp only [BS,hf,hn]) h
theorem E2:type_of% @Fnc.start:=@Fnc.start
theorem bv{rl:List ResultVar}(hf:P.funcs[fn]? =some F)(hl:F.results.toList=rl)(hv:ResIs P H T rl vs)(h:Q (fv vs,H,nx)):Wp P none ⟨fn,nt,T,.code .ret :: k,[],H,nx⟩ Q:=
 y_ret (by simp only [eG,hf,hl]) hv.res h
theorem jF{rl:List ResultVar}(hf:P.funcs[fn]? =some F)(hl:F.results.toList=rl)(hv:ResIs P H T rl vs)(h:Q (fv vs,H,nx)):Wp P none ⟨fn,nt,T,[],[],H,nx⟩ Q:=
 y_end (by simp only [eG,hf,hl]) hv.res h
theorem dR(h1:0≤a)(h2:a≤9223372036854775807)(h3:0<b):IntKind.i64.wrap (a.tdiv b)=a / b:=by
 rw [Int.tdiv_eq_ediv_of_nonneg h1]
 exact D3 _ ⟨Int.le_trans (by decide) (Int.ediv_nonneg h1 (by omega)),Int.le_trans (Int.ediv_le_self _ h1) h2⟩
theorem aK{d:Tmp}(h:Nat.blt d nt=true):k9 nt T (some d) v=T.set d v:=by simp only [k9,h,cond_true]
def ndf:Op→Bool
 | .defer _=>false
 | _=>true
theorem oe(h:ndf op=true): ∀ c,op ≠ .defer c:=fun c he=>by
 subst he
 cases h
theorem bN(hr:ReadDoes P T H ⟨some dd,op,ty,pos,af,gd⟩ v)(hw:aD T ops ⟨some dd,op,ty,pos,af,gd⟩=some true)(hd:Nat.blt dd nt=true)(hn:ndf op=true)(h:Wp P ro ⟨fn,nt,T.set dd v,.inReg ops (i+1) l :: k,dfs,H,nx⟩ Q) :
 Wp P ro ⟨fn,nt,T,.inReg ops i (⟨some dd,op,ty,pos,af,gd⟩ :: l) :: k,dfs,H,nx⟩ Q:=dZ hw (.inr (oe hn)) hr.does (by rw [aK hd];exact h)
theorem eR{H':aw}{nx':Nat}(hr:OpDoes P T H nx ⟨some dd,op,ty,pos,af,gd⟩ (.val v,H',nx'))(hw:aD T ops ⟨some dd,op,ty,pos,af,gd⟩=some true)(hd:Nat.blt dd nt=true)(hn:ndf op=true)(h:Wp P ro ⟨fn,nt,T.set dd v,.inReg ops (i+1) l :: k,dfs,H',nx'⟩ Q) :
 Wp P ro ⟨fn,nt,T,.inReg ops i (⟨some dd,op,ty,pos,af,gd⟩ :: l) :: k,dfs,H,nx⟩ Q:=dZ hw (.inr (oe hn)) hr (by rw [aK hd];exact h)
theorem w_nn{H':aw}{nx':Nat}(hr:OpDoes P T H nx ⟨none,op,ty,pos,af,gd⟩ (.skip,H',nx'))(hw:aD T ops ⟨none,op,ty,pos,af,gd⟩=some true)(hn:ndf op=true)(h:Wp P ro ⟨fn,nt,T,.inReg ops (i+1) l :: k,dfs,H',nx'⟩ Q) :
 Wp P ro ⟨fn,nt,T,.inReg ops i (⟨none,op,ty,pos,af,gd⟩ :: l) :: k,dfs,H,nx⟩ Q:=qg hw (.inr (oe hn)) hr h
theorem aZ{b:Nat}(hw:aD T ops ⟨some dd,.load t x,ty,pos,af,gd⟩=some true)(hd:Nat.blt dd nt=true)(hx:ar T x=some (.ptr b o))(ha:bT P t=some none)(hb:H.at' b=some (am bt cs))(hv:cs[o]? =some v)
 (h:Wp P ro ⟨fn,nt,T.set dd v,.inReg ops (i+1) l :: k,dfs,H,nx⟩ Q):Wp P ro ⟨fn,nt,T,.inReg ops i (⟨some dd,.load t x,ty,pos,af,gd⟩ :: l) :: k,dfs,H,nx⟩ Q:=
 dZ hw (.inr (fun _ h=>by cases h)) ((aI ha hx hb (aE hv)).does) (by rw [aK hd];exact h)
theorem dO{b:Nat}{vo:VO}(hw:aD T ops ⟨some dd,.load t x,ty,pos,af,gd⟩=some true)(hd:Nat.blt dd nt=true)(hx:ar T x=some (.ptr b o))(ha:bT P t=some (some n))(hb:H.at' b=some vo)(hv:vo.cellsFrom o n=some cs)
 (h:Wp P ro ⟨fn,nt,T.set dd (.agg cs),.inReg ops (i+1) l :: k,dfs,H,nx⟩ Q):Wp P ro ⟨fn,nt,T,.inReg ops i (⟨some dd,.load t x,ty,pos,af,gd⟩ :: l) :: k,dfs,H,nx⟩ Q:=
 dZ hw (.inr (fun _ h=>by cases h)) ((bA ha hx hb hv).does) (by rw [aK hd];exact h)
theorem jZ{b:Nat}(hw:aD T ops ⟨some dd,.load t x,ty,pos,af,gd⟩=some true)(hd:Nat.blt dd nt=true)(hx:ar T x=some (.ptr b 0))(ha:bT P t=some (some n))(hb:H.at' b=some (am bt cs))(hn:cs.length=n)
 (h:Wp P ro ⟨fn,nt,T.set dd (.agg cs),.inReg ops (i+1) l :: k,dfs,H,nx⟩ Q):Wp P ro ⟨fn,nt,T,.inReg ops i (⟨some dd,.load t x,ty,pos,af,gd⟩ :: l) :: k,dfs,H,nx⟩ Q:=
 dZ hw (.inr (fun _ h=>by cases h)) ((bA ha hx hb (aH n 0 (by subst hn;simp) hn)).does) (by rw [aK hd];exact h)
theorem cJ{a:Operand}{b:Nat}(hw:aD T ops ⟨none,.store t a x,ty,pos,af,gd⟩=some true)(ha:ar T a=some (.ptr b o))(hx:ar T x=some v)(hs:bw P t=some 1)(hb:H.at' b=some (am bt cs))(h1:v.one=true)(ho:Nat.blt o cs.length=true)
 (h:Wp P ro ⟨fn,nt,T,.inReg ops (i+1) l :: k,dfs,(H.set b (am bt (cs.set o v))),nx⟩ Q):Wp P ro ⟨fn,nt,T,.inReg ops i (⟨none,.store t a x,ty,pos,af,gd⟩ :: l) :: k,dfs,H,nx⟩ Q:=
 qg hw (.inr (fun _ h=>by cases h)) (qJ hs ha hx hb h1 (D7 ho)) h
theorem dp{a:Operand}{b:Nat}{cs':List SV}(hw:aD T ops ⟨none,.store t a x,ty,pos,af,gd⟩=some true)(ha:ar T a=some (.ptr b o))(hx:ar T x=some (.agg vs))(hs:bw P t=some n)(hb:H.at' b=some (am bt cs))(hn:vs.length=n)(ho:o+n≤cs.length)(h1:cq vs=true)(hc:cs.take o ++ vs ++ cs.drop (o+n)=cs')
 (h:Wp P ro ⟨fn,nt,T,.inReg ops (i+1) l :: k,dfs,(H.set b (am bt cs')),nx⟩ Q):Wp P ro ⟨fn,nt,T,.inReg ops i (⟨none,.store t a x,ty,pos,af,gd⟩ :: l) :: k,dfs,H,nx⟩ Q:=
 qg hw (.inr (fun _ h=>by cases h)) (hc ▸ gT hs ha hx rfl hb hn ho h1) h
theorem cE(hw:aD T ops ⟨some dd,.binOp .eql t x y yt,ty,pos,af,gd⟩=some true)(hd:Nat.blt dd nt=true)(hx:ar T x=some (.sc (.int kd a)))(hy:ar T y=some (.sc (.int kd b)))
 (h1:a=b→Wp P ro ⟨fn,nt,T.set dd (.sc (.bool true)),.inReg ops (i+1) l :: k,dfs,H,nx⟩ Q) (h2:a≠b→Wp P ro ⟨fn,nt,T.set dd (.sc (.bool false)),.inReg ops (i+1) l :: k,dfs,H,nx⟩ Q) :
 Wp P ro ⟨fn,nt,T,.inReg ops i (⟨some dd,.binOp .eql t x y yt,ty,pos,af,gd⟩ :: l) :: k,dfs,H,nx⟩ Q:=by
 refine bN (ct hx hy (.inl ⟨rfl,rfl⟩)) hw hd rfl ?_
 by_cases hc:a=b
 ·have e:(a == b)=true:=by simp;omega
  rw [e];exact h1 hc
 ·have e:(a == b)=false:=by simp;omega
  rw [e];exact h2 (by omega)
theorem ga(hw:aD T ops ⟨some dd,.binOp .neq t x y yt,ty,pos,af,gd⟩=some true)(hd:Nat.blt dd nt=true)(hx:ar T x=some (.sc (.int kd a)))(hy:ar T y=some (.sc (.int kd b)))
 (h1:a≠b→Wp P ro ⟨fn,nt,T.set dd (.sc (.bool true)),.inReg ops (i+1) l :: k,dfs,H,nx⟩ Q) (h2:a=b→Wp P ro ⟨fn,nt,T.set dd (.sc (.bool false)),.inReg ops (i+1) l :: k,dfs,H,nx⟩ Q) :
 Wp P ro ⟨fn,nt,T,.inReg ops i (⟨some dd,.binOp .neq t x y yt,ty,pos,af,gd⟩ :: l) :: k,dfs,H,nx⟩ Q:=by
 refine bN (ct hx hy (.inr (.inl ⟨rfl,rfl⟩))) hw hd rfl ?_
 by_cases hc:a≠b
 ·have e:(a != b)=true:=by simp;omega
  rw [e];exact h1 hc
 ·have e:(a != b)=false:=by simp;omega
  rw [e];exact h2 (by omega)
theorem bm(hw:aD T ops ⟨some dd,.binOp .lss t x y yt,ty,pos,af,gd⟩=some true)(hd:Nat.blt dd nt=true)(hx:ar T x=some (.sc (.int kd a)))(hy:ar T y=some (.sc (.int kd b)))
 (h1:a<b→Wp P ro ⟨fn,nt,T.set dd (.sc (.bool true)),.inReg ops (i+1) l :: k,dfs,H,nx⟩ Q) (h2:b≤a→Wp P ro ⟨fn,nt,T.set dd (.sc (.bool false)),.inReg ops (i+1) l :: k,dfs,H,nx⟩ Q) :
 Wp P ro ⟨fn,nt,T,.inReg ops i (⟨some dd,.binOp .lss t x y yt,ty,pos,af,gd⟩ :: l) :: k,dfs,H,nx⟩ Q:=by
 refine bN (ct hx hy (.inr (.inr (.inl ⟨rfl,rfl⟩)))) hw hd rfl ?_
 by_cases hc:a<b
 ·have e:(decide (a<b))=true:=by simp;omega
  rw [e];exact h1 hc
 ·have e:(decide (a<b))=false:=by simp;omega
  rw [e];exact h2 (by omega)
theorem my(hw:aD T ops ⟨some dd,.binOp .leq t x y yt,ty,pos,af,gd⟩=some true)(hd:Nat.blt dd nt=true)(hx:ar T x=some (.sc (.int kd a)))(hy:ar T y=some (.sc (.int kd b)))
 (h1:a≤b→Wp P ro ⟨fn,nt,T.set dd (.sc (.bool true)),.inReg ops (i+1) l :: k,dfs,H,nx⟩ Q) (h2:b<a→Wp P ro ⟨fn,nt,T.set dd (.sc (.bool false)),.inReg ops (i+1) l :: k,dfs,H,nx⟩ Q) :
 Wp P ro ⟨fn,nt,T,.inReg ops i (⟨some dd,.binOp .leq t x y yt,ty,pos,af,gd⟩ :: l) :: k,dfs,H,nx⟩ Q:=by
 refine bN (ct hx hy (.inr (.inr (.inr (.inl ⟨rfl,rfl⟩))))) hw hd rfl ?_
 by_cases hc:a≤b
 ·have e:(decide (a≤b))=true:=by simp;omega
  rw [e];exact h1 hc
 ·have e:(decide (a≤b))=false:=by simp;omega
  rw [e];exact h2 (by omega)
theorem dS(hw:aD T ops ⟨some dd,.binOp .gtr t x y yt,ty,pos,af,gd⟩=some true)(hd:Nat.blt dd nt=true)(hx:ar T x=some (.sc (.int kd a)))(hy:ar T y=some (.sc (.int kd b)))
 (h1:b<a→Wp P ro ⟨fn,nt,T.set dd (.sc (.bool true)),.inReg ops (i+1) l :: k,dfs,H,nx⟩ Q) (h2:a≤b→Wp P ro ⟨fn,nt,T.set dd (.sc (.bool false)),.inReg ops (i+1) l :: k,dfs,H,nx⟩ Q) :
 Wp P ro ⟨fn,nt,T,.inReg ops i (⟨some dd,.binOp .gtr t x y yt,ty,pos,af,gd⟩ :: l) :: k,dfs,H,nx⟩ Q:=by
 refine bN (ct hx hy (.inr (.inr (.inr (.inr (.inl ⟨rfl,rfl⟩)))))) hw hd rfl ?_
 by_cases hc:b<a
 ·have e:(decide (a>b))=true:=by simp;omega
  rw [e];exact h1 hc
 ·have e:(decide (a>b))=false:=by simp;omega
  rw [e];exact h2 (by omega)
theorem cD(hw:aD T ops ⟨some dd,.binOp .geq t x y yt,ty,pos,af,gd⟩=some true)(hd:Nat.blt dd nt=true)(hx:ar T x=some (.sc (.int kd a)))(hy:ar T y=some (.sc (.int kd b)))
 (h1:b≤a→Wp P ro ⟨fn,nt,T.set dd (.sc (.bool true)),.inReg ops (i+1) l :: k,dfs,H,nx⟩ Q) (h2:a<b→Wp P ro ⟨fn,nt,T.set dd (.sc (.bool false)),.inReg ops (i+1) l :: k,dfs,H,nx⟩ Q) :
 Wp P ro ⟨fn,nt,T,.inReg ops i (⟨some dd,.binOp .geq t x y yt,ty,pos,af,gd⟩ :: l) :: k,dfs,H,nx⟩ Q:=by
 refine bN (ct hx hy (.inr (.inr (.inr (.inr (.inr (⟨rfl,rfl⟩))))))) hw hd rfl ?_
 by_cases hc:b≤a
 ·have e:(decide (a≥b))=true:=by simp;omega
  rw [e];exact h1 hc
 ·have e:(decide (a≥b))=false:=by simp;omega
  rw [e];exact h2 (by omega)
theorem aL{g:FuncId}{as1:List Operand}{ats:Array TypeId}(hw:aD T ops ⟨some dd,.call {callee:= .value (.func g),args:=as1.toArray,argTypes:=ats},ty,pos,af,gd⟩=some true)(hd:Nat.blt dd nt=true)(ha:dh T as1=some args)(hm:bB P g=true)
 (h:Fnc P g args H nx (fun r=>Wp P ro ⟨fn,nt,T.set dd r.1,.inReg ops (i+1) l :: k,dfs,r.2.1,r.2.2⟩ Q)) :
 Wp P ro ⟨fn,nt,T,.inReg ops i (⟨some dd,.call {callee:= .value (.func g),args:=as1.toArray,argTypes:=ats},ty,pos,af,gd⟩ :: l) :: k,dfs,H,nx⟩ Q:=by
 refine th hw (args:=args) ?_ (by simp only [aK hd];exact h)
 simp only [bE,ha,ar,da,hm,cond_true,List.map_nil,List.nil_append,EM]
theorem jG{g:FuncId}{fa fb:List SV}{as1:List Operand}{ats:Array TypeId}(hw:aD T ops ⟨some dd,.call {callee:= .value x,args:=as1.toArray,argTypes:=ats},ty,pos,af,gd⟩=some true)(hd:Nat.blt dd nt=true)(hx:ar T x=some (.fn (.func g) fa fb))(ha:dh T as1=some args)(hm:bB P g=true)
 (h:Fnc P g (fa ++ args ++ fb) H nx (fun r=>Wp P ro ⟨fn,nt,T.set dd r.1,.inReg ops (i+1) l :: k,dfs,r.2.1,r.2.2⟩ Q)) :
 Wp P ro ⟨fn,nt,T,.inReg ops i (⟨some dd,.call {callee:= .value x,args:=as1.toArray,argTypes:=ats},ty,pos,af,gd⟩ :: l) :: k,dfs,H,nx⟩ Q:=by
 refine th hw (args:=fa ++ args ++ fb) ?_ (by simp only [aK hd];exact h)
 simp only [bE,ha,hx,da,hm,cond_true]
end
end
end Go.Sy
end
section
namespace Go.Proofs.YtelnglhodnoclaaGreat
open Go Go.Sy
namespace F
def chk{A:Type}(f:Nat→Option A):Nat→List (Option A)→List (Option A)
 | _,[]=> []
 | i,none :: l=>none :: chk f (i+1) l
 | i,some _ :: l=>f i :: chk f (i+1) l
theorem iQ{A:Type}{f:Nat→Option A}: ∀ {l:List (Option A)} {k:Nat},chk f k l=l→ ∀ {i:Nat} {x:A},l[i]? =some (some x)→f (k+i)=some x
 | none :: l,k,h,0,x,hx=>by simp at hx
 | some y :: l,k,h,0,x,hx=>by
   simp only [chk,List.cons.injEq] at h
   rw [Nat.add_zero,h.1]
   simpa using hx
 | none :: l,k,h,i+1,x,hx=>by
   simp only [chk,List.cons.injEq] at h
   rw [show k+(i+1)=k+1+i by omega]
   exact iQ h.2 (by simpa using hx)
 | some y :: l,k,h,i+1,x,hx=>by
   simp only [chk,List.cons.injEq] at h
   rw [show k+(i+1)=k+1+i by omega]
   exact iQ h.2 (by simpa using hx)
def CJ(f:Nat→Option Nat):Nat→List Nat→List (Option Nat)
 | _,[]=> []
 | k,_ :: l=>f k :: CJ f (k+1) l
theorem ux{f:Nat→Option Nat}: ∀ {l:List Nat} {k:Nat},CJ f k l=l.map some→ ∀ {i x:Nat},l[i]? =some x→f (k+i)=some x
 | y :: l,k,h,0,x,hx=>by
   simp only [CJ,Eo,List.cons.injEq] at h
   rw [Nat.add_zero,h.1]
   simpa using hx
 | y :: l,k,h,i+1,x,hx=>by
   simp only [CJ,Eo,List.cons.injEq] at h
   rw [show k+(i+1)=k+1+i by omega]
   exact ux h.2 (by simpa using hx)
def DR(f:Nat→Nat→Option Nat):Nat→List (Option (List Nat))→Prop
 | _,[]=>True
 | i,none :: l=>DR f (i+1) l
 | i,some r :: l=>CJ (f i) 0 r=r.map some∧DR f (i+1) l
theorem pT{f:Nat→Nat→Option Nat}: ∀ {l:List (Option (List Nat))} {k:Nat},DR f k l→ ∀ {i:Nat} {x:List Nat},l[i]? =some (some x)→CJ (f (k+i)) 0 x=x.map some
 | none :: l,k,h,0,x,hx=>by simp at hx
 | some y :: l,k,h,0,x,hx=>by
   have e:y=x:=by simpa using hx
   subst e
   exact h.1
 | none :: l,k,h,i+1,x,hx=>by
   rw [show k+(i+1)=k+1+i by omega]
   exact pT (l:=l) h (by simpa using hx)
 | some y :: l,k,h,i+1,x,hx=>by
   rw [show k+(i+1)=k+1+i by omega]
   exact pT (l:=l) h.2 (by simpa using hx)
abbrev bh:Option (Nat):=some 1
def szL:List (Option (Nat)):= [bh,bh,bh,bh,bh,bh,bh,some 4,some 4,bh,bh,bh,bh,some 2,some 2,bh,bh,bh,bh,bh,bh,bh,some 2,some 2,some 3,some 3,bh,bh,bh,bh,bh,bh,bh,bh,bh,bh,bh,bh,bh,bh,bh,bh,bh,bh,bh,some 8,some 8,some 1024,some 1024,some 28672,some 28672,bh,some 28675,some 28675,bh,bh,bh,bh,bh,bh,bh,bh,bh,bh,bh,bh,bh,bh,bh,bh,bh,bh,bh,bh,bh,bh,bh,bh,bh,bh,bh,bh,bh,bh,bh,some 1027,some 1027,bh,bh,bh,bh,bh,bh,bh,bh,bh,bh,bh,bh,some 4,some 4,bh,bh,bh,bh,bh,bh,bh,bh,bh,some 5,some 5,bh,bh,bh,bh,bh,bh,bh,bh,bh,some 28,bh,bh,bh,bh,bh,some 4,some 4,bh,bh,bh,bh,bh,bh,bh,bh,bh,bh,bh,bh,bh,bh,bh,bh,bh,bh,bh,some 2,some 2,bh,bh,bh,bh,bh,bh,bh,bh,some 1024,bh,bh,bh,bh,bh,bh,bh,bh,bh,bh,bh,bh,bh,bh,bh,bh,bh,bh,bh,bh,bh,bh,bh,bh,bh,bh,bh,bh,bh,bh,bh,bh,bh,bh,bh,bh,bh,some 4,some 4,some 0,some 0,some 0,bh,bh,bh,bh,bh,bh,bh,some 11,some 11,bh,some 1025,some 1025,bh,bh]
theorem szOk:chk (fun i=>bw Tryz.prog i) 0 szL=szL:=by kernel_rfl
theorem sz(i:Nat){x:Nat}(h:szL[i]? =some (some x)):bw Tryz.prog i=some x:=by
 have:=iQ szOk h
 simpa using this
abbrev bi:Option (Option Nat):=some (none)
abbrev A1:Option (Option Nat):=some ((some 4))
abbrev CK:Option (Option Nat):=some ((some 2))
def agL:List (Option (Option Nat)):= [bi,bi,bi,bi,bi,bi,bi,A1,A1,bi,bi,bi,bi,CK,CK,bi,bi,bi,some ((some 1)),some ((some 1)),bi,bi,CK,CK,some ((some 3)),some ((some 3)),bi,bi,bi,bi,bi,bi,bi,bi,bi,bi,bi,bi,bi,bi,bi,bi,bi,bi,bi,some ((some 8)),some ((some 8)),some ((some 1024)),some ((some 1024)),some ((some 28672)),some ((some 28672)),bi,some ((some 28675)),some ((some 28675)),bi,some ((some 1)),bi,bi,bi,bi,bi,bi,bi,bi,bi,bi,bi,bi,bi,bi,bi,bi,bi,bi,bi,bi,bi,bi,bi,bi,bi,bi,bi,bi,bi,some ((some 1027)),some ((some 1027)),bi,bi,bi,bi,bi,bi,bi,bi,bi,bi,bi,bi,A1,A1,bi,bi,bi,bi,bi,bi,bi,bi,bi,some ((some 5)),some ((some 5)),bi,bi,bi,bi,bi,bi,bi,bi,bi,some ((some 28)),bi,bi,bi,bi,bi,A1,A1,bi,bi,bi,bi,bi,bi,bi,bi,bi,bi,bi,bi,bi,bi,bi,bi,bi,bi,bi,CK,CK,bi,bi,bi,bi,bi,bi,bi,bi,some ((some 1024)),bi,bi,bi,bi,bi,bi,bi,bi,bi,bi,bi,bi,bi,bi,bi,bi,bi,bi,bi,bi,bi,bi,bi,bi,bi,bi,bi,bi,bi,bi,bi,bi,bi,bi,bi,bi,bi,A1,A1,some ((some 0)),some ((some 0)),some ((some 0)),bi,bi,bi,bi,bi,bi,bi,some ((some 11)),some ((some 11)),bi,some ((some 1025)),some ((some 1025)),bi,bi]
theorem agOk:chk (fun i=>bT Tryz.prog i) 0 agL=agL:=by kernel_rfl
theorem ag(i:Nat){x:Option Nat}(h:agL[i]? =some (some x)):bT Tryz.prog i=some x:=by
 have:=iQ agOk h
 simpa using this
abbrev ce:Option (List SV):=some ([.sc (.nilFunc)])
abbrev jp:Option (List SV):=none
abbrev vC:Option (List SV):=some ([.sc (.pointer none)])
abbrev vB:Option (List SV):=some ([.sc (.slice none 0 0)])
abbrev zlQ4:Option (List SV):=some ([.sc (.int .i64 0)])
abbrev zlQ5:Option (List SV):=some ([.sc (.int .u8 0)])
abbrev zlQ6:Option (List SV):=some ([.sc (.int .u64 0)])
abbrev zlQ7:Option (List SV):=some ([.sc (.int .i64 0),.sc (.int .i64 0)])
abbrev zlQ8:Option (List SV):=some ([.sc (.string ⟨#[]⟩)])
abbrev zlQ9:Option (List SV):=some ([.sc (.int .i64 0),.sc (.int .i64 0),.sc (.bool false),.sc (.int .u8 0)])
abbrev CR:Option (List SV):=some ([.sc (.string ⟨#[]⟩),.sc (.int .i64 0),.sc (.int .i64 0)])
abbrev CQ:Option (List SV):=some ([.sc (.bool false),.sc (.string ⟨#[]⟩),.sc (.int .i64 0),.sc (.int .i64 0),.sc (.int .i64 0),.sc (.int .i64 0),.sc (.int .i64 0),.sc (.int .u8 0)])
abbrev CP:Option (List SV):=some ([.sc (.int .i64 0),.sc (.string ⟨#[]⟩),.sc (.int .i64 0),.sc (.int .i64 0)])
abbrev CO:Option (List SV):=some ([.sc (.int .i64 0),.sc (.string ⟨#[]⟩),.sc (.int .i64 0),.sc (.int .i64 0),.sc (.bool false)])
abbrev CN:Option (List SV):=some ([.sc (.string ⟨#[]⟩),.sc (.int .i64 0),.sc (.int .i64 0),.sc (.int .i64 0)])
abbrev CM:Option (List SV):=some ([.sc (.pointer none),.sc (.pointer none),.sc (.pointer none),.sc (.string ⟨#[]⟩)])
abbrev CL:Option (List SV):=some ([.sc (.int .u64 0),.sc (.int .u64 0),.sc (.int .u32 0),.sc (.int .u8 0),.sc (.int .u8 0),.sc (.int .u8 0),.sc (.int .u8 0),.sc (.nilFunc),.sc (.pointer none),.sc (.int .i32 0),.sc (.int .i32 0)])
def zlL:List (Option (List SV)):= [jp,ce,zlQ4,zlQ4,some ([.sc (.bool false)]),zlQ5,zlQ5,zlQ9,zlQ9,zlQ8,zlQ8,zlQ8,zlQ6,some ([.sc (.string ⟨#[]⟩),.sc (.int .u64 0)]),some ([.sc (.string ⟨#[]⟩),.sc (.int .u64 0)]),vC,vC,vC,vC,vC,some ([.sc (.nilIface)]),some ([.sc (.int .i32 0)]),zlQ7,zlQ7,CR,CR,vB,ce,zlQ4,jp,ce,jp,ce,jp,ce,ce,ce,ce,ce,ce,vB,ce,vC,ce,some ([.sc (.map none)]),CQ,CQ,jp,jp,jp,jp,vB,jp,jp,ce,some ([.sc (.bool false)]),vB,jp,ce,ce,ce,vB,ce,ce,ce,vB,jp,ce,ce,jp,ce,ce,ce,jp,ce,ce,ce,ce,ce,some ([.sc (.nilIface)]),some ([.sc (.nilIface)]),vB,jp,ce,vB,jp,jp,jp,ce,ce,jp,ce,jp,ce,ce,jp,ce,ce,ce,CP,CP,jp,ce,ce,ce,ce,ce,vB,jp,ce,CO,CO,vC,ce,vB,ce,ce,ce,ce,ce,ce,some ([.sc (.bool false),.sc (.bool false),.sc (.bool false),.sc (.bool false),.sc (.bool false),.sc (.bool false),.sc (.bool false),.sc (.bool false),.sc (.bool false),.sc (.bool false),.sc (.bool false),.sc (.bool false),.sc (.bool false),.sc (.bool false),.sc (.bool false),.sc (.bool false),.sc (.bool false),.sc (.bool false),.sc (.bool false),.sc (.bool false),.sc (.bool false),.sc (.bool false),.sc (.bool false),.sc (.bool false),.sc (.bool false),.sc (.bool false),.sc (.bool false),.sc (.bool false)]),ce,ce,ce,ce,ce,CN,CN,ce,ce,ce,vC,jp,ce,ce,ce,ce,ce,jp,ce,ce,ce,ce,vB,vB,jp,ce,zlQ7,zlQ7,jp,ce,ce,ce,ce,ce,zlQ6,ce,jp,ce,ce,zlQ6,ce,ce,ce,jp,ce,ce,zlQ4,jp,ce,ce,ce,ce,ce,some ([.sc (.int .u32 0)]),ce,ce,ce,ce,ce,ce,jp,ce,zlQ6,ce,ce,ce,vC,ce,ce,ce,vC,ce,ce,ce,CM,CM,some ([]),some ([]),some ([]),ce,zlQ5,zlQ5,ce,vC,some ([.sc (.int .i32 0)]),some ([.sc (.int .i32 0)]),CL,CL,ce,jp,jp,ce,vC]
theorem zlOk:chk (fun i=>qe Tryz.prog i) 0 zlL=zlL:=by kernel_rfl
theorem zl(i:Nat){x:List SV}(h:zlL[i]? =some (some x)):qe Tryz.prog i=some x:=by
 have:=iQ zlOk h
 simpa using this
abbrev be:Option (List (Nat×Nat)):=none
abbrev CG:Option (List (Nat×Nat)):=some ([(0,1),(1,1)])
abbrev plQ2:Option (List (Nat×Nat)):=some ([(0,1),(1,1),(2,1),(3,1)])
abbrev plQ3:Option (List (Nat×Nat)):=some ([(0,1),(1,1),(2,1),(3,1),(4,1),(5,1),(6,1),(7,1),(8,1),(9,1),(10,1)])
def plL:List (Option (List (Nat×Nat))):= [be,be,be,be,be,be,be,plQ2,plQ2,be,be,be,be,CG,CG,be,be,be,some ([(0,1)]),some ([(0,1)]),be,be,CG,CG,some ([(0,1),(1,2)]),some ([(0,1),(1,2)]),be,be,be,be,be,be,be,be,be,be,be,be,be,be,be,be,be,be,be,some ([(0,1),(1,3),(4,1),(5,1),(6,1),(7,1)]),some ([(0,1),(1,3),(4,1),(5,1),(6,1),(7,1)]),be,be,be,be,be,some ([(0,28672),(28672,1),(28673,1),(28674,1)]),some ([(0,28672),(28672,1),(28673,1),(28674,1)]),be,some ([(0,1)]),be,be,be,be,be,be,be,be,be,be,be,be,be,be,be,be,be,be,be,be,be,be,be,be,be,be,be,be,be,some ([(0,1),(1,1024),(1025,1),(1026,1)]),some ([(0,1),(1,1024),(1025,1),(1026,1)]),be,be,be,be,be,be,be,be,be,be,be,be,some ([(0,1),(1,3)]),some ([(0,1),(1,3)]),be,be,be,be,be,be,be,be,be,some ([(0,1),(1,3),(4,1)]),some ([(0,1),(1,3),(4,1)]),be,be,be,be,be,be,be,be,be,be,be,be,be,be,be,some ([(0,3),(3,1)]),some ([(0,3),(3,1)]),be,be,be,be,be,be,be,be,be,be,be,be,be,be,be,be,be,be,be,CG,CG,be,be,be,be,be,be,be,be,be,be,be,be,be,be,be,be,be,be,be,be,be,be,be,be,be,be,be,be,be,be,be,be,be,be,be,be,be,be,be,be,be,be,be,be,be,be,plQ2,plQ2,be,some ([(0,0)]),some ([(0,0)]),be,be,be,be,be,be,be,plQ3,plQ3,be,some ([(0,1),(1,1024)]),some ([(0,1),(1,1024)]),be,be]
theorem plOk:chk (fun i=>AG Tryz.prog i) 0 plL=plL:=by kernel_rfl
theorem pl(i:Nat){x:List (Nat×Nat)}(h:plL[i]? =some (some x)):AG Tryz.prog i=some x:=by
 have:=iQ plOk h
 simpa using this
abbrev cf:Option (Value):=some (.nilFunc)
abbrev jq:Option (Value):=none
abbrev vD:Option (Value):=some (.slice none 0 0)
abbrev yA:Option (Value):=some (.pointer none)
abbrev zeQ4:Option (Value):=some (.int .i64 0)
abbrev zeQ5:Option (Value):=some (.int .u64 0)
abbrev zeQ6:Option (Value):=some (.agg #[.int .i64 0,.int .i64 0])
abbrev zeQ7:Option (Value):=some (.agg #[.int .i64 0,.int .i64 0,.bool false,.int .u8 0])
abbrev zeQ8:Option (Value):=some (.agg #[.string ⟨#[]⟩,.int .i64 0,.int .i64 0])
abbrev zeQ9:Option (Value):=some (.agg #[.bool false,.string ⟨#[]⟩,.int .i64 0,.int .i64 0,.int .i64 0,.int .i64 0,.int .i64 0,.int .u8 0])
abbrev CW:Option (Value):=some (.agg #[.int .i64 0,.string ⟨#[]⟩,.int .i64 0,.int .i64 0])
abbrev CV:Option (Value):=some (.agg #[.int .i64 0,.string ⟨#[]⟩,.int .i64 0,.int .i64 0,.bool false])
abbrev CU:Option (Value):=some (.agg #[.string ⟨#[]⟩,.int .i64 0,.int .i64 0,.int .i64 0])
abbrev CT:Option (Value):=some (.agg #[.pointer none,.pointer none,.pointer none,.string ⟨#[]⟩])
abbrev CS:Option (Value):=some (.agg #[.int .u64 0,.int .u64 0,.int .u32 0,.int .u8 0,.int .u8 0,.int .u8 0,.int .u8 0,.nilFunc,.pointer none,.int .i32 0,.int .i32 0])
def zeL:List (Option (Value)):= [jq,cf,zeQ4,zeQ4,some (.bool false),some (.int .u8 0),some (.int .u8 0),zeQ7,zeQ7,some (.string ⟨#[]⟩),some (.string ⟨#[]⟩),some (.string ⟨#[]⟩),zeQ5,some (.agg #[.string ⟨#[]⟩,.int .u64 0]),some (.agg #[.string ⟨#[]⟩,.int .u64 0]),yA,yA,yA,some (.agg #[.pointer none]),some (.agg #[.pointer none]),some (.nilIface),some (.int .i32 0),zeQ6,zeQ6,zeQ8,zeQ8,vD,cf,zeQ4,jq,cf,jq,cf,jq,cf,cf,cf,cf,cf,cf,vD,cf,yA,cf,some (.map none),zeQ9,zeQ9,jq,jq,jq,jq,vD,jq,jq,cf,some (.agg #[.bool false]),vD,jq,cf,cf,cf,vD,cf,cf,cf,vD,jq,cf,cf,jq,cf,cf,cf,jq,cf,cf,cf,cf,cf,some (.nilIface),some (.nilIface),vD,jq,cf,vD,jq,jq,jq,cf,cf,jq,cf,jq,cf,cf,jq,cf,cf,cf,CW,CW,jq,cf,cf,cf,cf,cf,vD,jq,cf,CV,CV,yA,cf,vD,cf,cf,cf,cf,cf,cf,some (.agg #[.bool false,.bool false,.bool false,.bool false,.bool false,.bool false,.bool false,.bool false,.bool false,.bool false,.bool false,.bool false,.bool false,.bool false,.bool false,.bool false,.bool false,.bool false,.bool false,.bool false,.bool false,.bool false,.bool false,.bool false,.bool false,.bool false,.bool false,.bool false]),cf,cf,cf,cf,cf,CU,CU,cf,cf,cf,yA,jq,cf,cf,cf,cf,cf,jq,cf,cf,cf,cf,vD,vD,jq,cf,zeQ6,zeQ6,jq,cf,cf,cf,cf,cf,zeQ5,cf,jq,cf,cf,zeQ5,cf,cf,cf,jq,cf,cf,zeQ4,jq,cf,cf,cf,cf,cf,some (.int .u32 0),cf,cf,cf,cf,cf,cf,jq,cf,zeQ5,cf,cf,cf,yA,cf,cf,cf,yA,cf,cf,cf,CT,CT,some (.agg #[]),some (.agg #[]),some (.agg #[]),cf,some (.int .u8 0),some (.int .u8 0),cf,yA,some (.int .i32 0),some (.int .i32 0),CS,CS,cf,jq,jq,cf,yA]
theorem zeOk:chk (fun i=>dY Tryz.prog i) 0 zeL=zeL:=by kernel_rfl
theorem ze(i:Nat){x:Value}(h:zeL[i]? =some (some x)):dY Tryz.prog i=some x:=by
 have:=iQ zeOk h
 simpa using this
abbrev bc:Option (List Nat):=none
abbrev vH:Option (List Nat):=some [0,1]
def foL:List (Option (List Nat)):= [bc,bc,bc,bc,bc,bc,bc,some [0,1,2,3],some [0,1,2,3],bc,bc,bc,bc,vH,vH,bc,bc,bc,some [0],some [0],bc,bc,vH,vH,vH,vH,bc,bc,bc,bc,bc,bc,bc,bc,bc,bc,bc,bc,bc,bc,bc,bc,bc,bc,bc,some [0,1,4,5,6,7],some [0,1,4,5,6,7],bc,bc,bc,bc,bc,some [0,28672,28673,28674],some [0,28672,28673,28674],bc,some [0],bc,bc,bc,bc,bc,bc,bc,bc,bc,bc,bc,bc,bc,bc,bc,bc,bc,bc,bc,bc,bc,bc,bc,bc,bc,bc,bc,bc,bc,some [0,1,1025,1026],some [0,1,1025,1026],bc,bc,bc,bc,bc,bc,bc,bc,bc,bc,bc,bc,vH,vH,bc,bc,bc,bc,bc,bc,bc,bc,bc,some [0,1,4],some [0,1,4],bc,bc,bc,bc,bc,bc,bc,bc,bc,bc,bc,bc,bc,bc,bc,some [0,3],some [0,3],bc,bc,bc,bc,bc,bc,bc,bc,bc,bc,bc,bc,bc,bc,bc,bc,bc,bc,bc,vH,vH,bc,bc,bc,bc,bc,bc,bc,bc,bc,bc,bc,bc,bc,bc,bc,bc,bc,bc,bc,bc,bc,bc,bc,bc,bc,bc,bc,bc,bc,bc,bc,bc,bc,bc,bc,bc,bc,bc,bc,bc,bc,bc,bc,bc,bc,bc,some [0,1,2,3],some [0,1,2,3],bc,bc,bc,bc,bc,bc,bc,bc,bc,bc,some [0,1,2,3,4,5,6,7,8,9,10],some [0,1,2,3,4,5,6,7,8,9,10],bc,vH,vH,bc,bc]
theorem foOk:DR (kF Tryz.prog) 0 foL:=by
 simp only [foL,DR]
 exact⟨by kernel_rfl,by kernel_rfl,by kernel_rfl,by kernel_rfl,by kernel_rfl,by kernel_rfl,by kernel_rfl,by kernel_rfl,by kernel_rfl,by kernel_rfl,by kernel_rfl,by kernel_rfl,by kernel_rfl,by kernel_rfl,by kernel_rfl,by kernel_rfl,by kernel_rfl,by kernel_rfl,by kernel_rfl,by kernel_rfl,by kernel_rfl,by kernel_rfl,by kernel_rfl,by kernel_rfl,by kernel_rfl,by kernel_rfl,by kernel_rfl,by kernel_rfl,by kernel_rfl,by kernel_rfl,by kernel_rfl,trivial⟩
theorem fo(i k:Nat){l:List Nat}{v:Nat}(h:foL[i]? =some (some l))(hk:l[k]? =some v):kF Tryz.prog i k=some v:=by
 have:=pT foOk h
 have:=ux this hk
 simpa using this
abbrev bp:Option TypeDesc:=none
def unL:List (Option TypeDesc):= [bp,bp,some (.int .i64),some (.int .i64),some (.bool),some (.int .u8),some (.int .u8),bp,bp,some (.string),some (.string),some (.string),some (.int .u64),bp,bp,some (.pointer 197),some (.pointer 200),some (.pointer 209),bp,bp,bp,some (.int .i32),bp,bp,bp,bp,some (.slice 5),bp,some (.int .i64),bp,bp,bp,bp,bp,bp,bp,bp,bp,bp,bp,some (.slice 46),bp,some (.pointer 53),bp,some (.map 25 55),bp,bp,some (.array 1024 5),some (.array 1024 5),some (.array 28 48),some (.array 28 48),some (.slice 212),bp,bp,bp,bp,some (.slice 25),bp,bp,bp,bp,some (.slice 3),bp,bp,bp,some (.slice 23),bp,bp,bp,bp,bp,bp,bp,bp,bp,bp,bp,bp,bp,bp,bp,some (.slice 100),bp,bp,some (.slice 128),bp,bp,bp,bp,bp,bp,bp,bp,bp,bp,bp,bp,bp,bp,bp,bp,bp,bp,bp,bp,bp,bp,some (.slice 111),bp,bp,bp,bp,some (.pointer 50),bp,some (.slice 26),bp,bp,bp,bp,bp,bp,some (.array 28 4),bp,bp,bp,bp,bp,bp,bp,bp,bp,bp,some (.pointer 48),bp,bp,bp,bp,bp,bp,bp,bp,bp,bp,bp,some (.slice 105),some (.slice 149),bp,bp,bp,bp,bp,bp,bp,bp,bp,bp,some (.int .u64),bp,some (.array 1024 4),bp,bp,some (.int .u64),bp,bp,bp,bp,bp,bp,some (.int .i64),bp,bp,bp,bp,bp,bp,some (.int .u32),bp,bp,bp,bp,bp,bp,bp,bp,some (.int .u64),bp,bp,bp,some (.pointer 3),bp,bp,bp,some (.pointer 184),bp,bp,bp,bp,bp,some (.array 0 16),bp,bp,bp,some (.int .u8),some (.int .u8),bp,some (.pointer 5),some (.int .i32),some (.int .i32),bp,bp,bp,bp,bp,bp,bp]
theorem unOk:chk (fun i=>Tryz.prog.underlying i) 0 unL=unL:=by kernel_rfl
theorem un(i:Nat){x:TypeDesc}(h:unL[i]? =some (some x)):Tryz.prog.underlying i=some x:=by
 have:=iQ unOk h
 simpa using this
end F
end Go.Proofs.YtelnglhodnoclaaGreat
end
