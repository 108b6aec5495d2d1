import Derived.Laws.StructEq
import Derived.Sort.AssemblyPlain
import Derived.Laws.MakeOwn
import Derived.Test.YtnhmbonmlfeifaaGreatV2
set_option linter.unusedVariables false
set_option linter.unusedSimpArgs false
set_option maxRecDepth 100000
set_option maxHeartbeats 0
section
namespace Go.Sy
open Go Go.Sl Go.RowKit
theorem gQ(ro:Bool)(ne sz:Nat)(t:TypeId)(vs:List Value):VO.row ro ne sz t (gD (vs.map .sc))=dat ro ne sz t vs:=by
 unfold dat gD
 congr 1
 funext i
 rw [Ju]
section
variable {P:Program} {K:Zone} {w0 w:World} {e:Env} {H:au} {nx:Nat} {T:Tr SV} {ev:Operand→Value} {d:Option Tmp} {ty:TypeId} {pos:String} {af:Array Edge} {gd:Option (Nat×Bool)}
section
variable {b dflt eo n ne sz:Nat}{el t:TypeId}{x:Operand}{vs:List Value}
theorem za{cap:Nat}{l:List SV}{s:Sem Value}(hS:St K w0 e H nx w)(hl:SV.aJ e l=some vs)(hlen:vs.length=cap*sz)(hn:n≤cap)(hcap:cap≤maxLen)(h0:0<sz)
 (hrun:s.run P w = .ok (.slice (some ⟨w.heap.size,0,none⟩) n cap) {w with heap:=w.heap.push (.cells vs.toArray el)}):pw P K w0 e (.val (.slu nx 0 n),H.set nx (.row false n sz el (gD l)),nx+1) s w:=by
 have hf:=hS.fresh nx (HS _)
 have hle:=Env.dV (x:=⟨w.heap.size,0,cap,sz,false⟩) hf
 refine⟨e.put nx ⟨w.heap.size,0,cap,sz,false⟩,_,.slu nx 0 n,_,rfl,hle,?_,by simp [SV.conc,Env.b9,Ent.at],hrun⟩
 refine hS.new (o:= .cells vs.toArray el) rfl rfl rfl rfl rfl rfl rfl ⟨rfl,vs.toArray,(0,0),el,rfl,hn,by simp [hlen],hcap,fun _=>Dx _,h0,fun i hi s hs=>?_⟩
 rw [lV] at hs
 obtain⟨v,hv,hg⟩:=fO (SV.ck hle _ _ hl) hs
 exact⟨v,hv,by simpa using hg⟩
theorem iQ{len:Nat}{parts:List (Nat×Operand)}{ps:List (Nat×SV)}{z:Value}{l:List SV}(hu:P.underlying t=some (.slice el))(hs:bH P el=some sz)(h0:0<sz)(hz:dM P el=some z)(hp:oJ T parts=some ps)
 (hf:kK (fun i=>some (i*sz,sz)) (((List.range (len*sz)).map (z.cells[·% z.cells.size]!)).map .sc) ps=some l) (h1:bh l=true) (hlen:Nat.ble (len*sz) 16777216=true) (hll:l.length=len*sz) :
 OpDoes P T H nx ⟨d,.buildSlice t len parts.toArray,ty,pos,af,gd⟩ (.val (.slu nx 0 len),H.set nx (.row false len sz el (gD l)),nx+1):=by
 intro K w0 e w ev hS hE
 have hle:=bT hlen
 have hlm:len≤maxLen:=by
  unfold maxLen
  have:len*1≤len*sz:=Nat.mul_le_mul_left _ h0
  omega
 refine jN (w:=w) (s:=Instr.buildSlice t len (parts.toArray.map fun x=>(x.1,ev x.2))) ?_ (fun v w' hr=>by simp only [execOp,Sem.run_bind];rw [hr];simp)
 have hpr:=hE.parts parts ps hp
 have hpr':Hm e ps (parts.toArray.map fun x=>(x.1,ev x.2)).toList:=by simpa using hpr
 obtain⟨vs,g1,g2⟩:=vW (e:=e) ps _ _ l _ hf hpr' (fE _)
 have hvl:=dc g2
 refine za hS g2 (by omega) (HS _) hlm h0 ?_
 by_cases hz0:len*sz=0
 ·have hvs:vs= []:=HO (by omega)
  subst hvs
  have hps:ps= []:=by
   cases ps with
   | nil=>rfl
   | cons p ps=>
     exfalso
     simp only [hz0,List.range_zero,List.map_nil,kK,List.length_nil,Nat.le_zero_eq] at hf
     have hlen0:len=0:=by
      rcases Nat.eq_zero_or_pos len with h|h
      ·exact h
      ·have:=Nat.mul_pos h h0;omega
     cases hb:(Nat.beq p.2.cells.length sz && Nat.ble (p.1*sz+sz) 0)with
     | false=>rw [hb] at hf;cases hf
     | true=>
       rw [HR] at hb
       have:=bT hb.2
       omega
  subst hps
  have hq:(parts.toArray.map fun x=>(x.1,ev x.2)).toList= []:=by
   cases hq:(parts.toArray.map fun x=>(x.1,ev x.2)).toList with
   | nil=>rfl
   | cons _ _=>rw [hq] at hpr';exact hpr'.elim
  have hq2:List.map (fun x=>(x.fst,ev x.snd)) parts= []:=by simpa using hq
  simp [Instr.buildSlice,run_underlying hu,cP hs,hz0,hq2,Instr.fill,newRow,show Array.range 0=(#[]:Array Nat)from by decide]
 ·have hr:(Array.range (len*sz)).map (z.cells[·% z.cells.size]!)=((List.range (len*sz)).map (z.cells[·% z.cells.size]!)).toArray:=by
   apply Array.ext'
   simp
  simp only [Instr.buildSlice,run_underlying hu,Sem.run_bind,Result.andThen,cP hs]
  rw [Jd (by omega)]
  simp only [Sem.run_pure,Jd hz0,Sem.run_bind,Result.andThen,js hz,hr,g1,newRow,run_newObj]
def RdV(P:Program)(H:au)(sz:Nat)(s:SV)(m:Nat)(vs:List Value):Prop:=aQ H sz s=some (m,vs.map .sc)
theorem tL{ro:Bool}{us:List Value}(hb:H.at' b=some (dat ro ne sz t vs))(hn:eo+n≤ne)(hu:(vs.drop (eo*sz)).take (n*sz)=us)(hl:us.length=n*sz):RdV P H sz (.slu b eo n) n us:=by
 unfold RdV
 simp only [aQ,hb,dat,Nat.beq_refl,Bool.true_and]
 rw [show Nat.ble (eo+n) ne=true from HG hn]
 have:=iY (ro:=ro) (ne:=ne) (sz:=sz) (t:=t) (vs:=vs) (n*sz) (eo*sz) hu hl (by rw [← Nat.add_mul];exact Nat.mul_le_mul_right _ hn)
 unfold dat at this
 simp only [cond_true,this,HY]
def tw(vs:List Value):Prop:= ∀ v∈vs,v.oneCell'=true
theorem gA(h:tw vs):bh (vs.map .sc)=true:=by
 induction vs with
 | nil=>rfl
 | cons v vs ih=>
   simp only [HU,bh,HR]
   refine⟨?_,ih fun u hu=>h u (Jm _ hu)⟩
   have:=h v (Jl ..)
   cases v <;> first|rfl|(simp [Value.oneCell'] at this)
theorem mS(hb:(P.info? t).map (·.bytes)=some b)(h1:n*b≤140737488355328)(h2:n≤1000000000):gz P t n=true:=by
 unfold gz
 cases hi:P.info? t with
 | none=>rw [hi] at hb;cases hb
 | some i=>
   rw [hi] at hb
   simp only [HY,Ht] at hb
   simp only [hb,HR]
   exact⟨HG h1,HG h2⟩
theorem yT{tx:TypeId}{m r:Nat}{s:Operand}{v:SV}{us ws:List Value}(hu:P.underlying t=some (.slice el))(hk:(∃ e',P.underlying tx=some (.slice e'))∨P.underlying tx=some .string)(hs:bH P el=some sz)(h0:0<sz)
 (hz:fF P el sz=true) (hb:(P.info? el).map (·.bytes)=some b) (hx0:ak T s=some (.slu r eo n)) (hx:ak T x=some v) (hro:H.at' r=some (dat false (eo+n) sz el us)) (hr0:(us.drop (eo*sz)).take (n*sz)=ws) (hl0:ws.length=n*sz) (hr:RdV P H sz v m vs) (h1:tw vs)
 (hm:0<m) (hm1:(n+m)*b≤140737488355328) (hm2:n+m≤1000000000) :
 OpDoes P T H nx ⟨d,.call {callee:= .builtin .append,args:= #[s,x],argTypes:= #[t,tx]},ty,pos,af,gd⟩ (.val (.slu nx 0 (n+m)),(H.del r).set nx (dat false (n+m) sz el (ws ++ vs)),nx+1):=by
 have hap:dU P H nx el (.slu r eo n) v=some (.val (.slu nx 0 (n+m)),(H.del r).set nx (.row false (n+m) sz el (gD (ws.map .sc ++ vs.map .sc))),nx+1):=by
  unfold dU
  rw [hs]
  cases sz with
  | zero=>omega
  | succ sz=>
    simp only
    rw [show aQ H (sz+1) v=some (m,vs.map .sc)from hr]
    have hold:aQ H (sz+1) (.slu r eo n)=some (n,ws.map .sc):=tL (P:=P) hro (HS _) hr0 hl0
    simp only [gA h1,Bool.not_true,cond_false,hold]
    rw [hro]
    simp only [dat,Nat.beq_refl,mS hb hm1 hm2,hz,Bool.not_false,Bool.and_self,cond_true]
    rw [show Nat.beq m 0=false from by cases hq:Nat.beq m 0 with|false=>rfl|true=>have:=Jt hq;omega]
    rfl
 rw [← HX,gQ] at hap
 refine iW ?_
 rcases hk with ⟨e',hk⟩|hk <;> simp only [fN,du,hx0,hx,HZ,eP,gT,hu,hk,hap]
theorem A4{x:Option Operand}{v:Option Int}(h:(x=none∧n=dflt)∨ ∃ o k i,x=some o∧ak T o=some (.sc (.int k i))∧0≤i∧i.toNat=n):natOr T dflt x=some n:=by
 rcases h with ⟨rfl,rfl⟩|⟨o,k,i,rfl,h1,h2,rfl⟩
 ·rfl
 ·obtain⟨j,rfl⟩:=Int.eq_ofNat_of_zero_le h2
  simp only [natOr,Af,h1,Jv]
def nv(T:Tr SV)(dflt:Nat)(x:Option Operand)(n:Nat):Prop:=natOr T dflt x=some n
theorem jU:nv T dflt none dflt:=rfl
theorem Eb{o:Operand}{k:IntKind}{i:Int}(h:ak T o=some (.sc (.int k i)))(h0:0≤i):nv T dflt (some o) i.toNat:=A4 (v:=none) (.inr ⟨o,k,i,rfl,h,h0,rfl⟩)
theorem AK{lo hi:Option Operand}{l h:Nat}{ro:Bool}{rt:TypeId}{c:Tr SV}(hu:P.underlying t=some (.slice el))(hs:bH P el=some sz)(hx:ak T x=some (.slu b eo n))(hb:H.at' b=some (.row ro ne sz rt c))
 (hl:nv T 0 lo l) (hh:nv T n hi h) (h1:l≤h) (h2:eo+h≤ne) (h3:eo+l<ne):ReadDoes P T H ⟨d,.slice t x lo hi none,ty,pos,af,gd⟩ (.slu b (eo+l) (h-l)):=by
 refine eH ?_
 unfold nv at hl hh
 simp only [cx,hx,HZ,kR,hu,hb,hs,hl,hh,Nat.beq_refl,Bool.true_and]
 rw [show Nat.ble l h=true from HG h1,show Nat.ble (eo+h) ne=true from HG h2,show Nat.blt (eo+l) ne=true from HG h3]
 rfl
theorem gI{ne sz:Nat}{t:TypeId}: ∀ (vs l:List Value) (o:Nat),o+vs.length≤ne*sz→o+vs.length≤l.length→tw vs→(dat false ne sz t l).setCells o (vs.map .sc)=some (dat false ne sz t (l.take o ++ vs ++ l.drop (o+vs.length)))
 | [],l,o,_,_,_=>by simp [VO.setCells]
 | v :: vs,l,o,h,hl,h1=>by
   simp only [HV] at h hl
   have hset:(dat false ne sz t l).setCell o (.sc v)=some (dat false ne sz t (l.set o v)):=by
    simp only [dat,VO.setCell]
    have hone:(SV.sc v).one=true:=by
     have:=gA (vs:= [v]) (fun u hu=>h1 u (by simp at hu;subst hu;exact Jl ..))
     simpa [bh] using this
    rw [show Nat.blt o (ne*sz)=true from HG (by omega),hone]
    simp only [Bool.and_self,cond_true,Ht]
    congr 1
    funext i
    simp only [Tr.set]
    rw [List.getElem?_set]
    by_cases hi:o=i
    ·subst hi
     rw [Je rfl,Je (by omega),Nat.beq_refl]
     rfl
    ·rw [Jd hi,show Nat.beq i o=false from by cases hb:Nat.beq i o with|false=>rfl|true=>exact absurd (Jt hb).symm hi]
     rfl
   simp only [HU,VO.setCells,hset]
   rw [gI vs (l.set o v) (o+1) (by omega) (by rw [List.length_set];omega) (fun u hu=>h1 u (Jm _ hu))]
   simp only [Ht]
   congr 1
   have e1:(l.set o v).take (o+1)=l.take o ++ [v]:=by
    rw [List.take_set,List.set_eq_take_append_cons_drop,Je (by rw [Jh];omega),List.take_take,Nat.min_eq_left (by omega),List.drop_eq_nil_of_le (by rw [Jh];omega)]
   have e2:(l.set o v).drop (o+1+vs.length)=l.drop (o+(vs.length+1)):=by
    rw [List.drop_set_of_lt (by omega)]
    congr 1
    omega
   rw [e1,e2]
   simp
theorem r7{rt:TypeId}{a:Operand}{o:Nat}{l:List Value}{v:SV}(hs:bH P t=some n)(ha:ak T a=some (.ptr b o))(hx:ak T x=some v)(hv:v.cells=vs.map .sc)(hb:H.at' b=some (dat false ne sz rt l))(hn:vs.length=n)(ho:o+n≤ne*sz)(hl:o+n≤l.length)
 (h1:tw vs):OpDoes P T H nx ⟨d,.store t a x,ty,pos,af,gd⟩ (.skip,H.set b (dat false ne sz rt (l.take o ++ vs ++ l.drop (o+n))),nx):=by
 refine iW ?_
 subst hn
 unfold fN
 simp only [ha,hx,hv,rG,hs,Ji,Nat.beq_refl,cond_true,eS,hb,gI vs l o ho hl h1]
end
end
section
variable {i sz:Nat}{A:Type}{xs:List A}{f:A→List Value}
theorem nM{A:Type}{f:A→List Value}{sz:Nat}(hf: ∀ a,(f a).length=sz): ∀ xs:List A,(xs.flatMap f).length=xs.length*sz
 | []=>by simp
 | x :: xs=>by rw [List.flatMap_cons,HW,hf,nM hf xs,HV,Nat.add_mul];omega
theorem oF{A:Type}{f:A→List Value}{sz:Nat}(hf: ∀ a,(f a).length=sz): ∀ (xs:List A) (i:Nat),(xs.flatMap f).drop (i*sz)=(xs.drop i).flatMap f
 | xs,0=>by simp
 | [],i+1=>by simp
 | x :: xs,i+1=>by
   rw [List.flatMap_cons,List.drop_succ_cons,←oF hf xs i,show(i+1)*sz=(f x).length+i*sz by rw [hf,Nat.add_mul];omega,List.drop_length_add_append]
theorem jJ{A:Type}{f:A→List Value}{sz:Nat}(hf: ∀ a,(f a).length=sz): ∀ (xs:List A) (i:Nat),(xs.flatMap f).take (i*sz)=(xs.take i).flatMap f
 | xs,0=>by simp
 | [],i+1=>by simp
 | x :: xs,i+1=>by
   rw [List.flatMap_cons,List.take_succ_cons,List.flatMap_cons,←jJ hf xs i,show(i+1)*sz=(f x).length+i*sz by rw [hf,Nat.add_mul];omega,List.take_length_add_append]
theorem vR(hf: ∀ a,(f a).length=sz){a:A}(h:xs[i]? =some a):((xs.flatMap f).drop (i*sz)).take sz=f a:=by
 rw [oF hf]
 obtain⟨hi,rfl⟩:=Hy.1 h
 rw [List.drop_eq_getElem_cons hi,List.flatMap_cons,List.take_append_of_le_length (by rw [hf];exact HS _),HK (by rw [hf];exact HS _)]
theorem zD(hf: ∀ a,(f a).length=sz){j:Nat}{a:A}(h:xs[i]? =some a)(hj:j<sz):(xs.flatMap f)[i*sz+j]? =(f a)[j]? :=by
 have h1:=vR hf h
 rw [← h1,List.getElem?_take,Je hj,List.getElem?_drop]
theorem Bk(hf: ∀ a,(f a).length=sz)(hi:i<xs.length)(a:A):(xs.flatMap f).take (i*sz) ++ f a ++ (xs.flatMap f).drop (i*sz+sz)=(xs.set i a).flatMap f:=by
 rw [List.set_eq_take_append_cons_drop,Je hi,List.flatMap_append,List.flatMap_cons,jJ hf,show i*sz+sz=(i+1)*sz by rw [Nat.add_mul];omega,oF hf,Jo]
end
structure RecOf {A:Type} (f:A→List Value) (sz:Nat):Prop where
 len: ∀ a,(f a).length=sz
 one: ∀ a,tw (f a)
theorem yp{A:Type}{g:A→Value}(hg: ∀ a,(g a).oneCell'=true):RecOf (fun a=> [g a]) 1:=⟨fun _=>rfl,fun a v hv=>by simp only [Jj] at hv;subst hv;exact hg a⟩
abbrev arr{A:Type}(ro:Bool)(ne sz:Nat)(t:TypeId)(f:A→List Value)(d:Array A):VO:=dat ro ne sz t (d.toList.flatMap f)
section
variable {P:Program} {T:Tr SV} {H:au} {nx:Nat} {d0:Option Tmp} {ty:TypeId} {pos:String} {af:Array Edge} {gd:Option (Nat×Bool)}
section
variable {b i ne sz:Nat}{A:Type}{rt t:TypeId}{d:Array A}{x:Operand}
theorem aN{e:TypeId}{y:Operand}{n:Nat}{k:IntKind}{j:Int}{ro:Bool}{c:Tr SV}(hu:P.underlying t=some (.slice e))(hs:bH P e=some sz)(hx:ak T x=some (.slu b 0 n))(hy:ak T y=some (.sc (.int k j)))
 (hb:H.at' b=some (.row ro ne sz rt c)) (hj:j=(i:Int)) (hi:i<n) (hne:n≤ne):ReadDoes P T H ⟨d0,.indexAddr t x y,ty,pos,af,gd⟩ (.ptr b (i*sz)):=by
 subst hj
 have:=uP (d:=d0) (ty:=ty) (pos:=pos) (af:=af) (gd:=gd) hu hs hx hy hb (by omega) (by omega) (by omega)
 simpa using this
theorem Ec [Inhabited A](hi:i<d.size):d.toList[i]? =some d[i]! :=by
 rw [Array.getElem?_toList,HL hi,getElem!_pos d i hi]
theorem z5{A:Type}{d:Array A}(hi:i<d.size)(hne:d.size≤ne):i*sz+sz≤ne*sz:=by
 have:(i+1)*sz≤ne*sz:=Nat.mul_le_mul_right _ (by omega)
 rw [Nat.add_mul] at this
 omega
theorem Gz [Inhabited A]{g:A→Value}{ro:Bool}(ha:cU P t=some none)(hx:ak T x=some (.ptr b (i*1)))(hb:H.at' b=some (arr ro ne 1 rt (fun a=> [g a]) d))(hi:i<d.size)(hne:d.size≤ne) :
 ReadDoes P T H ⟨d0,.load t x,ty,pos,af,gd⟩ (.sc (g d[i]!)):=by
 refine an ha hx hb (fW (by omega) ?_)
 have:=zD (f:=fun a=> [g a]) (sz:=1) (fun _=>rfl) (Ec hi) (j:=0) (by omega)
 simpa using this
theorem GI{f:A→List Value}{a:Operand}{v:A}{u:SV}(hs:bH P t=some sz)(ha:ak T a=some (.ptr b (i*sz)))(hx:ak T x=some u)(hu:u.cells=(f v).map .sc)(hf:RecOf f sz)(hb:H.at' b=some (arr false ne sz rt f d))(hi:i<d.size)(hne:d.size≤ne) :
 OpDoes P T H nx ⟨d0,.store t a x,ty,pos,af,gd⟩ (.skip,H.set b (arr false ne sz rt f (d.setIfInBounds i v)),nx):=by
 have hsz:d.toList.length=d.size:=rfl
 have h:=r7 (d:=d0) (ty:=ty) (pos:=pos) (af:=af) (gd:=gd) (nx:=nx) hs ha hx hu hb (hf.len v) (z5 hi hne) (by rw [nM hf.len];exact z5 hi (HS _)) (hf.one v)
 have e:=Bk hf.len (xs:=d.toList) (i:=i) (by rw [hsz];exact hi) v
 rw [e] at h
 unfold arr
 rw [Array.toList_setIfInBounds]
 exact h
end
end
structure DrawK (P:Program) (nt:Nat) (ops:Array Oper) (i:Nat) (l:List Oper) (s:DS) (K:DS→Prop):Prop where
 ex: ∃ s',DrawRun P (wpr P) nt ops i l s s'∧K s'
def AllH(Q:List (au×Nat))(p:au→Prop):Prop:=match Q with
 | []=>True
 | q :: l=>p q.1∧AllH l p
theorem AllH.get{p:au→Prop}: ∀ {Q:List (au×Nat)},AllH Q p→ ∀ {i:Nat} {H:au} {n:Nat},Q[i]? =some (H,n)→p H
 | [],_,i,H,n,h=>by simp at h
 | q :: l,hh,i,H,n,h=>by
   cases i with
   | zero=>simp only [HQ,Ht] at h;subst h;exact hh.1
   | succ i=>exact AllH.get hh.2 (by simpa using h)
theorem AllH.all{p:au→Prop}(h: ∀ H,p H): ∀ (Q:List (au×Nat)),AllH Q p
 | []=>trivial
 | q :: l=>⟨h q.1,AllH.all h l⟩
theorem oR{r:Rec}{b:Bool}(h:r.chain=true):(r.chain || !r.wanted || b)=true:=by rw [h];rfl
theorem wa{r:Rec}{b:Bool}(h:r.wanted=false):(r.chain || !r.wanted || b)=true:=by rw [h];simp
def FlOk(P:Program)(ancs chain:List Nat)(Q:List (au×Nat)):List Rec→Prop
 | []=>True
 | r :: l=>((r.chain || !r.wanted || (Nat.beq (jH (ancs.getD r.i 0) chain) r.stg && Nat.beq (eO ancs r.i chain) r.stg))=true∨AllH Q (fun H=>ReadDoes P r.T H r.o r.val))∧FlOk P ancs chain Q l
theorem FlOk.ok{P:Program}{ancs chain:List Nat}{Q:List (au×Nat)}: ∀ {l:List Rec},FlOk P ancs chain Q l→ ∀ r∈l,r.chain=false→r.wanted=true→ ∀ st,jH (ancs.getD r.i 0) chain≤st→st≤eO ancs r.i chain→st≠r.stg→ ∀ H n,Q.reverse[st]? =some (H,n)→ReadDoes P r.T H r.o r.val
 | [],_,r,hm,_,_,_,_,_,_,_,_,_=>by cases hm
 | r0 :: l,hh,r,hm,hc,hw,st,h1,h2,h3,H,n,hq=>by
   rcases Js.1 hm with rfl|hm
   ·rcases hh.1 with h|h
    ·rw [hc,hw] at h
     simp only [Bool.not_true,Bool.or_false,Bool.false_or,HR] at h
     have q1:=bF h.1
     have q2:=bF h.2
     omega
    ·have hlt:=(Hy.1 hq).1
     rw [List.getElem?_reverse (by simpa using hlt)] at hq
     exact h.get hq
   ·exact FlOk.ok hh.2 r hm hc hw st h1 h2 h3 H n hq
theorem zQ{v:Value}(h:v.oneCell'=true):(SV.sc v).cells= [.sc v]:=by
 cases v <;> first|rfl|(simp [Value.oneCell'] at h)
section
variable {P:Program} {ro:Option Nat} {fn nt nx:Nat} {T:Tr SV} {k:List AIt} {dfs:List ADf} {H:au} {Q:Pst} {ops:Array Oper} {i:Nat} {l:List Oper} {d:Option Tmp} {ty:TypeId} {pos:String} {af:Array Edge} {gd:Option (Nat×Bool)}
theorem cj{id:Nat}{ops:List Oper}(hm:P.follows .mixedOrders=true)(hr:fU nt ops=true)
 (h:DrawK P nt ops.toArray 0 ops ⟨T,H,nx,[],[(H,nx)],0⟩ (fun s=>jR (eK [] ops) (eJ s)=true∧FlOk P (eK [] ops) (eJ s) s.Hs s.recs∧Wp P ro ⟨fn,nt,s.T,k,dfs,s.H,s.nx⟩ Q)) :
 Wp P ro ⟨fn,nt,T,.code (.region id ops.toArray true) :: k,dfs,H,nx⟩ Q:=by
 obtain⟨s,hs,h1,h2,h3⟩:=h.ex
 exact .step ⟨hm,s,⟨hr,hs,h1,fun r hr a b st c d e H n f=> .inl (FlOk.ok h2 r hr a b st c d e H n f)⟩,h3⟩
section
variable {K:DS→Prop} {rs:List Rec} {Hs:List (au×Nat)} {stg:Nat} {dd:Nat} {op:Op}
section
variable {H':au}{v:SV}{nx':Nat}
theorem aA{s:DS}(h:K s):DrawK P nt ops i [] s K:=⟨⟨s,.nil _ _,h⟩⟩
theorem cp(hw:aF (aZ T (a9 ops.toList ⟨some dd,op,ty,pos,af,gd⟩)) ops ⟨some dd,op,ty,pos,af,gd⟩=some false)(hd:Nat.blt dd nt=true)
 (h:DrawK P nt ops (i+1) l ⟨T.set dd ey,H,nx,⟨i,⟨some dd,op,ty,pos,af,gd⟩,aZ T (a9 ops.toList ⟨some dd,op,ty,pos,af,gd⟩),stg,false,false,ey⟩ :: rs,Hs,stg⟩ K) :
 DrawK P nt ops i (⟨some dd,op,ty,pos,af,gd⟩ :: l) ⟨T,H,nx,rs,Hs,stg⟩ K:=by
 obtain⟨s',h1,h2⟩:=h.ex
 refine⟨⟨s',.cons (.inl ⟨hw,?_⟩) h1,h2⟩⟩
 simp only [aI hd]
theorem bI(hw:aF (aZ T (a9 ops.toList ⟨some dd,op,ty,pos,af,gd⟩)) ops ⟨some dd,op,ty,pos,af,gd⟩=some true)(hd:Nat.blt dd nt=true)(hnd: ∀ c,op ≠ .defer c)
 (hr:ReadDoes P (aZ T (a9 ops.toList ⟨some dd,op,ty,pos,af,gd⟩)) H ⟨some dd,op,ty,pos,af,gd⟩ v)
 (h:DrawK P nt ops (i+1) l ⟨T.set dd v,H,nx,⟨i,⟨some dd,op,ty,pos,af,gd⟩,aZ T (a9 ops.toList ⟨some dd,op,ty,pos,af,gd⟩),stg,false,true,v⟩ :: rs,Hs,stg⟩ K) :
 DrawK P nt ops i (⟨some dd,op,ty,pos,af,gd⟩ :: l) ⟨T,H,nx,rs,Hs,stg⟩ K:=by
 obtain⟨s',h1,h2⟩:=h.ex
 refine⟨⟨s',.cons (.inr (.inl ⟨hw,hnd,v,.inl hr,?_⟩)) h1,h2⟩⟩
 simp only [aI hd]
theorem jO(hw:aF (aZ T (a9 ops.toList ⟨some dd,op,ty,pos,af,gd⟩)) ops ⟨some dd,op,ty,pos,af,gd⟩=some true)(hd:Nat.blt dd nt=true)(hnd: ∀ c,op ≠ .defer c)
 (hr:OpDoes P (aZ T (a9 ops.toList ⟨some dd,op,ty,pos,af,gd⟩)) H nx ⟨some dd,op,ty,pos,af,gd⟩ (.val v,H',nx'))
 (h:DrawK P nt ops (i+1) l ⟨T.set dd v,H',nx',⟨i,⟨some dd,op,ty,pos,af,gd⟩,aZ T (a9 ops.toList ⟨some dd,op,ty,pos,af,gd⟩),stg,true,true,v⟩ :: rs,(H',nx') :: Hs,stg+1⟩ K) :
 DrawK P nt ops i (⟨some dd,op,ty,pos,af,gd⟩ :: l) ⟨T,H,nx,rs,Hs,stg⟩ K:=by
 obtain⟨s',h1,h2⟩:=h.ex
 refine⟨⟨s',.cons (.inr (.inr ⟨hw,v,H',nx',⟨_,hr,hnd,rfl⟩,?_⟩)) h1,h2⟩⟩
 simp only [aI hd]
theorem oO(hw:aF (aZ T (a9 ops.toList ⟨none,op,ty,pos,af,gd⟩)) ops ⟨none,op,ty,pos,af,gd⟩=some true)(hnd: ∀ c,op ≠ .defer c)
 (hr:OpDoes P (aZ T (a9 ops.toList ⟨none,op,ty,pos,af,gd⟩)) H nx ⟨none,op,ty,pos,af,gd⟩ (.skip,H',nx'))
 (h:DrawK P nt ops (i+1) l ⟨T,H',nx',⟨i,⟨none,op,ty,pos,af,gd⟩,aZ T (a9 ops.toList ⟨none,op,ty,pos,af,gd⟩),stg,true,true,ey⟩ :: rs,(H',nx') :: Hs,stg+1⟩ K) :
 DrawK P nt ops i (⟨none,op,ty,pos,af,gd⟩ :: l) ⟨T,H,nx,rs,Hs,stg⟩ K:=by
 obtain⟨s',h1,h2⟩:=h.ex
 exact⟨⟨s',.cons (.inr (.inr ⟨hw,ey,H',nx',⟨_,hr,hnd,rfl⟩,rfl⟩)) h1,h2⟩⟩
theorem bk(hr:ReadDoes P (aZ T (a9 ops.toList ⟨some dd,op,ty,pos,af,gd⟩)) H ⟨some dd,op,ty,pos,af,gd⟩ v)(hw:aF (aZ T (a9 ops.toList ⟨some dd,op,ty,pos,af,gd⟩)) ops ⟨some dd,op,ty,pos,af,gd⟩=some true)(hd:Nat.blt dd nt=true)(hn:ndf op=true)
 (h:DrawK P nt ops (i+1) l ⟨T.set dd v,H,nx,⟨i,⟨some dd,op,ty,pos,af,gd⟩,aZ T (a9 ops.toList ⟨some dd,op,ty,pos,af,gd⟩),stg,false,true,v⟩ :: rs,Hs,stg⟩ K):DrawK P nt ops i (⟨some dd,op,ty,pos,af,gd⟩ :: l) ⟨T,H,nx,rs,Hs,stg⟩ K:=bI hw hd (pF hn) hr h
theorem pt(hr:OpDoes P (aZ T (a9 ops.toList ⟨some dd,op,ty,pos,af,gd⟩)) H nx ⟨some dd,op,ty,pos,af,gd⟩ (.val v,H',nx'))(hw:aF (aZ T (a9 ops.toList ⟨some dd,op,ty,pos,af,gd⟩)) ops ⟨some dd,op,ty,pos,af,gd⟩=some true)(hd:Nat.blt dd nt=true)(hn:ndf op=true)
 (h:DrawK P nt ops (i+1) l ⟨T.set dd v,H',nx',⟨i,⟨some dd,op,ty,pos,af,gd⟩,aZ T (a9 ops.toList ⟨some dd,op,ty,pos,af,gd⟩),stg,true,true,v⟩ :: rs,(H',nx') :: Hs,stg+1⟩ K):DrawK P nt ops i (⟨some dd,op,ty,pos,af,gd⟩ :: l) ⟨T,H,nx,rs,Hs,stg⟩ K:=jO hw hd (pF hn) hr h
theorem qO(hr:OpDoes P (aZ T (a9 ops.toList ⟨none,op,ty,pos,af,gd⟩)) H nx ⟨none,op,ty,pos,af,gd⟩ (.skip,H',nx'))(hw:aF (aZ T (a9 ops.toList ⟨none,op,ty,pos,af,gd⟩)) ops ⟨none,op,ty,pos,af,gd⟩=some true)(hn:ndf op=true)
 (h:DrawK P nt ops (i+1) l ⟨T,H',nx',⟨i,⟨none,op,ty,pos,af,gd⟩,aZ T (a9 ops.toList ⟨none,op,ty,pos,af,gd⟩),stg,true,true,ey⟩ :: rs,(H',nx') :: Hs,stg+1⟩ K):DrawK P nt ops i (⟨none,op,ty,pos,af,gd⟩ :: l) ⟨T,H,nx,rs,Hs,stg⟩ K:=oO hw (pF hn) hr h
theorem qq{g:FuncId}{as1:List Operand}{ats:Array TypeId}{args:List SV}(ha:du T as1=some args)(hm:bS P g=true):OpDoes P T H nx ⟨d,.call {callee:= .value (.func g),args:=as1.toArray,argTypes:=ats},ty,pos,af,gd⟩ (.enter g args,H,nx):=by
 refine iW ?_
 have hc:cd P T {callee:= .value (.func g),args:=as1.toArray,argTypes:=ats}=some (.enter g args):=by
  simp only [cd,ha,ak,dI,hm,cond_true,List.map_nil,List.nil_append,Jr]
 unfold fN
 simp only [hc,HY]
theorem bW{g:FuncId}{as1:List Operand}{ats:Array TypeId}{args:List SV}(hw:aF (aZ T (a9 ops.toList ⟨some dd,.call {callee:= .value (.func g),args:=as1.toArray,argTypes:=ats},ty,pos,af,gd⟩)) ops ⟨some dd,.call {callee:= .value (.func g),args:=as1.toArray,argTypes:=ats},ty,pos,af,gd⟩=some true)(hd:Nat.blt dd nt=true)
 (ha:du (aZ T (a9 ops.toList ⟨some dd,.call {callee:= .value (.func g),args:=as1.toArray,argTypes:=ats},ty,pos,af,gd⟩)) as1=some args) (hm:bS P g=true)
 (hr:Fnc P g args H nx (fun r=>r=(v,H',nx')))
 (h:DrawK P nt ops (i+1) l ⟨T.set dd v,H',nx',⟨i,⟨some dd,.call {callee:= .value (.func g),args:=as1.toArray,argTypes:=ats},ty,pos,af,gd⟩,aZ T (a9 ops.toList ⟨some dd,.call {callee:= .value (.func g),args:=as1.toArray,argTypes:=ats},ty,pos,af,gd⟩),stg,true,true,v⟩ :: rs,(H',nx') :: Hs,stg+1⟩ K) :
 DrawK P nt ops i (⟨some dd,.call {callee:= .value (.func g),args:=as1.toArray,argTypes:=ats},ty,pos,af,gd⟩ :: l) ⟨T,H,nx,rs,Hs,stg⟩ K:=by
 obtain⟨s',h1,h2⟩:=h.ex
 refine⟨⟨s',.cons (.inr (.inr ⟨hw,v,H',nx',⟨_,qq ha hm,(fun c hc=>(by cases hc)),hr⟩,?_⟩)) h1,h2⟩⟩
 simp only [aI hd]
end
end
def Ac(vo:VO):Prop:= ∀ ρ,vo.ren ρ=vo
theorem bJ{ro:Bool}{ne sz:Nat}{t:TypeId}{vs:List Value}:Ac (dat ro ne sz t vs):=fun ρ=>od ρ _ _ _ _ _
theorem dE{t:TypeId}{l:List SV}(h: ∀ ρ,SV.ja ρ l=l):Ac (aq t l):=fun ρ=>by rw [tJ,h]
def mr:List (Option VO)→Prop
 | []=>True
 | none :: l=>mr l
 | some vo :: l=>Ac vo∧mr l
def wrL:List Nat→au→List (Option VO)→au
 | b :: L,H,some vo :: l=>wrL L (H.set b vo) l
 | b :: L,H,none :: l=>wrL L (H.del b) l
 | _,H,_=>H
theorem tB{L0:List Nat}{nx:Nat}: ∀ (L:List Nat) (l:List (Option VO)) (i:Nat) (H:au),(∀ j,j<L.length→ext L0 nx (i+j)=L.getD j 0)→l.length=L.length→mr l→wrO (ext L0 nx) H i (l.map (Option.map (VO.ren (ext L0 nx))))=wrL L H l
 | [],[],i,H,_,_,_=>rfl
 | [],_ :: _,i,H,_,h,_=>by simp at h
 | _ :: _,[],i,H,_,h,_=>by simp at h
 | b :: L,o :: l,i,H,he,hl,hc=>by
   have e0:ext L0 nx i=b:=by simpa using he 0 (by simp)
   have et: ∀ j,j<L.length→ext L0 nx (i+1+j)=L.getD j 0:=fun j hj=>by
    have:=he (j+1) (by simpa using hj)
    rw [show i+1+j=i+(j+1) by omega,this]
    simp
   cases o with
   | none=>simp only [HU,Option.map_none,wrO,wrL,e0];exact tB L l (i+1) _ et (by simpa using hl) hc
   | some vo=>simp only [HU,HY,wrO,wrL,e0,hc.1 (ext L0 nx)];exact tB L l (i+1) _ et (by simpa using hl) hc.2
section
variable {P:Program}
theorem Ctr.dL{f:FuncId}{args0 args:List SV}{pre:List VO}{c:Cz}(h:Ctr P f args0 pre (fun c'=>c'=c))(L:List Nat){H H':au}{nx:Nat}{Q:Pst}(hlen:L.length=pre.length)(hL:ExtOk L nx)(ha:args=args0.map (SV.ren (ext L nx)))
 (hp:HasO (ext L nx) H 0 (pre.map some)) (hol:c.objs.length=L.length) (hc:mr c.objs) (hv: ∀ ρ,c.v.ren ρ=c.v) (hH:wrL L H c.objs=H') (hQ:Q (c.v,H',nx)):Fnc P f args H nx Q:=by
 refine h.callM L hlen hL ha hp (hv _) ((tB L c.objs 0 H (fun j hj=>by rw [Jf];exact vX hj) hol hc).trans hH) ?_ hQ
 omega
end
section
variable {P:Program} {ro:Option Nat} {fn nt nx:Nat} {T:Tr SV} {k:List AIt} {dfs:List ADf} {H:au} {Q:Pst} {ops:Array Oper} {i:Nat} {l:List Oper} {ty:TypeId} {pos:String} {af:Array Edge} {gd:Option (Nat×Bool)}
theorem ci{g:FuncId}{as1:List Operand}{ats:Array TypeId}{args:List SV}{v:SV}{H':au}{dd:Nat}(hw:aF T ops ⟨some dd,.call {callee:= .value (.func g),args:=as1.toArray,argTypes:=ats},ty,pos,af,gd⟩=some true)(hd:Nat.blt dd nt=true)(ha:du T as1=some args)(hm:bS P g=true)
 (hr:Fnc P g args H nx (fun r=>r=(v,H',nx)))
 (h:Wp P ro ⟨fn,nt,T.set dd v,.inReg ops (i+1) l :: k,dfs,H',nx⟩ Q) :
 Wp P ro ⟨fn,nt,T,.inReg ops i (⟨some dd,.call {callee:= .value (.func g),args:=as1.toArray,argTypes:=ats},ty,pos,af,gd⟩ :: l) :: k,dfs,H,nx⟩ Q:=
 aL hw hd ha hm (hr.mono fun r hr=>by subst hr;exact h)
end
section
variable {b dd n ne sz:Nat}{rt t:TypeId}{x:Operand}
theorem bB{el:TypeId}{len:Nat}{parts:List (Nat×Operand)}{ps:List (Nat×SV)}{z:Value}{cs:List SV}(hw:aF T ops ⟨some dd,.buildSlice t len parts.toArray,ty,pos,af,gd⟩=some true)(hd:Nat.blt dd nt=true)(hu:P.underlying t=some (.slice el))(hs:bH P el=some sz)(h0:Nat.blt 0 sz=true)(hz:dM P el=some z)(hp:oJ T parts=some ps)(hf:kK (fun i=>some (i*sz,sz)) (((List.range (len*sz)).map (z.cells[·% z.cells.size]!)).map .sc) ps=some cs)(h1:bh cs=true)(hlen:Nat.ble (len*sz) 16777216=true)(hll:cs.length=len*sz)
 (h:Wp P ro ⟨fn,nt,T.set dd (.slu nx 0 len),.inReg ops (i+1) l :: k,dfs,(H.set nx (.row false len sz el (gD cs))),(nx+1)⟩ Q):Wp P ro ⟨fn,nt,T,.inReg ops i (⟨some dd,.buildSlice t len parts.toArray,ty,pos,af,gd⟩ :: l) :: k,dfs,H,nx⟩ Q:=
 cZ hw (.inr (fun _ h=>by cases h)) (iQ hu hs (bQ h0) hz hp hf h1 hlen hll) (by rw [aI hd];exact h)
theorem CX{el:TypeId}{lo hi:Option Operand}{eo lw hg:Nat}{rr:Bool}{c:Tr SV}(hw:aF T ops ⟨some dd,.slice t x lo hi none,ty,pos,af,gd⟩=some true)(hd:Nat.blt dd nt=true)(hx:ak T x=some (.slu b eo n))(hu:P.underlying t=some (.slice el))(hs:bH P el=some sz)(hb:H.at' b=some (.row rr ne sz rt c))(hl:nv T 0 lo lw)(hh:nv T n hi hg)(h1:lw≤hg)(h2:eo+hg≤ne)(h3:eo+lw<ne)
 (h:Wp P ro ⟨fn,nt,T.set dd (.slu b (eo+lw) (hg-lw)),.inReg ops (i+1) l :: k,dfs,H,nx⟩ Q):Wp P ro ⟨fn,nt,T,.inReg ops i (⟨some dd,.slice t x lo hi none,ty,pos,af,gd⟩ :: l) :: k,dfs,H,nx⟩ Q:=
 cZ hw (.inr (fun _ h=>by cases h)) ((AK hu hs hx hb hl hh h1 h2 h3).does) (by rw [aI hd];exact h)
theorem dw{e:TypeId}{y:Operand}{q:Nat}{kd:IntKind}{j:Int}{rr:Bool}{c:Tr SV}(hw:aF T ops ⟨some dd,.indexAddr t x y,ty,pos,af,gd⟩=some true)(hd:Nat.blt dd nt=true)(hx:ak T x=some (.slu b 0 n))(hy:ak T y=some (.sc (.int kd j)))(hu:P.underlying t=some (.slice e))(hs:bH P e=some sz)(hb:H.at' b=some (.row rr ne sz rt c))(hj:j=(q:Int))(hi:q<n)(hne:n≤ne)
 (h:Wp P ro ⟨fn,nt,T.set dd (.ptr b (q*sz)),.inReg ops (i+1) l :: k,dfs,H,nx⟩ Q):Wp P ro ⟨fn,nt,T,.inReg ops i (⟨some dd,.indexAddr t x y,ty,pos,af,gd⟩ :: l) :: k,dfs,H,nx⟩ Q:=
 cZ hw (.inr (fun _ h=>by cases h)) ((aN hu hs hx hy hb hj hi hne).does) (by rw [aI hd];exact h)
theorem uy{a:Operand}{o:Nat}{cs vs cs':List Value}{v:SV}(hw:aF T ops ⟨none,.store t a x,ty,pos,af,gd⟩=some true)(ha:ak T a=some (.ptr b o))(hx:ak T x=some v)(hv:v.cells=vs.map .sc)(hs:bH P t=some n)(hb:H.at' b=some (dat false ne sz rt cs))(hn:vs.length=n)(ho:o+n≤ne*sz)(hl:o+n≤cs.length)(h1:tw vs)(hc:cs.take o ++ vs ++ cs.drop (o+n)=cs')
 (h:Wp P ro ⟨fn,nt,T,.inReg ops (i+1) l :: k,dfs,(H.set b (dat false ne sz rt cs')),nx⟩ Q):Wp P ro ⟨fn,nt,T,.inReg ops i (⟨none,.store t a x,ty,pos,af,gd⟩ :: l) :: k,dfs,H,nx⟩ Q:=
 ri hw (.inr (fun _ h=>by cases h)) (hc ▸ r7 hs ha hx hv hb hn ho hl h1) h
end
end
section
variable {P:Program} {nt nx:Nat} {T:Tr SV} {H:au} {ops:Array Oper} {i:Nat} {l:List Oper} {ty:TypeId} {pos:String} {af:Array Edge} {gd:Option (Nat×Bool)} {K:DS→Prop} {rs:List Rec} {Hs:List (au×Nat)} {stg:Nat}
section
variable {a:Int}{b dd n ne q:Nat}{bt rt t yt:TypeId}{cs:List SV}{kd:IntKind}{x y:Operand}
theorem cg(hw:aF (aZ T (a9 ops.toList ⟨some dd,.load t x,ty,pos,af,gd⟩)) ops ⟨some dd,.load t x,ty,pos,af,gd⟩=some true)(hd:Nat.blt dd nt=true)(hx:ak (aZ T (a9 ops.toList ⟨some dd,.load t x,ty,pos,af,gd⟩)) x=some (.ptr b 0))(ha:cU P t=some (some n))(hb:H.at' b=some (aq bt cs))(hn:cs.length=n)
 (h:DrawK P nt ops (i+1) l ⟨T.set dd (.agg cs),H,nx,⟨i,⟨some dd,.load t x,ty,pos,af,gd⟩,(aZ T (a9 ops.toList ⟨some dd,.load t x,ty,pos,af,gd⟩)),stg,false,true,(.agg cs)⟩ :: rs,Hs,stg⟩ K):DrawK P nt ops i (⟨some dd,.load t x,ty,pos,af,gd⟩ :: l) ⟨T,H,nx,rs,Hs,stg⟩ K:=
 bI hw hd (fun _ h=>by cases h) (aV ha hx hb (am n 0 (by subst hn;simp) hn)) h
theorem dQ{a:Operand}{o:Nat}{v:SV}(hw:aF (aZ T (a9 ops.toList ⟨none,.store t a x,ty,pos,af,gd⟩)) ops ⟨none,.store t a x,ty,pos,af,gd⟩=some true)(ha:ak (aZ T (a9 ops.toList ⟨none,.store t a x,ty,pos,af,gd⟩)) a=some (.ptr b o))(hx:ak (aZ T (a9 ops.toList ⟨none,.store t a x,ty,pos,af,gd⟩)) x=some v)(hs:bH P t=some 1)(hb:H.at' b=some (aq bt cs))(h1:v.one=true)(ho:Nat.blt o cs.length=true)
 (h:DrawK P nt ops (i+1) l ⟨T,(H.set b (aq bt (cs.set o v))),nx,⟨i,⟨none,.store t a x,ty,pos,af,gd⟩,(aZ T (a9 ops.toList ⟨none,.store t a x,ty,pos,af,gd⟩)),stg,true,true,ey⟩ :: rs,((H.set b (aq bt (cs.set o v))),nx) :: Hs,stg+1⟩ K):DrawK P nt ops i (⟨none,.store t a x,ty,pos,af,gd⟩ :: l) ⟨T,H,nx,rs,Hs,stg⟩ K:=
 oO hw (fun _ h=>by cases h) (r8 hs ha hx hb h1 (Hz ho)) h
theorem bU{a:Operand}{o:Nat}{vs cs':List SV}(hw:aF (aZ T (a9 ops.toList ⟨none,.store t a x,ty,pos,af,gd⟩)) ops ⟨none,.store t a x,ty,pos,af,gd⟩=some true)(ha:ak (aZ T (a9 ops.toList ⟨none,.store t a x,ty,pos,af,gd⟩)) a=some (.ptr b o))(hx:ak (aZ T (a9 ops.toList ⟨none,.store t a x,ty,pos,af,gd⟩)) x=some (.agg vs))(hs:bH P t=some n)(hb:H.at' b=some (aq bt cs))(hn:vs.length=n)(ho:o+n≤cs.length)(h1:bh vs=true)(hc:cs.take o ++ vs ++ cs.drop (o+n)=cs')
 (h:DrawK P nt ops (i+1) l ⟨T,(H.set b (aq bt cs')),nx,⟨i,⟨none,.store t a x,ty,pos,af,gd⟩,(aZ T (a9 ops.toList ⟨none,.store t a x,ty,pos,af,gd⟩)),stg,true,true,ey⟩ :: rs,((H.set b (aq bt cs')),nx) :: Hs,stg+1⟩ K):DrawK P nt ops i (⟨none,.store t a x,ty,pos,af,gd⟩ :: l) ⟨T,H,nx,rs,Hs,stg⟩ K:=
 oO hw (fun _ h=>by cases h) (hc ▸ cW hs ha hx rfl hb hn ho h1) h
theorem aH{e:TypeId}{j:Int}{rr:Bool}{sz:Nat}{c:Tr SV}(hw:aF (aZ T (a9 ops.toList ⟨some dd,.indexAddr t x y,ty,pos,af,gd⟩)) ops ⟨some dd,.indexAddr t x y,ty,pos,af,gd⟩=some true)(hd:Nat.blt dd nt=true)(hx:ak (aZ T (a9 ops.toList ⟨some dd,.indexAddr t x y,ty,pos,af,gd⟩)) x=some (.slu b 0 n))(hy:ak (aZ T (a9 ops.toList ⟨some dd,.indexAddr t x y,ty,pos,af,gd⟩)) y=some (.sc (.int kd j)))(hu:P.underlying t=some (.slice e))(hs:bH P e=some sz)(hb:H.at' b=some (.row rr ne sz rt c))(hj:j=(q:Int))(hi:q<n)(hne:n≤ne)
 (h:DrawK P nt ops (i+1) l ⟨T.set dd (.ptr b (q*sz)),H,nx,⟨i,⟨some dd,.indexAddr t x y,ty,pos,af,gd⟩,(aZ T (a9 ops.toList ⟨some dd,.indexAddr t x y,ty,pos,af,gd⟩)),stg,false,true,(.ptr b (q*sz))⟩ :: rs,Hs,stg⟩ K):DrawK P nt ops i (⟨some dd,.indexAddr t x y,ty,pos,af,gd⟩ :: l) ⟨T,H,nx,rs,Hs,stg⟩ K:=
 bI hw hd (fun _ h=>by cases h) (aN hu hs hx hy hb hj hi hne) h
theorem cq{A:Type} [Inhabited A]{g:A→Value}{rr:Bool}{d:Array A}(hw:aF (aZ T (a9 ops.toList ⟨some dd,.load t x,ty,pos,af,gd⟩)) ops ⟨some dd,.load t x,ty,pos,af,gd⟩=some true)(hd:Nat.blt dd nt=true)(hx:ak (aZ T (a9 ops.toList ⟨some dd,.load t x,ty,pos,af,gd⟩)) x=some (.ptr b (q*1)))(ha:cU P t=some none)(hb:H.at' b=some (arr rr ne 1 rt (fun a=> [g a]) d))(hi:q<d.size)(hne:d.size≤ne)
 (h:DrawK P nt ops (i+1) l ⟨T.set dd (.sc (g d[q]!)),H,nx,⟨i,⟨some dd,.load t x,ty,pos,af,gd⟩,(aZ T (a9 ops.toList ⟨some dd,.load t x,ty,pos,af,gd⟩)),stg,false,true,(.sc (g d[q]!))⟩ :: rs,Hs,stg⟩ K):DrawK P nt ops i (⟨some dd,.load t x,ty,pos,af,gd⟩ :: l) ⟨T,H,nx,rs,Hs,stg⟩ K:=
 bI hw hd (fun _ h=>by cases h) (Gz ha hx hb hi hne) h
theorem fg{A:Type}{g:A→Value}{a:Operand}{d:Array A}{v:A}(hw:aF (aZ T (a9 ops.toList ⟨none,.store t a x,ty,pos,af,gd⟩)) ops ⟨none,.store t a x,ty,pos,af,gd⟩=some true)(ha:ak (aZ T (a9 ops.toList ⟨none,.store t a x,ty,pos,af,gd⟩)) a=some (.ptr b (q*1)))(hx:ak (aZ T (a9 ops.toList ⟨none,.store t a x,ty,pos,af,gd⟩)) x=some (.sc (g v)))(hg: ∀ a,(g a).oneCell'=true)(hs:bH P t=some 1)(hb:H.at' b=some (arr false ne 1 rt (fun a=> [g a]) d))(hi:q<d.size)(hne:d.size≤ne)
 (h:DrawK P nt ops (i+1) l ⟨T,(H.set b (arr false ne 1 rt (fun a=> [g a]) (d.setIfInBounds q v))),nx,⟨i,⟨none,.store t a x,ty,pos,af,gd⟩,(aZ T (a9 ops.toList ⟨none,.store t a x,ty,pos,af,gd⟩)),stg,true,true,ey⟩ :: rs,((H.set b (arr false ne 1 rt (fun a=> [g a]) (d.setIfInBounds q v))),nx) :: Hs,stg+1⟩ K):DrawK P nt ops i (⟨none,.store t a x,ty,pos,af,gd⟩ :: l) ⟨T,H,nx,rs,Hs,stg⟩ K:=
 oO hw (fun _ h=>by cases h) (GI (f:=fun a=> [g a]) (v:=v) hs ha hx (zQ (hg v)) (yp hg) hb hi hne) h
theorem ly{b:Int}(hw:aF (aZ T (a9 ops.toList ⟨some dd,.binOp .eql t x y yt,ty,pos,af,gd⟩)) ops ⟨some dd,.binOp .eql t x y yt,ty,pos,af,gd⟩=some true)(hd:Nat.blt dd nt=true)(hx:ak (aZ T (a9 ops.toList ⟨some dd,.binOp .eql t x y yt,ty,pos,af,gd⟩)) x=some (.sc (.int kd a)))(hy:ak (aZ T (a9 ops.toList ⟨some dd,.binOp .eql t x y yt,ty,pos,af,gd⟩)) y=some (.sc (.int kd b)))
 (h1:a=b→DrawK P nt ops (i+1) l ⟨T.set dd (.sc (.bool true)),H,nx,⟨i,⟨some dd,.binOp .eql t x y yt,ty,pos,af,gd⟩,(aZ T (a9 ops.toList ⟨some dd,.binOp .eql t x y yt,ty,pos,af,gd⟩)),stg,false,true,(.sc (.bool true))⟩ :: rs,Hs,stg⟩ K) (h2:a≠b→DrawK P nt ops (i+1) l ⟨T.set dd (.sc (.bool false)),H,nx,⟨i,⟨some dd,.binOp .eql t x y yt,ty,pos,af,gd⟩,(aZ T (a9 ops.toList ⟨some dd,.binOp .eql t x y yt,ty,pos,af,gd⟩)),stg,false,true,(.sc (.bool false))⟩ :: rs,Hs,stg⟩ K):DrawK P nt ops i (⟨some dd,.binOp .eql t x y yt,ty,pos,af,gd⟩ :: l) ⟨T,H,nx,rs,Hs,stg⟩ K:=by
 refine bk (di hx hy (.inl ⟨rfl,rfl⟩)) hw hd rfl ?_
 by_cases hc:a=b
 ·have e:(a == b)=true:=by simp;omega
  rw [e];exact h1 hc
 ·have e:(a == b)=false:=by simp;omega
  rw [e];exact h2 (by omega)
theorem oN{b:Int}(hw:aF (aZ T (a9 ops.toList ⟨some dd,.binOp .neq t x y yt,ty,pos,af,gd⟩)) ops ⟨some dd,.binOp .neq t x y yt,ty,pos,af,gd⟩=some true)(hd:Nat.blt dd nt=true)(hx:ak (aZ T (a9 ops.toList ⟨some dd,.binOp .neq t x y yt,ty,pos,af,gd⟩)) x=some (.sc (.int kd a)))(hy:ak (aZ T (a9 ops.toList ⟨some dd,.binOp .neq t x y yt,ty,pos,af,gd⟩)) y=some (.sc (.int kd b)))
 (h1:a≠b→DrawK P nt ops (i+1) l ⟨T.set dd (.sc (.bool true)),H,nx,⟨i,⟨some dd,.binOp .neq t x y yt,ty,pos,af,gd⟩,(aZ T (a9 ops.toList ⟨some dd,.binOp .neq t x y yt,ty,pos,af,gd⟩)),stg,false,true,(.sc (.bool true))⟩ :: rs,Hs,stg⟩ K) (h2:a=b→DrawK P nt ops (i+1) l ⟨T.set dd (.sc (.bool false)),H,nx,⟨i,⟨some dd,.binOp .neq t x y yt,ty,pos,af,gd⟩,(aZ T (a9 ops.toList ⟨some dd,.binOp .neq t x y yt,ty,pos,af,gd⟩)),stg,false,true,(.sc (.bool false))⟩ :: rs,Hs,stg⟩ K):DrawK P nt ops i (⟨some dd,.binOp .neq t x y yt,ty,pos,af,gd⟩ :: l) ⟨T,H,nx,rs,Hs,stg⟩ K:=by
 refine bk (di hx hy (.inr (.inl ⟨rfl,rfl⟩))) hw hd rfl ?_
 by_cases hc:a≠b
 ·have e:(a != b)=true:=by simp;omega
  rw [e];exact h1 hc
 ·have e:(a != b)=false:=by simp;omega
  rw [e];exact h2 (by omega)
theorem cJ{b:Int}(hw:aF (aZ T (a9 ops.toList ⟨some dd,.binOp .lss t x y yt,ty,pos,af,gd⟩)) ops ⟨some dd,.binOp .lss t x y yt,ty,pos,af,gd⟩=some true)(hd:Nat.blt dd nt=true)(hx:ak (aZ T (a9 ops.toList ⟨some dd,.binOp .lss t x y yt,ty,pos,af,gd⟩)) x=some (.sc (.int kd a)))(hy:ak (aZ T (a9 ops.toList ⟨some dd,.binOp .lss t x y yt,ty,pos,af,gd⟩)) y=some (.sc (.int kd b)))
 (h1:a<b→DrawK P nt ops (i+1) l ⟨T.set dd (.sc (.bool true)),H,nx,⟨i,⟨some dd,.binOp .lss t x y yt,ty,pos,af,gd⟩,(aZ T (a9 ops.toList ⟨some dd,.binOp .lss t x y yt,ty,pos,af,gd⟩)),stg,false,true,(.sc (.bool true))⟩ :: rs,Hs,stg⟩ K) (h2:b≤a→DrawK P nt ops (i+1) l ⟨T.set dd (.sc (.bool false)),H,nx,⟨i,⟨some dd,.binOp .lss t x y yt,ty,pos,af,gd⟩,(aZ T (a9 ops.toList ⟨some dd,.binOp .lss t x y yt,ty,pos,af,gd⟩)),stg,false,true,(.sc (.bool false))⟩ :: rs,Hs,stg⟩ K):DrawK P nt ops i (⟨some dd,.binOp .lss t x y yt,ty,pos,af,gd⟩ :: l) ⟨T,H,nx,rs,Hs,stg⟩ K:=by
 refine bk (di hx hy (.inr (.inr (.inl ⟨rfl,rfl⟩)))) hw hd rfl ?_
 by_cases hc:a<b
 ·have e:(decide (a<b))=true:=by simp;omega
  rw [e];exact h1 hc
 ·have e:(decide (a<b))=false:=by simp;omega
  rw [e];exact h2 (by omega)
theorem mK{b:Int}(hw:aF (aZ T (a9 ops.toList ⟨some dd,.binOp .leq t x y yt,ty,pos,af,gd⟩)) ops ⟨some dd,.binOp .leq t x y yt,ty,pos,af,gd⟩=some true)(hd:Nat.blt dd nt=true)(hx:ak (aZ T (a9 ops.toList ⟨some dd,.binOp .leq t x y yt,ty,pos,af,gd⟩)) x=some (.sc (.int kd a)))(hy:ak (aZ T (a9 ops.toList ⟨some dd,.binOp .leq t x y yt,ty,pos,af,gd⟩)) y=some (.sc (.int kd b)))
 (h1:a≤b→DrawK P nt ops (i+1) l ⟨T.set dd (.sc (.bool true)),H,nx,⟨i,⟨some dd,.binOp .leq t x y yt,ty,pos,af,gd⟩,(aZ T (a9 ops.toList ⟨some dd,.binOp .leq t x y yt,ty,pos,af,gd⟩)),stg,false,true,(.sc (.bool true))⟩ :: rs,Hs,stg⟩ K) (h2:b<a→DrawK P nt ops (i+1) l ⟨T.set dd (.sc (.bool false)),H,nx,⟨i,⟨some dd,.binOp .leq t x y yt,ty,pos,af,gd⟩,(aZ T (a9 ops.toList ⟨some dd,.binOp .leq t x y yt,ty,pos,af,gd⟩)),stg,false,true,(.sc (.bool false))⟩ :: rs,Hs,stg⟩ K):DrawK P nt ops i (⟨some dd,.binOp .leq t x y yt,ty,pos,af,gd⟩ :: l) ⟨T,H,nx,rs,Hs,stg⟩ K:=by
 refine bk (di hx hy (.inr (.inr (.inr (.inl ⟨rfl,rfl⟩))))) hw hd rfl ?_
 by_cases hc:a≤b
 ·have e:(decide (a≤b))=true:=by simp;omega
  rw [e];exact h1 hc
 ·have e:(decide (a≤b))=false:=by simp;omega
  rw [e];exact h2 (by omega)
theorem fB{b:Int}(hw:aF (aZ T (a9 ops.toList ⟨some dd,.binOp .gtr t x y yt,ty,pos,af,gd⟩)) ops ⟨some dd,.binOp .gtr t x y yt,ty,pos,af,gd⟩=some true)(hd:Nat.blt dd nt=true)(hx:ak (aZ T (a9 ops.toList ⟨some dd,.binOp .gtr t x y yt,ty,pos,af,gd⟩)) x=some (.sc (.int kd a)))(hy:ak (aZ T (a9 ops.toList ⟨some dd,.binOp .gtr t x y yt,ty,pos,af,gd⟩)) y=some (.sc (.int kd b)))
 (h1:b<a→DrawK P nt ops (i+1) l ⟨T.set dd (.sc (.bool true)),H,nx,⟨i,⟨some dd,.binOp .gtr t x y yt,ty,pos,af,gd⟩,(aZ T (a9 ops.toList ⟨some dd,.binOp .gtr t x y yt,ty,pos,af,gd⟩)),stg,false,true,(.sc (.bool true))⟩ :: rs,Hs,stg⟩ K) (h2:a≤b→DrawK P nt ops (i+1) l ⟨T.set dd (.sc (.bool false)),H,nx,⟨i,⟨some dd,.binOp .gtr t x y yt,ty,pos,af,gd⟩,(aZ T (a9 ops.toList ⟨some dd,.binOp .gtr t x y yt,ty,pos,af,gd⟩)),stg,false,true,(.sc (.bool false))⟩ :: rs,Hs,stg⟩ K):DrawK P nt ops i (⟨some dd,.binOp .gtr t x y yt,ty,pos,af,gd⟩ :: l) ⟨T,H,nx,rs,Hs,stg⟩ K:=by
 refine bk (di hx hy (.inr (.inr (.inr (.inr (.inl ⟨rfl,rfl⟩)))))) hw hd rfl ?_
 by_cases hc:b<a
 ·have e:(decide (a>b))=true:=by simp;omega
  rw [e];exact h1 hc
 ·have e:(decide (a>b))=false:=by simp;omega
  rw [e];exact h2 (by omega)
end
end
section
variable {P:Program}
theorem f9{α β:Type}{fn nt k0 nx id:Nat}{T:Tr SV}{k:List AIt}{dfs:List ADf}{H:au}{Q0:Cz→Prop}{b:Code}(n:Nat)(sl:α→List (Nat×SV))(ob:α→List (Option VO))(φ:α→Prop)(μ:α→Nat)(a0:α)(L0:List Nat)
 (n2:Nat) (sl2:β→List (Nat×SV)) (ob2:β→List (Option VO)) (ψ:β→Prop)
 (hn: ∀ a,(ob a).length=n) (hn2: ∀ a,(ob2 a).length=n2) (h0:φ a0) (hi:IsAt k0 L0 (sl a0) (ob a0) T H nx) (hk: ∀ ρ,k.map (AIt.ren ρ)=k) (hd: ∀ ρ,dfs.map (ADf.ren ρ)=dfs)
 (body: ∀ a,φ a→(∀ T' H' nx' a' L',φ a'→μ a'<μ a→IsAt k0 L' (sl a') (ob a') T' H' nx'→Wp P none ⟨fn,nt,T',.inLoop b :: .inBlock id :: k,dfs,H',nx'⟩ (fun r=> ∃ c,Q0 c∧Ends k0 c r)) →
   (∀ T' H' nx' a' L',ψ a'→IsAt k0 L' (sl2 a') (ob2 a') T' H' nx'→Wp P none ⟨fn,nt,T',k,dfs,H',nx'⟩ (fun r=> ∃ c,Q0 c∧Ends k0 c r)) →
   Wp P none ⟨fn,nt,slT (sl a),.code b :: .inLoop b :: .inBlock id :: k,dfs,ue (ob a),n⟩ (fun r=> ∃ c,Q0 c∧Ends k0 c r))
 (exit: ∀ a,ψ a→Wp P none ⟨fn,nt,slT (sl2 a),k,dfs,ue (ob2 a),n2⟩ (fun r=> ∃ c,Q0 c∧Ends k0 c r)) :
 Wp P none ⟨fn,nt,T,.code (.loop b) :: .inBlock id :: k,dfs,H,nx⟩ (fun r=> ∃ c,Q0 c∧Ends k0 c r):=
 ga n sl ob φ μ a0 L0 hn h0 hi (fun ρ=>by simp [AIt.ren,hk ρ]) hd fun a ha again=>body a ha again fun T' H' nx' a' L' hψ hat=>by
  refine Wp.can hat (hk _) (hd _) ?_
  rw [hn2 a']
  exact exit a' hψ
end
section
variable {P:Program}
theorem CT{β:Type}{fn nt k0 nx:Nat}{T:Tr SV}{k:List AIt}{dfs:List ADf}{H:au}{Q0:Cz→Prop}{c:Operand}{x y:Code}{t:Bool}(n2:Nat)(sl2:β→List (Nat×SV))(ob2:β→List (Option VO))(ψ:β→Prop)
 (hn2: ∀ a,(ob2 a).length=n2) (hc:ak T c=some (.sc (.bool t))) (hk: ∀ ρ,k.map (AIt.ren ρ)=k) (hd: ∀ ρ,dfs.map (ADf.ren ρ)=dfs)
 (arm1:t=true→(∀ T' H' nx' a' L',ψ a'→IsAt k0 L' (sl2 a') (ob2 a') T' H' nx'→Wp P none ⟨fn,nt,T',k,dfs,H',nx'⟩ (fun r=> ∃ c,Q0 c∧Ends k0 c r)) →
   Wp P none ⟨fn,nt,T,.code x :: k,dfs,H,nx⟩ (fun r=> ∃ c,Q0 c∧Ends k0 c r))
 (arm2:t=false→(∀ T' H' nx' a' L',ψ a'→IsAt k0 L' (sl2 a') (ob2 a') T' H' nx'→Wp P none ⟨fn,nt,T',k,dfs,H',nx'⟩ (fun r=> ∃ c,Q0 c∧Ends k0 c r)) →
   Wp P none ⟨fn,nt,T,.code y :: k,dfs,H,nx⟩ (fun r=> ∃ c,Q0 c∧Ends k0 c r))
 (rest: ∀ a,ψ a→Wp P none ⟨fn,nt,slT (sl2 a),k,dfs,ue (ob2 a),n2⟩ (fun r=> ∃ c,Q0 c∧Ends k0 c r)) :
 Wp P none ⟨fn,nt,T,.code (.cond c x y) :: k,dfs,H,nx⟩ (fun r=> ∃ c,Q0 c∧Ends k0 c r):=by
 have out: ∀ T' H' nx' a' L',ψ a'→IsAt k0 L' (sl2 a') (ob2 a') T' H' nx'→Wp P none ⟨fn,nt,T',k,dfs,H',nx'⟩ (fun r=> ∃ c,Q0 c∧Ends k0 c r):=fun T' H' nx' a' L' hψ hat=>by
  refine Wp.can hat (hk _) (hd _) ?_
  rw [hn2 a']
  exact rest a' hψ
 exact xE hc (fun h=>arm1 h out) (fun h=>arm2 h out)
theorem xA{β:Type}{fn nt k0 nx:Nat}{T:Tr SV}{it:AIt}{k:List AIt}{dfs:List ADf}{H:au}{Q0:Cz→Prop}(n2:Nat)(sl2:β→List (Nat×SV))(ob2:β→List (Option VO))(ψ:β→Prop)
 (hn2: ∀ a,(ob2 a).length=n2) (hk: ∀ ρ,k.map (AIt.ren ρ)=k) (hd: ∀ ρ,dfs.map (ADf.ren ρ)=dfs)
 (body:(∀ T' H' nx' a' L',ψ a'→IsAt k0 L' (sl2 a') (ob2 a') T' H' nx'→Wp P none ⟨fn,nt,T',k,dfs,H',nx'⟩ (fun r=> ∃ c,Q0 c∧Ends k0 c r)) →
   Wp P none ⟨fn,nt,T,it :: k,dfs,H,nx⟩ (fun r=> ∃ c,Q0 c∧Ends k0 c r))
 (rest: ∀ a,ψ a→Wp P none ⟨fn,nt,slT (sl2 a),k,dfs,ue (ob2 a),n2⟩ (fun r=> ∃ c,Q0 c∧Ends k0 c r)) :
 Wp P none ⟨fn,nt,T,it :: k,dfs,H,nx⟩ (fun r=> ∃ c,Q0 c∧Ends k0 c r):=
 body fun T' H' nx' a' L' hψ hat=>by
  refine Wp.can hat (hk _) (hd _) ?_
  rw [hn2 a']
  exact rest a' hψ
end
section
variable {P:Program}
theorem jX{ro:Option Nat}{fn nt nx:Nat}{T:Tr SV}{k:List AIt}{dfs:List ADf}{H:au}{Q:Pst}{d:Nat}(sz:Nat)(t:TypeId)(hT:T.at' d=some (.sc (.slice none 0 0)))(h0:Nat.blt 0 sz=true)
 (h:Wp P ro ⟨fn,nt,T.set d (.slu nx 0 0),k,dfs,H.set nx (dat false 0 sz t []),nx+1⟩ Q):Wp P ro ⟨fn,nt,T,k,dfs,H,nx⟩ Q:=by
 refine⟨fun K w0 e w tmps todo ds kd rof cs hS hTr htd hds hc=>?_⟩
 have hf:=hS.fresh nx (HS _)
 have hle:=Env.dV (x:=⟨0,0,0,sz,true⟩) hf
 have hT2:TRel (e.put nx ⟨0,0,0,sz,true⟩) nt (T.set d (.slu nx 0 0)) tmps:=by
  refine⟨hTr.1,fun t s hs=>?_⟩
  rcases bL hs with ⟨rfl,rfl⟩|⟨_,hs⟩
  ·obtain⟨v,g1,g2⟩:=hTr.2 _ _ hT
   simp only [SV.conc,Ht] at g1
   subst g1
   exact⟨_,by simp [SV.conc,Env.b9,Ent.at],g2⟩
  ·obtain⟨v,g1,g2⟩:=hTr.2 _ _ hs
   exact⟨v,SV.dj hle _ _ g1,g2⟩
 obtain⟨r,hr,e1,w',v,g1,g2⟩:=h.run K w0 _ w tmps todo ds kd rof cs (hS.newNil false sz t _ (bQ h0)) hT2 (htd.mono hle) (hds.mono hle) (hc.mono hle)
 exact⟨r,hr,e1,w',v,Env.le_trans hle g1,g2⟩
end
theorem iM{P:Program}{t:TypeId}{d:TypeDesc}{A:Type}(f:TypeDesc→Sem A)(h:P.underlying t=some d):aT P (underlying t >>= f)=aT P (f d):=by
 show aT P ((match P.underlying t with|some d=>(pure d:Sem TypeDesc)|none=>stuck "no such type").bind f)=_
 rw [h]
 rfl
section
variable {K V:Type} [DecidableEq K]
structure KEnc (P:Program) (kt:TypeId) (enc:K→Value):Prop where
 find: ∀ (l:List (K×SV×Nat)) (k:K),nr P kt (enc k) (l.map fun x=>(enc x.1,x.2))=some (l.findIdx? fun x=>decide (x.1=k))
 check: ∀ k,aT P (Instr.checkKey false 10000 kt (enc k))=some ()
 bits: ∀ k,Instr.sameBits 10000 (enc k) (enc k)=true
section
variable {kt:TypeId}{P:Program}{kd:TypeDesc}
theorem oI{enc:K→Value}{kd:TypeDesc}(hs: ∀ a b,Instr.sameNow kd (enc a) (enc b)=some (decide (a=b)))(k:K): ∀ (l:List (K×SV×Nat)) (i:Nat),
 Instr.findNow kd (enc k) (dummies (l.map fun x=>(enc x.1,x.2))) i=some ((l.findIdx? fun x=>decide (x.1=k)).map fun j=>(i+j,.nilFunc))
 | [],i=>rfl
 | x :: l,i=>by
   simp only [dummies,HU,Instr.findNow,hs,List.findIdx?_cons]
   by_cases h:x.1=k
   ·simp [h]
   ·have h': ¬ k=x.1:=fun e=>h e.symm
    have ih:=oI hs k l (i+1)
    simp only [dummies] at ih
    simp only [h,h',decide_false,ih,Option.map_map,Bool.false_eq_true,if_false]
    congr 2
    funext j
    simp only [Function.comp_apply,HH,and_true]
    omega
theorem lz{v:Value}(h:P.underlying kt=some kd)(hk:(match kd with | .interface _ | .array .. | .struct _=>false|_=>true)=true)(e:Bool)(n:Nat) :
 aT P (Instr.checkKey e (n+1) kt v)=some ():=by
 unfold Instr.checkKey
 rw [iM _ h]
 cases kd <;> first|rfl|simp at hk
theorem DI{enc:K→Value}(h:P.underlying kt=some kd)(hk:(match kd with | .interface _ | .array .. | .struct _=>false|_=>true)=true)(hs: ∀ a b,Instr.sameNow kd (enc a) (enc b)=some (decide (a=b)))
 (hb: ∀ k,Instr.sameBits 10000 (enc k) (enc k)=true):KEnc P kt enc:=by
 refine⟨fun l k=>?_,fun k=>lz h hk _ _,hb⟩
 unfold nr
 rw [lz h hk]
 simp only
 unfold Instr.findKey
 rw [iM _ h]
 simp only [oI hs]
 cases l.findIdx? fun x=>decide (x.1=k) <;> simp [pure,aT]
theorem gP(h:P.underlying kt=some (.int .i64)):KEnc P kt (fun n:Int=> .int .i64 n):=
 DI h rfl (fun a b=>by simp only [Instr.sameNow,if_true,Ht];rw [Bool.eq_iff_iff];simp) (fun k=>by simp [Instr.sameBits])
def gC(m:List (K×V×Nat))(k:K):Option V:=(m.find? fun x=>decide (x.1=k)).map (·.2.1)
def gO:List (K×V×Nat)→K→V→Nat→List (K×V×Nat)
 | [],k,v,c=> [(k,v,c)]
 | x :: m,k,v,c=>if x.1=k then(k,v,x.2.2) :: m else x :: gO m k v c
def po(m:List (K×V×Nat))(k:K)(c:Nat):Nat:=match gC m k with
 | some _=>c
 | none=>c+1
def DJ:List (K×V×Nat)→K→List (K×V×Nat)
 | [],_=> []
 | x :: m,k=>if x.1=k then m else x :: DJ m k
abbrev vz(enc:K→Value)(val:V→SV)(m:List (K×V×Nat)):List (Value×SV×Nat):=m.map fun x=>(enc x.1,val x.2.1,x.2.2)
abbrev iT(enc:K→Value)(val:V→SV)(m:List (K×V×Nat))(c:Nat):VO:= .map (vz enc val m) c
end
structure KOk (m:List (K×V×Nat)) (c:Nat):Prop where
 keys:(m.map (·.1)).Nodup
 born:(m.map (·.2.2)).Nodup
 lt: ∀ x∈m,x.2.2<c
omit [DecidableEq K] in
theorem KOk.nil(c:Nat):KOk ([]:List (K×V×Nat)) c:=⟨by simp,by simp,by simp⟩
section
variable {m:List (K×V×Nat)}
theorem DH(m:List (K×V×Nat))(k:K):match m.findIdx? fun x=>decide (x.1=k)with
 | none=>gC m k=none∧DJ m k=m∧ ∀ v c,gO m k v c=m ++ [(k,v,c)]
 | some i=> ∃ x,m[i]? =some x∧x.1=k∧gC m k=some x.2.1∧DJ m k=m.eraseIdx i∧ ∀ v c,gO m k v c=m.set i (k,v,x.2.2):=by
 induction m with
 | nil=>simp [gC,DJ,gO]
 | cons y m ih=>
   rw [List.findIdx?_cons]
   by_cases h:y.1=k
   ·simp [h,gC,DJ,gO]
   ·simp only [h,decide_false,Bool.false_eq_true,if_false]
    cases hi:m.findIdx? fun x=>decide (x.1=k)with
    | none=>
      rw [hi] at ih
      obtain⟨h1,h2,h3⟩:=ih
      refine⟨?_,?_,fun v c=>?_⟩
      ·simpa [gC,h] using h1
      ·simp [DJ,h,h2]
      ·simp [gO,h,h3]
    | some i=>
      rw [hi] at ih
      obtain⟨x,h1,h2,h3,h4,h5⟩:=ih
      refine⟨x,by simpa using h1,h2,?_,?_,fun v c=>?_⟩
      ·simpa [gC,h] using h3
      ·simp [DJ,h,h4]
      ·simp [gO,h,h5]
theorem lX{k:K}:gC m k=none↔k∉m.map (·.1):=by
 induction m with
 | nil=>simp [gC]
 | cons y m ih=>
   by_cases h:y.1=k
   ·simp [gC,h]
   ·have:gC (y :: m) k=gC m k:=by simp [gC,h]
    rw [this,ih]
    simp [Ne.symm h]
theorem vt{k:K}{v:V}{c:Nat}{x:K}:x∈(gO m k v c).map (·.1)↔x=k∨x∈m.map (·.1):=by
 induction m with
 | nil=>simp [gO]
 | cons y m ih=>
   unfold gO
   by_cases h:y.1=k
   ·simp [h]
   ·simp only [h,if_false,HU,Js,ih]
    constructor <;> (intro h';rcases h' with h'|h'|h' <;> simp [h'])
theorem KOk.put{c:Nat}(h:KOk m c)(k:K)(v:V):KOk (gO m k v c) (po m k c):=by
 have hk:=DH m k
 cases hi:m.findIdx? fun x=>decide (x.1=k)with
 | none=>
   rw [hi] at hk
   obtain⟨h1,_,h3⟩:=hk
   rw [h3,show po m k c=c+1 by simp [po,h1]]
   refine⟨?_,?_,?_⟩
   ·rw [HX,List.nodup_append]
    exact⟨h.keys,by simp,fun a ha b hb=>by simp at hb;subst hb;intro e;subst e;exact lX.1 h1 ha⟩
   ·rw [HX,List.nodup_append]
    refine⟨h.born,by simp,fun a ha b hb=>?_⟩
    simp at hb
    subst hb
    obtain⟨x,hx,rfl⟩:=JA.1 ha
    have:=h.lt x hx
    omega
   ·intro x hx
    rcases List.mem_append.1 hx with hx|hx
    ·have:=h.lt x hx;omega
    ·simp at hx;subst hx;show c<c+1;omega
 | some i=>
   rw [hi] at hk
   obtain⟨x,h1,h2,h3,_,h5⟩:=hk
   rw [h5,show po m k c=c by simp [po,h3]]
   obtain⟨hlt,rfl⟩:=Hy.1 h1
   refine⟨?_,?_,?_⟩
   ·rw [List.map_set]
    rw [show(m.map (·.1)).set i k=m.map (·.1) by rw [← h2];apply Jy;intro j;rw [List.getElem?_set];by_cases hj:i=j
                                                 ·subst hj;simp [hlt]
                                                 ·simp [hj]]
    exact h.keys
   ·rw [List.map_set]
    rw [show(m.map (·.2.2)).set i m[i].2.2=m.map (·.2.2) by apply Jy;intro j;rw [List.getElem?_set];by_cases hj:i=j
                                                            ·subst hj;simp [hlt]
                                                            ·simp [hj]]
    exact h.born
   ·intro y hy
    rcases List.mem_or_eq_of_mem_set hy with hy|rfl
    ·exact h.lt y hy
    ·exact h.lt m[i] (Jc hlt)
end
omit [DecidableEq K] in
theorem KOk.eq{m:List (K×V×Nat)}{c:Nat}(h:KOk m c){x y:K×V×Nat}(hx:x∈m)(hy:y∈m)(hb:x.2.2=y.2.2):x=y:=by
 obtain⟨i,hi⟩:=List.getElem?_of_mem hx
 obtain⟨j,hj⟩:=List.getElem?_of_mem hy
 obtain⟨hi',rfl⟩:=Hy.1 hi
 obtain⟨hj',rfl⟩:=Hy.1 hj
 have:i=j:=by
  refine(List.getElem_inj (h₀:=by simpa using hi') (h₁:=by simpa using hj') h.born).1 ?_
  simpa using hb
 subst this
 rfl
omit [DecidableEq K] in
theorem KOk.nodup{m:List (K×V×Nat)}{c:Nat}(h:KOk m c):m.Nodup:=by
 have:=h.born
 exact List.Pairwise.of_map (·.2.2) (fun a b hab e=>hab (by rw [e])) this
abbrev itV(b c:Nat)(done:List (K×V×Nat)):VO:= .iter (some b) c (done.map (·.2.2)) c
variable {P:Program} {T:Tr SV} {H:au} {nx:Nat} {d:Option Tmp} {ty:TypeId} {pos:String} {af:Array Edge} {gd:Option (Nat×Bool)}
section
variable {kk:K}{b c:Nat}{val:V→SV}{e kt t:TypeId}{enc:K→Value}{x y:Operand}{m:List (K×V×Nat)}
theorem iy(hE:KEnc P kt enc)(m:List (K×V×Nat))(k:K):nr P kt (enc k) (vz enc val m)=some (m.findIdx? fun x=>decide (x.1=k)):=by
 have:=hE.find (m.map fun x=>(x.1,val x.2.1,x.2.2)) k
 rw [List.map_map] at this
 rw [show vz enc val m=m.map ((fun x:K×SV×Nat=>(enc x.1,x.2)) ∘ fun x:K×V×Nat=>(x.1,val x.2.1,x.2.2))from rfl,this]
 congr 1
 rw [List.findIdx?_map]
 rfl
theorem tO{v:V}{ok:Bool}(hx:ak T x=some (.mp b))(hy:ak T y=some (.sc (enc kk)))(hu:P.underlying t=some (.map kt e))(hE:KEnc P kt enc)
 (hb:H.at' b=some (iT enc val m c)) (hg:gC m kk=some v):ReadDoes P T H ⟨d,.lookup t x y ok,ty,pos,af,gd⟩ (bif ok then .tup [val v,.sc (.bool true)] else val v):=by
 refine eH ?_
 have hk:=DH m kk
 unfold cx
 simp only [zi,hy,SV.lit,HZ,hx,gt,hu,hb,iy hE]
 cases hi:m.findIdx? fun x=>decide (x.1=kk)with
 | none=>rw [hi] at hk;rw [hk.1] at hg;cases hg
 | some i=>
   rw [hi] at hk
   obtain⟨z,h1,_,h3,_⟩:=hk
   rw [hg] at h3
   simp only [Ht] at h3
   subst h3
   simp only [Ju,h1,HY]
theorem uN{z:Value}{ok:Bool}(hx:ak T x=some (.mp b))(hy:ak T y=some (.sc (enc kk)))(hu:P.underlying t=some (.map kt e))(hE:KEnc P kt enc)
 (hb:H.at' b=some (iT enc val m c)) (hg:gC m kk=none) (hz:dM P e=some z):ReadDoes P T H ⟨d,.lookup t x y ok,ty,pos,af,gd⟩ (bif ok then .tup [.sc z,.sc (.bool false)] else .sc z):=by
 refine eH ?_
 have hk:=DH m kk
 unfold cx
 simp only [zi,hy,SV.lit,HZ,hx,gt,hu,hb,iy hE]
 cases hi:m.findIdx? fun x=>decide (x.1=kk)with
 | none=>simp only [hz]
 | some i=>
   rw [hi] at hk
   obtain⟨z,h1,_,h3,_⟩:=hk
   rw [hg] at h3
   cases h3
theorem AZ{w:Operand}{v:V}(hx:ak T x=some (.mp b))(hy:ak T y=some (.sc (enc kk)))(hu:P.underlying t=some (.map kt e))(hE:KEnc P kt enc)
 (hb:H.at' b=some (iT enc val m c)) (hw:ak T w=some (val v)):OpDoes P T H nx ⟨d,.mapUpdate t x y w,ty,pos,af,gd⟩ (.skip,H.set b (iT enc val (gO m kk v c) (po m kk c)),nx):=by
 refine iW ?_
 have hk:=DH m kk
 unfold fN
 simp only [zi,hy,SV.lit,HZ,hx,hw,ox,hu,hb,GA,hE.check,iy hE]
 cases hi:m.findIdx? fun x=>decide (x.1=kk)with
 | none=>
   rw [hi] at hk
   obtain⟨h1,_,h3⟩:=hk
   simp only [iT,vz,h3,po,h1,HX,HU,List.map_nil]
 | some i=>
   rw [hi] at hk
   obtain⟨z,h1,h2,h3,_,h5⟩:=hk
   simp only [iT,vz,h5,po,h3,Ju,h1,HY,h2,hE.bits,cond_true,List.map_set]
end
omit [DecidableEq K] in
theorem AY{enc:K→Value}{val:V→SV}{m:List (K×V×Nat)}{c:Nat}{t kt e:TypeId}{x:Operand}{b:Nat}(hx:ak T x=some (.mp b))(hu:P.underlying t=some (.map kt e))(hb:H.at' b=some (iT enc val m c)) :
 OpDoes P T H nx ⟨d,.range t x,ty,pos,af,gd⟩ (.val (.ptr nx 0),H.set nx (itV b c ([]:List (K×V×Nat))),nx+1):=by
 refine iW ?_
 unfold fN
 simp only [hx,HZ,uR,hu,hb]
 rfl
omit [DecidableEq K] in
theorem AP{enc:K→Value}{val:V→SV}{m:List (K×V×Nat)}{c:Nat}{it:Operand}{b r:Nat}{done:List (K×V×Nat)}{x:K×V×Nat}(hx:ak T it=some (.ptr r 0))(hr:H.at' r=some (itV b c (done ++ [x])))(hb:H.at' b=some (iT enc val m c))(hok:KOk m c)(hm:x∈m) :
 ReadDoes P T H ⟨d,.entry it,ty,pos,af,gd⟩ (.tup [.sc (enc x.1),val x.2.1]):=by
 refine eH ?_
 unfold cx
 simp only [hx,HZ,v3,hr,HX,HU,List.map_nil,List.getLast?_append,List.getLast?_singleton,Option.some_or,hb,Nat.beq_refl,cond_true]
 have hf:(vz enc val m).find? (fun y=>Nat.beq y.2.2 x.2.2)=some (enc x.1,val x.2.1,x.2.2):=by
  have:m.find? (fun y=>Nat.beq y.2.2 x.2.2)=some x:=by
   cases hh:m.find? (fun y=>Nat.beq y.2.2 x.2.2)with
   | none=>exact absurd (List.find?_eq_none.1 hh x hm) (by simp)
   | some y=>
     have h1:=List.find?_some hh
     exact congrArg some (hok.eq (List.mem_of_find?_eq_some hh) hm (Jt h1))
  rw [vz,List.find?_map,show((fun y:Value×SV×Nat=>Nat.beq y.2.2 x.2.2) ∘ fun x:K×V×Nat=>(enc x.1,val x.2.1,x.2.2))=fun y:K×V×Nat=>Nat.beq y.2.2 x.2.2 from rfl,this]
  rfl
 rw [hf]
end
section
variable {P:Program} {T:Tr SV} {H:au} {nx:Nat} {d:Option Tmp} {ty:TypeId} {pos:String} {af:Array Edge} {gd:Option (Nat×Bool)}
theorem e8{t yt:TypeId}{x y:Operand}{s:SV}{v:Value}{d0:TypeDesc}(hx:ak T x=some s)(hy:ak T y=some (.sc v))(hu:P.underlying t=some d0)(hn:sD s v d0=true):ReadDoes P T H ⟨d,.binOp .eql t x y yt,ty,pos,af,gd⟩ (.sc (.bool false)):=by
 refine eH ?_
 unfold cx
 simp only [hx,hy,HZ,qw,hu,hn,cond_true]
theorem tP{x:Operand}{i:Nat}{xs:Array Value}{v:Value}(h:ak T x=some (.sc (.tuple xs)))(hi:xs[i]? =some v):ReadDoes P T H ⟨d,.extract x i,ty,pos,af,gd⟩ (.sc v):=by
 refine eH ?_
 unfold cx
 simp only [h,HZ,Dw,hi,HY]
theorem wS{t:TypeId}:OpDoes P T H nx ⟨d,.makeMap t none,ty,pos,af,gd⟩ (.val (.mp nx),H.set nx (.map [] 0),nx+1):=iW rfl
end
section
variable {P:Program} {T:Tr SV} {H:au} {nx:Nat} {d0:Option Tmp} {ty:TypeId} {pos:String} {af:Array Edge} {gd:Option (Nat×Bool)}
theorem gW{t e:TypeId}{x y:Operand}{b o n sz:Nat}{k:IntKind}{j:Int}{q:Nat}(hx:ak T x=some (.ptr b o))(hy:ak T y=some (.sc (.int k j)))(hu:P.underlying t=some (.array n e))(hs:bH P e=some sz)(hq:j=(q:Int))(hi:q<n) :
 ReadDoes P T H ⟨d0,.indexAddr t x y,ty,pos,af,gd⟩ (.ptr b (o+q*sz)):=by
 refine eH ?_
 subst hq
 unfold cx
 simp only [Af,hx,hy,HZ]
 show(dD P H t q (.ptr b o))=_
 simp only [dD,hu,hs]
 rw [show Nat.blt q n=true from HG hi]
 rfl
end
section
variable {P:Program} {T:Tr SV} {H:au} {nx:Nat} {d:Option Tmp} {ty:TypeId} {pos:String} {af:Array Edge} {gd:Option (Nat×Bool)}
theorem De{b m sz:Nat}{ro:Bool}{t:TypeId}{l:List SV}{vs:List Value}(hb:H.at' b=some (.row ro m sz t (gD l)))(hl:l=vs.map .sc)(hlen:vs.length=m*sz):RdV P H sz (.slu b 0 m) m vs:=by
 subst hl
 rw [gQ] at hb
 exact tL hb (by omega) (by rw [Nat.zero_mul,List.drop_zero];exact HK (by omega)) hlen
theorem yO{A:Type}{f:A→List Value}{xs:List A}{a:A}{t tx el:TypeId}{sz b r q:Nat}{s x:Operand}{rq:Bool}{tq:TypeId}{cs:List SV}(hx0:ak T s=some (.slu r 0 xs.length))(hx:ak T x=some (.slu q 0 1))(hu:P.underlying t=some (.slice el))
 (hk:(∃ e',P.underlying tx=some (.slice e'))∨P.underlying tx=some .string) (hs:bH P el=some sz) (h0:Nat.blt 0 sz=true) (hz:fF P el sz=true) (hb:(P.info? el).map (·.bytes)=some b) (hro:H.at' r=some (dat false xs.length sz el (xs.flatMap f)))
 (hq:H.at' q=some (.row rq 1 sz tq (gD cs))) (hcs:cs=(f a).map .sc) (hf:RecOf f sz) (hm1:(xs.length+1)*b≤140737488355328) (hm2:xs.length+1≤1000000000) :
 OpDoes P T H nx ⟨d,.call {callee:= .builtin .append,args:= #[s,x],argTypes:= #[t,tx]},ty,pos,af,gd⟩ (.val (.slu nx 0 (xs ++ [a]).length),(H.del r).set nx (dat false (xs ++ [a]).length sz el ((xs ++ [a]).flatMap f)),nx+1):=by
 have h:=yT (P:=P) (T:=T) (H:=H) (nx:=nx) (d:=d) (ty:=ty) (pos:=pos) (af:=af) (gd:=gd) (eo:=0) (n:=xs.length) (m:=1) (vs:=f a) (ws:=xs.flatMap f) hu hk hs (bQ h0) hz hb hx0 hx (by rw [Jf];exact hro)
  (by rw [Nat.zero_mul,List.drop_zero];exact HK (by rw [nM hf.len];omega)) (nM hf.len xs) (De hq hcs (by rw [hf.len];omega)) (hf.one a) (by decide) hm1 hm2
 rw [show(xs ++ [a]).length=xs.length+1 by simp,show(xs ++ [a]).flatMap f=xs.flatMap f ++ f a by simp]
 exact h
end
section
variable {P:Program} {ro:Option Nat} {fn nt nx:Nat} {T:Tr SV} {k:List AIt} {dfs:List ADf} {H:au} {Q:Pst} {ops:Array Oper} {i:Nat} {l:List Oper} {d:Option Tmp} {ty:TypeId} {pos:String} {af:Array Edge} {gd:Option (Nat×Bool)}
section
variable {b c dd:Nat}{K V:Type}{val:V→SV}{e t:TypeId}{enc:K→Value}{x:Operand}{m:List (K×V×Nat)}
theorem xJ [DecidableEq K]{kt:TypeId}{y:Operand}{kk:K}{v:V}(hw:aF T ops ⟨some dd,.lookup t x y false,ty,pos,af,gd⟩=some true)(hd:Nat.blt dd nt=true)(hx:ak T x=some (.mp b))(hy:ak T y=some (.sc (enc kk)))(hu:P.underlying t=some (.map kt e))(hE:KEnc P kt enc)(hb:H.at' b=some (iT enc val m c))(hg:gC m kk=some v)
 (h:Wp P ro ⟨fn,nt,T.set dd (val v),.inReg ops (i+1) l :: k,dfs,H,nx⟩ Q):Wp P ro ⟨fn,nt,T,.inReg ops i (⟨some dd,.lookup t x y false,ty,pos,af,gd⟩ :: l) :: k,dfs,H,nx⟩ Q:=
 cZ hw (.inr (fun _ h=>by cases h)) ((tO (ok:=false) hx hy hu hE hb hg).does) (by rw [aI hd];exact h)
theorem CY [DecidableEq K]{kt:TypeId}(hw:aF T ops ⟨some dd,.range t x,ty,pos,af,gd⟩=some true)(hd:Nat.blt dd nt=true)(hx:ak T x=some (.mp b))(hu:P.underlying t=some (.map kt e))(hb:H.at' b=some (iT enc val m c))
 (h:Wp P ro ⟨fn,nt,T.set dd (.ptr nx 0),.inReg ops (i+1) l :: k,dfs,(H.set nx (itV b c ([]:List (K×V×Nat)))),(nx+1)⟩ Q):Wp P ro ⟨fn,nt,T,.inReg ops i (⟨some dd,.range t x,ty,pos,af,gd⟩ :: l) :: k,dfs,H,nx⟩ Q:=
 cZ hw (.inr (fun _ h=>by cases h)) (AY hx hu hb) (by rw [aI hd];exact h)
theorem CZ [DecidableEq K]{it:Operand}{r:Nat}{done:List (K×V×Nat)}{x:K×V×Nat}(hw:aF T ops ⟨some dd,.entry it,ty,pos,af,gd⟩=some true)(hd:Nat.blt dd nt=true)(hx:ak T it=some (.ptr r 0))(hr:H.at' r=some (itV b c (done ++ [x])))(hb:H.at' b=some (iT enc val m c))(hok:KOk m c)(hm:x∈m)
 (h:Wp P ro ⟨fn,nt,T.set dd (.tup [.sc (enc x.1),val x.2.1]),.inReg ops (i+1) l :: k,dfs,H,nx⟩ Q):Wp P ro ⟨fn,nt,T,.inReg ops i (⟨some dd,.entry it,ty,pos,af,gd⟩ :: l) :: k,dfs,H,nx⟩ Q:=
 cZ hw (.inr (fun _ h=>by cases h)) ((AP hx hr hb hok hm).does) (by rw [aI hd];exact h)
theorem eR{y:Operand}{o n sz:Nat}{kd:IntKind}{j:Int}{q:Nat}(hw:aF T ops ⟨some dd,.indexAddr t x y,ty,pos,af,gd⟩=some true)(hd:Nat.blt dd nt=true)(hx:ak T x=some (.ptr b o))(hy:ak T y=some (.sc (.int kd j)))(hu:P.underlying t=some (.array n e))(hs:bH P e=some sz)(hq:j=(q:Int))(hi:q<n)
 (h:Wp P ro ⟨fn,nt,T.set dd (.ptr b (o+q*sz)),.inReg ops (i+1) l :: k,dfs,H,nx⟩ Q):Wp P ro ⟨fn,nt,T,.inReg ops i (⟨some dd,.indexAddr t x y,ty,pos,af,gd⟩ :: l) :: k,dfs,H,nx⟩ Q:=
 cZ hw (.inr (fun _ h=>by cases h)) ((gW hx hy hu hs hq hi).does) (by rw [aI hd];exact h)
theorem lC{A:Type}{f:A→List Value}{xs:List A}{a:A}{tx el:TypeId}{sz r q:Nat}{s:Operand}{rq:Bool}{tq:TypeId}{cs:List SV}(hw:aF T ops ⟨some dd,.call {callee:= .builtin .append,args:= #[s,x],argTypes:= #[t,tx]},ty,pos,af,gd⟩=some true)(hd:Nat.blt dd nt=true)(hx0:ak T s=some (.slu r 0 xs.length))(hx:ak T x=some (.slu q 0 1))(hu:P.underlying t=some (.slice el))(hk:(∃ e',P.underlying tx=some (.slice e'))∨P.underlying tx=some .string)(hs:bH P el=some sz)(h0:Nat.blt 0 sz=true)(hz:fF P el sz=true)(hb:(P.info? el).map (·.bytes)=some b)(hro:H.at' r=some (dat false xs.length sz el (xs.flatMap f)))(hq:H.at' q=some (.row rq 1 sz tq (gD cs)))(hcs:cs=(f a).map .sc)(hf:RecOf f sz)(hm1:(xs.length+1)*b≤140737488355328)(hm2:xs.length+1≤1000000000)
 (h:Wp P ro ⟨fn,nt,T.set dd (.slu nx 0 (xs ++ [a]).length),.inReg ops (i+1) l :: k,dfs,((H.del r).set nx (dat false (xs ++ [a]).length sz el ((xs ++ [a]).flatMap f))),(nx+1)⟩ Q):Wp P ro ⟨fn,nt,T,.inReg ops i (⟨some dd,.call {callee:= .builtin .append,args:= #[s,x],argTypes:= #[t,tx]},ty,pos,af,gd⟩ :: l) :: k,dfs,H,nx⟩ Q:=
 cZ hw (.inr (fun _ h=>by cases h)) (yO hx0 hx hu hk hs h0 hz hb hro hq hcs hf hm1 hm2) (by rw [aI hd];exact h)
end
end
section
variable {P:Program} {nt nx:Nat} {T:Tr SV} {H:au} {ops:Array Oper} {i:Nat} {l:List Oper} {ty:TypeId} {pos:String} {af:Array Edge} {gd:Option (Nat×Bool)} {K:DS→Prop} {rs:List Rec} {Hs:List (au×Nat)} {stg:Nat}
section
variable {K0:Type}{kk:K0}{b c dd:Nat}{V:Type}{val:V→SV}{e kt t:TypeId}{x y:Operand}{enc:K0→Value}{m:List (K0×V×Nat)}
theorem Bq [DecidableEq K0]{v:V}(hw:aF (aZ T (a9 ops.toList ⟨some dd,.lookup t x y false,ty,pos,af,gd⟩)) ops ⟨some dd,.lookup t x y false,ty,pos,af,gd⟩=some true)(hd:Nat.blt dd nt=true)(hx:ak (aZ T (a9 ops.toList ⟨some dd,.lookup t x y false,ty,pos,af,gd⟩)) x=some (.mp b))(hy:ak (aZ T (a9 ops.toList ⟨some dd,.lookup t x y false,ty,pos,af,gd⟩)) y=some (.sc (enc kk)))(hu:P.underlying t=some (.map kt e))(hE:KEnc P kt enc)(hb:H.at' b=some (iT enc val m c))(hg:gC m kk=some v)
 (h:DrawK P nt ops (i+1) l ⟨T.set dd (val v),H,nx,⟨i,⟨some dd,.lookup t x y false,ty,pos,af,gd⟩,(aZ T (a9 ops.toList ⟨some dd,.lookup t x y false,ty,pos,af,gd⟩)),stg,false,true,(val v)⟩ :: rs,Hs,stg⟩ K):DrawK P nt ops i (⟨some dd,.lookup t x y false,ty,pos,af,gd⟩ :: l) ⟨T,H,nx,rs,Hs,stg⟩ K:=
 bI hw hd (fun _ h=>by cases h) (tO (ok:=false) hx hy hu hE hb hg) h
theorem Bp{V:Type} [DecidableEq K0]{val:V→SV}{m:List (K0×V×Nat)}{z:Value}(hw:aF (aZ T (a9 ops.toList ⟨some dd,.lookup t x y false,ty,pos,af,gd⟩)) ops ⟨some dd,.lookup t x y false,ty,pos,af,gd⟩=some true)(hd:Nat.blt dd nt=true)(hx:ak (aZ T (a9 ops.toList ⟨some dd,.lookup t x y false,ty,pos,af,gd⟩)) x=some (.mp b))(hy:ak (aZ T (a9 ops.toList ⟨some dd,.lookup t x y false,ty,pos,af,gd⟩)) y=some (.sc (enc kk)))(hu:P.underlying t=some (.map kt e))(hE:KEnc P kt enc)(hb:H.at' b=some (iT enc val m c))(hg:gC m kk=none)(hz:dM P e=some z)
 (h:DrawK P nt ops (i+1) l ⟨T.set dd (.sc z),H,nx,⟨i,⟨some dd,.lookup t x y false,ty,pos,af,gd⟩,(aZ T (a9 ops.toList ⟨some dd,.lookup t x y false,ty,pos,af,gd⟩)),stg,false,true,(.sc z)⟩ :: rs,Hs,stg⟩ K):DrawK P nt ops i (⟨some dd,.lookup t x y false,ty,pos,af,gd⟩ :: l) ⟨T,H,nx,rs,Hs,stg⟩ K:=
 bI hw hd (fun _ h=>by cases h) (uN (ok:=false) hx hy hu hE hb hg hz) h
theorem v6 [DecidableEq K0]{w:Operand}{v:V}(hw:aF (aZ T (a9 ops.toList ⟨none,.mapUpdate t x y w,ty,pos,af,gd⟩)) ops ⟨none,.mapUpdate t x y w,ty,pos,af,gd⟩=some true)(hx:ak (aZ T (a9 ops.toList ⟨none,.mapUpdate t x y w,ty,pos,af,gd⟩)) x=some (.mp b))(hy:ak (aZ T (a9 ops.toList ⟨none,.mapUpdate t x y w,ty,pos,af,gd⟩)) y=some (.sc (enc kk)))(hu:P.underlying t=some (.map kt e))(hE:KEnc P kt enc)(hb:H.at' b=some (iT enc val m c))(hw2:ak (aZ T (a9 ops.toList ⟨none,.mapUpdate t x y w,ty,pos,af,gd⟩)) w=some (val v))
 (h:DrawK P nt ops (i+1) l ⟨T,(H.set b (iT enc val (gO m kk v c) (po m kk c))),nx,⟨i,⟨none,.mapUpdate t x y w,ty,pos,af,gd⟩,(aZ T (a9 ops.toList ⟨none,.mapUpdate t x y w,ty,pos,af,gd⟩)),stg,true,true,ey⟩ :: rs,((H.set b (iT enc val (gO m kk v c) (po m kk c))),nx) :: Hs,stg+1⟩ K):DrawK P nt ops i (⟨none,.mapUpdate t x y w,ty,pos,af,gd⟩ :: l) ⟨T,H,nx,rs,Hs,stg⟩ K:=
 oO hw (fun _ h=>by cases h) (AZ hx hy hu hE hb hw2) h
theorem jM{o n sz:Nat}{kd:IntKind}{j:Int}{q:Nat}(hw:aF (aZ T (a9 ops.toList ⟨some dd,.indexAddr t x y,ty,pos,af,gd⟩)) ops ⟨some dd,.indexAddr t x y,ty,pos,af,gd⟩=some true)(hd:Nat.blt dd nt=true)(hx:ak (aZ T (a9 ops.toList ⟨some dd,.indexAddr t x y,ty,pos,af,gd⟩)) x=some (.ptr b o))(hy:ak (aZ T (a9 ops.toList ⟨some dd,.indexAddr t x y,ty,pos,af,gd⟩)) y=some (.sc (.int kd j)))(hu:P.underlying t=some (.array n e))(hs:bH P e=some sz)(hq:j=(q:Int))(hi:q<n)
 (h:DrawK P nt ops (i+1) l ⟨T.set dd (.ptr b (o+q*sz)),H,nx,⟨i,⟨some dd,.indexAddr t x y,ty,pos,af,gd⟩,(aZ T (a9 ops.toList ⟨some dd,.indexAddr t x y,ty,pos,af,gd⟩)),stg,false,true,(.ptr b (o+q*sz))⟩ :: rs,Hs,stg⟩ K):DrawK P nt ops i (⟨some dd,.indexAddr t x y,ty,pos,af,gd⟩ :: l) ⟨T,H,nx,rs,Hs,stg⟩ K:=
 bI hw hd (fun _ h=>by cases h) (gW hx hy hu hs hq hi) h
end
end
section
variable {P:Program} {ro:Option Nat} {fn nt nx:Nat} {T:Tr SV} {k:List AIt} {dfs:List ADf} {H:au} {Q:Pst} {ops:Array Oper} {i:Nat} {l:List Oper} {d:Option Tmp} {ty:TypeId} {pos:String} {af:Array Edge} {gd:Option (Nat×Bool)}
section
variable {dr f2 n nt2:Nat}{as1 bd:Code}{T2:Tr SV}{args:List SV}{ρ:Nat→Nat}{ps:Array Tmp}{st:LoopState}{pend:Option Code}
theorem E8{it:Operand}{b:Bool}{outs:List Out}(hw:aF T ops ⟨d,.next it b,ty,pos,af,gd⟩=some true)(ho:vp T H nx ⟨d,.next it b,ty,pos,af,gd⟩=some outs)
 (h: ∀ out∈outs,GH P (wpr P) ro ⟨fn,nt,T,.inReg ops i (⟨d,.next it b,ty,pos,af,gd⟩ :: l) :: k,dfs,H,nx⟩ d (.inReg ops (i+1) l :: k) out Q) :
 Wp P ro ⟨fn,nt,T,.inReg ops i (⟨d,.next it b,ty,pos,af,gd⟩ :: l) :: k,dfs,H,nx⟩ Q:=
 .step (.inr ⟨hw,.inr (fun c h=>by cases h),fun K w0 e w ev hS hE=>let ⟨out,hm,hd⟩:=y9 hS hE ho;⟨out,h out hm,hd⟩⟩)
theorem Gc{K V:Type} [DecidableEq K]{enc:K→Value}{val:V→SV}{m:List (K×V×Nat)}{c:Nat}{it:Operand}{b r:Nat}{done:List (K×V×Nat)}{dd:Nat}
 (hw:aF T ops ⟨some dd,.next it false,ty,pos,af,gd⟩=some true) (hd:Nat.blt dd nt=true) (hx:ak T it=some (.ptr r 0)) (hr:H.at' r=some (itV b c done)) (hb:H.at' b=some (iT enc val m c)) (hok:KOk m c) (hdn:done.Nodup∧ ∀ x∈done,x∈m)
 (h1:done.Perm m→Wp P ro ⟨fn,nt,T.set dd (.sc (.tuple #[.bool false])),.inReg ops (i+1) l :: k,dfs,H,nx⟩ Q)
 (h2: ∀ x∈m,x∉done→(done ++ [x]).Nodup∧(∀ y∈done ++ [x],y∈m)→Wp P ro ⟨fn,nt,T.set dd (.tup [.sc (.bool true),.sc (enc x.1),val x.2.1]),.inReg ops (i+1) l :: k,dfs,H.set r (itV b c (done ++ [x])),nx⟩ Q) :
 Wp P ro ⟨fn,nt,T,.inReg ops i (⟨some dd,.next it false,ty,pos,af,gd⟩ :: l) :: k,dfs,H,nx⟩ Q:=by
 have hseen: ∀ x∈m,((done.map (·.2.2)).contains x.2.2=true↔x∈done):=by
  intro x hx
  rw [List.contains_iff_mem]
  constructor
  ·intro h
   obtain⟨y,hy,he⟩:=JA.1 h
   rw [hok.eq hx (hdn.2 y hy) he.symm]
   exact hy
  ·intro h
   exact JA.2 ⟨x,h,rfl⟩
 refine E8 hw (outs:=?_) ?_ ?_
 rotate_left
 ·simp only [vp,hx,hr,hb]
  have hg:(!(done.map (·.2.2)).isEmpty && !(vz enc val m).isEmpty && (vz enc val m).all (fun x=>Nat.ble c x.2.2))=false:=by
   cases m with
   | nil=>simp
   | cons x m=>
     have:=hok.lt x (by simp)
     have hb:Nat.ble c x.2.2=false:=by
      cases hh:Nat.ble c x.2.2 with
      | false=>rfl
      | true=>have:=Hz hh;omega
     simp [hb]
  rw [hg]
  rfl
 ·intro out hm
  simp only [GH] at *
  rcases List.mem_append.1 hm with hm|hm
  ·cases he:(((vz enc val m).filter fun x=> !((done.map (·.2.2)).contains x.2.2)).filter fun x=>Nat.blt x.2.2 c).isEmpty with
   | false=>rw [he] at hm;cases hm
   | true=>
     rw [he] at hm
     simp only [cond_true,Jj] at hm
     subst hm
     simp only [aI hd]
     refine h1 ?_
     refine(List.perm_ext_iff_of_nodup hdn.1 hok.nodup).2 fun x=>⟨hdn.2 x,fun hx=>?_⟩
     rw [← hseen x hx]
     cases hc:(done.map (·.2.2)).contains x.2.2 with
     | true=>rfl
     | false=>
       exfalso
       have hin:(enc x.1,val x.2.1,x.2.2)∈((vz enc val m).filter fun x=> !((done.map (·.2.2)).contains x.2.2)).filter fun x=>Nat.blt x.2.2 c:=by
        refine List.mem_filter.2 ⟨List.mem_filter.2 ⟨JA.2 ⟨x,hx,rfl⟩,by simp only [hc];rfl⟩,?_⟩
        exact HG (hok.lt x hx)
       have:=List.isEmpty_iff.1 he
       rw [this] at hin
       cases hin
  ·obtain⟨y,hy,rfl⟩:=JA.1 hm
   have hy':y∈(vz enc val m).filter fun x=> !((done.map (·.2.2)).contains x.2.2):=by
    rcases List.mem_append.1 hy with hy|hy
    ·exact(List.mem_filter.1 hy).1
    ·exact(List.mem_filter.1 hy).1
   obtain⟨hy1,hy2⟩:=List.mem_filter.1 hy'
   obtain⟨x,hx,rfl⟩:=JA.1 hy1
   simp only [aI hd]
   have hnd:x∉done:=by
    intro h
    rw [(hseen x hx).2 h] at hy2
    cases hy2
   have:=h2 x hx hnd ⟨by rw [List.nodup_append];exact⟨hdn.1,by simp,fun a ha b hb=>by simp at hb;subst hb;intro e;subst e;exact hnd ha⟩,fun y hy=>by
    rcases List.mem_append.1 hy with hy|hy
    ·exact hdn.2 y hy
    ·simp at hy;subst hy;exact hx⟩
   have e:itV b c (done ++ [x]) = .iter (some b) c (done.map (·.2.2) ++ [x.2.2]) c:=by unfold itV;rw [HX];rfl
   rw [e] at this
   exact this
theorem yk(ρ:Nat→Nat): ∀ vs:List Value,SV.ja ρ (vs.map .sc)=vs.map .sc
 | []=>rfl
 | v :: vs=>by rw [HU,SV.ja,yk ρ vs];rfl
theorem yi{t:TypeId}{vs:List Value}:(aq t (vs.map .sc)).ren ρ=aq t (vs.map .sc):=by rw [tJ,yk]
theorem St.loopLess{K:Zone}{w0 w:World}{e:Env}{T3:Tr SV}(hl:T3.le T2)
 (hS:St K w0 e (H.set n (.loop st pend f2 nt2 T2 ps as1 bd dr)) nx w):St K w0 e (H.set n (.loop st pend f2 nt2 T3 ps as1 bd dr)) nx w:=by
 have key: ∀ id vo,(H.set n (.loop st pend f2 nt2 T3 ps as1 bd dr)).at' id=some vo→ ∃ vo',(H.set n (.loop st pend f2 nt2 T2 ps as1 bd dr)).at' id=some vo'∧vo'.ro=vo.ro∧ ∀ x,Lies K w e vo' x→Lies K w e vo x:=by
  intro id vo hv
  rcases bL hv with ⟨rfl,rfl⟩|⟨hne,hv⟩
  ·refine⟨_,ah _ _ _,rfl,fun x hx=>?_⟩
   rcases hx with ⟨h0,o,h1,h2,tmps,y,h3,h4,h5⟩|⟨_,_,_,_,_,h,_⟩
   ·exact .inl ⟨h0,o,h1,h2,tmps,y,h3,h4.less hl,h5⟩
   ·cases h
  ·exact⟨vo,by rw [aa _ _ hne];exact hv,rfl,fun x hx=>hx⟩
 refine⟨hS.below,fun id vo hv=>?_,fun id id' vo vo' x x' h1 h2 h3 h4 h5 h6 h7 h8 h9=>?_,hS.fresh⟩
 ·obtain⟨vo',g1,_,g3⟩:=key id vo hv
  obtain⟨x,hx,hl⟩:=hS.rel id vo' g1
  exact⟨x,hx,g3 x hl⟩
 ·obtain⟨u,g1,g2,_⟩:=key id vo h1
  obtain⟨u',g1',g2',_⟩:=key id' vo' h2
  exact hS.inj _ _ _ _ _ _ g1 g1' h3 h4 h5 h6 h7 (by rw [g2];exact h8) (by rw [g2'];exact h9)
theorem Fnc.weak{f:FuncId}{H H':au}{nx:Nat}{Q:Pst}(hs: ∀ K w0 e w,St K w0 e H nx w→St K w0 e H' nx w)(h:Fnc P f args H' nx Q):Fnc P f args H nx Q:=by
 unfold Fnc jS at h ⊢
 rcases h with ⟨h0,v,r,h1,h2,h3⟩|h
 ·exact .inl ⟨h0,v,r,h1,h2,fun K w0 e w hS=>h3 K w0 e w (hs _ _ _ _ hS)⟩
 ·refine .inr ?_
  split at h
  ·rename_i c hb
   exact⟨fun K w0 e w tmps todo ds kd rof cs a b c d f=>h.run K w0 e w tmps todo ds kd rof cs (hs _ _ _ _ a) b c d f⟩
  ·exact h.elim
theorem iI{fo:Operand}{g:FuncId}{a b:List SV}{sf:SV}(sl:List (Nat×SV))(hf:ak T fo=some sf)(ht:dI sf=some (g,a,b))(hg:bS P g=true)(hsl: ∀ n x,(slT sl).at' n=some x→T.at' n=some x)
 (h: ∀ as' bd',as'=as1→bd'=bd→Fnc P g (a ++ [.yld (nx+1)] ++ b) ((H.set nx (.dfd (some []))).set (nx+1) (.loop .ready none fn nt (slT sl) ps as' bd' nx)) (nx+1+1) (fun r=>Wp P none ⟨fn,nt,T,.endRange (nx+1) :: k,.taken nx :: dfs,r.2.1,r.2.2⟩ Q)) :
 Wp P none ⟨fn,nt,T,.code (.rangeFunc fo ps as1 bd) :: k,dfs,H,nx⟩ Q:=
 .step ⟨nx,H.set nx (.dfd (some [])),nx+1,[.taken nx],sf,g,a,b,rfl,hf,ht,hg,Fnc.weak (fun K w0 e w hS=>hS.loopLess hsl) (h _ _ rfl rfl)⟩
theorem m8{a b:Code}(h:a=b)(hw:Wp P ro ⟨fn,nt,T,.code b :: k,dfs,H,nx⟩ Q):Wp P ro ⟨fn,nt,T,.code a :: k,dfs,H,nx⟩ Q:=h ▸ hw
theorem im(hl:H.at' n=some (.loop st pend f2 nt2 T2 ps as1 bd dr))(hs:st ≠ .busy)
 (h:Wp P ro ⟨fn,nt,T,jY pend k,dfs,H.set n (.loop .exhausted pend f2 nt2 T2 ps as1 bd dr),nx⟩ Q):Wp P ro ⟨fn,nt,T,.endRange n :: k,dfs,H,nx⟩ Q:=by
 refine .step ?_
 simp only [qc,hl]
 exact⟨hs,h⟩
theorem pZ(hl:H.at' n=some (.loop .ready pend f2 nt2 T2 ps as1 bd dr))
 (h:Wp P (some n) ⟨fn,nt,T,k,dfs,H.set n (.loop .busy pend f2 nt2 T2 ps as1 bd dr),nx⟩ Q):Wp P (some n) ⟨fn,nt,T,.beginRound :: k,dfs,H,nx⟩ Q:=by
 refine .step ?_
 simp only [qc,hl]
 exact⟨trivial,h⟩
theorem il(hl:H.at' n=some (.loop st pend f2 nt2 T2 ps as1 bd dr))
 (h:Q (.sc (.bool true),H.set n (.loop .ready none f2 nt2 T2 ps as1 bd dr),nx)):Wp P (some n) ⟨fn,nt,T,[],dfs,H,nx⟩ Q:=by
 refine .step ?_
 simp only [qc,nd,vG,hl]
 exact h
theorem ww(hl:H.at' n=some (.loop st pend f2 nt2 T2 ps as1 bd dr))
 (h:Q (.sc (.bool false),H.set n (.loop .done (some .ret) f2 nt2 T2 ps as1 bd dr),nx)):Wp P (some n) ⟨fn,nt,T,.code .ret :: k,dfs,H,nx⟩ Q:=by
 refine .step ?_
 simp only [qc,ur,nd,vG,hl]
 exact h
theorem xI{x:Operand}{as1:List Operand}{ats:Array TypeId}{dd:Nat}{as2:Code}
 (hw:aF T ops ⟨some dd,.call {callee:= .value x,args:=as1.toArray,argTypes:=ats},ty,pos,af,gd⟩=some true) (hd:Nat.blt dd nt=true) (hx:ak T x=some (.yld n)) (ha:du T as1=some args) (hl:H.at' n=some (.loop st pend f2 nt2 T2 ps as2 bd dr)) (hp:Nat.beq ps.size args.length=true)
 (h:Wp P (some n) ⟨f2,nt2,(ps.toList.zip args).foldl (fun T x=>mt nt2 T (some x.1) x.2) T2,[.code as2,.beginRound,.code bd],[],H,nx⟩ (fun r=>Wp P ro ⟨fn,nt,T.set dd r.1,.inReg ops (i+1) l :: k,dfs,r.2.1,r.2.2⟩ Q)) :
 Wp P ro ⟨fn,nt,T,.inReg ops i (⟨some dd,.call {callee:= .value x,args:=as1.toArray,argTypes:=ats},ty,pos,af,gd⟩ :: l) :: k,dfs,H,nx⟩ Q:=by
 refine .step (.inr ⟨hw,.inr (fun c hc=>by cases hc),OpDoes.any (out:=(.round n args,H,nx)) ?_ ?_⟩)
 ·intro K w0 e w ev hS hE
  refine l9 hS hE ?_
  unfold fN
  simp only [cd,ha,hx,HY]
 ·simp only [GH,pA,hl,aI hd]
  exact⟨hp,h⟩
def SameO(ρ:Nat→Nat):List (Option VO)→List (Option VO)→Prop
 | [],[]=>True
 | none :: l,none :: m=>SameO ρ l m
 | some vo :: l,some vo' :: m=>vo.ren ρ=vo'∧SameO ρ l m
 | _,_=>False
theorem SameO.map{ρ:Nat→Nat}: ∀ {l m:List (Option VO)},SameO ρ l m→l.map (Option.map (VO.ren ρ))=m
 | [],[],_=>rfl
 | none :: l,none :: m,h=>by simp only [HU,Option.map_none,SameO.map (l:=l) (m:=m) h]
 | some vo :: l,some vo' :: m,h=>by simp only [HU,HY,h.1,SameO.map h.2]
 | [],_ :: _,h=>by simp [SameO] at h
 | none :: _,some _ :: _,h=>by simp [SameO] at h
 | some _ :: _,none :: _,h=>by simp [SameO] at h
 | none :: _,[],h=>by simp [SameO] at h
 | some _ :: _,[],h=>by simp [SameO] at h
theorem p0{ρ:Nat→Nat}: ∀ (L:List Nat) (l:List (Option VO)) (i:Nat) (H:au),(∀ j,j<L.length→ρ (i+j)=L.getD j 0)→l.length=L.length→wrO ρ H i l=wrL L H l
 | [],[],i,H,_,_=>rfl
 | [],_ :: _,i,H,_,h=>by simp at h
 | _ :: _,[],i,H,_,h=>by simp at h
 | b :: L,o :: l,i,H,he,hl=>by
   have e0:ρ i=b:=by simpa using he 0 (by simp)
   have et: ∀ j,j<L.length→ρ (i+1+j)=L.getD j 0:=fun j hj=>by
    have:=he (j+1) (by simpa using hj)
    rw [show i+1+j=i+(j+1) by omega,this]
    simp
   cases o with
   | none=>simp only [wrO,wrL,e0];exact p0 L l (i+1) _ et (by simpa using hl)
   | some vo=>simp only [wrO,wrL,e0];exact p0 L l (i+1) _ et (by simpa using hl)
theorem Ctr.CI{f:FuncId}{args0:List SV}{pre:List VO}{Q0:Cz→Prop}(h:Ctr P f args0 pre Q0)(L:List Nat){Q:Pst}(hlen:L.length=pre.length)(hL:ExtOk L nx)(ha:args=args0.map (SV.ren (ext L nx)))(hp:HasO (ext L nx) H 0 (pre.map some))
 (hQ: ∀ c,Q0 c→ ∃ v m L2 objs,L2=L ++ (List.range m).map (fun i=>nx+i)∧SameO (ext L nx) c.objs objs∧objs.length=L2.length∧c.v.ren (ext L nx)=v∧Q (v,wrL L2 H objs,nx+m)):Fnc P f args H nx Q:=by
 refine h.call L hlen hL ha hp fun c hc hpl=>?_
 obtain⟨v,m,L2,objs,e1,e2,e3,e4,hq⟩:=hQ c hc
 have hlo:c.objs.length=objs.length:=by rw [← e2.map,Ji]
 have hl2:L2.length=L.length+m:=by rw [e1];simp
 rw [e2.map,e4,p0 (ρ:=ext L nx) L2 objs 0 H (fun j hj=>?_) e3,show nx+(c.objs.length-pre.length)=nx+m by omega]
 ·exact hq
 ·rw [Jf]
  by_cases hjl:j<L.length
  ·rw [vX hjl,e1]
   simp only [HN]
   rw [HP hjl]
  ·rw [vY (by omega),e1]
   simp only [HN]
   rw [Jn (by omega),Ju,List.getElem?_range (by omega)]
   rfl
theorem bv{α:Type}{b:Code}(sl:α→List (Nat×SV))(I:α→au→Nat→Prop)(μ:α→Nat)(a0:α)(h0:I a0 H nx)(hs: ∀ n x,(slT (sl a0)).at' n=some x→T.at' n=some x)
 (body: ∀ a H nx,I a H nx→(∀ T' H' nx' a',I a' H' nx'→μ a'<μ a→(∀ n x,(slT (sl a')).at' n=some x→T'.at' n=some x)→Wp P ro ⟨fn,nt,T',.inLoop b :: k,dfs,H',nx'⟩ Q) →
   Wp P ro ⟨fn,nt,slT (sl a),.code b :: .inLoop b :: k,dfs,H,nx⟩ Q):Wp P ro ⟨fn,nt,T,.code (.loop b) :: k,dfs,H,nx⟩ Q:=by
 have main: ∀ m a H nx,μ a=m→I a H nx→Wp P ro ⟨fn,nt,slT (sl a),.code b :: .inLoop b :: k,dfs,H,nx⟩ Q:=by
  intro m
  induction m using Nat.strongRecOn with
  | _ m ih=>
    intro a H nx hm ha
    refine body a H nx ha fun T' H' nx' a' ha' hlt hs'=>xF ?_
    exact Wp.less (ih (μ a') (by omega) a' H' nx' rfl ha') hs' (Tr.le_refl _)
 exact nw (Wp.less (main _ a0 H nx rfl h0) hs (Tr.le_refl _))
def SlIn(T:Tr SV):List (Nat×SV)→Prop
 | []=>True
 | (t,s) :: l=>T.at' t=some s∧SlIn T l
theorem SlIn.rf{T:Tr SV}: ∀ {l:List (Nat×SV)},l.map (fun x=>T.at' x.1)=l.map (fun x=>some x.2)→SlIn T l
 | [],_=>trivial
 | (t,s) :: l,h=>by
   simp only [HU,List.cons.injEq] at h
   exact⟨h.1,SlIn.rf h.2⟩
theorem JQ:type_of% @SlIn.rf:=@SlIn.rf
theorem SlIn.sub{T:Tr SV}: ∀ {l:List (Nat×SV)},SlIn T l→ ∀ n x,(slT l).at' n=some x→T.at' n=some x
 | [],_,n,x,h=>by rw [slT,o4] at h;cases h
 | (t0,s0) :: l,hh,n,x,h=>by
   rcases bL h with ⟨rfl,rfl⟩|⟨_,h⟩
   ·exact hh.1
   ·exact SlIn.sub hh.2 n x h
theorem JN:type_of% @SlIn.sub:=@SlIn.sub
theorem zg{rs:List Nat}(hr: ∀ r∈rs,H.at' r=some (.dfd (some [])))(hnd:rs.Nodup)(h: ∀ H',(∀ n,n∉rs→H'.at' n=H.at' n)→Lv P ⟨fn,nt,T,k,dfs,H',nx⟩ Q):Lv P ⟨fn,nt,T,k,rs.map .taken ++ dfs,H,nx⟩ Q:=by
 induction rs generalizing H with
 | nil=>exact h H fun _ _=>rfl
 | cons r rs ih=>
   refine A6 (hr r (by simp)) ?_
   rw [List.nil_append]
   rw [List.nodup_cons] at hnd
   refine ih (fun r' hr'=>?_) hnd.2 fun H' hH'=>h H' fun n hn=>?_
   ·rw [aa _ _ (by intro e;subst e;exact hnd.1 hr')]
    exact hr r' (Jm _ hr')
   ·rw [Js,not_or] at hn
    rw [hH' n hn.2,aa _ _ hn.1]
theorem rh{rl:List ResultVar}{F:Func}(hf:P.funcs[fn]? =some F)(hl:F.results.toList=rl){rs:List Nat}(hdf:dfs=rs.map .taken)(hr: ∀ r∈rs,H.at' r=some (.dfd (some [])))(hnd:rs.Nodup)
 (h: ∀ H',(∀ n,n∉rs→H'.at' n=H.at' n)→ ∃ vs,ResIs P H' T rl vs∧Q (fP vs,H',nx)):Wp P none ⟨fn,nt,T,.code .ret :: k,dfs,H,nx⟩ Q:=by
 subst hdf
 refine BX ?_
 have:=zg (P:=P) (fn:=fn) (nt:=nt) (nx:=nx) (T:=T) (k:= .code .ret :: k) (dfs:= []) (Q:=Q) hr hnd fun H' hH'=>by
  obtain⟨vs,h1,h2⟩:=h H' hH'
  exact Cf (by simp only [e7,hf,hl]) h1.res h2
 simpa using this
end
end
structure Tbl where
 fo:List (Option (List Nat))
 zl:List (Option (List SV))
 un:List (Option TypeDesc)
 ag:List (Option (Option Nat))
 sz:List (Option Nat)
 ze:List (Option Value)
 pl:List (Option (List (Nat×Nat)))
structure TblOk (P:Program) (t:Tbl):Prop where
 fo: ∀ (i k:Nat) {l:List Nat} {v:Nat},t.fo[i]? =some (some l)→l[k]? =some v→l6 P i k=some v
 zl: ∀ (i:Nat) {x:List SV},t.zl[i]? =some (some x)→rg P i=some x
 un: ∀ (i:Nat) {x:TypeDesc},t.un[i]? =some (some x)→P.underlying i=some x
 ag: ∀ (i:Nat) {x:Option Nat},t.ag[i]? =some (some x)→cU P i=some x
 sz: ∀ (i:Nat) {x:Nat},t.sz[i]? =some (some x)→bH P i=some x
 ze: ∀ (i:Nat) {x:Value},t.ze[i]? =some (some x)→dM P i=some x
 pl: ∀ (i:Nat) {x:List (Nat×Nat)},t.pl[i]? =some (some x)→Em P i=some x
section
variable (tb:Tbl)
def lenG(T:Tr SV)(x:Operand)(t:TypeId):Option SV:=match ak T x with
 | some (.slu _ _ n)=>match tb.un[t]? with
   | some (some (.slice _))=>some (.sc (.int .i64 n))
   | _=>none
 | some (.sc (.string s))=>match tb.un[t]? with
   | some (some .string)=>some (.sc (.int .i64 s.size))
   | _=>none
 | _=>none
def np(T:Tr SV):Op→Option SV
 | .move x=>ak T x
 | .assign x=>ak T x
 | .pick c a b=>match ak T c with
   | some (.sc (.bool true))=>ak T a
   | some (.sc (.bool false))=>ak T b
   | _=>none
 | .extract x j=>match ak T x with
   | some (.tup xs)=>xs[j]?
   | some (.sc (.tuple xs))=>match xs[j]? with
     | some v=>some (.sc v)
     | none=>none
   | _=>none
 | .nilCheck x=>match ak T x with
   | some (.ptr b o)=>some (.ptr b o)
   | some (.ifc t v)=>some (.ifc t v)
   | some (.fn (.func f) a c)=>some (.fn (.func f) a c)
   | _=>none
 | .fieldAddr s x f=>match ak T x with
   | some (.ptr b o)=>match tb.fo[s]? with
     | some (some l)=>match l[f]? with
       | some off=>some (.ptr b (o+off))
       | none=>none
     | _=>none
   | _=>none
 | .unOp .not _ x=>match ak T x with
   | some (.sc (.bool b))=>some (.sc (.bool (!b)))
   | _=>none
 | .makeFunc f a b=>match du T a.toList with
   | some x=>match du T b.toList with
     | some y=>some (.fn f x y)
     | none=>none
   | none=>none
 | .makeInterface t x=>match ak T x with
   | some v=>match tb.un[t]? with
     | some (some (.interface _))=>none
     | some (some _)=>some (vJ t v)
     | _=>none
   | none=>none
 | .build t ps=>match oJ T ps.toList with
   | some vs=>match tb.ze[t]? with
     | some (some z)=>match tb.pl[t]? with
       | some (some pl)=>match kK (fun i=>pl[i]?) (z.cells.toList.map .sc) vs with
         | some cs=>some (.agg cs)
         | none=>none
       | _=>none
     | _=>none
   | none=>none
 | .call c=>match c.callee with
   | .builtin .len=>match c.args.toList with
     | [x]=>match c.argTypes.toList with
       | [t]=>lenG tb T x t
       | _=>none
     | _=>none
   | _=>none
 | _=>none
def He:SV→Option (List SV)
 | .agg cs=>some cs
 | .sc (.int k a)=>some [.sc (.int k a)]
 | .sc (.bool b)=>some [.sc (.bool b)]
 | .sc (.string s)=>some [.sc (.string s)]
 | .ptr b o=>some [.ptr b o]
 | .slu b o n=>some [.slu b o n]
 | .sl b o n c=>some [.sl b o n c]
 | .mp b=>some [.mp b]
 | _=>none
def newG(T:Tr SV):Op→Option (TypeId×List SV)
 | .alloc t=>match tb.zl[t]? with
   | some (some cs)=>some (t,cs)
   | _=>none
 | .box t x=>match ak T x with
   | some v=>match He v with
     | some cs=>some (t,cs)
     | none=>none
   | none=>none
 | _=>none
abbrev GoSt:=Tr SV×List AIt×au×Nat
def goG(nt:Nat):Nat→Bool→Tr SV→List AIt→au→Nat→Option GoSt
 | 0,p,T,k,H,nx=>bif p then some (T,k,H,nx) else none
 | n+1,p,T,k,H,nx=>match k with
   | .code .skip :: k=>goG nt n true T k H nx
   | .code (.label _) :: k=>goG nt n true T k H nx
   | .code (.seq a b) :: k=>goG nt n true T (.code a :: .code b :: k) H nx
   | .code (.block i b) :: k=>goG nt n true T (.code b :: .inBlock i :: k) H nx
   | .code (.scope b) :: k=>goG nt n true T (.code b :: .inScope b :: k) H nx
   | .code (.exit i) :: k=>match pq i k with
     | some k'=>goG nt n true T k' H nx
     | none=>bif p then some (T,.code (.exit i) :: k,H,nx) else none
   | .code (.goto i) :: k=>match pp i k with
     | some k'=>goG nt n true T k' H nx
     | none=>bif p then some (T,.code (.goto i) :: k,H,nx) else none
   | .code (.cond c a b) :: k=>match ak T c with
     | some (.sc (.bool true))=>goG nt n true T (.code a :: k) H nx
     | some (.sc (.bool false))=>goG nt n true T (.code b :: k) H nx
     | _=>bif p then some (T,.code (.cond c a b) :: k,H,nx) else none
   | .code (.region i ops false) :: k=>match ops.toList with
     | []=>goG nt n true T k H nx
     | o :: l=>goG nt n true T (.inReg ops 0 (o :: l) :: k) H nx
   | .inBlock _ :: k=>goG nt n true T k H nx
   | .inScope _ :: k=>goG nt n true T k H nx
   | .inReg _ _ [] :: k=>goG nt n true T k H nx
   | .inReg ops i (⟨some d,op,ty,pos,af,gd⟩ :: l) :: k=>match aF T ops ⟨some d,op,ty,pos,af,gd⟩with
     | some true=>bif Nat.blt d nt then match np tb T op with
        | some v=>goG nt n true (T.set d v) (.inReg ops (i+1) l :: k) H nx
        | none=>match newG tb T op with
          | some (t,cs)=>goG nt n true (T.set d (.ptr nx 0)) (.inReg ops (i+1) l :: k) (H.set nx (aq t cs)) (nx+1)
          | none=>bif p then some (T,.inReg ops i (⟨some d,op,ty,pos,af,gd⟩ :: l) :: k,H,nx) else none
       else none
     | some false=>bif Nat.blt d nt then goG nt n true (T.set d ey) (.inReg ops (i+1) l :: k) H nx else none
     | none=>bif p then some (T,.inReg ops i (⟨some d,op,ty,pos,af,gd⟩ :: l) :: k,H,nx) else none
   | k=>bif p then some (T,k,H,nx) else none
end
section
variable {P:Program} {tb:Tbl} {T:Tr SV} {H:au}
section
variable {op:Op}{v:SV}{pos:String}{ty:TypeId}{af:Array Edge}{d:Option Tmp}{gd:Option (Nat×Bool)}
theorem DF(ht:TblOk P tb){x:Operand}{t:TypeId}(h:lenG tb T x t=some v):ReadDoes P T H ⟨d,.call {callee:= .builtin .len,args:= #[x],argTypes:= #[t]},ty,pos,af,gd⟩ v:=by
 unfold lenG at h
 split at h
 ·next hx=>
  split at h
  ·next hu=>
   cases h
   exact uO (ht.un _ hu) hx
  ·cases h
 ·next hx=>
  split at h
  ·next hu=>
   cases h
   exact yy (ht.un _ hu) hx
  ·cases h
 ·cases h
theorem iO(ht:TblOk P tb)
 (h:np tb T op=some v):ReadDoes P T H ⟨d,op,ty,pos,af,gd⟩ v:=by
 unfold np at h
 split at h
 ·exact Df h
 ·exact yC h
 ·split at h
  ·next hc=>exact AL hc h
  ·next hc=>exact AM hc h
  ·cases h
 ·split at h
  ·next hx=>exact wN hx h
  ·next hx=>
   split at h
   ·next hj=>
    cases h
    exact tP hx hj
   ·cases h
  ·cases h
 ·split at h
  ·next hx=>
   cases h
   exact tM hx
  ·next hx=>
   cases h
   exact rR hx
  ·next hx=>
   cases h
   exact rS hx
  ·cases h
 ·split at h
  ·next hx=>
   split at h
   ·next hl=>
    split at h
    ·next hk=>
     cases h
     exact rT (ht.fo _ _ hl hk) hx
    ·cases h
   ·cases h
  ·cases h
 ·split at h
  ·next hx=>
   cases h
   exact Gy hx
  ·cases h
 ·split at h
  ·next ha=>
   split at h
   ·next hb=>
    cases h
    exact tN ha hb
   ·cases h
  ·cases h
 ·split at h
  ·next hx=>
   split at h
   ·cases h
   ·next d0 hn hu=>
    cases h
    refine no hx ?_
    unfold sH
    rw [ht.un _ hu]
    cases d0 <;> first|rfl|exact absurd rfl (hn _)
   ·cases h
  ·cases h
 ·next t ps=>
  obtain⟨l⟩:=ps
  split at h
  ·next hx=>
   split at h
   ·next hz=>
    split at h
    ·next hl=>
     split at h
     ·next hf=>
      cases h
      exact qk hx (ht.ze _ hz) (ht.pl _ hl) hf
     ·cases h
    ·cases h
   ·cases h
  ·cases h
 ·next c=>
  obtain⟨cl,⟨ax⟩,⟨ts⟩⟩:=c
  dsimp only at h
  split at h
  ·split at h
   ·split at h
    ·exact DF ht h
    ·cases h
   ·cases h
  ·cases h
 ·cases h
theorem uW(h:np tb T op=some v): ∀ c,op ≠ .defer c:=by
 intro c hc
 subst hc
 cases h
theorem Dz{v:TypeId×List SV}(h:newG tb T op=some v): ∀ c,op ≠ .defer c:=by
 intro c hc
 subst hc
 cases h
theorem Dy(ht:TblOk P tb){t:TypeId}{cs:List SV}{nx:Nat}
 (h:newG tb T op=some (t,cs)):OpDoes P T H nx ⟨d,op,ty,pos,af,gd⟩ (.val (.ptr nx 0),H.set nx (aq t cs),nx+1):=by
 unfold newG at h
 split at h
 ·split at h
  ·next hz=>
   cases h
   exact e9 (ht.zl _ hz)
  ·cases h
 ·split at h
  ·next hx=>
   split at h
   ·next hb=>
    cases h
    unfold He at hb
    split at hb <;> cases hb
    ·exact Dq hx
    all_goals exact GJ hx rfl
   ·cases h
  ·cases h
 ·cases h
end
variable {ro:Option Nat} {fn nt:Nat} {dfs:List ADf} {Q:Pst}
theorem Co(ht:TblOk P tb) :
 ∀ (n:Nat) {p:Bool} {T T':Tr SV} {k k':List AIt} {H H':au} {nx nx':Nat},goG tb nt n p T k H nx=some (T',k',H',nx')→Wp P ro ⟨fn,nt,T',k',dfs,H',nx'⟩ Q→Wp P ro ⟨fn,nt,T,k,dfs,H,nx⟩ Q:=by
 have stop: ∀ {p:Bool} {T T':Tr SV} {k k':List AIt} {H H':au} {nx nx':Nat},(bif p then some (T,k,H,nx) else none:Option GoSt)=some (T',k',H',nx')→Wp P ro ⟨fn,nt,T',k',dfs,H',nx'⟩ Q→Wp P ro ⟨fn,nt,T,k,dfs,H,nx⟩ Q:=by
  intro p T T' k k' H H' nx nx' h hw
  cases p with
  | false=>cases h
  | true=>cases h;exact hw
 intro n
 induction n with
 | zero=>exact fun h hw=>stop h hw
 | succ n ih=>
   intro p T T' k k' H H' nx nx' h hw
   unfold goG at h
   split at h
   ·exact E7 (ih h hw)
   ·exact CS (ih h hw)
   ·exact CQ (ih h hw)
   ·exact CW (ih h hw)
   ·exact CR (ih h hw)
   ·split at h
    ·next hx=>exact Ga hx (ih h hw)
    ·exact stop h hw
   ·split at h
    ·next hx=>exact E9 hx (ih h hw)
    ·exact stop h hw
   ·split at h
    ·next hc=>exact CU hc (ih h hw)
    ·next hc=>exact CV hc (ih h hw)
    ·exact stop h hw
   ·next i ops k=>
    obtain⟨l⟩:=ops
    dsimp only at h
    refine Ai ?_
    split at h
    ·exact uv (ih h hw)
    ·exact ih h hw
   ·exact xC (ih h hw)
   ·exact xB (ih h hw)
   ·exact uv (ih h hw)
   ·split at h
    ·next hq=>
     cases hd:Nat.blt _ nt with
     | false=>rw [hd] at h;cases h
     | true=>
       rw [hd,cond_true] at h
       split at h
       ·next hv=>exact cZ hq (.inr (uW hv)) (iO ht hv).does (by rw [aI hd];exact ih h hw)
       ·split at h
        ·next hv=>exact cZ hq (.inr (Dz hv)) (Dy ht hv) (by rw [aI hd];exact ih h hw)
        ·exact stop h hw
    ·next hq=>
     cases hd:Nat.blt _ nt with
     | false=>rw [hd] at h;cases h
     | true=>
       rw [hd,cond_true] at h
       exact y_not hq (by show Wp P ro ⟨fn,nt,mt nt T (some _) ey,_,dfs,H,nx⟩ Q;rw [aI hd];exact ih h hw)
    ·exact stop h hw
   ·exact stop h hw
end
def hdO(nt:Nat)(ops:Array Oper)(T:Tr SV)(o:Oper):Option (Option Nat×Op):=match aF T ops o with
 | some true=>match o.dst with
   | some d=>bif Nat.blt d nt then some (some d,o.op) else none
   | none=>some (none,o.op)
 | _=>none
def hdG(nt:Nat)(T:Tr SV):List AIt→Option (Option Nat×Op×List AIt)
 | .inReg ops i (o :: l) :: k=>match hdO nt ops T o with
   | some (d,op)=>some (d,op,.inReg ops (i+1) l :: k)
   | none=>none
 | _=>none
theorem Cn{nt:Nat}{ops:Array Oper}{T:Tr SV}{o:Oper}{d:Option Nat}{op:Op}(h:hdO nt ops T o=some (d,op)):aF T ops o=some true∧o.dst=d∧o.op=op∧ ∀ x,d=some x→Nat.blt x nt=true:=by
 unfold hdO at h
 split at h
 ·next hw=>
  split at h
  ·next d0 hd=>
   cases hb:Nat.blt d0 nt with
   | false=>rw [hb] at h;cases h
   | true=>
     rw [hb] at h
     cases h
     exact⟨hw,hd,rfl,fun x hx=>by cases hx;exact hb⟩
  ·next hd=>
   cases h
   exact⟨hw,hd,rfl,fun x hx=>by cases hx⟩
 ·cases h
section
variable {P:Program} {ro:Option Nat} {fn nt nx d:Nat} {T:Tr SV} {k k':List AIt} {dfs:List ADf} {H:au} {Q:Pst} {op:Op}
theorem zz{d:Option Nat}(h:hdG nt T k=some (d,op,k')): ∃ ops i ty pos af gd l r,k = .inReg ops i (⟨d,op,ty,pos,af,gd⟩ :: l) :: r∧k' = .inReg ops (i+1) l :: r∧aF T ops ⟨d,op,ty,pos,af,gd⟩=some true∧ ∀ x,d=some x→Nat.blt x nt=true:=by
 unfold hdG at h
 split at h
 ·next ops i o l r=>
  split at h
  ·next ho=>
   cases h
   obtain⟨h1,h2,h3,h4⟩:=Cn ho
   obtain⟨dst,op,ty,pos,af,gd⟩:=o
   cases h2
   cases h3
   exact⟨_,_,_,_,_,_,_,_,rfl,rfl,h1,h4⟩
  ·cases h
 ·cases h
theorem DR{v:SV}(h:hdG nt T k=some (some d,op,k'))(hn:ndf op=true)(hr: ∀ {d:Option Tmp} {ty:TypeId} {pos:String} {af:Array Edge} {gd:Option (Nat×Bool)},ReadDoes P T H ⟨d,op,ty,pos,af,gd⟩ v)(hw:Wp P ro ⟨fn,nt,T.set d v,k',dfs,H,nx⟩ Q):Wp P ro ⟨fn,nt,T,k,dfs,H,nx⟩ Q:=by
 obtain⟨_,_,_,_,_,_,_,_,rfl,rfl,h1,h2⟩:=zz h
 exact cc hr h1 (h2 d rfl) hn hw
theorem GZ{H':au}{nx':Nat}(h:hdG nt T k=some (none,op,k'))(hn:ndf op=true)(hr: ∀ {d:Option Tmp} {ty:TypeId} {pos:String} {af:Array Edge} {gd:Option (Nat×Bool)},OpDoes P T H nx ⟨d,op,ty,pos,af,gd⟩ (.skip,H',nx'))(hw:Wp P ro ⟨fn,nt,T,k',dfs,H',nx'⟩ Q):Wp P ro ⟨fn,nt,T,k,dfs,H,nx⟩ Q:=by
 obtain⟨_,_,_,_,_,_,_,_,rfl,rfl,h1,_⟩:=zz h
 exact Gb hr h1 hn hw
end
def ptrB:Option SV→Option Nat
 | some (.ptr b _)=>some b
 | _=>none
def A5(nt:Nat)(T:Tr SV)(k:List AIt):Option Nat:=match hdG nt T k with
 | some (_,.load _ x,_)=>ptrB (ak T x)
 | some (_,.store _ x _,_)=>ptrB (ak T x)
 | _=>none
def ldV(a:Option Nat)(o:Nat)(cs:List SV):Option SV:=match a with
 | none=>match cs[o]? with
   | some v=>some v
   | none=>none
 | some n=>bif Nat.beq o 0 && Nat.beq cs.length n then some (.agg cs) else none
def memG(tb:Tbl)(nt:Nat)(T:Tr SV)(H:au)(b:Nat)(bt:TypeId)(cs:List SV)(k:List AIt):Option (Tr SV×List AIt×au):=match hdG nt T k with
 | some (some d,.load t x,k')=>match ak T x with
   | some (.ptr _ o)=>match tb.ag[t]? with
     | some (some a)=>match ldV a o cs with
       | some v=>some (T.set d v,k',H)
       | none=>none
     | _=>none
   | _=>none
 | some (none,.store t a x,k')=>match ak T a with
   | some (.ptr _ o)=>match ak T x with
     | some v=>match He v with
       | some vs=>match tb.sz[t]? with
         | some (some n)=>bif Nat.beq vs.length n && Nat.ble (o+n) cs.length && bh vs then some (T,k',H.set b (aq bt (cs.take o ++ v.cells ++ cs.drop (o+n)))) else none
         | _=>none
       | none=>none
     | none=>none
   | _=>none
 | _=>none
theorem D8{v:SV}{vs:List SV}(h:He v=some vs):v.cells=vs:=by
 unfold He at h
 split at h <;> cases h <;> rfl
theorem Ca{P:Program}{tb:Tbl}(ht:TblOk P tb){T:Tr SV}{H:au}{t x b o bt}{a:Option Nat}{cs:List SV}{v:SV}{d:Option Tmp}{ty:TypeId}{pos:String}{af:Array Edge}{gd:Option (Nat×Bool)}(ha:tb.ag[t]? =some (some a))(hx:ak T x=some (.ptr b o))(hb:H.at' b=some (aq bt cs))(hv:ldV a o cs=some v) :
 ReadDoes P T H ⟨d,.load t x,ty,pos,af,gd⟩ v:=by
 unfold ldV at hv
 split at hv
 ·split at hv
  ·next hc=>cases hv;exact an (ht.ag _ ha) hx hb (aD hc)
  ·cases hv
 ·next n=>
  cases hn:(Nat.beq o 0 && Nat.beq cs.length n)with
  | false=>rw [hn] at hv;cases hv
  | true=>
    rw [hn,cond_true] at hv
    cases hv
    have hn':=Bool.and_eq_true_iff.1 hn
    have h0:=Jt hn'.1
    have hl:=Jt hn'.2
    subst h0
    exact aV (ht.ag _ ha) hx hb (am _ 0 (by rw [← hl];simp) hl)
theorem DA{P:Program}{ro:Option Nat}{fn nt:Nat}{dfs:List ADf}{Q:Pst}{tb:Tbl}(ht:TblOk P tb)
 {T T':Tr SV} {k k':List AIt} {H H':au} {nx b bt:Nat} {cs:List SV} (h1:A5 nt T k=some b) (h2:H.at' b=some (aq bt cs)) (h3:memG tb nt T H b bt cs k=some (T',k',H')) (hw:Wp P ro ⟨fn,nt,T',k',dfs,H',nx⟩ Q):Wp P ro ⟨fn,nt,T,k,dfs,H,nx⟩ Q:=by
 unfold memG at h3
 split at h3
 ·next hh=>
  split at h3
  ·next hx=>
   simp only [A5,hh,hx,ptrB,Ht] at h1
   subst h1
   split at h3
   ·next ha=>
    split at h3
    ·next hv=>
     cases h3
     exact DR hh rfl (Ca ht ha hx h2 hv) hw
    ·cases h3
   ·cases h3
  ·cases h3
 ·next hh=>
  split at h3
  ·next ha=>
   simp only [A5,hh,ha,ptrB,Ht] at h1
   subst h1
   split at h3
   ·next hx=>
    split at h3
    ·next hb=>
     split at h3
     ·next hs=>
      cases hn:(Nat.beq _ _ && Nat.ble _ cs.length && bh _)with
      | false=>rw [hn] at h3;cases h3
      | true=>
        rw [hn,cond_true] at h3
        cases h3
        have hn':=Bool.and_eq_true_iff.1 hn
        have hn2:=Bool.and_eq_true_iff.1 hn'.1
        have e:=D8 hb
        subst e
        exact GZ hh rfl (cW (ht.sz _ hs) ha hx rfl h2 (Jt hn2.1) (Hz hn2.2) hn'.2) hw
     ·cases h3
    ·cases h3
   ·cases h3
  ·cases h3
 ·cases h3
def Db:IntKind→IntKind→Bool
 | .i64,.i64=>true
 | .u8,.u8=>true
 | .u16,.u16=>true
 | .u32,.u32=>true
 | .u64,.u64=>true
 | .i32,.i32=>true
 | _,_=>false
theorem AD{a b:IntKind}(h:Db a b=true):a=b:=by
 cases a <;> cases b <;> first|rfl|cases h
def Hf(nt:Nat)(T:Tr SV)(k:List AIt):Option (BinOp×IntKind×Int×Int×Nat×List AIt):=match hdG nt T k with
 | some (some d,.binOp op _ x y _,k')=>match ak T x with
   | some (.sc (.int ka a))=>match ak T y with
     | some (.sc (.int kb b))=>bif Db ka kb then some (op,ka,a,b,d,k') else none
     | _=>none
   | _=>none
 | _=>none
def ariG(nt:Nat)(T:Tr SV)(k:List AIt):Option (Int×Nat×List AIt):=match Hf nt T k with
 | some (.add,.i64,a,b,d,k')=>some (a+b,d,k')
 | some (.sub,.i64,a,b,d,k')=>some (a-b,d,k')
 | some (.mul,.i64,a,b,d,k')=>some (a*b,d,k')
 | _=>none
def ordG(w:Bool)(op:BinOp)(a b:Int):Option (Int×Int):=match op with
 | .lss=>bif w then some (a+1,b) else some (b,a)
 | .leq=>bif w then some (a,b) else some (b+1,a)
 | .gtr=>bif w then some (b+1,a) else some (a,b)
 | .geq=>bif w then some (b,a) else some (a+1,b)
 | _=>none
def ordW(w:Bool)(nt:Nat)(T:Tr SV)(k:List AIt):Option (Int×Int×Nat×List AIt):=match Hf nt T k with
 | some (op,_,a,b,d,k')=>match ordG w op a b with
   | some (x,y)=>some (x,y,d,k')
   | none=>none
 | none=>none
def eqW(w:Bool)(nt:Nat)(T:Tr SV)(k:List AIt):Option (Int×Int×Bool×Nat×List AIt):=match Hf nt T k with
 | some (.eql,_,a,b,d,k')=>some (a,b,w,d,k')
 | some (.neq,_,a,b,d,k')=>some (a,b,!w,d,k')
 | _=>none
section
variable {P:Program} {ro:Option Nat} {fn nt nx d:Nat} {T:Tr SV} {k k':List AIt} {dfs:List ADf} {H:au} {Q:Pst}
section
variable {a b x y:Int}{c:Bool}
theorem pN{op:BinOp}{kd:IntKind}{v:SV}(h:Hf nt T k=some (op,kd,a,b,d,k'))(hr: ∀ {t yt:TypeId} {x y:Operand} {d:Option Tmp} {ty:TypeId} {pos:String} {af:Array Edge} {gd:Option (Nat×Bool)},ak T x=some (.sc (.int kd a))→ak T y=some (.sc (.int kd b))→ReadDoes P T H ⟨d,.binOp op t x y yt,ty,pos,af,gd⟩ v)
 (hw:Wp P ro ⟨fn,nt,T.set d v,k',dfs,H,nx⟩ Q):Wp P ro ⟨fn,nt,T,k,dfs,H,nx⟩ Q:=by
 unfold Hf at h
 split at h
 ·next hh=>
  split at h
  ·next hx=>
   split at h
   ·next hy=>
    cases hs:Db _ _ with
    | false=>rw [hs] at h;cases h
    | true=>
      rw [hs,cond_true] at h
      cases h
      have e:=AD hs
      subst e
      exact DR hh rfl (hr hx hy) hw
   ·cases h
  ·cases h
 ·cases h
theorem aK{n:Int}(h:ariG nt T k=some (n,d,k'))(h1 : -9223372036854775808≤n)(h2:n≤9223372036854775807)(hw:Wp P ro ⟨fn,nt,T.set d (.sc (.int .i64 n)),k',dfs,H,nx⟩ Q):Wp P ro ⟨fn,nt,T,k,dfs,H,nx⟩ Q:=by
 have e:=(Hu n ⟨h1,h2⟩).symm
 unfold ariG at h
 split at h
 ·next hb=>cases h;exact pN hb (fun hx hy=>aw hx hy (.inl ⟨rfl,e⟩)) hw
 ·next hb=>cases h;exact pN hb (fun hx hy=>aw hx hy (.inr (.inl ⟨rfl,e⟩))) hw
 ·next hb=>cases h;exact pN hb (fun hx hy=>aw hx hy (.inr (.inr ⟨rfl,e⟩))) hw
 ·cases h
theorem BY(w:Bool)(h:ordW w nt T k=some (x,y,d,k'))(hxy:x≤y)(hw:Wp P ro ⟨fn,nt,T.set d (.sc (.bool w)),k',dfs,H,nx⟩ Q):Wp P ro ⟨fn,nt,T,k,dfs,H,nx⟩ Q:=by
 unfold ordW at h
 split at h
 ·next hb=>
  split at h
  ·next hr=>
   cases h
   refine pN hb (fun hx hy=>di (c:=w) hx hy ?_) hw
   unfold ordG at hr
   split at hr <;> cases w <;> cases hr <;> simp <;> omega
  ·cases h
 ·cases h
theorem o9(h:ordW true nt T k=some (x,y,d,k'))(hxy:x≤y)(hw:Wp P ro ⟨fn,nt,T.set d (.sc (.bool true)),k',dfs,H,nx⟩ Q):Wp P ro ⟨fn,nt,T,k,dfs,H,nx⟩ Q:=BY true h hxy hw
theorem kM(h:ordW false nt T k=some (x,y,d,k'))(hxy:x≤y)(hw:Wp P ro ⟨fn,nt,T.set d (.sc (.bool false)),k',dfs,H,nx⟩ Q):Wp P ro ⟨fn,nt,T,k,dfs,H,nx⟩ Q:=BY false h hxy hw
theorem Gd(w:Bool)(h:eqW w nt T k=some (a,b,c,d,k'))(hab:(a == b)=w)(hw:Wp P ro ⟨fn,nt,T.set d (.sc (.bool c)),k',dfs,H,nx⟩ Q):Wp P ro ⟨fn,nt,T,k,dfs,H,nx⟩ Q:=by
 unfold eqW at h
 split at h
 ·next hb=>cases h;exact pN hb (fun hx hy=>di hx hy (by simp [← hab,bne])) hw
 ·next hb=>cases h;exact pN hb (fun hx hy=>di hx hy (by simp [← hab,bne])) hw
 ·cases h
theorem dH(h:eqW true nt T k=some (a,b,c,d,k'))(hab:a=b)(hw:Wp P ro ⟨fn,nt,T.set d (.sc (.bool c)),k',dfs,H,nx⟩ Q):Wp P ro ⟨fn,nt,T,k,dfs,H,nx⟩ Q:=Gd true h (by simp [hab]) hw
theorem ii(h:eqW false nt T k=some (a,b,c,d,k'))(hab:a≠b)(hw:Wp P ro ⟨fn,nt,T.set d (.sc (.bool c)),k',dfs,H,nx⟩ Q):Wp P ro ⟨fn,nt,T,k,dfs,H,nx⟩ Q:=Gd false h (by simp [hab]) hw
def D7(nt:Nat)(T:Tr SV)(k:List AIt):Option (FuncId×List SV×Nat×List AIt):=match hdG nt T k with
 | some (some d,.call c,k')=>match c.callee with
   | .value (.func g)=>match du T c.args.toList with
     | some vs=>some (g,vs,d,k')
     | none=>none
   | _=>none
 | _=>none
theorem w_cm{g:FuncId}{args:List SV}(h:D7 nt T k=some (g,args,d,k'))(hm:bS P g=true)(hf:Fnc P g args H nx (fun r=>Wp P ro ⟨fn,nt,T.set d r.1,k',dfs,r.2.1,r.2.2⟩ Q)):Wp P ro ⟨fn,nt,T,k,dfs,H,nx⟩ Q:=by
 unfold D7 at h
 split at h
 ·next hh=>
  split at h
  ·next hcl=>
   split at h
   ·next ha=>
    cases h
    obtain⟨_,_,_,_,_,_,_,_,rfl,rfl,h1,h2⟩:=zz hh
    refine uw h1 ?_ (by simp only [aI (h2 d rfl)];exact hf)
    unfold cd
    simp only [ha,hcl,ak,dI,hm,cond_true,List.map_nil,List.nil_append,Jr]
   ·cases h
  ·cases h
 ·cases h
theorem bY{g:FuncId}{args:List SV}{v:SV}{H':au}{nx':Nat}(h:D7 nt T k=some (g,args,d,k'))(hm:bS P g=true)(hf:Fnc P g args H nx (fun r=>r=(v,H',nx')))(hw:Wp P ro ⟨fn,nt,T.set d v,k',dfs,H',nx'⟩ Q):Wp P ro ⟨fn,nt,T,k,dfs,H,nx⟩ Q:=
 w_cm h hm (JG hf (fun r hr=>by subst hr;exact hw))
def Gs(T:Tr SV):List ResultVar→Option (List SV)
 | []=>some []
 | .tmp t :: l=>match T.at' t with
   | some v=>match Gs T l with
     | some r=>some (v :: r)
     | none=>none
   | none=>none
 | _ :: _=>none
theorem tH: ∀ {l:List ResultVar} {vs:List SV},Gs T l=some vs→ResIs P H T l vs
 | [],vs,h=>by cases h;exact .nil
 | .tmp t :: l,vs,h=>by
   unfold Gs at h
   split at h
   ·next hv=>
    split at h
    ·next hr=>cases h;exact .tmp hv (tH hr)
    ·cases h
   ·cases h
 | .cell _ _ :: _,vs,h=>by cases h
theorem bP{F:Func}{rl:Array ResultVar}{vs:List SV}(hf:P.funcs[fn]? =some F)(hl:F.results=rl)(hv:Gs T rl.toList=some vs)(h:Q (fP vs,H,nx)):Wp P none ⟨fn,nt,T,.code .ret :: k,[],H,nx⟩ Q:=bn hf (congrArg Array.toList hl) (tH hv) h
theorem B0{F:Func}{rl:Array ResultVar}{vs:List SV}(hf:P.funcs[fn]? =some F)(hl:F.results=rl)(hv:Gs T rl.toList=some vs)(h:Q (fP vs,H,nx)):Wp P none ⟨fn,nt,T,[],[],H,nx⟩ Q:=p7 hf (congrArg Array.toList hl) (tH hv) h
end
end
def ldW(tb:Tbl)(nt:Nat)(T:Tr SV)(k:List AIt):Option (Nat×Nat×Nat×List AIt):=match hdG nt T k with
 | some (some d,.load t x,k')=>match ak T x with
   | some (.ptr b 0)=>match tb.ag[t]? with
     | some (some (some n))=>some (b,n,d,k')
     | _=>none
   | _=>none
 | _=>none
def stW(tb:Tbl)(nt:Nat)(T:Tr SV)(k:List AIt):Option (Nat×Nat×List SV×List AIt):=match hdG nt T k with
 | some (none,.store t a x,k')=>match ak T a with
   | some (.ptr b 0)=>match ak T x with
     | some (.agg vs)=>match tb.sz[t]? with
       | some (some n)=>some (b,n,vs,k')
       | _=>none
     | _=>none
   | _=>none
 | _=>none
section
variable {P:Program} {tb:Tbl} (ht:TblOk P tb) {ro:Option Nat} {fn nt nx d b n bt:Nat} {T:Tr SV} {k k':List AIt} {dfs:List ADf} {H:au} {Q:Pst} {cs vs:List SV}
include ht
theorem w_ldW(h:ldW tb nt T k=some (b,n,d,k'))(hb:H.at' b=some (aq bt cs))(hn:cs.length=n)(hw:Wp P ro ⟨fn,nt,T.set d (.agg cs),k',dfs,H,nx⟩ Q):Wp P ro ⟨fn,nt,T,k,dfs,H,nx⟩ Q:=by
 unfold ldW at h
 split at h
 ·next hh=>
  split at h
  ·next hx=>
   split at h
   ·next ha=>
    cases h
    exact DR hh rfl (aV (ht.ag _ ha) hx hb (am _ 0 (by rw [← hn];simp) hn)) hw
   ·cases h
  ·cases h
 ·cases h
theorem w_stW(h:stW tb nt T k=some (b,n,vs,k'))(hb:H.at' b=some (aq bt cs))(hv:vs.length=n)(hn:cs.length=n)(h1:bh vs=true)(hw:Wp P ro ⟨fn,nt,T,k',dfs,H.set b (aq bt vs),nx⟩ Q):Wp P ro ⟨fn,nt,T,k,dfs,H,nx⟩ Q:=by
 unfold stW at h
 split at h
 ·next hh=>
  split at h
  ·next ha=>
   split at h
   ·next hx=>
    split at h
    ·next hs=>
     cases h
     refine GZ hh rfl (cW (ht.sz _ hs) ha hx rfl hb hv (by omega) h1) ?_
     have e:cs.take 0 ++ (SV.agg vs).cells ++ cs.drop (0+n)=vs:=by
      show cs.take 0 ++ vs ++ _=vs
      rw [List.take_zero,List.nil_append,List.drop_eq_nil_of_le (by omega),Jr]
     rw [e]
     exact hw
    ·cases h
   ·cases h
  ·cases h
 ·cases h
end
def opG(tb:Tbl)(nt:Nat)(ops:Array Oper)(T:Tr SV)(o:Oper):Option (Nat×SV):=match hdO nt ops T o with
 | some (some d,op)=>match np tb T op with
   | some v=>some (d,v)
   | none=>none
 | _=>none
def ldO(tb:Tbl)(nt:Nat)(ops:Array Oper)(T:Tr SV)(o:Oper):Option (Nat×Nat×Option Nat×Nat):=match hdO nt ops T o with
 | some (some d,.load t x)=>match ak T x with
   | some (.ptr b o)=>match tb.ag[t]? with
     | some (some a)=>some (b,o,a,d)
     | _=>none
   | _=>none
 | _=>none
section
variable {P:Program} {tb:Tbl} (ht:TblOk P tb) {nt i nx stg d:Nat} {ops:Array Oper} {o:Oper} {l:List Oper} {T:Tr SV} {H:au} {rs:List Rec} {Hs:List (au×Nat)} {K:DS→Prop} {v:SV}
theorem Ha{op:Op}(h:hdO nt ops (aZ T (a9 ops.toList o)) o=some (some d,op))(hn: ∀ c,op ≠ .defer c)(hr: ∀ {d:Option Tmp} {ty:TypeId} {pos:String} {af:Array Edge} {gd:Option (Nat×Bool)},ReadDoes P (aZ T (a9 ops.toList o)) H ⟨d,op,ty,pos,af,gd⟩ v)
 (hk:DrawK P nt ops (i+1) l ⟨T.set d v,H,nx,⟨i,o,aZ T (a9 ops.toList o),stg,false,true,v⟩ :: rs,Hs,stg⟩ K):DrawK P nt ops i (o :: l) ⟨T,H,nx,rs,Hs,stg⟩ K:=by
 obtain⟨h1,h2,h3,h4⟩:=Cn h
 obtain⟨dst,op',ty,pos,af,gd⟩:=o
 cases h2
 cases h3
 exact bI h1 (h4 d rfl) hn hr hk
include ht
theorem Hb(h:opG tb nt ops (aZ T (a9 ops.toList o)) o=some (d,v))(hk:DrawK P nt ops (i+1) l ⟨T.set d v,H,nx,⟨i,o,aZ T (a9 ops.toList o),stg,false,true,v⟩ :: rs,Hs,stg⟩ K):DrawK P nt ops i (o :: l) ⟨T,H,nx,rs,Hs,stg⟩ K:=by
 unfold opG at h
 split at h
 ·next hh=>
  split at h
  ·next hv=>
   cases h
   exact Ha hh (uW hv) (iO ht hv) hk
  ·cases h
 ·cases h
theorem G9{b oo bt:Nat}{a:Option Nat}{cs:List SV}(h:ldO tb nt ops (aZ T (a9 ops.toList o)) o=some (b,oo,a,d))(hb:H.at' b=some (aq bt cs))(hv:ldV a oo cs=some v)
 (hk:DrawK P nt ops (i+1) l ⟨T.set d v,H,nx,⟨i,o,aZ T (a9 ops.toList o),stg,false,true,v⟩ :: rs,Hs,stg⟩ K):DrawK P nt ops i (o :: l) ⟨T,H,nx,rs,Hs,stg⟩ K:=by
 unfold ldO at h
 split at h
 ·next hh=>
  split at h
  ·next hx=>
   split at h
   ·next ha=>
    cases h
    exact Ha hh (fun c hc=>by cases hc) (Ca ht ha hx hb hv) hk
   ·cases h
  ·cases h
 ·cases h
end
section
variable {P:Program} {tb:Tbl} {ancs chain:List Nat} {Q:List (au×Nat)} {r:Rec} {l:List Rec}
theorem fk(h:r.chain=true)(k:FlOk P ancs chain Q l):FlOk P ancs chain Q (r :: l):=⟨.inl (oR h),k⟩
theorem Ag(h:r.wanted=false)(k:FlOk P ancs chain Q l):FlOk P ancs chain Q (r :: l):=⟨.inl (wa h),k⟩
theorem fl_pG(ht:TblOk P tb)(h:np tb r.T r.o.op=some r.val)(k:FlOk P ancs chain Q l):FlOk P ancs chain Q (r :: l):=⟨.inr (AllH.all (fun _=>iO ht h) _),k⟩
end
end Go.Sy
namespace Go.Proofs.YtnhmbonmlfeifaaGreat
open Go Go.Sy
abbrev xh:Tbl:=⟨F.foL,F.zlL,F.unL,F.agL,F.szL,F.zeL,F.plL⟩
theorem jn:TblOk Tryz.prog xh:=⟨F.fo,F.zl,F.un,F.ag,F.sz,F.ze,F.pl⟩
section
variable {ro:Option Nat} {fn nt nx nx':Nat} {T T':Tr SV} {k k':List AIt} {dfs:List ADf} {H H':au} {Q:Pst}
theorem aj(h:goG xh nt 200 false T k H nx=some (T',k',H',nx'))(hw:Wp Tryz.prog ro ⟨fn,nt,T',k',dfs,H',nx'⟩ Q):Wp Tryz.prog ro ⟨fn,nt,T,k,dfs,H,nx⟩ Q:=Co jn 200 h hw
theorem cw(h:goG xh nt 1 false T k H nx=some (T',k',H',nx'))(hw:Wp Tryz.prog ro ⟨fn,nt,T',k',dfs,H',nx'⟩ Q):Wp Tryz.prog ro ⟨fn,nt,T,k,dfs,H,nx⟩ Q:=Co jn 1 h hw
theorem aG{b bt:Nat}{cs:List SV}(h1:A5 nt T k=some b)(h2:H.at' b=some (aq bt cs))(h3:memG xh nt T H b bt cs k=some (T',k',H'))(hw:Wp Tryz.prog ro ⟨fn,nt,T',k',dfs,H',nx⟩ Q):Wp Tryz.prog ro ⟨fn,nt,T,k,dfs,H,nx⟩ Q:=DA jn h1 h2 h3 hw
theorem dA{i stg d b o bt:Nat}{a:Option Nat}{cs:List SV}{ops:Array Oper}{op:Oper}{l:List Oper}{rs:List Rec}{Hs:List (au×Nat)}{K:DS→Prop}{v:SV}
 (h:ldO xh nt ops (aZ T (a9 ops.toList op)) op=some (b,o,a,d)) (hb:H.at' b=some (aq bt cs)) (hv:ldV a o cs=some v) (hk:DrawK Tryz.prog nt ops (i+1) l ⟨T.set d v,H,nx,⟨i,op,aZ T (a9 ops.toList op),stg,false,true,v⟩ :: rs,Hs,stg⟩ K):DrawK Tryz.prog nt ops i (op :: l) ⟨T,H,nx,rs,Hs,stg⟩ K:=G9 jn h hb hv hk
theorem aU{i stg dd:Nat}{ops:Array Oper}{o:Oper}{l:List Oper}{rs:List Rec}{Hs:List (au×Nat)}{K:DS→Prop}{v:SV}(h:opG xh nt ops (aZ T (a9 ops.toList o)) o=some (dd,v))(hk:DrawK Tryz.prog nt ops (i+1) l ⟨T.set dd v,H,nx,⟨i,o,aZ T (a9 ops.toList o),stg,false,true,v⟩ :: rs,Hs,stg⟩ K):DrawK Tryz.prog nt ops i (o :: l) ⟨T,H,nx,rs,Hs,stg⟩ K:=Hb jn h hk
theorem mA{d:Option Tmp}{op:Op}{ty:TypeId}{pos:String}{af:Array Edge}{gd:Option (Nat×Bool)}{v:SV}(h:np xh T op=some v):ReadDoes Tryz.prog T H ⟨d,op,ty,pos,af,gd⟩ v:=iO jn h
theorem eI{ancs chain:List Nat}{Q:List (au×Nat)}{r:Rec}{l:List Rec}(h:np xh r.T r.o.op=some r.val)(k:FlOk Tryz.prog ancs chain Q l):FlOk Tryz.prog ancs chain Q (r :: l):=fl_pG jn h k
end
end Go.Proofs.YtnhmbonmlfeifaaGreat
end
section
namespace Go.Sy
open Go Go.Sl Go.RowKit
abbrev Own:=au→(Nat→Prop)→Prop
section
variable {K V:Type} [DecidableEq K]
abbrev kv(m:List (K×V×Nat)):List (K×V):=m.map fun x=>(x.1,x.2.1)
end
section
variable {P:Program} {T:Tr SV} {H:au} {nx:Nat} {d:Option Tmp} {ty:TypeId} {pos:String} {af:Array Edge} {gd:Option (Nat×Bool)}
theorem AO{t yt:TypeId}{x y:Operand}{a b:ByteArray}(hx:ak T x=some (.sc (.string a)))(hy:ak T y=some (.sc (.string b))):ReadDoes P T H ⟨d,.binOp .eql t x y yt,ty,pos,af,gd⟩ (.sc (.bool (a == b))):=by
 refine eG fun ev w he=>?_
 have e1:=he x _ hx _ rfl
 have e2:=he y _ hy _ rfl
 rw [beq_toListBytes]
 simp [execOp,e1,e2,eqGuard,binOp,Op.stringOp]
theorem yB{t yt:TypeId}{x y:Operand}{a b:ByteArray}{r:Bool}(hx:ak T x=some (.sc (.string a)))(hy:ak T y=some (.sc (.string b)))(hr:(a == b)=r):ReadDoes P T H ⟨d,.binOp .eql t x y yt,ty,pos,af,gd⟩ (.sc (.bool r)):=hr ▸ AO hx hy
end
section
variable {P:Program} {ro:Option Nat} {fn nt nx:Nat} {T:Tr SV} {k:List AIt} {dfs:List ADf} {H:au} {Q:Pst} {ops:Array Oper} {i:Nat} {l:List Oper} {d:Option Tmp} {ty:TypeId} {pos:String} {af:Array Edge} {gd:Option (Nat×Bool)}
theorem uA{t yt:TypeId}{x y:Operand}{a b:ByteArray}{r:Bool}{dd:Nat}(hw:aF T ops ⟨some dd,.binOp .eql t x y yt,ty,pos,af,gd⟩=some true)(hd:Nat.blt dd nt=true)(hx:ak T x=some (.sc (.string a)))(hy:ak T y=some (.sc (.string b)))(hr:(a == b)=r)
 (h:Wp P ro ⟨fn,nt,T.set dd (.sc (.bool r)),.inReg ops (i+1) l :: k,dfs,H,nx⟩ Q):Wp P ro ⟨fn,nt,T,.inReg ops i (⟨some dd,.binOp .eql t x y yt,ty,pos,af,gd⟩ :: l) :: k,dfs,H,nx⟩ Q:=
 cZ hw (.inr (fun _ h=>by cases h)) ((yB hx hy hr).does) (by rw [aI hd];exact h)
end
section
variable {P:Program}
section
variable {H:au}{v:SV}{Q:Pst}{eo fn n ne nt nx r sz:Nat}{T:Tr SV}{el:TypeId}{pos:String}{rt t tx ty:TypeId}{s x:Operand}{dfs:List ADf}{k:List AIt}{af:Array Edge}{ro:Option Nat}{vs:List Value}{gd:Option (Nat×Bool)}
theorem tT{d:Option Tmp}{m:Nat}{us ws:List Value}(hu:P.underlying t=some (.slice el))(hk:(∃ e',P.underlying tx=some (.slice e'))∨P.underlying tx=some .string)(hs:bH P el=some sz)
 (hx0:ak T s=some (.slu r eo n)) (hx:ak T x=some v) (hro:H.at' r=some (dat false ne sz rt us)) (hr:RdV P H sz v m vs) (h1:tw vs) (hm:eo+n+m≤ne) (h0:0<ne) (hvl:vs.length=m*sz) (hul:us.length=ne*sz) (hws:us.take ((eo+n)*sz) ++ vs ++ us.drop ((eo+n)*sz+m*sz)=ws) :
 OpDoes P T H nx ⟨d,.call {callee:= .builtin .append,args:= #[s,x],argTypes:= #[t,tx]},ty,pos,af,gd⟩ (.val (.slu r eo (n+m)),H.set r (dat false ne sz rt ws),nx):=by
 intro K w0 e w ev hS hE
 have e1:=hE s _ hx0
 have e2:=hE x _ hx
 simp only [SV.conc,HI] at e1
 obtain⟨z,hz,e1⟩:=e1
 obtain⟨z2,hz2,hlz⟩:=hS.rel _ _ hro
 rw [hz] at hz2
 cases hz2
 obtain⟨g1,g2,g3,g4⟩:=Lies.row hlz
 have hnil:=g3 h0
 have hcx:(SV.sl r (eo*sz) n (z.cap-eo)).conc e=some (ev s):=by
  rw [← e1,Ent.eQ hnil,g1]
  simp [SV.conc,hz]
 have hle:(eo+n)*sz+m*sz≤ne*sz:=by rw [← Nat.add_mul];exact Nat.mul_le_mul_right _ hm
 have hap:dU P H nx el (.sl r (eo*sz) n (z.cap-eo)) v=some (.val (.sl r (eo*sz) (n+m) (z.cap-eo)),H.set r (dat false ne sz rt ws),nx):=by
  unfold dU
  rw [hs]
  cases sz with
  | zero=>omega
  | succ sz=>
    simp only
    rw [show aQ H (sz+1) v=some (m,vs.map .sc)from hr]
    simp only [gA h1,Bool.not_true,cond_false]
    rw [show Nat.ble (n+m) (z.cap-eo)=true from HG (by omega),hro]
    simp only [cond_true]
    rw [← Nat.add_mul,gI vs us ((eo+n)*(sz+1)) (by omega) (by omega) h1,hvl,hws]
 obtain⟨e',w',r',v',f1,f2,f3,f4,f5⟩:=pU (ty:=ty) hu hk hS hap hcx e2
 cases f1
 have hz':=f2 _ _ hz
 have f4':(SV.slu r eo (n+m)).conc e'=some v':=by
  rw [← f4]
  simp only [SV.conc,hz',HY,Ent.eQ hnil,g1]
 refine⟨e',w',f2,f3,v',f4',?_⟩
 simp only [execOp,resolve,invoke,builtin,List.map_toArray,HU,List.map_nil,Sem.run_bind,Sem.run_pure,Result.andThen,f5]
theorem wz{ops:Array Oper}{i:Nat}{l:List Oper}{m:Nat}{us ws:List Value}{dd:Nat}(hw:aF T ops ⟨some dd,.call {callee:= .builtin .append,args:= #[s,x],argTypes:= #[t,tx]},ty,pos,af,gd⟩=some true)(hd:Nat.blt dd nt=true)(hx0:ak T s=some (.slu r eo n))(hx:ak T x=some v)(hu:P.underlying t=some (.slice el))(hk:(∃ e',P.underlying tx=some (.slice e'))∨P.underlying tx=some .string)(hs:bH P el=some sz)
 (hro:H.at' r=some (dat false ne sz rt us)) (hr:RdV P H sz v m vs) (h1:tw vs) (hm:eo+n+m≤ne) (h0:0<ne) (hvl:vs.length=m*sz) (hul:us.length=ne*sz) (hws:us.take ((eo+n)*sz) ++ vs ++ us.drop ((eo+n)*sz+m*sz)=ws)
 (h:Wp P ro ⟨fn,nt,T.set dd (.slu r eo (n+m)),.inReg ops (i+1) l :: k,dfs,H.set r (dat false ne sz rt ws),nx⟩ Q):Wp P ro ⟨fn,nt,T,.inReg ops i (⟨some dd,.call {callee:= .builtin .append,args:= #[s,x],argTypes:= #[t,tx]},ty,pos,af,gd⟩ :: l) :: k,dfs,H,nx⟩ Q:=
 cZ hw (.inr (fun _ h=>by cases h)) (tT hu hk hs hx0 hx hro hr h1 hm h0 hvl hul hws) (by rw [aI hd];exact h)
theorem aW(h:(∀ b vo,H.at' b=some vo→b<nx)→Wp P ro ⟨fn,nt,T,k,dfs,H,nx⟩ Q):Wp P ro ⟨fn,nt,T,k,dfs,H,nx⟩ Q:=by
 refine⟨fun K w0 e w tmps todo ds kd rof cs hS hTr htd hds hc2=>(h fun b vo hb=>?_).run K w0 e w tmps todo ds kd rof cs hS hTr htd hds hc2⟩
 obtain⟨x,hx,_⟩:=hS.rel _ _ hb
 rcases Jg b nx with hlt|hge
 ·exact hlt
 ·have h2:=hS.fresh _ hge
  rw [h2] at hx;cases hx
theorem pE{d:Option Tmp}{sz':Nat}{rr:Bool}{c:Tr SV}(hu:P.underlying t=some (.slice el))(hk:(∃ e',P.underlying tx=some (.slice e'))∨P.underlying tx=some .string)(hs:bH P el=some sz)(h0:0<sz)
 (hx0:ak T s=some (.slu r eo n)) (hx:ak T x=some v) (hro:H.at' r=some (.row rr ne sz' rt c)) (hn:eo+n≤ne) (hr:RdV P H sz v 0 vs) (h1:tw vs) :
 OpDoes P T H nx ⟨d,.call {callee:= .builtin .append,args:= #[s,x],argTypes:= #[t,tx]},ty,pos,af,gd⟩ (.val (.slu r eo n),H,nx):=by
 have hap:dU P H nx el (.slu r eo n) v=some (.val (.slu r eo n),H,nx):=by
  unfold dU
  rw [hs]
  cases sz with
  | zero=>omega
  | succ sz=>
    simp only
    rw [show aQ H (sz+1) v=some (0,vs.map .sc)from hr]
    simp only [gA h1,Bool.not_true,cond_false]
    rw [hro]
    simp only [Nat.beq_refl,cond_true,show Nat.ble (eo+n) ne=true from HG hn]
 refine iW ?_
 rcases hk with ⟨e',hk⟩|hk <;> simp only [fN,du,hx0,hx,HZ,eP,gT,hu,hk,hap]
theorem xM{ops:Array Oper}{i:Nat}{l:List Oper}{sz':Nat}{rr:Bool}{c:Tr SV}{dd:Nat}(hw:aF T ops ⟨some dd,.call {callee:= .builtin .append,args:= #[s,x],argTypes:= #[t,tx]},ty,pos,af,gd⟩=some true)(hd:Nat.blt dd nt=true)(hx0:ak T s=some (.slu r eo n))(hx:ak T x=some v)(hu:P.underlying t=some (.slice el))(hk:(∃ e',P.underlying tx=some (.slice e'))∨P.underlying tx=some .string)(hs:bH P el=some sz)(h0:Nat.blt 0 sz=true)(hro:H.at' r=some (.row rr ne sz' rt c))(hn:eo+n≤ne)(hr:RdV P H sz v 0 vs)(h1:tw vs)
 (h:Wp P ro ⟨fn,nt,T.set dd (.slu r eo n),.inReg ops (i+1) l :: k,dfs,H,nx⟩ Q):Wp P ro ⟨fn,nt,T,.inReg ops i (⟨some dd,.call {callee:= .builtin .append,args:= #[s,x],argTypes:= #[t,tx]},ty,pos,af,gd⟩ :: l) :: k,dfs,H,nx⟩ Q:=
 cZ hw (.inr (fun _ h=>by cases h)) (pE hu hk hs (bQ h0) hx0 hx hro hn hr h1) (by rw [aI hd];exact h)
end
end
section
variable {P:Program} {T:Tr SV} {H:au} {nx:Nat} {d:Option Tmp} {ty:TypeId} {pos:String} {af:Array Edge} {gd:Option (Nat×Bool)}
section
variable {C b n o:Nat}{t:TypeId}{x:Operand}
theorem cR{el:TypeId}{lo hi:Option Operand}{l h o':Nat}(hu:P.underlying t=some (.slice el))(hs:bH P el=some 1)(hx:ak T x=some (.sl b o n C))(hl:nv T 0 lo l)(hh:nv T n hi h)(h1:l≤h)(h2:h≤C)(ho:(if C=l then o else o+l)=o'):ReadDoes P T H ⟨d,.slice t x lo hi none,ty,pos,af,gd⟩ (.sl b o' (h-l) (C-l)):=by
 refine eH ?_
 unfold nv at hl hh
 have hmx:natOr T C none=some C:=rfl
 simp only [cx,hx,HZ,kR,hu,hs,hl,hh,hmx]
 rw [show Nat.ble l h=true from HG h1,show Nat.ble h C=true from HG h2,show Nat.ble C C=true from HG (HS _)]
 subst ho
 by_cases hc:C=l
 ·subst hc;simp
 ·have:Nat.beq C l=false:=by cases hq:Nat.beq C l with|false=>rfl|true=>exact absurd (Jt hq) hc
  simp [this,hc]
theorem Dh{el:TypeId}{lo hi mx:Operand}{l h m:Nat}(hu:P.underlying t=some (.slice el))(hs:bH P el=some 1)(hx:ak T x=some (.sl b o n C))(hl:nv T 0 (some lo) l)(hh:nv T n (some hi) h)(hm:nv T C (some mx) m)(h1:l≤h)(h2:h≤m)(h3:m≤C):ReadDoes P T H ⟨d,.slice t x (some lo) (some hi) (some mx),ty,pos,af,gd⟩ (.sl b (bif Nat.beq m l then o else o+l*1) (h-l) (m-l)):=by
 refine eH ?_
 unfold nv at hl hh hm
 simp only [cx,hx,HZ,kR,hu,hs,hl,hh,hm]
 rw [show Nat.ble l h=true from HG h1,show Nat.ble h m=true from HG h2,show Nat.ble m C=true from HG h3]
 simp
theorem gj{e:TypeId}(hu:P.underlying t=some (.slice e))(hx:ak T x=some (.sl b o n C)):ReadDoes P T H ⟨d,.call {callee:= .builtin .len,args:= #[x],argTypes:= #[t]},ty,pos,af,gd⟩ (.sc (.int .i64 n)):=by
 refine eH ?_
 simp only [cx,qy,hx,HZ,Cg,hu]
end
end
section
variable {P:Program} {ro:Option Nat} {fn nt nx:Nat} {T:Tr SV} {k:List AIt} {dfs:List ADf} {H:au} {Q:Pst} {ops:Array Oper} {i:Nat} {l:List Oper} {d:Option Tmp} {ty:TypeId} {pos:String} {af:Array Edge} {gd:Option (Nat×Bool)}
theorem xL{t el:TypeId}{x:Operand}{lo hi:Option Operand}{b o n C lw hg o':Nat}{dd:Nat}(hw:aF T ops ⟨some dd,.slice t x lo hi none,ty,pos,af,gd⟩=some true)(hd:Nat.blt dd nt=true)(hx:ak T x=some (.sl b o n C))(hu:P.underlying t=some (.slice el))(hs:bH P el=some 1)(hl:nv T 0 lo lw)(hh:nv T n hi hg)(h1:lw≤hg)(h2:hg≤C)(ho:(if C=lw then o else o+lw)=o')
 (h:Wp P ro ⟨fn,nt,T.set dd (.sl b o' (hg-lw) (C-lw)),.inReg ops (i+1) l :: k,dfs,H,nx⟩ Q):Wp P ro ⟨fn,nt,T,.inReg ops i (⟨some dd,.slice t x lo hi none,ty,pos,af,gd⟩ :: l) :: k,dfs,H,nx⟩ Q:=
 cZ hw (.inr (fun _ h=>by cases h)) ((cR hu hs hx hl hh h1 h2 ho).does) (by rw [aI hd];exact h)
theorem Gf{t el:TypeId}{x lo hi mx:Operand}{b o n C lw hg m:Nat}{dd:Nat}(hw:aF T ops ⟨some dd,.slice t x (some lo) (some hi) (some mx),ty,pos,af,gd⟩=some true)(hd:Nat.blt dd nt=true)(hx:ak T x=some (.sl b o n C))(hu:P.underlying t=some (.slice el))(hs:bH P el=some 1)(hl:nv T 0 (some lo) lw)(hh:nv T n (some hi) hg)(hm:nv T C (some mx) m)(h1:lw≤hg)(h2:hg≤m)(h3:m≤C)
 (h:Wp P ro ⟨fn,nt,T.set dd (.sl b (bif Nat.beq m lw then o else o+lw*1) (hg-lw) (m-lw)),.inReg ops (i+1) l :: k,dfs,H,nx⟩ Q):Wp P ro ⟨fn,nt,T,.inReg ops i (⟨some dd,.slice t x (some lo) (some hi) (some mx),ty,pos,af,gd⟩ :: l) :: k,dfs,H,nx⟩ Q:=
 cZ hw (.inr (fun _ h=>by cases h)) ((Dh hu hs hx hl hh hm h1 h2 h3).does) (by rw [aI hd];exact h)
end
abbrev nn(ro:Bool)(ne sz:Nat)(t:TypeId)(l:List SV):VO:= .row ro ne sz t (gD l)
section
variable {ro:Bool} {ne sz:Nat} {t:TypeId} {l:List SV}
theorem mi{i:Nat}{s:SV}(h:l[i]? =some s)(hi:i<ne*sz):(nn ro ne sz t l).cell i=some s:=by
 simp only [VO.cell]
 rw [show Nat.blt i (ne*sz)=true from HG hi]
 exact h
theorem dF: ∀ (n o:Nat) (l':List SV),(l.drop o).take n=l'→l'.length=n→o+n≤ne*sz→(nn ro ne sz t l).cellsFrom o n=some l'
 | 0,o,l',h,_,_=>by rw [List.take_zero] at h;subst h;rfl
 | n+1,o,l',h,hn,ho=>by
   cases hd:l.drop o with
   | nil=>rw [hd] at h;subst h;simp at hn
   | cons x r=>
     have hx:l[o]? =some x:=by rw [← List.head?_drop,hd];rfl
     have hr:l.drop (o+1)=r:=by rw [← List.drop_drop,hd];rfl
     rw [hd,List.take_succ_cons] at h
     subst h
     have:=dF n (o+1) (r.take n) (by rw [hr]) (by simpa using hn) (by omega)
     have hc:=mi (ro:=ro) (ne:=ne) (sz:=sz) (t:=t) hx (by omega)
     simp only [VO.cellsFrom,hc,this]
end
def SlOf(H:au)(sz:Nat)(t:TypeId)(s:SV)(n:Nat)(cs:List SV):Prop:=cs.length=n*sz ∧
 ((n=0∧(s = .sc (.slice none 0 0)∨ ∃ b o c vo,s = .sl b o 0 c∧H.at' b=some vo)) ∨
  ∃ r eo ne l,(s = .slu r eo n∨ ∃ C,n≤C∧s = .sl r (eo*sz) n C)∧H.at' r=some (nn false ne sz t l)∧(l.drop (eo*sz)).take (n*sz)=cs∧eo+n≤ne∧l.length=ne*sz)
section
variable {P:Program} {T:Tr SV} {H:au} {nx:Nat} {d:Option Tmp} {ty:TypeId} {pos:String} {af:Array Edge} {gd:Option (Nat×Bool)}
section
variable {v:SV}{b n sz:Nat}{el t tx:TypeId}{cs:List SV}{s x:Operand}
theorem SlOf.cells{s:SV}(h:SlOf H sz t s n cs):aQ H sz s=some (n,cs):=by
 obtain⟨h1,⟨rfl,h2⟩|⟨r,eo,ne,l,rfl|⟨C,_,rfl⟩,hb,hc,he,hl⟩⟩:=h
 ·rw [Nat.zero_mul] at h1
  have:=HO h1
  subst this
  rcases h2 with rfl|⟨b,o,c,vo,rfl,hb⟩
  ·rfl
  ·simp [aQ,hb,VO.cellsFrom]
 ·simp only [aQ,hb,Nat.beq_refl,Bool.true_and]
  rw [show Nat.ble (eo+n) ne=true from HG he]
  have:=dF (ro:=false) (ne:=ne) (sz:=sz) (t:=t) (l:=l) (n*sz) (eo*sz) cs hc h1 (by rw [← Nat.add_mul];exact Nat.mul_le_mul_right _ he)
  simp only [cond_true,this,HY]
 ·have:=dF (ro:=false) (ne:=ne) (sz:=sz) (t:=t) (l:=l) (n*sz) (eo*sz) cs hc h1 (by rw [← Nat.add_mul];exact Nat.mul_le_mul_right _ he)
  simp only [aQ,hb,this,HY]
theorem SlOf.row{ne:Nat}{l:List SV}{r:Nat}(hb:H.at' r=some (nn false ne sz t l))(hl:l.length=ne*sz):SlOf H sz t (.slu r 0 ne) ne l:=by
 refine⟨hl,.inr ⟨r,0,ne,l,.inl rfl,hb,?_,by omega,hl⟩⟩
 rw [Nat.zero_mul,List.drop_zero,←hl,List.take_length]
theorem yz{e:TypeId}{y:Operand}{o C q:Nat}{k:IntKind}(hu:P.underlying t=some (.slice e))(hs:bH P e=some sz)(hx:ak T x=some (.sl b o n C))(hy:ak T y=some (.sc (.int k (q:Int))))(hi:q<n):ReadDoes P T H ⟨d,.indexAddr t x y,ty,pos,af,gd⟩ (.ptr b (o+q*sz)):=by
 refine eH ?_
 simp only [cx,Af,hx,hy,HZ,dD,hu,hs]
 rw [show Nat.blt q n=true from HG hi]
 simp
theorem Ds(hu:P.underlying t=some (.slice el))(hk:(∃ e',P.underlying tx=some (.slice e'))∨P.underlying tx=some .string)(hs:bH P el=some sz)(h0:0<sz)
 (hx0:ak T s=some (.sc (.slice none 0 0))) (hx:ak T x=some v) (hr:aQ H sz v=some (0,[])) :
 OpDoes P T H nx ⟨d,.call {callee:= .builtin .append,args:= #[s,x],argTypes:= #[t,tx]},ty,pos,af,gd⟩ (.val (.sc (.slice none 0 0)),H,nx):=by
 have hap:dU P H nx el (.sc (.slice none 0 0)) v=some (.val (.sc (.slice none 0 0)),H,nx):=by
  unfold dU
  rw [hs]
  cases sz with
  | zero=>omega
  | succ sz=>
    simp only
    rw [hr]
    rfl
 refine iW ?_
 rcases hk with ⟨e',hk⟩|hk <;> simp only [fN,du,hx0,hx,HZ,eP,gT,hu,hk,hap]
theorem mF{m:Nat}(hu:P.underlying t=some (.slice el))(hk:(∃ e',P.underlying tx=some (.slice e'))∨P.underlying tx=some .string)(hs:bH P el=some sz)(h0:0<sz)
 (hz:fF P el sz=true) (hb:(P.info? el).map (·.bytes)=some b) (hx0:ak T s=some (.sc (.slice none 0 0))) (hx:ak T x=some v) (hr:aQ H sz v=some (m,cs)) (h1:bh cs=true) (hm:0<m) (hm1:m*b≤140737488355328) (hm2:m≤1000000000) :
 OpDoes P T H nx ⟨d,.call {callee:= .builtin .append,args:= #[s,x],argTypes:= #[t,tx]},ty,pos,af,gd⟩ (.val (.slu nx 0 m),H.set nx (nn false m sz el cs),nx+1):=by
 have hap:dU P H nx el (.sc (.slice none 0 0)) v=some (.val (.slu nx 0 m),H.set nx (.row false m sz el (gD cs)),nx+1):=by
  unfold dU
  rw [hs]
  cases sz with
  | zero=>omega
  | succ sz=>
    simp only
    rw [hr]
    simp only [h1,Bool.not_true,cond_false,mS hb hm1 hm2,hz,Bool.and_self,cond_true]
    rw [show Nat.beq m 0=false from by cases hq:Nat.beq m 0 with|false=>rfl|true=>have:=Jt hq;omega]
    rfl
 refine iW ?_
 rcases hk with ⟨e',hk⟩|hk <;> simp only [fN,du,hx0,hx,HZ,eP,gT,hu,hk,hap]
theorem yU{m r eo:Nat}{l ws:List SV}(hu:P.underlying t=some (.slice el))(hk:(∃ e',P.underlying tx=some (.slice e'))∨P.underlying tx=some .string)(hs:bH P el=some sz)(h0:0<sz)
 (hz:fF P el sz=true) (hb:(P.info? el).map (·.bytes)=some b) (hx0:ak T s=some (.slu r eo n)) (hx:ak T x=some v) (hro:H.at' r=some (nn false (eo+n) sz el l)) (hold:aQ H sz (.slu r eo n)=some (n,ws)) (hr:aQ H sz v=some (m,cs)) (h1:bh cs=true)
 (hm:0<m) (hm1:(n+m)*b≤140737488355328) (hm2:n+m≤1000000000) :
 OpDoes P T H nx ⟨d,.call {callee:= .builtin .append,args:= #[s,x],argTypes:= #[t,tx]},ty,pos,af,gd⟩ (.val (.slu nx 0 (n+m)),(H.del r).set nx (nn false (n+m) sz el (ws ++ cs)),nx+1):=by
 have hap:dU P H nx el (.slu r eo n) v=some (.val (.slu nx 0 (n+m)),(H.del r).set nx (.row false (n+m) sz el (gD (ws ++ cs))),nx+1):=by
  unfold dU
  rw [hs]
  cases sz with
  | zero=>omega
  | succ sz=>
    simp only
    rw [hr]
    simp only [h1,Bool.not_true,cond_false,hold]
    rw [hro]
    simp only [Nat.beq_refl,mS hb hm1 hm2,hz,Bool.not_false,Bool.and_self,cond_true]
    rw [show Nat.beq m 0=false from by cases hq:Nat.beq m 0 with|false=>rfl|true=>have:=Jt hq;omega]
    rfl
 refine iW ?_
 rcases hk with ⟨e',hk⟩|hk <;> simp only [fN,du,hx0,hx,HZ,eP,gT,hu,hk,hap]
end
end
section
variable {P:Program} {ro:Option Nat} {fn nt nx:Nat} {T:Tr SV} {k:List AIt} {dfs:List ADf} {H:au} {Q:Pst} {ops:Array Oper} {i:Nat} {l:List Oper} {d:Option Tmp} {ty:TypeId} {pos:String} {af:Array Edge} {gd:Option (Nat×Bool)}
theorem uB{t tx el rt:TypeId}{sz n b:Nat}{s x:Operand}{v:SV}{cs:List SV}{dd:Nat}(hw:aF T ops ⟨some dd,.call {callee:= .builtin .append,args:= #[s,x],argTypes:= #[t,tx]},ty,pos,af,gd⟩=some true)(hd:Nat.blt dd nt=true)(hx0:ak T s=some (.sc (.slice none 0 0)))(hx:ak T x=some v)(hu:P.underlying t=some (.slice el))(hk:(∃ e',P.underlying tx=some (.slice e'))∨P.underlying tx=some .string)(hs:bH P el=some sz)(h0:Nat.blt 0 sz=true)(hz:fF P el sz=true)(hb:(P.info? el).map (·.bytes)=some b)(hf:SlOf H sz rt v n cs)(h1:bh cs=true)(hm1:n*b≤140737488355328)(hm2:n≤1000000000)
 (h: ∀ s' H' nx',(n=0∧s' = .sc (.slice none 0 0)∧H'=H∧nx'=nx)∨(0<n∧s' = .slu nx 0 n∧H'=H.set nx (nn false n sz el cs)∧nx'=nx+1)→Wp P ro ⟨fn,nt,T.set dd s',.inReg ops (i+1) l :: k,dfs,H',nx'⟩ Q) :
 Wp P ro ⟨fn,nt,T,.inReg ops i (⟨some dd,.call {callee:= .builtin .append,args:= #[s,x],argTypes:= #[t,tx]},ty,pos,af,gd⟩ :: l) :: k,dfs,H,nx⟩ Q:=by
 have hr:=hf.cells
 rcases Nat.eq_zero_or_pos n with rfl|hn
 ·have:cs= []:=HO (by have:=hf.1;rwa [Nat.zero_mul] at this)
  subst this
  exact cZ hw (.inr (fun _ h=>by cases h)) (Ds hu hk hs (bQ h0) hx0 hx hr) (by rw [aI hd];exact h _ _ _ (.inl ⟨rfl,rfl,rfl,rfl⟩))
 ·exact cZ hw (.inr (fun _ h=>by cases h)) (mF hu hk hs (bQ h0) hz hb hx0 hx hr h1 hn hm1 hm2) (by rw [aI hd];exact h _ _ _ (.inr ⟨hn,rfl,rfl,rfl⟩))
theorem B1{t tx el:TypeId}{sz m b r n:Nat}{s x:Operand}{v:SV}{ws cs:List SV}{dd:Nat}(hw:aF T ops ⟨some dd,.call {callee:= .builtin .append,args:= #[s,x],argTypes:= #[t,tx]},ty,pos,af,gd⟩=some true)(hd:Nat.blt dd nt=true)(hx0:ak T s=some (.slu r 0 n))(hx:ak T x=some v)(hu:P.underlying t=some (.slice el))(hk:(∃ e',P.underlying tx=some (.slice e'))∨P.underlying tx=some .string)(hs:bH P el=some sz)(h0:Nat.blt 0 sz=true)(hz:fF P el sz=true)(hb:(P.info? el).map (·.bytes)=some b)(hro:H.at' r=some (nn false n sz el ws))(hl:ws.length=n*sz)(hr:aQ H sz v=some (m,cs))(h1:bh cs=true)(hm:0<m)(hm1:(n+m)*b≤140737488355328)(hm2:n+m≤1000000000)
 (h:Wp P ro ⟨fn,nt,T.set dd (.slu nx 0 (n+m)),.inReg ops (i+1) l :: k,dfs,(H.del r).set nx (nn false (n+m) sz el (ws ++ cs)),nx+1⟩ Q):Wp P ro ⟨fn,nt,T,.inReg ops i (⟨some dd,.call {callee:= .builtin .append,args:= #[s,x],argTypes:= #[t,tx]},ty,pos,af,gd⟩ :: l) :: k,dfs,H,nx⟩ Q:=
 cZ hw (.inr (fun _ h=>by cases h)) (yU (eo:=0) hu hk hs (bQ h0) hz hb hx0 hx (by rw [Jf];exact hro) ((SlOf.row hro hl).cells) hr h1 hm hm1 hm2) (by rw [aI hd];exact h)
end
section
variable {P:Program}
section
variable {e e1 e2:Env}{ne sz:Nat}{x:Ent}{K:Zone}{rr:Bool}{w:World}{t:TypeId}{vs:List Value}
theorem nN(h1:e.le e1)(h2:e.le e2){s:SV}{v0 v:Value}(h:s.conc e=some v0)(h':s.conc e1=some v):s.conc e2=some v:=by
 have:=SV.dj h1 s v0 h
 rw [h'] at this
 cases this
 exact SV.dj h2 s _ h
theorem zO(h1:e.le e1)(h2:e.le e2){s:List SV}{v0 v:List Value}(h:SV.aJ e s=some v0)(h':SV.aJ e1 s=some v):SV.aJ e2 s=some v:=by
 have:=SV.ck h1 s v0 h
 rw [h'] at this
 cases this
 exact SV.ck h2 s _ h
theorem wr{e e1 e2:Env}(h1:e.le e1)(h2:e.le e2): ∀ {l:List (Value×SV×Nat)} {m0 m:List MapEntry},MRel e l m0→MRel e1 l m→MRel e2 l m
 | [],[],[],_,_=>trivial
 | (_,_,_) :: _,_ :: _,_ :: _,hd0,hd=>⟨hd.1,hd.2.1,nN h1 h2 hd0.2.2.1 hd.2.2.1,wr h1 h2 hd0.2.2.2 hd.2.2.2⟩
 | [],_ :: _,_,hd,_=>hd.elim
 | [],_,_ :: _,_,hd=>hd.elim
 | _ :: _,[],_,hd,_=>by simp [MRel] at hd
 | _ :: _,_,[],_,hd=>by simp [MRel] at hd
theorem BR(h1:e.le e1)(h2:e.le e2){a:ADf}{d0 d:Deferred}(hd0:DRel e a d0)(hd:DRel e1 a d):DRel e2 a d:=by
 cases a with
 | call f args=>
   obtain⟨x0,cap0,_,hl0⟩:=hd0
   obtain⟨x,cap,rfl,hl⟩:=hd
   exact⟨x,cap,rfl,zO h1 h2 hl0 hl⟩
 | taken r=>
   obtain⟨x0,hx0,_⟩:=hd0
   obtain⟨x,hx,rfl⟩:=hd
   have:=h1 _ _ hx0
   rw [hx] at this
   cases this
   exact⟨_,h2 _ _ hx0,rfl⟩
theorem tn{e e1 e2:Env}(h1:e.le e1)(h2:e.le e2): ∀ {l:List ADf} {m0 m:List Deferred},DsRel e l m0→DsRel e1 l m→DsRel e2 l m
 | [],[],[],_,_=>trivial
 | _ :: _,_ :: _,_ :: _,hd0,hd=>⟨BR h1 h2 hd0.1 hd.1,tn h1 h2 hd0.2 hd.2⟩
 | [],_ :: _,_,hd,_=>hd.elim
 | [],_,_ :: _,_,hd=>hd.elim
 | _ :: _,[],_,hd,_=>hd.elim
 | _ :: _,_,[],_,hd=>hd.elim
theorem BI(h1:e.le e1)(h2:e.le e2){nt:Nat}{T:Tr SV}{t0 t:Array Value}(hd0:TRel e nt T t0)(hd:TRel e1 nt T t):TRel e2 nt T t:=by
 refine⟨hd.1,fun i s hs=>?_⟩
 obtain⟨v0,a1,_⟩:=hd0.2 i s hs
 obtain⟨v,b1,b2⟩:=hd.2 i s hs
 exact⟨v,nN h1 h2 a1 b1,b2⟩
theorem BK(h1:e.le e1)(h2:e.le e2){vo:VO}{o0 o:Obj}(h0:ORel e vo x o0)(ho:ORel e1 vo x o):ORel e2 vo x o:=by
 cases vo with
 | cells n t c=>
   obtain⟨_,cs0,fz0,_,_,_,g4⟩:=h0
   obtain⟨q0,cs,fz,q1,q2,q3,q4⟩:=ho
   refine⟨q0,cs,fz,q1,q2,q3,fun i hi s hs=>?_⟩
   obtain⟨v0,a1,_⟩:=g4 i hi s hs
   obtain⟨v,b1,b2⟩:=q4 i hi s hs
   exact⟨v,nN h1 h2 a1 b1,b2⟩
 | row ro ne sz t c=>
   obtain⟨_,cs0,fz0,t0,_,_,_,_,_,_,g7⟩:=h0
   obtain⟨q0,cs,fz,tt,q1,q2,q3,q4,q5,q6,q7⟩:=ho
   refine⟨q0,cs,fz,tt,q1,q2,q3,q4,q5,q6,fun i hi s hs=>?_⟩
   obtain⟨v0,a1,_⟩:=g7 i hi s hs
   obtain⟨v,b1,b2⟩:=q7 i hi s hs
   exact⟨v,nN h1 h2 a1 b1,b2⟩
 | map l clock=>
   obtain⟨es0,_,g2⟩:=h0
   obtain⟨es,q1,q2⟩:=ho
   exact⟨es,q1,wr h1 h2 g2 q2⟩
 | iter m since seen stepped=>
   cases m with
   | none=>exact ho
   | some m=>
     obtain⟨_,y0,g1,_⟩:=h0
     obtain⟨q0,y,q1,q2⟩:=ho
     have:=h1 _ _ g1
     rw [q1] at this
     cases this
     exact⟨q0,_,h2 _ _ g1,q2⟩
 | siter s pos=>exact ho
 | loop st pend fn nt T params assign body dr=>
   obtain⟨tm0,y0,g1,g2,_⟩:=h0
   obtain⟨tm,y,q1,q2,q3⟩:=ho
   have:=h1 _ _ g1
   rw [q1] at this
   cases this
   exact⟨tm,_,h2 _ _ g1,BI h1 h2 g2 q2,q3⟩
 | dfd l=>
   cases l with
   | none=>exact ho
   | some l=>
     obtain⟨ds0,_,g2⟩:=h0
     obtain⟨ds,q1,q2⟩:=ho
     exact⟨ds,q1,tn h1 h2 g2 q2⟩
theorem nO{w0:World}(h1:e.le e1)(h2:e.le e2){vo:VO}(h0:Lies K w0 e vo x)(ho:Lies K w e1 vo x):Lies K w e2 vo x:=by
 rcases ho with ⟨a0,o,a1,a2,a3⟩|a
 ·rcases h0 with ⟨_,o0,_,_,b3⟩|⟨b,_⟩
  ·exact .inl ⟨a0,o,a1,a2,BK h1 h2 b3 a3⟩
  ·rw [a0] at b;cases b
 ·exact .inr a
theorem BM{e':Env}(h:Lies K w e (dat rr ne sz t vs) x):Lies K w e' (dat rr ne sz t vs) x:=by
 rcases h with ⟨a0,o,a1,a2,a3⟩|a
 ·obtain⟨q0,cs,fz,tt,q1,q2,q3,q4,q5,q6,q7⟩:=a3
  refine .inl ⟨a0,o,a1,a2,q0,cs,fz,tt,q1,q2,q3,q4,q5,q6,fun i hi s hs=>?_⟩
  obtain⟨v,b1,b2⟩:=q7 i hi s hs
  refine⟨v,?_,b2⟩
  simp only [Tr.at',HI] at hs
  obtain⟨u,_,rfl⟩:=hs
  exact b1
 ·exact .inr a
theorem St.next{w0 w1:World}{H H1:au}{nx nx1 r:Nat}(hS:St K w0 e H nx w)(hle:e.le e1)(hS1:St K w0 e1 H1 nx1 w1)(hr:H1.at' r=some (dat rr ne sz t vs))(h1:nx≤r)(hk: ∀ m,m<nx→H1.at' m=H.at' m) :
 ∃ e2,e.le e2∧St K w0 e2 (H.set nx (dat rr ne sz t vs)) (nx+1) w1∧e2 nx=e1 r:=by
 have hbelow: ∀ m x,e m=some x→m<nx:=fun m x hx=>by
  rcases Jg m nx with q|q
  ·exact q
  ·rw [hS.fresh m q] at hx;cases hx
 have hle2:e.le (fun m=>if m<nx then e1 m else if m=nx then e1 r else none):=fun m x hx=>by
  have:=hbelow m x hx
  simp only [Je this]
  exact hle m x hx
 obtain⟨xr,hxr,hlr⟩:=hS1.rel r _ hr
 have hget: ∀ m vo,(H.set nx (dat rr ne sz t vs)).at' m=some vo→(m=nx∧vo=dat rr ne sz t vs)∨(m<nx∧H.at' m=some vo):=fun m vo h=>by
  rcases bL h with ⟨q1,q2⟩|⟨q1,q2⟩
  ·exact .inl ⟨q1,q2⟩
  ·obtain⟨x,hx,_⟩:=hS.rel m vo q2
   exact .inr ⟨hbelow m x hx,q2⟩
 refine⟨fun m=>if m<nx then e1 m else if m=nx then e1 r else none,hle2,⟨hS1.below,fun m vo h=>?_,fun m m' vo vo' x x' g g' gx gx' gne gn gn' gro gro'=>?_,fun i hi=>?_⟩,?_⟩
 ·rcases hget m vo h with ⟨rfl,rfl⟩|⟨q1,q2⟩
  ·refine⟨xr,?_,BM hlr⟩
   simp [hxr]
  ·obtain⟨x0,hx0,hl0⟩:=hS.rel m vo q2
   obtain⟨x,hx,hl⟩:=hS1.rel m vo ((hk m q1).trans q2)
   have:=hle m x0 hx0
   rw [hx] at this
   cases this
   refine⟨_,?_,nO hle hle2 hl0 hl⟩
   simp only [Je q1]
   exact hx
 ·change (if m<nx then e1 m else if m=nx then e1 r else none)=some x at gx
  change (if m'<nx then e1 m' else if m'=nx then e1 r else none)=some x' at gx'
  rcases hget m vo g with ⟨rfl,rfl⟩|⟨q1,q2⟩
  ·rcases hget m' vo' g' with ⟨rfl,rfl⟩|⟨p1,p2⟩
   ·exact absurd rfl gne
   ·simp only [Nat.lt_irrefl,if_false,if_true] at gx
    simp only [Je p1] at gx'
    exact hS1.inj r m' _ vo' x x' hr ((hk m' p1).trans p2) gx gx' (by omega) gn gn' gro gro'
  ·rw [Je q1] at gx
   rcases hget m' vo' g' with ⟨rfl,rfl⟩|⟨p1,p2⟩
   ·rw [Jd (Nat.lt_irrefl _),Je rfl] at gx'
    exact hS1.inj m r vo _ x x' ((hk m q1).trans q2) hr gx gx' (by omega) gn gn' gro gro'
   ·rw [Je p1] at gx'
    exact hS1.inj m m' vo vo' x x' ((hk m q1).trans q2) ((hk m' p1).trans p2) gx gx' gne gn gn' gro gro'
 ·show(if i<nx then e1 i else if i=nx then e1 r else none)=none
  rw [Jd (by omega),Jd (by omega)]
 ·simp
theorem Fnc.next{f:FuncId}{args:List SV}{H:au}{nx m:Nat}(h:Fnc P f args H nx (fun q=> ∃ r',q.1 = .slu r' 0 m∧q.2.1.at' r'=some (dat rr ne sz t vs)∧nx≤r'∧r'<q.2.2∧nx≤q.2.2∧ ∀ n,n<nx→q.2.1.at' n=H.at' n)):Fnc P f args H nx (fun q=>q=(.slu nx 0 m,H.set nx (dat rr ne sz t vs),nx+1)):=by
 have hv: ∀ {e1 e2:Env} {r:Nat} {v:Value},e2 nx=e1 r→(SV.slu r 0 m).conc e1=some v→(SV.slu nx 0 m).conc e2=some v:=fun h1 h2=>by
  simpa [SV.conc,h1] using h2
 unfold Fnc jS at h ⊢
 rcases h with ⟨h1,v,r,h2,⟨r',q1,q2,q3,q4,q5,q6⟩,h4⟩|h
 ·refine .inl ⟨h1,v,_,h2,rfl,fun K w0 e w hS=>?_⟩
  obtain⟨e',g1,g2,g3⟩:=h4 K w0 e w hS
  obtain⟨e2,k1,k2,k3⟩:=hS.next g1 g2 q2 q3 q6
  rw [q1] at g3
  exact⟨e2,k1,k2,hv k3 g3⟩
 ·refine .inr ?_
  split at h
  ·refine⟨fun K w0 e w tmps todo ds kd rof cs hS a2 a3 a4 a5=>?_⟩
   obtain⟨r,⟨r',q1,q2,q3,q4,q5,q6⟩,e',w',v,g1,g2,g3,g4⟩:=Wp.run h K w0 e w tmps todo ds kd rof cs hS a2 a3 a4 a5
   obtain⟨e2,k1,k2,k3⟩:=hS.next g1 g2 q2 q3 q6
   rw [q1] at g3
   exact⟨_,rfl,e2,w',v,k1,k2,hv k3 g3,g4⟩
  ·exact h.elim
end
end
section
variable {P:Program}
section
variable {H:au}{vo:VO}{e e1:Env}{nx:Nat}{K:Zone}{w:World}
def Free(v:SV):Prop:= ∀ e e' u,v.conc e=some u→v.conc e'=some u
theorem Free.sc(v:Value):Free (.sc v):=fun _ _ _ h=>h
theorem Free.agg(vs:List Value):Free (.agg (vs.map .sc)):=fun e e' u h=>by
 rw [SV.conc,fE] at h ⊢
 exact h
theorem Free.two{a b:SV}(ha:Free a)(hb:Free b):Free (.tup [a,b]):=fun e e' u h=>by
 simp only [SV.conc,SV.aJ] at h ⊢
 cases h1:a.conc e with
 | none=>rw [h1] at h;simp at h
 | some x=>
   cases h2:b.conc e with
   | none=>rw [h1,h2] at h;simp at h
   | some y=>
     rw [h1,h2] at h
     rw [ha e e' x h1,hb e e' y h2]
     exact h
theorem St.drop{w0 w1:World}{H1:au}{nx1:Nat}(hS:St K w0 e H nx w)(hle:e.le e1)(hS1:St K w0 e1 H1 nx1 w1)(hk: ∀ m,m<nx→H1.at' m=H.at' m):St K w0 e H nx w1:=by
 refine⟨hS1.below,fun m vo h=>?_,hS.inj,hS.fresh⟩
 obtain⟨x0,hx0,hl0⟩:=hS.rel m vo h
 have hm:m<nx:=by
  rcases Jg m nx with q|q
  ·exact q
  ·rw [hS.fresh m q] at hx0;cases hx0
 obtain⟨x,hx,hl⟩:=hS1.rel m vo ((hk m hm).trans h)
 have:=hle m x0 hx0
 rw [hx] at this
 cases this
 exact⟨_,hx0,nO hle (JO e) hl0 hl⟩
theorem zj{N:Nat}{x:Ent}(hle:e.le e1)(hN:e1 N=none)(hc: ∀ ρ,vo.ren ρ=vo)(hl:Lies K w e1 vo x):Lies K w e vo x:=by
 have h:pull e1 (fun i=>if e i=none then N else i)=e:=funext fun i=>by
  show e1 (if e i=none then N else i)=e i
  cases hi:e i with
  | none=>rw [Je rfl];exact hN
  | some x=>rw [Jd (fun h=>by cases h)];exact hle i x hi
 rw [← h]
 exact kH.1 (by rw [hc];exact hl)
theorem St.dropB{w0 w1:World}{H1:au}{nx1 b:Nat}{vo0:VO}(hS:St K w0 e H nx w)(hle:e.le e1)(hS1:St K w0 e1 H1 nx1 w1)(h0:H.at' b=some vo0)(hb:H1.at' b=some vo)(hc: ∀ ρ,vo.ren ρ=vo)(hk: ∀ m,m<nx→m≠b→H1.at' m=H.at' m):St K w0 e (H.set b vo) nx w1:=by
 have lt: ∀ {m:Nat} {vo':VO},H.at' m=some vo'→m<nx:=fun {m vo'} h=>by
  obtain⟨x0,hx0,_⟩:=hS.rel m vo' h
  rcases Jg m nx with q|q
  ·exact q
  ·rw [hS.fresh m q] at hx0;cases hx0
 have up: ∀ {m:Nat} {vo':VO},(H.set b vo).at' m=some vo'→H1.at' m=some vo':=fun {m vo'} h=>by
  rcases bL h with ⟨rfl,rfl⟩|⟨hne,h⟩
  ·exact hb
  ·exact(hk m (lt h) hne).trans h
 refine⟨hS1.below,fun m vo' h=>?_,fun i i' v v' x x' h1 h2 h3 h4=>hS1.inj i i' v v' x x' (up h1) (up h2) (hle _ _ h3) (hle _ _ h4),hS.fresh⟩
 obtain⟨x,hx,hl⟩:=hS1.rel m vo' (up h)
 rcases bL h with ⟨rfl,rfl⟩|⟨hne,h⟩
 ·obtain⟨x0,hx0,_⟩:=hS.rel m vo0 h0
  have:=hle m x0 hx0
  rw [hx] at this
  cases this
  exact⟨_,hx0,zj hle (hS1.fresh nx1 (HS _)) hc hl⟩
 ·obtain⟨x0,hx0,hl0⟩:=hS.rel m vo' h
  have:=hle m x0 hx0
  rw [hx] at this
  cases this
  exact⟨_,hx0,nO hle (JO e) hl0 hl⟩
theorem Fnc.BP{f:FuncId}{args:List SV}{b:Nat}{v:Value}{vo0:VO}(h0:H.at' b=some vo0)(hc: ∀ ρ,vo.ren ρ=vo)(h:Fnc P f args H nx (fun q=>q.1 = .sc v∧q.2.1.at' b=some vo∧nx≤q.2.2∧ ∀ n,n<nx→n≠b→q.2.1.at' n=H.at' n)):Fnc P f args H nx (fun q=>q=(.sc v,H.set b vo,nx)):=by
 unfold Fnc jS at h ⊢
 rcases h with ⟨h1,u,r,h2,⟨q1,q2,_,q3⟩,h4⟩|h
 ·refine .inl ⟨h1,u,_,h2,rfl,fun K w0 e w hS=>?_⟩
  obtain⟨e',g1,g2,g3⟩:=h4 K w0 e w hS
  rw [q1] at g3
  exact⟨e,JO e,hS.dropB g1 g2 h0 q2 hc q3,g3⟩
 ·refine .inr ?_
  split at h
  ·refine⟨fun K w0 e w tmps todo ds kd rof cs hS a2 a3 a4 a5=>?_⟩
   obtain⟨r,⟨q1,q2,_,q3⟩,e',w',u,g1,g2,g3,g4⟩:=Wp.run h K w0 e w tmps todo ds kd rof cs hS a2 a3 a4 a5
   rw [q1] at g3
   exact⟨_,rfl,e,w',u,JO e,hS.dropB g1 g2 h0 q2 hc q3,g3,g4⟩
  ·exact h.elim
end
end
abbrev o8:=DrawK
theorem yg{P:Program}{nt:Nat}{ops:Array Oper}{l2:List Oper}: ∀ {l:List Oper} {i:Nat} {s s1 s':DS},DrawRun P (wpr P) nt ops i l s s1→DrawRun P (wpr P) nt ops (i+l.length) l2 s1 s'→DrawRun P (wpr P) nt ops i (l ++ l2) s s'
 | [],i,s,s1,s',h,h2=>by
   cases h
   exact h2
 | o :: l,i,s,s1,s',h,h2=>by
   cases h with
   | cons g1 g2=>
     refine .cons g1 (yg g2 ?_)
     rw [HV,show i+(l.length+1)=i+1+l.length by omega] at h2
     exact h2
section
variable {P:Program} {ro:Option Nat} {fn nt nx:Nat} {T:Tr SV} {k:List AIt} {dfs:List ADf} {H:au} {Q:Pst} {ops:Array Oper} {i:Nat} {l:List Oper} {K:DS→Prop} {s:DS}
theorem jf(h:DrawK P nt ops i l s K):o8 P nt ops i l s K:=by
 exact h
theorem dR(n:Nat)(hn:n≤l.length)(h:DrawK P nt ops i (l.take n) s (fun s1=>o8 P nt ops (i+n) (l.drop n) s1 K)):o8 P nt ops i l s K:=by
 obtain⟨s1,h1,h2⟩:=h.ex
 obtain⟨s',h3,h4⟩:=h2.ex
 have:=yg h1 (l2:=l.drop n) (s':=s') (by rw [Jh,Nat.min_eq_left hn];exact h3)
 rw [List.take_append_drop] at this
 exact⟨⟨s',this,h4⟩⟩
theorem dS{g:FuncId}{as1:List Operand}{ats:Array TypeId}{args:List SV}{v:SV}{dd:Nat}{ty:TypeId}{pos:String}{af:Array Edge}{gd:Option (Nat×Bool)}{rs:List Rec}{Hs:List (au×Nat)}{stg:Nat}
 (hw:aF (aZ T (a9 ops.toList ⟨some dd,.call {callee:= .value (.func g),args:=as1.toArray,argTypes:=ats},ty,pos,af,gd⟩)) ops ⟨some dd,.call {callee:= .value (.func g),args:=as1.toArray,argTypes:=ats},ty,pos,af,gd⟩=some true) (hd:Nat.blt dd nt=true)
 (ha:du (aZ T (a9 ops.toList ⟨some dd,.call {callee:= .value (.func g),args:=as1.toArray,argTypes:=ats},ty,pos,af,gd⟩)) as1=some args) (hm:bS P g=true)
 (hr:Fnc P g args H nx (fun r=>r=(v,H,nx)))
 (h:o8 P nt ops (i+1) l ⟨T.set dd v,H,nx,⟨i,⟨some dd,.call {callee:= .value (.func g),args:=as1.toArray,argTypes:=ats},ty,pos,af,gd⟩,aZ T (a9 ops.toList ⟨some dd,.call {callee:= .value (.func g),args:=as1.toArray,argTypes:=ats},ty,pos,af,gd⟩),stg,false,true,v⟩ :: rs,Hs,stg⟩ K) :
 o8 P nt ops i (⟨some dd,.call {callee:= .value (.func g),args:=as1.toArray,argTypes:=ats},ty,pos,af,gd⟩ :: l) ⟨T,H,nx,rs,Hs,stg⟩ K:=by
 obtain⟨s',h1,h2⟩:=h.ex
 refine⟨⟨s',.cons (.inr (.inl ⟨hw,(fun c hc=>(by cases hc)),v,.inr ⟨_,qq ha hm,(fun c hc=>(by cases hc)),hr⟩,?_⟩)) h1,h2⟩⟩
 simp only [aI hd]
theorem dZ{g:FuncId}{as1:List Operand}{ats:Array TypeId}{args:List SV}{v:SV}{dd:Option Nat}{ty:TypeId}{pos:String}{af:Array Edge}{gd:Option (Nat×Bool)}(ha:du T as1=some args)(hm:bS P g=true)
 (hr:Fnc P g args H nx (fun r=>r=(v,H,nx))):ig P (wpr P) T H nx ⟨dd,.call {callee:= .value (.func g),args:=as1.toArray,argTypes:=ats},ty,pos,af,gd⟩ (v,H,nx):=
 ⟨_,qq ha hm,(fun c hc=>(by cases hc)),hr⟩
def AllHQ(Q:List (au×Nat))(p:au→Nat→Prop):Prop:=match Q with
 | []=>True
 | q :: l=>p q.1 q.2∧AllHQ l p
theorem AllHQ.get{p:au→Nat→Prop}: ∀ {Q:List (au×Nat)},AllHQ Q p→ ∀ {i:Nat} {H:au} {n:Nat},Q[i]? =some (H,n)→p H n
 | [],_,i,H,n,h=>by simp at h
 | q :: l,hh,i,H,n,h=>by
   cases i with
   | zero=>simp only [HQ,Ht] at h;subst h;exact hh.1
   | succ i=>exact AllHQ.get hh.2 (by simpa using h)
def FlOkQ(P:Program)(ancs chain:List Nat)(Q:List (au×Nat)):List Rec→Prop
 | []=>True
 | r :: l=>((r.chain || !r.wanted || (Nat.beq (jH (ancs.getD r.i 0) chain) r.stg && Nat.beq (eO ancs r.i chain) r.stg))=true∨(AllH Q (fun H=>ReadDoes P r.T H r.o r.val)∨AllHQ Q (fun H n=>ig P (wpr P) r.T H n r.o (r.val,H,n))))∧FlOkQ P ancs chain Q l
theorem FlOkQ.ok{P:Program}{ancs chain:List Nat}{Q:List (au×Nat)}: ∀ {l:List Rec},FlOkQ P ancs chain Q l→ ∀ r∈l,r.chain=false→r.wanted=true→ ∀ st,jH (ancs.getD r.i 0) chain≤st→st≤eO ancs r.i chain→st≠r.stg→ ∀ H n,Q.reverse[st]? =some (H,n)→ti P (wpr P) r.T H n r.o r.val
 | [],_,r,hm,_,_,_,_,_,_,_,_,_=>by cases hm
 | r0 :: l,hh,r,hm,hc,hw,st,h1,h2,h3,H,n,hq=>by
   rcases Js.1 hm with rfl|hm
   ·rcases hh.1 with h|h
    ·rw [hc,hw] at h
     simp only [Bool.not_true,Bool.or_false,Bool.false_or,HR] at h
     have q1:=bF h.1
     have q2:=bF h.2
     omega
    ·have hlt:=(Hy.1 hq).1
     rw [List.getElem?_reverse (by simpa using hlt)] at hq
     rcases h with h|h
     ·exact .inl (h.get hq)
     ·exact .inr (h.get hq)
   ·exact FlOkQ.ok hh.2 r hm hc hw st h1 h2 h3 H n hq
theorem ge{id:Nat}{opl:List Oper}(hm:P.follows .mixedOrders=true)(hr:fU nt opl=true)
 (h:o8 P nt opl.toArray 0 opl ⟨T,H,nx,[],[(H,nx)],0⟩ (fun s=>jR (eK [] opl) (eJ s)=true∧FlOkQ P (eK [] opl) (eJ s) s.Hs s.recs∧Wp P ro ⟨fn,nt,s.T,k,dfs,s.H,s.nx⟩ Q)) :
 Wp P ro ⟨fn,nt,T,.code (.region id opl.toArray true) :: k,dfs,H,nx⟩ Q:=by
 obtain⟨s,hs,h1,h2,h3⟩:=h.ex
 exact .step ⟨hm,s,⟨hr,hs,h1,fun r hr=>FlOkQ.ok h2 r hr⟩,h3⟩
end
section
variable {H:au}{n nx:Nat}{T:Tr SV}
theorem oM{P:Program}{H2:au}{n2:Nat}{g:FuncId}{as1:List Operand}{ats:Array TypeId}{args:List SV}{v:SV}{dd:Option Nat}{ty:TypeId}{pos:String}{af:Array Edge}{gd:Option (Nat×Bool)}(ha:du T as1=some args)(hm:bS P g=true)
 (hr:Fnc P g args H nx (fun r=>r=(v,H2,n2))):ig P (wpr P) T H nx ⟨dd,.call {callee:= .value (.func g),args:=as1.toArray,argTypes:=ats},ty,pos,af,gd⟩ (v,H2,n2):=
 ⟨_,qq ha hm,(fun c hc=>(by cases hc)),hr⟩
theorem St.retell{K:Zone}{w0 w:World}{e:Env}{t:Nat}{vo vo':VO}(hS:St K w0 e H nx w)(hb:H.at' t=some vo)(hro:vo'.ro=vo.ro)(hl: ∀ x,e t=some x→Lies K w e vo x→Lies K w e vo' x):St K w0 e (H.set t vo') nx w:=by
 have back: ∀ {id:Nat} {v:VO},(H.set t vo').at' id=some v→ ∃ v0,H.at' id=some v0∧v.ro=v0.ro:=fun {id v} hid=>by
  rcases bL hid with ⟨rfl,rfl⟩|⟨_,h⟩
  ·exact⟨vo,hb,hro⟩
  ·exact⟨v,h,rfl⟩
 refine⟨hS.below,fun id v hid=>?_,fun i j v v' x x' hi hj hx hx' hne h0 h0' hr hr'=>?_,hS.fresh⟩
 ·rcases bL hid with ⟨rfl,rfl⟩|⟨_,h⟩
  ·obtain⟨x,hx,hlx⟩:=hS.rel _ _ hb
   exact⟨x,hx,hl x hx hlx⟩
  ·exact hS.rel _ _ h
 ·obtain⟨v0,g1,g2⟩:=back hi
  obtain⟨v1,g3,g4⟩:=back hj
  exact hS.inj i j v0 v1 x x' g1 g3 hx hx' hne h0 h0' (g2 ▸ hr) (g4 ▸ hr')
theorem wx{P:Program}{ro:Option Nat}{fn nt:Nat}{k:List AIt}{dfs:List ADf}{Q:Pst}{t r eo ne sz:Nat}{tt rt:TypeId}{rr:Bool}{c:Tr SV}(pre post:List SV)(hb:H.at' t=some (aq tt (pre ++ .slu r eo n :: post)))(hr:H.at' r=some (.row rr ne sz rt c))(h0:0<ne)(hn:eo+n≤ne)
 (h: ∀ C,n≤C→Wp P ro ⟨fn,nt,T,k,dfs,H.set t (aq tt (pre ++ .sl r (eo*sz) n C :: post)),nx⟩ Q):Wp P ro ⟨fn,nt,T,k,dfs,H,nx⟩ Q:=by
 refine⟨fun K w0 e w tmps todo ds kd rof cs hS hTr htd hds hc2=>?_⟩
 obtain⟨z,hz,hlz⟩:=hS.rel _ _ hr
 obtain⟨g1,g2,g3,g4⟩:=Lies.row hlz
 have hnil:=g3 h0
 have hcc:(SV.sl r (eo*sz) n (z.cap-eo)).conc e=(SV.slu r eo n).conc e:=by
  simp [SV.conc,hz,Ent.at,hnil,g1]
 refine(h (z.cap-eo) (by omega)).run K w0 e w tmps todo ds kd rof cs (hS.retell hb rfl fun x hx hlx=>?_) hTr htd hds hc2
 rcases hlx with ⟨q0,o,q1,q2,q3⟩|⟨_,_,ro',sz',c',hq,_⟩
 ·refine .inl ⟨q0,o,q1,q2,?_⟩
  obtain⟨f0,cs,fz,f1,f2,f3,f4⟩:=q3
  refine⟨f0,cs,fz,f1,by rw [f2];simp,by simpa using f3,fun i hi s hs=>?_⟩
  have hi':i<(pre ++ SV.slu r eo n :: post).length:=by simpa using hi
  have hs':(pre ++ SV.sl r (eo*sz) n (z.cap-eo) :: post)[i]? =some s:=hs
  rcases Nat.lt_trichotomy i pre.length with hlt|rfl|hgt
  ·refine f4 i hi' s ?_
   show(pre ++ SV.slu r eo n :: post)[i]? =some s
   rw [HP hlt] at hs' ⊢
   exact hs'
  ·rw [Jn (HS _),Nat.sub_self,HQ,Ht] at hs'
   subst hs'
   obtain⟨v,hv,hg⟩:=f4 pre.length hi' (.slu r eo n) (by
    show(pre ++ SV.slu r eo n :: post)[pre.length]? =some (SV.slu r eo n)
    rw [Jn (HS _),Nat.sub_self,HQ])
   exact⟨v,by rw [hcc];exact hv,hg⟩
  ·refine f4 i hi' s ?_
   show(pre ++ SV.slu r eo n :: post)[i]? =some s
   obtain⟨j,hj⟩: ∃ j,i-pre.length=j+1:=⟨i-pre.length-1,by omega⟩
   rw [Jn (by omega),hj,List.getElem?_cons_succ] at hs' ⊢
   exact hs'
 ·cases hq
theorem ic{dflt:Nat}{o:Operand}{k:IntKind}{j:Int}(h:ak T o=some (.sc (.int k j)))(hj:j=(n:Int)):nv T dflt (some o) n:=by
 subst hj
 exact Eb h (by omega)
theorem slRow{r sz:Nat}{t:TypeId}{l:List SV}(hb:H.at' r=some (nn false n sz t l))(hl:l.length=n*sz):aQ H sz (.slu r 0 n)=some (n,l):=(SlOf.row hb hl).cells
end
section
variable {P:Program} {nt nx:Nat} {T:Tr SV} {H:au} {ops:Array Oper} {i:Nat} {l:List Oper} {ty:TypeId} {pos:String} {af:Array Edge} {gd:Option (Nat×Bool)} {rs:List Rec} {Hs:List (au×Nat)} {stg:Nat} {K:DS→Prop} {op:Op} {dd:Nat}
theorem D3{v:SV}{d:Option Nat}{H2:au}{n2:Nat}(hnd: ∀ c,op ≠ .defer c)(hr:OpDoes P T H nx ⟨d,op,ty,pos,af,gd⟩ (.val v,H2,n2)):ig P (wpr P) T H nx ⟨d,op,ty,pos,af,gd⟩ (v,H2,n2):=⟨_,hr,hnd,rfl⟩
end
theorem Dr{P:Program}{T:Tr SV}{H:au}{nx:Nat}{d:Option Tmp}{ty:TypeId}{pos:String}{af:Array Edge}{gd:Option (Nat×Bool)}{t tx el:TypeId}{sz m b r n:Nat}{s x:Operand}{v:SV}{ws cs:List SV}(hu:P.underlying t=some (.slice el))(hk:(∃ e',P.underlying tx=some (.slice e'))∨P.underlying tx=some .string)(hs:bH P el=some sz)(h0:0<sz)
 (hz:fF P el sz=true) (hb:(P.info? el).map (·.bytes)=some b) (hx0:ak T s=some (.slu r 0 n)) (hx:ak T x=some v) (hro:H.at' r=some (nn false n sz el ws)) (hl:ws.length=n*sz) (hr:aQ H sz v=some (m,cs)) (h1:bh cs=true)
 (hm:0<m) (hm1:(n+m)*b≤140737488355328) (hm2:n+m≤1000000000) :
 OpDoes P T H nx ⟨d,.call {callee:= .builtin .append,args:= #[s,x],argTypes:= #[t,tx]},ty,pos,af,gd⟩ (.val (.slu nx 0 (n+m)),(H.del r).set nx (nn false (n+m) sz el (ws ++ cs)),nx+1):=
 yU (eo:=0) hu hk hs h0 hz hb hx0 hx (by rw [Jf];exact hro) ((SlOf.row hro hl).cells) hr h1 hm hm1 hm2
def FlOkE(P:Program)(ancs chain:List Nat)(Q:List (au×Nat)):List Rec→Prop
 | []=>True
 | r :: l=>((r.chain || !r.wanted || (Nat.beq (jH (ancs.getD r.i 0) chain) r.stg && Nat.beq (eO ancs r.i chain) r.stg))=true∨ ∃ d,Nat.ble (eO ancs r.i chain+(d+1)) Q.length=true∧AllH (Q.drop d) (fun H=>ReadDoes P r.T H r.o r.val))∧FlOkE P ancs chain Q l
theorem FlOkE.ok{P:Program}{ancs chain:List Nat}{Q:List (au×Nat)}: ∀ {l:List Rec},FlOkE P ancs chain Q l→ ∀ r∈l,r.chain=false→r.wanted=true→ ∀ st,jH (ancs.getD r.i 0) chain≤st→st≤eO ancs r.i chain→st≠r.stg→ ∀ H n,Q.reverse[st]? =some (H,n)→ReadDoes P r.T H r.o r.val
 | [],_,r,hm,_,_,_,_,_,_,_,_,_=>by cases hm
 | r0 :: l,hh,r,hm,hc,hw,st,h1,h2,h3,H,n,hq=>by
   rcases Js.1 hm with rfl|hm
   ·rcases hh.1 with h|⟨d,hd,h⟩
    ·rw [hc,hw] at h
     simp only [Bool.not_true,Bool.or_false,Bool.false_or,HR] at h
     have q1:=bF h.1
     have q2:=bF h.2
     omega
    ·have hlt:=(Hy.1 hq).1
     rw [List.length_reverse] at hlt
     have hd':=Hz hd
     rw [List.getElem?_reverse hlt] at hq
     have hq':(Q.drop d)[Q.length-1-st-d]? =some (H,n):=by
      rw [List.getElem?_drop,show d+(Q.length-1-st-d)=Q.length-1-st by omega]
      exact hq
     exact h.get hq'
   ·exact FlOkE.ok hh.2 r hm hc hw st h1 h2 h3 H n hq
section
variable {P:Program} {ro:Option Nat} {fn nt nx:Nat} {T:Tr SV} {k:List AIt} {dfs:List ADf} {H:au} {Q:Pst}
theorem bg{id:Nat}{ops:List Oper}(hm:P.follows .mixedOrders=true)(hr:fU nt ops=true)
 (h:DrawK P nt ops.toArray 0 ops ⟨T,H,nx,[],[(H,nx)],0⟩ (fun s=>jR (eK [] ops) (eJ s)=true∧FlOkE P (eK [] ops) (eJ s) s.Hs s.recs∧Wp P ro ⟨fn,nt,s.T,k,dfs,s.H,s.nx⟩ Q)) :
 Wp P ro ⟨fn,nt,T,.code (.region id ops.toArray true) :: k,dfs,H,nx⟩ Q:=by
 obtain⟨s,hs,h1,h2,h3⟩:=h.ex
 exact .step ⟨hm,s,⟨hr,hs,h1,fun r hr a b st c d e H n f=> .inl (FlOkE.ok h2 r hr a b st c d e H n f)⟩,h3⟩
end
section
variable {P:Program} {tb:Tbl} {ancs chain:List Nat} {Q:List (au×Nat)} {r:Rec} {l:List Rec}
theorem kp(h:r.chain=true)(k:FlOkE P ancs chain Q l):FlOkE P ancs chain Q (r :: l):=⟨.inl (oR h),k⟩
theorem ui(h:r.wanted=false)(k:FlOkE P ancs chain Q l):FlOkE P ancs chain Q (r :: l):=⟨.inl (wa h),k⟩
theorem mv(h:(r.chain || !r.wanted || (Nat.beq (jH (ancs.getD r.i 0) chain) r.stg && Nat.beq (eO ancs r.i chain) r.stg))=true)(k:FlOkE P ancs chain Q l):FlOkE P ancs chain Q (r :: l):=⟨.inl h,k⟩
theorem fe_pG(ht:TblOk P tb)(h:np tb r.T r.o.op=some r.val)(hb:Nat.ble (eO ancs r.i chain+(0+1)) Q.length=true)(k:FlOkE P ancs chain Q l):FlOkE P ancs chain Q (r :: l):=⟨.inr ⟨0,hb,AllH.all (fun _=>iO ht h) _⟩,k⟩
theorem fT(d:Nat)(_hq:Nat.blt d Q.length=true)(hb:Nat.ble (eO ancs r.i chain+(d+1)) Q.length=true)(h:AllH (Q.drop d) (fun H=>ReadDoes P r.T H r.o r.val))(k:FlOkE P ancs chain Q l):FlOkE P ancs chain Q (r :: l):=⟨.inr ⟨d,hb,h⟩,k⟩
end
end Go.Sy
namespace Go.Proofs.YtnhmbonmlfeifaaGreat
open Go Go.Sy
section
variable {ancs chain:List Nat} {Q:List (au×Nat)} {r:Rec} {l:List Rec}
theorem gu(h:np xh r.T r.o.op=some r.val)(hb:Nat.ble (eO ancs r.i chain+(0+1)) Q.length=true)(k:FlOkE Tryz.prog ancs chain Q l):FlOkE Tryz.prog ancs chain Q (r :: l):=fe_pG jn h hb k
end
end Go.Proofs.YtnhmbonmlfeifaaGreat
end
section
namespace Go.Sy
open Go Go.Sl Go.RowKit
section
variable {K V:Type} [DecidableEq K]
theorem oz(m:List (K×V×Nat))(k:K)(v:V)(c:Nat):gC (gO m k v c) k=some v:=by
 induction m with
 | nil=>simp [gO,gC]
 | cons x m ih=>
   by_cases h:x.1=k
   ·simp [gO,h,gC]
   ·have e:gO (x :: m) k v c=x :: gO m k v c:=by simp [gO,h]
    have e2:gC (x :: gO m k v c) k=gC (gO m k v c) k:=by simp [gC,h]
    rw [e,e2,ih]
variable {P:K→V→Own}
end
theorem cL{P:Program}{ro:Option Nat}{fn nt nx:Nat}{T:Tr SV}{k:List AIt}{dfs:List ADf}{H:au}{Q:Pst}{R:au→Nat→Prop}(h:R H nx)(h2: ∀ H' nx',R H' nx'→Wp P ro ⟨fn,nt,T,k,dfs,H',nx'⟩ Q):Wp P ro ⟨fn,nt,T,k,dfs,H,nx⟩ Q:=h2 _ _ h
section
variable {P:Program} {T:Tr SV} {H:au} {d:Option Tmp} {ty:TypeId} {pos:String} {af:Array Edge} {gd:Option (Nat×Bool)}
theorem Dg{t u:TypeId}{x y:Operand}{kd:IntKind}{a b c:Int}(hx:ak T x=some (.sc (.int kd a)))(hy:ak T y=some (.sc (.int kd b)))(hc:max a b=c):ReadDoes P T H ⟨d,.call {callee:= .builtin .max,args:= #[x,y],argTypes:= #[t,u]},ty,pos,af,gd⟩ (.sc (.int kd c)):=by
 subst hc
 refine eG fun ev w he=>?_
 have e1:=he x _ hx _ rfl
 have e2:=he y _ hy _ rfl
 have e3:(if a<b then b else a)=max a b:=by omega
 simp [execOp,resolve,invoke,builtin,e1,e2,Builtin.max_,Builtin.max2,e3]
end
abbrev u8L(s:ByteArray):List Value:=s.data.toList.map fun c=> .int .u8 (c.toNat:Int)
section
variable {P:Program} {T:Tr SV} {H:au} {d:Option Tmp} {ty:TypeId} {pos:String} {af:Array Edge} {gd:Option (Nat×Bool)}
theorem jw{t e:TypeId}{x:Operand}{a:Option Addr}{n c:Nat}(hu:P.underlying t=some (.slice e))(hx:ak T x=some (.sc (.slice a n c))):ReadDoes P T H ⟨d,.call {callee:= .builtin .len,args:= #[x],argTypes:= #[t]},ty,pos,af,gd⟩ (.sc (.int .i64 n)):=by
 refine eG fun ev w he=>?_
 have e1:=he x _ hx _ rfl
 simp [execOp,resolve,invoke,builtin,e1,Builtin.len_,run_underlying hu,goInt]
end
section
variable {P:Program} {T:Tr SV} {H:au} {d:Option Tmp} {ty:TypeId} {pos:String} {af:Array Edge} {gd:Option (Nat×Bool)}
theorem cS{t:TypeId}{v:SV}(h:nj P t []=some v):ReadDoes P T H ⟨d,.build t #[],ty,pos,af,gd⟩ v:=by
 refine eH ?_
 simp only [cx,oJ,HZ,h]
end
section
variable {P:Program} {ro:Option Nat} {fn nt nx:Nat} {T:Tr SV} {k:List AIt} {dfs:List ADf} {H:au} {Q:Pst} {ops:Array Oper} {i:Nat} {l:List Oper} {d:Option Tmp} {ty:TypeId} {pos:String} {af:Array Edge} {gd:Option (Nat×Bool)}
theorem BZ{t u:TypeId}{x y:Operand}{kd:IntKind}{a b c:Int}{dd:Nat}(hw:aF T ops ⟨some dd,.call {callee:= .builtin .max,args:= #[x,y],argTypes:= #[t,u]},ty,pos,af,gd⟩=some true)(hd:Nat.blt dd nt=true)(hx:ak T x=some (.sc (.int kd a)))(hy:ak T y=some (.sc (.int kd b)))(hc:max a b=c)
 (h:Wp P ro ⟨fn,nt,T.set dd (.sc (.int kd c)),.inReg ops (i+1) l :: k,dfs,H,nx⟩ Q):Wp P ro ⟨fn,nt,T,.inReg ops i (⟨some dd,.call {callee:= .builtin .max,args:= #[x,y],argTypes:= #[t,u]},ty,pos,af,gd⟩ :: l) :: k,dfs,H,nx⟩ Q:=
 cZ hw (.inr (fun _ h=>by cases h)) ((Dg hx hy hc).does) (by rw [aI hd];exact h)
end
section
variable {P:Program} {T:Tr SV} {H:au} {nx:Nat} {d:Option Tmp} {ty:TypeId} {pos:String} {af:Array Edge} {gd:Option (Nat×Bool)}
theorem tS{s t el:TypeId}{x:Operand}{b:ByteArray}(hs:P.underlying s=some .string)(ht:P.underlying t=some (.slice el))(he:P.underlying el=some (.int .u8))(hx:ak T x=some (.sc (.string b)))(hb:b.size≤140737488355328) :
 OpDoes P T H nx ⟨d,.convert s t x,ty,pos,af,gd⟩ (.val (.slu nx 0 b.size),H.set nx (dat false b.size 1 el (u8L b)),nx+1):=by
 have e0:gD (b.data.toList.map fun c=>SV.sc (.int .u8 (c.toNat:Int)))=fun i=>((u8L b)[i]?).map SV.sc:=by
  funext i
  simp [gD,u8L,Function.comp_def]
 intro K w0 e w ev hS hE
 have e1:=hE x _ hx
 simp only [SV.conc,Ht] at e1
 have hrun:=run_bytes_of_string w s t el b hs ht he
 have hge:=grownCap_ge w b.size 0 el
 have hle:=grownCap_le_maxLen w b.size 0 el (by unfold maxLen;omega)
 generalize grownCap w b.size 0 el=gc at hrun hge hle
 have hf:=hS.fresh nx (HS _)
 have hsz:(bytesRow b gc).size=gc:=by
  have:b.data.size=b.size:=rfl
  simp [bytesRow];omega
 rw [hsz] at hrun
 refine⟨e.put nx ⟨w.heap.size,0,gc,1,false⟩,(w.drew.alloc (Obj.cells (bytesRow b gc) el (gc,gc+1))),Env.dV hf,?_,.slice (some ⟨w.heap.size,0,none⟩) b.size gc,by simp [SV.conc,Env.b9,Ent.at],by simp only [execOp,←e1];simp [hrun]⟩
 refine(hS.drew').new (x:=⟨w.heap.size,0,gc,1,false⟩) (o:= .cells (bytesRow b gc) el (gc,gc+1)) rfl rfl rfl rfl rfl rfl rfl ?_
 refine⟨rfl,_,_,_,rfl,hge,by rw [hsz];simp,hle,fun _=>⟨by omega,fun i hi=>?_⟩,by omega,fun i hi s' hs'=>?_⟩
 ·rw [hsz] at hi
  simp;omega
 ·have hs':((u8L b)[i]?).map SV.sc=some s':=hs'
  rw [HI] at hs'
  obtain⟨u,hu,rfl⟩:=hs'
  simp only [u8L,Ju,HI] at hu
  obtain⟨a,ha,rfl⟩:=hu
  refine⟨_,rfl,?_⟩
  simp only [Jf,bytesRow]
  rw [Array.getElem?_append_left (by rw [Array.size_map];have:b.data.size=b.size:=rfl;omega)]
  simp only [Array.getElem?_map,HI]
  exact⟨a,by simpa using ha,rfl⟩
end
section
variable {P:Program} {T:Tr SV} {H:au} {nx:Nat} {d:Option Tmp} {ty:TypeId} {pos:String} {af:Array Edge} {gd:Option (Nat×Bool)}
section
variable {s:SV}{t:TypeId}{x:Operand}{vs:List Value}
theorem yQ{el:TypeId}{y:Operand}{kx ky:IntKind}{n m bb:Nat}{z:Value}(hu:P.underlying t=some (.slice el))(hs:bH P el=some 1)(hz:dM P el=some z)(hi:(P.info? el).map (·.bytes)=some bb)(hc:z.cells = #[z])
 (hx:ak T x=some (.sc (.int kx n))) (hy:ak T y=some (.sc (.int ky m))) (hnm:n≤m) (hm:bb*m≤281474976710656) (h63:m≤9223372036854775807) :
 OpDoes P T H nx ⟨d,.makeSlice t x y,ty,pos,af,gd⟩ (.val (.slu nx 0 n),H.set nx (dat false m 1 el (List.replicate m z)),nx+1):=by
 intro K w0 e w ev hS hE
 have e1:=hE x _ hx
 have e2:=hE y _ hy
 simp only [SV.conc,Ht] at e1 e2
 obtain⟨inf,hinf,rfl⟩:=HI.1 hi
 clear hi
 simp only [bH,hinf,HY,Ht] at hs
 simp only [dM,hinf,HZ] at hz
 have hbi:(inf.bytes:Int)*(m:Int)=((inf.bytes*m:Nat):Int):=by rw [Int.natCast_mul]
 have hrun:=run_make (P:=P) w t el inf z hu hinf hz kx ky n m (by omega) (by omega) (by rw [hbi];omega) (by omega)
 simp only [Jv,hs,Nat.mul_one,hc] at hrun
 have hsz:(madeCells #[z] m).size=m:=size_madeCells _ _
 have hget: ∀ i,i<m→(madeCells #[z] m)[i]? =some z:=fun i hi=>by
  simp only [madeCells,Array.getElem?_map]
  rw [Array.getElem?_range]
  simp [hi,Nat.mod_one]
 have hf:=hS.fresh nx (HS _)
 refine⟨e.put nx ⟨w.heap.size,0,m,1,false⟩,w.alloc (Obj.cells (madeCells #[z] m) el),Env.dV hf,?_,.slice (some ⟨w.heap.size,0,none⟩) n m,by simp [SV.conc,Env.b9,Ent.at],by simp only [execOp,←e1,←e2];simp [hrun]⟩
 refine hS.new (x:=⟨w.heap.size,0,m,1,false⟩) (o:= .cells (madeCells #[z] m) el) rfl rfl rfl rfl rfl rfl rfl ?_
 refine⟨rfl,_,_,_,rfl,HS _,by rw [hsz];simp,by unfold maxLen;omega,fun _=>⟨HS _,fun i hi=>?_⟩,by omega,fun i hi s' hs'=>?_⟩
 ·simp
 ·have hs':((List.replicate m z)[i]?).map SV.sc=some s':=hs'
  rw [HI] at hs'
  obtain⟨u,hu,rfl⟩:=hs'
  obtain⟨hil,rfl⟩:=Hy.1 hu
  refine⟨_,rfl,?_⟩
  simp only [Jf,List.getElem_replicate]
  exact hget i (by simpa using hil)
theorem sY: ∀ l:List UInt8,ni ((l.map fun c=>Value.int .u8 (c.toNat:Int)).map SV.sc)=some l
 | []=>rfl
 | c :: l=>by
   simp only [HU]
   show(match ni _ with
    | some r=>some (UInt8.ofNat c.toNat :: r)
    | none=>none)=_
   rw [sY l]
   simp
theorem sX(b:ByteArray):pQ ((u8L b).map SV.sc)=some (.sc (.string b)):=by
 unfold pQ
 rw [show((u8L b).map SV.sc)=((b.data.toList.map fun c=>Value.int .u8 (c.toNat:Int)).map SV.sc)from rfl,sY]
 simp
def BsIs(H:au)(s:SV)(vs:List Value):Prop:=tw vs∧((vs= []∧ ∃ a c,s = .sc (.slice a 0 c)) ∨
 (∃ r eo ne ro t us,s = .slu r eo vs.length∧H.at' r=some (dat ro ne 1 t us)∧eo+vs.length≤ne∧(us.drop eo).take vs.length=vs) ∨
 (∃ b o C vo,s = .sl b o vs.length C∧H.at' b=some vo∧vo.cellsFrom o vs.length=some (vs.map .sc)))
theorem BsIs.rdv(h:BsIs H s vs):RdV P H 1 s vs.length vs:=by
 obtain⟨_,⟨rfl,_,_,rfl⟩|⟨r,eo,ne,ro,t,us,rfl,hb,hn,hu⟩|⟨b,o,C,vo,rfl,hb,hc⟩⟩:=h
 ·rfl
 ·exact tL hb hn (by simpa using hu) (by simp)
 ·unfold RdV
  simp only [aQ,hb,Nat.mul_one,hc,HY]
theorem BsIs.frame{H':au}(h:BsIs H s vs)(hf: ∀ b vo,H.at' b=some vo→H'.at' b=some vo):BsIs H' s vs:=by
 obtain⟨h1,h2|⟨r,eo,ne,ro,t,us,rfl,hb,hn,hu⟩|⟨b,o,C,vo,rfl,hb,hc⟩⟩:=h
 ·exact⟨h1,.inl h2⟩
 ·exact⟨h1,.inr (.inl ⟨r,eo,ne,ro,t,us,rfl,hf _ _ hb,hn,hu⟩)⟩
 ·exact⟨h1,.inr (.inr ⟨b,o,C,vo,rfl,hf _ _ hb,hc⟩)⟩
theorem BsIs.row{r ne:Nat}{ro:Bool}(h1:tw vs)(hb:H.at' r=some (dat ro ne 1 t vs))(hn:vs.length=ne):BsIs H (.slu r 0 ne) vs:=
 ⟨h1,.inr (.inl ⟨r,0,ne,ro,t,vs,by rw [hn],hb,by omega,by simp⟩)⟩
theorem fv{e:TypeId}(hu:P.underlying t=some (.slice e))(hx:ak T x=some s)(hb:BsIs H s vs):ReadDoes P T H ⟨d,.call {callee:= .builtin .len,args:= #[x],argTypes:= #[t]},ty,pos,af,gd⟩ (.sc (.int .i64 vs.length)):=by
 obtain⟨_,⟨rfl,_,_,rfl⟩|⟨r,eo,ne,ro,t,us,rfl,hb,hn,_⟩|⟨b,o,C,vo,rfl,hb,hc⟩⟩:=hb
 ·exact jw hu hx
 ·exact uO hu hx
 ·exact gj hu hx
theorem lO{s el:TypeId}{v:SV}{b:ByteArray}(hs:P.underlying s=some (.slice el))(ht:P.underlying t=some .string)(he:P.underlying el=some (.int .u8))(hx:ak T x=some v)(hb:BsIs H v (u8L b)):ReadDoes P T H ⟨d,.convert s t x,ty,pos,af,gd⟩ (.sc (.string b)):=by
 have hr:=BsIs.rdv (P:=P) hb
 unfold RdV at hr
 obtain⟨_,⟨h1,a0,c0,rfl⟩|⟨r,eo,ne,ro,rt,us,rfl,_⟩|⟨b',o,C,vo,rfl,_⟩⟩:=hb
 ·have hb0:b=⟨#[]⟩:=by
   have:=congrArg List.length h1
   simp only [u8L,Ji,List.length_nil] at this
   obtain⟨⟨l⟩⟩:=b
   simp only at this
   rw [HO this]
  subst hb0
  refine eG fun ev w hv=>?_
  have e1:=hv x _ hx _ rfl
  simp only [execOp,e1]
  rw [Sem.run_bind,run_convert_bytes_string w s t el a0 0 c0 hs he ht]
  cases a0 with
  | none=>
    simp only [Conv.bytesToString,Sem.run_pure]
    rfl
  | some ad=>
    have:=run_loadCells_list (P:=P) (w:=w) ad [] (by simp)
    rw [run_bytesToString w ad 0 c0 [] (by simpa using this)]
    rfl
 ·refine eH ?_
  simp only [cx,hx,HZ,rC,hs,ht,he,hr,sX]
 ·refine eH ?_
  simp only [cx,hx,HZ,rC,hs,ht,he,hr,sX]
end
end
section
variable {P:Program} {ro:Option Nat} {fn nt nx i:Nat} {T:Tr SV} {k:List AIt} {dfs:List ADf} {H:au} {Q:Pst} {ops:Array Oper} {l:List Oper} {ty:TypeId} {pos:String} {af:Array Edge} {gd:Option (Nat×Bool)}
theorem p6{t el:TypeId}{x y:Operand}{kx ky:IntKind}{n m dd bb:Nat}{z:Value}(hw:aF T ops ⟨some dd,.makeSlice t x y,ty,pos,af,gd⟩=some true)(hd:Nat.blt dd nt=true)(hu:P.underlying t=some (.slice el))(hs:bH P el=some 1)(hz:dM P el=some z)(hi:(P.info? el).map (·.bytes)=some bb)(hc:z.cells = #[z])
 (hx:ak T x=some (.sc (.int kx n))) (hy:ak T y=some (.sc (.int ky m))) (hnm:n≤m) (hm:bb*m≤281474976710656) (h63:m≤9223372036854775807)
 (h:Wp P ro ⟨fn,nt,T.set dd (.slu nx 0 n),.inReg ops (i+1) l :: k,dfs,H.set nx (dat false m 1 el (List.replicate m z)),nx+1⟩ Q):Wp P ro ⟨fn,nt,T,.inReg ops i (⟨some dd,.makeSlice t x y,ty,pos,af,gd⟩ :: l) :: k,dfs,H,nx⟩ Q:=
 cZ hw (.inr (fun _ h=>by cases h)) (yQ hu hs hz hi hc hx hy hnm hm h63) (by rw [aI hd];exact h)
theorem dl{t e:TypeId}{x:Operand}{s:SV}{vs:List Value}{dd:Nat}(hw:aF T ops ⟨some dd,.call {callee:= .builtin .len,args:= #[x],argTypes:= #[t]},ty,pos,af,gd⟩=some true)(hd:Nat.blt dd nt=true)(hu:P.underlying t=some (.slice e))(hx:ak T x=some s)(hb:BsIs H s vs)
 (h:Wp P ro ⟨fn,nt,T.set dd (.sc (.int .i64 vs.length)),.inReg ops (i+1) l :: k,dfs,H,nx⟩ Q):Wp P ro ⟨fn,nt,T,.inReg ops i (⟨some dd,.call {callee:= .builtin .len,args:= #[x],argTypes:= #[t]},ty,pos,af,gd⟩ :: l) :: k,dfs,H,nx⟩ Q:=
 cZ hw (.inr (fun _ h=>by cases h)) ((fv hu hx hb).does) (by rw [aI hd];exact h)
end
section
variable {P:Program} {T:Tr SV} {H:au} {nx:Nat} {d:Option Tmp} {ty:TypeId} {pos:String} {af:Array Edge} {gd:Option (Nat×Bool)}
theorem mh{vo:VO}: ∀ (n o:Nat) (l:List SV),vo.cellsFrom o n=some l→ ∀ j x,l[j]? =some x→vo.cell (o+j)=some x
 | 0,o,l,h,j,x,hx=>by
   simp only [VO.cellsFrom,Ht] at h
   subst h
   simp at hx
 | n+1,o,l,h,j,x,hx=>by
   simp only [VO.cellsFrom] at h
   cases h1:vo.cell o with
   | none=>rw [h1] at h;cases h
   | some s=>
     rw [h1] at h
     simp only at h
     cases h2:vo.cellsFrom (o+1) n with
     | none=>rw [h2] at h;cases h
     | some m=>
       rw [h2] at h
       simp only [Ht] at h
       subst h
       cases j with
       | zero=>
         simp only [HQ,Ht] at hx
         subst hx
         exact h1
       | succ j=>
         have:=mh n (o+1) m h2 j x (by simpa using hx)
         rw [show o+(j+1)=o+1+j by omega]
         exact this
theorem fQ{t e:TypeId}{x:Operand}{lo hi:Option Operand}{b o n l h m C o':Nat}(hu:P.underlying t=some (.array n e))(hs:bH P e=some 1)(hx:ak T x=some (.ptr b o))(hl:nv T 0 lo l)(hh:nv T n hi h)(h1:l≤h)(h2:h≤n)(h3:l<n)(hm:h-l=m)(hC:n-l=C)(ho:o+l=o'):ReadDoes P T H ⟨d,.slice t x lo hi none,ty,pos,af,gd⟩ (.sl b o' m C):=by
 subst hm hC ho
 refine eH ?_
 unfold nv at hl hh
 have hmx:natOr T n none=some n:=rfl
 simp only [cx,hx,HZ,kR,hu,hs,hl,hh,hmx]
 rw [show Nat.ble l h=true from HG h1,show Nat.ble h n=true from HG h2,show Nat.ble n n=true from HG (HS _)]
 have:Nat.beq n l=false:=by cases hq:Nat.beq n l with|false=>rfl|true=>exact absurd (Jt hq) (by omega)
 simp [this]
theorem vb{t tx el:TypeId}{b o n C:Nat}{bt:TypeId}{cs:List SV}{vs:List Value}{s x:Operand}{v:SV}(hu:P.underlying t=some (.slice el))(hs:bH P el=some 1)(hx0:ak T s=some (.sl b o n C))(hx:ak T x=some v)(hb:H.at' b=some (aq bt cs))(hv:BsIs H v vs)(hn:vs.length≤n)(ho:o+vs.length≤cs.length) :
 OpDoes P T H nx ⟨d,.call {callee:= .builtin .copy,args:= #[s,x],argTypes:= #[t,tx]},ty,pos,af,gd⟩ (.val (.sc (.int .i64 (vs.length:Nat))),H.set b (aq bt (cs.take o ++ vs.map .sc ++ cs.drop (o+vs.length))),nx):=by
 have hr:=BsIs.rdv (P:=P) hv
 unfold RdV at hr
 have hmin:min vs.length n=vs.length:=Nat.min_eq_left hn
 have htk:(vs.map SV.sc).take (vs.length*1)=vs.map SV.sc:=by rw [Nat.mul_one];exact HK (by simp)
 have hst:(aq bt cs).setCells o (vs.map .sc)=some (aq bt (cs.take o ++ vs.map .sc ++ cs.drop (o+vs.length))):=by
  have:=gJ (t:=bt) (vs.map .sc) cs o (by simpa using ho) (gA hv.1)
  simpa using this
 have hcp:um P H nx t (.sl b o n C) v=some (.val (.sc (.int .i64 (vs.length:Nat))),H.set b (aq bt (cs.take o ++ vs.map .sc ++ cs.drop (o+vs.length))),nx):=by
  simp only [um,hu,hs,hr,hmin,htk,eS,hb,hst]
 refine iW ?_
 simp only [fN,du,hx0,hx,HZ,eP,hcp]
end
section
variable {P:Program} {ro:Option Nat} {fn nt nx i:Nat} {T:Tr SV} {k:List AIt} {dfs:List ADf} {H:au} {Q:Pst} {ops:Array Oper} {l:List Oper} {ty:TypeId} {pos:String} {af:Array Edge} {gd:Option (Nat×Bool)}
theorem xK{t e:TypeId}{x y:Operand}{s:SV}{vs:List Value}{kd:IntKind}{j:Nat}{dd:Nat}(hw:aF T ops ⟨some dd,.indexAddr t x y,ty,pos,af,gd⟩=some true)(hd:Nat.blt dd nt=true)(hx:ak T x=some s)(hy:ak T y=some (.sc (.int kd (j:Int))))(hu:P.underlying t=some (.slice e))(hs:bH P e=some 1)(hb:BsIs H s vs)(hj:j<vs.length)
 (h: ∀ b o vo,H.at' b=some vo→vo.cell o=some (.sc vs[j])→Wp P ro ⟨fn,nt,T.set dd (.ptr b o),.inReg ops (i+1) l :: k,dfs,H,nx⟩ Q):Wp P ro ⟨fn,nt,T,.inReg ops i (⟨some dd,.indexAddr t x y,ty,pos,af,gd⟩ :: l) :: k,dfs,H,nx⟩ Q:=by
 obtain⟨_,⟨rfl,_,_,rfl⟩|⟨r,eo,ne,ro',rt,us,rfl,hr,hn,hus⟩|⟨b,o,C,vo,rfl,hr,hc⟩⟩:=hb
 ·simp at hj
 ·refine cZ hw (.inr (fun _ h=>by cases h)) ((uP hu hs hx hy hr (by omega) (by omega) hn).does) ?_
  rw [aI hd]
  refine h r _ _ hr ?_
  rw [Nat.mul_one,Jv]
  refine fW (by omega) ?_
  have hg:=congrArg (fun l:List Value=>l[j]?) hus
  rw [List.getElem?_take_of_lt hj,List.getElem?_drop] at hg
  rw [hg]
  simp [hj]
 ·refine cZ hw (.inr (fun _ h=>by cases h)) ((yz hu hs hx hy hj).does) ?_
  rw [aI hd]
  refine h b _ _ hr ?_
  rw [Nat.mul_one]
  exact mh _ _ _ hc j _ (by simp [hj])
theorem kL{t e:TypeId}{x:Operand}{lo hi:Option Operand}{b o n lw hg m C o':Nat}{dd:Nat}(hw:aF T ops ⟨some dd,.slice t x lo hi none,ty,pos,af,gd⟩=some true)(hd:Nat.blt dd nt=true)(hx:ak T x=some (.ptr b o))(hu:P.underlying t=some (.array n e))(hs:bH P e=some 1)(hl:nv T 0 lo lw)(hh:nv T n hi hg)(h1:lw≤hg)(h2:hg≤n)(h3:lw<n)(hm:hg-lw=m)(hC:n-lw=C)(ho:o+lw=o')
 (h:Wp P ro ⟨fn,nt,T.set dd (.sl b o' m C),.inReg ops (i+1) l :: k,dfs,H,nx⟩ Q):Wp P ro ⟨fn,nt,T,.inReg ops i (⟨some dd,.slice t x lo hi none,ty,pos,af,gd⟩ :: l) :: k,dfs,H,nx⟩ Q:=
 cZ hw (.inr (fun _ h=>by cases h)) ((fQ hu hs hx hl hh h1 h2 h3 hm hC ho).does) (by rw [aI hd];exact h)
theorem nT{t tx el:TypeId}{b o n C:Nat}{bt:TypeId}{cs:List SV}{vs:List Value}{s x:Operand}{v:SV}{dd:Nat}(hw:aF T ops ⟨some dd,.call {callee:= .builtin .copy,args:= #[s,x],argTypes:= #[t,tx]},ty,pos,af,gd⟩=some true)(hd:Nat.blt dd nt=true)(hx0:ak T s=some (.sl b o n C))(hx:ak T x=some v)(hu:P.underlying t=some (.slice el))(hs:bH P el=some 1)(hb:H.at' b=some (aq bt cs))(hv:BsIs H v vs)(hn:vs.length≤n)(ho:o+vs.length≤cs.length)
 (h:Wp P ro ⟨fn,nt,T.set dd (.sc (.int .i64 (vs.length:Nat))),.inReg ops (i+1) l :: k,dfs,H.set b (aq bt (cs.take o ++ vs.map .sc ++ cs.drop (o+vs.length))),nx⟩ Q):Wp P ro ⟨fn,nt,T,.inReg ops i (⟨some dd,.call {callee:= .builtin .copy,args:= #[s,x],argTypes:= #[t,tx]},ty,pos,af,gd⟩ :: l) :: k,dfs,H,nx⟩ Q:=
 cZ hw (.inr (fun _ h=>by cases h)) (vb hu hs hx0 hx hb hv hn ho) (by rw [aI hd];exact h)
end
end Go.Sy
end
section
namespace Go.Proofs.YtnhmbonmlfeifaaGreat
open Go Go.Sy Go.Sl Go.RowKit
abbrev byV(l:List UInt8):List Value:=l.map fun c=> .int .u8 (c.toNat:Int)
def beN(l:List UInt8):Nat:=l.foldl (fun n c=>256*n+c.toNat) 0
theorem BE(l:List UInt8)(c:UInt8):beN (l ++ [c])=256*beN l+c.toNat:=by simp [beN]
theorem wi{l:List UInt8}{j:Nat}(h:j<l.length):beN (l.take (j+1))=256*beN (l.take j)+(l[j]).toNat:=by
 rw [List.take_add_one,Hx h]
 exact BE _ _
theorem vP: ∀ (l:List UInt8) (a:Nat),l.foldl (fun n c=>256*n+c.toNat) a<(a+1)*256 ^ l.length
 | [],a=>by simp
 | c :: l,a=>by
   have h:=vP l (256*a+c.toNat)
   have hc:=c.toNat_lt
   simp only [List.foldl_cons,HV,Nat.pow_succ]
   refine Nat.lt_of_lt_of_le h ?_
   rw [Nat.mul_comm (256 ^ l.length) 256,←Nat.mul_assoc]
   exact Nat.mul_le_mul_right _ (by omega)
theorem ml(l:List UInt8):beN l<256 ^ l.length:=by
 have:=vP l 0
 rwa [Jf,Nat.one_mul] at this
theorem qW{l:List UInt8}{j:Nat}(h:j<(byV l).length):(byV l)[j] = .int .u8 ((l[j]'(by simpa using h)).toNat:Int):=by simp
theorem shl8{n:Nat}(h:n<72057594037927936):IntKind.u64.wrap ((n:Int)*2 ^ (min (8:Int).toNat IntKind.u64.bits))=((256*n:Nat):Int):=by
 rw [show(min (8:Int).toNat IntKind.u64.bits)=8 from rfl]
 refine(JC _ ⟨by omega,by omega⟩).trans ?_
 omega
theorem or8{n c:Nat}(hn:n<72057594037927936)(hc:c<256):zV .or .u64 ((256*n:Nat):Int) (c:Int)=((256*n+c:Nat):Int):=by
 show IntKind.u64.wrap (((BitVec.ofInt 64 ((256*n:Nat):Int) ||| BitVec.ofInt 64 (c:Int)).toNat:Nat):Int)=_
 have e1:(((256*n:Nat):Int) % ((2 ^ 64:Nat):Int)).toNat=n <<< 8:=by rw [Nat.shiftLeft_eq];omega
 have e2:((c:Int) % ((2 ^ 64:Nat):Int)).toNat=c:=by omega
 rw [BitVec.toNat_or,BitVec.toNat_ofInt,BitVec.toNat_ofInt,e1,e2,←Nat.shiftLeft_add_eq_or_of_lt (show c<2 ^ 8 by omega),Nat.shiftLeft_eq]
 exact(JC _ ⟨by omega,by omega⟩).trans (by omega)
theorem G0{H:au}{nx:Nat}{s:SV}{bs:List UInt8}(hb:BsIs H s (byV bs))(h1:1≤bs.length)(h2:bs.length≤8):Fnc Tryz.prog 102 [s] H nx
 (fun q=>q=(.tup [.sc (.int .u64 (beN bs:Int)),.sc (.int .i64 0)],H,nx)):=by
 have hlen:(byV bs).length=bs.length:=by simp
 refine JH Tryz.func102 rfl rfl ?_
 repeat first|apply cw;rfl|refine dl rfl rfl (F.un _ rfl) rfl hb ?_
 refine bi rfl rfl rfl rfl (fun hq=>absurd hq (by omega)) (fun _=>?_)
 repeat first|apply cw;rfl|refine dl rfl rfl (F.un _ rfl) rfl hb ?_
 refine ej rfl rfl rfl rfl (fun hq=>absurd hq (by omega)) (fun _=>?_)
 repeat first|apply aj;rfl|apply cw;rfl|refine dl rfl rfl (F.un _ rfl) rfl hb ?_
 refine bv (α:=Nat) (fun j=> [(0,s),(4,.sc (.int .u64 (beN (bs.take j):Int))),(15,s),(16,.sc (.int .i64 ((byV bs).length:Int))),(17,.sc (.int .i64 (j:Int)))]) (fun j H1 n1=>H1=H∧n1=nx∧j≤bs.length) (fun j=>bs.length-j) 0
  ⟨rfl,rfl,HT _⟩ (JN (JQ rfl)) ?_
 rintro j H1 n1 ⟨rfl,rfl,h3⟩ ih
 repeat apply aj;rfl
 (apply bi;rfl;rfl;rfl;rfl)
 all_goals intro h4
 ·have hj:j<bs.length:=by omega
  have hlt:=ml (bs.take j)
  rw [Jh,Nat.min_eq_left (by omega)] at hlt
  have hp:256 ^ j≤256 ^ 7:=Nat.pow_le_pow_right (by decide) (by omega)
  have hn:beN (bs.take j)<72057594037927936:=Nat.lt_of_lt_of_le hlt hp
  repeat apply aj;rfl
  refine xK (j:=j) rfl rfl rfl rfl (F.un _ rfl) (F.sz _ rfl) hb (by omega) ?_
  intro b o vo hvo hcell
  rw [qW] at hcell
  have hc:=(bs[j]).toNat_lt
  repeat first|apply aj;rfl|apply aK;rfl;omega;omega|refine cc (an (F.ag _ rfl) rfl hvo hcell) rfl rfl rfl ?_|refine cc (rQ rfl rfl (by focus(decide)) (shl8 hn)) rfl rfl rfl ?_|refine cc (bR (F.un _ rfl) (F.un _ rfl) rfl (show _=((bs[j].toNat:Nat):Int)from JC _ ⟨by omega,by omega⟩)) rfl rfl rfl ?_|refine cc (mB rfl rfl (.inr (.inl rfl)) (or8 hn hc)) rfl rfl rfl ?_
  refine ih _ _ _ (j+1) ⟨rfl,rfl,by omega⟩ (by omega) ?_
  rw [wi hj]
  exact JN (by repeat(first|exact JR|refine⟨rfl,?_⟩))
 ·obtain rfl:j=bs.length:=by omega
  rw [List.take_length]
  repeat apply aj;rfl
  (apply bP Tryz.func102 Tryz.results102;rfl)
  rfl
def beB(n size:Nat):List UInt8:=(List.range size).map fun i=>UInt8.ofNat (n / 256 ^ (size-1-i))
theorem bp(n size:Nat):(beB n size).length=size:=by simp [beB]
theorem shrB{n k:Nat}{b:Int}(hb:b=8*(k:Int))(hk:k<8):((n:Nat):Int).fdiv (2 ^ (min b.toNat IntKind.u64.bits))=((n / 256 ^ k:Nat):Int):=by
 have e:min b.toNat IntKind.u64.bits=8*k:=by
  have:IntKind.u64.bits=64:=rfl
  omega
 rw [e,Int.natCast_ediv]
 have:(2:Int) ^ (8*k)=((256 ^ k:Nat):Int):=by
  rw [Int.pow_mul]
  simp
 rw [this,Int.fdiv_eq_ediv_of_nonneg _ (Int.natCast_nonneg _)]
theorem wy(q:Nat):IntKind.u8.wrap ((q:Nat):Int)=((UInt8.ofNat q).toNat:Int):=by
 simp [IntKind.wrap,IntKind.bits,IntKind.signed]
theorem ql{n size i:Nat}(hi:i<size):(beB n size).take (i+1)=(beB n size).take i ++ [UInt8.ofNat (n / 256 ^ (size-1-i))]:=by
 rw [List.take_add_one,Hx (by rw [bp];exact hi)]
 simp [beB]
theorem AS{H:au}{nx n size:Nat}(hn:n<256 ^ size)(h1:1≤size)(h2:size≤8)(hn2:n≤18446744073709551615):Fnc Tryz.prog 59 [.sc (.int .u64 (n:Int)),.sc (.int .i64 (size:Int))] H nx
 (fun q=>q.1 = .tup [.slu nx 0 size,.sc (.int .i64 0)]∧q.2.1.at' nx=some (dat false size 1 5 (byV (beB n size)))∧q.2.2=nx+1∧ ∀ m,m<nx→q.2.1.at' m=H.at' m):=by
 refine JH Tryz.func59 rfl rfl ?_
 repeat apply aj;rfl
 refine bi rfl rfl rfl rfl (fun hq=>absurd hq (by omega)) (fun _=>?_)
 repeat apply aj;rfl
 refine ej rfl rfl rfl rfl (fun hq=>absurd hq (by omega)) (fun _=>?_)
 repeat apply aj;rfl
 (apply bi;rfl;rfl;rfl;rfl)
 all_goals intro hs
 ·have hz:n / 256 ^ size=0:=Nat.div_eq_of_lt hn
  repeat first|apply aj;rfl|apply aK;rfl;omega;omega|refine cc (oe rfl rfl (by focus(omega)) (shrB rfl (by omega))) rfl rfl rfl ?_
  refine lD rfl rfl rfl rfl (fun hq=>absurd (by rw [hz];rfl) hq) (fun _=>?_)
  repeat first|apply aj;rfl|apply p6 (z:= .int .u8 0) (bb:=1) (n:=size) (m:=size);rfl;rfl;exact(F.un _ rfl);exact(F.sz _ rfl);exact(F.ze _ rfl);(focus(kernel_rfl));rfl;rfl;rfl;exact(HS _);(focus(omega));(focus(omega))
  refine bv (α:=Nat) (fun i=> [(0,.sc (.int .u64 (n:Int))),(1,.sc (.int .i64 (size:Int))),(6,.slu nx 0 size),(28,.sc (.int .i64 (size:Int))),(29,.sc (.int .i64 (i:Int)))]) (fun i H1 n1=>n1=nx+1∧i≤size∧H1.at' nx=some (dat false size 1 5 (byV ((beB n size).take i) ++ List.replicate (size-i) (.int .u8 0)))∧ ∀ m,m<nx→H1.at' m=H.at' m) (fun i=>size-i) 0 ⟨rfl,HT _,by rw [ah];simp,fun m hm=>aa _ _ (by omega)⟩ (JN (JQ rfl)) ?_
  rintro i H1 n1 ⟨rfl,h3,h4,h5⟩ ih
  repeat apply aj;rfl
  (apply bi;rfl;rfl;rfl;rfl)
  all_goals intro h6
  ·have hi:i<size:=by omega
   have hl1:(byV ((beB n size).take i)).length=i:=by rw [Ji,Jh,bp];omega
   repeat first|apply aj;rfl|apply aK;rfl;omega;omega|refine cc (oe rfl rfl (by focus(omega)) (shrB (k:=size-1-i) (by omega) (by omega))) rfl rfl rfl ?_|refine cc (bR (F.un _ rfl) (F.un _ rfl) rfl (wy _)) rfl rfl rfl ?_|refine dw (q:=i) rfl rfl rfl rfl (F.un _ rfl) (F.sz _ rfl) h4 rfl hi (HS _) ?_
   refine uy (vs:= [.int .u8 ((UInt8.ofNat (n / 256 ^ (size-1-i))).toNat:Int)]) (cs':=byV ((beB n size).take (i+1)) ++ List.replicate (size-(i+1)) (.int .u8 0)) rfl rfl rfl rfl (F.sz _ rfl) h4 rfl (by omega) (by rw [HW,hl1,Jq];omega) (fun v hv=>by rw [Jj.1 hv];rfl) ?_ ?_
   ·rw [ql hi,Nat.mul_one,List.take_left' hl1,←List.drop_drop,List.drop_left' hl1,List.drop_replicate,show size-(i+1)=size-i-1 from(Nat.sub_sub _ _ _).symm]
    simp only [byV,HX,HU,List.map_nil]
   ·repeat first|apply aj;rfl|apply aK;rfl;omega;omega
    refine ih _ _ _ (i+1) ⟨rfl,hi,ah _ _ _,fun m hm=>(aa _ _ (by omega)).trans (h5 m hm)⟩ (by omega) (JN (JQ rfl))
  ·obtain rfl:i=size:=by omega
   rw [Nat.sub_self,List.replicate_zero,Jr,HK (by rw [bp];exact HS _)] at h4
   repeat apply aj;rfl
   (apply bP Tryz.func59 Tryz.results59;rfl)
   exact⟨rfl,h4,rfl,h5⟩
 ·repeat first|apply aj;rfl|apply p6 (z:= .int .u8 0) (bb:=1) (n:=size) (m:=size);rfl;rfl;exact(F.un _ rfl);exact(F.sz _ rfl);exact(F.ze _ rfl);(focus(kernel_rfl));rfl;rfl;rfl;exact(HS _);(focus(omega));(focus(omega))
  refine bv (α:=Nat) (fun i=> [(0,.sc (.int .u64 (n:Int))),(1,.sc (.int .i64 (size:Int))),(6,.slu nx 0 size),(28,.sc (.int .i64 (size:Int))),(29,.sc (.int .i64 (i:Int)))]) (fun i H1 n1=>n1=nx+1∧i≤size∧H1.at' nx=some (dat false size 1 5 (byV ((beB n size).take i) ++ List.replicate (size-i) (.int .u8 0)))∧ ∀ m,m<nx→H1.at' m=H.at' m) (fun i=>size-i) 0 ⟨rfl,HT _,by rw [ah];simp,fun m hm=>aa _ _ (by omega)⟩ (JN (JQ rfl)) ?_
  rintro i H1 n1 ⟨rfl,h3,h4,h5⟩ ih
  repeat apply aj;rfl
  (apply bi;rfl;rfl;rfl;rfl)
  all_goals intro h6
  ·have hi:i<size:=by omega
   have hl1:(byV ((beB n size).take i)).length=i:=by rw [Ji,Jh,bp];omega
   repeat first|apply aj;rfl|apply aK;rfl;omega;omega|refine cc (oe rfl rfl (by focus(omega)) (shrB (k:=size-1-i) (by omega) (by omega))) rfl rfl rfl ?_|refine cc (bR (F.un _ rfl) (F.un _ rfl) rfl (wy _)) rfl rfl rfl ?_|refine dw (q:=i) rfl rfl rfl rfl (F.un _ rfl) (F.sz _ rfl) h4 rfl hi (HS _) ?_
   refine uy (vs:= [.int .u8 ((UInt8.ofNat (n / 256 ^ (size-1-i))).toNat:Int)]) (cs':=byV ((beB n size).take (i+1)) ++ List.replicate (size-(i+1)) (.int .u8 0)) rfl rfl rfl rfl (F.sz _ rfl) h4 rfl (by omega) (by rw [HW,hl1,Jq];omega) (fun v hv=>by rw [Jj.1 hv];rfl) ?_ ?_
   ·rw [ql hi,Nat.mul_one,List.take_left' hl1,←List.drop_drop,List.drop_left' hl1,List.drop_replicate,show size-(i+1)=size-i-1 from(Nat.sub_sub _ _ _).symm]
    simp only [byV,HX,HU,List.map_nil]
   ·repeat first|apply aj;rfl|apply aK;rfl;omega;omega
    refine ih _ _ _ (i+1) ⟨rfl,hi,ah _ _ _,fun m hm=>(aa _ _ (by omega)).trans (h5 m hm)⟩ (by omega) (JN (JQ rfl))
  ·obtain rfl:i=size:=by omega
   rw [Nat.sub_self,List.replicate_zero,Jr,HK (by rw [bp];exact HS _)] at h4
   repeat apply aj;rfl
   (apply bP Tryz.func59 Tryz.results59;rfl)
   exact⟨rfl,h4,rfl,h5⟩
end Go.Proofs.YtnhmbonmlfeifaaGreat
end
section
namespace Go.Sy
open Go Go.Sl Go.RowKit
section
variable {P:Program}
theorem Fnc.bu{f:FuncId}{args:List SV}{H:au}{nx:Nat}{v:SV}(hv:Free v)(h:Fnc P f args H nx (fun q=>q.1=v∧nx≤q.2.2∧ ∀ n,n<nx→q.2.1.at' n=H.at' n)):Fnc P f args H nx (fun q=>q=(v,H,nx)):=by
 unfold Fnc jS at h ⊢
 rcases h with ⟨h1,u,r,h2,⟨q1,q2,q3⟩,h4⟩|h
 ·refine .inl ⟨h1,u,_,h2,rfl,fun K w0 e w hS=>?_⟩
  obtain⟨e',g1,g2,g3⟩:=h4 K w0 e w hS
  rw [q1] at g3
  exact⟨e,JO e,hS.drop g1 g2 q3,hv _ _ _ g3⟩
 ·refine .inr ?_
  split at h
  ·refine⟨fun K w0 e w tmps todo ds kd rof cs hS a2 a3 a4 a5=>?_⟩
   obtain⟨r,⟨q1,q2,q3⟩,e',w',u,g1,g2,g3,g4⟩:=Wp.run h K w0 e w tmps todo ds kd rof cs hS a2 a3 a4 a5
   rw [q1] at g3
   exact⟨_,rfl,e,w',u,JO e,hS.drop g1 g2 q3,hv _ _ _ g3,g4⟩
  ·exact h.elim
end
end Go.Sy
end
