import Derived.Laws.StructEq
import Derived.Sort.AssemblyPlain
import Derived.Laws.MakeOwn
import Derived.Test.YtelnglhodnoclaaGreatA2
set_option linter.unusedVariables false
set_option linter.unusedSimpArgs false
set_option maxRecDepth 100000
set_option maxHeartbeats 0
section
namespace Go.Sy
open Go Go.Sl Go.RowKit
section
variable {P:Program}
section
variable {H:ay}{nx:Nat}
def tW:List Nat→Bool
 | []=>true
 | x :: l=> !(l.any (Nat.beq x)) && tW l
def extB(L:List Nat)(nx:Nat):Bool:=L.all (fun n=>Nat.blt n nx) && tW L
theorem qN: ∀ {l:List Nat},tW l=true→l.Nodup
 | [],_=>List.nodup_nil
 | x :: l,h=>by
   simp only [tW,ED,Bool.not_eq_true'] at h
   refine List.nodup_cons.2 ⟨fun hm=>?_,qN h.2⟩
   have:l.any (Nat.beq x)=true:=List.any_eq_true.2 ⟨x,hm,Nat.beq_refl x⟩
   rw [this] at h
   cases h.1
theorem ExtOk.of{L:List Nat}{nx:Nat}(h:extB L nx=true):ExtOk L nx:=by
 simp only [extB,ED] at h
 exact⟨fun n hn=>Ep (List.all_eq_true.1 h.1 n hn),qN h.2⟩
theorem Gh:type_of% @ExtOk.of:=@ExtOk.of
theorem Ends.mk{k0:Nat}{c:Cz}{v:SV}(σ:List Nat)(h1:ExtOk (nms k0 σ) nx)(h2:k0+σ.length=c.objs.length)(h3:v=c.v.ren (ext (nms k0 σ) nx))(h4:HasO (ext (nms k0 σ) nx) H 0 c.objs):Ends k0 c (v,H,nx):=⟨σ,h1,h2,h3,h4⟩
theorem Ends.val{k0:Nat}{u u':Value}{objs:List (Option VO)}(h1:ExtOk (nms k0 []) nx)(h2:k0=objs.length)(h3:u=u')(h4:HasO (ext (nms k0 []) nx) H 0 objs):Ends k0 ⟨.sc u',objs⟩ (.sc u,H,nx):=⟨[],h1,by simpa using h2,by rw [h3];rfl,h4⟩
theorem HasO.mono{ρ:Nat→Nat}{H H':ay}: ∀ {l:List (Option VO)} {i:Nat},HasO ρ H i l→(∀ n vo,H.at' n=some vo→H'.at' n=some vo)→HasO ρ H' i l
 | [],_,_,_=>trivial
 | none :: l,i,h,hH=>HasO.mono (l:=l) (i:=i+1) h hH
 | some v :: l,i,h,hH=>⟨hH _ _ h.1,HasO.mono (l:=l) (i:=i+1) h.2 hH⟩
theorem to{ρ:Nat→Nat}: ∀ {l:List VO} {i:Nat} {H:ay},HasO ρ H i (l.map some)→wrO ρ H i ((l.map some).map (Option.map (VO.ren ρ)))=H
 | [],_,_,_=>rfl
 | v :: l,i,H,h=>by
   have e:H.set (ρ i) (v.ren ρ)=H:=by
    funext n
    simp only [Tr.set]
    cases hb:Nat.beq n (ρ i)with
    | false=>rfl
    | true=>have:=E5 hb;subst this;exact h.1.symm
   simp only [EG,EK,wrO,e]
   exact to (l:=l) (i:=i+1) h.2
theorem Ctr.callV{f:FuncId}{args0 args:List SV}{pre:List VO}{u:Value}(h:Ctr P f args0 pre (fun c=>c=⟨.sc u,pre.map some⟩))(L:List Nat){Q:Pst}(hlen:L.length=pre.length)(hL:ExtOk L nx)(ha:args=args0.map (SV.ren (ext L nx)))
 (hp:HasO (ext L nx) H 0 (pre.map some)) (hQ:Q (.sc u,H,nx)):Fnc P f args H nx Q:=by
 refine h.call L hlen hL ha hp ?_
 rintro c rfl _
 rw [to hp]
 simpa [SV.ren] using hQ
theorem Ctr.callM{f:FuncId}{args0 args:List SV}{pre:List VO}{c:Cz}(h:Ctr P f args0 pre (fun c'=>c'=c))(L:List Nat){H':ay}{nx':Nat}{v:SV}{Q:Pst}(hlen:L.length=pre.length)(hL:ExtOk L nx)(ha:args=args0.map (SV.ren (ext L nx)))
 (hp:HasO (ext L nx) H 0 (pre.map some)) (hv:c.v.ren (ext L nx)=v) (ho:wrO (ext L nx) H 0 (c.objs.map (Option.map (VO.ren (ext L nx))))=H') (hn:nx+(c.objs.length-pre.length)=nx') (hQ:Q (v,H',nx')):Fnc P f args H nx Q:=by
 refine h.call L hlen hL ha hp ?_
 rintro c' rfl _
 rw [hv,ho,hn]
 exact hQ
end
section
variable {ro:Option Nat} {fn nt nx:Nat} {T:Tr SV} {k:List AIt} {dfs:List ADf} {H:ay} {Q:Pst} {ops:Array Oper} {i:Nat} {l:List Oper} {ty:TypeId} {pos:String} {af:Array Edge} {gd:Option (Nat×Bool)}
theorem ey{g:FuncId}{as1:List Operand}{ats:Array TypeId}{args args0:List SV}{pre:List VO}{u:Value}{dd:Nat}(hc:Ctr P g args0 pre (fun c=>c=⟨.sc u,pre.map some⟩))(L:List Nat)
 (hw:aE T ops ⟨some dd,.call {callee:= .value (.func g),args:=as1.toArray,argTypes:=ats},ty,pos,af,gd⟩=some true) (hd:Nat.blt dd nt=true) (ha:cY T as1=some args) (hm:bB P g=true)
 (hlen:L.length=pre.length) (hL:ExtOk L nx) (hA:args=args0.map (SV.ren (ext L nx))) (hp:HasO (ext L nx) H 0 (pre.map some))
 (h:Wp P ro ⟨fn,nt,T.set dd (.sc u),.inReg ops (i+1) l :: k,dfs,H,nx⟩ Q) :
 Wp P ro ⟨fn,nt,T,.inReg ops i (⟨some dd,.call {callee:= .value (.func g),args:=as1.toArray,argTypes:=ats},ty,pos,af,gd⟩ :: l) :: k,dfs,H,nx⟩ Q:=
 aZ hw hd ha hm (hc.callV L hlen hL hA hp h)
end
theorem cO{k:IntKind}{a b:Int}(h:a=b):some (SV.sc (.int k a))=some (SV.sc (.int k b)):=by rw [h]
theorem co{H:ay}{ρ:Nat→Nat}{n:Nat}{t:TypeId}{l:List SV}(h:H.at' n=some (an t (SV.gI ρ l))):H.at' n=some ((an t l).ren ρ):=by rw [po];exact h
theorem x8{ρ:Nat→Nat}{T:Tr SV}: ∀ {l:List (Nat×SV)},l.map (fun x=>T.at' x.1)=l.map (fun x=>some (x.2.ren ρ))→HasT ρ T l
 | [],_=>trivial
 | (t,s) :: l,h=>by
   simp only [EG,List.cons.injEq] at h
   exact⟨h.1,x8 h.2⟩
theorem IsAt.rf{k0:Nat}{L2:List Nat}{sl:List (Nat×SV)}{ob:List (Option VO)}{T:Tr SV}{H:ay}{nx:Nat}(h1:extB (nms k0 L2) nx=true)(h2:k0+L2.length=ob.length)(h3:sl.map (fun x=>T.at' x.1)=sl.map (fun x=>some (x.2.ren (ext (nms k0 L2) nx))))(h4:HasO (ext (nms k0 L2) nx) H 0 ob):IsAt k0 L2 sl ob T H nx:=⟨.of h1,h2,x8 h3,h4⟩
theorem Gs:type_of% @IsAt.rf:=@IsAt.rf
theorem ai{H:ay}{ρ:Nat→Nat}{n:Nat}{ro:Bool}{ne sz:Nat}{t:TypeId}{vs:List Value}(h:H.at' n=some (dat ro ne sz t vs)):H.at' n=some ((dat ro ne sz t vs).ren ρ):=by rw [dq];exact h
end
theorem bZ(ro:Bool)(ne sz:Nat)(t:TypeId)(vs:List Value):VO.row ro ne sz t (fS (vs.map .sc))=dat ro ne sz t vs:=by
 unfold dat fS
 congr 1
 funext i
 rw [E6]
section
variable {P:Program} {K:Zone} {w0 w:World} {e:Env} {H:ay} {nx:Nat} {T:Tr SV} {ev:Operand→Value} {d:Option Tmp} {ty:TypeId} {pos:String} {af:Array Edge} {gd:Option (Nat×Bool)}
section
variable {b eo n ne sz:Nat}{el t:TypeId}{x:Operand}{vs:List Value}
theorem xy{cap:Nat}{l:List SV}{s:Sem Value}(hS:St K w0 e H nx w)(hl:SV.aD e l=some vs)(hlen:vs.length=cap*sz)(hn:n≤cap)(hcap:cap≤maxLen)(h0:0<sz)
 (hrun:s.run P w = .ok (.slice (some ⟨w.heap.size,0,none⟩) n cap) {w with heap:=w.heap.push (.cells vs.toArray el)}):nN P K w0 e (.val (.slu nx 0 n),H.set nx (.row false n sz el (fS l)),nx+1) s w:=by
 have hf:=hS.fresh nx (EE _)
 have hle:=Env.dA (x:=⟨w.heap.size,0,cap,sz,false⟩) hf
 refine⟨e.put nx ⟨w.heap.size,0,cap,sz,false⟩,_,.slu nx 0 n,_,rfl,hle,?_,by simp [SV.conc,Env.bL,Ent.at],hrun⟩
 refine hS.new (o:= .cells vs.toArray el) rfl rfl rfl rfl rfl rfl rfl ⟨rfl,vs.toArray,(0,0),el,rfl,hn,by simp [hlen],hcap,fun _=>B7 _,h0,fun i hi s hs=>?_⟩
 rw [ks] at hs
 obtain⟨v,hv,hg⟩:=fg (SV.bV hle _ _ hl) hs
 exact⟨v,hv,by simpa using hg⟩
theorem aU{len:Nat}{parts:List (Nat×Operand)}{ps:List (Nat×SV)}{z:Value}{l:List SV}(hu:P.underlying t=some (.slice el))(hs:bx P el=some sz)(h0:0<sz)(hz:dJ P el=some z)(hp:l7 T parts=some ps)
 (hf:hY (fun i=>some (i*sz,sz)) (((List.range (len*sz)).map (z.cells[·% z.cells.size]!)).map .sc) ps=some l) (h1:cr l=true) (hlen:Nat.ble (len*sz) 16777216=true) (hll:l.length=len*sz) :
 OpDoes P T H nx ⟨d,.buildSlice t len parts.toArray,ty,pos,af,gd⟩ (.val (.slu nx 0 len),H.set nx (.row false len sz el (fS l)),nx+1):=by
 intro K w0 e w ev hS hE
 have hle:=bK hlen
 have hlm:len≤maxLen:=by
  unfold maxLen
  have:len*1≤len*sz:=Nat.mul_le_mul_left _ h0
  omega
 refine gD (w:=w) (s:=Instr.buildSlice t len (parts.toArray.map fun x=>(x.1,ev x.2))) ?_ (fun v w' hr=>by simp only [execOp,Sem.run_bind];rw [hr];simp)
 have hpr:=hE.parts parts ps hp
 have hpr':Ef e ps (parts.toArray.map fun x=>(x.1,ev x.2)).toList:=by simpa using hpr
 obtain⟨vs,g1,g2⟩:=um (e:=e) ps _ _ l _ hf hpr' (e7 _)
 have hvl:=cR g2
 refine xy hS g2 (by omega) (EE _) hlm h0 ?_
 by_cases hz0:len*sz=0
 ·have hvs:vs= []:=EA (by omega)
  subst hvs
  have hps:ps= []:=by
   cases ps with
   | nil=>rfl
   | cons p ps=>
     exfalso
     simp only [hz0,List.range_zero,List.map_nil,hY,List.length_nil,Nat.le_zero_eq] at hf
     have hlen0:len=0:=by
      rcases Nat.eq_zero_or_pos len with h|h
      ·exact h
      ·have:=Nat.mul_pos h h0;omega
     cases hb:(Nat.beq p.2.cells.length sz && Nat.ble (p.1*sz+sz) 0)with
     | false=>rw [hb] at hf;cases hf
     | true=>
       rw [ED] at hb
       have:=bK hb.2
       omega
  subst hps
  have hq:(parts.toArray.map fun x=>(x.1,ev x.2)).toList= []:=by
   cases hq:(parts.toArray.map fun x=>(x.1,ev x.2)).toList with
   | nil=>rfl
   | cons _ _=>rw [hq] at hpr';exact hpr'.elim
  have hq2:List.map (fun x=>(x.fst,ev x.snd)) parts= []:=by simpa using hq
  simp [Instr.buildSlice,run_underlying hu,cI hs,hz0,hq2,Instr.fill,newRow,show Array.range 0=(#[]:Array Nat)from by decide]
 ·have hr:(Array.range (len*sz)).map (z.cells[·% z.cells.size]!)=((List.range (len*sz)).map (z.cells[·% z.cells.size]!)).toArray:=by
   apply Array.ext'
   simp
  simp only [Instr.buildSlice,run_underlying hu,Sem.run_bind,Result.andThen,cI hs]
  rw [EP (by omega)]
  simp only [Sem.run_pure,EP hz0,Sem.run_bind,Result.andThen,iA hz,hr,g1,newRow,run_newObj]
def RdV(P:Program)(H:ay)(sz:Nat)(s:SV)(m:Nat)(vs:List Value):Prop:=aL H sz s=some (m,vs.map .sc)
theorem sA{ro:Bool}{us:List Value}(hb:H.at' b=some (dat ro ne sz t vs))(hn:eo+n≤ne)(hu:(vs.drop (eo*sz)).take (n*sz)=us)(hl:us.length=n*sz):RdV P H sz (.slu b eo n) n us:=by
 unfold RdV
 simp only [aL,hb,dat,Nat.beq_refl,Bool.true_and]
 rw [show Nat.ble (eo+n) ne=true from Es hn]
 have:=dH (ro:=ro) (ne:=ne) (sz:=sz) (t:=t) (vs:=vs) (n*sz) (eo*sz) hu hl (by rw [← Nat.add_mul];exact Nat.mul_le_mul_right _ hn)
 unfold dat at this
 simp only [cond_true,this,EK]
def rZ(vs:List Value):Prop:= ∀ v∈vs,v.oneCell'=true
theorem iS(h:rZ vs):cr (vs.map .sc)=true:=by
 induction vs with
 | nil=>rfl
 | cons v vs ih=>
   simp only [EG,cr,ED]
   refine⟨?_,ih fun u hu=>h u (EY _ hu)⟩
   have:=h v (EX ..)
   cases v <;> first|rfl|(simp [Value.oneCell'] at this)
theorem lG(hb:(P.info? t).map (·.bytes)=some b)(h1:n*b≤140737488355328)(h2:n≤1000000000):fW P t n=true:=by
 unfold fW
 cases hi:P.info? t with
 | none=>rw [hi] at hb;cases hb
 | some i=>
   rw [hi] at hb
   simp only [EK,Ej] at hb
   simp only [hb,ED]
   exact⟨Es h1,Es h2⟩
theorem xm{tx:TypeId}{m r:Nat}{s:Operand}{v:SV}{us ws:List Value}(hu:P.underlying t=some (.slice el))(hk:(∃ e',P.underlying tx=some (.slice e'))∨P.underlying tx=some .string)(hs:bx P el=some sz)(h0:0<sz)
 (hz:fm P el sz=true) (hb:(P.info? el).map (·.bytes)=some b) (hx0:aq T s=some (.slu r eo n)) (hx:aq T x=some v) (hro:H.at' r=some (dat false (eo+n) sz el us)) (hr0:(us.drop (eo*sz)).take (n*sz)=ws) (hl0:ws.length=n*sz) (hr:RdV P H sz v m vs) (h1:rZ vs)
 (hm:0<m) (hm1:(n+m)*b≤140737488355328) (hm2:n+m≤1000000000) :
 OpDoes P T H nx ⟨d,.call {callee:= .builtin .append,args:= #[s,x],argTypes:= #[t,tx]},ty,pos,af,gd⟩ (.val (.slu nx 0 (n+m)),(H.del r).set nx (dat false (n+m) sz el (ws ++ vs)),nx+1):=by
 have hap:dz P H nx el (.slu r eo n) v=some (.val (.slu nx 0 (n+m)),(H.del r).set nx (.row false (n+m) sz el (fS (ws.map .sc ++ vs.map .sc))),nx+1):=by
  unfold dz
  rw [hs]
  cases sz with
  | zero=>omega
  | succ sz=>
    simp only
    rw [show aL H (sz+1) v=some (m,vs.map .sc)from hr]
    have hold:aL H (sz+1) (.slu r eo n)=some (n,ws.map .sc):=sA (P:=P) hro (EE _) hr0 hl0
    simp only [iS h1,Bool.not_true,cond_false,hold]
    rw [hro]
    simp only [dat,Nat.beq_refl,lG hb hm1 hm2,hz,Bool.not_false,Bool.and_self,cond_true]
    rw [show Nat.beq m 0=false from by cases hq:Nat.beq m 0 with|false=>rfl|true=>have:=E5 hq;omega]
    rfl
 rw [← EJ,bZ] at hap
 refine jt ?_
 rcases hk with ⟨e',hk⟩|hk <;> simp only [fT,cY,hx0,hx,EL,e8,gi,hu,hk,hap]
def yT(T:Tr SV)(dflt:Nat)(x:Option Operand)(n:Nat):Prop:=natOr T dflt x=some n
theorem pp{lo hi:Option Operand}{l h:Nat}{ro:Bool}{rt:TypeId}{c:Tr SV}(hu:P.underlying t=some (.slice el))(hs:bx P el=some sz)(hx:aq T x=some (.slu b eo n))(hb:H.at' b=some (.row ro ne sz rt c))
 (hl:yT T 0 lo l) (hh:yT T n hi h) (h1:l≤h) (h2:eo+h≤ne) (h3:eo+l<ne):ReadDoes P T H ⟨d,.slice t x lo hi none,ty,pos,af,gd⟩ (.slu b (eo+l) (h-l)):=by
 refine ej ?_
 unfold yT at hl hh
 simp only [cJ,hx,EL,lL,hu,hb,hs,hl,hh,Nat.beq_refl,Bool.true_and]
 rw [show Nat.ble l h=true from Es h1,show Nat.ble (eo+h) ne=true from Es h2,show Nat.blt (eo+l) ne=true from Es h3]
 rfl
theorem iy{ne sz:Nat}{t:TypeId}: ∀ (vs l:List Value) (o:Nat),o+vs.length≤ne*sz→o+vs.length≤l.length→rZ vs→(dat false ne sz t l).setCells o (vs.map .sc)=some (dat false ne sz t (l.take o ++ vs ++ l.drop (o+vs.length)))
 | [],l,o,_,_,_=>by simp [VO.setCells]
 | v :: vs,l,o,h,hl,h1=>by
   simp only [EH] at h hl
   have hset:(dat false ne sz t l).setCell o (.sc v)=some (dat false ne sz t (l.set o v)):=by
    simp only [dat,VO.setCell]
    have hone:(SV.sc v).one=true:=by
     have:=iS (vs:= [v]) (fun u hu=>h1 u (by simp at hu;subst hu;exact EX ..))
     simpa [cr] using this
    rw [show Nat.blt o (ne*sz)=true from Es (by omega),hone]
    simp only [Bool.and_self,cond_true,Ej]
    congr 1
    funext i
    simp only [Tr.set]
    rw [List.getElem?_set]
    by_cases hi:o=i
    ·subst hi
     rw [EQ rfl,EQ (by omega),Nat.beq_refl]
     rfl
    ·rw [EP hi,show Nat.beq i o=false from by cases hb:Nat.beq i o with|false=>rfl|true=>exact absurd (E5 hb).symm hi]
     rfl
   simp only [EG,VO.setCells,hset]
   rw [iy vs (l.set o v) (o+1) (by omega) (by rw [List.length_set];omega) (fun u hu=>h1 u (EY _ hu))]
   simp only [Ej]
   congr 1
   have e1:(l.set o v).take (o+1)=l.take o ++ [v]:=by
    rw [List.take_set,List.set_eq_take_append_cons_drop,EQ (by rw [ET];omega),List.take_take,Nat.min_eq_left (by omega),List.drop_eq_nil_of_le (by rw [ET];omega)]
   have e2:(l.set o v).drop (o+1+vs.length)=l.drop (o+(vs.length+1)):=by
    rw [List.drop_set_of_lt (by omega)]
    congr 1
    omega
   rw [e1,e2]
   simp
theorem qL{rt:TypeId}{a:Operand}{o:Nat}{l:List Value}{v:SV}(hs:bx P t=some n)(ha:aq T a=some (.ptr b o))(hx:aq T x=some v)(hv:v.cells=vs.map .sc)(hb:H.at' b=some (dat false ne sz rt l))(hn:vs.length=n)(ho:o+n≤ne*sz)(hl:o+n≤l.length)
 (h1:rZ vs):OpDoes P T H nx ⟨d,.store t a x,ty,pos,af,gd⟩ (.skip,H.set b (dat false ne sz rt (l.take o ++ vs ++ l.drop (o+n))),nx):=by
 refine jt ?_
 subst hn
 unfold fT
 simp only [ha,hx,hv,qu,hs,EU,Nat.beq_refl,cond_true,eS,hb,iy vs l o ho hl h1]
end
end
section
variable {sz:Nat}{A:Type}{f:A→List Value}
theorem ge{A:Type}{f:A→List Value}{sz:Nat}(hf: ∀ a,(f a).length=sz): ∀ xs:List A,(xs.flatMap f).length=xs.length*sz
 | []=>by simp
 | x :: xs=>by rw [List.flatMap_cons,EI,hf,ge hf xs,EH,Nat.add_mul];omega
theorem np{A:Type}{f:A→List Value}{sz:Nat}(hf: ∀ a,(f a).length=sz): ∀ (xs:List A) (i:Nat),(xs.flatMap f).drop (i*sz)=(xs.drop i).flatMap f
 | xs,0=>by simp
 | [],i+1=>by simp
 | x :: xs,i+1=>by
   rw [List.flatMap_cons,List.drop_succ_cons,←np hf xs i,show(i+1)*sz=(f x).length+i*sz by rw [hf,Nat.add_mul];omega,List.drop_length_add_append]
theorem iJ{A:Type}{f:A→List Value}{sz:Nat}(hf: ∀ a,(f a).length=sz): ∀ (xs:List A) (i:Nat),(xs.flatMap f).take (i*sz)=(xs.take i).flatMap f
 | xs,0=>by simp
 | [],i+1=>by simp
 | x :: xs,i+1=>by
   rw [List.flatMap_cons,List.take_succ_cons,List.flatMap_cons,←iJ hf xs i,show(i+1)*sz=(f x).length+i*sz by rw [hf,Nat.add_mul];omega,List.take_length_add_append]
theorem uk(hf: ∀ a,(f a).length=sz){xs:List A}{i:Nat}{a:A}(h:xs[i]? =some a):((xs.flatMap f).drop (i*sz)).take sz=f a:=by
 rw [np hf]
 obtain⟨hi,rfl⟩:=Eo.1 h
 rw [List.drop_eq_getElem_cons hi,List.flatMap_cons,List.take_append_of_le_length (by rw [hf];exact EE _),Ew (by rw [hf];exact EE _)]
theorem Ad(hf: ∀ a,(f a).length=sz){xs:List A}{i:Nat}(hi:i<xs.length)(a:A):(xs.flatMap f).take (i*sz) ++ f a ++ (xs.flatMap f).drop (i*sz+sz)=(xs.set i a).flatMap f:=by
 rw [List.set_eq_take_append_cons_drop,EQ hi,List.flatMap_append,List.flatMap_cons,iJ hf,show i*sz+sz=(i+1)*sz by rw [Nat.add_mul];omega,np hf,E0]
end
structure RecOf {A:Type} (f:A→List Value) (sz:Nat):Prop where
 len: ∀ a,(f a).length=sz
 one: ∀ a,rZ (f a)
theorem AP{A:Type}{g:A→Value}(hg: ∀ a,(g a).oneCell'=true):RecOf (fun a=> [g a]) 1:=⟨fun _=>rfl,fun a v hv=>by simp only [EV] at hv;subst hv;exact hg a⟩
abbrev arr{A:Type}(ro:Bool)(ne sz:Nat)(t:TypeId)(f:A→List Value)(d:Array A):VO:=dat ro ne sz t (d.toList.flatMap f)
section
variable {P:Program} {T:Tr SV} {H:ay} {nx:Nat} {d0:Option Tmp} {ty:TypeId} {pos:String} {af:Array Edge} {gd:Option (Nat×Bool)}
section
variable {b i ne sz:Nat}{A:Type}{rt t:TypeId}{d:Array A}{x:Operand}
theorem aA{e:TypeId}{y:Operand}{n:Nat}{k:IntKind}{j:Int}{ro:Bool}{c:Tr SV}(hu:P.underlying t=some (.slice e))(hs:bx P e=some sz)(hx:aq T x=some (.slu b 0 n))(hy:aq T y=some (.sc (.int k j)))
 (hb:H.at' b=some (.row ro ne sz rt c)) (hj:j=(i:Int)) (hi:i<n) (hne:n≤ne):ReadDoes P T H ⟨d0,.indexAddr t x y,ty,pos,af,gd⟩ (.ptr b (i*sz)):=by
 subst hj
 have:=f9 (d:=d0) (ty:=ty) (pos:=pos) (af:=af) (gd:=gd) hu hs hx hy hb (by omega) (by omega) (by omega)
 simpa using this
theorem CJ [Inhabited A](hi:i<d.size):d.toList[i]? =some d[i]! :=by
 rw [Array.getElem?_toList,Ex hi,getElem!_pos d i hi]
theorem tg{A:Type}{d:Array A}(hi:i<d.size)(hne:d.size≤ne):i*sz+sz≤ne*sz:=by
 have:(i+1)*sz≤ne*sz:=Nat.mul_le_mul_right _ (by omega)
 rw [Nat.add_mul] at this
 omega
theorem Dy [Inhabited A]{f:A→List Value}{ro:Bool}(ha:bY P t=some (some sz))(hx:aq T x=some (.ptr b (i*sz)))(hf:RecOf f sz)(hb:H.at' b=some (arr ro ne sz rt f d))(hi:i<d.size)(hne:d.size≤ne) :
 ReadDoes P T H ⟨d0,.load t x,ty,pos,af,gd⟩ (.agg ((f d[i]!).map .sc)):=
 bn ha hx hb (dH sz (i*sz) (uk hf.len (CJ hi)) (hf.len _) (tg hi hne))
theorem bX{f:A→List Value}{a:Operand}{v:A}{u:SV}(hs:bx P t=some sz)(ha:aq T a=some (.ptr b (i*sz)))(hx:aq T x=some u)(hu:u.cells=(f v).map .sc)(hf:RecOf f sz)(hb:H.at' b=some (arr false ne sz rt f d))(hi:i<d.size)(hne:d.size≤ne) :
 OpDoes P T H nx ⟨d0,.store t a x,ty,pos,af,gd⟩ (.skip,H.set b (arr false ne sz rt f (d.setIfInBounds i v)),nx):=by
 have hsz:d.toList.length=d.size:=rfl
 have h:=qL (d:=d0) (ty:=ty) (pos:=pos) (af:=af) (gd:=gd) (nx:=nx) hs ha hx hu hb (hf.len v) (tg hi hne) (by rw [ge hf.len];exact tg hi (EE _)) (hf.one v)
 have e:=Ad hf.len (xs:=d.toList) (i:=i) (by rw [hsz];exact hi) v
 rw [e] at h
 unfold arr
 rw [Array.toList_setIfInBounds]
 exact h
end
end
structure DrawK (P:Program) (nt:Nat) (ops:Array Oper) (i:Nat) (l:List Oper) (s:DS) (K:DS→Prop):Prop where
 ex: ∃ s',DrawRun P (wpr P) nt ops i l s s'∧K s'
def AllH(Q:List (ay×Nat))(p:ay→Prop):Prop:=match Q with
 | []=>True
 | q :: l=>p q.1∧AllH l p
theorem AllH.get{p:ay→Prop}: ∀ {Q:List (ay×Nat)},AllH Q p→ ∀ {i:Nat} {H:ay} {n:Nat},Q[i]? =some (H,n)→p H
 | [],_,i,H,n,h=>by simp at h
 | q :: l,hh,i,H,n,h=>by
   cases i with
   | zero=>simp only [EC,Ej] at h;subst h;exact hh.1
   | succ i=>exact AllH.get hh.2 (by simpa using h)
theorem AllH.all{p:ay→Prop}(h: ∀ H,p H): ∀ (Q:List (ay×Nat)),AllH Q p
 | []=>trivial
 | q :: l=>⟨h q.1,AllH.all h l⟩
theorem nw{r:Rec}{b:Bool}(h:r.chain=true):(r.chain || !r.wanted || b)=true:=by rw [h];rfl
theorem uy{r:Rec}{b:Bool}(h:r.wanted=false):(r.chain || !r.wanted || b)=true:=by rw [h];simp
def FlOk(P:Program)(ancs chain:List Nat)(Q:List (ay×Nat)):List Rec→Prop
 | []=>True
 | r :: l=>((r.chain || !r.wanted || (Nat.beq (gW (ancs.getD r.i 0) chain) r.stg && Nat.beq (dj ancs r.i chain) r.stg))=true∨AllH Q (fun H=>ReadDoes P r.T H r.o r.val))∧FlOk P ancs chain Q l
theorem FlOk.ok{P:Program}{ancs chain:List Nat}{Q:List (ay×Nat)}: ∀ {l:List Rec},FlOk P ancs chain Q l→ ∀ r∈l,r.chain=false→r.wanted=true→ ∀ st,gW (ancs.getD r.i 0) chain≤st→st≤dj ancs r.i chain→st≠r.stg→ ∀ H n,Q.reverse[st]? =some (H,n)→ReadDoes P r.T H r.o r.val
 | [],_,r,hm,_,_,_,_,_,_,_,_,_=>by cases hm
 | r0 :: l,hh,r,hm,hc,hw,st,h1,h2,h3,H,n,hq=>by
   rcases E4.1 hm with rfl|hm
   ·rcases hh.1 with h|h
    ·rw [hc,hw] at h
     simp only [Bool.not_true,Bool.or_false,Bool.false_or,ED] at h
     have q1:=bc h.1
     have q2:=bc h.2
     omega
    ·have hlt:=(Eo.1 hq).1
     rw [List.getElem?_reverse (by simpa using hlt)] at hq
     exact h.get hq
   ·exact FlOk.ok hh.2 r hm hc hw st h1 h2 h3 H n hq
theorem nD{v:Value}(h:v.oneCell'=true):(SV.sc v).cells= [.sc v]:=by
 cases v <;> first|rfl|(simp [Value.oneCell'] at h)
theorem xn{v:Value}(h:v.oneCell'=true):(SV.sc v).one=true:=by
 cases v <;> first|rfl|(simp [Value.oneCell'] at h)
section
variable {P:Program} {T:Tr SV} {H:ay} {nx:Nat} {d:Option Tmp} {ty:TypeId} {pos:String} {af:Array Edge} {gd:Option (Nat×Bool)}
theorem BZ{t el:TypeId}{x0 x1 x2:Operand}{v0 v1 v2 z:Value}(hu:P.underlying t=some (.slice el))(hs:bx P el=some 1)(hz:dJ P el=some z)(h0:aq T x0=some (.sc v0))(h1:aq T x1=some (.sc v1))(h2:aq T x2=some (.sc v2))(o0:v0.oneCell'=true)(o1:v1.oneCell'=true)(o2:v2.oneCell'=true) :
 OpDoes P T H nx ⟨d,.buildSlice t 3 #[(0,x0),(1,x1),(2,x2)],ty,pos,af,gd⟩ (.val (.slu nx 0 3),H.set nx (dat false 3 1 el [v0,v1,v2]),nx+1):=by
 rw [← bZ]
 refine aU (parts:= [(0,x0),(1,x1),(2,x2)]) (ps:= [(0,.sc v0),(1,.sc v1),(2,.sc v2)]) hu hs (by decide) hz (by simp [l7,h0,h1,h2]) ?_ (by simp [cr,xn o0,xn o1,xn o2]) rfl rfl
 simp [hY,nD o0,nD o1,nD o2,List.range_succ]
 rfl
end
section
variable {P:Program} {ro:Option Nat} {fn nt nx:Nat} {T:Tr SV} {k:List AIt} {dfs:List ADf} {H:ay} {Q:Pst} {ops:Array Oper} {i:Nat} {l:List Oper} {d:Option Tmp} {ty:TypeId} {pos:String} {af:Array Edge} {gd:Option (Nat×Bool)}
theorem aS{id:Nat}{ops:List Oper}(hm:P.follows .mixedOrders=true)(hr:fw nt ops=true)
 (h:DrawK P nt ops.toArray 0 ops ⟨T,H,nx,[],[(H,nx)],0⟩ (fun s=>iP (dO [] ops) (dN s)=true∧FlOk P (dO [] ops) (dN s) s.Hs s.recs∧Wp P ro ⟨fn,nt,s.T,k,dfs,s.H,s.nx⟩ Q)) :
 Wp P ro ⟨fn,nt,T,.code (.region id ops.toArray true) :: k,dfs,H,nx⟩ Q:=by
 obtain⟨s,hs,h1,h2,h3⟩:=h.ex
 exact .step ⟨hm,s,⟨hr,hs,h1,fun r hr a b st c d e H n f=> .inl (FlOk.ok h2 r hr a b st c d e H n f)⟩,h3⟩
section
variable {K:DS→Prop} {rs:List Rec} {Hs:List (ay×Nat)} {stg:Nat} {dd:Nat} {op:Op}
section
variable {H':ay}{v:SV}{nx':Nat}
theorem au{s:DS}(h:K s):DrawK P nt ops i [] s K:=⟨⟨s,.nil _ _,h⟩⟩
theorem bA(hw:aE (aT T (aV ops.toList ⟨some dd,op,ty,pos,af,gd⟩)) ops ⟨some dd,op,ty,pos,af,gd⟩=some false)(hd:Nat.blt dd nt=true)
 (h:DrawK P nt ops (i+1) l ⟨T.set dd ef,H,nx,⟨i,⟨some dd,op,ty,pos,af,gd⟩,aT T (aV ops.toList ⟨some dd,op,ty,pos,af,gd⟩),stg,false,false,ef⟩ :: rs,Hs,stg⟩ K) :
 DrawK P nt ops i (⟨some dd,op,ty,pos,af,gd⟩ :: l) ⟨T,H,nx,rs,Hs,stg⟩ K:=by
 obtain⟨s',h1,h2⟩:=h.ex
 refine⟨⟨s',.cons (.inl ⟨hw,?_⟩) h1,h2⟩⟩
 simp only [aI hd]
theorem cd(hw:aE (aT T (aV ops.toList ⟨some dd,op,ty,pos,af,gd⟩)) ops ⟨some dd,op,ty,pos,af,gd⟩=some true)(hd:Nat.blt dd nt=true)(hnd: ∀ c,op ≠ .defer c)
 (hr:ReadDoes P (aT T (aV ops.toList ⟨some dd,op,ty,pos,af,gd⟩)) H ⟨some dd,op,ty,pos,af,gd⟩ v)
 (h:DrawK P nt ops (i+1) l ⟨T.set dd v,H,nx,⟨i,⟨some dd,op,ty,pos,af,gd⟩,aT T (aV ops.toList ⟨some dd,op,ty,pos,af,gd⟩),stg,false,true,v⟩ :: rs,Hs,stg⟩ K) :
 DrawK P nt ops i (⟨some dd,op,ty,pos,af,gd⟩ :: l) ⟨T,H,nx,rs,Hs,stg⟩ K:=by
 obtain⟨s',h1,h2⟩:=h.ex
 refine⟨⟨s',.cons (.inr (.inl ⟨hw,hnd,v,.inl hr,?_⟩)) h1,h2⟩⟩
 simp only [aI hd]
theorem oH(hw:aE (aT T (aV ops.toList ⟨some dd,op,ty,pos,af,gd⟩)) ops ⟨some dd,op,ty,pos,af,gd⟩=some true)(hd:Nat.blt dd nt=true)(hnd: ∀ c,op ≠ .defer c)
 (hr:OpDoes P (aT T (aV ops.toList ⟨some dd,op,ty,pos,af,gd⟩)) H nx ⟨some dd,op,ty,pos,af,gd⟩ (.val v,H',nx'))
 (h:DrawK P nt ops (i+1) l ⟨T.set dd v,H',nx',⟨i,⟨some dd,op,ty,pos,af,gd⟩,aT T (aV ops.toList ⟨some dd,op,ty,pos,af,gd⟩),stg,true,true,v⟩ :: rs,(H',nx') :: Hs,stg+1⟩ K) :
 DrawK P nt ops i (⟨some dd,op,ty,pos,af,gd⟩ :: l) ⟨T,H,nx,rs,Hs,stg⟩ K:=by
 obtain⟨s',h1,h2⟩:=h.ex
 refine⟨⟨s',.cons (.inr (.inr ⟨hw,v,H',nx',⟨_,hr,hnd,rfl⟩,?_⟩)) h1,h2⟩⟩
 simp only [aI hd]
theorem sX(hw:aE (aT T (aV ops.toList ⟨none,op,ty,pos,af,gd⟩)) ops ⟨none,op,ty,pos,af,gd⟩=some true)(hnd: ∀ c,op ≠ .defer c)
 (hr:OpDoes P (aT T (aV ops.toList ⟨none,op,ty,pos,af,gd⟩)) H nx ⟨none,op,ty,pos,af,gd⟩ (.skip,H',nx'))
 (h:DrawK P nt ops (i+1) l ⟨T,H',nx',⟨i,⟨none,op,ty,pos,af,gd⟩,aT T (aV ops.toList ⟨none,op,ty,pos,af,gd⟩),stg,true,true,ef⟩ :: rs,(H',nx') :: Hs,stg+1⟩ K) :
 DrawK P nt ops i (⟨none,op,ty,pos,af,gd⟩ :: l) ⟨T,H,nx,rs,Hs,stg⟩ K:=by
 obtain⟨s',h1,h2⟩:=h.ex
 exact⟨⟨s',.cons (.inr (.inr ⟨hw,ef,H',nx',⟨_,hr,hnd,rfl⟩,rfl⟩)) h1,h2⟩⟩
theorem ba(hr:ReadDoes P (aT T (aV ops.toList ⟨some dd,op,ty,pos,af,gd⟩)) H ⟨some dd,op,ty,pos,af,gd⟩ v)(hw:aE (aT T (aV ops.toList ⟨some dd,op,ty,pos,af,gd⟩)) ops ⟨some dd,op,ty,pos,af,gd⟩=some true)(hd:Nat.blt dd nt=true)(hn:ndf op=true)
 (h:DrawK P nt ops (i+1) l ⟨T.set dd v,H,nx,⟨i,⟨some dd,op,ty,pos,af,gd⟩,aT T (aV ops.toList ⟨some dd,op,ty,pos,af,gd⟩),stg,false,true,v⟩ :: rs,Hs,stg⟩ K):DrawK P nt ops i (⟨some dd,op,ty,pos,af,gd⟩ :: l) ⟨T,H,nx,rs,Hs,stg⟩ K:=cd hw hd (ou hn) hr h
theorem vI(hr:OpDoes P (aT T (aV ops.toList ⟨some dd,op,ty,pos,af,gd⟩)) H nx ⟨some dd,op,ty,pos,af,gd⟩ (.val v,H',nx'))(hw:aE (aT T (aV ops.toList ⟨some dd,op,ty,pos,af,gd⟩)) ops ⟨some dd,op,ty,pos,af,gd⟩=some true)(hd:Nat.blt dd nt=true)(hn:ndf op=true)
 (h:DrawK P nt ops (i+1) l ⟨T.set dd v,H',nx',⟨i,⟨some dd,op,ty,pos,af,gd⟩,aT T (aV ops.toList ⟨some dd,op,ty,pos,af,gd⟩),stg,true,true,v⟩ :: rs,(H',nx') :: Hs,stg+1⟩ K):DrawK P nt ops i (⟨some dd,op,ty,pos,af,gd⟩ :: l) ⟨T,H,nx,rs,Hs,stg⟩ K:=oH hw hd (ou hn) hr h
theorem c8(hr:OpDoes P (aT T (aV ops.toList ⟨none,op,ty,pos,af,gd⟩)) H nx ⟨none,op,ty,pos,af,gd⟩ (.skip,H',nx'))(hw:aE (aT T (aV ops.toList ⟨none,op,ty,pos,af,gd⟩)) ops ⟨none,op,ty,pos,af,gd⟩=some true)(hn:ndf op=true)
 (h:DrawK P nt ops (i+1) l ⟨T,H',nx',⟨i,⟨none,op,ty,pos,af,gd⟩,aT T (aV ops.toList ⟨none,op,ty,pos,af,gd⟩),stg,true,true,ef⟩ :: rs,(H',nx') :: Hs,stg+1⟩ K):DrawK P nt ops i (⟨none,op,ty,pos,af,gd⟩ :: l) ⟨T,H,nx,rs,Hs,stg⟩ K:=sX hw (ou hn) hr h
theorem sH{g:FuncId}{as1:List Operand}{ats:Array TypeId}{args:List SV}(ha:cY T as1=some args)(hm:bB P g=true):OpDoes P T H nx ⟨d,.call {callee:= .value (.func g),args:=as1.toArray,argTypes:=ats},ty,pos,af,gd⟩ (.enter g args,H,nx):=by
 refine jt ?_
 have hc:bE P T {callee:= .value (.func g),args:=as1.toArray,argTypes:=ats}=some (.enter g args):=by
  simp only [bE,ha,aq,c7,hm,cond_true,List.map_nil,List.nil_append,E3]
 unfold fT
 simp only [hc,EK]
theorem eX{g:FuncId}{as1:List Operand}{ats:Array TypeId}{args:List SV}(hw:aE (aT T (aV ops.toList ⟨some dd,.call {callee:= .value (.func g),args:=as1.toArray,argTypes:=ats},ty,pos,af,gd⟩)) ops ⟨some dd,.call {callee:= .value (.func g),args:=as1.toArray,argTypes:=ats},ty,pos,af,gd⟩=some true)(hd:Nat.blt dd nt=true)
 (ha:cY (aT T (aV ops.toList ⟨some dd,.call {callee:= .value (.func g),args:=as1.toArray,argTypes:=ats},ty,pos,af,gd⟩)) as1=some args) (hm:bB P g=true)
 (hr:Fnc P g args H nx (fun r=>r=(v,H',nx')))
 (h:DrawK P nt ops (i+1) l ⟨T.set dd v,H',nx',⟨i,⟨some dd,.call {callee:= .value (.func g),args:=as1.toArray,argTypes:=ats},ty,pos,af,gd⟩,aT T (aV ops.toList ⟨some dd,.call {callee:= .value (.func g),args:=as1.toArray,argTypes:=ats},ty,pos,af,gd⟩),stg,true,true,v⟩ :: rs,(H',nx') :: Hs,stg+1⟩ K) :
 DrawK P nt ops i (⟨some dd,.call {callee:= .value (.func g),args:=as1.toArray,argTypes:=ats},ty,pos,af,gd⟩ :: l) ⟨T,H,nx,rs,Hs,stg⟩ K:=by
 obtain⟨s',h1,h2⟩:=h.ex
 refine⟨⟨s',.cons (.inr (.inr ⟨hw,v,H',nx',⟨_,sH ha hm,(fun c hc=>(by cases hc)),hr⟩,?_⟩)) h1,h2⟩⟩
 simp only [aI hd]
end
end
def yM(vo:VO):Prop:= ∀ ρ,vo.ren ρ=vo
theorem aG{ro:Bool}{ne sz:Nat}{t:TypeId}{vs:List Value}:yM (dat ro ne sz t vs):=fun ρ=>dq ρ _ _ _ _ _
theorem bD{t:TypeId}{l:List SV}(h: ∀ ρ,SV.gI ρ l=l):yM (an t l):=fun ρ=>by rw [po,h]
def kX:List (Option VO)→Prop
 | []=>True
 | none :: l=>kX l
 | some vo :: l=>yM vo∧kX l
def wrL:List Nat→ay→List (Option VO)→ay
 | b :: L,H,some vo :: l=>wrL L (H.set b vo) l
 | b :: L,H,none :: l=>wrL L (H.del b) l
 | _,H,_=>H
theorem sd{L0:List Nat}{nx:Nat}: ∀ (L:List Nat) (l:List (Option VO)) (i:Nat) (H:ay),(∀ j,j<L.length→ext L0 nx (i+j)=L.getD j 0)→l.length=L.length→kX l→wrO (ext L0 nx) H i (l.map (Option.map (VO.ren (ext L0 nx))))=wrL L H l
 | [],[],i,H,_,_,_=>rfl
 | [],_ :: _,i,H,_,h,_=>by simp at h
 | _ :: _,[],i,H,_,h,_=>by simp at h
 | b :: L,o :: l,i,H,he,hl,hc=>by
   have e0:ext L0 nx i=b:=by simpa using he 0 (by simp)
   have et: ∀ j,j<L.length→ext L0 nx (i+1+j)=L.getD j 0:=fun j hj=>by
    have:=he (j+1) (by simpa using hj)
    rw [show i+1+j=i+(j+1) by omega,this]
    simp
   cases o with
   | none=>simp only [EG,Option.map_none,wrO,wrL,e0];exact sd L l (i+1) _ et (by simpa using hl) hc
   | some vo=>simp only [EG,EK,wrO,wrL,e0,hc.1 (ext L0 nx)];exact sd L l (i+1) _ et (by simpa using hl) hc.2
section
variable {P:Program}
theorem Ctr.bF{f:FuncId}{args0 args:List SV}{pre:List VO}{c:Cz}(h:Ctr P f args0 pre (fun c'=>c'=c))(L:List Nat){H H':ay}{nx:Nat}{Q:Pst}(hlen:L.length=pre.length)(hL:ExtOk L nx)(ha:args=args0.map (SV.ren (ext L nx)))
 (hp:HasO (ext L nx) H 0 (pre.map some)) (hol:c.objs.length=L.length) (hc:kX c.objs) (hv: ∀ ρ,c.v.ren ρ=c.v) (hH:wrL L H c.objs=H') (hQ:Q (c.v,H',nx)):Fnc P f args H nx Q:=by
 refine h.callM L hlen hL ha hp (hv _) ((sd L c.objs 0 H (fun j hj=>by rw [ER];exact uq hj) hol hc).trans hH) ?_ hQ
 omega
end
section
variable {P:Program} {ro:Option Nat} {fn nt nx:Nat} {T:Tr SV} {k:List AIt} {dfs:List ADf} {H:ay} {Q:Pst} {ops:Array Oper} {i:Nat} {l:List Oper} {ty:TypeId} {pos:String} {af:Array Edge} {gd:Option (Nat×Bool)}
theorem aQ{g:FuncId}{as1:List Operand}{ats:Array TypeId}{args:List SV}{v:SV}{H':ay}{dd:Nat}(hw:aE T ops ⟨some dd,.call {callee:= .value (.func g),args:=as1.toArray,argTypes:=ats},ty,pos,af,gd⟩=some true)(hd:Nat.blt dd nt=true)(ha:cY T as1=some args)(hm:bB P g=true)
 (hr:Fnc P g args H nx (fun r=>r=(v,H',nx)))
 (h:Wp P ro ⟨fn,nt,T.set dd v,.inReg ops (i+1) l :: k,dfs,H',nx⟩ Q) :
 Wp P ro ⟨fn,nt,T,.inReg ops i (⟨some dd,.call {callee:= .value (.func g),args:=as1.toArray,argTypes:=ats},ty,pos,af,gd⟩ :: l) :: k,dfs,H,nx⟩ Q:=
 aZ hw hd ha hm (hr.mono fun r hr=>by subst hr;exact h)
end
section
variable {P:Program} {nt nx:Nat} {T:Tr SV} {H:ay} {ops:Array Oper} {i:Nat} {l:List Oper} {d:Option Tmp} {ty:TypeId} {pos:String} {af:Array Edge} {gd:Option (Nat×Bool)} {K:DS→Prop} {rs:List Rec} {Hs:List (ay×Nat)} {stg:Nat}
theorem zM{x:Operand}{g:FuncId}{fa fb:List SV}{as1:List Operand}{ats:Array TypeId}{args args':List SV}(hx:aq T x=some (.fn (.func g) fa fb))(ha:cY T as1=some args)(hm:bB P g=true)(hargs:fa ++ args ++ fb=args'):OpDoes P T H nx ⟨d,.call {callee:= .value x,args:=as1.toArray,argTypes:=ats},ty,pos,af,gd⟩ (.enter g args',H,nx):=by
 subst hargs
 refine jt ?_
 have hc:bE P T {callee:= .value x,args:=as1.toArray,argTypes:=ats}=some (.enter g (fa ++ args ++ fb)):=by
  simp only [bE,ha,hx,c7,hm,cond_true]
 unfold fT
 simp only [hc,EK]
theorem bj{x:Operand}{g:FuncId}{fa fb:List SV}{as1:List Operand}{ats:Array TypeId}{args args':List SV}{v:SV}{H':ay}{nx':Nat}{dd:Nat}(hw:aE (aT T (aV ops.toList ⟨some dd,.call {callee:= .value x,args:=as1.toArray,argTypes:=ats},ty,pos,af,gd⟩)) ops ⟨some dd,.call {callee:= .value x,args:=as1.toArray,argTypes:=ats},ty,pos,af,gd⟩=some true)(hd:Nat.blt dd nt=true)
 (hx:aq (aT T (aV ops.toList ⟨some dd,.call {callee:= .value x,args:=as1.toArray,argTypes:=ats},ty,pos,af,gd⟩)) x=some (.fn (.func g) fa fb)) (ha:cY (aT T (aV ops.toList ⟨some dd,.call {callee:= .value x,args:=as1.toArray,argTypes:=ats},ty,pos,af,gd⟩)) as1=some args) (hm:bB P g=true) (hargs:fa ++ args ++ fb=args')
 (hr:Fnc P g args' H nx (fun r=>r=(v,H',nx')))
 (h:DrawK P nt ops (i+1) l ⟨T.set dd v,H',nx',⟨i,⟨some dd,.call {callee:= .value x,args:=as1.toArray,argTypes:=ats},ty,pos,af,gd⟩,aT T (aV ops.toList ⟨some dd,.call {callee:= .value x,args:=as1.toArray,argTypes:=ats},ty,pos,af,gd⟩),stg,true,true,v⟩ :: rs,(H',nx') :: Hs,stg+1⟩ K) :
 DrawK P nt ops i (⟨some dd,.call {callee:= .value x,args:=as1.toArray,argTypes:=ats},ty,pos,af,gd⟩ :: l) ⟨T,H,nx,rs,Hs,stg⟩ K:=by
 obtain⟨s',h1,h2⟩:=h.ex
 refine⟨⟨s',.cons (.inr (.inr ⟨hw,v,H',nx',⟨_,zM hx ha hm hargs,(fun c hc=>(by cases hc)),hr⟩,?_⟩)) h1,h2⟩⟩
 simp only [aI hd]
end
section
variable {b dd n ne o sz:Nat}{rr:Bool}{rt t:TypeId}{x:Operand}{vs:List Value}
theorem wm{el:TypeId}{lo hi:Option Operand}{eo lw hg:Nat}{c:Tr SV}(hw:aE T ops ⟨some dd,.slice t x lo hi none,ty,pos,af,gd⟩=some true)(hd:Nat.blt dd nt=true)(hx:aq T x=some (.slu b eo n))(hu:P.underlying t=some (.slice el))(hs:bx P el=some sz)(hb:H.at' b=some (.row rr ne sz rt c))(hl:yT T 0 lo lw)(hh:yT T n hi hg)(h1:lw≤hg)(h2:eo+hg≤ne)(h3:eo+lw<ne)
 (h:Wp P ro ⟨fn,nt,T.set dd (.slu b (eo+lw) (hg-lw)),.inReg ops (i+1) l :: k,dfs,H,nx⟩ Q):Wp P ro ⟨fn,nt,T,.inReg ops i (⟨some dd,.slice t x lo hi none,ty,pos,af,gd⟩ :: l) :: k,dfs,H,nx⟩ Q:=
 dn hw (.inr (fun _ h=>by cases h)) ((pp hu hs hx hb hl hh h1 h2 h3).does) (by rw [aI hd];exact h)
theorem gN{v:Value}(hw:aE T ops ⟨some dd,.load t x,ty,pos,af,gd⟩=some true)(hd:Nat.blt dd nt=true)(hx:aq T x=some (.ptr b o))(ha:bY P t=some none)(hb:H.at' b=some (dat rr ne sz rt vs))(hv:vs[o]? =some v)(ho:o<ne*sz)
 (h:Wp P ro ⟨fn,nt,T.set dd (.sc v),.inReg ops (i+1) l :: k,dfs,H,nx⟩ Q):Wp P ro ⟨fn,nt,T,.inReg ops i (⟨some dd,.load t x,ty,pos,af,gd⟩ :: l) :: k,dfs,H,nx⟩ Q:=
 dn hw (.inr (fun _ h=>by cases h)) ((aK ha hx hb (jo ho hv)).does) (by rw [aI hd];exact h)
theorem eu{us:List Value}(hw:aE T ops ⟨some dd,.load t x,ty,pos,af,gd⟩=some true)(hd:Nat.blt dd nt=true)(hx:aq T x=some (.ptr b o))(ha:bY P t=some (some n))(hb:H.at' b=some (dat rr ne sz rt vs))(hv:(vs.drop o).take n=us)(hn:us.length=n)(ho:o+n≤ne*sz)
 (h:Wp P ro ⟨fn,nt,T.set dd (.agg (us.map .sc)),.inReg ops (i+1) l :: k,dfs,H,nx⟩ Q):Wp P ro ⟨fn,nt,T,.inReg ops i (⟨some dd,.load t x,ty,pos,af,gd⟩ :: l) :: k,dfs,H,nx⟩ Q:=
 dn hw (.inr (fun _ h=>by cases h)) ((bn ha hx hb (dH n o hv hn ho)).does) (by rw [aI hd];exact h)
theorem ew{e:TypeId}{y:Operand}{q:Nat}{kd:IntKind}{j:Int}{c:Tr SV}(hw:aE T ops ⟨some dd,.indexAddr t x y,ty,pos,af,gd⟩=some true)(hd:Nat.blt dd nt=true)(hx:aq T x=some (.slu b 0 n))(hy:aq T y=some (.sc (.int kd j)))(hu:P.underlying t=some (.slice e))(hs:bx P e=some sz)(hb:H.at' b=some (.row rr ne sz rt c))(hj:j=(q:Int))(hi:q<n)(hne:n≤ne)
 (h:Wp P ro ⟨fn,nt,T.set dd (.ptr b (q*sz)),.inReg ops (i+1) l :: k,dfs,H,nx⟩ Q):Wp P ro ⟨fn,nt,T,.inReg ops i (⟨some dd,.indexAddr t x y,ty,pos,af,gd⟩ :: l) :: k,dfs,H,nx⟩ Q:=
 dn hw (.inr (fun _ h=>by cases h)) ((aA hu hs hx hy hb hj hi hne).does) (by rw [aI hd];exact h)
theorem tp{a:Operand}{cs cs':List Value}{v:SV}(hw:aE T ops ⟨none,.store t a x,ty,pos,af,gd⟩=some true)(ha:aq T a=some (.ptr b o))(hx:aq T x=some v)(hv:v.cells=vs.map .sc)(hs:bx P t=some n)(hb:H.at' b=some (dat false ne sz rt cs))(hn:vs.length=n)(ho:o+n≤ne*sz)(hl:o+n≤cs.length)(h1:rZ vs)(hc:cs.take o ++ vs ++ cs.drop (o+n)=cs')
 (h:Wp P ro ⟨fn,nt,T,.inReg ops (i+1) l :: k,dfs,(H.set b (dat false ne sz rt cs')),nx⟩ Q):Wp P ro ⟨fn,nt,T,.inReg ops i (⟨none,.store t a x,ty,pos,af,gd⟩ :: l) :: k,dfs,H,nx⟩ Q:=
 oc hw (.inr (fun _ h=>by cases h)) (hc ▸ qL hs ha hx hv hb hn ho hl h1) h
end
end
section
variable {P:Program} {nt nx:Nat} {T:Tr SV} {H:ay} {ops:Array Oper} {i:Nat} {l:List Oper} {ty:TypeId} {pos:String} {af:Array Edge} {gd:Option (Nat×Bool)} {K:DS→Prop} {rs:List Rec} {Hs:List (ay×Nat)} {stg:Nat}
section
variable {a:Int}{b dd n ne o sz:Nat}{rr:Bool}{bt rt t yt:TypeId}{cs:List SV}{kd:IntKind}{x y:Operand}
theorem ff(hw:aE (aT T (aV ops.toList ⟨some dd,.load t x,ty,pos,af,gd⟩)) ops ⟨some dd,.load t x,ty,pos,af,gd⟩=some true)(hd:Nat.blt dd nt=true)(hx:aq (aT T (aV ops.toList ⟨some dd,.load t x,ty,pos,af,gd⟩)) x=some (.ptr b 0))(ha:bY P t=some (some n))(hb:H.at' b=some (an bt cs))(hn:cs.length=n)
 (h:DrawK P nt ops (i+1) l ⟨T.set dd (.agg cs),H,nx,⟨i,⟨some dd,.load t x,ty,pos,af,gd⟩,(aT T (aV ops.toList ⟨some dd,.load t x,ty,pos,af,gd⟩)),stg,false,true,(.agg cs)⟩ :: rs,Hs,stg⟩ K):DrawK P nt ops i (⟨some dd,.load t x,ty,pos,af,gd⟩ :: l) ⟨T,H,nx,rs,Hs,stg⟩ K:=
 cd hw hd (fun _ h=>by cases h) (bn ha hx hb (aB n 0 (by subst hn;simp) hn)) h
theorem cm{a:Operand}{v:SV}(hw:aE (aT T (aV ops.toList ⟨none,.store t a x,ty,pos,af,gd⟩)) ops ⟨none,.store t a x,ty,pos,af,gd⟩=some true)(ha:aq (aT T (aV ops.toList ⟨none,.store t a x,ty,pos,af,gd⟩)) a=some (.ptr b o))(hx:aq (aT T (aV ops.toList ⟨none,.store t a x,ty,pos,af,gd⟩)) x=some v)(hs:bx P t=some 1)(hb:H.at' b=some (an bt cs))(h1:v.one=true)(ho:Nat.blt o cs.length=true)
 (h:DrawK P nt ops (i+1) l ⟨T,(H.set b (an bt (cs.set o v))),nx,⟨i,⟨none,.store t a x,ty,pos,af,gd⟩,(aT T (aV ops.toList ⟨none,.store t a x,ty,pos,af,gd⟩)),stg,true,true,ef⟩ :: rs,((H.set b (an bt (cs.set o v))),nx) :: Hs,stg+1⟩ K):DrawK P nt ops i (⟨none,.store t a x,ty,pos,af,gd⟩ :: l) ⟨T,H,nx,rs,Hs,stg⟩ K:=
 sX hw (fun _ h=>by cases h) (qM hs ha hx hb h1 (Ep ho)) h
theorem fU{a:Operand}{vs cs':List SV}(hw:aE (aT T (aV ops.toList ⟨none,.store t a x,ty,pos,af,gd⟩)) ops ⟨none,.store t a x,ty,pos,af,gd⟩=some true)(ha:aq (aT T (aV ops.toList ⟨none,.store t a x,ty,pos,af,gd⟩)) a=some (.ptr b o))(hx:aq (aT T (aV ops.toList ⟨none,.store t a x,ty,pos,af,gd⟩)) x=some (.agg vs))(hs:bx P t=some n)(hb:H.at' b=some (an bt cs))(hn:vs.length=n)(ho:o+n≤cs.length)(h1:cr vs=true)(hc:cs.take o ++ vs ++ cs.drop (o+n)=cs')
 (h:DrawK P nt ops (i+1) l ⟨T,(H.set b (an bt cs')),nx,⟨i,⟨none,.store t a x,ty,pos,af,gd⟩,(aT T (aV ops.toList ⟨none,.store t a x,ty,pos,af,gd⟩)),stg,true,true,ef⟩ :: rs,((H.set b (an bt cs')),nx) :: Hs,stg+1⟩ K):DrawK P nt ops i (⟨none,.store t a x,ty,pos,af,gd⟩ :: l) ⟨T,H,nx,rs,Hs,stg⟩ K:=
 sX hw (fun _ h=>by cases h) (hc ▸ gU hs ha hx rfl hb hn ho h1) h
theorem hZ{el:TypeId}{len:Nat}{parts:List (Nat×Operand)}{ps:List (Nat×SV)}{z:Value}(hw:aE (aT T (aV ops.toList ⟨some dd,.buildSlice t len parts.toArray,ty,pos,af,gd⟩)) ops ⟨some dd,.buildSlice t len parts.toArray,ty,pos,af,gd⟩=some true)(hd:Nat.blt dd nt=true)(hu:P.underlying t=some (.slice el))(hs:bx P el=some sz)(h0:Nat.blt 0 sz=true)(hz:dJ P el=some z)(hp:l7 (aT T (aV ops.toList ⟨some dd,.buildSlice t len parts.toArray,ty,pos,af,gd⟩)) parts=some ps)(hf:hY (fun i=>some (i*sz,sz)) (((List.range (len*sz)).map (z.cells[·% z.cells.size]!)).map .sc) ps=some cs)(h1:cr cs=true)(hlen:Nat.ble (len*sz) 16777216=true)(hll:cs.length=len*sz)
 (h:DrawK P nt ops (i+1) l ⟨T.set dd (.slu nx 0 len),(H.set nx (.row false len sz el (fS cs))),(nx+1),⟨i,⟨some dd,.buildSlice t len parts.toArray,ty,pos,af,gd⟩,(aT T (aV ops.toList ⟨some dd,.buildSlice t len parts.toArray,ty,pos,af,gd⟩)),stg,true,true,(.slu nx 0 len)⟩ :: rs,((H.set nx (.row false len sz el (fS cs))),(nx+1)) :: Hs,stg+1⟩ K):DrawK P nt ops i (⟨some dd,.buildSlice t len parts.toArray,ty,pos,af,gd⟩ :: l) ⟨T,H,nx,rs,Hs,stg⟩ K:=
 oH hw hd (fun _ h=>by cases h) (aU hu hs (aN h0) hz hp hf h1 hlen hll) h
theorem rB{vs:List Value}{v:Value}(hw:aE (aT T (aV ops.toList ⟨some dd,.load t x,ty,pos,af,gd⟩)) ops ⟨some dd,.load t x,ty,pos,af,gd⟩=some true)(hd:Nat.blt dd nt=true)(hx:aq (aT T (aV ops.toList ⟨some dd,.load t x,ty,pos,af,gd⟩)) x=some (.ptr b o))(ha:bY P t=some none)(hb:H.at' b=some (dat rr ne sz rt vs))(hv:vs[o]? =some v)(ho:o<ne*sz)
 (h:DrawK P nt ops (i+1) l ⟨T.set dd (.sc v),H,nx,⟨i,⟨some dd,.load t x,ty,pos,af,gd⟩,(aT T (aV ops.toList ⟨some dd,.load t x,ty,pos,af,gd⟩)),stg,false,true,(.sc v)⟩ :: rs,Hs,stg⟩ K):DrawK P nt ops i (⟨some dd,.load t x,ty,pos,af,gd⟩ :: l) ⟨T,H,nx,rs,Hs,stg⟩ K:=
 cd hw hd (fun _ h=>by cases h) (aK ha hx hb (jo ho hv)) h
theorem cv{vs us:List Value}(hw:aE (aT T (aV ops.toList ⟨some dd,.load t x,ty,pos,af,gd⟩)) ops ⟨some dd,.load t x,ty,pos,af,gd⟩=some true)(hd:Nat.blt dd nt=true)(hx:aq (aT T (aV ops.toList ⟨some dd,.load t x,ty,pos,af,gd⟩)) x=some (.ptr b o))(ha:bY P t=some (some n))(hb:H.at' b=some (dat rr ne sz rt vs))(hv:(vs.drop o).take n=us)(hn:us.length=n)(ho:o+n≤ne*sz)
 (h:DrawK P nt ops (i+1) l ⟨T.set dd (.agg (us.map .sc)),H,nx,⟨i,⟨some dd,.load t x,ty,pos,af,gd⟩,(aT T (aV ops.toList ⟨some dd,.load t x,ty,pos,af,gd⟩)),stg,false,true,(.agg (us.map .sc))⟩ :: rs,Hs,stg⟩ K):DrawK P nt ops i (⟨some dd,.load t x,ty,pos,af,gd⟩ :: l) ⟨T,H,nx,rs,Hs,stg⟩ K:=
 cd hw hd (fun _ h=>by cases h) (bn ha hx hb (dH n o hv hn ho)) h
theorem ak{e:TypeId}{q:Nat}{j:Int}{c:Tr SV}(hw:aE (aT T (aV ops.toList ⟨some dd,.indexAddr t x y,ty,pos,af,gd⟩)) ops ⟨some dd,.indexAddr t x y,ty,pos,af,gd⟩=some true)(hd:Nat.blt dd nt=true)(hx:aq (aT T (aV ops.toList ⟨some dd,.indexAddr t x y,ty,pos,af,gd⟩)) x=some (.slu b 0 n))(hy:aq (aT T (aV ops.toList ⟨some dd,.indexAddr t x y,ty,pos,af,gd⟩)) y=some (.sc (.int kd j)))(hu:P.underlying t=some (.slice e))(hs:bx P e=some sz)(hb:H.at' b=some (.row rr ne sz rt c))(hj:j=(q:Int))(hi:q<n)(hne:n≤ne)
 (h:DrawK P nt ops (i+1) l ⟨T.set dd (.ptr b (q*sz)),H,nx,⟨i,⟨some dd,.indexAddr t x y,ty,pos,af,gd⟩,(aT T (aV ops.toList ⟨some dd,.indexAddr t x y,ty,pos,af,gd⟩)),stg,false,true,(.ptr b (q*sz))⟩ :: rs,Hs,stg⟩ K):DrawK P nt ops i (⟨some dd,.indexAddr t x y,ty,pos,af,gd⟩ :: l) ⟨T,H,nx,rs,Hs,stg⟩ K:=
 cd hw hd (fun _ h=>by cases h) (aA hu hs hx hy hb hj hi hne) h
theorem aX{A:Type} [Inhabited A]{f:A→List Value}{q:Nat}{d:Array A}(hw:aE (aT T (aV ops.toList ⟨some dd,.load t x,ty,pos,af,gd⟩)) ops ⟨some dd,.load t x,ty,pos,af,gd⟩=some true)(hd:Nat.blt dd nt=true)(hx:aq (aT T (aV ops.toList ⟨some dd,.load t x,ty,pos,af,gd⟩)) x=some (.ptr b (q*sz)))(ha:bY P t=some (some sz))(hf:RecOf f sz)(hb:H.at' b=some (arr rr ne sz rt f d))(hi:q<d.size)(hne:d.size≤ne)
 (h:DrawK P nt ops (i+1) l ⟨T.set dd (.agg ((f d[q]!).map .sc)),H,nx,⟨i,⟨some dd,.load t x,ty,pos,af,gd⟩,(aT T (aV ops.toList ⟨some dd,.load t x,ty,pos,af,gd⟩)),stg,false,true,(.agg ((f d[q]!).map .sc))⟩ :: rs,Hs,stg⟩ K):DrawK P nt ops i (⟨some dd,.load t x,ty,pos,af,gd⟩ :: l) ⟨T,H,nx,rs,Hs,stg⟩ K:=
 cd hw hd (fun _ h=>by cases h) (Dy ha hx hf hb hi hne) h
theorem iL{b:Int}(hw:aE (aT T (aV ops.toList ⟨some dd,.binOp .eql t x y yt,ty,pos,af,gd⟩)) ops ⟨some dd,.binOp .eql t x y yt,ty,pos,af,gd⟩=some true)(hd:Nat.blt dd nt=true)(hx:aq (aT T (aV ops.toList ⟨some dd,.binOp .eql t x y yt,ty,pos,af,gd⟩)) x=some (.sc (.int kd a)))(hy:aq (aT T (aV ops.toList ⟨some dd,.binOp .eql t x y yt,ty,pos,af,gd⟩)) y=some (.sc (.int kd b)))
 (h1:a=b→DrawK P nt ops (i+1) l ⟨T.set dd (.sc (.bool true)),H,nx,⟨i,⟨some dd,.binOp .eql t x y yt,ty,pos,af,gd⟩,(aT T (aV ops.toList ⟨some dd,.binOp .eql t x y yt,ty,pos,af,gd⟩)),stg,false,true,(.sc (.bool true))⟩ :: rs,Hs,stg⟩ K) (h2:a≠b→DrawK P nt ops (i+1) l ⟨T.set dd (.sc (.bool false)),H,nx,⟨i,⟨some dd,.binOp .eql t x y yt,ty,pos,af,gd⟩,(aT T (aV ops.toList ⟨some dd,.binOp .eql t x y yt,ty,pos,af,gd⟩)),stg,false,true,(.sc (.bool false))⟩ :: rs,Hs,stg⟩ K):DrawK P nt ops i (⟨some dd,.binOp .eql t x y yt,ty,pos,af,gd⟩ :: l) ⟨T,H,nx,rs,Hs,stg⟩ K:=by
 refine ba (cu hx hy (.inl ⟨rfl,rfl⟩)) hw hd rfl ?_
 by_cases hc:a=b
 ·have e:(a == b)=true:=by simp;omega
  rw [e];exact h1 hc
 ·have e:(a == b)=false:=by simp;omega
  rw [e];exact h2 (by omega)
theorem bz{b:Int}(hw:aE (aT T (aV ops.toList ⟨some dd,.binOp .lss t x y yt,ty,pos,af,gd⟩)) ops ⟨some dd,.binOp .lss t x y yt,ty,pos,af,gd⟩=some true)(hd:Nat.blt dd nt=true)(hx:aq (aT T (aV ops.toList ⟨some dd,.binOp .lss t x y yt,ty,pos,af,gd⟩)) x=some (.sc (.int kd a)))(hy:aq (aT T (aV ops.toList ⟨some dd,.binOp .lss t x y yt,ty,pos,af,gd⟩)) y=some (.sc (.int kd b)))
 (h1:a<b→DrawK P nt ops (i+1) l ⟨T.set dd (.sc (.bool true)),H,nx,⟨i,⟨some dd,.binOp .lss t x y yt,ty,pos,af,gd⟩,(aT T (aV ops.toList ⟨some dd,.binOp .lss t x y yt,ty,pos,af,gd⟩)),stg,false,true,(.sc (.bool true))⟩ :: rs,Hs,stg⟩ K) (h2:b≤a→DrawK P nt ops (i+1) l ⟨T.set dd (.sc (.bool false)),H,nx,⟨i,⟨some dd,.binOp .lss t x y yt,ty,pos,af,gd⟩,(aT T (aV ops.toList ⟨some dd,.binOp .lss t x y yt,ty,pos,af,gd⟩)),stg,false,true,(.sc (.bool false))⟩ :: rs,Hs,stg⟩ K):DrawK P nt ops i (⟨some dd,.binOp .lss t x y yt,ty,pos,af,gd⟩ :: l) ⟨T,H,nx,rs,Hs,stg⟩ K:=by
 refine ba (cu hx hy (.inr (.inr (.inl ⟨rfl,rfl⟩)))) hw hd rfl ?_
 by_cases hc:a<b
 ·have e:(decide (a<b))=true:=by simp;omega
  rw [e];exact h1 hc
 ·have e:(decide (a<b))=false:=by simp;omega
  rw [e];exact h2 (by omega)
theorem fk{b:Int}(hw:aE (aT T (aV ops.toList ⟨some dd,.binOp .leq t x y yt,ty,pos,af,gd⟩)) ops ⟨some dd,.binOp .leq t x y yt,ty,pos,af,gd⟩=some true)(hd:Nat.blt dd nt=true)(hx:aq (aT T (aV ops.toList ⟨some dd,.binOp .leq t x y yt,ty,pos,af,gd⟩)) x=some (.sc (.int kd a)))(hy:aq (aT T (aV ops.toList ⟨some dd,.binOp .leq t x y yt,ty,pos,af,gd⟩)) y=some (.sc (.int kd b)))
 (h1:a≤b→DrawK P nt ops (i+1) l ⟨T.set dd (.sc (.bool true)),H,nx,⟨i,⟨some dd,.binOp .leq t x y yt,ty,pos,af,gd⟩,(aT T (aV ops.toList ⟨some dd,.binOp .leq t x y yt,ty,pos,af,gd⟩)),stg,false,true,(.sc (.bool true))⟩ :: rs,Hs,stg⟩ K) (h2:b<a→DrawK P nt ops (i+1) l ⟨T.set dd (.sc (.bool false)),H,nx,⟨i,⟨some dd,.binOp .leq t x y yt,ty,pos,af,gd⟩,(aT T (aV ops.toList ⟨some dd,.binOp .leq t x y yt,ty,pos,af,gd⟩)),stg,false,true,(.sc (.bool false))⟩ :: rs,Hs,stg⟩ K):DrawK P nt ops i (⟨some dd,.binOp .leq t x y yt,ty,pos,af,gd⟩ :: l) ⟨T,H,nx,rs,Hs,stg⟩ K:=by
 refine ba (cu hx hy (.inr (.inr (.inr (.inl ⟨rfl,rfl⟩))))) hw hd rfl ?_
 by_cases hc:a≤b
 ·have e:(decide (a≤b))=true:=by simp;omega
  rw [e];exact h1 hc
 ·have e:(decide (a≤b))=false:=by simp;omega
  rw [e];exact h2 (by omega)
theorem fV{b:Int}(hw:aE (aT T (aV ops.toList ⟨some dd,.binOp .gtr t x y yt,ty,pos,af,gd⟩)) ops ⟨some dd,.binOp .gtr t x y yt,ty,pos,af,gd⟩=some true)(hd:Nat.blt dd nt=true)(hx:aq (aT T (aV ops.toList ⟨some dd,.binOp .gtr t x y yt,ty,pos,af,gd⟩)) x=some (.sc (.int kd a)))(hy:aq (aT T (aV ops.toList ⟨some dd,.binOp .gtr t x y yt,ty,pos,af,gd⟩)) y=some (.sc (.int kd b)))
 (h1:b<a→DrawK P nt ops (i+1) l ⟨T.set dd (.sc (.bool true)),H,nx,⟨i,⟨some dd,.binOp .gtr t x y yt,ty,pos,af,gd⟩,(aT T (aV ops.toList ⟨some dd,.binOp .gtr t x y yt,ty,pos,af,gd⟩)),stg,false,true,(.sc (.bool true))⟩ :: rs,Hs,stg⟩ K) (h2:a≤b→DrawK P nt ops (i+1) l ⟨T.set dd (.sc (.bool false)),H,nx,⟨i,⟨some dd,.binOp .gtr t x y yt,ty,pos,af,gd⟩,(aT T (aV ops.toList ⟨some dd,.binOp .gtr t x y yt,ty,pos,af,gd⟩)),stg,false,true,(.sc (.bool false))⟩ :: rs,Hs,stg⟩ K):DrawK P nt ops i (⟨some dd,.binOp .gtr t x y yt,ty,pos,af,gd⟩ :: l) ⟨T,H,nx,rs,Hs,stg⟩ K:=by
 refine ba (cu hx hy (.inr (.inr (.inr (.inr (.inl ⟨rfl,rfl⟩)))))) hw hd rfl ?_
 by_cases hc:b<a
 ·have e:(decide (a>b))=true:=by simp;omega
  rw [e];exact h1 hc
 ·have e:(decide (a>b))=false:=by simp;omega
  rw [e];exact h2 (by omega)
end
end
section
variable {P:Program}
theorem cM{α β:Type}{fn nt k0 nx id:Nat}{T:Tr SV}{k:List AIt}{dfs:List ADf}{H:ay}{Q0:Cz→Prop}{b:Code}(n:Nat)(sl:α→List (Nat×SV))(ob:α→List (Option VO))(φ:α→Prop)(μ:α→Nat)(a0:α)(L0:List Nat)
 (n2:Nat) (sl2:β→List (Nat×SV)) (ob2:β→List (Option VO)) (ψ:β→Prop)
 (hn: ∀ a,(ob a).length=n) (hn2: ∀ a,(ob2 a).length=n2) (h0:φ a0) (hi:IsAt k0 L0 (sl a0) (ob a0) T H nx) (hk: ∀ ρ,k.map (AIt.ren ρ)=k) (hd: ∀ ρ,dfs.map (ADf.ren ρ)=dfs)
 (body: ∀ a,φ a→(∀ T' H' nx' a' L',φ a'→μ a'<μ a→IsAt k0 L' (sl a') (ob a') T' H' nx'→Wp P none ⟨fn,nt,T',.inLoop b :: .inBlock id :: k,dfs,H',nx'⟩ (fun r=> ∃ c,Q0 c∧Ends k0 c r)) →
   (∀ T' H' nx' a' L',ψ a'→IsAt k0 L' (sl2 a') (ob2 a') T' H' nx'→Wp P none ⟨fn,nt,T',k,dfs,H',nx'⟩ (fun r=> ∃ c,Q0 c∧Ends k0 c r)) →
   Wp P none ⟨fn,nt,slT (sl a),.code b :: .inLoop b :: .inBlock id :: k,dfs,nl (ob a),n⟩ (fun r=> ∃ c,Q0 c∧Ends k0 c r))
 (exit: ∀ a,ψ a→Wp P none ⟨fn,nt,slT (sl2 a),k,dfs,nl (ob2 a),n2⟩ (fun r=> ∃ c,Q0 c∧Ends k0 c r)) :
 Wp P none ⟨fn,nt,T,.code (.loop b) :: .inBlock id :: k,dfs,H,nx⟩ (fun r=> ∃ c,Q0 c∧Ends k0 c r):=
 cS n sl ob φ μ a0 L0 hn h0 hi (fun ρ=>by simp [AIt.ren,hk ρ]) hd fun a ha again=>body a ha again fun T' H' nx' a' L' hψ hat=>by
  refine Wp.can hat (hk _) (hd _) ?_
  rw [hn2 a']
  exact exit a' hψ
end
section
variable {P:Program}
theorem uJ{β:Type}{fn nt k0 nx:Nat}{T:Tr SV}{k:List AIt}{dfs:List ADf}{H:ay}{Q0:Cz→Prop}{c:Operand}{x y:Code}{t:Bool}(n2:Nat)(sl2:β→List (Nat×SV))(ob2:β→List (Option VO))(ψ:β→Prop)
 (hn2: ∀ a,(ob2 a).length=n2) (hc:aq T c=some (.sc (.bool t))) (hk: ∀ ρ,k.map (AIt.ren ρ)=k) (hd: ∀ ρ,dfs.map (ADf.ren ρ)=dfs)
 (arm1:t=true→(∀ T' H' nx' a' L',ψ a'→IsAt k0 L' (sl2 a') (ob2 a') T' H' nx'→Wp P none ⟨fn,nt,T',k,dfs,H',nx'⟩ (fun r=> ∃ c,Q0 c∧Ends k0 c r)) →
   Wp P none ⟨fn,nt,T,.code x :: k,dfs,H,nx⟩ (fun r=> ∃ c,Q0 c∧Ends k0 c r))
 (arm2:t=false→(∀ T' H' nx' a' L',ψ a'→IsAt k0 L' (sl2 a') (ob2 a') T' H' nx'→Wp P none ⟨fn,nt,T',k,dfs,H',nx'⟩ (fun r=> ∃ c,Q0 c∧Ends k0 c r)) →
   Wp P none ⟨fn,nt,T,.code y :: k,dfs,H,nx⟩ (fun r=> ∃ c,Q0 c∧Ends k0 c r))
 (rest: ∀ a,ψ a→Wp P none ⟨fn,nt,slT (sl2 a),k,dfs,nl (ob2 a),n2⟩ (fun r=> ∃ c,Q0 c∧Ends k0 c r)) :
 Wp P none ⟨fn,nt,T,.code (.cond c x y) :: k,dfs,H,nx⟩ (fun r=> ∃ c,Q0 c∧Ends k0 c r):=by
 have out: ∀ T' H' nx' a' L',ψ a'→IsAt k0 L' (sl2 a') (ob2 a') T' H' nx'→Wp P none ⟨fn,nt,T',k,dfs,H',nx'⟩ (fun r=> ∃ c,Q0 c∧Ends k0 c r):=fun T' H' nx' a' L' hψ hat=>by
  refine Wp.can hat (hk _) (hd _) ?_
  rw [hn2 a']
  exact rest a' hψ
 exact wj hc (fun h=>arm1 h out) (fun h=>arm2 h out)
theorem oW{β:Type}{fn nt k0 nx:Nat}{T:Tr SV}{it:AIt}{k:List AIt}{dfs:List ADf}{H:ay}{Q0:Cz→Prop}(n2:Nat)(sl2:β→List (Nat×SV))(ob2:β→List (Option VO))(ψ:β→Prop)
 (hn2: ∀ a,(ob2 a).length=n2) (hk: ∀ ρ,k.map (AIt.ren ρ)=k) (hd: ∀ ρ,dfs.map (ADf.ren ρ)=dfs)
 (body:(∀ T' H' nx' a' L',ψ a'→IsAt k0 L' (sl2 a') (ob2 a') T' H' nx'→Wp P none ⟨fn,nt,T',k,dfs,H',nx'⟩ (fun r=> ∃ c,Q0 c∧Ends k0 c r)) →
   Wp P none ⟨fn,nt,T,it :: k,dfs,H,nx⟩ (fun r=> ∃ c,Q0 c∧Ends k0 c r))
 (rest: ∀ a,ψ a→Wp P none ⟨fn,nt,slT (sl2 a),k,dfs,nl (ob2 a),n2⟩ (fun r=> ∃ c,Q0 c∧Ends k0 c r)) :
 Wp P none ⟨fn,nt,T,it :: k,dfs,H,nx⟩ (fun r=> ∃ c,Q0 c∧Ends k0 c r):=
 body fun T' H' nx' a' L' hψ hat=>by
  refine Wp.can hat (hk _) (hd _) ?_
  rw [hn2 a']
  exact rest a' hψ
end
section
variable {P:Program}
theorem ma{ro:Option Nat}{fn nt nx:Nat}{T:Tr SV}{k:List AIt}{dfs:List ADf}{H:ay}{Q:Pst}{d:Nat}(sz:Nat)(t:TypeId)(hT:T.at' d=some (.sc (.slice none 0 0)))(h0:Nat.blt 0 sz=true)
 (h:Wp P ro ⟨fn,nt,T.set d (.slu nx 0 0),k,dfs,H.set nx (dat false 0 sz t []),nx+1⟩ Q):Wp P ro ⟨fn,nt,T,k,dfs,H,nx⟩ Q:=by
 refine⟨fun K w0 e w tmps todo ds kd rof cs hS hTr htd hds hc=>?_⟩
 have hf:=hS.fresh nx (EE _)
 have hle:=Env.dA (x:=⟨0,0,0,sz,true⟩) hf
 have hT2:TRel (e.put nx ⟨0,0,0,sz,true⟩) nt (T.set d (.slu nx 0 0)) tmps:=by
  refine⟨hTr.1,fun t s hs=>?_⟩
  rcases bp hs with ⟨rfl,rfl⟩|⟨_,hs⟩
  ·obtain⟨v,g1,g2⟩:=hTr.2 _ _ hT
   simp only [SV.conc,Ej] at g1
   subst g1
   exact⟨_,by simp [SV.conc,Env.bL,Ent.at],g2⟩
  ·obtain⟨v,g1,g2⟩:=hTr.2 _ _ hs
   exact⟨v,SV.dg hle _ _ g1,g2⟩
 obtain⟨r,hr,e1,w',v,g1,g2⟩:=h.run K w0 _ w tmps todo ds kd rof cs (hS.newNil false sz t _ (aN h0)) hT2 (htd.mono hle) (hds.mono hle) (hc.mono hle)
 exact⟨r,hr,e1,w',v,Env.le_trans hle g1,g2⟩
theorem wg{ro:Option Nat}{fn nt nx:Nat}{T:Tr SV}{k:List AIt}{dfs:List ADf}{H:ay}{Q:Pst}{d:Nat}{s s':SV}(hT:T.at' d=some s)(hc: ∀ e v,s.conc e=some v→s'.conc e=some v)
 (h:Wp P ro ⟨fn,nt,T.set d s',k,dfs,H,nx⟩ Q):Wp P ro ⟨fn,nt,T,k,dfs,H,nx⟩ Q:=by
 refine⟨fun K w0 e w tmps todo ds kd rof cs hS hTr htd hds hcx=>?_⟩
 refine h.run K w0 e w tmps todo ds kd rof cs hS ⟨hTr.1,fun t u hu=>?_⟩ htd hds hcx
 rcases bp hu with ⟨rfl,rfl⟩|⟨_,hu⟩
 ·obtain⟨v,g1,g2⟩:=hTr.2 _ _ hT
  exact⟨v,hc e v g1,g2⟩
 ·exact hTr.2 _ _ hu
end
theorem kj{P:Program}{t:TypeId}{d:TypeDesc}{A:Type}(f:TypeDesc→Sem A)(h:P.underlying t=some d):aJ P (underlying t >>= f)=aJ P (f d):=by
 show aJ P ((match P.underlying t with|some d=>(pure d:Sem TypeDesc)|none=>stuck "no such type").bind f)=_
 rw [h]
 rfl
section
variable {K V:Type} [DecidableEq K]
structure KEnc (P:Program) (kt:TypeId) (enc:K→Value):Prop where
 find: ∀ (l:List (K×SV×Nat)) (k:K),lx P kt (enc k) (l.map fun x=>(enc x.1,x.2))=some (l.findIdx? fun x=>decide (x.1=k))
 check: ∀ k,aJ P (Instr.checkKey false 10000 kt (enc k))=some ()
 bits: ∀ k,Instr.sameBits 10000 (enc k) (enc k)=true
theorem ny{P:Program}{kt:TypeId}{kd:TypeDesc}{v:Value}(h:P.underlying kt=some kd)(hk:(match kd with | .interface _ | .array .. | .struct _=>false|_=>true)=true)(e:Bool)(n:Nat) :
 aJ P (Instr.checkKey e (n+1) kt v)=some ():=by
 unfold Instr.checkKey
 rw [kj _ h]
 cases kd <;> first|rfl|simp at hk
def io(m:List (K×V×Nat))(k:K):Option V:=(m.find? fun x=>decide (x.1=k)).map (·.2.1)
def nO:List (K×V×Nat)→K→V→Nat→List (K×V×Nat)
 | [],k,v,c=> [(k,v,c)]
 | x :: m,k,v,c=>if x.1=k then(k,v,x.2.2) :: m else x :: nO m k v c
def xL(m:List (K×V×Nat))(k:K)(c:Nat):Nat:=match io m k with
 | some _=>c
 | none=>c+1
def kZ:List (K×V×Nat)→K→List (K×V×Nat)
 | [],_=> []
 | x :: m,k=>if x.1=k then m else x :: kZ m k
abbrev CX(enc:K→Value)(val:V→SV)(m:List (K×V×Nat)):List (Value×SV×Nat):=m.map fun x=>(enc x.1,val x.2.1,x.2.2)
abbrev nV(enc:K→Value)(val:V→SV)(m:List (K×V×Nat))(c:Nat):VO:= .map (CX enc val m) c
structure KOk (m:List (K×V×Nat)) (c:Nat):Prop where
 keys:(m.map (·.1)).Nodup
 born:(m.map (·.2.2)).Nodup
 lt: ∀ x∈m,x.2.2<c
omit [DecidableEq K] in
theorem KOk.nil(c:Nat):KOk ([]:List (K×V×Nat)) c:=⟨by simp,by simp,by simp⟩
section
variable {m:List (K×V×Nat)}
theorem CY(m:List (K×V×Nat))(k:K):match m.findIdx? fun x=>decide (x.1=k)with
 | none=>io m k=none∧kZ m k=m∧ ∀ v c,nO m k v c=m ++ [(k,v,c)]
 | some i=> ∃ x,m[i]? =some x∧x.1=k∧io m k=some x.2.1∧kZ m k=m.eraseIdx i∧ ∀ v c,nO m k v c=m.set i (k,v,x.2.2):=by
 induction m with
 | nil=>simp [io,kZ,nO]
 | cons y m ih=>
   rw [List.findIdx?_cons]
   by_cases h:y.1=k
   ·simp [h,io,kZ,nO]
   ·simp only [h,decide_false,Bool.false_eq_true,if_false]
    cases hi:m.findIdx? fun x=>decide (x.1=k)with
    | none=>
      rw [hi] at ih
      obtain⟨h1,h2,h3⟩:=ih
      refine⟨?_,?_,fun v c=>?_⟩
      ·simpa [io,h] using h1
      ·simp [kZ,h,h2]
      ·simp [nO,h,h3]
    | some i=>
      rw [hi] at ih
      obtain⟨x,h1,h2,h3,h4,h5⟩:=ih
      refine⟨x,by simpa using h1,h2,?_,?_,fun v c=>?_⟩
      ·simpa [io,h] using h3
      ·simp [kZ,h,h4]
      ·simp [nO,h,h5]
theorem ng{k:K}:io m k=none↔k∉m.map (·.1):=by
 induction m with
 | nil=>simp [io]
 | cons y m ih=>
   by_cases h:y.1=k
   ·simp [io,h]
   ·have:io (y :: m) k=io m k:=by simp [io,h]
    rw [this,ih]
    simp [Ne.symm h]
theorem zR{k:K}{v:V}{c:Nat}{x:K}:x∈(nO m k v c).map (·.1)↔x=k∨x∈m.map (·.1):=by
 induction m with
 | nil=>simp [nO]
 | cons y m ih=>
   unfold nO
   by_cases h:y.1=k
   ·simp [h]
   ·simp only [h,if_false,EG,E4,ih]
    constructor <;> (intro h';rcases h' with h'|h'|h' <;> simp [h'])
theorem KOk.put{c:Nat}(h:KOk m c)(k:K)(v:V):KOk (nO m k v c) (xL m k c):=by
 have hk:=CY m k
 cases hi:m.findIdx? fun x=>decide (x.1=k)with
 | none=>
   rw [hi] at hk
   obtain⟨h1,_,h3⟩:=hk
   rw [h3,show xL m k c=c+1 by simp [xL,h1]]
   refine⟨?_,?_,?_⟩
   ·rw [EJ,List.nodup_append]
    exact⟨h.keys,by simp,fun a ha b hb=>by simp at hb;subst hb;intro e;subst e;exact ng.1 h1 ha⟩
   ·rw [EJ,List.nodup_append]
    refine⟨h.born,by simp,fun a ha b hb=>?_⟩
    simp at hb
    subst hb
    obtain⟨x,hx,rfl⟩:=Gc.1 ha
    have:=h.lt x hx
    omega
   ·intro x hx
    rcases List.mem_append.1 hx with hx|hx
    ·have:=h.lt x hx;omega
    ·simp at hx;subst hx;show c<c+1;omega
 | some i=>
   rw [hi] at hk
   obtain⟨x,h1,h2,h3,_,h5⟩:=hk
   rw [h5,show xL m k c=c by simp [xL,h3]]
   obtain⟨hlt,rfl⟩:=Eo.1 h1
   refine⟨?_,?_,?_⟩
   ·rw [List.map_set]
    rw [show(m.map (·.1)).set i k=m.map (·.1) by rw [← h2];apply Ga;intro j;rw [List.getElem?_set];by_cases hj:i=j
                                                 ·subst hj;simp [hlt]
                                                 ·simp [hj]]
    exact h.keys
   ·rw [List.map_set]
    rw [show(m.map (·.2.2)).set i m[i].2.2=m.map (·.2.2) by apply Ga;intro j;rw [List.getElem?_set];by_cases hj:i=j
                                                            ·subst hj;simp [hlt]
                                                            ·simp [hj]]
    exact h.born
   ·intro y hy
    rcases List.mem_or_eq_of_mem_set hy with hy|rfl
    ·exact h.lt y hy
    ·exact h.lt m[i] (EO hlt)
end
omit [DecidableEq K] in
theorem KOk.sub{m m':List (K×V×Nat)}{c:Nat}(h:KOk m c)(hs:m'.Sublist m):KOk m' c:=⟨h.keys.sublist (hs.map _),h.born.sublist (hs.map _),fun x hx=>h.lt x (hs.subset hx)⟩
theorem zZ(m:List (K×V×Nat))(k:K):(kZ m k).Sublist m:=by
 induction m with
 | nil=>exact List.Sublist.refl _
 | cons y m ih=>
   unfold kZ
   split
   ·exact List.sublist_cons_self _ _
   ·exact ih.cons_cons _
theorem KOk.del{m:List (K×V×Nat)}{c:Nat}(h:KOk m c)(k:K):KOk (kZ m k) c:=h.sub (zZ m k)
omit [DecidableEq K] in
theorem KOk.eq{m:List (K×V×Nat)}{c:Nat}(h:KOk m c){x y:K×V×Nat}(hx:x∈m)(hy:y∈m)(hb:x.2.2=y.2.2):x=y:=by
 obtain⟨i,hi⟩:=List.getElem?_of_mem hx
 obtain⟨j,hj⟩:=List.getElem?_of_mem hy
 obtain⟨hi',rfl⟩:=Eo.1 hi
 obtain⟨hj',rfl⟩:=Eo.1 hj
 have:i=j:=by
  refine(List.getElem_inj (h₀:=by simpa using hi') (h₁:=by simpa using hj') h.born).1 ?_
  simpa using hb
 subst this
 rfl
omit [DecidableEq K] in
theorem KOk.nodup{m:List (K×V×Nat)}{c:Nat}(h:KOk m c):m.Nodup:=by
 have:=h.born
 exact List.Pairwise.of_map (·.2.2) (fun a b hab e=>hab (by rw [e])) this
theorem fA{A B:Type}(f:A→B): ∀ (l:List A) (i:Nat),(l.map f).eraseIdx i=(l.eraseIdx i).map f
 | [],_=>rfl
 | x :: l,0=>rfl
 | x :: l,i+1=>by simp [fA f l i]
variable {P:Program} {T:Tr SV} {H:ay} {nx:Nat} {d:Option Tmp} {ty:TypeId} {pos:String} {af:Array Edge} {gd:Option (Nat×Bool)}
theorem kG{kt:TypeId}{enc:K→Value}{val:V→SV}(hE:KEnc P kt enc)(m:List (K×V×Nat))(k:K):lx P kt (enc k) (CX enc val m)=some (m.findIdx? fun x=>decide (x.1=k)):=by
 have:=hE.find (m.map fun x=>(x.1,val x.2.1,x.2.2)) k
 rw [List.map_map] at this
 rw [show CX enc val m=m.map ((fun x:K×SV×Nat=>(enc x.1,x.2)) ∘ fun x:K×V×Nat=>(x.1,val x.2.1,x.2.2))from rfl,this]
 congr 1
 rw [List.findIdx?_map]
 rfl
omit [DecidableEq K] in
theorem wX{enc:K→Value}{val:V→SV}{m:List (K×V×Nat)}{c:Nat}{t kt e:TypeId}{x:Operand}{b:Nat}(hx:aq T x=some (.mp b))(hu:P.underlying t=some (.map kt e))(hb:H.at' b=some (nV enc val m c)) :
 ReadDoes P T H ⟨d,.call {callee:= .builtin .len,args:= #[x],argTypes:= #[t]},ty,pos,af,gd⟩ (.sc (.int .i64 m.length)):=by
 refine ej ?_
 unfold cJ
 simp only [m9,hx,EL,zX,hu,hb,EU]
end
section
variable {P:Program} {T:Tr SV} {H:ay} {nx:Nat} {d:Option Tmp} {ty:TypeId} {pos:String} {af:Array Edge} {gd:Option (Nat×Bool)}
theorem e6{t yt:TypeId}{x y:Operand}{s:SV}{v:Value}{d0:TypeDesc}(hx:aq T x=some s)(hy:aq T y=some (.sc v))(hu:P.underlying t=some d0)(hn:q9 s v d0=true):ReadDoes P T H ⟨d,.binOp .eql t x y yt,ty,pos,af,gd⟩ (.sc (.bool false)):=by
 refine ej ?_
 unfold cJ
 simp only [hx,hy,EL,pG,hu,hn,cond_true]
theorem sE{x:Operand}{i:Nat}{xs:Array Value}{v:Value}(h:aq T x=some (.sc (.tuple xs)))(hi:xs[i]? =some v):ReadDoes P T H ⟨d,.extract x i,ty,pos,af,gd⟩ (.sc v):=by
 refine ej ?_
 unfold cJ
 simp only [h,EL,B5,hi,EK]
theorem u9{t:TypeId}:OpDoes P T H nx ⟨d,.makeMap t none,ty,pos,af,gd⟩ (.val (.mp nx),H.set nx (.map [] 0),nx+1):=jt rfl
end
section
variable {P:Program} {T:Tr SV} {H:ay} {nx:Nat} {d0:Option Tmp} {ty:TypeId} {pos:String} {af:Array Edge} {gd:Option (Nat×Bool)}
theorem sD{t e:TypeId}{x y:Operand}{b o n sz:Nat}{k:IntKind}{j:Int}{q:Nat}(hx:aq T x=some (.ptr b o))(hy:aq T y=some (.sc (.int k j)))(hu:P.underlying t=some (.array n e))(hs:bx P e=some sz)(hq:j=(q:Int))(hi:q<n) :
 ReadDoes P T H ⟨d0,.indexAddr t x y,ty,pos,af,gd⟩ (.ptr b (o+q*sz)):=by
 refine ej ?_
 subst hq
 unfold cJ
 simp only [zO,hx,hy,EL]
 show(df P H t q (.ptr b o))=_
 simp only [df,hu,hs]
 rw [show Nat.blt q n=true from Es hi]
 rfl
end
section
variable {P:Program} {T:Tr SV} {H:ay} {nx:Nat} {d:Option Tmp} {ty:TypeId} {pos:String} {af:Array Edge} {gd:Option (Nat×Bool)}
theorem BE{b m sz:Nat}{ro:Bool}{t:TypeId}{l:List SV}{vs:List Value}(hb:H.at' b=some (.row ro m sz t (fS l)))(hl:l=vs.map .sc)(hlen:vs.length=m*sz):RdV P H sz (.slu b 0 m) m vs:=by
 subst hl
 rw [bZ] at hb
 exact sA hb (by omega) (by rw [Nat.zero_mul,List.drop_zero];exact Ew (by omega)) hlen
theorem BY{A:Type}{f:A→List Value}{xs:List A}{a:A}{t tx el:TypeId}{sz b r q:Nat}{s x:Operand}{rq:Bool}{tq:TypeId}{cs:List SV}(hx0:aq T s=some (.slu r 0 xs.length))(hx:aq T x=some (.slu q 0 1))(hu:P.underlying t=some (.slice el))
 (hk:(∃ e',P.underlying tx=some (.slice e'))∨P.underlying tx=some .string) (hs:bx P el=some sz) (h0:Nat.blt 0 sz=true) (hz:fm P el sz=true) (hb:(P.info? el).map (·.bytes)=some b) (hro:H.at' r=some (dat false xs.length sz el (xs.flatMap f)))
 (hq:H.at' q=some (.row rq 1 sz tq (fS cs))) (hcs:cs=(f a).map .sc) (hf:RecOf f sz) (hm1:(xs.length+1)*b≤140737488355328) (hm2:xs.length+1≤1000000000) :
 OpDoes P T H nx ⟨d,.call {callee:= .builtin .append,args:= #[s,x],argTypes:= #[t,tx]},ty,pos,af,gd⟩ (.val (.slu nx 0 (xs ++ [a]).length),(H.del r).set nx (dat false (xs ++ [a]).length sz el ((xs ++ [a]).flatMap f)),nx+1):=by
 have h:=xm (P:=P) (T:=T) (H:=H) (nx:=nx) (d:=d) (ty:=ty) (pos:=pos) (af:=af) (gd:=gd) (eo:=0) (n:=xs.length) (m:=1) (vs:=f a) (ws:=xs.flatMap f) hu hk hs (aN h0) hz hb hx0 hx (by rw [ER];exact hro)
  (by rw [Nat.zero_mul,List.drop_zero];exact Ew (by rw [ge hf.len];omega)) (ge hf.len xs) (BE hq hcs (by rw [hf.len];omega)) (hf.one a) (by decide) hm1 hm2
 rw [show(xs ++ [a]).length=xs.length+1 by simp,show(xs ++ [a]).flatMap f=xs.flatMap f ++ f a by simp]
 exact h
end
section
variable {P:Program} {ro:Option Nat} {fn nt nx:Nat} {T:Tr SV} {k:List AIt} {dfs:List ADf} {H:ay} {Q:Pst} {ops:Array Oper} {i:Nat} {l:List Oper} {d:Option Tmp} {ty:TypeId} {pos:String} {af:Array Edge} {gd:Option (Nat×Bool)}
section
variable {b dd:Nat}{t:TypeId}{x:Operand}
theorem tu{K V:Type} [DecidableEq K]{enc:K→Value}{val:V→SV}{m:List (K×V×Nat)}{c:Nat}{kt e:TypeId}(hw:aE T ops ⟨some dd,.call {callee:= .builtin .len,args:= #[x],argTypes:= #[t]},ty,pos,af,gd⟩=some true)(hd:Nat.blt dd nt=true)(hx:aq T x=some (.mp b))(hu:P.underlying t=some (.map kt e))(hb:H.at' b=some (nV enc val m c))
 (h:Wp P ro ⟨fn,nt,T.set dd (.sc (.int .i64 m.length)),.inReg ops (i+1) l :: k,dfs,H,nx⟩ Q):Wp P ro ⟨fn,nt,T,.inReg ops i (⟨some dd,.call {callee:= .builtin .len,args:= #[x],argTypes:= #[t]},ty,pos,af,gd⟩ :: l) :: k,dfs,H,nx⟩ Q:=
 dn hw (.inr (fun _ h=>by cases h)) ((wX hx hu hb).does) (by rw [aI hd];exact h)
theorem ii{e:TypeId}{y:Operand}{o n sz:Nat}{kd:IntKind}{j:Int}{q:Nat}(hw:aE T ops ⟨some dd,.indexAddr t x y,ty,pos,af,gd⟩=some true)(hd:Nat.blt dd nt=true)(hx:aq T x=some (.ptr b o))(hy:aq T y=some (.sc (.int kd j)))(hu:P.underlying t=some (.array n e))(hs:bx P e=some sz)(hq:j=(q:Int))(hi:q<n)
 (h:Wp P ro ⟨fn,nt,T.set dd (.ptr b (o+q*sz)),.inReg ops (i+1) l :: k,dfs,H,nx⟩ Q):Wp P ro ⟨fn,nt,T,.inReg ops i (⟨some dd,.indexAddr t x y,ty,pos,af,gd⟩ :: l) :: k,dfs,H,nx⟩ Q:=
 dn hw (.inr (fun _ h=>by cases h)) ((sD hx hy hu hs hq hi).does) (by rw [aI hd];exact h)
theorem mb{bt:TypeId}{a:Operand}{o n:Nat}{cs vs:List SV}{v:SV}(hw:aE T ops ⟨none,.store t a x,ty,pos,af,gd⟩=some true)(ha:aq T a=some (.ptr b o))(hx:aq T x=some v)(hv:v.cells=vs)(hs:bx P t=some n)(hb:H.at' b=some (an bt cs))(hn:vs.length=n)(ho:o+n≤cs.length)(h1:cr vs=true)
 (h:Wp P ro ⟨fn,nt,T,.inReg ops (i+1) l :: k,dfs,(H.set b (an bt (cs.take o ++ vs ++ cs.drop (o+n)))),nx⟩ Q):Wp P ro ⟨fn,nt,T,.inReg ops i (⟨none,.store t a x,ty,pos,af,gd⟩ :: l) :: k,dfs,H,nx⟩ Q:=
 oc hw (.inr (fun _ h=>by cases h)) (gU hs ha hx hv hb hn ho h1) h
theorem mC{A:Type}{f:A→List Value}{xs:List A}{a:A}{tx el:TypeId}{sz r q:Nat}{s:Operand}{rq:Bool}{tq:TypeId}{cs:List SV}(hw:aE T ops ⟨some dd,.call {callee:= .builtin .append,args:= #[s,x],argTypes:= #[t,tx]},ty,pos,af,gd⟩=some true)(hd:Nat.blt dd nt=true)(hx0:aq T s=some (.slu r 0 xs.length))(hx:aq T x=some (.slu q 0 1))(hu:P.underlying t=some (.slice el))(hk:(∃ e',P.underlying tx=some (.slice e'))∨P.underlying tx=some .string)(hs:bx P el=some sz)(h0:Nat.blt 0 sz=true)(hz:fm P el sz=true)(hb:(P.info? el).map (·.bytes)=some b)(hro:H.at' r=some (dat false xs.length sz el (xs.flatMap f)))(hq:H.at' q=some (.row rq 1 sz tq (fS cs)))(hcs:cs=(f a).map .sc)(hf:RecOf f sz)(hm1:(xs.length+1)*b≤140737488355328)(hm2:xs.length+1≤1000000000)
 (h:Wp P ro ⟨fn,nt,T.set dd (.slu nx 0 (xs ++ [a]).length),.inReg ops (i+1) l :: k,dfs,((H.del r).set nx (dat false (xs ++ [a]).length sz el ((xs ++ [a]).flatMap f))),(nx+1)⟩ Q):Wp P ro ⟨fn,nt,T,.inReg ops i (⟨some dd,.call {callee:= .builtin .append,args:= #[s,x],argTypes:= #[t,tx]},ty,pos,af,gd⟩ :: l) :: k,dfs,H,nx⟩ Q:=
 dn hw (.inr (fun _ h=>by cases h)) (BY hx0 hx hu hk hs h0 hz hb hro hq hcs hf hm1 hm2) (by rw [aI hd];exact h)
end
end
section
variable {P:Program} {nt nx:Nat} {T:Tr SV} {H:ay} {ops:Array Oper} {i:Nat} {l:List Oper} {ty:TypeId} {pos:String} {af:Array Edge} {gd:Option (Nat×Bool)} {K:DS→Prop} {rs:List Rec} {Hs:List (ay×Nat)} {stg:Nat}
theorem CA{t e:TypeId}{x y:Operand}{b o n sz:Nat}{kd:IntKind}{j:Int}{q:Nat}{dd:Nat}(hw:aE (aT T (aV ops.toList ⟨some dd,.indexAddr t x y,ty,pos,af,gd⟩)) ops ⟨some dd,.indexAddr t x y,ty,pos,af,gd⟩=some true)(hd:Nat.blt dd nt=true)(hx:aq (aT T (aV ops.toList ⟨some dd,.indexAddr t x y,ty,pos,af,gd⟩)) x=some (.ptr b o))(hy:aq (aT T (aV ops.toList ⟨some dd,.indexAddr t x y,ty,pos,af,gd⟩)) y=some (.sc (.int kd j)))(hu:P.underlying t=some (.array n e))(hs:bx P e=some sz)(hq:j=(q:Int))(hi:q<n)
 (h:DrawK P nt ops (i+1) l ⟨T.set dd (.ptr b (o+q*sz)),H,nx,⟨i,⟨some dd,.indexAddr t x y,ty,pos,af,gd⟩,(aT T (aV ops.toList ⟨some dd,.indexAddr t x y,ty,pos,af,gd⟩)),stg,false,true,(.ptr b (o+q*sz))⟩ :: rs,Hs,stg⟩ K):DrawK P nt ops i (⟨some dd,.indexAddr t x y,ty,pos,af,gd⟩ :: l) ⟨T,H,nx,rs,Hs,stg⟩ K:=
 cd hw hd (fun _ h=>by cases h) (sD hx hy hu hs hq hi) h
end
section
variable {P:Program} {ro:Option Nat} {fn nt nx:Nat} {T:Tr SV} {k:List AIt} {dfs:List ADf} {H:ay} {Q:Pst} {ops:Array Oper} {i:Nat} {l:List Oper} {d:Option Tmp} {ty:TypeId} {pos:String} {af:Array Edge} {gd:Option (Nat×Bool)}
section
variable {dr f2 n nt2:Nat}{as1 bd:Code}{T2:Tr SV}{f:FuncId}{args:List SV}{ρ:Nat→Nat}{ps:Array Tmp}{st:LoopState}{pend:Option Code}
theorem wQ(ρ:Nat→Nat): ∀ vs:List Value,SV.gI ρ (vs.map .sc)=vs.map .sc
 | []=>rfl
 | v :: vs=>by rw [EG,SV.gI,wQ ρ vs];rfl
theorem pn{t:TypeId}{vs:List Value}:(an t (vs.map .sc)).ren ρ=an t (vs.map .sc):=by rw [po,wQ]
theorem St.loopLess{K:Zone}{w0 w:World}{e:Env}{T3:Tr SV}(hl:T3.le T2)
 (hS:St K w0 e (H.set n (.loop st pend f2 nt2 T2 ps as1 bd dr)) nx w):St K w0 e (H.set n (.loop st pend f2 nt2 T3 ps as1 bd dr)) nx w:=by
 have key: ∀ id vo,(H.set n (.loop st pend f2 nt2 T3 ps as1 bd dr)).at' id=some vo→ ∃ vo',(H.set n (.loop st pend f2 nt2 T2 ps as1 bd dr)).at' id=some vo'∧vo'.ro=vo.ro∧ ∀ x,Lies K w e vo' x→Lies K w e vo x:=by
  intro id vo hv
  rcases bp hv with ⟨rfl,rfl⟩|⟨hne,hv⟩
  ·refine⟨_,aw _ _ _,rfl,fun x hx=>?_⟩
   rcases hx with ⟨h0,o,h1,h2,tmps,y,h3,h4,h5⟩|⟨_,_,_,_,_,h,_⟩
   ·exact .inl ⟨h0,o,h1,h2,tmps,y,h3,h4.less hl,h5⟩
   ·cases h
  ·exact⟨vo,by rw [ab _ _ hne];exact hv,rfl,fun x hx=>hx⟩
 refine⟨hS.below,fun id vo hv=>?_,fun id id' vo vo' x x' h1 h2 h3 h4 h5 h6 h7 h8 h9=>?_,hS.fresh⟩
 ·obtain⟨vo',g1,_,g3⟩:=key id vo hv
  obtain⟨x,hx,hl⟩:=hS.rel id vo' g1
  exact⟨x,hx,g3 x hl⟩
 ·obtain⟨u,g1,g2,_⟩:=key id vo h1
  obtain⟨u',g1',g2',_⟩:=key id' vo' h2
  exact hS.inj _ _ _ _ _ _ g1 g1' h3 h4 h5 h6 h7 (by rw [g2];exact h8) (by rw [g2'];exact h9)
theorem Fnc.weak{H H':ay}{nx:Nat}{Q:Pst}(hs: ∀ K w0 e w,St K w0 e H nx w→St K w0 e H' nx w)(h:Fnc P f args H' nx Q):Fnc P f args H nx Q:=by
 unfold Fnc iQ at h ⊢
 rcases h with ⟨h0,v,r,h1,h2,h3⟩|h
 ·exact .inl ⟨h0,v,r,h1,h2,fun K w0 e w hS=>h3 K w0 e w (hs _ _ _ _ hS)⟩
 ·refine .inr ?_
  split at h
  ·rename_i c hb
   exact⟨fun K w0 e w tmps todo ds kd rof cs a b c d f=>h.run K w0 e w tmps todo ds kd rof cs (hs _ _ _ _ a) b c d f⟩
  ·exact h.elim
theorem jH{fo:Operand}{g:FuncId}{a b:List SV}{sf:SV}(sl:List (Nat×SV))(hf:aq T fo=some sf)(ht:c7 sf=some (g,a,b))(hg:bB P g=true)(hsl: ∀ n x,(slT sl).at' n=some x→T.at' n=some x)
 (h: ∀ as' bd',as'=as1→bd'=bd→Fnc P g (a ++ [.yld (nx+1)] ++ b) ((H.set nx (.dfd (some []))).set (nx+1) (.loop .ready none fn nt (slT sl) ps as' bd' nx)) (nx+1+1) (fun r=>Wp P none ⟨fn,nt,T,.endRange (nx+1) :: k,.taken nx :: dfs,r.2.1,r.2.2⟩ Q)) :
 Wp P none ⟨fn,nt,T,.code (.rangeFunc fo ps as1 bd) :: k,dfs,H,nx⟩ Q:=
 .step ⟨nx,H.set nx (.dfd (some [])),nx+1,[.taken nx],sf,g,a,b,rfl,hf,ht,hg,Fnc.weak (fun K w0 e w hS=>hS.loopLess hsl) (h _ _ rfl rfl)⟩
theorem od{a b:Code}(h:a=b)(hw:Wp P ro ⟨fn,nt,T,.code b :: k,dfs,H,nx⟩ Q):Wp P ro ⟨fn,nt,T,.code a :: k,dfs,H,nx⟩ Q:=h ▸ hw
theorem gr(hl:H.at' n=some (.loop st pend f2 nt2 T2 ps as1 bd dr))(hs:st ≠ .busy)
 (h:Wp P ro ⟨fn,nt,T,gM pend k,dfs,H.set n (.loop .exhausted pend f2 nt2 T2 ps as1 bd dr),nx⟩ Q):Wp P ro ⟨fn,nt,T,.endRange n :: k,dfs,H,nx⟩ Q:=by
 refine .step ?_
 simp only [pg,hl]
 exact⟨hs,h⟩
theorem sa(hl:H.at' n=some (.loop .ready pend f2 nt2 T2 ps as1 bd dr))
 (h:Wp P (some n) ⟨fn,nt,T,k,dfs,H.set n (.loop .busy pend f2 nt2 T2 ps as1 bd dr),nx⟩ Q):Wp P (some n) ⟨fn,nt,T,.beginRound :: k,dfs,H,nx⟩ Q:=by
 refine .step ?_
 simp only [pg,hl]
 exact⟨trivial,h⟩
theorem dB(hl:H.at' n=some (.loop st pend f2 nt2 T2 ps as1 bd dr))
 (h:Q (.sc (.bool true),H.set n (.loop .ready none f2 nt2 T2 ps as1 bd dr),nx)):Wp P (some n) ⟨fn,nt,T,[],dfs,H,nx⟩ Q:=by
 refine .step ?_
 simp only [pg,lQ,t7,hl]
 exact h
theorem Bv{x:Operand}{as1:List Operand}{ats:Array TypeId}{dd:Nat}{as2:Code}
 (hw:aE T ops ⟨some dd,.call {callee:= .value x,args:=as1.toArray,argTypes:=ats},ty,pos,af,gd⟩=some true) (hd:Nat.blt dd nt=true) (hx:aq T x=some (.yld n)) (ha:cY T as1=some args) (hl:H.at' n=some (.loop st pend f2 nt2 T2 ps as2 bd dr)) (hp:Nat.beq ps.size args.length=true)
 (h:Wp P (some n) ⟨f2,nt2,(ps.toList.zip args).foldl (fun T x=>kY nt2 T (some x.1) x.2) T2,[.code as2,.beginRound,.code bd],[],H,nx⟩ (fun r=>Wp P ro ⟨fn,nt,T.set dd r.1,.inReg ops (i+1) l :: k,dfs,r.2.1,r.2.2⟩ Q)) :
 Wp P ro ⟨fn,nt,T,.inReg ops i (⟨some dd,.call {callee:= .value x,args:=as1.toArray,argTypes:=ats},ty,pos,af,gd⟩ :: l) :: k,dfs,H,nx⟩ Q:=by
 refine .step (.inr ⟨hw,.inr (fun c hc=>by cases hc),OpDoes.any (out:=(.round n args,H,nx)) ?_ ?_⟩)
 ·intro K w0 e w ev hS hE
  refine kM hS hE ?_
  unfold fT
  simp only [bE,ha,hx,EK]
 ·simp only [outS,oq,hl,aI hd]
  exact⟨hp,h⟩
def SameO(ρ:Nat→Nat):List (Option VO)→List (Option VO)→Prop
 | [],[]=>True
 | none :: l,none :: m=>SameO ρ l m
 | some vo :: l,some vo' :: m=>vo.ren ρ=vo'∧SameO ρ l m
 | _,_=>False
theorem SameO.map{ρ:Nat→Nat}: ∀ {l m:List (Option VO)},SameO ρ l m→l.map (Option.map (VO.ren ρ))=m
 | [],[],_=>rfl
 | none :: l,none :: m,h=>by simp only [EG,Option.map_none,SameO.map (l:=l) (m:=m) h]
 | some vo :: l,some vo' :: m,h=>by simp only [EG,EK,h.1,SameO.map h.2]
 | [],_ :: _,h=>by simp [SameO] at h
 | none :: _,some _ :: _,h=>by simp [SameO] at h
 | some _ :: _,none :: _,h=>by simp [SameO] at h
 | none :: _,[],h=>by simp [SameO] at h
 | some _ :: _,[],h=>by simp [SameO] at h
theorem oX{ρ:Nat→Nat}: ∀ (L:List Nat) (l:List (Option VO)) (i:Nat) (H:ay),(∀ j,j<L.length→ρ (i+j)=L.getD j 0)→l.length=L.length→wrO ρ H i l=wrL L H l
 | [],[],i,H,_,_=>rfl
 | [],_ :: _,i,H,_,h=>by simp at h
 | _ :: _,[],i,H,_,h=>by simp at h
 | b :: L,o :: l,i,H,he,hl=>by
   have e0:ρ i=b:=by simpa using he 0 (by simp)
   have et: ∀ j,j<L.length→ρ (i+1+j)=L.getD j 0:=fun j hj=>by
    have:=he (j+1) (by simpa using hj)
    rw [show i+1+j=i+(j+1) by omega,this]
    simp
   cases o with
   | none=>simp only [wrO,wrL,e0];exact oX L l (i+1) _ et (by simpa using hl)
   | some vo=>simp only [wrO,wrL,e0];exact oX L l (i+1) _ et (by simpa using hl)
theorem Ctr.lX{args0:List SV}{pre:List VO}{Q0:Cz→Prop}(h:Ctr P f args0 pre Q0)(L:List Nat){Q:Pst}(hlen:L.length=pre.length)(hL:ExtOk L nx)(ha:args=args0.map (SV.ren (ext L nx)))(hp:HasO (ext L nx) H 0 (pre.map some))
 (hQ: ∀ c,Q0 c→ ∃ v m L2 objs,L2=L ++ (List.range m).map (fun i=>nx+i)∧SameO (ext L nx) c.objs objs∧objs.length=L2.length∧c.v.ren (ext L nx)=v∧Q (v,wrL L2 H objs,nx+m)):Fnc P f args H nx Q:=by
 refine h.call L hlen hL ha hp fun c hc hpl=>?_
 obtain⟨v,m,L2,objs,e1,e2,e3,e4,hq⟩:=hQ c hc
 have hlo:c.objs.length=objs.length:=by rw [← e2.map,EU]
 have hl2:L2.length=L.length+m:=by rw [e1];simp
 rw [e2.map,e4,oX (ρ:=ext L nx) L2 objs 0 H (fun j hj=>?_) e3,show nx+(c.objs.length-pre.length)=nx+m by omega]
 ·exact hq
 ·rw [ER]
  by_cases hjl:j<L.length
  ·rw [uq hjl,e1]
   simp only [Ez]
   rw [EB hjl]
  ·rw [ur (by omega),e1]
   simp only [Ez]
   rw [EZ (by omega),E6,List.getElem?_range (by omega)]
   rfl
theorem zq{t:TypeId}{l l':List SV}(h:SV.gI ρ l=l'):(an t l).ren ρ=an t l':=by rw [po,h]
theorem Ctr.at{pre:List VO}{Q:Cz→Prop}(n:Nat)(hn:pre.length=n)(h:Fnc P f args (xZ pre) n (fun r=> ∃ c,Q c∧Ends n c r)):Ctr P f args pre Q:=by
 subst hn
 exact h
theorem bv{α:Type}{b:Code}(sl:α→List (Nat×SV))(I:α→ay→Nat→Prop)(μ:α→Nat)(a0:α)(h0:I a0 H nx)(hs: ∀ n x,(slT (sl a0)).at' n=some x→T.at' n=some x)
 (body: ∀ a H nx,I a H nx→(∀ T' H' nx' a',I a' H' nx'→μ a'<μ a→(∀ n x,(slT (sl a')).at' n=some x→T'.at' n=some x)→Wp P ro ⟨fn,nt,T',.inLoop b :: k,dfs,H',nx'⟩ Q) →
   Wp P ro ⟨fn,nt,slT (sl a),.code b :: .inLoop b :: k,dfs,H,nx⟩ Q):Wp P ro ⟨fn,nt,T,.code (.loop b) :: k,dfs,H,nx⟩ Q:=by
 have main: ∀ m a H nx,μ a=m→I a H nx→Wp P ro ⟨fn,nt,slT (sl a),.code b :: .inLoop b :: k,dfs,H,nx⟩ Q:=by
  intro m
  induction m using Nat.strongRecOn with
  | _ m ih=>
    intro a H nx hm ha
    refine body a H nx ha fun T' H' nx' a' ha' hlt hs'=>my ?_
    exact Wp.less (ih (μ a') (by omega) a' H' nx' rfl ha') hs' (Tr.le_refl _)
 exact oU (Wp.less (main _ a0 H nx rfl h0) hs (Tr.le_refl _))
def SlIn(T:Tr SV):List (Nat×SV)→Prop
 | []=>True
 | (t,s) :: l=>T.at' t=some s∧SlIn T l
theorem SlIn.rf{T:Tr SV}: ∀ {l:List (Nat×SV)},l.map (fun x=>T.at' x.1)=l.map (fun x=>some x.2)→SlIn T l
 | [],_=>trivial
 | (t,s) :: l,h=>by
   simp only [EG,List.cons.injEq] at h
   exact⟨h.1,SlIn.rf h.2⟩
theorem Gt:type_of% @SlIn.rf:=@SlIn.rf
theorem SlIn.sub{T:Tr SV}: ∀ {l:List (Nat×SV)},SlIn T l→ ∀ n x,(slT l).at' n=some x→T.at' n=some x
 | [],_,n,x,h=>by rw [slT,nJ] at h;cases h
 | (t0,s0) :: l,hh,n,x,h=>by
   rcases bp h with ⟨rfl,rfl⟩|⟨_,h⟩
   ·exact hh.1
   ·exact SlIn.sub hh.2 n x h
theorem Gq:type_of% @SlIn.sub:=@SlIn.sub
theorem xF{rs:List Nat}(hr: ∀ r∈rs,H.at' r=some (.dfd (some [])))(hnd:rs.Nodup)(h: ∀ H',(∀ n,n∉rs→H'.at' n=H.at' n)→Lv P ⟨fn,nt,T,k,dfs,H',nx⟩ Q):Lv P ⟨fn,nt,T,k,rs.map .taken ++ dfs,H,nx⟩ Q:=by
 induction rs generalizing H with
 | nil=>exact h H fun _ _=>rfl
 | cons r rs ih=>
   refine zU (hr r (by simp)) ?_
   rw [List.nil_append]
   rw [List.nodup_cons] at hnd
   refine ih (fun r' hr'=>?_) hnd.2 fun H' hH'=>h H' fun n hn=>?_
   ·rw [ab _ _ (by intro e;subst e;exact hnd.1 hr')]
    exact hr r' (EY _ hr')
   ·rw [E4,not_or] at hn
    rw [hH' n hn.2,ab _ _ hn.1]
theorem ic{rl:List ResultVar}{F:Func}(hf:P.funcs[fn]? =some F)(hl:F.results.toList=rl){rs:List Nat}(hdf:dfs=rs.map .taken)(hr: ∀ r∈rs,H.at' r=some (.dfd (some [])))(hnd:rs.Nodup)
 (h: ∀ H',(∀ n,n∉rs→H'.at' n=H.at' n)→ ∃ vs,ResIs P H' T rl vs∧Q (fi vs,H',nx)):Wp P none ⟨fn,nt,T,.code .ret :: k,dfs,H,nx⟩ Q:=by
 subst hdf
 refine AG ?_
 have:=xF (P:=P) (fn:=fn) (nt:=nt) (nx:=nx) (T:=T) (k:= .code .ret :: k) (dfs:= []) (Q:=Q) hr hnd fun H' hH'=>by
  obtain⟨vs,h1,h2⟩:=h H' hH'
  exact AW (by simp only [eH,hf,hl]) h1.res h2
 simpa using this
end
end
structure Tbl where
 fo:List (Option (List Nat))
 zl:List (Option (List SV))
 un:List (Option TypeDesc)
 ag:List (Option (Option Nat))
 sz:List (Option Nat)
 ze:List (Option Value)
 pl:List (Option (List (Nat×Nat)))
structure TblOk (P:Program) (t:Tbl):Prop where
 fo: ∀ (i k:Nat) {l:List Nat} {v:Nat},t.fo[i]? =some (some l)→l[k]? =some v→kH P i k=some v
 zl: ∀ (i:Nat) {x:List SV},t.zl[i]? =some (some x)→qi P i=some x
 un: ∀ (i:Nat) {x:TypeDesc},t.un[i]? =some (some x)→P.underlying i=some x
 ag: ∀ (i:Nat) {x:Option Nat},t.ag[i]? =some (some x)→bY P i=some x
 sz: ∀ (i:Nat) {x:Nat},t.sz[i]? =some (some x)→bx P i=some x
 ze: ∀ (i:Nat) {x:Value},t.ze[i]? =some (some x)→dJ P i=some x
 pl: ∀ (i:Nat) {x:List (Nat×Nat)},t.pl[i]? =some (some x)→AS P i=some x
section
variable (tb:Tbl)
def lenG(T:Tr SV)(x:Operand)(t:TypeId):Option SV:=match aq T x with
 | some (.slu _ _ n)=>match tb.un[t]? with
   | some (some (.slice _))=>some (.sc (.int .i64 n))
   | _=>none
 | some (.sc (.string s))=>match tb.un[t]? with
   | some (some .string)=>some (.sc (.int .i64 s.size))
   | _=>none
 | _=>none
def mO(T:Tr SV):Op→Option SV
 | .move x=>aq T x
 | .assign x=>aq T x
 | .pick c a b=>match aq T c with
   | some (.sc (.bool true))=>aq T a
   | some (.sc (.bool false))=>aq T b
   | _=>none
 | .extract x j=>match aq T x with
   | some (.tup xs)=>xs[j]?
   | some (.sc (.tuple xs))=>match xs[j]? with
     | some v=>some (.sc v)
     | none=>none
   | _=>none
 | .nilCheck x=>match aq T x with
   | some (.ptr b o)=>some (.ptr b o)
   | some (.ifc t v)=>some (.ifc t v)
   | some (.fn (.func f) a c)=>some (.fn (.func f) a c)
   | _=>none
 | .fieldAddr s x f=>match aq T x with
   | some (.ptr b o)=>match tb.fo[s]? with
     | some (some l)=>match l[f]? with
       | some off=>some (.ptr b (o+off))
       | none=>none
     | _=>none
   | _=>none
 | .unOp .not _ x=>match aq T x with
   | some (.sc (.bool b))=>some (.sc (.bool (!b)))
   | _=>none
 | .makeFunc f a b=>match cY T a.toList with
   | some x=>match cY T b.toList with
     | some y=>some (.fn f x y)
     | none=>none
   | none=>none
 | .makeInterface t x=>match aq T x with
   | some v=>match tb.un[t]? with
     | some (some (.interface _))=>none
     | some (some _)=>some (ue t v)
     | _=>none
   | none=>none
 | .build t ps=>match l7 T ps.toList with
   | some vs=>match tb.ze[t]? with
     | some (some z)=>match tb.pl[t]? with
       | some (some pl)=>match hY (fun i=>pl[i]?) (z.cells.toList.map .sc) vs with
         | some cs=>some (.agg cs)
         | none=>none
       | _=>none
     | _=>none
   | none=>none
 | .call c=>match c.callee with
   | .builtin .len=>match c.args.toList with
     | [x]=>match c.argTypes.toList with
       | [t]=>lenG tb T x t
       | _=>none
     | _=>none
   | _=>none
 | _=>none
def Ea:SV→Option (List SV)
 | .agg cs=>some cs
 | .sc (.int k a)=>some [.sc (.int k a)]
 | .sc (.bool b)=>some [.sc (.bool b)]
 | .sc (.string s)=>some [.sc (.string s)]
 | .ptr b o=>some [.ptr b o]
 | .slu b o n=>some [.slu b o n]
 | .sl b o n c=>some [.sl b o n c]
 | .mp b=>some [.mp b]
 | _=>none
def newG(T:Tr SV):Op→Option (TypeId×List SV)
 | .alloc t=>match tb.zl[t]? with
   | some (some cs)=>some (t,cs)
   | _=>none
 | .box t x=>match aq T x with
   | some v=>match Ea v with
     | some cs=>some (t,cs)
     | none=>none
   | none=>none
 | _=>none
abbrev GoSt:=Tr SV×List AIt×ay×Nat
def goG(nt:Nat):Nat→Bool→Tr SV→List AIt→ay→Nat→Option GoSt
 | 0,p,T,k,H,nx=>bif p then some (T,k,H,nx) else none
 | n+1,p,T,k,H,nx=>match k with
   | .code .skip :: k=>goG nt n true T k H nx
   | .code (.label _) :: k=>goG nt n true T k H nx
   | .code (.seq a b) :: k=>goG nt n true T (.code a :: .code b :: k) H nx
   | .code (.block i b) :: k=>goG nt n true T (.code b :: .inBlock i :: k) H nx
   | .code (.scope b) :: k=>goG nt n true T (.code b :: .inScope b :: k) H nx
   | .code (.exit i) :: k=>match nr i k with
     | some k'=>goG nt n true T k' H nx
     | none=>bif p then some (T,.code (.exit i) :: k,H,nx) else none
   | .code (.goto i) :: k=>match nY i k with
     | some k'=>goG nt n true T k' H nx
     | none=>bif p then some (T,.code (.goto i) :: k,H,nx) else none
   | .code (.cond c a b) :: k=>match aq T c with
     | some (.sc (.bool true))=>goG nt n true T (.code a :: k) H nx
     | some (.sc (.bool false))=>goG nt n true T (.code b :: k) H nx
     | _=>bif p then some (T,.code (.cond c a b) :: k,H,nx) else none
   | .code (.region i ops false) :: k=>match ops.toList with
     | []=>goG nt n true T k H nx
     | o :: l=>goG nt n true T (.inReg ops 0 (o :: l) :: k) H nx
   | .inBlock _ :: k=>goG nt n true T k H nx
   | .inScope _ :: k=>goG nt n true T k H nx
   | .inReg _ _ [] :: k=>goG nt n true T k H nx
   | .inReg ops i (⟨some d,op,ty,pos,af,gd⟩ :: l) :: k=>match aE T ops ⟨some d,op,ty,pos,af,gd⟩with
     | some true=>bif Nat.blt d nt then match mO tb T op with
        | some v=>goG nt n true (T.set d v) (.inReg ops (i+1) l :: k) H nx
        | none=>match newG tb T op with
          | some (t,cs)=>goG nt n true (T.set d (.ptr nx 0)) (.inReg ops (i+1) l :: k) (H.set nx (an t cs)) (nx+1)
          | none=>bif p then some (T,.inReg ops i (⟨some d,op,ty,pos,af,gd⟩ :: l) :: k,H,nx) else none
       else none
     | some false=>bif Nat.blt d nt then goG nt n true (T.set d ef) (.inReg ops (i+1) l :: k) H nx else none
     | none=>bif p then some (T,.inReg ops i (⟨some d,op,ty,pos,af,gd⟩ :: l) :: k,H,nx) else none
   | k=>bif p then some (T,k,H,nx) else none
end
section
variable {P:Program} {tb:Tbl} {T:Tr SV} {H:ay}
section
variable {op:Op}{v:SV}{pos:String}{ty:TypeId}{af:Array Edge}{d:Option Tmp}{gd:Option (Nat×Bool)}
theorem Cm(ht:TblOk P tb){x:Operand}{t:TypeId}(h:lenG tb T x t=some v):ReadDoes P T H ⟨d,.call {callee:= .builtin .len,args:= #[x],argTypes:= #[t]},ty,pos,af,gd⟩ v:=by
 unfold lenG at h
 split at h
 ·next hx=>
  split at h
  ·next hu=>
   cases h
   exact tJ (ht.un _ hu) hx
  ·cases h
 ·next hx=>
  split at h
  ·next hu=>
   cases h
   exact wW (ht.un _ hu) hx
  ·cases h
 ·cases h
theorem iZ(ht:TblOk P tb)
 (h:mO tb T op=some v):ReadDoes P T H ⟨d,op,ty,pos,af,gd⟩ v:=by
 unfold mO at h
 split at h
 ·exact BF h
 ·exact w6 h
 ·split at h
  ·next hc=>exact zt hc h
  ·next hc=>exact zu hc h
  ·cases h
 ·split at h
  ·next hx=>exact uT hx h
  ·next hx=>
   split at h
   ·next hj=>
    cases h
    exact sE hx hj
   ·cases h
  ·cases h
 ·split at h
  ·next hx=>
   cases h
   exact sB hx
  ·next hx=>
   cases h
   exact qD hx
  ·next hx=>
   cases h
   exact qE hx
  ·cases h
 ·split at h
  ·next hx=>
   split at h
   ·next hl=>
    split at h
    ·next hk=>
     cases h
     exact qF (ht.fo _ _ hl hk) hx
    ·cases h
   ·cases h
  ·cases h
 ·split at h
  ·next hx=>
   cases h
   exact Dx hx
  ·cases h
 ·split at h
  ·next ha=>
   split at h
   ·next hb=>
    cases h
    exact sC ha hb
   ·cases h
  ·cases h
 ·split at h
  ·next hx=>
   split at h
   ·cases h
   ·next d0 hn hu=>
    cases h
    refine lZ hx ?_
    unfold rd
    rw [ht.un _ hu]
    cases d0 <;> first|rfl|exact absurd rfl (hn _)
   ·cases h
  ·cases h
 ·next t ps=>
  obtain⟨l⟩:=ps
  split at h
  ·next hx=>
   split at h
   ·next hz=>
    split at h
    ·next hl=>
     split at h
     ·next hf=>
      cases h
      exact eI hx (ht.ze _ hz) (ht.pl _ hl) hf
     ·cases h
    ·cases h
   ·cases h
  ·cases h
 ·next c=>
  obtain⟨cl,⟨ax⟩,⟨ts⟩⟩:=c
  dsimp only at h
  split at h
  ·split at h
   ·split at h
    ·exact Cm ht h
    ·cases h
   ·cases h
  ·cases h
 ·cases h
theorem tP(h:mO tb T op=some v): ∀ c,op ≠ .defer c:=by
 intro c hc
 subst hc
 cases h
theorem B9{v:TypeId×List SV}(h:newG tb T op=some v): ∀ c,op ≠ .defer c:=by
 intro c hc
 subst hc
 cases h
theorem B8(ht:TblOk P tb){t:TypeId}{cs:List SV}{nx:Nat}
 (h:newG tb T op=some (t,cs)):OpDoes P T H nx ⟨d,op,ty,pos,af,gd⟩ (.val (.ptr nx 0),H.set nx (an t cs),nx+1):=by
 unfold newG at h
 split at h
 ·split at h
  ·next hz=>
   cases h
   exact aW (ht.zl _ hz)
  ·cases h
 ·split at h
  ·next hx=>
   split at h
   ·next hb=>
    cases h
    unfold Ea at hb
    split at hb <;> cases hb
    ·exact B0 hx
    all_goals exact tU hx rfl
   ·cases h
  ·cases h
 ·cases h
end
variable {ro:Option Nat} {fn nt:Nat} {dfs:List ADf} {Q:Pst}
theorem A2(ht:TblOk P tb) :
 ∀ (n:Nat) {p:Bool} {T T':Tr SV} {k k':List AIt} {H H':ay} {nx nx':Nat},goG tb nt n p T k H nx=some (T',k',H',nx')→Wp P ro ⟨fn,nt,T',k',dfs,H',nx'⟩ Q→Wp P ro ⟨fn,nt,T,k,dfs,H,nx⟩ Q:=by
 have stop: ∀ {p:Bool} {T T':Tr SV} {k k':List AIt} {H H':ay} {nx nx':Nat},(bif p then some (T,k,H,nx) else none:Option GoSt)=some (T',k',H',nx')→Wp P ro ⟨fn,nt,T',k',dfs,H',nx'⟩ Q→Wp P ro ⟨fn,nt,T,k,dfs,H,nx⟩ Q:=by
  intro p T T' k k' H H' nx nx' h hw
  cases p with
  | false=>cases h
  | true=>cases h;exact hw
 intro n
 induction n with
 | zero=>exact fun h hw=>stop h hw
 | succ n ih=>
   intro p T T' k k' H H' nx nx' h hw
   unfold goG at h
   split at h
   ·exact Df (ih h hw)
   ·exact Br (ih h hw)
   ·exact jG (ih h hw)
   ·exact Bu (ih h hw)
   ·exact Bq (ih h hw)
   ·split at h
    ·next hx=>exact Dh hx (ih h hw)
    ·exact stop h hw
   ·split at h
    ·next hx=>exact Dg hx (ih h hw)
    ·exact stop h hw
   ·split at h
    ·next hc=>exact Bs hc (ih h hw)
    ·next hc=>exact Bt hc (ih h hw)
    ·exact stop h hw
   ·next i ops k=>
    obtain⟨l⟩:=ops
    dsimp only at h
    refine y9 ?_
    split at h
    ·exact oV (ih h hw)
    ·exact ih h hw
   ·exact wi (ih h hw)
   ·exact wh (ih h hw)
   ·exact oV (ih h hw)
   ·split at h
    ·next hq=>
     cases hd:Nat.blt _ nt with
     | false=>rw [hd] at h;cases h
     | true=>
       rw [hd,cond_true] at h
       split at h
       ·next hv=>exact dn hq (.inr (tP hv)) (iZ ht hv).does (by rw [aI hd];exact ih h hw)
       ·split at h
        ·next hv=>exact dn hq (.inr (B9 hv)) (B8 ht hv) (by rw [aI hd];exact ih h hw)
        ·exact stop h hw
    ·next hq=>
     cases hd:Nat.blt _ nt with
     | false=>rw [hd] at h;cases h
     | true=>
       rw [hd,cond_true] at h
       exact y_not hq (by show Wp P ro ⟨fn,nt,kY nt T (some _) ef,_,dfs,H,nx⟩ Q;rw [aI hd];exact ih h hw)
    ·exact stop h hw
   ·exact stop h hw
end
def hdO(nt:Nat)(ops:Array Oper)(T:Tr SV)(o:Oper):Option (Option Nat×Op):=match aE T ops o with
 | some true=>match o.dst with
   | some d=>bif Nat.blt d nt then some (some d,o.op) else none
   | none=>some (none,o.op)
 | _=>none
def hdG(nt:Nat)(T:Tr SV):List AIt→Option (Option Nat×Op×List AIt)
 | .inReg ops i (o :: l) :: k=>match hdO nt ops T o with
   | some (d,op)=>some (d,op,.inReg ops (i+1) l :: k)
   | none=>none
 | _=>none
theorem A1{nt:Nat}{ops:Array Oper}{T:Tr SV}{o:Oper}{d:Option Nat}{op:Op}(h:hdO nt ops T o=some (d,op)):aE T ops o=some true∧o.dst=d∧o.op=op∧ ∀ x,d=some x→Nat.blt x nt=true:=by
 unfold hdO at h
 split at h
 ·next hw=>
  split at h
  ·next d0 hd=>
   cases hb:Nat.blt d0 nt with
   | false=>rw [hb] at h;cases h
   | true=>
     rw [hb] at h
     cases h
     exact⟨hw,hd,rfl,fun x hx=>by cases hx;exact hb⟩
  ·next hd=>
   cases h
   exact⟨hw,hd,rfl,fun x hx=>by cases hx⟩
 ·cases h
section
variable {P:Program} {ro:Option Nat} {fn nt nx d:Nat} {T:Tr SV} {k k':List AIt} {dfs:List ADf} {H:ay} {Q:Pst} {op:Op}
theorem x7{d:Option Nat}(h:hdG nt T k=some (d,op,k')): ∃ ops i ty pos af gd l r,k = .inReg ops i (⟨d,op,ty,pos,af,gd⟩ :: l) :: r∧k' = .inReg ops (i+1) l :: r∧aE T ops ⟨d,op,ty,pos,af,gd⟩=some true∧ ∀ x,d=some x→Nat.blt x nt=true:=by
 unfold hdG at h
 split at h
 ·next ops i o l r=>
  split at h
  ·next ho=>
   cases h
   obtain⟨h1,h2,h3,h4⟩:=A1 ho
   obtain⟨dst,op,ty,pos,af,gd⟩:=o
   cases h2
   cases h3
   exact⟨_,_,_,_,_,_,_,_,rfl,rfl,h1,h4⟩
  ·cases h
 ·cases h
theorem Cr{v:SV}(h:hdG nt T k=some (some d,op,k'))(hn:ndf op=true)(hr: ∀ {d:Option Tmp} {ty:TypeId} {pos:String} {af:Array Edge} {gd:Option (Nat×Bool)},ReadDoes P T H ⟨d,op,ty,pos,af,gd⟩ v)(hw:Wp P ro ⟨fn,nt,T.set d v,k',dfs,H,nx⟩ Q):Wp P ro ⟨fn,nt,T,k,dfs,H,nx⟩ Q:=by
 obtain⟨_,_,_,_,_,_,_,_,rfl,rfl,h1,h2⟩:=x7 h
 exact bO hr h1 (h2 d rfl) hn hw
theorem DR{H':ay}{nx':Nat}(h:hdG nt T k=some (none,op,k'))(hn:ndf op=true)(hr: ∀ {d:Option Tmp} {ty:TypeId} {pos:String} {af:Array Edge} {gd:Option (Nat×Bool)},OpDoes P T H nx ⟨d,op,ty,pos,af,gd⟩ (.skip,H',nx'))(hw:Wp P ro ⟨fn,nt,T,k',dfs,H',nx'⟩ Q):Wp P ro ⟨fn,nt,T,k,dfs,H,nx⟩ Q:=by
 obtain⟨_,_,_,_,_,_,_,_,rfl,rfl,h1,_⟩:=x7 h
 exact w_nn hr h1 hn hw
end
def ptrB:Option SV→Option Nat
 | some (.ptr b _)=>some b
 | _=>none
def zS(nt:Nat)(T:Tr SV)(k:List AIt):Option Nat:=match hdG nt T k with
 | some (_,.load _ x,_)=>ptrB (aq T x)
 | some (_,.store _ x _,_)=>ptrB (aq T x)
 | _=>none
def ldV(a:Option Nat)(o:Nat)(cs:List SV):Option SV:=match a with
 | none=>match cs[o]? with
   | some v=>some v
   | none=>none
 | some n=>bif Nat.beq o 0 && Nat.beq cs.length n then some (.agg cs) else none
def memG(tb:Tbl)(nt:Nat)(T:Tr SV)(H:ay)(b:Nat)(bt:TypeId)(cs:List SV)(k:List AIt):Option (Tr SV×List AIt×ay):=match hdG nt T k with
 | some (some d,.load t x,k')=>match aq T x with
   | some (.ptr _ o)=>match tb.ag[t]? with
     | some (some a)=>match ldV a o cs with
       | some v=>some (T.set d v,k',H)
       | none=>none
     | _=>none
   | _=>none
 | some (none,.store t a x,k')=>match aq T a with
   | some (.ptr _ o)=>match aq T x with
     | some v=>match Ea v with
       | some vs=>match tb.sz[t]? with
         | some (some n)=>bif Nat.beq vs.length n && Nat.ble (o+n) cs.length && cr vs then some (T,k',H.set b (an bt (cs.take o ++ v.cells ++ cs.drop (o+n)))) else none
         | _=>none
       | none=>none
     | none=>none
   | _=>none
 | _=>none
theorem CG{v:SV}{vs:List SV}(h:Ea v=some vs):v.cells=vs:=by
 unfold Ea at h
 split at h <;> cases h <;> rfl
theorem AQ{P:Program}{tb:Tbl}(ht:TblOk P tb){T:Tr SV}{H:ay}{t x b o bt}{a:Option Nat}{cs:List SV}{v:SV}{d:Option Tmp}{ty:TypeId}{pos:String}{af:Array Edge}{gd:Option (Nat×Bool)}(ha:tb.ag[t]? =some (some a))(hx:aq T x=some (.ptr b o))(hb:H.at' b=some (an bt cs))(hv:ldV a o cs=some v) :
 ReadDoes P T H ⟨d,.load t x,ty,pos,af,gd⟩ v:=by
 unfold ldV at hv
 split at hv
 ·split at hv
  ·next hc=>cases hv;exact aK (ht.ag _ ha) hx hb (aF hc)
  ·cases hv
 ·next n=>
  cases hn:(Nat.beq o 0 && Nat.beq cs.length n)with
  | false=>rw [hn] at hv;cases hv
  | true=>
    rw [hn,cond_true] at hv
    cases hv
    have hn':=Bool.and_eq_true_iff.1 hn
    have h0:=E5 hn'.1
    have hl:=E5 hn'.2
    subst h0
    exact bn (ht.ag _ ha) hx hb (aB _ 0 (by rw [← hl];simp) hl)
theorem Cb{P:Program}{ro:Option Nat}{fn nt:Nat}{dfs:List ADf}{Q:Pst}{tb:Tbl}(ht:TblOk P tb)
 {T T':Tr SV} {k k':List AIt} {H H':ay} {nx b bt:Nat} {cs:List SV} (h1:zS nt T k=some b) (h2:H.at' b=some (an bt cs)) (h3:memG tb nt T H b bt cs k=some (T',k',H')) (hw:Wp P ro ⟨fn,nt,T',k',dfs,H',nx⟩ Q):Wp P ro ⟨fn,nt,T,k,dfs,H,nx⟩ Q:=by
 unfold memG at h3
 split at h3
 ·next hh=>
  split at h3
  ·next hx=>
   simp only [zS,hh,hx,ptrB,Ej] at h1
   subst h1
   split at h3
   ·next ha=>
    split at h3
    ·next hv=>
     cases h3
     exact Cr hh rfl (AQ ht ha hx h2 hv) hw
    ·cases h3
   ·cases h3
  ·cases h3
 ·next hh=>
  split at h3
  ·next ha=>
   simp only [zS,hh,ha,ptrB,Ej] at h1
   subst h1
   split at h3
   ·next hx=>
    split at h3
    ·next hb=>
     split at h3
     ·next hs=>
      cases hn:(Nat.beq _ _ && Nat.ble _ cs.length && cr _)with
      | false=>rw [hn] at h3;cases h3
      | true=>
        rw [hn,cond_true] at h3
        cases h3
        have hn':=Bool.and_eq_true_iff.1 hn
        have hn2:=Bool.and_eq_true_iff.1 hn'.1
        have e:=CG hb
        subst e
        exact DR hh rfl (gU (ht.sz _ hs) ha hx rfl h2 (E5 hn2.1) (Ep hn2.2) hn'.2) hw
     ·cases h3
    ·cases h3
   ·cases h3
  ·cases h3
 ·cases h3
def BB:IntKind→IntKind→Bool
 | .i64,.i64=>true
 | .u8,.u8=>true
 | .u16,.u16=>true
 | .u32,.u32=>true
 | .u64,.u64=>true
 | .i32,.i32=>true
 | _,_=>false
theorem zo{a b:IntKind}(h:BB a b=true):a=b:=by
 cases a <;> cases b <;> first|rfl|cases h
def Eb(nt:Nat)(T:Tr SV)(k:List AIt):Option (BinOp×IntKind×Int×Int×Nat×List AIt):=match hdG nt T k with
 | some (some d,.binOp op _ x y _,k')=>match aq T x with
   | some (.sc (.int ka a))=>match aq T y with
     | some (.sc (.int kb b))=>bif BB ka kb then some (op,ka,a,b,d,k') else none
     | _=>none
   | _=>none
 | _=>none
def ariG(nt:Nat)(T:Tr SV)(k:List AIt):Option (Int×Nat×List AIt):=match Eb nt T k with
 | some (.add,.i64,a,b,d,k')=>some (a+b,d,k')
 | some (.sub,.i64,a,b,d,k')=>some (a-b,d,k')
 | some (.mul,.i64,a,b,d,k')=>some (a*b,d,k')
 | _=>none
def ordG(w:Bool)(op:BinOp)(a b:Int):Option (Int×Int):=match op with
 | .lss=>bif w then some (a+1,b) else some (b,a)
 | .leq=>bif w then some (a,b) else some (b+1,a)
 | .gtr=>bif w then some (b+1,a) else some (a,b)
 | .geq=>bif w then some (b,a) else some (a+1,b)
 | _=>none
def ordW(w:Bool)(nt:Nat)(T:Tr SV)(k:List AIt):Option (Int×Int×Nat×List AIt):=match Eb nt T k with
 | some (op,_,a,b,d,k')=>match ordG w op a b with
   | some (x,y)=>some (x,y,d,k')
   | none=>none
 | none=>none
def eqW(w:Bool)(nt:Nat)(T:Tr SV)(k:List AIt):Option (Int×Int×Bool×Nat×List AIt):=match Eb nt T k with
 | some (.eql,_,a,b,d,k')=>some (a,b,w,d,k')
 | some (.neq,_,a,b,d,k')=>some (a,b,!w,d,k')
 | _=>none
section
variable {P:Program} {ro:Option Nat} {fn nt nx d:Nat} {T:Tr SV} {k k':List AIt} {dfs:List ADf} {H:ay} {Q:Pst}
section
variable {a b x y:Int}{c:Bool}
theorem oB{op:BinOp}{kd:IntKind}{v:SV}(h:Eb nt T k=some (op,kd,a,b,d,k'))(hr: ∀ {t yt:TypeId} {x y:Operand} {d:Option Tmp} {ty:TypeId} {pos:String} {af:Array Edge} {gd:Option (Nat×Bool)},aq T x=some (.sc (.int kd a))→aq T y=some (.sc (.int kd b))→ReadDoes P T H ⟨d,.binOp op t x y yt,ty,pos,af,gd⟩ v)
 (hw:Wp P ro ⟨fn,nt,T.set d v,k',dfs,H,nx⟩ Q):Wp P ro ⟨fn,nt,T,k,dfs,H,nx⟩ Q:=by
 unfold Eb at h
 split at h
 ·next hh=>
  split at h
  ·next hx=>
   split at h
   ·next hy=>
    cases hs:BB _ _ with
    | false=>rw [hs] at h;cases h
    | true=>
      rw [hs,cond_true] at h
      cases h
      have e:=zo hs
      subst e
      exact Cr hh rfl (hr hx hy) hw
   ·cases h
  ·cases h
 ·cases h
theorem aC{n:Int}(h:ariG nt T k=some (n,d,k'))(h1 : -9223372036854775808≤n)(h2:n≤9223372036854775807)(hw:Wp P ro ⟨fn,nt,T.set d (.sc (.int .i64 n)),k',dfs,H,nx⟩ Q):Wp P ro ⟨fn,nt,T,k,dfs,H,nx⟩ Q:=by
 have e:=(Ek n ⟨h1,h2⟩).symm
 unfold ariG at h
 split at h
 ·next hb=>cases h;exact oB hb (fun hx hy=>am hx hy (.inl ⟨rfl,e⟩)) hw
 ·next hb=>cases h;exact oB hb (fun hx hy=>am hx hy (.inr (.inl ⟨rfl,e⟩))) hw
 ·next hb=>cases h;exact oB hb (fun hx hy=>am hx hy (.inr (.inr ⟨rfl,e⟩))) hw
 ·cases h
theorem AI(w:Bool)(h:ordW w nt T k=some (x,y,d,k'))(hxy:x≤y)(hw:Wp P ro ⟨fn,nt,T.set d (.sc (.bool w)),k',dfs,H,nx⟩ Q):Wp P ro ⟨fn,nt,T,k,dfs,H,nx⟩ Q:=by
 unfold ordW at h
 split at h
 ·next hb=>
  split at h
  ·next hr=>
   cases h
   refine oB hb (fun hx hy=>cu (c:=w) hx hy ?_) hw
   unfold ordG at hr
   split at hr <;> cases w <;> cases hr <;> simp <;> omega
  ·cases h
 ·cases h
theorem w_cT(h:ordW true nt T k=some (x,y,d,k'))(hxy:x≤y)(hw:Wp P ro ⟨fn,nt,T.set d (.sc (.bool true)),k',dfs,H,nx⟩ Q):Wp P ro ⟨fn,nt,T,k,dfs,H,nx⟩ Q:=AI true h hxy hw
theorem si(h:ordW false nt T k=some (x,y,d,k'))(hxy:x≤y)(hw:Wp P ro ⟨fn,nt,T.set d (.sc (.bool false)),k',dfs,H,nx⟩ Q):Wp P ro ⟨fn,nt,T,k,dfs,H,nx⟩ Q:=AI false h hxy hw
theorem Dj(w:Bool)(h:eqW w nt T k=some (a,b,c,d,k'))(hab:(a == b)=w)(hw:Wp P ro ⟨fn,nt,T.set d (.sc (.bool c)),k',dfs,H,nx⟩ Q):Wp P ro ⟨fn,nt,T,k,dfs,H,nx⟩ Q:=by
 unfold eqW at h
 split at h
 ·next hb=>cases h;exact oB hb (fun hx hy=>cu hx hy (by simp [← hab,bne])) hw
 ·next hb=>cases h;exact oB hb (fun hx hy=>cu hx hy (by simp [← hab,bne])) hw
 ·cases h
theorem jK(h:eqW true nt T k=some (a,b,c,d,k'))(hab:a=b)(hw:Wp P ro ⟨fn,nt,T.set d (.sc (.bool c)),k',dfs,H,nx⟩ Q):Wp P ro ⟨fn,nt,T,k,dfs,H,nx⟩ Q:=Dj true h (by simp [hab]) hw
theorem sh(h:eqW false nt T k=some (a,b,c,d,k'))(hab:a≠b)(hw:Wp P ro ⟨fn,nt,T.set d (.sc (.bool c)),k',dfs,H,nx⟩ Q):Wp P ro ⟨fn,nt,T,k,dfs,H,nx⟩ Q:=Dj false h (by simp [hab]) hw
def CE(nt:Nat)(T:Tr SV)(k:List AIt):Option (FuncId×List SV×Nat×List AIt):=match hdG nt T k with
 | some (some d,.call c,k')=>match c.callee with
   | .value (.func g)=>match cY T c.args.toList with
     | some vs=>some (g,vs,d,k')
     | none=>none
   | _=>none
 | _=>none
theorem w_cm{g:FuncId}{args:List SV}(h:CE nt T k=some (g,args,d,k'))(hm:bB P g=true)(hf:Fnc P g args H nx (fun r=>Wp P ro ⟨fn,nt,T.set d r.1,k',dfs,r.2.1,r.2.2⟩ Q)):Wp P ro ⟨fn,nt,T,k,dfs,H,nx⟩ Q:=by
 unfold CE at h
 split at h
 ·next hh=>
  split at h
  ·next hcl=>
   split at h
   ·next ha=>
    cases h
    obtain⟨_,_,_,_,_,_,_,_,rfl,rfl,h1,h2⟩:=x7 hh
    refine tj h1 ?_ (by simp only [aI (h2 d rfl)];exact hf)
    unfold bE
    simp only [ha,hcl,aq,c7,hm,cond_true,List.map_nil,List.nil_append,E3]
   ·cases h
  ·cases h
 ·cases h
theorem cT{g:FuncId}{args:List SV}{v:SV}{H':ay}{nx':Nat}(h:CE nt T k=some (g,args,d,k'))(hm:bB P g=true)(hf:Fnc P g args H nx (fun r=>r=(v,H',nx')))(hw:Wp P ro ⟨fn,nt,T.set d v,k',dfs,H',nx'⟩ Q):Wp P ro ⟨fn,nt,T,k,dfs,H,nx⟩ Q:=
 w_cm h hm (Gi hf (fun r hr=>by subst hr;exact hw))
def Dw(T:Tr SV):List ResultVar→Option (List SV)
 | []=>some []
 | .tmp t :: l=>match T.at' t with
   | some v=>match Dw T l with
     | some r=>some (v :: r)
     | none=>none
   | none=>none
 | _ :: _=>none
theorem sw: ∀ {l:List ResultVar} {vs:List SV},Dw T l=some vs→ResIs P H T l vs
 | [],vs,h=>by cases h;exact .nil
 | .tmp t :: l,vs,h=>by
   unfold Dw at h
   split at h
   ·next hv=>
    split at h
    ·next hr=>cases h;exact .tmp hv (sw hr)
    ·cases h
   ·cases h
 | .cell _ _ :: _,vs,h=>by cases h
theorem b8{F:Func}{rl:Array ResultVar}{vs:List SV}(hf:P.funcs[fn]? =some F)(hl:F.results=rl)(hv:Dw T rl.toList=some vs)(h:Q (fi vs,H,nx)):Wp P none ⟨fn,nt,T,.code .ret :: k,[],H,nx⟩ Q:=bw hf (congrArg Array.toList hl) (sw hv) h
theorem wo{F:Func}{rl:Array ResultVar}{vs:List SV}(hf:P.funcs[fn]? =some F)(hl:F.results=rl)(hv:Dw T rl.toList=some vs)(h:Q (fi vs,H,nx)):Wp P none ⟨fn,nt,T,[],[],H,nx⟩ Q:=jI hf (congrArg Array.toList hl) (sw hv) h
end
end
def ldW(tb:Tbl)(nt:Nat)(T:Tr SV)(k:List AIt):Option (Nat×Nat×Nat×List AIt):=match hdG nt T k with
 | some (some d,.load t x,k')=>match aq T x with
   | some (.ptr b 0)=>match tb.ag[t]? with
     | some (some (some n))=>some (b,n,d,k')
     | _=>none
   | _=>none
 | _=>none
def stW(tb:Tbl)(nt:Nat)(T:Tr SV)(k:List AIt):Option (Nat×Nat×List SV×List AIt):=match hdG nt T k with
 | some (none,.store t a x,k')=>match aq T a with
   | some (.ptr b 0)=>match aq T x with
     | some (.agg vs)=>match tb.sz[t]? with
       | some (some n)=>some (b,n,vs,k')
       | _=>none
     | _=>none
   | _=>none
 | _=>none
section
variable {P:Program} {tb:Tbl} (ht:TblOk P tb) {ro:Option Nat} {fn nt nx d b n bt:Nat} {T:Tr SV} {k k':List AIt} {dfs:List ADf} {H:ay} {Q:Pst} {cs vs:List SV}
include ht
theorem w_ldW(h:ldW tb nt T k=some (b,n,d,k'))(hb:H.at' b=some (an bt cs))(hn:cs.length=n)(hw:Wp P ro ⟨fn,nt,T.set d (.agg cs),k',dfs,H,nx⟩ Q):Wp P ro ⟨fn,nt,T,k,dfs,H,nx⟩ Q:=by
 unfold ldW at h
 split at h
 ·next hh=>
  split at h
  ·next hx=>
   split at h
   ·next ha=>
    cases h
    exact Cr hh rfl (bn (ht.ag _ ha) hx hb (aB _ 0 (by rw [← hn];simp) hn)) hw
   ·cases h
  ·cases h
 ·cases h
theorem w_stW(h:stW tb nt T k=some (b,n,vs,k'))(hb:H.at' b=some (an bt cs))(hv:vs.length=n)(hn:cs.length=n)(h1:cr vs=true)(hw:Wp P ro ⟨fn,nt,T,k',dfs,H.set b (an bt vs),nx⟩ Q):Wp P ro ⟨fn,nt,T,k,dfs,H,nx⟩ Q:=by
 unfold stW at h
 split at h
 ·next hh=>
  split at h
  ·next ha=>
   split at h
   ·next hx=>
    split at h
    ·next hs=>
     cases h
     refine DR hh rfl (gU (ht.sz _ hs) ha hx rfl hb hv (by omega) h1) ?_
     have e:cs.take 0 ++ (SV.agg vs).cells ++ cs.drop (0+n)=vs:=by
      show cs.take 0 ++ vs ++ _=vs
      rw [List.take_zero,List.nil_append,List.drop_eq_nil_of_le (by omega),E3]
     rw [e]
     exact hw
    ·cases h
   ·cases h
  ·cases h
 ·cases h
end
def opG(tb:Tbl)(nt:Nat)(ops:Array Oper)(T:Tr SV)(o:Oper):Option (Nat×SV):=match hdO nt ops T o with
 | some (some d,op)=>match mO tb T op with
   | some v=>some (d,v)
   | none=>none
 | _=>none
def ldO(tb:Tbl)(nt:Nat)(ops:Array Oper)(T:Tr SV)(o:Oper):Option (Nat×Nat×Option Nat×Nat):=match hdO nt ops T o with
 | some (some d,.load t x)=>match aq T x with
   | some (.ptr b o)=>match tb.ag[t]? with
     | some (some a)=>some (b,o,a,d)
     | _=>none
   | _=>none
 | _=>none
section
variable {P:Program} {tb:Tbl} (ht:TblOk P tb) {nt i nx stg d:Nat} {ops:Array Oper} {o:Oper} {l:List Oper} {T:Tr SV} {H:ay} {rs:List Rec} {Hs:List (ay×Nat)} {K:DS→Prop} {v:SV}
theorem D3{op:Op}(h:hdO nt ops (aT T (aV ops.toList o)) o=some (some d,op))(hn: ∀ c,op ≠ .defer c)(hr: ∀ {d:Option Tmp} {ty:TypeId} {pos:String} {af:Array Edge} {gd:Option (Nat×Bool)},ReadDoes P (aT T (aV ops.toList o)) H ⟨d,op,ty,pos,af,gd⟩ v)
 (hk:DrawK P nt ops (i+1) l ⟨T.set d v,H,nx,⟨i,o,aT T (aV ops.toList o),stg,false,true,v⟩ :: rs,Hs,stg⟩ K):DrawK P nt ops i (o :: l) ⟨T,H,nx,rs,Hs,stg⟩ K:=by
 obtain⟨h1,h2,h3,h4⟩:=A1 h
 obtain⟨dst,op',ty,pos,af,gd⟩:=o
 cases h2
 cases h3
 exact cd h1 (h4 d rfl) hn hr hk
include ht
theorem D4(h:opG tb nt ops (aT T (aV ops.toList o)) o=some (d,v))(hk:DrawK P nt ops (i+1) l ⟨T.set d v,H,nx,⟨i,o,aT T (aV ops.toList o),stg,false,true,v⟩ :: rs,Hs,stg⟩ K):DrawK P nt ops i (o :: l) ⟨T,H,nx,rs,Hs,stg⟩ K:=by
 unfold opG at h
 split at h
 ·next hh=>
  split at h
  ·next hv=>
   cases h
   exact D3 hh (tP hv) (iZ ht hv) hk
  ·cases h
 ·cases h
theorem D2{b oo bt:Nat}{a:Option Nat}{cs:List SV}(h:ldO tb nt ops (aT T (aV ops.toList o)) o=some (b,oo,a,d))(hb:H.at' b=some (an bt cs))(hv:ldV a oo cs=some v)
 (hk:DrawK P nt ops (i+1) l ⟨T.set d v,H,nx,⟨i,o,aT T (aV ops.toList o),stg,false,true,v⟩ :: rs,Hs,stg⟩ K):DrawK P nt ops i (o :: l) ⟨T,H,nx,rs,Hs,stg⟩ K:=by
 unfold ldO at h
 split at h
 ·next hh=>
  split at h
  ·next hx=>
   split at h
   ·next ha=>
    cases h
    exact D3 hh (fun c hc=>by cases hc) (AQ ht ha hx hb hv) hk
   ·cases h
  ·cases h
 ·cases h
end
section
variable {P:Program} {tb:Tbl} {ancs chain:List Nat} {Q:List (ay×Nat)} {r:Rec} {l:List Rec}
theorem cc(h:r.chain=true)(k:FlOk P ancs chain Q l):FlOk P ancs chain Q (r :: l):=⟨.inl (nw h),k⟩
theorem oC(h:r.wanted=false)(k:FlOk P ancs chain Q l):FlOk P ancs chain Q (r :: l):=⟨.inl (uy h),k⟩
theorem fl_pG(ht:TblOk P tb)(h:mO tb r.T r.o.op=some r.val)(k:FlOk P ancs chain Q l):FlOk P ancs chain Q (r :: l):=⟨.inr (AllH.all (fun _=>iZ ht h) _),k⟩
end
end Go.Sy
namespace Go.Proofs.YtelnglhodnoclaaGreat
open Go Go.Sy
abbrev wA:Tbl:=⟨F.foL,F.zlL,F.unL,F.agL,F.szL,F.zeL,F.plL⟩
theorem jz:TblOk Tryz.prog wA:=⟨F.fo,F.zl,F.un,F.ag,F.sz,F.ze,F.pl⟩
section
variable {ro:Option Nat} {fn nt nx nx':Nat} {T T':Tr SV} {k k':List AIt} {dfs:List ADf} {H H':ay} {Q:Pst}
theorem ah(h:goG wA nt 200 false T k H nx=some (T',k',H',nx'))(hw:Wp Tryz.prog ro ⟨fn,nt,T',k',dfs,H',nx'⟩ Q):Wp Tryz.prog ro ⟨fn,nt,T,k,dfs,H,nx⟩ Q:=A2 jz 200 h hw
theorem a6(h:goG wA nt 1 false T k H nx=some (T',k',H',nx'))(hw:Wp Tryz.prog ro ⟨fn,nt,T',k',dfs,H',nx'⟩ Q):Wp Tryz.prog ro ⟨fn,nt,T,k,dfs,H,nx⟩ Q:=A2 jz 1 h hw
theorem aM{b bt:Nat}{cs:List SV}(h1:zS nt T k=some b)(h2:H.at' b=some (an bt cs))(h3:memG wA nt T H b bt cs k=some (T',k',H'))(hw:Wp Tryz.prog ro ⟨fn,nt,T',k',dfs,H',nx⟩ Q):Wp Tryz.prog ro ⟨fn,nt,T,k,dfs,H,nx⟩ Q:=Cb jz h1 h2 h3 hw
theorem kO{i stg d b o bt:Nat}{a:Option Nat}{cs:List SV}{ops:Array Oper}{op:Oper}{l:List Oper}{rs:List Rec}{Hs:List (ay×Nat)}{K:DS→Prop}{v:SV}
 (h:ldO wA nt ops (aT T (aV ops.toList op)) op=some (b,o,a,d)) (hb:H.at' b=some (an bt cs)) (hv:ldV a o cs=some v) (hk:DrawK Tryz.prog nt ops (i+1) l ⟨T.set d v,H,nx,⟨i,op,aT T (aV ops.toList op),stg,false,true,v⟩ :: rs,Hs,stg⟩ K):DrawK Tryz.prog nt ops i (op :: l) ⟨T,H,nx,rs,Hs,stg⟩ K:=D2 jz h hb hv hk
theorem az{i stg dd:Nat}{ops:Array Oper}{o:Oper}{l:List Oper}{rs:List Rec}{Hs:List (ay×Nat)}{K:DS→Prop}{v:SV}(h:opG wA nt ops (aT T (aV ops.toList o)) o=some (dd,v))(hk:DrawK Tryz.prog nt ops (i+1) l ⟨T.set dd v,H,nx,⟨i,o,aT T (aV ops.toList o),stg,false,true,v⟩ :: rs,Hs,stg⟩ K):DrawK Tryz.prog nt ops i (o :: l) ⟨T,H,nx,rs,Hs,stg⟩ K:=D4 jz h hk
theorem bN{ancs chain:List Nat}{Q:List (ay×Nat)}{r:Rec}{l:List Rec}(h:mO wA r.T r.o.op=some r.val)(k:FlOk Tryz.prog ancs chain Q l):FlOk Tryz.prog ancs chain Q (r :: l):=fl_pG jz h k
end
end Go.Proofs.YtelnglhodnoclaaGreat
end
section
namespace Go.Sy
open Go Go.Sl Go.RowKit
abbrev Own:=ay→(Nat→Prop)→Prop
def uE(A:Own):Prop:= ∀ H H' F,A H F→(∀ n,F n→H'.at' n=H.at' n)→A H' F
section
variable {K X:Type} (P:K→X→Own)
def Big:List (K×X)→Own
 | [],_,F=> ∀ n,¬ F n
 | x :: m,H,F=> ∃ F1 F2,P x.1 x.2 H F1∧Big m H F2∧(∀ n,F1 n→ ¬ F2 n)∧ ∀ n,F n↔F1 n∨F2 n
variable {P}
theorem Big.frame(hP: ∀ k x,uE (P k x)): ∀ m,uE (Big P m)
 | [],H,H',F,h,_=>h
 | x :: m,H,H',F,⟨F1,F2,h1,h2,h3,h4⟩,hf=>⟨F1,F2,hP _ _ H H' F1 h1 fun n hn=>hf n ((h4 n).2 (.inl hn)),Big.frame hP m H H' F2 h2 fun n hn=>hf n ((h4 n).2 (.inr hn)),h3,h4⟩
theorem Big.same{m:List (K×X)}{H:ay}{F F':Nat→Prop}(h:Big P m H F)(hF: ∀ n,F' n↔F n):Big P m H F':=by
 have:F'=F:=funext fun n=>propext (hF n)
 rw [this];exact h
theorem Big.focus{k:K}{x:X}{B:List (K×X)}{H:ay}: ∀ {A:List (K×X)} {F:Nat→Prop},Big P (A ++ (k,x) :: B) H F→ ∃ F1 F2,P k x H F1∧Big P (A ++ B) H F2∧(∀ n,F1 n→ ¬ F2 n)∧ ∀ n,F n↔F1 n∨F2 n
 | [],F,h=>h
 | y :: A,F,⟨G1,G2,h1,h2,h3,h4⟩=>by
   obtain⟨F1,F2,g1,g2,g3,g4⟩:=Big.focus (A:=A) h2
   refine⟨F1,fun n=>G1 n∨F2 n,g1,⟨G1,F2,h1,g2,fun n hn h=>h3 n hn ((g4 n).2 (.inr h)),fun n=>Iff.rfl⟩,fun n hn h=>?_,fun n=>?_⟩
   ·rcases h with h|h
    ·exact h3 n h ((g4 n).2 (.inl hn))
    ·exact g3 n hn h
   ·rw [h4,g4]
    constructor
    ·rintro(h|h|h)
     ·exact .inr (.inl h)
     ·exact .inl h
     ·exact .inr (.inr h)
    ·rintro(h|h|h)
     ·exact .inr (.inl h)
     ·exact .inl h
     ·exact .inr (.inr h)
theorem Big.qd{k:K}{x:X}{B:List (K×X)}{H:ay}{F1:Nat→Prop}(h:P k x H F1): ∀ {A:List (K×X)} {F2:Nat→Prop},Big P (A ++ B) H F2→(∀ n,F1 n→ ¬ F2 n)→Big P (A ++ (k,x) :: B) H (fun n=>F1 n∨F2 n)
 | [],F2,h2,h3=>⟨F1,F2,h,h2,h3,fun n=>Iff.rfl⟩
 | y :: A,F2,⟨G1,G2,g1,g2,g3,g4⟩,h3=>by
   refine⟨G1,fun n=>F1 n∨G2 n,g1,Big.qd (A:=A) h g2 (fun n hn h'=>h3 n hn ((g4 n).2 (.inr h'))),fun n hn h'=>?_,fun n=>?_⟩
   ·rcases h' with h'|h'
    ·exact h3 n h' ((g4 n).2 (.inl hn))
    ·exact g3 n hn h'
   ·show F1 n∨F2 n↔_
    rw [g4]
    constructor
    ·rintro(h|h|h)
     ·exact .inr (.inl h)
     ·exact .inl h
     ·exact .inr (.inr h)
    ·rintro(h|h|h)
     ·exact .inr (.inl h)
     ·exact .inl h
     ·exact .inr (.inr h)
theorem Big.nil{H:ay}:Big P [] H (fun _=>False):=fun _ h=>h
end
section
variable {K V:Type} [DecidableEq K]
abbrev kv(m:List (K×V×Nat)):List (K×V):=m.map fun x=>(x.1,x.2.1)
theorem vy{m:List (K×V×Nat)}{k:K}{v:V}(h:io m k=some v): ∃ A B s,m=A ++ (k,v,s) :: B∧io A k=none∧(∀ w c,nO m k w c=A ++ (k,w,s) :: B)∧kZ m k=A ++ B:=by
 induction m with
 | nil=>simp [io] at h
 | cons y m ih=>
   by_cases hy:y.1=k
   ·simp [io,hy] at h
    obtain⟨y1,y2,y3⟩:=y
    simp at hy h
    exact⟨[],m,y3,by simp [hy,h],rfl,fun w c=>by simp [nO,hy],by simp [kZ,hy]⟩
   ·have h':io m k=some v:=by simpa [io,hy] using h
    obtain⟨A,B,s,h1,h2,h3,h4⟩:=ih h'
    exact⟨y :: A,B,s,by rw [h1];rfl,by simpa [io,hy] using h2,fun w c=>by simp [nO,hy,h3],by simp [kZ,hy,h4]⟩
end
section
variable {P:Program} {T:Tr SV} {H:ay} {nx:Nat} {d:Option Tmp} {ty:TypeId} {pos:String} {af:Array Edge} {gd:Option (Nat×Bool)}
section
variable {t yt:TypeId}{x y:Operand}{a b:ByteArray}
theorem tK(hx:aq T x=some (.sc (.string a)))(hy:aq T y=some (.sc (.string b))):ReadDoes P T H ⟨d,.binOp .eql t x y yt,ty,pos,af,gd⟩ (.sc (.bool (a == b))):=by
 refine cU fun ev w he=>?_
 have e1:=he x _ hx _ rfl
 have e2:=he y _ hy _ rfl
 rw [beq_toListBytes]
 simp [execOp,e1,e2,eqGuard,binOp,Op.stringOp]
theorem zv(hx:aq T x=some (.sc (.string a)))(hy:aq T y=some (.sc (.string b))):ReadDoes P T H ⟨d,.binOp .neq t x y yt,ty,pos,af,gd⟩ (.sc (.bool (a != b))):=by
 refine cU fun ev w he=>?_
 have e1:=he x _ hx _ rfl
 have e2:=he y _ hy _ rfl
 rw [show(a != b) = !(a == b)from rfl,beq_toListBytes]
 simp [execOp,e1,e2,eqGuard,binOp,Op.stringOp]
theorem wZ{r:Bool}(hx:aq T x=some (.sc (.string a)))(hy:aq T y=some (.sc (.string b)))(hr:(a == b)=r):ReadDoes P T H ⟨d,.binOp .eql t x y yt,ty,pos,af,gd⟩ (.sc (.bool r)):=hr ▸ tK hx hy
theorem wU{r:Bool}(hx:aq T x=some (.sc (.string a)))(hy:aq T y=some (.sc (.string b)))(hr:(a != b)=r):ReadDoes P T H ⟨d,.binOp .neq t x y yt,ty,pos,af,gd⟩ (.sc (.bool r)):=hr ▸ zv hx hy
end
end
section
variable {P:Program} {ro:Option Nat} {fn nt nx:Nat} {T:Tr SV} {k:List AIt} {dfs:List ADf} {H:ay} {Q:Pst} {ops:Array Oper} {i:Nat} {l:List Oper} {d:Option Tmp} {ty:TypeId} {pos:String} {af:Array Edge} {gd:Option (Nat×Bool)}
theorem tv{t yt:TypeId}{x y:Operand}{a b:ByteArray}{r:Bool}{dd:Nat}(hw:aE T ops ⟨some dd,.binOp .eql t x y yt,ty,pos,af,gd⟩=some true)(hd:Nat.blt dd nt=true)(hx:aq T x=some (.sc (.string a)))(hy:aq T y=some (.sc (.string b)))(hr:(a == b)=r)
 (h:Wp P ro ⟨fn,nt,T.set dd (.sc (.bool r)),.inReg ops (i+1) l :: k,dfs,H,nx⟩ Q):Wp P ro ⟨fn,nt,T,.inReg ops i (⟨some dd,.binOp .eql t x y yt,ty,pos,af,gd⟩ :: l) :: k,dfs,H,nx⟩ Q:=
 dn hw (.inr (fun _ h=>by cases h)) ((wZ hx hy hr).does) (by rw [aI hd];exact h)
theorem oZ{t yt:TypeId}{x y:Operand}{a b:ByteArray}{r:Bool}{dd:Nat}(hw:aE T ops ⟨some dd,.binOp .neq t x y yt,ty,pos,af,gd⟩=some true)(hd:Nat.blt dd nt=true)(hx:aq T x=some (.sc (.string a)))(hy:aq T y=some (.sc (.string b)))(hr:(a != b)=r)
 (h:Wp P ro ⟨fn,nt,T.set dd (.sc (.bool r)),.inReg ops (i+1) l :: k,dfs,H,nx⟩ Q):Wp P ro ⟨fn,nt,T,.inReg ops i (⟨some dd,.binOp .neq t x y yt,ty,pos,af,gd⟩ :: l) :: k,dfs,H,nx⟩ Q:=
 dn hw (.inr (fun _ h=>by cases h)) ((wU hx hy hr).does) (by rw [aI hd];exact h)
end
section
variable {P:Program}
section
variable {H:ay}{v:SV}{Q:Pst}{eo fn n ne nt nx r sz:Nat}{T:Tr SV}{el:TypeId}{pos:String}{rt t tx ty:TypeId}{s x:Operand}{dfs:List ADf}{k:List AIt}{af:Array Edge}{ro:Option Nat}{vs:List Value}{gd:Option (Nat×Bool)}
theorem sI{d:Option Tmp}{m:Nat}{us ws:List Value}(hu:P.underlying t=some (.slice el))(hk:(∃ e',P.underlying tx=some (.slice e'))∨P.underlying tx=some .string)(hs:bx P el=some sz)
 (hx0:aq T s=some (.slu r eo n)) (hx:aq T x=some v) (hro:H.at' r=some (dat false ne sz rt us)) (hr:RdV P H sz v m vs) (h1:rZ vs) (hm:eo+n+m≤ne) (h0:0<ne) (hvl:vs.length=m*sz) (hul:us.length=ne*sz) (hws:us.take ((eo+n)*sz) ++ vs ++ us.drop ((eo+n)*sz+m*sz)=ws) :
 OpDoes P T H nx ⟨d,.call {callee:= .builtin .append,args:= #[s,x],argTypes:= #[t,tx]},ty,pos,af,gd⟩ (.val (.slu r eo (n+m)),H.set r (dat false ne sz rt ws),nx):=by
 intro K w0 e w ev hS hE
 have e1:=hE s _ hx0
 have e2:=hE x _ hx
 simp only [SV.conc,Eu] at e1
 obtain⟨z,hz,e1⟩:=e1
 obtain⟨z2,hz2,hlz⟩:=hS.rel _ _ hro
 rw [hz] at hz2
 cases hz2
 obtain⟨g1,g2,g3,g4⟩:=Lies.row hlz
 have hnil:=g3 h0
 have hcx:(SV.sl r (eo*sz) n (z.cap-eo)).conc e=some (ev s):=by
  rw [← e1,Ent.eQ hnil,g1]
  simp [SV.conc,hz]
 have hle:(eo+n)*sz+m*sz≤ne*sz:=by rw [← Nat.add_mul];exact Nat.mul_le_mul_right _ hm
 have hap:dz P H nx el (.sl r (eo*sz) n (z.cap-eo)) v=some (.val (.sl r (eo*sz) (n+m) (z.cap-eo)),H.set r (dat false ne sz rt ws),nx):=by
  unfold dz
  rw [hs]
  cases sz with
  | zero=>omega
  | succ sz=>
    simp only
    rw [show aL H (sz+1) v=some (m,vs.map .sc)from hr]
    simp only [iS h1,Bool.not_true,cond_false]
    rw [show Nat.ble (n+m) (z.cap-eo)=true from Es (by omega),hro]
    simp only [cond_true]
    rw [← Nat.add_mul,iy vs us ((eo+n)*(sz+1)) (by omega) (by omega) h1,hvl,hws]
 obtain⟨e',w',r',v',f1,f2,f3,f4,f5⟩:=oJ (ty:=ty) hu hk hS hap hcx e2
 cases f1
 have hz':=f2 _ _ hz
 have f4':(SV.slu r eo (n+m)).conc e'=some v':=by
  rw [← f4]
  simp only [SV.conc,hz',EK,Ent.eQ hnil,g1]
 refine⟨e',w',f2,f3,v',f4',?_⟩
 simp only [execOp,resolve,invoke,builtin,List.map_toArray,EG,List.map_nil,Sem.run_bind,Sem.run_pure,Result.andThen,f5]
theorem uK{ops:Array Oper}{i:Nat}{l:List Oper}{m:Nat}{us ws:List Value}{dd:Nat}(hw:aE T ops ⟨some dd,.call {callee:= .builtin .append,args:= #[s,x],argTypes:= #[t,tx]},ty,pos,af,gd⟩=some true)(hd:Nat.blt dd nt=true)(hx0:aq T s=some (.slu r eo n))(hx:aq T x=some v)(hu:P.underlying t=some (.slice el))(hk:(∃ e',P.underlying tx=some (.slice e'))∨P.underlying tx=some .string)(hs:bx P el=some sz)
 (hro:H.at' r=some (dat false ne sz rt us)) (hr:RdV P H sz v m vs) (h1:rZ vs) (hm:eo+n+m≤ne) (h0:0<ne) (hvl:vs.length=m*sz) (hul:us.length=ne*sz) (hws:us.take ((eo+n)*sz) ++ vs ++ us.drop ((eo+n)*sz+m*sz)=ws)
 (h:Wp P ro ⟨fn,nt,T.set dd (.slu r eo (n+m)),.inReg ops (i+1) l :: k,dfs,H.set r (dat false ne sz rt ws),nx⟩ Q):Wp P ro ⟨fn,nt,T,.inReg ops i (⟨some dd,.call {callee:= .builtin .append,args:= #[s,x],argTypes:= #[t,tx]},ty,pos,af,gd⟩ :: l) :: k,dfs,H,nx⟩ Q:=
 dn hw (.inr (fun _ h=>by cases h)) (sI hu hk hs hx0 hx hro hr h1 hm h0 hvl hul hws) (by rw [aI hd];exact h)
theorem bh(h:(∀ b vo,H.at' b=some vo→b<nx)→Wp P ro ⟨fn,nt,T,k,dfs,H,nx⟩ Q):Wp P ro ⟨fn,nt,T,k,dfs,H,nx⟩ Q:=by
 refine⟨fun K w0 e w tmps todo ds kd rof cs hS hTr htd hds hc2=>(h fun b vo hb=>?_).run K w0 e w tmps todo ds kd rof cs hS hTr htd hds hc2⟩
 obtain⟨x,hx,_⟩:=hS.rel _ _ hb
 rcases ES b nx with hlt|hge
 ·exact hlt
 ·have h2:=hS.fresh _ hge
  rw [h2] at hx;cases hx
theorem vb{d:Option Tmp}{sz':Nat}{rr:Bool}{c:Tr SV}(hu:P.underlying t=some (.slice el))(hk:(∃ e',P.underlying tx=some (.slice e'))∨P.underlying tx=some .string)(hs:bx P el=some sz)(h0:0<sz)
 (hx0:aq T s=some (.slu r eo n)) (hx:aq T x=some v) (hro:H.at' r=some (.row rr ne sz' rt c)) (hn:eo+n≤ne) (hr:RdV P H sz v 0 vs) (h1:rZ vs) :
 OpDoes P T H nx ⟨d,.call {callee:= .builtin .append,args:= #[s,x],argTypes:= #[t,tx]},ty,pos,af,gd⟩ (.val (.slu r eo n),H,nx):=by
 have hap:dz P H nx el (.slu r eo n) v=some (.val (.slu r eo n),H,nx):=by
  unfold dz
  rw [hs]
  cases sz with
  | zero=>omega
  | succ sz=>
    simp only
    rw [show aL H (sz+1) v=some (0,vs.map .sc)from hr]
    simp only [iS h1,Bool.not_true,cond_false]
    rw [hro]
    simp only [Nat.beq_refl,cond_true,show Nat.ble (eo+n) ne=true from Es hn]
 refine jt ?_
 rcases hk with ⟨e',hk⟩|hk <;> simp only [fT,cY,hx0,hx,EL,e8,gi,hu,hk,hap]
theorem wu{ops:Array Oper}{i:Nat}{l:List Oper}{sz':Nat}{rr:Bool}{c:Tr SV}{dd:Nat}(hw:aE T ops ⟨some dd,.call {callee:= .builtin .append,args:= #[s,x],argTypes:= #[t,tx]},ty,pos,af,gd⟩=some true)(hd:Nat.blt dd nt=true)(hx0:aq T s=some (.slu r eo n))(hx:aq T x=some v)(hu:P.underlying t=some (.slice el))(hk:(∃ e',P.underlying tx=some (.slice e'))∨P.underlying tx=some .string)(hs:bx P el=some sz)(h0:Nat.blt 0 sz=true)(hro:H.at' r=some (.row rr ne sz' rt c))(hn:eo+n≤ne)(hr:RdV P H sz v 0 vs)(h1:rZ vs)
 (h:Wp P ro ⟨fn,nt,T.set dd (.slu r eo n),.inReg ops (i+1) l :: k,dfs,H,nx⟩ Q):Wp P ro ⟨fn,nt,T,.inReg ops i (⟨some dd,.call {callee:= .builtin .append,args:= #[s,x],argTypes:= #[t,tx]},ty,pos,af,gd⟩ :: l) :: k,dfs,H,nx⟩ Q:=
 dn hw (.inr (fun _ h=>by cases h)) (vb hu hk hs (aN h0) hx0 hx hro hn hr h1) (by rw [aI hd];exact h)
end
end
section
variable {P:Program} {T:Tr SV} {H:ay} {nx:Nat} {d:Option Tmp} {ty:TypeId} {pos:String} {af:Array Edge} {gd:Option (Nat×Bool)}
theorem BH{t:TypeId}{e:TypeId}{x:Operand}{b o n C:Nat}(hu:P.underlying t=some (.slice e))(hx:aq T x=some (.sl b o n C)):ReadDoes P T H ⟨d,.call {callee:= .builtin .len,args:= #[x],argTypes:= #[t]},ty,pos,af,gd⟩ (.sc (.int .i64 n)):=by
 refine ej ?_
 simp only [cJ,m9,hx,EL,zX,hu]
end
abbrev ft(ro:Bool)(ne sz:Nat)(t:TypeId)(l:List SV):VO:= .row ro ne sz t (fS l)
section
variable {ro:Bool} {ne sz:Nat} {t:TypeId} {l:List SV}
theorem kS{i:Nat}{s:SV}(h:l[i]? =some s)(hi:i<ne*sz):(ft ro ne sz t l).cell i=some s:=by
 simp only [VO.cell]
 rw [show Nat.blt i (ne*sz)=true from Es hi]
 exact h
theorem gp: ∀ (n o:Nat) (l':List SV),(l.drop o).take n=l'→l'.length=n→o+n≤ne*sz→(ft ro ne sz t l).cellsFrom o n=some l'
 | 0,o,l',h,_,_=>by rw [List.take_zero] at h;subst h;rfl
 | n+1,o,l',h,hn,ho=>by
   cases hd:l.drop o with
   | nil=>rw [hd] at h;subst h;simp at hn
   | cons x r=>
     have hx:l[o]? =some x:=by rw [← List.head?_drop,hd];rfl
     have hr:l.drop (o+1)=r:=by rw [← List.drop_drop,hd];rfl
     rw [hd,List.take_succ_cons] at h
     subst h
     have:=gp n (o+1) (r.take n) (by rw [hr]) (by simpa using hn) (by omega)
     have hc:=kS (ro:=ro) (ne:=ne) (sz:=sz) (t:=t) hx (by omega)
     simp only [VO.cellsFrom,hc,this]
end
def SlOf(H:ay)(sz:Nat)(t:TypeId)(s:SV)(n:Nat)(cs:List SV):Prop:=cs.length=n*sz ∧
 ((n=0∧(s = .sc (.slice none 0 0)∨ ∃ b o c vo,s = .sl b o 0 c∧H.at' b=some vo)) ∨
  ∃ r eo ne l,(s = .slu r eo n∨ ∃ C,n≤C∧s = .sl r (eo*sz) n C)∧H.at' r=some (ft false ne sz t l)∧(l.drop (eo*sz)).take (n*sz)=cs∧eo+n≤ne∧l.length=ne*sz)
section
variable {P:Program} {T:Tr SV} {H:ay} {nx:Nat} {d:Option Tmp} {ty:TypeId} {pos:String} {af:Array Edge} {gd:Option (Nat×Bool)}
section
variable {v:SV}{b n sz:Nat}{el t tx:TypeId}{cs:List SV}{s x:Operand}
theorem SlOf.cells{s:SV}(h:SlOf H sz t s n cs):aL H sz s=some (n,cs):=by
 obtain⟨h1,⟨rfl,h2⟩|⟨r,eo,ne,l,rfl|⟨C,_,rfl⟩,hb,hc,he,hl⟩⟩:=h
 ·rw [Nat.zero_mul] at h1
  have:=EA h1
  subst this
  rcases h2 with rfl|⟨b,o,c,vo,rfl,hb⟩
  ·rfl
  ·simp [aL,hb,VO.cellsFrom]
 ·simp only [aL,hb,Nat.beq_refl,Bool.true_and]
  rw [show Nat.ble (eo+n) ne=true from Es he]
  have:=gp (ro:=false) (ne:=ne) (sz:=sz) (t:=t) (l:=l) (n*sz) (eo*sz) cs hc h1 (by rw [← Nat.add_mul];exact Nat.mul_le_mul_right _ he)
  simp only [cond_true,this,EK]
 ·have:=gp (ro:=false) (ne:=ne) (sz:=sz) (t:=t) (l:=l) (n*sz) (eo*sz) cs hc h1 (by rw [← Nat.add_mul];exact Nat.mul_le_mul_right _ he)
  simp only [aL,hb,this,EK]
theorem SlOf.row{ne:Nat}{l:List SV}{r:Nat}(hb:H.at' r=some (ft false ne sz t l))(hl:l.length=ne*sz):SlOf H sz t (.slu r 0 ne) ne l:=by
 refine⟨hl,.inr ⟨r,0,ne,l,.inl rfl,hb,?_,by omega,hl⟩⟩
 rw [Nat.zero_mul,List.drop_zero,←hl,List.take_length]
theorem SlOf.none:SlOf H sz t (.sc (.slice none 0 0)) 0 []:=⟨by simp,.inl ⟨rfl,.inl rfl⟩⟩
theorem wY{e:TypeId}{y:Operand}{o C q:Nat}{k:IntKind}(hu:P.underlying t=some (.slice e))(hs:bx P e=some sz)(hx:aq T x=some (.sl b o n C))(hy:aq T y=some (.sc (.int k (q:Int))))(hi:q<n):ReadDoes P T H ⟨d,.indexAddr t x y,ty,pos,af,gd⟩ (.ptr b (o+q*sz)):=by
 refine ej ?_
 simp only [cJ,zO,hx,hy,EL,df,hu,hs]
 rw [show Nat.blt q n=true from Es hi]
 simp
theorem pB(hu:P.underlying t=some (.slice el))(hk:(∃ e',P.underlying tx=some (.slice e'))∨P.underlying tx=some .string)(hs:bx P el=some sz)(h0:0<sz)
 (hx0:aq T s=some (.sc (.slice none 0 0))) (hx:aq T x=some v) (hr:aL H sz v=some (0,[])) :
 OpDoes P T H nx ⟨d,.call {callee:= .builtin .append,args:= #[s,x],argTypes:= #[t,tx]},ty,pos,af,gd⟩ (.val (.sc (.slice none 0 0)),H,nx):=by
 have hap:dz P H nx el (.sc (.slice none 0 0)) v=some (.val (.sc (.slice none 0 0)),H,nx):=by
  unfold dz
  rw [hs]
  cases sz with
  | zero=>omega
  | succ sz=>
    simp only
    rw [hr]
    rfl
 refine jt ?_
 rcases hk with ⟨e',hk⟩|hk <;> simp only [fT,cY,hx0,hx,EL,e8,gi,hu,hk,hap]
theorem jc{m:Nat}(hu:P.underlying t=some (.slice el))(hk:(∃ e',P.underlying tx=some (.slice e'))∨P.underlying tx=some .string)(hs:bx P el=some sz)(h0:0<sz)
 (hz:fm P el sz=true) (hb:(P.info? el).map (·.bytes)=some b) (hx0:aq T s=some (.sc (.slice none 0 0))) (hx:aq T x=some v) (hr:aL H sz v=some (m,cs)) (h1:cr cs=true) (hm:0<m) (hm1:m*b≤140737488355328) (hm2:m≤1000000000) :
 OpDoes P T H nx ⟨d,.call {callee:= .builtin .append,args:= #[s,x],argTypes:= #[t,tx]},ty,pos,af,gd⟩ (.val (.slu nx 0 m),H.set nx (ft false m sz el cs),nx+1):=by
 have hap:dz P H nx el (.sc (.slice none 0 0)) v=some (.val (.slu nx 0 m),H.set nx (.row false m sz el (fS cs)),nx+1):=by
  unfold dz
  rw [hs]
  cases sz with
  | zero=>omega
  | succ sz=>
    simp only
    rw [hr]
    simp only [h1,Bool.not_true,cond_false,lG hb hm1 hm2,hz,Bool.and_self,cond_true]
    rw [show Nat.beq m 0=false from by cases hq:Nat.beq m 0 with|false=>rfl|true=>have:=E5 hq;omega]
    rfl
 refine jt ?_
 rcases hk with ⟨e',hk⟩|hk <;> simp only [fT,cY,hx0,hx,EL,e8,gi,hu,hk,hap]
theorem B1{m r eo:Nat}{l ws:List SV}(hu:P.underlying t=some (.slice el))(hk:(∃ e',P.underlying tx=some (.slice e'))∨P.underlying tx=some .string)(hs:bx P el=some sz)(h0:0<sz)
 (hz:fm P el sz=true) (hb:(P.info? el).map (·.bytes)=some b) (hx0:aq T s=some (.slu r eo n)) (hx:aq T x=some v) (hro:H.at' r=some (ft false (eo+n) sz el l)) (hold:aL H sz (.slu r eo n)=some (n,ws)) (hr:aL H sz v=some (m,cs)) (h1:cr cs=true)
 (hm:0<m) (hm1:(n+m)*b≤140737488355328) (hm2:n+m≤1000000000) :
 OpDoes P T H nx ⟨d,.call {callee:= .builtin .append,args:= #[s,x],argTypes:= #[t,tx]},ty,pos,af,gd⟩ (.val (.slu nx 0 (n+m)),(H.del r).set nx (ft false (n+m) sz el (ws ++ cs)),nx+1):=by
 have hap:dz P H nx el (.slu r eo n) v=some (.val (.slu nx 0 (n+m)),(H.del r).set nx (.row false (n+m) sz el (fS (ws ++ cs))),nx+1):=by
  unfold dz
  rw [hs]
  cases sz with
  | zero=>omega
  | succ sz=>
    simp only
    rw [hr]
    simp only [h1,Bool.not_true,cond_false,hold]
    rw [hro]
    simp only [Nat.beq_refl,lG hb hm1 hm2,hz,Bool.not_false,Bool.and_self,cond_true]
    rw [show Nat.beq m 0=false from by cases hq:Nat.beq m 0 with|false=>rfl|true=>have:=E5 hq;omega]
    rfl
 refine jt ?_
 rcases hk with ⟨e',hk⟩|hk <;> simp only [fT,cY,hx0,hx,EL,e8,gi,hu,hk,hap]
end
end
def nmS:SV→Option Nat
 | .slu b _ _=>some b
 | .sl b _ _ _=>some b
 | _=>none
theorem SlOf.frame{H H':ay}{sz n:Nat}{t:TypeId}{s:SV}{cs:List SV}(h:SlOf H sz t s n cs)(hf: ∀ b,nmS s=some b→H'.at' b=H.at' b):SlOf H' sz t s n cs:=by
 obtain⟨h1,⟨rfl,h2⟩|⟨r,eo,ne,l,hsl,hb,hc⟩⟩:=h
 ·refine⟨h1,.inl ⟨rfl,?_⟩⟩
  rcases h2 with rfl|⟨b,o,c,vo,rfl,hb⟩
  ·exact .inl rfl
  ·exact .inr ⟨b,o,c,vo,rfl,(hf b rfl).trans hb⟩
 ·exact⟨h1,.inr ⟨r,eo,ne,l,hsl,(hf r (by rcases hsl with rfl|⟨C,_,rfl⟩ <;> rfl)).trans hb,hc⟩⟩
section
variable {P:Program} {ro:Option Nat} {fn nt nx:Nat} {T:Tr SV} {k:List AIt} {dfs:List ADf} {H:ay} {Q:Pst} {ops:Array Oper} {i:Nat} {l:List Oper} {d:Option Tmp} {ty:TypeId} {pos:String} {af:Array Edge} {gd:Option (Nat×Bool)}
theorem gP{t tx el rt:TypeId}{sz n b:Nat}{s x:Operand}{v:SV}{cs:List SV}{dd:Nat}(hw:aE T ops ⟨some dd,.call {callee:= .builtin .append,args:= #[s,x],argTypes:= #[t,tx]},ty,pos,af,gd⟩=some true)(hd:Nat.blt dd nt=true)(hx0:aq T s=some (.sc (.slice none 0 0)))(hx:aq T x=some v)(hu:P.underlying t=some (.slice el))(hk:(∃ e',P.underlying tx=some (.slice e'))∨P.underlying tx=some .string)(hs:bx P el=some sz)(h0:Nat.blt 0 sz=true)(hz:fm P el sz=true)(hb:(P.info? el).map (·.bytes)=some b)(hf:SlOf H sz rt v n cs)(h1:cr cs=true)(hm1:n*b≤140737488355328)(hm2:n≤1000000000)
 (h: ∀ s' H' nx',(n=0∧s' = .sc (.slice none 0 0)∧H'=H∧nx'=nx)∨(0<n∧s' = .slu nx 0 n∧H'=H.set nx (ft false n sz el cs)∧nx'=nx+1)→Wp P ro ⟨fn,nt,T.set dd s',.inReg ops (i+1) l :: k,dfs,H',nx'⟩ Q) :
 Wp P ro ⟨fn,nt,T,.inReg ops i (⟨some dd,.call {callee:= .builtin .append,args:= #[s,x],argTypes:= #[t,tx]},ty,pos,af,gd⟩ :: l) :: k,dfs,H,nx⟩ Q:=by
 have hr:=hf.cells
 rcases Nat.eq_zero_or_pos n with rfl|hn
 ·have:cs= []:=EA (by have:=hf.1;rwa [Nat.zero_mul] at this)
  subst this
  exact dn hw (.inr (fun _ h=>by cases h)) (pB hu hk hs (aN h0) hx0 hx hr) (by rw [aI hd];exact h _ _ _ (.inl ⟨rfl,rfl,rfl,rfl⟩))
 ·exact dn hw (.inr (fun _ h=>by cases h)) (jc hu hk hs (aN h0) hz hb hx0 hx hr h1 hn hm1 hm2) (by rw [aI hd];exact h _ _ _ (.inr ⟨hn,rfl,rfl,rfl⟩))
end
section
variable {P:Program}
section
variable {e e1 e2:Env}{ne sz:Nat}{x:Ent}{K:Zone}{rr:Bool}{w:World}{t:TypeId}{vs:List Value}
theorem mr(h1:e.le e1)(h2:e.le e2){s:SV}{v0 v:Value}(h:s.conc e=some v0)(h':s.conc e1=some v):s.conc e2=some v:=by
 have:=SV.dg h1 s v0 h
 rw [h'] at this
 cases this
 exact SV.dg h2 s _ h
theorem yv(h1:e.le e1)(h2:e.le e2){s:List SV}{v0 v:List Value}(h:SV.aD e s=some v0)(h':SV.aD e1 s=some v):SV.aD e2 s=some v:=by
 have:=SV.bV h1 s v0 h
 rw [h'] at this
 cases this
 exact SV.bV h2 s _ h
theorem uC{e e1 e2:Env}(h1:e.le e1)(h2:e.le e2): ∀ {l:List (Value×SV×Nat)} {m0 m:List MapEntry},MRel e l m0→MRel e1 l m→MRel e2 l m
 | [],[],[],_,_=>trivial
 | (_,_,_) :: _,_ :: _,_ :: _,hd0,hd=>⟨hd.1,hd.2.1,mr h1 h2 hd0.2.2.1 hd.2.2.1,uC h1 h2 hd0.2.2.2 hd.2.2.2⟩
 | [],_ :: _,_,hd,_=>hd.elim
 | [],_,_ :: _,_,hd=>hd.elim
 | _ :: _,[],_,hd,_=>by simp [MRel] at hd
 | _ :: _,_,[],_,hd=>by simp [MRel] at hd
theorem AE(h1:e.le e1)(h2:e.le e2){a:ADf}{d0 d:Deferred}(hd0:DRel e a d0)(hd:DRel e1 a d):DRel e2 a d:=by
 cases a with
 | call f args=>
   obtain⟨x0,cap0,_,hl0⟩:=hd0
   obtain⟨x,cap,rfl,hl⟩:=hd
   exact⟨x,cap,rfl,yv h1 h2 hl0 hl⟩
 | taken r=>
   obtain⟨x0,hx0,_⟩:=hd0
   obtain⟨x,hx,rfl⟩:=hd
   have:=h1 _ _ hx0
   rw [hx] at this
   cases this
   exact⟨_,h2 _ _ hx0,rfl⟩
theorem rX{e e1 e2:Env}(h1:e.le e1)(h2:e.le e2): ∀ {l:List ADf} {m0 m:List Deferred},DsRel e l m0→DsRel e1 l m→DsRel e2 l m
 | [],[],[],_,_=>trivial
 | _ :: _,_ :: _,_ :: _,hd0,hd=>⟨AE h1 h2 hd0.1 hd.1,rX h1 h2 hd0.2 hd.2⟩
 | [],_ :: _,_,hd,_=>hd.elim
 | [],_,_ :: _,_,hd=>hd.elim
 | _ :: _,[],_,hd,_=>hd.elim
 | _ :: _,_,[],_,hd=>hd.elim
theorem Aw(h1:e.le e1)(h2:e.le e2){nt:Nat}{T:Tr SV}{t0 t:Array Value}(hd0:TRel e nt T t0)(hd:TRel e1 nt T t):TRel e2 nt T t:=by
 refine⟨hd.1,fun i s hs=>?_⟩
 obtain⟨v0,a1,_⟩:=hd0.2 i s hs
 obtain⟨v,b1,b2⟩:=hd.2 i s hs
 exact⟨v,mr h1 h2 a1 b1,b2⟩
theorem Ay(h1:e.le e1)(h2:e.le e2){vo:VO}{o0 o:Obj}(h0:ORel e vo x o0)(ho:ORel e1 vo x o):ORel e2 vo x o:=by
 cases vo with
 | cells n t c=>
   obtain⟨_,cs0,fz0,_,_,_,g4⟩:=h0
   obtain⟨q0,cs,fz,q1,q2,q3,q4⟩:=ho
   refine⟨q0,cs,fz,q1,q2,q3,fun i hi s hs=>?_⟩
   obtain⟨v0,a1,_⟩:=g4 i hi s hs
   obtain⟨v,b1,b2⟩:=q4 i hi s hs
   exact⟨v,mr h1 h2 a1 b1,b2⟩
 | row ro ne sz t c=>
   obtain⟨_,cs0,fz0,t0,_,_,_,_,_,_,g7⟩:=h0
   obtain⟨q0,cs,fz,tt,q1,q2,q3,q4,q5,q6,q7⟩:=ho
   refine⟨q0,cs,fz,tt,q1,q2,q3,q4,q5,q6,fun i hi s hs=>?_⟩
   obtain⟨v0,a1,_⟩:=g7 i hi s hs
   obtain⟨v,b1,b2⟩:=q7 i hi s hs
   exact⟨v,mr h1 h2 a1 b1,b2⟩
 | map l clock=>
   obtain⟨es0,_,g2⟩:=h0
   obtain⟨es,q1,q2⟩:=ho
   exact⟨es,q1,uC h1 h2 g2 q2⟩
 | iter m since seen stepped=>
   cases m with
   | none=>exact ho
   | some m=>
     obtain⟨_,y0,g1,_⟩:=h0
     obtain⟨q0,y,q1,q2⟩:=ho
     have:=h1 _ _ g1
     rw [q1] at this
     cases this
     exact⟨q0,_,h2 _ _ g1,q2⟩
 | siter s pos=>exact ho
 | loop st pend fn nt T params assign body dr=>
   obtain⟨tm0,y0,g1,g2,_⟩:=h0
   obtain⟨tm,y,q1,q2,q3⟩:=ho
   have:=h1 _ _ g1
   rw [q1] at this
   cases this
   exact⟨tm,_,h2 _ _ g1,Aw h1 h2 g2 q2,q3⟩
 | dfd l=>
   cases l with
   | none=>exact ho
   | some l=>
     obtain⟨ds0,_,g2⟩:=h0
     obtain⟨ds,q1,q2⟩:=ho
     exact⟨ds,q1,rX h1 h2 g2 q2⟩
theorem mu{w0:World}(h1:e.le e1)(h2:e.le e2){vo:VO}(h0:Lies K w0 e vo x)(ho:Lies K w e1 vo x):Lies K w e2 vo x:=by
 rcases ho with ⟨a0,o,a1,a2,a3⟩|a
 ·rcases h0 with ⟨_,o0,_,_,b3⟩|⟨b,_⟩
  ·exact .inl ⟨a0,o,a1,a2,Ay h1 h2 b3 a3⟩
  ·rw [a0] at b;cases b
 ·exact .inr a
theorem AA{e':Env}(h:Lies K w e (dat rr ne sz t vs) x):Lies K w e' (dat rr ne sz t vs) x:=by
 rcases h with ⟨a0,o,a1,a2,a3⟩|a
 ·obtain⟨q0,cs,fz,tt,q1,q2,q3,q4,q5,q6,q7⟩:=a3
  refine .inl ⟨a0,o,a1,a2,q0,cs,fz,tt,q1,q2,q3,q4,q5,q6,fun i hi s hs=>?_⟩
  obtain⟨v,b1,b2⟩:=q7 i hi s hs
  refine⟨v,?_,b2⟩
  simp only [Tr.at',Eu] at hs
  obtain⟨u,_,rfl⟩:=hs
  exact b1
 ·exact .inr a
theorem St.next{w0 w1:World}{H H1:ay}{nx nx1 r:Nat}(hS:St K w0 e H nx w)(hle:e.le e1)(hS1:St K w0 e1 H1 nx1 w1)(hr:H1.at' r=some (dat rr ne sz t vs))(h1:nx≤r)(hk: ∀ m,m<nx→H1.at' m=H.at' m) :
 ∃ e2,e.le e2∧St K w0 e2 (H.set nx (dat rr ne sz t vs)) (nx+1) w1∧e2 nx=e1 r:=by
 have hbelow: ∀ m x,e m=some x→m<nx:=fun m x hx=>by
  rcases ES m nx with q|q
  ·exact q
  ·rw [hS.fresh m q] at hx;cases hx
 have hle2:e.le (fun m=>if m<nx then e1 m else if m=nx then e1 r else none):=fun m x hx=>by
  have:=hbelow m x hx
  simp only [EQ this]
  exact hle m x hx
 obtain⟨xr,hxr,hlr⟩:=hS1.rel r _ hr
 have hget: ∀ m vo,(H.set nx (dat rr ne sz t vs)).at' m=some vo→(m=nx∧vo=dat rr ne sz t vs)∨(m<nx∧H.at' m=some vo):=fun m vo h=>by
  rcases bp h with ⟨q1,q2⟩|⟨q1,q2⟩
  ·exact .inl ⟨q1,q2⟩
  ·obtain⟨x,hx,_⟩:=hS.rel m vo q2
   exact .inr ⟨hbelow m x hx,q2⟩
 refine⟨fun m=>if m<nx then e1 m else if m=nx then e1 r else none,hle2,⟨hS1.below,fun m vo h=>?_,fun m m' vo vo' x x' g g' gx gx' gne gn gn' gro gro'=>?_,fun i hi=>?_⟩,?_⟩
 ·rcases hget m vo h with ⟨rfl,rfl⟩|⟨q1,q2⟩
  ·refine⟨xr,?_,AA hlr⟩
   simp [hxr]
  ·obtain⟨x0,hx0,hl0⟩:=hS.rel m vo q2
   obtain⟨x,hx,hl⟩:=hS1.rel m vo ((hk m q1).trans q2)
   have:=hle m x0 hx0
   rw [hx] at this
   cases this
   refine⟨_,?_,mu hle hle2 hl0 hl⟩
   simp only [EQ q1]
   exact hx
 ·change (if m<nx then e1 m else if m=nx then e1 r else none)=some x at gx
  change (if m'<nx then e1 m' else if m'=nx then e1 r else none)=some x' at gx'
  rcases hget m vo g with ⟨rfl,rfl⟩|⟨q1,q2⟩
  ·rcases hget m' vo' g' with ⟨rfl,rfl⟩|⟨p1,p2⟩
   ·exact absurd rfl gne
   ·simp only [Nat.lt_irrefl,if_false,if_true] at gx
    simp only [EQ p1] at gx'
    exact hS1.inj r m' _ vo' x x' hr ((hk m' p1).trans p2) gx gx' (by omega) gn gn' gro gro'
  ·rw [EQ q1] at gx
   rcases hget m' vo' g' with ⟨rfl,rfl⟩|⟨p1,p2⟩
   ·rw [EP (Nat.lt_irrefl _),EQ rfl] at gx'
    exact hS1.inj m r vo _ x x' ((hk m q1).trans q2) hr gx gx' (by omega) gn gn' gro gro'
   ·rw [EQ p1] at gx'
    exact hS1.inj m m' vo vo' x x' ((hk m q1).trans q2) ((hk m' p1).trans p2) gx gx' gne gn gn' gro gro'
 ·show(if i<nx then e1 i else if i=nx then e1 r else none)=none
  rw [EP (by omega),EP (by omega)]
 ·simp
theorem Fnc.next{f:FuncId}{args:List SV}{H:ay}{nx m:Nat}(h:Fnc P f args H nx (fun q=> ∃ r',q.1 = .slu r' 0 m∧q.2.1.at' r'=some (dat rr ne sz t vs)∧nx≤r'∧r'<q.2.2∧nx≤q.2.2∧ ∀ n,n<nx→q.2.1.at' n=H.at' n)):Fnc P f args H nx (fun q=>q=(.slu nx 0 m,H.set nx (dat rr ne sz t vs),nx+1)):=by
 have hv: ∀ {e1 e2:Env} {r:Nat} {v:Value},e2 nx=e1 r→(SV.slu r 0 m).conc e1=some v→(SV.slu nx 0 m).conc e2=some v:=fun h1 h2=>by
  simpa [SV.conc,h1] using h2
 unfold Fnc iQ at h ⊢
 rcases h with ⟨h1,v,r,h2,⟨r',q1,q2,q3,q4,q5,q6⟩,h4⟩|h
 ·refine .inl ⟨h1,v,_,h2,rfl,fun K w0 e w hS=>?_⟩
  obtain⟨e',g1,g2,g3⟩:=h4 K w0 e w hS
  obtain⟨e2,k1,k2,k3⟩:=hS.next g1 g2 q2 q3 q6
  rw [q1] at g3
  exact⟨e2,k1,k2,hv k3 g3⟩
 ·refine .inr ?_
  split at h
  ·refine⟨fun K w0 e w tmps todo ds kd rof cs hS a2 a3 a4 a5=>?_⟩
   obtain⟨r,⟨r',q1,q2,q3,q4,q5,q6⟩,e',w',v,g1,g2,g3,g4⟩:=Wp.run h K w0 e w tmps todo ds kd rof cs hS a2 a3 a4 a5
   obtain⟨e2,k1,k2,k3⟩:=hS.next g1 g2 q2 q3 q6
   rw [q1] at g3
   exact⟨_,rfl,e2,w',v,k1,k2,hv k3 g3,g4⟩
  ·exact h.elim
end
end
section
variable {P:Program}
def Free(v:SV):Prop:= ∀ e e' u,v.conc e=some u→v.conc e'=some u
theorem Free.sc(v:Value):Free (.sc v):=fun _ _ _ h=>h
theorem Free.agg(vs:List Value):Free (.agg (vs.map .sc)):=fun e e' u h=>by
 rw [SV.conc,e7] at h ⊢
 exact h
theorem Free.two{a b:SV}(ha:Free a)(hb:Free b):Free (.tup [a,b]):=fun e e' u h=>by
 simp only [SV.conc,SV.aD] at h ⊢
 cases h1:a.conc e with
 | none=>rw [h1] at h;simp at h
 | some x=>
   cases h2:b.conc e with
   | none=>rw [h1,h2] at h;simp at h
   | some y=>
     rw [h1,h2] at h
     rw [ha e e' x h1,hb e e' y h2]
     exact h
theorem St.drop{K:Zone}{w0 w w1:World}{e e1:Env}{H H1:ay}{nx nx1:Nat}(hS:St K w0 e H nx w)(hle:e.le e1)(hS1:St K w0 e1 H1 nx1 w1)(hk: ∀ m,m<nx→H1.at' m=H.at' m):St K w0 e H nx w1:=by
 refine⟨hS1.below,fun m vo h=>?_,hS.inj,hS.fresh⟩
 obtain⟨x0,hx0,hl0⟩:=hS.rel m vo h
 have hm:m<nx:=by
  rcases ES m nx with q|q
  ·exact q
  ·rw [hS.fresh m q] at hx0;cases hx0
 obtain⟨x,hx,hl⟩:=hS1.rel m vo ((hk m hm).trans h)
 have:=hle m x0 hx0
 rw [hx] at this
 cases this
 exact⟨_,hx0,mu hle (Gr e) hl0 hl⟩
end
abbrev kW:=DrawK
theorem wM{P:Program}{nt:Nat}{ops:Array Oper}{l2:List Oper}: ∀ {l:List Oper} {i:Nat} {s s1 s':DS},DrawRun P (wpr P) nt ops i l s s1→DrawRun P (wpr P) nt ops (i+l.length) l2 s1 s'→DrawRun P (wpr P) nt ops i (l ++ l2) s s'
 | [],i,s,s1,s',h,h2=>by
   cases h
   exact h2
 | o :: l,i,s,s1,s',h,h2=>by
   cases h with
   | cons g1 g2=>
     refine .cons g1 (wM g2 ?_)
     rw [EH,show i+(l.length+1)=i+1+l.length by omega] at h2
     exact h2
section
variable {P:Program} {ro:Option Nat} {fn nt nx:Nat} {T:Tr SV} {k:List AIt} {dfs:List ADf} {H:ay} {Q:Pst} {ops:Array Oper} {i:Nat} {l:List Oper} {K:DS→Prop} {s:DS}
theorem rE(h:DrawK P nt ops i l s K):kW P nt ops i l s K:=by
 exact h
theorem sW(n:Nat)(hn:n≤l.length)(h:DrawK P nt ops i (l.take n) s (fun s1=>kW P nt ops (i+n) (l.drop n) s1 K)):kW P nt ops i l s K:=by
 obtain⟨s1,h1,h2⟩:=h.ex
 obtain⟨s',h3,h4⟩:=h2.ex
 have:=wM h1 (l2:=l.drop n) (s':=s') (by rw [ET,Nat.min_eq_left hn];exact h3)
 rw [List.take_append_drop] at this
 exact⟨⟨s',this,h4⟩⟩
theorem pT{g:FuncId}{as1:List Operand}{ats:Array TypeId}{args:List SV}{v:SV}{dd:Nat}{ty:TypeId}{pos:String}{af:Array Edge}{gd:Option (Nat×Bool)}{rs:List Rec}{Hs:List (ay×Nat)}{stg:Nat}
 (hw:aE (aT T (aV ops.toList ⟨some dd,.call {callee:= .value (.func g),args:=as1.toArray,argTypes:=ats},ty,pos,af,gd⟩)) ops ⟨some dd,.call {callee:= .value (.func g),args:=as1.toArray,argTypes:=ats},ty,pos,af,gd⟩=some true) (hd:Nat.blt dd nt=true)
 (ha:cY (aT T (aV ops.toList ⟨some dd,.call {callee:= .value (.func g),args:=as1.toArray,argTypes:=ats},ty,pos,af,gd⟩)) as1=some args) (hm:bB P g=true)
 (hr:Fnc P g args H nx (fun r=>r=(v,H,nx)))
 (h:kW P nt ops (i+1) l ⟨T.set dd v,H,nx,⟨i,⟨some dd,.call {callee:= .value (.func g),args:=as1.toArray,argTypes:=ats},ty,pos,af,gd⟩,aT T (aV ops.toList ⟨some dd,.call {callee:= .value (.func g),args:=as1.toArray,argTypes:=ats},ty,pos,af,gd⟩),stg,false,true,v⟩ :: rs,Hs,stg⟩ K) :
 kW P nt ops i (⟨some dd,.call {callee:= .value (.func g),args:=as1.toArray,argTypes:=ats},ty,pos,af,gd⟩ :: l) ⟨T,H,nx,rs,Hs,stg⟩ K:=by
 obtain⟨s',h1,h2⟩:=h.ex
 refine⟨⟨s',.cons (.inr (.inl ⟨hw,(fun c hc=>(by cases hc)),v,.inr ⟨_,sH ha hm,(fun c hc=>(by cases hc)),hr⟩,?_⟩)) h1,h2⟩⟩
 simp only [aI hd]
def AllHQ(Q:List (ay×Nat))(p:ay→Nat→Prop):Prop:=match Q with
 | []=>True
 | q :: l=>p q.1 q.2∧AllHQ l p
theorem AllHQ.get{p:ay→Nat→Prop}: ∀ {Q:List (ay×Nat)},AllHQ Q p→ ∀ {i:Nat} {H:ay} {n:Nat},Q[i]? =some (H,n)→p H n
 | [],_,i,H,n,h=>by simp at h
 | q :: l,hh,i,H,n,h=>by
   cases i with
   | zero=>simp only [EC,Ej] at h;subst h;exact hh.1
   | succ i=>exact AllHQ.get hh.2 (by simpa using h)
def FlOkQ(P:Program)(ancs chain:List Nat)(Q:List (ay×Nat)):List Rec→Prop
 | []=>True
 | r :: l=>((r.chain || !r.wanted || (Nat.beq (gW (ancs.getD r.i 0) chain) r.stg && Nat.beq (dj ancs r.i chain) r.stg))=true∨(AllH Q (fun H=>ReadDoes P r.T H r.o r.val)∨AllHQ Q (fun H n=>gq P (wpr P) r.T H n r.o (r.val,H,n))))∧FlOkQ P ancs chain Q l
theorem FlOkQ.ok{P:Program}{ancs chain:List Nat}{Q:List (ay×Nat)}: ∀ {l:List Rec},FlOkQ P ancs chain Q l→ ∀ r∈l,r.chain=false→r.wanted=true→ ∀ st,gW (ancs.getD r.i 0) chain≤st→st≤dj ancs r.i chain→st≠r.stg→ ∀ H n,Q.reverse[st]? =some (H,n)→qc P (wpr P) r.T H n r.o r.val
 | [],_,r,hm,_,_,_,_,_,_,_,_,_=>by cases hm
 | r0 :: l,hh,r,hm,hc,hw,st,h1,h2,h3,H,n,hq=>by
   rcases E4.1 hm with rfl|hm
   ·rcases hh.1 with h|h
    ·rw [hc,hw] at h
     simp only [Bool.not_true,Bool.or_false,Bool.false_or,ED] at h
     have q1:=bc h.1
     have q2:=bc h.2
     omega
    ·have hlt:=(Eo.1 hq).1
     rw [List.getElem?_reverse (by simpa using hlt)] at hq
     rcases h with h|h
     ·exact .inl (h.get hq)
     ·exact .inr (h.get hq)
   ·exact FlOkQ.ok hh.2 r hm hc hw st h1 h2 h3 H n hq
theorem wt{id:Nat}{opl:List Oper}(hm:P.follows .mixedOrders=true)(hr:fw nt opl=true)
 (h:kW P nt opl.toArray 0 opl ⟨T,H,nx,[],[(H,nx)],0⟩ (fun s=>iP (dO [] opl) (dN s)=true∧FlOkQ P (dO [] opl) (dN s) s.Hs s.recs∧Wp P ro ⟨fn,nt,s.T,k,dfs,s.H,s.nx⟩ Q)) :
 Wp P ro ⟨fn,nt,T,.code (.region id opl.toArray true) :: k,dfs,H,nx⟩ Q:=by
 obtain⟨s,hs,h1,h2,h3⟩:=h.ex
 exact .step ⟨hm,s,⟨hr,hs,h1,fun r hr=>FlOkQ.ok h2 r hr⟩,h3⟩
end
theorem kL{P:Program}{T:Tr SV}{H H2:ay}{nx n2:Nat}{g:FuncId}{as1:List Operand}{ats:Array TypeId}{args:List SV}{v:SV}{dd:Option Nat}{ty:TypeId}{pos:String}{af:Array Edge}{gd:Option (Nat×Bool)}(ha:cY T as1=some args)(hm:bB P g=true)
 (hr:Fnc P g args H nx (fun r=>r=(v,H2,n2))):gq P (wpr P) T H nx ⟨dd,.call {callee:= .value (.func g),args:=as1.toArray,argTypes:=ats},ty,pos,af,gd⟩ (v,H2,n2):=
 ⟨_,sH ha hm,(fun c hc=>(by cases hc)),hr⟩
theorem Ds{H:ay}{r n sz:Nat}{t:TypeId}{l:List SV}(hb:H.at' r=some (ft false n sz t l))(hl:l.length=n*sz):aL H sz (.slu r 0 n)=some (n,l):=(SlOf.row hb hl).cells
section
variable {P:Program} {nt nx:Nat} {T:Tr SV} {H:ay} {ops:Array Oper} {i:Nat} {l:List Oper} {ty:TypeId} {pos:String} {af:Array Edge} {gd:Option (Nat×Bool)} {rs:List Rec} {Hs:List (ay×Nat)} {stg:Nat} {K:DS→Prop} {op:Op} {dd:Nat}
theorem D1{v:SV}(hw:aE (aT T (aV ops.toList ⟨some dd,op,ty,pos,af,gd⟩)) ops ⟨some dd,op,ty,pos,af,gd⟩=some true)(hd:Nat.blt dd nt=true)(hnd: ∀ c,op ≠ .defer c)
 (hr:OpDoes P (aT T (aV ops.toList ⟨some dd,op,ty,pos,af,gd⟩)) H nx ⟨some dd,op,ty,pos,af,gd⟩ (.val v,H,nx))
 (h:kW P nt ops (i+1) l ⟨T.set dd v,H,nx,⟨i,⟨some dd,op,ty,pos,af,gd⟩,aT T (aV ops.toList ⟨some dd,op,ty,pos,af,gd⟩),stg,false,true,v⟩ :: rs,Hs,stg⟩ K) :
 kW P nt ops i (⟨some dd,op,ty,pos,af,gd⟩ :: l) ⟨T,H,nx,rs,Hs,stg⟩ K:=by
 obtain⟨s',h1,h2⟩:=h.ex
 refine⟨⟨s',.cons (.inr (.inl ⟨hw,hnd,v,.inr ⟨_,hr,hnd,rfl⟩,?_⟩)) h1,h2⟩⟩
 simp only [aI hd]
theorem jW{v:SV}{d:Option Nat}{H2:ay}{n2:Nat}(hnd: ∀ c,op ≠ .defer c)(hr:OpDoes P T H nx ⟨d,op,ty,pos,af,gd⟩ (.val v,H2,n2)):gq P (wpr P) T H nx ⟨d,op,ty,pos,af,gd⟩ (v,H2,n2):=⟨_,hr,hnd,rfl⟩
end
theorem B2{P:Program}{T:Tr SV}{H:ay}{nx:Nat}{d:Option Tmp}{ty:TypeId}{pos:String}{af:Array Edge}{gd:Option (Nat×Bool)}{t tx el:TypeId}{sz m b r n:Nat}{s x:Operand}{v:SV}{ws cs:List SV}(hu:P.underlying t=some (.slice el))(hk:(∃ e',P.underlying tx=some (.slice e'))∨P.underlying tx=some .string)(hs:bx P el=some sz)(h0:0<sz)
 (hz:fm P el sz=true) (hb:(P.info? el).map (·.bytes)=some b) (hx0:aq T s=some (.slu r 0 n)) (hx:aq T x=some v) (hro:H.at' r=some (ft false n sz el ws)) (hl:ws.length=n*sz) (hr:aL H sz v=some (m,cs)) (h1:cr cs=true)
 (hm:0<m) (hm1:(n+m)*b≤140737488355328) (hm2:n+m≤1000000000) :
 OpDoes P T H nx ⟨d,.call {callee:= .builtin .append,args:= #[s,x],argTypes:= #[t,tx]},ty,pos,af,gd⟩ (.val (.slu nx 0 (n+m)),(H.del r).set nx (ft false (n+m) sz el (ws ++ cs)),nx+1):=
 B1 (eo:=0) hu hk hs h0 hz hb hx0 hx (by rw [ER];exact hro) ((SlOf.row hro hl).cells) hr h1 hm hm1 hm2
def FlOkD(P:Program)(ancs chain:List Nat)(Q:List (ay×Nat)):List Rec→Prop
 | []=>True
 | r :: l=>((r.chain || !r.wanted || (Nat.beq (gW (ancs.getD r.i 0) chain) r.stg && Nat.beq (dj ancs r.i chain) r.stg))=true∨ ∃ d,Nat.ble (dj ancs r.i chain+(d+1)) Q.length=true∧(AllH (Q.drop d) (fun H=>ReadDoes P r.T H r.o r.val)∨AllHQ (Q.drop d) (fun H n=>gq P (wpr P) r.T H n r.o (r.val,H,n))))∧FlOkD P ancs chain Q l
theorem FlOkD.ok{P:Program}{ancs chain:List Nat}{Q:List (ay×Nat)}: ∀ {l:List Rec},FlOkD P ancs chain Q l→ ∀ r∈l,r.chain=false→r.wanted=true→ ∀ st,gW (ancs.getD r.i 0) chain≤st→st≤dj ancs r.i chain→st≠r.stg→ ∀ H n,Q.reverse[st]? =some (H,n)→qc P (wpr P) r.T H n r.o r.val
 | [],_,r,hm,_,_,_,_,_,_,_,_,_=>by cases hm
 | r0 :: l,hh,r,hm,hc,hw,st,h1,h2,h3,H,n,hq=>by
   rcases E4.1 hm with rfl|hm
   ·rcases hh.1 with h|⟨d,hd,h⟩
    ·rw [hc,hw] at h
     simp only [Bool.not_true,Bool.or_false,Bool.false_or,ED] at h
     have q1:=bc h.1
     have q2:=bc h.2
     omega
    ·have hlt:=(Eo.1 hq).1
     rw [List.length_reverse] at hlt
     have hd':=Ep hd
     rw [List.getElem?_reverse hlt] at hq
     have hq':(Q.drop d)[Q.length-1-st-d]? =some (H,n):=by
      rw [List.getElem?_drop,show d+(Q.length-1-st-d)=Q.length-1-st by omega]
      exact hq
     rcases h with h|h
     ·exact .inl (h.get hq')
     ·exact .inr (h.get hq')
   ·exact FlOkD.ok hh.2 r hm hc hw st h1 h2 h3 H n hq
def FlOkE(P:Program)(ancs chain:List Nat)(Q:List (ay×Nat)):List Rec→Prop
 | []=>True
 | r :: l=>((r.chain || !r.wanted || (Nat.beq (gW (ancs.getD r.i 0) chain) r.stg && Nat.beq (dj ancs r.i chain) r.stg))=true∨ ∃ d,Nat.ble (dj ancs r.i chain+(d+1)) Q.length=true∧AllH (Q.drop d) (fun H=>ReadDoes P r.T H r.o r.val))∧FlOkE P ancs chain Q l
theorem FlOkE.ok{P:Program}{ancs chain:List Nat}{Q:List (ay×Nat)}: ∀ {l:List Rec},FlOkE P ancs chain Q l→ ∀ r∈l,r.chain=false→r.wanted=true→ ∀ st,gW (ancs.getD r.i 0) chain≤st→st≤dj ancs r.i chain→st≠r.stg→ ∀ H n,Q.reverse[st]? =some (H,n)→ReadDoes P r.T H r.o r.val
 | [],_,r,hm,_,_,_,_,_,_,_,_,_=>by cases hm
 | r0 :: l,hh,r,hm,hc,hw,st,h1,h2,h3,H,n,hq=>by
   rcases E4.1 hm with rfl|hm
   ·rcases hh.1 with h|⟨d,hd,h⟩
    ·rw [hc,hw] at h
     simp only [Bool.not_true,Bool.or_false,Bool.false_or,ED] at h
     have q1:=bc h.1
     have q2:=bc h.2
     omega
    ·have hlt:=(Eo.1 hq).1
     rw [List.length_reverse] at hlt
     have hd':=Ep hd
     rw [List.getElem?_reverse hlt] at hq
     have hq':(Q.drop d)[Q.length-1-st-d]? =some (H,n):=by
      rw [List.getElem?_drop,show d+(Q.length-1-st-d)=Q.length-1-st by omega]
      exact hq
     exact h.get hq'
   ·exact FlOkE.ok hh.2 r hm hc hw st h1 h2 h3 H n hq
section
variable {P:Program} {ro:Option Nat} {fn nt nx:Nat} {T:Tr SV} {k:List AIt} {dfs:List ADf} {H:ay} {Q:Pst}
theorem bU{id:Nat}{ops:List Oper}(hm:P.follows .mixedOrders=true)(hr:fw nt ops=true)
 (h:DrawK P nt ops.toArray 0 ops ⟨T,H,nx,[],[(H,nx)],0⟩ (fun s=>iP (dO [] ops) (dN s)=true∧FlOkE P (dO [] ops) (dN s) s.Hs s.recs∧Wp P ro ⟨fn,nt,s.T,k,dfs,s.H,s.nx⟩ Q)) :
 Wp P ro ⟨fn,nt,T,.code (.region id ops.toArray true) :: k,dfs,H,nx⟩ Q:=by
 obtain⟨s,hs,h1,h2,h3⟩:=h.ex
 exact .step ⟨hm,s,⟨hr,hs,h1,fun r hr a b st c d e H n f=> .inl (FlOkE.ok h2 r hr a b st c d e H n f)⟩,h3⟩
end
section
variable {P:Program} {tb:Tbl} {ancs chain:List Nat} {Q:List (ay×Nat)} {r:Rec} {l:List Rec}
theorem mn(h:r.chain=true)(k:FlOkE P ancs chain Q l):FlOkE P ancs chain Q (r :: l):=⟨.inl (nw h),k⟩
theorem sV(h:r.wanted=false)(k:FlOkE P ancs chain Q l):FlOkE P ancs chain Q (r :: l):=⟨.inl (uy h),k⟩
theorem oD(h:(r.chain || !r.wanted || (Nat.beq (gW (ancs.getD r.i 0) chain) r.stg && Nat.beq (dj ancs r.i chain) r.stg))=true)(k:FlOkE P ancs chain Q l):FlOkE P ancs chain Q (r :: l):=⟨.inl h,k⟩
theorem fe_pG(ht:TblOk P tb)(h:mO tb r.T r.o.op=some r.val)(hb:Nat.ble (dj ancs r.i chain+(0+1)) Q.length=true)(k:FlOkE P ancs chain Q l):FlOkE P ancs chain Q (r :: l):=⟨.inr ⟨0,hb,AllH.all (fun _=>iZ ht h) _⟩,k⟩
theorem js(d:Nat)(_hq:Nat.blt d Q.length=true)(hb:Nat.ble (dj ancs r.i chain+(d+1)) Q.length=true)(h:AllH (Q.drop d) (fun H=>ReadDoes P r.T H r.o r.val))(k:FlOkE P ancs chain Q l):FlOkE P ancs chain Q (r :: l):=⟨.inr ⟨d,hb,h⟩,k⟩
end
end Go.Sy
namespace Go.Proofs.YtelnglhodnoclaaGreat
open Go Go.Sy
section
variable {ancs chain:List Nat} {Q:List (ay×Nat)} {r:Rec} {l:List Rec}
theorem jk(h:mO wA r.T r.o.op=some r.val)(hb:Nat.ble (dj ancs r.i chain+(0+1)) Q.length=true)(k:FlOkE Tryz.prog ancs chain Q l):FlOkE Tryz.prog ancs chain Q (r :: l):=fe_pG jz h hb k
end
end Go.Proofs.YtelnglhodnoclaaGreat
end
section
namespace Go.Sy
open Go Go.Sl Go.RowKit
section
variable {K V:Type} [DecidableEq K]
theorem vw{m:List (K×V×Nat)}{k:K}(hg:io m k=none)(v:V)(c:Nat):nO m k v c=m ++ [(k,v,c)]:=by
 have hk:=CY m k
 cases hi:m.findIdx? fun x=>decide (x.1=k)with
 | none=>rw [hi] at hk;exact hk.2.2 v c
 | some i=>
   rw [hi] at hk
   obtain⟨x,_,_,h3,_⟩:=hk
   rw [hg] at h3;cases h3
theorem ua{m:List (K×V×Nat)}{k:K}{v:V}(h:io m k=some v): ∃ A B,kv m=A ++ (k,v) :: B∧kv (kZ m k)=A ++ B∧ ∀ w c,kv (nO m k w c)=A ++ (k,w) :: B:=by
 obtain⟨A,B,s,h1,_,h3,h4⟩:=vy h
 refine⟨kv A,kv B,?_,?_,fun w c=>?_⟩
 ·rw [h1];simp [kv]
 ·rw [h4];simp [kv]
 ·rw [h3];simp [kv]
variable {P:K→V→Own}
section
variable {k:K}{H:ay}{m:List (K×V×Nat)}
theorem Big.get{F:Nat→Prop}(hb:Big P (kv m) H F){v:V}(hg:io m k=some v) :
 ∃ F1 G,P k v H F1∧Big P (kv (kZ m k)) H G∧(∀ n,F1 n→ ¬ G n)∧ ∀ n,F n↔F1 n∨G n:=by
 obtain⟨A,B,h1,h2,_⟩:=ua hg
 rw [h1] at hb
 rw [h2]
 exact Big.focus hb
theorem Big.put(hP: ∀ k x,uE (P k x)){H':ay}{G F1:Nat→Prop}{v w:V}(hg:io m k=some v)(c:Nat)(hG:Big P (kv (kZ m k)) H G)(e:P k w H' F1)(fr: ∀ n,G n→H'.at' n=H.at' n)(hd: ∀ n,F1 n→ ¬ G n) :
 Big P (kv (nO m k w c)) H' (fun n=>F1 n∨G n):=by
 obtain⟨A,B,_,h2,h3⟩:=ua hg
 rw [h2] at hG
 rw [h3]
 exact Big.qd e (Big.frame hP _ _ _ _ hG fr) hd
theorem Big.add(hP: ∀ k x,uE (P k x)){H':ay}{F F1:Nat→Prop}{w:V}(hg:io m k=none)(c:Nat)(hb:Big P (kv m) H F)(e:P k w H' F1)(fr: ∀ n,F n→H'.at' n=H.at' n)(hd: ∀ n,F1 n→ ¬ F n) :
 Big P (kv (nO m k w c)) H' (fun n=>F1 n∨F n):=by
 rw [vw hg]
 have h0:=Big.frame hP _ _ _ _ hb fr
 simp only [kv,EJ,EG,List.map_nil]
 exact Big.qd (A:=kv m) (B:= []) e (by rw [E3];exact h0) hd
end
omit [DecidableEq K] in
theorem Big.lt(hP: ∀ k x H F z,P k x H F→F z→ ∃ vo,H.at' z=some vo){H:ay}{z:Nat}: ∀ {m:List (K×V)} {F:Nat→Prop},Big P m H F→F z→ ∃ vo,H.at' z=some vo
 | [],_,h,hz=>(h z hz).elim
 | x :: m,_,⟨G1,G2,h1,h2,_,h4⟩,hz=>by
   rcases(h4 z).1 hz with hz|hz
   ·exact hP _ _ _ _ _ h1 hz
   ·exact Big.lt hP h2 hz
end
theorem gL{P:Program}{ro:Option Nat}{fn nt nx:Nat}{T:Tr SV}{k:List AIt}{dfs:List ADf}{H:ay}{Q:Pst}{R:ay→Nat→Prop}(h:R H nx)(h2: ∀ H' nx',R H' nx'→Wp P ro ⟨fn,nt,T,k,dfs,H',nx'⟩ Q):Wp P ro ⟨fn,nt,T,k,dfs,H,nx⟩ Q:=h2 _ _ h
def Stp(F F':Nat→Prop)(H:ay)(nx:Nat)(H':ay)(nx':Nat):Prop:=nx≤nx'∧(∀ n,F' n→F n∨nx≤n)∧ ∀ n,n<nx→ ¬ F n→H'.at' n=H.at' n
theorem Stp.refl{F:Nat→Prop}{H:ay}{nx:Nat}:Stp F F H nx H nx:=⟨EE _,fun _ h=> .inl h,fun _ _ _=>rfl⟩
theorem Stp.trans{F F' F'':Nat→Prop}{H H' H'':ay}{nx nx' nx'':Nat}(h:Stp F F' H nx H' nx')(g:Stp F' F'' H' nx' H'' nx''):Stp F F'' H nx H'' nx'':=by
 refine⟨EM h.1 g.1,fun n hn=>?_,fun n hn hf=>?_⟩
 ·rcases g.2.1 n hn with h1|h1
  ·exact h.2.1 n h1
  ·exact .inr (EM h.1 h1)
 ·refine(g.2.2 n (Nat.lt_of_lt_of_le hn h.1) fun hf'=>?_).trans (h.2.2 n hn hf)
  rcases h.2.1 n hf' with h1|h1
  ·exact hf h1
  ·omega
def bLt(a b:ByteArray):Bool:=decide (a.data.toList<b.data.toList)
theorem lS: ∀ (x y:List UInt8),Op.bytesLess x y=decide (x<y)
 | [],[]=>by simp [Op.bytesLess]
 | _ :: _,[]=>by simp [Op.bytesLess]
 | [],_ :: _=>by simp [Op.bytesLess]
 | a :: x,b :: y=>by
   rw [Op.bytesLess,lS x y]
   by_cases h:a<b
   ·simp [h,List.cons_lt_cons_iff]
   ·by_cases h2:a=b
    ·subst h2
     simp [List.cons_lt_cons_iff]
    ·simp [h,h2,List.cons_lt_cons_iff]
theorem yG(a b:ByteArray):Op.bytesLess a.toList b.toList=bLt a b:=by
 rw [lS,ByteArray.toList_eq,ByteArray.toList_eq]
 rfl
theorem fI(a:ByteArray):bLt a a=false:=by
 unfold bLt
 exact E9 (List.lt_irrefl _)
theorem rR{a b c:ByteArray}(h:bLt a b=true)(g:bLt b c=true):bLt a c=true:=by
 unfold bLt at *
 rw [Gg] at *
 exact List.lt_trans h g
theorem uA{a b:ByteArray}(h:bLt a b=false)(g:bLt b a=false):a=b:=by
 unfold bLt at *
 rw [decide_eq_false_iff_not,List.not_lt] at *
 have:=List.le_antisymm g h
 cases a;cases b
 simp only at this
 congr 1
 exact Array.toList_inj.1 this
theorem rQ(a b:ByteArray):(a.toList == b.toList)=decide (a=b):=by
 rw [← beq_toListBytes]
 by_cases h:a=b
 ·rw [E8 h];exact(MapKept.bytes_beq a b).2 h
 ·rw [E9 h]
  cases e:a == b with
  | false=>rfl
  | true=>exact absurd ((MapKept.bytes_beq a b).1 e) h
section
variable {P:Program} {T:Tr SV} {H:ay} {d:Option Tmp} {ty:TypeId} {pos:String} {af:Array Edge} {gd:Option (Nat×Bool)}
theorem zw{t yt:TypeId}{x y:Operand}{a b:ByteArray}{r:Bool}(hx:aq T x=some (.sc (.string a)))(hy:aq T y=some (.sc (.string b)))(hr:bLt a b=r):ReadDoes P T H ⟨d,.binOp .lss t x y yt,ty,pos,af,gd⟩ (.sc (.bool r)):=by
 subst hr
 refine cU fun ev w he=>?_
 have e1:=he x _ hx _ rfl
 have e2:=he y _ hy _ rfl
 rw [← yG]
 simp [execOp,e1,e2,eqGuard,binOp,Op.stringOp]
theorem BG{t u:TypeId}{x y:Operand}{kd:IntKind}{a b c:Int}(hx:aq T x=some (.sc (.int kd a)))(hy:aq T y=some (.sc (.int kd b)))(hc:max a b=c):ReadDoes P T H ⟨d,.call {callee:= .builtin .max,args:= #[x,y],argTypes:= #[t,u]},ty,pos,af,gd⟩ (.sc (.int kd c)):=by
 subst hc
 refine cU fun ev w he=>?_
 have e1:=he x _ hx _ rfl
 have e2:=he y _ hy _ rfl
 have e3:(if a<b then b else a)=max a b:=by omega
 simp [execOp,resolve,invoke,builtin,e1,e2,Builtin.max_,Builtin.max2,e3]
end
abbrev u8L(s:ByteArray):List Value:=s.data.toList.map fun c=> .int .u8 (c.toNat:Int)
section
variable {P:Program} {T:Tr SV} {H:ay} {d:Option Tmp} {ty:TypeId} {pos:String} {af:Array Edge} {gd:Option (Nat×Bool)}
theorem cj{t e:TypeId}{x:Operand}{a:Option Addr}{n c:Nat}(hu:P.underlying t=some (.slice e))(hx:aq T x=some (.sc (.slice a n c))):ReadDoes P T H ⟨d,.call {callee:= .builtin .len,args:= #[x],argTypes:= #[t]},ty,pos,af,gd⟩ (.sc (.int .i64 n)):=by
 refine cU fun ev w he=>?_
 have e1:=he x _ hx _ rfl
 simp [execOp,resolve,invoke,builtin,e1,Builtin.len_,run_underlying hu,goInt]
end
section
variable {P:Program} {T:Tr SV} {H:ay} {d:Option Tmp} {ty:TypeId} {pos:String} {af:Array Edge} {gd:Option (Nat×Bool)}
theorem w5{t:TypeId}{v:SV}(h:lU P t []=some v):ReadDoes P T H ⟨d,.build t #[],ty,pos,af,gd⟩ v:=by
 refine ej ?_
 simp only [cJ,l7,EL,h]
end
section
variable {P:Program} {ro:Option Nat} {fn nt nx:Nat} {T:Tr SV} {k:List AIt} {dfs:List ADf} {H:ay} {Q:Pst} {ops:Array Oper} {i:Nat} {l:List Oper} {d:Option Tmp} {ty:TypeId} {pos:String} {af:Array Edge} {gd:Option (Nat×Bool)}
theorem mD{t yt:TypeId}{x y:Operand}{a b:ByteArray}{r:Bool}{dd:Nat}(hw:aE T ops ⟨some dd,.binOp .lss t x y yt,ty,pos,af,gd⟩=some true)(hd:Nat.blt dd nt=true)(hx:aq T x=some (.sc (.string a)))(hy:aq T y=some (.sc (.string b)))(hr:bLt a b=r)
 (h:Wp P ro ⟨fn,nt,T.set dd (.sc (.bool r)),.inReg ops (i+1) l :: k,dfs,H,nx⟩ Q):Wp P ro ⟨fn,nt,T,.inReg ops i (⟨some dd,.binOp .lss t x y yt,ty,pos,af,gd⟩ :: l) :: k,dfs,H,nx⟩ Q:=
 dn hw (.inr (fun _ h=>by cases h)) ((zw hx hy hr).does) (by rw [aI hd];exact h)
theorem AJ{t u:TypeId}{x y:Operand}{kd:IntKind}{a b c:Int}{dd:Nat}(hw:aE T ops ⟨some dd,.call {callee:= .builtin .max,args:= #[x,y],argTypes:= #[t,u]},ty,pos,af,gd⟩=some true)(hd:Nat.blt dd nt=true)(hx:aq T x=some (.sc (.int kd a)))(hy:aq T y=some (.sc (.int kd b)))(hc:max a b=c)
 (h:Wp P ro ⟨fn,nt,T.set dd (.sc (.int kd c)),.inReg ops (i+1) l :: k,dfs,H,nx⟩ Q):Wp P ro ⟨fn,nt,T,.inReg ops i (⟨some dd,.call {callee:= .builtin .max,args:= #[x,y],argTypes:= #[t,u]},ty,pos,af,gd⟩ :: l) :: k,dfs,H,nx⟩ Q:=
 dn hw (.inr (fun _ h=>by cases h)) ((BG hx hy hc).does) (by rw [aI hd];exact h)
theorem cx{t:TypeId}{v:SV}{dd:Nat}(hw:aE T ops ⟨some dd,.build t #[],ty,pos,af,gd⟩=some true)(hd:Nat.blt dd nt=true)(h0:lU P t []=some v)
 (h:Wp P ro ⟨fn,nt,T.set dd v,.inReg ops (i+1) l :: k,dfs,H,nx⟩ Q):Wp P ro ⟨fn,nt,T,.inReg ops i (⟨some dd,.build t #[],ty,pos,af,gd⟩ :: l) :: k,dfs,H,nx⟩ Q:=
 dn hw (.inr (fun _ h=>by cases h)) ((w5 h0).does) (by rw [aI hd];exact h)
end
section
variable {P:Program} {T:Tr SV} {H:ay} {nx:Nat} {d:Option Tmp} {ty:TypeId} {pos:String} {af:Array Edge} {gd:Option (Nat×Bool)}
theorem sG{s t el:TypeId}{x:Operand}{b:ByteArray}(hs:P.underlying s=some .string)(ht:P.underlying t=some (.slice el))(he:P.underlying el=some (.int .u8))(hx:aq T x=some (.sc (.string b)))(hb:b.size≤140737488355328) :
 OpDoes P T H nx ⟨d,.convert s t x,ty,pos,af,gd⟩ (.val (.slu nx 0 b.size),H.set nx (dat false b.size 1 el (u8L b)),nx+1):=by
 have e0:fS (b.data.toList.map fun c=>SV.sc (.int .u8 (c.toNat:Int)))=fun i=>((u8L b)[i]?).map SV.sc:=by
  funext i
  simp [fS,u8L,Function.comp_def]
 intro K w0 e w ev hS hE
 have e1:=hE x _ hx
 simp only [SV.conc,Ej] at e1
 have hrun:=run_bytes_of_string w s t el b hs ht he
 have hge:=grownCap_ge w b.size 0 el
 have hle:=grownCap_le_maxLen w b.size 0 el (by unfold maxLen;omega)
 generalize grownCap w b.size 0 el=gc at hrun hge hle
 have hf:=hS.fresh nx (EE _)
 have hsz:(bytesRow b gc).size=gc:=by
  have:b.data.size=b.size:=rfl
  simp [bytesRow];omega
 rw [hsz] at hrun
 refine⟨e.put nx ⟨w.heap.size,0,gc,1,false⟩,(w.drew.alloc (Obj.cells (bytesRow b gc) el (gc,gc+1))),Env.dA hf,?_,.slice (some ⟨w.heap.size,0,none⟩) b.size gc,by simp [SV.conc,Env.bL,Ent.at],by simp only [execOp,←e1];simp [hrun]⟩
 refine(hS.drew').new (x:=⟨w.heap.size,0,gc,1,false⟩) (o:= .cells (bytesRow b gc) el (gc,gc+1)) rfl rfl rfl rfl rfl rfl rfl ?_
 refine⟨rfl,_,_,_,rfl,hge,by rw [hsz];simp,hle,fun _=>⟨by omega,fun i hi=>?_⟩,by omega,fun i hi s' hs'=>?_⟩
 ·rw [hsz] at hi
  simp;omega
 ·have hs':((u8L b)[i]?).map SV.sc=some s':=hs'
  rw [Eu] at hs'
  obtain⟨u,hu,rfl⟩:=hs'
  simp only [u8L,E6,Eu] at hu
  obtain⟨a,ha,rfl⟩:=hu
  refine⟨_,rfl,?_⟩
  simp only [ER,bytesRow]
  rw [Array.getElem?_append_left (by rw [Array.size_map];have:b.data.size=b.size:=rfl;omega)]
  simp only [Array.getElem?_map,Eu]
  exact⟨a,by simpa using ha,rfl⟩
end
section
variable {P:Program} {T:Tr SV} {H:ay} {nx:Nat} {d:Option Tmp} {ty:TypeId} {pos:String} {af:Array Edge} {gd:Option (Nat×Bool)}
section
variable {s:SV}{t:TypeId}{x:Operand}{vs:List Value}
theorem xj{el:TypeId}{y:Operand}{kx ky:IntKind}{n m bb:Nat}{z:Value}(hu:P.underlying t=some (.slice el))(hs:bx P el=some 1)(hz:dJ P el=some z)(hi:(P.info? el).map (·.bytes)=some bb)(hc:z.cells = #[z])
 (hx:aq T x=some (.sc (.int kx n))) (hy:aq T y=some (.sc (.int ky m))) (hnm:n≤m) (hm:bb*m≤281474976710656) (h63:m≤9223372036854775807) :
 OpDoes P T H nx ⟨d,.makeSlice t x y,ty,pos,af,gd⟩ (.val (.slu nx 0 n),H.set nx (dat false m 1 el (List.replicate m z)),nx+1):=by
 intro K w0 e w ev hS hE
 have e1:=hE x _ hx
 have e2:=hE y _ hy
 simp only [SV.conc,Ej] at e1 e2
 obtain⟨inf,hinf,rfl⟩:=Eu.1 hi
 clear hi
 simp only [bx,hinf,EK,Ej] at hs
 simp only [dJ,hinf,EL] at hz
 have hbi:(inf.bytes:Int)*(m:Int)=((inf.bytes*m:Nat):Int):=by rw [Int.natCast_mul]
 have hrun:=run_make (P:=P) w t el inf z hu hinf hz kx ky n m (by omega) (by omega) (by rw [hbi];omega) (by omega)
 simp only [E7,hs,Nat.mul_one,hc] at hrun
 have hsz:(madeCells #[z] m).size=m:=size_madeCells _ _
 have hget: ∀ i,i<m→(madeCells #[z] m)[i]? =some z:=fun i hi=>by
  simp only [madeCells,Array.getElem?_map]
  rw [Array.getElem?_range]
  simp [hi,Nat.mod_one]
 have hf:=hS.fresh nx (EE _)
 refine⟨e.put nx ⟨w.heap.size,0,m,1,false⟩,w.alloc (Obj.cells (madeCells #[z] m) el),Env.dA hf,?_,.slice (some ⟨w.heap.size,0,none⟩) n m,by simp [SV.conc,Env.bL,Ent.at],by simp only [execOp,←e1,←e2];simp [hrun]⟩
 refine hS.new (x:=⟨w.heap.size,0,m,1,false⟩) (o:= .cells (madeCells #[z] m) el) rfl rfl rfl rfl rfl rfl rfl ?_
 refine⟨rfl,_,_,_,rfl,EE _,by rw [hsz];simp,by unfold maxLen;omega,fun _=>⟨EE _,fun i hi=>?_⟩,by omega,fun i hi s' hs'=>?_⟩
 ·simp
 ·have hs':((List.replicate m z)[i]?).map SV.sc=some s':=hs'
  rw [Eu] at hs'
  obtain⟨u,hu,rfl⟩:=hs'
  obtain⟨hil,rfl⟩:=Eo.1 hu
  refine⟨_,rfl,?_⟩
  simp only [ER,List.getElem_replicate]
  exact hget i (by simpa using hil)
theorem rL: ∀ l:List UInt8,lT ((l.map fun c=>Value.int .u8 (c.toNat:Int)).map SV.sc)=some l
 | []=>rfl
 | c :: l=>by
   simp only [EG]
   show(match lT _ with
    | some r=>some (UInt8.ofNat c.toNat :: r)
    | none=>none)=_
   rw [rL l]
   simp
theorem rK(b:ByteArray):oI ((u8L b).map SV.sc)=some (.sc (.string b)):=by
 unfold oI
 rw [show((u8L b).map SV.sc)=((b.data.toList.map fun c=>Value.int .u8 (c.toNat:Int)).map SV.sc)from rfl,rL]
 simp
def BsIs(H:ay)(s:SV)(vs:List Value):Prop:=rZ vs∧((vs= []∧ ∃ a c,s = .sc (.slice a 0 c)) ∨
 (∃ r eo ne ro t us,s = .slu r eo vs.length∧H.at' r=some (dat ro ne 1 t us)∧eo+vs.length≤ne∧(us.drop eo).take vs.length=vs) ∨
 (∃ b o C vo,s = .sl b o vs.length C∧H.at' b=some vo∧vo.cellsFrom o vs.length=some (vs.map .sc)))
theorem BsIs.rdv(h:BsIs H s vs):RdV P H 1 s vs.length vs:=by
 obtain⟨_,⟨rfl,_,_,rfl⟩|⟨r,eo,ne,ro,t,us,rfl,hb,hn,hu⟩|⟨b,o,C,vo,rfl,hb,hc⟩⟩:=h
 ·rfl
 ·exact sA hb hn (by simpa using hu) (by simp)
 ·unfold RdV
  simp only [aL,hb,Nat.mul_one,hc,EK]
theorem BsIs.frame{H':ay}(h:BsIs H s vs)(hf: ∀ b vo,H.at' b=some vo→H'.at' b=some vo):BsIs H' s vs:=by
 obtain⟨h1,h2|⟨r,eo,ne,ro,t,us,rfl,hb,hn,hu⟩|⟨b,o,C,vo,rfl,hb,hc⟩⟩:=h
 ·exact⟨h1,.inl h2⟩
 ·exact⟨h1,.inr (.inl ⟨r,eo,ne,ro,t,us,rfl,hf _ _ hb,hn,hu⟩)⟩
 ·exact⟨h1,.inr (.inr ⟨b,o,C,vo,rfl,hf _ _ hb,hc⟩)⟩
theorem BsIs.row{r ne:Nat}{ro:Bool}(h1:rZ vs)(hb:H.at' r=some (dat ro ne 1 t vs))(hn:vs.length=ne):BsIs H (.slu r 0 ne) vs:=
 ⟨h1,.inr (.inl ⟨r,0,ne,ro,t,vs,by rw [hn],hb,by omega,by simp⟩)⟩
theorem iD{e:TypeId}(hu:P.underlying t=some (.slice e))(hx:aq T x=some s)(hb:BsIs H s vs):ReadDoes P T H ⟨d,.call {callee:= .builtin .len,args:= #[x],argTypes:= #[t]},ty,pos,af,gd⟩ (.sc (.int .i64 vs.length)):=by
 obtain⟨_,⟨rfl,_,_,rfl⟩|⟨r,eo,ne,ro,t,us,rfl,hb,hn,_⟩|⟨b,o,C,vo,rfl,hb,hc⟩⟩:=hb
 ·exact cj hu hx
 ·exact tJ hu hx
 ·exact BH hu hx
theorem zy{yt:TypeId}{y:Operand}{a b:ByteArray}{r:Bool}(hx:aq T x=some (.sc (.string a)))(hy:aq T y=some (.sc (.string b)))(hr:bLt b a=r):ReadDoes P T H ⟨d,.binOp .gtr t x y yt,ty,pos,af,gd⟩ (.sc (.bool r)):=by
 subst hr
 refine cU fun ev w he=>?_
 have e1:=he x _ hx _ rfl
 have e2:=he y _ hy _ rfl
 have e3:bLt b a = !(Op.bytesLess a.toList b.toList || (a.toList == b.toList)):=by
  rw [yG,rQ]
  cases h1:bLt a b with
  | true=>
    cases h2:bLt b a with
    | true=>have:=rR h1 h2;rw [fI] at this;cases this
    | false=>rfl
  | false=>
    cases h2:bLt b a with
    | true=>
      rw [E9 (fun e=>by subst e;rw [fI] at h2;cases h2)]
      rfl
    | false=>rw [E8 (uA h1 h2)];rfl
 rw [e3]
 simp [execOp,e1,e2,eqGuard,binOp,Op.stringOp]
theorem tF{s el:TypeId}{v:SV}{b:ByteArray}(hs:P.underlying s=some (.slice el))(ht:P.underlying t=some .string)(he:P.underlying el=some (.int .u8))(hx:aq T x=some v)(hb:BsIs H v (u8L b)):ReadDoes P T H ⟨d,.convert s t x,ty,pos,af,gd⟩ (.sc (.string b)):=by
 have hr:=BsIs.rdv (P:=P) hb
 unfold RdV at hr
 obtain⟨_,⟨h1,a0,c0,rfl⟩|⟨r,eo,ne,ro,rt,us,rfl,_⟩|⟨b',o,C,vo,rfl,_⟩⟩:=hb
 ·have hb0:b=⟨#[]⟩:=by
   have:=congrArg List.length h1
   simp only [u8L,EU,List.length_nil] at this
   obtain⟨⟨l⟩⟩:=b
   simp only at this
   rw [EA this]
  subst hb0
  refine cU fun ev w hv=>?_
  have e1:=hv x _ hx _ rfl
  simp only [execOp,e1]
  rw [Sem.run_bind,run_convert_bytes_string w s t el a0 0 c0 hs he ht]
  cases a0 with
  | none=>
    simp only [Conv.bytesToString,Sem.run_pure]
    rfl
  | some ad=>
    have:=run_loadCells_list (P:=P) (w:=w) ad [] (by simp)
    rw [run_bytesToString w ad 0 c0 [] (by simpa using this)]
    rfl
 ·refine ej ?_
  simp only [cJ,hx,EL,qr,hs,ht,he,hr,rK]
 ·refine ej ?_
  simp only [cJ,hx,EL,qr,hs,ht,he,hr,rK]
end
end
section
variable {P:Program} {ro:Option Nat} {fn nt nx i:Nat} {T:Tr SV} {k:List AIt} {dfs:List ADf} {H:ay} {Q:Pst} {ops:Array Oper} {l:List Oper} {ty:TypeId} {pos:String} {af:Array Edge} {gd:Option (Nat×Bool)}
theorem o9{t el:TypeId}{x y:Operand}{kx ky:IntKind}{n m dd bb:Nat}{z:Value}(hw:aE T ops ⟨some dd,.makeSlice t x y,ty,pos,af,gd⟩=some true)(hd:Nat.blt dd nt=true)(hu:P.underlying t=some (.slice el))(hs:bx P el=some 1)(hz:dJ P el=some z)(hi:(P.info? el).map (·.bytes)=some bb)(hc:z.cells = #[z])
 (hx:aq T x=some (.sc (.int kx n))) (hy:aq T y=some (.sc (.int ky m))) (hnm:n≤m) (hm:bb*m≤281474976710656) (h63:m≤9223372036854775807)
 (h:Wp P ro ⟨fn,nt,T.set dd (.slu nx 0 n),.inReg ops (i+1) l :: k,dfs,H.set nx (dat false m 1 el (List.replicate m z)),nx+1⟩ Q):Wp P ro ⟨fn,nt,T,.inReg ops i (⟨some dd,.makeSlice t x y,ty,pos,af,gd⟩ :: l) :: k,dfs,H,nx⟩ Q:=
 dn hw (.inr (fun _ h=>by cases h)) (xj hu hs hz hi hc hx hy hnm hm h63) (by rw [aI hd];exact h)
theorem wn{t yt:TypeId}{x y:Operand}{a b:ByteArray}{r:Bool}{dd:Nat}(hw:aE T ops ⟨some dd,.binOp .gtr t x y yt,ty,pos,af,gd⟩=some true)(hd:Nat.blt dd nt=true)(hx:aq T x=some (.sc (.string a)))(hy:aq T y=some (.sc (.string b)))(hr:bLt b a=r)
 (h:Wp P ro ⟨fn,nt,T.set dd (.sc (.bool r)),.inReg ops (i+1) l :: k,dfs,H,nx⟩ Q):Wp P ro ⟨fn,nt,T,.inReg ops i (⟨some dd,.binOp .gtr t x y yt,ty,pos,af,gd⟩ :: l) :: k,dfs,H,nx⟩ Q:=
 dn hw (.inr (fun _ h=>by cases h)) ((zy hx hy hr).does) (by rw [aI hd];exact h)
end
end Go.Sy
end
section
namespace Go.Proofs.YtelnglhodnoclaaGreat
open Go Go.Sy
theorem mX(a:ByteArray):Ctr Tryz.prog 94 [.sc (.string a)] [] (fun c=>c=⟨.sc (.bool false),[]⟩):=by
 refine Gj Tryz.func94 rfl rfl ?_
 repeat first|apply ah;rfl|refine oZ (r:=false) rfl rfl rfl rfl (by simp only [bne];rw [(MapKept.bytes_beq a a).2 rfl];rfl) ?_
 (apply b8 Tryz.func94 Tryz.results94;rfl)
 (refine⟨_,rfl,Ends.val (Gh rfl) rfl ?_ ?_⟩)
 ·rfl
 ·trivial
theorem xz(a:Int):Ctr Tryz.prog 95 [.sc (.int .i64 a)] [] (fun c=>c=⟨.sc (.bool false),[]⟩):=by
 refine Gj Tryz.func95 rfl rfl ?_
 repeat first|apply ah;rfl|refine bO (cu rfl rfl (.inr (.inl ⟨rfl,rfl⟩))) rfl rfl rfl ?_
 (apply b8 Tryz.func95 Tryz.results95;rfl)
 (refine⟨_,rfl,Ends.val (Gh rfl) rfl ?_ ?_⟩)
 ·simp
 ·trivial
def Ao(a b:Int):Int:=if a<b then -1 else if b<a then 1 else 0
def yR(a b:ByteArray):Int:=bif bLt a b then -1 else bif bLt b a then 1 else 0
theorem yx(a b:Int):Ctr Tryz.prog 66 [.sc (.int .i64 a),.sc (.int .i64 b)] [] (fun c=>c=⟨.sc (.int .i64 (Ao a b)),[]⟩):=by
 refine Gj Tryz.func66 rfl rfl ?_
 repeat first|apply ah;rfl|refine ey (xz _) [] rfl rfl rfl (by kernel_rfl) rfl (Gh rfl) rfl trivial ?_
 refine bq rfl rfl rfl rfl ?_ ?_
 all_goals intro h1
 ·repeat apply ah;rfl
  (apply b8 Tryz.func66 Tryz.results66;rfl)
  (refine⟨_,rfl,Ends.val (Gh rfl) rfl ?_ ?_⟩)
  ·unfold Ao;rw [EQ h1]
  ·trivial
 ·repeat apply ah;rfl
  refine dI rfl rfl rfl rfl ?_ ?_
  all_goals intro h2
  ·repeat apply ah;rfl
   (apply b8 Tryz.func66 Tryz.results66;rfl)
   (refine⟨_,rfl,Ends.val (Gh rfl) rfl ?_ ?_⟩)
   ·unfold Ao;rw [EP (by omega),EQ h2]
   ·trivial
  ·repeat apply ah;rfl
   (apply b8 Tryz.func66 Tryz.results66;rfl)
   (refine⟨_,rfl,Ends.val (Gh rfl) rfl ?_ ?_⟩)
   ·unfold Ao;rw [EP (by omega),EP (by omega)]
   ·trivial
theorem yz(a b:ByteArray):Ctr Tryz.prog 65 [.sc (.string a),.sc (.string b)] [] (fun c=>c=⟨.sc (.int .i64 (yR a b)),[]⟩):=by
 refine Gj Tryz.func65 rfl rfl ?_
 cases h1:bLt a b with
 | true=>
   repeat first|apply ah;rfl|refine ey (mX _) [] rfl rfl rfl (by kernel_rfl) rfl (Gh rfl) rfl trivial ?_|refine mD (r:=true) rfl rfl rfl rfl h1 ?_
   (apply b8 Tryz.func65 Tryz.results65;rfl)
   (refine⟨_,rfl,Ends.val (Gh rfl) rfl ?_ ?_⟩)
   ·unfold yR;rw [h1];rfl
   ·trivial
 | false=>
   cases h2:bLt b a with
   | true=>
     repeat first|apply ah;rfl|refine ey (mX _) [] rfl rfl rfl (by kernel_rfl) rfl (Gh rfl) rfl trivial ?_|refine mD (r:=false) rfl rfl rfl rfl h1 ?_|refine wn (r:=true) rfl rfl rfl rfl h2 ?_
     (apply b8 Tryz.func65 Tryz.results65;rfl)
     (refine⟨_,rfl,Ends.val (Gh rfl) rfl ?_ ?_⟩)
     ·unfold yR;rw [h1,h2];rfl
     ·trivial
   | false=>
     repeat first|apply ah;rfl|refine ey (mX _) [] rfl rfl rfl (by kernel_rfl) rfl (Gh rfl) rfl trivial ?_|refine mD (r:=false) rfl rfl rfl rfl h1 ?_|refine wn (r:=false) rfl rfl rfl rfl h2 ?_
     (apply b8 Tryz.func65 Tryz.results65;rfl)
     (refine⟨_,rfl,Ends.val (Gh rfl) rfl ?_ ?_⟩)
     ·unfold yR;rw [h1,h2];rfl
     ·trivial
def or3(a b c:Int):Int:=if a=0 then(if b=0 then c else b) else a
theorem BX(a b c:Int):Ctr Tryz.prog 64 [.slu 0 0 3] [dat false 3 1 3 [.int .i64 a,.int .i64 b,.int .i64 c]] (fun x=>x=⟨.sc (.int .i64 (or3 a b c)),[dat false 3 1 3 [.int .i64 a,.int .i64 b,.int .i64 c]].map some⟩):=by
 refine Gj Tryz.func64 rfl rfl ?_
 repeat first|apply ah;rfl|refine oU ?_|refine bO (f9 (F.un _ rfl) (F.sz _ rfl) rfl rfl rfl (by omega) (by omega) (by omega)) rfl rfl rfl ?_|refine gN rfl rfl rfl (F.ag _ rfl) rfl rfl (by decide) ?_|refine bO (cu rfl rfl (.inr (.inr (.inl ⟨rfl,rfl⟩)))) rfl rfl rfl ?_
 refine fp rfl rfl rfl rfl ?_ ?_
 all_goals intro h1
 ·repeat apply ah;rfl
  (apply b8 Tryz.func64 Tryz.results64;rfl)
  (refine⟨_,rfl,Ends.val (Gh rfl) rfl ?_ ?_⟩)
  ·unfold or3;rw [EP h1]
  ·(refine⟨?_,trivial⟩;rw [dq];first|rfl|exact congrArg some (bZ _ _ _ _ _))
 ·repeat first|apply ah;rfl|apply aC;rfl;omega;omega|refine my ?_|refine bO (f9 (F.un _ rfl) (F.sz _ rfl) rfl rfl rfl (by omega) (by omega) (by omega)) rfl rfl rfl ?_|refine gN rfl rfl rfl (F.ag _ rfl) rfl rfl (by decide) ?_|refine bO (cu rfl rfl (.inr (.inr (.inl ⟨rfl,rfl⟩)))) rfl rfl rfl ?_
  refine fp rfl rfl rfl rfl ?_ ?_
  all_goals intro h2
  ·repeat apply ah;rfl
   (apply b8 Tryz.func64 Tryz.results64;rfl)
   (refine⟨_,rfl,Ends.val (Gh rfl) rfl ?_ ?_⟩)
   ·unfold or3;rw [EQ h1,EP h2]
   ·(refine⟨?_,trivial⟩;rw [dq];first|rfl|exact congrArg some (bZ _ _ _ _ _))
  ·repeat first|apply ah;rfl|apply aC;rfl;omega;omega|refine my ?_|refine bO (f9 (F.un _ rfl) (F.sz _ rfl) rfl rfl rfl (by omega) (by omega) (by omega)) rfl rfl rfl ?_|refine gN rfl rfl rfl (F.ag _ rfl) rfl rfl (by decide) ?_|refine bO (cu rfl rfl (.inr (.inr (.inl ⟨rfl,rfl⟩)))) rfl rfl rfl ?_
   refine fp rfl rfl rfl rfl ?_ ?_
   all_goals intro h3
   ·repeat apply ah;rfl
    (apply b8 Tryz.func64 Tryz.results64;rfl)
    (refine⟨_,rfl,Ends.val (Gh rfl) rfl ?_ ?_⟩)
    ·unfold or3;rw [EQ h1,EQ h2]
    ·(refine⟨?_,trivial⟩;rw [dq];first|rfl|exact congrArg some (bZ _ _ _ _ _))
   ·repeat first|apply ah;rfl|apply aC;rfl;omega;omega|refine my ?_|refine bO (cu rfl rfl (.inr (.inr (.inl ⟨rfl,rfl⟩)))) rfl rfl rfl ?_
    (apply b8 Tryz.func64 Tryz.results64;rfl)
    (refine⟨_,rfl,Ends.val (Gh rfl) rfl ?_ ?_⟩)
    ·unfold or3;rw [EQ h1,EQ h2,h3]
    ·(refine⟨?_,trivial⟩;rw [dq];first|rfl|exact congrArg some (bZ _ _ _ _ _))
abbrev bf:=ByteArray×Int×Int
abbrev gC(e:bf):SV:= .agg [.sc (.string e.1),.sc (.int .i64 e.2.1),.sc (.int .i64 e.2.2)]
def zL(a b:bf):Int:=or3 (yR a.1 b.1) (Ao a.2.1 b.2.1) (Ao a.2.2 b.2.2)
theorem lm(a b:bf):Ctr Tryz.prog 35 [gC a,gC b] [] (fun c=>c=⟨.sc (.int .i64 (zL a b)),[]⟩):=by
 refine Gj Tryz.func35 rfl rfl ?_
 repeat apply ah;rfl
 refine aS (by kernel_rfl) (by kernel_rfl) ?_
 repeat first|apply az;rfl|refine ba (aK (F.ag _ rfl) rfl rfl (aF rfl)) rfl rfl rfl ?_|refine eX rfl rfl rfl (by kernel_rfl) (Ctr.callV (yz _ _) [] rfl (Gh rfl) rfl trivial rfl) ?_|refine eX rfl rfl rfl (by kernel_rfl) (Ctr.callV (yx _ _) [] rfl (Gh rfl) rfl trivial rfl) ?_|refine vI (BZ (F.un _ rfl) (F.sz _ rfl) (F.ze _ rfl) rfl rfl rfl rfl rfl rfl) rfl rfl rfl ?_|refine eX rfl rfl rfl (by kernel_rfl) (Ctr.callV (BX _ _ _) [2] rfl (Gh rfl) rfl ⟨(congrArg some (dq _ _ _ _ _ _)).symm,trivial⟩ rfl) ?_
 refine au ?_
 refine⟨by kernel_rfl,?_,?_⟩
 ·repeat first|exact Gu|apply cc;rfl|apply bN;rfl|refine⟨.inr (by(repeat(refine⟨(by(exact aK (F.ag _ rfl) rfl rfl (aF rfl))),?_⟩));exact Gu),?_⟩
 (apply b8 Tryz.func35 Tryz.results35;rfl)
 (refine⟨_,rfl,Ends.val (Gh rfl) rfl ?_ ?_⟩)
 ·rfl
 ·trivial
def bl(a b:bf):Bool:=decide (zL a b<0)
theorem xG(a b:bf):Ctr Tryz.prog 14 [gC a,gC b] [] (fun c=>c=⟨.sc (.bool (bl a b)),[]⟩):=by
 refine Gj Tryz.func14 rfl rfl ?_
 repeat first|apply ah;rfl|apply aM;rfl;(focus((repeat(first|exact ae|refine aa (by omega) ?_));done));rfl|refine ey (lm _ _) [] rfl rfl rfl (by kernel_rfl) rfl (Gh rfl) rfl trivial ?_|refine bO (cu rfl rfl (.inr (.inr (.inl ⟨rfl,rfl⟩)))) rfl rfl rfl ?_
 (apply b8 Tryz.func14 Tryz.results14;rfl)
 (refine⟨_,rfl,Ends.val (Gh rfl) rfl ?_ ?_⟩)
 ·rfl
 ·trivial
def Cc(k:ByteArray):Bool:=decide (1≤k.size∧k.size≤32)
def gz(e:bf):Bool:=decide ((1≤e.1.size∧e.1.size≤32)∧32≤e.2.1∧e.2.1<128∧0≤e.2.2∧e.2.2≤255)
theorem zN(a:Int):Ctr Tryz.prog 16 [.sc (.int .i64 a)] [] (fun c=>c=⟨.sc (.int .i64 a),[]⟩):=by
 refine Gj Tryz.func16 rfl rfl ?_
 repeat apply ah;rfl
 (apply b8 Tryz.func16 Tryz.results16;rfl)
 (refine⟨_,rfl,Ends.val (Gh rfl) rfl ?_ ?_⟩)
 ·rfl
 ·trivial
theorem mZ(k:ByteArray):Ctr Tryz.prog 34 [.sc (.string k)] [] (fun c=>c=⟨.sc (.bool (Cc k)),[]⟩):=by
 refine Gj Tryz.func34 rfl rfl ?_
 (repeat' (first|apply ah;rfl|(refine cL rfl rfl rfl rfl ?_ ?_ <;> intro hq)|(refine lK rfl rfl rfl rfl ?_ ?_ <;> intro hq2)))
 all_goals((apply b8 Tryz.func34 Tryz.results34;rfl);(refine⟨_,rfl,Ends.val (Gh rfl) rfl ?_ ?_⟩))
 all_goals first|trivial|(rw [show Cc k=true from E8 (by omega)])|(rw [show Cc k=false from E9 (by omega)])
theorem zT(e:bf):Ctr Tryz.prog 12 [gC e] [] (fun c=>c=⟨.sc (.bool (gz e)),[]⟩):=by
 refine Gj Tryz.func12 rfl rfl ?_
 have hk:=mZ e.1
 cases hm:Cc e.1 <;> rw [hm] at hk
 all_goals(repeat' (first|apply ah;rfl|apply aM;rfl;(focus((repeat(exact ae));done));rfl|refine ey (hk) [] rfl rfl rfl (by kernel_rfl) rfl (Gh rfl) rfl trivial ?_|(refine cL rfl rfl rfl rfl ?_ ?_ <;> intro hq)|(refine lK rfl rfl rfl rfl ?_ ?_ <;> intro hq)|(refine bq rfl rfl rfl rfl ?_ ?_ <;> intro hq)))
 all_goals((apply b8 Tryz.func12 Tryz.results12;rfl);(refine⟨_,rfl,Ends.val (Gh rfl) rfl ?_ ?_⟩))
 all_goals first|trivial|(simp only [Cc,Gg,decide_eq_false_iff_not] at hm;first|(rw [show gz e=true from E8 (by omega)])|(rw [show gz e=false from E9 (by omega)]))
theorem t5{a b:bf}(h:(a.1 != b.1)=true):bl a b=bLt a.1 b.1:=by
 have hne:a.1≠b.1:=fun e=>by rw [e] at h;simp only [bne,(MapKept.bytes_beq b.1 b.1).2 rfl] at h;cases h
 unfold bl zL or3 yR
 cases h1:bLt a.1 b.1 with
 | true=>rfl
 | false=>
   cases h2:bLt b.1 a.1 with
   | true=>rfl
   | false=>exact absurd (uA h1 h2) hne
theorem t6{a b:bf}(h:(a.1 != b.1)=false):bl a b=decide (a.2.1<b.2.1∨a.2.1=b.2.1∧a.2.2<b.2.2):=by
 have he:a.1=b.1:=by
  simp only [bne,Bool.not_eq_false'] at h
  exact(MapKept.bytes_beq a.1 b.1).1 h
 have key: ∀ p q r s:Int,((if(if p<q then(-1:Int) else if q<p then 1 else 0)=0 then(if r<s then(-1:Int) else if s<r then 1 else 0) else(if p<q then(-1:Int) else if q<p then 1 else 0))<0)=(p<q∨p=q∧r<s):=by
  intro p q r s
  apply propext
  by_cases h1:p<q
  ·simp [h1]
  ·by_cases h2:q<p
   ·simp [h1,h2];omega
   ·by_cases h3:r<s
    ·simp [h1,h2,h3];omega
    ·by_cases h4:s<r
     ·simp [h1,h2,h3,h4]
     ·simp [h1,h2,h3,h4]
 unfold bl zL yR
 rw [he,fI]
 exact decide_eq_decide.2 (iff_of_eq (key a.2.1 b.2.1 a.2.2 b.2.2))
theorem vt(a b:bf):Ctr Tryz.prog 15 [gC a,gC b] [] (fun c=>c=⟨.sc (.bool (bl a b)),[]⟩):=by
 refine Gj Tryz.func15 rfl rfl ?_
 cases h:a.1 != b.1 with
 | true=>
   repeat first|apply ah;rfl|apply aM;rfl;(focus((repeat(first|exact ae|refine aa (by omega) ?_));done));rfl|refine oZ (r:=true) rfl rfl rfl rfl h ?_|refine mD rfl rfl rfl rfl rfl ?_
   (apply b8 Tryz.func15 Tryz.results15;rfl)
   (refine⟨_,rfl,Ends.val (Gh rfl) rfl ?_ ?_⟩)
   ·rw [t5 h]
   ·trivial
 | false=>
   (repeat' (first|apply ah;rfl|apply aM;rfl;(focus((repeat(first|exact ae|refine aa (by omega) ?_));done));rfl|refine oZ (r:=false) rfl rfl rfl rfl h ?_|(refine bq rfl rfl rfl rfl ?_ ?_ <;> intro hq)|(refine cD rfl rfl rfl rfl ?_ ?_ <;> intro hq)))
   all_goals((apply b8 Tryz.func15 Tryz.results15;rfl);(refine⟨_,rfl,Ends.val (Gh rfl) rfl ?_ ?_⟩))
   all_goals first|trivial|(rw [t6 h];first|(rw [E8 (by omega)])|(rw [E9 (by omega)]))
end Go.Proofs.YtelnglhodnoclaaGreat
end
section
namespace Go.Proofs.YtelnglhodnoclaaGreat
open Go Go.Sy Go.Sl Go.RowKit
section
variable {H:ay}{b0 b1 b2:UInt8}{ls:List SV}{l r:List UInt8}{bs:List (List Value)}
def LsIs(H:ay)(ls:List SV)(bs:List (List Value)):Prop:=ls.length=bs.length∧ ∀ (j:Nat) s vs,ls[j]? =some s→bs[j]? =some vs→BsIs H s vs
abbrev bsR(ro:Bool)(ls:List SV):VO:=ft ro ls.length 1 26 ls
abbrev u8R(ro:Bool)(vs:List Value):VO:=dat ro vs.length 1 5 vs
abbrev u8Z:Value:= .int .u8 0
theorem LsIs.at(h:LsIs H ls bs){j:Nat}(hj:j<ls.length): ∃ s vs,ls[j]? =some s∧bs[j]? =some vs∧BsIs H s vs:=by
 obtain⟨h1,h2⟩:=h
 exact⟨ls[j],bs[j]'(by omega),by simp [hj],by rw [En],h2 j _ _ (by simp [hj]) (by rw [En])⟩
theorem iJ{j:Nat}{vs:List Value}(h:bs[j]? =some vs):(bs.take (j+1)).flatten=(bs.take j).flatten ++ vs:=by
 rw [List.take_add_one,h]
 simp
theorem sU(bs:List (List Value))(j:Nat):(bs.take j).flatten.length≤bs.flatten.length:=by
 conv=>rhs;rw [← List.take_append_drop j bs,List.flatten_append,EI]
 omega
theorem uk(h: ∀ vs∈bs,rZ vs):rZ bs.flatten:=by
 intro v hv
 obtain⟨l,hl,hv⟩:=List.mem_flatten.1 hv
 exact h l hl v hv
theorem DN{nx r:Nat}{ro:Bool}(hr:H.at' r=some (bsR ro ls))(hb:LsIs H ls bs)(hsz:bs.flatten.length≤140737488355328)(hl:ls.length≤4611686018427387904):Fnc Tryz.prog 33 [.slu r 0 ls.length] H nx
 (fun q=> ∃ r',q.1 = .slu r' 0 bs.flatten.length∧q.2.1.at' r'=some (u8R false bs.flatten)∧nx≤r'∧r'<q.2.2∧nx≤q.2.2∧ ∀ n,n<nx→q.2.1.at' n=H.at' n):=by
 refine Gj Tryz.func33 rfl rfl ?_
 refine bh fun hund=>?_
 have hlt:=hund _ _ hr
 repeat apply ah;rfl
 refine bv (α:=Nat) (fun j=> [(0,.slu r 0 ls.length),(2,.sc (.slice none 0 0)),(3,.sc (.int .i64 ((bs.take j).flatten.length:Nat))),(9,.slu r 0 ls.length),(10,.sc (.int .i64 (ls.length:Int))),(11,.sc (.int .i64 (j:Int)))]) (fun j H1 n1=>H1=H∧n1=nx∧j≤ls.length) (fun j=>ls.length-j) 0
  ⟨rfl,rfl,EF _⟩ (Gq (Gt rfl)) ?_
 rintro j H1 n1 ⟨rfl,rfl,h1⟩ ih
 repeat apply ah;rfl
 (apply bq;rfl;rfl;rfl;rfl)
 all_goals intro h6
 ·obtain⟨s,vs,g1,g2,g3⟩:=hb.at (j:=j) (by omega)
  have hle:=sU bs (j+1)
  have hft:=iJ g2
  rw [hft,EI] at hle
  have hcell:(bsR ro ls).cell (j*1)=some s:=kS (by rw [Nat.mul_one];exact g1) (by omega)
  repeat first|apply ah;rfl|apply a6;rfl|apply aC;rfl;omega;omega|refine ew (q:=j) rfl rfl rfl rfl (F.un _ rfl) (F.sz _ rfl) (by assumption) (by omega) (by(omega)) (EE _) ?_|refine bO (aK (F.ag _ rfl) rfl hr hcell) rfl rfl rfl ?_|refine bO (iD (F.un _ rfl) rfl g3) rfl rfl rfl ?_
  refine ih _ _ _ (j+1) ⟨rfl,rfl,by omega⟩ (by omega) ?_
  rw [hft,EI]
  exact Gq (by repeat(first|exact Gu|refine⟨rfl,?_⟩))
 ·obtain rfl:j=ls.length:=by omega
  have hall:bs.take ls.length=bs:=Ew (by have:=hb.1;omega)
  rw [hall]
  repeat first|apply ah;rfl|apply o9 (z:=u8Z) (bb:=1) (n:=0) (m:=bs.flatten.length);rfl;rfl;exact(F.un _ rfl);exact(F.sz _ rfl);exact(F.ze _ rfl);(focus(kernel_rfl));rfl;rfl;rfl;exact(EF _);(focus(omega));(focus(omega))
  have hrep: ∀ n,rZ (List.replicate n u8Z):=fun n v hv=>by rw [(List.mem_replicate.1 hv).2];rfl
  refine bv (α:=Nat) (fun j=> [(0,.slu r 0 ls.length),(6,.slu n1 0 (bs.take j).flatten.length),(22,.slu r 0 ls.length),(23,.sc (.int .i64 (ls.length:Int))),(24,.sc (.int .i64 (j:Int)))]) (fun j H2 n2=>n2=n1+1∧j≤ls.length∧H2.at' n1=some (dat false bs.flatten.length 1 5 ((bs.take j).flatten ++ List.replicate (bs.flatten.length-(bs.take j).flatten.length) u8Z))∧ ∀ n,n<n1→H2.at' n=H1.at' n) (fun j=>ls.length-j) 0
   ⟨rfl,EF _,by rw [aw];simp,fun n hn=>ab _ _ (by omega)⟩ (Gq (Gt rfl)) ?_
  clear ih
  rintro j H2 n2 ⟨rfl,h2,h3,h4⟩ ih
  have hr2:H2.at' r=some (bsR ro ls):=(h4 r hlt).trans hr
  repeat apply ah;rfl
  (apply bq;rfl;rfl;rfl;rfl)
  all_goals intro h7
  ·obtain⟨s,vs,g1,g2,g3⟩:=hb.at (j:=j) (by omega)
   have g4:BsIs H2 s vs:=g3.frame fun b vo hbv=>(h4 b (hund b vo hbv)).trans hbv
   have hle:=sU bs (j+1)
   have hle0:=sU bs j
   have hft:=iJ g2
   rw [hft,EI] at hle
   have hcell:(bsR ro ls).cell (j*1)=some s:=kS (by rw [Nat.mul_one];exact g1) (by omega)
   repeat first|apply ah;rfl|refine ew (q:=j) rfl rfl rfl rfl (F.un _ rfl) (F.sz _ rfl) (by assumption) (by omega) (by(omega)) (EE _) ?_|refine bO (aK (F.ag _ rfl) rfl hr2 hcell) rfl rfl rfl ?_
   rcases Nat.eq_zero_or_pos vs.length with h0|h0
   ·have:vs= []:=EA h0
    subst this
    refine wu (vs:= []) rfl rfl rfl rfl (F.un _ rfl) (.inl ⟨_,F.un _ rfl⟩) (F.sz _ rfl) (by decide) h3 (by omega) (BsIs.rdv g4) g4.1 ?_
    repeat first|apply ah;rfl|apply aC;rfl;omega;omega
    refine ih _ _ _ (j+1) ⟨rfl,by omega,by rw [hft,E3];exact h3,h4⟩ (by omega) ?_
    rw [hft,E3]
    exact Gq (by repeat(first|exact Gu|refine⟨rfl,?_⟩))
   ·refine uK (vs:=vs) (ws:=(bs.take (j+1)).flatten ++ List.replicate (bs.flatten.length-(bs.take (j+1)).flatten.length) u8Z) rfl rfl rfl rfl (F.un _ rfl) (.inl ⟨_,F.un _ rfl⟩) (F.sz _ rfl) h3 (BsIs.rdv g4) g4.1 (by omega) (by omega) (by omega) (by rw [EI,E2];omega) ?_ ?_
    ·rw [hft,EI,ER,Nat.mul_one,Nat.mul_one,List.take_left' rfl,←List.drop_drop,List.drop_left' rfl,List.drop_replicate,Nat.sub_sub]
    ·repeat first|apply ah;rfl|apply aC;rfl;omega;omega
     refine ih _ _ _ (j+1) ⟨rfl,by omega,aw _ _ _,fun n hn=>(ab _ _ (by omega)).trans (h4 n hn)⟩ (by omega) ?_
     rw [hft,EI]
     exact Gq (by repeat(first|exact Gu|refine⟨rfl,?_⟩))
  ·obtain rfl:j=ls.length:=by omega
   rw [hall] at h3 ⊢
   repeat apply ah;rfl
   (apply b8 Tryz.func33 Tryz.results33;rfl)
   refine⟨n1,rfl,?_,EE _,Nat.lt_succ_self _,EN _,h4⟩
   rw [Nat.sub_self,List.replicate_zero,E3] at h3
   exact h3
theorem xM{nx r:Nat}{ro:Bool}(hr:H.at' r=some (bsR ro ls))(hb:LsIs H ls bs)(hsz:bs.flatten.length≤140737488355328)(hl:ls.length≤4611686018427387904):Fnc Tryz.prog 33 [.slu r 0 ls.length] H nx
 (fun q=>q=(.slu nx 0 bs.flatten.length,H.set nx (u8R false bs.flatten),nx+1)):=Fnc.next (DN hr hb hsz hl)
abbrev cp:bf:=(⟨#[]⟩,0,0)
def ofL:List UInt8→Option bf
 | b0 :: b1 :: b2 :: r=>bif gz (⟨(b2 :: r).toArray⟩,(b0.toNat:Int),(b1.toNat:Int)) then some (⟨(b2 :: r).toArray⟩,(b0.toNat:Int),(b1.toNat:Int)) else none
 | _=>none
abbrev vf(l:List UInt8)(no:Int):SV:= .tup [gC ((ofL l).getD cp),.sc (.int .i64 (if(ofL l).isSome then 0 else no))]
theorem ww(a:UInt8):IntKind.i64.wrap ((a.toNat:Nat):Int)=(a.toNat:Int):=Ek _ ⟨by omega,by have:=a.toNat_lt;omega⟩
theorem gw{no:Int}(h:ofL l=none):vf l no = .tup [gC cp,.sc (.int .i64 no)]:=by simp only [vf,h];rfl
theorem ln{no:Int}{e:bf}(h:ofL l=some e):vf l no = .tup [gC e,.sc (.int .i64 0)]:=by simp only [vf,h];rfl
theorem xv(h:l.length<3):ofL l=none:=by
 rcases l with _|⟨b0,_|⟨b1,_|⟨b2,r⟩⟩⟩
 ·rfl
 ·rfl
 ·rfl
 ·simp at h;omega
abbrev yP(b0 b1 b2:UInt8)(r:List UInt8):bf:=(⟨(b2 :: r).toArray⟩,(b0.toNat:Int),(b1.toNat:Int))
theorem AV(h:gz (yP b0 b1 b2 r)=false):ofL (b0 :: b1 :: b2 :: r)=none:=by simp only [ofL,h,cond_false]
theorem xt(h:gz (yP b0 b1 b2 r)=true):ofL (b0 :: b1 :: b2 :: r)=some (yP b0 b1 b2 r):=by simp only [ofL,h,cond_true]
theorem Ch(h:34<r.length+3):gz (yP b0 b1 b2 r)=false:=E9 fun hh=>by
 have h2:=hh.1.2
 have h3:(⟨(b2 :: r).toArray⟩:ByteArray).size=r.length+1:=rfl
 simp only [h3] at h2
 omega
end
end Go.Proofs.YtelnglhodnoclaaGreat
end
