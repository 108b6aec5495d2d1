import Derived.Laws.StructEq
import Derived.Sort.AssemblyPlain
import Derived.Laws.MakeOwn
import Derived.Test.YtelnglhodnoclaaGreatB2
set_option linter.unusedVariables false
set_option linter.unusedSimpArgs false
set_option maxRecDepth 100000
set_option maxHeartbeats 0
section
namespace Go.Sy
open Go Go.Sl Go.RowKit
section
variable {P:Program}
section
variable {H:aw}{nx:Nat}
def tT:List Nat→Bool
 | []=>true
 | x :: l=> !(l.any (Nat.beq x)) && tT l
def extB(L:List Nat)(nx:Nat):Bool:=L.all (fun n=>Nat.blt n nx) && tT L
theorem qK: ∀ {l:List Nat},tT l=true→l.Nodup
 | [],_=>List.nodup_nil
 | x :: l,h=>by
   simp only [tT,Ek,Bool.not_eq_true'] at h
   refine List.nodup_cons.2 ⟨fun hm=>?_,qK h.2⟩
   have:l.any (Nat.beq x)=true:=List.any_eq_true.2 ⟨x,hm,Nat.beq_refl x⟩
   rw [this] at h
   cases h.1
theorem ExtOk.of{L:List Nat}{nx:Nat}(h:extB L nx=true):ExtOk L nx:=by
 simp only [extB,Ek] at h
 exact⟨fun n hn=>D7 (List.all_eq_true.1 h.1 n hn),qK h.2⟩
theorem E0:type_of% @ExtOk.of:=@ExtOk.of
theorem Ends.mk{k0:Nat}{c:Cz}{v:SV}(σ:List Nat)(h1:ExtOk (nms k0 σ) nx)(h2:k0+σ.length=c.objs.length)(h3:v=c.v.ren (ext (nms k0 σ) nx))(h4:HasO (ext (nms k0 σ) nx) H 0 c.objs):Ends k0 c (v,H,nx):=⟨σ,h1,h2,h3,h4⟩
theorem Ends.val{k0:Nat}{u u':Value}{objs:List (Option VO)}(h1:ExtOk (nms k0 []) nx)(h2:k0=objs.length)(h3:u=u')(h4:HasO (ext (nms k0 []) nx) H 0 objs):Ends k0 ⟨.sc u',objs⟩ (.sc u,H,nx):=⟨[],h1,by simpa using h2,by rw [h3];rfl,h4⟩
theorem HasO.mono{ρ:Nat→Nat}{H H':aw}: ∀ {l:List (Option VO)} {i:Nat},HasO ρ H i l→(∀ n vo,H.at' n=some vo→H'.at' n=some vo)→HasO ρ H' i l
 | [],_,_,_=>trivial
 | none :: l,i,h,hH=>HasO.mono (l:=l) (i:=i+1) h hH
 | some v :: l,i,h,hH=>⟨hH _ _ h.1,HasO.mono (l:=l) (i:=i+1) h.2 hH⟩
theorem ti{ρ:Nat→Nat}: ∀ {l:List VO} {i:Nat} {H:aw},HasO ρ H i (l.map some)→wrO ρ H i ((l.map some).map (Option.map (VO.ren ρ)))=H
 | [],_,_,_=>rfl
 | v :: l,i,H,h=>by
   have e:H.set (ρ i) (v.ren ρ)=H:=by
    funext n
    simp only [Tr.set]
    cases hb:Nat.beq n (ρ i)with
    | false=>rfl
    | true=>have:=EO hb;subst this;exact h.1.symm
   simp only [Eo,Et,wrO,e]
   exact ti (l:=l) (i:=i+1) h.2
theorem Ctr.callV{f:FuncId}{args0 args:List SV}{pre:List VO}{u:Value}(h:Ctr P f args0 pre (fun c=>c=⟨.sc u,pre.map some⟩))(L:List Nat){Q:Pst}(hlen:L.length=pre.length)(hL:ExtOk L nx)(ha:args=args0.map (SV.ren (ext L nx)))
 (hp:HasO (ext L nx) H 0 (pre.map some)) (hQ:Q (.sc u,H,nx)):Fnc P f args H nx Q:=by
 refine h.call L hlen hL ha hp ?_
 rintro c rfl _
 rw [ti hp]
 simpa [SV.ren] using hQ
theorem Ctr.callM{f:FuncId}{args0 args:List SV}{pre:List VO}{c:Cz}(h:Ctr P f args0 pre (fun c'=>c'=c))(L:List Nat){H':aw}{nx':Nat}{v:SV}{Q:Pst}(hlen:L.length=pre.length)(hL:ExtOk L nx)(ha:args=args0.map (SV.ren (ext L nx)))
 (hp:HasO (ext L nx) H 0 (pre.map some)) (hv:c.v.ren (ext L nx)=v) (ho:wrO (ext L nx) H 0 (c.objs.map (Option.map (VO.ren (ext L nx))))=H') (hn:nx+(c.objs.length-pre.length)=nx') (hQ:Q (v,H',nx')):Fnc P f args H nx Q:=by
 refine h.call L hlen hL ha hp ?_
 rintro c' rfl _
 rw [hv,ho,hn]
 exact hQ
end
section
variable {ro:Option Nat} {fn nt nx:Nat} {T:Tr SV} {k:List AIt} {dfs:List ADf} {H:aw} {Q:Pst} {ops:Array Oper} {i:Nat} {l:List Oper} {ty:TypeId} {pos:String} {af:Array Edge} {gd:Option (Nat×Bool)}
theorem ey{g:FuncId}{as1:List Operand}{ats:Array TypeId}{args args0:List SV}{pre:List VO}{u:Value}{dd:Nat}(hc:Ctr P g args0 pre (fun c=>c=⟨.sc u,pre.map some⟩))(L:List Nat)
 (hw:aD T ops ⟨some dd,.call {callee:= .value (.func g),args:=as1.toArray,argTypes:=ats},ty,pos,af,gd⟩=some true) (hd:Nat.blt dd nt=true) (ha:dh T as1=some args) (hm:bB P g=true)
 (hlen:L.length=pre.length) (hL:ExtOk L nx) (hA:args=args0.map (SV.ren (ext L nx))) (hp:HasO (ext L nx) H 0 (pre.map some))
 (h:Wp P ro ⟨fn,nt,T.set dd (.sc u),.inReg ops (i+1) l :: k,dfs,H,nx⟩ Q) :
 Wp P ro ⟨fn,nt,T,.inReg ops i (⟨some dd,.call {callee:= .value (.func g),args:=as1.toArray,argTypes:=ats},ty,pos,af,gd⟩ :: l) :: k,dfs,H,nx⟩ Q:=
 aL hw hd ha hm (hc.callV L hlen hL hA hp h)
end
theorem cK{k:IntKind}{a b:Int}(h:a=b):some (SV.sc (.int k a))=some (SV.sc (.int k b)):=by rw [h]
theorem cm{H:aw}{ρ:Nat→Nat}{n:Nat}{t:TypeId}{l:List SV}(h:H.at' n=some (am t (SV.gJ ρ l))):H.at' n=some ((am t l).ren ρ):=by rw [pc];exact h
theorem xL{ρ:Nat→Nat}{T:Tr SV}: ∀ {l:List (Nat×SV)},l.map (fun x=>T.at' x.1)=l.map (fun x=>some (x.2.ren ρ))→HasT ρ T l
 | [],_=>trivial
 | (t,s) :: l,h=>by
   simp only [Eo,List.cons.injEq] at h
   exact⟨h.1,xL h.2⟩
theorem IsAt.rf{k0:Nat}{L2:List Nat}{sl:List (Nat×SV)}{ob:List (Option VO)}{T:Tr SV}{H:aw}{nx:Nat}(h1:extB (nms k0 L2) nx=true)(h2:k0+L2.length=ob.length)(h3:sl.map (fun x=>T.at' x.1)=sl.map (fun x=>some (x.2.ren (ext (nms k0 L2) nx))))(h4:HasO (ext (nms k0 L2) nx) H 0 ob):IsAt k0 L2 sl ob T H nx:=⟨.of h1,h2,xL h3,h4⟩
theorem Ga:type_of% @IsAt.rf:=@IsAt.rf
theorem ai{H:aw}{ρ:Nat→Nat}{n:Nat}{ro:Bool}{ne sz:Nat}{t:TypeId}{vs:List Value}(h:H.at' n=some (dat ro ne sz t vs)):H.at' n=some ((dat ro ne sz t vs).ren ρ):=by rw [dw];exact h
end
theorem bU(ro:Bool)(ne sz:Nat)(t:TypeId)(vs:List Value):VO.row ro ne sz t (fw (vs.map .sc))=dat ro ne sz t vs:=by
 unfold dat fw
 congr 1
 funext i
 rw [EP]
section
variable {P:Program} {K:Zone} {w0 w:World} {e:Env} {H:aw} {nx:Nat} {T:Tr SV} {ev:Operand→Value} {d:Option Tmp} {ty:TypeId} {pos:String} {af:Array Edge} {gd:Option (Nat×Bool)}
section
variable {b eo n ne sz:Nat}{el t:TypeId}{x:Operand}{vs:List Value}
theorem xc{cap:Nat}{l:List SV}{s:Sem Value}(hS:St K w0 e H nx w)(hl:SV.aC e l=some vs)(hlen:vs.length=cap*sz)(hn:n≤cap)(hcap:cap≤maxLen)(h0:0<sz)
 (hrun:s.run P w = .ok (.slice (some ⟨w.heap.size,0,none⟩) n cap) {w with heap:=w.heap.push (.cells vs.toArray el)}):nT P K w0 e (.val (.slu nx 0 n),H.set nx (.row false n sz el (fw l)),nx+1) s w:=by
 have hf:=hS.fresh nx (Em _)
 have hle:=Env.dE (x:=⟨w.heap.size,0,cap,sz,false⟩) hf
 refine⟨e.put nx ⟨w.heap.size,0,cap,sz,false⟩,_,.slu nx 0 n,_,rfl,hle,?_,by simp [SV.conc,Env.bL,Ent.at],hrun⟩
 refine hS.new (o:= .cells vs.toArray el) rfl rfl rfl rfl rfl rfl rfl ⟨rfl,vs.toArray,(0,0),el,rfl,hn,by simp [hlen],hcap,fun _=>BT _,h0,fun i hi s hs=>?_⟩
 rw [kr] at hs
 obtain⟨v,hv,hg⟩:=ft (SV.bR hle _ _ hl) hs
 exact⟨v,hv,by simpa using hg⟩
theorem aU{len:Nat}{parts:List (Nat×Operand)}{ps:List (Nat×SV)}{z:Value}{l:List SV}(hu:P.underlying t=some (.slice el))(hs:bw P el=some sz)(h0:0<sz)(hz:dY P el=some z)(hp:l6 T parts=some ps)
 (hf:hJ (fun i=>some (i*sz,sz)) (((List.range (len*sz)).map (z.cells[·% z.cells.size]!)).map .sc) ps=some l) (h1:cq l=true) (hlen:Nat.ble (len*sz) 16777216=true) (hll:l.length=len*sz) :
 OpDoes P T H nx ⟨d,.buildSlice t len parts.toArray,ty,pos,af,gd⟩ (.val (.slu nx 0 len),H.set nx (.row false len sz el (fw l)),nx+1):=by
 intro K w0 e w ev hS hE
 have hle:=bK hlen
 have hlm:len≤maxLen:=by
  unfold maxLen
  have:len*1≤len*sz:=Nat.mul_le_mul_left _ h0
  omega
 refine iO (w:=w) (s:=Instr.buildSlice t len (parts.toArray.map fun x=>(x.1,ev x.2))) ?_ (fun v w' hr=>by simp only [execOp,Sem.run_bind];rw [hr];simp)
 have hpr:=hE.parts parts ps hp
 have hpr':DY e ps (parts.toArray.map fun x=>(x.1,ev x.2)).toList:=by simpa using hpr
 obtain⟨vs,g1,g2⟩:=ul (e:=e) ps _ _ l _ hf hpr' (fg _)
 have hvl:=cN g2
 refine xc hS g2 (by omega) (Em _) hlm h0 ?_
 by_cases hz0:len*sz=0
 ·have hvs:vs= []:=Eh (by omega)
  subst hvs
  have hps:ps= []:=by
   cases ps with
   | nil=>rfl
   | cons p ps=>
     exfalso
     simp only [hz0,List.range_zero,List.map_nil,hJ,List.length_nil,Nat.le_zero_eq] at hf
     have hlen0:len=0:=by
      rcases Nat.eq_zero_or_pos len with h|h
      ·exact h
      ·have:=Nat.mul_pos h h0;omega
     cases hb:(Nat.beq p.2.cells.length sz && Nat.ble (p.1*sz+sz) 0)with
     | false=>rw [hb] at hf;cases hf
     | true=>
       rw [Ek] at hb
       have:=bK hb.2
       omega
  subst hps
  have hq:(parts.toArray.map fun x=>(x.1,ev x.2)).toList= []:=by
   cases hq:(parts.toArray.map fun x=>(x.1,ev x.2)).toList with
   | nil=>rfl
   | cons _ _=>rw [hq] at hpr';exact hpr'.elim
  have hq2:List.map (fun x=>(x.fst,ev x.snd)) parts= []:=by simpa using hq
  simp [Instr.buildSlice,run_underlying hu,cF hs,hz0,hq2,Instr.fill,newRow,show Array.range 0=(#[]:Array Nat)from by decide]
 ·have hr:(Array.range (len*sz)).map (z.cells[·% z.cells.size]!)=((List.range (len*sz)).map (z.cells[·% z.cells.size]!)).toArray:=by
   apply Array.ext'
   simp
  simp only [Instr.buildSlice,run_underlying hu,Sem.run_bind,Result.andThen,cF hs]
  rw [Ey (by omega)]
  simp only [Sem.run_pure,Ey hz0,Sem.run_bind,Result.andThen,iA hz,hr,g1,newRow,run_newObj]
def RdV(P:Program)(H:aw)(sz:Nat)(s:SV)(m:Nat)(vs:List Value):Prop:=aJ H sz s=some (m,vs.map .sc)
theorem sr{ro:Bool}{us:List Value}(hb:H.at' b=some (dat ro ne sz t vs))(hn:eo+n≤ne)(hu:(vs.drop (eo*sz)).take (n*sz)=us)(hl:us.length=n*sz):RdV P H sz (.slu b eo n) n us:=by
 unfold RdV
 simp only [aJ,hb,dat,Nat.beq_refl,Bool.true_and]
 rw [show Nat.ble (eo+n) ne=true from D9 hn]
 have:=dM (ro:=ro) (ne:=ne) (sz:=sz) (t:=t) (vs:=vs) (n*sz) (eo*sz) hu hl (by rw [← Nat.add_mul];exact Nat.mul_le_mul_right _ hn)
 unfold dat at this
 simp only [cond_true,this,Et]
def rY(vs:List Value):Prop:= ∀ v∈vs,v.oneCell'=true
theorem iT(h:rY vs):cq (vs.map .sc)=true:=by
 induction vs with
 | nil=>rfl
 | cons v vs ih=>
   simp only [Eo,cq,Ek]
   refine⟨?_,ih fun u hu=>h u (EH _ hu)⟩
   have:=h v (EG ..)
   cases v <;> first|rfl|(simp [Value.oneCell'] at this)
theorem lF(hb:(P.info? t).map (·.bytes)=some b)(h1:n*b≤140737488355328)(h2:n≤1000000000):fX P t n=true:=by
 unfold fX
 cases hi:P.info? t with
 | none=>rw [hi] at hb;cases hb
 | some i=>
   rw [hi] at hb
   simp only [Et,D2] at hb
   simp only [hb,Ek]
   exact⟨D9 h1,D9 h2⟩
theorem w5{tx:TypeId}{m r:Nat}{s:Operand}{v:SV}{us ws:List Value}(hu:P.underlying t=some (.slice el))(hk:(∃ e',P.underlying tx=some (.slice e'))∨P.underlying tx=some .string)(hs:bw P el=some sz)(h0:0<sz)
 (hz:fy P el sz=true) (hb:(P.info? el).map (·.bytes)=some b) (hx0:ar T s=some (.slu r eo n)) (hx:ar T x=some v) (hro:H.at' r=some (dat false (eo+n) sz el us)) (hr0:(us.drop (eo*sz)).take (n*sz)=ws) (hl0:ws.length=n*sz) (hr:RdV P H sz v m vs) (h1:rY vs)
 (hm:0<m) (hm1:(n+m)*b≤140737488355328) (hm2:n+m≤1000000000) :
 OpDoes P T H nx ⟨d,.call {callee:= .builtin .append,args:= #[s,x],argTypes:= #[t,tx]},ty,pos,af,gd⟩ (.val (.slu nx 0 (n+m)),(H.del r).set nx (dat false (n+m) sz el (ws ++ vs)),nx+1):=by
 have hap:dD P H nx el (.slu r eo n) v=some (.val (.slu nx 0 (n+m)),(H.del r).set nx (.row false (n+m) sz el (fw (ws.map .sc ++ vs.map .sc))),nx+1):=by
  unfold dD
  rw [hs]
  cases sz with
  | zero=>omega
  | succ sz=>
    simp only
    rw [show aJ H (sz+1) v=some (m,vs.map .sc)from hr]
    have hold:aJ H (sz+1) (.slu r eo n)=some (n,ws.map .sc):=sr (P:=P) hro (Em _) hr0 hl0
    simp only [iT h1,Bool.not_true,cond_false,hold]
    rw [hro]
    simp only [dat,Nat.beq_refl,lF hb hm1 hm2,hz,Bool.not_false,Bool.and_self,cond_true]
    rw [show Nat.beq m 0=false from by cases hq:Nat.beq m 0 with|false=>rfl|true=>have:=EO hq;omega]
    rfl
 rw [← Es,bU] at hap
 refine kL ?_
 rcases hk with ⟨e',hk⟩|hk <;> simp only [fZ,dh,hx0,hx,Eu,fh,gp,hu,hk,hap]
def yG(T:Tr SV)(dflt:Nat)(x:Option Operand)(n:Nat):Prop:=natOr T dflt x=some n
theorem pd{lo hi:Option Operand}{l h:Nat}{ro:Bool}{rt:TypeId}{c:Tr SV}(hu:P.underlying t=some (.slice el))(hs:bw P el=some sz)(hx:ar T x=some (.slu b eo n))(hb:H.at' b=some (.row ro ne sz rt c))
 (hl:yG T 0 lo l) (hh:yG T n hi h) (h1:l≤h) (h2:eo+h≤ne) (h3:eo+l<ne):ReadDoes P T H ⟨d,.slice t x lo hi none,ty,pos,af,gd⟩ (.slu b (eo+l) (h-l)):=by
 refine fj ?_
 unfold yG at hl hh
 simp only [cS,hx,Eu,lJ,hu,hb,hs,hl,hh,Nat.beq_refl,Bool.true_and]
 rw [show Nat.ble l h=true from D9 h1,show Nat.ble (eo+h) ne=true from D9 h2,show Nat.blt (eo+l) ne=true from D9 h3]
 rfl
theorem iy{ne sz:Nat}{t:TypeId}: ∀ (vs l:List Value) (o:Nat),o+vs.length≤ne*sz→o+vs.length≤l.length→rY vs→(dat false ne sz t l).setCells o (vs.map .sc)=some (dat false ne sz t (l.take o ++ vs ++ l.drop (o+vs.length)))
 | [],l,o,_,_,_=>by simp [VO.setCells]
 | v :: vs,l,o,h,hl,h1=>by
   simp only [Ep] at h hl
   have hset:(dat false ne sz t l).setCell o (.sc v)=some (dat false ne sz t (l.set o v)):=by
    simp only [dat,VO.setCell]
    have hone:(SV.sc v).one=true:=by
     have:=iT (vs:= [v]) (fun u hu=>h1 u (by simp at hu;subst hu;exact EG ..))
     simpa [cq] using this
    rw [show Nat.blt o (ne*sz)=true from D9 (by omega),hone]
    simp only [Bool.and_self,cond_true,D2]
    congr 1
    funext i
    simp only [Tr.set]
    rw [List.getElem?_set]
    by_cases hi:o=i
    ·subst hi
     rw [Ez rfl,Ez (by omega),Nat.beq_refl]
     rfl
    ·rw [Ey hi,show Nat.beq i o=false from by cases hb:Nat.beq i o with|false=>rfl|true=>exact absurd (EO hb).symm hi]
     rfl
   simp only [Eo,VO.setCells,hset]
   rw [iy vs (l.set o v) (o+1) (by omega) (by rw [List.length_set];omega) (fun u hu=>h1 u (EH _ hu))]
   simp only [D2]
   congr 1
   have e1:(l.set o v).take (o+1)=l.take o ++ [v]:=by
    rw [List.take_set,List.set_eq_take_append_cons_drop,Ez (by rw [EC];omega),List.take_take,Nat.min_eq_left (by omega),List.drop_eq_nil_of_le (by rw [EC];omega)]
   have e2:(l.set o v).drop (o+1+vs.length)=l.drop (o+(vs.length+1)):=by
    rw [List.drop_set_of_lt (by omega)]
    congr 1
    omega
   rw [e1,e2]
   simp
theorem qI{rt:TypeId}{a:Operand}{o:Nat}{l:List Value}{v:SV}(hs:bw P t=some n)(ha:ar T a=some (.ptr b o))(hx:ar T x=some v)(hv:v.cells=vs.map .sc)(hb:H.at' b=some (dat false ne sz rt l))(hn:vs.length=n)(ho:o+n≤ne*sz)(hl:o+n≤l.length)
 (h1:rY vs):OpDoes P T H nx ⟨d,.store t a x,ty,pos,af,gd⟩ (.skip,H.set b (dat false ne sz rt (l.take o ++ vs ++ l.drop (o+n))),nx):=by
 refine kL ?_
 subst hn
 unfold fZ
 simp only [ha,hx,hv,qq,hs,ED,Nat.beq_refl,cond_true,eT,hb,iy vs l o ho hl h1]
end
end
section
variable {sz:Nat}{A:Type}{f:A→List Value}
theorem gh{A:Type}{f:A→List Value}{sz:Nat}(hf: ∀ a,(f a).length=sz): ∀ xs:List A,(xs.flatMap f).length=xs.length*sz
 | []=>by simp
 | x :: xs=>by rw [List.flatMap_cons,Er,hf,gh hf xs,Ep,Nat.add_mul];omega
theorem nh{A:Type}{f:A→List Value}{sz:Nat}(hf: ∀ a,(f a).length=sz): ∀ (xs:List A) (i:Nat),(xs.flatMap f).drop (i*sz)=(xs.drop i).flatMap f
 | xs,0=>by simp
 | [],i+1=>by simp
 | x :: xs,i+1=>by
   rw [List.flatMap_cons,List.drop_succ_cons,←nh hf xs i,show(i+1)*sz=(f x).length+i*sz by rw [hf,Nat.add_mul];omega,List.drop_length_add_append]
theorem iM{A:Type}{f:A→List Value}{sz:Nat}(hf: ∀ a,(f a).length=sz): ∀ (xs:List A) (i:Nat),(xs.flatMap f).take (i*sz)=(xs.take i).flatMap f
 | xs,0=>by simp
 | [],i+1=>by simp
 | x :: xs,i+1=>by
   rw [List.flatMap_cons,List.take_succ_cons,List.flatMap_cons,←iM hf xs i,show(i+1)*sz=(f x).length+i*sz by rw [hf,Nat.add_mul];omega,List.take_length_add_append]
theorem uj(hf: ∀ a,(f a).length=sz){xs:List A}{i:Nat}{a:A}(h:xs[i]? =some a):((xs.flatMap f).drop (i*sz)).take sz=f a:=by
 rw [nh hf]
 obtain⟨hi,rfl⟩:=D6.1 h
 rw [List.drop_eq_getElem_cons hi,List.flatMap_cons,List.take_append_of_le_length (by rw [hf];exact Em _),Ed (by rw [hf];exact Em _)]
theorem zT(hf: ∀ a,(f a).length=sz){xs:List A}{i:Nat}(hi:i<xs.length)(a:A):(xs.flatMap f).take (i*sz) ++ f a ++ (xs.flatMap f).drop (i*sz+sz)=(xs.set i a).flatMap f:=by
 rw [List.set_eq_take_append_cons_drop,Ez hi,List.flatMap_append,List.flatMap_cons,iM hf,show i*sz+sz=(i+1)*sz by rw [Nat.add_mul];omega,nh hf,EJ]
end
structure RecOf {A:Type} (f:A→List Value) (sz:Nat):Prop where
 len: ∀ a,(f a).length=sz
 one: ∀ a,rY (f a)
theorem AE{A:Type}{g:A→Value}(hg: ∀ a,(g a).oneCell'=true):RecOf (fun a=> [g a]) 1:=⟨fun _=>rfl,fun a v hv=>by simp only [EE] at hv;subst hv;exact hg a⟩
abbrev arr{A:Type}(ro:Bool)(ne sz:Nat)(t:TypeId)(f:A→List Value)(d:Array A):VO:=dat ro ne sz t (d.toList.flatMap f)
section
variable {P:Program} {T:Tr SV} {H:aw} {nx:Nat} {d0:Option Tmp} {ty:TypeId} {pos:String} {af:Array Edge} {gd:Option (Nat×Bool)}
section
variable {b i ne sz:Nat}{A:Type}{rt t:TypeId}{d:Array A}{x:Operand}
theorem az{e:TypeId}{y:Operand}{n:Nat}{k:IntKind}{j:Int}{ro:Bool}{c:Tr SV}(hu:P.underlying t=some (.slice e))(hs:bw P e=some sz)(hx:ar T x=some (.slu b 0 n))(hy:ar T y=some (.sc (.int k j)))
 (hb:H.at' b=some (.row ro ne sz rt c)) (hj:j=(i:Int)) (hi:i<n) (hne:n≤ne):ReadDoes P T H ⟨d0,.indexAddr t x y,ty,pos,af,gd⟩ (.ptr b (i*sz)):=by
 subst hj
 have:=gg (d:=d0) (ty:=ty) (pos:=pos) (af:=af) (gd:=gd) hu hs hx hy hb (by omega) (by omega) (by omega)
 simpa using this
theorem Ct [Inhabited A](hi:i<d.size):d.toList[i]? =some d[i]! :=by
 rw [Array.getElem?_toList,Ee hi,getElem!_pos d i hi]
theorem ta{A:Type}{d:Array A}(hi:i<d.size)(hne:d.size≤ne):i*sz+sz≤ne*sz:=by
 have:(i+1)*sz≤ne*sz:=Nat.mul_le_mul_right _ (by omega)
 rw [Nat.add_mul] at this
 omega
theorem Dh [Inhabited A]{f:A→List Value}{ro:Bool}(ha:bT P t=some (some sz))(hx:ar T x=some (.ptr b (i*sz)))(hf:RecOf f sz)(hb:H.at' b=some (arr ro ne sz rt f d))(hi:i<d.size)(hne:d.size≤ne) :
 ReadDoes P T H ⟨d0,.load t x,ty,pos,af,gd⟩ (.agg ((f d[i]!).map .sc)):=
 bA ha hx hb (dM sz (i*sz) (uj hf.len (Ct hi)) (hf.len _) (ta hi hne))
theorem bS{f:A→List Value}{a:Operand}{v:A}{u:SV}(hs:bw P t=some sz)(ha:ar T a=some (.ptr b (i*sz)))(hx:ar T x=some u)(hu:u.cells=(f v).map .sc)(hf:RecOf f sz)(hb:H.at' b=some (arr false ne sz rt f d))(hi:i<d.size)(hne:d.size≤ne) :
 OpDoes P T H nx ⟨d0,.store t a x,ty,pos,af,gd⟩ (.skip,H.set b (arr false ne sz rt f (d.setIfInBounds i v)),nx):=by
 have hsz:d.toList.length=d.size:=rfl
 have h:=qI (d:=d0) (ty:=ty) (pos:=pos) (af:=af) (gd:=gd) (nx:=nx) hs ha hx hu hb (hf.len v) (ta hi hne) (by rw [gh hf.len];exact ta hi (Em _)) (hf.one v)
 have e:=zT hf.len (xs:=d.toList) (i:=i) (by rw [hsz];exact hi) v
 rw [e] at h
 unfold arr
 rw [Array.toList_setIfInBounds]
 exact h
end
end
structure DrawK (P:Program) (nt:Nat) (ops:Array Oper) (i:Nat) (l:List Oper) (s:DS) (K:DS→Prop):Prop where
 ex: ∃ s',DrawRun P (wpr P) nt ops i l s s'∧K s'
def AllH(Q:List (aw×Nat))(p:aw→Prop):Prop:=match Q with
 | []=>True
 | q :: l=>p q.1∧AllH l p
theorem AllH.get{p:aw→Prop}: ∀ {Q:List (aw×Nat)},AllH Q p→ ∀ {i:Nat} {H:aw} {n:Nat},Q[i]? =some (H,n)→p H
 | [],_,i,H,n,h=>by simp at h
 | q :: l,hh,i,H,n,h=>by
   cases i with
   | zero=>simp only [Ej,D2] at h;subst h;exact hh.1
   | succ i=>exact AllH.get hh.2 (by simpa using h)
theorem AllH.all{p:aw→Prop}(h: ∀ H,p H): ∀ (Q:List (aw×Nat)),AllH Q p
 | []=>trivial
 | q :: l=>⟨h q.1,AllH.all h l⟩
theorem nn{r:Rec}{b:Bool}(h:r.chain=true):(r.chain || !r.wanted || b)=true:=by rw [h];rfl
theorem uw{r:Rec}{b:Bool}(h:r.wanted=false):(r.chain || !r.wanted || b)=true:=by rw [h];simp
def FlOk(P:Program)(ancs chain:List Nat)(Q:List (aw×Nat)):List Rec→Prop
 | []=>True
 | r :: l=>((r.chain || !r.wanted || (Nat.beq (gW (ancs.getD r.i 0) chain) r.stg && Nat.beq (dq ancs r.i chain) r.stg))=true∨AllH Q (fun H=>ReadDoes P r.T H r.o r.val))∧FlOk P ancs chain Q l
theorem FlOk.ok{P:Program}{ancs chain:List Nat}{Q:List (aw×Nat)}: ∀ {l:List Rec},FlOk P ancs chain Q l→ ∀ r∈l,r.chain=false→r.wanted=true→ ∀ st,gW (ancs.getD r.i 0) chain≤st→st≤dq ancs r.i chain→st≠r.stg→ ∀ H n,Q.reverse[st]? =some (H,n)→ReadDoes P r.T H r.o r.val
 | [],_,r,hm,_,_,_,_,_,_,_,_,_=>by cases hm
 | r0 :: l,hh,r,hm,hc,hw,st,h1,h2,h3,H,n,hq=>by
   rcases EN.1 hm with rfl|hm
   ·rcases hh.1 with h|h
    ·rw [hc,hw] at h
     simp only [Bool.not_true,Bool.or_false,Bool.false_or,Ek] at h
     have q1:=ba h.1
     have q2:=ba h.2
     omega
    ·have hlt:=(D6.1 hq).1
     rw [List.getElem?_reverse (by simpa using hlt)] at hq
     exact h.get hq
   ·exact FlOk.ok hh.2 r hm hc hw st h1 h2 h3 H n hq
theorem nq{v:Value}(h:v.oneCell'=true):(SV.sc v).cells= [.sc v]:=by
 cases v <;> first|rfl|(simp [Value.oneCell'] at h)
theorem w6{v:Value}(h:v.oneCell'=true):(SV.sc v).one=true:=by
 cases v <;> first|rfl|(simp [Value.oneCell'] at h)
section
variable {P:Program} {T:Tr SV} {H:aw} {nx:Nat} {d:Option Tmp} {ty:TypeId} {pos:String} {af:Array Edge} {gd:Option (Nat×Bool)}
theorem BL{t el:TypeId}{x0 x1 x2:Operand}{v0 v1 v2 z:Value}(hu:P.underlying t=some (.slice el))(hs:bw P el=some 1)(hz:dY P el=some z)(h0:ar T x0=some (.sc v0))(h1:ar T x1=some (.sc v1))(h2:ar T x2=some (.sc v2))(o0:v0.oneCell'=true)(o1:v1.oneCell'=true)(o2:v2.oneCell'=true) :
 OpDoes P T H nx ⟨d,.buildSlice t 3 #[(0,x0),(1,x1),(2,x2)],ty,pos,af,gd⟩ (.val (.slu nx 0 3),H.set nx (dat false 3 1 el [v0,v1,v2]),nx+1):=by
 rw [← bU]
 refine aU (parts:= [(0,x0),(1,x1),(2,x2)]) (ps:= [(0,.sc v0),(1,.sc v1),(2,.sc v2)]) hu hs (by decide) hz (by simp [l6,h0,h1,h2]) ?_ (by simp [cq,w6 o0,w6 o1,w6 o2]) rfl rfl
 simp [hJ,nq o0,nq o1,nq o2,List.range_succ]
 rfl
end
section
variable {P:Program} {ro:Option Nat} {fn nt nx:Nat} {T:Tr SV} {k:List AIt} {dfs:List ADf} {H:aw} {Q:Pst} {ops:Array Oper} {i:Nat} {l:List Oper} {d:Option Tmp} {ty:TypeId} {pos:String} {af:Array Edge} {gd:Option (Nat×Bool)}
theorem aS{id:Nat}{ops:List Oper}(hm:P.follows .mixedOrders=true)(hr:gf nt ops=true)
 (h:DrawK P nt ops.toArray 0 ops ⟨T,H,nx,[],[(H,nx)],0⟩ (fun s=>jW (er [] ops) (eP s)=true∧FlOk P (er [] ops) (eP s) s.Hs s.recs∧Wp P ro ⟨fn,nt,s.T,k,dfs,s.H,s.nx⟩ Q)) :
 Wp P ro ⟨fn,nt,T,.code (.region id ops.toArray true) :: k,dfs,H,nx⟩ Q:=by
 obtain⟨s,hs,h1,h2,h3⟩:=h.ex
 exact .step ⟨hm,s,⟨hr,hs,h1,fun r hr a b st c d e H n f=> .inl (FlOk.ok h2 r hr a b st c d e H n f)⟩,h3⟩
section
variable {K:DS→Prop} {rs:List Rec} {Hs:List (aw×Nat)} {stg:Nat} {dd:Nat} {op:Op}
section
variable {H':aw}{v:SV}{nx':Nat}
theorem ay{s:DS}(h:K s):DrawK P nt ops i [] s K:=⟨⟨s,.nil _ _,h⟩⟩
theorem b8(hw:aD (aT T (aV ops.toList ⟨some dd,op,ty,pos,af,gd⟩)) ops ⟨some dd,op,ty,pos,af,gd⟩=some false)(hd:Nat.blt dd nt=true)
 (h:DrawK P nt ops (i+1) l ⟨T.set dd eu,H,nx,⟨i,⟨some dd,op,ty,pos,af,gd⟩,aT T (aV ops.toList ⟨some dd,op,ty,pos,af,gd⟩),stg,false,false,eu⟩ :: rs,Hs,stg⟩ K) :
 DrawK P nt ops i (⟨some dd,op,ty,pos,af,gd⟩ :: l) ⟨T,H,nx,rs,Hs,stg⟩ K:=by
 obtain⟨s',h1,h2⟩:=h.ex
 refine⟨⟨s',.cons (.inl ⟨hw,?_⟩) h1,h2⟩⟩
 simp only [aK hd]
theorem dn(hw:aD (aT T (aV ops.toList ⟨some dd,op,ty,pos,af,gd⟩)) ops ⟨some dd,op,ty,pos,af,gd⟩=some true)(hd:Nat.blt dd nt=true)(hnd: ∀ c,op ≠ .defer c)
 (hr:ReadDoes P (aT T (aV ops.toList ⟨some dd,op,ty,pos,af,gd⟩)) H ⟨some dd,op,ty,pos,af,gd⟩ v)
 (h:DrawK P nt ops (i+1) l ⟨T.set dd v,H,nx,⟨i,⟨some dd,op,ty,pos,af,gd⟩,aT T (aV ops.toList ⟨some dd,op,ty,pos,af,gd⟩),stg,false,true,v⟩ :: rs,Hs,stg⟩ K) :
 DrawK P nt ops i (⟨some dd,op,ty,pos,af,gd⟩ :: l) ⟨T,H,nx,rs,Hs,stg⟩ K:=by
 obtain⟨s',h1,h2⟩:=h.ex
 refine⟨⟨s',.cons (.inr (.inl ⟨hw,hnd,v,.inl hr,?_⟩)) h1,h2⟩⟩
 simp only [aK hd]
theorem oA(hw:aD (aT T (aV ops.toList ⟨some dd,op,ty,pos,af,gd⟩)) ops ⟨some dd,op,ty,pos,af,gd⟩=some true)(hd:Nat.blt dd nt=true)(hnd: ∀ c,op ≠ .defer c)
 (hr:OpDoes P (aT T (aV ops.toList ⟨some dd,op,ty,pos,af,gd⟩)) H nx ⟨some dd,op,ty,pos,af,gd⟩ (.val v,H',nx'))
 (h:DrawK P nt ops (i+1) l ⟨T.set dd v,H',nx',⟨i,⟨some dd,op,ty,pos,af,gd⟩,aT T (aV ops.toList ⟨some dd,op,ty,pos,af,gd⟩),stg,true,true,v⟩ :: rs,(H',nx') :: Hs,stg+1⟩ K) :
 DrawK P nt ops i (⟨some dd,op,ty,pos,af,gd⟩ :: l) ⟨T,H,nx,rs,Hs,stg⟩ K:=by
 obtain⟨s',h1,h2⟩:=h.ex
 refine⟨⟨s',.cons (.inr (.inr ⟨hw,v,H',nx',⟨_,hr,hnd,rfl⟩,?_⟩)) h1,h2⟩⟩
 simp only [aK hd]
theorem sS(hw:aD (aT T (aV ops.toList ⟨none,op,ty,pos,af,gd⟩)) ops ⟨none,op,ty,pos,af,gd⟩=some true)(hnd: ∀ c,op ≠ .defer c)
 (hr:OpDoes P (aT T (aV ops.toList ⟨none,op,ty,pos,af,gd⟩)) H nx ⟨none,op,ty,pos,af,gd⟩ (.skip,H',nx'))
 (h:DrawK P nt ops (i+1) l ⟨T,H',nx',⟨i,⟨none,op,ty,pos,af,gd⟩,aT T (aV ops.toList ⟨none,op,ty,pos,af,gd⟩),stg,true,true,eu⟩ :: rs,(H',nx') :: Hs,stg+1⟩ K) :
 DrawK P nt ops i (⟨none,op,ty,pos,af,gd⟩ :: l) ⟨T,H,nx,rs,Hs,stg⟩ K:=by
 obtain⟨s',h1,h2⟩:=h.ex
 exact⟨⟨s',.cons (.inr (.inr ⟨hw,eu,H',nx',⟨_,hr,hnd,rfl⟩,rfl⟩)) h1,h2⟩⟩
theorem bq(hr:ReadDoes P (aT T (aV ops.toList ⟨some dd,op,ty,pos,af,gd⟩)) H ⟨some dd,op,ty,pos,af,gd⟩ v)(hw:aD (aT T (aV ops.toList ⟨some dd,op,ty,pos,af,gd⟩)) ops ⟨some dd,op,ty,pos,af,gd⟩=some true)(hd:Nat.blt dd nt=true)(hn:ndf op=true)
 (h:DrawK P nt ops (i+1) l ⟨T.set dd v,H,nx,⟨i,⟨some dd,op,ty,pos,af,gd⟩,aT T (aV ops.toList ⟨some dd,op,ty,pos,af,gd⟩),stg,false,true,v⟩ :: rs,Hs,stg⟩ K):DrawK P nt ops i (⟨some dd,op,ty,pos,af,gd⟩ :: l) ⟨T,H,nx,rs,Hs,stg⟩ K:=dn hw hd (oe hn) hr h
theorem vw(hr:OpDoes P (aT T (aV ops.toList ⟨some dd,op,ty,pos,af,gd⟩)) H nx ⟨some dd,op,ty,pos,af,gd⟩ (.val v,H',nx'))(hw:aD (aT T (aV ops.toList ⟨some dd,op,ty,pos,af,gd⟩)) ops ⟨some dd,op,ty,pos,af,gd⟩=some true)(hd:Nat.blt dd nt=true)(hn:ndf op=true)
 (h:DrawK P nt ops (i+1) l ⟨T.set dd v,H',nx',⟨i,⟨some dd,op,ty,pos,af,gd⟩,aT T (aV ops.toList ⟨some dd,op,ty,pos,af,gd⟩),stg,true,true,v⟩ :: rs,(H',nx') :: Hs,stg+1⟩ K):DrawK P nt ops i (⟨some dd,op,ty,pos,af,gd⟩ :: l) ⟨T,H,nx,rs,Hs,stg⟩ K:=oA hw hd (oe hn) hr h
theorem db(hr:OpDoes P (aT T (aV ops.toList ⟨none,op,ty,pos,af,gd⟩)) H nx ⟨none,op,ty,pos,af,gd⟩ (.skip,H',nx'))(hw:aD (aT T (aV ops.toList ⟨none,op,ty,pos,af,gd⟩)) ops ⟨none,op,ty,pos,af,gd⟩=some true)(hn:ndf op=true)
 (h:DrawK P nt ops (i+1) l ⟨T,H',nx',⟨i,⟨none,op,ty,pos,af,gd⟩,aT T (aV ops.toList ⟨none,op,ty,pos,af,gd⟩),stg,true,true,eu⟩ :: rs,(H',nx') :: Hs,stg+1⟩ K):DrawK P nt ops i (⟨none,op,ty,pos,af,gd⟩ :: l) ⟨T,H,nx,rs,Hs,stg⟩ K:=sS hw (oe hn) hr h
theorem sD{g:FuncId}{as1:List Operand}{ats:Array TypeId}{args:List SV}(ha:dh T as1=some args)(hm:bB P g=true):OpDoes P T H nx ⟨d,.call {callee:= .value (.func g),args:=as1.toArray,argTypes:=ats},ty,pos,af,gd⟩ (.enter g args,H,nx):=by
 refine kL ?_
 have hc:bE P T {callee:= .value (.func g),args:=as1.toArray,argTypes:=ats}=some (.enter g args):=by
  simp only [bE,ha,ar,da,hm,cond_true,List.map_nil,List.nil_append,EM]
 unfold fZ
 simp only [hc,Et]
theorem eZ{g:FuncId}{as1:List Operand}{ats:Array TypeId}{args:List SV}(hw:aD (aT T (aV ops.toList ⟨some dd,.call {callee:= .value (.func g),args:=as1.toArray,argTypes:=ats},ty,pos,af,gd⟩)) ops ⟨some dd,.call {callee:= .value (.func g),args:=as1.toArray,argTypes:=ats},ty,pos,af,gd⟩=some true)(hd:Nat.blt dd nt=true)
 (ha:dh (aT T (aV ops.toList ⟨some dd,.call {callee:= .value (.func g),args:=as1.toArray,argTypes:=ats},ty,pos,af,gd⟩)) as1=some args) (hm:bB P g=true)
 (hr:Fnc P g args H nx (fun r=>r=(v,H',nx')))
 (h:DrawK P nt ops (i+1) l ⟨T.set dd v,H',nx',⟨i,⟨some dd,.call {callee:= .value (.func g),args:=as1.toArray,argTypes:=ats},ty,pos,af,gd⟩,aT T (aV ops.toList ⟨some dd,.call {callee:= .value (.func g),args:=as1.toArray,argTypes:=ats},ty,pos,af,gd⟩),stg,true,true,v⟩ :: rs,(H',nx') :: Hs,stg+1⟩ K) :
 DrawK P nt ops i (⟨some dd,.call {callee:= .value (.func g),args:=as1.toArray,argTypes:=ats},ty,pos,af,gd⟩ :: l) ⟨T,H,nx,rs,Hs,stg⟩ K:=by
 obtain⟨s',h1,h2⟩:=h.ex
 refine⟨⟨s',.cons (.inr (.inr ⟨hw,v,H',nx',⟨_,sD ha hm,(fun c hc=>(by cases hc)),hr⟩,?_⟩)) h1,h2⟩⟩
 simp only [aK hd]
end
end
def yz(vo:VO):Prop:= ∀ ρ,vo.ren ρ=vo
theorem aF{ro:Bool}{ne sz:Nat}{t:TypeId}{vs:List Value}:yz (dat ro ne sz t vs):=fun ρ=>dw ρ _ _ _ _ _
theorem bD{t:TypeId}{l:List SV}(h: ∀ ρ,SV.gJ ρ l=l):yz (am t l):=fun ρ=>by rw [pc,h]
def kT:List (Option VO)→Prop
 | []=>True
 | none :: l=>kT l
 | some vo :: l=>yz vo∧kT l
def wrL:List Nat→aw→List (Option VO)→aw
 | b :: L,H,some vo :: l=>wrL L (H.set b vo) l
 | b :: L,H,none :: l=>wrL L (H.del b) l
 | _,H,_=>H
theorem sd{L0:List Nat}{nx:Nat}: ∀ (L:List Nat) (l:List (Option VO)) (i:Nat) (H:aw),(∀ j,j<L.length→ext L0 nx (i+j)=L.getD j 0)→l.length=L.length→kT l→wrO (ext L0 nx) H i (l.map (Option.map (VO.ren (ext L0 nx))))=wrL L H l
 | [],[],i,H,_,_,_=>rfl
 | [],_ :: _,i,H,_,h,_=>by simp at h
 | _ :: _,[],i,H,_,h,_=>by simp at h
 | b :: L,o :: l,i,H,he,hl,hc=>by
   have e0:ext L0 nx i=b:=by simpa using he 0 (by simp)
   have et: ∀ j,j<L.length→ext L0 nx (i+1+j)=L.getD j 0:=fun j hj=>by
    have:=he (j+1) (by simpa using hj)
    rw [show i+1+j=i+(j+1) by omega,this]
    simp
   cases o with
   | none=>simp only [Eo,Option.map_none,wrO,wrL,e0];exact sd L l (i+1) _ et (by simpa using hl) hc
   | some vo=>simp only [Eo,Et,wrO,wrL,e0,hc.1 (ext L0 nx)];exact sd L l (i+1) _ et (by simpa using hl) hc.2
section
variable {P:Program}
theorem Ctr.bF{f:FuncId}{args0 args:List SV}{pre:List VO}{c:Cz}(h:Ctr P f args0 pre (fun c'=>c'=c))(L:List Nat){H H':aw}{nx:Nat}{Q:Pst}(hlen:L.length=pre.length)(hL:ExtOk L nx)(ha:args=args0.map (SV.ren (ext L nx)))
 (hp:HasO (ext L nx) H 0 (pre.map some)) (hol:c.objs.length=L.length) (hc:kT c.objs) (hv: ∀ ρ,c.v.ren ρ=c.v) (hH:wrL L H c.objs=H') (hQ:Q (c.v,H',nx)):Fnc P f args H nx Q:=by
 refine h.callM L hlen hL ha hp (hv _) ((sd L c.objs 0 H (fun j hj=>by rw [EA];exact um hj) hol hc).trans hH) ?_ hQ
 omega
end
section
variable {P:Program} {ro:Option Nat} {fn nt nx:Nat} {T:Tr SV} {k:List AIt} {dfs:List ADf} {H:aw} {Q:Pst} {ops:Array Oper} {i:Nat} {l:List Oper} {ty:TypeId} {pos:String} {af:Array Edge} {gd:Option (Nat×Bool)}
theorem aP{g:FuncId}{as1:List Operand}{ats:Array TypeId}{args:List SV}{v:SV}{H':aw}{dd:Nat}(hw:aD T ops ⟨some dd,.call {callee:= .value (.func g),args:=as1.toArray,argTypes:=ats},ty,pos,af,gd⟩=some true)(hd:Nat.blt dd nt=true)(ha:dh T as1=some args)(hm:bB P g=true)
 (hr:Fnc P g args H nx (fun r=>r=(v,H',nx)))
 (h:Wp P ro ⟨fn,nt,T.set dd v,.inReg ops (i+1) l :: k,dfs,H',nx⟩ Q) :
 Wp P ro ⟨fn,nt,T,.inReg ops i (⟨some dd,.call {callee:= .value (.func g),args:=as1.toArray,argTypes:=ats},ty,pos,af,gd⟩ :: l) :: k,dfs,H,nx⟩ Q:=
 aL hw hd ha hm (hr.mono fun r hr=>by subst hr;exact h)
end
section
variable {P:Program} {nt nx:Nat} {T:Tr SV} {H:aw} {ops:Array Oper} {i:Nat} {l:List Oper} {d:Option Tmp} {ty:TypeId} {pos:String} {af:Array Edge} {gd:Option (Nat×Bool)} {K:DS→Prop} {rs:List Rec} {Hs:List (aw×Nat)} {stg:Nat}
theorem zA{x:Operand}{g:FuncId}{fa fb:List SV}{as1:List Operand}{ats:Array TypeId}{args args':List SV}(hx:ar T x=some (.fn (.func g) fa fb))(ha:dh T as1=some args)(hm:bB P g=true)(hargs:fa ++ args ++ fb=args'):OpDoes P T H nx ⟨d,.call {callee:= .value x,args:=as1.toArray,argTypes:=ats},ty,pos,af,gd⟩ (.enter g args',H,nx):=by
 subst hargs
 refine kL ?_
 have hc:bE P T {callee:= .value x,args:=as1.toArray,argTypes:=ats}=some (.enter g (fa ++ args ++ fb)):=by
  simp only [bE,ha,hx,da,hm,cond_true]
 unfold fZ
 simp only [hc,Et]
theorem bg{x:Operand}{g:FuncId}{fa fb:List SV}{as1:List Operand}{ats:Array TypeId}{args args':List SV}{v:SV}{H':aw}{nx':Nat}{dd:Nat}(hw:aD (aT T (aV ops.toList ⟨some dd,.call {callee:= .value x,args:=as1.toArray,argTypes:=ats},ty,pos,af,gd⟩)) ops ⟨some dd,.call {callee:= .value x,args:=as1.toArray,argTypes:=ats},ty,pos,af,gd⟩=some true)(hd:Nat.blt dd nt=true)
 (hx:ar (aT T (aV ops.toList ⟨some dd,.call {callee:= .value x,args:=as1.toArray,argTypes:=ats},ty,pos,af,gd⟩)) x=some (.fn (.func g) fa fb)) (ha:dh (aT T (aV ops.toList ⟨some dd,.call {callee:= .value x,args:=as1.toArray,argTypes:=ats},ty,pos,af,gd⟩)) as1=some args) (hm:bB P g=true) (hargs:fa ++ args ++ fb=args')
 (hr:Fnc P g args' H nx (fun r=>r=(v,H',nx')))
 (h:DrawK P nt ops (i+1) l ⟨T.set dd v,H',nx',⟨i,⟨some dd,.call {callee:= .value x,args:=as1.toArray,argTypes:=ats},ty,pos,af,gd⟩,aT T (aV ops.toList ⟨some dd,.call {callee:= .value x,args:=as1.toArray,argTypes:=ats},ty,pos,af,gd⟩),stg,true,true,v⟩ :: rs,(H',nx') :: Hs,stg+1⟩ K) :
 DrawK P nt ops i (⟨some dd,.call {callee:= .value x,args:=as1.toArray,argTypes:=ats},ty,pos,af,gd⟩ :: l) ⟨T,H,nx,rs,Hs,stg⟩ K:=by
 obtain⟨s',h1,h2⟩:=h.ex
 refine⟨⟨s',.cons (.inr (.inr ⟨hw,v,H',nx',⟨_,zA hx ha hm hargs,(fun c hc=>(by cases hc)),hr⟩,?_⟩)) h1,h2⟩⟩
 simp only [aK hd]
end
section
variable {b dd n ne o sz:Nat}{rr:Bool}{rt t:TypeId}{x:Operand}{vs:List Value}
theorem wa{el:TypeId}{lo hi:Option Operand}{eo lw hg:Nat}{c:Tr SV}(hw:aD T ops ⟨some dd,.slice t x lo hi none,ty,pos,af,gd⟩=some true)(hd:Nat.blt dd nt=true)(hx:ar T x=some (.slu b eo n))(hu:P.underlying t=some (.slice el))(hs:bw P el=some sz)(hb:H.at' b=some (.row rr ne sz rt c))(hl:yG T 0 lo lw)(hh:yG T n hi hg)(h1:lw≤hg)(h2:eo+hg≤ne)(h3:eo+lw<ne)
 (h:Wp P ro ⟨fn,nt,T.set dd (.slu b (eo+lw) (hg-lw)),.inReg ops (i+1) l :: k,dfs,H,nx⟩ Q):Wp P ro ⟨fn,nt,T,.inReg ops i (⟨some dd,.slice t x lo hi none,ty,pos,af,gd⟩ :: l) :: k,dfs,H,nx⟩ Q:=
 dZ hw (.inr (fun _ h=>by cases h)) ((pd hu hs hx hb hl hh h1 h2 h3).does) (by rw [aK hd];exact h)
theorem e7{v:Value}(hw:aD T ops ⟨some dd,.load t x,ty,pos,af,gd⟩=some true)(hd:Nat.blt dd nt=true)(hx:ar T x=some (.ptr b o))(ha:bT P t=some none)(hb:H.at' b=some (dat rr ne sz rt vs))(hv:vs[o]? =some v)(ho:o<ne*sz)
 (h:Wp P ro ⟨fn,nt,T.set dd (.sc v),.inReg ops (i+1) l :: k,dfs,H,nx⟩ Q):Wp P ro ⟨fn,nt,T,.inReg ops i (⟨some dd,.load t x,ty,pos,af,gd⟩ :: l) :: k,dfs,H,nx⟩ Q:=
 dZ hw (.inr (fun _ h=>by cases h)) ((aI ha hx hb (jn ho hv)).does) (by rw [aK hd];exact h)
theorem cP{us:List Value}(hw:aD T ops ⟨some dd,.load t x,ty,pos,af,gd⟩=some true)(hd:Nat.blt dd nt=true)(hx:ar T x=some (.ptr b o))(ha:bT P t=some (some n))(hb:H.at' b=some (dat rr ne sz rt vs))(hv:(vs.drop o).take n=us)(hn:us.length=n)(ho:o+n≤ne*sz)
 (h:Wp P ro ⟨fn,nt,T.set dd (.agg (us.map .sc)),.inReg ops (i+1) l :: k,dfs,H,nx⟩ Q):Wp P ro ⟨fn,nt,T,.inReg ops i (⟨some dd,.load t x,ty,pos,af,gd⟩ :: l) :: k,dfs,H,nx⟩ Q:=
 dZ hw (.inr (fun _ h=>by cases h)) ((bA ha hx hb (dM n o hv hn ho)).does) (by rw [aK hd];exact h)
theorem cQ{e:TypeId}{y:Operand}{q:Nat}{kd:IntKind}{j:Int}{c:Tr SV}(hw:aD T ops ⟨some dd,.indexAddr t x y,ty,pos,af,gd⟩=some true)(hd:Nat.blt dd nt=true)(hx:ar T x=some (.slu b 0 n))(hy:ar T y=some (.sc (.int kd j)))(hu:P.underlying t=some (.slice e))(hs:bw P e=some sz)(hb:H.at' b=some (.row rr ne sz rt c))(hj:j=(q:Int))(hi:q<n)(hne:n≤ne)
 (h:Wp P ro ⟨fn,nt,T.set dd (.ptr b (q*sz)),.inReg ops (i+1) l :: k,dfs,H,nx⟩ Q):Wp P ro ⟨fn,nt,T,.inReg ops i (⟨some dd,.indexAddr t x y,ty,pos,af,gd⟩ :: l) :: k,dfs,H,nx⟩ Q:=
 dZ hw (.inr (fun _ h=>by cases h)) ((az hu hs hx hy hb hj hi hne).does) (by rw [aK hd];exact h)
theorem tj{a:Operand}{cs cs':List Value}{v:SV}(hw:aD T ops ⟨none,.store t a x,ty,pos,af,gd⟩=some true)(ha:ar T a=some (.ptr b o))(hx:ar T x=some v)(hv:v.cells=vs.map .sc)(hs:bw P t=some n)(hb:H.at' b=some (dat false ne sz rt cs))(hn:vs.length=n)(ho:o+n≤ne*sz)(hl:o+n≤cs.length)(h1:rY vs)(hc:cs.take o ++ vs ++ cs.drop (o+n)=cs')
 (h:Wp P ro ⟨fn,nt,T,.inReg ops (i+1) l :: k,dfs,(H.set b (dat false ne sz rt cs')),nx⟩ Q):Wp P ro ⟨fn,nt,T,.inReg ops i (⟨none,.store t a x,ty,pos,af,gd⟩ :: l) :: k,dfs,H,nx⟩ Q:=
 qg hw (.inr (fun _ h=>by cases h)) (hc ▸ qI hs ha hx hv hb hn ho hl h1) h
end
end
section
variable {P:Program} {nt nx:Nat} {T:Tr SV} {H:aw} {ops:Array Oper} {i:Nat} {l:List Oper} {ty:TypeId} {pos:String} {af:Array Edge} {gd:Option (Nat×Bool)} {K:DS→Prop} {rs:List Rec} {Hs:List (aw×Nat)} {stg:Nat}
section
variable {a:Int}{b dd n ne o sz:Nat}{rr:Bool}{bt rt t yt:TypeId}{cs:List SV}{kd:IntKind}{x y:Operand}
theorem fp(hw:aD (aT T (aV ops.toList ⟨some dd,.load t x,ty,pos,af,gd⟩)) ops ⟨some dd,.load t x,ty,pos,af,gd⟩=some true)(hd:Nat.blt dd nt=true)(hx:ar (aT T (aV ops.toList ⟨some dd,.load t x,ty,pos,af,gd⟩)) x=some (.ptr b 0))(ha:bT P t=some (some n))(hb:H.at' b=some (am bt cs))(hn:cs.length=n)
 (h:DrawK P nt ops (i+1) l ⟨T.set dd (.agg cs),H,nx,⟨i,⟨some dd,.load t x,ty,pos,af,gd⟩,(aT T (aV ops.toList ⟨some dd,.load t x,ty,pos,af,gd⟩)),stg,false,true,(.agg cs)⟩ :: rs,Hs,stg⟩ K):DrawK P nt ops i (⟨some dd,.load t x,ty,pos,af,gd⟩ :: l) ⟨T,H,nx,rs,Hs,stg⟩ K:=
 dn hw hd (fun _ h=>by cases h) (bA ha hx hb (aH n 0 (by subst hn;simp) hn)) h
theorem ci{a:Operand}{v:SV}(hw:aD (aT T (aV ops.toList ⟨none,.store t a x,ty,pos,af,gd⟩)) ops ⟨none,.store t a x,ty,pos,af,gd⟩=some true)(ha:ar (aT T (aV ops.toList ⟨none,.store t a x,ty,pos,af,gd⟩)) a=some (.ptr b o))(hx:ar (aT T (aV ops.toList ⟨none,.store t a x,ty,pos,af,gd⟩)) x=some v)(hs:bw P t=some 1)(hb:H.at' b=some (am bt cs))(h1:v.one=true)(ho:Nat.blt o cs.length=true)
 (h:DrawK P nt ops (i+1) l ⟨T,(H.set b (am bt (cs.set o v))),nx,⟨i,⟨none,.store t a x,ty,pos,af,gd⟩,(aT T (aV ops.toList ⟨none,.store t a x,ty,pos,af,gd⟩)),stg,true,true,eu⟩ :: rs,((H.set b (am bt (cs.set o v))),nx) :: Hs,stg+1⟩ K):DrawK P nt ops i (⟨none,.store t a x,ty,pos,af,gd⟩ :: l) ⟨T,H,nx,rs,Hs,stg⟩ K:=
 sS hw (fun _ h=>by cases h) (qJ hs ha hx hb h1 (D7 ho)) h
theorem fV{a:Operand}{vs cs':List SV}(hw:aD (aT T (aV ops.toList ⟨none,.store t a x,ty,pos,af,gd⟩)) ops ⟨none,.store t a x,ty,pos,af,gd⟩=some true)(ha:ar (aT T (aV ops.toList ⟨none,.store t a x,ty,pos,af,gd⟩)) a=some (.ptr b o))(hx:ar (aT T (aV ops.toList ⟨none,.store t a x,ty,pos,af,gd⟩)) x=some (.agg vs))(hs:bw P t=some n)(hb:H.at' b=some (am bt cs))(hn:vs.length=n)(ho:o+n≤cs.length)(h1:cq vs=true)(hc:cs.take o ++ vs ++ cs.drop (o+n)=cs')
 (h:DrawK P nt ops (i+1) l ⟨T,(H.set b (am bt cs')),nx,⟨i,⟨none,.store t a x,ty,pos,af,gd⟩,(aT T (aV ops.toList ⟨none,.store t a x,ty,pos,af,gd⟩)),stg,true,true,eu⟩ :: rs,((H.set b (am bt cs')),nx) :: Hs,stg+1⟩ K):DrawK P nt ops i (⟨none,.store t a x,ty,pos,af,gd⟩ :: l) ⟨T,H,nx,rs,Hs,stg⟩ K:=
 sS hw (fun _ h=>by cases h) (hc ▸ gT hs ha hx rfl hb hn ho h1) h
theorem hX{el:TypeId}{len:Nat}{parts:List (Nat×Operand)}{ps:List (Nat×SV)}{z:Value}(hw:aD (aT T (aV ops.toList ⟨some dd,.buildSlice t len parts.toArray,ty,pos,af,gd⟩)) ops ⟨some dd,.buildSlice t len parts.toArray,ty,pos,af,gd⟩=some true)(hd:Nat.blt dd nt=true)(hu:P.underlying t=some (.slice el))(hs:bw P el=some sz)(h0:Nat.blt 0 sz=true)(hz:dY P el=some z)(hp:l6 (aT T (aV ops.toList ⟨some dd,.buildSlice t len parts.toArray,ty,pos,af,gd⟩)) parts=some ps)(hf:hJ (fun i=>some (i*sz,sz)) (((List.range (len*sz)).map (z.cells[·% z.cells.size]!)).map .sc) ps=some cs)(h1:cq cs=true)(hlen:Nat.ble (len*sz) 16777216=true)(hll:cs.length=len*sz)
 (h:DrawK P nt ops (i+1) l ⟨T.set dd (.slu nx 0 len),(H.set nx (.row false len sz el (fw cs))),(nx+1),⟨i,⟨some dd,.buildSlice t len parts.toArray,ty,pos,af,gd⟩,(aT T (aV ops.toList ⟨some dd,.buildSlice t len parts.toArray,ty,pos,af,gd⟩)),stg,true,true,(.slu nx 0 len)⟩ :: rs,((H.set nx (.row false len sz el (fw cs))),(nx+1)) :: Hs,stg+1⟩ K):DrawK P nt ops i (⟨some dd,.buildSlice t len parts.toArray,ty,pos,af,gd⟩ :: l) ⟨T,H,nx,rs,Hs,stg⟩ K:=
 oA hw hd (fun _ h=>by cases h) (aU hu hs (aN h0) hz hp hf h1 hlen hll) h
theorem ry{vs:List Value}{v:Value}(hw:aD (aT T (aV ops.toList ⟨some dd,.load t x,ty,pos,af,gd⟩)) ops ⟨some dd,.load t x,ty,pos,af,gd⟩=some true)(hd:Nat.blt dd nt=true)(hx:ar (aT T (aV ops.toList ⟨some dd,.load t x,ty,pos,af,gd⟩)) x=some (.ptr b o))(ha:bT P t=some none)(hb:H.at' b=some (dat rr ne sz rt vs))(hv:vs[o]? =some v)(ho:o<ne*sz)
 (h:DrawK P nt ops (i+1) l ⟨T.set dd (.sc v),H,nx,⟨i,⟨some dd,.load t x,ty,pos,af,gd⟩,(aT T (aV ops.toList ⟨some dd,.load t x,ty,pos,af,gd⟩)),stg,false,true,(.sc v)⟩ :: rs,Hs,stg⟩ K):DrawK P nt ops i (⟨some dd,.load t x,ty,pos,af,gd⟩ :: l) ⟨T,H,nx,rs,Hs,stg⟩ K:=
 dn hw hd (fun _ h=>by cases h) (aI ha hx hb (jn ho hv)) h
theorem fW{vs us:List Value}(hw:aD (aT T (aV ops.toList ⟨some dd,.load t x,ty,pos,af,gd⟩)) ops ⟨some dd,.load t x,ty,pos,af,gd⟩=some true)(hd:Nat.blt dd nt=true)(hx:ar (aT T (aV ops.toList ⟨some dd,.load t x,ty,pos,af,gd⟩)) x=some (.ptr b o))(ha:bT P t=some (some n))(hb:H.at' b=some (dat rr ne sz rt vs))(hv:(vs.drop o).take n=us)(hn:us.length=n)(ho:o+n≤ne*sz)
 (h:DrawK P nt ops (i+1) l ⟨T.set dd (.agg (us.map .sc)),H,nx,⟨i,⟨some dd,.load t x,ty,pos,af,gd⟩,(aT T (aV ops.toList ⟨some dd,.load t x,ty,pos,af,gd⟩)),stg,false,true,(.agg (us.map .sc))⟩ :: rs,Hs,stg⟩ K):DrawK P nt ops i (⟨some dd,.load t x,ty,pos,af,gd⟩ :: l) ⟨T,H,nx,rs,Hs,stg⟩ K:=
 dn hw hd (fun _ h=>by cases h) (bA ha hx hb (dM n o hv hn ho)) h
theorem an{e:TypeId}{q:Nat}{j:Int}{c:Tr SV}(hw:aD (aT T (aV ops.toList ⟨some dd,.indexAddr t x y,ty,pos,af,gd⟩)) ops ⟨some dd,.indexAddr t x y,ty,pos,af,gd⟩=some true)(hd:Nat.blt dd nt=true)(hx:ar (aT T (aV ops.toList ⟨some dd,.indexAddr t x y,ty,pos,af,gd⟩)) x=some (.slu b 0 n))(hy:ar (aT T (aV ops.toList ⟨some dd,.indexAddr t x y,ty,pos,af,gd⟩)) y=some (.sc (.int kd j)))(hu:P.underlying t=some (.slice e))(hs:bw P e=some sz)(hb:H.at' b=some (.row rr ne sz rt c))(hj:j=(q:Int))(hi:q<n)(hne:n≤ne)
 (h:DrawK P nt ops (i+1) l ⟨T.set dd (.ptr b (q*sz)),H,nx,⟨i,⟨some dd,.indexAddr t x y,ty,pos,af,gd⟩,(aT T (aV ops.toList ⟨some dd,.indexAddr t x y,ty,pos,af,gd⟩)),stg,false,true,(.ptr b (q*sz))⟩ :: rs,Hs,stg⟩ K):DrawK P nt ops i (⟨some dd,.indexAddr t x y,ty,pos,af,gd⟩ :: l) ⟨T,H,nx,rs,Hs,stg⟩ K:=
 dn hw hd (fun _ h=>by cases h) (az hu hs hx hy hb hj hi hne) h
theorem aX{A:Type} [Inhabited A]{f:A→List Value}{q:Nat}{d:Array A}(hw:aD (aT T (aV ops.toList ⟨some dd,.load t x,ty,pos,af,gd⟩)) ops ⟨some dd,.load t x,ty,pos,af,gd⟩=some true)(hd:Nat.blt dd nt=true)(hx:ar (aT T (aV ops.toList ⟨some dd,.load t x,ty,pos,af,gd⟩)) x=some (.ptr b (q*sz)))(ha:bT P t=some (some sz))(hf:RecOf f sz)(hb:H.at' b=some (arr rr ne sz rt f d))(hi:q<d.size)(hne:d.size≤ne)
 (h:DrawK P nt ops (i+1) l ⟨T.set dd (.agg ((f d[q]!).map .sc)),H,nx,⟨i,⟨some dd,.load t x,ty,pos,af,gd⟩,(aT T (aV ops.toList ⟨some dd,.load t x,ty,pos,af,gd⟩)),stg,false,true,(.agg ((f d[q]!).map .sc))⟩ :: rs,Hs,stg⟩ K):DrawK P nt ops i (⟨some dd,.load t x,ty,pos,af,gd⟩ :: l) ⟨T,H,nx,rs,Hs,stg⟩ K:=
 dn hw hd (fun _ h=>by cases h) (Dh ha hx hf hb hi hne) h
theorem xX{b:Int}(hw:aD (aT T (aV ops.toList ⟨some dd,.binOp .eql t x y yt,ty,pos,af,gd⟩)) ops ⟨some dd,.binOp .eql t x y yt,ty,pos,af,gd⟩=some true)(hd:Nat.blt dd nt=true)(hx:ar (aT T (aV ops.toList ⟨some dd,.binOp .eql t x y yt,ty,pos,af,gd⟩)) x=some (.sc (.int kd a)))(hy:ar (aT T (aV ops.toList ⟨some dd,.binOp .eql t x y yt,ty,pos,af,gd⟩)) y=some (.sc (.int kd b)))
 (h1:a=b→DrawK P nt ops (i+1) l ⟨T.set dd (.sc (.bool true)),H,nx,⟨i,⟨some dd,.binOp .eql t x y yt,ty,pos,af,gd⟩,(aT T (aV ops.toList ⟨some dd,.binOp .eql t x y yt,ty,pos,af,gd⟩)),stg,false,true,(.sc (.bool true))⟩ :: rs,Hs,stg⟩ K) (h2:a≠b→DrawK P nt ops (i+1) l ⟨T.set dd (.sc (.bool false)),H,nx,⟨i,⟨some dd,.binOp .eql t x y yt,ty,pos,af,gd⟩,(aT T (aV ops.toList ⟨some dd,.binOp .eql t x y yt,ty,pos,af,gd⟩)),stg,false,true,(.sc (.bool false))⟩ :: rs,Hs,stg⟩ K):DrawK P nt ops i (⟨some dd,.binOp .eql t x y yt,ty,pos,af,gd⟩ :: l) ⟨T,H,nx,rs,Hs,stg⟩ K:=by
 refine bq (ct hx hy (.inl ⟨rfl,rfl⟩)) hw hd rfl ?_
 by_cases hc:a=b
 ·have e:(a == b)=true:=by simp;omega
  rw [e];exact h1 hc
 ·have e:(a == b)=false:=by simp;omega
  rw [e];exact h2 (by omega)
theorem bx{b:Int}(hw:aD (aT T (aV ops.toList ⟨some dd,.binOp .lss t x y yt,ty,pos,af,gd⟩)) ops ⟨some dd,.binOp .lss t x y yt,ty,pos,af,gd⟩=some true)(hd:Nat.blt dd nt=true)(hx:ar (aT T (aV ops.toList ⟨some dd,.binOp .lss t x y yt,ty,pos,af,gd⟩)) x=some (.sc (.int kd a)))(hy:ar (aT T (aV ops.toList ⟨some dd,.binOp .lss t x y yt,ty,pos,af,gd⟩)) y=some (.sc (.int kd b)))
 (h1:a<b→DrawK P nt ops (i+1) l ⟨T.set dd (.sc (.bool true)),H,nx,⟨i,⟨some dd,.binOp .lss t x y yt,ty,pos,af,gd⟩,(aT T (aV ops.toList ⟨some dd,.binOp .lss t x y yt,ty,pos,af,gd⟩)),stg,false,true,(.sc (.bool true))⟩ :: rs,Hs,stg⟩ K) (h2:b≤a→DrawK P nt ops (i+1) l ⟨T.set dd (.sc (.bool false)),H,nx,⟨i,⟨some dd,.binOp .lss t x y yt,ty,pos,af,gd⟩,(aT T (aV ops.toList ⟨some dd,.binOp .lss t x y yt,ty,pos,af,gd⟩)),stg,false,true,(.sc (.bool false))⟩ :: rs,Hs,stg⟩ K):DrawK P nt ops i (⟨some dd,.binOp .lss t x y yt,ty,pos,af,gd⟩ :: l) ⟨T,H,nx,rs,Hs,stg⟩ K:=by
 refine bq (ct hx hy (.inr (.inr (.inl ⟨rfl,rfl⟩)))) hw hd rfl ?_
 by_cases hc:a<b
 ·have e:(decide (a<b))=true:=by simp;omega
  rw [e];exact h1 hc
 ·have e:(decide (a<b))=false:=by simp;omega
  rw [e];exact h2 (by omega)
theorem fx{b:Int}(hw:aD (aT T (aV ops.toList ⟨some dd,.binOp .leq t x y yt,ty,pos,af,gd⟩)) ops ⟨some dd,.binOp .leq t x y yt,ty,pos,af,gd⟩=some true)(hd:Nat.blt dd nt=true)(hx:ar (aT T (aV ops.toList ⟨some dd,.binOp .leq t x y yt,ty,pos,af,gd⟩)) x=some (.sc (.int kd a)))(hy:ar (aT T (aV ops.toList ⟨some dd,.binOp .leq t x y yt,ty,pos,af,gd⟩)) y=some (.sc (.int kd b)))
 (h1:a≤b→DrawK P nt ops (i+1) l ⟨T.set dd (.sc (.bool true)),H,nx,⟨i,⟨some dd,.binOp .leq t x y yt,ty,pos,af,gd⟩,(aT T (aV ops.toList ⟨some dd,.binOp .leq t x y yt,ty,pos,af,gd⟩)),stg,false,true,(.sc (.bool true))⟩ :: rs,Hs,stg⟩ K) (h2:b<a→DrawK P nt ops (i+1) l ⟨T.set dd (.sc (.bool false)),H,nx,⟨i,⟨some dd,.binOp .leq t x y yt,ty,pos,af,gd⟩,(aT T (aV ops.toList ⟨some dd,.binOp .leq t x y yt,ty,pos,af,gd⟩)),stg,false,true,(.sc (.bool false))⟩ :: rs,Hs,stg⟩ K):DrawK P nt ops i (⟨some dd,.binOp .leq t x y yt,ty,pos,af,gd⟩ :: l) ⟨T,H,nx,rs,Hs,stg⟩ K:=by
 refine bq (ct hx hy (.inr (.inr (.inr (.inl ⟨rfl,rfl⟩))))) hw hd rfl ?_
 by_cases hc:a≤b
 ·have e:(decide (a≤b))=true:=by simp;omega
  rw [e];exact h1 hc
 ·have e:(decide (a≤b))=false:=by simp;omega
  rw [e];exact h2 (by omega)
theorem jV{b:Int}(hw:aD (aT T (aV ops.toList ⟨some dd,.binOp .gtr t x y yt,ty,pos,af,gd⟩)) ops ⟨some dd,.binOp .gtr t x y yt,ty,pos,af,gd⟩=some true)(hd:Nat.blt dd nt=true)(hx:ar (aT T (aV ops.toList ⟨some dd,.binOp .gtr t x y yt,ty,pos,af,gd⟩)) x=some (.sc (.int kd a)))(hy:ar (aT T (aV ops.toList ⟨some dd,.binOp .gtr t x y yt,ty,pos,af,gd⟩)) y=some (.sc (.int kd b)))
 (h1:b<a→DrawK P nt ops (i+1) l ⟨T.set dd (.sc (.bool true)),H,nx,⟨i,⟨some dd,.binOp .gtr t x y yt,ty,pos,af,gd⟩,(aT T (aV ops.toList ⟨some dd,.binOp .gtr t x y yt,ty,pos,af,gd⟩)),stg,false,true,(.sc (.bool true))⟩ :: rs,Hs,stg⟩ K) (h2:a≤b→DrawK P nt ops (i+1) l ⟨T.set dd (.sc (.bool false)),H,nx,⟨i,⟨some dd,.binOp .gtr t x y yt,ty,pos,af,gd⟩,(aT T (aV ops.toList ⟨some dd,.binOp .gtr t x y yt,ty,pos,af,gd⟩)),stg,false,true,(.sc (.bool false))⟩ :: rs,Hs,stg⟩ K):DrawK P nt ops i (⟨some dd,.binOp .gtr t x y yt,ty,pos,af,gd⟩ :: l) ⟨T,H,nx,rs,Hs,stg⟩ K:=by
 refine bq (ct hx hy (.inr (.inr (.inr (.inr (.inl ⟨rfl,rfl⟩)))))) hw hd rfl ?_
 by_cases hc:b<a
 ·have e:(decide (a>b))=true:=by simp;omega
  rw [e];exact h1 hc
 ·have e:(decide (a>b))=false:=by simp;omega
  rw [e];exact h2 (by omega)
end
end
section
variable {P:Program}
theorem cI{α β:Type}{fn nt k0 nx id:Nat}{T:Tr SV}{k:List AIt}{dfs:List ADf}{H:aw}{Q0:Cz→Prop}{b:Code}(n:Nat)(sl:α→List (Nat×SV))(ob:α→List (Option VO))(φ:α→Prop)(μ:α→Nat)(a0:α)(L0:List Nat)
 (n2:Nat) (sl2:β→List (Nat×SV)) (ob2:β→List (Option VO)) (ψ:β→Prop)
 (hn: ∀ a,(ob a).length=n) (hn2: ∀ a,(ob2 a).length=n2) (h0:φ a0) (hi:IsAt k0 L0 (sl a0) (ob a0) T H nx) (hk: ∀ ρ,k.map (AIt.ren ρ)=k) (hd: ∀ ρ,dfs.map (ADf.ren ρ)=dfs)
 (body: ∀ a,φ a→(∀ T' H' nx' a' L',φ a'→μ a'<μ a→IsAt k0 L' (sl a') (ob a') T' H' nx'→Wp P none ⟨fn,nt,T',.inLoop b :: .inBlock id :: k,dfs,H',nx'⟩ (fun r=> ∃ c,Q0 c∧Ends k0 c r)) →
   (∀ T' H' nx' a' L',ψ a'→IsAt k0 L' (sl2 a') (ob2 a') T' H' nx'→Wp P none ⟨fn,nt,T',k,dfs,H',nx'⟩ (fun r=> ∃ c,Q0 c∧Ends k0 c r)) →
   Wp P none ⟨fn,nt,slT (sl a),.code b :: .inLoop b :: .inBlock id :: k,dfs,l4 (ob a),n⟩ (fun r=> ∃ c,Q0 c∧Ends k0 c r))
 (exit: ∀ a,ψ a→Wp P none ⟨fn,nt,slT (sl2 a),k,dfs,l4 (ob2 a),n2⟩ (fun r=> ∃ c,Q0 c∧Ends k0 c r)) :
 Wp P none ⟨fn,nt,T,.code (.loop b) :: .inBlock id :: k,dfs,H,nx⟩ (fun r=> ∃ c,Q0 c∧Ends k0 c r):=
 cO n sl ob φ μ a0 L0 hn h0 hi (fun ρ=>by simp [AIt.ren,hk ρ]) hd fun a ha again=>body a ha again fun T' H' nx' a' L' hψ hat=>by
  refine Wp.can hat (hk _) (hd _) ?_
  rw [hn2 a']
  exact exit a' hψ
end
section
variable {P:Program}
theorem uH{β:Type}{fn nt k0 nx:Nat}{T:Tr SV}{k:List AIt}{dfs:List ADf}{H:aw}{Q0:Cz→Prop}{c:Operand}{x y:Code}{t:Bool}(n2:Nat)(sl2:β→List (Nat×SV))(ob2:β→List (Option VO))(ψ:β→Prop)
 (hn2: ∀ a,(ob2 a).length=n2) (hc:ar T c=some (.sc (.bool t))) (hk: ∀ ρ,k.map (AIt.ren ρ)=k) (hd: ∀ ρ,dfs.map (ADf.ren ρ)=dfs)
 (arm1:t=true→(∀ T' H' nx' a' L',ψ a'→IsAt k0 L' (sl2 a') (ob2 a') T' H' nx'→Wp P none ⟨fn,nt,T',k,dfs,H',nx'⟩ (fun r=> ∃ c,Q0 c∧Ends k0 c r)) →
   Wp P none ⟨fn,nt,T,.code x :: k,dfs,H,nx⟩ (fun r=> ∃ c,Q0 c∧Ends k0 c r))
 (arm2:t=false→(∀ T' H' nx' a' L',ψ a'→IsAt k0 L' (sl2 a') (ob2 a') T' H' nx'→Wp P none ⟨fn,nt,T',k,dfs,H',nx'⟩ (fun r=> ∃ c,Q0 c∧Ends k0 c r)) →
   Wp P none ⟨fn,nt,T,.code y :: k,dfs,H,nx⟩ (fun r=> ∃ c,Q0 c∧Ends k0 c r))
 (rest: ∀ a,ψ a→Wp P none ⟨fn,nt,slT (sl2 a),k,dfs,l4 (ob2 a),n2⟩ (fun r=> ∃ c,Q0 c∧Ends k0 c r)) :
 Wp P none ⟨fn,nt,T,.code (.cond c x y) :: k,dfs,H,nx⟩ (fun r=> ∃ c,Q0 c∧Ends k0 c r):=by
 have out: ∀ T' H' nx' a' L',ψ a'→IsAt k0 L' (sl2 a') (ob2 a') T' H' nx'→Wp P none ⟨fn,nt,T',k,dfs,H',nx'⟩ (fun r=> ∃ c,Q0 c∧Ends k0 c r):=fun T' H' nx' a' L' hψ hat=>by
  refine Wp.can hat (hk _) (hd _) ?_
  rw [hn2 a']
  exact rest a' hψ
 exact vZ hc (fun h=>arm1 h out) (fun h=>arm2 h out)
theorem oP{β:Type}{fn nt k0 nx:Nat}{T:Tr SV}{it:AIt}{k:List AIt}{dfs:List ADf}{H:aw}{Q0:Cz→Prop}(n2:Nat)(sl2:β→List (Nat×SV))(ob2:β→List (Option VO))(ψ:β→Prop)
 (hn2: ∀ a,(ob2 a).length=n2) (hk: ∀ ρ,k.map (AIt.ren ρ)=k) (hd: ∀ ρ,dfs.map (ADf.ren ρ)=dfs)
 (body:(∀ T' H' nx' a' L',ψ a'→IsAt k0 L' (sl2 a') (ob2 a') T' H' nx'→Wp P none ⟨fn,nt,T',k,dfs,H',nx'⟩ (fun r=> ∃ c,Q0 c∧Ends k0 c r)) →
   Wp P none ⟨fn,nt,T,it :: k,dfs,H,nx⟩ (fun r=> ∃ c,Q0 c∧Ends k0 c r))
 (rest: ∀ a,ψ a→Wp P none ⟨fn,nt,slT (sl2 a),k,dfs,l4 (ob2 a),n2⟩ (fun r=> ∃ c,Q0 c∧Ends k0 c r)) :
 Wp P none ⟨fn,nt,T,it :: k,dfs,H,nx⟩ (fun r=> ∃ c,Q0 c∧Ends k0 c r):=
 body fun T' H' nx' a' L' hψ hat=>by
  refine Wp.can hat (hk _) (hd _) ?_
  rw [hn2 a']
  exact rest a' hψ
end
section
variable {P:Program}
theorem l9{ro:Option Nat}{fn nt nx:Nat}{T:Tr SV}{k:List AIt}{dfs:List ADf}{H:aw}{Q:Pst}{d:Nat}(sz:Nat)(t:TypeId)(hT:T.at' d=some (.sc (.slice none 0 0)))(h0:Nat.blt 0 sz=true)
 (h:Wp P ro ⟨fn,nt,T.set d (.slu nx 0 0),k,dfs,H.set nx (dat false 0 sz t []),nx+1⟩ Q):Wp P ro ⟨fn,nt,T,k,dfs,H,nx⟩ Q:=by
 refine⟨fun K w0 e w tmps todo ds kd rof cs hS hTr htd hds hc=>?_⟩
 have hf:=hS.fresh nx (Em _)
 have hle:=Env.dE (x:=⟨0,0,0,sz,true⟩) hf
 have hT2:TRel (e.put nx ⟨0,0,0,sz,true⟩) nt (T.set d (.slu nx 0 0)) tmps:=by
  refine⟨hTr.1,fun t s hs=>?_⟩
  rcases bl hs with ⟨rfl,rfl⟩|⟨_,hs⟩
  ·obtain⟨v,g1,g2⟩:=hTr.2 _ _ hT
   simp only [SV.conc,D2] at g1
   subst g1
   exact⟨_,by simp [SV.conc,Env.bL,Ent.at],g2⟩
  ·obtain⟨v,g1,g2⟩:=hTr.2 _ _ hs
   exact⟨v,SV.dl hle _ _ g1,g2⟩
 obtain⟨r,hr,e1,w',v,g1,g2⟩:=h.run K w0 _ w tmps todo ds kd rof cs (hS.newNil false sz t _ (aN h0)) hT2 (htd.mono hle) (hds.mono hle) (hc.mono hle)
 exact⟨r,hr,e1,w',v,Env.le_trans hle g1,g2⟩
theorem vV{ro:Option Nat}{fn nt nx:Nat}{T:Tr SV}{k:List AIt}{dfs:List ADf}{H:aw}{Q:Pst}{d:Nat}{s s':SV}(hT:T.at' d=some s)(hc: ∀ e v,s.conc e=some v→s'.conc e=some v)
 (h:Wp P ro ⟨fn,nt,T.set d s',k,dfs,H,nx⟩ Q):Wp P ro ⟨fn,nt,T,k,dfs,H,nx⟩ Q:=by
 refine⟨fun K w0 e w tmps todo ds kd rof cs hS hTr htd hds hcx=>?_⟩
 refine h.run K w0 e w tmps todo ds kd rof cs hS ⟨hTr.1,fun t u hu=>?_⟩ htd hds hcx
 rcases bl hu with ⟨rfl,rfl⟩|⟨_,hu⟩
 ·obtain⟨v,g1,g2⟩:=hTr.2 _ _ hT
  exact⟨v,hc e v g1,g2⟩
 ·exact hTr.2 _ _ hu
end
section
variable {K V:Type} [DecidableEq K]
structure KEnc (P:Program) (kt:TypeId) (enc:K→Value):Prop where
 find: ∀ (l:List (K×SV×Nat)) (k:K),pN P kt (enc k) (l.map fun x=>(enc x.1,x.2))=some (l.findIdx? fun x=>decide (x.1=k))
 check: ∀ k,bu P (Instr.checkKey false 10000 kt (enc k))=some ()
 bits: ∀ k,Instr.sameBits 10000 (enc k) (enc k)=true
def lN(m:List (K×V×Nat))(k:K):Option V:=(m.find? fun x=>decide (x.1=k)).map (·.2.1)
def pG:List (K×V×Nat)→K→V→Nat→List (K×V×Nat)
 | [],k,v,c=> [(k,v,c)]
 | x :: m,k,v,c=>if x.1=k then(k,v,x.2.2) :: m else x :: pG m k v c
def CI(m:List (K×V×Nat))(k:K)(c:Nat):Nat:=match lN m k with
 | some _=>c
 | none=>c+1
def nH:List (K×V×Nat)→K→List (K×V×Nat)
 | [],_=> []
 | x :: m,k=>if x.1=k then m else x :: nH m k
structure KOk (m:List (K×V×Nat)) (c:Nat):Prop where
 keys:(m.map (·.1)).Nodup
 born:(m.map (·.2.2)).Nodup
 lt: ∀ x∈m,x.2.2<c
omit [DecidableEq K] in
theorem KOk.nil(c:Nat):KOk ([]:List (K×V×Nat)) c:=⟨by simp,by simp,by simp⟩
section
variable {m:List (K×V×Nat)}
theorem kidx(m:List (K×V×Nat))(k:K):match m.findIdx? fun x=>decide (x.1=k)with
 | none=>lN m k=none∧nH m k=m∧ ∀ v c,pG m k v c=m ++ [(k,v,c)]
 | some i=> ∃ x,m[i]? =some x∧x.1=k∧lN m k=some x.2.1∧nH m k=m.eraseIdx i∧ ∀ v c,pG m k v c=m.set i (k,v,x.2.2):=by
 induction m with
 | nil=>simp [lN,nH,pG]
 | cons y m ih=>
   rw [List.findIdx?_cons]
   by_cases h:y.1=k
   ·simp [h,lN,nH,pG]
   ·simp only [h,decide_false,Bool.false_eq_true,if_false]
    cases hi:m.findIdx? fun x=>decide (x.1=k)with
    | none=>
      rw [hi] at ih
      obtain⟨h1,h2,h3⟩:=ih
      refine⟨?_,?_,fun v c=>?_⟩
      ·simpa [lN,h] using h1
      ·simp [nH,h,h2]
      ·simp [pG,h,h3]
    | some i=>
      rw [hi] at ih
      obtain⟨x,h1,h2,h3,h4,h5⟩:=ih
      refine⟨x,by simpa using h1,h2,?_,?_,fun v c=>?_⟩
      ·simpa [lN,h] using h3
      ·simp [nH,h,h4]
      ·simp [pG,h,h5]
theorem qV{k:K}:lN m k=none↔k∉m.map (·.1):=by
 induction m with
 | nil=>simp [lN]
 | cons y m ih=>
   by_cases h:y.1=k
   ·simp [lN,h]
   ·have:lN (y :: m) k=lN m k:=by simp [lN,h]
    rw [this,ih]
    simp [Ne.symm h]
theorem zG{k:K}{v:V}{c:Nat}{x:K}:x∈(pG m k v c).map (·.1)↔x=k∨x∈m.map (·.1):=by
 induction m with
 | nil=>simp [pG]
 | cons y m ih=>
   unfold pG
   by_cases h:y.1=k
   ·simp [h]
   ·simp only [h,if_false,Eo,EN,ih]
    constructor <;> (intro h';rcases h' with h'|h'|h' <;> simp [h'])
theorem KOk.put{c:Nat}(h:KOk m c)(k:K)(v:V):KOk (pG m k v c) (CI m k c):=by
 have hk:=kidx m k
 cases hi:m.findIdx? fun x=>decide (x.1=k)with
 | none=>
   rw [hi] at hk
   obtain⟨h1,_,h3⟩:=hk
   rw [h3,show CI m k c=c+1 by simp [CI,h1]]
   refine⟨?_,?_,?_⟩
   ·rw [Es,List.nodup_append]
    exact⟨h.keys,by simp,fun a ha b hb=>by simp at hb;subst hb;intro e;subst e;exact qV.1 h1 ha⟩
   ·rw [Es,List.nodup_append]
    refine⟨h.born,by simp,fun a ha b hb=>?_⟩
    simp at hb
    subst hb
    obtain⟨x,hx,rfl⟩:=EV.1 ha
    have:=h.lt x hx
    omega
   ·intro x hx
    rcases List.mem_append.1 hx with hx|hx
    ·have:=h.lt x hx;omega
    ·simp at hx;subst hx;show c<c+1;omega
 | some i=>
   rw [hi] at hk
   obtain⟨x,h1,h2,h3,_,h5⟩:=hk
   rw [h5,show CI m k c=c by simp [CI,h3]]
   obtain⟨hlt,rfl⟩:=D6.1 h1
   refine⟨?_,?_,?_⟩
   ·rw [List.map_set]
    rw [show(m.map (·.1)).set i k=m.map (·.1) by rw [← h2];apply ET;intro j;rw [List.getElem?_set];by_cases hj:i=j
                                                 ·subst hj;simp [hlt]
                                                 ·simp [hj]]
    exact h.keys
   ·rw [List.map_set]
    rw [show(m.map (·.2.2)).set i m[i].2.2=m.map (·.2.2) by apply ET;intro j;rw [List.getElem?_set];by_cases hj:i=j
                                                            ·subst hj;simp [hlt]
                                                            ·simp [hj]]
    exact h.born
   ·intro y hy
    rcases List.mem_or_eq_of_mem_set hy with hy|rfl
    ·exact h.lt y hy
    ·exact h.lt m[i] (Ex hlt)
end
omit [DecidableEq K] in
theorem KOk.sub{m m':List (K×V×Nat)}{c:Nat}(h:KOk m c)(hs:m'.Sublist m):KOk m' c:=⟨h.keys.sublist (hs.map _),h.born.sublist (hs.map _),fun x hx=>h.lt x (hs.subset hx)⟩
theorem zN(m:List (K×V×Nat))(k:K):(nH m k).Sublist m:=by
 induction m with
 | nil=>exact List.Sublist.refl _
 | cons y m ih=>
   unfold nH
   split
   ·exact List.sublist_cons_self _ _
   ·exact ih.cons_cons _
theorem KOk.del{m:List (K×V×Nat)}{c:Nat}(h:KOk m c)(k:K):KOk (nH m k) c:=h.sub (zN m k)
omit [DecidableEq K] in
theorem KOk.eq{m:List (K×V×Nat)}{c:Nat}(h:KOk m c){x y:K×V×Nat}(hx:x∈m)(hy:y∈m)(hb:x.2.2=y.2.2):x=y:=by
 obtain⟨i,hi⟩:=List.getElem?_of_mem hx
 obtain⟨j,hj⟩:=List.getElem?_of_mem hy
 obtain⟨hi',rfl⟩:=D6.1 hi
 obtain⟨hj',rfl⟩:=D6.1 hj
 have:i=j:=by
  refine(List.getElem_inj (h₀:=by simpa using hi') (h₁:=by simpa using hj') h.born).1 ?_
  simpa using hb
 subst this
 rfl
omit [DecidableEq K] in
theorem KOk.nodup{m:List (K×V×Nat)}{c:Nat}(h:KOk m c):m.Nodup:=by
 have:=h.born
 exact List.Pairwise.of_map (·.2.2) (fun a b hab e=>hab (by rw [e])) this
variable {P:Program} {T:Tr SV} {H:aw} {nx:Nat} {d:Option Tmp} {ty:TypeId} {pos:String} {af:Array Edge} {gd:Option (Nat×Bool)}
end
section
variable {P:Program} {T:Tr SV} {H:aw} {nx:Nat} {d:Option Tmp} {ty:TypeId} {pos:String} {af:Array Edge} {gd:Option (Nat×Bool)}
theorem fe{t yt:TypeId}{x y:Operand}{s:SV}{v:Value}{d0:TypeDesc}(hx:ar T x=some s)(hy:ar T y=some (.sc v))(hu:P.underlying t=some d0)(hn:qX s v d0=true):ReadDoes P T H ⟨d,.binOp .eql t x y yt,ty,pos,af,gd⟩ (.sc (.bool false)):=by
 refine fj ?_
 unfold cS
 simp only [hx,hy,Eu,pA,hu,hn,cond_true]
theorem sA{x:Operand}{i:Nat}{xs:Array Value}{v:Value}(h:ar T x=some (.sc (.tuple xs)))(hi:xs[i]? =some v):ReadDoes P T H ⟨d,.extract x i,ty,pos,af,gd⟩ (.sc v):=by
 refine fj ?_
 unfold cS
 simp only [h,Eu,BR,hi,Et]
end
section
variable {P:Program} {T:Tr SV} {H:aw} {nx:Nat} {d0:Option Tmp} {ty:TypeId} {pos:String} {af:Array Edge} {gd:Option (Nat×Bool)}
theorem sy{t e:TypeId}{x y:Operand}{b o n sz:Nat}{k:IntKind}{j:Int}{q:Nat}(hx:ar T x=some (.ptr b o))(hy:ar T y=some (.sc (.int k j)))(hu:P.underlying t=some (.array n e))(hs:bw P e=some sz)(hq:j=(q:Int))(hi:q<n) :
 ReadDoes P T H ⟨d0,.indexAddr t x y,ty,pos,af,gd⟩ (.ptr b (o+q*sz)):=by
 refine fj ?_
 subst hq
 unfold cS
 simp only [zD,hx,hy,Eu]
 show(dk P H t q (.ptr b o))=_
 simp only [dk,hu,hs]
 rw [show Nat.blt q n=true from D9 hi]
 rfl
end
section
variable {P:Program} {T:Tr SV} {H:aw} {nx:Nat} {d:Option Tmp} {ty:TypeId} {pos:String} {af:Array Edge} {gd:Option (Nat×Bool)}
theorem Bu{b m sz:Nat}{ro:Bool}{t:TypeId}{l:List SV}{vs:List Value}(hb:H.at' b=some (.row ro m sz t (fw l)))(hl:l=vs.map .sc)(hlen:vs.length=m*sz):RdV P H sz (.slu b 0 m) m vs:=by
 subst hl
 rw [bU] at hb
 exact sr hb (by omega) (by rw [Nat.zero_mul,List.drop_zero];exact Ed (by omega)) hlen
theorem BK{A:Type}{f:A→List Value}{xs:List A}{a:A}{t tx el:TypeId}{sz b r q:Nat}{s x:Operand}{rq:Bool}{tq:TypeId}{cs:List SV}(hx0:ar T s=some (.slu r 0 xs.length))(hx:ar T x=some (.slu q 0 1))(hu:P.underlying t=some (.slice el))
 (hk:(∃ e',P.underlying tx=some (.slice e'))∨P.underlying tx=some .string) (hs:bw P el=some sz) (h0:Nat.blt 0 sz=true) (hz:fy P el sz=true) (hb:(P.info? el).map (·.bytes)=some b) (hro:H.at' r=some (dat false xs.length sz el (xs.flatMap f)))
 (hq:H.at' q=some (.row rq 1 sz tq (fw cs))) (hcs:cs=(f a).map .sc) (hf:RecOf f sz) (hm1:(xs.length+1)*b≤140737488355328) (hm2:xs.length+1≤1000000000) :
 OpDoes P T H nx ⟨d,.call {callee:= .builtin .append,args:= #[s,x],argTypes:= #[t,tx]},ty,pos,af,gd⟩ (.val (.slu nx 0 (xs ++ [a]).length),(H.del r).set nx (dat false (xs ++ [a]).length sz el ((xs ++ [a]).flatMap f)),nx+1):=by
 have h:=w5 (P:=P) (T:=T) (H:=H) (nx:=nx) (d:=d) (ty:=ty) (pos:=pos) (af:=af) (gd:=gd) (eo:=0) (n:=xs.length) (m:=1) (vs:=f a) (ws:=xs.flatMap f) hu hk hs (aN h0) hz hb hx0 hx (by rw [EA];exact hro)
  (by rw [Nat.zero_mul,List.drop_zero];exact Ed (by rw [gh hf.len];omega)) (gh hf.len xs) (Bu hq hcs (by rw [hf.len];omega)) (hf.one a) (by decide) hm1 hm2
 rw [show(xs ++ [a]).length=xs.length+1 by simp,show(xs ++ [a]).flatMap f=xs.flatMap f ++ f a by simp]
 exact h
end
section
variable {P:Program} {ro:Option Nat} {fn nt nx:Nat} {T:Tr SV} {k:List AIt} {dfs:List ADf} {H:aw} {Q:Pst} {ops:Array Oper} {i:Nat} {l:List Oper} {d:Option Tmp} {ty:TypeId} {pos:String} {af:Array Edge} {gd:Option (Nat×Bool)}
theorem ic{t e:TypeId}{x y:Operand}{b o n sz:Nat}{kd:IntKind}{j:Int}{q:Nat}{dd:Nat}(hw:aD T ops ⟨some dd,.indexAddr t x y,ty,pos,af,gd⟩=some true)(hd:Nat.blt dd nt=true)(hx:ar T x=some (.ptr b o))(hy:ar T y=some (.sc (.int kd j)))(hu:P.underlying t=some (.array n e))(hs:bw P e=some sz)(hq:j=(q:Int))(hi:q<n)
 (h:Wp P ro ⟨fn,nt,T.set dd (.ptr b (o+q*sz)),.inReg ops (i+1) l :: k,dfs,H,nx⟩ Q):Wp P ro ⟨fn,nt,T,.inReg ops i (⟨some dd,.indexAddr t x y,ty,pos,af,gd⟩ :: l) :: k,dfs,H,nx⟩ Q:=
 dZ hw (.inr (fun _ h=>by cases h)) ((sy hx hy hu hs hq hi).does) (by rw [aK hd];exact h)
theorem ma{t bt:TypeId}{a x:Operand}{b o n:Nat}{cs vs:List SV}{v:SV}(hw:aD T ops ⟨none,.store t a x,ty,pos,af,gd⟩=some true)(ha:ar T a=some (.ptr b o))(hx:ar T x=some v)(hv:v.cells=vs)(hs:bw P t=some n)(hb:H.at' b=some (am bt cs))(hn:vs.length=n)(ho:o+n≤cs.length)(h1:cq vs=true)
 (h:Wp P ro ⟨fn,nt,T,.inReg ops (i+1) l :: k,dfs,(H.set b (am bt (cs.take o ++ vs ++ cs.drop (o+n)))),nx⟩ Q):Wp P ro ⟨fn,nt,T,.inReg ops i (⟨none,.store t a x,ty,pos,af,gd⟩ :: l) :: k,dfs,H,nx⟩ Q:=
 qg hw (.inr (fun _ h=>by cases h)) (gT hs ha hx hv hb hn ho h1) h
theorem mw{A:Type}{f:A→List Value}{xs:List A}{a:A}{t tx el:TypeId}{sz b r q:Nat}{s x:Operand}{rq:Bool}{tq:TypeId}{cs:List SV}{dd:Nat}(hw:aD T ops ⟨some dd,.call {callee:= .builtin .append,args:= #[s,x],argTypes:= #[t,tx]},ty,pos,af,gd⟩=some true)(hd:Nat.blt dd nt=true)(hx0:ar T s=some (.slu r 0 xs.length))(hx:ar T x=some (.slu q 0 1))(hu:P.underlying t=some (.slice el))(hk:(∃ e',P.underlying tx=some (.slice e'))∨P.underlying tx=some .string)(hs:bw P el=some sz)(h0:Nat.blt 0 sz=true)(hz:fy P el sz=true)(hb:(P.info? el).map (·.bytes)=some b)(hro:H.at' r=some (dat false xs.length sz el (xs.flatMap f)))(hq:H.at' q=some (.row rq 1 sz tq (fw cs)))(hcs:cs=(f a).map .sc)(hf:RecOf f sz)(hm1:(xs.length+1)*b≤140737488355328)(hm2:xs.length+1≤1000000000)
 (h:Wp P ro ⟨fn,nt,T.set dd (.slu nx 0 (xs ++ [a]).length),.inReg ops (i+1) l :: k,dfs,((H.del r).set nx (dat false (xs ++ [a]).length sz el ((xs ++ [a]).flatMap f))),(nx+1)⟩ Q):Wp P ro ⟨fn,nt,T,.inReg ops i (⟨some dd,.call {callee:= .builtin .append,args:= #[s,x],argTypes:= #[t,tx]},ty,pos,af,gd⟩ :: l) :: k,dfs,H,nx⟩ Q:=
 dZ hw (.inr (fun _ h=>by cases h)) (BK hx0 hx hu hk hs h0 hz hb hro hq hcs hf hm1 hm2) (by rw [aK hd];exact h)
end
section
variable {P:Program} {nt nx:Nat} {T:Tr SV} {H:aw} {ops:Array Oper} {i:Nat} {l:List Oper} {ty:TypeId} {pos:String} {af:Array Edge} {gd:Option (Nat×Bool)} {K:DS→Prop} {rs:List Rec} {Hs:List (aw×Nat)} {stg:Nat}
theorem Cj{t e:TypeId}{x y:Operand}{b o n sz:Nat}{kd:IntKind}{j:Int}{q:Nat}{dd:Nat}(hw:aD (aT T (aV ops.toList ⟨some dd,.indexAddr t x y,ty,pos,af,gd⟩)) ops ⟨some dd,.indexAddr t x y,ty,pos,af,gd⟩=some true)(hd:Nat.blt dd nt=true)(hx:ar (aT T (aV ops.toList ⟨some dd,.indexAddr t x y,ty,pos,af,gd⟩)) x=some (.ptr b o))(hy:ar (aT T (aV ops.toList ⟨some dd,.indexAddr t x y,ty,pos,af,gd⟩)) y=some (.sc (.int kd j)))(hu:P.underlying t=some (.array n e))(hs:bw P e=some sz)(hq:j=(q:Int))(hi:q<n)
 (h:DrawK P nt ops (i+1) l ⟨T.set dd (.ptr b (o+q*sz)),H,nx,⟨i,⟨some dd,.indexAddr t x y,ty,pos,af,gd⟩,(aT T (aV ops.toList ⟨some dd,.indexAddr t x y,ty,pos,af,gd⟩)),stg,false,true,(.ptr b (o+q*sz))⟩ :: rs,Hs,stg⟩ K):DrawK P nt ops i (⟨some dd,.indexAddr t x y,ty,pos,af,gd⟩ :: l) ⟨T,H,nx,rs,Hs,stg⟩ K:=
 dn hw hd (fun _ h=>by cases h) (sy hx hy hu hs hq hi) h
end
section
variable {P:Program} {ro:Option Nat} {fn nt nx:Nat} {T:Tr SV} {k:List AIt} {dfs:List ADf} {H:aw} {Q:Pst} {ops:Array Oper} {i:Nat} {l:List Oper} {d:Option Tmp} {ty:TypeId} {pos:String} {af:Array Edge} {gd:Option (Nat×Bool)}
section
variable {dr f2 n nt2:Nat}{as1 bd:Code}{T2:Tr SV}{f:FuncId}{args:List SV}{ρ:Nat→Nat}{ps:Array Tmp}{st:LoopState}{pend:Option Code}
theorem wE(ρ:Nat→Nat): ∀ vs:List Value,SV.gJ ρ (vs.map .sc)=vs.map .sc
 | []=>rfl
 | v :: vs=>by rw [Eo,SV.gJ,wE ρ vs];rfl
theorem pb{t:TypeId}{vs:List Value}:(am t (vs.map .sc)).ren ρ=am t (vs.map .sc):=by rw [pc,wE]
theorem St.loopLess{K:Zone}{w0 w:World}{e:Env}{T3:Tr SV}(hl:T3.le T2)
 (hS:St K w0 e (H.set n (.loop st pend f2 nt2 T2 ps as1 bd dr)) nx w):St K w0 e (H.set n (.loop st pend f2 nt2 T3 ps as1 bd dr)) nx w:=by
 have key: ∀ id vo,(H.set n (.loop st pend f2 nt2 T3 ps as1 bd dr)).at' id=some vo→ ∃ vo',(H.set n (.loop st pend f2 nt2 T2 ps as1 bd dr)).at' id=some vo'∧vo'.ro=vo.ro∧ ∀ x,Lies K w e vo' x→Lies K w e vo x:=by
  intro id vo hv
  rcases bl hv with ⟨rfl,rfl⟩|⟨hne,hv⟩
  ·refine⟨_,au _ _ _,rfl,fun x hx=>?_⟩
   rcases hx with ⟨h0,o,h1,h2,tmps,y,h3,h4,h5⟩|⟨_,_,_,_,_,h,_⟩
   ·exact .inl ⟨h0,o,h1,h2,tmps,y,h3,h4.less hl,h5⟩
   ·cases h
  ·exact⟨vo,by rw [ab _ _ hne];exact hv,rfl,fun x hx=>hx⟩
 refine⟨hS.below,fun id vo hv=>?_,fun id id' vo vo' x x' h1 h2 h3 h4 h5 h6 h7 h8 h9=>?_,hS.fresh⟩
 ·obtain⟨vo',g1,_,g3⟩:=key id vo hv
  obtain⟨x,hx,hl⟩:=hS.rel id vo' g1
  exact⟨x,hx,g3 x hl⟩
 ·obtain⟨u,g1,g2,_⟩:=key id vo h1
  obtain⟨u',g1',g2',_⟩:=key id' vo' h2
  exact hS.inj _ _ _ _ _ _ g1 g1' h3 h4 h5 h6 h7 (by rw [g2];exact h8) (by rw [g2'];exact h9)
theorem Fnc.weak{H H':aw}{nx:Nat}{Q:Pst}(hs: ∀ K w0 e w,St K w0 e H nx w→St K w0 e H' nx w)(h:Fnc P f args H' nx Q):Fnc P f args H nx Q:=by
 unfold Fnc iR at h ⊢
 rcases h with ⟨h0,v,r,h1,h2,h3⟩|h
 ·exact .inl ⟨h0,v,r,h1,h2,fun K w0 e w hS=>h3 K w0 e w (hs _ _ _ _ hS)⟩
 ·refine .inr ?_
  split at h
  ·rename_i c hb
   exact⟨fun K w0 e w tmps todo ds kd rof cs a b c d f=>h.run K w0 e w tmps todo ds kd rof cs (hs _ _ _ _ a) b c d f⟩
  ·exact h.elim
theorem jE{fo:Operand}{g:FuncId}{a b:List SV}{sf:SV}(sl:List (Nat×SV))(hf:ar T fo=some sf)(ht:da sf=some (g,a,b))(hg:bB P g=true)(hsl: ∀ n x,(slT sl).at' n=some x→T.at' n=some x)
 (h: ∀ as' bd',as'=as1→bd'=bd→Fnc P g (a ++ [.yld (nx+1)] ++ b) ((H.set nx (.dfd (some []))).set (nx+1) (.loop .ready none fn nt (slT sl) ps as' bd' nx)) (nx+1+1) (fun r=>Wp P none ⟨fn,nt,T,.endRange (nx+1) :: k,.taken nx :: dfs,r.2.1,r.2.2⟩ Q)) :
 Wp P none ⟨fn,nt,T,.code (.rangeFunc fo ps as1 bd) :: k,dfs,H,nx⟩ Q:=
 .step ⟨nx,H.set nx (.dfd (some [])),nx+1,[.taken nx],sf,g,a,b,rfl,hf,ht,hg,Fnc.weak (fun K w0 e w hS=>hS.loopLess hsl) (h _ _ rfl rfl)⟩
theorem nV{a b:Code}(h:a=b)(hw:Wp P ro ⟨fn,nt,T,.code b :: k,dfs,H,nx⟩ Q):Wp P ro ⟨fn,nt,T,.code a :: k,dfs,H,nx⟩ Q:=h ▸ hw
theorem gy(hl:H.at' n=some (.loop st pend f2 nt2 T2 ps as1 bd dr))(hs:st ≠ .busy)
 (h:Wp P ro ⟨fn,nt,T,gM pend k,dfs,H.set n (.loop .exhausted pend f2 nt2 T2 ps as1 bd dr),nx⟩ Q):Wp P ro ⟨fn,nt,T,.endRange n :: k,dfs,H,nx⟩ Q:=by
 refine .step ?_
 simp only [oY,hl]
 exact⟨hs,h⟩
theorem r9(hl:H.at' n=some (.loop .ready pend f2 nt2 T2 ps as1 bd dr))
 (h:Wp P (some n) ⟨fn,nt,T,k,dfs,H.set n (.loop .busy pend f2 nt2 T2 ps as1 bd dr),nx⟩ Q):Wp P (some n) ⟨fn,nt,T,.beginRound :: k,dfs,H,nx⟩ Q:=by
 refine .step ?_
 simp only [oY,hl]
 exact⟨trivial,h⟩
theorem dF(hl:H.at' n=some (.loop st pend f2 nt2 T2 ps as1 bd dr))
 (h:Q (.sc (.bool true),H.set n (.loop .ready none f2 nt2 T2 ps as1 bd dr),nx)):Wp P (some n) ⟨fn,nt,T,[],dfs,H,nx⟩ Q:=by
 refine .step ?_
 simp only [oY,lM,tY,hl]
 exact h
theorem Bk{x:Operand}{as1:List Operand}{ats:Array TypeId}{dd:Nat}{as2:Code}
 (hw:aD T ops ⟨some dd,.call {callee:= .value x,args:=as1.toArray,argTypes:=ats},ty,pos,af,gd⟩=some true) (hd:Nat.blt dd nt=true) (hx:ar T x=some (.yld n)) (ha:dh T as1=some args) (hl:H.at' n=some (.loop st pend f2 nt2 T2 ps as2 bd dr)) (hp:Nat.beq ps.size args.length=true)
 (h:Wp P (some n) ⟨f2,nt2,(ps.toList.zip args).foldl (fun T x=>k9 nt2 T (some x.1) x.2) T2,[.code as2,.beginRound,.code bd],[],H,nx⟩ (fun r=>Wp P ro ⟨fn,nt,T.set dd r.1,.inReg ops (i+1) l :: k,dfs,r.2.1,r.2.2⟩ Q)) :
 Wp P ro ⟨fn,nt,T,.inReg ops i (⟨some dd,.call {callee:= .value x,args:=as1.toArray,argTypes:=ats},ty,pos,af,gd⟩ :: l) :: k,dfs,H,nx⟩ Q:=by
 refine .step (.inr ⟨hw,.inr (fun c hc=>by cases hc),OpDoes.any (out:=(.round n args,H,nx)) ?_ ?_⟩)
 ·intro K w0 e w ev hS hE
  refine kK hS hE ?_
  unfold fZ
  simp only [bE,ha,hx,Et]
 ·simp only [outS,oc,hl,aK hd]
  exact⟨hp,h⟩
def SameO(ρ:Nat→Nat):List (Option VO)→List (Option VO)→Prop
 | [],[]=>True
 | none :: l,none :: m=>SameO ρ l m
 | some vo :: l,some vo' :: m=>vo.ren ρ=vo'∧SameO ρ l m
 | _,_=>False
theorem SameO.map{ρ:Nat→Nat}: ∀ {l m:List (Option VO)},SameO ρ l m→l.map (Option.map (VO.ren ρ))=m
 | [],[],_=>rfl
 | none :: l,none :: m,h=>by simp only [Eo,Option.map_none,SameO.map (l:=l) (m:=m) h]
 | some vo :: l,some vo' :: m,h=>by simp only [Eo,Et,h.1,SameO.map h.2]
 | [],_ :: _,h=>by simp [SameO] at h
 | none :: _,some _ :: _,h=>by simp [SameO] at h
 | some _ :: _,none :: _,h=>by simp [SameO] at h
 | none :: _,[],h=>by simp [SameO] at h
 | some _ :: _,[],h=>by simp [SameO] at h
theorem oQ{ρ:Nat→Nat}: ∀ (L:List Nat) (l:List (Option VO)) (i:Nat) (H:aw),(∀ j,j<L.length→ρ (i+j)=L.getD j 0)→l.length=L.length→wrO ρ H i l=wrL L H l
 | [],[],i,H,_,_=>rfl
 | [],_ :: _,i,H,_,h=>by simp at h
 | _ :: _,[],i,H,_,h=>by simp at h
 | b :: L,o :: l,i,H,he,hl=>by
   have e0:ρ i=b:=by simpa using he 0 (by simp)
   have et: ∀ j,j<L.length→ρ (i+1+j)=L.getD j 0:=fun j hj=>by
    have:=he (j+1) (by simpa using hj)
    rw [show i+1+j=i+(j+1) by omega,this]
    simp
   cases o with
   | none=>simp only [wrO,wrL,e0];exact oQ L l (i+1) _ et (by simpa using hl)
   | some vo=>simp only [wrO,wrL,e0];exact oQ L l (i+1) _ et (by simpa using hl)
theorem Ctr.lV{args0:List SV}{pre:List VO}{Q0:Cz→Prop}(h:Ctr P f args0 pre Q0)(L:List Nat){Q:Pst}(hlen:L.length=pre.length)(hL:ExtOk L nx)(ha:args=args0.map (SV.ren (ext L nx)))(hp:HasO (ext L nx) H 0 (pre.map some))
 (hQ: ∀ c,Q0 c→ ∃ v m L2 objs,L2=L ++ (List.range m).map (fun i=>nx+i)∧SameO (ext L nx) c.objs objs∧objs.length=L2.length∧c.v.ren (ext L nx)=v∧Q (v,wrL L2 H objs,nx+m)):Fnc P f args H nx Q:=by
 refine h.call L hlen hL ha hp fun c hc hpl=>?_
 obtain⟨v,m,L2,objs,e1,e2,e3,e4,hq⟩:=hQ c hc
 have hlo:c.objs.length=objs.length:=by rw [← e2.map,ED]
 have hl2:L2.length=L.length+m:=by rw [e1];simp
 rw [e2.map,e4,oQ (ρ:=ext L nx) L2 objs 0 H (fun j hj=>?_) e3,show nx+(c.objs.length-pre.length)=nx+m by omega]
 ·exact hq
 ·rw [EA]
  by_cases hjl:j<L.length
  ·rw [um hjl,e1]
   simp only [Eg]
   rw [Ei hjl]
  ·rw [uo (by omega),e1]
   simp only [Eg]
   rw [EI (by omega),EP,List.getElem?_range (by omega)]
   rfl
theorem zg{t:TypeId}{l l':List SV}(h:SV.gJ ρ l=l'):(am t l).ren ρ=am t l':=by rw [pc,h]
theorem Ctr.at{pre:List VO}{Q:Cz→Prop}(n:Nat)(hn:pre.length=n)(h:Fnc P f args (xI pre) n (fun r=> ∃ c,Q c∧Ends n c r)):Ctr P f args pre Q:=by
 subst hn
 exact h
theorem br{α:Type}{b:Code}(sl:α→List (Nat×SV))(I:α→aw→Nat→Prop)(μ:α→Nat)(a0:α)(h0:I a0 H nx)(hs: ∀ n x,(slT (sl a0)).at' n=some x→T.at' n=some x)
 (body: ∀ a H nx,I a H nx→(∀ T' H' nx' a',I a' H' nx'→μ a'<μ a→(∀ n x,(slT (sl a')).at' n=some x→T'.at' n=some x)→Wp P ro ⟨fn,nt,T',.inLoop b :: k,dfs,H',nx'⟩ Q) →
   Wp P ro ⟨fn,nt,slT (sl a),.code b :: .inLoop b :: k,dfs,H,nx⟩ Q):Wp P ro ⟨fn,nt,T,.code (.loop b) :: k,dfs,H,nx⟩ Q:=by
 have main: ∀ m a H nx,μ a=m→I a H nx→Wp P ro ⟨fn,nt,slT (sl a),.code b :: .inLoop b :: k,dfs,H,nx⟩ Q:=by
  intro m
  induction m using Nat.strongRecOn with
  | _ m ih=>
    intro a H nx hm ha
    refine body a H nx ha fun T' H' nx' a' ha' hlt hs'=>mr ?_
    exact Wp.less (ih (μ a') (by omega) a' H' nx' rfl ha') hs' (Tr.le_refl _)
 exact oO (Wp.less (main _ a0 H nx rfl h0) hs (Tr.le_refl _))
def SlIn(T:Tr SV):List (Nat×SV)→Prop
 | []=>True
 | (t,s) :: l=>T.at' t=some s∧SlIn T l
theorem SlIn.rf{T:Tr SV}: ∀ {l:List (Nat×SV)},l.map (fun x=>T.at' x.1)=l.map (fun x=>some x.2)→SlIn T l
 | [],_=>trivial
 | (t,s) :: l,h=>by
   simp only [Eo,List.cons.injEq] at h
   exact⟨h.1,SlIn.rf h.2⟩
theorem Gb:type_of% @SlIn.rf:=@SlIn.rf
theorem SlIn.sub{T:Tr SV}: ∀ {l:List (Nat×SV)},SlIn T l→ ∀ n x,(slT l).at' n=some x→T.at' n=some x
 | [],_,n,x,h=>by rw [slT,ny] at h;cases h
 | (t0,s0) :: l,hh,n,x,h=>by
   rcases bl h with ⟨rfl,rfl⟩|⟨_,h⟩
   ·exact hh.1
   ·exact SlIn.sub hh.2 n x h
theorem E8:type_of% @SlIn.sub:=@SlIn.sub
theorem xj{rs:List Nat}(hr: ∀ r∈rs,H.at' r=some (.dfd (some [])))(hnd:rs.Nodup)(h: ∀ H',(∀ n,n∉rs→H'.at' n=H.at' n)→Lv P ⟨fn,nt,T,k,dfs,H',nx⟩ Q):Lv P ⟨fn,nt,T,k,rs.map .taken ++ dfs,H,nx⟩ Q:=by
 induction rs generalizing H with
 | nil=>exact h H fun _ _=>rfl
 | cons r rs ih=>
   refine zJ (hr r (by simp)) ?_
   rw [List.nil_append]
   rw [List.nodup_cons] at hnd
   refine ih (fun r' hr'=>?_) hnd.2 fun H' hH'=>h H' fun n hn=>?_
   ·rw [ab _ _ (by intro e;subst e;exact hnd.1 hr')]
    exact hr r' (EH _ hr')
   ·rw [EN,not_or] at hn
    rw [hH' n hn.2,ab _ _ hn.1]
theorem ia{rl:List ResultVar}{F:Func}(hf:P.funcs[fn]? =some F)(hl:F.results.toList=rl){rs:List Nat}(hdf:dfs=rs.map .taken)(hr: ∀ r∈rs,H.at' r=some (.dfd (some [])))(hnd:rs.Nodup)
 (h: ∀ H',(∀ n,n∉rs→H'.at' n=H.at' n)→ ∃ vs,ResIs P H' T rl vs∧Q (fv vs,H',nx)):Wp P none ⟨fn,nt,T,.code .ret :: k,dfs,H,nx⟩ Q:=by
 subst hdf
 refine Au ?_
 have:=xj (P:=P) (fn:=fn) (nt:=nt) (nx:=nx) (T:=T) (k:= .code .ret :: k) (dfs:= []) (Q:=Q) hr hnd fun H' hH'=>by
  obtain⟨vs,h1,h2⟩:=h H' hH'
  exact AL (by simp only [eG,hf,hl]) h1.res h2
 simpa using this
end
end
structure Tbl where
 fo:List (Option (List Nat))
 zl:List (Option (List SV))
 un:List (Option TypeDesc)
 ag:List (Option (Option Nat))
 sz:List (Option Nat)
 ze:List (Option Value)
 pl:List (Option (List (Nat×Nat)))
structure TblOk (P:Program) (t:Tbl):Prop where
 fo: ∀ (i k:Nat) {l:List Nat} {v:Nat},t.fo[i]? =some (some l)→l[k]? =some v→kF P i k=some v
 zl: ∀ (i:Nat) {x:List SV},t.zl[i]? =some (some x)→qe P i=some x
 un: ∀ (i:Nat) {x:TypeDesc},t.un[i]? =some (some x)→P.underlying i=some x
 ag: ∀ (i:Nat) {x:Option Nat},t.ag[i]? =some (some x)→bT P i=some x
 sz: ∀ (i:Nat) {x:Nat},t.sz[i]? =some (some x)→bw P i=some x
 ze: ∀ (i:Nat) {x:Value},t.ze[i]? =some (some x)→dY P i=some x
 pl: ∀ (i:Nat) {x:List (Nat×Nat)},t.pl[i]? =some (some x)→AG P i=some x
section
variable (tb:Tbl)
def lenG(T:Tr SV)(x:Operand)(t:TypeId):Option SV:=match ar T x with
 | some (.slu _ _ n)=>match tb.un[t]? with
   | some (some (.slice _))=>some (.sc (.int .i64 n))
   | _=>none
 | some (.sc (.string s))=>match tb.un[t]? with
   | some (some .string)=>some (.sc (.int .i64 s.size))
   | _=>none
 | _=>none
def mK(T:Tr SV):Op→Option SV
 | .move x=>ar T x
 | .assign x=>ar T x
 | .pick c a b=>match ar T c with
   | some (.sc (.bool true))=>ar T a
   | some (.sc (.bool false))=>ar T b
   | _=>none
 | .extract x j=>match ar T x with
   | some (.tup xs)=>xs[j]?
   | some (.sc (.tuple xs))=>match xs[j]? with
     | some v=>some (.sc v)
     | none=>none
   | _=>none
 | .nilCheck x=>match ar T x with
   | some (.ptr b o)=>some (.ptr b o)
   | some (.ifc t v)=>some (.ifc t v)
   | some (.fn (.func f) a c)=>some (.fn (.func f) a c)
   | _=>none
 | .fieldAddr s x f=>match ar T x with
   | some (.ptr b o)=>match tb.fo[s]? with
     | some (some l)=>match l[f]? with
       | some off=>some (.ptr b (o+off))
       | none=>none
     | _=>none
   | _=>none
 | .unOp .not _ x=>match ar T x with
   | some (.sc (.bool b))=>some (.sc (.bool (!b)))
   | _=>none
 | .makeFunc f a b=>match dh T a.toList with
   | some x=>match dh T b.toList with
     | some y=>some (.fn f x y)
     | none=>none
   | none=>none
 | .makeInterface t x=>match ar T x with
   | some v=>match tb.un[t]? with
     | some (some (.interface _))=>none
     | some (some _)=>some (ud t v)
     | _=>none
   | none=>none
 | .build t ps=>match l6 T ps.toList with
   | some vs=>match tb.ze[t]? with
     | some (some z)=>match tb.pl[t]? with
       | some (some pl)=>match hJ (fun i=>pl[i]?) (z.cells.toList.map .sc) vs with
         | some cs=>some (.agg cs)
         | none=>none
       | _=>none
     | _=>none
   | none=>none
 | .call c=>match c.callee with
   | .builtin .len=>match c.args.toList with
     | [x]=>match c.argTypes.toList with
       | [t]=>lenG tb T x t
       | _=>none
     | _=>none
   | _=>none
 | _=>none
def DT:SV→Option (List SV)
 | .agg cs=>some cs
 | .sc (.int k a)=>some [.sc (.int k a)]
 | .sc (.bool b)=>some [.sc (.bool b)]
 | .sc (.string s)=>some [.sc (.string s)]
 | .ptr b o=>some [.ptr b o]
 | .slu b o n=>some [.slu b o n]
 | .sl b o n c=>some [.sl b o n c]
 | .mp b=>some [.mp b]
 | _=>none
def newG(T:Tr SV):Op→Option (TypeId×List SV)
 | .alloc t=>match tb.zl[t]? with
   | some (some cs)=>some (t,cs)
   | _=>none
 | .box t x=>match ar T x with
   | some v=>match DT v with
     | some cs=>some (t,cs)
     | none=>none
   | none=>none
 | _=>none
abbrev GoSt:=Tr SV×List AIt×aw×Nat
def goG(nt:Nat):Nat→Bool→Tr SV→List AIt→aw→Nat→Option GoSt
 | 0,p,T,k,H,nx=>bif p then some (T,k,H,nx) else none
 | n+1,p,T,k,H,nx=>match k with
   | .code .skip :: k=>goG nt n true T k H nx
   | .code (.label _) :: k=>goG nt n true T k H nx
   | .code (.seq a b) :: k=>goG nt n true T (.code a :: .code b :: k) H nx
   | .code (.block i b) :: k=>goG nt n true T (.code b :: .inBlock i :: k) H nx
   | .code (.scope b) :: k=>goG nt n true T (.code b :: .inScope b :: k) H nx
   | .code (.exit i) :: k=>match nj i k with
     | some k'=>goG nt n true T k' H nx
     | none=>bif p then some (T,.code (.exit i) :: k,H,nx) else none
   | .code (.goto i) :: k=>match nR i k with
     | some k'=>goG nt n true T k' H nx
     | none=>bif p then some (T,.code (.goto i) :: k,H,nx) else none
   | .code (.cond c a b) :: k=>match ar T c with
     | some (.sc (.bool true))=>goG nt n true T (.code a :: k) H nx
     | some (.sc (.bool false))=>goG nt n true T (.code b :: k) H nx
     | _=>bif p then some (T,.code (.cond c a b) :: k,H,nx) else none
   | .code (.region i ops false) :: k=>match ops.toList with
     | []=>goG nt n true T k H nx
     | o :: l=>goG nt n true T (.inReg ops 0 (o :: l) :: k) H nx
   | .inBlock _ :: k=>goG nt n true T k H nx
   | .inScope _ :: k=>goG nt n true T k H nx
   | .inReg _ _ [] :: k=>goG nt n true T k H nx
   | .inReg ops i (⟨some d,op,ty,pos,af,gd⟩ :: l) :: k=>match aD T ops ⟨some d,op,ty,pos,af,gd⟩with
     | some true=>bif Nat.blt d nt then match mK tb T op with
        | some v=>goG nt n true (T.set d v) (.inReg ops (i+1) l :: k) H nx
        | none=>match newG tb T op with
          | some (t,cs)=>goG nt n true (T.set d (.ptr nx 0)) (.inReg ops (i+1) l :: k) (H.set nx (am t cs)) (nx+1)
          | none=>bif p then some (T,.inReg ops i (⟨some d,op,ty,pos,af,gd⟩ :: l) :: k,H,nx) else none
       else none
     | some false=>bif Nat.blt d nt then goG nt n true (T.set d eu) (.inReg ops (i+1) l :: k) H nx else none
     | none=>bif p then some (T,.inReg ops i (⟨some d,op,ty,pos,af,gd⟩ :: l) :: k,H,nx) else none
   | k=>bif p then some (T,k,H,nx) else none
end
section
variable {P:Program} {tb:Tbl} {T:Tr SV} {H:aw}
section
variable {op:Op}{v:SV}{pos:String}{ty:TypeId}{af:Array Edge}{d:Option Tmp}{gd:Option (Nat×Bool)}
theorem B7(ht:TblOk P tb){x:Operand}{t:TypeId}(h:lenG tb T x t=some v):ReadDoes P T H ⟨d,.call {callee:= .builtin .len,args:= #[x],argTypes:= #[t]},ty,pos,af,gd⟩ v:=by
 unfold lenG at h
 split at h
 ·next hx=>
  split at h
  ·next hu=>
   cases h
   exact tG (ht.un _ hu) hx
  ·cases h
 ·next hx=>
  split at h
  ·next hu=>
   cases h
   exact wI (ht.un _ hu) hx
  ·cases h
 ·cases h
theorem iZ(ht:TblOk P tb)
 (h:mK tb T op=some v):ReadDoes P T H ⟨d,op,ty,pos,af,gd⟩ v:=by
 unfold mK at h
 split at h
 ·exact Bv h
 ·exact wM h
 ·split at h
  ·next hc=>exact zi hc h
  ·next hc=>exact zj hc h
  ·cases h
 ·split at h
  ·next hx=>exact uR hx h
  ·next hx=>
   split at h
   ·next hj=>
    cases h
    exact sA hx hj
   ·cases h
  ·cases h
 ·split at h
  ·next hx=>
   cases h
   exact sw hx
  ·next hx=>
   cases h
   exact qA hx
  ·next hx=>
   cases h
   exact qB hx
  ·cases h
 ·split at h
  ·next hx=>
   split at h
   ·next hl=>
    split at h
    ·next hk=>
     cases h
     exact qC (ht.fo _ _ hl hk) hx
    ·cases h
   ·cases h
  ·cases h
 ·split at h
  ·next hx=>
   cases h
   exact Dg hx
  ·cases h
 ·split at h
  ·next ha=>
   split at h
   ·next hb=>
    cases h
    exact sx ha hb
   ·cases h
  ·cases h
 ·split at h
  ·next hx=>
   split at h
   ·cases h
   ·next d0 hn hu=>
    cases h
    refine lX hx ?_
    unfold qZ
    rw [ht.un _ hu]
    cases d0 <;> first|rfl|exact absurd rfl (hn _)
   ·cases h
  ·cases h
 ·next t ps=>
  obtain⟨l⟩:=ps
  split at h
  ·next hx=>
   split at h
   ·next hz=>
    split at h
    ·next hl=>
     split at h
     ·next hf=>
      cases h
      exact eH hx (ht.ze _ hz) (ht.pl _ hl) hf
     ·cases h
    ·cases h
   ·cases h
  ·cases h
 ·next c=>
  obtain⟨cl,⟨ax⟩,⟨ts⟩⟩:=c
  dsimp only at h
  split at h
  ·split at h
   ·split at h
    ·exact B7 ht h
    ·cases h
   ·cases h
  ·cases h
 ·cases h
theorem tM(h:mK tb T op=some v): ∀ c,op ≠ .defer c:=by
 intro c hc
 subst hc
 cases h
theorem BV{v:TypeId×List SV}(h:newG tb T op=some v): ∀ c,op ≠ .defer c:=by
 intro c hc
 subst hc
 cases h
theorem BU(ht:TblOk P tb){t:TypeId}{cs:List SV}{nx:Nat}
 (h:newG tb T op=some (t,cs)):OpDoes P T H nx ⟨d,op,ty,pos,af,gd⟩ (.val (.ptr nx 0),H.set nx (am t cs),nx+1):=by
 unfold newG at h
 split at h
 ·split at h
  ·next hz=>
   cases h
   exact aW (ht.zl _ hz)
  ·cases h
 ·split at h
  ·next hx=>
   split at h
   ·next hb=>
    cases h
    unfold DT at hb
    split at hb <;> cases hb
    ·exact BM hx
    all_goals exact tR hx rfl
   ·cases h
  ·cases h
 ·cases h
end
variable {ro:Option Nat} {fn nt:Nat} {dfs:List ADf} {Q:Pst}
theorem AR(ht:TblOk P tb) :
 ∀ (n:Nat) {p:Bool} {T T':Tr SV} {k k':List AIt} {H H':aw} {nx nx':Nat},goG tb nt n p T k H nx=some (T',k',H',nx')→Wp P ro ⟨fn,nt,T',k',dfs,H',nx'⟩ Q→Wp P ro ⟨fn,nt,T,k,dfs,H,nx⟩ Q:=by
 have stop: ∀ {p:Bool} {T T':Tr SV} {k k':List AIt} {H H':aw} {nx nx':Nat},(bif p then some (T,k,H,nx) else none:Option GoSt)=some (T',k',H',nx')→Wp P ro ⟨fn,nt,T',k',dfs,H',nx'⟩ Q→Wp P ro ⟨fn,nt,T,k,dfs,H,nx⟩ Q:=by
  intro p T T' k k' H H' nx nx' h hw
  cases p with
  | false=>cases h
  | true=>cases h;exact hw
 intro n
 induction n with
 | zero=>exact fun h hw=>stop h hw
 | succ n ih=>
   intro p T T' k k' H H' nx nx' h hw
   unfold goG at h
   split at h
   ·exact CZ (ih h hw)
   ·exact Bg (ih h hw)
   ·exact uG (ih h hw)
   ·exact Bj (ih h hw)
   ·exact Bf (ih h hw)
   ·split at h
    ·next hx=>exact C1 hx (ih h hw)
    ·exact stop h hw
   ·split at h
    ·next hx=>exact C0 hx (ih h hw)
    ·exact stop h hw
   ·split at h
    ·next hc=>exact Bh hc (ih h hw)
    ·next hc=>exact Bi hc (ih h hw)
    ·exact stop h hw
   ·next i ops k=>
    obtain⟨l⟩:=ops
    dsimp only at h
    refine yR ?_
    split at h
    ·exact tg (ih h hw)
    ·exact ih h hw
   ·exact vX (ih h hw)
   ·exact vW (ih h hw)
   ·exact tg (ih h hw)
   ·split at h
    ·next hq=>
     cases hd:Nat.blt _ nt with
     | false=>rw [hd] at h;cases h
     | true=>
       rw [hd,cond_true] at h
       split at h
       ·next hv=>exact dZ hq (.inr (tM hv)) (iZ ht hv).does (by rw [aK hd];exact ih h hw)
       ·split at h
        ·next hv=>exact dZ hq (.inr (BV hv)) (BU ht hv) (by rw [aK hd];exact ih h hw)
        ·exact stop h hw
    ·next hq=>
     cases hd:Nat.blt _ nt with
     | false=>rw [hd] at h;cases h
     | true=>
       rw [hd,cond_true] at h
       exact y_not hq (by show Wp P ro ⟨fn,nt,k9 nt T (some _) eu,_,dfs,H,nx⟩ Q;rw [aK hd];exact ih h hw)
    ·exact stop h hw
   ·exact stop h hw
end
def hdO(nt:Nat)(ops:Array Oper)(T:Tr SV)(o:Oper):Option (Option Nat×Op):=match aD T ops o with
 | some true=>match o.dst with
   | some d=>bif Nat.blt d nt then some (some d,o.op) else none
   | none=>some (none,o.op)
 | _=>none
def hdG(nt:Nat)(T:Tr SV):List AIt→Option (Option Nat×Op×List AIt)
 | .inReg ops i (o :: l) :: k=>match hdO nt ops T o with
   | some (d,op)=>some (d,op,.inReg ops (i+1) l :: k)
   | none=>none
 | _=>none
theorem AQ{nt:Nat}{ops:Array Oper}{T:Tr SV}{o:Oper}{d:Option Nat}{op:Op}(h:hdO nt ops T o=some (d,op)):aD T ops o=some true∧o.dst=d∧o.op=op∧ ∀ x,d=some x→Nat.blt x nt=true:=by
 unfold hdO at h
 split at h
 ·next hw=>
  split at h
  ·next d0 hd=>
   cases hb:Nat.blt d0 nt with
   | false=>rw [hb] at h;cases h
   | true=>
     rw [hb] at h
     cases h
     exact⟨hw,hd,rfl,fun x hx=>by cases hx;exact hb⟩
  ·next hd=>
   cases h
   exact⟨hw,hd,rfl,fun x hx=>by cases hx⟩
 ·cases h
section
variable {P:Program} {ro:Option Nat} {fn nt nx d:Nat} {T:Tr SV} {k k':List AIt} {dfs:List ADf} {H:aw} {Q:Pst} {op:Op}
theorem xK{d:Option Nat}(h:hdG nt T k=some (d,op,k')): ∃ ops i ty pos af gd l r,k = .inReg ops i (⟨d,op,ty,pos,af,gd⟩ :: l) :: r∧k' = .inReg ops (i+1) l :: r∧aD T ops ⟨d,op,ty,pos,af,gd⟩=some true∧ ∀ x,d=some x→Nat.blt x nt=true:=by
 unfold hdG at h
 split at h
 ·next ops i o l r=>
  split at h
  ·next ho=>
   cases h
   obtain⟨h1,h2,h3,h4⟩:=AQ ho
   obtain⟨dst,op,ty,pos,af,gd⟩:=o
   cases h2
   cases h3
   exact⟨_,_,_,_,_,_,_,_,rfl,rfl,h1,h4⟩
  ·cases h
 ·cases h
theorem Cb{v:SV}(h:hdG nt T k=some (some d,op,k'))(hn:ndf op=true)(hr: ∀ {d:Option Tmp} {ty:TypeId} {pos:String} {af:Array Edge} {gd:Option (Nat×Bool)},ReadDoes P T H ⟨d,op,ty,pos,af,gd⟩ v)(hw:Wp P ro ⟨fn,nt,T.set d v,k',dfs,H,nx⟩ Q):Wp P ro ⟨fn,nt,T,k,dfs,H,nx⟩ Q:=by
 obtain⟨_,_,_,_,_,_,_,_,rfl,rfl,h1,h2⟩:=xK h
 exact bN hr h1 (h2 d rfl) hn hw
theorem DD{H':aw}{nx':Nat}(h:hdG nt T k=some (none,op,k'))(hn:ndf op=true)(hr: ∀ {d:Option Tmp} {ty:TypeId} {pos:String} {af:Array Edge} {gd:Option (Nat×Bool)},OpDoes P T H nx ⟨d,op,ty,pos,af,gd⟩ (.skip,H',nx'))(hw:Wp P ro ⟨fn,nt,T,k',dfs,H',nx'⟩ Q):Wp P ro ⟨fn,nt,T,k,dfs,H,nx⟩ Q:=by
 obtain⟨_,_,_,_,_,_,_,_,rfl,rfl,h1,_⟩:=xK h
 exact w_nn hr h1 hn hw
end
def ptrB:Option SV→Option Nat
 | some (.ptr b _)=>some b
 | _=>none
def zH(nt:Nat)(T:Tr SV)(k:List AIt):Option Nat:=match hdG nt T k with
 | some (_,.load _ x,_)=>ptrB (ar T x)
 | some (_,.store _ x _,_)=>ptrB (ar T x)
 | _=>none
def ldV(a:Option Nat)(o:Nat)(cs:List SV):Option SV:=match a with
 | none=>match cs[o]? with
   | some v=>some v
   | none=>none
 | some n=>bif Nat.beq o 0 && Nat.beq cs.length n then some (.agg cs) else none
def memG(tb:Tbl)(nt:Nat)(T:Tr SV)(H:aw)(b:Nat)(bt:TypeId)(cs:List SV)(k:List AIt):Option (Tr SV×List AIt×aw):=match hdG nt T k with
 | some (some d,.load t x,k')=>match ar T x with
   | some (.ptr _ o)=>match tb.ag[t]? with
     | some (some a)=>match ldV a o cs with
       | some v=>some (T.set d v,k',H)
       | none=>none
     | _=>none
   | _=>none
 | some (none,.store t a x,k')=>match ar T a with
   | some (.ptr _ o)=>match ar T x with
     | some v=>match DT v with
       | some vs=>match tb.sz[t]? with
         | some (some n)=>bif Nat.beq vs.length n && Nat.ble (o+n) cs.length && cq vs then some (T,k',H.set b (am bt (cs.take o ++ v.cells ++ cs.drop (o+n)))) else none
         | _=>none
       | none=>none
     | none=>none
   | _=>none
 | _=>none
theorem Cq{v:SV}{vs:List SV}(h:DT v=some vs):v.cells=vs:=by
 unfold DT at h
 split at h <;> cases h <;> rfl
theorem AF{P:Program}{tb:Tbl}(ht:TblOk P tb){T:Tr SV}{H:aw}{t x b o bt}{a:Option Nat}{cs:List SV}{v:SV}{d:Option Tmp}{ty:TypeId}{pos:String}{af:Array Edge}{gd:Option (Nat×Bool)}(ha:tb.ag[t]? =some (some a))(hx:ar T x=some (.ptr b o))(hb:H.at' b=some (am bt cs))(hv:ldV a o cs=some v) :
 ReadDoes P T H ⟨d,.load t x,ty,pos,af,gd⟩ v:=by
 unfold ldV at hv
 split at hv
 ·split at hv
  ·next hc=>cases hv;exact aI (ht.ag _ ha) hx hb (aE hc)
  ·cases hv
 ·next n=>
  cases hn:(Nat.beq o 0 && Nat.beq cs.length n)with
  | false=>rw [hn] at hv;cases hv
  | true=>
    rw [hn,cond_true] at hv
    cases hv
    have hn':=Bool.and_eq_true_iff.1 hn
    have h0:=EO hn'.1
    have hl:=EO hn'.2
    subst h0
    exact bA (ht.ag _ ha) hx hb (aH _ 0 (by rw [← hl];simp) hl)
theorem BW{P:Program}{ro:Option Nat}{fn nt:Nat}{dfs:List ADf}{Q:Pst}{tb:Tbl}(ht:TblOk P tb)
 {T T':Tr SV} {k k':List AIt} {H H':aw} {nx b bt:Nat} {cs:List SV} (h1:zH nt T k=some b) (h2:H.at' b=some (am bt cs)) (h3:memG tb nt T H b bt cs k=some (T',k',H')) (hw:Wp P ro ⟨fn,nt,T',k',dfs,H',nx⟩ Q):Wp P ro ⟨fn,nt,T,k,dfs,H,nx⟩ Q:=by
 unfold memG at h3
 split at h3
 ·next hh=>
  split at h3
  ·next hx=>
   simp only [zH,hh,hx,ptrB,D2] at h1
   subst h1
   split at h3
   ·next ha=>
    split at h3
    ·next hv=>
     cases h3
     exact Cb hh rfl (AF ht ha hx h2 hv) hw
    ·cases h3
   ·cases h3
  ·cases h3
 ·next hh=>
  split at h3
  ·next ha=>
   simp only [zH,hh,ha,ptrB,D2] at h1
   subst h1
   split at h3
   ·next hx=>
    split at h3
    ·next hb=>
     split at h3
     ·next hs=>
      cases hn:(Nat.beq _ _ && Nat.ble _ cs.length && cq _)with
      | false=>rw [hn] at h3;cases h3
      | true=>
        rw [hn,cond_true] at h3
        cases h3
        have hn':=Bool.and_eq_true_iff.1 hn
        have hn2:=Bool.and_eq_true_iff.1 hn'.1
        have e:=Cq hb
        subst e
        exact DD hh rfl (gT (ht.sz _ hs) ha hx rfl h2 (EO hn2.1) (D7 hn2.2) hn'.2) hw
     ·cases h3
    ·cases h3
   ·cases h3
  ·cases h3
 ·cases h3
def Br:IntKind→IntKind→Bool
 | .i64,.i64=>true
 | .u8,.u8=>true
 | .u16,.u16=>true
 | .u32,.u32=>true
 | .u64,.u64=>true
 | .i32,.i32=>true
 | _,_=>false
theorem zd{a b:IntKind}(h:Br a b=true):a=b:=by
 cases a <;> cases b <;> first|rfl|cases h
def DU(nt:Nat)(T:Tr SV)(k:List AIt):Option (BinOp×IntKind×Int×Int×Nat×List AIt):=match hdG nt T k with
 | some (some d,.binOp op _ x y _,k')=>match ar T x with
   | some (.sc (.int ka a))=>match ar T y with
     | some (.sc (.int kb b))=>bif Br ka kb then some (op,ka,a,b,d,k') else none
     | _=>none
   | _=>none
 | _=>none
def ariG(nt:Nat)(T:Tr SV)(k:List AIt):Option (Int×Nat×List AIt):=match DU nt T k with
 | some (.add,.i64,a,b,d,k')=>some (a+b,d,k')
 | some (.sub,.i64,a,b,d,k')=>some (a-b,d,k')
 | some (.mul,.i64,a,b,d,k')=>some (a*b,d,k')
 | _=>none
def ordG(w:Bool)(op:BinOp)(a b:Int):Option (Int×Int):=match op with
 | .lss=>bif w then some (a+1,b) else some (b,a)
 | .leq=>bif w then some (a,b) else some (b+1,a)
 | .gtr=>bif w then some (b+1,a) else some (a,b)
 | .geq=>bif w then some (b,a) else some (a+1,b)
 | _=>none
def ordW(w:Bool)(nt:Nat)(T:Tr SV)(k:List AIt):Option (Int×Int×Nat×List AIt):=match DU nt T k with
 | some (op,_,a,b,d,k')=>match ordG w op a b with
   | some (x,y)=>some (x,y,d,k')
   | none=>none
 | none=>none
def eqW(w:Bool)(nt:Nat)(T:Tr SV)(k:List AIt):Option (Int×Int×Bool×Nat×List AIt):=match DU nt T k with
 | some (.eql,_,a,b,d,k')=>some (a,b,w,d,k')
 | some (.neq,_,a,b,d,k')=>some (a,b,!w,d,k')
 | _=>none
section
variable {P:Program} {ro:Option Nat} {fn nt nx d:Nat} {T:Tr SV} {k k':List AIt} {dfs:List ADf} {H:aw} {Q:Pst}
section
variable {a b x y:Int}{c:Bool}
theorem ov{op:BinOp}{kd:IntKind}{v:SV}(h:DU nt T k=some (op,kd,a,b,d,k'))(hr: ∀ {t yt:TypeId} {x y:Operand} {d:Option Tmp} {ty:TypeId} {pos:String} {af:Array Edge} {gd:Option (Nat×Bool)},ar T x=some (.sc (.int kd a))→ar T y=some (.sc (.int kd b))→ReadDoes P T H ⟨d,.binOp op t x y yt,ty,pos,af,gd⟩ v)
 (hw:Wp P ro ⟨fn,nt,T.set d v,k',dfs,H,nx⟩ Q):Wp P ro ⟨fn,nt,T,k,dfs,H,nx⟩ Q:=by
 unfold DU at h
 split at h
 ·next hh=>
  split at h
  ·next hx=>
   split at h
   ·next hy=>
    cases hs:Br _ _ with
    | false=>rw [hs] at h;cases h
    | true=>
      rw [hs,cond_true] at h
      cases h
      have e:=zd hs
      subst e
      exact Cb hh rfl (hr hx hy) hw
   ·cases h
  ·cases h
 ·cases h
theorem aB{n:Int}(h:ariG nt T k=some (n,d,k'))(h1 : -9223372036854775808≤n)(h2:n≤9223372036854775807)(hw:Wp P ro ⟨fn,nt,T.set d (.sc (.int .i64 n)),k',dfs,H,nx⟩ Q):Wp P ro ⟨fn,nt,T,k,dfs,H,nx⟩ Q:=by
 have e:=(D3 n ⟨h1,h2⟩).symm
 unfold ariG at h
 split at h
 ·next hb=>cases h;exact ov hb (fun hx hy=>ak hx hy (.inl ⟨rfl,e⟩)) hw
 ·next hb=>cases h;exact ov hb (fun hx hy=>ak hx hy (.inr (.inl ⟨rfl,e⟩))) hw
 ·next hb=>cases h;exact ov hb (fun hx hy=>ak hx hy (.inr (.inr ⟨rfl,e⟩))) hw
 ·cases h
theorem Aw(w:Bool)(h:ordW w nt T k=some (x,y,d,k'))(hxy:x≤y)(hw:Wp P ro ⟨fn,nt,T.set d (.sc (.bool w)),k',dfs,H,nx⟩ Q):Wp P ro ⟨fn,nt,T,k,dfs,H,nx⟩ Q:=by
 unfold ordW at h
 split at h
 ·next hb=>
  split at h
  ·next hr=>
   cases h
   refine ov hb (fun hx hy=>ct (c:=w) hx hy ?_) hw
   unfold ordG at hr
   split at hr <;> cases w <;> cases hr <;> simp <;> omega
  ·cases h
 ·cases h
theorem w_cT(h:ordW true nt T k=some (x,y,d,k'))(hxy:x≤y)(hw:Wp P ro ⟨fn,nt,T.set d (.sc (.bool true)),k',dfs,H,nx⟩ Q):Wp P ro ⟨fn,nt,T,k,dfs,H,nx⟩ Q:=Aw true h hxy hw
theorem rX(h:ordW false nt T k=some (x,y,d,k'))(hxy:x≤y)(hw:Wp P ro ⟨fn,nt,T.set d (.sc (.bool false)),k',dfs,H,nx⟩ Q):Wp P ro ⟨fn,nt,T,k,dfs,H,nx⟩ Q:=Aw false h hxy hw
theorem C3(w:Bool)(h:eqW w nt T k=some (a,b,c,d,k'))(hab:(a == b)=w)(hw:Wp P ro ⟨fn,nt,T.set d (.sc (.bool c)),k',dfs,H,nx⟩ Q):Wp P ro ⟨fn,nt,T,k,dfs,H,nx⟩ Q:=by
 unfold eqW at h
 split at h
 ·next hb=>cases h;exact ov hb (fun hx hy=>ct hx hy (by simp [← hab,bne])) hw
 ·next hb=>cases h;exact ov hb (fun hx hy=>ct hx hy (by simp [← hab,bne])) hw
 ·cases h
theorem ig(h:eqW true nt T k=some (a,b,c,d,k'))(hab:a=b)(hw:Wp P ro ⟨fn,nt,T.set d (.sc (.bool c)),k',dfs,H,nx⟩ Q):Wp P ro ⟨fn,nt,T,k,dfs,H,nx⟩ Q:=C3 true h (by simp [hab]) hw
theorem tp(h:eqW false nt T k=some (a,b,c,d,k'))(hab:a≠b)(hw:Wp P ro ⟨fn,nt,T.set d (.sc (.bool c)),k',dfs,H,nx⟩ Q):Wp P ro ⟨fn,nt,T,k,dfs,H,nx⟩ Q:=C3 false h (by simp [hab]) hw
def Co(nt:Nat)(T:Tr SV)(k:List AIt):Option (FuncId×List SV×Nat×List AIt):=match hdG nt T k with
 | some (some d,.call c,k')=>match c.callee with
   | .value (.func g)=>match dh T c.args.toList with
     | some vs=>some (g,vs,d,k')
     | none=>none
   | _=>none
 | _=>none
theorem w_cm{g:FuncId}{args:List SV}(h:Co nt T k=some (g,args,d,k'))(hm:bB P g=true)(hf:Fnc P g args H nx (fun r=>Wp P ro ⟨fn,nt,T.set d r.1,k',dfs,r.2.1,r.2.2⟩ Q)):Wp P ro ⟨fn,nt,T,k,dfs,H,nx⟩ Q:=by
 unfold Co at h
 split at h
 ·next hh=>
  split at h
  ·next hcl=>
   split at h
   ·next ha=>
    cases h
    obtain⟨_,_,_,_,_,_,_,_,rfl,rfl,h1,h2⟩:=xK hh
    refine th h1 ?_ (by simp only [aK (h2 d rfl)];exact hf)
    unfold bE
    simp only [ha,hcl,ar,da,hm,cond_true,List.map_nil,List.nil_append,EM]
   ·cases h
  ·cases h
 ·cases h
theorem cH{g:FuncId}{args:List SV}{v:SV}{H':aw}{nx':Nat}(h:Co nt T k=some (g,args,d,k'))(hm:bB P g=true)(hf:Fnc P g args H nx (fun r=>r=(v,H',nx')))(hw:Wp P ro ⟨fn,nt,T.set d v,k',dfs,H',nx'⟩ Q):Wp P ro ⟨fn,nt,T,k,dfs,H,nx⟩ Q:=
 w_cm h hm (E1 hf (fun r hr=>by subst hr;exact hw))
def Df(T:Tr SV):List ResultVar→Option (List SV)
 | []=>some []
 | .tmp t :: l=>match T.at' t with
   | some v=>match Df T l with
     | some r=>some (v :: r)
     | none=>none
   | none=>none
 | _ :: _=>none
theorem sk: ∀ {l:List ResultVar} {vs:List SV},Df T l=some vs→ResIs P H T l vs
 | [],vs,h=>by cases h;exact .nil
 | .tmp t :: l,vs,h=>by
   unfold Df at h
   split at h
   ·next hv=>
    split at h
    ·next hr=>cases h;exact .tmp hv (sk hr)
    ·cases h
   ·cases h
 | .cell _ _ :: _,vs,h=>by cases h
theorem bW{F:Func}{rl:Array ResultVar}{vs:List SV}(hf:P.funcs[fn]? =some F)(hl:F.results=rl)(hv:Df T rl.toList=some vs)(h:Q (fv vs,H,nx)):Wp P none ⟨fn,nt,T,.code .ret :: k,[],H,nx⟩ Q:=bv hf (congrArg Array.toList hl) (sk hv) h
theorem wd{F:Func}{rl:Array ResultVar}{vs:List SV}(hf:P.funcs[fn]? =some F)(hl:F.results=rl)(hv:Df T rl.toList=some vs)(h:Q (fv vs,H,nx)):Wp P none ⟨fn,nt,T,[],[],H,nx⟩ Q:=jF hf (congrArg Array.toList hl) (sk hv) h
end
end
def ldW(tb:Tbl)(nt:Nat)(T:Tr SV)(k:List AIt):Option (Nat×Nat×Nat×List AIt):=match hdG nt T k with
 | some (some d,.load t x,k')=>match ar T x with
   | some (.ptr b 0)=>match tb.ag[t]? with
     | some (some (some n))=>some (b,n,d,k')
     | _=>none
   | _=>none
 | _=>none
def stW(tb:Tbl)(nt:Nat)(T:Tr SV)(k:List AIt):Option (Nat×Nat×List SV×List AIt):=match hdG nt T k with
 | some (none,.store t a x,k')=>match ar T a with
   | some (.ptr b 0)=>match ar T x with
     | some (.agg vs)=>match tb.sz[t]? with
       | some (some n)=>some (b,n,vs,k')
       | _=>none
     | _=>none
   | _=>none
 | _=>none
section
variable {P:Program} {tb:Tbl} (ht:TblOk P tb) {ro:Option Nat} {fn nt nx d b n bt:Nat} {T:Tr SV} {k k':List AIt} {dfs:List ADf} {H:aw} {Q:Pst} {cs vs:List SV}
include ht
theorem w_ldW(h:ldW tb nt T k=some (b,n,d,k'))(hb:H.at' b=some (am bt cs))(hn:cs.length=n)(hw:Wp P ro ⟨fn,nt,T.set d (.agg cs),k',dfs,H,nx⟩ Q):Wp P ro ⟨fn,nt,T,k,dfs,H,nx⟩ Q:=by
 unfold ldW at h
 split at h
 ·next hh=>
  split at h
  ·next hx=>
   split at h
   ·next ha=>
    cases h
    exact Cb hh rfl (bA (ht.ag _ ha) hx hb (aH _ 0 (by rw [← hn];simp) hn)) hw
   ·cases h
  ·cases h
 ·cases h
theorem w_stW(h:stW tb nt T k=some (b,n,vs,k'))(hb:H.at' b=some (am bt cs))(hv:vs.length=n)(hn:cs.length=n)(h1:cq vs=true)(hw:Wp P ro ⟨fn,nt,T,k',dfs,H.set b (am bt vs),nx⟩ Q):Wp P ro ⟨fn,nt,T,k,dfs,H,nx⟩ Q:=by
 unfold stW at h
 split at h
 ·next hh=>
  split at h
  ·next ha=>
   split at h
   ·next hx=>
    split at h
    ·next hs=>
     cases h
     refine DD hh rfl (gT (ht.sz _ hs) ha hx rfl hb hv (by omega) h1) ?_
     have e:cs.take 0 ++ (SV.agg vs).cells ++ cs.drop (0+n)=vs:=by
      show cs.take 0 ++ vs ++ _=vs
      rw [List.take_zero,List.nil_append,List.drop_eq_nil_of_le (by omega),EM]
     rw [e]
     exact hw
    ·cases h
   ·cases h
  ·cases h
 ·cases h
end
def opG(tb:Tbl)(nt:Nat)(ops:Array Oper)(T:Tr SV)(o:Oper):Option (Nat×SV):=match hdO nt ops T o with
 | some (some d,op)=>match mK tb T op with
   | some v=>some (d,v)
   | none=>none
 | _=>none
def ldO(tb:Tbl)(nt:Nat)(ops:Array Oper)(T:Tr SV)(o:Oper):Option (Nat×Nat×Option Nat×Nat):=match hdO nt ops T o with
 | some (some d,.load t x)=>match ar T x with
   | some (.ptr b o)=>match tb.ag[t]? with
     | some (some a)=>some (b,o,a,d)
     | _=>none
   | _=>none
 | _=>none
section
variable {P:Program} {tb:Tbl} (ht:TblOk P tb) {nt i nx stg d:Nat} {ops:Array Oper} {o:Oper} {l:List Oper} {T:Tr SV} {H:aw} {rs:List Rec} {Hs:List (aw×Nat)} {K:DS→Prop} {v:SV}
theorem DM{op:Op}(h:hdO nt ops (aT T (aV ops.toList o)) o=some (some d,op))(hn: ∀ c,op ≠ .defer c)(hr: ∀ {d:Option Tmp} {ty:TypeId} {pos:String} {af:Array Edge} {gd:Option (Nat×Bool)},ReadDoes P (aT T (aV ops.toList o)) H ⟨d,op,ty,pos,af,gd⟩ v)
 (hk:DrawK P nt ops (i+1) l ⟨T.set d v,H,nx,⟨i,o,aT T (aV ops.toList o),stg,false,true,v⟩ :: rs,Hs,stg⟩ K):DrawK P nt ops i (o :: l) ⟨T,H,nx,rs,Hs,stg⟩ K:=by
 obtain⟨h1,h2,h3,h4⟩:=AQ h
 obtain⟨dst,op',ty,pos,af,gd⟩:=o
 cases h2
 cases h3
 exact dn h1 (h4 d rfl) hn hr hk
include ht
theorem DN(h:opG tb nt ops (aT T (aV ops.toList o)) o=some (d,v))(hk:DrawK P nt ops (i+1) l ⟨T.set d v,H,nx,⟨i,o,aT T (aV ops.toList o),stg,false,true,v⟩ :: rs,Hs,stg⟩ K):DrawK P nt ops i (o :: l) ⟨T,H,nx,rs,Hs,stg⟩ K:=by
 unfold opG at h
 split at h
 ·next hh=>
  split at h
  ·next hv=>
   cases h
   exact DM hh (tM hv) (iZ ht hv) hk
  ·cases h
 ·cases h
theorem DL{b oo bt:Nat}{a:Option Nat}{cs:List SV}(h:ldO tb nt ops (aT T (aV ops.toList o)) o=some (b,oo,a,d))(hb:H.at' b=some (am bt cs))(hv:ldV a oo cs=some v)
 (hk:DrawK P nt ops (i+1) l ⟨T.set d v,H,nx,⟨i,o,aT T (aV ops.toList o),stg,false,true,v⟩ :: rs,Hs,stg⟩ K):DrawK P nt ops i (o :: l) ⟨T,H,nx,rs,Hs,stg⟩ K:=by
 unfold ldO at h
 split at h
 ·next hh=>
  split at h
  ·next hx=>
   split at h
   ·next ha=>
    cases h
    exact DM hh (fun c hc=>by cases hc) (AF ht ha hx hb hv) hk
   ·cases h
  ·cases h
 ·cases h
end
section
variable {P:Program} {tb:Tbl} {ancs chain:List Nat} {Q:List (aw×Nat)} {r:Rec} {l:List Rec}
theorem bZ(h:r.chain=true)(k:FlOk P ancs chain Q l):FlOk P ancs chain Q (r :: l):=⟨.inl (nn h),k⟩
theorem ow(h:r.wanted=false)(k:FlOk P ancs chain Q l):FlOk P ancs chain Q (r :: l):=⟨.inl (uw h),k⟩
theorem fl_pG(ht:TblOk P tb)(h:mK tb r.T r.o.op=some r.val)(k:FlOk P ancs chain Q l):FlOk P ancs chain Q (r :: l):=⟨.inr (AllH.all (fun _=>iZ ht h) _),k⟩
end
end Go.Sy
namespace Go.Proofs.YtelnglhodnoclaaGreat
open Go Go.Sy
abbrev wl:Tbl:=⟨F.foL,F.zlL,F.unL,F.agL,F.szL,F.zeL,F.plL⟩
theorem jt:TblOk Tryz.prog wl:=⟨F.fo,F.zl,F.un,F.ag,F.sz,F.ze,F.pl⟩
section
variable {ro:Option Nat} {fn nt nx nx':Nat} {T T':Tr SV} {k k':List AIt} {dfs:List ADf} {H H':aw} {Q:Pst}
theorem ae(h:goG wl nt 200 false T k H nx=some (T',k',H',nx'))(hw:Wp Tryz.prog ro ⟨fn,nt,T',k',dfs,H',nx'⟩ Q):Wp Tryz.prog ro ⟨fn,nt,T,k,dfs,H,nx⟩ Q:=AR jt 200 h hw
theorem bk(h:goG wl nt 1 false T k H nx=some (T',k',H',nx'))(hw:Wp Tryz.prog ro ⟨fn,nt,T',k',dfs,H',nx'⟩ Q):Wp Tryz.prog ro ⟨fn,nt,T,k,dfs,H,nx⟩ Q:=AR jt 1 h hw
theorem aR{b bt:Nat}{cs:List SV}(h1:zH nt T k=some b)(h2:H.at' b=some (am bt cs))(h3:memG wl nt T H b bt cs k=some (T',k',H'))(hw:Wp Tryz.prog ro ⟨fn,nt,T',k',dfs,H',nx⟩ Q):Wp Tryz.prog ro ⟨fn,nt,T,k,dfs,H,nx⟩ Q:=BW jt h1 h2 h3 hw
theorem lz{i stg d b o bt:Nat}{a:Option Nat}{cs:List SV}{ops:Array Oper}{op:Oper}{l:List Oper}{rs:List Rec}{Hs:List (aw×Nat)}{K:DS→Prop}{v:SV}
 (h:ldO wl nt ops (aT T (aV ops.toList op)) op=some (b,o,a,d)) (hb:H.at' b=some (am bt cs)) (hv:ldV a o cs=some v) (hk:DrawK Tryz.prog nt ops (i+1) l ⟨T.set d v,H,nx,⟨i,op,aT T (aV ops.toList op),stg,false,true,v⟩ :: rs,Hs,stg⟩ K):DrawK Tryz.prog nt ops i (op :: l) ⟨T,H,nx,rs,Hs,stg⟩ K:=DL jt h hb hv hk
theorem aA{i stg dd:Nat}{ops:Array Oper}{o:Oper}{l:List Oper}{rs:List Rec}{Hs:List (aw×Nat)}{K:DS→Prop}{v:SV}(h:opG wl nt ops (aT T (aV ops.toList o)) o=some (dd,v))(hk:DrawK Tryz.prog nt ops (i+1) l ⟨T.set dd v,H,nx,⟨i,o,aT T (aV ops.toList o),stg,false,true,v⟩ :: rs,Hs,stg⟩ K):DrawK Tryz.prog nt ops i (o :: l) ⟨T,H,nx,rs,Hs,stg⟩ K:=DN jt h hk
theorem bM{ancs chain:List Nat}{Q:List (aw×Nat)}{r:Rec}{l:List Rec}(h:mK wl r.T r.o.op=some r.val)(k:FlOk Tryz.prog ancs chain Q l):FlOk Tryz.prog ancs chain Q (r :: l):=fl_pG jt h k
end
end Go.Proofs.YtelnglhodnoclaaGreat
end
section
namespace Go.Sy
open Go Go.Sl Go.RowKit
abbrev Own:=aw→(Nat→Prop)→Prop
def uB(A:Own):Prop:= ∀ H H' F,A H F→(∀ n,F n→H'.at' n=H.at' n)→A H' F
section
variable {K X:Type} (P:K→X→Own)
def Big:List (K×X)→Own
 | [],_,F=> ∀ n,¬ F n
 | x :: m,H,F=> ∃ F1 F2,P x.1 x.2 H F1∧Big m H F2∧(∀ n,F1 n→ ¬ F2 n)∧ ∀ n,F n↔F1 n∨F2 n
variable {P}
theorem Big.frame(hP: ∀ k x,uB (P k x)): ∀ m,uB (Big P m)
 | [],H,H',F,h,_=>h
 | x :: m,H,H',F,⟨F1,F2,h1,h2,h3,h4⟩,hf=>⟨F1,F2,hP _ _ H H' F1 h1 fun n hn=>hf n ((h4 n).2 (.inl hn)),Big.frame hP m H H' F2 h2 fun n hn=>hf n ((h4 n).2 (.inr hn)),h3,h4⟩
theorem Big.same{m:List (K×X)}{H:aw}{F F':Nat→Prop}(h:Big P m H F)(hF: ∀ n,F' n↔F n):Big P m H F':=by
 have:F'=F:=funext fun n=>propext (hF n)
 rw [this];exact h
theorem Big.focus{k:K}{x:X}{B:List (K×X)}{H:aw}: ∀ {A:List (K×X)} {F:Nat→Prop},Big P (A ++ (k,x) :: B) H F→ ∃ F1 F2,P k x H F1∧Big P (A ++ B) H F2∧(∀ n,F1 n→ ¬ F2 n)∧ ∀ n,F n↔F1 n∨F2 n
 | [],F,h=>h
 | y :: A,F,⟨G1,G2,h1,h2,h3,h4⟩=>by
   obtain⟨F1,F2,g1,g2,g3,g4⟩:=Big.focus (A:=A) h2
   refine⟨F1,fun n=>G1 n∨F2 n,g1,⟨G1,F2,h1,g2,fun n hn h=>h3 n hn ((g4 n).2 (.inr h)),fun n=>Iff.rfl⟩,fun n hn h=>?_,fun n=>?_⟩
   ·rcases h with h|h
    ·exact h3 n h ((g4 n).2 (.inl hn))
    ·exact g3 n hn h
   ·rw [h4,g4]
    constructor
    ·rintro(h|h|h)
     ·exact .inr (.inl h)
     ·exact .inl h
     ·exact .inr (.inr h)
    ·rintro(h|h|h)
     ·exact .inr (.inl h)
     ·exact .inl h
     ·exact .inr (.inr h)
theorem Big.p9{k:K}{x:X}{B:List (K×X)}{H:aw}{F1:Nat→Prop}(h:P k x H F1): ∀ {A:List (K×X)} {F2:Nat→Prop},Big P (A ++ B) H F2→(∀ n,F1 n→ ¬ F2 n)→Big P (A ++ (k,x) :: B) H (fun n=>F1 n∨F2 n)
 | [],F2,h2,h3=>⟨F1,F2,h,h2,h3,fun n=>Iff.rfl⟩
 | y :: A,F2,⟨G1,G2,g1,g2,g3,g4⟩,h3=>by
   refine⟨G1,fun n=>F1 n∨G2 n,g1,Big.p9 (A:=A) h g2 (fun n hn h'=>h3 n hn ((g4 n).2 (.inr h'))),fun n hn h'=>?_,fun n=>?_⟩
   ·rcases h' with h'|h'
    ·exact h3 n h' ((g4 n).2 (.inl hn))
    ·exact g3 n hn h'
   ·show F1 n∨F2 n↔_
    rw [g4]
    constructor
    ·rintro(h|h|h)
     ·exact .inr (.inl h)
     ·exact .inl h
     ·exact .inr (.inr h)
    ·rintro(h|h|h)
     ·exact .inr (.inl h)
     ·exact .inl h
     ·exact .inr (.inr h)
theorem Big.nil{H:aw}:Big P [] H (fun _=>False):=fun _ h=>h
end
section
variable {K V:Type} [DecidableEq K]
abbrev kv(m:List (K×V×Nat)):List (K×V):=m.map fun x=>(x.1,x.2.1)
theorem vp{m:List (K×V×Nat)}{k:K}{v:V}(h:lN m k=some v): ∃ A B s,m=A ++ (k,v,s) :: B∧lN A k=none∧(∀ w c,pG m k w c=A ++ (k,w,s) :: B)∧nH m k=A ++ B:=by
 induction m with
 | nil=>simp [lN] at h
 | cons y m ih=>
   by_cases hy:y.1=k
   ·simp [lN,hy] at h
    obtain⟨y1,y2,y3⟩:=y
    simp at hy h
    exact⟨[],m,y3,by simp [hy,h],rfl,fun w c=>by simp [pG,hy],by simp [nH,hy]⟩
   ·have h':lN m k=some v:=by simpa [lN,hy] using h
    obtain⟨A,B,s,h1,h2,h3,h4⟩:=ih h'
    exact⟨y :: A,B,s,by rw [h1];rfl,by simpa [lN,hy] using h2,fun w c=>by simp [pG,hy,h3],by simp [nH,hy,h4]⟩
end
section
variable {P:Program} {T:Tr SV} {H:aw} {nx:Nat} {d:Option Tmp} {ty:TypeId} {pos:String} {af:Array Edge} {gd:Option (Nat×Bool)}
section
variable {t yt:TypeId}{x y:Operand}{a b:ByteArray}
theorem tH(hx:ar T x=some (.sc (.string a)))(hy:ar T y=some (.sc (.string b))):ReadDoes P T H ⟨d,.binOp .eql t x y yt,ty,pos,af,gd⟩ (.sc (.bool (a == b))):=by
 refine cY fun ev w he=>?_
 have e1:=he x _ hx _ rfl
 have e2:=he y _ hy _ rfl
 rw [beq_toListBytes]
 simp [execOp,e1,e2,eqGuard,binOp,Op.stringOp]
theorem zk(hx:ar T x=some (.sc (.string a)))(hy:ar T y=some (.sc (.string b))):ReadDoes P T H ⟨d,.binOp .neq t x y yt,ty,pos,af,gd⟩ (.sc (.bool (a != b))):=by
 refine cY fun ev w he=>?_
 have e1:=he x _ hx _ rfl
 have e2:=he y _ hy _ rfl
 rw [show(a != b) = !(a == b)from rfl,beq_toListBytes]
 simp [execOp,e1,e2,eqGuard,binOp,Op.stringOp]
theorem wK{r:Bool}(hx:ar T x=some (.sc (.string a)))(hy:ar T y=some (.sc (.string b)))(hr:(a == b)=r):ReadDoes P T H ⟨d,.binOp .eql t x y yt,ty,pos,af,gd⟩ (.sc (.bool r)):=hr ▸ tH hx hy
theorem wH{r:Bool}(hx:ar T x=some (.sc (.string a)))(hy:ar T y=some (.sc (.string b)))(hr:(a != b)=r):ReadDoes P T H ⟨d,.binOp .neq t x y yt,ty,pos,af,gd⟩ (.sc (.bool r)):=hr ▸ zk hx hy
end
end
section
variable {P:Program} {ro:Option Nat} {fn nt nx:Nat} {T:Tr SV} {k:List AIt} {dfs:List ADf} {H:aw} {Q:Pst} {ops:Array Oper} {i:Nat} {l:List Oper} {d:Option Tmp} {ty:TypeId} {pos:String} {af:Array Edge} {gd:Option (Nat×Bool)}
theorem to{t yt:TypeId}{x y:Operand}{a b:ByteArray}{r:Bool}{dd:Nat}(hw:aD T ops ⟨some dd,.binOp .eql t x y yt,ty,pos,af,gd⟩=some true)(hd:Nat.blt dd nt=true)(hx:ar T x=some (.sc (.string a)))(hy:ar T y=some (.sc (.string b)))(hr:(a == b)=r)
 (h:Wp P ro ⟨fn,nt,T.set dd (.sc (.bool r)),.inReg ops (i+1) l :: k,dfs,H,nx⟩ Q):Wp P ro ⟨fn,nt,T,.inReg ops i (⟨some dd,.binOp .eql t x y yt,ty,pos,af,gd⟩ :: l) :: k,dfs,H,nx⟩ Q:=
 dZ hw (.inr (fun _ h=>by cases h)) ((wK hx hy hr).does) (by rw [aK hd];exact h)
theorem yS{t yt:TypeId}{x y:Operand}{a b:ByteArray}{r:Bool}{dd:Nat}(hw:aD T ops ⟨some dd,.binOp .neq t x y yt,ty,pos,af,gd⟩=some true)(hd:Nat.blt dd nt=true)(hx:ar T x=some (.sc (.string a)))(hy:ar T y=some (.sc (.string b)))(hr:(a != b)=r)
 (h:Wp P ro ⟨fn,nt,T.set dd (.sc (.bool r)),.inReg ops (i+1) l :: k,dfs,H,nx⟩ Q):Wp P ro ⟨fn,nt,T,.inReg ops i (⟨some dd,.binOp .neq t x y yt,ty,pos,af,gd⟩ :: l) :: k,dfs,H,nx⟩ Q:=
 dZ hw (.inr (fun _ h=>by cases h)) ((wH hx hy hr).does) (by rw [aK hd];exact h)
end
section
variable {P:Program}
section
variable {H:aw}{v:SV}{Q:Pst}{eo fn n ne nt nx r sz:Nat}{T:Tr SV}{el:TypeId}{pos:String}{rt t tx ty:TypeId}{s x:Operand}{dfs:List ADf}{k:List AIt}{af:Array Edge}{ro:Option Nat}{vs:List Value}{gd:Option (Nat×Bool)}
theorem sE{d:Option Tmp}{m:Nat}{us ws:List Value}(hu:P.underlying t=some (.slice el))(hk:(∃ e',P.underlying tx=some (.slice e'))∨P.underlying tx=some .string)(hs:bw P el=some sz)
 (hx0:ar T s=some (.slu r eo n)) (hx:ar T x=some v) (hro:H.at' r=some (dat false ne sz rt us)) (hr:RdV P H sz v m vs) (h1:rY vs) (hm:eo+n+m≤ne) (h0:0<ne) (hvl:vs.length=m*sz) (hul:us.length=ne*sz) (hws:us.take ((eo+n)*sz) ++ vs ++ us.drop ((eo+n)*sz+m*sz)=ws) :
 OpDoes P T H nx ⟨d,.call {callee:= .builtin .append,args:= #[s,x],argTypes:= #[t,tx]},ty,pos,af,gd⟩ (.val (.slu r eo (n+m)),H.set r (dat false ne sz rt ws),nx):=by
 intro K w0 e w ev hS hE
 have e1:=hE s _ hx0
 have e2:=hE x _ hx
 simp only [SV.conc,Eb] at e1
 obtain⟨z,hz,e1⟩:=e1
 obtain⟨z2,hz2,hlz⟩:=hS.rel _ _ hro
 rw [hz] at hz2
 cases hz2
 obtain⟨g1,g2,g3,g4⟩:=Lies.row hlz
 have hnil:=g3 h0
 have hcx:(SV.sl r (eo*sz) n (z.cap-eo)).conc e=some (ev s):=by
  rw [← e1,Ent.eQ hnil,g1]
  simp [SV.conc,hz]
 have hle:(eo+n)*sz+m*sz≤ne*sz:=by rw [← Nat.add_mul];exact Nat.mul_le_mul_right _ hm
 have hap:dD P H nx el (.sl r (eo*sz) n (z.cap-eo)) v=some (.val (.sl r (eo*sz) (n+m) (z.cap-eo)),H.set r (dat false ne sz rt ws),nx):=by
  unfold dD
  rw [hs]
  cases sz with
  | zero=>omega
  | succ sz=>
    simp only
    rw [show aJ H (sz+1) v=some (m,vs.map .sc)from hr]
    simp only [iT h1,Bool.not_true,cond_false]
    rw [show Nat.ble (n+m) (z.cap-eo)=true from D9 (by omega),hro]
    simp only [cond_true]
    rw [← Nat.add_mul,iy vs us ((eo+n)*(sz+1)) (by omega) (by omega) h1,hvl,hws]
 obtain⟨e',w',r',v',f1,f2,f3,f4,f5⟩:=oD (ty:=ty) hu hk hS hap hcx e2
 cases f1
 have hz':=f2 _ _ hz
 have f4':(SV.slu r eo (n+m)).conc e'=some v':=by
  rw [← f4]
  simp only [SV.conc,hz',Et,Ent.eQ hnil,g1]
 refine⟨e',w',f2,f3,v',f4',?_⟩
 simp only [execOp,resolve,invoke,builtin,List.map_toArray,Eo,List.map_nil,Sem.run_bind,Sem.run_pure,Result.andThen,f5]
theorem uI{ops:Array Oper}{i:Nat}{l:List Oper}{m:Nat}{us ws:List Value}{dd:Nat}(hw:aD T ops ⟨some dd,.call {callee:= .builtin .append,args:= #[s,x],argTypes:= #[t,tx]},ty,pos,af,gd⟩=some true)(hd:Nat.blt dd nt=true)(hx0:ar T s=some (.slu r eo n))(hx:ar T x=some v)(hu:P.underlying t=some (.slice el))(hk:(∃ e',P.underlying tx=some (.slice e'))∨P.underlying tx=some .string)(hs:bw P el=some sz)
 (hro:H.at' r=some (dat false ne sz rt us)) (hr:RdV P H sz v m vs) (h1:rY vs) (hm:eo+n+m≤ne) (h0:0<ne) (hvl:vs.length=m*sz) (hul:us.length=ne*sz) (hws:us.take ((eo+n)*sz) ++ vs ++ us.drop ((eo+n)*sz+m*sz)=ws)
 (h:Wp P ro ⟨fn,nt,T.set dd (.slu r eo (n+m)),.inReg ops (i+1) l :: k,dfs,H.set r (dat false ne sz rt ws),nx⟩ Q):Wp P ro ⟨fn,nt,T,.inReg ops i (⟨some dd,.call {callee:= .builtin .append,args:= #[s,x],argTypes:= #[t,tx]},ty,pos,af,gd⟩ :: l) :: k,dfs,H,nx⟩ Q:=
 dZ hw (.inr (fun _ h=>by cases h)) (sE hu hk hs hx0 hx hro hr h1 hm h0 hvl hul hws) (by rw [aK hd];exact h)
theorem a9(h:(∀ b vo,H.at' b=some vo→b<nx)→Wp P ro ⟨fn,nt,T,k,dfs,H,nx⟩ Q):Wp P ro ⟨fn,nt,T,k,dfs,H,nx⟩ Q:=by
 refine⟨fun K w0 e w tmps todo ds kd rof cs hS hTr htd hds hc2=>(h fun b vo hb=>?_).run K w0 e w tmps todo ds kd rof cs hS hTr htd hds hc2⟩
 obtain⟨x,hx,_⟩:=hS.rel _ _ hb
 rcases EB b nx with hlt|hge
 ·exact hlt
 ·have h2:=hS.fresh _ hge
  rw [h2] at hx;cases hx
theorem uW{d:Option Tmp}{sz':Nat}{rr:Bool}{c:Tr SV}(hu:P.underlying t=some (.slice el))(hk:(∃ e',P.underlying tx=some (.slice e'))∨P.underlying tx=some .string)(hs:bw P el=some sz)(h0:0<sz)
 (hx0:ar T s=some (.slu r eo n)) (hx:ar T x=some v) (hro:H.at' r=some (.row rr ne sz' rt c)) (hn:eo+n≤ne) (hr:RdV P H sz v 0 vs) (h1:rY vs) :
 OpDoes P T H nx ⟨d,.call {callee:= .builtin .append,args:= #[s,x],argTypes:= #[t,tx]},ty,pos,af,gd⟩ (.val (.slu r eo n),H,nx):=by
 have hap:dD P H nx el (.slu r eo n) v=some (.val (.slu r eo n),H,nx):=by
  unfold dD
  rw [hs]
  cases sz with
  | zero=>omega
  | succ sz=>
    simp only
    rw [show aJ H (sz+1) v=some (0,vs.map .sc)from hr]
    simp only [iT h1,Bool.not_true,cond_false]
    rw [hro]
    simp only [Nat.beq_refl,cond_true,show Nat.ble (eo+n) ne=true from D9 hn]
 refine kL ?_
 rcases hk with ⟨e',hk⟩|hk <;> simp only [fZ,dh,hx0,hx,Eu,fh,gp,hu,hk,hap]
theorem wh{ops:Array Oper}{i:Nat}{l:List Oper}{sz':Nat}{rr:Bool}{c:Tr SV}{dd:Nat}(hw:aD T ops ⟨some dd,.call {callee:= .builtin .append,args:= #[s,x],argTypes:= #[t,tx]},ty,pos,af,gd⟩=some true)(hd:Nat.blt dd nt=true)(hx0:ar T s=some (.slu r eo n))(hx:ar T x=some v)(hu:P.underlying t=some (.slice el))(hk:(∃ e',P.underlying tx=some (.slice e'))∨P.underlying tx=some .string)(hs:bw P el=some sz)(h0:Nat.blt 0 sz=true)(hro:H.at' r=some (.row rr ne sz' rt c))(hn:eo+n≤ne)(hr:RdV P H sz v 0 vs)(h1:rY vs)
 (h:Wp P ro ⟨fn,nt,T.set dd (.slu r eo n),.inReg ops (i+1) l :: k,dfs,H,nx⟩ Q):Wp P ro ⟨fn,nt,T,.inReg ops i (⟨some dd,.call {callee:= .builtin .append,args:= #[s,x],argTypes:= #[t,tx]},ty,pos,af,gd⟩ :: l) :: k,dfs,H,nx⟩ Q:=
 dZ hw (.inr (fun _ h=>by cases h)) (uW hu hk hs (aN h0) hx0 hx hro hn hr h1) (by rw [aK hd];exact h)
end
end
section
variable {P:Program} {T:Tr SV} {H:aw} {nx:Nat} {d:Option Tmp} {ty:TypeId} {pos:String} {af:Array Edge} {gd:Option (Nat×Bool)}
theorem Bx{t:TypeId}{e:TypeId}{x:Operand}{b o n C:Nat}(hu:P.underlying t=some (.slice e))(hx:ar T x=some (.sl b o n C)):ReadDoes P T H ⟨d,.call {callee:= .builtin .len,args:= #[x],argTypes:= #[t]},ty,pos,af,gd⟩ (.sc (.int .i64 n)):=by
 refine fj ?_
 simp only [cS,pE,hx,Eu,AN,hu]
end
abbrev fA(ro:Bool)(ne sz:Nat)(t:TypeId)(l:List SV):VO:= .row ro ne sz t (fw l)
section
variable {ro:Bool} {ne sz:Nat} {t:TypeId} {l:List SV}
theorem kQ{i:Nat}{s:SV}(h:l[i]? =some s)(hi:i<ne*sz):(fA ro ne sz t l).cell i=some s:=by
 simp only [VO.cell]
 rw [show Nat.blt i (ne*sz)=true from D9 hi]
 exact h
theorem gu: ∀ (n o:Nat) (l':List SV),(l.drop o).take n=l'→l'.length=n→o+n≤ne*sz→(fA ro ne sz t l).cellsFrom o n=some l'
 | 0,o,l',h,_,_=>by rw [List.take_zero] at h;subst h;rfl
 | n+1,o,l',h,hn,ho=>by
   cases hd:l.drop o with
   | nil=>rw [hd] at h;subst h;simp at hn
   | cons x r=>
     have hx:l[o]? =some x:=by rw [← List.head?_drop,hd];rfl
     have hr:l.drop (o+1)=r:=by rw [← List.drop_drop,hd];rfl
     rw [hd,List.take_succ_cons] at h
     subst h
     have:=gu n (o+1) (r.take n) (by rw [hr]) (by simpa using hn) (by omega)
     have hc:=kQ (ro:=ro) (ne:=ne) (sz:=sz) (t:=t) hx (by omega)
     simp only [VO.cellsFrom,hc,this]
end
def SlOf(H:aw)(sz:Nat)(t:TypeId)(s:SV)(n:Nat)(cs:List SV):Prop:=cs.length=n*sz ∧
 ((n=0∧(s = .sc (.slice none 0 0)∨ ∃ b o c vo,s = .sl b o 0 c∧H.at' b=some vo)) ∨
  ∃ r eo ne l,(s = .slu r eo n∨ ∃ C,n≤C∧s = .sl r (eo*sz) n C)∧H.at' r=some (fA false ne sz t l)∧(l.drop (eo*sz)).take (n*sz)=cs∧eo+n≤ne∧l.length=ne*sz)
section
variable {P:Program} {T:Tr SV} {H:aw} {nx:Nat} {d:Option Tmp} {ty:TypeId} {pos:String} {af:Array Edge} {gd:Option (Nat×Bool)}
section
variable {v:SV}{b n sz:Nat}{el t tx:TypeId}{cs:List SV}{s x:Operand}
theorem SlOf.cells{s:SV}(h:SlOf H sz t s n cs):aJ H sz s=some (n,cs):=by
 obtain⟨h1,⟨rfl,h2⟩|⟨r,eo,ne,l,rfl|⟨C,_,rfl⟩,hb,hc,he,hl⟩⟩:=h
 ·rw [Nat.zero_mul] at h1
  have:=Eh h1
  subst this
  rcases h2 with rfl|⟨b,o,c,vo,rfl,hb⟩
  ·rfl
  ·simp [aJ,hb,VO.cellsFrom]
 ·simp only [aJ,hb,Nat.beq_refl,Bool.true_and]
  rw [show Nat.ble (eo+n) ne=true from D9 he]
  have:=gu (ro:=false) (ne:=ne) (sz:=sz) (t:=t) (l:=l) (n*sz) (eo*sz) cs hc h1 (by rw [← Nat.add_mul];exact Nat.mul_le_mul_right _ he)
  simp only [cond_true,this,Et]
 ·have:=gu (ro:=false) (ne:=ne) (sz:=sz) (t:=t) (l:=l) (n*sz) (eo*sz) cs hc h1 (by rw [← Nat.add_mul];exact Nat.mul_le_mul_right _ he)
  simp only [aJ,hb,this,Et]
theorem SlOf.row{ne:Nat}{l:List SV}{r:Nat}(hb:H.at' r=some (fA false ne sz t l))(hl:l.length=ne*sz):SlOf H sz t (.slu r 0 ne) ne l:=by
 refine⟨hl,.inr ⟨r,0,ne,l,.inl rfl,hb,?_,by omega,hl⟩⟩
 rw [Nat.zero_mul,List.drop_zero,←hl,List.take_length]
theorem SlOf.none:SlOf H sz t (.sc (.slice none 0 0)) 0 []:=⟨by simp,.inl ⟨rfl,.inl rfl⟩⟩
theorem wJ{e:TypeId}{y:Operand}{o C q:Nat}{k:IntKind}(hu:P.underlying t=some (.slice e))(hs:bw P e=some sz)(hx:ar T x=some (.sl b o n C))(hy:ar T y=some (.sc (.int k (q:Int))))(hi:q<n):ReadDoes P T H ⟨d,.indexAddr t x y,ty,pos,af,gd⟩ (.ptr b (o+q*sz)):=by
 refine fj ?_
 simp only [cS,zD,hx,hy,Eu,dk,hu,hs]
 rw [show Nat.blt q n=true from D9 hi]
 simp
theorem pu(hu:P.underlying t=some (.slice el))(hk:(∃ e',P.underlying tx=some (.slice e'))∨P.underlying tx=some .string)(hs:bw P el=some sz)(h0:0<sz)
 (hx0:ar T s=some (.sc (.slice none 0 0))) (hx:ar T x=some v) (hr:aJ H sz v=some (0,[])) :
 OpDoes P T H nx ⟨d,.call {callee:= .builtin .append,args:= #[s,x],argTypes:= #[t,tx]},ty,pos,af,gd⟩ (.val (.sc (.slice none 0 0)),H,nx):=by
 have hap:dD P H nx el (.sc (.slice none 0 0)) v=some (.val (.sc (.slice none 0 0)),H,nx):=by
  unfold dD
  rw [hs]
  cases sz with
  | zero=>omega
  | succ sz=>
    simp only
    rw [hr]
    rfl
 refine kL ?_
 rcases hk with ⟨e',hk⟩|hk <;> simp only [fZ,dh,hx0,hx,Eu,fh,gp,hu,hk,hap]
theorem jc{m:Nat}(hu:P.underlying t=some (.slice el))(hk:(∃ e',P.underlying tx=some (.slice e'))∨P.underlying tx=some .string)(hs:bw P el=some sz)(h0:0<sz)
 (hz:fy P el sz=true) (hb:(P.info? el).map (·.bytes)=some b) (hx0:ar T s=some (.sc (.slice none 0 0))) (hx:ar T x=some v) (hr:aJ H sz v=some (m,cs)) (h1:cq cs=true) (hm:0<m) (hm1:m*b≤140737488355328) (hm2:m≤1000000000) :
 OpDoes P T H nx ⟨d,.call {callee:= .builtin .append,args:= #[s,x],argTypes:= #[t,tx]},ty,pos,af,gd⟩ (.val (.slu nx 0 m),H.set nx (fA false m sz el cs),nx+1):=by
 have hap:dD P H nx el (.sc (.slice none 0 0)) v=some (.val (.slu nx 0 m),H.set nx (.row false m sz el (fw cs)),nx+1):=by
  unfold dD
  rw [hs]
  cases sz with
  | zero=>omega
  | succ sz=>
    simp only
    rw [hr]
    simp only [h1,Bool.not_true,cond_false,lF hb hm1 hm2,hz,Bool.and_self,cond_true]
    rw [show Nat.beq m 0=false from by cases hq:Nat.beq m 0 with|false=>rfl|true=>have:=EO hq;omega]
    rfl
 refine kL ?_
 rcases hk with ⟨e',hk⟩|hk <;> simp only [fZ,dh,hx0,hx,Eu,fh,gp,hu,hk,hap]
theorem BN{m r eo:Nat}{l ws:List SV}(hu:P.underlying t=some (.slice el))(hk:(∃ e',P.underlying tx=some (.slice e'))∨P.underlying tx=some .string)(hs:bw P el=some sz)(h0:0<sz)
 (hz:fy P el sz=true) (hb:(P.info? el).map (·.bytes)=some b) (hx0:ar T s=some (.slu r eo n)) (hx:ar T x=some v) (hro:H.at' r=some (fA false (eo+n) sz el l)) (hold:aJ H sz (.slu r eo n)=some (n,ws)) (hr:aJ H sz v=some (m,cs)) (h1:cq cs=true)
 (hm:0<m) (hm1:(n+m)*b≤140737488355328) (hm2:n+m≤1000000000) :
 OpDoes P T H nx ⟨d,.call {callee:= .builtin .append,args:= #[s,x],argTypes:= #[t,tx]},ty,pos,af,gd⟩ (.val (.slu nx 0 (n+m)),(H.del r).set nx (fA false (n+m) sz el (ws ++ cs)),nx+1):=by
 have hap:dD P H nx el (.slu r eo n) v=some (.val (.slu nx 0 (n+m)),(H.del r).set nx (.row false (n+m) sz el (fw (ws ++ cs))),nx+1):=by
  unfold dD
  rw [hs]
  cases sz with
  | zero=>omega
  | succ sz=>
    simp only
    rw [hr]
    simp only [h1,Bool.not_true,cond_false,hold]
    rw [hro]
    simp only [Nat.beq_refl,lF hb hm1 hm2,hz,Bool.not_false,Bool.and_self,cond_true]
    rw [show Nat.beq m 0=false from by cases hq:Nat.beq m 0 with|false=>rfl|true=>have:=EO hq;omega]
    rfl
 refine kL ?_
 rcases hk with ⟨e',hk⟩|hk <;> simp only [fZ,dh,hx0,hx,Eu,fh,gp,hu,hk,hap]
end
end
def nmS:SV→Option Nat
 | .slu b _ _=>some b
 | .sl b _ _ _=>some b
 | _=>none
theorem SlOf.frame{H H':aw}{sz n:Nat}{t:TypeId}{s:SV}{cs:List SV}(h:SlOf H sz t s n cs)(hf: ∀ b,nmS s=some b→H'.at' b=H.at' b):SlOf H' sz t s n cs:=by
 obtain⟨h1,⟨rfl,h2⟩|⟨r,eo,ne,l,hsl,hb,hc⟩⟩:=h
 ·refine⟨h1,.inl ⟨rfl,?_⟩⟩
  rcases h2 with rfl|⟨b,o,c,vo,rfl,hb⟩
  ·exact .inl rfl
  ·exact .inr ⟨b,o,c,vo,rfl,(hf b rfl).trans hb⟩
 ·exact⟨h1,.inr ⟨r,eo,ne,l,hsl,(hf r (by rcases hsl with rfl|⟨C,_,rfl⟩ <;> rfl)).trans hb,hc⟩⟩
section
variable {P:Program} {ro:Option Nat} {fn nt nx:Nat} {T:Tr SV} {k:List AIt} {dfs:List ADf} {H:aw} {Q:Pst} {ops:Array Oper} {i:Nat} {l:List Oper} {d:Option Tmp} {ty:TypeId} {pos:String} {af:Array Edge} {gd:Option (Nat×Bool)}
theorem gO{t tx el rt:TypeId}{sz n b:Nat}{s x:Operand}{v:SV}{cs:List SV}{dd:Nat}(hw:aD T ops ⟨some dd,.call {callee:= .builtin .append,args:= #[s,x],argTypes:= #[t,tx]},ty,pos,af,gd⟩=some true)(hd:Nat.blt dd nt=true)(hx0:ar T s=some (.sc (.slice none 0 0)))(hx:ar T x=some v)(hu:P.underlying t=some (.slice el))(hk:(∃ e',P.underlying tx=some (.slice e'))∨P.underlying tx=some .string)(hs:bw P el=some sz)(h0:Nat.blt 0 sz=true)(hz:fy P el sz=true)(hb:(P.info? el).map (·.bytes)=some b)(hf:SlOf H sz rt v n cs)(h1:cq cs=true)(hm1:n*b≤140737488355328)(hm2:n≤1000000000)
 (h: ∀ s' H' nx',(n=0∧s' = .sc (.slice none 0 0)∧H'=H∧nx'=nx)∨(0<n∧s' = .slu nx 0 n∧H'=H.set nx (fA false n sz el cs)∧nx'=nx+1)→Wp P ro ⟨fn,nt,T.set dd s',.inReg ops (i+1) l :: k,dfs,H',nx'⟩ Q) :
 Wp P ro ⟨fn,nt,T,.inReg ops i (⟨some dd,.call {callee:= .builtin .append,args:= #[s,x],argTypes:= #[t,tx]},ty,pos,af,gd⟩ :: l) :: k,dfs,H,nx⟩ Q:=by
 have hr:=hf.cells
 rcases Nat.eq_zero_or_pos n with rfl|hn
 ·have:cs= []:=Eh (by have:=hf.1;rwa [Nat.zero_mul] at this)
  subst this
  exact dZ hw (.inr (fun _ h=>by cases h)) (pu hu hk hs (aN h0) hx0 hx hr) (by rw [aK hd];exact h _ _ _ (.inl ⟨rfl,rfl,rfl,rfl⟩))
 ·exact dZ hw (.inr (fun _ h=>by cases h)) (jc hu hk hs (aN h0) hz hb hx0 hx hr h1 hn hm1 hm2) (by rw [aK hd];exact h _ _ _ (.inr ⟨hn,rfl,rfl,rfl⟩))
end
section
variable {P:Program}
section
variable {e e1 e2:Env}{ne sz:Nat}{x:Ent}{K:Zone}{rr:Bool}{w:World}{t:TypeId}{vs:List Value}
theorem mi(h1:e.le e1)(h2:e.le e2){s:SV}{v0 v:Value}(h:s.conc e=some v0)(h':s.conc e1=some v):s.conc e2=some v:=by
 have:=SV.dl h1 s v0 h
 rw [h'] at this
 cases this
 exact SV.dl h2 s _ h
theorem yh(h1:e.le e1)(h2:e.le e2){s:List SV}{v0 v:List Value}(h:SV.aC e s=some v0)(h':SV.aC e1 s=some v):SV.aC e2 s=some v:=by
 have:=SV.bR h1 s v0 h
 rw [h'] at this
 cases this
 exact SV.bR h2 s _ h
theorem uz{e e1 e2:Env}(h1:e.le e1)(h2:e.le e2): ∀ {l:List (Value×SV×Nat)} {m0 m:List MapEntry},MRel e l m0→MRel e1 l m→MRel e2 l m
 | [],[],[],_,_=>trivial
 | (_,_,_) :: _,_ :: _,_ :: _,hd0,hd=>⟨hd.1,hd.2.1,mi h1 h2 hd0.2.2.1 hd.2.2.1,uz h1 h2 hd0.2.2.2 hd.2.2.2⟩
 | [],_ :: _,_,hd,_=>hd.elim
 | [],_,_ :: _,_,hd=>hd.elim
 | _ :: _,[],_,hd,_=>by simp [MRel] at hd
 | _ :: _,_,[],_,hd=>by simp [MRel] at hd
theorem As(h1:e.le e1)(h2:e.le e2){a:ADf}{d0 d:Deferred}(hd0:DRel e a d0)(hd:DRel e1 a d):DRel e2 a d:=by
 cases a with
 | call f args=>
   obtain⟨x0,cap0,_,hl0⟩:=hd0
   obtain⟨x,cap,rfl,hl⟩:=hd
   exact⟨x,cap,rfl,yh h1 h2 hl0 hl⟩
 | taken r=>
   obtain⟨x0,hx0,_⟩:=hd0
   obtain⟨x,hx,rfl⟩:=hd
   have:=h1 _ _ hx0
   rw [hx] at this
   cases this
   exact⟨_,h2 _ _ hx0,rfl⟩
theorem rV{e e1 e2:Env}(h1:e.le e1)(h2:e.le e2): ∀ {l:List ADf} {m0 m:List Deferred},DsRel e l m0→DsRel e1 l m→DsRel e2 l m
 | [],[],[],_,_=>trivial
 | _ :: _,_ :: _,_ :: _,hd0,hd=>⟨As h1 h2 hd0.1 hd.1,rV h1 h2 hd0.2 hd.2⟩
 | [],_ :: _,_,hd,_=>hd.elim
 | [],_,_ :: _,_,hd=>hd.elim
 | _ :: _,[],_,hd,_=>hd.elim
 | _ :: _,_,[],_,hd=>hd.elim
theorem Ak(h1:e.le e1)(h2:e.le e2){nt:Nat}{T:Tr SV}{t0 t:Array Value}(hd0:TRel e nt T t0)(hd:TRel e1 nt T t):TRel e2 nt T t:=by
 refine⟨hd.1,fun i s hs=>?_⟩
 obtain⟨v0,a1,_⟩:=hd0.2 i s hs
 obtain⟨v,b1,b2⟩:=hd.2 i s hs
 exact⟨v,mi h1 h2 a1 b1,b2⟩
theorem Am(h1:e.le e1)(h2:e.le e2){vo:VO}{o0 o:Obj}(h0:ORel e vo x o0)(ho:ORel e1 vo x o):ORel e2 vo x o:=by
 cases vo with
 | cells n t c=>
   obtain⟨_,cs0,fz0,_,_,_,g4⟩:=h0
   obtain⟨q0,cs,fz,q1,q2,q3,q4⟩:=ho
   refine⟨q0,cs,fz,q1,q2,q3,fun i hi s hs=>?_⟩
   obtain⟨v0,a1,_⟩:=g4 i hi s hs
   obtain⟨v,b1,b2⟩:=q4 i hi s hs
   exact⟨v,mi h1 h2 a1 b1,b2⟩
 | row ro ne sz t c=>
   obtain⟨_,cs0,fz0,t0,_,_,_,_,_,_,g7⟩:=h0
   obtain⟨q0,cs,fz,tt,q1,q2,q3,q4,q5,q6,q7⟩:=ho
   refine⟨q0,cs,fz,tt,q1,q2,q3,q4,q5,q6,fun i hi s hs=>?_⟩
   obtain⟨v0,a1,_⟩:=g7 i hi s hs
   obtain⟨v,b1,b2⟩:=q7 i hi s hs
   exact⟨v,mi h1 h2 a1 b1,b2⟩
 | map l clock=>
   obtain⟨es0,_,g2⟩:=h0
   obtain⟨es,q1,q2⟩:=ho
   exact⟨es,q1,uz h1 h2 g2 q2⟩
 | iter m since seen stepped=>
   cases m with
   | none=>exact ho
   | some m=>
     obtain⟨_,y0,g1,_⟩:=h0
     obtain⟨q0,y,q1,q2⟩:=ho
     have:=h1 _ _ g1
     rw [q1] at this
     cases this
     exact⟨q0,_,h2 _ _ g1,q2⟩
 | siter s pos=>exact ho
 | loop st pend fn nt T params assign body dr=>
   obtain⟨tm0,y0,g1,g2,_⟩:=h0
   obtain⟨tm,y,q1,q2,q3⟩:=ho
   have:=h1 _ _ g1
   rw [q1] at this
   cases this
   exact⟨tm,_,h2 _ _ g1,Ak h1 h2 g2 q2,q3⟩
 | dfd l=>
   cases l with
   | none=>exact ho
   | some l=>
     obtain⟨ds0,_,g2⟩:=h0
     obtain⟨ds,q1,q2⟩:=ho
     exact⟨ds,q1,rV h1 h2 g2 q2⟩
theorem ml{w0:World}(h1:e.le e1)(h2:e.le e2){vo:VO}(h0:Lies K w0 e vo x)(ho:Lies K w e1 vo x):Lies K w e2 vo x:=by
 rcases ho with ⟨a0,o,a1,a2,a3⟩|a
 ·rcases h0 with ⟨_,o0,_,_,b3⟩|⟨b,_⟩
  ·exact .inl ⟨a0,o,a1,a2,Am h1 h2 b3 a3⟩
  ·rw [a0] at b;cases b
 ·exact .inr a
theorem Ao{e':Env}(h:Lies K w e (dat rr ne sz t vs) x):Lies K w e' (dat rr ne sz t vs) x:=by
 rcases h with ⟨a0,o,a1,a2,a3⟩|a
 ·obtain⟨q0,cs,fz,tt,q1,q2,q3,q4,q5,q6,q7⟩:=a3
  refine .inl ⟨a0,o,a1,a2,q0,cs,fz,tt,q1,q2,q3,q4,q5,q6,fun i hi s hs=>?_⟩
  obtain⟨v,b1,b2⟩:=q7 i hi s hs
  refine⟨v,?_,b2⟩
  simp only [Tr.at',Eb] at hs
  obtain⟨u,_,rfl⟩:=hs
  exact b1
 ·exact .inr a
theorem St.next{w0 w1:World}{H H1:aw}{nx nx1 r:Nat}(hS:St K w0 e H nx w)(hle:e.le e1)(hS1:St K w0 e1 H1 nx1 w1)(hr:H1.at' r=some (dat rr ne sz t vs))(h1:nx≤r)(hk: ∀ m,m<nx→H1.at' m=H.at' m) :
 ∃ e2,e.le e2∧St K w0 e2 (H.set nx (dat rr ne sz t vs)) (nx+1) w1∧e2 nx=e1 r:=by
 have hbelow: ∀ m x,e m=some x→m<nx:=fun m x hx=>by
  rcases EB m nx with q|q
  ·exact q
  ·rw [hS.fresh m q] at hx;cases hx
 have hle2:e.le (fun m=>if m<nx then e1 m else if m=nx then e1 r else none):=fun m x hx=>by
  have:=hbelow m x hx
  simp only [Ez this]
  exact hle m x hx
 obtain⟨xr,hxr,hlr⟩:=hS1.rel r _ hr
 have hget: ∀ m vo,(H.set nx (dat rr ne sz t vs)).at' m=some vo→(m=nx∧vo=dat rr ne sz t vs)∨(m<nx∧H.at' m=some vo):=fun m vo h=>by
  rcases bl h with ⟨q1,q2⟩|⟨q1,q2⟩
  ·exact .inl ⟨q1,q2⟩
  ·obtain⟨x,hx,_⟩:=hS.rel m vo q2
   exact .inr ⟨hbelow m x hx,q2⟩
 refine⟨fun m=>if m<nx then e1 m else if m=nx then e1 r else none,hle2,⟨hS1.below,fun m vo h=>?_,fun m m' vo vo' x x' g g' gx gx' gne gn gn' gro gro'=>?_,fun i hi=>?_⟩,?_⟩
 ·rcases hget m vo h with ⟨rfl,rfl⟩|⟨q1,q2⟩
  ·refine⟨xr,?_,Ao hlr⟩
   simp [hxr]
  ·obtain⟨x0,hx0,hl0⟩:=hS.rel m vo q2
   obtain⟨x,hx,hl⟩:=hS1.rel m vo ((hk m q1).trans q2)
   have:=hle m x0 hx0
   rw [hx] at this
   cases this
   refine⟨_,?_,ml hle hle2 hl0 hl⟩
   simp only [Ez q1]
   exact hx
 ·change (if m<nx then e1 m else if m=nx then e1 r else none)=some x at gx
  change (if m'<nx then e1 m' else if m'=nx then e1 r else none)=some x' at gx'
  rcases hget m vo g with ⟨rfl,rfl⟩|⟨q1,q2⟩
  ·rcases hget m' vo' g' with ⟨rfl,rfl⟩|⟨p1,p2⟩
   ·exact absurd rfl gne
   ·simp only [Nat.lt_irrefl,if_false,if_true] at gx
    simp only [Ez p1] at gx'
    exact hS1.inj r m' _ vo' x x' hr ((hk m' p1).trans p2) gx gx' (by omega) gn gn' gro gro'
  ·rw [Ez q1] at gx
   rcases hget m' vo' g' with ⟨rfl,rfl⟩|⟨p1,p2⟩
   ·rw [Ey (Nat.lt_irrefl _),Ez rfl] at gx'
    exact hS1.inj m r vo _ x x' ((hk m q1).trans q2) hr gx gx' (by omega) gn gn' gro gro'
   ·rw [Ez p1] at gx'
    exact hS1.inj m m' vo vo' x x' ((hk m q1).trans q2) ((hk m' p1).trans p2) gx gx' gne gn gn' gro gro'
 ·show(if i<nx then e1 i else if i=nx then e1 r else none)=none
  rw [Ey (by omega),Ey (by omega)]
 ·simp
theorem Fnc.next{f:FuncId}{args:List SV}{H:aw}{nx m:Nat}(h:Fnc P f args H nx (fun q=> ∃ r',q.1 = .slu r' 0 m∧q.2.1.at' r'=some (dat rr ne sz t vs)∧nx≤r'∧r'<q.2.2∧nx≤q.2.2∧ ∀ n,n<nx→q.2.1.at' n=H.at' n)):Fnc P f args H nx (fun q=>q=(.slu nx 0 m,H.set nx (dat rr ne sz t vs),nx+1)):=by
 have hv: ∀ {e1 e2:Env} {r:Nat} {v:Value},e2 nx=e1 r→(SV.slu r 0 m).conc e1=some v→(SV.slu nx 0 m).conc e2=some v:=fun h1 h2=>by
  simpa [SV.conc,h1] using h2
 unfold Fnc iR at h ⊢
 rcases h with ⟨h1,v,r,h2,⟨r',q1,q2,q3,q4,q5,q6⟩,h4⟩|h
 ·refine .inl ⟨h1,v,_,h2,rfl,fun K w0 e w hS=>?_⟩
  obtain⟨e',g1,g2,g3⟩:=h4 K w0 e w hS
  obtain⟨e2,k1,k2,k3⟩:=hS.next g1 g2 q2 q3 q6
  rw [q1] at g3
  exact⟨e2,k1,k2,hv k3 g3⟩
 ·refine .inr ?_
  split at h
  ·refine⟨fun K w0 e w tmps todo ds kd rof cs hS a2 a3 a4 a5=>?_⟩
   obtain⟨r,⟨r',q1,q2,q3,q4,q5,q6⟩,e',w',v,g1,g2,g3,g4⟩:=Wp.run h K w0 e w tmps todo ds kd rof cs hS a2 a3 a4 a5
   obtain⟨e2,k1,k2,k3⟩:=hS.next g1 g2 q2 q3 q6
   rw [q1] at g3
   exact⟨_,rfl,e2,w',v,k1,k2,hv k3 g3,g4⟩
  ·exact h.elim
end
end
section
variable {P:Program}
def Free(v:SV):Prop:= ∀ e e' u,v.conc e=some u→v.conc e'=some u
theorem Free.sc(v:Value):Free (.sc v):=fun _ _ _ h=>h
theorem Free.agg(vs:List Value):Free (.agg (vs.map .sc)):=fun e e' u h=>by
 rw [SV.conc,fg] at h ⊢
 exact h
theorem Free.two{a b:SV}(ha:Free a)(hb:Free b):Free (.tup [a,b]):=fun e e' u h=>by
 simp only [SV.conc,SV.aC] at h ⊢
 cases h1:a.conc e with
 | none=>rw [h1] at h;simp at h
 | some x=>
   cases h2:b.conc e with
   | none=>rw [h1,h2] at h;simp at h
   | some y=>
     rw [h1,h2] at h
     rw [ha e e' x h1,hb e e' y h2]
     exact h
theorem St.drop{K:Zone}{w0 w w1:World}{e e1:Env}{H H1:aw}{nx nx1:Nat}(hS:St K w0 e H nx w)(hle:e.le e1)(hS1:St K w0 e1 H1 nx1 w1)(hk: ∀ m,m<nx→H1.at' m=H.at' m):St K w0 e H nx w1:=by
 refine⟨hS1.below,fun m vo h=>?_,hS.inj,hS.fresh⟩
 obtain⟨x0,hx0,hl0⟩:=hS.rel m vo h
 have hm:m<nx:=by
  rcases EB m nx with q|q
  ·exact q
  ·rw [hS.fresh m q] at hx0;cases hx0
 obtain⟨x,hx,hl⟩:=hS1.rel m vo ((hk m hm).trans h)
 have:=hle m x0 hx0
 rw [hx] at this
 cases this
 exact⟨_,hx0,ml hle (E9 e) hl0 hl⟩
end
abbrev lU:=DrawK
theorem wA{P:Program}{nt:Nat}{ops:Array Oper}{l2:List Oper}: ∀ {l:List Oper} {i:Nat} {s s1 s':DS},DrawRun P (wpr P) nt ops i l s s1→DrawRun P (wpr P) nt ops (i+l.length) l2 s1 s'→DrawRun P (wpr P) nt ops i (l ++ l2) s s'
 | [],i,s,s1,s',h,h2=>by
   cases h
   exact h2
 | o :: l,i,s,s1,s',h,h2=>by
   cases h with
   | cons g1 g2=>
     refine .cons g1 (wA g2 ?_)
     rw [Ep,show i+(l.length+1)=i+1+l.length by omega] at h2
     exact h2
section
variable {P:Program} {ro:Option Nat} {fn nt nx:Nat} {T:Tr SV} {k:List AIt} {dfs:List ADf} {H:aw} {Q:Pst} {ops:Array Oper} {i:Nat} {l:List Oper} {K:DS→Prop} {s:DS}
theorem x9(h:DrawK P nt ops i l s K):lU P nt ops i l s K:=by
 exact h
theorem Ck(n:Nat)(hn:n≤l.length)(h:DrawK P nt ops i (l.take n) s (fun s1=>lU P nt ops (i+n) (l.drop n) s1 K)):lU P nt ops i l s K:=by
 obtain⟨s1,h1,h2⟩:=h.ex
 obtain⟨s',h3,h4⟩:=h2.ex
 have:=wA h1 (l2:=l.drop n) (s':=s') (by rw [EC,Nat.min_eq_left hn];exact h3)
 rw [List.take_append_drop] at this
 exact⟨⟨s',this,h4⟩⟩
theorem x8{g:FuncId}{as1:List Operand}{ats:Array TypeId}{args:List SV}{v:SV}{dd:Nat}{ty:TypeId}{pos:String}{af:Array Edge}{gd:Option (Nat×Bool)}{rs:List Rec}{Hs:List (aw×Nat)}{stg:Nat}
 (hw:aD (aT T (aV ops.toList ⟨some dd,.call {callee:= .value (.func g),args:=as1.toArray,argTypes:=ats},ty,pos,af,gd⟩)) ops ⟨some dd,.call {callee:= .value (.func g),args:=as1.toArray,argTypes:=ats},ty,pos,af,gd⟩=some true) (hd:Nat.blt dd nt=true)
 (ha:dh (aT T (aV ops.toList ⟨some dd,.call {callee:= .value (.func g),args:=as1.toArray,argTypes:=ats},ty,pos,af,gd⟩)) as1=some args) (hm:bB P g=true)
 (hr:Fnc P g args H nx (fun r=>r=(v,H,nx)))
 (h:lU P nt ops (i+1) l ⟨T.set dd v,H,nx,⟨i,⟨some dd,.call {callee:= .value (.func g),args:=as1.toArray,argTypes:=ats},ty,pos,af,gd⟩,aT T (aV ops.toList ⟨some dd,.call {callee:= .value (.func g),args:=as1.toArray,argTypes:=ats},ty,pos,af,gd⟩),stg,false,true,v⟩ :: rs,Hs,stg⟩ K) :
 lU P nt ops i (⟨some dd,.call {callee:= .value (.func g),args:=as1.toArray,argTypes:=ats},ty,pos,af,gd⟩ :: l) ⟨T,H,nx,rs,Hs,stg⟩ K:=by
 obtain⟨s',h1,h2⟩:=h.ex
 refine⟨⟨s',.cons (.inr (.inl ⟨hw,(fun c hc=>(by cases hc)),v,.inr ⟨_,sD ha hm,(fun c hc=>(by cases hc)),hr⟩,?_⟩)) h1,h2⟩⟩
 simp only [aK hd]
def AllHQ(Q:List (aw×Nat))(p:aw→Nat→Prop):Prop:=match Q with
 | []=>True
 | q :: l=>p q.1 q.2∧AllHQ l p
theorem AllHQ.get{p:aw→Nat→Prop}: ∀ {Q:List (aw×Nat)},AllHQ Q p→ ∀ {i:Nat} {H:aw} {n:Nat},Q[i]? =some (H,n)→p H n
 | [],_,i,H,n,h=>by simp at h
 | q :: l,hh,i,H,n,h=>by
   cases i with
   | zero=>simp only [Ej,D2] at h;subst h;exact hh.1
   | succ i=>exact AllHQ.get hh.2 (by simpa using h)
def FlOkQ(P:Program)(ancs chain:List Nat)(Q:List (aw×Nat)):List Rec→Prop
 | []=>True
 | r :: l=>((r.chain || !r.wanted || (Nat.beq (gW (ancs.getD r.i 0) chain) r.stg && Nat.beq (dq ancs r.i chain) r.stg))=true∨(AllH Q (fun H=>ReadDoes P r.T H r.o r.val)∨AllHQ Q (fun H n=>gv P (wpr P) r.T H n r.o (r.val,H,n))))∧FlOkQ P ancs chain Q l
theorem FlOkQ.ok{P:Program}{ancs chain:List Nat}{Q:List (aw×Nat)}: ∀ {l:List Rec},FlOkQ P ancs chain Q l→ ∀ r∈l,r.chain=false→r.wanted=true→ ∀ st,gW (ancs.getD r.i 0) chain≤st→st≤dq ancs r.i chain→st≠r.stg→ ∀ H n,Q.reverse[st]? =some (H,n)→p8 P (wpr P) r.T H n r.o r.val
 | [],_,r,hm,_,_,_,_,_,_,_,_,_=>by cases hm
 | r0 :: l,hh,r,hm,hc,hw,st,h1,h2,h3,H,n,hq=>by
   rcases EN.1 hm with rfl|hm
   ·rcases hh.1 with h|h
    ·rw [hc,hw] at h
     simp only [Bool.not_true,Bool.or_false,Bool.false_or,Ek] at h
     have q1:=ba h.1
     have q2:=ba h.2
     omega
    ·have hlt:=(D6.1 hq).1
     rw [List.getElem?_reverse (by simpa using hlt)] at hq
     rcases h with h|h
     ·exact .inl (h.get hq)
     ·exact .inr (h.get hq)
   ·exact FlOkQ.ok hh.2 r hm hc hw st h1 h2 h3 H n hq
end
theorem kJ{P:Program}{T:Tr SV}{H H2:aw}{nx n2:Nat}{g:FuncId}{as1:List Operand}{ats:Array TypeId}{args:List SV}{v:SV}{dd:Option Nat}{ty:TypeId}{pos:String}{af:Array Edge}{gd:Option (Nat×Bool)}(ha:dh T as1=some args)(hm:bB P g=true)
 (hr:Fnc P g args H nx (fun r=>r=(v,H2,n2))):gv P (wpr P) T H nx ⟨dd,.call {callee:= .value (.func g),args:=as1.toArray,argTypes:=ats},ty,pos,af,gd⟩ (v,H2,n2):=
 ⟨_,sD ha hm,(fun c hc=>(by cases hc)),hr⟩
theorem Dc{H:aw}{r n sz:Nat}{t:TypeId}{l:List SV}(hb:H.at' r=some (fA false n sz t l))(hl:l.length=n*sz):aJ H sz (.slu r 0 n)=some (n,l):=(SlOf.row hb hl).cells
section
variable {P:Program} {nt nx:Nat} {T:Tr SV} {H:aw} {ops:Array Oper} {i:Nat} {l:List Oper} {ty:TypeId} {pos:String} {af:Array Edge} {gd:Option (Nat×Bool)} {rs:List Rec} {Hs:List (aw×Nat)} {stg:Nat} {K:DS→Prop} {op:Op} {dd:Nat}
theorem DK{v:SV}(hw:aD (aT T (aV ops.toList ⟨some dd,op,ty,pos,af,gd⟩)) ops ⟨some dd,op,ty,pos,af,gd⟩=some true)(hd:Nat.blt dd nt=true)(hnd: ∀ c,op ≠ .defer c)
 (hr:OpDoes P (aT T (aV ops.toList ⟨some dd,op,ty,pos,af,gd⟩)) H nx ⟨some dd,op,ty,pos,af,gd⟩ (.val v,H,nx))
 (h:lU P nt ops (i+1) l ⟨T.set dd v,H,nx,⟨i,⟨some dd,op,ty,pos,af,gd⟩,aT T (aV ops.toList ⟨some dd,op,ty,pos,af,gd⟩),stg,false,true,v⟩ :: rs,Hs,stg⟩ K) :
 lU P nt ops i (⟨some dd,op,ty,pos,af,gd⟩ :: l) ⟨T,H,nx,rs,Hs,stg⟩ K:=by
 obtain⟨s',h1,h2⟩:=h.ex
 refine⟨⟨s',.cons (.inr (.inl ⟨hw,hnd,v,.inr ⟨_,hr,hnd,rfl⟩,?_⟩)) h1,h2⟩⟩
 simp only [aK hd]
theorem jU{v:SV}{d:Option Nat}{H2:aw}{n2:Nat}(hnd: ∀ c,op ≠ .defer c)(hr:OpDoes P T H nx ⟨d,op,ty,pos,af,gd⟩ (.val v,H2,n2)):gv P (wpr P) T H nx ⟨d,op,ty,pos,af,gd⟩ (v,H2,n2):=⟨_,hr,hnd,rfl⟩
end
theorem BO{P:Program}{T:Tr SV}{H:aw}{nx:Nat}{d:Option Tmp}{ty:TypeId}{pos:String}{af:Array Edge}{gd:Option (Nat×Bool)}{t tx el:TypeId}{sz m b r n:Nat}{s x:Operand}{v:SV}{ws cs:List SV}(hu:P.underlying t=some (.slice el))(hk:(∃ e',P.underlying tx=some (.slice e'))∨P.underlying tx=some .string)(hs:bw P el=some sz)(h0:0<sz)
 (hz:fy P el sz=true) (hb:(P.info? el).map (·.bytes)=some b) (hx0:ar T s=some (.slu r 0 n)) (hx:ar T x=some v) (hro:H.at' r=some (fA false n sz el ws)) (hl:ws.length=n*sz) (hr:aJ H sz v=some (m,cs)) (h1:cq cs=true)
 (hm:0<m) (hm1:(n+m)*b≤140737488355328) (hm2:n+m≤1000000000) :
 OpDoes P T H nx ⟨d,.call {callee:= .builtin .append,args:= #[s,x],argTypes:= #[t,tx]},ty,pos,af,gd⟩ (.val (.slu nx 0 (n+m)),(H.del r).set nx (fA false (n+m) sz el (ws ++ cs)),nx+1):=
 BN (eo:=0) hu hk hs h0 hz hb hx0 hx (by rw [EA];exact hro) ((SlOf.row hro hl).cells) hr h1 hm hm1 hm2
def FlOkD(P:Program)(ancs chain:List Nat)(Q:List (aw×Nat)):List Rec→Prop
 | []=>True
 | r :: l=>((r.chain || !r.wanted || (Nat.beq (gW (ancs.getD r.i 0) chain) r.stg && Nat.beq (dq ancs r.i chain) r.stg))=true∨ ∃ d,Nat.ble (dq ancs r.i chain+(d+1)) Q.length=true∧(AllH (Q.drop d) (fun H=>ReadDoes P r.T H r.o r.val)∨AllHQ (Q.drop d) (fun H n=>gv P (wpr P) r.T H n r.o (r.val,H,n))))∧FlOkD P ancs chain Q l
theorem FlOkD.ok{P:Program}{ancs chain:List Nat}{Q:List (aw×Nat)}: ∀ {l:List Rec},FlOkD P ancs chain Q l→ ∀ r∈l,r.chain=false→r.wanted=true→ ∀ st,gW (ancs.getD r.i 0) chain≤st→st≤dq ancs r.i chain→st≠r.stg→ ∀ H n,Q.reverse[st]? =some (H,n)→p8 P (wpr P) r.T H n r.o r.val
 | [],_,r,hm,_,_,_,_,_,_,_,_,_=>by cases hm
 | r0 :: l,hh,r,hm,hc,hw,st,h1,h2,h3,H,n,hq=>by
   rcases EN.1 hm with rfl|hm
   ·rcases hh.1 with h|⟨d,hd,h⟩
    ·rw [hc,hw] at h
     simp only [Bool.not_true,Bool.or_false,Bool.false_or,Ek] at h
     have q1:=ba h.1
     have q2:=ba h.2
     omega
    ·have hlt:=(D6.1 hq).1
     rw [List.length_reverse] at hlt
     have hd':=D7 hd
     rw [List.getElem?_reverse hlt] at hq
     have hq':(Q.drop d)[Q.length-1-st-d]? =some (H,n):=by
      rw [List.getElem?_drop,show d+(Q.length-1-st-d)=Q.length-1-st by omega]
      exact hq
     rcases h with h|h
     ·exact .inl (h.get hq')
     ·exact .inr (h.get hq')
   ·exact FlOkD.ok hh.2 r hm hc hw st h1 h2 h3 H n hq
def FlOkE(P:Program)(ancs chain:List Nat)(Q:List (aw×Nat)):List Rec→Prop
 | []=>True
 | r :: l=>((r.chain || !r.wanted || (Nat.beq (gW (ancs.getD r.i 0) chain) r.stg && Nat.beq (dq ancs r.i chain) r.stg))=true∨ ∃ d,Nat.ble (dq ancs r.i chain+(d+1)) Q.length=true∧AllH (Q.drop d) (fun H=>ReadDoes P r.T H r.o r.val))∧FlOkE P ancs chain Q l
theorem FlOkE.ok{P:Program}{ancs chain:List Nat}{Q:List (aw×Nat)}: ∀ {l:List Rec},FlOkE P ancs chain Q l→ ∀ r∈l,r.chain=false→r.wanted=true→ ∀ st,gW (ancs.getD r.i 0) chain≤st→st≤dq ancs r.i chain→st≠r.stg→ ∀ H n,Q.reverse[st]? =some (H,n)→ReadDoes P r.T H r.o r.val
 | [],_,r,hm,_,_,_,_,_,_,_,_,_=>by cases hm
 | r0 :: l,hh,r,hm,hc,hw,st,h1,h2,h3,H,n,hq=>by
   rcases EN.1 hm with rfl|hm
   ·rcases hh.1 with h|⟨d,hd,h⟩
    ·rw [hc,hw] at h
     simp only [Bool.not_true,Bool.or_false,Bool.false_or,Ek] at h
     have q1:=ba h.1
     have q2:=ba h.2
     omega
    ·have hlt:=(D6.1 hq).1
     rw [List.length_reverse] at hlt
     have hd':=D7 hd
     rw [List.getElem?_reverse hlt] at hq
     have hq':(Q.drop d)[Q.length-1-st-d]? =some (H,n):=by
      rw [List.getElem?_drop,show d+(Q.length-1-st-d)=Q.length-1-st by omega]
      exact hq
     exact h.get hq'
   ·exact FlOkE.ok hh.2 r hm hc hw st h1 h2 h3 H n hq
section
variable {P:Program} {ro:Option Nat} {fn nt nx:Nat} {T:Tr SV} {k:List AIt} {dfs:List ADf} {H:aw} {Q:Pst}
theorem cR{id:Nat}{ops:List Oper}(hm:P.follows .mixedOrders=true)(hr:gf nt ops=true)
 (h:DrawK P nt ops.toArray 0 ops ⟨T,H,nx,[],[(H,nx)],0⟩ (fun s=>jW (er [] ops) (eP s)=true∧FlOkE P (er [] ops) (eP s) s.Hs s.recs∧Wp P ro ⟨fn,nt,s.T,k,dfs,s.H,s.nx⟩ Q)) :
 Wp P ro ⟨fn,nt,T,.code (.region id ops.toArray true) :: k,dfs,H,nx⟩ Q:=by
 obtain⟨s,hs,h1,h2,h3⟩:=h.ex
 exact .step ⟨hm,s,⟨hr,hs,h1,fun r hr a b st c d e H n f=> .inl (FlOkE.ok h2 r hr a b st c d e H n f)⟩,h3⟩
end
section
variable {P:Program} {tb:Tbl} {ancs chain:List Nat} {Q:List (aw×Nat)} {r:Rec} {l:List Rec}
theorem mh(h:r.chain=true)(k:FlOkE P ancs chain Q l):FlOkE P ancs chain Q (r :: l):=⟨.inl (nn h),k⟩
theorem Ch(h:r.wanted=false)(k:FlOkE P ancs chain Q l):FlOkE P ancs chain Q (r :: l):=⟨.inl (uw h),k⟩
theorem xS(h:(r.chain || !r.wanted || (Nat.beq (gW (ancs.getD r.i 0) chain) r.stg && Nat.beq (dq ancs r.i chain) r.stg))=true)(k:FlOkE P ancs chain Q l):FlOkE P ancs chain Q (r :: l):=⟨.inl h,k⟩
theorem fe_pG(ht:TblOk P tb)(h:mK tb r.T r.o.op=some r.val)(hb:Nat.ble (dq ancs r.i chain+(0+1)) Q.length=true)(k:FlOkE P ancs chain Q l):FlOkE P ancs chain Q (r :: l):=⟨.inr ⟨0,hb,AllH.all (fun _=>iZ ht h) _⟩,k⟩
theorem jC(d:Nat)(_hq:Nat.blt d Q.length=true)(hb:Nat.ble (dq ancs r.i chain+(d+1)) Q.length=true)(h:AllH (Q.drop d) (fun H=>ReadDoes P r.T H r.o r.val))(k:FlOkE P ancs chain Q l):FlOkE P ancs chain Q (r :: l):=⟨.inr ⟨d,hb,h⟩,k⟩
end
end Go.Sy
namespace Go.Proofs.YtelnglhodnoclaaGreat
open Go Go.Sy
section
variable {ancs chain:List Nat} {Q:List (aw×Nat)} {r:Rec} {l:List Rec}
theorem l5(h:mK wl r.T r.o.op=some r.val)(hb:Nat.ble (dq ancs r.i chain+(0+1)) Q.length=true)(k:FlOkE Tryz.prog ancs chain Q l):FlOkE Tryz.prog ancs chain Q (r :: l):=fe_pG jt h hb k
end
end Go.Proofs.YtelnglhodnoclaaGreat
end
section
namespace Go.Sy
open Go Go.Sl Go.RowKit
section
variable {K V:Type} [DecidableEq K]
theorem vn{m:List (K×V×Nat)}{k:K}(hg:lN m k=none)(v:V)(c:Nat):pG m k v c=m ++ [(k,v,c)]:=by
 have hk:=kidx m k
 cases hi:m.findIdx? fun x=>decide (x.1=k)with
 | none=>rw [hi] at hk;exact hk.2.2 v c
 | some i=>
   rw [hi] at hk
   obtain⟨x,_,_,h3,_⟩:=hk
   rw [hg] at h3;cases h3
theorem t8{m:List (K×V×Nat)}{k:K}{v:V}(h:lN m k=some v): ∃ A B,kv m=A ++ (k,v) :: B∧kv (nH m k)=A ++ B∧ ∀ w c,kv (pG m k w c)=A ++ (k,w) :: B:=by
 obtain⟨A,B,s,h1,_,h3,h4⟩:=vp h
 refine⟨kv A,kv B,?_,?_,fun w c=>?_⟩
 ·rw [h1];simp [kv]
 ·rw [h4];simp [kv]
 ·rw [h3];simp [kv]
variable {P:K→V→Own}
section
variable {k:K}{H:aw}{m:List (K×V×Nat)}
theorem Big.get{F:Nat→Prop}(hb:Big P (kv m) H F){v:V}(hg:lN m k=some v) :
 ∃ F1 G,P k v H F1∧Big P (kv (nH m k)) H G∧(∀ n,F1 n→ ¬ G n)∧ ∀ n,F n↔F1 n∨G n:=by
 obtain⟨A,B,h1,h2,_⟩:=t8 hg
 rw [h1] at hb
 rw [h2]
 exact Big.focus hb
theorem Big.put(hP: ∀ k x,uB (P k x)){H':aw}{G F1:Nat→Prop}{v w:V}(hg:lN m k=some v)(c:Nat)(hG:Big P (kv (nH m k)) H G)(e:P k w H' F1)(fr: ∀ n,G n→H'.at' n=H.at' n)(hd: ∀ n,F1 n→ ¬ G n) :
 Big P (kv (pG m k w c)) H' (fun n=>F1 n∨G n):=by
 obtain⟨A,B,_,h2,h3⟩:=t8 hg
 rw [h2] at hG
 rw [h3]
 exact Big.p9 e (Big.frame hP _ _ _ _ hG fr) hd
theorem Big.add(hP: ∀ k x,uB (P k x)){H':aw}{F F1:Nat→Prop}{w:V}(hg:lN m k=none)(c:Nat)(hb:Big P (kv m) H F)(e:P k w H' F1)(fr: ∀ n,F n→H'.at' n=H.at' n)(hd: ∀ n,F1 n→ ¬ F n) :
 Big P (kv (pG m k w c)) H' (fun n=>F1 n∨F n):=by
 rw [vn hg]
 have h0:=Big.frame hP _ _ _ _ hb fr
 simp only [kv,Es,Eo,List.map_nil]
 exact Big.p9 (A:=kv m) (B:= []) e (by rw [EM];exact h0) hd
end
omit [DecidableEq K] in
theorem Big.lt(hP: ∀ k x H F z,P k x H F→F z→ ∃ vo,H.at' z=some vo){H:aw}{z:Nat}: ∀ {m:List (K×V)} {F:Nat→Prop},Big P m H F→F z→ ∃ vo,H.at' z=some vo
 | [],_,h,hz=>(h z hz).elim
 | x :: m,_,⟨G1,G2,h1,h2,_,h4⟩,hz=>by
   rcases(h4 z).1 hz with hz|hz
   ·exact hP _ _ _ _ _ h1 hz
   ·exact Big.lt hP h2 hz
end
theorem im{P:Program}{ro:Option Nat}{fn nt nx:Nat}{T:Tr SV}{k:List AIt}{dfs:List ADf}{H:aw}{Q:Pst}{R:aw→Nat→Prop}(h:R H nx)(h2: ∀ H' nx',R H' nx'→Wp P ro ⟨fn,nt,T,k,dfs,H',nx'⟩ Q):Wp P ro ⟨fn,nt,T,k,dfs,H,nx⟩ Q:=h2 _ _ h
def Stp(F F':Nat→Prop)(H:aw)(nx:Nat)(H':aw)(nx':Nat):Prop:=nx≤nx'∧(∀ n,F' n→F n∨nx≤n)∧ ∀ n,n<nx→ ¬ F n→H'.at' n=H.at' n
theorem Stp.refl{F:Nat→Prop}{H:aw}{nx:Nat}:Stp F F H nx H nx:=⟨Em _,fun _ h=> .inl h,fun _ _ _=>rfl⟩
theorem Stp.trans{F F' F'':Nat→Prop}{H H' H'':aw}{nx nx' nx'':Nat}(h:Stp F F' H nx H' nx')(g:Stp F' F'' H' nx' H'' nx''):Stp F F'' H nx H'' nx'':=by
 refine⟨Ev h.1 g.1,fun n hn=>?_,fun n hn hf=>?_⟩
 ·rcases g.2.1 n hn with h1|h1
  ·exact h.2.1 n h1
  ·exact .inr (Ev h.1 h1)
 ·refine(g.2.2 n (Nat.lt_of_lt_of_le hn h.1) fun hf'=>?_).trans (h.2.2 n hn hf)
  rcases h.2.1 n hf' with h1|h1
  ·exact hf h1
  ·omega
def bLt(a b:ByteArray):Bool:=decide (a.data.toList<b.data.toList)
theorem lP: ∀ (x y:List UInt8),Op.bytesLess x y=decide (x<y)
 | [],[]=>by simp [Op.bytesLess]
 | _ :: _,[]=>by simp [Op.bytesLess]
 | [],_ :: _=>by simp [Op.bytesLess]
 | a :: x,b :: y=>by
   rw [Op.bytesLess,lP x y]
   by_cases h:a<b
   ·simp [h,List.cons_lt_cons_iff]
   ·by_cases h2:a=b
    ·subst h2
     simp [List.cons_lt_cons_iff]
    ·simp [h,h2,List.cons_lt_cons_iff]
theorem yu(a b:ByteArray):Op.bytesLess a.toList b.toList=bLt a b:=by
 rw [lP,ByteArray.toList_eq,ByteArray.toList_eq]
 rfl
theorem fN(a:ByteArray):bLt a a=false:=by
 unfold bLt
 exact ES (List.lt_irrefl _)
theorem rO{a b c:ByteArray}(h:bLt a b=true)(g:bLt b c=true):bLt a c=true:=by
 unfold bLt at *
 rw [EZ] at *
 exact List.lt_trans h g
theorem uy{a b:ByteArray}(h:bLt a b=false)(g:bLt b a=false):a=b:=by
 unfold bLt at *
 rw [decide_eq_false_iff_not,List.not_lt] at *
 have:=List.le_antisymm g h
 cases a;cases b
 simp only at this
 congr 1
 exact Array.toList_inj.1 this
theorem rN(a b:ByteArray):(a.toList == b.toList)=decide (a=b):=by
 rw [← beq_toListBytes]
 by_cases h:a=b
 ·rw [ER h];exact(MapKept.bytes_beq a b).2 h
 ·rw [ES h]
  cases e:a == b with
  | false=>rfl
  | true=>exact absurd ((MapKept.bytes_beq a b).1 e) h
section
variable {P:Program} {T:Tr SV} {H:aw} {d:Option Tmp} {ty:TypeId} {pos:String} {af:Array Edge} {gd:Option (Nat×Bool)}
theorem zm{t yt:TypeId}{x y:Operand}{a b:ByteArray}{r:Bool}(hx:ar T x=some (.sc (.string a)))(hy:ar T y=some (.sc (.string b)))(hr:bLt a b=r):ReadDoes P T H ⟨d,.binOp .lss t x y yt,ty,pos,af,gd⟩ (.sc (.bool r)):=by
 subst hr
 refine cY fun ev w he=>?_
 have e1:=he x _ hx _ rfl
 have e2:=he y _ hy _ rfl
 rw [← yu]
 simp [execOp,e1,e2,eqGuard,binOp,Op.stringOp]
theorem Bw{t u:TypeId}{x y:Operand}{kd:IntKind}{a b c:Int}(hx:ar T x=some (.sc (.int kd a)))(hy:ar T y=some (.sc (.int kd b)))(hc:max a b=c):ReadDoes P T H ⟨d,.call {callee:= .builtin .max,args:= #[x,y],argTypes:= #[t,u]},ty,pos,af,gd⟩ (.sc (.int kd c)):=by
 subst hc
 refine cY fun ev w he=>?_
 have e1:=he x _ hx _ rfl
 have e2:=he y _ hy _ rfl
 have e3:(if a<b then b else a)=max a b:=by omega
 simp [execOp,resolve,invoke,builtin,e1,e2,Builtin.max_,Builtin.max2,e3]
end
abbrev u8L(s:ByteArray):List Value:=s.data.toList.map fun c=> .int .u8 (c.toNat:Int)
section
variable {P:Program} {T:Tr SV} {H:aw} {d:Option Tmp} {ty:TypeId} {pos:String} {af:Array Edge} {gd:Option (Nat×Bool)}
theorem bX{t e:TypeId}{x:Operand}{a:Option Addr}{n c:Nat}(hu:P.underlying t=some (.slice e))(hx:ar T x=some (.sc (.slice a n c))):ReadDoes P T H ⟨d,.call {callee:= .builtin .len,args:= #[x],argTypes:= #[t]},ty,pos,af,gd⟩ (.sc (.int .i64 n)):=by
 refine cY fun ev w he=>?_
 have e1:=he x _ hx _ rfl
 simp [execOp,resolve,invoke,builtin,e1,Builtin.len_,run_underlying hu,goInt]
end
section
variable {P:Program} {T:Tr SV} {H:aw} {d:Option Tmp} {ty:TypeId} {pos:String} {af:Array Edge} {gd:Option (Nat×Bool)}
theorem wL{t:TypeId}{v:SV}(h:lR P t []=some v):ReadDoes P T H ⟨d,.build t #[],ty,pos,af,gd⟩ v:=by
 refine fj ?_
 simp only [cS,l6,Eu,h]
end
section
variable {P:Program} {ro:Option Nat} {fn nt nx:Nat} {T:Tr SV} {k:List AIt} {dfs:List ADf} {H:aw} {Q:Pst} {ops:Array Oper} {i:Nat} {l:List Oper} {d:Option Tmp} {ty:TypeId} {pos:String} {af:Array Edge} {gd:Option (Nat×Bool)}
theorem oT{t yt:TypeId}{x y:Operand}{a b:ByteArray}{r:Bool}{dd:Nat}(hw:aD T ops ⟨some dd,.binOp .lss t x y yt,ty,pos,af,gd⟩=some true)(hd:Nat.blt dd nt=true)(hx:ar T x=some (.sc (.string a)))(hy:ar T y=some (.sc (.string b)))(hr:bLt a b=r)
 (h:Wp P ro ⟨fn,nt,T.set dd (.sc (.bool r)),.inReg ops (i+1) l :: k,dfs,H,nx⟩ Q):Wp P ro ⟨fn,nt,T,.inReg ops i (⟨some dd,.binOp .lss t x y yt,ty,pos,af,gd⟩ :: l) :: k,dfs,H,nx⟩ Q:=
 dZ hw (.inr (fun _ h=>by cases h)) ((zm hx hy hr).does) (by rw [aK hd];exact h)
theorem Ax{t u:TypeId}{x y:Operand}{kd:IntKind}{a b c:Int}{dd:Nat}(hw:aD T ops ⟨some dd,.call {callee:= .builtin .max,args:= #[x,y],argTypes:= #[t,u]},ty,pos,af,gd⟩=some true)(hd:Nat.blt dd nt=true)(hx:ar T x=some (.sc (.int kd a)))(hy:ar T y=some (.sc (.int kd b)))(hc:max a b=c)
 (h:Wp P ro ⟨fn,nt,T.set dd (.sc (.int kd c)),.inReg ops (i+1) l :: k,dfs,H,nx⟩ Q):Wp P ro ⟨fn,nt,T,.inReg ops i (⟨some dd,.call {callee:= .builtin .max,args:= #[x,y],argTypes:= #[t,u]},ty,pos,af,gd⟩ :: l) :: k,dfs,H,nx⟩ Q:=
 dZ hw (.inr (fun _ h=>by cases h)) ((Bw hx hy hc).does) (by rw [aK hd];exact h)
theorem cv{t:TypeId}{v:SV}{dd:Nat}(hw:aD T ops ⟨some dd,.build t #[],ty,pos,af,gd⟩=some true)(hd:Nat.blt dd nt=true)(h0:lR P t []=some v)
 (h:Wp P ro ⟨fn,nt,T.set dd v,.inReg ops (i+1) l :: k,dfs,H,nx⟩ Q):Wp P ro ⟨fn,nt,T,.inReg ops i (⟨some dd,.build t #[],ty,pos,af,gd⟩ :: l) :: k,dfs,H,nx⟩ Q:=
 dZ hw (.inr (fun _ h=>by cases h)) ((wL h0).does) (by rw [aK hd];exact h)
end
section
variable {P:Program} {T:Tr SV} {H:aw} {nx:Nat} {d:Option Tmp} {ty:TypeId} {pos:String} {af:Array Edge} {gd:Option (Nat×Bool)}
theorem sC{s t el:TypeId}{x:Operand}{b:ByteArray}(hs:P.underlying s=some .string)(ht:P.underlying t=some (.slice el))(he:P.underlying el=some (.int .u8))(hx:ar T x=some (.sc (.string b)))(hb:b.size≤140737488355328) :
 OpDoes P T H nx ⟨d,.convert s t x,ty,pos,af,gd⟩ (.val (.slu nx 0 b.size),H.set nx (dat false b.size 1 el (u8L b)),nx+1):=by
 have e0:fw (b.data.toList.map fun c=>SV.sc (.int .u8 (c.toNat:Int)))=fun i=>((u8L b)[i]?).map SV.sc:=by
  funext i
  simp [fw,u8L,Function.comp_def]
 intro K w0 e w ev hS hE
 have e1:=hE x _ hx
 simp only [SV.conc,D2] at e1
 have hrun:=run_bytes_of_string w s t el b hs ht he
 have hge:=grownCap_ge w b.size 0 el
 have hle:=grownCap_le_maxLen w b.size 0 el (by unfold maxLen;omega)
 generalize grownCap w b.size 0 el=gc at hrun hge hle
 have hf:=hS.fresh nx (Em _)
 have hsz:(bytesRow b gc).size=gc:=by
  have:b.data.size=b.size:=rfl
  simp [bytesRow];omega
 rw [hsz] at hrun
 refine⟨e.put nx ⟨w.heap.size,0,gc,1,false⟩,(w.drew.alloc (Obj.cells (bytesRow b gc) el (gc,gc+1))),Env.dE hf,?_,.slice (some ⟨w.heap.size,0,none⟩) b.size gc,by simp [SV.conc,Env.bL,Ent.at],by simp only [execOp,←e1];simp [hrun]⟩
 refine(hS.drew').new (x:=⟨w.heap.size,0,gc,1,false⟩) (o:= .cells (bytesRow b gc) el (gc,gc+1)) rfl rfl rfl rfl rfl rfl rfl ?_
 refine⟨rfl,_,_,_,rfl,hge,by rw [hsz];simp,hle,fun _=>⟨by omega,fun i hi=>?_⟩,by omega,fun i hi s' hs'=>?_⟩
 ·rw [hsz] at hi
  simp;omega
 ·have hs':((u8L b)[i]?).map SV.sc=some s':=hs'
  rw [Eb] at hs'
  obtain⟨u,hu,rfl⟩:=hs'
  simp only [u8L,EP,Eb] at hu
  obtain⟨a,ha,rfl⟩:=hu
  refine⟨_,rfl,?_⟩
  simp only [EA,bytesRow]
  rw [Array.getElem?_append_left (by rw [Array.size_map];have:b.data.size=b.size:=rfl;omega)]
  simp only [Array.getElem?_map,Eb]
  exact⟨a,by simpa using ha,rfl⟩
end
section
variable {P:Program} {T:Tr SV} {H:aw} {nx:Nat} {d:Option Tmp} {ty:TypeId} {pos:String} {af:Array Edge} {gd:Option (Nat×Bool)}
section
variable {s:SV}{t:TypeId}{x:Operand}{vs:List Value}
theorem wY{el:TypeId}{y:Operand}{kx ky:IntKind}{n m bb:Nat}{z:Value}(hu:P.underlying t=some (.slice el))(hs:bw P el=some 1)(hz:dY P el=some z)(hi:(P.info? el).map (·.bytes)=some bb)(hc:z.cells = #[z])
 (hx:ar T x=some (.sc (.int kx n))) (hy:ar T y=some (.sc (.int ky m))) (hnm:n≤m) (hm:bb*m≤281474976710656) (h63:m≤9223372036854775807) :
 OpDoes P T H nx ⟨d,.makeSlice t x y,ty,pos,af,gd⟩ (.val (.slu nx 0 n),H.set nx (dat false m 1 el (List.replicate m z)),nx+1):=by
 intro K w0 e w ev hS hE
 have e1:=hE x _ hx
 have e2:=hE y _ hy
 simp only [SV.conc,D2] at e1 e2
 obtain⟨inf,hinf,rfl⟩:=Eb.1 hi
 clear hi
 simp only [bw,hinf,Et,D2] at hs
 simp only [dY,hinf,Eu] at hz
 have hbi:(inf.bytes:Int)*(m:Int)=((inf.bytes*m:Nat):Int):=by rw [Int.natCast_mul]
 have hrun:=run_make (P:=P) w t el inf z hu hinf hz kx ky n m (by omega) (by omega) (by rw [hbi];omega) (by omega)
 simp only [EQ,hs,Nat.mul_one,hc] at hrun
 have hsz:(madeCells #[z] m).size=m:=size_madeCells _ _
 have hget: ∀ i,i<m→(madeCells #[z] m)[i]? =some z:=fun i hi=>by
  simp only [madeCells,Array.getElem?_map]
  rw [Array.getElem?_range]
  simp [hi,Nat.mod_one]
 have hf:=hS.fresh nx (Em _)
 refine⟨e.put nx ⟨w.heap.size,0,m,1,false⟩,w.alloc (Obj.cells (madeCells #[z] m) el),Env.dE hf,?_,.slice (some ⟨w.heap.size,0,none⟩) n m,by simp [SV.conc,Env.bL,Ent.at],by simp only [execOp,←e1,←e2];simp [hrun]⟩
 refine hS.new (x:=⟨w.heap.size,0,m,1,false⟩) (o:= .cells (madeCells #[z] m) el) rfl rfl rfl rfl rfl rfl rfl ?_
 refine⟨rfl,_,_,_,rfl,Em _,by rw [hsz];simp,by unfold maxLen;omega,fun _=>⟨Em _,fun i hi=>?_⟩,by omega,fun i hi s' hs'=>?_⟩
 ·simp
 ·have hs':((List.replicate m z)[i]?).map SV.sc=some s':=hs'
  rw [Eb] at hs'
  obtain⟨u,hu,rfl⟩:=hs'
  obtain⟨hil,rfl⟩:=D6.1 hu
  refine⟨_,rfl,?_⟩
  simp only [EA,List.getElem_replicate]
  exact hget i (by simpa using hil)
theorem rI: ∀ l:List UInt8,lQ ((l.map fun c=>Value.int .u8 (c.toNat:Int)).map SV.sc)=some l
 | []=>rfl
 | c :: l=>by
   simp only [Eo]
   show(match lQ _ with
    | some r=>some (UInt8.ofNat c.toNat :: r)
    | none=>none)=_
   rw [rI l]
   simp
theorem rH(b:ByteArray):oC ((u8L b).map SV.sc)=some (.sc (.string b)):=by
 unfold oC
 rw [show((u8L b).map SV.sc)=((b.data.toList.map fun c=>Value.int .u8 (c.toNat:Int)).map SV.sc)from rfl,rI]
 simp
def BsIs(H:aw)(s:SV)(vs:List Value):Prop:=rY vs∧((vs= []∧ ∃ a c,s = .sc (.slice a 0 c)) ∨
 (∃ r eo ne ro t us,s = .slu r eo vs.length∧H.at' r=some (dat ro ne 1 t us)∧eo+vs.length≤ne∧(us.drop eo).take vs.length=vs) ∨
 (∃ b o C vo,s = .sl b o vs.length C∧H.at' b=some vo∧vo.cellsFrom o vs.length=some (vs.map .sc)))
theorem BsIs.rdv(h:BsIs H s vs):RdV P H 1 s vs.length vs:=by
 obtain⟨_,⟨rfl,_,_,rfl⟩|⟨r,eo,ne,ro,t,us,rfl,hb,hn,hu⟩|⟨b,o,C,vo,rfl,hb,hc⟩⟩:=h
 ·rfl
 ·exact sr hb hn (by simpa using hu) (by simp)
 ·unfold RdV
  simp only [aJ,hb,Nat.mul_one,hc,Et]
theorem BsIs.frame{H':aw}(h:BsIs H s vs)(hf: ∀ b vo,H.at' b=some vo→H'.at' b=some vo):BsIs H' s vs:=by
 obtain⟨h1,h2|⟨r,eo,ne,ro,t,us,rfl,hb,hn,hu⟩|⟨b,o,C,vo,rfl,hb,hc⟩⟩:=h
 ·exact⟨h1,.inl h2⟩
 ·exact⟨h1,.inr (.inl ⟨r,eo,ne,ro,t,us,rfl,hf _ _ hb,hn,hu⟩)⟩
 ·exact⟨h1,.inr (.inr ⟨b,o,C,vo,rfl,hf _ _ hb,hc⟩)⟩
theorem BsIs.row{r ne:Nat}{ro:Bool}(h1:rY vs)(hb:H.at' r=some (dat ro ne 1 t vs))(hn:vs.length=ne):BsIs H (.slu r 0 ne) vs:=
 ⟨h1,.inr (.inl ⟨r,0,ne,ro,t,vs,by rw [hn],hb,by omega,by simp⟩)⟩
theorem iD{e:TypeId}(hu:P.underlying t=some (.slice e))(hx:ar T x=some s)(hb:BsIs H s vs):ReadDoes P T H ⟨d,.call {callee:= .builtin .len,args:= #[x],argTypes:= #[t]},ty,pos,af,gd⟩ (.sc (.int .i64 vs.length)):=by
 obtain⟨_,⟨rfl,_,_,rfl⟩|⟨r,eo,ne,ro,t,us,rfl,hb,hn,_⟩|⟨b,o,C,vo,rfl,hb,hc⟩⟩:=hb
 ·exact bX hu hx
 ·exact tG hu hx
 ·exact Bx hu hx
theorem zn{yt:TypeId}{y:Operand}{a b:ByteArray}{r:Bool}(hx:ar T x=some (.sc (.string a)))(hy:ar T y=some (.sc (.string b)))(hr:bLt b a=r):ReadDoes P T H ⟨d,.binOp .gtr t x y yt,ty,pos,af,gd⟩ (.sc (.bool r)):=by
 subst hr
 refine cY fun ev w he=>?_
 have e1:=he x _ hx _ rfl
 have e2:=he y _ hy _ rfl
 have e3:bLt b a = !(Op.bytesLess a.toList b.toList || (a.toList == b.toList)):=by
  rw [yu,rN]
  cases h1:bLt a b with
  | true=>
    cases h2:bLt b a with
    | true=>have:=rO h1 h2;rw [fN] at this;cases this
    | false=>rfl
  | false=>
    cases h2:bLt b a with
    | true=>
      rw [ES (fun e=>by subst e;rw [fN] at h2;cases h2)]
      rfl
    | false=>rw [ER (uy h1 h2)];rfl
 rw [e3]
 simp [execOp,e1,e2,eqGuard,binOp,Op.stringOp]
theorem tD{s el:TypeId}{v:SV}{b:ByteArray}(hs:P.underlying s=some (.slice el))(ht:P.underlying t=some .string)(he:P.underlying el=some (.int .u8))(hx:ar T x=some v)(hb:BsIs H v (u8L b)):ReadDoes P T H ⟨d,.convert s t x,ty,pos,af,gd⟩ (.sc (.string b)):=by
 have hr:=BsIs.rdv (P:=P) hb
 unfold RdV at hr
 obtain⟨_,⟨h1,a0,c0,rfl⟩|⟨r,eo,ne,ro,rt,us,rfl,_⟩|⟨b',o,C,vo,rfl,_⟩⟩:=hb
 ·have hb0:b=⟨#[]⟩:=by
   have:=congrArg List.length h1
   simp only [u8L,ED,List.length_nil] at this
   obtain⟨⟨l⟩⟩:=b
   simp only at this
   rw [Eh this]
  subst hb0
  refine cY fun ev w hv=>?_
  have e1:=hv x _ hx _ rfl
  simp only [execOp,e1]
  rw [Sem.run_bind,run_convert_bytes_string w s t el a0 0 c0 hs he ht]
  cases a0 with
  | none=>
    simp only [Conv.bytesToString,Sem.run_pure]
    rfl
  | some ad=>
    have:=run_loadCells_list (P:=P) (w:=w) ad [] (by simp)
    rw [run_bytesToString w ad 0 c0 [] (by simpa using this)]
    rfl
 ·refine fj ?_
  simp only [cS,hx,Eu,qn,hs,ht,he,hr,rH]
 ·refine fj ?_
  simp only [cS,hx,Eu,qn,hs,ht,he,hr,rH]
end
end
section
variable {P:Program} {ro:Option Nat} {fn nt nx i:Nat} {T:Tr SV} {k:List AIt} {dfs:List ADf} {H:aw} {Q:Pst} {ops:Array Oper} {l:List Oper} {ty:TypeId} {pos:String} {af:Array Edge} {gd:Option (Nat×Bool)}
theorem oS{t el:TypeId}{x y:Operand}{kx ky:IntKind}{n m dd bb:Nat}{z:Value}(hw:aD T ops ⟨some dd,.makeSlice t x y,ty,pos,af,gd⟩=some true)(hd:Nat.blt dd nt=true)(hu:P.underlying t=some (.slice el))(hs:bw P el=some 1)(hz:dY P el=some z)(hi:(P.info? el).map (·.bytes)=some bb)(hc:z.cells = #[z])
 (hx:ar T x=some (.sc (.int kx n))) (hy:ar T y=some (.sc (.int ky m))) (hnm:n≤m) (hm:bb*m≤281474976710656) (h63:m≤9223372036854775807)
 (h:Wp P ro ⟨fn,nt,T.set dd (.slu nx 0 n),.inReg ops (i+1) l :: k,dfs,H.set nx (dat false m 1 el (List.replicate m z)),nx+1⟩ Q):Wp P ro ⟨fn,nt,T,.inReg ops i (⟨some dd,.makeSlice t x y,ty,pos,af,gd⟩ :: l) :: k,dfs,H,nx⟩ Q:=
 dZ hw (.inr (fun _ h=>by cases h)) (wY hu hs hz hi hc hx hy hnm hm h63) (by rw [aK hd];exact h)
theorem wc{t yt:TypeId}{x y:Operand}{a b:ByteArray}{r:Bool}{dd:Nat}(hw:aD T ops ⟨some dd,.binOp .gtr t x y yt,ty,pos,af,gd⟩=some true)(hd:Nat.blt dd nt=true)(hx:ar T x=some (.sc (.string a)))(hy:ar T y=some (.sc (.string b)))(hr:bLt b a=r)
 (h:Wp P ro ⟨fn,nt,T.set dd (.sc (.bool r)),.inReg ops (i+1) l :: k,dfs,H,nx⟩ Q):Wp P ro ⟨fn,nt,T,.inReg ops i (⟨some dd,.binOp .gtr t x y yt,ty,pos,af,gd⟩ :: l) :: k,dfs,H,nx⟩ Q:=
 dZ hw (.inr (fun _ h=>by cases h)) ((zn hx hy hr).does) (by rw [aK hd];exact h)
end
end Go.Sy
end
section
namespace Go.Proofs.YtelnglhodnoclaaGreat
open Go Go.Sy
theorem mU(a:ByteArray):Ctr Tryz.prog 94 [.sc (.string a)] [] (fun c=>c=⟨.sc (.bool false),[]⟩):=by
 refine E2 Tryz.func94 rfl rfl ?_
 repeat first|apply ae;rfl|refine yS (r:=false) rfl rfl rfl rfl (by simp only [bne];rw [(MapKept.bytes_beq a a).2 rfl];rfl) ?_
 (apply bW Tryz.func94 Tryz.results94;rfl)
 (refine⟨_,rfl,Ends.val (E0 rfl) rfl ?_ ?_⟩)
 ·rfl
 ·trivial
theorem xd(a:Int):Ctr Tryz.prog 95 [.sc (.int .i64 a)] [] (fun c=>c=⟨.sc (.bool false),[]⟩):=by
 refine E2 Tryz.func95 rfl rfl ?_
 repeat first|apply ae;rfl|refine bN (ct rfl rfl (.inr (.inl ⟨rfl,rfl⟩))) rfl rfl rfl ?_
 (apply bW Tryz.func95 Tryz.results95;rfl)
 (refine⟨_,rfl,Ends.val (E0 rfl) rfl ?_ ?_⟩)
 ·simp
 ·trivial
def Ac(a b:Int):Int:=if a<b then -1 else if b<a then 1 else 0
def yE(a b:ByteArray):Int:=bif bLt a b then -1 else bif bLt b a then 1 else 0
theorem yj(a b:Int):Ctr Tryz.prog 66 [.sc (.int .i64 a),.sc (.int .i64 b)] [] (fun c=>c=⟨.sc (.int .i64 (Ac a b)),[]⟩):=by
 refine E2 Tryz.func66 rfl rfl ?_
 repeat first|apply ae;rfl|refine ey (xd _) [] rfl rfl rfl (by kernel_rfl) rfl (E0 rfl) rfl trivial ?_
 refine bm rfl rfl rfl rfl ?_ ?_
 all_goals intro h1
 ·repeat apply ae;rfl
  (apply bW Tryz.func66 Tryz.results66;rfl)
  (refine⟨_,rfl,Ends.val (E0 rfl) rfl ?_ ?_⟩)
  ·unfold Ac;rw [Ez h1]
  ·trivial
 ·repeat apply ae;rfl
  refine dS rfl rfl rfl rfl ?_ ?_
  all_goals intro h2
  ·repeat apply ae;rfl
   (apply bW Tryz.func66 Tryz.results66;rfl)
   (refine⟨_,rfl,Ends.val (E0 rfl) rfl ?_ ?_⟩)
   ·unfold Ac;rw [Ey (by omega),Ez h2]
   ·trivial
  ·repeat apply ae;rfl
   (apply bW Tryz.func66 Tryz.results66;rfl)
   (refine⟨_,rfl,Ends.val (E0 rfl) rfl ?_ ?_⟩)
   ·unfold Ac;rw [Ey (by omega),Ey (by omega)]
   ·trivial
theorem yl(a b:ByteArray):Ctr Tryz.prog 65 [.sc (.string a),.sc (.string b)] [] (fun c=>c=⟨.sc (.int .i64 (yE a b)),[]⟩):=by
 refine E2 Tryz.func65 rfl rfl ?_
 cases h1:bLt a b with
 | true=>
   repeat first|apply ae;rfl|refine ey (mU _) [] rfl rfl rfl (by kernel_rfl) rfl (E0 rfl) rfl trivial ?_|refine oT (r:=true) rfl rfl rfl rfl h1 ?_
   (apply bW Tryz.func65 Tryz.results65;rfl)
   (refine⟨_,rfl,Ends.val (E0 rfl) rfl ?_ ?_⟩)
   ·unfold yE;rw [h1];rfl
   ·trivial
 | false=>
   cases h2:bLt b a with
   | true=>
     repeat first|apply ae;rfl|refine ey (mU _) [] rfl rfl rfl (by kernel_rfl) rfl (E0 rfl) rfl trivial ?_|refine oT (r:=false) rfl rfl rfl rfl h1 ?_|refine wc (r:=true) rfl rfl rfl rfl h2 ?_
     (apply bW Tryz.func65 Tryz.results65;rfl)
     (refine⟨_,rfl,Ends.val (E0 rfl) rfl ?_ ?_⟩)
     ·unfold yE;rw [h1,h2];rfl
     ·trivial
   | false=>
     repeat first|apply ae;rfl|refine ey (mU _) [] rfl rfl rfl (by kernel_rfl) rfl (E0 rfl) rfl trivial ?_|refine oT (r:=false) rfl rfl rfl rfl h1 ?_|refine wc (r:=false) rfl rfl rfl rfl h2 ?_
     (apply bW Tryz.func65 Tryz.results65;rfl)
     (refine⟨_,rfl,Ends.val (E0 rfl) rfl ?_ ?_⟩)
     ·unfold yE;rw [h1,h2];rfl
     ·trivial
def or3(a b c:Int):Int:=if a=0 then(if b=0 then c else b) else a
theorem BJ(a b c:Int):Ctr Tryz.prog 64 [.slu 0 0 3] [dat false 3 1 3 [.int .i64 a,.int .i64 b,.int .i64 c]] (fun x=>x=⟨.sc (.int .i64 (or3 a b c)),[dat false 3 1 3 [.int .i64 a,.int .i64 b,.int .i64 c]].map some⟩):=by
 refine E2 Tryz.func64 rfl rfl ?_
 repeat first|apply ae;rfl|refine oO ?_|refine bN (gg (F.un _ rfl) (F.sz _ rfl) rfl rfl rfl (by omega) (by omega) (by omega)) rfl rfl rfl ?_|refine e7 rfl rfl rfl (F.ag _ rfl) rfl rfl (by decide) ?_|refine bN (ct rfl rfl (.inr (.inr (.inl ⟨rfl,rfl⟩)))) rfl rfl rfl ?_
 refine ga rfl rfl rfl rfl ?_ ?_
 all_goals intro h1
 ·repeat apply ae;rfl
  (apply bW Tryz.func64 Tryz.results64;rfl)
  (refine⟨_,rfl,Ends.val (E0 rfl) rfl ?_ ?_⟩)
  ·unfold or3;rw [Ey h1]
  ·(refine⟨?_,trivial⟩;rw [dw];first|rfl|exact congrArg some (bU _ _ _ _ _))
 ·repeat first|apply ae;rfl|apply aB;rfl;omega;omega|refine mr ?_|refine bN (gg (F.un _ rfl) (F.sz _ rfl) rfl rfl rfl (by omega) (by omega) (by omega)) rfl rfl rfl ?_|refine e7 rfl rfl rfl (F.ag _ rfl) rfl rfl (by decide) ?_|refine bN (ct rfl rfl (.inr (.inr (.inl ⟨rfl,rfl⟩)))) rfl rfl rfl ?_
  refine ga rfl rfl rfl rfl ?_ ?_
  all_goals intro h2
  ·repeat apply ae;rfl
   (apply bW Tryz.func64 Tryz.results64;rfl)
   (refine⟨_,rfl,Ends.val (E0 rfl) rfl ?_ ?_⟩)
   ·unfold or3;rw [Ez h1,Ey h2]
   ·(refine⟨?_,trivial⟩;rw [dw];first|rfl|exact congrArg some (bU _ _ _ _ _))
  ·repeat first|apply ae;rfl|apply aB;rfl;omega;omega|refine mr ?_|refine bN (gg (F.un _ rfl) (F.sz _ rfl) rfl rfl rfl (by omega) (by omega) (by omega)) rfl rfl rfl ?_|refine e7 rfl rfl rfl (F.ag _ rfl) rfl rfl (by decide) ?_|refine bN (ct rfl rfl (.inr (.inr (.inl ⟨rfl,rfl⟩)))) rfl rfl rfl ?_
   refine ga rfl rfl rfl rfl ?_ ?_
   all_goals intro h3
   ·repeat apply ae;rfl
    (apply bW Tryz.func64 Tryz.results64;rfl)
    (refine⟨_,rfl,Ends.val (E0 rfl) rfl ?_ ?_⟩)
    ·unfold or3;rw [Ez h1,Ez h2]
    ·(refine⟨?_,trivial⟩;rw [dw];first|rfl|exact congrArg some (bU _ _ _ _ _))
   ·repeat first|apply ae;rfl|apply aB;rfl;omega;omega|refine mr ?_|refine bN (ct rfl rfl (.inr (.inr (.inl ⟨rfl,rfl⟩)))) rfl rfl rfl ?_
    (apply bW Tryz.func64 Tryz.results64;rfl)
    (refine⟨_,rfl,Ends.val (E0 rfl) rfl ?_ ?_⟩)
    ·unfold or3;rw [Ez h1,Ez h2,h3]
    ·(refine⟨?_,trivial⟩;rw [dw];first|rfl|exact congrArg some (bU _ _ _ _ _))
abbrev a7:=ByteArray×Int×Int
abbrev io(e:a7):SV:= .agg [.sc (.string e.1),.sc (.int .i64 e.2.1),.sc (.int .i64 e.2.2)]
def zz(a b:a7):Int:=or3 (yE a.1 b.1) (Ac a.2.1 b.2.1) (Ac a.2.2 b.2.2)
theorem lj(a b:a7):Ctr Tryz.prog 35 [io a,io b] [] (fun c=>c=⟨.sc (.int .i64 (zz a b)),[]⟩):=by
 refine E2 Tryz.func35 rfl rfl ?_
 repeat apply ae;rfl
 refine aS (by kernel_rfl) (by kernel_rfl) ?_
 repeat first|apply aA;rfl|refine bq (aI (F.ag _ rfl) rfl rfl (aE rfl)) rfl rfl rfl ?_|refine eZ rfl rfl rfl (by kernel_rfl) (Ctr.callV (yl _ _) [] rfl (E0 rfl) rfl trivial rfl) ?_|refine eZ rfl rfl rfl (by kernel_rfl) (Ctr.callV (yj _ _) [] rfl (E0 rfl) rfl trivial rfl) ?_|refine vw (BL (F.un _ rfl) (F.sz _ rfl) (F.ze _ rfl) rfl rfl rfl rfl rfl rfl) rfl rfl rfl ?_|refine eZ rfl rfl rfl (by kernel_rfl) (Ctr.callV (BJ _ _ _) [2] rfl (E0 rfl) rfl ⟨(congrArg some (dw _ _ _ _ _ _)).symm,trivial⟩ rfl) ?_
 refine ay ?_
 refine⟨by kernel_rfl,?_,?_⟩
 ·repeat first|exact Gc|apply bZ;rfl|apply bM;rfl|refine⟨.inr (by(repeat(refine⟨(by(exact aI (F.ag _ rfl) rfl rfl (aE rfl))),?_⟩));exact Gc),?_⟩
 (apply bW Tryz.func35 Tryz.results35;rfl)
 (refine⟨_,rfl,Ends.val (E0 rfl) rfl ?_ ?_⟩)
 ·rfl
 ·trivial
def bj(a b:a7):Bool:=decide (zz a b<0)
theorem xk(a b:a7):Ctr Tryz.prog 14 [io a,io b] [] (fun c=>c=⟨.sc (.bool (bj a b)),[]⟩):=by
 refine E2 Tryz.func14 rfl rfl ?_
 repeat first|apply ae;rfl|apply aR;rfl;(focus((repeat(first|exact ah|refine aa (by omega) ?_));done));rfl|refine ey (lj _ _) [] rfl rfl rfl (by kernel_rfl) rfl (E0 rfl) rfl trivial ?_|refine bN (ct rfl rfl (.inr (.inr (.inl ⟨rfl,rfl⟩)))) rfl rfl rfl ?_
 (apply bW Tryz.func14 Tryz.results14;rfl)
 (refine⟨_,rfl,Ends.val (E0 rfl) rfl ?_ ?_⟩)
 ·rfl
 ·trivial
def BX(k:ByteArray):Bool:=decide (1≤k.size∧k.size≤32)
def fk(e:a7):Bool:=decide ((1≤e.1.size∧e.1.size≤32)∧32≤e.2.1∧e.2.1<128∧0≤e.2.2∧e.2.2≤255)
theorem zC(a:Int):Ctr Tryz.prog 16 [.sc (.int .i64 a)] [] (fun c=>c=⟨.sc (.int .i64 a),[]⟩):=by
 refine E2 Tryz.func16 rfl rfl ?_
 repeat apply ae;rfl
 (apply bW Tryz.func16 Tryz.results16;rfl)
 (refine⟨_,rfl,Ends.val (E0 rfl) rfl ?_ ?_⟩)
 ·rfl
 ·trivial
theorem mW(k:ByteArray):Ctr Tryz.prog 34 [.sc (.string k)] [] (fun c=>c=⟨.sc (.bool (BX k)),[]⟩):=by
 refine E2 Tryz.func34 rfl rfl ?_
 (repeat' (first|apply ae;rfl|(refine cD rfl rfl rfl rfl ?_ ?_ <;> intro hq)|(refine my rfl rfl rfl rfl ?_ ?_ <;> intro hq2)))
 all_goals((apply bW Tryz.func34 Tryz.results34;rfl);(refine⟨_,rfl,Ends.val (E0 rfl) rfl ?_ ?_⟩))
 all_goals first|trivial|(rw [show BX k=true from ER (by omega)])|(rw [show BX k=false from ES (by omega)])
theorem zI(e:a7):Ctr Tryz.prog 12 [io e] [] (fun c=>c=⟨.sc (.bool (fk e)),[]⟩):=by
 refine E2 Tryz.func12 rfl rfl ?_
 have hk:=mW e.1
 cases hm:BX e.1 <;> rw [hm] at hk
 all_goals(repeat' (first|apply ae;rfl|apply aR;rfl;(focus((repeat(exact ah));done));rfl|refine ey (hk) [] rfl rfl rfl (by kernel_rfl) rfl (E0 rfl) rfl trivial ?_|(refine cD rfl rfl rfl rfl ?_ ?_ <;> intro hq)|(refine my rfl rfl rfl rfl ?_ ?_ <;> intro hq)|(refine bm rfl rfl rfl rfl ?_ ?_ <;> intro hq)))
 all_goals((apply bW Tryz.func12 Tryz.results12;rfl);(refine⟨_,rfl,Ends.val (E0 rfl) rfl ?_ ?_⟩))
 all_goals first|trivial|(simp only [BX,EZ,decide_eq_false_iff_not] at hm;first|(rw [show fk e=true from ER (by omega)])|(rw [show fk e=false from ES (by omega)]))
theorem zL{a b:a7}(h:(a.1 != b.1)=true):bj a b=bLt a.1 b.1:=by
 have hne:a.1≠b.1:=fun e=>by rw [e] at h;simp only [bne,(MapKept.bytes_beq b.1 b.1).2 rfl] at h;cases h
 unfold bj zz or3 yE
 cases h1:bLt a.1 b.1 with
 | true=>rfl
 | false=>
   cases h2:bLt b.1 a.1 with
   | true=>rfl
   | false=>exact absurd (uy h1 h2) hne
theorem zM{a b:a7}(h:(a.1 != b.1)=false):bj a b=decide (a.2.1<b.2.1∨a.2.1=b.2.1∧a.2.2<b.2.2):=by
 have he:a.1=b.1:=by
  simp only [bne,Bool.not_eq_false'] at h
  exact(MapKept.bytes_beq a.1 b.1).1 h
 have key: ∀ p q r s:Int,((if(if p<q then(-1:Int) else if q<p then 1 else 0)=0 then(if r<s then(-1:Int) else if s<r then 1 else 0) else(if p<q then(-1:Int) else if q<p then 1 else 0))<0)=(p<q∨p=q∧r<s):=by
  intro p q r s
  apply propext
  by_cases h1:p<q
  ·simp [h1]
  ·by_cases h2:q<p
   ·simp [h1,h2];omega
   ·by_cases h3:r<s
    ·simp [h1,h2,h3];omega
    ·by_cases h4:s<r
     ·simp [h1,h2,h3,h4]
     ·simp [h1,h2,h3,h4]
 unfold bj zz yE
 rw [he,fN]
 exact decide_eq_decide.2 (iff_of_eq (key a.2.1 b.2.1 a.2.2 b.2.2))
end Go.Proofs.YtelnglhodnoclaaGreat
end
section
namespace Go.Proofs.YtelnglhodnoclaaGreat
open Go Go.Sy Go.Sl Go.RowKit
section
variable {H:aw}{b0 b1 b2:UInt8}{ls:List SV}{l r:List UInt8}{bs:List (List Value)}
def LsIs(H:aw)(ls:List SV)(bs:List (List Value)):Prop:=ls.length=bs.length∧ ∀ (j:Nat) s vs,ls[j]? =some s→bs[j]? =some vs→BsIs H s vs
abbrev bsR(ro:Bool)(ls:List SV):VO:=fA ro ls.length 1 26 ls
abbrev u8R(ro:Bool)(vs:List Value):VO:=dat ro vs.length 1 5 vs
abbrev u8Z:Value:= .int .u8 0
theorem LsIs.at(h:LsIs H ls bs){j:Nat}(hj:j<ls.length): ∃ s vs,ls[j]? =some s∧bs[j]? =some vs∧BsIs H s vs:=by
 obtain⟨h1,h2⟩:=h
 exact⟨ls[j],bs[j]'(by omega),by simp [hj],by rw [D5],h2 j _ _ (by simp [hj]) (by rw [D5])⟩
theorem iM{j:Nat}{vs:List Value}(h:bs[j]? =some vs):(bs.take (j+1)).flatten=(bs.take j).flatten ++ vs:=by
 rw [List.take_add_one,h]
 simp
theorem sR(bs:List (List Value))(j:Nat):(bs.take j).flatten.length≤bs.flatten.length:=by
 conv=>rhs;rw [← List.take_append_drop j bs,List.flatten_append,Er]
 omega
theorem uj(h: ∀ vs∈bs,rY vs):rY bs.flatten:=by
 intro v hv
 obtain⟨l,hl,hv⟩:=List.mem_flatten.1 hv
 exact h l hl v hv
theorem Dx{nx r:Nat}{ro:Bool}(hr:H.at' r=some (bsR ro ls))(hb:LsIs H ls bs)(hsz:bs.flatten.length≤140737488355328)(hl:ls.length≤4611686018427387904):Fnc Tryz.prog 33 [.slu r 0 ls.length] H nx
 (fun q=> ∃ r',q.1 = .slu r' 0 bs.flatten.length∧q.2.1.at' r'=some (u8R false bs.flatten)∧nx≤r'∧r'<q.2.2∧nx≤q.2.2∧ ∀ n,n<nx→q.2.1.at' n=H.at' n):=by
 refine E2 Tryz.func33 rfl rfl ?_
 refine a9 fun hund=>?_
 have hlt:=hund _ _ hr
 repeat apply ae;rfl
 refine br (α:=Nat) (fun j=> [(0,.slu r 0 ls.length),(2,.sc (.slice none 0 0)),(3,.sc (.int .i64 ((bs.take j).flatten.length:Nat))),(9,.slu r 0 ls.length),(10,.sc (.int .i64 (ls.length:Int))),(11,.sc (.int .i64 (j:Int)))]) (fun j H1 n1=>H1=H∧n1=nx∧j≤ls.length) (fun j=>ls.length-j) 0
  ⟨rfl,rfl,En _⟩ (E8 (Gb rfl)) ?_
 rintro j H1 n1 ⟨rfl,rfl,h1⟩ ih
 repeat apply ae;rfl
 (apply bm;rfl;rfl;rfl;rfl)
 all_goals intro h6
 ·obtain⟨s,vs,g1,g2,g3⟩:=hb.at (j:=j) (by omega)
  have hle:=sR bs (j+1)
  have hft:=iM g2
  rw [hft,Er] at hle
  have hcell:(bsR ro ls).cell (j*1)=some s:=kQ (by rw [Nat.mul_one];exact g1) (by omega)
  repeat first|apply ae;rfl|apply bk;rfl|apply aB;rfl;omega;omega|refine cQ (q:=j) rfl rfl rfl rfl (F.un _ rfl) (F.sz _ rfl) (by assumption) (by omega) (by(omega)) (Em _) ?_|refine bN (aI (F.ag _ rfl) rfl hr hcell) rfl rfl rfl ?_|refine bN (iD (F.un _ rfl) rfl g3) rfl rfl rfl ?_
  refine ih _ _ _ (j+1) ⟨rfl,rfl,by omega⟩ (by omega) ?_
  rw [hft,Er]
  exact E8 (by repeat(first|exact Gc|refine⟨rfl,?_⟩))
 ·obtain rfl:j=ls.length:=by omega
  have hall:bs.take ls.length=bs:=Ed (by have:=hb.1;omega)
  rw [hall]
  repeat first|apply ae;rfl|apply oS (z:=u8Z) (bb:=1) (n:=0) (m:=bs.flatten.length);rfl;rfl;exact(F.un _ rfl);exact(F.sz _ rfl);exact(F.ze _ rfl);(focus(kernel_rfl));rfl;rfl;rfl;exact(En _);(focus(omega));(focus(omega))
  have hrep: ∀ n,rY (List.replicate n u8Z):=fun n v hv=>by rw [(List.mem_replicate.1 hv).2];rfl
  refine br (α:=Nat) (fun j=> [(0,.slu r 0 ls.length),(6,.slu n1 0 (bs.take j).flatten.length),(22,.slu r 0 ls.length),(23,.sc (.int .i64 (ls.length:Int))),(24,.sc (.int .i64 (j:Int)))]) (fun j H2 n2=>n2=n1+1∧j≤ls.length∧H2.at' n1=some (dat false bs.flatten.length 1 5 ((bs.take j).flatten ++ List.replicate (bs.flatten.length-(bs.take j).flatten.length) u8Z))∧ ∀ n,n<n1→H2.at' n=H1.at' n) (fun j=>ls.length-j) 0
   ⟨rfl,En _,by rw [au];simp,fun n hn=>ab _ _ (by omega)⟩ (E8 (Gb rfl)) ?_
  clear ih
  rintro j H2 n2 ⟨rfl,h2,h3,h4⟩ ih
  have hr2:H2.at' r=some (bsR ro ls):=(h4 r hlt).trans hr
  repeat apply ae;rfl
  (apply bm;rfl;rfl;rfl;rfl)
  all_goals intro h7
  ·obtain⟨s,vs,g1,g2,g3⟩:=hb.at (j:=j) (by omega)
   have g4:BsIs H2 s vs:=g3.frame fun b vo hbv=>(h4 b (hund b vo hbv)).trans hbv
   have hle:=sR bs (j+1)
   have hle0:=sR bs j
   have hft:=iM g2
   rw [hft,Er] at hle
   have hcell:(bsR ro ls).cell (j*1)=some s:=kQ (by rw [Nat.mul_one];exact g1) (by omega)
   repeat first|apply ae;rfl|refine cQ (q:=j) rfl rfl rfl rfl (F.un _ rfl) (F.sz _ rfl) (by assumption) (by omega) (by(omega)) (Em _) ?_|refine bN (aI (F.ag _ rfl) rfl hr2 hcell) rfl rfl rfl ?_
   rcases Nat.eq_zero_or_pos vs.length with h0|h0
   ·have:vs= []:=Eh h0
    subst this
    refine wh (vs:= []) rfl rfl rfl rfl (F.un _ rfl) (.inl ⟨_,F.un _ rfl⟩) (F.sz _ rfl) (by decide) h3 (by omega) (BsIs.rdv g4) g4.1 ?_
    repeat first|apply ae;rfl|apply aB;rfl;omega;omega
    refine ih _ _ _ (j+1) ⟨rfl,by omega,by rw [hft,EM];exact h3,h4⟩ (by omega) ?_
    rw [hft,EM]
    exact E8 (by repeat(first|exact Gc|refine⟨rfl,?_⟩))
   ·refine uI (vs:=vs) (ws:=(bs.take (j+1)).flatten ++ List.replicate (bs.flatten.length-(bs.take (j+1)).flatten.length) u8Z) rfl rfl rfl rfl (F.un _ rfl) (.inl ⟨_,F.un _ rfl⟩) (F.sz _ rfl) h3 (BsIs.rdv g4) g4.1 (by omega) (by omega) (by omega) (by rw [Er,EL];omega) ?_ ?_
    ·rw [hft,Er,EA,Nat.mul_one,Nat.mul_one,List.take_left' rfl,←List.drop_drop,List.drop_left' rfl,List.drop_replicate,Nat.sub_sub]
    ·repeat first|apply ae;rfl|apply aB;rfl;omega;omega
     refine ih _ _ _ (j+1) ⟨rfl,by omega,au _ _ _,fun n hn=>(ab _ _ (by omega)).trans (h4 n hn)⟩ (by omega) ?_
     rw [hft,Er]
     exact E8 (by repeat(first|exact Gc|refine⟨rfl,?_⟩))
  ·obtain rfl:j=ls.length:=by omega
   rw [hall] at h3 ⊢
   repeat apply ae;rfl
   (apply bW Tryz.func33 Tryz.results33;rfl)
   refine⟨n1,rfl,?_,Em _,Nat.lt_succ_self _,Ew _,h4⟩
   rw [Nat.sub_self,List.replicate_zero,EM] at h3
   exact h3
theorem xq{nx r:Nat}{ro:Bool}(hr:H.at' r=some (bsR ro ls))(hb:LsIs H ls bs)(hsz:bs.flatten.length≤140737488355328)(hl:ls.length≤4611686018427387904):Fnc Tryz.prog 33 [.slu r 0 ls.length] H nx
 (fun q=>q=(.slu nx 0 bs.flatten.length,H.set nx (u8R false bs.flatten),nx+1)):=Fnc.next (Dx hr hb hsz hl)
abbrev cn:a7:=(⟨#[]⟩,0,0)
def ofL:List UInt8→Option a7
 | b0 :: b1 :: b2 :: r=>bif fk (⟨(b2 :: r).toArray⟩,(b0.toNat:Int),(b1.toNat:Int)) then some (⟨(b2 :: r).toArray⟩,(b0.toNat:Int),(b1.toNat:Int)) else none
 | _=>none
abbrev uY(l:List UInt8)(no:Int):SV:= .tup [io ((ofL l).getD cn),.sc (.int .i64 (if(ofL l).isSome then 0 else no))]
theorem wj(a:UInt8):IntKind.i64.wrap ((a.toNat:Nat):Int)=(a.toNat:Int):=D3 _ ⟨by omega,by have:=a.toNat_lt;omega⟩
theorem gD{no:Int}(h:ofL l=none):uY l no = .tup [io cn,.sc (.int .i64 no)]:=by simp only [uY,h];rfl
theorem ll{no:Int}{e:a7}(h:ofL l=some e):uY l no = .tup [io e,.sc (.int .i64 0)]:=by simp only [uY,h];rfl
theorem xa(h:l.length<3):ofL l=none:=by
 rcases l with _|⟨b0,_|⟨b1,_|⟨b2,r⟩⟩⟩
 ·rfl
 ·rfl
 ·rfl
 ·simp at h;omega
abbrev yC(b0 b1 b2:UInt8)(r:List UInt8):a7:=(⟨(b2 :: r).toArray⟩,(b0.toNat:Int),(b1.toNat:Int))
theorem AK(h:fk (yC b0 b1 b2 r)=false):ofL (b0 :: b1 :: b2 :: r)=none:=by simp only [ofL,h,cond_false]
theorem w9(h:fk (yC b0 b1 b2 r)=true):ofL (b0 :: b1 :: b2 :: r)=some (yC b0 b1 b2 r):=by simp only [ofL,h,cond_true]
theorem B2(h:34<r.length+3):fk (yC b0 b1 b2 r)=false:=ES fun hh=>by
 have h2:=hh.1.2
 have h3:(⟨(b2 :: r).toArray⟩:ByteArray).size=r.length+1:=rfl
 simp only [h3] at h2
 omega
end
end Go.Proofs.YtelnglhodnoclaaGreat
end
section
namespace Go.Sy
open Go Go.Sl Go.RowKit
section
variable {P:Program} {T:Tr SV} {H:aw} {nx:Nat} {d:Option Tmp} {ty:TypeId} {pos:String} {af:Array Edge} {gd:Option (Nat×Bool)}
theorem kO{vo:VO}: ∀ (n o:Nat) (l:List SV),vo.cellsFrom o n=some l→ ∀ j x,l[j]? =some x→vo.cell (o+j)=some x
 | 0,o,l,h,j,x,hx=>by
   simp only [VO.cellsFrom,D2] at h
   subst h
   simp at hx
 | n+1,o,l,h,j,x,hx=>by
   simp only [VO.cellsFrom] at h
   cases h1:vo.cell o with
   | none=>rw [h1] at h;cases h
   | some s=>
     rw [h1] at h
     simp only at h
     cases h2:vo.cellsFrom (o+1) n with
     | none=>rw [h2] at h;cases h
     | some m=>
       rw [h2] at h
       simp only [D2] at h
       subst h
       cases j with
       | zero=>
         simp only [Ej,D2] at hx
         subst hx
         exact h1
       | succ j=>
         have:=kO n (o+1) m h2 j x (by simpa using hx)
         rw [show o+(j+1)=o+1+j by omega]
         exact this
theorem mH{t e:TypeId}{x:Operand}{lo hi:Option Operand}{b o n l h m C o':Nat}(hu:P.underlying t=some (.array n e))(hs:bw P e=some 1)(hx:ar T x=some (.ptr b o))(hl:yG T 0 lo l)(hh:yG T n hi h)(h1:l≤h)(h2:h≤n)(h3:l<n)(hm:h-l=m)(hC:n-l=C)(ho:o+l=o'):ReadDoes P T H ⟨d,.slice t x lo hi none,ty,pos,af,gd⟩ (.sl b o' m C):=by
 subst hm hC ho
 refine fj ?_
 unfold yG at hl hh
 have hmx:natOr T n none=some n:=rfl
 simp only [cS,hx,Eu,lJ,hu,hs,hl,hh,hmx]
 rw [show Nat.ble l h=true from D9 h1,show Nat.ble h n=true from D9 h2,show Nat.ble n n=true from D9 (Em _)]
 have:Nat.beq n l=false:=by cases hq:Nat.beq n l with|false=>rfl|true=>exact absurd (EO hq) (by omega)
 simp [this]
theorem tQ{t tx el:TypeId}{b o n C:Nat}{bt:TypeId}{cs:List SV}{vs:List Value}{s x:Operand}{v:SV}(hu:P.underlying t=some (.slice el))(hs:bw P el=some 1)(hx0:ar T s=some (.sl b o n C))(hx:ar T x=some v)(hb:H.at' b=some (am bt cs))(hv:BsIs H v vs)(hn:vs.length≤n)(ho:o+vs.length≤cs.length) :
 OpDoes P T H nx ⟨d,.call {callee:= .builtin .copy,args:= #[s,x],argTypes:= #[t,tx]},ty,pos,af,gd⟩ (.val (.sc (.int .i64 (vs.length:Nat))),H.set b (am bt (cs.take o ++ vs.map .sc ++ cs.drop (o+vs.length))),nx):=by
 have hr:=BsIs.rdv (P:=P) hv
 unfold RdV at hr
 have hmin:min vs.length n=vs.length:=Nat.min_eq_left hn
 have htk:(vs.map SV.sc).take (vs.length*1)=vs.map SV.sc:=by rw [Nat.mul_one];exact Ed (by simp)
 have hst:(am bt cs).setCells o (vs.map .sc)=some (am bt (cs.take o ++ vs.map .sc ++ cs.drop (o+vs.length))):=by
  have:=iz (t:=bt) (vs.map .sc) cs o (by simpa using ho) (iT hv.1)
  simpa using this
 have hcp:yg P H nx t (.sl b o n C) v=some (.val (.sc (.int .i64 (vs.length:Nat))),H.set b (am bt (cs.take o ++ vs.map .sc ++ cs.drop (o+vs.length))),nx):=by
  simp only [yg,hu,hs,hr,hmin,htk,eT,hb,hst]
 refine kL ?_
 simp only [fZ,dh,hx0,hx,Eu,fh,hcp]
end
section
variable {P:Program} {ro:Option Nat} {fn nt nx i:Nat} {T:Tr SV} {k:List AIt} {dfs:List ADf} {H:aw} {Q:Pst} {ops:Array Oper} {l:List Oper} {ty:TypeId} {pos:String} {af:Array Edge} {gd:Option (Nat×Bool)}
theorem C2{t e:TypeId}{x y:Operand}{s:SV}{vs:List Value}{kd:IntKind}{j:Nat}{dd:Nat}(hw:aD T ops ⟨some dd,.indexAddr t x y,ty,pos,af,gd⟩=some true)(hd:Nat.blt dd nt=true)(hx:ar T x=some s)(hy:ar T y=some (.sc (.int kd (j:Int))))(hu:P.underlying t=some (.slice e))(hs:bw P e=some 1)(hb:BsIs H s vs)(hj:j<vs.length)
 (h: ∀ b o vo,H.at' b=some vo→vo.cell o=some (.sc vs[j])→Wp P ro ⟨fn,nt,T.set dd (.ptr b o),.inReg ops (i+1) l :: k,dfs,H,nx⟩ Q):Wp P ro ⟨fn,nt,T,.inReg ops i (⟨some dd,.indexAddr t x y,ty,pos,af,gd⟩ :: l) :: k,dfs,H,nx⟩ Q:=by
 obtain⟨_,⟨rfl,_,_,rfl⟩|⟨r,eo,ne,ro',rt,us,rfl,hr,hn,hus⟩|⟨b,o,C,vo,rfl,hr,hc⟩⟩:=hb
 ·simp at hj
 ·refine dZ hw (.inr (fun _ h=>by cases h)) ((gg hu hs hx hy hr (by omega) (by omega) hn).does) ?_
  rw [aK hd]
  refine h r _ _ hr ?_
  rw [Nat.mul_one,EQ]
  refine jn (by omega) ?_
  have hg:=congrArg (fun l:List Value=>l[j]?) hus
  rw [List.getElem?_take_of_lt hj,List.getElem?_drop] at hg
  rw [hg]
  simp [hj]
 ·refine dZ hw (.inr (fun _ h=>by cases h)) ((wJ hu hs hx hy hj).does) ?_
  rw [aK hd]
  refine h b _ _ hr ?_
  rw [Nat.mul_one]
  exact kO _ _ _ hc j _ (by simp [hj])
theorem nW{t e:TypeId}{x:Operand}{lo hi:Option Operand}{b o n lw hg m C o':Nat}{dd:Nat}(hw:aD T ops ⟨some dd,.slice t x lo hi none,ty,pos,af,gd⟩=some true)(hd:Nat.blt dd nt=true)(hx:ar T x=some (.ptr b o))(hu:P.underlying t=some (.array n e))(hs:bw P e=some 1)(hl:yG T 0 lo lw)(hh:yG T n hi hg)(h1:lw≤hg)(h2:hg≤n)(h3:lw<n)(hm:hg-lw=m)(hC:n-lw=C)(ho:o+lw=o')
 (h:Wp P ro ⟨fn,nt,T.set dd (.sl b o' m C),.inReg ops (i+1) l :: k,dfs,H,nx⟩ Q):Wp P ro ⟨fn,nt,T,.inReg ops i (⟨some dd,.slice t x lo hi none,ty,pos,af,gd⟩ :: l) :: k,dfs,H,nx⟩ Q:=
 dZ hw (.inr (fun _ h=>by cases h)) ((mH hu hs hx hl hh h1 h2 h3 hm hC ho).does) (by rw [aK hd];exact h)
theorem oV{t tx el:TypeId}{b o n C:Nat}{bt:TypeId}{cs:List SV}{vs:List Value}{s x:Operand}{v:SV}{dd:Nat}(hw:aD T ops ⟨some dd,.call {callee:= .builtin .copy,args:= #[s,x],argTypes:= #[t,tx]},ty,pos,af,gd⟩=some true)(hd:Nat.blt dd nt=true)(hx0:ar T s=some (.sl b o n C))(hx:ar T x=some v)(hu:P.underlying t=some (.slice el))(hs:bw P el=some 1)(hb:H.at' b=some (am bt cs))(hv:BsIs H v vs)(hn:vs.length≤n)(ho:o+vs.length≤cs.length)
 (h:Wp P ro ⟨fn,nt,T.set dd (.sc (.int .i64 (vs.length:Nat))),.inReg ops (i+1) l :: k,dfs,H.set b (am bt (cs.take o ++ vs.map .sc ++ cs.drop (o+vs.length))),nx⟩ Q):Wp P ro ⟨fn,nt,T,.inReg ops i (⟨some dd,.call {callee:= .builtin .copy,args:= #[s,x],argTypes:= #[t,tx]},ty,pos,af,gd⟩ :: l) :: k,dfs,H,nx⟩ Q:=
 dZ hw (.inr (fun _ h=>by cases h)) (tQ hu hs hx0 hx hb hv hn ho) (by rw [aK hd];exact h)
end
end Go.Sy
end
