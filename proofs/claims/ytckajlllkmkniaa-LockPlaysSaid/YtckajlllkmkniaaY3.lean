import Derived.Test.YtckajlllkmkniaaProg
import Derived.Laws.StructEq
import Derived.Test.YtckajlllkmkniaaY2
set_option linter.unusedVariables false
set_option linter.unusedSimpArgs false
set_option maxRecDepth 100000
set_option maxHeartbeats 0
section
namespace Go.Sy
open Go Go.Sl Go.RowKit
section
variable {P:Program} {T:Tr SV} {H:aV} {nx:Nat} {d:Option Tmp} {ty:TypeId} {pos:String} {af:Array Edge} {gd:Option (Nat×Bool)}
theorem eF{o:Oper}{v:SV}(h:cU P T H o=some v):ReadDoes P T H o v:=fun _ _ _ _ _ _ hS hE=>sN hS hE h
theorem gq{o:Oper}{out:Out}(h:fe P T H nx o=some out):OpDoes P T H nx o out:=fun _ _ _ _ _ hS hE=>mI hS hE h
def il(P:Program)(s:TypeId)(f:Nat):Option Nat:=match P.underlying s with
 | some (.struct fields)=>match fields[f]? with
   | some fd=>match bC P fd.type with
     | some (_+1)=>some fd.offset
     | _=>none
   | none=>none
 | _=>none
def qW(P:Program)(t:TypeId):Option (List SV):=(c6 P t).map fun z=>z.cells.toList.map .sc
theorem aY{x:Operand}{v:SV}(h:ar T x=some v):ReadDoes P T H ⟨d,.move x,ty,pos,af,gd⟩ v:=eF h
theorem aH{x:Operand}{v:SV}(h:ar T x=some v):ReadDoes P T H ⟨d,.assign x,ty,pos,af,gd⟩ v:=eF h
theorem aQ{c a b:Operand}{v:SV}(hc:ar T c=some (.sc (.bool true)))(h:ar T a=some v):ReadDoes P T H ⟨d,.pick c a b,ty,pos,af,gd⟩ v:=by
 refine eF ?_
 unfold cU
 simp only [hc,cond_true]
 exact h
theorem aR{c a b:Operand}{v:SV}(hc:ar T c=some (.sc (.bool false)))(h:ar T b=some v):ReadDoes P T H ⟨d,.pick c a b,ty,pos,af,gd⟩ v:=by
 refine eF ?_
 unfold cU
 simp only [hc,cond_false]
 exact h
theorem aE{x:Operand}{i:Nat}{l:List SV}{v:SV}(h:ar T x=some (.tup l))(hi:l[i]? =some v):ReadDoes P T H ⟨d,.extract x i,ty,pos,af,gd⟩ v:=by
 refine eF ?_
 unfold cU
 simp only [h,zW,xR]
 exact hi
theorem ax{x:Operand}{b o:Nat}(h:ar T x=some (.ptr b o)):ReadDoes P T H ⟨d,.nilCheck x,ty,pos,af,gd⟩ (.ptr b o):=by
 refine eF ?_
 unfold cU
 simp only [h,zW,fh]
theorem aq{s:TypeId}{x:Operand}{f b o off:Nat}(hf:il P s f=some off)(h:ar T x=some (.ptr b o)):ReadDoes P T H ⟨d,.fieldAddr s x f,ty,pos,af,gd⟩ (.ptr b (o+off)):=by
 refine eF ?_
 unfold cU
 simp only [h,zW,fY]
 unfold il at hf
 cases hu:P.underlying s with
 | none=>rw [hu] at hf;cases hf
 | some dd=>
   rw [hu] at hf
   cases dd with
   | struct fields=>
     simp only at hf ⊢
     cases hx:fields[f]? with
     | none=>rw [hx] at hf;cases hf
     | some fd=>
       rw [hx] at hf
       simp only at hf ⊢
       cases hs:bC P fd.type with
       | none=>rw [hs] at hf;cases hf
       | some n=>
         rw [hs] at hf
         cases n with
         | zero=>cases hf
         | succ n=>simp only [zw] at hf;simp only [hf]
   | _=>cases hf
theorem pc{f:Fn}{a b:Array Operand}{x y:List SV}(ha:dy T a.toList=some x)(hb:dy T b.toList=some y):ReadDoes P T H ⟨d,.makeFunc f a b,ty,pos,af,gd⟩ (.fn f x y):=by
 refine eF ?_
 unfold cU
 simp only [ha,hb,zW,zV]
theorem aw{t:TypeId}{x:Operand}{b o:Nat}{vo:VO}{v:SV}(ha:b7 P t=some none)(hx:ar T x=some (.ptr b o))(hb:H.at' b=some vo)(hv:vo.cell o=some v):ReadDoes P T H ⟨d,.load t x,ty,pos,af,gd⟩ v:=by
 refine eF ?_
 unfold cU
 simp only [hx,mC,hb,ha]
 exact hv
theorem aC{t:TypeId}{x:Operand}{b o n:Nat}{vo:VO}{l:List SV}(ha:b7 P t=some (some n))(hx:ar T x=some (.ptr b o))(hb:H.at' b=some vo)(hv:vo.cellsFrom o n=some l):ReadDoes P T H ⟨d,.load t x,ty,pos,af,gd⟩ (.agg l):=by
 refine eF ?_
 unfold cU
 simp only [hx,mC,hb,ha,hv,zV]
theorem az{t:TypeId}{l:List SV}{o:Nat}{v:SV}(h:l[o]? =some v):(aG t l).cell o=some v:=by
 have hlt:=(zA.1 h).1
 simp only [aG,VO.cell,ii,h]
 rw [show Nat.blt o l.length=true from zD hlt]
 rfl
theorem ak{t:TypeId}{l:List SV}: ∀ (n o:Nat) {vs:List SV},(l.drop o).take n=vs→vs.length=n→(aG t l).cellsFrom o n=some vs
 | 0,o,vs,h,hn=>by
   have:vs= []:=zL hn
   subst this
   rfl
 | n+1,o,vs,h,hn=>by
   cases hd:l.drop o with
   | nil=>rw [hd] at h;subst h;simp at hn
   | cons x r=>
     rw [hd] at h
     simp only [List.take_succ_cons] at h
     subst h
     have hx:l[o]? =some x:=by
      have:=congrArg List.head? hd
      simpa using this
     have hr:l.drop (o+1)=r:=by
      have:=congrArg List.tail hd
      simpa using this
     simp only [VO.cellsFrom,az hx]
     rw [ak n (o+1) (vs:=r.take n) (by rw [hr]) (by simpa using hn)]
theorem qf{t:TypeId}{l:List SV}(hz:qW P t=some l):OpDoes P T H nx ⟨d,.alloc t,ty,pos,af,gd⟩ (.val (.ptr nx 0),H.set nx (aG t l),nx+1):=by
 refine gq ?_
 unfold fe qW at *
 cases hzz:c6 P t with
 | none=>rw [hzz] at hz;cases hz
 | some z=>rw [hzz] at hz;simp only [zV,zw] at hz;simp only [hzz,hz]
theorem tn{t:TypeId}{x:Operand}{l:List SV}(hx:ar T x=some (.agg l)):OpDoes P T H nx ⟨d,.box t x,ty,pos,af,gd⟩ (.val (.ptr nx 0),H.set nx (aG t l),nx+1):=by
 refine gq ?_
 unfold fe
 simp only [hx]
 rfl
theorem yW{t:TypeId}{x:Operand}{v:SV}{l:List SV}(hx:ar T x=some v)(hl:v.cells=l):OpDoes P T H nx ⟨d,.box t x,ty,pos,af,gd⟩ (.val (.ptr nx 0),H.set nx (aG t l),nx+1):=by
 refine gq ?_
 unfold fe
 simp only [hx,hl]
theorem jW{t:TypeId}: ∀ (vs l:List SV) (o:Nat),o+vs.length≤l.length→bU vs=true→(aG t l).setCells o vs=some (aG t (l.take o ++ vs ++ l.drop (o+vs.length)))
 | [],l,o,h,_=>by simp [VO.setCells]
 | v :: vs,l,o,h,h1=>by
   simp only [bU,zO] at h1
   simp only [zS] at h
   have hset:(aG t l).setCell o v=some (aG t (l.set o v)):=by
    simp only [aG,VO.setCell]
    rw [show Nat.blt o l.length=true from zD (by omega),h1.1]
    simp only [Bool.and_self,cond_true,zw,VO.cells.injEq,List.length_set,true_and]
    funext i
    simp only [eI,Tr.set]
    rw [List.getElem?_set]
    by_cases hi:o=i
    ·subst hi
     rw [if_pos rfl,if_pos (by omega),Nat.beq_refl]
     rfl
    ·rw [if_neg hi,show Nat.beq i o=false from by cases hb:Nat.beq i o with|false=>rfl|true=>exact absurd (Nat.eq_of_beq_eq_true hb).symm hi]
     rfl
   simp only [VO.setCells,hset]
   rw [jW vs (l.set o v) (o+1) (by rw [List.length_set];omega) h1.2]
   simp only [zw]
   congr 1
   have e1:(l.set o v).take (o+1)=l.take o ++ [v]:=by
    rw [List.take_set,List.set_eq_take_append_cons_drop,if_pos (by rw [List.length_take];omega),List.take_take,Nat.min_eq_left (by omega),List.drop_eq_nil_of_le (by rw [List.length_take];omega)]
   have e2:(l.set o v).drop (o+1+vs.length)=l.drop (o+(vs.length+1)):=by
    rw [List.drop_set_of_lt (by omega)]
    congr 1
    omega
   rw [e1,e2]
   simp
theorem jf{t:TypeId}{a x:Operand}{b o n:Nat}{bt:TypeId}{l vs:List SV}{v:SV}(hs:bC P t=some n)(ha:ar T a=some (.ptr b o))(hx:ar T x=some v)(hv:v.cells=vs)(hb:H.at' b=some (aG bt l))(hn:vs.length=n)(ho:o+n≤l.length)
 (h1:bU vs=true):OpDoes P T H nx ⟨d,.store t a x,ty,pos,af,gd⟩ (.skip,H.set b (aG bt (l.take o ++ vs ++ l.drop (o+n))),nx):=by
 refine gq ?_
 subst hn
 unfold fe
 simp only [ha,hx,hv,lG,hs,Nat.beq_refl,cond_true,dR,hb,jW vs l o ho h1]
theorem nD{t:TypeId}{a x:Operand}{b o:Nat}{bt:TypeId}{l:List SV}{v:SV}(hs:bC P t=some 1)(ha:ar T a=some (.ptr b o))(hx:ar T x=some v)(hb:H.at' b=some (aG bt l))(h1:v.one=true)(ho:o<l.length) :
 OpDoes P T H nx ⟨d,.store t a x,ty,pos,af,gd⟩ (.skip,H.set b (aG bt (l.set o v)),nx):=by
 have hv:v.cells= [v]:=by
  cases v with
  | sc c=>cases c <;> first|rfl|(simp [SV.one] at h1)
  | agg l=>simp [SV.one] at h1
  | _=>rfl
 have:=jf (d:=d) (ty:=ty) (pos:=pos) (af:=af) (gd:=gd) (nx:=nx) hs ha hx hv hb rfl (by omega) (by simp [bU,h1])
 rw [List.set_eq_take_append_cons_drop,if_pos ho]
 simpa using this
theorem c9{o:Oper}{v:Value}(h: ∀ ev w,(∀ x s,ar T x=some s→ ∀ u,s = .sc u→ev x=u)→(execOp ev o).run P w = .ok (.value v) w):ReadDoes P T H o (.sc v):=by
 intro K w0 e nx w ev hS hE
 refine⟨v,rfl,h ev w (fun x s hs u hu=>?_)⟩
 subst hu
 have:=hE x _ hs
 simpa [SV.conc] using this.symm
theorem an{op:BinOp}{t yt:TypeId}{x y:Operand}{k:IntKind}{a b c:Int}(hx:ar T x=some (.sc (.int k a)))(hy:ar T y=some (.sc (.int k b)))(hop:op = .add∧c=k.wrap (a+b)∨op = .sub∧c=k.wrap (a-b)∨op = .mul∧c=k.wrap (a*b)) :
 ReadDoes P T H ⟨d,.binOp op t x y yt,ty,pos,af,gd⟩ (.sc (.int k c)):=by
 refine c9 fun ev w he=>?_
 have e1:=he x _ hx _ rfl
 have e2:=he y _ hy _ rfl
 rcases hop with ⟨rfl,rfl⟩|⟨rfl,rfl⟩|⟨rfl,rfl⟩ <;> simp [execOp,e1,e2,eqGuard,binOp,Op.intArith]
theorem bi{op:BinOp}{t yt:TypeId}{x y:Operand}{k:IntKind}{a b:Int}{c:Bool}(hx:ar T x=some (.sc (.int k a)))(hy:ar T y=some (.sc (.int k b)))
 (hop:op = .eql∧c=(a == b)∨op = .neq∧c=(a != b)∨op = .lss∧c=decide (a<b)∨op = .leq∧c=decide (a≤b)∨op = .gtr∧c=decide (a>b)∨op = .geq∧c=decide (a≥b)) :
 ReadDoes P T H ⟨d,.binOp op t x y yt,ty,pos,af,gd⟩ (.sc (.bool c)):=by
 refine c9 fun ev w he=>?_
 have e1:=he x _ hx _ rfl
 have e2:=he y _ hy _ rfl
 rcases hop with ⟨rfl,rfl⟩|⟨rfl,rfl⟩|⟨rfl,rfl⟩|⟨rfl,rfl⟩|⟨rfl,rfl⟩|⟨rfl,rfl⟩ <;> simp [execOp,e1,e2,eqGuard,binOp,Op.intCmp]
theorem bq{t:TypeId}{x:Operand}{b:Bool}(hx:ar T x=some (.sc (.bool b))):ReadDoes P T H ⟨d,.unOp .not t x,ty,pos,af,gd⟩ (.sc (.bool (!b))):=by
 refine c9 fun ev w he=>?_
 have e1:=he x _ hx _ rfl
 simp [execOp,e1,Op.unary]
theorem wP{t yt:TypeId}{x y:Operand}{k:IntKind}{a b c:Int}(hx:ar T x=some (.sc (.int k a)))(hy:ar T y=some (.sc (.int k b)))(h0:b≠0)(hc:k.wrap (a.tdiv b)=c) :
 ReadDoes P T H ⟨d,.binOp .quo t x y yt,ty,pos,af,gd⟩ (.sc (.int k c)):=by
 refine c9 fun ev w he=>?_
 have e1:=he x _ hx _ rfl
 have e2:=he y _ hy _ rfl
 subst hc
 simp [execOp,e1,e2,eqGuard,binOp,Op.intDiv,h0]
def rP(op:BinOp)(k:IntKind)(a b:Int):Int:=match op with
 | .and=>k.wrap (BitVec.ofInt k.bits a &&& BitVec.ofInt k.bits b).toNat
 | .or=>k.wrap (BitVec.ofInt k.bits a ||| BitVec.ofInt k.bits b).toNat
 | .xor=>k.wrap (BitVec.ofInt k.bits a ^^^ BitVec.ofInt k.bits b).toNat
 | _=>k.wrap (BitVec.ofInt k.bits a &&& ~~~(BitVec.ofInt k.bits b)).toNat
theorem sU{op:BinOp}{t yt:TypeId}{x y:Operand}{k:IntKind}{a b c:Int}(hx:ar T x=some (.sc (.int k a)))(hy:ar T y=some (.sc (.int k b)))(ho:op = .and∨op = .or∨op = .xor∨op = .andNot)(hc:rP op k a b=c) :
 ReadDoes P T H ⟨d,.binOp op t x y yt,ty,pos,af,gd⟩ (.sc (.int k c)):=by
 refine c9 fun ev w he=>?_
 have e1:=he x _ hx _ rfl
 have e2:=he y _ hy _ rfl
 subst hc
 rcases ho with rfl|rfl|rfl|rfl <;> simp [execOp,e1,e2,eqGuard,binOp,Op.intBits,rP]
theorem wO{t yt:TypeId}{x y:Operand}{k k2:IntKind}{a b c:Int}(hx:ar T x=some (.sc (.int k a)))(hy:ar T y=some (.sc (.int k2 b)))(h0:0≤b)(hc:k.wrap (a*2 ^ (min b.toNat k.bits))=c) :
 ReadDoes P T H ⟨d,.binOp .shl t x y yt,ty,pos,af,gd⟩ (.sc (.int k c)):=by
 refine c9 fun ev w he=>?_
 have e1:=he x _ hx _ rfl
 have e2:=he y _ hy _ rfl
 subst hc
 have h1: ¬ b<0:=by omega
 simp [execOp,e1,e2,eqGuard,binOp,Op.shift,h1]
theorem wN{t yt:TypeId}{x y:Operand}{k k2:IntKind}{a b c:Int}(hx:ar T x=some (.sc (.int k a)))(hy:ar T y=some (.sc (.int k2 b)))(h0:0≤b)(hc:a.fdiv (2 ^ (min b.toNat k.bits))=c) :
 ReadDoes P T H ⟨d,.binOp .shr t x y yt,ty,pos,af,gd⟩ (.sc (.int k c)):=by
 refine c9 fun ev w he=>?_
 have e1:=he x _ hx _ rfl
 have e2:=he y _ hy _ rfl
 subst hc
 have h1: ¬ b<0:=by omega
 simp [execOp,e1,e2,eqGuard,binOp,Op.shift,h1]
theorem xD{s t:TypeId}{su:TypeDesc}{x:Operand}{k k2:IntKind}{a c:Int}(hs:P.underlying s=some su)(hu:P.underlying t=some (.int k))(hx:ar T x=some (.sc (.int k2 a)))(hc:k.wrap a=c) :
 ReadDoes P T H ⟨d,.convert s t x,ty,pos,af,gd⟩ (.sc (.int k c)):=by
 refine c9 fun ev w he=>?_
 have e1:=he x _ hx _ rfl
 subst hc
 simp [execOp,e1,convert,run_underlying hs,run_underlying hu,Conv.intToInt]
def ym(P:Program)(t:TypeId):Option (List (Nat×Nat)):=match P.underlying t with
 | some (.struct fields)=>jX P fields.toList
 | _=>none
theorem aU{t:TypeId}{parts:List (Nat×Operand)}{ps:List (Nat×SV)}{pl:List (Nat×Nat)}{z:Value}{cs:List SV}(hp:iX T parts=some ps)(hz:c6 P t=some z)(hl:ym P t=some pl)(hf:gB (fun i=>pl[i]?) (z.cells.toList.map .sc) ps=some cs) :
 ReadDoes P T H ⟨d,.build t parts.toArray,ty,pos,af,gd⟩ (.agg cs):=by
 refine eF ?_
 unfold ym at hl
 cases hu:P.underlying t with
 | none=>rw [hu] at hl;cases hl
 | some u=>
   rw [hu] at hl
   cases u with
   | struct fields=>simp only [cU,hp,zW,qN,hz,hu,hl,hf,zV]
   | _=>cases hl
theorem aP{t:TypeId}{e:TypeId}{x:Operand}{b eo n:Nat}(hu:P.underlying t=some (.slice e))(hx:ar T x=some (.slu b eo n)):ReadDoes P T H ⟨d,.call {callee:= .builtin .len,args:= #[x],argTypes:= #[t]},ty,pos,af,gd⟩ (.sc (.int .i64 n)):=by
 refine eF ?_
 simp only [cU,kP,hx,zW,vZ,hu]
theorem aI{t:TypeId}{x:Operand}{s:ByteArray}(hu:P.underlying t=some .string)(hx:ar T x=some (.sc (.string s))):ReadDoes P T H ⟨d,.call {callee:= .builtin .len,args:= #[x],argTypes:= #[t]},ty,pos,af,gd⟩ (.sc (.int .i64 s.size)):=by
 refine c9 fun ev w he=>?_
 have e1:=he x _ hx _ rfl
 simp [execOp,resolve,invoke,builtin,e1,Builtin.len_,run_underlying hu,goInt]
def dat(ro:Bool)(ne sz:Nat)(t:TypeId)(vs:List Value):VO:= .row ro ne sz t (fun i=>(vs[i]?).map .sc)
theorem mj(ρ:Nat→Nat)(ro:Bool)(ne sz:Nat)(t:TypeId)(vs:List Value):(dat ro ne sz t vs).ren ρ=dat ro ne sz t vs:=by
 show VO.row ro ne sz t (rX ρ _)=VO.row ro ne sz t _
 congr 1
 funext i
 show((vs[i]?).map SV.sc).map (SV.ren ρ)=(vs[i]?).map SV.sc
 cases vs[i]? <;> rfl
theorem sL(ρ:Nat→Nat)(t:TypeId)(l:List SV):(aG t l).ren ρ=aG t (SV.gV ρ l):=by
 rw [SV.oP]
 simp only [aG,VO.ren,List.length_map]
 congr 1
 funext i
 show((l[i]?).map (SV.ren ρ))=(l.map (SV.ren ρ))[i]?
 rw [List.getElem?_map]
theorem jr{ro:Bool}{ne sz:Nat}{t:TypeId}{vs:List Value}{i:Nat}{v:Value}(hi:i<ne*sz)(hv:vs[i]? =some v):(dat ro ne sz t vs).cell i=some (.sc v):=by
 simp only [dat,VO.cell,Tr.at',hv,zV]
 rw [show Nat.blt i (ne*sz)=true from zD hi]
 rfl
theorem fi{ro:Bool}{ne sz:Nat}{t:TypeId}{vs:List Value}: ∀ (n o:Nat) {us:List Value},(vs.drop o).take n=us→us.length=n→o+n≤ne*sz→(dat ro ne sz t vs).cellsFrom o n=some (us.map .sc)
 | 0,o,us,h,hn,_=>by
   have:us= []:=zL hn
   subst this
   rfl
 | n+1,o,us,h,hn,hl=>by
   cases hd:vs.drop o with
   | nil=>rw [hd] at h;subst h;simp at hn
   | cons x r=>
     rw [hd] at h
     simp only [List.take_succ_cons] at h
     subst h
     have hx:vs[o]? =some x:=by
      have:=congrArg List.head? hd
      simpa using this
     have hr:vs.drop (o+1)=r:=by
      have:=congrArg List.tail hd
      simpa using this
     simp only [VO.cellsFrom,jr (ro:=ro) (t:=t) (sz:=sz) (show o<ne*sz by omega) hx]
     rw [fi n (o+1) (us:=r.take n) (by rw [hr]) (by simpa using hn) (by omega)]
     rfl
theorem mn{t e:TypeId}{x y:Operand}{b eo n:Nat}{k:IntKind}{i:Int}{ro:Bool}{ne sz:Nat}{rt:TypeId}{c:Tr SV}(hu:P.underlying t=some (.slice e))(hs:bC P e=some sz)(hx:ar T x=some (.slu b eo n))(hy:ar T y=some (.sc (.int k i)))
 (hb:H.at' b=some (.row ro ne sz rt c)) (h0:0≤i) (hi:i<n) (hne:eo+n≤ne):ReadDoes P T H ⟨d,.indexAddr t x y,ty,pos,af,gd⟩ (.ptr b ((eo+i.toNat)*sz)):=by
 refine eF ?_
 obtain⟨j,rfl⟩:=Int.eq_ofNat_of_zero_le h0
 have hj:j<n:=by omega
 simp only [cU,tF,hx,hy,zW,dP,hu,hs,hb,Nat.beq_refl,Int.toNat_natCast]
 rw [show Nat.ble (eo+n) ne=true from zD hne,show Nat.blt j n=true from zD hj]
 rfl
end
def OkAll{A:Type}(p:Nat→A→Prop):Nat→List (Option A)→Prop
 | _,[]=>True
 | i,none :: l=>OkAll p (i+1) l
 | i,some x :: l=>p i x∧OkAll p (i+1) l
theorem OkAll.get{A:Type}{p:Nat→A→Prop}: ∀ {l:List (Option A)} {k:Nat},OkAll p k l→ ∀ {i:Nat} {x:A},l[i]? =some (some x)→p (k+i) x
 | [],k,_,i,x,h=>by simp at h
 | none :: l,k,hh,i,x,h=>by
   cases i with
   | zero=>simp at h
   | succ i=>rw [show k+(i+1)=k+1+i by omega];exact OkAll.get (l:=l) (k:=k+1) hh (by simpa using h)
 | some y :: l,k,hh,i,x,h=>by
   cases i with
   | zero=>simp only [zN,zw] at h;subst h;exact hh.1
   | succ i=>rw [show k+(i+1)=k+1+i by omega];exact OkAll.get (l:=l) (k:=k+1) hh.2 (by simpa using h)
def OkL{A:Type}(p:Nat→A→Prop):Nat→List A→Prop
 | _,[]=>True
 | i,x :: l=>p i x∧OkL p (i+1) l
theorem OkL.get{A:Type}{p:Nat→A→Prop}: ∀ {l:List A} {k:Nat},OkL p k l→ ∀ {i:Nat} {x:A},l[i]? =some x→p (k+i) x
 | [],k,_,i,x,h=>by simp at h
 | y :: l,k,hh,i,x,h=>by
   cases i with
   | zero=>simp only [zN,zw] at h;subst h;exact hh.1
   | succ i=>rw [show k+(i+1)=k+1+i by omega];exact OkL.get (l:=l) (k:=k+1) hh.2 (by simpa using h)
inductive LoadIs (P:Program) (H:aV) (t:TypeId) (b o:Nat):SV→Prop
 | one {vo:VO} {v:SV} (ha:b7 P t=some none) (hb:H.at' b=some vo) (hv:vo.cell o=some v):LoadIs P H t b o v
 | many {n:Nat} {vo:VO} {l:List SV} (ha:b7 P t=some (some n)) (hb:H.at' b=some vo) (hv:vo.cellsFrom o n=some l):LoadIs P H t b o (.agg l)
inductive ResIs (P:Program) (H:aV) (T:Tr SV):List ResultVar→List SV→Prop
 | nil:ResIs P H T [] []
 | tmp {t:Tmp} {l:List ResultVar} {v:SV} {vs:List SV} (hv:T.at' t=some v) (h:ResIs P H T l vs):ResIs P H T (.tmp t :: l) (v :: vs)
 | cell {a:Tmp} {t:TypeId} {b o:Nat} {l:List ResultVar} {v:SV} {vs:List SV} (ha:T.at' a=some (.ptr b o)) (hv:LoadIs P H t b o v) (h:ResIs P H T l vs):ResIs P H T (.cell a t :: l) (v :: vs)
theorem ResIs.res{P:Program}{H:aV}{T:Tr SV}{l:List ResultVar}{vs:List SV}(h:ResIs P H T l vs):mi P H T l=some vs:=by
 induction h with
 | nil=>rfl
 | tmp hv _ ih=>simp only [mi,hv,ih]
 | cell ha hv _ ih=>
   cases hv with
   | one hag hb hv=>simp only [mi,ha,hb,hag,hv,ih]
   | many hag hb hv=>simp only [mi,ha,hb,hag,hv,ih]
section
variable {P:Program} {ro:Option Nat} {fn nt nx:Nat} {T:Tr SV} {k:List AIt} {dfs:List ADf} {H:aV} {Q:Pst} {ops:Array Oper} {i:Nat} {l:List Oper} {d:Option Tmp} {ty:TypeId} {pos:String} {af:Array Edge} {gd:Option (Nat×Bool)}
theorem Fnc.start{f:FuncId}{F:Func}{args:List SV}{c:Code}{n:Nat}(hf:P.funcs[f]? =some F)(hb:F.body=some c)(hn:F.ntmps=n)(h:Wp P none ⟨f,max args.length n,iQ .nil 0 args,[.code c],[],H,nx⟩ Q):Fnc P f args H nx Q:=
 .enter (by simp only [qO,hf,hb]) (by simp only [yY,hf,hn]) h
theorem bj{F:Func}{rl:List ResultVar}{vs:List SV}(hf:P.funcs[fn]? =some F)(hl:F.results.toList=rl)(hv:ResIs P H T rl vs)(h:Q (gg vs,H,nx)):Wp P none ⟨fn,nt,T,.code .ret :: k,[],H,nx⟩ Q:=
 y_ret (by simp only [eV,hf,hl]) hv.res h
theorem lm{F:Func}{rl:List ResultVar}{vs:List SV}(hf:P.funcs[fn]? =some F)(hl:F.results.toList=rl)(hv:ResIs P H T rl vs)(h:Q (gg vs,H,nx)):Wp P none ⟨fn,nt,T,[],[],H,nx⟩ Q:=
 y_end (by simp only [eV,hf,hl]) hv.res h
theorem ai{id:Nat}{ops:List Oper}(h:Wp P ro ⟨fn,nt,T,.inReg ops.toArray 0 ops :: k,dfs,H,nx⟩ Q):Wp P ro ⟨fn,nt,T,.code (.region id ops.toArray false) :: k,dfs,H,nx⟩ Q:=uU h
theorem sg{a b:Int}(h1:0≤a)(h2:a≤9223372036854775807)(h3:0<b):IntKind.i64.wrap (a.tdiv b)=a / b:=by
 rw [Int.tdiv_eq_ediv_of_nonneg h1]
 exact zx _ ⟨Int.le_trans (by decide) (Int.ediv_nonneg h1 (by omega)),Int.le_trans (Int.ediv_le_self _ h1) h2⟩
theorem aK{d:Tmp}{v:SV}(h:Nat.blt d nt=true):gJ nt T (some d) v=T.set d v:=by simp only [gJ,h,cond_true]
theorem ix{o:Oper}(hw:aA T ops o=some false)(h:Wp P ro ⟨fn,nt,gJ nt T o.dst cX,.inReg ops (i+1) l :: k,dfs,H,nx⟩ Q):Wp P ro ⟨fn,nt,T,.inReg ops i (o :: l) :: k,dfs,H,nx⟩ Q:=y_not hw h
theorem am{x:Operand}{v:SV}{dd:Nat}(hw:aA T ops ⟨some dd,.move x,ty,pos,af,gd⟩=some true)(hd:Nat.blt dd nt=true)(hx:ar T x=some v)
 (h:Wp P ro ⟨fn,nt,T.set dd v,.inReg ops (i+1) l :: k,dfs,H,nx⟩ Q):Wp P ro ⟨fn,nt,T,.inReg ops i (⟨some dd,.move x,ty,pos,af,gd⟩ :: l) :: k,dfs,H,nx⟩ Q:=
 bS hw (.inr (fun _ h=>by cases h)) ((aY hx).does) (by rw [aK hd];exact h)
theorem aj{x:Operand}{v:SV}{dd:Nat}(hw:aA T ops ⟨some dd,.assign x,ty,pos,af,gd⟩=some true)(hd:Nat.blt dd nt=true)(hx:ar T x=some v)
 (h:Wp P ro ⟨fn,nt,T.set dd v,.inReg ops (i+1) l :: k,dfs,H,nx⟩ Q):Wp P ro ⟨fn,nt,T,.inReg ops i (⟨some dd,.assign x,ty,pos,af,gd⟩ :: l) :: k,dfs,H,nx⟩ Q:=
 bS hw (.inr (fun _ h=>by cases h)) ((aH hx).does) (by rw [aK hd];exact h)
theorem ce{c a b:Operand}{v:SV}{dd:Nat}(hw:aA T ops ⟨some dd,.pick c a b,ty,pos,af,gd⟩=some true)(hd:Nat.blt dd nt=true)(hc:ar T c=some (.sc (.bool true)))(hx:ar T a=some v)
 (h:Wp P ro ⟨fn,nt,T.set dd v,.inReg ops (i+1) l :: k,dfs,H,nx⟩ Q):Wp P ro ⟨fn,nt,T,.inReg ops i (⟨some dd,.pick c a b,ty,pos,af,gd⟩ :: l) :: k,dfs,H,nx⟩ Q:=
 bS hw (.inr (fun _ h=>by cases h)) ((aQ hc hx).does) (by rw [aK hd];exact h)
theorem bO{c a b:Operand}{v:SV}{dd:Nat}(hw:aA T ops ⟨some dd,.pick c a b,ty,pos,af,gd⟩=some true)(hd:Nat.blt dd nt=true)(hc:ar T c=some (.sc (.bool false)))(hx:ar T b=some v)
 (h:Wp P ro ⟨fn,nt,T.set dd v,.inReg ops (i+1) l :: k,dfs,H,nx⟩ Q):Wp P ro ⟨fn,nt,T,.inReg ops i (⟨some dd,.pick c a b,ty,pos,af,gd⟩ :: l) :: k,dfs,H,nx⟩ Q:=
 bS hw (.inr (fun _ h=>by cases h)) ((aR hc hx).does) (by rw [aK hd];exact h)
theorem bX{x:Operand}{j:Nat}{xs:List SV}{v:SV}{dd:Nat}(hw:aA T ops ⟨some dd,.extract x j,ty,pos,af,gd⟩=some true)(hd:Nat.blt dd nt=true)(hx:ar T x=some (.tup xs))(hj:xs[j]? =some v)
 (h:Wp P ro ⟨fn,nt,T.set dd v,.inReg ops (i+1) l :: k,dfs,H,nx⟩ Q):Wp P ro ⟨fn,nt,T,.inReg ops i (⟨some dd,.extract x j,ty,pos,af,gd⟩ :: l) :: k,dfs,H,nx⟩ Q:=
 bS hw (.inr (fun _ h=>by cases h)) ((aE hx hj).does) (by rw [aK hd];exact h)
theorem aJ{x:Operand}{b o:Nat}{dd:Nat}(hw:aA T ops ⟨some dd,.nilCheck x,ty,pos,af,gd⟩=some true)(hd:Nat.blt dd nt=true)(hx:ar T x=some (.ptr b o))
 (h:Wp P ro ⟨fn,nt,T.set dd (.ptr b o),.inReg ops (i+1) l :: k,dfs,H,nx⟩ Q):Wp P ro ⟨fn,nt,T,.inReg ops i (⟨some dd,.nilCheck x,ty,pos,af,gd⟩ :: l) :: k,dfs,H,nx⟩ Q:=
 bS hw (.inr (fun _ h=>by cases h)) ((ax hx).does) (by rw [aK hd];exact h)
theorem au{s:TypeId}{x:Operand}{f b o off:Nat}{dd:Nat}(hw:aA T ops ⟨some dd,.fieldAddr s x f,ty,pos,af,gd⟩=some true)(hd:Nat.blt dd nt=true)(hx:ar T x=some (.ptr b o))(hf:il P s f=some off)
 (h:Wp P ro ⟨fn,nt,T.set dd (.ptr b (o+off)),.inReg ops (i+1) l :: k,dfs,H,nx⟩ Q):Wp P ro ⟨fn,nt,T,.inReg ops i (⟨some dd,.fieldAddr s x f,ty,pos,af,gd⟩ :: l) :: k,dfs,H,nx⟩ Q:=
 bS hw (.inr (fun _ h=>by cases h)) ((aq hf hx).does) (by rw [aK hd];exact h)
theorem jA{f:Go.Fn}{a b:Array Operand}{x y:List SV}{dd:Nat}(hw:aA T ops ⟨some dd,.makeFunc f a b,ty,pos,af,gd⟩=some true)(hd:Nat.blt dd nt=true)(ha:dy T a.toList=some x)(hb:dy T b.toList=some y)
 (h:Wp P ro ⟨fn,nt,T.set dd (.fn f x y),.inReg ops (i+1) l :: k,dfs,H,nx⟩ Q):Wp P ro ⟨fn,nt,T,.inReg ops i (⟨some dd,.makeFunc f a b,ty,pos,af,gd⟩ :: l) :: k,dfs,H,nx⟩ Q:=
 bS hw (.inr (fun _ h=>by cases h)) ((pc ha hb).does) (by rw [aK hd];exact h)
theorem aL{t bt:TypeId}{x:Operand}{b o:Nat}{cs:List SV}{v:SV}{dd:Nat}(hw:aA T ops ⟨some dd,.load t x,ty,pos,af,gd⟩=some true)(hd:Nat.blt dd nt=true)(hx:ar T x=some (.ptr b o))(ha:b7 P t=some none)(hb:H.at' b=some (aG bt cs))(hv:cs[o]? =some v)
 (h:Wp P ro ⟨fn,nt,T.set dd v,.inReg ops (i+1) l :: k,dfs,H,nx⟩ Q):Wp P ro ⟨fn,nt,T,.inReg ops i (⟨some dd,.load t x,ty,pos,af,gd⟩ :: l) :: k,dfs,H,nx⟩ Q:=
 bS hw (.inr (fun _ h=>by cases h)) ((aw ha hx hb (az hv)).does) (by rw [aK hd];exact h)
theorem jC{t:TypeId}{cs:List SV}{dd:Nat}(hw:aA T ops ⟨some dd,.alloc t,ty,pos,af,gd⟩=some true)(hd:Nat.blt dd nt=true)(hz:qW P t=some cs)
 (h:Wp P ro ⟨fn,nt,T.set dd (.ptr nx 0),.inReg ops (i+1) l :: k,dfs,(H.set nx (aG t cs)),(nx+1)⟩ Q):Wp P ro ⟨fn,nt,T,.inReg ops i (⟨some dd,.alloc t,ty,pos,af,gd⟩ :: l) :: k,dfs,H,nx⟩ Q:=
 bS hw (.inr (fun _ h=>by cases h)) (qf hz) (by rw [aK hd];exact h)
theorem iD{t:TypeId}{x:Operand}{cs:List SV}{dd:Nat}(hw:aA T ops ⟨some dd,.box t x,ty,pos,af,gd⟩=some true)(hd:Nat.blt dd nt=true)(hx:ar T x=some (.agg cs))
 (h:Wp P ro ⟨fn,nt,T.set dd (.ptr nx 0),.inReg ops (i+1) l :: k,dfs,(H.set nx (aG t cs)),(nx+1)⟩ Q):Wp P ro ⟨fn,nt,T,.inReg ops i (⟨some dd,.box t x,ty,pos,af,gd⟩ :: l) :: k,dfs,H,nx⟩ Q:=
 bS hw (.inr (fun _ h=>by cases h)) (tn hx) (by rw [aK hd];exact h)
theorem vg{t:TypeId}{x:Operand}{v:SV}{dd:Nat}(hw:aA T ops ⟨some dd,.box t x,ty,pos,af,gd⟩=some true)(hd:Nat.blt dd nt=true)(hx:ar T x=some v)(h1:v.cells= [v])
 (h:Wp P ro ⟨fn,nt,T.set dd (.ptr nx 0),.inReg ops (i+1) l :: k,dfs,(H.set nx (aG t [v])),(nx+1)⟩ Q):Wp P ro ⟨fn,nt,T,.inReg ops i (⟨some dd,.box t x,ty,pos,af,gd⟩ :: l) :: k,dfs,H,nx⟩ Q:=
 bS hw (.inr (fun _ h=>by cases h)) (yW hx h1) (by rw [aK hd];exact h)
theorem pT{t bt:TypeId}{a x:Operand}{b o:Nat}{cs:List SV}{v:SV}(hw:aA T ops ⟨none,.store t a x,ty,pos,af,gd⟩=some true)(ha:ar T a=some (.ptr b o))(hx:ar T x=some v)(hs:bC P t=some 1)(hb:H.at' b=some (aG bt cs))(h1:v.one=true)(ho:Nat.blt o cs.length=true)
 (h:Wp P ro ⟨fn,nt,T,.inReg ops (i+1) l :: k,dfs,(H.set b (aG bt (cs.set o v))),nx⟩ Q):Wp P ro ⟨fn,nt,T,.inReg ops i (⟨none,.store t a x,ty,pos,af,gd⟩ :: l) :: k,dfs,H,nx⟩ Q:=
 mX hw (.inr (fun _ h=>by cases h)) (nD hs ha hx hb h1 (zB ho)) h
theorem uX{t bt:TypeId}{a x:Operand}{b o n:Nat}{cs vs cs':List SV}(hw:aA T ops ⟨none,.store t a x,ty,pos,af,gd⟩=some true)(ha:ar T a=some (.ptr b o))(hx:ar T x=some (.agg vs))(hs:bC P t=some n)(hb:H.at' b=some (aG bt cs))(hn:vs.length=n)(ho:o+n≤cs.length)(h1:bU vs=true)(hc:cs.take o ++ vs ++ cs.drop (o+n)=cs')
 (h:Wp P ro ⟨fn,nt,T,.inReg ops (i+1) l :: k,dfs,(H.set b (aG bt cs')),nx⟩ Q):Wp P ro ⟨fn,nt,T,.inReg ops i (⟨none,.store t a x,ty,pos,af,gd⟩ :: l) :: k,dfs,H,nx⟩ Q:=
 mX hw (.inr (fun _ h=>by cases h)) (hc ▸ jf hs ha hx rfl hb hn ho h1) h
theorem bT{t yt:TypeId}{x y:Operand}{a b:Int}{dd:Nat}(hw:aA T ops ⟨some dd,.binOp .add t x y yt,ty,pos,af,gd⟩=some true)(hd:Nat.blt dd nt=true)(hx:ar T x=some (.sc (.int .i64 a)))(hy:ar T y=some (.sc (.int .i64 b)))(h1 : -9223372036854775808≤a+b)(h2:a+b≤9223372036854775807)
 (h:Wp P ro ⟨fn,nt,T.set dd (.sc (.int .i64 (a+b))),.inReg ops (i+1) l :: k,dfs,H,nx⟩ Q):Wp P ro ⟨fn,nt,T,.inReg ops i (⟨some dd,.binOp .add t x y yt,ty,pos,af,gd⟩ :: l) :: k,dfs,H,nx⟩ Q:=
 bS hw (.inr (fun _ h=>by cases h)) ((an hx hy (.inl ⟨rfl,(zx _ ⟨h1,h2⟩).symm⟩)).does) (by rw [aK hd];exact h)
theorem yu{t yt:TypeId}{x y:Operand}{kd:IntKind}{a b:Int}{dd:Nat}(hw:aA T ops ⟨some dd,.binOp .sub t x y yt,ty,pos,af,gd⟩=some true)(hd:Nat.blt dd nt=true)(hx:ar T x=some (.sc (.int kd a)))(hy:ar T y=some (.sc (.int kd b)))
 (h:Wp P ro ⟨fn,nt,T.set dd (.sc (.int kd (kd.wrap (a-b)))),.inReg ops (i+1) l :: k,dfs,H,nx⟩ Q):Wp P ro ⟨fn,nt,T,.inReg ops i (⟨some dd,.binOp .sub t x y yt,ty,pos,af,gd⟩ :: l) :: k,dfs,H,nx⟩ Q:=
 bS hw (.inr (fun _ h=>by cases h)) ((an hx hy (.inr (.inl ⟨rfl,rfl⟩))).does) (by rw [aK hd];exact h)
theorem dB{t yt:TypeId}{x y:Operand}{a b:Int}{dd:Nat}(hw:aA T ops ⟨some dd,.binOp .sub t x y yt,ty,pos,af,gd⟩=some true)(hd:Nat.blt dd nt=true)(hx:ar T x=some (.sc (.int .i64 a)))(hy:ar T y=some (.sc (.int .i64 b)))(h1 : -9223372036854775808≤a-b)(h2:a-b≤9223372036854775807)
 (h:Wp P ro ⟨fn,nt,T.set dd (.sc (.int .i64 (a-b))),.inReg ops (i+1) l :: k,dfs,H,nx⟩ Q):Wp P ro ⟨fn,nt,T,.inReg ops i (⟨some dd,.binOp .sub t x y yt,ty,pos,af,gd⟩ :: l) :: k,dfs,H,nx⟩ Q:=
 bS hw (.inr (fun _ h=>by cases h)) ((an hx hy (.inr (.inl ⟨rfl,(zx _ ⟨h1,h2⟩).symm⟩))).does) (by rw [aK hd];exact h)
theorem uY{t yt:TypeId}{x y:Operand}{a b:Int}{dd:Nat}(hw:aA T ops ⟨some dd,.binOp .mul t x y yt,ty,pos,af,gd⟩=some true)(hd:Nat.blt dd nt=true)(hx:ar T x=some (.sc (.int .i64 a)))(hy:ar T y=some (.sc (.int .i64 b)))(h1 : -9223372036854775808≤a*b)(h2:a*b≤9223372036854775807)
 (h:Wp P ro ⟨fn,nt,T.set dd (.sc (.int .i64 (a*b))),.inReg ops (i+1) l :: k,dfs,H,nx⟩ Q):Wp P ro ⟨fn,nt,T,.inReg ops i (⟨some dd,.binOp .mul t x y yt,ty,pos,af,gd⟩ :: l) :: k,dfs,H,nx⟩ Q:=
 bS hw (.inr (fun _ h=>by cases h)) ((an hx hy (.inr (.inr ⟨rfl,(zx _ ⟨h1,h2⟩).symm⟩))).does) (by rw [aK hd];exact h)
theorem u9{t yt:TypeId}{x y:Operand}{kd:IntKind}{a b:Int}{dd:Nat}(hw:aA T ops ⟨some dd,.binOp .eql t x y yt,ty,pos,af,gd⟩=some true)(hd:Nat.blt dd nt=true)(hx:ar T x=some (.sc (.int kd a)))(hy:ar T y=some (.sc (.int kd b)))
 (h:Wp P ro ⟨fn,nt,T.set dd (.sc (.bool (a == b))),.inReg ops (i+1) l :: k,dfs,H,nx⟩ Q):Wp P ro ⟨fn,nt,T,.inReg ops i (⟨some dd,.binOp .eql t x y yt,ty,pos,af,gd⟩ :: l) :: k,dfs,H,nx⟩ Q:=
 bS hw (.inr (fun _ h=>by cases h)) ((bi hx hy (.inl ⟨rfl,rfl⟩)).does) (by rw [aK hd];exact h)
theorem yz{t yt:TypeId}{x y:Operand}{kd:IntKind}{a b:Int}{dd:Nat}(hw:aA T ops ⟨some dd,.binOp .neq t x y yt,ty,pos,af,gd⟩=some true)(hd:Nat.blt dd nt=true)(hx:ar T x=some (.sc (.int kd a)))(hy:ar T y=some (.sc (.int kd b)))
 (h:Wp P ro ⟨fn,nt,T.set dd (.sc (.bool (a != b))),.inReg ops (i+1) l :: k,dfs,H,nx⟩ Q):Wp P ro ⟨fn,nt,T,.inReg ops i (⟨some dd,.binOp .neq t x y yt,ty,pos,af,gd⟩ :: l) :: k,dfs,H,nx⟩ Q:=
 bS hw (.inr (fun _ h=>by cases h)) ((bi hx hy (.inr (.inl ⟨rfl,rfl⟩))).does) (by rw [aK hd];exact h)
theorem yA{t yt:TypeId}{x y:Operand}{kd:IntKind}{a b:Int}{dd:Nat}(hw:aA T ops ⟨some dd,.binOp .lss t x y yt,ty,pos,af,gd⟩=some true)(hd:Nat.blt dd nt=true)(hx:ar T x=some (.sc (.int kd a)))(hy:ar T y=some (.sc (.int kd b)))
 (h:Wp P ro ⟨fn,nt,T.set dd (.sc (.bool (decide (a<b)))),.inReg ops (i+1) l :: k,dfs,H,nx⟩ Q):Wp P ro ⟨fn,nt,T,.inReg ops i (⟨some dd,.binOp .lss t x y yt,ty,pos,af,gd⟩ :: l) :: k,dfs,H,nx⟩ Q:=
 bS hw (.inr (fun _ h=>by cases h)) ((bi hx hy (.inr (.inr (.inl ⟨rfl,rfl⟩)))).does) (by rw [aK hd];exact h)
theorem w_leq{t yt:TypeId}{x y:Operand}{kd:IntKind}{a b:Int}{dd:Nat}(hw:aA T ops ⟨some dd,.binOp .leq t x y yt,ty,pos,af,gd⟩=some true)(hd:Nat.blt dd nt=true)(hx:ar T x=some (.sc (.int kd a)))(hy:ar T y=some (.sc (.int kd b)))
 (h:Wp P ro ⟨fn,nt,T.set dd (.sc (.bool (decide (a≤b)))),.inReg ops (i+1) l :: k,dfs,H,nx⟩ Q):Wp P ro ⟨fn,nt,T,.inReg ops i (⟨some dd,.binOp .leq t x y yt,ty,pos,af,gd⟩ :: l) :: k,dfs,H,nx⟩ Q:=
 bS hw (.inr (fun _ h=>by cases h)) ((bi hx hy (.inr (.inr (.inr (.inl ⟨rfl,rfl⟩))))).does) (by rw [aK hd];exact h)
theorem w_gtr{t yt:TypeId}{x y:Operand}{kd:IntKind}{a b:Int}{dd:Nat}(hw:aA T ops ⟨some dd,.binOp .gtr t x y yt,ty,pos,af,gd⟩=some true)(hd:Nat.blt dd nt=true)(hx:ar T x=some (.sc (.int kd a)))(hy:ar T y=some (.sc (.int kd b)))
 (h:Wp P ro ⟨fn,nt,T.set dd (.sc (.bool (decide (a>b)))),.inReg ops (i+1) l :: k,dfs,H,nx⟩ Q):Wp P ro ⟨fn,nt,T,.inReg ops i (⟨some dd,.binOp .gtr t x y yt,ty,pos,af,gd⟩ :: l) :: k,dfs,H,nx⟩ Q:=
 bS hw (.inr (fun _ h=>by cases h)) ((bi hx hy (.inr (.inr (.inr (.inr (.inl ⟨rfl,rfl⟩)))))).does) (by rw [aK hd];exact h)
theorem xj{t yt:TypeId}{x y:Operand}{kd:IntKind}{a b:Int}{dd:Nat}(hw:aA T ops ⟨some dd,.binOp .geq t x y yt,ty,pos,af,gd⟩=some true)(hd:Nat.blt dd nt=true)(hx:ar T x=some (.sc (.int kd a)))(hy:ar T y=some (.sc (.int kd b)))
 (h:Wp P ro ⟨fn,nt,T.set dd (.sc (.bool (decide (a≥b)))),.inReg ops (i+1) l :: k,dfs,H,nx⟩ Q):Wp P ro ⟨fn,nt,T,.inReg ops i (⟨some dd,.binOp .geq t x y yt,ty,pos,af,gd⟩ :: l) :: k,dfs,H,nx⟩ Q:=
 bS hw (.inr (fun _ h=>by cases h)) ((bi hx hy (.inr (.inr (.inr (.inr (.inr (⟨rfl,rfl⟩))))))).does) (by rw [aK hd];exact h)
theorem cF{t yt:TypeId}{x y:Operand}{kd:IntKind}{a b:Int}{dd:Nat}(hw:aA T ops ⟨some dd,.binOp .eql t x y yt,ty,pos,af,gd⟩=some true)(hd:Nat.blt dd nt=true)(hx:ar T x=some (.sc (.int kd a)))(hy:ar T y=some (.sc (.int kd b)))
 (h1:a=b→Wp P ro ⟨fn,nt,T.set dd (.sc (.bool true)),.inReg ops (i+1) l :: k,dfs,H,nx⟩ Q) (h2:a≠b→Wp P ro ⟨fn,nt,T.set dd (.sc (.bool false)),.inReg ops (i+1) l :: k,dfs,H,nx⟩ Q) :
 Wp P ro ⟨fn,nt,T,.inReg ops i (⟨some dd,.binOp .eql t x y yt,ty,pos,af,gd⟩ :: l) :: k,dfs,H,nx⟩ Q:=by
 refine u9 hw hd hx hy ?_
 by_cases hc:a=b
 ·have e:(a == b)=true:=by simp;omega
  rw [e];exact h1 hc
 ·have e:(a == b)=false:=by simp;omega
  rw [e];exact h2 (by omega)
theorem jT{t yt:TypeId}{x y:Operand}{kd:IntKind}{a b:Int}{dd:Nat}(hw:aA T ops ⟨some dd,.binOp .neq t x y yt,ty,pos,af,gd⟩=some true)(hd:Nat.blt dd nt=true)(hx:ar T x=some (.sc (.int kd a)))(hy:ar T y=some (.sc (.int kd b)))
 (h1:a≠b→Wp P ro ⟨fn,nt,T.set dd (.sc (.bool true)),.inReg ops (i+1) l :: k,dfs,H,nx⟩ Q) (h2:a=b→Wp P ro ⟨fn,nt,T.set dd (.sc (.bool false)),.inReg ops (i+1) l :: k,dfs,H,nx⟩ Q) :
 Wp P ro ⟨fn,nt,T,.inReg ops i (⟨some dd,.binOp .neq t x y yt,ty,pos,af,gd⟩ :: l) :: k,dfs,H,nx⟩ Q:=by
 refine yz hw hd hx hy ?_
 by_cases hc:a≠b
 ·have e:(a != b)=true:=by simp;omega
  rw [e];exact h1 hc
 ·have e:(a != b)=false:=by simp;omega
  rw [e];exact h2 (by omega)
theorem cu{t yt:TypeId}{x y:Operand}{kd:IntKind}{a b:Int}{dd:Nat}(hw:aA T ops ⟨some dd,.binOp .lss t x y yt,ty,pos,af,gd⟩=some true)(hd:Nat.blt dd nt=true)(hx:ar T x=some (.sc (.int kd a)))(hy:ar T y=some (.sc (.int kd b)))
 (h1:a<b→Wp P ro ⟨fn,nt,T.set dd (.sc (.bool true)),.inReg ops (i+1) l :: k,dfs,H,nx⟩ Q) (h2:b≤a→Wp P ro ⟨fn,nt,T.set dd (.sc (.bool false)),.inReg ops (i+1) l :: k,dfs,H,nx⟩ Q) :
 Wp P ro ⟨fn,nt,T,.inReg ops i (⟨some dd,.binOp .lss t x y yt,ty,pos,af,gd⟩ :: l) :: k,dfs,H,nx⟩ Q:=by
 refine yA hw hd hx hy ?_
 by_cases hc:a<b
 ·have e:(decide (a<b))=true:=by simp;omega
  rw [e];exact h1 hc
 ·have e:(decide (a<b))=false:=by simp;omega
  rw [e];exact h2 (by omega)
theorem sq{t yt:TypeId}{x y:Operand}{kd:IntKind}{a b:Int}{dd:Nat}(hw:aA T ops ⟨some dd,.binOp .leq t x y yt,ty,pos,af,gd⟩=some true)(hd:Nat.blt dd nt=true)(hx:ar T x=some (.sc (.int kd a)))(hy:ar T y=some (.sc (.int kd b)))
 (h1:a≤b→Wp P ro ⟨fn,nt,T.set dd (.sc (.bool true)),.inReg ops (i+1) l :: k,dfs,H,nx⟩ Q) (h2:b<a→Wp P ro ⟨fn,nt,T.set dd (.sc (.bool false)),.inReg ops (i+1) l :: k,dfs,H,nx⟩ Q) :
 Wp P ro ⟨fn,nt,T,.inReg ops i (⟨some dd,.binOp .leq t x y yt,ty,pos,af,gd⟩ :: l) :: k,dfs,H,nx⟩ Q:=by
 refine w_leq hw hd hx hy ?_
 by_cases hc:a≤b
 ·have e:(decide (a≤b))=true:=by simp;omega
  rw [e];exact h1 hc
 ·have e:(decide (a≤b))=false:=by simp;omega
  rw [e];exact h2 (by omega)
theorem gv{t yt:TypeId}{x y:Operand}{kd:IntKind}{a b:Int}{dd:Nat}(hw:aA T ops ⟨some dd,.binOp .gtr t x y yt,ty,pos,af,gd⟩=some true)(hd:Nat.blt dd nt=true)(hx:ar T x=some (.sc (.int kd a)))(hy:ar T y=some (.sc (.int kd b)))
 (h1:b<a→Wp P ro ⟨fn,nt,T.set dd (.sc (.bool true)),.inReg ops (i+1) l :: k,dfs,H,nx⟩ Q) (h2:a≤b→Wp P ro ⟨fn,nt,T.set dd (.sc (.bool false)),.inReg ops (i+1) l :: k,dfs,H,nx⟩ Q) :
 Wp P ro ⟨fn,nt,T,.inReg ops i (⟨some dd,.binOp .gtr t x y yt,ty,pos,af,gd⟩ :: l) :: k,dfs,H,nx⟩ Q:=by
 refine w_gtr hw hd hx hy ?_
 by_cases hc:b<a
 ·have e:(decide (a>b))=true:=by simp;omega
  rw [e];exact h1 hc
 ·have e:(decide (a>b))=false:=by simp;omega
  rw [e];exact h2 (by omega)
theorem dQ{t yt:TypeId}{x y:Operand}{kd:IntKind}{a b:Int}{dd:Nat}(hw:aA T ops ⟨some dd,.binOp .geq t x y yt,ty,pos,af,gd⟩=some true)(hd:Nat.blt dd nt=true)(hx:ar T x=some (.sc (.int kd a)))(hy:ar T y=some (.sc (.int kd b)))
 (h1:b≤a→Wp P ro ⟨fn,nt,T.set dd (.sc (.bool true)),.inReg ops (i+1) l :: k,dfs,H,nx⟩ Q) (h2:a<b→Wp P ro ⟨fn,nt,T.set dd (.sc (.bool false)),.inReg ops (i+1) l :: k,dfs,H,nx⟩ Q) :
 Wp P ro ⟨fn,nt,T,.inReg ops i (⟨some dd,.binOp .geq t x y yt,ty,pos,af,gd⟩ :: l) :: k,dfs,H,nx⟩ Q:=by
 refine xj hw hd hx hy ?_
 by_cases hc:b≤a
 ·have e:(decide (a≥b))=true:=by simp;omega
  rw [e];exact h1 hc
 ·have e:(decide (a≥b))=false:=by simp;omega
  rw [e];exact h2 (by omega)
theorem yy{t yt:TypeId}{x y:Operand}{kd:IntKind}{a b c:Int}{dd:Nat}(hw:aA T ops ⟨some dd,.binOp .quo t x y yt,ty,pos,af,gd⟩=some true)(hd:Nat.blt dd nt=true)(hx:ar T x=some (.sc (.int kd a)))(hy:ar T y=some (.sc (.int kd b)))(h0:b≠0)(hc:kd.wrap (a.tdiv b)=c)
 (h:Wp P ro ⟨fn,nt,T.set dd (.sc (.int kd c)),.inReg ops (i+1) l :: k,dfs,H,nx⟩ Q):Wp P ro ⟨fn,nt,T,.inReg ops i (⟨some dd,.binOp .quo t x y yt,ty,pos,af,gd⟩ :: l) :: k,dfs,H,nx⟩ Q:=
 bS hw (.inr (fun _ h=>by cases h)) ((wP hx hy h0 hc).does) (by rw [aK hd];exact h)
theorem sk{t yt:TypeId}{x y:Operand}{a b:Int}{dd:Nat}(hw:aA T ops ⟨some dd,.binOp .quo t x y yt,ty,pos,af,gd⟩=some true)(hd:Nat.blt dd nt=true)(hx:ar T x=some (.sc (.int .i64 a)))(hy:ar T y=some (.sc (.int .i64 b)))(h1:0≤a)(h2:a≤9223372036854775807)(h3:0<b)
 (h:Wp P ro ⟨fn,nt,T.set dd (.sc (.int .i64 (a / b))),.inReg ops (i+1) l :: k,dfs,H,nx⟩ Q):Wp P ro ⟨fn,nt,T,.inReg ops i (⟨some dd,.binOp .quo t x y yt,ty,pos,af,gd⟩ :: l) :: k,dfs,H,nx⟩ Q:=
 bS hw (.inr (fun _ h=>by cases h)) ((wP hx hy (by omega) (sg h1 h2 h3)).does) (by rw [aK hd];exact h)
theorem yE{op:BinOp}{t yt:TypeId}{x y:Operand}{kd:IntKind}{a b c:Int}{dd:Nat}(hw:aA T ops ⟨some dd,.binOp op t x y yt,ty,pos,af,gd⟩=some true)(hd:Nat.blt dd nt=true)(hx:ar T x=some (.sc (.int kd a)))(hy:ar T y=some (.sc (.int kd b)))(ho:op = .and∨op = .or∨op = .xor∨op = .andNot)(hc:rP op kd a b=c)
 (h:Wp P ro ⟨fn,nt,T.set dd (.sc (.int kd c)),.inReg ops (i+1) l :: k,dfs,H,nx⟩ Q):Wp P ro ⟨fn,nt,T,.inReg ops i (⟨some dd,.binOp op t x y yt,ty,pos,af,gd⟩ :: l) :: k,dfs,H,nx⟩ Q:=
 bS hw (.inr (fun _ h=>by cases h)) ((sU hx hy ho hc).does) (by rw [aK hd];exact h)
theorem yw{t yt:TypeId}{x y:Operand}{kd kd2:IntKind}{a b c:Int}{dd:Nat}(hw:aA T ops ⟨some dd,.binOp .shl t x y yt,ty,pos,af,gd⟩=some true)(hd:Nat.blt dd nt=true)(hx:ar T x=some (.sc (.int kd a)))(hy:ar T y=some (.sc (.int kd2 b)))(h0:0≤b)(hc:kd.wrap (a*2 ^ (min b.toNat kd.bits))=c)
 (h:Wp P ro ⟨fn,nt,T.set dd (.sc (.int kd c)),.inReg ops (i+1) l :: k,dfs,H,nx⟩ Q):Wp P ro ⟨fn,nt,T,.inReg ops i (⟨some dd,.binOp .shl t x y yt,ty,pos,af,gd⟩ :: l) :: k,dfs,H,nx⟩ Q:=
 bS hw (.inr (fun _ h=>by cases h)) ((wO hx hy h0 hc).does) (by rw [aK hd];exact h)
theorem yv{t yt:TypeId}{x y:Operand}{kd kd2:IntKind}{a b c:Int}{dd:Nat}(hw:aA T ops ⟨some dd,.binOp .shr t x y yt,ty,pos,af,gd⟩=some true)(hd:Nat.blt dd nt=true)(hx:ar T x=some (.sc (.int kd a)))(hy:ar T y=some (.sc (.int kd2 b)))(h0:0≤b)(hc:a.fdiv (2 ^ (min b.toNat kd.bits))=c)
 (h:Wp P ro ⟨fn,nt,T.set dd (.sc (.int kd c)),.inReg ops (i+1) l :: k,dfs,H,nx⟩ Q):Wp P ro ⟨fn,nt,T,.inReg ops i (⟨some dd,.binOp .shr t x y yt,ty,pos,af,gd⟩ :: l) :: k,dfs,H,nx⟩ Q:=
 bS hw (.inr (fun _ h=>by cases h)) ((wN hx hy h0 hc).does) (by rw [aK hd];exact h)
theorem jU{s t:TypeId}{su:TypeDesc}{x:Operand}{kd kd2:IntKind}{a c:Int}{dd:Nat}(hw:aA T ops ⟨some dd,.convert s t x,ty,pos,af,gd⟩=some true)(hd:Nat.blt dd nt=true)(hx:ar T x=some (.sc (.int kd2 a)))(hs:P.underlying s=some su)(hu:P.underlying t=some (.int kd))(hc:kd.wrap a=c)
 (h:Wp P ro ⟨fn,nt,T.set dd (.sc (.int kd c)),.inReg ops (i+1) l :: k,dfs,H,nx⟩ Q):Wp P ro ⟨fn,nt,T,.inReg ops i (⟨some dd,.convert s t x,ty,pos,af,gd⟩ :: l) :: k,dfs,H,nx⟩ Q:=
 bS hw (.inr (fun _ h=>by cases h)) ((xD hs hu hx hc).does) (by rw [aK hd];exact h)
theorem gC{t:TypeId}{parts:List (Nat×Operand)}{ps:List (Nat×SV)}{pl:List (Nat×Nat)}{z:Value}{cs:List SV}{dd:Nat}(hw:aA T ops ⟨some dd,.build t parts.toArray,ty,pos,af,gd⟩=some true)(hd:Nat.blt dd nt=true)(hx:iX T parts=some ps)(hz:c6 P t=some z)(hl:ym P t=some pl)(hf:gB (fun i=>pl[i]?) (z.cells.toList.map .sc) ps=some cs)
 (h:Wp P ro ⟨fn,nt,T.set dd (.agg cs),.inReg ops (i+1) l :: k,dfs,H,nx⟩ Q):Wp P ro ⟨fn,nt,T,.inReg ops i (⟨some dd,.build t parts.toArray,ty,pos,af,gd⟩ :: l) :: k,dfs,H,nx⟩ Q:=
 bS hw (.inr (fun _ h=>by cases h)) ((aU hx hz hl hf).does) (by rw [aK hd];exact h)
theorem i7{t:TypeId}{x:Operand}{b:Bool}{dd:Nat}(hw:aA T ops ⟨some dd,.unOp .not t x,ty,pos,af,gd⟩=some true)(hd:Nat.blt dd nt=true)(hx:ar T x=some (.sc (.bool b)))
 (h:Wp P ro ⟨fn,nt,T.set dd (.sc (.bool (!b))),.inReg ops (i+1) l :: k,dfs,H,nx⟩ Q):Wp P ro ⟨fn,nt,T,.inReg ops i (⟨some dd,.unOp .not t x,ty,pos,af,gd⟩ :: l) :: k,dfs,H,nx⟩ Q:=
 bS hw (.inr (fun _ h=>by cases h)) ((bq hx).does) (by rw [aK hd];exact h)
theorem cr{t e:TypeId}{x:Operand}{b eo n:Nat}{dd:Nat}(hw:aA T ops ⟨some dd,.call {callee:= .builtin .len,args:= #[x],argTypes:= #[t]},ty,pos,af,gd⟩=some true)(hd:Nat.blt dd nt=true)(hx:ar T x=some (.slu b eo n))(hu:P.underlying t=some (.slice e))
 (h:Wp P ro ⟨fn,nt,T.set dd (.sc (.int .i64 n)),.inReg ops (i+1) l :: k,dfs,H,nx⟩ Q):Wp P ro ⟨fn,nt,T,.inReg ops i (⟨some dd,.call {callee:= .builtin .len,args:= #[x],argTypes:= #[t]},ty,pos,af,gd⟩ :: l) :: k,dfs,H,nx⟩ Q:=
 bS hw (.inr (fun _ h=>by cases h)) ((aP hu hx).does) (by rw [aK hd];exact h)
theorem kb{t:TypeId}{x:Operand}{s:ByteArray}{dd:Nat}(hw:aA T ops ⟨some dd,.call {callee:= .builtin .len,args:= #[x],argTypes:= #[t]},ty,pos,af,gd⟩=some true)(hd:Nat.blt dd nt=true)(hx:ar T x=some (.sc (.string s)))(hu:P.underlying t=some .string)
 (h:Wp P ro ⟨fn,nt,T.set dd (.sc (.int .i64 s.size)),.inReg ops (i+1) l :: k,dfs,H,nx⟩ Q):Wp P ro ⟨fn,nt,T,.inReg ops i (⟨some dd,.call {callee:= .builtin .len,args:= #[x],argTypes:= #[t]},ty,pos,af,gd⟩ :: l) :: k,dfs,H,nx⟩ Q:=
 bS hw (.inr (fun _ h=>by cases h)) ((aI hu hx).does) (by rw [aK hd];exact h)
theorem bn{g:FuncId}{as1:List Operand}{ats:Array TypeId}{args:List SV}{dd:Nat}(hw:aA T ops ⟨some dd,.call {callee:= .value (.func g),args:=as1.toArray,argTypes:=ats},ty,pos,af,gd⟩=some true)(hd:Nat.blt dd nt=true)(ha:dy T as1=some args)(hm:cw P g=true)
 (h:Fnc P g args H nx (fun r=>Wp P ro ⟨fn,nt,T.set dd r.1,.inReg ops (i+1) l :: k,dfs,r.2.1,r.2.2⟩ Q)) :
 Wp P ro ⟨fn,nt,T,.inReg ops i (⟨some dd,.call {callee:= .value (.func g),args:=as1.toArray,argTypes:=ats},ty,pos,af,gd⟩ :: l) :: k,dfs,H,nx⟩ Q:=by
 refine wF hw (args:=args) ?_ (by simp only [aK hd];exact h)
 simp only [cG,ha,ar,dG,hm,cond_true,List.map_nil,List.nil_append,List.append_nil]
theorem xm{x:Operand}{g:FuncId}{fa fb:List SV}{as1:List Operand}{ats:Array TypeId}{args:List SV}{dd:Nat}(hw:aA T ops ⟨some dd,.call {callee:= .value x,args:=as1.toArray,argTypes:=ats},ty,pos,af,gd⟩=some true)(hd:Nat.blt dd nt=true)(hx:ar T x=some (.fn (.func g) fa fb))(ha:dy T as1=some args)(hm:cw P g=true)
 (h:Fnc P g (fa ++ args ++ fb) H nx (fun r=>Wp P ro ⟨fn,nt,T.set dd r.1,.inReg ops (i+1) l :: k,dfs,r.2.1,r.2.2⟩ Q)) :
 Wp P ro ⟨fn,nt,T,.inReg ops i (⟨some dd,.call {callee:= .value x,args:=as1.toArray,argTypes:=ats},ty,pos,af,gd⟩ :: l) :: k,dfs,H,nx⟩ Q:=by
 refine wF hw (args:=fa ++ args ++ fb) ?_ (by simp only [aK hd];exact h)
 simp only [cG,ha,hx,dG,hm,cond_true]
end
end Go.Sy
end
section
namespace Go.Proofs.Ytckajlllkmkniaa
open Go Go.Sy
namespace F
def chk{A:Type}(f:Nat→Option A):Nat→List (Option A)→List (Option A)
 | _,[]=> []
 | i,none :: l=>none :: chk f (i+1) l
 | i,some _ :: l=>f i :: chk f (i+1) l
theorem gT{A:Type}{f:Nat→Option A}: ∀ {l:List (Option A)} {k:Nat},chk f k l=l→ ∀ {i:Nat} {x:A},l[i]? =some (some x)→f (k+i)=some x
 | none :: l,k,h,0,x,hx=>by simp at hx
 | some y :: l,k,h,0,x,hx=>by
   simp only [chk,List.cons.injEq] at h
   rw [Nat.add_zero,h.1]
   simpa using hx
 | none :: l,k,h,i+1,x,hx=>by
   simp only [chk,List.cons.injEq] at h
   rw [show k+(i+1)=k+1+i by omega]
   exact gT h.2 (by simpa using hx)
 | some y :: l,k,h,i+1,x,hx=>by
   simp only [chk,List.cons.injEq] at h
   rw [show k+(i+1)=k+1+i by omega]
   exact gT h.2 (by simpa using hx)
def yn(f:Nat→Option Nat):Nat→List Nat→List (Option Nat)
 | _,[]=> []
 | k,_ :: l=>f k :: yn f (k+1) l
theorem qK{f:Nat→Option Nat}: ∀ {l:List Nat} {k:Nat},yn f k l=l.map some→ ∀ {i x:Nat},l[i]? =some x→f (k+i)=some x
 | y :: l,k,h,0,x,hx=>by
   simp only [yn,zR,List.cons.injEq] at h
   rw [Nat.add_zero,h.1]
   simpa using hx
 | y :: l,k,h,i+1,x,hx=>by
   simp only [yn,zR,List.cons.injEq] at h
   rw [show k+(i+1)=k+1+i by omega]
   exact qK h.2 (by simpa using hx)
def zp(f:Nat→Nat→Option Nat):Nat→List (Option (List Nat))→Prop
 | _,[]=>True
 | i,none :: l=>zp f (i+1) l
 | i,some r :: l=>yn (f i) 0 r=r.map some∧zp f (i+1) l
theorem mR{f:Nat→Nat→Option Nat}: ∀ {l:List (Option (List Nat))} {k:Nat},zp f k l→ ∀ {i:Nat} {x:List Nat},l[i]? =some (some x)→yn (f (k+i)) 0 x=x.map some
 | none :: l,k,h,0,x,hx=>by simp at hx
 | some y :: l,k,h,0,x,hx=>by
   have e:y=x:=by simpa using hx
   subst e
   exact h.1
 | none :: l,k,h,i+1,x,hx=>by
   rw [show k+(i+1)=k+1+i by omega]
   exact mR (l:=l) h (by simpa using hx)
 | some y :: l,k,h,i+1,x,hx=>by
   rw [show k+(i+1)=k+1+i by omega]
   exact mR (l:=l) h.2 (by simpa using hx)
def szL:List (Option (Nat)):= [some 1,some 1,some 1,some 1,some 1,some 1,some 1,some 4,some 4,some 1,some 1,some 1,some 1,some 2,some 2,some 1,some 1,some 1,some 1,some 1,some 1,some 1,some 1,some 1,some 1,some 1,some 1,some 1,some 1,some 1,some 1,some 4,some 4,some 1,some 1,some 1,some 1,some 1,some 1,some 1,some 1,some 1,some 1,some 1,some 1,some 1,some 1,some 1,some 1,some 1,some 1,some 1,some 1,some 1,some 1,some 1,some 1,some 1,some 1,some 1,some 1,some 1,some 1,some 1,some 1,some 1,some 2,some 2,some 1,some 1,some 1,some 2,some 2,some 1,some 2,some 2,some 1,some 1,some 1,some 1,some 1,some 1,some 1,some 1,some 1,some 1,some 1,some 1,some 1,some 1,some 3,some 3,some 1,some 1,some 1,some 1,some 1,some 1,some 1,some 1,some 1,some 1,some 1,some 1,some 1,some 1,some 1,some 1,some 1,some 1,some 1,some 1,some 1,some 1,some 1,some 1,some 1,some 4,some 4,some 0,some 0,some 0,some 1,some 1,some 1,some 1,some 1,some 1,some 11,some 11,some 1]
theorem szOk:chk (fun i=>bC Try.prog i) 0 szL=szL:=by kernel_rfl
theorem sz(i:Nat){x:Nat}(h:szL[i]? =some (some x)):bC Try.prog i=some x:=by
 have:=gT szOk h
 simpa using this
def agL:List (Option (Option Nat)):= [some (none),some (none),some (none),some (none),some (none),some (none),some (none),some ((some 4)),some ((some 4)),some (none),some (none),some (none),some (none),some ((some 2)),some ((some 2)),some (none),some (none),some (none),some ((some 1)),some ((some 1)),some (none),some (none),some (none),some (none),some (none),some (none),some (none),some (none),some (none),some (none),some (none),some ((some 4)),some ((some 4)),some (none),some (none),some (none),some (none),some (none),some (none),some (none),some (none),some (none),some (none),some (none),some (none),some (none),some (none),some (none),some (none),some (none),some (none),some (none),some (none),some (none),some (none),some ((some 1)),some ((some 1)),some (none),some (none),some (none),some (none),some (none),some (none),some (none),some (none),some (none),some ((some 2)),some ((some 2)),some (none),some (none),some (none),some ((some 2)),some ((some 2)),some (none),some ((some 2)),some ((some 2)),some (none),some (none),some (none),some (none),some (none),some (none),some (none),some (none),some (none),some (none),some (none),some (none),some (none),some (none),some ((some 3)),some ((some 3)),some (none),some (none),some (none),some (none),some (none),some (none),some (none),some (none),some (none),some (none),some (none),some (none),some (none),some (none),some (none),some (none),some (none),some (none),some (none),some (none),some (none),some (none),some (none),some (none),some (none),some ((some 4)),some ((some 4)),some ((some 0)),some ((some 0)),some ((some 0)),some (none),some (none),some (none),some (none),some (none),some (none),some ((some 11)),some ((some 11)),some (none)]
theorem agOk:chk (fun i=>b7 Try.prog i) 0 agL=agL:=by kernel_rfl
theorem ag(i:Nat){x:Option Nat}(h:agL[i]? =some (some x)):b7 Try.prog i=some x:=by
 have:=gT agOk h
 simpa using this
def zlL:List (Option (List SV)):= [none,some ([.sc (.nilFunc)]),some ([.sc (.int .i64 0)]),some ([.sc (.int .i64 0)]),some ([.sc (.bool false)]),some ([.sc (.int .u8 0)]),some ([.sc (.int .u8 0)]),some ([.sc (.int .i64 0),.sc (.int .i64 0),.sc (.bool false),.sc (.int .u8 0)]),some ([.sc (.int .i64 0),.sc (.int .i64 0),.sc (.bool false),.sc (.int .u8 0)]),some ([.sc (.string ⟨#[]⟩)]),some ([.sc (.string ⟨#[]⟩)]),some ([.sc (.string ⟨#[]⟩)]),some ([.sc (.int .u64 0)]),some ([.sc (.string ⟨#[]⟩),.sc (.int .u64 0)]),some ([.sc (.string ⟨#[]⟩),.sc (.int .u64 0)]),some ([.sc (.pointer none)]),some ([.sc (.pointer none)]),some ([.sc (.pointer none)]),some ([.sc (.pointer none)]),some ([.sc (.pointer none)]),some ([.sc (.nilIface)]),some ([.sc (.int .i32 0)]),some ([.sc (.slice none 0 0)]),some ([.sc (.int .u64 0)]),some ([.sc (.nilFunc)]),some ([.sc (.nilFunc)]),some ([.sc (.pointer none)]),some ([.sc (.nilFunc)]),some ([.sc (.slice none 0 0)]),none,some ([.sc (.nilFunc)]),some ([.sc (.int .i64 0),.sc (.int .u64 0),.sc (.string ⟨#[]⟩),.sc (.int .i64 0)]),some ([.sc (.int .i64 0),.sc (.int .u64 0),.sc (.string ⟨#[]⟩),.sc (.int .i64 0)]),some ([.sc (.slice none 0 0)]),some ([.sc (.nilFunc)]),some ([.sc (.nilFunc)]),some ([.sc (.int .i64 0)]),none,some ([.sc (.nilFunc)]),some ([.sc (.nilFunc)]),some ([.sc (.nilFunc)]),some ([.sc (.nilFunc)]),some ([.sc (.nilFunc)]),none,some ([.sc (.nilFunc)]),some ([.sc (.nilFunc)]),some ([.sc (.nilFunc)]),some ([.sc (.nilFunc)]),some ([.sc (.nilFunc)]),some ([.sc (.nilFunc)]),some ([.sc (.nilFunc)]),some ([.sc (.nilFunc)]),some ([.sc (.nilFunc)]),some ([.sc (.pointer none)]),some ([.sc (.slice none 0 0)]),some ([.sc (.slice none 0 0)]),some ([.sc (.slice none 0 0)]),some ([.sc (.nilFunc)]),some ([.sc (.nilFunc)]),some ([.sc (.nilFunc)]),some ([.sc (.nilFunc)]),some ([.sc (.slice none 0 0)]),some ([.sc (.nilFunc)]),some ([.sc (.nilFunc)]),some ([.sc (.map none)]),some ([.sc (.map none)]),some ([.sc (.map none),.sc (.map none)]),some ([.sc (.map none),.sc (.map none)]),some ([.sc (.nilFunc)]),some ([.sc (.pointer none)]),some ([.sc (.nilFunc)]),some ([.sc (.slice none 0 0),.sc (.string ⟨#[]⟩)]),some ([.sc (.slice none 0 0),.sc (.string ⟨#[]⟩)]),some ([.sc (.pointer none)]),some ([.sc (.int .u64 0),.sc (.slice none 0 0)]),some ([.sc (.int .u64 0),.sc (.slice none 0 0)]),some ([.sc (.nilFunc)]),some ([.sc (.nilFunc)]),some ([.sc (.nilFunc)]),some ([.sc (.nilFunc)]),some ([.sc (.nilFunc)]),some ([.sc (.nilFunc)]),some ([.sc (.nilFunc)]),some ([.sc (.nilFunc)]),none,some ([.sc (.nilFunc)]),some ([.sc (.nilFunc)]),some ([.sc (.nilFunc)]),some ([.sc (.nilFunc)]),some ([.sc (.nilFunc)]),some ([.sc (.string ⟨#[]⟩),.sc (.int .u64 0),.sc (.slice none 0 0)]),some ([.sc (.string ⟨#[]⟩),.sc (.int .u64 0),.sc (.slice none 0 0)]),some ([.sc (.nilFunc)]),some ([.sc (.nilFunc)]),some ([.sc (.nilFunc)]),some ([.sc (.int .u64 0)]),some ([.sc (.nilFunc)]),some ([.sc (.nilFunc)]),some ([.sc (.int .i64 0)]),none,some ([.sc (.nilFunc)]),some ([.sc (.nilFunc)]),some ([.sc (.nilFunc)]),none,some ([.sc (.nilFunc)]),some ([.sc (.nilFunc)]),some ([.sc (.int .u32 0)]),some ([.sc (.int .u64 0)]),some ([.sc (.nilFunc)]),some ([.sc (.nilFunc)]),some ([.sc (.nilFunc)]),some ([.sc (.pointer none)]),some ([.sc (.nilFunc)]),some ([.sc (.pointer none)]),none,some ([.sc (.nilFunc)]),some ([.sc (.nilFunc)]),some ([.sc (.pointer none),.sc (.pointer none),.sc (.pointer none),.sc (.string ⟨#[]⟩)]),some ([.sc (.pointer none),.sc (.pointer none),.sc (.pointer none),.sc (.string ⟨#[]⟩)]),some ([]),some ([]),some ([]),some ([.sc (.int .u8 0)]),some ([.sc (.int .u8 0)]),some ([.sc (.nilFunc)]),some ([.sc (.pointer none)]),some ([.sc (.int .i32 0)]),some ([.sc (.int .i32 0)]),some ([.sc (.int .u64 0),.sc (.int .u64 0),.sc (.int .u32 0),.sc (.int .u8 0),.sc (.int .u8 0),.sc (.int .u8 0),.sc (.int .u8 0),.sc (.nilFunc),.sc (.pointer none),.sc (.int .i32 0),.sc (.int .i32 0)]),some ([.sc (.int .u64 0),.sc (.int .u64 0),.sc (.int .u32 0),.sc (.int .u8 0),.sc (.int .u8 0),.sc (.int .u8 0),.sc (.int .u8 0),.sc (.nilFunc),.sc (.pointer none),.sc (.int .i32 0),.sc (.int .i32 0)]),some ([.sc (.pointer none)])]
theorem zlOk:chk (fun i=>qW Try.prog i) 0 zlL=zlL:=by kernel_rfl
theorem zl(i:Nat){x:List SV}(h:zlL[i]? =some (some x)):qW Try.prog i=some x:=by
 have:=gT zlOk h
 simpa using this
def plL:List (Option (List (Nat×Nat))):= [none,none,none,none,none,none,none,some ([(0,1),(1,1),(2,1),(3,1)]),some ([(0,1),(1,1),(2,1),(3,1)]),none,none,none,none,some ([(0,1),(1,1)]),some ([(0,1),(1,1)]),none,none,none,some ([(0,1)]),some ([(0,1)]),none,none,none,none,none,none,none,none,none,none,none,some ([(0,1),(1,1),(2,1),(3,1)]),some ([(0,1),(1,1),(2,1),(3,1)]),none,none,none,none,none,none,none,none,none,none,none,none,none,none,none,none,none,none,none,none,none,none,some ([(0,1)]),some ([(0,1)]),none,none,none,none,none,none,none,none,none,some ([(0,1),(1,1)]),some ([(0,1),(1,1)]),none,none,none,some ([(0,1),(1,1)]),some ([(0,1),(1,1)]),none,some ([(0,1),(1,1)]),some ([(0,1),(1,1)]),none,none,none,none,none,none,none,none,none,none,none,none,none,none,some ([(0,1),(1,1),(2,1)]),some ([(0,1),(1,1),(2,1)]),none,none,none,none,none,none,none,none,none,none,none,none,none,none,none,none,none,none,none,none,none,none,none,none,none,some ([(0,1),(1,1),(2,1),(3,1)]),some ([(0,1),(1,1),(2,1),(3,1)]),none,some ([(0,0)]),some ([(0,0)]),none,none,none,none,none,none,some ([(0,1),(1,1),(2,1),(3,1),(4,1),(5,1),(6,1),(7,1),(8,1),(9,1),(10,1)]),some ([(0,1),(1,1),(2,1),(3,1),(4,1),(5,1),(6,1),(7,1),(8,1),(9,1),(10,1)]),none]
theorem plOk:chk (fun i=>ym Try.prog i) 0 plL=plL:=by kernel_rfl
theorem pl(i:Nat){x:List (Nat×Nat)}(h:plL[i]? =some (some x)):ym Try.prog i=some x:=by
 have:=gT plOk h
 simpa using this
def zeL:List (Option (Value)):= [none,some (.nilFunc),some (.int .i64 0),some (.int .i64 0),some (.bool false),some (.int .u8 0),some (.int .u8 0),some (.agg #[.int .i64 0,.int .i64 0,.bool false,.int .u8 0]),some (.agg #[.int .i64 0,.int .i64 0,.bool false,.int .u8 0]),some (.string ⟨#[]⟩),some (.string ⟨#[]⟩),some (.string ⟨#[]⟩),some (.int .u64 0),some (.agg #[.string ⟨#[]⟩,.int .u64 0]),some (.agg #[.string ⟨#[]⟩,.int .u64 0]),some (.pointer none),some (.pointer none),some (.pointer none),some (.agg #[.pointer none]),some (.agg #[.pointer none]),some (.nilIface),some (.int .i32 0),some (.slice none 0 0),some (.int .u64 0),some (.nilFunc),some (.nilFunc),some (.pointer none),some (.nilFunc),some (.slice none 0 0),none,some (.nilFunc),some (.agg #[.int .i64 0,.int .u64 0,.string ⟨#[]⟩,.int .i64 0]),some (.agg #[.int .i64 0,.int .u64 0,.string ⟨#[]⟩,.int .i64 0]),some (.slice none 0 0),some (.nilFunc),some (.nilFunc),some (.int .i64 0),none,some (.nilFunc),some (.nilFunc),some (.nilFunc),some (.nilFunc),some (.nilFunc),none,some (.nilFunc),some (.nilFunc),some (.nilFunc),some (.nilFunc),some (.nilFunc),some (.nilFunc),some (.nilFunc),some (.nilFunc),some (.nilFunc),some (.pointer none),some (.slice none 0 0),some (.agg #[.slice none 0 0]),some (.agg #[.slice none 0 0]),some (.nilFunc),some (.nilFunc),some (.nilFunc),some (.nilFunc),some (.slice none 0 0),some (.nilFunc),some (.nilFunc),some (.map none),some (.map none),some (.agg #[.map none,.map none]),some (.agg #[.map none,.map none]),some (.nilFunc),some (.pointer none),some (.nilFunc),some (.agg #[.slice none 0 0,.string ⟨#[]⟩]),some (.agg #[.slice none 0 0,.string ⟨#[]⟩]),some (.pointer none),some (.agg #[.int .u64 0,.slice none 0 0]),some (.agg #[.int .u64 0,.slice none 0 0]),some (.nilFunc),some (.nilFunc),some (.nilFunc),some (.nilFunc),some (.nilFunc),some (.nilFunc),some (.nilFunc),some (.nilFunc),none,some (.nilFunc),some (.nilFunc),some (.nilFunc),some (.nilFunc),some (.nilFunc),some (.agg #[.string ⟨#[]⟩,.int .u64 0,.slice none 0 0]),some (.agg #[.string ⟨#[]⟩,.int .u64 0,.slice none 0 0]),some (.nilFunc),some (.nilFunc),some (.nilFunc),some (.int .u64 0),some (.nilFunc),some (.nilFunc),some (.int .i64 0),none,some (.nilFunc),some (.nilFunc),some (.nilFunc),none,some (.nilFunc),some (.nilFunc),some (.int .u32 0),some (.int .u64 0),some (.nilFunc),some (.nilFunc),some (.nilFunc),some (.pointer none),some (.nilFunc),some (.pointer none),none,some (.nilFunc),some (.nilFunc),some (.agg #[.pointer none,.pointer none,.pointer none,.string ⟨#[]⟩]),some (.agg #[.pointer none,.pointer none,.pointer none,.string ⟨#[]⟩]),some (.agg #[]),some (.agg #[]),some (.agg #[]),some (.int .u8 0),some (.int .u8 0),some (.nilFunc),some (.pointer none),some (.int .i32 0),some (.int .i32 0),some (.agg #[.int .u64 0,.int .u64 0,.int .u32 0,.int .u8 0,.int .u8 0,.int .u8 0,.int .u8 0,.nilFunc,.pointer none,.int .i32 0,.int .i32 0]),some (.agg #[.int .u64 0,.int .u64 0,.int .u32 0,.int .u8 0,.int .u8 0,.int .u8 0,.int .u8 0,.nilFunc,.pointer none,.int .i32 0,.int .i32 0]),some (.pointer none)]
theorem zeOk:chk (fun i=>c6 Try.prog i) 0 zeL=zeL:=by kernel_rfl
theorem ze(i:Nat){x:Value}(h:zeL[i]? =some (some x)):c6 Try.prog i=some x:=by
 have:=gT zeOk h
 simpa using this
def foL:List (Option (List Nat)):= [none,none,none,none,none,none,none,some [0,1,2,3],some [0,1,2,3],none,none,none,none,some [0,1],some [0,1],none,none,none,some [0],some [0],none,none,none,none,none,none,none,none,none,none,none,some [0,1,2,3],some [0,1,2,3],none,none,none,none,none,none,none,none,none,none,none,none,none,none,none,none,none,none,none,none,none,none,some [0],some [0],none,none,none,none,none,none,none,none,none,some [0,1],some [0,1],none,none,none,some [0,1],some [0,1],none,some [0,1],some [0,1],none,none,none,none,none,none,none,none,none,none,none,none,none,none,some [0,1,2],some [0,1,2],none,none,none,none,none,none,none,none,none,none,none,none,none,none,none,none,none,none,none,none,none,none,none,none,none,some [0,1,2,3],some [0,1,2,3],none,none,none,none,none,none,none,none,none,some [0,1,2,3,4,5,6,7,8,9,10],some [0,1,2,3,4,5,6,7,8,9,10],none]
theorem foOk:zp (il Try.prog) 0 foL:=by
 simp only [foL,zp]
 exact⟨by kernel_rfl,by kernel_rfl,by kernel_rfl,by kernel_rfl,by kernel_rfl,by kernel_rfl,by kernel_rfl,by kernel_rfl,by kernel_rfl,by kernel_rfl,by kernel_rfl,by kernel_rfl,by kernel_rfl,by kernel_rfl,by kernel_rfl,by kernel_rfl,by kernel_rfl,by kernel_rfl,by kernel_rfl,by kernel_rfl,by kernel_rfl,by kernel_rfl,trivial⟩
theorem fo(i k:Nat){l:List Nat}{v:Nat}(h:foL[i]? =some (some l))(hk:l[k]? =some v):il Try.prog i k=some v:=by
 have:=mR foOk h
 have:=qK this hk
 simpa using this
def unL:List (Option TypeDesc):= [none,none,some (.int .i64),some (.int .i64),some (.bool),some (.int .u8),some (.int .u8),none,none,some (.string),some (.string),some (.string),some (.int .u64),none,none,some (.pointer 118),some (.pointer 121),some (.pointer 129),none,none,none,some (.int .i32),some (.slice 32),some (.int .u64),none,none,some (.pointer 67),none,some (.slice 23),none,none,none,none,some (.slice 9),none,none,some (.int .i64),none,none,none,none,none,none,none,none,none,none,none,none,none,none,none,none,some (.pointer 56),some (.slice 91),none,none,none,none,none,none,some (.slice 5),none,none,some (.map 9 73),some (.map 23 69),none,none,none,some (.pointer 72),none,none,none,some (.pointer 75),none,none,none,none,none,none,none,none,none,none,none,none,none,none,none,none,none,none,none,none,none,some (.int .u64),none,none,some (.int .i64),none,none,none,none,none,none,none,some (.int .u32),some (.int .u64),none,none,none,some (.pointer 3),none,some (.pointer 107),none,none,none,none,none,some (.array 0 16),none,none,some (.int .u8),some (.int .u8),none,some (.pointer 5),some (.int .i32),some (.int .i32),none,none,none]
theorem unOk:chk (fun i=>Try.prog.underlying i) 0 unL=unL:=by kernel_rfl
theorem un(i:Nat){x:TypeDesc}(h:unL[i]? =some (some x)):Try.prog.underlying i=some x:=by
 have:=gT unOk h
 simpa using this
end F
end Go.Proofs.Ytckajlllkmkniaa
end
section
namespace Go.Sy
open Go Go.Sl Go.RowKit
section
variable {P:Program}
def qi:List Nat→Bool
 | []=>true
 | x :: l=> !(l.any (Nat.beq x)) && qi l
def extB(L:List Nat)(nx:Nat):Bool:=L.all (fun n=>Nat.blt n nx) && qi L
theorem nP: ∀ {l:List Nat},qi l=true→l.Nodup
 | [],_=>List.nodup_nil
 | x :: l,h=>by
   simp only [qi,zO,Bool.not_eq_true'] at h
   refine List.nodup_cons.2 ⟨fun hm=>?_,nP h.2⟩
   have:l.any (Nat.beq x)=true:=List.any_eq_true.2 ⟨x,hm,Nat.beq_refl x⟩
   rw [this] at h
   cases h.1
theorem ExtOk.of{L:List Nat}{nx:Nat}(h:extB L nx=true):ExtOk L nx:=by
 simp only [extB,zO] at h
 exact⟨fun n hn=>zB (List.all_eq_true.1 h.1 n hn),nP h.2⟩
theorem Ends.mk{k0:Nat}{c:Cz}{v:SV}{H:aV}{nx:Nat}(σ:List Nat)(h1:ExtOk (nms k0 σ) nx)(h2:k0+σ.length=c.objs.length)(h3:v=c.v.ren (ext (nms k0 σ) nx))(h4:HasO (ext (nms k0 σ) nx) H 0 c.objs):Ends k0 c (v,H,nx):=⟨σ,h1,h2,h3,h4⟩
theorem Ends.val{k0:Nat}{u u':Value}{objs:List (Option VO)}{H:aV}{nx:Nat}(h1:ExtOk (nms k0 []) nx)(h2:k0=objs.length)(h3:u=u')(h4:HasO (ext (nms k0 []) nx) H 0 objs):Ends k0 ⟨.sc u',objs⟩ (.sc u,H,nx):=⟨[],h1,by simpa using h2,by rw [h3];rfl,h4⟩
theorem HasO.mono{ρ:Nat→Nat}{H H':aV}: ∀ {l:List (Option VO)} {i:Nat},HasO ρ H i l→(∀ n vo,H.at' n=some vo→H'.at' n=some vo)→HasO ρ H' i l
 | [],_,_,_=>trivial
 | none :: l,i,h,hH=>HasO.mono (l:=l) (i:=i+1) h hH
 | some v :: l,i,h,hH=>⟨hH _ _ h.1,HasO.mono (l:=l) (i:=i+1) h.2 hH⟩
theorem pS{ρ:Nat→Nat}: ∀ {l:List VO} {i:Nat} {H:aV},HasO ρ H i (l.map some)→wrO ρ H i ((l.map some).map (Option.map (VO.ren ρ)))=H
 | [],_,_,_=>rfl
 | v :: l,i,H,h=>by
   have e:H.set (ρ i) (v.ren ρ)=H:=by
    funext n
    simp only [Tr.set]
    cases hb:Nat.beq n (ρ i)with
    | false=>rfl
    | true=>have:=Nat.eq_of_beq_eq_true hb;subst this;exact h.1.symm
   simp only [zR,zV,wrO,e]
   exact pS (l:=l) (i:=i+1) h.2
theorem Ctr.callV{f:FuncId}{args0 args:List SV}{pre:List VO}{u:Value}(h:Ctr P f args0 pre (fun c=>c=⟨.sc u,pre.map some⟩))(L:List Nat){H:aV}{nx:Nat}{Q:Pst}(hlen:L.length=pre.length)(hL:ExtOk L nx)(ha:args=args0.map (SV.ren (ext L nx)))
 (hp:HasO (ext L nx) H 0 (pre.map some)) (hQ:Q (.sc u,H,nx)):Fnc P f args H nx Q:=by
 refine h.call L hlen hL ha hp ?_
 rintro c rfl _
 rw [pS hp]
 simpa [SV.ren] using hQ
theorem Ctr.callM{f:FuncId}{args0 args:List SV}{pre:List VO}{c:Cz}(h:Ctr P f args0 pre (fun c'=>c'=c))(L:List Nat){H H':aV}{nx nx':Nat}{v:SV}{Q:Pst}(hlen:L.length=pre.length)(hL:ExtOk L nx)(ha:args=args0.map (SV.ren (ext L nx)))
 (hp:HasO (ext L nx) H 0 (pre.map some)) (hv:c.v.ren (ext L nx)=v) (ho:wrO (ext L nx) H 0 (c.objs.map (Option.map (VO.ren (ext L nx))))=H') (hn:nx+(c.objs.length-pre.length)=nx') (hQ:Q (v,H',nx')):Fnc P f args H nx Q:=by
 refine h.call L hlen hL ha hp ?_
 rintro c' rfl _
 rw [hv,ho,hn]
 exact hQ
section
variable {ro:Option Nat} {fn nt nx:Nat} {T:Tr SV} {k:List AIt} {dfs:List ADf} {H:aV} {Q:Pst} {ops:Array Oper} {i:Nat} {l:List Oper} {ty:TypeId} {pos:String} {af:Array Edge} {gd:Option (Nat×Bool)}
theorem kx{g:FuncId}{as1:List Operand}{ats:Array TypeId}{args args0:List SV}{pre:List VO}{u:Value}{dd:Nat}(hc:Ctr P g args0 pre (fun c=>c=⟨.sc u,pre.map some⟩))(L:List Nat)
 (hw:aA T ops ⟨some dd,.call {callee:= .value (.func g),args:=as1.toArray,argTypes:=ats},ty,pos,af,gd⟩=some true) (hd:Nat.blt dd nt=true) (ha:dy T as1=some args) (hm:cw P g=true)
 (hlen:L.length=pre.length) (hL:ExtOk L nx) (hA:args=args0.map (SV.ren (ext L nx))) (hp:HasO (ext L nx) H 0 (pre.map some))
 (h:Wp P ro ⟨fn,nt,T.set dd (.sc u),.inReg ops (i+1) l :: k,dfs,H,nx⟩ Q) :
 Wp P ro ⟨fn,nt,T,.inReg ops i (⟨some dd,.call {callee:= .value (.func g),args:=as1.toArray,argTypes:=ats},ty,pos,af,gd⟩ :: l) :: k,dfs,H,nx⟩ Q:=
 bn hw hd ha hm (hc.callV L hlen hL hA hp h)
end
theorem dS{k:IntKind}{a b:Int}(h:a=b):some (SV.sc (.int k a))=some (SV.sc (.int k b)):=by rw [h]
theorem eE{H:aV}{ρ:Nat→Nat}{n:Nat}{t:TypeId}{l:List SV}(h:H.at' n=some (aG t (SV.gV ρ l))):H.at' n=some ((aG t l).ren ρ):=by rw [sL];exact h
theorem aW{H:aV}{ρ:Nat→Nat}{n:Nat}{ro:Bool}{ne sz:Nat}{t:TypeId}{vs:List Value}(h:H.at' n=some (dat ro ne sz t vs)):H.at' n=some ((dat ro ne sz t vs).ren ρ):=by rw [mj];exact h
end
theorem ff(ro:Bool)(ne sz:Nat)(t:TypeId)(vs:List Value):VO.row ro ne sz t (eI (vs.map .sc))=dat ro ne sz t vs:=by
 unfold dat eI
 congr 1
 funext i
 rw [List.getElem?_map]
section
variable {P:Program} {K:Zone} {w0 w:World} {e:Env} {H:aV} {nx:Nat} {T:Tr SV} {ev:Operand→Value} {d:Option Tmp} {ty:TypeId} {pos:String} {af:Array Edge} {gd:Option (Nat×Bool)}
theorem tE{el:TypeId}{sz n cap:Nat}{l:List SV}{vs:List Value}{s:Sem Value}(hS:St K w0 e H nx w)(hl:SV.ba e l=some vs)(hlen:vs.length=cap*sz)(hn:n≤cap)(hcap:cap≤maxLen)(h0:0<sz)
 (hrun:s.run P w = .ok (.slice (some ⟨w.heap.size,0,none⟩) n cap) {w with heap:=w.heap.push (.cells vs.toArray el)}):iC P K w0 e (.val (.slu nx 0 n),H.set nx (.row false n sz el (eI l)),nx+1) s w:=by
 have hf:=hS.fresh nx (zP _)
 have hle:=Env.cH (x:=⟨w.heap.size,0,cap,sz,false⟩) hf
 refine⟨e.put nx ⟨w.heap.size,0,cap,sz,false⟩,_,.slu nx 0 n,_,rfl,hle,?_,by simp [SV.conc,Env.bI,Ent.at],hrun⟩
 refine hS.new (o:= .cells vs.toArray el) rfl rfl rfl rfl rfl rfl rfl ⟨rfl,vs.toArray,(0,0),el,rfl,hn,by simp [hlen],hcap,fun _=>xS _,h0,fun i hi s hs=>?_⟩
 rw [ii] at hs
 obtain⟨v,hv,hg⟩:=eY (SV.bZ hle _ _ hl) hs
 exact⟨v,hv,by simpa using hg⟩
theorem cQ{t el:TypeId}{len sz:Nat}{parts:List (Nat×Operand)}{ps:List (Nat×SV)}{z:Value}{l:List SV}(hu:P.underlying t=some (.slice el))(hs:bC P el=some sz)(h0:0<sz)(hz:c6 P el=some z)(hp:iX T parts=some ps)
 (hf:gB (fun i=>some (i*sz,sz)) (((List.range (len*sz)).map (z.cells[·% z.cells.size]!)).map .sc) ps=some l) (h1:bU l=true) (hlen:Nat.ble (len*sz) 16777216=true) (hll:l.length=len*sz) :
 OpDoes P T H nx ⟨d,.buildSlice t len parts.toArray,ty,pos,af,gd⟩ (.val (.slu nx 0 len),H.set nx (.row false len sz el (eI l)),nx+1):=by
 intro K w0 e w ev hS hE
 have hle:=bN hlen
 have hlm:len≤maxLen:=by
  unfold maxLen
  have:len*1≤len*sz:=Nat.mul_le_mul_left _ h0
  omega
 refine dw (w:=w) (s:=Instr.buildSlice t len (parts.toArray.map fun x=>(x.1,ev x.2))) ?_ (fun v w' hr=>by simp only [execOp,Sem.run_bind];rw [hr];simp)
 have hpr:=hE.parts parts ps hp
 have hpr':yp e ps (parts.toArray.map fun x=>(x.1,ev x.2)).toList:=by simpa using hpr
 obtain⟨vs,g1,g2⟩:=ou (e:=e) ps _ _ l _ hf hpr' (eO _)
 have hvl:=cS g2
 refine tE hS g2 (by omega) (zP _) hlm h0 ?_
 by_cases hz0:len*sz=0
 ·have hvs:vs= []:=zL (by omega)
  subst hvs
  have hps:ps= []:=by
   cases ps with
   | nil=>rfl
   | cons p ps=>
     exfalso
     simp only [hz0,List.range_zero,List.map_nil,gB,List.length_nil,Nat.le_zero_eq] at hf
     have hlen0:len=0:=by
      rcases Nat.eq_zero_or_pos len with h|h
      ·exact h
      ·have:=Nat.mul_pos h h0;omega
     cases hb:(Nat.beq p.2.cells.length sz && Nat.ble (p.1*sz+sz) 0)with
     | false=>rw [hb] at hf;cases hf
     | true=>
       rw [zO] at hb
       have:=bN hb.2
       omega
  subst hps
  have hq:(parts.toArray.map fun x=>(x.1,ev x.2)).toList= []:=by
   cases hq:(parts.toArray.map fun x=>(x.1,ev x.2)).toList with
   | nil=>rfl
   | cons _ _=>rw [hq] at hpr';exact hpr'.elim
  have hq2:List.map (fun x=>(x.fst,ev x.snd)) parts= []:=by simpa using hq
  simp [Instr.buildSlice,run_underlying hu,bR hs,hz0,hq2,Instr.fill,newRow,show Array.range 0=(#[]:Array Nat)from by decide]
 ·have hr:(Array.range (len*sz)).map (z.cells[·% z.cells.size]!)=((List.range (len*sz)).map (z.cells[·% z.cells.size]!)).toArray:=by
   apply Array.ext'
   simp
  simp only [Instr.buildSlice,run_underlying hu,Sem.run_bind,Result.andThen,bR hs]
  rw [if_neg (by omega)]
  simp only [Sem.run_pure,if_neg hz0,Sem.run_bind,Result.andThen,fx hz,hr,g1,newRow,run_newObj]
def RdV(P:Program)(H:aV)(sz:Nat)(s:SV)(m:Nat)(vs:List Value):Prop:=aZ H sz s=some (m,vs.map .sc)
theorem mm{b eo n ne sz:Nat}{ro:Bool}{t:TypeId}{vs us:List Value}(hb:H.at' b=some (dat ro ne sz t vs))(hn:eo+n≤ne)(hu:(vs.drop (eo*sz)).take (n*sz)=us)(hl:us.length=n*sz):RdV P H sz (.slu b eo n) n us:=by
 unfold RdV
 simp only [aZ,hb,dat,Nat.beq_refl,Bool.true_and]
 rw [show Nat.ble (eo+n) ne=true from zD hn]
 have:=fi (ro:=ro) (ne:=ne) (sz:=sz) (t:=t) (vs:=vs) (n*sz) (eo*sz) hu hl (by rw [← Nat.add_mul];exact Nat.mul_le_mul_right _ hn)
 unfold dat at this
 simp only [cond_true,this,zV]
def qg(vs:List Value):Prop:= ∀ v∈vs,v.oneCell'=true
theorem jt{vs:List Value}(h:qg vs):bU (vs.map .sc)=true:=by
 induction vs with
 | nil=>rfl
 | cons v vs ih=>
   simp only [zR,bU,zO]
   refine⟨?_,ih fun u hu=>h u (List.mem_cons_of_mem _ hu)⟩
   have:=h v (List.mem_cons_self ..)
   cases v <;> first|rfl|(simp [Value.oneCell'] at this)
theorem iu{t:TypeId}{n b:Nat}(hb:(P.info? t).map (·.bytes)=some b)(h1:n*b≤140737488355328)(h2:n≤1000000000):dK P t n=true:=by
 unfold dK
 cases hi:P.info? t with
 | none=>rw [hi] at hb;cases hb
 | some i=>
   rw [hi] at hb
   simp only [zV,zw] at hb
   simp only [hb,zO]
   exact⟨zD h1,zD h2⟩
theorem nE{t tx el:TypeId}{sz m b r eo n:Nat}{s x:Operand}{v:SV}{us vs ws:List Value}(hu:P.underlying t=some (.slice el))(hk:(∃ e',P.underlying tx=some (.slice e'))∨P.underlying tx=some .string)(hs:bC P el=some sz)(h0:0<sz)
 (hz:ey P el sz=true) (hb:(P.info? el).map (·.bytes)=some b) (hx0:ar T s=some (.slu r eo n)) (hx:ar T x=some v) (hro:H.at' r=some (dat false (eo+n) sz el us)) (hr0:(us.drop (eo*sz)).take (n*sz)=ws) (hl0:ws.length=n*sz) (hr:RdV P H sz v m vs) (h1:qg vs)
 (hm:0<m) (hm1:(n+m)*b≤140737488355328) (hm2:n+m≤1000000000) :
 OpDoes P T H nx ⟨d,.call {callee:= .builtin .append,args:= #[s,x],argTypes:= #[t,tx]},ty,pos,af,gd⟩ (.val (.slu nx 0 (n+m)),(H.del r).set nx (dat false (n+m) sz el (ws ++ vs)),nx+1):=by
 have hap:dg P H nx el (.slu r eo n) v=some (.val (.slu nx 0 (n+m)),(H.del r).set nx (.row false (n+m) sz el (eI (ws.map .sc ++ vs.map .sc))),nx+1):=by
  unfold dg
  rw [hs]
  cases sz with
  | zero=>omega
  | succ sz=>
    simp only
    rw [show aZ H (sz+1) v=some (m,vs.map .sc)from hr]
    have hold:aZ H (sz+1) (.slu r eo n)=some (n,ws.map .sc):=mm (P:=P) hro (zP _) hr0 hl0
    simp only [jt h1,Bool.not_true,cond_false,hold]
    rw [hro]
    simp only [dat,Nat.beq_refl,iu hb hm1 hm2,hz,Bool.not_false,Bool.and_self,cond_true]
    rw [show Nat.beq m 0=false from by cases hq:Nat.beq m 0 with|false=>rfl|true=>have:=Nat.eq_of_beq_eq_true hq;omega]
    rfl
 rw [← zU,ff] at hap
 refine gq ?_
 rcases hk with ⟨e',hk⟩|hk <;> simp only [fe,dy,hx0,hx,zW,dI,eP,hu,hk,hap]
theorem vW{dflt n:Nat}{x:Option Operand}{v:Option Int}(h:(x=none∧n=dflt)∨ ∃ o k i,x=some o∧ar T o=some (.sc (.int k i))∧0≤i∧i.toNat=n):natOr T dflt x=some n:=by
 rcases h with ⟨rfl,rfl⟩|⟨o,k,i,rfl,h1,h2,rfl⟩
 ·rfl
 ·obtain⟨j,rfl⟩:=Int.eq_ofNat_of_zero_le h2
  simp only [natOr,tF,h1,Int.toNat_natCast]
def gZ(T:Tr SV)(dflt:Nat)(x:Option Operand)(n:Nat):Prop:=natOr T dflt x=some n
theorem bh{dflt:Nat}:gZ T dflt none dflt:=rfl
theorem mV{dflt:Nat}{o:Operand}{k:IntKind}{i:Int}(h:ar T o=some (.sc (.int k i)))(h0:0≤i):gZ T dflt (some o) i.toNat:=vW (v:=none) (.inr ⟨o,k,i,rfl,h,h0,rfl⟩)
theorem vA{t el:TypeId}{x:Operand}{lo hi:Option Operand}{b eo n l h:Nat}{ro:Bool}{ne sz:Nat}{rt:TypeId}{c:Tr SV}(hu:P.underlying t=some (.slice el))(hs:bC P el=some sz)(hx:ar T x=some (.slu b eo n))(hb:H.at' b=some (.row ro ne sz rt c))
 (hl:gZ T 0 lo l) (hh:gZ T n hi h) (h1:l≤h) (h2:eo+h≤ne) (h3:eo+l<ne):ReadDoes P T H ⟨d,.slice t x lo hi none,ty,pos,af,gd⟩ (.slu b (eo+l) (h-l)):=by
 refine eF ?_
 unfold gZ at hl hh
 simp only [cU,hx,zW,gF,hu,hb,hs,hl,hh,Nat.beq_refl,Bool.true_and]
 rw [show Nat.ble l h=true from zD h1,show Nat.ble (eo+h) ne=true from zD h2,show Nat.blt (eo+l) ne=true from zD h3]
 rfl
theorem xJ{t el:TypeId}{x:Operand}{lo hi:Option Operand}{b eo n l h:Nat}{ro:Bool}{sz:Nat}{rt:TypeId}{vs us:List Value}(hu:P.underlying t=some (.slice el))(hs:bC P el=some sz)(hx:ar T x=some (.slu b eo n))
 (hl:gZ T 0 lo l) (hh:gZ T n hi h) (hb:H.at' b=some (dat ro (eo+h) sz rt vs)) (h1:l≤h) (hus:vs.drop ((eo+l)*sz)=us):OpDoes P T H nx ⟨d,.slice t x lo hi none,ty,pos,af,gd⟩ (.val (.slu nx 0 (h-l)),(H.del b).set nx (dat ro (h-l) sz rt us),nx+1):=by
 intro K w0 e w ev hS hE
 unfold gZ at hl hh
 have he:lW P T H nx t lo hi (.slu b eo n)=some (.val (.slu nx 0 (h-l)),(H.del b).set nx (dat ro (h-l) sz rt us),nx+1):=by
  simp only [lW,hu,hb,dat,hs,hl,hh,Nat.beq_refl,Bool.and_true]
  rw [show Nat.ble l h=true from zD h1]
  simp only [cond_true,zw,zE,true_and,and_true]
  congr 2
  funext i
  rw [← hus,List.getElem?_drop]
 have:=oB (P:=P) hS hE he (hE x _ hx)
 exact dw this (fun v w' hr=>by simp only [execOp,Sem.run_bind,Option.map_none,hr,Result.andThen,Sem.run_pure])
theorem fG{ne sz:Nat}{t:TypeId}: ∀ (vs l:List Value) (o:Nat),o+vs.length≤ne*sz→o+vs.length≤l.length→qg vs→(dat false ne sz t l).setCells o (vs.map .sc)=some (dat false ne sz t (l.take o ++ vs ++ l.drop (o+vs.length)))
 | [],l,o,_,_,_=>by simp [VO.setCells]
 | v :: vs,l,o,h,hl,h1=>by
   simp only [zS] at h hl
   have hset:(dat false ne sz t l).setCell o (.sc v)=some (dat false ne sz t (l.set o v)):=by
    simp only [dat,VO.setCell]
    have hone:(SV.sc v).one=true:=by
     have:=jt (vs:= [v]) (fun u hu=>h1 u (by simp at hu;subst hu;exact List.mem_cons_self ..))
     simpa [bU] using this
    rw [show Nat.blt o (ne*sz)=true from zD (by omega),hone]
    simp only [Bool.and_self,cond_true,zw]
    congr 1
    funext i
    simp only [Tr.set]
    rw [List.getElem?_set]
    by_cases hi:o=i
    ·subst hi
     rw [if_pos rfl,if_pos (by omega),Nat.beq_refl]
     rfl
    ·rw [if_neg hi,show Nat.beq i o=false from by cases hb:Nat.beq i o with|false=>rfl|true=>exact absurd (Nat.eq_of_beq_eq_true hb).symm hi]
     rfl
   simp only [zR,VO.setCells,hset]
   rw [fG vs (l.set o v) (o+1) (by omega) (by rw [List.length_set];omega) (fun u hu=>h1 u (List.mem_cons_of_mem _ hu))]
   simp only [zw]
   congr 1
   have e1:(l.set o v).take (o+1)=l.take o ++ [v]:=by
    rw [List.take_set,List.set_eq_take_append_cons_drop,if_pos (by rw [List.length_take];omega),List.take_take,Nat.min_eq_left (by omega),List.drop_eq_nil_of_le (by rw [List.length_take];omega)]
   have e2:(l.set o v).drop (o+1+vs.length)=l.drop (o+(vs.length+1)):=by
    rw [List.drop_set_of_lt (by omega)]
    congr 1
    omega
   rw [e1,e2]
   simp
theorem tg{t rt:TypeId}{a x:Operand}{b o n ne sz:Nat}{l vs:List Value}{v:SV}(hs:bC P t=some n)(ha:ar T a=some (.ptr b o))(hx:ar T x=some v)(hv:v.cells=vs.map .sc)(hb:H.at' b=some (dat false ne sz rt l))(hn:vs.length=n)(ho:o+n≤ne*sz)(hl:o+n≤l.length)
 (h1:qg vs):OpDoes P T H nx ⟨d,.store t a x,ty,pos,af,gd⟩ (.skip,H.set b (dat false ne sz rt (l.take o ++ vs ++ l.drop (o+n))),nx):=by
 refine gq ?_
 subst hn
 unfold fe
 simp only [ha,hx,hv,lG,hs,List.length_map,Nat.beq_refl,cond_true,dR,hb,fG vs l o ho hl h1]
end
theorem kf{A:Type}{f:A→List Value}{sz:Nat}(hf: ∀ a,(f a).length=sz): ∀ xs:List A,(xs.flatMap f).length=xs.length*sz
 | []=>by simp
 | x :: xs=>by rw [List.flatMap_cons,zT,hf,kf hf xs,zS,Nat.add_mul];omega
theorem kS{A:Type}{f:A→List Value}{sz:Nat}(hf: ∀ a,(f a).length=sz): ∀ (xs:List A) (i:Nat),(xs.flatMap f).drop (i*sz)=(xs.drop i).flatMap f
 | xs,0=>by simp
 | [],i+1=>by simp
 | x :: xs,i+1=>by
   rw [List.flatMap_cons,List.drop_succ_cons,←kS hf xs i,show(i+1)*sz=(f x).length+i*sz by rw [hf,Nat.add_mul];omega,List.drop_length_add_append]
theorem oo{A:Type}{f:A→List Value}{sz:Nat}(hf: ∀ a,(f a).length=sz): ∀ (xs:List A) (i:Nat),(xs.flatMap f).take (i*sz)=(xs.take i).flatMap f
 | xs,0=>by simp
 | [],i+1=>by simp
 | x :: xs,i+1=>by
   rw [List.flatMap_cons,List.take_succ_cons,List.flatMap_cons,←oo hf xs i,show(i+1)*sz=(f x).length+i*sz by rw [hf,Nat.add_mul];omega,List.take_length_add_append]
theorem qA{A:Type}{f:A→List Value}{sz:Nat}(hf: ∀ a,(f a).length=sz){xs:List A}{i:Nat}{a:A}(h:xs[i]? =some a):((xs.flatMap f).drop (i*sz)).take sz=f a:=by
 rw [kS hf]
 obtain⟨hi,rfl⟩:=zA.1 h
 rw [List.drop_eq_getElem_cons hi,List.flatMap_cons,List.take_append_of_le_length (by rw [hf];exact zP _),zH (by rw [hf];exact zP _)]
theorem oq{A:Type}{f:A→List Value}{sz:Nat}(hf: ∀ a,(f a).length=sz){xs:List A}{i j:Nat}{a:A}(h:xs[i]? =some a)(hj:j<sz):(xs.flatMap f)[i*sz+j]? =(f a)[j]? :=by
 have h1:=qA hf h
 rw [← h1,List.getElem?_take,if_pos hj,List.getElem?_drop]
theorem wa{A:Type}{f:A→List Value}{sz:Nat}(hf: ∀ a,(f a).length=sz){xs:List A}{i:Nat}(hi:i<xs.length)(a:A):(xs.flatMap f).take (i*sz) ++ f a ++ (xs.flatMap f).drop (i*sz+sz)=(xs.set i a).flatMap f:=by
 rw [List.set_eq_take_append_cons_drop,if_pos hi,List.flatMap_append,List.flatMap_cons,oo hf,show i*sz+sz=(i+1)*sz by rw [Nat.add_mul];omega,kS hf,List.append_assoc]
structure RecOf {A:Type} (f:A→List Value) (sz:Nat):Prop where
 len: ∀ a,(f a).length=sz
 one: ∀ a,qg (f a)
theorem pZ{A:Type}{g:A→Value}(hg: ∀ a,(g a).oneCell'=true):RecOf (fun a=> [g a]) 1:=⟨fun _=>rfl,fun a v hv=>by simp only [List.mem_singleton] at hv;subst hv;exact hg a⟩
abbrev arr{A:Type}(ro:Bool)(ne sz:Nat)(t:TypeId)(f:A→List Value)(d:Array A):VO:=dat ro ne sz t (d.toList.flatMap f)
section
variable {P:Program} {T:Tr SV} {H:aV} {nx:Nat} {d0:Option Tmp} {ty:TypeId} {pos:String} {af:Array Edge} {gd:Option (Nat×Bool)}
theorem bk{t e:TypeId}{x y:Operand}{b n i:Nat}{k:IntKind}{j:Int}{ro:Bool}{ne sz:Nat}{rt:TypeId}{c:Tr SV}(hu:P.underlying t=some (.slice e))(hs:bC P e=some sz)(hx:ar T x=some (.slu b 0 n))(hy:ar T y=some (.sc (.int k j)))
 (hb:H.at' b=some (.row ro ne sz rt c)) (hj:j=(i:Int)) (hi:i<n) (hne:n≤ne):ReadDoes P T H ⟨d0,.indexAddr t x y,ty,pos,af,gd⟩ (.ptr b (i*sz)):=by
 subst hj
 have:=mn (d:=d0) (ty:=ty) (pos:=pos) (af:=af) (gd:=gd) hu hs hx hy hb (by omega) (by omega) (by omega)
 simpa using this
theorem pI{A:Type} [Inhabited A]{d:Array A}{i:Nat}(hi:i<d.size):d.toList[i]? =some d[i]! :=by
 rw [Array.getElem?_toList,zI hi,getElem!_pos d i hi]
theorem mW{A:Type}{d:Array A}{i sz ne:Nat}(hi:i<d.size)(hne:d.size≤ne):i*sz+sz≤ne*sz:=by
 have:(i+1)*sz≤ne*sz:=Nat.mul_le_mul_right _ (by omega)
 rw [Nat.add_mul] at this
 omega
theorem yS{A:Type} [Inhabited A]{f:A→List Value}{t rt:TypeId}{x:Operand}{b i ne sz:Nat}{ro:Bool}{d:Array A}(ha:b7 P t=some (some sz))(hx:ar T x=some (.ptr b (i*sz)))(hf:RecOf f sz)(hb:H.at' b=some (arr ro ne sz rt f d))(hi:i<d.size)(hne:d.size≤ne) :
 ReadDoes P T H ⟨d0,.load t x,ty,pos,af,gd⟩ (.agg ((f d[i]!).map .sc)):=
 aC ha hx hb (fi sz (i*sz) (qA hf.len (pI hi)) (hf.len _) (mW hi hne))
theorem yR{A:Type} [Inhabited A]{g:A→Value}{t rt:TypeId}{x:Operand}{b i ne:Nat}{ro:Bool}{d:Array A}(ha:b7 P t=some none)(hx:ar T x=some (.ptr b (i*1)))(hb:H.at' b=some (arr ro ne 1 rt (fun a=> [g a]) d))(hi:i<d.size)(hne:d.size≤ne) :
 ReadDoes P T H ⟨d0,.load t x,ty,pos,af,gd⟩ (.sc (g d[i]!)):=by
 refine aw ha hx hb (jr (by omega) ?_)
 have:=oq (f:=fun a=> [g a]) (sz:=1) (fun _=>rfl) (pI hi) (j:=0) (by omega)
 simpa using this
theorem yV{A:Type}{f:A→List Value}{t rt:TypeId}{a x:Operand}{b i ne sz:Nat}{d:Array A}{v:A}{u:SV}(hs:bC P t=some sz)(ha:ar T a=some (.ptr b (i*sz)))(hx:ar T x=some u)(hu:u.cells=(f v).map .sc)(hf:RecOf f sz)(hb:H.at' b=some (arr false ne sz rt f d))(hi:i<d.size)(hne:d.size≤ne) :
 OpDoes P T H nx ⟨d0,.store t a x,ty,pos,af,gd⟩ (.skip,H.set b (arr false ne sz rt f (d.setIfInBounds i v)),nx):=by
 have hsz:d.toList.length=d.size:=rfl
 have h:=tg (d:=d0) (ty:=ty) (pos:=pos) (af:=af) (gd:=gd) (nx:=nx) hs ha hx hu hb (hf.len v) (mW hi hne) (by rw [kf hf.len];exact mW hi (zP _)) (hf.one v)
 have e:=wa hf.len (xs:=d.toList) (i:=i) (by rw [hsz];exact hi) v
 rw [e] at h
 unfold arr
 rw [Array.toList_setIfInBounds]
 exact h
end
structure DrawK (P:Program) (nt:Nat) (ops:Array Oper) (i:Nat) (l:List Oper) (s:DS) (K:DS→Prop):Prop where
 ex: ∃ s',DrawRun P (wpr P) nt ops i l s s'∧K s'
def AllH(Q:List (aV×Nat))(p:aV→Prop):Prop:=match Q with
 | []=>True
 | q :: l=>p q.1∧AllH l p
theorem AllH.get{p:aV→Prop}: ∀ {Q:List (aV×Nat)},AllH Q p→ ∀ {i:Nat} {H:aV} {n:Nat},Q[i]? =some (H,n)→p H
 | [],_,i,H,n,h=>by simp at h
 | q :: l,hh,i,H,n,h=>by
   cases i with
   | zero=>simp only [zN,zw] at h;subst h;exact hh.1
   | succ i=>exact AllH.get hh.2 (by simpa using h)
def FlOk(P:Program)(ancs chain:List Nat)(Q:List (aV×Nat)):List Rec→Prop
 | []=>True
 | r :: l=>((r.chain || !r.wanted || (Nat.beq (eX (ancs.getD r.i 0) chain) r.stg && Nat.beq (cV ancs r.i chain) r.stg))=true∨AllH Q (fun H=>ReadDoes P r.T H r.o r.val))∧FlOk P ancs chain Q l
theorem FlOk.ok{P:Program}{ancs chain:List Nat}{Q:List (aV×Nat)}: ∀ {l:List Rec},FlOk P ancs chain Q l→ ∀ r∈l,r.chain=false→r.wanted=true→ ∀ st,eX (ancs.getD r.i 0) chain≤st→st≤cV ancs r.i chain→st≠r.stg→ ∀ H n,Q.reverse[st]? =some (H,n)→ReadDoes P r.T H r.o r.val
 | [],_,r,hm,_,_,_,_,_,_,_,_,_=>by cases hm
 | r0 :: l,hh,r,hm,hc,hw,st,h1,h2,h3,H,n,hq=>by
   rcases List.mem_cons.1 hm with rfl|hm
   ·rcases hh.1 with h|h
    ·rw [hc,hw] at h
     simp only [Bool.not_true,Bool.or_false,Bool.false_or,zO] at h
     have q1:=bz h.1
     have q2:=bz h.2
     omega
    ·have hlt:=(zA.1 hq).1
     rw [List.getElem?_reverse (by simpa using hlt)] at hq
     exact h.get hq
   ·exact FlOk.ok hh.2 r hm hc hw st h1 h2 h3 H n hq
theorem jq{v:Value}(h:v.oneCell'=true):(SV.sc v).cells= [.sc v]:=by
 cases v <;> first|rfl|(simp [Value.oneCell'] at h)
theorem to{v:Value}(h:v.oneCell'=true):(SV.sc v).one=true:=by
 cases v <;> first|rfl|(simp [Value.oneCell'] at h)
section
variable {P:Program} {T:Tr SV} {H:aV} {nx:Nat} {d:Option Tmp} {ty:TypeId} {pos:String} {af:Array Edge} {gd:Option (Nat×Bool)}
theorem xM{t el:TypeId}{x0:Operand}{v0 z:Value}(hu:P.underlying t=some (.slice el))(hs:bC P el=some 1)(hz:c6 P el=some z)(h0:ar T x0=some (.sc v0))(o0:v0.oneCell'=true) :
 OpDoes P T H nx ⟨d,.buildSlice t 1 #[(0,x0)],ty,pos,af,gd⟩ (.val (.slu nx 0 1),H.set nx (dat false 1 1 el [v0]),nx+1):=by
 rw [← ff]
 refine cQ (parts:= [(0,x0)]) (ps:= [(0,.sc v0)]) hu hs (by decide) hz (by simp [iX,h0]) ?_ (by simp [bU,to o0]) rfl rfl
 simp [gB,jq o0,List.range_succ]
 rfl
theorem xL{t el:TypeId}{x0 x1:Operand}{v0 v1 z:Value}(hu:P.underlying t=some (.slice el))(hs:bC P el=some 1)(hz:c6 P el=some z)(h0:ar T x0=some (.sc v0))(h1:ar T x1=some (.sc v1))(o0:v0.oneCell'=true)(o1:v1.oneCell'=true) :
 OpDoes P T H nx ⟨d,.buildSlice t 2 #[(0,x0),(1,x1)],ty,pos,af,gd⟩ (.val (.slu nx 0 2),H.set nx (dat false 2 1 el [v0,v1]),nx+1):=by
 rw [← ff]
 refine cQ (parts:= [(0,x0),(1,x1)]) (ps:= [(0,.sc v0),(1,.sc v1)]) hu hs (by decide) hz (by simp [iX,h0,h1]) ?_ (by simp [bU,to o0,to o1]) rfl rfl
 simp [gB,jq o0,jq o1,List.range_succ]
 rfl
theorem xN{t el:TypeId}{sz:Nat}{z:Value}(hu:P.underlying t=some (.slice el))(hs:bC P el=some sz)(h0:0<sz)(hz:c6 P el=some z) :
 OpDoes P T H nx ⟨d,.buildSlice t 0 #[],ty,pos,af,gd⟩ (.val (.slu nx 0 0),H.set nx (dat false 0 sz el []),nx+1):=by
 rw [← ff]
 exact cQ (parts:= []) (ps:= []) hu hs h0 hz rfl (by simp [gB]) rfl (by rw [Nat.zero_mul];rfl) (by simp)
end
section
variable {P:Program} {ro:Option Nat} {fn nt nx:Nat} {T:Tr SV} {k:List AIt} {dfs:List ADf} {H:aV} {Q:Pst} {ops:Array Oper} {i:Nat} {l:List Oper} {d:Option Tmp} {ty:TypeId} {pos:String} {af:Array Edge} {gd:Option (Nat×Bool)}
theorem bP{id:Nat}{ops:List Oper}(hm:P.follows .mixedOrders=true)(hr:dT nt ops=true)
 (h:DrawK P nt ops.toArray 0 ops ⟨T,H,nx,[],[(H,nx)],0⟩ (fun s=>dE (bQ [] ops) (cE s)=true∧FlOk P (bQ [] ops) (cE s) s.Hs s.recs∧Wp P ro ⟨fn,nt,s.T,k,dfs,s.H,s.nx⟩ Q)) :
 Wp P ro ⟨fn,nt,T,.code (.region id ops.toArray true) :: k,dfs,H,nx⟩ Q:=by
 obtain⟨s,hs,h1,h2,h3⟩:=h.ex
 exact .step ⟨hm,s,⟨hr,hs,h1,fun r hr=>FlOk.ok h2 r hr⟩,h3⟩
section
variable {K:DS→Prop} {rs:List Rec} {Hs:List (aV×Nat)} {stg:Nat} {dd:Nat} {op:Op}
theorem be{s:DS}(h:K s):DrawK P nt ops i [] s K:=⟨⟨s,.nil _ _,h⟩⟩
theorem e8(hw:aA (aS T (aO ops.toList ⟨some dd,op,ty,pos,af,gd⟩)) ops ⟨some dd,op,ty,pos,af,gd⟩=some false)(hd:Nat.blt dd nt=true)
 (h:DrawK P nt ops (i+1) l ⟨T.set dd cX,H,nx,⟨i,⟨some dd,op,ty,pos,af,gd⟩,aS T (aO ops.toList ⟨some dd,op,ty,pos,af,gd⟩),stg,false,false,cX⟩ :: rs,Hs,stg⟩ K) :
 DrawK P nt ops i (⟨some dd,op,ty,pos,af,gd⟩ :: l) ⟨T,H,nx,rs,Hs,stg⟩ K:=by
 obtain⟨s',h1,h2⟩:=h.ex
 refine⟨⟨s',.cons (.inl ⟨hw,?_⟩) h1,h2⟩⟩
 simp only [aK hd]
theorem bv{v:SV}(hw:aA (aS T (aO ops.toList ⟨some dd,op,ty,pos,af,gd⟩)) ops ⟨some dd,op,ty,pos,af,gd⟩=some true)(hd:Nat.blt dd nt=true)(hnd: ∀ c,op ≠ .defer c)
 (hr:ReadDoes P (aS T (aO ops.toList ⟨some dd,op,ty,pos,af,gd⟩)) H ⟨some dd,op,ty,pos,af,gd⟩ v)
 (h:DrawK P nt ops (i+1) l ⟨T.set dd v,H,nx,⟨i,⟨some dd,op,ty,pos,af,gd⟩,aS T (aO ops.toList ⟨some dd,op,ty,pos,af,gd⟩),stg,false,true,v⟩ :: rs,Hs,stg⟩ K) :
 DrawK P nt ops i (⟨some dd,op,ty,pos,af,gd⟩ :: l) ⟨T,H,nx,rs,Hs,stg⟩ K:=by
 obtain⟨s',h1,h2⟩:=h.ex
 refine⟨⟨s',.cons (.inr (.inl ⟨hw,hnd,v,hr,?_⟩)) h1,h2⟩⟩
 simp only [aK hd]
theorem cR{v:SV}{H':aV}{nx':Nat}(hw:aA (aS T (aO ops.toList ⟨some dd,op,ty,pos,af,gd⟩)) ops ⟨some dd,op,ty,pos,af,gd⟩=some true)(hd:Nat.blt dd nt=true)(hnd: ∀ c,op ≠ .defer c)
 (hr:OpDoes P (aS T (aO ops.toList ⟨some dd,op,ty,pos,af,gd⟩)) H nx ⟨some dd,op,ty,pos,af,gd⟩ (.val v,H',nx'))
 (h:DrawK P nt ops (i+1) l ⟨T.set dd v,H',nx',⟨i,⟨some dd,op,ty,pos,af,gd⟩,aS T (aO ops.toList ⟨some dd,op,ty,pos,af,gd⟩),stg,true,true,v⟩ :: rs,(H',nx') :: Hs,stg+1⟩ K) :
 DrawK P nt ops i (⟨some dd,op,ty,pos,af,gd⟩ :: l) ⟨T,H,nx,rs,Hs,stg⟩ K:=by
 obtain⟨s',h1,h2⟩:=h.ex
 refine⟨⟨s',.cons (.inr (.inr ⟨hw,v,H',nx',⟨_,hr,hnd,rfl⟩,?_⟩)) h1,h2⟩⟩
 simp only [aK hd]
theorem iY{H':aV}{nx':Nat}(hw:aA (aS T (aO ops.toList ⟨none,op,ty,pos,af,gd⟩)) ops ⟨none,op,ty,pos,af,gd⟩=some true)(hnd: ∀ c,op ≠ .defer c)
 (hr:OpDoes P (aS T (aO ops.toList ⟨none,op,ty,pos,af,gd⟩)) H nx ⟨none,op,ty,pos,af,gd⟩ (.skip,H',nx'))
 (h:DrawK P nt ops (i+1) l ⟨T,H',nx',⟨i,⟨none,op,ty,pos,af,gd⟩,aS T (aO ops.toList ⟨none,op,ty,pos,af,gd⟩),stg,true,true,cX⟩ :: rs,(H',nx') :: Hs,stg+1⟩ K) :
 DrawK P nt ops i (⟨none,op,ty,pos,af,gd⟩ :: l) ⟨T,H,nx,rs,Hs,stg⟩ K:=by
 obtain⟨s',h1,h2⟩:=h.ex
 exact⟨⟨s',.cons (.inr (.inr ⟨hw,cX,H',nx',⟨_,hr,hnd,rfl⟩,rfl⟩)) h1,h2⟩⟩
theorem pj{g:FuncId}{as1:List Operand}{ats:Array TypeId}{args:List SV}(ha:dy T as1=some args)(hm:cw P g=true):OpDoes P T H nx ⟨d,.call {callee:= .value (.func g),args:=as1.toArray,argTypes:=ats},ty,pos,af,gd⟩ (.enter g args,H,nx):=by
 refine gq ?_
 have hc:cG P T {callee:= .value (.func g),args:=as1.toArray,argTypes:=ats}=some (.enter g args):=by
  simp only [cG,ha,ar,dG,hm,cond_true,List.map_nil,List.nil_append,List.append_nil]
 unfold fe
 simp only [hc,zV]
theorem b5{g:FuncId}{as1:List Operand}{ats:Array TypeId}{args:List SV}{v:SV}{H':aV}{nx':Nat}(hw:aA (aS T (aO ops.toList ⟨some dd,.call {callee:= .value (.func g),args:=as1.toArray,argTypes:=ats},ty,pos,af,gd⟩)) ops ⟨some dd,.call {callee:= .value (.func g),args:=as1.toArray,argTypes:=ats},ty,pos,af,gd⟩=some true)(hd:Nat.blt dd nt=true)
 (ha:dy (aS T (aO ops.toList ⟨some dd,.call {callee:= .value (.func g),args:=as1.toArray,argTypes:=ats},ty,pos,af,gd⟩)) as1=some args) (hm:cw P g=true)
 (hr:Fnc P g args H nx (fun r=>r=(v,H',nx')))
 (h:DrawK P nt ops (i+1) l ⟨T.set dd v,H',nx',⟨i,⟨some dd,.call {callee:= .value (.func g),args:=as1.toArray,argTypes:=ats},ty,pos,af,gd⟩,aS T (aO ops.toList ⟨some dd,.call {callee:= .value (.func g),args:=as1.toArray,argTypes:=ats},ty,pos,af,gd⟩),stg,true,true,v⟩ :: rs,(H',nx') :: Hs,stg+1⟩ K) :
 DrawK P nt ops i (⟨some dd,.call {callee:= .value (.func g),args:=as1.toArray,argTypes:=ats},ty,pos,af,gd⟩ :: l) ⟨T,H,nx,rs,Hs,stg⟩ K:=by
 obtain⟨s',h1,h2⟩:=h.ex
 refine⟨⟨s',.cons (.inr (.inr ⟨hw,v,H',nx',⟨_,pj ha hm,(fun c hc=>(by cases hc)),hr⟩,?_⟩)) h1,h2⟩⟩
 simp only [aK hd]
end
def uQ(vo:VO):Prop:= ∀ ρ,vo.ren ρ=vo
theorem bL{ro:Bool}{ne sz:Nat}{t:TypeId}{vs:List Value}:uQ (dat ro ne sz t vs):=fun ρ=>mj ρ _ _ _ _ _
theorem dl{t:TypeId}{l:List SV}(h: ∀ ρ,SV.gV ρ l=l):uQ (aG t l):=fun ρ=>by rw [sL,h]
def jy:List (Option VO)→Prop
 | []=>True
 | none :: l=>jy l
 | some vo :: l=>uQ vo∧jy l
def wrL:List Nat→aV→List (Option VO)→aV
 | b :: L,H,some vo :: l=>wrL L (H.set b vo) l
 | b :: L,H,none :: l=>wrL L (H.del b) l
 | _,H,_=>H
theorem oT{L0:List Nat}{nx:Nat}: ∀ (L:List Nat) (l:List (Option VO)) (i:Nat) (H:aV),(∀ j,j<L.length→ext L0 nx (i+j)=L.getD j 0)→l.length=L.length→jy l→wrO (ext L0 nx) H i (l.map (Option.map (VO.ren (ext L0 nx))))=wrL L H l
 | [],[],i,H,_,_,_=>rfl
 | [],_ :: _,i,H,_,h,_=>by simp at h
 | _ :: _,[],i,H,_,h,_=>by simp at h
 | b :: L,o :: l,i,H,he,hl,hc=>by
   have e0:ext L0 nx i=b:=by simpa using he 0 (by simp)
   have et: ∀ j,j<L.length→ext L0 nx (i+1+j)=L.getD j 0:=fun j hj=>by
    have:=he (j+1) (by simpa using hj)
    rw [show i+1+j=i+(j+1) by omega,this]
    simp
   cases o with
   | none=>simp only [zR,Option.map_none,wrO,wrL,e0];exact oT L l (i+1) _ et (by simpa using hl) hc
   | some vo=>simp only [zR,zV,wrO,wrL,e0,hc.1 (ext L0 nx)];exact oT L l (i+1) _ et (by simpa using hl) hc.2
section
variable {P:Program}
theorem Ctr.dp{f:FuncId}{args0 args:List SV}{pre:List VO}{c:Cz}(h:Ctr P f args0 pre (fun c'=>c'=c))(L:List Nat){H H':aV}{nx:Nat}{Q:Pst}(hlen:L.length=pre.length)(hL:ExtOk L nx)(ha:args=args0.map (SV.ren (ext L nx)))
 (hp:HasO (ext L nx) H 0 (pre.map some)) (hol:c.objs.length=L.length) (hc:jy c.objs) (hv: ∀ ρ,c.v.ren ρ=c.v) (hH:wrL L H c.objs=H') (hQ:Q (c.v,H',nx)):Fnc P f args H nx Q:=by
 refine h.callM L hlen hL ha hp (hv _) ((oT L c.objs 0 H (fun j hj=>by rw [Nat.zero_add];exact qC hj) hol hc).trans hH) ?_ hQ
 omega
end
section
variable {P:Program} {ro:Option Nat} {fn nt nx:Nat} {T:Tr SV} {k:List AIt} {dfs:List ADf} {H:aV} {Q:Pst} {ops:Array Oper} {i:Nat} {l:List Oper} {ty:TypeId} {pos:String} {af:Array Edge} {gd:Option (Nat×Bool)}
theorem cc{g:FuncId}{as1:List Operand}{ats:Array TypeId}{args:List SV}{v:SV}{H':aV}{dd:Nat}(hw:aA T ops ⟨some dd,.call {callee:= .value (.func g),args:=as1.toArray,argTypes:=ats},ty,pos,af,gd⟩=some true)(hd:Nat.blt dd nt=true)(ha:dy T as1=some args)(hm:cw P g=true)
 (hr:Fnc P g args H nx (fun r=>r=(v,H',nx)))
 (h:Wp P ro ⟨fn,nt,T.set dd v,.inReg ops (i+1) l :: k,dfs,H',nx⟩ Q) :
 Wp P ro ⟨fn,nt,T,.inReg ops i (⟨some dd,.call {callee:= .value (.func g),args:=as1.toArray,argTypes:=ats},ty,pos,af,gd⟩ :: l) :: k,dfs,H,nx⟩ Q:=
 bn hw hd ha hm (hr.mono fun r hr=>by subst hr;exact h)
theorem ve{x:Operand}{g:FuncId}{fa fb:List SV}{as1:List Operand}{ats:Array TypeId}{args args':List SV}{v:SV}{H':aV}{dd:Nat}(hw:aA T ops ⟨some dd,.call {callee:= .value x,args:=as1.toArray,argTypes:=ats},ty,pos,af,gd⟩=some true)(hd:Nat.blt dd nt=true)(hx:ar T x=some (.fn (.func g) fa fb))(ha:dy T as1=some args)(hm:cw P g=true)(hargs:fa ++ args ++ fb=args')
 (hr:Fnc P g args' H nx (fun r=>r=(v,H',nx)))
 (h:Wp P ro ⟨fn,nt,T.set dd v,.inReg ops (i+1) l :: k,dfs,H',nx⟩ Q) :
 Wp P ro ⟨fn,nt,T,.inReg ops i (⟨some dd,.call {callee:= .value x,args:=as1.toArray,argTypes:=ats},ty,pos,af,gd⟩ :: l) :: k,dfs,H,nx⟩ Q:=by
 subst hargs
 exact xm hw hd hx ha hm (hr.mono fun r hr=>by subst hr;exact h)
end
theorem cb{t el:TypeId}{len sz:Nat}{parts:List (Nat×Operand)}{ps:List (Nat×SV)}{z:Value}{cs:List SV}{dd:Nat}(hw:aA T ops ⟨some dd,.buildSlice t len parts.toArray,ty,pos,af,gd⟩=some true)(hd:Nat.blt dd nt=true)(hu:P.underlying t=some (.slice el))(hs:bC P el=some sz)(h0:Nat.blt 0 sz=true)(hz:c6 P el=some z)(hp:iX T parts=some ps)(hf:gB (fun i=>some (i*sz,sz)) (((List.range (len*sz)).map (z.cells[·% z.cells.size]!)).map .sc) ps=some cs)(h1:bU cs=true)(hlen:Nat.ble (len*sz) 16777216=true)(hll:cs.length=len*sz)
 (h:Wp P ro ⟨fn,nt,T.set dd (.slu nx 0 len),.inReg ops (i+1) l :: k,dfs,(H.set nx (.row false len sz el (eI cs))),(nx+1)⟩ Q):Wp P ro ⟨fn,nt,T,.inReg ops i (⟨some dd,.buildSlice t len parts.toArray,ty,pos,af,gd⟩ :: l) :: k,dfs,H,nx⟩ Q:=
 bS hw (.inr (fun _ h=>by cases h)) (cQ hu hs (bJ h0) hz hp hf h1 hlen hll) (by rw [aK hd];exact h)
theorem wH{t el:TypeId}{sz:Nat}{z:Value}{dd:Nat}(hw:aA T ops ⟨some dd,.buildSlice t 0 #[],ty,pos,af,gd⟩=some true)(hd:Nat.blt dd nt=true)(hu:P.underlying t=some (.slice el))(hs:bC P el=some sz)(h0:Nat.blt 0 sz=true)(hz:c6 P el=some z)
 (h:Wp P ro ⟨fn,nt,T.set dd (.slu nx 0 0),.inReg ops (i+1) l :: k,dfs,(H.set nx (dat false 0 sz el [])),(nx+1)⟩ Q):Wp P ro ⟨fn,nt,T,.inReg ops i (⟨some dd,.buildSlice t 0 #[],ty,pos,af,gd⟩ :: l) :: k,dfs,H,nx⟩ Q:=
 bS hw (.inr (fun _ h=>by cases h)) (xN hu hs (bJ h0) hz) (by rw [aK hd];exact h)
theorem wG{t el:TypeId}{x0:Operand}{v0 z:Value}{dd:Nat}(hw:aA T ops ⟨some dd,.buildSlice t 1 #[(0,x0)],ty,pos,af,gd⟩=some true)(hd:Nat.blt dd nt=true)(h0:ar T x0=some (.sc v0))(hu:P.underlying t=some (.slice el))(hs:bC P el=some 1)(hz:c6 P el=some z)(o0:v0.oneCell'=true)
 (h:Wp P ro ⟨fn,nt,T.set dd (.slu nx 0 1),.inReg ops (i+1) l :: k,dfs,(H.set nx (dat false 1 1 el [v0])),(nx+1)⟩ Q):Wp P ro ⟨fn,nt,T,.inReg ops i (⟨some dd,.buildSlice t 1 #[(0,x0)],ty,pos,af,gd⟩ :: l) :: k,dfs,H,nx⟩ Q:=
 bS hw (.inr (fun _ h=>by cases h)) (xM hu hs hz h0 o0) (by rw [aK hd];exact h)
theorem yD{t el:TypeId}{x0 x1:Operand}{v0 v1 z:Value}{dd:Nat}(hw:aA T ops ⟨some dd,.buildSlice t 2 #[(0,x0),(1,x1)],ty,pos,af,gd⟩=some true)(hd:Nat.blt dd nt=true)(h0:ar T x0=some (.sc v0))(h1:ar T x1=some (.sc v1))(hu:P.underlying t=some (.slice el))(hs:bC P el=some 1)(hz:c6 P el=some z)(o0:v0.oneCell'=true)(o1:v1.oneCell'=true)
 (h:Wp P ro ⟨fn,nt,T.set dd (.slu nx 0 2),.inReg ops (i+1) l :: k,dfs,(H.set nx (dat false 2 1 el [v0,v1])),(nx+1)⟩ Q):Wp P ro ⟨fn,nt,T,.inReg ops i (⟨some dd,.buildSlice t 2 #[(0,x0),(1,x1)],ty,pos,af,gd⟩ :: l) :: k,dfs,H,nx⟩ Q:=
 bS hw (.inr (fun _ h=>by cases h)) (xL hu hs hz h0 h1 o0 o1) (by rw [aK hd];exact h)
theorem pV{t tx el:TypeId}{sz m b r eo n:Nat}{s x:Operand}{v:SV}{us vs ws:List Value}{dd:Nat}(hw:aA T ops ⟨some dd,.call {callee:= .builtin .append,args:= #[s,x],argTypes:= #[t,tx]},ty,pos,af,gd⟩=some true)(hd:Nat.blt dd nt=true)(hx0:ar T s=some (.slu r eo n))(hx:ar T x=some v)(hu:P.underlying t=some (.slice el))(hk:(∃ e',P.underlying tx=some (.slice e'))∨P.underlying tx=some .string)(hs:bC P el=some sz)(h0:Nat.blt 0 sz=true)(hz:ey P el sz=true)(hb:(P.info? el).map (·.bytes)=some b)(hro:H.at' r=some (dat false (eo+n) sz el us))(hr0:(us.drop (eo*sz)).take (n*sz)=ws)(hl0:ws.length=n*sz)(hr:RdV P H sz v m vs)(h1:qg vs)(hm:0<m)(hm1:(n+m)*b≤140737488355328)(hm2:n+m≤1000000000)
 (h:Wp P ro ⟨fn,nt,T.set dd (.slu nx 0 (n+m)),.inReg ops (i+1) l :: k,dfs,((H.del r).set nx (dat false (n+m) sz el (ws ++ vs))),(nx+1)⟩ Q):Wp P ro ⟨fn,nt,T,.inReg ops i (⟨some dd,.call {callee:= .builtin .append,args:= #[s,x],argTypes:= #[t,tx]},ty,pos,af,gd⟩ :: l) :: k,dfs,H,nx⟩ Q:=
 bS hw (.inr (fun _ h=>by cases h)) (nE hu hk hs (bJ h0) hz hb hx0 hx hro hr0 hl0 hr h1 hm hm1 hm2) (by rw [aK hd];exact h)
theorem yx{t el:TypeId}{x:Operand}{lo hi:Option Operand}{b eo n lw hg:Nat}{rr:Bool}{sz:Nat}{rt:TypeId}{vs us:List Value}{dd:Nat}(hw:aA T ops ⟨some dd,.slice t x lo hi none,ty,pos,af,gd⟩=some true)(hd:Nat.blt dd nt=true)(hx:ar T x=some (.slu b eo n))(hu:P.underlying t=some (.slice el))(hs:bC P el=some sz)(hl:gZ T 0 lo lw)(hh:gZ T n hi hg)(hb:H.at' b=some (dat rr (eo+hg) sz rt vs))(h1:lw≤hg)(hus:vs.drop ((eo+lw)*sz)=us)
 (h:Wp P ro ⟨fn,nt,T.set dd (.slu nx 0 (hg-lw)),.inReg ops (i+1) l :: k,dfs,((H.del b).set nx (dat rr (hg-lw) sz rt us)),(nx+1)⟩ Q):Wp P ro ⟨fn,nt,T,.inReg ops i (⟨some dd,.slice t x lo hi none,ty,pos,af,gd⟩ :: l) :: k,dfs,H,nx⟩ Q:=
 bS hw (.inr (fun _ h=>by cases h)) (xJ hu hs hx hl hh hb h1 hus) (by rw [aK hd];exact h)
theorem fE{t rt:TypeId}{x:Operand}{b o ne sz:Nat}{rr:Bool}{vs:List Value}{v:Value}{dd:Nat}(hw:aA T ops ⟨some dd,.load t x,ty,pos,af,gd⟩=some true)(hd:Nat.blt dd nt=true)(hx:ar T x=some (.ptr b o))(ha:b7 P t=some none)(hb:H.at' b=some (dat rr ne sz rt vs))(hv:vs[o]? =some v)(ho:o<ne*sz)
 (h:Wp P ro ⟨fn,nt,T.set dd (.sc v),.inReg ops (i+1) l :: k,dfs,H,nx⟩ Q):Wp P ro ⟨fn,nt,T,.inReg ops i (⟨some dd,.load t x,ty,pos,af,gd⟩ :: l) :: k,dfs,H,nx⟩ Q:=
 bS hw (.inr (fun _ h=>by cases h)) ((aw ha hx hb (jr ho hv)).does) (by rw [aK hd];exact h)
theorem c7{t e:TypeId}{x y:Operand}{b n q:Nat}{kd:IntKind}{j:Int}{rr:Bool}{ne sz:Nat}{rt:TypeId}{c:Tr SV}{dd:Nat}(hw:aA T ops ⟨some dd,.indexAddr t x y,ty,pos,af,gd⟩=some true)(hd:Nat.blt dd nt=true)(hx:ar T x=some (.slu b 0 n))(hy:ar T y=some (.sc (.int kd j)))(hu:P.underlying t=some (.slice e))(hs:bC P e=some sz)(hb:H.at' b=some (.row rr ne sz rt c))(hj:j=(q:Int))(hi:q<n)(hne:n≤ne)
 (h:Wp P ro ⟨fn,nt,T.set dd (.ptr b (q*sz)),.inReg ops (i+1) l :: k,dfs,H,nx⟩ Q):Wp P ro ⟨fn,nt,T,.inReg ops i (⟨some dd,.indexAddr t x y,ty,pos,af,gd⟩ :: l) :: k,dfs,H,nx⟩ Q:=
 bS hw (.inr (fun _ h=>by cases h)) ((bk hu hs hx hy hb hj hi hne).does) (by rw [aK hd];exact h)
theorem u7{A:Type} [Inhabited A]{f:A→List Value}{t rt:TypeId}{x:Operand}{b q ne sz:Nat}{rr:Bool}{d:Array A}{dd:Nat}(hw:aA T ops ⟨some dd,.load t x,ty,pos,af,gd⟩=some true)(hd:Nat.blt dd nt=true)(hx:ar T x=some (.ptr b (q*sz)))(ha:b7 P t=some (some sz))(hf:RecOf f sz)(hb:H.at' b=some (arr rr ne sz rt f d))(hi:q<d.size)(hne:d.size≤ne)
 (h:Wp P ro ⟨fn,nt,T.set dd (.agg ((f d[q]!).map .sc)),.inReg ops (i+1) l :: k,dfs,H,nx⟩ Q):Wp P ro ⟨fn,nt,T,.inReg ops i (⟨some dd,.load t x,ty,pos,af,gd⟩ :: l) :: k,dfs,H,nx⟩ Q:=
 bS hw (.inr (fun _ h=>by cases h)) ((yS ha hx hf hb hi hne).does) (by rw [aK hd];exact h)
end
section
variable {P:Program} {nt nx:Nat} {T:Tr SV} {H:aV} {ops:Array Oper} {i:Nat} {l:List Oper} {ty:TypeId} {pos:String} {af:Array Edge} {gd:Option (Nat×Bool)} {K:DS→Prop} {rs:List Rec} {Hs:List (aV×Nat)} {stg:Nat}
theorem aX{x:Operand}{v:SV}{dd:Nat}(hw:aA (aS T (aO ops.toList ⟨some dd,.move x,ty,pos,af,gd⟩)) ops ⟨some dd,.move x,ty,pos,af,gd⟩=some true)(hd:Nat.blt dd nt=true)(hx:ar (aS T (aO ops.toList ⟨some dd,.move x,ty,pos,af,gd⟩)) x=some v)
 (h:DrawK P nt ops (i+1) l ⟨T.set dd v,H,nx,⟨i,⟨some dd,.move x,ty,pos,af,gd⟩,(aS T (aO ops.toList ⟨some dd,.move x,ty,pos,af,gd⟩)),stg,false,true,v⟩ :: rs,Hs,stg⟩ K):DrawK P nt ops i (⟨some dd,.move x,ty,pos,af,gd⟩ :: l) ⟨T,H,nx,rs,Hs,stg⟩ K:=
 bv hw hd (fun _ h=>by cases h) (aY hx) h
theorem dF{x:Operand}{v:SV}{dd:Nat}(hw:aA (aS T (aO ops.toList ⟨some dd,.assign x,ty,pos,af,gd⟩)) ops ⟨some dd,.assign x,ty,pos,af,gd⟩=some true)(hd:Nat.blt dd nt=true)(hx:ar (aS T (aO ops.toList ⟨some dd,.assign x,ty,pos,af,gd⟩)) x=some v)
 (h:DrawK P nt ops (i+1) l ⟨T.set dd v,H,nx,⟨i,⟨some dd,.assign x,ty,pos,af,gd⟩,(aS T (aO ops.toList ⟨some dd,.assign x,ty,pos,af,gd⟩)),stg,false,true,v⟩ :: rs,Hs,stg⟩ K):DrawK P nt ops i (⟨some dd,.assign x,ty,pos,af,gd⟩ :: l) ⟨T,H,nx,rs,Hs,stg⟩ K:=
 bv hw hd (fun _ h=>by cases h) (aH hx) h
theorem dH{c a b:Operand}{v:SV}{dd:Nat}(hw:aA (aS T (aO ops.toList ⟨some dd,.pick c a b,ty,pos,af,gd⟩)) ops ⟨some dd,.pick c a b,ty,pos,af,gd⟩=some true)(hd:Nat.blt dd nt=true)(hc:ar (aS T (aO ops.toList ⟨some dd,.pick c a b,ty,pos,af,gd⟩)) c=some (.sc (.bool true)))(hx:ar (aS T (aO ops.toList ⟨some dd,.pick c a b,ty,pos,af,gd⟩)) a=some v)
 (h:DrawK P nt ops (i+1) l ⟨T.set dd v,H,nx,⟨i,⟨some dd,.pick c a b,ty,pos,af,gd⟩,(aS T (aO ops.toList ⟨some dd,.pick c a b,ty,pos,af,gd⟩)),stg,false,true,v⟩ :: rs,Hs,stg⟩ K):DrawK P nt ops i (⟨some dd,.pick c a b,ty,pos,af,gd⟩ :: l) ⟨T,H,nx,rs,Hs,stg⟩ K:=
 bv hw hd (fun _ h=>by cases h) (aQ hc hx) h
theorem cW{c a b:Operand}{v:SV}{dd:Nat}(hw:aA (aS T (aO ops.toList ⟨some dd,.pick c a b,ty,pos,af,gd⟩)) ops ⟨some dd,.pick c a b,ty,pos,af,gd⟩=some true)(hd:Nat.blt dd nt=true)(hc:ar (aS T (aO ops.toList ⟨some dd,.pick c a b,ty,pos,af,gd⟩)) c=some (.sc (.bool false)))(hx:ar (aS T (aO ops.toList ⟨some dd,.pick c a b,ty,pos,af,gd⟩)) b=some v)
 (h:DrawK P nt ops (i+1) l ⟨T.set dd v,H,nx,⟨i,⟨some dd,.pick c a b,ty,pos,af,gd⟩,(aS T (aO ops.toList ⟨some dd,.pick c a b,ty,pos,af,gd⟩)),stg,false,true,v⟩ :: rs,Hs,stg⟩ K):DrawK P nt ops i (⟨some dd,.pick c a b,ty,pos,af,gd⟩ :: l) ⟨T,H,nx,rs,Hs,stg⟩ K:=
 bv hw hd (fun _ h=>by cases h) (aR hc hx) h
theorem bD{x:Operand}{b o:Nat}{dd:Nat}(hw:aA (aS T (aO ops.toList ⟨some dd,.nilCheck x,ty,pos,af,gd⟩)) ops ⟨some dd,.nilCheck x,ty,pos,af,gd⟩=some true)(hd:Nat.blt dd nt=true)(hx:ar (aS T (aO ops.toList ⟨some dd,.nilCheck x,ty,pos,af,gd⟩)) x=some (.ptr b o))
 (h:DrawK P nt ops (i+1) l ⟨T.set dd (.ptr b o),H,nx,⟨i,⟨some dd,.nilCheck x,ty,pos,af,gd⟩,(aS T (aO ops.toList ⟨some dd,.nilCheck x,ty,pos,af,gd⟩)),stg,false,true,(.ptr b o)⟩ :: rs,Hs,stg⟩ K):DrawK P nt ops i (⟨some dd,.nilCheck x,ty,pos,af,gd⟩ :: l) ⟨T,H,nx,rs,Hs,stg⟩ K:=
 bv hw hd (fun _ h=>by cases h) (ax hx) h
theorem bu{s:TypeId}{x:Operand}{f b o off:Nat}{dd:Nat}(hw:aA (aS T (aO ops.toList ⟨some dd,.fieldAddr s x f,ty,pos,af,gd⟩)) ops ⟨some dd,.fieldAddr s x f,ty,pos,af,gd⟩=some true)(hd:Nat.blt dd nt=true)(hx:ar (aS T (aO ops.toList ⟨some dd,.fieldAddr s x f,ty,pos,af,gd⟩)) x=some (.ptr b o))(hf:il P s f=some off)
 (h:DrawK P nt ops (i+1) l ⟨T.set dd (.ptr b (o+off)),H,nx,⟨i,⟨some dd,.fieldAddr s x f,ty,pos,af,gd⟩,(aS T (aO ops.toList ⟨some dd,.fieldAddr s x f,ty,pos,af,gd⟩)),stg,false,true,(.ptr b (o+off))⟩ :: rs,Hs,stg⟩ K):DrawK P nt ops i (⟨some dd,.fieldAddr s x f,ty,pos,af,gd⟩ :: l) ⟨T,H,nx,rs,Hs,stg⟩ K:=
 bv hw hd (fun _ h=>by cases h) (aq hf hx) h
theorem bK{t bt:TypeId}{x:Operand}{b o:Nat}{cs:List SV}{v:SV}{dd:Nat}(hw:aA (aS T (aO ops.toList ⟨some dd,.load t x,ty,pos,af,gd⟩)) ops ⟨some dd,.load t x,ty,pos,af,gd⟩=some true)(hd:Nat.blt dd nt=true)(hx:ar (aS T (aO ops.toList ⟨some dd,.load t x,ty,pos,af,gd⟩)) x=some (.ptr b o))(ha:b7 P t=some none)(hb:H.at' b=some (aG bt cs))(hv:cs[o]? =some v)
 (h:DrawK P nt ops (i+1) l ⟨T.set dd v,H,nx,⟨i,⟨some dd,.load t x,ty,pos,af,gd⟩,(aS T (aO ops.toList ⟨some dd,.load t x,ty,pos,af,gd⟩)),stg,false,true,v⟩ :: rs,Hs,stg⟩ K):DrawK P nt ops i (⟨some dd,.load t x,ty,pos,af,gd⟩ :: l) ⟨T,H,nx,rs,Hs,stg⟩ K:=
 bv hw hd (fun _ h=>by cases h) (aw ha hx hb (az hv)) h
theorem wi{t:TypeId}{cs:List SV}{dd:Nat}(hw:aA (aS T (aO ops.toList ⟨some dd,.alloc t,ty,pos,af,gd⟩)) ops ⟨some dd,.alloc t,ty,pos,af,gd⟩=some true)(hd:Nat.blt dd nt=true)(hz:qW P t=some cs)
 (h:DrawK P nt ops (i+1) l ⟨T.set dd (.ptr nx 0),(H.set nx (aG t cs)),(nx+1),⟨i,⟨some dd,.alloc t,ty,pos,af,gd⟩,(aS T (aO ops.toList ⟨some dd,.alloc t,ty,pos,af,gd⟩)),stg,true,true,(.ptr nx 0)⟩ :: rs,((H.set nx (aG t cs)),(nx+1)) :: Hs,stg+1⟩ K):DrawK P nt ops i (⟨some dd,.alloc t,ty,pos,af,gd⟩ :: l) ⟨T,H,nx,rs,Hs,stg⟩ K:=
 cR hw hd (fun _ h=>by cases h) (qf hz) h
theorem uw{t:TypeId}{x:Operand}{cs:List SV}{dd:Nat}(hw:aA (aS T (aO ops.toList ⟨some dd,.box t x,ty,pos,af,gd⟩)) ops ⟨some dd,.box t x,ty,pos,af,gd⟩=some true)(hd:Nat.blt dd nt=true)(hx:ar (aS T (aO ops.toList ⟨some dd,.box t x,ty,pos,af,gd⟩)) x=some (.agg cs))
 (h:DrawK P nt ops (i+1) l ⟨T.set dd (.ptr nx 0),(H.set nx (aG t cs)),(nx+1),⟨i,⟨some dd,.box t x,ty,pos,af,gd⟩,(aS T (aO ops.toList ⟨some dd,.box t x,ty,pos,af,gd⟩)),stg,true,true,(.ptr nx 0)⟩ :: rs,((H.set nx (aG t cs)),(nx+1)) :: Hs,stg+1⟩ K):DrawK P nt ops i (⟨some dd,.box t x,ty,pos,af,gd⟩ :: l) ⟨T,H,nx,rs,Hs,stg⟩ K:=
 cR hw hd (fun _ h=>by cases h) (tn hx) h
theorem kW{t bt:TypeId}{a x:Operand}{b o:Nat}{cs:List SV}{v:SV}(hw:aA (aS T (aO ops.toList ⟨none,.store t a x,ty,pos,af,gd⟩)) ops ⟨none,.store t a x,ty,pos,af,gd⟩=some true)(ha:ar (aS T (aO ops.toList ⟨none,.store t a x,ty,pos,af,gd⟩)) a=some (.ptr b o))(hx:ar (aS T (aO ops.toList ⟨none,.store t a x,ty,pos,af,gd⟩)) x=some v)(hs:bC P t=some 1)(hb:H.at' b=some (aG bt cs))(h1:v.one=true)(ho:Nat.blt o cs.length=true)
 (h:DrawK P nt ops (i+1) l ⟨T,(H.set b (aG bt (cs.set o v))),nx,⟨i,⟨none,.store t a x,ty,pos,af,gd⟩,(aS T (aO ops.toList ⟨none,.store t a x,ty,pos,af,gd⟩)),stg,true,true,cX⟩ :: rs,((H.set b (aG bt (cs.set o v))),nx) :: Hs,stg+1⟩ K):DrawK P nt ops i (⟨none,.store t a x,ty,pos,af,gd⟩ :: l) ⟨T,H,nx,rs,Hs,stg⟩ K:=
 iY hw (fun _ h=>by cases h) (nD hs ha hx hb h1 (zB ho)) h
theorem uq{t bt:TypeId}{a x:Operand}{b o n:Nat}{cs vs cs':List SV}(hw:aA (aS T (aO ops.toList ⟨none,.store t a x,ty,pos,af,gd⟩)) ops ⟨none,.store t a x,ty,pos,af,gd⟩=some true)(ha:ar (aS T (aO ops.toList ⟨none,.store t a x,ty,pos,af,gd⟩)) a=some (.ptr b o))(hx:ar (aS T (aO ops.toList ⟨none,.store t a x,ty,pos,af,gd⟩)) x=some (.agg vs))(hs:bC P t=some n)(hb:H.at' b=some (aG bt cs))(hn:vs.length=n)(ho:o+n≤cs.length)(h1:bU vs=true)(hc:cs.take o ++ vs ++ cs.drop (o+n)=cs')
 (h:DrawK P nt ops (i+1) l ⟨T,(H.set b (aG bt cs')),nx,⟨i,⟨none,.store t a x,ty,pos,af,gd⟩,(aS T (aO ops.toList ⟨none,.store t a x,ty,pos,af,gd⟩)),stg,true,true,cX⟩ :: rs,((H.set b (aG bt cs')),nx) :: Hs,stg+1⟩ K):DrawK P nt ops i (⟨none,.store t a x,ty,pos,af,gd⟩ :: l) ⟨T,H,nx,rs,Hs,stg⟩ K:=
 iY hw (fun _ h=>by cases h) (hc ▸ jf hs ha hx rfl hb hn ho h1) h
theorem fD{t yt:TypeId}{x y:Operand}{a b:Int}{dd:Nat}(hw:aA (aS T (aO ops.toList ⟨some dd,.binOp .add t x y yt,ty,pos,af,gd⟩)) ops ⟨some dd,.binOp .add t x y yt,ty,pos,af,gd⟩=some true)(hd:Nat.blt dd nt=true)(hx:ar (aS T (aO ops.toList ⟨some dd,.binOp .add t x y yt,ty,pos,af,gd⟩)) x=some (.sc (.int .i64 a)))(hy:ar (aS T (aO ops.toList ⟨some dd,.binOp .add t x y yt,ty,pos,af,gd⟩)) y=some (.sc (.int .i64 b)))(h1 : -9223372036854775808≤a+b)(h2:a+b≤9223372036854775807)
 (h:DrawK P nt ops (i+1) l ⟨T.set dd (.sc (.int .i64 (a+b))),H,nx,⟨i,⟨some dd,.binOp .add t x y yt,ty,pos,af,gd⟩,(aS T (aO ops.toList ⟨some dd,.binOp .add t x y yt,ty,pos,af,gd⟩)),stg,false,true,(.sc (.int .i64 (a+b)))⟩ :: rs,Hs,stg⟩ K):DrawK P nt ops i (⟨some dd,.binOp .add t x y yt,ty,pos,af,gd⟩ :: l) ⟨T,H,nx,rs,Hs,stg⟩ K:=
 bv hw hd (fun _ h=>by cases h) (an hx hy (.inl ⟨rfl,(zx _ ⟨h1,h2⟩).symm⟩)) h
theorem f8{t yt:TypeId}{x y:Operand}{a b:Int}{dd:Nat}(hw:aA (aS T (aO ops.toList ⟨some dd,.binOp .sub t x y yt,ty,pos,af,gd⟩)) ops ⟨some dd,.binOp .sub t x y yt,ty,pos,af,gd⟩=some true)(hd:Nat.blt dd nt=true)(hx:ar (aS T (aO ops.toList ⟨some dd,.binOp .sub t x y yt,ty,pos,af,gd⟩)) x=some (.sc (.int .i64 a)))(hy:ar (aS T (aO ops.toList ⟨some dd,.binOp .sub t x y yt,ty,pos,af,gd⟩)) y=some (.sc (.int .i64 b)))(h1 : -9223372036854775808≤a-b)(h2:a-b≤9223372036854775807)
 (h:DrawK P nt ops (i+1) l ⟨T.set dd (.sc (.int .i64 (a-b))),H,nx,⟨i,⟨some dd,.binOp .sub t x y yt,ty,pos,af,gd⟩,(aS T (aO ops.toList ⟨some dd,.binOp .sub t x y yt,ty,pos,af,gd⟩)),stg,false,true,(.sc (.int .i64 (a-b)))⟩ :: rs,Hs,stg⟩ K):DrawK P nt ops i (⟨some dd,.binOp .sub t x y yt,ty,pos,af,gd⟩ :: l) ⟨T,H,nx,rs,Hs,stg⟩ K:=
 bv hw hd (fun _ h=>by cases h) (an hx hy (.inr (.inl ⟨rfl,(zx _ ⟨h1,h2⟩).symm⟩))) h
theorem zk{t yt:TypeId}{x y:Operand}{kd:IntKind}{a b:Int}{dd:Nat}(hw:aA (aS T (aO ops.toList ⟨some dd,.binOp .eql t x y yt,ty,pos,af,gd⟩)) ops ⟨some dd,.binOp .eql t x y yt,ty,pos,af,gd⟩=some true)(hd:Nat.blt dd nt=true)(hx:ar (aS T (aO ops.toList ⟨some dd,.binOp .eql t x y yt,ty,pos,af,gd⟩)) x=some (.sc (.int kd a)))(hy:ar (aS T (aO ops.toList ⟨some dd,.binOp .eql t x y yt,ty,pos,af,gd⟩)) y=some (.sc (.int kd b)))
 (h:DrawK P nt ops (i+1) l ⟨T.set dd (.sc (.bool (a == b))),H,nx,⟨i,⟨some dd,.binOp .eql t x y yt,ty,pos,af,gd⟩,(aS T (aO ops.toList ⟨some dd,.binOp .eql t x y yt,ty,pos,af,gd⟩)),stg,false,true,(.sc (.bool (a == b)))⟩ :: rs,Hs,stg⟩ K):DrawK P nt ops i (⟨some dd,.binOp .eql t x y yt,ty,pos,af,gd⟩ :: l) ⟨T,H,nx,rs,Hs,stg⟩ K:=
 bv hw hd (fun _ h=>by cases h) (bi hx hy (.inl ⟨rfl,rfl⟩)) h
theorem zg{t yt:TypeId}{x y:Operand}{kd:IntKind}{a b:Int}{dd:Nat}(hw:aA (aS T (aO ops.toList ⟨some dd,.binOp .neq t x y yt,ty,pos,af,gd⟩)) ops ⟨some dd,.binOp .neq t x y yt,ty,pos,af,gd⟩=some true)(hd:Nat.blt dd nt=true)(hx:ar (aS T (aO ops.toList ⟨some dd,.binOp .neq t x y yt,ty,pos,af,gd⟩)) x=some (.sc (.int kd a)))(hy:ar (aS T (aO ops.toList ⟨some dd,.binOp .neq t x y yt,ty,pos,af,gd⟩)) y=some (.sc (.int kd b)))
 (h:DrawK P nt ops (i+1) l ⟨T.set dd (.sc (.bool (a != b))),H,nx,⟨i,⟨some dd,.binOp .neq t x y yt,ty,pos,af,gd⟩,(aS T (aO ops.toList ⟨some dd,.binOp .neq t x y yt,ty,pos,af,gd⟩)),stg,false,true,(.sc (.bool (a != b)))⟩ :: rs,Hs,stg⟩ K):DrawK P nt ops i (⟨some dd,.binOp .neq t x y yt,ty,pos,af,gd⟩ :: l) ⟨T,H,nx,rs,Hs,stg⟩ K:=
 bv hw hd (fun _ h=>by cases h) (bi hx hy (.inr (.inl ⟨rfl,rfl⟩))) h
theorem zh{t yt:TypeId}{x y:Operand}{kd:IntKind}{a b:Int}{dd:Nat}(hw:aA (aS T (aO ops.toList ⟨some dd,.binOp .lss t x y yt,ty,pos,af,gd⟩)) ops ⟨some dd,.binOp .lss t x y yt,ty,pos,af,gd⟩=some true)(hd:Nat.blt dd nt=true)(hx:ar (aS T (aO ops.toList ⟨some dd,.binOp .lss t x y yt,ty,pos,af,gd⟩)) x=some (.sc (.int kd a)))(hy:ar (aS T (aO ops.toList ⟨some dd,.binOp .lss t x y yt,ty,pos,af,gd⟩)) y=some (.sc (.int kd b)))
 (h:DrawK P nt ops (i+1) l ⟨T.set dd (.sc (.bool (decide (a<b)))),H,nx,⟨i,⟨some dd,.binOp .lss t x y yt,ty,pos,af,gd⟩,(aS T (aO ops.toList ⟨some dd,.binOp .lss t x y yt,ty,pos,af,gd⟩)),stg,false,true,(.sc (.bool (decide (a<b))))⟩ :: rs,Hs,stg⟩ K):DrawK P nt ops i (⟨some dd,.binOp .lss t x y yt,ty,pos,af,gd⟩ :: l) ⟨T,H,nx,rs,Hs,stg⟩ K:=
 bv hw hd (fun _ h=>by cases h) (bi hx hy (.inr (.inr (.inl ⟨rfl,rfl⟩)))) h
theorem zi{t yt:TypeId}{x y:Operand}{kd:IntKind}{a b:Int}{dd:Nat}(hw:aA (aS T (aO ops.toList ⟨some dd,.binOp .leq t x y yt,ty,pos,af,gd⟩)) ops ⟨some dd,.binOp .leq t x y yt,ty,pos,af,gd⟩=some true)(hd:Nat.blt dd nt=true)(hx:ar (aS T (aO ops.toList ⟨some dd,.binOp .leq t x y yt,ty,pos,af,gd⟩)) x=some (.sc (.int kd a)))(hy:ar (aS T (aO ops.toList ⟨some dd,.binOp .leq t x y yt,ty,pos,af,gd⟩)) y=some (.sc (.int kd b)))
 (h:DrawK P nt ops (i+1) l ⟨T.set dd (.sc (.bool (decide (a≤b)))),H,nx,⟨i,⟨some dd,.binOp .leq t x y yt,ty,pos,af,gd⟩,(aS T (aO ops.toList ⟨some dd,.binOp .leq t x y yt,ty,pos,af,gd⟩)),stg,false,true,(.sc (.bool (decide (a≤b))))⟩ :: rs,Hs,stg⟩ K):DrawK P nt ops i (⟨some dd,.binOp .leq t x y yt,ty,pos,af,gd⟩ :: l) ⟨T,H,nx,rs,Hs,stg⟩ K:=
 bv hw hd (fun _ h=>by cases h) (bi hx hy (.inr (.inr (.inr (.inl ⟨rfl,rfl⟩))))) h
theorem zj{t yt:TypeId}{x y:Operand}{kd:IntKind}{a b:Int}{dd:Nat}(hw:aA (aS T (aO ops.toList ⟨some dd,.binOp .gtr t x y yt,ty,pos,af,gd⟩)) ops ⟨some dd,.binOp .gtr t x y yt,ty,pos,af,gd⟩=some true)(hd:Nat.blt dd nt=true)(hx:ar (aS T (aO ops.toList ⟨some dd,.binOp .gtr t x y yt,ty,pos,af,gd⟩)) x=some (.sc (.int kd a)))(hy:ar (aS T (aO ops.toList ⟨some dd,.binOp .gtr t x y yt,ty,pos,af,gd⟩)) y=some (.sc (.int kd b)))
 (h:DrawK P nt ops (i+1) l ⟨T.set dd (.sc (.bool (decide (a>b)))),H,nx,⟨i,⟨some dd,.binOp .gtr t x y yt,ty,pos,af,gd⟩,(aS T (aO ops.toList ⟨some dd,.binOp .gtr t x y yt,ty,pos,af,gd⟩)),stg,false,true,(.sc (.bool (decide (a>b))))⟩ :: rs,Hs,stg⟩ K):DrawK P nt ops i (⟨some dd,.binOp .gtr t x y yt,ty,pos,af,gd⟩ :: l) ⟨T,H,nx,rs,Hs,stg⟩ K:=
 bv hw hd (fun _ h=>by cases h) (bi hx hy (.inr (.inr (.inr (.inr (.inl ⟨rfl,rfl⟩)))))) h
theorem pB{op:BinOp}{t yt:TypeId}{x y:Operand}{kd:IntKind}{a b c:Int}{dd:Nat}(hw:aA (aS T (aO ops.toList ⟨some dd,.binOp op t x y yt,ty,pos,af,gd⟩)) ops ⟨some dd,.binOp op t x y yt,ty,pos,af,gd⟩=some true)(hd:Nat.blt dd nt=true)(hx:ar (aS T (aO ops.toList ⟨some dd,.binOp op t x y yt,ty,pos,af,gd⟩)) x=some (.sc (.int kd a)))(hy:ar (aS T (aO ops.toList ⟨some dd,.binOp op t x y yt,ty,pos,af,gd⟩)) y=some (.sc (.int kd b)))(ho:op = .and∨op = .or∨op = .xor∨op = .andNot)(hc:rP op kd a b=c)
 (h:DrawK P nt ops (i+1) l ⟨T.set dd (.sc (.int kd c)),H,nx,⟨i,⟨some dd,.binOp op t x y yt,ty,pos,af,gd⟩,(aS T (aO ops.toList ⟨some dd,.binOp op t x y yt,ty,pos,af,gd⟩)),stg,false,true,(.sc (.int kd c))⟩ :: rs,Hs,stg⟩ K):DrawK P nt ops i (⟨some dd,.binOp op t x y yt,ty,pos,af,gd⟩ :: l) ⟨T,H,nx,rs,Hs,stg⟩ K:=
 bv hw hd (fun _ h=>by cases h) (sU hx hy ho hc) h
theorem ur{t yt:TypeId}{x y:Operand}{kd kd2:IntKind}{a b c:Int}{dd:Nat}(hw:aA (aS T (aO ops.toList ⟨some dd,.binOp .shl t x y yt,ty,pos,af,gd⟩)) ops ⟨some dd,.binOp .shl t x y yt,ty,pos,af,gd⟩=some true)(hd:Nat.blt dd nt=true)(hx:ar (aS T (aO ops.toList ⟨some dd,.binOp .shl t x y yt,ty,pos,af,gd⟩)) x=some (.sc (.int kd a)))(hy:ar (aS T (aO ops.toList ⟨some dd,.binOp .shl t x y yt,ty,pos,af,gd⟩)) y=some (.sc (.int kd2 b)))(h0:0≤b)(hc:kd.wrap (a*2 ^ (min b.toNat kd.bits))=c)
 (h:DrawK P nt ops (i+1) l ⟨T.set dd (.sc (.int kd c)),H,nx,⟨i,⟨some dd,.binOp .shl t x y yt,ty,pos,af,gd⟩,(aS T (aO ops.toList ⟨some dd,.binOp .shl t x y yt,ty,pos,af,gd⟩)),stg,false,true,(.sc (.int kd c))⟩ :: rs,Hs,stg⟩ K):DrawK P nt ops i (⟨some dd,.binOp .shl t x y yt,ty,pos,af,gd⟩ :: l) ⟨T,H,nx,rs,Hs,stg⟩ K:=
 bv hw hd (fun _ h=>by cases h) (wO hx hy h0 hc) h
theorem yc{t yt:TypeId}{x y:Operand}{kd kd2:IntKind}{a b c:Int}{dd:Nat}(hw:aA (aS T (aO ops.toList ⟨some dd,.binOp .shr t x y yt,ty,pos,af,gd⟩)) ops ⟨some dd,.binOp .shr t x y yt,ty,pos,af,gd⟩=some true)(hd:Nat.blt dd nt=true)(hx:ar (aS T (aO ops.toList ⟨some dd,.binOp .shr t x y yt,ty,pos,af,gd⟩)) x=some (.sc (.int kd a)))(hy:ar (aS T (aO ops.toList ⟨some dd,.binOp .shr t x y yt,ty,pos,af,gd⟩)) y=some (.sc (.int kd2 b)))(h0:0≤b)(hc:a.fdiv (2 ^ (min b.toNat kd.bits))=c)
 (h:DrawK P nt ops (i+1) l ⟨T.set dd (.sc (.int kd c)),H,nx,⟨i,⟨some dd,.binOp .shr t x y yt,ty,pos,af,gd⟩,(aS T (aO ops.toList ⟨some dd,.binOp .shr t x y yt,ty,pos,af,gd⟩)),stg,false,true,(.sc (.int kd c))⟩ :: rs,Hs,stg⟩ K):DrawK P nt ops i (⟨some dd,.binOp .shr t x y yt,ty,pos,af,gd⟩ :: l) ⟨T,H,nx,rs,Hs,stg⟩ K:=
 bv hw hd (fun _ h=>by cases h) (wN hx hy h0 hc) h
theorem ip{t:TypeId}{parts:List (Nat×Operand)}{ps:List (Nat×SV)}{pl:List (Nat×Nat)}{z:Value}{cs:List SV}{dd:Nat}(hw:aA (aS T (aO ops.toList ⟨some dd,.build t parts.toArray,ty,pos,af,gd⟩)) ops ⟨some dd,.build t parts.toArray,ty,pos,af,gd⟩=some true)(hd:Nat.blt dd nt=true)(hx:iX (aS T (aO ops.toList ⟨some dd,.build t parts.toArray,ty,pos,af,gd⟩)) parts=some ps)(hz:c6 P t=some z)(hl:ym P t=some pl)(hf:gB (fun i=>pl[i]?) (z.cells.toList.map .sc) ps=some cs)
 (h:DrawK P nt ops (i+1) l ⟨T.set dd (.agg cs),H,nx,⟨i,⟨some dd,.build t parts.toArray,ty,pos,af,gd⟩,(aS T (aO ops.toList ⟨some dd,.build t parts.toArray,ty,pos,af,gd⟩)),stg,false,true,(.agg cs)⟩ :: rs,Hs,stg⟩ K):DrawK P nt ops i (⟨some dd,.build t parts.toArray,ty,pos,af,gd⟩ :: l) ⟨T,H,nx,rs,Hs,stg⟩ K:=
 bv hw hd (fun _ h=>by cases h) (aU hx hz hl hf) h
theorem eu{t:TypeId}{x:Operand}{b:Bool}{dd:Nat}(hw:aA (aS T (aO ops.toList ⟨some dd,.unOp .not t x,ty,pos,af,gd⟩)) ops ⟨some dd,.unOp .not t x,ty,pos,af,gd⟩=some true)(hd:Nat.blt dd nt=true)(hx:ar (aS T (aO ops.toList ⟨some dd,.unOp .not t x,ty,pos,af,gd⟩)) x=some (.sc (.bool b)))
 (h:DrawK P nt ops (i+1) l ⟨T.set dd (.sc (.bool (!b))),H,nx,⟨i,⟨some dd,.unOp .not t x,ty,pos,af,gd⟩,(aS T (aO ops.toList ⟨some dd,.unOp .not t x,ty,pos,af,gd⟩)),stg,false,true,(.sc (.bool (!b)))⟩ :: rs,Hs,stg⟩ K):DrawK P nt ops i (⟨some dd,.unOp .not t x,ty,pos,af,gd⟩ :: l) ⟨T,H,nx,rs,Hs,stg⟩ K:=
 bv hw hd (fun _ h=>by cases h) (bq hx) h
theorem io{t e:TypeId}{x:Operand}{b eo n:Nat}{dd:Nat}(hw:aA (aS T (aO ops.toList ⟨some dd,.call {callee:= .builtin .len,args:= #[x],argTypes:= #[t]},ty,pos,af,gd⟩)) ops ⟨some dd,.call {callee:= .builtin .len,args:= #[x],argTypes:= #[t]},ty,pos,af,gd⟩=some true)(hd:Nat.blt dd nt=true)(hx:ar (aS T (aO ops.toList ⟨some dd,.call {callee:= .builtin .len,args:= #[x],argTypes:= #[t]},ty,pos,af,gd⟩)) x=some (.slu b eo n))(hu:P.underlying t=some (.slice e))
 (h:DrawK P nt ops (i+1) l ⟨T.set dd (.sc (.int .i64 n)),H,nx,⟨i,⟨some dd,.call {callee:= .builtin .len,args:= #[x],argTypes:= #[t]},ty,pos,af,gd⟩,(aS T (aO ops.toList ⟨some dd,.call {callee:= .builtin .len,args:= #[x],argTypes:= #[t]},ty,pos,af,gd⟩)),stg,false,true,(.sc (.int .i64 n))⟩ :: rs,Hs,stg⟩ K):DrawK P nt ops i (⟨some dd,.call {callee:= .builtin .len,args:= #[x],argTypes:= #[t]},ty,pos,af,gd⟩ :: l) ⟨T,H,nx,rs,Hs,stg⟩ K:=
 bv hw hd (fun _ h=>by cases h) (aP hu hx) h
theorem cx{t el:TypeId}{len sz:Nat}{parts:List (Nat×Operand)}{ps:List (Nat×SV)}{z:Value}{cs:List SV}{dd:Nat}(hw:aA (aS T (aO ops.toList ⟨some dd,.buildSlice t len parts.toArray,ty,pos,af,gd⟩)) ops ⟨some dd,.buildSlice t len parts.toArray,ty,pos,af,gd⟩=some true)(hd:Nat.blt dd nt=true)(hu:P.underlying t=some (.slice el))(hs:bC P el=some sz)(h0:Nat.blt 0 sz=true)(hz:c6 P el=some z)(hp:iX (aS T (aO ops.toList ⟨some dd,.buildSlice t len parts.toArray,ty,pos,af,gd⟩)) parts=some ps)(hf:gB (fun i=>some (i*sz,sz)) (((List.range (len*sz)).map (z.cells[·% z.cells.size]!)).map .sc) ps=some cs)(h1:bU cs=true)(hlen:Nat.ble (len*sz) 16777216=true)(hll:cs.length=len*sz)
 (h:DrawK P nt ops (i+1) l ⟨T.set dd (.slu nx 0 len),(H.set nx (.row false len sz el (eI cs))),(nx+1),⟨i,⟨some dd,.buildSlice t len parts.toArray,ty,pos,af,gd⟩,(aS T (aO ops.toList ⟨some dd,.buildSlice t len parts.toArray,ty,pos,af,gd⟩)),stg,true,true,(.slu nx 0 len)⟩ :: rs,((H.set nx (.row false len sz el (eI cs))),(nx+1)) :: Hs,stg+1⟩ K):DrawK P nt ops i (⟨some dd,.buildSlice t len parts.toArray,ty,pos,af,gd⟩ :: l) ⟨T,H,nx,rs,Hs,stg⟩ K:=
 cR hw hd (fun _ h=>by cases h) (cQ hu hs (bJ h0) hz hp hf h1 hlen hll) h
theorem we{t el:TypeId}{x:Operand}{lo hi:Option Operand}{b eo n lw hg:Nat}{rr:Bool}{ne sz:Nat}{rt:TypeId}{c:Tr SV}{dd:Nat}(hw:aA (aS T (aO ops.toList ⟨some dd,.slice t x lo hi none,ty,pos,af,gd⟩)) ops ⟨some dd,.slice t x lo hi none,ty,pos,af,gd⟩=some true)(hd:Nat.blt dd nt=true)(hx:ar (aS T (aO ops.toList ⟨some dd,.slice t x lo hi none,ty,pos,af,gd⟩)) x=some (.slu b eo n))(hu:P.underlying t=some (.slice el))(hs:bC P el=some sz)(hb:H.at' b=some (.row rr ne sz rt c))(hl:gZ (aS T (aO ops.toList ⟨some dd,.slice t x lo hi none,ty,pos,af,gd⟩)) 0 lo lw)(hh:gZ (aS T (aO ops.toList ⟨some dd,.slice t x lo hi none,ty,pos,af,gd⟩)) n hi hg)(h1:lw≤hg)(h2:eo+hg≤ne)(h3:eo+lw<ne)
 (h:DrawK P nt ops (i+1) l ⟨T.set dd (.slu b (eo+lw) (hg-lw)),H,nx,⟨i,⟨some dd,.slice t x lo hi none,ty,pos,af,gd⟩,(aS T (aO ops.toList ⟨some dd,.slice t x lo hi none,ty,pos,af,gd⟩)),stg,false,true,(.slu b (eo+lw) (hg-lw))⟩ :: rs,Hs,stg⟩ K):DrawK P nt ops i (⟨some dd,.slice t x lo hi none,ty,pos,af,gd⟩ :: l) ⟨T,H,nx,rs,Hs,stg⟩ K:=
 bv hw hd (fun _ h=>by cases h) (vA hu hs hx hb hl hh h1 h2 h3) h
theorem fC{t rt:TypeId}{x:Operand}{b o ne sz:Nat}{rr:Bool}{vs:List Value}{v:Value}{dd:Nat}(hw:aA (aS T (aO ops.toList ⟨some dd,.load t x,ty,pos,af,gd⟩)) ops ⟨some dd,.load t x,ty,pos,af,gd⟩=some true)(hd:Nat.blt dd nt=true)(hx:ar (aS T (aO ops.toList ⟨some dd,.load t x,ty,pos,af,gd⟩)) x=some (.ptr b o))(ha:b7 P t=some none)(hb:H.at' b=some (dat rr ne sz rt vs))(hv:vs[o]? =some v)(ho:o<ne*sz)
 (h:DrawK P nt ops (i+1) l ⟨T.set dd (.sc v),H,nx,⟨i,⟨some dd,.load t x,ty,pos,af,gd⟩,(aS T (aO ops.toList ⟨some dd,.load t x,ty,pos,af,gd⟩)),stg,false,true,(.sc v)⟩ :: rs,Hs,stg⟩ K):DrawK P nt ops i (⟨some dd,.load t x,ty,pos,af,gd⟩ :: l) ⟨T,H,nx,rs,Hs,stg⟩ K:=
 bv hw hd (fun _ h=>by cases h) (aw ha hx hb (jr ho hv)) h
theorem bb{t e:TypeId}{x y:Operand}{b n q:Nat}{kd:IntKind}{j:Int}{rr:Bool}{ne sz:Nat}{rt:TypeId}{c:Tr SV}{dd:Nat}(hw:aA (aS T (aO ops.toList ⟨some dd,.indexAddr t x y,ty,pos,af,gd⟩)) ops ⟨some dd,.indexAddr t x y,ty,pos,af,gd⟩=some true)(hd:Nat.blt dd nt=true)(hx:ar (aS T (aO ops.toList ⟨some dd,.indexAddr t x y,ty,pos,af,gd⟩)) x=some (.slu b 0 n))(hy:ar (aS T (aO ops.toList ⟨some dd,.indexAddr t x y,ty,pos,af,gd⟩)) y=some (.sc (.int kd j)))(hu:P.underlying t=some (.slice e))(hs:bC P e=some sz)(hb:H.at' b=some (.row rr ne sz rt c))(hj:j=(q:Int))(hi:q<n)(hne:n≤ne)
 (h:DrawK P nt ops (i+1) l ⟨T.set dd (.ptr b (q*sz)),H,nx,⟨i,⟨some dd,.indexAddr t x y,ty,pos,af,gd⟩,(aS T (aO ops.toList ⟨some dd,.indexAddr t x y,ty,pos,af,gd⟩)),stg,false,true,(.ptr b (q*sz))⟩ :: rs,Hs,stg⟩ K):DrawK P nt ops i (⟨some dd,.indexAddr t x y,ty,pos,af,gd⟩ :: l) ⟨T,H,nx,rs,Hs,stg⟩ K:=
 bv hw hd (fun _ h=>by cases h) (bk hu hs hx hy hb hj hi hne) h
theorem cv{A:Type} [Inhabited A]{g:A→Value}{t rt:TypeId}{x:Operand}{b q ne:Nat}{rr:Bool}{d:Array A}{dd:Nat}(hw:aA (aS T (aO ops.toList ⟨some dd,.load t x,ty,pos,af,gd⟩)) ops ⟨some dd,.load t x,ty,pos,af,gd⟩=some true)(hd:Nat.blt dd nt=true)(hx:ar (aS T (aO ops.toList ⟨some dd,.load t x,ty,pos,af,gd⟩)) x=some (.ptr b (q*1)))(ha:b7 P t=some none)(hb:H.at' b=some (arr rr ne 1 rt (fun a=> [g a]) d))(hi:q<d.size)(hne:d.size≤ne)
 (h:DrawK P nt ops (i+1) l ⟨T.set dd (.sc (g d[q]!)),H,nx,⟨i,⟨some dd,.load t x,ty,pos,af,gd⟩,(aS T (aO ops.toList ⟨some dd,.load t x,ty,pos,af,gd⟩)),stg,false,true,(.sc (g d[q]!))⟩ :: rs,Hs,stg⟩ K):DrawK P nt ops i (⟨some dd,.load t x,ty,pos,af,gd⟩ :: l) ⟨T,H,nx,rs,Hs,stg⟩ K:=
 bv hw hd (fun _ h=>by cases h) (yR ha hx hb hi hne) h
theorem er{A:Type}{g:A→Value}{t rt:TypeId}{a x:Operand}{b q ne:Nat}{d:Array A}{v:A}(hw:aA (aS T (aO ops.toList ⟨none,.store t a x,ty,pos,af,gd⟩)) ops ⟨none,.store t a x,ty,pos,af,gd⟩=some true)(ha:ar (aS T (aO ops.toList ⟨none,.store t a x,ty,pos,af,gd⟩)) a=some (.ptr b (q*1)))(hx:ar (aS T (aO ops.toList ⟨none,.store t a x,ty,pos,af,gd⟩)) x=some (.sc (g v)))(hg: ∀ a,(g a).oneCell'=true)(hs:bC P t=some 1)(hb:H.at' b=some (arr false ne 1 rt (fun a=> [g a]) d))(hi:q<d.size)(hne:d.size≤ne)
 (h:DrawK P nt ops (i+1) l ⟨T,(H.set b (arr false ne 1 rt (fun a=> [g a]) (d.setIfInBounds q v))),nx,⟨i,⟨none,.store t a x,ty,pos,af,gd⟩,(aS T (aO ops.toList ⟨none,.store t a x,ty,pos,af,gd⟩)),stg,true,true,cX⟩ :: rs,((H.set b (arr false ne 1 rt (fun a=> [g a]) (d.setIfInBounds q v))),nx) :: Hs,stg+1⟩ K):DrawK P nt ops i (⟨none,.store t a x,ty,pos,af,gd⟩ :: l) ⟨T,H,nx,rs,Hs,stg⟩ K:=
 iY hw (fun _ h=>by cases h) (yV (f:=fun a=> [g a]) (v:=v) hs ha hx (jq (hg v)) (pZ hg) hb hi hne) h
theorem mL{t yt:TypeId}{x y:Operand}{kd:IntKind}{a b:Int}{dd:Nat}(hw:aA (aS T (aO ops.toList ⟨some dd,.binOp .eql t x y yt,ty,pos,af,gd⟩)) ops ⟨some dd,.binOp .eql t x y yt,ty,pos,af,gd⟩=some true)(hd:Nat.blt dd nt=true)(hx:ar (aS T (aO ops.toList ⟨some dd,.binOp .eql t x y yt,ty,pos,af,gd⟩)) x=some (.sc (.int kd a)))(hy:ar (aS T (aO ops.toList ⟨some dd,.binOp .eql t x y yt,ty,pos,af,gd⟩)) y=some (.sc (.int kd b)))
 (h1:a=b→DrawK P nt ops (i+1) l ⟨T.set dd (.sc (.bool true)),H,nx,⟨i,⟨some dd,.binOp .eql t x y yt,ty,pos,af,gd⟩,(aS T (aO ops.toList ⟨some dd,.binOp .eql t x y yt,ty,pos,af,gd⟩)),stg,false,true,(.sc (.bool true))⟩ :: rs,Hs,stg⟩ K) (h2:a≠b→DrawK P nt ops (i+1) l ⟨T.set dd (.sc (.bool false)),H,nx,⟨i,⟨some dd,.binOp .eql t x y yt,ty,pos,af,gd⟩,(aS T (aO ops.toList ⟨some dd,.binOp .eql t x y yt,ty,pos,af,gd⟩)),stg,false,true,(.sc (.bool false))⟩ :: rs,Hs,stg⟩ K):DrawK P nt ops i (⟨some dd,.binOp .eql t x y yt,ty,pos,af,gd⟩ :: l) ⟨T,H,nx,rs,Hs,stg⟩ K:=by
 refine zk hw hd hx hy ?_
 by_cases hc:a=b
 ·have e:(a == b)=true:=by simp;omega
  rw [e];exact h1 hc
 ·have e:(a == b)=false:=by simp;omega
  rw [e];exact h2 (by omega)
theorem jK{t yt:TypeId}{x y:Operand}{kd:IntKind}{a b:Int}{dd:Nat}(hw:aA (aS T (aO ops.toList ⟨some dd,.binOp .neq t x y yt,ty,pos,af,gd⟩)) ops ⟨some dd,.binOp .neq t x y yt,ty,pos,af,gd⟩=some true)(hd:Nat.blt dd nt=true)(hx:ar (aS T (aO ops.toList ⟨some dd,.binOp .neq t x y yt,ty,pos,af,gd⟩)) x=some (.sc (.int kd a)))(hy:ar (aS T (aO ops.toList ⟨some dd,.binOp .neq t x y yt,ty,pos,af,gd⟩)) y=some (.sc (.int kd b)))
 (h1:a≠b→DrawK P nt ops (i+1) l ⟨T.set dd (.sc (.bool true)),H,nx,⟨i,⟨some dd,.binOp .neq t x y yt,ty,pos,af,gd⟩,(aS T (aO ops.toList ⟨some dd,.binOp .neq t x y yt,ty,pos,af,gd⟩)),stg,false,true,(.sc (.bool true))⟩ :: rs,Hs,stg⟩ K) (h2:a=b→DrawK P nt ops (i+1) l ⟨T.set dd (.sc (.bool false)),H,nx,⟨i,⟨some dd,.binOp .neq t x y yt,ty,pos,af,gd⟩,(aS T (aO ops.toList ⟨some dd,.binOp .neq t x y yt,ty,pos,af,gd⟩)),stg,false,true,(.sc (.bool false))⟩ :: rs,Hs,stg⟩ K):DrawK P nt ops i (⟨some dd,.binOp .neq t x y yt,ty,pos,af,gd⟩ :: l) ⟨T,H,nx,rs,Hs,stg⟩ K:=by
 refine zg hw hd hx hy ?_
 by_cases hc:a≠b
 ·have e:(a != b)=true:=by simp;omega
  rw [e];exact h1 hc
 ·have e:(a != b)=false:=by simp;omega
  rw [e];exact h2 (by omega)
theorem kY{t yt:TypeId}{x y:Operand}{kd:IntKind}{a b:Int}{dd:Nat}(hw:aA (aS T (aO ops.toList ⟨some dd,.binOp .lss t x y yt,ty,pos,af,gd⟩)) ops ⟨some dd,.binOp .lss t x y yt,ty,pos,af,gd⟩=some true)(hd:Nat.blt dd nt=true)(hx:ar (aS T (aO ops.toList ⟨some dd,.binOp .lss t x y yt,ty,pos,af,gd⟩)) x=some (.sc (.int kd a)))(hy:ar (aS T (aO ops.toList ⟨some dd,.binOp .lss t x y yt,ty,pos,af,gd⟩)) y=some (.sc (.int kd b)))
 (h1:a<b→DrawK P nt ops (i+1) l ⟨T.set dd (.sc (.bool true)),H,nx,⟨i,⟨some dd,.binOp .lss t x y yt,ty,pos,af,gd⟩,(aS T (aO ops.toList ⟨some dd,.binOp .lss t x y yt,ty,pos,af,gd⟩)),stg,false,true,(.sc (.bool true))⟩ :: rs,Hs,stg⟩ K) (h2:b≤a→DrawK P nt ops (i+1) l ⟨T.set dd (.sc (.bool false)),H,nx,⟨i,⟨some dd,.binOp .lss t x y yt,ty,pos,af,gd⟩,(aS T (aO ops.toList ⟨some dd,.binOp .lss t x y yt,ty,pos,af,gd⟩)),stg,false,true,(.sc (.bool false))⟩ :: rs,Hs,stg⟩ K):DrawK P nt ops i (⟨some dd,.binOp .lss t x y yt,ty,pos,af,gd⟩ :: l) ⟨T,H,nx,rs,Hs,stg⟩ K:=by
 refine zh hw hd hx hy ?_
 by_cases hc:a<b
 ·have e:(decide (a<b))=true:=by simp;omega
  rw [e];exact h1 hc
 ·have e:(decide (a<b))=false:=by simp;omega
  rw [e];exact h2 (by omega)
theorem jL{t yt:TypeId}{x y:Operand}{kd:IntKind}{a b:Int}{dd:Nat}(hw:aA (aS T (aO ops.toList ⟨some dd,.binOp .leq t x y yt,ty,pos,af,gd⟩)) ops ⟨some dd,.binOp .leq t x y yt,ty,pos,af,gd⟩=some true)(hd:Nat.blt dd nt=true)(hx:ar (aS T (aO ops.toList ⟨some dd,.binOp .leq t x y yt,ty,pos,af,gd⟩)) x=some (.sc (.int kd a)))(hy:ar (aS T (aO ops.toList ⟨some dd,.binOp .leq t x y yt,ty,pos,af,gd⟩)) y=some (.sc (.int kd b)))
 (h1:a≤b→DrawK P nt ops (i+1) l ⟨T.set dd (.sc (.bool true)),H,nx,⟨i,⟨some dd,.binOp .leq t x y yt,ty,pos,af,gd⟩,(aS T (aO ops.toList ⟨some dd,.binOp .leq t x y yt,ty,pos,af,gd⟩)),stg,false,true,(.sc (.bool true))⟩ :: rs,Hs,stg⟩ K) (h2:b<a→DrawK P nt ops (i+1) l ⟨T.set dd (.sc (.bool false)),H,nx,⟨i,⟨some dd,.binOp .leq t x y yt,ty,pos,af,gd⟩,(aS T (aO ops.toList ⟨some dd,.binOp .leq t x y yt,ty,pos,af,gd⟩)),stg,false,true,(.sc (.bool false))⟩ :: rs,Hs,stg⟩ K):DrawK P nt ops i (⟨some dd,.binOp .leq t x y yt,ty,pos,af,gd⟩ :: l) ⟨T,H,nx,rs,Hs,stg⟩ K:=by
 refine zi hw hd hx hy ?_
 by_cases hc:a≤b
 ·have e:(decide (a≤b))=true:=by simp;omega
  rw [e];exact h1 hc
 ·have e:(decide (a≤b))=false:=by simp;omega
  rw [e];exact h2 (by omega)
theorem mK{t yt:TypeId}{x y:Operand}{kd:IntKind}{a b:Int}{dd:Nat}(hw:aA (aS T (aO ops.toList ⟨some dd,.binOp .gtr t x y yt,ty,pos,af,gd⟩)) ops ⟨some dd,.binOp .gtr t x y yt,ty,pos,af,gd⟩=some true)(hd:Nat.blt dd nt=true)(hx:ar (aS T (aO ops.toList ⟨some dd,.binOp .gtr t x y yt,ty,pos,af,gd⟩)) x=some (.sc (.int kd a)))(hy:ar (aS T (aO ops.toList ⟨some dd,.binOp .gtr t x y yt,ty,pos,af,gd⟩)) y=some (.sc (.int kd b)))
 (h1:b<a→DrawK P nt ops (i+1) l ⟨T.set dd (.sc (.bool true)),H,nx,⟨i,⟨some dd,.binOp .gtr t x y yt,ty,pos,af,gd⟩,(aS T (aO ops.toList ⟨some dd,.binOp .gtr t x y yt,ty,pos,af,gd⟩)),stg,false,true,(.sc (.bool true))⟩ :: rs,Hs,stg⟩ K) (h2:a≤b→DrawK P nt ops (i+1) l ⟨T.set dd (.sc (.bool false)),H,nx,⟨i,⟨some dd,.binOp .gtr t x y yt,ty,pos,af,gd⟩,(aS T (aO ops.toList ⟨some dd,.binOp .gtr t x y yt,ty,pos,af,gd⟩)),stg,false,true,(.sc (.bool false))⟩ :: rs,Hs,stg⟩ K):DrawK P nt ops i (⟨some dd,.binOp .gtr t x y yt,ty,pos,af,gd⟩ :: l) ⟨T,H,nx,rs,Hs,stg⟩ K:=by
 refine zj hw hd hx hy ?_
 by_cases hc:b<a
 ·have e:(decide (a>b))=true:=by simp;omega
  rw [e];exact h1 hc
 ·have e:(decide (a>b))=false:=by simp;omega
  rw [e];exact h2 (by omega)
end
section
variable {P:Program}
theorem fq{α β:Type}{fn nt k0 nx id:Nat}{T:Tr SV}{k:List AIt}{dfs:List ADf}{H:aV}{Q0:Cz→Prop}{b:Code}(n:Nat)(sl:α→List (Nat×SV))(ob:α→List (Option VO))(φ:α→Prop)(μ:α→Nat)(a0:α)(L0:List Nat)
 (n2:Nat) (sl2:β→List (Nat×SV)) (ob2:β→List (Option VO)) (ψ:β→Prop)
 (hn: ∀ a,(ob a).length=n) (hn2: ∀ a,(ob2 a).length=n2) (h0:φ a0) (hi:IsAt k0 L0 (sl a0) (ob a0) T H nx) (hk: ∀ ρ,k.map (AIt.ren ρ)=k) (hd: ∀ ρ,dfs.map (ADf.ren ρ)=dfs)
 (body: ∀ a,φ a→(∀ T' H' nx' a' L',φ a'→μ a'<μ a→IsAt k0 L' (sl a') (ob a') T' H' nx'→Wp P none ⟨fn,nt,T',.inLoop b :: .inBlock id :: k,dfs,H',nx'⟩ (fun r=> ∃ c,Q0 c∧Ends k0 c r)) →
   (∀ T' H' nx' a' L',ψ a'→IsAt k0 L' (sl2 a') (ob2 a') T' H' nx'→Wp P none ⟨fn,nt,T',k,dfs,H',nx'⟩ (fun r=> ∃ c,Q0 c∧Ends k0 c r)) →
   Wp P none ⟨fn,nt,slT (sl a),.code b :: .inLoop b :: .inBlock id :: k,dfs,kR (ob a),n⟩ (fun r=> ∃ c,Q0 c∧Ends k0 c r))
 (exit: ∀ a,ψ a→Wp P none ⟨fn,nt,slT (sl2 a),k,dfs,kR (ob2 a),n2⟩ (fun r=> ∃ c,Q0 c∧Ends k0 c r)) :
 Wp P none ⟨fn,nt,T,.code (.loop b) :: .inBlock id :: k,dfs,H,nx⟩ (fun r=> ∃ c,Q0 c∧Ends k0 c r):=
 ft n sl ob φ μ a0 L0 hn h0 hi (fun ρ=>by simp [AIt.ren,hk ρ]) hd fun a ha again=>body a ha again fun T' H' nx' a' L' hψ hat=>by
  refine Wp.can hat (hk _) (hd _) ?_
  rw [hn2 a']
  exact exit a' hψ
end
section
variable {P:Program}
theorem xe{β:Type}{fn nt k0 nx:Nat}{T:Tr SV}{k:List AIt}{dfs:List ADf}{H:aV}{Q0:Cz→Prop}{c:Operand}{x y:Code}{t:Bool}(n2:Nat)(sl2:β→List (Nat×SV))(ob2:β→List (Option VO))(ψ:β→Prop)
 (hn2: ∀ a,(ob2 a).length=n2) (hc:ar T c=some (.sc (.bool t))) (hk: ∀ ρ,k.map (AIt.ren ρ)=k) (hd: ∀ ρ,dfs.map (ADf.ren ρ)=dfs)
 (arm1:t=true→(∀ T' H' nx' a' L',ψ a'→IsAt k0 L' (sl2 a') (ob2 a') T' H' nx'→Wp P none ⟨fn,nt,T',k,dfs,H',nx'⟩ (fun r=> ∃ c,Q0 c∧Ends k0 c r)) →
   Wp P none ⟨fn,nt,T,.code x :: k,dfs,H,nx⟩ (fun r=> ∃ c,Q0 c∧Ends k0 c r))
 (arm2:t=false→(∀ T' H' nx' a' L',ψ a'→IsAt k0 L' (sl2 a') (ob2 a') T' H' nx'→Wp P none ⟨fn,nt,T',k,dfs,H',nx'⟩ (fun r=> ∃ c,Q0 c∧Ends k0 c r)) →
   Wp P none ⟨fn,nt,T,.code y :: k,dfs,H,nx⟩ (fun r=> ∃ c,Q0 c∧Ends k0 c r))
 (rest: ∀ a,ψ a→Wp P none ⟨fn,nt,slT (sl2 a),k,dfs,kR (ob2 a),n2⟩ (fun r=> ∃ c,Q0 c∧Ends k0 c r)) :
 Wp P none ⟨fn,nt,T,.code (.cond c x y) :: k,dfs,H,nx⟩ (fun r=> ∃ c,Q0 c∧Ends k0 c r):=by
 have out: ∀ T' H' nx' a' L',ψ a'→IsAt k0 L' (sl2 a') (ob2 a') T' H' nx'→Wp P none ⟨fn,nt,T',k,dfs,H',nx'⟩ (fun r=> ∃ c,Q0 c∧Ends k0 c r):=fun T' H' nx' a' L' hψ hat=>by
  refine Wp.can hat (hk _) (hd _) ?_
  rw [hn2 a']
  exact rest a' hψ
 exact sb hc (fun h=>arm1 h out) (fun h=>arm2 h out)
theorem sa{β:Type}{fn nt k0 nx:Nat}{T:Tr SV}{it:AIt}{k:List AIt}{dfs:List ADf}{H:aV}{Q0:Cz→Prop}(n2:Nat)(sl2:β→List (Nat×SV))(ob2:β→List (Option VO))(ψ:β→Prop)
 (hn2: ∀ a,(ob2 a).length=n2) (hk: ∀ ρ,k.map (AIt.ren ρ)=k) (hd: ∀ ρ,dfs.map (ADf.ren ρ)=dfs)
 (body:(∀ T' H' nx' a' L',ψ a'→IsAt k0 L' (sl2 a') (ob2 a') T' H' nx'→Wp P none ⟨fn,nt,T',k,dfs,H',nx'⟩ (fun r=> ∃ c,Q0 c∧Ends k0 c r)) →
   Wp P none ⟨fn,nt,T,it :: k,dfs,H,nx⟩ (fun r=> ∃ c,Q0 c∧Ends k0 c r))
 (rest: ∀ a,ψ a→Wp P none ⟨fn,nt,slT (sl2 a),k,dfs,kR (ob2 a),n2⟩ (fun r=> ∃ c,Q0 c∧Ends k0 c r)) :
 Wp P none ⟨fn,nt,T,it :: k,dfs,H,nx⟩ (fun r=> ∃ c,Q0 c∧Ends k0 c r):=
 body fun T' H' nx' a' L' hψ hat=>by
  refine Wp.can hat (hk _) (hd _) ?_
  rw [hn2 a']
  exact rest a' hψ
end
section
variable {P:Program}
theorem co{ro:Option Nat}{fn nt nx:Nat}{T:Tr SV}{k:List AIt}{dfs:List ADf}{H:aV}{Q:Pst}{d:Nat}(sz:Nat)(t:TypeId)(hT:T.at' d=some (.sc (.slice none 0 0)))(h0:Nat.blt 0 sz=true)
 (h:Wp P ro ⟨fn,nt,T.set d (.slu nx 0 0),k,dfs,H.set nx (dat false 0 sz t []),nx+1⟩ Q):Wp P ro ⟨fn,nt,T,k,dfs,H,nx⟩ Q:=by
 refine⟨fun K w0 e w tmps todo ds kd rof cs hS hTr htd hds hc=>?_⟩
 have hf:=hS.fresh nx (zP _)
 have hle:=Env.cH (x:=⟨0,0,0,sz,true⟩) hf
 have hT2:TRel (e.put nx ⟨0,0,0,sz,true⟩) nt (T.set d (.slu nx 0 0)) tmps:=by
  refine⟨hTr.1,fun t s hs=>?_⟩
  rcases Tr.bM hs with ⟨rfl,rfl⟩|⟨_,hs⟩
  ·obtain⟨v,g1,g2⟩:=hTr.2 _ _ hT
   simp only [SV.conc,zw] at g1
   subst g1
   exact⟨_,by simp [SV.conc,Env.bI,Ent.at],g2⟩
  ·obtain⟨v,g1,g2⟩:=hTr.2 _ _ hs
   exact⟨v,SV.bW hle _ _ g1,g2⟩
 obtain⟨r,hr,e1,w',v,g1,g2⟩:=h.run K w0 _ w tmps todo ds kd rof cs (hS.newNil false sz t _ (bJ h0)) hT2 (htd.mono hle) (hds.mono hle) (hc.mono hle)
 exact⟨r,hr,e1,w',v,Env.le_trans hle g1,g2⟩
end
theorem je{P:Program}{t:TypeId}{d:TypeDesc}{A:Type}(f:TypeDesc→Sem A)(h:P.underlying t=some d):bF P (underlying t >>= f)=bF P (f d):=by
 show bF P ((match P.underlying t with|some d=>(pure d:Sem TypeDesc)|none=>stuck "no such type").bind f)=_
 rw [h]
 rfl
section
variable {K V:Type} [DecidableEq K]
structure KEnc (P:Program) (kt:TypeId) (enc:K→Value):Prop where
 find: ∀ (l:List (K×SV×Nat)) (k:K),jJ P kt (enc k) (l.map fun x=>(enc x.1,x.2))=some (l.findIdx? fun x=>decide (x.1=k))
 check: ∀ k,bF P (Instr.checkKey false 10000 kt (enc k))=some ()
 bits: ∀ k,Instr.sameBits 10000 (enc k) (enc k)=true
theorem kV{enc:K→Value}{kd:TypeDesc}(hs: ∀ a b,Instr.sameNow kd (enc a) (enc b)=some (decide (a=b)))(k:K): ∀ (l:List (K×SV×Nat)) (i:Nat),
 Instr.findNow kd (enc k) (dummies (l.map fun x=>(enc x.1,x.2))) i=some ((l.findIdx? fun x=>decide (x.1=k)).map fun j=>(i+j,.nilFunc))
 | [],i=>rfl
 | x :: l,i=>by
   simp only [dummies,zR,Instr.findNow,hs,List.findIdx?_cons]
   by_cases h:x.1=k
   ·simp [h]
   ·have h': ¬ k=x.1:=fun e=>h e.symm
    have ih:=kV hs k l (i+1)
    simp only [dummies] at ih
    simp only [h,h',decide_false,ih,Option.map_map,Bool.false_eq_true,if_false]
    congr 2
    funext j
    simp only [Function.comp_apply,zE,and_true]
    omega
theorem kZ{P:Program}{kt:TypeId}{kd:TypeDesc}{v:Value}(h:P.underlying kt=some kd)(hk:(match kd with | .interface _ | .array .. | .struct _=>false|_=>true)=true)(e:Bool)(n:Nat) :
 bF P (Instr.checkKey e (n+1) kt v)=some ():=by
 unfold Instr.checkKey
 rw [je _ h]
 cases kd <;> first|rfl|simp at hk
theorem tZ{P:Program}{kt:TypeId}{kd:TypeDesc}{enc:K→Value}(h:P.underlying kt=some kd)(hk:(match kd with | .interface _ | .array .. | .struct _=>false|_=>true)=true)(hs: ∀ a b,Instr.sameNow kd (enc a) (enc b)=some (decide (a=b)))
 (hb: ∀ k,Instr.sameBits 10000 (enc k) (enc k)=true):KEnc P kt enc:=by
 refine⟨fun l k=>?_,fun k=>kZ h hk _ _,hb⟩
 unfold jJ
 rw [kZ h hk]
 simp only
 unfold Instr.findKey
 rw [je _ h]
 simp only [kV hs]
 cases l.findIdx? fun x=>decide (x.1=k) <;> simp [pure,bF]
theorem v8{P:Program}{kt:TypeId}(h:P.underlying kt=some .string):KEnc P kt (fun s:ByteArray=> .string s):=
 tZ h rfl (fun a b=>by simp only [Instr.sameNow,zw];rw [Bool.eq_iff_iff];simp [MapKept.bytes_beq]) (fun k=>by simp [Instr.sameBits,MapKept.bytes_beq])
def cO(m:List (K×V×Nat))(k:K):Option V:=(m.find? fun x=>decide (x.1=k)).map (·.2.1)
def dm:List (K×V×Nat)→K→V→Nat→List (K×V×Nat)
 | [],k,v,c=> [(k,v,c)]
 | x :: m,k,v,c=>if x.1=k then(k,v,x.2.2) :: m else x :: dm m k v c
def iz(m:List (K×V×Nat))(k:K)(c:Nat):Nat:=match cO m k with
 | some _=>c
 | none=>c+1
def ik:List (K×V×Nat)→K→List (K×V×Nat)
 | [],_=> []
 | x :: m,k=>if x.1=k then m else x :: ik m k
abbrev oS(enc:K→Value)(val:V→SV)(m:List (K×V×Nat)):List (Value×SV×Nat):=m.map fun x=>(enc x.1,val x.2.1,x.2.2)
abbrev iN(enc:K→Value)(val:V→SV)(m:List (K×V×Nat))(c:Nat):VO:= .map (oS enc val m) c
structure KOk (m:List (K×V×Nat)) (c:Nat):Prop where
 keys:(m.map (·.1)).Nodup
 born:(m.map (·.2.2)).Nodup
 lt: ∀ x∈m,x.2.2<c
omit [DecidableEq K] in
theorem KOk.nil(c:Nat):KOk ([]:List (K×V×Nat)) c:=⟨by simp,by simp,by simp⟩
theorem x3(m:List (K×V×Nat))(k:K):match m.findIdx? fun x=>decide (x.1=k)with
 | none=>cO m k=none∧ik m k=m∧ ∀ v c,dm m k v c=m ++ [(k,v,c)]
 | some i=> ∃ x,m[i]? =some x∧x.1=k∧cO m k=some x.2.1∧ik m k=m.eraseIdx i∧ ∀ v c,dm m k v c=m.set i (k,v,x.2.2):=by
 induction m with
 | nil=>simp [cO,ik,dm]
 | cons y m ih=>
   rw [List.findIdx?_cons]
   by_cases h:y.1=k
   ·simp [h,cO,ik,dm]
   ·simp only [h,decide_false,Bool.false_eq_true,if_false]
    cases hi:m.findIdx? fun x=>decide (x.1=k)with
    | none=>
      rw [hi] at ih
      obtain⟨h1,h2,h3⟩:=ih
      refine⟨?_,?_,fun v c=>?_⟩
      ·simpa [cO,h] using h1
      ·simp [ik,h,h2]
      ·simp [dm,h,h3]
    | some i=>
      rw [hi] at ih
      obtain⟨x,h1,h2,h3,h4,h5⟩:=ih
      refine⟨x,by simpa using h1,h2,?_,?_,fun v c=>?_⟩
      ·simpa [cO,h] using h3
      ·simp [ik,h,h4]
      ·simp [dm,h,h5]
theorem nX{m:List (K×V×Nat)}{k:K}:cO m k=none↔k∉m.map (·.1):=by
 induction m with
 | nil=>simp [cO]
 | cons y m ih=>
   by_cases h:y.1=k
   ·simp [cO,h]
   ·have:cO (y :: m) k=cO m k:=by simp [cO,h]
    rw [this,ih]
    simp [Ne.symm h]
theorem gO{m:List (K×V×Nat)}{k:K}(h:cO m k=none)(v:V)(c:Nat):dm m k v c=m ++ [(k,v,c)]:=by
 have hk:=x3 m k
 cases hi:m.findIdx? fun x=>decide (x.1=k)with
 | none=>rw [hi] at hk;exact hk.2.2 v c
 | some i=>rw [hi] at hk;obtain⟨x,_,_,h3,_⟩:=hk;rw [h] at h3;cases h3
theorem KOk.put{m:List (K×V×Nat)}{c:Nat}(h:KOk m c)(k:K)(v:V):KOk (dm m k v c) (iz m k c):=by
 have hk:=x3 m k
 cases hi:m.findIdx? fun x=>decide (x.1=k)with
 | none=>
   rw [hi] at hk
   obtain⟨h1,_,h3⟩:=hk
   rw [h3,show iz m k c=c+1 by simp [iz,h1]]
   refine⟨?_,?_,?_⟩
   ·rw [zU,List.nodup_append]
    exact⟨h.keys,by simp,fun a ha b hb=>by simp at hb;subst hb;intro e;subst e;exact nX.1 h1 ha⟩
   ·rw [zU,List.nodup_append]
    refine⟨h.born,by simp,fun a ha b hb=>?_⟩
    simp at hb
    subst hb
    obtain⟨x,hx,rfl⟩:=List.mem_map.1 ha
    have:=h.lt x hx
    omega
   ·intro x hx
    rcases List.mem_append.1 hx with hx|hx
    ·have:=h.lt x hx;omega
    ·simp at hx;subst hx;show c<c+1;omega
 | some i=>
   rw [hi] at hk
   obtain⟨x,h1,h2,h3,_,h5⟩:=hk
   rw [h5,show iz m k c=c by simp [iz,h3]]
   obtain⟨hlt,rfl⟩:=zA.1 h1
   refine⟨?_,?_,?_⟩
   ·rw [List.map_set]
    rw [show(m.map (·.1)).set i k=m.map (·.1) by rw [← h2];apply List.ext_getElem?;intro j;rw [List.getElem?_set];by_cases hj:i=j
                                                 ·subst hj;simp [hlt]
                                                 ·simp [hj]]
    exact h.keys
   ·rw [List.map_set]
    rw [show(m.map (·.2.2)).set i m[i].2.2=m.map (·.2.2) by apply List.ext_getElem?;intro j;rw [List.getElem?_set];by_cases hj:i=j
                                                            ·subst hj;simp [hlt]
                                                            ·simp [hj]]
    exact h.born
   ·intro y hy
    rcases List.mem_or_eq_of_mem_set hy with hy|rfl
    ·exact h.lt y hy
    ·exact h.lt m[i] (zZ hlt)
omit [DecidableEq K] in
theorem KOk.sub{m m':List (K×V×Nat)}{c:Nat}(h:KOk m c)(hs:m'.Sublist m):KOk m' c:=⟨h.keys.sublist (hs.map _),h.born.sublist (hs.map _),fun x hx=>h.lt x (hs.subset hx)⟩
theorem v9(m:List (K×V×Nat))(k:K):(ik m k).Sublist m:=by
 induction m with
 | nil=>exact List.Sublist.refl _
 | cons y m ih=>
   unfold ik
   split
   ·exact List.sublist_cons_self _ _
   ·exact ih.cons_cons _
theorem KOk.del{m:List (K×V×Nat)}{c:Nat}(h:KOk m c)(k:K):KOk (ik m k) c:=h.sub (v9 m k)
omit [DecidableEq K] in
theorem KOk.eq{m:List (K×V×Nat)}{c:Nat}(h:KOk m c){x y:K×V×Nat}(hx:x∈m)(hy:y∈m)(hb:x.2.2=y.2.2):x=y:=by
 obtain⟨i,hi⟩:=List.getElem?_of_mem hx
 obtain⟨j,hj⟩:=List.getElem?_of_mem hy
 obtain⟨hi',rfl⟩:=zA.1 hi
 obtain⟨hj',rfl⟩:=zA.1 hj
 have:i=j:=by
  refine(List.getElem_inj (h₀:=by simpa using hi') (h₁:=by simpa using hj') h.born).1 ?_
  simpa using hb
 subst this
 rfl
omit [DecidableEq K] in
theorem KOk.nodup{m:List (K×V×Nat)}{c:Nat}(h:KOk m c):m.Nodup:=by
 have:=h.born
 exact List.Pairwise.of_map (·.2.2) (fun a b hab e=>hab (by rw [e])) this
theorem fc{A B:Type}(f:A→B): ∀ (l:List A) (i:Nat),(l.map f).eraseIdx i=(l.eraseIdx i).map f
 | [],_=>rfl
 | x :: l,0=>rfl
 | x :: l,i+1=>by simp [fc f l i]
abbrev itV(b c:Nat)(done:List (K×V×Nat)):VO:= .iter (some b) c (done.map (·.2.2)) c
variable {P:Program} {T:Tr SV} {H:aV} {nx:Nat} {d:Option Tmp} {ty:TypeId} {pos:String} {af:Array Edge} {gd:Option (Nat×Bool)}
theorem jl{kt:TypeId}{enc:K→Value}{val:V→SV}(hE:KEnc P kt enc)(m:List (K×V×Nat))(k:K):jJ P kt (enc k) (oS enc val m)=some (m.findIdx? fun x=>decide (x.1=k)):=by
 have:=hE.find (m.map fun x=>(x.1,val x.2.1,x.2.2)) k
 rw [List.map_map] at this
 rw [show oS enc val m=m.map ((fun x:K×SV×Nat=>(enc x.1,x.2)) ∘ fun x:K×V×Nat=>(x.1,val x.2.1,x.2.2))from rfl,this]
 congr 1
 rw [List.findIdx?_map]
 rfl
theorem sP{enc:K→Value}{val:V→SV}{m:List (K×V×Nat)}{c:Nat}{t kt e:TypeId}{x y:Operand}{b:Nat}{kk:K}{v:V}{ok:Bool}(hx:ar T x=some (.mp b))(hy:ar T y=some (.sc (enc kk)))(hu:P.underlying t=some (.map kt e))(hE:KEnc P kt enc)
 (hb:H.at' b=some (iN enc val m c)) (hg:cO m kk=some v):ReadDoes P T H ⟨d,.lookup t x y ok,ty,pos,af,gd⟩ (bif ok then .tup [val v,.sc (.bool true)] else val v):=by
 refine eF ?_
 have hk:=x3 m kk
 unfold cU
 simp only [wS,hy,SV.lit,zW,hx,gl,hu,hb,jl hE]
 cases hi:m.findIdx? fun x=>decide (x.1=kk)with
 | none=>rw [hi] at hk;rw [hk.1] at hg;cases hg
 | some i=>
   rw [hi] at hk
   obtain⟨z,h1,_,h3,_⟩:=hk
   rw [hg] at h3
   simp only [zw] at h3
   subst h3
   simp only [List.getElem?_map,h1,zV]
theorem vE{enc:K→Value}{val:V→SV}{m:List (K×V×Nat)}{c:Nat}{t kt e:TypeId}{x y:Operand}{b:Nat}{kk:K}{z:Value}{ok:Bool}(hx:ar T x=some (.mp b))(hy:ar T y=some (.sc (enc kk)))(hu:P.underlying t=some (.map kt e))(hE:KEnc P kt enc)
 (hb:H.at' b=some (iN enc val m c)) (hg:cO m kk=none) (hz:c6 P e=some z):ReadDoes P T H ⟨d,.lookup t x y ok,ty,pos,af,gd⟩ (bif ok then .tup [.sc z,.sc (.bool false)] else .sc z):=by
 refine eF ?_
 have hk:=x3 m kk
 unfold cU
 simp only [wS,hy,SV.lit,zW,hx,gl,hu,hb,jl hE]
 cases hi:m.findIdx? fun x=>decide (x.1=kk)with
 | none=>simp only [hz]
 | some i=>
   rw [hi] at hk
   obtain⟨z,h1,_,h3,_⟩:=hk
   rw [hg] at h3
   cases h3
theorem qe{enc:K→Value}{val:V→SV}{m:List (K×V×Nat)}{c:Nat}{t kt e:TypeId}{x y w:Operand}{b:Nat}{kk:K}{v:V}(hx:ar T x=some (.mp b))(hy:ar T y=some (.sc (enc kk)))(hu:P.underlying t=some (.map kt e))(hE:KEnc P kt enc)
 (hb:H.at' b=some (iN enc val m c)) (hw:ar T w=some (val v)):OpDoes P T H nx ⟨d,.mapUpdate t x y w,ty,pos,af,gd⟩ (.skip,H.set b (iN enc val (dm m kk v c) (iz m kk c)),nx):=by
 refine gq ?_
 have hk:=x3 m kk
 unfold fe
 simp only [wS,hy,SV.lit,zW,hx,hw,lS,hu,hb,putK,hE.check,jl hE]
 cases hi:m.findIdx? fun x=>decide (x.1=kk)with
 | none=>
   rw [hi] at hk
   obtain⟨h1,_,h3⟩:=hk
   simp only [iN,oS,h3,iz,h1,zU,zR,List.map_nil]
 | some i=>
   rw [hi] at hk
   obtain⟨z,h1,h2,h3,_,h5⟩:=hk
   simp only [iN,oS,h5,iz,h3,List.getElem?_map,h1,zV,h2,hE.bits,cond_true,List.map_set]
theorem th{enc:K→Value}{val:V→SV}{m:List (K×V×Nat)}{c:Nat}{t kt e:TypeId}{x y:Operand}{b:Nat}{kk:K}(hx:ar T x=some (.mp b))(hy:ar T y=some (.sc (enc kk)))(hu:P.underlying t=some (.map kt e))(hE:KEnc P kt enc)
 (hb:H.at' b=some (iN enc val m c)):OpDoes P T H nx ⟨d,.call {callee:= .builtin .delete,args:= #[x,y],argTypes:= #[t,kt]},ty,pos,af,gd⟩ (.val (.sc (.tuple #[])),H.set b (iN enc val (ik m kk) c),nx):=by
 refine gq ?_
 have hk:=x3 m kk
 unfold fe
 simp only [dy,hx,hy,zW,dI,SV.lit,kN,hu,hb,jl hE]
 cases hi:m.findIdx? fun x=>decide (x.1=kk)with
 | none=>
   rw [hi] at hk
   simp only [iN,hk.2.1]
 | some i=>
   rw [hi] at hk
   obtain⟨z,h1,h2,h3,h4,h5⟩:=hk
   simp only [iN,oS,h4,fc]
omit [DecidableEq K] in
theorem sQ{enc:K→Value}{val:V→SV}{m:List (K×V×Nat)}{c:Nat}{t kt e:TypeId}{x:Operand}{b:Nat}(hx:ar T x=some (.mp b))(hu:P.underlying t=some (.map kt e))(hb:H.at' b=some (iN enc val m c)) :
 ReadDoes P T H ⟨d,.call {callee:= .builtin .len,args:= #[x],argTypes:= #[t]},ty,pos,af,gd⟩ (.sc (.int .i64 m.length)):=by
 refine eF ?_
 unfold cU
 simp only [kP,hx,zW,vZ,hu,hb,List.length_map]
omit [DecidableEq K] in
theorem vT{enc:K→Value}{val:V→SV}{m:List (K×V×Nat)}{c:Nat}{t kt e:TypeId}{x:Operand}{b:Nat}(hx:ar T x=some (.mp b))(hu:P.underlying t=some (.map kt e))(hb:H.at' b=some (iN enc val m c)) :
 OpDoes P T H nx ⟨d,.range t x,ty,pos,af,gd⟩ (.val (.ptr nx 0),H.set nx (itV b c ([]:List (K×V×Nat))),nx+1):=by
 refine gq ?_
 unfold fe
 simp only [hx,zW,qa,hu,hb]
 rfl
omit [DecidableEq K] in
theorem vI{enc:K→Value}{val:V→SV}{m:List (K×V×Nat)}{c:Nat}{it:Operand}{b r:Nat}{done:List (K×V×Nat)}{x:K×V×Nat}(hx:ar T it=some (.ptr r 0))(hr:H.at' r=some (itV b c (done ++ [x])))(hb:H.at' b=some (iN enc val m c))(hok:KOk m c)(hm:x∈m) :
 ReadDoes P T H ⟨d,.entry it,ty,pos,af,gd⟩ (.tup [.sc (enc x.1),val x.2.1]):=by
 refine eF ?_
 unfold cU
 simp only [hx,zW,qF,hr,zU,zR,List.map_nil,List.getLast?_append,List.getLast?_singleton,Option.some_or,hb,Nat.beq_refl,cond_true]
 have hf:(oS enc val m).find? (fun y=>Nat.beq y.2.2 x.2.2)=some (enc x.1,val x.2.1,x.2.2):=by
  have:m.find? (fun y=>Nat.beq y.2.2 x.2.2)=some x:=by
   cases hh:m.find? (fun y=>Nat.beq y.2.2 x.2.2)with
   | none=>exact absurd (List.find?_eq_none.1 hh x hm) (by simp)
   | some y=>
     have h1:=List.find?_some hh
     exact congrArg some (hok.eq (List.mem_of_find?_eq_some hh) hm (Nat.eq_of_beq_eq_true h1))
  rw [oS,List.find?_map,show((fun y:Value×SV×Nat=>Nat.beq y.2.2 x.2.2) ∘ fun x:K×V×Nat=>(enc x.1,val x.2.1,x.2.2))=fun y:K×V×Nat=>Nat.beq y.2.2 x.2.2 from rfl,this]
  rfl
 rw [hf]
end
section
variable {P:Program} {T:Tr SV} {H:aV} {nx:Nat} {d:Option Tmp} {ty:TypeId} {pos:String} {af:Array Edge} {gd:Option (Nat×Bool)}
theorem vH{t yt:TypeId}{x y:Operand}{s:SV}{v:Value}{d0:TypeDesc}(hx:ar T x=some s)(hy:ar T y=some (.sc v))(hu:P.underlying t=some d0)(hn:j6 s v d0=true):ReadDoes P T H ⟨d,.binOp .eql t x y yt,ty,pos,af,gd⟩ (.sc (.bool false)):=by
 refine eF ?_
 unfold cU
 simp only [hx,hy,zW,kL,hu,hn,cond_true]
theorem vD{t yt:TypeId}{x y:Operand}{s:SV}{v:Value}{d0:TypeDesc}(hx:ar T x=some s)(hy:ar T y=some (.sc v))(hu:P.underlying t=some d0)(hn:j6 s v d0=true):ReadDoes P T H ⟨d,.binOp .neq t x y yt,ty,pos,af,gd⟩ (.sc (.bool true)):=by
 refine eF ?_
 unfold cU
 simp only [hx,hy,zW,kL,hu,hn,cond_true]
def yZ:Value→Bool
 | .pointer none=>true
 | .map none=>true
 | _=>false
def y8:Value→TypeDesc→Bool
 | .pointer none,.pointer _=>true
 | .map none,.map _ _=>true
 | _,_=>false
theorem ox{t e:TypeId}(n:Nat)(hu:P.underlying t=some (.pointer e))(w:World):(Op.equalIn (n+1) t (.pointer none) (.pointer none)).run P w = .ok true w:=by
 simp [Op.equalIn,run_underlying hu]
theorem oy{t k e:TypeId}(n:Nat)(hu:P.underlying t=some (.map k e))(w:World):(Op.equalIn (n+1) t (.map none) (.map none)).run P w = .ok true w:=by
 simp [Op.equalIn,run_underlying hu]
theorem ov{t:TypeId}{v:Value}{d0:TypeDesc}(hv:yZ v=true)(hu:P.underlying t=some d0)(hk:y8 v d0=true)(w:World):(Op.equal t v v).run P w = .ok true w:=by
 cases v with
 | pointer a=>
   cases a with
   | some a=>cases hv
   | none=>cases d0 with
     | pointer e=>exact ox 9999 hu w
     | _=>cases hk
 | map a=>
   cases a with
   | some a=>cases hv
   | none=>cases d0 with
     | map k e=>exact oy 9999 hu w
     | _=>cases hk
 | _=>cases hv
theorem vF{t yt:TypeId}{x y:Operand}{v:Value}{d0:TypeDesc}(hx:ar T x=some (.sc v))(hy:ar T y=some (.sc v))(hv:yZ v=true)(hu:P.underlying t=some d0)(hk:y8 v d0=true):ReadDoes P T H ⟨d,.binOp .eql t x y yt,ty,pos,af,gd⟩ (.sc (.bool true)):=by
 refine c9 fun ev w he=>?_
 have e1:=he x _ hx _ rfl
 have e2:=he y _ hy _ rfl
 have hg:(eqGuard .eql t x y v v).run P w = .ok () w:=by cases v <;> first|rfl|cases hv
 have hq:(Op.equal t v v).run P w = .ok true w:=ov hv hu hk w
 have hb:(binOp .eql t v v).run P w = .ok (.bool true) w:=by
  cases v <;> first|(simp only [binOp,Sem.run_bind,hq,Result.andThen_ok,Sem.run_pure];done)|cases hv
 simp only [execOp,e1,e2,Sem.run_bind,hg,hb,Result.andThen_ok,Sem.run_pure]
theorem vB{t yt:TypeId}{x y:Operand}{v:Value}{d0:TypeDesc}(hx:ar T x=some (.sc v))(hy:ar T y=some (.sc v))(hv:yZ v=true)(hu:P.underlying t=some d0)(hk:y8 v d0=true):ReadDoes P T H ⟨d,.binOp .neq t x y yt,ty,pos,af,gd⟩ (.sc (.bool false)):=by
 refine c9 fun ev w he=>?_
 have e1:=he x _ hx _ rfl
 have e2:=he y _ hy _ rfl
 have hg:(eqGuard .neq t x y v v).run P w = .ok () w:=by cases v <;> first|rfl|cases hv
 have hq:(Op.equal t v v).run P w = .ok true w:=ov hv hu hk w
 have hb:(binOp .neq t v v).run P w = .ok (.bool false) w:=by
  cases v <;> first|(simp only [binOp,Sem.run_bind,hq,Result.andThen_ok,Sem.run_pure,Bool.not_true];done)|cases hv
 simp only [execOp,e1,e2,Sem.run_bind,hg,hb,Result.andThen_ok,Sem.run_pure]
theorem pe{x:Operand}{i:Nat}{xs:Array Value}{v:Value}(h:ar T x=some (.sc (.tuple xs)))(hi:xs[i]? =some v):ReadDoes P T H ⟨d,.extract x i,ty,pos,af,gd⟩ (.sc v):=by
 refine eF ?_
 unfold cU
 simp only [h,zW,xR,hi,zV]
theorem rx{t:TypeId}:OpDoes P T H nx ⟨d,.makeMap t none,ty,pos,af,gd⟩ (.val (.mp nx),H.set nx (.map [] 0),nx+1):=gq rfl
end
section
variable {P:Program} {T:Tr SV} {H:aV} {nx:Nat} {d:Option Tmp} {ty:TypeId} {pos:String} {af:Array Edge} {gd:Option (Nat×Bool)}
theorem xB{b m sz:Nat}{ro:Bool}{t:TypeId}{l:List SV}{vs:List Value}(hb:H.at' b=some (.row ro m sz t (eI l)))(hl:l=vs.map .sc)(hlen:vs.length=m*sz):RdV P H sz (.slu b 0 m) m vs:=by
 subst hl
 rw [ff] at hb
 exact mm hb (by omega) (by rw [Nat.zero_mul,List.drop_zero];exact zH (by omega)) hlen
theorem xK{A:Type}{f:A→List Value}{xs:List A}{a:A}{t tx el:TypeId}{sz b r q:Nat}{s x:Operand}{rq:Bool}{tq:TypeId}{cs:List SV}(hx0:ar T s=some (.slu r 0 xs.length))(hx:ar T x=some (.slu q 0 1))(hu:P.underlying t=some (.slice el))
 (hk:(∃ e',P.underlying tx=some (.slice e'))∨P.underlying tx=some .string) (hs:bC P el=some sz) (h0:Nat.blt 0 sz=true) (hz:ey P el sz=true) (hb:(P.info? el).map (·.bytes)=some b) (hro:H.at' r=some (dat false xs.length sz el (xs.flatMap f)))
 (hq:H.at' q=some (.row rq 1 sz tq (eI cs))) (hcs:cs=(f a).map .sc) (hf:RecOf f sz) (hm1:(xs.length+1)*b≤140737488355328) (hm2:xs.length+1≤1000000000) :
 OpDoes P T H nx ⟨d,.call {callee:= .builtin .append,args:= #[s,x],argTypes:= #[t,tx]},ty,pos,af,gd⟩ (.val (.slu nx 0 (xs ++ [a]).length),(H.del r).set nx (dat false (xs ++ [a]).length sz el ((xs ++ [a]).flatMap f)),nx+1):=by
 have h:=nE (P:=P) (T:=T) (H:=H) (nx:=nx) (d:=d) (ty:=ty) (pos:=pos) (af:=af) (gd:=gd) (eo:=0) (n:=xs.length) (m:=1) (vs:=f a) (ws:=xs.flatMap f) hu hk hs (bJ h0) hz hb hx0 hx (by rw [Nat.zero_add];exact hro)
  (by rw [Nat.zero_mul,List.drop_zero];exact zH (by rw [kf hf.len];omega)) (kf hf.len xs) (xB hq hcs (by rw [hf.len];omega)) (hf.one a) (by decide) hm1 hm2
 rw [show(xs ++ [a]).length=xs.length+1 by simp,show(xs ++ [a]).flatMap f=xs.flatMap f ++ f a by simp]
 exact h
end
section
variable {P:Program} {T:Tr SV} {H:aV} {nx:Nat} {d0:Option Tmp} {ty:TypeId} {pos:String} {af:Array Edge} {gd:Option (Nat×Bool)}
theorem wQ{A:Type} [Inhabited A]{f:A→List Value}{t rt:TypeId}{x:Operand}{b o ne sz:Nat}{ro:Bool}{d:Array A}{q j:Nat}{v:Value}(ha:b7 P t=some none)(hx:ar T x=some (.ptr b o))(ho:o=q*sz+j)(hf:RecOf f sz)(hb:H.at' b=some (arr ro ne sz rt f d))
 (hi:q<d.size) (hne:d.size≤ne) (hv:(f d[q]!)[j]? =some v):ReadDoes P T H ⟨d0,.load t x,ty,pos,af,gd⟩ (.sc v):=by
 subst ho
 have hfit:=mW (sz:=sz) hi hne
 have hj:j<sz:=by have:=(zA.1 hv).1;rwa [hf.len] at this
 refine aw ha hx hb (jr (by omega) ?_)
 rw [oq hf.len (pI hi) hj]
 exact hv
end
section
variable {P:Program} {ro:Option Nat} {fn nt nx:Nat} {T:Tr SV} {k:List AIt} {dfs:List ADf} {H:aV} {Q:Pst} {ops:Array Oper} {i:Nat} {l:List Oper} {d:Option Tmp} {ty:TypeId} {pos:String} {af:Array Edge} {gd:Option (Nat×Bool)}
theorem so{t:TypeId}{dd:Nat}(hw:aA T ops ⟨some dd,.makeMap t none,ty,pos,af,gd⟩=some true)(hd:Nat.blt dd nt=true)
 (h:Wp P ro ⟨fn,nt,T.set dd (.mp nx),.inReg ops (i+1) l :: k,dfs,(H.set nx (.map [] 0)),(nx+1)⟩ Q):Wp P ro ⟨fn,nt,T,.inReg ops i (⟨some dd,.makeMap t none,ty,pos,af,gd⟩ :: l) :: k,dfs,H,nx⟩ Q:=
 bS hw (.inr (fun _ h=>by cases h)) (rx) (by rw [aK hd];exact h)
theorem fu{K V:Type} [DecidableEq K]{enc:K→Value}{val:V→SV}{m:List (K×V×Nat)}{c:Nat}{t kt e:TypeId}{x y:Operand}{b:Nat}{kk:K}{v:V}{dd:Nat}(hw:aA T ops ⟨some dd,.lookup t x y false,ty,pos,af,gd⟩=some true)(hd:Nat.blt dd nt=true)(hx:ar T x=some (.mp b))(hy:ar T y=some (.sc (enc kk)))(hu:P.underlying t=some (.map kt e))(hE:KEnc P kt enc)(hb:H.at' b=some (iN enc val m c))(hg:cO m kk=some v)
 (h:Wp P ro ⟨fn,nt,T.set dd (val v),.inReg ops (i+1) l :: k,dfs,H,nx⟩ Q):Wp P ro ⟨fn,nt,T,.inReg ops i (⟨some dd,.lookup t x y false,ty,pos,af,gd⟩ :: l) :: k,dfs,H,nx⟩ Q:=
 bS hw (.inr (fun _ h=>by cases h)) ((sP (ok:=false) hx hy hu hE hb hg).does) (by rw [aK hd];exact h)
theorem fL{K V:Type} [DecidableEq K]{enc:K→Value}{val:V→SV}{m:List (K×V×Nat)}{c:Nat}{t kt e:TypeId}{x y:Operand}{b:Nat}{kk:K}{z:Value}{dd:Nat}(hw:aA T ops ⟨some dd,.lookup t x y false,ty,pos,af,gd⟩=some true)(hd:Nat.blt dd nt=true)(hx:ar T x=some (.mp b))(hy:ar T y=some (.sc (enc kk)))(hu:P.underlying t=some (.map kt e))(hE:KEnc P kt enc)(hb:H.at' b=some (iN enc val m c))(hg:cO m kk=none)(hz:c6 P e=some z)
 (h:Wp P ro ⟨fn,nt,T.set dd (.sc z),.inReg ops (i+1) l :: k,dfs,H,nx⟩ Q):Wp P ro ⟨fn,nt,T,.inReg ops i (⟨some dd,.lookup t x y false,ty,pos,af,gd⟩ :: l) :: k,dfs,H,nx⟩ Q:=
 bS hw (.inr (fun _ h=>by cases h)) ((vE (ok:=false) hx hy hu hE hb hg hz).does) (by rw [aK hd];exact h)
theorem me{K V:Type} [DecidableEq K]{enc:K→Value}{val:V→SV}{m:List (K×V×Nat)}{c:Nat}{t kt e:TypeId}{x y:Operand}{b:Nat}{kk:K}{w:Operand}{v:V}(hw:aA T ops ⟨none,.mapUpdate t x y w,ty,pos,af,gd⟩=some true)(hx:ar T x=some (.mp b))(hy:ar T y=some (.sc (enc kk)))(hu:P.underlying t=some (.map kt e))(hE:KEnc P kt enc)(hb:H.at' b=some (iN enc val m c))(hw2:ar T w=some (val v))
 (h:Wp P ro ⟨fn,nt,T,.inReg ops (i+1) l :: k,dfs,(H.set b (iN enc val (dm m kk v c) (iz m kk c))),nx⟩ Q):Wp P ro ⟨fn,nt,T,.inReg ops i (⟨none,.mapUpdate t x y w,ty,pos,af,gd⟩ :: l) :: k,dfs,H,nx⟩ Q:=
 mX hw (.inr (fun _ h=>by cases h)) (qe hx hy hu hE hb hw2) h
theorem uZ{K V:Type} [DecidableEq K]{enc:K→Value}{val:V→SV}{m:List (K×V×Nat)}{c:Nat}{t kt e:TypeId}{x:Operand}{b:Nat}{dd:Nat}(hw:aA T ops ⟨some dd,.call {callee:= .builtin .len,args:= #[x],argTypes:= #[t]},ty,pos,af,gd⟩=some true)(hd:Nat.blt dd nt=true)(hx:ar T x=some (.mp b))(hu:P.underlying t=some (.map kt e))(hb:H.at' b=some (iN enc val m c))
 (h:Wp P ro ⟨fn,nt,T.set dd (.sc (.int .i64 m.length)),.inReg ops (i+1) l :: k,dfs,H,nx⟩ Q):Wp P ro ⟨fn,nt,T,.inReg ops i (⟨some dd,.call {callee:= .builtin .len,args:= #[x],argTypes:= #[t]},ty,pos,af,gd⟩ :: l) :: k,dfs,H,nx⟩ Q:=
 bS hw (.inr (fun _ h=>by cases h)) ((sQ hx hu hb).does) (by rw [aK hd];exact h)
theorem oU{K V:Type} [DecidableEq K]{enc:K→Value}{val:V→SV}{m:List (K×V×Nat)}{c:Nat}{t kt e:TypeId}{x:Operand}{b:Nat}{dd:Nat}(hw:aA T ops ⟨some dd,.range t x,ty,pos,af,gd⟩=some true)(hd:Nat.blt dd nt=true)(hx:ar T x=some (.mp b))(hu:P.underlying t=some (.map kt e))(hb:H.at' b=some (iN enc val m c))
 (h:Wp P ro ⟨fn,nt,T.set dd (.ptr nx 0),.inReg ops (i+1) l :: k,dfs,(H.set nx (itV b c ([]:List (K×V×Nat)))),(nx+1)⟩ Q):Wp P ro ⟨fn,nt,T,.inReg ops i (⟨some dd,.range t x,ty,pos,af,gd⟩ :: l) :: k,dfs,H,nx⟩ Q:=
 bS hw (.inr (fun _ h=>by cases h)) (vT hx hu hb) (by rw [aK hd];exact h)
theorem oW{K V:Type} [DecidableEq K]{enc:K→Value}{val:V→SV}{m:List (K×V×Nat)}{c:Nat}{it:Operand}{b r:Nat}{done:List (K×V×Nat)}{x:K×V×Nat}{dd:Nat}(hw:aA T ops ⟨some dd,.entry it,ty,pos,af,gd⟩=some true)(hd:Nat.blt dd nt=true)(hx:ar T it=some (.ptr r 0))(hr:H.at' r=some (itV b c (done ++ [x])))(hb:H.at' b=some (iN enc val m c))(hok:KOk m c)(hm:x∈m)
 (h:Wp P ro ⟨fn,nt,T.set dd (.tup [.sc (enc x.1),val x.2.1]),.inReg ops (i+1) l :: k,dfs,H,nx⟩ Q):Wp P ro ⟨fn,nt,T,.inReg ops i (⟨some dd,.entry it,ty,pos,af,gd⟩ :: l) :: k,dfs,H,nx⟩ Q:=
 bS hw (.inr (fun _ h=>by cases h)) ((vI hx hr hb hok hm).does) (by rw [aK hd];exact h)
theorem dD{t yt:TypeId}{x y:Operand}{s:SV}{v:Value}{d0:TypeDesc}{dd:Nat}(hw:aA T ops ⟨some dd,.binOp .eql t x y yt,ty,pos,af,gd⟩=some true)(hd:Nat.blt dd nt=true)(hx:ar T x=some s)(hy:ar T y=some (.sc v))(hu:P.underlying t=some d0)(hn:j6 s v d0=true)
 (h:Wp P ro ⟨fn,nt,T.set dd (.sc (.bool false)),.inReg ops (i+1) l :: k,dfs,H,nx⟩ Q):Wp P ro ⟨fn,nt,T,.inReg ops i (⟨some dd,.binOp .eql t x y yt,ty,pos,af,gd⟩ :: l) :: k,dfs,H,nx⟩ Q:=
 bS hw (.inr (fun _ h=>by cases h)) ((vH hx hy hu hn).does) (by rw [aK hd];exact h)
theorem ku{t yt:TypeId}{x y:Operand}{s:SV}{v:Value}{d0:TypeDesc}{dd:Nat}(hw:aA T ops ⟨some dd,.binOp .neq t x y yt,ty,pos,af,gd⟩=some true)(hd:Nat.blt dd nt=true)(hx:ar T x=some s)(hy:ar T y=some (.sc v))(hu:P.underlying t=some d0)(hn:j6 s v d0=true)
 (h:Wp P ro ⟨fn,nt,T.set dd (.sc (.bool true)),.inReg ops (i+1) l :: k,dfs,H,nx⟩ Q):Wp P ro ⟨fn,nt,T,.inReg ops i (⟨some dd,.binOp .neq t x y yt,ty,pos,af,gd⟩ :: l) :: k,dfs,H,nx⟩ Q:=
 bS hw (.inr (fun _ h=>by cases h)) ((vD hx hy hu hn).does) (by rw [aK hd];exact h)
theorem fv{t yt:TypeId}{x y:Operand}{v:Value}{d0:TypeDesc}{dd:Nat}(hw:aA T ops ⟨some dd,.binOp .eql t x y yt,ty,pos,af,gd⟩=some true)(hd:Nat.blt dd nt=true)(hx:ar T x=some (.sc v))(hy:ar T y=some (.sc v))(hv:yZ v=true)(hu:P.underlying t=some d0)(hk:y8 v d0=true)
 (h:Wp P ro ⟨fn,nt,T.set dd (.sc (.bool true)),.inReg ops (i+1) l :: k,dfs,H,nx⟩ Q):Wp P ro ⟨fn,nt,T,.inReg ops i (⟨some dd,.binOp .eql t x y yt,ty,pos,af,gd⟩ :: l) :: k,dfs,H,nx⟩ Q:=
 bS hw (.inr (fun _ h=>by cases h)) ((vF hx hy hv hu hk).does) (by rw [aK hd];exact h)
theorem oV{t yt:TypeId}{x y:Operand}{v:Value}{d0:TypeDesc}{dd:Nat}(hw:aA T ops ⟨some dd,.binOp .neq t x y yt,ty,pos,af,gd⟩=some true)(hd:Nat.blt dd nt=true)(hx:ar T x=some (.sc v))(hy:ar T y=some (.sc v))(hv:yZ v=true)(hu:P.underlying t=some d0)(hk:y8 v d0=true)
 (h:Wp P ro ⟨fn,nt,T.set dd (.sc (.bool false)),.inReg ops (i+1) l :: k,dfs,H,nx⟩ Q):Wp P ro ⟨fn,nt,T,.inReg ops i (⟨some dd,.binOp .neq t x y yt,ty,pos,af,gd⟩ :: l) :: k,dfs,H,nx⟩ Q:=
 bS hw (.inr (fun _ h=>by cases h)) ((vB hx hy hv hu hk).does) (by rw [aK hd];exact h)
theorem jB{x:Operand}{j:Nat}{xs:Array Value}{v:Value}{dd:Nat}(hw:aA T ops ⟨some dd,.extract x j,ty,pos,af,gd⟩=some true)(hd:Nat.blt dd nt=true)(hx:ar T x=some (.sc (.tuple xs)))(hj:xs[j]? =some v)
 (h:Wp P ro ⟨fn,nt,T.set dd (.sc v),.inReg ops (i+1) l :: k,dfs,H,nx⟩ Q):Wp P ro ⟨fn,nt,T,.inReg ops i (⟨some dd,.extract x j,ty,pos,af,gd⟩ :: l) :: k,dfs,H,nx⟩ Q:=
 bS hw (.inr (fun _ h=>by cases h)) ((pe hx hj).does) (by rw [aK hd];exact h)
theorem cI{t bt:TypeId}{a x:Operand}{b o n:Nat}{cs vs:List SV}{v:SV}(hw:aA T ops ⟨none,.store t a x,ty,pos,af,gd⟩=some true)(ha:ar T a=some (.ptr b o))(hx:ar T x=some v)(hv:v.cells=vs)(hs:bC P t=some n)(hb:H.at' b=some (aG bt cs))(hn:vs.length=n)(ho:o+n≤cs.length)(h1:bU vs=true)
 (h:Wp P ro ⟨fn,nt,T,.inReg ops (i+1) l :: k,dfs,(H.set b (aG bt (cs.take o ++ vs ++ cs.drop (o+n)))),nx⟩ Q):Wp P ro ⟨fn,nt,T,.inReg ops i (⟨none,.store t a x,ty,pos,af,gd⟩ :: l) :: k,dfs,H,nx⟩ Q:=
 mX hw (.inr (fun _ h=>by cases h)) (jf hs ha hx hv hb hn ho h1) h
theorem w_ldF{A:Type} [Inhabited A]{f:A→List Value}{t rt:TypeId}{x:Operand}{b o ne sz:Nat}{rr:Bool}{d:Array A}{v:Value}(q j:Nat){dd:Nat}(hw:aA T ops ⟨some dd,.load t x,ty,pos,af,gd⟩=some true)(hd:Nat.blt dd nt=true)(hx:ar T x=some (.ptr b o))(ha:b7 P t=some none)(hf:RecOf f sz)(hb:H.at' b=some (arr rr ne sz rt f d))(ho:o=q*sz+j)(hi:q<d.size)(hne:d.size≤ne)(hv:(f d[q]!)[j]? =some v)
 (h:Wp P ro ⟨fn,nt,T.set dd (.sc v),.inReg ops (i+1) l :: k,dfs,H,nx⟩ Q):Wp P ro ⟨fn,nt,T,.inReg ops i (⟨some dd,.load t x,ty,pos,af,gd⟩ :: l) :: k,dfs,H,nx⟩ Q:=
 bS hw (.inr (fun _ h=>by cases h)) ((wQ (q:=q) (j:=j) ha hx ho hf hb hi hne hv).does) (by rw [aK hd];exact h)
theorem gu{A:Type}{f:A→List Value}{xs:List A}{a:A}{t tx el:TypeId}{sz b r q:Nat}{s x:Operand}{rq:Bool}{tq:TypeId}{cs:List SV}{dd:Nat}(hw:aA T ops ⟨some dd,.call {callee:= .builtin .append,args:= #[s,x],argTypes:= #[t,tx]},ty,pos,af,gd⟩=some true)(hd:Nat.blt dd nt=true)(hx0:ar T s=some (.slu r 0 xs.length))(hx:ar T x=some (.slu q 0 1))(hu:P.underlying t=some (.slice el))(hk:(∃ e',P.underlying tx=some (.slice e'))∨P.underlying tx=some .string)(hs:bC P el=some sz)(h0:Nat.blt 0 sz=true)(hz:ey P el sz=true)(hb:(P.info? el).map (·.bytes)=some b)(hro:H.at' r=some (dat false xs.length sz el (xs.flatMap f)))(hq:H.at' q=some (.row rq 1 sz tq (eI cs)))(hcs:cs=(f a).map .sc)(hf:RecOf f sz)(hm1:(xs.length+1)*b≤140737488355328)(hm2:xs.length+1≤1000000000)
 (h:Wp P ro ⟨fn,nt,T.set dd (.slu nx 0 (xs ++ [a]).length),.inReg ops (i+1) l :: k,dfs,((H.del r).set nx (dat false (xs ++ [a]).length sz el ((xs ++ [a]).flatMap f))),(nx+1)⟩ Q):Wp P ro ⟨fn,nt,T,.inReg ops i (⟨some dd,.call {callee:= .builtin .append,args:= #[s,x],argTypes:= #[t,tx]},ty,pos,af,gd⟩ :: l) :: k,dfs,H,nx⟩ Q:=
 bS hw (.inr (fun _ h=>by cases h)) (xK hx0 hx hu hk hs h0 hz hb hro hq hcs hf hm1 hm2) (by rw [aK hd];exact h)
end
section
variable {P:Program} {nt nx:Nat} {T:Tr SV} {H:aV} {ops:Array Oper} {i:Nat} {l:List Oper} {ty:TypeId} {pos:String} {af:Array Edge} {gd:Option (Nat×Bool)} {K:DS→Prop} {rs:List Rec} {Hs:List (aV×Nat)} {stg:Nat}
theorem mJ{K0 V:Type} [DecidableEq K0]{enc:K0→Value}{val:V→SV}{m:List (K0×V×Nat)}{c:Nat}{t kt e:TypeId}{x y:Operand}{b:Nat}{kk:K0}{v:V}{dd:Nat}(hw:aA (aS T (aO ops.toList ⟨some dd,.lookup t x y false,ty,pos,af,gd⟩)) ops ⟨some dd,.lookup t x y false,ty,pos,af,gd⟩=some true)(hd:Nat.blt dd nt=true)(hx:ar (aS T (aO ops.toList ⟨some dd,.lookup t x y false,ty,pos,af,gd⟩)) x=some (.mp b))(hy:ar (aS T (aO ops.toList ⟨some dd,.lookup t x y false,ty,pos,af,gd⟩)) y=some (.sc (enc kk)))(hu:P.underlying t=some (.map kt e))(hE:KEnc P kt enc)(hb:H.at' b=some (iN enc val m c))(hg:cO m kk=some v)
 (h:DrawK P nt ops (i+1) l ⟨T.set dd (val v),H,nx,⟨i,⟨some dd,.lookup t x y false,ty,pos,af,gd⟩,(aS T (aO ops.toList ⟨some dd,.lookup t x y false,ty,pos,af,gd⟩)),stg,false,true,(val v)⟩ :: rs,Hs,stg⟩ K):DrawK P nt ops i (⟨some dd,.lookup t x y false,ty,pos,af,gd⟩ :: l) ⟨T,H,nx,rs,Hs,stg⟩ K:=
 bv hw hd (fun _ h=>by cases h) (sP (ok:=false) hx hy hu hE hb hg) h
theorem qG{K0 V:Type} [DecidableEq K0]{enc:K0→Value}{val:V→SV}{m:List (K0×V×Nat)}{c:Nat}{t kt e:TypeId}{x y:Operand}{b:Nat}{kk:K0}{w:Operand}{v:V}(hw:aA (aS T (aO ops.toList ⟨none,.mapUpdate t x y w,ty,pos,af,gd⟩)) ops ⟨none,.mapUpdate t x y w,ty,pos,af,gd⟩=some true)(hx:ar (aS T (aO ops.toList ⟨none,.mapUpdate t x y w,ty,pos,af,gd⟩)) x=some (.mp b))(hy:ar (aS T (aO ops.toList ⟨none,.mapUpdate t x y w,ty,pos,af,gd⟩)) y=some (.sc (enc kk)))(hu:P.underlying t=some (.map kt e))(hE:KEnc P kt enc)(hb:H.at' b=some (iN enc val m c))(hw2:ar (aS T (aO ops.toList ⟨none,.mapUpdate t x y w,ty,pos,af,gd⟩)) w=some (val v))
 (h:DrawK P nt ops (i+1) l ⟨T,(H.set b (iN enc val (dm m kk v c) (iz m kk c))),nx,⟨i,⟨none,.mapUpdate t x y w,ty,pos,af,gd⟩,(aS T (aO ops.toList ⟨none,.mapUpdate t x y w,ty,pos,af,gd⟩)),stg,true,true,cX⟩ :: rs,((H.set b (iN enc val (dm m kk v c) (iz m kk c))),nx) :: Hs,stg+1⟩ K):DrawK P nt ops i (⟨none,.mapUpdate t x y w,ty,pos,af,gd⟩ :: l) ⟨T,H,nx,rs,Hs,stg⟩ K:=
 iY hw (fun _ h=>by cases h) (qe hx hy hu hE hb hw2) h
theorem en{t bt:TypeId}{a x:Operand}{b o n:Nat}{cs vs:List SV}{v:SV}(hw:aA (aS T (aO ops.toList ⟨none,.store t a x,ty,pos,af,gd⟩)) ops ⟨none,.store t a x,ty,pos,af,gd⟩=some true)(ha:ar (aS T (aO ops.toList ⟨none,.store t a x,ty,pos,af,gd⟩)) a=some (.ptr b o))(hx:ar (aS T (aO ops.toList ⟨none,.store t a x,ty,pos,af,gd⟩)) x=some v)(hv:v.cells=vs)(hs:bC P t=some n)(hb:H.at' b=some (aG bt cs))(hn:vs.length=n)(ho:o+n≤cs.length)(h1:bU vs=true)
 (h:DrawK P nt ops (i+1) l ⟨T,(H.set b (aG bt (cs.take o ++ vs ++ cs.drop (o+n)))),nx,⟨i,⟨none,.store t a x,ty,pos,af,gd⟩,(aS T (aO ops.toList ⟨none,.store t a x,ty,pos,af,gd⟩)),stg,true,true,cX⟩ :: rs,((H.set b (aG bt (cs.take o ++ vs ++ cs.drop (o+n)))),nx) :: Hs,stg+1⟩ K):DrawK P nt ops i (⟨none,.store t a x,ty,pos,af,gd⟩ :: l) ⟨T,H,nx,rs,Hs,stg⟩ K:=
 iY hw (fun _ h=>by cases h) (jf hs ha hx hv hb hn ho h1) h
theorem qH{A:Type} [Inhabited A]{f:A→List Value}{t rt:TypeId}{x:Operand}{b o ne sz:Nat}{rr:Bool}{d:Array A}{v:Value}(q j:Nat){dd:Nat}(hw:aA (aS T (aO ops.toList ⟨some dd,.load t x,ty,pos,af,gd⟩)) ops ⟨some dd,.load t x,ty,pos,af,gd⟩=some true)(hd:Nat.blt dd nt=true)(hx:ar (aS T (aO ops.toList ⟨some dd,.load t x,ty,pos,af,gd⟩)) x=some (.ptr b o))(ha:b7 P t=some none)(hf:RecOf f sz)(hb:H.at' b=some (arr rr ne sz rt f d))(ho:o=q*sz+j)(hi:q<d.size)(hne:d.size≤ne)(hv:(f d[q]!)[j]? =some v)
 (h:DrawK P nt ops (i+1) l ⟨T.set dd (.sc v),H,nx,⟨i,⟨some dd,.load t x,ty,pos,af,gd⟩,(aS T (aO ops.toList ⟨some dd,.load t x,ty,pos,af,gd⟩)),stg,false,true,(.sc v)⟩ :: rs,Hs,stg⟩ K):DrawK P nt ops i (⟨some dd,.load t x,ty,pos,af,gd⟩ :: l) ⟨T,H,nx,rs,Hs,stg⟩ K:=
 bv hw hd (fun _ h=>by cases h) (wQ (q:=q) (j:=j) ha hx ho hf hb hi hne hv) h
end
section
variable {P:Program} {ro:Option Nat} {fn nt nx:Nat} {T:Tr SV} {k:List AIt} {dfs:List ADf} {H:aV} {Q:Pst} {ops:Array Oper} {i:Nat} {l:List Oper} {d:Option Tmp} {ty:TypeId} {pos:String} {af:Array Edge} {gd:Option (Nat×Bool)}
theorem yr{it:Operand}{b:Bool}{outs:List Out}(hw:aA T ops ⟨d,.next it b,ty,pos,af,gd⟩=some true)(ho:qk T H nx ⟨d,.next it b,ty,pos,af,gd⟩=some outs)
 (h: ∀ out∈outs,yU P (wpr P) ro ⟨fn,nt,T,.inReg ops i (⟨d,.next it b,ty,pos,af,gd⟩ :: l) :: k,dfs,H,nx⟩ d (.inReg ops (i+1) l :: k) out Q) :
 Wp P ro ⟨fn,nt,T,.inReg ops i (⟨d,.next it b,ty,pos,af,gd⟩ :: l) :: k,dfs,H,nx⟩ Q:=
 .step (.inr ⟨hw,.inr (fun c h=>by cases h),fun K w0 e w ev hS hE=>let ⟨out,hm,hd⟩:=tD hS hE ho;⟨out,h out hm,hd⟩⟩)
theorem sn{K V:Type} [DecidableEq K]{enc:K→Value}{val:V→SV}{m:List (K×V×Nat)}{c:Nat}{it:Operand}{b r:Nat}{done:List (K×V×Nat)}{dd:Nat}
 (hw:aA T ops ⟨some dd,.next it false,ty,pos,af,gd⟩=some true) (hd:Nat.blt dd nt=true) (hx:ar T it=some (.ptr r 0)) (hr:H.at' r=some (itV b c done)) (hb:H.at' b=some (iN enc val m c)) (hok:KOk m c) (hdn:done.Nodup∧ ∀ x∈done,x∈m)
 (h1:done.Perm m→Wp P ro ⟨fn,nt,T.set dd (.sc (.tuple #[.bool false])),.inReg ops (i+1) l :: k,dfs,H,nx⟩ Q)
 (h2: ∀ x∈m,x∉done→(done ++ [x]).Nodup∧(∀ y∈done ++ [x],y∈m)→Wp P ro ⟨fn,nt,T.set dd (.tup [.sc (.bool true),.sc (enc x.1),val x.2.1]),.inReg ops (i+1) l :: k,dfs,H.set r (itV b c (done ++ [x])),nx⟩ Q) :
 Wp P ro ⟨fn,nt,T,.inReg ops i (⟨some dd,.next it false,ty,pos,af,gd⟩ :: l) :: k,dfs,H,nx⟩ Q:=by
 have hseen: ∀ x∈m,((done.map (·.2.2)).contains x.2.2=true↔x∈done):=by
  intro x hx
  rw [List.contains_iff_mem]
  constructor
  ·intro h
   obtain⟨y,hy,he⟩:=List.mem_map.1 h
   rw [hok.eq hx (hdn.2 y hy) he.symm]
   exact hy
  ·intro h
   exact List.mem_map.2 ⟨x,h,rfl⟩
 refine yr hw (outs:=?_) ?_ ?_
 rotate_left
 ·simp only [qk,hx,hr,hb]
  have hg:(!(done.map (·.2.2)).isEmpty && !(oS enc val m).isEmpty && (oS enc val m).all (fun x=>Nat.ble c x.2.2))=false:=by
   cases m with
   | nil=>simp
   | cons x m=>
     have:=hok.lt x (by simp)
     have hb:Nat.ble c x.2.2=false:=by
      cases hh:Nat.ble c x.2.2 with
      | false=>rfl
      | true=>have:=zB hh;omega
     simp [hb]
  rw [hg]
  rfl
 ·intro out hm
  simp only [yU] at *
  rcases List.mem_append.1 hm with hm|hm
  ·cases he:(((oS enc val m).filter fun x=> !((done.map (·.2.2)).contains x.2.2)).filter fun x=>Nat.blt x.2.2 c).isEmpty with
   | false=>rw [he] at hm;cases hm
   | true=>
     rw [he] at hm
     simp only [cond_true,List.mem_singleton] at hm
     subst hm
     simp only [aK hd]
     refine h1 ?_
     refine(List.perm_ext_iff_of_nodup hdn.1 hok.nodup).2 fun x=>⟨hdn.2 x,fun hx=>?_⟩
     rw [← hseen x hx]
     cases hc:(done.map (·.2.2)).contains x.2.2 with
     | true=>rfl
     | false=>
       exfalso
       have hin:(enc x.1,val x.2.1,x.2.2)∈((oS enc val m).filter fun x=> !((done.map (·.2.2)).contains x.2.2)).filter fun x=>Nat.blt x.2.2 c:=by
        refine List.mem_filter.2 ⟨List.mem_filter.2 ⟨List.mem_map.2 ⟨x,hx,rfl⟩,by simp only [hc];rfl⟩,?_⟩
        exact zD (hok.lt x hx)
       have:=List.isEmpty_iff.1 he
       rw [this] at hin
       cases hin
  ·obtain⟨y,hy,rfl⟩:=List.mem_map.1 hm
   have hy':y∈(oS enc val m).filter fun x=> !((done.map (·.2.2)).contains x.2.2):=by
    rcases List.mem_append.1 hy with hy|hy
    ·exact(List.mem_filter.1 hy).1
    ·exact(List.mem_filter.1 hy).1
   obtain⟨hy1,hy2⟩:=List.mem_filter.1 hy'
   obtain⟨x,hx,rfl⟩:=List.mem_map.1 hy1
   simp only [aK hd]
   have hnd:x∉done:=by
    intro h
    rw [(hseen x hx).2 h] at hy2
    cases hy2
   have:=h2 x hx hnd ⟨by rw [List.nodup_append];exact⟨hdn.1,by simp,fun a ha b hb=>by simp at hb;subst hb;intro e;subst e;exact hnd ha⟩,fun y hy=>by
    rcases List.mem_append.1 hy with hy|hy
    ·exact hdn.2 y hy
    ·simp at hy;subst hy;exact hx⟩
   have e:itV b c (done ++ [x]) = .iter (some b) c (done.map (·.2.2) ++ [x.2.2]) c:=by unfold itV;rw [zU];rfl
   rw [e] at this
   exact this
theorem St.loopLess{K:Zone}{w0 w:World}{e:Env}{n:Nat}{st:LoopState}{pend:Option Code}{f2 nt2:Nat}{T2 T3:Tr SV}{ps:Array Tmp}{as1 bd:Code}{dr:Nat}(hl:T3.le T2)
 (hS:St K w0 e (H.set n (.loop st pend f2 nt2 T2 ps as1 bd dr)) nx w):St K w0 e (H.set n (.loop st pend f2 nt2 T3 ps as1 bd dr)) nx w:=by
 have key: ∀ id vo,(H.set n (.loop st pend f2 nt2 T3 ps as1 bd dr)).at' id=some vo→ ∃ vo',(H.set n (.loop st pend f2 nt2 T2 ps as1 bd dr)).at' id=some vo'∧vo'.ro=vo.ro∧ ∀ x,Lies K w e vo' x→Lies K w e vo x:=by
  intro id vo hv
  rcases Tr.bM hv with ⟨rfl,rfl⟩|⟨hne,hv⟩
  ·refine⟨_,Tr.ae _ _ _,rfl,fun x hx=>?_⟩
   rcases hx with ⟨h0,o,h1,h2,tmps,y,h3,h4,h5⟩|⟨_,_,_,_,_,h,_⟩
   ·exact .inl ⟨h0,o,h1,h2,tmps,y,h3,h4.less hl,h5⟩
   ·cases h
  ·exact⟨vo,by rw [Tr.aa _ _ hne];exact hv,rfl,fun x hx=>hx⟩
 refine⟨hS.below,fun id vo hv=>?_,fun id id' vo vo' x x' h1 h2 h3 h4 h5 h6 h7 h8 h9=>?_,hS.fresh⟩
 ·obtain⟨vo',g1,_,g3⟩:=key id vo hv
  obtain⟨x,hx,hl⟩:=hS.rel id vo' g1
  exact⟨x,hx,g3 x hl⟩
 ·obtain⟨u,g1,g2,_⟩:=key id vo h1
  obtain⟨u',g1',g2',_⟩:=key id' vo' h2
  exact hS.inj _ _ _ _ _ _ g1 g1' h3 h4 h5 h6 h7 (by rw [g2];exact h8) (by rw [g2'];exact h9)
theorem Fnc.weak{f:FuncId}{args:List SV}{H H':aV}{nx:Nat}{Q:Pst}(hs: ∀ K w0 e w,St K w0 e H nx w→St K w0 e H' nx w)(h:Fnc P f args H' nx Q):Fnc P f args H nx Q:=by
 unfold Fnc iB at h ⊢
 rcases h with ⟨h0,v,r,h1,h2,h3⟩|h
 ·exact .inl ⟨h0,v,r,h1,h2,fun K w0 e w hS=>h3 K w0 e w (hs _ _ _ _ hS)⟩
 ·refine .inr ?_
  split at h
  ·rename_i c hb
   exact⟨fun K w0 e w tmps todo ds kd rof cs a b c d f=>h.run K w0 e w tmps todo ds kd rof cs (hs _ _ _ _ a) b c d f⟩
  ·exact h.elim
theorem kp{fo:Operand}{ps:Array Tmp}{as1 bd:Code}{g:FuncId}{a b:List SV}{sf:SV}(sl:List (Nat×SV))(hf:ar T fo=some sf)(ht:dG sf=some (g,a,b))(hg:cw P g=true)(hsl: ∀ n x,(slT sl).at' n=some x→T.at' n=some x)
 (h: ∀ as' bd',as'=as1→bd'=bd→Fnc P g (a ++ [.yld (nx+1)] ++ b) ((H.set nx (.dfd (some []))).set (nx+1) (.loop .ready none fn nt (slT sl) ps as' bd' nx)) (nx+1+1) (fun r=>Wp P none ⟨fn,nt,T,.endRange (nx+1) :: k,.taken nx :: dfs,r.2.1,r.2.2⟩ Q)) :
 Wp P none ⟨fn,nt,T,.code (.rangeFunc fo ps as1 bd) :: k,dfs,H,nx⟩ Q:=
 .step ⟨nx,H.set nx (.dfd (some [])),nx+1,[.taken nx],sf,g,a,b,rfl,hf,ht,hg,Fnc.weak (fun K w0 e w hS=>hS.loopLess hsl) (h _ _ rfl rfl)⟩
theorem pR{a b:Code}(h:a=b)(hw:Wp P ro ⟨fn,nt,T,.code b :: k,dfs,H,nx⟩ Q):Wp P ro ⟨fn,nt,T,.code a :: k,dfs,H,nx⟩ Q:=h ▸ hw
theorem jz{n:Nat}{st:LoopState}{pend:Option Code}{f2 nt2:Nat}{T2:Tr SV}{ps:Array Tmp}{as1 bd:Code}{dr:Nat}(hl:H.at' n=some (.loop st pend f2 nt2 T2 ps as1 bd dr))(hs:st ≠ .busy)
 (h:Wp P ro ⟨fn,nt,T,ma pend k,dfs,H.set n (.loop .exhausted pend f2 nt2 T2 ps as1 bd dr),nx⟩ Q):Wp P ro ⟨fn,nt,T,.endRange n :: k,dfs,H,nx⟩ Q:=by
 refine .step ?_
 simp only [nj,hl]
 exact⟨hs,h⟩
theorem sd{n:Nat}{pend:Option Code}{f2 nt2:Nat}{T2:Tr SV}{ps:Array Tmp}{as1 bd:Code}{dr:Nat}(hl:H.at' n=some (.loop .ready pend f2 nt2 T2 ps as1 bd dr))
 (h:Wp P (some n) ⟨fn,nt,T,k,dfs,H.set n (.loop .busy pend f2 nt2 T2 ps as1 bd dr),nx⟩ Q):Wp P (some n) ⟨fn,nt,T,.beginRound :: k,dfs,H,nx⟩ Q:=by
 refine .step ?_
 simp only [nj,hl]
 exact⟨trivial,h⟩
theorem lE{n:Nat}{st:LoopState}{pend:Option Code}{f2 nt2:Nat}{T2:Tr SV}{ps:Array Tmp}{as1 bd:Code}{dr:Nat}(hl:H.at' n=some (.loop st pend f2 nt2 T2 ps as1 bd dr))
 (h:Q (.sc (.bool true),H.set n (.loop .ready none f2 nt2 T2 ps as1 bd dr),nx)):Wp P (some n) ⟨fn,nt,T,[],dfs,H,nx⟩ Q:=by
 refine .step ?_
 simp only [nj,j5,qv,hl]
 exact h
theorem qX{n:Nat}{st:LoopState}{pend:Option Code}{f2 nt2:Nat}{T2:Tr SV}{ps:Array Tmp}{as1 bd:Code}{dr:Nat}(hl:H.at' n=some (.loop st pend f2 nt2 T2 ps as1 bd dr))
 (h:Q (.sc (.bool false),H.set n (.loop .done (some .ret) f2 nt2 T2 ps as1 bd dr),nx)):Wp P (some n) ⟨fn,nt,T,.code .ret :: k,dfs,H,nx⟩ Q:=by
 refine .step ?_
 simp only [nj,rN,j5,qv,hl]
 exact h
theorem sj{x:Operand}{as1:List Operand}{ats:Array TypeId}{args:List SV}{n dd:Nat}{st:LoopState}{pend:Option Code}{f2 nt2:Nat}{T2:Tr SV}{ps:Array Tmp}{as2 bd:Code}{dr:Nat}
 (hw:aA T ops ⟨some dd,.call {callee:= .value x,args:=as1.toArray,argTypes:=ats},ty,pos,af,gd⟩=some true) (hd:Nat.blt dd nt=true) (hx:ar T x=some (.yld n)) (ha:dy T as1=some args) (hl:H.at' n=some (.loop st pend f2 nt2 T2 ps as2 bd dr)) (hp:Nat.beq ps.size args.length=true)
 (h:Wp P (some n) ⟨f2,nt2,(ps.toList.zip args).foldl (fun T x=>gJ nt2 T (some x.1) x.2) T2,[.code as2,.beginRound,.code bd],[],H,nx⟩ (fun r=>Wp P ro ⟨fn,nt,T.set dd r.1,.inReg ops (i+1) l :: k,dfs,r.2.1,r.2.2⟩ Q)) :
 Wp P ro ⟨fn,nt,T,.inReg ops i (⟨some dd,.call {callee:= .value x,args:=as1.toArray,argTypes:=ats},ty,pos,af,gd⟩ :: l) :: k,dfs,H,nx⟩ Q:=by
 refine .step (.inr ⟨hw,.inr (fun c hc=>by cases hc),OpDoes.any (out:=(.round n args,H,nx)) ?_ ?_⟩)
 ·intro K w0 e w ev hS hE
  refine mI hS hE ?_
  unfold fe
  simp only [cG,ha,hx,zV]
 ·simp only [yU,lH,hl,aK hd]
  exact⟨hp,h⟩
def SameO(ρ:Nat→Nat):List (Option VO)→List (Option VO)→Prop
 | [],[]=>True
 | none :: l,none :: m=>SameO ρ l m
 | some vo :: l,some vo' :: m=>vo.ren ρ=vo'∧SameO ρ l m
 | _,_=>False
theorem SameO.map{ρ:Nat→Nat}: ∀ {l m:List (Option VO)},SameO ρ l m→l.map (Option.map (VO.ren ρ))=m
 | [],[],_=>rfl
 | none :: l,none :: m,h=>by simp only [zR,Option.map_none,SameO.map (l:=l) (m:=m) h]
 | some vo :: l,some vo' :: m,h=>by simp only [zR,zV,h.1,SameO.map h.2]
 | [],_ :: _,h=>by simp [SameO] at h
 | none :: _,some _ :: _,h=>by simp [SameO] at h
 | some _ :: _,none :: _,h=>by simp [SameO] at h
 | none :: _,[],h=>by simp [SameO] at h
 | some _ :: _,[],h=>by simp [SameO] at h
theorem l7{ρ:Nat→Nat}: ∀ (L:List Nat) (l:List (Option VO)) (i:Nat) (H:aV),(∀ j,j<L.length→ρ (i+j)=L.getD j 0)→l.length=L.length→wrO ρ H i l=wrL L H l
 | [],[],i,H,_,_=>rfl
 | [],_ :: _,i,H,_,h=>by simp at h
 | _ :: _,[],i,H,_,h=>by simp at h
 | b :: L,o :: l,i,H,he,hl=>by
   have e0:ρ i=b:=by simpa using he 0 (by simp)
   have et: ∀ j,j<L.length→ρ (i+1+j)=L.getD j 0:=fun j hj=>by
    have:=he (j+1) (by simpa using hj)
    rw [show i+1+j=i+(j+1) by omega,this]
    simp
   cases o with
   | none=>simp only [wrO,wrL,e0];exact l7 L l (i+1) _ et (by simpa using hl)
   | some vo=>simp only [wrO,wrL,e0];exact l7 L l (i+1) _ et (by simpa using hl)
theorem Ctr.zv{f:FuncId}{args0 args:List SV}{pre:List VO}{Q0:Cz→Prop}(h:Ctr P f args0 pre Q0)(L:List Nat){Q:Pst}(hlen:L.length=pre.length)(hL:ExtOk L nx)(ha:args=args0.map (SV.ren (ext L nx)))(hp:HasO (ext L nx) H 0 (pre.map some))
 (hQ: ∀ c,Q0 c→ ∃ v m L2 objs,L2=L ++ (List.range m).map (fun i=>nx+i)∧SameO (ext L nx) c.objs objs∧objs.length=L2.length∧c.v.ren (ext L nx)=v∧Q (v,wrL L2 H objs,nx+m)):Fnc P f args H nx Q:=by
 refine h.call L hlen hL ha hp fun c hc hpl=>?_
 obtain⟨v,m,L2,objs,e1,e2,e3,e4,hq⟩:=hQ c hc
 have hlo:c.objs.length=objs.length:=by rw [← e2.map,List.length_map]
 have hl2:L2.length=L.length+m:=by rw [e1];simp
 rw [e2.map,e4,l7 (ρ:=ext L nx) L2 objs 0 H (fun j hj=>?_) e3,show nx+(c.objs.length-pre.length)=nx+m by omega]
 ·exact hq
 ·rw [Nat.zero_add]
  by_cases hjl:j<L.length
  ·rw [qC hjl,e1]
   simp only [zK]
   rw [zM hjl]
  ·rw [qD (by omega),e1]
   simp only [zK]
   rw [List.getElem?_append_right (by omega),List.getElem?_map,List.getElem?_range (by omega)]
   rfl
theorem Ctr.at{f:FuncId}{args:List SV}{pre:List VO}{Q:Cz→Prop}(n:Nat)(hn:pre.length=n)(h:Fnc P f args (uk pre) n (fun r=> ∃ c,Q c∧Ends n c r)):Ctr P f args pre Q:=by
 subst hn
 exact h
theorem ch{α:Type}{b:Code}(sl:α→List (Nat×SV))(I:α→aV→Nat→Prop)(μ:α→Nat)(a0:α)(h0:I a0 H nx)(hs: ∀ n x,(slT (sl a0)).at' n=some x→T.at' n=some x)
 (body: ∀ a H nx,I a H nx→(∀ T' H' nx' a',I a' H' nx'→μ a'<μ a→(∀ n x,(slT (sl a')).at' n=some x→T'.at' n=some x)→Wp P ro ⟨fn,nt,T',.inLoop b :: k,dfs,H',nx'⟩ Q) →
   Wp P ro ⟨fn,nt,slT (sl a),.code b :: .inLoop b :: k,dfs,H,nx⟩ Q):Wp P ro ⟨fn,nt,T,.code (.loop b) :: k,dfs,H,nx⟩ Q:=by
 have main: ∀ m a H nx,μ a=m→I a H nx→Wp P ro ⟨fn,nt,slT (sl a),.code b :: .inLoop b :: k,dfs,H,nx⟩ Q:=by
  intro m
  induction m using Nat.strongRecOn with
  | _ m ih=>
    intro a H nx hm ha
    refine body a H nx ha fun T' H' nx' a' ha' hlt hs'=>se ?_
    exact Wp.less (ih (μ a') (by omega) a' H' nx' rfl ha') hs' (Tr.le_refl _)
 exact pP (Wp.less (main _ a0 H nx rfl h0) hs (Tr.le_refl _))
def SlIn(T:Tr SV):List (Nat×SV)→Prop
 | []=>True
 | (t,s) :: l=>T.at' t=some s∧SlIn T l
theorem SlIn.sub{T:Tr SV}: ∀ {l:List (Nat×SV)},SlIn T l→ ∀ n x,(slT l).at' n=some x→T.at' n=some x
 | [],_,n,x,h=>by rw [slT,Tr.lg] at h;cases h
 | (t0,s0) :: l,hh,n,x,h=>by
   rcases Tr.bM h with ⟨rfl,rfl⟩|⟨_,h⟩
   ·exact hh.1
   ·exact SlIn.sub hh.2 n x h
theorem tO{rs:List Nat}(hr: ∀ r∈rs,H.at' r=some (.dfd (some [])))(hnd:rs.Nodup)(h: ∀ H',(∀ n,n∉rs→H'.at' n=H.at' n)→Lv P ⟨fn,nt,T,k,dfs,H',nx⟩ Q):Lv P ⟨fn,nt,T,k,rs.map .taken ++ dfs,H,nx⟩ Q:=by
 induction rs generalizing H with
 | nil=>exact h H fun _ _=>rfl
 | cons r rs ih=>
   refine vY (hr r (by simp)) ?_
   rw [List.nil_append]
   rw [List.nodup_cons] at hnd
   refine ih (fun r' hr'=>?_) hnd.2 fun H' hH'=>h H' fun n hn=>?_
   ·rw [Tr.aa _ _ (by intro e;subst e;exact hnd.1 hr')]
    exact hr r' (List.mem_cons_of_mem _ hr')
   ·rw [List.mem_cons,not_or] at hn
    rw [hH' n hn.2,Tr.aa _ _ hn.1]
theorem r9{rl:List ResultVar}{F:Func}(hf:P.funcs[fn]? =some F)(hl:F.results.toList=rl){rs:List Nat}(hdf:dfs=rs.map .taken)(hr: ∀ r∈rs,H.at' r=some (.dfd (some [])))(hnd:rs.Nodup)
 (h: ∀ H',(∀ n,n∉rs→H'.at' n=H.at' n)→ ∃ vs,ResIs P H' T rl vs∧Q (gg vs,H',nx)):Wp P none ⟨fn,nt,T,.code .ret :: k,dfs,H,nx⟩ Q:=by
 subst hdf
 refine yq ?_
 have:=tO (P:=P) (fn:=fn) (nt:=nt) (nx:=nx) (T:=T) (k:= .code .ret :: k) (dfs:= []) (Q:=Q) hr hnd fun H' hH'=>by
  obtain⟨vs,h1,h2⟩:=h H' hH'
  exact za (by simp only [eV,hf,hl]) h1.res h2
 simpa using this
end
abbrev Own:=aV→(Nat→Prop)→Prop
def qT(A:Own):Prop:= ∀ H H' F,A H F→(∀ n,F n→H'.at' n=H.at' n)→A H' F
section
variable {K X:Type} (P:K→X→Own)
def Big:List (K×X)→Own
 | [],_,F=> ∀ n,¬ F n
 | x :: m,H,F=> ∃ F1 F2,P x.1 x.2 H F1∧Big m H F2∧(∀ n,F1 n→ ¬ F2 n)∧ ∀ n,F n↔F1 n∨F2 n
variable {P}
theorem Big.frame(hP: ∀ k x,qT (P k x)): ∀ m,qT (Big P m)
 | [],H,H',F,h,_=>h
 | x :: m,H,H',F,⟨F1,F2,h1,h2,h3,h4⟩,hf=>⟨F1,F2,hP _ _ H H' F1 h1 fun n hn=>hf n ((h4 n).2 (.inl hn)),Big.frame hP m H H' F2 h2 fun n hn=>hf n ((h4 n).2 (.inr hn)),h3,h4⟩
theorem Big.same{m:List (K×X)}{H:aV}{F F':Nat→Prop}(h:Big P m H F)(hF: ∀ n,F' n↔F n):Big P m H F':=by
 have:F'=F:=funext fun n=>propext (hF n)
 rw [this];exact h
theorem Big.focus{k:K}{x:X}{B:List (K×X)}{H:aV}: ∀ {A:List (K×X)} {F:Nat→Prop},Big P (A ++ (k,x) :: B) H F→ ∃ F1 F2,P k x H F1∧Big P (A ++ B) H F2∧(∀ n,F1 n→ ¬ F2 n)∧ ∀ n,F n↔F1 n∨F2 n
 | [],F,h=>h
 | y :: A,F,⟨G1,G2,h1,h2,h3,h4⟩=>by
   obtain⟨F1,F2,g1,g2,g3,g4⟩:=Big.focus (A:=A) h2
   refine⟨F1,fun n=>G1 n∨F2 n,g1,⟨G1,F2,h1,g2,fun n hn h=>h3 n hn ((g4 n).2 (.inr h)),fun n=>Iff.rfl⟩,fun n hn h=>?_,fun n=>?_⟩
   ·rcases h with h|h
    ·exact h3 n h ((g4 n).2 (.inl hn))
    ·exact g3 n hn h
   ·rw [h4,g4]
    constructor
    ·rintro(h|h|h)
     ·exact .inr (.inl h)
     ·exact .inl h
     ·exact .inr (.inr h)
    ·rintro(h|h|h)
     ·exact .inr (.inl h)
     ·exact .inl h
     ·exact .inr (.inr h)
theorem Big.jx{k:K}{x:X}{B:List (K×X)}{H:aV}{F1:Nat→Prop}(h:P k x H F1): ∀ {A:List (K×X)} {F2:Nat→Prop},Big P (A ++ B) H F2→(∀ n,F1 n→ ¬ F2 n)→Big P (A ++ (k,x) :: B) H (fun n=>F1 n∨F2 n)
 | [],F2,h2,h3=>⟨F1,F2,h,h2,h3,fun n=>Iff.rfl⟩
 | y :: A,F2,⟨G1,G2,g1,g2,g3,g4⟩,h3=>by
   refine⟨G1,fun n=>F1 n∨G2 n,g1,Big.jx (A:=A) h g2 (fun n hn h'=>h3 n hn ((g4 n).2 (.inr h'))),fun n hn h'=>?_,fun n=>?_⟩
   ·rcases h' with h'|h'
    ·exact h3 n h' ((g4 n).2 (.inl hn))
    ·exact g3 n hn h'
   ·show F1 n∨F2 n↔_
    rw [g4]
    constructor
    ·rintro(h|h|h)
     ·exact .inr (.inl h)
     ·exact .inl h
     ·exact .inr (.inr h)
    ·rintro(h|h|h)
     ·exact .inr (.inl h)
     ·exact .inl h
     ·exact .inr (.inr h)
theorem Big.nil{H:aV}:Big P [] H (fun _=>False):=fun _ h=>h
end
section
variable {K V:Type} [DecidableEq K]
abbrev kv(m:List (K×V×Nat)):List (K×V):=m.map fun x=>(x.1,x.2.1)
theorem qw(m:List (K×V×Nat))(k:K):bE (kv m) k=cO m k:=by
 induction m with
 | nil=>rfl
 | cons x m ih=>
   rw [kv,zR,cq]
   by_cases h:x.1=k
   ·simp [h,cO]
   ·have e:cO (x :: m) k=cO m k:=by simp [cO,h]
    rw [e,if_neg h]
    exact ih
theorem tR(m:List (K×V×Nat))(k:K)(v:V)(c:Nat):kv (dm m k v c)=ca (kv m) k v:=by
 induction m with
 | nil=>rfl
 | cons x m ih=>
   by_cases h:x.1=k
   ·simp [dm,ca,h]
   ·simpa [dm,ca,h] using ih
theorem wV(m:List (K×V×Nat))(k:K):kv (ik m k)=dO (kv m) k:=by
 induction m with
 | nil=>rfl
 | cons x m ih=>
   by_cases h:x.1=k
   ·simp [ik,dO,h]
   ·simpa [ik,dO,h] using ih
theorem fX{m:List (K×V×Nat)}{k:K}{v:V}(h:cO m k=some v): ∃ A B s,m=A ++ (k,v,s) :: B∧cO A k=none∧(∀ w c,dm m k w c=A ++ (k,w,s) :: B)∧ik m k=A ++ B:=by
 induction m with
 | nil=>simp [cO] at h
 | cons y m ih=>
   by_cases hy:y.1=k
   ·simp [cO,hy] at h
    obtain⟨y1,y2,y3⟩:=y
    simp at hy h
    exact⟨[],m,y3,by simp [hy,h],rfl,fun w c=>by simp [dm,hy],by simp [ik,hy]⟩
   ·have h':cO m k=some v:=by simpa [cO,hy] using h
    obtain⟨A,B,s,h1,h2,h3,h4⟩:=ih h'
    exact⟨y :: A,B,s,by rw [h1];rfl,by simpa [cO,hy] using h2,fun w c=>by simp [dm,hy,h3],by simp [ik,hy,h4]⟩
omit [DecidableEq K] in
theorem tY{P:Program}{kt:TypeId}(h:P.underlying kt=some (.int .u64)):KEnc P kt (fun n:Nat=> .int .u64 (n:Int)):=
 tZ h rfl (fun a b=>by simp only [Instr.sameNow,if_true,zw];rw [Bool.eq_iff_iff];simp [Int.natCast_inj]) (fun k=>by simp [Instr.sameBits])
end
section
variable {P:Program} {T:Tr SV} {H:aV} {nx:Nat} {d:Option Tmp} {ty:TypeId} {pos:String} {af:Array Edge} {gd:Option (Nat×Bool)}
theorem vG{t yt:TypeId}{x y:Operand}{a b:ByteArray}(hx:ar T x=some (.sc (.string a)))(hy:ar T y=some (.sc (.string b))):ReadDoes P T H ⟨d,.binOp .eql t x y yt,ty,pos,af,gd⟩ (.sc (.bool (a == b))):=by
 refine c9 fun ev w he=>?_
 have e1:=he x _ hx _ rfl
 have e2:=he y _ hy _ rfl
 rw [beq_toListBytes]
 simp [execOp,e1,e2,eqGuard,binOp,Op.stringOp]
theorem p9{t yt:TypeId}{x y:Operand}{a b:ByteArray}(hx:ar T x=some (.sc (.string a)))(hy:ar T y=some (.sc (.string b))):ReadDoes P T H ⟨d,.binOp .neq t x y yt,ty,pos,af,gd⟩ (.sc (.bool (a != b))):=by
 refine c9 fun ev w he=>?_
 have e1:=he x _ hx _ rfl
 have e2:=he y _ hy _ rfl
 rw [show(a != b) = !(a == b)from rfl,beq_toListBytes]
 simp [execOp,e1,e2,eqGuard,binOp,Op.stringOp]
theorem sS{t yt:TypeId}{x y:Operand}{a b:ByteArray}{r:Bool}(hx:ar T x=some (.sc (.string a)))(hy:ar T y=some (.sc (.string b)))(hr:(a == b)=r):ReadDoes P T H ⟨d,.binOp .eql t x y yt,ty,pos,af,gd⟩ (.sc (.bool r)):=hr ▸ vG hx hy
theorem jc{t yt:TypeId}{x y:Operand}{a b:ByteArray}{r:Bool}(hx:ar T x=some (.sc (.string a)))(hy:ar T y=some (.sc (.string b)))(hr:(a != b)=r):ReadDoes P T H ⟨d,.binOp .neq t x y yt,ty,pos,af,gd⟩ (.sc (.bool r)):=hr ▸ p9 hx hy
end
section
variable {P:Program} {ro:Option Nat} {fn nt nx:Nat} {T:Tr SV} {k:List AIt} {dfs:List ADf} {H:aV} {Q:Pst} {ops:Array Oper} {i:Nat} {l:List Oper} {d:Option Tmp} {ty:TypeId} {pos:String} {af:Array Edge} {gd:Option (Nat×Bool)}
theorem xi{t yt:TypeId}{x y:Operand}{a b:ByteArray}{dd:Nat}(hw:aA T ops ⟨some dd,.binOp .neq t x y yt,ty,pos,af,gd⟩=some true)(hd:Nat.blt dd nt=true)(hx:ar T x=some (.sc (.string a)))(hy:ar T y=some (.sc (.string b)))
 (h:Wp P ro ⟨fn,nt,T.set dd (.sc (.bool (a != b))),.inReg ops (i+1) l :: k,dfs,H,nx⟩ Q):Wp P ro ⟨fn,nt,T,.inReg ops i (⟨some dd,.binOp .neq t x y yt,ty,pos,af,gd⟩ :: l) :: k,dfs,H,nx⟩ Q:=
 bS hw (.inr (fun _ h=>by cases h)) ((p9 hx hy).does) (by rw [aK hd];exact h)
theorem fF{t yt:TypeId}{x y:Operand}{a b:ByteArray}{r:Bool}{dd:Nat}(hw:aA T ops ⟨some dd,.binOp .eql t x y yt,ty,pos,af,gd⟩=some true)(hd:Nat.blt dd nt=true)(hx:ar T x=some (.sc (.string a)))(hy:ar T y=some (.sc (.string b)))(hr:(a == b)=r)
 (h:Wp P ro ⟨fn,nt,T.set dd (.sc (.bool r)),.inReg ops (i+1) l :: k,dfs,H,nx⟩ Q):Wp P ro ⟨fn,nt,T,.inReg ops i (⟨some dd,.binOp .eql t x y yt,ty,pos,af,gd⟩ :: l) :: k,dfs,H,nx⟩ Q:=
 bS hw (.inr (fun _ h=>by cases h)) ((sS hx hy hr).does) (by rw [aK hd];exact h)
theorem md{t yt:TypeId}{x y:Operand}{a b:ByteArray}{r:Bool}{dd:Nat}(hw:aA T ops ⟨some dd,.binOp .neq t x y yt,ty,pos,af,gd⟩=some true)(hd:Nat.blt dd nt=true)(hx:ar T x=some (.sc (.string a)))(hy:ar T y=some (.sc (.string b)))(hr:(a != b)=r)
 (h:Wp P ro ⟨fn,nt,T.set dd (.sc (.bool r)),.inReg ops (i+1) l :: k,dfs,H,nx⟩ Q):Wp P ro ⟨fn,nt,T,.inReg ops i (⟨some dd,.binOp .neq t x y yt,ty,pos,af,gd⟩ :: l) :: k,dfs,H,nx⟩ Q:=
 bS hw (.inr (fun _ h=>by cases h)) ((jc hx hy hr).does) (by rw [aK hd];exact h)
end
section
variable {P:Program} {nt nx:Nat} {T:Tr SV} {H:aV} {ops:Array Oper} {i:Nat} {l:List Oper} {ty:TypeId} {pos:String} {af:Array Edge} {gd:Option (Nat×Bool)} {K:DS→Prop} {rs:List Rec} {Hs:List (aV×Nat)} {stg:Nat}
theorem kX{t yt:TypeId}{x y:Operand}{a b:ByteArray}{r:Bool}{dd:Nat}(hw:aA (aS T (aO ops.toList ⟨some dd,.binOp .neq t x y yt,ty,pos,af,gd⟩)) ops ⟨some dd,.binOp .neq t x y yt,ty,pos,af,gd⟩=some true)(hd:Nat.blt dd nt=true)(hx:ar (aS T (aO ops.toList ⟨some dd,.binOp .neq t x y yt,ty,pos,af,gd⟩)) x=some (.sc (.string a)))(hy:ar (aS T (aO ops.toList ⟨some dd,.binOp .neq t x y yt,ty,pos,af,gd⟩)) y=some (.sc (.string b)))(hr:(a != b)=r)
 (h:DrawK P nt ops (i+1) l ⟨T.set dd (.sc (.bool r)),H,nx,⟨i,⟨some dd,.binOp .neq t x y yt,ty,pos,af,gd⟩,(aS T (aO ops.toList ⟨some dd,.binOp .neq t x y yt,ty,pos,af,gd⟩)),stg,false,true,(.sc (.bool r))⟩ :: rs,Hs,stg⟩ K):DrawK P nt ops i (⟨some dd,.binOp .neq t x y yt,ty,pos,af,gd⟩ :: l) ⟨T,H,nx,rs,Hs,stg⟩ K:=
 bv hw hd (fun _ h=>by cases h) (jc hx hy hr) h
end
section
variable {P:Program}
theorem l6{ro:Option Nat}{fn nt nx:Nat}{T:Tr SV}{k:List AIt}{dfs:List ADf}{H:aV}{Q:Pst}{d:Nat}{s s':SV}(sz:Nat)(t:TypeId)(hT:T.at' d=some s)(h0:Nat.blt 0 sz=true)(hc: ∀ e v,e nx=some ⟨0,0,0,sz,true⟩→s.conc e=some v→s'.conc e=some v)
 (h:Wp P ro ⟨fn,nt,T.set d s',k,dfs,H.set nx (dat false 0 sz t []),nx+1⟩ Q):Wp P ro ⟨fn,nt,T,k,dfs,H,nx⟩ Q:=by
 refine⟨fun K w0 e w tmps todo ds kd rof cs hS hTr htd hds hc2=>?_⟩
 have hf:=hS.fresh nx (zP _)
 have hle:=Env.cH (x:=⟨0,0,0,sz,true⟩) hf
 have hT2:TRel (e.put nx ⟨0,0,0,sz,true⟩) nt (T.set d s') tmps:=by
  refine⟨hTr.1,fun t u hs=>?_⟩
  rcases Tr.bM hs with ⟨rfl,rfl⟩|⟨_,hs⟩
  ·obtain⟨v,g1,g2⟩:=hTr.2 _ _ hT
   exact⟨v,hc _ _ (Env.bI _ _ _) (SV.bW hle _ _ g1),g2⟩
  ·obtain⟨v,g1,g2⟩:=hTr.2 _ _ hs
   exact⟨v,SV.bW hle _ _ g1,g2⟩
 obtain⟨r,hr,e1,w',v,g1,g2⟩:=h.run K w0 _ w tmps todo ds kd rof cs (hS.newNil false sz t _ (bJ h0)) hT2 (htd.mono hle) (hds.mono hle) (hc2.mono hle)
 exact⟨r,hr,e1,w',v,Env.le_trans hle g1,g2⟩
end
end Go.Sy
end
