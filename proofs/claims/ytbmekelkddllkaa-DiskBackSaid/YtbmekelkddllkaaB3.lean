import Derived.Laws.StructEq
import Derived.ChangeKeysEq
import Derived.Test.YtbmekelkddllkaaProg
import Derived.Test.YtbmekelkddllkaaB2
set_option linter.unusedVariables false
set_option linter.unusedSimpArgs false
set_option maxRecDepth 100000
set_option maxHeartbeats 0
section
namespace Go.Sy
open Go Go.Sl Go.RowKit
section
variable {P:Program} {T:Tr SV} {H:aJ} {nx:Nat} {d:Option Tmp} {ty:TypeId} {pos:String} {af:Array Edge} {gd:Option (Nat×Bool)}
theorem eR{o:Oper}{v:SV}(h:cP P T H o=some v):ReadDoes P T H o v:=fun _ _ _ _ _ _ hS hE=>ta hS hE h
theorem j7{o:Oper}{out:Out}(h:gO P T H nx o=some out):OpDoes P T H nx o out:=fun _ _ _ _ _ hS hE=>mZ hS hE h
def iI(P:Program)(s:TypeId)(f:Nat):Option Nat:=match P.underlying s with
 | some (.struct fields)=>match fields[f]? with
   | some fd=>match bv P fd.type with
     | some (_+1)=>some fd.offset
     | _=>none
   | none=>none
 | _=>none
def ry(P:Program)(t:TypeId):Option (List SV):=(cH P t).map fun z=>z.cells.toList.map .sc
theorem aC{x:Operand}{v:SV}(h:ao T x=some v):ReadDoes P T H ⟨d,.move x,ty,pos,af,gd⟩ v:=eR h
theorem ew{x:Operand}{v:SV}(h:ao T x=some v):ReadDoes P T H ⟨d,.assign x,ty,pos,af,gd⟩ v:=eR h
theorem aY{c a b:Operand}{v:SV}(hc:ao T c=some (.sc (.bool true)))(h:ao T a=some v):ReadDoes P T H ⟨d,.pick c a b,ty,pos,af,gd⟩ v:=by
 refine eR ?_
 unfold cP
 simp only [hc,cond_true]
 exact h
theorem jt{c a b:Operand}{v:SV}(hc:ao T c=some (.sc (.bool false)))(h:ao T b=some v):ReadDoes P T H ⟨d,.pick c a b,ty,pos,af,gd⟩ v:=by
 refine eR ?_
 unfold cP
 simp only [hc,cond_false]
 exact h
theorem rJ{x:Operand}{i:Nat}{l:List SV}{v:SV}(h:ao T x=some (.tup l))(hi:l[i]? =some v):ReadDoes P T H ⟨d,.extract x i,ty,pos,af,gd⟩ v:=by
 refine eR ?_
 unfold cP
 simp only [h,zG,xC]
 exact hi
theorem br{x:Operand}{b o:Nat}(h:ao T x=some (.ptr b o)):ReadDoes P T H ⟨d,.nilCheck x,ty,pos,af,gd⟩ (.ptr b o):=by
 refine eR ?_
 unfold cP
 simp only [h,zG,eW]
theorem be{s:TypeId}{x:Operand}{f b o off:Nat}(hf:iI P s f=some off)(h:ao T x=some (.ptr b o)):ReadDoes P T H ⟨d,.fieldAddr s x f,ty,pos,af,gd⟩ (.ptr b (o+off)):=by
 refine eR ?_
 unfold cP
 simp only [h,zG,fU]
 unfold iI at hf
 cases hu:P.underlying s with
 | none=>rw [hu] at hf;cases hf
 | some dd=>
   rw [hu] at hf
   cases dd with
   | struct fields=>
     simp only at hf ⊢
     cases hx:fields[f]? with
     | none=>rw [hx] at hf;cases hf
     | some fd=>
       rw [hx] at hf
       simp only at hf ⊢
       cases hs:bv P fd.type with
       | none=>rw [hs] at hf;cases hf
       | some n=>
         rw [hs] at hf
         cases n with
         | zero=>cases hf
         | succ n=>simp only [zc] at hf;simp only [hf]
   | _=>cases hf
theorem pB{f:Fn}{a b:Array Operand}{x y:List SV}(ha:dX T a.toList=some x)(hb:dX T b.toList=some y):ReadDoes P T H ⟨d,.makeFunc f a b,ty,pos,af,gd⟩ (.fn f x y):=by
 refine eR ?_
 unfold cP
 simp only [ha,hb,zG,zF]
theorem aU{t:TypeId}{x:Operand}{b o:Nat}{vo:VO}{v:SV}(ha:bM P t=some none)(hx:ao T x=some (.ptr b o))(hb:H.at' b=some vo)(hv:vo.cell o=some v):ReadDoes P T H ⟨d,.load t x,ty,pos,af,gd⟩ v:=by
 refine eR ?_
 unfold cP
 simp only [hx,mS,hb,ha]
 exact hv
theorem bY{t:TypeId}{x:Operand}{b o n:Nat}{vo:VO}{l:List SV}(ha:bM P t=some (some n))(hx:ao T x=some (.ptr b o))(hb:H.at' b=some vo)(hv:vo.cellsFrom o n=some l):ReadDoes P T H ⟨d,.load t x,ty,pos,af,gd⟩ (.agg l):=by
 refine eR ?_
 unfold cP
 simp only [hx,mS,hb,ha,hv,zF]
theorem aX{t:TypeId}{l:List SV}{o:Nat}{v:SV}(h:l[o]? =some v):(ak t l).cell o=some v:=by
 have hlt:=(zh.1 h).1
 simp only [ak,VO.cell,iG,h]
 rw [show Nat.blt o l.length=true from zk hlt]
 rfl
theorem di{t:TypeId}{l:List SV}: ∀ (n o:Nat) {vs:List SV},(l.drop o).take n=vs→vs.length=n→(ak t l).cellsFrom o n=some vs
 | 0,o,vs,h,hn=>by
   have:vs= []:=zu hn
   subst this
   rfl
 | n+1,o,vs,h,hn=>by
   cases hd:l.drop o with
   | nil=>rw [hd] at h;subst h;simp at hn
   | cons x r=>
     rw [hd] at h
     simp only [List.take_succ_cons] at h
     subst h
     have hx:l[o]? =some x:=by
      have:=congrArg List.head? hd
      simpa using this
     have hr:l.drop (o+1)=r:=by
      have:=congrArg List.tail hd
      simpa using this
     simp only [VO.cellsFrom,aX hx]
     rw [di n (o+1) (vs:=r.take n) (by rw [hr]) (by simpa using hn)]
theorem vD{t:TypeId}{l:List SV}(hz:ry P t=some l):OpDoes P T H nx ⟨d,.alloc t,ty,pos,af,gd⟩ (.val (.ptr nx 0),H.set nx (ak t l),nx+1):=by
 refine j7 ?_
 unfold gO ry at *
 cases hzz:cH P t with
 | none=>rw [hzz] at hz;cases hz
 | some z=>rw [hzz] at hz;simp only [zF,zc] at hz;simp only [hzz,hz]
theorem tC{t:TypeId}{x:Operand}{l:List SV}(hx:ao T x=some (.agg l)):OpDoes P T H nx ⟨d,.box t x,ty,pos,af,gd⟩ (.val (.ptr nx 0),H.set nx (ak t l),nx+1):=by
 refine j7 ?_
 unfold gO
 simp only [hx]
 rfl
theorem yL{t:TypeId}{x:Operand}{v:SV}{l:List SV}(hx:ao T x=some v)(hl:v.cells=l):OpDoes P T H nx ⟨d,.box t x,ty,pos,af,gd⟩ (.val (.ptr nx 0),H.set nx (ak t l),nx+1):=by
 refine j7 ?_
 unfold gO
 simp only [hx,hl]
theorem kj{t:TypeId}: ∀ (vs l:List SV) (o:Nat),o+vs.length≤l.length→c8 vs=true→(ak t l).setCells o vs=some (ak t (l.take o ++ vs ++ l.drop (o+vs.length)))
 | [],l,o,h,_=>by simp [VO.setCells]
 | v :: vs,l,o,h,h1=>by
   simp only [c8,zx] at h1
   simp only [zC] at h
   have hset:(ak t l).setCell o v=some (ak t (l.set o v)):=by
    simp only [ak,VO.setCell]
    rw [show Nat.blt o l.length=true from zk (by omega),h1.1]
    simp only [Bool.and_self,cond_true,zc,VO.cells.injEq,List.length_set,true_and]
    funext i
    simp only [eL,Tr.set]
    rw [List.getElem?_set]
    by_cases hi:o=i
    ·subst hi
     rw [if_pos rfl,if_pos (by omega),Nat.beq_refl]
     rfl
    ·rw [if_neg hi,show Nat.beq i o=false from by cases hb:Nat.beq i o with|false=>rfl|true=>exact absurd (Nat.eq_of_beq_eq_true hb).symm hi]
     rfl
   simp only [VO.setCells,hset]
   rw [kj vs (l.set o v) (o+1) (by rw [List.length_set];omega) h1.2]
   simp only [zc]
   congr 1
   have e1:(l.set o v).take (o+1)=l.take o ++ [v]:=by
    rw [List.take_set,List.set_eq_take_append_cons_drop,if_pos (by rw [List.length_take];omega),List.take_take,Nat.min_eq_left (by omega),List.drop_eq_nil_of_le (by rw [List.length_take];omega)]
   have e2:(l.set o v).drop (o+1+vs.length)=l.drop (o+(vs.length+1)):=by
    rw [List.drop_set_of_lt (by omega)]
    congr 1
    omega
   rw [e1,e2]
   simp
theorem iy{t:TypeId}{a x:Operand}{b o n:Nat}{bt:TypeId}{l vs:List SV}{v:SV}(hs:bv P t=some n)(ha:ao T a=some (.ptr b o))(hx:ao T x=some v)(hv:v.cells=vs)(hb:H.at' b=some (ak bt l))(hn:vs.length=n)(ho:o+n≤l.length)
 (h1:c8 vs=true):OpDoes P T H nx ⟨d,.store t a x,ty,pos,af,gd⟩ (.skip,H.set b (ak bt (l.take o ++ vs ++ l.drop (o+n))),nx):=by
 refine j7 ?_
 subst hn
 unfold gO
 simp only [ha,hx,hv,nI,hs,Nat.beq_refl,cond_true,ej,hb,kj vs l o ho h1]
theorem nU{t:TypeId}{a x:Operand}{b o:Nat}{bt:TypeId}{l:List SV}{v:SV}(hs:bv P t=some 1)(ha:ao T a=some (.ptr b o))(hx:ao T x=some v)(hb:H.at' b=some (ak bt l))(h1:v.one=true)(ho:o<l.length) :
 OpDoes P T H nx ⟨d,.store t a x,ty,pos,af,gd⟩ (.skip,H.set b (ak bt (l.set o v)),nx):=by
 have hv:v.cells= [v]:=by
  cases v with
  | sc c=>cases c <;> first|rfl|(simp [SV.one] at h1)
  | agg l=>simp [SV.one] at h1
  | _=>rfl
 have:=iy (d:=d) (ty:=ty) (pos:=pos) (af:=af) (gd:=gd) (nx:=nx) hs ha hx hv hb rfl (by omega) (by simp [c8,h1])
 rw [List.set_eq_take_append_cons_drop,if_pos ho]
 simpa using this
theorem cD{o:Oper}{v:Value}(h: ∀ ev w,(∀ x s,ao T x=some s→ ∀ u,s = .sc u→ev x=u)→(execOp ev o).run P w = .ok (.value v) w):ReadDoes P T H o (.sc v):=by
 intro K w0 e nx w ev hS hE
 refine⟨v,rfl,h ev w (fun x s hs u hu=>?_)⟩
 subst hu
 have:=hE x _ hs
 simpa [SV.conc] using this.symm
theorem aK{op:BinOp}{t yt:TypeId}{x y:Operand}{k:IntKind}{a b c:Int}(hx:ao T x=some (.sc (.int k a)))(hy:ao T y=some (.sc (.int k b)))(hop:op = .add∧c=k.wrap (a+b)∨op = .sub∧c=k.wrap (a-b)∨op = .mul∧c=k.wrap (a*b)) :
 ReadDoes P T H ⟨d,.binOp op t x y yt,ty,pos,af,gd⟩ (.sc (.int k c)):=by
 refine cD fun ev w he=>?_
 have e1:=he x _ hx _ rfl
 have e2:=he y _ hy _ rfl
 rcases hop with ⟨rfl,rfl⟩|⟨rfl,rfl⟩|⟨rfl,rfl⟩ <;> simp [execOp,e1,e2,eqGuard,binOp,Op.intArith]
theorem fO{op:BinOp}{t yt:TypeId}{x y:Operand}{k:IntKind}{a b:Int}{c:Bool}(hx:ao T x=some (.sc (.int k a)))(hy:ao T y=some (.sc (.int k b)))
 (hop:op = .eql∧c=(a == b)∨op = .neq∧c=(a != b)∨op = .lss∧c=decide (a<b)∨op = .leq∧c=decide (a≤b)∨op = .gtr∧c=decide (a>b)∨op = .geq∧c=decide (a≥b)) :
 ReadDoes P T H ⟨d,.binOp op t x y yt,ty,pos,af,gd⟩ (.sc (.bool c)):=by
 refine cD fun ev w he=>?_
 have e1:=he x _ hx _ rfl
 have e2:=he y _ hy _ rfl
 rcases hop with ⟨rfl,rfl⟩|⟨rfl,rfl⟩|⟨rfl,rfl⟩|⟨rfl,rfl⟩|⟨rfl,rfl⟩|⟨rfl,rfl⟩ <;> simp [execOp,e1,e2,eqGuard,binOp,Op.intCmp]
theorem bE{t:TypeId}{x:Operand}{b:Bool}(hx:ao T x=some (.sc (.bool b))):ReadDoes P T H ⟨d,.unOp .not t x,ty,pos,af,gd⟩ (.sc (.bool (!b))):=by
 refine cD fun ev w he=>?_
 have e1:=he x _ hx _ rfl
 simp [execOp,e1,Op.unary]
theorem wI{t yt:TypeId}{x y:Operand}{k:IntKind}{a b c:Int}(hx:ao T x=some (.sc (.int k a)))(hy:ao T y=some (.sc (.int k b)))(h0:b≠0)(hc:k.wrap (a.tdiv b)=c) :
 ReadDoes P T H ⟨d,.binOp .quo t x y yt,ty,pos,af,gd⟩ (.sc (.int k c)):=by
 refine cD fun ev w he=>?_
 have e1:=he x _ hx _ rfl
 have e2:=he y _ hy _ rfl
 subst hc
 simp [execOp,e1,e2,eqGuard,binOp,Op.intDiv,h0]
theorem yE{t yt:TypeId}{x y:Operand}{k:IntKind}{a b c:Int}(hx:ao T x=some (.sc (.int k a)))(hy:ao T y=some (.sc (.int k b)))(h0:b≠0)(hc:a.tmod b=c) :
 ReadDoes P T H ⟨d,.binOp .rem t x y yt,ty,pos,af,gd⟩ (.sc (.int k c)):=by
 refine cD fun ev w he=>?_
 have e1:=he x _ hx _ rfl
 have e2:=he y _ hy _ rfl
 subst hc
 simp [execOp,e1,e2,eqGuard,binOp,Op.intDiv,h0]
def r8(op:BinOp)(k:IntKind)(a b:Int):Int:=match op with
 | .and=>k.wrap (BitVec.ofInt k.bits a &&& BitVec.ofInt k.bits b).toNat
 | .or=>k.wrap (BitVec.ofInt k.bits a ||| BitVec.ofInt k.bits b).toNat
 | .xor=>k.wrap (BitVec.ofInt k.bits a ^^^ BitVec.ofInt k.bits b).toNat
 | _=>k.wrap (BitVec.ofInt k.bits a &&& ~~~(BitVec.ofInt k.bits b)).toNat
theorem ti{op:BinOp}{t yt:TypeId}{x y:Operand}{k:IntKind}{a b c:Int}(hx:ao T x=some (.sc (.int k a)))(hy:ao T y=some (.sc (.int k b)))(ho:op = .and∨op = .or∨op = .xor∨op = .andNot)(hc:r8 op k a b=c) :
 ReadDoes P T H ⟨d,.binOp op t x y yt,ty,pos,af,gd⟩ (.sc (.int k c)):=by
 refine cD fun ev w he=>?_
 have e1:=he x _ hx _ rfl
 have e2:=he y _ hy _ rfl
 subst hc
 rcases ho with rfl|rfl|rfl|rfl <;> simp [execOp,e1,e2,eqGuard,binOp,Op.intBits,r8]
theorem wH{t yt:TypeId}{x y:Operand}{k k2:IntKind}{a b c:Int}(hx:ao T x=some (.sc (.int k a)))(hy:ao T y=some (.sc (.int k2 b)))(h0:0≤b)(hc:k.wrap (a*2 ^ (min b.toNat k.bits))=c) :
 ReadDoes P T H ⟨d,.binOp .shl t x y yt,ty,pos,af,gd⟩ (.sc (.int k c)):=by
 refine cD fun ev w he=>?_
 have e1:=he x _ hx _ rfl
 have e2:=he y _ hy _ rfl
 subst hc
 have h1: ¬ b<0:=by omega
 simp [execOp,e1,e2,eqGuard,binOp,Op.shift,h1]
theorem wG{t yt:TypeId}{x y:Operand}{k k2:IntKind}{a b c:Int}(hx:ao T x=some (.sc (.int k a)))(hy:ao T y=some (.sc (.int k2 b)))(h0:0≤b)(hc:a.fdiv (2 ^ (min b.toNat k.bits))=c) :
 ReadDoes P T H ⟨d,.binOp .shr t x y yt,ty,pos,af,gd⟩ (.sc (.int k c)):=by
 refine cD fun ev w he=>?_
 have e1:=he x _ hx _ rfl
 have e2:=he y _ hy _ rfl
 subst hc
 have h1: ¬ b<0:=by omega
 simp [execOp,e1,e2,eqGuard,binOp,Op.shift,h1]
theorem xw{s t:TypeId}{su:TypeDesc}{x:Operand}{k k2:IntKind}{a c:Int}(hs:P.underlying s=some su)(hu:P.underlying t=some (.int k))(hx:ao T x=some (.sc (.int k2 a)))(hc:k.wrap a=c) :
 ReadDoes P T H ⟨d,.convert s t x,ty,pos,af,gd⟩ (.sc (.int k c)):=by
 refine cD fun ev w he=>?_
 have e1:=he x _ hx _ rfl
 subst hc
 simp [execOp,e1,convert,run_underlying hs,run_underlying hu,Conv.intToInt]
def x8(P:Program)(t:TypeId):Option (List (Nat×Nat)):=match P.underlying t with
 | some (.struct fields)=>ko P fields.toList
 | _=>none
theorem gk{t:TypeId}{parts:List (Nat×Operand)}{ps:List (Nat×SV)}{pl:List (Nat×Nat)}{z:Value}{cs:List SV}(hp:jJ T parts=some ps)(hz:cH P t=some z)(hl:x8 P t=some pl)(hf:fT (fun i=>pl[i]?) (z.cells.toList.map .sc) ps=some cs) :
 ReadDoes P T H ⟨d,.build t parts.toArray,ty,pos,af,gd⟩ (.agg cs):=by
 refine eR ?_
 unfold x8 at hl
 cases hu:P.underlying t with
 | none=>rw [hu] at hl;cases hl
 | some u=>
   rw [hu] at hl
   cases u with
   | struct fields=>simp only [cP,hp,zG,kz,hz,hu,hl,hf,zF]
   | _=>cases hl
theorem ju{t:TypeId}{e:TypeId}{x:Operand}{b eo n:Nat}(hu:P.underlying t=some (.slice e))(hx:ao T x=some (.slu b eo n)):ReadDoes P T H ⟨d,.call {callee:= .builtin .len,args:= #[x],argTypes:= #[t]},ty,pos,af,gd⟩ (.sc (.int .i64 n)):=by
 refine eR ?_
 simp only [cP,lp,hx,zG,vO,hu]
theorem nP{t:TypeId}{x:Operand}{s:ByteArray}(hu:P.underlying t=some .string)(hx:ao T x=some (.sc (.string s))):ReadDoes P T H ⟨d,.call {callee:= .builtin .len,args:= #[x],argTypes:= #[t]},ty,pos,af,gd⟩ (.sc (.int .i64 s.size)):=by
 refine cD fun ev w he=>?_
 have e1:=he x _ hx _ rfl
 simp [execOp,resolve,invoke,builtin,e1,Builtin.len_,run_underlying hu,goInt]
def dat(ro:Bool)(ne sz:Nat)(t:TypeId)(vs:List Value):VO:= .row ro ne sz t (fun i=>(vs[i]?).map .sc)
theorem mB(ρ:Nat→Nat)(ro:Bool)(ne sz:Nat)(t:TypeId)(vs:List Value):(dat ro ne sz t vs).ren ρ=dat ro ne sz t vs:=by
 show VO.row ro ne sz t (si ρ _)=VO.row ro ne sz t _
 congr 1
 funext i
 show((vs[i]?).map SV.sc).map (SV.ren ρ)=(vs[i]?).map SV.sc
 cases vs[i]? <;> rfl
theorem s7(ρ:Nat→Nat)(t:TypeId)(l:List SV):(ak t l).ren ρ=ak t (SV.ip ρ l):=by
 rw [SV.pj]
 simp only [ak,VO.ren,List.length_map]
 congr 1
 funext i
 show((l[i]?).map (SV.ren ρ))=(l.map (SV.ren ρ))[i]?
 rw [List.getElem?_map]
theorem kN{ro:Bool}{ne sz:Nat}{t:TypeId}{vs:List Value}{i:Nat}{v:Value}(hi:i<ne*sz)(hv:vs[i]? =some v):(dat ro ne sz t vs).cell i=some (.sc v):=by
 simp only [dat,VO.cell,Tr.at',hv,zF]
 rw [show Nat.blt i (ne*sz)=true from zk hi]
 rfl
theorem dO{ro:Bool}{ne sz:Nat}{t:TypeId}{vs:List Value}: ∀ (n o:Nat) {us:List Value},(vs.drop o).take n=us→us.length=n→o+n≤ne*sz→(dat ro ne sz t vs).cellsFrom o n=some (us.map .sc)
 | 0,o,us,h,hn,_=>by
   have:us= []:=zu hn
   subst this
   rfl
 | n+1,o,us,h,hn,hl=>by
   cases hd:vs.drop o with
   | nil=>rw [hd] at h;subst h;simp at hn
   | cons x r=>
     rw [hd] at h
     simp only [List.take_succ_cons] at h
     subst h
     have hx:vs[o]? =some x:=by
      have:=congrArg List.head? hd
      simpa using this
     have hr:vs.drop (o+1)=r:=by
      have:=congrArg List.tail hd
      simpa using this
     simp only [VO.cellsFrom,kN (ro:=ro) (t:=t) (sz:=sz) (show o<ne*sz by omega) hx]
     rw [dO n (o+1) (us:=r.take n) (by rw [hr]) (by simpa using hn) (by omega)]
     rfl
theorem qv{t e:TypeId}{x y:Operand}{b eo n:Nat}{k:IntKind}{i:Int}{ro:Bool}{ne sz:Nat}{rt:TypeId}{c:Tr SV}(hu:P.underlying t=some (.slice e))(hs:bv P e=some sz)(hx:ao T x=some (.slu b eo n))(hy:ao T y=some (.sc (.int k i)))
 (hb:H.at' b=some (.row ro ne sz rt c)) (h0:0≤i) (hi:i<n) (hne:eo+n≤ne):ReadDoes P T H ⟨d,.indexAddr t x y,ty,pos,af,gd⟩ (.ptr b ((eo+i.toNat)*sz)):=by
 refine eR ?_
 obtain⟨j,rfl⟩:=Int.eq_ofNat_of_zero_le h0
 have hj:j<n:=by omega
 simp only [cP,sj,hx,hy,zG,de,hu,hs,hb,Nat.beq_refl,Int.toNat_natCast]
 rw [show Nat.ble (eo+n) ne=true from zk hne,show Nat.blt j n=true from zk hj]
 rfl
end
def OkAll{A:Type}(p:Nat→A→Prop):Nat→List (Option A)→Prop
 | _,[]=>True
 | i,none :: l=>OkAll p (i+1) l
 | i,some x :: l=>p i x∧OkAll p (i+1) l
theorem OkAll.get{A:Type}{p:Nat→A→Prop}: ∀ {l:List (Option A)} {k:Nat},OkAll p k l→ ∀ {i:Nat} {x:A},l[i]? =some (some x)→p (k+i) x
 | [],k,_,i,x,h=>by simp at h
 | none :: l,k,hh,i,x,h=>by
   cases i with
   | zero=>simp at h
   | succ i=>rw [show k+(i+1)=k+1+i by omega];exact OkAll.get (l:=l) (k:=k+1) hh (by simpa using h)
 | some y :: l,k,hh,i,x,h=>by
   cases i with
   | zero=>simp only [zw,zc] at h;subst h;exact hh.1
   | succ i=>rw [show k+(i+1)=k+1+i by omega];exact OkAll.get (l:=l) (k:=k+1) hh.2 (by simpa using h)
def OkL{A:Type}(p:Nat→A→Prop):Nat→List A→Prop
 | _,[]=>True
 | i,x :: l=>p i x∧OkL p (i+1) l
theorem OkL.get{A:Type}{p:Nat→A→Prop}: ∀ {l:List A} {k:Nat},OkL p k l→ ∀ {i:Nat} {x:A},l[i]? =some x→p (k+i) x
 | [],k,_,i,x,h=>by simp at h
 | y :: l,k,hh,i,x,h=>by
   cases i with
   | zero=>simp only [zw,zc] at h;subst h;exact hh.1
   | succ i=>rw [show k+(i+1)=k+1+i by omega];exact OkL.get (l:=l) (k:=k+1) hh.2 (by simpa using h)
inductive LoadIs (P:Program) (H:aJ) (t:TypeId) (b o:Nat):SV→Prop
 | one {vo:VO} {v:SV} (ha:bM P t=some none) (hb:H.at' b=some vo) (hv:vo.cell o=some v):LoadIs P H t b o v
 | many {n:Nat} {vo:VO} {l:List SV} (ha:bM P t=some (some n)) (hb:H.at' b=some vo) (hv:vo.cellsFrom o n=some l):LoadIs P H t b o (.agg l)
inductive ResIs (P:Program) (H:aJ) (T:Tr SV):List ResultVar→List SV→Prop
 | nil:ResIs P H T [] []
 | tmp {t:Tmp} {l:List ResultVar} {v:SV} {vs:List SV} (hv:T.at' t=some v) (h:ResIs P H T l vs):ResIs P H T (.tmp t :: l) (v :: vs)
 | cell {a:Tmp} {t:TypeId} {b o:Nat} {l:List ResultVar} {v:SV} {vs:List SV} (ha:T.at' a=some (.ptr b o)) (hv:LoadIs P H t b o v) (h:ResIs P H T l vs):ResIs P H T (.cell a t :: l) (v :: vs)
theorem ResIs.res{P:Program}{H:aJ}{T:Tr SV}{l:List ResultVar}{vs:List SV}(h:ResIs P H T l vs):mA P H T l=some vs:=by
 induction h with
 | nil=>rfl
 | tmp hv _ ih=>simp only [mA,hv,ih]
 | cell ha hv _ ih=>
   cases hv with
   | one hag hb hv=>simp only [mA,ha,hb,hag,hv,ih]
   | many hag hb hv=>simp only [mA,ha,hb,hag,hv,ih]
section
variable {P:Program} {ro:Option Nat} {fn nt nx:Nat} {T:Tr SV} {k:List AIt} {dfs:List ADf} {H:aJ} {Q:Pst} {ops:Array Oper} {i:Nat} {l:List Oper} {d:Option Tmp} {ty:TypeId} {pos:String} {af:Array Edge} {gd:Option (Nat×Bool)}
theorem Fnc.start{f:FuncId}{F:Func}{args:List SV}{c:Code}{n:Nat}(hf:P.funcs[f]? =some F)(hb:F.body=some c)(hn:F.ntmps=n)(h:Wp P none ⟨f,max args.length n,jb .nil 0 args,[.code c],[],H,nx⟩ Q):Fnc P f args H nx Q:=
 .enter (by simp only [rj,hf,hb]) (by simp only [yN,hf,hn]) h
theorem aQ{F:Func}{rl:List ResultVar}{vs:List SV}(hf:P.funcs[fn]? =some F)(hl:F.results.toList=rl)(hv:ResIs P H T rl vs)(h:Q (gg vs,H,nx)):Wp P none ⟨fn,nt,T,.code .ret :: k,[],H,nx⟩ Q:=
 y_ret (by simp only [eu,hf,hl]) hv.res h
theorem dU{F:Func}{rl:List ResultVar}{vs:List SV}(hf:P.funcs[fn]? =some F)(hl:F.results.toList=rl)(hv:ResIs P H T rl vs)(h:Q (gg vs,H,nx)):Wp P none ⟨fn,nt,T,[],[],H,nx⟩ Q:=
 y_end (by simp only [eu,hf,hl]) hv.res h
theorem ac{id:Nat}{ops:List Oper}(h:Wp P ro ⟨fn,nt,T,.inReg ops.toArray 0 ops :: k,dfs,H,nx⟩ Q):Wp P ro ⟨fn,nt,T,.code (.region id ops.toArray false) :: k,dfs,H,nx⟩ Q:=uO h
theorem sq{a b:Int}(h1:0≤a)(h2:a≤9223372036854775807)(h3:0<b):IntKind.i64.wrap (a.tdiv b)=a / b:=by
 rw [Int.tdiv_eq_ediv_of_nonneg h1]
 exact zd _ ⟨Int.le_trans (by decide) (Int.ediv_nonneg h1 (by omega)),Int.le_trans (Int.ediv_le_self _ h1) h2⟩
theorem aB{d:Tmp}{v:SV}(h:Nat.blt d nt=true):gI nt T (some d) v=T.set d v:=by simp only [gI,h,cond_true]
theorem jn{o:Oper}(hw:aq T ops o=some false)(h:Wp P ro ⟨fn,nt,gI nt T o.dst cC,.inReg ops (i+1) l :: k,dfs,H,nx⟩ Q):Wp P ro ⟨fn,nt,T,.inReg ops i (o :: l) :: k,dfs,H,nx⟩ Q:=y_not hw h
theorem ai{x:Operand}{v:SV}{dd:Nat}(hw:aq T ops ⟨some dd,.move x,ty,pos,af,gd⟩=some true)(hd:Nat.blt dd nt=true)(hx:ao T x=some v)
 (h:Wp P ro ⟨fn,nt,T.set dd v,.inReg ops (i+1) l :: k,dfs,H,nx⟩ Q):Wp P ro ⟨fn,nt,T,.inReg ops i (⟨some dd,.move x,ty,pos,af,gd⟩ :: l) :: k,dfs,H,nx⟩ Q:=
 bD hw (.inr (fun _ h=>by cases h)) ((aC hx).does) (by rw [aB hd];exact h)
theorem ah{x:Operand}{v:SV}{dd:Nat}(hw:aq T ops ⟨some dd,.assign x,ty,pos,af,gd⟩=some true)(hd:Nat.blt dd nt=true)(hx:ao T x=some v)
 (h:Wp P ro ⟨fn,nt,T.set dd v,.inReg ops (i+1) l :: k,dfs,H,nx⟩ Q):Wp P ro ⟨fn,nt,T,.inReg ops i (⟨some dd,.assign x,ty,pos,af,gd⟩ :: l) :: k,dfs,H,nx⟩ Q:=
 bD hw (.inr (fun _ h=>by cases h)) ((ew hx).does) (by rw [aB hd];exact h)
theorem dz{c a b:Operand}{v:SV}{dd:Nat}(hw:aq T ops ⟨some dd,.pick c a b,ty,pos,af,gd⟩=some true)(hd:Nat.blt dd nt=true)(hc:ao T c=some (.sc (.bool true)))(hx:ao T a=some v)
 (h:Wp P ro ⟨fn,nt,T.set dd v,.inReg ops (i+1) l :: k,dfs,H,nx⟩ Q):Wp P ro ⟨fn,nt,T,.inReg ops i (⟨some dd,.pick c a b,ty,pos,af,gd⟩ :: l) :: k,dfs,H,nx⟩ Q:=
 bD hw (.inr (fun _ h=>by cases h)) ((aY hc hx).does) (by rw [aB hd];exact h)
theorem bL{c a b:Operand}{v:SV}{dd:Nat}(hw:aq T ops ⟨some dd,.pick c a b,ty,pos,af,gd⟩=some true)(hd:Nat.blt dd nt=true)(hc:ao T c=some (.sc (.bool false)))(hx:ao T b=some v)
 (h:Wp P ro ⟨fn,nt,T.set dd v,.inReg ops (i+1) l :: k,dfs,H,nx⟩ Q):Wp P ro ⟨fn,nt,T,.inReg ops i (⟨some dd,.pick c a b,ty,pos,af,gd⟩ :: l) :: k,dfs,H,nx⟩ Q:=
 bD hw (.inr (fun _ h=>by cases h)) ((jt hc hx).does) (by rw [aB hd];exact h)
theorem bp{x:Operand}{j:Nat}{xs:List SV}{v:SV}{dd:Nat}(hw:aq T ops ⟨some dd,.extract x j,ty,pos,af,gd⟩=some true)(hd:Nat.blt dd nt=true)(hx:ao T x=some (.tup xs))(hj:xs[j]? =some v)
 (h:Wp P ro ⟨fn,nt,T.set dd v,.inReg ops (i+1) l :: k,dfs,H,nx⟩ Q):Wp P ro ⟨fn,nt,T,.inReg ops i (⟨some dd,.extract x j,ty,pos,af,gd⟩ :: l) :: k,dfs,H,nx⟩ Q:=
 bD hw (.inr (fun _ h=>by cases h)) ((rJ hx hj).does) (by rw [aB hd];exact h)
theorem aN{x:Operand}{b o:Nat}{dd:Nat}(hw:aq T ops ⟨some dd,.nilCheck x,ty,pos,af,gd⟩=some true)(hd:Nat.blt dd nt=true)(hx:ao T x=some (.ptr b o))
 (h:Wp P ro ⟨fn,nt,T.set dd (.ptr b o),.inReg ops (i+1) l :: k,dfs,H,nx⟩ Q):Wp P ro ⟨fn,nt,T,.inReg ops i (⟨some dd,.nilCheck x,ty,pos,af,gd⟩ :: l) :: k,dfs,H,nx⟩ Q:=
 bD hw (.inr (fun _ h=>by cases h)) ((br hx).does) (by rw [aB hd];exact h)
theorem aI{s:TypeId}{x:Operand}{f b o off:Nat}{dd:Nat}(hw:aq T ops ⟨some dd,.fieldAddr s x f,ty,pos,af,gd⟩=some true)(hd:Nat.blt dd nt=true)(hx:ao T x=some (.ptr b o))(hf:iI P s f=some off)
 (h:Wp P ro ⟨fn,nt,T.set dd (.ptr b (o+off)),.inReg ops (i+1) l :: k,dfs,H,nx⟩ Q):Wp P ro ⟨fn,nt,T,.inReg ops i (⟨some dd,.fieldAddr s x f,ty,pos,af,gd⟩ :: l) :: k,dfs,H,nx⟩ Q:=
 bD hw (.inr (fun _ h=>by cases h)) ((be hf hx).does) (by rw [aB hd];exact h)
theorem da{f:Go.Fn}{a b:Array Operand}{x y:List SV}{dd:Nat}(hw:aq T ops ⟨some dd,.makeFunc f a b,ty,pos,af,gd⟩=some true)(hd:Nat.blt dd nt=true)(ha:dX T a.toList=some x)(hb:dX T b.toList=some y)
 (h:Wp P ro ⟨fn,nt,T.set dd (.fn f x y),.inReg ops (i+1) l :: k,dfs,H,nx⟩ Q):Wp P ro ⟨fn,nt,T,.inReg ops i (⟨some dd,.makeFunc f a b,ty,pos,af,gd⟩ :: l) :: k,dfs,H,nx⟩ Q:=
 bD hw (.inr (fun _ h=>by cases h)) ((pB ha hb).does) (by rw [aB hd];exact h)
theorem jd{t:TypeId}{x:Operand}{b o:Nat}{vo:VO}{v:SV}{dd:Nat}(hw:aq T ops ⟨some dd,.load t x,ty,pos,af,gd⟩=some true)(hd:Nat.blt dd nt=true)(hx:ao T x=some (.ptr b o))(ha:bM P t=some none)(hb:H.at' b=some vo)(hv:vo.cell o=some v)
 (h:Wp P ro ⟨fn,nt,T.set dd v,.inReg ops (i+1) l :: k,dfs,H,nx⟩ Q):Wp P ro ⟨fn,nt,T,.inReg ops i (⟨some dd,.load t x,ty,pos,af,gd⟩ :: l) :: k,dfs,H,nx⟩ Q:=
 bD hw (.inr (fun _ h=>by cases h)) ((aU ha hx hb hv).does) (by rw [aB hd];exact h)
theorem aG{t bt:TypeId}{x:Operand}{b o:Nat}{cs:List SV}{v:SV}{dd:Nat}(hw:aq T ops ⟨some dd,.load t x,ty,pos,af,gd⟩=some true)(hd:Nat.blt dd nt=true)(hx:ao T x=some (.ptr b o))(ha:bM P t=some none)(hb:H.at' b=some (ak bt cs))(hv:cs[o]? =some v)
 (h:Wp P ro ⟨fn,nt,T.set dd v,.inReg ops (i+1) l :: k,dfs,H,nx⟩ Q):Wp P ro ⟨fn,nt,T,.inReg ops i (⟨some dd,.load t x,ty,pos,af,gd⟩ :: l) :: k,dfs,H,nx⟩ Q:=
 bD hw (.inr (fun _ h=>by cases h)) ((aU ha hx hb (aX hv)).does) (by rw [aB hd];exact h)
theorem gf{t:TypeId}{x:Operand}{b o n:Nat}{vo:VO}{cs:List SV}{dd:Nat}(hw:aq T ops ⟨some dd,.load t x,ty,pos,af,gd⟩=some true)(hd:Nat.blt dd nt=true)(hx:ao T x=some (.ptr b o))(ha:bM P t=some (some n))(hb:H.at' b=some vo)(hv:vo.cellsFrom o n=some cs)
 (h:Wp P ro ⟨fn,nt,T.set dd (.agg cs),.inReg ops (i+1) l :: k,dfs,H,nx⟩ Q):Wp P ro ⟨fn,nt,T,.inReg ops i (⟨some dd,.load t x,ty,pos,af,gd⟩ :: l) :: k,dfs,H,nx⟩ Q:=
 bD hw (.inr (fun _ h=>by cases h)) ((bY ha hx hb hv).does) (by rw [aB hd];exact h)
theorem qk{t bt:TypeId}{x:Operand}{b n:Nat}{cs:List SV}{dd:Nat}(hw:aq T ops ⟨some dd,.load t x,ty,pos,af,gd⟩=some true)(hd:Nat.blt dd nt=true)(hx:ao T x=some (.ptr b 0))(ha:bM P t=some (some n))(hb:H.at' b=some (ak bt cs))(hn:cs.length=n)
 (h:Wp P ro ⟨fn,nt,T.set dd (.agg cs),.inReg ops (i+1) l :: k,dfs,H,nx⟩ Q):Wp P ro ⟨fn,nt,T,.inReg ops i (⟨some dd,.load t x,ty,pos,af,gd⟩ :: l) :: k,dfs,H,nx⟩ Q:=
 bD hw (.inr (fun _ h=>by cases h)) ((bY ha hx hb (di n 0 (by subst hn;simp) hn)).does) (by rw [aB hd];exact h)
theorem cy{t:TypeId}{cs:List SV}{dd:Nat}(hw:aq T ops ⟨some dd,.alloc t,ty,pos,af,gd⟩=some true)(hd:Nat.blt dd nt=true)(hz:ry P t=some cs)
 (h:Wp P ro ⟨fn,nt,T.set dd (.ptr nx 0),.inReg ops (i+1) l :: k,dfs,(H.set nx (ak t cs)),(nx+1)⟩ Q):Wp P ro ⟨fn,nt,T,.inReg ops i (⟨some dd,.alloc t,ty,pos,af,gd⟩ :: l) :: k,dfs,H,nx⟩ Q:=
 bD hw (.inr (fun _ h=>by cases h)) (vD hz) (by rw [aB hd];exact h)
theorem ma{t:TypeId}{x:Operand}{cs:List SV}{dd:Nat}(hw:aq T ops ⟨some dd,.box t x,ty,pos,af,gd⟩=some true)(hd:Nat.blt dd nt=true)(hx:ao T x=some (.agg cs))
 (h:Wp P ro ⟨fn,nt,T.set dd (.ptr nx 0),.inReg ops (i+1) l :: k,dfs,(H.set nx (ak t cs)),(nx+1)⟩ Q):Wp P ro ⟨fn,nt,T,.inReg ops i (⟨some dd,.box t x,ty,pos,af,gd⟩ :: l) :: k,dfs,H,nx⟩ Q:=
 bD hw (.inr (fun _ h=>by cases h)) (tC hx) (by rw [aB hd];exact h)
theorem jT{t:TypeId}{x:Operand}{v:SV}{dd:Nat}(hw:aq T ops ⟨some dd,.box t x,ty,pos,af,gd⟩=some true)(hd:Nat.blt dd nt=true)(hx:ao T x=some v)(h1:v.cells= [v])
 (h:Wp P ro ⟨fn,nt,T.set dd (.ptr nx 0),.inReg ops (i+1) l :: k,dfs,(H.set nx (ak t [v])),(nx+1)⟩ Q):Wp P ro ⟨fn,nt,T,.inReg ops i (⟨some dd,.box t x,ty,pos,af,gd⟩ :: l) :: k,dfs,H,nx⟩ Q:=
 bD hw (.inr (fun _ h=>by cases h)) (yL hx h1) (by rw [aB hd];exact h)
theorem kG{t bt:TypeId}{a x:Operand}{b o:Nat}{cs:List SV}{v:SV}(hw:aq T ops ⟨none,.store t a x,ty,pos,af,gd⟩=some true)(ha:ao T a=some (.ptr b o))(hx:ao T x=some v)(hs:bv P t=some 1)(hb:H.at' b=some (ak bt cs))(h1:v.one=true)(ho:Nat.blt o cs.length=true)
 (h:Wp P ro ⟨fn,nt,T,.inReg ops (i+1) l :: k,dfs,(H.set b (ak bt (cs.set o v))),nx⟩ Q):Wp P ro ⟨fn,nt,T,.inReg ops i (⟨none,.store t a x,ty,pos,af,gd⟩ :: l) :: k,dfs,H,nx⟩ Q:=
 ny hw (.inr (fun _ h=>by cases h)) (nU hs ha hx hb h1 (zi ho)) h
theorem eP{t bt:TypeId}{a x:Operand}{b o n:Nat}{cs vs cs':List SV}(hw:aq T ops ⟨none,.store t a x,ty,pos,af,gd⟩=some true)(ha:ao T a=some (.ptr b o))(hx:ao T x=some (.agg vs))(hs:bv P t=some n)(hb:H.at' b=some (ak bt cs))(hn:vs.length=n)(ho:o+n≤cs.length)(h1:c8 vs=true)(hc:cs.take o ++ vs ++ cs.drop (o+n)=cs')
 (h:Wp P ro ⟨fn,nt,T,.inReg ops (i+1) l :: k,dfs,(H.set b (ak bt cs')),nx⟩ Q):Wp P ro ⟨fn,nt,T,.inReg ops i (⟨none,.store t a x,ty,pos,af,gd⟩ :: l) :: k,dfs,H,nx⟩ Q:=
 ny hw (.inr (fun _ h=>by cases h)) (hc ▸ iy hs ha hx rfl hb hn ho h1) h
theorem bi{t yt:TypeId}{x y:Operand}{a b:Int}{dd:Nat}(hw:aq T ops ⟨some dd,.binOp .add t x y yt,ty,pos,af,gd⟩=some true)(hd:Nat.blt dd nt=true)(hx:ao T x=some (.sc (.int .i64 a)))(hy:ao T y=some (.sc (.int .i64 b)))(h1 : -9223372036854775808≤a+b)(h2:a+b≤9223372036854775807)
 (h:Wp P ro ⟨fn,nt,T.set dd (.sc (.int .i64 (a+b))),.inReg ops (i+1) l :: k,dfs,H,nx⟩ Q):Wp P ro ⟨fn,nt,T,.inReg ops i (⟨some dd,.binOp .add t x y yt,ty,pos,af,gd⟩ :: l) :: k,dfs,H,nx⟩ Q:=
 bD hw (.inr (fun _ h=>by cases h)) ((aK hx hy (.inl ⟨rfl,(zd _ ⟨h1,h2⟩).symm⟩)).does) (by rw [aB hd];exact h)
theorem wx{t yt:TypeId}{x y:Operand}{kd:IntKind}{a b:Int}{dd:Nat}(hw:aq T ops ⟨some dd,.binOp .sub t x y yt,ty,pos,af,gd⟩=some true)(hd:Nat.blt dd nt=true)(hx:ao T x=some (.sc (.int kd a)))(hy:ao T y=some (.sc (.int kd b)))
 (h:Wp P ro ⟨fn,nt,T.set dd (.sc (.int kd (kd.wrap (a-b)))),.inReg ops (i+1) l :: k,dfs,H,nx⟩ Q):Wp P ro ⟨fn,nt,T,.inReg ops i (⟨some dd,.binOp .sub t x y yt,ty,pos,af,gd⟩ :: l) :: k,dfs,H,nx⟩ Q:=
 bD hw (.inr (fun _ h=>by cases h)) ((aK hx hy (.inr (.inl ⟨rfl,rfl⟩))).does) (by rw [aB hd];exact h)
theorem bN{t yt:TypeId}{x y:Operand}{a b:Int}{dd:Nat}(hw:aq T ops ⟨some dd,.binOp .sub t x y yt,ty,pos,af,gd⟩=some true)(hd:Nat.blt dd nt=true)(hx:ao T x=some (.sc (.int .i64 a)))(hy:ao T y=some (.sc (.int .i64 b)))(h1 : -9223372036854775808≤a-b)(h2:a-b≤9223372036854775807)
 (h:Wp P ro ⟨fn,nt,T.set dd (.sc (.int .i64 (a-b))),.inReg ops (i+1) l :: k,dfs,H,nx⟩ Q):Wp P ro ⟨fn,nt,T,.inReg ops i (⟨some dd,.binOp .sub t x y yt,ty,pos,af,gd⟩ :: l) :: k,dfs,H,nx⟩ Q:=
 bD hw (.inr (fun _ h=>by cases h)) ((aK hx hy (.inr (.inl ⟨rfl,(zd _ ⟨h1,h2⟩).symm⟩))).does) (by rw [aB hd];exact h)
theorem nC{t yt:TypeId}{x y:Operand}{a b:Int}{dd:Nat}(hw:aq T ops ⟨some dd,.binOp .mul t x y yt,ty,pos,af,gd⟩=some true)(hd:Nat.blt dd nt=true)(hx:ao T x=some (.sc (.int .i64 a)))(hy:ao T y=some (.sc (.int .i64 b)))(h1 : -9223372036854775808≤a*b)(h2:a*b≤9223372036854775807)
 (h:Wp P ro ⟨fn,nt,T.set dd (.sc (.int .i64 (a*b))),.inReg ops (i+1) l :: k,dfs,H,nx⟩ Q):Wp P ro ⟨fn,nt,T,.inReg ops i (⟨some dd,.binOp .mul t x y yt,ty,pos,af,gd⟩ :: l) :: k,dfs,H,nx⟩ Q:=
 bD hw (.inr (fun _ h=>by cases h)) ((aK hx hy (.inr (.inr ⟨rfl,(zd _ ⟨h1,h2⟩).symm⟩))).does) (by rw [aB hd];exact h)
theorem nE{t yt:TypeId}{x y:Operand}{kd:IntKind}{a b:Int}{dd:Nat}(hw:aq T ops ⟨some dd,.binOp .eql t x y yt,ty,pos,af,gd⟩=some true)(hd:Nat.blt dd nt=true)(hx:ao T x=some (.sc (.int kd a)))(hy:ao T y=some (.sc (.int kd b)))
 (h:Wp P ro ⟨fn,nt,T.set dd (.sc (.bool (a == b))),.inReg ops (i+1) l :: k,dfs,H,nx⟩ Q):Wp P ro ⟨fn,nt,T,.inReg ops i (⟨some dd,.binOp .eql t x y yt,ty,pos,af,gd⟩ :: l) :: k,dfs,H,nx⟩ Q:=
 bD hw (.inr (fun _ h=>by cases h)) ((fO hx hy (.inl ⟨rfl,rfl⟩)).does) (by rw [aB hd];exact h)
theorem ym{t yt:TypeId}{x y:Operand}{kd:IntKind}{a b:Int}{dd:Nat}(hw:aq T ops ⟨some dd,.binOp .neq t x y yt,ty,pos,af,gd⟩=some true)(hd:Nat.blt dd nt=true)(hx:ao T x=some (.sc (.int kd a)))(hy:ao T y=some (.sc (.int kd b)))
 (h:Wp P ro ⟨fn,nt,T.set dd (.sc (.bool (a != b))),.inReg ops (i+1) l :: k,dfs,H,nx⟩ Q):Wp P ro ⟨fn,nt,T,.inReg ops i (⟨some dd,.binOp .neq t x y yt,ty,pos,af,gd⟩ :: l) :: k,dfs,H,nx⟩ Q:=
 bD hw (.inr (fun _ h=>by cases h)) ((fO hx hy (.inr (.inl ⟨rfl,rfl⟩))).does) (by rw [aB hd];exact h)
theorem w8{t yt:TypeId}{x y:Operand}{kd:IntKind}{a b:Int}{dd:Nat}(hw:aq T ops ⟨some dd,.binOp .lss t x y yt,ty,pos,af,gd⟩=some true)(hd:Nat.blt dd nt=true)(hx:ao T x=some (.sc (.int kd a)))(hy:ao T y=some (.sc (.int kd b)))
 (h:Wp P ro ⟨fn,nt,T.set dd (.sc (.bool (decide (a<b)))),.inReg ops (i+1) l :: k,dfs,H,nx⟩ Q):Wp P ro ⟨fn,nt,T,.inReg ops i (⟨some dd,.binOp .lss t x y yt,ty,pos,af,gd⟩ :: l) :: k,dfs,H,nx⟩ Q:=
 bD hw (.inr (fun _ h=>by cases h)) ((fO hx hy (.inr (.inr (.inl ⟨rfl,rfl⟩)))).does) (by rw [aB hd];exact h)
theorem yp{t yt:TypeId}{x y:Operand}{kd:IntKind}{a b:Int}{dd:Nat}(hw:aq T ops ⟨some dd,.binOp .leq t x y yt,ty,pos,af,gd⟩=some true)(hd:Nat.blt dd nt=true)(hx:ao T x=some (.sc (.int kd a)))(hy:ao T y=some (.sc (.int kd b)))
 (h:Wp P ro ⟨fn,nt,T.set dd (.sc (.bool (decide (a≤b)))),.inReg ops (i+1) l :: k,dfs,H,nx⟩ Q):Wp P ro ⟨fn,nt,T,.inReg ops i (⟨some dd,.binOp .leq t x y yt,ty,pos,af,gd⟩ :: l) :: k,dfs,H,nx⟩ Q:=
 bD hw (.inr (fun _ h=>by cases h)) ((fO hx hy (.inr (.inr (.inr (.inl ⟨rfl,rfl⟩))))).does) (by rw [aB hd];exact h)
theorem yr{t yt:TypeId}{x y:Operand}{kd:IntKind}{a b:Int}{dd:Nat}(hw:aq T ops ⟨some dd,.binOp .gtr t x y yt,ty,pos,af,gd⟩=some true)(hd:Nat.blt dd nt=true)(hx:ao T x=some (.sc (.int kd a)))(hy:ao T y=some (.sc (.int kd b)))
 (h:Wp P ro ⟨fn,nt,T.set dd (.sc (.bool (decide (a>b)))),.inReg ops (i+1) l :: k,dfs,H,nx⟩ Q):Wp P ro ⟨fn,nt,T,.inReg ops i (⟨some dd,.binOp .gtr t x y yt,ty,pos,af,gd⟩ :: l) :: k,dfs,H,nx⟩ Q:=
 bD hw (.inr (fun _ h=>by cases h)) ((fO hx hy (.inr (.inr (.inr (.inr (.inl ⟨rfl,rfl⟩)))))).does) (by rw [aB hd];exact h)
theorem sE{t yt:TypeId}{x y:Operand}{kd:IntKind}{a b:Int}{dd:Nat}(hw:aq T ops ⟨some dd,.binOp .geq t x y yt,ty,pos,af,gd⟩=some true)(hd:Nat.blt dd nt=true)(hx:ao T x=some (.sc (.int kd a)))(hy:ao T y=some (.sc (.int kd b)))
 (h:Wp P ro ⟨fn,nt,T.set dd (.sc (.bool (decide (a≥b)))),.inReg ops (i+1) l :: k,dfs,H,nx⟩ Q):Wp P ro ⟨fn,nt,T,.inReg ops i (⟨some dd,.binOp .geq t x y yt,ty,pos,af,gd⟩ :: l) :: k,dfs,H,nx⟩ Q:=
 bD hw (.inr (fun _ h=>by cases h)) ((fO hx hy (.inr (.inr (.inr (.inr (.inr (⟨rfl,rfl⟩))))))).does) (by rw [aB hd];exact h)
theorem cO{t yt:TypeId}{x y:Operand}{kd:IntKind}{a b:Int}{dd:Nat}(hw:aq T ops ⟨some dd,.binOp .eql t x y yt,ty,pos,af,gd⟩=some true)(hd:Nat.blt dd nt=true)(hx:ao T x=some (.sc (.int kd a)))(hy:ao T y=some (.sc (.int kd b)))
 (h1:a=b→Wp P ro ⟨fn,nt,T.set dd (.sc (.bool true)),.inReg ops (i+1) l :: k,dfs,H,nx⟩ Q) (h2:a≠b→Wp P ro ⟨fn,nt,T.set dd (.sc (.bool false)),.inReg ops (i+1) l :: k,dfs,H,nx⟩ Q) :
 Wp P ro ⟨fn,nt,T,.inReg ops i (⟨some dd,.binOp .eql t x y yt,ty,pos,af,gd⟩ :: l) :: k,dfs,H,nx⟩ Q:=by
 refine nE hw hd hx hy ?_
 by_cases hc:a=b
 ·have e:(a == b)=true:=by simp;omega
  rw [e];exact h1 hc
 ·have e:(a == b)=false:=by simp;omega
  rw [e];exact h2 (by omega)
theorem fe{t yt:TypeId}{x y:Operand}{kd:IntKind}{a b:Int}{dd:Nat}(hw:aq T ops ⟨some dd,.binOp .neq t x y yt,ty,pos,af,gd⟩=some true)(hd:Nat.blt dd nt=true)(hx:ao T x=some (.sc (.int kd a)))(hy:ao T y=some (.sc (.int kd b)))
 (h1:a≠b→Wp P ro ⟨fn,nt,T.set dd (.sc (.bool true)),.inReg ops (i+1) l :: k,dfs,H,nx⟩ Q) (h2:a=b→Wp P ro ⟨fn,nt,T.set dd (.sc (.bool false)),.inReg ops (i+1) l :: k,dfs,H,nx⟩ Q) :
 Wp P ro ⟨fn,nt,T,.inReg ops i (⟨some dd,.binOp .neq t x y yt,ty,pos,af,gd⟩ :: l) :: k,dfs,H,nx⟩ Q:=by
 refine ym hw hd hx hy ?_
 by_cases hc:a≠b
 ·have e:(a != b)=true:=by simp;omega
  rw [e];exact h1 hc
 ·have e:(a != b)=false:=by simp;omega
  rw [e];exact h2 (by omega)
theorem cN{t yt:TypeId}{x y:Operand}{kd:IntKind}{a b:Int}{dd:Nat}(hw:aq T ops ⟨some dd,.binOp .lss t x y yt,ty,pos,af,gd⟩=some true)(hd:Nat.blt dd nt=true)(hx:ao T x=some (.sc (.int kd a)))(hy:ao T y=some (.sc (.int kd b)))
 (h1:a<b→Wp P ro ⟨fn,nt,T.set dd (.sc (.bool true)),.inReg ops (i+1) l :: k,dfs,H,nx⟩ Q) (h2:b≤a→Wp P ro ⟨fn,nt,T.set dd (.sc (.bool false)),.inReg ops (i+1) l :: k,dfs,H,nx⟩ Q) :
 Wp P ro ⟨fn,nt,T,.inReg ops i (⟨some dd,.binOp .lss t x y yt,ty,pos,af,gd⟩ :: l) :: k,dfs,H,nx⟩ Q:=by
 refine w8 hw hd hx hy ?_
 by_cases hc:a<b
 ·have e:(decide (a<b))=true:=by simp;omega
  rw [e];exact h1 hc
 ·have e:(decide (a<b))=false:=by simp;omega
  rw [e];exact h2 (by omega)
theorem nD{t yt:TypeId}{x y:Operand}{kd:IntKind}{a b:Int}{dd:Nat}(hw:aq T ops ⟨some dd,.binOp .leq t x y yt,ty,pos,af,gd⟩=some true)(hd:Nat.blt dd nt=true)(hx:ao T x=some (.sc (.int kd a)))(hy:ao T y=some (.sc (.int kd b)))
 (h1:a≤b→Wp P ro ⟨fn,nt,T.set dd (.sc (.bool true)),.inReg ops (i+1) l :: k,dfs,H,nx⟩ Q) (h2:b<a→Wp P ro ⟨fn,nt,T.set dd (.sc (.bool false)),.inReg ops (i+1) l :: k,dfs,H,nx⟩ Q) :
 Wp P ro ⟨fn,nt,T,.inReg ops i (⟨some dd,.binOp .leq t x y yt,ty,pos,af,gd⟩ :: l) :: k,dfs,H,nx⟩ Q:=by
 refine yp hw hd hx hy ?_
 by_cases hc:a≤b
 ·have e:(decide (a≤b))=true:=by simp;omega
  rw [e];exact h1 hc
 ·have e:(decide (a≤b))=false:=by simp;omega
  rw [e];exact h2 (by omega)
theorem dS{t yt:TypeId}{x y:Operand}{kd:IntKind}{a b:Int}{dd:Nat}(hw:aq T ops ⟨some dd,.binOp .gtr t x y yt,ty,pos,af,gd⟩=some true)(hd:Nat.blt dd nt=true)(hx:ao T x=some (.sc (.int kd a)))(hy:ao T y=some (.sc (.int kd b)))
 (h1:b<a→Wp P ro ⟨fn,nt,T.set dd (.sc (.bool true)),.inReg ops (i+1) l :: k,dfs,H,nx⟩ Q) (h2:a≤b→Wp P ro ⟨fn,nt,T.set dd (.sc (.bool false)),.inReg ops (i+1) l :: k,dfs,H,nx⟩ Q) :
 Wp P ro ⟨fn,nt,T,.inReg ops i (⟨some dd,.binOp .gtr t x y yt,ty,pos,af,gd⟩ :: l) :: k,dfs,H,nx⟩ Q:=by
 refine yr hw hd hx hy ?_
 by_cases hc:b<a
 ·have e:(decide (a>b))=true:=by simp;omega
  rw [e];exact h1 hc
 ·have e:(decide (a>b))=false:=by simp;omega
  rw [e];exact h2 (by omega)
theorem cx{t yt:TypeId}{x y:Operand}{kd:IntKind}{a b:Int}{dd:Nat}(hw:aq T ops ⟨some dd,.binOp .geq t x y yt,ty,pos,af,gd⟩=some true)(hd:Nat.blt dd nt=true)(hx:ao T x=some (.sc (.int kd a)))(hy:ao T y=some (.sc (.int kd b)))
 (h1:b≤a→Wp P ro ⟨fn,nt,T.set dd (.sc (.bool true)),.inReg ops (i+1) l :: k,dfs,H,nx⟩ Q) (h2:a<b→Wp P ro ⟨fn,nt,T.set dd (.sc (.bool false)),.inReg ops (i+1) l :: k,dfs,H,nx⟩ Q) :
 Wp P ro ⟨fn,nt,T,.inReg ops i (⟨some dd,.binOp .geq t x y yt,ty,pos,af,gd⟩ :: l) :: k,dfs,H,nx⟩ Q:=by
 refine sE hw hd hx hy ?_
 by_cases hc:b≤a
 ·have e:(decide (a≥b))=true:=by simp;omega
  rw [e];exact h1 hc
 ·have e:(decide (a≥b))=false:=by simp;omega
  rw [e];exact h2 (by omega)
theorem wy{t yt:TypeId}{x y:Operand}{kd:IntKind}{a b c:Int}{dd:Nat}(hw:aq T ops ⟨some dd,.binOp .quo t x y yt,ty,pos,af,gd⟩=some true)(hd:Nat.blt dd nt=true)(hx:ao T x=some (.sc (.int kd a)))(hy:ao T y=some (.sc (.int kd b)))(h0:b≠0)(hc:kd.wrap (a.tdiv b)=c)
 (h:Wp P ro ⟨fn,nt,T.set dd (.sc (.int kd c)),.inReg ops (i+1) l :: k,dfs,H,nx⟩ Q):Wp P ro ⟨fn,nt,T,.inReg ops i (⟨some dd,.binOp .quo t x y yt,ty,pos,af,gd⟩ :: l) :: k,dfs,H,nx⟩ Q:=
 bD hw (.inr (fun _ h=>by cases h)) ((wI hx hy h0 hc).does) (by rw [aB hd];exact h)
theorem nB{t yt:TypeId}{x y:Operand}{a b:Int}{dd:Nat}(hw:aq T ops ⟨some dd,.binOp .quo t x y yt,ty,pos,af,gd⟩=some true)(hd:Nat.blt dd nt=true)(hx:ao T x=some (.sc (.int .i64 a)))(hy:ao T y=some (.sc (.int .i64 b)))(h1:0≤a)(h2:a≤9223372036854775807)(h3:0<b)
 (h:Wp P ro ⟨fn,nt,T.set dd (.sc (.int .i64 (a / b))),.inReg ops (i+1) l :: k,dfs,H,nx⟩ Q):Wp P ro ⟨fn,nt,T,.inReg ops i (⟨some dd,.binOp .quo t x y yt,ty,pos,af,gd⟩ :: l) :: k,dfs,H,nx⟩ Q:=
 bD hw (.inr (fun _ h=>by cases h)) ((wI hx hy (by omega) (sq h1 h2 h3)).does) (by rw [aB hd];exact h)
theorem wA{op:BinOp}{t yt:TypeId}{x y:Operand}{kd:IntKind}{a b c:Int}{dd:Nat}(hw:aq T ops ⟨some dd,.binOp op t x y yt,ty,pos,af,gd⟩=some true)(hd:Nat.blt dd nt=true)(hx:ao T x=some (.sc (.int kd a)))(hy:ao T y=some (.sc (.int kd b)))(ho:op = .and∨op = .or∨op = .xor∨op = .andNot)(hc:r8 op kd a b=c)
 (h:Wp P ro ⟨fn,nt,T.set dd (.sc (.int kd c)),.inReg ops (i+1) l :: k,dfs,H,nx⟩ Q):Wp P ro ⟨fn,nt,T,.inReg ops i (⟨some dd,.binOp op t x y yt,ty,pos,af,gd⟩ :: l) :: k,dfs,H,nx⟩ Q:=
 bD hw (.inr (fun _ h=>by cases h)) ((ti hx hy ho hc).does) (by rw [aB hd];exact h)
theorem yl{t yt:TypeId}{x y:Operand}{kd kd2:IntKind}{a b c:Int}{dd:Nat}(hw:aq T ops ⟨some dd,.binOp .shl t x y yt,ty,pos,af,gd⟩=some true)(hd:Nat.blt dd nt=true)(hx:ao T x=some (.sc (.int kd a)))(hy:ao T y=some (.sc (.int kd2 b)))(h0:0≤b)(hc:kd.wrap (a*2 ^ (min b.toNat kd.bits))=c)
 (h:Wp P ro ⟨fn,nt,T.set dd (.sc (.int kd c)),.inReg ops (i+1) l :: k,dfs,H,nx⟩ Q):Wp P ro ⟨fn,nt,T,.inReg ops i (⟨some dd,.binOp .shl t x y yt,ty,pos,af,gd⟩ :: l) :: k,dfs,H,nx⟩ Q:=
 bD hw (.inr (fun _ h=>by cases h)) ((wH hx hy h0 hc).does) (by rw [aB hd];exact h)
theorem yk{t yt:TypeId}{x y:Operand}{kd kd2:IntKind}{a b c:Int}{dd:Nat}(hw:aq T ops ⟨some dd,.binOp .shr t x y yt,ty,pos,af,gd⟩=some true)(hd:Nat.blt dd nt=true)(hx:ao T x=some (.sc (.int kd a)))(hy:ao T y=some (.sc (.int kd2 b)))(h0:0≤b)(hc:a.fdiv (2 ^ (min b.toNat kd.bits))=c)
 (h:Wp P ro ⟨fn,nt,T.set dd (.sc (.int kd c)),.inReg ops (i+1) l :: k,dfs,H,nx⟩ Q):Wp P ro ⟨fn,nt,T,.inReg ops i (⟨some dd,.binOp .shr t x y yt,ty,pos,af,gd⟩ :: l) :: k,dfs,H,nx⟩ Q:=
 bD hw (.inr (fun _ h=>by cases h)) ((wG hx hy h0 hc).does) (by rw [aB hd];exact h)
theorem gP{s t:TypeId}{su:TypeDesc}{x:Operand}{kd kd2:IntKind}{a c:Int}{dd:Nat}(hw:aq T ops ⟨some dd,.convert s t x,ty,pos,af,gd⟩=some true)(hd:Nat.blt dd nt=true)(hx:ao T x=some (.sc (.int kd2 a)))(hs:P.underlying s=some su)(hu:P.underlying t=some (.int kd))(hc:kd.wrap a=c)
 (h:Wp P ro ⟨fn,nt,T.set dd (.sc (.int kd c)),.inReg ops (i+1) l :: k,dfs,H,nx⟩ Q):Wp P ro ⟨fn,nt,T,.inReg ops i (⟨some dd,.convert s t x,ty,pos,af,gd⟩ :: l) :: k,dfs,H,nx⟩ Q:=
 bD hw (.inr (fun _ h=>by cases h)) ((xw hs hu hx hc).does) (by rw [aB hd];exact h)
theorem sG{t:TypeId}{parts:List (Nat×Operand)}{ps:List (Nat×SV)}{pl:List (Nat×Nat)}{z:Value}{cs:List SV}{dd:Nat}(hw:aq T ops ⟨some dd,.build t parts.toArray,ty,pos,af,gd⟩=some true)(hd:Nat.blt dd nt=true)(hx:jJ T parts=some ps)(hz:cH P t=some z)(hl:x8 P t=some pl)(hf:fT (fun i=>pl[i]?) (z.cells.toList.map .sc) ps=some cs)
 (h:Wp P ro ⟨fn,nt,T.set dd (.agg cs),.inReg ops (i+1) l :: k,dfs,H,nx⟩ Q):Wp P ro ⟨fn,nt,T,.inReg ops i (⟨some dd,.build t parts.toArray,ty,pos,af,gd⟩ :: l) :: k,dfs,H,nx⟩ Q:=
 bD hw (.inr (fun _ h=>by cases h)) ((gk hx hz hl hf).does) (by rw [aB hd];exact h)
theorem cG{t:TypeId}{x:Operand}{b:Bool}{dd:Nat}(hw:aq T ops ⟨some dd,.unOp .not t x,ty,pos,af,gd⟩=some true)(hd:Nat.blt dd nt=true)(hx:ao T x=some (.sc (.bool b)))
 (h:Wp P ro ⟨fn,nt,T.set dd (.sc (.bool (!b))),.inReg ops (i+1) l :: k,dfs,H,nx⟩ Q):Wp P ro ⟨fn,nt,T,.inReg ops i (⟨some dd,.unOp .not t x,ty,pos,af,gd⟩ :: l) :: k,dfs,H,nx⟩ Q:=
 bD hw (.inr (fun _ h=>by cases h)) ((bE hx).does) (by rw [aB hd];exact h)
theorem dj{t e:TypeId}{x:Operand}{b eo n:Nat}{dd:Nat}(hw:aq T ops ⟨some dd,.call {callee:= .builtin .len,args:= #[x],argTypes:= #[t]},ty,pos,af,gd⟩=some true)(hd:Nat.blt dd nt=true)(hx:ao T x=some (.slu b eo n))(hu:P.underlying t=some (.slice e))
 (h:Wp P ro ⟨fn,nt,T.set dd (.sc (.int .i64 n)),.inReg ops (i+1) l :: k,dfs,H,nx⟩ Q):Wp P ro ⟨fn,nt,T,.inReg ops i (⟨some dd,.call {callee:= .builtin .len,args:= #[x],argTypes:= #[t]},ty,pos,af,gd⟩ :: l) :: k,dfs,H,nx⟩ Q:=
 bD hw (.inr (fun _ h=>by cases h)) ((ju hu hx).does) (by rw [aB hd];exact h)
theorem ql{t:TypeId}{x:Operand}{s:ByteArray}{dd:Nat}(hw:aq T ops ⟨some dd,.call {callee:= .builtin .len,args:= #[x],argTypes:= #[t]},ty,pos,af,gd⟩=some true)(hd:Nat.blt dd nt=true)(hx:ao T x=some (.sc (.string s)))(hu:P.underlying t=some .string)
 (h:Wp P ro ⟨fn,nt,T.set dd (.sc (.int .i64 s.size)),.inReg ops (i+1) l :: k,dfs,H,nx⟩ Q):Wp P ro ⟨fn,nt,T,.inReg ops i (⟨some dd,.call {callee:= .builtin .len,args:= #[x],argTypes:= #[t]},ty,pos,af,gd⟩ :: l) :: k,dfs,H,nx⟩ Q:=
 bD hw (.inr (fun _ h=>by cases h)) ((nP hu hx).does) (by rw [aB hd];exact h)
theorem aL{g:FuncId}{as1:List Operand}{ats:Array TypeId}{args:List SV}{dd:Nat}(hw:aq T ops ⟨some dd,.call {callee:= .value (.func g),args:=as1.toArray,argTypes:=ats},ty,pos,af,gd⟩=some true)(hd:Nat.blt dd nt=true)(ha:dX T as1=some args)(hm:ce P g=true)
 (h:Fnc P g args H nx (fun r=>Wp P ro ⟨fn,nt,T.set dd r.1,.inReg ops (i+1) l :: k,dfs,r.2.1,r.2.2⟩ Q)) :
 Wp P ro ⟨fn,nt,T,.inReg ops i (⟨some dd,.call {callee:= .value (.func g),args:=as1.toArray,argTypes:=ats},ty,pos,af,gd⟩ :: l) :: k,dfs,H,nx⟩ Q:=by
 refine ww hw (args:=args) ?_ (by simp only [aB hd];exact h)
 simp only [cj,ha,ao,dv,hm,cond_true,List.map_nil,List.nil_append,List.append_nil]
theorem pq{x:Operand}{g:FuncId}{fa fb:List SV}{as1:List Operand}{ats:Array TypeId}{args:List SV}{dd:Nat}(hw:aq T ops ⟨some dd,.call {callee:= .value x,args:=as1.toArray,argTypes:=ats},ty,pos,af,gd⟩=some true)(hd:Nat.blt dd nt=true)(hx:ao T x=some (.fn (.func g) fa fb))(ha:dX T as1=some args)(hm:ce P g=true)
 (h:Fnc P g (fa ++ args ++ fb) H nx (fun r=>Wp P ro ⟨fn,nt,T.set dd r.1,.inReg ops (i+1) l :: k,dfs,r.2.1,r.2.2⟩ Q)) :
 Wp P ro ⟨fn,nt,T,.inReg ops i (⟨some dd,.call {callee:= .value x,args:=as1.toArray,argTypes:=ats},ty,pos,af,gd⟩ :: l) :: k,dfs,H,nx⟩ Q:=by
 refine ww hw (args:=fa ++ args ++ fb) ?_ (by simp only [aB hd];exact h)
 simp only [cj,ha,hx,dv,hm,cond_true]
end
section
variable {P:Program}
def qF:List Nat→Bool
 | []=>true
 | x :: l=> !(l.any (Nat.beq x)) && qF l
def extB(L:List Nat)(nx:Nat):Bool:=L.all (fun n=>Nat.blt n nx) && qF L
theorem oD: ∀ {l:List Nat},qF l=true→l.Nodup
 | [],_=>List.nodup_nil
 | x :: l,h=>by
   simp only [qF,zx,Bool.not_eq_true'] at h
   refine List.nodup_cons.2 ⟨fun hm=>?_,oD h.2⟩
   have:l.any (Nat.beq x)=true:=List.any_eq_true.2 ⟨x,hm,Nat.beq_refl x⟩
   rw [this] at h
   cases h.1
theorem ExtOk.of{L:List Nat}{nx:Nat}(h:extB L nx=true):ExtOk L nx:=by
 simp only [extB,zx] at h
 exact⟨fun n hn=>zi (List.all_eq_true.1 h.1 n hn),oD h.2⟩
theorem Ends.mk{k0:Nat}{c:Cz}{v:SV}{H:aJ}{nx:Nat}(σ:List Nat)(h1:ExtOk (nms k0 σ) nx)(h2:k0+σ.length=c.objs.length)(h3:v=c.v.ren (ext (nms k0 σ) nx))(h4:HasO (ext (nms k0 σ) nx) H 0 c.objs):Ends k0 c (v,H,nx):=⟨σ,h1,h2,h3,h4⟩
theorem Ends.val{k0:Nat}{u u':Value}{objs:List (Option VO)}{H:aJ}{nx:Nat}(h1:ExtOk (nms k0 []) nx)(h2:k0=objs.length)(h3:u=u')(h4:HasO (ext (nms k0 []) nx) H 0 objs):Ends k0 ⟨.sc u',objs⟩ (.sc u,H,nx):=⟨[],h1,by simpa using h2,by rw [h3];rfl,h4⟩
theorem HasO.mono{ρ:Nat→Nat}{H H':aJ}: ∀ {l:List (Option VO)} {i:Nat},HasO ρ H i l→(∀ n vo,H.at' n=some vo→H'.at' n=some vo)→HasO ρ H' i l
 | [],_,_,_=>trivial
 | none :: l,i,h,hH=>HasO.mono (l:=l) (i:=i+1) h hH
 | some v :: l,i,h,hH=>⟨hH _ _ h.1,HasO.mono (l:=l) (i:=i+1) h.2 hH⟩
theorem qh{ρ:Nat→Nat}: ∀ {l:List VO} {i:Nat} {H:aJ},HasO ρ H i (l.map some)→wrO ρ H i ((l.map some).map (Option.map (VO.ren ρ)))=H
 | [],_,_,_=>rfl
 | v :: l,i,H,h=>by
   have e:H.set (ρ i) (v.ren ρ)=H:=by
    funext n
    simp only [Tr.set]
    cases hb:Nat.beq n (ρ i)with
    | false=>rfl
    | true=>have:=Nat.eq_of_beq_eq_true hb;subst this;exact h.1.symm
   simp only [zB,zF,wrO,e]
   exact qh (l:=l) (i:=i+1) h.2
theorem Ctr.callV{f:FuncId}{args0 args:List SV}{pre:List VO}{u:Value}(h:Ctr P f args0 pre (fun c=>c=⟨.sc u,pre.map some⟩))(L:List Nat){H:aJ}{nx:Nat}{Q:Pst}(hlen:L.length=pre.length)(hL:ExtOk L nx)(ha:args=args0.map (SV.ren (ext L nx)))
 (hp:HasO (ext L nx) H 0 (pre.map some)) (hQ:Q (.sc u,H,nx)):Fnc P f args H nx Q:=by
 refine h.call L hlen hL ha hp ?_
 rintro c rfl _
 rw [qh hp]
 simpa [SV.ren] using hQ
theorem Ctr.callM{f:FuncId}{args0 args:List SV}{pre:List VO}{c:Cz}(h:Ctr P f args0 pre (fun c'=>c'=c))(L:List Nat){H H':aJ}{nx nx':Nat}{v:SV}{Q:Pst}(hlen:L.length=pre.length)(hL:ExtOk L nx)(ha:args=args0.map (SV.ren (ext L nx)))
 (hp:HasO (ext L nx) H 0 (pre.map some)) (hv:c.v.ren (ext L nx)=v) (ho:wrO (ext L nx) H 0 (c.objs.map (Option.map (VO.ren (ext L nx))))=H') (hn:nx+(c.objs.length-pre.length)=nx') (hQ:Q (v,H',nx')):Fnc P f args H nx Q:=by
 refine h.call L hlen hL ha hp ?_
 rintro c' rfl _
 rw [hv,ho,hn]
 exact hQ
section
variable {ro:Option Nat} {fn nt nx:Nat} {T:Tr SV} {k:List AIt} {dfs:List ADf} {H:aJ} {Q:Pst} {ops:Array Oper} {i:Nat} {l:List Oper} {ty:TypeId} {pos:String} {af:Array Edge} {gd:Option (Nat×Bool)}
theorem gQ{g:FuncId}{as1:List Operand}{ats:Array TypeId}{args args0:List SV}{pre:List VO}{u:Value}{dd:Nat}(hc:Ctr P g args0 pre (fun c=>c=⟨.sc u,pre.map some⟩))(L:List Nat)
 (hw:aq T ops ⟨some dd,.call {callee:= .value (.func g),args:=as1.toArray,argTypes:=ats},ty,pos,af,gd⟩=some true) (hd:Nat.blt dd nt=true) (ha:dX T as1=some args) (hm:ce P g=true)
 (hlen:L.length=pre.length) (hL:ExtOk L nx) (hA:args=args0.map (SV.ren (ext L nx))) (hp:HasO (ext L nx) H 0 (pre.map some))
 (h:Wp P ro ⟨fn,nt,T.set dd (.sc u),.inReg ops (i+1) l :: k,dfs,H,nx⟩ Q) :
 Wp P ro ⟨fn,nt,T,.inReg ops i (⟨some dd,.call {callee:= .value (.func g),args:=as1.toArray,argTypes:=ats},ty,pos,af,gd⟩ :: l) :: k,dfs,H,nx⟩ Q:=
 aL hw hd ha hm (hc.callV L hlen hL hA hp h)
end
theorem cu{k:IntKind}{a b:Int}(h:a=b):some (SV.sc (.int k a))=some (SV.sc (.int k b)):=by rw [h]
theorem cc{H:aJ}{ρ:Nat→Nat}{n:Nat}{t:TypeId}{l:List SV}(h:H.at' n=some (ak t (SV.ip ρ l))):H.at' n=some ((ak t l).ren ρ):=by rw [s7];exact h
theorem an{H:aJ}{ρ:Nat→Nat}{n:Nat}{ro:Bool}{ne sz:Nat}{t:TypeId}{vs:List Value}(h:H.at' n=some (dat ro ne sz t vs)):H.at' n=some ((dat ro ne sz t vs).ren ρ):=by rw [mB];exact h
end
theorem iL(ro:Bool)(ne sz:Nat)(t:TypeId)(vs:List Value):VO.row ro ne sz t (eL (vs.map .sc))=dat ro ne sz t vs:=by
 unfold dat eL
 congr 1
 funext i
 rw [List.getElem?_map]
section
variable {P:Program} {K:Zone} {w0 w:World} {e:Env} {H:aJ} {nx:Nat} {T:Tr SV} {ev:Operand→Value} {d:Option Tmp} {ty:TypeId} {pos:String} {af:Array Edge} {gd:Option (Nat×Bool)}
theorem tJ{el:TypeId}{sz n cap:Nat}{l:List SV}{vs:List Value}{s:Sem Value}(hS:St K w0 e H nx w)(hl:SV.aM e l=some vs)(hlen:vs.length=cap*sz)(hn:n≤cap)(hcap:cap≤maxLen)(h0:0<sz)
 (hrun:s.run P w = .ok (.slice (some ⟨w.heap.size,0,none⟩) n cap) {w with heap:=w.heap.push (.cells vs.toArray el)}):iS P K w0 e (.val (.slu nx 0 n),H.set nx (.row false n sz el (eL l)),nx+1) s w:=by
 have hf:=hS.fresh nx (zy _)
 have hle:=Env.ch (x:=⟨w.heap.size,0,cap,sz,false⟩) hf
 refine⟨e.put nx ⟨w.heap.size,0,cap,sz,false⟩,_,.slu nx 0 n,_,rfl,hle,?_,by simp [SV.conc,Env.bl,Ent.at],hrun⟩
 refine hS.new (o:= .cells vs.toArray el) rfl rfl rfl rfl rfl rfl rfl ⟨rfl,vs.toArray,(0,0),el,rfl,hn,by simp [hlen],hcap,fun _=>xD _,h0,fun i hi s hs=>?_⟩
 rw [iG] at hs
 obtain⟨v,hv,hg⟩:=eG (SV.bJ hle _ _ hl) hs
 exact⟨v,hv,by simpa using hg⟩
theorem gl{t el:TypeId}{len sz:Nat}{parts:List (Nat×Operand)}{ps:List (Nat×SV)}{z:Value}{l:List SV}(hu:P.underlying t=some (.slice el))(hs:bv P el=some sz)(h0:0<sz)(hz:cH P el=some z)(hp:jJ T parts=some ps)
 (hf:fT (fun i=>some (i*sz,sz)) (((List.range (len*sz)).map (z.cells[·% z.cells.size]!)).map .sc) ps=some l) (h1:c8 l=true) (hlen:Nat.ble (len*sz) 16777216=true) (hll:l.length=len*sz) :
 OpDoes P T H nx ⟨d,.buildSlice t len parts.toArray,ty,pos,af,gd⟩ (.val (.slu nx 0 len),H.set nx (.row false len sz el (eL l)),nx+1):=by
 intro K w0 e w ev hS hE
 have hle:=bq hlen
 have hlm:len≤maxLen:=by
  unfold maxLen
  have:len*1≤len*sz:=Nat.mul_le_mul_left _ h0
  omega
 refine dp (w:=w) (s:=Instr.buildSlice t len (parts.toArray.map fun x=>(x.1,ev x.2))) ?_ (fun v w' hr=>by simp only [execOp,Sem.run_bind];rw [hr];simp)
 have hpr:=hE.parts parts ps hp
 have hpr':yf e ps (parts.toArray.map fun x=>(x.1,ev x.2)).toList:=by simpa using hpr
 obtain⟨vs,g1,g2⟩:=oT (e:=e) ps _ _ l _ hf hpr' (dN _)
 have hvl:=ci g2
 refine tJ hS g2 (by omega) (zy _) hlm h0 ?_
 by_cases hz0:len*sz=0
 ·have hvs:vs= []:=zu (by omega)
  subst hvs
  have hps:ps= []:=by
   cases ps with
   | nil=>rfl
   | cons p ps=>
     exfalso
     simp only [hz0,List.range_zero,List.map_nil,fT,List.length_nil,Nat.le_zero_eq] at hf
     have hlen0:len=0:=by
      rcases Nat.eq_zero_or_pos len with h|h
      ·exact h
      ·have:=Nat.mul_pos h h0;omega
     cases hb:(Nat.beq p.2.cells.length sz && Nat.ble (p.1*sz+sz) 0)with
     | false=>rw [hb] at hf;cases hf
     | true=>
       rw [zx] at hb
       have:=bq hb.2
       omega
  subst hps
  have hq:(parts.toArray.map fun x=>(x.1,ev x.2)).toList= []:=by
   cases hq:(parts.toArray.map fun x=>(x.1,ev x.2)).toList with
   | nil=>rfl
   | cons _ _=>rw [hq] at hpr';exact hpr'.elim
  have hq2:List.map (fun x=>(x.fst,ev x.snd)) parts= []:=by simpa using hq
  simp [Instr.buildSlice,run_underlying hu,bG hs,hz0,hq2,Instr.fill,newRow,show Array.range 0=(#[]:Array Nat)from by decide]
 ·have hr:(Array.range (len*sz)).map (z.cells[·% z.cells.size]!)=((List.range (len*sz)).map (z.cells[·% z.cells.size]!)).toArray:=by
   apply Array.ext'
   simp
  simp only [Instr.buildSlice,run_underlying hu,Sem.run_bind,Result.andThen,bG hs]
  rw [if_neg (by omega)]
  simp only [Sem.run_pure,if_neg hz0,Sem.run_bind,Result.andThen,fk hz,hr,g1,newRow,run_newObj]
def RdV(P:Program)(H:aJ)(sz:Nat)(s:SV)(m:Nat)(vs:List Value):Prop:=aW H sz s=some (m,vs.map .sc)
theorem pA{b eo n ne sz:Nat}{ro:Bool}{t:TypeId}{vs us:List Value}(hb:H.at' b=some (dat ro ne sz t vs))(hn:eo+n≤ne)(hu:(vs.drop (eo*sz)).take (n*sz)=us)(hl:us.length=n*sz):RdV P H sz (.slu b eo n) n us:=by
 unfold RdV
 simp only [aW,hb,dat,Nat.beq_refl,Bool.true_and]
 rw [show Nat.ble (eo+n) ne=true from zk hn]
 have:=dO (ro:=ro) (ne:=ne) (sz:=sz) (t:=t) (vs:=vs) (n*sz) (eo*sz) hu hl (by rw [← Nat.add_mul];exact Nat.mul_le_mul_right _ hn)
 unfold dat at this
 simp only [cond_true,this,zF]
def rL(vs:List Value):Prop:= ∀ v∈vs,v.oneCell'=true
theorem io{vs:List Value}(h:rL vs):c8 (vs.map .sc)=true:=by
 induction vs with
 | nil=>rfl
 | cons v vs ih=>
   simp only [zB,c8,zx]
   refine⟨?_,ih fun u hu=>h u (List.mem_cons_of_mem _ hu)⟩
   have:=h v (List.mem_cons_self ..)
   cases v <;> first|rfl|(simp [Value.oneCell'] at this)
theorem mg{t:TypeId}{n b:Nat}(hb:(P.info? t).map (·.bytes)=some b)(h1:n*b≤140737488355328)(h2:n≤1000000000):dA P t n=true:=by
 unfold dA
 cases hi:P.info? t with
 | none=>rw [hi] at hb;cases hb
 | some i=>
   rw [hi] at hb
   simp only [zF,zc] at hb
   simp only [hb,zx]
   exact⟨zk h1,zk h2⟩
theorem nW{t tx el:TypeId}{sz m b:Nat}{s x:Operand}{v:SV}{vs:List Value}(hu:P.underlying t=some (.slice el))(hk:(∃ e',P.underlying tx=some (.slice e'))∨P.underlying tx=some .string)(hs:bv P el=some sz)(h0:0<sz)
 (hz:eN P el sz=true) (hb:(P.info? el).map (·.bytes)=some b) (hx0:ao T s=some (.sc (.slice none 0 0))) (hx:ao T x=some v) (hr:RdV P H sz v m vs) (h1:rL vs) (hm1:m*b≤140737488355328) (hm2:m≤1000000000) :
 OpDoes P T H nx ⟨d,.call {callee:= .builtin .append,args:= #[s,x],argTypes:= #[t,tx]},ty,pos,af,gd⟩ (.val (.slu nx 0 m),H.set nx (dat false m sz el vs),nx+1):=by
 rcases Nat.eq_zero_or_pos m with rfl|hm
 ·intro K w0 e w ev hS hE
  obtain⟨us,g1,g2,g3,g4⟩:=cI (P:=P) hS hr (hE x v hx)
  have hf:=hS.fresh nx (zy _)
  have hvs:vs= []:=by
   have:=ci g1
   rw [List.length_map] at this
   exact zu (by omega)
  subst hvs
  have hes:=hE s _ hx0
  simp only [SV.conc,zc] at hes
  have h5:=g4 0 (zy _)
  simp only [Nat.zero_mul,List.take_zero] at h5
  refine⟨e.put nx ⟨0,0,0,sz,true⟩,w,Env.ch hf,hS.newNil false sz el _ h0,.slice none 0 0,by simp [SV.conc,Env.bl,Ent.at],?_⟩
  have hl: ∀ w',(Builtin.lenOf (ev x)).run P w' = .ok 0 w':=by
   intro w'
   generalize ev x=y at g3
   cases y <;> simp_all [Builtin.lenOf]
  have hrun:(Builtin.append_ #[t,tx] ty #[.slice none 0 0,ev x]).run P w = .ok (.slice none 0 0) w:=by
   rcases hk with ⟨e',hk⟩|hk <;> simp [Builtin.append_,run_underlying hu,run_underlying hk,bG hs,hl,h5]
  simp only [execOp,resolve,invoke,builtin,←hes,List.map_toArray,zB,List.map_nil,Sem.run_bind,Sem.run_pure,Result.andThen,hrun]
 ·have hap:fu P H nx el (.sc (.slice none 0 0)) v=some (.val (.slu nx 0 m),H.set nx (.row false m sz el (eL (vs.map .sc))),nx+1):=by
   unfold fu
   rw [hs]
   cases sz with
   | zero=>omega
   | succ sz=>
     simp only
     rw [show aW H (sz+1) v=some (m,vs.map .sc)from hr]
     simp only [io h1,Bool.not_true,cond_false,mg hb hm1 hm2,hz,Bool.and_self,cond_true]
     rw [show Nat.beq m 0=false from by cases hq:Nat.beq m 0 with|false=>rfl|true=>have:=Nat.eq_of_beq_eq_true hq;omega]
     rfl
  rw [iL] at hap
  refine j7 ?_
  rcases hk with ⟨e',hk⟩|hk <;> simp only [gO,dX,hx0,hx,zG,gE,iP,hu,hk,hap]
theorem nX{t tx el:TypeId}{sz m b r eo n:Nat}{s x:Operand}{v:SV}{us vs ws:List Value}(hu:P.underlying t=some (.slice el))(hk:(∃ e',P.underlying tx=some (.slice e'))∨P.underlying tx=some .string)(hs:bv P el=some sz)(h0:0<sz)
 (hz:eN P el sz=true) (hb:(P.info? el).map (·.bytes)=some b) (hx0:ao T s=some (.slu r eo n)) (hx:ao T x=some v) (hro:H.at' r=some (dat false (eo+n) sz el us)) (hr0:(us.drop (eo*sz)).take (n*sz)=ws) (hl0:ws.length=n*sz) (hr:RdV P H sz v m vs) (h1:rL vs)
 (hm:0<m) (hm1:(n+m)*b≤140737488355328) (hm2:n+m≤1000000000) :
 OpDoes P T H nx ⟨d,.call {callee:= .builtin .append,args:= #[s,x],argTypes:= #[t,tx]},ty,pos,af,gd⟩ (.val (.slu nx 0 (n+m)),(H.del r).set nx (dat false (n+m) sz el (ws ++ vs)),nx+1):=by
 have hap:fu P H nx el (.slu r eo n) v=some (.val (.slu nx 0 (n+m)),(H.del r).set nx (.row false (n+m) sz el (eL (ws.map .sc ++ vs.map .sc))),nx+1):=by
  unfold fu
  rw [hs]
  cases sz with
  | zero=>omega
  | succ sz=>
    simp only
    rw [show aW H (sz+1) v=some (m,vs.map .sc)from hr]
    have hold:aW H (sz+1) (.slu r eo n)=some (n,ws.map .sc):=pA (P:=P) hro (zy _) hr0 hl0
    simp only [io h1,Bool.not_true,cond_false,hold]
    rw [hro]
    simp only [dat,Nat.beq_refl,mg hb hm1 hm2,hz,Bool.not_false,Bool.and_self,cond_true]
    rw [show Nat.beq m 0=false from by cases hq:Nat.beq m 0 with|false=>rfl|true=>have:=Nat.eq_of_beq_eq_true hq;omega]
    rfl
 rw [← zE,iL] at hap
 refine j7 ?_
 rcases hk with ⟨e',hk⟩|hk <;> simp only [gO,dX,hx0,hx,zG,gE,iP,hu,hk,hap]
theorem vI{dflt n:Nat}{x:Option Operand}{v:Option Int}(h:(x=none∧n=dflt)∨ ∃ o k i,x=some o∧ao T o=some (.sc (.int k i))∧0≤i∧i.toNat=n):natOr T dflt x=some n:=by
 rcases h with ⟨rfl,rfl⟩|⟨o,k,i,rfl,h1,h2,rfl⟩
 ·rfl
 ·obtain⟨j,rfl⟩:=Int.eq_ofNat_of_zero_le h2
  simp only [natOr,sj,h1,Int.toNat_natCast]
def wX(T:Tr SV)(dflt:Nat)(x:Option Operand)(n:Nat):Prop:=natOr T dflt x=some n
theorem uH{dflt:Nat}:wX T dflt none dflt:=rfl
theorem xX{dflt:Nat}{o:Operand}{k:IntKind}{i:Int}(h:ao T o=some (.sc (.int k i)))(h0:0≤i):wX T dflt (some o) i.toNat:=vI (v:=none) (.inr ⟨o,k,i,rfl,h,h0,rfl⟩)
theorem vt{t el:TypeId}{x:Operand}{lo hi:Option Operand}{b eo n l h:Nat}{ro:Bool}{ne sz:Nat}{rt:TypeId}{c:Tr SV}(hu:P.underlying t=some (.slice el))(hs:bv P el=some sz)(hx:ao T x=some (.slu b eo n))(hb:H.at' b=some (.row ro ne sz rt c))
 (hl:wX T 0 lo l) (hh:wX T n hi h) (h1:l≤h) (h2:eo+h≤ne) (h3:eo+l<ne):ReadDoes P T H ⟨d,.slice t x lo hi none,ty,pos,af,gd⟩ (.slu b (eo+l) (h-l)):=by
 refine eR ?_
 unfold wX at hl hh
 simp only [cP,hx,zG,jp,hu,hb,hs,hl,hh,Nat.beq_refl,Bool.true_and]
 rw [show Nat.ble l h=true from zk h1,show Nat.ble (eo+h) ne=true from zk h2,show Nat.blt (eo+l) ne=true from zk h3]
 rfl
theorem ki{ne sz:Nat}{t:TypeId}: ∀ (vs l:List Value) (o:Nat),o+vs.length≤ne*sz→o+vs.length≤l.length→rL vs→(dat false ne sz t l).setCells o (vs.map .sc)=some (dat false ne sz t (l.take o ++ vs ++ l.drop (o+vs.length)))
 | [],l,o,_,_,_=>by simp [VO.setCells]
 | v :: vs,l,o,h,hl,h1=>by
   simp only [zC] at h hl
   have hset:(dat false ne sz t l).setCell o (.sc v)=some (dat false ne sz t (l.set o v)):=by
    simp only [dat,VO.setCell]
    have hone:(SV.sc v).one=true:=by
     have:=io (vs:= [v]) (fun u hu=>h1 u (by simp at hu;subst hu;exact List.mem_cons_self ..))
     simpa [c8] using this
    rw [show Nat.blt o (ne*sz)=true from zk (by omega),hone]
    simp only [Bool.and_self,cond_true,zc]
    congr 1
    funext i
    simp only [Tr.set]
    rw [List.getElem?_set]
    by_cases hi:o=i
    ·subst hi
     rw [if_pos rfl,if_pos (by omega),Nat.beq_refl]
     rfl
    ·rw [if_neg hi,show Nat.beq i o=false from by cases hb:Nat.beq i o with|false=>rfl|true=>exact absurd (Nat.eq_of_beq_eq_true hb).symm hi]
     rfl
   simp only [zB,VO.setCells,hset]
   rw [ki vs (l.set o v) (o+1) (by omega) (by rw [List.length_set];omega) (fun u hu=>h1 u (List.mem_cons_of_mem _ hu))]
   simp only [zc]
   congr 1
   have e1:(l.set o v).take (o+1)=l.take o ++ [v]:=by
    rw [List.take_set,List.set_eq_take_append_cons_drop,if_pos (by rw [List.length_take];omega),List.take_take,Nat.min_eq_left (by omega),List.drop_eq_nil_of_le (by rw [List.length_take];omega)]
   have e2:(l.set o v).drop (o+1+vs.length)=l.drop (o+(vs.length+1)):=by
    rw [List.drop_set_of_lt (by omega)]
    congr 1
    omega
   rw [e1,e2]
   simp
theorem tw{t rt:TypeId}{a x:Operand}{b o n ne sz:Nat}{l vs:List Value}{v:SV}(hs:bv P t=some n)(ha:ao T a=some (.ptr b o))(hx:ao T x=some v)(hv:v.cells=vs.map .sc)(hb:H.at' b=some (dat false ne sz rt l))(hn:vs.length=n)(ho:o+n≤ne*sz)(hl:o+n≤l.length)
 (h1:rL vs):OpDoes P T H nx ⟨d,.store t a x,ty,pos,af,gd⟩ (.skip,H.set b (dat false ne sz rt (l.take o ++ vs ++ l.drop (o+n))),nx):=by
 refine j7 ?_
 subst hn
 unfold gO
 simp only [ha,hx,hv,nI,hs,List.length_map,Nat.beq_refl,cond_true,ej,hb,ki vs l o ho hl h1]
end
theorem gy{A:Type}{f:A→List Value}{sz:Nat}(hf: ∀ a,(f a).length=sz): ∀ xs:List A,(xs.flatMap f).length=xs.length*sz
 | []=>by simp
 | x :: xs=>by rw [List.flatMap_cons,zD,hf,gy hf xs,zC,Nat.add_mul];omega
theorem lD{A:Type}{f:A→List Value}{sz:Nat}(hf: ∀ a,(f a).length=sz): ∀ (xs:List A) (i:Nat),(xs.flatMap f).drop (i*sz)=(xs.drop i).flatMap f
 | xs,0=>by simp
 | [],i+1=>by simp
 | x :: xs,i+1=>by
   rw [List.flatMap_cons,List.drop_succ_cons,←lD hf xs i,show(i+1)*sz=(f x).length+i*sz by rw [hf,Nat.add_mul];omega,List.drop_length_add_append]
theorem oR{A:Type}{f:A→List Value}{sz:Nat}(hf: ∀ a,(f a).length=sz): ∀ (xs:List A) (i:Nat),(xs.flatMap f).take (i*sz)=(xs.take i).flatMap f
 | xs,0=>by simp
 | [],i+1=>by simp
 | x :: xs,i+1=>by
   rw [List.flatMap_cons,List.take_succ_cons,List.flatMap_cons,←oR hf xs i,show(i+1)*sz=(f x).length+i*sz by rw [hf,Nat.add_mul];omega,List.take_length_add_append]
theorem qV{A:Type}{f:A→List Value}{sz:Nat}(hf: ∀ a,(f a).length=sz){xs:List A}{i:Nat}{a:A}(h:xs[i]? =some a):((xs.flatMap f).drop (i*sz)).take sz=f a:=by
 rw [lD hf]
 obtain⟨hi,rfl⟩:=zh.1 h
 rw [List.drop_eq_getElem_cons hi,List.flatMap_cons,List.take_append_of_le_length (by rw [hf];exact zy _),zp (by rw [hf];exact zy _)]
theorem ud{A:Type}{f:A→List Value}{sz:Nat}(hf: ∀ a,(f a).length=sz){xs:List A}{i j:Nat}{a:A}(h:xs[i]? =some a)(hj:j<sz):(xs.flatMap f)[i*sz+j]? =(f a)[j]? :=by
 have h1:=qV hf h
 rw [← h1,List.getElem?_take,if_pos hj,List.getElem?_drop]
theorem qU{A:Type}{f:A→List Value}{sz:Nat}(hf: ∀ a,(f a).length=sz){xs:List A}{i:Nat}(hi:i<xs.length)(a:A):(xs.flatMap f).take (i*sz) ++ f a ++ (xs.flatMap f).drop (i*sz+sz)=(xs.set i a).flatMap f:=by
 rw [List.set_eq_take_append_cons_drop,if_pos hi,List.flatMap_append,List.flatMap_cons,oR hf,show i*sz+sz=(i+1)*sz by rw [Nat.add_mul];omega,lD hf,List.append_assoc]
theorem uc{A:Type}{f:A→List Value}(hf: ∀ a,rL (f a))(xs:List A):rL (xs.flatMap f):=by
 intro v hv
 obtain⟨a,_,ha⟩:=List.mem_flatMap.1 hv
 exact hf a v ha
structure RecOf {A:Type} (f:A→List Value) (sz:Nat):Prop where
 len: ∀ a,(f a).length=sz
 one: ∀ a,rL (f a)
theorem nO{A:Type}{g:A→Value}(hg: ∀ a,(g a).oneCell'=true):RecOf (fun a=> [g a]) 1:=⟨fun _=>rfl,fun a v hv=>by simp only [List.mem_singleton] at hv;subst hv;exact hg a⟩
abbrev arr{A:Type}(ro:Bool)(ne sz:Nat)(t:TypeId)(f:A→List Value)(d:Array A):VO:=dat ro ne sz t (d.toList.flatMap f)
section
variable {P:Program} {T:Tr SV} {H:aJ} {nx:Nat} {d0:Option Tmp} {ty:TypeId} {pos:String} {af:Array Edge} {gd:Option (Nat×Bool)}
theorem aH{t e:TypeId}{x y:Operand}{b n i:Nat}{k:IntKind}{j:Int}{ro:Bool}{ne sz:Nat}{rt:TypeId}{c:Tr SV}(hu:P.underlying t=some (.slice e))(hs:bv P e=some sz)(hx:ao T x=some (.slu b 0 n))(hy:ao T y=some (.sc (.int k j)))
 (hb:H.at' b=some (.row ro ne sz rt c)) (hj:j=(i:Int)) (hi:i<n) (hne:n≤ne):ReadDoes P T H ⟨d0,.indexAddr t x y,ty,pos,af,gd⟩ (.ptr b (i*sz)):=by
 subst hj
 have:=qv (d:=d0) (ty:=ty) (pos:=pos) (af:=af) (gd:=gd) hu hs hx hy hb (by omega) (by omega) (by omega)
 simpa using this
theorem xZ{A:Type} [Inhabited A]{d:Array A}{i:Nat}(hi:i<d.size):d.toList[i]? =some d[i]! :=by
 rw [Array.getElem?_toList,zq hi,getElem!_pos d i hi]
theorem qb{A:Type}{d:Array A}{i sz ne:Nat}(hi:i<d.size)(hne:d.size≤ne):i*sz+sz≤ne*sz:=by
 have:(i+1)*sz≤ne*sz:=Nat.mul_le_mul_right _ (by omega)
 rw [Nat.add_mul] at this
 omega
theorem yF{A:Type} [Inhabited A]{g:A→Value}{t rt:TypeId}{x:Operand}{b i ne:Nat}{ro:Bool}{d:Array A}(ha:bM P t=some none)(hx:ao T x=some (.ptr b (i*1)))(hb:H.at' b=some (arr ro ne 1 rt (fun a=> [g a]) d))(hi:i<d.size)(hne:d.size≤ne) :
 ReadDoes P T H ⟨d0,.load t x,ty,pos,af,gd⟩ (.sc (g d[i]!)):=by
 refine aU ha hx hb (kN (by omega) ?_)
 have:=ud (f:=fun a=> [g a]) (sz:=1) (fun _=>rfl) (xZ hi) (j:=0) (by omega)
 simpa using this
theorem yJ{A:Type}{f:A→List Value}{t rt:TypeId}{a x:Operand}{b i ne sz:Nat}{d:Array A}{v:A}{u:SV}(hs:bv P t=some sz)(ha:ao T a=some (.ptr b (i*sz)))(hx:ao T x=some u)(hu:u.cells=(f v).map .sc)(hf:RecOf f sz)(hb:H.at' b=some (arr false ne sz rt f d))(hi:i<d.size)(hne:d.size≤ne) :
 OpDoes P T H nx ⟨d0,.store t a x,ty,pos,af,gd⟩ (.skip,H.set b (arr false ne sz rt f (d.setIfInBounds i v)),nx):=by
 have hsz:d.toList.length=d.size:=rfl
 have h:=tw (d:=d0) (ty:=ty) (pos:=pos) (af:=af) (gd:=gd) (nx:=nx) hs ha hx hu hb (hf.len v) (qb hi hne) (by rw [gy hf.len];exact qb hi (zy _)) (hf.one v)
 have e:=qU hf.len (xs:=d.toList) (i:=i) (by rw [hsz];exact hi) v
 rw [e] at h
 unfold arr
 rw [Array.toList_setIfInBounds]
 exact h
end
structure DrawK (P:Program) (nt:Nat) (ops:Array Oper) (i:Nat) (l:List Oper) (s:DS) (K:DS→Prop):Prop where
 ex: ∃ s',DrawRun P (wpr P) nt ops i l s s'∧K s'
def AllH(Q:List (aJ×Nat))(p:aJ→Prop):Prop:=match Q with
 | []=>True
 | q :: l=>p q.1∧AllH l p
theorem AllH.get{p:aJ→Prop}: ∀ {Q:List (aJ×Nat)},AllH Q p→ ∀ {i:Nat} {H:aJ} {n:Nat},Q[i]? =some (H,n)→p H
 | [],_,i,H,n,h=>by simp at h
 | q :: l,hh,i,H,n,h=>by
   cases i with
   | zero=>simp only [zw,zc] at h;subst h;exact hh.1
   | succ i=>exact AllH.get hh.2 (by simpa using h)
def FlOk(P:Program)(ancs chain:List Nat)(Q:List (aJ×Nat)):List Rec→Prop
 | []=>True
 | r :: l=>((r.chain || !r.wanted || (Nat.beq (eK (ancs.getD r.i 0) chain) r.stg && Nat.beq (cE ancs r.i chain) r.stg))=true∨AllH Q (fun H=>ReadDoes P r.T H r.o r.val))∧FlOk P ancs chain Q l
theorem FlOk.ok{P:Program}{ancs chain:List Nat}{Q:List (aJ×Nat)}: ∀ {l:List Rec},FlOk P ancs chain Q l→ ∀ r∈l,r.chain=false→r.wanted=true→ ∀ st,eK (ancs.getD r.i 0) chain≤st→st≤cE ancs r.i chain→st≠r.stg→ ∀ H n,Q.reverse[st]? =some (H,n)→ReadDoes P r.T H r.o r.val
 | [],_,r,hm,_,_,_,_,_,_,_,_,_=>by cases hm
 | r0 :: l,hh,r,hm,hc,hw,st,h1,h2,h3,H,n,hq=>by
   rcases List.mem_cons.1 hm with rfl|hm
   ·rcases hh.1 with h|h
    ·rw [hc,hw] at h
     simp only [Bool.not_true,Bool.or_false,Bool.false_or,zx] at h
     have q1:=ba h.1
     have q2:=ba h.2
     omega
    ·have hlt:=(zh.1 hq).1
     rw [List.getElem?_reverse (by simpa using hlt)] at hq
     exact h.get hq
   ·exact FlOk.ok hh.2 r hm hc hw st h1 h2 h3 H n hq
theorem uE{v:Value}(h:v.oneCell'=true):(SV.sc v).cells= [.sc v]:=by
 cases v <;> first|rfl|(simp [Value.oneCell'] at h)
section
variable {P:Program} {T:Tr SV} {H:aJ} {nx:Nat} {d:Option Tmp} {ty:TypeId} {pos:String} {af:Array Edge} {gd:Option (Nat×Bool)}
theorem xA{t el:TypeId}{sz:Nat}{z:Value}(hu:P.underlying t=some (.slice el))(hs:bv P el=some sz)(h0:0<sz)(hz:cH P el=some z) :
 OpDoes P T H nx ⟨d,.buildSlice t 0 #[],ty,pos,af,gd⟩ (.val (.slu nx 0 0),H.set nx (dat false 0 sz el []),nx+1):=by
 rw [← iL]
 exact gl (parts:= []) (ps:= []) hu hs h0 hz rfl (by simp [fT]) rfl (by rw [Nat.zero_mul];rfl) (by simp)
end
section
variable {P:Program} {ro:Option Nat} {fn nt nx:Nat} {T:Tr SV} {k:List AIt} {dfs:List ADf} {H:aJ} {Q:Pst} {ops:Array Oper} {i:Nat} {l:List Oper} {d:Option Tmp} {ty:TypeId} {pos:String} {af:Array Edge} {gd:Option (Nat×Bool)}
theorem aR{id:Nat}{ops:List Oper}(hm:P.follows .mixedOrders=true)(hr:gi nt ops=true)
 (h:DrawK P nt ops.toArray 0 ops ⟨T,H,nx,[],[(H,nx)],0⟩ (fun s=>dl (bz [] ops) (bu s)=true∧FlOk P (bz [] ops) (bu s) s.Hs s.recs∧Wp P ro ⟨fn,nt,s.T,k,dfs,s.H,s.nx⟩ Q)) :
 Wp P ro ⟨fn,nt,T,.code (.region id ops.toArray true) :: k,dfs,H,nx⟩ Q:=by
 obtain⟨s,hs,h1,h2,h3⟩:=h.ex
 exact .step ⟨hm,s,⟨hr,hs,h1,fun r hr=>FlOk.ok h2 r hr⟩,h3⟩
section
variable {K:DS→Prop} {rs:List Rec} {Hs:List (aJ×Nat)} {stg:Nat} {dd:Nat} {op:Op}
theorem aF{s:DS}(h:K s):DrawK P nt ops i [] s K:=⟨⟨s,.nil _ _,h⟩⟩
theorem cn(hw:aq (aD T (az ops.toList ⟨some dd,op,ty,pos,af,gd⟩)) ops ⟨some dd,op,ty,pos,af,gd⟩=some false)(hd:Nat.blt dd nt=true)
 (h:DrawK P nt ops (i+1) l ⟨T.set dd cC,H,nx,⟨i,⟨some dd,op,ty,pos,af,gd⟩,aD T (az ops.toList ⟨some dd,op,ty,pos,af,gd⟩),stg,false,false,cC⟩ :: rs,Hs,stg⟩ K) :
 DrawK P nt ops i (⟨some dd,op,ty,pos,af,gd⟩ :: l) ⟨T,H,nx,rs,Hs,stg⟩ K:=by
 obtain⟨s',h1,h2⟩:=h.ex
 refine⟨⟨s',.cons (.inl ⟨hw,?_⟩) h1,h2⟩⟩
 simp only [aB hd]
theorem bj{v:SV}(hw:aq (aD T (az ops.toList ⟨some dd,op,ty,pos,af,gd⟩)) ops ⟨some dd,op,ty,pos,af,gd⟩=some true)(hd:Nat.blt dd nt=true)(hnd: ∀ c,op ≠ .defer c)
 (hr:ReadDoes P (aD T (az ops.toList ⟨some dd,op,ty,pos,af,gd⟩)) H ⟨some dd,op,ty,pos,af,gd⟩ v)
 (h:DrawK P nt ops (i+1) l ⟨T.set dd v,H,nx,⟨i,⟨some dd,op,ty,pos,af,gd⟩,aD T (az ops.toList ⟨some dd,op,ty,pos,af,gd⟩),stg,false,true,v⟩ :: rs,Hs,stg⟩ K) :
 DrawK P nt ops i (⟨some dd,op,ty,pos,af,gd⟩ :: l) ⟨T,H,nx,rs,Hs,stg⟩ K:=by
 obtain⟨s',h1,h2⟩:=h.ex
 refine⟨⟨s',.cons (.inr (.inl ⟨hw,hnd,v,hr,?_⟩)) h1,h2⟩⟩
 simp only [aB hd]
theorem mf{v:SV}{H':aJ}{nx':Nat}(hw:aq (aD T (az ops.toList ⟨some dd,op,ty,pos,af,gd⟩)) ops ⟨some dd,op,ty,pos,af,gd⟩=some true)(hd:Nat.blt dd nt=true)(hnd: ∀ c,op ≠ .defer c)
 (hr:OpDoes P (aD T (az ops.toList ⟨some dd,op,ty,pos,af,gd⟩)) H nx ⟨some dd,op,ty,pos,af,gd⟩ (.val v,H',nx'))
 (h:DrawK P nt ops (i+1) l ⟨T.set dd v,H',nx',⟨i,⟨some dd,op,ty,pos,af,gd⟩,aD T (az ops.toList ⟨some dd,op,ty,pos,af,gd⟩),stg,true,true,v⟩ :: rs,(H',nx') :: Hs,stg+1⟩ K) :
 DrawK P nt ops i (⟨some dd,op,ty,pos,af,gd⟩ :: l) ⟨T,H,nx,rs,Hs,stg⟩ K:=by
 obtain⟨s',h1,h2⟩:=h.ex
 refine⟨⟨s',.cons (.inr (.inr ⟨hw,v,H',nx',⟨_,hr,hnd,rfl⟩,?_⟩)) h1,h2⟩⟩
 simp only [aB hd]
theorem lI{H':aJ}{nx':Nat}(hw:aq (aD T (az ops.toList ⟨none,op,ty,pos,af,gd⟩)) ops ⟨none,op,ty,pos,af,gd⟩=some true)(hnd: ∀ c,op ≠ .defer c)
 (hr:OpDoes P (aD T (az ops.toList ⟨none,op,ty,pos,af,gd⟩)) H nx ⟨none,op,ty,pos,af,gd⟩ (.skip,H',nx'))
 (h:DrawK P nt ops (i+1) l ⟨T,H',nx',⟨i,⟨none,op,ty,pos,af,gd⟩,aD T (az ops.toList ⟨none,op,ty,pos,af,gd⟩),stg,true,true,cC⟩ :: rs,(H',nx') :: Hs,stg+1⟩ K) :
 DrawK P nt ops i (⟨none,op,ty,pos,af,gd⟩ :: l) ⟨T,H,nx,rs,Hs,stg⟩ K:=by
 obtain⟨s',h1,h2⟩:=h.ex
 exact⟨⟨s',.cons (.inr (.inr ⟨hw,cC,H',nx',⟨_,hr,hnd,rfl⟩,rfl⟩)) h1,h2⟩⟩
theorem tB{g:FuncId}{as1:List Operand}{ats:Array TypeId}{args:List SV}(ha:dX T as1=some args)(hm:ce P g=true):OpDoes P T H nx ⟨d,.call {callee:= .value (.func g),args:=as1.toArray,argTypes:=ats},ty,pos,af,gd⟩ (.enter g args,H,nx):=by
 refine j7 ?_
 have hc:cj P T {callee:= .value (.func g),args:=as1.toArray,argTypes:=ats}=some (.enter g args):=by
  simp only [cj,ha,ao,dv,hm,cond_true,List.map_nil,List.nil_append,List.append_nil]
 unfold gO
 simp only [hc,zF]
theorem a8{g:FuncId}{as1:List Operand}{ats:Array TypeId}{args:List SV}{v:SV}{H':aJ}{nx':Nat}(hw:aq (aD T (az ops.toList ⟨some dd,.call {callee:= .value (.func g),args:=as1.toArray,argTypes:=ats},ty,pos,af,gd⟩)) ops ⟨some dd,.call {callee:= .value (.func g),args:=as1.toArray,argTypes:=ats},ty,pos,af,gd⟩=some true)(hd:Nat.blt dd nt=true)
 (ha:dX (aD T (az ops.toList ⟨some dd,.call {callee:= .value (.func g),args:=as1.toArray,argTypes:=ats},ty,pos,af,gd⟩)) as1=some args) (hm:ce P g=true)
 (hr:Fnc P g args H nx (fun r=>r=(v,H',nx')))
 (h:DrawK P nt ops (i+1) l ⟨T.set dd v,H',nx',⟨i,⟨some dd,.call {callee:= .value (.func g),args:=as1.toArray,argTypes:=ats},ty,pos,af,gd⟩,aD T (az ops.toList ⟨some dd,.call {callee:= .value (.func g),args:=as1.toArray,argTypes:=ats},ty,pos,af,gd⟩),stg,true,true,v⟩ :: rs,(H',nx') :: Hs,stg+1⟩ K) :
 DrawK P nt ops i (⟨some dd,.call {callee:= .value (.func g),args:=as1.toArray,argTypes:=ats},ty,pos,af,gd⟩ :: l) ⟨T,H,nx,rs,Hs,stg⟩ K:=by
 obtain⟨s',h1,h2⟩:=h.ex
 refine⟨⟨s',.cons (.inr (.inr ⟨hw,v,H',nx',⟨_,tB ha hm,(fun c hc=>(by cases hc)),hr⟩,?_⟩)) h1,h2⟩⟩
 simp only [aB hd]
end
def uN(vo:VO):Prop:= ∀ ρ,vo.ren ρ=vo
theorem aP{ro:Bool}{ne sz:Nat}{t:TypeId}{vs:List Value}:uN (dat ro ne sz t vs):=fun ρ=>mB ρ _ _ _ _ _
theorem bB{t:TypeId}{l:List SV}(h: ∀ ρ,SV.ip ρ l=l):uN (ak t l):=fun ρ=>by rw [s7,h]
def jR:List (Option VO)→Prop
 | []=>True
 | none :: l=>jR l
 | some vo :: l=>uN vo∧jR l
def wrL:List Nat→aJ→List (Option VO)→aJ
 | b :: L,H,some vo :: l=>wrL L (H.set b vo) l
 | b :: L,H,none :: l=>wrL L (H.del b) l
 | _,H,_=>H
theorem pp{L0:List Nat}{nx:Nat}: ∀ (L:List Nat) (l:List (Option VO)) (i:Nat) (H:aJ),(∀ j,j<L.length→ext L0 nx (i+j)=L.getD j 0)→l.length=L.length→jR l→wrO (ext L0 nx) H i (l.map (Option.map (VO.ren (ext L0 nx))))=wrL L H l
 | [],[],i,H,_,_,_=>rfl
 | [],_ :: _,i,H,_,h,_=>by simp at h
 | _ :: _,[],i,H,_,h,_=>by simp at h
 | b :: L,o :: l,i,H,he,hl,hc=>by
   have e0:ext L0 nx i=b:=by simpa using he 0 (by simp)
   have et: ∀ j,j<L.length→ext L0 nx (i+1+j)=L.getD j 0:=fun j hj=>by
    have:=he (j+1) (by simpa using hj)
    rw [show i+1+j=i+(j+1) by omega,this]
    simp
   cases o with
   | none=>simp only [zB,Option.map_none,wrO,wrL,e0];exact pp L l (i+1) _ et (by simpa using hl) hc
   | some vo=>simp only [zB,zF,wrO,wrL,e0,hc.1 (ext L0 nx)];exact pp L l (i+1) _ et (by simpa using hl) hc.2
section
variable {P:Program}
theorem Ctr.bC{f:FuncId}{args0 args:List SV}{pre:List VO}{c:Cz}(h:Ctr P f args0 pre (fun c'=>c'=c))(L:List Nat){H H':aJ}{nx:Nat}{Q:Pst}(hlen:L.length=pre.length)(hL:ExtOk L nx)(ha:args=args0.map (SV.ren (ext L nx)))
 (hp:HasO (ext L nx) H 0 (pre.map some)) (hol:c.objs.length=L.length) (hc:jR c.objs) (hv: ∀ ρ,c.v.ren ρ=c.v) (hH:wrL L H c.objs=H') (hQ:Q (c.v,H',nx)):Fnc P f args H nx Q:=by
 refine h.callM L hlen hL ha hp (hv _) ((pp L c.objs 0 H (fun j hj=>by rw [Nat.zero_add];exact qZ hj) hol hc).trans hH) ?_ hQ
 omega
end
section
variable {P:Program} {ro:Option Nat} {fn nt nx:Nat} {T:Tr SV} {k:List AIt} {dfs:List ADf} {H:aJ} {Q:Pst} {ops:Array Oper} {i:Nat} {l:List Oper} {ty:TypeId} {pos:String} {af:Array Edge} {gd:Option (Nat×Bool)}
theorem aT{g:FuncId}{as1:List Operand}{ats:Array TypeId}{args:List SV}{v:SV}{H':aJ}{dd:Nat}(hw:aq T ops ⟨some dd,.call {callee:= .value (.func g),args:=as1.toArray,argTypes:=ats},ty,pos,af,gd⟩=some true)(hd:Nat.blt dd nt=true)(ha:dX T as1=some args)(hm:ce P g=true)
 (hr:Fnc P g args H nx (fun r=>r=(v,H',nx)))
 (h:Wp P ro ⟨fn,nt,T.set dd v,.inReg ops (i+1) l :: k,dfs,H',nx⟩ Q) :
 Wp P ro ⟨fn,nt,T,.inReg ops i (⟨some dd,.call {callee:= .value (.func g),args:=as1.toArray,argTypes:=ats},ty,pos,af,gd⟩ :: l) :: k,dfs,H,nx⟩ Q:=
 aL hw hd ha hm (hr.mono fun r hr=>by subst hr;exact h)
end
theorem fw{t el:TypeId}{len sz:Nat}{parts:List (Nat×Operand)}{ps:List (Nat×SV)}{z:Value}{cs:List SV}{dd:Nat}(hw:aq T ops ⟨some dd,.buildSlice t len parts.toArray,ty,pos,af,gd⟩=some true)(hd:Nat.blt dd nt=true)(hu:P.underlying t=some (.slice el))(hs:bv P el=some sz)(h0:Nat.blt 0 sz=true)(hz:cH P el=some z)(hp:jJ T parts=some ps)(hf:fT (fun i=>some (i*sz,sz)) (((List.range (len*sz)).map (z.cells[·% z.cells.size]!)).map .sc) ps=some cs)(h1:c8 cs=true)(hlen:Nat.ble (len*sz) 16777216=true)(hll:cs.length=len*sz)
 (h:Wp P ro ⟨fn,nt,T.set dd (.slu nx 0 len),.inReg ops (i+1) l :: k,dfs,(H.set nx (.row false len sz el (eL cs))),(nx+1)⟩ Q):Wp P ro ⟨fn,nt,T,.inReg ops i (⟨some dd,.buildSlice t len parts.toArray,ty,pos,af,gd⟩ :: l) :: k,dfs,H,nx⟩ Q:=
 bD hw (.inr (fun _ h=>by cases h)) (gl hu hs (bw h0) hz hp hf h1 hlen hll) (by rw [aB hd];exact h)
theorem yu{t el:TypeId}{sz:Nat}{z:Value}{dd:Nat}(hw:aq T ops ⟨some dd,.buildSlice t 0 #[],ty,pos,af,gd⟩=some true)(hd:Nat.blt dd nt=true)(hu:P.underlying t=some (.slice el))(hs:bv P el=some sz)(h0:Nat.blt 0 sz=true)(hz:cH P el=some z)
 (h:Wp P ro ⟨fn,nt,T.set dd (.slu nx 0 0),.inReg ops (i+1) l :: k,dfs,(H.set nx (dat false 0 sz el [])),(nx+1)⟩ Q):Wp P ro ⟨fn,nt,T,.inReg ops i (⟨some dd,.buildSlice t 0 #[],ty,pos,af,gd⟩ :: l) :: k,dfs,H,nx⟩ Q:=
 bD hw (.inr (fun _ h=>by cases h)) (xA hu hs (bw h0) hz) (by rw [aB hd];exact h)
theorem uU{t tx el:TypeId}{sz m b r eo n:Nat}{s x:Operand}{v:SV}{us vs ws:List Value}{dd:Nat}(hw:aq T ops ⟨some dd,.call {callee:= .builtin .append,args:= #[s,x],argTypes:= #[t,tx]},ty,pos,af,gd⟩=some true)(hd:Nat.blt dd nt=true)(hx0:ao T s=some (.slu r eo n))(hx:ao T x=some v)(hu:P.underlying t=some (.slice el))(hk:(∃ e',P.underlying tx=some (.slice e'))∨P.underlying tx=some .string)(hs:bv P el=some sz)(h0:Nat.blt 0 sz=true)(hz:eN P el sz=true)(hb:(P.info? el).map (·.bytes)=some b)(hro:H.at' r=some (dat false (eo+n) sz el us))(hr0:(us.drop (eo*sz)).take (n*sz)=ws)(hl0:ws.length=n*sz)(hr:RdV P H sz v m vs)(h1:rL vs)(hm:0<m)(hm1:(n+m)*b≤140737488355328)(hm2:n+m≤1000000000)
 (h:Wp P ro ⟨fn,nt,T.set dd (.slu nx 0 (n+m)),.inReg ops (i+1) l :: k,dfs,((H.del r).set nx (dat false (n+m) sz el (ws ++ vs))),(nx+1)⟩ Q):Wp P ro ⟨fn,nt,T,.inReg ops i (⟨some dd,.call {callee:= .builtin .append,args:= #[s,x],argTypes:= #[t,tx]},ty,pos,af,gd⟩ :: l) :: k,dfs,H,nx⟩ Q:=
 bD hw (.inr (fun _ h=>by cases h)) (nX hu hk hs (bw h0) hz hb hx0 hx hro hr0 hl0 hr h1 hm hm1 hm2) (by rw [aB hd];exact h)
theorem sx{t el:TypeId}{x:Operand}{lo hi:Option Operand}{b eo n lw hg:Nat}{rr:Bool}{ne sz:Nat}{rt:TypeId}{c:Tr SV}{dd:Nat}(hw:aq T ops ⟨some dd,.slice t x lo hi none,ty,pos,af,gd⟩=some true)(hd:Nat.blt dd nt=true)(hx:ao T x=some (.slu b eo n))(hu:P.underlying t=some (.slice el))(hs:bv P el=some sz)(hb:H.at' b=some (.row rr ne sz rt c))(hl:wX T 0 lo lw)(hh:wX T n hi hg)(h1:lw≤hg)(h2:eo+hg≤ne)(h3:eo+lw<ne)
 (h:Wp P ro ⟨fn,nt,T.set dd (.slu b (eo+lw) (hg-lw)),.inReg ops (i+1) l :: k,dfs,H,nx⟩ Q):Wp P ro ⟨fn,nt,T,.inReg ops i (⟨some dd,.slice t x lo hi none,ty,pos,af,gd⟩ :: l) :: k,dfs,H,nx⟩ Q:=
 bD hw (.inr (fun _ h=>by cases h)) ((vt hu hs hx hb hl hh h1 h2 h3).does) (by rw [aB hd];exact h)
theorem fv{t rt:TypeId}{x:Operand}{b o ne sz:Nat}{rr:Bool}{vs:List Value}{v:Value}{dd:Nat}(hw:aq T ops ⟨some dd,.load t x,ty,pos,af,gd⟩=some true)(hd:Nat.blt dd nt=true)(hx:ao T x=some (.ptr b o))(ha:bM P t=some none)(hb:H.at' b=some (dat rr ne sz rt vs))(hv:vs[o]? =some v)(ho:o<ne*sz)
 (h:Wp P ro ⟨fn,nt,T.set dd (.sc v),.inReg ops (i+1) l :: k,dfs,H,nx⟩ Q):Wp P ro ⟨fn,nt,T,.inReg ops i (⟨some dd,.load t x,ty,pos,af,gd⟩ :: l) :: k,dfs,H,nx⟩ Q:=
 bD hw (.inr (fun _ h=>by cases h)) ((aU ha hx hb (kN ho hv)).does) (by rw [aB hd];exact h)
theorem uR{t rt:TypeId}{x:Operand}{b o n ne sz:Nat}{rr:Bool}{vs us:List Value}{dd:Nat}(hw:aq T ops ⟨some dd,.load t x,ty,pos,af,gd⟩=some true)(hd:Nat.blt dd nt=true)(hx:ao T x=some (.ptr b o))(ha:bM P t=some (some n))(hb:H.at' b=some (dat rr ne sz rt vs))(hv:(vs.drop o).take n=us)(hn:us.length=n)(ho:o+n≤ne*sz)
 (h:Wp P ro ⟨fn,nt,T.set dd (.agg (us.map .sc)),.inReg ops (i+1) l :: k,dfs,H,nx⟩ Q):Wp P ro ⟨fn,nt,T,.inReg ops i (⟨some dd,.load t x,ty,pos,af,gd⟩ :: l) :: k,dfs,H,nx⟩ Q:=
 bD hw (.inr (fun _ h=>by cases h)) ((bY ha hx hb (dO n o hv hn ho)).does) (by rw [aB hd];exact h)
theorem kf{t e:TypeId}{x y:Operand}{b n q:Nat}{kd:IntKind}{j:Int}{rr:Bool}{ne sz:Nat}{rt:TypeId}{c:Tr SV}{dd:Nat}(hw:aq T ops ⟨some dd,.indexAddr t x y,ty,pos,af,gd⟩=some true)(hd:Nat.blt dd nt=true)(hx:ao T x=some (.slu b 0 n))(hy:ao T y=some (.sc (.int kd j)))(hu:P.underlying t=some (.slice e))(hs:bv P e=some sz)(hb:H.at' b=some (.row rr ne sz rt c))(hj:j=(q:Int))(hi:q<n)(hne:n≤ne)
 (h:Wp P ro ⟨fn,nt,T.set dd (.ptr b (q*sz)),.inReg ops (i+1) l :: k,dfs,H,nx⟩ Q):Wp P ro ⟨fn,nt,T,.inReg ops i (⟨some dd,.indexAddr t x y,ty,pos,af,gd⟩ :: l) :: k,dfs,H,nx⟩ Q:=
 bD hw (.inr (fun _ h=>by cases h)) ((aH hu hs hx hy hb hj hi hne).does) (by rw [aB hd];exact h)
end
section
variable {P:Program} {nt nx:Nat} {T:Tr SV} {H:aJ} {ops:Array Oper} {i:Nat} {l:List Oper} {ty:TypeId} {pos:String} {af:Array Edge} {gd:Option (Nat×Bool)} {K:DS→Prop} {rs:List Rec} {Hs:List (aJ×Nat)} {stg:Nat}
theorem ay{x:Operand}{v:SV}{dd:Nat}(hw:aq (aD T (az ops.toList ⟨some dd,.move x,ty,pos,af,gd⟩)) ops ⟨some dd,.move x,ty,pos,af,gd⟩=some true)(hd:Nat.blt dd nt=true)(hx:ao (aD T (az ops.toList ⟨some dd,.move x,ty,pos,af,gd⟩)) x=some v)
 (h:DrawK P nt ops (i+1) l ⟨T.set dd v,H,nx,⟨i,⟨some dd,.move x,ty,pos,af,gd⟩,(aD T (az ops.toList ⟨some dd,.move x,ty,pos,af,gd⟩)),stg,false,true,v⟩ :: rs,Hs,stg⟩ K):DrawK P nt ops i (⟨some dd,.move x,ty,pos,af,gd⟩ :: l) ⟨T,H,nx,rs,Hs,stg⟩ K:=
 bj hw hd (fun _ h=>by cases h) (aC hx) h
theorem dm{x:Operand}{v:SV}{dd:Nat}(hw:aq (aD T (az ops.toList ⟨some dd,.assign x,ty,pos,af,gd⟩)) ops ⟨some dd,.assign x,ty,pos,af,gd⟩=some true)(hd:Nat.blt dd nt=true)(hx:ao (aD T (az ops.toList ⟨some dd,.assign x,ty,pos,af,gd⟩)) x=some v)
 (h:DrawK P nt ops (i+1) l ⟨T.set dd v,H,nx,⟨i,⟨some dd,.assign x,ty,pos,af,gd⟩,(aD T (az ops.toList ⟨some dd,.assign x,ty,pos,af,gd⟩)),stg,false,true,v⟩ :: rs,Hs,stg⟩ K):DrawK P nt ops i (⟨some dd,.assign x,ty,pos,af,gd⟩ :: l) ⟨T,H,nx,rs,Hs,stg⟩ K:=
 bj hw hd (fun _ h=>by cases h) (ew hx) h
theorem bS{c a b:Operand}{v:SV}{dd:Nat}(hw:aq (aD T (az ops.toList ⟨some dd,.pick c a b,ty,pos,af,gd⟩)) ops ⟨some dd,.pick c a b,ty,pos,af,gd⟩=some true)(hd:Nat.blt dd nt=true)(hc:ao (aD T (az ops.toList ⟨some dd,.pick c a b,ty,pos,af,gd⟩)) c=some (.sc (.bool true)))(hx:ao (aD T (az ops.toList ⟨some dd,.pick c a b,ty,pos,af,gd⟩)) a=some v)
 (h:DrawK P nt ops (i+1) l ⟨T.set dd v,H,nx,⟨i,⟨some dd,.pick c a b,ty,pos,af,gd⟩,(aD T (az ops.toList ⟨some dd,.pick c a b,ty,pos,af,gd⟩)),stg,false,true,v⟩ :: rs,Hs,stg⟩ K):DrawK P nt ops i (⟨some dd,.pick c a b,ty,pos,af,gd⟩ :: l) ⟨T,H,nx,rs,Hs,stg⟩ K:=
 bj hw hd (fun _ h=>by cases h) (aY hc hx) h
theorem bK{c a b:Operand}{v:SV}{dd:Nat}(hw:aq (aD T (az ops.toList ⟨some dd,.pick c a b,ty,pos,af,gd⟩)) ops ⟨some dd,.pick c a b,ty,pos,af,gd⟩=some true)(hd:Nat.blt dd nt=true)(hc:ao (aD T (az ops.toList ⟨some dd,.pick c a b,ty,pos,af,gd⟩)) c=some (.sc (.bool false)))(hx:ao (aD T (az ops.toList ⟨some dd,.pick c a b,ty,pos,af,gd⟩)) b=some v)
 (h:DrawK P nt ops (i+1) l ⟨T.set dd v,H,nx,⟨i,⟨some dd,.pick c a b,ty,pos,af,gd⟩,(aD T (az ops.toList ⟨some dd,.pick c a b,ty,pos,af,gd⟩)),stg,false,true,v⟩ :: rs,Hs,stg⟩ K):DrawK P nt ops i (⟨some dd,.pick c a b,ty,pos,af,gd⟩ :: l) ⟨T,H,nx,rs,Hs,stg⟩ K:=
 bj hw hd (fun _ h=>by cases h) (jt hc hx) h
theorem bh{x:Operand}{b o:Nat}{dd:Nat}(hw:aq (aD T (az ops.toList ⟨some dd,.nilCheck x,ty,pos,af,gd⟩)) ops ⟨some dd,.nilCheck x,ty,pos,af,gd⟩=some true)(hd:Nat.blt dd nt=true)(hx:ao (aD T (az ops.toList ⟨some dd,.nilCheck x,ty,pos,af,gd⟩)) x=some (.ptr b o))
 (h:DrawK P nt ops (i+1) l ⟨T.set dd (.ptr b o),H,nx,⟨i,⟨some dd,.nilCheck x,ty,pos,af,gd⟩,(aD T (az ops.toList ⟨some dd,.nilCheck x,ty,pos,af,gd⟩)),stg,false,true,(.ptr b o)⟩ :: rs,Hs,stg⟩ K):DrawK P nt ops i (⟨some dd,.nilCheck x,ty,pos,af,gd⟩ :: l) ⟨T,H,nx,rs,Hs,stg⟩ K:=
 bj hw hd (fun _ h=>by cases h) (br hx) h
theorem aZ{s:TypeId}{x:Operand}{f b o off:Nat}{dd:Nat}(hw:aq (aD T (az ops.toList ⟨some dd,.fieldAddr s x f,ty,pos,af,gd⟩)) ops ⟨some dd,.fieldAddr s x f,ty,pos,af,gd⟩=some true)(hd:Nat.blt dd nt=true)(hx:ao (aD T (az ops.toList ⟨some dd,.fieldAddr s x f,ty,pos,af,gd⟩)) x=some (.ptr b o))(hf:iI P s f=some off)
 (h:DrawK P nt ops (i+1) l ⟨T.set dd (.ptr b (o+off)),H,nx,⟨i,⟨some dd,.fieldAddr s x f,ty,pos,af,gd⟩,(aD T (az ops.toList ⟨some dd,.fieldAddr s x f,ty,pos,af,gd⟩)),stg,false,true,(.ptr b (o+off))⟩ :: rs,Hs,stg⟩ K):DrawK P nt ops i (⟨some dd,.fieldAddr s x f,ty,pos,af,gd⟩ :: l) ⟨T,H,nx,rs,Hs,stg⟩ K:=
 bj hw hd (fun _ h=>by cases h) (be hf hx) h
theorem cf{t:TypeId}{x:Operand}{b o:Nat}{vo:VO}{v:SV}{dd:Nat}(hw:aq (aD T (az ops.toList ⟨some dd,.load t x,ty,pos,af,gd⟩)) ops ⟨some dd,.load t x,ty,pos,af,gd⟩=some true)(hd:Nat.blt dd nt=true)(hx:ao (aD T (az ops.toList ⟨some dd,.load t x,ty,pos,af,gd⟩)) x=some (.ptr b o))(ha:bM P t=some none)(hb:H.at' b=some vo)(hv:vo.cell o=some v)
 (h:DrawK P nt ops (i+1) l ⟨T.set dd v,H,nx,⟨i,⟨some dd,.load t x,ty,pos,af,gd⟩,(aD T (az ops.toList ⟨some dd,.load t x,ty,pos,af,gd⟩)),stg,false,true,v⟩ :: rs,Hs,stg⟩ K):DrawK P nt ops i (⟨some dd,.load t x,ty,pos,af,gd⟩ :: l) ⟨T,H,nx,rs,Hs,stg⟩ K:=
 bj hw hd (fun _ h=>by cases h) (aU ha hx hb hv) h
theorem cQ{t bt:TypeId}{x:Operand}{b o:Nat}{cs:List SV}{v:SV}{dd:Nat}(hw:aq (aD T (az ops.toList ⟨some dd,.load t x,ty,pos,af,gd⟩)) ops ⟨some dd,.load t x,ty,pos,af,gd⟩=some true)(hd:Nat.blt dd nt=true)(hx:ao (aD T (az ops.toList ⟨some dd,.load t x,ty,pos,af,gd⟩)) x=some (.ptr b o))(ha:bM P t=some none)(hb:H.at' b=some (ak bt cs))(hv:cs[o]? =some v)
 (h:DrawK P nt ops (i+1) l ⟨T.set dd v,H,nx,⟨i,⟨some dd,.load t x,ty,pos,af,gd⟩,(aD T (az ops.toList ⟨some dd,.load t x,ty,pos,af,gd⟩)),stg,false,true,v⟩ :: rs,Hs,stg⟩ K):DrawK P nt ops i (⟨some dd,.load t x,ty,pos,af,gd⟩ :: l) ⟨T,H,nx,rs,Hs,stg⟩ K:=
 bj hw hd (fun _ h=>by cases h) (aU ha hx hb (aX hv)) h
theorem d9{t:TypeId}{x:Operand}{b o n:Nat}{vo:VO}{cs:List SV}{dd:Nat}(hw:aq (aD T (az ops.toList ⟨some dd,.load t x,ty,pos,af,gd⟩)) ops ⟨some dd,.load t x,ty,pos,af,gd⟩=some true)(hd:Nat.blt dd nt=true)(hx:ao (aD T (az ops.toList ⟨some dd,.load t x,ty,pos,af,gd⟩)) x=some (.ptr b o))(ha:bM P t=some (some n))(hb:H.at' b=some vo)(hv:vo.cellsFrom o n=some cs)
 (h:DrawK P nt ops (i+1) l ⟨T.set dd (.agg cs),H,nx,⟨i,⟨some dd,.load t x,ty,pos,af,gd⟩,(aD T (az ops.toList ⟨some dd,.load t x,ty,pos,af,gd⟩)),stg,false,true,(.agg cs)⟩ :: rs,Hs,stg⟩ K):DrawK P nt ops i (⟨some dd,.load t x,ty,pos,af,gd⟩ :: l) ⟨T,H,nx,rs,Hs,stg⟩ K:=
 bj hw hd (fun _ h=>by cases h) (bY ha hx hb hv) h
theorem pU{t:TypeId}{x:Operand}{cs:List SV}{dd:Nat}(hw:aq (aD T (az ops.toList ⟨some dd,.box t x,ty,pos,af,gd⟩)) ops ⟨some dd,.box t x,ty,pos,af,gd⟩=some true)(hd:Nat.blt dd nt=true)(hx:ao (aD T (az ops.toList ⟨some dd,.box t x,ty,pos,af,gd⟩)) x=some (.agg cs))
 (h:DrawK P nt ops (i+1) l ⟨T.set dd (.ptr nx 0),(H.set nx (ak t cs)),(nx+1),⟨i,⟨some dd,.box t x,ty,pos,af,gd⟩,(aD T (az ops.toList ⟨some dd,.box t x,ty,pos,af,gd⟩)),stg,true,true,(.ptr nx 0)⟩ :: rs,((H.set nx (ak t cs)),(nx+1)) :: Hs,stg+1⟩ K):DrawK P nt ops i (⟨some dd,.box t x,ty,pos,af,gd⟩ :: l) ⟨T,H,nx,rs,Hs,stg⟩ K:=
 mf hw hd (fun _ h=>by cases h) (tC hx) h
theorem lH{t bt:TypeId}{a x:Operand}{b o:Nat}{cs:List SV}{v:SV}(hw:aq (aD T (az ops.toList ⟨none,.store t a x,ty,pos,af,gd⟩)) ops ⟨none,.store t a x,ty,pos,af,gd⟩=some true)(ha:ao (aD T (az ops.toList ⟨none,.store t a x,ty,pos,af,gd⟩)) a=some (.ptr b o))(hx:ao (aD T (az ops.toList ⟨none,.store t a x,ty,pos,af,gd⟩)) x=some v)(hs:bv P t=some 1)(hb:H.at' b=some (ak bt cs))(h1:v.one=true)(ho:Nat.blt o cs.length=true)
 (h:DrawK P nt ops (i+1) l ⟨T,(H.set b (ak bt (cs.set o v))),nx,⟨i,⟨none,.store t a x,ty,pos,af,gd⟩,(aD T (az ops.toList ⟨none,.store t a x,ty,pos,af,gd⟩)),stg,true,true,cC⟩ :: rs,((H.set b (ak bt (cs.set o v))),nx) :: Hs,stg+1⟩ K):DrawK P nt ops i (⟨none,.store t a x,ty,pos,af,gd⟩ :: l) ⟨T,H,nx,rs,Hs,stg⟩ K:=
 lI hw (fun _ h=>by cases h) (nU hs ha hx hb h1 (zi ho)) h
theorem ul{t bt:TypeId}{a x:Operand}{b o n:Nat}{cs vs cs':List SV}(hw:aq (aD T (az ops.toList ⟨none,.store t a x,ty,pos,af,gd⟩)) ops ⟨none,.store t a x,ty,pos,af,gd⟩=some true)(ha:ao (aD T (az ops.toList ⟨none,.store t a x,ty,pos,af,gd⟩)) a=some (.ptr b o))(hx:ao (aD T (az ops.toList ⟨none,.store t a x,ty,pos,af,gd⟩)) x=some (.agg vs))(hs:bv P t=some n)(hb:H.at' b=some (ak bt cs))(hn:vs.length=n)(ho:o+n≤cs.length)(h1:c8 vs=true)(hc:cs.take o ++ vs ++ cs.drop (o+n)=cs')
 (h:DrawK P nt ops (i+1) l ⟨T,(H.set b (ak bt cs')),nx,⟨i,⟨none,.store t a x,ty,pos,af,gd⟩,(aD T (az ops.toList ⟨none,.store t a x,ty,pos,af,gd⟩)),stg,true,true,cC⟩ :: rs,((H.set b (ak bt cs')),nx) :: Hs,stg+1⟩ K):DrawK P nt ops i (⟨none,.store t a x,ty,pos,af,gd⟩ :: l) ⟨T,H,nx,rs,Hs,stg⟩ K:=
 lI hw (fun _ h=>by cases h) (hc ▸ iy hs ha hx rfl hb hn ho h1) h
theorem cR{t yt:TypeId}{x y:Operand}{a b:Int}{dd:Nat}(hw:aq (aD T (az ops.toList ⟨some dd,.binOp .add t x y yt,ty,pos,af,gd⟩)) ops ⟨some dd,.binOp .add t x y yt,ty,pos,af,gd⟩=some true)(hd:Nat.blt dd nt=true)(hx:ao (aD T (az ops.toList ⟨some dd,.binOp .add t x y yt,ty,pos,af,gd⟩)) x=some (.sc (.int .i64 a)))(hy:ao (aD T (az ops.toList ⟨some dd,.binOp .add t x y yt,ty,pos,af,gd⟩)) y=some (.sc (.int .i64 b)))(h1 : -9223372036854775808≤a+b)(h2:a+b≤9223372036854775807)
 (h:DrawK P nt ops (i+1) l ⟨T.set dd (.sc (.int .i64 (a+b))),H,nx,⟨i,⟨some dd,.binOp .add t x y yt,ty,pos,af,gd⟩,(aD T (az ops.toList ⟨some dd,.binOp .add t x y yt,ty,pos,af,gd⟩)),stg,false,true,(.sc (.int .i64 (a+b)))⟩ :: rs,Hs,stg⟩ K):DrawK P nt ops i (⟨some dd,.binOp .add t x y yt,ty,pos,af,gd⟩ :: l) ⟨T,H,nx,rs,Hs,stg⟩ K:=
 bj hw hd (fun _ h=>by cases h) (aK hx hy (.inl ⟨rfl,(zd _ ⟨h1,h2⟩).symm⟩)) h
theorem cW{t yt:TypeId}{x y:Operand}{a b:Int}{dd:Nat}(hw:aq (aD T (az ops.toList ⟨some dd,.binOp .sub t x y yt,ty,pos,af,gd⟩)) ops ⟨some dd,.binOp .sub t x y yt,ty,pos,af,gd⟩=some true)(hd:Nat.blt dd nt=true)(hx:ao (aD T (az ops.toList ⟨some dd,.binOp .sub t x y yt,ty,pos,af,gd⟩)) x=some (.sc (.int .i64 a)))(hy:ao (aD T (az ops.toList ⟨some dd,.binOp .sub t x y yt,ty,pos,af,gd⟩)) y=some (.sc (.int .i64 b)))(h1 : -9223372036854775808≤a-b)(h2:a-b≤9223372036854775807)
 (h:DrawK P nt ops (i+1) l ⟨T.set dd (.sc (.int .i64 (a-b))),H,nx,⟨i,⟨some dd,.binOp .sub t x y yt,ty,pos,af,gd⟩,(aD T (az ops.toList ⟨some dd,.binOp .sub t x y yt,ty,pos,af,gd⟩)),stg,false,true,(.sc (.int .i64 (a-b)))⟩ :: rs,Hs,stg⟩ K):DrawK P nt ops i (⟨some dd,.binOp .sub t x y yt,ty,pos,af,gd⟩ :: l) ⟨T,H,nx,rs,Hs,stg⟩ K:=
 bj hw hd (fun _ h=>by cases h) (aK hx hy (.inr (.inl ⟨rfl,(zd _ ⟨h1,h2⟩).symm⟩))) h
theorem yW{t yt:TypeId}{x y:Operand}{kd:IntKind}{a b:Int}{dd:Nat}(hw:aq (aD T (az ops.toList ⟨some dd,.binOp .eql t x y yt,ty,pos,af,gd⟩)) ops ⟨some dd,.binOp .eql t x y yt,ty,pos,af,gd⟩=some true)(hd:Nat.blt dd nt=true)(hx:ao (aD T (az ops.toList ⟨some dd,.binOp .eql t x y yt,ty,pos,af,gd⟩)) x=some (.sc (.int kd a)))(hy:ao (aD T (az ops.toList ⟨some dd,.binOp .eql t x y yt,ty,pos,af,gd⟩)) y=some (.sc (.int kd b)))
 (h:DrawK P nt ops (i+1) l ⟨T.set dd (.sc (.bool (a == b))),H,nx,⟨i,⟨some dd,.binOp .eql t x y yt,ty,pos,af,gd⟩,(aD T (az ops.toList ⟨some dd,.binOp .eql t x y yt,ty,pos,af,gd⟩)),stg,false,true,(.sc (.bool (a == b)))⟩ :: rs,Hs,stg⟩ K):DrawK P nt ops i (⟨some dd,.binOp .eql t x y yt,ty,pos,af,gd⟩ :: l) ⟨T,H,nx,rs,Hs,stg⟩ K:=
 bj hw hd (fun _ h=>by cases h) (fO hx hy (.inl ⟨rfl,rfl⟩)) h
theorem yT{t yt:TypeId}{x y:Operand}{kd:IntKind}{a b:Int}{dd:Nat}(hw:aq (aD T (az ops.toList ⟨some dd,.binOp .neq t x y yt,ty,pos,af,gd⟩)) ops ⟨some dd,.binOp .neq t x y yt,ty,pos,af,gd⟩=some true)(hd:Nat.blt dd nt=true)(hx:ao (aD T (az ops.toList ⟨some dd,.binOp .neq t x y yt,ty,pos,af,gd⟩)) x=some (.sc (.int kd a)))(hy:ao (aD T (az ops.toList ⟨some dd,.binOp .neq t x y yt,ty,pos,af,gd⟩)) y=some (.sc (.int kd b)))
 (h:DrawK P nt ops (i+1) l ⟨T.set dd (.sc (.bool (a != b))),H,nx,⟨i,⟨some dd,.binOp .neq t x y yt,ty,pos,af,gd⟩,(aD T (az ops.toList ⟨some dd,.binOp .neq t x y yt,ty,pos,af,gd⟩)),stg,false,true,(.sc (.bool (a != b)))⟩ :: rs,Hs,stg⟩ K):DrawK P nt ops i (⟨some dd,.binOp .neq t x y yt,ty,pos,af,gd⟩ :: l) ⟨T,H,nx,rs,Hs,stg⟩ K:=
 bj hw hd (fun _ h=>by cases h) (fO hx hy (.inr (.inl ⟨rfl,rfl⟩))) h
theorem wS{t yt:TypeId}{x y:Operand}{kd:IntKind}{a b:Int}{dd:Nat}(hw:aq (aD T (az ops.toList ⟨some dd,.binOp .lss t x y yt,ty,pos,af,gd⟩)) ops ⟨some dd,.binOp .lss t x y yt,ty,pos,af,gd⟩=some true)(hd:Nat.blt dd nt=true)(hx:ao (aD T (az ops.toList ⟨some dd,.binOp .lss t x y yt,ty,pos,af,gd⟩)) x=some (.sc (.int kd a)))(hy:ao (aD T (az ops.toList ⟨some dd,.binOp .lss t x y yt,ty,pos,af,gd⟩)) y=some (.sc (.int kd b)))
 (h:DrawK P nt ops (i+1) l ⟨T.set dd (.sc (.bool (decide (a<b)))),H,nx,⟨i,⟨some dd,.binOp .lss t x y yt,ty,pos,af,gd⟩,(aD T (az ops.toList ⟨some dd,.binOp .lss t x y yt,ty,pos,af,gd⟩)),stg,false,true,(.sc (.bool (decide (a<b))))⟩ :: rs,Hs,stg⟩ K):DrawK P nt ops i (⟨some dd,.binOp .lss t x y yt,ty,pos,af,gd⟩ :: l) ⟨T,H,nx,rs,Hs,stg⟩ K:=
 bj hw hd (fun _ h=>by cases h) (fO hx hy (.inr (.inr (.inl ⟨rfl,rfl⟩)))) h
theorem yU{t yt:TypeId}{x y:Operand}{kd:IntKind}{a b:Int}{dd:Nat}(hw:aq (aD T (az ops.toList ⟨some dd,.binOp .leq t x y yt,ty,pos,af,gd⟩)) ops ⟨some dd,.binOp .leq t x y yt,ty,pos,af,gd⟩=some true)(hd:Nat.blt dd nt=true)(hx:ao (aD T (az ops.toList ⟨some dd,.binOp .leq t x y yt,ty,pos,af,gd⟩)) x=some (.sc (.int kd a)))(hy:ao (aD T (az ops.toList ⟨some dd,.binOp .leq t x y yt,ty,pos,af,gd⟩)) y=some (.sc (.int kd b)))
 (h:DrawK P nt ops (i+1) l ⟨T.set dd (.sc (.bool (decide (a≤b)))),H,nx,⟨i,⟨some dd,.binOp .leq t x y yt,ty,pos,af,gd⟩,(aD T (az ops.toList ⟨some dd,.binOp .leq t x y yt,ty,pos,af,gd⟩)),stg,false,true,(.sc (.bool (decide (a≤b))))⟩ :: rs,Hs,stg⟩ K):DrawK P nt ops i (⟨some dd,.binOp .leq t x y yt,ty,pos,af,gd⟩ :: l) ⟨T,H,nx,rs,Hs,stg⟩ K:=
 bj hw hd (fun _ h=>by cases h) (fO hx hy (.inr (.inr (.inr (.inl ⟨rfl,rfl⟩))))) h
theorem yV{t yt:TypeId}{x y:Operand}{kd:IntKind}{a b:Int}{dd:Nat}(hw:aq (aD T (az ops.toList ⟨some dd,.binOp .gtr t x y yt,ty,pos,af,gd⟩)) ops ⟨some dd,.binOp .gtr t x y yt,ty,pos,af,gd⟩=some true)(hd:Nat.blt dd nt=true)(hx:ao (aD T (az ops.toList ⟨some dd,.binOp .gtr t x y yt,ty,pos,af,gd⟩)) x=some (.sc (.int kd a)))(hy:ao (aD T (az ops.toList ⟨some dd,.binOp .gtr t x y yt,ty,pos,af,gd⟩)) y=some (.sc (.int kd b)))
 (h:DrawK P nt ops (i+1) l ⟨T.set dd (.sc (.bool (decide (a>b)))),H,nx,⟨i,⟨some dd,.binOp .gtr t x y yt,ty,pos,af,gd⟩,(aD T (az ops.toList ⟨some dd,.binOp .gtr t x y yt,ty,pos,af,gd⟩)),stg,false,true,(.sc (.bool (decide (a>b))))⟩ :: rs,Hs,stg⟩ K):DrawK P nt ops i (⟨some dd,.binOp .gtr t x y yt,ty,pos,af,gd⟩ :: l) ⟨T,H,nx,rs,Hs,stg⟩ K:=
 bj hw hd (fun _ h=>by cases h) (fO hx hy (.inr (.inr (.inr (.inr (.inl ⟨rfl,rfl⟩)))))) h
theorem xS{t yt:TypeId}{x y:Operand}{kd:IntKind}{a b c:Int}{dd:Nat}(hw:aq (aD T (az ops.toList ⟨some dd,.binOp .rem t x y yt,ty,pos,af,gd⟩)) ops ⟨some dd,.binOp .rem t x y yt,ty,pos,af,gd⟩=some true)(hd:Nat.blt dd nt=true)(hx:ao (aD T (az ops.toList ⟨some dd,.binOp .rem t x y yt,ty,pos,af,gd⟩)) x=some (.sc (.int kd a)))(hy:ao (aD T (az ops.toList ⟨some dd,.binOp .rem t x y yt,ty,pos,af,gd⟩)) y=some (.sc (.int kd b)))(h0:b≠0)(hc:a.tmod b=c)
 (h:DrawK P nt ops (i+1) l ⟨T.set dd (.sc (.int kd c)),H,nx,⟨i,⟨some dd,.binOp .rem t x y yt,ty,pos,af,gd⟩,(aD T (az ops.toList ⟨some dd,.binOp .rem t x y yt,ty,pos,af,gd⟩)),stg,false,true,(.sc (.int kd c))⟩ :: rs,Hs,stg⟩ K):DrawK P nt ops i (⟨some dd,.binOp .rem t x y yt,ty,pos,af,gd⟩ :: l) ⟨T,H,nx,rs,Hs,stg⟩ K:=
 bj hw hd (fun _ h=>by cases h) (yE hx hy h0 hc) h
theorem pV{op:BinOp}{t yt:TypeId}{x y:Operand}{kd:IntKind}{a b c:Int}{dd:Nat}(hw:aq (aD T (az ops.toList ⟨some dd,.binOp op t x y yt,ty,pos,af,gd⟩)) ops ⟨some dd,.binOp op t x y yt,ty,pos,af,gd⟩=some true)(hd:Nat.blt dd nt=true)(hx:ao (aD T (az ops.toList ⟨some dd,.binOp op t x y yt,ty,pos,af,gd⟩)) x=some (.sc (.int kd a)))(hy:ao (aD T (az ops.toList ⟨some dd,.binOp op t x y yt,ty,pos,af,gd⟩)) y=some (.sc (.int kd b)))(ho:op = .and∨op = .or∨op = .xor∨op = .andNot)(hc:r8 op kd a b=c)
 (h:DrawK P nt ops (i+1) l ⟨T.set dd (.sc (.int kd c)),H,nx,⟨i,⟨some dd,.binOp op t x y yt,ty,pos,af,gd⟩,(aD T (az ops.toList ⟨some dd,.binOp op t x y yt,ty,pos,af,gd⟩)),stg,false,true,(.sc (.int kd c))⟩ :: rs,Hs,stg⟩ K):DrawK P nt ops i (⟨some dd,.binOp op t x y yt,ty,pos,af,gd⟩ :: l) ⟨T,H,nx,rs,Hs,stg⟩ K:=
 bj hw hd (fun _ h=>by cases h) (ti hx hy ho hc) h
theorem um{t yt:TypeId}{x y:Operand}{kd kd2:IntKind}{a b c:Int}{dd:Nat}(hw:aq (aD T (az ops.toList ⟨some dd,.binOp .shl t x y yt,ty,pos,af,gd⟩)) ops ⟨some dd,.binOp .shl t x y yt,ty,pos,af,gd⟩=some true)(hd:Nat.blt dd nt=true)(hx:ao (aD T (az ops.toList ⟨some dd,.binOp .shl t x y yt,ty,pos,af,gd⟩)) x=some (.sc (.int kd a)))(hy:ao (aD T (az ops.toList ⟨some dd,.binOp .shl t x y yt,ty,pos,af,gd⟩)) y=some (.sc (.int kd2 b)))(h0:0≤b)(hc:kd.wrap (a*2 ^ (min b.toNat kd.bits))=c)
 (h:DrawK P nt ops (i+1) l ⟨T.set dd (.sc (.int kd c)),H,nx,⟨i,⟨some dd,.binOp .shl t x y yt,ty,pos,af,gd⟩,(aD T (az ops.toList ⟨some dd,.binOp .shl t x y yt,ty,pos,af,gd⟩)),stg,false,true,(.sc (.int kd c))⟩ :: rs,Hs,stg⟩ K):DrawK P nt ops i (⟨some dd,.binOp .shl t x y yt,ty,pos,af,gd⟩ :: l) ⟨T,H,nx,rs,Hs,stg⟩ K:=
 bj hw hd (fun _ h=>by cases h) (wH hx hy h0 hc) h
theorem xQ{t yt:TypeId}{x y:Operand}{kd kd2:IntKind}{a b c:Int}{dd:Nat}(hw:aq (aD T (az ops.toList ⟨some dd,.binOp .shr t x y yt,ty,pos,af,gd⟩)) ops ⟨some dd,.binOp .shr t x y yt,ty,pos,af,gd⟩=some true)(hd:Nat.blt dd nt=true)(hx:ao (aD T (az ops.toList ⟨some dd,.binOp .shr t x y yt,ty,pos,af,gd⟩)) x=some (.sc (.int kd a)))(hy:ao (aD T (az ops.toList ⟨some dd,.binOp .shr t x y yt,ty,pos,af,gd⟩)) y=some (.sc (.int kd2 b)))(h0:0≤b)(hc:a.fdiv (2 ^ (min b.toNat kd.bits))=c)
 (h:DrawK P nt ops (i+1) l ⟨T.set dd (.sc (.int kd c)),H,nx,⟨i,⟨some dd,.binOp .shr t x y yt,ty,pos,af,gd⟩,(aD T (az ops.toList ⟨some dd,.binOp .shr t x y yt,ty,pos,af,gd⟩)),stg,false,true,(.sc (.int kd c))⟩ :: rs,Hs,stg⟩ K):DrawK P nt ops i (⟨some dd,.binOp .shr t x y yt,ty,pos,af,gd⟩ :: l) ⟨T,H,nx,rs,Hs,stg⟩ K:=
 bj hw hd (fun _ h=>by cases h) (wG hx hy h0 hc) h
theorem m8{t:TypeId}{parts:List (Nat×Operand)}{ps:List (Nat×SV)}{pl:List (Nat×Nat)}{z:Value}{cs:List SV}{dd:Nat}(hw:aq (aD T (az ops.toList ⟨some dd,.build t parts.toArray,ty,pos,af,gd⟩)) ops ⟨some dd,.build t parts.toArray,ty,pos,af,gd⟩=some true)(hd:Nat.blt dd nt=true)(hx:jJ (aD T (az ops.toList ⟨some dd,.build t parts.toArray,ty,pos,af,gd⟩)) parts=some ps)(hz:cH P t=some z)(hl:x8 P t=some pl)(hf:fT (fun i=>pl[i]?) (z.cells.toList.map .sc) ps=some cs)
 (h:DrawK P nt ops (i+1) l ⟨T.set dd (.agg cs),H,nx,⟨i,⟨some dd,.build t parts.toArray,ty,pos,af,gd⟩,(aD T (az ops.toList ⟨some dd,.build t parts.toArray,ty,pos,af,gd⟩)),stg,false,true,(.agg cs)⟩ :: rs,Hs,stg⟩ K):DrawK P nt ops i (⟨some dd,.build t parts.toArray,ty,pos,af,gd⟩ :: l) ⟨T,H,nx,rs,Hs,stg⟩ K:=
 bj hw hd (fun _ h=>by cases h) (gk hx hz hl hf) h
theorem cm{t:TypeId}{x:Operand}{b:Bool}{dd:Nat}(hw:aq (aD T (az ops.toList ⟨some dd,.unOp .not t x,ty,pos,af,gd⟩)) ops ⟨some dd,.unOp .not t x,ty,pos,af,gd⟩=some true)(hd:Nat.blt dd nt=true)(hx:ao (aD T (az ops.toList ⟨some dd,.unOp .not t x,ty,pos,af,gd⟩)) x=some (.sc (.bool b)))
 (h:DrawK P nt ops (i+1) l ⟨T.set dd (.sc (.bool (!b))),H,nx,⟨i,⟨some dd,.unOp .not t x,ty,pos,af,gd⟩,(aD T (az ops.toList ⟨some dd,.unOp .not t x,ty,pos,af,gd⟩)),stg,false,true,(.sc (.bool (!b)))⟩ :: rs,Hs,stg⟩ K):DrawK P nt ops i (⟨some dd,.unOp .not t x,ty,pos,af,gd⟩ :: l) ⟨T,H,nx,rs,Hs,stg⟩ K:=
 bj hw hd (fun _ h=>by cases h) (bE hx) h
theorem re{t e:TypeId}{x:Operand}{b eo n:Nat}{dd:Nat}(hw:aq (aD T (az ops.toList ⟨some dd,.call {callee:= .builtin .len,args:= #[x],argTypes:= #[t]},ty,pos,af,gd⟩)) ops ⟨some dd,.call {callee:= .builtin .len,args:= #[x],argTypes:= #[t]},ty,pos,af,gd⟩=some true)(hd:Nat.blt dd nt=true)(hx:ao (aD T (az ops.toList ⟨some dd,.call {callee:= .builtin .len,args:= #[x],argTypes:= #[t]},ty,pos,af,gd⟩)) x=some (.slu b eo n))(hu:P.underlying t=some (.slice e))
 (h:DrawK P nt ops (i+1) l ⟨T.set dd (.sc (.int .i64 n)),H,nx,⟨i,⟨some dd,.call {callee:= .builtin .len,args:= #[x],argTypes:= #[t]},ty,pos,af,gd⟩,(aD T (az ops.toList ⟨some dd,.call {callee:= .builtin .len,args:= #[x],argTypes:= #[t]},ty,pos,af,gd⟩)),stg,false,true,(.sc (.int .i64 n))⟩ :: rs,Hs,stg⟩ K):DrawK P nt ops i (⟨some dd,.call {callee:= .builtin .len,args:= #[x],argTypes:= #[t]},ty,pos,af,gd⟩ :: l) ⟨T,H,nx,rs,Hs,stg⟩ K:=
 bj hw hd (fun _ h=>by cases h) (ju hu hx) h
theorem ut{t:TypeId}{x:Operand}{s:ByteArray}{dd:Nat}(hw:aq (aD T (az ops.toList ⟨some dd,.call {callee:= .builtin .len,args:= #[x],argTypes:= #[t]},ty,pos,af,gd⟩)) ops ⟨some dd,.call {callee:= .builtin .len,args:= #[x],argTypes:= #[t]},ty,pos,af,gd⟩=some true)(hd:Nat.blt dd nt=true)(hx:ao (aD T (az ops.toList ⟨some dd,.call {callee:= .builtin .len,args:= #[x],argTypes:= #[t]},ty,pos,af,gd⟩)) x=some (.sc (.string s)))(hu:P.underlying t=some .string)
 (h:DrawK P nt ops (i+1) l ⟨T.set dd (.sc (.int .i64 s.size)),H,nx,⟨i,⟨some dd,.call {callee:= .builtin .len,args:= #[x],argTypes:= #[t]},ty,pos,af,gd⟩,(aD T (az ops.toList ⟨some dd,.call {callee:= .builtin .len,args:= #[x],argTypes:= #[t]},ty,pos,af,gd⟩)),stg,false,true,(.sc (.int .i64 s.size))⟩ :: rs,Hs,stg⟩ K):DrawK P nt ops i (⟨some dd,.call {callee:= .builtin .len,args:= #[x],argTypes:= #[t]},ty,pos,af,gd⟩ :: l) ⟨T,H,nx,rs,Hs,stg⟩ K:=
 bj hw hd (fun _ h=>by cases h) (nP hu hx) h
theorem vX{t e:TypeId}{x y:Operand}{b eo n:Nat}{kd:IntKind}{j:Int}{rr:Bool}{ne sz:Nat}{rt:TypeId}{c:Tr SV}{dd:Nat}(hw:aq (aD T (az ops.toList ⟨some dd,.indexAddr t x y,ty,pos,af,gd⟩)) ops ⟨some dd,.indexAddr t x y,ty,pos,af,gd⟩=some true)(hd:Nat.blt dd nt=true)(hx:ao (aD T (az ops.toList ⟨some dd,.indexAddr t x y,ty,pos,af,gd⟩)) x=some (.slu b eo n))(hy:ao (aD T (az ops.toList ⟨some dd,.indexAddr t x y,ty,pos,af,gd⟩)) y=some (.sc (.int kd j)))(hu:P.underlying t=some (.slice e))(hs:bv P e=some sz)(hb:H.at' b=some (.row rr ne sz rt c))(h0:0≤j)(hj:j<n)(hne:eo+n≤ne)
 (h:DrawK P nt ops (i+1) l ⟨T.set dd (.ptr b ((eo+j.toNat)*sz)),H,nx,⟨i,⟨some dd,.indexAddr t x y,ty,pos,af,gd⟩,(aD T (az ops.toList ⟨some dd,.indexAddr t x y,ty,pos,af,gd⟩)),stg,false,true,(.ptr b ((eo+j.toNat)*sz))⟩ :: rs,Hs,stg⟩ K):DrawK P nt ops i (⟨some dd,.indexAddr t x y,ty,pos,af,gd⟩ :: l) ⟨T,H,nx,rs,Hs,stg⟩ K:=
 bj hw hd (fun _ h=>by cases h) (qv hu hs hx hy hb h0 hj hne) h
theorem eU{t el:TypeId}{len sz:Nat}{parts:List (Nat×Operand)}{ps:List (Nat×SV)}{z:Value}{cs:List SV}{dd:Nat}(hw:aq (aD T (az ops.toList ⟨some dd,.buildSlice t len parts.toArray,ty,pos,af,gd⟩)) ops ⟨some dd,.buildSlice t len parts.toArray,ty,pos,af,gd⟩=some true)(hd:Nat.blt dd nt=true)(hu:P.underlying t=some (.slice el))(hs:bv P el=some sz)(h0:Nat.blt 0 sz=true)(hz:cH P el=some z)(hp:jJ (aD T (az ops.toList ⟨some dd,.buildSlice t len parts.toArray,ty,pos,af,gd⟩)) parts=some ps)(hf:fT (fun i=>some (i*sz,sz)) (((List.range (len*sz)).map (z.cells[·% z.cells.size]!)).map .sc) ps=some cs)(h1:c8 cs=true)(hlen:Nat.ble (len*sz) 16777216=true)(hll:cs.length=len*sz)
 (h:DrawK P nt ops (i+1) l ⟨T.set dd (.slu nx 0 len),(H.set nx (.row false len sz el (eL cs))),(nx+1),⟨i,⟨some dd,.buildSlice t len parts.toArray,ty,pos,af,gd⟩,(aD T (az ops.toList ⟨some dd,.buildSlice t len parts.toArray,ty,pos,af,gd⟩)),stg,true,true,(.slu nx 0 len)⟩ :: rs,((H.set nx (.row false len sz el (eL cs))),(nx+1)) :: Hs,stg+1⟩ K):DrawK P nt ops i (⟨some dd,.buildSlice t len parts.toArray,ty,pos,af,gd⟩ :: l) ⟨T,H,nx,rs,Hs,stg⟩ K:=
 mf hw hd (fun _ h=>by cases h) (gl hu hs (bw h0) hz hp hf h1 hlen hll) h
theorem kx{t tx el:TypeId}{sz m b:Nat}{s x:Operand}{v:SV}{vs:List Value}{dd:Nat}(hw:aq (aD T (az ops.toList ⟨some dd,.call {callee:= .builtin .append,args:= #[s,x],argTypes:= #[t,tx]},ty,pos,af,gd⟩)) ops ⟨some dd,.call {callee:= .builtin .append,args:= #[s,x],argTypes:= #[t,tx]},ty,pos,af,gd⟩=some true)(hd:Nat.blt dd nt=true)(hx0:ao (aD T (az ops.toList ⟨some dd,.call {callee:= .builtin .append,args:= #[s,x],argTypes:= #[t,tx]},ty,pos,af,gd⟩)) s=some (.sc (.slice none 0 0)))(hx:ao (aD T (az ops.toList ⟨some dd,.call {callee:= .builtin .append,args:= #[s,x],argTypes:= #[t,tx]},ty,pos,af,gd⟩)) x=some v)(hu:P.underlying t=some (.slice el))(hk:(∃ e',P.underlying tx=some (.slice e'))∨P.underlying tx=some .string)(hs:bv P el=some sz)(h0:Nat.blt 0 sz=true)(hz:eN P el sz=true)(hb:(P.info? el).map (·.bytes)=some b)(hr:RdV P H sz v m vs)(h1:rL vs)(hm1:m*b≤140737488355328)(hm2:m≤1000000000)
 (h:DrawK P nt ops (i+1) l ⟨T.set dd (.slu nx 0 m),(H.set nx (dat false m sz el vs)),(nx+1),⟨i,⟨some dd,.call {callee:= .builtin .append,args:= #[s,x],argTypes:= #[t,tx]},ty,pos,af,gd⟩,(aD T (az ops.toList ⟨some dd,.call {callee:= .builtin .append,args:= #[s,x],argTypes:= #[t,tx]},ty,pos,af,gd⟩)),stg,true,true,(.slu nx 0 m)⟩ :: rs,((H.set nx (dat false m sz el vs)),(nx+1)) :: Hs,stg+1⟩ K):DrawK P nt ops i (⟨some dd,.call {callee:= .builtin .append,args:= #[s,x],argTypes:= #[t,tx]},ty,pos,af,gd⟩ :: l) ⟨T,H,nx,rs,Hs,stg⟩ K:=
 mf hw hd (fun _ h=>by cases h) (nW hu hk hs (bw h0) hz hb hx0 hx hr h1 hm1 hm2) h
theorem ur{t rt:TypeId}{x:Operand}{b o ne sz:Nat}{rr:Bool}{vs:List Value}{v:Value}{dd:Nat}(hw:aq (aD T (az ops.toList ⟨some dd,.load t x,ty,pos,af,gd⟩)) ops ⟨some dd,.load t x,ty,pos,af,gd⟩=some true)(hd:Nat.blt dd nt=true)(hx:ao (aD T (az ops.toList ⟨some dd,.load t x,ty,pos,af,gd⟩)) x=some (.ptr b o))(ha:bM P t=some none)(hb:H.at' b=some (dat rr ne sz rt vs))(hv:vs[o]? =some v)(ho:o<ne*sz)
 (h:DrawK P nt ops (i+1) l ⟨T.set dd (.sc v),H,nx,⟨i,⟨some dd,.load t x,ty,pos,af,gd⟩,(aD T (az ops.toList ⟨some dd,.load t x,ty,pos,af,gd⟩)),stg,false,true,(.sc v)⟩ :: rs,Hs,stg⟩ K):DrawK P nt ops i (⟨some dd,.load t x,ty,pos,af,gd⟩ :: l) ⟨T,H,nx,rs,Hs,stg⟩ K:=
 bj hw hd (fun _ h=>by cases h) (aU ha hx hb (kN ho hv)) h
theorem uq{t rt:TypeId}{x:Operand}{b o n ne sz:Nat}{rr:Bool}{vs us:List Value}{dd:Nat}(hw:aq (aD T (az ops.toList ⟨some dd,.load t x,ty,pos,af,gd⟩)) ops ⟨some dd,.load t x,ty,pos,af,gd⟩=some true)(hd:Nat.blt dd nt=true)(hx:ao (aD T (az ops.toList ⟨some dd,.load t x,ty,pos,af,gd⟩)) x=some (.ptr b o))(ha:bM P t=some (some n))(hb:H.at' b=some (dat rr ne sz rt vs))(hv:(vs.drop o).take n=us)(hn:us.length=n)(ho:o+n≤ne*sz)
 (h:DrawK P nt ops (i+1) l ⟨T.set dd (.agg (us.map .sc)),H,nx,⟨i,⟨some dd,.load t x,ty,pos,af,gd⟩,(aD T (az ops.toList ⟨some dd,.load t x,ty,pos,af,gd⟩)),stg,false,true,(.agg (us.map .sc))⟩ :: rs,Hs,stg⟩ K):DrawK P nt ops i (⟨some dd,.load t x,ty,pos,af,gd⟩ :: l) ⟨T,H,nx,rs,Hs,stg⟩ K:=
 bj hw hd (fun _ h=>by cases h) (bY ha hx hb (dO n o hv hn ho)) h
theorem au{t e:TypeId}{x y:Operand}{b n q:Nat}{kd:IntKind}{j:Int}{rr:Bool}{ne sz:Nat}{rt:TypeId}{c:Tr SV}{dd:Nat}(hw:aq (aD T (az ops.toList ⟨some dd,.indexAddr t x y,ty,pos,af,gd⟩)) ops ⟨some dd,.indexAddr t x y,ty,pos,af,gd⟩=some true)(hd:Nat.blt dd nt=true)(hx:ao (aD T (az ops.toList ⟨some dd,.indexAddr t x y,ty,pos,af,gd⟩)) x=some (.slu b 0 n))(hy:ao (aD T (az ops.toList ⟨some dd,.indexAddr t x y,ty,pos,af,gd⟩)) y=some (.sc (.int kd j)))(hu:P.underlying t=some (.slice e))(hs:bv P e=some sz)(hb:H.at' b=some (.row rr ne sz rt c))(hj:j=(q:Int))(hi:q<n)(hne:n≤ne)
 (h:DrawK P nt ops (i+1) l ⟨T.set dd (.ptr b (q*sz)),H,nx,⟨i,⟨some dd,.indexAddr t x y,ty,pos,af,gd⟩,(aD T (az ops.toList ⟨some dd,.indexAddr t x y,ty,pos,af,gd⟩)),stg,false,true,(.ptr b (q*sz))⟩ :: rs,Hs,stg⟩ K):DrawK P nt ops i (⟨some dd,.indexAddr t x y,ty,pos,af,gd⟩ :: l) ⟨T,H,nx,rs,Hs,stg⟩ K:=
 bj hw hd (fun _ h=>by cases h) (aH hu hs hx hy hb hj hi hne) h
theorem a7{A:Type} [Inhabited A]{g:A→Value}{t rt:TypeId}{x:Operand}{b q ne:Nat}{rr:Bool}{d:Array A}{dd:Nat}(hw:aq (aD T (az ops.toList ⟨some dd,.load t x,ty,pos,af,gd⟩)) ops ⟨some dd,.load t x,ty,pos,af,gd⟩=some true)(hd:Nat.blt dd nt=true)(hx:ao (aD T (az ops.toList ⟨some dd,.load t x,ty,pos,af,gd⟩)) x=some (.ptr b (q*1)))(ha:bM P t=some none)(hb:H.at' b=some (arr rr ne 1 rt (fun a=> [g a]) d))(hi:q<d.size)(hne:d.size≤ne)
 (h:DrawK P nt ops (i+1) l ⟨T.set dd (.sc (g d[q]!)),H,nx,⟨i,⟨some dd,.load t x,ty,pos,af,gd⟩,(aD T (az ops.toList ⟨some dd,.load t x,ty,pos,af,gd⟩)),stg,false,true,(.sc (g d[q]!))⟩ :: rs,Hs,stg⟩ K):DrawK P nt ops i (⟨some dd,.load t x,ty,pos,af,gd⟩ :: l) ⟨T,H,nx,rs,Hs,stg⟩ K:=
 bj hw hd (fun _ h=>by cases h) (yF ha hx hb hi hne) h
theorem bU{A:Type}{g:A→Value}{t rt:TypeId}{a x:Operand}{b q ne:Nat}{d:Array A}{v:A}(hw:aq (aD T (az ops.toList ⟨none,.store t a x,ty,pos,af,gd⟩)) ops ⟨none,.store t a x,ty,pos,af,gd⟩=some true)(ha:ao (aD T (az ops.toList ⟨none,.store t a x,ty,pos,af,gd⟩)) a=some (.ptr b (q*1)))(hx:ao (aD T (az ops.toList ⟨none,.store t a x,ty,pos,af,gd⟩)) x=some (.sc (g v)))(hg: ∀ a,(g a).oneCell'=true)(hs:bv P t=some 1)(hb:H.at' b=some (arr false ne 1 rt (fun a=> [g a]) d))(hi:q<d.size)(hne:d.size≤ne)
 (h:DrawK P nt ops (i+1) l ⟨T,(H.set b (arr false ne 1 rt (fun a=> [g a]) (d.setIfInBounds q v))),nx,⟨i,⟨none,.store t a x,ty,pos,af,gd⟩,(aD T (az ops.toList ⟨none,.store t a x,ty,pos,af,gd⟩)),stg,true,true,cC⟩ :: rs,((H.set b (arr false ne 1 rt (fun a=> [g a]) (d.setIfInBounds q v))),nx) :: Hs,stg+1⟩ K):DrawK P nt ops i (⟨none,.store t a x,ty,pos,af,gd⟩ :: l) ⟨T,H,nx,rs,Hs,stg⟩ K:=
 lI hw (fun _ h=>by cases h) (yJ (f:=fun a=> [g a]) (v:=v) hs ha hx (uE (hg v)) (nO hg) hb hi hne) h
theorem uu{t yt:TypeId}{x y:Operand}{kd:IntKind}{a b:Int}{dd:Nat}(hw:aq (aD T (az ops.toList ⟨some dd,.binOp .eql t x y yt,ty,pos,af,gd⟩)) ops ⟨some dd,.binOp .eql t x y yt,ty,pos,af,gd⟩=some true)(hd:Nat.blt dd nt=true)(hx:ao (aD T (az ops.toList ⟨some dd,.binOp .eql t x y yt,ty,pos,af,gd⟩)) x=some (.sc (.int kd a)))(hy:ao (aD T (az ops.toList ⟨some dd,.binOp .eql t x y yt,ty,pos,af,gd⟩)) y=some (.sc (.int kd b)))
 (h1:a=b→DrawK P nt ops (i+1) l ⟨T.set dd (.sc (.bool true)),H,nx,⟨i,⟨some dd,.binOp .eql t x y yt,ty,pos,af,gd⟩,(aD T (az ops.toList ⟨some dd,.binOp .eql t x y yt,ty,pos,af,gd⟩)),stg,false,true,(.sc (.bool true))⟩ :: rs,Hs,stg⟩ K) (h2:a≠b→DrawK P nt ops (i+1) l ⟨T.set dd (.sc (.bool false)),H,nx,⟨i,⟨some dd,.binOp .eql t x y yt,ty,pos,af,gd⟩,(aD T (az ops.toList ⟨some dd,.binOp .eql t x y yt,ty,pos,af,gd⟩)),stg,false,true,(.sc (.bool false))⟩ :: rs,Hs,stg⟩ K):DrawK P nt ops i (⟨some dd,.binOp .eql t x y yt,ty,pos,af,gd⟩ :: l) ⟨T,H,nx,rs,Hs,stg⟩ K:=by
 refine yW hw hd hx hy ?_
 by_cases hc:a=b
 ·have e:(a == b)=true:=by simp;omega
  rw [e];exact h1 hc
 ·have e:(a == b)=false:=by simp;omega
  rw [e];exact h2 (by omega)
theorem pT{t yt:TypeId}{x y:Operand}{kd:IntKind}{a b:Int}{dd:Nat}(hw:aq (aD T (az ops.toList ⟨some dd,.binOp .neq t x y yt,ty,pos,af,gd⟩)) ops ⟨some dd,.binOp .neq t x y yt,ty,pos,af,gd⟩=some true)(hd:Nat.blt dd nt=true)(hx:ao (aD T (az ops.toList ⟨some dd,.binOp .neq t x y yt,ty,pos,af,gd⟩)) x=some (.sc (.int kd a)))(hy:ao (aD T (az ops.toList ⟨some dd,.binOp .neq t x y yt,ty,pos,af,gd⟩)) y=some (.sc (.int kd b)))
 (h1:a≠b→DrawK P nt ops (i+1) l ⟨T.set dd (.sc (.bool true)),H,nx,⟨i,⟨some dd,.binOp .neq t x y yt,ty,pos,af,gd⟩,(aD T (az ops.toList ⟨some dd,.binOp .neq t x y yt,ty,pos,af,gd⟩)),stg,false,true,(.sc (.bool true))⟩ :: rs,Hs,stg⟩ K) (h2:a=b→DrawK P nt ops (i+1) l ⟨T.set dd (.sc (.bool false)),H,nx,⟨i,⟨some dd,.binOp .neq t x y yt,ty,pos,af,gd⟩,(aD T (az ops.toList ⟨some dd,.binOp .neq t x y yt,ty,pos,af,gd⟩)),stg,false,true,(.sc (.bool false))⟩ :: rs,Hs,stg⟩ K):DrawK P nt ops i (⟨some dd,.binOp .neq t x y yt,ty,pos,af,gd⟩ :: l) ⟨T,H,nx,rs,Hs,stg⟩ K:=by
 refine yT hw hd hx hy ?_
 by_cases hc:a≠b
 ·have e:(a != b)=true:=by simp;omega
  rw [e];exact h1 hc
 ·have e:(a != b)=false:=by simp;omega
  rw [e];exact h2 (by omega)
theorem m6{t yt:TypeId}{x y:Operand}{kd:IntKind}{a b:Int}{dd:Nat}(hw:aq (aD T (az ops.toList ⟨some dd,.binOp .lss t x y yt,ty,pos,af,gd⟩)) ops ⟨some dd,.binOp .lss t x y yt,ty,pos,af,gd⟩=some true)(hd:Nat.blt dd nt=true)(hx:ao (aD T (az ops.toList ⟨some dd,.binOp .lss t x y yt,ty,pos,af,gd⟩)) x=some (.sc (.int kd a)))(hy:ao (aD T (az ops.toList ⟨some dd,.binOp .lss t x y yt,ty,pos,af,gd⟩)) y=some (.sc (.int kd b)))
 (h1:a<b→DrawK P nt ops (i+1) l ⟨T.set dd (.sc (.bool true)),H,nx,⟨i,⟨some dd,.binOp .lss t x y yt,ty,pos,af,gd⟩,(aD T (az ops.toList ⟨some dd,.binOp .lss t x y yt,ty,pos,af,gd⟩)),stg,false,true,(.sc (.bool true))⟩ :: rs,Hs,stg⟩ K) (h2:b≤a→DrawK P nt ops (i+1) l ⟨T.set dd (.sc (.bool false)),H,nx,⟨i,⟨some dd,.binOp .lss t x y yt,ty,pos,af,gd⟩,(aD T (az ops.toList ⟨some dd,.binOp .lss t x y yt,ty,pos,af,gd⟩)),stg,false,true,(.sc (.bool false))⟩ :: rs,Hs,stg⟩ K):DrawK P nt ops i (⟨some dd,.binOp .lss t x y yt,ty,pos,af,gd⟩ :: l) ⟨T,H,nx,rs,Hs,stg⟩ K:=by
 refine wS hw hd hx hy ?_
 by_cases hc:a<b
 ·have e:(decide (a<b))=true:=by simp;omega
  rw [e];exact h1 hc
 ·have e:(decide (a<b))=false:=by simp;omega
  rw [e];exact h2 (by omega)
theorem eM{t yt:TypeId}{x y:Operand}{kd:IntKind}{a b:Int}{dd:Nat}(hw:aq (aD T (az ops.toList ⟨some dd,.binOp .leq t x y yt,ty,pos,af,gd⟩)) ops ⟨some dd,.binOp .leq t x y yt,ty,pos,af,gd⟩=some true)(hd:Nat.blt dd nt=true)(hx:ao (aD T (az ops.toList ⟨some dd,.binOp .leq t x y yt,ty,pos,af,gd⟩)) x=some (.sc (.int kd a)))(hy:ao (aD T (az ops.toList ⟨some dd,.binOp .leq t x y yt,ty,pos,af,gd⟩)) y=some (.sc (.int kd b)))
 (h1:a≤b→DrawK P nt ops (i+1) l ⟨T.set dd (.sc (.bool true)),H,nx,⟨i,⟨some dd,.binOp .leq t x y yt,ty,pos,af,gd⟩,(aD T (az ops.toList ⟨some dd,.binOp .leq t x y yt,ty,pos,af,gd⟩)),stg,false,true,(.sc (.bool true))⟩ :: rs,Hs,stg⟩ K) (h2:b<a→DrawK P nt ops (i+1) l ⟨T.set dd (.sc (.bool false)),H,nx,⟨i,⟨some dd,.binOp .leq t x y yt,ty,pos,af,gd⟩,(aD T (az ops.toList ⟨some dd,.binOp .leq t x y yt,ty,pos,af,gd⟩)),stg,false,true,(.sc (.bool false))⟩ :: rs,Hs,stg⟩ K):DrawK P nt ops i (⟨some dd,.binOp .leq t x y yt,ty,pos,af,gd⟩ :: l) ⟨T,H,nx,rs,Hs,stg⟩ K:=by
 refine yU hw hd hx hy ?_
 by_cases hc:a≤b
 ·have e:(decide (a≤b))=true:=by simp;omega
  rw [e];exact h1 hc
 ·have e:(decide (a≤b))=false:=by simp;omega
  rw [e];exact h2 (by omega)
theorem m7{t yt:TypeId}{x y:Operand}{kd:IntKind}{a b:Int}{dd:Nat}(hw:aq (aD T (az ops.toList ⟨some dd,.binOp .gtr t x y yt,ty,pos,af,gd⟩)) ops ⟨some dd,.binOp .gtr t x y yt,ty,pos,af,gd⟩=some true)(hd:Nat.blt dd nt=true)(hx:ao (aD T (az ops.toList ⟨some dd,.binOp .gtr t x y yt,ty,pos,af,gd⟩)) x=some (.sc (.int kd a)))(hy:ao (aD T (az ops.toList ⟨some dd,.binOp .gtr t x y yt,ty,pos,af,gd⟩)) y=some (.sc (.int kd b)))
 (h1:b<a→DrawK P nt ops (i+1) l ⟨T.set dd (.sc (.bool true)),H,nx,⟨i,⟨some dd,.binOp .gtr t x y yt,ty,pos,af,gd⟩,(aD T (az ops.toList ⟨some dd,.binOp .gtr t x y yt,ty,pos,af,gd⟩)),stg,false,true,(.sc (.bool true))⟩ :: rs,Hs,stg⟩ K) (h2:a≤b→DrawK P nt ops (i+1) l ⟨T.set dd (.sc (.bool false)),H,nx,⟨i,⟨some dd,.binOp .gtr t x y yt,ty,pos,af,gd⟩,(aD T (az ops.toList ⟨some dd,.binOp .gtr t x y yt,ty,pos,af,gd⟩)),stg,false,true,(.sc (.bool false))⟩ :: rs,Hs,stg⟩ K):DrawK P nt ops i (⟨some dd,.binOp .gtr t x y yt,ty,pos,af,gd⟩ :: l) ⟨T,H,nx,rs,Hs,stg⟩ K:=by
 refine yV hw hd hx hy ?_
 by_cases hc:b<a
 ·have e:(decide (a>b))=true:=by simp;omega
  rw [e];exact h1 hc
 ·have e:(decide (a>b))=false:=by simp;omega
  rw [e];exact h2 (by omega)
end
def j5(k:IntKind)(l:List Int):List Value:=l.map fun n=> .int k n
theorem nJ{P:Program}{t:TypeId}{k:IntKind}{l:List Int}{i:Nat}(hu:P.underlying t=some (.int k))(hi:i<l.length)(w:World):(part t (j5 k l).toArray (i*1)).run P w = .ok (.int k l[i]) w:=by
 have hv:(j5 k l).toArray[i]? =some (.int k l[i]):=by
  simp [j5,zg hi]
 rw [Nat.mul_one]
 generalize (j5 k l).toArray=cs at hv
 simp [part,isAgg,run_underlying hu,hv]
theorem gT{P:Program}{e:TypeId}{k:IntKind}(hu:P.underlying e=some (.int k))(d:Nat)(xs ys:List Int)(w:World): ∀ is:List Nat,(∀ i∈is,i<xs.length∧i<ys.length)→(Op.eqItems (d+1) e 1 (j5 k xs).toArray (j5 k ys).toArray is).run P w = .ok (is.all fun i=>xs[i]? == ys[i]?) w
 | [],_=>by simp [Op.eqItems]
 | i :: is,h=>by
   obtain⟨h1,h2⟩:=h i List.mem_cons_self
   simp only [Op.eqItems,Sem.run_bind,nJ hu h1,nJ hu h2,run_equalIn_int w d e k k _ _ hu,Result.andThen_ok]
   have ih:=gT hu d xs ys w is fun j hj=>h j (List.mem_cons_of_mem _ hj)
   rw [List.all_cons,zg h1,zg h2]
   by_cases he:xs[i]=ys[i]
   ·simp [he,ih]
   ·simp [he]
theorem pg{xs ys:List Int}{n:Nat}(hx:xs.length=n)(hy:ys.length=n):((List.range n).all fun i=>xs[i]? == ys[i]?)=decide (xs=ys):=by
 by_cases h:xs=ys
 ·subst h
  simp
 ·rw [decide_eq_false h]
  cases h':(List.range n).all fun i=>xs[i]? == ys[i]? with
  | false=>rfl
  | true=>
    refine absurd (List.ext_getElem? fun i=>?_) h
    rw [List.all_eq_true] at h'
    rcases Nat.lt_or_ge i n with hi|hi
    ·simpa using h' i (List.mem_range.2 hi)
    ·rw [List.getElem?_eq_none (by omega),List.getElem?_eq_none (by omega)]
theorem nL{P:Program}{t e:TypeId}{n:Nat}{k:IntKind}{i:TypeInfo}(hu:P.underlying t=some (.array n e))(hi:P.info? e=some i)(hc:P.cellsOf e=1)(he:P.underlying e=some (.int k)){xs ys:List Int}(hx:xs.length=n)(hy:ys.length=n)(w:World) :
 (Op.equalIn 10000 t (.agg (j5 k xs).toArray) (.agg (j5 k ys).toArray)).run P w = .ok (decide (xs=ys)) w:=by
 rw [show(10000:Nat)=9998+1+1 from rfl,run_equalIn_array w (9998+1) _ _ hu hi,hc,gT he 9998 xs ys w _ (fun i hi=>by rw [hx,hy];exact⟨List.mem_range.1 hi,List.mem_range.1 hi⟩),pg hx hy]
section
variable {P:Program} {H:aJ} {T:Tr SV} {nx:Nat}
variable {d:Option Tmp} {ty:TypeId} {pos:String} {af:Array Edge} {gd:Option (Nat×Bool)}
theorem iM{e:Env}{l:List Value}{v:Value}(h:(SV.agg (l.map .sc)).conc e=some v):v = .agg l.toArray:=by
 have hl: ∀ l:List Value,SV.aM e (l.map .sc)=some l:=fun l=>by
  induction l with
  | nil=>rfl
  | cons x l ih=>exact bo rfl ih
 simp only [SV.conc,hl,zF,zc] at h
 exact h.symm
theorem tf{t e:TypeId}{n:Nat}{k:IntKind}{i:TypeInfo}(hu:P.underlying t=some (.array n e))(hi:P.info? e=some i)(hc:P.cellsOf e=1)(he:P.underlying e=some (.int k))(hg:P.eqGuardType P.depth t=false){x y:Operand}{yt:TypeId}{xs ys:List Int}(hlx:xs.length=n)(hly:ys.length=n)(hx:ao T x=some (.agg ((j5 k xs).map .sc)))(hy:ao T y=some (.agg ((j5 k ys).map .sc))) :
 ReadDoes P T H ⟨d,.binOp .eql t x y yt,ty,pos,af,gd⟩ (.sc (.bool (decide (xs=ys)))):=by
 intro K w0 ev nx w en hS hE
 refine⟨_,rfl,?_⟩
 have e1:=iM (hE x _ hx)
 have e2:=iM (hE y _ hy)
 simp [execOp,e1,e2,run_eqGuard_agg (P:=P) w .eql t x y _ _ hg,run_eql_struct,nL hu hi hc he hlx hly]
theorem tc{t e:TypeId}{n:Nat}{k:IntKind}{i:TypeInfo}(hu:P.underlying t=some (.array n e))(hi:P.info? e=some i)(hc:P.cellsOf e=1)(he:P.underlying e=some (.int k))(hg:P.eqGuardType P.depth t=false){x y:Operand}{yt:TypeId}{xs ys:List Int}(hlx:xs.length=n)(hly:ys.length=n)(hx:ao T x=some (.agg ((j5 k xs).map .sc)))(hy:ao T y=some (.agg ((j5 k ys).map .sc))) :
 ReadDoes P T H ⟨d,.binOp .neq t x y yt,ty,pos,af,gd⟩ (.sc (.bool (!decide (xs=ys)))):=by
 intro K w0 ev nx w en hS hE
 refine⟨_,rfl,?_⟩
 have e1:=iM (hE x _ hx)
 have e2:=iM (hE y _ hy)
 simp [execOp,e1,e2,run_eqGuard_agg (P:=P) w .neq t x y _ _ hg,run_neq_struct,nL hu hi hc he hlx hly]
end
end Go.Sy
end
section
namespace Go.Proofs.Ytbmekelkddllkaa
open Go Go.Sy
namespace F
def chk{A:Type}(f:Nat→Option A):Nat→List (Option A)→List (Option A)
 | _,[]=> []
 | i,none :: l=>none :: chk f (i+1) l
 | i,some _ :: l=>f i :: chk f (i+1) l
theorem im{A:Type}{f:Nat→Option A}: ∀ {l:List (Option A)} {k:Nat},chk f k l=l→ ∀ {i:Nat} {x:A},l[i]? =some (some x)→f (k+i)=some x
 | none :: l,k,h,0,x,hx=>by simp at hx
 | some y :: l,k,h,0,x,hx=>by
   simp only [chk,List.cons.injEq] at h
   rw [Nat.add_zero,h.1]
   simpa using hx
 | none :: l,k,h,i+1,x,hx=>by
   simp only [chk,List.cons.injEq] at h
   rw [show k+(i+1)=k+1+i by omega]
   exact im h.2 (by simpa using hx)
 | some y :: l,k,h,i+1,x,hx=>by
   simp only [chk,List.cons.injEq] at h
   rw [show k+(i+1)=k+1+i by omega]
   exact im h.2 (by simpa using hx)
def yd(f:Nat→Option Nat):Nat→List Nat→List (Option Nat)
 | _,[]=> []
 | k,_ :: l=>f k :: yd f (k+1) l
theorem rg{f:Nat→Option Nat}: ∀ {l:List Nat} {k:Nat},yd f k l=l.map some→ ∀ {i x:Nat},l[i]? =some x→f (k+i)=some x
 | y :: l,k,h,0,x,hx=>by
   simp only [yd,zB,List.cons.injEq] at h
   rw [Nat.add_zero,h.1]
   simpa using hx
 | y :: l,k,h,i+1,x,hx=>by
   simp only [yd,zB,List.cons.injEq] at h
   rw [show k+(i+1)=k+1+i by omega]
   exact rg h.2 (by simpa using hx)
def y4(f:Nat→Nat→Option Nat):Nat→List (Option (List Nat))→Prop
 | _,[]=>True
 | i,none :: l=>y4 f (i+1) l
 | i,some r :: l=>yd (f i) 0 r=r.map some∧y4 f (i+1) l
theorem nr{f:Nat→Nat→Option Nat}: ∀ {l:List (Option (List Nat))} {k:Nat},y4 f k l→ ∀ {i:Nat} {x:List Nat},l[i]? =some (some x)→yd (f (k+i)) 0 x=x.map some
 | none :: l,k,h,0,x,hx=>by simp at hx
 | some y :: l,k,h,0,x,hx=>by
   have e:y=x:=by simpa using hx
   subst e
   exact h.1
 | none :: l,k,h,i+1,x,hx=>by
   rw [show k+(i+1)=k+1+i by omega]
   exact nr (l:=l) h (by simpa using hx)
 | some y :: l,k,h,i+1,x,hx=>by
   rw [show k+(i+1)=k+1+i by omega]
   exact nr (l:=l) h.2 (by simpa using hx)
def szL:List (Option (Nat)):= [some 1,some 1,some 1,some 1,some 1,some 1,some 1,some 4,some 4,some 1,some 1,some 1,some 1,some 2,some 2,some 1,some 1,some 1,some 1,some 1,some 1,some 1,some 1,some 1,some 1,some 1,some 1,some 1,some 1,some 1,some 1,some 1,some 1,some 1,some 6,some 6,some 1,some 1,some 1,some 1,some 1,some 1,some 1,some 1,some 256,some 256,some 1,some 1,some 1,some 1,some 1,some 1,some 1,some 1,some 1,some 1,some 1,some 6,some 6,some 1,some 1,some 1,some 1,some 1,some 1,some 1,some 1,some 1,some 1,some 1,some 1,some 1,some 1,some 1,some 1,some 1,some 1,some 1,some 1,some 257,some 257,some 1,some 1,some 1,some 1,some 1,some 1,some 1,some 5,some 5,some 1,some 1,some 1,some 1,some 1,some 1,some 2,some 2,some 1,some 1,some 1,some 1,some 1,some 1,some 1,some 1,some 1,some 1,some 1,some 1,some 1,some 1,some 1,some 1,some 1,some 1,some 1,some 1,some 1,some 1,some 1,some 1,some 1,some 1,some 1,some 1,some 1,some 1,some 1,some 1,some 1,some 1,some 1,some 1,some 1,some 1,some 4,some 4,some 0,some 0,some 0,some 1,some 1,some 1,some 1,some 1,some 1,some 11,some 11,some 258,some 258,some 1]
theorem szOk:chk (fun i=>bv Try.prog i) 0 szL=szL:=by kernel_rfl
theorem sz(i:Nat){x:Nat}(h:szL[i]? =some (some x)):bv Try.prog i=some x:=by
 have:=im szOk h
 simpa using this
def agL:List (Option (Option Nat)):= [some (none),some (none),some (none),some (none),some (none),some (none),some (none),some ((some 4)),some ((some 4)),some (none),some (none),some (none),some (none),some ((some 2)),some ((some 2)),some (none),some (none),some (none),some ((some 1)),some ((some 1)),some (none),some (none),some (none),some (none),some (none),some (none),some (none),some (none),some (none),some (none),some (none),some (none),some (none),some (none),some ((some 6)),some ((some 6)),some (none),some (none),some (none),some (none),some (none),some (none),some (none),some (none),some ((some 256)),some ((some 256)),some (none),some (none),some (none),some (none),some (none),some (none),some (none),some (none),some (none),some (none),some (none),some ((some 6)),some ((some 6)),some (none),some (none),some (none),some ((some 1)),some ((some 1)),some (none),some (none),some (none),some (none),some (none),some (none),some (none),some (none),some (none),some (none),some (none),some (none),some (none),some (none),some (none),some ((some 257)),some ((some 257)),some (none),some (none),some (none),some (none),some (none),some (none),some (none),some ((some 5)),some ((some 5)),some (none),some (none),some (none),some (none),some (none),some (none),some ((some 2)),some ((some 2)),some (none),some (none),some (none),some (none),some (none),some (none),some (none),some (none),some (none),some (none),some (none),some (none),some (none),some (none),some (none),some (none),some (none),some (none),some (none),some (none),some (none),some (none),some (none),some (none),some (none),some (none),some (none),some (none),some (none),some (none),some (none),some (none),some (none),some (none),some (none),some (none),some (none),some (none),some ((some 4)),some ((some 4)),some ((some 0)),some ((some 0)),some ((some 0)),some (none),some (none),some (none),some (none),some (none),some (none),some ((some 11)),some ((some 11)),some ((some 258)),some ((some 258)),some (none)]
theorem agOk:chk (fun i=>bM Try.prog i) 0 agL=agL:=by kernel_rfl
theorem ag(i:Nat){x:Option Nat}(h:agL[i]? =some (some x)):bM Try.prog i=some x:=by
 have:=im agOk h
 simpa using this
def zlL:List (Option (List SV)):= [none,some ([.sc (.nilFunc)]),some ([.sc (.int .i64 0)]),some ([.sc (.int .i64 0)]),some ([.sc (.bool false)]),some ([.sc (.int .u8 0)]),some ([.sc (.int .u8 0)]),some ([.sc (.int .i64 0),.sc (.int .i64 0),.sc (.bool false),.sc (.int .u8 0)]),some ([.sc (.int .i64 0),.sc (.int .i64 0),.sc (.bool false),.sc (.int .u8 0)]),some ([.sc (.string ⟨#[]⟩)]),some ([.sc (.string ⟨#[]⟩)]),some ([.sc (.string ⟨#[]⟩)]),some ([.sc (.int .u64 0)]),some ([.sc (.string ⟨#[]⟩),.sc (.int .u64 0)]),some ([.sc (.string ⟨#[]⟩),.sc (.int .u64 0)]),some ([.sc (.pointer none)]),some ([.sc (.pointer none)]),some ([.sc (.pointer none)]),some ([.sc (.pointer none)]),some ([.sc (.pointer none)]),some ([.sc (.nilIface)]),some ([.sc (.int .i32 0)]),some ([.sc (.slice none 0 0)]),some ([.sc (.nilFunc)]),some ([.sc (.nilFunc)]),some ([.sc (.pointer none)]),some ([.sc (.int .i64 0)]),none,some ([.sc (.nilFunc)]),some ([.sc (.nilFunc)]),some ([.sc (.nilFunc)]),none,some ([.sc (.nilFunc)]),some ([.sc (.slice none 0 0)]),some ([.sc (.int .i64 0),.sc (.int .i64 0),.sc (.string ⟨#[]⟩),.sc (.string ⟨#[]⟩),.sc (.int .u8 0),.sc (.slice none 0 0)]),some ([.sc (.int .i64 0),.sc (.int .i64 0),.sc (.string ⟨#[]⟩),.sc (.string ⟨#[]⟩),.sc (.int .u8 0),.sc (.slice none 0 0)]),some ([.sc (.nilFunc)]),some ([.sc (.nilFunc)]),some ([.sc (.nilFunc)]),some ([.sc (.nilFunc)]),some ([.sc (.nilFunc)]),some ([.sc (.nilFunc)]),some ([.sc (.nilFunc)]),some ([.sc (.nilFunc)]),none,none,none,some ([.sc (.nilFunc)]),none,some ([.sc (.nilFunc)]),some ([.sc (.nilFunc)]),some ([.sc (.nilFunc)]),some ([.sc (.nilFunc)]),some ([.sc (.slice none 0 0)]),some ([.sc (.nilFunc)]),some ([.sc (.nilFunc)]),some ([.sc (.map none)]),some ([.sc (.int .i64 0),.sc (.map none),.sc (.int .i64 0),.sc (.int .i64 0),.sc (.bool false),.sc (.int .i64 0)]),some ([.sc (.int .i64 0),.sc (.map none),.sc (.int .i64 0),.sc (.int .i64 0),.sc (.bool false),.sc (.int .i64 0)]),some ([.sc (.nilFunc)]),some ([.sc (.nilFunc)]),some ([.sc (.map none)]),some ([.sc (.map none)]),some ([.sc (.map none)]),some ([.sc (.pointer none)]),some ([.sc (.slice none 0 0)]),some ([.sc (.nilFunc)]),some ([.sc (.nilFunc)]),some ([.sc (.nilFunc)]),some ([.sc (.nilFunc)]),some ([.sc (.nilFunc)]),none,some ([.sc (.nilFunc)]),some ([.sc (.nilFunc)]),some ([.sc (.nilFunc)]),some ([.sc (.nilFunc)]),some ([.sc (.nilFunc)]),some ([.sc (.pointer none)]),some ([.sc (.slice none 0 0)]),none,none,some ([.sc (.nilFunc)]),some ([.sc (.nilFunc)]),some ([.sc (.nilFunc)]),some ([.sc (.nilFunc)]),some ([.sc (.nilFunc)]),some ([.sc (.pointer none)]),some ([.sc (.slice none 0 0)]),some ([.sc (.slice none 0 0),.sc (.int .i64 0),.sc (.int .i64 0),.sc (.bool false),.sc (.int .i64 0)]),some ([.sc (.slice none 0 0),.sc (.int .i64 0),.sc (.int .i64 0),.sc (.bool false),.sc (.int .i64 0)]),some ([.sc (.nilFunc)]),some ([.sc (.nilFunc)]),some ([.sc (.nilFunc)]),some ([.sc (.nilFunc)]),some ([.sc (.nilFunc)]),some ([.sc (.slice none 0 0)]),some ([.sc (.string ⟨#[]⟩),.sc (.slice none 0 0)]),some ([.sc (.string ⟨#[]⟩),.sc (.slice none 0 0)]),some ([.sc (.nilFunc)]),some ([.sc (.nilFunc)]),some ([.sc (.nilFunc)]),some ([.sc (.int .u64 0)]),some ([.sc (.nilFunc)]),some ([.sc (.nilFunc)]),some ([.sc (.nilFunc)]),some ([.sc (.int .i64 0)]),none,some ([.sc (.nilFunc)]),some ([.sc (.nilFunc)]),some ([.sc (.nilFunc)]),some ([.sc (.nilFunc)]),none,some ([.sc (.nilFunc)]),some ([.sc (.nilFunc)]),some ([.sc (.int .u32 0)]),some ([.sc (.nilFunc)]),some ([.sc (.int .u64 0)]),some ([.sc (.nilFunc)]),some ([.sc (.nilFunc)]),some ([.sc (.nilFunc)]),some ([.sc (.nilFunc)]),some ([.sc (.nilFunc)]),some ([.sc (.nilFunc)]),some ([.sc (.int .u64 0)]),some ([.sc (.nilFunc)]),some ([.sc (.nilFunc)]),some ([.sc (.nilFunc)]),some ([.sc (.pointer none)]),some ([.sc (.nilFunc)]),some ([.sc (.nilFunc)]),some ([.sc (.nilFunc)]),some ([.sc (.pointer none)]),none,some ([.sc (.nilFunc)]),some ([.sc (.nilFunc)]),some ([.sc (.nilFunc)]),some ([.sc (.pointer none),.sc (.pointer none),.sc (.pointer none),.sc (.string ⟨#[]⟩)]),some ([.sc (.pointer none),.sc (.pointer none),.sc (.pointer none),.sc (.string ⟨#[]⟩)]),some ([]),some ([]),some ([]),some ([.sc (.int .u8 0)]),some ([.sc (.int .u8 0)]),some ([.sc (.nilFunc)]),some ([.sc (.pointer none)]),some ([.sc (.int .i32 0)]),some ([.sc (.int .i32 0)]),some ([.sc (.int .u64 0),.sc (.int .u64 0),.sc (.int .u32 0),.sc (.int .u8 0),.sc (.int .u8 0),.sc (.int .u8 0),.sc (.int .u8 0),.sc (.nilFunc),.sc (.pointer none),.sc (.int .i32 0),.sc (.int .i32 0)]),some ([.sc (.int .u64 0),.sc (.int .u64 0),.sc (.int .u32 0),.sc (.int .u8 0),.sc (.int .u8 0),.sc (.int .u8 0),.sc (.int .u8 0),.sc (.nilFunc),.sc (.pointer none),.sc (.int .i32 0),.sc (.int .i32 0)]),none,none,some ([.sc (.pointer none)])]
theorem zlOk:chk (fun i=>ry Try.prog i) 0 zlL=zlL:=by kernel_rfl
theorem zl(i:Nat){x:List SV}(h:zlL[i]? =some (some x)):ry Try.prog i=some x:=by
 have:=im zlOk h
 simpa using this
def plL:List (Option (List (Nat×Nat))):= [none,none,none,none,none,none,none,some ([(0,1),(1,1),(2,1),(3,1)]),some ([(0,1),(1,1),(2,1),(3,1)]),none,none,none,none,some ([(0,1),(1,1)]),some ([(0,1),(1,1)]),none,none,none,some ([(0,1)]),some ([(0,1)]),none,none,none,none,none,none,none,none,none,none,none,none,none,none,some ([(0,1),(1,1),(2,1),(3,1),(4,1),(5,1)]),some ([(0,1),(1,1),(2,1),(3,1),(4,1),(5,1)]),none,none,none,none,none,none,none,none,none,none,none,none,none,none,none,none,none,none,none,none,none,some ([(0,1),(1,1),(2,1),(3,1),(4,1),(5,1)]),some ([(0,1),(1,1),(2,1),(3,1),(4,1),(5,1)]),none,none,none,some ([(0,1)]),some ([(0,1)]),none,none,none,none,none,none,none,none,none,none,none,none,none,none,none,some ([(0,256),(256,1)]),some ([(0,256),(256,1)]),none,none,none,none,none,none,none,some ([(0,1),(1,1),(2,1),(3,1),(4,1)]),some ([(0,1),(1,1),(2,1),(3,1),(4,1)]),none,none,none,none,none,none,some ([(0,1),(1,1)]),some ([(0,1),(1,1)]),none,none,none,none,none,none,none,none,none,none,none,none,none,none,none,none,none,none,none,none,none,none,none,none,none,none,none,none,none,none,none,none,none,none,none,none,none,none,some ([(0,1),(1,1),(2,1),(3,1)]),some ([(0,1),(1,1),(2,1),(3,1)]),none,some ([(0,0)]),some ([(0,0)]),none,none,none,none,none,none,some ([(0,1),(1,1),(2,1),(3,1),(4,1),(5,1),(6,1),(7,1),(8,1),(9,1),(10,1)]),some ([(0,1),(1,1),(2,1),(3,1),(4,1),(5,1),(6,1),(7,1),(8,1),(9,1),(10,1)]),some ([(0,1),(1,256),(257,1)]),some ([(0,1),(1,256),(257,1)]),none]
theorem plOk:chk (fun i=>x8 Try.prog i) 0 plL=plL:=by kernel_rfl
theorem pl(i:Nat){x:List (Nat×Nat)}(h:plL[i]? =some (some x)):x8 Try.prog i=some x:=by
 have:=im plOk h
 simpa using this
def zeL:List (Option (Value)):= [none,some (.nilFunc),some (.int .i64 0),some (.int .i64 0),some (.bool false),some (.int .u8 0),some (.int .u8 0),some (.agg #[.int .i64 0,.int .i64 0,.bool false,.int .u8 0]),some (.agg #[.int .i64 0,.int .i64 0,.bool false,.int .u8 0]),some (.string ⟨#[]⟩),some (.string ⟨#[]⟩),some (.string ⟨#[]⟩),some (.int .u64 0),some (.agg #[.string ⟨#[]⟩,.int .u64 0]),some (.agg #[.string ⟨#[]⟩,.int .u64 0]),some (.pointer none),some (.pointer none),some (.pointer none),some (.agg #[.pointer none]),some (.agg #[.pointer none]),some (.nilIface),some (.int .i32 0),some (.slice none 0 0),some (.nilFunc),some (.nilFunc),some (.pointer none),some (.int .i64 0),none,some (.nilFunc),some (.nilFunc),some (.nilFunc),none,some (.nilFunc),some (.slice none 0 0),some (.agg #[.int .i64 0,.int .i64 0,.string ⟨#[]⟩,.string ⟨#[]⟩,.int .u8 0,.slice none 0 0]),some (.agg #[.int .i64 0,.int .i64 0,.string ⟨#[]⟩,.string ⟨#[]⟩,.int .u8 0,.slice none 0 0]),some (.nilFunc),some (.nilFunc),some (.nilFunc),some (.nilFunc),some (.nilFunc),some (.nilFunc),some (.nilFunc),some (.nilFunc),none,none,none,some (.nilFunc),none,some (.nilFunc),some (.nilFunc),some (.nilFunc),some (.nilFunc),some (.slice none 0 0),some (.nilFunc),some (.nilFunc),some (.map none),some (.agg #[.int .i64 0,.map none,.int .i64 0,.int .i64 0,.bool false,.int .i64 0]),some (.agg #[.int .i64 0,.map none,.int .i64 0,.int .i64 0,.bool false,.int .i64 0]),some (.nilFunc),some (.nilFunc),some (.map none),some (.agg #[.map none]),some (.agg #[.map none]),some (.pointer none),some (.slice none 0 0),some (.nilFunc),some (.nilFunc),some (.nilFunc),some (.nilFunc),some (.nilFunc),none,some (.nilFunc),some (.nilFunc),some (.nilFunc),some (.nilFunc),some (.nilFunc),some (.pointer none),some (.slice none 0 0),none,none,some (.nilFunc),some (.nilFunc),some (.nilFunc),some (.nilFunc),some (.nilFunc),some (.pointer none),some (.slice none 0 0),some (.agg #[.slice none 0 0,.int .i64 0,.int .i64 0,.bool false,.int .i64 0]),some (.agg #[.slice none 0 0,.int .i64 0,.int .i64 0,.bool false,.int .i64 0]),some (.nilFunc),some (.nilFunc),some (.nilFunc),some (.nilFunc),some (.nilFunc),some (.slice none 0 0),some (.agg #[.string ⟨#[]⟩,.slice none 0 0]),some (.agg #[.string ⟨#[]⟩,.slice none 0 0]),some (.nilFunc),some (.nilFunc),some (.nilFunc),some (.int .u64 0),some (.nilFunc),some (.nilFunc),some (.nilFunc),some (.int .i64 0),none,some (.nilFunc),some (.nilFunc),some (.nilFunc),some (.nilFunc),none,some (.nilFunc),some (.nilFunc),some (.int .u32 0),some (.nilFunc),some (.int .u64 0),some (.nilFunc),some (.nilFunc),some (.nilFunc),some (.nilFunc),some (.nilFunc),some (.nilFunc),some (.int .u64 0),some (.nilFunc),some (.nilFunc),some (.nilFunc),some (.pointer none),some (.nilFunc),some (.nilFunc),some (.nilFunc),some (.pointer none),none,some (.nilFunc),some (.nilFunc),some (.nilFunc),some (.agg #[.pointer none,.pointer none,.pointer none,.string ⟨#[]⟩]),some (.agg #[.pointer none,.pointer none,.pointer none,.string ⟨#[]⟩]),some (.agg #[]),some (.agg #[]),some (.agg #[]),some (.int .u8 0),some (.int .u8 0),some (.nilFunc),some (.pointer none),some (.int .i32 0),some (.int .i32 0),some (.agg #[.int .u64 0,.int .u64 0,.int .u32 0,.int .u8 0,.int .u8 0,.int .u8 0,.int .u8 0,.nilFunc,.pointer none,.int .i32 0,.int .i32 0]),some (.agg #[.int .u64 0,.int .u64 0,.int .u32 0,.int .u8 0,.int .u8 0,.int .u8 0,.int .u8 0,.nilFunc,.pointer none,.int .i32 0,.int .i32 0]),none,none,some (.pointer none)]
theorem zeOk:chk (fun i=>cH Try.prog i) 0 zeL=zeL:=by kernel_rfl
theorem ze(i:Nat){x:Value}(h:zeL[i]? =some (some x)):cH Try.prog i=some x:=by
 have:=im zeOk h
 simpa using this
def foL:List (Option (List Nat)):= [none,none,none,none,none,none,none,some [0,1,2,3],some [0,1,2,3],none,none,none,none,some [0,1],some [0,1],none,none,none,some [0],some [0],none,none,none,none,none,none,none,none,none,none,none,none,none,none,some [0,1,2,3,4,5],some [0,1,2,3,4,5],none,none,none,none,none,none,none,none,none,none,none,none,none,none,none,none,none,none,none,none,none,some [0,1,2,3,4,5],some [0,1,2,3,4,5],none,none,none,some [0],some [0],none,none,none,none,none,none,none,none,none,none,none,none,none,none,none,some [0,256],some [0,256],none,none,none,none,none,none,none,some [0,1,2,3,4],some [0,1,2,3,4],none,none,none,none,none,none,some [0,1],some [0,1],none,none,none,none,none,none,none,none,none,none,none,none,none,none,none,none,none,none,none,none,none,none,none,none,none,none,none,none,none,none,none,none,none,none,none,none,none,none,some [0,1,2,3],some [0,1,2,3],none,none,none,none,none,none,none,none,none,some [0,1,2,3,4,5,6,7,8,9,10],some [0,1,2,3,4,5,6,7,8,9,10],some [0,1,257],some [0,1,257],none]
theorem foOk:y4 (iI Try.prog) 0 foL:=by
 simp only [foL,y4]
 exact⟨by kernel_rfl,by kernel_rfl,by kernel_rfl,by kernel_rfl,by kernel_rfl,by kernel_rfl,by kernel_rfl,by kernel_rfl,by kernel_rfl,by kernel_rfl,by kernel_rfl,by kernel_rfl,by kernel_rfl,by kernel_rfl,by kernel_rfl,by kernel_rfl,by kernel_rfl,by kernel_rfl,by kernel_rfl,by kernel_rfl,by kernel_rfl,by kernel_rfl,by kernel_rfl,by kernel_rfl,trivial⟩
theorem fo(i k:Nat){l:List Nat}{v:Nat}(h:foL[i]? =some (some l))(hk:l[k]? =some v):iI Try.prog i k=some v:=by
 have:=nr foOk h
 have:=rg this hk
 simpa using this
def unL:List (Option TypeDesc):= [none,none,some (.int .i64),some (.int .i64),some (.bool),some (.int .u8),some (.int .u8),none,none,some (.string),some (.string),some (.string),some (.int .u64),none,none,some (.pointer 137),some (.pointer 140),some (.pointer 148),none,none,none,some (.int .i32),some (.slice 35),none,none,some (.pointer 58),some (.int .i64),none,none,none,none,none,none,some (.slice 3),none,none,none,none,none,none,none,none,none,none,some (.array 256 5),some (.array 256 5),none,none,none,none,none,none,none,some (.slice 5),none,none,some (.map 9 64),none,none,none,none,some (.map 3 77),none,none,some (.pointer 63),some (.slice 9),none,none,none,none,none,none,none,none,none,none,none,some (.pointer 80),some (.slice 45),none,none,none,none,none,none,none,some (.pointer 89),some (.slice 97),none,none,none,none,none,none,none,some (.slice 150),none,none,none,none,none,some (.int .u64),none,none,none,some (.int .i64),none,none,none,none,none,none,none,none,some (.int .u32),none,some (.int .u64),none,none,none,none,none,none,some (.int .u64),none,none,none,some (.pointer 3),none,none,none,some (.pointer 123),none,none,none,none,none,none,some (.array 0 16),none,none,some (.int .u8),some (.int .u8),none,some (.pointer 5),some (.int .i32),some (.int .i32),none,none,none,none,none]
theorem unOk:chk (fun i=>Try.prog.underlying i) 0 unL=unL:=by kernel_rfl
theorem un(i:Nat){x:TypeDesc}(h:unL[i]? =some (some x)):Try.prog.underlying i=some x:=by
 have:=im unOk h
 simpa using this
end F
end Go.Proofs.Ytbmekelkddllkaa
end
section
namespace Go.Sy
open Go Go.Sl Go.RowKit
section
variable {P:Program}
theorem cl{α β:Type}{fn nt k0 nx id:Nat}{T:Tr SV}{k:List AIt}{dfs:List ADf}{H:aJ}{Q0:Cz→Prop}{b:Code}(n:Nat)(sl:α→List (Nat×SV))(ob:α→List (Option VO))(φ:α→Prop)(μ:α→Nat)(a0:α)(L0:List Nat)
 (n2:Nat) (sl2:β→List (Nat×SV)) (ob2:β→List (Option VO)) (ψ:β→Prop)
 (hn: ∀ a,(ob a).length=n) (hn2: ∀ a,(ob2 a).length=n2) (h0:φ a0) (hi:IsAt k0 L0 (sl a0) (ob a0) T H nx) (hk: ∀ ρ,k.map (AIt.ren ρ)=k) (hd: ∀ ρ,dfs.map (ADf.ren ρ)=dfs)
 (body: ∀ a,φ a→(∀ T' H' nx' a' L',φ a'→μ a'<μ a→IsAt k0 L' (sl a') (ob a') T' H' nx'→Wp P none ⟨fn,nt,T',.inLoop b :: .inBlock id :: k,dfs,H',nx'⟩ (fun r=> ∃ c,Q0 c∧Ends k0 c r)) →
   (∀ T' H' nx' a' L',ψ a'→IsAt k0 L' (sl2 a') (ob2 a') T' H' nx'→Wp P none ⟨fn,nt,T',k,dfs,H',nx'⟩ (fun r=> ∃ c,Q0 c∧Ends k0 c r)) →
   Wp P none ⟨fn,nt,slT (sl a),.code b :: .inLoop b :: .inBlock id :: k,dfs,pS (ob a),n⟩ (fun r=> ∃ c,Q0 c∧Ends k0 c r))
 (exit: ∀ a,ψ a→Wp P none ⟨fn,nt,slT (sl2 a),k,dfs,pS (ob2 a),n2⟩ (fun r=> ∃ c,Q0 c∧Ends k0 c r)) :
 Wp P none ⟨fn,nt,T,.code (.loop b) :: .inBlock id :: k,dfs,H,nx⟩ (fun r=> ∃ c,Q0 c∧Ends k0 c r):=
 cw n sl ob φ μ a0 L0 hn h0 hi (fun ρ=>by simp [AIt.ren,hk ρ]) hd fun a ha again=>body a ha again fun T' H' nx' a' L' hψ hat=>by
  refine Wp.can hat (hk _) (hd _) ?_
  rw [hn2 a']
  exact exit a' hψ
end
section
variable {P:Program}
theorem rz{β:Type}{fn nt k0 nx:Nat}{T:Tr SV}{k:List AIt}{dfs:List ADf}{H:aJ}{Q0:Cz→Prop}{c:Operand}{x y:Code}{t:Bool}(n2:Nat)(sl2:β→List (Nat×SV))(ob2:β→List (Option VO))(ψ:β→Prop)
 (hn2: ∀ a,(ob2 a).length=n2) (hc:ao T c=some (.sc (.bool t))) (hk: ∀ ρ,k.map (AIt.ren ρ)=k) (hd: ∀ ρ,dfs.map (ADf.ren ρ)=dfs)
 (arm1:t=true→(∀ T' H' nx' a' L',ψ a'→IsAt k0 L' (sl2 a') (ob2 a') T' H' nx'→Wp P none ⟨fn,nt,T',k,dfs,H',nx'⟩ (fun r=> ∃ c,Q0 c∧Ends k0 c r)) →
   Wp P none ⟨fn,nt,T,.code x :: k,dfs,H,nx⟩ (fun r=> ∃ c,Q0 c∧Ends k0 c r))
 (arm2:t=false→(∀ T' H' nx' a' L',ψ a'→IsAt k0 L' (sl2 a') (ob2 a') T' H' nx'→Wp P none ⟨fn,nt,T',k,dfs,H',nx'⟩ (fun r=> ∃ c,Q0 c∧Ends k0 c r)) →
   Wp P none ⟨fn,nt,T,.code y :: k,dfs,H,nx⟩ (fun r=> ∃ c,Q0 c∧Ends k0 c r))
 (rest: ∀ a,ψ a→Wp P none ⟨fn,nt,slT (sl2 a),k,dfs,pS (ob2 a),n2⟩ (fun r=> ∃ c,Q0 c∧Ends k0 c r)) :
 Wp P none ⟨fn,nt,T,.code (.cond c x y) :: k,dfs,H,nx⟩ (fun r=> ∃ c,Q0 c∧Ends k0 c r):=by
 have out: ∀ T' H' nx' a' L',ψ a'→IsAt k0 L' (sl2 a') (ob2 a') T' H' nx'→Wp P none ⟨fn,nt,T',k,dfs,H',nx'⟩ (fun r=> ∃ c,Q0 c∧Ends k0 c r):=fun T' H' nx' a' L' hψ hat=>by
  refine Wp.can hat (hk _) (hd _) ?_
  rw [hn2 a']
  exact rest a' hψ
 exact sn hc (fun h=>arm1 h out) (fun h=>arm2 h out)
theorem mn{β:Type}{fn nt k0 nx:Nat}{T:Tr SV}{it:AIt}{k:List AIt}{dfs:List ADf}{H:aJ}{Q0:Cz→Prop}(n2:Nat)(sl2:β→List (Nat×SV))(ob2:β→List (Option VO))(ψ:β→Prop)
 (hn2: ∀ a,(ob2 a).length=n2) (hk: ∀ ρ,k.map (AIt.ren ρ)=k) (hd: ∀ ρ,dfs.map (ADf.ren ρ)=dfs)
 (body:(∀ T' H' nx' a' L',ψ a'→IsAt k0 L' (sl2 a') (ob2 a') T' H' nx'→Wp P none ⟨fn,nt,T',k,dfs,H',nx'⟩ (fun r=> ∃ c,Q0 c∧Ends k0 c r)) →
   Wp P none ⟨fn,nt,T,it :: k,dfs,H,nx⟩ (fun r=> ∃ c,Q0 c∧Ends k0 c r))
 (rest: ∀ a,ψ a→Wp P none ⟨fn,nt,slT (sl2 a),k,dfs,pS (ob2 a),n2⟩ (fun r=> ∃ c,Q0 c∧Ends k0 c r)) :
 Wp P none ⟨fn,nt,T,it :: k,dfs,H,nx⟩ (fun r=> ∃ c,Q0 c∧Ends k0 c r):=
 body fun T' H' nx' a' L' hψ hat=>by
  refine Wp.can hat (hk _) (hd _) ?_
  rw [hn2 a']
  exact rest a' hψ
end
section
variable {P:Program}
theorem mm{ro:Option Nat}{fn nt nx:Nat}{T:Tr SV}{k:List AIt}{dfs:List ADf}{H:aJ}{Q:Pst}{d:Nat}(sz:Nat)(t:TypeId)(hT:T.at' d=some (.sc (.slice none 0 0)))(h0:Nat.blt 0 sz=true)
 (h:Wp P ro ⟨fn,nt,T.set d (.slu nx 0 0),k,dfs,H.set nx (dat false 0 sz t []),nx+1⟩ Q):Wp P ro ⟨fn,nt,T,k,dfs,H,nx⟩ Q:=by
 refine⟨fun K w0 e w tmps todo ds kd rof cs hS hTr htd hds hc=>?_⟩
 have hf:=hS.fresh nx (zy _)
 have hle:=Env.ch (x:=⟨0,0,0,sz,true⟩) hf
 have hT2:TRel (e.put nx ⟨0,0,0,sz,true⟩) nt (T.set d (.slu nx 0 0)) tmps:=by
  refine⟨hTr.1,fun t s hs=>?_⟩
  rcases Tr.bF hs with ⟨rfl,rfl⟩|⟨_,hs⟩
  ·obtain⟨v,g1,g2⟩:=hTr.2 _ _ hT
   simp only [SV.conc,zc] at g1
   subst g1
   exact⟨_,by simp [SV.conc,Env.bl,Ent.at],g2⟩
  ·obtain⟨v,g1,g2⟩:=hTr.2 _ _ hs
   exact⟨v,SV.bO hle _ _ g1,g2⟩
 obtain⟨r,hr,e1,w',v,g1,g2⟩:=h.run K w0 _ w tmps todo ds kd rof cs (hS.newNil false sz t _ (bw h0)) hT2 (htd.mono hle) (hds.mono hle) (hc.mono hle)
 exact⟨r,hr,e1,w',v,Env.le_trans hle g1,g2⟩
end
end Go.Sy
end
