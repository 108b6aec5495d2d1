import Derived.Laws.StructEq
import Derived.ChangeKeysEq
import Derived.Test.YtbmekelkddllkaaProg
import Derived.Test.YtbmekelkddllkaaG2
set_option linter.unusedVariables false
set_option linter.unusedSimpArgs false
set_option maxRecDepth 100000
set_option maxHeartbeats 0
section
namespace Go.Sy
open Go Go.Sl Go.RowKit
section
variable {P:Program} {T:Tr SV} {H:aK} {nx:Nat} {d:Option Tmp} {ty:TypeId} {pos:String} {af:Array Edge} {gd:Option (Nat×Bool)}
theorem eM{o:Oper}{v:SV}(h:cQ P T H o=some v):ReadDoes P T H o v:=fun _ _ _ _ _ _ hS hE=>s8 hS hE h
theorem jX{o:Oper}{out:Out}(h:gH P T H nx o=some out):OpDoes P T H nx o out:=fun _ _ _ _ _ hS hE=>mZ hS hE h
def iG(P:Program)(s:TypeId)(f:Nat):Option Nat:=match P.underlying s with
 | some (.struct fields)=>match fields[f]? with
   | some fd=>match br P fd.type with
     | some (_+1)=>some fd.offset
     | _=>none
   | none=>none
 | _=>none
def ry(P:Program)(t:TypeId):Option (List SV):=(cH P t).map fun z=>z.cells.toList.map .sc
theorem aB{x:Operand}{v:SV}(h:ao T x=some v):ReadDoes P T H ⟨d,.move x,ty,pos,af,gd⟩ v:=eM h
theorem dD{x:Operand}{v:SV}(h:ao T x=some v):ReadDoes P T H ⟨d,.assign x,ty,pos,af,gd⟩ v:=eM h
theorem aX{c a b:Operand}{v:SV}(hc:ao T c=some (.sc (.bool true)))(h:ao T a=some v):ReadDoes P T H ⟨d,.pick c a b,ty,pos,af,gd⟩ v:=by
 refine eM ?_
 unfold cQ
 simp only [hc,cond_true]
 exact h
theorem gg{c a b:Operand}{v:SV}(hc:ao T c=some (.sc (.bool false)))(h:ao T b=some v):ReadDoes P T H ⟨d,.pick c a b,ty,pos,af,gd⟩ v:=by
 refine eM ?_
 unfold cQ
 simp only [hc,cond_false]
 exact h
theorem iq{x:Operand}{i:Nat}{l:List SV}{v:SV}(h:ao T x=some (.tup l))(hi:l[i]? =some v):ReadDoes P T H ⟨d,.extract x i,ty,pos,af,gd⟩ v:=by
 refine eM ?_
 unfold cQ
 simp only [h,zH,xE]
 exact hi
theorem bv{x:Operand}{b o:Nat}(h:ao T x=some (.ptr b o)):ReadDoes P T H ⟨d,.nilCheck x,ty,pos,af,gd⟩ (.ptr b o):=by
 refine eM ?_
 unfold cQ
 simp only [h,zH,eQ]
theorem bc{s:TypeId}{x:Operand}{f b o off:Nat}(hf:iG P s f=some off)(h:ao T x=some (.ptr b o)):ReadDoes P T H ⟨d,.fieldAddr s x f,ty,pos,af,gd⟩ (.ptr b (o+off)):=by
 refine eM ?_
 unfold cQ
 simp only [h,zH,fR]
 unfold iG at hf
 cases hu:P.underlying s with
 | none=>rw [hu] at hf;cases hf
 | some dd=>
   rw [hu] at hf
   cases dd with
   | struct fields=>
     simp only at hf ⊢
     cases hx:fields[f]? with
     | none=>rw [hx] at hf;cases hf
     | some fd=>
       rw [hx] at hf
       simp only at hf ⊢
       cases hs:br P fd.type with
       | none=>rw [hs] at hf;cases hf
       | some n=>
         rw [hs] at hf
         cases n with
         | zero=>cases hf
         | succ n=>simp only [zd] at hf;simp only [hf]
   | _=>cases hf
theorem pE{f:Fn}{a b:Array Operand}{x y:List SV}(ha:dQ T a.toList=some x)(hb:dQ T b.toList=some y):ReadDoes P T H ⟨d,.makeFunc f a b,ty,pos,af,gd⟩ (.fn f x y):=by
 refine eM ?_
 unfold cQ
 simp only [ha,hb,zH,zG]
theorem aO{t:TypeId}{x:Operand}{b o:Nat}{vo:VO}{v:SV}(ha:bI P t=some none)(hx:ao T x=some (.ptr b o))(hb:H.at' b=some vo)(hv:vo.cell o=some v):ReadDoes P T H ⟨d,.load t x,ty,pos,af,gd⟩ v:=by
 refine eM ?_
 unfold cQ
 simp only [hx,mR,hb,ha]
 exact hv
theorem bY{t:TypeId}{x:Operand}{b o n:Nat}{vo:VO}{l:List SV}(ha:bI P t=some (some n))(hx:ao T x=some (.ptr b o))(hb:H.at' b=some vo)(hv:vo.cellsFrom o n=some l):ReadDoes P T H ⟨d,.load t x,ty,pos,af,gd⟩ (.agg l):=by
 refine eM ?_
 unfold cQ
 simp only [hx,mR,hb,ha,hv,zG]
theorem aN{t:TypeId}{l:List SV}{o:Nat}{v:SV}(h:l[o]? =some v):(ak t l).cell o=some v:=by
 have hlt:=(zi.1 h).1
 simp only [ak,VO.cell,iC,h]
 rw [show Nat.blt o l.length=true from zm hlt]
 rfl
theorem de{t:TypeId}{l:List SV}: ∀ (n o:Nat) {vs:List SV},(l.drop o).take n=vs→vs.length=n→(ak t l).cellsFrom o n=some vs
 | 0,o,vs,h,hn=>by
   have:vs= []:=zv hn
   subst this
   rfl
 | n+1,o,vs,h,hn=>by
   cases hd:l.drop o with
   | nil=>rw [hd] at h;subst h;simp at hn
   | cons x r=>
     rw [hd] at h
     simp only [List.take_succ_cons] at h
     subst h
     have hx:l[o]? =some x:=by
      have:=congrArg List.head? hd
      simpa using this
     have hr:l.drop (o+1)=r:=by
      have:=congrArg List.tail hd
      simpa using this
     simp only [VO.cellsFrom,aN hx]
     rw [de n (o+1) (vs:=r.take n) (by rw [hr]) (by simpa using hn)]
theorem vB{t:TypeId}{l:List SV}(hz:ry P t=some l):OpDoes P T H nx ⟨d,.alloc t,ty,pos,af,gd⟩ (.val (.ptr nx 0),H.set nx (ak t l),nx+1):=by
 refine jX ?_
 unfold gH ry at *
 cases hzz:cH P t with
 | none=>rw [hzz] at hz;cases hz
 | some z=>rw [hzz] at hz;simp only [zG,zd] at hz;simp only [hzz,hz]
theorem tz{t:TypeId}{x:Operand}{l:List SV}(hx:ao T x=some (.agg l)):OpDoes P T H nx ⟨d,.box t x,ty,pos,af,gd⟩ (.val (.ptr nx 0),H.set nx (ak t l),nx+1):=by
 refine jX ?_
 unfold gH
 simp only [hx]
 rfl
theorem yM{t:TypeId}{x:Operand}{v:SV}{l:List SV}(hx:ao T x=some v)(hl:v.cells=l):OpDoes P T H nx ⟨d,.box t x,ty,pos,af,gd⟩ (.val (.ptr nx 0),H.set nx (ak t l),nx+1):=by
 refine jX ?_
 unfold gH
 simp only [hx,hl]
theorem kf{t:TypeId}: ∀ (vs l:List SV) (o:Nat),o+vs.length≤l.length→c7 vs=true→(ak t l).setCells o vs=some (ak t (l.take o ++ vs ++ l.drop (o+vs.length)))
 | [],l,o,h,_=>by simp [VO.setCells]
 | v :: vs,l,o,h,h1=>by
   simp only [c7,zy] at h1
   simp only [zD] at h
   have hset:(ak t l).setCell o v=some (ak t (l.set o v)):=by
    simp only [ak,VO.setCell]
    rw [show Nat.blt o l.length=true from zm (by omega),h1.1]
    simp only [Bool.and_self,cond_true,zd,VO.cells.injEq,List.length_set,true_and]
    funext i
    simp only [eH,Tr.set]
    rw [List.getElem?_set]
    by_cases hi:o=i
    ·subst hi
     rw [if_pos rfl,if_pos (by omega),Nat.beq_refl]
     rfl
    ·rw [if_neg hi,show Nat.beq i o=false from by cases hb:Nat.beq i o with|false=>rfl|true=>exact absurd (Nat.eq_of_beq_eq_true hb).symm hi]
     rfl
   simp only [VO.setCells,hset]
   rw [kf vs (l.set o v) (o+1) (by rw [List.length_set];omega) h1.2]
   simp only [zd]
   congr 1
   have e1:(l.set o v).take (o+1)=l.take o ++ [v]:=by
    rw [List.take_set,List.set_eq_take_append_cons_drop,if_pos (by rw [List.length_take];omega),List.take_take,Nat.min_eq_left (by omega),List.drop_eq_nil_of_le (by rw [List.length_take];omega)]
   have e2:(l.set o v).drop (o+1+vs.length)=l.drop (o+(vs.length+1)):=by
    rw [List.drop_set_of_lt (by omega)]
    congr 1
    omega
   rw [e1,e2]
   simp
theorem iv{t:TypeId}{a x:Operand}{b o n:Nat}{bt:TypeId}{l vs:List SV}{v:SV}(hs:br P t=some n)(ha:ao T a=some (.ptr b o))(hx:ao T x=some v)(hv:v.cells=vs)(hb:H.at' b=some (ak bt l))(hn:vs.length=n)(ho:o+n≤l.length)
 (h1:c7 vs=true):OpDoes P T H nx ⟨d,.store t a x,ty,pos,af,gd⟩ (.skip,H.set b (ak bt (l.take o ++ vs ++ l.drop (o+n))),nx):=by
 refine jX ?_
 subst hn
 unfold gH
 simp only [ha,hx,hv,nC,hs,Nat.beq_refl,cond_true,eg,hb,kf vs l o ho h1]
theorem nR{t:TypeId}{a x:Operand}{b o:Nat}{bt:TypeId}{l:List SV}{v:SV}(hs:br P t=some 1)(ha:ao T a=some (.ptr b o))(hx:ao T x=some v)(hb:H.at' b=some (ak bt l))(h1:v.one=true)(ho:o<l.length) :
 OpDoes P T H nx ⟨d,.store t a x,ty,pos,af,gd⟩ (.skip,H.set b (ak bt (l.set o v)),nx):=by
 have hv:v.cells= [v]:=by
  cases v with
  | sc c=>cases c <;> first|rfl|(simp [SV.one] at h1)
  | agg l=>simp [SV.one] at h1
  | _=>rfl
 have:=iv (d:=d) (ty:=ty) (pos:=pos) (af:=af) (gd:=gd) (nx:=nx) hs ha hx hv hb rfl (by omega) (by simp [c7,h1])
 rw [List.set_eq_take_append_cons_drop,if_pos ho]
 simpa using this
theorem cu{o:Oper}{v:Value}(h: ∀ ev w,(∀ x s,ao T x=some s→ ∀ u,s = .sc u→ev x=u)→(execOp ev o).run P w = .ok (.value v) w):ReadDoes P T H o (.sc v):=by
 intro K w0 e nx w ev hS hE
 refine⟨v,rfl,h ev w (fun x s hs u hu=>?_)⟩
 subst hu
 have:=hE x _ hs
 simpa [SV.conc] using this.symm
theorem aL{op:BinOp}{t yt:TypeId}{x y:Operand}{k:IntKind}{a b c:Int}(hx:ao T x=some (.sc (.int k a)))(hy:ao T y=some (.sc (.int k b)))(hop:op = .add∧c=k.wrap (a+b)∨op = .sub∧c=k.wrap (a-b)∨op = .mul∧c=k.wrap (a*b)) :
 ReadDoes P T H ⟨d,.binOp op t x y yt,ty,pos,af,gd⟩ (.sc (.int k c)):=by
 refine cu fun ev w he=>?_
 have e1:=he x _ hx _ rfl
 have e2:=he y _ hy _ rfl
 rcases hop with ⟨rfl,rfl⟩|⟨rfl,rfl⟩|⟨rfl,rfl⟩ <;> simp [execOp,e1,e2,eqGuard,binOp,Op.intArith]
theorem bW{op:BinOp}{t yt:TypeId}{x y:Operand}{k:IntKind}{a b:Int}{c:Bool}(hx:ao T x=some (.sc (.int k a)))(hy:ao T y=some (.sc (.int k b)))
 (hop:op = .eql∧c=(a == b)∨op = .neq∧c=(a != b)∨op = .lss∧c=decide (a<b)∨op = .leq∧c=decide (a≤b)∨op = .gtr∧c=decide (a>b)∨op = .geq∧c=decide (a≥b)) :
 ReadDoes P T H ⟨d,.binOp op t x y yt,ty,pos,af,gd⟩ (.sc (.bool c)):=by
 refine cu fun ev w he=>?_
 have e1:=he x _ hx _ rfl
 have e2:=he y _ hy _ rfl
 rcases hop with ⟨rfl,rfl⟩|⟨rfl,rfl⟩|⟨rfl,rfl⟩|⟨rfl,rfl⟩|⟨rfl,rfl⟩|⟨rfl,rfl⟩ <;> simp [execOp,e1,e2,eqGuard,binOp,Op.intCmp]
theorem bD{t:TypeId}{x:Operand}{b:Bool}(hx:ao T x=some (.sc (.bool b))):ReadDoes P T H ⟨d,.unOp .not t x,ty,pos,af,gd⟩ (.sc (.bool (!b))):=by
 refine cu fun ev w he=>?_
 have e1:=he x _ hx _ rfl
 simp [execOp,e1,Op.unary]
theorem wC{t yt:TypeId}{x y:Operand}{k:IntKind}{a b c:Int}(hx:ao T x=some (.sc (.int k a)))(hy:ao T y=some (.sc (.int k b)))(h0:b≠0)(hc:k.wrap (a.tdiv b)=c) :
 ReadDoes P T H ⟨d,.binOp .quo t x y yt,ty,pos,af,gd⟩ (.sc (.int k c)):=by
 refine cu fun ev w he=>?_
 have e1:=he x _ hx _ rfl
 have e2:=he y _ hy _ rfl
 subst hc
 simp [execOp,e1,e2,eqGuard,binOp,Op.intDiv,h0]
theorem yF{t yt:TypeId}{x y:Operand}{k:IntKind}{a b c:Int}(hx:ao T x=some (.sc (.int k a)))(hy:ao T y=some (.sc (.int k b)))(h0:b≠0)(hc:a.tmod b=c) :
 ReadDoes P T H ⟨d,.binOp .rem t x y yt,ty,pos,af,gd⟩ (.sc (.int k c)):=by
 refine cu fun ev w he=>?_
 have e1:=he x _ hx _ rfl
 have e2:=he y _ hy _ rfl
 subst hc
 simp [execOp,e1,e2,eqGuard,binOp,Op.intDiv,h0]
def r7(op:BinOp)(k:IntKind)(a b:Int):Int:=match op with
 | .and=>k.wrap (BitVec.ofInt k.bits a &&& BitVec.ofInt k.bits b).toNat
 | .or=>k.wrap (BitVec.ofInt k.bits a ||| BitVec.ofInt k.bits b).toNat
 | .xor=>k.wrap (BitVec.ofInt k.bits a ^^^ BitVec.ofInt k.bits b).toNat
 | _=>k.wrap (BitVec.ofInt k.bits a &&& ~~~(BitVec.ofInt k.bits b)).toNat
theorem tf{op:BinOp}{t yt:TypeId}{x y:Operand}{k:IntKind}{a b c:Int}(hx:ao T x=some (.sc (.int k a)))(hy:ao T y=some (.sc (.int k b)))(ho:op = .and∨op = .or∨op = .xor∨op = .andNot)(hc:r7 op k a b=c) :
 ReadDoes P T H ⟨d,.binOp op t x y yt,ty,pos,af,gd⟩ (.sc (.int k c)):=by
 refine cu fun ev w he=>?_
 have e1:=he x _ hx _ rfl
 have e2:=he y _ hy _ rfl
 subst hc
 rcases ho with rfl|rfl|rfl|rfl <;> simp [execOp,e1,e2,eqGuard,binOp,Op.intBits,r7]
theorem wB{t yt:TypeId}{x y:Operand}{k k2:IntKind}{a b c:Int}(hx:ao T x=some (.sc (.int k a)))(hy:ao T y=some (.sc (.int k2 b)))(h0:0≤b)(hc:k.wrap (a*2 ^ (min b.toNat k.bits))=c) :
 ReadDoes P T H ⟨d,.binOp .shl t x y yt,ty,pos,af,gd⟩ (.sc (.int k c)):=by
 refine cu fun ev w he=>?_
 have e1:=he x _ hx _ rfl
 have e2:=he y _ hy _ rfl
 subst hc
 have h1: ¬ b<0:=by omega
 simp [execOp,e1,e2,eqGuard,binOp,Op.shift,h1]
theorem wA{t yt:TypeId}{x y:Operand}{k k2:IntKind}{a b c:Int}(hx:ao T x=some (.sc (.int k a)))(hy:ao T y=some (.sc (.int k2 b)))(h0:0≤b)(hc:a.fdiv (2 ^ (min b.toNat k.bits))=c) :
 ReadDoes P T H ⟨d,.binOp .shr t x y yt,ty,pos,af,gd⟩ (.sc (.int k c)):=by
 refine cu fun ev w he=>?_
 have e1:=he x _ hx _ rfl
 have e2:=he y _ hy _ rfl
 subst hc
 have h1: ¬ b<0:=by omega
 simp [execOp,e1,e2,eqGuard,binOp,Op.shift,h1]
theorem xy{s t:TypeId}{su:TypeDesc}{x:Operand}{k k2:IntKind}{a c:Int}(hs:P.underlying s=some su)(hu:P.underlying t=some (.int k))(hx:ao T x=some (.sc (.int k2 a)))(hc:k.wrap a=c) :
 ReadDoes P T H ⟨d,.convert s t x,ty,pos,af,gd⟩ (.sc (.int k c)):=by
 refine cu fun ev w he=>?_
 have e1:=he x _ hx _ rfl
 subst hc
 simp [execOp,e1,convert,run_underlying hs,run_underlying hu,Conv.intToInt]
def yb(P:Program)(t:TypeId):Option (List (Nat×Nat)):=match P.underlying t with
 | some (.struct fields)=>kg P fields.toList
 | _=>none
theorem gh{t:TypeId}{parts:List (Nat×Operand)}{ps:List (Nat×SV)}{pl:List (Nat×Nat)}{z:Value}{cs:List SV}(hp:jB T parts=some ps)(hz:cH P t=some z)(hl:yb P t=some pl)(hf:fQ (fun i=>pl[i]?) (z.cells.toList.map .sc) ps=some cs) :
 ReadDoes P T H ⟨d,.build t parts.toArray,ty,pos,af,gd⟩ (.agg cs):=by
 refine eM ?_
 unfold yb at hl
 cases hu:P.underlying t with
 | none=>rw [hu] at hl;cases hl
 | some u=>
   rw [hu] at hl
   cases u with
   | struct fields=>simp only [cQ,hp,zH,ku,hz,hu,hl,hf,zG]
   | _=>cases hl
theorem kG{t:TypeId}{e:TypeId}{x:Operand}{b eo n:Nat}(hu:P.underlying t=some (.slice e))(hx:ao T x=some (.slu b eo n)):ReadDoes P T H ⟨d,.call {callee:= .builtin .len,args:= #[x],argTypes:= #[t]},ty,pos,af,gd⟩ (.sc (.int .i64 n)):=by
 refine eM ?_
 simp only [cQ,lj,hx,zH,vL,hu]
theorem nK{t:TypeId}{x:Operand}{s:ByteArray}(hu:P.underlying t=some .string)(hx:ao T x=some (.sc (.string s))):ReadDoes P T H ⟨d,.call {callee:= .builtin .len,args:= #[x],argTypes:= #[t]},ty,pos,af,gd⟩ (.sc (.int .i64 s.size)):=by
 refine cu fun ev w he=>?_
 have e1:=he x _ hx _ rfl
 simp [execOp,resolve,invoke,builtin,e1,Builtin.len_,run_underlying hu,goInt]
def dat(ro:Bool)(ne sz:Nat)(t:TypeId)(vs:List Value):VO:= .row ro ne sz t (fun i=>(vs[i]?).map .sc)
theorem mC(ρ:Nat→Nat)(ro:Bool)(ne sz:Nat)(t:TypeId)(vs:List Value):(dat ro ne sz t vs).ren ρ=dat ro ne sz t vs:=by
 show VO.row ro ne sz t (sg ρ _)=VO.row ro ne sz t _
 congr 1
 funext i
 show((vs[i]?).map SV.sc).map (SV.ren ρ)=(vs[i]?).map SV.sc
 cases vs[i]? <;> rfl
theorem s5(ρ:Nat→Nat)(t:TypeId)(l:List SV):(ak t l).ren ρ=ak t (SV.ij ρ l):=by
 rw [SV.pg]
 simp only [ak,VO.ren,List.length_map]
 congr 1
 funext i
 show((l[i]?).map (SV.ren ρ))=(l.map (SV.ren ρ))[i]?
 rw [List.getElem?_map]
theorem kN{ro:Bool}{ne sz:Nat}{t:TypeId}{vs:List Value}{i:Nat}{v:Value}(hi:i<ne*sz)(hv:vs[i]? =some v):(dat ro ne sz t vs).cell i=some (.sc v):=by
 simp only [dat,VO.cell,Tr.at',hv,zG]
 rw [show Nat.blt i (ne*sz)=true from zm hi]
 rfl
theorem dM{ro:Bool}{ne sz:Nat}{t:TypeId}{vs:List Value}: ∀ (n o:Nat) {us:List Value},(vs.drop o).take n=us→us.length=n→o+n≤ne*sz→(dat ro ne sz t vs).cellsFrom o n=some (us.map .sc)
 | 0,o,us,h,hn,_=>by
   have:us= []:=zv hn
   subst this
   rfl
 | n+1,o,us,h,hn,hl=>by
   cases hd:vs.drop o with
   | nil=>rw [hd] at h;subst h;simp at hn
   | cons x r=>
     rw [hd] at h
     simp only [List.take_succ_cons] at h
     subst h
     have hx:vs[o]? =some x:=by
      have:=congrArg List.head? hd
      simpa using this
     have hr:vs.drop (o+1)=r:=by
      have:=congrArg List.tail hd
      simpa using this
     simp only [VO.cellsFrom,kN (ro:=ro) (t:=t) (sz:=sz) (show o<ne*sz by omega) hx]
     rw [dM n (o+1) (us:=r.take n) (by rw [hr]) (by simpa using hn) (by omega)]
     rfl
theorem qz{t e:TypeId}{x y:Operand}{b eo n:Nat}{k:IntKind}{i:Int}{ro:Bool}{ne sz:Nat}{rt:TypeId}{c:Tr SV}(hu:P.underlying t=some (.slice e))(hs:br P e=some sz)(hx:ao T x=some (.slu b eo n))(hy:ao T y=some (.sc (.int k i)))
 (hb:H.at' b=some (.row ro ne sz rt c)) (h0:0≤i) (hi:i<n) (hne:eo+n≤ne):ReadDoes P T H ⟨d,.indexAddr t x y,ty,pos,af,gd⟩ (.ptr b ((eo+i.toNat)*sz)):=by
 refine eM ?_
 obtain⟨j,rfl⟩:=Int.eq_ofNat_of_zero_le h0
 have hj:j<n:=by omega
 simp only [cQ,sh,hx,hy,zH,dc,hu,hs,hb,Nat.beq_refl,Int.toNat_natCast]
 rw [show Nat.ble (eo+n) ne=true from zm hne,show Nat.blt j n=true from zm hj]
 rfl
end
def OkAll{A:Type}(p:Nat→A→Prop):Nat→List (Option A)→Prop
 | _,[]=>True
 | i,none :: l=>OkAll p (i+1) l
 | i,some x :: l=>p i x∧OkAll p (i+1) l
theorem OkAll.get{A:Type}{p:Nat→A→Prop}: ∀ {l:List (Option A)} {k:Nat},OkAll p k l→ ∀ {i:Nat} {x:A},l[i]? =some (some x)→p (k+i) x
 | [],k,_,i,x,h=>by simp at h
 | none :: l,k,hh,i,x,h=>by
   cases i with
   | zero=>simp at h
   | succ i=>rw [show k+(i+1)=k+1+i by omega];exact OkAll.get (l:=l) (k:=k+1) hh (by simpa using h)
 | some y :: l,k,hh,i,x,h=>by
   cases i with
   | zero=>simp only [zx,zd] at h;subst h;exact hh.1
   | succ i=>rw [show k+(i+1)=k+1+i by omega];exact OkAll.get (l:=l) (k:=k+1) hh.2 (by simpa using h)
def OkL{A:Type}(p:Nat→A→Prop):Nat→List A→Prop
 | _,[]=>True
 | i,x :: l=>p i x∧OkL p (i+1) l
theorem OkL.get{A:Type}{p:Nat→A→Prop}: ∀ {l:List A} {k:Nat},OkL p k l→ ∀ {i:Nat} {x:A},l[i]? =some x→p (k+i) x
 | [],k,_,i,x,h=>by simp at h
 | y :: l,k,hh,i,x,h=>by
   cases i with
   | zero=>simp only [zx,zd] at h;subst h;exact hh.1
   | succ i=>rw [show k+(i+1)=k+1+i by omega];exact OkL.get (l:=l) (k:=k+1) hh.2 (by simpa using h)
inductive LoadIs (P:Program) (H:aK) (t:TypeId) (b o:Nat):SV→Prop
 | one {vo:VO} {v:SV} (ha:bI P t=some none) (hb:H.at' b=some vo) (hv:vo.cell o=some v):LoadIs P H t b o v
 | many {n:Nat} {vo:VO} {l:List SV} (ha:bI P t=some (some n)) (hb:H.at' b=some vo) (hv:vo.cellsFrom o n=some l):LoadIs P H t b o (.agg l)
inductive ResIs (P:Program) (H:aK) (T:Tr SV):List ResultVar→List SV→Prop
 | nil:ResIs P H T [] []
 | tmp {t:Tmp} {l:List ResultVar} {v:SV} {vs:List SV} (hv:T.at' t=some v) (h:ResIs P H T l vs):ResIs P H T (.tmp t :: l) (v :: vs)
 | cell {a:Tmp} {t:TypeId} {b o:Nat} {l:List ResultVar} {v:SV} {vs:List SV} (ha:T.at' a=some (.ptr b o)) (hv:LoadIs P H t b o v) (h:ResIs P H T l vs):ResIs P H T (.cell a t :: l) (v :: vs)
theorem ResIs.res{P:Program}{H:aK}{T:Tr SV}{l:List ResultVar}{vs:List SV}(h:ResIs P H T l vs):mB P H T l=some vs:=by
 induction h with
 | nil=>rfl
 | tmp hv _ ih=>simp only [mB,hv,ih]
 | cell ha hv _ ih=>
   cases hv with
   | one hag hb hv=>simp only [mB,ha,hb,hag,hv,ih]
   | many hag hb hv=>simp only [mB,ha,hb,hag,hv,ih]
section
variable {P:Program} {ro:Option Nat} {fn nt nx:Nat} {T:Tr SV} {k:List AIt} {dfs:List ADf} {H:aK} {Q:Pst} {ops:Array Oper} {i:Nat} {l:List Oper} {d:Option Tmp} {ty:TypeId} {pos:String} {af:Array Edge} {gd:Option (Nat×Bool)}
theorem Fnc.start{f:FuncId}{F:Func}{args:List SV}{c:Code}{n:Nat}(hf:P.funcs[f]? =some F)(hb:F.body=some c)(hn:F.ntmps=n)(h:Wp P none ⟨f,max args.length n,iX .nil 0 args,[.code c],[],H,nx⟩ Q):Fnc P f args H nx Q:=
 .enter (by simp only [rk,hf,hb]) (by simp only [yO,hf,hn]) h
theorem aS{F:Func}{rl:List ResultVar}{vs:List SV}(hf:P.funcs[fn]? =some F)(hl:F.results.toList=rl)(hv:ResIs P H T rl vs)(h:Q (ga vs,H,nx)):Wp P none ⟨fn,nt,T,.code .ret :: k,[],H,nx⟩ Q:=
 y_ret (by simp only [er,hf,hl]) hv.res h
theorem dU{F:Func}{rl:List ResultVar}{vs:List SV}(hf:P.funcs[fn]? =some F)(hl:F.results.toList=rl)(hv:ResIs P H T rl vs)(h:Q (ga vs,H,nx)):Wp P none ⟨fn,nt,T,[],[],H,nx⟩ Q:=
 y_end (by simp only [er,hf,hl]) hv.res h
theorem ac{id:Nat}{ops:List Oper}(h:Wp P ro ⟨fn,nt,T,.inReg ops.toArray 0 ops :: k,dfs,H,nx⟩ Q):Wp P ro ⟨fn,nt,T,.code (.region id ops.toArray false) :: k,dfs,H,nx⟩ Q:=uJ h
theorem sn{a b:Int}(h1:0≤a)(h2:a≤9223372036854775807)(h3:0<b):IntKind.i64.wrap (a.tdiv b)=a / b:=by
 rw [Int.tdiv_eq_ediv_of_nonneg h1]
 exact zf _ ⟨Int.le_trans (by decide) (Int.ediv_nonneg h1 (by omega)),Int.le_trans (Int.ediv_le_self _ h1) h2⟩
theorem aC{d:Tmp}{v:SV}(h:Nat.blt d nt=true):gi nt T (some d) v=T.set d v:=by simp only [gi,h,cond_true]
theorem jK{o:Oper}(hw:aq T ops o=some false)(h:Wp P ro ⟨fn,nt,gi nt T o.dst cy,.inReg ops (i+1) l :: k,dfs,H,nx⟩ Q):Wp P ro ⟨fn,nt,T,.inReg ops i (o :: l) :: k,dfs,H,nx⟩ Q:=y_not hw h
theorem ai{x:Operand}{v:SV}{dd:Nat}(hw:aq T ops ⟨some dd,.move x,ty,pos,af,gd⟩=some true)(hd:Nat.blt dd nt=true)(hx:ao T x=some v)
 (h:Wp P ro ⟨fn,nt,T.set dd v,.inReg ops (i+1) l :: k,dfs,H,nx⟩ Q):Wp P ro ⟨fn,nt,T,.inReg ops i (⟨some dd,.move x,ty,pos,af,gd⟩ :: l) :: k,dfs,H,nx⟩ Q:=
 bC hw (.inr (fun _ h=>by cases h)) ((aB hx).does) (by rw [aC hd];exact h)
theorem ah{x:Operand}{v:SV}{dd:Nat}(hw:aq T ops ⟨some dd,.assign x,ty,pos,af,gd⟩=some true)(hd:Nat.blt dd nt=true)(hx:ao T x=some v)
 (h:Wp P ro ⟨fn,nt,T.set dd v,.inReg ops (i+1) l :: k,dfs,H,nx⟩ Q):Wp P ro ⟨fn,nt,T,.inReg ops i (⟨some dd,.assign x,ty,pos,af,gd⟩ :: l) :: k,dfs,H,nx⟩ Q:=
 bC hw (.inr (fun _ h=>by cases h)) ((dD hx).does) (by rw [aC hd];exact h)
theorem dT{c a b:Operand}{v:SV}{dd:Nat}(hw:aq T ops ⟨some dd,.pick c a b,ty,pos,af,gd⟩=some true)(hd:Nat.blt dd nt=true)(hc:ao T c=some (.sc (.bool true)))(hx:ao T a=some v)
 (h:Wp P ro ⟨fn,nt,T.set dd v,.inReg ops (i+1) l :: k,dfs,H,nx⟩ Q):Wp P ro ⟨fn,nt,T,.inReg ops i (⟨some dd,.pick c a b,ty,pos,af,gd⟩ :: l) :: k,dfs,H,nx⟩ Q:=
 bC hw (.inr (fun _ h=>by cases h)) ((aX hc hx).does) (by rw [aC hd];exact h)
theorem ci{c a b:Operand}{v:SV}{dd:Nat}(hw:aq T ops ⟨some dd,.pick c a b,ty,pos,af,gd⟩=some true)(hd:Nat.blt dd nt=true)(hc:ao T c=some (.sc (.bool false)))(hx:ao T b=some v)
 (h:Wp P ro ⟨fn,nt,T.set dd v,.inReg ops (i+1) l :: k,dfs,H,nx⟩ Q):Wp P ro ⟨fn,nt,T,.inReg ops i (⟨some dd,.pick c a b,ty,pos,af,gd⟩ :: l) :: k,dfs,H,nx⟩ Q:=
 bC hw (.inr (fun _ h=>by cases h)) ((gg hc hx).does) (by rw [aC hd];exact h)
theorem bM{x:Operand}{j:Nat}{xs:List SV}{v:SV}{dd:Nat}(hw:aq T ops ⟨some dd,.extract x j,ty,pos,af,gd⟩=some true)(hd:Nat.blt dd nt=true)(hx:ao T x=some (.tup xs))(hj:xs[j]? =some v)
 (h:Wp P ro ⟨fn,nt,T.set dd v,.inReg ops (i+1) l :: k,dfs,H,nx⟩ Q):Wp P ro ⟨fn,nt,T,.inReg ops i (⟨some dd,.extract x j,ty,pos,af,gd⟩ :: l) :: k,dfs,H,nx⟩ Q:=
 bC hw (.inr (fun _ h=>by cases h)) ((iq hx hj).does) (by rw [aC hd];exact h)
theorem aR{x:Operand}{b o:Nat}{dd:Nat}(hw:aq T ops ⟨some dd,.nilCheck x,ty,pos,af,gd⟩=some true)(hd:Nat.blt dd nt=true)(hx:ao T x=some (.ptr b o))
 (h:Wp P ro ⟨fn,nt,T.set dd (.ptr b o),.inReg ops (i+1) l :: k,dfs,H,nx⟩ Q):Wp P ro ⟨fn,nt,T,.inReg ops i (⟨some dd,.nilCheck x,ty,pos,af,gd⟩ :: l) :: k,dfs,H,nx⟩ Q:=
 bC hw (.inr (fun _ h=>by cases h)) ((bv hx).does) (by rw [aC hd];exact h)
theorem aJ{s:TypeId}{x:Operand}{f b o off:Nat}{dd:Nat}(hw:aq T ops ⟨some dd,.fieldAddr s x f,ty,pos,af,gd⟩=some true)(hd:Nat.blt dd nt=true)(hx:ao T x=some (.ptr b o))(hf:iG P s f=some off)
 (h:Wp P ro ⟨fn,nt,T.set dd (.ptr b (o+off)),.inReg ops (i+1) l :: k,dfs,H,nx⟩ Q):Wp P ro ⟨fn,nt,T,.inReg ops i (⟨some dd,.fieldAddr s x f,ty,pos,af,gd⟩ :: l) :: k,dfs,H,nx⟩ Q:=
 bC hw (.inr (fun _ h=>by cases h)) ((bc hf hx).does) (by rw [aC hd];exact h)
theorem c8{f:Go.Fn}{a b:Array Operand}{x y:List SV}{dd:Nat}(hw:aq T ops ⟨some dd,.makeFunc f a b,ty,pos,af,gd⟩=some true)(hd:Nat.blt dd nt=true)(ha:dQ T a.toList=some x)(hb:dQ T b.toList=some y)
 (h:Wp P ro ⟨fn,nt,T.set dd (.fn f x y),.inReg ops (i+1) l :: k,dfs,H,nx⟩ Q):Wp P ro ⟨fn,nt,T,.inReg ops i (⟨some dd,.makeFunc f a b,ty,pos,af,gd⟩ :: l) :: k,dfs,H,nx⟩ Q:=
 bC hw (.inr (fun _ h=>by cases h)) ((pE ha hb).does) (by rw [aC hd];exact h)
theorem kT{t:TypeId}{x:Operand}{b o:Nat}{vo:VO}{v:SV}{dd:Nat}(hw:aq T ops ⟨some dd,.load t x,ty,pos,af,gd⟩=some true)(hd:Nat.blt dd nt=true)(hx:ao T x=some (.ptr b o))(ha:bI P t=some none)(hb:H.at' b=some vo)(hv:vo.cell o=some v)
 (h:Wp P ro ⟨fn,nt,T.set dd v,.inReg ops (i+1) l :: k,dfs,H,nx⟩ Q):Wp P ro ⟨fn,nt,T,.inReg ops i (⟨some dd,.load t x,ty,pos,af,gd⟩ :: l) :: k,dfs,H,nx⟩ Q:=
 bC hw (.inr (fun _ h=>by cases h)) ((aO ha hx hb hv).does) (by rw [aC hd];exact h)
theorem aH{t bt:TypeId}{x:Operand}{b o:Nat}{cs:List SV}{v:SV}{dd:Nat}(hw:aq T ops ⟨some dd,.load t x,ty,pos,af,gd⟩=some true)(hd:Nat.blt dd nt=true)(hx:ao T x=some (.ptr b o))(ha:bI P t=some none)(hb:H.at' b=some (ak bt cs))(hv:cs[o]? =some v)
 (h:Wp P ro ⟨fn,nt,T.set dd v,.inReg ops (i+1) l :: k,dfs,H,nx⟩ Q):Wp P ro ⟨fn,nt,T,.inReg ops i (⟨some dd,.load t x,ty,pos,af,gd⟩ :: l) :: k,dfs,H,nx⟩ Q:=
 bC hw (.inr (fun _ h=>by cases h)) ((aO ha hx hb (aN hv)).does) (by rw [aC hd];exact h)
theorem pq{t:TypeId}{x:Operand}{b o n:Nat}{vo:VO}{cs:List SV}{dd:Nat}(hw:aq T ops ⟨some dd,.load t x,ty,pos,af,gd⟩=some true)(hd:Nat.blt dd nt=true)(hx:ao T x=some (.ptr b o))(ha:bI P t=some (some n))(hb:H.at' b=some vo)(hv:vo.cellsFrom o n=some cs)
 (h:Wp P ro ⟨fn,nt,T.set dd (.agg cs),.inReg ops (i+1) l :: k,dfs,H,nx⟩ Q):Wp P ro ⟨fn,nt,T,.inReg ops i (⟨some dd,.load t x,ty,pos,af,gd⟩ :: l) :: k,dfs,H,nx⟩ Q:=
 bC hw (.inr (fun _ h=>by cases h)) ((bY ha hx hb hv).does) (by rw [aC hd];exact h)
theorem qo{t bt:TypeId}{x:Operand}{b n:Nat}{cs:List SV}{dd:Nat}(hw:aq T ops ⟨some dd,.load t x,ty,pos,af,gd⟩=some true)(hd:Nat.blt dd nt=true)(hx:ao T x=some (.ptr b 0))(ha:bI P t=some (some n))(hb:H.at' b=some (ak bt cs))(hn:cs.length=n)
 (h:Wp P ro ⟨fn,nt,T.set dd (.agg cs),.inReg ops (i+1) l :: k,dfs,H,nx⟩ Q):Wp P ro ⟨fn,nt,T,.inReg ops i (⟨some dd,.load t x,ty,pos,af,gd⟩ :: l) :: k,dfs,H,nx⟩ Q:=
 bC hw (.inr (fun _ h=>by cases h)) ((bY ha hx hb (de n 0 (by subst hn;simp) hn)).does) (by rw [aC hd];exact h)
theorem cx{t:TypeId}{cs:List SV}{dd:Nat}(hw:aq T ops ⟨some dd,.alloc t,ty,pos,af,gd⟩=some true)(hd:Nat.blt dd nt=true)(hz:ry P t=some cs)
 (h:Wp P ro ⟨fn,nt,T.set dd (.ptr nx 0),.inReg ops (i+1) l :: k,dfs,(H.set nx (ak t cs)),(nx+1)⟩ Q):Wp P ro ⟨fn,nt,T,.inReg ops i (⟨some dd,.alloc t,ty,pos,af,gd⟩ :: l) :: k,dfs,H,nx⟩ Q:=
 bC hw (.inr (fun _ h=>by cases h)) (vB hz) (by rw [aC hd];exact h)
theorem l6{t:TypeId}{x:Operand}{cs:List SV}{dd:Nat}(hw:aq T ops ⟨some dd,.box t x,ty,pos,af,gd⟩=some true)(hd:Nat.blt dd nt=true)(hx:ao T x=some (.agg cs))
 (h:Wp P ro ⟨fn,nt,T.set dd (.ptr nx 0),.inReg ops (i+1) l :: k,dfs,(H.set nx (ak t cs)),(nx+1)⟩ Q):Wp P ro ⟨fn,nt,T,.inReg ops i (⟨some dd,.box t x,ty,pos,af,gd⟩ :: l) :: k,dfs,H,nx⟩ Q:=
 bC hw (.inr (fun _ h=>by cases h)) (tz hx) (by rw [aC hd];exact h)
theorem ky{t:TypeId}{x:Operand}{v:SV}{dd:Nat}(hw:aq T ops ⟨some dd,.box t x,ty,pos,af,gd⟩=some true)(hd:Nat.blt dd nt=true)(hx:ao T x=some v)(h1:v.cells= [v])
 (h:Wp P ro ⟨fn,nt,T.set dd (.ptr nx 0),.inReg ops (i+1) l :: k,dfs,(H.set nx (ak t [v])),(nx+1)⟩ Q):Wp P ro ⟨fn,nt,T,.inReg ops i (⟨some dd,.box t x,ty,pos,af,gd⟩ :: l) :: k,dfs,H,nx⟩ Q:=
 bC hw (.inr (fun _ h=>by cases h)) (yM hx h1) (by rw [aC hd];exact h)
theorem kC{t bt:TypeId}{a x:Operand}{b o:Nat}{cs:List SV}{v:SV}(hw:aq T ops ⟨none,.store t a x,ty,pos,af,gd⟩=some true)(ha:ao T a=some (.ptr b o))(hx:ao T x=some v)(hs:br P t=some 1)(hb:H.at' b=some (ak bt cs))(h1:v.one=true)(ho:Nat.blt o cs.length=true)
 (h:Wp P ro ⟨fn,nt,T,.inReg ops (i+1) l :: k,dfs,(H.set b (ak bt (cs.set o v))),nx⟩ Q):Wp P ro ⟨fn,nt,T,.inReg ops i (⟨none,.store t a x,ty,pos,af,gd⟩ :: l) :: k,dfs,H,nx⟩ Q:=
 nr hw (.inr (fun _ h=>by cases h)) (nR hs ha hx hb h1 (zj ho)) h
theorem io{t bt:TypeId}{a x:Operand}{b o n:Nat}{cs vs cs':List SV}(hw:aq T ops ⟨none,.store t a x,ty,pos,af,gd⟩=some true)(ha:ao T a=some (.ptr b o))(hx:ao T x=some (.agg vs))(hs:br P t=some n)(hb:H.at' b=some (ak bt cs))(hn:vs.length=n)(ho:o+n≤cs.length)(h1:c7 vs=true)(hc:cs.take o ++ vs ++ cs.drop (o+n)=cs')
 (h:Wp P ro ⟨fn,nt,T,.inReg ops (i+1) l :: k,dfs,(H.set b (ak bt cs')),nx⟩ Q):Wp P ro ⟨fn,nt,T,.inReg ops i (⟨none,.store t a x,ty,pos,af,gd⟩ :: l) :: k,dfs,H,nx⟩ Q:=
 nr hw (.inr (fun _ h=>by cases h)) (hc ▸ iv hs ha hx rfl hb hn ho h1) h
theorem bj{t yt:TypeId}{x y:Operand}{a b:Int}{dd:Nat}(hw:aq T ops ⟨some dd,.binOp .add t x y yt,ty,pos,af,gd⟩=some true)(hd:Nat.blt dd nt=true)(hx:ao T x=some (.sc (.int .i64 a)))(hy:ao T y=some (.sc (.int .i64 b)))(h1 : -9223372036854775808≤a+b)(h2:a+b≤9223372036854775807)
 (h:Wp P ro ⟨fn,nt,T.set dd (.sc (.int .i64 (a+b))),.inReg ops (i+1) l :: k,dfs,H,nx⟩ Q):Wp P ro ⟨fn,nt,T,.inReg ops i (⟨some dd,.binOp .add t x y yt,ty,pos,af,gd⟩ :: l) :: k,dfs,H,nx⟩ Q:=
 bC hw (.inr (fun _ h=>by cases h)) ((aL hx hy (.inl ⟨rfl,(zf _ ⟨h1,h2⟩).symm⟩)).does) (by rw [aC hd];exact h)
theorem wo{t yt:TypeId}{x y:Operand}{kd:IntKind}{a b:Int}{dd:Nat}(hw:aq T ops ⟨some dd,.binOp .sub t x y yt,ty,pos,af,gd⟩=some true)(hd:Nat.blt dd nt=true)(hx:ao T x=some (.sc (.int kd a)))(hy:ao T y=some (.sc (.int kd b)))
 (h:Wp P ro ⟨fn,nt,T.set dd (.sc (.int kd (kd.wrap (a-b)))),.inReg ops (i+1) l :: k,dfs,H,nx⟩ Q):Wp P ro ⟨fn,nt,T,.inReg ops i (⟨some dd,.binOp .sub t x y yt,ty,pos,af,gd⟩ :: l) :: k,dfs,H,nx⟩ Q:=
 bC hw (.inr (fun _ h=>by cases h)) ((aL hx hy (.inr (.inl ⟨rfl,rfl⟩))).does) (by rw [aC hd];exact h)
theorem bN{t yt:TypeId}{x y:Operand}{a b:Int}{dd:Nat}(hw:aq T ops ⟨some dd,.binOp .sub t x y yt,ty,pos,af,gd⟩=some true)(hd:Nat.blt dd nt=true)(hx:ao T x=some (.sc (.int .i64 a)))(hy:ao T y=some (.sc (.int .i64 b)))(h1 : -9223372036854775808≤a-b)(h2:a-b≤9223372036854775807)
 (h:Wp P ro ⟨fn,nt,T.set dd (.sc (.int .i64 (a-b))),.inReg ops (i+1) l :: k,dfs,H,nx⟩ Q):Wp P ro ⟨fn,nt,T,.inReg ops i (⟨some dd,.binOp .sub t x y yt,ty,pos,af,gd⟩ :: l) :: k,dfs,H,nx⟩ Q:=
 bC hw (.inr (fun _ h=>by cases h)) ((aL hx hy (.inr (.inl ⟨rfl,(zf _ ⟨h1,h2⟩).symm⟩))).does) (by rw [aC hd];exact h)
theorem ny{t yt:TypeId}{x y:Operand}{a b:Int}{dd:Nat}(hw:aq T ops ⟨some dd,.binOp .mul t x y yt,ty,pos,af,gd⟩=some true)(hd:Nat.blt dd nt=true)(hx:ao T x=some (.sc (.int .i64 a)))(hy:ao T y=some (.sc (.int .i64 b)))(h1 : -9223372036854775808≤a*b)(h2:a*b≤9223372036854775807)
 (h:Wp P ro ⟨fn,nt,T.set dd (.sc (.int .i64 (a*b))),.inReg ops (i+1) l :: k,dfs,H,nx⟩ Q):Wp P ro ⟨fn,nt,T,.inReg ops i (⟨some dd,.binOp .mul t x y yt,ty,pos,af,gd⟩ :: l) :: k,dfs,H,nx⟩ Q:=
 bC hw (.inr (fun _ h=>by cases h)) ((aL hx hy (.inr (.inr ⟨rfl,(zf _ ⟨h1,h2⟩).symm⟩))).does) (by rw [aC hd];exact h)
theorem pt{t yt:TypeId}{x y:Operand}{kd:IntKind}{a b:Int}{dd:Nat}(hw:aq T ops ⟨some dd,.binOp .eql t x y yt,ty,pos,af,gd⟩=some true)(hd:Nat.blt dd nt=true)(hx:ao T x=some (.sc (.int kd a)))(hy:ao T y=some (.sc (.int kd b)))
 (h:Wp P ro ⟨fn,nt,T.set dd (.sc (.bool (a == b))),.inReg ops (i+1) l :: k,dfs,H,nx⟩ Q):Wp P ro ⟨fn,nt,T,.inReg ops i (⟨some dd,.binOp .eql t x y yt,ty,pos,af,gd⟩ :: l) :: k,dfs,H,nx⟩ Q:=
 bC hw (.inr (fun _ h=>by cases h)) ((bW hx hy (.inl ⟨rfl,rfl⟩)).does) (by rw [aC hd];exact h)
theorem yp{t yt:TypeId}{x y:Operand}{kd:IntKind}{a b:Int}{dd:Nat}(hw:aq T ops ⟨some dd,.binOp .neq t x y yt,ty,pos,af,gd⟩=some true)(hd:Nat.blt dd nt=true)(hx:ao T x=some (.sc (.int kd a)))(hy:ao T y=some (.sc (.int kd b)))
 (h:Wp P ro ⟨fn,nt,T.set dd (.sc (.bool (a != b))),.inReg ops (i+1) l :: k,dfs,H,nx⟩ Q):Wp P ro ⟨fn,nt,T,.inReg ops i (⟨some dd,.binOp .neq t x y yt,ty,pos,af,gd⟩ :: l) :: k,dfs,H,nx⟩ Q:=
 bC hw (.inr (fun _ h=>by cases h)) ((bW hx hy (.inr (.inl ⟨rfl,rfl⟩))).does) (by rw [aC hd];exact h)
theorem wY{t yt:TypeId}{x y:Operand}{kd:IntKind}{a b:Int}{dd:Nat}(hw:aq T ops ⟨some dd,.binOp .lss t x y yt,ty,pos,af,gd⟩=some true)(hd:Nat.blt dd nt=true)(hx:ao T x=some (.sc (.int kd a)))(hy:ao T y=some (.sc (.int kd b)))
 (h:Wp P ro ⟨fn,nt,T.set dd (.sc (.bool (decide (a<b)))),.inReg ops (i+1) l :: k,dfs,H,nx⟩ Q):Wp P ro ⟨fn,nt,T,.inReg ops i (⟨some dd,.binOp .lss t x y yt,ty,pos,af,gd⟩ :: l) :: k,dfs,H,nx⟩ Q:=
 bC hw (.inr (fun _ h=>by cases h)) ((bW hx hy (.inr (.inr (.inl ⟨rfl,rfl⟩)))).does) (by rw [aC hd];exact h)
theorem yq{t yt:TypeId}{x y:Operand}{kd:IntKind}{a b:Int}{dd:Nat}(hw:aq T ops ⟨some dd,.binOp .leq t x y yt,ty,pos,af,gd⟩=some true)(hd:Nat.blt dd nt=true)(hx:ao T x=some (.sc (.int kd a)))(hy:ao T y=some (.sc (.int kd b)))
 (h:Wp P ro ⟨fn,nt,T.set dd (.sc (.bool (decide (a≤b)))),.inReg ops (i+1) l :: k,dfs,H,nx⟩ Q):Wp P ro ⟨fn,nt,T,.inReg ops i (⟨some dd,.binOp .leq t x y yt,ty,pos,af,gd⟩ :: l) :: k,dfs,H,nx⟩ Q:=
 bC hw (.inr (fun _ h=>by cases h)) ((bW hx hy (.inr (.inr (.inr (.inl ⟨rfl,rfl⟩))))).does) (by rw [aC hd];exact h)
theorem yu{t yt:TypeId}{x y:Operand}{kd:IntKind}{a b:Int}{dd:Nat}(hw:aq T ops ⟨some dd,.binOp .gtr t x y yt,ty,pos,af,gd⟩=some true)(hd:Nat.blt dd nt=true)(hx:ao T x=some (.sc (.int kd a)))(hy:ao T y=some (.sc (.int kd b)))
 (h:Wp P ro ⟨fn,nt,T.set dd (.sc (.bool (decide (a>b)))),.inReg ops (i+1) l :: k,dfs,H,nx⟩ Q):Wp P ro ⟨fn,nt,T,.inReg ops i (⟨some dd,.binOp .gtr t x y yt,ty,pos,af,gd⟩ :: l) :: k,dfs,H,nx⟩ Q:=
 bC hw (.inr (fun _ h=>by cases h)) ((bW hx hy (.inr (.inr (.inr (.inr (.inl ⟨rfl,rfl⟩)))))).does) (by rw [aC hd];exact h)
theorem sB{t yt:TypeId}{x y:Operand}{kd:IntKind}{a b:Int}{dd:Nat}(hw:aq T ops ⟨some dd,.binOp .geq t x y yt,ty,pos,af,gd⟩=some true)(hd:Nat.blt dd nt=true)(hx:ao T x=some (.sc (.int kd a)))(hy:ao T y=some (.sc (.int kd b)))
 (h:Wp P ro ⟨fn,nt,T.set dd (.sc (.bool (decide (a≥b)))),.inReg ops (i+1) l :: k,dfs,H,nx⟩ Q):Wp P ro ⟨fn,nt,T,.inReg ops i (⟨some dd,.binOp .geq t x y yt,ty,pos,af,gd⟩ :: l) :: k,dfs,H,nx⟩ Q:=
 bC hw (.inr (fun _ h=>by cases h)) ((bW hx hy (.inr (.inr (.inr (.inr (.inr (⟨rfl,rfl⟩))))))).does) (by rw [aC hd];exact h)
theorem cP{t yt:TypeId}{x y:Operand}{kd:IntKind}{a b:Int}{dd:Nat}(hw:aq T ops ⟨some dd,.binOp .eql t x y yt,ty,pos,af,gd⟩=some true)(hd:Nat.blt dd nt=true)(hx:ao T x=some (.sc (.int kd a)))(hy:ao T y=some (.sc (.int kd b)))
 (h1:a=b→Wp P ro ⟨fn,nt,T.set dd (.sc (.bool true)),.inReg ops (i+1) l :: k,dfs,H,nx⟩ Q) (h2:a≠b→Wp P ro ⟨fn,nt,T.set dd (.sc (.bool false)),.inReg ops (i+1) l :: k,dfs,H,nx⟩ Q) :
 Wp P ro ⟨fn,nt,T,.inReg ops i (⟨some dd,.binOp .eql t x y yt,ty,pos,af,gd⟩ :: l) :: k,dfs,H,nx⟩ Q:=by
 refine pt hw hd hx hy ?_
 by_cases hc:a=b
 ·have e:(a == b)=true:=by simp;omega
  rw [e];exact h1 hc
 ·have e:(a == b)=false:=by simp;omega
  rw [e];exact h2 (by omega)
theorem je{t yt:TypeId}{x y:Operand}{kd:IntKind}{a b:Int}{dd:Nat}(hw:aq T ops ⟨some dd,.binOp .neq t x y yt,ty,pos,af,gd⟩=some true)(hd:Nat.blt dd nt=true)(hx:ao T x=some (.sc (.int kd a)))(hy:ao T y=some (.sc (.int kd b)))
 (h1:a≠b→Wp P ro ⟨fn,nt,T.set dd (.sc (.bool true)),.inReg ops (i+1) l :: k,dfs,H,nx⟩ Q) (h2:a=b→Wp P ro ⟨fn,nt,T.set dd (.sc (.bool false)),.inReg ops (i+1) l :: k,dfs,H,nx⟩ Q) :
 Wp P ro ⟨fn,nt,T,.inReg ops i (⟨some dd,.binOp .neq t x y yt,ty,pos,af,gd⟩ :: l) :: k,dfs,H,nx⟩ Q:=by
 refine yp hw hd hx hy ?_
 by_cases hc:a≠b
 ·have e:(a != b)=true:=by simp;omega
  rw [e];exact h1 hc
 ·have e:(a != b)=false:=by simp;omega
  rw [e];exact h2 (by omega)
theorem cF{t yt:TypeId}{x y:Operand}{kd:IntKind}{a b:Int}{dd:Nat}(hw:aq T ops ⟨some dd,.binOp .lss t x y yt,ty,pos,af,gd⟩=some true)(hd:Nat.blt dd nt=true)(hx:ao T x=some (.sc (.int kd a)))(hy:ao T y=some (.sc (.int kd b)))
 (h1:a<b→Wp P ro ⟨fn,nt,T.set dd (.sc (.bool true)),.inReg ops (i+1) l :: k,dfs,H,nx⟩ Q) (h2:b≤a→Wp P ro ⟨fn,nt,T.set dd (.sc (.bool false)),.inReg ops (i+1) l :: k,dfs,H,nx⟩ Q) :
 Wp P ro ⟨fn,nt,T,.inReg ops i (⟨some dd,.binOp .lss t x y yt,ty,pos,af,gd⟩ :: l) :: k,dfs,H,nx⟩ Q:=by
 refine wY hw hd hx hy ?_
 by_cases hc:a<b
 ·have e:(decide (a<b))=true:=by simp;omega
  rw [e];exact h1 hc
 ·have e:(decide (a<b))=false:=by simp;omega
  rw [e];exact h2 (by omega)
theorem nz{t yt:TypeId}{x y:Operand}{kd:IntKind}{a b:Int}{dd:Nat}(hw:aq T ops ⟨some dd,.binOp .leq t x y yt,ty,pos,af,gd⟩=some true)(hd:Nat.blt dd nt=true)(hx:ao T x=some (.sc (.int kd a)))(hy:ao T y=some (.sc (.int kd b)))
 (h1:a≤b→Wp P ro ⟨fn,nt,T.set dd (.sc (.bool true)),.inReg ops (i+1) l :: k,dfs,H,nx⟩ Q) (h2:b<a→Wp P ro ⟨fn,nt,T.set dd (.sc (.bool false)),.inReg ops (i+1) l :: k,dfs,H,nx⟩ Q) :
 Wp P ro ⟨fn,nt,T,.inReg ops i (⟨some dd,.binOp .leq t x y yt,ty,pos,af,gd⟩ :: l) :: k,dfs,H,nx⟩ Q:=by
 refine yq hw hd hx hy ?_
 by_cases hc:a≤b
 ·have e:(decide (a≤b))=true:=by simp;omega
  rw [e];exact h1 hc
 ·have e:(decide (a≤b))=false:=by simp;omega
  rw [e];exact h2 (by omega)
theorem dB{t yt:TypeId}{x y:Operand}{kd:IntKind}{a b:Int}{dd:Nat}(hw:aq T ops ⟨some dd,.binOp .gtr t x y yt,ty,pos,af,gd⟩=some true)(hd:Nat.blt dd nt=true)(hx:ao T x=some (.sc (.int kd a)))(hy:ao T y=some (.sc (.int kd b)))
 (h1:b<a→Wp P ro ⟨fn,nt,T.set dd (.sc (.bool true)),.inReg ops (i+1) l :: k,dfs,H,nx⟩ Q) (h2:a≤b→Wp P ro ⟨fn,nt,T.set dd (.sc (.bool false)),.inReg ops (i+1) l :: k,dfs,H,nx⟩ Q) :
 Wp P ro ⟨fn,nt,T,.inReg ops i (⟨some dd,.binOp .gtr t x y yt,ty,pos,af,gd⟩ :: l) :: k,dfs,H,nx⟩ Q:=by
 refine yu hw hd hx hy ?_
 by_cases hc:b<a
 ·have e:(decide (a>b))=true:=by simp;omega
  rw [e];exact h1 hc
 ·have e:(decide (a>b))=false:=by simp;omega
  rw [e];exact h2 (by omega)
theorem cw{t yt:TypeId}{x y:Operand}{kd:IntKind}{a b:Int}{dd:Nat}(hw:aq T ops ⟨some dd,.binOp .geq t x y yt,ty,pos,af,gd⟩=some true)(hd:Nat.blt dd nt=true)(hx:ao T x=some (.sc (.int kd a)))(hy:ao T y=some (.sc (.int kd b)))
 (h1:b≤a→Wp P ro ⟨fn,nt,T.set dd (.sc (.bool true)),.inReg ops (i+1) l :: k,dfs,H,nx⟩ Q) (h2:a<b→Wp P ro ⟨fn,nt,T.set dd (.sc (.bool false)),.inReg ops (i+1) l :: k,dfs,H,nx⟩ Q) :
 Wp P ro ⟨fn,nt,T,.inReg ops i (⟨some dd,.binOp .geq t x y yt,ty,pos,af,gd⟩ :: l) :: k,dfs,H,nx⟩ Q:=by
 refine sB hw hd hx hy ?_
 by_cases hc:b≤a
 ·have e:(decide (a≥b))=true:=by simp;omega
  rw [e];exact h1 hc
 ·have e:(decide (a≥b))=false:=by simp;omega
  rw [e];exact h2 (by omega)
theorem wq{t yt:TypeId}{x y:Operand}{kd:IntKind}{a b c:Int}{dd:Nat}(hw:aq T ops ⟨some dd,.binOp .quo t x y yt,ty,pos,af,gd⟩=some true)(hd:Nat.blt dd nt=true)(hx:ao T x=some (.sc (.int kd a)))(hy:ao T y=some (.sc (.int kd b)))(h0:b≠0)(hc:kd.wrap (a.tdiv b)=c)
 (h:Wp P ro ⟨fn,nt,T.set dd (.sc (.int kd c)),.inReg ops (i+1) l :: k,dfs,H,nx⟩ Q):Wp P ro ⟨fn,nt,T,.inReg ops i (⟨some dd,.binOp .quo t x y yt,ty,pos,af,gd⟩ :: l) :: k,dfs,H,nx⟩ Q:=
 bC hw (.inr (fun _ h=>by cases h)) ((wC hx hy h0 hc).does) (by rw [aC hd];exact h)
theorem nw{t yt:TypeId}{x y:Operand}{a b:Int}{dd:Nat}(hw:aq T ops ⟨some dd,.binOp .quo t x y yt,ty,pos,af,gd⟩=some true)(hd:Nat.blt dd nt=true)(hx:ao T x=some (.sc (.int .i64 a)))(hy:ao T y=some (.sc (.int .i64 b)))(h1:0≤a)(h2:a≤9223372036854775807)(h3:0<b)
 (h:Wp P ro ⟨fn,nt,T.set dd (.sc (.int .i64 (a / b))),.inReg ops (i+1) l :: k,dfs,H,nx⟩ Q):Wp P ro ⟨fn,nt,T,.inReg ops i (⟨some dd,.binOp .quo t x y yt,ty,pos,af,gd⟩ :: l) :: k,dfs,H,nx⟩ Q:=
 bC hw (.inr (fun _ h=>by cases h)) ((wC hx hy (by omega) (sn h1 h2 h3)).does) (by rw [aC hd];exact h)
theorem wv{op:BinOp}{t yt:TypeId}{x y:Operand}{kd:IntKind}{a b c:Int}{dd:Nat}(hw:aq T ops ⟨some dd,.binOp op t x y yt,ty,pos,af,gd⟩=some true)(hd:Nat.blt dd nt=true)(hx:ao T x=some (.sc (.int kd a)))(hy:ao T y=some (.sc (.int kd b)))(ho:op = .and∨op = .or∨op = .xor∨op = .andNot)(hc:r7 op kd a b=c)
 (h:Wp P ro ⟨fn,nt,T.set dd (.sc (.int kd c)),.inReg ops (i+1) l :: k,dfs,H,nx⟩ Q):Wp P ro ⟨fn,nt,T,.inReg ops i (⟨some dd,.binOp op t x y yt,ty,pos,af,gd⟩ :: l) :: k,dfs,H,nx⟩ Q:=
 bC hw (.inr (fun _ h=>by cases h)) ((tf hx hy ho hc).does) (by rw [aC hd];exact h)
theorem yn{t yt:TypeId}{x y:Operand}{kd kd2:IntKind}{a b c:Int}{dd:Nat}(hw:aq T ops ⟨some dd,.binOp .shl t x y yt,ty,pos,af,gd⟩=some true)(hd:Nat.blt dd nt=true)(hx:ao T x=some (.sc (.int kd a)))(hy:ao T y=some (.sc (.int kd2 b)))(h0:0≤b)(hc:kd.wrap (a*2 ^ (min b.toNat kd.bits))=c)
 (h:Wp P ro ⟨fn,nt,T.set dd (.sc (.int kd c)),.inReg ops (i+1) l :: k,dfs,H,nx⟩ Q):Wp P ro ⟨fn,nt,T,.inReg ops i (⟨some dd,.binOp .shl t x y yt,ty,pos,af,gd⟩ :: l) :: k,dfs,H,nx⟩ Q:=
 bC hw (.inr (fun _ h=>by cases h)) ((wB hx hy h0 hc).does) (by rw [aC hd];exact h)
theorem ym{t yt:TypeId}{x y:Operand}{kd kd2:IntKind}{a b c:Int}{dd:Nat}(hw:aq T ops ⟨some dd,.binOp .shr t x y yt,ty,pos,af,gd⟩=some true)(hd:Nat.blt dd nt=true)(hx:ao T x=some (.sc (.int kd a)))(hy:ao T y=some (.sc (.int kd2 b)))(h0:0≤b)(hc:a.fdiv (2 ^ (min b.toNat kd.bits))=c)
 (h:Wp P ro ⟨fn,nt,T.set dd (.sc (.int kd c)),.inReg ops (i+1) l :: k,dfs,H,nx⟩ Q):Wp P ro ⟨fn,nt,T,.inReg ops i (⟨some dd,.binOp .shr t x y yt,ty,pos,af,gd⟩ :: l) :: k,dfs,H,nx⟩ Q:=
 bC hw (.inr (fun _ h=>by cases h)) ((wA hx hy h0 hc).does) (by rw [aC hd];exact h)
theorem gI{s t:TypeId}{su:TypeDesc}{x:Operand}{kd kd2:IntKind}{a c:Int}{dd:Nat}(hw:aq T ops ⟨some dd,.convert s t x,ty,pos,af,gd⟩=some true)(hd:Nat.blt dd nt=true)(hx:ao T x=some (.sc (.int kd2 a)))(hs:P.underlying s=some su)(hu:P.underlying t=some (.int kd))(hc:kd.wrap a=c)
 (h:Wp P ro ⟨fn,nt,T.set dd (.sc (.int kd c)),.inReg ops (i+1) l :: k,dfs,H,nx⟩ Q):Wp P ro ⟨fn,nt,T,.inReg ops i (⟨some dd,.convert s t x,ty,pos,af,gd⟩ :: l) :: k,dfs,H,nx⟩ Q:=
 bC hw (.inr (fun _ h=>by cases h)) ((xy hs hu hx hc).does) (by rw [aC hd];exact h)
theorem sD{t:TypeId}{parts:List (Nat×Operand)}{ps:List (Nat×SV)}{pl:List (Nat×Nat)}{z:Value}{cs:List SV}{dd:Nat}(hw:aq T ops ⟨some dd,.build t parts.toArray,ty,pos,af,gd⟩=some true)(hd:Nat.blt dd nt=true)(hx:jB T parts=some ps)(hz:cH P t=some z)(hl:yb P t=some pl)(hf:fQ (fun i=>pl[i]?) (z.cells.toList.map .sc) ps=some cs)
 (h:Wp P ro ⟨fn,nt,T.set dd (.agg cs),.inReg ops (i+1) l :: k,dfs,H,nx⟩ Q):Wp P ro ⟨fn,nt,T,.inReg ops i (⟨some dd,.build t parts.toArray,ty,pos,af,gd⟩ :: l) :: k,dfs,H,nx⟩ Q:=
 bC hw (.inr (fun _ h=>by cases h)) ((gh hx hz hl hf).does) (by rw [aC hd];exact h)
theorem dg{t:TypeId}{x:Operand}{b:Bool}{dd:Nat}(hw:aq T ops ⟨some dd,.unOp .not t x,ty,pos,af,gd⟩=some true)(hd:Nat.blt dd nt=true)(hx:ao T x=some (.sc (.bool b)))
 (h:Wp P ro ⟨fn,nt,T.set dd (.sc (.bool (!b))),.inReg ops (i+1) l :: k,dfs,H,nx⟩ Q):Wp P ro ⟨fn,nt,T,.inReg ops i (⟨some dd,.unOp .not t x,ty,pos,af,gd⟩ :: l) :: k,dfs,H,nx⟩ Q:=
 bC hw (.inr (fun _ h=>by cases h)) ((bD hx).does) (by rw [aC hd];exact h)
theorem dA{t e:TypeId}{x:Operand}{b eo n:Nat}{dd:Nat}(hw:aq T ops ⟨some dd,.call {callee:= .builtin .len,args:= #[x],argTypes:= #[t]},ty,pos,af,gd⟩=some true)(hd:Nat.blt dd nt=true)(hx:ao T x=some (.slu b eo n))(hu:P.underlying t=some (.slice e))
 (h:Wp P ro ⟨fn,nt,T.set dd (.sc (.int .i64 n)),.inReg ops (i+1) l :: k,dfs,H,nx⟩ Q):Wp P ro ⟨fn,nt,T,.inReg ops i (⟨some dd,.call {callee:= .builtin .len,args:= #[x],argTypes:= #[t]},ty,pos,af,gd⟩ :: l) :: k,dfs,H,nx⟩ Q:=
 bC hw (.inr (fun _ h=>by cases h)) ((kG hu hx).does) (by rw [aC hd];exact h)
theorem qp{t:TypeId}{x:Operand}{s:ByteArray}{dd:Nat}(hw:aq T ops ⟨some dd,.call {callee:= .builtin .len,args:= #[x],argTypes:= #[t]},ty,pos,af,gd⟩=some true)(hd:Nat.blt dd nt=true)(hx:ao T x=some (.sc (.string s)))(hu:P.underlying t=some .string)
 (h:Wp P ro ⟨fn,nt,T.set dd (.sc (.int .i64 s.size)),.inReg ops (i+1) l :: k,dfs,H,nx⟩ Q):Wp P ro ⟨fn,nt,T,.inReg ops i (⟨some dd,.call {callee:= .builtin .len,args:= #[x],argTypes:= #[t]},ty,pos,af,gd⟩ :: l) :: k,dfs,H,nx⟩ Q:=
 bC hw (.inr (fun _ h=>by cases h)) ((nK hu hx).does) (by rw [aC hd];exact h)
theorem aQ{g:FuncId}{as1:List Operand}{ats:Array TypeId}{args:List SV}{dd:Nat}(hw:aq T ops ⟨some dd,.call {callee:= .value (.func g),args:=as1.toArray,argTypes:=ats},ty,pos,af,gd⟩=some true)(hd:Nat.blt dd nt=true)(ha:dQ T as1=some args)(hm:bZ P g=true)
 (h:Fnc P g args H nx (fun r=>Wp P ro ⟨fn,nt,T.set dd r.1,.inReg ops (i+1) l :: k,dfs,r.2.1,r.2.2⟩ Q)) :
 Wp P ro ⟨fn,nt,T,.inReg ops i (⟨some dd,.call {callee:= .value (.func g),args:=as1.toArray,argTypes:=ats},ty,pos,af,gd⟩ :: l) :: k,dfs,H,nx⟩ Q:=by
 refine wn hw (args:=args) ?_ (by simp only [aC hd];exact h)
 simp only [ch,ha,ao,dl,hm,cond_true,List.map_nil,List.nil_append,List.append_nil]
theorem pu{x:Operand}{g:FuncId}{fa fb:List SV}{as1:List Operand}{ats:Array TypeId}{args:List SV}{dd:Nat}(hw:aq T ops ⟨some dd,.call {callee:= .value x,args:=as1.toArray,argTypes:=ats},ty,pos,af,gd⟩=some true)(hd:Nat.blt dd nt=true)(hx:ao T x=some (.fn (.func g) fa fb))(ha:dQ T as1=some args)(hm:bZ P g=true)
 (h:Fnc P g (fa ++ args ++ fb) H nx (fun r=>Wp P ro ⟨fn,nt,T.set dd r.1,.inReg ops (i+1) l :: k,dfs,r.2.1,r.2.2⟩ Q)) :
 Wp P ro ⟨fn,nt,T,.inReg ops i (⟨some dd,.call {callee:= .value x,args:=as1.toArray,argTypes:=ats},ty,pos,af,gd⟩ :: l) :: k,dfs,H,nx⟩ Q:=by
 refine wn hw (args:=fa ++ args ++ fb) ?_ (by simp only [aC hd];exact h)
 simp only [ch,ha,hx,dl,hm,cond_true]
end
section
variable {P:Program}
def qH:List Nat→Bool
 | []=>true
 | x :: l=> !(l.any (Nat.beq x)) && qH l
def extB(L:List Nat)(nx:Nat):Bool:=L.all (fun n=>Nat.blt n nx) && qH L
theorem oA: ∀ {l:List Nat},qH l=true→l.Nodup
 | [],_=>List.nodup_nil
 | x :: l,h=>by
   simp only [qH,zy,Bool.not_eq_true'] at h
   refine List.nodup_cons.2 ⟨fun hm=>?_,oA h.2⟩
   have:l.any (Nat.beq x)=true:=List.any_eq_true.2 ⟨x,hm,Nat.beq_refl x⟩
   rw [this] at h
   cases h.1
theorem ExtOk.of{L:List Nat}{nx:Nat}(h:extB L nx=true):ExtOk L nx:=by
 simp only [extB,zy] at h
 exact⟨fun n hn=>zj (List.all_eq_true.1 h.1 n hn),oA h.2⟩
theorem Ends.mk{k0:Nat}{c:Cz}{v:SV}{H:aK}{nx:Nat}(σ:List Nat)(h1:ExtOk (nms k0 σ) nx)(h2:k0+σ.length=c.objs.length)(h3:v=c.v.ren (ext (nms k0 σ) nx))(h4:HasO (ext (nms k0 σ) nx) H 0 c.objs):Ends k0 c (v,H,nx):=⟨σ,h1,h2,h3,h4⟩
theorem Ends.val{k0:Nat}{u u':Value}{objs:List (Option VO)}{H:aK}{nx:Nat}(h1:ExtOk (nms k0 []) nx)(h2:k0=objs.length)(h3:u=u')(h4:HasO (ext (nms k0 []) nx) H 0 objs):Ends k0 ⟨.sc u',objs⟩ (.sc u,H,nx):=⟨[],h1,by simpa using h2,by rw [h3];rfl,h4⟩
theorem HasO.mono{ρ:Nat→Nat}{H H':aK}: ∀ {l:List (Option VO)} {i:Nat},HasO ρ H i l→(∀ n vo,H.at' n=some vo→H'.at' n=some vo)→HasO ρ H' i l
 | [],_,_,_=>trivial
 | none :: l,i,h,hH=>HasO.mono (l:=l) (i:=i+1) h hH
 | some v :: l,i,h,hH=>⟨hH _ _ h.1,HasO.mono (l:=l) (i:=i+1) h.2 hH⟩
theorem qm{ρ:Nat→Nat}: ∀ {l:List VO} {i:Nat} {H:aK},HasO ρ H i (l.map some)→wrO ρ H i ((l.map some).map (Option.map (VO.ren ρ)))=H
 | [],_,_,_=>rfl
 | v :: l,i,H,h=>by
   have e:H.set (ρ i) (v.ren ρ)=H:=by
    funext n
    simp only [Tr.set]
    cases hb:Nat.beq n (ρ i)with
    | false=>rfl
    | true=>have:=Nat.eq_of_beq_eq_true hb;subst this;exact h.1.symm
   simp only [zC,zG,wrO,e]
   exact qm (l:=l) (i:=i+1) h.2
theorem Ctr.callV{f:FuncId}{args0 args:List SV}{pre:List VO}{u:Value}(h:Ctr P f args0 pre (fun c=>c=⟨.sc u,pre.map some⟩))(L:List Nat){H:aK}{nx:Nat}{Q:Pst}(hlen:L.length=pre.length)(hL:ExtOk L nx)(ha:args=args0.map (SV.ren (ext L nx)))
 (hp:HasO (ext L nx) H 0 (pre.map some)) (hQ:Q (.sc u,H,nx)):Fnc P f args H nx Q:=by
 refine h.call L hlen hL ha hp ?_
 rintro c rfl _
 rw [qm hp]
 simpa [SV.ren] using hQ
theorem Ctr.callM{f:FuncId}{args0 args:List SV}{pre:List VO}{c:Cz}(h:Ctr P f args0 pre (fun c'=>c'=c))(L:List Nat){H H':aK}{nx nx':Nat}{v:SV}{Q:Pst}(hlen:L.length=pre.length)(hL:ExtOk L nx)(ha:args=args0.map (SV.ren (ext L nx)))
 (hp:HasO (ext L nx) H 0 (pre.map some)) (hv:c.v.ren (ext L nx)=v) (ho:wrO (ext L nx) H 0 (c.objs.map (Option.map (VO.ren (ext L nx))))=H') (hn:nx+(c.objs.length-pre.length)=nx') (hQ:Q (v,H',nx')):Fnc P f args H nx Q:=by
 refine h.call L hlen hL ha hp ?_
 rintro c' rfl _
 rw [hv,ho,hn]
 exact hQ
section
variable {ro:Option Nat} {fn nt nx:Nat} {T:Tr SV} {k:List AIt} {dfs:List ADf} {H:aK} {Q:Pst} {ops:Array Oper} {i:Nat} {l:List Oper} {ty:TypeId} {pos:String} {af:Array Edge} {gd:Option (Nat×Bool)}
theorem gJ{g:FuncId}{as1:List Operand}{ats:Array TypeId}{args args0:List SV}{pre:List VO}{u:Value}{dd:Nat}(hc:Ctr P g args0 pre (fun c=>c=⟨.sc u,pre.map some⟩))(L:List Nat)
 (hw:aq T ops ⟨some dd,.call {callee:= .value (.func g),args:=as1.toArray,argTypes:=ats},ty,pos,af,gd⟩=some true) (hd:Nat.blt dd nt=true) (ha:dQ T as1=some args) (hm:bZ P g=true)
 (hlen:L.length=pre.length) (hL:ExtOk L nx) (hA:args=args0.map (SV.ren (ext L nx))) (hp:HasO (ext L nx) H 0 (pre.map some))
 (h:Wp P ro ⟨fn,nt,T.set dd (.sc u),.inReg ops (i+1) l :: k,dfs,H,nx⟩ Q) :
 Wp P ro ⟨fn,nt,T,.inReg ops i (⟨some dd,.call {callee:= .value (.func g),args:=as1.toArray,argTypes:=ats},ty,pos,af,gd⟩ :: l) :: k,dfs,H,nx⟩ Q:=
 aQ hw hd ha hm (hc.callV L hlen hL hA hp h)
end
theorem cp{k:IntKind}{a b:Int}(h:a=b):some (SV.sc (.int k a))=some (SV.sc (.int k b)):=by rw [h]
theorem ca{H:aK}{ρ:Nat→Nat}{n:Nat}{t:TypeId}{l:List SV}(h:H.at' n=some (ak t (SV.ij ρ l))):H.at' n=some ((ak t l).ren ρ):=by rw [s5];exact h
theorem am{H:aK}{ρ:Nat→Nat}{n:Nat}{ro:Bool}{ne sz:Nat}{t:TypeId}{vs:List Value}(h:H.at' n=some (dat ro ne sz t vs)):H.at' n=some ((dat ro ne sz t vs).ren ρ):=by rw [mC];exact h
end
theorem jC(ro:Bool)(ne sz:Nat)(t:TypeId)(vs:List Value):VO.row ro ne sz t (eH (vs.map .sc))=dat ro ne sz t vs:=by
 unfold dat eH
 congr 1
 funext i
 rw [List.getElem?_map]
section
variable {P:Program} {K:Zone} {w0 w:World} {e:Env} {H:aK} {nx:Nat} {T:Tr SV} {ev:Operand→Value} {d:Option Tmp} {ty:TypeId} {pos:String} {af:Array Edge} {gd:Option (Nat×Bool)}
theorem tG{el:TypeId}{sz n cap:Nat}{l:List SV}{vs:List Value}{s:Sem Value}(hS:St K w0 e H nx w)(hl:SV.aM e l=some vs)(hlen:vs.length=cap*sz)(hn:n≤cap)(hcap:cap≤maxLen)(h0:0<sz)
 (hrun:s.run P w = .ok (.slice (some ⟨w.heap.size,0,none⟩) n cap) {w with heap:=w.heap.push (.cells vs.toArray el)}):iO P K w0 e (.val (.slu nx 0 n),H.set nx (.row false n sz el (eH l)),nx+1) s w:=by
 have hf:=hS.fresh nx (zA _)
 have hle:=Env.cf (x:=⟨w.heap.size,0,cap,sz,false⟩) hf
 refine⟨e.put nx ⟨w.heap.size,0,cap,sz,false⟩,_,.slu nx 0 n,_,rfl,hle,?_,by simp [SV.conc,Env.bn,Ent.at],hrun⟩
 refine hS.new (o:= .cells vs.toArray el) rfl rfl rfl rfl rfl rfl rfl ⟨rfl,vs.toArray,(0,0),el,rfl,hn,by simp [hlen],hcap,fun _=>xF _,h0,fun i hi s hs=>?_⟩
 rw [iC] at hs
 obtain⟨v,hv,hg⟩:=eE (SV.bJ hle _ _ hl) hs
 exact⟨v,hv,by simpa using hg⟩
theorem gj{t el:TypeId}{len sz:Nat}{parts:List (Nat×Operand)}{ps:List (Nat×SV)}{z:Value}{l:List SV}(hu:P.underlying t=some (.slice el))(hs:br P el=some sz)(h0:0<sz)(hz:cH P el=some z)(hp:jB T parts=some ps)
 (hf:fQ (fun i=>some (i*sz,sz)) (((List.range (len*sz)).map (z.cells[·% z.cells.size]!)).map .sc) ps=some l) (h1:c7 l=true) (hlen:Nat.ble (len*sz) 16777216=true) (hll:l.length=len*sz) :
 OpDoes P T H nx ⟨d,.buildSlice t len parts.toArray,ty,pos,af,gd⟩ (.val (.slu nx 0 len),H.set nx (.row false len sz el (eH l)),nx+1):=by
 intro K w0 e w ev hS hE
 have hle:=bq hlen
 have hlm:len≤maxLen:=by
  unfold maxLen
  have:len*1≤len*sz:=Nat.mul_le_mul_left _ h0
  omega
 refine dh (w:=w) (s:=Instr.buildSlice t len (parts.toArray.map fun x=>(x.1,ev x.2))) ?_ (fun v w' hr=>by simp only [execOp,Sem.run_bind];rw [hr];simp)
 have hpr:=hE.parts parts ps hp
 have hpr':yh e ps (parts.toArray.map fun x=>(x.1,ev x.2)).toList:=by simpa using hpr
 obtain⟨vs,g1,g2⟩:=oR (e:=e) ps _ _ l _ hf hpr' (dK _)
 have hvl:=cg g2
 refine tG hS g2 (by omega) (zA _) hlm h0 ?_
 by_cases hz0:len*sz=0
 ·have hvs:vs= []:=zv (by omega)
  subst hvs
  have hps:ps= []:=by
   cases ps with
   | nil=>rfl
   | cons p ps=>
     exfalso
     simp only [hz0,List.range_zero,List.map_nil,fQ,List.length_nil,Nat.le_zero_eq] at hf
     have hlen0:len=0:=by
      rcases Nat.eq_zero_or_pos len with h|h
      ·exact h
      ·have:=Nat.mul_pos h h0;omega
     cases hb:(Nat.beq p.2.cells.length sz && Nat.ble (p.1*sz+sz) 0)with
     | false=>rw [hb] at hf;cases hf
     | true=>
       rw [zy] at hb
       have:=bq hb.2
       omega
  subst hps
  have hq:(parts.toArray.map fun x=>(x.1,ev x.2)).toList= []:=by
   cases hq:(parts.toArray.map fun x=>(x.1,ev x.2)).toList with
   | nil=>rfl
   | cons _ _=>rw [hq] at hpr';exact hpr'.elim
  have hq2:List.map (fun x=>(x.fst,ev x.snd)) parts= []:=by simpa using hq
  simp [Instr.buildSlice,run_underlying hu,bF hs,hz0,hq2,Instr.fill,newRow,show Array.range 0=(#[]:Array Nat)from by decide]
 ·have hr:(Array.range (len*sz)).map (z.cells[·% z.cells.size]!)=((List.range (len*sz)).map (z.cells[·% z.cells.size]!)).toArray:=by
   apply Array.ext'
   simp
  simp only [Instr.buildSlice,run_underlying hu,Sem.run_bind,Result.andThen,bF hs]
  rw [if_neg (by omega)]
  simp only [Sem.run_pure,if_neg hz0,Sem.run_bind,Result.andThen,fe hz,hr,g1,newRow,run_newObj]
def RdV(P:Program)(H:aK)(sz:Nat)(s:SV)(m:Nat)(vs:List Value):Prop:=aZ H sz s=some (m,vs.map .sc)
theorem pD{b eo n ne sz:Nat}{ro:Bool}{t:TypeId}{vs us:List Value}(hb:H.at' b=some (dat ro ne sz t vs))(hn:eo+n≤ne)(hu:(vs.drop (eo*sz)).take (n*sz)=us)(hl:us.length=n*sz):RdV P H sz (.slu b eo n) n us:=by
 unfold RdV
 simp only [aZ,hb,dat,Nat.beq_refl,Bool.true_and]
 rw [show Nat.ble (eo+n) ne=true from zm hn]
 have:=dM (ro:=ro) (ne:=ne) (sz:=sz) (t:=t) (vs:=vs) (n*sz) (eo*sz) hu hl (by rw [← Nat.add_mul];exact Nat.mul_le_mul_right _ hn)
 unfold dat at this
 simp only [cond_true,this,zG]
def rJ(vs:List Value):Prop:= ∀ v∈vs,v.oneCell'=true
theorem ii{vs:List Value}(h:rJ vs):c7 (vs.map .sc)=true:=by
 induction vs with
 | nil=>rfl
 | cons v vs ih=>
   simp only [zC,c7,zy]
   refine⟨?_,ih fun u hu=>h u (List.mem_cons_of_mem _ hu)⟩
   have:=h v (List.mem_cons_self ..)
   cases v <;> first|rfl|(simp [Value.oneCell'] at this)
theorem mh{t:TypeId}{n b:Nat}(hb:(P.info? t).map (·.bytes)=some b)(h1:n*b≤140737488355328)(h2:n≤1000000000):dt P t n=true:=by
 unfold dt
 cases hi:P.info? t with
 | none=>rw [hi] at hb;cases hb
 | some i=>
   rw [hi] at hb
   simp only [zG,zd] at hb
   simp only [hb,zy]
   exact⟨zm h1,zm h2⟩
theorem nT{t tx el:TypeId}{sz m b:Nat}{s x:Operand}{v:SV}{vs:List Value}(hu:P.underlying t=some (.slice el))(hk:(∃ e',P.underlying tx=some (.slice e'))∨P.underlying tx=some .string)(hs:br P el=some sz)(h0:0<sz)
 (hz:eI P el sz=true) (hb:(P.info? el).map (·.bytes)=some b) (hx0:ao T s=some (.sc (.slice none 0 0))) (hx:ao T x=some v) (hr:RdV P H sz v m vs) (h1:rJ vs) (hm1:m*b≤140737488355328) (hm2:m≤1000000000) :
 OpDoes P T H nx ⟨d,.call {callee:= .builtin .append,args:= #[s,x],argTypes:= #[t,tx]},ty,pos,af,gd⟩ (.val (.slu nx 0 m),H.set nx (dat false m sz el vs),nx+1):=by
 rcases Nat.eq_zero_or_pos m with rfl|hm
 ·intro K w0 e w ev hS hE
  obtain⟨us,g1,g2,g3,g4⟩:=cI (P:=P) hS hr (hE x v hx)
  have hf:=hS.fresh nx (zA _)
  have hvs:vs= []:=by
   have:=cg g1
   rw [List.length_map] at this
   exact zv (by omega)
  subst hvs
  have hes:=hE s _ hx0
  simp only [SV.conc,zd] at hes
  have h5:=g4 0 (zA _)
  simp only [Nat.zero_mul,List.take_zero] at h5
  refine⟨e.put nx ⟨0,0,0,sz,true⟩,w,Env.cf hf,hS.newNil false sz el _ h0,.slice none 0 0,by simp [SV.conc,Env.bn,Ent.at],?_⟩
  have hl: ∀ w',(Builtin.lenOf (ev x)).run P w' = .ok 0 w':=by
   intro w'
   generalize ev x=y at g3
   cases y <;> simp_all [Builtin.lenOf]
  have hrun:(Builtin.append_ #[t,tx] ty #[.slice none 0 0,ev x]).run P w = .ok (.slice none 0 0) w:=by
   rcases hk with ⟨e',hk⟩|hk <;> simp [Builtin.append_,run_underlying hu,run_underlying hk,bF hs,hl,h5]
  simp only [execOp,resolve,invoke,builtin,←hes,List.map_toArray,zC,List.map_nil,Sem.run_bind,Sem.run_pure,Result.andThen,hrun]
 ·have hap:fh P H nx el (.sc (.slice none 0 0)) v=some (.val (.slu nx 0 m),H.set nx (.row false m sz el (eH (vs.map .sc))),nx+1):=by
   unfold fh
   rw [hs]
   cases sz with
   | zero=>omega
   | succ sz=>
     simp only
     rw [show aZ H (sz+1) v=some (m,vs.map .sc)from hr]
     simp only [ii h1,Bool.not_true,cond_false,mh hb hm1 hm2,hz,Bool.and_self,cond_true]
     rw [show Nat.beq m 0=false from by cases hq:Nat.beq m 0 with|false=>rfl|true=>have:=Nat.eq_of_beq_eq_true hq;omega]
     rfl
  rw [jC] at hap
  refine jX ?_
  rcases hk with ⟨e',hk⟩|hk <;> simp only [gH,dQ,hx0,hx,zH,gA,iL,hu,hk,hap]
theorem nU{t tx el:TypeId}{sz m b r eo n:Nat}{s x:Operand}{v:SV}{us vs ws:List Value}(hu:P.underlying t=some (.slice el))(hk:(∃ e',P.underlying tx=some (.slice e'))∨P.underlying tx=some .string)(hs:br P el=some sz)(h0:0<sz)
 (hz:eI P el sz=true) (hb:(P.info? el).map (·.bytes)=some b) (hx0:ao T s=some (.slu r eo n)) (hx:ao T x=some v) (hro:H.at' r=some (dat false (eo+n) sz el us)) (hr0:(us.drop (eo*sz)).take (n*sz)=ws) (hl0:ws.length=n*sz) (hr:RdV P H sz v m vs) (h1:rJ vs)
 (hm:0<m) (hm1:(n+m)*b≤140737488355328) (hm2:n+m≤1000000000) :
 OpDoes P T H nx ⟨d,.call {callee:= .builtin .append,args:= #[s,x],argTypes:= #[t,tx]},ty,pos,af,gd⟩ (.val (.slu nx 0 (n+m)),(H.del r).set nx (dat false (n+m) sz el (ws ++ vs)),nx+1):=by
 have hap:fh P H nx el (.slu r eo n) v=some (.val (.slu nx 0 (n+m)),(H.del r).set nx (.row false (n+m) sz el (eH (ws.map .sc ++ vs.map .sc))),nx+1):=by
  unfold fh
  rw [hs]
  cases sz with
  | zero=>omega
  | succ sz=>
    simp only
    rw [show aZ H (sz+1) v=some (m,vs.map .sc)from hr]
    have hold:aZ H (sz+1) (.slu r eo n)=some (n,ws.map .sc):=pD (P:=P) hro (zA _) hr0 hl0
    simp only [ii h1,Bool.not_true,cond_false,hold]
    rw [hro]
    simp only [dat,Nat.beq_refl,mh hb hm1 hm2,hz,Bool.not_false,Bool.and_self,cond_true]
    rw [show Nat.beq m 0=false from by cases hq:Nat.beq m 0 with|false=>rfl|true=>have:=Nat.eq_of_beq_eq_true hq;omega]
    rfl
 rw [← zF,jC] at hap
 refine jX ?_
 rcases hk with ⟨e',hk⟩|hk <;> simp only [gH,dQ,hx0,hx,zH,gA,iL,hu,hk,hap]
theorem vG{dflt n:Nat}{x:Option Operand}{v:Option Int}(h:(x=none∧n=dflt)∨ ∃ o k i,x=some o∧ao T o=some (.sc (.int k i))∧0≤i∧i.toNat=n):natOr T dflt x=some n:=by
 rcases h with ⟨rfl,rfl⟩|⟨o,k,i,rfl,h1,h2,rfl⟩
 ·rfl
 ·obtain⟨j,rfl⟩:=Int.eq_ofNat_of_zero_le h2
  simp only [natOr,sh,h1,Int.toNat_natCast]
def wU(T:Tr SV)(dflt:Nat)(x:Option Operand)(n:Nat):Prop:=natOr T dflt x=some n
theorem uC{dflt:Nat}:wU T dflt none dflt:=rfl
theorem xZ{dflt:Nat}{o:Operand}{k:IntKind}{i:Int}(h:ao T o=some (.sc (.int k i)))(h0:0≤i):wU T dflt (some o) i.toNat:=vG (v:=none) (.inr ⟨o,k,i,rfl,h,h0,rfl⟩)
theorem vn{t el:TypeId}{x:Operand}{lo hi:Option Operand}{b eo n l h:Nat}{ro:Bool}{ne sz:Nat}{rt:TypeId}{c:Tr SV}(hu:P.underlying t=some (.slice el))(hs:br P el=some sz)(hx:ao T x=some (.slu b eo n))(hb:H.at' b=some (.row ro ne sz rt c))
 (hl:wU T 0 lo l) (hh:wU T n hi h) (h1:l≤h) (h2:eo+h≤ne) (h3:eo+l<ne):ReadDoes P T H ⟨d,.slice t x lo hi none,ty,pos,af,gd⟩ (.slu b (eo+l) (h-l)):=by
 refine eM ?_
 unfold wU at hl hh
 simp only [cQ,hx,zH,jh,hu,hb,hs,hl,hh,Nat.beq_refl,Bool.true_and]
 rw [show Nat.ble l h=true from zm h1,show Nat.ble (eo+h) ne=true from zm h2,show Nat.blt (eo+l) ne=true from zm h3]
 rfl
theorem ke{ne sz:Nat}{t:TypeId}: ∀ (vs l:List Value) (o:Nat),o+vs.length≤ne*sz→o+vs.length≤l.length→rJ vs→(dat false ne sz t l).setCells o (vs.map .sc)=some (dat false ne sz t (l.take o ++ vs ++ l.drop (o+vs.length)))
 | [],l,o,_,_,_=>by simp [VO.setCells]
 | v :: vs,l,o,h,hl,h1=>by
   simp only [zD] at h hl
   have hset:(dat false ne sz t l).setCell o (.sc v)=some (dat false ne sz t (l.set o v)):=by
    simp only [dat,VO.setCell]
    have hone:(SV.sc v).one=true:=by
     have:=ii (vs:= [v]) (fun u hu=>h1 u (by simp at hu;subst hu;exact List.mem_cons_self ..))
     simpa [c7] using this
    rw [show Nat.blt o (ne*sz)=true from zm (by omega),hone]
    simp only [Bool.and_self,cond_true,zd]
    congr 1
    funext i
    simp only [Tr.set]
    rw [List.getElem?_set]
    by_cases hi:o=i
    ·subst hi
     rw [if_pos rfl,if_pos (by omega),Nat.beq_refl]
     rfl
    ·rw [if_neg hi,show Nat.beq i o=false from by cases hb:Nat.beq i o with|false=>rfl|true=>exact absurd (Nat.eq_of_beq_eq_true hb).symm hi]
     rfl
   simp only [zC,VO.setCells,hset]
   rw [ke vs (l.set o v) (o+1) (by omega) (by rw [List.length_set];omega) (fun u hu=>h1 u (List.mem_cons_of_mem _ hu))]
   simp only [zd]
   congr 1
   have e1:(l.set o v).take (o+1)=l.take o ++ [v]:=by
    rw [List.take_set,List.set_eq_take_append_cons_drop,if_pos (by rw [List.length_take];omega),List.take_take,Nat.min_eq_left (by omega),List.drop_eq_nil_of_le (by rw [List.length_take];omega)]
   have e2:(l.set o v).drop (o+1+vs.length)=l.drop (o+(vs.length+1)):=by
    rw [List.drop_set_of_lt (by omega)]
    congr 1
    omega
   rw [e1,e2]
   simp
theorem tu{t rt:TypeId}{a x:Operand}{b o n ne sz:Nat}{l vs:List Value}{v:SV}(hs:br P t=some n)(ha:ao T a=some (.ptr b o))(hx:ao T x=some v)(hv:v.cells=vs.map .sc)(hb:H.at' b=some (dat false ne sz rt l))(hn:vs.length=n)(ho:o+n≤ne*sz)(hl:o+n≤l.length)
 (h1:rJ vs):OpDoes P T H nx ⟨d,.store t a x,ty,pos,af,gd⟩ (.skip,H.set b (dat false ne sz rt (l.take o ++ vs ++ l.drop (o+n))),nx):=by
 refine jX ?_
 subst hn
 unfold gH
 simp only [ha,hx,hv,nC,hs,List.length_map,Nat.beq_refl,cond_true,eg,hb,ke vs l o ho hl h1]
end
theorem gr{A:Type}{f:A→List Value}{sz:Nat}(hf: ∀ a,(f a).length=sz): ∀ xs:List A,(xs.flatMap f).length=xs.length*sz
 | []=>by simp
 | x :: xs=>by rw [List.flatMap_cons,zE,hf,gr hf xs,zD,Nat.add_mul];omega
theorem lu{A:Type}{f:A→List Value}{sz:Nat}(hf: ∀ a,(f a).length=sz): ∀ (xs:List A) (i:Nat),(xs.flatMap f).drop (i*sz)=(xs.drop i).flatMap f
 | xs,0=>by simp
 | [],i+1=>by simp
 | x :: xs,i+1=>by
   rw [List.flatMap_cons,List.drop_succ_cons,←lu hf xs i,show(i+1)*sz=(f x).length+i*sz by rw [hf,Nat.add_mul];omega,List.drop_length_add_append]
theorem oP{A:Type}{f:A→List Value}{sz:Nat}(hf: ∀ a,(f a).length=sz): ∀ (xs:List A) (i:Nat),(xs.flatMap f).take (i*sz)=(xs.take i).flatMap f
 | xs,0=>by simp
 | [],i+1=>by simp
 | x :: xs,i+1=>by
   rw [List.flatMap_cons,List.take_succ_cons,List.flatMap_cons,←oP hf xs i,show(i+1)*sz=(f x).length+i*sz by rw [hf,Nat.add_mul];omega,List.take_length_add_append]
theorem qW{A:Type}{f:A→List Value}{sz:Nat}(hf: ∀ a,(f a).length=sz){xs:List A}{i:Nat}{a:A}(h:xs[i]? =some a):((xs.flatMap f).drop (i*sz)).take sz=f a:=by
 rw [lu hf]
 obtain⟨hi,rfl⟩:=zi.1 h
 rw [List.drop_eq_getElem_cons hi,List.flatMap_cons,List.take_append_of_le_length (by rw [hf];exact zA _),zq (by rw [hf];exact zA _)]
theorem t7{A:Type}{f:A→List Value}{sz:Nat}(hf: ∀ a,(f a).length=sz){xs:List A}{i j:Nat}{a:A}(h:xs[i]? =some a)(hj:j<sz):(xs.flatMap f)[i*sz+j]? =(f a)[j]? :=by
 have h1:=qW hf h
 rw [← h1,List.getElem?_take,if_pos hj,List.getElem?_drop]
theorem qV{A:Type}{f:A→List Value}{sz:Nat}(hf: ∀ a,(f a).length=sz){xs:List A}{i:Nat}(hi:i<xs.length)(a:A):(xs.flatMap f).take (i*sz) ++ f a ++ (xs.flatMap f).drop (i*sz+sz)=(xs.set i a).flatMap f:=by
 rw [List.set_eq_take_append_cons_drop,if_pos hi,List.flatMap_append,List.flatMap_cons,oP hf,show i*sz+sz=(i+1)*sz by rw [Nat.add_mul];omega,lu hf,List.append_assoc]
theorem t6{A:Type}{f:A→List Value}(hf: ∀ a,rJ (f a))(xs:List A):rJ (xs.flatMap f):=by
 intro v hv
 obtain⟨a,_,ha⟩:=List.mem_flatMap.1 hv
 exact hf a v ha
structure RecOf {A:Type} (f:A→List Value) (sz:Nat):Prop where
 len: ∀ a,(f a).length=sz
 one: ∀ a,rJ (f a)
theorem nI{A:Type}{g:A→Value}(hg: ∀ a,(g a).oneCell'=true):RecOf (fun a=> [g a]) 1:=⟨fun _=>rfl,fun a v hv=>by simp only [List.mem_singleton] at hv;subst hv;exact hg a⟩
abbrev arr{A:Type}(ro:Bool)(ne sz:Nat)(t:TypeId)(f:A→List Value)(d:Array A):VO:=dat ro ne sz t (d.toList.flatMap f)
section
variable {P:Program} {T:Tr SV} {H:aK} {nx:Nat} {d0:Option Tmp} {ty:TypeId} {pos:String} {af:Array Edge} {gd:Option (Nat×Bool)}
theorem aG{t e:TypeId}{x y:Operand}{b n i:Nat}{k:IntKind}{j:Int}{ro:Bool}{ne sz:Nat}{rt:TypeId}{c:Tr SV}(hu:P.underlying t=some (.slice e))(hs:br P e=some sz)(hx:ao T x=some (.slu b 0 n))(hy:ao T y=some (.sc (.int k j)))
 (hb:H.at' b=some (.row ro ne sz rt c)) (hj:j=(i:Int)) (hi:i<n) (hne:n≤ne):ReadDoes P T H ⟨d0,.indexAddr t x y,ty,pos,af,gd⟩ (.ptr b (i*sz)):=by
 subst hj
 have:=qz (d:=d0) (ty:=ty) (pos:=pos) (af:=af) (gd:=gd) hu hs hx hy hb (by omega) (by omega) (by omega)
 simpa using this
theorem x5{A:Type} [Inhabited A]{d:Array A}{i:Nat}(hi:i<d.size):d.toList[i]? =some d[i]! :=by
 rw [Array.getElem?_toList,zr hi,getElem!_pos d i hi]
theorem qi{A:Type}{d:Array A}{i sz ne:Nat}(hi:i<d.size)(hne:d.size≤ne):i*sz+sz≤ne*sz:=by
 have:(i+1)*sz≤ne*sz:=Nat.mul_le_mul_right _ (by omega)
 rw [Nat.add_mul] at this
 omega
theorem yG{A:Type} [Inhabited A]{g:A→Value}{t rt:TypeId}{x:Operand}{b i ne:Nat}{ro:Bool}{d:Array A}(ha:bI P t=some none)(hx:ao T x=some (.ptr b (i*1)))(hb:H.at' b=some (arr ro ne 1 rt (fun a=> [g a]) d))(hi:i<d.size)(hne:d.size≤ne) :
 ReadDoes P T H ⟨d0,.load t x,ty,pos,af,gd⟩ (.sc (g d[i]!)):=by
 refine aO ha hx hb (kN (by omega) ?_)
 have:=t7 (f:=fun a=> [g a]) (sz:=1) (fun _=>rfl) (x5 hi) (j:=0) (by omega)
 simpa using this
theorem yK{A:Type}{f:A→List Value}{t rt:TypeId}{a x:Operand}{b i ne sz:Nat}{d:Array A}{v:A}{u:SV}(hs:br P t=some sz)(ha:ao T a=some (.ptr b (i*sz)))(hx:ao T x=some u)(hu:u.cells=(f v).map .sc)(hf:RecOf f sz)(hb:H.at' b=some (arr false ne sz rt f d))(hi:i<d.size)(hne:d.size≤ne) :
 OpDoes P T H nx ⟨d0,.store t a x,ty,pos,af,gd⟩ (.skip,H.set b (arr false ne sz rt f (d.setIfInBounds i v)),nx):=by
 have hsz:d.toList.length=d.size:=rfl
 have h:=tu (d:=d0) (ty:=ty) (pos:=pos) (af:=af) (gd:=gd) (nx:=nx) hs ha hx hu hb (hf.len v) (qi hi hne) (by rw [gr hf.len];exact qi hi (zA _)) (hf.one v)
 have e:=qV hf.len (xs:=d.toList) (i:=i) (by rw [hsz];exact hi) v
 rw [e] at h
 unfold arr
 rw [Array.toList_setIfInBounds]
 exact h
end
structure DrawK (P:Program) (nt:Nat) (ops:Array Oper) (i:Nat) (l:List Oper) (s:DS) (K:DS→Prop):Prop where
 ex: ∃ s',DrawRun P (wpr P) nt ops i l s s'∧K s'
def AllH(Q:List (aK×Nat))(p:aK→Prop):Prop:=match Q with
 | []=>True
 | q :: l=>p q.1∧AllH l p
theorem AllH.get{p:aK→Prop}: ∀ {Q:List (aK×Nat)},AllH Q p→ ∀ {i:Nat} {H:aK} {n:Nat},Q[i]? =some (H,n)→p H
 | [],_,i,H,n,h=>by simp at h
 | q :: l,hh,i,H,n,h=>by
   cases i with
   | zero=>simp only [zx,zd] at h;subst h;exact hh.1
   | succ i=>exact AllH.get hh.2 (by simpa using h)
def FlOk(P:Program)(ancs chain:List Nat)(Q:List (aK×Nat)):List Rec→Prop
 | []=>True
 | r :: l=>((r.chain || !r.wanted || (Nat.beq (eG (ancs.getD r.i 0) chain) r.stg && Nat.beq (cC ancs r.i chain) r.stg))=true∨AllH Q (fun H=>ReadDoes P r.T H r.o r.val))∧FlOk P ancs chain Q l
theorem FlOk.ok{P:Program}{ancs chain:List Nat}{Q:List (aK×Nat)}: ∀ {l:List Rec},FlOk P ancs chain Q l→ ∀ r∈l,r.chain=false→r.wanted=true→ ∀ st,eG (ancs.getD r.i 0) chain≤st→st≤cC ancs r.i chain→st≠r.stg→ ∀ H n,Q.reverse[st]? =some (H,n)→ReadDoes P r.T H r.o r.val
 | [],_,r,hm,_,_,_,_,_,_,_,_,_=>by cases hm
 | r0 :: l,hh,r,hm,hc,hw,st,h1,h2,h3,H,n,hq=>by
   rcases List.mem_cons.1 hm with rfl|hm
   ·rcases hh.1 with h|h
    ·rw [hc,hw] at h
     simp only [Bool.not_true,Bool.or_false,Bool.false_or,zy] at h
     have q1:=bf h.1
     have q2:=bf h.2
     omega
    ·have hlt:=(zi.1 hq).1
     rw [List.getElem?_reverse (by simpa using hlt)] at hq
     exact h.get hq
   ·exact FlOk.ok hh.2 r hm hc hw st h1 h2 h3 H n hq
theorem uy{v:Value}(h:v.oneCell'=true):(SV.sc v).cells= [.sc v]:=by
 cases v <;> first|rfl|(simp [Value.oneCell'] at h)
section
variable {P:Program} {T:Tr SV} {H:aK} {nx:Nat} {d:Option Tmp} {ty:TypeId} {pos:String} {af:Array Edge} {gd:Option (Nat×Bool)}
theorem xC{t el:TypeId}{sz:Nat}{z:Value}(hu:P.underlying t=some (.slice el))(hs:br P el=some sz)(h0:0<sz)(hz:cH P el=some z) :
 OpDoes P T H nx ⟨d,.buildSlice t 0 #[],ty,pos,af,gd⟩ (.val (.slu nx 0 0),H.set nx (dat false 0 sz el []),nx+1):=by
 rw [← jC]
 exact gj (parts:= []) (ps:= []) hu hs h0 hz rfl (by simp [fQ]) rfl (by rw [Nat.zero_mul];rfl) (by simp)
end
section
variable {P:Program} {ro:Option Nat} {fn nt nx:Nat} {T:Tr SV} {k:List AIt} {dfs:List ADf} {H:aK} {Q:Pst} {ops:Array Oper} {i:Nat} {l:List Oper} {d:Option Tmp} {ty:TypeId} {pos:String} {af:Array Edge} {gd:Option (Nat×Bool)}
theorem aT{id:Nat}{ops:List Oper}(hm:P.follows .mixedOrders=true)(hr:dY nt ops=true)
 (h:DrawK P nt ops.toArray 0 ops ⟨T,H,nx,[],[(H,nx)],0⟩ (fun s=>cN (bp [] ops) (a7 s)=true∧FlOk P (bp [] ops) (a7 s) s.Hs s.recs∧Wp P ro ⟨fn,nt,s.T,k,dfs,s.H,s.nx⟩ Q)) :
 Wp P ro ⟨fn,nt,T,.code (.region id ops.toArray true) :: k,dfs,H,nx⟩ Q:=by
 obtain⟨s,hs,h1,h2,h3⟩:=h.ex
 exact .step ⟨hm,s,⟨hr,hs,h1,fun r hr=>FlOk.ok h2 r hr⟩,h3⟩
section
variable {K:DS→Prop} {rs:List Rec} {Hs:List (aK×Nat)} {stg:Nat} {dd:Nat} {op:Op}
theorem aF{s:DS}(h:K s):DrawK P nt ops i [] s K:=⟨⟨s,.nil _ _,h⟩⟩
theorem cd(hw:aq (aA T (az ops.toList ⟨some dd,op,ty,pos,af,gd⟩)) ops ⟨some dd,op,ty,pos,af,gd⟩=some false)(hd:Nat.blt dd nt=true)
 (h:DrawK P nt ops (i+1) l ⟨T.set dd cy,H,nx,⟨i,⟨some dd,op,ty,pos,af,gd⟩,aA T (az ops.toList ⟨some dd,op,ty,pos,af,gd⟩),stg,false,false,cy⟩ :: rs,Hs,stg⟩ K) :
 DrawK P nt ops i (⟨some dd,op,ty,pos,af,gd⟩ :: l) ⟨T,H,nx,rs,Hs,stg⟩ K:=by
 obtain⟨s',h1,h2⟩:=h.ex
 refine⟨⟨s',.cons (.inl ⟨hw,?_⟩) h1,h2⟩⟩
 simp only [aC hd]
theorem bo{v:SV}(hw:aq (aA T (az ops.toList ⟨some dd,op,ty,pos,af,gd⟩)) ops ⟨some dd,op,ty,pos,af,gd⟩=some true)(hd:Nat.blt dd nt=true)(hnd: ∀ c,op ≠ .defer c)
 (hr:ReadDoes P (aA T (az ops.toList ⟨some dd,op,ty,pos,af,gd⟩)) H ⟨some dd,op,ty,pos,af,gd⟩ v)
 (h:DrawK P nt ops (i+1) l ⟨T.set dd v,H,nx,⟨i,⟨some dd,op,ty,pos,af,gd⟩,aA T (az ops.toList ⟨some dd,op,ty,pos,af,gd⟩),stg,false,true,v⟩ :: rs,Hs,stg⟩ K) :
 DrawK P nt ops i (⟨some dd,op,ty,pos,af,gd⟩ :: l) ⟨T,H,nx,rs,Hs,stg⟩ K:=by
 obtain⟨s',h1,h2⟩:=h.ex
 refine⟨⟨s',.cons (.inr (.inl ⟨hw,hnd,v,hr,?_⟩)) h1,h2⟩⟩
 simp only [aC hd]
theorem mg{v:SV}{H':aK}{nx':Nat}(hw:aq (aA T (az ops.toList ⟨some dd,op,ty,pos,af,gd⟩)) ops ⟨some dd,op,ty,pos,af,gd⟩=some true)(hd:Nat.blt dd nt=true)(hnd: ∀ c,op ≠ .defer c)
 (hr:OpDoes P (aA T (az ops.toList ⟨some dd,op,ty,pos,af,gd⟩)) H nx ⟨some dd,op,ty,pos,af,gd⟩ (.val v,H',nx'))
 (h:DrawK P nt ops (i+1) l ⟨T.set dd v,H',nx',⟨i,⟨some dd,op,ty,pos,af,gd⟩,aA T (az ops.toList ⟨some dd,op,ty,pos,af,gd⟩),stg,true,true,v⟩ :: rs,(H',nx') :: Hs,stg+1⟩ K) :
 DrawK P nt ops i (⟨some dd,op,ty,pos,af,gd⟩ :: l) ⟨T,H,nx,rs,Hs,stg⟩ K:=by
 obtain⟨s',h1,h2⟩:=h.ex
 refine⟨⟨s',.cons (.inr (.inr ⟨hw,v,H',nx',⟨_,hr,hnd,rfl⟩,?_⟩)) h1,h2⟩⟩
 simp only [aC hd]
theorem lF{H':aK}{nx':Nat}(hw:aq (aA T (az ops.toList ⟨none,op,ty,pos,af,gd⟩)) ops ⟨none,op,ty,pos,af,gd⟩=some true)(hnd: ∀ c,op ≠ .defer c)
 (hr:OpDoes P (aA T (az ops.toList ⟨none,op,ty,pos,af,gd⟩)) H nx ⟨none,op,ty,pos,af,gd⟩ (.skip,H',nx'))
 (h:DrawK P nt ops (i+1) l ⟨T,H',nx',⟨i,⟨none,op,ty,pos,af,gd⟩,aA T (az ops.toList ⟨none,op,ty,pos,af,gd⟩),stg,true,true,cy⟩ :: rs,(H',nx') :: Hs,stg+1⟩ K) :
 DrawK P nt ops i (⟨none,op,ty,pos,af,gd⟩ :: l) ⟨T,H,nx,rs,Hs,stg⟩ K:=by
 obtain⟨s',h1,h2⟩:=h.ex
 exact⟨⟨s',.cons (.inr (.inr ⟨hw,cy,H',nx',⟨_,hr,hnd,rfl⟩,rfl⟩)) h1,h2⟩⟩
theorem pJ{g:FuncId}{as1:List Operand}{ats:Array TypeId}{args:List SV}(ha:dQ T as1=some args)(hm:bZ P g=true):OpDoes P T H nx ⟨d,.call {callee:= .value (.func g),args:=as1.toArray,argTypes:=ats},ty,pos,af,gd⟩ (.enter g args,H,nx):=by
 refine jX ?_
 have hc:ch P T {callee:= .value (.func g),args:=as1.toArray,argTypes:=ats}=some (.enter g args):=by
  simp only [ch,ha,ao,dl,hm,cond_true,List.map_nil,List.nil_append,List.append_nil]
 unfold gH
 simp only [hc,zG]
theorem aY{g:FuncId}{as1:List Operand}{ats:Array TypeId}{args:List SV}{v:SV}{H':aK}{nx':Nat}(hw:aq (aA T (az ops.toList ⟨some dd,.call {callee:= .value (.func g),args:=as1.toArray,argTypes:=ats},ty,pos,af,gd⟩)) ops ⟨some dd,.call {callee:= .value (.func g),args:=as1.toArray,argTypes:=ats},ty,pos,af,gd⟩=some true)(hd:Nat.blt dd nt=true)
 (ha:dQ (aA T (az ops.toList ⟨some dd,.call {callee:= .value (.func g),args:=as1.toArray,argTypes:=ats},ty,pos,af,gd⟩)) as1=some args) (hm:bZ P g=true)
 (hr:Fnc P g args H nx (fun r=>r=(v,H',nx')))
 (h:DrawK P nt ops (i+1) l ⟨T.set dd v,H',nx',⟨i,⟨some dd,.call {callee:= .value (.func g),args:=as1.toArray,argTypes:=ats},ty,pos,af,gd⟩,aA T (az ops.toList ⟨some dd,.call {callee:= .value (.func g),args:=as1.toArray,argTypes:=ats},ty,pos,af,gd⟩),stg,true,true,v⟩ :: rs,(H',nx') :: Hs,stg+1⟩ K) :
 DrawK P nt ops i (⟨some dd,.call {callee:= .value (.func g),args:=as1.toArray,argTypes:=ats},ty,pos,af,gd⟩ :: l) ⟨T,H,nx,rs,Hs,stg⟩ K:=by
 obtain⟨s',h1,h2⟩:=h.ex
 refine⟨⟨s',.cons (.inr (.inr ⟨hw,v,H',nx',⟨_,pJ ha hm,(fun c hc=>(by cases hc)),hr⟩,?_⟩)) h1,h2⟩⟩
 simp only [aC hd]
end
def uH(vo:VO):Prop:= ∀ ρ,vo.ren ρ=vo
theorem aP{ro:Bool}{ne sz:Nat}{t:TypeId}{vs:List Value}:uH (dat ro ne sz t vs):=fun ρ=>mC ρ _ _ _ _ _
theorem bz{t:TypeId}{l:List SV}(h: ∀ ρ,SV.ij ρ l=l):uH (ak t l):=fun ρ=>by rw [s5,h]
def jI:List (Option VO)→Prop
 | []=>True
 | none :: l=>jI l
 | some vo :: l=>uH vo∧jI l
def wrL:List Nat→aK→List (Option VO)→aK
 | b :: L,H,some vo :: l=>wrL L (H.set b vo) l
 | b :: L,H,none :: l=>wrL L (H.del b) l
 | _,H,_=>H
theorem po{L0:List Nat}{nx:Nat}: ∀ (L:List Nat) (l:List (Option VO)) (i:Nat) (H:aK),(∀ j,j<L.length→ext L0 nx (i+j)=L.getD j 0)→l.length=L.length→jI l→wrO (ext L0 nx) H i (l.map (Option.map (VO.ren (ext L0 nx))))=wrL L H l
 | [],[],i,H,_,_,_=>rfl
 | [],_ :: _,i,H,_,h,_=>by simp at h
 | _ :: _,[],i,H,_,h,_=>by simp at h
 | b :: L,o :: l,i,H,he,hl,hc=>by
   have e0:ext L0 nx i=b:=by simpa using he 0 (by simp)
   have et: ∀ j,j<L.length→ext L0 nx (i+1+j)=L.getD j 0:=fun j hj=>by
    have:=he (j+1) (by simpa using hj)
    rw [show i+1+j=i+(j+1) by omega,this]
    simp
   cases o with
   | none=>simp only [zC,Option.map_none,wrO,wrL,e0];exact po L l (i+1) _ et (by simpa using hl) hc
   | some vo=>simp only [zC,zG,wrO,wrL,e0,hc.1 (ext L0 nx)];exact po L l (i+1) _ et (by simpa using hl) hc.2
section
variable {P:Program}
theorem Ctr.bA{f:FuncId}{args0 args:List SV}{pre:List VO}{c:Cz}(h:Ctr P f args0 pre (fun c'=>c'=c))(L:List Nat){H H':aK}{nx:Nat}{Q:Pst}(hlen:L.length=pre.length)(hL:ExtOk L nx)(ha:args=args0.map (SV.ren (ext L nx)))
 (hp:HasO (ext L nx) H 0 (pre.map some)) (hol:c.objs.length=L.length) (hc:jI c.objs) (hv: ∀ ρ,c.v.ren ρ=c.v) (hH:wrL L H c.objs=H') (hQ:Q (c.v,H',nx)):Fnc P f args H nx Q:=by
 refine h.callM L hlen hL ha hp (hv _) ((po L c.objs 0 H (fun j hj=>by rw [Nat.zero_add];exact q8 hj) hol hc).trans hH) ?_ hQ
 omega
end
section
variable {P:Program} {ro:Option Nat} {fn nt nx:Nat} {T:Tr SV} {k:List AIt} {dfs:List ADf} {H:aK} {Q:Pst} {ops:Array Oper} {i:Nat} {l:List Oper} {ty:TypeId} {pos:String} {af:Array Edge} {gd:Option (Nat×Bool)}
theorem aV{g:FuncId}{as1:List Operand}{ats:Array TypeId}{args:List SV}{v:SV}{H':aK}{dd:Nat}(hw:aq T ops ⟨some dd,.call {callee:= .value (.func g),args:=as1.toArray,argTypes:=ats},ty,pos,af,gd⟩=some true)(hd:Nat.blt dd nt=true)(ha:dQ T as1=some args)(hm:bZ P g=true)
 (hr:Fnc P g args H nx (fun r=>r=(v,H',nx)))
 (h:Wp P ro ⟨fn,nt,T.set dd v,.inReg ops (i+1) l :: k,dfs,H',nx⟩ Q) :
 Wp P ro ⟨fn,nt,T,.inReg ops i (⟨some dd,.call {callee:= .value (.func g),args:=as1.toArray,argTypes:=ats},ty,pos,af,gd⟩ :: l) :: k,dfs,H,nx⟩ Q:=
 aQ hw hd ha hm (hr.mono fun r hr=>by subst hr;exact h)
end
theorem gK{t el:TypeId}{len sz:Nat}{parts:List (Nat×Operand)}{ps:List (Nat×SV)}{z:Value}{cs:List SV}{dd:Nat}(hw:aq T ops ⟨some dd,.buildSlice t len parts.toArray,ty,pos,af,gd⟩=some true)(hd:Nat.blt dd nt=true)(hu:P.underlying t=some (.slice el))(hs:br P el=some sz)(h0:Nat.blt 0 sz=true)(hz:cH P el=some z)(hp:jB T parts=some ps)(hf:fQ (fun i=>some (i*sz,sz)) (((List.range (len*sz)).map (z.cells[·% z.cells.size]!)).map .sc) ps=some cs)(h1:c7 cs=true)(hlen:Nat.ble (len*sz) 16777216=true)(hll:cs.length=len*sz)
 (h:Wp P ro ⟨fn,nt,T.set dd (.slu nx 0 len),.inReg ops (i+1) l :: k,dfs,(H.set nx (.row false len sz el (eH cs))),(nx+1)⟩ Q):Wp P ro ⟨fn,nt,T,.inReg ops i (⟨some dd,.buildSlice t len parts.toArray,ty,pos,af,gd⟩ :: l) :: k,dfs,H,nx⟩ Q:=
 bC hw (.inr (fun _ h=>by cases h)) (gj hu hs (bu h0) hz hp hf h1 hlen hll) (by rw [aC hd];exact h)
theorem yw{t el:TypeId}{sz:Nat}{z:Value}{dd:Nat}(hw:aq T ops ⟨some dd,.buildSlice t 0 #[],ty,pos,af,gd⟩=some true)(hd:Nat.blt dd nt=true)(hu:P.underlying t=some (.slice el))(hs:br P el=some sz)(h0:Nat.blt 0 sz=true)(hz:cH P el=some z)
 (h:Wp P ro ⟨fn,nt,T.set dd (.slu nx 0 0),.inReg ops (i+1) l :: k,dfs,(H.set nx (dat false 0 sz el [])),(nx+1)⟩ Q):Wp P ro ⟨fn,nt,T,.inReg ops i (⟨some dd,.buildSlice t 0 #[],ty,pos,af,gd⟩ :: l) :: k,dfs,H,nx⟩ Q:=
 bC hw (.inr (fun _ h=>by cases h)) (xC hu hs (bu h0) hz) (by rw [aC hd];exact h)
theorem uQ{t tx el:TypeId}{sz m b r eo n:Nat}{s x:Operand}{v:SV}{us vs ws:List Value}{dd:Nat}(hw:aq T ops ⟨some dd,.call {callee:= .builtin .append,args:= #[s,x],argTypes:= #[t,tx]},ty,pos,af,gd⟩=some true)(hd:Nat.blt dd nt=true)(hx0:ao T s=some (.slu r eo n))(hx:ao T x=some v)(hu:P.underlying t=some (.slice el))(hk:(∃ e',P.underlying tx=some (.slice e'))∨P.underlying tx=some .string)(hs:br P el=some sz)(h0:Nat.blt 0 sz=true)(hz:eI P el sz=true)(hb:(P.info? el).map (·.bytes)=some b)(hro:H.at' r=some (dat false (eo+n) sz el us))(hr0:(us.drop (eo*sz)).take (n*sz)=ws)(hl0:ws.length=n*sz)(hr:RdV P H sz v m vs)(h1:rJ vs)(hm:0<m)(hm1:(n+m)*b≤140737488355328)(hm2:n+m≤1000000000)
 (h:Wp P ro ⟨fn,nt,T.set dd (.slu nx 0 (n+m)),.inReg ops (i+1) l :: k,dfs,((H.del r).set nx (dat false (n+m) sz el (ws ++ vs))),(nx+1)⟩ Q):Wp P ro ⟨fn,nt,T,.inReg ops i (⟨some dd,.call {callee:= .builtin .append,args:= #[s,x],argTypes:= #[t,tx]},ty,pos,af,gd⟩ :: l) :: k,dfs,H,nx⟩ Q:=
 bC hw (.inr (fun _ h=>by cases h)) (nU hu hk hs (bu h0) hz hb hx0 hx hro hr0 hl0 hr h1 hm hm1 hm2) (by rw [aC hd];exact h)
theorem sr{t el:TypeId}{x:Operand}{lo hi:Option Operand}{b eo n lw hg:Nat}{rr:Bool}{ne sz:Nat}{rt:TypeId}{c:Tr SV}{dd:Nat}(hw:aq T ops ⟨some dd,.slice t x lo hi none,ty,pos,af,gd⟩=some true)(hd:Nat.blt dd nt=true)(hx:ao T x=some (.slu b eo n))(hu:P.underlying t=some (.slice el))(hs:br P el=some sz)(hb:H.at' b=some (.row rr ne sz rt c))(hl:wU T 0 lo lw)(hh:wU T n hi hg)(h1:lw≤hg)(h2:eo+hg≤ne)(h3:eo+lw<ne)
 (h:Wp P ro ⟨fn,nt,T.set dd (.slu b (eo+lw) (hg-lw)),.inReg ops (i+1) l :: k,dfs,H,nx⟩ Q):Wp P ro ⟨fn,nt,T,.inReg ops i (⟨some dd,.slice t x lo hi none,ty,pos,af,gd⟩ :: l) :: k,dfs,H,nx⟩ Q:=
 bC hw (.inr (fun _ h=>by cases h)) ((vn hu hs hx hb hl hh h1 h2 h3).does) (by rw [aC hd];exact h)
theorem fj{t rt:TypeId}{x:Operand}{b o ne sz:Nat}{rr:Bool}{vs:List Value}{v:Value}{dd:Nat}(hw:aq T ops ⟨some dd,.load t x,ty,pos,af,gd⟩=some true)(hd:Nat.blt dd nt=true)(hx:ao T x=some (.ptr b o))(ha:bI P t=some none)(hb:H.at' b=some (dat rr ne sz rt vs))(hv:vs[o]? =some v)(ho:o<ne*sz)
 (h:Wp P ro ⟨fn,nt,T.set dd (.sc v),.inReg ops (i+1) l :: k,dfs,H,nx⟩ Q):Wp P ro ⟨fn,nt,T,.inReg ops i (⟨some dd,.load t x,ty,pos,af,gd⟩ :: l) :: k,dfs,H,nx⟩ Q:=
 bC hw (.inr (fun _ h=>by cases h)) ((aO ha hx hb (kN ho hv)).does) (by rw [aC hd];exact h)
theorem uN{t rt:TypeId}{x:Operand}{b o n ne sz:Nat}{rr:Bool}{vs us:List Value}{dd:Nat}(hw:aq T ops ⟨some dd,.load t x,ty,pos,af,gd⟩=some true)(hd:Nat.blt dd nt=true)(hx:ao T x=some (.ptr b o))(ha:bI P t=some (some n))(hb:H.at' b=some (dat rr ne sz rt vs))(hv:(vs.drop o).take n=us)(hn:us.length=n)(ho:o+n≤ne*sz)
 (h:Wp P ro ⟨fn,nt,T.set dd (.agg (us.map .sc)),.inReg ops (i+1) l :: k,dfs,H,nx⟩ Q):Wp P ro ⟨fn,nt,T,.inReg ops i (⟨some dd,.load t x,ty,pos,af,gd⟩ :: l) :: k,dfs,H,nx⟩ Q:=
 bC hw (.inr (fun _ h=>by cases h)) ((bY ha hx hb (dM n o hv hn ho)).does) (by rw [aC hd];exact h)
theorem kb{t e:TypeId}{x y:Operand}{b n q:Nat}{kd:IntKind}{j:Int}{rr:Bool}{ne sz:Nat}{rt:TypeId}{c:Tr SV}{dd:Nat}(hw:aq T ops ⟨some dd,.indexAddr t x y,ty,pos,af,gd⟩=some true)(hd:Nat.blt dd nt=true)(hx:ao T x=some (.slu b 0 n))(hy:ao T y=some (.sc (.int kd j)))(hu:P.underlying t=some (.slice e))(hs:br P e=some sz)(hb:H.at' b=some (.row rr ne sz rt c))(hj:j=(q:Int))(hi:q<n)(hne:n≤ne)
 (h:Wp P ro ⟨fn,nt,T.set dd (.ptr b (q*sz)),.inReg ops (i+1) l :: k,dfs,H,nx⟩ Q):Wp P ro ⟨fn,nt,T,.inReg ops i (⟨some dd,.indexAddr t x y,ty,pos,af,gd⟩ :: l) :: k,dfs,H,nx⟩ Q:=
 bC hw (.inr (fun _ h=>by cases h)) ((aG hu hs hx hy hb hj hi hne).does) (by rw [aC hd];exact h)
end
section
variable {P:Program} {nt nx:Nat} {T:Tr SV} {H:aK} {ops:Array Oper} {i:Nat} {l:List Oper} {ty:TypeId} {pos:String} {af:Array Edge} {gd:Option (Nat×Bool)} {K:DS→Prop} {rs:List Rec} {Hs:List (aK×Nat)} {stg:Nat}
theorem ax{x:Operand}{v:SV}{dd:Nat}(hw:aq (aA T (az ops.toList ⟨some dd,.move x,ty,pos,af,gd⟩)) ops ⟨some dd,.move x,ty,pos,af,gd⟩=some true)(hd:Nat.blt dd nt=true)(hx:ao (aA T (az ops.toList ⟨some dd,.move x,ty,pos,af,gd⟩)) x=some v)
 (h:DrawK P nt ops (i+1) l ⟨T.set dd v,H,nx,⟨i,⟨some dd,.move x,ty,pos,af,gd⟩,(aA T (az ops.toList ⟨some dd,.move x,ty,pos,af,gd⟩)),stg,false,true,v⟩ :: rs,Hs,stg⟩ K):DrawK P nt ops i (⟨some dd,.move x,ty,pos,af,gd⟩ :: l) ⟨T,H,nx,rs,Hs,stg⟩ K:=
 bo hw hd (fun _ h=>by cases h) (aB hx) h
theorem cR{x:Operand}{v:SV}{dd:Nat}(hw:aq (aA T (az ops.toList ⟨some dd,.assign x,ty,pos,af,gd⟩)) ops ⟨some dd,.assign x,ty,pos,af,gd⟩=some true)(hd:Nat.blt dd nt=true)(hx:ao (aA T (az ops.toList ⟨some dd,.assign x,ty,pos,af,gd⟩)) x=some v)
 (h:DrawK P nt ops (i+1) l ⟨T.set dd v,H,nx,⟨i,⟨some dd,.assign x,ty,pos,af,gd⟩,(aA T (az ops.toList ⟨some dd,.assign x,ty,pos,af,gd⟩)),stg,false,true,v⟩ :: rs,Hs,stg⟩ K):DrawK P nt ops i (⟨some dd,.assign x,ty,pos,af,gd⟩ :: l) ⟨T,H,nx,rs,Hs,stg⟩ K:=
 bo hw hd (fun _ h=>by cases h) (dD hx) h
theorem bK{c a b:Operand}{v:SV}{dd:Nat}(hw:aq (aA T (az ops.toList ⟨some dd,.pick c a b,ty,pos,af,gd⟩)) ops ⟨some dd,.pick c a b,ty,pos,af,gd⟩=some true)(hd:Nat.blt dd nt=true)(hc:ao (aA T (az ops.toList ⟨some dd,.pick c a b,ty,pos,af,gd⟩)) c=some (.sc (.bool true)))(hx:ao (aA T (az ops.toList ⟨some dd,.pick c a b,ty,pos,af,gd⟩)) a=some v)
 (h:DrawK P nt ops (i+1) l ⟨T.set dd v,H,nx,⟨i,⟨some dd,.pick c a b,ty,pos,af,gd⟩,(aA T (az ops.toList ⟨some dd,.pick c a b,ty,pos,af,gd⟩)),stg,false,true,v⟩ :: rs,Hs,stg⟩ K):DrawK P nt ops i (⟨some dd,.pick c a b,ty,pos,af,gd⟩ :: l) ⟨T,H,nx,rs,Hs,stg⟩ K:=
 bo hw hd (fun _ h=>by cases h) (aX hc hx) h
theorem bL{c a b:Operand}{v:SV}{dd:Nat}(hw:aq (aA T (az ops.toList ⟨some dd,.pick c a b,ty,pos,af,gd⟩)) ops ⟨some dd,.pick c a b,ty,pos,af,gd⟩=some true)(hd:Nat.blt dd nt=true)(hc:ao (aA T (az ops.toList ⟨some dd,.pick c a b,ty,pos,af,gd⟩)) c=some (.sc (.bool false)))(hx:ao (aA T (az ops.toList ⟨some dd,.pick c a b,ty,pos,af,gd⟩)) b=some v)
 (h:DrawK P nt ops (i+1) l ⟨T.set dd v,H,nx,⟨i,⟨some dd,.pick c a b,ty,pos,af,gd⟩,(aA T (az ops.toList ⟨some dd,.pick c a b,ty,pos,af,gd⟩)),stg,false,true,v⟩ :: rs,Hs,stg⟩ K):DrawK P nt ops i (⟨some dd,.pick c a b,ty,pos,af,gd⟩ :: l) ⟨T,H,nx,rs,Hs,stg⟩ K:=
 bo hw hd (fun _ h=>by cases h) (gg hc hx) h
theorem mf{x:Operand}{j:Nat}{xs:List SV}{v:SV}{dd:Nat}(hw:aq (aA T (az ops.toList ⟨some dd,.extract x j,ty,pos,af,gd⟩)) ops ⟨some dd,.extract x j,ty,pos,af,gd⟩=some true)(hd:Nat.blt dd nt=true)(hx:ao (aA T (az ops.toList ⟨some dd,.extract x j,ty,pos,af,gd⟩)) x=some (.tup xs))(hj:xs[j]? =some v)
 (h:DrawK P nt ops (i+1) l ⟨T.set dd v,H,nx,⟨i,⟨some dd,.extract x j,ty,pos,af,gd⟩,(aA T (az ops.toList ⟨some dd,.extract x j,ty,pos,af,gd⟩)),stg,false,true,v⟩ :: rs,Hs,stg⟩ K):DrawK P nt ops i (⟨some dd,.extract x j,ty,pos,af,gd⟩ :: l) ⟨T,H,nx,rs,Hs,stg⟩ K:=
 bo hw hd (fun _ h=>by cases h) (iq hx hj) h
theorem bl{x:Operand}{b o:Nat}{dd:Nat}(hw:aq (aA T (az ops.toList ⟨some dd,.nilCheck x,ty,pos,af,gd⟩)) ops ⟨some dd,.nilCheck x,ty,pos,af,gd⟩=some true)(hd:Nat.blt dd nt=true)(hx:ao (aA T (az ops.toList ⟨some dd,.nilCheck x,ty,pos,af,gd⟩)) x=some (.ptr b o))
 (h:DrawK P nt ops (i+1) l ⟨T.set dd (.ptr b o),H,nx,⟨i,⟨some dd,.nilCheck x,ty,pos,af,gd⟩,(aA T (az ops.toList ⟨some dd,.nilCheck x,ty,pos,af,gd⟩)),stg,false,true,(.ptr b o)⟩ :: rs,Hs,stg⟩ K):DrawK P nt ops i (⟨some dd,.nilCheck x,ty,pos,af,gd⟩ :: l) ⟨T,H,nx,rs,Hs,stg⟩ K:=
 bo hw hd (fun _ h=>by cases h) (bv hx) h
theorem aW{s:TypeId}{x:Operand}{f b o off:Nat}{dd:Nat}(hw:aq (aA T (az ops.toList ⟨some dd,.fieldAddr s x f,ty,pos,af,gd⟩)) ops ⟨some dd,.fieldAddr s x f,ty,pos,af,gd⟩=some true)(hd:Nat.blt dd nt=true)(hx:ao (aA T (az ops.toList ⟨some dd,.fieldAddr s x f,ty,pos,af,gd⟩)) x=some (.ptr b o))(hf:iG P s f=some off)
 (h:DrawK P nt ops (i+1) l ⟨T.set dd (.ptr b (o+off)),H,nx,⟨i,⟨some dd,.fieldAddr s x f,ty,pos,af,gd⟩,(aA T (az ops.toList ⟨some dd,.fieldAddr s x f,ty,pos,af,gd⟩)),stg,false,true,(.ptr b (o+off))⟩ :: rs,Hs,stg⟩ K):DrawK P nt ops i (⟨some dd,.fieldAddr s x f,ty,pos,af,gd⟩ :: l) ⟨T,H,nx,rs,Hs,stg⟩ K:=
 bo hw hd (fun _ h=>by cases h) (bc hf hx) h
theorem bP{t:TypeId}{x:Operand}{b o:Nat}{vo:VO}{v:SV}{dd:Nat}(hw:aq (aA T (az ops.toList ⟨some dd,.load t x,ty,pos,af,gd⟩)) ops ⟨some dd,.load t x,ty,pos,af,gd⟩=some true)(hd:Nat.blt dd nt=true)(hx:ao (aA T (az ops.toList ⟨some dd,.load t x,ty,pos,af,gd⟩)) x=some (.ptr b o))(ha:bI P t=some none)(hb:H.at' b=some vo)(hv:vo.cell o=some v)
 (h:DrawK P nt ops (i+1) l ⟨T.set dd v,H,nx,⟨i,⟨some dd,.load t x,ty,pos,af,gd⟩,(aA T (az ops.toList ⟨some dd,.load t x,ty,pos,af,gd⟩)),stg,false,true,v⟩ :: rs,Hs,stg⟩ K):DrawK P nt ops i (⟨some dd,.load t x,ty,pos,af,gd⟩ :: l) ⟨T,H,nx,rs,Hs,stg⟩ K:=
 bo hw hd (fun _ h=>by cases h) (aO ha hx hb hv) h
theorem cE{t bt:TypeId}{x:Operand}{b o:Nat}{cs:List SV}{v:SV}{dd:Nat}(hw:aq (aA T (az ops.toList ⟨some dd,.load t x,ty,pos,af,gd⟩)) ops ⟨some dd,.load t x,ty,pos,af,gd⟩=some true)(hd:Nat.blt dd nt=true)(hx:ao (aA T (az ops.toList ⟨some dd,.load t x,ty,pos,af,gd⟩)) x=some (.ptr b o))(ha:bI P t=some none)(hb:H.at' b=some (ak bt cs))(hv:cs[o]? =some v)
 (h:DrawK P nt ops (i+1) l ⟨T.set dd v,H,nx,⟨i,⟨some dd,.load t x,ty,pos,af,gd⟩,(aA T (az ops.toList ⟨some dd,.load t x,ty,pos,af,gd⟩)),stg,false,true,v⟩ :: rs,Hs,stg⟩ K):DrawK P nt ops i (⟨some dd,.load t x,ty,pos,af,gd⟩ :: l) ⟨T,H,nx,rs,Hs,stg⟩ K:=
 bo hw hd (fun _ h=>by cases h) (aO ha hx hb (aN hv)) h
theorem gv{t:TypeId}{x:Operand}{b o n:Nat}{vo:VO}{cs:List SV}{dd:Nat}(hw:aq (aA T (az ops.toList ⟨some dd,.load t x,ty,pos,af,gd⟩)) ops ⟨some dd,.load t x,ty,pos,af,gd⟩=some true)(hd:Nat.blt dd nt=true)(hx:ao (aA T (az ops.toList ⟨some dd,.load t x,ty,pos,af,gd⟩)) x=some (.ptr b o))(ha:bI P t=some (some n))(hb:H.at' b=some vo)(hv:vo.cellsFrom o n=some cs)
 (h:DrawK P nt ops (i+1) l ⟨T.set dd (.agg cs),H,nx,⟨i,⟨some dd,.load t x,ty,pos,af,gd⟩,(aA T (az ops.toList ⟨some dd,.load t x,ty,pos,af,gd⟩)),stg,false,true,(.agg cs)⟩ :: rs,Hs,stg⟩ K):DrawK P nt ops i (⟨some dd,.load t x,ty,pos,af,gd⟩ :: l) ⟨T,H,nx,rs,Hs,stg⟩ K:=
 bo hw hd (fun _ h=>by cases h) (bY ha hx hb hv) h
theorem qa{t:TypeId}{x:Operand}{cs:List SV}{dd:Nat}(hw:aq (aA T (az ops.toList ⟨some dd,.box t x,ty,pos,af,gd⟩)) ops ⟨some dd,.box t x,ty,pos,af,gd⟩=some true)(hd:Nat.blt dd nt=true)(hx:ao (aA T (az ops.toList ⟨some dd,.box t x,ty,pos,af,gd⟩)) x=some (.agg cs))
 (h:DrawK P nt ops (i+1) l ⟨T.set dd (.ptr nx 0),(H.set nx (ak t cs)),(nx+1),⟨i,⟨some dd,.box t x,ty,pos,af,gd⟩,(aA T (az ops.toList ⟨some dd,.box t x,ty,pos,af,gd⟩)),stg,true,true,(.ptr nx 0)⟩ :: rs,((H.set nx (ak t cs)),(nx+1)) :: Hs,stg+1⟩ K):DrawK P nt ops i (⟨some dd,.box t x,ty,pos,af,gd⟩ :: l) ⟨T,H,nx,rs,Hs,stg⟩ K:=
 mg hw hd (fun _ h=>by cases h) (tz hx) h
theorem lB{t bt:TypeId}{a x:Operand}{b o:Nat}{cs:List SV}{v:SV}(hw:aq (aA T (az ops.toList ⟨none,.store t a x,ty,pos,af,gd⟩)) ops ⟨none,.store t a x,ty,pos,af,gd⟩=some true)(ha:ao (aA T (az ops.toList ⟨none,.store t a x,ty,pos,af,gd⟩)) a=some (.ptr b o))(hx:ao (aA T (az ops.toList ⟨none,.store t a x,ty,pos,af,gd⟩)) x=some v)(hs:br P t=some 1)(hb:H.at' b=some (ak bt cs))(h1:v.one=true)(ho:Nat.blt o cs.length=true)
 (h:DrawK P nt ops (i+1) l ⟨T,(H.set b (ak bt (cs.set o v))),nx,⟨i,⟨none,.store t a x,ty,pos,af,gd⟩,(aA T (az ops.toList ⟨none,.store t a x,ty,pos,af,gd⟩)),stg,true,true,cy⟩ :: rs,((H.set b (ak bt (cs.set o v))),nx) :: Hs,stg+1⟩ K):DrawK P nt ops i (⟨none,.store t a x,ty,pos,af,gd⟩ :: l) ⟨T,H,nx,rs,Hs,stg⟩ K:=
 lF hw (fun _ h=>by cases h) (nR hs ha hx hb h1 (zj ho)) h
theorem ug{t bt:TypeId}{a x:Operand}{b o n:Nat}{cs vs cs':List SV}(hw:aq (aA T (az ops.toList ⟨none,.store t a x,ty,pos,af,gd⟩)) ops ⟨none,.store t a x,ty,pos,af,gd⟩=some true)(ha:ao (aA T (az ops.toList ⟨none,.store t a x,ty,pos,af,gd⟩)) a=some (.ptr b o))(hx:ao (aA T (az ops.toList ⟨none,.store t a x,ty,pos,af,gd⟩)) x=some (.agg vs))(hs:br P t=some n)(hb:H.at' b=some (ak bt cs))(hn:vs.length=n)(ho:o+n≤cs.length)(h1:c7 vs=true)(hc:cs.take o ++ vs ++ cs.drop (o+n)=cs')
 (h:DrawK P nt ops (i+1) l ⟨T,(H.set b (ak bt cs')),nx,⟨i,⟨none,.store t a x,ty,pos,af,gd⟩,(aA T (az ops.toList ⟨none,.store t a x,ty,pos,af,gd⟩)),stg,true,true,cy⟩ :: rs,((H.set b (ak bt cs')),nx) :: Hs,stg+1⟩ K):DrawK P nt ops i (⟨none,.store t a x,ty,pos,af,gd⟩ :: l) ⟨T,H,nx,rs,Hs,stg⟩ K:=
 lF hw (fun _ h=>by cases h) (hc ▸ iv hs ha hx rfl hb hn ho h1) h
theorem cG{t yt:TypeId}{x y:Operand}{a b:Int}{dd:Nat}(hw:aq (aA T (az ops.toList ⟨some dd,.binOp .add t x y yt,ty,pos,af,gd⟩)) ops ⟨some dd,.binOp .add t x y yt,ty,pos,af,gd⟩=some true)(hd:Nat.blt dd nt=true)(hx:ao (aA T (az ops.toList ⟨some dd,.binOp .add t x y yt,ty,pos,af,gd⟩)) x=some (.sc (.int .i64 a)))(hy:ao (aA T (az ops.toList ⟨some dd,.binOp .add t x y yt,ty,pos,af,gd⟩)) y=some (.sc (.int .i64 b)))(h1 : -9223372036854775808≤a+b)(h2:a+b≤9223372036854775807)
 (h:DrawK P nt ops (i+1) l ⟨T.set dd (.sc (.int .i64 (a+b))),H,nx,⟨i,⟨some dd,.binOp .add t x y yt,ty,pos,af,gd⟩,(aA T (az ops.toList ⟨some dd,.binOp .add t x y yt,ty,pos,af,gd⟩)),stg,false,true,(.sc (.int .i64 (a+b)))⟩ :: rs,Hs,stg⟩ K):DrawK P nt ops i (⟨some dd,.binOp .add t x y yt,ty,pos,af,gd⟩ :: l) ⟨T,H,nx,rs,Hs,stg⟩ K:=
 bo hw hd (fun _ h=>by cases h) (aL hx hy (.inl ⟨rfl,(zf _ ⟨h1,h2⟩).symm⟩)) h
theorem cD{t yt:TypeId}{x y:Operand}{a b:Int}{dd:Nat}(hw:aq (aA T (az ops.toList ⟨some dd,.binOp .sub t x y yt,ty,pos,af,gd⟩)) ops ⟨some dd,.binOp .sub t x y yt,ty,pos,af,gd⟩=some true)(hd:Nat.blt dd nt=true)(hx:ao (aA T (az ops.toList ⟨some dd,.binOp .sub t x y yt,ty,pos,af,gd⟩)) x=some (.sc (.int .i64 a)))(hy:ao (aA T (az ops.toList ⟨some dd,.binOp .sub t x y yt,ty,pos,af,gd⟩)) y=some (.sc (.int .i64 b)))(h1 : -9223372036854775808≤a-b)(h2:a-b≤9223372036854775807)
 (h:DrawK P nt ops (i+1) l ⟨T.set dd (.sc (.int .i64 (a-b))),H,nx,⟨i,⟨some dd,.binOp .sub t x y yt,ty,pos,af,gd⟩,(aA T (az ops.toList ⟨some dd,.binOp .sub t x y yt,ty,pos,af,gd⟩)),stg,false,true,(.sc (.int .i64 (a-b)))⟩ :: rs,Hs,stg⟩ K):DrawK P nt ops i (⟨some dd,.binOp .sub t x y yt,ty,pos,af,gd⟩ :: l) ⟨T,H,nx,rs,Hs,stg⟩ K:=
 bo hw hd (fun _ h=>by cases h) (aL hx hy (.inr (.inl ⟨rfl,(zf _ ⟨h1,h2⟩).symm⟩))) h
theorem yY{t yt:TypeId}{x y:Operand}{kd:IntKind}{a b:Int}{dd:Nat}(hw:aq (aA T (az ops.toList ⟨some dd,.binOp .eql t x y yt,ty,pos,af,gd⟩)) ops ⟨some dd,.binOp .eql t x y yt,ty,pos,af,gd⟩=some true)(hd:Nat.blt dd nt=true)(hx:ao (aA T (az ops.toList ⟨some dd,.binOp .eql t x y yt,ty,pos,af,gd⟩)) x=some (.sc (.int kd a)))(hy:ao (aA T (az ops.toList ⟨some dd,.binOp .eql t x y yt,ty,pos,af,gd⟩)) y=some (.sc (.int kd b)))
 (h:DrawK P nt ops (i+1) l ⟨T.set dd (.sc (.bool (a == b))),H,nx,⟨i,⟨some dd,.binOp .eql t x y yt,ty,pos,af,gd⟩,(aA T (az ops.toList ⟨some dd,.binOp .eql t x y yt,ty,pos,af,gd⟩)),stg,false,true,(.sc (.bool (a == b)))⟩ :: rs,Hs,stg⟩ K):DrawK P nt ops i (⟨some dd,.binOp .eql t x y yt,ty,pos,af,gd⟩ :: l) ⟨T,H,nx,rs,Hs,stg⟩ K:=
 bo hw hd (fun _ h=>by cases h) (bW hx hy (.inl ⟨rfl,rfl⟩)) h
theorem yV{t yt:TypeId}{x y:Operand}{kd:IntKind}{a b:Int}{dd:Nat}(hw:aq (aA T (az ops.toList ⟨some dd,.binOp .neq t x y yt,ty,pos,af,gd⟩)) ops ⟨some dd,.binOp .neq t x y yt,ty,pos,af,gd⟩=some true)(hd:Nat.blt dd nt=true)(hx:ao (aA T (az ops.toList ⟨some dd,.binOp .neq t x y yt,ty,pos,af,gd⟩)) x=some (.sc (.int kd a)))(hy:ao (aA T (az ops.toList ⟨some dd,.binOp .neq t x y yt,ty,pos,af,gd⟩)) y=some (.sc (.int kd b)))
 (h:DrawK P nt ops (i+1) l ⟨T.set dd (.sc (.bool (a != b))),H,nx,⟨i,⟨some dd,.binOp .neq t x y yt,ty,pos,af,gd⟩,(aA T (az ops.toList ⟨some dd,.binOp .neq t x y yt,ty,pos,af,gd⟩)),stg,false,true,(.sc (.bool (a != b)))⟩ :: rs,Hs,stg⟩ K):DrawK P nt ops i (⟨some dd,.binOp .neq t x y yt,ty,pos,af,gd⟩ :: l) ⟨T,H,nx,rs,Hs,stg⟩ K:=
 bo hw hd (fun _ h=>by cases h) (bW hx hy (.inr (.inl ⟨rfl,rfl⟩))) h
theorem wO{t yt:TypeId}{x y:Operand}{kd:IntKind}{a b:Int}{dd:Nat}(hw:aq (aA T (az ops.toList ⟨some dd,.binOp .lss t x y yt,ty,pos,af,gd⟩)) ops ⟨some dd,.binOp .lss t x y yt,ty,pos,af,gd⟩=some true)(hd:Nat.blt dd nt=true)(hx:ao (aA T (az ops.toList ⟨some dd,.binOp .lss t x y yt,ty,pos,af,gd⟩)) x=some (.sc (.int kd a)))(hy:ao (aA T (az ops.toList ⟨some dd,.binOp .lss t x y yt,ty,pos,af,gd⟩)) y=some (.sc (.int kd b)))
 (h:DrawK P nt ops (i+1) l ⟨T.set dd (.sc (.bool (decide (a<b)))),H,nx,⟨i,⟨some dd,.binOp .lss t x y yt,ty,pos,af,gd⟩,(aA T (az ops.toList ⟨some dd,.binOp .lss t x y yt,ty,pos,af,gd⟩)),stg,false,true,(.sc (.bool (decide (a<b))))⟩ :: rs,Hs,stg⟩ K):DrawK P nt ops i (⟨some dd,.binOp .lss t x y yt,ty,pos,af,gd⟩ :: l) ⟨T,H,nx,rs,Hs,stg⟩ K:=
 bo hw hd (fun _ h=>by cases h) (bW hx hy (.inr (.inr (.inl ⟨rfl,rfl⟩)))) h
theorem yW{t yt:TypeId}{x y:Operand}{kd:IntKind}{a b:Int}{dd:Nat}(hw:aq (aA T (az ops.toList ⟨some dd,.binOp .leq t x y yt,ty,pos,af,gd⟩)) ops ⟨some dd,.binOp .leq t x y yt,ty,pos,af,gd⟩=some true)(hd:Nat.blt dd nt=true)(hx:ao (aA T (az ops.toList ⟨some dd,.binOp .leq t x y yt,ty,pos,af,gd⟩)) x=some (.sc (.int kd a)))(hy:ao (aA T (az ops.toList ⟨some dd,.binOp .leq t x y yt,ty,pos,af,gd⟩)) y=some (.sc (.int kd b)))
 (h:DrawK P nt ops (i+1) l ⟨T.set dd (.sc (.bool (decide (a≤b)))),H,nx,⟨i,⟨some dd,.binOp .leq t x y yt,ty,pos,af,gd⟩,(aA T (az ops.toList ⟨some dd,.binOp .leq t x y yt,ty,pos,af,gd⟩)),stg,false,true,(.sc (.bool (decide (a≤b))))⟩ :: rs,Hs,stg⟩ K):DrawK P nt ops i (⟨some dd,.binOp .leq t x y yt,ty,pos,af,gd⟩ :: l) ⟨T,H,nx,rs,Hs,stg⟩ K:=
 bo hw hd (fun _ h=>by cases h) (bW hx hy (.inr (.inr (.inr (.inl ⟨rfl,rfl⟩))))) h
theorem yX{t yt:TypeId}{x y:Operand}{kd:IntKind}{a b:Int}{dd:Nat}(hw:aq (aA T (az ops.toList ⟨some dd,.binOp .gtr t x y yt,ty,pos,af,gd⟩)) ops ⟨some dd,.binOp .gtr t x y yt,ty,pos,af,gd⟩=some true)(hd:Nat.blt dd nt=true)(hx:ao (aA T (az ops.toList ⟨some dd,.binOp .gtr t x y yt,ty,pos,af,gd⟩)) x=some (.sc (.int kd a)))(hy:ao (aA T (az ops.toList ⟨some dd,.binOp .gtr t x y yt,ty,pos,af,gd⟩)) y=some (.sc (.int kd b)))
 (h:DrawK P nt ops (i+1) l ⟨T.set dd (.sc (.bool (decide (a>b)))),H,nx,⟨i,⟨some dd,.binOp .gtr t x y yt,ty,pos,af,gd⟩,(aA T (az ops.toList ⟨some dd,.binOp .gtr t x y yt,ty,pos,af,gd⟩)),stg,false,true,(.sc (.bool (decide (a>b))))⟩ :: rs,Hs,stg⟩ K):DrawK P nt ops i (⟨some dd,.binOp .gtr t x y yt,ty,pos,af,gd⟩ :: l) ⟨T,H,nx,rs,Hs,stg⟩ K:=
 bo hw hd (fun _ h=>by cases h) (bW hx hy (.inr (.inr (.inr (.inr (.inl ⟨rfl,rfl⟩)))))) h
theorem xT{t yt:TypeId}{x y:Operand}{kd:IntKind}{a b c:Int}{dd:Nat}(hw:aq (aA T (az ops.toList ⟨some dd,.binOp .rem t x y yt,ty,pos,af,gd⟩)) ops ⟨some dd,.binOp .rem t x y yt,ty,pos,af,gd⟩=some true)(hd:Nat.blt dd nt=true)(hx:ao (aA T (az ops.toList ⟨some dd,.binOp .rem t x y yt,ty,pos,af,gd⟩)) x=some (.sc (.int kd a)))(hy:ao (aA T (az ops.toList ⟨some dd,.binOp .rem t x y yt,ty,pos,af,gd⟩)) y=some (.sc (.int kd b)))(h0:b≠0)(hc:a.tmod b=c)
 (h:DrawK P nt ops (i+1) l ⟨T.set dd (.sc (.int kd c)),H,nx,⟨i,⟨some dd,.binOp .rem t x y yt,ty,pos,af,gd⟩,(aA T (az ops.toList ⟨some dd,.binOp .rem t x y yt,ty,pos,af,gd⟩)),stg,false,true,(.sc (.int kd c))⟩ :: rs,Hs,stg⟩ K):DrawK P nt ops i (⟨some dd,.binOp .rem t x y yt,ty,pos,af,gd⟩ :: l) ⟨T,H,nx,rs,Hs,stg⟩ K:=
 bo hw hd (fun _ h=>by cases h) (yF hx hy h0 hc) h
theorem qb{op:BinOp}{t yt:TypeId}{x y:Operand}{kd:IntKind}{a b c:Int}{dd:Nat}(hw:aq (aA T (az ops.toList ⟨some dd,.binOp op t x y yt,ty,pos,af,gd⟩)) ops ⟨some dd,.binOp op t x y yt,ty,pos,af,gd⟩=some true)(hd:Nat.blt dd nt=true)(hx:ao (aA T (az ops.toList ⟨some dd,.binOp op t x y yt,ty,pos,af,gd⟩)) x=some (.sc (.int kd a)))(hy:ao (aA T (az ops.toList ⟨some dd,.binOp op t x y yt,ty,pos,af,gd⟩)) y=some (.sc (.int kd b)))(ho:op = .and∨op = .or∨op = .xor∨op = .andNot)(hc:r7 op kd a b=c)
 (h:DrawK P nt ops (i+1) l ⟨T.set dd (.sc (.int kd c)),H,nx,⟨i,⟨some dd,.binOp op t x y yt,ty,pos,af,gd⟩,(aA T (az ops.toList ⟨some dd,.binOp op t x y yt,ty,pos,af,gd⟩)),stg,false,true,(.sc (.int kd c))⟩ :: rs,Hs,stg⟩ K):DrawK P nt ops i (⟨some dd,.binOp op t x y yt,ty,pos,af,gd⟩ :: l) ⟨T,H,nx,rs,Hs,stg⟩ K:=
 bo hw hd (fun _ h=>by cases h) (tf hx hy ho hc) h
theorem uh{t yt:TypeId}{x y:Operand}{kd kd2:IntKind}{a b c:Int}{dd:Nat}(hw:aq (aA T (az ops.toList ⟨some dd,.binOp .shl t x y yt,ty,pos,af,gd⟩)) ops ⟨some dd,.binOp .shl t x y yt,ty,pos,af,gd⟩=some true)(hd:Nat.blt dd nt=true)(hx:ao (aA T (az ops.toList ⟨some dd,.binOp .shl t x y yt,ty,pos,af,gd⟩)) x=some (.sc (.int kd a)))(hy:ao (aA T (az ops.toList ⟨some dd,.binOp .shl t x y yt,ty,pos,af,gd⟩)) y=some (.sc (.int kd2 b)))(h0:0≤b)(hc:kd.wrap (a*2 ^ (min b.toNat kd.bits))=c)
 (h:DrawK P nt ops (i+1) l ⟨T.set dd (.sc (.int kd c)),H,nx,⟨i,⟨some dd,.binOp .shl t x y yt,ty,pos,af,gd⟩,(aA T (az ops.toList ⟨some dd,.binOp .shl t x y yt,ty,pos,af,gd⟩)),stg,false,true,(.sc (.int kd c))⟩ :: rs,Hs,stg⟩ K):DrawK P nt ops i (⟨some dd,.binOp .shl t x y yt,ty,pos,af,gd⟩ :: l) ⟨T,H,nx,rs,Hs,stg⟩ K:=
 bo hw hd (fun _ h=>by cases h) (wB hx hy h0 hc) h
theorem xS{t yt:TypeId}{x y:Operand}{kd kd2:IntKind}{a b c:Int}{dd:Nat}(hw:aq (aA T (az ops.toList ⟨some dd,.binOp .shr t x y yt,ty,pos,af,gd⟩)) ops ⟨some dd,.binOp .shr t x y yt,ty,pos,af,gd⟩=some true)(hd:Nat.blt dd nt=true)(hx:ao (aA T (az ops.toList ⟨some dd,.binOp .shr t x y yt,ty,pos,af,gd⟩)) x=some (.sc (.int kd a)))(hy:ao (aA T (az ops.toList ⟨some dd,.binOp .shr t x y yt,ty,pos,af,gd⟩)) y=some (.sc (.int kd2 b)))(h0:0≤b)(hc:a.fdiv (2 ^ (min b.toNat kd.bits))=c)
 (h:DrawK P nt ops (i+1) l ⟨T.set dd (.sc (.int kd c)),H,nx,⟨i,⟨some dd,.binOp .shr t x y yt,ty,pos,af,gd⟩,(aA T (az ops.toList ⟨some dd,.binOp .shr t x y yt,ty,pos,af,gd⟩)),stg,false,true,(.sc (.int kd c))⟩ :: rs,Hs,stg⟩ K):DrawK P nt ops i (⟨some dd,.binOp .shr t x y yt,ty,pos,af,gd⟩ :: l) ⟨T,H,nx,rs,Hs,stg⟩ K:=
 bo hw hd (fun _ h=>by cases h) (wA hx hy h0 hc) h
theorem m6{t:TypeId}{parts:List (Nat×Operand)}{ps:List (Nat×SV)}{pl:List (Nat×Nat)}{z:Value}{cs:List SV}{dd:Nat}(hw:aq (aA T (az ops.toList ⟨some dd,.build t parts.toArray,ty,pos,af,gd⟩)) ops ⟨some dd,.build t parts.toArray,ty,pos,af,gd⟩=some true)(hd:Nat.blt dd nt=true)(hx:jB (aA T (az ops.toList ⟨some dd,.build t parts.toArray,ty,pos,af,gd⟩)) parts=some ps)(hz:cH P t=some z)(hl:yb P t=some pl)(hf:fQ (fun i=>pl[i]?) (z.cells.toList.map .sc) ps=some cs)
 (h:DrawK P nt ops (i+1) l ⟨T.set dd (.agg cs),H,nx,⟨i,⟨some dd,.build t parts.toArray,ty,pos,af,gd⟩,(aA T (az ops.toList ⟨some dd,.build t parts.toArray,ty,pos,af,gd⟩)),stg,false,true,(.agg cs)⟩ :: rs,Hs,stg⟩ K):DrawK P nt ops i (⟨some dd,.build t parts.toArray,ty,pos,af,gd⟩ :: l) ⟨T,H,nx,rs,Hs,stg⟩ K:=
 bo hw hd (fun _ h=>by cases h) (gh hx hz hl hf) h
theorem cl{t:TypeId}{x:Operand}{b:Bool}{dd:Nat}(hw:aq (aA T (az ops.toList ⟨some dd,.unOp .not t x,ty,pos,af,gd⟩)) ops ⟨some dd,.unOp .not t x,ty,pos,af,gd⟩=some true)(hd:Nat.blt dd nt=true)(hx:ao (aA T (az ops.toList ⟨some dd,.unOp .not t x,ty,pos,af,gd⟩)) x=some (.sc (.bool b)))
 (h:DrawK P nt ops (i+1) l ⟨T.set dd (.sc (.bool (!b))),H,nx,⟨i,⟨some dd,.unOp .not t x,ty,pos,af,gd⟩,(aA T (az ops.toList ⟨some dd,.unOp .not t x,ty,pos,af,gd⟩)),stg,false,true,(.sc (.bool (!b)))⟩ :: rs,Hs,stg⟩ K):DrawK P nt ops i (⟨some dd,.unOp .not t x,ty,pos,af,gd⟩ :: l) ⟨T,H,nx,rs,Hs,stg⟩ K:=
 bo hw hd (fun _ h=>by cases h) (bD hx) h
theorem rg{t e:TypeId}{x:Operand}{b eo n:Nat}{dd:Nat}(hw:aq (aA T (az ops.toList ⟨some dd,.call {callee:= .builtin .len,args:= #[x],argTypes:= #[t]},ty,pos,af,gd⟩)) ops ⟨some dd,.call {callee:= .builtin .len,args:= #[x],argTypes:= #[t]},ty,pos,af,gd⟩=some true)(hd:Nat.blt dd nt=true)(hx:ao (aA T (az ops.toList ⟨some dd,.call {callee:= .builtin .len,args:= #[x],argTypes:= #[t]},ty,pos,af,gd⟩)) x=some (.slu b eo n))(hu:P.underlying t=some (.slice e))
 (h:DrawK P nt ops (i+1) l ⟨T.set dd (.sc (.int .i64 n)),H,nx,⟨i,⟨some dd,.call {callee:= .builtin .len,args:= #[x],argTypes:= #[t]},ty,pos,af,gd⟩,(aA T (az ops.toList ⟨some dd,.call {callee:= .builtin .len,args:= #[x],argTypes:= #[t]},ty,pos,af,gd⟩)),stg,false,true,(.sc (.int .i64 n))⟩ :: rs,Hs,stg⟩ K):DrawK P nt ops i (⟨some dd,.call {callee:= .builtin .len,args:= #[x],argTypes:= #[t]},ty,pos,af,gd⟩ :: l) ⟨T,H,nx,rs,Hs,stg⟩ K:=
 bo hw hd (fun _ h=>by cases h) (kG hu hx) h
theorem ul{t:TypeId}{x:Operand}{s:ByteArray}{dd:Nat}(hw:aq (aA T (az ops.toList ⟨some dd,.call {callee:= .builtin .len,args:= #[x],argTypes:= #[t]},ty,pos,af,gd⟩)) ops ⟨some dd,.call {callee:= .builtin .len,args:= #[x],argTypes:= #[t]},ty,pos,af,gd⟩=some true)(hd:Nat.blt dd nt=true)(hx:ao (aA T (az ops.toList ⟨some dd,.call {callee:= .builtin .len,args:= #[x],argTypes:= #[t]},ty,pos,af,gd⟩)) x=some (.sc (.string s)))(hu:P.underlying t=some .string)
 (h:DrawK P nt ops (i+1) l ⟨T.set dd (.sc (.int .i64 s.size)),H,nx,⟨i,⟨some dd,.call {callee:= .builtin .len,args:= #[x],argTypes:= #[t]},ty,pos,af,gd⟩,(aA T (az ops.toList ⟨some dd,.call {callee:= .builtin .len,args:= #[x],argTypes:= #[t]},ty,pos,af,gd⟩)),stg,false,true,(.sc (.int .i64 s.size))⟩ :: rs,Hs,stg⟩ K):DrawK P nt ops i (⟨some dd,.call {callee:= .builtin .len,args:= #[x],argTypes:= #[t]},ty,pos,af,gd⟩ :: l) ⟨T,H,nx,rs,Hs,stg⟩ K:=
 bo hw hd (fun _ h=>by cases h) (nK hu hx) h
theorem vT{t e:TypeId}{x y:Operand}{b eo n:Nat}{kd:IntKind}{j:Int}{rr:Bool}{ne sz:Nat}{rt:TypeId}{c:Tr SV}{dd:Nat}(hw:aq (aA T (az ops.toList ⟨some dd,.indexAddr t x y,ty,pos,af,gd⟩)) ops ⟨some dd,.indexAddr t x y,ty,pos,af,gd⟩=some true)(hd:Nat.blt dd nt=true)(hx:ao (aA T (az ops.toList ⟨some dd,.indexAddr t x y,ty,pos,af,gd⟩)) x=some (.slu b eo n))(hy:ao (aA T (az ops.toList ⟨some dd,.indexAddr t x y,ty,pos,af,gd⟩)) y=some (.sc (.int kd j)))(hu:P.underlying t=some (.slice e))(hs:br P e=some sz)(hb:H.at' b=some (.row rr ne sz rt c))(h0:0≤j)(hj:j<n)(hne:eo+n≤ne)
 (h:DrawK P nt ops (i+1) l ⟨T.set dd (.ptr b ((eo+j.toNat)*sz)),H,nx,⟨i,⟨some dd,.indexAddr t x y,ty,pos,af,gd⟩,(aA T (az ops.toList ⟨some dd,.indexAddr t x y,ty,pos,af,gd⟩)),stg,false,true,(.ptr b ((eo+j.toNat)*sz))⟩ :: rs,Hs,stg⟩ K):DrawK P nt ops i (⟨some dd,.indexAddr t x y,ty,pos,af,gd⟩ :: l) ⟨T,H,nx,rs,Hs,stg⟩ K:=
 bo hw hd (fun _ h=>by cases h) (qz hu hs hx hy hb h0 hj hne) h
theorem eO{t el:TypeId}{len sz:Nat}{parts:List (Nat×Operand)}{ps:List (Nat×SV)}{z:Value}{cs:List SV}{dd:Nat}(hw:aq (aA T (az ops.toList ⟨some dd,.buildSlice t len parts.toArray,ty,pos,af,gd⟩)) ops ⟨some dd,.buildSlice t len parts.toArray,ty,pos,af,gd⟩=some true)(hd:Nat.blt dd nt=true)(hu:P.underlying t=some (.slice el))(hs:br P el=some sz)(h0:Nat.blt 0 sz=true)(hz:cH P el=some z)(hp:jB (aA T (az ops.toList ⟨some dd,.buildSlice t len parts.toArray,ty,pos,af,gd⟩)) parts=some ps)(hf:fQ (fun i=>some (i*sz,sz)) (((List.range (len*sz)).map (z.cells[·% z.cells.size]!)).map .sc) ps=some cs)(h1:c7 cs=true)(hlen:Nat.ble (len*sz) 16777216=true)(hll:cs.length=len*sz)
 (h:DrawK P nt ops (i+1) l ⟨T.set dd (.slu nx 0 len),(H.set nx (.row false len sz el (eH cs))),(nx+1),⟨i,⟨some dd,.buildSlice t len parts.toArray,ty,pos,af,gd⟩,(aA T (az ops.toList ⟨some dd,.buildSlice t len parts.toArray,ty,pos,af,gd⟩)),stg,true,true,(.slu nx 0 len)⟩ :: rs,((H.set nx (.row false len sz el (eH cs))),(nx+1)) :: Hs,stg+1⟩ K):DrawK P nt ops i (⟨some dd,.buildSlice t len parts.toArray,ty,pos,af,gd⟩ :: l) ⟨T,H,nx,rs,Hs,stg⟩ K:=
 mg hw hd (fun _ h=>by cases h) (gj hu hs (bu h0) hz hp hf h1 hlen hll) h
theorem kq{t tx el:TypeId}{sz m b:Nat}{s x:Operand}{v:SV}{vs:List Value}{dd:Nat}(hw:aq (aA T (az ops.toList ⟨some dd,.call {callee:= .builtin .append,args:= #[s,x],argTypes:= #[t,tx]},ty,pos,af,gd⟩)) ops ⟨some dd,.call {callee:= .builtin .append,args:= #[s,x],argTypes:= #[t,tx]},ty,pos,af,gd⟩=some true)(hd:Nat.blt dd nt=true)(hx0:ao (aA T (az ops.toList ⟨some dd,.call {callee:= .builtin .append,args:= #[s,x],argTypes:= #[t,tx]},ty,pos,af,gd⟩)) s=some (.sc (.slice none 0 0)))(hx:ao (aA T (az ops.toList ⟨some dd,.call {callee:= .builtin .append,args:= #[s,x],argTypes:= #[t,tx]},ty,pos,af,gd⟩)) x=some v)(hu:P.underlying t=some (.slice el))(hk:(∃ e',P.underlying tx=some (.slice e'))∨P.underlying tx=some .string)(hs:br P el=some sz)(h0:Nat.blt 0 sz=true)(hz:eI P el sz=true)(hb:(P.info? el).map (·.bytes)=some b)(hr:RdV P H sz v m vs)(h1:rJ vs)(hm1:m*b≤140737488355328)(hm2:m≤1000000000)
 (h:DrawK P nt ops (i+1) l ⟨T.set dd (.slu nx 0 m),(H.set nx (dat false m sz el vs)),(nx+1),⟨i,⟨some dd,.call {callee:= .builtin .append,args:= #[s,x],argTypes:= #[t,tx]},ty,pos,af,gd⟩,(aA T (az ops.toList ⟨some dd,.call {callee:= .builtin .append,args:= #[s,x],argTypes:= #[t,tx]},ty,pos,af,gd⟩)),stg,true,true,(.slu nx 0 m)⟩ :: rs,((H.set nx (dat false m sz el vs)),(nx+1)) :: Hs,stg+1⟩ K):DrawK P nt ops i (⟨some dd,.call {callee:= .builtin .append,args:= #[s,x],argTypes:= #[t,tx]},ty,pos,af,gd⟩ :: l) ⟨T,H,nx,rs,Hs,stg⟩ K:=
 mg hw hd (fun _ h=>by cases h) (nT hu hk hs (bu h0) hz hb hx0 hx hr h1 hm1 hm2) h
theorem uk{t rt:TypeId}{x:Operand}{b o ne sz:Nat}{rr:Bool}{vs:List Value}{v:Value}{dd:Nat}(hw:aq (aA T (az ops.toList ⟨some dd,.load t x,ty,pos,af,gd⟩)) ops ⟨some dd,.load t x,ty,pos,af,gd⟩=some true)(hd:Nat.blt dd nt=true)(hx:ao (aA T (az ops.toList ⟨some dd,.load t x,ty,pos,af,gd⟩)) x=some (.ptr b o))(ha:bI P t=some none)(hb:H.at' b=some (dat rr ne sz rt vs))(hv:vs[o]? =some v)(ho:o<ne*sz)
 (h:DrawK P nt ops (i+1) l ⟨T.set dd (.sc v),H,nx,⟨i,⟨some dd,.load t x,ty,pos,af,gd⟩,(aA T (az ops.toList ⟨some dd,.load t x,ty,pos,af,gd⟩)),stg,false,true,(.sc v)⟩ :: rs,Hs,stg⟩ K):DrawK P nt ops i (⟨some dd,.load t x,ty,pos,af,gd⟩ :: l) ⟨T,H,nx,rs,Hs,stg⟩ K:=
 bo hw hd (fun _ h=>by cases h) (aO ha hx hb (kN ho hv)) h
theorem uj{t rt:TypeId}{x:Operand}{b o n ne sz:Nat}{rr:Bool}{vs us:List Value}{dd:Nat}(hw:aq (aA T (az ops.toList ⟨some dd,.load t x,ty,pos,af,gd⟩)) ops ⟨some dd,.load t x,ty,pos,af,gd⟩=some true)(hd:Nat.blt dd nt=true)(hx:ao (aA T (az ops.toList ⟨some dd,.load t x,ty,pos,af,gd⟩)) x=some (.ptr b o))(ha:bI P t=some (some n))(hb:H.at' b=some (dat rr ne sz rt vs))(hv:(vs.drop o).take n=us)(hn:us.length=n)(ho:o+n≤ne*sz)
 (h:DrawK P nt ops (i+1) l ⟨T.set dd (.agg (us.map .sc)),H,nx,⟨i,⟨some dd,.load t x,ty,pos,af,gd⟩,(aA T (az ops.toList ⟨some dd,.load t x,ty,pos,af,gd⟩)),stg,false,true,(.agg (us.map .sc))⟩ :: rs,Hs,stg⟩ K):DrawK P nt ops i (⟨some dd,.load t x,ty,pos,af,gd⟩ :: l) ⟨T,H,nx,rs,Hs,stg⟩ K:=
 bo hw hd (fun _ h=>by cases h) (bY ha hx hb (dM n o hv hn ho)) h
theorem au{t e:TypeId}{x y:Operand}{b n q:Nat}{kd:IntKind}{j:Int}{rr:Bool}{ne sz:Nat}{rt:TypeId}{c:Tr SV}{dd:Nat}(hw:aq (aA T (az ops.toList ⟨some dd,.indexAddr t x y,ty,pos,af,gd⟩)) ops ⟨some dd,.indexAddr t x y,ty,pos,af,gd⟩=some true)(hd:Nat.blt dd nt=true)(hx:ao (aA T (az ops.toList ⟨some dd,.indexAddr t x y,ty,pos,af,gd⟩)) x=some (.slu b 0 n))(hy:ao (aA T (az ops.toList ⟨some dd,.indexAddr t x y,ty,pos,af,gd⟩)) y=some (.sc (.int kd j)))(hu:P.underlying t=some (.slice e))(hs:br P e=some sz)(hb:H.at' b=some (.row rr ne sz rt c))(hj:j=(q:Int))(hi:q<n)(hne:n≤ne)
 (h:DrawK P nt ops (i+1) l ⟨T.set dd (.ptr b (q*sz)),H,nx,⟨i,⟨some dd,.indexAddr t x y,ty,pos,af,gd⟩,(aA T (az ops.toList ⟨some dd,.indexAddr t x y,ty,pos,af,gd⟩)),stg,false,true,(.ptr b (q*sz))⟩ :: rs,Hs,stg⟩ K):DrawK P nt ops i (⟨some dd,.indexAddr t x y,ty,pos,af,gd⟩ :: l) ⟨T,H,nx,rs,Hs,stg⟩ K:=
 bo hw hd (fun _ h=>by cases h) (aG hu hs hx hy hb hj hi hne) h
theorem ba{A:Type} [Inhabited A]{g:A→Value}{t rt:TypeId}{x:Operand}{b q ne:Nat}{rr:Bool}{d:Array A}{dd:Nat}(hw:aq (aA T (az ops.toList ⟨some dd,.load t x,ty,pos,af,gd⟩)) ops ⟨some dd,.load t x,ty,pos,af,gd⟩=some true)(hd:Nat.blt dd nt=true)(hx:ao (aA T (az ops.toList ⟨some dd,.load t x,ty,pos,af,gd⟩)) x=some (.ptr b (q*1)))(ha:bI P t=some none)(hb:H.at' b=some (arr rr ne 1 rt (fun a=> [g a]) d))(hi:q<d.size)(hne:d.size≤ne)
 (h:DrawK P nt ops (i+1) l ⟨T.set dd (.sc (g d[q]!)),H,nx,⟨i,⟨some dd,.load t x,ty,pos,af,gd⟩,(aA T (az ops.toList ⟨some dd,.load t x,ty,pos,af,gd⟩)),stg,false,true,(.sc (g d[q]!))⟩ :: rs,Hs,stg⟩ K):DrawK P nt ops i (⟨some dd,.load t x,ty,pos,af,gd⟩ :: l) ⟨T,H,nx,rs,Hs,stg⟩ K:=
 bo hw hd (fun _ h=>by cases h) (yG ha hx hb hi hne) h
theorem bU{A:Type}{g:A→Value}{t rt:TypeId}{a x:Operand}{b q ne:Nat}{d:Array A}{v:A}(hw:aq (aA T (az ops.toList ⟨none,.store t a x,ty,pos,af,gd⟩)) ops ⟨none,.store t a x,ty,pos,af,gd⟩=some true)(ha:ao (aA T (az ops.toList ⟨none,.store t a x,ty,pos,af,gd⟩)) a=some (.ptr b (q*1)))(hx:ao (aA T (az ops.toList ⟨none,.store t a x,ty,pos,af,gd⟩)) x=some (.sc (g v)))(hg: ∀ a,(g a).oneCell'=true)(hs:br P t=some 1)(hb:H.at' b=some (arr false ne 1 rt (fun a=> [g a]) d))(hi:q<d.size)(hne:d.size≤ne)
 (h:DrawK P nt ops (i+1) l ⟨T,(H.set b (arr false ne 1 rt (fun a=> [g a]) (d.setIfInBounds q v))),nx,⟨i,⟨none,.store t a x,ty,pos,af,gd⟩,(aA T (az ops.toList ⟨none,.store t a x,ty,pos,af,gd⟩)),stg,true,true,cy⟩ :: rs,((H.set b (arr false ne 1 rt (fun a=> [g a]) (d.setIfInBounds q v))),nx) :: Hs,stg+1⟩ K):DrawK P nt ops i (⟨none,.store t a x,ty,pos,af,gd⟩ :: l) ⟨T,H,nx,rs,Hs,stg⟩ K:=
 lF hw (fun _ h=>by cases h) (yK (f:=fun a=> [g a]) (v:=v) hs ha hx (uy (hg v)) (nI hg) hb hi hne) h
theorem lD{t yt:TypeId}{x y:Operand}{kd:IntKind}{a b:Int}{dd:Nat}(hw:aq (aA T (az ops.toList ⟨some dd,.binOp .eql t x y yt,ty,pos,af,gd⟩)) ops ⟨some dd,.binOp .eql t x y yt,ty,pos,af,gd⟩=some true)(hd:Nat.blt dd nt=true)(hx:ao (aA T (az ops.toList ⟨some dd,.binOp .eql t x y yt,ty,pos,af,gd⟩)) x=some (.sc (.int kd a)))(hy:ao (aA T (az ops.toList ⟨some dd,.binOp .eql t x y yt,ty,pos,af,gd⟩)) y=some (.sc (.int kd b)))
 (h1:a=b→DrawK P nt ops (i+1) l ⟨T.set dd (.sc (.bool true)),H,nx,⟨i,⟨some dd,.binOp .eql t x y yt,ty,pos,af,gd⟩,(aA T (az ops.toList ⟨some dd,.binOp .eql t x y yt,ty,pos,af,gd⟩)),stg,false,true,(.sc (.bool true))⟩ :: rs,Hs,stg⟩ K) (h2:a≠b→DrawK P nt ops (i+1) l ⟨T.set dd (.sc (.bool false)),H,nx,⟨i,⟨some dd,.binOp .eql t x y yt,ty,pos,af,gd⟩,(aA T (az ops.toList ⟨some dd,.binOp .eql t x y yt,ty,pos,af,gd⟩)),stg,false,true,(.sc (.bool false))⟩ :: rs,Hs,stg⟩ K):DrawK P nt ops i (⟨some dd,.binOp .eql t x y yt,ty,pos,af,gd⟩ :: l) ⟨T,H,nx,rs,Hs,stg⟩ K:=by
 refine yY hw hd hx hy ?_
 by_cases hc:a=b
 ·have e:(a == b)=true:=by simp;omega
  rw [e];exact h1 hc
 ·have e:(a == b)=false:=by simp;omega
  rw [e];exact h2 (by omega)
theorem jY{t yt:TypeId}{x y:Operand}{kd:IntKind}{a b:Int}{dd:Nat}(hw:aq (aA T (az ops.toList ⟨some dd,.binOp .neq t x y yt,ty,pos,af,gd⟩)) ops ⟨some dd,.binOp .neq t x y yt,ty,pos,af,gd⟩=some true)(hd:Nat.blt dd nt=true)(hx:ao (aA T (az ops.toList ⟨some dd,.binOp .neq t x y yt,ty,pos,af,gd⟩)) x=some (.sc (.int kd a)))(hy:ao (aA T (az ops.toList ⟨some dd,.binOp .neq t x y yt,ty,pos,af,gd⟩)) y=some (.sc (.int kd b)))
 (h1:a≠b→DrawK P nt ops (i+1) l ⟨T.set dd (.sc (.bool true)),H,nx,⟨i,⟨some dd,.binOp .neq t x y yt,ty,pos,af,gd⟩,(aA T (az ops.toList ⟨some dd,.binOp .neq t x y yt,ty,pos,af,gd⟩)),stg,false,true,(.sc (.bool true))⟩ :: rs,Hs,stg⟩ K) (h2:a=b→DrawK P nt ops (i+1) l ⟨T.set dd (.sc (.bool false)),H,nx,⟨i,⟨some dd,.binOp .neq t x y yt,ty,pos,af,gd⟩,(aA T (az ops.toList ⟨some dd,.binOp .neq t x y yt,ty,pos,af,gd⟩)),stg,false,true,(.sc (.bool false))⟩ :: rs,Hs,stg⟩ K):DrawK P nt ops i (⟨some dd,.binOp .neq t x y yt,ty,pos,af,gd⟩ :: l) ⟨T,H,nx,rs,Hs,stg⟩ K:=by
 refine yV hw hd hx hy ?_
 by_cases hc:a≠b
 ·have e:(a != b)=true:=by simp;omega
  rw [e];exact h1 hc
 ·have e:(a != b)=false:=by simp;omega
  rw [e];exact h2 (by omega)
theorem jZ{t yt:TypeId}{x y:Operand}{kd:IntKind}{a b:Int}{dd:Nat}(hw:aq (aA T (az ops.toList ⟨some dd,.binOp .lss t x y yt,ty,pos,af,gd⟩)) ops ⟨some dd,.binOp .lss t x y yt,ty,pos,af,gd⟩=some true)(hd:Nat.blt dd nt=true)(hx:ao (aA T (az ops.toList ⟨some dd,.binOp .lss t x y yt,ty,pos,af,gd⟩)) x=some (.sc (.int kd a)))(hy:ao (aA T (az ops.toList ⟨some dd,.binOp .lss t x y yt,ty,pos,af,gd⟩)) y=some (.sc (.int kd b)))
 (h1:a<b→DrawK P nt ops (i+1) l ⟨T.set dd (.sc (.bool true)),H,nx,⟨i,⟨some dd,.binOp .lss t x y yt,ty,pos,af,gd⟩,(aA T (az ops.toList ⟨some dd,.binOp .lss t x y yt,ty,pos,af,gd⟩)),stg,false,true,(.sc (.bool true))⟩ :: rs,Hs,stg⟩ K) (h2:b≤a→DrawK P nt ops (i+1) l ⟨T.set dd (.sc (.bool false)),H,nx,⟨i,⟨some dd,.binOp .lss t x y yt,ty,pos,af,gd⟩,(aA T (az ops.toList ⟨some dd,.binOp .lss t x y yt,ty,pos,af,gd⟩)),stg,false,true,(.sc (.bool false))⟩ :: rs,Hs,stg⟩ K):DrawK P nt ops i (⟨some dd,.binOp .lss t x y yt,ty,pos,af,gd⟩ :: l) ⟨T,H,nx,rs,Hs,stg⟩ K:=by
 refine wO hw hd hx hy ?_
 by_cases hc:a<b
 ·have e:(decide (a<b))=true:=by simp;omega
  rw [e];exact h1 hc
 ·have e:(decide (a<b))=false:=by simp;omega
  rw [e];exact h2 (by omega)
theorem dJ{t yt:TypeId}{x y:Operand}{kd:IntKind}{a b:Int}{dd:Nat}(hw:aq (aA T (az ops.toList ⟨some dd,.binOp .leq t x y yt,ty,pos,af,gd⟩)) ops ⟨some dd,.binOp .leq t x y yt,ty,pos,af,gd⟩=some true)(hd:Nat.blt dd nt=true)(hx:ao (aA T (az ops.toList ⟨some dd,.binOp .leq t x y yt,ty,pos,af,gd⟩)) x=some (.sc (.int kd a)))(hy:ao (aA T (az ops.toList ⟨some dd,.binOp .leq t x y yt,ty,pos,af,gd⟩)) y=some (.sc (.int kd b)))
 (h1:a≤b→DrawK P nt ops (i+1) l ⟨T.set dd (.sc (.bool true)),H,nx,⟨i,⟨some dd,.binOp .leq t x y yt,ty,pos,af,gd⟩,(aA T (az ops.toList ⟨some dd,.binOp .leq t x y yt,ty,pos,af,gd⟩)),stg,false,true,(.sc (.bool true))⟩ :: rs,Hs,stg⟩ K) (h2:b<a→DrawK P nt ops (i+1) l ⟨T.set dd (.sc (.bool false)),H,nx,⟨i,⟨some dd,.binOp .leq t x y yt,ty,pos,af,gd⟩,(aA T (az ops.toList ⟨some dd,.binOp .leq t x y yt,ty,pos,af,gd⟩)),stg,false,true,(.sc (.bool false))⟩ :: rs,Hs,stg⟩ K):DrawK P nt ops i (⟨some dd,.binOp .leq t x y yt,ty,pos,af,gd⟩ :: l) ⟨T,H,nx,rs,Hs,stg⟩ K:=by
 refine yW hw hd hx hy ?_
 by_cases hc:a≤b
 ·have e:(decide (a≤b))=true:=by simp;omega
  rw [e];exact h1 hc
 ·have e:(decide (a≤b))=false:=by simp;omega
  rw [e];exact h2 (by omega)
theorem ja{t yt:TypeId}{x y:Operand}{kd:IntKind}{a b:Int}{dd:Nat}(hw:aq (aA T (az ops.toList ⟨some dd,.binOp .gtr t x y yt,ty,pos,af,gd⟩)) ops ⟨some dd,.binOp .gtr t x y yt,ty,pos,af,gd⟩=some true)(hd:Nat.blt dd nt=true)(hx:ao (aA T (az ops.toList ⟨some dd,.binOp .gtr t x y yt,ty,pos,af,gd⟩)) x=some (.sc (.int kd a)))(hy:ao (aA T (az ops.toList ⟨some dd,.binOp .gtr t x y yt,ty,pos,af,gd⟩)) y=some (.sc (.int kd b)))
 (h1:b<a→DrawK P nt ops (i+1) l ⟨T.set dd (.sc (.bool true)),H,nx,⟨i,⟨some dd,.binOp .gtr t x y yt,ty,pos,af,gd⟩,(aA T (az ops.toList ⟨some dd,.binOp .gtr t x y yt,ty,pos,af,gd⟩)),stg,false,true,(.sc (.bool true))⟩ :: rs,Hs,stg⟩ K) (h2:a≤b→DrawK P nt ops (i+1) l ⟨T.set dd (.sc (.bool false)),H,nx,⟨i,⟨some dd,.binOp .gtr t x y yt,ty,pos,af,gd⟩,(aA T (az ops.toList ⟨some dd,.binOp .gtr t x y yt,ty,pos,af,gd⟩)),stg,false,true,(.sc (.bool false))⟩ :: rs,Hs,stg⟩ K):DrawK P nt ops i (⟨some dd,.binOp .gtr t x y yt,ty,pos,af,gd⟩ :: l) ⟨T,H,nx,rs,Hs,stg⟩ K:=by
 refine yX hw hd hx hy ?_
 by_cases hc:b<a
 ·have e:(decide (a>b))=true:=by simp;omega
  rw [e];exact h1 hc
 ·have e:(decide (a>b))=false:=by simp;omega
  rw [e];exact h2 (by omega)
end
def jU(k:IntKind)(l:List Int):List Value:=l.map fun n=> .int k n
theorem nD{P:Program}{t:TypeId}{k:IntKind}{l:List Int}{i:Nat}(hu:P.underlying t=some (.int k))(hi:i<l.length)(w:World):(part t (jU k l).toArray (i*1)).run P w = .ok (.int k l[i]) w:=by
 have hv:(jU k l).toArray[i]? =some (.int k l[i]):=by
  simp [jU,zh hi]
 rw [Nat.mul_one]
 generalize (jU k l).toArray=cs at hv
 simp [part,isAgg,run_underlying hu,hv]
theorem gM{P:Program}{e:TypeId}{k:IntKind}(hu:P.underlying e=some (.int k))(d:Nat)(xs ys:List Int)(w:World): ∀ is:List Nat,(∀ i∈is,i<xs.length∧i<ys.length)→(Op.eqItems (d+1) e 1 (jU k xs).toArray (jU k ys).toArray is).run P w = .ok (is.all fun i=>xs[i]? == ys[i]?) w
 | [],_=>by simp [Op.eqItems]
 | i :: is,h=>by
   obtain⟨h1,h2⟩:=h i List.mem_cons_self
   simp only [Op.eqItems,Sem.run_bind,nD hu h1,nD hu h2,run_equalIn_int w d e k k _ _ hu,Result.andThen_ok]
   have ih:=gM hu d xs ys w is fun j hj=>h j (List.mem_cons_of_mem _ hj)
   rw [List.all_cons,zh h1,zh h2]
   by_cases he:xs[i]=ys[i]
   ·simp [he,ih]
   ·simp [he]
theorem pd{xs ys:List Int}{n:Nat}(hx:xs.length=n)(hy:ys.length=n):((List.range n).all fun i=>xs[i]? == ys[i]?)=decide (xs=ys):=by
 by_cases h:xs=ys
 ·subst h
  simp
 ·rw [decide_eq_false h]
  cases h':(List.range n).all fun i=>xs[i]? == ys[i]? with
  | false=>rfl
  | true=>
    refine absurd (List.ext_getElem? fun i=>?_) h
    rw [List.all_eq_true] at h'
    rcases Nat.lt_or_ge i n with hi|hi
    ·simpa using h' i (List.mem_range.2 hi)
    ·rw [List.getElem?_eq_none (by omega),List.getElem?_eq_none (by omega)]
theorem nF{P:Program}{t e:TypeId}{n:Nat}{k:IntKind}{i:TypeInfo}(hu:P.underlying t=some (.array n e))(hi:P.info? e=some i)(hc:P.cellsOf e=1)(he:P.underlying e=some (.int k)){xs ys:List Int}(hx:xs.length=n)(hy:ys.length=n)(w:World) :
 (Op.equalIn 10000 t (.agg (jU k xs).toArray) (.agg (jU k ys).toArray)).run P w = .ok (decide (xs=ys)) w:=by
 rw [show(10000:Nat)=9998+1+1 from rfl,run_equalIn_array w (9998+1) _ _ hu hi,hc,gM he 9998 xs ys w _ (fun i hi=>by rw [hx,hy];exact⟨List.mem_range.1 hi,List.mem_range.1 hi⟩),pd hx hy]
section
variable {P:Program} {H:aK} {T:Tr SV} {nx:Nat}
variable {d:Option Tmp} {ty:TypeId} {pos:String} {af:Array Edge} {gd:Option (Nat×Bool)}
theorem iI{e:Env}{l:List Value}{v:Value}(h:(SV.agg (l.map .sc)).conc e=some v):v = .agg l.toArray:=by
 have hl: ∀ l:List Value,SV.aM e (l.map .sc)=some l:=fun l=>by
  induction l with
  | nil=>rfl
  | cons x l ih=>exact bw rfl ih
 simp only [SV.conc,hl,zG,zd] at h
 exact h.symm
theorem tc{t e:TypeId}{n:Nat}{k:IntKind}{i:TypeInfo}(hu:P.underlying t=some (.array n e))(hi:P.info? e=some i)(hc:P.cellsOf e=1)(he:P.underlying e=some (.int k))(hg:P.eqGuardType P.depth t=false){x y:Operand}{yt:TypeId}{xs ys:List Int}(hlx:xs.length=n)(hly:ys.length=n)(hx:ao T x=some (.agg ((jU k xs).map .sc)))(hy:ao T y=some (.agg ((jU k ys).map .sc))) :
 ReadDoes P T H ⟨d,.binOp .eql t x y yt,ty,pos,af,gd⟩ (.sc (.bool (decide (xs=ys)))):=by
 intro K w0 ev nx w en hS hE
 refine⟨_,rfl,?_⟩
 have e1:=iI (hE x _ hx)
 have e2:=iI (hE y _ hy)
 simp [execOp,e1,e2,run_eqGuard_agg (P:=P) w .eql t x y _ _ hg,run_eql_struct,nF hu hi hc he hlx hly]
theorem ta{t e:TypeId}{n:Nat}{k:IntKind}{i:TypeInfo}(hu:P.underlying t=some (.array n e))(hi:P.info? e=some i)(hc:P.cellsOf e=1)(he:P.underlying e=some (.int k))(hg:P.eqGuardType P.depth t=false){x y:Operand}{yt:TypeId}{xs ys:List Int}(hlx:xs.length=n)(hly:ys.length=n)(hx:ao T x=some (.agg ((jU k xs).map .sc)))(hy:ao T y=some (.agg ((jU k ys).map .sc))) :
 ReadDoes P T H ⟨d,.binOp .neq t x y yt,ty,pos,af,gd⟩ (.sc (.bool (!decide (xs=ys)))):=by
 intro K w0 ev nx w en hS hE
 refine⟨_,rfl,?_⟩
 have e1:=iI (hE x _ hx)
 have e2:=iI (hE y _ hy)
 simp [execOp,e1,e2,run_eqGuard_agg (P:=P) w .neq t x y _ _ hg,run_neq_struct,nF hu hi hc he hlx hly]
end
end Go.Sy
end
section
namespace Go.Proofs.Ytbmekelkddllkaa
open Go Go.Sy
namespace F
def chk{A:Type}(f:Nat→Option A):Nat→List (Option A)→List (Option A)
 | _,[]=> []
 | i,none :: l=>none :: chk f (i+1) l
 | i,some _ :: l=>f i :: chk f (i+1) l
theorem ic{A:Type}{f:Nat→Option A}: ∀ {l:List (Option A)} {k:Nat},chk f k l=l→ ∀ {i:Nat} {x:A},l[i]? =some (some x)→f (k+i)=some x
 | none :: l,k,h,0,x,hx=>by simp at hx
 | some y :: l,k,h,0,x,hx=>by
   simp only [chk,List.cons.injEq] at h
   rw [Nat.add_zero,h.1]
   simpa using hx
 | none :: l,k,h,i+1,x,hx=>by
   simp only [chk,List.cons.injEq] at h
   rw [show k+(i+1)=k+1+i by omega]
   exact ic h.2 (by simpa using hx)
 | some y :: l,k,h,i+1,x,hx=>by
   simp only [chk,List.cons.injEq] at h
   rw [show k+(i+1)=k+1+i by omega]
   exact ic h.2 (by simpa using hx)
def yg(f:Nat→Option Nat):Nat→List Nat→List (Option Nat)
 | _,[]=> []
 | k,_ :: l=>f k :: yg f (k+1) l
theorem rh{f:Nat→Option Nat}: ∀ {l:List Nat} {k:Nat},yg f k l=l.map some→ ∀ {i x:Nat},l[i]? =some x→f (k+i)=some x
 | y :: l,k,h,0,x,hx=>by
   simp only [yg,zC,List.cons.injEq] at h
   rw [Nat.add_zero,h.1]
   simpa using hx
 | y :: l,k,h,i+1,x,hx=>by
   simp only [yg,zC,List.cons.injEq] at h
   rw [show k+(i+1)=k+1+i by omega]
   exact rh h.2 (by simpa using hx)
def y6(f:Nat→Nat→Option Nat):Nat→List (Option (List Nat))→Prop
 | _,[]=>True
 | i,none :: l=>y6 f (i+1) l
 | i,some r :: l=>yg (f i) 0 r=r.map some∧y6 f (i+1) l
theorem nj{f:Nat→Nat→Option Nat}: ∀ {l:List (Option (List Nat))} {k:Nat},y6 f k l→ ∀ {i:Nat} {x:List Nat},l[i]? =some (some x)→yg (f (k+i)) 0 x=x.map some
 | none :: l,k,h,0,x,hx=>by simp at hx
 | some y :: l,k,h,0,x,hx=>by
   have e:y=x:=by simpa using hx
   subst e
   exact h.1
 | none :: l,k,h,i+1,x,hx=>by
   rw [show k+(i+1)=k+1+i by omega]
   exact nj (l:=l) h (by simpa using hx)
 | some y :: l,k,h,i+1,x,hx=>by
   rw [show k+(i+1)=k+1+i by omega]
   exact nj (l:=l) h.2 (by simpa using hx)
def szL:List (Option (Nat)):= [some 1,some 1,some 1,some 1,some 1,some 1,some 1,some 4,some 4,some 1,some 1,some 1,some 1,some 2,some 2,some 1,some 1,some 1,some 1,some 1,some 1,some 1,some 1,some 1,some 1,some 1,some 1,some 1,some 1,some 1,some 1,some 1,some 1,some 1,some 6,some 6,some 1,some 1,some 1,some 1,some 1,some 1,some 1,some 1,some 256,some 256,some 1,some 1,some 1,some 1,some 1,some 1,some 1,some 1,some 1,some 1,some 1,some 6,some 6,some 1,some 1,some 1,some 1,some 1,some 1,some 1,some 1,some 1,some 1,some 1,some 1,some 1,some 1,some 1,some 1,some 1,some 1,some 1,some 1,some 257,some 257,some 1,some 1,some 1,some 1,some 1,some 1,some 1,some 5,some 5,some 1,some 1,some 1,some 1,some 1,some 1,some 2,some 2,some 1,some 1,some 1,some 1,some 1,some 1,some 1,some 1,some 1,some 1,some 1,some 1,some 1,some 1,some 1,some 1,some 1,some 1,some 1,some 1,some 1,some 1,some 1,some 1,some 1,some 1,some 1,some 1,some 1,some 1,some 1,some 1,some 1,some 1,some 1,some 1,some 1,some 1,some 4,some 4,some 0,some 0,some 0,some 1,some 1,some 1,some 1,some 1,some 1,some 11,some 11,some 258,some 258,some 1]
theorem szOk:chk (fun i=>br Try.prog i) 0 szL=szL:=by kernel_rfl
theorem sz(i:Nat){x:Nat}(h:szL[i]? =some (some x)):br Try.prog i=some x:=by
 have:=ic szOk h
 simpa using this
def agL:List (Option (Option Nat)):= [some (none),some (none),some (none),some (none),some (none),some (none),some (none),some ((some 4)),some ((some 4)),some (none),some (none),some (none),some (none),some ((some 2)),some ((some 2)),some (none),some (none),some (none),some ((some 1)),some ((some 1)),some (none),some (none),some (none),some (none),some (none),some (none),some (none),some (none),some (none),some (none),some (none),some (none),some (none),some (none),some ((some 6)),some ((some 6)),some (none),some (none),some (none),some (none),some (none),some (none),some (none),some (none),some ((some 256)),some ((some 256)),some (none),some (none),some (none),some (none),some (none),some (none),some (none),some (none),some (none),some (none),some (none),some ((some 6)),some ((some 6)),some (none),some (none),some (none),some ((some 1)),some ((some 1)),some (none),some (none),some (none),some (none),some (none),some (none),some (none),some (none),some (none),some (none),some (none),some (none),some (none),some (none),some (none),some ((some 257)),some ((some 257)),some (none),some (none),some (none),some (none),some (none),some (none),some (none),some ((some 5)),some ((some 5)),some (none),some (none),some (none),some (none),some (none),some (none),some ((some 2)),some ((some 2)),some (none),some (none),some (none),some (none),some (none),some (none),some (none),some (none),some (none),some (none),some (none),some (none),some (none),some (none),some (none),some (none),some (none),some (none),some (none),some (none),some (none),some (none),some (none),some (none),some (none),some (none),some (none),some (none),some (none),some (none),some (none),some (none),some (none),some (none),some (none),some (none),some (none),some (none),some ((some 4)),some ((some 4)),some ((some 0)),some ((some 0)),some ((some 0)),some (none),some (none),some (none),some (none),some (none),some (none),some ((some 11)),some ((some 11)),some ((some 258)),some ((some 258)),some (none)]
theorem agOk:chk (fun i=>bI Try.prog i) 0 agL=agL:=by kernel_rfl
theorem ag(i:Nat){x:Option Nat}(h:agL[i]? =some (some x)):bI Try.prog i=some x:=by
 have:=ic agOk h
 simpa using this
def zlL:List (Option (List SV)):= [none,some ([.sc (.nilFunc)]),some ([.sc (.int .i64 0)]),some ([.sc (.int .i64 0)]),some ([.sc (.bool false)]),some ([.sc (.int .u8 0)]),some ([.sc (.int .u8 0)]),some ([.sc (.int .i64 0),.sc (.int .i64 0),.sc (.bool false),.sc (.int .u8 0)]),some ([.sc (.int .i64 0),.sc (.int .i64 0),.sc (.bool false),.sc (.int .u8 0)]),some ([.sc (.string ⟨#[]⟩)]),some ([.sc (.string ⟨#[]⟩)]),some ([.sc (.string ⟨#[]⟩)]),some ([.sc (.int .u64 0)]),some ([.sc (.string ⟨#[]⟩),.sc (.int .u64 0)]),some ([.sc (.string ⟨#[]⟩),.sc (.int .u64 0)]),some ([.sc (.pointer none)]),some ([.sc (.pointer none)]),some ([.sc (.pointer none)]),some ([.sc (.pointer none)]),some ([.sc (.pointer none)]),some ([.sc (.nilIface)]),some ([.sc (.int .i32 0)]),some ([.sc (.slice none 0 0)]),some ([.sc (.nilFunc)]),some ([.sc (.nilFunc)]),some ([.sc (.pointer none)]),some ([.sc (.int .i64 0)]),none,some ([.sc (.nilFunc)]),some ([.sc (.nilFunc)]),some ([.sc (.nilFunc)]),none,some ([.sc (.nilFunc)]),some ([.sc (.slice none 0 0)]),some ([.sc (.int .i64 0),.sc (.int .i64 0),.sc (.string ⟨#[]⟩),.sc (.string ⟨#[]⟩),.sc (.int .u8 0),.sc (.slice none 0 0)]),some ([.sc (.int .i64 0),.sc (.int .i64 0),.sc (.string ⟨#[]⟩),.sc (.string ⟨#[]⟩),.sc (.int .u8 0),.sc (.slice none 0 0)]),some ([.sc (.nilFunc)]),some ([.sc (.nilFunc)]),some ([.sc (.nilFunc)]),some ([.sc (.nilFunc)]),some ([.sc (.nilFunc)]),some ([.sc (.nilFunc)]),some ([.sc (.nilFunc)]),some ([.sc (.nilFunc)]),none,none,none,some ([.sc (.nilFunc)]),none,some ([.sc (.nilFunc)]),some ([.sc (.nilFunc)]),some ([.sc (.nilFunc)]),some ([.sc (.nilFunc)]),some ([.sc (.slice none 0 0)]),some ([.sc (.nilFunc)]),some ([.sc (.nilFunc)]),some ([.sc (.map none)]),some ([.sc (.int .i64 0),.sc (.map none),.sc (.int .i64 0),.sc (.int .i64 0),.sc (.bool false),.sc (.int .i64 0)]),some ([.sc (.int .i64 0),.sc (.map none),.sc (.int .i64 0),.sc (.int .i64 0),.sc (.bool false),.sc (.int .i64 0)]),some ([.sc (.nilFunc)]),some ([.sc (.nilFunc)]),some ([.sc (.map none)]),some ([.sc (.map none)]),some ([.sc (.map none)]),some ([.sc (.pointer none)]),some ([.sc (.slice none 0 0)]),some ([.sc (.nilFunc)]),some ([.sc (.nilFunc)]),some ([.sc (.nilFunc)]),some ([.sc (.nilFunc)]),some ([.sc (.nilFunc)]),none,some ([.sc (.nilFunc)]),some ([.sc (.nilFunc)]),some ([.sc (.nilFunc)]),some ([.sc (.nilFunc)]),some ([.sc (.nilFunc)]),some ([.sc (.pointer none)]),some ([.sc (.slice none 0 0)]),none,none,some ([.sc (.nilFunc)]),some ([.sc (.nilFunc)]),some ([.sc (.nilFunc)]),some ([.sc (.nilFunc)]),some ([.sc (.nilFunc)]),some ([.sc (.pointer none)]),some ([.sc (.slice none 0 0)]),some ([.sc (.slice none 0 0),.sc (.int .i64 0),.sc (.int .i64 0),.sc (.bool false),.sc (.int .i64 0)]),some ([.sc (.slice none 0 0),.sc (.int .i64 0),.sc (.int .i64 0),.sc (.bool false),.sc (.int .i64 0)]),some ([.sc (.nilFunc)]),some ([.sc (.nilFunc)]),some ([.sc (.nilFunc)]),some ([.sc (.nilFunc)]),some ([.sc (.nilFunc)]),some ([.sc (.slice none 0 0)]),some ([.sc (.string ⟨#[]⟩),.sc (.slice none 0 0)]),some ([.sc (.string ⟨#[]⟩),.sc (.slice none 0 0)]),some ([.sc (.nilFunc)]),some ([.sc (.nilFunc)]),some ([.sc (.nilFunc)]),some ([.sc (.int .u64 0)]),some ([.sc (.nilFunc)]),some ([.sc (.nilFunc)]),some ([.sc (.nilFunc)]),some ([.sc (.int .i64 0)]),none,some ([.sc (.nilFunc)]),some ([.sc (.nilFunc)]),some ([.sc (.nilFunc)]),some ([.sc (.nilFunc)]),none,some ([.sc (.nilFunc)]),some ([.sc (.nilFunc)]),some ([.sc (.int .u32 0)]),some ([.sc (.nilFunc)]),some ([.sc (.int .u64 0)]),some ([.sc (.nilFunc)]),some ([.sc (.nilFunc)]),some ([.sc (.nilFunc)]),some ([.sc (.nilFunc)]),some ([.sc (.nilFunc)]),some ([.sc (.nilFunc)]),some ([.sc (.int .u64 0)]),some ([.sc (.nilFunc)]),some ([.sc (.nilFunc)]),some ([.sc (.nilFunc)]),some ([.sc (.pointer none)]),some ([.sc (.nilFunc)]),some ([.sc (.nilFunc)]),some ([.sc (.nilFunc)]),some ([.sc (.pointer none)]),none,some ([.sc (.nilFunc)]),some ([.sc (.nilFunc)]),some ([.sc (.nilFunc)]),some ([.sc (.pointer none),.sc (.pointer none),.sc (.pointer none),.sc (.string ⟨#[]⟩)]),some ([.sc (.pointer none),.sc (.pointer none),.sc (.pointer none),.sc (.string ⟨#[]⟩)]),some ([]),some ([]),some ([]),some ([.sc (.int .u8 0)]),some ([.sc (.int .u8 0)]),some ([.sc (.nilFunc)]),some ([.sc (.pointer none)]),some ([.sc (.int .i32 0)]),some ([.sc (.int .i32 0)]),some ([.sc (.int .u64 0),.sc (.int .u64 0),.sc (.int .u32 0),.sc (.int .u8 0),.sc (.int .u8 0),.sc (.int .u8 0),.sc (.int .u8 0),.sc (.nilFunc),.sc (.pointer none),.sc (.int .i32 0),.sc (.int .i32 0)]),some ([.sc (.int .u64 0),.sc (.int .u64 0),.sc (.int .u32 0),.sc (.int .u8 0),.sc (.int .u8 0),.sc (.int .u8 0),.sc (.int .u8 0),.sc (.nilFunc),.sc (.pointer none),.sc (.int .i32 0),.sc (.int .i32 0)]),none,none,some ([.sc (.pointer none)])]
theorem zlOk:chk (fun i=>ry Try.prog i) 0 zlL=zlL:=by kernel_rfl
theorem zl(i:Nat){x:List SV}(h:zlL[i]? =some (some x)):ry Try.prog i=some x:=by
 have:=ic zlOk h
 simpa using this
def plL:List (Option (List (Nat×Nat))):= [none,none,none,none,none,none,none,some ([(0,1),(1,1),(2,1),(3,1)]),some ([(0,1),(1,1),(2,1),(3,1)]),none,none,none,none,some ([(0,1),(1,1)]),some ([(0,1),(1,1)]),none,none,none,some ([(0,1)]),some ([(0,1)]),none,none,none,none,none,none,none,none,none,none,none,none,none,none,some ([(0,1),(1,1),(2,1),(3,1),(4,1),(5,1)]),some ([(0,1),(1,1),(2,1),(3,1),(4,1),(5,1)]),none,none,none,none,none,none,none,none,none,none,none,none,none,none,none,none,none,none,none,none,none,some ([(0,1),(1,1),(2,1),(3,1),(4,1),(5,1)]),some ([(0,1),(1,1),(2,1),(3,1),(4,1),(5,1)]),none,none,none,some ([(0,1)]),some ([(0,1)]),none,none,none,none,none,none,none,none,none,none,none,none,none,none,none,some ([(0,256),(256,1)]),some ([(0,256),(256,1)]),none,none,none,none,none,none,none,some ([(0,1),(1,1),(2,1),(3,1),(4,1)]),some ([(0,1),(1,1),(2,1),(3,1),(4,1)]),none,none,none,none,none,none,some ([(0,1),(1,1)]),some ([(0,1),(1,1)]),none,none,none,none,none,none,none,none,none,none,none,none,none,none,none,none,none,none,none,none,none,none,none,none,none,none,none,none,none,none,none,none,none,none,none,none,none,none,some ([(0,1),(1,1),(2,1),(3,1)]),some ([(0,1),(1,1),(2,1),(3,1)]),none,some ([(0,0)]),some ([(0,0)]),none,none,none,none,none,none,some ([(0,1),(1,1),(2,1),(3,1),(4,1),(5,1),(6,1),(7,1),(8,1),(9,1),(10,1)]),some ([(0,1),(1,1),(2,1),(3,1),(4,1),(5,1),(6,1),(7,1),(8,1),(9,1),(10,1)]),some ([(0,1),(1,256),(257,1)]),some ([(0,1),(1,256),(257,1)]),none]
theorem plOk:chk (fun i=>yb Try.prog i) 0 plL=plL:=by kernel_rfl
theorem pl(i:Nat){x:List (Nat×Nat)}(h:plL[i]? =some (some x)):yb Try.prog i=some x:=by
 have:=ic plOk h
 simpa using this
def zeL:List (Option (Value)):= [none,some (.nilFunc),some (.int .i64 0),some (.int .i64 0),some (.bool false),some (.int .u8 0),some (.int .u8 0),some (.agg #[.int .i64 0,.int .i64 0,.bool false,.int .u8 0]),some (.agg #[.int .i64 0,.int .i64 0,.bool false,.int .u8 0]),some (.string ⟨#[]⟩),some (.string ⟨#[]⟩),some (.string ⟨#[]⟩),some (.int .u64 0),some (.agg #[.string ⟨#[]⟩,.int .u64 0]),some (.agg #[.string ⟨#[]⟩,.int .u64 0]),some (.pointer none),some (.pointer none),some (.pointer none),some (.agg #[.pointer none]),some (.agg #[.pointer none]),some (.nilIface),some (.int .i32 0),some (.slice none 0 0),some (.nilFunc),some (.nilFunc),some (.pointer none),some (.int .i64 0),none,some (.nilFunc),some (.nilFunc),some (.nilFunc),none,some (.nilFunc),some (.slice none 0 0),some (.agg #[.int .i64 0,.int .i64 0,.string ⟨#[]⟩,.string ⟨#[]⟩,.int .u8 0,.slice none 0 0]),some (.agg #[.int .i64 0,.int .i64 0,.string ⟨#[]⟩,.string ⟨#[]⟩,.int .u8 0,.slice none 0 0]),some (.nilFunc),some (.nilFunc),some (.nilFunc),some (.nilFunc),some (.nilFunc),some (.nilFunc),some (.nilFunc),some (.nilFunc),none,none,none,some (.nilFunc),none,some (.nilFunc),some (.nilFunc),some (.nilFunc),some (.nilFunc),some (.slice none 0 0),some (.nilFunc),some (.nilFunc),some (.map none),some (.agg #[.int .i64 0,.map none,.int .i64 0,.int .i64 0,.bool false,.int .i64 0]),some (.agg #[.int .i64 0,.map none,.int .i64 0,.int .i64 0,.bool false,.int .i64 0]),some (.nilFunc),some (.nilFunc),some (.map none),some (.agg #[.map none]),some (.agg #[.map none]),some (.pointer none),some (.slice none 0 0),some (.nilFunc),some (.nilFunc),some (.nilFunc),some (.nilFunc),some (.nilFunc),none,some (.nilFunc),some (.nilFunc),some (.nilFunc),some (.nilFunc),some (.nilFunc),some (.pointer none),some (.slice none 0 0),none,none,some (.nilFunc),some (.nilFunc),some (.nilFunc),some (.nilFunc),some (.nilFunc),some (.pointer none),some (.slice none 0 0),some (.agg #[.slice none 0 0,.int .i64 0,.int .i64 0,.bool false,.int .i64 0]),some (.agg #[.slice none 0 0,.int .i64 0,.int .i64 0,.bool false,.int .i64 0]),some (.nilFunc),some (.nilFunc),some (.nilFunc),some (.nilFunc),some (.nilFunc),some (.slice none 0 0),some (.agg #[.string ⟨#[]⟩,.slice none 0 0]),some (.agg #[.string ⟨#[]⟩,.slice none 0 0]),some (.nilFunc),some (.nilFunc),some (.nilFunc),some (.int .u64 0),some (.nilFunc),some (.nilFunc),some (.nilFunc),some (.int .i64 0),none,some (.nilFunc),some (.nilFunc),some (.nilFunc),some (.nilFunc),none,some (.nilFunc),some (.nilFunc),some (.int .u32 0),some (.nilFunc),some (.int .u64 0),some (.nilFunc),some (.nilFunc),some (.nilFunc),some (.nilFunc),some (.nilFunc),some (.nilFunc),some (.int .u64 0),some (.nilFunc),some (.nilFunc),some (.nilFunc),some (.pointer none),some (.nilFunc),some (.nilFunc),some (.nilFunc),some (.pointer none),none,some (.nilFunc),some (.nilFunc),some (.nilFunc),some (.agg #[.pointer none,.pointer none,.pointer none,.string ⟨#[]⟩]),some (.agg #[.pointer none,.pointer none,.pointer none,.string ⟨#[]⟩]),some (.agg #[]),some (.agg #[]),some (.agg #[]),some (.int .u8 0),some (.int .u8 0),some (.nilFunc),some (.pointer none),some (.int .i32 0),some (.int .i32 0),some (.agg #[.int .u64 0,.int .u64 0,.int .u32 0,.int .u8 0,.int .u8 0,.int .u8 0,.int .u8 0,.nilFunc,.pointer none,.int .i32 0,.int .i32 0]),some (.agg #[.int .u64 0,.int .u64 0,.int .u32 0,.int .u8 0,.int .u8 0,.int .u8 0,.int .u8 0,.nilFunc,.pointer none,.int .i32 0,.int .i32 0]),none,none,some (.pointer none)]
theorem zeOk:chk (fun i=>cH Try.prog i) 0 zeL=zeL:=by kernel_rfl
theorem ze(i:Nat){x:Value}(h:zeL[i]? =some (some x)):cH Try.prog i=some x:=by
 have:=ic zeOk h
 simpa using this
def foL:List (Option (List Nat)):= [none,none,none,none,none,none,none,some [0,1,2,3],some [0,1,2,3],none,none,none,none,some [0,1],some [0,1],none,none,none,some [0],some [0],none,none,none,none,none,none,none,none,none,none,none,none,none,none,some [0,1,2,3,4,5],some [0,1,2,3,4,5],none,none,none,none,none,none,none,none,none,none,none,none,none,none,none,none,none,none,none,none,none,some [0,1,2,3,4,5],some [0,1,2,3,4,5],none,none,none,some [0],some [0],none,none,none,none,none,none,none,none,none,none,none,none,none,none,none,some [0,256],some [0,256],none,none,none,none,none,none,none,some [0,1,2,3,4],some [0,1,2,3,4],none,none,none,none,none,none,some [0,1],some [0,1],none,none,none,none,none,none,none,none,none,none,none,none,none,none,none,none,none,none,none,none,none,none,none,none,none,none,none,none,none,none,none,none,none,none,none,none,none,none,some [0,1,2,3],some [0,1,2,3],none,none,none,none,none,none,none,none,none,some [0,1,2,3,4,5,6,7,8,9,10],some [0,1,2,3,4,5,6,7,8,9,10],some [0,1,257],some [0,1,257],none]
theorem foOk:y6 (iG Try.prog) 0 foL:=by
 simp only [foL,y6]
 exact⟨by kernel_rfl,by kernel_rfl,by kernel_rfl,by kernel_rfl,by kernel_rfl,by kernel_rfl,by kernel_rfl,by kernel_rfl,by kernel_rfl,by kernel_rfl,by kernel_rfl,by kernel_rfl,by kernel_rfl,by kernel_rfl,by kernel_rfl,by kernel_rfl,by kernel_rfl,by kernel_rfl,by kernel_rfl,by kernel_rfl,by kernel_rfl,by kernel_rfl,by kernel_rfl,by kernel_rfl,trivial⟩
theorem fo(i k:Nat){l:List Nat}{v:Nat}(h:foL[i]? =some (some l))(hk:l[k]? =some v):iG Try.prog i k=some v:=by
 have:=nj foOk h
 have:=rh this hk
 simpa using this
def unL:List (Option TypeDesc):= [none,none,some (.int .i64),some (.int .i64),some (.bool),some (.int .u8),some (.int .u8),none,none,some (.string),some (.string),some (.string),some (.int .u64),none,none,some (.pointer 137),some (.pointer 140),some (.pointer 148),none,none,none,some (.int .i32),some (.slice 35),none,none,some (.pointer 58),some (.int .i64),none,none,none,none,none,none,some (.slice 3),none,none,none,none,none,none,none,none,none,none,some (.array 256 5),some (.array 256 5),none,none,none,none,none,none,none,some (.slice 5),none,none,some (.map 9 64),none,none,none,none,some (.map 3 77),none,none,some (.pointer 63),some (.slice 9),none,none,none,none,none,none,none,none,none,none,none,some (.pointer 80),some (.slice 45),none,none,none,none,none,none,none,some (.pointer 89),some (.slice 97),none,none,none,none,none,none,none,some (.slice 150),none,none,none,none,none,some (.int .u64),none,none,none,some (.int .i64),none,none,none,none,none,none,none,none,some (.int .u32),none,some (.int .u64),none,none,none,none,none,none,some (.int .u64),none,none,none,some (.pointer 3),none,none,none,some (.pointer 123),none,none,none,none,none,none,some (.array 0 16),none,none,some (.int .u8),some (.int .u8),none,some (.pointer 5),some (.int .i32),some (.int .i32),none,none,none,none,none]
theorem unOk:chk (fun i=>Try.prog.underlying i) 0 unL=unL:=by kernel_rfl
theorem un(i:Nat){x:TypeDesc}(h:unL[i]? =some (some x)):Try.prog.underlying i=some x:=by
 have:=ic unOk h
 simpa using this
end F
end Go.Proofs.Ytbmekelkddllkaa
end
section
namespace Go.Sy
open Go Go.Sl Go.RowKit
section
variable {P:Program}
theorem ck{α β:Type}{fn nt k0 nx id:Nat}{T:Tr SV}{k:List AIt}{dfs:List ADf}{H:aK}{Q0:Cz→Prop}{b:Code}(n:Nat)(sl:α→List (Nat×SV))(ob:α→List (Option VO))(φ:α→Prop)(μ:α→Nat)(a0:α)(L0:List Nat)
 (n2:Nat) (sl2:β→List (Nat×SV)) (ob2:β→List (Option VO)) (ψ:β→Prop)
 (hn: ∀ a,(ob a).length=n) (hn2: ∀ a,(ob2 a).length=n2) (h0:φ a0) (hi:IsAt k0 L0 (sl a0) (ob a0) T H nx) (hk: ∀ ρ,k.map (AIt.ren ρ)=k) (hd: ∀ ρ,dfs.map (ADf.ren ρ)=dfs)
 (body: ∀ a,φ a→(∀ T' H' nx' a' L',φ a'→μ a'<μ a→IsAt k0 L' (sl a') (ob a') T' H' nx'→Wp P none ⟨fn,nt,T',.inLoop b :: .inBlock id :: k,dfs,H',nx'⟩ (fun r=> ∃ c,Q0 c∧Ends k0 c r)) →
   (∀ T' H' nx' a' L',ψ a'→IsAt k0 L' (sl2 a') (ob2 a') T' H' nx'→Wp P none ⟨fn,nt,T',k,dfs,H',nx'⟩ (fun r=> ∃ c,Q0 c∧Ends k0 c r)) →
   Wp P none ⟨fn,nt,slT (sl a),.code b :: .inLoop b :: .inBlock id :: k,dfs,pY (ob a),n⟩ (fun r=> ∃ c,Q0 c∧Ends k0 c r))
 (exit: ∀ a,ψ a→Wp P none ⟨fn,nt,slT (sl2 a),k,dfs,pY (ob2 a),n2⟩ (fun r=> ∃ c,Q0 c∧Ends k0 c r)) :
 Wp P none ⟨fn,nt,T,.code (.loop b) :: .inBlock id :: k,dfs,H,nx⟩ (fun r=> ∃ c,Q0 c∧Ends k0 c r):=
 ct n sl ob φ μ a0 L0 hn h0 hi (fun ρ=>by simp [AIt.ren,hk ρ]) hd fun a ha again=>body a ha again fun T' H' nx' a' L' hψ hat=>by
  refine Wp.can hat (hk _) (hd _) ?_
  rw [hn2 a']
  exact exit a' hψ
end
section
variable {P:Program}
theorem rz{β:Type}{fn nt k0 nx:Nat}{T:Tr SV}{k:List AIt}{dfs:List ADf}{H:aK}{Q0:Cz→Prop}{c:Operand}{x y:Code}{t:Bool}(n2:Nat)(sl2:β→List (Nat×SV))(ob2:β→List (Option VO))(ψ:β→Prop)
 (hn2: ∀ a,(ob2 a).length=n2) (hc:ao T c=some (.sc (.bool t))) (hk: ∀ ρ,k.map (AIt.ren ρ)=k) (hd: ∀ ρ,dfs.map (ADf.ren ρ)=dfs)
 (arm1:t=true→(∀ T' H' nx' a' L',ψ a'→IsAt k0 L' (sl2 a') (ob2 a') T' H' nx'→Wp P none ⟨fn,nt,T',k,dfs,H',nx'⟩ (fun r=> ∃ c,Q0 c∧Ends k0 c r)) →
   Wp P none ⟨fn,nt,T,.code x :: k,dfs,H,nx⟩ (fun r=> ∃ c,Q0 c∧Ends k0 c r))
 (arm2:t=false→(∀ T' H' nx' a' L',ψ a'→IsAt k0 L' (sl2 a') (ob2 a') T' H' nx'→Wp P none ⟨fn,nt,T',k,dfs,H',nx'⟩ (fun r=> ∃ c,Q0 c∧Ends k0 c r)) →
   Wp P none ⟨fn,nt,T,.code y :: k,dfs,H,nx⟩ (fun r=> ∃ c,Q0 c∧Ends k0 c r))
 (rest: ∀ a,ψ a→Wp P none ⟨fn,nt,slT (sl2 a),k,dfs,pY (ob2 a),n2⟩ (fun r=> ∃ c,Q0 c∧Ends k0 c r)) :
 Wp P none ⟨fn,nt,T,.code (.cond c x y) :: k,dfs,H,nx⟩ (fun r=> ∃ c,Q0 c∧Ends k0 c r):=by
 have out: ∀ T' H' nx' a' L',ψ a'→IsAt k0 L' (sl2 a') (ob2 a') T' H' nx'→Wp P none ⟨fn,nt,T',k,dfs,H',nx'⟩ (fun r=> ∃ c,Q0 c∧Ends k0 c r):=fun T' H' nx' a' L' hψ hat=>by
  refine Wp.can hat (hk _) (hd _) ?_
  rw [hn2 a']
  exact rest a' hψ
 exact sk hc (fun h=>arm1 h out) (fun h=>arm2 h out)
theorem mq{β:Type}{fn nt k0 nx:Nat}{T:Tr SV}{it:AIt}{k:List AIt}{dfs:List ADf}{H:aK}{Q0:Cz→Prop}(n2:Nat)(sl2:β→List (Nat×SV))(ob2:β→List (Option VO))(ψ:β→Prop)
 (hn2: ∀ a,(ob2 a).length=n2) (hk: ∀ ρ,k.map (AIt.ren ρ)=k) (hd: ∀ ρ,dfs.map (ADf.ren ρ)=dfs)
 (body:(∀ T' H' nx' a' L',ψ a'→IsAt k0 L' (sl2 a') (ob2 a') T' H' nx'→Wp P none ⟨fn,nt,T',k,dfs,H',nx'⟩ (fun r=> ∃ c,Q0 c∧Ends k0 c r)) →
   Wp P none ⟨fn,nt,T,it :: k,dfs,H,nx⟩ (fun r=> ∃ c,Q0 c∧Ends k0 c r))
 (rest: ∀ a,ψ a→Wp P none ⟨fn,nt,slT (sl2 a),k,dfs,pY (ob2 a),n2⟩ (fun r=> ∃ c,Q0 c∧Ends k0 c r)) :
 Wp P none ⟨fn,nt,T,it :: k,dfs,H,nx⟩ (fun r=> ∃ c,Q0 c∧Ends k0 c r):=
 body fun T' H' nx' a' L' hψ hat=>by
  refine Wp.can hat (hk _) (hd _) ?_
  rw [hn2 a']
  exact rest a' hψ
end
section
variable {P:Program}
theorem mn{ro:Option Nat}{fn nt nx:Nat}{T:Tr SV}{k:List AIt}{dfs:List ADf}{H:aK}{Q:Pst}{d:Nat}(sz:Nat)(t:TypeId)(hT:T.at' d=some (.sc (.slice none 0 0)))(h0:Nat.blt 0 sz=true)
 (h:Wp P ro ⟨fn,nt,T.set d (.slu nx 0 0),k,dfs,H.set nx (dat false 0 sz t []),nx+1⟩ Q):Wp P ro ⟨fn,nt,T,k,dfs,H,nx⟩ Q:=by
 refine⟨fun K w0 e w tmps todo ds kd rof cs hS hTr htd hds hc=>?_⟩
 have hf:=hS.fresh nx (zA _)
 have hle:=Env.cf (x:=⟨0,0,0,sz,true⟩) hf
 have hT2:TRel (e.put nx ⟨0,0,0,sz,true⟩) nt (T.set d (.slu nx 0 0)) tmps:=by
  refine⟨hTr.1,fun t s hs=>?_⟩
  rcases Tr.bE hs with ⟨rfl,rfl⟩|⟨_,hs⟩
  ·obtain⟨v,g1,g2⟩:=hTr.2 _ _ hT
   simp only [SV.conc,zd] at g1
   subst g1
   exact⟨_,by simp [SV.conc,Env.bn,Ent.at],g2⟩
  ·obtain⟨v,g1,g2⟩:=hTr.2 _ _ hs
   exact⟨v,SV.bO hle _ _ g1,g2⟩
 obtain⟨r,hr,e1,w',v,g1,g2⟩:=h.run K w0 _ w tmps todo ds kd rof cs (hS.newNil false sz t _ (bu h0)) hT2 (htd.mono hle) (hds.mono hle) (hc.mono hle)
 exact⟨r,hr,e1,w',v,Env.le_trans hle g1,g2⟩
end
end Go.Sy
end
