import Derived.Laws.StructEq
import Derived.Sort.AssemblyPlain
import Derived.Sort.LotD5
import Derived.Test.YtelnglhodnoclaaGreatA3
set_option linter.unusedVariables false
set_option linter.unusedSimpArgs false
set_option maxRecDepth 100000
set_option maxHeartbeats 0
section
namespace Go.Sy
open Go Go.Sl Go.RowKit
section
variable {P:Program} {T:Tr SV} {H:ay} {nx:Nat} {d:Option Tmp} {ty:TypeId} {pos:String} {af:Array Edge} {gd:Option (Nat×Bool)}
theorem kR{vo:VO}: ∀ (n o:Nat) (l:List SV),vo.cellsFrom o n=some l→ ∀ j x,l[j]? =some x→vo.cell (o+j)=some x
 | 0,o,l,h,j,x,hx=>by
   simp only [VO.cellsFrom,Ej] at h
   subst h
   simp at hx
 | n+1,o,l,h,j,x,hx=>by
   simp only [VO.cellsFrom] at h
   cases h1:vo.cell o with
   | none=>rw [h1] at h;cases h
   | some s=>
     rw [h1] at h
     simp only at h
     cases h2:vo.cellsFrom (o+1) n with
     | none=>rw [h2] at h;cases h
     | some m=>
       rw [h2] at h
       simp only [Ej] at h
       subst h
       cases j with
       | zero=>
         simp only [EC,Ej] at hx
         subst hx
         exact h1
       | succ j=>
         have:=kR n (o+1) m h2 j x (by simpa using hx)
         rw [show o+(j+1)=o+1+j by omega]
         exact this
theorem mL{t e:TypeId}{x:Operand}{lo hi:Option Operand}{b o n l h m C o':Nat}(hu:P.underlying t=some (.array n e))(hs:bx P e=some 1)(hx:aq T x=some (.ptr b o))(hl:yT T 0 lo l)(hh:yT T n hi h)(h1:l≤h)(h2:h≤n)(h3:l<n)(hm:h-l=m)(hC:n-l=C)(ho:o+l=o'):ReadDoes P T H ⟨d,.slice t x lo hi none,ty,pos,af,gd⟩ (.sl b o' m C):=by
 subst hm hC ho
 refine ej ?_
 unfold yT at hl hh
 have hmx:natOr T n none=some n:=rfl
 simp only [cJ,hx,EL,lL,hu,hs,hl,hh,hmx]
 rw [show Nat.ble l h=true from Es h1,show Nat.ble h n=true from Es h2,show Nat.ble n n=true from Es (EE _)]
 have:Nat.beq n l=false:=by cases hq:Nat.beq n l with|false=>rfl|true=>exact absurd (E5 hq) (by omega)
 simp [this]
theorem tT{t tx el:TypeId}{b o n C:Nat}{bt:TypeId}{cs:List SV}{vs:List Value}{s x:Operand}{v:SV}(hu:P.underlying t=some (.slice el))(hs:bx P el=some 1)(hx0:aq T s=some (.sl b o n C))(hx:aq T x=some v)(hb:H.at' b=some (an bt cs))(hv:BsIs H v vs)(hn:vs.length≤n)(ho:o+vs.length≤cs.length) :
 OpDoes P T H nx ⟨d,.call {callee:= .builtin .copy,args:= #[s,x],argTypes:= #[t,tx]},ty,pos,af,gd⟩ (.val (.sc (.int .i64 (vs.length:Nat))),H.set b (an bt (cs.take o ++ vs.map .sc ++ cs.drop (o+vs.length))),nx):=by
 have hr:=BsIs.rdv (P:=P) hv
 unfold RdV at hr
 have hmin:min vs.length n=vs.length:=Nat.min_eq_left hn
 have htk:(vs.map SV.sc).take (vs.length*1)=vs.map SV.sc:=by rw [Nat.mul_one];exact Ew (by simp)
 have hst:(an bt cs).setCells o (vs.map .sc)=some (an bt (cs.take o ++ vs.map .sc ++ cs.drop (o+vs.length))):=by
  have:=iz (t:=bt) (vs.map .sc) cs o (by simpa using ho) (iS hv.1)
  simpa using this
 have hcp:yu P H nx t (.sl b o n C) v=some (.val (.sc (.int .i64 (vs.length:Nat))),H.set b (an bt (cs.take o ++ vs.map .sc ++ cs.drop (o+vs.length))),nx):=by
  simp only [yu,hu,hs,hr,hmin,htk,eS,hb,hst]
 refine jt ?_
 simp only [fT,cY,hx0,hx,EL,e8,hcp]
end
section
variable {P:Program} {ro:Option Nat} {fn nt nx i:Nat} {T:Tr SV} {k:List AIt} {dfs:List ADf} {H:ay} {Q:Pst} {ops:Array Oper} {l:List Oper} {ty:TypeId} {pos:String} {af:Array Edge} {gd:Option (Nat×Bool)}
theorem Di{t e:TypeId}{x y:Operand}{s:SV}{vs:List Value}{kd:IntKind}{j:Nat}{dd:Nat}(hw:aE T ops ⟨some dd,.indexAddr t x y,ty,pos,af,gd⟩=some true)(hd:Nat.blt dd nt=true)(hx:aq T x=some s)(hy:aq T y=some (.sc (.int kd (j:Int))))(hu:P.underlying t=some (.slice e))(hs:bx P e=some 1)(hb:BsIs H s vs)(hj:j<vs.length)
 (h: ∀ b o vo,H.at' b=some vo→vo.cell o=some (.sc vs[j])→Wp P ro ⟨fn,nt,T.set dd (.ptr b o),.inReg ops (i+1) l :: k,dfs,H,nx⟩ Q):Wp P ro ⟨fn,nt,T,.inReg ops i (⟨some dd,.indexAddr t x y,ty,pos,af,gd⟩ :: l) :: k,dfs,H,nx⟩ Q:=by
 obtain⟨_,⟨rfl,_,_,rfl⟩|⟨r,eo,ne,ro',rt,us,rfl,hr,hn,hus⟩|⟨b,o,C,vo,rfl,hr,hc⟩⟩:=hb
 ·simp at hj
 ·refine dn hw (.inr (fun _ h=>by cases h)) ((f9 hu hs hx hy hr (by omega) (by omega) hn).does) ?_
  rw [aI hd]
  refine h r _ _ hr ?_
  rw [Nat.mul_one,E7]
  refine jo (by omega) ?_
  have hg:=congrArg (fun l:List Value=>l[j]?) hus
  rw [List.getElem?_take_of_lt hj,List.getElem?_drop] at hg
  rw [hg]
  simp [hj]
 ·refine dn hw (.inr (fun _ h=>by cases h)) ((wY hu hs hx hy hj).does) ?_
  rw [aI hd]
  refine h b _ _ hr ?_
  rw [Nat.mul_one]
  exact kR _ _ _ hc j _ (by simp [hj])
theorem oe{t e:TypeId}{x:Operand}{lo hi:Option Operand}{b o n lw hg m C o':Nat}{dd:Nat}(hw:aE T ops ⟨some dd,.slice t x lo hi none,ty,pos,af,gd⟩=some true)(hd:Nat.blt dd nt=true)(hx:aq T x=some (.ptr b o))(hu:P.underlying t=some (.array n e))(hs:bx P e=some 1)(hl:yT T 0 lo lw)(hh:yT T n hi hg)(h1:lw≤hg)(h2:hg≤n)(h3:lw<n)(hm:hg-lw=m)(hC:n-lw=C)(ho:o+lw=o')
 (h:Wp P ro ⟨fn,nt,T.set dd (.sl b o' m C),.inReg ops (i+1) l :: k,dfs,H,nx⟩ Q):Wp P ro ⟨fn,nt,T,.inReg ops i (⟨some dd,.slice t x lo hi none,ty,pos,af,gd⟩ :: l) :: k,dfs,H,nx⟩ Q:=
 dn hw (.inr (fun _ h=>by cases h)) ((mL hu hs hx hl hh h1 h2 h3 hm hC ho).does) (by rw [aI hd];exact h)
theorem pc{t tx el:TypeId}{b o n C:Nat}{bt:TypeId}{cs:List SV}{vs:List Value}{s x:Operand}{v:SV}{dd:Nat}(hw:aE T ops ⟨some dd,.call {callee:= .builtin .copy,args:= #[s,x],argTypes:= #[t,tx]},ty,pos,af,gd⟩=some true)(hd:Nat.blt dd nt=true)(hx0:aq T s=some (.sl b o n C))(hx:aq T x=some v)(hu:P.underlying t=some (.slice el))(hs:bx P el=some 1)(hb:H.at' b=some (an bt cs))(hv:BsIs H v vs)(hn:vs.length≤n)(ho:o+vs.length≤cs.length)
 (h:Wp P ro ⟨fn,nt,T.set dd (.sc (.int .i64 (vs.length:Nat))),.inReg ops (i+1) l :: k,dfs,H.set b (an bt (cs.take o ++ vs.map .sc ++ cs.drop (o+vs.length))),nx⟩ Q):Wp P ro ⟨fn,nt,T,.inReg ops i (⟨some dd,.call {callee:= .builtin .copy,args:= #[s,x],argTypes:= #[t,tx]},ty,pos,af,gd⟩ :: l) :: k,dfs,H,nx⟩ Q:=
 dn hw (.inr (fun _ h=>by cases h)) (tT hu hs hx0 hx hb hv hn ho) (by rw [aI hd];exact h)
end
end Go.Sy
end
section
namespace Go.Proofs.YtelnglhodnoclaaGreat
open Go Go.Sy Go.Sl Go.RowKit
abbrev byV(l:List UInt8):List Value:=l.map fun c=> .int .u8 (c.toNat:Int)
def beN(l:List UInt8):Nat:=l.foldl (fun n c=>256*n+c.toNat) 0
theorem Av(l:List UInt8)(c:UInt8):beN (l ++ [c])=256*beN l+c.toNat:=by simp [beN]
theorem Au{l:List UInt8}{j:Nat}(h:j<l.length):beN (l.take (j+1))=256*beN (l.take j)+(l[j]).toNat:=by
 rw [List.take_add_one,En h]
 exact Av _ _
theorem uj: ∀ (l:List UInt8) (a:Nat),l.foldl (fun n c=>256*n+c.toNat) a<(a+1)*256 ^ l.length
 | [],a=>by simp
 | c :: l,a=>by
   have h:=uj l (256*a+c.toNat)
   have hc:=c.toNat_lt
   simp only [List.foldl_cons,EH,Nat.pow_succ]
   refine Nat.lt_of_lt_of_le h ?_
   rw [Nat.mul_comm (256 ^ l.length) 256,←Nat.mul_assoc]
   exact Nat.mul_le_mul_right _ (by omega)
theorem A9(l:List UInt8):beN l<256 ^ l.length:=by
 have:=uj l 0
 rwa [ER,Nat.one_mul] at this
theorem CF{l:List UInt8}{j:Nat}(h:j<(byV l).length):(byV l)[j] = .int .u8 ((l[j]'(by simpa using h)).toNat:Int):=by simp
theorem shl8{n:Nat}(h:n<72057594037927936):IntKind.u64.wrap ((n:Int)*2 ^ (min (8:Int).toNat IntKind.u64.bits))=((256*n:Nat):Int):=by
 rw [show(min (8:Int).toNat IntKind.u64.bits)=8 from rfl]
 refine(Ge _ ⟨by omega,by omega⟩).trans ?_
 omega
theorem or8{n c:Nat}(hn:n<72057594037927936)(hc:c<256):yF .or .u64 ((256*n:Nat):Int) (c:Int)=((256*n+c:Nat):Int):=by
 show IntKind.u64.wrap (((BitVec.ofInt 64 ((256*n:Nat):Int) ||| BitVec.ofInt 64 (c:Int)).toNat:Nat):Int)=_
 have e1:(((256*n:Nat):Int) % ((2 ^ 64:Nat):Int)).toNat=n <<< 8:=by rw [Nat.shiftLeft_eq];omega
 have e2:((c:Int) % ((2 ^ 64:Nat):Int)).toNat=c:=by omega
 rw [BitVec.toNat_or,BitVec.toNat_ofInt,BitVec.toNat_ofInt,e1,e2,←Nat.shiftLeft_add_eq_or_of_lt (show c<2 ^ 8 by omega),Nat.shiftLeft_eq]
 exact(Ge _ ⟨by omega,by omega⟩).trans (by omega)
theorem get_s{H:ay}{nx:Nat}{s:SV}{bs:List UInt8}(hb:BsIs H s (byV bs))(h1:1≤bs.length)(h2:bs.length≤8):Fnc Tryz.prog 125 [s] H nx
 (fun q=>q=(.tup [.sc (.int .u64 (beN bs:Int)),.sc (.int .i64 0)],H,nx)):=by
 have hlen:(byV bs).length=bs.length:=by simp
 refine Gj Tryz.func125 rfl rfl ?_
 repeat first|apply a6;rfl|refine bO (iD (F.un _ rfl) rfl hb) rfl rfl rfl ?_
 refine bq rfl rfl rfl rfl (fun hq=>absurd hq (by omega)) (fun _=>?_)
 repeat first|apply a6;rfl|refine bO (iD (F.un _ rfl) rfl hb) rfl rfl rfl ?_
 refine dI rfl rfl rfl rfl (fun hq=>absurd hq (by omega)) (fun _=>?_)
 repeat first|apply ah;rfl|apply a6;rfl|refine bO (iD (F.un _ rfl) rfl hb) rfl rfl rfl ?_
 refine bv (α:=Nat) (fun j=> [(0,s),(4,.sc (.int .u64 (beN (bs.take j):Int))),(15,s),(16,.sc (.int .i64 ((byV bs).length:Int))),(17,.sc (.int .i64 (j:Int)))]) (fun j H1 n1=>H1=H∧n1=nx∧j≤bs.length) (fun j=>bs.length-j) 0
  ⟨rfl,rfl,EF _⟩ (Gq (Gt rfl)) ?_
 rintro j H1 n1 ⟨rfl,rfl,h3⟩ ih
 repeat apply ah;rfl
 (apply bq;rfl;rfl;rfl;rfl)
 all_goals intro h4
 ·have hj:j<bs.length:=by omega
  have hlt:=A9 (bs.take j)
  rw [ET,Nat.min_eq_left (by omega)] at hlt
  have hp:256 ^ j≤256 ^ 7:=Nat.pow_le_pow_right (by decide) (by omega)
  have hn:beN (bs.take j)<72057594037927936:=Nat.lt_of_lt_of_le hlt hp
  repeat apply ah;rfl
  refine Di (j:=j) rfl rfl rfl rfl (F.un _ rfl) (F.sz _ rfl) hb (by omega) ?_
  intro b o vo hvo hcell
  rw [CF] at hcell
  have hc:=(bs[j]).toNat_lt
  repeat first|apply ah;rfl|apply aC;rfl;omega;omega|refine bO (aK (F.ag _ rfl) rfl hvo hcell) rfl rfl rfl ?_|refine bO (tH rfl rfl (by focus(decide)) (shl8 hn)) rfl rfl rfl ?_|refine bO (cK (F.un _ rfl) (F.un _ rfl) rfl (show _=((bs[j].toNat:Nat):Int)from Ge _ ⟨by omega,by omega⟩)) rfl rfl rfl ?_|refine bO (lg rfl rfl (.inr (.inl rfl)) (or8 hn hc)) rfl rfl rfl ?_
  refine ih _ _ _ (j+1) ⟨rfl,rfl,by omega⟩ (by omega) ?_
  rw [Au hj]
  exact Gq (by repeat(first|exact Gu|refine⟨rfl,?_⟩))
 ·obtain rfl:j=bs.length:=by omega
  rw [List.take_length]
  repeat apply ah;rfl
  (apply b8 Tryz.func125 Tryz.results125;rfl)
  rfl
def beB(n size:Nat):List UInt8:=(List.range size).map fun i=>UInt8.ofNat (n / 256 ^ (size-1-i))
theorem ee(n size:Nat):(beB n size).length=size:=by simp [beB]
theorem shrB{n k:Nat}{b:Int}(hb:b=8*(k:Int))(hk:k<8):((n:Nat):Int).fdiv (2 ^ (min b.toNat IntKind.u64.bits))=((n / 256 ^ k:Nat):Int):=by
 have e:min b.toNat IntKind.u64.bits=8*k:=by
  have:IntKind.u64.bits=64:=rfl
  omega
 rw [e,Int.natCast_ediv]
 have:(2:Int) ^ (8*k)=((256 ^ k:Nat):Int):=by
  rw [Int.pow_mul]
  simp
 rw [this,Int.fdiv_eq_ediv_of_nonneg _ (Int.natCast_nonneg _)]
theorem wk(q:Nat):IntKind.u8.wrap ((q:Nat):Int)=((UInt8.ofNat q).toNat:Int):=by
 simp [IntKind.wrap,IntKind.bits,IntKind.signed]
theorem tN{n size i:Nat}(hi:i<size):(beB n size).take (i+1)=(beB n size).take i ++ [UInt8.ofNat (n / 256 ^ (size-1-i))]:=by
 rw [List.take_add_one,En (by rw [ee];exact hi)]
 simp [beB]
theorem put_s{H:ay}{nx n size:Nat}(hn:n<256 ^ size)(h1:1≤size)(h2:size≤8)(hn2:n≤18446744073709551615):Fnc Tryz.prog 102 [.sc (.int .u64 (n:Int)),.sc (.int .i64 (size:Int))] H nx
 (fun q=>q.1 = .tup [.slu nx 0 size,.sc (.int .i64 0)]∧q.2.1.at' nx=some (dat false size 1 5 (byV (beB n size)))∧q.2.2=nx+1∧ ∀ m,m<nx→q.2.1.at' m=H.at' m):=by
 refine Gj Tryz.func102 rfl rfl ?_
 repeat apply ah;rfl
 refine bq rfl rfl rfl rfl (fun hq=>absurd hq (by omega)) (fun _=>?_)
 repeat apply ah;rfl
 refine dI rfl rfl rfl rfl (fun hq=>absurd hq (by omega)) (fun _=>?_)
 repeat apply ah;rfl
 (apply bq;rfl;rfl;rfl;rfl)
 all_goals intro hs
 ·have hz:n / 256 ^ size=0:=Nat.div_eq_of_lt hn
  repeat first|apply ah;rfl|apply aC;rfl;omega;omega|refine bO (qC rfl rfl (by focus(omega)) (shrB rfl (by omega))) rfl rfl rfl ?_
  refine fp rfl rfl rfl rfl (fun hq=>absurd (by rw [hz];rfl) hq) (fun _=>?_)
  repeat first|apply ah;rfl|apply o9 (z:= .int .u8 0) (bb:=1) (n:=size) (m:=size);rfl;rfl;exact(F.un _ rfl);exact(F.sz _ rfl);exact(F.ze _ rfl);(focus(kernel_rfl));rfl;rfl;rfl;exact(EE _);(focus(omega));(focus(omega))
  refine bv (α:=Nat) (fun i=> [(0,.sc (.int .u64 (n:Int))),(1,.sc (.int .i64 (size:Int))),(6,.slu nx 0 size),(28,.sc (.int .i64 (size:Int))),(29,.sc (.int .i64 (i:Int)))]) (fun i H1 n1=>n1=nx+1∧i≤size∧H1.at' nx=some (dat false size 1 5 (byV ((beB n size).take i) ++ List.replicate (size-i) (.int .u8 0)))∧ ∀ m,m<nx→H1.at' m=H.at' m) (fun i=>size-i) 0 ⟨rfl,EF _,by rw [aw];simp,fun m hm=>ab _ _ (by omega)⟩ (Gq (Gt rfl)) ?_
  rintro i H1 n1 ⟨rfl,h3,h4,h5⟩ ih
  repeat apply ah;rfl
  (apply bq;rfl;rfl;rfl;rfl)
  all_goals intro h6
  ·have hi:i<size:=by omega
   have hl1:(byV ((beB n size).take i)).length=i:=by rw [EU,ET,ee];omega
   repeat first|apply ah;rfl|apply aC;rfl;omega;omega|refine bO (qC rfl rfl (by focus(omega)) (shrB (k:=size-1-i) (by omega) (by omega))) rfl rfl rfl ?_|refine bO (cK (F.un _ rfl) (F.un _ rfl) rfl (wk _)) rfl rfl rfl ?_|refine ew (q:=i) rfl rfl rfl rfl (F.un _ rfl) (F.sz _ rfl) h4 rfl hi (EE _) ?_
   refine tp (vs:= [.int .u8 ((UInt8.ofNat (n / 256 ^ (size-1-i))).toNat:Int)]) (cs':=byV ((beB n size).take (i+1)) ++ List.replicate (size-(i+1)) (.int .u8 0)) rfl rfl rfl rfl (F.sz _ rfl) h4 rfl (by omega) (by rw [EI,hl1,E2];omega) (fun v hv=>by rw [EV.1 hv];rfl) ?_ ?_
   ·rw [tN hi,Nat.mul_one,List.take_left' hl1,←List.drop_drop,List.drop_left' hl1,List.drop_replicate,show size-(i+1)=size-i-1 from(Nat.sub_sub _ _ _).symm]
    simp only [byV,EJ,EG,List.map_nil]
   ·repeat first|apply ah;rfl|apply aC;rfl;omega;omega
    refine ih _ _ _ (i+1) ⟨rfl,hi,aw _ _ _,fun m hm=>(ab _ _ (by omega)).trans (h5 m hm)⟩ (by omega) (Gq (Gt rfl))
  ·obtain rfl:i=size:=by omega
   rw [Nat.sub_self,List.replicate_zero,E3,Ew (by rw [ee];exact EE _)] at h4
   repeat apply ah;rfl
   (apply b8 Tryz.func102 Tryz.results102;rfl)
   exact⟨rfl,h4,rfl,h5⟩
 ·repeat first|apply ah;rfl|apply o9 (z:= .int .u8 0) (bb:=1) (n:=size) (m:=size);rfl;rfl;exact(F.un _ rfl);exact(F.sz _ rfl);exact(F.ze _ rfl);(focus(kernel_rfl));rfl;rfl;rfl;exact(EE _);(focus(omega));(focus(omega))
  refine bv (α:=Nat) (fun i=> [(0,.sc (.int .u64 (n:Int))),(1,.sc (.int .i64 (size:Int))),(6,.slu nx 0 size),(28,.sc (.int .i64 (size:Int))),(29,.sc (.int .i64 (i:Int)))]) (fun i H1 n1=>n1=nx+1∧i≤size∧H1.at' nx=some (dat false size 1 5 (byV ((beB n size).take i) ++ List.replicate (size-i) (.int .u8 0)))∧ ∀ m,m<nx→H1.at' m=H.at' m) (fun i=>size-i) 0 ⟨rfl,EF _,by rw [aw];simp,fun m hm=>ab _ _ (by omega)⟩ (Gq (Gt rfl)) ?_
  rintro i H1 n1 ⟨rfl,h3,h4,h5⟩ ih
  repeat apply ah;rfl
  (apply bq;rfl;rfl;rfl;rfl)
  all_goals intro h6
  ·have hi:i<size:=by omega
   have hl1:(byV ((beB n size).take i)).length=i:=by rw [EU,ET,ee];omega
   repeat first|apply ah;rfl|apply aC;rfl;omega;omega|refine bO (qC rfl rfl (by focus(omega)) (shrB (k:=size-1-i) (by omega) (by omega))) rfl rfl rfl ?_|refine bO (cK (F.un _ rfl) (F.un _ rfl) rfl (wk _)) rfl rfl rfl ?_|refine ew (q:=i) rfl rfl rfl rfl (F.un _ rfl) (F.sz _ rfl) h4 rfl hi (EE _) ?_
   refine tp (vs:= [.int .u8 ((UInt8.ofNat (n / 256 ^ (size-1-i))).toNat:Int)]) (cs':=byV ((beB n size).take (i+1)) ++ List.replicate (size-(i+1)) (.int .u8 0)) rfl rfl rfl rfl (F.sz _ rfl) h4 rfl (by omega) (by rw [EI,hl1,E2];omega) (fun v hv=>by rw [EV.1 hv];rfl) ?_ ?_
   ·rw [tN hi,Nat.mul_one,List.take_left' hl1,←List.drop_drop,List.drop_left' hl1,List.drop_replicate,show size-(i+1)=size-i-1 from(Nat.sub_sub _ _ _).symm]
    simp only [byV,EJ,EG,List.map_nil]
   ·repeat first|apply ah;rfl|apply aC;rfl;omega;omega
    refine ih _ _ _ (i+1) ⟨rfl,hi,aw _ _ _,fun m hm=>(ab _ _ (by omega)).trans (h5 m hm)⟩ (by omega) (Gq (Gt rfl))
  ·obtain rfl:i=size:=by omega
   rw [Nat.sub_self,List.replicate_zero,E3,Ew (by rw [ee];exact EE _)] at h4
   repeat apply ah;rfl
   (apply b8 Tryz.func102 Tryz.results102;rfl)
   exact⟨rfl,h4,rfl,h5⟩
end Go.Proofs.YtelnglhodnoclaaGreat
end
section
namespace Go.Sy
open Go Go.Sl Go.RowKit
section
variable {P:Program}
theorem Fnc.bW{f:FuncId}{args:List SV}{H:ay}{nx:Nat}{v:SV}(hv:Free v)(h:Fnc P f args H nx (fun q=>q.1=v∧nx≤q.2.2∧ ∀ n,n<nx→q.2.1.at' n=H.at' n)):Fnc P f args H nx (fun q=>q=(v,H,nx)):=by
 unfold Fnc iQ at h ⊢
 rcases h with ⟨h1,u,r,h2,⟨q1,q2,q3⟩,h4⟩|h
 ·refine .inl ⟨h1,u,_,h2,rfl,fun K w0 e w hS=>?_⟩
  obtain⟨e',g1,g2,g3⟩:=h4 K w0 e w hS
  rw [q1] at g3
  exact⟨e,Gr e,hS.drop g1 g2 q3,hv _ _ _ g3⟩
 ·refine .inr ?_
  split at h
  ·refine⟨fun K w0 e w tmps todo ds kd rof cs hS a2 a3 a4 a5=>?_⟩
   obtain⟨r,⟨q1,q2,q3⟩,e',w',u,g1,g2,g3,g4⟩:=Wp.run h K w0 e w tmps todo ds kd rof cs hS a2 a3 a4 a5
   rw [q1] at g3
   exact⟨_,rfl,e,w',u,Gr e,hS.drop g1 g2 q3,hv _ _ _ g3,g4⟩
  ·exact h.elim
end
end Go.Sy
end
section
namespace Go.Proofs.YtelnglhodnoclaaGreat
open Go Go.Sy Go.Sl Go.RowKit
section
variable {H:ay}{b n nx o:Nat}{l p:List UInt8}
abbrev pgS(p:List UInt8):List SV:=(byV p).map .sc
abbrev pgO(p:List UInt8):VO:=an 48 (pgS p)
theorem bi(h:p.length=n):(pgS p).length=n:=by simpa using h
def eK(p:List UInt8)(o:Nat)(l:List UInt8):List UInt8:=p.take o ++ l ++ p.drop (o+l.length)
theorem eJ(h:o+l.length≤p.length):(eK p o l).length=p.length:=by
 unfold eK
 simp only [EI,ET,EW]
 omega
def gK(p:List UInt8)(at':Nat):Nat:=beN ((p.drop at').take 2)
def e9(p:List UInt8)(at' n:Nat):List UInt8:=eK p at' (beB n 2)
theorem ce(h:o+2≤p.length):(e9 p o n).length=p.length:=eJ (by rw [ee];exact h)
theorem jQ(p:List UInt8)(o:Nat):gK p o<65536:=by
 have h1:=A9 ((p.drop o).take 2)
 have h2:((p.drop o).take 2).length≤2:=by rw [ET];omega
 have h3:256 ^ ((p.drop o).take 2).length≤256 ^ 2:=Nat.pow_le_pow_right (by decide) h2
 unfold gK
 omega
theorem zG{i:Nat}(hi:i<p.length):(pgO p).cell i=some (.sc (.int .u8 ((p[i]).toNat:Int))):=aF (by simp [hi])
theorem mU(hn:(byV l).length=n):(pgS p).take o ++ (byV l).map .sc ++ (pgS p).drop (o+n)=pgS (eK p o l):=by
 subst hn
 unfold eK
 simp [List.map_take,List.map_drop]
theorem tf{m C:Nat}(hb:H.at' b=some (pgO p))(h:o+m≤p.length):BsIs H (.sl b o m C) (byV ((p.drop o).take m)):=by
 have hl:(byV ((p.drop o).take m)).length=m:=by simp;omega
 refine⟨fun v hv=>?_,.inr (.inr ⟨b,o,C,_,by rw [hl],hb,?_⟩)⟩
 ·obtain⟨c,_,rfl⟩:=Gc.1 hv
  rfl
 ·rw [hl]
  exact aB _ o (by simp [List.map_take,List.map_drop]) (by simpa using hl)
theorem rN{r:Nat}{ro:Bool}(hb:H.at' r=some (dat ro n 1 5 (byV l)))(hn:l.length=n):BsIs H (.slu r 0 n) (byV l):=
 BsIs.row (fun v hv=>by obtain⟨c,_,rfl⟩:=Gc.1 hv;rfl) hb (by simpa using hn)
theorem mj(hb:H.at' b=some (pgO p))(hp:p.length=1024)(ho:o+2≤1024):Fnc Tryz.prog 101 [.ptr b 0,.sc (.int .i64 (o:Int))] H nx (fun q=>q=(.sc (.int .i64 (gK p o:Int)),H,nx)):=by
 have hl:((p.drop o).take 2).length=2:=by simp;omega
 have hlt:=jQ p o
 have hg: ∀ {nx C:Nat},Fnc Tryz.prog 125 [.sl b o 2 C] H nx (fun q=>q=(.tup [.sc (.int .u64 (gK p o:Int)),.sc (.int .i64 0)],H,nx)):=get_s (tf hb (by omega)) (by omega) (by omega)
 refine Gj Tryz.func101 rfl rfl ?_
 repeat first|apply ah;rfl|apply aC;rfl;omega;omega|apply oe (lw:=o) (hg:=o+2);rfl;rfl;rfl;exact(F.un _ rfl);exact(F.sz _ rfl);rfl;rfl;(focus(omega));(focus(omega));(focus(omega));exact(show o+2-o=2 by omega);rfl;exact(ER o)|apply cT;rfl;kernel_rfl;exact hg|refine bO (cK (F.un _ rfl) (F.un _ rfl) rfl (show _=((gK p o:Nat):Int)from Ek _ ⟨by omega,by omega⟩)) rfl rfl rfl ?_
 (apply b8 Tryz.func101 Tryz.results101;rfl)
 rfl
abbrev aj(p:List UInt8):Nat:=gK p 14
abbrev aP(p:List UInt8):Nat:=gK p 16
theorem gQ(hb:H.at' b=some (pgO p))(hp:p.length=1024):Fnc Tryz.prog 78 [.ptr b 0] H nx (fun q=>q=(.sc (.int .i64 (aj p:Int)),H,nx)):=by
 refine Gj Tryz.func78 rfl rfl ?_
 repeat first|apply ah;rfl|apply cT;rfl;kernel_rfl;exact mj (o:=14) hb hp (by decide)
 (apply b8 Tryz.func78 Tryz.results78;rfl)
 rfl
theorem qa(hb:H.at' b=some (pgO p))(hp:p.length=1024):Fnc Tryz.prog 90 [.ptr b 0] H nx (fun q=>q=(.sc (.int .i64 (aP p:Int)),H,nx)):=by
 refine Gj Tryz.func90 rfl rfl ?_
 repeat first|apply ah;rfl|apply cT;rfl;kernel_rfl;exact mj (o:=16) hb hp (by decide)
 (apply b8 Tryz.func90 Tryz.results90;rfl)
 rfl
abbrev Cx(f:Nat):SV:= .fn (.func 100) [] [.ptr f 0]
abbrev Ae(b:Nat):VO:=an 132 [.ptr b 0]
theorem kE:Fnc Tryz.prog 77 [.ptr b 0] H nx (fun q=>q=(Cx nx,H.set nx (Ae b),nx+1)):=by
 refine Gj Tryz.func77 rfl rfl ?_
 repeat apply ah;rfl
 (apply b8 Tryz.func77 Tryz.results77;rfl)
 rfl
abbrev aY(p:List UInt8)(n:Nat):Nat:=gK p (18+4*n)
abbrev aH(p:List UInt8)(n:Nat):Nat:=gK p (18+4*n+2)
theorem mB{f:Nat}(hf:H.at' f=some (Ae b))(hb:H.at' b=some (pgO p))(hp:p.length=1024)(hn:18+4*n+4≤1024):Fnc Tryz.prog 100 [.sc (.int .i64 (n:Int)),.ptr f 0] H nx
 (fun q=>q=(.tup [.sc (.int .i64 (aY p n:Int)),.sc (.int .i64 (aH p n:Int))],H,nx)):=by
 have h1: ∀ nx,Fnc Tryz.prog 101 [.ptr b 0,.sc (.int .i64 (18+4*(n:Int)))] H nx (fun q=>q=(.sc (.int .i64 (aY p n:Int)),H,nx)):=fun nx=>by
  have:=mj (nx:=nx) (o:=18+4*n) hb hp (by omega)
  rw [show((18+4*n:Nat):Int)=18+4*(n:Int) by omega] at this
  exact this
 have h2: ∀ nx,Fnc Tryz.prog 101 [.ptr b 0,.sc (.int .i64 (18+4*(n:Int)+2))] H nx (fun q=>q=(.sc (.int .i64 (aH p n:Int)),H,nx)):=fun nx=>by
  have:=mj (nx:=nx) (o:=18+4*n+2) hb hp (by omega)
  rw [show((18+4*n+2:Nat):Int)=18+4*(n:Int)+2 by omega] at this
  exact this
 refine Gj Tryz.func100 rfl rfl ?_
 repeat first|apply ah;rfl|apply aC;rfl;omega;omega
 (apply aS;(focus(kernel_rfl));(focus(kernel_rfl)))
 repeat first|apply az;rfl|refine ba (am rfl rfl (.inl ⟨rfl,(Ek _ ⟨(by focus(omega)),(by focus(omega))⟩).symm⟩)) rfl rfl rfl ?_|refine ba (aK (F.ag _ rfl) rfl hf (aF rfl)) rfl rfl rfl ?_|apply eX;rfl;rfl;rfl;(focus(kernel_rfl));exact(h1 _)|apply eX;rfl;rfl;rfl;(focus(kernel_rfl));exact(h2 _)
 refine au ⟨by kernel_rfl,?_,?_⟩;(focus(repeat(first|exact Gu|apply cc;rfl|apply bN;rfl|refine⟨.inr (by(repeat(refine⟨(by first|exact am rfl rfl (.inl ⟨rfl,(Ek _ ⟨by omega,by omega⟩).symm⟩)|exact aK (F.ag _ rfl) rfl (by assumption) (aF rfl)),?_⟩));exact Gu),?_⟩)))
 (apply b8 Tryz.func100 Tryz.results100;rfl)
 rfl
theorem nR(hb:H.at' b=some (pgO p))(hp:p.length=1024)(ho:o+2≤1024)(hn:n<65536):Fnc Tryz.prog 79 [.ptr b 0,.sc (.int .i64 (o:Int)),.sc (.int .i64 (n:Int))] H nx
 (fun q=>q.1 = .tup []∧q.2.1.at' b=some (pgO (e9 p o n))∧nx≤q.2.2∧ ∀ m,m<nx→m≠b→q.2.1.at' m=H.at' m):=by
 refine Gj Tryz.func79 rfl rfl ?_
 refine bh fun hund=>?_
 have hlt:=hund _ _ hb
 repeat first|apply ah;rfl|refine bO (cK (F.un _ rfl) (F.un _ rfl) rfl (show _=((n:Nat):Int)from Ge _ ⟨by omega,by omega⟩)) rfl rfl rfl ?_
 refine aZ rfl rfl rfl (by kernel_rfl) (Gi (put_s (n:=n) (size:=2) (by omega) (by decide) (by decide) (by omega)) ?_)
 rintro⟨_,H2,n2⟩ ⟨rfl,h2,rfl,h4⟩
 dsimp only at h2 h4 ⊢
 have hb2:=(h4 b hlt).trans hb
 repeat first|apply ah;rfl|apply aC;rfl;omega;omega|apply oe (lw:=o) (hg:=o+2);rfl;rfl;rfl;exact(F.un _ rfl);exact(F.sz _ rfl);rfl;rfl;(focus(omega));(focus(omega));(focus(omega));exact(show o+2-o=2 by omega);rfl;exact(ER o)|refine bO (cu rfl rfl (.inl ⟨rfl,rfl⟩)) rfl rfl rfl ?_
 refine pc rfl rfl rfl rfl (F.un _ rfl) (F.sz _ rfl) hb2 (rN h2 (by rw [ee])) (by simp [ee]) (by simp [ee];omega) ?_
 repeat apply ah;rfl
 (apply wo Tryz.func79 Tryz.results79;rfl)
 refine⟨rfl,?_,EN _,fun m hm hmb=>(ab _ _ hmb).trans (h4 m hm)⟩
 rw [aw,mU (by simp [ee])]
 rfl
def bR(p:List UInt8)(n a s:Nat):List UInt8:=e9 (e9 p (18+4*n) a) (18+4*n+2) s
theorem fG{a s:Nat}(h:18+4*n+4≤p.length):(bR p n a s).length=p.length:=by
 unfold bR
 rw [ce,ce (by omega)]
 rw [ce (by omega)]
 omega
theorem pt(hb:H.at' b=some (pgO p))(hp:p.length=1024){a s:Nat}(hn:18+4*n+4≤1024)(ha:a<65536)(hs:s<65536):Fnc Tryz.prog 76 [.ptr b 0,.sc (.int .i64 (n:Int)),.sc (.int .i64 (a:Int)),.sc (.int .i64 (s:Int))] H nx
 (fun q=>q.1 = .tup []∧q.2.1.at' b=some (pgO (bR p n a s))∧nx≤q.2.2∧ ∀ m,m<nx→m≠b→q.2.1.at' m=H.at' m):=by
 have h1: ∀ {H:ay} {nx:Nat},H.at' b=some (pgO p)→Fnc Tryz.prog 79 [.ptr b 0,.sc (.int .i64 (18+4*(n:Int))),.sc (.int .i64 (a:Int))] H nx _:=fun {H nx} hb=>by
  have:=nR (nx:=nx) (o:=18+4*n) hb hp (by omega) ha
  rw [show((18+4*n:Nat):Int)=18+4*(n:Int) by omega] at this
  exact this
 have h2: ∀ {H:ay} {nx:Nat},H.at' b=some (pgO (e9 p (18+4*n) a))→Fnc Tryz.prog 79 [.ptr b 0,.sc (.int .i64 (18+4*(n:Int)+2)),.sc (.int .i64 (s:Int))] H nx _:=fun {H nx} hb=>by
  have:=nR (nx:=nx) (o:=18+4*n+2) hb (by rw [ce (by omega)];exact hp) (by omega) hs
  rw [show((18+4*n+2:Nat):Int)=18+4*(n:Int)+2 by omega] at this
  exact this
 refine Gj Tryz.func76 rfl rfl ?_
 refine bh fun hund=>?_
 have hlt:=hund _ _ hb
 repeat first|apply ah;rfl|apply aC;rfl;omega;omega
 refine aZ rfl rfl rfl (by kernel_rfl) (Gi (h1 hb) ?_)
 rintro⟨_,H2,n2⟩ ⟨rfl,g2,g3,g4⟩
 dsimp only at g2 g3 g4 ⊢
 repeat first|apply ah;rfl|apply aC;rfl;omega;omega
 refine aZ rfl rfl rfl (by kernel_rfl) (Gi (h2 g2) ?_)
 rintro⟨_,H3,n3⟩ ⟨rfl,k2,k3,k4⟩
 dsimp only at k2 k3 k4 ⊢
 repeat apply ah;rfl
 (apply wo Tryz.func76 Tryz.results76;rfl)
 exact⟨rfl,k2,EM g3 k3,fun m hm hmb=>(k4 m (by omega) hmb).trans (g4 m hm hmb)⟩
theorem xE:Fnc Tryz.prog 87 [.sc (.int .i64 (n:Int))] H nx (fun q=>q=(.sc (.bool (decide (1≤n∧n≤1000))),H,nx)):=by
 refine Gj Tryz.func87 rfl rfl ?_
 (repeat' (first|apply ah;rfl|(refine cL rfl rfl rfl rfl ?_ ?_ <;> intro hq)|(refine lK rfl rfl rfl rfl ?_ ?_ <;> intro hq2)))
 all_goals(apply b8 Tryz.func87 Tryz.results87;rfl)
 all_goals first|(rw [E8 (by omega)];rfl)|(rw [E9 (by omega)];rfl)
def zeroP:List UInt8:=List.replicate 1024 0
theorem ac:zeroP.length=1024:=E2
def dh(k:UInt8):List UInt8:=e9 (zeroP.set 12 k) 16 1024
theorem cQ(k:UInt8):(dh k).length=1024:=by
 unfold dh
 rw [ce (by rw [List.length_set,ac];decide),List.length_set,ac]
theorem dK:qi Tryz.prog 48=some (pgS zeroP):=by kernel_rfl
theorem jC(a b:List UInt8)(ha:a.length=1024)(hb:b.length=1024):List.take 0 (pgS a) ++ (SV.agg (pgS b)).cells ++ List.drop (0+1024) (pgS a)=pgS b:=by
 rw [List.take_zero,List.nil_append,ER,List.drop_of_length_le (by simp [ha]),E3]
 rfl
theorem iH(p:List UInt8):cr (pgS p)=true:=by
 induction p with
 | nil=>rfl
 | cons c p ih=>exact ih
theorem bH(hp:p.length=1024):(pgO p).cellsFrom 0 1024=some (pgS p):=
 aB _ 0 (by rw [List.drop_zero,Ew (by simp [hp])]) (by simp [hp])
theorem Dt(p:List UInt8)(i:Nat)(c:UInt8):(pgS p).set i (.sc (.int .u8 (c.toNat:Int)))=pgS (p.set i c):=by simp [List.map_set]
end
section
variable {ro:Option Nat} {fn nt nx d b:Nat} {T:Tr SV} {k k':List AIt} {dfs:List ADf} {H:ay} {Q:Pst} {p q:List UInt8}
theorem da(hp:p.length=1024)(h:ldW wA nt T k=some (b,1024,d,k'))(hb:H.at' b=some (pgO p))(hw:Wp Tryz.prog ro ⟨fn,nt,T.set d (.agg (pgS p)),k',dfs,H,nx⟩ Q):Wp Tryz.prog ro ⟨fn,nt,T,k,dfs,H,nx⟩ Q:=w_ldW jz h hb (bi hp) hw
theorem cG(hp:p.length=1024)(hq:q.length=1024)(h:stW wA nt T k=some (b,1024,pgS p,k'))(hb:H.at' b=some (pgO q))(hw:Wp Tryz.prog ro ⟨fn,nt,T,k',dfs,H.set b (pgO p),nx⟩ Q):Wp Tryz.prog ro ⟨fn,nt,T,k,dfs,H,nx⟩ Q:=w_stW jz h hb (bi hp) (bi hq) (iH p) hw
end
section
variable {H:ay}{s:SV}{a b i n nx o r:Nat}{ro:Bool}{l p:List UInt8}{seen:List (Nat×Nat)}
theorem B3(hi:i<p.length)(c:UInt8):List.take i (pgS p) ++ (SV.sc (.int .u8 (c.toNat:Int))).cells ++ List.drop (i+1) (pgS p)=pgS (p.set i c):=by
 rw [← Dt,List.set_eq_take_append_cons_drop,EQ (by simpa using hi)]
 simp [SV.cells]
theorem DQ(k:UInt8):Fnc Tryz.prog 57 [.sc (.int .u8 (k.toNat:Int))] H nx (fun q=>q.1 = .agg (pgS (dh k))∧nx≤q.2.2∧ ∀ m,m<nx→q.2.1.at' m=H.at' m):=by
 refine Gj Tryz.func57 rfl rfl ?_
 have hl0:(pgS zeroP).length=1024:=by rw [EU,EU];exact ac
 repeat first|apply ah;rfl|apply aM;rfl;(focus((repeat(exact ae));done));rfl|refine er (aW dK) rfl rfl rfl ?_|apply ii (q:=12);rfl;rfl;rfl;rfl;exact(F.un _ rfl);exact(F.sz _ rfl);(focus(omega));(focus(omega))
 rw [B3 (p:=zeroP) (i:=0+12*1) (by rw [ac];decide) k,show 0+12*1=12 from rfl]
 refine aZ rfl rfl rfl (by kernel_rfl) (Gi (nR (b:=nx+1) (p:=zeroP.set 12 k) (o:=16) (n:=1024) (by repeat(exact ae)) (by rw [List.length_set];exact ac) (by decide) (by decide)) ?_)
 rintro⟨_,H2,n2⟩ ⟨rfl,g2,g3,g4⟩
 dsimp only at g2 g3 g4 ⊢
 have hres:H2.at' nx=some (pgO zeroP):=(g4 nx (by omega) (by omega)).trans (by repeat(first|exact ae|refine aa (by omega) ?_))
 have hl:(dh k).length=1024:=cQ k
 repeat first|apply ah;rfl|apply aM;rfl;assumption;rfl
 rw [show e9 (zeroP.set 12 k) 16 1024=dh k from rfl,jC zeroP (dh k) ac hl]
 ((apply bw Tryz.func57 (congrArg Array.toList Tryz.results57));(focus((apply Gl rfl (Gn (F.ag _ rfl) (by repeat(exact ae)) (bH hl)));(repeat(exact Gk)))))
 exact⟨rfl,by dsimp only;omega,fun m hm=>(ab _ _ (by omega)).trans ((g4 m (by omega) (by omega)).trans (by(repeat(refine aa (by omega) ?_));rfl))⟩
theorem xU(k:UInt8):Fnc Tryz.prog 57 [.sc (.int .u8 (k.toNat:Int))] H nx (fun q=>q=(.agg (pgS (dh k)),H,nx)):=Fnc.bW (Free.agg _) (DQ k)
def cw(seen:List (Nat×Nat))(i:Nat):Bool:=seen.any fun x=>decide (x.1≤i∧i<x.1+x.2)
def sM(seen:List (Nat×Nat))(a s:Nat):Bool:=(List.range s).any fun j=>cw seen (a+j)
def eG(p:List UInt8):Nat→Nat→List (Nat×Nat)→Bool→Bool
 | 0,_,_,fine=>fine
 | k+1,n,seen,_=>
   if aY p n=0∧aH p n=0 then eG p k (n+1) seen (decide (n+1<aj p))
   else if aH p n<1∨1000<aH p n∨aY p n<aP p∨1024<aY p n+aH p n then false
   else if sM seen (aY p n) (aH p n) then false else eG p k (n+1) ((aY p n,aH p n) :: seen) true
def ct(p:List UInt8):Bool:=decide (18+4*aj p≤aP p∧aP p≤1024) && eG p (aj p) 0 [] true
abbrev CQ(f:Nat→Bool):List SV:=(List.range 1024).map fun i=> .sc (.bool (f i))
abbrev CR(f:Nat→Bool):VO:=an 158 (CQ f)
theorem zTak:qi Tryz.prog 158=some (CQ fun _=>false):=by kernel_rfl
theorem tw(f:Nat→Bool)(hi:i<1024):(CR f).cell i=some (.sc (.bool (f i))):=aF (by simp [hi])
theorem ux(seen:List (Nat×Nat))(a:Nat):cw ((a,0) :: seen)=cw seen:=by
 funext i
 simp only [cw,List.any_cons,Nat.add_zero]
 rw [E9 (by omega),Bool.false_or]
theorem A6(seen:List (Nat×Nat))(h:a≤i):cw ((a,i-a) :: seen) i=cw seen i:=by
 simp only [cw,List.any_cons]
 rw [E9 (by omega),Bool.false_or]
theorem wz(h:a≤i):(CQ (cw ((a,i-a) :: seen))).set i (.sc (.bool true))=CQ (cw ((a,i+1-a) :: seen)):=by
 refine Ga fun j=>?_
 rw [List.getElem?_set,E6,E6,EU,List.length_range]
 rcases ES j 1024 with hj|hj
 ·rw [List.getElem?_range hj]
  by_cases he:i=j
  ·subst he
   rw [EQ rfl,EQ hj]
   simp only [EK,cw,List.any_cons]
   rw [E8 (by omega),Bool.true_or]
  ·rw [EP he]
   simp only [EK,cw,List.any_cons]
   rw [show decide (a≤j∧j<a+(i-a))=decide (a≤j∧j<a+(i+1-a))from decide_eq_decide.2 (by omega)]
 ·rw [Gd (by simpa using hj)]
  by_cases he:i=j
  ·subst he
   rw [EQ rfl,EP (by omega)]
   rfl
  ·rw [EP he]
   rfl
theorem kr{s:Nat}(h1:a≤i)(h2:i<a+s)(h:cw seen i=true):sM seen a s=true:=by
 unfold sM
 rw [List.any_eq_true]
 exact⟨i-a,Gb.2 (by omega),by rw [show a+(i-a)=i by omega];exact h⟩
theorem tY{s:Nat}(h: ∀ j,a≤j→j<a+s→cw seen j=false):sM seen a s=false:=by
 unfold sM
 rw [List.any_eq_false]
 intro j hj
 rw [h (a+j) (by omega) (by have:=Gb.1 hj;omega)]
 decide
theorem BD(hb:H.at' b=some (pgO p))(hp:p.length=1024):Fnc Tryz.prog 74 [.ptr b 0] H nx (fun q=>q.1 = .sc (.bool (ct p))∧nx≤q.2.2∧ ∀ m,m<nx→q.2.1.at' m=H.at' m):=by
 have hs:aj p<65536:=jQ p 14
 have hg:aP p<65536:=jQ p 16
 refine Gj Tryz.func74 rfl rfl ?_
 refine bh fun hund=>?_
 have hlt:=hund _ _ hb
 repeat first|apply ah;rfl|apply aC;rfl;omega;omega|apply cT;rfl;kernel_rfl;exact gQ hb hp|apply cT;rfl;kernel_rfl;exact qa hb hp
 refine bq rfl rfl rfl rfl (fun h1=>?_) (fun h1=>?_)
 ·repeat apply ah;rfl
  (apply b8 Tryz.func74 Tryz.results74;rfl)
  refine⟨?_,EE _,fun m _=>rfl⟩
  unfold ct
  rw [E9 (by omega)]
  rfl
 repeat apply ah;rfl
 refine dI rfl rfl rfl rfl (fun h2=>?_) (fun h2=>?_)
 ·repeat apply ah;rfl
  (apply b8 Tryz.func74 Tryz.results74;rfl)
  refine⟨?_,EE _,fun m _=>rfl⟩
  unfold ct
  rw [E9 (by omega)]
  rfl
 have hrp:ct p=eG p (aj p) 0 [] true:=by
  unfold ct
  rw [E8 (by omega),Bool.true_and]
 rw [hrp]
 repeat first|apply ah;rfl|apply cT;rfl;kernel_rfl;exact kE|refine er (aW zTak) rfl rfl rfl ?_
 refine bv (α:=Nat×List (Nat×Nat)×Bool) (fun x=> [(0,.ptr b 0),(3,.sc (.int .i64 (aj p:Int))),(4,.sc (.int .i64 (aP p:Int))),(5,Cx nx),(6,.ptr (nx+1) 0),(7,.sc (.bool x.2.2)),(27,.sc (.int .i64 (aj p:Int))),(28,.sc (.int .i64 (x.1:Int)))])
  (fun x H1 n1=>n1=nx+1+1∧x.1≤aj p∧eG p (aj p-x.1) x.1 x.2.1 x.2.2=eG p (aj p) 0 [] true∧H1.at' nx=some (Ae b)∧H1.at' (nx+1)=some (CR (cw x.2.1))∧ ∀ m,m<nx→H1.at' m=H.at' m) (fun x=>aj p-x.1) (0,[],true)
  ⟨rfl,EF _,rfl,by repeat(first|exact ae|refine aa (by omega) ?_),aw _ _ _,fun m hm=>(ab _ _ (by omega)).trans (ab _ _ (by omega))⟩ (Gq (Gt rfl)) ?_
 rintro⟨n,seen,fine⟩ H1 n1 ⟨rfl,h3,h4,h5,h6,h7⟩ ih
 dsimp only at h3 h4 h5 h6 h7 ih ⊢
 have hb1:=(h7 b hlt).trans hb
 have ha0:aY p n<65536:=jQ p _
 have hz0:aH p n<65536:=jQ p _
 repeat apply ah;rfl
 refine bq rfl rfl rfl rfl (fun h8=>?_) (fun h8=>?_)
 ·have hn:n<aj p:=by omega
  have hgo:eG p (aj p-n) n seen fine=if aY p n=0∧aH p n=0 then eG p (aj p-(n+1)) (n+1) seen (decide (n+1<aj p))
   else if aH p n<1∨1000<aH p n∨aY p n<aP p∨1024<aY p n+aH p n then false
   else if sM seen (aY p n) (aH p n) then false else eG p (aj p-(n+1)) (n+1) ((aY p n,aH p n) :: seen) true:=by
   rw [show aj p-n=(aj p-(n+1))+1 by omega]
   rfl
  repeat apply ah;rfl
  refine jJ rfl rfl rfl rfl (by kernel_rfl) (Gi (mB h5 hb1 hp (n:=n) (by omega)) ?_)
  rintro _ rfl
  dsimp only
  repeat apply ah;rfl
  by_cases hE:aY p n=0∧aH p n=0
  ·refine cD rfl rfl rfl rfl (fun _=>?_) (fun hq=>absurd (by omega) hq)
   repeat apply ah;rfl
   refine cD rfl rfl rfl rfl (fun _=>?_) (fun hq=>absurd (by omega) hq)
   repeat first|apply ah;rfl|apply aC;rfl;omega;omega|refine bO (cu rfl rfl (.inr (.inr (.inl ⟨rfl,rfl⟩)))) rfl rfl rfl ?_
   refine ih _ _ _ (n+1,seen,decide (n+1<aj p)) ⟨rfl,hn,?_,h5,h6,h7⟩ (by omega) ?_
   ·rw [← h4,hgo,EQ hE]
   ·rw [show decide ((n:Int)<(aj p:Int)-1)=decide (n+1<aj p)from decide_eq_decide.2 (by omega)]
    exact Gq (by repeat(first|exact Gu|refine⟨rfl,?_⟩))
  ·have hgo2:=hgo
   rw [EP hE] at hgo2
   refine cD rfl rfl rfl rfl (fun e1=>?_) (fun e1=>?_)
   ·repeat apply ah;rfl
    refine cD rfl rfl rfl rfl (fun hq=>absurd hq (by omega)) (fun _=>?_)
    repeat apply ah;rfl
    refine bq rfl rfl rfl rfl (fun c1=>?_) (fun c1=>?_)
    ·(repeat(apply ah;rfl));(apply b8 Tryz.func74 Tryz.results74;rfl);exact⟨by rw [← h4,hgo2,EQ (by omega)];rfl,by dsimp only;omega,h7⟩
    repeat apply ah;rfl
    refine dI rfl rfl rfl rfl (fun c2=>?_) (fun c2=>?_)
    ·(repeat(apply ah;rfl));(apply b8 Tryz.func74 Tryz.results74;rfl);exact⟨by rw [← h4,hgo2,EQ (by omega)];rfl,by dsimp only;omega,h7⟩
    repeat apply ah;rfl
    refine bq rfl rfl rfl rfl (fun c3=>?_) (fun c3=>?_)
    ·(repeat(apply ah;rfl));(apply b8 Tryz.func74 Tryz.results74;rfl);exact⟨by rw [← h4,hgo2,EQ (by omega)];rfl,by dsimp only;omega,h7⟩
    repeat first|apply ah;rfl|apply aC;rfl;omega;omega
    refine dI rfl rfl rfl rfl (fun c4=>?_) (fun c4=>?_)
    ·(repeat(apply ah;rfl));(apply b8 Tryz.func74 Tryz.results74;rfl);exact⟨by rw [← h4,hgo2,EQ (by omega)];rfl,by dsimp only;omega,h7⟩
    rw [EP (by omega)] at hgo2
    repeat apply ah;rfl
    refine bv (α:=Nat) (fun i=> [(0,.ptr b 0),(3,.sc (.int .i64 (aj p:Int))),(4,.sc (.int .i64 (aP p:Int))),(5,Cx nx),(6,.ptr (nx+1) 0),(8,.sc (.int .i64 (n:Int))),(9,.sc (.int .i64 (aY p n:Int))),(10,.sc (.int .i64 (aH p n:Int))),(11,.sc (.int .i64 (i:Int))),(27,.sc (.int .i64 (aj p:Int))),(28,.sc (.int .i64 (n:Int)))])
     (fun i H2 n2=>n2=nx+1+1∧aY p n≤i∧i≤aY p n+aH p n∧(∀ j,aY p n≤j→j<i→cw seen j=false)∧H2.at' nx=some (Ae b)∧H2.at' (nx+1)=some (CR (cw ((aY p n,i-aY p n) :: seen)))∧ ∀ m,m<nx→H2.at' m=H.at' m) (fun i=>aY p n+aH p n-i) (aY p n)
     ⟨rfl,EE _,by omega,fun j g1 g2=>absurd g1 (by omega),h5,by rw [Nat.sub_self];exact h6.trans (congrArg (fun f=>some (CR f)) (ux _ _).symm),h7⟩ (Gq (Gt rfl)) ?_
    rintro i H2 n2 ⟨rfl,g1,g2,g3,g4,g5,g6⟩ ih2
    repeat first|apply ah;rfl|apply aC;rfl;omega;omega
    refine bq rfl rfl rfl rfl (fun c5=>?_) (fun c5=>?_)
    ·have hi:i<1024:=by omega
     have hc:=tw (cw ((aY p n,i-aY p n) :: seen)) hi
     rw [A6 seen g1] at hc
     cases hci:cw seen i with
     | true=>
       rw [hci] at hc
       repeat first|apply ah;rfl|apply ii (q:=i);rfl;rfl;rfl;rfl;exact(F.un _ rfl);exact(F.sz _ rfl);(focus(omega));(focus(omega))|refine bO (aK (F.ag _ rfl) rfl g5 (by rw [ER,Nat.mul_one];exact hc)) rfl rfl rfl ?_
       (apply b8 Tryz.func74 Tryz.results74;rfl)
       exact⟨by rw [← h4,hgo2,EQ (kr (by omega) (by omega) hci)];rfl,by dsimp only;omega,g6⟩
     | false=>
       rw [hci] at hc
       repeat first|apply ah;rfl|apply ii (q:=i);rfl;rfl;rfl;rfl;exact(F.un _ rfl);exact(F.sz _ rfl);(focus(omega));(focus(omega))|refine bO (aK (F.ag _ rfl) rfl g5 (by rw [ER,Nat.mul_one];exact hc)) rfl rfl rfl ?_
       refine cq (v:= .sc (.bool true)) (cs:=CQ (cw ((aY p n,i-aY p n) :: seen))) rfl rfl rfl (F.sz _ rfl) g5 rfl (by rw [ER,Nat.mul_one];exact Es (by rw [EU,List.length_range];exact hi)) ?_
       rw [ER,Nat.mul_one,wz g1]
       repeat first|apply ah;rfl|apply aC;rfl;omega;omega
       refine ih2 _ _ _ (i+1) ⟨rfl,by omega,by omega,fun j k1 k2=>?_,(ab _ _ (by omega)).trans g4,aw _ _ _,fun m hm=>(ab _ _ (by omega)).trans (g6 m hm)⟩ (by omega) (Gq (Gt rfl))
       rcases ES j i with k3|k3
       ·exact g3 j k1 k3
       ·obtain rfl:j=i:=by omega
        exact hci
    ·obtain rfl:i=aY p n+aH p n:=by omega
     rw [Nat.add_sub_cancel_left] at g5
     rw [EP (by rw [tY g3];decide)] at hgo2
     repeat first|apply ah;rfl|apply aC;rfl;omega;omega
     exact ih _ _ _ (n+1,(aY p n,aH p n) :: seen,true) ⟨rfl,hn,by rw [← h4,hgo2],g4,g5,g6⟩ (by omega) (Gq (Gt rfl))
   ·repeat apply ah;rfl
    refine bq rfl rfl rfl rfl (fun c1=>?_) (fun c1=>?_)
    ·(repeat(apply ah;rfl));(apply b8 Tryz.func74 Tryz.results74;rfl);exact⟨by rw [← h4,hgo2,EQ (by omega)];rfl,by dsimp only;omega,h7⟩
    repeat apply ah;rfl
    refine dI rfl rfl rfl rfl (fun c2=>?_) (fun c2=>?_)
    ·(repeat(apply ah;rfl));(apply b8 Tryz.func74 Tryz.results74;rfl);exact⟨by rw [← h4,hgo2,EQ (by omega)];rfl,by dsimp only;omega,h7⟩
    repeat apply ah;rfl
    refine bq rfl rfl rfl rfl (fun c3=>?_) (fun c3=>?_)
    ·(repeat(apply ah;rfl));(apply b8 Tryz.func74 Tryz.results74;rfl);exact⟨by rw [← h4,hgo2,EQ (by omega)];rfl,by dsimp only;omega,h7⟩
    repeat first|apply ah;rfl|apply aC;rfl;omega;omega
    refine dI rfl rfl rfl rfl (fun c4=>?_) (fun c4=>?_)
    ·(repeat(apply ah;rfl));(apply b8 Tryz.func74 Tryz.results74;rfl);exact⟨by rw [← h4,hgo2,EQ (by omega)];rfl,by dsimp only;omega,h7⟩
    rw [EP (by omega)] at hgo2
    repeat apply ah;rfl
    refine bv (α:=Nat) (fun i=> [(0,.ptr b 0),(3,.sc (.int .i64 (aj p:Int))),(4,.sc (.int .i64 (aP p:Int))),(5,Cx nx),(6,.ptr (nx+1) 0),(8,.sc (.int .i64 (n:Int))),(9,.sc (.int .i64 (aY p n:Int))),(10,.sc (.int .i64 (aH p n:Int))),(11,.sc (.int .i64 (i:Int))),(27,.sc (.int .i64 (aj p:Int))),(28,.sc (.int .i64 (n:Int)))])
     (fun i H2 n2=>n2=nx+1+1∧aY p n≤i∧i≤aY p n+aH p n∧(∀ j,aY p n≤j→j<i→cw seen j=false)∧H2.at' nx=some (Ae b)∧H2.at' (nx+1)=some (CR (cw ((aY p n,i-aY p n) :: seen)))∧ ∀ m,m<nx→H2.at' m=H.at' m) (fun i=>aY p n+aH p n-i) (aY p n)
     ⟨rfl,EE _,by omega,fun j g1 g2=>absurd g1 (by omega),h5,by rw [Nat.sub_self];exact h6.trans (congrArg (fun f=>some (CR f)) (ux _ _).symm),h7⟩ (Gq (Gt rfl)) ?_
    rintro i H2 n2 ⟨rfl,g1,g2,g3,g4,g5,g6⟩ ih2
    repeat first|apply ah;rfl|apply aC;rfl;omega;omega
    refine bq rfl rfl rfl rfl (fun c5=>?_) (fun c5=>?_)
    ·have hi:i<1024:=by omega
     have hc:=tw (cw ((aY p n,i-aY p n) :: seen)) hi
     rw [A6 seen g1] at hc
     cases hci:cw seen i with
     | true=>
       rw [hci] at hc
       repeat first|apply ah;rfl|apply ii (q:=i);rfl;rfl;rfl;rfl;exact(F.un _ rfl);exact(F.sz _ rfl);(focus(omega));(focus(omega))|refine bO (aK (F.ag _ rfl) rfl g5 (by rw [ER,Nat.mul_one];exact hc)) rfl rfl rfl ?_
       (apply b8 Tryz.func74 Tryz.results74;rfl)
       exact⟨by rw [← h4,hgo2,EQ (kr (by omega) (by omega) hci)];rfl,by dsimp only;omega,g6⟩
     | false=>
       rw [hci] at hc
       repeat first|apply ah;rfl|apply ii (q:=i);rfl;rfl;rfl;rfl;exact(F.un _ rfl);exact(F.sz _ rfl);(focus(omega));(focus(omega))|refine bO (aK (F.ag _ rfl) rfl g5 (by rw [ER,Nat.mul_one];exact hc)) rfl rfl rfl ?_
       refine cq (v:= .sc (.bool true)) (cs:=CQ (cw ((aY p n,i-aY p n) :: seen))) rfl rfl rfl (F.sz _ rfl) g5 rfl (by rw [ER,Nat.mul_one];exact Es (by rw [EU,List.length_range];exact hi)) ?_
       rw [ER,Nat.mul_one,wz g1]
       repeat first|apply ah;rfl|apply aC;rfl;omega;omega
       refine ih2 _ _ _ (i+1) ⟨rfl,by omega,by omega,fun j k1 k2=>?_,(ab _ _ (by omega)).trans g4,aw _ _ _,fun m hm=>(ab _ _ (by omega)).trans (g6 m hm)⟩ (by omega) (Gq (Gt rfl))
       rcases ES j i with k3|k3
       ·exact g3 j k1 k3
       ·obtain rfl:j=i:=by omega
        exact hci
    ·obtain rfl:i=aY p n+aH p n:=by omega
     rw [Nat.add_sub_cancel_left] at g5
     rw [EP (by rw [tY g3];decide)] at hgo2
     repeat first|apply ah;rfl|apply aC;rfl;omega;omega
     exact ih _ _ _ (n+1,(aY p n,aH p n) :: seen,true) ⟨rfl,hn,by rw [← h4,hgo2],g4,g5,g6⟩ (by omega) (Gq (Gt rfl))
 ·obtain rfl:n=aj p:=by omega
  rw [Nat.sub_self] at h4
  have h4:fine=eG p (aj p) 0 [] true:=h4
  repeat apply ah;rfl
  (apply b8 Tryz.func74 Tryz.results74;rfl)
  exact⟨by rw [← h4];rfl,by dsimp only;omega,h7⟩
theorem jL(hb:H.at' b=some (pgO p))(hp:p.length=1024):Fnc Tryz.prog 74 [.ptr b 0] H nx (fun q=>q=(.sc (.bool (ct p)),H,nx)):=Fnc.bW (fun _ _ _ h=>h) (BD hb hp)
def dM(p:List UInt8):Nat→Nat→Nat
 | 0,n=>n
 | k+1,n=>if aH p n=0 then n else dM p k (n+1)
def a9(p:List UInt8):Nat:=dM p (aj p) 0
theorem oE(p:List UInt8): ∀ k n,dM p k n≤n+k
 | 0,n=>EE _
 | k+1,n=>by
   unfold dM
   split
   ·omega
   ·have:=oE p k (n+1);omega
theorem rA(p:List UInt8):a9 p≤aj p:=by have:=oE p (aj p) 0;unfold a9;omega
def vD(p:List UInt8):Prop:=p.length=1024∧18+4*aj p≤aP p∧aP p≤1024
theorem eW(hp:p.length=1024)(h:ct p=true):vD p:=by
 unfold ct at h
 rw [ED,Gg] at h
 exact⟨hp,h.1⟩
theorem Cy(hb:H.at' b=some (pgO p))(hp:vD p):Fnc Tryz.prog 89 [.ptr b 0] H nx (fun q=>q.1 = .sc (.int .i64 (a9 p:Int))∧nx≤q.2.2∧ ∀ m,m<nx→q.2.1.at' m=H.at' m):=by
 obtain⟨hp,hp1,hp2⟩:=hp
 have hs:aj p<65536:=jQ p 14
 refine Gj Tryz.func89 rfl rfl ?_
 refine bh fun hund=>?_
 have hlt:=hund _ _ hb
 have hb0: ∀ {vo:VO},(H.set nx vo).at' b=some (pgO p):=fun {vo}=>(ab _ _ (by omega)).trans hb
 repeat first|apply ah;rfl|apply cT;rfl;kernel_rfl;exact kE|apply cT;rfl;kernel_rfl;exact gQ hb0 hp
 refine bv (α:=Nat) (fun n=> [(0,.ptr b 0),(3,Cx nx),(10,.sc (.int .i64 (aj p:Int))),(11,.sc (.int .i64 (n:Int)))])
  (fun n H1 n1=>n1=nx+1∧n≤aj p∧dM p (aj p-n) n=a9 p∧H1=H.set nx (Ae b)) (fun n=>aj p-n) 0
  ⟨rfl,EF _,rfl,rfl⟩ (Gq (Gt rfl)) ?_
 rintro n H1 n1 ⟨rfl,h3,h4,rfl⟩ ih
 repeat apply ah;rfl
 refine bq rfl rfl rfl rfl (fun h8=>?_) (fun h8=>?_)
 ·have hgo:dM p (aj p-n) n=if aH p n=0 then n else dM p (aj p-(n+1)) (n+1):=by
   rw [show aj p-n=(aj p-(n+1))+1 by omega]
   rfl
  repeat apply ah;rfl
  refine jJ rfl rfl rfl rfl (by kernel_rfl) (Gi (mB (aw _ _ _) hb0 hp (n:=n) (by omega)) ?_)
  rintro _ rfl
  dsimp only
  repeat apply ah;rfl
  refine cD rfl rfl rfl rfl (fun e1=>?_) (fun e1=>?_)
  ·repeat apply ah;rfl
   (apply b8 Tryz.func89 Tryz.results89;rfl)
   refine⟨?_,EN _,fun m hm=>ab _ _ (by omega)⟩
   rw [← h4,hgo,EQ (by omega)]
   rfl
  ·repeat first|apply ah;rfl|apply aC;rfl;omega;omega
   exact ih _ _ _ (n+1) ⟨rfl,by omega,by rw [← h4,hgo,EP (by omega)],rfl⟩ (by omega) (Gq (Gt rfl))
 ·obtain rfl:n=aj p:=by omega
  rw [Nat.sub_self] at h4
  have h4:aj p=a9 p:=h4
  repeat first|apply ah;rfl|apply cT;rfl;kernel_rfl;exact gQ hb0 hp
  (apply b8 Tryz.func89 Tryz.results89;rfl)
  refine⟨?_,EN _,fun m hm=>ab _ _ (by omega)⟩
  rw [← h4]
  rfl
theorem yk(hb:H.at' b=some (pgO p))(hp:vD p):Fnc Tryz.prog 89 [.ptr b 0] H nx (fun q=>q=(.sc (.int .i64 (a9 p:Int)),H,nx)):=Fnc.bW (fun _ _ _ h=>h) (Cy hb hp)
def ld(p:List UInt8):Nat:=aP p-18-4*aj p-(if a9 p=aj p then 4 else 0)
theorem Dv(hb:H.at' b=some (pgO p))(hp:vD p):Fnc Tryz.prog 88 [.ptr b 0] H nx (fun q=>q=(.sc (.int .i64 (ld p:Int)),H,nx)):=by
 have hp0:=hp
 obtain⟨hp,hp1,hp2⟩:=hp
 have hs:aj p<65536:=jQ p 14
 have he:=rA p
 refine Gj Tryz.func88 rfl rfl ?_
 repeat first|apply ah;rfl|apply aC;rfl;omega;omega|apply cT;rfl;kernel_rfl;exact gQ hb hp|apply cT;rfl;kernel_rfl;exact qa hb hp|apply cT;rfl;kernel_rfl;exact yk hb hp0
 refine cD rfl rfl rfl rfl (fun e1=>?_) (fun e1=>?_)
 ·repeat first|apply ah;rfl|apply aC;rfl;omega;omega|apply AJ (c:=(ld p:Int));rfl;rfl;rfl;rfl;(focus(unfold ld;rw [EQ (by omega)];omega))
  (apply b8 Tryz.func88 Tryz.results88;rfl)
  rfl
 ·repeat first|apply ah;rfl|apply AJ (c:=(ld p:Int));rfl;rfl;rfl;rfl;(focus(unfold ld;rw [EP (by omega)];omega))
  (apply b8 Tryz.func88 Tryz.results88;rfl)
  rfl
theorem ki(h:o+l.length≤p.length)(i:Nat):(eK p o l)[i]? =if o≤i∧i<o+l.length then l[i-o]? else p[i]? :=by
 have ho:(p.take o).length=o:=by rw [ET];omega
 unfold eK
 rcases ES i o with h1|h1
 ·rw [EP (by omega),E0,EB (by omega),List.getElem?_take_of_lt h1]
 ·rcases ES i (o+l.length)with h2|h2
  ·rw [EQ ⟨h1,h2⟩,EB (by rw [EI];omega),EZ (by omega),ho]
  ·rw [EP (by omega),EZ (by rw [EI];omega),EI,ho,List.getElem?_drop]
   congr 1
   omega
theorem iI{q:List UInt8}(h: ∀ i,o≤i→i<o+2→p[i]? =q[i]?):gK p o=gK q o:=by
 unfold gK
 congr 1
 refine Ga fun i=>?_
 rcases ES i 2 with hi|hi
 ·rw [List.getElem?_take_of_lt hi,List.getElem?_take_of_lt hi,List.getElem?_drop,List.getElem?_drop]
  exact h _ (by omega) (by omega)
 ·rw [Gd (by rw [ET];omega),Gd (by rw [ET];omega)]
theorem pE{o':Nat}(h:o+l.length≤p.length)(h2:o'+2≤o∨o+l.length≤o'):gK (eK p o l) o'=gK p o':=
 iI fun i h3 h4=>by rw [ki h,EP (by omega)]
theorem cH{o':Nat}(h:o+2≤p.length)(h2:o'+2≤o∨o+2≤o'):gK (e9 p o n) o'=gK p o':=
 pE (by rw [ee];exact h) (by rw [ee];exact h2)
theorem CI(h:n<65536):beN (beB n 2)=n:=by
 show 256*(256*0+(UInt8.ofNat (n / 256 ^ 1)).toNat)+(UInt8.ofNat (n / 256 ^ 0)).toNat=n
 have t: ∀ k,(UInt8.ofNat k).toNat=k % 256:=fun k=>by simp
 rw [t,t]
 omega
theorem eL(h:o+2≤p.length)(hn:n<65536):gK (e9 p o n) o=n:=by
 have:((e9 p o n).drop o).take 2=beB n 2:=by
  unfold e9 eK
  rw [E0,List.drop_left' (by rw [ET];omega),List.take_left' (ee n 2)]
 unfold gK
 rw [this,CI hn]
theorem fY:lU Tryz.prog 48 []=some (.agg (pgS zeroP)):=by kernel_rfl
def gm(p:List UInt8):List UInt8:=if a9 p=aj p then e9 p 14 (a9 p+1) else p
def nW(p it:List UInt8):List UInt8:=eK (e9 (bR (gm p) (a9 p) (aP (gm p)-it.length) it.length) 16 (aP (gm p)-it.length)) (aP (gm p)-it.length) it
def fe(p it:List UInt8):List UInt8×Nat×Nat:=
 if ct p=false then(zeroP,0,4) else if ¬ (1≤it.length∧it.length≤1000) then(zeroP,0,2) else if ld p<it.length then(zeroP,0,5) else(nW p it,a9 p,0)
abbrev insS(r:List UInt8×Nat×Nat):SV:= .tup [.agg (pgS r.1),.sc (.int .i64 (r.2.1:Int)),.sc (.int .i64 (r.2.2:Int))]
theorem z9{it:List UInt8}(hp:p.length=1024)(hB:BsIs H s (byV it))(hit:it.length≤4611686018427387904):Fnc Tryz.prog 56 [.agg (pgS p),s] H nx (fun q=>q.1=insS (fe p it)∧nx≤q.2.2∧ ∀ m,m<nx→q.2.1.at' m=H.at' m):=by
 have hlen:(byV it).length=it.length:=by simp
 refine Gj Tryz.func56 rfl rfl ?_
 refine bh fun hund=>?_
 repeat first|apply ah;rfl|refine er (aW dK) rfl rfl rfl ?_
 have hb1:((H.set nx (pgO p)).set (nx+1) (pgO zeroP)).at' nx=some (pgO p):=by repeat(first|exact ae|refine aa (by omega) ?_)
 have hz1:((H.set nx (pgO p)).set (nx+1) (pgO zeroP)).at' (nx+1)=some (pgO zeroP):=by repeat(exact ae)
 have ho1: ∀ m,m<nx→((H.set nx (pgO p)).set (nx+1) (pgO zeroP)).at' m=H.at' m:=fun m hm=>by(repeat(refine aa (by omega) ?_));rfl
 have hB2: ∀ H':ay,(∀ m,m<nx→H'.at' m=H.at' m)→BsIs H' s (byV it):=fun H' h=>hB.frame fun b vo hb=>(h b (hund b vo hb)).trans hb
 have hB1:=hB2 _ ho1
 generalize (H.set nx (pgO p)).set (nx+1) (pgO zeroP)=H1 at hb1 hz1 ho1 hB1 ⊢
 cases hr:ct p with
 | false=>
   have hv:fe p it=(zeroP,0,4):=by unfold fe;rw [EQ hr]
   have hrs:=fun nx=>jL (nx:=nx) hb1 hp
   rw [hr] at hrs
   repeat first|apply ah;rfl|apply aM;rfl;assumption;rfl|apply cT;rfl;kernel_rfl;exact hrs _|refine cx rfl rfl fY ?_
   rw [jC _ _ ac ac]
   ((apply bw Tryz.func56 (congrArg Array.toList Tryz.results56));(focus((apply Gl rfl (Gn (F.ag _ rfl) (by repeat(exact ae)) (bH ac)));(repeat(first|exact Gk|apply Gm rfl)))))
   exact⟨by rw [hv];rfl,by dsimp only;omega,fun m hm=>(ab _ _ (by omega)).trans (ho1 m hm)⟩
 | true=>
   have hf:=eW hp hr
   have hrs:=fun nx=>jL (nx:=nx) hb1 hp
   rw [hr] at hrs
   have hmi:=fun(H:ay) nx=>xE (H:=H) (nx:=nx) (n:=it.length)
   have hlB:=hlen
   by_cases hm:1≤it.length∧it.length≤1000
   ·have hmt:decide (1≤it.length∧it.length≤1000)=true:=E8 hm
    rw [hmt] at hmi
    repeat first|apply a6;rfl|apply cT;rfl;kernel_rfl;exact hrs _|refine bO (iD (F.un _ rfl) rfl hB1) rfl rfl rfl ?_;rw [hlen]|apply cT;rfl;kernel_rfl;exact hmi _ _|apply cT;rfl;kernel_rfl;exact Dv hb1 hf
    refine dI rfl rfl rfl rfl (fun h1=>?_) (fun h1=>?_)
    ·have hv:fe p it=(zeroP,0,5):=by unfold fe;rw [EP (by rw [hr];decide),EP (fun hq=>hq hm),EQ (by omega)]
     repeat first|apply ah;rfl|apply aM;rfl;assumption;rfl|refine cx rfl rfl fY ?_
     rw [jC _ _ ac ac]
     ((apply bw Tryz.func56 (congrArg Array.toList Tryz.results56));(focus((apply Gl rfl (Gn (F.ag _ rfl) (by repeat(exact ae)) (bH ac)));(repeat(first|exact Gk|apply Gm rfl)))))
     exact⟨by rw [hv];rfl,by dsimp only;omega,fun m hm=>(ab _ _ (by omega)).trans (ho1 m hm)⟩
    ·have hv:fe p it=(nW p it,a9 p,0):=by unfold fe;rw [EP (by rw [hr];decide),EP (fun hq=>hq hm),EP (by omega)]
     have hel:=rA p
     have hf1:=hf.2.1
     have hf2:=hf.2.2
     have hro:it.length+18+4*aj p+(if a9 p=aj p then 4 else 0)≤aP p:=by
      have:ld p=aP p-18-4*aj p-(if a9 p=aj p then 4 else 0):=rfl
      omega
     repeat first|apply ah;rfl|apply cT;rfl;kernel_rfl;exact yk hb1 hf|apply cT;rfl;kernel_rfl;exact gQ hb1 hp
     refine cD rfl rfl rfl rfl (fun e1=>?_) (fun e1=>?_)
     ·have en:a9 p=aj p:=by omega
      rw [EQ en] at hro
      have hmo:e9 p 14 (a9 p+1)=gm p:=by unfold gm;rw [EQ en]
      repeat first|apply ah;rfl|apply aC;rfl;omega;omega
      rw [show((a9 p:Nat):Int)+1=((a9 p+1:Nat):Int) by omega]
      refine aZ rfl rfl rfl (by kernel_rfl) (Gi (nR hb1 hp (o:=14) (n:=a9 p+1) (by decide) (by omega)) ?_)
      rintro⟨_,H2,n2⟩ ⟨rfl,hb2,hn2,g4⟩
      dsimp only at hb2 hn2 g4 ⊢
      have hp1:(e9 p 14 (a9 p+1)).length=1024:=by rw [ce (by omega)];exact hp
      have hbe:aP (e9 p 14 (a9 p+1))=aP p:=cH (by omega) (by omega)
      have k2: ∀ m,m<nx→H2.at' m=H.at' m:=fun m hm=>(g4 m (by omega) (by omega)).trans (ho1 m hm)
      have hz2:H2.at' (nx+1)=some (pgO zeroP):=(g4 _ (by omega) (by omega)).trans hz1
      generalize e9 p 14 (a9 p+1)=p1 at hmo hb2 hp1 hbe
      repeat first|apply ah;rfl|apply a6;rfl|apply aC;rfl;omega;omega|apply cT;rfl;kernel_rfl;exact qa hb2 hp1|(refine bO (iD (F.un _ rfl) rfl (hB2 _ k2)) rfl rfl rfl ?_);rw [hlen]
      rw [show((aP p1:Nat):Int)-(it.length:Int)=((aP p1-it.length:Nat):Int) by omega]
      refine aZ rfl rfl rfl (by kernel_rfl) (Gi (pt hb2 hp1 (n:=a9 p) (a:=aP p1-it.length) (s:=it.length) (by omega) (by omega) (by omega)) ?_)
      rintro⟨_,H3,n3⟩ ⟨rfl,q2,q3,q4⟩
      dsimp only at q2 q3 q4 ⊢
      have hp2:(bR p1 (a9 p) (aP p1-it.length) it.length).length=1024:=by rw [fG (by omega)];exact hp1
      repeat apply ah;rfl
      refine aZ rfl rfl rfl (by kernel_rfl) (Gi (nR q2 hp2 (o:=16) (n:=aP p1-it.length) (by decide) (by omega)) ?_)
      rintro⟨_,H4,n4⟩ ⟨rfl,r2,r3,r4⟩
      dsimp only at r2 r3 r4 ⊢
      have hp3:(e9 (bR p1 (a9 p) (aP p1-it.length) it.length) 16 (aP p1-it.length)).length=1024:=by rw [ce (by omega)];exact hp2
      have k4: ∀ m,m<nx→H4.at' m=H.at' m:=fun m hm=>(r4 m (by omega) (by omega)).trans ((q4 m (by omega) (by omega)).trans (k2 m hm))
      have hz4:H4.at' (nx+1)=some (pgO zeroP):=(r4 _ (by omega) (by omega)).trans ((q4 _ (by omega) (by omega)).trans hz2)
      repeat first|apply ah;rfl|apply oe (lw:=aP p1-it.length) (hg:=1024) (m:=1024-(aP p1-it.length));rfl;rfl;rfl;exact(F.un _ rfl);exact(F.sz _ rfl);rfl;rfl;(focus(omega));(focus(omega));(focus(omega));rfl;rfl;exact(ER _)
      refine pc rfl rfl rfl rfl (F.un _ rfl) (F.sz _ rfl) r2 (hB2 _ k4) (by omega) (by rw [bi hp3];omega) ?_
      rw [mU rfl]
      have hlay:eK (e9 (bR p1 (a9 p) (aP p1-it.length) it.length) 16 (aP p1-it.length)) (aP p1-it.length) it=nW p it:=by rw [hmo];rfl
      have hp4:(nW p it).length=1024:=by rw [← hlay,eJ (by omega)];exact hp3
      rw [hlay]
      clear hlay
      generalize nW p it=pL at hv hp4 ⊢
      repeat first|apply da hp4;rfl;(focus((repeat(exact ae));done))|apply cG hp4 ac;rfl;(focus((repeat(first|assumption|refine aa (by omega) ?_));done))|apply ah;rfl
      ((apply bw Tryz.func56 (congrArg Array.toList Tryz.results56));(focus((apply Gl rfl (Gn (F.ag _ rfl) (by repeat(exact ae)) (bH hp4)));(repeat(first|exact Gk|apply Gm rfl)))))
      exact⟨by rw [hv];rfl,EM (EM (EN _) (EN _)) (EM hn2 (EM q3 r3)),fun m hm=>(ab _ _ (by omega)).trans ((ab _ _ (by omega)).trans (k4 m hm))⟩
     ·have en: ¬ a9 p=aj p:=by omega
      rw [EP en] at hro
      obtain⟨p1,hmo,hb2,hp1,hbe⟩: ∃ p1,p1=gm p∧H1.at' nx=some (pgO p1)∧p1.length=1024∧aP p1=aP p:=⟨p,by unfold gm;rw [EP en],hb1,hp,rfl⟩
      have hz2:=hz1
      have k2:=ho1
      have hn2:nx+1+1≤nx+1+1:=EE _
      repeat first|apply ah;rfl|apply a6;rfl|apply aC;rfl;omega;omega|apply cT;rfl;kernel_rfl;exact qa hb2 hp1|(refine bO (iD (F.un _ rfl) rfl (hB2 _ k2)) rfl rfl rfl ?_);rw [hlen]
      rw [show((aP p1:Nat):Int)-(it.length:Int)=((aP p1-it.length:Nat):Int) by omega]
      refine aZ rfl rfl rfl (by kernel_rfl) (Gi (pt hb2 hp1 (n:=a9 p) (a:=aP p1-it.length) (s:=it.length) (by omega) (by omega) (by omega)) ?_)
      rintro⟨_,H3,n3⟩ ⟨rfl,q2,q3,q4⟩
      dsimp only at q2 q3 q4 ⊢
      have hp2:(bR p1 (a9 p) (aP p1-it.length) it.length).length=1024:=by rw [fG (by omega)];exact hp1
      repeat apply ah;rfl
      refine aZ rfl rfl rfl (by kernel_rfl) (Gi (nR q2 hp2 (o:=16) (n:=aP p1-it.length) (by decide) (by omega)) ?_)
      rintro⟨_,H4,n4⟩ ⟨rfl,r2,r3,r4⟩
      dsimp only at r2 r3 r4 ⊢
      have hp3:(e9 (bR p1 (a9 p) (aP p1-it.length) it.length) 16 (aP p1-it.length)).length=1024:=by rw [ce (by omega)];exact hp2
      have k4: ∀ m,m<nx→H4.at' m=H.at' m:=fun m hm=>(r4 m (by omega) (by omega)).trans ((q4 m (by omega) (by omega)).trans (k2 m hm))
      have hz4:H4.at' (nx+1)=some (pgO zeroP):=(r4 _ (by omega) (by omega)).trans ((q4 _ (by omega) (by omega)).trans hz2)
      repeat first|apply ah;rfl|apply oe (lw:=aP p1-it.length) (hg:=1024) (m:=1024-(aP p1-it.length));rfl;rfl;rfl;exact(F.un _ rfl);exact(F.sz _ rfl);rfl;rfl;(focus(omega));(focus(omega));(focus(omega));rfl;rfl;exact(ER _)
      refine pc rfl rfl rfl rfl (F.un _ rfl) (F.sz _ rfl) r2 (hB2 _ k4) (by omega) (by rw [bi hp3];omega) ?_
      rw [mU rfl]
      have hlay:eK (e9 (bR p1 (a9 p) (aP p1-it.length) it.length) 16 (aP p1-it.length)) (aP p1-it.length) it=nW p it:=by rw [hmo];rfl
      have hp4:(nW p it).length=1024:=by rw [← hlay,eJ (by omega)];exact hp3
      rw [hlay]
      clear hlay
      generalize nW p it=pL at hv hp4 ⊢
      repeat first|apply da hp4;rfl;(focus((repeat(exact ae));done))|apply cG hp4 ac;rfl;(focus((repeat(first|assumption|refine aa (by omega) ?_));done))|apply ah;rfl
      ((apply bw Tryz.func56 (congrArg Array.toList Tryz.results56));(focus((apply Gl rfl (Gn (F.ag _ rfl) (by repeat(exact ae)) (bH hp4)));(repeat(first|exact Gk|apply Gm rfl)))))
      exact⟨by rw [hv];rfl,EM (EM (EN _) (EN _)) (EM hn2 (EM q3 r3)),fun m hm=>(ab _ _ (by omega)).trans ((ab _ _ (by omega)).trans (k4 m hm))⟩
   ·have hmt:decide (1≤it.length∧it.length≤1000)=false:=E9 hm
    rw [hmt] at hmi
    have hv:fe p it=(zeroP,0,2):=by unfold fe;rw [EP (by rw [hr];decide),EQ hm]
    repeat first|apply ah;rfl|apply a6;rfl|apply aM;rfl;assumption;rfl|apply cT;rfl;kernel_rfl;exact hrs _|refine bO (iD (F.un _ rfl) rfl hB1) rfl rfl rfl ?_;rw [hlen]|apply cT;rfl;kernel_rfl;exact hmi _ _|refine cx rfl rfl fY ?_
    rw [jC _ _ ac ac]
    ((apply bw Tryz.func56 (congrArg Array.toList Tryz.results56));(focus((apply Gl rfl (Gn (F.ag _ rfl) (by repeat(exact ae)) (bH ac)));(repeat(first|exact Gk|apply Gm rfl)))))
    exact⟨by rw [hv];rfl,by dsimp only;omega,fun m hm=>(ab _ _ (by omega)).trans (ho1 m hm)⟩
theorem Free.Be{a b c:SV}(ha:Free a)(hb:Free b)(hc:Free c):Free (.tup [a,b,c]):=fun e e' u h=>by
 simp only [SV.conc,SV.aD] at h ⊢
 cases h1:a.conc e with
 | none=>rw [h1] at h;simp at h
 | some x=>
   cases h2:b.conc e with
   | none=>rw [h1,h2] at h;simp at h
   | some y=>
     cases h3:c.conc e with
     | none=>rw [h1,h2,h3] at h;simp at h
     | some z=>
       rw [h1,h2,h3] at h
       rw [ha e e' x h1,hb e e' y h2,hc e e' z h3]
       exact h
theorem rb(r:List UInt8×Nat×Nat):Free (insS r):=Free.Be (Free.agg _) (Free.sc _) (Free.sc _)
theorem ji{it:List UInt8}(hp:p.length=1024)(hB:BsIs H s (byV it))(hit:it.length≤4611686018427387904):Fnc Tryz.prog 56 [.agg (pgS p),s] H nx (fun q=>q=(insS (fe p it),H,nx)):=Fnc.bW (rb _) (z9 hp hB hit)
def kF(p:List UInt8)(n:Nat):Nat×Nat×Nat:=if aj p≤n then(0,0,6) else if aH p n=0 then(0,0,6) else(aY p n,aH p n,0)
abbrev DX(r:Nat×Nat×Nat):SV:= .tup [.sc (.int .i64 (r.1:Int)),.sc (.int .i64 (r.2.1:Int)),.sc (.int .i64 (r.2.2:Int))]
theorem DV(hb:H.at' b=some (pgO p))(hp:vD p):Fnc Tryz.prog 75 [.ptr b 0,.sc (.int .i64 (n:Int))] H nx (fun q=>q.1=DX (kF p n)∧nx≤q.2.2∧ ∀ m,m<nx→q.2.1.at' m=H.at' m):=by
 obtain⟨hp,hp1,hp2⟩:=hp
 refine Gj Tryz.func75 rfl rfl ?_
 refine bh fun hund=>?_
 have hlt:=hund _ _ hb
 have hb0: ∀ {vo:VO},(H.set nx vo).at' b=some (pgO p):=fun {vo}=>(ab _ _ (by omega)).trans hb
 repeat first|apply ah;rfl|apply cT;rfl;kernel_rfl;exact gQ hb hp
 refine cL rfl rfl rfl rfl (fun h1=>?_) (fun h1=>?_)
 ·repeat apply ah;rfl
  (apply b8 Tryz.func75 Tryz.results75;rfl)
  refine⟨?_,EE _,fun m hm=>rfl⟩
  unfold kF
  rw [EQ (by omega)]
  rfl
 ·repeat first|apply ah;rfl|apply cT;rfl;kernel_rfl;exact kE
  refine jJ rfl rfl rfl rfl (by kernel_rfl) (Gi (mB (aw _ _ _) hb0 hp (n:=n) (by omega)) ?_)
  rintro _ rfl
  dsimp only
  repeat apply ah;rfl
  refine cD rfl rfl rfl rfl (fun h2=>?_) (fun h2=>?_)
  ·repeat apply ah;rfl
   (apply b8 Tryz.func75 Tryz.results75;rfl)
   refine⟨?_,EN _,fun m hm=>ab _ _ (by omega)⟩
   unfold kF
   rw [EP (by omega),EQ (by omega)]
   rfl
  ·repeat apply ah;rfl
   (apply b8 Tryz.func75 Tryz.results75;rfl)
   refine⟨?_,EN _,fun m hm=>ab _ _ (by omega)⟩
   unfold kF
   rw [EP (by omega),EP (by omega)]
   rfl
theorem DU(hb:H.at' b=some (pgO p))(hp:vD p):Fnc Tryz.prog 75 [.ptr b 0,.sc (.int .i64 (n:Int))] H nx (fun q=>q=(DX (kF p n),H,nx)):=Fnc.bW (Free.Be (Free.sc _) (Free.sc _) (Free.sc _)) (DV hb hp)
abbrev pgE(r:List UInt8×Nat):SV:= .tup [.agg (pgS r.1),.sc (.int .i64 (r.2:Int))]
theorem pw(r:List UInt8×Nat):Free (pgE r):=Free.two (Free.agg _) (Free.sc _)
theorem CL(hp:p.length=1024):Fnc Tryz.prog 67 [.agg (pgS p)] H nx (fun q=>q.1 = .sc (.bool (ct p))∧nx≤q.2.2∧ ∀ m,m<nx→q.2.1.at' m=H.at' m):=by
 refine Gj Tryz.func67 rfl rfl ?_
 have hb1:(H.set nx (pgO p)).at' nx=some (pgO p):=aw _ _ _
 repeat first|apply ah;rfl|apply cT;rfl;kernel_rfl;exact jL hb1 hp
 (apply b8 Tryz.func67 Tryz.results67;rfl)
 exact⟨rfl,EN _,fun m hm=>ab _ _ (by omega)⟩
theorem yI(hp:p.length=1024):Fnc Tryz.prog 67 [.agg (pgS p)] H nx (fun q=>q=(.sc (.bool (ct p)),H,nx)):=Fnc.bW (fun _ _ _ h=>h) (CL hp)
abbrev DO(f q:Nat):SV:= .fn (.func 96) [] [.ptr f 0,.ptr q 0]
theorem sS(hp:p.length=1024):Fnc Tryz.prog 69 [.agg (pgS p)] H nx (fun q=>q=(DO (nx+1) nx,(H.set nx (pgO p)).set (nx+1) (an 4 [.sc (.bool (ct p))]),nx+1+1)):=by
 refine Gj Tryz.func69 rfl rfl ?_
 have hb1:(H.set nx (pgO p)).at' nx=some (pgO p):=aw _ _ _
 repeat first|apply ah;rfl|apply aM;rfl;(focus((repeat(exact ae));done));rfl|apply cT;rfl;kernel_rfl;exact jL hb1 hp
 (apply b8 Tryz.func69 Tryz.results69;rfl)
 refine Prod.ext rfl (Prod.ext ?_ rfl)
 funext n
 by_cases hn:n=nx+1
 ·subst hn
  exact(aw _ _ _).trans (aw _ _ _).symm
 ·exact(ab _ _ hn).trans ((ab _ _ hn).trans (ab _ _ hn).symm)
theorem xp(l:List UInt8):rZ (byV l):=fun v hv=>by obtain⟨c,_,rfl⟩:=Gc.1 hv;rfl
theorem fh(l:List UInt8):(byV l).length=l.length:=EU _
theorem LsIs.nil(H:ay):LsIs H [] []:=⟨rfl,fun j s vs h=>by simp at h⟩
theorem LsIs.cons{vs:List Value}{ls:List SV}{bs:List (List Value)}(h:BsIs H s vs)(t:LsIs H ls bs):LsIs H (s :: ls) (vs :: bs):=by
 refine⟨by simp [t.1],fun j s' vs' h1 h2=>?_⟩
 cases j with
 | zero=>
   simp only [EC,Ej] at h1 h2
   subst h1 h2
   exact h
 | succ j=>exact t.2 j s' vs' (by simpa using h1) (by simpa using h2)
theorem ol(h:H.at' r=some (u8R ro (byV l))):BsIs H (.slu r 0 l.length) (byV l):=by
 have:=BsIs.row (xp l) h rfl
 rwa [fh] at this
def ck(p:List UInt8)(j:Nat):List UInt8:=(p.drop (aY p j)).take (aH p j)
theorem gT(p:List UInt8): ∀ (k n:Nat) (seen:List (Nat×Nat)) (fine:Bool),eG p k n seen fine=true→ ∀ j,n≤j→j<n+k→(aY p j=0∧aH p j=0)∨(1≤aH p j∧aH p j≤1000∧aP p≤aY p j∧aY p j+aH p j≤1024)
 | 0,n,seen,fine,_,j,h1,h2=>absurd h1 (by omega)
 | k+1,n,seen,fine,h,j,h1,h2=>by
   unfold eG at h
   split at h
   ·rename_i h3
    rcases ES n j with h4|h4
    ·exact gT p k (n+1) _ _ h j (by omega) (by omega)
    ·obtain rfl:n=j:=by omega
     exact .inl h3
   ·split at h
    ·cases h
    ·split at h
     ·cases h
     ·rename_i h5 _
      rcases ES n j with h4|h4
      ·exact gT p k (n+1) _ _ h j (by omega) (by omega)
      ·obtain rfl:n=j:=by omega
       exact .inr (by omega)
theorem mK(h:ct p=true){j:Nat}(hj:j<aj p)(hs:aH p j≠0):1≤aH p j∧aH p j≤1000∧aP p≤aY p j∧aY p j+aH p j≤1024:=by
 unfold ct at h
 rw [ED] at h
 rcases gT p _ _ _ _ h.2 j (EF _) (by omega)with h1|h1
 ·exact absurd h1.2 hs
 ·exact h1
theorem kD(hp:p.length=1024){j:Nat}(h:aY p j+aH p j≤1024):(ck p j).length=aH p j:=by
 unfold ck
 rw [ET,EW]
 omega
theorem sR{l f q:Nat}(hp:p.length=1024)(hr:ct p=true){f2 nt2:Nat}{T2:Tr SV}{ps:Array Tmp}{ca cb:Code}{dr:Nat}(hps:ps.size=2)(I:Nat→ay→Nat→Prop)(J:ay→Nat→Prop)
 (hI: ∀ j H nx,I j H nx→H.at' l=some (.loop .ready none f2 nt2 T2 ps ca cb dr)∧H.at' f=some (an 4 [.sc (.bool true)])∧H.at' q=some (pgO p)∧l<nx∧f<nx∧q<nx)
 (hgrow: ∀ j H nx H' nx',I j H nx→nx≤nx'→(∀ m,m<nx→H'.at' m=H.at' m)→I j H' nx')
 (hskip: ∀ j H nx,I j H nx→aH p j=0→I (j+1) H nx)
 (hround: ∀ j H1 n1 r,I j H1 n1→nx≤r→r<n1→j<aj p→aH p j≠0→H1.at' r=some (u8R false (byV (ck p j))) →
   Wp Tryz.prog (some l) ⟨f2,nt2,(ps.toList.zip [.sc (.int .i64 (j:Int)),.slu r 0 (ck p j).length]).foldl (fun T x=>kY nt2 T (some x.1) x.2) T2,[.code ca,.beginRound,.code cb],[],H1,n1⟩ (fun x=>(x.1 = .sc (.bool true)∧I (j+1) x.2.1 x.2.2∧n1≤x.2.2∧x.2.1.at' nx=H1.at' nx)∨(x.1 = .sc (.bool false)∧J x.2.1 x.2.2)))
 (h0:I 0 H nx):Fnc Tryz.prog 96 [.yld l,.ptr f 0,.ptr q 0] H nx (fun r=>I (aj p) r.2.1 r.2.2∨J r.2.1 r.2.2):=by
 have hf:=eW hp hr
 obtain⟨_,hp1,hp2⟩:=hf
 have hJ0:Nat.beq ps.size 2=true:=by rw [hps];rfl
 refine Gj Tryz.func96 rfl rfl ?_
 obtain⟨i1,i2,i3,i4,i5,i6⟩:=hI _ _ _ h0
 have hg1:I 0 (H.set nx (Ae q)) (nx+1):=hgrow _ _ _ _ _ h0 (EN _) fun m hm=>ab _ _ (by omega)
 have hq1: ∀ {vo:VO},(H.set nx vo).at' q=some (pgO p):=fun {vo}=>(ab _ _ (by omega)).trans i3
 repeat first|apply ah;rfl|apply aM;rfl;assumption;rfl|apply cT;rfl;kernel_rfl;exact kE|apply cT;rfl;kernel_rfl;exact gQ hq1 hp
 refine bv (α:=Nat) (fun j=> [(0,.yld l),(2,.ptr q 0),(4,Cx nx),(11,.sc (.int .i64 (aj p:Int))),(12,.sc (.int .i64 (j:Int)))])
  (fun j H1 n1=>j≤aj p∧I j H1 n1∧nx+1≤n1∧H1.at' nx=some (Ae q)) (fun j=>aj p-j) 0
  ⟨EF _,hg1,EE _,aw _ _ _⟩ (Gq (Gt rfl)) ?_
 clear hg1 h0 hq1 i1 i2 i3
 rintro j H1 n1 ⟨h1,h2,h3,h4⟩ ih
 obtain⟨k1,k2,k3,k4,k5,k6⟩:=hI _ _ _ h2
 repeat apply ah;rfl
 refine bq rfl rfl rfl rfl (fun h5=>?_) (fun h5=>?_)
 ·repeat apply ah;rfl
  refine jJ rfl rfl rfl rfl (by kernel_rfl) (Gi (mB h4 k3 hp (n:=j) (by omega)) ?_)
  rintro _ rfl
  dsimp only
  repeat apply ah;rfl
  refine cD rfl rfl rfl rfl (fun e1=>?_) (fun e1=>?_)
  ·repeat first|apply ah;rfl|apply aC;rfl;omega;omega
   exact ih _ _ _ (j+1) ⟨by omega,hskip _ _ _ h2 (by omega),h3,h4⟩ (by omega) (Gq (Gt rfl))
  ·have hs:=mK hr (j:=j) (by omega) (by omega)
   have hil:=kD hp hs.2.2.2
   have hbl:=fh (ck p j)
   repeat first|apply ah;rfl|apply aC;rfl;omega;omega|apply oe (lw:=aY p j) (hg:=aY p j+aH p j);rfl;rfl;rfl;exact(F.un _ rfl);exact(F.sz _ rfl);rfl;rfl;(focus(omega));(focus(omega));(focus(omega));exact(show aY p j+aH p j-aY p j=aH p j by omega);rfl;exact(ER _)|refine bO (e6 rfl rfl Tryz.underlying153 rfl) rfl rfl rfl ?_|refine er (aU (F.un _ rfl) (F.sz _ rfl) (aN rfl) (F.ze _ rfl) rfl rfl rfl rfl rfl) rfl rfl rfl ?_
   refine aZ rfl rfl rfl (by kernel_rfl) (Gi (xM (bs:= [byV (ck p j)]) (ls:= [_]) (aw _ _ _) (LsIs.cons (tf ((ab _ _ (by omega)).trans k3) (by omega)) (LsIs.nil _)) (by show(byV (ck p j) ++ []).length≤_;rw [E3];omega) (Ep rfl)) ?_)
   rintro _ rfl
   dsimp only
   have hfl: [byV (ck p j)].flatten=byV (ck p j):=E3 _
   rw [hfl,fh]
   have hg:I j ((H1.set n1 (bsR false [.sl q (aY p j) (aH p j) (1024-aY p j)])).set (n1+1) (u8R false (byV (ck p j)))) (n1+1+1):=hgrow _ _ _ _ _ h2 (by omega) fun m hm=>(ab _ _ (by omega)).trans (ab _ _ (by omega))
   have hl2:=(hI _ _ _ hg).1
   refine Bv (n:=l) rfl rfl rfl rfl hl2 hJ0 ?_
   refine Wp.mono (hround j _ _ (n1+1) hg (by omega) (by omega) (by omega) (by omega) (aw _ _ _)) ?_
   rintro⟨v,H2,n2⟩ (⟨rfl,g2,g3,g4⟩|⟨rfl,g2⟩)
   ·dsimp only at g2 g3 g4 ⊢
    repeat first|apply ah;rfl|apply aC;rfl;omega;omega
    exact ih _ _ _ (j+1) ⟨by omega,g2,by omega,g4.trans ((ab _ _ (by omega)).trans ((ab _ _ (by omega)).trans h4))⟩ (by omega) (Gq (Gt rfl))
   ·dsimp only at g2 ⊢
    repeat apply ah;rfl
    (apply b8 Tryz.func96 Tryz.results96;rfl)
    exact .inr g2
 ·obtain rfl:j=aj p:=by omega
  repeat apply ah;rfl
  (apply wo Tryz.func96 Tryz.results96;rfl)
  exact .inl h2
theorem ry(e:bf):Free (gC e):=Free.agg [.string e.1,.int .i64 e.2.1,.int .i64 e.2.2]
theorem ve(l:List UInt8)(no:Int):Free (vf l no):=Free.two (ry _) (Free.sc _)
theorem sN(e:bf):Fnc Tryz.prog 12 [gC e] H nx (fun q=>q=(.sc (.bool (gz e)),H,nx)):=Ctr.callV (zT e) [] rfl (Gh rfl) rfl trivial rfl
theorem AY(a b:bf):Fnc Tryz.prog 14 [gC a,gC b] H nx (fun q=>q=(.sc (.bool (bl a b)),H,nx)):=Ctr.callV (xG a b) [] rfl (Gh rfl) rfl trivial rfl
theorem yD{eo:Nat}{w:List UInt8}(hr:H.at' r=some (u8R ro (byV w)))(he:eo+l.length=w.length)(hl:w.drop eo=l):BsIs H (.slu r eo l.length) (byV l):=
 ⟨xp l,.inr (.inl ⟨r,eo,w.length,ro,_,byV w,by rw [fh],by rw [hr];unfold u8R;rw [fh],by rw [fh];omega,by rw [fh];show((byV w).drop eo).take l.length=byV l;rw [← List.map_drop,hl];exact Ew (by simp)⟩)⟩
theorem of_u{eo:Nat}{w:List UInt8}(hr:H.at' r=some (u8R ro (byV w)))(he:eo+l.length=w.length)(hl:w.drop eo=l)(h9:l.length≤9000):Fnc Tryz.prog 10 [.slu r eo l.length] H nx (fun q=>q=(vf l 13,H,nx)):=by
 refine Fnc.bW (ve _ _) ?_
 refine Gj Tryz.func10 rfl rfl ?_
 refine bh fun hund=>?_
 have hlt:=hund _ _ hr
 repeat apply ah;rfl
 refine bq rfl rfl rfl rfl (fun h1=>?_) (fun h1=>?_)
 ·repeat first|apply ah;rfl|apply aM;rfl;(focus((repeat(exact ae));done));rfl
  ((apply bw Tryz.func10 (congrArg Array.toList Tryz.results10));(focus(repeat(first|exact Gk|apply Gm rfl|apply Gl rfl (Gn (F.ag _ rfl) (by repeat(exact ae)) (aB _ 0 rfl rfl))))))
  exact⟨(gw (xv (by omega))).symm,EN _,fun m hm=>by(repeat(refine aa (by omega) ?_));rfl⟩
 repeat apply ah;rfl
 refine dI rfl rfl rfl rfl (fun h2=>?_) (fun h2=>?_)
 ·have hno:ofL l=none:=by
   rcases l with _|⟨b0,_|⟨b1,_|⟨b2,rr⟩⟩⟩
   ·rfl
   ·rfl
   ·rfl
   ·exact AV (Ch (by simp only [EH] at h2;omega))
  repeat first|apply ah;rfl|apply aM;rfl;(focus((repeat(exact ae));done));rfl
  ((apply bw Tryz.func10 (congrArg Array.toList Tryz.results10));(focus(repeat(first|exact Gk|apply Gm rfl|apply Gl rfl (Gn (F.ag _ rfl) (by repeat(exact ae)) (aB _ 0 rfl rfl))))))
  exact⟨(gw hno).symm,EN _,fun m hm=>by(repeat(refine aa (by omega) ?_));rfl⟩
 rcases l with _|⟨b0,_|⟨b1,_|⟨b2,rr⟩⟩⟩
 ·simp at h1
 ·simp at h1
 ·simp at h1
 have hll:(b0 :: b1 :: b2 :: rr).length=rr.length+3:=rfl
 rw [hll] at he h1 h2 ⊢
 have hr1: ∀ vo,(H.set nx vo).at' r=some (u8R ro (byV w)):=fun vo=>(ab _ _ (by omega)).trans hr
 have hwl:(byV w).length=rr.length+3+eo:=by rw [fh];omega
 have hw0:w[eo]? =some b0:=by rw [← Nat.add_zero eo,←List.getElem?_drop,hl];rfl
 have hw1:w[eo+1]? =some b1:=by rw [← List.getElem?_drop,hl];rfl
 have hv0:(byV w)[eo]? =some (.int .u8 (b0.toNat:Int)):=by rw [E6,hw0];rfl
 have hv1:(byV w)[eo+1]? =some (.int .u8 (b1.toNat:Int)):=by rw [E6,hw1];rfl
 have hd2:w.drop (eo+2)=b2 :: rr:=by rw [← List.drop_drop,hl];rfl
 have hbs: ∀ vo,BsIs (H.set nx vo) (.slu r (eo+2) (rr.length+3-2)) (u8L ⟨(b2 :: rr).toArray⟩):=fun vo=>by
  have:=yD (l:=b2 :: rr) (eo:=eo+2) (hr1 vo) (by simp only [EH];omega) hd2
  exact this
 repeat apply ah;rfl
 (apply bU;(focus(kernel_rfl));(focus(kernel_rfl)))
 repeat first|apply cd;rfl;rfl;exact(fun _ h=>by cases h);exact(f9 (F.un _ rfl) (F.sz _ rfl) rfl rfl (hr1 _) (by omega) (by omega) (by omega))|apply rB (v:= .int .u8 (b0.toNat:Int));rfl;rfl;rfl;exact(F.ag _ rfl);exact(hr1 _);(focus(rw [show(eo+(0:Int).toNat)*1=eo by simp];exact hv0));(focus(rw [hwl];simp))|apply rB (v:= .int .u8 (b1.toNat:Int));rfl;rfl;rfl;exact(F.ag _ rfl);exact(hr1 _);(focus(rw [show(eo+(1:Int).toNat)*1=eo+1 by simp];exact hv1));(focus(rw [hwl];simp;omega))|refine ba (cK (F.un _ rfl) (F.un _ rfl) rfl (ww _)) rfl rfl rfl ?_|apply cd;rfl;rfl;exact(fun _ h=>by cases h);exact(pp (l:=2) (h:=rr.length+3) (F.un _ rfl) (F.sz _ rfl) rfl (hr1 _) rfl rfl (by omega) (by omega) (by omega))|refine ba (tF (F.un _ rfl) (F.un _ rfl) (F.un _ rfl) rfl (hbs _)) rfl rfl rfl ?_|apply az;rfl|refine vI (aW (F.zl _ rfl)) rfl rfl rfl ?_|refine c8 (gU (F.sz _ rfl) rfl rfl rfl (by repeat(exact ae)) (by rfl) (by exact Ep rfl) (by rfl)) rfl rfl ?_
 have hbsG: ∀ H':ay,H'.at' r=H.at' r→BsIs H' (.slu r (eo+2) (rr.length+3-2)) (u8L ⟨(b2 :: rr).toArray⟩):=fun H' h=>yD (l:=b2 :: rr) (eo:=eo+2) (h.trans hr) (by simp only [EH];omega) hd2
 refine au ⟨by kernel_rfl,?_,?_⟩;(focus(repeat(first|exact Gu|apply mn;rfl|apply jk;rfl;kernel_rfl|refine js 0 rfl (by kernel_rfl) (by(repeat(refine⟨(by first|exact pp (l:=2) (h:=rr.length+3) (F.un _ rfl) (F.sz _ rfl) rfl (by(repeat(refine aa (by omega) ?_));exact hr) rfl rfl (by omega) (by omega) (by omega)|exact tF (F.un _ rfl) (F.un _ rfl) (F.un _ rfl) rfl (hbsG _ (by(repeat(refine aa (by omega) ?_));rfl))|exact f9 (F.un _ rfl) (F.sz _ rfl) rfl rfl (by(repeat(refine aa (by omega) ?_));exact hr) (by omega) (by omega) (by omega)|exact aK (v:= .sc (.int .u8 (b0.toNat:Int))) (F.ag _ rfl) rfl (by(repeat(refine aa (by omega) ?_));exact hr) (jo (by rw [hwl];simp) (by first|exact hv0|(rw [show(eo+(0:Int).toNat)*1=eo by simp];exact hv0)))|exact aK (v:= .sc (.int .u8 (b1.toNat:Int))) (F.ag _ rfl) rfl (by(repeat(refine aa (by omega) ?_));exact hr) (jo (by rw [hwl];simp;omega) (by(rw [show(eo+(1:Int).toNat)*1=eo+1 by simp];exact hv1)))|exact cK (F.un _ rfl) (F.un _ rfl) rfl (ww _)),?_⟩));exact Gu) ?_)))
 cases hm2:gz (yP b0 b1 b2 rr)with
 | false=>
   repeat first|apply ah;rfl|apply aM;rfl;(focus((repeat(first|exact ae|refine aa (by omega) ?_));done));rfl|refine aZ rfl rfl rfl (by kernel_rfl) (Gi (sN (yP b0 b1 b2 rr)) ?_);rintro _ rfl;dsimp only;rw [hm2]
   ((apply bw Tryz.func10 (congrArg Array.toList Tryz.results10));(focus(repeat(first|exact Gk|apply Gm rfl|apply Gl rfl (Gn (F.ag _ rfl) (by repeat(exact ae)) (aB _ 0 rfl rfl))))))
   exact⟨(gw (AV hm2)).symm,by dsimp only;omega,fun m hm=>by(repeat(refine aa (by omega) ?_));rfl⟩
 | true=>
   repeat first|apply ah;rfl|apply aM;rfl;(focus((repeat(first|exact ae|refine aa (by omega) ?_));done));rfl|refine aZ rfl rfl rfl (by kernel_rfl) (Gi (sN (yP b0 b1 b2 rr)) ?_);rintro _ rfl;dsimp only;rw [hm2]
   ((apply bw Tryz.func10 (congrArg Array.toList Tryz.results10));(focus(repeat(first|exact Gk|apply Gm rfl|apply Gl rfl (Gn (F.ag _ rfl) (by repeat(exact ae)) (aB _ 0 rfl rfl))))))
   exact⟨(ln (xt hm2)).symm,by dsimp only;omega,fun m hm=>by(repeat(refine aa (by omega) ?_));rfl⟩
def eE(a b:bf):Bool:=decide (a=b)
theorem uTd:Tryz.prog.underlying 23=some (.struct (Tryz.prog.fieldsOf 23)):=by kernel_rfl
theorem uEn:Tryz.prog.underlying 25=some (.struct (Tryz.prog.fieldsOf 25)):=by kernel_rfl
def fdsTd:List (Bool×TypeId×Nat):= [(true,3,0),(true,3,1)]
def fdsEn:List (Bool×TypeId×Nat):= [(true,9,0),(true,23,1)]
theorem fTd:(Tryz.prog.fieldsOf 23).toList.map (fun f=>(f.name != "_",f.type,f.offset))=fdsTd:=by kernel_rfl
theorem fEn:(Tryz.prog.fieldsOf 25).toList.map (fun f=>(f.name != "_",f.type,f.offset))=fdsEn:=by kernel_rfl
theorem fE{l:List Field}{a b:TypeId}{p:Nat}(h:l.map (fun f=>(f.name != "_",f.type,f.offset))= [(true,a,o),(true,b,p)]): ∃ f g:Field,l= [f,g]∧f.name ≠ "_" ∧f.type=a∧f.offset=o∧g.name ≠ "_" ∧g.type=b∧g.offset=p:=by
 have hl:l.length=2:=by simpa using congrArg List.length h
 rcases l with _|⟨f,_|⟨g,_|⟨x,l⟩⟩⟩
 ·simp at hl
 ·simp at hl
 ·simp only [EG,List.map_nil,List.cons.injEq,Et,and_true,bne_iff_ne] at h
  exact⟨f,g,rfl,h.1.1,h.1.2.1,h.1.2.2,h.2.1,h.2.2.1,h.2.2.2⟩
 ·simp at hl
theorem ke{P:Program}{t:TypeId}{cs:Array Value}{off:Nat}{v:Value}{k:IntKind}(hu:P.underlying t=some (.int k))(hv:cs[off]? =some v)(w:World):(part t cs off).run P w = .ok v w:=by
 simp [part,isAgg,run_underlying hu,hv]
theorem qw{P:Program}{t:TypeId}{cs:Array Value}{off:Nat}{v:Value}(hu:P.underlying t=some .string)(hv:cs[off]? =some v)(w:World):(part t cs off).run P w = .ok v w:=by
 simp [part,isAgg,run_underlying hu,hv]
theorem wK(s x y:Value)(w:World):(part 23 #[s,x,y] 1).run Tryz.prog w = .ok (.agg #[x,y]) w:=by
 obtain⟨i,hi⟩: ∃ i,Tryz.prog.info? 23=some i:=by
  have:(Tryz.prog.info? 23).isSome=true:=by kernel_rfl
  exact Option.isSome_iff_exists.1 this
 have hc:Tryz.prog.cellsOf 23=2:=by kernel_rfl
 simp [part,isAgg,run_underlying uTd,run_sizeOf w hi,hc]
theorem tD(d:Nat)(a b:Int×Int)(w:World):(Op.equalIn (d+2) 23 (.agg #[.int .i64 a.1,.int .i64 a.2]) (.agg #[.int .i64 b.1,.int .i64 b.2])).run Tryz.prog w = .ok (decide (a=b)) w:=by
 obtain⟨f,g,hl,f1,f2,f3,g1,g2,g3⟩:=fE fTd
 have hu:Tryz.prog.underlying 3=some (.int .i64):=by kernel_rfl
 have he: ∀ (a b:Int) (w:World),(Op.equalIn (d+1) 3 (.int .i64 a) (.int .i64 b)).run Tryz.prog w = .ok (a == b) w:=fun a b w=>run_equalIn_int w d _ .i64 .i64 a b hu
 rw [show d+2=(d+1)+1 from rfl,run_equalIn_struct w (d+1) _ _ _ uTd (by kernel_rfl),hl]
 simp only [Op.eqFields,EQ f1,EQ g1,f2,f3,g2,g3,Sem.run_bind,ke hu (cs:= #[.int .i64 a.1,.int .i64 a.2]) (off:=0) (v:= .int .i64 a.1) rfl,ke hu (cs:= #[.int .i64 b.1,.int .i64 b.2]) (off:=0) (v:= .int .i64 b.1) rfl,Result.andThen_ok]
 rw [he]
 simp only [Result.andThen_ok]
 obtain⟨a1,a2⟩:=a
 obtain⟨b1,b2⟩:=b
 simp only
 by_cases h1:a1=b1
 ·rw [show(a1 == b1)=true by simpa using h1]
  simp only [Bool.not_true,Bool.false_eq_true,if_false,Sem.run_bind,ke hu (cs:= #[.int .i64 a1,.int .i64 a2]) (off:=1) (v:= .int .i64 a2) rfl,ke hu (cs:= #[.int .i64 b1,.int .i64 b2]) (off:=1) (v:= .int .i64 b2) rfl,Result.andThen_ok]
  rw [he]
  simp only [Result.andThen_ok]
  by_cases h2:a2=b2
  ·rw [show(a2 == b2)=true by simpa using h2]
   simp [h1,h2]
  ·rw [show(a2 == b2)=false by simpa using h2]
   simp [h1,h2]
 ·rw [show(a1 == b1)=false by simpa using h1]
  simp [h1]
theorem tE(a b:bf)(w:World):(Op.equalIn 10000 25 (.agg #[.string a.1,.int .i64 a.2.1,.int .i64 a.2.2]) (.agg #[.string b.1,.int .i64 b.2.1,.int .i64 b.2.2])).run Tryz.prog w = .ok (eE a b) w:=by
 obtain⟨f,g,hl,f1,f2,f3,g1,g2,g3⟩:=fE fEn
 have hu:Tryz.prog.underlying 9=some .string:=by kernel_rfl
 rw [show(10000:Nat)=9999+1 from rfl,run_equalIn_struct w 9999 _ _ _ uEn (by kernel_rfl),hl]
 simp only [Op.eqFields,EQ f1,EQ g1,f2,f3,g2,g3,Sem.run_bind,qw hu (cs:= #[.string a.1,.int .i64 a.2.1,.int .i64 a.2.2]) (off:=0) (v:= .string a.1) rfl,qw hu (cs:= #[.string b.1,.int .i64 b.2.1,.int .i64 b.2.2]) (off:=0) (v:= .string b.1) rfl,Result.andThen_ok]
 rw [show(9999:Nat)=9998+1 from rfl,run_equalIn_string (w:=w) 9998 _ _ _ hu,rQ]
 simp only [Result.andThen_ok]
 obtain⟨a1,a2⟩:=a
 obtain⟨b1,b2⟩:=b
 simp only
 by_cases h1:a1=b1
 ·rw [E8 h1]
  simp only [Bool.not_true,Bool.false_eq_true,if_false,Sem.run_bind,wK,Result.andThen_ok]
  rw [show(9998+1:Nat)=9997+2 from rfl,tD 9997 a2 b2]
  simp only [Result.andThen_ok]
  by_cases h2:a2=b2 <;> simp [h1,h2,eE]
 ·rw [E9 h1]
  simp [h1,eE]
end
section
variable {H:ay} {T:Tr SV} {nx:Nat}
variable {d:Option Tmp} {ty:TypeId} {pos:String} {af:Array Edge} {gd:Option (Nat×Bool)}
theorem pX{e:Env}{a:bf}{v:Value}(h:(gC a).conc e=some v):v = .agg #[.string a.1,.int .i64 a.2.1,.int .i64 a.2.2]:=by
 simpa [gC,SV.conc,SV.aD] using h.symm
theorem md{x y:Operand}{yt:TypeId}{a b:bf}{r:Bool}(hr:eE a b=r)(hx:aq T x=some (gC a))(hy:aq T y=some (gC b)):ReadDoes Tryz.prog T H ⟨d,.binOp .eql 25 x y yt,ty,pos,af,gd⟩ (.sc (.bool r)):=by
 subst hr
 intro K w0 e nx w ev hS hE
 refine⟨_,rfl,?_⟩
 have e1:=pX (hE x _ hx)
 have e2:=pX (hE y _ hy)
 simp [execOp,e1,e2,run_eqGuard_agg (P:=Tryz.prog) w .eql 25 x y _ _ (by kernel_rfl),run_eql_struct,tE]
theorem iY{x y:Operand}{yt:TypeId}{a b:bf}{r:Bool}(hr:eE a b=r)(hx:aq T x=some (gC a))(hy:aq T y=some (gC b)):ReadDoes Tryz.prog T H ⟨d,.binOp .neq 25 x y yt,ty,pos,af,gd⟩ (.sc (.bool (!r))):=by
 subst hr
 intro K w0 e nx w ev hS hE
 refine⟨_,rfl,?_⟩
 have e1:=pX (hE x _ hx)
 have e2:=pX (hE y _ hy)
 simp [execOp,e1,e2,run_eqGuard_agg (P:=Tryz.prog) w .neq 25 x y _ _ (by kernel_rfl),run_neq_struct,tE]
end
section
variable {ro:Option Nat} {fn nt nx i:Nat} {T:Tr SV} {k:List AIt} {dfs:List ADf} {H:ay} {Q:Pst} {ops:Array Oper} {l:List Oper} {ty:TypeId} {pos:String} {af:Array Edge} {gd:Option (Nat×Bool)}
theorem wr{x y:Operand}{yt:TypeId}{a b:bf}{r:Bool}{dd:Nat}(hw:aE T ops ⟨some dd,.binOp .eql 25 x y yt,ty,pos,af,gd⟩=some true)(hd:Nat.blt dd nt=true)(hr:eE a b=r)(hx:aq T x=some (gC a))(hy:aq T y=some (gC b))
 (h:Wp Tryz.prog ro ⟨fn,nt,T.set dd (.sc (.bool r)),.inReg ops (i+1) l :: k,dfs,H,nx⟩ Q):Wp Tryz.prog ro ⟨fn,nt,T,.inReg ops i (⟨some dd,.binOp .eql 25 x y yt,ty,pos,af,gd⟩ :: l) :: k,dfs,H,nx⟩ Q:=
 dn hw (.inr (fun _ h=>by cases h)) ((md hr hx hy).does) (by rw [aI hd];exact h)
end
end Go.Proofs.YtelnglhodnoclaaGreat
end
section
namespace Go.Proofs.YtelnglhodnoclaaGreat
namespace Bn
open Go Go.Sy
abbrev El:=Int×bf
abbrev elV(x:El):List Value:= [.int .i64 x.1,.string x.2.1,.int .i64 x.2.2.1,.int .i64 x.2.2.2]
abbrev elS(x:El):SV:= .agg ((elV x).map .sc)
abbrev rowP(n:Nat)(d:Array El):VO:=arr false n 4 100 elV d
theorem recP:RecOf elV 4:=⟨fun _=>rfl,fun a v hv=>by
 simp only [elV,E4,List.not_mem_nil,or_false] at hv
 rcases hv with rfl|rfl|rfl|rfl <;> rfl⟩
def ordP(y x:El):Int:=zL x.2 y.2
def ltP(x y:El):Bool:=decide (ordP y x<0)
abbrev cmpF:SV:= .fn (.func 70) [] []
theorem ar{A:Type} [Inhabited A](d:Array A)(i j:Nat):(Sort.swp d i j).size=d.size:=by simp [Sort.swp]
theorem cmp_spec(a b:El):Ctr Tryz.prog 70 [elS a,elS b] [] (fun c=>c=⟨.sc (.int .i64 (ordP b a)),[]⟩):=by
 refine Ctr.at 0 rfl ?_
 refine Gj Tryz.func70 rfl rfl ?_
 repeat first|apply ah;rfl|refine cN rfl rfl rfl (F.ag _ rfl) rfl (aB 3 1 rfl rfl) ?_|refine ey (lm a.2 b.2) [] rfl rfl rfl (by kernel_rfl) rfl (Gh rfl) rfl trivial ?_
 (apply b8 Tryz.func70 Tryz.results70;rfl)
 (refine⟨_,rfl,Ends.val (Gh rfl) rfl ?_ ?_⟩)
 ·rfl
 ·trivial
theorem pN(n a b:Nat)(d:Array El)(hn:n<4611686018427387904)(hd:d.size=n)(hab:a≤b)(hb:b≤n) :
 Ctr Tryz.prog 107 [.slu 0 0 n,.sc (.int .i64 (a:Int)),.sc (.int .i64 (b:Int)),cmpF] [rowP n d] (fun c=>c=⟨.tup [],[some (rowP n (Sort.insertionSort ltP d a b))]⟩):=by
 refine Gj Tryz.func107 rfl rfl ?_
 repeat first|apply ah;rfl|apply aC;rfl;omega;omega
 refine cS 1 (fun s:Nat×Array El=> [(0,.slu 0 0 n),(1,.sc (.int .i64 (a:Int))),(2,.sc (.int .i64 (b:Int))),(3,cmpF),(8,.sc (.int .i64 (s.1:Int)))]) (fun s=> [some (rowP n s.2)]) (fun s=>s.1≤n+1∧a<s.1∧s.2.size=n∧Sort.insOuter ltP a b s.1 s.2=Sort.insertionSort ltP d a b) (fun s=>n+1-s.1) (a+1,d) []
  (fun _=>rfl) ⟨by omega,by omega,hd,rfl⟩ ?_ (fun _=>rfl) (fun _=>rfl) ?_
 ·(exact Gs rfl rfl rfl ⟨ai rfl,trivial⟩)
 rintro⟨i,d1⟩ ⟨hi,hai,hd1,ho⟩ ih
 simp only at hi hai hd1 ho ih ⊢
 repeat apply ah;rfl
 refine bq rfl rfl rfl rfl ?_ ?_
 all_goals intro h1
 ·repeat apply ah;rfl
  have ho2:Sort.insOuter ltP a b (i+1) (Sort.insInner ltP a i d1)=Sort.insertionSort ltP d a b:=by
   rw [← ho]
   conv=>rhs;rw [Sort.insOuter,EQ (by omega)]
  refine cS 1 (fun s:Nat×Array El=> [(0,.slu 0 0 n),(1,.sc (.int .i64 (a:Int))),(2,.sc (.int .i64 (b:Int))),(3,cmpF),(8,.sc (.int .i64 (i:Int))),(9,.sc (.int .i64 (s.1:Int)))]) (fun s=> [some (rowP n s.2)]) (fun s=>s.1≤i∧s.2.size=n∧Sort.insInner ltP a s.1 s.2=Sort.insInner ltP a i d1) (fun s=>s.1) (i,d1) []
   (fun _=>rfl) ⟨by omega,hd1,rfl⟩ ?_ (fun _=>rfl) (fun _=>rfl) ?_
  ·(exact Gs rfl rfl rfl ⟨ai rfl,trivial⟩)
  rintro⟨j,d2⟩ ⟨hj,hd2,hin⟩ ihj
  simp only at hj hd2 hin ihj ⊢
  repeat apply ah;rfl
  refine aS (by kernel_rfl) (by kernel_rfl) ?_
  repeat apply az;rfl
  refine fV rfl rfl rfl rfl ?_ ?_
  all_goals intro h2
  ·obtain⟨j,rfl⟩: ∃ j',j=j'+1:=⟨j-1,by omega⟩
   repeat first|apply az;rfl|refine ba (am rfl rfl (.inr (.inl ⟨rfl,(Ek _ ⟨(by omega),(by omega)⟩).symm⟩))) rfl rfl rfl ?_|refine ak (q:=j+1) rfl rfl rfl rfl (F.un _ rfl) (F.sz _ rfl) rfl (by omega) (by omega) (by omega) ?_|refine ak (q:=j) rfl rfl rfl rfl (F.un _ rfl) (F.sz _ rfl) rfl (by omega) (by omega) (by omega) ?_|refine aX rfl rfl rfl (F.ag _ rfl) (recP) rfl (by(omega)) (by(omega)) ?_|refine bj rfl rfl rfl rfl (by kernel_rfl) rfl (Ctr.callV (cmp_spec d2[j+1]! d2[j]!) [] rfl (Gh rfl) rfl trivial rfl) ?_
   refine bz rfl rfl rfl rfl ?_ ?_
   all_goals intro h3
   ·repeat apply az;rfl
    refine au ⟨by kernel_rfl,?_,?_⟩;(focus(repeat(first|exact Gu|apply cc;rfl|apply bN;rfl|refine⟨.inr (by(repeat(refine⟨(by first|exact aA (F.un _ rfl) (F.sz _ rfl) rfl rfl rfl (by omega) (by omega) (by omega)|exact am rfl rfl (.inr (.inl ⟨rfl,(Ek _ ⟨by omega,by omega⟩).symm⟩))),?_⟩));exact Gu),?_⟩|refine⟨.inl (by kernel_rfl),?_⟩)))
    repeat apply ah;rfl
    refine aS (by kernel_rfl) (by kernel_rfl) ?_
    repeat first|apply az;rfl|refine ba (am rfl rfl (.inr (.inl ⟨rfl,(Ek _ ⟨(by omega),(by omega)⟩).symm⟩))) rfl rfl rfl ?_|refine ak (q:=j+1) rfl rfl rfl rfl (F.un _ rfl) (F.sz _ rfl) rfl (by omega) (by omega) (by omega) ?_|refine ak (q:=j) rfl rfl rfl rfl (F.un _ rfl) (F.sz _ rfl) rfl (by omega) (by omega) (by omega) ?_|refine aX rfl rfl rfl (F.ag _ rfl) (recP) rfl (by(omega)) (by(omega)) ?_|refine c8 (bX (F.sz _ rfl) rfl rfl rfl (recP) rfl (by first|omega|(simp only [Em,ar];omega)) (by first|omega|(simp only [Em,ar];omega))) rfl rfl ?_
    refine au ⟨by kernel_rfl,?_,?_⟩;(focus(repeat(first|exact Gu|apply cc;rfl|apply bN;rfl|refine⟨.inr (by(repeat(refine⟨(by first|exact aA (F.un _ rfl) (F.sz _ rfl) rfl rfl rfl (by omega) (by omega) (by omega)|exact am rfl rfl (.inr (.inl ⟨rfl,(Ek _ ⟨by omega,by omega⟩).symm⟩))),?_⟩));exact Gu),?_⟩|refine⟨.inl (by kernel_rfl),?_⟩)))
    repeat first|apply ah;rfl|apply aC;rfl;omega;omega
    refine ihj _ _ _ (j,Sort.swp d2 (j+1) j) [] ⟨by omega,by rw [ar];exact hd2,?_⟩ (by simp only;omega) ?_
    ·rw [← hin]
     conv=>rhs;rw [Sort.insInner,EQ (by simp only [ltP,ED,Gg];exact⟨by omega,h3⟩)]
    ·(refine⟨(Gh rfl),rfl,(by repeat(first|exact Gu|refine⟨rfl,?_⟩|refine⟨cO (by(omega)),?_⟩)),⟨ai rfl,trivial⟩⟩)
   ·repeat apply az;rfl
    refine au ⟨by kernel_rfl,?_,?_⟩;(focus(repeat(first|exact Gu|apply cc;rfl|apply bN;rfl|refine⟨.inr (by(repeat(refine⟨(by first|exact aA (F.un _ rfl) (F.sz _ rfl) rfl rfl rfl (by omega) (by omega) (by omega)|exact am rfl rfl (.inr (.inl ⟨rfl,(Ek _ ⟨by omega,by omega⟩).symm⟩))),?_⟩));exact Gu),?_⟩|refine⟨.inl (by kernel_rfl),?_⟩)))
    repeat first|apply ah;rfl|apply aC;rfl;omega;omega
    have hin2:Sort.insInner ltP a i d1=d2:=by
     rw [← hin,Sort.insInner,EP (by simp only [ltP,ED,Gg];omega)]
    refine ih _ _ _ (i+1,d2) [] ⟨by omega,by omega,hd2,by rw [← hin2];exact ho2⟩ (by simp only;omega) ?_
    (exact Gs rfl rfl rfl ⟨ai rfl,trivial⟩)
  ·repeat first|apply az;rfl|refine bA rfl rfl ?_
   refine au ⟨by kernel_rfl,?_,?_⟩;(focus(repeat(first|exact Gu|apply oC;rfl|apply bN;rfl|refine⟨.inl rfl,?_⟩)))
   repeat first|apply ah;rfl|apply aC;rfl;omega;omega
   have hin2:Sort.insInner ltP a i d1=d2:=by
    rw [← hin]
    cases j with
    | zero=>rfl
    | succ j=>rw [Sort.insInner,EP (by simp only [ED,Gg];omega)]
   refine ih _ _ _ (i+1,d2) [] ⟨by omega,by omega,hd2,by rw [← hin2];exact ho2⟩ (by simp only;omega) ?_
   (exact Gs rfl rfl rfl ⟨ai rfl,trivial⟩)
 ·repeat apply ah;rfl
  have ho2:d1=Sort.insertionSort ltP d a b:=by rw [← ho,Sort.insOuter,EP (by omega)]
  apply jI Tryz.func107 (congrArg Array.toList Tryz.results107)
  (focus(repeat(exact Gk)))
  refine⟨_,rfl,Ends.mk [] (Gh rfl) rfl rfl ?_⟩
  rw [← ho2]
  exact⟨ai rfl,trivial⟩
end Bn
end Go.Proofs.YtelnglhodnoclaaGreat
end
section
namespace Go.Proofs.YtelnglhodnoclaaGreat
open Go Go.Sy Go.Sl Go.RowKit
section
variable {P:Program} {H:ay} {T:Tr SV} {nx:Nat}
variable {d:Option Tmp} {ty:TypeId} {pos:String} {af:Array Edge} {gd:Option (Nat×Bool)}
theorem tG{t:TypeId}{x y:Operand}{s:ByteArray}{k:IntKind}{i:Nat}{v:UInt8}(hx:aq T x=some (.sc (.string s)))(hy:aq T y=some (.sc (.int k (i:Int))))(hu:P.underlying t=some .string)(hv:s[i]? =some v) :
 ReadDoes P T H ⟨d,.index t x y,ty,pos,af,gd⟩ (.sc (.int .u8 v.toNat)):=by
 refine cU fun ev w he=>?_
 have e1:=he x _ hx _ rfl
 have e2:=he y _ hy _ rfl
 simp [execOp,e1,e2,Instr.index,asIntOf,run_underlying hu,hv]
end
theorem ar{A:Type} [Inhabited A](d:Array A)(i j:Nat):(Sort.swp d i j).size=d.size:=by simp [Sort.swp]
theorem tM{x:Int}{m:Nat}(hx:x=(m:Int)-1)(hm:m<4611686018427387904):IntKind.i64.wrap (x.tdiv 2)=(((m-1) / 2:Nat):Int):=by
 subst hx
 rcases Nat.eq_zero_or_pos m with rfl|h
 ·decide
 ·rw [Int.tdiv_eq_ediv_of_nonneg (by omega),Ek _ ⟨by omega,by omega⟩]
  omega
def xY:Sort.Hint→Int
 | .unknown=>0
 | .increasing=>1
 | .decreasing=>2
theorem rh{h:Sort.Hint}:(xY h == 2)=decide (h = .decreasing):=by cases h <;> rfl
theorem AK{m:Nat}(h:m<2 ^ 64):IntKind.u64.wrap ((m:Nat):Int)=(m:Int):=by
 rw [Ge _ ⟨by omega,by omega⟩]
theorem xorU{a b:Nat}(ha:a<18446744073709551616)(hb:b<18446744073709551616):yF .xor .u64 (a:Int) (b:Int)=((a ^^^ b:Nat):Int):=by
 show IntKind.u64.wrap (((BitVec.ofInt 64 (a:Int) ^^^ BitVec.ofInt 64 (b:Int)).toNat:Nat):Int)=_
 rw [BitVec.toNat_xor,BitVec.ofInt_natCast,BitVec.ofInt_natCast,BitVec.toNat_ofNat,BitVec.toNat_ofNat,Nat.mod_eq_of_lt ha,Nat.mod_eq_of_lt hb,AK]
 exact Nat.xor_lt_two_pow ha hb
theorem andU{a b:Nat}(ha:a<18446744073709551616)(hb:b<18446744073709551616):yF .and .u64 (a:Int) (b:Int)=((a &&& b:Nat):Int):=by
 show IntKind.u64.wrap (((BitVec.ofInt 64 (a:Int) &&& BitVec.ofInt 64 (b:Int)).toNat:Nat):Int)=_
 rw [BitVec.toNat_and,BitVec.ofInt_natCast,BitVec.ofInt_natCast,BitVec.toNat_ofNat,BitVec.toNat_ofNat,Nat.mod_eq_of_lt ha,Nat.mod_eq_of_lt hb,AK]
 exact Nat.and_lt_two_pow _ hb
theorem sh13(x:Nat):IntKind.u64.wrap ((x:Int)*2 ^ (min (Int.toNat 13) IntKind.u64.bits))=((x*8192 % 18446744073709551616:Nat):Int):=by
 have:(2:Int) ^ (min (Int.toNat 13) IntKind.u64.bits)=8192:=by decide
 rw [this,IntKind.wrap_u64]
 omega
theorem sh17(x:Nat):IntKind.u64.wrap ((x:Int)*2 ^ (min (Int.toNat 17) IntKind.u64.bits))=((x*131072 % 18446744073709551616:Nat):Int):=by
 have:(2:Int) ^ (min (Int.toNat 17) IntKind.u64.bits)=131072:=by decide
 rw [this,IntKind.wrap_u64]
 omega
theorem sh7(x:Nat):Int.fdiv (x:Int) (2 ^ (min (Int.toNat 7) IntKind.u64.bits))=((x / 128:Nat):Int):=by
 have:(2:Int) ^ (min (Int.toNat 7) IntKind.u64.bits)=128:=by decide
 rw [this,Int.fdiv_eq_ediv_of_nonneg _ (by decide)]
 omega
theorem sh8(x:Nat):Int.fdiv (x:Int) (2 ^ (min (Int.toNat 8) IntKind.u64.bits))=((x / 256:Nat):Int):=by
 have:(2:Int) ^ (min (Int.toNat 8) IntKind.u64.bits)=256:=by decide
 rw [this,Int.fdiv_eq_ediv_of_nonneg _ (by decide)]
 omega
abbrev xsO(x:Nat):VO:=an 184 [.sc (.int .u64 (x:Int))]
theorem qO(x:Nat)(hx:x<18446744073709551616):Ctr Tryz.prog 128 [.ptr 0 0] [xsO x] (fun c=>c=⟨.sc (.int .u64 (Sort.xorNextN x:Int)),[some (xsO (Sort.xorNextN x))]⟩):=by
 have hA:x ^^^ (x*8192 % 18446744073709551616)<18446744073709551616:=Nat.xor_lt_two_pow (n:=64) (by omega) (by omega)
 have eA:=xorU (a:=x) (b:=x*8192 % 18446744073709551616) hx (by omega)
 have eC:Sort.xorNextN x=Sort.xorNextN x:=rfl
 conv at eC=>rhs;unfold Sort.xorNextN
 simp only at eC
 generalize x ^^^ (x*8192 % 18446744073709551616)=A at hA eA eC
 have hB:A ^^^ (A / 128)<18446744073709551616:=Nat.xor_lt_two_pow (n:=64) (by omega) (by omega)
 have eB:=xorU (a:=A) (b:=A / 128) hA (by omega)
 generalize A ^^^ (A / 128)=B at hB eB eC
 have eD:=xorU (a:=B) (b:=B*131072 % 18446744073709551616) hB (by omega)
 rw [← eC] at eD
 refine Gj Tryz.func128 rfl rfl ?_
 repeat apply ah;rfl
 refine aS (by kernel_rfl) (by kernel_rfl) ?_
 repeat first|apply az;rfl|refine ba (aK (F.ag _ rfl) rfl rfl (aF rfl)) rfl rfl rfl ?_|refine cm rfl rfl rfl (F.sz _ rfl) rfl rfl rfl ?_|refine ba (tH rfl rfl (by decide) (sh13 x)) rfl rfl rfl ?_|refine ba (lg rfl rfl (.inr (.inr (.inl rfl))) eA) rfl rfl rfl ?_
 refine au ⟨by kernel_rfl,?_,?_⟩;(focus(repeat(first|exact Gu|apply cc;rfl|apply bN;rfl|refine⟨.inl (by kernel_rfl),?_⟩)))
 repeat apply ah;rfl
 refine aS (by kernel_rfl) (by kernel_rfl) ?_
 repeat first|apply az;rfl|refine ba (aK (F.ag _ rfl) rfl rfl (aF rfl)) rfl rfl rfl ?_|refine cm rfl rfl rfl (F.sz _ rfl) rfl rfl rfl ?_|refine ba (qC rfl rfl (by decide) (sh7 A)) rfl rfl rfl ?_|refine ba (lg rfl rfl (.inr (.inr (.inl rfl))) eB) rfl rfl rfl ?_
 refine au ⟨by kernel_rfl,?_,?_⟩;(focus(repeat(first|exact Gu|apply cc;rfl|apply bN;rfl|refine⟨.inl (by kernel_rfl),?_⟩)))
 repeat apply ah;rfl
 refine aS (by kernel_rfl) (by kernel_rfl) ?_
 repeat first|apply az;rfl|refine ba (aK (F.ag _ rfl) rfl rfl (aF rfl)) rfl rfl rfl ?_|refine cm rfl rfl rfl (F.sz _ rfl) rfl rfl rfl ?_|refine ba (tH rfl rfl (by decide) (sh17 B)) rfl rfl rfl ?_|refine ba (lg rfl rfl (.inr (.inr (.inl rfl))) eD) rfl rfl rfl ?_
 refine au ⟨by kernel_rfl,?_,?_⟩;(focus(repeat(first|exact Gu|apply cc;rfl|apply bN;rfl|refine⟨.inl (by kernel_rfl),?_⟩)))
 repeat first|apply ah;rfl|apply aM;rfl;(focus((repeat(exact ae));done));rfl
 ((apply bw Tryz.func128 (congrArg Array.toList Tryz.results128));(focus(repeat(first|exact Gk|apply Gm rfl)));refine⟨_,rfl,Ends.mk [] (Gh rfl) rfl rfl ?_⟩)
 exact(by repeat(first|exact Gu|refine⟨co rfl,?_⟩))
def Dl(s:ByteArray):Bool:=(List.range 256).all fun i=>match s[i]? with
 | some v=>v.toNat == Sort.bitsLen i
 | none=>false
theorem AM{s:ByteArray}(h:Dl s=true){i:Nat}(hi:i<256):s[i]? =some (UInt8.ofNat (Sort.bitsLen i)):=by
 unfold Dl at h
 rw [List.all_eq_true] at h
 have:=h i (Gb.2 hi)
 split at this
 ·rename_i v hv
  rw [hv,←(beq_iff_eq.1 this),UInt8.ofNat_toNat]
 ·cases this
theorem As(x:Nat)(h:256≤x):Sort.bitsLen x=8+Sort.bitsLen (x / 256):=by
 have key: ∀ k,Sort.bitsLen (x / 256)≤k↔Sort.bitsLen x≤k+8:=fun k=>by
  rw [Sort.bitsLen_le_iff,Sort.bitsLen_le_iff,Nat.pow_add,Nat.div_lt_iff_lt_mul (by decide)]
 have h8: ¬ Sort.bitsLen x≤7:=by
  rw [Sort.bitsLen_le_iff]
  omega
 have h1:=(key (Sort.bitsLen (x / 256))).1 (EE _)
 have h2:=(key (Sort.bitsLen x-8)).2 (by omega)
 omega
theorem lV{x:Nat}(h:x<65536):Sort.bitsLen x≤16:=(Sort.bitsLen_le_iff x 16).2 h
theorem Dk{x:Nat}(h:x<65536):IntKind.i64.wrap (((UInt8.ofNat (Sort.bitsLen x)).toNat:Nat):Int)=(Sort.bitsLen x:Int):=by
 have:=lV h
 rw [UInt8.toNat_ofNat',Nat.mod_eq_of_lt (by omega),Ek _ ⟨by omega,by omega⟩]
theorem vu(x:Nat)(hx:x<65536):Ctr Tryz.prog 116 [.sc (.int .u64 (x:Int))] [] (fun c=>c=⟨.sc (.int .i64 (Sort.bitsLen x:Int)),[]⟩):=by
 have h16:=lV hx
 refine Gj Tryz.func116 rfl rfl ?_
 repeat apply ah;rfl
 refine cL rfl rfl rfl rfl ?_ ?_
 all_goals intro h1
 ·exact absurd h1 (by omega)
 repeat apply ah;rfl
 refine cL rfl rfl rfl rfl ?_ ?_
 all_goals intro h2
 ·exact absurd h2 (by omega)
 repeat apply ah;rfl
 refine cL rfl rfl rfl rfl ?_ ?_
 all_goals intro h3
 ·have h17:=lV (x:=x / 256) (by omega)
  repeat first|apply ah;rfl|apply aC;rfl;omega;omega|refine bO (qC rfl rfl (by decide) (sh8 x)) rfl rfl rfl ?_|refine bO (cK (F.un _ rfl) (F.un _ rfl) rfl (show _=((x / 256:Nat):Int)from Go.IntWalk.u8_in _ ⟨by omega,by omega⟩)) rfl rfl rfl ?_|refine bO (tG rfl rfl (F.un _ rfl) (AM (by kernel_rfl) (show x / 256<256 by omega))) rfl rfl rfl ?_|refine bO (cK (F.un _ rfl) (F.un _ rfl) rfl (Dk (x:=x / 256) (by omega))) rfl rfl rfl ?_
  rw [As x (by omega)]
  (apply b8 Tryz.func116 Tryz.results116;rfl)
  (refine⟨_,rfl,Ends.val (Gh rfl) rfl ?_ ?_⟩)
  ·simp
  ·trivial
 ·repeat first|apply ah;rfl|apply aC;rfl;omega;omega|refine bO (cK (F.un _ rfl) (F.un _ rfl) rfl (show _=(x:Int)from Go.IntWalk.u8_in _ ⟨by omega,by omega⟩)) rfl rfl rfl ?_|refine bO (tG rfl rfl (F.un _ rfl) (AM (by kernel_rfl) (show x<256 by omega))) rfl rfl rfl ?_|refine bO (cK (F.un _ rfl) (F.un _ rfl) rfl (Dk (x:=x) (by omega))) rfl rfl rfl ?_
  (apply b8 Tryz.func116 Tryz.results116;rfl)
  (refine⟨_,rfl,Ends.val (Gh rfl) rfl ?_ ?_⟩)
  ·simp
  ·trivial
theorem pJ(x:Nat)(hx:x<65536):Ctr Tryz.prog 98 [.sc (.int .u64 (x:Int))] [] (fun c=>c=⟨.sc (.int .i64 (Sort.bitsLen x:Int)),[]⟩):=by
 refine Gj Tryz.func98 rfl rfl ?_
 repeat first|apply ah;rfl|refine ey (vu x hx) [] rfl rfl rfl (by kernel_rfl) rfl (Gh rfl) rfl trivial ?_
 (apply b8 Tryz.func98 Tryz.results98;rfl)
 (refine⟨_,rfl,Ends.val (Gh rfl) rfl ?_ ?_⟩)
 ·rfl
 ·trivial
theorem DA{k:Nat}(h:k≤16):IntKind.u64.wrap ((1:Int)*2 ^ (min (Int.toNat (k:Int)) IntKind.u64.bits))=((2 ^ k:Nat):Int):=by
 have: ∀ k:Fin 17,IntKind.u64.wrap ((1:Int)*2 ^ (min (Int.toNat (k.val:Int)) IntKind.u64.bits))=((2 ^ k.val:Nat):Int):=by decide
 exact this ⟨k,by omega⟩
theorem qH(x:Nat)(hx:x<65536):Ctr Tryz.prog 127 [.sc (.int .i64 (x:Int))] [] (fun c=>c=⟨.sc (.int .u64 ((2 ^ Sort.bitsLen x:Nat):Int)),[]⟩):=by
 refine Gj Tryz.func127 rfl rfl ?_
 repeat first|apply ah;rfl|refine bO (cK (F.un _ rfl) (F.un _ rfl) rfl (show _=(x:Int)from Ge _ ⟨by omega,by omega⟩)) rfl rfl rfl ?_|refine ey (pJ x hx) [] rfl rfl rfl (by kernel_rfl) rfl (Gh rfl) rfl trivial ?_|refine bO (tH rfl rfl (by omega) (DA (lV hx))) rfl rfl rfl ?_
 (apply b8 Tryz.func127 Tryz.results127;rfl)
 (refine⟨_,rfl,Ends.val (Gh rfl) rfl ?_ ?_⟩)
 ·rfl
 ·trivial
end Go.Proofs.YtelnglhodnoclaaGreat
end
section
namespace Go.Proofs.YtelnglhodnoclaaGreat
namespace Bn
open Go Go.Sy
abbrev D7:SV:= .sc (.func (.func 70) #[] #[])
abbrev ArP:=Array El
theorem ge: ∀ l:List (El),(l.flatMap elV).length=l.length*4
 | []=>rfl
 | a :: l=>by
   rw [List.flatMap_cons,EI,ge l]
   show 4+l.length*4=(l.length+1)*4
   omega
end Bn
end Go.Proofs.YtelnglhodnoclaaGreat
end
section
namespace Go.Sy
open Go Go.Sl Go.RowKit
section
variable {P:Program} {T:Tr SV} {H:ay} {nx:Nat} {d:Option Tmp} {ty:TypeId} {pos:String} {af:Array Edge} {gd:Option (Nat×Bool)}
theorem vE{t:TypeId}{m:Array (String×TypeId)}(hu:P.underlying t=some (.interface m))(w:World):(Op.equal t .nilIface .nilIface).run P w = .ok true w:=by
 have: ∀ n,(Op.equalIn (n+1) t .nilIface .nilIface).run P w = .ok true w:=fun n=>by simp [Op.equalIn,run_underlying hu]
 exact this 9999
theorem fO{t yt:TypeId}{m:Array (String×TypeId)}{x:Operand}(hx:aq T x=some (.sc .nilIface))(hu:P.underlying t=some (.interface m)):ReadDoes P T H ⟨d,.binOp .neq t x (.const .nilIface) yt,ty,pos,af,gd⟩ (.sc (.bool false)):=by
 refine cU fun ev w he=>?_
 have e1:=he x _ hx _ rfl
 have e2:=he (.const .nilIface) _ rfl _ rfl
 have hg:(eqGuard .neq t x (.const .nilIface) .nilIface .nilIface).run P w = .ok () w:=by cases x <;> rfl
 have hq:(Op.equal t .nilIface .nilIface).run P w = .ok true w:=vE hu w
 have hb:(binOp .neq t .nilIface .nilIface).run P w = .ok (.bool false) w:=by
  simp only [binOp,Sem.run_bind,hq,Result.andThen_ok,Sem.run_pure,Bool.not_true]
 simp only [execOp,e1,e2,Sem.run_bind,hg,hb,Result.andThen_ok,Sem.run_pure]
end
section
variable {P:Program} {ro:Option Nat} {fn nt nx i:Nat} {T:Tr SV} {k:List AIt} {dfs:List ADf} {H:ay} {Q:Pst} {ops:Array Oper} {l:List Oper} {ty:TypeId} {pos:String} {af:Array Edge} {gd:Option (Nat×Bool)}
theorem gO{x:Operand}{as1:List Operand}{ats:Array TypeId}{g:FuncId}{fa fb args:List SV}(hw:aE T ops ⟨none,.defer {callee:= .value x,args:=as1.toArray,argTypes:=ats},ty,pos,af,gd⟩=some true)(hx:aq T x=some (.fn (.func g) fa fb))(ha:cY T as1=some args)(hm:bB P g=true)
 (h:Wp P none ⟨fn,nt,T,.inReg ops (i+1) l :: k,.call g (fa ++ args ++ fb) :: dfs,H,nx⟩ Q):Wp P none ⟨fn,nt,T,.inReg ops i (⟨none,.defer {callee:= .value x,args:=as1.toArray,argTypes:=ats},ty,pos,af,gd⟩ :: l) :: k,dfs,H,nx⟩ Q:=by
 refine .step (.inr ⟨hw,.inl rfl,OpDoes.any (out:=(.dfr (.call g (fa ++ args ++ fb)),H,nx)) ?_ ⟨rfl,h⟩⟩)
 intro K w0 e w ev hS hE
 refine kM hS hE ?_
 unfold fT
 simp only [bE,ha,hx,c7,hm,cond_true]
theorem fL{dd:Nat}(hw:aE T ops ⟨some dd,.call {callee:= .builtin .recover,args:= #[],argTypes:= #[]},ty,pos,af,gd⟩=some true)(hd:Nat.blt dd nt=true)
 (h:Wp P none ⟨fn,nt,T.set dd (.sc .nilIface),.inReg ops (i+1) l :: k,dfs,H,nx⟩ Q):Wp P none ⟨fn,nt,T,.inReg ops i (⟨some dd,.call {callee:= .builtin .recover,args:= #[],argTypes:= #[]},ty,pos,af,gd⟩ :: l) :: k,dfs,H,nx⟩ Q:=by
 refine .step (.inr ⟨hw,.inl rfl,OpDoes.any (out:=(.recover,H,nx)) ?_ ⟨rfl,?_⟩⟩)
 ·intro K w0 e w ev hS hE
  refine kM hS hE ?_
  unfold fT
  simp only [cY,EL,e8]
 ·rw [aI hd]
  exact h
theorem fu{x:Operand}{name:String}{as1:List Operand}{ats:Array TypeId}{t:TypeId}{v:SV}{args:List SV}{dd:Nat}(g:FuncId)(hw:aE T ops ⟨some dd,.call {callee:= .invoke x name,args:=as1.toArray,argTypes:=ats},ty,pos,af,gd⟩=some true)(hd:Nat.blt dd nt=true)(hx:aq T x=some (.ifc t v))(ha:cY T as1=some args)(hm:jR P t name=some g)
 (h:Fnc P g (v :: args) H nx (fun r=>Wp P ro ⟨fn,nt,T.set dd r.1,.inReg ops (i+1) l :: k,dfs,r.2.1,r.2.2⟩ Q)) :
 Wp P ro ⟨fn,nt,T,.inReg ops i (⟨some dd,.call {callee:= .invoke x name,args:=as1.toArray,argTypes:=ats},ty,pos,af,gd⟩ :: l) :: k,dfs,H,nx⟩ Q:=by
 refine tj hw (args:=v :: args) ?_ (by simp only [aI hd];exact h)
 simp only [bE,ha,hx,hm]
theorem eR{rl:List ResultVar}{F:Func}{g:FuncId}{args:List SV}(hf:P.funcs[fn]? =some F)(hl:F.results.toList=rl)(hg:bB P g=true)(h:Fnc P g args H nx (fun r=> ∃ vs,ResIs P r.2.1 T rl vs∧Q (fi vs,r.2.1,r.2.2))):Wp P none ⟨fn,nt,T,.code .ret :: k,[.call g args],H,nx⟩ Q:=by
 refine AG (Cg hg (Gi h ?_))
 rintro⟨v,H',n'⟩ ⟨vs,h1,h2⟩
 exact AW (by simp only [eH,hf,hl]) h1.res h2
end
end Go.Sy
end
section
namespace Go.Proofs.YtelnglhodnoclaaGreat
open Go Go.Sy Go.Sl Go.RowKit
section
variable {H H':ay}{s:SV}{b c:Nat}{left:Int}{n nx:Nat}{mem p x:List UInt8}
abbrev cF:SV:= .sc (.slice none 0 0)
abbrev lP(mem:List UInt8)(s:SV)(left:Int)(odd:Bool):List SV:=(byV mem).map .sc ++ [s,.sc (.int .i64 left),.sc (.bool odd)]
abbrev jY(mem:List UInt8)(s:SV)(left:Int)(odd:Bool):VO:=an 53 (lP mem s left odd)
def aR(mem:List UInt8)(n:Nat):List UInt8:=(mem.drop (1024*n)).take 1024
theorem dw(hm:mem.length=28672)(hn:n<28):(aR mem n).length=1024:=by
 unfold aR
 rw [ET,EW]
 omega
theorem xe(hm:mem.length=28672)(hn:n<28)(s:SV)(left:Int)(odd:Bool):(jY mem s left odd).cellsFrom (0+n*1024) 1024=some (pgS (aR mem n)):=by
 refine aB _ _ ?_ (by rw [bi (dw hm hn)])
 have hl:((byV mem).map SV.sc).length=28672:=by simpa using hm
 rw [List.drop_append_of_le_length (by omega),List.take_append_of_le_length (by rw [EW];omega)]
 unfold aR
 rw [ER,Nat.mul_comm]
 simp [List.map_take,List.map_drop]
theorem AT{odd:Bool}(hb:H.at' b=some (jY mem s left odd))(hm:mem.length=28672)(hn:n<28):Fnc Tryz.prog 152 [.ptr b 0,.sc (.int .i64 ((4+n:Nat):Int))] H nx (fun q=>q=(pgE (aR mem n,0),H,nx)):=by
 refine Fnc.bW (pw _) ?_
 refine Gj Tryz.func152 rfl rfl ?_
 refine bh fun hund=>?_
 have hlt:=hund _ _ hb
 have hl:=dw hm hn
 repeat first|refine er (aW dK) rfl rfl rfl ?_|apply ah;rfl|apply aC;rfl;omega;omega|apply si;rfl;omega|apply ii (q:=n);rfl;rfl;rfl;rfl;exact(F.un _ rfl);exact(F.sz _ rfl);(focus(omega));(focus(omega))
 refine cN rfl rfl rfl (F.ag _ rfl) (by repeat(first|assumption|refine aa (by omega) ?_)) (xe hm hn _ _ _) ?_
 repeat first|apply cG hl ac;rfl;(focus((repeat(exact ae));done))|apply ah;rfl
 ((apply bw Tryz.func152 (congrArg Array.toList Tryz.results152));(focus((apply Gl rfl (Gn (F.ag _ rfl) (by repeat(exact ae)) (bH hl)));(repeat(first|exact Gk|apply Gm rfl)))))
 exact⟨rfl,EN _,fun m hm=>(ab _ _ (by omega)).trans (ab _ _ (by omega))⟩
theorem A8(a b:List UInt8):byV (a ++ b)=byV a ++ byV b:=EJ
theorem iR(hm:mem.length=28672):((byV mem).map SV.sc).length=28672:=by simpa using hm
theorem gl(hm:mem.length=28672)(s:SV)(l:Int)(o:Bool):(lP mem s l o).length=28675:=by simp [hm]
theorem mT(hm:mem.length=28672)(s:SV)(l:Int)(o:Bool)(j:Nat):(lP mem s l o)[28672+j]? = [s,.sc (.int .i64 l),.sc (.bool o)][j]? :=by
 rw [EZ (by rw [iR hm];omega),iR hm,Nat.add_sub_cancel_left]
theorem mf(hm:mem.length=28672)(s s':SV)(l:Int)(o:Bool):(lP mem s l o).set 28672 s'=lP mem s' l o:=by
 rw [List.set_append_right _ _ (by rw [iR hm];exact EE _),iR hm]
 rfl
theorem mg(hm:mem.length=28672)(s:SV)(l l':Int)(o:Bool):(lP mem s l o).set 28673 (.sc (.int .i64 l'))=lP mem s l' o:=by
 rw [List.set_append_right _ _ (by rw [iR hm];decide),iR hm]
 rfl
def bT(mem:List UInt8)(n:Nat)(x:List UInt8):List UInt8:=eK mem (1024*n) x
theorem j9(hm:mem.length=28672)(hn:n<28)(hx:x.length=1024):(bT mem n x).length=28672:=by
 unfold bT
 rw [eJ (by omega),hm]
theorem BP(hm:mem.length=28672)(hn:n<28)(hx:x.length=1024)(s:SV)(l:Int)(o:Bool):(lP mem s l o).take (0+n*1024) ++ pgS x ++ (lP mem s l o).drop (0+n*1024+1024)=lP (bT mem n x) s l o:=by
 have hl:=iR hm
 rw [List.take_append_of_le_length (by omega),List.drop_append_of_le_length (by omega)]
 unfold bT eK
 rw [hx,ER,Nat.mul_comm n]
 show _=(byV (mem.take (1024*n) ++ x ++ mem.drop (1024*n+1024))).map SV.sc ++ _
 rw [A8,A8,EJ,EJ]
 simp only [byV,List.map_take,List.map_drop,E0]
def LIs(H:ay)(s:SV)(c:Nat):Prop:=(c=0∧s=cF)∨ ∃ r ws,0<c∧s = .slu r 0 c∧H.at' r=some (ft false c 1025 212 ws)∧ws.length=c*1025
theorem LIs.frame(h:LIs H s c)(hf: ∀ r ws,H.at' r=some (ft false c 1025 212 ws)→H'.at' r=H.at' r):LIs H' s c:=by
 rcases h with h|⟨r,ws,h0,h1,h2,h3⟩
 ·exact .inl h
 ·exact .inr ⟨r,ws,h0,h1,(hf r ws h2).trans h2,h3⟩
def PgAt(H:ay)(b:Nat)(mem:List UInt8)(left:Int)(c:Nat):Prop:= ∃ s,H.at' b=some (jY mem s left false)∧LIs H s c
theorem PgAt.frame(h:PgAt H b mem left c)(hund: ∀ r vo,H.at' r=some vo→r<nx)(hf: ∀ m,m<nx→H'.at' m=H.at' m):PgAt H' b mem left c:=by
 obtain⟨s,h1,h2⟩:=h
 exact⟨s,(hf b (hund _ _ h1)).trans h1,h2.frame fun r ws hr=>hf r (hund _ _ hr)⟩
theorem LIs.one{H:ay}{s:SV}{c:Nat}(h:LIs H s c):s.one=true:=by
 rcases h with ⟨_,rfl⟩|⟨_,_,_,rfl,_⟩ <;> rfl
abbrev l4(n:Int)(x:List UInt8):List SV:= .sc (.int .i64 n) :: pgS x
theorem kg(n:Int)(h:x.length=1024):(l4 n x).length=1*1025:=by simp [h]
theorem pC(n:Int)(x:List UInt8):cr (l4 n x)=true:=iH x
theorem yO:dJ Tryz.prog 212=some (.agg (Value.int .i64 0 :: List.replicate 1024 (Value.int .u8 0)).toArray):=by kernel_rfl
theorem qJ:AS Tryz.prog 212=some [(0,1),(1,1024)]:=by kernel_rfl
theorem mm{place:Nat→Option (Nat×Nat)}{cells vc:List SV}{i off size:Nat}{v:SV}(hp:place i=some (off,size))(hv:v.cells=vc)(hl:vc.length=size)(ho:off+size≤cells.length):hY place cells [(i,v)]=some (cells.take off ++ vc ++ cells.drop (off+size)):=by
 subst hv
 have hb:(Nat.beq v.cells.length size && Nat.ble (off+size) cells.length)=true:=by
  rw [ED]
  exact⟨by rw [hl];exact Nat.beq_refl _,Es ho⟩
 simp only [hY,hp,hb,cond_true]
theorem gf{zs:List SV}(hz:zs.length=1025){n:Int}(hp:p.length=1024):hY (fun i=> [(0,1),(1,1024)][i]?) zs [(0,.sc (.int .i64 n)),(1,.agg (pgS p))]=some (l4 n p):=by
 have h1:(pgS p).length=1024:=bi hp
 have h2:(zs.take 0 ++ (SV.sc (.int .i64 n)).cells ++ zs.drop (0+1)).length=1025:=by
  rw [EI,EI,EW,hz]
  rfl
 have hb:(Nat.beq (SV.sc (.int .i64 n)).cells.length 1 && Nat.ble (0+1) zs.length)=true:=by rw [hz];rfl
 show(bif (Nat.beq (SV.sc (.int .i64 n)).cells.length 1 && Nat.ble (0+1) zs.length) then hY (fun i=> [(0,1),(1,1024)][i]?) (zs.take 0 ++ (SV.sc (.int .i64 n)).cells ++ zs.drop (0+1)) [(1,.agg (pgS p))] else none)=_
 rw [hb,cond_true,mm (off:=1) (size:=1024) (vc:=pgS p) rfl rfl h1 (by omega)]
 rw [List.drop_of_length_le (show(zs.take 0 ++ (SV.sc (.int .i64 n)).cells ++ zs.drop (0+1)).length≤1+1024 by omega),E3]
 rfl
theorem rk{zs:List SV}(hz:zs.length=1025){n:Int}(hp:p.length=1024):hY (fun i=>some (i*1025,1025)) zs [(0,.agg (l4 n p))]=some (l4 n p):=by
 have hl:(l4 n p).length=1025:=kg n hp
 rw [mm (off:=0) (size:=1025) (vc:=l4 n p) rfl rfl hl (by omega)]
 rw [List.take_zero,List.nil_append,List.drop_of_length_le (by omega),E3]
theorem yE{n:Int}(hx:x.length=1024):(an 212 (l4 n x)).cellsFrom (0+1) 1024=some (pgS x):=
 aB _ _ (by show(pgS x).take 1024=pgS x;exact Ew (by rw [bi hx];exact EE _)) (bi hx)
theorem DM{odd:Bool}(hb:H.at' b=some (jY mem s left odd))(hm:mem.length=28672)(hn:n<28)(hx:x.length=1024):Fnc Tryz.prog 155 [.ptr b 0,.agg (l4 ((4+n:Nat):Int) x)] H nx
 (fun q=>q=(.tup [],(H.set nx (an 212 (l4 ((4+n:Nat):Int) x))).set b (jY (bT mem n x) s left odd),nx+1)):=by
 refine Gj Tryz.func155 rfl rfl ?_
 refine bh fun hund=>?_
 have hlt:=hund _ _ hb
 have hpl:(l4 ((4+n:Nat):Int) x).length=1025:=by simp [hx]
 repeat first|apply ah;rfl|apply aM;rfl;(focus((repeat(exact ae));done));rfl
 have k1:(H.set nx (an 212 (l4 ((4+n:Nat):Int) x))).at' nx=some (an 212 (l4 ((4+n:Nat):Int) x)):=aw _ _ _
 have k2:(H.set nx (an 212 (l4 ((4+n:Nat):Int) x))).at' b=some (jY mem s left odd):=(ab _ _ (by omega)).trans hb
 obtain⟨H1,hH1⟩: ∃ H1,H1=H.set nx (an 212 (l4 ((4+n:Nat):Int) x)):=⟨_,rfl⟩
 rw [← hH1] at k1 k2 ⊢
 repeat first|refine a7 rfl rfl rfl (F.ag _ rfl) k1 rfl ?_|apply w_cT;rfl;omega|apply ah;rfl
 (apply bU;(focus(kernel_rfl));(focus(kernel_rfl)))
 repeat first|refine ba (aK (F.ag _ rfl) rfl k1 (aF rfl)) rfl rfl rfl ?_|apply cd;rfl;rfl;exact(fun _ h=>by cases h);exact(bn (F.ag _ rfl) rfl k1 (yE hx))|refine fU rfl rfl rfl (F.sz _ rfl) k2 (bi hx) (by rw [gl hm];omega) (iH _) (BP hm hn hx _ _ _) ?_|apply CA (q:=n);rfl;rfl;rfl;rfl;exact(F.un _ rfl);exact(F.sz _ rfl);(focus(omega));(focus(omega))|apply az;rfl|refine ba (am rfl rfl (.inr (.inl ⟨rfl,(Ek _ ⟨(by focus(omega)),(by focus(omega))⟩).symm⟩))) rfl rfl rfl ?_
 refine au ⟨by kernel_rfl,?_,?_⟩;(focus(repeat(first|exact Gu|apply mn;rfl|apply jk;rfl;kernel_rfl|refine⟨.inr ⟨0,by kernel_rfl,AllH.all (fun _=>(by(exact am rfl rfl (.inr (.inl ⟨rfl,(Ek _ ⟨by omega,by omega⟩).symm⟩))))) _⟩,?_⟩|refine js 0 rfl (by kernel_rfl) (by(repeat(refine⟨(by first|exact aK (F.ag _ rfl) rfl (by repeat(first|assumption|refine aa (by omega) ?_)) (aF rfl)|exact sD (q:=n) rfl rfl (F.un _ rfl) (F.sz _ rfl) (by omega) (by omega)),?_⟩));exact Gu) ?_|refine js 1 rfl (by kernel_rfl) (by(repeat(refine⟨(by(exact bn (F.ag _ rfl) rfl k1 (yE hx))),?_⟩));exact Gu) ?_)))
 (apply wo Tryz.func155 Tryz.results155;rfl)
 rfl
theorem xb(hb:H.at' b=some (jY mem cF left false))(hm:mem.length=28672)(hn:n<28)(hx:x.length=1024)(hl:left≠0)(hl2 : -1000000000≤left∧left≤9223372036854775807):Fnc Tryz.prog 153 [.ptr b 0,.sc (.int .i64 ((4+n:Nat):Int)),.agg (pgS x)] H nx
 (fun q=>q.1 = .sc (.int .i64 0)∧(∃ r,nx≤r∧q.2.1.at' b=some (jY (bT mem n x) (.slu r 0 (0+1)) (left-1) false)∧q.2.1.at' r=some (ft false (0+1) 1025 212 (l4 ((4+n:Nat):Int) x)))∧nx≤q.2.2∧ ∀ m,m<nx→m≠b→q.2.1.at' m=H.at' m):=by
 obtain⟨s,hs⟩: ∃ s,s=cF:=⟨_,rfl⟩
 rw [← hs] at hb
 refine Gj Tryz.func153 rfl rfl ?_
 refine bh fun hund=>?_
 have hlt:=hund _ _ hb
 have hbox:(H.set nx (pgO x)).at' nx=some (pgO x):=aw _ _ _
 have hb1:(H.set nx (pgO x)).at' b=some (jY mem s left false):=(ab _ _ (by omega)).trans hb
 have hold: ∀ m,m<nx→(H.set nx (pgO x)).at' m=H.at' m:=fun m hm=>ab _ _ (by omega)
 have hone:s.one=true:=by rw [hs];rfl
 repeat apply ah;rfl
 generalize H.set nx (pgO x)=H1 at hbox hb1 hold ⊢
 repeat first|refine a7 rfl rfl rfl (F.ag _ rfl) hb1 (mT hm _ _ _ 1) ?_|apply ah;rfl|apply aC;rfl;omega;omega|apply si;rfl;omega|apply sh;rfl;omega
 refine cq rfl rfl rfl (F.sz _ rfl) hb1 rfl (Es (by rw [gl hm];decide)) ?_
 rw [mg hm]
 have hb2:(H1.set b (jY mem s (left-1) false)).at' b=some (jY mem s (left-1) false):=aw _ _ _
 have hbox2:(H1.set b (jY mem s (left-1) false)).at' nx=some (pgO x):=(ab _ _ (by omega)).trans hbox
 have hold2: ∀ m,m<nx→m≠b→(H1.set b (jY mem s (left-1) false)).at' m=H.at' m:=fun m h1 h2=>(ab _ _ h2).trans (hold m h1)
 generalize H1.set b (jY mem s (left-1) false)=H2 at hb2 hbox2 hold2 ⊢
 clear hb1 hbox hold
 repeat apply ah;rfl
 have hsz:(l4 ((4+n:Nat):Int) x).length=1*1025:=kg _ hx
 subst hs
 (apply bU;(focus(kernel_rfl));(focus(kernel_rfl)))
 repeat first|refine ff rfl rfl rfl (F.ag _ rfl) hbox2 (bi hx) ?_|refine ba (aK (F.ag _ rfl) rfl hb2 (aF (mT hm _ _ _ 0))) rfl rfl rfl ?_|refine ba (eI rfl yO qJ (gf (by kernel_rfl) hx)) rfl rfl rfl ?_|refine hZ (cs:=l4 ((4+n:Nat):Int) x) rfl rfl (F.un _ rfl) (F.sz _ rfl) rfl yO rfl (rk (by simp) hx) (pC _ _) rfl hsz ?_|refine oH rfl rfl (fun _ h=>by cases h) (jc (b:=1032) (F.un _ rfl) (.inl ⟨_,F.un _ rfl⟩) (F.sz _ rfl) (by decide) (by kernel_rfl) (by kernel_rfl) rfl rfl (Ds (by repeat(exact ae)) hsz) (by exact pC _ _) (by omega) (by omega) (by omega)) ?_|refine cm rfl rfl rfl (F.sz _ rfl) (by(repeat(refine aa (by omega) ?_));exact hb2) rfl (Es (by rw [gl hm];decide)) ?_|apply az;rfl
 refine au ⟨by kernel_rfl,?_,?_⟩;(focus(repeat(first|exact Gu|apply mn;rfl|apply jk;rfl;kernel_rfl|refine js 0 rfl (by kernel_rfl) (by(repeat(refine⟨(by first|exact bn (F.ag _ rfl) rfl hbox2 (bH hx)|exact bn (F.ag _ rfl) rfl (by(repeat(refine aa (by omega) ?_));exact hbox2) (bH hx)|exact eI rfl yO qJ (gf (by kernel_rfl) hx)),?_⟩));exact Gu) ?_|refine js 1 rfl (by kernel_rfl) (by(repeat(refine⟨(by(exact aK (F.ag _ rfl) rfl (by(repeat(refine aa (by omega) ?_));exact hb2) (aF (mT hm _ _ _ 0)))),?_⟩));exact Gu) ?_)))
 rw [mf hm]
 refine gL (R:=fun H5 n5=>nx+1<n5∧H5.at' nx=some (pgO x)∧H5.at' b=some (jY mem (.slu (nx+1+1) 0 (0+1)) (left-1) false)∧H5.at' (nx+1+1)=some (ft false (0+1) 1025 212 (l4 ((4+n:Nat):Int) x))∧nx+1+1<n5∧ ∀ m,m<nx→m≠b→H5.at' m=H.at' m) ⟨by dsimp only;omega,by(repeat(refine aa (by omega) ?_));exact hbox2,by repeat(exact ae),by repeat(first|exact ae|refine aa (by omega) ?_),by dsimp only;omega,fun m h1 h2=>by(repeat(refine aa (by omega) ?_));exact hold2 m h1 h2⟩ ?_
 rintro H5 n5 ⟨_,e1,e2,e3,e4,e5⟩
 repeat apply ah;rfl
 (apply bU;(focus(kernel_rfl));(focus(kernel_rfl)))
 repeat first|refine ff rfl rfl rfl (F.ag _ rfl) e1 (bi hx) ?_|refine ba (eI rfl yO qJ (gf (by kernel_rfl) hx)) rfl rfl rfl ?_|apply eX;rfl;rfl;rfl;(focus(kernel_rfl));exact(DM e2 hm hn hx)|apply az;rfl
 refine au ⟨by kernel_rfl,?_,?_⟩;(focus(repeat(first|exact Gu|apply mn;rfl|apply jk;rfl;kernel_rfl|refine js 0 rfl (by kernel_rfl) (by(repeat(refine⟨(by(exact eI rfl yO qJ (gf (by kernel_rfl) hx))),?_⟩));exact Gu) ?_|refine js 1 rfl (by kernel_rfl) (by(repeat(refine⟨(by(exact bn (F.ag _ rfl) rfl e1 (bH hx))),?_⟩));exact Gu) ?_)))
 repeat apply ah;rfl
 (apply b8 Tryz.func153 Tryz.results153;rfl)
 exact⟨rfl,⟨nx+1+1,by omega,aw _ _ _,(ab _ _ (by omega)).trans ((ab _ _ (by omega)).trans e3)⟩,by dsimp only;omega,fun m h1 h2=>(ab _ _ h2).trans ((ab _ _ (by omega)).trans (e5 m h1 h2))⟩
theorem AR(hb:PgAt H b mem left c)(hm:mem.length=28672)(hn:n<28)(hx:x.length=1024)(hl:left≠0)(hl2 : -1000000000≤left∧left≤9223372036854775807)(hc:c≤1000000):Fnc Tryz.prog 153 [.ptr b 0,.sc (.int .i64 ((4+n:Nat):Int)),.agg (pgS x)] H nx
 (fun q=>q.1 = .sc (.int .i64 0)∧PgAt q.2.1 b (bT mem n x) (left-1) (c+1)∧nx≤q.2.2∧ ∀ m,m<nx→m≠b→(∀ ws,H.at' m≠some (ft false c 1025 212 ws))→q.2.1.at' m=H.at' m):=by
 obtain⟨s,hb,hL⟩:=hb
 rcases hL with ⟨rfl,rfl⟩|⟨r,ws,h0,rfl,hr1,hwl⟩
 ·refine Gi (xb hb hm hn hx hl hl2) ?_
  rintro⟨_,H1,n1⟩ ⟨rfl,⟨r,g1,g2,g3⟩,g4,g5⟩
  exact⟨rfl,⟨_,g2,.inr ⟨r,_,by omega,rfl,g3,kg _ hx⟩⟩,g4,fun m h1 h2 _=>g5 m h1 h2⟩
 refine Gj Tryz.func153 rfl rfl ?_
 refine bh fun hund=>?_
 have hlt:=hund _ _ hb
 have hbox:(H.set nx (pgO x)).at' nx=some (pgO x):=aw _ _ _
 have hb1:(H.set nx (pgO x)).at' b=some (jY mem (.slu r 0 c) left false):=(ab _ _ (by omega)).trans hb
 have hold: ∀ m,m<nx→(H.set nx (pgO x)).at' m=H.at' m:=fun m hm=>ab _ _ (by omega)
 have hone:(SV.slu r 0 c).one=true:=rfl
 repeat apply ah;rfl
 generalize H.set nx (pgO x)=H1 at hbox hb1 hold ⊢
 repeat first|refine a7 rfl rfl rfl (F.ag _ rfl) hb1 (mT hm _ _ _ 1) ?_|apply ah;rfl|apply aC;rfl;omega;omega|apply si;rfl;omega|apply sh;rfl;omega
 refine cq rfl rfl rfl (F.sz _ rfl) hb1 rfl (Es (by rw [gl hm];decide)) ?_
 rw [mg hm]
 have hb2:(H1.set b (jY mem (.slu r 0 c) (left-1) false)).at' b=some (jY mem (.slu r 0 c) (left-1) false):=aw _ _ _
 have hbox2:(H1.set b (jY mem (.slu r 0 c) (left-1) false)).at' nx=some (pgO x):=(ab _ _ (by omega)).trans hbox
 have hold2: ∀ m,m<nx→m≠b→(H1.set b (jY mem (.slu r 0 c) (left-1) false)).at' m=H.at' m:=fun m h1 h2=>(ab _ _ h2).trans (hold m h1)
 generalize H1.set b (jY mem (.slu r 0 c) (left-1) false)=H2 at hb2 hbox2 hold2 ⊢
 clear hb1 hbox hold
 repeat apply ah;rfl
 have hsz:(l4 ((4+n:Nat):Int) x).length=1*1025:=kg _ hx
 have hrl:=hund _ _ hr1
 have hrb:r≠b:=fun e=>by rw [e,hb] at hr1;cases hr1
 have hr2:=(hold2 r hrl hrb).trans hr1
 (apply bU;(focus(kernel_rfl));(focus(kernel_rfl)))
 repeat first|refine ff rfl rfl rfl (F.ag _ rfl) hbox2 (bi hx) ?_|refine ba (aK (F.ag _ rfl) rfl hb2 (aF (mT hm _ _ _ 0))) rfl rfl rfl ?_|refine ba (eI rfl yO qJ (gf (by kernel_rfl) hx)) rfl rfl rfl ?_|refine hZ (cs:=l4 ((4+n:Nat):Int) x) rfl rfl (F.un _ rfl) (F.sz _ rfl) rfl yO rfl (rk (by simp) hx) (pC _ _) rfl hsz ?_|refine oH rfl rfl (fun _ h=>by cases h) (B2 (b:=1032) (F.un _ rfl) (.inl ⟨_,F.un _ rfl⟩) (F.sz _ rfl) (by decide) (by kernel_rfl) (by kernel_rfl) rfl rfl (by(repeat(refine aa (by omega) ?_));exact hr2) (hwl) (Ds (by repeat(exact ae)) hsz) (by exact pC _ _) (by omega) (by omega) (by omega)) ?_|refine cm rfl rfl rfl (F.sz _ rfl) (by(repeat(first|refine aa (by omega) ?_|refine bQ (by omega) ?_));exact hb2) rfl (Es (by rw [gl hm];decide)) ?_|apply az;rfl
 refine au ⟨by kernel_rfl,?_,?_⟩;(focus(repeat(first|exact Gu|apply mn;rfl|apply jk;rfl;kernel_rfl|refine js 0 rfl (by kernel_rfl) (by(repeat(refine⟨(by first|exact bn (F.ag _ rfl) rfl hbox2 (bH hx)|exact bn (F.ag _ rfl) rfl (by(repeat(first|refine aa (by omega) ?_|refine bQ (by omega) ?_));exact hbox2) (bH hx)|exact eI rfl yO qJ (gf (by kernel_rfl) hx)),?_⟩));exact Gu) ?_|refine js 1 rfl (by kernel_rfl) (by(repeat(refine⟨(by(exact aK (F.ag _ rfl) rfl (by(repeat(first|refine aa (by omega) ?_|refine bQ (by omega) ?_));exact hb2) (aF (mT hm _ _ _ 0)))),?_⟩));exact Gu) ?_)))
 rw [mf hm]
 refine gL (R:=fun H5 n5=>nx+1<n5∧H5.at' nx=some (pgO x)∧H5.at' b=some (jY mem (.slu (nx+1+1) 0 (c+1)) (left-1) false)∧LIs H5 (.slu (nx+1+1) 0 (c+1)) (c+1)∧nx+1+1<n5∧ ∀ m,m<nx→m≠b→(∀ ws,H.at' m≠some (ft false c 1025 212 ws))→H5.at' m=H.at' m) ⟨by dsimp only;omega,by(repeat(first|refine aa (by omega) ?_|refine bQ (by omega) ?_));exact hbox2,by repeat(exact ae),.inr ⟨nx+1+1,_,by omega,rfl,by repeat(first|exact ae|refine aa (by omega) ?_),by rw [EI,hwl,hsz];omega⟩,by dsimp only;omega,fun m h1 h2 h3=>(by have hmr:m≠r:=fun e=>h3 ws (e ▸ hr1);(focus((repeat(first|refine aa (by omega) ?_|refine bQ (by omega) ?_));exact hold2 m h1 h2)))⟩ ?_
 rintro H5 n5 ⟨_,e1,e2,e3,e4,e5⟩
 repeat apply ah;rfl
 (apply bU;(focus(kernel_rfl));(focus(kernel_rfl)))
 repeat first|refine ff rfl rfl rfl (F.ag _ rfl) e1 (bi hx) ?_|refine ba (eI rfl yO qJ (gf (by kernel_rfl) hx)) rfl rfl rfl ?_|apply eX;rfl;rfl;rfl;(focus(kernel_rfl));exact(DM e2 hm hn hx)|apply az;rfl
 refine au ⟨by kernel_rfl,?_,?_⟩;(focus(repeat(first|exact Gu|apply mn;rfl|apply jk;rfl;kernel_rfl|refine js 0 rfl (by kernel_rfl) (by(repeat(refine⟨(by(exact eI rfl yO qJ (gf (by kernel_rfl) hx))),?_⟩));exact Gu) ?_|refine js 1 rfl (by kernel_rfl) (by(repeat(refine⟨(by(exact bn (F.ag _ rfl) rfl e1 (bH hx))),?_⟩));exact Gu) ?_)))
 repeat apply ah;rfl
 (apply b8 Tryz.func153 Tryz.results153;rfl)
 rcases e3 with ⟨h,_⟩|⟨r',ws',q0,q1,q2,q3⟩
 ·omega
 cases q1
 refine⟨rfl,⟨_,aw _ _ _,.inr ⟨_,ws',q0,rfl,(ab _ _ (by omega)).trans ((ab _ _ (by omega)).trans q2),q3⟩⟩,by dsimp only;omega,fun m h1 h2 h3=>?_⟩
 exact(ab _ _ h2).trans ((ab _ _ (by omega)).trans (e5 m h1 h2 h3))
theorem zC(hb:PgAt H b mem 0 c)(hm:mem.length=28672)(hn:n<28):Fnc Tryz.prog 153 [.ptr b 0,.sc (.int .i64 ((4+n:Nat):Int)),.agg (pgS x)] H nx
 (fun q=>q.1 = .sc (.int .i64 8)∧PgAt q.2.1 b mem 0 c∧nx≤q.2.2∧ ∀ m,m<nx→q.2.1.at' m=H.at' m):=by
 have hb0:=hb
 obtain⟨s,hb,hL⟩:=hb
 refine Gj Tryz.func153 rfl rfl ?_
 refine bh fun hund=>?_
 have hlt:=hund _ _ hb
 have hb1:(H.set nx (pgO x)).at' b=some (jY mem s 0 false):=(ab _ _ (by omega)).trans hb
 have hold: ∀ m,m<nx→(H.set nx (pgO x)).at' m=H.at' m:=fun m hm=>ab _ _ (by omega)
 repeat apply ah;rfl
 generalize H.set nx (pgO x)=H1 at hb1 hold ⊢
 repeat first|refine a7 rfl rfl rfl (F.ag _ rfl) hb1 (mT hm _ _ _ 1) ?_|apply ah;rfl|apply si;rfl;omega|apply jK;rfl;rfl
 (apply b8 Tryz.func153 Tryz.results153;rfl)
 exact⟨rfl,hb0.frame hund hold,by first|omega|(dsimp only;omega),hold⟩
def NoPut(H:ay)(m:Nat):Prop:= ∀ c ws,H.at' m≠some (ft false c 1025 212 ws)
theorem NoPut.same{m:Nat}(h:NoPut H m)(e:H'.at' m=H.at' m):NoPut H' m:=fun c ws=>by rw [e];exact h c ws
def Kept(H H':ay)(b nx:Nat):Prop:= ∀ m,m<nx→m≠b→NoPut H m→H'.at' m=H.at' m
theorem Kept.refl(H:ay)(b nx:Nat):Kept H H b nx:=fun _ _ _ _=>rfl
theorem Kept.trans{H1 H2:ay}{n1:Nat}(h:Kept H H1 b nx)(g:Kept H1 H2 b n1)(hn:nx≤n1):Kept H H2 b nx:=fun m h1 h2 h3=>(g m (by omega) h2 (h3.same (h m h1 h2 h3))).trans (h m h1 h2 h3)
theorem Kept.old(h: ∀ m,m<nx→H'.at' m=H.at' m):Kept H H' b nx:=fun m h1 _ _=>h m h1
theorem uW(hb:PgAt H b mem left c)(hm:mem.length=28672)(hn:n<28)(hx:x.length=1024)(hl2 : -1000000000≤left∧left≤9223372036854775807)(hc:c≤1000000):Fnc Tryz.prog 153 [.ptr b 0,.sc (.int .i64 ((4+n:Nat):Int)),.agg (pgS x)] H nx
 (fun q=>nx≤q.2.2∧Kept H q.2.1 b nx∧((left≠0∧q.1 = .sc (.int .i64 0)∧PgAt q.2.1 b (bT mem n x) (left-1) (c+1))∨(left=0∧q.1 = .sc (.int .i64 8)∧PgAt q.2.1 b mem 0 c))):=by
 by_cases h0:left=0
 ·subst h0
  refine Gi (zC hb hm hn) ?_
  rintro⟨_,H1,n1⟩ ⟨rfl,g0,g1,g2⟩
  exact⟨g1,Kept.old g2,.inr ⟨rfl,rfl,g0⟩⟩
 ·refine Gi (AR hb hm hn hx h0 hl2 hc) ?_
  rintro⟨_,H1,n1⟩ ⟨rfl,g1,g2,g3⟩
  exact⟨g2,fun m h1 h2 h3=>g3 m h1 h2 (h3 c),.inl ⟨h0,rfl,g1⟩⟩
def kP(p:List UInt8):UInt8:=p[12]?.getD 0
def ju(u:List Bool):List UInt8→Option (Nat×bf)
 | []=>none
 | c :: r=>if c.toNat<1∨28≤c.toNat∨u[c.toNat]? =some true then none else match r with
   | []=>some (c.toNat,cp)
   | b :: r=>(ofL (b :: r)).map fun e=>(c.toNat,e)
def ci(p:List UInt8):Nat→Option (List Bool×List Bn.El)
 | 0=>some (List.replicate 28 false,[])
 | j+1=>match ci p j with
   | none=>none
   | some (u,l)=>if aH p j=0 then some (u,l) else match ju u (ck p j)with
     | none=>none
     | some (k,e)=>some (u.set k true,l ++ [((4:Int)+(k:Int),e)])
theorem gS{j:Nat}(h:ci p j=none): ∀ {k:Nat},j≤k→ci p k=none:=by
 intro k hk
 induction k with
 | zero=>rw [Nat.le_zero.1 hk] at h;exact h
 | succ k ih=>
   rcases ES k j with h1|h1
   ·rw [show k+1=j by omega];exact h
   ·show(match ci p k with|none=>none|some (u,l)=>_)=none
    rw [ih h1]
theorem p8{u:List Bool}{it:List UInt8}{k:Nat}{e:bf}(h:ju u it=some (k,e)):1≤k∧k<28∧u[k]? ≠some true:=by
 unfold ju at h
 split at h
 ·cases h
 ·split at h
  ·cases h
  ·rename_i c r hc
   split at h
   ·cases h;exact⟨by omega,by omega,fun h=>hc (.inr (.inr h))⟩
   ·obtain⟨x,_,hx⟩:=Eu.1 h
    cases hx
    exact⟨by omega,by omega,fun h=>hc (.inr (.inr h))⟩
theorem yw: ∀ (l:List Bool) (i:Nat),l[i]? =some false→(l.set i true).count false+1=l.count false
 | [],i,h=>by simp at h
 | b :: l,0,h=>by
   simp only [EC,Ej] at h
   subst h
   simp [List.count_cons]
 | b :: l,i+1,h=>by
   have:=yw l i (by simpa using h)
   simp only [List.set_cons_succ,List.count_cons]
   omega
theorem lc{p:List UInt8}: ∀ {j:Nat} {u:List Bool} {l:List Bn.El},ci p j=some (u,l)→u.length=28∧l.length+u.count false=28
 | 0,u,l,h=>by
   unfold ci at h
   cases h
   exact⟨E2,by simp⟩
 | j+1,u,l,h=>by
   unfold ci at h
   cases hr:ci p j with
   | none=>rw [hr] at h;cases h
   | some x=>
     obtain⟨u0,l0⟩:=x
     obtain⟨h1,h2⟩:=lc hr
     rw [hr] at h
     simp only at h
     split at h
     ·cases h;exact⟨h1,h2⟩
     ·cases hb:ju u0 (ck p j)with
      | none=>rw [hb] at h;cases h
      | some y=>
        obtain⟨k,e⟩:=y
        rw [hb] at h
        simp only [Ej,Et] at h
        obtain⟨rfl,rfl⟩:=h
        obtain⟨k1,k2,k3⟩:=p8 hb
        have hf:u0[k]? =some false:=by
         rw [En (by omega)] at k3 ⊢
         cases hx:u0[k] with
         | true=>rw [hx] at k3;exact absurd rfl k3
         | false=>rfl
        have:=yw u0 k hf
        exact⟨by rw [List.length_set];exact h1,by rw [EI,List.length_singleton];omega⟩
theorem qA{j:Nat}{u:List Bool}{l:List Bn.El}(h:ci p j=some (u,l)):l.length≤28:=by
 have:=(lc h).2
 omega
def lY(l:List Bn.El):List Bn.El:=(Sort.sort Bn.ltP l.toArray).toList
def yQ(s:List Bn.El):Nat→Bool
 | 0=>false
 | i+1=>yQ s i || (decide (0<i) && decide (Bn.ordP (s.getD i (0,cp)) (s.getD (i-1) (0,cp))=0))
def x6:List Bn.El→Bool
 | []=>false
 | x :: _=>eE x.2 cp
def okB(s:List Bn.El):Bool:= !(yQ s s.length) && x6 s
def gj(p:List UInt8):Option (List Bn.El):=if ct p=true∧kP p=2 then(match ci p (aj p)with
 | none=>none
 | some (_,l)=>if okB (lY l)=true then some (lY l) else none) else none
abbrev nZ(l:List Bn.El):VO:=Bn.rowP l.length l.toArray
abbrev usO(u:List Bool):VO:=an 121 (u.map fun b=> .sc (.bool b))
abbrev lvO(s:SV):VO:=an 81 [s]
abbrev nP(b:Bool):VO:=an 4 [.sc (.bool b)]
abbrev l8(e:Int):VO:=an 28 [.sc (.int .i64 e)]
def LvAt(H:ay)(s:SV)(l:List Bn.El)(lo hi:Nat):Prop:=(l= []∧s=cF)∨ ∃ r,l≠ []∧s = .slu r 0 l.length∧lo≤r∧r<hi∧H.at' r=some (nZ l)
theorem LvAt.frame{l:List Bn.El}{lo hi hi':Nat}(h:LvAt H s l lo hi)(hh:hi≤hi')(hf: ∀ m,lo≤m→m<hi→H'.at' m=H.at' m):LvAt H' s l lo hi':=by
 rcases h with h|⟨r,h1,h2,h3,h4,h5⟩
 ·exact .inl h
 ·exact .inr ⟨r,h1,h2,h3,by omega,(hf r h3 h4).trans h5⟩
theorem Bd(hp:p.length=1024):Fnc Tryz.prog 68 [.agg (pgS p)] H nx (fun q=>q=(.sc (.int .u8 ((kP p).toNat:Int)),H,nx)):=by
 have h12:kP p=p[12]'(by omega):=by unfold kP;rw [En (by omega)];rfl
 rw [h12]
 refine Fnc.bW (Free.sc _) ?_
 refine Gj Tryz.func68 rfl rfl ?_
 have hc:=zG (p:=p) (i:=12) (by omega)
 repeat first|apply ah;rfl|apply ii (q:=12);rfl;rfl;rfl;rfl;exact(F.un _ rfl);exact(F.sz _ rfl);(focus(omega));(focus(omega))|refine bO (aK (F.ag _ rfl) rfl (by repeat(exact ae)) hc) rfl rfl rfl ?_
 (apply b8 Tryz.func68 Tryz.results68;rfl)
 exact⟨rfl,EN _,fun m hm=>ab _ _ (by omega)⟩
end
end Go.Proofs.YtelnglhodnoclaaGreat
end
section
namespace Go.Proofs.YtelnglhodnoclaaGreat
namespace Ow
open Go Go.Sy
abbrev El:=bf×Int
abbrev elV(x:El):List Value:= [.string x.1.1,.int .i64 x.1.2.1,.int .i64 x.1.2.2,.int .i64 x.2]
abbrev elS(x:El):SV:= .agg ((elV x).map .sc)
abbrev rowP(n:Nat)(d:Array El):VO:=arr false n 4 128 elV d
theorem recP:RecOf elV 4:=⟨fun _=>rfl,fun a v hv=>by
 simp only [elV,E4,List.not_mem_nil,or_false] at hv
 rcases hv with rfl|rfl|rfl|rfl <;> rfl⟩
def ordP(y x:El):Int:=zL x.1 y.1
def ltP(x y:El):Bool:=decide (ordP y x<0)
abbrev cmpF:SV:= .fn (.func 73) [] []
theorem ar{A:Type} [Inhabited A](d:Array A)(i j:Nat):(Sort.swp d i j).size=d.size:=by simp [Sort.swp]
theorem cmp_spec(a b:El):Ctr Tryz.prog 73 [elS a,elS b] [] (fun c=>c=⟨.sc (.int .i64 (ordP b a)),[]⟩):=by
 refine Ctr.at 0 rfl ?_
 refine Gj Tryz.func73 rfl rfl ?_
 repeat first|apply ah;rfl|refine cN rfl rfl rfl (F.ag _ rfl) rfl (aB 3 0 rfl rfl) ?_|refine ey (lm a.1 b.1) [] rfl rfl rfl (by kernel_rfl) rfl (Gh rfl) rfl trivial ?_
 (apply b8 Tryz.func73 Tryz.results73;rfl)
 (refine⟨_,rfl,Ends.val (Gh rfl) rfl ?_ ?_⟩)
 ·rfl
 ·trivial
theorem pN(n a b:Nat)(d:Array El)(hn:n<4611686018427387904)(hd:d.size=n)(hab:a≤b)(hb:b≤n) :
 Ctr Tryz.prog 117 [.slu 0 0 n,.sc (.int .i64 (a:Int)),.sc (.int .i64 (b:Int)),cmpF] [rowP n d] (fun c=>c=⟨.tup [],[some (rowP n (Sort.insertionSort ltP d a b))]⟩):=by
 refine Gj Tryz.func117 rfl rfl ?_
 repeat first|apply ah;rfl|apply aC;rfl;omega;omega
 refine cS 1 (fun s:Nat×Array El=> [(0,.slu 0 0 n),(1,.sc (.int .i64 (a:Int))),(2,.sc (.int .i64 (b:Int))),(3,cmpF),(8,.sc (.int .i64 (s.1:Int)))]) (fun s=> [some (rowP n s.2)]) (fun s=>s.1≤n+1∧a<s.1∧s.2.size=n∧Sort.insOuter ltP a b s.1 s.2=Sort.insertionSort ltP d a b) (fun s=>n+1-s.1) (a+1,d) []
  (fun _=>rfl) ⟨by omega,by omega,hd,rfl⟩ ?_ (fun _=>rfl) (fun _=>rfl) ?_
 ·(exact Gs rfl rfl rfl ⟨ai rfl,trivial⟩)
 rintro⟨i,d1⟩ ⟨hi,hai,hd1,ho⟩ ih
 simp only at hi hai hd1 ho ih ⊢
 repeat apply ah;rfl
 refine bq rfl rfl rfl rfl ?_ ?_
 all_goals intro h1
 ·repeat apply ah;rfl
  have ho2:Sort.insOuter ltP a b (i+1) (Sort.insInner ltP a i d1)=Sort.insertionSort ltP d a b:=by
   rw [← ho]
   conv=>rhs;rw [Sort.insOuter,EQ (by omega)]
  refine cS 1 (fun s:Nat×Array El=> [(0,.slu 0 0 n),(1,.sc (.int .i64 (a:Int))),(2,.sc (.int .i64 (b:Int))),(3,cmpF),(8,.sc (.int .i64 (i:Int))),(9,.sc (.int .i64 (s.1:Int)))]) (fun s=> [some (rowP n s.2)]) (fun s=>s.1≤i∧s.2.size=n∧Sort.insInner ltP a s.1 s.2=Sort.insInner ltP a i d1) (fun s=>s.1) (i,d1) []
   (fun _=>rfl) ⟨by omega,hd1,rfl⟩ ?_ (fun _=>rfl) (fun _=>rfl) ?_
  ·(exact Gs rfl rfl rfl ⟨ai rfl,trivial⟩)
  rintro⟨j,d2⟩ ⟨hj,hd2,hin⟩ ihj
  simp only at hj hd2 hin ihj ⊢
  repeat apply ah;rfl
  refine aS (by kernel_rfl) (by kernel_rfl) ?_
  repeat apply az;rfl
  refine fV rfl rfl rfl rfl ?_ ?_
  all_goals intro h2
  ·obtain⟨j,rfl⟩: ∃ j',j=j'+1:=⟨j-1,by omega⟩
   repeat first|apply az;rfl|refine ba (am rfl rfl (.inr (.inl ⟨rfl,(Ek _ ⟨(by omega),(by omega)⟩).symm⟩))) rfl rfl rfl ?_|refine ak (q:=j+1) rfl rfl rfl rfl (F.un _ rfl) (F.sz _ rfl) rfl (by omega) (by omega) (by omega) ?_|refine ak (q:=j) rfl rfl rfl rfl (F.un _ rfl) (F.sz _ rfl) rfl (by omega) (by omega) (by omega) ?_|refine aX rfl rfl rfl (F.ag _ rfl) (recP) rfl (by(omega)) (by(omega)) ?_|refine bj rfl rfl rfl rfl (by kernel_rfl) rfl (Ctr.callV (cmp_spec d2[j+1]! d2[j]!) [] rfl (Gh rfl) rfl trivial rfl) ?_
   refine bz rfl rfl rfl rfl ?_ ?_
   all_goals intro h3
   ·repeat apply az;rfl
    refine au ⟨by kernel_rfl,?_,?_⟩;(focus(repeat(first|exact Gu|apply cc;rfl|apply bN;rfl|refine⟨.inr (by(repeat(refine⟨(by first|exact aA (F.un _ rfl) (F.sz _ rfl) rfl rfl rfl (by omega) (by omega) (by omega)|exact am rfl rfl (.inr (.inl ⟨rfl,(Ek _ ⟨by omega,by omega⟩).symm⟩))),?_⟩));exact Gu),?_⟩|refine⟨.inl (by kernel_rfl),?_⟩)))
    repeat apply ah;rfl
    refine aS (by kernel_rfl) (by kernel_rfl) ?_
    repeat first|apply az;rfl|refine ba (am rfl rfl (.inr (.inl ⟨rfl,(Ek _ ⟨(by omega),(by omega)⟩).symm⟩))) rfl rfl rfl ?_|refine ak (q:=j+1) rfl rfl rfl rfl (F.un _ rfl) (F.sz _ rfl) rfl (by omega) (by omega) (by omega) ?_|refine ak (q:=j) rfl rfl rfl rfl (F.un _ rfl) (F.sz _ rfl) rfl (by omega) (by omega) (by omega) ?_|refine aX rfl rfl rfl (F.ag _ rfl) (recP) rfl (by(omega)) (by(omega)) ?_|refine c8 (bX (F.sz _ rfl) rfl rfl rfl (recP) rfl (by first|omega|(simp only [Em,ar];omega)) (by first|omega|(simp only [Em,ar];omega))) rfl rfl ?_
    refine au ⟨by kernel_rfl,?_,?_⟩;(focus(repeat(first|exact Gu|apply cc;rfl|apply bN;rfl|refine⟨.inr (by(repeat(refine⟨(by first|exact aA (F.un _ rfl) (F.sz _ rfl) rfl rfl rfl (by omega) (by omega) (by omega)|exact am rfl rfl (.inr (.inl ⟨rfl,(Ek _ ⟨by omega,by omega⟩).symm⟩))),?_⟩));exact Gu),?_⟩|refine⟨.inl (by kernel_rfl),?_⟩)))
    repeat first|apply ah;rfl|apply aC;rfl;omega;omega
    refine ihj _ _ _ (j,Sort.swp d2 (j+1) j) [] ⟨by omega,by rw [ar];exact hd2,?_⟩ (by simp only;omega) ?_
    ·rw [← hin]
     conv=>rhs;rw [Sort.insInner,EQ (by simp only [ltP,ED,Gg];exact⟨by omega,h3⟩)]
    ·(refine⟨(Gh rfl),rfl,(by repeat(first|exact Gu|refine⟨rfl,?_⟩|refine⟨cO (by(omega)),?_⟩)),⟨ai rfl,trivial⟩⟩)
   ·repeat apply az;rfl
    refine au ⟨by kernel_rfl,?_,?_⟩;(focus(repeat(first|exact Gu|apply cc;rfl|apply bN;rfl|refine⟨.inr (by(repeat(refine⟨(by first|exact aA (F.un _ rfl) (F.sz _ rfl) rfl rfl rfl (by omega) (by omega) (by omega)|exact am rfl rfl (.inr (.inl ⟨rfl,(Ek _ ⟨by omega,by omega⟩).symm⟩))),?_⟩));exact Gu),?_⟩|refine⟨.inl (by kernel_rfl),?_⟩)))
    repeat first|apply ah;rfl|apply aC;rfl;omega;omega
    have hin2:Sort.insInner ltP a i d1=d2:=by
     rw [← hin,Sort.insInner,EP (by simp only [ltP,ED,Gg];omega)]
    refine ih _ _ _ (i+1,d2) [] ⟨by omega,by omega,hd2,by rw [← hin2];exact ho2⟩ (by simp only;omega) ?_
    (exact Gs rfl rfl rfl ⟨ai rfl,trivial⟩)
  ·repeat first|apply az;rfl|refine bA rfl rfl ?_
   refine au ⟨by kernel_rfl,?_,?_⟩;(focus(repeat(first|exact Gu|apply oC;rfl|apply bN;rfl|refine⟨.inl rfl,?_⟩)))
   repeat first|apply ah;rfl|apply aC;rfl;omega;omega
   have hin2:Sort.insInner ltP a i d1=d2:=by
    rw [← hin]
    cases j with
    | zero=>rfl
    | succ j=>rw [Sort.insInner,EP (by simp only [ED,Gg];omega)]
   refine ih _ _ _ (i+1,d2) [] ⟨by omega,by omega,hd2,by rw [← hin2];exact ho2⟩ (by simp only;omega) ?_
   (exact Gs rfl rfl rfl ⟨ai rfl,trivial⟩)
 ·repeat apply ah;rfl
  have ho2:d1=Sort.insertionSort ltP d a b:=by rw [← ho,Sort.insOuter,EP (by omega)]
  apply jI Tryz.func117 (congrArg Array.toList Tryz.results117)
  (focus(repeat(exact Gk)))
  refine⟨_,rfl,Ends.mk [] (Gh rfl) rfl rfl ?_⟩
  rw [← ho2]
  exact⟨ai rfl,trivial⟩
end Ow
end Go.Proofs.YtelnglhodnoclaaGreat
end
section
namespace Go.Proofs.YtelnglhodnoclaaGreat
namespace Ow
open Go Go.Sy
abbrev D7:SV:= .sc (.func (.func 73) #[] #[])
abbrev ArP:=Array El
theorem ge: ∀ l:List (El),(l.flatMap elV).length=l.length*4
 | []=>rfl
 | a :: l=>by
   rw [List.flatMap_cons,EI,ge l]
   show 4+l.length*4=(l.length+1)*4
   omega
end Ow
end Go.Proofs.YtelnglhodnoclaaGreat
end
section
namespace Go.Proofs.YtelnglhodnoclaaGreat
open Go Go.Sy Go.Sl Go.RowKit
theorem kw(a b:bf):bl a b=true↔bLt a.1 b.1=true∨(a.1=b.1∧(a.2.1<b.2.1∨a.2.1=b.2.1∧a.2.2<b.2.2)):=by
 by_cases h:a.1=b.1
 ·rw [t6 (by simp only [bne,(MapKept.bytes_beq a.1 b.1).2 h];rfl),Gg]
  constructor
  ·intro h2;exact .inr ⟨h,h2⟩
  ·rintro(h2|⟨_,h2⟩)
   ·rw [h,fI] at h2;cases h2
   ·exact h2
 ·rw [t5 (by cases hh:(a.1 == b.1)with|true=>exact absurd ((MapKept.bytes_beq a.1 b.1).1 hh) h|false=>simp only [bne,hh];rfl)]
  exact⟨.inl,fun h2=>h2.resolve_right fun h3=>h h3.1⟩
theorem dx(a:bf):bl a a=false:=by
 cases h:bl a a with
 | false=>rfl
 | true=>
   rcases(kw a a).1 h with h|⟨_,h⟩
   ·rw [fI] at h;cases h
   ·omega
theorem eU{a b c:bf}(h1:bl a b=true)(h2:bl b c=true):bl a c=true:=by
 rw [kw] at h1 h2 ⊢
 rcases h1 with h1|⟨e1,h1⟩
 ·rcases h2 with h2|⟨e2,h2⟩
  ·exact .inl (rR h1 h2)
  ·exact .inl (e2 ▸ h1)
 ·rcases h2 with h2|⟨e2,h2⟩
  ·exact .inl (e1 ▸ h2)
  ·exact .inr ⟨e1.trans e2,by omega⟩
theorem fc{a b:bf}(h1:bl a b=false)(h2:bl b a=false):a=b:=by
 have n1: ¬ (bl a b=true):=by rw [h1];decide
 have n2: ¬ (bl b a=true):=by rw [h2];decide
 rw [kw] at n1 n2
 have e1:a.1=b.1:=by
  cases h:bLt a.1 b.1 with
  | true=>exact absurd (.inl h) n1
  | false=>
    cases h':bLt b.1 a.1 with
    | true=>exact absurd (.inl h') n2
    | false=>exact uA h h'
 have m1: ¬ (a.2.1<b.2.1∨a.2.1=b.2.1∧a.2.2<b.2.2):=fun h=>n1 (.inr ⟨e1,h⟩)
 have m2: ¬ (b.2.1<a.2.1∨b.2.1=a.2.1∧b.2.2<a.2.2):=fun h=>n2 (.inr ⟨e1.symm,h⟩)
 refine Prod.ext e1 (Prod.ext ?_ ?_) <;> omega
theorem yy{a b:ByteArray}(h:yR a b=0):a=b:=by
 unfold yR at h
 cases h1:bLt a b with
 | true=>rw [h1] at h;simp at h
 | false=>
   rw [h1] at h
   cases h2:bLt b a with
   | true=>rw [h2] at h;simp at h
   | false=>exact uA h1 h2
theorem rJ{a b:Int}(h:Ao a b=0):a=b:=by
 unfold Ao at h
 split at h
 ·omega
 ·split at h <;> omega
theorem xg{a b:bf}:zL a b=0↔a=b:=by
 constructor
 ·intro h
  unfold zL or3 at h
  split at h
  ·rename_i h1
   split at h
   ·rename_i h2
    exact Prod.ext (yy h1) (Prod.ext (rJ h2) (rJ h))
   ·rename_i h2;exact absurd h h2
  ·rename_i h1;exact absurd h h1
 ·rintro rfl
  unfold zL or3 yR Ao
  simp [fI]
theorem swoE{A:Type}(f:A→bf):Sort.SWO (fun x y:A=>bl (f x) (f y)):=by
 refine⟨fun a=>dx _,fun a b c h1 h2=>eU h1 h2,fun a b c h1 h2=>?_⟩
 cases h:bl (f a) (f c)with
 | false=>rfl
 | true=>
   exfalso
   cases h3:bl (f b) (f a)with
   | true=>have:=eU h3 h;rw [h2] at this;cases this
   | false=>rw [fc h1 h3,h2] at h;cases h
theorem oh{A:Type} [Inhabited A]{lt:A→A→Bool}(h:Sort.SWO lt)(l:List A):(Sort.sort lt l.toArray).toList.Perm l∧(Sort.sort lt l.toArray).toList.Pairwise (fun x y=>lt y x=false):=by
 obtain⟨⟨h1,h2,h3⟩,h4⟩:=Sort.sort_sorts lt h l.toArray
 have hsz:(Sort.sort lt l.toArray).size=l.length:=by simpa using h1
 constructor
 ·have e1:((Sort.sort lt l.toArray).extract 0 l.toArray.size)=Sort.sort lt l.toArray:=by
   rw [show l.toArray.size=(Sort.sort lt l.toArray).size by simpa using h1.symm]
   exact Array.extract_size
  have e2:(l.toArray.extract 0 l.toArray.size)=l.toArray:=Array.extract_size
  rw [e1,e2] at h3
  exact h3
 ·rw [List.pairwise_iff_getElem]
  intro i j hi hj hij
  have hi':i<(Sort.sort lt l.toArray).size:=hi
  have hj':j<(Sort.sort lt l.toArray).size:=hj
  have:=h4 i j (EF _) hij (by simp;omega)
  rw [getElem!_pos _ i hi',getElem!_pos _ j hj'] at this
  simp only [Array.getElem_toList]
  exact this
theorem CT:Sort.SWO Bn.ltP:=swoE (fun x:Bn.El=>x.2)
theorem CS:Sort.SWO Ow.ltP:=swoE (fun x:Ow.El=>x.1)
theorem lb(l:List Bn.El):(lY l).Perm l∧(lY l).Pairwise (fun x y=>bl y.2 x.2=false):=oh CT l
theorem mc(l:List Bn.El):(lY l).length=l.length:=(lb l).1.length_eq
theorem zm(l:List Bn.El):Bn.rowP l.length (Sort.sort Bn.ltP l.toArray)=nZ (lY l):=by
 show dat false l.length 4 _ _=dat false (lY l).length 4 _ _
 rw [mc]
 rfl
end Go.Proofs.YtelnglhodnoclaaGreat
end
section
namespace Go.Sy
open Go Go.Sl Go.RowKit
section
variable {P:Program} {ro:Option Nat} {fn nt nx:Nat} {T:Tr SV} {k:List AIt} {dfs:List ADf} {H:ay} {Q:Pst}
theorem fK{id n:Nat}{st:LoopState}{pend:Option Code}{f2 nt2:Nat}{T2:Tr SV}{ps:Array Tmp}{as1 bd:Code}{dr:Nat}(hx:nr id k=none)(hl:H.at' n=some (.loop st pend f2 nt2 T2 ps as1 bd dr))
 (h:Q (.sc (.bool false),H.set n (.loop .done (some (.exit id)) f2 nt2 T2 ps as1 bd dr),nx)):Wp P (some n) ⟨fn,nt,T,.code (.exit id) :: k,dfs,H,nx⟩ Q:=by
 refine .step ?_
 simp only [pg,tc,hx,lQ,t7,hl]
 exact h
end
end Go.Sy
end
section
namespace Go.Proofs.YtelnglhodnoclaaGreat
namespace Bn
open Go Go.Sy
section
variable {first hi root:Nat}{d:Array El}{lt:El→El→Bool}
theorem ez(lt:El→El→Bool)(hi first root:Nat)(d:Array El):(Sort.siftDown lt hi first root d).size=d.size:=by
 induction h:hi-root using Nat.strongRecOn generalizing root d with
 | _ m ih=>
   subst h
   unfold Sort.siftDown
   split
   ·rfl
   ·split
    ·split
     ·rfl
     ·split
      ·rw [ih _ (by omega) _ _ rfl,ar]
      ·rfl
    ·split
     ·rfl
     ·rw [ih _ (by omega) _ _ rfl,ar]
theorem mI(h:hi≤2*root+1):Sort.siftDown lt hi first root d=d:=by
 unfold Sort.siftDown
 rw [dif_pos h]
theorem wJ(h:2*root+2<hi)(hl:lt d[first+(2*root+1)]! d[first+(2*root+2)]! =true) :
 Sort.siftDown lt hi first root d=if lt d[first+root]! d[first+(2*root+2)]! =true then Sort.siftDown lt hi first (2*root+2) (Sort.swp d (first+root) (first+(2*root+2))) else d:=by
 conv=>lhs;unfold Sort.siftDown
 rw [dif_neg (by omega),EQ (by simp only [ED,Gg];exact⟨by omega,hl⟩)]
 cases lt d[first+root]! d[first+(2*root+2)]!
 ·simp
 ·simp only [Bool.not_true,Bool.false_eq_true,if_false,if_true]
  rw [dif_pos (by omega)]
theorem qv(h:2*root+1<hi)(hl:hi≤2*root+2∨lt d[first+(2*root+1)]! d[first+(2*root+2)]! =false) :
 Sort.siftDown lt hi first root d=if lt d[first+root]! d[first+(2*root+1)]! =true then Sort.siftDown lt hi first (2*root+1) (Sort.swp d (first+root) (first+(2*root+1))) else d:=by
 conv=>lhs;unfold Sort.siftDown
 rw [dif_neg (by omega),EP (by
  simp only [ED,Gg]
  rintro⟨h1,h2⟩
  rcases hl with hl|hl
  ·omega
  ·rw [show first+(2*root+2)=first+(2*root+1)+1 by omega,h2] at hl;cases hl)]
 cases lt d[first+root]! d[first+(2*root+1)]! <;> simp
theorem iw(n lo hi first:Nat)(d:Array El)(hn:n<4611686018427387904)(hd:d.size=n)(hf:first+hi≤n)(hlo:lo≤n) :
 Ctr Tryz.prog 126 [.slu 0 0 n,.sc (.int .i64 (lo:Int)),.sc (.int .i64 (hi:Int)),.sc (.int .i64 (first:Int)),cmpF] [rowP n d] (fun c=>c=⟨.tup [],[some (rowP n (Sort.siftDown ltP hi first lo d))]⟩):=by
 refine Gj Tryz.func126 rfl rfl ?_
 repeat apply ah;rfl
 refine cS 1 (fun s:Nat×Array El=> [(0,.slu 0 0 n),(2,.sc (.int .i64 (hi:Int))),(3,.sc (.int .i64 (first:Int))),(4,cmpF),(10,.sc (.int .i64 (s.1:Int)))]) (fun s=> [some (rowP n s.2)]) (fun s=>s.1≤n∧s.2.size=n∧Sort.siftDown ltP hi first s.1 s.2=Sort.siftDown ltP hi first lo d) (fun s=>n-s.1) (lo,d) []
  (fun _=>rfl) ⟨hlo,hd,rfl⟩ ?_ (fun _=>rfl) (fun _=>rfl) ?_
 ·(exact Gs rfl rfl rfl ⟨ai rfl,trivial⟩)
 rintro⟨r,d1⟩ ⟨hr,hd1,ho⟩ ih
 simp only at hr hd1 ho ih ⊢
 repeat first|apply ah;rfl|apply aC;rfl;omega;omega
 refine cL rfl rfl rfl rfl ?_ ?_
 all_goals intro h1
 ·repeat apply ah;rfl
  ((apply jI Tryz.func126 (congrArg Array.toList Tryz.results126));(focus(repeat(exact Gk)));refine⟨_,rfl,Ends.mk [] (Gh rfl) rfl rfl ?_⟩)
  rw [← ho,mI (by omega)]
  exact⟨ai rfl,trivial⟩
 ·repeat apply ah;rfl
  refine aS (by kernel_rfl) (by kernel_rfl) ?_
  repeat first|apply az;rfl|refine ba (am rfl rfl (.inl ⟨rfl,(Ek _ ⟨(by omega),(by omega)⟩).symm⟩)) rfl rfl rfl ?_
  refine bz rfl rfl rfl rfl ?_ ?_
  all_goals intro h2
  ·repeat first|apply az;rfl|refine ba (am rfl rfl (.inl ⟨rfl,(Ek _ ⟨(by omega),(by omega)⟩).symm⟩)) rfl rfl rfl ?_|refine aX rfl rfl rfl (F.ag _ rfl) (recP) rfl (by(omega)) (by(omega)) ?_|refine ak (q:=first+(2*r+1)) rfl rfl rfl rfl (F.un _ rfl) (F.sz _ rfl) rfl (by omega) (by omega) (by omega) ?_|refine ak (q:=first+(2*r+2)) rfl rfl rfl rfl (F.un _ rfl) (F.sz _ rfl) rfl (by omega) (by omega) (by omega) ?_|refine bj rfl rfl rfl rfl (by kernel_rfl) rfl (Ctr.callV (cmp_spec d1[first+(2*r+1)]! d1[first+(2*r+2)]!) [] rfl (Gh rfl) rfl trivial rfl) ?_
   refine bz rfl rfl rfl rfl ?_ ?_
   all_goals intro h3
   ·have e:=wJ (lt:=ltP) (hi:=hi) (first:=first) (root:=r) (d:=d1) (by omega) (by simpa [ltP] using h3)
    repeat apply az;rfl
    refine au ⟨by kernel_rfl,?_,?_⟩;(focus(repeat(first|exact Gu|apply cc;rfl|apply bN;rfl|refine⟨.inr (by(repeat(refine⟨(by first|exact aA (F.un _ rfl) (F.sz _ rfl) rfl rfl rfl (by omega) (by omega) (by omega)|exact am rfl rfl (.inl ⟨rfl,(Ek _ ⟨by omega,by omega⟩).symm⟩)),?_⟩));exact Gu),?_⟩|refine⟨.inl (by kernel_rfl),?_⟩)))
    repeat first|apply ah;rfl|apply aC;rfl;omega;omega
    refine aS (by kernel_rfl) (by kernel_rfl) ?_
    repeat first|apply az;rfl|refine ba (am rfl rfl (.inl ⟨rfl,(Ek _ ⟨(by omega),(by omega)⟩).symm⟩)) rfl rfl rfl ?_|refine aX rfl rfl rfl (F.ag _ rfl) (recP) rfl (by(omega)) (by(omega)) ?_|refine ak (q:=first+r) rfl rfl rfl rfl (F.un _ rfl) (F.sz _ rfl) rfl (by omega) (by omega) (by omega) ?_|refine ak (q:=first+(2*r+2)) rfl rfl rfl rfl (F.un _ rfl) (F.sz _ rfl) rfl (by omega) (by omega) (by omega) ?_|refine bj rfl rfl rfl rfl (by kernel_rfl) rfl (Ctr.callV (cmp_spec d1[first+r]! d1[first+(2*r+2)]!) [] rfl (Gh rfl) rfl trivial rfl) ?_
    refine bz rfl rfl rfl rfl ?_ ?_
    all_goals intro h4
    ·rw [EQ (by simpa [ltP] using h4)] at e
     repeat apply az;rfl
     refine au ⟨by kernel_rfl,?_,?_⟩;(focus(repeat(first|exact Gu|apply cc;rfl|apply bN;rfl|refine⟨.inr (by(repeat(refine⟨(by first|exact aA (F.un _ rfl) (F.sz _ rfl) rfl rfl rfl (by omega) (by omega) (by omega)|exact am rfl rfl (.inl ⟨rfl,(Ek _ ⟨by omega,by omega⟩).symm⟩)),?_⟩));exact Gu),?_⟩|refine⟨.inl (by kernel_rfl),?_⟩)))
     repeat apply ah;rfl
     refine aS (by kernel_rfl) (by kernel_rfl) ?_
     repeat first|apply az;rfl|refine ba (am rfl rfl (.inl ⟨rfl,(Ek _ ⟨(by omega),(by omega)⟩).symm⟩)) rfl rfl rfl ?_|refine aX rfl rfl rfl (F.ag _ rfl) (recP) rfl (by(omega)) (by(omega)) ?_|refine c8 (bX (F.sz _ rfl) rfl rfl rfl (recP) rfl (by first|omega|(simp only [Em,ar];omega)) (by first|omega|(simp only [Em,ar];omega))) rfl rfl ?_|refine ak (q:=first+r) rfl rfl rfl rfl (F.un _ rfl) (F.sz _ rfl) rfl (by omega) (by omega) (by omega) ?_|refine ak (q:=first+(2*r+2)) rfl rfl rfl rfl (F.un _ rfl) (F.sz _ rfl) rfl (by omega) (by omega) (by omega) ?_
     refine au ⟨by kernel_rfl,?_,?_⟩;(focus(repeat(first|exact Gu|apply cc;rfl|apply bN;rfl|refine⟨.inr (by(repeat(refine⟨(by first|exact aA (F.un _ rfl) (F.sz _ rfl) rfl rfl rfl (by omega) (by omega) (by omega)|exact am rfl rfl (.inl ⟨rfl,(Ek _ ⟨by omega,by omega⟩).symm⟩)),?_⟩));exact Gu),?_⟩|refine⟨.inl (by kernel_rfl),?_⟩)))
     repeat apply ah;rfl
     refine ih _ _ _ (2*r+2,Sort.swp d1 (first+r) (first+(2*r+2))) [] ⟨by simp only;omega,by rw [ar];exact hd1,by rw [← ho,e]⟩ (by simp only;omega) ?_
     (exact Gs rfl rfl rfl ⟨ai rfl,trivial⟩)
    ·rw [EP (by simpa [ltP] using h4)] at e
     repeat apply az;rfl
     refine au ⟨by kernel_rfl,?_,?_⟩;(focus(repeat(first|exact Gu|apply cc;rfl|apply bN;rfl|refine⟨.inr (by(repeat(refine⟨(by first|exact aA (F.un _ rfl) (F.sz _ rfl) rfl rfl rfl (by omega) (by omega) (by omega)|exact am rfl rfl (.inl ⟨rfl,(Ek _ ⟨by omega,by omega⟩).symm⟩)),?_⟩));exact Gu),?_⟩|refine⟨.inl (by kernel_rfl),?_⟩)))
     repeat apply ah;rfl
     ((apply bw Tryz.func126 (congrArg Array.toList Tryz.results126));(focus(repeat(exact Gk)));refine⟨_,rfl,Ends.mk [] (Gh rfl) rfl rfl ?_⟩)
     rw [← ho,e]
     exact⟨ai rfl,trivial⟩
   ·have e:=qv (lt:=ltP) (hi:=hi) (first:=first) (root:=r) (d:=d1) (by omega) (.inr (by simpa [ltP] using h3))
    repeat apply az;rfl
    refine au ⟨by kernel_rfl,?_,?_⟩;(focus(repeat(first|exact Gu|apply cc;rfl|apply bN;rfl|refine⟨.inr (by(repeat(refine⟨(by first|exact aA (F.un _ rfl) (F.sz _ rfl) rfl rfl rfl (by omega) (by omega) (by omega)|exact am rfl rfl (.inl ⟨rfl,(Ek _ ⟨by omega,by omega⟩).symm⟩)),?_⟩));exact Gu),?_⟩|refine⟨.inl (by kernel_rfl),?_⟩)))
    repeat apply ah;rfl
    refine aS (by kernel_rfl) (by kernel_rfl) ?_
    repeat first|apply az;rfl|refine ba (am rfl rfl (.inl ⟨rfl,(Ek _ ⟨(by omega),(by omega)⟩).symm⟩)) rfl rfl rfl ?_|refine aX rfl rfl rfl (F.ag _ rfl) (recP) rfl (by(omega)) (by(omega)) ?_|refine ak (q:=first+r) rfl rfl rfl rfl (F.un _ rfl) (F.sz _ rfl) rfl (by omega) (by omega) (by omega) ?_|refine ak (q:=first+(2*r+1)) rfl rfl rfl rfl (F.un _ rfl) (F.sz _ rfl) rfl (by omega) (by omega) (by omega) ?_|refine bj rfl rfl rfl rfl (by kernel_rfl) rfl (Ctr.callV (cmp_spec d1[first+r]! d1[first+(2*r+1)]!) [] rfl (Gh rfl) rfl trivial rfl) ?_
    refine bz rfl rfl rfl rfl ?_ ?_
    all_goals intro h4
    ·rw [EQ (by simpa [ltP] using h4)] at e
     repeat apply az;rfl
     refine au ⟨by kernel_rfl,?_,?_⟩;(focus(repeat(first|exact Gu|apply cc;rfl|apply bN;rfl|refine⟨.inr (by(repeat(refine⟨(by first|exact aA (F.un _ rfl) (F.sz _ rfl) rfl rfl rfl (by omega) (by omega) (by omega)|exact am rfl rfl (.inl ⟨rfl,(Ek _ ⟨by omega,by omega⟩).symm⟩)),?_⟩));exact Gu),?_⟩|refine⟨.inl (by kernel_rfl),?_⟩)))
     repeat apply ah;rfl
     refine aS (by kernel_rfl) (by kernel_rfl) ?_
     repeat first|apply az;rfl|refine ba (am rfl rfl (.inl ⟨rfl,(Ek _ ⟨(by omega),(by omega)⟩).symm⟩)) rfl rfl rfl ?_|refine aX rfl rfl rfl (F.ag _ rfl) (recP) rfl (by(omega)) (by(omega)) ?_|refine c8 (bX (F.sz _ rfl) rfl rfl rfl (recP) rfl (by first|omega|(simp only [Em,ar];omega)) (by first|omega|(simp only [Em,ar];omega))) rfl rfl ?_|refine ak (q:=first+r) rfl rfl rfl rfl (F.un _ rfl) (F.sz _ rfl) rfl (by omega) (by omega) (by omega) ?_|refine ak (q:=first+(2*r+1)) rfl rfl rfl rfl (F.un _ rfl) (F.sz _ rfl) rfl (by omega) (by omega) (by omega) ?_
     refine au ⟨by kernel_rfl,?_,?_⟩;(focus(repeat(first|exact Gu|apply cc;rfl|apply bN;rfl|refine⟨.inr (by(repeat(refine⟨(by first|exact aA (F.un _ rfl) (F.sz _ rfl) rfl rfl rfl (by omega) (by omega) (by omega)|exact am rfl rfl (.inl ⟨rfl,(Ek _ ⟨by omega,by omega⟩).symm⟩)),?_⟩));exact Gu),?_⟩|refine⟨.inl (by kernel_rfl),?_⟩)))
     repeat apply ah;rfl
     refine ih _ _ _ (2*r+1,Sort.swp d1 (first+r) (first+(2*r+1))) [] ⟨by simp only;omega,by rw [ar];exact hd1,by rw [← ho,e]⟩ (by simp only;omega) ?_
     (exact Gs rfl rfl rfl ⟨ai rfl,trivial⟩)
    ·rw [EP (by simpa [ltP] using h4)] at e
     repeat apply az;rfl
     refine au ⟨by kernel_rfl,?_,?_⟩;(focus(repeat(first|exact Gu|apply cc;rfl|apply bN;rfl|refine⟨.inr (by(repeat(refine⟨(by first|exact aA (F.un _ rfl) (F.sz _ rfl) rfl rfl rfl (by omega) (by omega) (by omega)|exact am rfl rfl (.inl ⟨rfl,(Ek _ ⟨by omega,by omega⟩).symm⟩)),?_⟩));exact Gu),?_⟩|refine⟨.inl (by kernel_rfl),?_⟩)))
     repeat apply ah;rfl
     ((apply bw Tryz.func126 (congrArg Array.toList Tryz.results126));(focus(repeat(exact Gk)));refine⟨_,rfl,Ends.mk [] (Gh rfl) rfl rfl ?_⟩)
     rw [← ho,e]
     exact⟨ai rfl,trivial⟩
  ·have e:=qv (lt:=ltP) (hi:=hi) (first:=first) (root:=r) (d:=d1) (by omega) (.inl (by omega))
   repeat first|apply az;rfl|refine bA rfl rfl ?_
   refine au ⟨by kernel_rfl,?_,?_⟩;(focus(repeat(first|exact Gu|apply oC;rfl|apply bN;rfl|refine⟨.inl rfl,?_⟩)))
   repeat apply ah;rfl
   refine aS (by kernel_rfl) (by kernel_rfl) ?_
   repeat first|apply az;rfl|refine ba (am rfl rfl (.inl ⟨rfl,(Ek _ ⟨(by omega),(by omega)⟩).symm⟩)) rfl rfl rfl ?_|refine aX rfl rfl rfl (F.ag _ rfl) (recP) rfl (by(omega)) (by(omega)) ?_|refine ak (q:=first+r) rfl rfl rfl rfl (F.un _ rfl) (F.sz _ rfl) rfl (by omega) (by omega) (by omega) ?_|refine ak (q:=first+(2*r+1)) rfl rfl rfl rfl (F.un _ rfl) (F.sz _ rfl) rfl (by omega) (by omega) (by omega) ?_|refine bj rfl rfl rfl rfl (by kernel_rfl) rfl (Ctr.callV (cmp_spec d1[first+r]! d1[first+(2*r+1)]!) [] rfl (Gh rfl) rfl trivial rfl) ?_
   refine bz rfl rfl rfl rfl ?_ ?_
   all_goals intro h4
   ·rw [EQ (by simpa [ltP] using h4)] at e
    repeat apply az;rfl
    refine au ⟨by kernel_rfl,?_,?_⟩;(focus(repeat(first|exact Gu|apply cc;rfl|apply bN;rfl|refine⟨.inr (by(repeat(refine⟨(by first|exact aA (F.un _ rfl) (F.sz _ rfl) rfl rfl rfl (by omega) (by omega) (by omega)|exact am rfl rfl (.inl ⟨rfl,(Ek _ ⟨by omega,by omega⟩).symm⟩)),?_⟩));exact Gu),?_⟩|refine⟨.inl (by kernel_rfl),?_⟩)))
    repeat apply ah;rfl
    refine aS (by kernel_rfl) (by kernel_rfl) ?_
    repeat first|apply az;rfl|refine ba (am rfl rfl (.inl ⟨rfl,(Ek _ ⟨(by omega),(by omega)⟩).symm⟩)) rfl rfl rfl ?_|refine aX rfl rfl rfl (F.ag _ rfl) (recP) rfl (by(omega)) (by(omega)) ?_|refine c8 (bX (F.sz _ rfl) rfl rfl rfl (recP) rfl (by first|omega|(simp only [Em,ar];omega)) (by first|omega|(simp only [Em,ar];omega))) rfl rfl ?_|refine ak (q:=first+r) rfl rfl rfl rfl (F.un _ rfl) (F.sz _ rfl) rfl (by omega) (by omega) (by omega) ?_|refine ak (q:=first+(2*r+1)) rfl rfl rfl rfl (F.un _ rfl) (F.sz _ rfl) rfl (by omega) (by omega) (by omega) ?_
    refine au ⟨by kernel_rfl,?_,?_⟩;(focus(repeat(first|exact Gu|apply cc;rfl|apply bN;rfl|refine⟨.inr (by(repeat(refine⟨(by first|exact aA (F.un _ rfl) (F.sz _ rfl) rfl rfl rfl (by omega) (by omega) (by omega)|exact am rfl rfl (.inl ⟨rfl,(Ek _ ⟨by omega,by omega⟩).symm⟩)),?_⟩));exact Gu),?_⟩|refine⟨.inl (by kernel_rfl),?_⟩)))
    repeat apply ah;rfl
    refine ih _ _ _ (2*r+1,Sort.swp d1 (first+r) (first+(2*r+1))) [] ⟨by simp only;omega,by rw [ar];exact hd1,by rw [← ho,e]⟩ (by simp only;omega) ?_
    (exact Gs rfl rfl rfl ⟨ai rfl,trivial⟩)
   ·rw [EP (by simpa [ltP] using h4)] at e
    repeat apply az;rfl
    refine au ⟨by kernel_rfl,?_,?_⟩;(focus(repeat(first|exact Gu|apply cc;rfl|apply bN;rfl|refine⟨.inr (by(repeat(refine⟨(by first|exact aA (F.un _ rfl) (F.sz _ rfl) rfl rfl rfl (by omega) (by omega) (by omega)|exact am rfl rfl (.inl ⟨rfl,(Ek _ ⟨by omega,by omega⟩).symm⟩)),?_⟩));exact Gu),?_⟩|refine⟨.inl (by kernel_rfl),?_⟩)))
    repeat apply ah;rfl
    ((apply bw Tryz.func126 (congrArg Array.toList Tryz.results126));(focus(repeat(exact Gk)));refine⟨_,rfl,Ends.mk [] (Gh rfl) rfl rfl ?_⟩)
    rw [← ho,e]
    exact⟨ai rfl,trivial⟩
end
end Bn
end Go.Proofs.YtelnglhodnoclaaGreat
end
section
namespace Go.Proofs.YtelnglhodnoclaaGreat
namespace Bn
open Go Go.Sy
theorem nk(n a b:Nat)(d:Array El)(hn:n<4611686018427387904)(hd:d.size=n)(hab:a≤b)(hb:b≤n) :
 Ctr Tryz.prog 108 [.slu 0 0 n,.sc (.int .i64 (a:Int)),.sc (.int .i64 (b:Int)),cmpF] [rowP n d] (fun c=>c=⟨.tup [],[some (rowP n (Sort.heapSort ltP d a b))]⟩):=by
 refine Gj Tryz.func108 rfl rfl ?_
 repeat first|apply ah;rfl|apply aC;rfl;omega;omega
 refine bO (ij rfl rfl (by decide) (show _=(((b-a-1) / 2:Nat):Int)from tM (m:=b-a) (by omega) (by omega))) rfl rfl rfl ?_
 repeat apply ah;rfl
 refine cS 1 (fun s:Nat×Array El=> [(0,.slu 0 0 n),(3,cmpF),(8,.sc (.int .i64 (a:Int))),(9,.sc (.int .i64 0)),(10,.sc (.int .i64 ((b-a:Nat):Int))),(11,.sc (.int .i64 ((s.1:Int)-1)))]) (fun s=> [some (rowP n s.2)]) (fun s=>s.1≤(b-a-1) / 2+1∧s.2.size=n∧Sort.heapBuild ltP (b-a) a s.1 s.2=Sort.heapBuild ltP (b-a) a ((b-a-1) / 2+1) d) (fun s=>s.1) ((b-a-1) / 2+1,d) []
  (fun _=>rfl) ⟨EE _,hd,rfl⟩ ?_ (fun _=>rfl) (fun _=>rfl) ?_
 ·(refine⟨(Gh rfl),rfl,(by repeat(first|exact Gu|refine⟨rfl,?_⟩|refine⟨cO (by(omega)),?_⟩)),⟨ai rfl,trivial⟩⟩)
 rintro⟨k,d1⟩ ⟨hk,hd1,ho⟩ ih
 simp only at hk hd1 ho ih ⊢
 repeat apply ah;rfl
 refine cL rfl rfl rfl rfl ?_ ?_
 all_goals intro h1
 ·obtain⟨k,rfl⟩: ∃ k',k=k'+1:=⟨k-1,by omega⟩
  have ek:((k+1:Nat):Int)-1=(k:Int):=by omega
  rw [ek]
  repeat first|apply ah;rfl|apply aC;rfl;omega;omega|refine aQ rfl rfl rfl (by kernel_rfl) (Ctr.bF (iw n k (b-a) a d1 hn hd1 (by omega) (by omega)) [0] rfl (Gh rfl) rfl ⟨ai rfl,trivial⟩ rfl (by repeat(first|exact Gu|refine⟨aG,?_⟩)) (fun _=>rfl) rfl rfl) ?_
  refine ih _ _ _ (k,Sort.siftDown ltP (b-a) a k d1) [] ⟨by simp only;omega,by rw [ez];exact hd1,by rw [← ho];rfl⟩ (by simp only;omega) ?_
  (exact Gs rfl rfl rfl ⟨ai rfl,trivial⟩)
 ·obtain rfl:k=0:=by omega
  have ho1:d1=Sort.heapBuild ltP (b-a) a ((b-a-1) / 2+1) d:=ho
  repeat first|apply ah;rfl|apply aC;rfl;omega;omega
  refine cS 1 (fun s:Nat×Array El=> [(0,.slu 0 0 n),(3,cmpF),(8,.sc (.int .i64 (a:Int))),(9,.sc (.int .i64 0)),(12,.sc (.int .i64 ((s.1:Int)-1)))]) (fun s=> [some (rowP n s.2)]) (fun s=>s.1≤b-a∧s.2.size=n∧Sort.heapPop ltP a s.1 s.2=Sort.heapSort ltP d a b) (fun s=>s.1) (b-a,d1) []
   (fun _=>rfl) ⟨EE _,hd1,by rw [ho1];rfl⟩ ?_ (fun _=>rfl) (fun _=>rfl) ?_
  ·(exact Gs rfl rfl rfl ⟨ai rfl,trivial⟩)
  rintro⟨m,d2⟩ ⟨hm,hd2,hp⟩ ihm
  simp only at hm hd2 hp ihm ⊢
  repeat apply ah;rfl
  refine cL rfl rfl rfl rfl ?_ ?_
  all_goals intro h2
  ·obtain⟨m,rfl⟩: ∃ m',m=m'+1:=⟨m-1,by omega⟩
   have em:((m+1:Nat):Int)-1=(m:Int):=by omega
   rw [em]
   repeat apply ah;rfl
   refine aS (by kernel_rfl) (by kernel_rfl) ?_
   repeat first|apply az;rfl|refine ba (am rfl rfl (.inl ⟨rfl,(Ek _ ⟨(by omega),(by omega)⟩).symm⟩)) rfl rfl rfl ?_|refine aX rfl rfl rfl (F.ag _ rfl) (recP) rfl (by(omega)) (by(omega)) ?_|refine c8 (bX (F.sz _ rfl) rfl rfl rfl (recP) rfl (by first|omega|(simp only [Em,ar];omega)) (by first|omega|(simp only [Em,ar];omega))) rfl rfl ?_|refine ak (q:=a) rfl rfl rfl rfl (F.un _ rfl) (F.sz _ rfl) rfl (by omega) (by omega) (by omega) ?_|refine ak (q:=a+m) rfl rfl rfl rfl (F.un _ rfl) (F.sz _ rfl) rfl (by omega) (by omega) (by omega) ?_
   refine au ⟨by kernel_rfl,?_,?_⟩;(focus(repeat(first|exact Gu|apply cc;rfl|apply bN;rfl|refine⟨.inr (by(repeat(refine⟨(by first|exact aA (F.un _ rfl) (F.sz _ rfl) rfl rfl rfl (by omega) (by omega) (by omega)|exact am rfl rfl (.inl ⟨rfl,(Ek _ ⟨by omega,by omega⟩).symm⟩)),?_⟩));exact Gu),?_⟩|refine⟨.inl (by kernel_rfl),?_⟩)))
   repeat first|apply ah;rfl|apply aC;rfl;omega;omega|refine aQ rfl rfl rfl (by kernel_rfl) (Ctr.bF (iw n 0 m a (Sort.swp d2 a (a+m)) hn (by rw [ar];exact hd2) (by omega) (by omega)) [0] rfl (Gh rfl) rfl ⟨ai rfl,trivial⟩ rfl (by repeat(first|exact Gu|refine⟨aG,?_⟩)) (fun _=>rfl) rfl rfl) ?_
   refine ihm _ _ _ (m,Sort.siftDown ltP m a 0 (Sort.swp d2 a (a+m))) [] ⟨by simp only;omega,by rw [ez,ar];exact hd2,by rw [← hp];rfl⟩ (by simp only;omega) ?_
   (exact Gs rfl rfl rfl ⟨ai rfl,trivial⟩)
  ·obtain rfl:m=0:=by omega
   repeat apply ah;rfl
   ((apply jI Tryz.func108 (congrArg Array.toList Tryz.results108));(focus(repeat(exact Gk)));refine⟨_,rfl,Ends.mk [] (Gh rfl) rfl rfl ?_⟩)
   rw [← hp]
   exact⟨ai rfl,trivial⟩
end Bn
end Go.Proofs.YtelnglhodnoclaaGreat
end
section
namespace Go.Proofs.YtelnglhodnoclaaGreat
namespace Bn
open Go Go.Sy
theorem pj(n a b:Nat)(d:Array El)(hn:n<4611686018427387904)(hd:d.size=n)(hab:a<b)(hb:b≤n) :
 Ctr Tryz.prog 111 [.slu 0 0 n,.sc (.int .i64 (a:Int)),.sc (.int .i64 (b:Int)),cmpF] [rowP n d] (fun c=>c=⟨.tup [],[some (rowP n (Sort.reverseRange d a b))]⟩):=by
 refine Gj Tryz.func111 rfl rfl ?_
 repeat first|apply ah;rfl|apply aC;rfl;omega;omega
 refine cS 1 (fun s:(Nat×Nat)×Array El=> [(0,.slu 0 0 n),(8,.sc (.int .i64 (s.1.1:Int))),(9,.sc (.int .i64 (s.1.2:Int)))]) (fun s=> [some (rowP n s.2)]) (fun s=>s.1.1≤n∧s.1.2<n∧s.1.1≤s.1.2+1∧s.2.size=n∧Sort.reverseLoop s.1.1 s.1.2 s.2=Sort.reverseRange d a b) (fun s=>s.1.2+1-s.1.1) ((a,b-1),d) []
  (fun _=>rfl) ⟨by simp only;omega,by simp only;omega,by simp only;omega,hd,rfl⟩ ?_ (fun _=>rfl) (fun _=>rfl) ?_
 ·(refine⟨(Gh rfl),rfl,(by repeat(first|exact Gu|refine⟨rfl,?_⟩|refine⟨cO (by(simp only;omega)),?_⟩)),⟨ai rfl,trivial⟩⟩)
 rintro⟨⟨i,j⟩,d1⟩ ⟨hi,hj,hij,hd1,ho⟩ ih
 simp only at hi hj hij hd1 ho ih ⊢
 repeat apply ah;rfl
 refine bq rfl rfl rfl rfl ?_ ?_
 all_goals intro h1
 ·repeat apply ah;rfl
  refine aS (by kernel_rfl) (by kernel_rfl) ?_
  repeat first|apply az;rfl|refine aX rfl rfl rfl (F.ag _ rfl) (recP) rfl (by(omega)) (by(omega)) ?_|refine c8 (bX (F.sz _ rfl) rfl rfl rfl (recP) rfl (by first|omega|(simp only [Em,ar];omega)) (by first|omega|(simp only [Em,ar];omega))) rfl rfl ?_|refine ak (q:=i) rfl rfl rfl rfl (F.un _ rfl) (F.sz _ rfl) rfl (by omega) (by omega) (by omega) ?_|refine ak (q:=j) rfl rfl rfl rfl (F.un _ rfl) (F.sz _ rfl) rfl (by omega) (by omega) (by omega) ?_
  refine au ⟨by kernel_rfl,?_,?_⟩;(focus(repeat(first|exact Gu|apply cc;rfl|apply bN;rfl|refine⟨.inr (by(repeat(refine⟨(by(exact aA (F.un _ rfl) (F.sz _ rfl) rfl rfl rfl (by omega) (by omega) (by omega))),?_⟩));exact Gu),?_⟩|refine⟨.inl (by kernel_rfl),?_⟩)))
  repeat first|apply ah;rfl|apply aC;rfl;omega;omega
  refine ih _ _ _ ((i+1,j-1),Sort.swp d1 i j) [] ⟨by simp only;omega,by simp only;omega,by simp only;omega,by rw [ar];exact hd1,?_⟩ (by simp only;omega) ?_
  ·rw [← ho]
   conv=>rhs;rw [Sort.reverseLoop,EQ (by omega)]
  ·(refine⟨(Gh rfl),rfl,(by repeat(first|exact Gu|refine⟨rfl,?_⟩|refine⟨cO (by(simp only;omega)),?_⟩)),⟨ai rfl,trivial⟩⟩)
 ·repeat apply ah;rfl
  ((apply jI Tryz.func111 (congrArg Array.toList Tryz.results111));(focus(repeat(exact Gk)));refine⟨_,rfl,Ends.mk [] (Gh rfl) rfl rfl ?_⟩)
  rw [← ho,Sort.reverseLoop,EP (by omega)]
  exact⟨ai rfl,trivial⟩
abbrev vK(k:Nat):VO:=an 3 [.sc (.int .i64 (k:Int))]
theorem dY(n a b k:Nat)(d:Array El)(hn:n<4611686018427387904)(hd:d.size=n)(ha:a<n)(hb:b<n)(hk:k<1000) :
 Ctr Tryz.prog 134 [.slu 0 0 n,.sc (.int .i64 (a:Int)),.sc (.int .i64 (b:Int)),.ptr 1 0,cmpF] [rowP n d,vK k] (fun c=>c=⟨.tup [.sc (.int .i64 ((Sort.order2 ltP d a b k).1:Int)),.sc (.int .i64 ((Sort.order2 ltP d a b k).2.1:Int))],[some (rowP n d),some (vK (Sort.order2 ltP d a b k).2.2)]⟩):=by
 refine Gj Tryz.func134 rfl rfl ?_
 repeat apply ah;rfl
 refine aS (by kernel_rfl) (by kernel_rfl) ?_
 repeat first|apply az;rfl|refine aX rfl rfl rfl (F.ag _ rfl) (recP) rfl (by(omega)) (by(omega)) ?_|refine ak (q:=a) rfl rfl rfl rfl (F.un _ rfl) (F.sz _ rfl) rfl (by omega) (by omega) (by omega) ?_|refine ak (q:=b) rfl rfl rfl rfl (F.un _ rfl) (F.sz _ rfl) rfl (by omega) (by omega) (by omega) ?_|refine bj rfl rfl rfl rfl (by kernel_rfl) rfl (Ctr.callV (cmp_spec d[b]! d[a]!) [] rfl (Gh rfl) rfl trivial rfl) ?_
 refine bz rfl rfl rfl rfl ?_ ?_
 all_goals intro h1
 ·skip
  refine au ⟨by kernel_rfl,?_,?_⟩;(focus(repeat(first|exact Gu|apply cc;rfl|apply bN;rfl|refine⟨.inr (by(repeat(refine⟨(by(exact aA (F.un _ rfl) (F.sz _ rfl) rfl rfl rfl (by omega) (by omega) (by omega))),?_⟩));exact Gu),?_⟩|refine⟨.inl (by kernel_rfl),?_⟩)))
  repeat first|apply ah;rfl|apply aC;rfl;omega;omega|refine a7 rfl rfl rfl (F.ag _ rfl) rfl rfl ?_|refine cq rfl rfl rfl (F.sz _ rfl) rfl rfl rfl ?_
  rw [show Sort.order2 ltP d a b k=(b,a,k+1) by rw [Sort.order2,EQ (by simpa [ltP] using h1)]]
  ((apply bw Tryz.func134 (congrArg Array.toList Tryz.results134));(focus(repeat(first|exact Gk|apply Gm rfl)));refine⟨_,rfl,Ends.mk [] (Gh rfl) rfl rfl ?_⟩)
  exact(by repeat(first|exact Gu|refine⟨ai rfl,?_⟩|refine⟨co rfl,?_⟩))
 ·skip
  refine au ⟨by kernel_rfl,?_,?_⟩;(focus(repeat(first|exact Gu|apply cc;rfl|apply bN;rfl|refine⟨.inr (by(repeat(refine⟨(by(exact aA (F.un _ rfl) (F.sz _ rfl) rfl rfl rfl (by omega) (by omega) (by omega))),?_⟩));exact Gu),?_⟩|refine⟨.inl (by kernel_rfl),?_⟩)))
  repeat apply ah;rfl
  rw [show Sort.order2 ltP d a b k=(a,b,k) by rw [Sort.order2,EP (by simpa [ltP] using h1)]]
  ((apply bw Tryz.func134 (congrArg Array.toList Tryz.results134));(focus(repeat(first|exact Gk|apply Gm rfl)));refine⟨_,rfl,Ends.mk [] (Gh rfl) rfl rfl ?_⟩)
  exact(by repeat(first|exact Gu|refine⟨ai rfl,?_⟩|refine⟨co rfl,?_⟩))
theorem cW{lt:El→El→Bool}{d:Array El}{a b k n:Nat}(ha:a<n)(hb:b<n):(Sort.order2 lt d a b k).1<n∧(Sort.order2 lt d a b k).2.1<n∧(Sort.order2 lt d a b k).2.2≤k+1:=by
 unfold Sort.order2
 split
 ·exact⟨hb,ha,EE _⟩
 ·exact⟨ha,hb,EN _⟩
theorem dZ(n a b c k:Nat)(d:Array El)(hn:n<4611686018427387904)(hd:d.size=n)(ha:a<n)(hb:b<n)(hc:c<n)(hk:k<900) :
 Ctr Tryz.prog 130 [.slu 0 0 n,.sc (.int .i64 (a:Int)),.sc (.int .i64 (b:Int)),.sc (.int .i64 (c:Int)),.ptr 1 0,cmpF] [rowP n d,vK k] (fun r=>r=⟨.sc (.int .i64 ((Sort.median ltP d a b c k).1:Int)),[some (rowP n d),some (vK (Sort.median ltP d a b c k).2)]⟩):=by
 obtain⟨q1,q2,q3⟩:=cW (lt:=ltP) (d:=d) (k:=k) ha hb
 have e1:=dY n a b k d hn hd ha hb (by omega)
 unfold Sort.median
 generalize Sort.order2 ltP d a b k=r1 at q1 q2 q3 e1 ⊢
 obtain⟨a1,b1,k1⟩:=r1
 obtain⟨p1,p2,p3⟩:=cW (lt:=ltP) (d:=d) (k:=k1) q2 hc
 have e2:=dY n b1 c k1 d hn hd q2 hc (by simp only at q3;omega)
 simp only at q1 q2 q3 p1 p2 p3 e1 e2 ⊢
 generalize Sort.order2 ltP d b1 c k1=r2 at p1 p2 p3 e2 ⊢
 obtain⟨b2,c2,k2⟩:=r2
 obtain⟨o1,o2,o3⟩:=cW (lt:=ltP) (d:=d) (k:=k2) q1 p1
 have e3:=dY n a1 b2 k2 d hn hd q1 p1 (by simp only at p3;omega)
 simp only at p1 p2 p3 o1 o2 o3 e2 e3 ⊢
 generalize Sort.order2 ltP d a1 b2 k2=r3 at o1 o2 o3 e3 ⊢
 obtain⟨a3,b3,k3⟩:=r3
 simp only at o1 o2 o3 e3 ⊢
 refine Gj Tryz.func130 rfl rfl ?_
 repeat first|apply ah;rfl|refine aQ rfl rfl rfl (by kernel_rfl) (Ctr.bF (e1) [0,1] rfl (Gh rfl) rfl (by repeat(first|exact Gu|refine⟨ai rfl,?_⟩|refine⟨co rfl,?_⟩)) rfl (by repeat(first|exact Gu|refine⟨aG,?_⟩|refine⟨bD (fun _=>rfl),?_⟩)) (fun _=>rfl) rfl rfl) ?_|refine aQ rfl rfl rfl (by kernel_rfl) (Ctr.bF (e2) [0,1] rfl (Gh rfl) rfl (by repeat(first|exact Gu|refine⟨ai rfl,?_⟩|refine⟨co rfl,?_⟩)) rfl (by repeat(first|exact Gu|refine⟨aG,?_⟩|refine⟨bD (fun _=>rfl),?_⟩)) (fun _=>rfl) rfl rfl) ?_|refine aQ rfl rfl rfl (by kernel_rfl) (Ctr.bF (e3) [0,1] rfl (Gh rfl) rfl (by repeat(first|exact Gu|refine⟨ai rfl,?_⟩|refine⟨co rfl,?_⟩)) rfl (by repeat(first|exact Gu|refine⟨aG,?_⟩|refine⟨bD (fun _=>rfl),?_⟩)) (fun _=>rfl) rfl rfl) ?_
 ((apply bw Tryz.func130 (congrArg Array.toList Tryz.results130));(focus(repeat(first|exact Gk|apply Gm rfl)));refine⟨_,rfl,Ends.mk [] (Gh rfl) rfl rfl ?_⟩)
 exact(by repeat(first|exact Gu|refine⟨ai rfl,?_⟩|refine⟨co rfl,?_⟩))
theorem fR{lt:El→El→Bool}{d:Array El}{a b c k n:Nat}(ha:a<n)(hb:b<n)(hc:c<n):(Sort.median lt d a b c k).1<n∧(Sort.median lt d a b c k).2≤k+3:=by
 obtain⟨q1,q2,q3⟩:=cW (lt:=lt) (d:=d) (k:=k) ha hb
 obtain⟨p1,p2,p3⟩:=cW (lt:=lt) (d:=d) (k:=(Sort.order2 lt d a b k).2.2) q2 hc
 obtain⟨o1,o2,o3⟩:=cW (lt:=lt) (d:=d) (k:=(Sort.order2 lt d (Sort.order2 lt d a b k).2.1 c (Sort.order2 lt d a b k).2.2).2.2) q1 p1
 exact⟨o2,by simp only [Sort.median];omega⟩
theorem d7(n a k:Nat)(d:Array El)(hn:n<4611686018427387904)(hd:d.size=n)(ha:a+1<n)(h1:1≤a)(hk:k<900) :
 Ctr Tryz.prog 129 [.slu 0 0 n,.sc (.int .i64 (a:Int)),.ptr 1 0,cmpF] [rowP n d,vK k] (fun r=>r=⟨.sc (.int .i64 ((Sort.medianAdjacent ltP d a k).1:Int)),[some (rowP n d),some (vK (Sort.medianAdjacent ltP d a k).2)]⟩):=by
 obtain⟨a,rfl⟩: ∃ a',a=a'+1:=⟨a-1,by omega⟩
 have e:=dZ n a (a+1) (a+1+1) k d hn hd (by omega) (by omega) (by omega) hk
 have e0:((a:Nat):Int)=((a+1:Nat):Int)-1:=by omega
 rw [e0] at e
 refine Gj Tryz.func129 rfl rfl ?_
 repeat first|apply ah;rfl|apply aC;rfl;omega;omega|refine aQ rfl rfl rfl (by kernel_rfl) (Ctr.bF (e) [0,1] rfl (Gh rfl) rfl (by repeat(first|exact Gu|refine⟨ai rfl,?_⟩|refine⟨co rfl,?_⟩)) rfl (by repeat(first|exact Gu|refine⟨aG,?_⟩|refine⟨bD (fun _=>rfl),?_⟩)) (fun _=>rfl) rfl rfl) ?_
 ((apply bw Tryz.func129 (congrArg Array.toList Tryz.results129));(focus(repeat(first|exact Gk|apply Gm rfl)));refine⟨_,rfl,Ends.mk [] (Gh rfl) rfl rfl ?_⟩)
 exact(by repeat(first|exact Gu|refine⟨ai rfl,?_⟩|refine⟨co rfl,?_⟩))
end Bn
end Go.Proofs.YtelnglhodnoclaaGreat
end
section
namespace Go.Proofs.YtelnglhodnoclaaGreat
namespace Bn
open Go Go.Sy
theorem pu(n a b:Nat)(d:Array El)(hn:n<4611686018427387904)(hd:d.size=n)(hab:a<b)(hb:b≤n) :
 Ctr Tryz.prog 110 [.slu 0 0 n,.sc (.int .i64 (a:Int)),.sc (.int .i64 (b:Int)),cmpF] [rowP n d] (fun r=>r=⟨.tup [.sc (.int .i64 ((Sort.choosePivot ltP d a b).1:Int)),.sc (.int .i64 (xY (Sort.choosePivot ltP d a b).2))],[some (rowP n d)]⟩):=by
 have e1:((a:Int)+((b:Int)-(a:Int)) / 4*1)=((a+(b-a) / 4*1:Nat):Int):=by omega
 have e2:((a:Int)+((b:Int)-(a:Int)) / 4*2)=((a+(b-a) / 4*2:Nat):Int):=by omega
 have e3:((a:Int)+((b:Int)-(a:Int)) / 4*3)=((a+(b-a) / 4*3:Nat):Int):=by omega
 refine Gj Tryz.func110 rfl rfl ?_
 repeat first|apply ah;rfl|apply aC;rfl;omega;omega|refine bO (ij rfl rfl (by omega) (dP (by omega) (by omega) (by omega))) rfl rfl rfl ?_
 rw [e1,e2,e3]
 have fin: ∀ (T:Tr SV) (H:ay) (nx:Nat) (p k:Nat),True:=fun _ _ _ _ _=>trivial
 refine cL rfl rfl rfl rfl ?_ ?_
 all_goals intro h1
 ·repeat apply ah;rfl
  refine cL rfl rfl rfl rfl ?_ ?_
  all_goals intro h2
  ·have m1:=d7 n (a+(b-a) / 4*1) 0 d hn hd (by omega) (by omega) (by omega)
   have l1:(Sort.medianAdjacent ltP d (a+(b-a) / 4*1) 0).1<n∧(Sort.medianAdjacent ltP d (a+(b-a) / 4*1) 0).2≤0+3:=fR (by omega) (by omega) (by omega)
   have ec:Sort.choosePivot ltP d a b=Sort.choosePivot ltP d a b:=rfl
   conv at ec=>rhs;unfold Sort.choosePivot
   simp only [show b-a≥8 by omega,show b-a≥50 by omega,if_true] at ec
   generalize Sort.medianAdjacent ltP d (a+(b-a) / 4*1) 0=r1 at m1 l1 ec
   have m2:=d7 n (a+(b-a) / 4*2) r1.2 d hn hd (by omega) (by omega) (by omega)
   have l2:(Sort.medianAdjacent ltP d (a+(b-a) / 4*2) r1.2).1<n∧(Sort.medianAdjacent ltP d (a+(b-a) / 4*2) r1.2).2≤r1.2+3:=fR (by omega) (by omega) (by omega)
   generalize Sort.medianAdjacent ltP d (a+(b-a) / 4*2) r1.2=r2 at m2 l2 ec
   have m3:=d7 n (a+(b-a) / 4*3) r2.2 d hn hd (by omega) (by omega) (by omega)
   have l3:(Sort.medianAdjacent ltP d (a+(b-a) / 4*3) r2.2).1<n∧(Sort.medianAdjacent ltP d (a+(b-a) / 4*3) r2.2).2≤r2.2+3:=fR (by omega) (by omega) (by omega)
   generalize Sort.medianAdjacent ltP d (a+(b-a) / 4*3) r2.2=r3 at m3 l3 ec
   have m4:=dZ n r1.1 r2.1 r3.1 r3.2 d hn hd l1.1 l2.1 l3.1 (by omega)
   generalize Sort.median ltP d r1.1 r2.1 r3.1 r3.2=r4 at m4 ec
   rw [ec]
   obtain⟨p,k⟩:=r4
   repeat first|apply ah;rfl|apply aM;rfl;(focus((repeat(exact ae));done));rfl|refine aQ rfl rfl rfl (by kernel_rfl) (Ctr.bF (m1) [0,1] rfl (Gh rfl) rfl (by repeat(first|exact Gu|refine⟨ai rfl,?_⟩|refine⟨co rfl,?_⟩)) rfl (by repeat(first|exact Gu|refine⟨aG,?_⟩|refine⟨bD (fun _=>rfl),?_⟩)) (fun _=>rfl) rfl rfl) ?_|refine aQ rfl rfl rfl (by kernel_rfl) (Ctr.bF (m2) [0,1] rfl (Gh rfl) rfl (by repeat(first|exact Gu|refine⟨ai rfl,?_⟩|refine⟨co rfl,?_⟩)) rfl (by repeat(first|exact Gu|refine⟨aG,?_⟩|refine⟨bD (fun _=>rfl),?_⟩)) (fun _=>rfl) rfl rfl) ?_|refine aQ rfl rfl rfl (by kernel_rfl) (Ctr.bF (m3) [0,1] rfl (Gh rfl) rfl (by repeat(first|exact Gu|refine⟨ai rfl,?_⟩|refine⟨co rfl,?_⟩)) rfl (by repeat(first|exact Gu|refine⟨aG,?_⟩|refine⟨bD (fun _=>rfl),?_⟩)) (fun _=>rfl) rfl rfl) ?_|refine aQ rfl rfl rfl (by kernel_rfl) (Ctr.bF (m4) [0,1] rfl (Gh rfl) rfl (by repeat(first|exact Gu|refine⟨ai rfl,?_⟩|refine⟨co rfl,?_⟩)) rfl (by repeat(first|exact Gu|refine⟨aG,?_⟩|refine⟨bD (fun _=>rfl),?_⟩)) (fun _=>rfl) rfl rfl) ?_
   refine cD rfl rfl rfl rfl ?_ ?_
   all_goals intro h3
   ·repeat apply ah;rfl
    rw [EQ (show(p,k).2=0 by simp only;omega)]
    ((apply bw Tryz.func110 (congrArg Array.toList Tryz.results110));(focus(repeat(first|exact Gk|apply Gm rfl)));refine⟨_,rfl,Ends.mk [] (Gh rfl) rfl rfl ?_⟩)
    exact⟨ai rfl,trivial⟩
   ·repeat apply ah;rfl
    refine cD rfl rfl rfl rfl ?_ ?_
    all_goals intro h4
    ·repeat apply ah;rfl
     rw [EP (show ¬ (p,k).2=0 by simp only;omega),EQ (show(p,k).2=12 by simp only;omega)]
     ((apply bw Tryz.func110 (congrArg Array.toList Tryz.results110));(focus(repeat(first|exact Gk|apply Gm rfl)));refine⟨_,rfl,Ends.mk [] (Gh rfl) rfl rfl ?_⟩)
     exact⟨ai rfl,trivial⟩
    ·repeat apply ah;rfl
     rw [EP (show ¬ (p,k).2=0 by simp only;omega),EP (show ¬ (p,k).2=12 by simp only;omega)]
     ((apply bw Tryz.func110 (congrArg Array.toList Tryz.results110));(focus(repeat(first|exact Gk|apply Gm rfl)));refine⟨_,rfl,Ends.mk [] (Gh rfl) rfl rfl ?_⟩)
     exact⟨ai rfl,trivial⟩
  ·have ec:Sort.choosePivot ltP d a b=Sort.choosePivot ltP d a b:=rfl
   conv at ec=>rhs;unfold Sort.choosePivot
   simp only [show b-a≥8 by omega,show ¬ (b-a≥50) by omega,if_true,if_false] at ec
   have m4:=dZ n (a+(b-a) / 4*1) (a+(b-a) / 4*2) (a+(b-a) / 4*3) 0 d hn hd (by omega) (by omega) (by omega) (by omega)
   generalize Sort.median ltP d (a+(b-a) / 4*1) (a+(b-a) / 4*2) (a+(b-a) / 4*3) 0=r4 at m4 ec
   rw [ec]
   obtain⟨p,k⟩:=r4
   repeat first|apply ah;rfl|apply aM;rfl;(focus((repeat(exact ae));done));rfl|refine aQ rfl rfl rfl (by kernel_rfl) (Ctr.bF (m4) [0,1] rfl (Gh rfl) rfl (by repeat(first|exact Gu|refine⟨ai rfl,?_⟩|refine⟨co rfl,?_⟩)) rfl (by repeat(first|exact Gu|refine⟨aG,?_⟩|refine⟨bD (fun _=>rfl),?_⟩)) (fun _=>rfl) rfl rfl) ?_
   refine cD rfl rfl rfl rfl ?_ ?_
   all_goals intro h3
   ·repeat apply ah;rfl
    rw [EQ (show(p,k).2=0 by simp only;omega)]
    ((apply bw Tryz.func110 (congrArg Array.toList Tryz.results110));(focus(repeat(first|exact Gk|apply Gm rfl)));refine⟨_,rfl,Ends.mk [] (Gh rfl) rfl rfl ?_⟩)
    exact⟨ai rfl,trivial⟩
   ·repeat apply ah;rfl
    refine cD rfl rfl rfl rfl ?_ ?_
    all_goals intro h4
    ·repeat apply ah;rfl
     rw [EP (show ¬ (p,k).2=0 by simp only;omega),EQ (show(p,k).2=12 by simp only;omega)]
     ((apply bw Tryz.func110 (congrArg Array.toList Tryz.results110));(focus(repeat(first|exact Gk|apply Gm rfl)));refine⟨_,rfl,Ends.mk [] (Gh rfl) rfl rfl ?_⟩)
     exact⟨ai rfl,trivial⟩
    ·repeat apply ah;rfl
     rw [EP (show ¬ (p,k).2=0 by simp only;omega),EP (show ¬ (p,k).2=12 by simp only;omega)]
     ((apply bw Tryz.func110 (congrArg Array.toList Tryz.results110));(focus(repeat(first|exact Gk|apply Gm rfl)));refine⟨_,rfl,Ends.mk [] (Gh rfl) rfl rfl ?_⟩)
     exact⟨ai rfl,trivial⟩
 ·have ec:Sort.choosePivot ltP d a b=(a+(b-a) / 4*2,.increasing):=by
   unfold Sort.choosePivot
   simp only [show ¬ (b-a≥8) by omega,if_false,if_true]
  rw [ec]
  repeat first|apply ah;rfl|apply aM;rfl;(focus((repeat(exact ae));done));rfl|refine bO (cu rfl rfl (.inl ⟨rfl,rfl⟩)) rfl rfl rfl ?_
  ((apply bw Tryz.func110 (congrArg Array.toList Tryz.results110));(focus(repeat(first|exact Gk|apply Gm rfl)));refine⟨_,rfl,Ends.mk [] (Gh rfl) rfl rfl ?_⟩)
  exact⟨ai rfl,trivial⟩
end Bn
end Go.Proofs.YtelnglhodnoclaaGreat
end
