import Derived.Laws.MakeOwn
import Derived.Test.YtjjgjjlgchidlaaGreatE3
set_option linter.unusedVariables false
set_option linter.unusedSimpArgs false
set_option maxRecDepth 100000
set_option maxHeartbeats 0
section
namespace Go.Sy
open Go Go.Sl Go.RowKit
section
variable {P:Program} {T:Tr SV} {H:aJ} {nx:Nat} {d:Option Tmp} {ty:TypeId} {pos:String} {af:Array Edge} {gd:Option (Nat×Bool)}
theorem tb{t el:TypeId}{x y:Operand}{kx ky:IntKind}{n m bb:Nat}{z:Value}(hu:P.underlying t=some (.slice el))(hs:bA P el=some 1)(hz:dq P el=some z)(hi:(P.info? el).map (·.bytes)=some bb)(hc:z.cells = #[z])
 (hx:am T x=some (.sc (.int kx n))) (hy:am T y=some (.sc (.int ky m))) (hnm:n≤m) (hm:bb*m≤281474976710656) (h63:m≤9223372036854775807) :
 OpDoes P T H nx ⟨d,.makeSlice t x y,ty,pos,af,gd⟩ (.val (.slu nx 0 n),H.set nx (dat false m 1 el (List.replicate m z)),nx+1):=by
 intro K w0 e w ev hS hE
 have e1:=hE x _ hx
 have e2:=hE y _ hy
 simp only [SV.conc,zh] at e1 e2
 obtain⟨inf,hinf,rfl⟩:=zr.1 hi
 clear hi
 simp only [bA,hinf,zJ,zh] at hs
 simp only [dq,hinf,zK] at hz
 have hbi:(inf.bytes:Int)*(m:Int)=((inf.bytes*m:Nat):Int):=by rw [Int.natCast_mul]
 have hrun:=run_make (P:=P) w t el inf z hu hinf hz kx ky n m (by omega) (by omega) (by rw [hbi];omega) (by omega)
 simp only [Int.toNat_natCast,hs,Nat.mul_one,hc] at hrun
 have hsz:(madeCells #[z] m).size=m:=size_madeCells _ _
 have hget: ∀ i,i<m→(madeCells #[z] m)[i]? =some z:=fun i hi=>by
  simp only [madeCells,Array.getElem?_map]
  rw [Array.getElem?_range]
  simp [hi,Nat.mod_one]
 have hf:=hS.fresh nx (zD _)
 refine⟨e.put nx ⟨w.heap.size,0,m,1,false⟩,w.alloc (Obj.cells (madeCells #[z] m) el),Env.cN hf,?_,.slice (some ⟨w.heap.size,0,none⟩) n m,by simp [SV.conc,Env.bz,Ent.at],by simp only [execOp,←e1,←e2];simp [hrun]⟩
 refine hS.new (x:=⟨w.heap.size,0,m,1,false⟩) (o:= .cells (madeCells #[z] m) el) rfl rfl rfl rfl rfl rfl rfl ?_
 refine⟨rfl,_,_,_,rfl,zD _,by rw [hsz];simp,by unfold maxLen;omega,fun _=>⟨zD _,fun i hi=>?_⟩,by omega,fun i hi s' hs'=>?_⟩
 ·simp
 ·have hs':((List.replicate m z)[i]?).map SV.sc=some s':=hs'
  rw [zr] at hs'
  obtain⟨u,hu,rfl⟩:=hs'
  obtain⟨hil,rfl⟩:=zm.1 hu
  refine⟨_,rfl,?_⟩
  simp only [Nat.zero_add,List.getElem_replicate]
  exact hget i (by simpa using hil)
theorem oM: ∀ l:List UInt8,kc ((l.map fun c=>Value.int .u8 (c.toNat:Int)).map SV.sc)=some l
 | []=>rfl
 | c :: l=>by
   simp only [zF]
   show(match kc _ with
    | some r=>some (UInt8.ofNat c.toNat :: r)
    | none=>none)=_
   rw [oM l]
   simp
theorem oL(b:ByteArray):mh ((u8L b).map SV.sc)=some (.sc (.string b)):=by
 unfold mh
 rw [show((u8L b).map SV.sc)=((b.data.toList.map fun c=>Value.int .u8 (c.toNat:Int)).map SV.sc)from rfl,oM]
 simp
def BsIs(H:aJ)(s:SV)(vs:List Value):Prop:=nV vs∧((vs= []∧ ∃ a c,s = .sc (.slice a 0 c)) ∨
 (∃ r eo ne ro t us,s = .slu r eo vs.length∧H.at' r=some (dat ro ne 1 t us)∧eo+vs.length≤ne∧(us.drop eo).take vs.length=vs) ∨
 (∃ b o C vo,s = .sl b o vs.length C∧H.at' b=some vo∧vo.cellsFrom o vs.length=some (vs.map .sc)))
theorem BsIs.rdv{s:SV}{vs:List Value}(h:BsIs H s vs):RdV P H 1 s vs.length vs:=by
 obtain⟨_,⟨rfl,_,_,rfl⟩|⟨r,eo,ne,ro,t,us,rfl,hb,hn,hu⟩|⟨b,o,C,vo,rfl,hb,hc⟩⟩:=h
 ·rfl
 ·exact pp hb hn (by simpa using hu) (by simp)
 ·unfold RdV
  simp only [a7,hb,Nat.mul_one,hc,zJ]
theorem BsIs.frame{s:SV}{vs:List Value}{H':aJ}(h:BsIs H s vs)(hf: ∀ b vo,H.at' b=some vo→H'.at' b=some vo):BsIs H' s vs:=by
 obtain⟨h1,h2|⟨r,eo,ne,ro,t,us,rfl,hb,hn,hu⟩|⟨b,o,C,vo,rfl,hb,hc⟩⟩:=h
 ·exact⟨h1,.inl h2⟩
 ·exact⟨h1,.inr (.inl ⟨r,eo,ne,ro,t,us,rfl,hf _ _ hb,hn,hu⟩)⟩
 ·exact⟨h1,.inr (.inr ⟨b,o,C,vo,rfl,hf _ _ hb,hc⟩)⟩
theorem BsIs.row{r ne:Nat}{ro:Bool}{t:TypeId}{vs:List Value}(h1:nV vs)(hb:H.at' r=some (dat ro ne 1 t vs))(hn:vs.length=ne):BsIs H (.slu r 0 ne) vs:=
 ⟨h1,.inr (.inl ⟨r,0,ne,ro,t,vs,by rw [hn],hb,by omega,by simp⟩)⟩
theorem xu(b:ByteArray):nV (u8L b):=by
 intro v hv
 simp only [u8L,List.mem_map] at hv
 obtain⟨a,_,rfl⟩:=hv
 rfl
theorem wS(b:ByteArray):(u8L b).length=b.size:=by simp [u8L]
theorem xc{t e:TypeId}{x:Operand}{s:SV}{vs:List Value}(hu:P.underlying t=some (.slice e))(hx:am T x=some s)(hb:BsIs H s vs):ReadDoes P T H ⟨d,.call {callee:= .builtin .len,args:= #[x],argTypes:= #[t]},ty,pos,af,gd⟩ (.sc (.int .i64 vs.length)):=by
 obtain⟨_,⟨rfl,_,_,rfl⟩|⟨r,eo,ne,ro,t,us,rfl,hb,hn,_⟩|⟨b,o,C,vo,rfl,hb,hc⟩⟩:=hb
 ·exact nM hu hx
 ·exact ek hu hx
 ·exact xb hu hx
theorem vi{t yt:TypeId}{x y:Operand}{a b:ByteArray}{r:Bool}(hx:am T x=some (.sc (.string a)))(hy:am T y=some (.sc (.string b)))(hr:bLt b a=r):ReadDoes P T H ⟨d,.binOp .gtr t x y yt,ty,pos,af,gd⟩ (.sc (.bool r)):=by
 subst hr
 refine cS fun ev w he=>?_
 have e1:=he x _ hx _ rfl
 have e2:=he y _ hy _ rfl
 have e3:bLt b a = !(Op.bytesLess a.toList b.toList || (a.toList == b.toList)):=by
  rw [up,oP]
  cases h1:bLt a b with
  | true=>
    cases h2:bLt b a with
    | true=>have:=oQ h1 h2;rw [fN] at this;cases this
    | false=>rfl
  | false=>
    cases h2:bLt b a with
    | true=>
      rw [decide_eq_false (fun e=>by subst e;rw [fN] at h2;cases h2)]
      rfl
    | false=>rw [decide_eq_true (uq h1 h2)];rfl
 rw [e3]
 simp [execOp,e1,e2,eqGuard,binOp,Op.stringOp]
theorem eT{s t el:TypeId}{x:Operand}{v:SV}{b:ByteArray}(hs:P.underlying s=some (.slice el))(ht:P.underlying t=some .string)(he:P.underlying el=some (.int .u8))(hx:am T x=some v)(hb:BsIs H v (u8L b)):ReadDoes P T H ⟨d,.convert s t x,ty,pos,af,gd⟩ (.sc (.string b)):=by
 have hr:=BsIs.rdv (P:=P) hb
 unfold RdV at hr
 obtain⟨_,⟨h1,a0,c0,rfl⟩|⟨r,eo,ne,ro,rt,us,rfl,_⟩|⟨b',o,C,vo,rfl,_⟩⟩:=hb
 ·have hb0:b=⟨#[]⟩:=by
   have:=congrArg List.length h1
   simp only [u8L,List.length_map,List.length_nil] at this
   obtain⟨⟨l⟩⟩:=b
   simp only at this
   rw [zz this]
  subst hb0
  refine cS fun ev w hv=>?_
  have e1:=hv x _ hx _ rfl
  simp only [execOp,e1]
  rw [Sem.run_bind,run_convert_bytes_string w s t el a0 0 c0 hs he ht]
  cases a0 with
  | none=>
    simp only [Conv.bytesToString,Sem.run_pure]
    rfl
  | some ad=>
    have:=run_loadCells_list (P:=P) (w:=w) ad [] (by simp)
    rw [run_bytesToString w ad 0 c0 [] (by simpa using this)]
    rfl
 ·refine eA ?_
  simp only [c6,hx,zK,nF,hs,ht,he,hr,oL]
 ·refine eA ?_
  simp only [c6,hx,zK,nF,hs,ht,he,hr,oL]
end
section
variable {P:Program} {ro:Option Nat} {fn nt nx i:Nat} {T:Tr SV} {k:List AIt} {dfs:List ADf} {H:aJ} {Q:Pst} {ops:Array Oper} {l:List Oper} {ty:TypeId} {pos:String} {af:Array Edge} {gd:Option (Nat×Bool)}
theorem mC{t el:TypeId}{x y:Operand}{kx ky:IntKind}{n m dd bb:Nat}{z:Value}(hw:ar T ops ⟨some dd,.makeSlice t x y,ty,pos,af,gd⟩=some true)(hd:Nat.blt dd nt=true)(hu:P.underlying t=some (.slice el))(hs:bA P el=some 1)(hz:dq P el=some z)(hi:(P.info? el).map (·.bytes)=some bb)(hc:z.cells = #[z])
 (hx:am T x=some (.sc (.int kx n))) (hy:am T y=some (.sc (.int ky m))) (hnm:n≤m) (hm:bb*m≤281474976710656) (h63:m≤9223372036854775807)
 (h:Wp P ro ⟨fn,nt,T.set dd (.slu nx 0 n),.inReg ops (i+1) l :: k,dfs,H.set nx (dat false m 1 el (List.replicate m z)),nx+1⟩ Q):Wp P ro ⟨fn,nt,T,.inReg ops i (⟨some dd,.makeSlice t x y,ty,pos,af,gd⟩ :: l) :: k,dfs,H,nx⟩ Q:=
 bK hw (.inr (fun _ h=>by cases h)) (tb hu hs hz hi hc hx hy hnm hm h63) (by rw [aC hd];exact h)
theorem sq{t yt:TypeId}{x y:Operand}{a b:ByteArray}{r:Bool}{dd:Nat}(hw:ar T ops ⟨some dd,.binOp .gtr t x y yt,ty,pos,af,gd⟩=some true)(hd:Nat.blt dd nt=true)(hx:am T x=some (.sc (.string a)))(hy:am T y=some (.sc (.string b)))(hr:bLt b a=r)
 (h:Wp P ro ⟨fn,nt,T.set dd (.sc (.bool r)),.inReg ops (i+1) l :: k,dfs,H,nx⟩ Q):Wp P ro ⟨fn,nt,T,.inReg ops i (⟨some dd,.binOp .gtr t x y yt,ty,pos,af,gd⟩ :: l) :: k,dfs,H,nx⟩ Q:=
 bK hw (.inr (fun _ h=>by cases h)) ((vi hx hy hr).does) (by rw [aC hd];exact h)
theorem ix{t e:TypeId}{x:Operand}{s:SV}{vs:List Value}{dd:Nat}(hw:ar T ops ⟨some dd,.call {callee:= .builtin .len,args:= #[x],argTypes:= #[t]},ty,pos,af,gd⟩=some true)(hd:Nat.blt dd nt=true)(hu:P.underlying t=some (.slice e))(hx:am T x=some s)(hb:BsIs H s vs)
 (h:Wp P ro ⟨fn,nt,T.set dd (.sc (.int .i64 vs.length)),.inReg ops (i+1) l :: k,dfs,H,nx⟩ Q):Wp P ro ⟨fn,nt,T,.inReg ops i (⟨some dd,.call {callee:= .builtin .len,args:= #[x],argTypes:= #[t]},ty,pos,af,gd⟩ :: l) :: k,dfs,H,nx⟩ Q:=
 bK hw (.inr (fun _ h=>by cases h)) ((xc hu hx hb).does) (by rw [aC hd];exact h)
end
section
variable {P:Program} {nt nx:Nat} {T:Tr SV} {H:aJ} {ops:Array Oper} {i:Nat} {l:List Oper} {ty:TypeId} {pos:String} {af:Array Edge} {gd:Option (Nat×Bool)} {K:DS→Prop} {rs:List Rec} {Hs:List (aJ×Nat)} {stg:Nat}
theorem ij{s t el:TypeId}{x:Operand}{v:SV}{b:ByteArray}{dd:Nat}(hw:ar (aG T (aF ops.toList ⟨some dd,.convert s t x,ty,pos,af,gd⟩)) ops ⟨some dd,.convert s t x,ty,pos,af,gd⟩=some true)(hd:Nat.blt dd nt=true)(hx:am (aG T (aF ops.toList ⟨some dd,.convert s t x,ty,pos,af,gd⟩)) x=some v)(hs:P.underlying s=some (.slice el))(ht:P.underlying t=some .string)(he:P.underlying el=some (.int .u8))(hb:BsIs H v (u8L b))
 (h:DrawK P nt ops (i+1) l ⟨T.set dd (.sc (.string b)),H,nx,⟨i,⟨some dd,.convert s t x,ty,pos,af,gd⟩,(aG T (aF ops.toList ⟨some dd,.convert s t x,ty,pos,af,gd⟩)),stg,false,true,(.sc (.string b))⟩ :: rs,Hs,stg⟩ K):DrawK P nt ops i (⟨some dd,.convert s t x,ty,pos,af,gd⟩ :: l) ⟨T,H,nx,rs,Hs,stg⟩ K:=
 bl hw hd (fun _ h=>by cases h) (eT hs ht he hx hb) h
end
end Go.Sy
end
section
namespace Go.Proofs.YtjjgjjlgchidlaaGreat
open Go Go.Sy
theorem lm(a:ByteArray):Ctr Tryz.prog 86 [.sc (.string a)] [] (fun c=>c=⟨.sc (.bool false),[]⟩):=by
 refine Fnc.start Tryz.func86 rfl rfl ?_
 (repeat(first|refine aq ?_|refine ae ?_|refine ac ?_|refine aj rfl rfl rfl ?_|refine ai rfl rfl rfl ?_|(refine mB (r:=false) rfl rfl rfl rfl (by simp only [bne];rw [(MapKept.bytes_beq a a).2 rfl];rfl) ?_)))
 (apply bf Tryz.func86 (congrArg Array.toList Tryz.results86);(focus(repeat(first|exact ResIs.nil|apply ResIs.tmp rfl))))
 (refine⟨_,rfl,Ends.val (ExtOk.of rfl) rfl ?_ ?_⟩)
 ·rfl
 ·trivial
theorem tw(a:Int):Ctr Tryz.prog 87 [.sc (.int .i64 a)] [] (fun c=>c=⟨.sc (.bool false),[]⟩):=by
 refine Fnc.start Tryz.func87 rfl rfl ?_
 (repeat(first|refine aq ?_|refine ae ?_|refine ac ?_|refine aj rfl rfl rfl ?_|refine ai rfl rfl rfl ?_|refine yh rfl rfl rfl rfl ?_))
 (apply bf Tryz.func87 (congrArg Array.toList Tryz.results87);(focus(repeat(first|exact ResIs.nil|apply ResIs.tmp rfl))))
 (refine⟨_,rfl,Ends.val (ExtOk.of rfl) rfl ?_ ?_⟩)
 ·simp
 ·trivial
def yb(a b:Int):Int:=if a<b then -1 else if b<a then 1 else 0
def xT(a b:ByteArray):Int:=bif bLt a b then -1 else bif bLt b a then 1 else 0
theorem uh(a b:Int):Ctr Tryz.prog 56 [.sc (.int .i64 a),.sc (.int .i64 b)] [] (fun c=>c=⟨.sc (.int .i64 (yb a b)),[]⟩):=by
 refine Fnc.start Tryz.func56 rfl rfl ?_
 (repeat(first|refine aq ?_|refine ae ?_|refine ac ?_|refine aH ?_|refine au rfl ?_|refine aj rfl rfl rfl ?_|refine ai rfl rfl rfl ?_|refine fc (tw _) [] rfl rfl rfl (by kernel_rfl) rfl (ExtOk.of rfl) rfl trivial ?_))
 refine bR rfl rfl rfl rfl ?_ ?_
 all_goals intro h1
 ·(repeat(first|refine aq ?_|refine ae ?_|refine ac ?_|refine ax rfl ?_|refine ai rfl rfl rfl ?_))
  (apply bf Tryz.func56 (congrArg Array.toList Tryz.results56);(focus(repeat(first|exact ResIs.nil|apply ResIs.tmp rfl))))
  (refine⟨_,rfl,Ends.val (ExtOk.of rfl) rfl ?_ ?_⟩)
  ·unfold yb;rw [if_pos h1]
  ·trivial
 ·(repeat(first|refine aq ?_|refine ae ?_|refine ac ?_|refine aH ?_|refine au rfl ?_|refine aj rfl rfl rfl ?_))
  refine e9 rfl rfl rfl rfl ?_ ?_
  all_goals intro h2
  ·(repeat(first|refine aq ?_|refine ae ?_|refine ac ?_|refine ax rfl ?_|refine ai rfl rfl rfl ?_))
   (apply bf Tryz.func56 (congrArg Array.toList Tryz.results56);(focus(repeat(first|exact ResIs.nil|apply ResIs.tmp rfl))))
   (refine⟨_,rfl,Ends.val (ExtOk.of rfl) rfl ?_ ?_⟩)
   ·unfold yb;rw [if_neg (by omega),if_pos h2]
   ·trivial
  ·(repeat(first|refine aq ?_|refine ae ?_|refine ac ?_|refine aH ?_|refine au rfl ?_|refine ai rfl rfl rfl ?_))
   (apply bf Tryz.func56 (congrArg Array.toList Tryz.results56);(focus(repeat(first|exact ResIs.nil|apply ResIs.tmp rfl))))
   (refine⟨_,rfl,Ends.val (ExtOk.of rfl) rfl ?_ ?_⟩)
   ·unfold yb;rw [if_neg (by omega),if_neg (by omega)]
   ·trivial
theorem ui(a b:ByteArray):Ctr Tryz.prog 55 [.sc (.string a),.sc (.string b)] [] (fun c=>c=⟨.sc (.int .i64 (xT a b)),[]⟩):=by
 refine Fnc.start Tryz.func55 rfl rfl ?_
 cases h1:bLt a b with
 | true=>
   (repeat(first|refine aq ?_|refine ae ?_|refine ac ?_|refine aH ?_|refine ax rfl ?_|refine au rfl ?_|refine aj rfl rfl rfl ?_|refine ai rfl rfl rfl ?_|refine fc (lm _) [] rfl rfl rfl (by kernel_rfl) rfl (ExtOk.of rfl) rfl trivial ?_|(refine kU (r:=true) rfl rfl rfl rfl h1 ?_)))
   (apply bf Tryz.func55 (congrArg Array.toList Tryz.results55);(focus(repeat(first|exact ResIs.nil|apply ResIs.tmp rfl))))
   (refine⟨_,rfl,Ends.val (ExtOk.of rfl) rfl ?_ ?_⟩)
   ·unfold xT;rw [h1];rfl
   ·trivial
 | false=>
   cases h2:bLt b a with
   | true=>
     (repeat(first|refine aq ?_|refine ae ?_|refine ac ?_|refine aH ?_|refine ax rfl ?_|refine au rfl ?_|refine aj rfl rfl rfl ?_|refine ai rfl rfl rfl ?_|refine fc (lm _) [] rfl rfl rfl (by kernel_rfl) rfl (ExtOk.of rfl) rfl trivial ?_|(refine kU (r:=false) rfl rfl rfl rfl h1 ?_)|(refine sq (r:=true) rfl rfl rfl rfl h2 ?_)))
     (apply bf Tryz.func55 (congrArg Array.toList Tryz.results55);(focus(repeat(first|exact ResIs.nil|apply ResIs.tmp rfl))))
     (refine⟨_,rfl,Ends.val (ExtOk.of rfl) rfl ?_ ?_⟩)
     ·unfold xT;rw [h1,h2];rfl
     ·trivial
   | false=>
     (repeat(first|refine aq ?_|refine ae ?_|refine ac ?_|refine aH ?_|refine au rfl ?_|refine aj rfl rfl rfl ?_|refine ai rfl rfl rfl ?_|refine fc (lm _) [] rfl rfl rfl (by kernel_rfl) rfl (ExtOk.of rfl) rfl trivial ?_|(refine kU (r:=false) rfl rfl rfl rfl h1 ?_)|(refine sq (r:=false) rfl rfl rfl rfl h2 ?_)))
     (apply bf Tryz.func55 (congrArg Array.toList Tryz.results55);(focus(repeat(first|exact ResIs.nil|apply ResIs.tmp rfl))))
     (refine⟨_,rfl,Ends.val (ExtOk.of rfl) rfl ?_ ?_⟩)
     ·unfold xT;rw [h1,h2];rfl
     ·trivial
def or3(a b c:Int):Int:=if a=0 then(if b=0 then c else b) else a
theorem xl(a b c:Int):Ctr Tryz.prog 54 [.slu 0 0 3] [dat false 3 1 3 [.int .i64 a,.int .i64 b,.int .i64 c]] (fun x=>x=⟨.sc (.int .i64 (or3 a b c)),[dat false 3 1 3 [.int .i64 a,.int .i64 b,.int .i64 c]].map some⟩):=by
 refine Fnc.start Tryz.func54 rfl rfl ?_
 (repeat(first|refine aq ?_|refine ae ?_|refine ac ?_|refine aI ?_|refine aH ?_|refine ax rfl ?_|refine aj rfl rfl rfl ?_|refine ai rfl rfl rfl ?_|refine a6 rfl rfl rfl (F.un _ rfl) ?_|refine jd ?_|refine pf rfl rfl rfl rfl (F.un _ rfl) (F.sz _ rfl) rfl (by omega) (by omega) (by omega) ?_|refine jf rfl rfl rfl (F.ag _ rfl) rfl rfl (by decide) ?_|refine pe rfl rfl rfl rfl ?_))
 refine cD rfl rfl rfl rfl ?_ ?_
 all_goals intro h1
 ·(repeat(first|refine aq ?_|refine ae ?_|refine ac ?_|refine ax rfl ?_|refine aj rfl rfl rfl ?_|refine ai rfl rfl rfl ?_))
  (apply bf Tryz.func54 (congrArg Array.toList Tryz.results54);(focus(repeat(first|exact ResIs.nil|apply ResIs.tmp rfl))))
  (refine⟨_,rfl,Ends.val (ExtOk.of rfl) rfl ?_ ?_⟩)
  ·unfold or3;rw [if_neg h1]
  ·(refine⟨?_,trivial⟩;rw [eb];first|rfl|exact congrArg some (cR _ _ _ _ _))
 ·(repeat(first|refine aq ?_|refine ae ?_|refine ac ?_|refine aI ?_|refine aB ?_|refine aH ?_|refine ax rfl ?_|refine au rfl ?_|refine aj rfl rfl rfl ?_|refine ai rfl rfl rfl ?_|refine bn rfl rfl rfl rfl (by omega) (by omega) ?_|refine kS ?_|refine pf rfl rfl rfl rfl (F.un _ rfl) (F.sz _ rfl) rfl (by omega) (by omega) (by omega) ?_|refine jf rfl rfl rfl (F.ag _ rfl) rfl rfl (by decide) ?_|refine pe rfl rfl rfl rfl ?_))
  refine cD rfl rfl rfl rfl ?_ ?_
  all_goals intro h2
  ·(repeat(first|refine aq ?_|refine ae ?_|refine ac ?_|refine ax rfl ?_|refine aj rfl rfl rfl ?_|refine ai rfl rfl rfl ?_))
   (apply bf Tryz.func54 (congrArg Array.toList Tryz.results54);(focus(repeat(first|exact ResIs.nil|apply ResIs.tmp rfl))))
   (refine⟨_,rfl,Ends.val (ExtOk.of rfl) rfl ?_ ?_⟩)
   ·unfold or3;rw [if_pos h1,if_neg h2]
   ·(refine⟨?_,trivial⟩;rw [eb];first|rfl|exact congrArg some (cR _ _ _ _ _))
  ·(repeat(first|refine aq ?_|refine ae ?_|refine ac ?_|refine aI ?_|refine aB ?_|refine aH ?_|refine ax rfl ?_|refine au rfl ?_|refine aj rfl rfl rfl ?_|refine ai rfl rfl rfl ?_|refine bn rfl rfl rfl rfl (by omega) (by omega) ?_|refine kS ?_|refine pf rfl rfl rfl rfl (F.un _ rfl) (F.sz _ rfl) rfl (by omega) (by omega) (by omega) ?_|refine jf rfl rfl rfl (F.ag _ rfl) rfl rfl (by decide) ?_|refine pe rfl rfl rfl rfl ?_))
   refine cD rfl rfl rfl rfl ?_ ?_
   all_goals intro h3
   ·(repeat(first|refine aq ?_|refine ae ?_|refine ac ?_|refine ax rfl ?_|refine aj rfl rfl rfl ?_|refine ai rfl rfl rfl ?_))
    (apply bf Tryz.func54 (congrArg Array.toList Tryz.results54);(focus(repeat(first|exact ResIs.nil|apply ResIs.tmp rfl))))
    (refine⟨_,rfl,Ends.val (ExtOk.of rfl) rfl ?_ ?_⟩)
    ·unfold or3;rw [if_pos h1,if_pos h2]
    ·(refine⟨?_,trivial⟩;rw [eb];first|rfl|exact congrArg some (cR _ _ _ _ _))
   ·(repeat(first|refine aq ?_|refine ae ?_|refine ac ?_|refine aB ?_|refine aH ?_|refine a9 rfl ?_|refine au rfl ?_|refine aj rfl rfl rfl ?_|refine ai rfl rfl rfl ?_|refine bn rfl rfl rfl rfl (by omega) (by omega) ?_|refine kS ?_|refine pe rfl rfl rfl rfl ?_))
    (apply bf Tryz.func54 (congrArg Array.toList Tryz.results54);(focus(repeat(first|exact ResIs.nil|apply ResIs.tmp rfl))))
    (refine⟨_,rfl,Ends.val (ExtOk.of rfl) rfl ?_ ?_⟩)
    ·unfold or3;rw [if_pos h1,if_pos h2,h3]
    ·(refine⟨?_,trivial⟩;rw [eb];first|rfl|exact congrArg some (cR _ _ _ _ _))
abbrev cO:=ByteArray×Int×Int
abbrev eO(e:cO):SV:= .agg [.sc (.string e.1),.sc (.int .i64 e.2.1),.sc (.int .i64 e.2.2)]
def x7(a b:cO):Int:=or3 (xT a.1 b.1) (yb a.2.1 b.2.1) (yb a.2.2 b.2.2)
theorem jN(a b:cO):Ctr Tryz.prog 31 [eO a,eO b] [] (fun c=>c=⟨.sc (.int .i64 (x7 a b)),[]⟩):=by
 refine Fnc.start Tryz.func31 rfl rfl ?_
 (repeat(first|refine aq ?_|refine ae ?_|refine ac ?_|refine ai rfl rfl rfl ?_|refine bj rfl rfl rfl ?_))
 refine lY (by kernel_rfl) (by kernel_rfl) ?_
 (repeat(first|refine bY rfl rfl rfl ?_|refine bm rfl rfl rfl (F.fo _ _ rfl rfl) ?_|refine bx rfl rfl rfl (F.ag _ rfl) rfl rfl ?_|refine b9 rfl rfl rfl (by kernel_rfl) (Ctr.callV (ui _ _) [] rfl (ExtOk.of rfl) rfl trivial rfl) ?_|refine b9 rfl rfl rfl (by kernel_rfl) (Ctr.callV (uh _ _) [] rfl (ExtOk.of rfl) rfl trivial rfl) ?_|refine xR rfl rfl rfl rfl rfl (F.un _ rfl) (F.sz _ rfl) (F.ze _ rfl) rfl rfl rfl ?_|refine b9 rfl rfl rfl (by kernel_rfl) (Ctr.callV (xl _ _ _) [2] rfl (ExtOk.of rfl) rfl ⟨(congrArg some (eb _ _ _ _ _ _)).symm,trivial⟩ rfl) ?_))
 refine bZ ?_
 refine⟨by kernel_rfl,?_,?_⟩
 ·(repeat(first|exact trivial|refine⟨.inl rfl,?_⟩|refine⟨.inr (by(repeat(refine⟨(by first|exact bw (F.fo _ _ rfl rfl) rfl|exact ch rfl|exact aZ (F.ag _ rfl) rfl rfl (aW rfl)),?_⟩));exact trivial),?_⟩))
 (apply bf Tryz.func31 (congrArg Array.toList Tryz.results31);(focus(repeat(first|exact ResIs.nil|apply ResIs.tmp rfl))))
 (refine⟨_,rfl,Ends.val (ExtOk.of rfl) rfl ?_ ?_⟩)
 ·rfl
 ·trivial
def eI(a b:cO):Bool:=decide (x7 a b<0)
theorem tH(a b:cO):Ctr Tryz.prog 13 [eO a,eO b] [] (fun c=>c=⟨.sc (.bool (eI a b)),[]⟩):=by
 refine Fnc.start Tryz.func13 rfl rfl ?_
 (repeat(first|refine aq ?_|refine ae ?_|refine ac ?_|refine ai rfl rfl rfl ?_|refine ay rfl rfl rfl (F.ag _ rfl) rfl rfl ?_|refine bj rfl rfl rfl ?_|refine fc (jN _ _) [] rfl rfl rfl (by kernel_rfl) rfl (ExtOk.of rfl) rfl trivial ?_|refine pe rfl rfl rfl rfl ?_))
 (apply bf Tryz.func13 (congrArg Array.toList Tryz.results13);(focus(repeat(first|exact ResIs.nil|apply ResIs.tmp rfl))))
 (refine⟨_,rfl,Ends.val (ExtOk.of rfl) rfl ?_ ?_⟩)
 ·rfl
 ·trivial
def xy(k:ByteArray):Bool:=decide (1≤k.size∧k.size≤32)
def kF(e:cO):Bool:=decide ((1≤e.1.size∧e.1.size≤32)∧32≤e.2.1∧e.2.1<128∧0≤e.2.2∧e.2.2≤255)
theorem vA(a:Int):Ctr Tryz.prog 15 [.sc (.int .i64 a)] [] (fun c=>c=⟨.sc (.int .i64 a),[]⟩):=by
 refine Fnc.start Tryz.func15 rfl rfl ?_
 (repeat(first|refine aq ?_|refine ae ?_|refine ac ?_|refine aj rfl rfl rfl ?_|refine ai rfl rfl rfl ?_))
 (apply bf Tryz.func15 (congrArg Array.toList Tryz.results15);(focus(repeat(first|exact ResIs.nil|apply ResIs.tmp rfl))))
 (refine⟨_,rfl,Ends.val (ExtOk.of rfl) rfl ?_ ?_⟩)
 ·rfl
 ·trivial
theorem lp(k:ByteArray):Ctr Tryz.prog 30 [.sc (.string k)] [] (fun c=>c=⟨.sc (.bool (xy k)),[]⟩):=by
 refine Fnc.start Tryz.func30 rfl rfl ?_
 (repeat' (first|refine aq ?_|refine ae ?_|refine ac ?_|refine aj rfl rfl rfl ?_|refine ai rfl rfl rfl ?_|refine aX rfl rfl rfl rfl ?_|refine aO rfl rfl rfl rfl ?_|refine bT rfl ?_|refine be rfl rfl rfl (F.un _ rfl) ?_|(refine gB rfl rfl rfl rfl ?_ ?_ <;> intro hq)|(refine lX rfl rfl rfl rfl ?_ ?_ <;> intro hq2)))
 all_goals((apply bf Tryz.func30 (congrArg Array.toList Tryz.results30);(focus(repeat(first|exact ResIs.nil|apply ResIs.tmp rfl))));(refine⟨_,rfl,Ends.val (ExtOk.of rfl) rfl ?_ ?_⟩))
 all_goals first|trivial|(rw [show xy k=true from decide_eq_true (by omega)])|(rw [show xy k=false from decide_eq_false (by omega)])
theorem vD(e:cO):Ctr Tryz.prog 11 [eO e] [] (fun c=>c=⟨.sc (.bool (kF e)),[]⟩):=by
 refine Fnc.start Tryz.func11 rfl rfl ?_
 have hk:=lp e.1
 cases hm:xy e.1 <;> rw [hm] at hk
 all_goals(repeat' (first|refine aq ?_|refine ae ?_|refine ac ?_|refine aj rfl rfl rfl ?_|refine ai rfl rfl rfl ?_|refine aX rfl rfl rfl rfl ?_|refine aO rfl rfl rfl rfl ?_|refine ap rfl rfl rfl (F.fo _ _ rfl rfl) ?_|refine bT rfl ?_|refine an rfl rfl rfl (F.ag _ rfl) rfl rfl ?_|refine bj rfl rfl rfl ?_|refine fc (hk) [] rfl rfl rfl (by kernel_rfl) rfl (ExtOk.of rfl) rfl trivial ?_|(refine gB rfl rfl rfl rfl ?_ ?_ <;> intro hq)|(refine lX rfl rfl rfl rfl ?_ ?_ <;> intro hq)|(refine bR rfl rfl rfl rfl ?_ ?_ <;> intro hq)))
 all_goals((apply bf Tryz.func11 (congrArg Array.toList Tryz.results11);(focus(repeat(first|exact ResIs.nil|apply ResIs.tmp rfl))));(refine⟨_,rfl,Ends.val (ExtOk.of rfl) rfl ?_ ?_⟩))
 all_goals first|trivial|(simp only [xy,decide_eq_true_eq,decide_eq_false_iff_not] at hm;first|(rw [show kF e=true from decide_eq_true (by omega)])|(rw [show kF e=false from decide_eq_false (by omega)]))
theorem tD(e:cO):Ctr Tryz.prog 12 [eO e] [] (fun c=>c=⟨.sc (.bool (kF e)),[]⟩):=by
 refine Fnc.start Tryz.func12 rfl rfl ?_
 (repeat' (first|refine aq ?_|refine ae ?_|refine ac ?_|refine aj rfl rfl rfl ?_|refine ai rfl rfl rfl ?_|refine aX rfl rfl rfl rfl ?_|refine aO rfl rfl rfl rfl ?_|refine ap rfl rfl rfl (F.fo _ _ rfl rfl) ?_|refine bT rfl ?_|refine an rfl rfl rfl (F.ag _ rfl) rfl rfl ?_|refine bj rfl rfl rfl ?_|refine be rfl rfl rfl (F.un _ rfl) ?_|(refine gB rfl rfl rfl rfl ?_ ?_ <;> intro hq)|(refine lX rfl rfl rfl rfl ?_ ?_ <;> intro hq)|(refine bR rfl rfl rfl rfl ?_ ?_ <;> intro hq)))
 all_goals((apply bf Tryz.func12 (congrArg Array.toList Tryz.results12);(focus(repeat(first|exact ResIs.nil|apply ResIs.tmp rfl))));(refine⟨_,rfl,Ends.val (ExtOk.of rfl) rfl ?_ ?_⟩))
 all_goals first|trivial|(rw [show kF e=true from decide_eq_true (by omega)])|(rw [show kF e=false from decide_eq_false (by omega)])
theorem qo{a b:cO}(h:(a.1 != b.1)=true):eI a b=bLt a.1 b.1:=by
 have hne:a.1≠b.1:=fun e=>by rw [e] at h;simp only [bne,(MapKept.bytes_beq b.1 b.1).2 rfl] at h;cases h
 unfold eI x7 or3 xT
 cases h1:bLt a.1 b.1 with
 | true=>rfl
 | false=>
   cases h2:bLt b.1 a.1 with
   | true=>rfl
   | false=>exact absurd (uq h1 h2) hne
theorem qp{a b:cO}(h:(a.1 != b.1)=false):eI a b=decide (a.2.1<b.2.1∨a.2.1=b.2.1∧a.2.2<b.2.2):=by
 have he:a.1=b.1:=by
  simp only [bne,Bool.not_eq_false'] at h
  exact(MapKept.bytes_beq a.1 b.1).1 h
 have key: ∀ p q r s:Int,((if(if p<q then(-1:Int) else if q<p then 1 else 0)=0 then(if r<s then(-1:Int) else if s<r then 1 else 0) else(if p<q then(-1:Int) else if q<p then 1 else 0))<0)=(p<q∨p=q∧r<s):=by
  intro p q r s
  apply propext
  by_cases h1:p<q
  ·simp [h1]
  ·by_cases h2:q<p
   ·simp [h1,h2];omega
   ·by_cases h3:r<s
    ·simp [h1,h2,h3];omega
    ·by_cases h4:s<r
     ·simp [h1,h2,h3,h4]
     ·simp [h1,h2,h3,h4]
 unfold eI x7 xT
 rw [he,fN]
 exact decide_eq_decide.2 (iff_of_eq (key a.2.1 b.2.1 a.2.2 b.2.2))
theorem rK(a b:cO):Ctr Tryz.prog 14 [eO a,eO b] [] (fun c=>c=⟨.sc (.bool (eI a b)),[]⟩):=by
 refine Fnc.start Tryz.func14 rfl rfl ?_
 cases h:a.1 != b.1 with
 | true=>
   (repeat(first|refine aq ?_|refine ae ?_|refine ac ?_|refine ax rfl ?_|refine ai rfl rfl rfl ?_|refine ap rfl rfl rfl (F.fo _ _ rfl rfl) ?_|refine an rfl rfl rfl (F.ag _ rfl) rfl rfl ?_|refine bj rfl rfl rfl ?_|(refine mB (r:=true) rfl rfl rfl rfl h ?_)|(refine kU rfl rfl rfl rfl rfl ?_)))
   (apply bf Tryz.func14 (congrArg Array.toList Tryz.results14);(focus(repeat(first|exact ResIs.nil|apply ResIs.tmp rfl))))
   (refine⟨_,rfl,Ends.val (ExtOk.of rfl) rfl ?_ ?_⟩)
   ·rw [qo h]
   ·trivial
 | false=>
   (repeat' (first|refine aq ?_|refine ae ?_|refine ac ?_|refine aH ?_|refine au rfl ?_|refine aj rfl rfl rfl ?_|refine ai rfl rfl rfl ?_|refine aX rfl rfl rfl rfl ?_|refine aO rfl rfl rfl rfl ?_|refine ap rfl rfl rfl (F.fo _ _ rfl rfl) ?_|refine bT rfl ?_|refine an rfl rfl rfl (F.ag _ rfl) rfl rfl ?_|refine bj rfl rfl rfl ?_|(refine mB (r:=false) rfl rfl rfl rfl h ?_)|(refine bR rfl rfl rfl rfl ?_ ?_ <;> intro hq)|(refine eQ rfl rfl rfl rfl ?_ ?_ <;> intro hq)))
   all_goals((apply bf Tryz.func14 (congrArg Array.toList Tryz.results14);(focus(repeat(first|exact ResIs.nil|apply ResIs.tmp rfl))));(refine⟨_,rfl,Ends.val (ExtOk.of rfl) rfl ?_ ?_⟩))
   all_goals first|trivial|(rw [qp h];first|(rw [decide_eq_true (by omega)])|(rw [decide_eq_false (by omega)]))
end Go.Proofs.YtjjgjjlgchidlaaGreat
end
section
namespace Go.Sy
open Go Go.Sl Go.RowKit
section
variable {P:Program}
theorem kK{e e1 e2:Env}(h1:e.le e1)(h2:e.le e2){s:SV}{v0 v:Value}(h:s.conc e=some v0)(h':s.conc e1=some v):s.conc e2=some v:=by
 have:=SV.cm h1 s v0 h
 rw [h'] at this
 cases this
 exact SV.cm h2 s _ h
theorem ue{e e1 e2:Env}(h1:e.le e1)(h2:e.le e2){s:List SV}{v0 v:List Value}(h:SV.aQ e s=some v0)(h':SV.aQ e1 s=some v):SV.aQ e2 s=some v:=by
 have:=SV.cd h1 s v0 h
 rw [h'] at this
 cases this
 exact SV.cd h2 s _ h
theorem qN{e e1 e2:Env}(h1:e.le e1)(h2:e.le e2): ∀ {l:List (Value×SV×Nat)} {m0 m:List MapEntry},MRel e l m0→MRel e1 l m→MRel e2 l m
 | [],[],[],_,_=>trivial
 | (_,_,_) :: _,_ :: _,_ :: _,hd0,hd=>⟨hd.1,hd.2.1,kK h1 h2 hd0.2.2.1 hd.2.2.1,qN h1 h2 hd0.2.2.2 hd.2.2.2⟩
 | [],_ :: _,_,hd,_=>hd.elim
 | [],_,_ :: _,_,hd=>hd.elim
 | _ :: _,[],_,hd,_=>by simp [MRel] at hd
 | _ :: _,_,[],_,hd=>by simp [MRel] at hd
theorem wc{e e1 e2:Env}(h1:e.le e1)(h2:e.le e2){a:ADf}{d0 d:Deferred}(hd0:DRel e a d0)(hd:DRel e1 a d):DRel e2 a d:=by
 cases a with
 | call f args=>
   obtain⟨x0,cap0,_,hl0⟩:=hd0
   obtain⟨x,cap,rfl,hl⟩:=hd
   exact⟨x,cap,rfl,ue h1 h2 hl0 hl⟩
 | taken r=>
   obtain⟨x0,hx0,_⟩:=hd0
   obtain⟨x,hx,rfl⟩:=hd
   have:=h1 _ _ hx0
   rw [hx] at this
   cases this
   exact⟨_,h2 _ _ hx0,rfl⟩
theorem oV{e e1 e2:Env}(h1:e.le e1)(h2:e.le e2): ∀ {l:List ADf} {m0 m:List Deferred},DsRel e l m0→DsRel e1 l m→DsRel e2 l m
 | [],[],[],_,_=>trivial
 | _ :: _,_ :: _,_ :: _,hd0,hd=>⟨wc h1 h2 hd0.1 hd.1,oV h1 h2 hd0.2 hd.2⟩
 | [],_ :: _,_,hd,_=>hd.elim
 | [],_,_ :: _,_,hd=>hd.elim
 | _ :: _,[],_,hd,_=>hd.elim
 | _ :: _,_,[],_,hd=>hd.elim
theorem v6{e e1 e2:Env}(h1:e.le e1)(h2:e.le e2){nt:Nat}{T:Tr SV}{t0 t:Array Value}(hd0:TRel e nt T t0)(hd:TRel e1 nt T t):TRel e2 nt T t:=by
 refine⟨hd.1,fun i s hs=>?_⟩
 obtain⟨v0,a1,_⟩:=hd0.2 i s hs
 obtain⟨v,b1,b2⟩:=hd.2 i s hs
 exact⟨v,kK h1 h2 a1 b1,b2⟩
theorem v8{e e1 e2:Env}(h1:e.le e1)(h2:e.le e2){vo:VO}{x:Ent}{o0 o:Obj}(h0:ORel e vo x o0)(ho:ORel e1 vo x o):ORel e2 vo x o:=by
 cases vo with
 | cells n t c=>
   obtain⟨_,cs0,fz0,_,_,_,g4⟩:=h0
   obtain⟨q0,cs,fz,q1,q2,q3,q4⟩:=ho
   refine⟨q0,cs,fz,q1,q2,q3,fun i hi s hs=>?_⟩
   obtain⟨v0,a1,_⟩:=g4 i hi s hs
   obtain⟨v,b1,b2⟩:=q4 i hi s hs
   exact⟨v,kK h1 h2 a1 b1,b2⟩
 | row ro ne sz t c=>
   obtain⟨_,cs0,fz0,t0,_,_,_,_,_,_,g7⟩:=h0
   obtain⟨q0,cs,fz,tt,q1,q2,q3,q4,q5,q6,q7⟩:=ho
   refine⟨q0,cs,fz,tt,q1,q2,q3,q4,q5,q6,fun i hi s hs=>?_⟩
   obtain⟨v0,a1,_⟩:=g7 i hi s hs
   obtain⟨v,b1,b2⟩:=q7 i hi s hs
   exact⟨v,kK h1 h2 a1 b1,b2⟩
 | map l clock=>
   obtain⟨es0,_,g2⟩:=h0
   obtain⟨es,q1,q2⟩:=ho
   exact⟨es,q1,qN h1 h2 g2 q2⟩
 | iter m since seen stepped=>
   cases m with
   | none=>exact ho
   | some m=>
     obtain⟨_,y0,g1,_⟩:=h0
     obtain⟨q0,y,q1,q2⟩:=ho
     have:=h1 _ _ g1
     rw [q1] at this
     cases this
     exact⟨q0,_,h2 _ _ g1,q2⟩
 | siter s pos=>exact ho
 | loop st pend fn nt T params assign body dr=>
   obtain⟨tm0,y0,g1,g2,_⟩:=h0
   obtain⟨tm,y,q1,q2,q3⟩:=ho
   have:=h1 _ _ g1
   rw [q1] at this
   cases this
   exact⟨tm,_,h2 _ _ g1,v6 h1 h2 g2 q2,q3⟩
 | dfd l=>
   cases l with
   | none=>exact ho
   | some l=>
     obtain⟨ds0,_,g2⟩:=h0
     obtain⟨ds,q1,q2⟩:=ho
     exact⟨ds,q1,oV h1 h2 g2 q2⟩
theorem qP{K:Zone}{w0 w:World}{e e1 e2:Env}(h1:e.le e1)(h2:e.le e2){vo:VO}{x:Ent}(h0:Lies K w0 e vo x)(ho:Lies K w e1 vo x):Lies K w e2 vo x:=by
 rcases ho with ⟨a0,o,a1,a2,a3⟩|a
 ·rcases h0 with ⟨_,o0,_,_,b3⟩|⟨b,_⟩
  ·exact .inl ⟨a0,o,a1,a2,v8 h1 h2 b3 a3⟩
  ·rw [a0] at b;cases b
 ·exact .inr a
theorem wa{K:Zone}{w:World}{e e':Env}{rr:Bool}{ne sz:Nat}{t:TypeId}{vs:List Value}{x:Ent}(h:Lies K w e (dat rr ne sz t vs) x):Lies K w e' (dat rr ne sz t vs) x:=by
 rcases h with ⟨a0,o,a1,a2,a3⟩|a
 ·obtain⟨q0,cs,fz,tt,q1,q2,q3,q4,q5,q6,q7⟩:=a3
  refine .inl ⟨a0,o,a1,a2,q0,cs,fz,tt,q1,q2,q3,q4,q5,q6,fun i hi s hs=>?_⟩
  obtain⟨v,b1,b2⟩:=q7 i hi s hs
  refine⟨v,?_,b2⟩
  simp only [Tr.at',zr] at hs
  obtain⟨u,_,rfl⟩:=hs
  exact b1
 ·exact .inr a
theorem St.next{K:Zone}{w0 w w1:World}{e e1:Env}{H H1:aJ}{nx nx1 r:Nat}{rr:Bool}{ne sz:Nat}{t:TypeId}{vs:List Value}(hS:St K w0 e H nx w)(hle:e.le e1)(hS1:St K w0 e1 H1 nx1 w1)(hr:H1.at' r=some (dat rr ne sz t vs))(h1:nx≤r)(hk: ∀ m,m<nx→H1.at' m=H.at' m) :
 ∃ e2,e.le e2∧St K w0 e2 (H.set nx (dat rr ne sz t vs)) (nx+1) w1∧e2 nx=e1 r:=by
 have hbelow: ∀ m x,e m=some x→m<nx:=fun m x hx=>by
  rcases Nat.lt_or_ge m nx with q|q
  ·exact q
  ·rw [hS.fresh m q] at hx;cases hx
 have hle2:e.le (fun m=>if m<nx then e1 m else if m=nx then e1 r else none):=fun m x hx=>by
  have:=hbelow m x hx
  simp only [if_pos this]
  exact hle m x hx
 obtain⟨xr,hxr,hlr⟩:=hS1.rel r _ hr
 have hget: ∀ m vo,(H.set nx (dat rr ne sz t vs)).at' m=some vo→(m=nx∧vo=dat rr ne sz t vs)∨(m<nx∧H.at' m=some vo):=fun m vo h=>by
  rcases Tr.b8 h with ⟨q1,q2⟩|⟨q1,q2⟩
  ·exact .inl ⟨q1,q2⟩
  ·obtain⟨x,hx,_⟩:=hS.rel m vo q2
   exact .inr ⟨hbelow m x hx,q2⟩
 refine⟨fun m=>if m<nx then e1 m else if m=nx then e1 r else none,hle2,⟨hS1.below,fun m vo h=>?_,fun m m' vo vo' x x' g g' gx gx' gne gn gn' gro gro'=>?_,fun i hi=>?_⟩,?_⟩
 ·rcases hget m vo h with ⟨rfl,rfl⟩|⟨q1,q2⟩
  ·refine⟨xr,?_,wa hlr⟩
   simp [hxr]
  ·obtain⟨x0,hx0,hl0⟩:=hS.rel m vo q2
   obtain⟨x,hx,hl⟩:=hS1.rel m vo ((hk m q1).trans q2)
   have:=hle m x0 hx0
   rw [hx] at this
   cases this
   refine⟨_,?_,qP hle hle2 hl0 hl⟩
   simp only [if_pos q1]
   exact hx
 ·change (if m<nx then e1 m else if m=nx then e1 r else none)=some x at gx
  change (if m'<nx then e1 m' else if m'=nx then e1 r else none)=some x' at gx'
  rcases hget m vo g with ⟨rfl,rfl⟩|⟨q1,q2⟩
  ·rcases hget m' vo' g' with ⟨rfl,rfl⟩|⟨p1,p2⟩
   ·exact absurd rfl gne
   ·simp only [Nat.lt_irrefl,if_false,if_true] at gx
    simp only [if_pos p1] at gx'
    exact hS1.inj r m' _ vo' x x' hr ((hk m' p1).trans p2) gx gx' (by omega) gn gn' gro gro'
  ·rw [if_pos q1] at gx
   rcases hget m' vo' g' with ⟨rfl,rfl⟩|⟨p1,p2⟩
   ·rw [if_neg (Nat.lt_irrefl _),if_pos rfl] at gx'
    exact hS1.inj m r vo _ x x' ((hk m q1).trans q2) hr gx gx' (by omega) gn gn' gro gro'
   ·rw [if_pos p1] at gx'
    exact hS1.inj m m' vo vo' x x' ((hk m q1).trans q2) ((hk m' p1).trans p2) gx gx' gne gn gn' gro gro'
 ·show(if i<nx then e1 i else if i=nx then e1 r else none)=none
  rw [if_neg (by omega),if_neg (by omega)]
 ·simp
theorem Fnc.next{f:FuncId}{args:List SV}{H:aJ}{nx m:Nat}{rr:Bool}{ne sz:Nat}{t:TypeId}{vs:List Value}(h:Fnc P f args H nx (fun q=> ∃ r',q.1 = .slu r' 0 m∧q.2.1.at' r'=some (dat rr ne sz t vs)∧nx≤r'∧r'<q.2.2∧nx≤q.2.2∧ ∀ n,n<nx→q.2.1.at' n=H.at' n)):Fnc P f args H nx (fun q=>q=(.slu nx 0 m,H.set nx (dat rr ne sz t vs),nx+1)):=by
 have hv: ∀ {e1 e2:Env} {r:Nat} {v:Value},e2 nx=e1 r→(SV.slu r 0 m).conc e1=some v→(SV.slu nx 0 m).conc e2=some v:=fun h1 h2=>by
  simpa [SV.conc,h1] using h2
 unfold Fnc gS at h ⊢
 rcases h with ⟨h1,v,r,h2,⟨r',q1,q2,q3,q4,q5,q6⟩,h4⟩|h
 ·refine .inl ⟨h1,v,_,h2,rfl,fun K w0 e w hS=>?_⟩
  obtain⟨e',g1,g2,g3⟩:=h4 K w0 e w hS
  obtain⟨e2,k1,k2,k3⟩:=hS.next g1 g2 q2 q3 q6
  rw [q1] at g3
  exact⟨e2,k1,k2,hv k3 g3⟩
 ·refine .inr ?_
  split at h
  ·refine⟨fun K w0 e w tmps todo ds kd rof cs hS a2 a3 a4 a5=>?_⟩
   obtain⟨r,⟨r',q1,q2,q3,q4,q5,q6⟩,e',w',v,g1,g2,g3,g4⟩:=Wp.run h K w0 e w tmps todo ds kd rof cs hS a2 a3 a4 a5
   obtain⟨e2,k1,k2,k3⟩:=hS.next g1 g2 q2 q3 q6
   rw [q1] at g3
   exact⟨_,rfl,e2,w',v,k1,k2,hv k3 g3,g4⟩
  ·exact h.elim
end
end Go.Sy
end
section
namespace Go.Proofs.YtjjgjjlgchidlaaGreat
open Go Go.Sy Go.Sl Go.RowKit
def LsIs(H:aJ)(ls:List SV)(bs:List (List Value)):Prop:=ls.length=bs.length∧ ∀ (j:Nat) s vs,ls[j]? =some s→bs[j]? =some vs→BsIs H s vs
abbrev bsR(ro:Bool)(ls:List SV):VO:=fQ ro ls.length 1 26 ls
abbrev u8R(ro:Bool)(vs:List Value):VO:=dat ro vs.length 1 5 vs
abbrev u8Z:Value:= .int .u8 0
theorem LsIs.at{H:aJ}{ls:List SV}{bs:List (List Value)}(h:LsIs H ls bs){j:Nat}(hj:j<ls.length): ∃ s vs,ls[j]? =some s∧bs[j]? =some vs∧BsIs H s vs:=by
 obtain⟨h1,h2⟩:=h
 exact⟨ls[j],bs[j]'(by omega),by simp [hj],by rw [zk],h2 j _ _ (by simp [hj]) (by rw [zk])⟩
theorem gO{bs:List (List Value)}{j:Nat}{vs:List Value}(h:bs[j]? =some vs):(bs.take (j+1)).flatten=(bs.take j).flatten ++ vs:=by
 rw [List.take_add_one,h]
 simp
theorem pF(bs:List (List Value))(j:Nat):(bs.take j).flatten.length≤bs.flatten.length:=by
 conv=>rhs;rw [← List.take_append_drop j bs,List.flatten_append,zH]
 omega
theorem qB{bs:List (List Value)}(h: ∀ vs∈bs,nV vs):nV bs.flatten:=by
 intro v hv
 obtain⟨l,hl,hv⟩:=List.mem_flatten.1 hv
 exact h l hl v hv
theorem yW{H:aJ}{nx r:Nat}{ro:Bool}{ls:List SV}{bs:List (List Value)}(hr:H.at' r=some (bsR ro ls))(hb:LsIs H ls bs)(hsz:bs.flatten.length≤140737488355328)(hl:ls.length≤4611686018427387904):Fnc Tryz.prog 29 [.slu r 0 ls.length] H nx
 (fun q=> ∃ r',q.1 = .slu r' 0 bs.flatten.length∧q.2.1.at' r'=some (u8R false bs.flatten)∧nx≤r'∧r'<q.2.2∧nx≤q.2.2∧ ∀ n,n<nx→q.2.1.at' n=H.at' n):=by
 refine Fnc.start Tryz.func29 rfl rfl ?_
 refine cn fun hund=>?_
 have hlt:=hund _ _ hr
 (repeat(first|refine aq ?_|refine ae ?_|refine ac ?_|refine aI ?_|(apply aj;exact rfl;exact rfl;exact rfl)|(apply ai;exact rfl;exact rfl;exact rfl)|(apply a6;exact rfl;exact rfl;exact rfl;exact(F.un _ rfl))))
 refine co (α:=Nat) (fun j=> [(0,.slu r 0 ls.length),(2,.sc (.slice none 0 0)),(3,.sc (.int .i64 ((bs.take j).flatten.length:Nat))),(9,.slu r 0 ls.length),(10,.sc (.int .i64 (ls.length:Int))),(11,.sc (.int .i64 (j:Int)))]) (fun j H1 n1=>H1=H∧n1=nx∧j≤ls.length) (fun j=>ls.length-j) 0
  ⟨rfl,rfl,zE _⟩ (SlIn.sub (by repeat(first|exact trivial|refine⟨rfl,?_⟩))) ?_
 rintro j H1 n1 ⟨rfl,rfl,h1⟩ ih
 (repeat(first|refine aq ?_|refine ae ?_))
 (apply bR;exact rfl;exact rfl;exact rfl;exact rfl)
 all_goals intro h6
 ·obtain⟨s,vs,g1,g2,g3⟩:=hb.at (j:=j) (by omega)
  have hle:=pF bs (j+1)
  have hft:=gO g2
  rw [hft,zH] at hle
  have hcell:(bsR ro ls).cell (j*1)=some s:=jB (by rw [Nat.mul_one];exact g1) (by omega)
  (repeat(first|refine aq ?_|refine ae ?_|refine ac ?_|refine aI ?_|refine aB ?_|refine aH ?_|refine ax rfl ?_|(apply aj;exact rfl;exact rfl;exact rfl)|(apply ai;exact rfl;exact rfl;exact rfl)|(apply bn;exact rfl;exact rfl;exact rfl;exact rfl;(focus(omega));(focus(omega)))|refine fm (q:=j) rfl rfl rfl rfl (F.un _ rfl) (F.sz _ rfl) (by assumption) (by omega) (by(omega)) (zD _) ?_|(refine jg rfl rfl rfl (F.ag _ rfl) hr hcell ?_)|(refine ix rfl rfl (F.un _ rfl) rfl g3 ?_)))
  refine ih _ _ _ (j+1) ⟨rfl,rfl,by omega⟩ (by omega) ?_
  rw [hft,zH]
  exact SlIn.sub (by repeat(first|exact trivial|refine⟨rfl,?_⟩))
 ·obtain rfl:j=ls.length:=by omega
  have hall:bs.take ls.length=bs:=zu (by have:=hb.1;omega)
  rw [hall]
  (repeat(first|refine aq ?_|refine ae ?_|refine ac ?_|refine aI ?_|refine a9 rfl ?_|refine au rfl ?_|(apply aj;exact rfl;exact rfl;exact rfl)|(apply ai;exact rfl;exact rfl;exact rfl)|(apply a6;exact rfl;exact rfl;exact rfl;exact(F.un _ rfl))|((apply mC (z:=u8Z) (bb:=1) (n:=0) (m:=bs.flatten.length);exact rfl;exact rfl;exact(F.un _ rfl);exact(F.sz _ rfl);exact(F.ze _ rfl);(focus(kernel_rfl));exact rfl;exact rfl;exact rfl;exact(zE _);(focus(omega));(focus(omega))))))
  have hrep: ∀ n,nV (List.replicate n u8Z):=fun n v hv=>by rw [(List.mem_replicate.1 hv).2];rfl
  refine co (α:=Nat) (fun j=> [(0,.slu r 0 ls.length),(6,.slu n1 0 (bs.take j).flatten.length),(22,.slu r 0 ls.length),(23,.sc (.int .i64 (ls.length:Int))),(24,.sc (.int .i64 (j:Int)))]) (fun j H2 n2=>n2=n1+1∧j≤ls.length∧H2.at' n1=some (dat false bs.flatten.length 1 5 ((bs.take j).flatten ++ List.replicate (bs.flatten.length-(bs.take j).flatten.length) u8Z))∧ ∀ n,n<n1→H2.at' n=H1.at' n) (fun j=>ls.length-j) 0
   ⟨rfl,zE _,by rw [Tr.ab];simp,fun n hn=>Tr.aa _ _ (by omega)⟩ (SlIn.sub (by repeat(first|exact trivial|refine⟨rfl,?_⟩))) ?_
  clear ih
  rintro j H2 n2 ⟨rfl,h2,h3,h4⟩ ih
  have hr2:H2.at' r=some (bsR ro ls):=(h4 r hlt).trans hr
  (repeat(first|refine aq ?_|refine ae ?_))
  (apply bR;exact rfl;exact rfl;exact rfl;exact rfl)
  all_goals intro h7
  ·obtain⟨s,vs,g1,g2,g3⟩:=hb.at (j:=j) (by omega)
   have g4:BsIs H2 s vs:=g3.frame fun b vo hbv=>(h4 b (hund b vo hbv)).trans hbv
   have hle:=pF bs (j+1)
   have hle0:=pF bs j
   have hft:=gO g2
   rw [hft,zH] at hle
   have hcell:(bsR ro ls).cell (j*1)=some s:=jB (by rw [Nat.mul_one];exact g1) (by omega)
   (repeat(first|refine aq ?_|refine ae ?_|refine ac ?_|refine aI ?_|refine aH ?_|refine ax rfl ?_|(apply aj;exact rfl;exact rfl;exact rfl)|(apply ai;exact rfl;exact rfl;exact rfl)|refine fm (q:=j) rfl rfl rfl rfl (F.un _ rfl) (F.sz _ rfl) (by assumption) (by omega) (by(omega)) (zD _) ?_|(refine jg rfl rfl rfl (F.ag _ rfl) hr2 hcell ?_)))
   rcases Nat.eq_zero_or_pos vs.length with h0|h0
   ·have:vs= []:=zz h0
    subst this
    refine sx (vs:= []) rfl rfl rfl rfl (F.un _ rfl) (.inl ⟨_,F.un _ rfl⟩) (F.sz _ rfl) (by decide) h3 (by omega) (BsIs.rdv g4) g4.1 ?_
    (repeat(first|refine ae ?_|refine ac ?_|refine aB ?_|(apply aj;exact rfl;exact rfl;exact rfl)|(apply ai;exact rfl;exact rfl;exact rfl)|(apply bn;exact rfl;exact rfl;exact rfl;exact rfl;(focus(omega));(focus(omega)))))
    refine ih _ _ _ (j+1) ⟨rfl,by omega,by rw [hft,List.append_nil];exact h3,h4⟩ (by omega) ?_
    rw [hft,List.append_nil]
    exact SlIn.sub (by repeat(first|exact trivial|refine⟨rfl,?_⟩))
   ·refine qZ (vs:=vs) (ws:=(bs.take (j+1)).flatten ++ List.replicate (bs.flatten.length-(bs.take (j+1)).flatten.length) u8Z) rfl rfl rfl rfl (F.un _ rfl) (.inl ⟨_,F.un _ rfl⟩) (F.sz _ rfl) h3 (BsIs.rdv g4) g4.1 (by omega) (by omega) (by omega) (by rw [zH,List.length_replicate];omega) ?_ ?_
    ·rw [hft,zH,Nat.zero_add,Nat.mul_one,Nat.mul_one,List.take_left' rfl,←List.drop_drop,List.drop_left' rfl,List.drop_replicate,Nat.sub_sub]
    ·(repeat(first|refine ae ?_|refine ac ?_|refine aB ?_|(apply aj;exact rfl;exact rfl;exact rfl)|(apply ai;exact rfl;exact rfl;exact rfl)|(apply bn;exact rfl;exact rfl;exact rfl;exact rfl;(focus(omega));(focus(omega)))))
     refine ih _ _ _ (j+1) ⟨rfl,by omega,Tr.ab _ _ _,fun n hn=>(Tr.aa _ _ (by omega)).trans (h4 n hn)⟩ (by omega) ?_
     rw [hft,zH]
     exact SlIn.sub (by repeat(first|exact trivial|refine⟨rfl,?_⟩))
  ·obtain rfl:j=ls.length:=by omega
   rw [hall] at h3 ⊢
   (repeat(first|refine aq ?_|refine ae ?_|refine ac ?_|refine a9 rfl ?_|refine au rfl ?_|(apply aj;exact rfl;exact rfl;exact rfl)|(apply ai;exact rfl;exact rfl;exact rfl)))
   ((apply bf Tryz.func29 (congrArg Array.toList Tryz.results29));(focus(repeat(first|exact ResIs.nil|apply ResIs.tmp rfl))))
   refine⟨n1,rfl,?_,zD _,Nat.lt_succ_self _,zM _,h4⟩
   rw [Nat.sub_self,List.replicate_zero,List.append_nil] at h3
   exact h3
theorem wt{H:aJ}{nx r:Nat}{ro:Bool}{ls:List SV}{bs:List (List Value)}(hr:H.at' r=some (bsR ro ls))(hb:LsIs H ls bs)(hsz:bs.flatten.length≤140737488355328)(hl:ls.length≤4611686018427387904):Fnc Tryz.prog 29 [.slu r 0 ls.length] H nx
 (fun q=>q=(.slu nx 0 bs.flatten.length,H.set nx (u8R false bs.flatten),nx+1)):=Fnc.next (yW hr hb hsz hl)
end Go.Proofs.YtjjgjjlgchidlaaGreat
end
section
namespace Go.Sy.Nq
open Go Go.Sy Go.Sl Go.RowKit
def ReadQ(P:Program)(rn:Rn)(T:Tr SV)(H:aJ)(nx:Nat)(o:Oper)(v:SV):Prop:=ReadDoes P T H o v∨eD P rn T H nx o (v,H,nx)
def qS(P:Program)(rn:Rn)(nt:Nat)(ops:Array Oper)(i:Nat)(o:Oper)(s s':DS):Prop:=
 (ar (aG s.T (aF ops.toList o)) ops o=some false∧s' = {s with T:=gv nt s.T o.dst de,recs:=⟨i,o,aG s.T (aF ops.toList o),s.stg,false,false,de⟩ :: s.recs}) ∨
 (ar (aG s.T (aF ops.toList o)) ops o=some true∧(∀ c,o.op ≠ .defer c)∧ ∃ v,ReadQ P rn (aG s.T (aF ops.toList o)) s.H s.nx o v∧s' = {s with T:=gv nt s.T o.dst v,recs:=⟨i,o,aG s.T (aF ops.toList o),s.stg,false,true,v⟩ :: s.recs}) ∨
 (ar (aG s.T (aF ops.toList o)) ops o=some true∧ ∃ v H nx,eD P rn (aG s.T (aF ops.toList o)) s.H s.nx o (v,H,nx)∧s'=⟨gv nt s.T o.dst v,H,nx,⟨i,o,aG s.T (aF ops.toList o),s.stg,true,true,v⟩ :: s.recs,(H,nx) :: s.Hs,s.stg+1⟩)
inductive DrawRunQ (P:Program) (rn:Rn) (nt:Nat) (ops:Array Oper):Nat→List Oper→DS→DS→Prop
 | nil (i:Nat) (s:DS):DrawRunQ P rn nt ops i [] s s
 | cons {i:Nat} {o:Oper} {l:List Oper} {s s1 s':DS}:qS P rn nt ops i o s s1→DrawRunQ P rn nt ops (i+1) l s1 s'→DrawRunQ P rn nt ops i (o :: l) s s'
section
variable (P:Program) (rn:Rn) (nt:Nat) (ops:Array Oper) (T0:Tr SV)
def Src(R:List Rec)(i:Nat)(t:Nat)(s:SV):Prop:=
 (∃ (k:Nat) (r:Rec),k<i∧R[k]? =some r∧r.o.dst=some t∧r.val=s)∨((∀ (k:Nat) (r:Rec),k<i→R[k]? =some r→r.o.dst≠some t)∧T0.at' t=some s)
structure RecOK (R:List Rec) (Q:List (aJ×Nat)) (C:List Nat) (i:Nat) (r:Rec):Prop where
 idx:r.i=i
 op:ops[i]? =some r.o
 slots: ∀ t s,r.T.at' t=some s→Operand.tmp t∈aF ops.toList r.o∧Src T0 R i t s
 want:ar r.T ops r.o=some r.wanted
 skip:r.wanted=false→r.val=de∧r.chain=false
 float:r.wanted=true→r.chain=false→(∀ c,r.o.op ≠ .defer c)∧ ∃ H n,Q[r.stg]? =some (H,n)∧ReadQ P rn r.T H n r.o r.val
 eff:r.chain=true→r.wanted=true∧C[r.stg]? =some i∧ ∃ H n H' n',Q[r.stg]? =some (H,n)∧Q[r.stg+1]? =some (H',n')∧eD P rn r.T H n r.o (r.val,H',n')
structure DSOK (i:Nat) (s:DS):Prop where
 len:s.recs.length=i
 hs:s.Hs.length=s.stg+1
 last:s.Hs.reverse[s.stg]? =some (s.H,s.nx)
 cnt:((s.recs.reverse.filter (·.chain)).map (·.i)).length=s.stg
 recs: ∀ (k:Nat) r,s.recs.reverse[k]? =some r→RecOK P rn ops T0 s.recs.reverse s.Hs.reverse ((s.recs.reverse.filter (·.chain)).map (·.i)) k r
 slots: ∀ t v,s.T.at' t=some v→Src T0 s.recs.reverse i t v
end
section
variable {P:Program} {rn:Rn} {nt:Nat} {ops:Array Oper} {T0:Tr SV}
theorem Src.mono{R R':List Rec}{i:Nat}{t:Nat}{s:SV}(h:Src T0 R i t s)(hR: ∀ k,k<i→R'[k]? =R[k]?):Src T0 R' i t s:=by
 rcases h with ⟨k,r,h1,h2,h3,h4⟩|⟨h1,h2⟩
 ·exact .inl ⟨k,r,h1,by rw [hR k h1];exact h2,h3,h4⟩
 ·exact .inr ⟨fun k r hk hr=>h1 k r hk (by rw [← hR k hk];exact hr),h2⟩
theorem RecOK.mono{R R':List Rec}{Q Q':List (aJ×Nat)}{C C':List Nat}{i:Nat}{r:Rec}(h:RecOK P rn ops T0 R Q C i r)(hR: ∀ k,k<i→R'[k]? =R[k]?)(hQ: ∀ (j:Nat) x,Q[j]? =some x→Q'[j]? =some x)(hC: ∀ (j:Nat) x,C[j]? =some x→C'[j]? =some x) :
 RecOK P rn ops T0 R' Q' C' i r:=
 ⟨h.idx,h.op,fun t s hs=>let ⟨a,b⟩:=h.slots t s hs;⟨a,b.mono hR⟩,h.want,h.skip,fun a b=>let ⟨x,H,n,c,d⟩:=h.float a b;⟨x,H,n,hQ _ _ c,d⟩,
   fun a=>let ⟨b,c,H,n,H',n',d,e,f⟩:=h.eff a;⟨b,hC _ _ c,H,n,H',n',hQ _ _ d,hQ _ _ e,f⟩⟩
theorem gf{A:Type}{l:List A}{x y:A}{j:Nat}(h:l[j]? =some y):(l ++ [x])[j]? =some y:=by
 rw [zA (zm.1 h).1];exact h
theorem dO{A:Type}(l:List A)(x:A):(l ++ [x])[l.length]? =some x:=by simp
theorem DSOK.snoc{i:Nat}{s:DS}(h:DSOK P rn ops T0 i s)(hdst: ∀ (j:Nat) o d,ops.toList[j]? =some o→o.dst=some d→d<nt){r:Rec}{H:aJ}{nx:Nat}{Hs:List (aJ×Nat)}{stg:Nat}(ho:ops[i]? =some r.o)
 (hlen:Hs.length=stg+1) (hlast:Hs.reverse[stg]? =some (H,nx)) (hQ: ∀ (j:Nat) x,s.Hs.reverse[j]? =some x→Hs.reverse[j]? =some x) (hcnt:(if r.chain then s.stg+1 else s.stg)=stg)
 (hrec:RecOK P rn ops T0 (s.recs.reverse ++ [r]) Hs.reverse (((s.recs.reverse ++ [r]).filter (·.chain)).map (·.i)) i r):DSOK P rn ops T0 (i+1) ⟨gv nt s.T r.o.dst r.val,H,nx,r :: s.recs,Hs,stg⟩:=by
 have hR: ∀ k,k<i→(s.recs.reverse ++ [r])[k]? =s.recs.reverse[k]? :=fun k hk=>zA (by simp [h.len];exact hk)
 have hri:(s.recs.reverse ++ [r])[i]? =some r:=by have:=dO s.recs.reverse r;rw [List.length_reverse,h.len] at this;exact this
 refine⟨by simp [h.len],hlen,hlast,?_,fun k r' hr'=>?_,fun t v hv=>?_⟩
 ·simp only [List.reverse_cons,List.filter_append,zI,zH,h.cnt]
  rw [← hcnt]
  cases hc:r.chain <;> simp [List.filter_cons,hc]
 ·simp only [List.reverse_cons] at hr' ⊢
  rcases Nat.lt_or_ge k i with hk|hk
  ·rw [hR k hk] at hr'
   refine(h.recs k r' hr').mono (fun k' hk'=>hR k' (by omega)) hQ (fun j x hj=>?_)
   rw [List.filter_append,zI]
   rw [zA (zm.1 hj).1]
   exact hj
  ·have:k=i:=by
    have:=(zm.1 hr').1
    simp [h.len] at this
    omega
   subst this
   rw [hri] at hr'
   simp only [zh] at hr'
   subst hr'
   exact hrec
 ·simp only [List.reverse_cons] at hv ⊢
  have old:s.T.at' t=some v→r.o.dst≠some t→Src T0 (s.recs.reverse ++ [r]) (i+1) t v:=by
   intro hv hne
   rcases h.slots t v hv with ⟨k,r',h1,h2,h3,h4⟩|⟨h1,h2⟩
   ·exact .inl ⟨k,r',by omega,by rw [hR k h1];exact h2,h3,h4⟩
   ·refine .inr ⟨fun k r' hk hr'=>?_,h2⟩
    rcases Nat.lt_or_ge k i with hk'|hk'
    ·rw [hR k hk'] at hr'
     exact h1 k r' hk' hr'
    ·have:k=i:=by omega
     subst this
     rw [hri] at hr'
     simp only [zh] at hr'
     subst hr'
     exact hne
  cases hd:r.o.dst with
  | none=>rw [hd] at hv old;exact old hv (by simp)
  | some d=>
    rw [hd] at hv
    have hlt:=hdst i r.o d (by simpa using ho) hd
    simp only [gv,show Nat.blt d nt=true from zp hlt,cond_true] at hv
    rcases Tr.b8 hv with ⟨rfl,rfl⟩|⟨hne,hv⟩
    ·exact .inl ⟨i,r,by omega,hri,hd,rfl⟩
    ·exact old hv (by rw [hd];simp;exact fun hc=>hne hc.symm)
theorem fK{i:Nat}{o:Oper}{s s':DS}(h:DSOK P rn ops T0 i s)(hdst: ∀ (j:Nat) o d,ops.toList[j]? =some o→o.dst=some d→d<nt)(ho:ops[i]? =some o)(hd:qS P rn nt ops i o s s'):DSOK P rn ops T0 (i+1) s':=by
 have hslots: ∀ (R:List Rec),(∀ k,k<i→R[k]? =s.recs.reverse[k]?)→ ∀ t v,(aG s.T (aF ops.toList o)).at' t=some v→Operand.tmp t∈aF ops.toList o∧Src T0 R i t v:=by
  intro R hR t v hv
  obtain⟨h1,h2⟩:=ga _ t v hv
  exact⟨h1,(h.slots t v h2).mono hR⟩
 have hR: ∀ (r:Rec) k,k<i→(s.recs.reverse ++ [r])[k]? =s.recs.reverse[k]? :=fun r k hk=>zA (by simp [h.len];exact hk)
 rcases hd with ⟨hw,rfl⟩|⟨hw,hnd,v,hf,rfl⟩|⟨hw,v,H,nx,he,rfl⟩
 ·exact h.snoc (r:=⟨i,o,_,s.stg,false,false,de⟩) hdst ho h.hs h.last (fun _ _ hj=>hj) rfl
   ⟨rfl,ho,hslots _ (hR _),hw,fun _=>⟨rfl,rfl⟩,fun hc _=>(by cases hc),fun hc=>(by cases hc)⟩
 ·exact h.snoc (r:=⟨i,o,_,s.stg,false,true,v⟩) hdst ho h.hs h.last (fun _ _ hj=>hj) rfl
   ⟨rfl,ho,hslots _ (hR _),hw,fun hc=>(by cases hc),fun _ _=>⟨hnd,s.H,s.nx,h.last,hf⟩,fun hc=>(by cases hc)⟩
 ·have hl:=h.hs
  have hq: ∀ (j:Nat) x,s.Hs.reverse[j]? =some x→((H,nx) :: s.Hs).reverse[j]? =some x:=fun j x hj=>by rw [List.reverse_cons];exact gf hj
  have hlast:((H,nx) :: s.Hs).reverse[s.stg+1]? =some (H,nx):=by
   rw [List.reverse_cons]
   have:=dO s.Hs.reverse (H,nx)
   rw [List.length_reverse,hl] at this
   exact this
  refine h.snoc (r:=⟨i,o,_,s.stg,true,true,v⟩) hdst ho (by simp [hl]) hlast hq rfl
   ⟨rfl,ho,hslots _ (hR _),hw,fun hc=>(by cases hc),fun _ hc=>(by cases hc),fun _=>⟨rfl,?_,s.H,s.nx,H,nx,hq _ _ h.last,hlast,he⟩⟩
  simp only [List.filter_append,zI,List.filter_cons,if_true,List.filter_nil,zF,List.map_nil]
  have:=dO ((s.recs.reverse.filter (·.chain)).map (·.i)) i
  rw [h.cnt] at this
  exact this
theorem ik(hdst: ∀ (j:Nat) o d,ops.toList[j]? =some o→o.dst=some d→d<nt): ∀ (l:List Oper) (i:Nat) (s s':DS),DSOK P rn ops T0 i s→l=ops.toList.drop i→DrawRunQ P rn nt ops i l s s'→DSOK P rn ops T0 ops.size s'
 | [],i,s,s',h,hl,hd=>by
   cases hd
   have h1:=congrArg List.length hl
   simp at h1
   have h2:i≤ops.size:=by
    rcases Nat.lt_or_ge ops.size i with hc|hc
    ·exfalso
     have hlen:=h.len
     have hr:=h.recs (i-1) (s.recs.reverse[i-1]'(by simp;omega)) (zk (by simp;omega))
     have:=(zt.1 hr.op).1
     omega
    ·exact hc
   have:i=ops.size:=by omega
   subst this
   exact h
 | o :: l,i,s,s',h,hl,hd=>by
   have ho:ops[i]? =some o:=by
    have:ops.toList[i]? =some o:=by
     have:=congrArg List.head? hl
     simpa using this.symm
    simpa using this
   have hl':l=ops.toList.drop (i+1):=by
    have:=congrArg List.tail hl
    simpa using this
   cases hd with
   | cons hone hd=>exact ik hdst l (i+1) _ s' (fK h hdst ho hone) hl' hd
end
section
variable {P:Program} {K:Zone} {w0 w:World} {e:Env} {H:aJ} {nx:Nat} {rn:Rn}
structure RegOK (P:Program) (rn:Rn) (nt:Nat) (ops:Array Oper) (T0:Tr SV) (R:List Rec) (Q:List (aJ×Nat)) (C:List Nat):Prop where
 len:R.length=ops.size
 recs: ∀ (k:Nat) r,R[k]? =some r→RecOK P rn ops T0 R Q C k r
 stages:Q.length=C.length+1
 chainR:C=(R.filter (·.chain)).map (·.i)
 chain:dT (bM [] ops.toList) C=true
 floats: ∀ r∈R,r.chain=false→r.wanted=true→(∀ c,r.o.op ≠ .defer c)∧ ∀ s,eM ((bM [] ops.toList).getD r.i 0) C≤s→s≤dc (bM [] ops.toList) r.i C→ ∀ H n,Q[s]? =some (H,n)→ReadQ P rn r.T H n r.o r.val
 small: ∀ (i:Nat) o d,ops.toList[i]? =some o→o.dst=some d→d<nt
 dist: ∀ (i j:Nat) oi oj d,ops.toList[i]? =some oi→ops.toList[j]? =some oj→oi.dst=some d→oj.dst=some d→i=j
 edges: ∀ (i:Nat) o,ops.toList[i]? =some o→eC i o.after.toList=true
 opnds: ∀ (i:Nat) o,ops.toList[i]? =some o→cT ops.toList (bM [] ops.toList) i ((bM [] ops.toList).getD i 0) (aF ops.toList o)=true
def rT(T0:Tr SV)(R:List Rec)(L:Nat→Prop)(t:Nat)(s:SV):Prop:=
 (∃ (k:Nat) (r:Rec),L k∧R[k]? =some r∧r.o.dst=some t∧r.val=s)∨((∀ (k:Nat) (r:Rec),L k→R[k]? =some r→r.o.dst≠some t)∧T0.at' t=some s)
structure PInv (K:Zone) (w0:World) (nt:Nat) (ops:Array Oper) (T0:Tr SV) (R:List Rec) (Q:List (aJ×Nat)) (C:List Nat) (L:Nat→Prop) (s:Nat) (e:Env) (w:World) (tr:Array Value):Prop where
 st: ∃ H n,Q[s]? =some (H,n)∧St K w0 e H n w
 size:tr.size=nt
 good: ∀ t sv,rT T0 R L t sv→ ∃ v,sv.conc e=some v∧tr.getD t undef=v
 chain: ∀ (j c:Nat),C[j]? =some c→(L c↔j<s)
 closed: ∀ (i:Nat) o,L i→ops.toList[i]? =some o→ ∀ ed∈o.after.toList,Region.binds .any ed=true→L ed.on
variable {nt:Nat} {ops:Array Oper} {T0:Tr SV} {R:List Rec} {Q:List (aJ×Nat)} {C:List Nat}
theorem PInv.step(hrn:gk P K w0 rn)(hR:RegOK P rn nt ops T0 R Q C){L:Nat→Prop}{s:Nat}{tr:Array Value}(h:PInv K w0 nt ops T0 R Q C L s e w tr){i:Nat}{o:Oper}(ho:ops[i]? =some o)(hni: ¬ L i)
 (hed: ∀ ed∈o.after.toList,Region.binds .any ed=true→L ed.on) (fn:FuncId) (rest:List Nat) (k:List Item) (ds:List Deferred) (kd:CallKind) (rof:Option Nat) (cs:List Frame) :
 ∃ e' w' tr' s',e.le e'∧PInv K w0 nt ops T0 R Q C (fun j=>L j∨j=i) s' e' w' tr' ∧
  Steps P (lone (fr0 fn tr (.inRegion ops (i :: rest) :: k) ds kd rof) cs w) (lone (fr0 fn tr' (.inRegion ops rest :: k) ds kd rof) cs w'):=by
 have hoL:ops.toList[i]? =some o:=by simpa using ho
 have hilt:i<ops.size:=(zt.1 ho).1
 obtain⟨r,hr⟩: ∃ r,R[i]? =some r:=⟨_,zk (by rw [hR.len];exact hilt)⟩
 have hrec:=hR.recs i r hr
 have hro:r.o=o:=by
  have:=hrec.op
  rw [ho] at this
  simpa using this.symm
 have hanc:=br L hR.edges (fun i o hi ho'=>h.closed i o hi ho') i o hoL hed
 have hT:TRel e nt r.T tr:=by
  refine⟨h.size,fun t sv ht=>?_⟩
  obtain⟨hneed,hsrc⟩:=hrec.slots t sv ht
  rw [hro] at hneed
  have hwr: ∀ (k':Nat) o',ops.toList[k']? =some o'→o'.dst=some t→(L k'∧k'<i)∨(¬ L k'∧i<k'):=fun k' o' ho' hd'=>by
   rcases dk hR.dist (hR.opnds i o hoL) t hneed k' o' ho' hd' with hb|hb
   ·exact .inl (hanc k' hb)
   ·refine .inr ⟨fun hL=>?_,?_⟩
    ·exact hni (br L hR.edges (fun i o hi ho'=>h.closed i o hi ho') k' o' ho' (h.closed k' o' hL ho') i hb).1
    ·exact(br (fun _=>True) hR.edges (fun _ _ _ _ _ _ _=>trivial) k' o' ho' (fun _ _ _=>trivial) i hb).2
  refine h.good t sv ?_
  rcases hsrc with ⟨k',r',h1,h2,h3,h4⟩|⟨h1,h2⟩
  ·have hop:=(hR.recs k' r' h2).op
   rcases hwr k' r'.o (by simpa using hop) h3 with g|g
   ·exact .inl ⟨k',r',g.1,h2,h3,h4⟩
   ·omega
  ·refine .inr ⟨fun k' r' hLk hr' hd'=>?_,h2⟩
   have hop:=(hR.recs k' r' hr').op
   rcases hwr k' r'.o (by simpa using hop) hd' with g|g
   ·exact h1 k' r' g.2 hr' hd'
   ·exact g.1 hLk
 have hwant:=eh hrec.want hT
 rw [hro] at hwant
 have build: ∀ (e':Env) (w':World) (u:Value) (s':Nat),e.le e'→(∃ H n,Q[s']? =some (H,n)∧St K w0 e' H n w')→r.val.conc e'=some u→(∀ (j c:Nat),C[j]? =some c→((L c∨c=i)↔j<s')) →
  PInv K w0 nt ops T0 R Q C (fun j=>L j∨j=i) s' e' w' (fR tr o.dst u):=by
  intro e' w' u s' hle hst hu hch
  refine⟨hst,?_,fun t sv hg=>?_,hch,fun j oj hj hoj ed hed' hb=>?_⟩
  ·unfold fR
   cases o.dst with
   | none=>exact h.size
   | some d=>simpa using h.size
  ·have old:(∀ d,o.dst=some d→d≠t)→ ∃ v,sv.conc e'=some v∧(fR tr o.dst u).getD t undef=v:=by
    intro hne
    have hg':rT T0 R L t sv:=by
     rcases hg with ⟨k',r',hk',h2,h3,h4⟩|hg
     ·refine .inl ⟨k',r',?_,h2,h3,h4⟩
      rcases hk' with hk'|rfl
      ·exact hk'
      ·exfalso
       rw [hr] at h2
       simp only [zh] at h2
       subst h2
       rw [hro] at h3
       exact hne t h3 rfl
     ·exact .inr ⟨fun k' r' hLk=>hg.1 k' r' (.inl hLk),hg.2⟩
    obtain⟨v,hv,hgv⟩:=h.good t sv hg'
    refine⟨v,SV.cm hle _ _ hv,?_⟩
    cases hd:o.dst with
    | none=>exact hgv
    | some d=>
      have:=hne d hd
      simp only [fR]
      rw [zo,Array.getElem?_setIfInBounds_ne this,←zo]
      exact hgv
   cases hd:o.dst with
   | none=>rw [hd] at old;exact old (fun d hd'=>by cases hd')
   | some d=>
     by_cases hdt:d=t
     ·subst hdt
      have hval:sv=r.val:=by
       rcases hg with ⟨k',r',hk',h2,h3,h4⟩|⟨h1,_⟩
       ·have hop:=(hR.recs k' r' h2).op
        have:=hR.dist k' i r'.o o d (by simpa using hop) hoL h3 hd
        subst this
        rw [hr] at h2
        simp only [zh] at h2
        subst h2
        exact h4.symm
       ·exact absurd (by rw [hro];exact hd) (h1 i r (.inr rfl) hr)
      subst hval
      refine⟨u,hu,?_⟩
      have hlt:=hR.small i o d hoL hd
      simp only [fR]
      rw [zo,Array.getElem?_setIfInBounds_self_of_lt (by rw [h.size];exact hlt)]
      rfl
     ·rw [hd] at old
      exact old (fun d' hd'=>by simp only [zh] at hd';subst hd';exact hdt)
  ·rcases hj with hj|rfl
   ·exact .inl (h.closed j oj hj hoj ed hed' hb)
   ·rw [hoL] at hoj
    simp only [zh] at hoj
    subst hoj
    exact .inl (hed ed hed' hb)
 have notChain:r.chain=false→ ∀ (j c:Nat),C[j]? =some c→((L c∨c=i)↔j<s):=by
  intro hc j c hj
  have hne:c≠i:=by
   rintro rfl
   rw [hR.chainR] at hj
   rw [List.getElem?_map,zr] at hj
   obtain⟨r',hr',hi'⟩:=hj
   have hmem:=zw hr'
   rw [List.mem_filter] at hmem
   obtain⟨k',hk'⟩:=List.mem_iff_getElem?.1 hmem.1
   have:=(hR.recs k' r' hk').idx
   rw [hi'] at this
   subst this
   rw [hr] at hk'
   simp only [zh] at hk'
   subst hk'
   rw [hc] at hmem
   simp at hmem
  rw [← h.chain j c hj]
  simp [hne]
 obtain⟨H,n,hQ,hS⟩:=h.st
 cases hwd:r.wanted with
 | false=>
   rw [hwd] at hwant
   obtain⟨h1,h2⟩:=hrec.skip hwd
   exact⟨e,w,_,s,Env.le_refl e,build e w undef s (Env.le_refl e) ⟨H,n,hQ,hS⟩ (by rw [h1];rfl) (notChain h2),.one (eH ho hwant)⟩
 | true=>
   rw [hwd] at hwant
   cases hc:r.chain with
   | false=>
     have hri:=hrec.idx
     have hlo:eM ((bM [] ops.toList).getD r.i 0) C≤s:=by
      rcases Nat.lt_or_ge s (eM ((bM [] ops.toList).getD r.i 0) C)with hlt|hge
      ·exfalso
       obtain⟨c,h1,h2⟩:=jq s hlt
       rw [hri] at h2
       have:=(h.chain s c h1).1 (hanc c h2).1
       omega
      ·exact hge
     have hhi:s≤dc (bM [] ops.toList) r.i C:=by
      rcases Nat.lt_or_ge (dc (bM [] ops.toList) r.i C) s with hlt|hge
      ·exfalso
       have hsC:s≤C.length:=by
        have:=(zm.1 hQ).1
        have:=hR.stages
        omega
       obtain⟨c,h1,h2⟩:=gN (ancs:=bM [] ops.toList) (i:=r.i) (l:=C) (by omega)
       have hLc:=(h.chain _ c h1).2 hlt
       have hcl:c<ops.size:=by
        have hcm:=zw h1
        rw [hR.chainR,List.mem_map] at hcm
        obtain⟨r',hr',rfl⟩:=hcm
        rw [List.mem_filter] at hr'
        obtain⟨k',hk'⟩:=List.mem_iff_getElem?.1 hr'.1
        have hx:=hR.recs k' r' hk'
        rw [hx.idx]
        exact(zt.1 hx.op).1
       have hoc:ops.toList[c]? =some (ops.toList[c]'(by simpa using hcl)):=zk (by simpa using hcl)
       have:=br L hR.edges (fun i o hi ho'=>h.closed i o hi ho') c _ hoc (h.closed c _ hLc hoc) r.i h2
       rw [hri] at this
       exact hni this.1
      ·exact hge
     have hf:=(hR.floats r (zw hr) hc hwd).2 s hlo hhi H n hQ
     have hnd:=(hR.floats r (zw hr) hc hwd).1
     rw [hro] at hf hnd
     rcases hf with hf|hf
     ·obtain⟨u,hu,hst⟩:=gg (P:=P) (fn:=fn) (rest:=rest) (k:=k) (ds:=ds) (kd:=kd) (rof:=rof) (cs:=cs) hS hT ho hwant hnd hf
      exact⟨e,w,_,s,Env.le_refl e,build e w u s (Env.le_refl e) ⟨H,n,hQ,hS⟩ hu (notChain hc),hst⟩
     ·obtain⟨e',w',u,hle,hS',hu,hst⟩:=fi (P:=P) hrn (fn:=fn) (rest:=rest) (k:=k) (ds:=ds) (kd:=kd) (rof:=rof) (cs:=cs) hS hT ho hwant hf
      exact⟨e',w',_,s,hle,build e' w' u s hle ⟨H,n,hQ,hS'⟩ hu (notChain hc),hst⟩
   | true=>
     obtain⟨_,hC,H1,n1,H2,n2,hQ1,hQ2,heff⟩:=hrec.eff hc
     have hss:r.stg=s:=by
      have h1: ¬ r.stg<s:=fun hlt=>hni ((h.chain r.stg i hC).2 hlt)
      rcases Nat.eq_zero_or_pos r.stg with h0|hp
      ·omega
      ·have hlt:r.stg-1<C.length:=by
        have:=(zm.1 hC).1
        omega
       have hprev:C[r.stg-1]? =some C[r.stg-1]:=zk hlt
       have hbit:=fM hR.chain (r.stg-1) C[r.stg-1] i hprev (by rw [show r.stg-1+1=r.stg by omega];exact hC)
       have:=(h.chain _ _ hprev).1 (hanc _ hbit).1
       omega
     rw [hss] at hQ1 hQ2 hC
     rw [hQ] at hQ1
     simp only [zh,zq] at hQ1
     obtain⟨rfl,rfl⟩:=hQ1
     rw [hro] at heff
     obtain⟨e',w',u,hle,hS',hu,hst⟩:=fi (P:=P) hrn (fn:=fn) (rest:=rest) (k:=k) (ds:=ds) (kd:=kd) (rof:=rof) (cs:=cs) hS hT ho hwant heff
     refine⟨e',w',_,s+1,hle,build e' w' u (s+1) hle ⟨H2,n2,hQ2,hS'⟩ hu (fun j c hj=>?_),hst⟩
     constructor
     ·rintro(hL|rfl)
      ·have:=(h.chain j c hj).1 hL;omega
      ·rcases Nat.lt_or_ge j (s+1)with hlt|hge
       ·exact hlt
       ·exfalso
        have hi1:=chain_inj hR hC hj
        omega
     ·intro hlt
      rcases Nat.lt_or_ge j s with hj'|hj'
      ·exact .inl ((h.chain j c hj).2 hj')
      ·have:j=s:=by omega
       subst this
       rw [hC] at hj
       simp only [zh] at hj
       exact .inr hj.symm
where
 chain_inj {P:Program} {rn:Rn} {nt:Nat} {ops:Array Oper} {T0:Tr SV} {R:List Rec} {Q:List (aJ×Nat)} {C:List Nat} (hR:RegOK P rn nt ops T0 R Q C) {s j c:Nat} (h1:C[s]? =some c) (h2:C[j]? =some c):s=j:=by
  have hnd:C.Nodup:=by
   rw [hR.chainR]
   have hall:((R.filter (·.chain)).map (·.i)).Sublist (R.map (·.i)):=(List.filter_sublist).map _
   refine hall.nodup ?_
   have:R.map (·.i)=List.range R.length:=by
    apply List.ext_getElem?
    intro k
    rw [List.getElem?_map]
    cases hk:R[k]? with
    | none=>
      rw [List.getElem?_eq_none_iff] at hk
      simp [hk]
    | some r=>
      have hlt:=(zm.1 hk).1
      rw [zJ,(hR.recs k r hk).idx,List.getElem?_range hlt]
   rw [this]
   exact List.nodup_range
  have a:=zm.1 h1
  have b:=zm.1 h2
  obtain⟨a1,a2⟩:=a
  obtain⟨b1,b2⟩:=b
  exact(List.getElem_inj hnd).1 (a2.trans b2.symm)
end
section
variable {P:Program} {K:Zone} {w0 w:World} {e:Env} {rn:Rn} {nt:Nat} {ops:Array Oper} {T0:Tr SV} {R:List Rec} {Q:List (aJ×Nat)} {C:List Nat}
def aV(listed:Array Bool)(j:Nat):Prop:=listed[j]? =some true
theorem ff{listed:Array Bool}(hsz:listed.size=ops.size){i:Nat}(h:i∈Region.ready .any ops listed): ∃ o,ops[i]? =some o∧ ¬ aV listed i∧ ∀ ed∈o.after.toList,Region.binds .any ed=true→aV listed ed.on:=by
 unfold Region.ready at h
 rw [List.mem_filter,List.mem_range,zC] at h
 obtain⟨h1,h2,h3⟩:=h
 have ho:ops[i]? =some ops[i]:=zv h1
 refine⟨ops[i],ho,?_,fun ed hed hb=>?_⟩
 ·intro hl
  unfold aV at hl
  rw [zo,hl] at h2
  simp at h2
 ·rw [ho] at h3
  simp only [zJ,Option.getD_some] at h3
  rw [Array.all_eq_true_iff_forall_mem] at h3
  have:=h3 ed (by simpa using hed)
  rw [hb] at this
  simp only [Bool.not_true,Bool.false_or] at this
  unfold aV
  rw [zo] at this
  cases hx:listed[ed.on]? with
  | none=>rw [hx] at this;simp at this
  | some b=>rw [hx] at this;simp only [Option.getD_some] at this;rw [this]
theorem fX{listed:Array Bool}(hsz:listed.size=ops.size)(hE: ∀ (i:Nat) o,ops.toList[i]? =some o→eC i o.after.toList=true){i:Nat}(hi:i<ops.size)(hn: ¬ aV listed i): ∃ j,j∈Region.ready .any ops listed:=by
 induction i using Nat.strongRecOn with
 | _ i ih=>
   have ho:ops[i]? =some ops[i]:=zv hi
   by_cases hall: ∀ ed∈ops[i].after.toList,Region.binds .any ed=true→aV listed ed.on
   ·refine⟨i,?_⟩
    unfold Region.ready
    rw [List.mem_filter,List.mem_range,zC]
    refine⟨hi,?_,?_⟩
    ·unfold aV at hn
     rw [zo]
     have hlt:i<listed.size:=by omega
     rw [zv hlt] at hn ⊢
     simp only [zh,Bool.not_eq_true] at hn
     simp [hn]
    ·rw [ho]
     simp only [zJ,Option.getD_some]
     rw [Array.all_eq_true_iff_forall_mem]
     intro ed hed
     cases hb:Region.binds .any ed with
     | false=>rfl
     | true=>
       have:=hall ed (by simpa only [Array.mem_toList_iff] using hed) hb
       unfold aV at this
       rw [zo,this]
       rfl
   ·have: ∃ ed,ed∈ops[i].after.toList∧Region.binds .any ed=true∧ ¬ aV listed ed.on:=by
     apply Classical.byContradiction
     intro hc
     apply hall
     intro ed h1 h2
     apply Classical.byContradiction
     intro h3
     exact hc ⟨ed,h1,h2,h3⟩
    obtain⟨ed,h1,h2,h3⟩:=this
    have hlt:=fI (hE i ops[i] (by simp)) ed h1 h2
    exact ih ed.on hlt (by omega) h3
def bN(listed:Array Bool):Nat:=listed.toList.count false
theorem dZ: ∀ (l:List Bool) (i:Nat),l[i]? =some false→(l.set i true).count false+1=l.count false
 | [],i,h=>by simp at h
 | b :: l,0,h=>by
   simp only [zB,zh] at h
   subst h
   simp [List.count_cons]
 | b :: l,i+1,h=>by
   have:=dZ l i (by simpa using h)
   simp only [List.set_cons_succ,List.count_cons]
   omega
theorem jm(hrn:gk P K w0 rn)(hR:RegOK P rn nt ops T0 R Q C)(fn:FuncId)(k:List Item)(ds:List Deferred)(kd:CallKind)(rof:Option Nat)(cs:List Frame): ∀ (fuel t:Nat) (listed:Array Bool) (s:Nat) (e:Env) (w:World) (tr:Array Value),
 listed.size=ops.size→bN listed≤fuel→PInv K w0 nt ops T0 R Q C (aV listed) s e w tr →
 ∃ e' w' tr' s' listed',e.le e'∧listed'.size=ops.size∧(∀ j,j<ops.size→aV listed' j)∧PInv K w0 nt ops T0 R Q C (aV listed') s' e' w' tr' ∧
  Steps P (lone (fr0 fn tr (.inRegion ops (Region.linearise.go .any ops fuel t listed []) :: k) ds kd rof) cs w) (lone (fr0 fn tr' (.inRegion ops [] :: k) ds kd rof) cs w'):=by
 have allOf: ∀ (listed:Array Bool),listed.size=ops.size→(∀ j,j∉Region.ready .any ops listed)→ ∀ j,j<ops.size→aV listed j:=by
  intro listed hsz hno j hj
  apply Classical.byContradiction
  intro hn
  obtain⟨i,hi⟩:=fX hsz hR.edges hj hn
  exact hno i hi
 intro fuel
 induction fuel with
 | zero=>
   intro t listed s e w tr hsz hun hI
   refine⟨e,w,tr,s,listed,Env.le_refl e,hsz,fun j hj=>?_,hI,by simp only [Region.linearise.go,List.reverse_nil];exact .refl P _⟩
   unfold aV
   have hlt:j<listed.size:=by omega
   rw [zv hlt]
   cases hb:listed[j] with
   | true=>rfl
   | false=>
     exfalso
     have:0<listed.toList.count false:=List.count_pos_iff.2 (by rw [← hb];simp)
     unfold bN at hun
     omega
 | succ fuel ih=>
   intro t listed s e w tr hsz hun hI
   simp only [Region.linearise.go]
   change ∃ e' w' tr' s' listed',_∧_∧_∧_∧Steps P (lone (fr0 fn tr (.inRegion ops (match (Region.ready .any ops listed)[t % (Region.ready .any ops listed).length]? with
    | some i=>Region.linearise.go .any ops fuel (t / (Region.ready .any ops listed).length) (listed.setIfInBounds i true) [i]
    | none=> [].reverse) :: k) ds kd rof) cs w) _
   cases hpick:(Region.ready .any ops listed)[t % (Region.ready .any ops listed).length]? with
   | none=>
     have hnil:Region.ready .any ops listed= []:=by
      cases hx:Region.ready .any ops listed with
      | nil=>rfl
      | cons x xs=>
        rw [hx] at hpick
        have hlt:t % (x :: xs).length<(x :: xs).length:=Nat.mod_lt _ (by simp)
        rw [zk hlt] at hpick
        cases hpick
     exact⟨e,w,tr,s,listed,Env.le_refl e,hsz,allOf listed hsz (by rw [hnil];simp),hI,.refl P _⟩
   | some i=>
     simp only
     have hmem:=zw hpick
     obtain⟨o,ho,hni,hed⟩:=ff hsz hmem
     rw [linearise_go_acc,List.reverse_singleton,List.singleton_append]
     obtain⟨e1,w1,tr1,s1,hle1,hI1,hst1⟩:=hI.step hrn hR ho hni hed fn (Region.linearise.go .any ops fuel (t / (Region.ready .any ops listed).length) (listed.setIfInBounds i true) []) k ds kd rof cs
     have hilt:i<ops.size:=(zt.1 ho).1
     have hfalse:listed.toList[i]? =some false:=by
      have hlt:i<listed.size:=by omega
      unfold aV at hni
      rw [zv hlt] at hni
      rw [Array.getElem?_toList,zv hlt]
      simpa using hni
     have hcnt:bN (listed.setIfInBounds i true)+1=bN listed:=by
      unfold bN
      rw [Array.toList_setIfInBounds]
      exact dZ _ _ hfalse
     have hLeq: ∀ j,aV (listed.setIfInBounds i true) j↔(aV listed j∨j=i):=by
      intro j
      unfold aV
      by_cases hji:j=i
      ·subst hji
       rw [Array.getElem?_setIfInBounds_self_of_lt (by omega)]
       simp
      ·rw [Array.getElem?_setIfInBounds_ne (Ne.symm hji)]
       simp [hji]
     have hI2:PInv K w0 nt ops T0 R Q C (aV (listed.setIfInBounds i true)) s1 e1 w1 tr1:=by
      have:aV (listed.setIfInBounds i true)=fun j=>aV listed j∨j=i:=funext fun j=>propext (hLeq j)
      rw [this]
      exact hI1
     obtain⟨e2,w2,tr2,s2,l2,hle2,hs2,ha2,hI3,hst2⟩:=ih _ _ s1 e1 w1 tr1 (by simpa using hsz) (by omega) hI2
     exact⟨e2,w2,tr2,s2,l2,Env.le_trans hle1 hle2,hs2,ha2,hI3,hst1.trans hst2⟩
end
end Go.Sy.Nq
end
section
namespace Go.Sy
open Go Go.Sl Go.RowKit
structure DrawKQ (P:Program) (nt:Nat) (ops:Array Oper) (i:Nat) (l:List Oper) (s:DS) (K:DS→Prop):Prop where
 ex: ∃ s',Nq.DrawRunQ P (wpr P) nt ops i l s s'∧K s'
section
variable {P:Program} {ro:Option Nat} {fn nt nx:Nat} {T:Tr SV} {k:List AIt} {dfs:List ADf} {H:aJ} {Q:Pst} {ops:Array Oper} {i:Nat} {l:List Oper} {K:DS→Prop} {s:DS}
def AllHQ(Q:List (aJ×Nat))(p:aJ→Nat→Prop):Prop:=match Q with
 | []=>True
 | q :: l=>p q.1 q.2∧AllHQ l p
theorem AllHQ.get{p:aJ→Nat→Prop}: ∀ {Q:List (aJ×Nat)},AllHQ Q p→ ∀ {i:Nat} {H:aJ} {n:Nat},Q[i]? =some (H,n)→p H n
 | [],_,i,H,n,h=>by simp at h
 | q :: l,hh,i,H,n,h=>by
   cases i with
   | zero=>simp only [zB,zh] at h;subst h;exact hh.1
   | succ i=>exact AllHQ.get hh.2 (by simpa using h)
def FlOkQ(P:Program)(ancs chain:List Nat)(Q:List (aJ×Nat)):List Rec→Prop
 | []=>True
 | r :: l=>((r.chain || !r.wanted || (Nat.beq (eM (ancs.getD r.i 0) chain) r.stg && Nat.beq (dc ancs r.i chain) r.stg))=true∨(AllH Q (fun H=>ReadDoes P r.T H r.o r.val)∨AllHQ Q (fun H n=>eD P (wpr P) r.T H n r.o (r.val,H,n))))∧FlOkQ P ancs chain Q l
theorem FlOkQ.ok{P:Program}{ancs chain:List Nat}{Q:List (aJ×Nat)}: ∀ {l:List Rec},FlOkQ P ancs chain Q l→ ∀ r∈l,r.chain=false→r.wanted=true→ ∀ st,eM (ancs.getD r.i 0) chain≤st→st≤dc ancs r.i chain→st≠r.stg→ ∀ H n,Q.reverse[st]? =some (H,n)→Nq.ReadQ P (wpr P) r.T H n r.o r.val
 | [],_,r,hm,_,_,_,_,_,_,_,_,_=>by cases hm
 | r0 :: l,hh,r,hm,hc,hw,st,h1,h2,h3,H,n,hq=>by
   rcases List.mem_cons.1 hm with rfl|hm
   ·rcases hh.1 with h|h
    ·rw [hc,hw] at h
     simp only [Bool.not_true,Bool.or_false,Bool.false_or,zC] at h
     have q1:=bk h.1
     have q2:=bk h.2
     omega
    ·have hlt:=(zm.1 hq).1
     rw [List.getElem?_reverse (by simpa using hlt)] at hq
     rcases h with h|h
     ·exact .inl (h.get hq)
     ·exact .inr (h.get hq)
   ·exact FlOkQ.ok hh.2 r hm hc hw st h1 h2 h3 H n hq
end
theorem jy{e e':Env}(h:e.le e'){s:SV}{v v':Value}(h0:s.conc e=some v)(h1:s.conc e'=some v'):s.conc e=some v':=by
 have:=SV.cm h s v h0
 rw [h1] at this
 rw [h0,←Option.some.inj this]
theorem MRel.down{e e':Env}(h:e.le e'): ∀ {l:List (Value×SV×Nat)} {m m':List MapEntry},MRel e l m→MRel e' l m'→MRel e l m'
 | [],[],[],_,_=>trivial
 | (_,_,_) :: _,_ :: _,_ :: _,hd,hd'=>⟨hd'.1,hd'.2.1,jy h hd.2.2.1 hd'.2.2.1,MRel.down h hd.2.2.2 hd'.2.2.2⟩
 | [],_ :: _,_,hd,_=>hd.elim
 | [],[],_ :: _,_,hd=>hd.elim
 | _ :: _,[],_,hd,_=>by simp [MRel] at hd
 | _ :: _,_ :: _,[],_,hd=>by simp [MRel] at hd
theorem DRel.down{e e':Env}(h:e.le e'){a:ADf}{d d':Deferred}(hd:DRel e a d)(hd':DRel e' a d'):DRel e a d':=by
 cases a with
 | call f args=>
   obtain⟨x,cap,rfl,hl⟩:=hd
   obtain⟨x',cap',rfl,hl'⟩:=hd'
   refine⟨x',cap',rfl,?_⟩
   have:=SV.cd h _ _ hl
   rw [hl'] at this
   rw [hl,←Option.some.inj this]
 | taken r=>
   obtain⟨x,hx,rfl⟩:=hd
   obtain⟨x',hx',rfl⟩:=hd'
   have:=h _ _ hx
   rw [hx'] at this
   rw [Option.some.inj this]
   exact⟨x,hx,rfl⟩
theorem DsRel.down{e e':Env}(h:e.le e'): ∀ {l:List ADf} {m m':List Deferred},DsRel e l m→DsRel e' l m'→DsRel e l m'
 | [],[],[],_,_=>trivial
 | _ :: _,_ :: _,_ :: _,hd,hd'=>⟨hd.1.down h hd'.1,DsRel.down h hd.2 hd'.2⟩
 | [],_ :: _,_,hd,_=>hd.elim
 | [],[],_ :: _,_,hd=>hd.elim
 | _ :: _,[],_,hd,_=>hd.elim
 | _ :: _,_ :: _,[],_,hd=>hd.elim
theorem TRel.down{e e':Env}(h:e.le e'){nt:Nat}{T:Tr SV}{tr tr':Array Value}(hd:TRel e nt T tr)(hd':TRel e' nt T tr'):TRel e nt T tr':=
 ⟨hd'.1,fun t s hs=>let ⟨_,h0,_⟩:=hd.2 t s hs;let ⟨v,h1,h2⟩:=hd'.2 t s hs;⟨v,jy h h0 h1,h2⟩⟩
theorem ORel.down{e e':Env}(h:e.le e'){vo:VO}{x:Ent}{o o':Obj}(ho:ORel e vo x o)(ho':ORel e' vo x o'):ORel e vo x o':=by
 cases vo with
 | cells n t c=>
   obtain⟨_,cs0,_,_,_,_,h4⟩:=ho
   obtain⟨q0,cs,fz,q1,q2,q3,q4⟩:=ho'
   exact⟨q0,cs,fz,q1,q2,q3,fun i hi s hs=>let ⟨_,a,_⟩:=h4 i hi s hs;let ⟨v,b,g⟩:=q4 i hi s hs;⟨v,jy h a b,g⟩⟩
 | row ro ne sz t c=>
   obtain⟨_,cs0,_,_,_,_,_,_,_,_,h7⟩:=ho
   obtain⟨q0,cs,fz,tt,q1,q2,q3,q4,q5,q6,q7⟩:=ho'
   exact⟨q0,cs,fz,tt,q1,q2,q3,q4,q5,q6,fun i hi s hs=>let ⟨_,a,_⟩:=h7 i hi s hs;let ⟨v,b,g⟩:=q7 i hi s hs;⟨v,jy h a b,g⟩⟩
 | map l clock=>
   obtain⟨_,_,h2⟩:=ho
   obtain⟨es,q1,q2⟩:=ho'
   exact⟨es,q1,h2.down h q2⟩
 | iter m since seen stepped=>
   cases m with
   | none=>exact ho'
   | some m=>
     obtain⟨_,y,h1,_⟩:=ho
     obtain⟨q0,y',q1,q2⟩:=ho'
     have:=h _ _ h1
     rw [q1] at this
     cases Option.some.inj this
     exact⟨q0,y,h1,q2⟩
 | siter s pos=>exact ho'
 | loop st pend fn nt T params assign body dr=>
   obtain⟨_,y,h1,h2,_⟩:=ho
   obtain⟨tmps,y',q1,q2,q3⟩:=ho'
   have:=h _ _ h1
   rw [q1] at this
   cases Option.some.inj this
   exact⟨tmps,y,h1,h2.down h q2,q3⟩
 | dfd l=>
   cases l with
   | none=>exact ho'
   | some l=>
     obtain⟨_,_,h2⟩:=ho
     obtain⟨ds,q1,q2⟩:=ho'
     exact⟨ds,q1,h2.down h q2⟩
theorem Lies.down{K:Zone}{w w':World}{e e':Env}(h:e.le e'){vo:VO}{x:Ent}(hl:Lies K w e vo x)(hl':Lies K w' e' vo x):Lies K w' e vo x:=by
 rcases hl' with ⟨h0,o,h1,h2,h3⟩|h1
 ·rcases hl with ⟨_,o',_,_,g⟩|⟨g,_⟩
  ·exact .inl ⟨h0,o,h1,h2,g.down h h3⟩
  ·rw [h0] at g;cases g
 ·exact .inr h1
theorem St.down{K:Zone}{w0 w w':World}{e e':Env}{H H':aJ}{nx nx':Nat}(hS:St K w0 e H nx w)(h:e.le e')(hS':St K w0 e' H' nx' w')(hH: ∀ id vo,H.at' id=some vo→H'.at' id=some vo):St K w0 e H nx w':=by
 refine⟨hS'.below,fun id vo hid=>?_,hS.inj,hS.fresh⟩
 obtain⟨x,hx,hl⟩:=hS.rel id vo hid
 obtain⟨x',hx',hl'⟩:=hS'.rel id vo (hH id vo hid)
 have:=h _ _ hx
 rw [hx'] at this
 cases Option.some.inj this
 exact⟨x,hx,hl.down h hl'⟩
def swp(n:Nat):Nat→Nat:=fun i=>if i=n then n+1 else if i=n+1 then n else i
theorem uQ(n:Nat):swp n n=n+1:=by simp [swp]
theorem uP(n:Nat):swp n (n+1)=n:=by simp [swp]
theorem sD{n i:Nat}(h:i≠n)(h':i≠n+1):swp n i=i:=by simp [swp,h,h']
theorem sC(n i:Nat):swp n (swp n i)=i:=by
 by_cases h:i=n
 ·subst h;rw [uQ,uP]
 ·by_cases h':i=n+1
  ·subst h';rw [uP,uQ]
  ·rw [sD h h',sD h h']
theorem wU{K:Zone}{w0 w:World}{e0 e:Env}{H0:aJ}{n:Nat}{a f:VO}(h0:St K w0 e0 H0 n w)(hle:e0.le e)(h:St K w0 e ((H0.set n f).set (n+1) a) (n+2) w)(ha: ∀ ρ,a.ren ρ=a)(hf: ∀ ρ,f.ren ρ=f) :
 e0.le (pull e (swp n))∧St K w0 (pull e (swp n)) ((H0.set n a).set (n+1) f) (n+2) w:=by
 have hn0:=h0.fresh n (zD _)
 have hn1:=h0.fresh (n+1) (by omega)
 have hlow: ∀ {id:Nat} {vo:VO},H0.at' id=some vo→id≠n∧id≠n+1:=fun {id vo} hid=>by
  obtain⟨x,hx,_⟩:=h0.rel id vo hid
  exact⟨fun e=>(by rw [e,hn0] at hx;cases hx),fun e=>(by rw [e,hn1] at hx;cases hx)⟩
 have hle':e0.le (pull e (swp n)):=fun i x hx=>by
  have h1:i≠n:=fun e=>by rw [e,hn0] at hx;cases hx
  have h2:i≠n+1:=fun e=>by rw [e,hn1] at hx;cases hx
  show e (swp n i)=some x
  rw [sD h1 h2]
  exact hle i x hx
 have back: ∀ {id:Nat} {vo:VO},((H0.set n a).set (n+1) f).at' id=some vo→((H0.set n f).set (n+1) a).at' (swp n id)=some vo∧(id=n∨id=n+1∨H0.at' id=some vo):=fun {id vo} hid=>by
  by_cases h1:id=n
  ·subst h1
   rw [Tr.aa _ _ (by omega),Tr.ab] at hid
   rw [uQ,Tr.ab]
   exact⟨hid,.inl rfl⟩
  ·by_cases h2:id=n+1
   ·subst h2
    rw [Tr.ab] at hid
    rw [uP,Tr.aa _ _ (by omega),Tr.ab]
    exact⟨hid,.inr (.inl rfl)⟩
   ·rw [Tr.aa _ _ h2,Tr.aa _ _ h1] at hid
    rw [sD h1 h2,Tr.aa _ _ h2,Tr.aa _ _ h1]
    exact⟨hid,.inr (.inr hid)⟩
 refine⟨hle',h.below,fun id vo hid=>?_,fun i j vo vo' x x' hi hj hx hx' hne=>?_,fun i hi=>?_⟩
 ·obtain⟨g1,g2⟩:=back hid
  rcases g2 with rfl|rfl|g2
  ·obtain⟨x,hx,hl⟩:=h.rel _ _ g1
   have hv:vo=a:=by
    rw [Tr.aa _ _ (by omega),Tr.ab] at hid
    exact(Option.some.inj hid).symm
   subst hv
   exact⟨x,hx,iq.1 (by rw [ha];exact hl)⟩
  ·obtain⟨x,hx,hl⟩:=h.rel _ _ g1
   have hv:vo=f:=by
    rw [Tr.ab] at hid
    exact(Option.some.inj hid).symm
   subst hv
   exact⟨x,hx,iq.1 (by rw [hf];exact hl)⟩
  ·obtain⟨x,hx,hl⟩:=h0.rel id vo g2
   exact⟨x,hle' _ _ hx,hl.mono hle'⟩
 ·exact h.inj _ _ _ _ x x' (back hi).1 (back hj).1 hx hx' (fun e=>hne (by rw [← sC n i,e,sC]))
 ·show e (swp n i)=none
  rw [sD (by omega) (by omega)]
  exact h.fresh i hi
namespace Np
section
variable {P:Program} {K:Zone} {w0 w:World} {e:Env} {H:aJ} {nx:Nat} {rn:Rn}
structure RegOK (P:Program) (rn:Rn) (nt:Nat) (ops:Array Oper) (T0:Tr SV) (R:List Rec) (Q:List (aJ×Nat)) (C:List Nat):Prop where
 len:R.length=ops.size
 recs: ∀ (k:Nat) r,R[k]? =some r→RecOK P rn ops T0 R Q C k r
 stages:Q.length=C.length+1
 chainR:C=(R.filter (·.chain)).map (·.i)
 floats: ∀ r∈R,r.chain=false→r.wanted=true→(∀ c,r.o.op ≠ .defer c)∧ ∀ s,eM ((bM [] ops.toList).getD r.i 0) C≤s→s≤dc (bM [] ops.toList) r.i C→ ∀ H n,Q[s]? =some (H,n)→ReadDoes P r.T H r.o r.val
 small: ∀ (i:Nat) o d,ops.toList[i]? =some o→o.dst=some d→d<nt
 dist: ∀ (i j:Nat) oi oj d,ops.toList[i]? =some oi→ops.toList[j]? =some oj→oi.dst=some d→oj.dst=some d→i=j
 edges: ∀ (i:Nat) o,ops.toList[i]? =some o→eC i o.after.toList=true
 opnds: ∀ (i:Nat) o,ops.toList[i]? =some o→cT ops.toList (bM [] ops.toList) i ((bM [] ops.toList).getD i 0) (aF ops.toList o)=true
def rT(T0:Tr SV)(R:List Rec)(L:Nat→Prop)(t:Nat)(s:SV):Prop:=
 (∃ (k:Nat) (r:Rec),L k∧R[k]? =some r∧r.o.dst=some t∧r.val=s)∨((∀ (k:Nat) (r:Rec),L k→R[k]? =some r→r.o.dst≠some t)∧T0.at' t=some s)
structure PInv (K:Zone) (w0:World) (nt:Nat) (ops:Array Oper) (T0:Tr SV) (R:List Rec) (Q:List (aJ×Nat)) (C:List Nat) (L:Nat→Prop) (s:Nat) (e:Env) (w:World) (tr:Array Value):Prop where
 st: ∃ H n,Q[s]? =some (H,n)∧St K w0 e H n w
 size:tr.size=nt
 good: ∀ t sv,rT T0 R L t sv→ ∃ v,sv.conc e=some v∧tr.getD t undef=v
 chain: ∀ (j c:Nat),C[j]? =some c→(L c↔j<s)
 closed: ∀ (i:Nat) o,L i→ops.toList[i]? =some o→ ∀ ed∈o.after.toList,Region.binds .any ed=true→L ed.on
variable {nt:Nat} {ops:Array Oper} {T0:Tr SV} {R:List Rec} {Q:List (aJ×Nat)} {C:List Nat}
theorem PInv.need(hR:RegOK P rn nt ops T0 R Q C){L:Nat→Prop}{s:Nat}{tr:Array Value}(h:PInv K w0 nt ops T0 R Q C L s e w tr){i:Nat}{o:Oper}(ho:ops[i]? =some o)(hni: ¬ L i)
 (hed: ∀ ed∈o.after.toList,Region.binds .any ed=true→L ed.on) {r:Rec} (hr:R[i]? =some r):TRel e nt r.T tr∧Region.wanted o (yielded ops tr)=r.wanted:=by
 have hoL:ops.toList[i]? =some o:=by simpa using ho
 have hilt:i<ops.size:=(zt.1 ho).1
 have hrec:=hR.recs i r hr
 have hro:r.o=o:=by
  have:=hrec.op
  rw [ho] at this
  simpa using this.symm
 have hanc:=br L hR.edges (fun i o hi ho'=>h.closed i o hi ho') i o hoL hed
 have hT:TRel e nt r.T tr:=by
  refine⟨h.size,fun t sv ht=>?_⟩
  obtain⟨hneed,hsrc⟩:=hrec.slots t sv ht
  rw [hro] at hneed
  have hwr: ∀ (k':Nat) o',ops.toList[k']? =some o'→o'.dst=some t→(L k'∧k'<i)∨(¬ L k'∧i<k'):=fun k' o' ho' hd'=>by
   rcases dk hR.dist (hR.opnds i o hoL) t hneed k' o' ho' hd' with hb|hb
   ·exact .inl (hanc k' hb)
   ·refine .inr ⟨fun hL=>?_,?_⟩
    ·exact hni (br L hR.edges (fun i o hi ho'=>h.closed i o hi ho') k' o' ho' (h.closed k' o' hL ho') i hb).1
    ·exact(br (fun _=>True) hR.edges (fun _ _ _ _ _ _ _=>trivial) k' o' ho' (fun _ _ _=>trivial) i hb).2
  refine h.good t sv ?_
  rcases hsrc with ⟨k',r',h1,h2,h3,h4⟩|⟨h1,h2⟩
  ·have hop:=(hR.recs k' r' h2).op
   rcases hwr k' r'.o (by simpa using hop) h3 with g|g
   ·exact .inl ⟨k',r',g.1,h2,h3,h4⟩
   ·omega
  ·refine .inr ⟨fun k' r' hLk hr' hd'=>?_,h2⟩
   have hop:=(hR.recs k' r' hr').op
   rcases hwr k' r'.o (by simpa using hop) hd' with g|g
   ·exact h1 k' r' g.2 hr' hd'
   ·exact g.1 hLk
 have hwant:=eh hrec.want hT
 rw [hro] at hwant
 exact⟨hT,hwant⟩
theorem PInv.step(hrn:gk P K w0 rn)(hR:RegOK P rn nt ops T0 R Q C){L:Nat→Prop}{s:Nat}{tr:Array Value}(h:PInv K w0 nt ops T0 R Q C L s e w tr){i:Nat}{o:Oper}(ho:ops[i]? =some o)(hni: ¬ L i)
 (hed: ∀ ed∈o.after.toList,Region.binds .any ed=true→L ed.on) (fn:FuncId) (rest:List Nat) (k:List Item) (ds:List Deferred) (kd:CallKind) (rof:Option Nat) (cs:List Frame) (hord: ∀ (j c:Nat),C[j+1]? =some i→C[j]? =some c→L c) :
 ∃ e' w' tr' s',e.le e'∧PInv K w0 nt ops T0 R Q C (fun j=>L j∨j=i) s' e' w' tr' ∧
  Steps P (lone (fr0 fn tr (.inRegion ops (i :: rest) :: k) ds kd rof) cs w) (lone (fr0 fn tr' (.inRegion ops rest :: k) ds kd rof) cs w')∧(∃ u,tr'=fR tr o.dst u)∧((∀ r,R[i]? =some r→r.chain=false)→e'=e∧w'=w∧s'=s):=by
 have hoL:ops.toList[i]? =some o:=by simpa using ho
 have hilt:i<ops.size:=(zt.1 ho).1
 obtain⟨r,hr⟩: ∃ r,R[i]? =some r:=⟨_,zk (by rw [hR.len];exact hilt)⟩
 have hrec:=hR.recs i r hr
 have hro:r.o=o:=by
  have:=hrec.op
  rw [ho] at this
  simpa using this.symm
 have hanc:=br L hR.edges (fun i o hi ho'=>h.closed i o hi ho') i o hoL hed
 have hT:TRel e nt r.T tr:=by
  refine⟨h.size,fun t sv ht=>?_⟩
  obtain⟨hneed,hsrc⟩:=hrec.slots t sv ht
  rw [hro] at hneed
  have hwr: ∀ (k':Nat) o',ops.toList[k']? =some o'→o'.dst=some t→(L k'∧k'<i)∨(¬ L k'∧i<k'):=fun k' o' ho' hd'=>by
   rcases dk hR.dist (hR.opnds i o hoL) t hneed k' o' ho' hd' with hb|hb
   ·exact .inl (hanc k' hb)
   ·refine .inr ⟨fun hL=>?_,?_⟩
    ·exact hni (br L hR.edges (fun i o hi ho'=>h.closed i o hi ho') k' o' ho' (h.closed k' o' hL ho') i hb).1
    ·exact(br (fun _=>True) hR.edges (fun _ _ _ _ _ _ _=>trivial) k' o' ho' (fun _ _ _=>trivial) i hb).2
  refine h.good t sv ?_
  rcases hsrc with ⟨k',r',h1,h2,h3,h4⟩|⟨h1,h2⟩
  ·have hop:=(hR.recs k' r' h2).op
   rcases hwr k' r'.o (by simpa using hop) h3 with g|g
   ·exact .inl ⟨k',r',g.1,h2,h3,h4⟩
   ·omega
  ·refine .inr ⟨fun k' r' hLk hr' hd'=>?_,h2⟩
   have hop:=(hR.recs k' r' hr').op
   rcases hwr k' r'.o (by simpa using hop) hd' with g|g
   ·exact h1 k' r' g.2 hr' hd'
   ·exact g.1 hLk
 have hwant:=eh hrec.want hT
 rw [hro] at hwant
 have build: ∀ (e':Env) (w':World) (u:Value) (s':Nat),e.le e'→(∃ H n,Q[s']? =some (H,n)∧St K w0 e' H n w')→r.val.conc e'=some u→(∀ (j c:Nat),C[j]? =some c→((L c∨c=i)↔j<s')) →
  PInv K w0 nt ops T0 R Q C (fun j=>L j∨j=i) s' e' w' (fR tr o.dst u):=by
  intro e' w' u s' hle hst hu hch
  refine⟨hst,?_,fun t sv hg=>?_,hch,fun j oj hj hoj ed hed' hb=>?_⟩
  ·unfold fR
   cases o.dst with
   | none=>exact h.size
   | some d=>simpa using h.size
  ·have old:(∀ d,o.dst=some d→d≠t)→ ∃ v,sv.conc e'=some v∧(fR tr o.dst u).getD t undef=v:=by
    intro hne
    have hg':rT T0 R L t sv:=by
     rcases hg with ⟨k',r',hk',h2,h3,h4⟩|hg
     ·refine .inl ⟨k',r',?_,h2,h3,h4⟩
      rcases hk' with hk'|rfl
      ·exact hk'
      ·exfalso
       rw [hr] at h2
       simp only [zh] at h2
       subst h2
       rw [hro] at h3
       exact hne t h3 rfl
     ·exact .inr ⟨fun k' r' hLk=>hg.1 k' r' (.inl hLk),hg.2⟩
    obtain⟨v,hv,hgv⟩:=h.good t sv hg'
    refine⟨v,SV.cm hle _ _ hv,?_⟩
    cases hd:o.dst with
    | none=>exact hgv
    | some d=>
      have:=hne d hd
      simp only [fR]
      rw [zo,Array.getElem?_setIfInBounds_ne this,←zo]
      exact hgv
   cases hd:o.dst with
   | none=>rw [hd] at old;exact old (fun d hd'=>by cases hd')
   | some d=>
     by_cases hdt:d=t
     ·subst hdt
      have hval:sv=r.val:=by
       rcases hg with ⟨k',r',hk',h2,h3,h4⟩|⟨h1,_⟩
       ·have hop:=(hR.recs k' r' h2).op
        have:=hR.dist k' i r'.o o d (by simpa using hop) hoL h3 hd
        subst this
        rw [hr] at h2
        simp only [zh] at h2
        subst h2
        exact h4.symm
       ·exact absurd (by rw [hro];exact hd) (h1 i r (.inr rfl) hr)
      subst hval
      refine⟨u,hu,?_⟩
      have hlt:=hR.small i o d hoL hd
      simp only [fR]
      rw [zo,Array.getElem?_setIfInBounds_self_of_lt (by rw [h.size];exact hlt)]
      rfl
     ·rw [hd] at old
      exact old (fun d' hd'=>by simp only [zh] at hd';subst hd';exact hdt)
  ·rcases hj with hj|rfl
   ·exact .inl (h.closed j oj hj hoj ed hed' hb)
   ·rw [hoL] at hoj
    simp only [zh] at hoj
    subst hoj
    exact .inl (hed ed hed' hb)
 have notChain:r.chain=false→ ∀ (j c:Nat),C[j]? =some c→((L c∨c=i)↔j<s):=by
  intro hc j c hj
  have hne:c≠i:=by
   rintro rfl
   rw [hR.chainR] at hj
   rw [List.getElem?_map,zr] at hj
   obtain⟨r',hr',hi'⟩:=hj
   have hmem:=zw hr'
   rw [List.mem_filter] at hmem
   obtain⟨k',hk'⟩:=List.mem_iff_getElem?.1 hmem.1
   have:=(hR.recs k' r' hk').idx
   rw [hi'] at this
   subst this
   rw [hr] at hk'
   simp only [zh] at hk'
   subst hk'
   rw [hc] at hmem
   simp at hmem
  rw [← h.chain j c hj]
  simp [hne]
 obtain⟨H,n,hQ,hS⟩:=h.st
 cases hwd:r.wanted with
 | false=>
   rw [hwd] at hwant
   obtain⟨h1,h2⟩:=hrec.skip hwd
   exact⟨e,w,_,s,Env.le_refl e,build e w undef s (Env.le_refl e) ⟨H,n,hQ,hS⟩ (by rw [h1];rfl) (notChain h2),.one (eH ho hwant),⟨_,rfl⟩,fun _=>⟨rfl,rfl,rfl⟩⟩
 | true=>
   rw [hwd] at hwant
   cases hc:r.chain with
   | false=>
     have hri:=hrec.idx
     have hlo:eM ((bM [] ops.toList).getD r.i 0) C≤s:=by
      rcases Nat.lt_or_ge s (eM ((bM [] ops.toList).getD r.i 0) C)with hlt|hge
      ·exfalso
       obtain⟨c,h1,h2⟩:=jq s hlt
       rw [hri] at h2
       have:=(h.chain s c h1).1 (hanc c h2).1
       omega
      ·exact hge
     have hhi:s≤dc (bM [] ops.toList) r.i C:=by
      rcases Nat.lt_or_ge (dc (bM [] ops.toList) r.i C) s with hlt|hge
      ·exfalso
       have hsC:s≤C.length:=by
        have:=(zm.1 hQ).1
        have:=hR.stages
        omega
       obtain⟨c,h1,h2⟩:=gN (ancs:=bM [] ops.toList) (i:=r.i) (l:=C) (by omega)
       have hLc:=(h.chain _ c h1).2 hlt
       have hcl:c<ops.size:=by
        have hcm:=zw h1
        rw [hR.chainR,List.mem_map] at hcm
        obtain⟨r',hr',rfl⟩:=hcm
        rw [List.mem_filter] at hr'
        obtain⟨k',hk'⟩:=List.mem_iff_getElem?.1 hr'.1
        have hx:=hR.recs k' r' hk'
        rw [hx.idx]
        exact(zt.1 hx.op).1
       have hoc:ops.toList[c]? =some (ops.toList[c]'(by simpa using hcl)):=zk (by simpa using hcl)
       have:=br L hR.edges (fun i o hi ho'=>h.closed i o hi ho') c _ hoc (h.closed c _ hLc hoc) r.i h2
       rw [hri] at this
       exact hni this.1
      ·exact hge
     have hf:=(hR.floats r (zw hr) hc hwd).2 s hlo hhi H n hQ
     have hnd:=(hR.floats r (zw hr) hc hwd).1
     rw [hro] at hf hnd
     obtain⟨u,hu,hst⟩:=gg (P:=P) (fn:=fn) (rest:=rest) (k:=k) (ds:=ds) (kd:=kd) (rof:=rof) (cs:=cs) hS hT ho hwant hnd hf
     exact⟨e,w,_,s,Env.le_refl e,build e w u s (Env.le_refl e) ⟨H,n,hQ,hS⟩ hu (notChain hc),hst,⟨_,rfl⟩,fun _=>⟨rfl,rfl,rfl⟩⟩
   | true=>
     obtain⟨_,hC,H1,n1,H2,n2,hQ1,hQ2,heff⟩:=hrec.eff hc
     have hss:r.stg=s:=by
      have h1: ¬ r.stg<s:=fun hlt=>hni ((h.chain r.stg i hC).2 hlt)
      rcases Nat.eq_zero_or_pos r.stg with h0|hp
      ·omega
      ·have hlt:r.stg-1<C.length:=by
        have:=(zm.1 hC).1
        omega
       have hprev:C[r.stg-1]? =some C[r.stg-1]:=zk hlt
       have:=(h.chain _ _ hprev).1 (hord (r.stg-1) C[r.stg-1] (by rw [show r.stg-1+1=r.stg by omega];exact hC) hprev)
       omega
     rw [hss] at hQ1 hQ2 hC
     rw [hQ] at hQ1
     simp only [zh,zq] at hQ1
     obtain⟨rfl,rfl⟩:=hQ1
     rw [hro] at heff
     obtain⟨e',w',u,hle,hS',hu,hst⟩:=fi (P:=P) hrn (fn:=fn) (rest:=rest) (k:=k) (ds:=ds) (kd:=kd) (rof:=rof) (cs:=cs) hS hT ho hwant heff
     refine⟨e',w',_,s+1,hle,build e' w' u (s+1) hle ⟨H2,n2,hQ2,hS'⟩ hu (fun j c hj=>?_),hst,⟨_,rfl⟩,fun hx=>by have:=hx r hr;rw [hc] at this;cases this⟩
     constructor
     ·rintro(hL|rfl)
      ·have:=(h.chain j c hj).1 hL;omega
      ·rcases Nat.lt_or_ge j (s+1)with hlt|hge
       ·exact hlt
       ·exfalso
        have hi1:=chain_inj hR hC hj
        omega
     ·intro hlt
      rcases Nat.lt_or_ge j s with hj'|hj'
      ·exact .inl ((h.chain j c hj).2 hj')
      ·have:j=s:=by omega
       subst this
       rw [hC] at hj
       simp only [zh] at hj
       exact .inr hj.symm
where
 chain_inj {P:Program} {rn:Rn} {nt:Nat} {ops:Array Oper} {T0:Tr SV} {R:List Rec} {Q:List (aJ×Nat)} {C:List Nat} (hR:RegOK P rn nt ops T0 R Q C) {s j c:Nat} (h1:C[s]? =some c) (h2:C[j]? =some c):s=j:=by
  have hnd:C.Nodup:=by
   rw [hR.chainR]
   have hall:((R.filter (·.chain)).map (·.i)).Sublist (R.map (·.i)):=(List.filter_sublist).map _
   refine hall.nodup ?_
   have:R.map (·.i)=List.range R.length:=by
    apply List.ext_getElem?
    intro k
    rw [List.getElem?_map]
    cases hk:R[k]? with
    | none=>
      rw [List.getElem?_eq_none_iff] at hk
      simp [hk]
    | some r=>
      have hlt:=(zm.1 hk).1
      rw [zJ,(hR.recs k r hk).idx,List.getElem?_range hlt]
   rw [this]
   exact List.nodup_range
  have a:=zm.1 h1
  have b:=zm.1 h2
  obtain⟨a1,a2⟩:=a
  obtain⟨b1,b2⟩:=b
  exact(List.getElem_inj hnd).1 (a2.trans b2.symm)
end
section
variable {P:Program} {K:Zone} {w0:World} {rn:Rn} {nt:Nat} {ops:Array Oper} {T0:Tr SV} {R:List Rec} {Q:List (aJ×Nat)} {C:List Nat} {a f:Nat}
def qz(ancs:List Nat)(a f:Nat):List Oper→Nat→Bool
 | [],_=>true
 | o :: l,i=>(o.after.toList.all fun ed=> !(Region.binds .any ed && Nat.beq ed.on f) || (ancs.getD i 0).testBit a) && qz ancs a f l (i+1)
theorem ot{ancs:List Nat}: ∀ {l:List Oper} {i0:Nat},qz ancs a f l i0=true→ ∀ (i:Nat) o,l[i]? =some o→ ∀ ed∈o.after.toList,Region.binds .any ed=true→ed.on=f→(ancs.getD (i0+i) 0).testBit a=true
 | [],_,_,i,o,h,_,_,_,_=>by simp at h
 | o0 :: l,i0,h,i,o,ho,ed,hed,hb,hf=>by
   simp only [qz,zC] at h
   cases i with
   | zero=>
     simp only [zB,zh] at ho
     subst ho
     have:=List.all_eq_true.1 h.1 ed hed
     rw [hb,hf] at this
     simpa using this
   | succ i=>
     have:=ot h.2 i o (by simpa using ho) ed hed hb hf
     rw [show i0+(i+1)=i0+1+i by omega]
     exact this
structure Swap (P:Program) (rn:Rn) (T0:Tr SV) (R:List Rec) (Q:List (aJ×Nat)) (C:List Nat) (a f:Nat) (ra rf:Rec) (H0:aJ) (n0 la lf:Nat) (va vf:VO) (df:Nat):Prop where
 iA:R[a]? =some ra
 iF:R[f]? =some rf
 c0:C[0]? =some a
 c1:C[1]? =some f
 q0:Q[0]? =some (H0,n0)
 q2:Q[2]? =some ((H0.set n0 va).set (n0+1) vf,n0+2)
 xa:ra.val = .slu n0 0 la
 xf:rf.val = .slu (n0+1) 0 lf
 oF:rf.o.dst=some df
 t0:T0.at' df=none
 na: ∀ ρ,va.ren ρ=va
 nf: ∀ ρ,vf.ren ρ=vf
 ef:eD P rn rf.T H0 n0 rf.o (.slu n0 0 lf,H0.set n0 vf,n0+1)
 ea:eD P rn ra.T (H0.set n0 vf) (n0+1) ra.o (.slu (n0+1) 0 la,(H0.set n0 vf).set (n0+1) va,n0+2)
variable {ra rf:Rec} {H0:aJ} {n0 la lf:Nat} {va vf:VO} {df:Nat}
structure Dev (K:Zone) (w0:World) (nt:Nat) (ops:Array Oper) (T0:Tr SV) (R:List Rec) (Q:List (aJ×Nat)) (C:List Nat) (a f:Nat) (H0:aJ) (n0 lf:Nat) (vf:VO) (df:Nat) (L:Nat→Prop) (e:Env) (w:World) (tr:Array Value):Prop where
 inv:PInv K w0 nt ops T0 R Q C (fun j=>L j∧j≠f) 0 e w tr
 hf:L f
 ha: ¬ L a
 closed: ∀ (i:Nat) o,L i→ops.toList[i]? =some o→ ∀ ed∈o.after.toList,Region.binds .any ed=true→L ed.on
 ex: ∃ eB u,e.le eB∧St K w0 eB (H0.set n0 vf) (n0+1) w∧(SV.slu n0 0 lf).conc eB=some u∧tr.getD df undef=u
theorem g9{tr:Array Value}{d:Option Tmp}{u:Value}{t:Nat}(h:d≠some t):(fR tr d u).getD t undef=tr.getD t undef:=by
 cases d with
 | none=>rfl
 | some d=>
   have:d≠t:=fun e=>h (by rw [e])
   simp only [fR]
   rw [zo,Array.getElem?_setIfInBounds_ne this,←zo]
theorem nO{tr:Array Value}{t:Nat}{u:Value}(h:t<tr.size):(fR tr (some t) u).getD t undef=u:=by
 simp only [fR]
 rw [zo,Array.getElem?_setIfInBounds_self_of_lt h]
 rfl
theorem nN{tr:Array Value}{d:Option Tmp}{u:Value}:(fR tr d u).size=tr.size:=by
 cases d with
 | none=>rfl
 | some d=>simp [fR]
theorem ub(hrn:gk P K w0 rn)(hR:RegOK P rn nt ops T0 R Q C)(hs:Swap P rn T0 R Q C a f ra rf H0 n0 la lf va vf df){L:Nat→Prop}{e:Env}{w:World}{tr:Array Value}(h:PInv K w0 nt ops T0 R Q C L 0 e w tr){o:Oper}(ho:ops[f]? =some o)(hni: ¬ L f)
 (hed: ∀ ed∈o.after.toList,Region.binds .any ed=true→L ed.on) (fn:FuncId) (rest:List Nat) (k:List Item) (ds:List Deferred) (kd:CallKind) (rof:Option Nat) (cs:List Frame) :
 ∃ w' tr',Dev K w0 nt ops T0 R Q C a f H0 n0 lf vf df (fun j=>L j∨j=f) e w' tr' ∧
  Steps P (lone (fr0 fn tr (.inRegion ops (f :: rest) :: k) ds kd rof) cs w) (lone (fr0 fn tr' (.inRegion ops rest :: k) ds kd rof) cs w'):=by
 have hoL:ops.toList[f]? =some o:=by simpa using ho
 obtain⟨hT,hw⟩:=h.need hR ho hni hed hs.iF
 have hrec:=hR.recs f rf hs.iF
 have hro:rf.o=o:=by
  have:=hrec.op
  rw [ho] at this
  simpa using this.symm
 obtain⟨hwd,_⟩:rf.wanted=true∧True:=by
  refine⟨?_,trivial⟩
  cases hc:rf.chain with
  | true=>exact(hrec.eff hc).1
  | false=>
    exfalso
    have:=zw hs.c1
    rw [hR.chainR,List.mem_map] at this
    obtain⟨r',hr',hi'⟩:=this
    rw [List.mem_filter] at hr'
    obtain⟨k',hk'⟩:=List.mem_iff_getElem?.1 hr'.1
    have:=(hR.recs k' r' hk').idx
    rw [hi'] at this
    subst this
    rw [hs.iF] at hk'
    cases hk'
    rw [hc] at hr'
    simp at hr'
 rw [hwd] at hw
 obtain⟨H,n,hQ,hS⟩:=h.st
 rw [hs.q0] at hQ
 simp only [zh,zq] at hQ
 obtain⟨rfl,rfl⟩:=hQ
 have hef:=hs.ef
 rw [hro] at hef
 obtain⟨eB,w',u,hle,hSB,hu,hst⟩:=fi (P:=P) hrn (fn:=fn) (rest:=rest) (k:=k) (ds:=ds) (kd:=kd) (rof:=rof) (cs:=cs) hS hT ho hw hef
 have hn0:=hS.fresh n0 (zD _)
 have hS':St K w0 e H0 n0 w':=hS.down hle hSB fun id vo hid=>by
  obtain⟨x,hx,_⟩:=hS.rel id vo hid
  have:id≠n0:=fun e'=>by rw [e',hn0] at hx;cases hx
  rw [Tr.aa _ _ this]
  exact hid
 have hdf:o.dst=some df:=hro ▸ hs.oF
 have hlt:=hR.small f o df hoL hdf
 rw [hdf] at hst
 have hfe: ∀ j,((L j∨j=f)∧j≠f)↔L j:=fun j=>⟨fun h=>h.1.resolve_right h.2,fun h=>⟨.inl h,fun e'=>hni (e' ▸ h)⟩⟩
 refine⟨w',_,⟨⟨⟨H0,n0,hs.q0,hS'⟩,by rw [nN];exact h.size,fun t sv hg=>?_,fun j c hj=>(hfe c).trans (h.chain j c hj),fun i oi hi hoi ed he hb=>(hfe _).2 (h.closed i oi ((hfe i).1 hi) hoi ed he hb)⟩,.inr rfl,fun hc=>?_,fun i oi hi hoi ed he hb=>?_,⟨eB,u,hle,hSB,hu,nO (by rw [h.size];exact hlt)⟩⟩,hst⟩
 ·have hg':rT T0 R L t sv:=by
   rcases hg with ⟨k',r',hk',g⟩|⟨g1,g2⟩
   ·exact .inl ⟨k',r',(hfe k').1 hk',g⟩
   ·exact .inr ⟨fun k' r' hL=>g1 k' r' ((hfe k').2 hL),g2⟩
  obtain⟨v,hv,hgv⟩:=h.good t sv hg'
  refine⟨v,hv,?_⟩
  rw [g9]
  ·exact hgv
  ·intro e'
   cases e'
   rcases hg' with ⟨k',r',hk',h2,h3,_⟩|⟨_,g2⟩
   ·have hop:=(hR.recs k' r' h2).op
    have:=hR.dist k' f r'.o o df (by simpa using hop) hoL h3 hdf
    exact hni (this ▸ hk')
   ·rw [hs.t0] at g2;cases g2
 ·have hne:a≠f:=by
   intro e'
   have q1:=hs.c0
   have q2:=hs.c1
   rw [e'] at q1
   have:=PInv.step.chain_inj hR q1 q2
   omega
  have hLa:L a:=hc.resolve_right hne
  have:=(h.chain 0 a hs.c0).1 hLa
  omega
 ·rcases hi with hi|rfl
  ·exact .inl (h.closed i oi hi hoi ed he hb)
  ·rw [hoL] at hoi
   cases hoi
   exact .inl (hed ed he hb)
theorem xS(hrn:gk P K w0 rn)(hR:RegOK P rn nt ops T0 R Q C)(hs:Swap P rn T0 R Q C a f ra rf H0 n0 la lf va vf df){L:Nat→Prop}{e:Env}{w:World}{tr:Array Value}(h:Dev K w0 nt ops T0 R Q C a f H0 n0 lf vf df L e w tr){o:Oper}(ho:ops[a]? =some o)
 (hed: ∀ ed∈o.after.toList,Region.binds .any ed=true→L ed.on∧ed.on≠f) (fn:FuncId) (rest:List Nat) (k:List Item) (ds:List Deferred) (kd:CallKind) (rof:Option Nat) (cs:List Frame) :
 ∃ e' w' tr',e.le e'∧PInv K w0 nt ops T0 R Q C (fun j=>L j∨j=a) 2 e' w' tr' ∧
  Steps P (lone (fr0 fn tr (.inRegion ops (a :: rest) :: k) ds kd rof) cs w) (lone (fr0 fn tr' (.inRegion ops rest :: k) ds kd rof) cs w'):=by
 have hoL:ops.toList[a]? =some o:=by simpa using ho
 obtain⟨hT,hw⟩:=h.inv.need hR ho (fun hc=>h.ha hc.1) hed hs.iA
 have hrec:=hR.recs a ra hs.iA
 have hro:ra.o=o:=by
  have:=hrec.op
  rw [ho] at this
  simpa using this.symm
 have hwd:ra.wanted=true:=by
  cases hc:ra.chain with
  | true=>exact(hrec.eff hc).1
  | false=>
    exfalso
    have:=zw hs.c0
    rw [hR.chainR,List.mem_map] at this
    obtain⟨r',hr',hi'⟩:=this
    rw [List.mem_filter] at hr'
    obtain⟨k',hk'⟩:=List.mem_iff_getElem?.1 hr'.1
    have:=(hR.recs k' r' hk').idx
    rw [hi'] at this
    subst this
    rw [hs.iA] at hk'
    cases hk'
    rw [hc] at hr'
    simp at hr'
 rw [hwd] at hw
 obtain⟨H,n,hQ,hS⟩:=h.inv.st
 rw [hs.q0] at hQ
 simp only [zh,zq] at hQ
 obtain⟨rfl,rfl⟩:=hQ
 obtain⟨eB,uf,hleB,hSB,huf,htf⟩:=h.ex
 have hea:=hs.ea
 rw [hro] at hea
 obtain⟨e2,w',u,hle2,hS2,hu,hst⟩:=fi (P:=P) hrn (fn:=fn) (rest:=rest) (k:=k) (ds:=ds) (kd:=kd) (rof:=rof) (cs:=cs) hSB (hT.mono hleB) ho hw hea
 have hn0:=hS.fresh n0 (zD _)
 have hn1:=hS.fresh (n0+1) (by omega)
 have hS':St K w0 e H0 n0 w':=hS.down (Env.le_trans hleB hle2) hS2 fun id vo hid=>by
  obtain⟨x,hx,_⟩:=hS.rel id vo hid
  have h1:id≠n0:=fun e'=>by rw [e',hn0] at hx;cases hx
  have h2:id≠n0+1:=fun e'=>by rw [e',hn1] at hx;cases hx
  rw [Tr.aa _ _ h2,Tr.aa _ _ h1]
  exact hid
 obtain⟨hle',hSF⟩:=wU hS' (Env.le_trans hleB hle2) hS2 hs.na hs.nf
 have hne:a≠f:=fun e'=>h.ha (e' ▸ h.hf)
 refine⟨_,w',_,hle',⟨⟨_,_,hs.q2,hSF⟩,by rw [nN];exact h.inv.size,fun t sv hg=>?_,fun j c hj=>?_,fun i oi hi hoi ed he hb=>?_⟩,hst⟩
 ·
  have main: ∀ (hd:o.dst≠some t),t≠df→ ∃ v,sv.conc (pull e2 (swp n0))=some v∧(fR tr o.dst u).getD t undef=v:=fun hd htd=>by
   have hg':rT T0 R (fun j=>L j∧j≠f) t sv:=by
    rcases hg with ⟨k',r',hk',h2,h3,h4⟩|⟨g1,g2⟩
    ·have hop:=(hR.recs k' r' h2).op
     refine .inl ⟨k',r',⟨hk'.resolve_right fun e'=>?_,fun e'=>?_⟩,h2,h3,h4⟩
     ·subst e'
      rw [hs.iA] at h2
      cases h2
      exact hd (hro ▸ h3)
     ·subst e'
      rw [hs.iF] at h2
      cases h2
      rw [hs.oF] at h3
      exact htd (Option.some.inj h3).symm
    ·exact .inr ⟨fun k' r' hL=>g1 k' r' (.inl hL.1),g2⟩
   obtain⟨v,hv,hgv⟩:=h.inv.good t sv hg'
   exact⟨v,SV.cm hle' _ _ hv,by rw [g9 hd];exact hgv⟩
  by_cases hd:o.dst=some t
  ·have hval:sv=ra.val:=by
    rcases hg with ⟨k',r',hk',h2,h3,h4⟩|⟨h1,_⟩
    ·have hop:=(hR.recs k' r' h2).op
     have:=hR.dist k' a r'.o o t (by simpa using hop) hoL h3 hd
     subst this
     rw [hs.iA] at h2
     cases h2
     exact h4.symm
    ·exact absurd (by rw [hro];exact hd) (h1 a ra (.inr rfl) hs.iA)
   rw [hval,hs.xa]
   refine⟨u,?_,?_⟩
   ·rw [← dG]
    show(SV.slu (swp n0 n0) 0 la).conc e2=some u
    rw [uQ]
    exact hu
   ·rw [hd]
    exact nO (by rw [h.inv.size];exact hR.small a o t hoL hd)
  ·by_cases htd:t=df
   ·subst htd
    have hof:=(hR.recs f rf hs.iF).op
    have hval:sv=rf.val:=by
     rcases hg with ⟨k',r',hk',h2,h3,h4⟩|⟨h1,_⟩
     ·have hop:=(hR.recs k' r' h2).op
      have:=hR.dist k' f r'.o rf.o t (by simpa using hop) (by simpa using hof) h3 hs.oF
      subst this
      rw [hs.iF] at h2
      cases h2
      exact h4.symm
     ·exact absurd hs.oF (h1 f rf (.inl h.hf) hs.iF)
    rw [hval,hs.xf]
    refine⟨uf,?_,by rw [g9 hd];exact htf⟩
    rw [← dG]
    show(SV.slu (swp n0 (n0+1)) 0 lf).conc e2=some uf
    rw [uP]
    exact SV.cm hle2 _ _ huf
   ·exact main hd htd
 ·constructor
  ·rintro(hL|rfl)
   ·by_cases e':c=f
    ·subst e'
     have:=PInv.step.chain_inj hR hj hs.c1
     omega
    ·have:=(h.inv.chain j c hj).1 ⟨hL,e'⟩
     omega
   ·have:=PInv.step.chain_inj hR hj hs.c0
    omega
  ·intro hlt
   have:j=0∨j=1:=by omega
   rcases this with rfl|rfl
   ·rw [hs.c0] at hj
    exact .inr (Option.some.inj hj).symm
   ·rw [hs.c1] at hj
    exact .inl (Option.some.inj hj ▸ h.hf)
 ·rcases hi with hi|rfl
  ·exact .inl (h.closed i oi hi hoi ed he hb)
  ·rw [hoL] at hoi
   cases hoi
   exact .inl (hed ed he hb).1
theorem jm(hrn:gk P K w0 rn)(hR:RegOK P rn nt ops T0 R Q C)(hs:Swap P rn T0 R Q C a f ra rf H0 n0 la lf va vf df)(hch: ∀ (j c d:Nat),C[j]? =some c→C[j+1]? =some d→d≠f→((bM [] ops.toList).getD d 0).testBit c=true)
 (hfr:qz (bM [] ops.toList) a f ops.toList 0=true) (fn:FuncId) (k:List Item) (ds:List Deferred) (kd:CallKind) (rof:Option Nat) (cs:List Frame): ∀ (fuel t:Nat) (listed:Array Bool) (s:Nat) (e:Env) (w:World) (tr:Array Value),
 listed.size=ops.size→bN listed≤fuel→(PInv K w0 nt ops T0 R Q C (aV listed) s e w tr∨Dev K w0 nt ops T0 R Q C a f H0 n0 lf vf df (aV listed) e w tr) →
 ∃ e' w' tr' s' listed',e.le e'∧listed'.size=ops.size∧(∀ j,j<ops.size→aV listed' j)∧PInv K w0 nt ops T0 R Q C (aV listed') s' e' w' tr' ∧
  Steps P (lone (fr0 fn tr (.inRegion ops (Region.linearise.go .any ops fuel t listed []) :: k) ds kd rof) cs w) (lone (fr0 fn tr' (.inRegion ops [] :: k) ds kd rof) cs w'):=by
 have haS:a<ops.size:=(zt.1 (hR.recs a ra hs.iA).op).1
 have hne:a≠f:=by
  intro e'
  have q1:=hs.c0
  have q2:=hs.c1
  rw [e'] at q1
  have:=PInv.step.chain_inj hR q1 q2
  omega
 have allOf: ∀ (listed:Array Bool),listed.size=ops.size→(∀ j,j∉Region.ready .any ops listed)→ ∀ j,j<ops.size→aV listed j:=by
  intro listed hsz hno j hj
  apply Classical.byContradiction
  intro hn
  obtain⟨i,hi⟩:=fX hsz hR.edges hj hn
  exact hno i hi
 have fin: ∀ {listed:Array Bool} {s:Nat} {e:Env} {w:World} {tr:Array Value},(∀ j,j<ops.size→aV listed j)→(PInv K w0 nt ops T0 R Q C (aV listed) s e w tr∨Dev K w0 nt ops T0 R Q C a f H0 n0 lf vf df (aV listed) e w tr)→PInv K w0 nt ops T0 R Q C (aV listed) s e w tr:=fun hall hI=>by
  rcases hI with hI|hI
  ·exact hI
  ·exact absurd (hall a haS) hI.ha
 intro fuel
 induction fuel with
 | zero=>
   intro t listed s e w tr hsz hun hI
   have hall: ∀ j,j<ops.size→aV listed j:=fun j hj=>by
    unfold aV
    have hlt:j<listed.size:=by omega
    rw [zv hlt]
    cases hb:listed[j] with
    | true=>rfl
    | false=>
      exfalso
      have:0<listed.toList.count false:=List.count_pos_iff.2 (by rw [← hb];simp)
      unfold bN at hun
      omega
   exact⟨e,w,tr,s,listed,Env.le_refl e,hsz,hall,fin hall hI,by simp only [Region.linearise.go,List.reverse_nil];exact .refl P _⟩
 | succ fuel ih=>
   intro t listed s e w tr hsz hun hI
   simp only [Region.linearise.go]
   change ∃ e' w' tr' s' listed',_∧_∧_∧_∧Steps P (lone (fr0 fn tr (.inRegion ops (match (Region.ready .any ops listed)[t % (Region.ready .any ops listed).length]? with
    | some i=>Region.linearise.go .any ops fuel (t / (Region.ready .any ops listed).length) (listed.setIfInBounds i true) [i]
    | none=> [].reverse) :: k) ds kd rof) cs w) _
   cases hpick:(Region.ready .any ops listed)[t % (Region.ready .any ops listed).length]? with
   | none=>
     have hnil:Region.ready .any ops listed= []:=by
      cases hx:Region.ready .any ops listed with
      | nil=>rfl
      | cons x xs=>
        rw [hx] at hpick
        have hlt:t % (x :: xs).length<(x :: xs).length:=Nat.mod_lt _ (by simp)
        rw [zk hlt] at hpick
        cases hpick
     have hall:=allOf listed hsz (by rw [hnil];simp)
     exact⟨e,w,tr,s,listed,Env.le_refl e,hsz,hall,fin hall hI,.refl P _⟩
   | some i=>
     simp only
     have hmem:=zw hpick
     obtain⟨o,ho,hni,hed⟩:=ff hsz hmem
     rw [linearise_go_acc,List.reverse_singleton,List.singleton_append]
     have hoL:ops.toList[i]? =some o:=by simpa using ho
     have hLeq: ∀ j,aV (listed.setIfInBounds i true) j↔(aV listed j∨j=i):=by
      intro j
      unfold aV
      by_cases hji:j=i
      ·subst hji
       rw [Array.getElem?_setIfInBounds_self_of_lt (by have:=(zt.1 ho).1;omega)]
       simp
      ·rw [Array.getElem?_setIfInBounds_ne (Ne.symm hji)]
       simp [hji]
     have hL2:aV (listed.setIfInBounds i true)=fun j=>aV listed j∨j=i:=funext fun j=>propext (hLeq j)
     have one: ∃ e1 w1 tr1 s1,e.le e1∧(PInv K w0 nt ops T0 R Q C (fun j=>aV listed j∨j=i) s1 e1 w1 tr1∨Dev K w0 nt ops T0 R Q C a f H0 n0 lf vf df (fun j=>aV listed j∨j=i) e1 w1 tr1) ∧
      Steps P (lone (fr0 fn tr (.inRegion ops (i :: Region.linearise.go .any ops fuel (t / (Region.ready .any ops listed).length) (listed.setIfInBounds i true) []) :: k) ds kd rof) cs w)
       (lone (fr0 fn tr1 (.inRegion ops (Region.linearise.go .any ops fuel (t / (Region.ready .any ops listed).length) (listed.setIfInBounds i true) []) :: k) ds kd rof) cs w1):=by
      rcases hI with hI|hI
      ·have hanc:=br (aV listed) hR.edges (fun i o hi ho'=>hI.closed i o hi ho') i o hoL hed
       by_cases hif:i=f∧s=0
       ·obtain⟨rfl,rfl⟩:=hif
        obtain⟨w1,tr1,hD,hst⟩:=ub hrn hR hs hI ho hni hed fn _ k ds kd rof cs
        exact⟨e,w1,tr1,0,Env.le_refl e,.inr hD,hst⟩
       ·obtain⟨e1,w1,tr1,s1,hle,hP,hst,_⟩:=hI.step hrn hR ho hni hed fn (Region.linearise.go .any ops fuel (t / (Region.ready .any ops listed).length) (listed.setIfInBounds i true) []) k ds kd rof cs (fun j c hj1 hj=>by
         by_cases hf:i=f
         ·have hs0:s≠0:=fun h0=>hif ⟨hf,h0⟩
          rw [hf] at hj1
          have:=PInv.step.chain_inj hR hj1 hs.c1
          have:j=0:=by omega
          subst this
          exact(hI.chain 0 c hj).2 (by omega)
         ·exact(hanc c (hch j c i hj hj1 hf)).1)
        exact⟨e1,w1,tr1,s1,hle,.inl hP,hst⟩
      ·have hanc:=br (aV listed) hR.edges (fun i o hi ho'=>hI.closed i o hi ho') i o hoL hed
       have hnf: ∀ ed∈o.after.toList,Region.binds .any ed=true→ed.on≠f:=fun ed he hb e'=>by
        have:=ot hfr i o hoL ed he hb e'
        rw [Nat.zero_add] at this
        exact hI.ha (hanc a this).1
       have hif:i≠f:=fun e'=>hni (e' ▸ hI.hf)
       by_cases hia:i=a
       ·subst hia
        obtain⟨e1,w1,tr1,hle,hP,hst⟩:=xS hrn hR hs hI ho (fun ed he hb=>⟨hed ed he hb,hnf ed he hb⟩) fn (Region.linearise.go .any ops fuel (t / (Region.ready .any ops listed).length) (listed.setIfInBounds i true) []) k ds kd rof cs
        exact⟨e1,w1,tr1,2,hle,.inl hP,hst⟩
       ·have hed0: ∀ ed∈o.after.toList,Region.binds .any ed=true→aV listed ed.on∧ed.on≠f:=fun ed he hb=>⟨hed ed he hb,hnf ed he hb⟩
        have hanc0:=br (fun j=>aV listed j∧j≠f) hR.edges (fun i o hi ho'=>hI.inv.closed i o hi ho') i o hoL hed0
        have hnc: ∀ (j c:Nat),C[j+1]? =some i→C[j]? =some c→False:=fun j c hj1 hj=>by
         have:=(hI.inv.chain j c hj).1 (hanc0 c (hch j c i hj hj1 hif)).1
         omega
        obtain⟨e1,w1,tr1,s1,hle,hP,hst,⟨u,htr⟩,hsame⟩:=hI.inv.step hrn hR ho (fun hc=>hni hc.1) hed0 fn (Region.linearise.go .any ops fuel (t / (Region.ready .any ops listed).length) (listed.setIfInBounds i true) []) k ds kd rof cs (fun j c hj1 hj=>(hnc j c hj1 hj).elim)
        have hquiet: ∀ r,R[i]? =some r→r.chain=false:=fun r hr=>by
         cases hc:r.chain with
         | false=>rfl
         | true=>
           exfalso
           obtain⟨_,hC,_⟩:=(hR.recs i r hr).eff hc
           rcases Nat.eq_zero_or_pos r.stg with h0|hp
           ·rw [h0,hs.c0] at hC
            exact hia (Option.some.inj hC).symm
           ·have hlt:r.stg-1<C.length:=by
             have:=(zm.1 hC).1
             omega
            exact hnc (r.stg-1) C[r.stg-1] (by rw [show r.stg-1+1=r.stg by omega];exact hC) (zk hlt)
        obtain⟨rfl,rfl,rfl⟩:=hsame hquiet
        obtain⟨eB,uf,g1,g2,g3,g4⟩:=hI.ex
        have hof:=(hR.recs f rf hs.iF).op
        have hdst:o.dst≠some df:=fun e'=>hif (hR.dist i f o rf.o df hoL (by simpa using hof) e' hs.oF)
        refine⟨_,_,tr1,0,Env.le_refl _,.inr ⟨?_,.inl hI.hf,fun hc=>hc.elim hI.ha fun e'=>hia e'.symm,fun i' oi hi hoi ed he hb=>?_,⟨eB,uf,g1,g2,g3,by rw [htr,g9 hdst];exact g4⟩⟩,hst⟩
        ·have:(fun j=>(aV listed j∨j=i)∧j≠f)=fun j=>(aV listed j∧j≠f)∨j=i:=by
          funext j
          apply propext
          constructor
          ·rintro⟨h1|h1,h2⟩
           ·exact .inl ⟨h1,h2⟩
           ·exact .inr h1
          ·rintro(⟨h1,h2⟩|h1)
           ·exact⟨.inl h1,h2⟩
           ·exact⟨.inr h1,fun e'=>hif (h1 ▸ e')⟩
         rw [this]
         exact hP
        ·rcases hi with hi|rfl
         ·exact .inl (hI.closed i' oi hi hoi ed he hb)
         ·rw [hoL] at hoi
          cases hoi
          exact .inl (hed ed he hb)
     obtain⟨e1,w1,tr1,s1,hle1,hI1,hst1⟩:=one
     have hilt:i<ops.size:=(zt.1 ho).1
     have hfalse:listed.toList[i]? =some false:=by
      have hlt:i<listed.size:=by omega
      unfold aV at hni
      rw [zv hlt] at hni
      rw [Array.getElem?_toList,zv hlt]
      simpa using hni
     have hcnt:bN (listed.setIfInBounds i true)+1=bN listed:=by
      unfold bN
      rw [Array.toList_setIfInBounds]
      exact dZ _ _ hfalse
     rw [← hL2] at hI1
     obtain⟨e2,w2,tr2,s2,l2,hle2,hs2,ha2,hI3,hst2⟩:=ih _ _ s1 e1 w1 tr1 (by simpa using hsz) (by omega) hI1
     exact⟨e2,w2,tr2,s2,l2,Env.le_trans hle1 hle2,hs2,ha2,hI3,hst1.trans hst2⟩
end
end Np
section
variable {P:Program} {ro:Option Nat} {fn nt nx:Nat} {T:Tr SV} {k:List AIt} {dfs:List ADf} {H:aJ} {Q:Pst}
theorem qH{A:Type}(t:Tr A)(n:Nat):(t.del n).at' n=none:=by simp [Tr.del,Tr.at']
end
theorem yz{H:aJ}{r n sz:Nat}{t:TypeId}{l:List SV}(hb:H.at' r=some (fQ false n sz t l))(hl:l.length=n*sz):a7 H sz (.slu r 0 n)=some (n,l):=(SlOf.row hb hl).cells
theorem xp{P:Program}{T:Tr SV}{H:aJ}{nx:Nat}{d:Option Tmp}{ty:TypeId}{pos:String}{af:Array Edge}{gd:Option (Nat×Bool)}{t tx el:TypeId}{sz m b r n:Nat}{s x:Operand}{v:SV}{ws cs:List SV}(hu:P.underlying t=some (.slice el))(hk:(∃ e',P.underlying tx=some (.slice e'))∨P.underlying tx=some .string)(hs:bA P el=some sz)(h0:0<sz)
 (hz:eG P el sz=true) (hb:(P.info? el).map (·.bytes)=some b) (hx0:am T s=some (.slu r 0 n)) (hx:am T x=some v) (hro:H.at' r=some (fQ false n sz el ws)) (hl:ws.length=n*sz) (hr:a7 H sz v=some (m,cs)) (h1:cG cs=true)
 (hm:0<m) (hm1:(n+m)*b≤140737488355328) (hm2:n+m≤1000000000) :
 OpDoes P T H nx ⟨d,.call {callee:= .builtin .append,args:= #[s,x],argTypes:= #[t,tx]},ty,pos,af,gd⟩ (.val (.slu nx 0 (n+m)),(H.del r).set nx (fQ false (n+m) sz el (ws ++ cs)),nx+1):=
 tg (eo:=0) hu hk hs h0 hz hb hx0 hx (by rw [Nat.zero_add];exact hro) ((SlOf.row hro hl).cells) hr h1 hm hm1 hm2
def FlOkD(P:Program)(ancs chain:List Nat)(Q:List (aJ×Nat)):List Rec→Prop
 | []=>True
 | r :: l=>((r.chain || !r.wanted || (Nat.beq (eM (ancs.getD r.i 0) chain) r.stg && Nat.beq (dc ancs r.i chain) r.stg))=true∨ ∃ d,Nat.ble (dc ancs r.i chain+(d+1)) Q.length=true∧(AllH (Q.drop d) (fun H=>ReadDoes P r.T H r.o r.val)∨AllHQ (Q.drop d) (fun H n=>eD P (wpr P) r.T H n r.o (r.val,H,n))))∧FlOkD P ancs chain Q l
theorem FlOkD.ok{P:Program}{ancs chain:List Nat}{Q:List (aJ×Nat)}: ∀ {l:List Rec},FlOkD P ancs chain Q l→ ∀ r∈l,r.chain=false→r.wanted=true→ ∀ st,eM (ancs.getD r.i 0) chain≤st→st≤dc ancs r.i chain→st≠r.stg→ ∀ H n,Q.reverse[st]? =some (H,n)→Nq.ReadQ P (wpr P) r.T H n r.o r.val
 | [],_,r,hm,_,_,_,_,_,_,_,_,_=>by cases hm
 | r0 :: l,hh,r,hm,hc,hw,st,h1,h2,h3,H,n,hq=>by
   rcases List.mem_cons.1 hm with rfl|hm
   ·rcases hh.1 with h|⟨d,hd,h⟩
    ·rw [hc,hw] at h
     simp only [Bool.not_true,Bool.or_false,Bool.false_or,zC] at h
     have q1:=bk h.1
     have q2:=bk h.2
     omega
    ·have hlt:=(zm.1 hq).1
     rw [List.length_reverse] at hlt
     have hd':=zn hd
     rw [List.getElem?_reverse hlt] at hq
     have hq':(Q.drop d)[Q.length-1-st-d]? =some (H,n):=by
      rw [List.getElem?_drop,show d+(Q.length-1-st-d)=Q.length-1-st by omega]
      exact hq
     rcases h with h|h
     ·exact .inl (h.get hq')
     ·exact .inr (h.get hq')
   ·exact FlOkD.ok hh.2 r hm hc hw st h1 h2 h3 H n hq
def FlOkE(P:Program)(ancs chain:List Nat)(Q:List (aJ×Nat)):List Rec→Prop
 | []=>True
 | r :: l=>((r.chain || !r.wanted || (Nat.beq (eM (ancs.getD r.i 0) chain) r.stg && Nat.beq (dc ancs r.i chain) r.stg))=true∨ ∃ d,Nat.ble (dc ancs r.i chain+(d+1)) Q.length=true∧AllH (Q.drop d) (fun H=>ReadDoes P r.T H r.o r.val))∧FlOkE P ancs chain Q l
theorem FlOkE.ok{P:Program}{ancs chain:List Nat}{Q:List (aJ×Nat)}: ∀ {l:List Rec},FlOkE P ancs chain Q l→ ∀ r∈l,r.chain=false→r.wanted=true→ ∀ st,eM (ancs.getD r.i 0) chain≤st→st≤dc ancs r.i chain→st≠r.stg→ ∀ H n,Q.reverse[st]? =some (H,n)→ReadDoes P r.T H r.o r.val
 | [],_,r,hm,_,_,_,_,_,_,_,_,_=>by cases hm
 | r0 :: l,hh,r,hm,hc,hw,st,h1,h2,h3,H,n,hq=>by
   rcases List.mem_cons.1 hm with rfl|hm
   ·rcases hh.1 with h|⟨d,hd,h⟩
    ·rw [hc,hw] at h
     simp only [Bool.not_true,Bool.or_false,Bool.false_or,zC] at h
     have q1:=bk h.1
     have q2:=bk h.2
     omega
    ·have hlt:=(zm.1 hq).1
     rw [List.length_reverse] at hlt
     have hd':=zn hd
     rw [List.getElem?_reverse hlt] at hq
     have hq':(Q.drop d)[Q.length-1-st-d]? =some (H,n):=by
      rw [List.getElem?_drop,show d+(Q.length-1-st-d)=Q.length-1-st by omega]
      exact hq
     exact h.get hq'
   ·exact FlOkE.ok hh.2 r hm hc hw st h1 h2 h3 H n hq
theorem AllH.all{p:aJ→Prop}(h: ∀ H,p H): ∀ (Q:List (aJ×Nat)),AllH Q p
 | []=>trivial
 | q :: l=>⟨h q.1,AllH.all h l⟩
theorem bJ{r:Rec}{b:Bool}(h:r.chain=true):(r.chain || !r.wanted || b)=true:=by rw [h];rfl
theorem eX{r:Rec}{b:Bool}(h:r.wanted=false):(r.chain || !r.wanted || b)=true:=by rw [h];simp
section
variable {P:Program} {ro:Option Nat} {fn nt nx:Nat} {T:Tr SV} {k:List AIt} {dfs:List ADf} {H:aJ} {Q:Pst}
theorem cY{id:Nat}{ops:List Oper}(hm:P.follows .mixedOrders=true)(hr:fW nt ops=true)
 (h:DrawK P nt ops.toArray 0 ops ⟨T,H,nx,[],[(H,nx)],0⟩ (fun s=>dT (bM [] ops) (bG s)=true∧FlOkE P (bM [] ops) (bG s) s.Hs s.recs∧Wp P ro ⟨fn,nt,s.T,k,dfs,s.H,s.nx⟩ Q)) :
 Wp P ro ⟨fn,nt,T,.code (.region id ops.toArray true) :: k,dfs,H,nx⟩ Q:=by
 obtain⟨s,hs,h1,h2,h3⟩:=h.ex
 exact .step ⟨hm,s,⟨hr,hs,h1,fun r hr=>FlOkE.ok h2 r hr⟩,h3⟩
end
end Go.Sy
end
section
namespace Go.Proofs.YtjjgjjlgchidlaaGreat
open Go Go.Sy Go.Sl Go.RowKit
abbrev ei:cO:=(⟨#[]⟩,0,0)
def ofL:List UInt8→Option cO
 | b0 :: b1 :: b2 :: r=>bif kF (⟨(b2 :: r).toArray⟩,(b0.toNat:Int),(b1.toNat:Int)) then some (⟨(b2 :: r).toArray⟩,(b0.toNat:Int),(b1.toNat:Int)) else none
 | _=>none
abbrev rA(l:List UInt8)(no:Int):SV:= .tup [eO ((ofL l).getD ei),.sc (.int .i64 (if(ofL l).isSome then 0 else no))]
theorem kX(a:UInt8):IntKind.i64.wrap ((a.toNat:Nat):Int)=(a.toNat:Int):=zi _ ⟨by omega,by have:=a.toNat_lt;omega⟩
theorem eZ{l:List UInt8}{no:Int}(h:ofL l=none):rA l no = .tup [eO ei,.sc (.int .i64 no)]:=by simp only [rA,h];rfl
theorem hJ{l:List UInt8}{no:Int}{e:cO}(h:ofL l=some e):rA l no = .tup [eO e,.sc (.int .i64 0)]:=by simp only [rA,h];rfl
theorem nW{l:List UInt8}(h:l.length<3):ofL l=none:=by
 rcases l with _|⟨b0,_|⟨b1,_|⟨b2,r⟩⟩⟩
 ·rfl
 ·rfl
 ·rfl
 ·simp at h;omega
abbrev ux(b0 b1 b2:UInt8)(r:List UInt8):cO:=(⟨(b2 :: r).toArray⟩,(b0.toNat:Int),(b1.toNat:Int))
theorem to{b0 b1 b2:UInt8}{r:List UInt8}(h:kF (ux b0 b1 b2 r)=false):ofL (b0 :: b1 :: b2 :: r)=none:=by simp only [ofL,h,cond_false]
theorem tn{b0 b1 b2:UInt8}{r:List UInt8}(h:kF (ux b0 b1 b2 r)=true):ofL (b0 :: b1 :: b2 :: r)=some (ux b0 b1 b2 r):=by simp only [ofL,h,cond_true]
theorem xD{b0 b1 b2:UInt8}{r:List UInt8}(h:34<r.length+3):kF (ux b0 b1 b2 r)=false:=decide_eq_false fun hh=>by
 have h2:=hh.1.2
 have h3:(⟨(b2 :: r).toArray⟩:ByteArray).size=r.length+1:=rfl
 simp only [h3] at h2
 omega
end Go.Proofs.YtjjgjjlgchidlaaGreat
end
section
namespace Go.Sy
open Go Go.Sl Go.RowKit
section
variable {P:Program} {T:Tr SV} {H:aJ} {nx:Nat} {d:Option Tmp} {ty:TypeId} {pos:String} {af:Array Edge} {gd:Option (Nat×Bool)}
theorem jA{vo:VO}: ∀ (n o:Nat) (l:List SV),vo.cellsFrom o n=some l→ ∀ j x,l[j]? =some x→vo.cell (o+j)=some x
 | 0,o,l,h,j,x,hx=>by
   simp only [VO.cellsFrom,zh] at h
   subst h
   simp at hx
 | n+1,o,l,h,j,x,hx=>by
   simp only [VO.cellsFrom] at h
   cases h1:vo.cell o with
   | none=>rw [h1] at h;cases h
   | some s=>
     rw [h1] at h
     simp only at h
     cases h2:vo.cellsFrom (o+1) n with
     | none=>rw [h2] at h;cases h
     | some m=>
       rw [h2] at h
       simp only [zh] at h
       subst h
       cases j with
       | zero=>
         simp only [zB,zh] at hx
         subst hx
         exact h1
       | succ j=>
         have:=jA n (o+1) m h2 j x (by simpa using hx)
         rw [show o+(j+1)=o+1+j by omega]
         exact this
theorem xd{t e:TypeId}{x:Operand}{lo hi:Option Operand}{b o n l h m C o':Nat}(hu:P.underlying t=some (.array n e))(hs:bA P e=some 1)(hx:am T x=some (.ptr b o))(hl:uz T 0 lo l)(hh:uz T n hi h)(h1:l≤h)(h2:h≤n)(h3:l<n)(hm:h-l=m)(hC:n-l=C)(ho:o+l=o'):ReadDoes P T H ⟨d,.slice t x lo hi none,ty,pos,af,gd⟩ (.sl b o' m C):=by
 subst hm hC ho
 refine eA ?_
 unfold uz at hl hh
 have hmx:natOr T n none=some n:=rfl
 simp only [c6,hx,zK,jY,hu,hs,hl,hh,hmx]
 rw [show Nat.ble l h=true from zp h1,show Nat.ble h n=true from zp h2,show Nat.ble n n=true from zp (zD _)]
 have:Nat.beq n l=false:=by cases hq:Nat.beq n l with|false=>rfl|true=>exact absurd (Nat.eq_of_beq_eq_true hq) (by omega)
 simp [this]
theorem vy{t tx el:TypeId}{b o n C:Nat}{bt:TypeId}{cs:List SV}{vs:List Value}{s x:Operand}{v:SV}(hu:P.underlying t=some (.slice el))(hs:bA P el=some 1)(hx0:am T s=some (.sl b o n C))(hx:am T x=some v)(hb:H.at' b=some (az bt cs))(hv:BsIs H v vs)(hn:vs.length≤n)(ho:o+vs.length≤cs.length) :
 OpDoes P T H nx ⟨d,.call {callee:= .builtin .copy,args:= #[s,x],argTypes:= #[t,tx]},ty,pos,af,gd⟩ (.val (.sc (.int .i64 (vs.length:Nat))),H.set b (az bt (cs.take o ++ vs.map .sc ++ cs.drop (o+vs.length))),nx):=by
 have hr:=BsIs.rdv (P:=P) hv
 unfold RdV at hr
 have hmin:min vs.length n=vs.length:=Nat.min_eq_left hn
 have htk:(vs.map SV.sc).take (vs.length*1)=vs.map SV.sc:=by rw [Nat.mul_one];exact zu (by simp)
 have hst:(az bt cs).setCells o (vs.map .sc)=some (az bt (cs.take o ++ vs.map .sc ++ cs.drop (o+vs.length))):=by
  have:=gF (t:=bt) (vs.map .sc) cs o (by simpa using ho) (fO hv.1)
  simpa using this
 have hcp:ud P H nx t (.sl b o n C) v=some (.val (.sc (.int .i64 (vs.length:Nat))),H.set b (az bt (cs.take o ++ vs.map .sc ++ cs.drop (o+vs.length))),nx):=by
  simp only [ud,hu,hs,hr,hmin,htk,ez,hb,hst]
 refine iW ?_
 simp only [fl,dw,hx0,hx,zK,eF,hcp]
end
section
variable {P:Program} {ro:Option Nat} {fn nt nx i:Nat} {T:Tr SV} {k:List AIt} {dfs:List ADf} {H:aJ} {Q:Pst} {ops:Array Oper} {l:List Oper} {ty:TypeId} {pos:String} {af:Array Edge} {gd:Option (Nat×Bool)}
theorem yi{t e:TypeId}{x y:Operand}{s:SV}{vs:List Value}{kd:IntKind}{j:Nat}{dd:Nat}(hw:ar T ops ⟨some dd,.indexAddr t x y,ty,pos,af,gd⟩=some true)(hd:Nat.blt dd nt=true)(hx:am T x=some s)(hy:am T y=some (.sc (.int kd (j:Int))))(hu:P.underlying t=some (.slice e))(hs:bA P e=some 1)(hb:BsIs H s vs)(hj:j<vs.length)
 (h: ∀ b o vo,H.at' b=some vo→vo.cell o=some (.sc vs[j])→Wp P ro ⟨fn,nt,T.set dd (.ptr b o),.inReg ops (i+1) l :: k,dfs,H,nx⟩ Q):Wp P ro ⟨fn,nt,T,.inReg ops i (⟨some dd,.indexAddr t x y,ty,pos,af,gd⟩ :: l) :: k,dfs,H,nx⟩ Q:=by
 obtain⟨_,⟨rfl,_,_,rfl⟩|⟨r,eo,ne,ro',rt,us,rfl,hr,hn,hus⟩|⟨b,o,C,vo,rfl,hr,hc⟩⟩:=hb
 ·simp at hj
 ·refine bK hw (.inr (fun _ h=>by cases h)) ((eU hu hs hx hy hr (by omega) (by omega) hn).does) ?_
  rw [aC hd]
  refine h r _ _ hr ?_
  rw [Nat.mul_one,Int.toNat_natCast]
  refine d8 (by omega) ?_
  have hg:=congrArg (fun l:List Value=>l[j]?) hus
  rw [List.getElem?_take_of_lt hj,List.getElem?_drop] at hg
  rw [hg]
  simp [hj]
 ·refine bK hw (.inr (fun _ h=>by cases h)) ((sT hu hs hx hy hj).does) ?_
  rw [aC hd]
  refine h b _ _ hr ?_
  rw [Nat.mul_one]
  exact jA _ _ _ hc j _ (by simp [hj])
theorem nE{t e:TypeId}{x:Operand}{lo hi:Option Operand}{b o n lw hg m C o':Nat}{dd:Nat}(hw:ar T ops ⟨some dd,.slice t x lo hi none,ty,pos,af,gd⟩=some true)(hd:Nat.blt dd nt=true)(hx:am T x=some (.ptr b o))(hu:P.underlying t=some (.array n e))(hs:bA P e=some 1)(hl:uz T 0 lo lw)(hh:uz T n hi hg)(h1:lw≤hg)(h2:hg≤n)(h3:lw<n)(hm:hg-lw=m)(hC:n-lw=C)(ho:o+lw=o')
 (h:Wp P ro ⟨fn,nt,T.set dd (.sl b o' m C),.inReg ops (i+1) l :: k,dfs,H,nx⟩ Q):Wp P ro ⟨fn,nt,T,.inReg ops i (⟨some dd,.slice t x lo hi none,ty,pos,af,gd⟩ :: l) :: k,dfs,H,nx⟩ Q:=
 bK hw (.inr (fun _ h=>by cases h)) ((xd hu hs hx hl hh h1 h2 h3 hm hC ho).does) (by rw [aC hd];exact h)
theorem pi{t tx el:TypeId}{b o n C:Nat}{bt:TypeId}{cs:List SV}{vs:List Value}{s x:Operand}{v:SV}{dd:Nat}(hw:ar T ops ⟨some dd,.call {callee:= .builtin .copy,args:= #[s,x],argTypes:= #[t,tx]},ty,pos,af,gd⟩=some true)(hd:Nat.blt dd nt=true)(hx0:am T s=some (.sl b o n C))(hx:am T x=some v)(hu:P.underlying t=some (.slice el))(hs:bA P el=some 1)(hb:H.at' b=some (az bt cs))(hv:BsIs H v vs)(hn:vs.length≤n)(ho:o+vs.length≤cs.length)
 (h:Wp P ro ⟨fn,nt,T.set dd (.sc (.int .i64 (vs.length:Nat))),.inReg ops (i+1) l :: k,dfs,H.set b (az bt (cs.take o ++ vs.map .sc ++ cs.drop (o+vs.length))),nx⟩ Q):Wp P ro ⟨fn,nt,T,.inReg ops i (⟨some dd,.call {callee:= .builtin .copy,args:= #[s,x],argTypes:= #[t,tx]},ty,pos,af,gd⟩ :: l) :: k,dfs,H,nx⟩ Q:=
 bK hw (.inr (fun _ h=>by cases h)) (vy hu hs hx0 hx hb hv hn ho) (by rw [aC hd];exact h)
end
end Go.Sy
end
section
namespace Go.Proofs.YtjjgjjlgchidlaaGreat
open Go Go.Sy Go.Sl Go.RowKit
abbrev byV(l:List UInt8):List Value:=l.map fun c=> .int .u8 (c.toNat:Int)
def beN(l:List UInt8):Nat:=l.foldl (fun n c=>256*n+c.toNat) 0
theorem v5(l:List UInt8)(c:UInt8):beN (l ++ [c])=256*beN l+c.toNat:=by simp [beN]
theorem vZ{l:List UInt8}{j:Nat}(h:j<l.length):beN (l.take (j+1))=256*beN (l.take j)+(l[j]).toNat:=by
 rw [List.take_add_one,zk h]
 exact v5 _ _
theorem qA: ∀ (l:List UInt8) (a:Nat),l.foldl (fun n c=>256*n+c.toNat) a<(a+1)*256 ^ l.length
 | [],a=>by simp
 | c :: l,a=>by
   have h:=qA l (256*a+c.toNat)
   have hc:=c.toNat_lt
   simp only [List.foldl_cons,zG,Nat.pow_succ]
   refine Nat.lt_of_lt_of_le h ?_
   rw [Nat.mul_comm (256 ^ l.length) 256,←Nat.mul_assoc]
   exact Nat.mul_le_mul_right _ (by omega)
theorem wC(l:List UInt8):beN l<256 ^ l.length:=by
 have:=qA l 0
 rwa [Nat.zero_add,Nat.one_mul] at this
theorem xV{l:List UInt8}{j:Nat}(h:j<(byV l).length):(byV l)[j] = .int .u8 ((l[j]'(by simpa using h)).toNat:Int):=by simp
theorem shl8{n:Nat}(h:n<72057594037927936):IntKind.u64.wrap ((n:Int)*2 ^ (min (8:Int).toNat IntKind.u64.bits))=((256*n:Nat):Int):=by
 rw [show(min (8:Int).toNat IntKind.u64.bits)=8 from rfl]
 refine(Go.IntWalk.u64_in _ ⟨by omega,by omega⟩).trans ?_
 omega
theorem or8{n c:Nat}(hn:n<72057594037927936)(hc:c<256):vX .or .u64 ((256*n:Nat):Int) (c:Int)=((256*n+c:Nat):Int):=by
 show IntKind.u64.wrap (((BitVec.ofInt 64 ((256*n:Nat):Int) ||| BitVec.ofInt 64 (c:Int)).toNat:Nat):Int)=_
 have e1:(((256*n:Nat):Int) % ((2 ^ 64:Nat):Int)).toNat=n <<< 8:=by rw [Nat.shiftLeft_eq];omega
 have e2:((c:Int) % ((2 ^ 64:Nat):Int)).toNat=c:=by omega
 rw [BitVec.toNat_or,BitVec.toNat_ofInt,BitVec.toNat_ofInt,e1,e2,←Nat.shiftLeft_add_eq_or_of_lt (show c<2 ^ 8 by omega),Nat.shiftLeft_eq]
 exact(Go.IntWalk.u64_in _ ⟨by omega,by omega⟩).trans (by omega)
theorem get_s{H:aJ}{nx:Nat}{s:SV}{bs:List UInt8}(hb:BsIs H s (byV bs))(h1:1≤bs.length)(h2:bs.length≤8):Fnc Tryz.prog 121 [s] H nx
 (fun q=>q=(.tup [.sc (.int .u64 (beN bs:Int)),.sc (.int .i64 0)],H,nx)):=by
 have hlen:(byV bs).length=bs.length:=by simp
 refine Fnc.start Tryz.func121 rfl rfl ?_
 (repeat(first|refine aq ?_|refine ae ?_|refine ac ?_|(apply aj;exact rfl;exact rfl;exact rfl)|(apply ai;exact rfl;exact rfl;exact rfl)|(refine ix rfl rfl (F.un _ rfl) rfl hb ?_)))
 refine bR rfl rfl rfl rfl (fun hq=>absurd hq (by omega)) (fun _=>?_)
 (repeat(first|(apply aj;exact rfl;exact rfl;exact rfl)|(refine ix rfl rfl (F.un _ rfl) rfl hb ?_)))
 refine e9 rfl rfl rfl rfl (fun hq=>absurd hq (by omega)) (fun _=>?_)
 (repeat(first|refine aq ?_|refine ae ?_|refine ac ?_|refine aI ?_|refine aH ?_|refine au rfl ?_|(apply aj;exact rfl;exact rfl;exact rfl)|(apply ai;exact rfl;exact rfl;exact rfl)|(apply aO;exact rfl;exact rfl;exact rfl;exact rfl)|(refine ix rfl rfl (F.un _ rfl) rfl hb ?_)))
 refine co (α:=Nat) (fun j=> [(0,s),(4,.sc (.int .u64 (beN (bs.take j):Int))),(15,s),(16,.sc (.int .i64 ((byV bs).length:Int))),(17,.sc (.int .i64 (j:Int)))]) (fun j H1 n1=>H1=H∧n1=nx∧j≤bs.length) (fun j=>bs.length-j) 0
  ⟨rfl,rfl,zE _⟩ (SlIn.sub (by repeat(first|exact trivial|refine⟨rfl,?_⟩))) ?_
 rintro j H1 n1 ⟨rfl,rfl,h3⟩ ih
 (repeat(first|refine aq ?_|refine ae ?_))
 (apply bR;exact rfl;exact rfl;exact rfl;exact rfl)
 all_goals intro h4
 ·have hj:j<bs.length:=by omega
  have hlt:=wC (bs.take j)
  rw [List.length_take,Nat.min_eq_left (by omega)] at hlt
  have hp:256 ^ j≤256 ^ 7:=Nat.pow_le_pow_right (by decide) (by omega)
  have hn:beN (bs.take j)<72057594037927936:=Nat.lt_of_lt_of_le hlt hp
  (repeat(first|refine aq ?_|refine ae ?_|refine ac ?_|refine aI ?_|refine aH ?_|refine ax rfl ?_))
  refine yi (j:=j) rfl rfl rfl rfl (F.un _ rfl) (F.sz _ rfl) hb (by omega) ?_
  intro b o vo hvo hcell
  rw [xV] at hcell
  have hc:=(bs[j]).toNat_lt
  (repeat(first|refine ae ?_|refine ac ?_|refine aB ?_|(apply aj;exact rfl;exact rfl;exact rfl)|(apply ai;exact rfl;exact rfl;exact rfl)|(apply bn;exact rfl;exact rfl;exact rfl;exact rfl;(focus(omega));(focus(omega)))|(refine jg rfl rfl rfl (F.ag _ rfl) hvo hcell ?_)|((apply yg;exact rfl;exact rfl;exact rfl;exact rfl;(focus(decide));exact(shl8 hn)))|(apply eR;exact rfl;exact rfl;exact rfl;exact(F.un _ rfl);exact(F.un _ rfl);exact(show _=((bs[j].toNat:Nat):Int)from Go.IntWalk.u64_in _ ⟨by omega,by omega⟩))|((apply yk;exact rfl;exact rfl;exact rfl;exact rfl;exact(.inr (.inl rfl));exact(or8 hn hc)))))
  refine ih _ _ _ (j+1) ⟨rfl,rfl,by omega⟩ (by omega) ?_
  rw [vZ hj]
  exact SlIn.sub (by repeat(first|exact trivial|refine⟨rfl,?_⟩))
 ·obtain rfl:j=bs.length:=by omega
  rw [List.take_length]
  (repeat(first|refine aq ?_|refine ae ?_|refine ac ?_|refine a9 rfl ?_|refine au rfl ?_|(apply aj;exact rfl;exact rfl;exact rfl)|(apply ai;exact rfl;exact rfl;exact rfl)))
  ((apply bf Tryz.func121 (congrArg Array.toList Tryz.results121));(focus(repeat(first|exact ResIs.nil|apply ResIs.tmp rfl))))
  rfl
def beB(n size:Nat):List UInt8:=(List.range size).map fun i=>UInt8.ofNat (n / 256 ^ (size-1-i))
theorem ee(n size:Nat):(beB n size).length=size:=by simp [beB]
theorem shrB{n k:Nat}{b:Int}(hb:b=8*(k:Int))(hk:k<8):((n:Nat):Int).fdiv (2 ^ (min b.toNat IntKind.u64.bits))=((n / 256 ^ k:Nat):Int):=by
 have e:min b.toNat IntKind.u64.bits=8*k:=by
  have:IntKind.u64.bits=64:=rfl
  omega
 rw [e,Int.natCast_ediv]
 have:(2:Int) ^ (8*k)=((256 ^ k:Nat):Int):=by
  rw [Int.pow_mul]
  simp
 rw [this,Int.fdiv_eq_ediv_of_nonneg _ (Int.natCast_nonneg _)]
theorem qY(q:Nat):IntKind.u8.wrap ((q:Nat):Int)=((UInt8.ofNat q).toNat:Int):=by
 simp [IntKind.wrap,IntKind.bits,IntKind.signed]
theorem qe{n size i:Nat}(hi:i<size):(beB n size).take (i+1)=(beB n size).take i ++ [UInt8.ofNat (n / 256 ^ (size-1-i))]:=by
 rw [List.take_add_one,zk (by rw [ee];exact hi)]
 simp [beB]
theorem put_s{H:aJ}{nx n size:Nat}(hn:n<256 ^ size)(h1:1≤size)(h2:size≤8)(hn2:n≤18446744073709551615):Fnc Tryz.prog 98 [.sc (.int .u64 (n:Int)),.sc (.int .i64 (size:Int))] H nx
 (fun q=>q.1 = .tup [.slu nx 0 size,.sc (.int .i64 0)]∧q.2.1.at' nx=some (dat false size 1 5 (byV (beB n size)))∧q.2.2=nx+1∧ ∀ m,m<nx→q.2.1.at' m=H.at' m):=by
 refine Fnc.start Tryz.func98 rfl rfl ?_
 (repeat(first|refine aq ?_|refine ae ?_|refine ac ?_|(apply aj;exact rfl;exact rfl;exact rfl)|(apply ai;exact rfl;exact rfl;exact rfl)))
 refine bR rfl rfl rfl rfl (fun hq=>absurd hq (by omega)) (fun _=>?_)
 (repeat(apply aj;exact rfl;exact rfl;exact rfl))
 refine e9 rfl rfl rfl rfl (fun hq=>absurd hq (by omega)) (fun _=>?_)
 (repeat(first|(apply aj;exact rfl;exact rfl;exact rfl)|(apply aO;exact rfl;exact rfl;exact rfl;exact rfl)))
 (apply bR;exact rfl;exact rfl;exact rfl;exact rfl)
 all_goals intro hs
 ·have hz:n / 256 ^ size=0:=Nat.div_eq_of_lt hn
  (repeat(first|(apply aj;exact rfl;exact rfl;exact rfl)|(apply cF;exact rfl;exact rfl;exact rfl;exact rfl;(focus(omega));(focus(omega)))|((apply pX;exact rfl;exact rfl;exact rfl;exact rfl;(focus(omega));exact(shrB rfl (by omega))))))
  refine cD rfl rfl rfl rfl (fun hq=>absurd (by rw [hz];rfl) hq) (fun _=>?_)
  (repeat(first|refine aq ?_|refine ae ?_|refine ac ?_|refine aI ?_|refine aH ?_|refine au rfl ?_|(apply aj;exact rfl;exact rfl;exact rfl)|(apply ai;exact rfl;exact rfl;exact rfl)|(apply aX;exact rfl;exact rfl;exact rfl;exact rfl)|(apply aO;exact rfl;exact rfl;exact rfl;exact rfl)|(apply a6;exact rfl;exact rfl;exact rfl;exact(F.un _ rfl))|((apply mC (z:= .int .u8 0) (bb:=1) (n:=size) (m:=size);exact rfl;exact rfl;exact(F.un _ rfl);exact(F.sz _ rfl);exact(F.ze _ rfl);(focus(kernel_rfl));exact rfl;exact rfl;exact rfl;exact(zD _);(focus(omega));(focus(omega))))))
  refine co (α:=Nat) (fun i=> [(0,.sc (.int .u64 (n:Int))),(1,.sc (.int .i64 (size:Int))),(6,.slu nx 0 size),(28,.sc (.int .i64 (size:Int))),(29,.sc (.int .i64 (i:Int)))]) (fun i H1 n1=>n1=nx+1∧i≤size∧H1.at' nx=some (dat false size 1 5 (byV ((beB n size).take i) ++ List.replicate (size-i) (.int .u8 0)))∧ ∀ m,m<nx→H1.at' m=H.at' m) (fun i=>size-i) 0 ⟨rfl,zE _,by rw [Tr.ab];simp,fun m hm=>Tr.aa _ _ (by omega)⟩ (SlIn.sub (by repeat(first|exact trivial|refine⟨rfl,?_⟩))) ?_
  rintro i H1 n1 ⟨rfl,h3,h4,h5⟩ ih
  (repeat(first|refine aq ?_|refine ae ?_))
  (apply bR;exact rfl;exact rfl;exact rfl;exact rfl)
  all_goals intro h6
  ·have hi:i<size:=by omega
   have hl1:(byV ((beB n size).take i)).length=i:=by rw [List.length_map,List.length_take,ee];omega
   (repeat(first|refine aq ?_|refine ae ?_|refine ac ?_|refine aI ?_|refine aH ?_|refine ax rfl ?_|(apply aj;exact rfl;exact rfl;exact rfl)|(apply ai;exact rfl;exact rfl;exact rfl)|(apply cv;exact rfl;exact rfl;exact rfl;exact rfl;(focus(omega));(focus(omega)))|(apply cF;exact rfl;exact rfl;exact rfl;exact rfl;(focus(omega));(focus(omega)))|((apply pX;exact rfl;exact rfl;exact rfl;exact rfl;(focus(omega));exact(shrB (k:=size-1-i) (by omega) (by omega))))|(apply eR;exact rfl;exact rfl;exact rfl;exact(F.un _ rfl);exact(F.un _ rfl);exact(qY _))|(refine fm (q:=i) rfl rfl rfl rfl (F.un _ rfl) (F.sz _ rfl) h4 rfl hi (zD _) ?_)))
   refine pW (vs:= [.int .u8 ((UInt8.ofNat (n / 256 ^ (size-1-i))).toNat:Int)]) (cs':=byV ((beB n size).take (i+1)) ++ List.replicate (size-(i+1)) (.int .u8 0)) rfl rfl rfl rfl (F.sz _ rfl) h4 rfl (by omega) (by rw [zH,hl1,List.length_replicate];omega) (fun v hv=>by rw [List.mem_singleton.1 hv];rfl) ?_ ?_
   ·rw [qe hi,Nat.mul_one,List.take_left' hl1,←List.drop_drop,List.drop_left' hl1,List.drop_replicate,show size-(i+1)=size-i-1 from(Nat.sub_sub _ _ _).symm]
    simp only [byV,zI,zF,List.map_nil]
   ·(repeat(first|refine ae ?_|refine ac ?_|refine aB ?_|(apply aj;exact rfl;exact rfl;exact rfl)|(apply bn;exact rfl;exact rfl;exact rfl;exact rfl;(focus(omega));(focus(omega)))))
    refine ih _ _ _ (i+1) ⟨rfl,hi,Tr.ab _ _ _,fun m hm=>(Tr.aa _ _ (by omega)).trans (h5 m hm)⟩ (by omega) (SlIn.sub (by repeat(first|exact trivial|refine⟨rfl,?_⟩)))
  ·obtain rfl:i=size:=by omega
   rw [Nat.sub_self,List.replicate_zero,List.append_nil,zu (by rw [ee];exact zD _)] at h4
   (repeat(first|refine aq ?_|refine ae ?_|refine ac ?_|refine a9 rfl ?_|refine au rfl ?_|(apply aj;exact rfl;exact rfl;exact rfl)|(apply ai;exact rfl;exact rfl;exact rfl)))
   ((apply bf Tryz.func98 (congrArg Array.toList Tryz.results98));(focus(repeat(first|exact ResIs.nil|apply ResIs.tmp rfl))))
   exact⟨rfl,h4,rfl,h5⟩
 ·(repeat(first|refine aq ?_|refine ae ?_|refine ac ?_|refine aI ?_|refine aH ?_|refine au rfl ?_|(apply aj;exact rfl;exact rfl;exact rfl)|(apply ai;exact rfl;exact rfl;exact rfl)|(apply aO;exact rfl;exact rfl;exact rfl;exact rfl)|(apply bT;exact rfl)|(apply a6;exact rfl;exact rfl;exact rfl;exact(F.un _ rfl))|((apply mC (z:= .int .u8 0) (bb:=1) (n:=size) (m:=size);exact rfl;exact rfl;exact(F.un _ rfl);exact(F.sz _ rfl);exact(F.ze _ rfl);(focus(kernel_rfl));exact rfl;exact rfl;exact rfl;exact(zD _);(focus(omega));(focus(omega))))))
  refine co (α:=Nat) (fun i=> [(0,.sc (.int .u64 (n:Int))),(1,.sc (.int .i64 (size:Int))),(6,.slu nx 0 size),(28,.sc (.int .i64 (size:Int))),(29,.sc (.int .i64 (i:Int)))]) (fun i H1 n1=>n1=nx+1∧i≤size∧H1.at' nx=some (dat false size 1 5 (byV ((beB n size).take i) ++ List.replicate (size-i) (.int .u8 0)))∧ ∀ m,m<nx→H1.at' m=H.at' m) (fun i=>size-i) 0 ⟨rfl,zE _,by rw [Tr.ab];simp,fun m hm=>Tr.aa _ _ (by omega)⟩ (SlIn.sub (by repeat(first|exact trivial|refine⟨rfl,?_⟩))) ?_
  rintro i H1 n1 ⟨rfl,h3,h4,h5⟩ ih
  (repeat(first|refine aq ?_|refine ae ?_))
  (apply bR;exact rfl;exact rfl;exact rfl;exact rfl)
  all_goals intro h6
  ·have hi:i<size:=by omega
   have hl1:(byV ((beB n size).take i)).length=i:=by rw [List.length_map,List.length_take,ee];omega
   (repeat(first|refine aq ?_|refine ae ?_|refine ac ?_|refine aI ?_|refine aH ?_|refine ax rfl ?_|(apply aj;exact rfl;exact rfl;exact rfl)|(apply ai;exact rfl;exact rfl;exact rfl)|(apply cv;exact rfl;exact rfl;exact rfl;exact rfl;(focus(omega));(focus(omega)))|(apply cF;exact rfl;exact rfl;exact rfl;exact rfl;(focus(omega));(focus(omega)))|((apply pX;exact rfl;exact rfl;exact rfl;exact rfl;(focus(omega));exact(shrB (k:=size-1-i) (by omega) (by omega))))|(apply eR;exact rfl;exact rfl;exact rfl;exact(F.un _ rfl);exact(F.un _ rfl);exact(qY _))|(refine fm (q:=i) rfl rfl rfl rfl (F.un _ rfl) (F.sz _ rfl) h4 rfl hi (zD _) ?_)))
   refine pW (vs:= [.int .u8 ((UInt8.ofNat (n / 256 ^ (size-1-i))).toNat:Int)]) (cs':=byV ((beB n size).take (i+1)) ++ List.replicate (size-(i+1)) (.int .u8 0)) rfl rfl rfl rfl (F.sz _ rfl) h4 rfl (by omega) (by rw [zH,hl1,List.length_replicate];omega) (fun v hv=>by rw [List.mem_singleton.1 hv];rfl) ?_ ?_
   ·rw [qe hi,Nat.mul_one,List.take_left' hl1,←List.drop_drop,List.drop_left' hl1,List.drop_replicate,show size-(i+1)=size-i-1 from(Nat.sub_sub _ _ _).symm]
    simp only [byV,zI,zF,List.map_nil]
   ·(repeat(first|refine ae ?_|refine ac ?_|refine aB ?_|(apply aj;exact rfl;exact rfl;exact rfl)|(apply bn;exact rfl;exact rfl;exact rfl;exact rfl;(focus(omega));(focus(omega)))))
    refine ih _ _ _ (i+1) ⟨rfl,hi,Tr.ab _ _ _,fun m hm=>(Tr.aa _ _ (by omega)).trans (h5 m hm)⟩ (by omega) (SlIn.sub (by repeat(first|exact trivial|refine⟨rfl,?_⟩)))
  ·obtain rfl:i=size:=by omega
   rw [Nat.sub_self,List.replicate_zero,List.append_nil,zu (by rw [ee];exact zD _)] at h4
   (repeat(first|refine aq ?_|refine ae ?_|refine ac ?_|refine a9 rfl ?_|refine au rfl ?_|(apply aj;exact rfl;exact rfl;exact rfl)|(apply ai;exact rfl;exact rfl;exact rfl)))
   ((apply bf Tryz.func98 (congrArg Array.toList Tryz.results98));(focus(repeat(first|exact ResIs.nil|apply ResIs.tmp rfl))))
   exact⟨rfl,h4,rfl,h5⟩
end Go.Proofs.YtjjgjjlgchidlaaGreat
end
section
namespace Go.Sy
open Go Go.Sl Go.RowKit
section
variable {P:Program}
theorem St.drop{K:Zone}{w0 w w1:World}{e e1:Env}{H H1:aJ}{nx nx1:Nat}(hS:St K w0 e H nx w)(hle:e.le e1)(hS1:St K w0 e1 H1 nx1 w1)(hk: ∀ m,m<nx→H1.at' m=H.at' m):St K w0 e H nx w1:=by
 refine⟨hS1.below,fun m vo h=>?_,hS.inj,hS.fresh⟩
 obtain⟨x0,hx0,hl0⟩:=hS.rel m vo h
 have hm:m<nx:=by
  rcases Nat.lt_or_ge m nx with q|q
  ·exact q
  ·rw [hS.fresh m q] at hx0;cases hx0
 obtain⟨x,hx,hl⟩:=hS1.rel m vo ((hk m hm).trans h)
 have:=hle m x0 hx0
 rw [hx] at this
 cases this
 exact⟨_,hx0,qP hle (Env.le_refl e) hl0 hl⟩
end
section
variable {P:Program}
def Free(v:SV):Prop:= ∀ e e' u,v.conc e=some u→v.conc e'=some u
theorem Free.sc(v:Value):Free (.sc v):=fun _ _ _ h=>h
theorem Free.agg(vs:List Value):Free (.agg (vs.map .sc)):=fun e e' u h=>by
 rw [SV.conc,eu] at h ⊢
 exact h
theorem Free.two{a b:SV}(ha:Free a)(hb:Free b):Free (.tup [a,b]):=fun e e' u h=>by
 simp only [SV.conc,SV.aQ] at h ⊢
 cases h1:a.conc e with
 | none=>rw [h1] at h;simp at h
 | some x=>
   cases h2:b.conc e with
   | none=>rw [h1,h2] at h;simp at h
   | some y=>
     rw [h1,h2] at h
     rw [ha e e' x h1,hb e e' y h2]
     exact h
theorem Fnc.dp{f:FuncId}{args:List SV}{H:aJ}{nx:Nat}{v:SV}(hv:Free v)(h:Fnc P f args H nx (fun q=>q.1=v∧nx≤q.2.2∧ ∀ n,n<nx→q.2.1.at' n=H.at' n)):Fnc P f args H nx (fun q=>q=(v,H,nx)):=by
 unfold Fnc gS at h ⊢
 rcases h with ⟨h1,u,r,h2,⟨q1,q2,q3⟩,h4⟩|h
 ·refine .inl ⟨h1,u,_,h2,rfl,fun K w0 e w hS=>?_⟩
  obtain⟨e',g1,g2,g3⟩:=h4 K w0 e w hS
  rw [q1] at g3
  exact⟨e,Env.le_refl e,hS.drop g1 g2 q3,hv _ _ _ g3⟩
 ·refine .inr ?_
  split at h
  ·refine⟨fun K w0 e w tmps todo ds kd rof cs hS a2 a3 a4 a5=>?_⟩
   obtain⟨r,⟨q1,q2,q3⟩,e',w',u,g1,g2,g3,g4⟩:=Wp.run h K w0 e w tmps todo ds kd rof cs hS a2 a3 a4 a5
   rw [q1] at g3
   exact⟨_,rfl,e,w',u,Env.le_refl e,hS.drop g1 g2 q3,hv _ _ _ g3,g4⟩
  ·exact h.elim
end
end Go.Sy
end
section
namespace Go.Proofs.YtjjgjjlgchidlaaGreat
open Go Go.Sy Go.Sl Go.RowKit
abbrev pgS(p:List UInt8):List SV:=(byV p).map .sc
abbrev pgO(p:List UInt8):VO:=az 48 (pgS p)
theorem aY{p:List UInt8}{n:Nat}(h:p.length=n):(pgS p).length=n:=by simpa using h
def is(p:List UInt8)(o:Nat)(l:List UInt8):List UInt8:=p.take o ++ l ++ p.drop (o+l.length)
theorem gJ{p:List UInt8}{o:Nat}{l:List UInt8}(h:o+l.length≤p.length):(is p o l).length=p.length:=by
 unfold is
 simp only [zH,List.length_take,List.length_drop]
 omega
def j6(p:List UInt8)(at':Nat):Nat:=beN ((p.drop at').take 2)
def kj(p:List UInt8)(at' n:Nat):List UInt8:=is p at' (beB n 2)
theorem dN{p:List UInt8}{o n:Nat}(h:o+2≤p.length):(kj p o n).length=p.length:=gJ (by rw [ee];exact h)
theorem iO(p:List UInt8)(o:Nat):j6 p o<65536:=by
 have h1:=wC ((p.drop o).take 2)
 have h2:((p.drop o).take 2).length≤2:=by rw [List.length_take];omega
 have h3:256 ^ ((p.drop o).take 2).length≤256 ^ 2:=Nat.pow_le_pow_right (by decide) h2
 unfold j6
 omega
theorem vt{p:List UInt8}{i:Nat}(hi:i<p.length):(pgO p).cell i=some (.sc (.int .u8 ((p[i]).toNat:Int))):=aW (by simp [hi])
theorem pu{p:List UInt8}{o:Nat}{l:List UInt8}{n:Nat}(hn:(byV l).length=n):(pgS p).take o ++ (byV l).map .sc ++ (pgS p).drop (o+n)=pgS (is p o l):=by
 subst hn
 unfold is
 simp [List.map_take,List.map_drop]
theorem um{H:aJ}{b o m C:Nat}{p:List UInt8}(hb:H.at' b=some (pgO p))(h:o+m≤p.length):BsIs H (.sl b o m C) (byV ((p.drop o).take m)):=by
 have hl:(byV ((p.drop o).take m)).length=m:=by simp;omega
 refine⟨fun v hv=>?_,.inr (.inr ⟨b,o,C,_,by rw [hl],hb,?_⟩)⟩
 ·obtain⟨c,_,rfl⟩:=List.mem_map.1 hv
  rfl
 ·rw [hl]
  exact aw _ o (by simp [List.map_take,List.map_drop]) (by simpa using hl)
theorem qK{H:aJ}{r n:Nat}{ro:Bool}{l:List UInt8}(hb:H.at' r=some (dat ro n 1 5 (byV l)))(hn:l.length=n):BsIs H (.slu r 0 n) (byV l):=
 BsIs.row (fun v hv=>by obtain⟨c,_,rfl⟩:=List.mem_map.1 hv;rfl) hb (by simpa using hn)
theorem kE{H:aJ}{nx b:Nat}{p:List UInt8}(hb:H.at' b=some (pgO p))(hp:p.length=1024){o:Nat}(ho:o+2≤1024):Fnc Tryz.prog 97 [.ptr b 0,.sc (.int .i64 (o:Int))] H nx (fun q=>q=(.sc (.int .i64 (j6 p o:Int)),H,nx)):=by
 have hl:((p.drop o).take 2).length=2:=by simp;omega
 have hlt:=iO p o
 have hg: ∀ {nx C:Nat},Fnc Tryz.prog 121 [.sl b o 2 C] H nx (fun q=>q=(.tup [.sc (.int .u64 (j6 p o:Int)),.sc (.int .i64 0)],H,nx)):=get_s (um hb (by omega)) (by omega) (by omega)
 refine Fnc.start Tryz.func97 rfl rfl ?_
 (repeat(first|refine aq ?_|refine ae ?_|refine ac ?_|(apply aj;exact rfl;exact rfl;exact rfl)|(apply ai;exact rfl;exact rfl;exact rfl)|(apply aD;exact rfl;exact rfl;exact rfl;exact rfl)|(apply aU;exact rfl;exact rfl;exact rfl)|(apply bn;exact rfl;exact rfl;exact rfl;exact rfl;(focus(omega));(focus(omega)))|((apply nE (lw:=o) (hg:=o+2);exact rfl;exact rfl;exact rfl;exact(F.un _ rfl);exact(F.sz _ rfl);exact rfl;exact rfl;(focus(omega));(focus(omega));(focus(omega));exact(show o+2-o=2 by omega);exact rfl;exact(Nat.zero_add o)))|(refine aL rfl rfl rfl (by kernel_rfl) (Fnc.mono (hg) ?_);rintro _ rfl;dsimp only)|(apply eR;exact rfl;exact rfl;exact rfl;exact(F.un _ rfl);exact(F.un _ rfl);exact(show _=((j6 p o:Nat):Int)from zi _ ⟨by omega,by omega⟩))))
 ((apply bf Tryz.func97 (congrArg Array.toList Tryz.results97));(focus(repeat(first|exact ResIs.nil|apply ResIs.tmp rfl))))
 rfl
abbrev aT(p:List UInt8):Nat:=j6 p 14
abbrev bi(p:List UInt8):Nat:=j6 p 16
theorem jH{H:aJ}{nx b:Nat}{p:List UInt8}(hb:H.at' b=some (pgO p))(hp:p.length=1024):Fnc Tryz.prog 74 [.ptr b 0] H nx (fun q=>q=(.sc (.int .i64 (aT p:Int)),H,nx)):=by
 refine Fnc.start Tryz.func74 rfl rfl ?_
 (repeat(first|refine aq ?_|refine ae ?_|refine ac ?_|(apply aj;exact rfl;exact rfl;exact rfl)|(apply ai;exact rfl;exact rfl;exact rfl)|(refine aL rfl rfl rfl (by kernel_rfl) (Fnc.mono (kE (o:=14) hb hp (by decide)) ?_);rintro _ rfl;dsimp only)))
 ((apply bf Tryz.func74 (congrArg Array.toList Tryz.results74));(focus(repeat(first|exact ResIs.nil|apply ResIs.tmp rfl))))
 rfl
theorem nr{H:aJ}{nx b:Nat}{p:List UInt8}(hb:H.at' b=some (pgO p))(hp:p.length=1024):Fnc Tryz.prog 91 [.ptr b 0] H nx (fun q=>q=(.sc (.int .i64 (bi p:Int)),H,nx)):=by
 refine Fnc.start Tryz.func91 rfl rfl ?_
 (repeat(first|refine aq ?_|refine ae ?_|refine ac ?_|(apply aj;exact rfl;exact rfl;exact rfl)|(apply ai;exact rfl;exact rfl;exact rfl)|(refine aL rfl rfl rfl (by kernel_rfl) (Fnc.mono (kE (o:=16) hb hp (by decide)) ?_);rintro _ rfl;dsimp only)))
 ((apply bf Tryz.func91 (congrArg Array.toList Tryz.results91));(focus(repeat(first|exact ResIs.nil|apply ResIs.tmp rfl))))
 rfl
abbrev x9(f:Nat):SV:= .fn (.func 96) [] [.ptr f 0]
abbrev wx(b:Nat):VO:=az 127 [.ptr b 0]
theorem mZ{H:aJ}{nx b:Nat}:Fnc Tryz.prog 73 [.ptr b 0] H nx (fun q=>q=(x9 nx,H.set nx (wx b),nx+1)):=by
 refine Fnc.start Tryz.func73 rfl rfl ?_
 (repeat(first|refine aq ?_|refine ae ?_|refine ac ?_|(apply ai;exact rfl;exact rfl;exact rfl)|(apply aN;exact rfl;exact rfl;exact rfl;exact rfl)|(apply cJ;exact rfl;exact rfl;exact rfl;exact rfl)))
 ((apply bf Tryz.func73 (congrArg Array.toList Tryz.results73));(focus(repeat(first|exact ResIs.nil|apply ResIs.tmp rfl))))
 rfl
abbrev bL(p:List UInt8)(n:Nat):Nat:=j6 p (18+4*n)
abbrev bq(p:List UInt8)(n:Nat):Nat:=j6 p (18+4*n+2)
theorem pd{H:aJ}{nx b f n:Nat}{p:List UInt8}(hf:H.at' f=some (wx b))(hb:H.at' b=some (pgO p))(hp:p.length=1024)(hn:18+4*n+4≤1024):Fnc Tryz.prog 96 [.sc (.int .i64 (n:Int)),.ptr f 0] H nx
 (fun q=>q=(.tup [.sc (.int .i64 (bL p n:Int)),.sc (.int .i64 (bq p n:Int))],H,nx)):=by
 have h1: ∀ nx,Fnc Tryz.prog 97 [.ptr b 0,.sc (.int .i64 (18+4*(n:Int)))] H nx (fun q=>q=(.sc (.int .i64 (bL p n:Int)),H,nx)):=fun nx=>by
  have:=kE (nx:=nx) (o:=18+4*n) hb hp (by omega)
  rw [show((18+4*n:Nat):Int)=18+4*(n:Int) by omega] at this
  exact this
 have h2: ∀ nx,Fnc Tryz.prog 97 [.ptr b 0,.sc (.int .i64 (18+4*(n:Int)+2))] H nx (fun q=>q=(.sc (.int .i64 (bq p n:Int)),H,nx)):=fun nx=>by
  have:=kE (nx:=nx) (o:=18+4*n+2) hb hp (by omega)
  rw [show((18+4*n+2:Nat):Int)=18+4*(n:Int)+2 by omega] at this
  exact this
 refine Fnc.start Tryz.func96 rfl rfl ?_
 (repeat(first|refine aq ?_|refine ae ?_|refine ac ?_|(apply aj;exact rfl;exact rfl;exact rfl)|(apply ai;exact rfl;exact rfl;exact rfl)|(apply bn;exact rfl;exact rfl;exact rfl;exact rfl;(focus(omega));(focus(omega)))|(apply cF;exact rfl;exact rfl;exact rfl;exact rfl;(focus(omega));(focus(omega)))))
 (apply lY;(focus(kernel_rfl));(focus(kernel_rfl)))
 (repeat(first|(apply bD;exact rfl;exact rfl;exact rfl)|(apply bY;exact rfl;exact rfl;exact rfl)|(apply fJ;exact rfl;exact rfl;exact rfl;exact rfl;(focus(omega));(focus(omega)))|(refine bx rfl rfl rfl (F.ag _ rfl) hf rfl ?_)|((apply b9;exact rfl;exact rfl;exact rfl;(focus(kernel_rfl));exact(h1 _)))|((apply b9;exact rfl;exact rfl;exact rfl;(focus(kernel_rfl));exact(h2 _)))))
 (refine bZ ?_);(refine⟨by kernel_rfl,?_,?_⟩);(focus(repeat(first|exact trivial|refine⟨.inl rfl,?_⟩|refine⟨.inr (by(repeat(refine⟨(by first|exact bU rfl rfl (.inl ⟨rfl,(zi _ ⟨by omega,by omega⟩).symm⟩)|exact bC rfl|exact ch rfl|exact aZ (F.ag _ rfl) rfl (by assumption) (aW rfl)),?_⟩));exact trivial),?_⟩)))
 ((apply bf Tryz.func96 (congrArg Array.toList Tryz.results96));(focus(repeat(first|exact ResIs.nil|apply ResIs.tmp rfl))))
 rfl
theorem ri{H:aJ}{nx b:Nat}{p:List UInt8}(hb:H.at' b=some (pgO p))(hp:p.length=1024){o n:Nat}(ho:o+2≤1024)(hn:n<65536):Fnc Tryz.prog 75 [.ptr b 0,.sc (.int .i64 (o:Int)),.sc (.int .i64 (n:Int))] H nx
 (fun q=>q.1 = .tup []∧q.2.1.at' b=some (pgO (kj p o n))∧nx≤q.2.2∧ ∀ m,m<nx→m≠b→q.2.1.at' m=H.at' m):=by
 refine Fnc.start Tryz.func75 rfl rfl ?_
 refine cn fun hund=>?_
 have hlt:=hund _ _ hb
 (repeat(first|refine aq ?_|refine ae ?_|(apply aj;exact rfl;exact rfl;exact rfl)|(apply eR;exact rfl;exact rfl;exact rfl;exact(F.un _ rfl);exact(F.un _ rfl);exact(show _=((n:Nat):Int)from Go.IntWalk.u64_in _ ⟨by omega,by omega⟩))))
 refine aL rfl rfl rfl (by kernel_rfl) (Fnc.mono (put_s (n:=n) (size:=2) (by omega) (by decide) (by decide) (by omega)) ?_)
 rintro⟨_,H2,n2⟩ ⟨rfl,h2,rfl,h4⟩
 dsimp only at h2 h4 ⊢
 have hb2:=(h4 b hlt).trans hb
 (repeat(first|refine aq ?_|refine ae ?_|refine ac ?_|refine ax rfl ?_|(apply aj;exact rfl;exact rfl;exact rfl)|(apply ai;exact rfl;exact rfl;exact rfl)|(apply aD;exact rfl;exact rfl;exact rfl;exact rfl)|(apply aU;exact rfl;exact rfl;exact rfl)|(apply bn;exact rfl;exact rfl;exact rfl;exact rfl;(focus(omega));(focus(omega)))|((apply nE (lw:=o) (hg:=o+2);exact rfl;exact rfl;exact rfl;exact(F.un _ rfl);exact(F.sz _ rfl);exact rfl;exact rfl;(focus(omega));(focus(omega));(focus(omega));exact(show o+2-o=2 by omega);exact rfl;exact(Nat.zero_add o)))|((apply yj;exact rfl;exact rfl;exact rfl;exact rfl))))
 refine pi rfl rfl rfl rfl (F.un _ rfl) (F.sz _ rfl) hb2 (qK h2 (by rw [ee])) (by simp [ee]) (by simp [ee];omega) ?_
 (repeat(refine ac ?_))
 ((apply fT Tryz.func75 (congrArg Array.toList Tryz.results75));(focus(repeat(exact ResIs.nil))))
 refine⟨rfl,?_,zM _,fun m hm hmb=>(Tr.aa _ _ hmb).trans (h4 m hm)⟩
 rw [Tr.ab,pu (by simp [ee])]
 rfl
def dV(p:List UInt8)(n a s:Nat):List UInt8:=kj (kj p (18+4*n) a) (18+4*n+2) s
theorem jL{p:List UInt8}{n a s:Nat}(h:18+4*n+4≤p.length):(dV p n a s).length=p.length:=by
 unfold dV
 rw [dN,dN (by omega)]
 rw [dN (by omega)]
 omega
theorem sZ{H:aJ}{nx b:Nat}{p:List UInt8}(hb:H.at' b=some (pgO p))(hp:p.length=1024){n a s:Nat}(hn:18+4*n+4≤1024)(ha:a<65536)(hs:s<65536):Fnc Tryz.prog 72 [.ptr b 0,.sc (.int .i64 (n:Int)),.sc (.int .i64 (a:Int)),.sc (.int .i64 (s:Int))] H nx
 (fun q=>q.1 = .tup []∧q.2.1.at' b=some (pgO (dV p n a s))∧nx≤q.2.2∧ ∀ m,m<nx→m≠b→q.2.1.at' m=H.at' m):=by
 have h1: ∀ {H:aJ} {nx:Nat},H.at' b=some (pgO p)→Fnc Tryz.prog 75 [.ptr b 0,.sc (.int .i64 (18+4*(n:Int))),.sc (.int .i64 (a:Int))] H nx _:=fun {H nx} hb=>by
  have:=ri (nx:=nx) (o:=18+4*n) hb hp (by omega) ha
  rw [show((18+4*n:Nat):Int)=18+4*(n:Int) by omega] at this
  exact this
 have h2: ∀ {H:aJ} {nx:Nat},H.at' b=some (pgO (kj p (18+4*n) a))→Fnc Tryz.prog 75 [.ptr b 0,.sc (.int .i64 (18+4*(n:Int)+2)),.sc (.int .i64 (s:Int))] H nx _:=fun {H nx} hb=>by
  have:=ri (nx:=nx) (o:=18+4*n+2) hb (by rw [dN (by omega)];exact hp) (by omega) hs
  rw [show((18+4*n+2:Nat):Int)=18+4*(n:Int)+2 by omega] at this
  exact this
 refine Fnc.start Tryz.func72 rfl rfl ?_
 refine cn fun hund=>?_
 have hlt:=hund _ _ hb
 (repeat(first|refine aq ?_|refine ae ?_|(apply aj;exact rfl;exact rfl;exact rfl)|(apply bn;exact rfl;exact rfl;exact rfl;exact rfl;(focus(omega));(focus(omega)))|(apply cF;exact rfl;exact rfl;exact rfl;exact rfl;(focus(omega));(focus(omega)))))
 refine aL rfl rfl rfl (by kernel_rfl) (Fnc.mono (h1 hb) ?_)
 rintro⟨_,H2,n2⟩ ⟨rfl,g2,g3,g4⟩
 dsimp only at g2 g3 g4 ⊢
 (repeat(first|refine ae ?_|refine ac ?_|(apply aj;exact rfl;exact rfl;exact rfl)|(apply bn;exact rfl;exact rfl;exact rfl;exact rfl;(focus(omega));(focus(omega)))|(apply cF;exact rfl;exact rfl;exact rfl;exact rfl;(focus(omega));(focus(omega)))))
 refine aL rfl rfl rfl (by kernel_rfl) (Fnc.mono (h2 g2) ?_)
 rintro⟨_,H3,n3⟩ ⟨rfl,k2,k3,k4⟩
 dsimp only at k2 k3 k4 ⊢
 (repeat(refine ac ?_))
 ((apply fT Tryz.func72 (congrArg Array.toList Tryz.results72));(focus(repeat(exact ResIs.nil))))
 exact⟨rfl,k2,zL g3 k3,fun m hm hmb=>(k4 m (by omega) hmb).trans (g4 m hm hmb)⟩
theorem tF{H:aJ}{nx n:Nat}:Fnc Tryz.prog 88 [.sc (.int .i64 (n:Int))] H nx (fun q=>q=(.sc (.bool (decide (1≤n∧n≤1000))),H,nx)):=by
 refine Fnc.start Tryz.func88 rfl rfl ?_
 (repeat' (first|refine aq ?_|refine ae ?_|refine ac ?_|(apply aj;exact rfl;exact rfl;exact rfl)|(apply ai;exact rfl;exact rfl;exact rfl)|(apply aX;exact rfl;exact rfl;exact rfl;exact rfl)|(apply aO;exact rfl;exact rfl;exact rfl;exact rfl)|(apply bT;exact rfl)|(refine gB rfl rfl rfl rfl ?_ ?_ <;> intro hq)|(refine lX rfl rfl rfl rfl ?_ ?_ <;> intro hq2)))
 all_goals((apply bf Tryz.func88 (congrArg Array.toList Tryz.results88));(focus(repeat(first|exact ResIs.nil|apply ResIs.tmp rfl))))
 all_goals first|(rw [decide_eq_true (by omega)];rfl)|(rw [decide_eq_false (by omega)];rfl)
def zeroP:List UInt8:=List.replicate 1024 0
theorem ak:zeroP.length=1024:=List.length_replicate
def gM(k:UInt8):List UInt8:=kj (zeroP.set 12 k) 16 1024
theorem fG(k:UInt8):(gM k).length=1024:=by
 unfold gM
 rw [dN (by rw [List.length_set,ak];decide),List.length_set,ak]
theorem iI:my Tryz.prog 48=some (pgS zeroP):=by kernel_rfl
theorem dt(a b:List UInt8)(ha:a.length=1024)(hb:b.length=1024):List.take 0 (pgS a) ++ (SV.agg (pgS b)).cells ++ List.drop (0+1024) (pgS a)=pgS b:=by
 rw [List.take_zero,List.nil_append,Nat.zero_add,List.drop_of_length_le (by simp [ha]),List.append_nil]
 rfl
theorem dv(p:List UInt8):cG (pgS p)=true:=by
 induction p with
 | nil=>rfl
 | cons c p ih=>exact ih
theorem dg{p:List UInt8}(hp:p.length=1024):(pgO p).cellsFrom 0 1024=some (pgS p):=
 aw _ 0 (by rw [List.drop_zero,zu (by simp [hp])]) (by simp [hp])
theorem yA(p:List UInt8)(i:Nat)(c:UInt8):(pgS p).set i (.sc (.int .u8 (c.toNat:Int)))=pgS (p.set i c):=by simp [List.map_set]
theorem xt{p:List UInt8}{i:Nat}(hi:i<p.length)(c:UInt8):List.take i (pgS p) ++ (SV.sc (.int .u8 (c.toNat:Int))).cells ++ List.drop (i+1) (pgS p)=pgS (p.set i c):=by
 rw [← yA,List.set_eq_take_append_cons_drop,if_pos (by simpa using hi)]
 simp [SV.cells]
theorem yY{H:aJ}{nx:Nat}(k:UInt8):Fnc Tryz.prog 59 [.sc (.int .u8 (k.toNat:Int))] H nx (fun q=>q.1 = .agg (pgS (gM k))∧nx≤q.2.2∧ ∀ m,m<nx→q.2.1.at' m=H.at' m):=by
 refine Fnc.start Tryz.func59 rfl rfl ?_
 have hl0:(pgS zeroP).length=1024:=by rw [List.length_map,List.length_map];exact ak
 (repeat(first|refine aq ?_|refine ae ?_|refine ac ?_|(apply aj;exact rfl;exact rfl;exact rfl)|refine aM rfl rfl rfl rfl (F.sz _ rfl) (by(repeat(exact Tr.ab _ _ _));done) rfl (by exact zn rfl) rfl ?_|(refine aP rfl rfl iI ?_)|(apply iy (q:=12);exact rfl;exact rfl;exact rfl;exact rfl;exact(F.un _ rfl);exact(F.sz _ rfl);(focus(omega));(focus(omega)))))
 rw [xt (p:=zeroP) (i:=0+12*1) (by rw [ak];decide) k,show 0+12*1=12 from rfl]
 refine aL rfl rfl rfl (by kernel_rfl) (Fnc.mono (ri (b:=nx+1) (p:=zeroP.set 12 k) (o:=16) (n:=1024) (by(repeat(exact Tr.ab _ _ _));done) (by rw [List.length_set];exact ak) (by decide) (by decide)) ?_)
 rintro⟨_,H2,n2⟩ ⟨rfl,g2,g3,g4⟩
 dsimp only at g2 g3 g4 ⊢
 have hres:H2.at' nx=some (pgO zeroP):=(g4 nx (by omega) (by omega)).trans (by(repeat(first|exact Tr.ab _ _ _|refine(Tr.aa _ _ (by omega)).trans ?_));done)
 have hl:(gM k).length=1024:=fG k
 (repeat(first|refine aq ?_|refine ae ?_|refine ac ?_|refine aM rfl rfl rfl rfl (F.sz _ rfl) (by assumption) rfl (by exact zn rfl) rfl ?_|refine ay rfl rfl rfl (F.ag _ rfl) (by assumption) (by exact rfl) ?_))
 rw [show kj (zeroP.set 12 k) 16 1024=gM k from rfl,dt zeroP (gM k) ak hl]
 ((apply bf Tryz.func59 (congrArg Array.toList Tryz.results59));(focus((apply ResIs.cell rfl (LoadIs.many (F.ag _ rfl) (by(repeat(exact Tr.ab _ _ _));done) (dg hl)));(repeat(exact ResIs.nil)))))
 exact⟨rfl,by dsimp only;omega,fun m hm=>(Tr.aa _ _ (by omega)).trans ((g4 m (by omega) (by omega)).trans (by(repeat(refine(Tr.aa _ _ (by omega)).trans ?_));exact rfl))⟩
theorem ww{H:aJ}{nx:Nat}(k:UInt8):Fnc Tryz.prog 59 [.sc (.int .u8 (k.toNat:Int))] H nx (fun q=>q=(.agg (pgS (gM k)),H,nx)):=Fnc.dp (Free.agg _) (yY k)
def cI(seen:List (Nat×Nat))(i:Nat):Bool:=seen.any fun x=>decide (x.1≤i∧i<x.1+x.2)
def rG(seen:List (Nat×Nat))(a s:Nat):Bool:=(List.range s).any fun j=>cI seen (a+j)
def eK(p:List UInt8):Nat→Nat→List (Nat×Nat)→Bool→Bool
 | 0,_,_,fine=>fine
 | k+1,n,seen,_=>
   if bL p n=0∧bq p n=0 then eK p k (n+1) seen (decide (n+1<aT p))
   else if bq p n<1∨1000<bq p n∨bL p n<bi p∨1024<bL p n+bq p n then false
   else if rG seen (bL p n) (bq p n) then false else eK p k (n+1) ((bL p n,bq p n) :: seen) true
def dQ(p:List UInt8):Bool:=decide (18+4*aT p≤bi p∧bi p≤1024) && eK p (aT p) 0 [] true
abbrev x3(f:Nat→Bool):List SV:=(List.range 1024).map fun i=> .sc (.bool (f i))
abbrev x4(f:Nat→Bool):VO:=az 155 (x3 f)
theorem zTak:my Tryz.prog 155=some (x3 fun _=>false):=by kernel_rfl
theorem p8(f:Nat→Bool){i:Nat}(hi:i<1024):(x4 f).cell i=some (.sc (.bool (f i))):=aW (by simp [hi])
theorem qI(seen:List (Nat×Nat))(a:Nat):cI ((a,0) :: seen)=cI seen:=by
 funext i
 simp only [cI,List.any_cons,Nat.add_zero]
 rw [decide_eq_false (by omega),Bool.false_or]
theorem wA(seen:List (Nat×Nat)){a i:Nat}(h:a≤i):cI ((a,i-a) :: seen) i=cI seen i:=by
 simp only [cI,List.any_cons]
 rw [decide_eq_false (by omega),Bool.false_or]
theorem sB{seen:List (Nat×Nat)}{a i:Nat}(h:a≤i):(x3 (cI ((a,i-a) :: seen))).set i (.sc (.bool true))=x3 (cI ((a,i+1-a) :: seen)):=by
 refine List.ext_getElem? fun j=>?_
 rw [List.getElem?_set,List.getElem?_map,List.getElem?_map,List.length_map,List.length_range]
 rcases Nat.lt_or_ge j 1024 with hj|hj
 ·rw [List.getElem?_range hj]
  by_cases he:i=j
  ·subst he
   rw [if_pos rfl,if_pos hj]
   simp only [zJ,cI,List.any_cons]
   rw [decide_eq_true (by omega),Bool.true_or]
  ·rw [if_neg he]
   simp only [zJ,cI,List.any_cons]
   rw [show decide (a≤j∧j<a+(i-a))=decide (a≤j∧j<a+(i+1-a))from decide_eq_decide.2 (by omega)]
 ·rw [List.getElem?_eq_none (by simpa using hj)]
  by_cases he:i=j
  ·subst he
   rw [if_pos rfl,if_neg (by omega)]
   rfl
  ·rw [if_neg he]
   rfl
theorem nY{seen:List (Nat×Nat)}{a s i:Nat}(h1:a≤i)(h2:i<a+s)(h:cI seen i=true):rG seen a s=true:=by
 unfold rG
 rw [List.any_eq_true]
 exact⟨i-a,List.mem_range.2 (by omega),by rw [show a+(i-a)=i by omega];exact h⟩
theorem qm{seen:List (Nat×Nat)}{a s:Nat}(h: ∀ j,a≤j→j<a+s→cI seen j=false):rG seen a s=false:=by
 unfold rG
 rw [List.any_eq_false]
 intro j hj
 rw [h (a+j) (by omega) (by have:=List.mem_range.1 hj;omega)]
 decide
theorem w4{H:aJ}{nx b:Nat}{p:List UInt8}(hb:H.at' b=some (pgO p))(hp:p.length=1024):Fnc Tryz.prog 70 [.ptr b 0] H nx (fun q=>q.1 = .sc (.bool (dQ p))∧nx≤q.2.2∧ ∀ m,m<nx→q.2.1.at' m=H.at' m):=by
 have hs:aT p<65536:=iO p 14
 have hg:bi p<65536:=iO p 16
 refine Fnc.start Tryz.func70 rfl rfl ?_
 refine cn fun hund=>?_
 have hlt:=hund _ _ hb
 (repeat(first|refine aq ?_|refine ae ?_|refine ac ?_|refine bu ?_|(apply aj;exact rfl;exact rfl;exact rfl)|(apply ai;exact rfl;exact rfl;exact rfl)|(apply bn;exact rfl;exact rfl;exact rfl;exact rfl;(focus(omega));(focus(omega)))|(apply cF;exact rfl;exact rfl;exact rfl;exact rfl;(focus(omega));(focus(omega)))|(refine aL rfl rfl rfl (by kernel_rfl) (Fnc.mono (jH hb hp) ?_);rintro _ rfl;dsimp only)|(refine aL rfl rfl rfl (by kernel_rfl) (Fnc.mono (nr hb hp) ?_);rintro _ rfl;dsimp only)))
 refine bR rfl rfl rfl rfl (fun h1=>?_) (fun h1=>?_)
 ·(repeat(first|refine aq ?_|refine ae ?_|refine ac ?_|refine ax rfl ?_|(apply aj;exact rfl;exact rfl;exact rfl)|(apply ai;exact rfl;exact rfl;exact rfl)|(apply aX;exact rfl;exact rfl;exact rfl;exact rfl)|(apply bT;exact rfl)))
  ((apply bf Tryz.func70 (congrArg Array.toList Tryz.results70));(focus(repeat(first|exact ResIs.nil|apply ResIs.tmp rfl))))
  refine⟨?_,zD _,fun m _=>rfl⟩
  unfold dQ
  rw [decide_eq_false (by omega)]
  rfl
 (repeat(apply aj;exact rfl;exact rfl;exact rfl))
 refine e9 rfl rfl rfl rfl (fun h2=>?_) (fun h2=>?_)
 ·(repeat(first|refine aq ?_|refine ae ?_|refine ac ?_|refine ax rfl ?_|(apply ai;exact rfl;exact rfl;exact rfl)|(apply aO;exact rfl;exact rfl;exact rfl;exact rfl)))
  ((apply bf Tryz.func70 (congrArg Array.toList Tryz.results70));(focus(repeat(first|exact ResIs.nil|apply ResIs.tmp rfl))))
  refine⟨?_,zD _,fun m _=>rfl⟩
  unfold dQ
  rw [decide_eq_false (by omega)]
  rfl
 have hrp:dQ p=eK p (aT p) 0 [] true:=by
  unfold dQ
  rw [decide_eq_true (by omega),Bool.true_and]
 rw [hrp]
 (repeat(first|refine aq ?_|refine ae ?_|refine ac ?_|refine aI ?_|refine aH ?_|refine bv ?_|refine au rfl ?_|(apply aj;exact rfl;exact rfl;exact rfl)|(apply ai;exact rfl;exact rfl;exact rfl)|(apply aO;exact rfl;exact rfl;exact rfl;exact rfl)|(refine aL rfl rfl rfl (by kernel_rfl) (Fnc.mono (mZ) ?_);rintro _ rfl;dsimp only)|(refine aP rfl rfl zTak ?_)))
 refine co (α:=Nat×List (Nat×Nat)×Bool) (fun x=> [(0,.ptr b 0),(3,.sc (.int .i64 (aT p:Int))),(4,.sc (.int .i64 (bi p:Int))),(5,x9 nx),(6,.ptr (nx+1) 0),(7,.sc (.bool x.2.2)),(27,.sc (.int .i64 (aT p:Int))),(28,.sc (.int .i64 (x.1:Int)))])
  (fun x H1 n1=>n1=nx+1+1∧x.1≤aT p∧eK p (aT p-x.1) x.1 x.2.1 x.2.2=eK p (aT p) 0 [] true∧H1.at' nx=some (wx b)∧H1.at' (nx+1)=some (x4 (cI x.2.1))∧ ∀ m,m<nx→H1.at' m=H.at' m) (fun x=>aT p-x.1) (0,[],true)
  ⟨rfl,zE _,rfl,by(focus((repeat(first|exact Tr.ab _ _ _|refine(Tr.aa _ _ (by omega)).trans ?_));done)),Tr.ab _ _ _,fun m hm=>(Tr.aa _ _ (by omega)).trans (Tr.aa _ _ (by omega))⟩ (SlIn.sub (by repeat(first|exact trivial|refine⟨rfl,?_⟩))) ?_
 rintro⟨n,seen,fine⟩ H1 n1 ⟨rfl,h3,h4,h5,h6,h7⟩ ih
 dsimp only at h3 h4 h5 h6 h7 ih ⊢
 have hb1:=(h7 b hlt).trans hb
 have ha0:bL p n<65536:=iO p _
 have hz0:bq p n<65536:=iO p _
 (repeat(first|refine aq ?_|refine ae ?_))
 refine bR rfl rfl rfl rfl (fun h8=>?_) (fun h8=>?_)
 ·have hn:n<aT p:=by omega
  have hgo:eK p (aT p-n) n seen fine=if bL p n=0∧bq p n=0 then eK p (aT p-(n+1)) (n+1) seen (decide (n+1<aT p))
   else if bq p n<1∨1000<bq p n∨bL p n<bi p∨1024<bL p n+bq p n then false
   else if rG seen (bL p n) (bq p n) then false else eK p (aT p-(n+1)) (n+1) ((bL p n,bq p n) :: seen) true:=by
   rw [show aT p-n=(aT p-(n+1))+1 by omega]
   rfl
  (repeat(first|refine aq ?_|refine ae ?_|refine ac ?_|refine aI ?_|refine aH ?_|refine ax rfl ?_|(apply aj;exact rfl;exact rfl;exact rfl)|(apply ai;exact rfl;exact rfl;exact rfl)))
  refine kV rfl rfl rfl rfl (by kernel_rfl) (Fnc.mono (pd h5 hb1 hp (n:=n) (by omega)) ?_)
  rintro _ rfl
  dsimp only
  (repeat(first|refine aq ?_|refine ae ?_|refine ac ?_|(apply aj;exact rfl;exact rfl;exact rfl)|(apply ai;exact rfl;exact rfl;exact rfl)|(apply aD;exact rfl;exact rfl;exact rfl;exact rfl)))
  by_cases hE:bL p n=0∧bq p n=0
  ·refine eQ rfl rfl rfl rfl (fun _=>?_) (fun hq=>absurd (by omega) hq)
   (repeat(apply aj;exact rfl;exact rfl;exact rfl))
   refine eQ rfl rfl rfl rfl (fun _=>?_) (fun hq=>absurd (by omega) hq)
   (repeat(first|refine aq ?_|refine ae ?_|refine ac ?_|refine a9 rfl ?_|refine ax rfl ?_|(apply aj;exact rfl;exact rfl;exact rfl)|(apply ai;exact rfl;exact rfl;exact rfl)|(apply aX;exact rfl;exact rfl;exact rfl;exact rfl)|(apply bn;exact rfl;exact rfl;exact rfl;exact rfl;(focus(omega));(focus(omega)))|(apply cv;exact rfl;exact rfl;exact rfl;exact rfl;(focus(omega));(focus(omega)))|(apply pe;exact rfl;exact rfl;exact rfl;exact rfl)))
   refine ih _ _ _ (n+1,seen,decide (n+1<aT p)) ⟨rfl,hn,?_,h5,h6,h7⟩ (by omega) ?_
   ·rw [← h4,hgo,if_pos hE]
   ·rw [show decide ((n:Int)<(aT p:Int)-1)=decide (n+1<aT p)from decide_eq_decide.2 (by omega)]
    exact SlIn.sub (by repeat(first|exact trivial|refine⟨rfl,?_⟩))
  ·have hgo2:=hgo
   rw [if_neg hE] at hgo2
   refine eQ rfl rfl rfl rfl (fun e1=>?_) (fun e1=>?_)
   ·(repeat(apply aj;exact rfl;exact rfl;exact rfl))
    refine eQ rfl rfl rfl rfl (fun hq=>absurd hq (by omega)) (fun _=>?_)
    (repeat(first|refine aq ?_|refine ae ?_|refine ac ?_|refine aH ?_|refine au rfl ?_|(apply aj;exact rfl;exact rfl;exact rfl)|(apply aX;exact rfl;exact rfl;exact rfl;exact rfl)))
    refine bR rfl rfl rfl rfl (fun c1=>?_) (fun c1=>?_)
    ·(repeat(first|refine aq ?_|refine ae ?_|refine ac ?_|refine a9 rfl ?_|refine ax rfl ?_|(apply aj;exact rfl;exact rfl;exact rfl)|(apply ai;exact rfl;exact rfl;exact rfl)|(apply aX;exact rfl;exact rfl;exact rfl;exact rfl)|(apply bT;exact rfl)));((apply bf Tryz.func70 (congrArg Array.toList Tryz.results70));(focus(repeat(first|exact ResIs.nil|apply ResIs.tmp rfl))));exact⟨by rw [← h4,hgo2,if_pos (by omega)];rfl,by dsimp only;omega,h7⟩
    (repeat(apply aj;exact rfl;exact rfl;exact rfl))
    refine e9 rfl rfl rfl rfl (fun c2=>?_) (fun c2=>?_)
    ·(repeat(first|refine aq ?_|refine ae ?_|refine ac ?_|refine a9 rfl ?_|refine ax rfl ?_|(apply aj;exact rfl;exact rfl;exact rfl)|(apply ai;exact rfl;exact rfl;exact rfl)|(apply aX;exact rfl;exact rfl;exact rfl;exact rfl)|(apply aO;exact rfl;exact rfl;exact rfl;exact rfl)|(apply bT;exact rfl)));((apply bf Tryz.func70 (congrArg Array.toList Tryz.results70));(focus(repeat(first|exact ResIs.nil|apply ResIs.tmp rfl))));exact⟨by rw [← h4,hgo2,if_pos (by omega)];rfl,by dsimp only;omega,h7⟩
    (repeat(first|(apply aj;exact rfl;exact rfl;exact rfl)|(apply aO;exact rfl;exact rfl;exact rfl;exact rfl)))
    refine bR rfl rfl rfl rfl (fun c3=>?_) (fun c3=>?_)
    ·(repeat(first|refine aq ?_|refine ae ?_|refine ac ?_|refine a9 rfl ?_|refine ax rfl ?_|(apply aj;exact rfl;exact rfl;exact rfl)|(apply ai;exact rfl;exact rfl;exact rfl)|(apply aX;exact rfl;exact rfl;exact rfl;exact rfl)|(apply aO;exact rfl;exact rfl;exact rfl;exact rfl)|(apply bT;exact rfl)));((apply bf Tryz.func70 (congrArg Array.toList Tryz.results70));(focus(repeat(first|exact ResIs.nil|apply ResIs.tmp rfl))));exact⟨by rw [← h4,hgo2,if_pos (by omega)];rfl,by dsimp only;omega,h7⟩
    (repeat(first|(apply aj;exact rfl;exact rfl;exact rfl)|(apply aO;exact rfl;exact rfl;exact rfl;exact rfl)|(apply bn;exact rfl;exact rfl;exact rfl;exact rfl;(focus(omega));(focus(omega)))))
    refine e9 rfl rfl rfl rfl (fun c4=>?_) (fun c4=>?_)
    ·(repeat(first|refine aq ?_|refine ae ?_|refine ac ?_|refine a9 rfl ?_|refine ax rfl ?_|(apply aj;exact rfl;exact rfl;exact rfl)|(apply ai;exact rfl;exact rfl;exact rfl)|(apply aO;exact rfl;exact rfl;exact rfl;exact rfl)));((apply bf Tryz.func70 (congrArg Array.toList Tryz.results70));(focus(repeat(first|exact ResIs.nil|apply ResIs.tmp rfl))));exact⟨by rw [← h4,hgo2,if_pos (by omega)];rfl,by dsimp only;omega,h7⟩
    rw [if_neg (by omega)] at hgo2
    (repeat(first|refine aq ?_|refine ae ?_|refine ac ?_|refine aI ?_|refine aH ?_|refine au rfl ?_|(apply aj;exact rfl;exact rfl;exact rfl)|(apply ai;exact rfl;exact rfl;exact rfl)|(apply aO;exact rfl;exact rfl;exact rfl;exact rfl)))
    refine co (α:=Nat) (fun i=> [(0,.ptr b 0),(3,.sc (.int .i64 (aT p:Int))),(4,.sc (.int .i64 (bi p:Int))),(5,x9 nx),(6,.ptr (nx+1) 0),(8,.sc (.int .i64 (n:Int))),(9,.sc (.int .i64 (bL p n:Int))),(10,.sc (.int .i64 (bq p n:Int))),(11,.sc (.int .i64 (i:Int))),(27,.sc (.int .i64 (aT p:Int))),(28,.sc (.int .i64 (n:Int)))])
     (fun i H2 n2=>n2=nx+1+1∧bL p n≤i∧i≤bL p n+bq p n∧(∀ j,bL p n≤j→j<i→cI seen j=false)∧H2.at' nx=some (wx b)∧H2.at' (nx+1)=some (x4 (cI ((bL p n,i-bL p n) :: seen)))∧ ∀ m,m<nx→H2.at' m=H.at' m) (fun i=>bL p n+bq p n-i) (bL p n)
     ⟨rfl,zD _,by omega,fun j g1 g2=>absurd g1 (by omega),h5,by rw [Nat.sub_self];exact h6.trans (congrArg (fun f=>some (x4 f)) (qI _ _).symm),h7⟩ (SlIn.sub (by repeat(first|exact trivial|refine⟨rfl,?_⟩))) ?_
    rintro i H2 n2 ⟨rfl,g1,g2,g3,g4,g5,g6⟩ ih2
    (repeat(first|refine aq ?_|refine ae ?_|(apply aj;exact rfl;exact rfl;exact rfl)|(apply bn;exact rfl;exact rfl;exact rfl;exact rfl;(focus(omega));(focus(omega)))))
    refine bR rfl rfl rfl rfl (fun c5=>?_) (fun c5=>?_)
    ·have hi:i<1024:=by omega
     have hc:=p8 (cI ((bL p n,i-bL p n) :: seen)) hi
     rw [wA seen g1] at hc
     cases hci:cI seen i with
     | true=>
       rw [hci] at hc
       (repeat(first|refine aq ?_|refine ae ?_|refine ac ?_|refine aI ?_|refine aH ?_|refine a9 rfl ?_|refine ax rfl ?_|(apply aj;exact rfl;exact rfl;exact rfl)|(apply ai;exact rfl;exact rfl;exact rfl)|(apply iy (q:=i);exact rfl;exact rfl;exact rfl;exact rfl;exact(F.un _ rfl);exact(F.sz _ rfl);(focus(omega));(focus(omega)))|(refine jg rfl rfl rfl (F.ag _ rfl) g5 (by rw [Nat.zero_add,Nat.mul_one];exact hc) ?_)))
       ((apply bf Tryz.func70 (congrArg Array.toList Tryz.results70));(focus(repeat(first|exact ResIs.nil|apply ResIs.tmp rfl))))
       exact⟨by rw [← h4,hgo2,if_pos (nY (by omega) (by omega) hci)];rfl,by dsimp only;omega,g6⟩
     | false=>
       rw [hci] at hc
       (repeat(first|refine aq ?_|refine ae ?_|refine ac ?_|refine aI ?_|refine aH ?_|refine ax rfl ?_|refine au rfl ?_|(apply aj;exact rfl;exact rfl;exact rfl)|(apply iy (q:=i);exact rfl;exact rfl;exact rfl;exact rfl;exact(F.un _ rfl);exact(F.sz _ rfl);(focus(omega));(focus(omega)))|(refine jg rfl rfl rfl (F.ag _ rfl) g5 (by rw [Nat.zero_add,Nat.mul_one];exact hc) ?_)))
       refine aK (v:= .sc (.bool true)) (cs:=x3 (cI ((bL p n,i-bL p n) :: seen))) rfl rfl rfl (F.sz _ rfl) g5 rfl (by rw [Nat.zero_add,Nat.mul_one];exact zp (by rw [List.length_map,List.length_range];exact hi)) ?_
       rw [Nat.zero_add,Nat.mul_one,sB g1]
       (repeat(first|refine ae ?_|refine ac ?_|refine aB ?_|(apply aj;exact rfl;exact rfl;exact rfl)|(apply ai;exact rfl;exact rfl;exact rfl)|(apply bn;exact rfl;exact rfl;exact rfl;exact rfl;(focus(omega));(focus(omega)))))
       refine ih2 _ _ _ (i+1) ⟨rfl,by omega,by omega,fun j k1 k2=>?_,(Tr.aa _ _ (by omega)).trans g4,Tr.ab _ _ _,fun m hm=>(Tr.aa _ _ (by omega)).trans (g6 m hm)⟩ (by omega) (SlIn.sub (by repeat(first|exact trivial|refine⟨rfl,?_⟩)))
       rcases Nat.lt_or_ge j i with k3|k3
       ·exact g3 j k1 k3
       ·obtain rfl:j=i:=by omega
        exact hci
    ·obtain rfl:i=bL p n+bq p n:=by omega
     rw [Nat.add_sub_cancel_left] at g5
     rw [if_neg (by rw [qm g3];decide)] at hgo2
     (repeat(first|refine ae ?_|refine ac ?_|refine aB ?_|refine a9 rfl ?_|refine au rfl ?_|(apply aj;exact rfl;exact rfl;exact rfl)|(apply ai;exact rfl;exact rfl;exact rfl)|(apply bn;exact rfl;exact rfl;exact rfl;exact rfl;(focus(omega));(focus(omega)))))
     exact ih _ _ _ (n+1,(bL p n,bq p n) :: seen,true) ⟨rfl,hn,by rw [← h4,hgo2],g4,g5,g6⟩ (by omega) (SlIn.sub (by repeat(first|exact trivial|refine⟨rfl,?_⟩)))
   ·(repeat(first|refine aq ?_|refine ae ?_|refine ac ?_|refine aH ?_|refine au rfl ?_|(apply aj;exact rfl;exact rfl;exact rfl)|(apply aO;exact rfl;exact rfl;exact rfl;exact rfl)|(apply bT;exact rfl)))
    refine bR rfl rfl rfl rfl (fun c1=>?_) (fun c1=>?_)
    ·(repeat(first|refine aq ?_|refine ae ?_|refine ac ?_|refine a9 rfl ?_|refine ax rfl ?_|(apply aj;exact rfl;exact rfl;exact rfl)|(apply ai;exact rfl;exact rfl;exact rfl)|(apply aX;exact rfl;exact rfl;exact rfl;exact rfl)|(apply bT;exact rfl)));((apply bf Tryz.func70 (congrArg Array.toList Tryz.results70));(focus(repeat(first|exact ResIs.nil|apply ResIs.tmp rfl))));exact⟨by rw [← h4,hgo2,if_pos (by omega)];rfl,by dsimp only;omega,h7⟩
    (repeat(apply aj;exact rfl;exact rfl;exact rfl))
    refine e9 rfl rfl rfl rfl (fun c2=>?_) (fun c2=>?_)
    ·(repeat(first|refine aq ?_|refine ae ?_|refine ac ?_|refine a9 rfl ?_|refine ax rfl ?_|(apply aj;exact rfl;exact rfl;exact rfl)|(apply ai;exact rfl;exact rfl;exact rfl)|(apply aX;exact rfl;exact rfl;exact rfl;exact rfl)|(apply aO;exact rfl;exact rfl;exact rfl;exact rfl)|(apply bT;exact rfl)));((apply bf Tryz.func70 (congrArg Array.toList Tryz.results70));(focus(repeat(first|exact ResIs.nil|apply ResIs.tmp rfl))));exact⟨by rw [← h4,hgo2,if_pos (by omega)];rfl,by dsimp only;omega,h7⟩
    (repeat(first|(apply aj;exact rfl;exact rfl;exact rfl)|(apply aO;exact rfl;exact rfl;exact rfl;exact rfl)))
    refine bR rfl rfl rfl rfl (fun c3=>?_) (fun c3=>?_)
    ·(repeat(first|refine aq ?_|refine ae ?_|refine ac ?_|refine a9 rfl ?_|refine ax rfl ?_|(apply aj;exact rfl;exact rfl;exact rfl)|(apply ai;exact rfl;exact rfl;exact rfl)|(apply aX;exact rfl;exact rfl;exact rfl;exact rfl)|(apply aO;exact rfl;exact rfl;exact rfl;exact rfl)|(apply bT;exact rfl)));((apply bf Tryz.func70 (congrArg Array.toList Tryz.results70));(focus(repeat(first|exact ResIs.nil|apply ResIs.tmp rfl))));exact⟨by rw [← h4,hgo2,if_pos (by omega)];rfl,by dsimp only;omega,h7⟩
    (repeat(first|(apply aj;exact rfl;exact rfl;exact rfl)|(apply aO;exact rfl;exact rfl;exact rfl;exact rfl)|(apply bn;exact rfl;exact rfl;exact rfl;exact rfl;(focus(omega));(focus(omega)))))
    refine e9 rfl rfl rfl rfl (fun c4=>?_) (fun c4=>?_)
    ·(repeat(first|refine aq ?_|refine ae ?_|refine ac ?_|refine a9 rfl ?_|refine ax rfl ?_|(apply aj;exact rfl;exact rfl;exact rfl)|(apply ai;exact rfl;exact rfl;exact rfl)|(apply aO;exact rfl;exact rfl;exact rfl;exact rfl)));((apply bf Tryz.func70 (congrArg Array.toList Tryz.results70));(focus(repeat(first|exact ResIs.nil|apply ResIs.tmp rfl))));exact⟨by rw [← h4,hgo2,if_pos (by omega)];rfl,by dsimp only;omega,h7⟩
    rw [if_neg (by omega)] at hgo2
    (repeat(first|refine aq ?_|refine ae ?_|refine ac ?_|refine aI ?_|refine aH ?_|refine au rfl ?_|(apply aj;exact rfl;exact rfl;exact rfl)|(apply ai;exact rfl;exact rfl;exact rfl)|(apply aO;exact rfl;exact rfl;exact rfl;exact rfl)))
    refine co (α:=Nat) (fun i=> [(0,.ptr b 0),(3,.sc (.int .i64 (aT p:Int))),(4,.sc (.int .i64 (bi p:Int))),(5,x9 nx),(6,.ptr (nx+1) 0),(8,.sc (.int .i64 (n:Int))),(9,.sc (.int .i64 (bL p n:Int))),(10,.sc (.int .i64 (bq p n:Int))),(11,.sc (.int .i64 (i:Int))),(27,.sc (.int .i64 (aT p:Int))),(28,.sc (.int .i64 (n:Int)))])
     (fun i H2 n2=>n2=nx+1+1∧bL p n≤i∧i≤bL p n+bq p n∧(∀ j,bL p n≤j→j<i→cI seen j=false)∧H2.at' nx=some (wx b)∧H2.at' (nx+1)=some (x4 (cI ((bL p n,i-bL p n) :: seen)))∧ ∀ m,m<nx→H2.at' m=H.at' m) (fun i=>bL p n+bq p n-i) (bL p n)
     ⟨rfl,zD _,by omega,fun j g1 g2=>absurd g1 (by omega),h5,by rw [Nat.sub_self];exact h6.trans (congrArg (fun f=>some (x4 f)) (qI _ _).symm),h7⟩ (SlIn.sub (by repeat(first|exact trivial|refine⟨rfl,?_⟩))) ?_
    rintro i H2 n2 ⟨rfl,g1,g2,g3,g4,g5,g6⟩ ih2
    (repeat(first|refine aq ?_|refine ae ?_|(apply aj;exact rfl;exact rfl;exact rfl)|(apply bn;exact rfl;exact rfl;exact rfl;exact rfl;(focus(omega));(focus(omega)))))
    refine bR rfl rfl rfl rfl (fun c5=>?_) (fun c5=>?_)
    ·have hi:i<1024:=by omega
     have hc:=p8 (cI ((bL p n,i-bL p n) :: seen)) hi
     rw [wA seen g1] at hc
     cases hci:cI seen i with
     | true=>
       rw [hci] at hc
       (repeat(first|refine aq ?_|refine ae ?_|refine ac ?_|refine aI ?_|refine aH ?_|refine a9 rfl ?_|refine ax rfl ?_|(apply aj;exact rfl;exact rfl;exact rfl)|(apply ai;exact rfl;exact rfl;exact rfl)|(apply iy (q:=i);exact rfl;exact rfl;exact rfl;exact rfl;exact(F.un _ rfl);exact(F.sz _ rfl);(focus(omega));(focus(omega)))|(refine jg rfl rfl rfl (F.ag _ rfl) g5 (by rw [Nat.zero_add,Nat.mul_one];exact hc) ?_)))
       ((apply bf Tryz.func70 (congrArg Array.toList Tryz.results70));(focus(repeat(first|exact ResIs.nil|apply ResIs.tmp rfl))))
       exact⟨by rw [← h4,hgo2,if_pos (nY (by omega) (by omega) hci)];rfl,by dsimp only;omega,g6⟩
     | false=>
       rw [hci] at hc
       (repeat(first|refine aq ?_|refine ae ?_|refine ac ?_|refine aI ?_|refine aH ?_|refine ax rfl ?_|refine au rfl ?_|(apply aj;exact rfl;exact rfl;exact rfl)|(apply iy (q:=i);exact rfl;exact rfl;exact rfl;exact rfl;exact(F.un _ rfl);exact(F.sz _ rfl);(focus(omega));(focus(omega)))|(refine jg rfl rfl rfl (F.ag _ rfl) g5 (by rw [Nat.zero_add,Nat.mul_one];exact hc) ?_)))
       refine aK (v:= .sc (.bool true)) (cs:=x3 (cI ((bL p n,i-bL p n) :: seen))) rfl rfl rfl (F.sz _ rfl) g5 rfl (by rw [Nat.zero_add,Nat.mul_one];exact zp (by rw [List.length_map,List.length_range];exact hi)) ?_
       rw [Nat.zero_add,Nat.mul_one,sB g1]
       (repeat(first|refine ae ?_|refine ac ?_|refine aB ?_|(apply aj;exact rfl;exact rfl;exact rfl)|(apply ai;exact rfl;exact rfl;exact rfl)|(apply bn;exact rfl;exact rfl;exact rfl;exact rfl;(focus(omega));(focus(omega)))))
       refine ih2 _ _ _ (i+1) ⟨rfl,by omega,by omega,fun j k1 k2=>?_,(Tr.aa _ _ (by omega)).trans g4,Tr.ab _ _ _,fun m hm=>(Tr.aa _ _ (by omega)).trans (g6 m hm)⟩ (by omega) (SlIn.sub (by repeat(first|exact trivial|refine⟨rfl,?_⟩)))
       rcases Nat.lt_or_ge j i with k3|k3
       ·exact g3 j k1 k3
       ·obtain rfl:j=i:=by omega
        exact hci
    ·obtain rfl:i=bL p n+bq p n:=by omega
     rw [Nat.add_sub_cancel_left] at g5
     rw [if_neg (by rw [qm g3];decide)] at hgo2
     (repeat(first|refine ae ?_|refine ac ?_|refine aB ?_|refine a9 rfl ?_|refine au rfl ?_|(apply aj;exact rfl;exact rfl;exact rfl)|(apply ai;exact rfl;exact rfl;exact rfl)|(apply bn;exact rfl;exact rfl;exact rfl;exact rfl;(focus(omega));(focus(omega)))))
     exact ih _ _ _ (n+1,(bL p n,bq p n) :: seen,true) ⟨rfl,hn,by rw [← h4,hgo2],g4,g5,g6⟩ (by omega) (SlIn.sub (by repeat(first|exact trivial|refine⟨rfl,?_⟩)))
 ·obtain rfl:n=aT p:=by omega
  rw [Nat.sub_self] at h4
  have h4:fine=eK p (aT p) 0 [] true:=h4
  (repeat(first|refine aq ?_|refine ae ?_|refine ac ?_|refine a9 rfl ?_|refine au rfl ?_|(apply aj;exact rfl;exact rfl;exact rfl)|(apply ai;exact rfl;exact rfl;exact rfl)))
  ((apply bf Tryz.func70 (congrArg Array.toList Tryz.results70));(focus(repeat(first|exact ResIs.nil|apply ResIs.tmp rfl))))
  exact⟨by rw [← h4];rfl,by dsimp only;omega,h7⟩
theorem mG{H:aJ}{nx b:Nat}{p:List UInt8}(hb:H.at' b=some (pgO p))(hp:p.length=1024):Fnc Tryz.prog 70 [.ptr b 0] H nx (fun q=>q=(.sc (.bool (dQ p)),H,nx)):=Fnc.dp (fun _ _ _ h=>h) (w4 hb hp)
def dR(p:List UInt8):Nat→Nat→Nat
 | 0,n=>n
 | k+1,n=>if bq p n=0 then n else dR p k (n+1)
def bB(p:List UInt8):Nat:=dR p (aT p) 0
theorem me(p:List UInt8): ∀ k n,dR p k n≤n+k
 | 0,n=>zD _
 | k+1,n=>by
   unfold dR
   split
   ·omega
   ·have:=me p k (n+1);omega
theorem oD(p:List UInt8):bB p≤aT p:=by have:=me p (aT p) 0;unfold bB;omega
def vM(p:List UInt8):Prop:=p.length=1024∧18+4*aT p≤bi p∧bi p≤1024
theorem ig{p:List UInt8}(hp:p.length=1024)(h:dQ p=true):vM p:=by
 unfold dQ at h
 rw [zC,decide_eq_true_eq] at h
 exact⟨hp,h.1⟩
theorem xP{H:aJ}{nx b:Nat}{p:List UInt8}(hb:H.at' b=some (pgO p))(hp:vM p):Fnc Tryz.prog 90 [.ptr b 0] H nx (fun q=>q.1 = .sc (.int .i64 (bB p:Int))∧nx≤q.2.2∧ ∀ m,m<nx→q.2.1.at' m=H.at' m):=by
 obtain⟨hp,hp1,hp2⟩:=hp
 have hs:aT p<65536:=iO p 14
 refine Fnc.start Tryz.func90 rfl rfl ?_
 refine cn fun hund=>?_
 have hlt:=hund _ _ hb
 have hb0: ∀ {vo:VO},(H.set nx vo).at' b=some (pgO p):=fun {vo}=>(Tr.aa _ _ (by omega)).trans hb
 (repeat(first|refine aq ?_|refine ae ?_|refine ac ?_|refine aI ?_|(apply aj;exact rfl;exact rfl;exact rfl)|(apply ai;exact rfl;exact rfl;exact rfl)|(refine aL rfl rfl rfl (by kernel_rfl) (Fnc.mono (mZ) ?_);rintro _ rfl;dsimp only)|(refine aL rfl rfl rfl (by kernel_rfl) (Fnc.mono (jH hb0 hp) ?_);rintro _ rfl;dsimp only)))
 refine co (α:=Nat) (fun n=> [(0,.ptr b 0),(3,x9 nx),(10,.sc (.int .i64 (aT p:Int))),(11,.sc (.int .i64 (n:Int)))])
  (fun n H1 n1=>n1=nx+1∧n≤aT p∧dR p (aT p-n) n=bB p∧H1=H.set nx (wx b)) (fun n=>aT p-n) 0
  ⟨rfl,zE _,rfl,rfl⟩ (SlIn.sub (by repeat(first|exact trivial|refine⟨rfl,?_⟩))) ?_
 rintro n H1 n1 ⟨rfl,h3,h4,rfl⟩ ih
 (repeat(first|refine aq ?_|refine ae ?_))
 refine bR rfl rfl rfl rfl (fun h8=>?_) (fun h8=>?_)
 ·have hgo:dR p (aT p-n) n=if bq p n=0 then n else dR p (aT p-(n+1)) (n+1):=by
   rw [show aT p-n=(aT p-(n+1))+1 by omega]
   rfl
  (repeat(first|refine aq ?_|refine ae ?_|refine ac ?_|refine aI ?_|refine aH ?_|refine ax rfl ?_|(apply aj;exact rfl;exact rfl;exact rfl)|(apply ai;exact rfl;exact rfl;exact rfl)))
  refine kV rfl rfl rfl rfl (by kernel_rfl) (Fnc.mono (pd (Tr.ab _ _ _) hb0 hp (n:=n) (by omega)) ?_)
  rintro _ rfl
  dsimp only
  (repeat(first|refine aq ?_|refine ae ?_|refine ac ?_|(apply aj;exact rfl;exact rfl;exact rfl)|(apply ai;exact rfl;exact rfl;exact rfl)|(apply aD;exact rfl;exact rfl;exact rfl;exact rfl)))
  refine eQ rfl rfl rfl rfl (fun e1=>?_) (fun e1=>?_)
  ·(repeat(first|refine aq ?_|refine ae ?_|refine ac ?_|refine ax rfl ?_|(apply aj;exact rfl;exact rfl;exact rfl)|(apply ai;exact rfl;exact rfl;exact rfl)))
   ((apply bf Tryz.func90 (congrArg Array.toList Tryz.results90));(focus(repeat(first|exact ResIs.nil|apply ResIs.tmp rfl))))
   refine⟨?_,zM _,fun m hm=>Tr.aa _ _ (by omega)⟩
   rw [← h4,hgo,if_pos (by omega)]
   rfl
  ·(repeat(first|refine ae ?_|refine ac ?_|refine aB ?_|refine aH ?_|refine au rfl ?_|(apply aj;exact rfl;exact rfl;exact rfl)|(apply bn;exact rfl;exact rfl;exact rfl;exact rfl;(focus(omega));(focus(omega)))))
   exact ih _ _ _ (n+1) ⟨rfl,by omega,by rw [← h4,hgo,if_neg (by omega)],rfl⟩ (by omega) (SlIn.sub (by repeat(first|exact trivial|refine⟨rfl,?_⟩)))
 ·obtain rfl:n=aT p:=by omega
  rw [Nat.sub_self] at h4
  have h4:aT p=bB p:=h4
  (repeat(first|refine aq ?_|refine ae ?_|refine ac ?_|refine a9 rfl ?_|refine au rfl ?_|(apply aj;exact rfl;exact rfl;exact rfl)|(apply ai;exact rfl;exact rfl;exact rfl)|(refine aL rfl rfl rfl (by kernel_rfl) (Fnc.mono (jH hb0 hp) ?_);rintro _ rfl;dsimp only)))
  ((apply bf Tryz.func90 (congrArg Array.toList Tryz.results90));(focus(repeat(first|exact ResIs.nil|apply ResIs.tmp rfl))))
  refine⟨?_,zM _,fun m hm=>Tr.aa _ _ (by omega)⟩
  rw [← h4]
  rfl
theorem t6{H:aJ}{nx b:Nat}{p:List UInt8}(hb:H.at' b=some (pgO p))(hp:vM p):Fnc Tryz.prog 90 [.ptr b 0] H nx (fun q=>q=(.sc (.int .i64 (bB p:Int)),H,nx)):=Fnc.dp (fun _ _ _ h=>h) (xP hb hp)
def kZ(p:List UInt8):Nat:=bi p-18-4*aT p-(if bB p=aT p then 4 else 0)
theorem yD{H:aJ}{nx b:Nat}{p:List UInt8}(hb:H.at' b=some (pgO p))(hp:vM p):Fnc Tryz.prog 89 [.ptr b 0] H nx (fun q=>q=(.sc (.int .i64 (kZ p:Int)),H,nx)):=by
 have hp0:=hp
 obtain⟨hp,hp1,hp2⟩:=hp
 have hs:aT p<65536:=iO p 14
 have he:=oD p
 refine Fnc.start Tryz.func89 rfl rfl ?_
 (repeat(first|refine aq ?_|refine ae ?_|refine ac ?_|(apply aj;exact rfl;exact rfl;exact rfl)|(apply ai;exact rfl;exact rfl;exact rfl)|(apply cv;exact rfl;exact rfl;exact rfl;exact rfl;(focus(omega));(focus(omega)))|(apply cF;exact rfl;exact rfl;exact rfl;exact rfl;(focus(omega));(focus(omega)))|(refine aL rfl rfl rfl (by kernel_rfl) (Fnc.mono (jH hb hp) ?_);rintro _ rfl;dsimp only)|(refine aL rfl rfl rfl (by kernel_rfl) (Fnc.mono (nr hb hp) ?_);rintro _ rfl;dsimp only)|(refine aL rfl rfl rfl (by kernel_rfl) (Fnc.mono (t6 hb hp0) ?_);rintro _ rfl;dsimp only)))
 refine eQ rfl rfl rfl rfl (fun e1=>?_) (fun e1=>?_)
 ·(repeat(first|refine aq ?_|refine ae ?_|refine ac ?_|refine ax rfl ?_|(apply aj;exact rfl;exact rfl;exact rfl)|(apply ai;exact rfl;exact rfl;exact rfl)|(apply cv;exact rfl;exact rfl;exact rfl;exact rfl;(focus(omega));(focus(omega)))|((apply wh (c:=(kZ p:Int));exact rfl;exact rfl;exact rfl;exact rfl;(focus(unfold kZ;rw [if_pos (by omega)];omega))))))
  ((apply bf Tryz.func89 (congrArg Array.toList Tryz.results89));(focus(repeat(first|exact ResIs.nil|apply ResIs.tmp rfl))))
  rfl
 ·(repeat(first|refine aq ?_|refine ae ?_|refine ac ?_|refine aH ?_|refine au rfl ?_|(apply aj;exact rfl;exact rfl;exact rfl)|(apply ai;exact rfl;exact rfl;exact rfl)|((apply wh (c:=(kZ p:Int));exact rfl;exact rfl;exact rfl;exact rfl;(focus(unfold kZ;rw [if_neg (by omega)];omega))))))
  ((apply bf Tryz.func89 (congrArg Array.toList Tryz.results89));(focus(repeat(first|exact ResIs.nil|apply ResIs.tmp rfl))))
  rfl
end Go.Proofs.YtjjgjjlgchidlaaGreat
end
