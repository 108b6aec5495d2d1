import Derived.Laws.StructEq
import Derived.ChangeKeysEq
import Derived.WalkKit
import Derived.ProofKit
import Derived.OpenShut
import Derived.Below
import Derived.ChangeSame
import Derived.Carry
import Derived.ChangeArms
import Derived.Test.YtnhmbonmlfeifaaN4
set_option linter.unusedVariables false
set_option linter.unusedSimpArgs false
set_option maxRecDepth 100000
set_option maxHeartbeats 0
section
namespace Go.Proofs.Ytnhmbonmlfeifaa
open Go Go.Sy Go.Sl Go.RowKit
abbrev fN(s:List SV):VO:=am 30 s
abbrev eR(k w:SV)(x y:Nat):List SV:= [k,w,.sc (.int .u64 (x:Int)),.sc (.int .u64 (y:Int))]
def ofNo(o:Option gQ):Nat:=if o.isSome then 0 else 13
theorem BlkS.sV{H:ar}{k w:SV}{r:Nat}{v:gQ}(hk:BlkS H k r v.1)(hw:BlkS H w r v.2.1):VerIs H (rR k w v.2.2.1 v.2.2.2) v:=⟨k,w,rfl,hk.bs,hw.bs⟩
def VerAt(H:ar)(s:SV)(r:Nat)(v:gQ):Prop:= ∃ k w,s=rR k w v.2.2.1 v.2.2.2∧BlkS H k r v.1∧BlkS H w r v.2.1
theorem VerAt.is{H:ar}{s:SV}{r:Nat}{v:gQ}(h:VerAt H s r v):VerIs H s v:=by
 obtain⟨k,w,h1,h2,h3⟩:=h
 exact⟨k,w,h1,h2.bs,h3.bs⟩
theorem VerAt.frame{H H':ar}{s:SV}{r:Nat}{v:gQ}(h:VerAt H s r v)(hf:H'.at' r=H.at' r):VerAt H' s r v:=by
 obtain⟨k,w,h1,h2,h3⟩:=h
 exact⟨k,w,h1,h2.frame hf,h3.frame hf⟩
theorem j2(H:ar)(r:Nat):VerAt H (rR ft ft 0 0) r rE:=⟨ft,ft,rfl,.inl ⟨rfl,rfl⟩,.inl ⟨rfl,rfl⟩⟩
theorem RdSt.frame{H H':ar}{b r:Nat}{st:Option (List UInt8)}(h:RdSt H b r st)(hb:H'.at' b=H.at' b)(hr:H'.at' r=H.at' r):RdSt H' b r st:=by
 cases st with
 | none=>obtain⟨s,h⟩:=h;exact⟨s,hb.trans h⟩
 | some l=>obtain⟨o,C,h1,h2,h3⟩:=h;exact⟨o,C,hb.trans h1,h2,h3.frame hr⟩
theorem of_s{H:ar}{nx:Nat}{s:SV}{l:List UInt8}(hs:BsIs H s (byV l))(hl:l.length≤140737488355328):Fnc Try.prog 23 [s] H nx (fun q=> ∃ s' r,q.1 = .tup [s',.sc (.int .i64 (ofNo (ofV l):Int))]∧VerAt q.2.1 s' r ((ofV l).getD rE)∧nx≤r∧nx≤q.2.2∧ ∀ m,m<nx→q.2.1.at' m=H.at' m):=by
 refine Fnc.start Try.func23 rfl rfl ?_
 refine bv fun hund=>?_
 have hs1: ∀ {vo:VO},BsIs (H.set nx vo) s (byV l):=fun {vo}=>hs.frame fun b x hb=>(Tr.aa _ _ (by have:=hund b x hb;omega)).trans hb
 (repeat(first|refine an ?_|refine ae ?_|refine ac ?_|(apply ai;exact rfl;exact rfl;exact rfl)|(apply ah;exact rfl;exact rfl;exact rfl)|(apply aZ;exact rfl;exact rfl;exact(F.zl _ rfl))|(refine cH rfl rfl (F.un _ rfl) rfl hs1 ?_;rw [bM])))
 refine cp rfl rfl rfl rfl (fun h1=>?_) (fun h1=>?_)
 ·have hv:ofV l=none:=by unfold ofV;rw [if_pos (by omega)]
  (repeat(first|refine an ?_|refine ae ?_|refine ac ?_|refine ay rfl ?_|(apply ah;exact rfl;exact rfl;exact rfl)|refine aI rfl rfl rfl rfl (F.sz _ rfl) (by(repeat(exact Tr.ab _ _ _));done) rfl (by exact s3 rfl) rfl ?_|(apply cT;exact rfl;exact rfl;exact rfl;exact(F.ze _ rfl);exact(F.pl _ rfl);exact rfl)))
  ((apply aP Try.func23 (congrArg Array.toList Try.results23));(focus(repeat(first|exact ResIs.nil|apply ResIs.tmp rfl|apply ResIs.cell rfl (LoadIs.many (F.ag _ rfl) (by(repeat(exact Tr.ab _ _ _));done) (aL _ 0 rfl rfl))))))
  rw [hv]
  exact⟨_,nx,rfl,j2 _ _,th _,tz _,fun m hm=>(Tr.aa _ _ (by omega)).trans (Tr.aa _ _ (by omega))⟩
 ·have hv:ofV l=sL (jr l).2 (jr l).1:=by unfold ofV;rw [if_neg (by omega)]
  have hp:jr l=(((gN (b7 (b7 (some l) 8).2 8).2).1,(gN (gN (b7 (b7 (some l) 8).2 8).2).2).1,beN (b7 (some l) 8).1,beN (b7 (b7 (some l) 8).2 8).1),(gN (gN (b7 (b7 (some l) 8).2 8).2).2).2):=rfl
  (repeat(first|refine an ?_|refine ae ?_|refine ac ?_|refine aD ?_|refine ax rfl ?_|(apply ai;exact rfl;exact rfl;exact rfl)))
  refine au rfl rfl rfl (by kernel_rfl) (Fnc.mono (r9 hs1 hl) ?_)
  rintro⟨_,H1,n1⟩ ⟨r,b,rfl,a1,a2,a3,a4,a5,a6,a7,a8⟩
  dsimp only at a1 a2 a6 a7 a8 ⊢
  have ares:H1.at' nx=some (fN (eR ft ft 0 0)):=(a8 nx (by omega)).trans (Tr.ab _ _ _)
  have aold: ∀ m,m<nx→H1.at' m=H.at' m:=fun m hm=>(a8 m (by omega)).trans (Tr.aa _ _ (by omega))
  clear a8
  (repeat(first|refine an ?_|refine ae ?_|refine ac ?_|(apply ai;exact rfl;exact rfl;exact rfl)|(apply ah;exact rfl;exact rfl;exact rfl)|(apply aZ;exact rfl;exact rfl;exact(F.zl _ rfl))))
  refine au rfl rfl rfl (by kernel_rfl) (Fnc.mono (nb (l:=l) (n:=8) (r:=r) (by(repeat(refine(Tr.aa _ _ (by omega)).trans ?_));exact a1) (by(repeat(refine(Tr.aa _ _ (by omega)).trans ?_));exact a2) ((nL a2).frame (by(repeat(refine(Tr.aa _ _ (by omega)).trans ?_));exact rfl)) a3 (by decide) (by decide)) ?_)
  rintro _ ⟨H2,rfl,b1,b2⟩
  dsimp only
  have bbox:H2.at' n1=some (fN (eR ft ft 0 0)):=(b2 n1 (by omega)).trans (Tr.ab _ _ _)
  have bres:H2.at' nx=some (fN (eR ft ft 0 0)):=(b2 nx (by omega)).trans ((Tr.aa _ _ (by omega)).trans ares)
  have bold: ∀ m,m<nx→H2.at' m=H.at' m:=fun m hm=>(b2 m (by omega)).trans ((Tr.aa _ _ (by omega)).trans (aold m hm))
  clear b2 a1 a2 ares aold hs1
  (repeat(first|refine an ?_|refine ae ?_|refine ac ?_|(apply ai;exact rfl;exact rfl;exact rfl)|(apply aF;exact rfl;exact rfl;exact rfl;exact(F.fo _ _ rfl rfl))|refine aI rfl rfl rfl rfl (F.sz _ rfl) (by assumption) rfl (by exact s3 rfl) rfl ?_))
  refine au rfl rfl rfl (by kernel_rfl) (Fnc.mono (sk (n:=8) (b1.frame (Tr.aa _ _ (by omega)) (Tr.aa _ _ (by omega))) a3 (by decide) (by decide)) ?_)
  rintro _ ⟨H3,rfl,c1,c2⟩
  dsimp only
  have cbox:=(c2 n1 (by omega)).trans (Tr.ab _ _ _)
  have cres:H3.at' nx=some (fN (eR ft ft 0 0)):=(c2 nx (by omega)).trans ((Tr.aa _ _ (by omega)).trans bres)
  have cold: ∀ m,m<nx→H3.at' m=H.at' m:=fun m hm=>(c2 m (by omega)).trans ((Tr.aa _ _ (by omega)).trans (bold m hm))
  clear c2 b1 bbox bres bold
  (repeat(first|refine an ?_|refine ae ?_|refine ac ?_|(apply ai;exact rfl;exact rfl;exact rfl)|(apply aF;exact rfl;exact rfl;exact rfl;exact(F.fo _ _ rfl rfl))|refine aI rfl rfl rfl rfl (F.sz _ rfl) (by assumption) rfl (by exact s3 rfl) rfl ?_))
  refine au rfl rfl rfl (by kernel_rfl) (Fnc.mono (nM (c1.frame (Tr.aa _ _ (by omega)) (Tr.aa _ _ (by omega))) a3) ?_)
  rintro _ ⟨k,H4,rfl,d0,d1,d2⟩
  dsimp only
  have dbox:=(d2 n1 (by omega)).trans (Tr.ab _ _ _)
  have dres:H4.at' nx=some (fN (eR ft ft 0 0)):=(d2 nx (by omega)).trans ((Tr.aa _ _ (by omega)).trans cres)
  have dold: ∀ m,m<nx→H4.at' m=H.at' m:=fun m hm=>(d2 m (by omega)).trans ((Tr.aa _ _ (by omega)).trans (cold m hm))
  clear d2 c1 cbox cres cold
  have hk1:k.one=true:=by rcases d0 with ⟨rfl,_⟩|⟨o,C,rfl,_⟩ <;> rfl
  (repeat(first|refine an ?_|refine ae ?_|refine ac ?_|(apply ai;exact rfl;exact rfl;exact rfl)|(apply aF;exact rfl;exact rfl;exact rfl;exact(F.fo _ _ rfl rfl))|(refine dR rfl rfl rfl (F.sz _ rfl) (by assumption) hk1 (by exact rfl) ?_)))
  refine au rfl rfl rfl (by kernel_rfl) (Fnc.mono (nM (d1.frame (Tr.aa _ _ (by omega)) (Tr.aa _ _ (by omega))) a3) ?_)
  rintro _ ⟨w,H5,rfl,e0,e1,e2⟩
  dsimp only
  have ebox:=(e2 n1 (by omega)).trans (Tr.ab _ _ _)
  have eres:H5.at' nx=some (fN (eR ft ft 0 0)):=(e2 nx (by omega)).trans ((Tr.aa _ _ (by omega)).trans dres)
  have eold: ∀ m,m<nx→H5.at' m=H.at' m:=fun m hm=>(e2 m (by omega)).trans ((Tr.aa _ _ (by omega)).trans (dold m hm))
  have d0':BlkS H5 k r _:=d0.frame ((e2 r a3).trans (Tr.aa _ _ (by omega)))
  clear e2 d1 d0 dbox dres dold
  have hw1:w.one=true:=by rcases e0 with ⟨rfl,_⟩|⟨o,C,rfl,_⟩ <;> rfl
  (repeat(first|refine an ?_|refine ae ?_|refine ac ?_|(apply ai;exact rfl;exact rfl;exact rfl)|(apply aF;exact rfl;exact rfl;exact rfl;exact(F.fo _ _ rfl rfl))|(refine dR rfl rfl rfl (F.sz _ rfl) (by assumption) hw1 (by exact rfl) ?_)))
  refine au rfl rfl rfl (by kernel_rfl) (Fnc.mono (end_s (e1.frame (Tr.aa _ _ (by omega)) (Tr.aa _ _ (by omega)))) ?_)
  rintro _ rfl
  dsimp only
  have fold: ∀ (vo:VO) m,m<nx→(H5.set n1 vo).at' m=H.at' m:=fun vo m hm=>(Tr.aa _ _ (by omega)).trans (eold m hm)
  rw [hv,hp]
  dsimp only
  generalize b7 (some l) 8=p1 at *
  generalize b7 p1.2 8=p2 at *
  generalize gN p2.2=p3 at *
  generalize gN p3.2=p4 at *
  have g1:BlkS (H5.set n1 (fN (eR k w (beN p1.1) (beN p2.1)))) k r p3.1:=d0'.frame (Tr.aa _ _ (by omega))
  have g2:BlkS (H5.set n1 (fN (eR k w (beN p1.1) (beN p2.1)))) w r p4.1:=e0.frame (Tr.aa _ _ (by omega))
  have g3:VerIs (H5.set n1 (fN (eR k w (beN p1.1) (beN p2.1)))) (rR k w (beN p1.1) (beN p2.1)) (p3.1,p4.1,beN p1.1,beN p2.1):=BlkS.sV (v:=(p3.1,p4.1,beN p1.1,beN p2.1)) g1 g2
  have fbox:(H5.set n1 (fN (eR k w (beN p1.1) (beN p2.1)))).at' n1=some (fN (eR k w (beN p1.1) (beN p2.1))):=Tr.ab _ _ _
  have fres:(H5.set n1 (fN (eR k w (beN p1.1) (beN p2.1)))).at' nx=some (fN (eR ft ft 0 0)):=(Tr.aa _ _ (by omega)).trans eres
  have fold2:=fold (fN (eR k w (beN p1.1) (beN p2.1)))
  refine pM (R:=fun H6 n6=>H6=H5.set n1 (fN (eR k w (beN p1.1) (beN p2.1)))∧n6=n1+1) ⟨rfl,rfl⟩ ?_
  rintro H6 n6 ⟨hH6,rfl⟩
  rw [← hH6] at g1 g2 g3 fbox fres fold2
  clear hH6 d0' e0 e1 ebox eres eold fold
  by_cases he:p4.2=some []
  ·rw [show endR p4.2=0 by rw [he];rfl,he]
   have hm:=so (nx:=n1+1) g3
   cases hmv:pq (p3.1,p4.1,beN p1.1,beN p2.1)with
   | true=>
     rw [hmv] at hm
     have hone:bz (eR k w (beN p1.1) (beN p2.1))=true:=by simp only [bz,hk1,hw1];rfl
     have hfin:sL (some []) (p3.1,p4.1,beN p1.1,beN p2.1)=some (p3.1,p4.1,beN p1.1,beN p2.1):=if_pos ⟨rfl,hmv⟩
     (repeat(first|refine an ?_|refine ae ?_|refine ac ?_|refine aD ?_|refine ax rfl ?_|(apply ai;exact rfl;exact rfl;exact rfl)|(apply ah;exact rfl;exact rfl;exact rfl)|(apply aQ;exact rfl;exact rfl;exact rfl;exact rfl)|refine bj rfl rfl rfl (F.ag _ rfl) (by assumption) (by exact rfl) ?_|(apply cG;exact rfl;exact rfl;exact rfl)|(refine cS rfl rfl rfl rfl (fun hq=>absurd rfl hq) (fun _=>?_))|(refine au rfl rfl rfl (by kernel_rfl) (Fnc.mono (hm) ?_);rintro _ rfl;dsimp only)|(refine bF rfl rfl rfl (F.sz _ rfl) (by assumption) rfl (by exact s3 rfl) hone rfl ?_)))
     ((apply aP Try.func23 (congrArg Array.toList Try.results23));(focus(repeat(first|exact ResIs.nil|apply ResIs.tmp rfl|apply ResIs.cell rfl (LoadIs.many (F.ag _ rfl) (by(repeat(exact Tr.ab _ _ _));done) (aL _ 0 rfl rfl))))))
     rw [hfin]
     exact⟨_,r,rfl,⟨k,w,rfl,g1.frame (Tr.aa _ _ (by omega)),g2.frame (Tr.aa _ _ (by omega))⟩,by omega,by dsimp only;omega,fun m hm=>(Tr.aa _ _ (by omega)).trans (fold2 m hm)⟩
   | false=>
     rw [hmv] at hm
     have hfin:sL (some []) (p3.1,p4.1,beN p1.1,beN p2.1)=none:=if_neg fun h=>by rw [hmv] at h;cases h.2
     (repeat(first|refine an ?_|refine ae ?_|refine ac ?_|refine ay rfl ?_|(apply ai;exact rfl;exact rfl;exact rfl)|(apply ah;exact rfl;exact rfl;exact rfl)|(apply aQ;exact rfl;exact rfl;exact rfl;exact rfl)|refine aI rfl rfl rfl rfl (F.sz _ rfl) (by assumption) rfl (by exact s3 rfl) rfl ?_|refine bj rfl rfl rfl (F.ag _ rfl) (by assumption) (by exact rfl) ?_|(apply cG;exact rfl;exact rfl;exact rfl)|(apply cT;exact rfl;exact rfl;exact rfl;exact(F.ze _ rfl);exact(F.pl _ rfl);exact rfl)|(refine cS rfl rfl rfl rfl (fun hq=>absurd rfl hq) (fun _=>?_))|(refine au rfl rfl rfl (by kernel_rfl) (Fnc.mono (hm) ?_);rintro _ rfl;dsimp only)))
     ((apply aP Try.func23 (congrArg Array.toList Try.results23));(focus(repeat(first|exact ResIs.nil|apply ResIs.tmp rfl|apply ResIs.cell rfl (LoadIs.many (F.ag _ rfl) (by(repeat(exact Tr.ab _ _ _));done) (aL _ 0 rfl rfl))))))
     rw [hfin]
     exact⟨_,nx,rfl,j2 _ _,th _,by dsimp only;omega,fun m hm=>(Tr.aa _ _ (by omega)).trans (fold2 m hm)⟩
  ·rw [qE he,show endR p4.2=4 by rcases hq:p4.2 with _|⟨_|⟨c,l'⟩⟩;rfl;exact absurd hq he;rfl]
   (repeat(first|refine an ?_|refine ae ?_|refine ac ?_|refine ay rfl ?_|(apply ai;exact rfl;exact rfl;exact rfl)|(apply ah;exact rfl;exact rfl;exact rfl)|(apply bp;exact rfl;exact rfl;exact rfl;exact rfl)|(apply dF;exact rfl)|refine aI rfl rfl rfl rfl (F.sz _ rfl) (by assumption) rfl (by exact s3 rfl) rfl ?_|(apply cT;exact rfl;exact rfl;exact rfl;exact(F.ze _ rfl);exact(F.pl _ rfl);exact rfl)|(refine cS rfl rfl rfl rfl (fun _=>?_) (fun hq=>absurd hq (by decide)))))
   ((apply aP Try.func23 (congrArg Array.toList Try.results23));(focus(repeat(first|exact ResIs.nil|apply ResIs.tmp rfl|apply ResIs.cell rfl (LoadIs.many (F.ag _ rfl) (by(repeat(exact Tr.ab _ _ _));done) (aL _ 0 rfl rfl))))))
   exact⟨_,nx,rfl,j2 _ _,th _,by dsimp only;omega,fun m hm=>(Tr.aa _ _ (by omega)).trans (fold2 m hm)⟩
end Go.Proofs.Ytnhmbonmlfeifaa
end
section
namespace Go.Sy
open Go Go.Sl Go.RowKit
def fQ(k:IntKind)(l:List Int):List Value:=l.map fun n=> .int k n
theorem ji{P:Program}{t:TypeId}{k:IntKind}{l:List Int}{i:Nat}(hu:P.underlying t=some (.int k))(hi:i<l.length)(w:World):(part t (fQ k l).toArray (i*1)).run P w = .ok (.int k l[i]) w:=by
 have hv:(fQ k l).toArray[i]? =some (.int k l[i]):=by
  simp [fQ,sY hi]
 rw [Nat.mul_one]
 generalize (fQ k l).toArray=cs at hv
 simp [part,isAgg,run_underlying hu,hv]
theorem dI{P:Program}{e:TypeId}{k:IntKind}(hu:P.underlying e=some (.int k))(d:Nat)(xs ys:List Int)(w:World): ∀ is:List Nat,(∀ i∈is,i<xs.length∧i<ys.length)→(Op.eqItems (d+1) e 1 (fQ k xs).toArray (fQ k ys).toArray is).run P w = .ok (is.all fun i=>xs[i]? == ys[i]?) w
 | [],_=>by simp [Op.eqItems]
 | i :: is,h=>by
   obtain⟨h1,h2⟩:=h i List.mem_cons_self
   simp only [Op.eqItems,Sem.run_bind,ji hu h1,ji hu h2,run_equalIn_int w d e k k _ _ hu,Result.andThen_ok]
   have ih:=dI hu d xs ys w is fun j hj=>h j (List.mem_cons_of_mem _ hj)
   rw [List.all_cons,sY h1,sY h2]
   by_cases he:xs[i]=ys[i]
   ·simp [he,ih]
   ·simp [he]
theorem jU{xs ys:List Int}{n:Nat}(hx:xs.length=n)(hy:ys.length=n):((List.range n).all fun i=>xs[i]? == ys[i]?)=decide (xs=ys):=by
 by_cases h:xs=ys
 ·subst h
  simp
 ·rw [decide_eq_false h]
  cases h':(List.range n).all fun i=>xs[i]? == ys[i]? with
  | false=>rfl
  | true=>
    refine absurd (List.ext_getElem? fun i=>?_) h
    rw [List.all_eq_true] at h'
    rcases Nat.lt_or_ge i n with hi|hi
    ·simpa using h' i (List.mem_range.2 hi)
    ·rw [List.getElem?_eq_none (by omega),List.getElem?_eq_none (by omega)]
theorem mE{P:Program}{t e:TypeId}{n:Nat}{k:IntKind}{i:TypeInfo}(hu:P.underlying t=some (.array n e))(hi:P.info? e=some i)(hc:P.cellsOf e=1)(he:P.underlying e=some (.int k)){xs ys:List Int}(hx:xs.length=n)(hy:ys.length=n)(w:World) :
 (Op.equalIn 10000 t (.agg (fQ k xs).toArray) (.agg (fQ k ys).toArray)).run P w = .ok (decide (xs=ys)) w:=by
 rw [show(10000:Nat)=9998+1+1 from rfl,run_equalIn_array w (9998+1) _ _ hu hi,hc,dI he 9998 xs ys w _ (fun i hi=>by rw [hx,hy];exact⟨List.mem_range.1 hi,List.mem_range.1 hi⟩),jU hx hy]
section
variable {P:Program} {H:ar} {T:Tr SV} {nx:Nat}
variable {d:Option Tmp} {ty:TypeId} {pos:String} {af:Array Edge} {gd:Option (Nat×Bool)}
theorem hX{e:Env}{l:List Value}{v:Value}(h:(SV.agg (l.map .sc)).conc e=some v):v = .agg l.toArray:=by
 have hl: ∀ l:List Value,SV.aq e (l.map .sc)=some l:=fun l=>by
  induction l with
  | nil=>rfl
  | cons x l ih=>exact aY rfl ih
 simp only [SV.conc,hl,tu,sW] at h
 exact h.symm
theorem mN{t e:TypeId}{n:Nat}{k:IntKind}{i:TypeInfo}(hu:P.underlying t=some (.array n e))(hi:P.info? e=some i)(hc:P.cellsOf e=1)(he:P.underlying e=some (.int k))(hg:P.eqGuardType P.depth t=false){x y:Operand}{yt:TypeId}{xs ys:List Int}(hlx:xs.length=n)(hly:ys.length=n)(hx:aj T x=some (.agg ((fQ k xs).map .sc)))(hy:aj T y=some (.agg ((fQ k ys).map .sc))) :
 ReadDoes P T H ⟨d,.binOp .eql t x y yt,ty,pos,af,gd⟩ (.sc (.bool (decide (xs=ys)))):=by
 intro K w0 ev nx w en hS hE
 refine⟨_,rfl,?_⟩
 have e1:=hX (hE x _ hx)
 have e2:=hX (hE y _ hy)
 simp [execOp,e1,e2,run_eqGuard_agg (P:=P) w .eql t x y _ _ hg,run_eql_struct,mE hu hi hc he hlx hly]
end
end Go.Sy
end
section
namespace Go.Proofs.Ytnhmbonmlfeifaa
open Go Go.Sy Go.Sl Go.RowKit
def gW(p:List UInt8):Nat:=if bP p=true then iw p else 0
theorem sS{H:ar}{nx:Nat}{p:List UInt8}(hp:p.length=1024):Fnc Try.prog 16 [.agg (pgS p)] H nx (fun q=>q=(.sc (.int .i64 (gW p:Int)),H,nx)):=by
 refine Fnc.bT (Free.sc _) ?_
 refine Fnc.start Try.func16 rfl rfl ?_
 have hb1:(H.set nx (pgO p)).at' nx=some (pgO p):=Tr.ab _ _ _
 have hrs:=fun nx'=>fm (nx:=nx') hb1 hp
 cases hr:bP p with
 | false=>
   rw [hr] at hrs
   have hv:gW p=0:=by unfold gW;rw [if_neg (by rw [hr];decide)]
   (repeat(first|refine an ?_|refine ae ?_|refine ac ?_|refine ay rfl ?_|(apply ah;exact rfl;exact rfl;exact rfl)|(apply ce;exact rfl;exact rfl;exact rfl)|(apply cG;exact rfl;exact rfl;exact rfl)|(refine au rfl rfl rfl (by kernel_rfl) (Fnc.mono (hrs _) ?_);rintro _ rfl;dsimp only)))
   ((apply aP Try.func16 (congrArg Array.toList Try.results16));(focus(repeat(first|exact ResIs.nil|apply ResIs.tmp rfl))))
   exact⟨by rw [hv];rfl,tz _,fun m hm=>Tr.aa _ _ (by omega)⟩
 | true=>
   rw [hr] at hrs
   have hv:gW p=iw p:=by unfold gW;rw [if_pos hr]
   have hf:=dZ hp hr
   (repeat(first|refine an ?_|refine ae ?_|refine ac ?_|refine aD ?_|refine ax rfl ?_|(apply ah;exact rfl;exact rfl;exact rfl)|(apply ce;exact rfl;exact rfl;exact rfl)|(apply cG;exact rfl;exact rfl;exact rfl)|(refine au rfl rfl rfl (by kernel_rfl) (Fnc.mono (hrs _) ?_);rintro _ rfl;dsimp only)|(refine au rfl rfl rfl (by kernel_rfl) (Fnc.mono (pn hb1 hf) ?_);rintro _ rfl;dsimp only)))
   ((apply aP Try.func16 (congrArg Array.toList Try.results16));(focus(repeat(first|exact ResIs.nil|apply ResIs.tmp rfl))))
   exact⟨by rw [hv];rfl,tz _,fun m hm=>Tr.aa _ _ (by omega)⟩
theorem mW(a:List UInt8):pgS a=(fQ .u8 (a.map fun c=>(c.toNat:Int))).map .sc:=by simp [fQ]
theorem toNat_inj{a b:List UInt8}(h:a.map (fun c=>(c.toNat:Int))=b.map (fun c=>(c.toNat:Int))):a=b:=by
 refine List.map_inj_right (f:=fun c:UInt8=>(c.toNat:Int)) (fun x y hxy=>?_) |>.1 h
 have hxy:(x.toNat:Int)=(y.toNat:Int):=hxy
 have:x.toNat=y.toNat:=by omega
 exact UInt8.toNat_inj.1 this
theorem ov{H:ar}{T:Tr SV}{d:Option Tmp}{ty:TypeId}{pos:String}{af:Array Edge}{gd:Option (Nat×Bool)}{x y:Operand}{yt:TypeId}{a b:List UInt8}(ha:a.length=1024)(hb:b.length=1024)(hx:aj T x=some (.agg (pgS a)))(hy:aj T y=some (.agg (pgS b))) :
 ReadDoes Try.prog T H ⟨d,.binOp .eql 47 x y yt,ty,pos,af,gd⟩ (.sc (.bool (decide (a=b)))):=by
 have h:=mN (P:=Try.prog) (H:=H) (T:=T) (d:=d) (ty:=ty) (pos:=pos) (af:=af) (gd:=gd) (t:=47) (e:=5) (n:=1024) (k:= .u8) (x:=x) (y:=y) (yt:=yt) (xs:=a.map fun c=>(c.toNat:Int)) (ys:=b.map fun c=>(c.toNat:Int)) (F.un _ rfl) (by exact rfl) (by kernel_rfl) (F.un _ rfl) (by kernel_rfl) (by rw [List.length_map];exact ha) (by rw [List.length_map];exact hb) (hx.trans (by rw [mW])) (hy.trans (by rw [mW]))
 rwa [show decide (a.map (fun c=>(c.toNat:Int))=b.map (fun c=>(c.toNat:Int)))=decide (a=b)from decide_eq_decide.2 ⟨toNat_inj,fun h=>by rw [h]⟩] at h
theorem pT{ro:Option Nat}{fn nt nx i:Nat}{T:Tr SV}{k:List AIt}{dfs:List ADf}{H:ar}{Q:Pst}{ops:Array Oper}{l:List Oper}{ty:TypeId}{pos:String}{af:Array Edge}{gd:Option (Nat×Bool)}{x y:Operand}{yt:TypeId}{a b:List UInt8}{dd:Nat}(hw:ak T ops ⟨some dd,.binOp .eql 47 x y yt,ty,pos,af,gd⟩=some true)(hd:Nat.blt dd nt=true)(hx:aj T x=some (.agg (pgS a)))(hy:aj T y=some (.agg (pgS b)))(ha:a.length=1024)(hb:b.length=1024)
 (h:Wp Try.prog ro ⟨fn,nt,T.set dd (.sc (.bool (decide (a=b)))),.inReg ops (i+1) l :: k,dfs,H,nx⟩ Q):Wp Try.prog ro ⟨fn,nt,T,.inReg ops i (⟨some dd,.binOp .eql 47 x y yt,ty,pos,af,gd⟩ :: l) :: k,dfs,H,nx⟩ Q:=
 be hw (.inr (fun _ h=>by cases h)) ((ov ha hb hx hy).does) (by rw [ap hd];exact h)
def nP(p:List UInt8):List UInt8:=List.replicate 12 0 ++ p.drop 12
theorem nO{p:List UInt8}(hp:p.length=1024):(nP p).length=1024:=by
 unfold nP
 rw [tp,List.length_replicate,List.length_drop,hp]
def iq(p:List UInt8):Bool:=decide (nP p=zeroP)
abbrev z12:List SV:=(byV (List.replicate 12 0)).map .sc
theorem kK{H:ar}{nx:Nat}{p:List UInt8}(hp:p.length=1024):Fnc Try.prog 51 [.agg (pgS p)] H nx (fun q=>q=(.sc (.bool (iq p)),H,nx)):=by
 refine Fnc.bT (Free.sc _) ?_
 refine Fnc.start Try.func51 rfl rfl ?_
 (repeat(first|refine an ?_|refine ae ?_|refine ac ?_|(apply ah;exact rfl;exact rfl;exact rfl)|(apply ce;exact rfl;exact rfl;exact rfl)|((apply gh (lw:=0) (hg:=12);exact rfl;exact rfl;exact rfl;exact(F.un _ rfl);exact(F.sz _ rfl);exact rfl;exact rfl;(focus(omega));(focus(omega));(focus(omega));exact rfl;exact rfl;exact rfl))))
 refine nX (n:=11) z12 rfl rfl (F.un _ rfl) (F.ze _ rfl) (Tr.ab _ _ _) (by kernel_rfl) (by kernel_rfl) (by rw [aG hp];exact s3 rfl) ?_
 have hc:(pgS p).take 0 ++ z12 ++ (pgS p).drop (0+z12.length)=pgS (nP p):=by
  unfold nP
  simp [List.map_drop]
 rw [hc]
 have hl:=nO hp
 (repeat(first|(apply bj;(exact rfl);(exact rfl);(exact rfl);(exact F.ag _ rfl);(focus((focus((repeat(exact Tr.ab _ _ _));done))));(exact aG hl))|refine an ?_|refine ae ?_|refine ac ?_|(apply ah;exact rfl;exact rfl;exact rfl)|(refine dq rfl rfl ge ?_)|(refine pT rfl rfl rfl rfl hl aw ?_)))
 ((apply aP Try.func51 (congrArg Array.toList Try.results51));(focus(repeat(first|exact ResIs.nil|apply ResIs.tmp rfl))))
 exact⟨rfl,tz _,fun m hm=>(Tr.aa _ _ (by omega)).trans (Tr.aa _ _ (by omega))⟩
abbrev kT(mem:List UInt8)(left puts:Int):List SV:=(byV mem).map .sc ++ [.sc (.int .i64 left),.sc (.int .i64 puts)]
abbrev eP(mem:List UInt8)(left puts:Int):VO:=am 84 (kT mem left puts)
def eE(mem:List UInt8)(n:Nat):List UInt8:=(mem.drop (1024*n)).take 1024
theorem gy{mem:List UInt8}(hm:mem.length=131072){n:Nat}(hn:n<128):(eE mem n).length=1024:=by
 unfold eE
 rw [List.length_take,List.length_drop]
 omega
theorem mV{mem:List UInt8}(hm:mem.length=131072){n:Nat}(hn:n<128)(left puts:Int):(eP mem left puts).cellsFrom (0+n*1024) 1024=some (pgS (eE mem n)):=by
 refine aL _ _ ?_ (by rw [aG (gy hm hn)])
 have hl:((byV mem).map SV.sc).length=131072:=by simpa using hm
 rw [List.drop_append_of_le_length (by omega),List.take_append_of_le_length (by rw [List.length_drop];omega)]
 unfold eE
 rw [Nat.zero_add,Nat.mul_comm]
 simp [List.map_take,List.map_drop]
theorem sh{H:ar}{nx b n:Nat}{mem:List UInt8}{left puts:Int}(hb:H.at' b=some (eP mem left puts))(hm:mem.length=131072)(hn:n<128):Fnc Try.prog 108 [.ptr b 0,.sc (.int .i64 (n:Int))] H nx (fun q=>q=(pgE (eE mem n,0),H,nx)):=by
 refine Fnc.bT (kU _) ?_
 refine Fnc.start Try.func108 rfl rfl ?_
 refine bv fun hund=>?_
 have hlt:=hund _ _ hb
 have hl:=gy hm hn
 (repeat(first|(refine aZ rfl rfl ik ?_)|refine an ?_|refine ae ?_|refine ac ?_|refine aD ?_|refine ax rfl ?_|(apply ai;exact rfl;exact rfl;exact rfl)|(apply ah;exact rfl;exact rfl;exact rfl)|(apply aQ;exact rfl;exact rfl;exact rfl;exact rfl)|(apply bG;exact rfl;exact rfl;exact rfl)|(apply aF;exact rfl;exact rfl;exact rfl;exact(F.fo _ _ rfl rfl))|(refine bC rfl rfl rfl rfl (fun hq=>absurd hq (by omega)) (fun _=>?_))|(refine cp rfl rfl rfl rfl (fun hq=>absurd hq (by omega)) (fun _=>?_))|(apply gf (q:=n);exact rfl;exact rfl;exact rfl;exact rfl;exact(F.un _ rfl);exact(F.sz _ rfl);(focus(omega));(focus(omega)))))
 refine pS rfl rfl rfl (F.ag _ rfl) (by(repeat(first|assumption|refine(Tr.aa _ _ (by omega)).trans ?_));done) (mV hm hn _ _) ?_
 (repeat(first|(apply bF;(exact rfl);(exact rfl);(exact rfl);(exact F.sz _ rfl);(focus((focus((repeat(exact Tr.ab _ _ _));done))));(exact aG hl);(rw [aG aw];exact th _);(exact da _);(exact cy _ _ aw hl))|refine ac ?_|(apply ah;exact rfl;exact rfl;exact rfl)))
 ((apply aP Try.func108 (congrArg Array.toList Try.results108));(focus((apply ResIs.cell rfl (LoadIs.many (F.ag _ rfl) (by(repeat(exact Tr.ab _ _ _));done) (cq hl)));(repeat(first|exact ResIs.nil|apply ResIs.tmp rfl)))))
 exact⟨rfl,tz _,fun m hm=>(Tr.aa _ _ (by omega)).trans (Tr.aa _ _ (by omega))⟩
theorem iD{mem:List UInt8}(hm:mem.length=131072)(l p:Int):(kT mem l p).length=131074:=by simp [hm]
theorem dg{mem:List UInt8}(hm:mem.length=131072):((byV mem).map SV.sc).length=131072:=by simpa using hm
theorem oB{mem:List UInt8}(hm:mem.length=131072)(l p:Int):(kT mem l p)[131072]? =some (.sc (.int .i64 l)):=by
 rw [List.getElem?_append_right (by rw [dg hm];exact th _),dg hm]
 rfl
theorem oA{mem:List UInt8}(hm:mem.length=131072)(l p:Int):(kT mem l p)[131073]? =some (.sc (.int .i64 p)):=by
 rw [List.getElem?_append_right (by rw [dg hm];decide),dg hm]
 rfl
theorem oz{mem:List UInt8}(hm:mem.length=131072)(l p l':Int):(kT mem l p).set 131072 (.sc (.int .i64 l'))=kT mem l' p:=by
 rw [List.set_append_right _ _ (by rw [dg hm];exact th _),dg hm]
 rfl
theorem oy{mem:List UInt8}(hm:mem.length=131072)(l p p':Int):(kT mem l p).set 131073 (.sc (.int .i64 p'))=kT mem l p':=by
 rw [List.set_append_right _ _ (by rw [dg hm];decide),dg hm]
 rfl
def og(mem:List UInt8)(n:Nat)(x:List UInt8):List UInt8:=eZ mem (1024*n) x
theorem kO{mem x:List UInt8}(hm:mem.length=131072){n:Nat}(hn:n<128)(hx:x.length=1024):(og mem n x).length=131072:=by
 unfold og
 rw [eY (by omega),hm]
theorem qi{mem x:List UInt8}(hm:mem.length=131072){n:Nat}(hn:n<128)(hx:x.length=1024)(l p:Int):(kT mem l p).take (0+n*1024) ++ pgS x ++ (kT mem l p).drop (0+n*1024+1024)=kT (og mem n x) l p:=by
 have hl:=dg hm
 rw [List.take_append_of_le_length (by omega),List.drop_append_of_le_length (by omega)]
 unfold og eZ
 rw [hx,Nat.zero_add,Nat.mul_comm n]
 show _=(byV (mem.take (1024*n) ++ x ++ mem.drop (1024*n+1024))).map SV.sc ++ _
 rw [ia,ia,tq,tq]
 simp only [byV,List.map_take,List.map_drop,List.append_assoc]
theorem sg{H:ar}{nx b n:Nat}{mem x:List UInt8}{left puts:Int}(hb:H.at' b=some (eP mem left puts))(hm:mem.length=131072)(hn:n<128)(hx:x.length=1024)(hl:left≠0)(hl2 : -1000000000≤left∧left≤1000000000)(hp : -1000000000≤puts∧puts≤1000000000):Fnc Try.prog 109 [.ptr b 0,.sc (.int .i64 (n:Int)),.agg (pgS x)] H nx
 (fun q=>q.1 = .sc (.int .i64 0)∧q.2.1.at' b=some (eP (og mem n x) (left-1) (puts+1))∧nx≤q.2.2∧ ∀ m,m<nx→m≠b→q.2.1.at' m=H.at' m):=by
 refine Fnc.start Try.func109 rfl rfl ?_
 refine bv fun hund=>?_
 have hlt:=hund _ _ hb
 have hbox:(H.set nx (pgO x)).at' nx=some (pgO x):=Tr.ab _ _ _
 have hb1:(H.set nx (pgO x)).at' b=some (eP mem left puts):=(Tr.aa _ _ (by omega)).trans hb
 have hold: ∀ m,m<nx→(H.set nx (pgO x)).at' m=H.at' m:=fun m hm=>Tr.aa _ _ (by omega)
 (repeat(first|refine an ?_|refine ae ?_|refine ac ?_|(apply ai;exact rfl;exact rfl;exact rfl)|(apply ah;exact rfl;exact rfl;exact rfl)|(apply ce;exact rfl;exact rfl;exact rfl)))
 generalize H.set nx (pgO x)=H1 at hbox hb1 hold ⊢
 (repeat(first|(refine bg rfl rfl rfl (F.ag _ rfl) hb1 (oB hm _ _) ?_)|refine an ?_|refine ae ?_|refine ac ?_|refine aD ?_|refine ax rfl ?_|(apply ai;exact rfl;exact rfl;exact rfl)|(apply aQ;exact rfl;exact rfl;exact rfl;exact rfl)|(apply bG;exact rfl;exact rfl;exact rfl)|(apply aF;exact rfl;exact rfl;exact rfl;exact(F.fo _ _ rfl rfl))|(apply jd;exact rfl;exact rfl;exact rfl;exact rfl;(focus(omega));(focus(omega)))|(refine bC rfl rfl rfl rfl (fun hq=>absurd hq (by omega)) (fun _=>?_))|(refine cp rfl rfl rfl rfl (fun hq=>absurd hq (by omega)) (fun _=>?_))|(refine cI rfl rfl rfl rfl (fun hq=>absurd hq (by omega)) (fun _=>?_))))
 refine dR rfl rfl rfl (F.sz _ rfl) hb1 rfl (s5 (by rw [iD hm];decide)) ?_
 rw [oz hm]
 have hb2:(H1.set b (eP mem (left-1) puts)).at' b=some (eP mem (left-1) puts):=Tr.ab _ _ _
 (repeat(first|(refine bg rfl rfl rfl (F.ag _ rfl) hb2 (oA hm _ _) ?_)|refine an ?_|refine ae ?_|refine ac ?_|(apply ai;exact rfl;exact rfl;exact rfl)|(apply bG;exact rfl;exact rfl;exact rfl)|(apply aF;exact rfl;exact rfl;exact rfl;exact(F.fo _ _ rfl rfl))|(apply cn;exact rfl;exact rfl;exact rfl;exact rfl;(focus(omega));(focus(omega)))))
 refine dR rfl rfl rfl (F.sz _ rfl) hb2 rfl (s5 (by rw [iD hm];decide)) ?_
 rw [oy hm]
 have hb3:((H1.set b (eP mem (left-1) puts)).set b (eP mem (left-1) (puts+1))).at' b=some (eP mem (left-1) (puts+1)):=Tr.ab _ _ _
 have hbox3:((H1.set b (eP mem (left-1) puts)).set b (eP mem (left-1) (puts+1))).at' nx=some (pgO x):=(Tr.aa _ _ (by omega)).trans ((Tr.aa _ _ (by omega)).trans hbox)
 have hold3: ∀ m,m<nx→m≠b→((H1.set b (eP mem (left-1) puts)).set b (eP mem (left-1) (puts+1))).at' m=H.at' m:=fun m h1 h2=>(Tr.aa _ _ h2).trans ((Tr.aa _ _ h2).trans (hold m h1))
 generalize (H1.set b (eP mem (left-1) puts)).set b (eP mem (left-1) (puts+1))=H3 at hb3 hbox3 hold3 ⊢
 clear hb2 hb1 hbox hold
 (repeat(first|refine an ?_|refine ac ?_))
 (apply j8;(focus(kernel_rfl));(focus(kernel_rfl)))
 (repeat(first|(refine gH rfl rfl rfl (F.ag _ rfl) hbox3 (aG hx) ?_)|(refine gG rfl rfl rfl (F.sz _ rfl) hb3 (aG hx) (by rw [iD hm];omega) (da _) (qi hm hn hx _ _) ?_)|(apply qK (q:=n);exact rfl;exact rfl;exact rfl;exact rfl;exact(F.un _ rfl);exact(F.sz _ rfl);(focus(omega));(focus(omega)))|(apply kq;exact rfl;exact rfl;exact rfl)|(apply kp;exact rfl;exact rfl;exact rfl)|(apply jM;exact rfl;exact rfl;exact rfl;exact(F.fo _ _ rfl rfl))))
 (refine ll ?_);(refine⟨by kernel_rfl,?_,?_⟩);(focus(repeat(first|exact trivial|refine⟨.inl (gJ rfl),?_⟩|refine⟨.inr ⟨0,by kernel_rfl,AllH.all (fun _=>(by first|exact gr rfl|exact eD rfl|exact dJ (F.fo _ _ rfl rfl) rfl)) _⟩,?_⟩|refine⟨.inr ⟨0,by kernel_rfl,(by(refine⟨(by first|exact cL (F.ag _ rfl) rfl (by(repeat(first|assumption|refine(Tr.aa _ _ (by omega)).trans ?_));done) (cq hx)|exact iz (q:=n) rfl rfl (F.un _ rfl) (F.sz _ rfl) (by omega) (by omega)),?_⟩;(repeat(refine⟨(by first|exact cL (F.ag _ rfl) rfl (by assumption) (cq hx)|exact iz (q:=n) rfl rfl (F.un _ rfl) (F.sz _ rfl) (by omega) (by omega)),?_⟩));exact trivial))⟩,?_⟩)))
 (repeat(first|refine an ?_|refine ae ?_|refine ac ?_|(apply ah;exact rfl;exact rfl;exact rfl)))
 ((apply aP Try.func109 (congrArg Array.toList Try.results109));(focus(repeat(first|exact ResIs.nil|apply ResIs.tmp rfl))))
 exact⟨rfl,Tr.ab _ _ _,tz _,fun m h1 h2=>(Tr.aa _ _ h2).trans (hold3 m h1 h2)⟩
def kP(p:List UInt8):Nat:=(p.getD 12 0).toNat
theorem sw{H:ar}{nx:Nat}{p:List UInt8}(hp:p.length=1024):Fnc Try.prog 54 [.agg (pgS p)] H nx (fun q=>q=(.sc (.int .u8 (kP p:Int)),H,nx)):=by
 refine Fnc.bT (Free.sc _) ?_
 refine Fnc.start Try.func54 rfl rfl ?_
 have hc:=oC (p:=p) (i:=12) (by omega)
 (repeat(first|refine an ?_|refine ae ?_|refine ac ?_|(apply ah;exact rfl;exact rfl;exact rfl)|(apply ce;exact rfl;exact rfl;exact rfl)|(apply gf (q:=12);exact rfl;exact rfl;exact rfl;exact rfl;exact(F.un _ rfl);exact(F.sz _ rfl);(focus(omega));(focus(omega)))|(refine fG rfl rfl rfl (F.ag _ rfl) (by(repeat(exact Tr.ab _ _ _));done) hc ?_)))
 ((apply aP Try.func54 (congrArg Array.toList Try.results54));(focus(repeat(first|exact ResIs.nil|apply ResIs.tmp rfl))))
 refine⟨?_,tz _,fun m hm=>Tr.aa _ _ (by omega)⟩
 have hg:p.getD 12 0=p[12]'(by omega):=by rw [tc,sY (by omega)];rfl
 unfold kP
 rw [hg]
 rfl
def pE(p:List UInt8):Bool:=(List.range (aE p)).any fun j=>decide (a9 p j≠0) && (ofV (ck p j)).isNone
def dj(p:List UInt8):List UInt8×Nat:=if iq p=true then(gD 4,0) else if bP p=false∨kP p≠4 then(zeroP,13) else if pE p=true then(zeroP,13) else(p,0)
theorem ic{H:ar}{s:SV}{vs:List Value}(h:BsIs H s vs):s.one=true:=by
 obtain⟨_,⟨_,_,_,rfl⟩|⟨r0,eo,ne,ro0,t0,us,rfl,_⟩|⟨b0,o0,C0,vo0,rfl,_⟩⟩:=h <;> rfl
abbrev rT(b:Nat):SV:= .ifc 81 (.ptr b 0)
abbrev f8(e:Int):VO:=am 24 [.sc (.int .i64 e)]
theorem sa{H:ar}{nx b n:Nat}{mem:List UInt8}{left puts:Int}(hb:H.at' b=some (eP mem left puts))(hm:mem.length=131072)(hn:n<128):Fnc Try.prog 21 [rT b,.sc (.int .i64 (n:Int))] H nx (fun q=>q.1=pgE (dj (eE mem n))∧nx≤q.2.2∧ ∀ m,m<nx→q.2.1.at' m=H.at' m):=by
 have hp:=gy hm hn
 refine Fnc.start Try.func21 rfl rfl ?_
 refine bv fun hund=>?_
 have hlt:=hund _ _ hb
 (repeat(first|(refine aZ rfl rfl ik ?_)|refine an ?_|refine ae ?_|refine ac ?_|(apply ai;exact rfl;exact rfl;exact rfl)|(apply aZ;exact rfl;exact rfl;exact(F.zl _ rfl))))
 have hb1:((H.set nx (pgO zeroP)).set (nx+1) (f8 0)).at' b=some (eP mem left puts):=by(focus((repeat(first|assumption|refine(Tr.aa _ _ (by omega)).trans ?_));done))
 have h41:((H.set nx (pgO zeroP)).set (nx+1) (f8 0)).at' nx=some (pgO zeroP):=by(focus((repeat(first|exact Tr.ab _ _ _|refine(Tr.aa _ _ (by omega)).trans ?_));done))
 have h51:((H.set nx (pgO zeroP)).set (nx+1) (f8 0)).at' (nx+1)=some (f8 0):=by(focus((repeat(exact Tr.ab _ _ _));done))
 have ho1: ∀ m,m<nx→((H.set nx (pgO zeroP)).set (nx+1) (f8 0)).at' m=H.at' m:=fun m hm=>by(focus((repeat(refine(Tr.aa _ _ (by omega)).trans ?_));exact rfl))
 refine kH 108 rfl rfl rfl rfl (by kernel_rfl) (Fnc.mono (sh hb1 hm hn) ?_)
 rintro _ rfl
 dsimp only
 generalize (H.set nx (pgO zeroP)).set (nx+1) (f8 0)=H1 at hb1 h41 h51 ho1 ⊢
 generalize eE mem n=p at hp ⊢
 (repeat(first|(refine aZ rfl rfl ik ?_)|(apply bF;(exact rfl);(exact rfl);(exact rfl);(exact F.sz _ rfl);(focus((focus((repeat(exact Tr.ab _ _ _));done))));(exact aG hp);(rw [aG aw];exact th _);(exact da _);(exact cy _ _ aw hp))|refine an ?_|refine ae ?_|refine ac ?_|refine aD ?_|refine ax rfl ?_|(apply ai;exact rfl;exact rfl;exact rfl)|(apply ah;exact rfl;exact rfl;exact rfl)|(apply aH;exact rfl;exact rfl;exact rfl;exact rfl)|(refine cS rfl rfl rfl rfl (fun hq=>absurd rfl hq) (fun _=>?_))))
 have h62:((H1.set (nx+1+1) (pgO zeroP)).set (nx+1+1) (pgO p)).at' (nx+1+1)=some (pgO p):=Tr.ab _ _ _
 have h42:((H1.set (nx+1+1) (pgO zeroP)).set (nx+1+1) (pgO p)).at' nx=some (pgO zeroP):=by(focus((repeat(first|assumption|refine(Tr.aa _ _ (by omega)).trans ?_));done))
 have h52:((H1.set (nx+1+1) (pgO zeroP)).set (nx+1+1) (pgO p)).at' (nx+1)=some (f8 0):=by(focus((repeat(first|assumption|refine(Tr.aa _ _ (by omega)).trans ?_));done))
 have ho2: ∀ m,m<nx→((H1.set (nx+1+1) (pgO zeroP)).set (nx+1+1) (pgO p)).at' m=H.at' m:=fun m hm=>(Tr.aa _ _ (by omega)).trans ((Tr.aa _ _ (by omega)).trans (ho1 m hm))
 refine pM (R:=fun H2 n2=>H2=(H1.set (nx+1+1) (pgO zeroP)).set (nx+1+1) (pgO p)∧n2=nx+1+1+1) ⟨rfl,rfl⟩ ?_
 rintro H2 n2 ⟨hH2,rfl⟩
 rw [← hH2] at h62 h42 h52 ho2
 clear hH2 h41 h51 ho1 hb1
 have hfin: ∀ (e:Nat) (x:List UInt8) (H3:ar) (n3:Nat),dj p=(x,e)→nx≤n3→(∀ m,m<nx→H3.at' m=H.at' m)→(SV.tup [.agg (pgS x),.sc (.int .i64 (e:Int))]=pgE (dj p)∧nx≤n3∧ ∀ m,m<nx→H3.at' m=H.at' m):=fun e x H3 n3 h1 h2 h3=>⟨by rw [h1],h2,h3⟩
 cases hu:iq p with
 | true=>
   have hv:dj p=(gD 4,0):=by unfold dj;rw [if_pos hu]
   have hus:=fun(H:ar) nx=>kK (H:=H) (nx:=nx) hp
   rw [hu] at hus
   have hl4:=gC 4
   (repeat(first|(apply bj;(exact rfl);(exact rfl);(exact rfl);(exact F.ag _ rfl);(focus(assumption));(exact aG hp))|refine an ?_|refine ae ?_|refine ac ?_|refine ay rfl ?_|(refine au rfl rfl rfl (by kernel_rfl) (Fnc.mono (hus _ _) ?_);rintro _ rfl;dsimp only)))
   refine au rfl rfl rfl (by kernel_rfl) (Fnc.mono (sD 4) ?_)
   rintro _ rfl
   dsimp only
   generalize gD 4=p4 at hv hl4
   (repeat(first|(apply bF;(exact rfl);(exact rfl);(exact rfl);(exact F.sz _ rfl);(focus(assumption));(exact aG hl4);(rw [aG aw];exact th _);(exact da _);(exact cy _ _ aw hl4))|refine ac ?_|refine aI rfl rfl rfl rfl (F.sz _ rfl) (by(repeat(first|assumption|refine(Tr.aa _ _ (by omega)).trans ?_));done) rfl (by exact s3 rfl) rfl ?_))
   ((apply aP Try.func21 (congrArg Array.toList Try.results21));(focus((apply ResIs.cell rfl (LoadIs.many (F.ag _ rfl) (by(repeat(first|exact Tr.ab _ _ _|refine(Tr.aa _ _ (by omega)).trans ?_));done) (cq hl4)));apply ResIs.cell rfl (LoadIs.one (F.ag _ rfl) (by(repeat(exact Tr.ab _ _ _));done) (bk rfl));exact ResIs.nil)))
   exact hfin 0 _ _ _ hv (by dsimp only;omega) fun m hm=>(Tr.aa _ _ (by omega)).trans ((Tr.aa _ _ (by omega)).trans (ho2 m hm))
 | false=>
   have hus:=fun(H:ar) nx=>kK (H:=H) (nx:=nx) hp
   rw [hu] at hus
   have hrs:=fun(H:ar) nx=>qR (H:=H) (nx:=nx) hp
   cases hr:bP p with
   | false=>
     have hv:dj p=(zeroP,13):=by unfold dj;rw [if_neg (by rw [hu];decide),if_pos (.inl hr)]
     rw [hr] at hrs
     (repeat(first|(apply bj;(exact rfl);(exact rfl);(exact rfl);(exact F.ag _ rfl);(focus(assumption));(exact aG hp))|(apply bF;(exact rfl);(exact rfl);(exact rfl);(exact F.sz _ rfl);(focus(assumption));(exact aG aw);(rw [aG aw];exact th _);(exact da _);(exact cy _ _ aw aw))|refine an ?_|refine ae ?_|refine ac ?_|refine aD ?_|refine ay rfl ?_|refine ax rfl ?_|(apply ai;exact rfl;exact rfl;exact rfl)|(apply bp;exact rfl;exact rfl;exact rfl;exact rfl)|(apply dF;exact rfl)|refine aI rfl rfl rfl rfl (F.sz _ rfl) (by(repeat(first|assumption|refine(Tr.aa _ _ (by omega)).trans ?_));done) rfl (by exact s3 rfl) rfl ?_|(apply cG;exact rfl;exact rfl;exact rfl)|(refine au rfl rfl rfl (by kernel_rfl) (Fnc.mono (hus _ _) ?_);rintro _ rfl;dsimp only)|(refine au rfl rfl rfl (by kernel_rfl) (Fnc.mono (hrs _ _) ?_);rintro _ rfl;dsimp only)|(refine dq rfl rfl ge ?_)))
     ((apply aP Try.func21 (congrArg Array.toList Try.results21));(focus((apply ResIs.cell rfl (LoadIs.many (F.ag _ rfl) (by(repeat(first|exact Tr.ab _ _ _|refine(Tr.aa _ _ (by omega)).trans ?_));done) (cq aw)));apply ResIs.cell rfl (LoadIs.one (F.ag _ rfl) (by(repeat(exact Tr.ab _ _ _));done) (bk rfl));exact ResIs.nil)))
     exact hfin 13 _ _ _ hv (by dsimp only;omega) fun m hm=>(Tr.aa _ _ (by omega)).trans ((Tr.aa _ _ (by omega)).trans (ho2 m hm))
   | true=>
     rw [hr] at hrs
     (repeat(first|(apply bj;(exact rfl);(exact rfl);(exact rfl);(exact F.ag _ rfl);(focus(assumption));(exact aG hp))|refine an ?_|refine ae ?_|refine ac ?_|refine aD ?_|refine ax rfl ?_|(apply ai;exact rfl;exact rfl;exact rfl)|(apply cG;exact rfl;exact rfl;exact rfl)|(refine au rfl rfl rfl (by kernel_rfl) (Fnc.mono (hus _ _) ?_);rintro _ rfl;dsimp only)|(refine au rfl rfl rfl (by kernel_rfl) (Fnc.mono (hrs _ _) ?_);rintro _ rfl;dsimp only)|(refine au rfl rfl rfl (by kernel_rfl) (Fnc.mono (sw hp) ?_);rintro _ rfl;dsimp only)))
     refine cS rfl rfl rfl rfl (fun hk=>?_) (fun hk=>?_)
     ·have hv:dj p=(zeroP,13):=by unfold dj;rw [if_neg (by rw [hu];decide),if_pos (.inr (by omega))]
      (repeat(first|(apply bF;(exact rfl);(exact rfl);(exact rfl);(exact F.sz _ rfl);(focus(assumption));(exact aG aw);(rw [aG aw];exact th _);(exact da _);(exact cy _ _ aw aw))|refine an ?_|refine ae ?_|refine ac ?_|refine ay rfl ?_|(apply aQ;exact rfl;exact rfl;exact rfl;exact rfl)|refine aI rfl rfl rfl rfl (F.sz _ rfl) (by(repeat(first|assumption|refine(Tr.aa _ _ (by omega)).trans ?_));done) rfl (by exact s3 rfl) rfl ?_|(refine dq rfl rfl ge ?_)))
      ((apply aP Try.func21 (congrArg Array.toList Try.results21));(focus((apply ResIs.cell rfl (LoadIs.many (F.ag _ rfl) (by(repeat(first|exact Tr.ab _ _ _|refine(Tr.aa _ _ (by omega)).trans ?_));done) (cq aw)));apply ResIs.cell rfl (LoadIs.one (F.ag _ rfl) (by(repeat(exact Tr.ab _ _ _));done) (bk rfl));exact ResIs.nil)))
      exact hfin 13 _ _ _ hv (by dsimp only;omega) fun m hm=>(Tr.aa _ _ (by omega)).trans ((Tr.aa _ _ (by omega)).trans (ho2 m hm))
     ·have hv:dj p=if pE p=true then(zeroP,13) else(p,0):=by unfold dj;rw [if_neg (by rw [hu];decide),if_neg (by rw [hr];intro h;rcases h with h|h;cases h;omega)]
      (repeat(first|(apply bj;(exact rfl);(exact rfl);(exact rfl);(exact F.ag _ rfl);(focus(assumption));(exact aG hp))|refine an ?_|refine ae ?_|refine ac ?_|refine bf ?_|refine aD ?_|refine ax rfl ?_|(apply aQ;exact rfl;exact rfl;exact rfl;exact rfl)|(refine au rfl rfl rfl (by kernel_rfl) (Fnc.mono (qA hp) ?_);rintro _ rfl;dsimp only)))
      rw [hr]
      obtain⟨q0,hq0⟩: ∃ q0,q0=nx+1+1+1:=⟨_,rfl⟩
      rw [← hq0]
      have m0:((H2.set q0 (pgO p)).set (q0+1) (am 4 [.sc (.bool true)])).at' q0=some (pgO p):=by(focus((repeat(first|exact Tr.ab _ _ _|refine(Tr.aa _ _ (by omega)).trans ?_));done))
      have m1:((H2.set q0 (pgO p)).set (q0+1) (am 4 [.sc (.bool true)])).at' (q0+1)=some (am 4 [.sc (.bool true)]):=Tr.ab _ _ _
      have m4:((H2.set q0 (pgO p)).set (q0+1) (am 4 [.sc (.bool true)])).at' nx=some (pgO zeroP):=by(focus((repeat(first|assumption|refine(Tr.aa _ _ (by omega)).trans ?_));done))
      have m5:((H2.set q0 (pgO p)).set (q0+1) (am 4 [.sc (.bool true)])).at' (nx+1)=some (f8 0):=by(focus((repeat(first|assumption|refine(Tr.aa _ _ (by omega)).trans ?_));done))
      have m6:((H2.set q0 (pgO p)).set (q0+1) (am 4 [.sc (.bool true)])).at' (nx+1+1)=some (pgO p):=by(focus((repeat(first|assumption|refine(Tr.aa _ _ (by omega)).trans ?_));done))
      have mo: ∀ m,m<nx→((H2.set q0 (pgO p)).set (q0+1) (am 4 [.sc (.bool true)])).at' m=H.at' m:=fun m hm=>(Tr.aa _ _ (by omega)).trans ((Tr.aa _ _ (by omega)).trans (ho2 m hm))
      generalize (H2.set q0 (pgO p)).set (q0+1) (am 4 [.sc (.bool true)])=H3 at m0 m1 m4 m5 m6 mo ⊢
      clear ho2 h52 h42 h62 hus hrs hu
      refine j6 [(4,.ptr nx 0),(5,.ptr (nx+1) 0)] rfl rfl (by kernel_rfl) (SlIn.sub (by repeat(first|exact trivial|refine⟨rfl,?_⟩))) ?_
      intro cA cB hcA hcB
      refine Fnc.mono (qz (l:=q0+1+1+1) (f:=q0+1) (q:=q0) hp hr (f2:=21) (nt2:=47) (T2:=slT [(4,.ptr nx 0),(5,.ptr (nx+1) 0)]) (ps:= #[36,37]) (ca:=cA) (cb:=cB) (dr:=q0+1+1) rfl
       (fun j H4 n4=>H4.at' (q0+1+1+1)=some (.loop .ready none 21 47 (slT [(4,.ptr nx 0),(5,.ptr (nx+1) 0)]) #[36,37] cA cB (q0+1+1))∧H4.at' (q0+1)=some (am 4 [.sc (.bool true)])∧H4.at' q0=some (pgO p)∧q0+1+1+1+1≤n4∧H4.at' nx=some (pgO zeroP)∧H4.at' (nx+1)=some (f8 0)∧H4.at' (nx+1+1)=some (pgO p)∧H4.at' (q0+1+1)=some (.dfd (some []))∧(∀ i,i<j→a9 p i≠0→(ofV (ck p i)).isSome=true)∧ ∀ m,m<nx→H4.at' m=H.at' m)
       (fun H4 n4=>H4.at' (q0+1+1+1)=some (.loop .done (some .ret) 21 47 (slT [(4,.ptr nx 0),(5,.ptr (nx+1) 0)]) #[36,37] cA cB (q0+1+1))∧q0≤n4∧H4.at' nx=some (pgO zeroP)∧H4.at' (nx+1)=some (f8 13)∧H4.at' (q0+1+1)=some (.dfd (some []))∧pE p=true∧ ∀ m,m<nx→H4.at' m=H.at' m)
       ?_ ?_ ?_ ?_ ?_) ?_
      ·rintro j H4 n4 ⟨i1,i2,i3,i4,_⟩
       exact⟨i1,i2,i3,by omega,by omega,by omega⟩
      ·rintro j H4 n4 H5 n5 ⟨i1,i2,i3,i4,i5,i6,i7,i8,i9,i10⟩ hle hs
       exact⟨(hs _ (by omega)).trans i1,(hs _ (by omega)).trans i2,(hs _ (by omega)).trans i3,by omega,(hs _ (by omega)).trans i5,(hs _ (by omega)).trans i6,(hs _ (by omega)).trans i7,(hs _ (by omega)).trans i8,i9,fun m hm=>(hs _ (by omega)).trans (i10 m hm)⟩
      ·rintro j H4 n4 ⟨i1,i2,i3,i4,i5,i6,i7,i8,i9,i10⟩ hz
       refine⟨i1,i2,i3,i4,i5,i6,i7,i8,fun i hi hs=>?_,i10⟩
       rcases Nat.lt_or_ge i j with h|h
       ·exact i9 i h hs
       ·obtain rfl:i=j:=by omega
        exact absurd hz hs
      ·rintro j H4 n4 r ⟨i1,i2,i3,i4,i5,i6,i7,i8,i9,i10⟩ hr1 hr2 hj hs hrow
       have hrow2:(H4.set (q0+1+1+1) (.loop .busy none 21 47 (slT [(4,.ptr nx 0),(5,.ptr (nx+1) 0)]) #[36,37] cA cB (q0+1+1))).at' r=some (u8R false (byV (ck p j))):=(Tr.aa _ _ (by omega)).trans hrow
       have hil:(ck p j).length≤1024:=by unfold ck;rw [List.length_take,List.length_drop];omega
       refine pj hcA ?_
       (repeat(first|refine ae ?_|refine ac ?_|(apply ah;exact rfl;exact rfl;exact rfl)))
       refine pN (by assumption) ?_
       refine pj hcB ?_
       (repeat(first|refine an ?_|refine ae ?_|refine bf ?_|(apply ai;exact rfl;exact rfl;exact rfl)))
       refine au rfl rfl rfl (by kernel_rfl) (Fnc.mono (of_s (jk hrow2) (by omega)) ?_)
       rintro⟨_,H5,n5⟩ ⟨s',r',rfl,⟨k,w,rfl,gk,gw⟩,_,g2,g3⟩
       dsimp only at g2 g3 ⊢
       have j1:=(g3 _ (show q0+1+1+1<n4 by omega)).trans (Tr.ab _ _ _)
       have jo: ∀ m,m<n4→m≠q0+1+1+1→H5.at' m=H4.at' m:=fun m h1 h2=>(g3 m h1).trans (Tr.aa _ _ h2)
       have j4:H5.at' nx=some (pgO zeroP):=(jo _ (by omega) (by omega)).trans i5
       have j5:H5.at' (nx+1)=some (f8 0):=(jo _ (by omega) (by omega)).trans i6
       have hone: ∀ x y:Nat,bz (eR k w x y)=true:=fun x y=>by simp only [bz,ic gk.bs,ic gw.bs];rfl
       clear gk gw g3 hrow hrow2
       (repeat(first|refine an ?_|refine ae ?_|refine ac ?_|(apply ai;exact rfl;exact rfl;exact rfl)|(apply ah;exact rfl;exact rfl;exact rfl)|(apply aH;exact rfl;exact rfl;exact rfl;exact rfl)|(apply aZ;exact rfl;exact rfl;exact(F.zl _ rfl))|(refine bF rfl rfl rfl (F.sz _ rfl) (by(repeat(first|assumption|exact Tr.ab _ _ _));done) rfl (by exact s3 rfl) (hone _ _) rfl ?_)))
       cases ho:ofV (ck p j)with
       | none=>
         have hbd:pE p=true:=by
          unfold pE
          rw [List.any_eq_true]
          exact⟨j,List.mem_range.2 hj,by rw [decide_eq_true hs,ho];rfl⟩
         refine cS rfl rfl rfl rfl (fun _=>?_) (fun hq=>absurd hq (by decide))
         (repeat(first|(apply bF;(exact rfl);(exact rfl);(exact rfl);(exact F.sz _ rfl);(focus((focus((repeat(first|assumption|refine(Tr.aa _ _ (by omega)).trans ?_));done))));(exact aG aw);(rw [aG aw];exact th _);(exact da _);(exact cy _ _ aw aw))|refine an ?_|refine ae ?_|refine ac ?_|refine ay rfl ?_|refine aI rfl rfl rfl rfl (F.sz _ rfl) (by(repeat(first|assumption|refine(Tr.aa _ _ (by omega)).trans ?_));done) rfl (by exact s3 rfl) rfl ?_|(refine dq rfl rfl ge ?_)))
         refine lE (by(repeat(first|assumption|refine(Tr.aa _ _ (by omega)).trans ?_));done) (.inr ⟨rfl,Tr.ab _ _ _,by dsimp only;omega,by(focus((repeat(first|exact Tr.ab _ _ _|refine(Tr.aa _ _ (by omega)).trans ?_));done)),by(focus((repeat(first|exact Tr.ab _ _ _|refine(Tr.aa _ _ (by omega)).trans ?_));done)),?_,hbd,fun m hm=>?_⟩)
         ·(focus((repeat(refine(Tr.aa _ _ (by omega)).trans ?_));exact(jo _ (by omega) (by omega)).trans i8))
         ·(focus((repeat(refine(Tr.aa _ _ (by omega)).trans ?_));exact(jo _ (by omega) (by omega)).trans (i10 m hm)))
       | some v=>
         refine cS rfl rfl rfl rfl (fun hq=>absurd rfl hq) (fun _=>?_)
         (repeat(first|refine ac ?_|refine bw ?_|refine aD ?_|refine ax rfl ?_))
         refine lF (by(repeat(first|assumption|refine(Tr.aa _ _ (by omega)).trans ?_));done) (.inl ⟨rfl,⟨Tr.ab _ _ _,?_,?_,by dsimp only;omega,?_,?_,?_,?_,fun i hi hsi=>?_,fun m hm=>?_⟩,by dsimp only;omega,?_⟩)
         ·(focus((repeat(refine(Tr.aa _ _ (by omega)).trans ?_));exact(jo _ (by omega) (by omega)).trans i2))
         ·(focus((repeat(refine(Tr.aa _ _ (by omega)).trans ?_));exact(jo _ (by omega) (by omega)).trans i3))
         ·(focus((repeat(first|assumption|refine(Tr.aa _ _ (by omega)).trans ?_));done))
         ·(focus((repeat(first|assumption|refine(Tr.aa _ _ (by omega)).trans ?_));done))
         ·(focus((repeat(refine(Tr.aa _ _ (by omega)).trans ?_));exact(jo _ (by omega) (by omega)).trans i7))
         ·(focus((repeat(refine(Tr.aa _ _ (by omega)).trans ?_));exact(jo _ (by omega) (by omega)).trans i8))
         ·rcases Nat.lt_or_ge i j with h|h
          ·exact i9 i h hsi
          ·obtain rfl:i=j:=by omega
           rw [ho]
           rfl
         ·(focus((repeat(refine(Tr.aa _ _ (by omega)).trans ?_));exact(jo _ (by omega) (by omega)).trans (i10 m hm)))
         ·(focus((repeat(refine(Tr.aa _ _ (by omega)).trans ?_));exact jo _ (by omega) (by omega)))
      ·exact⟨Tr.ab _ _ _,by(focus((repeat(first|assumption|refine(Tr.aa _ _ (by omega)).trans ?_));done)),by(focus((repeat(first|assumption|refine(Tr.aa _ _ (by omega)).trans ?_));done)),th _,by(focus((repeat(first|assumption|refine(Tr.aa _ _ (by omega)).trans ?_));done)),by(focus((repeat(first|assumption|refine(Tr.aa _ _ (by omega)).trans ?_));done)),by(focus((repeat(first|assumption|refine(Tr.aa _ _ (by omega)).trans ?_));done)),by(focus((repeat(first|exact Tr.ab _ _ _|refine(Tr.aa _ _ (by omega)).trans ?_));done)),fun i hi=>absurd hi (Nat.not_lt_zero _),fun m hm=>(Tr.aa _ _ (by omega)).trans ((Tr.aa _ _ (by omega)).trans (mo m hm))⟩
      ·rintro⟨v,H4,n4⟩ (⟨i1,i2,i3,i4,i5,i6,i7,i8,i9,i10⟩|⟨i1,i4,i5,i6,i8,i9,i10⟩)
       ·dsimp only at i1 i2 i3 i4 i5 i6 i7 i8 i10 ⊢
        have hbad:pE p=false:=by
         unfold pE
         rw [List.any_eq_false]
         intro j hj
         have hj:=List.mem_range.1 hj
         by_cases hz:a9 p j=0
         ·rw [decide_eq_false (fun h=>h hz)];simp
         ·have:=i9 j hj hz
          rw [show(ofV (ck p j)).isNone=false by cases h:ofV (ck p j)with|none=>rw [h] at this;cases this|some _=>rfl]
          simp
        rw [hbad] at hv
        refine gY i1 (fun h=>by cases h) ?_
        dsimp only [fR]
        have h6: ∀ vo,(H4.set (q0+1+1+1) vo).at' (nx+1+1)=some (pgO p):=fun vo=>(Tr.aa _ _ (by omega)).trans i7
        have h4: ∀ vo,(H4.set (q0+1+1+1) vo).at' nx=some (pgO zeroP):=fun vo=>(Tr.aa _ _ (by omega)).trans i5
        (repeat(first|(apply bj;(exact rfl);(exact rfl);(exact rfl);(exact F.ag _ rfl);(focus((focus((repeat(first|assumption|refine(Tr.aa _ _ (by omega)).trans ?_));done))));(exact aG hp))|(apply bF;(exact rfl);(exact rfl);(exact rfl);(exact F.sz _ rfl);(focus((focus((repeat(first|assumption|refine(Tr.aa _ _ (by omega)).trans ?_));done))));(exact aG hp);(rw [aG aw];exact th _);(exact da _);(exact cy _ _ aw hp))|refine an ?_|refine ae ?_|refine ac ?_|refine bw ?_|refine aI rfl rfl rfl rfl (F.sz _ rfl) (by(repeat(first|assumption|refine(Tr.aa _ _ (by omega)).trans ?_));done) rfl (by exact s3 rfl) rfl ?_))
        refine pg Try.func21 (congrArg Array.toList Try.results21) (rs:= [q0+1+1]) rfl (fun r hr=>by rw [List.mem_singleton.1 hr];(focus((repeat(first|assumption|refine(Tr.aa _ _ (by omega)).trans ?_));done))) (by simp) ?_
        intro H7 hH7
        have hno: ∀ m,m≤nx+1→m∉ [q0+1+1]:=fun m hm h=>by have:=List.mem_singleton.1 h;omega
        have g4:H7.at' nx=some (pgO p):=(hH7 nx (hno _ (by omega))).trans (by(repeat(first|exact Tr.ab _ _ _|refine(Tr.aa _ _ (by omega)).trans ?_));done)
        have g5:H7.at' (nx+1)=some (f8 0):=(hH7 _ (hno _ (by omega))).trans (by(repeat(exact Tr.ab _ _ _));done)
        refine⟨_,(by((apply ResIs.cell rfl (LoadIs.many (F.ag _ rfl) (by assumption) (cq hp)));apply ResIs.cell rfl (LoadIs.one (F.ag _ rfl) (by assumption) (bk rfl));exact ResIs.nil)),?_⟩
        exact hfin 0 _ _ _ (hv.trans (if_neg (by decide))) (by dsimp only;omega) fun m hm=>(hH7 m (hno _ (by omega))).trans (by(repeat(refine(Tr.aa _ _ (by omega)).trans ?_));exact i10 m hm)
       ·dsimp only at i1 i4 i5 i6 i8 i10 ⊢
        refine gY i1 (fun h=>by cases h) ?_
        dsimp only [fR]
        refine pg Try.func21 (congrArg Array.toList Try.results21) (rs:= [q0+1+1]) rfl (fun r hr=>by rw [List.mem_singleton.1 hr];(focus((repeat(first|assumption|refine(Tr.aa _ _ (by omega)).trans ?_));done))) (by simp) ?_
        intro H7 hH7
        have hno: ∀ m,m≤nx+1→m∉ [q0+1+1]:=fun m hm h=>by have:=List.mem_singleton.1 h;omega
        have g4:H7.at' nx=some (pgO zeroP):=(hH7 nx (hno _ (by omega))).trans (by(repeat(first|assumption|refine(Tr.aa _ _ (by omega)).trans ?_));done)
        have g5:H7.at' (nx+1)=some (f8 13):=(hH7 _ (hno _ (by omega))).trans (by(repeat(first|assumption|refine(Tr.aa _ _ (by omega)).trans ?_));done)
        refine⟨_,(by((apply ResIs.cell rfl (LoadIs.many (F.ag _ rfl) (by assumption) (cq aw)));apply ResIs.cell rfl (LoadIs.one (F.ag _ rfl) (by assumption) (bk rfl));exact ResIs.nil)),?_⟩
        exact hfin 13 _ _ _ (hv.trans (if_pos i9)) (by dsimp only;omega) fun m hm=>(hH7 m (hno _ (by omega))).trans (by(repeat(refine(Tr.aa _ _ (by omega)).trans ?_));exact i10 m hm)
theorem pp{H:ar}{nx b n:Nat}{mem:List UInt8}{left puts:Int}(hb:H.at' b=some (eP mem left puts))(hm:mem.length=131072)(hn:n<128):Fnc Try.prog 21 [rT b,.sc (.int .i64 (n:Int))] H nx (fun q=>q=(pgE (dj (eE mem n)),H,nx)):=Fnc.bT (kU _) (sa hb hm hn)
abbrev ir(a b:Int):VO:=am 23 [.sc (.int .i64 a),.sc (.int .i64 b)]
abbrev bsO(s:SV):VO:=am 27 [s]
theorem sB{H:ar}{nx bc t to n:Nat}{s:SV}{p it x0 p':List UInt8}{slot:Nat}{a0 a1:Int}(hbc:H.at' bc=some (bsO s))(hs:BsIs H s (byV it))(hp:p.length=1024)(ht:H.at' t=some (ir a0 a1))(hto:H.at' to=some (pgO x0))(hx0:x0.length=1024)(hne:t≠to)(hit:it.length≤1000)
 (hroom:it.length≤gW p) (hins:jB p it=(p',slot,0)) (hp':p'.length=1024):Fnc Try.prog 15 [.sc (.int .i64 (n:Int)),.agg (pgS p),.ptr bc 0,.ptr t 0,.ptr to 0] H nx
 (fun q=>q.1 = .tup [.sc (.bool true),.sc (.int .i64 0)]∧q.2.1.at' t=some (ir n slot)∧q.2.1.at' to=some (pgO p')∧nx≤q.2.2∧ ∀ m,m<nx→m≠t→m≠to→q.2.1.at' m=H.at' m):=by
 refine Fnc.start Try.func15 rfl rfl ?_
 refine bv fun hund=>?_
 have l1:=hund _ _ hbc
 have l2:=hund _ _ ht
 have l3:=hund _ _ hto
 have hs1:BsIs (H.set nx (pgO p)) s (byV it):=hs.frame fun b vo hb=>(Tr.aa _ _ (by have:=hund b vo hb;omega)).trans hb
 have hbc1:(H.set nx (pgO p)).at' bc=some (bsO s):=by(focus((repeat(first|assumption|refine(Tr.aa _ _ (by omega)).trans ?_));done))
 have ht1:(H.set nx (pgO p)).at' t=some (ir a0 a1):=by(focus((repeat(first|assumption|refine(Tr.aa _ _ (by omega)).trans ?_));done))
 have hto1:(H.set nx (pgO p)).at' to=some (pgO x0):=by(focus((repeat(first|assumption|refine(Tr.aa _ _ (by omega)).trans ?_));done))
 have hb1:(H.set nx (pgO p)).at' nx=some (pgO p):=Tr.ab _ _ _
 have ho1: ∀ m,m<nx→(H.set nx (pgO p)).at' m=H.at' m:=fun m hm=>by(focus((repeat(refine(Tr.aa _ _ (by omega)).trans ?_));exact rfl))
 (repeat(first|refine an ?_|refine ae ?_|refine ac ?_|(apply ah;exact rfl;exact rfl;exact rfl)|(apply ce;exact rfl;exact rfl;exact rfl)))
 generalize H.set nx (pgO p)=H1 at hs1 hbc1 ht1 hto1 hb1 ho1 ⊢
 have hbl:=bM it
 (apply j8;(focus(kernel_rfl));(focus(kernel_rfl)))
 (repeat(first|(refine gH rfl rfl rfl (F.ag _ rfl) hb1 (aG hp) ?_)|((apply kr;exact rfl;exact rfl;exact rfl;(focus(kernel_rfl));exact(sS hp)))|(refine jL rfl rfl rfl (F.ag _ rfl) hbc1 rfl ?_)|(apply cW;exact rfl;exact rfl;exact(fun _ h=>by cases h);exact(iy (F.un _ rfl) rfl hs1))|(refine qJ rfl rfl rfl rfl (fun hq=>absurd hq (by omega)) (fun _=>?_))))
 (refine ll ?_);(refine⟨by kernel_rfl,?_,?_⟩);(focus(repeat(first|exact trivial|refine⟨.inl (gJ rfl),?_⟩|refine⟨.inr ⟨0,by kernel_rfl,(by(refine⟨(by first|exact dV (F.ag _ rfl) rfl (by assumption) (bk rfl)|exact cL (F.ag _ rfl) rfl hb1 (cq hp)|exact iy (F.un _ rfl) rfl hs1),?_⟩;(repeat(refine⟨(by first|exact dV (F.ag _ rfl) rfl (by assumption) (bk rfl)|exact cL (F.ag _ rfl) rfl hb1 (cq hp)|exact iy (F.un _ rfl) rfl hs1),?_⟩));exact trivial))⟩,?_⟩|refine⟨.inl (by kernel_rfl),?_⟩)))
 have hi1:=oN (nx:=nx+1) hp hs1 (by omega)
 rw [hins] at hi1
 (repeat(first|(apply bj;(exact rfl);(exact rfl);(exact rfl);(exact F.ag _ rfl);(focus(assumption));(exact aG hp))|(apply bF;(exact rfl);(exact rfl);(exact rfl);(exact F.sz _ rfl);(focus((focus((repeat(exact Tr.ab _ _ _));done))));(exact aG hp');(rw [aG aw];exact th _);(exact da _);(exact cy _ _ aw hp'))|(refine aZ rfl rfl ik ?_)|refine an ?_|refine ae ?_|refine ac ?_|refine aD ?_|refine ax rfl ?_|(apply ai;exact rfl;exact rfl;exact rfl)|(apply ah;exact rfl;exact rfl;exact rfl)|(apply aH;exact rfl;exact rfl;exact rfl;exact rfl)|refine bg rfl rfl rfl (F.ag _ rfl) (by assumption) (by exact rfl) ?_|(refine au rfl rfl rfl (by kernel_rfl) (Fnc.mono (hi1) ?_);rintro _ rfl;dsimp only)|(refine cS rfl rfl rfl rfl (fun hq=>absurd rfl hq) (fun _=>?_))))
 have hb2:((H1.set (nx+1) (pgO zeroP)).set (nx+1) (pgO p')).at' (nx+1)=some (pgO p'):=Tr.ab _ _ _
 have ht2:((H1.set (nx+1) (pgO zeroP)).set (nx+1) (pgO p')).at' t=some (ir a0 a1):=by(focus((repeat(first|assumption|refine(Tr.aa _ _ (by omega)).trans ?_));done))
 have hto2:((H1.set (nx+1) (pgO zeroP)).set (nx+1) (pgO p')).at' to=some (pgO x0):=by(focus((repeat(first|assumption|refine(Tr.aa _ _ (by omega)).trans ?_));done))
 have ho2: ∀ m,m<nx→((H1.set (nx+1) (pgO zeroP)).set (nx+1) (pgO p')).at' m=H.at' m:=fun m hm=>(Tr.aa _ _ (by omega)).trans ((Tr.aa _ _ (by omega)).trans (ho1 m hm))
 generalize (H1.set (nx+1) (pgO zeroP)).set (nx+1) (pgO p')=H2 at hb2 ht2 hto2 ho2 ⊢
 (apply j8;(focus(kernel_rfl));(focus(kernel_rfl)))
 (repeat(first|(refine gH rfl rfl rfl (F.ag _ rfl) hb2 (aG hp') ?_)|(refine gG rfl rfl rfl (F.sz _ rfl) ht2 rfl (by exact s3 rfl) rfl rfl ?_)|((apply gG;exact rfl;exact rfl;exact rfl;exact(F.sz _ rfl);exact((Tr.aa _ _ (Ne.symm hne)).trans hto2);exact(aG hp');(focus(rw [aG hx0];exact th _));exact(da _);exact(cy _ _ hx0 hp')))|(apply kq;exact rfl;exact rfl;exact rfl)|(apply oT;exact rfl;exact rfl;exact rfl;exact(F.ze _ rfl);exact(F.pl _ rfl);exact rfl)))
 (refine ll ?_);(refine⟨by kernel_rfl,?_,?_⟩);(focus(repeat(first|exact trivial|refine⟨.inl (gJ rfl),?_⟩|refine⟨.inr ⟨0,by kernel_rfl,AllH.all (fun _=>(by first|exact gr rfl|exact iB rfl (F.ze _ rfl) (F.pl _ rfl) rfl)) _⟩,?_⟩|refine⟨.inr ⟨0,by kernel_rfl,(by(refine⟨(by(exact cL (F.ag _ rfl) rfl (by(repeat(first|assumption|refine(Tr.aa _ _ (by omega)).trans ?_));done) (cq hp'))),?_⟩;(repeat(refine⟨(by(exact cL (F.ag _ rfl) rfl (by(repeat(first|assumption|refine(Tr.aa _ _ (by omega)).trans ?_));done) (cq hp'))),?_⟩));exact trivial))⟩,?_⟩)))
 (repeat(first|refine an ?_|refine ae ?_|refine ac ?_|(apply ah;exact rfl;exact rfl;exact rfl)))
 ((apply aP Try.func15 (congrArg Array.toList Try.results15));(focus(repeat(first|exact ResIs.nil|apply ResIs.tmp rfl))))
 refine⟨rfl,(Tr.aa _ _ hne).trans (Tr.ab _ _ _),Tr.ab _ _ _,by dsimp only;omega,fun m h1 h2 h3=>(Tr.aa _ _ h3).trans ((Tr.aa _ _ h2).trans (ho2 m h1))⟩
abbrev insF(bc t to:Nat):SV:= .fn (.func 15) [] [.ptr bc 0,.ptr t 0,.ptr to 0]
theorem oS{H:ar}{nx b bc t to:Nat}{s:SV}{mem p it x0 p':List UInt8}{slot:Nat}{a0 a1 left puts:Int}(hb:H.at' b=some (eP mem left puts))(hm:mem.length=131072)(hbc:H.at' bc=some (bsO s))(hs:BsIs H s (byV it))(hp:p.length=1024)(ht:H.at' t=some (ir a0 a1))(hto:H.at' to=some (pgO x0))(hx0:x0.length=1024)(hne:t≠to)(hit:it.length≤1000)
 (hread:dj (eE mem 32)=(p,0)) (hroom:it.length≤gW p) (hins:jB p it=(p',slot,0)) (hp':p'.length=1024):Fnc Try.prog 14 [rT b,insF bc t to] H nx
 (fun q=>q.1 = .sc (.int .i64 0)∧q.2.1.at' t=some (ir 32 slot)∧q.2.1.at' to=some (pgO p')∧nx≤q.2.2∧ ∀ m,m<nx→m≠t→m≠to→q.2.1.at' m=H.at' m):=by
 refine Fnc.start Try.func14 rfl rfl ?_
 refine bv fun hund=>?_
 have l1:=hund _ _ hbc
 have l2:=hund _ _ ht
 have l3:=hund _ _ hto
 have hrd:=pp (nx:=nx) (n:=32) hb hm (by decide)
 rw [hread] at hrd
 (repeat(first|refine an ?_|refine ae ?_|refine ac ?_|refine bf ?_|(apply ah;exact rfl;exact rfl;exact rfl)))
 refine kD ?_
 (repeat(first|(apply bF;(exact rfl);(exact rfl);(exact rfl);(exact F.sz _ rfl);(focus((focus((repeat(exact Tr.ab _ _ _));done))));(exact aG hp);(rw [aG aw];exact th _);(exact da _);(exact cy _ _ aw hp))|(refine aZ rfl rfl ik ?_)|refine an ?_|refine ae ?_|refine ac ?_|refine bf ?_|refine aD ?_|refine ay rfl ?_|refine ax rfl ?_|(apply ai;exact rfl;exact rfl;exact rfl)|(apply ah;exact rfl;exact rfl;exact rfl)|(apply aH;exact rfl;exact rfl;exact rfl;exact rfl)|(refine bC rfl rfl rfl rfl (fun _=>?_) (fun hq=>absurd hq (by decide)))|(refine au rfl rfl rfl (by kernel_rfl) (Fnc.mono (hrd) ?_);rintro _ rfl;dsimp only)|(refine cS rfl rfl rfl rfl (fun hq=>absurd rfl hq) (fun _=>?_))))
 have h0: ∀ m,m<nx→((H.set nx (pgO zeroP)).set nx (pgO p)).at' m=H.at' m:=fun m hm=>(Tr.aa _ _ (by omega)).trans (Tr.aa _ _ (by omega))
 have hb6:((H.set nx (pgO zeroP)).set nx (pgO p)).at' nx=some (pgO p):=Tr.ab _ _ _
 generalize (H.set nx (pgO zeroP)).set nx (pgO p)=H1 at h0 hb6 ⊢
 (repeat(apply bj;(exact rfl);(exact rfl);(exact rfl);(exact F.ag _ rfl);(focus(assumption));(exact aG hp)))
 refine gj rfl rfl rfl rfl (by kernel_rfl) (Fnc.mono (sB (n:=32) ((h0 _ l1).trans hbc) (hs.frame fun b' vo hb'=>(h0 _ (hund _ _ hb')).trans hb') hp ((h0 _ l2).trans ht) ((h0 _ l3).trans hto) hx0 hne hit hroom hins hp') ?_)
 rintro⟨_,H2,n2⟩ ⟨rfl,g1,g2,g3,g4⟩
 dsimp only at g1 g2 g3 g4 ⊢
 (repeat(first|refine an ?_|refine ae ?_|refine ac ?_|refine ay rfl ?_|(apply ai;exact rfl;exact rfl;exact rfl)|(apply ah;exact rfl;exact rfl;exact rfl)|(apply bp;exact rfl;exact rfl;exact rfl;exact rfl)|(apply aH;exact rfl;exact rfl;exact rfl;exact rfl)|(apply dF;exact rfl)))
 ((apply aP Try.func14 (congrArg Array.toList Try.results14));(focus(repeat(first|exact ResIs.nil|apply ResIs.tmp rfl))))
 exact⟨rfl,g1,g2,by dsimp only;omega,fun m h1 h2 h3=>(g4 m (by omega) h2 h3).trans (h0 m h1)⟩
theorem sC{H:ar}{nx a b:Nat}:Fnc Try.prog 12 [.ptr a 0,.ptr b 0] H nx (fun q=>q=(.tup [],H,nx)):=by
 refine Fnc.start Try.func12 rfl rfl ?_
 (repeat(first|refine an ?_|refine ae ?_|refine ac ?_|refine aD ?_|refine ax rfl ?_|((apply cx;exact rfl;exact rfl))|(refine cZ rfl rfl rfl Try.underlying20 ?_)))
 ((apply gg Try.func12 (congrArg Array.toList Try.results12));(focus(repeat(exact ResIs.nil))))
 rfl
theorem hK{H:ar}{nx b:Nat}{s:SV}{v:gQ}{mem p p':List UInt8}{slot:Nat}{left puts:Int}(hb:H.at' b=some (eP mem left puts))(hm:mem.length=131072)(hv:VerIs H s v)(hmay:pq v=true)(hp:p.length=1024)(hleft:left≠0)(hl2 : -1000000000≤left∧left≤1000000000)(hputs : -1000000000≤puts∧puts≤1000000000)
 (hread:dj (eE mem 32)=(p,0)) (hroom:(cJ v).length≤gW p) (hins:jB p (cJ v)=(p',slot,0)) (hp':p'.length=1024):Fnc Try.prog 4 [rT b,s] H nx
 (fun q=>q.1 = .tup [.agg [.sc (.int .i64 32),.sc (.int .i64 (slot:Int))],.sc (.int .i64 0)]∧q.2.1.at' b=some (eP (og mem 32 p') (left-1) (puts+1))∧nx≤q.2.2∧ ∀ m,m<nx→m≠b→q.2.1.at' m=H.at' m):=by
 have hv0:=hv
 obtain⟨k,w,rfl,hk,hw⟩:=hv
 have hbl:=hY v
 have hmd:=of_decide_eq_true hmay
 refine Fnc.start Try.func4 rfl rfl ?_
 refine bv fun hund=>?_
 have lb:=hund _ _ hb
 (repeat(first|refine an ?_|refine ae ?_|refine ac ?_|(apply ai;exact rfl;exact rfl;exact rfl)|(apply bH;exact rfl;exact rfl;exact rfl;exact rfl)|(apply aZ;exact rfl;exact rfl;exact(F.zl _ rfl))|(apply ce;exact rfl;exact rfl;exact rfl)|((apply dG;exact rfl;exact rfl;exact rfl;(focus(kernel_rfl))))))
 have hvb:((H.set nx (fN (eR k w v.2.2.1 v.2.2.2))).set (nx+1) (ir 0 0)).set (nx+1+1) (f8 0)=((H.set nx (fN (eR k w v.2.2.1 v.2.2.2))).set (nx+1) (ir 0 0)).set (nx+1+1) (f8 0):=rfl
 have a3:(((H.set nx (fN (eR k w v.2.2.1 v.2.2.2))).set (nx+1) (ir 0 0)).set (nx+1+1) (f8 0)).at' nx=some (fN (eR k w v.2.2.1 v.2.2.2)):=by(focus((repeat(first|exact Tr.ab _ _ _|refine(Tr.aa _ _ (by omega)).trans ?_));done))
 have a4:(((H.set nx (fN (eR k w v.2.2.1 v.2.2.2))).set (nx+1) (ir 0 0)).set (nx+1+1) (f8 0)).at' (nx+1)=some (ir 0 0):=by(focus((repeat(first|exact Tr.ab _ _ _|refine(Tr.aa _ _ (by omega)).trans ?_));done))
 have a5:(((H.set nx (fN (eR k w v.2.2.1 v.2.2.2))).set (nx+1) (ir 0 0)).set (nx+1+1) (f8 0)).at' (nx+1+1)=some (f8 0):=by(focus((repeat(exact Tr.ab _ _ _));done))
 have ao: ∀ m,m<nx→(((H.set nx (fN (eR k w v.2.2.1 v.2.2.2))).set (nx+1) (ir 0 0)).set (nx+1+1) (f8 0)).at' m=H.at' m:=fun m hm=>by(focus((repeat(refine(Tr.aa _ _ (by omega)).trans ?_));exact rfl))
 generalize ((H.set nx (fN (eR k w v.2.2.1 v.2.2.2))).set (nx+1) (ir 0 0)).set (nx+1+1) (f8 0)=H1 at a3 a4 a5 ao ⊢
 clear hvb
 (repeat(first|refine an ?_|refine ae ?_|refine ac ?_|refine aD ?_|refine ax rfl ?_|refine bj rfl rfl rfl (F.ag _ rfl) (by assumption) (by exact rfl) ?_|(refine fl rfl rfl rfl rfl Try.underlying43 rfl ?_)))
 refine au rfl rfl rfl (by kernel_rfl) (Fnc.mono (qN (hv0.frame fun b' vo hb'=>(ao _ (hund _ _ hb')).trans hb') hmay) ?_)
 rintro⟨_,H2,n2⟩ ⟨r,rfl,b1,b2,b3,b4⟩
 dsimp only at b1 b3 b4 ⊢
 have b5:=(b4 _ (show nx+1+1<nx+1+1+1 by omega)).trans a5
 have b6:=(b4 _ (show nx+1<nx+1+1+1 by omega)).trans a4
 have bo: ∀ m,m<nx→H2.at' m=H.at' m:=fun m hm=>(b4 m (by omega)).trans (ao m hm)
 clear a3 a4 a5 ao b4
 (repeat(first|(refine aZ rfl rfl ik ?_)|refine an ?_|refine ae ?_|refine ac ?_|refine aD ?_|refine ax rfl ?_|(apply ai;exact rfl;exact rfl;exact rfl)|(apply aH;exact rfl;exact rfl;exact rfl;exact rfl)|(apply bH;exact rfl;exact rfl;exact rfl;exact rfl)|refine aI rfl rfl rfl rfl (F.sz _ rfl) (by(repeat(first|assumption|exact Tr.ab _ _ _|refine(Tr.aa _ _ (by omega)).trans ?_));done) rfl (by exact s3 rfl) rfl ?_|(apply aZ;exact rfl;exact rfl;exact(F.zl _ rfl))|refine bg rfl rfl rfl (F.ag _ rfl) (by(repeat(first|assumption|exact Tr.ab _ _ _));done) (by exact rfl) ?_|(refine cS rfl rfl rfl rfl (fun hq=>absurd rfl hq) (fun _=>?_))))
 refine bv fun hund3=>?_
 refine au rfl rfl rfl (by kernel_rfl) (Fnc.mono (oS (t:=nx+1) (to:=n2+1) (bc:=n2) (by(repeat(refine(Tr.aa _ _ (by omega)).trans ?_));exact(bo b lb).trans hb) hm (by(repeat(first|exact Tr.ab _ _ _|refine(Tr.aa _ _ (by omega)).trans ?_));done) (jk (by(repeat(refine(Tr.aa _ _ (by omega)).trans ?_));exact b1)) hp (by(repeat(first|assumption|refine(Tr.aa _ _ (by omega)).trans ?_));done) (by(repeat(exact Tr.ab _ _ _));done) aw (by omega) (by omega) hread hroom hins hp') ?_)
 rintro⟨_,H4,n4⟩ ⟨rfl,c1,c2,c3,c4⟩
 dsimp only at c1 c2 c3 c4 ⊢
 have c5:H4.at' (nx+1+1)=some (f8 0):=(c4 _ (by omega) (by omega) (by omega)).trans (by(repeat(first|exact Tr.ab _ _ _|refine(Tr.aa _ _ (by omega)).trans ?_));done)
 have cb:H4.at' b=some (eP mem left puts):=(c4 _ (by omega) (by omega) (by omega)).trans (by(repeat(refine(Tr.aa _ _ (by omega)).trans ?_));exact(bo b lb).trans hb)
 have co: ∀ m,m<nx→H4.at' m=H.at' m:=fun m hm=>(c4 _ (by omega) (by omega) (by omega)).trans (by(repeat(refine(Tr.aa _ _ (by omega)).trans ?_));exact bo m hm)
 clear c4 b1 b5 b6 bo hund3
 (repeat(first|(apply bj;(exact rfl);(exact rfl);(exact rfl);(exact F.ag _ rfl);(focus((focus((repeat(first|assumption|refine(Tr.aa _ _ (by omega)).trans ?_));done))));(exact aG hp'))|refine an ?_|refine ae ?_|refine ac ?_|refine aD ?_|refine ay rfl ?_|refine ax rfl ?_|(apply ai;exact rfl;exact rfl;exact rfl)|(apply bp;exact rfl;exact rfl;exact rfl;exact rfl)|(apply aF;exact rfl;exact rfl;exact rfl;exact(F.fo _ _ rfl rfl))|refine aI rfl rfl rfl rfl (F.sz _ rfl) (by assumption) rfl (by exact s3 rfl) rfl ?_|refine bg rfl rfl rfl (F.ag _ rfl) (by(repeat(first|assumption|exact Tr.ab _ _ _|refine(Tr.aa _ _ (by omega)).trans ?_));done) (by exact rfl) ?_|(refine cI rfl rfl rfl rfl (fun hq=>absurd hq (by decide)) (fun _=>?_))|(refine cI rfl rfl rfl rfl (fun _=>?_) (fun hq=>absurd rfl hq))))
 refine kH 109 rfl rfl rfl rfl (by kernel_rfl) (Fnc.mono (sg (n:=32) (by(repeat(first|assumption|refine(Tr.aa _ _ (by omega)).trans ?_));done) hm (by decide) hp' hleft hl2 hputs) ?_)
 rintro⟨_,H5,n5⟩ ⟨rfl,d1,d2,d3⟩
 dsimp only at d1 d2 d3 ⊢
 have d4:H5.at' (nx+1)=some (ir 32 slot):=(d3 _ (by omega) (by omega)).trans (by(repeat(first|assumption|refine(Tr.aa _ _ (by omega)).trans ?_));done)
 have d5:H5.at' (nx+1+1)=some (f8 0):=(d3 _ (by omega) (by omega)).trans (by(repeat(exact Tr.ab _ _ _));done)
 have dold: ∀ m,m<nx→m≠b→H5.at' m=H.at' m:=fun m hm hmb=>(d3 _ (by omega) hmb).trans (by(repeat(refine(Tr.aa _ _ (by omega)).trans ?_));exact co m hm)
 clear c1 c2 c5 cb co d3
 (repeat(first|refine an ?_|refine ae ?_|refine ac ?_|refine aD ?_|refine ax rfl ?_|refine aI rfl rfl rfl rfl (F.sz _ rfl) (by(repeat(first|assumption|exact Tr.ab _ _ _|refine(Tr.aa _ _ (by omega)).trans ?_));done) rfl (by exact s3 rfl) rfl ?_|refine bg rfl rfl rfl (F.ag _ rfl) (by(repeat(first|assumption|exact Tr.ab _ _ _|refine(Tr.aa _ _ (by omega)).trans ?_));done) (by exact rfl) ?_|refine bj rfl rfl rfl (F.ag _ rfl) (by(repeat(first|assumption|refine(Tr.aa _ _ (by omega)).trans ?_));done) (by exact rfl) ?_|(refine cS rfl rfl rfl rfl (fun hq=>absurd rfl hq) (fun _=>?_))))
 refine fF Try.func4 (congrArg Array.toList Try.results4) (by kernel_rfl) (Fnc.mono sC ?_)
 rintro _ rfl
 refine⟨_,(by(repeat(first|exact ResIs.nil|apply ResIs.cell rfl (LoadIs.one (F.ag _ rfl) (by(repeat(first|exact Tr.ab _ _ _|refine(Tr.aa _ _ (by omega)).trans ?_));done) (bk rfl))|apply ResIs.cell rfl (LoadIs.many (F.ag _ rfl) (by(repeat(first|exact Tr.ab _ _ _|refine(Tr.aa _ _ (by omega)).trans ?_));done) (aL _ 0 rfl rfl))))),?_⟩
 dsimp only
 exact⟨rfl,by(focus((repeat(refine(Tr.aa _ _ (by omega)).trans ?_));exact d1)),by omega,fun m h1 h2=>by(focus((repeat(refine(Tr.aa _ _ (by omega)).trans ?_));exact dold m h1 h2))⟩
theorem qB{H:ar}{nx n:Nat}{p:List UInt8}(hp:p.length=1024)(hr:bP p=true)(hn:n<aE p)(hs:a9 p n≠0):Fnc Try.prog 22 [.agg (pgS p),.sc (.int .i64 (n:Int))] H nx (fun q=> ∃ r,q.1 = .tup [.slu r 0 (ck p n).length,.sc (.int .i64 0)]∧q.2.1.at' r=some (u8R false (byV (ck p n)))∧nx≤r∧r<q.2.2∧ ∀ m,m<nx→q.2.1.at' m=H.at' m):=by
 have hb:=gq hr hn hs
 have hil:=jz hp hb.2.2.2
 have hbl:=bM (ck p n)
 have hfd:ko p n=(aX p n,a9 p n,0):=by unfold ko;rw [if_neg (by omega),if_neg hs]
 refine Fnc.start Try.func22 rfl rfl ?_
 have hb1:(H.set nx (pgO p)).at' nx=some (pgO p):=Tr.ab _ _ _
 have hrs:=fun nx'=>fm (nx:=nx') hb1 hp
 rw [hr] at hrs
 have hfs: ∀ nx',Fnc Try.prog 55 [.ptr nx 0,.sc (.int .i64 (n:Int))] (H.set nx (pgO p)) nx' (fun q=>q=(.tup [.sc (.int .i64 (aX p n:Int)),.sc (.int .i64 (a9 p n:Int)),.sc (.int .i64 0)],H.set nx (pgO p),nx')):=fun nx'=>by
  have:=sI (nx:=nx') (n:=n) hb1 (dZ hp hr)
  rw [hfd] at this
  exact this
 (repeat(first|refine an ?_|refine ae ?_|refine ac ?_|refine aD ?_|refine ax rfl ?_|(apply ai;exact rfl;exact rfl;exact rfl)|(apply ah;exact rfl;exact rfl;exact rfl)|(apply aH;exact rfl;exact rfl;exact rfl;exact rfl)|(apply ce;exact rfl;exact rfl;exact rfl)|(apply cn;exact rfl;exact rfl;exact rfl;exact rfl;(focus(omega));(focus(omega)))|(apply cG;exact rfl;exact rfl;exact rfl)|(refine au rfl rfl rfl (by kernel_rfl) (Fnc.mono (hrs _) ?_);rintro _ rfl;dsimp only)|(refine bC rfl rfl rfl rfl (fun hq=>absurd hq (by omega)) (fun _=>?_))|(refine au rfl rfl rfl (by kernel_rfl) (Fnc.mono (hfs _) ?_);rintro _ rfl;dsimp only)|(refine cS rfl rfl rfl rfl (fun hq=>absurd rfl hq) (fun _=>?_))|((apply gh (lw:=aX p n) (hg:=aX p n+a9 p n);exact rfl;exact rfl;exact rfl;exact(F.un _ rfl);exact(F.sz _ rfl);exact rfl;exact rfl;(focus(omega));(focus(omega));(focus(omega));exact(show aX p n+a9 p n-aX p n=a9 p n by omega);exact rfl;exact(Nat.zero_add _)))|(apply cd;exact rfl;exact rfl;exact(F.un _ rfl);exact(F.sz _ rfl);exact rfl;exact(F.ze _ rfl);exact rfl;exact rfl;exact rfl;exact rfl;exact rfl)))
 refine au rfl rfl rfl (by kernel_rfl) (Fnc.mono (jy (bs:= [byV (ck p n)]) (ls:= [.sl nx (aX p n) (a9 p n) (1024-aX p n)]) (Tr.ab _ _ _) (LsIs.cons (kB (b:=nx) (p:=p) (o:=aX p n) (m:=a9 p n) ((Tr.aa _ _ (Nat.ne_of_lt (Nat.lt_succ_self _))).trans hb1) (by omega)) (LsIs.nil _)) (by show(byV (ck p n) ++ []).length≤_;rw [List.append_nil];omega) (s3 rfl)) ?_)
 rintro _ rfl
 dsimp only
 have hfl: [byV (ck p n)].flatten=byV (ck p n):=List.append_nil _
 rw [hfl,bM]
 (repeat(first|refine ac ?_|(apply ah;exact rfl;exact rfl;exact rfl)))
 ((apply aP Try.func22 (congrArg Array.toList Try.results22));(focus(repeat(first|exact ResIs.nil|apply ResIs.tmp rfl))))
 exact⟨nx+1+1,rfl,Tr.ab _ _ _,by omega,Nat.lt_succ_self _,fun m hm=>by(focus((repeat(refine(Tr.aa _ _ (by omega)).trans ?_));exact rfl))⟩
theorem qu{H:ar}{nx n k:Nat}(h1:32≤n)(h2:n<128):Fnc Try.prog 20 [.agg [.sc (.int .i64 (n:Int)),.sc (.int .i64 (k:Int))]] H nx (fun q=>q=(.sc (.bool true),H,nx)):=by
 refine Fnc.bT (Free.sc _) ?_
 refine Fnc.start Try.func20 rfl rfl ?_
 (repeat(first|refine an ?_|refine ae ?_|refine ac ?_|(apply ai;exact rfl;exact rfl;exact rfl)|(apply ah;exact rfl;exact rfl;exact rfl)|(apply bp;exact rfl;exact rfl;exact rfl;exact rfl)|(apply aF;exact rfl;exact rfl;exact rfl;exact(F.fo _ _ rfl rfl))|(apply ce;exact rfl;exact rfl;exact rfl)|refine bg rfl rfl rfl (F.ag _ rfl) (by(repeat(exact Tr.ab _ _ _));done) (by exact rfl) ?_|(refine kJ rfl rfl rfl rfl (fun _=>?_) (fun hq=>absurd hq (by omega)))|(refine bC rfl rfl rfl rfl (fun _=>?_) (fun hq=>absurd hq (by omega)))))
 ((apply aP Try.func20 (congrArg Array.toList Try.results20));(focus(repeat(first|exact ResIs.nil|apply ResIs.tmp rfl))))
 exact⟨rfl,tz _,fun m hm=>Tr.aa _ _ (by omega)⟩
theorem sG{H:ar}{nx a b:Nat}:Fnc Try.prog 19 [.ptr a 0,.ptr b 0] H nx (fun q=>q=(.tup [],H,nx)):=by
 refine Fnc.start Try.func19 rfl rfl ?_
 (repeat(first|refine an ?_|refine ae ?_|refine ac ?_|refine aD ?_|refine ax rfl ?_|((apply cx;exact rfl;exact rfl))|(refine cZ rfl rfl rfl Try.underlying20 ?_)))
 ((apply gg Try.func19 (congrArg Array.toList Try.results19));(focus(repeat(exact ResIs.nil))))
 rfl
theorem qD{H:ar}{nx b n k:Nat}{v:gQ}{mem p:List UInt8}{left puts:Int}(hb:H.at' b=some (eP mem left puts))(hm:mem.length=131072)(hp:p.length=1024)(h1:32≤n)(h2:n<128)(hread:dj (eE mem n)=(p,0))(hr:bP p=true)(hn:k<aE p)(hs:a9 p k≠0)(hof:ofV (ck p k)=some v):Fnc Try.prog 6 [rT b,.agg [.sc (.int .i64 (n:Int)),.sc (.int .i64 (k:Int))]] H nx
 (fun q=> ∃ s' r,q.1 = .tup [s',.sc (.int .i64 0)]∧VerAt q.2.1 s' r v∧nx≤r∧nx≤q.2.2∧ ∀ m,m<nx→q.2.1.at' m=H.at' m):=by
 refine Fnc.start Try.func6 rfl rfl ?_
 refine bv fun hund=>?_
 have lb:=hund _ _ hb
 have hil:(ck p k).length≤1024:=by unfold ck;rw [List.length_take,List.length_drop];omega
 (repeat(first|refine an ?_|refine ae ?_|refine ac ?_|refine aD ?_|refine ax rfl ?_|(apply ai;exact rfl;exact rfl;exact rfl)|(apply aF;exact rfl;exact rfl;exact rfl;exact(F.fo _ _ rfl rfl))|(apply bH;exact rfl;exact rfl;exact rfl;exact rfl)|(apply aZ;exact rfl;exact rfl;exact(F.zl _ rfl))|(apply ce;exact rfl;exact rfl;exact rfl)|refine bg rfl rfl rfl (F.ag _ rfl) (by(repeat(first|assumption|exact Tr.ab _ _ _|refine(Tr.aa _ _ (by omega)).trans ?_));done) (by exact rfl) ?_|refine bj rfl rfl rfl (F.ag _ rfl) (by(repeat(first|assumption|exact Tr.ab _ _ _|refine(Tr.aa _ _ (by omega)).trans ?_));done) (by exact rfl) ?_|(apply cG;exact rfl;exact rfl;exact rfl)|((apply dG;exact rfl;exact rfl;exact rfl;(focus(kernel_rfl))))|(refine fl rfl rfl rfl rfl Try.underlying43 rfl ?_)|(refine au rfl rfl rfl (by kernel_rfl) (Fnc.mono (qu (k:=k) h1 h2) ?_);rintro _ rfl;dsimp only)))
 have hrd:=fun(H':ar) (nx':Nat) (h:H'.at' b=some (eP mem left puts))=>pp (nx:=nx') (n:=n) h hm h2
 rw [hread] at hrd
 refine au rfl rfl rfl (by kernel_rfl) (Fnc.mono (hrd _ _ (by(repeat(refine(Tr.aa _ _ (by omega)).trans ?_));exact hb)) ?_)
 rintro _ rfl
 dsimp only
 (repeat(first|(apply bF;(exact rfl);(exact rfl);(exact rfl);(exact F.sz _ rfl);(focus((focus((repeat(exact Tr.ab _ _ _));done))));(exact aG hp);(rw [aG aw];exact th _);(exact da _);(exact cy _ _ aw hp))|(refine aZ rfl rfl ik ?_)|refine an ?_|refine ae ?_|refine ac ?_|refine aD ?_|refine ax rfl ?_|(apply ai;exact rfl;exact rfl;exact rfl)|(apply aH;exact rfl;exact rfl;exact rfl;exact rfl)|(apply aF;exact rfl;exact rfl;exact rfl;exact(F.fo _ _ rfl rfl))|refine aI rfl rfl rfl rfl (F.sz _ rfl) (by(repeat(first|assumption|exact Tr.ab _ _ _|refine(Tr.aa _ _ (by omega)).trans ?_));done) rfl (by exact s3 rfl) rfl ?_|refine bg rfl rfl rfl (F.ag _ rfl) (by(repeat(first|assumption|exact Tr.ab _ _ _|refine(Tr.aa _ _ (by omega)).trans ?_));done) (by exact rfl) ?_|(refine cS rfl rfl rfl rfl (fun hq=>absurd rfl hq) (fun _=>?_))|(apply bj;(exact rfl);(exact rfl);(exact rfl);(exact F.ag _ rfl);(focus((focus((repeat(first|exact Tr.ab _ _ _|refine(Tr.aa _ _ (by omega)).trans ?_));done))));(exact aG hp))))
 refine au rfl rfl rfl (by kernel_rfl) (Fnc.mono (qB hp hr hn hs) ?_)
 rintro⟨_,H2,n2⟩ ⟨r,rfl,a1,a2,a3,a4⟩
 dsimp only at a1 a3 a4 ⊢
 have b4:H2.at' (nx+1)=some (fN (eR ft ft 0 0)):=(a4 _ (by omega)).trans (by(repeat(first|exact Tr.ab _ _ _|refine(Tr.aa _ _ (by omega)).trans ?_));done)
 have b5:H2.at' (nx+1+1)=some (f8 0):=(a4 _ (by omega)).trans (by(repeat(exact Tr.ab _ _ _));done)
 have bo: ∀ m,m<nx→H2.at' m=H.at' m:=fun m hm=>(a4 _ (by omega)).trans (by(repeat(refine(Tr.aa _ _ (by omega)).trans ?_));exact rfl)
 clear a4 hrd
 (repeat(first|refine an ?_|refine ae ?_|refine ac ?_|refine aD ?_|refine ax rfl ?_|(apply ai;exact rfl;exact rfl;exact rfl)|(apply ah;exact rfl;exact rfl;exact rfl)|(apply aH;exact rfl;exact rfl;exact rfl;exact rfl)|refine aI rfl rfl rfl rfl (F.sz _ rfl) (by assumption) rfl (by exact s3 rfl) rfl ?_|refine bg rfl rfl rfl (F.ag _ rfl) (by(repeat(first|assumption|exact Tr.ab _ _ _));done) (by exact rfl) ?_|(refine cS rfl rfl rfl rfl (fun hq=>absurd rfl hq) (fun _=>?_))))
 refine au rfl rfl rfl (by kernel_rfl) (Fnc.mono (of_s (jk (by(repeat(refine(Tr.aa _ _ (by omega)).trans ?_));exact a1)) (by omega)) ?_)
 rintro⟨_,H3,n3⟩ ⟨s',r',rfl,c1,cr,c2,c3⟩
 rw [hof] at c1 ⊢
 obtain⟨k0,w0,rfl,gk,gw⟩:=c1
 dsimp only at gk gw c2 c3 ⊢
 have hone: ∀ x y:Nat,bz (eR k0 w0 x y)=true:=fun x y=>by simp only [bz,ic gk.bs,ic gw.bs];rfl
 have d4:H3.at' (nx+1)=some (fN (eR ft ft 0 0)):=(c3 _ (by omega)).trans (by(repeat(first|assumption|refine(Tr.aa _ _ (by omega)).trans ?_));done)
 have d5:=(c3 (nx+1+1) (by omega)).trans (Tr.ab _ _ _)
 have dold: ∀ m,m<nx→H3.at' m=H.at' m:=fun m hm=>(c3 _ (by omega)).trans (by(repeat(refine(Tr.aa _ _ (by omega)).trans ?_));exact bo m hm)
 clear c3 b4 b5 bo a1
 (repeat(first|refine ac ?_|(apply aH;exact rfl;exact rfl;exact rfl;exact rfl)|refine aI rfl rfl rfl rfl (F.sz _ rfl) (by(repeat(first|assumption|refine(Tr.aa _ _ (by omega)).trans ?_));done) rfl (by exact s3 rfl) rfl ?_|(refine bF rfl rfl rfl (F.sz _ rfl) (by assumption) rfl (by exact s3 rfl) (hone _ _) rfl ?_)))
 refine fF Try.func6 (congrArg Array.toList Try.results6) (by kernel_rfl) (Fnc.mono sG ?_)
 rintro _ rfl
 refine⟨_,(by(repeat(first|exact ResIs.nil|apply ResIs.cell rfl (LoadIs.one (F.ag _ rfl) (by(repeat(first|exact Tr.ab _ _ _|refine(Tr.aa _ _ (by omega)).trans ?_));done) (bk rfl))|apply ResIs.cell rfl (LoadIs.many (F.ag _ rfl) (by(repeat(first|exact Tr.ab _ _ _|refine(Tr.aa _ _ (by omega)).trans ?_));done) (aL _ 0 rfl rfl))))),?_⟩
 dsimp only
 exact⟨_,r',rfl,⟨k0,w0,rfl,gk.frame (by(repeat(refine(Tr.aa _ _ (by omega)).trans ?_));exact rfl),gw.frame (by(repeat(refine(Tr.aa _ _ (by omega)).trans ?_));exact rfl)⟩,by omega,by omega,fun m hm=>by(focus((repeat(refine(Tr.aa _ _ (by omega)).trans ?_));exact dold m hm))⟩
abbrev az:Value:= .int .u8 0
abbrev cC:Value:= .int .i64 0
def zt0:List Value:= [az,az,az,az,az,az,az,az,az,az,az,az,az,az,az,az,az,az,az,az,az,az,az,az,az,az,az,az,az,az,az,az,az,az,az,az,az,az,az,az,az,az,az,az,az,az,az,az,az,az,az,az,az,az,az,az,az,az,az,az,az,az,az,az]
theorem mj:zt0=List.replicate 64 az:=rfl
def zt1:List Value:=List.append zt0 zt0
theorem mi:zt1=List.replicate 128 az:=by
 show zt0 ++ zt0=_
 rw [mj,List.replicate_append_replicate]
def zt2:List Value:=List.append zt1 zt1
theorem mh:zt2=List.replicate 256 az:=by
 show zt1 ++ zt1=_
 rw [mi,List.replicate_append_replicate]
def zt3:List Value:=List.append zt2 zt2
theorem mg:zt3=List.replicate 512 az:=by
 show zt2 ++ zt2=_
 rw [mh,List.replicate_append_replicate]
def zt4:List Value:=List.append zt3 zt3
theorem mf:zt4=List.replicate 1024 az:=by
 show zt3 ++ zt3=_
 rw [mg,List.replicate_append_replicate]
def zt5:List Value:=List.append zt4 zt4
theorem me:zt5=List.replicate 2048 az:=by
 show zt4 ++ zt4=_
 rw [mf,List.replicate_append_replicate]
def zt6:List Value:=List.append zt5 zt5
theorem md:zt6=List.replicate 4096 az:=by
 show zt5 ++ zt5=_
 rw [me,List.replicate_append_replicate]
def zt7:List Value:=List.append zt6 zt6
theorem mc:zt7=List.replicate 8192 az:=by
 show zt6 ++ zt6=_
 rw [md,List.replicate_append_replicate]
def zt8:List Value:=List.append zt7 zt7
theorem mb:zt8=List.replicate 16384 az:=by
 show zt7 ++ zt7=_
 rw [mc,List.replicate_append_replicate]
def zt9:List Value:=List.append zt8 zt8
theorem pf:zt9=List.replicate 32768 az:=by
 show zt8 ++ zt8=_
 rw [mb,List.replicate_append_replicate]
def zr0:List Value:=List.append [az,az,az,az,az,az,az,az,az,az,az,az,az,az,az,az,az,az,az,az,az,az,az,az,az,az,az,az,az,az,az,az] [az,az,az,az,az,az,az,az,az,az,az,az,az,az,az,az,az,az,az,az,az,az,az,az,az,az,az,az,az,az,az,az,az]
theorem rp:zr0=List.replicate 65 az:=rfl
def zr1:List Value:=List.append zt0 zr0
theorem rm:zr1=List.replicate 129 az:=by
 show zt0 ++ zr0=_
 rw [mj,rp,List.replicate_append_replicate]
def zr2:List Value:=List.append zt1 zr1
theorem rk:zr2=List.replicate 257 az:=by
 show zt1 ++ zr1=_
 rw [mi,rm,List.replicate_append_replicate]
def zr3:List Value:=List.append zt2 zr2
theorem rj:zr3=List.replicate 513 az:=by
 show zt2 ++ zr2=_
 rw [mh,rk,List.replicate_append_replicate]
def zr4:List Value:=List.append zt3 zr3
theorem ri:zr4=List.replicate 1025 az:=by
 show zt3 ++ zr3=_
 rw [mg,rj,List.replicate_append_replicate]
def zr5:List Value:=List.append zt4 zr4
theorem rh:zr5=List.replicate 2049 az:=by
 show zt4 ++ zr4=_
 rw [mf,ri,List.replicate_append_replicate]
def zr6:List Value:=List.append zt5 zr5
theorem rg:zr6=List.replicate 4097 az:=by
 show zt5 ++ zr5=_
 rw [me,rh,List.replicate_append_replicate]
def zr7:List Value:=List.append zt6 zr6
theorem re:zr7=List.replicate 8193 az:=by
 show zt6 ++ zr6=_
 rw [md,rg,List.replicate_append_replicate]
def zr8:List Value:=List.append zt7 zr7
theorem rd:zr8=List.replicate 16385 az:=by
 show zt7 ++ zr7=_
 rw [mc,re,List.replicate_append_replicate]
def zr9:List Value:=List.append zt8 zr8
theorem rb:zr9=List.replicate 32769 az:=by
 show zt8 ++ zr8=_
 rw [mb,rd,List.replicate_append_replicate]
def zr10:List Value:=List.append zt9 zr9
theorem pG:zr10=List.replicate 65537 az:=by
 show zt9 ++ zr9=_
 rw [pf,rb,List.replicate_append_replicate]
def zq0:List Value:=List.append [az,az,az,az,az,az,az,az,az,az,az,az,az,az,az,az,az,az,az,az,az,az,az,az,az,az,az,az,az,az,az,az] [az,az,az,az,az,az,az,az,az,az,az,az,az,az,az,az,az,az,az,az,az,az,az,az,az,az,az,az,az,az,az,cC,cC]
theorem rD:zq0=List.replicate 63 az ++ [cC,cC]:=rfl
def zq1:List Value:=List.append zt0 zq0
theorem rC:zq1=List.replicate 127 az ++ [cC,cC]:=by
 show zt0 ++ zq0=_
 rw [mj,rD,←List.append_assoc,List.replicate_append_replicate]
def zq2:List Value:=List.append zt1 zq1
theorem rB:zq2=List.replicate 255 az ++ [cC,cC]:=by
 show zt1 ++ zq1=_
 rw [mi,rC,←List.append_assoc,List.replicate_append_replicate]
def zq3:List Value:=List.append zt2 zq2
theorem rA:zq3=List.replicate 511 az ++ [cC,cC]:=by
 show zt2 ++ zq2=_
 rw [mh,rB,←List.append_assoc,List.replicate_append_replicate]
def zq4:List Value:=List.append zt3 zq3
theorem rz:zq4=List.replicate 1023 az ++ [cC,cC]:=by
 show zt3 ++ zq3=_
 rw [mg,rA,←List.append_assoc,List.replicate_append_replicate]
def zq5:List Value:=List.append zt4 zq4
theorem ry:zq5=List.replicate 2047 az ++ [cC,cC]:=by
 show zt4 ++ zq4=_
 rw [mf,rz,←List.append_assoc,List.replicate_append_replicate]
def zq6:List Value:=List.append zt5 zq5
theorem rx:zq6=List.replicate 4095 az ++ [cC,cC]:=by
 show zt5 ++ zq5=_
 rw [me,ry,←List.append_assoc,List.replicate_append_replicate]
def zq7:List Value:=List.append zt6 zq6
theorem rv:zq7=List.replicate 8191 az ++ [cC,cC]:=by
 show zt6 ++ zq6=_
 rw [md,rx,←List.append_assoc,List.replicate_append_replicate]
def zq8:List Value:=List.append zt7 zq7
theorem ru:zq8=List.replicate 16383 az ++ [cC,cC]:=by
 show zt7 ++ zq7=_
 rw [mc,rv,←List.append_assoc,List.replicate_append_replicate]
def zq9:List Value:=List.append zt8 zq8
theorem rq:zq9=List.replicate 32767 az ++ [cC,cC]:=by
 show zt8 ++ zq8=_
 rw [mb,ru,←List.append_assoc,List.replicate_append_replicate]
def zq10:List Value:=List.append zt9 zq9
theorem pH:zq10=List.replicate 65535 az ++ [cC,cC]:=by
 show zt9 ++ zq9=_
 rw [pf,rq,←List.append_assoc,List.replicate_append_replicate]
def zAll:List Value:=List.append zr10 zq10
theorem pI:zAll=List.replicate 131072 az ++ [cC,cC]:=by
 show zr10 ++ zq10=_
 rw [pG,pH,←List.append_assoc,List.replicate_append_replicate]
theorem rF:bU Try.prog 84=some (.agg (List.toArray zAll)):=by kernel_rfl
def lm:List UInt8:= [48,49,50,51,52,53,54,55,56,57]
theorem gl{H:ar}{nx x:Nat}{k:ByteArray}(hk:k.size≤1000):Fnc Try.prog 5 [.sc (.string k),.sc (.int .u64 (x:Int))] H nx (fun q=>VerIs q.2.1 q.1 (k.data.toList,lm,x,0)∧nx≤q.2.2∧ ∀ m,m<nx→q.2.1.at' m=H.at' m):=by
 refine Fnc.start Try.func5 rfl rfl ?_
 (repeat(first|refine an ?_|refine ae ?_|refine ac ?_|(apply ai;exact rfl;exact rfl;exact rfl)|(apply aZ;exact rfl;exact rfl;exact(F.zl _ rfl))|((apply lH;exact rfl;exact rfl;exact(F.un _ rfl);exact(F.un _ rfl);exact(F.un _ rfl);exact rfl;(focus(omega))))|(apply cd;exact rfl;exact rfl;exact(F.un _ rfl);exact(F.sz _ rfl);exact rfl;exact(F.ze _ rfl);exact rfl;exact rfl;exact rfl;exact rfl;exact rfl)))
 (apply rH;exact rfl;exact rfl;exact(F.un _ rfl);exact(F.un _ rfl);exact rfl;exact(Tr.ab _ _ _);(focus(decide)))
 (repeat(first|refine ac ?_|(apply ai;exact rfl;exact rfl;exact rfl)|refine aI rfl rfl rfl rfl (F.sz _ rfl) (by(repeat(first|exact Tr.ab _ _ _|refine(Tr.aa _ _ (by omega)).trans ?_));done) rfl (by exact s3 rfl) rfl ?_|(apply cT;exact rfl;exact rfl;exact rfl;exact(F.ze _ rfl);exact(F.pl _ rfl);exact rfl)))
 ((apply aP Try.func5 (congrArg Array.toList Try.results5));(focus(repeat(first|exact ResIs.nil|apply ResIs.cell rfl (LoadIs.many (F.ag _ rfl) (by(repeat(exact Tr.ab _ _ _));done) (aL _ 0 rfl rfl))))))
 refine⟨⟨.slu (nx+1) 0 k.size,.slu (nx+1+1) 0 10,rfl,ib (ro:=false) ?_ rfl,ib (ro:=false) (n:=10) ?_ rfl⟩,by dsimp only;omega,fun m hm=>by(focus((repeat(refine(Tr.aa _ _ (by omega)).trans ?_));exact rfl))⟩
 ·(focus((repeat(first|exact Tr.ab _ _ _|refine(Tr.aa _ _ (by omega)).trans ?_));done))
 ·refine(Tr.aa _ _ (by omega)).trans ((Tr.ab _ _ _).trans ?_)
  exact congrArg some (ln _ _ _ _ (byV lm))
abbrev zeroM:List UInt8:=List.replicate 131072 0
theorem dE:zeroM.length=131072:=List.length_replicate
theorem nU:zAll.map SV.sc=kT zeroM 0 0:=by
 rw [pI,tq,List.map_replicate]
 show _=(byV (List.replicate 131072 0)).map SV.sc ++ _
 rw [show byV (List.replicate 131072 (0:UInt8))=List.replicate 131072 az from List.map_replicate,List.map_replicate]
 rfl
theorem oR{place:Nat→Option (Nat×Nat)}{cells vc:List SV}{i off size:Nat}{v:SV}(hp:place i=some (off,size))(hv:v.cells=vc)(hl:vc.length=size)(ho:off+size≤cells.length):dM place cells [(i,v)]=some (cells.take off ++ vc ++ cells.drop (off+size)):=by
 subst hv
 have hb:(Nat.beq v.cells.length size && Nat.ble (off+size) cells.length)=true:=by
  rw [tg]
  exact⟨by rw [hl];exact Nat.beq_refl _,s5 ho⟩
 simp only [dM,hp,hb,cond_true]
theorem oQ:dM (fun i=>([(0,131072),(131072,1),(131073,1)]:List (Nat×Nat))[i]?) ((Value.agg (List.toArray zAll)).cells.toList.map .sc) [(1,.sc (.int .i64 (-1)))]=some (kT zeroM (-1) 0):=by
 have e:(Value.agg (List.toArray zAll)).cells.toList.map SV.sc=kT zeroM 0 0:=(congrArg (List.map SV.sc) (List.toList_toArray ..)).trans nU
 have hl:=iD dE 0 0
 have h1:=dg dE
 rw [e,oR (vc:= [.sc (.int .i64 (-1))]) (size:=1) (off:=131072) rfl rfl rfl (by rw [hl];exact s3 rfl),List.take_left' h1,←List.drop_drop,List.drop_left' h1,List.append_assoc]
 rfl
abbrev kv1:gQ:=([97],lm,1,0)
abbrev kv2:gQ:=([98],lm,2,0)
def kp0:List UInt8:=gD 4
def kp1:List UInt8:=(jB kp0 (cJ kv1)).1
def kp2:List UInt8:=(jB kp1 (cJ kv2)).1
theorem kV{mem x:List UInt8}(hm:mem.length=131072){n:Nat}(hn:n<128)(hx:x.length=1024):eE (og mem n x) n=x:=by
 unfold eE og eZ
 rw [List.append_assoc,List.drop_left' (by rw [List.length_take];omega),List.take_left' hx]
theorem mX:eE zeroM 32=zeroP:=by
 unfold eE zeroM zeroP
 rw [List.drop_replicate,List.take_replicate]
 rfl
theorem mG{p:List UInt8}(h1:iq p=false)(h2:bP p=true)(h3:kP p=4)(h4:pE p=false):dj p=(p,0):=by
 unfold dj
 rw [if_neg (by rw [h1];decide),if_neg (by rw [h2,h3];decide),if_neg (by rw [h4];decide)]
theorem mF:dj zeroP=(kp0,0):=if_pos (by kernel_rfl)
theorem kl0:kp0.length=1024:=gC 4
theorem kl1:kp1.length=1024:=by kernel_rfl
theorem kl2:kp2.length=1024:=by kernel_rfl
theorem kr0:(cJ kv1).length≤gW kp0:=s3 (by kernel_rfl)
theorem ki0:jB kp0 (cJ kv1)=(kp1,0,0):=Prod.ext rfl (by kernel_rfl)
theorem kr1:(cJ kv2).length≤gW kp1:=s3 (by kernel_rfl)
theorem ki1:jB kp1 (cJ kv2)=(kp2,1,0):=Prod.ext rfl (by kernel_rfl)
theorem kd1:dj kp1=(kp1,0):=mG (by kernel_rfl) (by kernel_rfl) (by kernel_rfl) (by kernel_rfl)
theorem kg2:bP kp2=true:=by kernel_rfl
theorem kd2:dj kp2=(kp2,0):=mG (by kernel_rfl) kg2 (by kernel_rfl) (by kernel_rfl)
theorem ks2:1<aE kp2:=s3 (by kernel_rfl)
theorem kz2:a9 kp2 1≠0:=fun h=>by
 have:Nat.beq (a9 kp2 1) 0=false:=by kernel_rfl
 rw [h] at this
 cases this
theorem ko2:ofV (ck kp2 1)=some kv2:=by kernel_rfl
theorem km1:pq kv1=true:=by kernel_rfl
theorem km2:pq kv2=true:=by kernel_rfl
abbrev qT(a:Int×Int):SV:= .agg [.sc (.int .i64 a.1),.sc (.int .i64 a.2)]
def gZ(a b:Int×Int):Bool:=decide (a.1=b.1) && decide (a.2=b.2)
theorem uTd:Try.prog.underlying 23=some (.struct (Try.prog.fieldsOf 23)):=by kernel_rfl
def qH:List (Bool×TypeId×Nat):= [(true,3,0),(true,3,1)]
theorem fTd:(Try.prog.fieldsOf 23).toList.map (fun f=>(f.name != "_",f.type,f.offset))=qH:=by kernel_rfl
theorem fTd2: ∃ f g:Field,(Try.prog.fieldsOf 23).toList= [f,g]∧f.name ≠ "_" ∧f.type=3∧f.offset=0∧g.name ≠ "_" ∧g.type=3∧g.offset=1:=by
 have h:=fTd
 generalize (Try.prog.fieldsOf 23).toList=l at h
 have hl:l.length=2:=by simpa [qH] using congrArg List.length h
 rcases l with _|⟨f,_|⟨g,_|⟨x,l⟩⟩⟩
 ·simp at hl
 ·simp at hl
 ·simp only [tj,List.map_nil,qH,List.cons.injEq,s6,and_true,bne_iff_ne] at h
  exact⟨f,g,rfl,h.1.1,h.1.2.1,h.1.2.2,h.2.1,h.2.2.1,h.2.2.2⟩
 ·simp at hl
theorem eV{P:Program}{t:TypeId}{cs:Array Value}{off:Nat}{v:Value}{k:IntKind}(hu:P.underlying t=some (.int k))(hv:cs[off]? =some v)(w:World):(part t cs off).run P w = .ok v w:=by
 simp [part,isAgg,run_underlying hu,hv]
theorem ol(a b:Int×Int)(w:World):(Op.equalIn 10000 23 (.agg #[.int .i64 a.1,.int .i64 a.2]) (.agg #[.int .i64 b.1,.int .i64 b.2])).run Try.prog w = .ok (gZ a b) w:=by
 obtain⟨f,g,hl,f1,f2,f3,g1,g2,g3⟩:=fTd2
 have hu:Try.prog.underlying 3=some (.int .i64):=by kernel_rfl
 have he: ∀ (a b:Int) (w:World),(Op.equalIn 9999 3 (.int .i64 a) (.int .i64 b)).run Try.prog w = .ok (a == b) w:=fun a b w=>run_equalIn_int w 9998 _ .i64 .i64 a b hu
 rw [show(10000:Nat)=9999+1 from rfl,run_equalIn_struct w 9999 _ _ _ uTd (by kernel_rfl),hl]
 simp only [Op.eqFields,if_pos f1,if_pos g1,f2,f3,g2,g3,Sem.run_bind,eV hu (cs:= #[.int .i64 a.1,.int .i64 a.2]) (off:=0) (v:= .int .i64 a.1) rfl,eV hu (cs:= #[.int .i64 b.1,.int .i64 b.2]) (off:=0) (v:= .int .i64 b.1) rfl,Result.andThen_ok]
 rw [he]
 simp only [Result.andThen_ok]
 by_cases h1:a.1=b.1
 ·rw [show(a.1 == b.1)=true by simpa using h1]
  simp only [Bool.not_true,Bool.false_eq_true,if_false,Sem.run_bind,eV hu (cs:= #[.int .i64 a.1,.int .i64 a.2]) (off:=1) (v:= .int .i64 a.2) rfl,eV hu (cs:= #[.int .i64 b.1,.int .i64 b.2]) (off:=1) (v:= .int .i64 b.2) rfl,Result.andThen_ok]
  rw [he]
  simp only [Result.andThen_ok]
  by_cases h2:a.2=b.2
  ·rw [show(a.2 == b.2)=true by simpa using h2]
   simp [h1,h2,gZ]
  ·rw [show(a.2 == b.2)=false by simpa using h2]
   simp [h1,h2,gZ]
 ·rw [show(a.1 == b.1)=false by simpa using h1]
  simp [h1,gZ]
section
variable {P:Program} {H:ar} {T:Tr SV} {nx:Nat}
variable {d:Option Tmp} {ty:TypeId} {pos:String} {af:Array Edge} {gd:Option (Nat×Bool)}
theorem nH{e:Env}{a:Int×Int}{v:Value}(h:(qT a).conc e=some v):v = .agg #[.int .i64 a.1,.int .i64 a.2]:=by
 simpa [qT,SV.conc,SV.aq] using h.symm
theorem ou{x y:Operand}{yt:TypeId}{a b:Int×Int}(hx:aj T x=some (qT a))(hy:aj T y=some (qT b)):ReadDoes Try.prog T H ⟨d,.binOp .eql 23 x y yt,ty,pos,af,gd⟩ (.sc (.bool (gZ a b))):=by
 intro K w0 e nx w ev hS hE
 refine⟨_,rfl,?_⟩
 have e1:=nH (hE x _ hx)
 have e2:=nH (hE y _ hy)
 simp [execOp,e1,e2,run_eqGuard_agg (P:=Try.prog) w .eql 23 x y _ _ (by kernel_rfl),run_eql_struct,ol]
end
theorem mn{ro:Option Nat}{fn nt nx i:Nat}{T:Tr SV}{k:List AIt}{dfs:List ADf}{H:ar}{Q:Pst}{ops:Array Oper}{l:List Oper}{ty:TypeId}{pos:String}{af:Array Edge}{gd:Option (Nat×Bool)}{x y:Operand}{yt:TypeId}{a b:Int×Int}{r:Bool}{dd:Nat}(hw:ak T ops ⟨some dd,.binOp .eql 23 x y yt,ty,pos,af,gd⟩=some true)(hd:Nat.blt dd nt=true)(hx:aj T x=some (qT a))(hy:aj T y=some (qT b))(hr:gZ a b=r)
 (h:Wp Try.prog ro ⟨fn,nt,T.set dd (.sc (.bool r)),.inReg ops (i+1) l :: k,dfs,H,nx⟩ Q):Wp Try.prog ro ⟨fn,nt,T,.inReg ops i (⟨some dd,.binOp .eql 23 x y yt,ty,pos,af,gd⟩ :: l) :: k,dfs,H,nx⟩ Q:=
 be hw (.inr (fun _ h=>by cases h)) ((ou hx hy).does) (by rw [ap hd,hr];exact h)
theorem plPgs:qh Try.prog 84=some [(0,131072),(131072,1),(131073,1)]:=by kernel_rfl
theorem qx{H:ar}{nx:Nat}:Fnc Try.prog 11 [] H nx (fun q=>q.1 = .sc (.bool true)∧nx≤q.2.2∧ ∀ m,m<nx→q.2.1.at' m=H.at' m):=by
 refine Fnc.start Try.func11 rfl rfl ?_
 (repeat(first|(refine cT rfl rfl rfl rF plPgs oQ ?_)|refine an ?_|refine ae ?_|refine ac ?_|(apply ai;exact rfl;exact rfl;exact rfl)|(apply ah;exact rfl;exact rfl;exact rfl)|(apply ce;exact rfl;exact rfl;exact rfl)|(refine j7 rfl rfl rfl Try.underlying81 rfl ?_)))
 have hb0:(H.set nx (eP zeroM (-1) 0)).at' nx=some (eP zeroM (-1) 0):=Tr.ab _ _ _
 have ho0: ∀ m,m<nx→(H.set nx (eP zeroM (-1) 0)).at' m=H.at' m:=fun m hm=>Tr.aa _ _ (by omega)
 refine pM (R:=fun H0 n0=>H0=H.set nx (eP zeroM (-1) 0)∧n0=nx+1) ⟨rfl,rfl⟩ ?_
 rintro H0 n0 ⟨hH0,rfl⟩
 rw [← hH0] at hb0 ho0
 clear hH0
 refine au rfl rfl rfl (by kernel_rfl) (Fnc.mono (gl (k:=⟨#[97]⟩) (x:=1) (s3 rfl)) ?_)
 rintro⟨s1,H1,n1⟩ ⟨a1,a2,a3⟩
 dsimp only at a1 a2 a3 ⊢
 refine au rfl rfl rfl (by kernel_rfl) (Fnc.mono (hK (v:=kv1) (p:=kp0) (p':=kp1) (slot:=0) ((a3 nx (by omega)).trans hb0) dE a1 km1 kl0 (by decide) (by decide) (by decide) (by rw [mX];exact mF) kr0 ki0 kl1) ?_)
 rintro⟨_,H2,n2⟩ ⟨rfl,b1,b2,b3⟩
 dsimp only at b1 b2 b3 ⊢
 have bo: ∀ m,m<nx→H2.at' m=H.at' m:=fun m hm=>(b3 m (by omega) (by omega)).trans ((a3 m (by omega)).trans (ho0 m hm))
 clear a1 a3 b3 hb0 ho0
 (repeat(first|refine an ?_|refine ae ?_|refine ac ?_|(apply ai;exact rfl;exact rfl;exact rfl)|(apply ah;exact rfl;exact rfl;exact rfl)|(apply aH;exact rfl;exact rfl;exact rfl;exact rfl)|refine aI rfl rfl rfl rfl (F.sz _ rfl) (by(repeat(first|assumption|exact Tr.ab _ _ _));done) rfl (by exact s3 rfl) rfl ?_|(apply aZ;exact rfl;exact rfl;exact(F.zl _ rfl))|(refine j7 rfl rfl rfl Try.underlying81 rfl ?_)))
 refine au rfl rfl rfl (by kernel_rfl) (Fnc.mono (gl (k:=⟨#[98]⟩) (x:=2) (s3 rfl)) ?_)
 rintro⟨s2,H3,n3⟩ ⟨c1,c2,c3⟩
 dsimp only at c1 c2 c3 ⊢
 have cb:H3.at' nx=some (eP (og zeroM 32 kp1) (-1-1) (0+1)):=(c3 nx (by omega)).trans (by(repeat(refine(Tr.aa _ _ (by omega)).trans ?_));exact b1)
 have ct:H3.at' n2=some (ir 32 0):=(c3 n2 (by omega)).trans (by(repeat(exact Tr.ab _ _ _));done)
 have co: ∀ m,m<nx→H3.at' m=H.at' m:=fun m hm=>(c3 m (by omega)).trans (by(repeat(refine(Tr.aa _ _ (by omega)).trans ?_));exact bo m hm)
 clear c3 b1 bo
 refine bv fun hund=>?_
 have hmem1:=kO (n:=32) dE (by decide) kl1
 refine au rfl rfl rfl (by kernel_rfl) (Fnc.mono (hK (v:=kv2) (p:=kp1) (p':=kp2) (slot:=1) cb hmem1 c1 km2 kl1 (by decide) (by decide) (by decide) (by rw [kV dE (by decide) kl1];exact kd1) kr1 ki1 kl2) ?_)
 rintro⟨_,H4,n4⟩ ⟨rfl,d1,d2,d3⟩
 dsimp only at d1 d2 d3 ⊢
 have dt:H4.at' n2=some (ir 32 0):=(d3 n2 (by omega) (by omega)).trans ct
 have do': ∀ m,m<nx→H4.at' m=H.at' m:=fun m hm=>(d3 m (by omega) (by omega)).trans (co m hm)
 clear c1 cb ct co d3 hund
 (repeat(first|refine an ?_|refine ae ?_|refine ac ?_|(apply ai;exact rfl;exact rfl;exact rfl)|(apply ah;exact rfl;exact rfl;exact rfl)|(apply aH;exact rfl;exact rfl;exact rfl;exact rfl)|refine aI rfl rfl rfl rfl (F.sz _ rfl) (by(repeat(first|assumption|exact Tr.ab _ _ _));done) rfl (by exact s3 rfl) rfl ?_|(apply aZ;exact rfl;exact rfl;exact(F.zl _ rfl))|refine bj rfl rfl rfl (F.ag _ rfl) (by(repeat(first|assumption|exact Tr.ab _ _ _));done) (by exact rfl) ?_|(refine j7 rfl rfl rfl Try.underlying81 rfl ?_)))
 refine au rfl rfl rfl (by kernel_rfl) (Fnc.mono (qD (n:=32) (k:=1) (v:=kv2) (p:=kp2) (by(repeat(refine(Tr.aa _ _ (by omega)).trans ?_));exact d1) (kO hmem1 (by decide) kl2) kl2 (by decide) (by decide) (by rw [kV hmem1 (by decide) kl2];exact kd2) kg2 ks2 kz2 ko2) ?_)
 rintro⟨_,H5,n5⟩ ⟨s',r',rfl,⟨k0,w0,rfl,gk,gw⟩,e2,e3,e4⟩
 dsimp only at gk gw e2 e3 e4 ⊢
 have et:H5.at' n2=some (ir 32 0):=(e4 n2 (by omega)).trans (by(repeat(refine(Tr.aa _ _ (by omega)).trans ?_));exact dt)
 have eu:H5.at' n4=some (ir 32 1):=(e4 n4 (by omega)).trans (by(repeat(exact Tr.ab _ _ _));done)
 have eo: ∀ m,m<nx→H5.at' m=H.at' m:=fun m hm=>(e4 m (by omega)).trans (by(repeat(refine(Tr.aa _ _ (by omega)).trans ?_));exact do' m hm)
 clear e4 d1 dt do'
 refine bv fun hund=>?_
 have hr:r'<n5:=by
  rcases gk with ⟨_,h⟩|⟨o,C,_,vo,hv,_⟩
  ·cases h
  ·exact hund _ _ hv
 have hone: ∀ x y:Nat,bz (eR k0 w0 x y)=true:=fun x y=>by simp only [bz,ic gk.bs,ic gw.bs];rfl
 have hk: ∀ vo vo':VO,BsIs ((H5.set n5 vo).set n5 vo') k0 (u8L ⟨#[98]⟩):=fun vo vo'=>(gk.frame ((Tr.aa _ _ (by omega)).trans (Tr.aa _ _ (by omega)))).bs
 (repeat(first|(refine bF rfl rfl rfl (F.sz _ rfl) (by(repeat(first|assumption|exact Tr.ab _ _ _));done) rfl (by exact s3 rfl) (hone _ _) rfl ?_)|((apply mn (a:=(32,0)) (b:=(32,0)) (r:=true);exact rfl;exact rfl;exact rfl;exact rfl;(focus(decide))))|((apply mn (a:=(32,1)) (b:=(32,1)) (r:=true);exact rfl;exact rfl;exact rfl;exact rfl;(focus(decide))))|refine an ?_|refine ae ?_|refine ac ?_|(apply ai;exact rfl;exact rfl;exact rfl)|(apply ah;exact rfl;exact rfl;exact rfl)|(apply bp;exact rfl;exact rfl;exact rfl;exact rfl)|(apply aH;exact rfl;exact rfl;exact rfl;exact rfl)|(apply aF;exact rfl;exact rfl;exact rfl;exact(F.fo _ _ rfl rfl))|(apply aZ;exact rfl;exact rfl;exact(F.zl _ rfl))|refine bg rfl rfl rfl (F.ag _ rfl) (by(repeat(first|assumption|exact Tr.ab _ _ _|refine(Tr.aa _ _ (by omega)).trans ?_));done) (by exact rfl) ?_|refine bj rfl rfl rfl (F.ag _ rfl) (by(repeat(first|assumption|refine(Tr.aa _ _ (by omega)).trans ?_));done) (by exact rfl) ?_|(apply cT;exact rfl;exact rfl;exact rfl;exact(F.ze _ rfl);exact(F.pl _ rfl);exact rfl)|(refine cI rfl rfl rfl rfl (fun _=>?_) (fun hq=>absurd rfl hq))|((apply pQ;exact rfl;exact rfl;exact(F.un _ rfl);exact(F.un _ rfl);exact(F.un _ rfl);exact rfl;exact(hk _ _)))|((apply nW (r:=true);exact rfl;exact rfl;exact rfl;exact rfl;(focus(decide))))))
 ((apply aP Try.func11 (congrArg Array.toList Try.results11));(focus(repeat(first|exact ResIs.nil|apply ResIs.tmp rfl))))
 exact⟨rfl,by dsimp only;omega,fun m hm=>(Tr.aa _ _ (by omega)).trans ((Tr.aa _ _ (by omega)).trans (eo m hm))⟩
theorem qy{H:ar}{nx:Nat}:Fnc Try.prog 11 [] H nx (fun q=>q=(.sc (.bool true),H,nx)):=Fnc.bT (Free.sc _) qx
section
variable {P:Program} {ro:Option Nat} {fn nt nx i:Nat} {T:Tr SV} {k:List AIt} {dfs:List ADf} {H:ar} {Q:Pst} {ops:Array Oper} {l:List Oper} {ty:TypeId} {pos:String} {af:Array Edge} {gd:Option (Nat×Bool)}
theorem mL{d:Option Tmp}{t yt:TypeId}{m:Array (String×TypeId)}{x:Operand}(hx:aj T x=some (.sc .nilIface))(hu:P.underlying t=some (.interface m)):ReadDoes P T H ⟨d,.binOp .eql t x (.const .nilIface) yt,ty,pos,af,gd⟩ (.sc (.bool true)):=by
 refine cu fun ev w he=>?_
 have e1:=he x _ hx _ rfl
 have e2:=he (.const .nilIface) _ rfl _ rfl
 have hg:(eqGuard .eql t x (.const .nilIface) .nilIface .nilIface).run P w = .ok () w:=by cases x <;> rfl
 have hq:(Op.equal t .nilIface .nilIface).run P w = .ok true w:=hM hu w
 have hb:(binOp .eql t .nilIface .nilIface).run P w = .ok (.bool true) w:=by
  simp only [binOp,Sem.run_bind,hq,Result.andThen_ok,Sem.run_pure]
 simp only [execOp,e1,e2,Sem.run_bind,hg,hb,Result.andThen_ok,Sem.run_pure]
theorem dS{t yt:TypeId}{m:Array (String×TypeId)}{x:Operand}{dd:Nat}(hw:ak T ops ⟨some dd,.binOp .eql t x (.const .nilIface) yt,ty,pos,af,gd⟩=some true)(hd:Nat.blt dd nt=true)(hx:aj T x=some (.sc .nilIface))(hu:P.underlying t=some (.interface m))
 (h:Wp P ro ⟨fn,nt,T.set dd (.sc (.bool true)),.inReg ops (i+1) l :: k,dfs,H,nx⟩ Q):Wp P ro ⟨fn,nt,T,.inReg ops i (⟨some dd,.binOp .eql t x (.const .nilIface) yt,ty,pos,af,gd⟩ :: l) :: k,dfs,H,nx⟩ Q:=
 be hw (.inr (fun _ h=>by cases h)) ((mL hx hu).does) (by rw [ap hd];exact h)
end
abbrev fq:SV:= .sc .nilIface
theorem nn{H:ar}{nx a b:Nat}:Fnc Try.prog 12 [.ptr a 0,.ptr b 0] H nx (fun q=>q=(.tup [],H,nx)):=by
 refine Fnc.start Try.func12 rfl rfl ?_
 (repeat(first|refine an ?_|refine ae ?_|refine ac ?_|refine aD ?_|refine ax rfl ?_|((apply cx;exact rfl;exact rfl))|(refine cZ rfl rfl rfl Try.underlying20 ?_)))
 ((apply gg Try.func12 (congrArg Array.toList Try.results12));(focus(repeat(exact ResIs.nil))))
 rfl
theorem sH{H:ar}{nx a b:Nat}:Fnc Try.prog 19 [.ptr a 0,.ptr b 0] H nx (fun q=>q=(.tup [],H,nx)):=by
 refine Fnc.start Try.func19 rfl rfl ?_
 (repeat(first|refine an ?_|refine ae ?_|refine ac ?_|refine aD ?_|refine ax rfl ?_|((apply cx;exact rfl;exact rfl))|(refine cZ rfl rfl rfl Try.underlying20 ?_)))
 ((apply gg Try.func19 (congrArg Array.toList Try.results19));(focus(repeat(exact ResIs.nil))))
 rfl
theorem sR{H:ar}{nx a b:Nat}:Fnc Try.prog 24 [.ptr a 0,.ptr b 0] H nx (fun q=>q=(.tup [],H,nx)):=by
 refine Fnc.start Try.func24 rfl rfl ?_
 (repeat(first|refine an ?_|refine ae ?_|refine ac ?_|refine aD ?_|refine ax rfl ?_|((apply cx;exact rfl;exact rfl))|(refine cZ rfl rfl rfl Try.underlying20 ?_)))
 ((apply gg Try.func24 (congrArg Array.toList Try.results24));(focus(repeat(exact ResIs.nil))))
 rfl
theorem p6{H:ar}{nx a b:Nat}:Fnc Try.prog 27 [.ptr a 0,.ptr b 0] H nx (fun q=>q=(.tup [],H,nx)):=by
 refine Fnc.start Try.func27 rfl rfl ?_
 (repeat(first|refine an ?_|refine ae ?_|refine ac ?_|refine aD ?_|refine ax rfl ?_|((apply cx;exact rfl;exact rfl))|(refine cZ rfl rfl rfl Try.underlying20 ?_)))
 ((apply gg Try.func27 (congrArg Array.toList Try.results27));(focus(repeat(exact ResIs.nil))))
 rfl
theorem sM{H:ar}{nx a:Nat}:Fnc Try.prog 29 [.ptr a 0] H nx (fun q=>q=(.tup [],H,nx)):=by
 refine Fnc.start Try.func29 rfl rfl ?_
 (repeat(first|refine an ?_|refine ae ?_|refine ac ?_|refine aD ?_|refine ax rfl ?_|((apply cx;exact rfl;exact rfl))|(refine cZ rfl rfl rfl Try.underlying20 ?_)))
 ((apply gg Try.func29 (congrArg Array.toList Try.results29));(focus(repeat(exact ResIs.nil))))
 rfl
theorem r8{H:ar}{nx a:Nat}:Fnc Try.prog 34 [.ptr a 0] H nx (fun q=>q=(.tup [],H,nx)):=by
 refine Fnc.start Try.func34 rfl rfl ?_
 (repeat(first|refine an ?_|refine ae ?_|refine ac ?_|refine aD ?_|refine ax rfl ?_|((apply cx;exact rfl;exact rfl))|(refine cZ rfl rfl rfl Try.underlying20 ?_)))
 ((apply gg Try.func34 (congrArg Array.toList Try.results34));(focus(repeat(exact ResIs.nil))))
 rfl
theorem oP{H:ar}{nx:Nat}{s:SV}{v:gQ}(hv:VerIs H s v):Fnc Try.prog 4 [fq,s] H nx (fun q=>q.1 = .tup [.agg [.sc (.int .i64 0),.sc (.int .i64 0)],.sc (.int .i64 1)]∧nx≤q.2.2∧ ∀ m,m<nx→q.2.1.at' m=H.at' m):=by
 obtain⟨k,w,rfl,hk,hw⟩:=hv
 refine Fnc.start Try.func4 rfl rfl ?_
 (repeat(first|refine an ?_|refine ae ?_|refine ac ?_|refine ay rfl ?_|(apply ai;exact rfl;exact rfl;exact rfl)|(apply bH;exact rfl;exact rfl;exact rfl;exact rfl)|refine aI rfl rfl rfl rfl (F.sz _ rfl) (by(repeat(first|exact Tr.ab _ _ _|refine(Tr.aa _ _ (by omega)).trans ?_));done) rfl (by exact s3 rfl) rfl ?_|(apply aZ;exact rfl;exact rfl;exact(F.zl _ rfl))|(apply ce;exact rfl;exact rfl;exact rfl)|(apply cT;exact rfl;exact rfl;exact rfl;exact(F.ze _ rfl);exact(F.pl _ rfl);exact rfl)|((apply dG;exact rfl;exact rfl;exact rfl;(focus(kernel_rfl))))|(refine dS rfl rfl rfl Try.underlying43 ?_)))
 refine fF Try.func4 (congrArg Array.toList Try.results4) (by kernel_rfl) (Fnc.mono nn ?_)
 rintro _ rfl
 refine⟨_,(by(repeat(first|exact ResIs.nil|apply ResIs.cell rfl (LoadIs.one (F.ag _ rfl) (by(repeat(first|exact Tr.ab _ _ _|refine(Tr.aa _ _ (by omega)).trans ?_));done) (bk rfl))|apply ResIs.cell rfl (LoadIs.many (F.ag _ rfl) (by(repeat(first|exact Tr.ab _ _ _|refine(Tr.aa _ _ (by omega)).trans ?_));done) (aL _ 0 rfl rfl))))),?_⟩
 dsimp only
 exact⟨rfl,by omega,fun m hm=>by(focus((repeat(refine(Tr.aa _ _ (by omega)).trans ?_));exact rfl))⟩
theorem get_n{H:ar}{nx:Nat}{a b:Int}:Fnc Try.prog 6 [fq,.agg [.sc (.int .i64 a),.sc (.int .i64 b)]] H nx (fun q=>q.1 = .tup [.agg [.sc (.slice none 0 0),.sc (.slice none 0 0),.sc (.int .u64 0),.sc (.int .u64 0)],.sc (.int .i64 1)]∧nx≤q.2.2∧ ∀ m,m<nx→q.2.1.at' m=H.at' m):=by
 refine Fnc.start Try.func6 rfl rfl ?_
 (repeat(first|refine an ?_|refine ae ?_|refine ac ?_|refine ay rfl ?_|(apply ai;exact rfl;exact rfl;exact rfl)|(apply bH;exact rfl;exact rfl;exact rfl;exact rfl)|refine aI rfl rfl rfl rfl (F.sz _ rfl) (by(repeat(first|exact Tr.ab _ _ _|refine(Tr.aa _ _ (by omega)).trans ?_));done) rfl (by exact s3 rfl) rfl ?_|(apply aZ;exact rfl;exact rfl;exact(F.zl _ rfl))|(apply ce;exact rfl;exact rfl;exact rfl)|(apply cT;exact rfl;exact rfl;exact rfl;exact(F.ze _ rfl);exact(F.pl _ rfl);exact rfl)|((apply dG;exact rfl;exact rfl;exact rfl;(focus(kernel_rfl))))|(refine dS rfl rfl rfl Try.underlying43 ?_)))
 refine fF Try.func6 (congrArg Array.toList Try.results6) (by kernel_rfl) (Fnc.mono sH ?_)
 rintro _ rfl
 refine⟨_,(by(repeat(first|exact ResIs.nil|apply ResIs.cell rfl (LoadIs.one (F.ag _ rfl) (by(repeat(first|exact Tr.ab _ _ _|refine(Tr.aa _ _ (by omega)).trans ?_));done) (bk rfl))|apply ResIs.cell rfl (LoadIs.many (F.ag _ rfl) (by(repeat(first|exact Tr.ab _ _ _|refine(Tr.aa _ _ (by omega)).trans ?_));done) (aL _ 0 rfl rfl))))),?_⟩
 dsimp only
 exact⟨rfl,by omega,fun m hm=>by(focus((repeat(refine(Tr.aa _ _ (by omega)).trans ?_));exact rfl))⟩
theorem all_n{H:ar}{nx:Nat}:Fnc Try.prog 7 [fq] H nx (fun q=>q.1 = .tup [.sc (.slice none 0 0),.sc (.int .i64 1)]∧nx≤q.2.2∧ ∀ m,m<nx→q.2.1.at' m=H.at' m):=by
 refine Fnc.start Try.func7 rfl rfl ?_
 (repeat(first|refine an ?_|refine ae ?_|refine ac ?_|refine ay rfl ?_|(apply ai;exact rfl;exact rfl;exact rfl)|(apply bH;exact rfl;exact rfl;exact rfl;exact rfl)|refine aI rfl rfl rfl rfl (F.sz _ rfl) (by(repeat(first|exact Tr.ab _ _ _|refine(Tr.aa _ _ (by omega)).trans ?_));done) rfl (by exact s3 rfl) rfl ?_|(apply aZ;exact rfl;exact rfl;exact(F.zl _ rfl))|((apply dG;exact rfl;exact rfl;exact rfl;(focus(kernel_rfl))))|(refine dS rfl rfl rfl Try.underlying43 ?_)))
 refine fF Try.func7 (congrArg Array.toList Try.results7) (by kernel_rfl) (Fnc.mono sR ?_)
 rintro _ rfl
 refine⟨_,(by(repeat(first|exact ResIs.nil|apply ResIs.cell rfl (LoadIs.one (F.ag _ rfl) (by(repeat(first|exact Tr.ab _ _ _|refine(Tr.aa _ _ (by omega)).trans ?_));done) (bk rfl))))),?_⟩
 dsimp only
 exact⟨rfl,by omega,fun m hm=>by(focus((repeat(refine(Tr.aa _ _ (by omega)).trans ?_));exact rfl))⟩
theorem r6{H:ar}{nx:Nat}:Fnc Try.prog 8 [fq] H nx (fun q=>q.1 = .tup [.sc (.int .i64 0),.sc (.int .i64 1)]∧nx≤q.2.2∧ ∀ m,m<nx→q.2.1.at' m=H.at' m):=by
 refine Fnc.start Try.func8 rfl rfl ?_
 (repeat(first|refine an ?_|refine ae ?_|refine ac ?_|refine ay rfl ?_|(apply ai;exact rfl;exact rfl;exact rfl)|(apply bH;exact rfl;exact rfl;exact rfl;exact rfl)|refine aI rfl rfl rfl rfl (F.sz _ rfl) (by(repeat(first|exact Tr.ab _ _ _|refine(Tr.aa _ _ (by omega)).trans ?_));done) rfl (by exact s3 rfl) rfl ?_|(apply aZ;exact rfl;exact rfl;exact(F.zl _ rfl))|((apply dG;exact rfl;exact rfl;exact rfl;(focus(kernel_rfl))))|(refine dS rfl rfl rfl Try.underlying43 ?_)))
 refine fF Try.func8 (congrArg Array.toList Try.results8) (by kernel_rfl) (Fnc.mono p6 ?_)
 rintro _ rfl
 refine⟨_,(by(repeat(first|exact ResIs.nil|apply ResIs.cell rfl (LoadIs.one (F.ag _ rfl) (by(repeat(first|exact Tr.ab _ _ _|refine(Tr.aa _ _ (by omega)).trans ?_));done) (bk rfl))))),?_⟩
 dsimp only
 exact⟨rfl,by omega,fun m hm=>by(focus((repeat(refine(Tr.aa _ _ (by omega)).trans ?_));exact rfl))⟩
theorem end_n{H:ar}{nx:Nat}{a b:Int}{x:Nat}:Fnc Try.prog 9 [fq,.agg [.sc (.int .i64 a),.sc (.int .i64 b)],.sc (.int .u64 (x:Int))] H nx (fun q=>q.1 = .sc (.int .i64 1)∧nx≤q.2.2∧ ∀ m,m<nx→q.2.1.at' m=H.at' m):=by
 refine Fnc.start Try.func9 rfl rfl ?_
 (repeat(first|refine an ?_|refine ae ?_|refine ac ?_|refine ay rfl ?_|(apply ai;exact rfl;exact rfl;exact rfl)|(apply bH;exact rfl;exact rfl;exact rfl;exact rfl)|refine aI rfl rfl rfl rfl (F.sz _ rfl) (by(repeat(exact Tr.ab _ _ _));done) rfl (by exact s3 rfl) rfl ?_|(apply aZ;exact rfl;exact rfl;exact(F.zl _ rfl))|(apply ce;exact rfl;exact rfl;exact rfl)|(apply rP;exact rfl;exact rfl;exact rfl;exact rfl)|((apply dG;exact rfl;exact rfl;exact rfl;(focus(kernel_rfl))))|(refine dS rfl rfl rfl Try.underlying43 ?_)))
 refine fF Try.func9 (congrArg Array.toList Try.results9) (by kernel_rfl) (Fnc.mono sM ?_)
 rintro _ rfl
 refine⟨_,(by(repeat(first|exact ResIs.nil|apply ResIs.cell rfl (LoadIs.one (F.ag _ rfl) (by(repeat(exact Tr.ab _ _ _));done) (bk rfl))))),?_⟩
 dsimp only
 exact⟨rfl,by omega,fun m hm=>by(focus((repeat(refine(Tr.aa _ _ (by omega)).trans ?_));exact rfl))⟩
theorem rem_n{H:ar}{nx:Nat}{s:SV}:Fnc Try.prog 10 [fq,s] H nx (fun q=>q.1 = .sc (.int .i64 1)∧nx≤q.2.2∧ ∀ m,m<nx→q.2.1.at' m=H.at' m):=by
 refine Fnc.start Try.func10 rfl rfl ?_
 (repeat(first|refine an ?_|refine ae ?_|refine ac ?_|refine ay rfl ?_|(apply ai;exact rfl;exact rfl;exact rfl)|(apply bH;exact rfl;exact rfl;exact rfl;exact rfl)|refine aI rfl rfl rfl rfl (F.sz _ rfl) (by(repeat(exact Tr.ab _ _ _));done) rfl (by exact s3 rfl) rfl ?_|(apply aZ;exact rfl;exact rfl;exact(F.zl _ rfl))|((apply dG;exact rfl;exact rfl;exact rfl;(focus(kernel_rfl))))|(refine dS rfl rfl rfl Try.underlying43 ?_)))
 refine fF Try.func10 (congrArg Array.toList Try.results10) (by kernel_rfl) (Fnc.mono r8 ?_)
 rintro _ rfl
 refine⟨_,(by(repeat(first|exact ResIs.nil|apply ResIs.cell rfl (LoadIs.one (F.ag _ rfl) (by(repeat(exact Tr.ab _ _ _));done) (bk rfl))))),?_⟩
 dsimp only
 exact⟨rfl,by omega,fun m hm=>by(focus((repeat(refine(Tr.aa _ _ (by omega)).trans ?_));exact rfl))⟩
theorem nu{H:ar}{nx:Nat}:Fnc Try.prog 3 [] H nx (fun q=>q.1 = .sc (.bool true)):=by
 refine Fnc.start Try.func3 rfl rfl ?_
 (repeat(first|refine an ?_|refine ae ?_|refine ac ?_|(apply ah;exact rfl;exact rfl;exact rfl)))
 refine au rfl rfl rfl (by kernel_rfl) (Fnc.mono (gl (k:=⟨#[97]⟩) (x:=1) (s3 rfl)) ?_)
 rintro⟨s1,H1,n1⟩ ⟨a1,a2,a3⟩
 dsimp only at a1 a2 a3 ⊢
 refine au rfl rfl rfl (by kernel_rfl) (Fnc.mono (oP a1) ?_)
 rintro⟨_,H2,n2⟩ ⟨rfl,b1,b2⟩
 clear a1 a2 a3 b1 b2
 dsimp only
 (repeat(first|refine an ?_|refine ae ?_|refine ac ?_|(apply ai;exact rfl;exact rfl;exact rfl)|(apply ah;exact rfl;exact rfl;exact rfl)|(apply aH;exact rfl;exact rfl;exact rfl;exact rfl)|refine aI rfl rfl rfl rfl (F.sz _ rfl) (by(repeat(exact Tr.ab _ _ _));done) rfl (by exact s3 rfl) rfl ?_|(apply aZ;exact rfl;exact rfl;exact(F.zl _ rfl))|(apply cT;exact rfl;exact rfl;exact rfl;exact(F.ze _ rfl);exact(F.pl _ rfl);exact rfl)))
 refine au rfl rfl rfl (by kernel_rfl) (Fnc.mono (get_n (a:=32) (b:=0)) ?_)
 rintro⟨_,H3,n3⟩ ⟨rfl,b1,b2⟩
 clear b1 b2
 dsimp only
 (repeat(first|refine an ?_|refine ae ?_|refine ac ?_|(apply ai;exact rfl;exact rfl;exact rfl)|(apply ah;exact rfl;exact rfl;exact rfl)|(apply aH;exact rfl;exact rfl;exact rfl;exact rfl)|refine aI rfl rfl rfl rfl (F.sz _ rfl) (by(repeat(exact Tr.ab _ _ _));done) rfl (by exact s3 rfl) rfl ?_|(apply aZ;exact rfl;exact rfl;exact(F.zl _ rfl))))
 refine au rfl rfl rfl (by kernel_rfl) (Fnc.mono all_n ?_)
 rintro⟨_,H4,n4⟩ ⟨rfl,b1,b2⟩
 clear b1 b2
 dsimp only
 (repeat(first|refine an ?_|refine ae ?_|refine ac ?_|(apply ai;exact rfl;exact rfl;exact rfl)|(apply ah;exact rfl;exact rfl;exact rfl)|(apply aH;exact rfl;exact rfl;exact rfl;exact rfl)))
 refine au rfl rfl rfl (by kernel_rfl) (Fnc.mono r6 ?_)
 rintro⟨_,H5,n5⟩ ⟨rfl,b1,b2⟩
 clear b1 b2
 dsimp only
 (repeat(first|refine an ?_|refine ae ?_|refine ac ?_|(apply ai;exact rfl;exact rfl;exact rfl)|(apply ah;exact rfl;exact rfl;exact rfl)|(apply bp;exact rfl;exact rfl;exact rfl;exact rfl)|(apply aH;exact rfl;exact rfl;exact rfl;exact rfl)|(apply cT;exact rfl;exact rfl;exact rfl;exact(F.ze _ rfl);exact(F.pl _ rfl);exact rfl)|(refine cI rfl rfl rfl rfl (fun _=>?_) (fun e=>absurd rfl e))))
 refine au rfl rfl rfl (by kernel_rfl) (Fnc.mono (end_n (a:=32) (b:=0) (x:=1)) ?_)
 rintro⟨_,H6,n6⟩ ⟨rfl,b1,b2⟩
 clear b1 b2
 dsimp only
 (repeat(first|(apply ai;exact rfl;exact rfl;exact rfl)|(apply bp;exact rfl;exact rfl;exact rfl;exact rfl)|(refine cI rfl rfl rfl rfl (fun _=>?_) (fun e=>absurd rfl e))))
 refine au rfl rfl rfl (by kernel_rfl) (Fnc.mono (rem_n (s:= .sc (.slice none 0 0))) ?_)
 rintro⟨_,H7,n7⟩ ⟨rfl,b1,b2⟩
 clear b1 b2
 dsimp only
 (repeat(first|refine ac ?_|(apply ai;exact rfl;exact rfl;exact rfl)|(apply ah;exact rfl;exact rfl;exact rfl)|(apply bp;exact rfl;exact rfl;exact rfl;exact rfl)|(refine cI rfl rfl rfl rfl (fun _=>?_) (fun e=>absurd rfl e))|(refine au rfl rfl rfl (by kernel_rfl) (Fnc.mono (qy) ?_);rintro _ rfl;dsimp only)))
 ((apply aP Try.func3 (congrArg Array.toList Try.results3));(focus(repeat(first|exact ResIs.nil|apply ResIs.tmp rfl))))
 rfl
end Go.Proofs.Ytnhmbonmlfeifaa
end
section
namespace Go.Sl
open Go Go.RowKit Go.WideShapes Go.ChangeShapes
theorem post_new{H:Type}{enc:TypeId×Value→H}{P:Program}{f:Func}{s:ChangeSpec}{apart fresh handsOn again:Bool}{W W':World}{args:Array Value}{v:Value}{ds gs:List (DataW H)}{before pa pv:List MemPlace}
 (hW:DataW.Whole enc P f.params.toList s.vars apart W args.toList ds gs before) (hb:Below W.heap.size W W') (hps:before=pa ++ pv)
 (hres: ∀ (b:Nat) (sp:Nat→Bool) (hd:Bool),DataW.TrodAll enc P W' b sp hd f.resultTypes.toList (v.resultList f.resultTypes.size) (s.fn H (ds ++ gs)).results [])
 (hargs: ∀ sp:Nat→Bool,(∀ p∈before,sp p.block=true)→DataW.TrodAll enc P W' 0 sp true f.params.toList args.toList (s.fn H (ds ++ gs)).args pa)
 (hvars: ∀ sp:Nat→Bool,(∀ p∈before,sp p.block=true)→DataW.TrodVars enc P W' sp s.vars (s.fn H (ds ++ gs)).vars pv)
 (hok: ∀ (j:Nat) (t:TypeId) (r:Value),f.resultTypes[j]? =some t→(v.resultList f.resultTypes.size)[j]? =some r→Value.okWide P W' .any 0 t r) :
 s.post enc P f apart fresh handsOn again W args v W':=by
 have hsp: ∀ p∈before,(fun b=>decide (b<W.heap.size)) p.block=true:=fun p hp=>by simpa using hW.lt p hp
 have hmem: ∀ p,p∈pa ++ pv↔p∈before:=fun p=>by rw [hps]
 refine⟨ds,gs,before,[],pa,pv,hW,hres _ _ _,hargs _ hsp,hvars _ hsp,World.keptBut_mono (fun p hp=>⟨hp,?_⟩) (hb.frame (·∈before)),fun _=>?_⟩
 ·have:=(hmem p).2 hp
  rw [List.mem_append] at this
  exact .inr this
 obtain⟨_,_,_,_,_,hz,hn⟩:=id hW
 refine⟨hok,_,_,([] ++ pa) ++ pv,⟨[] ++ pa,pv,trodAll_append (hargs _ (fun _ _=>rfl)) (hres _ _ _),hvars _ (fun _ _=>rfl),rfl,fun b off hp=>?_,fun ha=>?_⟩,fun p hp _=>?_⟩
 ·have hin:MemPlace.cell b off∈before:=(hmem _).1 (by simpa using hp)
  rw [hb.frozen (hW.lt _ hin)]
  exact hz b off hin
 ·have:=hn ha
  rw [hps] at this
  simpa using this
 ·exact(hmem p).1 (by simpa using hp)
end Go.Sl
end
section
namespace Go.Sy
open Go Go.Sl Go.RowKit Go.WideShapes
def fp(w:World):Zone:=⟨fun j=>j<w.heap.size,fun j=>j<w.heap.size,fun _ h=>h⟩
theorem nl(w:World):Kept (fp w) w w:=⟨rfl,rfl,rfl,th _,fun _ h=>h,fun _ _=>rfl⟩
theorem o2{w0 w:World}(h:Kept (fp w0) w0 w):Below w0.heap.size w0 w:=⟨h.os,h.tape,h.output,h.size,fun j hj=>h.block j hj⟩
def ly(sz:Nat):Value→Ent
 | .slice (some a) _ cap=>⟨a.block,a.off,cap,sz,false⟩
 | _=>⟨0,0,0,sz,true⟩
def ArgRow{A:Type}(w:World)(sz:Nat)(f:A→List Value)(v:Value)(l:List A):Prop:=
 (v = .slice none 0 0∧l= [])∨ ∃ (b o len cap:Nat) (cs:Array Value) (tt:TypeId) (fz:Nat×Nat),v = .slice (some ⟨b,o,none⟩) len cap∧w.heap[b]? =some (.cells cs tt fz)∧len=l.length∧len≤cap∧cap≤maxLen∧o+cap*sz≤cs.size ∧
   ∀ i c,l[i]? =some c→ ∀ j,j<sz→cs[o+i*sz+j]? =(f c)[j]?
theorem ArgRow.conc{A:Type}{w:World}{sz:Nat}{f:A→List Value}{v:Value}{l:List A}(h:ArgRow w sz f v l){e:Env}{b:Nat}(he:e b=some (ly sz v)):(SV.slu b 0 l.length).conc e=some v:=by
 rcases h with ⟨rfl,rfl⟩|⟨b',o,len,cap,cs,tt,fz,rfl,h2,rfl,h3,h4,h5,h6⟩
 ·simp [SV.conc,he,ly,Ent.at]
 ·simp [SV.conc,he,ly,Ent.at]
theorem li{A:Type}{f:A→List Value}{sz:Nat}(hf: ∀ a,(f a).length=sz): ∀ (l:List A) (i j:Nat),j<sz→(l.flatMap f)[i*sz+j]? =(l[i]?).bind (fun c=>(f c)[j]?)
 | [],i,j,_=>by simp
 | a :: l,0,j,hj=>by
   rw [List.flatMap_cons,te (by rw [hf];omega)]
   simp
 | a :: l,i+1,j,hj=>by
   rw [List.flatMap_cons,List.getElem?_append_right (by rw [hf,Nat.add_mul];omega),hf,show(i+1)*sz+j-sz=i*sz+j by rw [Nat.add_mul];omega,li hf l i j hj]
   simp
theorem ArgRow.lies{A:Type}{w:World}{sz:Nat}{f:A→List Value}{v:Value}{l:List A}(h:ArgRow w sz f v l)(hf: ∀ a,(f a).length=sz)(h0:0<sz)(rt:TypeId)(e:Env):Lies (fp w) w e (dat true l.length sz rt (l.flatMap f)) (ly sz v):=by
 rcases h with ⟨rfl,rfl⟩|⟨b,o,len,cap,cs,tt,fz,rfl,h2,rfl,h3,h4,h5,h6⟩
 ·exact .inr ⟨rfl,rfl,true,rt,_,rfl,h0⟩
 ·refine .inl ⟨rfl,.cells cs tt fz,⟨fun _=>cR h2,fun h=>by cases h⟩,h2,rfl,cs,fz,tt,rfl,h3,h5,h4,(fun h=>by cases h),h0,fun i hi s hs=>?_⟩
  have hs':((l.flatMap f)[i]?).map SV.sc=some s:=hs
  obtain⟨u,hu,rfl⟩:=s7.1 hs'
  refine⟨u,rfl,?_⟩
  have hdm:=Nat.div_add_mod i sz
  have hm:=Nat.mod_lt i h0
  have e1:i=i / sz*sz+i % sz:=by rw [Nat.mul_comm];omega
  rw [e1,li hf l _ _ hm] at hu
  obtain⟨c,hc,hcu⟩:=Option.bind_eq_some_iff.1 hu
  have:=h6 (i / sz) c hc (i % sz) hm
  show cs[o+i]? =some u
  rw [e1,←Nat.add_assoc,this]
  exact hcu
theorem St.init{w:World}{e:Env}{H:ar}{nx:Nat}(h1: ∀ id vo,H.at' id=some vo→vo.ro=true∧ ∃ x,e id=some x∧Lies (fp w) w e vo x)(h2: ∀ i,nx≤i→e i=none):St (fp w) w e H nx w:=
 ⟨nl w,fun id vo h=>(h1 id vo h).2,fun id id' vo vo' x x' h _ _ _ _ _ _ hr _=>by(rw [(h1 id vo h).1] at hr;cases hr),h2⟩
end Go.Sy
end
