import Derived.WalkKit
import Derived.ProofKit
import Derived.OpenShut
import Derived.Below
import Derived.ChangeSame
import Derived.Carry
import Derived.ChangeArms
import Derived.Test.YtbmekelkddllkaaChecked
import Derived.Test.YtbmekelkddllkaaB8
set_option linter.unusedVariables false
set_option linter.unusedSimpArgs false
set_option maxRecDepth 100000
set_option maxHeartbeats 0
section
namespace Go.Proofs.Ytbmekelkddllkaa
open Go Go.Sy Go.Sl Go.RowKit
def Wrote(ls:List (StepT×SV)):Int→Sct→Prop:=fun m w=> ∃ x∈ls,(x.1.kind=2∨x.1.kind=8)∧x.1.n=m∧w=Sct.full x.1.b
theorem kX(D:DD)(k:ByteArray)(n:Int):(D.read k n).2=D.look k n:=by
 unfold DD.read
 split
 ·rfl
 ·rename_i h
  simp only [ne_eq,Decidable.not_not] at h
  exact h.symm
theorem wZ{P:Program}{ro:Option Nat}{fn nt nx:Nat}{T:Tr SV}{it:AIt}{k:List AIt}{dfs:List ADf}{H:aJ}{Q:Pst}{α:Type}(sl:α→List (Nat×SV))(I:α→aJ→Nat→Prop)
 (body: ∀ k',(∀ T' H' nx' a',I a' H' nx'→(∀ n x,(slT (sl a')).at' n=some x→T'.at' n=some x)→Wp P ro ⟨fn,nt,T',k',dfs,H',nx'⟩ Q)→Wp P ro ⟨fn,nt,T,it :: k',dfs,H,nx⟩ Q)
 (rest: ∀ a H nx,I a H nx→Wp P ro ⟨fn,nt,slT (sl a),k,dfs,H,nx⟩ Q):Wp P ro ⟨fn,nt,T,it :: k,dfs,H,nx⟩ Q:=
 body k fun T' H' nx' a' ha hs=>Wp.less (rest a' H' nx' ha) hs (Tr.le_refl _)
theorem y5{H:aJ}{nx r:Nat}{ro:Bool}{ls:List (StepT×SV)}(pv:SV)(picks:List Int)(name:ByteArray)(n:Int)(hr:H.at' r=some (stR ro ls))(hp: ∀ x∈ls,PickIs H x.2 x.1.picks)(hl:ls.length≤9223372036854775807)(hb: ∀ x∈ls,-9223372036854775808≤x.1.n∧x.1.n≤9223372036854775807)(hpk:PickIs H pv picks)(hpl:picks.length≤9223372036854775807)(hname:name.size≤140737488355328):Fnc Try.prog 4 [.slu r 0 ls.length,pv,.sc (kE name),.sc (iE n)] H nx (fun q=>q.1 = .sc (.bool true)):=by
 refine Fnc.start Try.func4 rfl rfl ?_
 refine ca fun hund=>?_
 have lr:=hund _ _ hr
 (repeat(first|refine aj ?_|refine ac ?_|refine ab ?_|refine aA ?_|refine am rfl ?_|(apply ai;exact rfl;exact rfl;exact rfl)|(apply ah;exact rfl;exact rfl;exact rfl)|(apply cG;exact rfl;exact rfl;exact rfl)|(refine aL rfl rfl rfl (by kernel_rfl) (Fnc.mono (xL) ?_);rintro _ rfl;dsimp only)))
 refine aL rfl rfl rfl (by kernel_rfl) (Fnc.mono (yP (ro:=ro) 150 (by decide) hr hp hl) ?_)
 rintro _ ⟨b,rfl,hmu⟩
 dsimp only
 cases b with
 | true=>
   (repeat(first|refine aj ?_|refine ac ?_|refine ab ?_|refine ar rfl ?_|(apply ai;exact rfl;exact rfl;exact rfl)|(apply ah;exact rfl;exact rfl;exact rfl)|(apply dz;exact rfl;exact rfl;exact rfl;exact rfl)|(apply jn;exact rfl)))
   ((apply aQ Try.func4 (congrArg Array.toList Try.results4));(focus(repeat(first|exact ResIs.nil|apply ResIs.tmp rfl))))
   rfl
 | false=>
   obtain⟨hn,hsz⟩:=hmu rfl
   clear hmu
   have hlenP: ∀ {T:Tr SV} {x:Operand} {d:Option Tmp} {ty:TypeId} {pos:String} {af:Array Edge} {gd:Option (Nat×Bool)},ao T x=some pv→ReadDoes Try.prog T H ⟨d,.call {callee:= .builtin .len,args:= #[x],argTypes:= #[33]},ty,pos,af,gd⟩ (.sc (.int .i64 (picks.length:Int))):=fun hx=>te (F.un _ rfl) hx hpk
   (repeat(apply ai;exact rfl;exact rfl;exact rfl))
   refine bD rfl (.inr (fun _ h=>by cases h)) ((hlenP rfl).does) ?_
   rw [aB rfl]
   (apply dS;exact rfl;exact rfl;exact rfl;exact rfl)
   all_goals intro h1
   ·(repeat(first|refine aj ?_|refine ac ?_|refine ab ?_|refine ar rfl ?_|(apply ah;exact rfl;exact rfl;exact rfl)|(apply bL;exact rfl;exact rfl;exact rfl;exact rfl)))
    ((apply aQ Try.func4 (congrArg Array.toList Try.results4));(focus(repeat(first|exact ResIs.nil|apply ResIs.tmp rfl))))
    rfl
   (repeat(first|refine aj ?_|refine ac ?_|refine ab ?_|refine aE ?_|refine aA ?_|refine am rfl ?_|(apply ai;exact rfl;exact rfl;exact rfl)|(apply ah;exact rfl;exact rfl;exact rfl)|(apply bL;exact rfl;exact rfl;exact rfl;exact rfl)|(apply bp;exact rfl;exact rfl;exact rfl;exact rfl)|(apply eI;exact rfl;exact rfl;exact rfl;exact rfl;exact(F.un _ rfl);exact rfl)|(refine aL rfl rfl rfl (by kernel_rfl) (Fnc.mono (yO 200 (by decide) (by decide)) ?_);rintro _ rfl;dsimp only)|(refine aL rfl rfl rfl (by kernel_rfl) (Fnc.mono (gr _) ?_);rintro _ rfl;dsimp only)|(refine fe rfl rfl rfl rfl (fun hq=>absurd rfl hq) (fun _=>?_))))
   have hcon: ∀ {α:Type} (e:α→Prop) (x:α),True:=fun _ _=>trivial
   refine dy (α:=Nat×Nat) (fun x=> [(0,.slu r 0 ls.length),(1,pv),(2,.sc (kE name)),(3,.sc (iE n)),(8,.sc (.bool false)),(9,.ptr x.2 0),(11,.sc (.int .i64 (x.1:Int)))]) (fun x H1 n1=>x.1≤ls.length∧nx≤n1∧(∃ D F,DAt x.2 D F H1∧D.Ok x.1∧Wr D.files (Wrote ls)∧ ∀ z,F z→nx≤z)∧ ∀ z,z<nx→H1.at' z=H.at' z) (fun x=>ls.length-x.1) (0,nx+1)
    ⟨zA _,by omega,⟨DD.new 200,_,wJ (by decide),⟨Fok.nil,zy _,by decide,by decide⟩,Wr.nil,fun z hz=>by omega⟩,fun z hz=>by(focus((repeat(refine(Tr.aa _ _ (by omega)).trans ?_));exact rfl))⟩ (SlIn.sub (by repeat(first|exact trivial|refine⟨rfl,?_⟩))) ?_
   rintro⟨i,y⟩ H1 n1 ⟨g1,g2,⟨D,F0,g5,g6,g7,g8⟩,g9⟩ again
   dsimp only at g1 g5 g6 g7 g8 again ⊢
   (repeat(first|refine aj ?_|refine ac ?_|(apply ai;exact rfl;exact rfl;exact rfl)|(apply dj;exact rfl;exact rfl;exact rfl;exact(F.un _ rfl))))
   (apply cN;exact rfl;exact rfl;exact rfl;exact rfl)
   all_goals intro h3
   ·have hi:i<ls.length:=by omega
    have hmem:ls[i]∈ls:=zJ hi
    have hr1:=(g9 r lr).trans hr
    (repeat(first|refine aj ?_|refine ac ?_|refine ab ?_|refine aE ?_|refine aA ?_|refine ar rfl ?_|(apply ai;exact rfl;exact rfl;exact rfl)|refine kf (q:=i) rfl rfl rfl rfl (F.un _ rfl) (F.sz _ rfl) (by assumption) (by omega) (by(omega)) (zy _) ?_|(refine gf rfl rfl rfl (F.ag _ rfl) hr1 (vi hi) ?_)))
    refine aL rfl rfl rfl (by kernel_rfl) (Fnc.mono (do_t g5 g6 (by omega) ls[i].1 ((hp _ hmem).frame hund g9) (by have:=(hsz _ hmem).1;omega) (by have:=(hsz _ hmem).2;omega)) ?_)
    rintro⟨_,H2,n2⟩ ⟨e,y',D',F',rfl,hact,hA,hS⟩
    dsimp only at hA hS ⊢
    have hR:=dP g6 hact (hb _ hmem)
    have hW:=y8 g6 g7 hact (fun hk=>⟨_,hmem,hk,rfl,rfl⟩)
    (repeat(first|refine aj ?_|refine ac ?_|refine ab ?_|refine ax ?_|refine aA ?_|refine am rfl ?_|(apply ai;exact rfl;exact rfl;exact rfl)|(apply ah;exact rfl;exact rfl;exact rfl)|(apply bp;exact rfl;exact rfl;exact rfl;exact rfl)|(apply eI;exact rfl;exact rfl;exact rfl;exact rfl;exact(F.un _ rfl);exact rfl)|(apply bi;exact rfl;exact rfl;exact rfl;exact rfl;(focus(omega));(focus(omega)))))
    refine again _ _ _ (i+1,y') ⟨by show i+1≤_;omega,zH g2 hS.1,⟨D',F',hA,hR.ok,hW,fun z hz=>?_⟩,fun z hz=>(hS.2.2 z (by omega) (fun h=>by have:=g8 z h;omega)).trans (g9 z hz)⟩ (by show ls.length-(i+1)<ls.length-i;omega) (SlIn.sub (by repeat(first|exact trivial|refine⟨rfl,?_⟩)))
    rcases hS.2.1 z hz with h|h
    ·exact g8 z h
    ·omega
   ·obtain rfl:i=ls.length:=by omega
    clear again
    have okD:D.Ok 150:=g6.mono hn
    refine ca fun hu1=>?_
    have hltD:=g5.lt hu1
    (repeat(first|refine aj ?_|refine ac ?_|refine ab ?_|refine aS rfl ?_|refine am rfl ?_|(apply ai;exact rfl;exact rfl;exact rfl)))
    refine aL rfl rfl rfl (by kernel_rfl) (Fnc.mono (jj g5 okD (by decide) (hpk.frame hund g9)) ?_)
    rintro⟨_,Hc,nc⟩ ⟨c,C,FC,rfl,hC,hL,_,hFC,hnc,hoc⟩
    dsimp only at hC hFC hnc hoc ⊢
    have okC:=hL.ok okD
    (repeat(first|refine aj ?_|refine ac ?_|refine ab ?_|(apply ai;exact rfl;exact rfl;exact rfl)|(apply ah;exact rfl;exact rfl;exact rfl)|(apply eI;exact rfl;exact rfl;exact rfl;exact rfl;exact(F.un _ rfl);exact rfl)))
    have hdead:=yY (nx:=nc) hC
    rw [hL.dead] at hdead
    have hchg:=uD (nx:=nc) hC
    rw [hL.changes] at hchg
    (repeat(first|(apply ai;exact rfl;exact rfl;exact rfl)|(apply bL;exact rfl;exact rfl;exact rfl;exact rfl)|(refine aL rfl rfl rfl (by kernel_rfl) (Fnc.mono (hdead) ?_);rintro _ rfl;dsimp only)|(refine aL rfl rfl rfl (by kernel_rfl) (Fnc.mono (hchg) ?_);rintro _ rfl;dsimp only)|(refine fe rfl rfl rfl rfl (fun hq=>absurd rfl hq) (fun _=>?_))))
    refine aL rfl rfl rfl (by kernel_rfl) (Fnc.mono (jj (l:= []) (v:= .sc (.slice none 0 0)) hC okC (by decide) (.inl ⟨none,0,rfl,rfl⟩)) ?_)
    rintro⟨_,Hd,nd⟩ ⟨c1,C1,F1,rfl,hC1,hL1,_,hF1,hnd,hod⟩
    dsimp only at hC1 hF1 hnd hod ⊢
    have hCd:DAt c C FC Hd:=hC.frame fun z hz=>hod z (hFC z hz).2
    have hsame1:=wF (nx:=nd) hCd hC1 okC (hL1.ok okC) (by decide) (hL1.same hL.quiet)
    (repeat(first|(apply ai;exact rfl;exact rfl;exact rfl)|(apply bL;exact rfl;exact rfl;exact rfl;exact rfl)|(apply cG;exact rfl;exact rfl;exact rfl)|(refine aL rfl rfl rfl (by kernel_rfl) (Fnc.mono (hsame1) ?_);rintro _ rfl;dsimp only)|(apply fw;exact rfl;exact rfl;exact(F.un _ rfl);exact(F.sz _ rfl);exact rfl;exact(F.ze _ rfl);exact rfl;exact rfl;exact rfl;exact rfl;exact rfl)))
    refine dR (R:=fun He ne=>ne=nd+1∧He.at' nd=some (dat false 3 1 3 [.int .i64 1,.int .i64 1,.int .i64 1])∧ ∀ z,z<nd→He.at' z=Hd.at' z) ⟨rfl,(Tr.ae _ _ _).trans (congrArg some (iL false 3 1 3 [.int .i64 1,.int .i64 1,.int .i64 1])),fun z hz=>by(focus((repeat(refine(Tr.aa _ _ (by omega)).trans ?_));exact rfl))⟩ ?_
    rintro He ne ⟨rfl,hpe,hoe⟩
    have hCe:DAt c C FC He:=hCd.frame fun z hz=>hoe z (by have:=(hFC z hz).2;omega)
    refine aL rfl rfl rfl (by kernel_rfl) (Fnc.mono (jj (l:= [1,1,1]) (v:= .slu nd 0 3) hCe okC (by decide) (.inr (.inr ⟨nd,0,false,3,_,[.int .i64 1,.int .i64 1,.int .i64 1],rfl,hpe,by decide,by decide,fun i hi=>by(have h3:i=0∨i=1∨i=2:=by have:i<3:=hi;omega);rcases h3 with rfl|rfl|rfl <;> rfl⟩))) ?_)
    rintro⟨_,Hf,nf⟩ ⟨c2,C2,F2,rfl,hC2,hL2,_,hF2,hnf,hof⟩
    dsimp only at hC2 hF2 hnf hof ⊢
    have hCf:DAt c C FC Hf:=hCe.frame fun z hz=>hof z (by have:=(hFC z hz).2;omega)
    have hsame2:=wF (nx:=nf) hCf hC2 okC (hL2.ok okC) (by decide) (hL2.same hL.quiet)
    have hrC:=kn (nx:=nf) hCf okC (by decide) name hname n
    rw [kX,hL.look] at hrC
    have hDf:DAt y D F0 Hf:=g5.frame fun z hz=>(hof z (by have:=hltD z hz;omega)).trans ((hoe z (by have:=hltD z hz;omega)).trans ((hod z (by have:=hltD z hz;omega)).trans (hoc z (hltD z hz))))
    (repeat(first|refine aj ?_|refine ac ?_|refine ab ?_|refine aA ?_|refine am rfl ?_|(apply ai;exact rfl;exact rfl;exact rfl)|(apply ah;exact rfl;exact rfl;exact rfl)|(apply bL;exact rfl;exact rfl;exact rfl;exact rfl)|(apply bp;exact rfl;exact rfl;exact rfl;exact rfl)|(apply cG;exact rfl;exact rfl;exact rfl)|(refine aL rfl rfl rfl (by kernel_rfl) (Fnc.mono (hsame2) ?_);rintro _ rfl;dsimp only)|(refine aL rfl rfl rfl (by kernel_rfl) (Fnc.mono (hrC) ?_);rintro _ rfl;dsimp only)|(refine cy rfl rfl sh ?_)|(refine eP rfl rfl rfl (F.sz _ rfl) (by(repeat(exact Tr.ae _ _ _));done) (bm _) (by rw [bm];exact zy _) (eJ _) (dG _ _) ?_)))
    refine dR (R:=fun Hg ng=>ng=nf+1∧Hg.at' nf=some (ak 45 (cF (C.read name n).1))∧ ∀ z,z<nf→Hg.at' z=Hf.at' z) ⟨rfl,(by(exact Tr.ae _ _ _)),fun z hz=>by(focus((repeat(refine(Tr.aa _ _ (by omega)).trans ?_));exact rfl))⟩ ?_
    rintro Hg ng ⟨rfl,hg1,hog⟩
    have hDg:DAt y D F0 Hg:=hDf.frame fun z hz=>hog z (by have:=hltD z hz;omega)
    refine aL rfl rfl rfl (by kernel_rfl) (Fnc.mono (jj (l:= []) (v:= .sc (.slice none 0 0)) hDg okD (by decide) (.inl ⟨none,0,rfl,rfl⟩)) ?_)
    rintro⟨_,Hh,nh⟩ ⟨e1,E,FE,rfl,hE,hLE,_,hFE,hnh,hoh⟩
    dsimp only at hE hFE hnh hoh ⊢
    have hrE:=kn (nx:=nh) hE (hLE.ok okD) (by decide) name hname n
    rw [kX,hLE.look] at hrE
    (repeat(first|refine aj ?_|refine ac ?_|refine ab ?_|(apply ai;exact rfl;exact rfl;exact rfl)|(apply ah;exact rfl;exact rfl;exact rfl)|(apply bp;exact rfl;exact rfl;exact rfl;exact rfl)|(refine aL rfl rfl rfl (by kernel_rfl) (Fnc.mono (hrE) ?_);rintro _ rfl;dsimp only)|(refine cy rfl rfl sh ?_)|(refine eP rfl rfl rfl (F.sz _ rfl) (by(repeat(first|assumption|exact Tr.ae _ _ _));done) (bm _) (by rw [bm];exact zy _) (eJ _) (dG _ _) ?_)))
    refine dR (R:=fun Hi ni=>ni=nh+1∧Hi.at' nf=some (ak 45 (cF (C.read name n).1))∧Hi.at' nh=some (ak 45 (cF (E.read name n).1))∧ ∀ z,z<nf→Hi.at' z=Hf.at' z) ⟨rfl,by(focus((repeat(refine(Tr.aa _ _ (by omega)).trans ?_));exact(hoh nf (by omega)).trans hg1)),(by(exact Tr.ae _ _ _)),fun z hz=>by(focus((repeat(refine(Tr.aa _ _ (by omega)).trans ?_));exact(hoh z (by omega)).trans (hog z hz)))⟩ ?_
    rintro Hi ni ⟨rfl,hi1,hi2,hoi⟩
    have hDi:DAt y D F0 Hi:=hDf.frame fun z hz=>hoi z (by have:=hltD z hz;omega)
    have hrD:=kn (nx:=nh+1) hDi okD (by decide) name hname n
    rw [kX] at hrD
    (repeat(first|refine aj ?_|refine ac ?_|refine ab ?_|(apply ai;exact rfl;exact rfl;exact rfl)|(apply ah;exact rfl;exact rfl;exact rfl)|(apply bp;exact rfl;exact rfl;exact rfl;exact rfl)|(refine aL rfl rfl rfl (by kernel_rfl) (Fnc.mono (hrD) ?_);rintro _ rfl;dsimp only)|(refine cy rfl rfl sh ?_)|(refine eP rfl rfl rfl (F.sz _ rfl) (by(repeat(first|assumption|exact Tr.ae _ _ _));done) (bm _) (by rw [bm];exact zy _) (eJ _) (dG _ _) ?_)))
    refine dR (R:=fun Hj nj=>nj=nh+1+1∧Hj.at' nf=some (ak 45 (cF (C.read name n).1))∧Hj.at' nh=some (ak 45 (cF (E.read name n).1))∧Hj.at' (nh+1)=some (ak 45 (cF (D.read name n).1))∧ ∀ z,z<nf→Hj.at' z=Hf.at' z) ⟨rfl,by(focus((repeat(refine(Tr.aa _ _ (by omega)).trans ?_));exact hi1)),by(focus((repeat(refine(Tr.aa _ _ (by omega)).trans ?_));exact hi2)),(by(exact Tr.ae _ _ _)),fun z hz=>by(focus((repeat(refine(Tr.aa _ _ (by omega)).trans ?_));exact hoi z hz))⟩ ?_
    rintro Hj nj ⟨rfl,hj1,hj2,hj3,hoj⟩
    have hCj:DAt c C FC Hj:=hCf.frame fun z hz=>hoj z (by have:=(hFC z hz).2;omega)
    have hDj:DAt y D F0 Hj:=hDf.frame fun z hz=>hoj z (by have:=hltD z hz;omega)
    have hrj:Hj.at' r=some (stR ro ls):=(hoj r (by omega)).trans ((hof r (by omega)).trans ((hoe r (by omega)).trans ((hod r (by omega)).trans ((hoc r (by omega)).trans ((g9 r lr).trans hr)))))
    (repeat(first|refine aj ?_|refine ac ?_|refine ab ?_|refine aA ?_|refine am rfl ?_|(apply ai;exact rfl;exact rfl;exact rfl)|(apply bL;exact rfl;exact rfl;exact rfl;exact rfl)|(refine aL rfl rfl rfl (by kernel_rfl) (Fnc.mono (gr _) ?_);rintro _ rfl;dsimp only)|(refine fe rfl rfl rfl rfl (fun hq=>absurd rfl hq) (fun _=>?_))))
    (apply fe;exact rfl;exact rfl;exact rfl;exact rfl)
    all_goals intro h0
    ·(repeat(first|refine aj ?_|refine ac ?_|refine ab ?_|refine ar rfl ?_|(apply ah;exact rfl;exact rfl;exact rfl)))
     ((apply aQ Try.func4 (congrArg Array.toList Try.results4));(focus(repeat(first|exact ResIs.nil|apply ResIs.tmp rfl))))
     rfl
    obtain⟨_,_,_,l1,l2,l3,l4⟩:=vM g7 hL hLE name n h0
    have hlC:=tT (nx:=nh+1+1) hCj name hname n
    rw [l1] at hlC
    have hlD:=tT (nx:=nh+1+1) hDj name hname n
    rw [l2] at hlD
    (repeat(first|refine aj ?_|refine ac ?_|refine ab ?_|refine aA ?_|refine am rfl ?_|(apply ai;exact rfl;exact rfl;exact rfl)|(apply ah;exact rfl;exact rfl;exact rfl)|(apply bL;exact rfl;exact rfl;exact rfl;exact rfl)|(apply bp;exact rfl;exact rfl;exact rfl;exact rfl)|(apply bi;exact rfl;exact rfl;exact rfl;exact rfl;(focus(omega));(focus(omega)))|(apply cG;exact rfl;exact rfl;exact rfl)|(refine aL rfl rfl rfl (by kernel_rfl) (Fnc.mono (hlC) ?_);rintro _ rfl;dsimp only)|(refine aL rfl rfl rfl (by kernel_rfl) (Fnc.mono (hlD) ?_);rintro _ rfl;dsimp only)|(refine aL rfl rfl rfl (by kernel_rfl) (Fnc.mono (gr _) ?_);rintro _ rfl;dsimp only)|(refine fe rfl rfl rfl rfl (fun hq=>absurd (by omega) hq) (fun _=>?_))))
    refine wZ (α:=Unit) (fun _=> [(0,.slu r 0 ls.length),(3,.sc (iE n)),(8,.sc (.bool false)),(13,.ptr nf 0),(15,.ptr nh 0),(164,.sc (.bool false))]) (fun _ H' n'=>Hj=H'∧nh+1+1=n') (fun k' out=>?_) ?_
    ·cases hcalm:(D.lasts name n).1 with
     | true=>
       obtain⟨m1,m2⟩:=l3 hcalm
       (repeat(first|refine ab ?_|(apply ai;exact rfl;exact rfl;exact rfl)|(apply dz;exact rfl;exact rfl;exact rfl;exact rfl)|(apply bL;exact rfl;exact rfl;exact rfl;exact rfl)|(refine gf rfl rfl rfl (F.ag _ rfl) hj1 (ck _) ?_)|(refine gf rfl rfl rfl (F.ag _ rfl) hj2 (ck _) ?_)|(refine gf rfl rfl rfl (F.ag _ rfl) hj3 (ck _) ?_)|((apply qj (b:=false);exact rfl;exact rfl;exact rfl;exact rfl;(focus(rw [decide_eq_true m1];rfl))))|((apply qj (b:=false);exact rfl;exact rfl;exact rfl;exact rfl;(focus(rw [decide_eq_true m2];rfl))))))
       exact out _ _ _ () ⟨rfl,rfl⟩ (SlIn.sub (by repeat(first|exact trivial|refine⟨rfl,?_⟩)))
     | false=>
       (repeat(first|refine ab ?_|(apply bL;exact rfl;exact rfl;exact rfl;exact rfl)|(apply jn;exact rfl)))
       exact out _ _ _ () ⟨rfl,rfl⟩ (SlIn.sub (by repeat(first|exact trivial|refine⟨rfl,?_⟩)))
    rintro _ _ _ ⟨rfl,rfl⟩
    generalize hsv:(C.read name n).1=sv at l4 hj1
    generalize hev:(E.read name n).1=ev at l4 hj2
    clear l1 l2 l3 hlC hlD hCj hDj hrC hrE hrD hsv hev hCe hCd hC hDi hDf hDg g5
    (repeat(first|refine aj ?_|refine ac ?_|refine ab ?_|refine aE ?_|refine aA ?_|refine am rfl ?_|(apply ah;exact rfl;exact rfl;exact rfl)|(refine gf rfl rfl rfl (F.ag _ rfl) hj1 (ck _) ?_)|(refine gf rfl rfl rfl (F.ag _ rfl) hj2 (ck _) ?_)|((apply uS (b:=decide (sv=ev));exact rfl;exact rfl;exact rfl;exact rfl;exact rfl))))
    have hrd: ∀ n:Nat,True:=fun _=>trivial
    refine dy (α:=Nat×Bool) (fun x=> [(0,.slu r 0 ls.length),(3,.sc (iE n)),(13,.ptr nf 0),(23,.sc (.bool x.2)),(24,.sc (.int .i64 (x.1:Int)))]) (fun x H' n'=>Hj=H'∧nh+1+1=n'∧x.1≤ls.length∧(x.2=false→sv≠ev∧ ∀ j (hj:j<x.1) (hl:j<ls.length),¬ ((ls[j].1.kind=2∨ls[j].1.kind=8)∧ls[j].1.n=n∧sv=Sct.full ls[j].1.b))) (fun x=>ls.length-x.1) (0,decide (sv=ev))
     ⟨rfl,rfl,zA _,fun h=>⟨of_decide_eq_false h,fun j hj=>absurd hj (Nat.not_lt_zero _)⟩⟩ (SlIn.sub (by repeat(first|exact trivial|refine⟨rfl,?_⟩))) ?_
    rintro⟨k,f⟩ _ _ ⟨rfl,rfl,p3,p4⟩ again
    dsimp only at p3 p4 again ⊢
    (repeat(first|refine aj ?_|refine ac ?_|(apply ai;exact rfl;exact rfl;exact rfl)|(apply dj;exact rfl;exact rfl;exact rfl;exact(F.un _ rfl))))
    have fin:f=true∨k<ls.length:=by
     rcases Nat.lt_or_ge k ls.length with h|h
     ·exact .inr h
     ·left
      cases f with
      | true=>rfl
      | false=>
        exfalso
        obtain⟨q1,q2⟩:=p4 rfl
        rcases l4 with h4|⟨x,hx,hk,hn2,hw⟩
        ·exact q1 h4
        ·obtain⟨j,hj⟩:=List.mem_iff_getElem?.1 hx
         obtain⟨hlt,hj2⟩:=zh.1 hj
         refine q2 j (by omega) hlt ?_
         rw [hj2]
         exact⟨hk,hn2,hw⟩
    (apply cN;exact rfl;exact rfl;exact rfl;exact rfl)
    all_goals intro h5
    ·have hk:k<ls.length:=by omega
     cases f with
     | true=>
       (repeat(first|refine aj ?_|refine ac ?_|refine ab ?_|refine aS rfl ?_|refine am rfl ?_|(apply ai;exact rfl;exact rfl;exact rfl)|(apply ah;exact rfl;exact rfl;exact rfl)|(apply dz;exact rfl;exact rfl;exact rfl;exact rfl)|(apply cG;exact rfl;exact rfl;exact rfl)))
       ((apply aQ Try.func4 (congrArg Array.toList Try.results4));(focus(repeat(first|exact ResIs.nil|apply ResIs.tmp rfl))))
       rfl
     | false=>
       obtain⟨q1,q2⟩:=p4 rfl
       have nxt: ∀ g:Bool,(g=false→ ¬ ((ls[k].1.kind=2∨ls[k].1.kind=8)∧ls[k].1.n=n∧sv=Sct.full ls[k].1.b))→(g=false→sv≠ev∧ ∀ j (hj:j<k+1) (hl:j<ls.length),¬ ((ls[j].1.kind=2∨ls[j].1.kind=8)∧ls[j].1.n=n∧sv=Sct.full ls[j].1.b)):=fun g hg h=>⟨q1,fun j hj hl=>by
        rcases Nat.lt_or_ge j k with h'|h'
        ·exact q2 j h' hl
        ·obtain rfl:j=k:=by omega
         exact hg h⟩
       clear p4 fin l4
       (repeat(first|refine aj ?_|refine ab ?_|refine aE ?_|refine aA ?_|refine ar rfl ?_|(apply ai;exact rfl;exact rfl;exact rfl)|(apply dz;exact rfl;exact rfl;exact rfl;exact rfl)|(apply cG;exact rfl;exact rfl;exact rfl)))
       (apply ff;(focus(kernel_rfl));(focus(kernel_rfl)))
       repeat' (first|(apply ay;exact rfl;exact rfl;exact rfl)|(apply dm;exact rfl;exact rfl;exact rfl)|(apply bS;exact rfl;exact rfl;exact rfl;exact rfl)|(apply bK;exact rfl;exact rfl;exact rfl;exact rfl)|(apply aZ;exact rfl;exact rfl;exact rfl;exact(F.fo _ _ rfl rfl))|(apply cn;exact rfl;exact rfl)|(refine d9 rfl rfl rfl (F.ag _ rfl) hj1 (ck _) ?_)|refine au (q:=k) rfl rfl rfl rfl (F.un _ rfl) (F.sz _ rfl) (by assumption) (by omega) (by(omega)) (zy _) ?_|(refine uv rfl rfl rfl (F.ag _ rfl) hrj (my hk rfl) ?_)|((apply a8;exact rfl;exact rfl;exact rfl;(focus(kernel_rfl));exact(i9 ls[k].1.b)))|(apply bj;exact rfl;exact rfl;exact(fun _ h=>by cases h);exact(fN (s:=sv) (s':=Sct.full ls[k].1.b) (b:=decide (sv=Sct.full ls[k].1.b)) rfl rfl rfl))|(refine uu rfl rfl rfl rfl ?_ ?_ <;> intro hq))
       all_goals
        ((refine aF ?_);(refine⟨by kernel_rfl,?_,?_⟩);(focus(repeat(first|exact trivial|refine⟨.inl (c7 rfl),?_⟩|refine⟨.inl (wc rfl),?_⟩|refine⟨.inr ⟨0,by kernel_rfl,AllH.all (fun _=>(by first|exact aC rfl|exact be (F.fo _ _ rfl rfl) rfl|exact ew rfl|exact aY rfl rfl|exact jt rfl rfl)) _⟩,?_⟩|refine⟨.inr ⟨0,by kernel_rfl,(by(refine⟨(by first|exact bY (F.ag _ rfl) rfl hj1 (ck _)|exact aH (F.un _ rfl) (F.sz _ rfl) rfl rfl hrj rfl hk (zy _)|exact aU (F.ag _ rfl) rfl hrj (my hk rfl)|exact fN (s:=sv) (s':=Sct.full ls[k].1.b) (b:=decide (sv=Sct.full ls[k].1.b)) rfl rfl rfl|exact fO rfl rfl (.inl ⟨rfl,by first|(simp;omega)|(symm;simp;omega)⟩)),?_⟩;(repeat(refine⟨(by first|exact bY (F.ag _ rfl) rfl hj1 (ck _)|exact aH (F.un _ rfl) (F.sz _ rfl) rfl rfl hrj rfl hk (zy _)|exact aU (F.ag _ rfl) rfl hrj (my hk rfl)|exact fN (s:=sv) (s':=Sct.full ls[k].1.b) (b:=decide (sv=Sct.full ls[k].1.b)) rfl rfl rfl|exact fO rfl rfl (.inl ⟨rfl,by first|(simp;omega)|(symm;simp;omega)⟩)),?_⟩));exact trivial))⟩,?_⟩)))
         dsimp only [wrL]
         (repeat(first|refine ac ?_|refine ab ?_|refine ax ?_|(apply ai;exact rfl;exact rfl;exact rfl)|(apply ah;exact rfl;exact rfl;exact rfl)|(apply bi;exact rfl;exact rfl;exact rfl;exact rfl;(focus(omega));(focus(omega)))))
         first
          | exact again _ _ _ (k+1,false) ⟨rfl,rfl,hk,nxt false fun _ h=>by(rcases h with ⟨h1,h2,_⟩;omega)⟩ (by show ls.length-(k+1)<ls.length-k;omega) (SlIn.sub (by repeat(first|exact trivial|refine⟨rfl,?_⟩)))
          | exact again _ _ _ (k+1,decide (sv=Sct.full ls[k].1.b)) ⟨rfl,rfl,hk,nxt _ fun h h'=>of_decide_eq_false h h'.2.2⟩ (by show ls.length-(k+1)<ls.length-k;omega) (SlIn.sub (by repeat(first|exact trivial|refine⟨rfl,?_⟩))))
    ·obtain rfl:=fin.resolve_right (by omega)
     (repeat(first|refine aj ?_|refine ac ?_|refine ab ?_|refine aS rfl ?_|refine am rfl ?_|(apply ai;exact rfl;exact rfl;exact rfl)|(apply ah;exact rfl;exact rfl;exact rfl)|(apply bL;exact rfl;exact rfl;exact rfl;exact rfl)|(apply jn;exact rfl)))
     ((apply aQ Try.func4 (congrArg Array.toList Try.results4));(focus(repeat(first|exact ResIs.nil|apply ResIs.tmp rfl))))
     rfl
end Go.Proofs.Ytbmekelkddllkaa
end
section
namespace Go.Sl
open Go Go.RowKit Go.WideShapes Go.ChangeShapes
theorem post_new{H:Type}{enc:TypeId×Value→H}{P:Program}{f:Func}{s:ChangeSpec}{apart fresh handsOn again:Bool}{W W':World}{args:Array Value}{v:Value}{ds gs:List (DataW H)}{before pa pv:List MemPlace}
 (hW:DataW.Whole enc P f.params.toList s.vars apart W args.toList ds gs before) (hb:Below W.heap.size W W') (hps:before=pa ++ pv)
 (hres: ∀ (b:Nat) (sp:Nat→Bool) (hd:Bool),DataW.TrodAll enc P W' b sp hd f.resultTypes.toList (v.resultList f.resultTypes.size) (s.fn H (ds ++ gs)).results [])
 (hargs: ∀ sp:Nat→Bool,(∀ p∈before,sp p.block=true)→DataW.TrodAll enc P W' 0 sp true f.params.toList args.toList (s.fn H (ds ++ gs)).args pa)
 (hvars: ∀ sp:Nat→Bool,(∀ p∈before,sp p.block=true)→DataW.TrodVars enc P W' sp s.vars (s.fn H (ds ++ gs)).vars pv)
 (hok: ∀ (j:Nat) (t:TypeId) (r:Value),f.resultTypes[j]? =some t→(v.resultList f.resultTypes.size)[j]? =some r→Value.okWide P W' .any 0 t r) :
 s.post enc P f apart fresh handsOn again W args v W':=by
 have hsp: ∀ p∈before,(fun b=>decide (b<W.heap.size)) p.block=true:=fun p hp=>by simpa using hW.lt p hp
 have hmem: ∀ p,p∈pa ++ pv↔p∈before:=fun p=>by rw [hps]
 refine⟨ds,gs,before,[],pa,pv,hW,hres _ _ _,hargs _ hsp,hvars _ hsp,World.keptBut_mono (fun p hp=>⟨hp,?_⟩) (hb.frame (·∈before)),fun _=>?_⟩
 ·have:=(hmem p).2 hp
  rw [List.mem_append] at this
  exact .inr this
 obtain⟨_,_,_,_,_,hz,hn⟩:=id hW
 refine⟨hok,_,_,([] ++ pa) ++ pv,⟨[] ++ pa,pv,trodAll_append (hargs _ (fun _ _=>rfl)) (hres _ _ _),hvars _ (fun _ _=>rfl),rfl,fun b off hp=>?_,fun ha=>?_⟩,fun p hp _=>?_⟩
 ·have hin:MemPlace.cell b off∈before:=(hmem _).1 (by simpa using hp)
  rw [hb.frozen (hW.lt _ hin)]
  exact hz b off hin
 ·have:=hn ha
  rw [hps] at this
  simpa using this
 ·exact(hmem p).1 (by simpa using hp)
end Go.Sl
end
section
namespace Go.Sy
open Go Go.Sl Go.RowKit Go.WideShapes
theorem s5(p:Program)(fits:TypeId→Bool)(d:Nat)(e:TypeId)(count off n:Nat)(h:rowAt p fits d e count off n=true):off≤count*p.cellsOf e:=by
 cases d with
 | zero=>simp [rowAt] at h
 | succ d=>
   unfold rowAt at h
   simp only at h
   split at h
   ·cases h
   ·rename_i hs
    have hdiv:=Nat.div_add_mod off (p.cellsOf e)
    rw [Bool.or_eq_true] at h
    rcases h with h|h
    ·simp only [zx,beq_iff_eq,decide_eq_true_eq] at h
     obtain⟨⟨h1,h2⟩,_⟩:=h
     have:p.cellsOf e*(off / p.cellsOf e)≤p.cellsOf e*count:=Nat.mul_le_mul_left _ (by omega)
     rw [Nat.mul_comm count]
     omega
    ·rw [zx,decide_eq_true_eq] at h
     have hm:=Nat.mod_lt off (Nat.pos_of_ne_zero hs)
     have:p.cellsOf e*(off / p.cellsOf e+1)≤p.cellsOf e*count:=Nat.mul_le_mul_left _ (by omega)
     rw [Nat.mul_add,Nat.mul_one] at this
     rw [Nat.mul_comm count]
     omega
theorem me(p:Program): ∀ (d:Nat) (e:TypeId) (count off:Nat) (u:TypeId) (n:Nat),liesAt p d e count off u n=true→off≤count*p.cellsOf e
 | 0,_,_,_,_,_,h=>by simp [liesAt] at h
 | d+1,e,count,off,u,n,h=>by
   unfold liesAt at h
   rw [Bool.or_eq_true] at h
   rcases h with h|h
   ·exact s5 p _ _ e count off n h
   ·split at h
    ·exact me p d e count off _ _ h
    ·cases h
theorem jY{A:Type}{f:Nat→Option A}: ∀ {n:Nat} {l:List A},(List.range n).mapM f=some l→l.length=n∧ ∀ i,i<n→f i=l[i]? :=by
 intro n
 induction n with
 | zero=>intro l h;simp at h;subst h;exact⟨rfl,fun i hi=>by omega⟩
 | succ n ih=>
   intro l h
   rw [List.range_succ,List.mapM_append] at h
   simp only [Option.bind_eq_bind,Option.bind_eq_some_iff] at h
   obtain⟨a,ha,b,hb,hl⟩:=h
   obtain⟨h1,h2⟩:=ih ha
   cases hf:f n with
   | none=>simp [hf] at hb
   | some x=>
     simp [hf] at hb
     subst hb
     simp at hl
     subst hl
     refine⟨by simp [h1],fun i hi=>?_⟩
     rcases Nat.lt_or_ge i n with h|h
     ·rw [zv (by omega)];exact h2 i h
     ·obtain rfl:i=n:=by omega
      rw [hf,List.getElem?_append_right (by omega),h1]
      simp
theorem sZ{b0:Nat}{H:Type}{enc:TypeId×Value→H}{P:Program}{w:World}{t e:TypeId}{sz:Nat}{v:Value}{dd:DataW H}{p:List MemPlace}(ht:P.underlying t=some (.slice e))(hc:P.cellsOf e=sz)(h0:0<sz)
 (hT:DataW.Trod enc P w 0 (fun _=>true) true t v dd p) (hok:Value.okWide P w .any b0 t v) :
 (v = .slice none 0 0)∨ ∃ (b o len cap:Nat) (cs:Array Value) (tt:TypeId) (fz:Nat×Nat),v = .slice (some ⟨b,o,none⟩) len cap∧w.heap[b]? =some (.cells cs tt fz)∧len≤cap∧cap≤maxLen∧o+cap*sz≤cs.size ∧
   ∀ i,i<len→ ∃ us:List Value,us.length=sz∧(∀ j,j<sz→cs[o+i*sz+j]? =us[j]?)∧ ∃ n y,DataW.trod enc P w 0 (fun _=>true) true n e us=some y:=by
 obtain⟨fuel,hT⟩:=hT
 obtain⟨a0,len0,cap0,rfl⟩:=okWide_slice ht hok
 have hcells:(Value.slice a0 len0 cap0).cells.toList= [.slice a0 len0 cap0]:=rfl
 rw [hcells] at hT
 rcases DataW.trod_slice ht hT with ⟨h1,_⟩|⟨a,len,cap,elems,rest,n,_,h1,_,_,h3,h4,h5,h6,h7,_⟩
 ·left
  simpa using h1
 ·right
  simp only [List.cons.injEq,and_true,Value.slice.injEq] at h1
  obtain⟨rfl,rfl,rfl⟩:=h1
  unfold Value.okWide at hok
  rw [ht] at hok
  simp only at hok
  unfold Cell.okWide at hok
  rw [ht] at hok
  simp only at hok
  unfold Cell.ok at hok
  rw [ht] at hok
  simp only at hok
  obtain⟨_,_,_,hsp,row,cells,hsh,hli⟩:=hok
  obtain⟨b,o,sp⟩:=a
  simp only at hsp hsh hli h6 h7
  subst hsp
  unfold World.shape? at hsh
  cases hob:w.heap[b]? with
  | none=>rw [hob] at hsh;cases hsh
  | some ob=>
    rw [hob] at hsh
    cases ob with
    | cells cs tt fz=>
      simp only [zc,zm] at hsh
      obtain⟨rfl,rfl⟩:=hsh
      have hoff:=me P _ _ _ _ _ _ hli
      have hoff2:o≤cs.size:=zH hoff (Nat.div_mul_le_self _ _)
      have hcell: ∀ q:Nat,w.cell? ⟨b,q,none⟩=cs[q]? :=fun q=>by simp [World.cell?,hob]
      have hget: ∀ (q:Nat) (us:List Value),w.cells? 0 ((⟨b,o,none⟩:Addr).add (q*P.cellsOf e)) (P.cellsOf e)=some us→us.length=sz∧ ∀ j,j<sz→cs[o+q*sz+j]? =us[j]? :=by
       intro q us hus
       rw [add_plain] at hus
       unfold World.cells? at hus
       rw [if_pos (zA _)] at hus
       obtain⟨g1,g2⟩:=jY hus
       rw [hc] at g1 g2 hus
       refine⟨g1,fun j hj=>?_⟩
       have:=g2 j hj
       rw [add_plain,hcell] at this
       exact this
      refine⟨b,o,len0,cap0,cs,tt,fz,rfl,hob,h3,h4,?_,fun i hi=>?_⟩
      ·rcases Nat.eq_zero_or_pos cap0 with hz|hz
       ·subst hz;simpa using hoff2
       ·have hlast: ∃ us,w.cells? 0 ((⟨b,o,none⟩:Addr).add ((cap0-1)*P.cellsOf e)) (P.cellsOf e)=some us:=by
         rcases Nat.lt_or_ge (cap0-1) len0 with hl|hl
         ·have h8:=h6 (cap0-1) hl
          rw [zg (by omega)] at h8
          cases hcs:w.cells? 0 ((⟨b,o,none⟩:Addr).add ((cap0-1)*P.cellsOf e)) (P.cellsOf e)with
          | none=>rw [hcs] at h8;cases h8
          | some us=>exact⟨us,rfl⟩
         ·obtain⟨h9,h10⟩:=h7 trivial
          have h8:=h10 (cap0-1-len0) (by omega)
          rw [zg (by omega),show len0+(cap0-1-len0)=cap0-1 by omega] at h8
          cases hcs:w.cells? 0 ((⟨b,o,none⟩:Addr).add ((cap0-1)*P.cellsOf e)) (P.cellsOf e)with
          | none=>rw [hcs] at h8;cases h8
          | some us=>exact⟨us,rfl⟩
        obtain⟨us,hus⟩:=hlast
        obtain⟨g1,g2⟩:=hget _ _ hus
        have g3:=g2 (sz-1) (by omega)
        rw [zg (show sz-1<us.length by omega)] at g3
        have g4:=(zo.1 g3).1
        have:cap0*sz=(cap0-1)*sz+sz:=by
         conv=>lhs;rw [show cap0=cap0-1+1 by omega,Nat.add_mul,Nat.one_mul]
        omega
      ·have h8:=h6 i hi
       rw [zg (by omega)] at h8
       cases hcs:w.cells? 0 ((⟨b,o,none⟩:Addr).add (i*P.cellsOf e)) (P.cellsOf e)with
       | none=>rw [hcs] at h8;cases h8
       | some us=>
         rw [hcs] at h8
         simp only [zG] at h8
         obtain⟨g1,g2⟩:=hget _ _ hcs
         exact⟨us,g1,g2,n,_,h8⟩
    | _=>cases hsh
def gW(w:World):Zone:=⟨fun j=>j<w.heap.size,fun j=>j<w.heap.size,fun _ h=>h⟩
theorem tW(w:World):Kept (gW w) w w:=⟨rfl,rfl,rfl,zy _,fun _ h=>h,fun _ _=>rfl⟩
theorem we{w0 w:World}(h:Kept (gW w0) w0 w):Below w0.heap.size w0 w:=⟨h.os,h.tape,h.output,h.size,fun j hj=>h.block j hj⟩
def jc(sz:Nat):Value→Ent
 | .slice (some a) _ cap=>⟨a.block,a.off,cap,sz,false⟩
 | _=>⟨0,0,0,sz,true⟩
def ArgRow{A:Type}(w:World)(sz:Nat)(f:A→List Value)(v:Value)(l:List A):Prop:=
 (v = .slice none 0 0∧l= [])∨ ∃ (b o len cap:Nat) (cs:Array Value) (tt:TypeId) (fz:Nat×Nat),v = .slice (some ⟨b,o,none⟩) len cap∧w.heap[b]? =some (.cells cs tt fz)∧len=l.length∧len≤cap∧cap≤maxLen∧o+cap*sz≤cs.size ∧
   ∀ i c,l[i]? =some c→ ∀ j,j<sz→cs[o+i*sz+j]? =(f c)[j]?
theorem pc{b0:Nat}{A:Type}{H:Type}{enc:TypeId×Value→H}{P:Program}{w:World}{t e:TypeId}{sz:Nat}{v:Value}{dd:DataW H}{p:List MemPlace}{f:A→List Value}(ht:P.underlying t=some (.slice e))(hc:P.cellsOf e=sz)(h0:0<sz)
 (hT:DataW.Trod enc P w 0 (fun _=>true) true t v dd p) (hok:Value.okWide P w .any b0 t v) (hf: ∀ n us y,DataW.trod enc P w 0 (fun _=>true) true n e us=some y→ ∃ a,us=f a): ∃ l:List A,ArgRow w sz f v l:=by
 rcases sZ ht hc h0 hT hok with h|⟨b,o,len,cap,cs,tt,fz,h1,h2,h3,h4,h5,h6⟩
 ·exact⟨[],.inl ⟨h,rfl⟩⟩
 ·have hex: ∀ i,i<len→ ∃ a:A,∀ j,j<sz→cs[o+i*sz+j]? =(f a)[j]? :=by
   intro i hi
   obtain⟨us,g1,g2,n,y,g3⟩:=h6 i hi
   obtain⟨a,rfl⟩:=hf n us y g3
   exact⟨a,g2⟩
  refine⟨(List.range len).attach.map (fun i=>Classical.choose (hex i.1 (List.mem_range.1 i.2))),.inr ⟨b,o,len,cap,cs,tt,fz,h1,h2,by simp,h3,h4,h5,?_⟩⟩
  intro i c hi j hj
  rw [List.getElem?_map] at hi
  obtain⟨q,hq,rfl⟩:=zn.1 hi
  have hq1:q.1=i:=by
   obtain⟨hlt,hh⟩:=zh.1 hq
   rw [← hh]
   simp
  have:=Classical.choose_spec (hex q.1 (List.mem_range.1 q.2)) j hj
  rw [← hq1]
  exact this
theorem ArgRow.conc{A:Type}{w:World}{sz:Nat}{f:A→List Value}{v:Value}{l:List A}(h:ArgRow w sz f v l){e:Env}{b:Nat}(he:e b=some (jc sz v)):(SV.slu b 0 l.length).conc e=some v:=by
 rcases h with ⟨rfl,rfl⟩|⟨b',o,len,cap,cs,tt,fz,rfl,h2,rfl,h3,h4,h5,h6⟩
 ·simp [SV.conc,he,jc,Ent.at]
 ·simp [SV.conc,he,jc,Ent.at]
theorem qW{A:Type}{f:A→List Value}{sz:Nat}(hf: ∀ a,(f a).length=sz): ∀ (l:List A) (i j:Nat),j<sz→(l.flatMap f)[i*sz+j]? =(l[i]?).bind (fun c=>(f c)[j]?)
 | [],i,j,_=>by simp
 | a :: l,0,j,hj=>by
   rw [List.flatMap_cons,zv (by rw [hf];omega)]
   simp
 | a :: l,i+1,j,hj=>by
   rw [List.flatMap_cons,List.getElem?_append_right (by rw [hf,Nat.add_mul];omega),hf,show(i+1)*sz+j-sz=i*sz+j by rw [Nat.add_mul];omega,qW hf l i j hj]
   simp
theorem ArgRow.lies{A:Type}{w:World}{sz:Nat}{f:A→List Value}{v:Value}{l:List A}(h:ArgRow w sz f v l)(hf: ∀ a,(f a).length=sz)(h0:0<sz)(rt:TypeId)(e:Env):Lies (gW w) w e (dat true l.length sz rt (l.flatMap f)) (jc sz v):=by
 rcases h with ⟨rfl,rfl⟩|⟨b,o,len,cap,cs,tt,fz,rfl,h2,rfl,h3,h4,h5,h6⟩
 ·exact .inr ⟨rfl,rfl,true,rt,_,rfl,h0⟩
 ·refine .inl ⟨rfl,.cells cs tt fz,⟨fun _=>dW h2,fun h=>by cases h⟩,h2,rfl,cs,fz,tt,rfl,h3,h5,h4,(fun h=>by cases h),h0,fun i hi s hs=>?_⟩
  have hs':((l.flatMap f)[i]?).map SV.sc=some s:=hs
  obtain⟨u,hu,rfl⟩:=zn.1 hs'
  refine⟨u,rfl,?_⟩
  have hdm:=Nat.div_add_mod i sz
  have hm:=Nat.mod_lt i h0
  have e1:i=i / sz*sz+i % sz:=by rw [Nat.mul_comm];omega
  rw [e1,qW hf l _ _ hm] at hu
  obtain⟨c,hc,hcu⟩:=Option.bind_eq_some_iff.1 hu
  have:=h6 (i / sz) c hc (i % sz) hm
  show cs[o+i]? =some u
  rw [e1,←Nat.add_assoc,this]
  exact hcu
theorem St.init{w:World}{e:Env}{H:aJ}{nx:Nat}(h1: ∀ id vo,H.at' id=some vo→vo.ro=true∧ ∃ x,e id=some x∧Lies (gW w) w e vo x)(h2: ∀ i,nx≤i→e i=none):St (gW w) w e H nx w:=
 ⟨tW w,fun id vo h=>(h1 id vo h).2,fun id id' vo vo' x x' h _ _ _ _ _ _ hr _=>by(rw [(h1 id vo h).1] at hr;cases hr),h2⟩
theorem vn{H:Type}{enc:TypeId×Value→H}{P:Program}{w:World}{t e:TypeId}{sz n:Nat}{v:Value}{y:DataW H×List MemPlace}(ht:P.underlying t=some (.slice e))(hc:P.cellsOf e=sz)(h0:0<sz)
 (hT:DataW.trod enc P w 0 (fun _=>true) true n t [v]=some y) :
 (∃ a c,v = .slice a 0 c)∨ ∃ (b o len cap:Nat) (cs:Array Value) (tt:TypeId) (fz:Nat×Nat),v = .slice (some ⟨b,o,none⟩) len cap∧0<len∧w.heap[b]? =some (.cells cs tt fz)∧len≤cap∧cap≤maxLen∧o+cap*sz≤cs.size ∧
   ∀ i,i<len→ ∃ us:List Value,us.length=sz∧(∀ j,j<sz→cs[o+i*sz+j]? =us[j]?)∧ ∃ n y,DataW.trod enc P w 0 (fun _=>true) true n e us=some y:=by
 rcases DataW.trod_slice ht hT with ⟨h1,_⟩|⟨a,len,cap,elems,rest,n,_,h1,_,_,h3,h4,h5,h6,h7,_⟩
 ·simp only [List.cons.injEq,and_true] at h1
  exact .inl ⟨none,0,h1⟩
 ·simp only [List.cons.injEq,and_true] at h1
  subst h1
  rcases Nat.eq_zero_or_pos len with hz|hpos
  ·subst hz
   exact .inl ⟨some a,cap,rfl⟩
  ·right
   have h8:=h6 0 hpos
   rw [zg (by omega)] at h8
   obtain⟨b,o,sp⟩:=a
   cases hcs:w.cells? 0 ((⟨b,o,sp⟩:Addr).add (0*P.cellsOf e)) (P.cellsOf e)with
   | none=>rw [hcs] at h8;cases h8
   | some us=>
     unfold World.cells? at hcs
     rw [if_pos (zA _)] at hcs
     obtain⟨g1,g2⟩:=jY hcs
     have g3:=g2 0 (by omega)
     rw [zg (show 0<us.length by omega)] at g3
     have ha:((⟨b,o,sp⟩:Addr).add (0*P.cellsOf e)).add 0=⟨b,o,sp⟩:=by simp [Addr.add]
     rw [ha] at g3
     unfold World.cell? at g3
     cases hob:w.heap[b]? with
     | none=>simp only [hob] at g3;cases g3
     | some ob=>
       simp only [hob] at g3
       cases ob with
       | cells cs tt fz=>
         simp only at g3
         have hsp:sp=none:=by
          cases sp with
          | none=>rfl
          | some s=>simp at g3
         subst hsp
         have hcell: ∀ q:Nat,w.cell? ⟨b,q,none⟩=cs[q]? :=fun q=>by simp [World.cell?,hob]
         have hget: ∀ (q:Nat) (us:List Value),w.cells? 0 ((⟨b,o,none⟩:Addr).add (q*P.cellsOf e)) (P.cellsOf e)=some us→us.length=sz∧ ∀ j,j<sz→cs[o+q*sz+j]? =us[j]? :=by
          intro q us hus
          rw [add_plain] at hus
          unfold World.cells? at hus
          rw [if_pos (zA _)] at hus
          obtain⟨g1,g2⟩:=jY hus
          rw [hc] at g1 g2 hus
          refine⟨g1,fun j hj=>?_⟩
          have:=g2 j hj
          rw [add_plain,hcell] at this
          exact this
         refine⟨b,o,len,cap,cs,tt,fz,rfl,hpos,hob,h3,h4,?_,fun i hi=>?_⟩
         ·have hlast: ∃ us,w.cells? 0 ((⟨b,o,none⟩:Addr).add ((cap-1)*P.cellsOf e)) (P.cellsOf e)=some us:=by
           rcases Nat.lt_or_ge (cap-1) len with hl|hl
           ·have h8:=h6 (cap-1) hl
            rw [zg (by omega)] at h8
            cases hcs:w.cells? 0 ((⟨b,o,none⟩:Addr).add ((cap-1)*P.cellsOf e)) (P.cellsOf e)with
            | none=>rw [hcs] at h8;cases h8
            | some us=>exact⟨us,rfl⟩
           ·obtain⟨h9,h10⟩:=h7 rfl
            have h8:=h10 (cap-1-len) (by omega)
            rw [zg (by omega),show len+(cap-1-len)=cap-1 by omega] at h8
            cases hcs:w.cells? 0 ((⟨b,o,none⟩:Addr).add ((cap-1)*P.cellsOf e)) (P.cellsOf e)with
            | none=>rw [hcs] at h8;cases h8
            | some us=>exact⟨us,rfl⟩
          obtain⟨us,hus⟩:=hlast
          obtain⟨g1,g2⟩:=hget _ _ hus
          have g3:=g2 (sz-1) (by omega)
          rw [zg (show sz-1<us.length by omega)] at g3
          have g4:=(zo.1 g3).1
          have:cap*sz=(cap-1)*sz+sz:=by
           conv=>lhs;rw [show cap=cap-1+1 by omega,Nat.add_mul,Nat.one_mul]
          omega
         ·have h8:=h6 i hi
          rw [zg (by omega)] at h8
          cases hcs:w.cells? 0 ((⟨b,o,none⟩:Addr).add (i*P.cellsOf e)) (P.cellsOf e)with
          | none=>rw [hcs] at h8;cases h8
          | some us=>
            rw [hcs] at h8
            simp only [zG] at h8
            obtain⟨g1,g2⟩:=hget _ _ hcs
            exact⟨us,g1,g2,n,_,h8⟩
       | _=>simp only at g3;cases g3
theorem tQ{w:World}{e:Env}{b o len cap sz:Nat}{cs:Array Value}{tt:TypeId}{fz:Nat×Nat}(h2:w.heap[b]? =some (.cells cs tt fz))(h3:len≤cap)(h4:cap≤maxLen)(h5:o+cap*sz≤cs.size)(h0:0<sz)(rt:TypeId)(l:List SV)
 (hc: ∀ i s,i<len*sz→l[i]? =some s→ ∃ u,s.conc e=some u∧cs[o+i]? =some u):Lies (gW w) w e (xq true len sz rt l) ⟨b,o,cap,sz,false⟩:=
 .inl ⟨rfl,.cells cs tt fz,⟨fun _=>dW h2,fun h=>by cases h⟩,h2,rfl,cs,fz,tt,rfl,h3,h5,h4,(fun h=>by cases h),h0,fun i hi s hs=>hc i s hi hs⟩
theorem vN{w:World}{e:Env}{sz:Nat}(h0:0<sz)(rt:TypeId)(l:List SV):Lies (gW w) w e (xq true 0 sz rt l) ⟨0,0,0,sz,true⟩:= .inr ⟨rfl,rfl,true,rt,_,rfl,h0⟩
end Go.Sy
end
section
namespace Go.Proofs.Ytbmekelkddllkaa
open Go Go.Sy Go.ChangeShapes Go.WideShapes Go.ChangeAt Go.RowKit
section
variable {H:Type} {enc:TypeId×Value→H} {P:Program} {w:World} {base:Nat} {sp:Nat→Bool} {held:Bool} {n:Nat} {t:TypeId} {cs:List Value} {y:DataW H×List MemPlace}
theorem fg{k:IntKind}(hu:P.underlying t=some (.int k))(h:DataW.trod enc P w base sp held n t cs=some y): ∃ x,cs= [.int k x]∧(Lit.int k x).wf=true:=by
 cases n with
 | zero=>simp [DataW.trod] at h
 | succ n=>
   unfold DataW.trod at h
   rw [hu] at h
   split at h <;> simp_all
theorem kW(hu:P.underlying t=some .string)(h:DataW.trod enc P w base sp held n t cs=some y): ∃ s,cs= [.string s]:=by
 cases n with
 | zero=>simp [DataW.trod] at h
 | succ n=>
   unfold DataW.trod at h
   rw [hu] at h
   split at h <;> simp_all
end
theorem own:ownKnob Try.prog.godebug=none:=by kernel_rfl
theorem laid:laidOutB Try.prog=true:=by kernel_rfl
theorem wg{A:Type}{f:A→List Value}{sz len o:Nat}{cs:Array Value}(hex: ∀ i,i<len→ ∃ a:A,∀ j,j<sz→cs[o+i*sz+j]? =(f a)[j]?): ∃ l:List A,l.length=len∧ ∀ i c,l[i]? =some c→ ∀ j,j<sz→cs[o+i*sz+j]? =(f c)[j]? :=by
 refine⟨(List.range len).attach.map (fun i=>Classical.choose (hex i.1 (List.mem_range.1 i.2))),by simp,?_⟩
 intro i c hi j hj
 rw [List.getElem?_map] at hi
 obtain⟨q,hq,rfl⟩:=zn.1 hi
 have hq1:q.1=i:=by
  obtain⟨hlt,hh⟩:=zh.1 hq
  rw [← hh]
  simp
 have:=Classical.choose_spec (hex q.1 (List.mem_range.1 q.2)) j hj
 rw [← hq1]
 exact this
abbrev iVi:Int→List Value:=fun n=> [.int .i64 n]
def y9(w:World)(v:Value)(l:List Int):Prop:=(∃ a c,v = .slice a 0 c∧l= [])∨(l≠ []∧ArgRow w 1 iVi v l)
abbrev stU(x:StepT×Value):List Value:= [.int .i64 x.1.kind,.int .i64 x.1.n,.string x.1.name,.string x.1.to,.int .u8 (x.1.b:Int),x.2]
abbrev StA(w:World):={x:StepT×Value // y9 w x.2 x.1.picks ∧ -9223372036854775808≤x.1.n∧x.1.n≤9223372036854775807}
theorem uStep:Try.prog.underlying 35=some (.struct (Try.prog.fieldsOf 35)):=by kernel_rfl
theorem fStep:(Try.prog.fieldsOf 35).toList.map (fun f=>(f.type,f.offset))= [(3,0),(3,1),(9,2),(9,3),(5,4),(33,5)]:=by kernel_rfl
theorem xx{H:Type}{enc:TypeId×Value→H}{w:World}{n:Nat}{v:Value}{y:DataW H×List MemPlace}(h:DataW.trod enc Try.prog w 0 (fun _=>true) true n 33 [v]=some y): ∃ l,y9 w v l:=by
 rcases vn (F.un 33 rfl) (by kernel_rfl:Try.prog.cellsOf 3=1) (by decide) h with ⟨a,c,rfl⟩|⟨b,o,len,cap,cs,tt,fz,rfl,h1,h2,h3,h4,h5,h6⟩
 ·exact⟨[],.inl ⟨a,c,rfl,rfl⟩⟩
 ·obtain⟨l,hl,hc⟩:=wg (f:=iVi) (sz:=1) (o:=o) (cs:=cs) (len:=len) fun i hi=>by
   obtain⟨us,g1,g2,n,y,g3⟩:=h6 i hi
   obtain⟨x,rfl,_⟩:=fg (F.un 3 rfl) g3
   exact⟨x,g2⟩
  refine⟨l,.inr ⟨fun e=>by rw [e] at hl;simp at hl;omega,.inr ⟨b,o,len,cap,cs,tt,fz,rfl,h2,hl.symm,h3,h4,h5,hc⟩⟩⟩
theorem sL{H:Type}{enc:TypeId×Value→H}{w:World}{n:Nat}{us:List Value}{y:DataW H×List MemPlace}(h:DataW.trod enc Try.prog w 0 (fun _=>true) true n 35 us=some y): ∃ a:StA w,us=stU a.1:=by
 have hf:=fStep
 have hu:=uStep
 generalize Try.prog.fieldsOf 35=fs at hf hu
 obtain⟨xs,m,_,_,hl,hlen,hx⟩:=DataW.trod_struct hu h
 obtain⟨l⟩:=fs
 simp only at hf
 have hl6:l.length=6:=by simpa using congrArg List.length hf
 rcases l with _|⟨f0,_|⟨f1,_|⟨f2,_|⟨f3,_|⟨f4,_|⟨f5,_|⟨f6,l⟩⟩⟩⟩⟩⟩⟩
 ·simp at hl6
 ·simp at hl6
 ·simp at hl6
 ·simp at hl6
 ·simp at hl6
 ·simp at hl6
 ·simp only [zB,List.map_nil,List.cons.injEq,zm,and_true] at hf
  obtain⟨⟨a1,a2⟩,⟨b1,b2⟩,⟨c1,c2⟩,⟨d1,d2⟩,⟨e1,e2⟩,⟨i1,i2⟩⟩:=hf
  have hc:Try.prog.cellsOf 35=6:=by kernel_rfl
  have hi:Try.prog.cellsOf 3=1:=by kernel_rfl
  have hu8:Try.prog.cellsOf 5=1:=by kernel_rfl
  have hs:Try.prog.cellsOf 9=1:=by kernel_rfl
  have hsl:Try.prog.cellsOf 33=1:=by kernel_rfl
  rw [hc] at hl
  have hlen6:xs.length=6:=by simpa using hlen
  have h0:=hx 0 f0 rfl
  have h1:=hx 1 f1 rfl
  have h2:=hx 2 f2 rfl
  have h3:=hx 3 f3 rfl
  have h4:=hx 4 f4 rfl
  have h5:=hx 5 f5 rfl
  rw [a1,a2,hi] at h0
  rw [b1,b2,hi] at h1
  rw [c1,c2,hs] at h2
  rw [d1,d2,hs] at h3
  rw [e1,e2,hu8] at h4
  rw [i1,i2,hsl] at h5
  obtain⟨_,g0⟩: ∃ y,DataW.trod enc Try.prog w 0 (fun _=>true) true m 3 ((us.drop 0).take 1)=some y:=⟨_,h0.trans (zg (by omega))⟩
  obtain⟨_,g1⟩: ∃ y,DataW.trod enc Try.prog w 0 (fun _=>true) true m 3 ((us.drop 1).take 1)=some y:=⟨_,h1.trans (zg (by omega))⟩
  obtain⟨_,g2⟩: ∃ y,DataW.trod enc Try.prog w 0 (fun _=>true) true m 9 ((us.drop 2).take 1)=some y:=⟨_,h2.trans (zg (by omega))⟩
  obtain⟨_,g3⟩: ∃ y,DataW.trod enc Try.prog w 0 (fun _=>true) true m 9 ((us.drop 3).take 1)=some y:=⟨_,h3.trans (zg (by omega))⟩
  obtain⟨_,g4⟩: ∃ y,DataW.trod enc Try.prog w 0 (fun _=>true) true m 5 ((us.drop 4).take 1)=some y:=⟨_,h4.trans (zg (by omega))⟩
  obtain⟨_,g5⟩: ∃ y,DataW.trod enc Try.prog w 0 (fun _=>true) true m 33 ((us.drop 5).take 1)=some y:=⟨_,h5.trans (zg (by omega))⟩
  obtain⟨k,hk,_⟩:=fg (F.un 3 rfl) g0
  obtain⟨q,hq,hqw⟩:=fg (F.un 3 rfl) g1
  obtain⟨s,hst⟩:=kW (F.un 9 rfl) g2
  obtain⟨s2,hst2⟩:=kW (F.un 9 rfl) g3
  obtain⟨bb,hbb,hbw⟩:=fg (F.un 5 rfl) g4
  have hq1 : -9223372036854775808≤q∧q≤9223372036854775807:=by
   simpa [Lit.wf,IntKind.has,IntKind.min,IntKind.max,show IntKind.i64.signed=true from rfl,show IntKind.i64.bits=64 from rfl] using hqw
  have hb0:0≤bb:=by
   simp only [Lit.wf,IntKind.has,IntKind.min,show IntKind.u8.signed=false from rfl,zx,decide_eq_true_eq] at hbw
   first|exact hbw.1|(simp at hbw;omega)
  rcases us with _|⟨u0,_|⟨u1,_|⟨u2,_|⟨u3,_|⟨u4,_|⟨u5,_|⟨u6,us⟩⟩⟩⟩⟩⟩⟩
  ·simp at hl
  ·simp at hl
  ·simp at hl
  ·simp at hl
  ·simp at hl
  ·simp at hl
  ·have g5':DataW.trod enc Try.prog w 0 (fun _=>true) true m 33 [u5]=some _:=g5
   obtain⟨l,hl⟩:=xx g5'
   simp at hk hq hst hst2 hbb
   refine⟨⟨(⟨k,q,s,s2,bb.toNat,l⟩,u5),hl,hq1⟩,?_⟩
   simp [stU,hk,hq,hst,hst2,hbb,Int.toNat_of_nonneg hb0]
  ·simp at hl
 ·simp at hl6
def fh{w:World}(k:Nat):List (StA w)→List (StepT×SV)
 | []=> []
 | x :: L=>(x.1.1,if x.1.1.picks= [] then .sc x.1.2 else .slu (2+k) 0 x.1.1.picks.length) :: fh (k+1) L
theorem dV{w:World}: ∀ (k:Nat) (L:List (StA w)),(fh k L).length=L.length
 | _,[]=>rfl
 | k,x :: L=>by simp [fh,dV (k+1) L]
theorem gh{w:World}: ∀ (k:Nat) (L:List (StA w)) (i:Nat) (x:StA w),L[i]? =some x→(fh k L)[i]? =some (x.1.1,if x.1.1.picks= [] then .sc x.1.2 else .slu (2+(k+i)) 0 x.1.1.picks.length)
 | k,[],i,x,h=>by simp at h
 | k,y :: L,0,x,h=>by
   simp at h
   subst h
   simp [fh]
 | k,y :: L,i+1,x,h=>by
   have:=gh (k+1) L i x (by simpa using h)
   simp only [fh,List.getElem?_cons_succ,this]
   rw [show k+1+i=k+(i+1) by omega]
def xP{w:World}(v0 pv:Value)(L:List (StA w)):Env:=fun k=>if k=0 then some (jc 6 v0) else if k=1 then some (jc 1 pv) else(L[k-2]?).map fun x=>jc 1 x.1.2
abbrev yH(l:List Int):VO:=dat true l.length 1 3 (l.flatMap iVi)
def oM{w:World}(L:List (StA w))(picks:List Int):aJ:=fun k=>if k=0 then some (stR true (fh 0 L)) else if k=1 then some (yH picks) else match L[k-2]? with
 | some x=>if x.1.1.picks= [] then none else some (yH x.1.1.picks)
 | none=>none
theorem wT{l:List Int}{i:Nat}(hi:i<l.length):(l.flatMap iVi)[i]? =some (.int .i64 l[i]):=by
 have e: ∀ l:List Int,l.flatMap iVi=l.map fun n:Int=>Value.int .i64 n:=fun l=>by
  induction l with
  | nil=>rfl
  | cons x l ih=>rw [List.flatMap_cons,ih];rfl
 rw [e,List.getElem?_map,zg hi]
 rfl
theorem vB{w:World}(L:List (StA w))(pk:List Int): ∀ x∈fh 0 L,PickIs (oM L pk) x.2 x.1.picks:=fun x hx=>by
 obtain⟨i,hi⟩:=List.mem_iff_getElem?.1 hx
 have hlt:i<L.length:=by
  have:=(zh.1 hi).1
  rwa [dV] at this
 have hg:=gh 0 L i L[i] (zg hlt)
 rw [hi] at hg
 obtain⟨a,ha,_⟩: ∃ a,a=L[i]∧True:=⟨_,rfl,trivial⟩
 rw [← ha] at hg
 cases hg
 by_cases hp:a.1.1.picks= []
 ·rcases a.2.1 with ⟨b,c,h1,h2⟩|⟨h1,_⟩
  ·exact .inl ⟨b,c,by simp only [hp,if_true];rw [h1],hp⟩
  ·exact absurd hp h1
 ·refine .inr (.inr ⟨2+i,0,true,a.1.1.picks.length,3,a.1.1.picks.flatMap iVi,by simp [hp],?_,List.length_pos_iff.2 hp,(by show 0+a.1.1.picks.length≤a.1.1.picks.length;omega),fun j hj=>?_⟩)
  ·show oM L pk (2+i)=_
   unfold oM
   rw [if_neg (by omega),if_neg (by omega),show 2+i-2=i by omega,zg hlt,←ha]
   simp [hp]
  ·rw [Nat.zero_add]
   exact wT hj
theorem uG{w:World}(L:List (StA w)): ∀ x∈fh 0 L,-9223372036854775808≤x.1.n∧x.1.n≤9223372036854775807:=fun x hx=>by
 obtain⟨i,hi⟩:=List.mem_iff_getElem?.1 hx
 have hlt:i<L.length:=by
  have:=(zh.1 hi).1
  rwa [dV] at this
 have hg:=gh 0 L i L[i] (zg hlt)
 rw [hi] at hg
 obtain⟨a,ha,_⟩: ∃ a,a=L[i]∧True:=⟨_,rfl,trivial⟩
 rw [← ha] at hg
 cases hg
 exact a.2.2
theorem xj{w:World}{v0 pv:Value}{L:List (StA w)}{pk:List Int}(h0:ArgRow w 6 (fun a:StA w=>stU a.1) v0 L)(h1:ArgRow w 1 iVi pv pk):St (gW w) w (xP v0 pv L) (oM L pk) (2+L.length) w:=by
 refine St.init (fun id vo hv=>?_) (fun i hi=>?_)
 ·have hv:oM L pk id=some vo:=hv
  unfold oM at hv
  by_cases e0:id=0
  ·subst e0
   rw [if_pos rfl] at hv
   cases hv
   refine⟨rfl,jc 6 v0,rfl,?_⟩
   have hlen:=dV 0 L
   rcases h0 with ⟨rfl,rfl⟩|⟨b,o,len,cap,cs,tt,fz,rfl,g2,g3,g4,g5,g6,g7⟩
   ·exact vN (by decide) _ _
   ·refine tQ g2 (by omega) g5 g6 (by decide) _ _ fun i s hi hs=>?_
    have hdm:=Nat.div_add_mod i 6
    have hm:=Nat.mod_lt i (show 0<6 by decide)
    have hq:i / 6<L.length:=by omega
    have e1:i=i / 6*6+i % 6:=by omega
    have hx:=gh 0 L (i / 6) L[i / 6] (zg hq)
    have hq2:i / 6<(fh 0 L).length:=by omega
    rw [e1,vk hq2 hm] at hs
    have hc:=g7 (i / 6) L[i / 6] (zg hq) (i % 6) hm
    rw [show o+i=o+i / 6*6+i % 6 by omega,hc]
    rw [zg hq2,zc] at hx
    rw [hx] at hs
    obtain⟨a,ha,_⟩: ∃ a,a=L[i / 6]∧True:=⟨_,rfl,trivial⟩
    rw [← ha] at hs ⊢
    have hm6:i % 6=0∨i % 6=1∨i % 6=2∨i % 6=3∨i % 6=4∨i % 6=5:=by omega
    rcases hm6 with e|e|e|e|e|e <;> rw [e] at hs ⊢
    ·cases hs;exact⟨_,rfl,rfl⟩
    ·cases hs;exact⟨_,rfl,rfl⟩
    ·cases hs;exact⟨_,rfl,rfl⟩
    ·cases hs;exact⟨_,rfl,rfl⟩
    ·cases hs;exact⟨_,rfl,rfl⟩
    ·have hs:some (if a.1.1.picks= [] then SV.sc a.1.2 else .slu (2+(0+i / 6)) 0 a.1.1.picks.length)=some s:=hs
     cases hs
     refine⟨a.1.2,?_,rfl⟩
     by_cases hp:a.1.1.picks= []
     ·rw [if_pos hp]
      rfl
     ·rw [if_neg hp]
      rcases a.2.1 with ⟨b,c,_,h2⟩|⟨_,h2⟩
      ·exact absurd h2 hp
      ·refine h2.conc ?_
       show xP _ pv L (2+(0+i / 6))=_
       unfold xP
       rw [if_neg (by omega),if_neg (by omega),show 2+(0+i / 6)-2=i / 6 by omega,zg hq,←ha]
       rfl
  rw [if_neg e0] at hv
  by_cases e1:id=1
  ·subst e1
   rw [if_pos rfl] at hv
   cases hv
   exact⟨rfl,jc 1 pv,rfl,h1.lies (fun _=>rfl) (by decide) _ _⟩
  rw [if_neg e1] at hv
  cases hL:L[id-2]? with
  | none=>rw [hL] at hv;cases hv
  | some x=>
    rw [hL] at hv
    simp only at hv
    by_cases hp:x.1.1.picks= []
    ·rw [if_pos hp] at hv;cases hv
    ·rw [if_neg hp] at hv
     cases hv
     refine⟨rfl,jc 1 x.1.2,?_,?_⟩
     ·unfold xP
      rw [if_neg e0,if_neg e1,hL]
      rfl
     ·rcases x.2.1 with ⟨b,c,_,h2⟩|⟨_,h2⟩
      ·exact absurd h2 hp
      ·exact h2.lies (fun _=>rfl) (by decide) _ _
 ·unfold xP
  rw [if_neg (by omega),if_neg (by omega),List.getElem?_eq_none (by omega)]
  rfl
theorem mi{A:Type}{w:World}{sz:Nat}{f:A→List Value}{v:Value}{l:List A}(h:ArgRow w sz f v l):l.length≤9223372036854775807:=by
 rcases h with ⟨_,rfl⟩|⟨b,o,len,cap,cs,tt,fz,_,_,h1,h2,h3,_⟩
 ·simp
 ·have:maxLen=9223372036854775807:=rfl
  omega
theorem x3{b0:Nat}{H:Type}{enc:TypeId×Value→H}{w:World}{sp:Nat→Bool}{held:Bool}{v:Value}{d:DataW H}{p:List MemPlace}(h:DataW.Trod enc Try.prog w 0 sp held 9 v d p)(hok:Value.okWide Try.prog w .any b0 9 v): ∃ s,v = .string s∧d = .lit (.string s.data.toList):=by
 obtain⟨s,rfl⟩:=okWide_string (F.un 9 rfl) hok
 obtain⟨n,h⟩:=h
 refine⟨s,rfl,?_⟩
 have hc:(Value.string s).cells.toList= [.string s]:=rfl
 rw [hc] at h
 have hu:=F.un 9 rfl
 cases n with
 | zero=>simp [DataW.trod] at h
 | succ n=>
   unfold DataW.trod at h
   rw [hu] at h
   simp only [Option.ite_none_right_eq_some,zc,zm] at h
   exact h.2.1.symm
theorem uK{w:World}{v0 pv:Value}(L:List (StA w)){pk:List Int}(h:ArgRow w 1 iVi pv pk): ∃ s,PickIs (oM L pk) s pk∧s.conc (xP v0 pv L)=some pv:=by
 cases pk with
 | nil=>
   rcases h with ⟨rfl,_⟩|⟨b,o,len,cap,cs,tt,fz,rfl,_,h1,_⟩
   ·exact⟨.sc (.slice none 0 0),.inl ⟨none,0,rfl,rfl⟩,rfl⟩
   ·simp at h1
    subst h1
    exact⟨.sc (.slice (some ⟨b,o,none⟩) 0 cap),.inl ⟨_,_,rfl,rfl⟩,rfl⟩
 | cons x l=>exact⟨.slu 1 0 (x :: l).length,.inr (.inr ⟨1,0,true,_,_,(x :: l).flatMap iVi,rfl,rfl,by simp,by omega,fun j hj=>by rw [Nat.zero_add];exact wT hj⟩),h.conc rfl⟩
end Go.Proofs.Ytbmekelkddllkaa
end
