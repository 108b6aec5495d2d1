import Derived.Test.YtnhmbonmlfeifaaProg
import Derived.Laws.StructEq
import Derived.Sort.AssemblyPlain
import Derived.Laws.MakeOwn
import Derived.Test.YtnhmbonmlfeifaaN2
set_option linter.unusedVariables false
set_option linter.unusedSimpArgs false
set_option maxRecDepth 100000
set_option maxHeartbeats 0
section
namespace Go.Sy
open Go Go.Sl Go.RowKit
def OkAll{A:Type}(p:Nat→A→Prop):Nat→List (Option A)→Prop
 | _,[]=>True
 | i,none :: l=>OkAll p (i+1) l
 | i,some x :: l=>p i x∧OkAll p (i+1) l
theorem OkAll.get{A:Type}{p:Nat→A→Prop}: ∀ {l:List (Option A)} {k:Nat},OkAll p k l→ ∀ {i:Nat} {x:A},l[i]? =some (some x)→p (k+i) x
 | [],k,_,i,x,h=>by simp at h
 | none :: l,k,hh,i,x,h=>by
   cases i with
   | zero=>simp at h
   | succ i=>rw [show k+(i+1)=k+1+i by omega];exact OkAll.get (l:=l) (k:=k+1) hh (by simpa using h)
 | some y :: l,k,hh,i,x,h=>by
   cases i with
   | zero=>simp only [tf,sW] at h;subst h;exact hh.1
   | succ i=>rw [show k+(i+1)=k+1+i by omega];exact OkAll.get (l:=l) (k:=k+1) hh.2 (by simpa using h)
def OkL{A:Type}(p:Nat→A→Prop):Nat→List A→Prop
 | _,[]=>True
 | i,x :: l=>p i x∧OkL p (i+1) l
theorem OkL.get{A:Type}{p:Nat→A→Prop}: ∀ {l:List A} {k:Nat},OkL p k l→ ∀ {i:Nat} {x:A},l[i]? =some x→p (k+i) x
 | [],k,_,i,x,h=>by simp at h
 | y :: l,k,hh,i,x,h=>by
   cases i with
   | zero=>simp only [tf,sW] at h;subst h;exact hh.1
   | succ i=>rw [show k+(i+1)=k+1+i by omega];exact OkL.get (l:=l) (k:=k+1) hh.2 (by simpa using h)
inductive LoadIs (P:Program) (H:ar) (t:TypeId) (b o:Nat):SV→Prop
 | one {vo:VO} {v:SV} (ha:bA P t=some none) (hb:H.at' b=some vo) (hv:vo.cell o=some v):LoadIs P H t b o v
 | many {n:Nat} {vo:VO} {l:List SV} (ha:bA P t=some (some n)) (hb:H.at' b=some vo) (hv:vo.cellsFrom o n=some l):LoadIs P H t b o (.agg l)
inductive ResIs (P:Program) (H:ar) (T:Tr SV):List ResultVar→List SV→Prop
 | nil:ResIs P H T [] []
 | tmp {t:Tmp} {l:List ResultVar} {v:SV} {vs:List SV} (hv:T.at' t=some v) (h:ResIs P H T l vs):ResIs P H T (.tmp t :: l) (v :: vs)
 | cell {a:Tmp} {t:TypeId} {b o:Nat} {l:List ResultVar} {v:SV} {vs:List SV} (ha:T.at' a=some (.ptr b o)) (hv:LoadIs P H t b o v) (h:ResIs P H T l vs):ResIs P H T (.cell a t :: l) (v :: vs)
theorem ResIs.res{P:Program}{H:ar}{T:Tr SV}{l:List ResultVar}{vs:List SV}(h:ResIs P H T l vs):ix P H T l=some vs:=by
 induction h with
 | nil=>rfl
 | tmp hv _ ih=>simp only [ix,hv,ih]
 | cell ha hv _ ih=>
   cases hv with
   | one hag hb hv=>simp only [ix,ha,hb,hag,hv,ih]
   | many hag hb hv=>simp only [ix,ha,hb,hag,hv,ih]
section
variable {P:Program} {ro:Option Nat} {fn nt nx:Nat} {T:Tr SV} {k:List AIt} {dfs:List ADf} {H:ar} {Q:Pst} {ops:Array Oper} {i:Nat} {l:List Oper} {d:Option Tmp} {ty:TypeId} {pos:String} {af:Array Edge} {gd:Option (Nat×Bool)}
theorem Fnc.start{f:FuncId}{F:Func}{args:List SV}{c:Code}{n:Nat}(hf:P.funcs[f]? =some F)(hb:F.body=some c)(hn:F.ntmps=n)(h:Wp P none ⟨f,max args.length n,ez .nil 0 args,[.code c],[],H,nx⟩ Q):Fnc P f args H nx Q:=
 .enter (by simp only [lu,hf,hb]) (by simp only [sn,hf,hn]) h
theorem aP{F:Func}{rl:List ResultVar}{vs:List SV}(hf:P.funcs[fn]? =some F)(hl:F.results.toList=rl)(hv:ResIs P H T rl vs)(h:Q (dc vs,H,nx)):Wp P none ⟨fn,nt,T,.code .ret :: k,[],H,nx⟩ Q:=
 y_ret (by simp only [ch,hf,hl]) hv.res h
theorem gg{F:Func}{rl:List ResultVar}{vs:List SV}(hf:P.funcs[fn]? =some F)(hl:F.results.toList=rl)(hv:ResIs P H T rl vs)(h:Q (dc vs,H,nx)):Wp P none ⟨fn,nt,T,[],[],H,nx⟩ Q:=
 y_end (by simp only [ch,hf,hl]) hv.res h
theorem ae{id:Nat}{ops:List Oper}(h:Wp P ro ⟨fn,nt,T,.inReg ops.toArray 0 ops :: k,dfs,H,nx⟩ Q):Wp P ro ⟨fn,nt,T,.code (.region id ops.toArray false) :: k,dfs,H,nx⟩ Q:=nV h
theorem ap{d:Tmp}{v:SV}(h:Nat.blt d nt=true):eg nt T (some d) v=T.set d v:=by simp only [eg,h,cond_true]
theorem dF{o:Oper}(hw:ak T ops o=some false)(h:Wp P ro ⟨fn,nt,eg nt T o.dst cf,.inReg ops (i+1) l :: k,dfs,H,nx⟩ Q):Wp P ro ⟨fn,nt,T,.inReg ops i (o :: l) :: k,dfs,H,nx⟩ Q:=y_not hw h
theorem ai{x:Operand}{v:SV}{dd:Nat}(hw:ak T ops ⟨some dd,.move x,ty,pos,af,gd⟩=some true)(hd:Nat.blt dd nt=true)(hx:aj T x=some v)
 (h:Wp P ro ⟨fn,nt,T.set dd v,.inReg ops (i+1) l :: k,dfs,H,nx⟩ Q):Wp P ro ⟨fn,nt,T,.inReg ops i (⟨some dd,.move x,ty,pos,af,gd⟩ :: l) :: k,dfs,H,nx⟩ Q:=
 be hw (.inr (fun _ h=>by cases h)) ((gr hx).does) (by rw [ap hd];exact h)
theorem ah{x:Operand}{v:SV}{dd:Nat}(hw:ak T ops ⟨some dd,.assign x,ty,pos,af,gd⟩=some true)(hd:Nat.blt dd nt=true)(hx:aj T x=some v)
 (h:Wp P ro ⟨fn,nt,T.set dd v,.inReg ops (i+1) l :: k,dfs,H,nx⟩ Q):Wp P ro ⟨fn,nt,T,.inReg ops i (⟨some dd,.assign x,ty,pos,af,gd⟩ :: l) :: k,dfs,H,nx⟩ Q:=
 be hw (.inr (fun _ h=>by cases h)) ((gu hx).does) (by rw [ap hd];exact h)
theorem bp{c a b:Operand}{v:SV}{dd:Nat}(hw:ak T ops ⟨some dd,.pick c a b,ty,pos,af,gd⟩=some true)(hd:Nat.blt dd nt=true)(hc:aj T c=some (.sc (.bool true)))(hx:aj T a=some v)
 (h:Wp P ro ⟨fn,nt,T.set dd v,.inReg ops (i+1) l :: k,dfs,H,nx⟩ Q):Wp P ro ⟨fn,nt,T,.inReg ops i (⟨some dd,.pick c a b,ty,pos,af,gd⟩ :: l) :: k,dfs,H,nx⟩ Q:=
 be hw (.inr (fun _ h=>by cases h)) ((oq hc hx).does) (by rw [ap hd];exact h)
theorem aQ{c a b:Operand}{v:SV}{dd:Nat}(hw:ak T ops ⟨some dd,.pick c a b,ty,pos,af,gd⟩=some true)(hd:Nat.blt dd nt=true)(hc:aj T c=some (.sc (.bool false)))(hx:aj T b=some v)
 (h:Wp P ro ⟨fn,nt,T.set dd v,.inReg ops (i+1) l :: k,dfs,H,nx⟩ Q):Wp P ro ⟨fn,nt,T,.inReg ops i (⟨some dd,.pick c a b,ty,pos,af,gd⟩ :: l) :: k,dfs,H,nx⟩ Q:=
 be hw (.inr (fun _ h=>by cases h)) ((ot hc hx).does) (by rw [ap hd];exact h)
theorem aH{x:Operand}{j:Nat}{xs:List SV}{v:SV}{dd:Nat}(hw:ak T ops ⟨some dd,.extract x j,ty,pos,af,gd⟩=some true)(hd:Nat.blt dd nt=true)(hx:aj T x=some (.tup xs))(hj:xs[j]? =some v)
 (h:Wp P ro ⟨fn,nt,T.set dd v,.inReg ops (i+1) l :: k,dfs,H,nx⟩ Q):Wp P ro ⟨fn,nt,T,.inReg ops i (⟨some dd,.extract x j,ty,pos,af,gd⟩ :: l) :: k,dfs,H,nx⟩ Q:=
 be hw (.inr (fun _ h=>by cases h)) ((lP hx hj).does) (by rw [ap hd];exact h)
theorem bG{x:Operand}{b o:Nat}{dd:Nat}(hw:ak T ops ⟨some dd,.nilCheck x,ty,pos,af,gd⟩=some true)(hd:Nat.blt dd nt=true)(hx:aj T x=some (.ptr b o))
 (h:Wp P ro ⟨fn,nt,T.set dd (.ptr b o),.inReg ops (i+1) l :: k,dfs,H,nx⟩ Q):Wp P ro ⟨fn,nt,T,.inReg ops i (⟨some dd,.nilCheck x,ty,pos,af,gd⟩ :: l) :: k,dfs,H,nx⟩ Q:=
 be hw (.inr (fun _ h=>by cases h)) ((eD hx).does) (by rw [ap hd];exact h)
theorem aF{s:TypeId}{x:Operand}{f b o off:Nat}{dd:Nat}(hw:ak T ops ⟨some dd,.fieldAddr s x f,ty,pos,af,gd⟩=some true)(hd:Nat.blt dd nt=true)(hx:aj T x=some (.ptr b o))(hf:d6 P s f=some off)
 (h:Wp P ro ⟨fn,nt,T.set dd (.ptr b (o+off)),.inReg ops (i+1) l :: k,dfs,H,nx⟩ Q):Wp P ro ⟨fn,nt,T,.inReg ops i (⟨some dd,.fieldAddr s x f,ty,pos,af,gd⟩ :: l) :: k,dfs,H,nx⟩ Q:=
 be hw (.inr (fun _ h=>by cases h)) ((dJ hf hx).does) (by rw [ap hd];exact h)
theorem bH{f:Go.Fn}{a b:Array Operand}{x y:List SV}{dd:Nat}(hw:ak T ops ⟨some dd,.makeFunc f a b,ty,pos,af,gd⟩=some true)(hd:Nat.blt dd nt=true)(ha:cD T a.toList=some x)(hb:cD T b.toList=some y)
 (h:Wp P ro ⟨fn,nt,T.set dd (.fn f x y),.inReg ops (i+1) l :: k,dfs,H,nx⟩ Q):Wp P ro ⟨fn,nt,T,.inReg ops i (⟨some dd,.makeFunc f a b,ty,pos,af,gd⟩ :: l) :: k,dfs,H,nx⟩ Q:=
 be hw (.inr (fun _ h=>by cases h)) ((ke ha hb).does) (by rw [ap hd];exact h)
theorem bg{t bt:TypeId}{x:Operand}{b o:Nat}{cs:List SV}{v:SV}{dd:Nat}(hw:ak T ops ⟨some dd,.load t x,ty,pos,af,gd⟩=some true)(hd:Nat.blt dd nt=true)(hx:aj T x=some (.ptr b o))(ha:bA P t=some none)(hb:H.at' b=some (am bt cs))(hv:cs[o]? =some v)
 (h:Wp P ro ⟨fn,nt,T.set dd v,.inReg ops (i+1) l :: k,dfs,H,nx⟩ Q):Wp P ro ⟨fn,nt,T,.inReg ops i (⟨some dd,.load t x,ty,pos,af,gd⟩ :: l) :: k,dfs,H,nx⟩ Q:=
 be hw (.inr (fun _ h=>by cases h)) ((dV ha hx hb (bk hv)).does) (by rw [ap hd];exact h)
theorem pS{t:TypeId}{x:Operand}{b o n:Nat}{vo:VO}{cs:List SV}{dd:Nat}(hw:ak T ops ⟨some dd,.load t x,ty,pos,af,gd⟩=some true)(hd:Nat.blt dd nt=true)(hx:aj T x=some (.ptr b o))(ha:bA P t=some (some n))(hb:H.at' b=some vo)(hv:vo.cellsFrom o n=some cs)
 (h:Wp P ro ⟨fn,nt,T.set dd (.agg cs),.inReg ops (i+1) l :: k,dfs,H,nx⟩ Q):Wp P ro ⟨fn,nt,T,.inReg ops i (⟨some dd,.load t x,ty,pos,af,gd⟩ :: l) :: k,dfs,H,nx⟩ Q:=
 be hw (.inr (fun _ h=>by cases h)) ((cL ha hx hb hv).does) (by rw [ap hd];exact h)
theorem bj{t bt:TypeId}{x:Operand}{b n:Nat}{cs:List SV}{dd:Nat}(hw:ak T ops ⟨some dd,.load t x,ty,pos,af,gd⟩=some true)(hd:Nat.blt dd nt=true)(hx:aj T x=some (.ptr b 0))(ha:bA P t=some (some n))(hb:H.at' b=some (am bt cs))(hn:cs.length=n)
 (h:Wp P ro ⟨fn,nt,T.set dd (.agg cs),.inReg ops (i+1) l :: k,dfs,H,nx⟩ Q):Wp P ro ⟨fn,nt,T,.inReg ops i (⟨some dd,.load t x,ty,pos,af,gd⟩ :: l) :: k,dfs,H,nx⟩ Q:=
 be hw (.inr (fun _ h=>by cases h)) ((cL ha hx hb (aL n 0 (by subst hn;simp) hn)).does) (by rw [ap hd];exact h)
theorem aZ{t:TypeId}{cs:List SV}{dd:Nat}(hw:ak T ops ⟨some dd,.alloc t,ty,pos,af,gd⟩=some true)(hd:Nat.blt dd nt=true)(hz:j3 P t=some cs)
 (h:Wp P ro ⟨fn,nt,T.set dd (.ptr nx 0),.inReg ops (i+1) l :: k,dfs,(H.set nx (am t cs)),(nx+1)⟩ Q):Wp P ro ⟨fn,nt,T,.inReg ops i (⟨some dd,.alloc t,ty,pos,af,gd⟩ :: l) :: k,dfs,H,nx⟩ Q:=
 be hw (.inr (fun _ h=>by cases h)) (oG hz) (by rw [ap hd];exact h)
theorem ce{t:TypeId}{x:Operand}{cs:List SV}{dd:Nat}(hw:ak T ops ⟨some dd,.box t x,ty,pos,af,gd⟩=some true)(hd:Nat.blt dd nt=true)(hx:aj T x=some (.agg cs))
 (h:Wp P ro ⟨fn,nt,T.set dd (.ptr nx 0),.inReg ops (i+1) l :: k,dfs,(H.set nx (am t cs)),(nx+1)⟩ Q):Wp P ro ⟨fn,nt,T,.inReg ops i (⟨some dd,.box t x,ty,pos,af,gd⟩ :: l) :: k,dfs,H,nx⟩ Q:=
 be hw (.inr (fun _ h=>by cases h)) (qn hx) (by rw [ap hd];exact h)
theorem rP{t:TypeId}{x:Operand}{v:SV}{dd:Nat}(hw:ak T ops ⟨some dd,.box t x,ty,pos,af,gd⟩=some true)(hd:Nat.blt dd nt=true)(hx:aj T x=some v)(h1:v.cells= [v])
 (h:Wp P ro ⟨fn,nt,T.set dd (.ptr nx 0),.inReg ops (i+1) l :: k,dfs,(H.set nx (am t [v])),(nx+1)⟩ Q):Wp P ro ⟨fn,nt,T,.inReg ops i (⟨some dd,.box t x,ty,pos,af,gd⟩ :: l) :: k,dfs,H,nx⟩ Q:=
 be hw (.inr (fun _ h=>by cases h)) (si hx h1) (by rw [ap hd];exact h)
theorem dR{t bt:TypeId}{a x:Operand}{b o:Nat}{cs:List SV}{v:SV}(hw:ak T ops ⟨none,.store t a x,ty,pos,af,gd⟩=some true)(ha:aj T a=some (.ptr b o))(hx:aj T x=some v)(hs:aR P t=some 1)(hb:H.at' b=some (am bt cs))(h1:v.one=true)(ho:Nat.blt o cs.length=true)
 (h:Wp P ro ⟨fn,nt,T,.inReg ops (i+1) l :: k,dfs,(H.set b (am bt (cs.set o v))),nx⟩ Q):Wp P ro ⟨fn,nt,T,.inReg ops i (⟨none,.store t a x,ty,pos,af,gd⟩ :: l) :: k,dfs,H,nx⟩ Q:=
 kE hw (.inr (fun _ h=>by cases h)) (m2 hs ha hx hb h1 (s3 ho)) h
theorem bF{t bt:TypeId}{a x:Operand}{b o n:Nat}{cs vs cs':List SV}(hw:ak T ops ⟨none,.store t a x,ty,pos,af,gd⟩=some true)(ha:aj T a=some (.ptr b o))(hx:aj T x=some (.agg vs))(hs:aR P t=some n)(hb:H.at' b=some (am bt cs))(hn:vs.length=n)(ho:o+n≤cs.length)(h1:bz vs=true)(hc:cs.take o ++ vs ++ cs.drop (o+n)=cs')
 (h:Wp P ro ⟨fn,nt,T,.inReg ops (i+1) l :: k,dfs,(H.set b (am bt cs')),nx⟩ Q):Wp P ro ⟨fn,nt,T,.inReg ops i (⟨none,.store t a x,ty,pos,af,gd⟩ :: l) :: k,dfs,H,nx⟩ Q:=
 kE hw (.inr (fun _ h=>by cases h)) (hc ▸ fU hs ha hx rfl hb hn ho h1) h
theorem cn{t yt:TypeId}{x y:Operand}{a b:Int}{dd:Nat}(hw:ak T ops ⟨some dd,.binOp .add t x y yt,ty,pos,af,gd⟩=some true)(hd:Nat.blt dd nt=true)(hx:aj T x=some (.sc (.int .i64 a)))(hy:aj T y=some (.sc (.int .i64 b)))(h1 : -9223372036854775808≤a+b)(h2:a+b≤9223372036854775807)
 (h:Wp P ro ⟨fn,nt,T.set dd (.sc (.int .i64 (a+b))),.inReg ops (i+1) l :: k,dfs,H,nx⟩ Q):Wp P ro ⟨fn,nt,T,.inReg ops i (⟨some dd,.binOp .add t x y yt,ty,pos,af,gd⟩ :: l) :: k,dfs,H,nx⟩ Q:=
 be hw (.inr (fun _ h=>by cases h)) ((eX hx hy (.inl ⟨rfl,(sX _ ⟨h1,h2⟩).symm⟩)).does) (by rw [ap hd];exact h)
theorem jd{t yt:TypeId}{x y:Operand}{a b:Int}{dd:Nat}(hw:ak T ops ⟨some dd,.binOp .sub t x y yt,ty,pos,af,gd⟩=some true)(hd:Nat.blt dd nt=true)(hx:aj T x=some (.sc (.int .i64 a)))(hy:aj T y=some (.sc (.int .i64 b)))(h1 : -9223372036854775808≤a-b)(h2:a-b≤9223372036854775807)
 (h:Wp P ro ⟨fn,nt,T.set dd (.sc (.int .i64 (a-b))),.inReg ops (i+1) l :: k,dfs,H,nx⟩ Q):Wp P ro ⟨fn,nt,T,.inReg ops i (⟨some dd,.binOp .sub t x y yt,ty,pos,af,gd⟩ :: l) :: k,dfs,H,nx⟩ Q:=
 be hw (.inr (fun _ h=>by cases h)) ((eX hx hy (.inr (.inl ⟨rfl,(sX _ ⟨h1,h2⟩).symm⟩))).does) (by rw [ap hd];exact h)
theorem je{t yt:TypeId}{x y:Operand}{a b:Int}{dd:Nat}(hw:ak T ops ⟨some dd,.binOp .mul t x y yt,ty,pos,af,gd⟩=some true)(hd:Nat.blt dd nt=true)(hx:aj T x=some (.sc (.int .i64 a)))(hy:aj T y=some (.sc (.int .i64 b)))(h1 : -9223372036854775808≤a*b)(h2:a*b≤9223372036854775807)
 (h:Wp P ro ⟨fn,nt,T.set dd (.sc (.int .i64 (a*b))),.inReg ops (i+1) l :: k,dfs,H,nx⟩ Q):Wp P ro ⟨fn,nt,T,.inReg ops i (⟨some dd,.binOp .mul t x y yt,ty,pos,af,gd⟩ :: l) :: k,dfs,H,nx⟩ Q:=
 be hw (.inr (fun _ h=>by cases h)) ((eX hx hy (.inr (.inr ⟨rfl,(sX _ ⟨h1,h2⟩).symm⟩))).does) (by rw [ap hd];exact h)
theorem rL{t yt:TypeId}{x y:Operand}{kd:IntKind}{a b:Int}{dd:Nat}(hw:ak T ops ⟨some dd,.binOp .eql t x y yt,ty,pos,af,gd⟩=some true)(hd:Nat.blt dd nt=true)(hx:aj T x=some (.sc (.int kd a)))(hy:aj T y=some (.sc (.int kd b)))
 (h:Wp P ro ⟨fn,nt,T.set dd (.sc (.bool (a == b))),.inReg ops (i+1) l :: k,dfs,H,nx⟩ Q):Wp P ro ⟨fn,nt,T,.inReg ops i (⟨some dd,.binOp .eql t x y yt,ty,pos,af,gd⟩ :: l) :: k,dfs,H,nx⟩ Q:=
 be hw (.inr (fun _ h=>by cases h)) ((gt hx hy (.inl ⟨rfl,rfl⟩)).does) (by rw [ap hd];exact h)
theorem w_neq{t yt:TypeId}{x y:Operand}{kd:IntKind}{a b:Int}{dd:Nat}(hw:ak T ops ⟨some dd,.binOp .neq t x y yt,ty,pos,af,gd⟩=some true)(hd:Nat.blt dd nt=true)(hx:aj T x=some (.sc (.int kd a)))(hy:aj T y=some (.sc (.int kd b)))
 (h:Wp P ro ⟨fn,nt,T.set dd (.sc (.bool (a != b))),.inReg ops (i+1) l :: k,dfs,H,nx⟩ Q):Wp P ro ⟨fn,nt,T,.inReg ops i (⟨some dd,.binOp .neq t x y yt,ty,pos,af,gd⟩ :: l) :: k,dfs,H,nx⟩ Q:=
 be hw (.inr (fun _ h=>by cases h)) ((gt hx hy (.inr (.inl ⟨rfl,rfl⟩))).does) (by rw [ap hd];exact h)
theorem rI{t yt:TypeId}{x y:Operand}{kd:IntKind}{a b:Int}{dd:Nat}(hw:ak T ops ⟨some dd,.binOp .lss t x y yt,ty,pos,af,gd⟩=some true)(hd:Nat.blt dd nt=true)(hx:aj T x=some (.sc (.int kd a)))(hy:aj T y=some (.sc (.int kd b)))
 (h:Wp P ro ⟨fn,nt,T.set dd (.sc (.bool (decide (a<b)))),.inReg ops (i+1) l :: k,dfs,H,nx⟩ Q):Wp P ro ⟨fn,nt,T,.inReg ops i (⟨some dd,.binOp .lss t x y yt,ty,pos,af,gd⟩ :: l) :: k,dfs,H,nx⟩ Q:=
 be hw (.inr (fun _ h=>by cases h)) ((gt hx hy (.inr (.inr (.inl ⟨rfl,rfl⟩)))).does) (by rw [ap hd];exact h)
theorem w_leq{t yt:TypeId}{x y:Operand}{kd:IntKind}{a b:Int}{dd:Nat}(hw:ak T ops ⟨some dd,.binOp .leq t x y yt,ty,pos,af,gd⟩=some true)(hd:Nat.blt dd nt=true)(hx:aj T x=some (.sc (.int kd a)))(hy:aj T y=some (.sc (.int kd b)))
 (h:Wp P ro ⟨fn,nt,T.set dd (.sc (.bool (decide (a≤b)))),.inReg ops (i+1) l :: k,dfs,H,nx⟩ Q):Wp P ro ⟨fn,nt,T,.inReg ops i (⟨some dd,.binOp .leq t x y yt,ty,pos,af,gd⟩ :: l) :: k,dfs,H,nx⟩ Q:=
 be hw (.inr (fun _ h=>by cases h)) ((gt hx hy (.inr (.inr (.inr (.inl ⟨rfl,rfl⟩))))).does) (by rw [ap hd];exact h)
theorem w_gtr{t yt:TypeId}{x y:Operand}{kd:IntKind}{a b:Int}{dd:Nat}(hw:ak T ops ⟨some dd,.binOp .gtr t x y yt,ty,pos,af,gd⟩=some true)(hd:Nat.blt dd nt=true)(hx:aj T x=some (.sc (.int kd a)))(hy:aj T y=some (.sc (.int kd b)))
 (h:Wp P ro ⟨fn,nt,T.set dd (.sc (.bool (decide (a>b)))),.inReg ops (i+1) l :: k,dfs,H,nx⟩ Q):Wp P ro ⟨fn,nt,T,.inReg ops i (⟨some dd,.binOp .gtr t x y yt,ty,pos,af,gd⟩ :: l) :: k,dfs,H,nx⟩ Q:=
 be hw (.inr (fun _ h=>by cases h)) ((gt hx hy (.inr (.inr (.inr (.inr (.inl ⟨rfl,rfl⟩)))))).does) (by rw [ap hd];exact h)
theorem w_geq{t yt:TypeId}{x y:Operand}{kd:IntKind}{a b:Int}{dd:Nat}(hw:ak T ops ⟨some dd,.binOp .geq t x y yt,ty,pos,af,gd⟩=some true)(hd:Nat.blt dd nt=true)(hx:aj T x=some (.sc (.int kd a)))(hy:aj T y=some (.sc (.int kd b)))
 (h:Wp P ro ⟨fn,nt,T.set dd (.sc (.bool (decide (a≥b)))),.inReg ops (i+1) l :: k,dfs,H,nx⟩ Q):Wp P ro ⟨fn,nt,T,.inReg ops i (⟨some dd,.binOp .geq t x y yt,ty,pos,af,gd⟩ :: l) :: k,dfs,H,nx⟩ Q:=
 be hw (.inr (fun _ h=>by cases h)) ((gt hx hy (.inr (.inr (.inr (.inr (.inr (⟨rfl,rfl⟩))))))).does) (by rw [ap hd];exact h)
theorem cI{t yt:TypeId}{x y:Operand}{kd:IntKind}{a b:Int}{dd:Nat}(hw:ak T ops ⟨some dd,.binOp .eql t x y yt,ty,pos,af,gd⟩=some true)(hd:Nat.blt dd nt=true)(hx:aj T x=some (.sc (.int kd a)))(hy:aj T y=some (.sc (.int kd b)))
 (h1:a=b→Wp P ro ⟨fn,nt,T.set dd (.sc (.bool true)),.inReg ops (i+1) l :: k,dfs,H,nx⟩ Q) (h2:a≠b→Wp P ro ⟨fn,nt,T.set dd (.sc (.bool false)),.inReg ops (i+1) l :: k,dfs,H,nx⟩ Q) :
 Wp P ro ⟨fn,nt,T,.inReg ops i (⟨some dd,.binOp .eql t x y yt,ty,pos,af,gd⟩ :: l) :: k,dfs,H,nx⟩ Q:=by
 refine rL hw hd hx hy ?_
 by_cases hc:a=b
 ·have e:(a == b)=true:=by simp;omega
  rw [e];exact h1 hc
 ·have e:(a == b)=false:=by simp;omega
  rw [e];exact h2 (by omega)
theorem cS{t yt:TypeId}{x y:Operand}{kd:IntKind}{a b:Int}{dd:Nat}(hw:ak T ops ⟨some dd,.binOp .neq t x y yt,ty,pos,af,gd⟩=some true)(hd:Nat.blt dd nt=true)(hx:aj T x=some (.sc (.int kd a)))(hy:aj T y=some (.sc (.int kd b)))
 (h1:a≠b→Wp P ro ⟨fn,nt,T.set dd (.sc (.bool true)),.inReg ops (i+1) l :: k,dfs,H,nx⟩ Q) (h2:a=b→Wp P ro ⟨fn,nt,T.set dd (.sc (.bool false)),.inReg ops (i+1) l :: k,dfs,H,nx⟩ Q) :
 Wp P ro ⟨fn,nt,T,.inReg ops i (⟨some dd,.binOp .neq t x y yt,ty,pos,af,gd⟩ :: l) :: k,dfs,H,nx⟩ Q:=by
 refine w_neq hw hd hx hy ?_
 by_cases hc:a≠b
 ·have e:(a != b)=true:=by simp;omega
  rw [e];exact h1 hc
 ·have e:(a != b)=false:=by simp;omega
  rw [e];exact h2 (by omega)
theorem bC{t yt:TypeId}{x y:Operand}{kd:IntKind}{a b:Int}{dd:Nat}(hw:ak T ops ⟨some dd,.binOp .lss t x y yt,ty,pos,af,gd⟩=some true)(hd:Nat.blt dd nt=true)(hx:aj T x=some (.sc (.int kd a)))(hy:aj T y=some (.sc (.int kd b)))
 (h1:a<b→Wp P ro ⟨fn,nt,T.set dd (.sc (.bool true)),.inReg ops (i+1) l :: k,dfs,H,nx⟩ Q) (h2:b≤a→Wp P ro ⟨fn,nt,T.set dd (.sc (.bool false)),.inReg ops (i+1) l :: k,dfs,H,nx⟩ Q) :
 Wp P ro ⟨fn,nt,T,.inReg ops i (⟨some dd,.binOp .lss t x y yt,ty,pos,af,gd⟩ :: l) :: k,dfs,H,nx⟩ Q:=by
 refine rI hw hd hx hy ?_
 by_cases hc:a<b
 ·have e:(decide (a<b))=true:=by simp;omega
  rw [e];exact h1 hc
 ·have e:(decide (a<b))=false:=by simp;omega
  rw [e];exact h2 (by omega)
theorem pm{t yt:TypeId}{x y:Operand}{kd:IntKind}{a b:Int}{dd:Nat}(hw:ak T ops ⟨some dd,.binOp .leq t x y yt,ty,pos,af,gd⟩=some true)(hd:Nat.blt dd nt=true)(hx:aj T x=some (.sc (.int kd a)))(hy:aj T y=some (.sc (.int kd b)))
 (h1:a≤b→Wp P ro ⟨fn,nt,T.set dd (.sc (.bool true)),.inReg ops (i+1) l :: k,dfs,H,nx⟩ Q) (h2:b<a→Wp P ro ⟨fn,nt,T.set dd (.sc (.bool false)),.inReg ops (i+1) l :: k,dfs,H,nx⟩ Q) :
 Wp P ro ⟨fn,nt,T,.inReg ops i (⟨some dd,.binOp .leq t x y yt,ty,pos,af,gd⟩ :: l) :: k,dfs,H,nx⟩ Q:=by
 refine w_leq hw hd hx hy ?_
 by_cases hc:a≤b
 ·have e:(decide (a≤b))=true:=by simp;omega
  rw [e];exact h1 hc
 ·have e:(decide (a≤b))=false:=by simp;omega
  rw [e];exact h2 (by omega)
theorem cp{t yt:TypeId}{x y:Operand}{kd:IntKind}{a b:Int}{dd:Nat}(hw:ak T ops ⟨some dd,.binOp .gtr t x y yt,ty,pos,af,gd⟩=some true)(hd:Nat.blt dd nt=true)(hx:aj T x=some (.sc (.int kd a)))(hy:aj T y=some (.sc (.int kd b)))
 (h1:b<a→Wp P ro ⟨fn,nt,T.set dd (.sc (.bool true)),.inReg ops (i+1) l :: k,dfs,H,nx⟩ Q) (h2:a≤b→Wp P ro ⟨fn,nt,T.set dd (.sc (.bool false)),.inReg ops (i+1) l :: k,dfs,H,nx⟩ Q) :
 Wp P ro ⟨fn,nt,T,.inReg ops i (⟨some dd,.binOp .gtr t x y yt,ty,pos,af,gd⟩ :: l) :: k,dfs,H,nx⟩ Q:=by
 refine w_gtr hw hd hx hy ?_
 by_cases hc:b<a
 ·have e:(decide (a>b))=true:=by simp;omega
  rw [e];exact h1 hc
 ·have e:(decide (a>b))=false:=by simp;omega
  rw [e];exact h2 (by omega)
theorem kJ{t yt:TypeId}{x y:Operand}{kd:IntKind}{a b:Int}{dd:Nat}(hw:ak T ops ⟨some dd,.binOp .geq t x y yt,ty,pos,af,gd⟩=some true)(hd:Nat.blt dd nt=true)(hx:aj T x=some (.sc (.int kd a)))(hy:aj T y=some (.sc (.int kd b)))
 (h1:b≤a→Wp P ro ⟨fn,nt,T.set dd (.sc (.bool true)),.inReg ops (i+1) l :: k,dfs,H,nx⟩ Q) (h2:a<b→Wp P ro ⟨fn,nt,T.set dd (.sc (.bool false)),.inReg ops (i+1) l :: k,dfs,H,nx⟩ Q) :
 Wp P ro ⟨fn,nt,T,.inReg ops i (⟨some dd,.binOp .geq t x y yt,ty,pos,af,gd⟩ :: l) :: k,dfs,H,nx⟩ Q:=by
 refine w_geq hw hd hx hy ?_
 by_cases hc:b≤a
 ·have e:(decide (a≥b))=true:=by simp;omega
  rw [e];exact h1 hc
 ·have e:(decide (a≥b))=false:=by simp;omega
  rw [e];exact h2 (by omega)
theorem rQ{op:BinOp}{t yt:TypeId}{x y:Operand}{kd:IntKind}{a b c:Int}{dd:Nat}(hw:ak T ops ⟨some dd,.binOp op t x y yt,ty,pos,af,gd⟩=some true)(hd:Nat.blt dd nt=true)(hx:aj T x=some (.sc (.int kd a)))(hy:aj T y=some (.sc (.int kd b)))(ho:op = .and∨op = .or∨op = .xor∨op = .andNot)(hc:oZ op kd a b=c)
 (h:Wp P ro ⟨fn,nt,T.set dd (.sc (.int kd c)),.inReg ops (i+1) l :: k,dfs,H,nx⟩ Q):Wp P ro ⟨fn,nt,T,.inReg ops i (⟨some dd,.binOp op t x y yt,ty,pos,af,gd⟩ :: l) :: k,dfs,H,nx⟩ Q:=
 be hw (.inr (fun _ h=>by cases h)) ((qf hx hy ho hc).does) (by rw [ap hd];exact h)
theorem rG{t yt:TypeId}{x y:Operand}{kd kd2:IntKind}{a b c:Int}{dd:Nat}(hw:ak T ops ⟨some dd,.binOp .shl t x y yt,ty,pos,af,gd⟩=some true)(hd:Nat.blt dd nt=true)(hx:aj T x=some (.sc (.int kd a)))(hy:aj T y=some (.sc (.int kd2 b)))(h0:0≤b)(hc:kd.wrap (a*2 ^ (min b.toNat kd.bits))=c)
 (h:Wp P ro ⟨fn,nt,T.set dd (.sc (.int kd c)),.inReg ops (i+1) l :: k,dfs,H,nx⟩ Q):Wp P ro ⟨fn,nt,T,.inReg ops i (⟨some dd,.binOp .shl t x y yt,ty,pos,af,gd⟩ :: l) :: k,dfs,H,nx⟩ Q:=
 be hw (.inr (fun _ h=>by cases h)) ((sd hx hy h0 hc).does) (by rw [ap hd];exact h)
theorem kG{t yt:TypeId}{x y:Operand}{kd kd2:IntKind}{a b c:Int}{dd:Nat}(hw:ak T ops ⟨some dd,.binOp .shr t x y yt,ty,pos,af,gd⟩=some true)(hd:Nat.blt dd nt=true)(hx:aj T x=some (.sc (.int kd a)))(hy:aj T y=some (.sc (.int kd2 b)))(h0:0≤b)(hc:a.fdiv (2 ^ (min b.toNat kd.bits))=c)
 (h:Wp P ro ⟨fn,nt,T.set dd (.sc (.int kd c)),.inReg ops (i+1) l :: k,dfs,H,nx⟩ Q):Wp P ro ⟨fn,nt,T,.inReg ops i (⟨some dd,.binOp .shr t x y yt,ty,pos,af,gd⟩ :: l) :: k,dfs,H,nx⟩ Q:=
 be hw (.inr (fun _ h=>by cases h)) ((sb hx hy h0 hc).does) (by rw [ap hd];exact h)
theorem gi{s t:TypeId}{su:TypeDesc}{x:Operand}{kd kd2:IntKind}{a c:Int}{dd:Nat}(hw:ak T ops ⟨some dd,.convert s t x,ty,pos,af,gd⟩=some true)(hd:Nat.blt dd nt=true)(hx:aj T x=some (.sc (.int kd2 a)))(hs:P.underlying s=some su)(hu:P.underlying t=some (.int kd))(hc:kd.wrap a=c)
 (h:Wp P ro ⟨fn,nt,T.set dd (.sc (.int kd c)),.inReg ops (i+1) l :: k,dfs,H,nx⟩ Q):Wp P ro ⟨fn,nt,T,.inReg ops i (⟨some dd,.convert s t x,ty,pos,af,gd⟩ :: l) :: k,dfs,H,nx⟩ Q:=
 be hw (.inr (fun _ h=>by cases h)) ((qe hs hu hx hc).does) (by rw [ap hd];exact h)
theorem cT{t:TypeId}{parts:List (Nat×Operand)}{ps:List (Nat×SV)}{pl:List (Nat×Nat)}{z:Value}{cs:List SV}{dd:Nat}(hw:ak T ops ⟨some dd,.build t parts.toArray,ty,pos,af,gd⟩=some true)(hd:Nat.blt dd nt=true)(hx:fw T parts=some ps)(hz:bU P t=some z)(hl:qh P t=some pl)(hf:dM (fun i=>pl[i]?) (z.cells.toList.map .sc) ps=some cs)
 (h:Wp P ro ⟨fn,nt,T.set dd (.agg cs),.inReg ops (i+1) l :: k,dfs,H,nx⟩ Q):Wp P ro ⟨fn,nt,T,.inReg ops i (⟨some dd,.build t parts.toArray,ty,pos,af,gd⟩ :: l) :: k,dfs,H,nx⟩ Q:=
 be hw (.inr (fun _ h=>by cases h)) ((iB hx hz hl hf).does) (by rw [ap hd];exact h)
theorem cG{t:TypeId}{x:Operand}{b:Bool}{dd:Nat}(hw:ak T ops ⟨some dd,.unOp .not t x,ty,pos,af,gd⟩=some true)(hd:Nat.blt dd nt=true)(hx:aj T x=some (.sc (.bool b)))
 (h:Wp P ro ⟨fn,nt,T.set dd (.sc (.bool (!b))),.inReg ops (i+1) l :: k,dfs,H,nx⟩ Q):Wp P ro ⟨fn,nt,T,.inReg ops i (⟨some dd,.unOp .not t x,ty,pos,af,gd⟩ :: l) :: k,dfs,H,nx⟩ Q:=
 be hw (.inr (fun _ h=>by cases h)) ((se hx).does) (by rw [ap hd];exact h)
theorem ip{t e:TypeId}{x:Operand}{b eo n:Nat}{dd:Nat}(hw:ak T ops ⟨some dd,.call {callee:= .builtin .len,args:= #[x],argTypes:= #[t]},ty,pos,af,gd⟩=some true)(hd:Nat.blt dd nt=true)(hx:aj T x=some (.slu b eo n))(hu:P.underlying t=some (.slice e))
 (h:Wp P ro ⟨fn,nt,T.set dd (.sc (.int .i64 n)),.inReg ops (i+1) l :: k,dfs,H,nx⟩ Q):Wp P ro ⟨fn,nt,T,.inReg ops i (⟨some dd,.call {callee:= .builtin .len,args:= #[x],argTypes:= #[t]},ty,pos,af,gd⟩ :: l) :: k,dfs,H,nx⟩ Q:=
 be hw (.inr (fun _ h=>by cases h)) ((kQ hu hx).does) (by rw [ap hd];exact h)
theorem au{g:FuncId}{as1:List Operand}{ats:Array TypeId}{args:List SV}{dd:Nat}(hw:ak T ops ⟨some dd,.call {callee:= .value (.func g),args:=as1.toArray,argTypes:=ats},ty,pos,af,gd⟩=some true)(hd:Nat.blt dd nt=true)(ha:cD T as1=some args)(hm:bu P g=true)
 (h:Fnc P g args H nx (fun r=>Wp P ro ⟨fn,nt,T.set dd r.1,.inReg ops (i+1) l :: k,dfs,r.2.1,r.2.2⟩ Q)) :
 Wp P ro ⟨fn,nt,T,.inReg ops i (⟨some dd,.call {callee:= .value (.func g),args:=as1.toArray,argTypes:=ats},ty,pos,af,gd⟩ :: l) :: k,dfs,H,nx⟩ Q:=by
 refine ml hw (args:=args) ?_ (by simp only [ap hd];exact h)
 simp only [bh,ha,aj,bY,hm,cond_true,List.map_nil,List.nil_append,List.append_nil]
theorem gj{x:Operand}{g:FuncId}{fa fb:List SV}{as1:List Operand}{ats:Array TypeId}{args:List SV}{dd:Nat}(hw:ak T ops ⟨some dd,.call {callee:= .value x,args:=as1.toArray,argTypes:=ats},ty,pos,af,gd⟩=some true)(hd:Nat.blt dd nt=true)(hx:aj T x=some (.fn (.func g) fa fb))(ha:cD T as1=some args)(hm:bu P g=true)
 (h:Fnc P g (fa ++ args ++ fb) H nx (fun r=>Wp P ro ⟨fn,nt,T.set dd r.1,.inReg ops (i+1) l :: k,dfs,r.2.1,r.2.2⟩ Q)) :
 Wp P ro ⟨fn,nt,T,.inReg ops i (⟨some dd,.call {callee:= .value x,args:=as1.toArray,argTypes:=ats},ty,pos,af,gd⟩ :: l) :: k,dfs,H,nx⟩ Q:=by
 refine ml hw (args:=fa ++ args ++ fb) ?_ (by simp only [ap hd];exact h)
 simp only [bh,ha,hx,bY,hm,cond_true]
end
end Go.Sy
end
section
namespace Go.Proofs.Ytnhmbonmlfeifaa
open Go Go.Sy
namespace F
def chk{A:Type}(f:Nat→Option A):Nat→List (Option A)→List (Option A)
 | _,[]=> []
 | i,none :: l=>none :: chk f (i+1) l
 | i,some _ :: l=>f i :: chk f (i+1) l
theorem dP{A:Type}{f:Nat→Option A}: ∀ {l:List (Option A)} {k:Nat},chk f k l=l→ ∀ {i:Nat} {x:A},l[i]? =some (some x)→f (k+i)=some x
 | none :: l,k,h,0,x,hx=>by simp at hx
 | some y :: l,k,h,0,x,hx=>by
   simp only [chk,List.cons.injEq] at h
   rw [Nat.add_zero,h.1]
   simpa using hx
 | none :: l,k,h,i+1,x,hx=>by
   simp only [chk,List.cons.injEq] at h
   rw [show k+(i+1)=k+1+i by omega]
   exact dP h.2 (by simpa using hx)
 | some y :: l,k,h,i+1,x,hx=>by
   simp only [chk,List.cons.injEq] at h
   rw [show k+(i+1)=k+1+i by omega]
   exact dP h.2 (by simpa using hx)
def qZ(f:Nat→Option Nat):Nat→List Nat→List (Option Nat)
 | _,[]=> []
 | k,_ :: l=>f k :: qZ f (k+1) l
theorem lq{f:Nat→Option Nat}: ∀ {l:List Nat} {k:Nat},qZ f k l=l.map some→ ∀ {i x:Nat},l[i]? =some x→f (k+i)=some x
 | y :: l,k,h,0,x,hx=>by
   simp only [qZ,tj,List.cons.injEq] at h
   rw [Nat.add_zero,h.1]
   simpa using hx
 | y :: l,k,h,i+1,x,hx=>by
   simp only [qZ,tj,List.cons.injEq] at h
   rw [show k+(i+1)=k+1+i by omega]
   exact lq h.2 (by simpa using hx)
def sQ(f:Nat→Nat→Option Nat):Nat→List (Option (List Nat))→Prop
 | _,[]=>True
 | i,none :: l=>sQ f (i+1) l
 | i,some r :: l=>qZ (f i) 0 r=r.map some∧sQ f (i+1) l
theorem iU{f:Nat→Nat→Option Nat}: ∀ {l:List (Option (List Nat))} {k:Nat},sQ f k l→ ∀ {i:Nat} {x:List Nat},l[i]? =some (some x)→qZ (f (k+i)) 0 x=x.map some
 | none :: l,k,h,0,x,hx=>by simp at hx
 | some y :: l,k,h,0,x,hx=>by
   have e:y=x:=by simpa using hx
   subst e
   exact h.1
 | none :: l,k,h,i+1,x,hx=>by
   rw [show k+(i+1)=k+1+i by omega]
   exact iU (l:=l) h (by simpa using hx)
 | some y :: l,k,h,i+1,x,hx=>by
   rw [show k+(i+1)=k+1+i by omega]
   exact iU (l:=l) h.2 (by simpa using hx)
def szL:List (Option (Nat)):= [some 1,some 1,some 1,some 1,some 1,some 1,some 1,some 4,some 4,some 1,some 1,some 1,some 1,some 2,some 2,some 1,some 1,some 1,some 1,some 1,some 1,some 1,some 2,some 2,some 1,some 1,some 1,some 1,some 1,some 4,some 4,some 1,some 1,some 1,some 1,some 1,some 1,some 1,some 1,some 1,some 1,some 1,some 1,some 1,some 1,some 1,some 1024,some 1024,some 1,some 1,some 1,some 1,some 1,some 1,some 1,some 1,some 1,some 1,some 1,some 1,some 1,some 1,some 1,some 6,some 6,some 1,some 1,some 1,some 1,some 1,some 1,some 0,some 1,some 1,some 1,some 1,some 1,some 1,some 1,some 1,some 1,some 1,some 131072,some 131074,some 131074,some 1,some 1,some 1,some 1,some 1,some 1,some 1,some 1,some 1,some 1,some 1,some 1,some 1,some 1,some 1,some 1,some 1,some 1,some 1,some 1,some 1,some 1,some 1,some 1,some 1,some 1,some 1,some 1,some 1,some 1,some 1024,some 1,some 2,some 2,some 1,some 1,some 1,some 1,some 1,some 1,some 1,some 1,some 1,some 1,some 1,some 1,some 1,some 1,some 1,some 1,some 1,some 1,some 1,some 1,some 1,some 1,some 1,some 1,some 1,some 1,some 4,some 4,some 0,some 0,some 0,some 1,some 1,some 1,some 1,some 1,some 1,some 11,some 11,some 1]
theorem szOk:chk (fun i=>aR Try.prog i) 0 szL=szL:=by kernel_rfl
theorem sz(i:Nat){x:Nat}(h:szL[i]? =some (some x)):aR Try.prog i=some x:=by
 have:=dP szOk h
 simpa using this
def agL:List (Option (Option Nat)):= [some (none),some (none),some (none),some (none),some (none),some (none),some (none),some ((some 4)),some ((some 4)),some (none),some (none),some (none),some (none),some ((some 2)),some ((some 2)),some (none),some (none),some (none),some ((some 1)),some ((some 1)),some (none),some (none),some ((some 2)),some ((some 2)),some (none),some (none),some (none),some (none),some (none),some ((some 4)),some ((some 4)),some (none),some (none),some (none),some (none),some (none),some (none),some (none),some (none),some (none),some (none),some (none),some (none),some (none),some (none),some (none),some ((some 1024)),some ((some 1024)),some (none),some (none),some (none),some (none),some (none),some (none),some (none),some (none),some (none),some (none),some (none),some (none),some (none),some (none),some (none),some ((some 6)),some ((some 6)),some (none),some (none),some (none),some (none),some (none),some (none),some ((some 0)),some (none),some (none),some (none),some (none),some (none),some (none),some (none),some (none),some (none),some (none),some ((some 131072)),some ((some 131074)),some ((some 131074)),some (none),some (none),some (none),some (none),some (none),some (none),some (none),some (none),some (none),some (none),some (none),some (none),some (none),some (none),some (none),some (none),some (none),some (none),some (none),some (none),some (none),some (none),some (none),some (none),some (none),some (none),some (none),some (none),some (none),some (none),some ((some 1024)),some (none),some ((some 2)),some ((some 2)),some (none),some (none),some (none),some (none),some (none),some (none),some (none),some (none),some (none),some (none),some (none),some (none),some (none),some (none),some (none),some (none),some (none),some (none),some (none),some (none),some (none),some (none),some (none),some (none),some (none),some (none),some ((some 4)),some ((some 4)),some ((some 0)),some ((some 0)),some ((some 0)),some (none),some (none),some (none),some (none),some (none),some (none),some ((some 11)),some ((some 11)),some (none)]
theorem agOk:chk (fun i=>bA Try.prog i) 0 agL=agL:=by kernel_rfl
theorem ag(i:Nat){x:Option Nat}(h:agL[i]? =some (some x)):bA Try.prog i=some x:=by
 have:=dP agOk h
 simpa using this
def zlL:List (Option (List SV)):= [none,some ([.sc (.nilFunc)]),some ([.sc (.int .i64 0)]),some ([.sc (.int .i64 0)]),some ([.sc (.bool false)]),some ([.sc (.int .u8 0)]),some ([.sc (.int .u8 0)]),some ([.sc (.int .i64 0),.sc (.int .i64 0),.sc (.bool false),.sc (.int .u8 0)]),some ([.sc (.int .i64 0),.sc (.int .i64 0),.sc (.bool false),.sc (.int .u8 0)]),some ([.sc (.string ⟨#[]⟩)]),some ([.sc (.string ⟨#[]⟩)]),some ([.sc (.string ⟨#[]⟩)]),some ([.sc (.int .u64 0)]),some ([.sc (.string ⟨#[]⟩),.sc (.int .u64 0)]),some ([.sc (.string ⟨#[]⟩),.sc (.int .u64 0)]),some ([.sc (.pointer none)]),some ([.sc (.pointer none)]),some ([.sc (.pointer none)]),some ([.sc (.pointer none)]),some ([.sc (.pointer none)]),some ([.sc (.nilIface)]),some ([.sc (.int .i32 0)]),some ([.sc (.int .i64 0),.sc (.int .i64 0)]),some ([.sc (.int .i64 0),.sc (.int .i64 0)]),some ([.sc (.int .i64 0)]),none,some ([.sc (.nilFunc)]),some ([.sc (.slice none 0 0)]),some ([.sc (.int .u64 0)]),some ([.sc (.slice none 0 0),.sc (.slice none 0 0),.sc (.int .u64 0),.sc (.int .u64 0)]),some ([.sc (.slice none 0 0),.sc (.slice none 0 0),.sc (.int .u64 0),.sc (.int .u64 0)]),some ([.sc (.nilFunc)]),none,some ([.sc (.nilFunc)]),some ([.sc (.slice none 0 0)]),none,some ([.sc (.nilFunc)]),none,some ([.sc (.nilFunc)]),some ([.sc (.nilFunc)]),some ([.sc (.nilFunc)]),some ([.sc (.nilFunc)]),some ([.sc (.nilIface)]),some ([.sc (.nilIface)]),none,some ([.sc (.nilFunc)]),none,none,some ([.sc (.nilFunc)]),some ([.sc (.nilFunc)]),none,some ([.sc (.nilFunc)]),none,some ([.sc (.nilFunc)]),some ([.sc (.nilFunc)]),some ([.sc (.nilFunc)]),some ([.sc (.nilFunc)]),some ([.sc (.nilFunc)]),some ([.sc (.nilFunc)]),some ([.sc (.nilFunc)]),some ([.sc (.nilFunc)]),some ([.sc (.nilFunc)]),some ([.sc (.nilFunc)]),some ([.sc (.int .i64 0),.sc (.int .i64 0),.sc (.slice none 0 0),.sc (.slice none 0 0),.sc (.int .u64 0),.sc (.int .u64 0)]),some ([.sc (.int .i64 0),.sc (.int .i64 0),.sc (.slice none 0 0),.sc (.slice none 0 0),.sc (.int .u64 0),.sc (.int .u64 0)]),some ([.sc (.nilFunc)]),some ([.sc (.nilFunc)]),some ([.sc (.nilFunc)]),some ([.sc (.slice none 0 0)]),some ([.sc (.map none)]),some ([.sc (.map none)]),some ([]),none,some ([.sc (.slice none 0 0)]),some ([.sc (.nilFunc)]),some ([.sc (.nilFunc)]),some ([.sc (.nilFunc)]),some ([.sc (.nilFunc)]),some ([.sc (.slice none 0 0)]),some ([.sc (.nilFunc)]),some ([.sc (.nilFunc)]),some ([.sc (.pointer none)]),none,none,none,some ([.sc (.nilFunc)]),some ([.sc (.nilFunc)]),some ([.sc (.nilFunc)]),none,some ([.sc (.nilFunc)]),some ([.sc (.pointer none)]),some ([.sc (.nilFunc)]),some ([.sc (.nilFunc)]),some ([.sc (.nilFunc)]),some ([.sc (.nilFunc)]),some ([.sc (.nilFunc)]),some ([.sc (.nilFunc)]),some ([.sc (.nilFunc)]),some ([.sc (.nilFunc)]),none,some ([.sc (.nilFunc)]),some ([.sc (.pointer none)]),some ([.sc (.nilFunc)]),some ([.sc (.nilFunc)]),some ([.sc (.nilFunc)]),some ([.sc (.nilFunc)]),some ([.sc (.nilFunc)]),some ([.sc (.nilFunc)]),some ([.sc (.nilFunc)]),none,some ([.sc (.nilFunc)]),some ([.sc (.nilFunc)]),some ([.sc (.int .u64 0)]),some ([.sc (.nilFunc)]),some ([.sc (.slice none 0 0)]),none,some ([.sc (.nilFunc)]),some ([.sc (.slice none 0 0),.sc (.bool false)]),some ([.sc (.slice none 0 0),.sc (.bool false)]),none,some ([.sc (.nilFunc)]),some ([.sc (.nilFunc)]),some ([.sc (.nilFunc)]),some ([.sc (.nilFunc)]),some ([.sc (.nilFunc)]),some ([.sc (.int .i64 0)]),none,some ([.sc (.nilFunc)]),some ([.sc (.nilFunc)]),some ([.sc (.nilFunc)]),some ([.sc (.nilFunc)]),none,some ([.sc (.nilFunc)]),some ([.sc (.nilFunc)]),some ([.sc (.int .u32 0)]),some ([.sc (.nilFunc)]),some ([.sc (.int .u64 0)]),some ([.sc (.nilFunc)]),some ([.sc (.nilFunc)]),some ([.sc (.nilFunc)]),some ([.sc (.pointer none)]),some ([.sc (.nilFunc)]),some ([.sc (.pointer none)]),some ([.sc (.nilFunc)]),some ([.sc (.nilFunc)]),some ([.sc (.pointer none),.sc (.pointer none),.sc (.pointer none),.sc (.string ⟨#[]⟩)]),some ([.sc (.pointer none),.sc (.pointer none),.sc (.pointer none),.sc (.string ⟨#[]⟩)]),some ([]),some ([]),some ([]),some ([.sc (.int .u8 0)]),some ([.sc (.int .u8 0)]),some ([.sc (.nilFunc)]),some ([.sc (.pointer none)]),some ([.sc (.int .i32 0)]),some ([.sc (.int .i32 0)]),some ([.sc (.int .u64 0),.sc (.int .u64 0),.sc (.int .u32 0),.sc (.int .u8 0),.sc (.int .u8 0),.sc (.int .u8 0),.sc (.int .u8 0),.sc (.nilFunc),.sc (.pointer none),.sc (.int .i32 0),.sc (.int .i32 0)]),some ([.sc (.int .u64 0),.sc (.int .u64 0),.sc (.int .u32 0),.sc (.int .u8 0),.sc (.int .u8 0),.sc (.int .u8 0),.sc (.int .u8 0),.sc (.nilFunc),.sc (.pointer none),.sc (.int .i32 0),.sc (.int .i32 0)]),some ([.sc (.pointer none)])]
theorem zlOk:chk (fun i=>j3 Try.prog i) 0 zlL=zlL:=by kernel_rfl
theorem zl(i:Nat){x:List SV}(h:zlL[i]? =some (some x)):j3 Try.prog i=some x:=by
 have:=dP zlOk h
 simpa using this
def plL:List (Option (List (Nat×Nat))):= [none,none,none,none,none,none,none,some ([(0,1),(1,1),(2,1),(3,1)]),some ([(0,1),(1,1),(2,1),(3,1)]),none,none,none,none,some ([(0,1),(1,1)]),some ([(0,1),(1,1)]),none,none,none,some ([(0,1)]),some ([(0,1)]),none,none,some ([(0,1),(1,1)]),some ([(0,1),(1,1)]),none,none,none,none,none,some ([(0,1),(1,1),(2,1),(3,1)]),some ([(0,1),(1,1),(2,1),(3,1)]),none,none,none,none,none,none,none,none,none,none,none,none,none,none,none,none,none,none,none,none,none,none,none,none,none,none,none,none,none,none,none,none,some ([(0,2),(2,4)]),some ([(0,2),(2,4)]),none,none,none,none,none,none,some ([]),none,none,none,none,none,none,none,none,none,none,none,some ([(0,131072),(131072,1),(131073,1)]),some ([(0,131072),(131072,1),(131073,1)]),none,none,none,none,none,none,none,none,none,none,none,none,none,none,none,none,none,none,none,none,none,none,none,none,none,none,none,none,none,none,none,none,some ([(0,1),(1,1)]),some ([(0,1),(1,1)]),none,none,none,none,none,none,none,none,none,none,none,none,none,none,none,none,none,none,none,none,none,none,none,none,none,none,some ([(0,1),(1,1),(2,1),(3,1)]),some ([(0,1),(1,1),(2,1),(3,1)]),none,some ([(0,0)]),some ([(0,0)]),none,none,none,none,none,none,some ([(0,1),(1,1),(2,1),(3,1),(4,1),(5,1),(6,1),(7,1),(8,1),(9,1),(10,1)]),some ([(0,1),(1,1),(2,1),(3,1),(4,1),(5,1),(6,1),(7,1),(8,1),(9,1),(10,1)]),none]
theorem plOk:chk (fun i=>qh Try.prog i) 0 plL=plL:=by kernel_rfl
theorem pl(i:Nat){x:List (Nat×Nat)}(h:plL[i]? =some (some x)):qh Try.prog i=some x:=by
 have:=dP plOk h
 simpa using this
def zeL:List (Option (Value)):= [none,some (.nilFunc),some (.int .i64 0),some (.int .i64 0),some (.bool false),some (.int .u8 0),some (.int .u8 0),some (.agg #[.int .i64 0,.int .i64 0,.bool false,.int .u8 0]),some (.agg #[.int .i64 0,.int .i64 0,.bool false,.int .u8 0]),some (.string ⟨#[]⟩),some (.string ⟨#[]⟩),some (.string ⟨#[]⟩),some (.int .u64 0),some (.agg #[.string ⟨#[]⟩,.int .u64 0]),some (.agg #[.string ⟨#[]⟩,.int .u64 0]),some (.pointer none),some (.pointer none),some (.pointer none),some (.agg #[.pointer none]),some (.agg #[.pointer none]),some (.nilIface),some (.int .i32 0),some (.agg #[.int .i64 0,.int .i64 0]),some (.agg #[.int .i64 0,.int .i64 0]),some (.int .i64 0),none,some (.nilFunc),some (.slice none 0 0),some (.int .u64 0),some (.agg #[.slice none 0 0,.slice none 0 0,.int .u64 0,.int .u64 0]),some (.agg #[.slice none 0 0,.slice none 0 0,.int .u64 0,.int .u64 0]),some (.nilFunc),none,some (.nilFunc),some (.slice none 0 0),none,some (.nilFunc),none,some (.nilFunc),some (.nilFunc),some (.nilFunc),some (.nilFunc),some (.nilIface),some (.nilIface),none,some (.nilFunc),none,none,some (.nilFunc),some (.nilFunc),none,some (.nilFunc),none,some (.nilFunc),some (.nilFunc),some (.nilFunc),some (.nilFunc),some (.nilFunc),some (.nilFunc),some (.nilFunc),some (.nilFunc),some (.nilFunc),some (.nilFunc),some (.agg #[.int .i64 0,.int .i64 0,.slice none 0 0,.slice none 0 0,.int .u64 0,.int .u64 0]),some (.agg #[.int .i64 0,.int .i64 0,.slice none 0 0,.slice none 0 0,.int .u64 0,.int .u64 0]),some (.nilFunc),some (.nilFunc),some (.nilFunc),some (.slice none 0 0),some (.map none),some (.map none),some (.agg #[]),none,some (.slice none 0 0),some (.nilFunc),some (.nilFunc),some (.nilFunc),some (.nilFunc),some (.slice none 0 0),some (.nilFunc),some (.nilFunc),some (.pointer none),none,none,none,some (.nilFunc),some (.nilFunc),some (.nilFunc),none,some (.nilFunc),some (.pointer none),some (.nilFunc),some (.nilFunc),some (.nilFunc),some (.nilFunc),some (.nilFunc),some (.nilFunc),some (.nilFunc),some (.nilFunc),none,some (.nilFunc),some (.pointer none),some (.nilFunc),some (.nilFunc),some (.nilFunc),some (.nilFunc),some (.nilFunc),some (.nilFunc),some (.nilFunc),none,some (.nilFunc),some (.nilFunc),some (.int .u64 0),some (.nilFunc),some (.slice none 0 0),none,some (.nilFunc),some (.agg #[.slice none 0 0,.bool false]),some (.agg #[.slice none 0 0,.bool false]),none,some (.nilFunc),some (.nilFunc),some (.nilFunc),some (.nilFunc),some (.nilFunc),some (.int .i64 0),none,some (.nilFunc),some (.nilFunc),some (.nilFunc),some (.nilFunc),none,some (.nilFunc),some (.nilFunc),some (.int .u32 0),some (.nilFunc),some (.int .u64 0),some (.nilFunc),some (.nilFunc),some (.nilFunc),some (.pointer none),some (.nilFunc),some (.pointer none),some (.nilFunc),some (.nilFunc),some (.agg #[.pointer none,.pointer none,.pointer none,.string ⟨#[]⟩]),some (.agg #[.pointer none,.pointer none,.pointer none,.string ⟨#[]⟩]),some (.agg #[]),some (.agg #[]),some (.agg #[]),some (.int .u8 0),some (.int .u8 0),some (.nilFunc),some (.pointer none),some (.int .i32 0),some (.int .i32 0),some (.agg #[.int .u64 0,.int .u64 0,.int .u32 0,.int .u8 0,.int .u8 0,.int .u8 0,.int .u8 0,.nilFunc,.pointer none,.int .i32 0,.int .i32 0]),some (.agg #[.int .u64 0,.int .u64 0,.int .u32 0,.int .u8 0,.int .u8 0,.int .u8 0,.int .u8 0,.nilFunc,.pointer none,.int .i32 0,.int .i32 0]),some (.pointer none)]
theorem zeOk:chk (fun i=>bU Try.prog i) 0 zeL=zeL:=by kernel_rfl
theorem ze(i:Nat){x:Value}(h:zeL[i]? =some (some x)):bU Try.prog i=some x:=by
 have:=dP zeOk h
 simpa using this
def foL:List (Option (List Nat)):= [none,none,none,none,none,none,none,some [0,1,2,3],some [0,1,2,3],none,none,none,none,some [0,1],some [0,1],none,none,none,some [0],some [0],none,none,some [0,1],some [0,1],none,none,none,none,none,some [0,1,2,3],some [0,1,2,3],none,none,none,none,none,none,none,none,none,none,none,none,none,none,none,none,none,none,none,none,none,none,none,none,none,none,none,none,none,none,none,none,some [0,2],some [0,2],none,none,none,none,none,none,none,none,none,none,none,none,none,none,none,none,none,none,some [0,131072,131073],some [0,131072,131073],none,none,none,none,none,none,none,none,none,none,none,none,none,none,none,none,none,none,none,none,none,none,none,none,none,none,none,none,none,none,none,none,some [0,1],some [0,1],none,none,none,none,none,none,none,none,none,none,none,none,none,none,none,none,none,none,none,none,none,none,none,none,none,none,some [0,1,2,3],some [0,1,2,3],none,none,none,none,none,none,none,none,none,some [0,1,2,3,4,5,6,7,8,9,10],some [0,1,2,3,4,5,6,7,8,9,10],none]
theorem foOk:sQ (d6 Try.prog) 0 foL:=by
 simp only [foL,sQ]
 exact⟨by kernel_rfl,by kernel_rfl,by kernel_rfl,by kernel_rfl,by kernel_rfl,by kernel_rfl,by kernel_rfl,by kernel_rfl,by kernel_rfl,by kernel_rfl,by kernel_rfl,by kernel_rfl,by kernel_rfl,by kernel_rfl,by kernel_rfl,by kernel_rfl,by kernel_rfl,by kernel_rfl,by kernel_rfl,by kernel_rfl,trivial⟩
theorem fo(i k:Nat){l:List Nat}{v:Nat}(h:foL[i]? =some (some l))(hk:l[k]? =some v):d6 Try.prog i k=some v:=by
 have:=iU foOk h
 have:=lq this hk
 simpa using this
def unL:List (Option TypeDesc):= [none,none,some (.int .i64),some (.int .i64),some (.bool),some (.int .u8),some (.int .u8),none,none,some (.string),some (.string),some (.string),some (.int .u64),none,none,some (.pointer 146),some (.pointer 149),some (.pointer 157),none,none,none,some (.int .i32),none,none,some (.int .i64),none,none,some (.slice 5),some (.int .u64),none,none,none,none,none,some (.slice 64),none,none,none,none,none,none,none,none,none,none,none,some (.array 1024 5),some (.array 1024 5),none,none,none,none,none,none,none,none,none,none,none,none,none,none,none,none,none,none,none,none,some (.slice 23),some (.map 3 73),some (.map 23 71),none,none,some (.slice 3),none,none,none,none,some (.slice 47),none,none,some (.pointer 84),some (.array 128 47),none,none,none,none,none,none,none,some (.pointer 47),none,none,none,none,none,none,none,none,none,none,some (.pointer 118),none,none,none,none,none,none,none,none,none,none,some (.int .u64),none,some (.slice 27),some (.array 1024 4),none,none,none,none,none,none,none,none,none,some (.int .i64),none,none,none,none,none,none,none,none,some (.int .u32),none,some (.int .u64),none,none,none,some (.pointer 3),none,some (.pointer 136),none,none,none,none,some (.array 0 16),none,none,some (.int .u8),some (.int .u8),none,some (.pointer 5),some (.int .i32),some (.int .i32),none,none,none]
theorem unOk:chk (fun i=>Try.prog.underlying i) 0 unL=unL:=by kernel_rfl
theorem un(i:Nat){x:TypeDesc}(h:unL[i]? =some (some x)):Try.prog.underlying i=some x:=by
 have:=dP unOk h
 simpa using this
end F
end Go.Proofs.Ytnhmbonmlfeifaa
end
section
namespace Go.Sy
open Go Go.Sl Go.RowKit
section
variable {P:Program}
def kX:List Nat→Bool
 | []=>true
 | x :: l=> !(l.any (Nat.beq x)) && kX l
def extB(L:List Nat)(nx:Nat):Bool:=L.all (fun n=>Nat.blt n nx) && kX L
theorem js: ∀ {l:List Nat},kX l=true→l.Nodup
 | [],_=>List.nodup_nil
 | x :: l,h=>by
   simp only [kX,tg,Bool.not_eq_true'] at h
   refine List.nodup_cons.2 ⟨fun hm=>?_,js h.2⟩
   have:l.any (Nat.beq x)=true:=List.any_eq_true.2 ⟨x,hm,Nat.beq_refl x⟩
   rw [this] at h
   cases h.1
theorem ExtOk.of{L:List Nat}{nx:Nat}(h:extB L nx=true):ExtOk L nx:=by
 simp only [extB,tg] at h
 exact⟨fun n hn=>s3 (List.all_eq_true.1 h.1 n hn),js h.2⟩
theorem Ends.mk{k0:Nat}{c:Cz}{v:SV}{H:ar}{nx:Nat}(σ:List Nat)(h1:ExtOk (nms k0 σ) nx)(h2:k0+σ.length=c.objs.length)(h3:v=c.v.ren (ext (nms k0 σ) nx))(h4:HasO (ext (nms k0 σ) nx) H 0 c.objs):Ends k0 c (v,H,nx):=⟨σ,h1,h2,h3,h4⟩
theorem Ends.val{k0:Nat}{u u':Value}{objs:List (Option VO)}{H:ar}{nx:Nat}(h1:ExtOk (nms k0 []) nx)(h2:k0=objs.length)(h3:u=u')(h4:HasO (ext (nms k0 []) nx) H 0 objs):Ends k0 ⟨.sc u',objs⟩ (.sc u,H,nx):=⟨[],h1,by simpa using h2,by rw [h3];rfl,h4⟩
theorem HasO.mono{ρ:Nat→Nat}{H H':ar}: ∀ {l:List (Option VO)} {i:Nat},HasO ρ H i l→(∀ n vo,H.at' n=some vo→H'.at' n=some vo)→HasO ρ H' i l
 | [],_,_,_=>trivial
 | none :: l,i,h,hH=>HasO.mono (l:=l) (i:=i+1) h hH
 | some v :: l,i,h,hH=>⟨hH _ _ h.1,HasO.mono (l:=l) (i:=i+1) h.2 hH⟩
end
theorem ln(ro:Bool)(ne sz:Nat)(t:TypeId)(vs:List Value):VO.row ro ne sz t (dL (vs.map .sc))=dat ro ne sz t vs:=by
 unfold dat dL
 congr 1
 funext i
 rw [List.getElem?_map]
section
variable {P:Program} {K:Zone} {w0 w:World} {e:Env} {H:ar} {nx:Nat} {T:Tr SV} {ev:Operand→Value} {d:Option Tmp} {ty:TypeId} {pos:String} {af:Array Edge} {gd:Option (Nat×Bool)}
theorem nd{el:TypeId}{sz n cap:Nat}{l:List SV}{vs:List Value}{s:Sem Value}(hS:St K w0 e H nx w)(hl:SV.aq e l=some vs)(hlen:vs.length=cap*sz)(hn:n≤cap)(hcap:cap≤maxLen)(h0:0<sz)
 (hrun:s.run P w = .ok (.slice (some ⟨w.heap.size,0,none⟩) n cap) {w with heap:=w.heap.push (.cells vs.toArray el)}):ei P K w0 e (.val (.slu nx 0 n),H.set nx (.row false n sz el (dL l)),nx+1) s w:=by
 have hf:=hS.fresh nx (th _)
 have hle:=Env.bB (x:=⟨w.heap.size,0,cap,sz,false⟩) hf
 refine⟨e.put nx ⟨w.heap.size,0,cap,sz,false⟩,_,.slu nx 0 n,_,rfl,hle,?_,by simp [SV.conc,Env.aJ,Ent.at],hrun⟩
 refine hS.new (o:= .cells vs.toArray el) rfl rfl rfl rfl rfl rfl rfl ⟨rfl,vs.toArray,(0,0),el,rfl,hn,by simp [hlen],hcap,fun _=>qr _,h0,fun i hi s hs=>?_⟩
 rw [dY] at hs
 obtain⟨v,hv,hg⟩:=cE (SV.aU hle _ _ hl) hs
 exact⟨v,hv,by simpa using hg⟩
theorem iE{t el:TypeId}{len sz:Nat}{parts:List (Nat×Operand)}{ps:List (Nat×SV)}{z:Value}{l:List SV}(hu:P.underlying t=some (.slice el))(hs:aR P el=some sz)(h0:0<sz)(hz:bU P el=some z)(hp:fw T parts=some ps)
 (hf:dM (fun i=>some (i*sz,sz)) (((List.range (len*sz)).map (z.cells[·% z.cells.size]!)).map .sc) ps=some l) (h1:bz l=true) (hlen:Nat.ble (len*sz) 16777216=true) (hll:l.length=len*sz) :
 OpDoes P T H nx ⟨d,.buildSlice t len parts.toArray,ty,pos,af,gd⟩ (.val (.slu nx 0 len),H.set nx (.row false len sz el (dL l)),nx+1):=by
 intro K w0 e w ev hS hE
 have hle:=aN hlen
 have hlm:len≤maxLen:=by
  unfold maxLen
  have:len*1≤len*sz:=Nat.mul_le_mul_left _ h0
  omega
 refine b8 (w:=w) (s:=Instr.buildSlice t len (parts.toArray.map fun x=>(x.1,ev x.2))) ?_ (fun v w' hr=>by simp only [execOp,Sem.run_bind];rw [hr];simp)
 have hpr:=hE.parts parts ps hp
 have hpr':q8 e ps (parts.toArray.map fun x=>(x.1,ev x.2)).toList:=by simpa using hpr
 obtain⟨vs,g1,g2⟩:=jH (e:=e) ps _ _ l _ hf hpr' (cm _)
 have hvl:=bE g2
 refine nd hS g2 (by omega) (th _) hlm h0 ?_
 by_cases hz0:len*sz=0
 ·have hvs:vs= []:=td (by omega)
  subst hvs
  have hps:ps= []:=by
   cases ps with
   | nil=>rfl
   | cons p ps=>
     exfalso
     simp only [hz0,List.range_zero,List.map_nil,dM,List.length_nil,Nat.le_zero_eq] at hf
     have hlen0:len=0:=by
      rcases Nat.eq_zero_or_pos len with h|h
      ·exact h
      ·have:=Nat.mul_pos h h0;omega
     cases hb:(Nat.beq p.2.cells.length sz && Nat.ble (p.1*sz+sz) 0)with
     | false=>rw [hb] at hf;cases hf
     | true=>
       rw [tg] at hb
       have:=aN hb.2
       omega
  subst hps
  have hq:(parts.toArray.map fun x=>(x.1,ev x.2)).toList= []:=by
   cases hq:(parts.toArray.map fun x=>(x.1,ev x.2)).toList with
   | nil=>rfl
   | cons _ _=>rw [hq] at hpr';exact hpr'.elim
  have hq2:List.map (fun x=>(x.fst,ev x.snd)) parts= []:=by simpa using hq
  simp [Instr.buildSlice,run_underlying hu,aW hs,hz0,hq2,Instr.fill,newRow,show Array.range 0=(#[]:Array Nat)from by decide]
 ·have hr:(Array.range (len*sz)).map (z.cells[·% z.cells.size]!)=((List.range (len*sz)).map (z.cells[·% z.cells.size]!)).toArray:=by
   apply Array.ext'
   simp
  simp only [Instr.buildSlice,run_underlying hu,Sem.run_bind,Result.andThen,aW hs]
  rw [if_neg (by omega)]
  simp only [Sem.run_pure,if_neg hz0,Sem.run_bind,Result.andThen,cU hz,hr,g1,newRow,run_newObj]
def RdV(P:Program)(H:ar)(sz:Nat)(s:SV)(m:Nat)(vs:List Value):Prop:=aA H sz s=some (m,vs.map .sc)
theorem p8{b eo n ne sz:Nat}{ro:Bool}{t:TypeId}{vs us:List Value}(hb:H.at' b=some (dat ro ne sz t vs))(hn:eo+n≤ne)(hu:(vs.drop (eo*sz)).take (n*sz)=us)(hl:us.length=n*sz):RdV P H sz (.slu b eo n) n us:=by
 unfold RdV
 simp only [aA,hb,dat,Nat.beq_refl,Bool.true_and]
 rw [show Nat.ble (eo+n) ne=true from s5 hn]
 have:=dy (ro:=ro) (ne:=ne) (sz:=sz) (t:=t) (vs:=vs) (n*sz) (eo*sz) hu hl (by rw [← Nat.add_mul];exact Nat.mul_le_mul_right _ hn)
 unfold dat at this
 simp only [cond_true,this,tu]
def lR(vs:List Value):Prop:= ∀ v∈vs,v.oneCell'=true
theorem fi{vs:List Value}(h:lR vs):bz (vs.map .sc)=true:=by
 induction vs with
 | nil=>rfl
 | cons v vs ih=>
   simp only [tj,bz,tg]
   refine⟨?_,ih fun u hu=>h u (List.mem_cons_of_mem _ hu)⟩
   have:=h v (List.mem_cons_self ..)
   cases v <;> first|rfl|(simp [Value.oneCell'] at this)
theorem oI{dflt n:Nat}{x:Option Operand}{v:Option Int}(h:(x=none∧n=dflt)∨ ∃ o k i,x=some o∧aj T o=some (.sc (.int k i))∧0≤i∧i.toNat=n):natOr T dflt x=some n:=by
 rcases h with ⟨rfl,rfl⟩|⟨o,k,i,rfl,h1,h2,rfl⟩
 ·rfl
 ·obtain⟨j,rfl⟩:=Int.eq_ofNat_of_zero_le h2
  simp only [natOr,ma,h1,Int.toNat_natCast]
def iZ(T:Tr SV)(dflt:Nat)(x:Option Operand)(n:Nat):Prop:=natOr T dflt x=some n
theorem qQ{dflt:Nat}{o:Operand}{k:IntKind}{i:Int}(h:aj T o=some (.sc (.int k i)))(h0:0≤i):iZ T dflt (some o) i.toNat:=oI (v:=none) (.inr ⟨o,k,i,rfl,h,h0,rfl⟩)
theorem dH{ne sz:Nat}{t:TypeId}: ∀ (vs l:List Value) (o:Nat),o+vs.length≤ne*sz→o+vs.length≤l.length→lR vs→(dat false ne sz t l).setCells o (vs.map .sc)=some (dat false ne sz t (l.take o ++ vs ++ l.drop (o+vs.length)))
 | [],l,o,_,_,_=>by simp [VO.setCells]
 | v :: vs,l,o,h,hl,h1=>by
   simp only [tn] at h hl
   have hset:(dat false ne sz t l).setCell o (.sc v)=some (dat false ne sz t (l.set o v)):=by
    simp only [dat,VO.setCell]
    have hone:(SV.sc v).one=true:=by
     have:=fi (vs:= [v]) (fun u hu=>h1 u (by simp at hu;subst hu;exact List.mem_cons_self ..))
     simpa [bz] using this
    rw [show Nat.blt o (ne*sz)=true from s5 (by omega),hone]
    simp only [Bool.and_self,cond_true,sW]
    congr 1
    funext i
    simp only [Tr.set]
    rw [List.getElem?_set]
    by_cases hi:o=i
    ·subst hi
     rw [if_pos rfl,if_pos (by omega),Nat.beq_refl]
     rfl
    ·rw [if_neg hi,show Nat.beq i o=false from by cases hb:Nat.beq i o with|false=>rfl|true=>exact absurd (Nat.eq_of_beq_eq_true hb).symm hi]
     rfl
   simp only [tj,VO.setCells,hset]
   rw [dH vs (l.set o v) (o+1) (by omega) (by rw [List.length_set];omega) (fun u hu=>h1 u (List.mem_cons_of_mem _ hu))]
   simp only [sW]
   congr 1
   have e1:(l.set o v).take (o+1)=l.take o ++ [v]:=by
    rw [List.take_set,List.set_eq_take_append_cons_drop,if_pos (by rw [List.length_take];omega),List.take_take,Nat.min_eq_left (by omega),List.drop_eq_nil_of_le (by rw [List.length_take];omega)]
   have e2:(l.set o v).drop (o+1+vs.length)=l.drop (o+(vs.length+1)):=by
    rw [List.drop_set_of_lt (by omega)]
    congr 1
    omega
   rw [e1,e2]
   simp
theorem mZ{t rt:TypeId}{a x:Operand}{b o n ne sz:Nat}{l vs:List Value}{v:SV}(hs:aR P t=some n)(ha:aj T a=some (.ptr b o))(hx:aj T x=some v)(hv:v.cells=vs.map .sc)(hb:H.at' b=some (dat false ne sz rt l))(hn:vs.length=n)(ho:o+n≤ne*sz)(hl:o+n≤l.length)
 (h1:lR vs):OpDoes P T H nx ⟨d,.store t a x,ty,pos,af,gd⟩ (.skip,H.set b (dat false ne sz rt (l.take o ++ vs ++ l.drop (o+n))),nx):=by
 refine iQ ?_
 subst hn
 unfold dN
 simp only [ha,hx,hv,jh,hs,List.length_map,Nat.beq_refl,cond_true,cg,hb,dH vs l o ho hl h1]
end
theorem e8{A:Type}{f:A→List Value}{sz:Nat}(hf: ∀ a,(f a).length=sz): ∀ (xs:List A) (i:Nat),(xs.flatMap f).take (i*sz)=(xs.take i).flatMap f
 | xs,0=>by simp
 | [],i+1=>by simp
 | x :: xs,i+1=>by
   rw [List.flatMap_cons,List.take_succ_cons,List.flatMap_cons,←e8 hf xs i,show(i+1)*sz=(f x).length+i*sz by rw [hf,Nat.add_mul];omega,List.take_length_add_append]
structure RecOf {A:Type} (f:A→List Value) (sz:Nat):Prop where
 len: ∀ a,(f a).length=sz
 one: ∀ a,lR (f a)
section
variable {P:Program} {T:Tr SV} {H:ar} {nx:Nat} {d0:Option Tmp} {ty:TypeId} {pos:String} {af:Array Edge} {gd:Option (Nat×Bool)}
theorem qa{t e:TypeId}{x y:Operand}{b n i:Nat}{k:IntKind}{j:Int}{ro:Bool}{ne sz:Nat}{rt:TypeId}{c:Tr SV}(hu:P.underlying t=some (.slice e))(hs:aR P e=some sz)(hx:aj T x=some (.slu b 0 n))(hy:aj T y=some (.sc (.int k j)))
 (hb:H.at' b=some (.row ro ne sz rt c)) (hj:j=(i:Int)) (hi:i<n) (hne:n≤ne):ReadDoes P T H ⟨d0,.indexAddr t x y,ty,pos,af,gd⟩ (.ptr b (i*sz)):=by
 subst hj
 have:=kR (d:=d0) (ty:=ty) (pos:=pos) (af:=af) (gd:=gd) hu hs hx hy hb (by omega) (by omega) (by omega)
 simpa using this
end
structure DrawK (P:Program) (nt:Nat) (ops:Array Oper) (i:Nat) (l:List Oper) (s:DS) (K:DS→Prop):Prop where
 ex: ∃ s',DrawRun P (wpr P) nt ops i l s s'∧K s'
def AllH(Q:List (ar×Nat))(p:ar→Prop):Prop:=match Q with
 | []=>True
 | q :: l=>p q.1∧AllH l p
theorem AllH.get{p:ar→Prop}: ∀ {Q:List (ar×Nat)},AllH Q p→ ∀ {i:Nat} {H:ar} {n:Nat},Q[i]? =some (H,n)→p H
 | [],_,i,H,n,h=>by simp at h
 | q :: l,hh,i,H,n,h=>by
   cases i with
   | zero=>simp only [tf,sW] at h;subst h;exact hh.1
   | succ i=>exact AllH.get hh.2 (by simpa using h)
def FlOk(P:Program)(ancs chain:List Nat)(Q:List (ar×Nat)):List Rec→Prop
 | []=>True
 | r :: l=>((r.chain || !r.wanted || (Nat.beq (cX (ancs.getD r.i 0) chain) r.stg && Nat.beq (bQ ancs r.i chain) r.stg))=true∨AllH Q (fun H=>ReadDoes P r.T H r.o r.val))∧FlOk P ancs chain Q l
theorem FlOk.ok{P:Program}{ancs chain:List Nat}{Q:List (ar×Nat)}: ∀ {l:List Rec},FlOk P ancs chain Q l→ ∀ r∈l,r.chain=false→r.wanted=true→ ∀ st,cX (ancs.getD r.i 0) chain≤st→st≤bQ ancs r.i chain→st≠r.stg→ ∀ H n,Q.reverse[st]? =some (H,n)→ReadDoes P r.T H r.o r.val
 | [],_,r,hm,_,_,_,_,_,_,_,_,_=>by cases hm
 | r0 :: l,hh,r,hm,hc,hw,st,h1,h2,h3,H,n,hq=>by
   rcases List.mem_cons.1 hm with rfl|hm
   ·rcases hh.1 with h|h
    ·rw [hc,hw] at h
     simp only [Bool.not_true,Bool.or_false,Bool.false_or,tg] at h
     have q1:=aC h.1
     have q2:=aC h.2
     omega
    ·have hlt:=(sZ.1 hq).1
     rw [List.getElem?_reverse (by simpa using hlt)] at hq
     exact h.get hq
   ·exact FlOk.ok hh.2 r hm hc hw st h1 h2 h3 H n hq
section
variable {P:Program} {ro:Option Nat} {fn nt nx:Nat} {T:Tr SV} {k:List AIt} {dfs:List ADf} {H:ar} {Q:Pst} {ops:Array Oper} {i:Nat} {l:List Oper} {d:Option Tmp} {ty:TypeId} {pos:String} {af:Array Edge} {gd:Option (Nat×Bool)}
theorem rM{id:Nat}{ops:List Oper}(hm:P.follows .mixedOrders=true)(hr:fS nt ops=true)
 (h:DrawK P nt ops.toArray 0 ops ⟨T,H,nx,[],[(H,nx)],0⟩ (fun s=>dQ (bn [] ops) (eL s)=true∧FlOk P (bn [] ops) (eL s) s.Hs s.recs∧Wp P ro ⟨fn,nt,s.T,k,dfs,s.H,s.nx⟩ Q)) :
 Wp P ro ⟨fn,nt,T,.code (.region id ops.toArray true) :: k,dfs,H,nx⟩ Q:=by
 obtain⟨s,hs,h1,h2,h3⟩:=h.ex
 exact .step ⟨hm,s,⟨hr,hs,h1,fun r hr=>FlOk.ok h2 r hr⟩,h3⟩
section
variable {K:DS→Prop} {rs:List Rec} {Hs:List (ar×Nat)} {stg:Nat} {dd:Nat} {op:Op}
theorem ll{s:DS}(h:K s):DrawK P nt ops i [] s K:=⟨⟨s,.nil _ _,h⟩⟩
theorem cW{v:SV}(hw:ak (aO T (aM ops.toList ⟨some dd,op,ty,pos,af,gd⟩)) ops ⟨some dd,op,ty,pos,af,gd⟩=some true)(hd:Nat.blt dd nt=true)(hnd: ∀ c,op ≠ .defer c)
 (hr:ReadDoes P (aO T (aM ops.toList ⟨some dd,op,ty,pos,af,gd⟩)) H ⟨some dd,op,ty,pos,af,gd⟩ v)
 (h:DrawK P nt ops (i+1) l ⟨T.set dd v,H,nx,⟨i,⟨some dd,op,ty,pos,af,gd⟩,aO T (aM ops.toList ⟨some dd,op,ty,pos,af,gd⟩),stg,false,true,v⟩ :: rs,Hs,stg⟩ K) :
 DrawK P nt ops i (⟨some dd,op,ty,pos,af,gd⟩ :: l) ⟨T,H,nx,rs,Hs,stg⟩ K:=by
 obtain⟨s',h1,h2⟩:=h.ex
 refine⟨⟨s',.cons (.inr (.inl ⟨hw,hnd,v,hr,?_⟩)) h1,h2⟩⟩
 simp only [ap hd]
theorem qL{H':ar}{nx':Nat}(hw:ak (aO T (aM ops.toList ⟨none,op,ty,pos,af,gd⟩)) ops ⟨none,op,ty,pos,af,gd⟩=some true)(hnd: ∀ c,op ≠ .defer c)
 (hr:OpDoes P (aO T (aM ops.toList ⟨none,op,ty,pos,af,gd⟩)) H nx ⟨none,op,ty,pos,af,gd⟩ (.skip,H',nx'))
 (h:DrawK P nt ops (i+1) l ⟨T,H',nx',⟨i,⟨none,op,ty,pos,af,gd⟩,aO T (aM ops.toList ⟨none,op,ty,pos,af,gd⟩),stg,true,true,cf⟩ :: rs,(H',nx') :: Hs,stg+1⟩ K) :
 DrawK P nt ops i (⟨none,op,ty,pos,af,gd⟩ :: l) ⟨T,H,nx,rs,Hs,stg⟩ K:=by
 obtain⟨s',h1,h2⟩:=h.ex
 exact⟨⟨s',.cons (.inr (.inr ⟨hw,cf,H',nx',⟨_,hr,hnd,rfl⟩,rfl⟩)) h1,h2⟩⟩
theorem qm{g:FuncId}{as1:List Operand}{ats:Array TypeId}{args:List SV}(ha:cD T as1=some args)(hm:bu P g=true):OpDoes P T H nx ⟨d,.call {callee:= .value (.func g),args:=as1.toArray,argTypes:=ats},ty,pos,af,gd⟩ (.enter g args,H,nx):=by
 refine iQ ?_
 have hc:bh P T {callee:= .value (.func g),args:=as1.toArray,argTypes:=ats}=some (.enter g args):=by
  simp only [bh,ha,aj,bY,hm,cond_true,List.map_nil,List.nil_append,List.append_nil]
 unfold dN
 simp only [hc,tu]
theorem kr{g:FuncId}{as1:List Operand}{ats:Array TypeId}{args:List SV}{v:SV}{H':ar}{nx':Nat}(hw:ak (aO T (aM ops.toList ⟨some dd,.call {callee:= .value (.func g),args:=as1.toArray,argTypes:=ats},ty,pos,af,gd⟩)) ops ⟨some dd,.call {callee:= .value (.func g),args:=as1.toArray,argTypes:=ats},ty,pos,af,gd⟩=some true)(hd:Nat.blt dd nt=true)
 (ha:cD (aO T (aM ops.toList ⟨some dd,.call {callee:= .value (.func g),args:=as1.toArray,argTypes:=ats},ty,pos,af,gd⟩)) as1=some args) (hm:bu P g=true)
 (hr:Fnc P g args H nx (fun r=>r=(v,H',nx')))
 (h:DrawK P nt ops (i+1) l ⟨T.set dd v,H',nx',⟨i,⟨some dd,.call {callee:= .value (.func g),args:=as1.toArray,argTypes:=ats},ty,pos,af,gd⟩,aO T (aM ops.toList ⟨some dd,.call {callee:= .value (.func g),args:=as1.toArray,argTypes:=ats},ty,pos,af,gd⟩),stg,true,true,v⟩ :: rs,(H',nx') :: Hs,stg+1⟩ K) :
 DrawK P nt ops i (⟨some dd,.call {callee:= .value (.func g),args:=as1.toArray,argTypes:=ats},ty,pos,af,gd⟩ :: l) ⟨T,H,nx,rs,Hs,stg⟩ K:=by
 obtain⟨s',h1,h2⟩:=h.ex
 refine⟨⟨s',.cons (.inr (.inr ⟨hw,v,H',nx',⟨_,qm ha hm,(fun c hc=>(by cases hc)),hr⟩,?_⟩)) h1,h2⟩⟩
 simp only [ap hd]
end
theorem cd{t el:TypeId}{len sz:Nat}{parts:List (Nat×Operand)}{ps:List (Nat×SV)}{z:Value}{cs:List SV}{dd:Nat}(hw:ak T ops ⟨some dd,.buildSlice t len parts.toArray,ty,pos,af,gd⟩=some true)(hd:Nat.blt dd nt=true)(hu:P.underlying t=some (.slice el))(hs:aR P el=some sz)(h0:Nat.blt 0 sz=true)(hz:bU P el=some z)(hp:fw T parts=some ps)(hf:dM (fun i=>some (i*sz,sz)) (((List.range (len*sz)).map (z.cells[·% z.cells.size]!)).map .sc) ps=some cs)(h1:bz cs=true)(hlen:Nat.ble (len*sz) 16777216=true)(hll:cs.length=len*sz)
 (h:Wp P ro ⟨fn,nt,T.set dd (.slu nx 0 len),.inReg ops (i+1) l :: k,dfs,(H.set nx (.row false len sz el (dL cs))),(nx+1)⟩ Q):Wp P ro ⟨fn,nt,T,.inReg ops i (⟨some dd,.buildSlice t len parts.toArray,ty,pos,af,gd⟩ :: l) :: k,dfs,H,nx⟩ Q:=
 be hw (.inr (fun _ h=>by cases h)) (iE hu hs (bl h0) hz hp hf h1 hlen hll) (by rw [ap hd];exact h)
theorem kI{t e:TypeId}{x y:Operand}{b n q:Nat}{kd:IntKind}{j:Int}{rr:Bool}{ne sz:Nat}{rt:TypeId}{c:Tr SV}{dd:Nat}(hw:ak T ops ⟨some dd,.indexAddr t x y,ty,pos,af,gd⟩=some true)(hd:Nat.blt dd nt=true)(hx:aj T x=some (.slu b 0 n))(hy:aj T y=some (.sc (.int kd j)))(hu:P.underlying t=some (.slice e))(hs:aR P e=some sz)(hb:H.at' b=some (.row rr ne sz rt c))(hj:j=(q:Int))(hi:q<n)(hne:n≤ne)
 (h:Wp P ro ⟨fn,nt,T.set dd (.ptr b (q*sz)),.inReg ops (i+1) l :: k,dfs,H,nx⟩ Q):Wp P ro ⟨fn,nt,T,.inReg ops i (⟨some dd,.indexAddr t x y,ty,pos,af,gd⟩ :: l) :: k,dfs,H,nx⟩ Q:=
 be hw (.inr (fun _ h=>by cases h)) ((qa hu hs hx hy hb hj hi hne).does) (by rw [ap hd];exact h)
theorem kF{t rt:TypeId}{a x:Operand}{b o n ne sz:Nat}{cs vs cs':List Value}{v:SV}(hw:ak T ops ⟨none,.store t a x,ty,pos,af,gd⟩=some true)(ha:aj T a=some (.ptr b o))(hx:aj T x=some v)(hv:v.cells=vs.map .sc)(hs:aR P t=some n)(hb:H.at' b=some (dat false ne sz rt cs))(hn:vs.length=n)(ho:o+n≤ne*sz)(hl:o+n≤cs.length)(h1:lR vs)(hc:cs.take o ++ vs ++ cs.drop (o+n)=cs')
 (h:Wp P ro ⟨fn,nt,T,.inReg ops (i+1) l :: k,dfs,(H.set b (dat false ne sz rt cs')),nx⟩ Q):Wp P ro ⟨fn,nt,T,.inReg ops i (⟨none,.store t a x,ty,pos,af,gd⟩ :: l) :: k,dfs,H,nx⟩ Q:=
 kE hw (.inr (fun _ h=>by cases h)) (hc ▸ mZ hs ha hx hv hb hn ho hl h1) h
end
section
variable {P:Program} {nt nx:Nat} {T:Tr SV} {H:ar} {ops:Array Oper} {i:Nat} {l:List Oper} {ty:TypeId} {pos:String} {af:Array Edge} {gd:Option (Nat×Bool)} {K:DS→Prop} {rs:List Rec} {Hs:List (ar×Nat)} {stg:Nat}
theorem kq{x:Operand}{v:SV}{dd:Nat}(hw:ak (aO T (aM ops.toList ⟨some dd,.move x,ty,pos,af,gd⟩)) ops ⟨some dd,.move x,ty,pos,af,gd⟩=some true)(hd:Nat.blt dd nt=true)(hx:aj (aO T (aM ops.toList ⟨some dd,.move x,ty,pos,af,gd⟩)) x=some v)
 (h:DrawK P nt ops (i+1) l ⟨T.set dd v,H,nx,⟨i,⟨some dd,.move x,ty,pos,af,gd⟩,(aO T (aM ops.toList ⟨some dd,.move x,ty,pos,af,gd⟩)),stg,false,true,v⟩ :: rs,Hs,stg⟩ K):DrawK P nt ops i (⟨some dd,.move x,ty,pos,af,gd⟩ :: l) ⟨T,H,nx,rs,Hs,stg⟩ K:=
 cW hw hd (fun _ h=>by cases h) (gr hx) h
theorem nE{x:Operand}{v:SV}{dd:Nat}(hw:ak (aO T (aM ops.toList ⟨some dd,.assign x,ty,pos,af,gd⟩)) ops ⟨some dd,.assign x,ty,pos,af,gd⟩=some true)(hd:Nat.blt dd nt=true)(hx:aj (aO T (aM ops.toList ⟨some dd,.assign x,ty,pos,af,gd⟩)) x=some v)
 (h:DrawK P nt ops (i+1) l ⟨T.set dd v,H,nx,⟨i,⟨some dd,.assign x,ty,pos,af,gd⟩,(aO T (aM ops.toList ⟨some dd,.assign x,ty,pos,af,gd⟩)),stg,false,true,v⟩ :: rs,Hs,stg⟩ K):DrawK P nt ops i (⟨some dd,.assign x,ty,pos,af,gd⟩ :: l) ⟨T,H,nx,rs,Hs,stg⟩ K:=
 cW hw hd (fun _ h=>by cases h) (gu hx) h
theorem kp{x:Operand}{b o:Nat}{dd:Nat}(hw:ak (aO T (aM ops.toList ⟨some dd,.nilCheck x,ty,pos,af,gd⟩)) ops ⟨some dd,.nilCheck x,ty,pos,af,gd⟩=some true)(hd:Nat.blt dd nt=true)(hx:aj (aO T (aM ops.toList ⟨some dd,.nilCheck x,ty,pos,af,gd⟩)) x=some (.ptr b o))
 (h:DrawK P nt ops (i+1) l ⟨T.set dd (.ptr b o),H,nx,⟨i,⟨some dd,.nilCheck x,ty,pos,af,gd⟩,(aO T (aM ops.toList ⟨some dd,.nilCheck x,ty,pos,af,gd⟩)),stg,false,true,(.ptr b o)⟩ :: rs,Hs,stg⟩ K):DrawK P nt ops i (⟨some dd,.nilCheck x,ty,pos,af,gd⟩ :: l) ⟨T,H,nx,rs,Hs,stg⟩ K:=
 cW hw hd (fun _ h=>by cases h) (eD hx) h
theorem jM{s:TypeId}{x:Operand}{f b o off:Nat}{dd:Nat}(hw:ak (aO T (aM ops.toList ⟨some dd,.fieldAddr s x f,ty,pos,af,gd⟩)) ops ⟨some dd,.fieldAddr s x f,ty,pos,af,gd⟩=some true)(hd:Nat.blt dd nt=true)(hx:aj (aO T (aM ops.toList ⟨some dd,.fieldAddr s x f,ty,pos,af,gd⟩)) x=some (.ptr b o))(hf:d6 P s f=some off)
 (h:DrawK P nt ops (i+1) l ⟨T.set dd (.ptr b (o+off)),H,nx,⟨i,⟨some dd,.fieldAddr s x f,ty,pos,af,gd⟩,(aO T (aM ops.toList ⟨some dd,.fieldAddr s x f,ty,pos,af,gd⟩)),stg,false,true,(.ptr b (o+off))⟩ :: rs,Hs,stg⟩ K):DrawK P nt ops i (⟨some dd,.fieldAddr s x f,ty,pos,af,gd⟩ :: l) ⟨T,H,nx,rs,Hs,stg⟩ K:=
 cW hw hd (fun _ h=>by cases h) (dJ hf hx) h
theorem jL{t bt:TypeId}{x:Operand}{b o:Nat}{cs:List SV}{v:SV}{dd:Nat}(hw:ak (aO T (aM ops.toList ⟨some dd,.load t x,ty,pos,af,gd⟩)) ops ⟨some dd,.load t x,ty,pos,af,gd⟩=some true)(hd:Nat.blt dd nt=true)(hx:aj (aO T (aM ops.toList ⟨some dd,.load t x,ty,pos,af,gd⟩)) x=some (.ptr b o))(ha:bA P t=some none)(hb:H.at' b=some (am bt cs))(hv:cs[o]? =some v)
 (h:DrawK P nt ops (i+1) l ⟨T.set dd v,H,nx,⟨i,⟨some dd,.load t x,ty,pos,af,gd⟩,(aO T (aM ops.toList ⟨some dd,.load t x,ty,pos,af,gd⟩)),stg,false,true,v⟩ :: rs,Hs,stg⟩ K):DrawK P nt ops i (⟨some dd,.load t x,ty,pos,af,gd⟩ :: l) ⟨T,H,nx,rs,Hs,stg⟩ K:=
 cW hw hd (fun _ h=>by cases h) (dV ha hx hb (bk hv)) h
theorem gH{t bt:TypeId}{x:Operand}{b n:Nat}{cs:List SV}{dd:Nat}(hw:ak (aO T (aM ops.toList ⟨some dd,.load t x,ty,pos,af,gd⟩)) ops ⟨some dd,.load t x,ty,pos,af,gd⟩=some true)(hd:Nat.blt dd nt=true)(hx:aj (aO T (aM ops.toList ⟨some dd,.load t x,ty,pos,af,gd⟩)) x=some (.ptr b 0))(ha:bA P t=some (some n))(hb:H.at' b=some (am bt cs))(hn:cs.length=n)
 (h:DrawK P nt ops (i+1) l ⟨T.set dd (.agg cs),H,nx,⟨i,⟨some dd,.load t x,ty,pos,af,gd⟩,(aO T (aM ops.toList ⟨some dd,.load t x,ty,pos,af,gd⟩)),stg,false,true,(.agg cs)⟩ :: rs,Hs,stg⟩ K):DrawK P nt ops i (⟨some dd,.load t x,ty,pos,af,gd⟩ :: l) ⟨T,H,nx,rs,Hs,stg⟩ K:=
 cW hw hd (fun _ h=>by cases h) (cL ha hx hb (aL n 0 (by subst hn;simp) hn)) h
theorem gG{t bt:TypeId}{a x:Operand}{b o n:Nat}{cs vs cs':List SV}(hw:ak (aO T (aM ops.toList ⟨none,.store t a x,ty,pos,af,gd⟩)) ops ⟨none,.store t a x,ty,pos,af,gd⟩=some true)(ha:aj (aO T (aM ops.toList ⟨none,.store t a x,ty,pos,af,gd⟩)) a=some (.ptr b o))(hx:aj (aO T (aM ops.toList ⟨none,.store t a x,ty,pos,af,gd⟩)) x=some (.agg vs))(hs:aR P t=some n)(hb:H.at' b=some (am bt cs))(hn:vs.length=n)(ho:o+n≤cs.length)(h1:bz vs=true)(hc:cs.take o ++ vs ++ cs.drop (o+n)=cs')
 (h:DrawK P nt ops (i+1) l ⟨T,(H.set b (am bt cs')),nx,⟨i,⟨none,.store t a x,ty,pos,af,gd⟩,(aO T (aM ops.toList ⟨none,.store t a x,ty,pos,af,gd⟩)),stg,true,true,cf⟩ :: rs,((H.set b (am bt cs')),nx) :: Hs,stg+1⟩ K):DrawK P nt ops i (⟨none,.store t a x,ty,pos,af,gd⟩ :: l) ⟨T,H,nx,rs,Hs,stg⟩ K:=
 qL hw (fun _ h=>by cases h) (hc ▸ fU hs ha hx rfl hb hn ho h1) h
theorem sO{t yt:TypeId}{x y:Operand}{a b:Int}{dd:Nat}(hw:ak (aO T (aM ops.toList ⟨some dd,.binOp .add t x y yt,ty,pos,af,gd⟩)) ops ⟨some dd,.binOp .add t x y yt,ty,pos,af,gd⟩=some true)(hd:Nat.blt dd nt=true)(hx:aj (aO T (aM ops.toList ⟨some dd,.binOp .add t x y yt,ty,pos,af,gd⟩)) x=some (.sc (.int .i64 a)))(hy:aj (aO T (aM ops.toList ⟨some dd,.binOp .add t x y yt,ty,pos,af,gd⟩)) y=some (.sc (.int .i64 b)))(h1 : -9223372036854775808≤a+b)(h2:a+b≤9223372036854775807)
 (h:DrawK P nt ops (i+1) l ⟨T.set dd (.sc (.int .i64 (a+b))),H,nx,⟨i,⟨some dd,.binOp .add t x y yt,ty,pos,af,gd⟩,(aO T (aM ops.toList ⟨some dd,.binOp .add t x y yt,ty,pos,af,gd⟩)),stg,false,true,(.sc (.int .i64 (a+b)))⟩ :: rs,Hs,stg⟩ K):DrawK P nt ops i (⟨some dd,.binOp .add t x y yt,ty,pos,af,gd⟩ :: l) ⟨T,H,nx,rs,Hs,stg⟩ K:=
 cW hw hd (fun _ h=>by cases h) (eX hx hy (.inl ⟨rfl,(sX _ ⟨h1,h2⟩).symm⟩)) h
theorem sN{t yt:TypeId}{x y:Operand}{kd:IntKind}{a b:Int}{dd:Nat}(hw:ak (aO T (aM ops.toList ⟨some dd,.binOp .lss t x y yt,ty,pos,af,gd⟩)) ops ⟨some dd,.binOp .lss t x y yt,ty,pos,af,gd⟩=some true)(hd:Nat.blt dd nt=true)(hx:aj (aO T (aM ops.toList ⟨some dd,.binOp .lss t x y yt,ty,pos,af,gd⟩)) x=some (.sc (.int kd a)))(hy:aj (aO T (aM ops.toList ⟨some dd,.binOp .lss t x y yt,ty,pos,af,gd⟩)) y=some (.sc (.int kd b)))
 (h:DrawK P nt ops (i+1) l ⟨T.set dd (.sc (.bool (decide (a<b)))),H,nx,⟨i,⟨some dd,.binOp .lss t x y yt,ty,pos,af,gd⟩,(aO T (aM ops.toList ⟨some dd,.binOp .lss t x y yt,ty,pos,af,gd⟩)),stg,false,true,(.sc (.bool (decide (a<b))))⟩ :: rs,Hs,stg⟩ K):DrawK P nt ops i (⟨some dd,.binOp .lss t x y yt,ty,pos,af,gd⟩ :: l) ⟨T,H,nx,rs,Hs,stg⟩ K:=
 cW hw hd (fun _ h=>by cases h) (gt hx hy (.inr (.inr (.inl ⟨rfl,rfl⟩)))) h
theorem oT{t:TypeId}{parts:List (Nat×Operand)}{ps:List (Nat×SV)}{pl:List (Nat×Nat)}{z:Value}{cs:List SV}{dd:Nat}(hw:ak (aO T (aM ops.toList ⟨some dd,.build t parts.toArray,ty,pos,af,gd⟩)) ops ⟨some dd,.build t parts.toArray,ty,pos,af,gd⟩=some true)(hd:Nat.blt dd nt=true)(hx:fw (aO T (aM ops.toList ⟨some dd,.build t parts.toArray,ty,pos,af,gd⟩)) parts=some ps)(hz:bU P t=some z)(hl:qh P t=some pl)(hf:dM (fun i=>pl[i]?) (z.cells.toList.map .sc) ps=some cs)
 (h:DrawK P nt ops (i+1) l ⟨T.set dd (.agg cs),H,nx,⟨i,⟨some dd,.build t parts.toArray,ty,pos,af,gd⟩,(aO T (aM ops.toList ⟨some dd,.build t parts.toArray,ty,pos,af,gd⟩)),stg,false,true,(.agg cs)⟩ :: rs,Hs,stg⟩ K):DrawK P nt ops i (⟨some dd,.build t parts.toArray,ty,pos,af,gd⟩ :: l) ⟨T,H,nx,rs,Hs,stg⟩ K:=
 cW hw hd (fun _ h=>by cases h) (iB hx hz hl hf) h
theorem qJ{t yt:TypeId}{x y:Operand}{kd:IntKind}{a b:Int}{dd:Nat}(hw:ak (aO T (aM ops.toList ⟨some dd,.binOp .lss t x y yt,ty,pos,af,gd⟩)) ops ⟨some dd,.binOp .lss t x y yt,ty,pos,af,gd⟩=some true)(hd:Nat.blt dd nt=true)(hx:aj (aO T (aM ops.toList ⟨some dd,.binOp .lss t x y yt,ty,pos,af,gd⟩)) x=some (.sc (.int kd a)))(hy:aj (aO T (aM ops.toList ⟨some dd,.binOp .lss t x y yt,ty,pos,af,gd⟩)) y=some (.sc (.int kd b)))
 (h1:a<b→DrawK P nt ops (i+1) l ⟨T.set dd (.sc (.bool true)),H,nx,⟨i,⟨some dd,.binOp .lss t x y yt,ty,pos,af,gd⟩,(aO T (aM ops.toList ⟨some dd,.binOp .lss t x y yt,ty,pos,af,gd⟩)),stg,false,true,(.sc (.bool true))⟩ :: rs,Hs,stg⟩ K) (h2:b≤a→DrawK P nt ops (i+1) l ⟨T.set dd (.sc (.bool false)),H,nx,⟨i,⟨some dd,.binOp .lss t x y yt,ty,pos,af,gd⟩,(aO T (aM ops.toList ⟨some dd,.binOp .lss t x y yt,ty,pos,af,gd⟩)),stg,false,true,(.sc (.bool false))⟩ :: rs,Hs,stg⟩ K):DrawK P nt ops i (⟨some dd,.binOp .lss t x y yt,ty,pos,af,gd⟩ :: l) ⟨T,H,nx,rs,Hs,stg⟩ K:=by
 refine sN hw hd hx hy ?_
 by_cases hc:a<b
 ·have e:(decide (a<b))=true:=by simp;omega
  rw [e];exact h1 hc
 ·have e:(decide (a<b))=false:=by simp;omega
  rw [e];exact h2 (by omega)
end
section
variable {K V:Type} [DecidableEq K]
structure KEnc (P:Program) (kt:TypeId) (enc:K→Value):Prop where
 find: ∀ (l:List (K×SV×Nat)) (k:K),gF P kt (enc k) (l.map fun x=>(enc x.1,x.2))=some (l.findIdx? fun x=>decide (x.1=k))
 check: ∀ k,aK P (Instr.checkKey false 10000 kt (enc k))=some ()
 bits: ∀ k,Instr.sameBits 10000 (enc k) (enc k)=true
def fP(m:List (K×V×Nat))(k:K):Option V:=(m.find? fun x=>decide (x.1=k)).map (·.2.1)
def kj:List (K×V×Nat)→K→V→Nat→List (K×V×Nat)
 | [],k,v,c=> [(k,v,c)]
 | x :: m,k,v,c=>if x.1=k then(k,v,x.2.2) :: m else x :: kj m k v c
def sx(m:List (K×V×Nat))(k:K)(c:Nat):Nat:=match fP m k with
 | some _=>c
 | none=>c+1
def j0:List (K×V×Nat)→K→List (K×V×Nat)
 | [],_=> []
 | x :: m,k=>if x.1=k then m else x :: j0 m k
structure KOk (m:List (K×V×Nat)) (c:Nat):Prop where
 keys:(m.map (·.1)).Nodup
 born:(m.map (·.2.2)).Nodup
 lt: ∀ x∈m,x.2.2<c
omit [DecidableEq K] in
theorem KOk.nil(c:Nat):KOk ([]:List (K×V×Nat)) c:=⟨by simp,by simp,by simp⟩
theorem kidx(m:List (K×V×Nat))(k:K):match m.findIdx? fun x=>decide (x.1=k)with
 | none=>fP m k=none∧j0 m k=m∧ ∀ v c,kj m k v c=m ++ [(k,v,c)]
 | some i=> ∃ x,m[i]? =some x∧x.1=k∧fP m k=some x.2.1∧j0 m k=m.eraseIdx i∧ ∀ v c,kj m k v c=m.set i (k,v,x.2.2):=by
 induction m with
 | nil=>simp [fP,j0,kj]
 | cons y m ih=>
   rw [List.findIdx?_cons]
   by_cases h:y.1=k
   ·simp [h,fP,j0,kj]
   ·simp only [h,decide_false,Bool.false_eq_true,if_false]
    cases hi:m.findIdx? fun x=>decide (x.1=k)with
    | none=>
      rw [hi] at ih
      obtain⟨h1,h2,h3⟩:=ih
      refine⟨?_,?_,fun v c=>?_⟩
      ·simpa [fP,h] using h1
      ·simp [j0,h,h2]
      ·simp [kj,h,h3]
    | some i=>
      rw [hi] at ih
      obtain⟨x,h1,h2,h3,h4,h5⟩:=ih
      refine⟨x,by simpa using h1,h2,?_,?_,fun v c=>?_⟩
      ·simpa [fP,h] using h3
      ·simp [j0,h,h4]
      ·simp [kj,h,h5]
theorem nk{m:List (K×V×Nat)}{k:K}:fP m k=none↔k∉m.map (·.1):=by
 induction m with
 | nil=>simp [fP]
 | cons y m ih=>
   by_cases h:y.1=k
   ·simp [fP,h]
   ·have:fP (y :: m) k=fP m k:=by simp [fP,h]
    rw [this,ih]
    simp [Ne.symm h]
theorem KOk.put{m:List (K×V×Nat)}{c:Nat}(h:KOk m c)(k:K)(v:V):KOk (kj m k v c) (sx m k c):=by
 have hk:=kidx m k
 cases hi:m.findIdx? fun x=>decide (x.1=k)with
 | none=>
   rw [hi] at hk
   obtain⟨h1,_,h3⟩:=hk
   rw [h3,show sx m k c=c+1 by simp [sx,h1]]
   refine⟨?_,?_,?_⟩
   ·rw [tq,List.nodup_append]
    exact⟨h.keys,by simp,fun a ha b hb=>by simp at hb;subst hb;intro e;subst e;exact nk.1 h1 ha⟩
   ·rw [tq,List.nodup_append]
    refine⟨h.born,by simp,fun a ha b hb=>?_⟩
    simp at hb
    subst hb
    obtain⟨x,hx,rfl⟩:=List.mem_map.1 ha
    have:=h.lt x hx
    omega
   ·intro x hx
    rcases List.mem_append.1 hx with hx|hx
    ·have:=h.lt x hx;omega
    ·simp at hx;subst hx;show c<c+1;omega
 | some i=>
   rw [hi] at hk
   obtain⟨x,h1,h2,h3,_,h5⟩:=hk
   rw [h5,show sx m k c=c by simp [sx,h3]]
   obtain⟨hlt,rfl⟩:=sZ.1 h1
   refine⟨?_,?_,?_⟩
   ·rw [List.map_set]
    rw [show(m.map (·.1)).set i k=m.map (·.1) by rw [← h2];apply List.ext_getElem?;intro j;rw [List.getElem?_set];by_cases hj:i=j
                                                 ·subst hj;simp [hlt]
                                                 ·simp [hj]]
    exact h.keys
   ·rw [List.map_set]
    rw [show(m.map (·.2.2)).set i m[i].2.2=m.map (·.2.2) by apply List.ext_getElem?;intro j;rw [List.getElem?_set];by_cases hj:i=j
                                                            ·subst hj;simp [hlt]
                                                            ·simp [hj]]
    exact h.born
   ·intro y hy
    rcases List.mem_or_eq_of_mem_set hy with hy|rfl
    ·exact h.lt y hy
    ·exact h.lt m[i] (tA hlt)
omit [DecidableEq K] in
theorem KOk.sub{m m':List (K×V×Nat)}{c:Nat}(h:KOk m c)(hs:m'.Sublist m):KOk m' c:=⟨h.keys.sublist (hs.map _),h.born.sublist (hs.map _),fun x hx=>h.lt x (hs.subset hx)⟩
theorem oM(m:List (K×V×Nat))(k:K):(j0 m k).Sublist m:=by
 induction m with
 | nil=>exact List.Sublist.refl _
 | cons y m ih=>
   unfold j0
   split
   ·exact List.sublist_cons_self _ _
   ·exact ih.cons_cons _
theorem KOk.del{m:List (K×V×Nat)}{c:Nat}(h:KOk m c)(k:K):KOk (j0 m k) c:=h.sub (oM m k)
omit [DecidableEq K] in
theorem KOk.eq{m:List (K×V×Nat)}{c:Nat}(h:KOk m c){x y:K×V×Nat}(hx:x∈m)(hy:y∈m)(hb:x.2.2=y.2.2):x=y:=by
 obtain⟨i,hi⟩:=List.getElem?_of_mem hx
 obtain⟨j,hj⟩:=List.getElem?_of_mem hy
 obtain⟨hi',rfl⟩:=sZ.1 hi
 obtain⟨hj',rfl⟩:=sZ.1 hj
 have:i=j:=by
  refine(List.getElem_inj (h₀:=by simpa using hi') (h₁:=by simpa using hj') h.born).1 ?_
  simpa using hb
 subst this
 rfl
omit [DecidableEq K] in
theorem KOk.nodup{m:List (K×V×Nat)}{c:Nat}(h:KOk m c):m.Nodup:=by
 have:=h.born
 exact List.Pairwise.of_map (·.2.2) (fun a b hab e=>hab (by rw [e])) this
variable {P:Program} {T:Tr SV} {H:ar} {nx:Nat} {d:Option Tmp} {ty:TypeId} {pos:String} {af:Array Edge} {gd:Option (Nat×Bool)}
end
section
variable {P:Program} {T:Tr SV} {H:ar} {nx:Nat} {d:Option Tmp} {ty:TypeId} {pos:String} {af:Array Edge} {gd:Option (Nat×Bool)}
theorem ox{t yt:TypeId}{x y:Operand}{s:SV}{v:Value}{d0:TypeDesc}(hx:aj T x=some s)(hy:aj T y=some (.sc v))(hu:P.underlying t=some d0)(hn:hJ s v d0=true):ReadDoes P T H ⟨d,.binOp .eql t x y yt,ty,pos,af,gd⟩ (.sc (.bool false)):=by
 refine cK ?_
 unfold bL
 simp only [hx,hy,tv,iH,hu,hn,cond_true]
end
section
variable {P:Program} {T:Tr SV} {H:ar} {nx:Nat} {d0:Option Tmp} {ty:TypeId} {pos:String} {af:Array Edge} {gd:Option (Nat×Bool)}
theorem iz{t e:TypeId}{x y:Operand}{b o n sz:Nat}{k:IntKind}{j:Int}{q:Nat}(hx:aj T x=some (.ptr b o))(hy:aj T y=some (.sc (.int k j)))(hu:P.underlying t=some (.array n e))(hs:aR P e=some sz)(hq:j=(q:Int))(hi:q<n) :
 ReadDoes P T H ⟨d0,.indexAddr t x y,ty,pos,af,gd⟩ (.ptr b (o+q*sz)):=by
 refine cK ?_
 subst hq
 unfold bL
 simp only [ma,hx,hy,tv]
 show(bO P H t q (.ptr b o))=_
 simp only [bO,hu,hs]
 rw [show Nat.blt q n=true from s5 hi]
 rfl
end
section
variable {P:Program} {ro:Option Nat} {fn nt nx:Nat} {T:Tr SV} {k:List AIt} {dfs:List ADf} {H:ar} {Q:Pst} {ops:Array Oper} {i:Nat} {l:List Oper} {d:Option Tmp} {ty:TypeId} {pos:String} {af:Array Edge} {gd:Option (Nat×Bool)}
theorem fl{t yt:TypeId}{x y:Operand}{s:SV}{v:Value}{d0:TypeDesc}{dd:Nat}(hw:ak T ops ⟨some dd,.binOp .eql t x y yt,ty,pos,af,gd⟩=some true)(hd:Nat.blt dd nt=true)(hx:aj T x=some s)(hy:aj T y=some (.sc v))(hu:P.underlying t=some d0)(hn:hJ s v d0=true)
 (h:Wp P ro ⟨fn,nt,T.set dd (.sc (.bool false)),.inReg ops (i+1) l :: k,dfs,H,nx⟩ Q):Wp P ro ⟨fn,nt,T,.inReg ops i (⟨some dd,.binOp .eql t x y yt,ty,pos,af,gd⟩ :: l) :: k,dfs,H,nx⟩ Q:=
 be hw (.inr (fun _ h=>by cases h)) ((ox hx hy hu hn).does) (by rw [ap hd];exact h)
theorem gf{t e:TypeId}{x y:Operand}{b o n sz:Nat}{kd:IntKind}{j:Int}{q:Nat}{dd:Nat}(hw:ak T ops ⟨some dd,.indexAddr t x y,ty,pos,af,gd⟩=some true)(hd:Nat.blt dd nt=true)(hx:aj T x=some (.ptr b o))(hy:aj T y=some (.sc (.int kd j)))(hu:P.underlying t=some (.array n e))(hs:aR P e=some sz)(hq:j=(q:Int))(hi:q<n)
 (h:Wp P ro ⟨fn,nt,T.set dd (.ptr b (o+q*sz)),.inReg ops (i+1) l :: k,dfs,H,nx⟩ Q):Wp P ro ⟨fn,nt,T,.inReg ops i (⟨some dd,.indexAddr t x y,ty,pos,af,gd⟩ :: l) :: k,dfs,H,nx⟩ Q:=
 be hw (.inr (fun _ h=>by cases h)) ((iz hx hy hu hs hq hi).does) (by rw [ap hd];exact h)
theorem aI{t bt:TypeId}{a x:Operand}{b o n:Nat}{cs vs:List SV}{v:SV}(hw:ak T ops ⟨none,.store t a x,ty,pos,af,gd⟩=some true)(ha:aj T a=some (.ptr b o))(hx:aj T x=some v)(hv:v.cells=vs)(hs:aR P t=some n)(hb:H.at' b=some (am bt cs))(hn:vs.length=n)(ho:o+n≤cs.length)(h1:bz vs=true)
 (h:Wp P ro ⟨fn,nt,T,.inReg ops (i+1) l :: k,dfs,(H.set b (am bt (cs.take o ++ vs ++ cs.drop (o+n)))),nx⟩ Q):Wp P ro ⟨fn,nt,T,.inReg ops i (⟨none,.store t a x,ty,pos,af,gd⟩ :: l) :: k,dfs,H,nx⟩ Q:=
 kE hw (.inr (fun _ h=>by cases h)) (fU hs ha hx hv hb hn ho h1) h
end
section
variable {P:Program} {nt nx:Nat} {T:Tr SV} {H:ar} {ops:Array Oper} {i:Nat} {l:List Oper} {ty:TypeId} {pos:String} {af:Array Edge} {gd:Option (Nat×Bool)} {K:DS→Prop} {rs:List Rec} {Hs:List (ar×Nat)} {stg:Nat}
theorem qK{t e:TypeId}{x y:Operand}{b o n sz:Nat}{kd:IntKind}{j:Int}{q:Nat}{dd:Nat}(hw:ak (aO T (aM ops.toList ⟨some dd,.indexAddr t x y,ty,pos,af,gd⟩)) ops ⟨some dd,.indexAddr t x y,ty,pos,af,gd⟩=some true)(hd:Nat.blt dd nt=true)(hx:aj (aO T (aM ops.toList ⟨some dd,.indexAddr t x y,ty,pos,af,gd⟩)) x=some (.ptr b o))(hy:aj (aO T (aM ops.toList ⟨some dd,.indexAddr t x y,ty,pos,af,gd⟩)) y=some (.sc (.int kd j)))(hu:P.underlying t=some (.array n e))(hs:aR P e=some sz)(hq:j=(q:Int))(hi:q<n)
 (h:DrawK P nt ops (i+1) l ⟨T.set dd (.ptr b (o+q*sz)),H,nx,⟨i,⟨some dd,.indexAddr t x y,ty,pos,af,gd⟩,(aO T (aM ops.toList ⟨some dd,.indexAddr t x y,ty,pos,af,gd⟩)),stg,false,true,(.ptr b (o+q*sz))⟩ :: rs,Hs,stg⟩ K):DrawK P nt ops i (⟨some dd,.indexAddr t x y,ty,pos,af,gd⟩ :: l) ⟨T,H,nx,rs,Hs,stg⟩ K:=
 cW hw hd (fun _ h=>by cases h) (iz hx hy hu hs hq hi) h
end
section
variable {P:Program} {ro:Option Nat} {fn nt nx:Nat} {T:Tr SV} {k:List AIt} {dfs:List ADf} {H:ar} {Q:Pst} {ops:Array Oper} {i:Nat} {l:List Oper} {d:Option Tmp} {ty:TypeId} {pos:String} {af:Array Edge} {gd:Option (Nat×Bool)}
theorem St.loopLess{K:Zone}{w0 w:World}{e:Env}{n:Nat}{st:LoopState}{pend:Option Code}{f2 nt2:Nat}{T2 T3:Tr SV}{ps:Array Tmp}{as1 bd:Code}{dr:Nat}(hl:T3.le T2)
 (hS:St K w0 e (H.set n (.loop st pend f2 nt2 T2 ps as1 bd dr)) nx w):St K w0 e (H.set n (.loop st pend f2 nt2 T3 ps as1 bd dr)) nx w:=by
 have key: ∀ id vo,(H.set n (.loop st pend f2 nt2 T3 ps as1 bd dr)).at' id=some vo→ ∃ vo',(H.set n (.loop st pend f2 nt2 T2 ps as1 bd dr)).at' id=some vo'∧vo'.ro=vo.ro∧ ∀ x,Lies K w e vo' x→Lies K w e vo x:=by
  intro id vo hv
  rcases Tr.aT hv with ⟨rfl,rfl⟩|⟨hne,hv⟩
  ·refine⟨_,Tr.ab _ _ _,rfl,fun x hx=>?_⟩
   rcases hx with ⟨h0,o,h1,h2,tmps,y,h3,h4,h5⟩|⟨_,_,_,_,_,h,_⟩
   ·exact .inl ⟨h0,o,h1,h2,tmps,y,h3,h4.less hl,h5⟩
   ·cases h
  ·exact⟨vo,by rw [Tr.aa _ _ hne];exact hv,rfl,fun x hx=>hx⟩
 refine⟨hS.below,fun id vo hv=>?_,fun id id' vo vo' x x' h1 h2 h3 h4 h5 h6 h7 h8 h9=>?_,hS.fresh⟩
 ·obtain⟨vo',g1,_,g3⟩:=key id vo hv
  obtain⟨x,hx,hl⟩:=hS.rel id vo' g1
  exact⟨x,hx,g3 x hl⟩
 ·obtain⟨u,g1,g2,_⟩:=key id vo h1
  obtain⟨u',g1',g2',_⟩:=key id' vo' h2
  exact hS.inj _ _ _ _ _ _ g1 g1' h3 h4 h5 h6 h7 (by rw [g2];exact h8) (by rw [g2'];exact h9)
theorem Fnc.weak{f:FuncId}{args:List SV}{H H':ar}{nx:Nat}{Q:Pst}(hs: ∀ K w0 e w,St K w0 e H nx w→St K w0 e H' nx w)(h:Fnc P f args H' nx Q):Fnc P f args H nx Q:=by
 unfold Fnc eM at h ⊢
 rcases h with ⟨h0,v,r,h1,h2,h3⟩|h
 ·exact .inl ⟨h0,v,r,h1,h2,fun K w0 e w hS=>h3 K w0 e w (hs _ _ _ _ hS)⟩
 ·refine .inr ?_
  split at h
  ·rename_i c hb
   exact⟨fun K w0 e w tmps todo ds kd rof cs a b c d f=>h.run K w0 e w tmps todo ds kd rof cs (hs _ _ _ _ a) b c d f⟩
  ·exact h.elim
theorem j6{fo:Operand}{ps:Array Tmp}{as1 bd:Code}{g:FuncId}{a b:List SV}{sf:SV}(sl:List (Nat×SV))(hf:aj T fo=some sf)(ht:bY sf=some (g,a,b))(hg:bu P g=true)(hsl: ∀ n x,(slT sl).at' n=some x→T.at' n=some x)
 (h: ∀ as' bd',as'=as1→bd'=bd→Fnc P g (a ++ [.yld (nx+1)] ++ b) ((H.set nx (.dfd (some []))).set (nx+1) (.loop .ready none fn nt (slT sl) ps as' bd' nx)) (nx+1+1) (fun r=>Wp P none ⟨fn,nt,T,.endRange (nx+1) :: k,.taken nx :: dfs,r.2.1,r.2.2⟩ Q)) :
 Wp P none ⟨fn,nt,T,.code (.rangeFunc fo ps as1 bd) :: k,dfs,H,nx⟩ Q:=
 .step ⟨nx,H.set nx (.dfd (some [])),nx+1,[.taken nx],sf,g,a,b,rfl,hf,ht,hg,Fnc.weak (fun K w0 e w hS=>hS.loopLess hsl) (h _ _ rfl rfl)⟩
theorem pj{a b:Code}(h:a=b)(hw:Wp P ro ⟨fn,nt,T,.code b :: k,dfs,H,nx⟩ Q):Wp P ro ⟨fn,nt,T,.code a :: k,dfs,H,nx⟩ Q:=h ▸ hw
theorem gY{n:Nat}{st:LoopState}{pend:Option Code}{f2 nt2:Nat}{T2:Tr SV}{ps:Array Tmp}{as1 bd:Code}{dr:Nat}(hl:H.at' n=some (.loop st pend f2 nt2 T2 ps as1 bd dr))(hs:st ≠ .busy)
 (h:Wp P ro ⟨fn,nt,T,fR pend k,dfs,H.set n (.loop .exhausted pend f2 nt2 T2 ps as1 bd dr),nx⟩ Q):Wp P ro ⟨fn,nt,T,.endRange n :: k,dfs,H,nx⟩ Q:=by
 refine .step ?_
 simp only [jg,hl]
 exact⟨hs,h⟩
theorem pN{n:Nat}{pend:Option Code}{f2 nt2:Nat}{T2:Tr SV}{ps:Array Tmp}{as1 bd:Code}{dr:Nat}(hl:H.at' n=some (.loop .ready pend f2 nt2 T2 ps as1 bd dr))
 (h:Wp P (some n) ⟨fn,nt,T,k,dfs,H.set n (.loop .busy pend f2 nt2 T2 ps as1 bd dr),nx⟩ Q):Wp P (some n) ⟨fn,nt,T,.beginRound :: k,dfs,H,nx⟩ Q:=by
 refine .step ?_
 simp only [jg,hl]
 exact⟨trivial,h⟩
theorem lF{n:Nat}{st:LoopState}{pend:Option Code}{f2 nt2:Nat}{T2:Tr SV}{ps:Array Tmp}{as1 bd:Code}{dr:Nat}(hl:H.at' n=some (.loop st pend f2 nt2 T2 ps as1 bd dr))
 (h:Q (.sc (.bool true),H.set n (.loop .ready none f2 nt2 T2 ps as1 bd dr),nx)):Wp P (some n) ⟨fn,nt,T,[],dfs,H,nx⟩ Q:=by
 refine .step ?_
 simp only [jg,fK,k8,hl]
 exact h
theorem lE{n:Nat}{st:LoopState}{pend:Option Code}{f2 nt2:Nat}{T2:Tr SV}{ps:Array Tmp}{as1 bd:Code}{dr:Nat}(hl:H.at' n=some (.loop st pend f2 nt2 T2 ps as1 bd dr))
 (h:Q (.sc (.bool false),H.set n (.loop .done (some .ret) f2 nt2 T2 ps as1 bd dr),nx)):Wp P (some n) ⟨fn,nt,T,.code .ret :: k,dfs,H,nx⟩ Q:=by
 refine .step ?_
 simp only [jg,l8,fK,k8,hl]
 exact h
theorem pR{x:Operand}{as1:List Operand}{ats:Array TypeId}{args:List SV}{n dd:Nat}{st:LoopState}{pend:Option Code}{f2 nt2:Nat}{T2:Tr SV}{ps:Array Tmp}{as2 bd:Code}{dr:Nat}
 (hw:ak T ops ⟨some dd,.call {callee:= .value x,args:=as1.toArray,argTypes:=ats},ty,pos,af,gd⟩=some true) (hd:Nat.blt dd nt=true) (hx:aj T x=some (.yld n)) (ha:cD T as1=some args) (hl:H.at' n=some (.loop st pend f2 nt2 T2 ps as2 bd dr)) (hp:Nat.beq ps.size args.length=true)
 (h:Wp P (some n) ⟨f2,nt2,(ps.toList.zip args).foldl (fun T x=>eg nt2 T (some x.1) x.2) T2,[.code as2,.beginRound,.code bd],[],H,nx⟩ (fun r=>Wp P ro ⟨fn,nt,T.set dd r.1,.inReg ops (i+1) l :: k,dfs,r.2.1,r.2.2⟩ Q)) :
 Wp P ro ⟨fn,nt,T,.inReg ops i (⟨some dd,.call {callee:= .value x,args:=as1.toArray,argTypes:=ats},ty,pos,af,gd⟩ :: l) :: k,dfs,H,nx⟩ Q:=by
 refine .step (.inr ⟨hw,.inr (fun c hc=>by cases hc),OpDoes.any (out:=(.round n args,H,nx)) ?_ ?_⟩)
 ·intro K w0 e w ev hS hE
  refine e9 hS hE ?_
  unfold dN
  simp only [bh,ha,hx,tu]
 ·simp only [outS,g8,hl,ap hd]
  exact⟨hp,h⟩
def SameO(ρ:Nat→Nat):List (Option VO)→List (Option VO)→Prop
 | [],[]=>True
 | none :: l,none :: m=>SameO ρ l m
 | some vo :: l,some vo' :: m=>vo.ren ρ=vo'∧SameO ρ l m
 | _,_=>False
theorem SameO.map{ρ:Nat→Nat}: ∀ {l m:List (Option VO)},SameO ρ l m→l.map (Option.map (VO.ren ρ))=m
 | [],[],_=>rfl
 | none :: l,none :: m,h=>by simp only [tj,Option.map_none,SameO.map (l:=l) (m:=m) h]
 | some vo :: l,some vo' :: m,h=>by simp only [tj,tu,h.1,SameO.map h.2]
 | [],_ :: _,h=>by simp [SameO] at h
 | none :: _,some _ :: _,h=>by simp [SameO] at h
 | some _ :: _,none :: _,h=>by simp [SameO] at h
 | none :: _,[],h=>by simp [SameO] at h
 | some _ :: _,[],h=>by simp [SameO] at h
theorem Ctr.at{f:FuncId}{args:List SV}{pre:List VO}{Q:Cz→Prop}(n:Nat)(hn:pre.length=n)(h:Fnc P f args (nr pre) n (fun r=> ∃ c,Q c∧Ends n c r)):Ctr P f args pre Q:=by
 subst hn
 exact h
theorem db{α:Type}{b:Code}(sl:α→List (Nat×SV))(I:α→ar→Nat→Prop)(μ:α→Nat)(a0:α)(h0:I a0 H nx)(hs: ∀ n x,(slT (sl a0)).at' n=some x→T.at' n=some x)
 (body: ∀ a H nx,I a H nx→(∀ T' H' nx' a',I a' H' nx'→μ a'<μ a→(∀ n x,(slT (sl a')).at' n=some x→T'.at' n=some x)→Wp P ro ⟨fn,nt,T',.inLoop b :: k,dfs,H',nx'⟩ Q) →
   Wp P ro ⟨fn,nt,slT (sl a),.code b :: .inLoop b :: k,dfs,H,nx⟩ Q):Wp P ro ⟨fn,nt,T,.code (.loop b) :: k,dfs,H,nx⟩ Q:=by
 have main: ∀ m a H nx,μ a=m→I a H nx→Wp P ro ⟨fn,nt,slT (sl a),.code b :: .inLoop b :: k,dfs,H,nx⟩ Q:=by
  intro m
  induction m using Nat.strongRecOn with
  | _ m ih=>
    intro a H nx hm ha
    refine body a H nx ha fun T' H' nx' a' ha' hlt hs'=>pO ?_
    exact Wp.less (ih (μ a') (by omega) a' H' nx' rfl ha') hs' (Tr.le_refl _)
 exact kD (Wp.less (main _ a0 H nx rfl h0) hs (Tr.le_refl _))
def SlIn(T:Tr SV):List (Nat×SV)→Prop
 | []=>True
 | (t,s) :: l=>T.at' t=some s∧SlIn T l
theorem SlIn.sub{T:Tr SV}: ∀ {l:List (Nat×SV)},SlIn T l→ ∀ n x,(slT l).at' n=some x→T.at' n=some x
 | [],_,n,x,h=>by rw [slT,Tr.gR] at h;cases h
 | (t0,s0) :: l,hh,n,x,h=>by
   rcases Tr.aT h with ⟨rfl,rfl⟩|⟨_,h⟩
   ·exact hh.1
   ·exact SlIn.sub hh.2 n x h
theorem nj{rs:List Nat}(hr: ∀ r∈rs,H.at' r=some (.dfd (some [])))(hnd:rs.Nodup)(h: ∀ H',(∀ n,n∉rs→H'.at' n=H.at' n)→Lv P ⟨fn,nt,T,k,dfs,H',nx⟩ Q):Lv P ⟨fn,nt,T,k,rs.map .taken ++ dfs,H,nx⟩ Q:=by
 induction rs generalizing H with
 | nil=>exact h H fun _ _=>rfl
 | cons r rs ih=>
   refine oL (hr r (by simp)) ?_
   rw [List.nil_append]
   rw [List.nodup_cons] at hnd
   refine ih (fun r' hr'=>?_) hnd.2 fun H' hH'=>h H' fun n hn=>?_
   ·rw [Tr.aa _ _ (by intro e;subst e;exact hnd.1 hr')]
    exact hr r' (List.mem_cons_of_mem _ hr')
   ·rw [List.mem_cons,not_or] at hn
    rw [hH' n hn.2,Tr.aa _ _ hn.1]
theorem pg{rl:List ResultVar}{F:Func}(hf:P.funcs[fn]? =some F)(hl:F.results.toList=rl){rs:List Nat}(hdf:dfs=rs.map .taken)(hr: ∀ r∈rs,H.at' r=some (.dfd (some [])))(hnd:rs.Nodup)
 (h: ∀ H',(∀ n,n∉rs→H'.at' n=H.at' n)→ ∃ vs,ResIs P H' T rl vs∧Q (dc vs,H',nx)):Wp P none ⟨fn,nt,T,.code .ret :: k,dfs,H,nx⟩ Q:=by
 subst hdf
 refine ph ?_
 have:=nj (P:=P) (fn:=fn) (nt:=nt) (nx:=nx) (T:=T) (k:= .code .ret :: k) (dfs:= []) (Q:=Q) hr hnd fun H' hH'=>by
  obtain⟨vs,h1,h2⟩:=h H' hH'
  exact pt (by simp only [ch,hf,hl]) h1.res h2
 simpa using this
end
section
variable {P:Program} {ro:Option Nat} {fn nt nx:Nat} {T:Tr SV} {k:List AIt} {dfs:List ADf} {H:ar} {Q:Pst} {ops:Array Oper} {i:Nat} {l:List Oper} {ty:TypeId} {pos:String} {af:Array Edge} {gd:Option (Nat×Bool)}
theorem j7{x:Operand}{t:TypeId}{v:SV}{d0:TypeDesc}{dd:Nat}(hw:ak T ops ⟨some dd,.makeInterface t x,ty,pos,af,gd⟩=some true)(hd:Nat.blt dd nt=true)(hx:aj T x=some v)(hu:P.underlying t=some d0)(hn:(match d0 with | .interface _=>false|_=>true)=true)
 (h:Wp P ro ⟨fn,nt,T.set dd (lc t v),.inReg ops (i+1) l :: k,dfs,H,nx⟩ Q):Wp P ro ⟨fn,nt,T,.inReg ops i (⟨some dd,.makeInterface t x,ty,pos,af,gd⟩ :: l) :: k,dfs,H,nx⟩ Q:=
 be hw (.inr (fun _ h=>by cases h)) (fO hx (by unfold jC;rw [hu];cases d0 <;> first|rfl|simp at hn)).does (by rw [ap hd];exact h)
end
abbrev Own:=ar→(Nat→Prop)→Prop
def lC(A:Own):Prop:= ∀ H H' F,A H F→(∀ n,F n→H'.at' n=H.at' n)→A H' F
section
variable {K X:Type} (P:K→X→Own)
def Big:List (K×X)→Own
 | [],_,F=> ∀ n,¬ F n
 | x :: m,H,F=> ∃ F1 F2,P x.1 x.2 H F1∧Big m H F2∧(∀ n,F1 n→ ¬ F2 n)∧ ∀ n,F n↔F1 n∨F2 n
variable {P}
theorem Big.frame(hP: ∀ k x,lC (P k x)): ∀ m,lC (Big P m)
 | [],H,H',F,h,_=>h
 | x :: m,H,H',F,⟨F1,F2,h1,h2,h3,h4⟩,hf=>⟨F1,F2,hP _ _ H H' F1 h1 fun n hn=>hf n ((h4 n).2 (.inl hn)),Big.frame hP m H H' F2 h2 fun n hn=>hf n ((h4 n).2 (.inr hn)),h3,h4⟩
theorem Big.same{m:List (K×X)}{H:ar}{F F':Nat→Prop}(h:Big P m H F)(hF: ∀ n,F' n↔F n):Big P m H F':=by
 have:F'=F:=funext fun n=>propext (hF n)
 rw [this];exact h
theorem Big.focus{k:K}{x:X}{B:List (K×X)}{H:ar}: ∀ {A:List (K×X)} {F:Nat→Prop},Big P (A ++ (k,x) :: B) H F→ ∃ F1 F2,P k x H F1∧Big P (A ++ B) H F2∧(∀ n,F1 n→ ¬ F2 n)∧ ∀ n,F n↔F1 n∨F2 n
 | [],F,h=>h
 | y :: A,F,⟨G1,G2,h1,h2,h3,h4⟩=>by
   obtain⟨F1,F2,g1,g2,g3,g4⟩:=Big.focus (A:=A) h2
   refine⟨F1,fun n=>G1 n∨F2 n,g1,⟨G1,F2,h1,g2,fun n hn h=>h3 n hn ((g4 n).2 (.inr h)),fun n=>Iff.rfl⟩,fun n hn h=>?_,fun n=>?_⟩
   ·rcases h with h|h
    ·exact h3 n h ((g4 n).2 (.inl hn))
    ·exact g3 n hn h
   ·rw [h4,g4]
    constructor
    ·rintro(h|h|h)
     ·exact .inr (.inl h)
     ·exact .inl h
     ·exact .inr (.inr h)
    ·rintro(h|h|h)
     ·exact .inr (.inl h)
     ·exact .inl h
     ·exact .inr (.inr h)
theorem Big.iY{k:K}{x:X}{B:List (K×X)}{H:ar}{F1:Nat→Prop}(h:P k x H F1): ∀ {A:List (K×X)} {F2:Nat→Prop},Big P (A ++ B) H F2→(∀ n,F1 n→ ¬ F2 n)→Big P (A ++ (k,x) :: B) H (fun n=>F1 n∨F2 n)
 | [],F2,h2,h3=>⟨F1,F2,h,h2,h3,fun n=>Iff.rfl⟩
 | y :: A,F2,⟨G1,G2,g1,g2,g3,g4⟩,h3=>by
   refine⟨G1,fun n=>F1 n∨G2 n,g1,Big.iY (A:=A) h g2 (fun n hn h'=>h3 n hn ((g4 n).2 (.inr h'))),fun n hn h'=>?_,fun n=>?_⟩
   ·rcases h' with h'|h'
    ·exact h3 n h' ((g4 n).2 (.inl hn))
    ·exact g3 n hn h'
   ·show F1 n∨F2 n↔_
    rw [g4]
    constructor
    ·rintro(h|h|h)
     ·exact .inr (.inl h)
     ·exact .inl h
     ·exact .inr (.inr h)
    ·rintro(h|h|h)
     ·exact .inr (.inl h)
     ·exact .inl h
     ·exact .inr (.inr h)
theorem Big.nil{H:ar}:Big P [] H (fun _=>False):=fun _ h=>h
end
section
variable {K V:Type} [DecidableEq K]
abbrev kv(m:List (K×V×Nat)):List (K×V):=m.map fun x=>(x.1,x.2.1)
theorem l6{m:List (K×V×Nat)}{k:K}{v:V}(h:fP m k=some v): ∃ A B s,m=A ++ (k,v,s) :: B∧fP A k=none∧(∀ w c,kj m k w c=A ++ (k,w,s) :: B)∧j0 m k=A ++ B:=by
 induction m with
 | nil=>simp [fP] at h
 | cons y m ih=>
   by_cases hy:y.1=k
   ·simp [fP,hy] at h
    obtain⟨y1,y2,y3⟩:=y
    simp at hy h
    exact⟨[],m,y3,by simp [hy,h],rfl,fun w c=>by simp [kj,hy],by simp [j0,hy]⟩
   ·have h':fP m k=some v:=by simpa [fP,hy] using h
    obtain⟨A,B,s,h1,h2,h3,h4⟩:=ih h'
    exact⟨y :: A,B,s,by rw [h1];rfl,by simpa [fP,hy] using h2,fun w c=>by simp [kj,hy,h3],by simp [j0,hy,h4]⟩
end
section
variable {P:Program} {T:Tr SV} {H:ar} {nx:Nat} {d:Option Tmp} {ty:TypeId} {pos:String} {af:Array Edge} {gd:Option (Nat×Bool)}
theorem ow{t yt:TypeId}{x y:Operand}{a b:ByteArray}(hx:aj T x=some (.sc (.string a)))(hy:aj T y=some (.sc (.string b))):ReadDoes P T H ⟨d,.binOp .eql t x y yt,ty,pos,af,gd⟩ (.sc (.bool (a == b))):=by
 refine cu fun ev w he=>?_
 have e1:=he x _ hx _ rfl
 have e2:=he y _ hy _ rfl
 rw [beq_toListBytes]
 simp [execOp,e1,e2,eqGuard,binOp,Op.stringOp]
theorem mO{t yt:TypeId}{x y:Operand}{a b:ByteArray}{r:Bool}(hx:aj T x=some (.sc (.string a)))(hy:aj T y=some (.sc (.string b)))(hr:(a == b)=r):ReadDoes P T H ⟨d,.binOp .eql t x y yt,ty,pos,af,gd⟩ (.sc (.bool r)):=hr ▸ ow hx hy
end
section
variable {P:Program} {ro:Option Nat} {fn nt nx:Nat} {T:Tr SV} {k:List AIt} {dfs:List ADf} {H:ar} {Q:Pst} {ops:Array Oper} {i:Nat} {l:List Oper} {d:Option Tmp} {ty:TypeId} {pos:String} {af:Array Edge} {gd:Option (Nat×Bool)}
theorem nW{t yt:TypeId}{x y:Operand}{a b:ByteArray}{r:Bool}{dd:Nat}(hw:ak T ops ⟨some dd,.binOp .eql t x y yt,ty,pos,af,gd⟩=some true)(hd:Nat.blt dd nt=true)(hx:aj T x=some (.sc (.string a)))(hy:aj T y=some (.sc (.string b)))(hr:(a == b)=r)
 (h:Wp P ro ⟨fn,nt,T.set dd (.sc (.bool r)),.inReg ops (i+1) l :: k,dfs,H,nx⟩ Q):Wp P ro ⟨fn,nt,T,.inReg ops i (⟨some dd,.binOp .eql t x y yt,ty,pos,af,gd⟩ :: l) :: k,dfs,H,nx⟩ Q:=
 be hw (.inr (fun _ h=>by cases h)) ((mO hx hy hr).does) (by rw [ap hd];exact h)
end
section
variable {P:Program}
theorem ki{T:Tr SV}{H:ar}{nx:Nat}{d:Option Tmp}{ty:TypeId}{pos:String}{af:Array Edge}{gd:Option (Nat×Bool)}{t tx el:TypeId}{sz m r eo n ne:Nat}{rt:TypeId}{s x:Operand}{v:SV}{us vs ws:List Value}(hu:P.underlying t=some (.slice el))(hk:(∃ e',P.underlying tx=some (.slice e'))∨P.underlying tx=some .string)(hs:aR P el=some sz)
 (hx0:aj T s=some (.slu r eo n)) (hx:aj T x=some v) (hro:H.at' r=some (dat false ne sz rt us)) (hr:RdV P H sz v m vs) (h1:lR vs) (hm:eo+n+m≤ne) (h0:0<ne) (hvl:vs.length=m*sz) (hul:us.length=ne*sz) (hws:us.take ((eo+n)*sz) ++ vs ++ us.drop ((eo+n)*sz+m*sz)=ws) :
 OpDoes P T H nx ⟨d,.call {callee:= .builtin .append,args:= #[s,x],argTypes:= #[t,tx]},ty,pos,af,gd⟩ (.val (.slu r eo (n+m)),H.set r (dat false ne sz rt ws),nx):=by
 intro K w0 e w ev hS hE
 have e1:=hE s _ hx0
 have e2:=hE x _ hx
 simp only [SV.conc,s7] at e1
 obtain⟨z,hz,e1⟩:=e1
 obtain⟨z2,hz2,hlz⟩:=hS.rel _ _ hro
 rw [hz] at hz2
 cases hz2
 obtain⟨g1,g2,g3,g4⟩:=Lies.row hlz
 have hnil:=g3 h0
 have hcx:(SV.sl r (eo*sz) n (z.cap-eo)).conc e=some (ev s):=by
  rw [← e1,Ent.b9 hnil,g1]
  simp [SV.conc,hz]
 have hle:(eo+n)*sz+m*sz≤ne*sz:=by rw [← Nat.add_mul];exact Nat.mul_le_mul_right _ hm
 have hap:dA P H nx el (.sl r (eo*sz) n (z.cap-eo)) v=some (.val (.sl r (eo*sz) (n+m) (z.cap-eo)),H.set r (dat false ne sz rt ws),nx):=by
  unfold dA
  rw [hs]
  cases sz with
  | zero=>omega
  | succ sz=>
    simp only
    rw [show aA H (sz+1) v=some (m,vs.map .sc)from hr]
    simp only [fi h1,Bool.not_true,cond_false]
    rw [show Nat.ble (n+m) (z.cap-eo)=true from s5 (by omega),hro]
    simp only [cond_true]
    rw [← Nat.add_mul,dH vs us ((eo+n)*(sz+1)) (by omega) (by omega) h1,hvl,hws]
 obtain⟨e',w',r',v',f1,f2,f3,f4,f5⟩:=ig (ty:=ty) hu hk hS hap hcx e2
 cases f1
 have hz':=f2 _ _ hz
 have f4':(SV.slu r eo (n+m)).conc e'=some v':=by
  rw [← f4]
  simp only [SV.conc,hz',tu,Ent.b9 hnil,g1]
 refine⟨e',w',f2,f3,v',f4',?_⟩
 simp only [execOp,resolve,invoke,builtin,List.map_toArray,tj,List.map_nil,Sem.run_bind,Sem.run_pure,Result.andThen,f5]
theorem lI{ro:Option Nat}{fn nt nx:Nat}{T:Tr SV}{k:List AIt}{dfs:List ADf}{H:ar}{Q:Pst}{ops:Array Oper}{i:Nat}{l:List Oper}{ty:TypeId}{pos:String}{af:Array Edge}{gd:Option (Nat×Bool)}{t tx el:TypeId}{sz m r eo n ne:Nat}{rt:TypeId}{s x:Operand}{v:SV}{us vs ws:List Value}{dd:Nat}(hw:ak T ops ⟨some dd,.call {callee:= .builtin .append,args:= #[s,x],argTypes:= #[t,tx]},ty,pos,af,gd⟩=some true)(hd:Nat.blt dd nt=true)(hx0:aj T s=some (.slu r eo n))(hx:aj T x=some v)(hu:P.underlying t=some (.slice el))(hk:(∃ e',P.underlying tx=some (.slice e'))∨P.underlying tx=some .string)(hs:aR P el=some sz)
 (hro:H.at' r=some (dat false ne sz rt us)) (hr:RdV P H sz v m vs) (h1:lR vs) (hm:eo+n+m≤ne) (h0:0<ne) (hvl:vs.length=m*sz) (hul:us.length=ne*sz) (hws:us.take ((eo+n)*sz) ++ vs ++ us.drop ((eo+n)*sz+m*sz)=ws)
 (h:Wp P ro ⟨fn,nt,T.set dd (.slu r eo (n+m)),.inReg ops (i+1) l :: k,dfs,H.set r (dat false ne sz rt ws),nx⟩ Q):Wp P ro ⟨fn,nt,T,.inReg ops i (⟨some dd,.call {callee:= .builtin .append,args:= #[s,x],argTypes:= #[t,tx]},ty,pos,af,gd⟩ :: l) :: k,dfs,H,nx⟩ Q:=
 be hw (.inr (fun _ h=>by cases h)) (ki hu hk hs hx0 hx hro hr h1 hm h0 hvl hul hws) (by rw [ap hd];exact h)
theorem bv{ro:Option Nat}{fn nt nx:Nat}{T:Tr SV}{k:List AIt}{dfs:List ADf}{H:ar}{Q:Pst}(h:(∀ b vo,H.at' b=some vo→b<nx)→Wp P ro ⟨fn,nt,T,k,dfs,H,nx⟩ Q):Wp P ro ⟨fn,nt,T,k,dfs,H,nx⟩ Q:=by
 refine⟨fun K w0 e w tmps todo ds kd rof cs hS hTr htd hds hc2=>(h fun b vo hb=>?_).run K w0 e w tmps todo ds kd rof cs hS hTr htd hds hc2⟩
 obtain⟨x,hx,_⟩:=hS.rel _ _ hb
 rcases Nat.lt_or_ge b nx with hlt|hge
 ·exact hlt
 ·have h2:=hS.fresh _ hge
  rw [h2] at hx;cases hx
theorem lQ{T:Tr SV}{H:ar}{nx:Nat}{d:Option Tmp}{ty:TypeId}{pos:String}{af:Array Edge}{gd:Option (Nat×Bool)}{t tx el rt:TypeId}{sz r eo n ne sz':Nat}{rr:Bool}{c:Tr SV}{s x:Operand}{v:SV}{vs:List Value}(hu:P.underlying t=some (.slice el))(hk:(∃ e',P.underlying tx=some (.slice e'))∨P.underlying tx=some .string)(hs:aR P el=some sz)(h0:0<sz)
 (hx0:aj T s=some (.slu r eo n)) (hx:aj T x=some v) (hro:H.at' r=some (.row rr ne sz' rt c)) (hn:eo+n≤ne) (hr:RdV P H sz v 0 vs) (h1:lR vs) :
 OpDoes P T H nx ⟨d,.call {callee:= .builtin .append,args:= #[s,x],argTypes:= #[t,tx]},ty,pos,af,gd⟩ (.val (.slu r eo n),H,nx):=by
 have hap:dA P H nx el (.slu r eo n) v=some (.val (.slu r eo n),H,nx):=by
  unfold dA
  rw [hs]
  cases sz with
  | zero=>omega
  | succ sz=>
    simp only
    rw [show aA H (sz+1) v=some (0,vs.map .sc)from hr]
    simp only [fi h1,Bool.not_true,cond_false]
    rw [hro]
    simp only [Nat.beq_refl,cond_true,show Nat.ble (eo+n) ne=true from s5 hn]
 refine iQ ?_
 rcases hk with ⟨e',hk⟩|hk <;> simp only [dN,cD,hx0,hx,tv,dz,ga,hu,hk,hap]
theorem mq{ro:Option Nat}{fn nt nx:Nat}{T:Tr SV}{k:List AIt}{dfs:List ADf}{H:ar}{Q:Pst}{ops:Array Oper}{i:Nat}{l:List Oper}{ty:TypeId}{pos:String}{af:Array Edge}{gd:Option (Nat×Bool)}{t tx el rt:TypeId}{sz r eo n ne sz':Nat}{rr:Bool}{c:Tr SV}{s x:Operand}{v:SV}{vs:List Value}{dd:Nat}(hw:ak T ops ⟨some dd,.call {callee:= .builtin .append,args:= #[s,x],argTypes:= #[t,tx]},ty,pos,af,gd⟩=some true)(hd:Nat.blt dd nt=true)(hx0:aj T s=some (.slu r eo n))(hx:aj T x=some v)(hu:P.underlying t=some (.slice el))(hk:(∃ e',P.underlying tx=some (.slice e'))∨P.underlying tx=some .string)(hs:aR P el=some sz)(h0:Nat.blt 0 sz=true)(hro:H.at' r=some (.row rr ne sz' rt c))(hn:eo+n≤ne)(hr:RdV P H sz v 0 vs)(h1:lR vs)
 (h:Wp P ro ⟨fn,nt,T.set dd (.slu r eo n),.inReg ops (i+1) l :: k,dfs,H,nx⟩ Q):Wp P ro ⟨fn,nt,T,.inReg ops i (⟨some dd,.call {callee:= .builtin .append,args:= #[s,x],argTypes:= #[t,tx]},ty,pos,af,gd⟩ :: l) :: k,dfs,H,nx⟩ Q:=
 be hw (.inr (fun _ h=>by cases h)) (lQ hu hk hs (bl h0) hx0 hx hro hn hr h1) (by rw [ap hd];exact h)
end
section
variable {P:Program}
theorem f9{e e1 e2:Env}(h1:e.le e1)(h2:e.le e2){s:SV}{v0 v:Value}(h:s.conc e=some v0)(h':s.conc e1=some v):s.conc e2=some v:=by
 have:=SV.bi h1 s v0 h
 rw [h'] at this
 cases this
 exact SV.bi h2 s _ h
theorem nI{e e1 e2:Env}(h1:e.le e1)(h2:e.le e2){s:List SV}{v0 v:List Value}(h:SV.aq e s=some v0)(h':SV.aq e1 s=some v):SV.aq e2 s=some v:=by
 have:=SV.aU h1 s v0 h
 rw [h'] at this
 cases this
 exact SV.aU h2 s _ h
theorem lz{e e1 e2:Env}(h1:e.le e1)(h2:e.le e2): ∀ {l:List (Value×SV×Nat)} {m0 m:List MapEntry},MRel e l m0→MRel e1 l m→MRel e2 l m
 | [],[],[],_,_=>trivial
 | (_,_,_) :: _,_ :: _,_ :: _,hd0,hd=>⟨hd.1,hd.2.1,f9 h1 h2 hd0.2.2.1 hd.2.2.1,lz h1 h2 hd0.2.2.2 hd.2.2.2⟩
 | [],_ :: _,_,hd,_=>hd.elim
 | [],_,_ :: _,_,hd=>hd.elim
 | _ :: _,[],_,hd,_=>by simp [MRel] at hd
 | _ :: _,_,[],_,hd=>by simp [MRel] at hd
theorem pd{e e1 e2:Env}(h1:e.le e1)(h2:e.le e2){a:ADf}{d0 d:Deferred}(hd0:DRel e a d0)(hd:DRel e1 a d):DRel e2 a d:=by
 cases a with
 | call f args=>
   obtain⟨x0,cap0,_,hl0⟩:=hd0
   obtain⟨x,cap,rfl,hl⟩:=hd
   exact⟨x,cap,rfl,nI h1 h2 hl0 hl⟩
 | taken r=>
   obtain⟨x0,hx0,_⟩:=hd0
   obtain⟨x,hx,rfl⟩:=hd
   have:=h1 _ _ hx0
   rw [hx] at this
   cases this
   exact⟨_,h2 _ _ hx0,rfl⟩
theorem jX{e e1 e2:Env}(h1:e.le e1)(h2:e.le e2): ∀ {l:List ADf} {m0 m:List Deferred},DsRel e l m0→DsRel e1 l m→DsRel e2 l m
 | [],[],[],_,_=>trivial
 | _ :: _,_ :: _,_ :: _,hd0,hd=>⟨pd h1 h2 hd0.1 hd.1,jX h1 h2 hd0.2 hd.2⟩
 | [],_ :: _,_,hd,_=>hd.elim
 | [],_,_ :: _,_,hd=>hd.elim
 | _ :: _,[],_,hd,_=>hd.elim
 | _ :: _,_,[],_,hd=>hd.elim
theorem o5{e e1 e2:Env}(h1:e.le e1)(h2:e.le e2){nt:Nat}{T:Tr SV}{t0 t:Array Value}(hd0:TRel e nt T t0)(hd:TRel e1 nt T t):TRel e2 nt T t:=by
 refine⟨hd.1,fun i s hs=>?_⟩
 obtain⟨v0,a1,_⟩:=hd0.2 i s hs
 obtain⟨v,b1,b2⟩:=hd.2 i s hs
 exact⟨v,f9 h1 h2 a1 b1,b2⟩
theorem o7{e e1 e2:Env}(h1:e.le e1)(h2:e.le e2){vo:VO}{x:Ent}{o0 o:Obj}(h0:ORel e vo x o0)(ho:ORel e1 vo x o):ORel e2 vo x o:=by
 cases vo with
 | cells n t c=>
   obtain⟨_,cs0,fz0,_,_,_,g4⟩:=h0
   obtain⟨q0,cs,fz,q1,q2,q3,q4⟩:=ho
   refine⟨q0,cs,fz,q1,q2,q3,fun i hi s hs=>?_⟩
   obtain⟨v0,a1,_⟩:=g4 i hi s hs
   obtain⟨v,b1,b2⟩:=q4 i hi s hs
   exact⟨v,f9 h1 h2 a1 b1,b2⟩
 | row ro ne sz t c=>
   obtain⟨_,cs0,fz0,t0,_,_,_,_,_,_,g7⟩:=h0
   obtain⟨q0,cs,fz,tt,q1,q2,q3,q4,q5,q6,q7⟩:=ho
   refine⟨q0,cs,fz,tt,q1,q2,q3,q4,q5,q6,fun i hi s hs=>?_⟩
   obtain⟨v0,a1,_⟩:=g7 i hi s hs
   obtain⟨v,b1,b2⟩:=q7 i hi s hs
   exact⟨v,f9 h1 h2 a1 b1,b2⟩
 | map l clock=>
   obtain⟨es0,_,g2⟩:=h0
   obtain⟨es,q1,q2⟩:=ho
   exact⟨es,q1,lz h1 h2 g2 q2⟩
 | iter m since seen stepped=>
   cases m with
   | none=>exact ho
   | some m=>
     obtain⟨_,y0,g1,_⟩:=h0
     obtain⟨q0,y,q1,q2⟩:=ho
     have:=h1 _ _ g1
     rw [q1] at this
     cases this
     exact⟨q0,_,h2 _ _ g1,q2⟩
 | siter s pos=>exact ho
 | loop st pend fn nt T params assign body dr=>
   obtain⟨tm0,y0,g1,g2,_⟩:=h0
   obtain⟨tm,y,q1,q2,q3⟩:=ho
   have:=h1 _ _ g1
   rw [q1] at this
   cases this
   exact⟨tm,_,h2 _ _ g1,o5 h1 h2 g2 q2,q3⟩
 | dfd l=>
   cases l with
   | none=>exact ho
   | some l=>
     obtain⟨ds0,_,g2⟩:=h0
     obtain⟨ds,q1,q2⟩:=ho
     exact⟨ds,q1,jX h1 h2 g2 q2⟩
theorem lB{K:Zone}{w0 w:World}{e e1 e2:Env}(h1:e.le e1)(h2:e.le e2){vo:VO}{x:Ent}(h0:Lies K w0 e vo x)(ho:Lies K w e1 vo x):Lies K w e2 vo x:=by
 rcases ho with ⟨a0,o,a1,a2,a3⟩|a
 ·rcases h0 with ⟨_,o0,_,_,b3⟩|⟨b,_⟩
  ·exact .inl ⟨a0,o,a1,a2,o7 h1 h2 b3 a3⟩
  ·rw [a0] at b;cases b
 ·exact .inr a
theorem o9{K:Zone}{w:World}{e e':Env}{rr:Bool}{ne sz:Nat}{t:TypeId}{vs:List Value}{x:Ent}(h:Lies K w e (dat rr ne sz t vs) x):Lies K w e' (dat rr ne sz t vs) x:=by
 rcases h with ⟨a0,o,a1,a2,a3⟩|a
 ·obtain⟨q0,cs,fz,tt,q1,q2,q3,q4,q5,q6,q7⟩:=a3
  refine .inl ⟨a0,o,a1,a2,q0,cs,fz,tt,q1,q2,q3,q4,q5,q6,fun i hi s hs=>?_⟩
  obtain⟨v,b1,b2⟩:=q7 i hi s hs
  refine⟨v,?_,b2⟩
  simp only [Tr.at',s7] at hs
  obtain⟨u,_,rfl⟩:=hs
  exact b1
 ·exact .inr a
theorem St.next{K:Zone}{w0 w w1:World}{e e1:Env}{H H1:ar}{nx nx1 r:Nat}{rr:Bool}{ne sz:Nat}{t:TypeId}{vs:List Value}(hS:St K w0 e H nx w)(hle:e.le e1)(hS1:St K w0 e1 H1 nx1 w1)(hr:H1.at' r=some (dat rr ne sz t vs))(h1:nx≤r)(hk: ∀ m,m<nx→H1.at' m=H.at' m) :
 ∃ e2,e.le e2∧St K w0 e2 (H.set nx (dat rr ne sz t vs)) (nx+1) w1∧e2 nx=e1 r:=by
 have hbelow: ∀ m x,e m=some x→m<nx:=fun m x hx=>by
  rcases Nat.lt_or_ge m nx with q|q
  ·exact q
  ·rw [hS.fresh m q] at hx;cases hx
 have hle2:e.le (fun m=>if m<nx then e1 m else if m=nx then e1 r else none):=fun m x hx=>by
  have:=hbelow m x hx
  simp only [if_pos this]
  exact hle m x hx
 obtain⟨xr,hxr,hlr⟩:=hS1.rel r _ hr
 have hget: ∀ m vo,(H.set nx (dat rr ne sz t vs)).at' m=some vo→(m=nx∧vo=dat rr ne sz t vs)∨(m<nx∧H.at' m=some vo):=fun m vo h=>by
  rcases Tr.aT h with ⟨q1,q2⟩|⟨q1,q2⟩
  ·exact .inl ⟨q1,q2⟩
  ·obtain⟨x,hx,_⟩:=hS.rel m vo q2
   exact .inr ⟨hbelow m x hx,q2⟩
 refine⟨fun m=>if m<nx then e1 m else if m=nx then e1 r else none,hle2,⟨hS1.below,fun m vo h=>?_,fun m m' vo vo' x x' g g' gx gx' gne gn gn' gro gro'=>?_,fun i hi=>?_⟩,?_⟩
 ·rcases hget m vo h with ⟨rfl,rfl⟩|⟨q1,q2⟩
  ·refine⟨xr,?_,o9 hlr⟩
   simp [hxr]
  ·obtain⟨x0,hx0,hl0⟩:=hS.rel m vo q2
   obtain⟨x,hx,hl⟩:=hS1.rel m vo ((hk m q1).trans q2)
   have:=hle m x0 hx0
   rw [hx] at this
   cases this
   refine⟨_,?_,lB hle hle2 hl0 hl⟩
   simp only [if_pos q1]
   exact hx
 ·change (if m<nx then e1 m else if m=nx then e1 r else none)=some x at gx
  change (if m'<nx then e1 m' else if m'=nx then e1 r else none)=some x' at gx'
  rcases hget m vo g with ⟨rfl,rfl⟩|⟨q1,q2⟩
  ·rcases hget m' vo' g' with ⟨rfl,rfl⟩|⟨p1,p2⟩
   ·exact absurd rfl gne
   ·simp only [Nat.lt_irrefl,if_false,if_true] at gx
    simp only [if_pos p1] at gx'
    exact hS1.inj r m' _ vo' x x' hr ((hk m' p1).trans p2) gx gx' (by omega) gn gn' gro gro'
  ·rw [if_pos q1] at gx
   rcases hget m' vo' g' with ⟨rfl,rfl⟩|⟨p1,p2⟩
   ·rw [if_neg (Nat.lt_irrefl _),if_pos rfl] at gx'
    exact hS1.inj m r vo _ x x' ((hk m q1).trans q2) hr gx gx' (by omega) gn gn' gro gro'
   ·rw [if_pos p1] at gx'
    exact hS1.inj m m' vo vo' x x' ((hk m q1).trans q2) ((hk m' p1).trans p2) gx gx' gne gn gn' gro gro'
 ·show(if i<nx then e1 i else if i=nx then e1 r else none)=none
  rw [if_neg (by omega),if_neg (by omega)]
 ·simp
theorem Fnc.next{f:FuncId}{args:List SV}{H:ar}{nx m:Nat}{rr:Bool}{ne sz:Nat}{t:TypeId}{vs:List Value}(h:Fnc P f args H nx (fun q=> ∃ r',q.1 = .slu r' 0 m∧q.2.1.at' r'=some (dat rr ne sz t vs)∧nx≤r'∧r'<q.2.2∧nx≤q.2.2∧ ∀ n,n<nx→q.2.1.at' n=H.at' n)):Fnc P f args H nx (fun q=>q=(.slu nx 0 m,H.set nx (dat rr ne sz t vs),nx+1)):=by
 have hv: ∀ {e1 e2:Env} {r:Nat} {v:Value},e2 nx=e1 r→(SV.slu r 0 m).conc e1=some v→(SV.slu nx 0 m).conc e2=some v:=fun h1 h2=>by
  simpa [SV.conc,h1] using h2
 unfold Fnc eM at h ⊢
 rcases h with ⟨h1,v,r,h2,⟨r',q1,q2,q3,q4,q5,q6⟩,h4⟩|h
 ·refine .inl ⟨h1,v,_,h2,rfl,fun K w0 e w hS=>?_⟩
  obtain⟨e',g1,g2,g3⟩:=h4 K w0 e w hS
  obtain⟨e2,k1,k2,k3⟩:=hS.next g1 g2 q2 q3 q6
  rw [q1] at g3
  exact⟨e2,k1,k2,hv k3 g3⟩
 ·refine .inr ?_
  split at h
  ·refine⟨fun K w0 e w tmps todo ds kd rof cs hS a2 a3 a4 a5=>?_⟩
   obtain⟨r,⟨r',q1,q2,q3,q4,q5,q6⟩,e',w',v,g1,g2,g3,g4⟩:=Wp.run h K w0 e w tmps todo ds kd rof cs hS a2 a3 a4 a5
   obtain⟨e2,k1,k2,k3⟩:=hS.next g1 g2 q2 q3 q6
   rw [q1] at g3
   exact⟨_,rfl,e2,w',v,k1,k2,hv k3 g3,g4⟩
  ·exact h.elim
end
section
variable {P:Program} {T:Tr SV} {H:ar} {nx:Nat} {d:Option Tmp} {ty:TypeId} {pos:String} {af:Array Edge} {gd:Option (Nat×Bool)}
theorem qb{t el:TypeId}{x:Operand}{lo hi:Option Operand}{b o n C l h o':Nat}(hu:P.underlying t=some (.slice el))(hs:aR P el=some 1)(hx:aj T x=some (.sl b o n C))(hl:iZ T 0 lo l)(hh:iZ T n hi h)(h1:l≤h)(h2:h≤C)(ho:(if C=l then o else o+l)=o'):ReadDoes P T H ⟨d,.slice t x lo hi none,ty,pos,af,gd⟩ (.sl b o' (h-l) (C-l)):=by
 refine cK ?_
 unfold iZ at hl hh
 have hmx:natOr T C none=some C:=rfl
 simp only [bL,hx,tv,eT,hu,hs,hl,hh,hmx]
 rw [show Nat.ble l h=true from s5 h1,show Nat.ble h C=true from s5 h2,show Nat.ble C C=true from s5 (th _)]
 subst ho
 by_cases hc:C=l
 ·subst hc;simp
 ·have:Nat.beq C l=false:=by cases hq:Nat.beq C l with|false=>rfl|true=>exact absurd (Nat.eq_of_beq_eq_true hq) hc
  simp [this,hc]
theorem qd{t el:TypeId}{x:Operand}{lo hi mx:Operand}{b o n C l h m:Nat}(hu:P.underlying t=some (.slice el))(hs:aR P el=some 1)(hx:aj T x=some (.sl b o n C))(hl:iZ T 0 (some lo) l)(hh:iZ T n (some hi) h)(hm:iZ T C (some mx) m)(h1:l≤h)(h2:h≤m)(h3:m≤C):ReadDoes P T H ⟨d,.slice t x (some lo) (some hi) (some mx),ty,pos,af,gd⟩ (.sl b (bif Nat.beq m l then o else o+l*1) (h-l) (m-l)):=by
 refine cK ?_
 unfold iZ at hl hh hm
 simp only [bL,hx,tv,eT,hu,hs,hl,hh,hm]
 rw [show Nat.ble l h=true from s5 h1,show Nat.ble h m=true from s5 h2,show Nat.ble m C=true from s5 h3]
 simp
theorem mJ{t:TypeId}{e:TypeId}{x:Operand}{b o n C:Nat}(hu:P.underlying t=some (.slice e))(hx:aj T x=some (.sl b o n C)):ReadDoes P T H ⟨d,.call {callee:= .builtin .len,args:= #[x],argTypes:= #[t]},ty,pos,af,gd⟩ (.sc (.int .i64 n)):=by
 refine cK ?_
 simp only [bL,iL,hx,tv,pu,hu]
end
section
variable {P:Program} {ro:Option Nat} {fn nt nx:Nat} {T:Tr SV} {k:List AIt} {dfs:List ADf} {H:ar} {Q:Pst} {ops:Array Oper} {i:Nat} {l:List Oper} {d:Option Tmp} {ty:TypeId} {pos:String} {af:Array Edge} {gd:Option (Nat×Bool)}
theorem rN{t el:TypeId}{x:Operand}{lo hi:Option Operand}{b o n C lw hg o':Nat}{dd:Nat}(hw:ak T ops ⟨some dd,.slice t x lo hi none,ty,pos,af,gd⟩=some true)(hd:Nat.blt dd nt=true)(hx:aj T x=some (.sl b o n C))(hu:P.underlying t=some (.slice el))(hs:aR P el=some 1)(hl:iZ T 0 lo lw)(hh:iZ T n hi hg)(h1:lw≤hg)(h2:hg≤C)(ho:(if C=lw then o else o+lw)=o')
 (h:Wp P ro ⟨fn,nt,T.set dd (.sl b o' (hg-lw) (C-lw)),.inReg ops (i+1) l :: k,dfs,H,nx⟩ Q):Wp P ro ⟨fn,nt,T,.inReg ops i (⟨some dd,.slice t x lo hi none,ty,pos,af,gd⟩ :: l) :: k,dfs,H,nx⟩ Q:=
 be hw (.inr (fun _ h=>by cases h)) ((qb hu hs hx hl hh h1 h2 ho).does) (by rw [ap hd];exact h)
theorem rO{t el:TypeId}{x lo hi mx:Operand}{b o n C lw hg m:Nat}{dd:Nat}(hw:ak T ops ⟨some dd,.slice t x (some lo) (some hi) (some mx),ty,pos,af,gd⟩=some true)(hd:Nat.blt dd nt=true)(hx:aj T x=some (.sl b o n C))(hu:P.underlying t=some (.slice el))(hs:aR P el=some 1)(hl:iZ T 0 (some lo) lw)(hh:iZ T n (some hi) hg)(hm:iZ T C (some mx) m)(h1:lw≤hg)(h2:hg≤m)(h3:m≤C)
 (h:Wp P ro ⟨fn,nt,T.set dd (.sl b (bif Nat.beq m lw then o else o+lw*1) (hg-lw) (m-lw)),.inReg ops (i+1) l :: k,dfs,H,nx⟩ Q):Wp P ro ⟨fn,nt,T,.inReg ops i (⟨some dd,.slice t x (some lo) (some hi) (some mx),ty,pos,af,gd⟩ :: l) :: k,dfs,H,nx⟩ Q:=
 be hw (.inr (fun _ h=>by cases h)) ((qd hu hs hx hl hh hm h1 h2 h3).does) (by rw [ap hd];exact h)
theorem rJ{t e:TypeId}{x:Operand}{b o n C:Nat}{dd:Nat}(hw:ak T ops ⟨some dd,.call {callee:= .builtin .len,args:= #[x],argTypes:= #[t]},ty,pos,af,gd⟩=some true)(hd:Nat.blt dd nt=true)(hx:aj T x=some (.sl b o n C))(hu:P.underlying t=some (.slice e))
 (h:Wp P ro ⟨fn,nt,T.set dd (.sc (.int .i64 n)),.inReg ops (i+1) l :: k,dfs,H,nx⟩ Q):Wp P ro ⟨fn,nt,T,.inReg ops i (⟨some dd,.call {callee:= .builtin .len,args:= #[x],argTypes:= #[t]},ty,pos,af,gd⟩ :: l) :: k,dfs,H,nx⟩ Q:=
 be hw (.inr (fun _ h=>by cases h)) ((mJ hu hx).does) (by rw [ap hd];exact h)
end
section
variable {K V:Type} [DecidableEq K]
theorem l5{m:List (K×V×Nat)}{k:K}(hg:fP m k=none)(v:V)(c:Nat):kj m k v c=m ++ [(k,v,c)]:=by
 have hk:=kidx m k
 cases hi:m.findIdx? fun x=>decide (x.1=k)with
 | none=>rw [hi] at hk;exact hk.2.2 v c
 | some i=>
   rw [hi] at hk
   obtain⟨x,_,_,h3,_⟩:=hk
   rw [hg] at h3;cases h3
theorem k9{m:List (K×V×Nat)}{k:K}{v:V}(h:fP m k=some v): ∃ A B,kv m=A ++ (k,v) :: B∧kv (j0 m k)=A ++ B∧ ∀ w c,kv (kj m k w c)=A ++ (k,w) :: B:=by
 obtain⟨A,B,s,h1,_,h3,h4⟩:=l6 h
 refine⟨kv A,kv B,?_,?_,fun w c=>?_⟩
 ·rw [h1];simp [kv]
 ·rw [h4];simp [kv]
 ·rw [h3];simp [kv]
variable {P:K→V→Own}
theorem Big.get{m:List (K×V×Nat)}{H:ar}{F:Nat→Prop}(hb:Big P (kv m) H F){k:K}{v:V}(hg:fP m k=some v) :
 ∃ F1 G,P k v H F1∧Big P (kv (j0 m k)) H G∧(∀ n,F1 n→ ¬ G n)∧ ∀ n,F n↔F1 n∨G n:=by
 obtain⟨A,B,h1,h2,_⟩:=k9 hg
 rw [h1] at hb
 rw [h2]
 exact Big.focus hb
theorem Big.put(hP: ∀ k x,lC (P k x)){m:List (K×V×Nat)}{H H':ar}{G F1:Nat→Prop}{k:K}{v w:V}(hg:fP m k=some v)(c:Nat)(hG:Big P (kv (j0 m k)) H G)(e:P k w H' F1)(fr: ∀ n,G n→H'.at' n=H.at' n)(hd: ∀ n,F1 n→ ¬ G n) :
 Big P (kv (kj m k w c)) H' (fun n=>F1 n∨G n):=by
 obtain⟨A,B,_,h2,h3⟩:=k9 hg
 rw [h2] at hG
 rw [h3]
 exact Big.iY e (Big.frame hP _ _ _ _ hG fr) hd
theorem Big.add(hP: ∀ k x,lC (P k x)){m:List (K×V×Nat)}{H H':ar}{F F1:Nat→Prop}{k:K}{w:V}(hg:fP m k=none)(c:Nat)(hb:Big P (kv m) H F)(e:P k w H' F1)(fr: ∀ n,F n→H'.at' n=H.at' n)(hd: ∀ n,F1 n→ ¬ F n) :
 Big P (kv (kj m k w c)) H' (fun n=>F1 n∨F n):=by
 rw [l5 hg]
 have h0:=Big.frame hP _ _ _ _ hb fr
 simp only [kv,tq,tj,List.map_nil]
 exact Big.iY (A:=kv m) (B:= []) e (by rw [List.append_nil];exact h0) hd
omit [DecidableEq K] in
theorem Big.lt(hP: ∀ k x H F z,P k x H F→F z→ ∃ vo,H.at' z=some vo){H:ar}{z:Nat}: ∀ {m:List (K×V)} {F:Nat→Prop},Big P m H F→F z→ ∃ vo,H.at' z=some vo
 | [],_,h,hz=>(h z hz).elim
 | x :: m,_,⟨G1,G2,h1,h2,_,h4⟩,hz=>by
   rcases(h4 z).1 hz with hz|hz
   ·exact hP _ _ _ _ _ h1 hz
   ·exact Big.lt hP h2 hz
end
theorem pM{P:Program}{ro:Option Nat}{fn nt nx:Nat}{T:Tr SV}{k:List AIt}{dfs:List ADf}{H:ar}{Q:Pst}{R:ar→Nat→Prop}(h:R H nx)(h2: ∀ H' nx',R H' nx'→Wp P ro ⟨fn,nt,T,k,dfs,H',nx'⟩ Q):Wp P ro ⟨fn,nt,T,k,dfs,H,nx⟩ Q:=h2 _ _ h
def Stp(F F':Nat→Prop)(H:ar)(nx:Nat)(H':ar)(nx':Nat):Prop:=nx≤nx'∧(∀ n,F' n→F n∨nx≤n)∧ ∀ n,n<nx→ ¬ F n→H'.at' n=H.at' n
theorem Stp.refl{F:Nat→Prop}{H:ar}{nx:Nat}:Stp F F H nx H nx:=⟨th _,fun _ h=> .inl h,fun _ _ _=>rfl⟩
theorem Stp.trans{F F' F'':Nat→Prop}{H H' H'':ar}{nx nx' nx'':Nat}(h:Stp F F' H nx H' nx')(g:Stp F' F'' H' nx' H'' nx''):Stp F F'' H nx H'' nx'':=by
 refine⟨tw h.1 g.1,fun n hn=>?_,fun n hn hf=>?_⟩
 ·rcases g.2.1 n hn with h1|h1
  ·exact h.2.1 n h1
  ·exact .inr (tw h.1 h1)
 ·refine(g.2.2 n (Nat.lt_of_lt_of_le hn h.1) fun hf'=>?_).trans (h.2.2 n hn hf)
  rcases h.2.1 n hf' with h1|h1
  ·exact hf h1
  ·omega
section
variable {P:Program} {T:Tr SV} {H:ar} {d:Option Tmp} {ty:TypeId} {pos:String} {af:Array Edge} {gd:Option (Nat×Bool)}
theorem p9{t u:TypeId}{x y:Operand}{kd:IntKind}{a b c:Int}(hx:aj T x=some (.sc (.int kd a)))(hy:aj T y=some (.sc (.int kd b)))(hc:max a b=c):ReadDoes P T H ⟨d,.call {callee:= .builtin .max,args:= #[x,y],argTypes:= #[t,u]},ty,pos,af,gd⟩ (.sc (.int kd c)):=by
 subst hc
 refine cu fun ev w he=>?_
 have e1:=he x _ hx _ rfl
 have e2:=he y _ hy _ rfl
 have e3:(if a<b then b else a)=max a b:=by omega
 simp [execOp,resolve,invoke,builtin,e1,e2,Builtin.max_,Builtin.max2,e3]
end
abbrev u8L(s:ByteArray):List Value:=s.data.toList.map fun c=> .int .u8 (c.toNat:Int)
section
variable {P:Program} {T:Tr SV} {H:ar} {d:Option Tmp} {ty:TypeId} {pos:String} {af:Array Edge} {gd:Option (Nat×Bool)}
theorem mK{t e:TypeId}{x:Operand}{a:Option Addr}{n c:Nat}(hu:P.underlying t=some (.slice e))(hx:aj T x=some (.sc (.slice a n c))):ReadDoes P T H ⟨d,.call {callee:= .builtin .len,args:= #[x],argTypes:= #[t]},ty,pos,af,gd⟩ (.sc (.int .i64 n)):=by
 refine cu fun ev w he=>?_
 have e1:=he x _ hx _ rfl
 simp [execOp,resolve,invoke,builtin,e1,Builtin.len_,run_underlying hu,goInt]
end
section
variable {P:Program} {T:Tr SV} {H:ar} {d:Option Tmp} {ty:TypeId} {pos:String} {af:Array Edge} {gd:Option (Nat×Bool)}
theorem mP{t:TypeId}{v:SV}(h:gM P t []=some v):ReadDoes P T H ⟨d,.build t #[],ty,pos,af,gd⟩ v:=by
 refine cK ?_
 simp only [bL,fw,tv,h]
end
section
variable {P:Program} {ro:Option Nat} {fn nt nx:Nat} {T:Tr SV} {k:List AIt} {dfs:List ADf} {H:ar} {Q:Pst} {ops:Array Oper} {i:Nat} {l:List Oper} {d:Option Tmp} {ty:TypeId} {pos:String} {af:Array Edge} {gd:Option (Nat×Bool)}
theorem pk{t u:TypeId}{x y:Operand}{kd:IntKind}{a b c:Int}{dd:Nat}(hw:ak T ops ⟨some dd,.call {callee:= .builtin .max,args:= #[x,y],argTypes:= #[t,u]},ty,pos,af,gd⟩=some true)(hd:Nat.blt dd nt=true)(hx:aj T x=some (.sc (.int kd a)))(hy:aj T y=some (.sc (.int kd b)))(hc:max a b=c)
 (h:Wp P ro ⟨fn,nt,T.set dd (.sc (.int kd c)),.inReg ops (i+1) l :: k,dfs,H,nx⟩ Q):Wp P ro ⟨fn,nt,T,.inReg ops i (⟨some dd,.call {callee:= .builtin .max,args:= #[x,y],argTypes:= #[t,u]},ty,pos,af,gd⟩ :: l) :: k,dfs,H,nx⟩ Q:=
 be hw (.inr (fun _ h=>by cases h)) ((p9 hx hy hc).does) (by rw [ap hd];exact h)
theorem dq{t:TypeId}{v:SV}{dd:Nat}(hw:ak T ops ⟨some dd,.build t #[],ty,pos,af,gd⟩=some true)(hd:Nat.blt dd nt=true)(h0:gM P t []=some v)
 (h:Wp P ro ⟨fn,nt,T.set dd v,.inReg ops (i+1) l :: k,dfs,H,nx⟩ Q):Wp P ro ⟨fn,nt,T,.inReg ops i (⟨some dd,.build t #[],ty,pos,af,gd⟩ :: l) :: k,dfs,H,nx⟩ Q:=
 be hw (.inr (fun _ h=>by cases h)) ((mP h0).does) (by rw [ap hd];exact h)
end
section
variable {P:Program} {T:Tr SV} {H:ar} {nx:Nat} {d:Option Tmp} {ty:TypeId} {pos:String} {af:Array Edge} {gd:Option (Nat×Bool)}
theorem kg{s t el:TypeId}{x:Operand}{b:ByteArray}(hs:P.underlying s=some .string)(ht:P.underlying t=some (.slice el))(he:P.underlying el=some (.int .u8))(hx:aj T x=some (.sc (.string b)))(hb:b.size≤140737488355328) :
 OpDoes P T H nx ⟨d,.convert s t x,ty,pos,af,gd⟩ (.val (.slu nx 0 b.size),H.set nx (dat false b.size 1 el (u8L b)),nx+1):=by
 have e0:dL (b.data.toList.map fun c=>SV.sc (.int .u8 (c.toNat:Int)))=fun i=>((u8L b)[i]?).map SV.sc:=by
  funext i
  simp [dL,u8L,Function.comp_def]
 intro K w0 e w ev hS hE
 have e1:=hE x _ hx
 simp only [SV.conc,sW] at e1
 have hrun:=run_bytes_of_string w s t el b hs ht he
 have hge:=grownCap_ge w b.size 0 el
 have hle:=grownCap_le_maxLen w b.size 0 el (by unfold maxLen;omega)
 generalize grownCap w b.size 0 el=gc at hrun hge hle
 have hf:=hS.fresh nx (th _)
 have hsz:(bytesRow b gc).size=gc:=by
  have:b.data.size=b.size:=rfl
  simp [bytesRow];omega
 rw [hsz] at hrun
 refine⟨e.put nx ⟨w.heap.size,0,gc,1,false⟩,(w.drew.alloc (Obj.cells (bytesRow b gc) el (gc,gc+1))),Env.bB hf,?_,.slice (some ⟨w.heap.size,0,none⟩) b.size gc,by simp [SV.conc,Env.aJ,Ent.at],by simp only [execOp,←e1];simp [hrun]⟩
 refine(hS.drew').new (x:=⟨w.heap.size,0,gc,1,false⟩) (o:= .cells (bytesRow b gc) el (gc,gc+1)) rfl rfl rfl rfl rfl rfl rfl ?_
 refine⟨rfl,_,_,_,rfl,hge,by rw [hsz];simp,hle,fun _=>⟨by omega,fun i hi=>?_⟩,by omega,fun i hi s' hs'=>?_⟩
 ·rw [hsz] at hi
  simp;omega
 ·have hs':((u8L b)[i]?).map SV.sc=some s':=hs'
  rw [s7] at hs'
  obtain⟨u,hu,rfl⟩:=hs'
  simp only [u8L,List.getElem?_map,s7] at hu
  obtain⟨a,ha,rfl⟩:=hu
  refine⟨_,rfl,?_⟩
  simp only [Nat.zero_add,bytesRow]
  rw [Array.getElem?_append_left (by rw [Array.size_map];have:b.data.size=b.size:=rfl;omega)]
  simp only [Array.getElem?_map,s7]
  exact⟨a,by simpa using ha,rfl⟩
end
section
variable {P:Program} {ro:Option Nat} {fn nt nx i:Nat} {T:Tr SV} {k:List AIt} {dfs:List ADf} {H:ar} {Q:Pst} {ops:Array Oper} {l:List Oper} {ty:TypeId} {pos:String} {af:Array Edge} {gd:Option (Nat×Bool)}
theorem lH{s t el:TypeId}{x:Operand}{b:ByteArray}{dd:Nat}(hw:ak T ops ⟨some dd,.convert s t x,ty,pos,af,gd⟩=some true)(hd:Nat.blt dd nt=true)(hs:P.underlying s=some .string)(ht:P.underlying t=some (.slice el))(he:P.underlying el=some (.int .u8))(hx:aj T x=some (.sc (.string b)))(hb:b.size≤140737488355328)
 (h:Wp P ro ⟨fn,nt,T.set dd (.slu nx 0 b.size),.inReg ops (i+1) l :: k,dfs,H.set nx (dat false b.size 1 el (u8L b)),nx+1⟩ Q):Wp P ro ⟨fn,nt,T,.inReg ops i (⟨some dd,.convert s t x,ty,pos,af,gd⟩ :: l) :: k,dfs,H,nx⟩ Q:=
 be hw (.inr (fun _ h=>by cases h)) (kg hs ht he hx hb) (by rw [ap hd];exact h)
end
abbrev rZ(ro:Bool)(ne sz:Nat)(t:TypeId)(l:List SV):VO:= .row ro ne sz t (dL l)
section
variable {ro:Bool} {ne sz:Nat} {t:TypeId} {l:List SV}
theorem gK{i:Nat}{s:SV}(h:l[i]? =some s)(hi:i<ne*sz):(rZ ro ne sz t l).cell i=some s:=by
 simp only [VO.cell]
 rw [show Nat.blt i (ne*sz)=true from s5 hi]
 exact h
theorem de: ∀ (n o:Nat) (l':List SV),(l.drop o).take n=l'→l'.length=n→o+n≤ne*sz→(rZ ro ne sz t l).cellsFrom o n=some l'
 | 0,o,l',h,_,_=>by rw [List.take_zero] at h;subst h;rfl
 | n+1,o,l',h,hn,ho=>by
   cases hd:l.drop o with
   | nil=>rw [hd] at h;subst h;simp at hn
   | cons x r=>
     have hx:l[o]? =some x:=by rw [← List.head?_drop,hd];rfl
     have hr:l.drop (o+1)=r:=by rw [← List.drop_drop,hd];rfl
     rw [hd,List.take_succ_cons] at h
     subst h
     have:=de n (o+1) (r.take n) (by rw [hr]) (by simpa using hn) (by omega)
     have hc:=gK (ro:=ro) (ne:=ne) (sz:=sz) (t:=t) hx (by omega)
     simp only [VO.cellsFrom,hc,this]
end
def SlOf(H:ar)(sz:Nat)(t:TypeId)(s:SV)(n:Nat)(cs:List SV):Prop:=cs.length=n*sz ∧
 ((n=0∧(s = .sc (.slice none 0 0)∨ ∃ b o c vo,s = .sl b o 0 c∧H.at' b=some vo)) ∨
  ∃ r eo ne l,(s = .slu r eo n∨ ∃ C,n≤C∧s = .sl r (eo*sz) n C)∧H.at' r=some (rZ false ne sz t l)∧(l.drop (eo*sz)).take (n*sz)=cs∧eo+n≤ne∧l.length=ne*sz)
section
variable {P:Program} {T:Tr SV} {H:ar} {nx:Nat} {d:Option Tmp} {ty:TypeId} {pos:String} {af:Array Edge} {gd:Option (Nat×Bool)}
theorem SlOf.cells{sz n:Nat}{t:TypeId}{s:SV}{cs:List SV}(h:SlOf H sz t s n cs):aA H sz s=some (n,cs):=by
 obtain⟨h1,⟨rfl,h2⟩|⟨r,eo,ne,l,rfl|⟨C,_,rfl⟩,hb,hc,he,hl⟩⟩:=h
 ·rw [Nat.zero_mul] at h1
  have:=td h1
  subst this
  rcases h2 with rfl|⟨b,o,c,vo,rfl,hb⟩
  ·rfl
  ·simp [aA,hb,VO.cellsFrom]
 ·simp only [aA,hb,Nat.beq_refl,Bool.true_and]
  rw [show Nat.ble (eo+n) ne=true from s5 he]
  have:=de (ro:=false) (ne:=ne) (sz:=sz) (t:=t) (l:=l) (n*sz) (eo*sz) cs hc h1 (by rw [← Nat.add_mul];exact Nat.mul_le_mul_right _ he)
  simp only [cond_true,this,tu]
 ·have:=de (ro:=false) (ne:=ne) (sz:=sz) (t:=t) (l:=l) (n*sz) (eo*sz) cs hc h1 (by rw [← Nat.add_mul];exact Nat.mul_le_mul_right _ he)
  simp only [aA,hb,this,tu]
theorem SlOf.row{ne sz:Nat}{t:TypeId}{l:List SV}{r:Nat}(hb:H.at' r=some (rZ false ne sz t l))(hl:l.length=ne*sz):SlOf H sz t (.slu r 0 ne) ne l:=by
 refine⟨hl,.inr ⟨r,0,ne,l,.inl rfl,hb,?_,by omega,hl⟩⟩
 rw [Nat.zero_mul,List.drop_zero,←hl,List.take_length]
theorem SlOf.none{sz:Nat}{t:TypeId}:SlOf H sz t (.sc (.slice none 0 0)) 0 []:=⟨by simp,.inl ⟨rfl,.inl rfl⟩⟩
theorem mM{t e:TypeId}{x y:Operand}{b o n C q:Nat}{k:IntKind}{sz:Nat}(hu:P.underlying t=some (.slice e))(hs:aR P e=some sz)(hx:aj T x=some (.sl b o n C))(hy:aj T y=some (.sc (.int k (q:Int))))(hi:q<n):ReadDoes P T H ⟨d,.indexAddr t x y,ty,pos,af,gd⟩ (.ptr b (o+q*sz)):=by
 refine cK ?_
 simp only [bL,ma,hx,hy,tv,bO,hu,hs]
 rw [show Nat.blt q n=true from s5 hi]
 simp
end
def nmS:SV→Option Nat
 | .slu b _ _=>some b
 | .sl b _ _ _=>some b
 | _=>none
theorem SlOf.frame{H H':ar}{sz n:Nat}{t:TypeId}{s:SV}{cs:List SV}(h:SlOf H sz t s n cs)(hf: ∀ b,nmS s=some b→H'.at' b=H.at' b):SlOf H' sz t s n cs:=by
 obtain⟨h1,⟨rfl,h2⟩|⟨r,eo,ne,l,hsl,hb,hc⟩⟩:=h
 ·refine⟨h1,.inl ⟨rfl,?_⟩⟩
  rcases h2 with rfl|⟨b,o,c,vo,rfl,hb⟩
  ·exact .inl rfl
  ·exact .inr ⟨b,o,c,vo,rfl,(hf b rfl).trans hb⟩
 ·exact⟨h1,.inr ⟨r,eo,ne,l,hsl,(hf r (by rcases hsl with rfl|⟨C,_,rfl⟩ <;> rfl)).trans hb,hc⟩⟩
section
variable {P:Program} {ro:Option Nat} {fn nt nx:Nat} {T:Tr SV} {k:List AIt} {dfs:List ADf} {H:ar} {Q:Pst} {ops:Array Oper} {i:Nat} {l:List Oper} {d:Option Tmp} {ty:TypeId} {pos:String} {af:Array Edge} {gd:Option (Nat×Bool)}
theorem fG{t:TypeId}{x:Operand}{b o:Nat}{vo:VO}{v:SV}{dd:Nat}(hw:ak T ops ⟨some dd,.load t x,ty,pos,af,gd⟩=some true)(hd:Nat.blt dd nt=true)(hx:aj T x=some (.ptr b o))(ha:bA P t=some none)(hb:H.at' b=some vo)(hv:vo.cell o=some v)
 (h:Wp P ro ⟨fn,nt,T.set dd v,.inReg ops (i+1) l :: k,dfs,H,nx⟩ Q):Wp P ro ⟨fn,nt,T,.inReg ops i (⟨some dd,.load t x,ty,pos,af,gd⟩ :: l) :: k,dfs,H,nx⟩ Q:=
 be hw (.inr (fun _ h=>by cases h)) ((dV ha hx hb hv).does) (by rw [ap hd];exact h)
end
section
variable {P:Program} {T:Tr SV} {H:ar} {nx:Nat} {d:Option Tmp} {ty:TypeId} {pos:String} {af:Array Edge} {gd:Option (Nat×Bool)}
theorem m3{t el:TypeId}{x y:Operand}{kx ky:IntKind}{n m bb:Nat}{z:Value}(hu:P.underlying t=some (.slice el))(hs:aR P el=some 1)(hz:bU P el=some z)(hi:(P.info? el).map (·.bytes)=some bb)(hc:z.cells = #[z])
 (hx:aj T x=some (.sc (.int kx n))) (hy:aj T y=some (.sc (.int ky m))) (hnm:n≤m) (hm:bb*m≤281474976710656) (h63:m≤9223372036854775807) :
 OpDoes P T H nx ⟨d,.makeSlice t x y,ty,pos,af,gd⟩ (.val (.slu nx 0 n),H.set nx (dat false m 1 el (List.replicate m z)),nx+1):=by
 intro K w0 e w ev hS hE
 have e1:=hE x _ hx
 have e2:=hE y _ hy
 simp only [SV.conc,sW] at e1 e2
 obtain⟨inf,hinf,rfl⟩:=s7.1 hi
 clear hi
 simp only [aR,hinf,tu,sW] at hs
 simp only [bU,hinf,tv] at hz
 have hbi:(inf.bytes:Int)*(m:Int)=((inf.bytes*m:Nat):Int):=by rw [Int.natCast_mul]
 have hrun:=run_make (P:=P) w t el inf z hu hinf hz kx ky n m (by omega) (by omega) (by rw [hbi];omega) (by omega)
 simp only [Int.toNat_natCast,hs,Nat.mul_one,hc] at hrun
 have hsz:(madeCells #[z] m).size=m:=size_madeCells _ _
 have hget: ∀ i,i<m→(madeCells #[z] m)[i]? =some z:=fun i hi=>by
  simp only [madeCells,Array.getElem?_map]
  rw [Array.getElem?_range]
  simp [hi,Nat.mod_one]
 have hf:=hS.fresh nx (th _)
 refine⟨e.put nx ⟨w.heap.size,0,m,1,false⟩,w.alloc (Obj.cells (madeCells #[z] m) el),Env.bB hf,?_,.slice (some ⟨w.heap.size,0,none⟩) n m,by simp [SV.conc,Env.aJ,Ent.at],by simp only [execOp,←e1,←e2];simp [hrun]⟩
 refine hS.new (x:=⟨w.heap.size,0,m,1,false⟩) (o:= .cells (madeCells #[z] m) el) rfl rfl rfl rfl rfl rfl rfl ?_
 refine⟨rfl,_,_,_,rfl,th _,by rw [hsz];simp,by unfold maxLen;omega,fun _=>⟨th _,fun i hi=>?_⟩,by omega,fun i hi s' hs'=>?_⟩
 ·simp
 ·have hs':((List.replicate m z)[i]?).map SV.sc=some s':=hs'
  rw [s7] at hs'
  obtain⟨u,hu,rfl⟩:=hs'
  obtain⟨hil,rfl⟩:=sZ.1 hu
  refine⟨_,rfl,?_⟩
  simp only [Nat.zero_add,List.getElem_replicate]
  exact hget i (by simpa using hil)
theorem jQ: ∀ l:List UInt8,fL ((l.map fun c=>Value.int .u8 (c.toNat:Int)).map SV.sc)=some l
 | []=>rfl
 | c :: l=>by
   simp only [tj]
   show(match fL _ with
    | some r=>some (UInt8.ofNat c.toNat :: r)
    | none=>none)=_
   rw [jQ l]
   simp
theorem jP(b:ByteArray):hZ ((u8L b).map SV.sc)=some (.sc (.string b)):=by
 unfold hZ
 rw [show((u8L b).map SV.sc)=((b.data.toList.map fun c=>Value.int .u8 (c.toNat:Int)).map SV.sc)from rfl,jQ]
 simp
def BsIs(H:ar)(s:SV)(vs:List Value):Prop:=lR vs∧((vs= []∧ ∃ a c,s = .sc (.slice a 0 c)) ∨
 (∃ r eo ne ro t us,s = .slu r eo vs.length∧H.at' r=some (dat ro ne 1 t us)∧eo+vs.length≤ne∧(us.drop eo).take vs.length=vs) ∨
 (∃ b o C vo,s = .sl b o vs.length C∧H.at' b=some vo∧vo.cellsFrom o vs.length=some (vs.map .sc)))
theorem BsIs.rdv{s:SV}{vs:List Value}(h:BsIs H s vs):RdV P H 1 s vs.length vs:=by
 obtain⟨_,⟨rfl,_,_,rfl⟩|⟨r,eo,ne,ro,t,us,rfl,hb,hn,hu⟩|⟨b,o,C,vo,rfl,hb,hc⟩⟩:=h
 ·rfl
 ·exact p8 hb hn (by simpa using hu) (by simp)
 ·unfold RdV
  simp only [aA,hb,Nat.mul_one,hc,tu]
theorem BsIs.frame{s:SV}{vs:List Value}{H':ar}(h:BsIs H s vs)(hf: ∀ b vo,H.at' b=some vo→H'.at' b=some vo):BsIs H' s vs:=by
 obtain⟨h1,h2|⟨r,eo,ne,ro,t,us,rfl,hb,hn,hu⟩|⟨b,o,C,vo,rfl,hb,hc⟩⟩:=h
 ·exact⟨h1,.inl h2⟩
 ·exact⟨h1,.inr (.inl ⟨r,eo,ne,ro,t,us,rfl,hf _ _ hb,hn,hu⟩)⟩
 ·exact⟨h1,.inr (.inr ⟨b,o,C,vo,rfl,hf _ _ hb,hc⟩)⟩
theorem BsIs.row{r ne:Nat}{ro:Bool}{t:TypeId}{vs:List Value}(h1:lR vs)(hb:H.at' r=some (dat ro ne 1 t vs))(hn:vs.length=ne):BsIs H (.slu r 0 ne) vs:=
 ⟨h1,.inr (.inl ⟨r,0,ne,ro,t,vs,by rw [hn],hb,by omega,by simp⟩)⟩
theorem iy{t e:TypeId}{x:Operand}{s:SV}{vs:List Value}(hu:P.underlying t=some (.slice e))(hx:aj T x=some s)(hb:BsIs H s vs):ReadDoes P T H ⟨d,.call {callee:= .builtin .len,args:= #[x],argTypes:= #[t]},ty,pos,af,gd⟩ (.sc (.int .i64 vs.length)):=by
 obtain⟨_,⟨rfl,_,_,rfl⟩|⟨r,eo,ne,ro,t,us,rfl,hb,hn,_⟩|⟨b,o,C,vo,rfl,hb,hc⟩⟩:=hb
 ·exact mK hu hx
 ·exact kQ hu hx
 ·exact mJ hu hx
theorem oo{s t el:TypeId}{x:Operand}{v:SV}{b:ByteArray}(hs:P.underlying s=some (.slice el))(ht:P.underlying t=some .string)(he:P.underlying el=some (.int .u8))(hx:aj T x=some v)(hb:BsIs H v (u8L b)):ReadDoes P T H ⟨d,.convert s t x,ty,pos,af,gd⟩ (.sc (.string b)):=by
 have hr:=BsIs.rdv (P:=P) hb
 unfold RdV at hr
 obtain⟨_,⟨h1,a0,c0,rfl⟩|⟨r,eo,ne,ro,rt,us,rfl,_⟩|⟨b',o,C,vo,rfl,_⟩⟩:=hb
 ·have hb0:b=⟨#[]⟩:=by
   have:=congrArg List.length h1
   simp only [u8L,List.length_map,List.length_nil] at this
   obtain⟨⟨l⟩⟩:=b
   simp only at this
   rw [td this]
  subst hb0
  refine cu fun ev w hv=>?_
  have e1:=hv x _ hx _ rfl
  simp only [execOp,e1]
  rw [Sem.run_bind,run_convert_bytes_string w s t el a0 0 c0 hs he ht]
  cases a0 with
  | none=>
    simp only [Conv.bytesToString,Sem.run_pure]
    rfl
  | some ad=>
    have:=run_loadCells_list (P:=P) (w:=w) ad [] (by simp)
    rw [run_bytesToString w ad 0 c0 [] (by simpa using this)]
    rfl
 ·refine cK ?_
  simp only [bL,hx,tv,jf,hs,ht,he,hr,jP]
 ·refine cK ?_
  simp only [bL,hx,tv,jf,hs,ht,he,hr,jP]
end
section
variable {P:Program} {ro:Option Nat} {fn nt nx i:Nat} {T:Tr SV} {k:List AIt} {dfs:List ADf} {H:ar} {Q:Pst} {ops:Array Oper} {l:List Oper} {ty:TypeId} {pos:String} {af:Array Edge} {gd:Option (Nat×Bool)}
theorem io{t el:TypeId}{x y:Operand}{kx ky:IntKind}{n m dd bb:Nat}{z:Value}(hw:ak T ops ⟨some dd,.makeSlice t x y,ty,pos,af,gd⟩=some true)(hd:Nat.blt dd nt=true)(hu:P.underlying t=some (.slice el))(hs:aR P el=some 1)(hz:bU P el=some z)(hi:(P.info? el).map (·.bytes)=some bb)(hc:z.cells = #[z])
 (hx:aj T x=some (.sc (.int kx n))) (hy:aj T y=some (.sc (.int ky m))) (hnm:n≤m) (hm:bb*m≤281474976710656) (h63:m≤9223372036854775807)
 (h:Wp P ro ⟨fn,nt,T.set dd (.slu nx 0 n),.inReg ops (i+1) l :: k,dfs,H.set nx (dat false m 1 el (List.replicate m z)),nx+1⟩ Q):Wp P ro ⟨fn,nt,T,.inReg ops i (⟨some dd,.makeSlice t x y,ty,pos,af,gd⟩ :: l) :: k,dfs,H,nx⟩ Q:=
 be hw (.inr (fun _ h=>by cases h)) (m3 hu hs hz hi hc hx hy hnm hm h63) (by rw [ap hd];exact h)
theorem cH{t e:TypeId}{x:Operand}{s:SV}{vs:List Value}{dd:Nat}(hw:ak T ops ⟨some dd,.call {callee:= .builtin .len,args:= #[x],argTypes:= #[t]},ty,pos,af,gd⟩=some true)(hd:Nat.blt dd nt=true)(hu:P.underlying t=some (.slice e))(hx:aj T x=some s)(hb:BsIs H s vs)
 (h:Wp P ro ⟨fn,nt,T.set dd (.sc (.int .i64 vs.length)),.inReg ops (i+1) l :: k,dfs,H,nx⟩ Q):Wp P ro ⟨fn,nt,T,.inReg ops i (⟨some dd,.call {callee:= .builtin .len,args:= #[x],argTypes:= #[t]},ty,pos,af,gd⟩ :: l) :: k,dfs,H,nx⟩ Q:=
 be hw (.inr (fun _ h=>by cases h)) ((iy hu hx hb).does) (by rw [ap hd];exact h)
theorem pQ{s t el:TypeId}{x:Operand}{v:SV}{b:ByteArray}{dd:Nat}(hw:ak T ops ⟨some dd,.convert s t x,ty,pos,af,gd⟩=some true)(hd:Nat.blt dd nt=true)(hs:P.underlying s=some (.slice el))(ht:P.underlying t=some .string)(he:P.underlying el=some (.int .u8))(hx:aj T x=some v)(hb:BsIs H v (u8L b))
 (h:Wp P ro ⟨fn,nt,T.set dd (.sc (.string b)),.inReg ops (i+1) l :: k,dfs,H,nx⟩ Q):Wp P ro ⟨fn,nt,T,.inReg ops i (⟨some dd,.convert s t x,ty,pos,af,gd⟩ :: l) :: k,dfs,H,nx⟩ Q:=
 be hw (.inr (fun _ h=>by cases h)) ((oo hs ht he hx hb).does) (by rw [ap hd];exact h)
end
section
variable {P:Program} {T:Tr SV} {H:ar} {nx:Nat} {d:Option Tmp} {ty:TypeId} {pos:String} {af:Array Edge} {gd:Option (Nat×Bool)}
theorem fg{vo:VO}: ∀ (n o:Nat) (l:List SV),vo.cellsFrom o n=some l→ ∀ j x,l[j]? =some x→vo.cell (o+j)=some x
 | 0,o,l,h,j,x,hx=>by
   simp only [VO.cellsFrom,sW] at h
   subst h
   simp at hx
 | n+1,o,l,h,j,x,hx=>by
   simp only [VO.cellsFrom] at h
   cases h1:vo.cell o with
   | none=>rw [h1] at h;cases h
   | some s=>
     rw [h1] at h
     simp only at h
     cases h2:vo.cellsFrom (o+1) n with
     | none=>rw [h2] at h;cases h
     | some m=>
       rw [h2] at h
       simp only [sW] at h
       subst h
       cases j with
       | zero=>
         simp only [tf,sW] at hx
         subst hx
         exact h1
       | succ j=>
         have:=fg n (o+1) m h2 j x (by simpa using hx)
         rw [show o+(j+1)=o+1+j by omega]
         exact this
theorem qc{t e:TypeId}{x:Operand}{lo hi:Option Operand}{b o n l h m C o':Nat}(hu:P.underlying t=some (.array n e))(hs:aR P e=some 1)(hx:aj T x=some (.ptr b o))(hl:iZ T 0 lo l)(hh:iZ T n hi h)(h1:l≤h)(h2:h≤n)(h3:l<n)(hm:h-l=m)(hC:n-l=C)(ho:o+l=o'):ReadDoes P T H ⟨d,.slice t x lo hi none,ty,pos,af,gd⟩ (.sl b o' m C):=by
 subst hm hC ho
 refine cK ?_
 unfold iZ at hl hh
 have hmx:natOr T n none=some n:=rfl
 simp only [bL,hx,tv,eT,hu,hs,hl,hh,hmx]
 rw [show Nat.ble l h=true from s5 h1,show Nat.ble h n=true from s5 h2,show Nat.ble n n=true from s5 (th _)]
 have:Nat.beq n l=false:=by cases hq:Nat.beq n l with|false=>rfl|true=>exact absurd (Nat.eq_of_beq_eq_true hq) (by omega)
 simp [this]
theorem oE{t tx el:TypeId}{b o n C:Nat}{bt:TypeId}{cs:List SV}{vs:List Value}{s x:Operand}{v:SV}(hu:P.underlying t=some (.slice el))(hs:aR P el=some 1)(hx0:aj T s=some (.sl b o n C))(hx:aj T x=some v)(hb:H.at' b=some (am bt cs))(hv:BsIs H v vs)(hn:vs.length≤n)(ho:o+vs.length≤cs.length) :
 OpDoes P T H nx ⟨d,.call {callee:= .builtin .copy,args:= #[s,x],argTypes:= #[t,tx]},ty,pos,af,gd⟩ (.val (.sc (.int .i64 (vs.length:Nat))),H.set b (am bt (cs.take o ++ vs.map .sc ++ cs.drop (o+vs.length))),nx):=by
 have hr:=BsIs.rdv (P:=P) hv
 unfold RdV at hr
 have hmin:min vs.length n=vs.length:=Nat.min_eq_left hn
 have htk:(vs.map SV.sc).take (vs.length*1)=vs.map SV.sc:=by rw [Nat.mul_one];exact s9 (by simp)
 have hst:(am bt cs).setCells o (vs.map .sc)=some (am bt (cs.take o ++ vs.map .sc ++ cs.drop (o+vs.length))):=by
  have:=c8 (t:=bt) (vs.map .sc) cs o (by simpa using ho) (fi hv.1)
  simpa using this
 have hcp:nG P H nx t (.sl b o n C) v=some (.val (.sc (.int .i64 (vs.length:Nat))),H.set b (am bt (cs.take o ++ vs.map .sc ++ cs.drop (o+vs.length))),nx):=by
  simp only [nG,hu,hs,hr,hmin,htk,cg,hb,hst]
 refine iQ ?_
 simp only [dN,cD,hx0,hx,tv,dz,hcp]
end
section
variable {P:Program} {ro:Option Nat} {fn nt nx i:Nat} {T:Tr SV} {k:List AIt} {dfs:List ADf} {H:ar} {Q:Pst} {ops:Array Oper} {l:List Oper} {ty:TypeId} {pos:String} {af:Array Edge} {gd:Option (Nat×Bool)}
theorem rK{t e:TypeId}{x y:Operand}{s:SV}{vs:List Value}{kd:IntKind}{j:Nat}{dd:Nat}(hw:ak T ops ⟨some dd,.indexAddr t x y,ty,pos,af,gd⟩=some true)(hd:Nat.blt dd nt=true)(hx:aj T x=some s)(hy:aj T y=some (.sc (.int kd (j:Int))))(hu:P.underlying t=some (.slice e))(hs:aR P e=some 1)(hb:BsIs H s vs)(hj:j<vs.length)
 (h: ∀ b o vo,H.at' b=some vo→vo.cell o=some (.sc vs[j])→Wp P ro ⟨fn,nt,T.set dd (.ptr b o),.inReg ops (i+1) l :: k,dfs,H,nx⟩ Q):Wp P ro ⟨fn,nt,T,.inReg ops i (⟨some dd,.indexAddr t x y,ty,pos,af,gd⟩ :: l) :: k,dfs,H,nx⟩ Q:=by
 obtain⟨_,⟨rfl,_,_,rfl⟩|⟨r,eo,ne,ro',rt,us,rfl,hr,hn,hus⟩|⟨b,o,C,vo,rfl,hr,hc⟩⟩:=hb
 ·simp at hj
 ·refine be hw (.inr (fun _ h=>by cases h)) ((kR hu hs hx hy hr (by omega) (by omega) hn).does) ?_
  rw [ap hd]
  refine h r _ _ hr ?_
  rw [Nat.mul_one,Int.toNat_natCast]
  refine lr (by omega) ?_
  have hg:=congrArg (fun l:List Value=>l[j]?) hus
  rw [List.getElem?_take_of_lt hj,List.getElem?_drop] at hg
  rw [hg]
  simp [hj]
 ·refine be hw (.inr (fun _ h=>by cases h)) ((mM hu hs hx hy hj).does) ?_
  rw [ap hd]
  refine h b _ _ hr ?_
  rw [Nat.mul_one]
  exact fg _ _ _ hc j _ (by simp [hj])
theorem gh{t e:TypeId}{x:Operand}{lo hi:Option Operand}{b o n lw hg m C o':Nat}{dd:Nat}(hw:ak T ops ⟨some dd,.slice t x lo hi none,ty,pos,af,gd⟩=some true)(hd:Nat.blt dd nt=true)(hx:aj T x=some (.ptr b o))(hu:P.underlying t=some (.array n e))(hs:aR P e=some 1)(hl:iZ T 0 lo lw)(hh:iZ T n hi hg)(h1:lw≤hg)(h2:hg≤n)(h3:lw<n)(hm:hg-lw=m)(hC:n-lw=C)(ho:o+lw=o')
 (h:Wp P ro ⟨fn,nt,T.set dd (.sl b o' m C),.inReg ops (i+1) l :: k,dfs,H,nx⟩ Q):Wp P ro ⟨fn,nt,T,.inReg ops i (⟨some dd,.slice t x lo hi none,ty,pos,af,gd⟩ :: l) :: k,dfs,H,nx⟩ Q:=
 be hw (.inr (fun _ h=>by cases h)) ((qc hu hs hx hl hh h1 h2 h3 hm hC ho).does) (by rw [ap hd];exact h)
theorem j9{t tx el:TypeId}{b o n C:Nat}{bt:TypeId}{cs:List SV}{vs:List Value}{s x:Operand}{v:SV}{dd:Nat}(hw:ak T ops ⟨some dd,.call {callee:= .builtin .copy,args:= #[s,x],argTypes:= #[t,tx]},ty,pos,af,gd⟩=some true)(hd:Nat.blt dd nt=true)(hx0:aj T s=some (.sl b o n C))(hx:aj T x=some v)(hu:P.underlying t=some (.slice el))(hs:aR P el=some 1)(hb:H.at' b=some (am bt cs))(hv:BsIs H v vs)(hn:vs.length≤n)(ho:o+vs.length≤cs.length)
 (h:Wp P ro ⟨fn,nt,T.set dd (.sc (.int .i64 (vs.length:Nat))),.inReg ops (i+1) l :: k,dfs,H.set b (am bt (cs.take o ++ vs.map .sc ++ cs.drop (o+vs.length))),nx⟩ Q):Wp P ro ⟨fn,nt,T,.inReg ops i (⟨some dd,.call {callee:= .builtin .copy,args:= #[s,x],argTypes:= #[t,tx]},ty,pos,af,gd⟩ :: l) :: k,dfs,H,nx⟩ Q:=
 be hw (.inr (fun _ h=>by cases h)) (oE hu hs hx0 hx hb hv hn ho) (by rw [ap hd];exact h)
end
end Go.Sy
end
section
namespace Go.Proofs.Ytnhmbonmlfeifaa
open Go Go.Sy Go.Sl Go.RowKit
abbrev byV(l:List UInt8):List Value:=l.map fun c=> .int .u8 (c.toNat:Int)
def beN(l:List UInt8):Nat:=l.foldl (fun n c=>256*n+c.toNat) 0
theorem o4(l:List UInt8)(c:UInt8):beN (l ++ [c])=256*beN l+c.toNat:=by simp [beN]
theorem o3{l:List UInt8}{j:Nat}(h:j<l.length):beN (l.take (j+1))=256*beN (l.take j)+(l[j]).toNat:=by
 rw [List.take_add_one,sY h]
 exact o4 _ _
theorem lh: ∀ (l:List UInt8) (a:Nat),l.foldl (fun n c=>256*n+c.toNat) a<(a+1)*256 ^ l.length
 | [],a=>by simp
 | c :: l,a=>by
   have h:=lh l (256*a+c.toNat)
   have hc:=c.toNat_lt
   simp only [List.foldl_cons,tn,Nat.pow_succ]
   refine Nat.lt_of_lt_of_le h ?_
   rw [Nat.mul_comm (256 ^ l.length) 256,←Nat.mul_assoc]
   exact Nat.mul_le_mul_right _ (by omega)
theorem nN(l:List UInt8):beN l<256 ^ l.length:=by
 have:=lh l 0
 rwa [Nat.zero_add,Nat.one_mul] at this
theorem qO{l:List UInt8}{j:Nat}(h:j<(byV l).length):(byV l)[j] = .int .u8 ((l[j]'(by simpa using h)).toNat:Int):=by simp
theorem shl8{n:Nat}(h:n<72057594037927936):IntKind.u64.wrap ((n:Int)*2 ^ (min (8:Int).toNat IntKind.u64.bits))=((256*n:Nat):Int):=by
 rw [show(min (8:Int).toNat IntKind.u64.bits)=8 from rfl]
 refine(Go.IntWalk.u64_in _ ⟨by omega,by omega⟩).trans ?_
 omega
theorem or8{n c:Nat}(hn:n<72057594037927936)(hc:c<256):oZ .or .u64 ((256*n:Nat):Int) (c:Int)=((256*n+c:Nat):Int):=by
 show IntKind.u64.wrap (((BitVec.ofInt 64 ((256*n:Nat):Int) ||| BitVec.ofInt 64 (c:Int)).toNat:Nat):Int)=_
 have e1:(((256*n:Nat):Int) % ((2 ^ 64:Nat):Int)).toNat=n <<< 8:=by rw [Nat.shiftLeft_eq];omega
 have e2:((c:Int) % ((2 ^ 64:Nat):Int)).toNat=c:=by omega
 rw [BitVec.toNat_or,BitVec.toNat_ofInt,BitVec.toNat_ofInt,e1,e2,←Nat.shiftLeft_add_eq_or_of_lt (show c<2 ^ 8 by omega),Nat.shiftLeft_eq]
 exact(Go.IntWalk.u64_in _ ⟨by omega,by omega⟩).trans (by omega)
theorem sF{H:ar}{nx:Nat}{s:SV}{bs:List UInt8}(hb:BsIs H s (byV bs))(h1:1≤bs.length)(h2:bs.length≤8):Fnc Try.prog 68 [s] H nx
 (fun q=>q=(.tup [.sc (.int .u64 (beN bs:Int)),.sc (.int .i64 0)],H,nx)):=by
 have hlen:(byV bs).length=bs.length:=by simp
 refine Fnc.start Try.func68 rfl rfl ?_
 (repeat(first|refine an ?_|refine ae ?_|refine ac ?_|(apply ai;exact rfl;exact rfl;exact rfl)|(apply ah;exact rfl;exact rfl;exact rfl)|(refine cH rfl rfl (F.un _ rfl) rfl hb ?_)))
 refine bC rfl rfl rfl rfl (fun hq=>absurd hq (by omega)) (fun _=>?_)
 (repeat(first|(apply ai;exact rfl;exact rfl;exact rfl)|(refine cH rfl rfl (F.un _ rfl) rfl hb ?_)))
 refine cp rfl rfl rfl rfl (fun hq=>absurd hq (by omega)) (fun _=>?_)
 (repeat(first|refine an ?_|refine ae ?_|refine ac ?_|refine bf ?_|refine aD ?_|refine ax rfl ?_|(apply ai;exact rfl;exact rfl;exact rfl)|(apply ah;exact rfl;exact rfl;exact rfl)|(apply aQ;exact rfl;exact rfl;exact rfl;exact rfl)|(refine cH rfl rfl (F.un _ rfl) rfl hb ?_)))
 refine db (α:=Nat) (fun j=> [(0,s),(4,.sc (.int .u64 (beN (bs.take j):Int))),(15,s),(16,.sc (.int .i64 ((byV bs).length:Int))),(17,.sc (.int .i64 (j:Int)))]) (fun j H1 n1=>H1=H∧n1=nx∧j≤bs.length) (fun j=>bs.length-j) 0
  ⟨rfl,rfl,ti _⟩ (SlIn.sub (by repeat(first|exact trivial|refine⟨rfl,?_⟩))) ?_
 rintro j H1 n1 ⟨rfl,rfl,h3⟩ ih
 (repeat(first|refine an ?_|refine ae ?_))
 (apply bC;exact rfl;exact rfl;exact rfl;exact rfl)
 all_goals intro h4
 ·have hj:j<bs.length:=by omega
  have hlt:=nN (bs.take j)
  rw [List.length_take,Nat.min_eq_left (by omega)] at hlt
  have hp:256 ^ j≤256 ^ 7:=Nat.pow_le_pow_right (by decide) (by omega)
  have hn:beN (bs.take j)<72057594037927936:=Nat.lt_of_lt_of_le hlt hp
  (repeat(first|refine an ?_|refine ae ?_|refine ac ?_|refine bf ?_|refine aD ?_|refine ay rfl ?_))
  refine rK (j:=j) rfl rfl rfl rfl (F.un _ rfl) (F.sz _ rfl) hb (by omega) ?_
  intro b o vo hvo hcell
  rw [qO] at hcell
  have hc:=(bs[j]).toNat_lt
  (repeat(first|refine ae ?_|refine ac ?_|refine bw ?_|(apply ai;exact rfl;exact rfl;exact rfl)|(apply ah;exact rfl;exact rfl;exact rfl)|(apply cn;exact rfl;exact rfl;exact rfl;exact rfl;(focus(omega));(focus(omega)))|(refine fG rfl rfl rfl (F.ag _ rfl) hvo hcell ?_)|((apply rG;exact rfl;exact rfl;exact rfl;exact rfl;(focus(decide));exact(shl8 hn)))|(apply gi;exact rfl;exact rfl;exact rfl;exact(F.un _ rfl);exact(F.un _ rfl);exact(show _=((bs[j].toNat:Nat):Int)from Go.IntWalk.u64_in _ ⟨by omega,by omega⟩))|((apply rQ;exact rfl;exact rfl;exact rfl;exact rfl;exact(.inr (.inl rfl));exact(or8 hn hc)))))
  refine ih _ _ _ (j+1) ⟨rfl,rfl,by omega⟩ (by omega) ?_
  rw [o3 hj]
  exact SlIn.sub (by repeat(first|exact trivial|refine⟨rfl,?_⟩))
 ·obtain rfl:j=bs.length:=by omega
  rw [List.take_length]
  (repeat(first|refine an ?_|refine ae ?_|refine ac ?_|refine bZ rfl ?_|refine ax rfl ?_|(apply ai;exact rfl;exact rfl;exact rfl)|(apply ah;exact rfl;exact rfl;exact rfl)))
  ((apply aP Try.func68 (congrArg Array.toList Try.results68));(focus(repeat(first|exact ResIs.nil|apply ResIs.tmp rfl))))
  rfl
def beB(n size:Nat):List UInt8:=(List.range size).map fun i=>UInt8.ofNat (n / 256 ^ (size-1-i))
theorem cc(n size:Nat):(beB n size).length=size:=by simp [beB]
theorem shrB{n k:Nat}{b:Int}(hb:b=8*(k:Int))(hk:k<8):((n:Nat):Int).fdiv (2 ^ (min b.toNat IntKind.u64.bits))=((n / 256 ^ k:Nat):Int):=by
 have e:min b.toNat IntKind.u64.bits=8*k:=by
  have:IntKind.u64.bits=64:=rfl
  omega
 rw [e,Int.natCast_ediv]
 have:(2:Int) ^ (8*k)=((256 ^ k:Nat):Int):=by
  rw [Int.pow_mul]
  simp
 rw [this,Int.fdiv_eq_ediv_of_nonneg _ (Int.natCast_nonneg _)]
theorem pP(q:Nat):IntKind.u8.wrap ((q:Nat):Int)=((UInt8.ofNat q).toNat:Int):=by
 simp [IntKind.wrap,IntKind.bits,IntKind.signed]
theorem kS{n size i:Nat}(hi:i<size):(beB n size).take (i+1)=(beB n size).take i ++ [UInt8.ofNat (n / 256 ^ (size-1-i))]:=by
 rw [List.take_add_one,sY (by rw [cc];exact hi)]
 simp [beB]
theorem qg{H:ar}{nx n size:Nat}(hn:n<256 ^ size)(h1:1≤size)(h2:size≤8)(hn2:n≤18446744073709551615):Fnc Try.prog 32 [.sc (.int .u64 (n:Int)),.sc (.int .i64 (size:Int))] H nx
 (fun q=>q.1 = .tup [.slu nx 0 size,.sc (.int .i64 0)]∧q.2.1.at' nx=some (dat false size 1 5 (byV (beB n size)))∧q.2.2=nx+1∧ ∀ m,m<nx→q.2.1.at' m=H.at' m):=by
 refine Fnc.start Try.func32 rfl rfl ?_
 (repeat(first|refine an ?_|refine ae ?_|refine ac ?_|(apply ai;exact rfl;exact rfl;exact rfl)|(apply ah;exact rfl;exact rfl;exact rfl)))
 refine bC rfl rfl rfl rfl (fun hq=>absurd hq (by omega)) (fun _=>?_)
 (repeat(apply ai;exact rfl;exact rfl;exact rfl))
 refine cp rfl rfl rfl rfl (fun hq=>absurd hq (by omega)) (fun _=>?_)
 (repeat(first|(apply ai;exact rfl;exact rfl;exact rfl)|(apply aQ;exact rfl;exact rfl;exact rfl;exact rfl)))
 (apply bC;exact rfl;exact rfl;exact rfl;exact rfl)
 all_goals intro hs
 ·have hz:n / 256 ^ size=0:=Nat.div_eq_of_lt hn
  (repeat(first|(apply ai;exact rfl;exact rfl;exact rfl)|(apply je;exact rfl;exact rfl;exact rfl;exact rfl;(focus(omega));(focus(omega)))|((apply kG;exact rfl;exact rfl;exact rfl;exact rfl;(focus(omega));exact(shrB rfl (by omega))))))
  refine cS rfl rfl rfl rfl (fun hq=>absurd (by rw [hz];rfl) hq) (fun _=>?_)
  (repeat(first|refine an ?_|refine ae ?_|refine ac ?_|refine bf ?_|refine aD ?_|refine ax rfl ?_|(apply ai;exact rfl;exact rfl;exact rfl)|(apply ah;exact rfl;exact rfl;exact rfl)|(apply bp;exact rfl;exact rfl;exact rfl;exact rfl)|(apply aQ;exact rfl;exact rfl;exact rfl;exact rfl)|(apply ip;exact rfl;exact rfl;exact rfl;exact(F.un _ rfl))|((apply io (z:= .int .u8 0) (bb:=1) (n:=size) (m:=size);exact rfl;exact rfl;exact(F.un _ rfl);exact(F.sz _ rfl);exact(F.ze _ rfl);(focus(kernel_rfl));exact rfl;exact rfl;exact rfl;exact(th _);(focus(omega));(focus(omega))))))
  refine db (α:=Nat) (fun i=> [(0,.sc (.int .u64 (n:Int))),(1,.sc (.int .i64 (size:Int))),(6,.slu nx 0 size),(28,.sc (.int .i64 (size:Int))),(29,.sc (.int .i64 (i:Int)))]) (fun i H1 n1=>n1=nx+1∧i≤size∧H1.at' nx=some (dat false size 1 5 (byV ((beB n size).take i) ++ List.replicate (size-i) (.int .u8 0)))∧ ∀ m,m<nx→H1.at' m=H.at' m) (fun i=>size-i) 0 ⟨rfl,ti _,by rw [Tr.ab];simp,fun m hm=>Tr.aa _ _ (by omega)⟩ (SlIn.sub (by repeat(first|exact trivial|refine⟨rfl,?_⟩))) ?_
  rintro i H1 n1 ⟨rfl,h3,h4,h5⟩ ih
  (repeat(first|refine an ?_|refine ae ?_))
  (apply bC;exact rfl;exact rfl;exact rfl;exact rfl)
  all_goals intro h6
  ·have hi:i<size:=by omega
   have hl1:(byV ((beB n size).take i)).length=i:=by rw [List.length_map,List.length_take,cc];omega
   (repeat(first|refine an ?_|refine ae ?_|refine ac ?_|refine bf ?_|refine aD ?_|refine ay rfl ?_|(apply ai;exact rfl;exact rfl;exact rfl)|(apply ah;exact rfl;exact rfl;exact rfl)|(apply jd;exact rfl;exact rfl;exact rfl;exact rfl;(focus(omega));(focus(omega)))|(apply je;exact rfl;exact rfl;exact rfl;exact rfl;(focus(omega));(focus(omega)))|((apply kG;exact rfl;exact rfl;exact rfl;exact rfl;(focus(omega));exact(shrB (k:=size-1-i) (by omega) (by omega))))|(apply gi;exact rfl;exact rfl;exact rfl;exact(F.un _ rfl);exact(F.un _ rfl);exact(pP _))|(refine kI (q:=i) rfl rfl rfl rfl (F.un _ rfl) (F.sz _ rfl) h4 rfl hi (th _) ?_)))
   refine kF (vs:= [.int .u8 ((UInt8.ofNat (n / 256 ^ (size-1-i))).toNat:Int)]) (cs':=byV ((beB n size).take (i+1)) ++ List.replicate (size-(i+1)) (.int .u8 0)) rfl rfl rfl rfl (F.sz _ rfl) h4 rfl (by omega) (by rw [tp,hl1,List.length_replicate];omega) (fun v hv=>by rw [List.mem_singleton.1 hv];rfl) ?_ ?_
   ·rw [kS hi,Nat.mul_one,List.take_left' hl1,←List.drop_drop,List.drop_left' hl1,List.drop_replicate,show size-(i+1)=size-i-1 from(Nat.sub_sub _ _ _).symm]
    simp only [byV,tq,tj,List.map_nil]
   ·(repeat(first|refine ae ?_|refine ac ?_|refine bw ?_|(apply ai;exact rfl;exact rfl;exact rfl)|(apply cn;exact rfl;exact rfl;exact rfl;exact rfl;(focus(omega));(focus(omega)))))
    refine ih _ _ _ (i+1) ⟨rfl,hi,Tr.ab _ _ _,fun m hm=>(Tr.aa _ _ (by omega)).trans (h5 m hm)⟩ (by omega) (SlIn.sub (by repeat(first|exact trivial|refine⟨rfl,?_⟩)))
  ·obtain rfl:i=size:=by omega
   rw [Nat.sub_self,List.replicate_zero,List.append_nil,s9 (by rw [cc];exact th _)] at h4
   (repeat(first|refine an ?_|refine ae ?_|refine ac ?_|refine bZ rfl ?_|refine ax rfl ?_|(apply ai;exact rfl;exact rfl;exact rfl)|(apply ah;exact rfl;exact rfl;exact rfl)))
   ((apply aP Try.func32 (congrArg Array.toList Try.results32));(focus(repeat(first|exact ResIs.nil|apply ResIs.tmp rfl))))
   exact⟨rfl,h4,rfl,h5⟩
 ·(repeat(first|refine an ?_|refine ae ?_|refine ac ?_|refine bf ?_|refine aD ?_|refine ax rfl ?_|(apply ai;exact rfl;exact rfl;exact rfl)|(apply ah;exact rfl;exact rfl;exact rfl)|(apply aQ;exact rfl;exact rfl;exact rfl;exact rfl)|(apply dF;exact rfl)|(apply ip;exact rfl;exact rfl;exact rfl;exact(F.un _ rfl))|((apply io (z:= .int .u8 0) (bb:=1) (n:=size) (m:=size);exact rfl;exact rfl;exact(F.un _ rfl);exact(F.sz _ rfl);exact(F.ze _ rfl);(focus(kernel_rfl));exact rfl;exact rfl;exact rfl;exact(th _);(focus(omega));(focus(omega))))))
  refine db (α:=Nat) (fun i=> [(0,.sc (.int .u64 (n:Int))),(1,.sc (.int .i64 (size:Int))),(6,.slu nx 0 size),(28,.sc (.int .i64 (size:Int))),(29,.sc (.int .i64 (i:Int)))]) (fun i H1 n1=>n1=nx+1∧i≤size∧H1.at' nx=some (dat false size 1 5 (byV ((beB n size).take i) ++ List.replicate (size-i) (.int .u8 0)))∧ ∀ m,m<nx→H1.at' m=H.at' m) (fun i=>size-i) 0 ⟨rfl,ti _,by rw [Tr.ab];simp,fun m hm=>Tr.aa _ _ (by omega)⟩ (SlIn.sub (by repeat(first|exact trivial|refine⟨rfl,?_⟩))) ?_
  rintro i H1 n1 ⟨rfl,h3,h4,h5⟩ ih
  (repeat(first|refine an ?_|refine ae ?_))
  (apply bC;exact rfl;exact rfl;exact rfl;exact rfl)
  all_goals intro h6
  ·have hi:i<size:=by omega
   have hl1:(byV ((beB n size).take i)).length=i:=by rw [List.length_map,List.length_take,cc];omega
   (repeat(first|refine an ?_|refine ae ?_|refine ac ?_|refine bf ?_|refine aD ?_|refine ay rfl ?_|(apply ai;exact rfl;exact rfl;exact rfl)|(apply ah;exact rfl;exact rfl;exact rfl)|(apply jd;exact rfl;exact rfl;exact rfl;exact rfl;(focus(omega));(focus(omega)))|(apply je;exact rfl;exact rfl;exact rfl;exact rfl;(focus(omega));(focus(omega)))|((apply kG;exact rfl;exact rfl;exact rfl;exact rfl;(focus(omega));exact(shrB (k:=size-1-i) (by omega) (by omega))))|(apply gi;exact rfl;exact rfl;exact rfl;exact(F.un _ rfl);exact(F.un _ rfl);exact(pP _))|(refine kI (q:=i) rfl rfl rfl rfl (F.un _ rfl) (F.sz _ rfl) h4 rfl hi (th _) ?_)))
   refine kF (vs:= [.int .u8 ((UInt8.ofNat (n / 256 ^ (size-1-i))).toNat:Int)]) (cs':=byV ((beB n size).take (i+1)) ++ List.replicate (size-(i+1)) (.int .u8 0)) rfl rfl rfl rfl (F.sz _ rfl) h4 rfl (by omega) (by rw [tp,hl1,List.length_replicate];omega) (fun v hv=>by rw [List.mem_singleton.1 hv];rfl) ?_ ?_
   ·rw [kS hi,Nat.mul_one,List.take_left' hl1,←List.drop_drop,List.drop_left' hl1,List.drop_replicate,show size-(i+1)=size-i-1 from(Nat.sub_sub _ _ _).symm]
    simp only [byV,tq,tj,List.map_nil]
   ·(repeat(first|refine ae ?_|refine ac ?_|refine bw ?_|(apply ai;exact rfl;exact rfl;exact rfl)|(apply cn;exact rfl;exact rfl;exact rfl;exact rfl;(focus(omega));(focus(omega)))))
    refine ih _ _ _ (i+1) ⟨rfl,hi,Tr.ab _ _ _,fun m hm=>(Tr.aa _ _ (by omega)).trans (h5 m hm)⟩ (by omega) (SlIn.sub (by repeat(first|exact trivial|refine⟨rfl,?_⟩)))
  ·obtain rfl:i=size:=by omega
   rw [Nat.sub_self,List.replicate_zero,List.append_nil,s9 (by rw [cc];exact th _)] at h4
   (repeat(first|refine an ?_|refine ae ?_|refine ac ?_|refine bZ rfl ?_|refine ax rfl ?_|(apply ai;exact rfl;exact rfl;exact rfl)|(apply ah;exact rfl;exact rfl;exact rfl)))
   ((apply aP Try.func32 (congrArg Array.toList Try.results32));(focus(repeat(first|exact ResIs.nil|apply ResIs.tmp rfl))))
   exact⟨rfl,h4,rfl,h5⟩
end Go.Proofs.Ytnhmbonmlfeifaa
end
section
namespace Go.Sy
open Go Go.Sl Go.RowKit
section
variable {P:Program}
theorem St.drop{K:Zone}{w0 w w1:World}{e e1:Env}{H H1:ar}{nx nx1:Nat}(hS:St K w0 e H nx w)(hle:e.le e1)(hS1:St K w0 e1 H1 nx1 w1)(hk: ∀ m,m<nx→H1.at' m=H.at' m):St K w0 e H nx w1:=by
 refine⟨hS1.below,fun m vo h=>?_,hS.inj,hS.fresh⟩
 obtain⟨x0,hx0,hl0⟩:=hS.rel m vo h
 have hm:m<nx:=by
  rcases Nat.lt_or_ge m nx with q|q
  ·exact q
  ·rw [hS.fresh m q] at hx0;cases hx0
 obtain⟨x,hx,hl⟩:=hS1.rel m vo ((hk m hm).trans h)
 have:=hle m x0 hx0
 rw [hx] at this
 cases this
 exact⟨_,hx0,lB hle (Env.le_refl e) hl0 hl⟩
end
section
variable {P:Program}
def Free(v:SV):Prop:= ∀ e e' u,v.conc e=some u→v.conc e'=some u
theorem Free.sc(v:Value):Free (.sc v):=fun _ _ _ h=>h
theorem Free.agg(vs:List Value):Free (.agg (vs.map .sc)):=fun e e' u h=>by
 rw [SV.conc,cm] at h ⊢
 exact h
theorem Free.two{a b:SV}(ha:Free a)(hb:Free b):Free (.tup [a,b]):=fun e e' u h=>by
 simp only [SV.conc,SV.aq] at h ⊢
 cases h1:a.conc e with
 | none=>rw [h1] at h;simp at h
 | some x=>
   cases h2:b.conc e with
   | none=>rw [h1,h2] at h;simp at h
   | some y=>
     rw [h1,h2] at h
     rw [ha e e' x h1,hb e e' y h2]
     exact h
theorem Fnc.bT{f:FuncId}{args:List SV}{H:ar}{nx:Nat}{v:SV}(hv:Free v)(h:Fnc P f args H nx (fun q=>q.1=v∧nx≤q.2.2∧ ∀ n,n<nx→q.2.1.at' n=H.at' n)):Fnc P f args H nx (fun q=>q=(v,H,nx)):=by
 unfold Fnc eM at h ⊢
 rcases h with ⟨h1,u,r,h2,⟨q1,q2,q3⟩,h4⟩|h
 ·refine .inl ⟨h1,u,_,h2,rfl,fun K w0 e w hS=>?_⟩
  obtain⟨e',g1,g2,g3⟩:=h4 K w0 e w hS
  rw [q1] at g3
  exact⟨e,Env.le_refl e,hS.drop g1 g2 q3,hv _ _ _ g3⟩
 ·refine .inr ?_
  split at h
  ·refine⟨fun K w0 e w tmps todo ds kd rof cs hS a2 a3 a4 a5=>?_⟩
   obtain⟨r,⟨q1,q2,q3⟩,e',w',u,g1,g2,g3,g4⟩:=Wp.run h K w0 e w tmps todo ds kd rof cs hS a2 a3 a4 a5
   rw [q1] at g3
   exact⟨_,rfl,e,w',u,Env.le_refl e,hS.drop g1 g2 q3,hv _ _ _ g3,g4⟩
  ·exact h.elim
end
end Go.Sy
end
section
namespace Go.Proofs.Ytnhmbonmlfeifaa
open Go Go.Sy Go.Sl Go.RowKit
abbrev pgS(p:List UInt8):List SV:=(byV p).map .sc
abbrev pgO(p:List UInt8):VO:=am 47 (pgS p)
theorem aG{p:List UInt8}{n:Nat}(h:p.length=n):(pgS p).length=n:=by simpa using h
def eZ(p:List UInt8)(o:Nat)(l:List UInt8):List UInt8:=p.take o ++ l ++ p.drop (o+l.length)
theorem eY{p:List UInt8}{o:Nat}{l:List UInt8}(h:o+l.length≤p.length):(eZ p o l).length=p.length:=by
 unfold eZ
 simp only [tp,List.length_take,List.length_drop]
 omega
def jZ(p:List UInt8)(at':Nat):Nat:=beN ((p.drop at').take 2)
def ja(p:List UInt8)(at' n:Nat):List UInt8:=eZ p at' (beB n 2)
theorem c7{p:List UInt8}{o n:Nat}(h:o+2≤p.length):(ja p o n).length=p.length:=eY (by rw [cc];exact h)
theorem eF(p:List UInt8)(o:Nat):jZ p o<65536:=by
 have h1:=nN ((p.drop o).take 2)
 have h2:((p.drop o).take 2).length≤2:=by rw [List.length_take];omega
 have h3:256 ^ ((p.drop o).take 2).length≤256 ^ 2:=Nat.pow_le_pow_right (by decide) h2
 unfold jZ
 omega
theorem oC{p:List UInt8}{i:Nat}(hi:i<p.length):(pgO p).cell i=some (.sc (.int .u8 ((p[i]).toNat:Int))):=bk (by simp [hi])
theorem kf{p:List UInt8}{o:Nat}{l:List UInt8}{n:Nat}(hn:(byV l).length=n):(pgS p).take o ++ (byV l).map .sc ++ (pgS p).drop (o+n)=pgS (eZ p o l):=by
 subst hn
 unfold eZ
 simp [List.map_take,List.map_drop]
theorem kB{H:ar}{b o m C:Nat}{p:List UInt8}(hb:H.at' b=some (pgO p))(h:o+m≤p.length):BsIs H (.sl b o m C) (byV ((p.drop o).take m)):=by
 have hl:(byV ((p.drop o).take m)).length=m:=by simp;omega
 refine⟨fun v hv=>?_,.inr (.inr ⟨b,o,C,_,by rw [hl],hb,?_⟩)⟩
 ·obtain⟨c,_,rfl⟩:=List.mem_map.1 hv
  rfl
 ·rw [hl]
  exact aL _ o (by simp [List.map_take,List.map_drop]) (by simpa using hl)
theorem ib{H:ar}{r n:Nat}{ro:Bool}{l:List UInt8}(hb:H.at' r=some (dat ro n 1 5 (byV l)))(hn:l.length=n):BsIs H (.slu r 0 n) (byV l):=
 BsIs.row (fun v hv=>by obtain⟨c,_,rfl⟩:=List.mem_map.1 hv;rfl) hb (by simpa using hn)
theorem fV{H:ar}{nx b:Nat}{p:List UInt8}(hb:H.at' b=some (pgO p))(hp:p.length=1024){o:Nat}(ho:o+2≤1024):Fnc Try.prog 67 [.ptr b 0,.sc (.int .i64 (o:Int))] H nx (fun q=>q=(.sc (.int .i64 (jZ p o:Int)),H,nx)):=by
 have hl:((p.drop o).take 2).length=2:=by simp;omega
 have hlt:=eF p o
 have hg: ∀ {nx C:Nat},Fnc Try.prog 68 [.sl b o 2 C] H nx (fun q=>q=(.tup [.sc (.int .u64 (jZ p o:Int)),.sc (.int .i64 0)],H,nx)):=sF (kB hb (by omega)) (by omega) (by omega)
 refine Fnc.start Try.func67 rfl rfl ?_
 (repeat(first|refine an ?_|refine ae ?_|refine ac ?_|(apply ai;exact rfl;exact rfl;exact rfl)|(apply ah;exact rfl;exact rfl;exact rfl)|(apply aH;exact rfl;exact rfl;exact rfl;exact rfl)|(apply bG;exact rfl;exact rfl;exact rfl)|(apply cn;exact rfl;exact rfl;exact rfl;exact rfl;(focus(omega));(focus(omega)))|((apply gh (lw:=o) (hg:=o+2);exact rfl;exact rfl;exact rfl;exact(F.un _ rfl);exact(F.sz _ rfl);exact rfl;exact rfl;(focus(omega));(focus(omega));(focus(omega));exact(show o+2-o=2 by omega);exact rfl;exact(Nat.zero_add o)))|(refine au rfl rfl rfl (by kernel_rfl) (Fnc.mono (hg) ?_);rintro _ rfl;dsimp only)|(apply gi;exact rfl;exact rfl;exact rfl;exact(F.un _ rfl);exact(F.un _ rfl);exact(show _=((jZ p o:Nat):Int)from sX _ ⟨by omega,by omega⟩))))
 ((apply aP Try.func67 (congrArg Array.toList Try.results67));(focus(repeat(first|exact ResIs.nil|apply ResIs.tmp rfl))))
 rfl
abbrev aE(p:List UInt8):Nat:=jZ p 14
abbrev aS(p:List UInt8):Nat:=jZ p 16
theorem eC{H:ar}{nx b:Nat}{p:List UInt8}(hb:H.at' b=some (pgO p))(hp:p.length=1024):Fnc Try.prog 45 [.ptr b 0] H nx (fun q=>q=(.sc (.int .i64 (aE p:Int)),H,nx)):=by
 refine Fnc.start Try.func45 rfl rfl ?_
 (repeat(first|refine an ?_|refine ae ?_|refine ac ?_|(apply ai;exact rfl;exact rfl;exact rfl)|(apply ah;exact rfl;exact rfl;exact rfl)|(refine au rfl rfl rfl (by kernel_rfl) (Fnc.mono (fV (o:=14) hb hp (by decide)) ?_);rintro _ rfl;dsimp only)))
 ((apply aP Try.func45 (congrArg Array.toList Try.results45));(focus(repeat(first|exact ResIs.nil|apply ResIs.tmp rfl))))
 rfl
theorem iX{H:ar}{nx b:Nat}{p:List UInt8}(hb:H.at' b=some (pgO p))(hp:p.length=1024):Fnc Try.prog 50 [.ptr b 0] H nx (fun q=>q=(.sc (.int .i64 (aS p:Int)),H,nx)):=by
 refine Fnc.start Try.func50 rfl rfl ?_
 (repeat(first|refine an ?_|refine ae ?_|refine ac ?_|(apply ai;exact rfl;exact rfl;exact rfl)|(apply ah;exact rfl;exact rfl;exact rfl)|(refine au rfl rfl rfl (by kernel_rfl) (Fnc.mono (fV (o:=16) hb hp (by decide)) ?_);rintro _ rfl;dsimp only)))
 ((apply aP Try.func50 (congrArg Array.toList Try.results50));(focus(repeat(first|exact ResIs.nil|apply ResIs.tmp rfl))))
 rfl
abbrev qY(f:Nat):SV:= .fn (.func 72) [] [.ptr f 0]
abbrev pA(b:Nat):VO:=am 90 [.ptr b 0]
theorem fY{H:ar}{nx b:Nat}:Fnc Try.prog 61 [.ptr b 0] H nx (fun q=>q=(qY nx,H.set nx (pA b),nx+1)):=by
 refine Fnc.start Try.func61 rfl rfl ?_
 (repeat(first|refine an ?_|refine ae ?_|refine ac ?_|(apply ah;exact rfl;exact rfl;exact rfl)|(apply bH;exact rfl;exact rfl;exact rfl;exact rfl)|(apply rP;exact rfl;exact rfl;exact rfl;exact rfl)))
 ((apply aP Try.func61 (congrArg Array.toList Try.results61));(focus(repeat(first|exact ResIs.nil|apply ResIs.tmp rfl))))
 rfl
abbrev aX(p:List UInt8)(n:Nat):Nat:=jZ p (18+4*n)
abbrev a9(p:List UInt8)(n:Nat):Nat:=jZ p (18+4*n+2)
theorem im{H:ar}{nx b f n:Nat}{p:List UInt8}(hf:H.at' f=some (pA b))(hb:H.at' b=some (pgO p))(hp:p.length=1024)(hn:18+4*n+4≤1024):Fnc Try.prog 72 [.sc (.int .i64 (n:Int)),.ptr f 0] H nx
 (fun q=>q=(.tup [.sc (.int .i64 (aX p n:Int)),.sc (.int .i64 (a9 p n:Int))],H,nx)):=by
 have h1: ∀ nx,Fnc Try.prog 67 [.ptr b 0,.sc (.int .i64 (18+4*(n:Int)))] H nx (fun q=>q=(.sc (.int .i64 (aX p n:Int)),H,nx)):=fun nx=>by
  have:=fV (nx:=nx) (o:=18+4*n) hb hp (by omega)
  rw [show((18+4*n:Nat):Int)=18+4*(n:Int) by omega] at this
  exact this
 have h2: ∀ nx,Fnc Try.prog 67 [.ptr b 0,.sc (.int .i64 (18+4*(n:Int)+2))] H nx (fun q=>q=(.sc (.int .i64 (a9 p n:Int)),H,nx)):=fun nx=>by
  have:=fV (nx:=nx) (o:=18+4*n+2) hb hp (by omega)
  rw [show((18+4*n+2:Nat):Int)=18+4*(n:Int)+2 by omega] at this
  exact this
 refine Fnc.start Try.func72 rfl rfl ?_
 (repeat(first|refine an ?_|refine ae ?_|refine ac ?_|(apply ai;exact rfl;exact rfl;exact rfl)|(apply ah;exact rfl;exact rfl;exact rfl)|(apply cn;exact rfl;exact rfl;exact rfl;exact rfl;(focus(omega));(focus(omega)))|(apply je;exact rfl;exact rfl;exact rfl;exact rfl;(focus(omega));(focus(omega)))))
 (apply rM;(focus(kernel_rfl));(focus(kernel_rfl)))
 (repeat(first|(apply kq;exact rfl;exact rfl;exact rfl)|(apply nE;exact rfl;exact rfl;exact rfl)|(apply sO;exact rfl;exact rfl;exact rfl;exact rfl;(focus(omega));(focus(omega)))|(refine jL rfl rfl rfl (F.ag _ rfl) hf rfl ?_)|((apply kr;exact rfl;exact rfl;exact rfl;(focus(kernel_rfl));exact(h1 _)))|((apply kr;exact rfl;exact rfl;exact rfl;(focus(kernel_rfl));exact(h2 _)))))
 (refine ll ?_);(refine⟨by kernel_rfl,?_,?_⟩);(focus(repeat(first|exact trivial|refine⟨.inl rfl,?_⟩|refine⟨.inr (by(repeat(refine⟨(by first|exact eX rfl rfl (.inl ⟨rfl,(sX _ ⟨by omega,by omega⟩).symm⟩)|exact gr rfl|exact gu rfl|exact dV (F.ag _ rfl) rfl (by assumption) (bk rfl)),?_⟩));exact trivial),?_⟩)))
 ((apply aP Try.func72 (congrArg Array.toList Try.results72));(focus(repeat(first|exact ResIs.nil|apply ResIs.tmp rfl))))
 rfl
theorem lM{H:ar}{nx b:Nat}{p:List UInt8}(hb:H.at' b=some (pgO p))(hp:p.length=1024){o n:Nat}(ho:o+2≤1024)(hn:n<65536):Fnc Try.prog 47 [.ptr b 0,.sc (.int .i64 (o:Int)),.sc (.int .i64 (n:Int))] H nx
 (fun q=>q.1 = .tup []∧q.2.1.at' b=some (pgO (ja p o n))∧nx≤q.2.2∧ ∀ m,m<nx→m≠b→q.2.1.at' m=H.at' m):=by
 refine Fnc.start Try.func47 rfl rfl ?_
 refine bv fun hund=>?_
 have hlt:=hund _ _ hb
 (repeat(first|refine an ?_|refine ae ?_|(apply ai;exact rfl;exact rfl;exact rfl)|(apply gi;exact rfl;exact rfl;exact rfl;exact(F.un _ rfl);exact(F.un _ rfl);exact(show _=((n:Nat):Int)from Go.IntWalk.u64_in _ ⟨by omega,by omega⟩))))
 refine au rfl rfl rfl (by kernel_rfl) (Fnc.mono (qg (n:=n) (size:=2) (by omega) (by decide) (by decide) (by omega)) ?_)
 rintro⟨_,H2,n2⟩ ⟨rfl,h2,rfl,h4⟩
 dsimp only at h2 h4 ⊢
 have hb2:=(h4 b hlt).trans hb
 (repeat(first|refine an ?_|refine ae ?_|refine ac ?_|refine ay rfl ?_|(apply ai;exact rfl;exact rfl;exact rfl)|(apply ah;exact rfl;exact rfl;exact rfl)|(apply aH;exact rfl;exact rfl;exact rfl;exact rfl)|(apply bG;exact rfl;exact rfl;exact rfl)|(apply cn;exact rfl;exact rfl;exact rfl;exact rfl;(focus(omega));(focus(omega)))|((apply gh (lw:=o) (hg:=o+2);exact rfl;exact rfl;exact rfl;exact(F.un _ rfl);exact(F.sz _ rfl);exact rfl;exact rfl;(focus(omega));(focus(omega));(focus(omega));exact(show o+2-o=2 by omega);exact rfl;exact(Nat.zero_add o)))|((apply rL;exact rfl;exact rfl;exact rfl;exact rfl))))
 refine j9 rfl rfl rfl rfl (F.un _ rfl) (F.sz _ rfl) hb2 (ib h2 (by rw [cc])) (by simp [cc]) (by simp [cc];omega) ?_
 (repeat(refine ac ?_))
 ((apply gg Try.func47 (congrArg Array.toList Try.results47));(focus(repeat(exact ResIs.nil))))
 refine⟨rfl,?_,tz _,fun m hm hmb=>(Tr.aa _ _ hmb).trans (h4 m hm)⟩
 rw [Tr.ab,kf (by simp [cc])]
 rfl
def ew(p:List UInt8)(n a s:Nat):List UInt8:=ja (ja p (18+4*n) a) (18+4*n+2) s
theorem g9{p:List UInt8}{n a s:Nat}(h:18+4*n+4≤p.length):(ew p n a s).length=p.length:=by
 unfold ew
 rw [c7,c7 (by omega)]
 rw [c7 (by omega)]
 omega
theorem mU{H:ar}{nx b:Nat}{p:List UInt8}(hb:H.at' b=some (pgO p))(hp:p.length=1024){n a s:Nat}(hn:18+4*n+4≤1024)(ha:a<65536)(hs:s<65536):Fnc Try.prog 46 [.ptr b 0,.sc (.int .i64 (n:Int)),.sc (.int .i64 (a:Int)),.sc (.int .i64 (s:Int))] H nx
 (fun q=>q.1 = .tup []∧q.2.1.at' b=some (pgO (ew p n a s))∧nx≤q.2.2∧ ∀ m,m<nx→m≠b→q.2.1.at' m=H.at' m):=by
 have h1: ∀ {H:ar} {nx:Nat},H.at' b=some (pgO p)→Fnc Try.prog 47 [.ptr b 0,.sc (.int .i64 (18+4*(n:Int))),.sc (.int .i64 (a:Int))] H nx _:=fun {H nx} hb=>by
  have:=lM (nx:=nx) (o:=18+4*n) hb hp (by omega) ha
  rw [show((18+4*n:Nat):Int)=18+4*(n:Int) by omega] at this
  exact this
 have h2: ∀ {H:ar} {nx:Nat},H.at' b=some (pgO (ja p (18+4*n) a))→Fnc Try.prog 47 [.ptr b 0,.sc (.int .i64 (18+4*(n:Int)+2)),.sc (.int .i64 (s:Int))] H nx _:=fun {H nx} hb=>by
  have:=lM (nx:=nx) (o:=18+4*n+2) hb (by rw [c7 (by omega)];exact hp) (by omega) hs
  rw [show((18+4*n+2:Nat):Int)=18+4*(n:Int)+2 by omega] at this
  exact this
 refine Fnc.start Try.func46 rfl rfl ?_
 refine bv fun hund=>?_
 have hlt:=hund _ _ hb
 (repeat(first|refine an ?_|refine ae ?_|(apply ai;exact rfl;exact rfl;exact rfl)|(apply cn;exact rfl;exact rfl;exact rfl;exact rfl;(focus(omega));(focus(omega)))|(apply je;exact rfl;exact rfl;exact rfl;exact rfl;(focus(omega));(focus(omega)))))
 refine au rfl rfl rfl (by kernel_rfl) (Fnc.mono (h1 hb) ?_)
 rintro⟨_,H2,n2⟩ ⟨rfl,g2,g3,g4⟩
 dsimp only at g2 g3 g4 ⊢
 (repeat(first|refine ae ?_|refine ac ?_|(apply ai;exact rfl;exact rfl;exact rfl)|(apply cn;exact rfl;exact rfl;exact rfl;exact rfl;(focus(omega));(focus(omega)))|(apply je;exact rfl;exact rfl;exact rfl;exact rfl;(focus(omega));(focus(omega)))))
 refine au rfl rfl rfl (by kernel_rfl) (Fnc.mono (h2 g2) ?_)
 rintro⟨_,H3,n3⟩ ⟨rfl,k2,k3,k4⟩
 dsimp only at k2 k3 k4 ⊢
 (repeat(refine ac ?_))
 ((apply gg Try.func46 (congrArg Array.toList Try.results46));(focus(repeat(exact ResIs.nil))))
 exact⟨rfl,k2,tw g3 k3,fun m hm hmb=>(k4 m (by omega) hmb).trans (g4 m hm hmb)⟩
theorem ni{H:ar}{nx n:Nat}:Fnc Try.prog 48 [.sc (.int .i64 (n:Int))] H nx (fun q=>q=(.sc (.bool (decide (1≤n∧n≤1000))),H,nx)):=by
 refine Fnc.start Try.func48 rfl rfl ?_
 (repeat' (first|refine an ?_|refine ae ?_|refine ac ?_|(apply ai;exact rfl;exact rfl;exact rfl)|(apply ah;exact rfl;exact rfl;exact rfl)|(apply bp;exact rfl;exact rfl;exact rfl;exact rfl)|(apply aQ;exact rfl;exact rfl;exact rfl;exact rfl)|(apply dF;exact rfl)|(refine kJ rfl rfl rfl rfl ?_ ?_ <;> intro hq)|(refine pm rfl rfl rfl rfl ?_ ?_ <;> intro hq2)))
 all_goals((apply aP Try.func48 (congrArg Array.toList Try.results48));(focus(repeat(first|exact ResIs.nil|apply ResIs.tmp rfl))))
 all_goals first|(rw [decide_eq_true (by omega)];rfl)|(rw [decide_eq_false (by omega)];rfl)
def zeroP:List UInt8:=List.replicate 1024 0
theorem aw:zeroP.length=1024:=List.length_replicate
def gD(k:UInt8):List UInt8:=ja (zeroP.set 12 k) 16 1024
theorem gC(k:UInt8):(gD k).length=1024:=by
 unfold gD
 rw [c7 (by rw [List.length_set,aw];decide),List.length_set,aw]
theorem ik:j3 Try.prog 47=some (pgS zeroP):=by kernel_rfl
theorem cy(a b:List UInt8)(ha:a.length=1024)(hb:b.length=1024):List.take 0 (pgS a) ++ (SV.agg (pgS b)).cells ++ List.drop (0+1024) (pgS a)=pgS b:=by
 rw [List.take_zero,List.nil_append,Nat.zero_add,List.drop_of_length_le (by simp [ha]),List.append_nil]
 rfl
theorem da(p:List UInt8):bz (pgS p)=true:=by
 induction p with
 | nil=>rfl
 | cons c p ih=>exact ih
theorem cq{p:List UInt8}(hp:p.length=1024):(pgO p).cellsFrom 0 1024=some (pgS p):=
 aL _ 0 (by rw [List.drop_zero,s9 (by simp [hp])]) (by simp [hp])
theorem rY(p:List UInt8)(i:Nat)(c:UInt8):(pgS p).set i (.sc (.int .u8 (c.toNat:Int)))=pgS (p.set i c):=by simp [List.map_set]
theorem qo{p:List UInt8}{i:Nat}(hi:i<p.length)(c:UInt8):List.take i (pgS p) ++ (SV.sc (.int .u8 (c.toNat:Int))).cells ++ List.drop (i+1) (pgS p)=pgS (p.set i c):=by
 rw [← rY,List.set_eq_take_append_cons_drop,if_pos (by simpa using hi)]
 simp [SV.cells]
theorem sE{H:ar}{nx:Nat}(k:UInt8):Fnc Try.prog 52 [.sc (.int .u8 (k.toNat:Int))] H nx (fun q=>q.1 = .agg (pgS (gD k))∧nx≤q.2.2∧ ∀ m,m<nx→q.2.1.at' m=H.at' m):=by
 refine Fnc.start Try.func52 rfl rfl ?_
 have hl0:(pgS zeroP).length=1024:=by rw [List.length_map,List.length_map];exact aw
 (repeat(first|refine an ?_|refine ae ?_|refine ac ?_|(apply ai;exact rfl;exact rfl;exact rfl)|refine aI rfl rfl rfl rfl (F.sz _ rfl) (by(repeat(exact Tr.ab _ _ _));done) rfl (by exact s3 rfl) rfl ?_|(refine aZ rfl rfl ik ?_)|(apply gf (q:=12);exact rfl;exact rfl;exact rfl;exact rfl;exact(F.un _ rfl);exact(F.sz _ rfl);(focus(omega));(focus(omega)))))
 rw [qo (p:=zeroP) (i:=0+12*1) (by rw [aw];decide) k,show 0+12*1=12 from rfl]
 refine au rfl rfl rfl (by kernel_rfl) (Fnc.mono (lM (b:=nx+1) (p:=zeroP.set 12 k) (o:=16) (n:=1024) (by(repeat(exact Tr.ab _ _ _));done) (by rw [List.length_set];exact aw) (by decide) (by decide)) ?_)
 rintro⟨_,H2,n2⟩ ⟨rfl,g2,g3,g4⟩
 dsimp only at g2 g3 g4 ⊢
 have hres:H2.at' nx=some (pgO zeroP):=(g4 nx (by omega) (by omega)).trans (by(repeat(first|exact Tr.ab _ _ _|refine(Tr.aa _ _ (by omega)).trans ?_));done)
 have hl:(gD k).length=1024:=gC k
 (repeat(first|refine an ?_|refine ae ?_|refine ac ?_|refine aI rfl rfl rfl rfl (F.sz _ rfl) (by assumption) rfl (by exact s3 rfl) rfl ?_|refine bj rfl rfl rfl (F.ag _ rfl) (by assumption) (by exact rfl) ?_))
 rw [show ja (zeroP.set 12 k) 16 1024=gD k from rfl,cy zeroP (gD k) aw hl]
 ((apply aP Try.func52 (congrArg Array.toList Try.results52));(focus((apply ResIs.cell rfl (LoadIs.many (F.ag _ rfl) (by(repeat(exact Tr.ab _ _ _));done) (cq hl)));(repeat(exact ResIs.nil)))))
 exact⟨rfl,by dsimp only;omega,fun m hm=>(Tr.aa _ _ (by omega)).trans ((g4 m (by omega) (by omega)).trans (by(repeat(refine(Tr.aa _ _ (by omega)).trans ?_));exact rfl))⟩
theorem sD{H:ar}{nx:Nat}(k:UInt8):Fnc Try.prog 52 [.sc (.int .u8 (k.toNat:Int))] H nx (fun q=>q=(.agg (pgS (gD k)),H,nx)):=Fnc.bT (Free.agg _) (sE k)
end Go.Proofs.Ytnhmbonmlfeifaa
end
