import Derived.Test.YtjjgjjlgchidlaaGreatProg
import Derived.Laws.StructEq
import Derived.Sort.AssemblyPlain
import Derived.Test.YtjjgjjlgchidlaaGreatE2
set_option linter.unusedVariables false
set_option linter.unusedSimpArgs false
set_option maxRecDepth 100000
set_option maxHeartbeats 0
section
namespace Go.Sy
open Go Go.Sl Go.RowKit
def OkAll{A:Type}(p:Nat→A→Prop):Nat→List (Option A)→Prop
 | _,[]=>True
 | i,none :: l=>OkAll p (i+1) l
 | i,some x :: l=>p i x∧OkAll p (i+1) l
theorem OkAll.get{A:Type}{p:Nat→A→Prop}: ∀ {l:List (Option A)} {k:Nat},OkAll p k l→ ∀ {i:Nat} {x:A},l[i]? =some (some x)→p (k+i) x
 | [],k,_,i,x,h=>by simp at h
 | none :: l,k,hh,i,x,h=>by
   cases i with
   | zero=>simp at h
   | succ i=>rw [show k+(i+1)=k+1+i by omega];exact OkAll.get (l:=l) (k:=k+1) hh (by simpa using h)
 | some y :: l,k,hh,i,x,h=>by
   cases i with
   | zero=>simp only [zB,zh] at h;subst h;exact hh.1
   | succ i=>rw [show k+(i+1)=k+1+i by omega];exact OkAll.get (l:=l) (k:=k+1) hh.2 (by simpa using h)
def OkL{A:Type}(p:Nat→A→Prop):Nat→List A→Prop
 | _,[]=>True
 | i,x :: l=>p i x∧OkL p (i+1) l
theorem OkL.get{A:Type}{p:Nat→A→Prop}: ∀ {l:List A} {k:Nat},OkL p k l→ ∀ {i:Nat} {x:A},l[i]? =some x→p (k+i) x
 | [],k,_,i,x,h=>by simp at h
 | y :: l,k,hh,i,x,h=>by
   cases i with
   | zero=>simp only [zB,zh] at h;subst h;exact hh.1
   | succ i=>rw [show k+(i+1)=k+1+i by omega];exact OkL.get (l:=l) (k:=k+1) hh.2 (by simpa using h)
inductive LoadIs (P:Program) (H:aJ) (t:TypeId) (b o:Nat):SV→Prop
 | one {vo:VO} {v:SV} (ha:cq P t=some none) (hb:H.at' b=some vo) (hv:vo.cell o=some v):LoadIs P H t b o v
 | many {n:Nat} {vo:VO} {l:List SV} (ha:cq P t=some (some n)) (hb:H.at' b=some vo) (hv:vo.cellsFrom o n=some l):LoadIs P H t b o (.agg l)
inductive ResIs (P:Program) (H:aJ) (T:Tr SV):List ResultVar→List SV→Prop
 | nil:ResIs P H T [] []
 | tmp {t:Tmp} {l:List ResultVar} {v:SV} {vs:List SV} (hv:T.at' t=some v) (h:ResIs P H T l vs):ResIs P H T (.tmp t :: l) (v :: vs)
 | cell {a:Tmp} {t:TypeId} {b o:Nat} {l:List ResultVar} {v:SV} {vs:List SV} (ha:T.at' a=some (.ptr b o)) (hv:LoadIs P H t b o v) (h:ResIs P H T l vs):ResIs P H T (.cell a t :: l) (v :: vs)
theorem ResIs.res{P:Program}{H:aJ}{T:Tr SV}{l:List ResultVar}{vs:List SV}(h:ResIs P H T l vs):mH P H T l=some vs:=by
 induction h with
 | nil=>rfl
 | tmp hv _ ih=>simp only [mH,hv,ih]
 | cell ha hv _ ih=>
   cases hv with
   | one hag hb hv=>simp only [mH,ha,hb,hag,hv,ih]
   | many hag hb hv=>simp only [mH,ha,hb,hag,hv,ih]
section
variable {P:Program} {ro:Option Nat} {fn nt nx:Nat} {T:Tr SV} {k:List AIt} {dfs:List ADf} {H:aJ} {Q:Pst} {ops:Array Oper} {i:Nat} {l:List Oper} {d:Option Tmp} {ty:TypeId} {pos:String} {af:Array Edge} {gd:Option (Nat×Bool)}
theorem Fnc.start{f:FuncId}{F:Func}{args:List SV}{c:Code}{n:Nat}(hf:P.funcs[f]? =some F)(hb:F.body=some c)(hn:F.ntmps=n)(h:Wp P none ⟨f,max args.length n,iH .nil 0 args,[.code c],[],H,nx⟩ Q):Fnc P f args H nx Q:=
 .enter (by simp only [qL,hf,hb]) (by simp only [yL,hf,hn]) h
theorem bf{F:Func}{rl:List ResultVar}{vs:List SV}(hf:P.funcs[fn]? =some F)(hl:F.results.toList=rl)(hv:ResIs P H T rl vs)(h:Q (fw vs,H,nx)):Wp P none ⟨fn,nt,T,.code .ret :: k,[],H,nx⟩ Q:=
 y_ret (by simp only [ej,hf,hl]) hv.res h
theorem fT{F:Func}{rl:List ResultVar}{vs:List SV}(hf:P.funcs[fn]? =some F)(hl:F.results.toList=rl)(hv:ResIs P H T rl vs)(h:Q (fw vs,H,nx)):Wp P none ⟨fn,nt,T,[],[],H,nx⟩ Q:=
 y_end (by simp only [ej,hf,hl]) hv.res h
theorem ae{id:Nat}{ops:List Oper}(h:Wp P ro ⟨fn,nt,T,.inReg ops.toArray 0 ops :: k,dfs,H,nx⟩ Q):Wp P ro ⟨fn,nt,T,.code (.region id ops.toArray false) :: k,dfs,H,nx⟩ Q:=uK h
theorem nC{a b:Int}(h1:0≤a)(h2:a≤9223372036854775807)(h3:0<b):IntKind.i64.wrap (a.tdiv b)=a / b:=by
 rw [Int.tdiv_eq_ediv_of_nonneg h1]
 exact zi _ ⟨Int.le_trans (by decide) (Int.ediv_nonneg h1 (by omega)),Int.le_trans (Int.ediv_le_self _ h1) h2⟩
theorem aC{d:Tmp}{v:SV}(h:Nat.blt d nt=true):gv nt T (some d) v=T.set d v:=by simp only [gv,h,cond_true]
theorem bT{o:Oper}(hw:ar T ops o=some false)(h:Wp P ro ⟨fn,nt,gv nt T o.dst de,.inReg ops (i+1) l :: k,dfs,H,nx⟩ Q):Wp P ro ⟨fn,nt,T,.inReg ops i (o :: l) :: k,dfs,H,nx⟩ Q:=y_not hw h
theorem aj{x:Operand}{v:SV}{dd:Nat}(hw:ar T ops ⟨some dd,.move x,ty,pos,af,gd⟩=some true)(hd:Nat.blt dd nt=true)(hx:am T x=some v)
 (h:Wp P ro ⟨fn,nt,T.set dd v,.inReg ops (i+1) l :: k,dfs,H,nx⟩ Q):Wp P ro ⟨fn,nt,T,.inReg ops i (⟨some dd,.move x,ty,pos,af,gd⟩ :: l) :: k,dfs,H,nx⟩ Q:=
 bK hw (.inr (fun _ h=>by cases h)) ((bC hx).does) (by rw [aC hd];exact h)
theorem ai{x:Operand}{v:SV}{dd:Nat}(hw:ar T ops ⟨some dd,.assign x,ty,pos,af,gd⟩=some true)(hd:Nat.blt dd nt=true)(hx:am T x=some v)
 (h:Wp P ro ⟨fn,nt,T.set dd v,.inReg ops (i+1) l :: k,dfs,H,nx⟩ Q):Wp P ro ⟨fn,nt,T,.inReg ops i (⟨some dd,.assign x,ty,pos,af,gd⟩ :: l) :: k,dfs,H,nx⟩ Q:=
 bK hw (.inr (fun _ h=>by cases h)) ((ch hx).does) (by rw [aC hd];exact h)
theorem aX{c a b:Operand}{v:SV}{dd:Nat}(hw:ar T ops ⟨some dd,.pick c a b,ty,pos,af,gd⟩=some true)(hd:Nat.blt dd nt=true)(hc:am T c=some (.sc (.bool true)))(hx:am T a=some v)
 (h:Wp P ro ⟨fn,nt,T.set dd v,.inReg ops (i+1) l :: k,dfs,H,nx⟩ Q):Wp P ro ⟨fn,nt,T,.inReg ops i (⟨some dd,.pick c a b,ty,pos,af,gd⟩ :: l) :: k,dfs,H,nx⟩ Q:=
 bK hw (.inr (fun _ h=>by cases h)) ((ci hc hx).does) (by rw [aC hd];exact h)
theorem aO{c a b:Operand}{v:SV}{dd:Nat}(hw:ar T ops ⟨some dd,.pick c a b,ty,pos,af,gd⟩=some true)(hd:Nat.blt dd nt=true)(hc:am T c=some (.sc (.bool false)))(hx:am T b=some v)
 (h:Wp P ro ⟨fn,nt,T.set dd v,.inReg ops (i+1) l :: k,dfs,H,nx⟩ Q):Wp P ro ⟨fn,nt,T,.inReg ops i (⟨some dd,.pick c a b,ty,pos,af,gd⟩ :: l) :: k,dfs,H,nx⟩ Q:=
 bK hw (.inr (fun _ h=>by cases h)) ((cC hc hx).does) (by rw [aC hd];exact h)
theorem aD{x:Operand}{j:Nat}{xs:List SV}{v:SV}{dd:Nat}(hw:ar T ops ⟨some dd,.extract x j,ty,pos,af,gd⟩=some true)(hd:Nat.blt dd nt=true)(hx:am T x=some (.tup xs))(hj:xs[j]? =some v)
 (h:Wp P ro ⟨fn,nt,T.set dd v,.inReg ops (i+1) l :: k,dfs,H,nx⟩ Q):Wp P ro ⟨fn,nt,T,.inReg ops i (⟨some dd,.extract x j,ty,pos,af,gd⟩ :: l) :: k,dfs,H,nx⟩ Q:=
 bK hw (.inr (fun _ h=>by cases h)) ((dz hx hj).does) (by rw [aC hd];exact h)
theorem aU{x:Operand}{b o:Nat}{dd:Nat}(hw:ar T ops ⟨some dd,.nilCheck x,ty,pos,af,gd⟩=some true)(hd:Nat.blt dd nt=true)(hx:am T x=some (.ptr b o))
 (h:Wp P ro ⟨fn,nt,T.set dd (.ptr b o),.inReg ops (i+1) l :: k,dfs,H,nx⟩ Q):Wp P ro ⟨fn,nt,T,.inReg ops i (⟨some dd,.nilCheck x,ty,pos,af,gd⟩ :: l) :: k,dfs,H,nx⟩ Q:=
 bK hw (.inr (fun _ h=>by cases h)) ((cj hx).does) (by rw [aC hd];exact h)
theorem aS{x:Operand}{f:FuncId}{a c:List SV}{dd:Nat}(hw:ar T ops ⟨some dd,.nilCheck x,ty,pos,af,gd⟩=some true)(hd:Nat.blt dd nt=true)(hx:am T x=some (.fn (.func f) a c))
 (h:Wp P ro ⟨fn,nt,T.set dd (.fn (.func f) a c),.inReg ops (i+1) l :: k,dfs,H,nx⟩ Q):Wp P ro ⟨fn,nt,T,.inReg ops i (⟨some dd,.nilCheck x,ty,pos,af,gd⟩ :: l) :: k,dfs,H,nx⟩ Q:=
 bK hw (.inr (fun _ h=>by cases h)) ((j0 hx).does) (by rw [aC hd];exact h)
theorem aR{x:Operand}{t:TypeId}{v:SV}{dd:Nat}(hw:ar T ops ⟨some dd,.nilCheck x,ty,pos,af,gd⟩=some true)(hd:Nat.blt dd nt=true)(hx:am T x=some (.ifc t v))
 (h:Wp P ro ⟨fn,nt,T.set dd (.ifc t v),.inReg ops (i+1) l :: k,dfs,H,nx⟩ Q):Wp P ro ⟨fn,nt,T,.inReg ops i (⟨some dd,.nilCheck x,ty,pos,af,gd⟩ :: l) :: k,dfs,H,nx⟩ Q:=
 bK hw (.inr (fun _ h=>by cases h)) ((jZ hx).does) (by rw [aC hd];exact h)
theorem ap{s:TypeId}{x:Operand}{f b o off:Nat}{dd:Nat}(hw:ar T ops ⟨some dd,.fieldAddr s x f,ty,pos,af,gd⟩=some true)(hd:Nat.blt dd nt=true)(hx:am T x=some (.ptr b o))(hf:ii P s f=some off)
 (h:Wp P ro ⟨fn,nt,T.set dd (.ptr b (o+off)),.inReg ops (i+1) l :: k,dfs,H,nx⟩ Q):Wp P ro ⟨fn,nt,T,.inReg ops i (⟨some dd,.fieldAddr s x f,ty,pos,af,gd⟩ :: l) :: k,dfs,H,nx⟩ Q:=
 bK hw (.inr (fun _ h=>by cases h)) ((bw hf hx).does) (by rw [aC hd];exact h)
theorem aN{f:Go.Fn}{a b:Array Operand}{x y:List SV}{dd:Nat}(hw:ar T ops ⟨some dd,.makeFunc f a b,ty,pos,af,gd⟩=some true)(hd:Nat.blt dd nt=true)(ha:dw T a.toList=some x)(hb:dw T b.toList=some y)
 (h:Wp P ro ⟨fn,nt,T.set dd (.fn f x y),.inReg ops (i+1) l :: k,dfs,H,nx⟩ Q):Wp P ro ⟨fn,nt,T,.inReg ops i (⟨some dd,.makeFunc f a b,ty,pos,af,gd⟩ :: l) :: k,dfs,H,nx⟩ Q:=
 bK hw (.inr (fun _ h=>by cases h)) ((fZ ha hb).does) (by rw [aC hd];exact h)
theorem an{t bt:TypeId}{x:Operand}{b o:Nat}{cs:List SV}{v:SV}{dd:Nat}(hw:ar T ops ⟨some dd,.load t x,ty,pos,af,gd⟩=some true)(hd:Nat.blt dd nt=true)(hx:am T x=some (.ptr b o))(ha:cq P t=some none)(hb:H.at' b=some (az bt cs))(hv:cs[o]? =some v)
 (h:Wp P ro ⟨fn,nt,T.set dd v,.inReg ops (i+1) l :: k,dfs,H,nx⟩ Q):Wp P ro ⟨fn,nt,T,.inReg ops i (⟨some dd,.load t x,ty,pos,af,gd⟩ :: l) :: k,dfs,H,nx⟩ Q:=
 bK hw (.inr (fun _ h=>by cases h)) ((aZ ha hx hb (aW hv)).does) (by rw [aC hd];exact h)
theorem fv{t:TypeId}{x:Operand}{b o n:Nat}{vo:VO}{cs:List SV}{dd:Nat}(hw:ar T ops ⟨some dd,.load t x,ty,pos,af,gd⟩=some true)(hd:Nat.blt dd nt=true)(hx:am T x=some (.ptr b o))(ha:cq P t=some (some n))(hb:H.at' b=some vo)(hv:vo.cellsFrom o n=some cs)
 (h:Wp P ro ⟨fn,nt,T.set dd (.agg cs),.inReg ops (i+1) l :: k,dfs,H,nx⟩ Q):Wp P ro ⟨fn,nt,T,.inReg ops i (⟨some dd,.load t x,ty,pos,af,gd⟩ :: l) :: k,dfs,H,nx⟩ Q:=
 bK hw (.inr (fun _ h=>by cases h)) ((bg ha hx hb hv).does) (by rw [aC hd];exact h)
theorem ay{t bt:TypeId}{x:Operand}{b n:Nat}{cs:List SV}{dd:Nat}(hw:ar T ops ⟨some dd,.load t x,ty,pos,af,gd⟩=some true)(hd:Nat.blt dd nt=true)(hx:am T x=some (.ptr b 0))(ha:cq P t=some (some n))(hb:H.at' b=some (az bt cs))(hn:cs.length=n)
 (h:Wp P ro ⟨fn,nt,T.set dd (.agg cs),.inReg ops (i+1) l :: k,dfs,H,nx⟩ Q):Wp P ro ⟨fn,nt,T,.inReg ops i (⟨some dd,.load t x,ty,pos,af,gd⟩ :: l) :: k,dfs,H,nx⟩ Q:=
 bK hw (.inr (fun _ h=>by cases h)) ((bg ha hx hb (aw n 0 (by subst hn;simp) hn)).does) (by rw [aC hd];exact h)
theorem aP{t:TypeId}{cs:List SV}{dd:Nat}(hw:ar T ops ⟨some dd,.alloc t,ty,pos,af,gd⟩=some true)(hd:Nat.blt dd nt=true)(hz:my P t=some cs)
 (h:Wp P ro ⟨fn,nt,T.set dd (.ptr nx 0),.inReg ops (i+1) l :: k,dfs,(H.set nx (az t cs)),(nx+1)⟩ Q):Wp P ro ⟨fn,nt,T,.inReg ops i (⟨some dd,.alloc t,ty,pos,af,gd⟩ :: l) :: k,dfs,H,nx⟩ Q:=
 bK hw (.inr (fun _ h=>by cases h)) (qi hz) (by rw [aC hd];exact h)
theorem bj{t:TypeId}{x:Operand}{cs:List SV}{dd:Nat}(hw:ar T ops ⟨some dd,.box t x,ty,pos,af,gd⟩=some true)(hd:Nat.blt dd nt=true)(hx:am T x=some (.agg cs))
 (h:Wp P ro ⟨fn,nt,T.set dd (.ptr nx 0),.inReg ops (i+1) l :: k,dfs,(H.set nx (az t cs)),(nx+1)⟩ Q):Wp P ro ⟨fn,nt,T,.inReg ops i (⟨some dd,.box t x,ty,pos,af,gd⟩ :: l) :: k,dfs,H,nx⟩ Q:=
 bK hw (.inr (fun _ h=>by cases h)) (te hx) (by rw [aC hd];exact h)
theorem cJ{t:TypeId}{x:Operand}{v:SV}{dd:Nat}(hw:ar T ops ⟨some dd,.box t x,ty,pos,af,gd⟩=some true)(hd:Nat.blt dd nt=true)(hx:am T x=some v)(h1:v.cells= [v])
 (h:Wp P ro ⟨fn,nt,T.set dd (.ptr nx 0),.inReg ops (i+1) l :: k,dfs,(H.set nx (az t [v])),(nx+1)⟩ Q):Wp P ro ⟨fn,nt,T,.inReg ops i (⟨some dd,.box t x,ty,pos,af,gd⟩ :: l) :: k,dfs,H,nx⟩ Q:=
 bK hw (.inr (fun _ h=>by cases h)) (wn hx h1) (by rw [aC hd];exact h)
theorem aK{t bt:TypeId}{a x:Operand}{b o:Nat}{cs:List SV}{v:SV}(hw:ar T ops ⟨none,.store t a x,ty,pos,af,gd⟩=some true)(ha:am T a=some (.ptr b o))(hx:am T x=some v)(hs:bA P t=some 1)(hb:H.at' b=some (az bt cs))(h1:v.one=true)(ho:Nat.blt o cs.length=true)
 (h:Wp P ro ⟨fn,nt,T,.inReg ops (i+1) l :: k,dfs,(H.set b (az bt (cs.set o v))),nx⟩ Q):Wp P ro ⟨fn,nt,T,.inReg ops i (⟨none,.store t a x,ty,pos,af,gd⟩ :: l) :: k,dfs,H,nx⟩ Q:=
 pT hw (.inr (fun _ h=>by cases h)) (nU hs ha hx hb h1 (zn ho)) h
theorem aE{t bt:TypeId}{a x:Operand}{b o n:Nat}{cs vs cs':List SV}(hw:ar T ops ⟨none,.store t a x,ty,pos,af,gd⟩=some true)(ha:am T a=some (.ptr b o))(hx:am T x=some (.agg vs))(hs:bA P t=some n)(hb:H.at' b=some (az bt cs))(hn:vs.length=n)(ho:o+n≤cs.length)(h1:cG vs=true)(hc:cs.take o ++ vs ++ cs.drop (o+n)=cs')
 (h:Wp P ro ⟨fn,nt,T,.inReg ops (i+1) l :: k,dfs,(H.set b (az bt cs')),nx⟩ Q):Wp P ro ⟨fn,nt,T,.inReg ops i (⟨none,.store t a x,ty,pos,af,gd⟩ :: l) :: k,dfs,H,nx⟩ Q:=
 pT hw (.inr (fun _ h=>by cases h)) (hc ▸ jn hs ha hx rfl hb hn ho h1) h
theorem bn{t yt:TypeId}{x y:Operand}{a b:Int}{dd:Nat}(hw:ar T ops ⟨some dd,.binOp .add t x y yt,ty,pos,af,gd⟩=some true)(hd:Nat.blt dd nt=true)(hx:am T x=some (.sc (.int .i64 a)))(hy:am T y=some (.sc (.int .i64 b)))(h1 : -9223372036854775808≤a+b)(h2:a+b≤9223372036854775807)
 (h:Wp P ro ⟨fn,nt,T.set dd (.sc (.int .i64 (a+b))),.inReg ops (i+1) l :: k,dfs,H,nx⟩ Q):Wp P ro ⟨fn,nt,T,.inReg ops i (⟨some dd,.binOp .add t x y yt,ty,pos,af,gd⟩ :: l) :: k,dfs,H,nx⟩ Q:=
 bK hw (.inr (fun _ h=>by cases h)) ((bU hx hy (.inl ⟨rfl,(zi _ ⟨h1,h2⟩).symm⟩)).does) (by rw [aC hd];exact h)
theorem cv{t yt:TypeId}{x y:Operand}{a b:Int}{dd:Nat}(hw:ar T ops ⟨some dd,.binOp .sub t x y yt,ty,pos,af,gd⟩=some true)(hd:Nat.blt dd nt=true)(hx:am T x=some (.sc (.int .i64 a)))(hy:am T y=some (.sc (.int .i64 b)))(h1 : -9223372036854775808≤a-b)(h2:a-b≤9223372036854775807)
 (h:Wp P ro ⟨fn,nt,T.set dd (.sc (.int .i64 (a-b))),.inReg ops (i+1) l :: k,dfs,H,nx⟩ Q):Wp P ro ⟨fn,nt,T,.inReg ops i (⟨some dd,.binOp .sub t x y yt,ty,pos,af,gd⟩ :: l) :: k,dfs,H,nx⟩ Q:=
 bK hw (.inr (fun _ h=>by cases h)) ((bU hx hy (.inr (.inl ⟨rfl,(zi _ ⟨h1,h2⟩).symm⟩))).does) (by rw [aC hd];exact h)
theorem cF{t yt:TypeId}{x y:Operand}{a b:Int}{dd:Nat}(hw:ar T ops ⟨some dd,.binOp .mul t x y yt,ty,pos,af,gd⟩=some true)(hd:Nat.blt dd nt=true)(hx:am T x=some (.sc (.int .i64 a)))(hy:am T y=some (.sc (.int .i64 b)))(h1 : -9223372036854775808≤a*b)(h2:a*b≤9223372036854775807)
 (h:Wp P ro ⟨fn,nt,T.set dd (.sc (.int .i64 (a*b))),.inReg ops (i+1) l :: k,dfs,H,nx⟩ Q):Wp P ro ⟨fn,nt,T,.inReg ops i (⟨some dd,.binOp .mul t x y yt,ty,pos,af,gd⟩ :: l) :: k,dfs,H,nx⟩ Q:=
 bK hw (.inr (fun _ h=>by cases h)) ((bU hx hy (.inr (.inr ⟨rfl,(zi _ ⟨h1,h2⟩).symm⟩))).does) (by rw [aC hd];exact h)
theorem yj{t yt:TypeId}{x y:Operand}{kd:IntKind}{a b:Int}{dd:Nat}(hw:ar T ops ⟨some dd,.binOp .eql t x y yt,ty,pos,af,gd⟩=some true)(hd:Nat.blt dd nt=true)(hx:am T x=some (.sc (.int kd a)))(hy:am T y=some (.sc (.int kd b)))
 (h:Wp P ro ⟨fn,nt,T.set dd (.sc (.bool (a == b))),.inReg ops (i+1) l :: k,dfs,H,nx⟩ Q):Wp P ro ⟨fn,nt,T,.inReg ops i (⟨some dd,.binOp .eql t x y yt,ty,pos,af,gd⟩ :: l) :: k,dfs,H,nx⟩ Q:=
 bK hw (.inr (fun _ h=>by cases h)) ((cH hx hy (.inl ⟨rfl,rfl⟩)).does) (by rw [aC hd];exact h)
theorem yh{t yt:TypeId}{x y:Operand}{kd:IntKind}{a b:Int}{dd:Nat}(hw:ar T ops ⟨some dd,.binOp .neq t x y yt,ty,pos,af,gd⟩=some true)(hd:Nat.blt dd nt=true)(hx:am T x=some (.sc (.int kd a)))(hy:am T y=some (.sc (.int kd b)))
 (h:Wp P ro ⟨fn,nt,T.set dd (.sc (.bool (a != b))),.inReg ops (i+1) l :: k,dfs,H,nx⟩ Q):Wp P ro ⟨fn,nt,T,.inReg ops i (⟨some dd,.binOp .neq t x y yt,ty,pos,af,gd⟩ :: l) :: k,dfs,H,nx⟩ Q:=
 bK hw (.inr (fun _ h=>by cases h)) ((cH hx hy (.inr (.inl ⟨rfl,rfl⟩))).does) (by rw [aC hd];exact h)
theorem pe{t yt:TypeId}{x y:Operand}{kd:IntKind}{a b:Int}{dd:Nat}(hw:ar T ops ⟨some dd,.binOp .lss t x y yt,ty,pos,af,gd⟩=some true)(hd:Nat.blt dd nt=true)(hx:am T x=some (.sc (.int kd a)))(hy:am T y=some (.sc (.int kd b)))
 (h:Wp P ro ⟨fn,nt,T.set dd (.sc (.bool (decide (a<b)))),.inReg ops (i+1) l :: k,dfs,H,nx⟩ Q):Wp P ro ⟨fn,nt,T,.inReg ops i (⟨some dd,.binOp .lss t x y yt,ty,pos,af,gd⟩ :: l) :: k,dfs,H,nx⟩ Q:=
 bK hw (.inr (fun _ h=>by cases h)) ((cH hx hy (.inr (.inr (.inl ⟨rfl,rfl⟩)))).does) (by rw [aC hd];exact h)
theorem w_leq{t yt:TypeId}{x y:Operand}{kd:IntKind}{a b:Int}{dd:Nat}(hw:ar T ops ⟨some dd,.binOp .leq t x y yt,ty,pos,af,gd⟩=some true)(hd:Nat.blt dd nt=true)(hx:am T x=some (.sc (.int kd a)))(hy:am T y=some (.sc (.int kd b)))
 (h:Wp P ro ⟨fn,nt,T.set dd (.sc (.bool (decide (a≤b)))),.inReg ops (i+1) l :: k,dfs,H,nx⟩ Q):Wp P ro ⟨fn,nt,T,.inReg ops i (⟨some dd,.binOp .leq t x y yt,ty,pos,af,gd⟩ :: l) :: k,dfs,H,nx⟩ Q:=
 bK hw (.inr (fun _ h=>by cases h)) ((cH hx hy (.inr (.inr (.inr (.inl ⟨rfl,rfl⟩))))).does) (by rw [aC hd];exact h)
theorem w_gtr{t yt:TypeId}{x y:Operand}{kd:IntKind}{a b:Int}{dd:Nat}(hw:ar T ops ⟨some dd,.binOp .gtr t x y yt,ty,pos,af,gd⟩=some true)(hd:Nat.blt dd nt=true)(hx:am T x=some (.sc (.int kd a)))(hy:am T y=some (.sc (.int kd b)))
 (h:Wp P ro ⟨fn,nt,T.set dd (.sc (.bool (decide (a>b)))),.inReg ops (i+1) l :: k,dfs,H,nx⟩ Q):Wp P ro ⟨fn,nt,T,.inReg ops i (⟨some dd,.binOp .gtr t x y yt,ty,pos,af,gd⟩ :: l) :: k,dfs,H,nx⟩ Q:=
 bK hw (.inr (fun _ h=>by cases h)) ((cH hx hy (.inr (.inr (.inr (.inr (.inl ⟨rfl,rfl⟩)))))).does) (by rw [aC hd];exact h)
theorem w_geq{t yt:TypeId}{x y:Operand}{kd:IntKind}{a b:Int}{dd:Nat}(hw:ar T ops ⟨some dd,.binOp .geq t x y yt,ty,pos,af,gd⟩=some true)(hd:Nat.blt dd nt=true)(hx:am T x=some (.sc (.int kd a)))(hy:am T y=some (.sc (.int kd b)))
 (h:Wp P ro ⟨fn,nt,T.set dd (.sc (.bool (decide (a≥b)))),.inReg ops (i+1) l :: k,dfs,H,nx⟩ Q):Wp P ro ⟨fn,nt,T,.inReg ops i (⟨some dd,.binOp .geq t x y yt,ty,pos,af,gd⟩ :: l) :: k,dfs,H,nx⟩ Q:=
 bK hw (.inr (fun _ h=>by cases h)) ((cH hx hy (.inr (.inr (.inr (.inr (.inr (⟨rfl,rfl⟩))))))).does) (by rw [aC hd];exact h)
theorem eQ{t yt:TypeId}{x y:Operand}{kd:IntKind}{a b:Int}{dd:Nat}(hw:ar T ops ⟨some dd,.binOp .eql t x y yt,ty,pos,af,gd⟩=some true)(hd:Nat.blt dd nt=true)(hx:am T x=some (.sc (.int kd a)))(hy:am T y=some (.sc (.int kd b)))
 (h1:a=b→Wp P ro ⟨fn,nt,T.set dd (.sc (.bool true)),.inReg ops (i+1) l :: k,dfs,H,nx⟩ Q) (h2:a≠b→Wp P ro ⟨fn,nt,T.set dd (.sc (.bool false)),.inReg ops (i+1) l :: k,dfs,H,nx⟩ Q) :
 Wp P ro ⟨fn,nt,T,.inReg ops i (⟨some dd,.binOp .eql t x y yt,ty,pos,af,gd⟩ :: l) :: k,dfs,H,nx⟩ Q:=by
 refine yj hw hd hx hy ?_
 by_cases hc:a=b
 ·have e:(a == b)=true:=by simp;omega
  rw [e];exact h1 hc
 ·have e:(a == b)=false:=by simp;omega
  rw [e];exact h2 (by omega)
theorem cD{t yt:TypeId}{x y:Operand}{kd:IntKind}{a b:Int}{dd:Nat}(hw:ar T ops ⟨some dd,.binOp .neq t x y yt,ty,pos,af,gd⟩=some true)(hd:Nat.blt dd nt=true)(hx:am T x=some (.sc (.int kd a)))(hy:am T y=some (.sc (.int kd b)))
 (h1:a≠b→Wp P ro ⟨fn,nt,T.set dd (.sc (.bool true)),.inReg ops (i+1) l :: k,dfs,H,nx⟩ Q) (h2:a=b→Wp P ro ⟨fn,nt,T.set dd (.sc (.bool false)),.inReg ops (i+1) l :: k,dfs,H,nx⟩ Q) :
 Wp P ro ⟨fn,nt,T,.inReg ops i (⟨some dd,.binOp .neq t x y yt,ty,pos,af,gd⟩ :: l) :: k,dfs,H,nx⟩ Q:=by
 refine yh hw hd hx hy ?_
 by_cases hc:a≠b
 ·have e:(a != b)=true:=by simp;omega
  rw [e];exact h1 hc
 ·have e:(a != b)=false:=by simp;omega
  rw [e];exact h2 (by omega)
theorem bR{t yt:TypeId}{x y:Operand}{kd:IntKind}{a b:Int}{dd:Nat}(hw:ar T ops ⟨some dd,.binOp .lss t x y yt,ty,pos,af,gd⟩=some true)(hd:Nat.blt dd nt=true)(hx:am T x=some (.sc (.int kd a)))(hy:am T y=some (.sc (.int kd b)))
 (h1:a<b→Wp P ro ⟨fn,nt,T.set dd (.sc (.bool true)),.inReg ops (i+1) l :: k,dfs,H,nx⟩ Q) (h2:b≤a→Wp P ro ⟨fn,nt,T.set dd (.sc (.bool false)),.inReg ops (i+1) l :: k,dfs,H,nx⟩ Q) :
 Wp P ro ⟨fn,nt,T,.inReg ops i (⟨some dd,.binOp .lss t x y yt,ty,pos,af,gd⟩ :: l) :: k,dfs,H,nx⟩ Q:=by
 refine pe hw hd hx hy ?_
 by_cases hc:a<b
 ·have e:(decide (a<b))=true:=by simp;omega
  rw [e];exact h1 hc
 ·have e:(decide (a<b))=false:=by simp;omega
  rw [e];exact h2 (by omega)
theorem lX{t yt:TypeId}{x y:Operand}{kd:IntKind}{a b:Int}{dd:Nat}(hw:ar T ops ⟨some dd,.binOp .leq t x y yt,ty,pos,af,gd⟩=some true)(hd:Nat.blt dd nt=true)(hx:am T x=some (.sc (.int kd a)))(hy:am T y=some (.sc (.int kd b)))
 (h1:a≤b→Wp P ro ⟨fn,nt,T.set dd (.sc (.bool true)),.inReg ops (i+1) l :: k,dfs,H,nx⟩ Q) (h2:b<a→Wp P ro ⟨fn,nt,T.set dd (.sc (.bool false)),.inReg ops (i+1) l :: k,dfs,H,nx⟩ Q) :
 Wp P ro ⟨fn,nt,T,.inReg ops i (⟨some dd,.binOp .leq t x y yt,ty,pos,af,gd⟩ :: l) :: k,dfs,H,nx⟩ Q:=by
 refine w_leq hw hd hx hy ?_
 by_cases hc:a≤b
 ·have e:(decide (a≤b))=true:=by simp;omega
  rw [e];exact h1 hc
 ·have e:(decide (a≤b))=false:=by simp;omega
  rw [e];exact h2 (by omega)
theorem e9{t yt:TypeId}{x y:Operand}{kd:IntKind}{a b:Int}{dd:Nat}(hw:ar T ops ⟨some dd,.binOp .gtr t x y yt,ty,pos,af,gd⟩=some true)(hd:Nat.blt dd nt=true)(hx:am T x=some (.sc (.int kd a)))(hy:am T y=some (.sc (.int kd b)))
 (h1:b<a→Wp P ro ⟨fn,nt,T.set dd (.sc (.bool true)),.inReg ops (i+1) l :: k,dfs,H,nx⟩ Q) (h2:a≤b→Wp P ro ⟨fn,nt,T.set dd (.sc (.bool false)),.inReg ops (i+1) l :: k,dfs,H,nx⟩ Q) :
 Wp P ro ⟨fn,nt,T,.inReg ops i (⟨some dd,.binOp .gtr t x y yt,ty,pos,af,gd⟩ :: l) :: k,dfs,H,nx⟩ Q:=by
 refine w_gtr hw hd hx hy ?_
 by_cases hc:b<a
 ·have e:(decide (a>b))=true:=by simp;omega
  rw [e];exact h1 hc
 ·have e:(decide (a>b))=false:=by simp;omega
  rw [e];exact h2 (by omega)
theorem gB{t yt:TypeId}{x y:Operand}{kd:IntKind}{a b:Int}{dd:Nat}(hw:ar T ops ⟨some dd,.binOp .geq t x y yt,ty,pos,af,gd⟩=some true)(hd:Nat.blt dd nt=true)(hx:am T x=some (.sc (.int kd a)))(hy:am T y=some (.sc (.int kd b)))
 (h1:b≤a→Wp P ro ⟨fn,nt,T.set dd (.sc (.bool true)),.inReg ops (i+1) l :: k,dfs,H,nx⟩ Q) (h2:a<b→Wp P ro ⟨fn,nt,T.set dd (.sc (.bool false)),.inReg ops (i+1) l :: k,dfs,H,nx⟩ Q) :
 Wp P ro ⟨fn,nt,T,.inReg ops i (⟨some dd,.binOp .geq t x y yt,ty,pos,af,gd⟩ :: l) :: k,dfs,H,nx⟩ Q:=by
 refine w_geq hw hd hx hy ?_
 by_cases hc:b≤a
 ·have e:(decide (a≥b))=true:=by simp;omega
  rw [e];exact h1 hc
 ·have e:(decide (a≥b))=false:=by simp;omega
  rw [e];exact h2 (by omega)
theorem cV{t yt:TypeId}{x y:Operand}{a b:Int}{dd:Nat}(hw:ar T ops ⟨some dd,.binOp .quo t x y yt,ty,pos,af,gd⟩=some true)(hd:Nat.blt dd nt=true)(hx:am T x=some (.sc (.int .i64 a)))(hy:am T y=some (.sc (.int .i64 b)))(h1:0≤a)(h2:a≤9223372036854775807)(h3:0<b)
 (h:Wp P ro ⟨fn,nt,T.set dd (.sc (.int .i64 (a / b))),.inReg ops (i+1) l :: k,dfs,H,nx⟩ Q):Wp P ro ⟨fn,nt,T,.inReg ops i (⟨some dd,.binOp .quo t x y yt,ty,pos,af,gd⟩ :: l) :: k,dfs,H,nx⟩ Q:=
 bK hw (.inr (fun _ h=>by cases h)) ((wk hx hy (by omega) (nC h1 h2 h3)).does) (by rw [aC hd];exact h)
theorem yk{op:BinOp}{t yt:TypeId}{x y:Operand}{kd:IntKind}{a b c:Int}{dd:Nat}(hw:ar T ops ⟨some dd,.binOp op t x y yt,ty,pos,af,gd⟩=some true)(hd:Nat.blt dd nt=true)(hx:am T x=some (.sc (.int kd a)))(hy:am T y=some (.sc (.int kd b)))(ho:op = .and∨op = .or∨op = .xor∨op = .andNot)(hc:vX op kd a b=c)
 (h:Wp P ro ⟨fn,nt,T.set dd (.sc (.int kd c)),.inReg ops (i+1) l :: k,dfs,H,nx⟩ Q):Wp P ro ⟨fn,nt,T,.inReg ops i (⟨some dd,.binOp op t x y yt,ty,pos,af,gd⟩ :: l) :: k,dfs,H,nx⟩ Q:=
 bK hw (.inr (fun _ h=>by cases h)) ((xe hx hy ho hc).does) (by rw [aC hd];exact h)
theorem yg{t yt:TypeId}{x y:Operand}{kd kd2:IntKind}{a b c:Int}{dd:Nat}(hw:ar T ops ⟨some dd,.binOp .shl t x y yt,ty,pos,af,gd⟩=some true)(hd:Nat.blt dd nt=true)(hx:am T x=some (.sc (.int kd a)))(hy:am T y=some (.sc (.int kd2 b)))(h0:0≤b)(hc:kd.wrap (a*2 ^ (min b.toNat kd.bits))=c)
 (h:Wp P ro ⟨fn,nt,T.set dd (.sc (.int kd c)),.inReg ops (i+1) l :: k,dfs,H,nx⟩ Q):Wp P ro ⟨fn,nt,T,.inReg ops i (⟨some dd,.binOp .shl t x y yt,ty,pos,af,gd⟩ :: l) :: k,dfs,H,nx⟩ Q:=
 bK hw (.inr (fun _ h=>by cases h)) ((yG hx hy h0 hc).does) (by rw [aC hd];exact h)
theorem pX{t yt:TypeId}{x y:Operand}{kd kd2:IntKind}{a b c:Int}{dd:Nat}(hw:ar T ops ⟨some dd,.binOp .shr t x y yt,ty,pos,af,gd⟩=some true)(hd:Nat.blt dd nt=true)(hx:am T x=some (.sc (.int kd a)))(hy:am T y=some (.sc (.int kd2 b)))(h0:0≤b)(hc:a.fdiv (2 ^ (min b.toNat kd.bits))=c)
 (h:Wp P ro ⟨fn,nt,T.set dd (.sc (.int kd c)),.inReg ops (i+1) l :: k,dfs,H,nx⟩ Q):Wp P ro ⟨fn,nt,T,.inReg ops i (⟨some dd,.binOp .shr t x y yt,ty,pos,af,gd⟩ :: l) :: k,dfs,H,nx⟩ Q:=
 bK hw (.inr (fun _ h=>by cases h)) ((yF hx hy h0 hc).does) (by rw [aC hd];exact h)
theorem eR{s t:TypeId}{su:TypeDesc}{x:Operand}{kd kd2:IntKind}{a c:Int}{dd:Nat}(hw:ar T ops ⟨some dd,.convert s t x,ty,pos,af,gd⟩=some true)(hd:Nat.blt dd nt=true)(hx:am T x=some (.sc (.int kd2 a)))(hs:P.underlying s=some su)(hu:P.underlying t=some (.int kd))(hc:kd.wrap a=c)
 (h:Wp P ro ⟨fn,nt,T.set dd (.sc (.int kd c)),.inReg ops (i+1) l :: k,dfs,H,nx⟩ Q):Wp P ro ⟨fn,nt,T,.inReg ops i (⟨some dd,.convert s t x,ty,pos,af,gd⟩ :: l) :: k,dfs,H,nx⟩ Q:=
 bK hw (.inr (fun _ h=>by cases h)) ((jK hs hu hx hc).does) (by rw [aC hd];exact h)
theorem bc{t:TypeId}{parts:List (Nat×Operand)}{ps:List (Nat×SV)}{pl:List (Nat×Nat)}{z:Value}{cs:List SV}{dd:Nat}(hw:ar T ops ⟨some dd,.build t parts.toArray,ty,pos,af,gd⟩=some true)(hd:Nat.blt dd nt=true)(hx:iU T parts=some ps)(hz:dq P t=some z)(hl:vq P t=some pl)(hf:fh (fun i=>pl[i]?) (z.cells.toList.map .sc) ps=some cs)
 (h:Wp P ro ⟨fn,nt,T.set dd (.agg cs),.inReg ops (i+1) l :: k,dfs,H,nx⟩ Q):Wp P ro ⟨fn,nt,T,.inReg ops i (⟨some dd,.build t parts.toArray,ty,pos,af,gd⟩ :: l) :: k,dfs,H,nx⟩ Q:=
 bK hw (.inr (fun _ h=>by cases h)) ((d5 hx hz hl hf).does) (by rw [aC hd];exact h)
theorem bh{t:TypeId}{x:Operand}{b:Bool}{dd:Nat}(hw:ar T ops ⟨some dd,.unOp .not t x,ty,pos,af,gd⟩=some true)(hd:Nat.blt dd nt=true)(hx:am T x=some (.sc (.bool b)))
 (h:Wp P ro ⟨fn,nt,T.set dd (.sc (.bool (!b))),.inReg ops (i+1) l :: k,dfs,H,nx⟩ Q):Wp P ro ⟨fn,nt,T,.inReg ops i (⟨some dd,.unOp .not t x,ty,pos,af,gd⟩ :: l) :: k,dfs,H,nx⟩ Q:=
 bK hw (.inr (fun _ h=>by cases h)) ((fq hx).does) (by rw [aC hd];exact h)
theorem a6{t e:TypeId}{x:Operand}{b eo n:Nat}{dd:Nat}(hw:ar T ops ⟨some dd,.call {callee:= .builtin .len,args:= #[x],argTypes:= #[t]},ty,pos,af,gd⟩=some true)(hd:Nat.blt dd nt=true)(hx:am T x=some (.slu b eo n))(hu:P.underlying t=some (.slice e))
 (h:Wp P ro ⟨fn,nt,T.set dd (.sc (.int .i64 n)),.inReg ops (i+1) l :: k,dfs,H,nx⟩ Q):Wp P ro ⟨fn,nt,T,.inReg ops i (⟨some dd,.call {callee:= .builtin .len,args:= #[x],argTypes:= #[t]},ty,pos,af,gd⟩ :: l) :: k,dfs,H,nx⟩ Q:=
 bK hw (.inr (fun _ h=>by cases h)) ((ek hu hx).does) (by rw [aC hd];exact h)
theorem be{t:TypeId}{x:Operand}{s:ByteArray}{dd:Nat}(hw:ar T ops ⟨some dd,.call {callee:= .builtin .len,args:= #[x],argTypes:= #[t]},ty,pos,af,gd⟩=some true)(hd:Nat.blt dd nt=true)(hx:am T x=some (.sc (.string s)))(hu:P.underlying t=some .string)
 (h:Wp P ro ⟨fn,nt,T.set dd (.sc (.int .i64 s.size)),.inReg ops (i+1) l :: k,dfs,H,nx⟩ Q):Wp P ro ⟨fn,nt,T,.inReg ops i (⟨some dd,.call {callee:= .builtin .len,args:= #[x],argTypes:= #[t]},ty,pos,af,gd⟩ :: l) :: k,dfs,H,nx⟩ Q:=
 bK hw (.inr (fun _ h=>by cases h)) ((dU hu hx).does) (by rw [aC hd];exact h)
theorem pf{t e:TypeId}{x y:Operand}{b eo n:Nat}{kd:IntKind}{j:Int}{rr:Bool}{ne sz:Nat}{rt:TypeId}{c:Tr SV}{dd:Nat}(hw:ar T ops ⟨some dd,.indexAddr t x y,ty,pos,af,gd⟩=some true)(hd:Nat.blt dd nt=true)(hx:am T x=some (.slu b eo n))(hy:am T y=some (.sc (.int kd j)))(hu:P.underlying t=some (.slice e))(hs:bA P e=some sz)(hb:H.at' b=some (.row rr ne sz rt c))(h0:0≤j)(hj:j<n)(hne:eo+n≤ne)
 (h:Wp P ro ⟨fn,nt,T.set dd (.ptr b ((eo+j.toNat)*sz)),.inReg ops (i+1) l :: k,dfs,H,nx⟩ Q):Wp P ro ⟨fn,nt,T,.inReg ops i (⟨some dd,.indexAddr t x y,ty,pos,af,gd⟩ :: l) :: k,dfs,H,nx⟩ Q:=
 bK hw (.inr (fun _ h=>by cases h)) ((eU hu hs hx hy hb h0 hj hne).does) (by rw [aC hd];exact h)
theorem aL{g:FuncId}{as1:List Operand}{ats:Array TypeId}{args:List SV}{dd:Nat}(hw:ar T ops ⟨some dd,.call {callee:= .value (.func g),args:=as1.toArray,argTypes:=ats},ty,pos,af,gd⟩=some true)(hd:Nat.blt dd nt=true)(ha:dw T as1=some args)(hm:cf P g=true)
 (h:Fnc P g args H nx (fun r=>Wp P ro ⟨fn,nt,T.set dd r.1,.inReg ops (i+1) l :: k,dfs,r.2.1,r.2.2⟩ Q)) :
 Wp P ro ⟨fn,nt,T,.inReg ops i (⟨some dd,.call {callee:= .value (.func g),args:=as1.toArray,argTypes:=ats},ty,pos,af,gd⟩ :: l) :: k,dfs,H,nx⟩ Q:=by
 refine sg hw (args:=args) ?_ (by simp only [aC hd];exact h)
 simp only [cc,ha,am,dE,hm,cond_true,List.map_nil,List.nil_append,List.append_nil]
theorem kV{x:Operand}{g:FuncId}{fa fb:List SV}{as1:List Operand}{ats:Array TypeId}{args:List SV}{dd:Nat}(hw:ar T ops ⟨some dd,.call {callee:= .value x,args:=as1.toArray,argTypes:=ats},ty,pos,af,gd⟩=some true)(hd:Nat.blt dd nt=true)(hx:am T x=some (.fn (.func g) fa fb))(ha:dw T as1=some args)(hm:cf P g=true)
 (h:Fnc P g (fa ++ args ++ fb) H nx (fun r=>Wp P ro ⟨fn,nt,T.set dd r.1,.inReg ops (i+1) l :: k,dfs,r.2.1,r.2.2⟩ Q)) :
 Wp P ro ⟨fn,nt,T,.inReg ops i (⟨some dd,.call {callee:= .value x,args:=as1.toArray,argTypes:=ats},ty,pos,af,gd⟩ :: l) :: k,dfs,H,nx⟩ Q:=by
 refine sg hw (args:=fa ++ args ++ fb) ?_ (by simp only [aC hd];exact h)
 simp only [cc,ha,hx,dE,hm,cond_true]
end
end Go.Sy
end
section
namespace Go.Proofs.YtjjgjjlgchidlaaGreat
open Go Go.Sy
namespace F
def chk{A:Type}(f:Nat→Option A):Nat→List (Option A)→List (Option A)
 | _,[]=> []
 | i,none :: l=>none :: chk f (i+1) l
 | i,some _ :: l=>f i :: chk f (i+1) l
theorem gR{A:Type}{f:Nat→Option A}: ∀ {l:List (Option A)} {k:Nat},chk f k l=l→ ∀ {i:Nat} {x:A},l[i]? =some (some x)→f (k+i)=some x
 | none :: l,k,h,0,x,hx=>by simp at hx
 | some y :: l,k,h,0,x,hx=>by
   simp only [chk,List.cons.injEq] at h
   rw [Nat.add_zero,h.1]
   simpa using hx
 | none :: l,k,h,i+1,x,hx=>by
   simp only [chk,List.cons.injEq] at h
   rw [show k+(i+1)=k+1+i by omega]
   exact gR h.2 (by simpa using hx)
 | some y :: l,k,h,i+1,x,hx=>by
   simp only [chk,List.cons.injEq] at h
   rw [show k+(i+1)=k+1+i by omega]
   exact gR h.2 (by simpa using hx)
def yc(f:Nat→Option Nat):Nat→List Nat→List (Option Nat)
 | _,[]=> []
 | k,_ :: l=>f k :: yc f (k+1) l
theorem qJ{f:Nat→Option Nat}: ∀ {l:List Nat} {k:Nat},yc f k l=l.map some→ ∀ {i x:Nat},l[i]? =some x→f (k+i)=some x
 | y :: l,k,h,0,x,hx=>by
   simp only [yc,zF,List.cons.injEq] at h
   rw [Nat.add_zero,h.1]
   simpa using hx
 | y :: l,k,h,i+1,x,hx=>by
   simp only [yc,zF,List.cons.injEq] at h
   rw [show k+(i+1)=k+1+i by omega]
   exact qJ h.2 (by simpa using hx)
def zc(f:Nat→Nat→Option Nat):Nat→List (Option (List Nat))→Prop
 | _,[]=>True
 | i,none :: l=>zc f (i+1) l
 | i,some r :: l=>yc (f i) 0 r=r.map some∧zc f (i+1) l
theorem nm{f:Nat→Nat→Option Nat}: ∀ {l:List (Option (List Nat))} {k:Nat},zc f k l→ ∀ {i:Nat} {x:List Nat},l[i]? =some (some x)→yc (f (k+i)) 0 x=x.map some
 | none :: l,k,h,0,x,hx=>by simp at hx
 | some y :: l,k,h,0,x,hx=>by
   have e:y=x:=by simpa using hx
   subst e
   exact h.1
 | none :: l,k,h,i+1,x,hx=>by
   rw [show k+(i+1)=k+1+i by omega]
   exact nm (l:=l) h (by simpa using hx)
 | some y :: l,k,h,i+1,x,hx=>by
   rw [show k+(i+1)=k+1+i by omega]
   exact nm (l:=l) h.2 (by simpa using hx)
def szL:List (Option (Nat)):= [some 1,some 1,some 1,some 1,some 1,some 1,some 1,some 4,some 4,some 1,some 1,some 1,some 1,some 2,some 2,some 1,some 1,some 1,some 1,some 1,some 1,some 1,some 2,some 2,some 3,some 3,some 1,some 1,some 1,some 1,some 1,some 1,some 1,some 1,some 1,some 1,some 1,some 1,some 1,some 1,some 1,some 1,some 1,some 1,some 1,some 8,some 8,some 1024,some 1024,some 28672,some 28672,some 1,some 28675,some 28675,some 1,some 1,some 1,some 1,some 1,some 1,some 1,some 1,some 1,some 1,some 1,some 1,some 1,some 1,some 1,some 1,some 1,some 1,some 1,some 1,some 1,some 1,some 1,some 1,some 1,some 1,some 1,some 1,some 1,some 1027,some 1027,some 1,some 1,some 1,some 1,some 1,some 1,some 1,some 1,some 1,some 1,some 1,some 1,some 4,some 4,some 1,some 1,some 1,some 1,some 1,some 1,some 1,some 1,some 1,some 1,some 1,some 1,some 1,some 1,some 1,some 1,some 1,some 28,some 1,some 1,some 1,some 1,some 1,some 4,some 4,some 1,some 1,some 1,some 1,some 1,some 1,some 1,some 1,some 1,some 1,some 1,some 1,some 1,some 1,some 1,some 1,some 1,some 2,some 2,some 1,some 1,some 5,some 5,some 1,some 1,some 1,some 1,some 1,some 1,some 1,some 1,some 1024,some 1,some 1,some 1,some 1,some 1,some 1,some 1,some 1,some 1,some 1,some 1,some 1,some 1,some 1,some 1,some 1,some 1,some 1,some 1,some 1,some 1,some 1,some 1,some 1,some 1,some 1,some 1,some 1,some 1,some 1,some 1,some 1,some 1,some 1,some 1,some 1,some 1,some 4,some 4,some 0,some 0,some 0,some 1,some 1,some 1,some 1,some 1,some 1,some 1,some 11,some 11,some 1,some 1025,some 1025,some 1,some 1]
theorem szOk:chk (fun i=>bA Tryz.prog i) 0 szL=szL:=by kernel_rfl
theorem sz(i:Nat){x:Nat}(h:szL[i]? =some (some x)):bA Tryz.prog i=some x:=by
 have:=gR szOk h
 simpa using this
def agL:List (Option (Option Nat)):= [some (none),some (none),some (none),some (none),some (none),some (none),some (none),some ((some 4)),some ((some 4)),some (none),some (none),some (none),some (none),some ((some 2)),some ((some 2)),some (none),some (none),some (none),some ((some 1)),some ((some 1)),some (none),some (none),some ((some 2)),some ((some 2)),some ((some 3)),some ((some 3)),some (none),some (none),some (none),some (none),some (none),some (none),some (none),some (none),some (none),some (none),some (none),some (none),some (none),some (none),some (none),some (none),some (none),some (none),some (none),some ((some 8)),some ((some 8)),some ((some 1024)),some ((some 1024)),some ((some 28672)),some ((some 28672)),some (none),some ((some 28675)),some ((some 28675)),some (none),some ((some 1)),some (none),some (none),some (none),some (none),some (none),some (none),some (none),some (none),some (none),some (none),some (none),some (none),some (none),some (none),some (none),some (none),some (none),some (none),some (none),some (none),some (none),some (none),some (none),some (none),some (none),some (none),some (none),some ((some 1027)),some ((some 1027)),some (none),some (none),some (none),some (none),some (none),some (none),some (none),some (none),some (none),some (none),some (none),some (none),some ((some 4)),some ((some 4)),some (none),some (none),some (none),some (none),some (none),some (none),some (none),some (none),some (none),some (none),some (none),some (none),some (none),some (none),some (none),some (none),some (none),some ((some 28)),some (none),some (none),some (none),some (none),some (none),some ((some 4)),some ((some 4)),some (none),some (none),some (none),some (none),some (none),some (none),some (none),some (none),some (none),some (none),some (none),some (none),some (none),some (none),some (none),some (none),some (none),some ((some 2)),some ((some 2)),some (none),some (none),some ((some 5)),some ((some 5)),some (none),some (none),some (none),some (none),some (none),some (none),some (none),some (none),some ((some 1024)),some (none),some (none),some (none),some (none),some (none),some (none),some (none),some (none),some (none),some (none),some (none),some (none),some (none),some (none),some (none),some (none),some (none),some (none),some (none),some (none),some (none),some (none),some (none),some (none),some (none),some (none),some (none),some (none),some (none),some (none),some (none),some (none),some (none),some (none),some (none),some (none),some (none),some ((some 4)),some ((some 4)),some ((some 0)),some ((some 0)),some ((some 0)),some (none),some (none),some (none),some (none),some (none),some (none),some (none),some ((some 11)),some ((some 11)),some (none),some ((some 1025)),some ((some 1025)),some (none),some (none)]
theorem agOk:chk (fun i=>cq Tryz.prog i) 0 agL=agL:=by kernel_rfl
theorem ag(i:Nat){x:Option Nat}(h:agL[i]? =some (some x)):cq Tryz.prog i=some x:=by
 have:=gR agOk h
 simpa using this
def zlL:List (Option (List SV)):= [none,some ([.sc (.nilFunc)]),some ([.sc (.int .i64 0)]),some ([.sc (.int .i64 0)]),some ([.sc (.bool false)]),some ([.sc (.int .u8 0)]),some ([.sc (.int .u8 0)]),some ([.sc (.int .i64 0),.sc (.int .i64 0),.sc (.bool false),.sc (.int .u8 0)]),some ([.sc (.int .i64 0),.sc (.int .i64 0),.sc (.bool false),.sc (.int .u8 0)]),some ([.sc (.string ⟨#[]⟩)]),some ([.sc (.string ⟨#[]⟩)]),some ([.sc (.string ⟨#[]⟩)]),some ([.sc (.int .u64 0)]),some ([.sc (.string ⟨#[]⟩),.sc (.int .u64 0)]),some ([.sc (.string ⟨#[]⟩),.sc (.int .u64 0)]),some ([.sc (.pointer none)]),some ([.sc (.pointer none)]),some ([.sc (.pointer none)]),some ([.sc (.pointer none)]),some ([.sc (.pointer none)]),some ([.sc (.nilIface)]),some ([.sc (.int .i32 0)]),some ([.sc (.int .i64 0),.sc (.int .i64 0)]),some ([.sc (.int .i64 0),.sc (.int .i64 0)]),some ([.sc (.string ⟨#[]⟩),.sc (.int .i64 0),.sc (.int .i64 0)]),some ([.sc (.string ⟨#[]⟩),.sc (.int .i64 0),.sc (.int .i64 0)]),some ([.sc (.slice none 0 0)]),some ([.sc (.nilFunc)]),some ([.sc (.int .i64 0)]),none,some ([.sc (.nilFunc)]),none,some ([.sc (.nilFunc)]),none,some ([.sc (.nilFunc)]),some ([.sc (.nilFunc)]),some ([.sc (.nilFunc)]),some ([.sc (.nilFunc)]),some ([.sc (.nilFunc)]),some ([.sc (.nilFunc)]),some ([.sc (.slice none 0 0)]),some ([.sc (.nilFunc)]),some ([.sc (.pointer none)]),some ([.sc (.nilFunc)]),some ([.sc (.map none)]),some ([.sc (.bool false),.sc (.string ⟨#[]⟩),.sc (.int .i64 0),.sc (.int .i64 0),.sc (.int .i64 0),.sc (.int .i64 0),.sc (.int .i64 0),.sc (.int .u8 0)]),some ([.sc (.bool false),.sc (.string ⟨#[]⟩),.sc (.int .i64 0),.sc (.int .i64 0),.sc (.int .i64 0),.sc (.int .i64 0),.sc (.int .i64 0),.sc (.int .u8 0)]),none,none,none,none,some ([.sc (.slice none 0 0)]),none,none,some ([.sc (.nilFunc)]),some ([.sc (.bool false)]),some ([.sc (.slice none 0 0)]),none,some ([.sc (.nilFunc)]),some ([.sc (.nilFunc)]),some ([.sc (.nilFunc)]),some ([.sc (.slice none 0 0)]),some ([.sc (.nilFunc)]),some ([.sc (.nilFunc)]),none,some ([.sc (.nilFunc)]),none,some ([.sc (.nilFunc)]),some ([.sc (.nilFunc)]),some ([.sc (.nilFunc)]),some ([.sc (.slice none 0 0)]),none,some ([.sc (.nilFunc)]),some ([.sc (.nilFunc)]),some ([.sc (.nilFunc)]),some ([.sc (.nilFunc)]),some ([.sc (.nilFunc)]),some ([.sc (.nilIface)]),some ([.sc (.nilIface)]),some ([.sc (.slice none 0 0)]),none,some ([.sc (.nilFunc)]),some ([.sc (.slice none 0 0)]),none,none,none,some ([.sc (.nilFunc)]),some ([.sc (.nilFunc)]),none,some ([.sc (.nilFunc)]),none,some ([.sc (.nilFunc)]),some ([.sc (.nilFunc)]),none,some ([.sc (.nilFunc)]),some ([.sc (.nilFunc)]),some ([.sc (.nilFunc)]),some ([.sc (.int .i64 0),.sc (.string ⟨#[]⟩),.sc (.int .i64 0),.sc (.int .i64 0)]),some ([.sc (.int .i64 0),.sc (.string ⟨#[]⟩),.sc (.int .i64 0),.sc (.int .i64 0)]),some ([.sc (.pointer none)]),some ([.sc (.slice none 0 0)]),none,some ([.sc (.nilFunc)]),some ([.sc (.nilFunc)]),some ([.sc (.slice none 0 0)]),some ([.sc (.nilFunc)]),some ([.sc (.nilFunc)]),some ([.sc (.nilFunc)]),none,some ([.sc (.nilFunc)]),some ([.sc (.nilFunc)]),some ([.sc (.nilFunc)]),some ([.sc (.nilFunc)]),some ([.sc (.nilFunc)]),some ([.sc (.nilFunc)]),some ([.sc (.nilFunc)]),some ([.sc (.bool false),.sc (.bool false),.sc (.bool false),.sc (.bool false),.sc (.bool false),.sc (.bool false),.sc (.bool false),.sc (.bool false),.sc (.bool false),.sc (.bool false),.sc (.bool false),.sc (.bool false),.sc (.bool false),.sc (.bool false),.sc (.bool false),.sc (.bool false),.sc (.bool false),.sc (.bool false),.sc (.bool false),.sc (.bool false),.sc (.bool false),.sc (.bool false),.sc (.bool false),.sc (.bool false),.sc (.bool false),.sc (.bool false),.sc (.bool false),.sc (.bool false)]),some ([.sc (.nilFunc)]),some ([.sc (.nilFunc)]),some ([.sc (.nilFunc)]),some ([.sc (.nilFunc)]),some ([.sc (.nilFunc)]),some ([.sc (.string ⟨#[]⟩),.sc (.int .i64 0),.sc (.int .i64 0),.sc (.int .i64 0)]),some ([.sc (.string ⟨#[]⟩),.sc (.int .i64 0),.sc (.int .i64 0),.sc (.int .i64 0)]),some ([.sc (.nilFunc)]),some ([.sc (.nilFunc)]),some ([.sc (.nilFunc)]),some ([.sc (.pointer none)]),none,some ([.sc (.nilFunc)]),some ([.sc (.nilFunc)]),some ([.sc (.nilFunc)]),some ([.sc (.nilFunc)]),some ([.sc (.nilFunc)]),none,some ([.sc (.nilFunc)]),some ([.sc (.nilFunc)]),some ([.sc (.nilFunc)]),some ([.sc (.slice none 0 0)]),none,some ([.sc (.nilFunc)]),some ([.sc (.int .i64 0),.sc (.int .i64 0)]),some ([.sc (.int .i64 0),.sc (.int .i64 0)]),none,some ([.sc (.nilFunc)]),some ([.sc (.int .i64 0),.sc (.string ⟨#[]⟩),.sc (.int .i64 0),.sc (.int .i64 0),.sc (.bool false)]),some ([.sc (.int .i64 0),.sc (.string ⟨#[]⟩),.sc (.int .i64 0),.sc (.int .i64 0),.sc (.bool false)]),some ([.sc (.nilFunc)]),some ([.sc (.nilFunc)]),some ([.sc (.slice none 0 0)]),some ([.sc (.nilFunc)]),some ([.sc (.nilFunc)]),some ([.sc (.nilFunc)]),some ([.sc (.int .u64 0)]),some ([.sc (.nilFunc)]),none,some ([.sc (.nilFunc)]),some ([.sc (.nilFunc)]),some ([.sc (.int .u64 0)]),some ([.sc (.nilFunc)]),some ([.sc (.nilFunc)]),some ([.sc (.nilFunc)]),none,some ([.sc (.nilFunc)]),some ([.sc (.nilFunc)]),some ([.sc (.int .i64 0)]),none,some ([.sc (.nilFunc)]),some ([.sc (.nilFunc)]),some ([.sc (.nilFunc)]),some ([.sc (.nilFunc)]),some ([.sc (.nilFunc)]),some ([.sc (.int .u32 0)]),some ([.sc (.nilFunc)]),some ([.sc (.nilFunc)]),some ([.sc (.nilFunc)]),some ([.sc (.nilFunc)]),some ([.sc (.nilFunc)]),some ([.sc (.nilFunc)]),none,some ([.sc (.nilFunc)]),some ([.sc (.int .u64 0)]),some ([.sc (.nilFunc)]),some ([.sc (.nilFunc)]),some ([.sc (.nilFunc)]),some ([.sc (.pointer none)]),some ([.sc (.nilFunc)]),some ([.sc (.nilFunc)]),some ([.sc (.nilFunc)]),some ([.sc (.pointer none)]),some ([.sc (.nilFunc)]),some ([.sc (.nilFunc)]),some ([.sc (.nilFunc)]),some ([.sc (.pointer none),.sc (.pointer none),.sc (.pointer none),.sc (.string ⟨#[]⟩)]),some ([.sc (.pointer none),.sc (.pointer none),.sc (.pointer none),.sc (.string ⟨#[]⟩)]),some ([]),some ([]),some ([]),some ([.sc (.nilFunc)]),some ([.sc (.int .u8 0)]),some ([.sc (.int .u8 0)]),some ([.sc (.nilFunc)]),some ([.sc (.pointer none)]),some ([.sc (.int .i32 0)]),some ([.sc (.int .i32 0)]),some ([.sc (.int .u64 0),.sc (.int .u64 0),.sc (.int .u32 0),.sc (.int .u8 0),.sc (.int .u8 0),.sc (.int .u8 0),.sc (.int .u8 0),.sc (.nilFunc),.sc (.pointer none),.sc (.int .i32 0),.sc (.int .i32 0)]),some ([.sc (.int .u64 0),.sc (.int .u64 0),.sc (.int .u32 0),.sc (.int .u8 0),.sc (.int .u8 0),.sc (.int .u8 0),.sc (.int .u8 0),.sc (.nilFunc),.sc (.pointer none),.sc (.int .i32 0),.sc (.int .i32 0)]),some ([.sc (.nilFunc)]),none,none,some ([.sc (.nilFunc)]),some ([.sc (.pointer none)])]
theorem zlOk:chk (fun i=>my Tryz.prog i) 0 zlL=zlL:=by kernel_rfl
theorem zl(i:Nat){x:List SV}(h:zlL[i]? =some (some x)):my Tryz.prog i=some x:=by
 have:=gR zlOk h
 simpa using this
def plL:List (Option (List (Nat×Nat))):= [none,none,none,none,none,none,none,some ([(0,1),(1,1),(2,1),(3,1)]),some ([(0,1),(1,1),(2,1),(3,1)]),none,none,none,none,some ([(0,1),(1,1)]),some ([(0,1),(1,1)]),none,none,none,some ([(0,1)]),some ([(0,1)]),none,none,some ([(0,1),(1,1)]),some ([(0,1),(1,1)]),some ([(0,1),(1,2)]),some ([(0,1),(1,2)]),none,none,none,none,none,none,none,none,none,none,none,none,none,none,none,none,none,none,none,some ([(0,1),(1,3),(4,1),(5,1),(6,1),(7,1)]),some ([(0,1),(1,3),(4,1),(5,1),(6,1),(7,1)]),none,none,none,none,none,some ([(0,28672),(28672,1),(28673,1),(28674,1)]),some ([(0,28672),(28672,1),(28673,1),(28674,1)]),none,some ([(0,1)]),none,none,none,none,none,none,none,none,none,none,none,none,none,none,none,none,none,none,none,none,none,none,none,none,none,none,none,some ([(0,1),(1,1024),(1025,1),(1026,1)]),some ([(0,1),(1,1024),(1025,1),(1026,1)]),none,none,none,none,none,none,none,none,none,none,none,none,some ([(0,1),(1,3)]),some ([(0,1),(1,3)]),none,none,none,none,none,none,none,none,none,none,none,none,none,none,none,none,none,none,none,none,none,none,none,some ([(0,3),(3,1)]),some ([(0,3),(3,1)]),none,none,none,none,none,none,none,none,none,none,none,none,none,none,none,none,none,some ([(0,1),(1,1)]),some ([(0,1),(1,1)]),none,none,some ([(0,1),(1,3),(4,1)]),some ([(0,1),(1,3),(4,1)]),none,none,none,none,none,none,none,none,none,none,none,none,none,none,none,none,none,none,none,none,none,none,none,none,none,none,none,none,none,none,none,none,none,none,none,none,none,none,none,none,none,none,none,none,none,none,some ([(0,1),(1,1),(2,1),(3,1)]),some ([(0,1),(1,1),(2,1),(3,1)]),none,some ([(0,0)]),some ([(0,0)]),none,none,none,none,none,none,none,some ([(0,1),(1,1),(2,1),(3,1),(4,1),(5,1),(6,1),(7,1),(8,1),(9,1),(10,1)]),some ([(0,1),(1,1),(2,1),(3,1),(4,1),(5,1),(6,1),(7,1),(8,1),(9,1),(10,1)]),none,some ([(0,1),(1,1024)]),some ([(0,1),(1,1024)]),none,none]
theorem plOk:chk (fun i=>vq Tryz.prog i) 0 plL=plL:=by kernel_rfl
theorem pl(i:Nat){x:List (Nat×Nat)}(h:plL[i]? =some (some x)):vq Tryz.prog i=some x:=by
 have:=gR plOk h
 simpa using this
def zeL:List (Option (Value)):= [none,some (.nilFunc),some (.int .i64 0),some (.int .i64 0),some (.bool false),some (.int .u8 0),some (.int .u8 0),some (.agg #[.int .i64 0,.int .i64 0,.bool false,.int .u8 0]),some (.agg #[.int .i64 0,.int .i64 0,.bool false,.int .u8 0]),some (.string ⟨#[]⟩),some (.string ⟨#[]⟩),some (.string ⟨#[]⟩),some (.int .u64 0),some (.agg #[.string ⟨#[]⟩,.int .u64 0]),some (.agg #[.string ⟨#[]⟩,.int .u64 0]),some (.pointer none),some (.pointer none),some (.pointer none),some (.agg #[.pointer none]),some (.agg #[.pointer none]),some (.nilIface),some (.int .i32 0),some (.agg #[.int .i64 0,.int .i64 0]),some (.agg #[.int .i64 0,.int .i64 0]),some (.agg #[.string ⟨#[]⟩,.int .i64 0,.int .i64 0]),some (.agg #[.string ⟨#[]⟩,.int .i64 0,.int .i64 0]),some (.slice none 0 0),some (.nilFunc),some (.int .i64 0),none,some (.nilFunc),none,some (.nilFunc),none,some (.nilFunc),some (.nilFunc),some (.nilFunc),some (.nilFunc),some (.nilFunc),some (.nilFunc),some (.slice none 0 0),some (.nilFunc),some (.pointer none),some (.nilFunc),some (.map none),some (.agg #[.bool false,.string ⟨#[]⟩,.int .i64 0,.int .i64 0,.int .i64 0,.int .i64 0,.int .i64 0,.int .u8 0]),some (.agg #[.bool false,.string ⟨#[]⟩,.int .i64 0,.int .i64 0,.int .i64 0,.int .i64 0,.int .i64 0,.int .u8 0]),none,none,none,none,some (.slice none 0 0),none,none,some (.nilFunc),some (.agg #[.bool false]),some (.slice none 0 0),none,some (.nilFunc),some (.nilFunc),some (.nilFunc),some (.slice none 0 0),some (.nilFunc),some (.nilFunc),none,some (.nilFunc),none,some (.nilFunc),some (.nilFunc),some (.nilFunc),some (.slice none 0 0),none,some (.nilFunc),some (.nilFunc),some (.nilFunc),some (.nilFunc),some (.nilFunc),some (.nilIface),some (.nilIface),some (.slice none 0 0),none,some (.nilFunc),some (.slice none 0 0),none,none,none,some (.nilFunc),some (.nilFunc),none,some (.nilFunc),none,some (.nilFunc),some (.nilFunc),none,some (.nilFunc),some (.nilFunc),some (.nilFunc),some (.agg #[.int .i64 0,.string ⟨#[]⟩,.int .i64 0,.int .i64 0]),some (.agg #[.int .i64 0,.string ⟨#[]⟩,.int .i64 0,.int .i64 0]),some (.pointer none),some (.slice none 0 0),none,some (.nilFunc),some (.nilFunc),some (.slice none 0 0),some (.nilFunc),some (.nilFunc),some (.nilFunc),none,some (.nilFunc),some (.nilFunc),some (.nilFunc),some (.nilFunc),some (.nilFunc),some (.nilFunc),some (.nilFunc),some (.agg #[.bool false,.bool false,.bool false,.bool false,.bool false,.bool false,.bool false,.bool false,.bool false,.bool false,.bool false,.bool false,.bool false,.bool false,.bool false,.bool false,.bool false,.bool false,.bool false,.bool false,.bool false,.bool false,.bool false,.bool false,.bool false,.bool false,.bool false,.bool false]),some (.nilFunc),some (.nilFunc),some (.nilFunc),some (.nilFunc),some (.nilFunc),some (.agg #[.string ⟨#[]⟩,.int .i64 0,.int .i64 0,.int .i64 0]),some (.agg #[.string ⟨#[]⟩,.int .i64 0,.int .i64 0,.int .i64 0]),some (.nilFunc),some (.nilFunc),some (.nilFunc),some (.pointer none),none,some (.nilFunc),some (.nilFunc),some (.nilFunc),some (.nilFunc),some (.nilFunc),none,some (.nilFunc),some (.nilFunc),some (.nilFunc),some (.slice none 0 0),none,some (.nilFunc),some (.agg #[.int .i64 0,.int .i64 0]),some (.agg #[.int .i64 0,.int .i64 0]),none,some (.nilFunc),some (.agg #[.int .i64 0,.string ⟨#[]⟩,.int .i64 0,.int .i64 0,.bool false]),some (.agg #[.int .i64 0,.string ⟨#[]⟩,.int .i64 0,.int .i64 0,.bool false]),some (.nilFunc),some (.nilFunc),some (.slice none 0 0),some (.nilFunc),some (.nilFunc),some (.nilFunc),some (.int .u64 0),some (.nilFunc),none,some (.nilFunc),some (.nilFunc),some (.int .u64 0),some (.nilFunc),some (.nilFunc),some (.nilFunc),none,some (.nilFunc),some (.nilFunc),some (.int .i64 0),none,some (.nilFunc),some (.nilFunc),some (.nilFunc),some (.nilFunc),some (.nilFunc),some (.int .u32 0),some (.nilFunc),some (.nilFunc),some (.nilFunc),some (.nilFunc),some (.nilFunc),some (.nilFunc),none,some (.nilFunc),some (.int .u64 0),some (.nilFunc),some (.nilFunc),some (.nilFunc),some (.pointer none),some (.nilFunc),some (.nilFunc),some (.nilFunc),some (.pointer none),some (.nilFunc),some (.nilFunc),some (.nilFunc),some (.agg #[.pointer none,.pointer none,.pointer none,.string ⟨#[]⟩]),some (.agg #[.pointer none,.pointer none,.pointer none,.string ⟨#[]⟩]),some (.agg #[]),some (.agg #[]),some (.agg #[]),some (.nilFunc),some (.int .u8 0),some (.int .u8 0),some (.nilFunc),some (.pointer none),some (.int .i32 0),some (.int .i32 0),some (.agg #[.int .u64 0,.int .u64 0,.int .u32 0,.int .u8 0,.int .u8 0,.int .u8 0,.int .u8 0,.nilFunc,.pointer none,.int .i32 0,.int .i32 0]),some (.agg #[.int .u64 0,.int .u64 0,.int .u32 0,.int .u8 0,.int .u8 0,.int .u8 0,.int .u8 0,.nilFunc,.pointer none,.int .i32 0,.int .i32 0]),some (.nilFunc),none,none,some (.nilFunc),some (.pointer none)]
theorem zeOk:chk (fun i=>dq Tryz.prog i) 0 zeL=zeL:=by kernel_rfl
theorem ze(i:Nat){x:Value}(h:zeL[i]? =some (some x)):dq Tryz.prog i=some x:=by
 have:=gR zeOk h
 simpa using this
def foL:List (Option (List Nat)):= [none,none,none,none,none,none,none,some [0,1,2,3],some [0,1,2,3],none,none,none,none,some [0,1],some [0,1],none,none,none,some [0],some [0],none,none,some [0,1],some [0,1],some [0,1],some [0,1],none,none,none,none,none,none,none,none,none,none,none,none,none,none,none,none,none,none,none,some [0,1,4,5,6,7],some [0,1,4,5,6,7],none,none,none,none,none,some [0,28672,28673,28674],some [0,28672,28673,28674],none,some [0],none,none,none,none,none,none,none,none,none,none,none,none,none,none,none,none,none,none,none,none,none,none,none,none,none,none,none,some [0,1,1025,1026],some [0,1,1025,1026],none,none,none,none,none,none,none,none,none,none,none,none,some [0,1],some [0,1],none,none,none,none,none,none,none,none,none,none,none,none,none,none,none,none,none,none,none,none,none,none,none,some [0,3],some [0,3],none,none,none,none,none,none,none,none,none,none,none,none,none,none,none,none,none,some [0,1],some [0,1],none,none,some [0,1,4],some [0,1,4],none,none,none,none,none,none,none,none,none,none,none,none,none,none,none,none,none,none,none,none,none,none,none,none,none,none,none,none,none,none,none,none,none,none,none,none,none,none,none,none,none,none,none,none,none,none,some [0,1,2,3],some [0,1,2,3],none,none,none,none,none,none,none,none,none,none,some [0,1,2,3,4,5,6,7,8,9,10],some [0,1,2,3,4,5,6,7,8,9,10],none,some [0,1],some [0,1],none,none]
theorem foOk:zc (ii Tryz.prog) 0 foL:=by
 simp only [foL,zc]
 exact⟨by kernel_rfl,by kernel_rfl,by kernel_rfl,by kernel_rfl,by kernel_rfl,by kernel_rfl,by kernel_rfl,by kernel_rfl,by kernel_rfl,by kernel_rfl,by kernel_rfl,by kernel_rfl,by kernel_rfl,by kernel_rfl,by kernel_rfl,by kernel_rfl,by kernel_rfl,by kernel_rfl,by kernel_rfl,by kernel_rfl,by kernel_rfl,by kernel_rfl,by kernel_rfl,by kernel_rfl,by kernel_rfl,by kernel_rfl,by kernel_rfl,by kernel_rfl,by kernel_rfl,by kernel_rfl,by kernel_rfl,trivial⟩
theorem fo(i k:Nat){l:List Nat}{v:Nat}(h:foL[i]? =some (some l))(hk:l[k]? =some v):ii Tryz.prog i k=some v:=by
 have:=nm foOk h
 have:=qJ this hk
 simpa using this
def unL:List (Option TypeDesc):= [none,none,some (.int .i64),some (.int .i64),some (.bool),some (.int .u8),some (.int .u8),none,none,some (.string),some (.string),some (.string),some (.int .u64),none,none,some (.pointer 194),some (.pointer 197),some (.pointer 206),none,none,none,some (.int .i32),none,none,none,none,some (.slice 5),none,some (.int .i64),none,none,none,none,none,none,none,none,none,none,none,some (.slice 46),none,some (.pointer 53),none,some (.map 25 55),none,none,some (.array 1024 5),some (.array 1024 5),some (.array 28 48),some (.array 28 48),some (.slice 209),none,none,none,none,some (.slice 25),none,none,none,none,some (.slice 3),none,none,none,none,none,none,none,none,some (.slice 23),none,none,none,none,none,none,none,none,some (.slice 98),none,none,some (.slice 123),none,none,none,none,none,none,none,none,none,none,none,none,none,none,none,none,some (.pointer 50),some (.slice 146),none,none,none,some (.slice 26),none,none,none,none,none,none,none,none,none,none,none,some (.array 28 4),none,none,none,none,none,none,none,none,none,none,some (.pointer 48),none,none,none,none,none,none,none,none,none,none,some (.slice 142),none,none,none,none,none,none,none,none,none,none,some (.slice 112),none,none,none,some (.int .u64),none,some (.array 1024 4),none,none,some (.int .u64),none,none,none,none,none,none,some (.int .i64),none,none,none,none,none,none,some (.int .u32),none,none,none,none,none,none,none,none,some (.int .u64),none,none,none,some (.pointer 3),none,none,none,some (.pointer 181),none,none,none,none,none,some (.array 0 16),none,none,none,some (.int .u8),some (.int .u8),none,some (.pointer 5),some (.int .i32),some (.int .i32),none,none,none,none,none,none,none]
theorem unOk:chk (fun i=>Tryz.prog.underlying i) 0 unL=unL:=by kernel_rfl
theorem un(i:Nat){x:TypeDesc}(h:unL[i]? =some (some x)):Tryz.prog.underlying i=some x:=by
 have:=gR unOk h
 simpa using this
end F
end Go.Proofs.YtjjgjjlgchidlaaGreat
end
section
namespace Go.Sy
open Go Go.Sl Go.RowKit
section
variable {P:Program}
def qk:List Nat→Bool
 | []=>true
 | x :: l=> !(l.any (Nat.beq x)) && qk l
def extB(L:List Nat)(nx:Nat):Bool:=L.all (fun n=>Nat.blt n nx) && qk L
theorem nX: ∀ {l:List Nat},qk l=true→l.Nodup
 | [],_=>List.nodup_nil
 | x :: l,h=>by
   simp only [qk,zC,Bool.not_eq_true'] at h
   refine List.nodup_cons.2 ⟨fun hm=>?_,nX h.2⟩
   have:l.any (Nat.beq x)=true:=List.any_eq_true.2 ⟨x,hm,Nat.beq_refl x⟩
   rw [this] at h
   cases h.1
theorem ExtOk.of{L:List Nat}{nx:Nat}(h:extB L nx=true):ExtOk L nx:=by
 simp only [extB,zC] at h
 exact⟨fun n hn=>zn (List.all_eq_true.1 h.1 n hn),nX h.2⟩
theorem Ends.mk{k0:Nat}{c:Cz}{v:SV}{H:aJ}{nx:Nat}(σ:List Nat)(h1:ExtOk (nms k0 σ) nx)(h2:k0+σ.length=c.objs.length)(h3:v=c.v.ren (ext (nms k0 σ) nx))(h4:HasO (ext (nms k0 σ) nx) H 0 c.objs):Ends k0 c (v,H,nx):=⟨σ,h1,h2,h3,h4⟩
theorem Ends.val{k0:Nat}{u u':Value}{objs:List (Option VO)}{H:aJ}{nx:Nat}(h1:ExtOk (nms k0 []) nx)(h2:k0=objs.length)(h3:u=u')(h4:HasO (ext (nms k0 []) nx) H 0 objs):Ends k0 ⟨.sc u',objs⟩ (.sc u,H,nx):=⟨[],h1,by simpa using h2,by rw [h3];rfl,h4⟩
theorem HasO.mono{ρ:Nat→Nat}{H H':aJ}: ∀ {l:List (Option VO)} {i:Nat},HasO ρ H i l→(∀ n vo,H.at' n=some vo→H'.at' n=some vo)→HasO ρ H' i l
 | [],_,_,_=>trivial
 | none :: l,i,h,hH=>HasO.mono (l:=l) (i:=i+1) h hH
 | some v :: l,i,h,hH=>⟨hH _ _ h.1,HasO.mono (l:=l) (i:=i+1) h.2 hH⟩
theorem pV{ρ:Nat→Nat}: ∀ {l:List VO} {i:Nat} {H:aJ},HasO ρ H i (l.map some)→wrO ρ H i ((l.map some).map (Option.map (VO.ren ρ)))=H
 | [],_,_,_=>rfl
 | v :: l,i,H,h=>by
   have e:H.set (ρ i) (v.ren ρ)=H:=by
    funext n
    simp only [Tr.set]
    cases hb:Nat.beq n (ρ i)with
    | false=>rfl
    | true=>have:=Nat.eq_of_beq_eq_true hb;subst this;exact h.1.symm
   simp only [zF,zJ,wrO,e]
   exact pV (l:=l) (i:=i+1) h.2
theorem Ctr.callV{f:FuncId}{args0 args:List SV}{pre:List VO}{u:Value}(h:Ctr P f args0 pre (fun c=>c=⟨.sc u,pre.map some⟩))(L:List Nat){H:aJ}{nx:Nat}{Q:Pst}(hlen:L.length=pre.length)(hL:ExtOk L nx)(ha:args=args0.map (SV.ren (ext L nx)))
 (hp:HasO (ext L nx) H 0 (pre.map some)) (hQ:Q (.sc u,H,nx)):Fnc P f args H nx Q:=by
 refine h.call L hlen hL ha hp ?_
 rintro c rfl _
 rw [pV hp]
 simpa [SV.ren] using hQ
theorem Ctr.callM{f:FuncId}{args0 args:List SV}{pre:List VO}{c:Cz}(h:Ctr P f args0 pre (fun c'=>c'=c))(L:List Nat){H H':aJ}{nx nx':Nat}{v:SV}{Q:Pst}(hlen:L.length=pre.length)(hL:ExtOk L nx)(ha:args=args0.map (SV.ren (ext L nx)))
 (hp:HasO (ext L nx) H 0 (pre.map some)) (hv:c.v.ren (ext L nx)=v) (ho:wrO (ext L nx) H 0 (c.objs.map (Option.map (VO.ren (ext L nx))))=H') (hn:nx+(c.objs.length-pre.length)=nx') (hQ:Q (v,H',nx')):Fnc P f args H nx Q:=by
 refine h.call L hlen hL ha hp ?_
 rintro c' rfl _
 rw [hv,ho,hn]
 exact hQ
section
variable {ro:Option Nat} {fn nt nx:Nat} {T:Tr SV} {k:List AIt} {dfs:List ADf} {H:aJ} {Q:Pst} {ops:Array Oper} {i:Nat} {l:List Oper} {ty:TypeId} {pos:String} {af:Array Edge} {gd:Option (Nat×Bool)}
theorem fc{g:FuncId}{as1:List Operand}{ats:Array TypeId}{args args0:List SV}{pre:List VO}{u:Value}{dd:Nat}(hc:Ctr P g args0 pre (fun c=>c=⟨.sc u,pre.map some⟩))(L:List Nat)
 (hw:ar T ops ⟨some dd,.call {callee:= .value (.func g),args:=as1.toArray,argTypes:=ats},ty,pos,af,gd⟩=some true) (hd:Nat.blt dd nt=true) (ha:dw T as1=some args) (hm:cf P g=true)
 (hlen:L.length=pre.length) (hL:ExtOk L nx) (hA:args=args0.map (SV.ren (ext L nx))) (hp:HasO (ext L nx) H 0 (pre.map some))
 (h:Wp P ro ⟨fn,nt,T.set dd (.sc u),.inReg ops (i+1) l :: k,dfs,H,nx⟩ Q) :
 Wp P ro ⟨fn,nt,T,.inReg ops i (⟨some dd,.call {callee:= .value (.func g),args:=as1.toArray,argTypes:=ats},ty,pos,af,gd⟩ :: l) :: k,dfs,H,nx⟩ Q:=
 aL hw hd ha hm (hc.callV L hlen hL hA hp h)
end
theorem lP{k:IntKind}{a b:Int}(h:a=b):some (SV.sc (.int k a))=some (SV.sc (.int k b)):=by rw [h]
theorem gt{H:aJ}{ρ:Nat→Nat}{n:Nat}{t:TypeId}{l:List SV}(h:H.at' n=some (az t (SV.iu ρ l))):H.at' n=some ((az t l).ren ρ):=by rw [w5];exact h
theorem c7{H:aJ}{ρ:Nat→Nat}{n:Nat}{ro:Bool}{ne sz:Nat}{t:TypeId}{vs:List Value}(h:H.at' n=some (dat ro ne sz t vs)):H.at' n=some ((dat ro ne sz t vs).ren ρ):=by rw [eb];exact h
end
theorem cR(ro:Bool)(ne sz:Nat)(t:TypeId)(vs:List Value):VO.row ro ne sz t (eN (vs.map .sc))=dat ro ne sz t vs:=by
 unfold dat eN
 congr 1
 funext i
 rw [List.getElem?_map]
section
variable {P:Program} {K:Zone} {w0 w:World} {e:Env} {H:aJ} {nx:Nat} {T:Tr SV} {ev:Operand→Value} {d:Option Tmp} {ty:TypeId} {pos:String} {af:Array Edge} {gd:Option (Nat×Bool)}
theorem tu{el:TypeId}{sz n cap:Nat}{l:List SV}{vs:List Value}{s:Sem Value}(hS:St K w0 e H nx w)(hl:SV.aQ e l=some vs)(hlen:vs.length=cap*sz)(hn:n≤cap)(hcap:cap≤maxLen)(h0:0<sz)
 (hrun:s.run P w = .ok (.slice (some ⟨w.heap.size,0,none⟩) n cap) {w with heap:=w.heap.push (.cells vs.toArray el)}):iv P K w0 e (.val (.slu nx 0 n),H.set nx (.row false n sz el (eN l)),nx+1) s w:=by
 have hf:=hS.fresh nx (zD _)
 have hle:=Env.cN (x:=⟨w.heap.size,0,cap,sz,false⟩) hf
 refine⟨e.put nx ⟨w.heap.size,0,cap,sz,false⟩,_,.slu nx 0 n,_,rfl,hle,?_,by simp [SV.conc,Env.bz,Ent.at],hrun⟩
 refine hS.new (o:= .cells vs.toArray el) rfl rfl rfl rfl rfl rfl rfl ⟨rfl,vs.toArray,(0,0),el,rfl,hn,by simp [hlen],hcap,fun _=>xx _,h0,fun i hi s hs=>?_⟩
 rw [ic] at hs
 obtain⟨v,hv,hg⟩:=eJ (SV.cd hle _ _ hl) hs
 exact⟨v,hv,by simpa using hg⟩
theorem f9{t el:TypeId}{len sz:Nat}{parts:List (Nat×Operand)}{ps:List (Nat×SV)}{z:Value}{l:List SV}(hu:P.underlying t=some (.slice el))(hs:bA P el=some sz)(h0:0<sz)(hz:dq P el=some z)(hp:iU T parts=some ps)
 (hf:fh (fun i=>some (i*sz,sz)) (((List.range (len*sz)).map (z.cells[·% z.cells.size]!)).map .sc) ps=some l) (h1:cG l=true) (hlen:Nat.ble (len*sz) 16777216=true) (hll:l.length=len*sz) :
 OpDoes P T H nx ⟨d,.buildSlice t len parts.toArray,ty,pos,af,gd⟩ (.val (.slu nx 0 len),H.set nx (.row false len sz el (eN l)),nx+1):=by
 intro K w0 e w ev hS hE
 have hle:=bH hlen
 have hlm:len≤maxLen:=by
  unfold maxLen
  have:len*1≤len*sz:=Nat.mul_le_mul_left _ h0
  omega
 refine dY (w:=w) (s:=Instr.buildSlice t len (parts.toArray.map fun x=>(x.1,ev x.2))) ?_ (fun v w' hr=>by simp only [execOp,Sem.run_bind];rw [hr];simp)
 have hpr:=hE.parts parts ps hp
 have hpr':yd e ps (parts.toArray.map fun x=>(x.1,ev x.2)).toList:=by simpa using hpr
 obtain⟨vs,g1,g2⟩:=ow (e:=e) ps _ _ l _ hf hpr' (eu _)
 have hvl:=cX g2
 refine tu hS g2 (by omega) (zD _) hlm h0 ?_
 by_cases hz0:len*sz=0
 ·have hvs:vs= []:=zz (by omega)
  subst hvs
  have hps:ps= []:=by
   cases ps with
   | nil=>rfl
   | cons p ps=>
     exfalso
     simp only [hz0,List.range_zero,List.map_nil,fh,List.length_nil,Nat.le_zero_eq] at hf
     have hlen0:len=0:=by
      rcases Nat.eq_zero_or_pos len with h|h
      ·exact h
      ·have:=Nat.mul_pos h h0;omega
     cases hb:(Nat.beq p.2.cells.length sz && Nat.ble (p.1*sz+sz) 0)with
     | false=>rw [hb] at hf;cases hf
     | true=>
       rw [zC] at hb
       have:=bH hb.2
       omega
  subst hps
  have hq:(parts.toArray.map fun x=>(x.1,ev x.2)).toList= []:=by
   cases hq:(parts.toArray.map fun x=>(x.1,ev x.2)).toList with
   | nil=>rfl
   | cons _ _=>rw [hq] at hpr';exact hpr'.elim
  have hq2:List.map (fun x=>(x.fst,ev x.snd)) parts= []:=by simpa using hq
  simp [Instr.buildSlice,run_underlying hu,cg hs,hz0,hq2,Instr.fill,newRow,show Array.range 0=(#[]:Array Nat)from by decide]
 ·have hr:(Array.range (len*sz)).map (z.cells[·% z.cells.size]!)=((List.range (len*sz)).map (z.cells[·% z.cells.size]!)).toArray:=by
   apply Array.ext'
   simp
  simp only [Instr.buildSlice,run_underlying hu,Sem.run_bind,Result.andThen,cg hs]
  rw [if_neg (by omega)]
  simp only [Sem.run_pure,if_neg hz0,Sem.run_bind,Result.andThen,fe hz,hr,g1,newRow,run_newObj]
def RdV(P:Program)(H:aJ)(sz:Nat)(s:SV)(m:Nat)(vs:List Value):Prop:=a7 H sz s=some (m,vs.map .sc)
theorem pp{b eo n ne sz:Nat}{ro:Bool}{t:TypeId}{vs us:List Value}(hb:H.at' b=some (dat ro ne sz t vs))(hn:eo+n≤ne)(hu:(vs.drop (eo*sz)).take (n*sz)=us)(hl:us.length=n*sz):RdV P H sz (.slu b eo n) n us:=by
 unfold RdV
 simp only [a7,hb,dat,Nat.beq_refl,Bool.true_and]
 rw [show Nat.ble (eo+n) ne=true from zp hn]
 have:=dm (ro:=ro) (ne:=ne) (sz:=sz) (t:=t) (vs:=vs) (n*sz) (eo*sz) hu hl (by rw [← Nat.add_mul];exact Nat.mul_le_mul_right _ hn)
 unfold dat at this
 simp only [cond_true,this,zJ]
def nV(vs:List Value):Prop:= ∀ v∈vs,v.oneCell'=true
theorem fO{vs:List Value}(h:nV vs):cG (vs.map .sc)=true:=by
 induction vs with
 | nil=>rfl
 | cons v vs ih=>
   simp only [zF,cG,zC]
   refine⟨?_,ih fun u hu=>h u (List.mem_cons_of_mem _ hu)⟩
   have:=h v (List.mem_cons_self ..)
   cases v <;> first|rfl|(simp [Value.oneCell'] at this)
theorem jU{t:TypeId}{n b:Nat}(hb:(P.info? t).map (·.bytes)=some b)(h1:n*b≤140737488355328)(h2:n≤1000000000):ec P t n=true:=by
 unfold ec
 cases hi:P.info? t with
 | none=>rw [hi] at hb;cases hb
 | some i=>
   rw [hi] at hb
   simp only [zJ,zh] at hb
   simp only [hb,zC]
   exact⟨zp h1,zp h2⟩
theorem tf{t tx el:TypeId}{sz m b r eo n:Nat}{s x:Operand}{v:SV}{us vs ws:List Value}(hu:P.underlying t=some (.slice el))(hk:(∃ e',P.underlying tx=some (.slice e'))∨P.underlying tx=some .string)(hs:bA P el=some sz)(h0:0<sz)
 (hz:eG P el sz=true) (hb:(P.info? el).map (·.bytes)=some b) (hx0:am T s=some (.slu r eo n)) (hx:am T x=some v) (hro:H.at' r=some (dat false (eo+n) sz el us)) (hr0:(us.drop (eo*sz)).take (n*sz)=ws) (hl0:ws.length=n*sz) (hr:RdV P H sz v m vs) (h1:nV vs)
 (hm:0<m) (hm1:(n+m)*b≤140737488355328) (hm2:n+m≤1000000000) :
 OpDoes P T H nx ⟨d,.call {callee:= .builtin .append,args:= #[s,x],argTypes:= #[t,tx]},ty,pos,af,gd⟩ (.val (.slu nx 0 (n+m)),(H.del r).set nx (dat false (n+m) sz el (ws ++ vs)),nx+1):=by
 have hap:dL P H nx el (.slu r eo n) v=some (.val (.slu nx 0 (n+m)),(H.del r).set nx (.row false (n+m) sz el (eN (ws.map .sc ++ vs.map .sc))),nx+1):=by
  unfold dL
  rw [hs]
  cases sz with
  | zero=>omega
  | succ sz=>
    simp only
    rw [show a7 H (sz+1) v=some (m,vs.map .sc)from hr]
    have hold:a7 H (sz+1) (.slu r eo n)=some (n,ws.map .sc):=pp (P:=P) hro (zD _) hr0 hl0
    simp only [fO h1,Bool.not_true,cond_false,hold]
    rw [hro]
    simp only [dat,Nat.beq_refl,jU hb hm1 hm2,hz,Bool.not_false,Bool.and_self,cond_true]
    rw [show Nat.beq m 0=false from by cases hq:Nat.beq m 0 with|false=>rfl|true=>have:=Nat.eq_of_beq_eq_true hq;omega]
    rfl
 rw [← zI,cR] at hap
 refine iW ?_
 rcases hk with ⟨e',hk⟩|hk <;> simp only [fl,dw,hx0,hx,zK,eF,fu,hu,hk,hap]
def uz(T:Tr SV)(dflt:Nat)(x:Option Operand)(n:Nat):Prop:=natOr T dflt x=some n
theorem fY{t el:TypeId}{x:Operand}{lo hi:Option Operand}{b eo n l h:Nat}{ro:Bool}{ne sz:Nat}{rt:TypeId}{c:Tr SV}(hu:P.underlying t=some (.slice el))(hs:bA P el=some sz)(hx:am T x=some (.slu b eo n))(hb:H.at' b=some (.row ro ne sz rt c))
 (hl:uz T 0 lo l) (hh:uz T n hi h) (h1:l≤h) (h2:eo+h≤ne) (h3:eo+l<ne):ReadDoes P T H ⟨d,.slice t x lo hi none,ty,pos,af,gd⟩ (.slu b (eo+l) (h-l)):=by
 refine eA ?_
 unfold uz at hl hh
 simp only [c6,hx,zK,jY,hu,hb,hs,hl,hh,Nat.beq_refl,Bool.true_and]
 rw [show Nat.ble l h=true from zp h1,show Nat.ble (eo+h) ne=true from zp h2,show Nat.blt (eo+l) ne=true from zp h3]
 rfl
theorem gE{ne sz:Nat}{t:TypeId}: ∀ (vs l:List Value) (o:Nat),o+vs.length≤ne*sz→o+vs.length≤l.length→nV vs→(dat false ne sz t l).setCells o (vs.map .sc)=some (dat false ne sz t (l.take o ++ vs ++ l.drop (o+vs.length)))
 | [],l,o,_,_,_=>by simp [VO.setCells]
 | v :: vs,l,o,h,hl,h1=>by
   simp only [zG] at h hl
   have hset:(dat false ne sz t l).setCell o (.sc v)=some (dat false ne sz t (l.set o v)):=by
    simp only [dat,VO.setCell]
    have hone:(SV.sc v).one=true:=by
     have:=fO (vs:= [v]) (fun u hu=>h1 u (by simp at hu;subst hu;exact List.mem_cons_self ..))
     simpa [cG] using this
    rw [show Nat.blt o (ne*sz)=true from zp (by omega),hone]
    simp only [Bool.and_self,cond_true,zh]
    congr 1
    funext i
    simp only [Tr.set]
    rw [List.getElem?_set]
    by_cases hi:o=i
    ·subst hi
     rw [if_pos rfl,if_pos (by omega),Nat.beq_refl]
     rfl
    ·rw [if_neg hi,show Nat.beq i o=false from by cases hb:Nat.beq i o with|false=>rfl|true=>exact absurd (Nat.eq_of_beq_eq_true hb).symm hi]
     rfl
   simp only [zF,VO.setCells,hset]
   rw [gE vs (l.set o v) (o+1) (by omega) (by rw [List.length_set];omega) (fun u hu=>h1 u (List.mem_cons_of_mem _ hu))]
   simp only [zh]
   congr 1
   have e1:(l.set o v).take (o+1)=l.take o ++ [v]:=by
    rw [List.take_set,List.set_eq_take_append_cons_drop,if_pos (by rw [List.length_take];omega),List.take_take,Nat.min_eq_left (by omega),List.drop_eq_nil_of_le (by rw [List.length_take];omega)]
   have e2:(l.set o v).drop (o+1+vs.length)=l.drop (o+(vs.length+1)):=by
    rw [List.drop_set_of_lt (by omega)]
    congr 1
    omega
   rw [e1,e2]
   simp
theorem nT{t rt:TypeId}{a x:Operand}{b o n ne sz:Nat}{l vs:List Value}{v:SV}(hs:bA P t=some n)(ha:am T a=some (.ptr b o))(hx:am T x=some v)(hv:v.cells=vs.map .sc)(hb:H.at' b=some (dat false ne sz rt l))(hn:vs.length=n)(ho:o+n≤ne*sz)(hl:o+n≤l.length)
 (h1:nV vs):OpDoes P T H nx ⟨d,.store t a x,ty,pos,af,gd⟩ (.skip,H.set b (dat false ne sz rt (l.take o ++ vs ++ l.drop (o+n))),nx):=by
 refine iW ?_
 subst hn
 unfold fl
 simp only [ha,hx,hv,nH,hs,List.length_map,Nat.beq_refl,cond_true,ez,hb,gE vs l o ho hl h1]
end
theorem ft{A:Type}{f:A→List Value}{sz:Nat}(hf: ∀ a,(f a).length=sz): ∀ xs:List A,(xs.flatMap f).length=xs.length*sz
 | []=>by simp
 | x :: xs=>by rw [List.flatMap_cons,zH,hf,ft hf xs,zG,Nat.add_mul];omega
theorem ly{A:Type}{f:A→List Value}{sz:Nat}(hf: ∀ a,(f a).length=sz): ∀ (xs:List A) (i:Nat),(xs.flatMap f).drop (i*sz)=(xs.drop i).flatMap f
 | xs,0=>by simp
 | [],i+1=>by simp
 | x :: xs,i+1=>by
   rw [List.flatMap_cons,List.drop_succ_cons,←ly hf xs i,show(i+1)*sz=(f x).length+i*sz by rw [hf,Nat.add_mul];omega,List.drop_length_add_append]
theorem gO{A:Type}{f:A→List Value}{sz:Nat}(hf: ∀ a,(f a).length=sz): ∀ (xs:List A) (i:Nat),(xs.flatMap f).take (i*sz)=(xs.take i).flatMap f
 | xs,0=>by simp
 | [],i+1=>by simp
 | x :: xs,i+1=>by
   rw [List.flatMap_cons,List.take_succ_cons,List.flatMap_cons,←gO hf xs i,show(i+1)*sz=(f x).length+i*sz by rw [hf,Nat.add_mul];omega,List.take_length_add_append]
theorem qB{A:Type}{f:A→List Value}{sz:Nat}(hf: ∀ a,(f a).length=sz){xs:List A}{i:Nat}{a:A}(h:xs[i]? =some a):((xs.flatMap f).drop (i*sz)).take sz=f a:=by
 rw [ly hf]
 obtain⟨hi,rfl⟩:=zm.1 h
 rw [List.drop_eq_getElem_cons hi,List.flatMap_cons,List.take_append_of_le_length (by rw [hf];exact zD _),zu (by rw [hf];exact zD _)]
theorem vL{A:Type}{f:A→List Value}{sz:Nat}(hf: ∀ a,(f a).length=sz){xs:List A}{i:Nat}(hi:i<xs.length)(a:A):(xs.flatMap f).take (i*sz) ++ f a ++ (xs.flatMap f).drop (i*sz+sz)=(xs.set i a).flatMap f:=by
 rw [List.set_eq_take_append_cons_drop,if_pos hi,List.flatMap_append,List.flatMap_cons,gO hf,show i*sz+sz=(i+1)*sz by rw [Nat.add_mul];omega,ly hf,List.append_assoc]
structure RecOf {A:Type} (f:A→List Value) (sz:Nat):Prop where
 len: ∀ a,(f a).length=sz
 one: ∀ a,nV (f a)
theorem yE{A:Type}{g:A→Value}(hg: ∀ a,(g a).oneCell'=true):RecOf (fun a=> [g a]) 1:=⟨fun _=>rfl,fun a v hv=>by simp only [List.mem_singleton] at hv;subst hv;exact hg a⟩
abbrev arr{A:Type}(ro:Bool)(ne sz:Nat)(t:TypeId)(f:A→List Value)(d:Array A):VO:=dat ro ne sz t (d.toList.flatMap f)
section
variable {P:Program} {T:Tr SV} {H:aJ} {nx:Nat} {d0:Option Tmp} {ty:TypeId} {pos:String} {af:Array Edge} {gd:Option (Nat×Bool)}
theorem eL{t e:TypeId}{x y:Operand}{b n i:Nat}{k:IntKind}{j:Int}{ro:Bool}{ne sz:Nat}{rt:TypeId}{c:Tr SV}(hu:P.underlying t=some (.slice e))(hs:bA P e=some sz)(hx:am T x=some (.slu b 0 n))(hy:am T y=some (.sc (.int k j)))
 (hb:H.at' b=some (.row ro ne sz rt c)) (hj:j=(i:Int)) (hi:i<n) (hne:n≤ne):ReadDoes P T H ⟨d0,.indexAddr t x y,ty,pos,af,gd⟩ (.ptr b (i*sz)):=by
 subst hj
 have:=eU (d:=d0) (ty:=ty) (pos:=pos) (af:=af) (gd:=gd) hu hs hx hy hb (by omega) (by omega) (by omega)
 simpa using this
theorem xX{A:Type} [Inhabited A]{d:Array A}{i:Nat}(hi:i<d.size):d.toList[i]? =some d[i]! :=by
 rw [Array.getElem?_toList,zv hi,getElem!_pos d i hi]
theorem pN{A:Type}{d:Array A}{i sz ne:Nat}(hi:i<d.size)(hne:d.size≤ne):i*sz+sz≤ne*sz:=by
 have:(i+1)*sz≤ne*sz:=Nat.mul_le_mul_right _ (by omega)
 rw [Nat.add_mul] at this
 omega
theorem yH{A:Type} [Inhabited A]{f:A→List Value}{t rt:TypeId}{x:Operand}{b i ne sz:Nat}{ro:Bool}{d:Array A}(ha:cq P t=some (some sz))(hx:am T x=some (.ptr b (i*sz)))(hf:RecOf f sz)(hb:H.at' b=some (arr ro ne sz rt f d))(hi:i<d.size)(hne:d.size≤ne) :
 ReadDoes P T H ⟨d0,.load t x,ty,pos,af,gd⟩ (.agg ((f d[i]!).map .sc)):=
 bg ha hx hb (dm sz (i*sz) (qB hf.len (xX hi)) (hf.len _) (pN hi hne))
theorem yJ{A:Type}{f:A→List Value}{t rt:TypeId}{a x:Operand}{b i ne sz:Nat}{d:Array A}{v:A}{u:SV}(hs:bA P t=some sz)(ha:am T a=some (.ptr b (i*sz)))(hx:am T x=some u)(hu:u.cells=(f v).map .sc)(hf:RecOf f sz)(hb:H.at' b=some (arr false ne sz rt f d))(hi:i<d.size)(hne:d.size≤ne) :
 OpDoes P T H nx ⟨d0,.store t a x,ty,pos,af,gd⟩ (.skip,H.set b (arr false ne sz rt f (d.setIfInBounds i v)),nx):=by
 have hsz:d.toList.length=d.size:=rfl
 have h:=nT (d:=d0) (ty:=ty) (pos:=pos) (af:=af) (gd:=gd) (nx:=nx) hs ha hx hu hb (hf.len v) (pN hi hne) (by rw [ft hf.len];exact pN hi (zD _)) (hf.one v)
 have e:=vL hf.len (xs:=d.toList) (i:=i) (by rw [hsz];exact hi) v
 rw [e] at h
 unfold arr
 rw [Array.toList_setIfInBounds]
 exact h
end
structure DrawK (P:Program) (nt:Nat) (ops:Array Oper) (i:Nat) (l:List Oper) (s:DS) (K:DS→Prop):Prop where
 ex: ∃ s',DrawRun P (wpr P) nt ops i l s s'∧K s'
def AllH(Q:List (aJ×Nat))(p:aJ→Prop):Prop:=match Q with
 | []=>True
 | q :: l=>p q.1∧AllH l p
theorem AllH.get{p:aJ→Prop}: ∀ {Q:List (aJ×Nat)},AllH Q p→ ∀ {i:Nat} {H:aJ} {n:Nat},Q[i]? =some (H,n)→p H
 | [],_,i,H,n,h=>by simp at h
 | q :: l,hh,i,H,n,h=>by
   cases i with
   | zero=>simp only [zB,zh] at h;subst h;exact hh.1
   | succ i=>exact AllH.get hh.2 (by simpa using h)
def FlOk(P:Program)(ancs chain:List Nat)(Q:List (aJ×Nat)):List Rec→Prop
 | []=>True
 | r :: l=>((r.chain || !r.wanted || (Nat.beq (eM (ancs.getD r.i 0) chain) r.stg && Nat.beq (dc ancs r.i chain) r.stg))=true∨AllH Q (fun H=>ReadDoes P r.T H r.o r.val))∧FlOk P ancs chain Q l
theorem FlOk.ok{P:Program}{ancs chain:List Nat}{Q:List (aJ×Nat)}: ∀ {l:List Rec},FlOk P ancs chain Q l→ ∀ r∈l,r.chain=false→r.wanted=true→ ∀ st,eM (ancs.getD r.i 0) chain≤st→st≤dc ancs r.i chain→st≠r.stg→ ∀ H n,Q.reverse[st]? =some (H,n)→ReadDoes P r.T H r.o r.val
 | [],_,r,hm,_,_,_,_,_,_,_,_,_=>by cases hm
 | r0 :: l,hh,r,hm,hc,hw,st,h1,h2,h3,H,n,hq=>by
   rcases List.mem_cons.1 hm with rfl|hm
   ·rcases hh.1 with h|h
    ·rw [hc,hw] at h
     simp only [Bool.not_true,Bool.or_false,Bool.false_or,zC] at h
     have q1:=bk h.1
     have q2:=bk h.2
     omega
    ·have hlt:=(zm.1 hq).1
     rw [List.getElem?_reverse (by simpa using hlt)] at hq
     exact h.get hq
   ·exact FlOk.ok hh.2 r hm hc hw st h1 h2 h3 H n hq
theorem lG{v:Value}(h:v.oneCell'=true):(SV.sc v).cells= [.sc v]:=by
 cases v <;> first|rfl|(simp [Value.oneCell'] at h)
theorem th{v:Value}(h:v.oneCell'=true):(SV.sc v).one=true:=by
 cases v <;> first|rfl|(simp [Value.oneCell'] at h)
section
variable {P:Program} {T:Tr SV} {H:aJ} {nx:Nat} {d:Option Tmp} {ty:TypeId} {pos:String} {af:Array Edge} {gd:Option (Nat×Bool)}
theorem xn{t el:TypeId}{x0 x1 x2:Operand}{v0 v1 v2 z:Value}(hu:P.underlying t=some (.slice el))(hs:bA P el=some 1)(hz:dq P el=some z)(h0:am T x0=some (.sc v0))(h1:am T x1=some (.sc v1))(h2:am T x2=some (.sc v2))(o0:v0.oneCell'=true)(o1:v1.oneCell'=true)(o2:v2.oneCell'=true) :
 OpDoes P T H nx ⟨d,.buildSlice t 3 #[(0,x0),(1,x1),(2,x2)],ty,pos,af,gd⟩ (.val (.slu nx 0 3),H.set nx (dat false 3 1 el [v0,v1,v2]),nx+1):=by
 rw [← cR]
 refine f9 (parts:= [(0,x0),(1,x1),(2,x2)]) (ps:= [(0,.sc v0),(1,.sc v1),(2,.sc v2)]) hu hs (by decide) hz (by simp [iU,h0,h1,h2]) ?_ (by simp [cG,th o0,th o1,th o2]) rfl rfl
 simp [fh,lG o0,lG o1,lG o2,List.range_succ]
 rfl
end
section
variable {P:Program} {ro:Option Nat} {fn nt nx:Nat} {T:Tr SV} {k:List AIt} {dfs:List ADf} {H:aJ} {Q:Pst} {ops:Array Oper} {i:Nat} {l:List Oper} {d:Option Tmp} {ty:TypeId} {pos:String} {af:Array Edge} {gd:Option (Nat×Bool)}
theorem lY{id:Nat}{ops:List Oper}(hm:P.follows .mixedOrders=true)(hr:fW nt ops=true)
 (h:DrawK P nt ops.toArray 0 ops ⟨T,H,nx,[],[(H,nx)],0⟩ (fun s=>dT (bM [] ops) (bG s)=true∧FlOk P (bM [] ops) (bG s) s.Hs s.recs∧Wp P ro ⟨fn,nt,s.T,k,dfs,s.H,s.nx⟩ Q)) :
 Wp P ro ⟨fn,nt,T,.code (.region id ops.toArray true) :: k,dfs,H,nx⟩ Q:=by
 obtain⟨s,hs,h1,h2,h3⟩:=h.ex
 exact .step ⟨hm,s,⟨hr,hs,h1,fun r hr=>FlOk.ok h2 r hr⟩,h3⟩
section
variable {K:DS→Prop} {rs:List Rec} {Hs:List (aJ×Nat)} {stg:Nat} {dd:Nat} {op:Op}
theorem bZ{s:DS}(h:K s):DrawK P nt ops i [] s K:=⟨⟨s,.nil _ _,h⟩⟩
theorem cZ(hw:ar (aG T (aF ops.toList ⟨some dd,op,ty,pos,af,gd⟩)) ops ⟨some dd,op,ty,pos,af,gd⟩=some false)(hd:Nat.blt dd nt=true)
 (h:DrawK P nt ops (i+1) l ⟨T.set dd de,H,nx,⟨i,⟨some dd,op,ty,pos,af,gd⟩,aG T (aF ops.toList ⟨some dd,op,ty,pos,af,gd⟩),stg,false,false,de⟩ :: rs,Hs,stg⟩ K) :
 DrawK P nt ops i (⟨some dd,op,ty,pos,af,gd⟩ :: l) ⟨T,H,nx,rs,Hs,stg⟩ K:=by
 obtain⟨s',h1,h2⟩:=h.ex
 refine⟨⟨s',.cons (.inl ⟨hw,?_⟩) h1,h2⟩⟩
 simp only [aC hd]
theorem bl{v:SV}(hw:ar (aG T (aF ops.toList ⟨some dd,op,ty,pos,af,gd⟩)) ops ⟨some dd,op,ty,pos,af,gd⟩=some true)(hd:Nat.blt dd nt=true)(hnd: ∀ c,op ≠ .defer c)
 (hr:ReadDoes P (aG T (aF ops.toList ⟨some dd,op,ty,pos,af,gd⟩)) H ⟨some dd,op,ty,pos,af,gd⟩ v)
 (h:DrawK P nt ops (i+1) l ⟨T.set dd v,H,nx,⟨i,⟨some dd,op,ty,pos,af,gd⟩,aG T (aF ops.toList ⟨some dd,op,ty,pos,af,gd⟩),stg,false,true,v⟩ :: rs,Hs,stg⟩ K) :
 DrawK P nt ops i (⟨some dd,op,ty,pos,af,gd⟩ :: l) ⟨T,H,nx,rs,Hs,stg⟩ K:=by
 obtain⟨s',h1,h2⟩:=h.ex
 refine⟨⟨s',.cons (.inr (.inl ⟨hw,hnd,v,hr,?_⟩)) h1,h2⟩⟩
 simp only [aC hd]
theorem lE{v:SV}{H':aJ}{nx':Nat}(hw:ar (aG T (aF ops.toList ⟨some dd,op,ty,pos,af,gd⟩)) ops ⟨some dd,op,ty,pos,af,gd⟩=some true)(hd:Nat.blt dd nt=true)(hnd: ∀ c,op ≠ .defer c)
 (hr:OpDoes P (aG T (aF ops.toList ⟨some dd,op,ty,pos,af,gd⟩)) H nx ⟨some dd,op,ty,pos,af,gd⟩ (.val v,H',nx'))
 (h:DrawK P nt ops (i+1) l ⟨T.set dd v,H',nx',⟨i,⟨some dd,op,ty,pos,af,gd⟩,aG T (aF ops.toList ⟨some dd,op,ty,pos,af,gd⟩),stg,true,true,v⟩ :: rs,(H',nx') :: Hs,stg+1⟩ K) :
 DrawK P nt ops i (⟨some dd,op,ty,pos,af,gd⟩ :: l) ⟨T,H,nx,rs,Hs,stg⟩ K:=by
 obtain⟨s',h1,h2⟩:=h.ex
 refine⟨⟨s',.cons (.inr (.inr ⟨hw,v,H',nx',⟨_,hr,hnd,rfl⟩,?_⟩)) h1,h2⟩⟩
 simp only [aC hd]
theorem nd{H':aJ}{nx':Nat}(hw:ar (aG T (aF ops.toList ⟨none,op,ty,pos,af,gd⟩)) ops ⟨none,op,ty,pos,af,gd⟩=some true)(hnd: ∀ c,op ≠ .defer c)
 (hr:OpDoes P (aG T (aF ops.toList ⟨none,op,ty,pos,af,gd⟩)) H nx ⟨none,op,ty,pos,af,gd⟩ (.skip,H',nx'))
 (h:DrawK P nt ops (i+1) l ⟨T,H',nx',⟨i,⟨none,op,ty,pos,af,gd⟩,aG T (aF ops.toList ⟨none,op,ty,pos,af,gd⟩),stg,true,true,de⟩ :: rs,(H',nx') :: Hs,stg+1⟩ K) :
 DrawK P nt ops i (⟨none,op,ty,pos,af,gd⟩ :: l) ⟨T,H,nx,rs,Hs,stg⟩ K:=by
 obtain⟨s',h1,h2⟩:=h.ex
 exact⟨⟨s',.cons (.inr (.inr ⟨hw,de,H',nx',⟨_,hr,hnd,rfl⟩,rfl⟩)) h1,h2⟩⟩
theorem td{g:FuncId}{as1:List Operand}{ats:Array TypeId}{args:List SV}(ha:dw T as1=some args)(hm:cf P g=true):OpDoes P T H nx ⟨d,.call {callee:= .value (.func g),args:=as1.toArray,argTypes:=ats},ty,pos,af,gd⟩ (.enter g args,H,nx):=by
 refine iW ?_
 have hc:cc P T {callee:= .value (.func g),args:=as1.toArray,argTypes:=ats}=some (.enter g args):=by
  simp only [cc,ha,am,dE,hm,cond_true,List.map_nil,List.nil_append,List.append_nil]
 unfold fl
 simp only [hc,zJ]
theorem b9{g:FuncId}{as1:List Operand}{ats:Array TypeId}{args:List SV}{v:SV}{H':aJ}{nx':Nat}(hw:ar (aG T (aF ops.toList ⟨some dd,.call {callee:= .value (.func g),args:=as1.toArray,argTypes:=ats},ty,pos,af,gd⟩)) ops ⟨some dd,.call {callee:= .value (.func g),args:=as1.toArray,argTypes:=ats},ty,pos,af,gd⟩=some true)(hd:Nat.blt dd nt=true)
 (ha:dw (aG T (aF ops.toList ⟨some dd,.call {callee:= .value (.func g),args:=as1.toArray,argTypes:=ats},ty,pos,af,gd⟩)) as1=some args) (hm:cf P g=true)
 (hr:Fnc P g args H nx (fun r=>r=(v,H',nx')))
 (h:DrawK P nt ops (i+1) l ⟨T.set dd v,H',nx',⟨i,⟨some dd,.call {callee:= .value (.func g),args:=as1.toArray,argTypes:=ats},ty,pos,af,gd⟩,aG T (aF ops.toList ⟨some dd,.call {callee:= .value (.func g),args:=as1.toArray,argTypes:=ats},ty,pos,af,gd⟩),stg,true,true,v⟩ :: rs,(H',nx') :: Hs,stg+1⟩ K) :
 DrawK P nt ops i (⟨some dd,.call {callee:= .value (.func g),args:=as1.toArray,argTypes:=ats},ty,pos,af,gd⟩ :: l) ⟨T,H,nx,rs,Hs,stg⟩ K:=by
 obtain⟨s',h1,h2⟩:=h.ex
 refine⟨⟨s',.cons (.inr (.inr ⟨hw,v,H',nx',⟨_,td ha hm,(fun c hc=>(by cases hc)),hr⟩,?_⟩)) h1,h2⟩⟩
 simp only [aC hd]
end
def wE(vo:VO):Prop:= ∀ ρ,vo.ren ρ=vo
theorem im{ro:Bool}{ne sz:Nat}{t:TypeId}{vs:List Value}:wE (dat ro ne sz t vs):=fun ρ=>eb ρ _ _ _ _ _
def jF:List (Option VO)→Prop
 | []=>True
 | none :: l=>jF l
 | some vo :: l=>wE vo∧jF l
def wrL:List Nat→aJ→List (Option VO)→aJ
 | b :: L,H,some vo :: l=>wrL L (H.set b vo) l
 | b :: L,H,none :: l=>wrL L (H.del b) l
 | _,H,_=>H
theorem pc{L0:List Nat}{nx:Nat}: ∀ (L:List Nat) (l:List (Option VO)) (i:Nat) (H:aJ),(∀ j,j<L.length→ext L0 nx (i+j)=L.getD j 0)→l.length=L.length→jF l→wrO (ext L0 nx) H i (l.map (Option.map (VO.ren (ext L0 nx))))=wrL L H l
 | [],[],i,H,_,_,_=>rfl
 | [],_ :: _,i,H,_,h,_=>by simp at h
 | _ :: _,[],i,H,_,h,_=>by simp at h
 | b :: L,o :: l,i,H,he,hl,hc=>by
   have e0:ext L0 nx i=b:=by simpa using he 0 (by simp)
   have et: ∀ j,j<L.length→ext L0 nx (i+1+j)=L.getD j 0:=fun j hj=>by
    have:=he (j+1) (by simpa using hj)
    rw [show i+1+j=i+(j+1) by omega,this]
    simp
   cases o with
   | none=>simp only [zF,Option.map_none,wrO,wrL,e0];exact pc L l (i+1) _ et (by simpa using hl) hc
   | some vo=>simp only [zF,zJ,wrO,wrL,e0,hc.1 (ext L0 nx)];exact pc L l (i+1) _ et (by simpa using hl) hc.2
section
variable {P:Program}
theorem Ctr.qT{f:FuncId}{args0 args:List SV}{pre:List VO}{c:Cz}(h:Ctr P f args0 pre (fun c'=>c'=c))(L:List Nat){H H':aJ}{nx:Nat}{Q:Pst}(hlen:L.length=pre.length)(hL:ExtOk L nx)(ha:args=args0.map (SV.ren (ext L nx)))
 (hp:HasO (ext L nx) H 0 (pre.map some)) (hol:c.objs.length=L.length) (hc:jF c.objs) (hv: ∀ ρ,c.v.ren ρ=c.v) (hH:wrL L H c.objs=H') (hQ:Q (c.v,H',nx)):Fnc P f args H nx Q:=by
 refine h.callM L hlen hL ha hp (hv _) ((pc L c.objs 0 H (fun j hj=>by rw [Nat.zero_add];exact qD hj) hol hc).trans hH) ?_ hQ
 omega
end
section
variable {P:Program} {ro:Option Nat} {fn nt nx:Nat} {T:Tr SV} {k:List AIt} {dfs:List ADf} {H:aJ} {Q:Pst} {ops:Array Oper} {i:Nat} {l:List Oper} {ty:TypeId} {pos:String} {af:Array Edge} {gd:Option (Nat×Bool)}
theorem ku{g:FuncId}{as1:List Operand}{ats:Array TypeId}{args:List SV}{v:SV}{H':aJ}{dd:Nat}(hw:ar T ops ⟨some dd,.call {callee:= .value (.func g),args:=as1.toArray,argTypes:=ats},ty,pos,af,gd⟩=some true)(hd:Nat.blt dd nt=true)(ha:dw T as1=some args)(hm:cf P g=true)
 (hr:Fnc P g args H nx (fun r=>r=(v,H',nx)))
 (h:Wp P ro ⟨fn,nt,T.set dd v,.inReg ops (i+1) l :: k,dfs,H',nx⟩ Q) :
 Wp P ro ⟨fn,nt,T,.inReg ops i (⟨some dd,.call {callee:= .value (.func g),args:=as1.toArray,argTypes:=ats},ty,pos,af,gd⟩ :: l) :: k,dfs,H,nx⟩ Q:=
 aL hw hd ha hm (hr.mono fun r hr=>by subst hr;exact h)
end
section
variable {P:Program} {nt nx:Nat} {T:Tr SV} {H:aJ} {ops:Array Oper} {i:Nat} {l:List Oper} {d:Option Tmp} {ty:TypeId} {pos:String} {af:Array Edge} {gd:Option (Nat×Bool)} {K:DS→Prop} {rs:List Rec} {Hs:List (aJ×Nat)} {stg:Nat}
theorem vz{x:Operand}{g:FuncId}{fa fb:List SV}{as1:List Operand}{ats:Array TypeId}{args args':List SV}(hx:am T x=some (.fn (.func g) fa fb))(ha:dw T as1=some args)(hm:cf P g=true)(hargs:fa ++ args ++ fb=args'):OpDoes P T H nx ⟨d,.call {callee:= .value x,args:=as1.toArray,argTypes:=ats},ty,pos,af,gd⟩ (.enter g args',H,nx):=by
 subst hargs
 refine iW ?_
 have hc:cc P T {callee:= .value x,args:=as1.toArray,argTypes:=ats}=some (.enter g (fa ++ args ++ fb)):=by
  simp only [cc,ha,hx,dE,hm,cond_true]
 unfold fl
 simp only [hc,zJ]
theorem ng{x:Operand}{g:FuncId}{fa fb:List SV}{as1:List Operand}{ats:Array TypeId}{args args':List SV}{v:SV}{H':aJ}{nx':Nat}{dd:Nat}(hw:ar (aG T (aF ops.toList ⟨some dd,.call {callee:= .value x,args:=as1.toArray,argTypes:=ats},ty,pos,af,gd⟩)) ops ⟨some dd,.call {callee:= .value x,args:=as1.toArray,argTypes:=ats},ty,pos,af,gd⟩=some true)(hd:Nat.blt dd nt=true)
 (hx:am (aG T (aF ops.toList ⟨some dd,.call {callee:= .value x,args:=as1.toArray,argTypes:=ats},ty,pos,af,gd⟩)) x=some (.fn (.func g) fa fb)) (ha:dw (aG T (aF ops.toList ⟨some dd,.call {callee:= .value x,args:=as1.toArray,argTypes:=ats},ty,pos,af,gd⟩)) as1=some args) (hm:cf P g=true) (hargs:fa ++ args ++ fb=args')
 (hr:Fnc P g args' H nx (fun r=>r=(v,H',nx')))
 (h:DrawK P nt ops (i+1) l ⟨T.set dd v,H',nx',⟨i,⟨some dd,.call {callee:= .value x,args:=as1.toArray,argTypes:=ats},ty,pos,af,gd⟩,aG T (aF ops.toList ⟨some dd,.call {callee:= .value x,args:=as1.toArray,argTypes:=ats},ty,pos,af,gd⟩),stg,true,true,v⟩ :: rs,(H',nx') :: Hs,stg+1⟩ K) :
 DrawK P nt ops i (⟨some dd,.call {callee:= .value x,args:=as1.toArray,argTypes:=ats},ty,pos,af,gd⟩ :: l) ⟨T,H,nx,rs,Hs,stg⟩ K:=by
 obtain⟨s',h1,h2⟩:=h.ex
 refine⟨⟨s',.cons (.inr (.inr ⟨hw,v,H',nx',⟨_,vz hx ha hm hargs,(fun c hc=>(by cases hc)),hr⟩,?_⟩)) h1,h2⟩⟩
 simp only [aC hd]
end
theorem bE{t el:TypeId}{len sz:Nat}{parts:List (Nat×Operand)}{ps:List (Nat×SV)}{z:Value}{cs:List SV}{dd:Nat}(hw:ar T ops ⟨some dd,.buildSlice t len parts.toArray,ty,pos,af,gd⟩=some true)(hd:Nat.blt dd nt=true)(hu:P.underlying t=some (.slice el))(hs:bA P el=some sz)(h0:Nat.blt 0 sz=true)(hz:dq P el=some z)(hp:iU T parts=some ps)(hf:fh (fun i=>some (i*sz,sz)) (((List.range (len*sz)).map (z.cells[·% z.cells.size]!)).map .sc) ps=some cs)(h1:cG cs=true)(hlen:Nat.ble (len*sz) 16777216=true)(hll:cs.length=len*sz)
 (h:Wp P ro ⟨fn,nt,T.set dd (.slu nx 0 len),.inReg ops (i+1) l :: k,dfs,(H.set nx (.row false len sz el (eN cs))),(nx+1)⟩ Q):Wp P ro ⟨fn,nt,T,.inReg ops i (⟨some dd,.buildSlice t len parts.toArray,ty,pos,af,gd⟩ :: l) :: k,dfs,H,nx⟩ Q:=
 bK hw (.inr (fun _ h=>by cases h)) (f9 hu hs (bW h0) hz hp hf h1 hlen hll) (by rw [aC hd];exact h)
theorem wP{t el:TypeId}{x:Operand}{lo hi:Option Operand}{b eo n lw hg:Nat}{rr:Bool}{ne sz:Nat}{rt:TypeId}{c:Tr SV}{dd:Nat}(hw:ar T ops ⟨some dd,.slice t x lo hi none,ty,pos,af,gd⟩=some true)(hd:Nat.blt dd nt=true)(hx:am T x=some (.slu b eo n))(hu:P.underlying t=some (.slice el))(hs:bA P el=some sz)(hb:H.at' b=some (.row rr ne sz rt c))(hl:uz T 0 lo lw)(hh:uz T n hi hg)(h1:lw≤hg)(h2:eo+hg≤ne)(h3:eo+lw<ne)
 (h:Wp P ro ⟨fn,nt,T.set dd (.slu b (eo+lw) (hg-lw)),.inReg ops (i+1) l :: k,dfs,H,nx⟩ Q):Wp P ro ⟨fn,nt,T,.inReg ops i (⟨some dd,.slice t x lo hi none,ty,pos,af,gd⟩ :: l) :: k,dfs,H,nx⟩ Q:=
 bK hw (.inr (fun _ h=>by cases h)) ((fY hu hs hx hb hl hh h1 h2 h3).does) (by rw [aC hd];exact h)
theorem jf{t rt:TypeId}{x:Operand}{b o ne sz:Nat}{rr:Bool}{vs:List Value}{v:Value}{dd:Nat}(hw:ar T ops ⟨some dd,.load t x,ty,pos,af,gd⟩=some true)(hd:Nat.blt dd nt=true)(hx:am T x=some (.ptr b o))(ha:cq P t=some none)(hb:H.at' b=some (dat rr ne sz rt vs))(hv:vs[o]? =some v)(ho:o<ne*sz)
 (h:Wp P ro ⟨fn,nt,T.set dd (.sc v),.inReg ops (i+1) l :: k,dfs,H,nx⟩ Q):Wp P ro ⟨fn,nt,T,.inReg ops i (⟨some dd,.load t x,ty,pos,af,gd⟩ :: l) :: k,dfs,H,nx⟩ Q:=
 bK hw (.inr (fun _ h=>by cases h)) ((aZ ha hx hb (d8 ho hv)).does) (by rw [aC hd];exact h)
theorem fS{t rt:TypeId}{x:Operand}{b o n ne sz:Nat}{rr:Bool}{vs us:List Value}{dd:Nat}(hw:ar T ops ⟨some dd,.load t x,ty,pos,af,gd⟩=some true)(hd:Nat.blt dd nt=true)(hx:am T x=some (.ptr b o))(ha:cq P t=some (some n))(hb:H.at' b=some (dat rr ne sz rt vs))(hv:(vs.drop o).take n=us)(hn:us.length=n)(ho:o+n≤ne*sz)
 (h:Wp P ro ⟨fn,nt,T.set dd (.agg (us.map .sc)),.inReg ops (i+1) l :: k,dfs,H,nx⟩ Q):Wp P ro ⟨fn,nt,T,.inReg ops i (⟨some dd,.load t x,ty,pos,af,gd⟩ :: l) :: k,dfs,H,nx⟩ Q:=
 bK hw (.inr (fun _ h=>by cases h)) ((bg ha hx hb (dm n o hv hn ho)).does) (by rw [aC hd];exact h)
theorem fm{t e:TypeId}{x y:Operand}{b n q:Nat}{kd:IntKind}{j:Int}{rr:Bool}{ne sz:Nat}{rt:TypeId}{c:Tr SV}{dd:Nat}(hw:ar T ops ⟨some dd,.indexAddr t x y,ty,pos,af,gd⟩=some true)(hd:Nat.blt dd nt=true)(hx:am T x=some (.slu b 0 n))(hy:am T y=some (.sc (.int kd j)))(hu:P.underlying t=some (.slice e))(hs:bA P e=some sz)(hb:H.at' b=some (.row rr ne sz rt c))(hj:j=(q:Int))(hi:q<n)(hne:n≤ne)
 (h:Wp P ro ⟨fn,nt,T.set dd (.ptr b (q*sz)),.inReg ops (i+1) l :: k,dfs,H,nx⟩ Q):Wp P ro ⟨fn,nt,T,.inReg ops i (⟨some dd,.indexAddr t x y,ty,pos,af,gd⟩ :: l) :: k,dfs,H,nx⟩ Q:=
 bK hw (.inr (fun _ h=>by cases h)) ((eL hu hs hx hy hb hj hi hne).does) (by rw [aC hd];exact h)
theorem pW{t rt:TypeId}{a x:Operand}{b o n ne sz:Nat}{cs vs cs':List Value}{v:SV}(hw:ar T ops ⟨none,.store t a x,ty,pos,af,gd⟩=some true)(ha:am T a=some (.ptr b o))(hx:am T x=some v)(hv:v.cells=vs.map .sc)(hs:bA P t=some n)(hb:H.at' b=some (dat false ne sz rt cs))(hn:vs.length=n)(ho:o+n≤ne*sz)(hl:o+n≤cs.length)(h1:nV vs)(hc:cs.take o ++ vs ++ cs.drop (o+n)=cs')
 (h:Wp P ro ⟨fn,nt,T,.inReg ops (i+1) l :: k,dfs,(H.set b (dat false ne sz rt cs')),nx⟩ Q):Wp P ro ⟨fn,nt,T,.inReg ops i (⟨none,.store t a x,ty,pos,af,gd⟩ :: l) :: k,dfs,H,nx⟩ Q:=
 pT hw (.inr (fun _ h=>by cases h)) (hc ▸ nT hs ha hx hv hb hn ho hl h1) h
end
section
variable {P:Program} {nt nx:Nat} {T:Tr SV} {H:aJ} {ops:Array Oper} {i:Nat} {l:List Oper} {ty:TypeId} {pos:String} {af:Array Edge} {gd:Option (Nat×Bool)} {K:DS→Prop} {rs:List Rec} {Hs:List (aJ×Nat)} {stg:Nat}
theorem bD{x:Operand}{v:SV}{dd:Nat}(hw:ar (aG T (aF ops.toList ⟨some dd,.move x,ty,pos,af,gd⟩)) ops ⟨some dd,.move x,ty,pos,af,gd⟩=some true)(hd:Nat.blt dd nt=true)(hx:am (aG T (aF ops.toList ⟨some dd,.move x,ty,pos,af,gd⟩)) x=some v)
 (h:DrawK P nt ops (i+1) l ⟨T.set dd v,H,nx,⟨i,⟨some dd,.move x,ty,pos,af,gd⟩,(aG T (aF ops.toList ⟨some dd,.move x,ty,pos,af,gd⟩)),stg,false,true,v⟩ :: rs,Hs,stg⟩ K):DrawK P nt ops i (⟨some dd,.move x,ty,pos,af,gd⟩ :: l) ⟨T,H,nx,rs,Hs,stg⟩ K:=
 bl hw hd (fun _ h=>by cases h) (bC hx) h
theorem bY{x:Operand}{v:SV}{dd:Nat}(hw:ar (aG T (aF ops.toList ⟨some dd,.assign x,ty,pos,af,gd⟩)) ops ⟨some dd,.assign x,ty,pos,af,gd⟩=some true)(hd:Nat.blt dd nt=true)(hx:am (aG T (aF ops.toList ⟨some dd,.assign x,ty,pos,af,gd⟩)) x=some v)
 (h:DrawK P nt ops (i+1) l ⟨T.set dd v,H,nx,⟨i,⟨some dd,.assign x,ty,pos,af,gd⟩,(aG T (aF ops.toList ⟨some dd,.assign x,ty,pos,af,gd⟩)),stg,false,true,v⟩ :: rs,Hs,stg⟩ K):DrawK P nt ops i (⟨some dd,.assign x,ty,pos,af,gd⟩ :: l) ⟨T,H,nx,rs,Hs,stg⟩ K:=
 bl hw hd (fun _ h=>by cases h) (ch hx) h
theorem bP{c a b:Operand}{v:SV}{dd:Nat}(hw:ar (aG T (aF ops.toList ⟨some dd,.pick c a b,ty,pos,af,gd⟩)) ops ⟨some dd,.pick c a b,ty,pos,af,gd⟩=some true)(hd:Nat.blt dd nt=true)(hc:am (aG T (aF ops.toList ⟨some dd,.pick c a b,ty,pos,af,gd⟩)) c=some (.sc (.bool true)))(hx:am (aG T (aF ops.toList ⟨some dd,.pick c a b,ty,pos,af,gd⟩)) a=some v)
 (h:DrawK P nt ops (i+1) l ⟨T.set dd v,H,nx,⟨i,⟨some dd,.pick c a b,ty,pos,af,gd⟩,(aG T (aF ops.toList ⟨some dd,.pick c a b,ty,pos,af,gd⟩)),stg,false,true,v⟩ :: rs,Hs,stg⟩ K):DrawK P nt ops i (⟨some dd,.pick c a b,ty,pos,af,gd⟩ :: l) ⟨T,H,nx,rs,Hs,stg⟩ K:=
 bl hw hd (fun _ h=>by cases h) (ci hc hx) h
theorem cp{c a b:Operand}{v:SV}{dd:Nat}(hw:ar (aG T (aF ops.toList ⟨some dd,.pick c a b,ty,pos,af,gd⟩)) ops ⟨some dd,.pick c a b,ty,pos,af,gd⟩=some true)(hd:Nat.blt dd nt=true)(hc:am (aG T (aF ops.toList ⟨some dd,.pick c a b,ty,pos,af,gd⟩)) c=some (.sc (.bool false)))(hx:am (aG T (aF ops.toList ⟨some dd,.pick c a b,ty,pos,af,gd⟩)) b=some v)
 (h:DrawK P nt ops (i+1) l ⟨T.set dd v,H,nx,⟨i,⟨some dd,.pick c a b,ty,pos,af,gd⟩,(aG T (aF ops.toList ⟨some dd,.pick c a b,ty,pos,af,gd⟩)),stg,false,true,v⟩ :: rs,Hs,stg⟩ K):DrawK P nt ops i (⟨some dd,.pick c a b,ty,pos,af,gd⟩ :: l) ⟨T,H,nx,rs,Hs,stg⟩ K:=
 bl hw hd (fun _ h=>by cases h) (cC hc hx) h
theorem cU{x:Operand}{j:Nat}{xs:List SV}{v:SV}{dd:Nat}(hw:ar (aG T (aF ops.toList ⟨some dd,.extract x j,ty,pos,af,gd⟩)) ops ⟨some dd,.extract x j,ty,pos,af,gd⟩=some true)(hd:Nat.blt dd nt=true)(hx:am (aG T (aF ops.toList ⟨some dd,.extract x j,ty,pos,af,gd⟩)) x=some (.tup xs))(hj:xs[j]? =some v)
 (h:DrawK P nt ops (i+1) l ⟨T.set dd v,H,nx,⟨i,⟨some dd,.extract x j,ty,pos,af,gd⟩,(aG T (aF ops.toList ⟨some dd,.extract x j,ty,pos,af,gd⟩)),stg,false,true,v⟩ :: rs,Hs,stg⟩ K):DrawK P nt ops i (⟨some dd,.extract x j,ty,pos,af,gd⟩ :: l) ⟨T,H,nx,rs,Hs,stg⟩ K:=
 bl hw hd (fun _ h=>by cases h) (dz hx hj) h
theorem bX{x:Operand}{b o:Nat}{dd:Nat}(hw:ar (aG T (aF ops.toList ⟨some dd,.nilCheck x,ty,pos,af,gd⟩)) ops ⟨some dd,.nilCheck x,ty,pos,af,gd⟩=some true)(hd:Nat.blt dd nt=true)(hx:am (aG T (aF ops.toList ⟨some dd,.nilCheck x,ty,pos,af,gd⟩)) x=some (.ptr b o))
 (h:DrawK P nt ops (i+1) l ⟨T.set dd (.ptr b o),H,nx,⟨i,⟨some dd,.nilCheck x,ty,pos,af,gd⟩,(aG T (aF ops.toList ⟨some dd,.nilCheck x,ty,pos,af,gd⟩)),stg,false,true,(.ptr b o)⟩ :: rs,Hs,stg⟩ K):DrawK P nt ops i (⟨some dd,.nilCheck x,ty,pos,af,gd⟩ :: l) ⟨T,H,nx,rs,Hs,stg⟩ K:=
 bl hw hd (fun _ h=>by cases h) (cj hx) h
theorem cu{x:Operand}{f:FuncId}{a c:List SV}{dd:Nat}(hw:ar (aG T (aF ops.toList ⟨some dd,.nilCheck x,ty,pos,af,gd⟩)) ops ⟨some dd,.nilCheck x,ty,pos,af,gd⟩=some true)(hd:Nat.blt dd nt=true)(hx:am (aG T (aF ops.toList ⟨some dd,.nilCheck x,ty,pos,af,gd⟩)) x=some (.fn (.func f) a c))
 (h:DrawK P nt ops (i+1) l ⟨T.set dd (.fn (.func f) a c),H,nx,⟨i,⟨some dd,.nilCheck x,ty,pos,af,gd⟩,(aG T (aF ops.toList ⟨some dd,.nilCheck x,ty,pos,af,gd⟩)),stg,false,true,(.fn (.func f) a c)⟩ :: rs,Hs,stg⟩ K):DrawK P nt ops i (⟨some dd,.nilCheck x,ty,pos,af,gd⟩ :: l) ⟨T,H,nx,rs,Hs,stg⟩ K:=
 bl hw hd (fun _ h=>by cases h) (j0 hx) h
theorem ct{x:Operand}{t:TypeId}{v:SV}{dd:Nat}(hw:ar (aG T (aF ops.toList ⟨some dd,.nilCheck x,ty,pos,af,gd⟩)) ops ⟨some dd,.nilCheck x,ty,pos,af,gd⟩=some true)(hd:Nat.blt dd nt=true)(hx:am (aG T (aF ops.toList ⟨some dd,.nilCheck x,ty,pos,af,gd⟩)) x=some (.ifc t v))
 (h:DrawK P nt ops (i+1) l ⟨T.set dd (.ifc t v),H,nx,⟨i,⟨some dd,.nilCheck x,ty,pos,af,gd⟩,(aG T (aF ops.toList ⟨some dd,.nilCheck x,ty,pos,af,gd⟩)),stg,false,true,(.ifc t v)⟩ :: rs,Hs,stg⟩ K):DrawK P nt ops i (⟨some dd,.nilCheck x,ty,pos,af,gd⟩ :: l) ⟨T,H,nx,rs,Hs,stg⟩ K:=
 bl hw hd (fun _ h=>by cases h) (jZ hx) h
theorem bm{s:TypeId}{x:Operand}{f b o off:Nat}{dd:Nat}(hw:ar (aG T (aF ops.toList ⟨some dd,.fieldAddr s x f,ty,pos,af,gd⟩)) ops ⟨some dd,.fieldAddr s x f,ty,pos,af,gd⟩=some true)(hd:Nat.blt dd nt=true)(hx:am (aG T (aF ops.toList ⟨some dd,.fieldAddr s x f,ty,pos,af,gd⟩)) x=some (.ptr b o))(hf:ii P s f=some off)
 (h:DrawK P nt ops (i+1) l ⟨T.set dd (.ptr b (o+off)),H,nx,⟨i,⟨some dd,.fieldAddr s x f,ty,pos,af,gd⟩,(aG T (aF ops.toList ⟨some dd,.fieldAddr s x f,ty,pos,af,gd⟩)),stg,false,true,(.ptr b (o+off))⟩ :: rs,Hs,stg⟩ K):DrawK P nt ops i (⟨some dd,.fieldAddr s x f,ty,pos,af,gd⟩ :: l) ⟨T,H,nx,rs,Hs,stg⟩ K:=
 bl hw hd (fun _ h=>by cases h) (bw hf hx) h
theorem cx{f:Go.Fn}{a b:Array Operand}{x y:List SV}{dd:Nat}(hw:ar (aG T (aF ops.toList ⟨some dd,.makeFunc f a b,ty,pos,af,gd⟩)) ops ⟨some dd,.makeFunc f a b,ty,pos,af,gd⟩=some true)(hd:Nat.blt dd nt=true)(ha:dw (aG T (aF ops.toList ⟨some dd,.makeFunc f a b,ty,pos,af,gd⟩)) a.toList=some x)(hb:dw (aG T (aF ops.toList ⟨some dd,.makeFunc f a b,ty,pos,af,gd⟩)) b.toList=some y)
 (h:DrawK P nt ops (i+1) l ⟨T.set dd (.fn f x y),H,nx,⟨i,⟨some dd,.makeFunc f a b,ty,pos,af,gd⟩,(aG T (aF ops.toList ⟨some dd,.makeFunc f a b,ty,pos,af,gd⟩)),stg,false,true,(.fn f x y)⟩ :: rs,Hs,stg⟩ K):DrawK P nt ops i (⟨some dd,.makeFunc f a b,ty,pos,af,gd⟩ :: l) ⟨T,H,nx,rs,Hs,stg⟩ K:=
 bl hw hd (fun _ h=>by cases h) (fZ ha hb) h
theorem bx{t bt:TypeId}{x:Operand}{b o:Nat}{cs:List SV}{v:SV}{dd:Nat}(hw:ar (aG T (aF ops.toList ⟨some dd,.load t x,ty,pos,af,gd⟩)) ops ⟨some dd,.load t x,ty,pos,af,gd⟩=some true)(hd:Nat.blt dd nt=true)(hx:am (aG T (aF ops.toList ⟨some dd,.load t x,ty,pos,af,gd⟩)) x=some (.ptr b o))(ha:cq P t=some none)(hb:H.at' b=some (az bt cs))(hv:cs[o]? =some v)
 (h:DrawK P nt ops (i+1) l ⟨T.set dd v,H,nx,⟨i,⟨some dd,.load t x,ty,pos,af,gd⟩,(aG T (aF ops.toList ⟨some dd,.load t x,ty,pos,af,gd⟩)),stg,false,true,v⟩ :: rs,Hs,stg⟩ K):DrawK P nt ops i (⟨some dd,.load t x,ty,pos,af,gd⟩ :: l) ⟨T,H,nx,rs,Hs,stg⟩ K:=
 bl hw hd (fun _ h=>by cases h) (aZ ha hx hb (aW hv)) h
theorem bI{t bt:TypeId}{x:Operand}{b n:Nat}{cs:List SV}{dd:Nat}(hw:ar (aG T (aF ops.toList ⟨some dd,.load t x,ty,pos,af,gd⟩)) ops ⟨some dd,.load t x,ty,pos,af,gd⟩=some true)(hd:Nat.blt dd nt=true)(hx:am (aG T (aF ops.toList ⟨some dd,.load t x,ty,pos,af,gd⟩)) x=some (.ptr b 0))(ha:cq P t=some (some n))(hb:H.at' b=some (az bt cs))(hn:cs.length=n)
 (h:DrawK P nt ops (i+1) l ⟨T.set dd (.agg cs),H,nx,⟨i,⟨some dd,.load t x,ty,pos,af,gd⟩,(aG T (aF ops.toList ⟨some dd,.load t x,ty,pos,af,gd⟩)),stg,false,true,(.agg cs)⟩ :: rs,Hs,stg⟩ K):DrawK P nt ops i (⟨some dd,.load t x,ty,pos,af,gd⟩ :: l) ⟨T,H,nx,rs,Hs,stg⟩ K:=
 bl hw hd (fun _ h=>by cases h) (bg ha hx hb (aw n 0 (by subst hn;simp) hn)) h
theorem dF{t:TypeId}{cs:List SV}{dd:Nat}(hw:ar (aG T (aF ops.toList ⟨some dd,.alloc t,ty,pos,af,gd⟩)) ops ⟨some dd,.alloc t,ty,pos,af,gd⟩=some true)(hd:Nat.blt dd nt=true)(hz:my P t=some cs)
 (h:DrawK P nt ops (i+1) l ⟨T.set dd (.ptr nx 0),(H.set nx (az t cs)),(nx+1),⟨i,⟨some dd,.alloc t,ty,pos,af,gd⟩,(aG T (aF ops.toList ⟨some dd,.alloc t,ty,pos,af,gd⟩)),stg,true,true,(.ptr nx 0)⟩ :: rs,((H.set nx (az t cs)),(nx+1)) :: Hs,stg+1⟩ K):DrawK P nt ops i (⟨some dd,.alloc t,ty,pos,af,gd⟩ :: l) ⟨T,H,nx,rs,Hs,stg⟩ K:=
 lE hw hd (fun _ h=>by cases h) (qi hz) h
theorem eP{t:TypeId}{x:Operand}{cs:List SV}{dd:Nat}(hw:ar (aG T (aF ops.toList ⟨some dd,.box t x,ty,pos,af,gd⟩)) ops ⟨some dd,.box t x,ty,pos,af,gd⟩=some true)(hd:Nat.blt dd nt=true)(hx:am (aG T (aF ops.toList ⟨some dd,.box t x,ty,pos,af,gd⟩)) x=some (.agg cs))
 (h:DrawK P nt ops (i+1) l ⟨T.set dd (.ptr nx 0),(H.set nx (az t cs)),(nx+1),⟨i,⟨some dd,.box t x,ty,pos,af,gd⟩,(aG T (aF ops.toList ⟨some dd,.box t x,ty,pos,af,gd⟩)),stg,true,true,(.ptr nx 0)⟩ :: rs,((H.set nx (az t cs)),(nx+1)) :: Hs,stg+1⟩ K):DrawK P nt ops i (⟨some dd,.box t x,ty,pos,af,gd⟩ :: l) ⟨T,H,nx,rs,Hs,stg⟩ K:=
 lE hw hd (fun _ h=>by cases h) (te hx) h
theorem gr{t:TypeId}{x:Operand}{v:SV}{dd:Nat}(hw:ar (aG T (aF ops.toList ⟨some dd,.box t x,ty,pos,af,gd⟩)) ops ⟨some dd,.box t x,ty,pos,af,gd⟩=some true)(hd:Nat.blt dd nt=true)(hx:am (aG T (aF ops.toList ⟨some dd,.box t x,ty,pos,af,gd⟩)) x=some v)(h1:v.cells= [v])
 (h:DrawK P nt ops (i+1) l ⟨T.set dd (.ptr nx 0),(H.set nx (az t [v])),(nx+1),⟨i,⟨some dd,.box t x,ty,pos,af,gd⟩,(aG T (aF ops.toList ⟨some dd,.box t x,ty,pos,af,gd⟩)),stg,true,true,(.ptr nx 0)⟩ :: rs,((H.set nx (az t [v])),(nx+1)) :: Hs,stg+1⟩ K):DrawK P nt ops i (⟨some dd,.box t x,ty,pos,af,gd⟩ :: l) ⟨T,H,nx,rs,Hs,stg⟩ K:=
 lE hw hd (fun _ h=>by cases h) (wn hx h1) h
theorem bO{t bt:TypeId}{a x:Operand}{b o:Nat}{cs:List SV}{v:SV}(hw:ar (aG T (aF ops.toList ⟨none,.store t a x,ty,pos,af,gd⟩)) ops ⟨none,.store t a x,ty,pos,af,gd⟩=some true)(ha:am (aG T (aF ops.toList ⟨none,.store t a x,ty,pos,af,gd⟩)) a=some (.ptr b o))(hx:am (aG T (aF ops.toList ⟨none,.store t a x,ty,pos,af,gd⟩)) x=some v)(hs:bA P t=some 1)(hb:H.at' b=some (az bt cs))(h1:v.one=true)(ho:Nat.blt o cs.length=true)
 (h:DrawK P nt ops (i+1) l ⟨T,(H.set b (az bt (cs.set o v))),nx,⟨i,⟨none,.store t a x,ty,pos,af,gd⟩,(aG T (aF ops.toList ⟨none,.store t a x,ty,pos,af,gd⟩)),stg,true,true,de⟩ :: rs,((H.set b (az bt (cs.set o v))),nx) :: Hs,stg+1⟩ K):DrawK P nt ops i (⟨none,.store t a x,ty,pos,af,gd⟩ :: l) ⟨T,H,nx,rs,Hs,stg⟩ K:=
 nd hw (fun _ h=>by cases h) (nU hs ha hx hb h1 (zn ho)) h
theorem cW{t bt:TypeId}{a x:Operand}{b o n:Nat}{cs vs cs':List SV}(hw:ar (aG T (aF ops.toList ⟨none,.store t a x,ty,pos,af,gd⟩)) ops ⟨none,.store t a x,ty,pos,af,gd⟩=some true)(ha:am (aG T (aF ops.toList ⟨none,.store t a x,ty,pos,af,gd⟩)) a=some (.ptr b o))(hx:am (aG T (aF ops.toList ⟨none,.store t a x,ty,pos,af,gd⟩)) x=some (.agg vs))(hs:bA P t=some n)(hb:H.at' b=some (az bt cs))(hn:vs.length=n)(ho:o+n≤cs.length)(h1:cG vs=true)(hc:cs.take o ++ vs ++ cs.drop (o+n)=cs')
 (h:DrawK P nt ops (i+1) l ⟨T,(H.set b (az bt cs')),nx,⟨i,⟨none,.store t a x,ty,pos,af,gd⟩,(aG T (aF ops.toList ⟨none,.store t a x,ty,pos,af,gd⟩)),stg,true,true,de⟩ :: rs,((H.set b (az bt cs')),nx) :: Hs,stg+1⟩ K):DrawK P nt ops i (⟨none,.store t a x,ty,pos,af,gd⟩ :: l) ⟨T,H,nx,rs,Hs,stg⟩ K:=
 nd hw (fun _ h=>by cases h) (hc ▸ jn hs ha hx rfl hb hn ho h1) h
theorem fJ{t yt:TypeId}{x y:Operand}{a b:Int}{dd:Nat}(hw:ar (aG T (aF ops.toList ⟨some dd,.binOp .add t x y yt,ty,pos,af,gd⟩)) ops ⟨some dd,.binOp .add t x y yt,ty,pos,af,gd⟩=some true)(hd:Nat.blt dd nt=true)(hx:am (aG T (aF ops.toList ⟨some dd,.binOp .add t x y yt,ty,pos,af,gd⟩)) x=some (.sc (.int .i64 a)))(hy:am (aG T (aF ops.toList ⟨some dd,.binOp .add t x y yt,ty,pos,af,gd⟩)) y=some (.sc (.int .i64 b)))(h1 : -9223372036854775808≤a+b)(h2:a+b≤9223372036854775807)
 (h:DrawK P nt ops (i+1) l ⟨T.set dd (.sc (.int .i64 (a+b))),H,nx,⟨i,⟨some dd,.binOp .add t x y yt,ty,pos,af,gd⟩,(aG T (aF ops.toList ⟨some dd,.binOp .add t x y yt,ty,pos,af,gd⟩)),stg,false,true,(.sc (.int .i64 (a+b)))⟩ :: rs,Hs,stg⟩ K):DrawK P nt ops i (⟨some dd,.binOp .add t x y yt,ty,pos,af,gd⟩ :: l) ⟨T,H,nx,rs,Hs,stg⟩ K:=
 bl hw hd (fun _ h=>by cases h) (bU hx hy (.inl ⟨rfl,(zi _ ⟨h1,h2⟩).symm⟩)) h
theorem eS{t yt:TypeId}{x y:Operand}{a b:Int}{dd:Nat}(hw:ar (aG T (aF ops.toList ⟨some dd,.binOp .sub t x y yt,ty,pos,af,gd⟩)) ops ⟨some dd,.binOp .sub t x y yt,ty,pos,af,gd⟩=some true)(hd:Nat.blt dd nt=true)(hx:am (aG T (aF ops.toList ⟨some dd,.binOp .sub t x y yt,ty,pos,af,gd⟩)) x=some (.sc (.int .i64 a)))(hy:am (aG T (aF ops.toList ⟨some dd,.binOp .sub t x y yt,ty,pos,af,gd⟩)) y=some (.sc (.int .i64 b)))(h1 : -9223372036854775808≤a-b)(h2:a-b≤9223372036854775807)
 (h:DrawK P nt ops (i+1) l ⟨T.set dd (.sc (.int .i64 (a-b))),H,nx,⟨i,⟨some dd,.binOp .sub t x y yt,ty,pos,af,gd⟩,(aG T (aF ops.toList ⟨some dd,.binOp .sub t x y yt,ty,pos,af,gd⟩)),stg,false,true,(.sc (.int .i64 (a-b)))⟩ :: rs,Hs,stg⟩ K):DrawK P nt ops i (⟨some dd,.binOp .sub t x y yt,ty,pos,af,gd⟩ :: l) ⟨T,H,nx,rs,Hs,stg⟩ K:=
 bl hw hd (fun _ h=>by cases h) (bU hx hy (.inr (.inl ⟨rfl,(zi _ ⟨h1,h2⟩).symm⟩))) h
theorem gq{t yt:TypeId}{x y:Operand}{a b:Int}{dd:Nat}(hw:ar (aG T (aF ops.toList ⟨some dd,.binOp .mul t x y yt,ty,pos,af,gd⟩)) ops ⟨some dd,.binOp .mul t x y yt,ty,pos,af,gd⟩=some true)(hd:Nat.blt dd nt=true)(hx:am (aG T (aF ops.toList ⟨some dd,.binOp .mul t x y yt,ty,pos,af,gd⟩)) x=some (.sc (.int .i64 a)))(hy:am (aG T (aF ops.toList ⟨some dd,.binOp .mul t x y yt,ty,pos,af,gd⟩)) y=some (.sc (.int .i64 b)))(h1 : -9223372036854775808≤a*b)(h2:a*b≤9223372036854775807)
 (h:DrawK P nt ops (i+1) l ⟨T.set dd (.sc (.int .i64 (a*b))),H,nx,⟨i,⟨some dd,.binOp .mul t x y yt,ty,pos,af,gd⟩,(aG T (aF ops.toList ⟨some dd,.binOp .mul t x y yt,ty,pos,af,gd⟩)),stg,false,true,(.sc (.int .i64 (a*b)))⟩ :: rs,Hs,stg⟩ K):DrawK P nt ops i (⟨some dd,.binOp .mul t x y yt,ty,pos,af,gd⟩ :: l) ⟨T,H,nx,rs,Hs,stg⟩ K:=
 bl hw hd (fun _ h=>by cases h) (bU hx hy (.inr (.inr ⟨rfl,(zi _ ⟨h1,h2⟩).symm⟩))) h
theorem y8{t yt:TypeId}{x y:Operand}{kd:IntKind}{a b:Int}{dd:Nat}(hw:ar (aG T (aF ops.toList ⟨some dd,.binOp .eql t x y yt,ty,pos,af,gd⟩)) ops ⟨some dd,.binOp .eql t x y yt,ty,pos,af,gd⟩=some true)(hd:Nat.blt dd nt=true)(hx:am (aG T (aF ops.toList ⟨some dd,.binOp .eql t x y yt,ty,pos,af,gd⟩)) x=some (.sc (.int kd a)))(hy:am (aG T (aF ops.toList ⟨some dd,.binOp .eql t x y yt,ty,pos,af,gd⟩)) y=some (.sc (.int kd b)))
 (h:DrawK P nt ops (i+1) l ⟨T.set dd (.sc (.bool (a == b))),H,nx,⟨i,⟨some dd,.binOp .eql t x y yt,ty,pos,af,gd⟩,(aG T (aF ops.toList ⟨some dd,.binOp .eql t x y yt,ty,pos,af,gd⟩)),stg,false,true,(.sc (.bool (a == b)))⟩ :: rs,Hs,stg⟩ K):DrawK P nt ops i (⟨some dd,.binOp .eql t x y yt,ty,pos,af,gd⟩ :: l) ⟨T,H,nx,rs,Hs,stg⟩ K:=
 bl hw hd (fun _ h=>by cases h) (cH hx hy (.inl ⟨rfl,rfl⟩)) h
theorem y5{t yt:TypeId}{x y:Operand}{kd:IntKind}{a b:Int}{dd:Nat}(hw:ar (aG T (aF ops.toList ⟨some dd,.binOp .neq t x y yt,ty,pos,af,gd⟩)) ops ⟨some dd,.binOp .neq t x y yt,ty,pos,af,gd⟩=some true)(hd:Nat.blt dd nt=true)(hx:am (aG T (aF ops.toList ⟨some dd,.binOp .neq t x y yt,ty,pos,af,gd⟩)) x=some (.sc (.int kd a)))(hy:am (aG T (aF ops.toList ⟨some dd,.binOp .neq t x y yt,ty,pos,af,gd⟩)) y=some (.sc (.int kd b)))
 (h:DrawK P nt ops (i+1) l ⟨T.set dd (.sc (.bool (a != b))),H,nx,⟨i,⟨some dd,.binOp .neq t x y yt,ty,pos,af,gd⟩,(aG T (aF ops.toList ⟨some dd,.binOp .neq t x y yt,ty,pos,af,gd⟩)),stg,false,true,(.sc (.bool (a != b)))⟩ :: rs,Hs,stg⟩ K):DrawK P nt ops i (⟨some dd,.binOp .neq t x y yt,ty,pos,af,gd⟩ :: l) ⟨T,H,nx,rs,Hs,stg⟩ K:=
 bl hw hd (fun _ h=>by cases h) (cH hx hy (.inr (.inl ⟨rfl,rfl⟩))) h
theorem y6{t yt:TypeId}{x y:Operand}{kd:IntKind}{a b:Int}{dd:Nat}(hw:ar (aG T (aF ops.toList ⟨some dd,.binOp .lss t x y yt,ty,pos,af,gd⟩)) ops ⟨some dd,.binOp .lss t x y yt,ty,pos,af,gd⟩=some true)(hd:Nat.blt dd nt=true)(hx:am (aG T (aF ops.toList ⟨some dd,.binOp .lss t x y yt,ty,pos,af,gd⟩)) x=some (.sc (.int kd a)))(hy:am (aG T (aF ops.toList ⟨some dd,.binOp .lss t x y yt,ty,pos,af,gd⟩)) y=some (.sc (.int kd b)))
 (h:DrawK P nt ops (i+1) l ⟨T.set dd (.sc (.bool (decide (a<b)))),H,nx,⟨i,⟨some dd,.binOp .lss t x y yt,ty,pos,af,gd⟩,(aG T (aF ops.toList ⟨some dd,.binOp .lss t x y yt,ty,pos,af,gd⟩)),stg,false,true,(.sc (.bool (decide (a<b))))⟩ :: rs,Hs,stg⟩ K):DrawK P nt ops i (⟨some dd,.binOp .lss t x y yt,ty,pos,af,gd⟩ :: l) ⟨T,H,nx,rs,Hs,stg⟩ K:=
 bl hw hd (fun _ h=>by cases h) (cH hx hy (.inr (.inr (.inl ⟨rfl,rfl⟩)))) h
theorem y7{t yt:TypeId}{x y:Operand}{kd:IntKind}{a b:Int}{dd:Nat}(hw:ar (aG T (aF ops.toList ⟨some dd,.binOp .gtr t x y yt,ty,pos,af,gd⟩)) ops ⟨some dd,.binOp .gtr t x y yt,ty,pos,af,gd⟩=some true)(hd:Nat.blt dd nt=true)(hx:am (aG T (aF ops.toList ⟨some dd,.binOp .gtr t x y yt,ty,pos,af,gd⟩)) x=some (.sc (.int kd a)))(hy:am (aG T (aF ops.toList ⟨some dd,.binOp .gtr t x y yt,ty,pos,af,gd⟩)) y=some (.sc (.int kd b)))
 (h:DrawK P nt ops (i+1) l ⟨T.set dd (.sc (.bool (decide (a>b)))),H,nx,⟨i,⟨some dd,.binOp .gtr t x y yt,ty,pos,af,gd⟩,(aG T (aF ops.toList ⟨some dd,.binOp .gtr t x y yt,ty,pos,af,gd⟩)),stg,false,true,(.sc (.bool (decide (a>b))))⟩ :: rs,Hs,stg⟩ K):DrawK P nt ops i (⟨some dd,.binOp .gtr t x y yt,ty,pos,af,gd⟩ :: l) ⟨T,H,nx,rs,Hs,stg⟩ K:=
 bl hw hd (fun _ h=>by cases h) (cH hx hy (.inr (.inr (.inr (.inr (.inl ⟨rfl,rfl⟩)))))) h
theorem gp{t yt:TypeId}{x y:Operand}{a b:Int}{dd:Nat}(hw:ar (aG T (aF ops.toList ⟨some dd,.binOp .quo t x y yt,ty,pos,af,gd⟩)) ops ⟨some dd,.binOp .quo t x y yt,ty,pos,af,gd⟩=some true)(hd:Nat.blt dd nt=true)(hx:am (aG T (aF ops.toList ⟨some dd,.binOp .quo t x y yt,ty,pos,af,gd⟩)) x=some (.sc (.int .i64 a)))(hy:am (aG T (aF ops.toList ⟨some dd,.binOp .quo t x y yt,ty,pos,af,gd⟩)) y=some (.sc (.int .i64 b)))(h1:0≤a)(h2:a≤9223372036854775807)(h3:0<b)
 (h:DrawK P nt ops (i+1) l ⟨T.set dd (.sc (.int .i64 (a / b))),H,nx,⟨i,⟨some dd,.binOp .quo t x y yt,ty,pos,af,gd⟩,(aG T (aF ops.toList ⟨some dd,.binOp .quo t x y yt,ty,pos,af,gd⟩)),stg,false,true,(.sc (.int .i64 (a / b)))⟩ :: rs,Hs,stg⟩ K):DrawK P nt ops i (⟨some dd,.binOp .quo t x y yt,ty,pos,af,gd⟩ :: l) ⟨T,H,nx,rs,Hs,stg⟩ K:=
 bl hw hd (fun _ h=>by cases h) (wk hx hy (by omega) (nC h1 h2 h3)) h
theorem ua{s t:TypeId}{su:TypeDesc}{x:Operand}{kd kd2:IntKind}{a c:Int}{dd:Nat}(hw:ar (aG T (aF ops.toList ⟨some dd,.convert s t x,ty,pos,af,gd⟩)) ops ⟨some dd,.convert s t x,ty,pos,af,gd⟩=some true)(hd:Nat.blt dd nt=true)(hx:am (aG T (aF ops.toList ⟨some dd,.convert s t x,ty,pos,af,gd⟩)) x=some (.sc (.int kd2 a)))(hs:P.underlying s=some su)(hu:P.underlying t=some (.int kd))(hc:kd.wrap a=c)
 (h:DrawK P nt ops (i+1) l ⟨T.set dd (.sc (.int kd c)),H,nx,⟨i,⟨some dd,.convert s t x,ty,pos,af,gd⟩,(aG T (aF ops.toList ⟨some dd,.convert s t x,ty,pos,af,gd⟩)),stg,false,true,(.sc (.int kd c))⟩ :: rs,Hs,stg⟩ K):DrawK P nt ops i (⟨some dd,.convert s t x,ty,pos,af,gd⟩ :: l) ⟨T,H,nx,rs,Hs,stg⟩ K:=
 bl hw hd (fun _ h=>by cases h) (jK hs hu hx hc) h
theorem cQ{t:TypeId}{parts:List (Nat×Operand)}{ps:List (Nat×SV)}{pl:List (Nat×Nat)}{z:Value}{cs:List SV}{dd:Nat}(hw:ar (aG T (aF ops.toList ⟨some dd,.build t parts.toArray,ty,pos,af,gd⟩)) ops ⟨some dd,.build t parts.toArray,ty,pos,af,gd⟩=some true)(hd:Nat.blt dd nt=true)(hx:iU (aG T (aF ops.toList ⟨some dd,.build t parts.toArray,ty,pos,af,gd⟩)) parts=some ps)(hz:dq P t=some z)(hl:vq P t=some pl)(hf:fh (fun i=>pl[i]?) (z.cells.toList.map .sc) ps=some cs)
 (h:DrawK P nt ops (i+1) l ⟨T.set dd (.agg cs),H,nx,⟨i,⟨some dd,.build t parts.toArray,ty,pos,af,gd⟩,(aG T (aF ops.toList ⟨some dd,.build t parts.toArray,ty,pos,af,gd⟩)),stg,false,true,(.agg cs)⟩ :: rs,Hs,stg⟩ K):DrawK P nt ops i (⟨some dd,.build t parts.toArray,ty,pos,af,gd⟩ :: l) ⟨T,H,nx,rs,Hs,stg⟩ K:=
 bl hw hd (fun _ h=>by cases h) (d5 hx hz hl hf) h
theorem dS{t:TypeId}{x:Operand}{b:Bool}{dd:Nat}(hw:ar (aG T (aF ops.toList ⟨some dd,.unOp .not t x,ty,pos,af,gd⟩)) ops ⟨some dd,.unOp .not t x,ty,pos,af,gd⟩=some true)(hd:Nat.blt dd nt=true)(hx:am (aG T (aF ops.toList ⟨some dd,.unOp .not t x,ty,pos,af,gd⟩)) x=some (.sc (.bool b)))
 (h:DrawK P nt ops (i+1) l ⟨T.set dd (.sc (.bool (!b))),H,nx,⟨i,⟨some dd,.unOp .not t x,ty,pos,af,gd⟩,(aG T (aF ops.toList ⟨some dd,.unOp .not t x,ty,pos,af,gd⟩)),stg,false,true,(.sc (.bool (!b)))⟩ :: rs,Hs,stg⟩ K):DrawK P nt ops i (⟨some dd,.unOp .not t x,ty,pos,af,gd⟩ :: l) ⟨T,H,nx,rs,Hs,stg⟩ K:=
 bl hw hd (fun _ h=>by cases h) (fq hx) h
theorem d7{t e:TypeId}{x:Operand}{b eo n:Nat}{dd:Nat}(hw:ar (aG T (aF ops.toList ⟨some dd,.call {callee:= .builtin .len,args:= #[x],argTypes:= #[t]},ty,pos,af,gd⟩)) ops ⟨some dd,.call {callee:= .builtin .len,args:= #[x],argTypes:= #[t]},ty,pos,af,gd⟩=some true)(hd:Nat.blt dd nt=true)(hx:am (aG T (aF ops.toList ⟨some dd,.call {callee:= .builtin .len,args:= #[x],argTypes:= #[t]},ty,pos,af,gd⟩)) x=some (.slu b eo n))(hu:P.underlying t=some (.slice e))
 (h:DrawK P nt ops (i+1) l ⟨T.set dd (.sc (.int .i64 n)),H,nx,⟨i,⟨some dd,.call {callee:= .builtin .len,args:= #[x],argTypes:= #[t]},ty,pos,af,gd⟩,(aG T (aF ops.toList ⟨some dd,.call {callee:= .builtin .len,args:= #[x],argTypes:= #[t]},ty,pos,af,gd⟩)),stg,false,true,(.sc (.int .i64 n))⟩ :: rs,Hs,stg⟩ K):DrawK P nt ops i (⟨some dd,.call {callee:= .builtin .len,args:= #[x],argTypes:= #[t]},ty,pos,af,gd⟩ :: l) ⟨T,H,nx,rs,Hs,stg⟩ K:=
 bl hw hd (fun _ h=>by cases h) (ek hu hx) h
theorem dx{t:TypeId}{x:Operand}{s:ByteArray}{dd:Nat}(hw:ar (aG T (aF ops.toList ⟨some dd,.call {callee:= .builtin .len,args:= #[x],argTypes:= #[t]},ty,pos,af,gd⟩)) ops ⟨some dd,.call {callee:= .builtin .len,args:= #[x],argTypes:= #[t]},ty,pos,af,gd⟩=some true)(hd:Nat.blt dd nt=true)(hx:am (aG T (aF ops.toList ⟨some dd,.call {callee:= .builtin .len,args:= #[x],argTypes:= #[t]},ty,pos,af,gd⟩)) x=some (.sc (.string s)))(hu:P.underlying t=some .string)
 (h:DrawK P nt ops (i+1) l ⟨T.set dd (.sc (.int .i64 s.size)),H,nx,⟨i,⟨some dd,.call {callee:= .builtin .len,args:= #[x],argTypes:= #[t]},ty,pos,af,gd⟩,(aG T (aF ops.toList ⟨some dd,.call {callee:= .builtin .len,args:= #[x],argTypes:= #[t]},ty,pos,af,gd⟩)),stg,false,true,(.sc (.int .i64 s.size))⟩ :: rs,Hs,stg⟩ K):DrawK P nt ops i (⟨some dd,.call {callee:= .builtin .len,args:= #[x],argTypes:= #[t]},ty,pos,af,gd⟩ :: l) ⟨T,H,nx,rs,Hs,stg⟩ K:=
 bl hw hd (fun _ h=>by cases h) (dU hu hx) h
theorem jw{t el:TypeId}{len sz:Nat}{parts:List (Nat×Operand)}{ps:List (Nat×SV)}{z:Value}{cs:List SV}{dd:Nat}(hw:ar (aG T (aF ops.toList ⟨some dd,.buildSlice t len parts.toArray,ty,pos,af,gd⟩)) ops ⟨some dd,.buildSlice t len parts.toArray,ty,pos,af,gd⟩=some true)(hd:Nat.blt dd nt=true)(hu:P.underlying t=some (.slice el))(hs:bA P el=some sz)(h0:Nat.blt 0 sz=true)(hz:dq P el=some z)(hp:iU (aG T (aF ops.toList ⟨some dd,.buildSlice t len parts.toArray,ty,pos,af,gd⟩)) parts=some ps)(hf:fh (fun i=>some (i*sz,sz)) (((List.range (len*sz)).map (z.cells[·% z.cells.size]!)).map .sc) ps=some cs)(h1:cG cs=true)(hlen:Nat.ble (len*sz) 16777216=true)(hll:cs.length=len*sz)
 (h:DrawK P nt ops (i+1) l ⟨T.set dd (.slu nx 0 len),(H.set nx (.row false len sz el (eN cs))),(nx+1),⟨i,⟨some dd,.buildSlice t len parts.toArray,ty,pos,af,gd⟩,(aG T (aF ops.toList ⟨some dd,.buildSlice t len parts.toArray,ty,pos,af,gd⟩)),stg,true,true,(.slu nx 0 len)⟩ :: rs,((H.set nx (.row false len sz el (eN cs))),(nx+1)) :: Hs,stg+1⟩ K):DrawK P nt ops i (⟨some dd,.buildSlice t len parts.toArray,ty,pos,af,gd⟩ :: l) ⟨T,H,nx,rs,Hs,stg⟩ K:=
 lE hw hd (fun _ h=>by cases h) (f9 hu hs (bW h0) hz hp hf h1 hlen hll) h
theorem xR{t el:TypeId}{x0 x1 x2:Operand}{v0 v1 v2 z:Value}{dd:Nat}(hw:ar (aG T (aF ops.toList ⟨some dd,.buildSlice t 3 #[(0,x0),(1,x1),(2,x2)],ty,pos,af,gd⟩)) ops ⟨some dd,.buildSlice t 3 #[(0,x0),(1,x1),(2,x2)],ty,pos,af,gd⟩=some true)(hd:Nat.blt dd nt=true)(h0:am (aG T (aF ops.toList ⟨some dd,.buildSlice t 3 #[(0,x0),(1,x1),(2,x2)],ty,pos,af,gd⟩)) x0=some (.sc v0))(h1:am (aG T (aF ops.toList ⟨some dd,.buildSlice t 3 #[(0,x0),(1,x1),(2,x2)],ty,pos,af,gd⟩)) x1=some (.sc v1))(h2:am (aG T (aF ops.toList ⟨some dd,.buildSlice t 3 #[(0,x0),(1,x1),(2,x2)],ty,pos,af,gd⟩)) x2=some (.sc v2))(hu:P.underlying t=some (.slice el))(hs:bA P el=some 1)(hz:dq P el=some z)(o0:v0.oneCell'=true)(o1:v1.oneCell'=true)(o2:v2.oneCell'=true)
 (h:DrawK P nt ops (i+1) l ⟨T.set dd (.slu nx 0 3),(H.set nx (dat false 3 1 el [v0,v1,v2])),(nx+1),⟨i,⟨some dd,.buildSlice t 3 #[(0,x0),(1,x1),(2,x2)],ty,pos,af,gd⟩,(aG T (aF ops.toList ⟨some dd,.buildSlice t 3 #[(0,x0),(1,x1),(2,x2)],ty,pos,af,gd⟩)),stg,true,true,(.slu nx 0 3)⟩ :: rs,((H.set nx (dat false 3 1 el [v0,v1,v2])),(nx+1)) :: Hs,stg+1⟩ K):DrawK P nt ops i (⟨some dd,.buildSlice t 3 #[(0,x0),(1,x1),(2,x2)],ty,pos,af,gd⟩ :: l) ⟨T,H,nx,rs,Hs,stg⟩ K:=
 lE hw hd (fun _ h=>by cases h) (xn hu hs hz h0 h1 h2 o0 o1 o2) h
theorem ju{t rt:TypeId}{x:Operand}{b o ne sz:Nat}{rr:Bool}{vs:List Value}{v:Value}{dd:Nat}(hw:ar (aG T (aF ops.toList ⟨some dd,.load t x,ty,pos,af,gd⟩)) ops ⟨some dd,.load t x,ty,pos,af,gd⟩=some true)(hd:Nat.blt dd nt=true)(hx:am (aG T (aF ops.toList ⟨some dd,.load t x,ty,pos,af,gd⟩)) x=some (.ptr b o))(ha:cq P t=some none)(hb:H.at' b=some (dat rr ne sz rt vs))(hv:vs[o]? =some v)(ho:o<ne*sz)
 (h:DrawK P nt ops (i+1) l ⟨T.set dd (.sc v),H,nx,⟨i,⟨some dd,.load t x,ty,pos,af,gd⟩,(aG T (aF ops.toList ⟨some dd,.load t x,ty,pos,af,gd⟩)),stg,false,true,(.sc v)⟩ :: rs,Hs,stg⟩ K):DrawK P nt ops i (⟨some dd,.load t x,ty,pos,af,gd⟩ :: l) ⟨T,H,nx,rs,Hs,stg⟩ K:=
 bl hw hd (fun _ h=>by cases h) (aZ ha hx hb (d8 ho hv)) h
theorem fj{t rt:TypeId}{x:Operand}{b o n ne sz:Nat}{rr:Bool}{vs us:List Value}{dd:Nat}(hw:ar (aG T (aF ops.toList ⟨some dd,.load t x,ty,pos,af,gd⟩)) ops ⟨some dd,.load t x,ty,pos,af,gd⟩=some true)(hd:Nat.blt dd nt=true)(hx:am (aG T (aF ops.toList ⟨some dd,.load t x,ty,pos,af,gd⟩)) x=some (.ptr b o))(ha:cq P t=some (some n))(hb:H.at' b=some (dat rr ne sz rt vs))(hv:(vs.drop o).take n=us)(hn:us.length=n)(ho:o+n≤ne*sz)
 (h:DrawK P nt ops (i+1) l ⟨T.set dd (.agg (us.map .sc)),H,nx,⟨i,⟨some dd,.load t x,ty,pos,af,gd⟩,(aG T (aF ops.toList ⟨some dd,.load t x,ty,pos,af,gd⟩)),stg,false,true,(.agg (us.map .sc))⟩ :: rs,Hs,stg⟩ K):DrawK P nt ops i (⟨some dd,.load t x,ty,pos,af,gd⟩ :: l) ⟨T,H,nx,rs,Hs,stg⟩ K:=
 bl hw hd (fun _ h=>by cases h) (bg ha hx hb (dm n o hv hn ho)) h
theorem dK{t e:TypeId}{x y:Operand}{b n q:Nat}{kd:IntKind}{j:Int}{rr:Bool}{ne sz:Nat}{rt:TypeId}{c:Tr SV}{dd:Nat}(hw:ar (aG T (aF ops.toList ⟨some dd,.indexAddr t x y,ty,pos,af,gd⟩)) ops ⟨some dd,.indexAddr t x y,ty,pos,af,gd⟩=some true)(hd:Nat.blt dd nt=true)(hx:am (aG T (aF ops.toList ⟨some dd,.indexAddr t x y,ty,pos,af,gd⟩)) x=some (.slu b 0 n))(hy:am (aG T (aF ops.toList ⟨some dd,.indexAddr t x y,ty,pos,af,gd⟩)) y=some (.sc (.int kd j)))(hu:P.underlying t=some (.slice e))(hs:bA P e=some sz)(hb:H.at' b=some (.row rr ne sz rt c))(hj:j=(q:Int))(hi:q<n)(hne:n≤ne)
 (h:DrawK P nt ops (i+1) l ⟨T.set dd (.ptr b (q*sz)),H,nx,⟨i,⟨some dd,.indexAddr t x y,ty,pos,af,gd⟩,(aG T (aF ops.toList ⟨some dd,.indexAddr t x y,ty,pos,af,gd⟩)),stg,false,true,(.ptr b (q*sz))⟩ :: rs,Hs,stg⟩ K):DrawK P nt ops i (⟨some dd,.indexAddr t x y,ty,pos,af,gd⟩ :: l) ⟨T,H,nx,rs,Hs,stg⟩ K:=
 bl hw hd (fun _ h=>by cases h) (eL hu hs hx hy hb hj hi hne) h
theorem oG{A:Type} [Inhabited A]{f:A→List Value}{t rt:TypeId}{x:Operand}{b q ne sz:Nat}{rr:Bool}{d:Array A}{dd:Nat}(hw:ar (aG T (aF ops.toList ⟨some dd,.load t x,ty,pos,af,gd⟩)) ops ⟨some dd,.load t x,ty,pos,af,gd⟩=some true)(hd:Nat.blt dd nt=true)(hx:am (aG T (aF ops.toList ⟨some dd,.load t x,ty,pos,af,gd⟩)) x=some (.ptr b (q*sz)))(ha:cq P t=some (some sz))(hf:RecOf f sz)(hb:H.at' b=some (arr rr ne sz rt f d))(hi:q<d.size)(hne:d.size≤ne)
 (h:DrawK P nt ops (i+1) l ⟨T.set dd (.agg ((f d[q]!).map .sc)),H,nx,⟨i,⟨some dd,.load t x,ty,pos,af,gd⟩,(aG T (aF ops.toList ⟨some dd,.load t x,ty,pos,af,gd⟩)),stg,false,true,(.agg ((f d[q]!).map .sc))⟩ :: rs,Hs,stg⟩ K):DrawK P nt ops i (⟨some dd,.load t x,ty,pos,af,gd⟩ :: l) ⟨T,H,nx,rs,Hs,stg⟩ K:=
 bl hw hd (fun _ h=>by cases h) (yH ha hx hf hb hi hne) h
theorem wy{A:Type}{f:A→List Value}{t rt:TypeId}{a x:Operand}{b q ne sz:Nat}{d:Array A}{v:A}(hw:ar (aG T (aF ops.toList ⟨none,.store t a x,ty,pos,af,gd⟩)) ops ⟨none,.store t a x,ty,pos,af,gd⟩=some true)(ha:am (aG T (aF ops.toList ⟨none,.store t a x,ty,pos,af,gd⟩)) a=some (.ptr b (q*sz)))(hx:am (aG T (aF ops.toList ⟨none,.store t a x,ty,pos,af,gd⟩)) x=some (.agg ((f v).map .sc)))(hf:RecOf f sz)(hs:bA P t=some sz)(hb:H.at' b=some (arr false ne sz rt f d))(hi:q<d.size)(hne:d.size≤ne)
 (h:DrawK P nt ops (i+1) l ⟨T,(H.set b (arr false ne sz rt f (d.setIfInBounds q v))),nx,⟨i,⟨none,.store t a x,ty,pos,af,gd⟩,(aG T (aF ops.toList ⟨none,.store t a x,ty,pos,af,gd⟩)),stg,true,true,de⟩ :: rs,((H.set b (arr false ne sz rt f (d.setIfInBounds q v))),nx) :: Hs,stg+1⟩ K):DrawK P nt ops i (⟨none,.store t a x,ty,pos,af,gd⟩ :: l) ⟨T,H,nx,rs,Hs,stg⟩ K:=
 nd hw (fun _ h=>by cases h) (yJ hs ha hx rfl hf hb hi hne) h
theorem gP{t yt:TypeId}{x y:Operand}{kd:IntKind}{a b:Int}{dd:Nat}(hw:ar (aG T (aF ops.toList ⟨some dd,.binOp .eql t x y yt,ty,pos,af,gd⟩)) ops ⟨some dd,.binOp .eql t x y yt,ty,pos,af,gd⟩=some true)(hd:Nat.blt dd nt=true)(hx:am (aG T (aF ops.toList ⟨some dd,.binOp .eql t x y yt,ty,pos,af,gd⟩)) x=some (.sc (.int kd a)))(hy:am (aG T (aF ops.toList ⟨some dd,.binOp .eql t x y yt,ty,pos,af,gd⟩)) y=some (.sc (.int kd b)))
 (h1:a=b→DrawK P nt ops (i+1) l ⟨T.set dd (.sc (.bool true)),H,nx,⟨i,⟨some dd,.binOp .eql t x y yt,ty,pos,af,gd⟩,(aG T (aF ops.toList ⟨some dd,.binOp .eql t x y yt,ty,pos,af,gd⟩)),stg,false,true,(.sc (.bool true))⟩ :: rs,Hs,stg⟩ K) (h2:a≠b→DrawK P nt ops (i+1) l ⟨T.set dd (.sc (.bool false)),H,nx,⟨i,⟨some dd,.binOp .eql t x y yt,ty,pos,af,gd⟩,(aG T (aF ops.toList ⟨some dd,.binOp .eql t x y yt,ty,pos,af,gd⟩)),stg,false,true,(.sc (.bool false))⟩ :: rs,Hs,stg⟩ K):DrawK P nt ops i (⟨some dd,.binOp .eql t x y yt,ty,pos,af,gd⟩ :: l) ⟨T,H,nx,rs,Hs,stg⟩ K:=by
 refine y8 hw hd hx hy ?_
 by_cases hc:a=b
 ·have e:(a == b)=true:=by simp;omega
  rw [e];exact h1 hc
 ·have e:(a == b)=false:=by simp;omega
  rw [e];exact h2 (by omega)
theorem t8{t yt:TypeId}{x y:Operand}{kd:IntKind}{a b:Int}{dd:Nat}(hw:ar (aG T (aF ops.toList ⟨some dd,.binOp .neq t x y yt,ty,pos,af,gd⟩)) ops ⟨some dd,.binOp .neq t x y yt,ty,pos,af,gd⟩=some true)(hd:Nat.blt dd nt=true)(hx:am (aG T (aF ops.toList ⟨some dd,.binOp .neq t x y yt,ty,pos,af,gd⟩)) x=some (.sc (.int kd a)))(hy:am (aG T (aF ops.toList ⟨some dd,.binOp .neq t x y yt,ty,pos,af,gd⟩)) y=some (.sc (.int kd b)))
 (h1:a≠b→DrawK P nt ops (i+1) l ⟨T.set dd (.sc (.bool true)),H,nx,⟨i,⟨some dd,.binOp .neq t x y yt,ty,pos,af,gd⟩,(aG T (aF ops.toList ⟨some dd,.binOp .neq t x y yt,ty,pos,af,gd⟩)),stg,false,true,(.sc (.bool true))⟩ :: rs,Hs,stg⟩ K) (h2:a=b→DrawK P nt ops (i+1) l ⟨T.set dd (.sc (.bool false)),H,nx,⟨i,⟨some dd,.binOp .neq t x y yt,ty,pos,af,gd⟩,(aG T (aF ops.toList ⟨some dd,.binOp .neq t x y yt,ty,pos,af,gd⟩)),stg,false,true,(.sc (.bool false))⟩ :: rs,Hs,stg⟩ K):DrawK P nt ops i (⟨some dd,.binOp .neq t x y yt,ty,pos,af,gd⟩ :: l) ⟨T,H,nx,rs,Hs,stg⟩ K:=by
 refine y5 hw hd hx hy ?_
 by_cases hc:a≠b
 ·have e:(a != b)=true:=by simp;omega
  rw [e];exact h1 hc
 ·have e:(a != b)=false:=by simp;omega
  rw [e];exact h2 (by omega)
theorem t9{t yt:TypeId}{x y:Operand}{kd:IntKind}{a b:Int}{dd:Nat}(hw:ar (aG T (aF ops.toList ⟨some dd,.binOp .lss t x y yt,ty,pos,af,gd⟩)) ops ⟨some dd,.binOp .lss t x y yt,ty,pos,af,gd⟩=some true)(hd:Nat.blt dd nt=true)(hx:am (aG T (aF ops.toList ⟨some dd,.binOp .lss t x y yt,ty,pos,af,gd⟩)) x=some (.sc (.int kd a)))(hy:am (aG T (aF ops.toList ⟨some dd,.binOp .lss t x y yt,ty,pos,af,gd⟩)) y=some (.sc (.int kd b)))
 (h1:a<b→DrawK P nt ops (i+1) l ⟨T.set dd (.sc (.bool true)),H,nx,⟨i,⟨some dd,.binOp .lss t x y yt,ty,pos,af,gd⟩,(aG T (aF ops.toList ⟨some dd,.binOp .lss t x y yt,ty,pos,af,gd⟩)),stg,false,true,(.sc (.bool true))⟩ :: rs,Hs,stg⟩ K) (h2:b≤a→DrawK P nt ops (i+1) l ⟨T.set dd (.sc (.bool false)),H,nx,⟨i,⟨some dd,.binOp .lss t x y yt,ty,pos,af,gd⟩,(aG T (aF ops.toList ⟨some dd,.binOp .lss t x y yt,ty,pos,af,gd⟩)),stg,false,true,(.sc (.bool false))⟩ :: rs,Hs,stg⟩ K):DrawK P nt ops i (⟨some dd,.binOp .lss t x y yt,ty,pos,af,gd⟩ :: l) ⟨T,H,nx,rs,Hs,stg⟩ K:=by
 refine y6 hw hd hx hy ?_
 by_cases hc:a<b
 ·have e:(decide (a<b))=true:=by simp;omega
  rw [e];exact h1 hc
 ·have e:(decide (a<b))=false:=by simp;omega
  rw [e];exact h2 (by omega)
theorem lD{t yt:TypeId}{x y:Operand}{kd:IntKind}{a b:Int}{dd:Nat}(hw:ar (aG T (aF ops.toList ⟨some dd,.binOp .gtr t x y yt,ty,pos,af,gd⟩)) ops ⟨some dd,.binOp .gtr t x y yt,ty,pos,af,gd⟩=some true)(hd:Nat.blt dd nt=true)(hx:am (aG T (aF ops.toList ⟨some dd,.binOp .gtr t x y yt,ty,pos,af,gd⟩)) x=some (.sc (.int kd a)))(hy:am (aG T (aF ops.toList ⟨some dd,.binOp .gtr t x y yt,ty,pos,af,gd⟩)) y=some (.sc (.int kd b)))
 (h1:b<a→DrawK P nt ops (i+1) l ⟨T.set dd (.sc (.bool true)),H,nx,⟨i,⟨some dd,.binOp .gtr t x y yt,ty,pos,af,gd⟩,(aG T (aF ops.toList ⟨some dd,.binOp .gtr t x y yt,ty,pos,af,gd⟩)),stg,false,true,(.sc (.bool true))⟩ :: rs,Hs,stg⟩ K) (h2:a≤b→DrawK P nt ops (i+1) l ⟨T.set dd (.sc (.bool false)),H,nx,⟨i,⟨some dd,.binOp .gtr t x y yt,ty,pos,af,gd⟩,(aG T (aF ops.toList ⟨some dd,.binOp .gtr t x y yt,ty,pos,af,gd⟩)),stg,false,true,(.sc (.bool false))⟩ :: rs,Hs,stg⟩ K):DrawK P nt ops i (⟨some dd,.binOp .gtr t x y yt,ty,pos,af,gd⟩ :: l) ⟨T,H,nx,rs,Hs,stg⟩ K:=by
 refine y7 hw hd hx hy ?_
 by_cases hc:b<a
 ·have e:(decide (a>b))=true:=by simp;omega
  rw [e];exact h1 hc
 ·have e:(decide (a>b))=false:=by simp;omega
  rw [e];exact h2 (by omega)
end
section
variable {P:Program}
theorem kr{ro:Option Nat}{fn nt nx:Nat}{T:Tr SV}{k:List AIt}{dfs:List ADf}{H:aJ}{Q:Pst}{d:Nat}(sz:Nat)(t:TypeId)(hT:T.at' d=some (.sc (.slice none 0 0)))(h0:Nat.blt 0 sz=true)
 (h:Wp P ro ⟨fn,nt,T.set d (.slu nx 0 0),k,dfs,H.set nx (dat false 0 sz t []),nx+1⟩ Q):Wp P ro ⟨fn,nt,T,k,dfs,H,nx⟩ Q:=by
 refine⟨fun K w0 e w tmps todo ds kd rof cs hS hTr htd hds hc=>?_⟩
 have hf:=hS.fresh nx (zD _)
 have hle:=Env.cN (x:=⟨0,0,0,sz,true⟩) hf
 have hT2:TRel (e.put nx ⟨0,0,0,sz,true⟩) nt (T.set d (.slu nx 0 0)) tmps:=by
  refine⟨hTr.1,fun t s hs=>?_⟩
  rcases Tr.b8 hs with ⟨rfl,rfl⟩|⟨_,hs⟩
  ·obtain⟨v,g1,g2⟩:=hTr.2 _ _ hT
   simp only [SV.conc,zh] at g1
   subst g1
   exact⟨_,by simp [SV.conc,Env.bz,Ent.at],g2⟩
  ·obtain⟨v,g1,g2⟩:=hTr.2 _ _ hs
   exact⟨v,SV.cm hle _ _ g1,g2⟩
 obtain⟨r,hr,e1,w',v,g1,g2⟩:=h.run K w0 _ w tmps todo ds kd rof cs (hS.newNil false sz t _ (bW h0)) hT2 (htd.mono hle) (hds.mono hle) (hc.mono hle)
 exact⟨r,hr,e1,w',v,Env.le_trans hle g1,g2⟩
theorem se{ro:Option Nat}{fn nt nx:Nat}{T:Tr SV}{k:List AIt}{dfs:List ADf}{H:aJ}{Q:Pst}{d:Nat}{s s':SV}(hT:T.at' d=some s)(hc: ∀ e v,s.conc e=some v→s'.conc e=some v)
 (h:Wp P ro ⟨fn,nt,T.set d s',k,dfs,H,nx⟩ Q):Wp P ro ⟨fn,nt,T,k,dfs,H,nx⟩ Q:=by
 refine⟨fun K w0 e w tmps todo ds kd rof cs hS hTr htd hds hcx=>?_⟩
 refine h.run K w0 e w tmps todo ds kd rof cs hS ⟨hTr.1,fun t u hu=>?_⟩ htd hds hcx
 rcases Tr.b8 hu with ⟨rfl,rfl⟩|⟨_,hu⟩
 ·obtain⟨v,g1,g2⟩:=hTr.2 _ _ hT
  exact⟨v,hc e v g1,g2⟩
 ·exact hTr.2 _ _ hu
end
section
variable {K V:Type} [DecidableEq K]
structure KEnc (P:Program) (kt:TypeId) (enc:K→Value):Prop where
 find: ∀ (l:List (K×SV×Nat)) (k:K),lA P kt (enc k) (l.map fun x=>(enc x.1,x.2))=some (l.findIdx? fun x=>decide (x.1=k))
 check: ∀ k,bF P (Instr.checkKey false 10000 kt (enc k))=some ()
 bits: ∀ k,Instr.sameBits 10000 (enc k) (enc k)=true
def kp(m:List (K×V×Nat))(k:K):Option V:=(m.find? fun x=>decide (x.1=k)).map (·.2.1)
def pC:List (K×V×Nat)→K→V→Nat→List (K×V×Nat)
 | [],k,v,c=> [(k,v,c)]
 | x :: m,k,v,c=>if x.1=k then(k,v,x.2.2) :: m else x :: pC m k v c
def yV(m:List (K×V×Nat))(k:K)(c:Nat):Nat:=match kp m k with
 | some _=>c
 | none=>c+1
def oX:List (K×V×Nat)→K→List (K×V×Nat)
 | [],_=> []
 | x :: m,k=>if x.1=k then m else x :: oX m k
structure KOk (m:List (K×V×Nat)) (c:Nat):Prop where
 keys:(m.map (·.1)).Nodup
 born:(m.map (·.2.2)).Nodup
 lt: ∀ x∈m,x.2.2<c
omit [DecidableEq K] in
theorem KOk.nil(c:Nat):KOk ([]:List (K×V×Nat)) c:=⟨by simp,by simp,by simp⟩
theorem kidx(m:List (K×V×Nat))(k:K):match m.findIdx? fun x=>decide (x.1=k)with
 | none=>kp m k=none∧oX m k=m∧ ∀ v c,pC m k v c=m ++ [(k,v,c)]
 | some i=> ∃ x,m[i]? =some x∧x.1=k∧kp m k=some x.2.1∧oX m k=m.eraseIdx i∧ ∀ v c,pC m k v c=m.set i (k,v,x.2.2):=by
 induction m with
 | nil=>simp [kp,oX,pC]
 | cons y m ih=>
   rw [List.findIdx?_cons]
   by_cases h:y.1=k
   ·simp [h,kp,oX,pC]
   ·simp only [h,decide_false,Bool.false_eq_true,if_false]
    cases hi:m.findIdx? fun x=>decide (x.1=k)with
    | none=>
      rw [hi] at ih
      obtain⟨h1,h2,h3⟩:=ih
      refine⟨?_,?_,fun v c=>?_⟩
      ·simpa [kp,h] using h1
      ·simp [oX,h,h2]
      ·simp [pC,h,h3]
    | some i=>
      rw [hi] at ih
      obtain⟨x,h1,h2,h3,h4,h5⟩:=ih
      refine⟨x,by simpa using h1,h2,?_,?_,fun v c=>?_⟩
      ·simpa [kp,h] using h3
      ·simp [oX,h,h4]
      ·simp [pC,h,h5]
theorem tL{m:List (K×V×Nat)}{k:K}:kp m k=none↔k∉m.map (·.1):=by
 induction m with
 | nil=>simp [kp]
 | cons y m ih=>
   by_cases h:y.1=k
   ·simp [kp,h]
   ·have:kp (y :: m) k=kp m k:=by simp [kp,h]
    rw [this,ih]
    simp [Ne.symm h]
theorem KOk.put{m:List (K×V×Nat)}{c:Nat}(h:KOk m c)(k:K)(v:V):KOk (pC m k v c) (yV m k c):=by
 have hk:=kidx m k
 cases hi:m.findIdx? fun x=>decide (x.1=k)with
 | none=>
   rw [hi] at hk
   obtain⟨h1,_,h3⟩:=hk
   rw [h3,show yV m k c=c+1 by simp [yV,h1]]
   refine⟨?_,?_,?_⟩
   ·rw [zI,List.nodup_append]
    exact⟨h.keys,by simp,fun a ha b hb=>by simp at hb;subst hb;intro e;subst e;exact tL.1 h1 ha⟩
   ·rw [zI,List.nodup_append]
    refine⟨h.born,by simp,fun a ha b hb=>?_⟩
    simp at hb
    subst hb
    obtain⟨x,hx,rfl⟩:=List.mem_map.1 ha
    have:=h.lt x hx
    omega
   ·intro x hx
    rcases List.mem_append.1 hx with hx|hx
    ·have:=h.lt x hx;omega
    ·simp at hx;subst hx;show c<c+1;omega
 | some i=>
   rw [hi] at hk
   obtain⟨x,h1,h2,h3,_,h5⟩:=hk
   rw [h5,show yV m k c=c by simp [yV,h3]]
   obtain⟨hlt,rfl⟩:=zm.1 h1
   refine⟨?_,?_,?_⟩
   ·rw [List.map_set]
    rw [show(m.map (·.1)).set i k=m.map (·.1) by rw [← h2];apply List.ext_getElem?;intro j;rw [List.getElem?_set];by_cases hj:i=j
                                                 ·subst hj;simp [hlt]
                                                 ·simp [hj]]
    exact h.keys
   ·rw [List.map_set]
    rw [show(m.map (·.2.2)).set i m[i].2.2=m.map (·.2.2) by apply List.ext_getElem?;intro j;rw [List.getElem?_set];by_cases hj:i=j
                                                            ·subst hj;simp [hlt]
                                                            ·simp [hj]]
    exact h.born
   ·intro y hy
    rcases List.mem_or_eq_of_mem_set hy with hy|rfl
    ·exact h.lt y hy
    ·exact h.lt m[i] (zN hlt)
omit [DecidableEq K] in
theorem KOk.sub{m m':List (K×V×Nat)}{c:Nat}(h:KOk m c)(hs:m'.Sublist m):KOk m' c:=⟨h.keys.sublist (hs.map _),h.born.sublist (hs.map _),fun x hx=>h.lt x (hs.subset hx)⟩
theorem vG(m:List (K×V×Nat))(k:K):(oX m k).Sublist m:=by
 induction m with
 | nil=>exact List.Sublist.refl _
 | cons y m ih=>
   unfold oX
   split
   ·exact List.sublist_cons_self _ _
   ·exact ih.cons_cons _
theorem KOk.del{m:List (K×V×Nat)}{c:Nat}(h:KOk m c)(k:K):KOk (oX m k) c:=h.sub (vG m k)
omit [DecidableEq K] in
theorem KOk.eq{m:List (K×V×Nat)}{c:Nat}(h:KOk m c){x y:K×V×Nat}(hx:x∈m)(hy:y∈m)(hb:x.2.2=y.2.2):x=y:=by
 obtain⟨i,hi⟩:=List.getElem?_of_mem hx
 obtain⟨j,hj⟩:=List.getElem?_of_mem hy
 obtain⟨hi',rfl⟩:=zm.1 hi
 obtain⟨hj',rfl⟩:=zm.1 hj
 have:i=j:=by
  refine(List.getElem_inj (h₀:=by simpa using hi') (h₁:=by simpa using hj') h.born).1 ?_
  simpa using hb
 subst this
 rfl
omit [DecidableEq K] in
theorem KOk.nodup{m:List (K×V×Nat)}{c:Nat}(h:KOk m c):m.Nodup:=by
 have:=h.born
 exact List.Pairwise.of_map (·.2.2) (fun a b hab e=>hab (by rw [e])) this
variable {P:Program} {T:Tr SV} {H:aJ} {nx:Nat} {d:Option Tmp} {ty:TypeId} {pos:String} {af:Array Edge} {gd:Option (Nat×Bool)}
end
section
variable {P:Program} {T:Tr SV} {H:aJ} {nx:Nat} {d:Option Tmp} {ty:TypeId} {pos:String} {af:Array Edge} {gd:Option (Nat×Bool)}
theorem vn{t yt:TypeId}{x y:Operand}{s:SV}{v:Value}{d0:TypeDesc}(hx:am T x=some s)(hy:am T y=some (.sc v))(hu:P.underlying t=some d0)(hn:j9 s v d0=true):ReadDoes P T H ⟨d,.binOp .eql t x y yt,ty,pos,af,gd⟩ (.sc (.bool false)):=by
 refine eA ?_
 unfold c6
 simp only [hx,hy,zK,lj,hu,hn,cond_true]
theorem ve{t yt:TypeId}{x y:Operand}{s:SV}{v:Value}{d0:TypeDesc}(hx:am T x=some s)(hy:am T y=some (.sc v))(hu:P.underlying t=some d0)(hn:j9 s v d0=true):ReadDoes P T H ⟨d,.binOp .neq t x y yt,ty,pos,af,gd⟩ (.sc (.bool true)):=by
 refine eA ?_
 unfold c6
 simp only [hx,hy,zK,lj,hu,hn,cond_true]
def yM:Value→Bool
 | .pointer none=>true
 | .map none=>true
 | _=>false
def yN:Value→TypeDesc→Bool
 | .pointer none,.pointer _=>true
 | .map none,.map _ _=>true
 | _,_=>false
theorem oy{t e:TypeId}(n:Nat)(hu:P.underlying t=some (.pointer e))(w:World):(Op.equalIn (n+1) t (.pointer none) (.pointer none)).run P w = .ok true w:=by
 simp [Op.equalIn,run_underlying hu]
theorem oz{t k e:TypeId}(n:Nat)(hu:P.underlying t=some (.map k e))(w:World):(Op.equalIn (n+1) t (.map none) (.map none)).run P w = .ok true w:=by
 simp [Op.equalIn,run_underlying hu]
theorem ox{t:TypeId}{v:Value}{d0:TypeDesc}(hv:yM v=true)(hu:P.underlying t=some d0)(hk:yN v d0=true)(w:World):(Op.equal t v v).run P w = .ok true w:=by
 cases v with
 | pointer a=>
   cases a with
   | some a=>cases hv
   | none=>cases d0 with
     | pointer e=>exact oy 9999 hu w
     | _=>cases hk
 | map a=>
   cases a with
   | some a=>cases hv
   | none=>cases d0 with
     | map k e=>exact oz 9999 hu w
     | _=>cases hk
 | _=>cases hv
theorem vh{t yt:TypeId}{x y:Operand}{v:Value}{d0:TypeDesc}(hx:am T x=some (.sc v))(hy:am T y=some (.sc v))(hv:yM v=true)(hu:P.underlying t=some d0)(hk:yN v d0=true):ReadDoes P T H ⟨d,.binOp .eql t x y yt,ty,pos,af,gd⟩ (.sc (.bool true)):=by
 refine cS fun ev w he=>?_
 have e1:=he x _ hx _ rfl
 have e2:=he y _ hy _ rfl
 have hg:(eqGuard .eql t x y v v).run P w = .ok () w:=by cases v <;> first|rfl|cases hv
 have hq:(Op.equal t v v).run P w = .ok true w:=ox hv hu hk w
 have hb:(binOp .eql t v v).run P w = .ok (.bool true) w:=by
  cases v <;> first|(simp only [binOp,Sem.run_bind,hq,Result.andThen_ok,Sem.run_pure];done)|cases hv
 simp only [execOp,e1,e2,Sem.run_bind,hg,hb,Result.andThen_ok,Sem.run_pure]
theorem u9{t yt:TypeId}{x y:Operand}{v:Value}{d0:TypeDesc}(hx:am T x=some (.sc v))(hy:am T y=some (.sc v))(hv:yM v=true)(hu:P.underlying t=some d0)(hk:yN v d0=true):ReadDoes P T H ⟨d,.binOp .neq t x y yt,ty,pos,af,gd⟩ (.sc (.bool false)):=by
 refine cS fun ev w he=>?_
 have e1:=he x _ hx _ rfl
 have e2:=he y _ hy _ rfl
 have hg:(eqGuard .neq t x y v v).run P w = .ok () w:=by cases v <;> first|rfl|cases hv
 have hq:(Op.equal t v v).run P w = .ok true w:=ox hv hu hk w
 have hb:(binOp .neq t v v).run P w = .ok (.bool false) w:=by
  cases v <;> first|(simp only [binOp,Sem.run_bind,hq,Result.andThen_ok,Sem.run_pure,Bool.not_true];done)|cases hv
 simp only [execOp,e1,e2,Sem.run_bind,hg,hb,Result.andThen_ok,Sem.run_pure]
theorem pq{x:Operand}{i:Nat}{xs:Array Value}{v:Value}(h:am T x=some (.sc (.tuple xs)))(hi:xs[i]? =some v):ReadDoes P T H ⟨d,.extract x i,ty,pos,af,gd⟩ (.sc v):=by
 refine eA ?_
 unfold c6
 simp only [h,zK,xw,hi,zJ]
theorem rv{t:TypeId}:OpDoes P T H nx ⟨d,.makeMap t none,ty,pos,af,gd⟩ (.val (.mp nx),H.set nx (.map [] 0),nx+1):=iW rfl
end
section
variable {P:Program} {T:Tr SV} {H:aJ} {nx:Nat} {d0:Option Tmp} {ty:TypeId} {pos:String} {af:Array Edge} {gd:Option (Nat×Bool)}
theorem mI{t e:TypeId}{x y:Operand}{b o n sz:Nat}{k:IntKind}{j:Int}{q:Nat}(hx:am T x=some (.ptr b o))(hy:am T y=some (.sc (.int k j)))(hu:P.underlying t=some (.array n e))(hs:bA P e=some sz)(hq:j=(q:Int))(hi:q<n) :
 ReadDoes P T H ⟨d0,.indexAddr t x y,ty,pos,af,gd⟩ (.ptr b (o+q*sz)):=by
 refine eA ?_
 subst hq
 unfold c6
 simp only [tv,hx,hy,zK]
 show(dA P H t q (.ptr b o))=_
 simp only [dA,hu,hs]
 rw [show Nat.blt q n=true from zp hi]
 rfl
end
section
variable {P:Program} {T:Tr SV} {H:aJ} {nx:Nat} {d:Option Tmp} {ty:TypeId} {pos:String} {af:Array Edge} {gd:Option (Nat×Bool)}
theorem w7{b m sz:Nat}{ro:Bool}{t:TypeId}{l:List SV}{vs:List Value}(hb:H.at' b=some (.row ro m sz t (eN l)))(hl:l=vs.map .sc)(hlen:vs.length=m*sz):RdV P H sz (.slu b 0 m) m vs:=by
 subst hl
 rw [cR] at hb
 exact pp hb (by omega) (by rw [Nat.zero_mul,List.drop_zero];exact zu (by omega)) hlen
theorem xm{A:Type}{f:A→List Value}{xs:List A}{a:A}{t tx el:TypeId}{sz b r q:Nat}{s x:Operand}{rq:Bool}{tq:TypeId}{cs:List SV}(hx0:am T s=some (.slu r 0 xs.length))(hx:am T x=some (.slu q 0 1))(hu:P.underlying t=some (.slice el))
 (hk:(∃ e',P.underlying tx=some (.slice e'))∨P.underlying tx=some .string) (hs:bA P el=some sz) (h0:Nat.blt 0 sz=true) (hz:eG P el sz=true) (hb:(P.info? el).map (·.bytes)=some b) (hro:H.at' r=some (dat false xs.length sz el (xs.flatMap f)))
 (hq:H.at' q=some (.row rq 1 sz tq (eN cs))) (hcs:cs=(f a).map .sc) (hf:RecOf f sz) (hm1:(xs.length+1)*b≤140737488355328) (hm2:xs.length+1≤1000000000) :
 OpDoes P T H nx ⟨d,.call {callee:= .builtin .append,args:= #[s,x],argTypes:= #[t,tx]},ty,pos,af,gd⟩ (.val (.slu nx 0 (xs ++ [a]).length),(H.del r).set nx (dat false (xs ++ [a]).length sz el ((xs ++ [a]).flatMap f)),nx+1):=by
 have h:=tf (P:=P) (T:=T) (H:=H) (nx:=nx) (d:=d) (ty:=ty) (pos:=pos) (af:=af) (gd:=gd) (eo:=0) (n:=xs.length) (m:=1) (vs:=f a) (ws:=xs.flatMap f) hu hk hs (bW h0) hz hb hx0 hx (by rw [Nat.zero_add];exact hro)
  (by rw [Nat.zero_mul,List.drop_zero];exact zu (by rw [ft hf.len];omega)) (ft hf.len xs) (w7 hq hcs (by rw [hf.len];omega)) (hf.one a) (by decide) hm1 hm2
 rw [show(xs ++ [a]).length=xs.length+1 by simp,show(xs ++ [a]).flatMap f=xs.flatMap f ++ f a by simp]
 exact h
end
section
variable {P:Program} {ro:Option Nat} {fn nt nx:Nat} {T:Tr SV} {k:List AIt} {dfs:List ADf} {H:aJ} {Q:Pst} {ops:Array Oper} {i:Nat} {l:List Oper} {d:Option Tmp} {ty:TypeId} {pos:String} {af:Array Edge} {gd:Option (Nat×Bool)}
theorem ck{t:TypeId}{dd:Nat}(hw:ar T ops ⟨some dd,.makeMap t none,ty,pos,af,gd⟩=some true)(hd:Nat.blt dd nt=true)
 (h:Wp P ro ⟨fn,nt,T.set dd (.mp nx),.inReg ops (i+1) l :: k,dfs,(H.set nx (.map [] 0)),(nx+1)⟩ Q):Wp P ro ⟨fn,nt,T,.inReg ops i (⟨some dd,.makeMap t none,ty,pos,af,gd⟩ :: l) :: k,dfs,H,nx⟩ Q:=
 bK hw (.inr (fun _ h=>by cases h)) (rv) (by rw [aC hd];exact h)
theorem cw{t yt:TypeId}{x y:Operand}{s:SV}{v:Value}{d0:TypeDesc}{dd:Nat}(hw:ar T ops ⟨some dd,.binOp .eql t x y yt,ty,pos,af,gd⟩=some true)(hd:Nat.blt dd nt=true)(hx:am T x=some s)(hy:am T y=some (.sc v))(hu:P.underlying t=some d0)(hn:j9 s v d0=true)
 (h:Wp P ro ⟨fn,nt,T.set dd (.sc (.bool false)),.inReg ops (i+1) l :: k,dfs,H,nx⟩ Q):Wp P ro ⟨fn,nt,T,.inReg ops i (⟨some dd,.binOp .eql t x y yt,ty,pos,af,gd⟩ :: l) :: k,dfs,H,nx⟩ Q:=
 bK hw (.inr (fun _ h=>by cases h)) ((vn hx hy hu hn).does) (by rw [aC hd];exact h)
theorem da{t yt:TypeId}{x y:Operand}{s:SV}{v:Value}{d0:TypeDesc}{dd:Nat}(hw:ar T ops ⟨some dd,.binOp .neq t x y yt,ty,pos,af,gd⟩=some true)(hd:Nat.blt dd nt=true)(hx:am T x=some s)(hy:am T y=some (.sc v))(hu:P.underlying t=some d0)(hn:j9 s v d0=true)
 (h:Wp P ro ⟨fn,nt,T.set dd (.sc (.bool true)),.inReg ops (i+1) l :: k,dfs,H,nx⟩ Q):Wp P ro ⟨fn,nt,T,.inReg ops i (⟨some dd,.binOp .neq t x y yt,ty,pos,af,gd⟩ :: l) :: k,dfs,H,nx⟩ Q:=
 bK hw (.inr (fun _ h=>by cases h)) ((ve hx hy hu hn).does) (by rw [aC hd];exact h)
theorem db{t yt:TypeId}{x y:Operand}{v:Value}{d0:TypeDesc}{dd:Nat}(hw:ar T ops ⟨some dd,.binOp .eql t x y yt,ty,pos,af,gd⟩=some true)(hd:Nat.blt dd nt=true)(hx:am T x=some (.sc v))(hy:am T y=some (.sc v))(hv:yM v=true)(hu:P.underlying t=some d0)(hk:yN v d0=true)
 (h:Wp P ro ⟨fn,nt,T.set dd (.sc (.bool true)),.inReg ops (i+1) l :: k,dfs,H,nx⟩ Q):Wp P ro ⟨fn,nt,T,.inReg ops i (⟨some dd,.binOp .eql t x y yt,ty,pos,af,gd⟩ :: l) :: k,dfs,H,nx⟩ Q:=
 bK hw (.inr (fun _ h=>by cases h)) ((vh hx hy hv hu hk).does) (by rw [aC hd];exact h)
theorem c9{t yt:TypeId}{x y:Operand}{v:Value}{d0:TypeDesc}{dd:Nat}(hw:ar T ops ⟨some dd,.binOp .neq t x y yt,ty,pos,af,gd⟩=some true)(hd:Nat.blt dd nt=true)(hx:am T x=some (.sc v))(hy:am T y=some (.sc v))(hv:yM v=true)(hu:P.underlying t=some d0)(hk:yN v d0=true)
 (h:Wp P ro ⟨fn,nt,T.set dd (.sc (.bool false)),.inReg ops (i+1) l :: k,dfs,H,nx⟩ Q):Wp P ro ⟨fn,nt,T,.inReg ops i (⟨some dd,.binOp .neq t x y yt,ty,pos,af,gd⟩ :: l) :: k,dfs,H,nx⟩ Q:=
 bK hw (.inr (fun _ h=>by cases h)) ((u9 hx hy hv hu hk).does) (by rw [aC hd];exact h)
theorem bS{x:Operand}{j:Nat}{xs:Array Value}{v:Value}{dd:Nat}(hw:ar T ops ⟨some dd,.extract x j,ty,pos,af,gd⟩=some true)(hd:Nat.blt dd nt=true)(hx:am T x=some (.sc (.tuple xs)))(hj:xs[j]? =some v)
 (h:Wp P ro ⟨fn,nt,T.set dd (.sc v),.inReg ops (i+1) l :: k,dfs,H,nx⟩ Q):Wp P ro ⟨fn,nt,T,.inReg ops i (⟨some dd,.extract x j,ty,pos,af,gd⟩ :: l) :: k,dfs,H,nx⟩ Q:=
 bK hw (.inr (fun _ h=>by cases h)) ((pq hx hj).does) (by rw [aC hd];exact h)
theorem iy{t e:TypeId}{x y:Operand}{b o n sz:Nat}{kd:IntKind}{j:Int}{q:Nat}{dd:Nat}(hw:ar T ops ⟨some dd,.indexAddr t x y,ty,pos,af,gd⟩=some true)(hd:Nat.blt dd nt=true)(hx:am T x=some (.ptr b o))(hy:am T y=some (.sc (.int kd j)))(hu:P.underlying t=some (.array n e))(hs:bA P e=some sz)(hq:j=(q:Int))(hi:q<n)
 (h:Wp P ro ⟨fn,nt,T.set dd (.ptr b (o+q*sz)),.inReg ops (i+1) l :: k,dfs,H,nx⟩ Q):Wp P ro ⟨fn,nt,T,.inReg ops i (⟨some dd,.indexAddr t x y,ty,pos,af,gd⟩ :: l) :: k,dfs,H,nx⟩ Q:=
 bK hw (.inr (fun _ h=>by cases h)) ((mI hx hy hu hs hq hi).does) (by rw [aC hd];exact h)
theorem aM{t bt:TypeId}{a x:Operand}{b o n:Nat}{cs vs:List SV}{v:SV}(hw:ar T ops ⟨none,.store t a x,ty,pos,af,gd⟩=some true)(ha:am T a=some (.ptr b o))(hx:am T x=some v)(hv:v.cells=vs)(hs:bA P t=some n)(hb:H.at' b=some (az bt cs))(hn:vs.length=n)(ho:o+n≤cs.length)(h1:cG vs=true)
 (h:Wp P ro ⟨fn,nt,T,.inReg ops (i+1) l :: k,dfs,(H.set b (az bt (cs.take o ++ vs ++ cs.drop (o+n)))),nx⟩ Q):Wp P ro ⟨fn,nt,T,.inReg ops i (⟨none,.store t a x,ty,pos,af,gd⟩ :: l) :: k,dfs,H,nx⟩ Q:=
 pT hw (.inr (fun _ h=>by cases h)) (jn hs ha hx hv hb hn ho h1) h
theorem lW{A:Type}{f:A→List Value}{xs:List A}{a:A}{t tx el:TypeId}{sz b r q:Nat}{s x:Operand}{rq:Bool}{tq:TypeId}{cs:List SV}{dd:Nat}(hw:ar T ops ⟨some dd,.call {callee:= .builtin .append,args:= #[s,x],argTypes:= #[t,tx]},ty,pos,af,gd⟩=some true)(hd:Nat.blt dd nt=true)(hx0:am T s=some (.slu r 0 xs.length))(hx:am T x=some (.slu q 0 1))(hu:P.underlying t=some (.slice el))(hk:(∃ e',P.underlying tx=some (.slice e'))∨P.underlying tx=some .string)(hs:bA P el=some sz)(h0:Nat.blt 0 sz=true)(hz:eG P el sz=true)(hb:(P.info? el).map (·.bytes)=some b)(hro:H.at' r=some (dat false xs.length sz el (xs.flatMap f)))(hq:H.at' q=some (.row rq 1 sz tq (eN cs)))(hcs:cs=(f a).map .sc)(hf:RecOf f sz)(hm1:(xs.length+1)*b≤140737488355328)(hm2:xs.length+1≤1000000000)
 (h:Wp P ro ⟨fn,nt,T.set dd (.slu nx 0 (xs ++ [a]).length),.inReg ops (i+1) l :: k,dfs,((H.del r).set nx (dat false (xs ++ [a]).length sz el ((xs ++ [a]).flatMap f))),(nx+1)⟩ Q):Wp P ro ⟨fn,nt,T,.inReg ops i (⟨some dd,.call {callee:= .builtin .append,args:= #[s,x],argTypes:= #[t,tx]},ty,pos,af,gd⟩ :: l) :: k,dfs,H,nx⟩ Q:=
 bK hw (.inr (fun _ h=>by cases h)) (xm hx0 hx hu hk hs h0 hz hb hro hq hcs hf hm1 hm2) (by rw [aC hd];exact h)
end
section
variable {P:Program} {nt nx:Nat} {T:Tr SV} {H:aJ} {ops:Array Oper} {i:Nat} {l:List Oper} {ty:TypeId} {pos:String} {af:Array Edge} {gd:Option (Nat×Bool)} {K:DS→Prop} {rs:List Rec} {Hs:List (aJ×Nat)} {stg:Nat}
theorem xQ{t e:TypeId}{x y:Operand}{b o n sz:Nat}{kd:IntKind}{j:Int}{q:Nat}{dd:Nat}(hw:ar (aG T (aF ops.toList ⟨some dd,.indexAddr t x y,ty,pos,af,gd⟩)) ops ⟨some dd,.indexAddr t x y,ty,pos,af,gd⟩=some true)(hd:Nat.blt dd nt=true)(hx:am (aG T (aF ops.toList ⟨some dd,.indexAddr t x y,ty,pos,af,gd⟩)) x=some (.ptr b o))(hy:am (aG T (aF ops.toList ⟨some dd,.indexAddr t x y,ty,pos,af,gd⟩)) y=some (.sc (.int kd j)))(hu:P.underlying t=some (.array n e))(hs:bA P e=some sz)(hq:j=(q:Int))(hi:q<n)
 (h:DrawK P nt ops (i+1) l ⟨T.set dd (.ptr b (o+q*sz)),H,nx,⟨i,⟨some dd,.indexAddr t x y,ty,pos,af,gd⟩,(aG T (aF ops.toList ⟨some dd,.indexAddr t x y,ty,pos,af,gd⟩)),stg,false,true,(.ptr b (o+q*sz))⟩ :: rs,Hs,stg⟩ K):DrawK P nt ops i (⟨some dd,.indexAddr t x y,ty,pos,af,gd⟩ :: l) ⟨T,H,nx,rs,Hs,stg⟩ K:=
 bl hw hd (fun _ h=>by cases h) (mI hx hy hu hs hq hi) h
theorem oE{t bt:TypeId}{a x:Operand}{b o n:Nat}{cs vs:List SV}{v:SV}(hw:ar (aG T (aF ops.toList ⟨none,.store t a x,ty,pos,af,gd⟩)) ops ⟨none,.store t a x,ty,pos,af,gd⟩=some true)(ha:am (aG T (aF ops.toList ⟨none,.store t a x,ty,pos,af,gd⟩)) a=some (.ptr b o))(hx:am (aG T (aF ops.toList ⟨none,.store t a x,ty,pos,af,gd⟩)) x=some v)(hv:v.cells=vs)(hs:bA P t=some n)(hb:H.at' b=some (az bt cs))(hn:vs.length=n)(ho:o+n≤cs.length)(h1:cG vs=true)
 (h:DrawK P nt ops (i+1) l ⟨T,(H.set b (az bt (cs.take o ++ vs ++ cs.drop (o+n)))),nx,⟨i,⟨none,.store t a x,ty,pos,af,gd⟩,(aG T (aF ops.toList ⟨none,.store t a x,ty,pos,af,gd⟩)),stg,true,true,de⟩ :: rs,((H.set b (az bt (cs.take o ++ vs ++ cs.drop (o+n)))),nx) :: Hs,stg+1⟩ K):DrawK P nt ops i (⟨none,.store t a x,ty,pos,af,gd⟩ :: l) ⟨T,H,nx,rs,Hs,stg⟩ K:=
 nd hw (fun _ h=>by cases h) (jn hs ha hx hv hb hn ho h1) h
end
section
variable {P:Program} {ro:Option Nat} {fn nt nx:Nat} {T:Tr SV} {k:List AIt} {dfs:List ADf} {H:aJ} {Q:Pst} {ops:Array Oper} {i:Nat} {l:List Oper} {d:Option Tmp} {ty:TypeId} {pos:String} {af:Array Edge} {gd:Option (Nat×Bool)}
theorem St.loopLess{K:Zone}{w0 w:World}{e:Env}{n:Nat}{st:LoopState}{pend:Option Code}{f2 nt2:Nat}{T2 T3:Tr SV}{ps:Array Tmp}{as1 bd:Code}{dr:Nat}(hl:T3.le T2)
 (hS:St K w0 e (H.set n (.loop st pend f2 nt2 T2 ps as1 bd dr)) nx w):St K w0 e (H.set n (.loop st pend f2 nt2 T3 ps as1 bd dr)) nx w:=by
 have key: ∀ id vo,(H.set n (.loop st pend f2 nt2 T3 ps as1 bd dr)).at' id=some vo→ ∃ vo',(H.set n (.loop st pend f2 nt2 T2 ps as1 bd dr)).at' id=some vo'∧vo'.ro=vo.ro∧ ∀ x,Lies K w e vo' x→Lies K w e vo x:=by
  intro id vo hv
  rcases Tr.b8 hv with ⟨rfl,rfl⟩|⟨hne,hv⟩
  ·refine⟨_,Tr.ab _ _ _,rfl,fun x hx=>?_⟩
   rcases hx with ⟨h0,o,h1,h2,tmps,y,h3,h4,h5⟩|⟨_,_,_,_,_,h,_⟩
   ·exact .inl ⟨h0,o,h1,h2,tmps,y,h3,h4.less hl,h5⟩
   ·cases h
  ·exact⟨vo,by rw [Tr.aa _ _ hne];exact hv,rfl,fun x hx=>hx⟩
 refine⟨hS.below,fun id vo hv=>?_,fun id id' vo vo' x x' h1 h2 h3 h4 h5 h6 h7 h8 h9=>?_,hS.fresh⟩
 ·obtain⟨vo',g1,_,g3⟩:=key id vo hv
  obtain⟨x,hx,hl⟩:=hS.rel id vo' g1
  exact⟨x,hx,g3 x hl⟩
 ·obtain⟨u,g1,g2,_⟩:=key id vo h1
  obtain⟨u',g1',g2',_⟩:=key id' vo' h2
  exact hS.inj _ _ _ _ _ _ g1 g1' h3 h4 h5 h6 h7 (by rw [g2];exact h8) (by rw [g2'];exact h9)
theorem Fnc.weak{f:FuncId}{args:List SV}{H H':aJ}{nx:Nat}{Q:Pst}(hs: ∀ K w0 e w,St K w0 e H nx w→St K w0 e H' nx w)(h:Fnc P f args H' nx Q):Fnc P f args H nx Q:=by
 unfold Fnc gS at h ⊢
 rcases h with ⟨h0,v,r,h1,h2,h3⟩|h
 ·exact .inl ⟨h0,v,r,h1,h2,fun K w0 e w hS=>h3 K w0 e w (hs _ _ _ _ hS)⟩
 ·refine .inr ?_
  split at h
  ·rename_i c hb
   exact⟨fun K w0 e w tmps todo ds kd rof cs a b c d f=>h.run K w0 e w tmps todo ds kd rof cs (hs _ _ _ _ a) b c d f⟩
  ·exact h.elim
theorem kR{fo:Operand}{ps:Array Tmp}{as1 bd:Code}{g:FuncId}{a b:List SV}{sf:SV}(sl:List (Nat×SV))(hf:am T fo=some sf)(ht:dE sf=some (g,a,b))(hg:cf P g=true)(hsl: ∀ n x,(slT sl).at' n=some x→T.at' n=some x)
 (h: ∀ as' bd',as'=as1→bd'=bd→Fnc P g (a ++ [.yld (nx+1)] ++ b) ((H.set nx (.dfd (some []))).set (nx+1) (.loop .ready none fn nt (slT sl) ps as' bd' nx)) (nx+1+1) (fun r=>Wp P none ⟨fn,nt,T,.endRange (nx+1) :: k,.taken nx :: dfs,r.2.1,r.2.2⟩ Q)) :
 Wp P none ⟨fn,nt,T,.code (.rangeFunc fo ps as1 bd) :: k,dfs,H,nx⟩ Q:=
 .step ⟨nx,H.set nx (.dfd (some [])),nx+1,[.taken nx],sf,g,a,b,rfl,hf,ht,hg,Fnc.weak (fun K w0 e w hS=>hS.loopLess hsl) (h _ _ rfl rfl)⟩
theorem pU{a b:Code}(h:a=b)(hw:Wp P ro ⟨fn,nt,T,.code b :: k,dfs,H,nx⟩ Q):Wp P ro ⟨fn,nt,T,.code a :: k,dfs,H,nx⟩ Q:=h ▸ hw
theorem gW{n:Nat}{st:LoopState}{pend:Option Code}{f2 nt2:Nat}{T2:Tr SV}{ps:Array Tmp}{as1 bd:Code}{dr:Nat}(hl:H.at' n=some (.loop st pend f2 nt2 T2 ps as1 bd dr))(hs:st ≠ .busy)
 (h:Wp P ro ⟨fn,nt,T,gX pend k,dfs,H.set n (.loop .exhausted pend f2 nt2 T2 ps as1 bd dr),nx⟩ Q):Wp P ro ⟨fn,nt,T,.endRange n :: k,dfs,H,nx⟩ Q:=by
 refine .step ?_
 simp only [mD,hl]
 exact⟨hs,h⟩
theorem sh{n:Nat}{pend:Option Code}{f2 nt2:Nat}{T2:Tr SV}{ps:Array Tmp}{as1 bd:Code}{dr:Nat}(hl:H.at' n=some (.loop .ready pend f2 nt2 T2 ps as1 bd dr))
 (h:Wp P (some n) ⟨fn,nt,T,k,dfs,H.set n (.loop .busy pend f2 nt2 T2 ps as1 bd dr),nx⟩ Q):Wp P (some n) ⟨fn,nt,T,.beginRound :: k,dfs,H,nx⟩ Q:=by
 refine .step ?_
 simp only [mD,hl]
 exact⟨trivial,h⟩
theorem eg{n:Nat}{st:LoopState}{pend:Option Code}{f2 nt2:Nat}{T2:Tr SV}{ps:Array Tmp}{as1 bd:Code}{dr:Nat}(hl:H.at' n=some (.loop st pend f2 nt2 T2 ps as1 bd dr))
 (h:Q (.sc (.bool true),H.set n (.loop .ready none f2 nt2 T2 ps as1 bd dr),nx)):Wp P (some n) ⟨fn,nt,T,[],dfs,H,nx⟩ Q:=by
 refine .step ?_
 simp only [mD,j8,qr,hl]
 exact h
theorem wQ{x:Operand}{as1:List Operand}{ats:Array TypeId}{args:List SV}{n dd:Nat}{st:LoopState}{pend:Option Code}{f2 nt2:Nat}{T2:Tr SV}{ps:Array Tmp}{as2 bd:Code}{dr:Nat}
 (hw:ar T ops ⟨some dd,.call {callee:= .value x,args:=as1.toArray,argTypes:=ats},ty,pos,af,gd⟩=some true) (hd:Nat.blt dd nt=true) (hx:am T x=some (.yld n)) (ha:dw T as1=some args) (hl:H.at' n=some (.loop st pend f2 nt2 T2 ps as2 bd dr)) (hp:Nat.beq ps.size args.length=true)
 (h:Wp P (some n) ⟨f2,nt2,(ps.toList.zip args).foldl (fun T x=>gv nt2 T (some x.1) x.2) T2,[.code as2,.beginRound,.code bd],[],H,nx⟩ (fun r=>Wp P ro ⟨fn,nt,T.set dd r.1,.inReg ops (i+1) l :: k,dfs,r.2.1,r.2.2⟩ Q)) :
 Wp P ro ⟨fn,nt,T,.inReg ops i (⟨some dd,.call {callee:= .value x,args:=as1.toArray,argTypes:=ats},ty,pos,af,gd⟩ :: l) :: k,dfs,H,nx⟩ Q:=by
 refine .step (.inr ⟨hw,.inr (fun c hc=>by cases hc),OpDoes.any (out:=(.round n args,H,nx)) ?_ ?_⟩)
 ·intro K w0 e w ev hS hE
  refine jt hS hE ?_
  unfold fl
  simp only [cc,ha,hx,zJ]
 ·simp only [outS,l5,hl,aC hd]
  exact⟨hp,h⟩
def SameO(ρ:Nat→Nat):List (Option VO)→List (Option VO)→Prop
 | [],[]=>True
 | none :: l,none :: m=>SameO ρ l m
 | some vo :: l,some vo' :: m=>vo.ren ρ=vo'∧SameO ρ l m
 | _,_=>False
theorem SameO.map{ρ:Nat→Nat}: ∀ {l m:List (Option VO)},SameO ρ l m→l.map (Option.map (VO.ren ρ))=m
 | [],[],_=>rfl
 | none :: l,none :: m,h=>by simp only [zF,Option.map_none,SameO.map (l:=l) (m:=m) h]
 | some vo :: l,some vo' :: m,h=>by simp only [zF,zJ,h.1,SameO.map h.2]
 | [],_ :: _,h=>by simp [SameO] at h
 | none :: _,some _ :: _,h=>by simp [SameO] at h
 | some _ :: _,none :: _,h=>by simp [SameO] at h
 | none :: _,[],h=>by simp [SameO] at h
 | some _ :: _,[],h=>by simp [SameO] at h
theorem mA{ρ:Nat→Nat}: ∀ (L:List Nat) (l:List (Option VO)) (i:Nat) (H:aJ),(∀ j,j<L.length→ρ (i+j)=L.getD j 0)→l.length=L.length→wrO ρ H i l=wrL L H l
 | [],[],i,H,_,_=>rfl
 | [],_ :: _,i,H,_,h=>by simp at h
 | _ :: _,[],i,H,_,h=>by simp at h
 | b :: L,o :: l,i,H,he,hl=>by
   have e0:ρ i=b:=by simpa using he 0 (by simp)
   have et: ∀ j,j<L.length→ρ (i+1+j)=L.getD j 0:=fun j hj=>by
    have:=he (j+1) (by simpa using hj)
    rw [show i+1+j=i+(j+1) by omega,this]
    simp
   cases o with
   | none=>simp only [wrO,wrL,e0];exact mA L l (i+1) _ et (by simpa using hl)
   | some vo=>simp only [wrO,wrL,e0];exact mA L l (i+1) _ et (by simpa using hl)
theorem Ctr.kg{f:FuncId}{args0 args:List SV}{pre:List VO}{Q0:Cz→Prop}(h:Ctr P f args0 pre Q0)(L:List Nat){Q:Pst}(hlen:L.length=pre.length)(hL:ExtOk L nx)(ha:args=args0.map (SV.ren (ext L nx)))(hp:HasO (ext L nx) H 0 (pre.map some))
 (hQ: ∀ c,Q0 c→ ∃ v m L2 objs,L2=L ++ (List.range m).map (fun i=>nx+i)∧SameO (ext L nx) c.objs objs∧objs.length=L2.length∧c.v.ren (ext L nx)=v∧Q (v,wrL L2 H objs,nx+m)):Fnc P f args H nx Q:=by
 refine h.call L hlen hL ha hp fun c hc hpl=>?_
 obtain⟨v,m,L2,objs,e1,e2,e3,e4,hq⟩:=hQ c hc
 have hlo:c.objs.length=objs.length:=by rw [← e2.map,List.length_map]
 have hl2:L2.length=L.length+m:=by rw [e1];simp
 rw [e2.map,e4,mA (ρ:=ext L nx) L2 objs 0 H (fun j hj=>?_) e3,show nx+(c.objs.length-pre.length)=nx+m by omega]
 ·exact hq
 ·rw [Nat.zero_add]
  by_cases hjl:j<L.length
  ·rw [qD hjl,e1]
   simp only [zy]
   rw [zA hjl]
  ·rw [qE (by omega),e1]
   simp only [zy]
   rw [List.getElem?_append_right (by omega),List.getElem?_map,List.getElem?_range (by omega)]
   rfl
theorem Ctr.at{f:FuncId}{args:List SV}{pre:List VO}{Q:Cz→Prop}(n:Nat)(hn:pre.length=n)(h:Fnc P f args (tT pre) n (fun r=> ∃ c,Q c∧Ends n c r)):Ctr P f args pre Q:=by
 subst hn
 exact h
theorem co{α:Type}{b:Code}(sl:α→List (Nat×SV))(I:α→aJ→Nat→Prop)(μ:α→Nat)(a0:α)(h0:I a0 H nx)(hs: ∀ n x,(slT (sl a0)).at' n=some x→T.at' n=some x)
 (body: ∀ a H nx,I a H nx→(∀ T' H' nx' a',I a' H' nx'→μ a'<μ a→(∀ n x,(slT (sl a')).at' n=some x→T'.at' n=some x)→Wp P ro ⟨fn,nt,T',.inLoop b :: k,dfs,H',nx'⟩ Q) →
   Wp P ro ⟨fn,nt,slT (sl a),.code b :: .inLoop b :: k,dfs,H,nx⟩ Q):Wp P ro ⟨fn,nt,T,.code (.loop b) :: k,dfs,H,nx⟩ Q:=by
 have main: ∀ m a H nx,μ a=m→I a H nx→Wp P ro ⟨fn,nt,slT (sl a),.code b :: .inLoop b :: k,dfs,H,nx⟩ Q:=by
  intro m
  induction m using Nat.strongRecOn with
  | _ m ih=>
    intro a H nx hm ha
    refine body a H nx ha fun T' H' nx' a' ha' hlt hs'=>kS ?_
    exact Wp.less (ih (μ a') (by omega) a' H' nx' rfl ha') hs' (Tr.le_refl _)
 exact jd (Wp.less (main _ a0 H nx rfl h0) hs (Tr.le_refl _))
def SlIn(T:Tr SV):List (Nat×SV)→Prop
 | []=>True
 | (t,s) :: l=>T.at' t=some s∧SlIn T l
theorem SlIn.sub{T:Tr SV}: ∀ {l:List (Nat×SV)},SlIn T l→ ∀ n x,(slT l).at' n=some x→T.at' n=some x
 | [],_,n,x,h=>by rw [slT,Tr.lK] at h;cases h
 | (t0,s0) :: l,hh,n,x,h=>by
   rcases Tr.b8 h with ⟨rfl,rfl⟩|⟨_,h⟩
   ·exact hh.1
   ·exact SlIn.sub hh.2 n x h
theorem tG{rs:List Nat}(hr: ∀ r∈rs,H.at' r=some (.dfd (some [])))(hnd:rs.Nodup)(h: ∀ H',(∀ n,n∉rs→H'.at' n=H.at' n)→Lv P ⟨fn,nt,T,k,dfs,H',nx⟩ Q):Lv P ⟨fn,nt,T,k,rs.map .taken ++ dfs,H,nx⟩ Q:=by
 induction rs generalizing H with
 | nil=>exact h H fun _ _=>rfl
 | cons r rs ih=>
   refine vE (hr r (by simp)) ?_
   rw [List.nil_append]
   rw [List.nodup_cons] at hnd
   refine ih (fun r' hr'=>?_) hnd.2 fun H' hH'=>h H' fun n hn=>?_
   ·rw [Tr.aa _ _ (by intro e;subst e;exact hnd.1 hr')]
    exact hr r' (List.mem_cons_of_mem _ hr')
   ·rw [List.mem_cons,not_or] at hn
    rw [hH' n hn.2,Tr.aa _ _ hn.1]
theorem gy{rl:List ResultVar}{F:Func}(hf:P.funcs[fn]? =some F)(hl:F.results.toList=rl){rs:List Nat}(hdf:dfs=rs.map .taken)(hr: ∀ r∈rs,H.at' r=some (.dfd (some [])))(hnd:rs.Nodup)
 (h: ∀ H',(∀ n,n∉rs→H'.at' n=H.at' n)→ ∃ vs,ResIs P H' T rl vs∧Q (fw vs,H',nx)):Wp P none ⟨fn,nt,T,.code .ret :: k,dfs,H,nx⟩ Q:=by
 subst hdf
 refine we ?_
 have:=tG (P:=P) (fn:=fn) (nt:=nt) (nx:=nx) (T:=T) (k:= .code .ret :: k) (dfs:= []) (Q:=Q) hr hnd fun H' hH'=>by
  obtain⟨vs,h1,h2⟩:=h H' hH'
  exact wo (by simp only [ej,hf,hl]) h1.res h2
 simpa using this
end
section
variable {P:Program} {ro:Option Nat} {fn nt nx:Nat} {T:Tr SV} {k:List AIt} {dfs:List ADf} {H:aJ} {Q:Pst} {ops:Array Oper} {i:Nat} {l:List Oper} {ty:TypeId} {pos:String} {af:Array Edge} {gd:Option (Nat×Bool)}
theorem gA{x:Operand}{t:TypeId}{v:SV}{d0:TypeDesc}{dd:Nat}(hw:ar T ops ⟨some dd,.makeInterface t x,ty,pos,af,gd⟩=some true)(hd:Nat.blt dd nt=true)(hx:am T x=some v)(hu:P.underlying t=some d0)(hn:(match d0 with | .interface _=>false|_=>true)=true)
 (h:Wp P ro ⟨fn,nt,T.set dd (qw t v),.inReg ops (i+1) l :: k,dfs,H,nx⟩ Q):Wp P ro ⟨fn,nt,T,.inReg ops i (⟨some dd,.makeInterface t x,ty,pos,af,gd⟩ :: l) :: k,dfs,H,nx⟩ Q:=
 bK hw (.inr (fun _ h=>by cases h)) (kn hx (by unfold oo;rw [hu];cases d0 <;> first|rfl|simp at hn)).does (by rw [aC hd];exact h)
end
abbrev Own:=aJ→(Nat→Prop)→Prop
def qQ(A:Own):Prop:= ∀ H H' F,A H F→(∀ n,F n→H'.at' n=H.at' n)→A H' F
section
variable {K X:Type} (P:K→X→Own)
def Big:List (K×X)→Own
 | [],_,F=> ∀ n,¬ F n
 | x :: m,H,F=> ∃ F1 F2,P x.1 x.2 H F1∧Big m H F2∧(∀ n,F1 n→ ¬ F2 n)∧ ∀ n,F n↔F1 n∨F2 n
variable {P}
theorem Big.frame(hP: ∀ k x,qQ (P k x)): ∀ m,qQ (Big P m)
 | [],H,H',F,h,_=>h
 | x :: m,H,H',F,⟨F1,F2,h1,h2,h3,h4⟩,hf=>⟨F1,F2,hP _ _ H H' F1 h1 fun n hn=>hf n ((h4 n).2 (.inl hn)),Big.frame hP m H H' F2 h2 fun n hn=>hf n ((h4 n).2 (.inr hn)),h3,h4⟩
theorem Big.same{m:List (K×X)}{H:aJ}{F F':Nat→Prop}(h:Big P m H F)(hF: ∀ n,F' n↔F n):Big P m H F':=by
 have:F'=F:=funext fun n=>propext (hF n)
 rw [this];exact h
theorem Big.focus{k:K}{x:X}{B:List (K×X)}{H:aJ}: ∀ {A:List (K×X)} {F:Nat→Prop},Big P (A ++ (k,x) :: B) H F→ ∃ F1 F2,P k x H F1∧Big P (A ++ B) H F2∧(∀ n,F1 n→ ¬ F2 n)∧ ∀ n,F n↔F1 n∨F2 n
 | [],F,h=>h
 | y :: A,F,⟨G1,G2,h1,h2,h3,h4⟩=>by
   obtain⟨F1,F2,g1,g2,g3,g4⟩:=Big.focus (A:=A) h2
   refine⟨F1,fun n=>G1 n∨F2 n,g1,⟨G1,F2,h1,g2,fun n hn h=>h3 n hn ((g4 n).2 (.inr h)),fun n=>Iff.rfl⟩,fun n hn h=>?_,fun n=>?_⟩
   ·rcases h with h|h
    ·exact h3 n h ((g4 n).2 (.inl hn))
    ·exact g3 n hn h
   ·rw [h4,g4]
    constructor
    ·rintro(h|h|h)
     ·exact .inr (.inl h)
     ·exact .inl h
     ·exact .inr (.inr h)
    ·rintro(h|h|h)
     ·exact .inr (.inl h)
     ·exact .inl h
     ·exact .inr (.inr h)
theorem Big.nu{k:K}{x:X}{B:List (K×X)}{H:aJ}{F1:Nat→Prop}(h:P k x H F1): ∀ {A:List (K×X)} {F2:Nat→Prop},Big P (A ++ B) H F2→(∀ n,F1 n→ ¬ F2 n)→Big P (A ++ (k,x) :: B) H (fun n=>F1 n∨F2 n)
 | [],F2,h2,h3=>⟨F1,F2,h,h2,h3,fun n=>Iff.rfl⟩
 | y :: A,F2,⟨G1,G2,g1,g2,g3,g4⟩,h3=>by
   refine⟨G1,fun n=>F1 n∨G2 n,g1,Big.nu (A:=A) h g2 (fun n hn h'=>h3 n hn ((g4 n).2 (.inr h'))),fun n hn h'=>?_,fun n=>?_⟩
   ·rcases h' with h'|h'
    ·exact h3 n h' ((g4 n).2 (.inl hn))
    ·exact g3 n hn h'
   ·show F1 n∨F2 n↔_
    rw [g4]
    constructor
    ·rintro(h|h|h)
     ·exact .inr (.inl h)
     ·exact .inl h
     ·exact .inr (.inr h)
    ·rintro(h|h|h)
     ·exact .inr (.inl h)
     ·exact .inl h
     ·exact .inr (.inr h)
theorem Big.nil{H:aJ}:Big P [] H (fun _=>False):=fun _ h=>h
end
section
variable {K V:Type} [DecidableEq K]
abbrev kv(m:List (K×V×Nat)):List (K×V):=m.map fun x=>(x.1,x.2.1)
theorem rP{m:List (K×V×Nat)}{k:K}{v:V}(h:kp m k=some v): ∃ A B s,m=A ++ (k,v,s) :: B∧kp A k=none∧(∀ w c,pC m k w c=A ++ (k,w,s) :: B)∧oX m k=A ++ B:=by
 induction m with
 | nil=>simp [kp] at h
 | cons y m ih=>
   by_cases hy:y.1=k
   ·simp [kp,hy] at h
    obtain⟨y1,y2,y3⟩:=y
    simp at hy h
    exact⟨[],m,y3,by simp [hy,h],rfl,fun w c=>by simp [pC,hy],by simp [oX,hy]⟩
   ·have h':kp m k=some v:=by simpa [kp,hy] using h
    obtain⟨A,B,s,h1,h2,h3,h4⟩:=ih h'
    exact⟨y :: A,B,s,by rw [h1];rfl,by simpa [kp,hy] using h2,fun w c=>by simp [pC,hy,h3],by simp [oX,hy,h4]⟩
end
section
variable {P:Program} {T:Tr SV} {H:aJ} {nx:Nat} {d:Option Tmp} {ty:TypeId} {pos:String} {af:Array Edge} {gd:Option (Nat×Bool)}
theorem qc{t yt:TypeId}{x y:Operand}{a b:ByteArray}(hx:am T x=some (.sc (.string a)))(hy:am T y=some (.sc (.string b))):ReadDoes P T H ⟨d,.binOp .eql t x y yt,ty,pos,af,gd⟩ (.sc (.bool (a == b))):=by
 refine cS fun ev w he=>?_
 have e1:=he x _ hx _ rfl
 have e2:=he y _ hy _ rfl
 rw [beq_toListBytes]
 simp [execOp,e1,e2,eqGuard,binOp,Op.stringOp]
theorem vb{t yt:TypeId}{x y:Operand}{a b:ByteArray}(hx:am T x=some (.sc (.string a)))(hy:am T y=some (.sc (.string b))):ReadDoes P T H ⟨d,.binOp .neq t x y yt,ty,pos,af,gd⟩ (.sc (.bool (a != b))):=by
 refine cS fun ev w he=>?_
 have e1:=he x _ hx _ rfl
 have e2:=he y _ hy _ rfl
 rw [show(a != b) = !(a == b)from rfl,beq_toListBytes]
 simp [execOp,e1,e2,eqGuard,binOp,Op.stringOp]
theorem fD{t yt:TypeId}{x y:Operand}{a b:ByteArray}{r:Bool}(hx:am T x=some (.sc (.string a)))(hy:am T y=some (.sc (.string b)))(hr:(a == b)=r):ReadDoes P T H ⟨d,.binOp .eql t x y yt,ty,pos,af,gd⟩ (.sc (.bool r)):=hr ▸ qc hx hy
theorem sS{t yt:TypeId}{x y:Operand}{a b:ByteArray}{r:Bool}(hx:am T x=some (.sc (.string a)))(hy:am T y=some (.sc (.string b)))(hr:(a != b)=r):ReadDoes P T H ⟨d,.binOp .neq t x y yt,ty,pos,af,gd⟩ (.sc (.bool r)):=hr ▸ vb hx hy
end
section
variable {P:Program} {ro:Option Nat} {fn nt nx:Nat} {T:Tr SV} {k:List AIt} {dfs:List ADf} {H:aJ} {Q:Pst} {ops:Array Oper} {i:Nat} {l:List Oper} {d:Option Tmp} {ty:TypeId} {pos:String} {af:Array Edge} {gd:Option (Nat×Bool)}
theorem wR{t yt:TypeId}{x y:Operand}{a b:ByteArray}{dd:Nat}(hw:ar T ops ⟨some dd,.binOp .eql t x y yt,ty,pos,af,gd⟩=some true)(hd:Nat.blt dd nt=true)(hx:am T x=some (.sc (.string a)))(hy:am T y=some (.sc (.string b)))
 (h:Wp P ro ⟨fn,nt,T.set dd (.sc (.bool (a == b))),.inReg ops (i+1) l :: k,dfs,H,nx⟩ Q):Wp P ro ⟨fn,nt,T,.inReg ops i (⟨some dd,.binOp .eql t x y yt,ty,pos,af,gd⟩ :: l) :: k,dfs,H,nx⟩ Q:=
 bK hw (.inr (fun _ h=>by cases h)) ((qc hx hy).does) (by rw [aC hd];exact h)
theorem pY{t yt:TypeId}{x y:Operand}{a b:ByteArray}{r:Bool}{dd:Nat}(hw:ar T ops ⟨some dd,.binOp .eql t x y yt,ty,pos,af,gd⟩=some true)(hd:Nat.blt dd nt=true)(hx:am T x=some (.sc (.string a)))(hy:am T y=some (.sc (.string b)))(hr:(a == b)=r)
 (h:Wp P ro ⟨fn,nt,T.set dd (.sc (.bool r)),.inReg ops (i+1) l :: k,dfs,H,nx⟩ Q):Wp P ro ⟨fn,nt,T,.inReg ops i (⟨some dd,.binOp .eql t x y yt,ty,pos,af,gd⟩ :: l) :: k,dfs,H,nx⟩ Q:=
 bK hw (.inr (fun _ h=>by cases h)) ((fD hx hy hr).does) (by rw [aC hd];exact h)
theorem mB{t yt:TypeId}{x y:Operand}{a b:ByteArray}{r:Bool}{dd:Nat}(hw:ar T ops ⟨some dd,.binOp .neq t x y yt,ty,pos,af,gd⟩=some true)(hd:Nat.blt dd nt=true)(hx:am T x=some (.sc (.string a)))(hy:am T y=some (.sc (.string b)))(hr:(a != b)=r)
 (h:Wp P ro ⟨fn,nt,T.set dd (.sc (.bool r)),.inReg ops (i+1) l :: k,dfs,H,nx⟩ Q):Wp P ro ⟨fn,nt,T,.inReg ops i (⟨some dd,.binOp .neq t x y yt,ty,pos,af,gd⟩ :: l) :: k,dfs,H,nx⟩ Q:=
 bK hw (.inr (fun _ h=>by cases h)) ((sS hx hy hr).does) (by rw [aC hd];exact h)
end
section
variable {P:Program} {nt nx:Nat} {T:Tr SV} {H:aJ} {ops:Array Oper} {i:Nat} {l:List Oper} {ty:TypeId} {pos:String} {af:Array Edge} {gd:Option (Nat×Bool)} {K:DS→Prop} {rs:List Rec} {Hs:List (aJ×Nat)} {stg:Nat}
theorem oH{t yt:TypeId}{x y:Operand}{a b:ByteArray}{r:Bool}{dd:Nat}(hw:ar (aG T (aF ops.toList ⟨some dd,.binOp .eql t x y yt,ty,pos,af,gd⟩)) ops ⟨some dd,.binOp .eql t x y yt,ty,pos,af,gd⟩=some true)(hd:Nat.blt dd nt=true)(hx:am (aG T (aF ops.toList ⟨some dd,.binOp .eql t x y yt,ty,pos,af,gd⟩)) x=some (.sc (.string a)))(hy:am (aG T (aF ops.toList ⟨some dd,.binOp .eql t x y yt,ty,pos,af,gd⟩)) y=some (.sc (.string b)))(hr:(a == b)=r)
 (h:DrawK P nt ops (i+1) l ⟨T.set dd (.sc (.bool r)),H,nx,⟨i,⟨some dd,.binOp .eql t x y yt,ty,pos,af,gd⟩,(aG T (aF ops.toList ⟨some dd,.binOp .eql t x y yt,ty,pos,af,gd⟩)),stg,false,true,(.sc (.bool r))⟩ :: rs,Hs,stg⟩ K):DrawK P nt ops i (⟨some dd,.binOp .eql t x y yt,ty,pos,af,gd⟩ :: l) ⟨T,H,nx,rs,Hs,stg⟩ K:=
 bl hw hd (fun _ h=>by cases h) (fD hx hy hr) h
end
section
variable {P:Program}
theorem px{T:Tr SV}{H:aJ}{nx:Nat}{d:Option Tmp}{ty:TypeId}{pos:String}{af:Array Edge}{gd:Option (Nat×Bool)}{t tx el:TypeId}{sz m r eo n ne:Nat}{rt:TypeId}{s x:Operand}{v:SV}{us vs ws:List Value}(hu:P.underlying t=some (.slice el))(hk:(∃ e',P.underlying tx=some (.slice e'))∨P.underlying tx=some .string)(hs:bA P el=some sz)
 (hx0:am T s=some (.slu r eo n)) (hx:am T x=some v) (hro:H.at' r=some (dat false ne sz rt us)) (hr:RdV P H sz v m vs) (h1:nV vs) (hm:eo+n+m≤ne) (h0:0<ne) (hvl:vs.length=m*sz) (hul:us.length=ne*sz) (hws:us.take ((eo+n)*sz) ++ vs ++ us.drop ((eo+n)*sz+m*sz)=ws) :
 OpDoes P T H nx ⟨d,.call {callee:= .builtin .append,args:= #[s,x],argTypes:= #[t,tx]},ty,pos,af,gd⟩ (.val (.slu r eo (n+m)),H.set r (dat false ne sz rt ws),nx):=by
 intro K w0 e w ev hS hE
 have e1:=hE s _ hx0
 have e2:=hE x _ hx
 simp only [SV.conc,zr] at e1
 obtain⟨z,hz,e1⟩:=e1
 obtain⟨z2,hz2,hlz⟩:=hS.rel _ _ hro
 rw [hz] at hz2
 cases hz2
 obtain⟨g1,g2,g3,g4⟩:=Lies.row hlz
 have hnil:=g3 h0
 have hcx:(SV.sl r (eo*sz) n (z.cap-eo)).conc e=some (ev s):=by
  rw [← e1,Ent.d9 hnil,g1]
  simp [SV.conc,hz]
 have hle:(eo+n)*sz+m*sz≤ne*sz:=by rw [← Nat.add_mul];exact Nat.mul_le_mul_right _ hm
 have hap:dL P H nx el (.sl r (eo*sz) n (z.cap-eo)) v=some (.val (.sl r (eo*sz) (n+m) (z.cap-eo)),H.set r (dat false ne sz rt ws),nx):=by
  unfold dL
  rw [hs]
  cases sz with
  | zero=>omega
  | succ sz=>
    simp only
    rw [show a7 H (sz+1) v=some (m,vs.map .sc)from hr]
    simp only [fO h1,Bool.not_true,cond_false]
    rw [show Nat.ble (n+m) (z.cap-eo)=true from zp (by omega),hro]
    simp only [cond_true]
    rw [← Nat.add_mul,gE vs us ((eo+n)*(sz+1)) (by omega) (by omega) h1,hvl,hws]
 obtain⟨e',w',r',v',f1,f2,f3,f4,f5⟩:=mi (ty:=ty) hu hk hS hap hcx e2
 cases f1
 have hz':=f2 _ _ hz
 have f4':(SV.slu r eo (n+m)).conc e'=some v':=by
  rw [← f4]
  simp only [SV.conc,hz',zJ,Ent.d9 hnil,g1]
 refine⟨e',w',f2,f3,v',f4',?_⟩
 simp only [execOp,resolve,invoke,builtin,List.map_toArray,zF,List.map_nil,Sem.run_bind,Sem.run_pure,Result.andThen,f5]
theorem qZ{ro:Option Nat}{fn nt nx:Nat}{T:Tr SV}{k:List AIt}{dfs:List ADf}{H:aJ}{Q:Pst}{ops:Array Oper}{i:Nat}{l:List Oper}{ty:TypeId}{pos:String}{af:Array Edge}{gd:Option (Nat×Bool)}{t tx el:TypeId}{sz m r eo n ne:Nat}{rt:TypeId}{s x:Operand}{v:SV}{us vs ws:List Value}{dd:Nat}(hw:ar T ops ⟨some dd,.call {callee:= .builtin .append,args:= #[s,x],argTypes:= #[t,tx]},ty,pos,af,gd⟩=some true)(hd:Nat.blt dd nt=true)(hx0:am T s=some (.slu r eo n))(hx:am T x=some v)(hu:P.underlying t=some (.slice el))(hk:(∃ e',P.underlying tx=some (.slice e'))∨P.underlying tx=some .string)(hs:bA P el=some sz)
 (hro:H.at' r=some (dat false ne sz rt us)) (hr:RdV P H sz v m vs) (h1:nV vs) (hm:eo+n+m≤ne) (h0:0<ne) (hvl:vs.length=m*sz) (hul:us.length=ne*sz) (hws:us.take ((eo+n)*sz) ++ vs ++ us.drop ((eo+n)*sz+m*sz)=ws)
 (h:Wp P ro ⟨fn,nt,T.set dd (.slu r eo (n+m)),.inReg ops (i+1) l :: k,dfs,H.set r (dat false ne sz rt ws),nx⟩ Q):Wp P ro ⟨fn,nt,T,.inReg ops i (⟨some dd,.call {callee:= .builtin .append,args:= #[s,x],argTypes:= #[t,tx]},ty,pos,af,gd⟩ :: l) :: k,dfs,H,nx⟩ Q:=
 bK hw (.inr (fun _ h=>by cases h)) (px hu hk hs hx0 hx hro hr h1 hm h0 hvl hul hws) (by rw [aC hd];exact h)
theorem cn{ro:Option Nat}{fn nt nx:Nat}{T:Tr SV}{k:List AIt}{dfs:List ADf}{H:aJ}{Q:Pst}(h:(∀ b vo,H.at' b=some vo→b<nx)→Wp P ro ⟨fn,nt,T,k,dfs,H,nx⟩ Q):Wp P ro ⟨fn,nt,T,k,dfs,H,nx⟩ Q:=by
 refine⟨fun K w0 e w tmps todo ds kd rof cs hS hTr htd hds hc2=>(h fun b vo hb=>?_).run K w0 e w tmps todo ds kd rof cs hS hTr htd hds hc2⟩
 obtain⟨x,hx,_⟩:=hS.rel _ _ hb
 rcases Nat.lt_or_ge b nx with hlt|hge
 ·exact hlt
 ·have h2:=hS.fresh _ hge
  rw [h2] at hx;cases hx
theorem ry{T:Tr SV}{H:aJ}{nx:Nat}{d:Option Tmp}{ty:TypeId}{pos:String}{af:Array Edge}{gd:Option (Nat×Bool)}{t tx el rt:TypeId}{sz r eo n ne sz':Nat}{rr:Bool}{c:Tr SV}{s x:Operand}{v:SV}{vs:List Value}(hu:P.underlying t=some (.slice el))(hk:(∃ e',P.underlying tx=some (.slice e'))∨P.underlying tx=some .string)(hs:bA P el=some sz)(h0:0<sz)
 (hx0:am T s=some (.slu r eo n)) (hx:am T x=some v) (hro:H.at' r=some (.row rr ne sz' rt c)) (hn:eo+n≤ne) (hr:RdV P H sz v 0 vs) (h1:nV vs) :
 OpDoes P T H nx ⟨d,.call {callee:= .builtin .append,args:= #[s,x],argTypes:= #[t,tx]},ty,pos,af,gd⟩ (.val (.slu r eo n),H,nx):=by
 have hap:dL P H nx el (.slu r eo n) v=some (.val (.slu r eo n),H,nx):=by
  unfold dL
  rw [hs]
  cases sz with
  | zero=>omega
  | succ sz=>
    simp only
    rw [show a7 H (sz+1) v=some (0,vs.map .sc)from hr]
    simp only [fO h1,Bool.not_true,cond_false]
    rw [hro]
    simp only [Nat.beq_refl,cond_true,show Nat.ble (eo+n) ne=true from zp hn]
 refine iW ?_
 rcases hk with ⟨e',hk⟩|hk <;> simp only [fl,dw,hx0,hx,zK,eF,fu,hu,hk,hap]
theorem sx{ro:Option Nat}{fn nt nx:Nat}{T:Tr SV}{k:List AIt}{dfs:List ADf}{H:aJ}{Q:Pst}{ops:Array Oper}{i:Nat}{l:List Oper}{ty:TypeId}{pos:String}{af:Array Edge}{gd:Option (Nat×Bool)}{t tx el rt:TypeId}{sz r eo n ne sz':Nat}{rr:Bool}{c:Tr SV}{s x:Operand}{v:SV}{vs:List Value}{dd:Nat}(hw:ar T ops ⟨some dd,.call {callee:= .builtin .append,args:= #[s,x],argTypes:= #[t,tx]},ty,pos,af,gd⟩=some true)(hd:Nat.blt dd nt=true)(hx0:am T s=some (.slu r eo n))(hx:am T x=some v)(hu:P.underlying t=some (.slice el))(hk:(∃ e',P.underlying tx=some (.slice e'))∨P.underlying tx=some .string)(hs:bA P el=some sz)(h0:Nat.blt 0 sz=true)(hro:H.at' r=some (.row rr ne sz' rt c))(hn:eo+n≤ne)(hr:RdV P H sz v 0 vs)(h1:nV vs)
 (h:Wp P ro ⟨fn,nt,T.set dd (.slu r eo n),.inReg ops (i+1) l :: k,dfs,H,nx⟩ Q):Wp P ro ⟨fn,nt,T,.inReg ops i (⟨some dd,.call {callee:= .builtin .append,args:= #[s,x],argTypes:= #[t,tx]},ty,pos,af,gd⟩ :: l) :: k,dfs,H,nx⟩ Q:=
 bK hw (.inr (fun _ h=>by cases h)) (ry hu hk hs (bW h0) hx0 hx hro hn hr h1) (by rw [aC hd];exact h)
end
section
variable {P:Program} {T:Tr SV} {H:aJ} {nx:Nat} {d:Option Tmp} {ty:TypeId} {pos:String} {af:Array Edge} {gd:Option (Nat×Bool)}
theorem xb{t:TypeId}{e:TypeId}{x:Operand}{b o n C:Nat}(hu:P.underlying t=some (.slice e))(hx:am T x=some (.sl b o n C)):ReadDoes P T H ⟨d,.call {callee:= .builtin .len,args:= #[x],argTypes:= #[t]},ty,pos,af,gd⟩ (.sc (.int .i64 n)):=by
 refine eA ?_
 simp only [c6,mU,hx,zK,wq,hu]
end
section
variable {K V:Type} [DecidableEq K]
theorem rO{m:List (K×V×Nat)}{k:K}(hg:kp m k=none)(v:V)(c:Nat):pC m k v c=m ++ [(k,v,c)]:=by
 have hk:=kidx m k
 cases hi:m.findIdx? fun x=>decide (x.1=k)with
 | none=>rw [hi] at hk;exact hk.2.2 v c
 | some i=>
   rw [hi] at hk
   obtain⟨x,_,_,h3,_⟩:=hk
   rw [hg] at h3;cases h3
theorem qu{m:List (K×V×Nat)}{k:K}{v:V}(h:kp m k=some v): ∃ A B,kv m=A ++ (k,v) :: B∧kv (oX m k)=A ++ B∧ ∀ w c,kv (pC m k w c)=A ++ (k,w) :: B:=by
 obtain⟨A,B,s,h1,_,h3,h4⟩:=rP h
 refine⟨kv A,kv B,?_,?_,fun w c=>?_⟩
 ·rw [h1];simp [kv]
 ·rw [h4];simp [kv]
 ·rw [h3];simp [kv]
variable {P:K→V→Own}
theorem Big.get{m:List (K×V×Nat)}{H:aJ}{F:Nat→Prop}(hb:Big P (kv m) H F){k:K}{v:V}(hg:kp m k=some v) :
 ∃ F1 G,P k v H F1∧Big P (kv (oX m k)) H G∧(∀ n,F1 n→ ¬ G n)∧ ∀ n,F n↔F1 n∨G n:=by
 obtain⟨A,B,h1,h2,_⟩:=qu hg
 rw [h1] at hb
 rw [h2]
 exact Big.focus hb
theorem Big.put(hP: ∀ k x,qQ (P k x)){m:List (K×V×Nat)}{H H':aJ}{G F1:Nat→Prop}{k:K}{v w:V}(hg:kp m k=some v)(c:Nat)(hG:Big P (kv (oX m k)) H G)(e:P k w H' F1)(fr: ∀ n,G n→H'.at' n=H.at' n)(hd: ∀ n,F1 n→ ¬ G n) :
 Big P (kv (pC m k w c)) H' (fun n=>F1 n∨G n):=by
 obtain⟨A,B,_,h2,h3⟩:=qu hg
 rw [h2] at hG
 rw [h3]
 exact Big.nu e (Big.frame hP _ _ _ _ hG fr) hd
theorem Big.add(hP: ∀ k x,qQ (P k x)){m:List (K×V×Nat)}{H H':aJ}{F F1:Nat→Prop}{k:K}{w:V}(hg:kp m k=none)(c:Nat)(hb:Big P (kv m) H F)(e:P k w H' F1)(fr: ∀ n,F n→H'.at' n=H.at' n)(hd: ∀ n,F1 n→ ¬ F n) :
 Big P (kv (pC m k w c)) H' (fun n=>F1 n∨F n):=by
 rw [rO hg]
 have h0:=Big.frame hP _ _ _ _ hb fr
 simp only [kv,zI,zF,List.map_nil]
 exact Big.nu (A:=kv m) (B:= []) e (by rw [List.append_nil];exact h0) hd
omit [DecidableEq K] in
theorem Big.lt(hP: ∀ k x H F z,P k x H F→F z→ ∃ vo,H.at' z=some vo){H:aJ}{z:Nat}: ∀ {m:List (K×V)} {F:Nat→Prop},Big P m H F→F z→ ∃ vo,H.at' z=some vo
 | [],_,h,hz=>(h z hz).elim
 | x :: m,_,⟨G1,G2,h1,h2,_,h4⟩,hz=>by
   rcases(h4 z).1 hz with hz|hz
   ·exact hP _ _ _ _ _ h1 hz
   ·exact Big.lt hP h2 hz
end
theorem ki{P:Program}{ro:Option Nat}{fn nt nx:Nat}{T:Tr SV}{k:List AIt}{dfs:List ADf}{H:aJ}{Q:Pst}{R:aJ→Nat→Prop}(h:R H nx)(h2: ∀ H' nx',R H' nx'→Wp P ro ⟨fn,nt,T,k,dfs,H',nx'⟩ Q):Wp P ro ⟨fn,nt,T,k,dfs,H,nx⟩ Q:=h2 _ _ h
def Stp(F F':Nat→Prop)(H:aJ)(nx:Nat)(H':aJ)(nx':Nat):Prop:=nx≤nx'∧(∀ n,F' n→F n∨nx≤n)∧ ∀ n,n<nx→ ¬ F n→H'.at' n=H.at' n
theorem Stp.refl{F:Nat→Prop}{H:aJ}{nx:Nat}:Stp F F H nx H nx:=⟨zD _,fun _ h=> .inl h,fun _ _ _=>rfl⟩
theorem Stp.trans{F F' F'':Nat→Prop}{H H' H'':aJ}{nx nx' nx'':Nat}(h:Stp F F' H nx H' nx')(g:Stp F' F'' H' nx' H'' nx''):Stp F F'' H nx H'' nx'':=by
 refine⟨zL h.1 g.1,fun n hn=>?_,fun n hn hf=>?_⟩
 ·rcases g.2.1 n hn with h1|h1
  ·exact h.2.1 n h1
  ·exact .inr (zL h.1 h1)
 ·refine(g.2.2 n (Nat.lt_of_lt_of_le hn h.1) fun hf'=>?_).trans (h.2.2 n hn hf)
  rcases h.2.1 n hf' with h1|h1
  ·exact hf h1
  ·omega
def bLt(a b:ByteArray):Bool:=decide (a.data.toList<b.data.toList)
theorem kb: ∀ (x y:List UInt8),Op.bytesLess x y=decide (x<y)
 | [],[]=>by simp [Op.bytesLess]
 | _ :: _,[]=>by simp [Op.bytesLess]
 | [],_ :: _=>by simp [Op.bytesLess]
 | a :: x,b :: y=>by
   rw [Op.bytesLess,kb x y]
   by_cases h:a<b
   ·simp [h,List.cons_lt_cons_iff]
   ·by_cases h2:a=b
    ·subst h2
     simp [List.cons_lt_cons_iff]
    ·simp [h,h2,List.cons_lt_cons_iff]
theorem up(a b:ByteArray):Op.bytesLess a.toList b.toList=bLt a b:=by
 rw [kb,ByteArray.toList_eq,ByteArray.toList_eq]
 rfl
theorem fN(a:ByteArray):bLt a a=false:=by
 unfold bLt
 exact decide_eq_false (List.lt_irrefl _)
theorem oQ{a b c:ByteArray}(h:bLt a b=true)(g:bLt b c=true):bLt a c=true:=by
 unfold bLt at *
 rw [decide_eq_true_eq] at *
 exact List.lt_trans h g
theorem uq{a b:ByteArray}(h:bLt a b=false)(g:bLt b a=false):a=b:=by
 unfold bLt at *
 rw [decide_eq_false_iff_not,List.not_lt] at *
 have:=List.le_antisymm g h
 cases a;cases b
 simp only at this
 congr 1
 exact Array.toList_inj.1 this
theorem oP(a b:ByteArray):(a.toList == b.toList)=decide (a=b):=by
 rw [← beq_toListBytes]
 by_cases h:a=b
 ·rw [decide_eq_true h];exact(MapKept.bytes_beq a b).2 h
 ·rw [decide_eq_false h]
  cases e:a == b with
  | false=>rfl
  | true=>exact absurd ((MapKept.bytes_beq a b).1 e) h
section
variable {P:Program} {T:Tr SV} {H:aJ} {d:Option Tmp} {ty:TypeId} {pos:String} {af:Array Edge} {gd:Option (Nat×Bool)}
theorem vg{t yt:TypeId}{x y:Operand}{a b:ByteArray}{r:Bool}(hx:am T x=some (.sc (.string a)))(hy:am T y=some (.sc (.string b)))(hr:bLt a b=r):ReadDoes P T H ⟨d,.binOp .lss t x y yt,ty,pos,af,gd⟩ (.sc (.bool r)):=by
 subst hr
 refine cS fun ev w he=>?_
 have e1:=he x _ hx _ rfl
 have e2:=he y _ hy _ rfl
 rw [← up]
 simp [execOp,e1,e2,eqGuard,binOp,Op.stringOp]
theorem w9{t u:TypeId}{x y:Operand}{kd:IntKind}{a b c:Int}(hx:am T x=some (.sc (.int kd a)))(hy:am T y=some (.sc (.int kd b)))(hc:max a b=c):ReadDoes P T H ⟨d,.call {callee:= .builtin .max,args:= #[x,y],argTypes:= #[t,u]},ty,pos,af,gd⟩ (.sc (.int kd c)):=by
 subst hc
 refine cS fun ev w he=>?_
 have e1:=he x _ hx _ rfl
 have e2:=he y _ hy _ rfl
 have e3:(if a<b then b else a)=max a b:=by omega
 simp [execOp,resolve,invoke,builtin,e1,e2,Builtin.max_,Builtin.max2,e3]
end
abbrev u8L(s:ByteArray):List Value:=s.data.toList.map fun c=> .int .u8 (c.toNat:Int)
section
variable {P:Program} {T:Tr SV} {H:aJ} {d:Option Tmp} {ty:TypeId} {pos:String} {af:Array Edge} {gd:Option (Nat×Bool)}
theorem nM{t e:TypeId}{x:Operand}{a:Option Addr}{n c:Nat}(hu:P.underlying t=some (.slice e))(hx:am T x=some (.sc (.slice a n c))):ReadDoes P T H ⟨d,.call {callee:= .builtin .len,args:= #[x],argTypes:= #[t]},ty,pos,af,gd⟩ (.sc (.int .i64 n)):=by
 refine cS fun ev w he=>?_
 have e1:=he x _ hx _ rfl
 simp [execOp,resolve,invoke,builtin,e1,Builtin.len_,run_underlying hu,goInt]
end
section
variable {P:Program} {T:Tr SV} {H:aJ} {d:Option Tmp} {ty:TypeId} {pos:String} {af:Array Edge} {gd:Option (Nat×Bool)}
theorem sU{t:TypeId}{v:SV}(h:ke P t []=some v):ReadDoes P T H ⟨d,.build t #[],ty,pos,af,gd⟩ v:=by
 refine eA ?_
 simp only [c6,iU,zK,h]
end
section
variable {P:Program} {ro:Option Nat} {fn nt nx:Nat} {T:Tr SV} {k:List AIt} {dfs:List ADf} {H:aJ} {Q:Pst} {ops:Array Oper} {i:Nat} {l:List Oper} {d:Option Tmp} {ty:TypeId} {pos:String} {af:Array Edge} {gd:Option (Nat×Bool)}
theorem kU{t yt:TypeId}{x y:Operand}{a b:ByteArray}{r:Bool}{dd:Nat}(hw:ar T ops ⟨some dd,.binOp .lss t x y yt,ty,pos,af,gd⟩=some true)(hd:Nat.blt dd nt=true)(hx:am T x=some (.sc (.string a)))(hy:am T y=some (.sc (.string b)))(hr:bLt a b=r)
 (h:Wp P ro ⟨fn,nt,T.set dd (.sc (.bool r)),.inReg ops (i+1) l :: k,dfs,H,nx⟩ Q):Wp P ro ⟨fn,nt,T,.inReg ops i (⟨some dd,.binOp .lss t x y yt,ty,pos,af,gd⟩ :: l) :: k,dfs,H,nx⟩ Q:=
 bK hw (.inr (fun _ h=>by cases h)) ((vg hx hy hr).does) (by rw [aC hd];exact h)
theorem wh{t u:TypeId}{x y:Operand}{kd:IntKind}{a b c:Int}{dd:Nat}(hw:ar T ops ⟨some dd,.call {callee:= .builtin .max,args:= #[x,y],argTypes:= #[t,u]},ty,pos,af,gd⟩=some true)(hd:Nat.blt dd nt=true)(hx:am T x=some (.sc (.int kd a)))(hy:am T y=some (.sc (.int kd b)))(hc:max a b=c)
 (h:Wp P ro ⟨fn,nt,T.set dd (.sc (.int kd c)),.inReg ops (i+1) l :: k,dfs,H,nx⟩ Q):Wp P ro ⟨fn,nt,T,.inReg ops i (⟨some dd,.call {callee:= .builtin .max,args:= #[x,y],argTypes:= #[t,u]},ty,pos,af,gd⟩ :: l) :: k,dfs,H,nx⟩ Q:=
 bK hw (.inr (fun _ h=>by cases h)) ((w9 hx hy hc).does) (by rw [aC hd];exact h)
theorem dB{t e:TypeId}{x:Operand}{a:Option Addr}{n c:Nat}{dd:Nat}(hw:ar T ops ⟨some dd,.call {callee:= .builtin .len,args:= #[x],argTypes:= #[t]},ty,pos,af,gd⟩=some true)(hd:Nat.blt dd nt=true)(hx:am T x=some (.sc (.slice a n c)))(hu:P.underlying t=some (.slice e))
 (h:Wp P ro ⟨fn,nt,T.set dd (.sc (.int .i64 n)),.inReg ops (i+1) l :: k,dfs,H,nx⟩ Q):Wp P ro ⟨fn,nt,T,.inReg ops i (⟨some dd,.call {callee:= .builtin .len,args:= #[x],argTypes:= #[t]},ty,pos,af,gd⟩ :: l) :: k,dfs,H,nx⟩ Q:=
 bK hw (.inr (fun _ h=>by cases h)) ((nM hu hx).does) (by rw [aC hd];exact h)
theorem dh{t:TypeId}{v:SV}{dd:Nat}(hw:ar T ops ⟨some dd,.build t #[],ty,pos,af,gd⟩=some true)(hd:Nat.blt dd nt=true)(h0:ke P t []=some v)
 (h:Wp P ro ⟨fn,nt,T.set dd v,.inReg ops (i+1) l :: k,dfs,H,nx⟩ Q):Wp P ro ⟨fn,nt,T,.inReg ops i (⟨some dd,.build t #[],ty,pos,af,gd⟩ :: l) :: k,dfs,H,nx⟩ Q:=
 bK hw (.inr (fun _ h=>by cases h)) ((sU h0).does) (by rw [aC hd];exact h)
end
section
variable {P:Program} {T:Tr SV} {H:aJ} {nx:Nat} {d:Option Tmp} {ty:TypeId} {pos:String} {af:Array Edge} {gd:Option (Nat×Bool)}
theorem pw{s t el:TypeId}{x:Operand}{b:ByteArray}(hs:P.underlying s=some .string)(ht:P.underlying t=some (.slice el))(he:P.underlying el=some (.int .u8))(hx:am T x=some (.sc (.string b)))(hb:b.size≤140737488355328) :
 OpDoes P T H nx ⟨d,.convert s t x,ty,pos,af,gd⟩ (.val (.slu nx 0 b.size),H.set nx (dat false b.size 1 el (u8L b)),nx+1):=by
 have e0:eN (b.data.toList.map fun c=>SV.sc (.int .u8 (c.toNat:Int)))=fun i=>((u8L b)[i]?).map SV.sc:=by
  funext i
  simp [eN,u8L,Function.comp_def]
 intro K w0 e w ev hS hE
 have e1:=hE x _ hx
 simp only [SV.conc,zh] at e1
 have hrun:=run_bytes_of_string w s t el b hs ht he
 have hge:=grownCap_ge w b.size 0 el
 have hle:=grownCap_le_maxLen w b.size 0 el (by unfold maxLen;omega)
 generalize grownCap w b.size 0 el=gc at hrun hge hle
 have hf:=hS.fresh nx (zD _)
 have hsz:(bytesRow b gc).size=gc:=by
  have:b.data.size=b.size:=rfl
  simp [bytesRow];omega
 rw [hsz] at hrun
 refine⟨e.put nx ⟨w.heap.size,0,gc,1,false⟩,(w.drew.alloc (Obj.cells (bytesRow b gc) el (gc,gc+1))),Env.cN hf,?_,.slice (some ⟨w.heap.size,0,none⟩) b.size gc,by simp [SV.conc,Env.bz,Ent.at],by simp only [execOp,←e1];simp [hrun]⟩
 refine(hS.drew').new (x:=⟨w.heap.size,0,gc,1,false⟩) (o:= .cells (bytesRow b gc) el (gc,gc+1)) rfl rfl rfl rfl rfl rfl rfl ?_
 refine⟨rfl,_,_,_,rfl,hge,by rw [hsz];simp,hle,fun _=>⟨by omega,fun i hi=>?_⟩,by omega,fun i hi s' hs'=>?_⟩
 ·rw [hsz] at hi
  simp;omega
 ·have hs':((u8L b)[i]?).map SV.sc=some s':=hs'
  rw [zr] at hs'
  obtain⟨u,hu,rfl⟩:=hs'
  simp only [u8L,List.getElem?_map,zr] at hu
  obtain⟨a,ha,rfl⟩:=hu
  refine⟨_,rfl,?_⟩
  simp only [Nat.zero_add,bytesRow]
  rw [Array.getElem?_append_left (by rw [Array.size_map];have:b.data.size=b.size:=rfl;omega)]
  simp only [Array.getElem?_map,zr]
  exact⟨a,by simpa using ha,rfl⟩
end
section
variable {P:Program} {ro:Option Nat} {fn nt nx i:Nat} {T:Tr SV} {k:List AIt} {dfs:List ADf} {H:aJ} {Q:Pst} {ops:Array Oper} {l:List Oper} {ty:TypeId} {pos:String} {af:Array Edge} {gd:Option (Nat×Bool)}
theorem lV{s t el:TypeId}{x:Operand}{b:ByteArray}{dd:Nat}(hw:ar T ops ⟨some dd,.convert s t x,ty,pos,af,gd⟩=some true)(hd:Nat.blt dd nt=true)(hs:P.underlying s=some .string)(ht:P.underlying t=some (.slice el))(he:P.underlying el=some (.int .u8))(hx:am T x=some (.sc (.string b)))(hb:b.size≤140737488355328)
 (h:Wp P ro ⟨fn,nt,T.set dd (.slu nx 0 b.size),.inReg ops (i+1) l :: k,dfs,H.set nx (dat false b.size 1 el (u8L b)),nx+1⟩ Q):Wp P ro ⟨fn,nt,T,.inReg ops i (⟨some dd,.convert s t x,ty,pos,af,gd⟩ :: l) :: k,dfs,H,nx⟩ Q:=
 bK hw (.inr (fun _ h=>by cases h)) (pw hs ht he hx hb) (by rw [aC hd];exact h)
end
abbrev fQ(ro:Bool)(ne sz:Nat)(t:TypeId)(l:List SV):VO:= .row ro ne sz t (eN l)
section
variable {ro:Bool} {ne sz:Nat} {t:TypeId} {l:List SV}
theorem jB{i:Nat}{s:SV}(h:l[i]? =some s)(hi:i<ne*sz):(fQ ro ne sz t l).cell i=some s:=by
 simp only [VO.cell]
 rw [show Nat.blt i (ne*sz)=true from zp hi]
 exact h
theorem fA: ∀ (n o:Nat) (l':List SV),(l.drop o).take n=l'→l'.length=n→o+n≤ne*sz→(fQ ro ne sz t l).cellsFrom o n=some l'
 | 0,o,l',h,_,_=>by rw [List.take_zero] at h;subst h;rfl
 | n+1,o,l',h,hn,ho=>by
   cases hd:l.drop o with
   | nil=>rw [hd] at h;subst h;simp at hn
   | cons x r=>
     have hx:l[o]? =some x:=by rw [← List.head?_drop,hd];rfl
     have hr:l.drop (o+1)=r:=by rw [← List.drop_drop,hd];rfl
     rw [hd,List.take_succ_cons] at h
     subst h
     have:=fA n (o+1) (r.take n) (by rw [hr]) (by simpa using hn) (by omega)
     have hc:=jB (ro:=ro) (ne:=ne) (sz:=sz) (t:=t) hx (by omega)
     simp only [VO.cellsFrom,hc,this]
end
def SlOf(H:aJ)(sz:Nat)(t:TypeId)(s:SV)(n:Nat)(cs:List SV):Prop:=cs.length=n*sz ∧
 ((n=0∧(s = .sc (.slice none 0 0)∨ ∃ b o c vo,s = .sl b o 0 c∧H.at' b=some vo)) ∨
  ∃ r eo ne l,(s = .slu r eo n∨ ∃ C,n≤C∧s = .sl r (eo*sz) n C)∧H.at' r=some (fQ false ne sz t l)∧(l.drop (eo*sz)).take (n*sz)=cs∧eo+n≤ne∧l.length=ne*sz)
section
variable {P:Program} {T:Tr SV} {H:aJ} {nx:Nat} {d:Option Tmp} {ty:TypeId} {pos:String} {af:Array Edge} {gd:Option (Nat×Bool)}
theorem SlOf.cells{sz n:Nat}{t:TypeId}{s:SV}{cs:List SV}(h:SlOf H sz t s n cs):a7 H sz s=some (n,cs):=by
 obtain⟨h1,⟨rfl,h2⟩|⟨r,eo,ne,l,rfl|⟨C,_,rfl⟩,hb,hc,he,hl⟩⟩:=h
 ·rw [Nat.zero_mul] at h1
  have:=zz h1
  subst this
  rcases h2 with rfl|⟨b,o,c,vo,rfl,hb⟩
  ·rfl
  ·simp [a7,hb,VO.cellsFrom]
 ·simp only [a7,hb,Nat.beq_refl,Bool.true_and]
  rw [show Nat.ble (eo+n) ne=true from zp he]
  have:=fA (ro:=false) (ne:=ne) (sz:=sz) (t:=t) (l:=l) (n*sz) (eo*sz) cs hc h1 (by rw [← Nat.add_mul];exact Nat.mul_le_mul_right _ he)
  simp only [cond_true,this,zJ]
 ·have:=fA (ro:=false) (ne:=ne) (sz:=sz) (t:=t) (l:=l) (n*sz) (eo*sz) cs hc h1 (by rw [← Nat.add_mul];exact Nat.mul_le_mul_right _ he)
  simp only [a7,hb,this,zJ]
theorem SlOf.row{ne sz:Nat}{t:TypeId}{l:List SV}{r:Nat}(hb:H.at' r=some (fQ false ne sz t l))(hl:l.length=ne*sz):SlOf H sz t (.slu r 0 ne) ne l:=by
 refine⟨hl,.inr ⟨r,0,ne,l,.inl rfl,hb,?_,by omega,hl⟩⟩
 rw [Nat.zero_mul,List.drop_zero,←hl,List.take_length]
theorem SlOf.none{sz:Nat}{t:TypeId}:SlOf H sz t (.sc (.slice none 0 0)) 0 []:=⟨by simp,.inl ⟨rfl,.inl rfl⟩⟩
theorem sT{t e:TypeId}{x y:Operand}{b o n C q:Nat}{k:IntKind}{sz:Nat}(hu:P.underlying t=some (.slice e))(hs:bA P e=some sz)(hx:am T x=some (.sl b o n C))(hy:am T y=some (.sc (.int k (q:Int))))(hi:q<n):ReadDoes P T H ⟨d,.indexAddr t x y,ty,pos,af,gd⟩ (.ptr b (o+q*sz)):=by
 refine eA ?_
 simp only [c6,tv,hx,hy,zK,dA,hu,hs]
 rw [show Nat.blt q n=true from zp hi]
 simp
theorem xq{t tx el:TypeId}{sz:Nat}{s x:Operand}{v:SV}(hu:P.underlying t=some (.slice el))(hk:(∃ e',P.underlying tx=some (.slice e'))∨P.underlying tx=some .string)(hs:bA P el=some sz)(h0:0<sz)
 (hx0:am T s=some (.sc (.slice none 0 0))) (hx:am T x=some v) (hr:a7 H sz v=some (0,[])) :
 OpDoes P T H nx ⟨d,.call {callee:= .builtin .append,args:= #[s,x],argTypes:= #[t,tx]},ty,pos,af,gd⟩ (.val (.sc (.slice none 0 0)),H,nx):=by
 have hap:dL P H nx el (.sc (.slice none 0 0)) v=some (.val (.sc (.slice none 0 0)),H,nx):=by
  unfold dL
  rw [hs]
  cases sz with
  | zero=>omega
  | succ sz=>
    simp only
    rw [hr]
    rfl
 refine iW ?_
 rcases hk with ⟨e',hk⟩|hk <;> simp only [fl,dw,hx0,hx,zK,eF,fu,hu,hk,hap]
theorem l9{t tx el:TypeId}{sz m b:Nat}{s x:Operand}{v:SV}{cs:List SV}(hu:P.underlying t=some (.slice el))(hk:(∃ e',P.underlying tx=some (.slice e'))∨P.underlying tx=some .string)(hs:bA P el=some sz)(h0:0<sz)
 (hz:eG P el sz=true) (hb:(P.info? el).map (·.bytes)=some b) (hx0:am T s=some (.sc (.slice none 0 0))) (hx:am T x=some v) (hr:a7 H sz v=some (m,cs)) (h1:cG cs=true) (hm:0<m) (hm1:m*b≤140737488355328) (hm2:m≤1000000000) :
 OpDoes P T H nx ⟨d,.call {callee:= .builtin .append,args:= #[s,x],argTypes:= #[t,tx]},ty,pos,af,gd⟩ (.val (.slu nx 0 m),H.set nx (fQ false m sz el cs),nx+1):=by
 have hap:dL P H nx el (.sc (.slice none 0 0)) v=some (.val (.slu nx 0 m),H.set nx (.row false m sz el (eN cs)),nx+1):=by
  unfold dL
  rw [hs]
  cases sz with
  | zero=>omega
  | succ sz=>
    simp only
    rw [hr]
    simp only [h1,Bool.not_true,cond_false,jU hb hm1 hm2,hz,Bool.and_self,cond_true]
    rw [show Nat.beq m 0=false from by cases hq:Nat.beq m 0 with|false=>rfl|true=>have:=Nat.eq_of_beq_eq_true hq;omega]
    rfl
 refine iW ?_
 rcases hk with ⟨e',hk⟩|hk <;> simp only [fl,dw,hx0,hx,zK,eF,fu,hu,hk,hap]
theorem tg{t tx el:TypeId}{sz m b r eo n:Nat}{s x:Operand}{v:SV}{l ws cs:List SV}(hu:P.underlying t=some (.slice el))(hk:(∃ e',P.underlying tx=some (.slice e'))∨P.underlying tx=some .string)(hs:bA P el=some sz)(h0:0<sz)
 (hz:eG P el sz=true) (hb:(P.info? el).map (·.bytes)=some b) (hx0:am T s=some (.slu r eo n)) (hx:am T x=some v) (hro:H.at' r=some (fQ false (eo+n) sz el l)) (hold:a7 H sz (.slu r eo n)=some (n,ws)) (hr:a7 H sz v=some (m,cs)) (h1:cG cs=true)
 (hm:0<m) (hm1:(n+m)*b≤140737488355328) (hm2:n+m≤1000000000) :
 OpDoes P T H nx ⟨d,.call {callee:= .builtin .append,args:= #[s,x],argTypes:= #[t,tx]},ty,pos,af,gd⟩ (.val (.slu nx 0 (n+m)),(H.del r).set nx (fQ false (n+m) sz el (ws ++ cs)),nx+1):=by
 have hap:dL P H nx el (.slu r eo n) v=some (.val (.slu nx 0 (n+m)),(H.del r).set nx (.row false (n+m) sz el (eN (ws ++ cs))),nx+1):=by
  unfold dL
  rw [hs]
  cases sz with
  | zero=>omega
  | succ sz=>
    simp only
    rw [hr]
    simp only [h1,Bool.not_true,cond_false,hold]
    rw [hro]
    simp only [Nat.beq_refl,jU hb hm1 hm2,hz,Bool.not_false,Bool.and_self,cond_true]
    rw [show Nat.beq m 0=false from by cases hq:Nat.beq m 0 with|false=>rfl|true=>have:=Nat.eq_of_beq_eq_true hq;omega]
    rfl
 refine iW ?_
 rcases hk with ⟨e',hk⟩|hk <;> simp only [fl,dw,hx0,hx,zK,eF,fu,hu,hk,hap]
end
def nmS:SV→Option Nat
 | .slu b _ _=>some b
 | .sl b _ _ _=>some b
 | _=>none
theorem SlOf.frame{H H':aJ}{sz n:Nat}{t:TypeId}{s:SV}{cs:List SV}(h:SlOf H sz t s n cs)(hf: ∀ b,nmS s=some b→H'.at' b=H.at' b):SlOf H' sz t s n cs:=by
 obtain⟨h1,⟨rfl,h2⟩|⟨r,eo,ne,l,hsl,hb,hc⟩⟩:=h
 ·refine⟨h1,.inl ⟨rfl,?_⟩⟩
  rcases h2 with rfl|⟨b,o,c,vo,rfl,hb⟩
  ·exact .inl rfl
  ·exact .inr ⟨b,o,c,vo,rfl,(hf b rfl).trans hb⟩
 ·exact⟨h1,.inr ⟨r,eo,ne,l,hsl,(hf r (by rcases hsl with rfl|⟨C,_,rfl⟩ <;> rfl)).trans hb,hc⟩⟩
section
variable {P:Program} {ro:Option Nat} {fn nt nx:Nat} {T:Tr SV} {k:List AIt} {dfs:List ADf} {H:aJ} {Q:Pst} {ops:Array Oper} {i:Nat} {l:List Oper} {d:Option Tmp} {ty:TypeId} {pos:String} {af:Array Edge} {gd:Option (Nat×Bool)}
theorem jg{t:TypeId}{x:Operand}{b o:Nat}{vo:VO}{v:SV}{dd:Nat}(hw:ar T ops ⟨some dd,.load t x,ty,pos,af,gd⟩=some true)(hd:Nat.blt dd nt=true)(hx:am T x=some (.ptr b o))(ha:cq P t=some none)(hb:H.at' b=some vo)(hv:vo.cell o=some v)
 (h:Wp P ro ⟨fn,nt,T.set dd v,.inReg ops (i+1) l :: k,dfs,H,nx⟩ Q):Wp P ro ⟨fn,nt,T,.inReg ops i (⟨some dd,.load t x,ty,pos,af,gd⟩ :: l) :: k,dfs,H,nx⟩ Q:=
 bK hw (.inr (fun _ h=>by cases h)) ((aZ ha hx hb hv).does) (by rw [aC hd];exact h)
theorem gY{t tx el rt:TypeId}{sz n b:Nat}{s x:Operand}{v:SV}{cs:List SV}{dd:Nat}(hw:ar T ops ⟨some dd,.call {callee:= .builtin .append,args:= #[s,x],argTypes:= #[t,tx]},ty,pos,af,gd⟩=some true)(hd:Nat.blt dd nt=true)(hx0:am T s=some (.sc (.slice none 0 0)))(hx:am T x=some v)(hu:P.underlying t=some (.slice el))(hk:(∃ e',P.underlying tx=some (.slice e'))∨P.underlying tx=some .string)(hs:bA P el=some sz)(h0:Nat.blt 0 sz=true)(hz:eG P el sz=true)(hb:(P.info? el).map (·.bytes)=some b)(hf:SlOf H sz rt v n cs)(h1:cG cs=true)(hm1:n*b≤140737488355328)(hm2:n≤1000000000)
 (h: ∀ s' H' nx',(n=0∧s' = .sc (.slice none 0 0)∧H'=H∧nx'=nx)∨(0<n∧s' = .slu nx 0 n∧H'=H.set nx (fQ false n sz el cs)∧nx'=nx+1)→Wp P ro ⟨fn,nt,T.set dd s',.inReg ops (i+1) l :: k,dfs,H',nx'⟩ Q) :
 Wp P ro ⟨fn,nt,T,.inReg ops i (⟨some dd,.call {callee:= .builtin .append,args:= #[s,x],argTypes:= #[t,tx]},ty,pos,af,gd⟩ :: l) :: k,dfs,H,nx⟩ Q:=by
 have hr:=hf.cells
 rcases Nat.eq_zero_or_pos n with rfl|hn
 ·have:cs= []:=zz (by have:=hf.1;rwa [Nat.zero_mul] at this)
  subst this
  exact bK hw (.inr (fun _ h=>by cases h)) (xq hu hk hs (bW h0) hx0 hx hr) (by rw [aC hd];exact h _ _ _ (.inl ⟨rfl,rfl,rfl,rfl⟩))
 ·exact bK hw (.inr (fun _ h=>by cases h)) (l9 hu hk hs (bW h0) hz hb hx0 hx hr h1 hn hm1 hm2) (by rw [aC hd];exact h _ _ _ (.inr ⟨hn,rfl,rfl,rfl⟩))
theorem yl{t tx el:TypeId}{sz m b r n:Nat}{s x:Operand}{v:SV}{ws cs:List SV}{dd:Nat}(hw:ar T ops ⟨some dd,.call {callee:= .builtin .append,args:= #[s,x],argTypes:= #[t,tx]},ty,pos,af,gd⟩=some true)(hd:Nat.blt dd nt=true)(hx0:am T s=some (.slu r 0 n))(hx:am T x=some v)(hu:P.underlying t=some (.slice el))(hk:(∃ e',P.underlying tx=some (.slice e'))∨P.underlying tx=some .string)(hs:bA P el=some sz)(h0:Nat.blt 0 sz=true)(hz:eG P el sz=true)(hb:(P.info? el).map (·.bytes)=some b)(hro:H.at' r=some (fQ false n sz el ws))(hl:ws.length=n*sz)(hr:a7 H sz v=some (m,cs))(h1:cG cs=true)(hm:0<m)(hm1:(n+m)*b≤140737488355328)(hm2:n+m≤1000000000)
 (h:Wp P ro ⟨fn,nt,T.set dd (.slu nx 0 (n+m)),.inReg ops (i+1) l :: k,dfs,(H.del r).set nx (fQ false (n+m) sz el (ws ++ cs)),nx+1⟩ Q):Wp P ro ⟨fn,nt,T,.inReg ops i (⟨some dd,.call {callee:= .builtin .append,args:= #[s,x],argTypes:= #[t,tx]},ty,pos,af,gd⟩ :: l) :: k,dfs,H,nx⟩ Q:=
 bK hw (.inr (fun _ h=>by cases h)) (tg (eo:=0) hu hk hs (bW h0) hz hb hx0 hx (by rw [Nat.zero_add];exact hro) ((SlOf.row hro hl).cells) hr h1 hm hm1 hm2) (by rw [aC hd];exact h)
end
end Go.Sy
end
