import Derived.Calls
import Derived.Orders
import Derived.Test.YtnhmbonmlfeifaaN1
set_option linter.unusedVariables false
set_option linter.unusedSimpArgs false
set_option maxRecDepth 100000
set_option maxHeartbeats 0
section
namespace Go.Sy
open Go Go.Sl Go.RowKit
section
variable {P:Program} {K:Zone} {w0 w:World} {e:Env} {H:ar} {nx:Nat} {T:Tr SV} {ev:Operand→Value}
theorem gz{t:TypeId}{l:List SV}{vs:List Value}{r:SV}{v:Value}{s:Sem Value}(hS:St K w0 e H nx w)(hl:SV.aq e l=some vs)
 (hv:r.conc (e.put nx ⟨w.heap.size,0,0,1,false⟩)=some v) (hrun:s.run P w = .ok v {w with heap:=w.heap.push (.cells vs.toArray t)}):ei P K w0 e (.val r,H.set nx (am t l),nx+1) s w:=by
 have hf:=hS.fresh nx (th _)
 refine⟨e.put nx ⟨w.heap.size,0,0,1,false⟩,_,r,v,rfl,Env.bB hf,?_,hv,hrun⟩
 exact hS.new (o:= .cells vs.toArray t) rfl rfl rfl rfl rfl rfl rfl (fJ (SV.aU (Env.bB hf) _ _ hl) rfl)
theorem gX{t:TypeId}{len:Nat}{ps:List (Nat×SV)}{qs:Array (Nat×Value)}{out:Out}(hS:St K w0 e H nx w)(h:eN P H nx t len ps=some out)(hp:q8 e ps qs.toList):ei P K w0 e out (Instr.buildSlice t len qs) w:=by
 unfold eN at h
 cases hu:P.underlying t with
 | none=>rw [hu] at h;cases h
 | some d=>
   rw [hu] at h
   cases d with
   | slice el=>
     simp only at h
     cases hs:aR P el with
     | none=>rw [hs] at h;cases h
     | some sz=>
       rw [hs] at h
       simp only at h
       cases h0:Nat.beq (len*sz) 0 with
       | true=>
         rw [h0] at h
         simp only [cond_true] at h
         cases ps with
         | cons _ _=>cases h
         | nil=>
           simp only [List.isEmpty_nil,cond_true,sW] at h
           subst h
           have h00:=aC h0
           have hq:qs.toList= []:=by
            cases hq:qs.toList with
            | nil=>rfl
            | cons _ _=>rw [hq] at hp;exact hp.elim
           refine gz (vs:= []) hS rfl (v:= .slice (some ⟨w.heap.size,0,none⟩) len len) (by simp [SV.conc,Env.aJ]) ?_
           have hle: ¬ (16777216<len*sz):=by omega
           simp [Instr.buildSlice,run_underlying hu,aW hs,h00,hq,Instr.fill,newRow,show Array.range 0=(#[]:Array Nat)from by decide]
       | false=>
         rw [h0] at h
         simp only [cond_false] at h
         cases hz:bU P el with
         | none=>rw [hz] at h;cases h
         | some z=>
           rw [hz] at h
           simp only at h
           cases hle:Nat.ble (len*sz) 16777216 with
           | false=>rw [hle] at h;cases h
           | true=>
             rw [hle] at h
             simp only [cond_true] at h
             cases hf:dM (fun i=>some (i*sz,sz)) (((Array.range (len*sz)).map (z.cells[·% z.cells.size]!)).toList.map .sc) ps with
             | none=>rw [hf] at h;cases h
             | some l=>
               rw [hf] at h
               simp only at h
               cases ho:bz l with
               | false=>rw [ho] at h;cases h
               | true=>
                 rw [ho] at h
                 simp only [cond_true,sW] at h
                 subst h
                 obtain⟨vs,g1,g2⟩:=jH (e:=e) ps qs.toList _ l _ hf hp (cm _)
                 have hle':=aN hle
                 have h0': ¬ (len*sz=0):=by intro hc;rw [hc] at h0;cases h0
                 refine gz hS g2 (v:= .slice (some ⟨w.heap.size,0,none⟩) len len) (by simp [SV.conc,Env.aJ]) ?_
                 simp only [Array.toArray_toList] at g1
                 simp only [Instr.buildSlice,run_underlying hu,Sem.run_bind,Result.andThen,aW hs]
                 rw [if_neg (by omega)]
                 simp only [Sem.run_pure,if_neg h0',Sem.run_bind,Result.andThen,cU hz,g1,newRow,run_newObj]
   | _=>cases h
theorem iJ{t:TypeId}{n m:Nat}{k k':IntKind}{out:Out}(hS:St K w0 e H nx w)(h:fu P H nx t n m=some out):ei P K w0 e out (Instr.makeSlice t (.int k (n:Int)) (.int k' (m:Int))) w:=by
 unfold fu at h
 cases hu:P.underlying t with
 | none=>rw [hu] at h;cases h
 | some d=>
   rw [hu] at h
   cases d with
   | slice el=>
     simp only at h
     cases hs:aR P el with
     | none=>rw [hs] at h;cases h
     | some sz=>
       rw [hs] at h
       simp only at h
       cases hz:bU P el with
       | none=>rw [hz] at h;cases h
       | some z=>
         rw [hz] at h
         simp only at h
         cases hq:(Nat.ble n m && cv P el m && Nat.beq z.cells.size sz && Nat.blt 0 (m*sz))with
         | false=>rw [hq] at h;cases h
         | true=>
           rw [hq] at h
           simp only [cond_true,sW] at h
           subst h
           simp only [tg] at hq
           obtain⟨⟨⟨q1,q2⟩,q3⟩,q4⟩:=hq
           have q1:=aN q1
           obtain⟨i,hi,hb,hmx⟩:=fC q2
           have q3:=aC q3
           have q4:=bl q4
           refine gz hS (gb z m) (v:= .slice (some ⟨w.heap.size,0,none⟩) n m) (by simp [SV.conc,Env.aJ]) ?_
           have hwn:IntKind.i64.wrap (n:Int)=(n:Int):=IntWalk.i64_in _ (by omega)
           have hwm:IntKind.i64.wrap (m:Int)=(m:Int):=IntWalk.i64_in _ (by omega)
           have hbi:(i.bytes:Int)*(m:Int)=((m*i.bytes:Nat):Int):=by rw [Int.natCast_mul,Int.mul_comm]
           have hnb: ¬ ((2:Int) ^ 48<(i.bytes:Int)*(m:Int)):=by rw [hbi];omega
           have hi':(typeInfo el).run P w = .ok i w:=by simp [typeInfo,hi]
           have hcond:(decide ((m:Int)<0) || decide ((i.bytes:Int)*(m:Int)>2 ^ 48) || decide ((n:Int)<0) || decide ((n:Int)>(m:Int)))=false:=by
            simp only [Bool.or_eq_false_iff,decide_eq_false_iff_not]
            exact⟨⟨⟨by omega,hnb⟩,by omega⟩,by omega⟩
           simp only [Instr.makeSlice,run_underlying hu,Sem.run_bind,Result.andThen,asInt,asIntOf,Sem.run_pure,hi',hwn,hwm,hcond,Bool.false_eq_true,if_false,run_askRoom,aW hs,Int.toNat_natCast]
           rw [if_neg (by omega)]
           simp only [Sem.run_bind,Result.andThen,cU hz,Sem.run_pure,newRow,run_newObj]
           congr 4
           simp only [Builtin.zeroCells,q3,Array.toArray_toList]
   | _=>cases h
theorem c9{f:FuncId}{args:Array Value}(h:bu P f=true)(w:World):(callFunc f args).run P w = .ok (.enter f args) w:=by
 unfold bu at h
 cases hf:P.funcs[f]? with
 | none=>rw [hf] at h;cases h
 | some fn=>
   rw [hf] at h
   simp only [tg,Bool.not_eq_true',beq_eq_false_iff_ne] at h
   have hn: ¬ (fn.body.isNone=true):=by
    cases hb:fn.body with
    | none=>rw [hb] at h;simp at h
    | some c=>simp
   have h2: ¬ ((fn.name == "runtime.NumGoroutine")=true):=by simpa using h.2
   simp only [callFunc,Sem.run_bind,run_program,Result.andThen,hf]
   rw [if_neg h2,if_neg hn]
   rfl
theorem eH{s:SV}{v:Value}{g:FuncId}{a b:List SV}(h:bY s=some (g,a,b))(hv:s.conc e=some v): ∃ x y,v = .func (.func g) x y∧SV.aq e a=some x.toList∧SV.aq e b=some y.toList:=by
 unfold bY at h
 split at h
 ·simp only [sW,s6] at h
  obtain⟨rfl,rfl,rfl⟩:=h
  simp only [SV.conc,sW] at hv
  subst hv
  exact⟨_,_,rfl,cm _,cm _⟩
 ·simp only [sW,s6] at h
  obtain⟨rfl,rfl,rfl⟩:=h
  obtain⟨x,y,hx,hy,rfl⟩:=ku hv
  exact⟨_,_,rfl,by simpa using hx,by simpa using hy⟩
 ·cases h
theorem lY{t:TypeId}{name:String}{g:FuncId}(h:gA P t name=some g)(v:Value)(args:Array Value)(w:World):(callMethod (.iface t v) name args).run P w = .ok (.enter g (#[v] ++ args)) w:=by
 unfold gA at h
 cases hi:P.info? t with
 | none=>rw [hi] at h;cases h
 | some i=>
   rw [hi] at h
   simp only at h
   cases hm:i.methods.find? (fun m=>m.name == name)with
   | none=>rw [hm] at h;cases h
   | some m=>
     rw [hm] at h
     simp only at h
     cases hmf:m.func with
     | none=>rw [hmf] at h;cases h
     | some q=>
       obtain⟨g',pr⟩:=q
       rw [hmf] at h
       cases pr with
       | false=>cases h
       | true=>
         simp only at h
         cases hu:P.underlying t with
         | none=>rw [hu] at h;cases h
         | some d=>
           rw [hu] at h
           cases d with
           | pointer el=>
             simp only at h
             cases hq:(m.path.isEmpty && bu P g')with
             | false=>rw [hq] at h;cases h
             | true=>
               rw [hq] at h
               simp only [cond_true,sW] at h
               subst h
               rw [tg] at hq
               obtain⟨n,hn⟩: ∃ n,P.types.size+Made.depth=n+1:=⟨P.types.size+99,by unfold Made.depth;omega⟩
               have hpath:m.path.toList= []:=by
                have:=hq.1
                cases hp:m.path.toList with
                | nil=>rfl
                | cons a l=>rw [Array.isEmpty_iff] at this;rw [this] at hp;cases hp
               have hi':(typeInfo t).run P w = .ok i w:=by simp [typeInfo,hi]
               simp only [callMethod,Sem.run_bind,run_program,Result.andThen,hn,Go.method,hi',hm,hpath,follow,Sem.run_pure,hmf,receiverAt,run_underlying hu,Place.get]
               exact c9 hq.2 w
           | _=>cases h
theorem iV{c:Call}{a:ANx}{ty:TypeId}(hE:EvRel e T ev)(h:bh P T c=some a)(w:World):ORun P e a ((do let d←resolve ev c ty;invoke d.target d.args:Sem Next).run P w) w:=by
 unfold bh at h
 cases hl:cD T c.args.toList with
 | none=>rw [hl] at h;cases h
 | some args=>
   rw [hl] at h
   simp only at h
   have hargs:=hE.list _ _ hl
   cases hc:c.callee with
   | builtin b=>rw [hc] at h;cases h
   | value f=>
     rw [hc] at h
     simp only at h
     cases hf:aj T f with
     | none=>rw [hf] at h;cases h
     | some s=>
       have hv:=hE f s hf
       rw [hf] at h
       have gen:(match bY s with
        | some (g,x,y)=>bif bu P g then some (ANx.enter g (x ++ args ++ y)) else none
        | none=>none)=some a→ORun P e a ((do let d←resolve ev c ty;invoke d.target d.args:Sem Next).run P w) w:=by
        intro h
        cases ht:bY s with
        | none=>rw [ht] at h;cases h
        | some q=>
          obtain⟨g,x,y⟩:=q
          rw [ht] at h
          simp only at h
          cases hm:bu P g with
          | false=>rw [hm] at h;cases h
          | true=>
            rw [hm] at h
            simp only [cond_true,sW] at h
            subst h
            obtain⟨xs,ys,hev,hx,hy⟩:=eH ht hv
            refine⟨xs ++ c.args.map ev ++ ys,?_,?_⟩
            ·have:=bm (bm hx hargs) hy
             simpa using this
            ·simp [resolve,hc,hev,Deferred.ofValue,invoke,c9 hm]
       cases s with
       | yld l=>
         simp only [sW] at h
         subst h
         obtain⟨x,hx,hev⟩:=iS hv
         refine⟨x,c.args.toList.map ev,hx,hargs,?_⟩
         simp [resolve,hc,hev,Deferred.ofValue,invoke]
         congr 1
         congr 1
         apply Array.ext'
         simp
       | _=>exact gen h
   | invoke r name=>
     rw [hc] at h
     simp only at h
     split at h
     ·rename_i t v hr
      have hv:=hE r _ hr
      obtain⟨u,hu,hev⟩:=iT hv
      cases hm:gA P t name with
      | none=>rw [hm] at h;cases h
      | some g=>
        rw [hm] at h
        simp only [sW] at h
        subst h
        refine⟨#[u] ++ c.args.map ev,?_,?_⟩
        ·simpa using aY hu hargs
        ·have hex:(#[ev r] ++ Array.map ev c.args).extract 1 (#[ev r] ++ Array.map ev c.args).size=Array.map ev c.args:=by
          obtain⟨l⟩:=Array.map ev c.args
          simp
         have h0:(#[ev r] ++ Array.map ev c.args)[0]? =some (ev r):=by
          obtain⟨l⟩:=Array.map ev c.args
          simp
         simp only [resolve,hc,Sem.run_bind,Sem.run_pure,Result.andThen,invoke,h0,hex]
         rw [hev]
         exact lY hm u _ w
     ·cases h
theorem b8{out:Out}{s:Sem Value}{res:Result Next}(h:ei P K w0 e out s w)(hr: ∀ v w',s.run P w = .ok v w'→res = .ok (.value v) w'):nT P K w0 e out res:=by
 obtain⟨e',w',r,v,h1,h2,h3,h4,h5⟩:=h
 exact⟨e',w',h2,h3,by rw [h1];exact⟨v,h4,hr v w' h5⟩⟩
theorem jO{out:Out}{s:Sem Unit}{res:Result Next}(h:sU P K w0 e out s w)(hr: ∀ w',s.run P w = .ok () w'→res = .ok .skip w'):nT P K w0 e out res:=by
 obtain⟨e',w',h1,h2,h3,h4⟩:=h
 exact⟨e',w',h2,h3,by rw [h1];exact hr w' h4⟩
theorem kC{t u ty:TypeId}{s x:SV}{vs vx:Value}{out:Out}(hS:St K w0 e H nx w)(h:ga P H nx t u s x=some out)(hs:s.conc e=some vs)(hx:x.conc e=some vx):ei P K w0 e out (Builtin.append_ #[t,u] ty #[vs,vx]) w:=by
 unfold ga at h
 cases ht:P.underlying t with
 | none=>rw [ht] at h;cases h
 | some d=>
   rw [ht] at h
   cases d with
   | slice el=>
     simp only at h
     cases hu:P.underlying u with
     | none=>rw [hu] at h;cases h
     | some d2=>
       rw [hu] at h
       have key:(∃ e',P.underlying u=some (.slice e'))∨P.underlying u=some .string→dA P H nx el s x=some out→ei P K w0 e out (Builtin.append_ #[t,u] ty #[vs,vx]) w:=by
        intro hk h
        obtain⟨e',w',r,v,h1,h2,h3,h4,h5⟩:=ig (ty:=ty) ht hk hS h hs hx
        exact⟨e',w',r,v,h1,h2,h3,h4,h5⟩
       cases d2 with
       | slice e2=>exact key (.inl ⟨e2,hu⟩) h
       | string=>exact key (.inr hu) h
       | _=>cases h
   | _=>cases h
theorem kz{b:Builtin}{ts:Array TypeId}{xs:List SV}{vs:Array Value}{ty:TypeId}{cs:Array Bool}{out:Out}(hS:St K w0 e H nx w)(h:dz P H nx b ts.toList xs=some out)(hx:SV.aq e xs=some vs.toList) :
 nT P K w0 e out ((builtin b ts ty cs vs).run P w):=by
 unfold dz at h
 obtain⟨tl⟩:=ts
 obtain⟨vl⟩:=vs
 simp only at h hx
 cases b with
 | append=>
   simp only at h
   split at h
   ·rename_i t u s x
    obtain⟨v1,l1,rfl,h1,hx⟩:=ba hx
    obtain⟨v2,l2,rfl,h2,hx⟩:=ba hx
    simp only [SV.aq,sW] at hx
    subst hx
    exact b8 (kC (ty:=ty) hS h h1 h2) (fun v w' hr=>by simp [builtin,hr])
   ·cases h
 | copy=>
   simp only at h
   split at h
   ·rename_i t tl d x
    obtain⟨v1,l1,rfl,h1,hx⟩:=ba hx
    obtain⟨v2,l2,rfl,h2,hx⟩:=ba hx
    simp only [SV.aq,sW] at hx
    subst hx
    exact b8 (oV (ts:=⟨t :: tl⟩) (ty:=ty) (by simp) hS h h1 h2) (fun v w' hr=>by simp [builtin,hr])
   ·cases h
 | clear=>
   simp only at h
   split at h
   ·rename_i t tl d
    obtain⟨v1,l1,rfl,h1,hx⟩:=ba hx
    simp only [SV.aq,sW] at hx
    subst hx
    exact b8 (nJ (ts:=⟨t :: tl⟩) (ty:=ty) (by simp) hS h h1) (fun v w' hr=>by simp [builtin,hr])
   ·cases h
 | delete=>
   simp only at h
   split at h
   ·rename_i t tl m k
    obtain⟨v1,l1,rfl,h1,hx⟩:=ba hx
    obtain⟨v2,l2,rfl,h2,hx⟩:=ba hx
    simp only [SV.aq,sW] at hx
    subst hx
    cases hk:k.lit with
    | none=>rw [hk] at h;cases h
    | some kv=>
      rw [hk] at h
      have:=SV.fj e k kv hk
      rw [h2] at this
      simp only [sW] at this
      subst this
      exact b8 (l0 (ts:=⟨t :: tl⟩) (ty:=ty) (by simp) hS h h1) (fun v w' hr=>by simp [builtin,hr])
   ·cases h
 | recover=>
   simp only at h
   split at h
   ·simp only [sW] at h
    subst h
    exact⟨e,w,Env.le_refl e,hS,rfl⟩
   ·cases h
 | _=>cases h
theorem e9{o:Oper}{out:Out}(hS:St K w0 e H nx w)(hE:EvRel e T ev)(h:dN P T H nx o=some out):nT P K w0 e out ((execOp ev o).run P w):=by
 unfold dN at h
 cases hop:o.op with
 | alloc t=>
   rw [hop] at h
   simp only at h
   cases hz:bU P t with
   | none=>rw [hz] at h;cases h
   | some z=>
     rw [hz] at h
     simp only [sW] at h
     subst h
     refine kY hS (cm _) (v:= .pointer (some ⟨w.heap.size,0,none⟩)) (by simp [SV.conc,Env.aJ]) ?_
     simp [execOp,hop,Instr.alloc,cU hz,newVar,newRow]
 | box t x=>
   rw [hop] at h
   simp only at h
   cases hx:aj T x with
   | none=>rw [hx] at h;cases h
   | some s=>
     rw [hx] at h
     simp only [sW] at h
     subst h
     refine kY hS (fB (hE x s hx)) (v:= .pointer (some ⟨w.heap.size,0,none⟩)) (by simp [SV.conc,Env.aJ]) ?_
     simp [execOp,hop,Instr.box,newVar,newRow]
 | store t a x=>
   rw [hop] at h
   simp only at h
   split at h
   ·rename_i b off ha
    obtain⟨y,hy,hv⟩:=cN (hE a _ ha)
    cases hx:aj T x with
    | none=>rw [hx] at h;cases h
    | some s=>
      rw [hx] at h
      simp only at h
      cases hsz:jh P t s.cells.length with
      | false=>rw [hsz] at h;cases h
      | true=>
        rw [hsz] at h
        simp only [cond_true] at h
        cases hst:cg H b off s.cells with
        | none=>rw [hst] at h;cases h
        | some H'=>
          rw [hst] at h
          simp only [sW] at h
          subst h
          have hcs:=fB (hE x s hx)
          have hlen:=bE hcs
          obtain⟨w',k1,k2⟩:=eS (P:=P) hS hst hy hcs
          unfold jh at hsz
          cases hs:aR P t with
          | none=>rw [hs] at hsz;cases hsz
          | some n=>
            rw [hs] at hsz
            have hn:=aC hsz
            refine⟨e,w',Env.le_refl e,k2,?_⟩
            have hcz:(ev x).cells.size=n:=by simp only [Array.length_toList] at hlen;omega
            show(execOp ev o).run P w=_
            simp [execOp,hop,hv,Instr.storeAt,Instr.sureAddr,storeVar,aW hs,hcz,k1]
   ·cases h
 | buildSlice t len parts=>
   rw [hop] at h
   obtain⟨ps,hps,h⟩:=cj h
   have hp:=hE.parts _ _ hps
   exact b8 (gX (qs:=parts.map fun x=>(x.1,ev x.2)) hS h (by simpa using hp)) (fun v w' hr=>by simp [execOp,hop,hr])
 | makeMap t r=>
   rw [hop] at h
   cases r with
   | some r=>cases h
   | none=>
     simp only [sW] at h
     subst h
     have hf:=hS.fresh nx (th _)
     refine ii (o:= .map #[] 0) (x:=⟨w.heap.size,0,0,1,false⟩) (w':={w with heap:=w.heap.push (.map #[] 0)}) (v:= .map (some w.heap.size)) hS rfl rfl rfl rfl rfl rfl rfl ⟨#[],rfl,trivial⟩ (by simp [SV.conc,Env.aJ]) ?_
     simp [execOp,hop,Instr.makeMap]
 | makeSlice t l c=>
   rw [hop] at h
   obtain⟨n,hn,h⟩:=cj h
   obtain⟨m,hm,h⟩:=cj h
   obtain⟨k,hk⟩:=hE.nat hn
   obtain⟨k',hk'⟩:=hE.nat hm
   exact b8 (iJ (k:=k) (k':=k') hS h) (fun v w' hr=>by simp [execOp,hop,hk,hk',hr])
 | slice t x lo hi mx=>
   rw [hop] at h
   cases mx with
   | some mx=>cases h
   | none=>
     obtain⟨s,hs,h⟩:=cj h
     exact b8 (nD hS hE h (hE x s hs)) (fun v w' hr=>by simp [execOp,hop,hr])
 | mapUpdate t m k x=>
   rw [hop] at h
   obtain⟨kv,hk,h⟩:=cj h
   obtain⟨s,hs,h⟩:=cj h
   obtain⟨sm,hsm,h⟩:=cj h
   exact jO (jw hS h (hE x s hs) (hE m sm hsm)) (fun w' hr=>by simp [execOp,hop,hE.lit hk,hr])
 | insert t m k x=>
   rw [hop] at h
   obtain⟨kv,hk,h⟩:=cj h
   obtain⟨s,hs,h⟩:=cj h
   obtain⟨sm,hsm,h⟩:=cj h
   exact jO (jw hS h (hE x s hs) (hE m sm hsm)) (fun w' hr=>by simp [execOp,hop,hE.lit hk,hr])
 | convert s t x=>
   rw [hop] at h
   obtain⟨q,hq,h⟩:=cj h
   exact b8 (kw hS h (hE x q hq)) (fun v w' hr=>by simp [execOp,hop,hr])
 | range t x=>
   rw [hop] at h
   obtain⟨q,hq,h⟩:=cj h
   exact b8 (mQ hS h (hE x q hq)) (fun v w' hr=>by simp [execOp,hop,hr])
 | call c=>
   rw [hop] at h
   simp only at h
   have gen:(bh P T c).map (fun a=>((a,H,nx):Out))=some out→nT P K w0 e out ((execOp ev o).run P w):=by
    intro h
    simp only [s7] at h
    obtain⟨a,ha,rfl⟩:=h
    refine⟨e,w,Env.le_refl e,hS,?_⟩
    have:=iV (ty:=o.type) hE ha w
    simpa [execOp,hop] using this
   cases hc:c.callee with
   | builtin b=>
     rw [hc] at h
     obtain⟨xs,hxs,h⟩:=cj h
     have hargs:=hE.list _ _ hxs
     have:=fun cs=>kz (ty:=o.type) (cs:=cs) (vs:=c.args.map ev) (w:=w) hS h (by simpa using hargs)
     simp only [execOp,hop,resolve,hc,Sem.run_bind,Sem.run_pure,Result.andThen,invoke]
     exact this _
   | value f=>rw [hc] at h;exact gen h
   | invoke r n=>rw [hc] at h;exact gen h
 | defer c=>
   rw [hop] at h
   simp only at h
   cases hc:c.callee with
   | builtin b=>rw [hc] at h;cases h
   | invoke r n=>rw [hc] at h;cases h
   | value f=>
     rw [hc] at h
     simp only at h
     unfold bh at h
     cases hl:cD T c.args.toList with
     | none=>rw [hl] at h;cases h
     | some args=>
       rw [hl] at h
       simp only [hc] at h
       have hargs:=hE.list _ _ hl
       cases hf:aj T f with
       | none=>rw [hf] at h;cases h
       | some s=>
         have hv:=hE f s hf
         rw [hf] at h
         cases ht:bY s with
         | none=>
           exfalso
           cases s <;> simp [ht] at h
         | some q=>
           obtain⟨g,x,y⟩:=q
           obtain⟨xs,ys,hev,hx,hy⟩:=eH ht hv
           have hny: ∀ l,s ≠ .yld l:=by rintro l rfl;simp [bY] at ht
           have h2:(match (bif bu P g then some (ANx.enter g (x ++ args ++ y)) else none:Option ANx)with
            | some (.enter f args)=>some ((.dfr (.call f args),H,nx):Out)
            | _=>none)=some out:=by
            cases s <;> first
             | exact absurd rfl (hny _)
             | (simp only [ht] at h;exact h)
           cases hm:bu P g with
           | false=>rw [hm] at h2;cases h2
           | true=>
             rw [hm] at h2
             simp only [cond_true,sW] at h2
             subst h2
             refine⟨e,w,Env.le_refl e,hS,{target:= .fn (.func g) ys,args:=xs ++ c.args.map ev},⟨_,_,rfl,?_⟩,?_⟩
             ·have:=bm (bm hx hargs) hy
              simpa using this
             ·simp [execOp,hop,resolve,hc,hev,Deferred.ofValue]
 | _=>rw [hop] at h;cases h
end
section
variable {P:Program} {K:Zone} {w0 w:World} {e:Env} {H:ar} {nx:Nat} {T:Tr SV} {ev:Operand→Value}
theorem bN{r:Nat}{o:Obj}(h:w.heap[r]? =some o)(hn: ∀ c t fz,o ≠ .cells c t fz):(getObj r).run P w = .ok o w:=by
 cases o <;> first
  | exact absurd rfl (hn _ _ _)
  | simp [getObj,Sem.run,h]
theorem cw{r:Nat}{o:Obj}(o':Obj)(h:w.heap[r]? =some o)(hn: ∀ c t fz,o ≠ .cells c t fz):(setObj r o').run P w = .ok () {w with heap:=w.heap.setIfInBounds r o'}:=by
 cases o <;> first
  | exact absurd rfl (hn _ _ _)
  | simp [setObj,Sem.run,h]
theorem MRel.filter(f:Nat→Bool): ∀ {l:List (Value×SV×Nat)} {ms:List MapEntry},MRel e l ms→MRel e (l.filter fun x=>f x.2.2) (ms.filter fun m=>f m.born)
 | [],[],_=>trivial
 | (k,s,b) :: l,m :: ms,h=>by
   obtain⟨h1,h2,h3,h4⟩:=h
   simp only [List.filter_cons]
   rw [h2]
   cases hb:f b with
   | true=>simp only [if_true];exact⟨h1,h2,h3,MRel.filter f h4⟩
   | false=>simp only [Bool.false_eq_true,if_false];exact MRel.filter f h4
 | [],_ :: _,h=>h.elim
 | (_,_,_) :: _,[],h=>by simp [MRel] at h
theorem MRel.app: ∀ {l l':List (Value×SV×Nat)} {ms ms':List MapEntry},MRel e l ms→MRel e l' ms'→MRel e (l ++ l') (ms ++ ms')
 | [],l',[],ms',_,h'=>h'
 | (k,s,b) :: l,l',m :: ms,ms',h,h'=>⟨h.1,h.2.1,h.2.2.1,MRel.app h.2.2.2 h'⟩
 | [],_,_ :: _,_,h,_=>h.elim
 | (_,_,_) :: _,_,[],_,h,_=>by simp [MRel] at h
theorem MRel.back: ∀ {l:List (Value×SV×Nat)} {ms:List MapEntry},MRel e l ms→ ∀ {i:Nat} {m:MapEntry},ms[i]? =some m→ ∃ s,l[i]? =some (m.key,s,m.born)∧s.conc e=some m.val
 | [],[],_,i,m,hg=>by simp at hg
 | (k,s,b) :: l,m' :: ms,h,0,m,hg=>by
   simp only [tf,sW] at hg
   subst hg
   exact⟨s,by rw [h.1,h.2.1];rfl,h.2.2.1⟩
 | (k,s,b) :: l,m' :: ms,h,i+1,m,hg=>by simpa using MRel.back h.2.2.2 (i:=i) (by simpa using hg)
 | [],_ :: _,h,_,_,_=>h.elim
 | (_,_,_) :: _,[],h,_,_,_=>by simp [MRel] at h
theorem MRel.all(f:Nat→Bool): ∀ {l:List (Value×SV×Nat)} {ms:List MapEntry},MRel e l ms→(l.all fun x=>f x.2.2)=ms.all fun m=>f m.born
 | [],[],_=>rfl
 | (k,s,b) :: l,m :: ms,h=>by simp only [List.all_cons,h.2.1,MRel.all f h.2.2.2]
 | [],_ :: _,h=>h.elim
 | (_,_,_) :: _,[],h=>by simp [MRel] at h
theorem MRel.empty: ∀ {l:List (Value×SV×Nat)} {ms:List MapEntry},MRel e l ms→l.isEmpty=ms.isEmpty
 | [],[],_=>rfl
 | (k,s,b) :: l,m :: ms,h=>rfl
 | [],_ :: _,h=>h.elim
 | (_,_,_) :: _,[],h=>by simp [MRel] at h
end
noncomputable section
def OpDoes(P:Program)(T:Tr SV)(H:ar)(nx:Nat)(o:Oper)(out:Out):Prop:=
 ∀ K w0 e w ev,St K w0 e H nx w→EvRel e T ev→nT P K w0 e out ((execOp ev o).run P w)
def sT(P:Program)(T:Tr SV)(H:ar)(nx:Nat)(o:Oper)(O:Out→Prop):Prop:=
 ∀ K w0 e w ev,St K w0 e H nx w→EvRel e T ev→ ∃ out,O out∧nT P K w0 e out ((execOp ev o).run P w)
def ReadDoes(P:Program)(T:Tr SV)(H:ar)(o:Oper)(v:SV):Prop:=
 ∀ K w0 e nx w ev,St K w0 e H nx w→EvRel e T ev→ ∃ u,v.conc e=some u∧(execOp ev o).run P w = .ok (.value u) w
structure Rec where
 i:Nat
 o:Oper
 T:Tr SV
 stg:Nat
 chain:Bool
 wanted:Bool
 val:SV
def jN(nt:Nat):List Oper→List Tmp→Bool
 | [],_=>true
 | o :: l,seen=>match o.dst with
   | some d=>Nat.blt d nt && !(seen.contains d) && jN nt l (d :: seen)
   | none=>jN nt l seen
def dB(t:Tmp):List Oper→Nat→Option Nat
 | [],_=>none
 | o :: l,i=>match o.dst with
   | some d=>bif Nat.beq d t then some i else dB t l (i+1)
   | none=>dB t l (i+1)
def qC(ops:List Oper)(o:Oper):List Operand:=match o.guard with
 | none=> []
 | some (j,_)=>match ops[j]? with
   | none=> []
   | some oj=>match oj.dst with
     | some d=> [.tmp d]
     | none=> []
def aM(ops:List Oper)(o:Oper):List Operand:=qC ops o ++ o.op.operands.toList
def jS(acc:List Nat):List Edge→Nat
 | []=>0
 | e :: l=>bif Region.binds .any e then 2 ^ e.on ||| (acc.getD e.on 0 ||| jS acc l) else jS acc l
def bn:List Nat→List Oper→List Nat
 | acc,[]=>acc
 | acc,o :: l=>bn (acc ++ [jS acc o.after.toList]) l
def bI(ops:List Oper)(ancs:List Nat)(i:Nat)(anc:Nat):List Operand→Bool
 | []=>true
 | .tmp t :: l=>(match dB t ops 0 with
   | some j=>anc.testBit j || (ancs.getD j 0).testBit i
   | none=>true) && bI ops ancs i anc l
 | _ :: l=>bI ops ancs i anc l
def cV(i:Nat):List Edge→Bool
 | []=>true
 | e :: l=>(bif Region.binds .any e then Nat.blt e.on i else true) && cV i l
def mY(all:List Oper)(as1:List Nat):List Nat→List Oper→Nat→Bool
 | anc :: ancs,o :: l,i=>cV i o.after.toList && bI all as1 i anc (aM all o) && mY all as1 ancs l (i+1)
 | _,[],_=>true
 | [],_ :: _,_=>false
def fS(nt:Nat)(ops:List Oper):Bool:=
 jN nt ops [] && mY ops (bn [] ops) (bn [] ops) ops 0
def aO(T:Tr SV):List Operand→Tr SV
 | []=> .nil
 | .tmp t :: l=>match T.at' t with
   | some v=>(aO T l).set t v
   | none=>aO T l
 | _ :: l=>aO T l
def cX(anc:Nat):List Nat→Nat
 | []=>0
 | c :: l=>bif anc.testBit c then cX anc l+1 else 0
def bQ(ancs:List Nat)(i:Nat):List Nat→Nat
 | []=>0
 | c :: l=>bif (ancs.getD c 0).testBit i then 0 else bQ ancs i l+1
def dQ(ancs:List Nat):List Nat→Bool
 | a :: b :: l=>(ancs.getD b 0).testBit a && dQ ancs (b :: l)
 | _=>true
structure DS where
 T:Tr SV
 H:ar
 nx:Nat
 recs:List Rec
 Hs:List (ar×Nat)
 stg:Nat
abbrev Pst:=Res→Prop
abbrev Rn:=Option Nat→Bool→FrS→Pst→Prop
def lu(P:Program)(f:FuncId):Option Code:=match P.funcs[f]? with
 | some fn=>fn.body
 | none=>none
def sn(P:Program)(f:FuncId):Nat:=match P.funcs[f]? with
 | some fn=>fn.ntmps
 | none=>0
def ch(P:Program)(f:FuncId):Option (List ResultVar):=match P.funcs[f]? with
 | some fn=>some fn.results.toList
 | none=>none
def Sure(P:Program)(f:FuncId)(v:Value):Prop:= ∀ (w:World) (kd:CallKind) (cs:List Frame),(kd = .normal∨(kd = .deferred∧ ∃ c cs',cs=c :: cs'∧c.mode = .returning)) →
 ∃ w' tmps,Below w.heap.size w w'∧(∃ todo,Steps P (lone (Frame.enter P f #[] kd) cs w) (lone {fn:=f,tmps:=tmps,todo:=todo,defers:= [],mode:= .returning,kind:=kd,roundOf:=none} cs w'))∧ ∃ fn,P.funcs[f]? =some fn∧(results fn tmps).run P w' = .ok v w'
def eM(P:Program)(rn:Rn)(f:FuncId)(args:List SV)(H:ar)(nx:Nat)(Q:Pst):Prop:=
 (args= []∧ ∃ v r,Sure P f v∧Q r∧ ∀ K w0 e w,St K w0 e H nx w→ ∃ e',Env.le e e'∧St K w0 e' r.2.1 r.2.2 w∧r.1.conc e'=some v) ∨
 match lu P f with
 | some c=>rn none false {fn:=f,nt:=max args.length (sn P f),T:=ez .nil 0 args,todo:= [.code c],dfs:= [],hp:=H,nx:=nx} Q
 | none=>False
def g8(rn:Rn)(l:Nat)(args:List SV)(H:ar)(nx:Nat)(Q:Pst):Prop:=
 match H.at' l with
 | some (.loop _ _ fn nt T params assign body _)=>
   Nat.beq params.size args.length=true ∧
    rn (some l) false {fn:=fn,nt:=nt,T:=(params.toList.zip args).foldl (fun T x=>eg nt T (some x.1) x.2) T,todo:= [.code assign,.beginRound,.code body],dfs:= [],hp:=H,nx:=nx} Q
 | _=>False
def dh(P:Program)(rn:Rn)(T:Tr SV)(H:ar)(nx:Nat)(o:Oper)(r:Res):Prop:=
 ∃ out,OpDoes P T H nx o out∧(∀ c,o.op ≠ .defer c)∧match out with
  | (a,H,nx)=>match a with
    | .val v=>r=(v,H,nx)
    | .skip=>r=(cf,H,nx)
    | .enter f args=>eM P rn f args H nx (fun r'=>r'=r)
    | .round l args=>g8 rn l args H nx (fun r'=>r'=r)
    | _=>False
def nQ(P:Program)(rn:Rn)(nt:Nat)(ops:Array Oper)(i:Nat)(o:Oper)(s s':DS):Prop:=
 (ak (aO s.T (aM ops.toList o)) ops o=some false∧s' = {s with T:=eg nt s.T o.dst cf,recs:=⟨i,o,aO s.T (aM ops.toList o),s.stg,false,false,cf⟩ :: s.recs}) ∨
 (ak (aO s.T (aM ops.toList o)) ops o=some true∧(∀ c,o.op ≠ .defer c)∧ ∃ v,ReadDoes P (aO s.T (aM ops.toList o)) s.H o v∧s' = {s with T:=eg nt s.T o.dst v,recs:=⟨i,o,aO s.T (aM ops.toList o),s.stg,false,true,v⟩ :: s.recs}) ∨
 (ak (aO s.T (aM ops.toList o)) ops o=some true∧ ∃ v H nx,dh P rn (aO s.T (aM ops.toList o)) s.H s.nx o (v,H,nx)∧s'=⟨eg nt s.T o.dst v,H,nx,⟨i,o,aO s.T (aM ops.toList o),s.stg,true,true,v⟩ :: s.recs,(H,nx) :: s.Hs,s.stg+1⟩)
inductive DrawRun (P:Program) (rn:Rn) (nt:Nat) (ops:Array Oper):Nat→List Oper→DS→DS→Prop
 | nil (i:Nat) (s:DS):DrawRun P rn nt ops i [] s s
 | cons {i:Nat} {o:Oper} {l:List Oper} {s s1 s':DS}:nQ P rn nt ops i o s s1→DrawRun P rn nt ops (i+1) l s1 s'→DrawRun P rn nt ops i (o :: l) s s'
def eL(s:DS):List Nat:=(s.recs.reverse.filter (·.chain)).map (·.i)
def pc(P:Program)(ops:Array Oper)(s:DS):Prop:=
 ∀ r∈s.recs,r.chain=false→r.wanted=true→ ∀ st,cX ((bn [] ops.toList).getD r.i 0) (eL s)≤st→st≤bQ (bn [] ops.toList) r.i (eL s)→st≠r.stg →
  ∀ H n,s.Hs.reverse[st]? =some (H,n)→ReadDoes P r.T H r.o r.val
def ij(P:Program)(rn:Rn)(ops:Array Oper)(nt:Nat)(T:Tr SV)(H:ar)(nx:Nat)(s:DS):Prop:=
 fS nt ops.toList=true∧DrawRun P rn nt ops 0 ops.toList ⟨T,H,nx,[],[(H,nx)],0⟩ s∧dQ (bn [] ops.toList) (eL s)=true∧pc P ops s
def dc:List SV→SV
 | [v]=>v
 | l=> .tup l
def k8(l:Nat)(jump:Option Code)(H:ar)(nx:Nat)(Q:Pst):Prop:=
 match H.at' l with
 | some (.loop _ _ fn nt T params assign body dr)=>
   Q (.sc (.bool jump.isNone),H.set l (.loop (if jump.isNone then .ready else .done) jump fn nt T params assign body dr),nx)
 | _=>False
def qG(P:Program)(rn:Rn)(s:FrS)(Q:Pst):Prop:=
 match s.dfs with
 | .taken r :: ds=>match s.hp.at' r with
   | some (.dfd (some l))=>rn none true {s with dfs:=l ++ ds,hp:=s.hp.set r (.dfd none)} Q
   | _=>False
 | .call g args :: ds=>bu P g=true∧eM P rn g args s.hp s.nx (fun r=>rn none true {s with dfs:=ds,hp:=r.2.1,nx:=r.2.2} Q)
 | []=>match ch P s.fn with
   | some l=> ∃ vs,ix P s.hp s.T l=some vs∧Q (dc vs,s.hp,s.nx)
   | none=>False
def fK(rn:Rn)(ro:Option Nat)(jump:Option Code)(s:FrS)(Q:Pst):Prop:=
 match ro with
 | none=>match jump with
   | none=>rn none true s Q
   | some .ret=>rn none true s Q
   | _=>False
 | some l=>k8 l jump s.hp s.nx Q
def dX(ro:Option Nat)(H:ar)(nx:Nat):Option (Nat×ar×Nat×List ADf):=
 match ro with
 | none=>some (nx,H.set nx (.dfd (some [])),nx+1,[.taken nx])
 | some l=>match H.at' l with
   | some (.loop _ _ _ _ _ _ _ _ dr)=>some (dr,H,nx,[])
   | _=>none
def l8(P:Program)(rn:Rn)(ro:Option Nat)(s:FrS)(k:List AIt)(c:Code)(Q:Pst):Prop:=
 match c with
 | .ret=>fK rn ro (some .ret) s Q
 | .skip=>rn ro false {s with todo:=k} Q
 | .label _=>rn ro false {s with todo:=k} Q
 | .seq a b=>rn ro false {s with todo:= .code a :: .code b :: k} Q
 | .cond c a b=> ∃ t,aj s.T c=some (.sc (.bool t))∧(t=true→rn ro false {s with todo:= .code a :: k} Q)∧(t=false→rn ro false {s with todo:= .code b :: k} Q)
 | .block id b=>rn ro false {s with todo:= .code b :: .inBlock id :: k} Q
 | .loop b=>rn ro false {s with todo:= .code b :: .inLoop b :: k} Q
 | .scope b=>rn ro false {s with todo:= .code b :: .inScope b :: k} Q
 | .exit id=>match iP id k with
   | some k'=>rn ro false {s with todo:=k'} Q
   | none=>fK rn ro (some (.exit id)) s Q
 | .goto l=>match jD l k with
   | some k'=>rn ro false {s with todo:=k'} Q
   | none=>fK rn ro (some (.goto l)) s Q
 | .refuse _=>False
 | .region _ ops draw=>match draw with
   | false=>rn ro false {s with todo:= .inReg ops 0 ops.toList :: k} Q
   | true=>P.follows .mixedOrders=true∧ ∃ d,ij P rn ops s.nt s.T s.hp s.nx d∧rn ro false {s with todo:=k,T:=d.T,hp:=d.H,nx:=d.nx} Q
 | .rangeFunc fo params assign body=> ∃ dr H nx mark sf g a b,
    dX ro s.hp s.nx=some (dr,H,nx,mark)∧aj s.T fo=some sf∧bY sf=some (g,a,b)∧bu P g=true ∧
     eM P rn g (a ++ [.yld nx] ++ b) (H.set nx (.loop .ready none s.fn s.nt s.T params assign body dr)) (nx+1) (fun r=>rn ro false {s with todo:= .endRange nx :: k,dfs:=mark ++ s.dfs,hp:=r.2.1,nx:=r.2.2} Q)
def outS(P:Program)(rn:Rn)(ro:Option Nat)(s:FrS)(dst:Option Tmp)(k':List AIt)(r:Out)(Q:Pst):Prop:=
 match r with
 | (.val v,H,nx)=>rn ro false {s with T:=eg s.nt s.T dst v,todo:=k',hp:=H,nx:=nx} Q
 | (.skip,H,nx)=>rn ro false {s with T:=eg s.nt s.T dst cf,todo:=k',hp:=H,nx:=nx} Q
 | (.recover,H,nx)=>ro=none∧rn ro false {s with T:=eg s.nt s.T dst (.sc .nilIface),todo:=k',hp:=H,nx:=nx} Q
 | (.dfr d,H,nx)=>ro=none∧rn ro false {s with T:=eg s.nt s.T dst cf,dfs:=d :: s.dfs,todo:=k',hp:=H,nx:=nx} Q
 | (.enter g args,H,nx)=>eM P rn g args H nx (fun r=>rn ro false {s with T:=eg s.nt s.T dst r.1,todo:=k',hp:=r.2.1,nx:=r.2.2} Q)
 | (.round l' args,H,nx)=>g8 rn l' args H nx (fun r=>rn ro false {s with T:=eg s.nt s.T dst r.1,todo:=k',hp:=r.2.1,nx:=r.2.2} Q)
def opS(P:Program)(rn:Rn)(ro:Option Nat)(s:FrS)(k:List AIt)(ops:Array Oper)(i:Nat)(o:Oper)(l:List Oper)(Q:Pst):Prop:=
 (ak s.T ops o=some false∧rn ro false {s with T:=eg s.nt s.T o.dst cf,todo:= .inReg ops (i+1) l :: k} Q) ∨
 (ak s.T ops o=some true∧(ro=none∨ ∀ c,o.op ≠ .defer c)∧sT P s.T s.hp s.nx o (fun out=>outS P rn ro s o.dst (.inReg ops (i+1) l :: k) out Q))
def fR(pend:Option Code)(k:List AIt):List AIt:=match pend with
 | some c=> .code c :: k
 | none=>k
def jg(P:Program)(rn:Rn)(ro:Option Nat)(s:FrS)(Q:Pst):Prop:=
 match s.todo with
 | []=>fK rn ro none s Q
 | it :: k=>match it with
   | .code c=>l8 P rn ro s k c Q
   | .inBlock _=>rn ro false {s with todo:=k} Q
   | .inScope _=>rn ro false {s with todo:=k} Q
   | .inLoop b=>rn ro false {s with todo:= .code b :: .inLoop b :: k} Q
   | .inReg ops i l=>match l with
     | []=>rn ro false {s with todo:=k} Q
     | o :: l=>opS P rn ro s k ops i o l Q
   | .inRange _=>False
   | .endRange l=>match s.hp.at' l with
     | some (.loop st pend fn nt T params assign body dr)=>st ≠ .busy∧rn ro false {s with todo:=fR pend k,hp:=s.hp.set l (.loop .exhausted pend fn nt T params assign body dr)} Q
     | _=>False
   | .beginRound=>match ro with
     | some l=>match s.hp.at' l with
       | some (.loop st pend fn nt T params assign body dr)=>st = .ready∧rn ro false {s with todo:=k,hp:=s.hp.set l (.loop .busy pend fn nt T params assign body dr)} Q
       | _=>False
     | none=>False
end
def IRel(e:Env):AIt→Item→Prop
 | .code c,i=>i = .code c
 | .inBlock id,i=>i = .inBlock id
 | .inLoop b,i=>i = .inLoop b
 | .inScope b,i=>i = .inScope b
 | .inReg ops k l,i=>i = .inRegion ops (List.range' k (ops.size-k))∧l=ops.toList.drop k
 | .inRange l,i=> ∃ x,e l=some x∧i = .inRangeFunc x.blk
 | .endRange l,i=> ∃ x,e l=some x∧i = .endRangeFunc x.blk
 | .beginRound,i=>i = .beginRound
def IsRel(e:Env):List AIt→List Item→Prop
 | [],[]=>True
 | a :: l,i :: m=>IRel e a i∧IsRel e l m
 | _,_=>False
theorem IRel.mono{e e':Env}(h:e.le e'){a:AIt}{i:Item}(hr:IRel e a i):IRel e' a i:=by
 cases a <;> first
  | exact hr
  | (obtain⟨x,hx,hi⟩:=hr;exact⟨x,h _ _ hx,hi⟩)
theorem IsRel.mono{e e':Env}(h:e.le e'): ∀ {l:List AIt} {m:List Item},IsRel e l m→IsRel e' l m
 | [],[],_=>trivial
 | _ :: _,_ :: _,hr=>⟨hr.1.mono h,IsRel.mono h hr.2⟩
 | [],_ :: _,hr=>hr.elim
 | _ :: _,[],hr=>hr.elim
theorem IsRel.cons{e:Env}{a:AIt}{l:List AIt}{m:List Item}(h:IsRel e (a :: l) m): ∃ i m',m=i :: m'∧IRel e a i∧IsRel e l m':=by
 cases m with
 | nil=>exact h.elim
 | cons i m'=>exact⟨i,m',rfl,h.1,h.2⟩
theorem IsRel.nil{e:Env}{m:List Item}(h:IsRel e [] m):m= []:=by
 cases m with
 | nil=>rfl
 | cons i m'=>exact h.elim
theorem lj{e:Env}{id:Nat}: ∀ {l:List AIt} {m:List Item},IsRel e l m→(∀ l',iP id l=some l'→ ∃ m',exitTo id m=some m'∧IsRel e l' m')∧(iP id l=none→exitTo id m=none)
 | [],m,h=>by
   have:=h.nil
   subst this
   exact⟨fun l' hl=>by simp [iP] at hl,fun _=>rfl⟩
 | a :: l,m,h=>by
   obtain⟨i,m',rfl,ha,hl⟩:=h.cons
   have ih:=lj (id:=id) hl
   cases a with
   | inBlock id'=>
     simp only [IRel] at ha
     subst ha
     simp only [iP,exitTo]
     cases hb:Nat.beq id' id with
     | true=>
       have:=aC hb
       subst this
       simp only [cond_true,beq_self_eq_true,if_true]
       exact⟨fun l' hl'=>⟨m',rfl,by simp only [sW] at hl';subst hl';exact hl⟩,fun hn=>by cases hn⟩
     | false=>
       have:(id' == id)=false:=by
        rw [beq_eq_false_iff_ne]
        rintro rfl
        rw [show Nat.beq id' id'=true from Nat.beq_refl id'] at hb
        cases hb
       simp only [cond_false,this,Bool.false_eq_true,if_false]
       exact ih
   | inReg ops k l2=>obtain⟨rfl,_⟩:=ha;exact ih
   | inRange l2=>obtain⟨x,_,rfl⟩:=ha;exact ih
   | endRange l2=>obtain⟨x,_,rfl⟩:=ha;exact ih
   | _=>simp only [IRel] at ha;subst ha;exact ih
theorem ld{e:Env}{id:Nat}: ∀ {l:List AIt} {m:List Item},IsRel e l m→(∀ l',jD id l=some l'→ ∃ m',gotoIn id m=some m'∧IsRel e l' m')∧(jD id l=none→gotoIn id m=none)
 | [],m,h=>by
   have:=h.nil
   subst this
   exact⟨fun l' hl=>by simp [jD] at hl,fun _=>rfl⟩
 | a :: l,m,h=>by
   obtain⟨i,m',rfl,ha,hl⟩:=h.cons
   have ih:=ld (id:=id) hl
   cases a with
   | inScope b=>
     simp only [IRel] at ha
     subst ha
     simp only [jD,gotoIn]
     cases hf:findLabel b id with
     | some rest=>
       simp only
       exact⟨fun l' hl'=>⟨_,rfl,by simp only [sW] at hl';subst hl';exact⟨rfl,rfl,hl⟩⟩,fun hn=>by cases hn⟩
     | none=>exact ih
   | inReg ops k l2=>obtain⟨rfl,_⟩:=ha;exact ih
   | inRange l2=>obtain⟨x,_,rfl⟩:=ha;exact ih
   | endRange l2=>obtain⟨x,_,rfl⟩:=ha;exact ih
   | _=>simp only [IRel] at ha;subst ha;exact ih
structure FRel (e:Env) (s:FrS) (fr:Frame):Prop where
 fn:fr.fn=s.fn
 tmps:TRel e s.nt s.T fr.tmps
 todo:IsRel e s.todo fr.todo
 dfs:DsRel e s.dfs fr.defers
theorem FRel.mono{e e':Env}(h:e.le e'){s:FrS}{fr:Frame}(hr:FRel e s fr):FRel e' s fr:=⟨hr.fn,hr.tmps.mono h,hr.todo.mono h,hr.dfs.mono h⟩
theorem TRel.put{e:Env}{nt:Nat}{T:Tr SV}{tmps:Array Value}(h:TRel e nt T tmps){s:SV}{v:Value}(hv:s.conc e=some v)(d:Tmp):TRel e nt (eg nt T (some d) s) (tmps.setIfInBounds d v):=by
 refine⟨by simpa using h.1,fun t u hu=>?_⟩
 simp only [eg] at hu
 cases hb:Nat.blt d nt with
 | true=>
   rw [hb] at hu
   simp only [cond_true] at hu
   have hlt:=bl hb
   rcases Tr.aT hu with ⟨rfl,rfl⟩|⟨hne,hu⟩
   ·refine⟨v,hv,?_⟩
    rw [s4,Array.getElem?_setIfInBounds_self_of_lt (by rw [h.1];exact hlt)]
    rfl
   ·obtain⟨v',hv',hg⟩:=h.2 t u hu
    refine⟨v',hv',?_⟩
    rw [s4,Array.getElem?_setIfInBounds_ne (Ne.symm hne),←s4]
    exact hg
 | false=>
   rw [hb] at hu
   simp only [cond_false] at hu
   obtain⟨v',hv',hg⟩:=h.2 t u hu
   refine⟨v',hv',?_⟩
   have:tmps.size≤d:=by
    rw [h.1]
    rcases Nat.lt_or_ge d nt with h'|h'
    ·have:Nat.blt d nt=true:=s5 h'
     rw [this] at hb;cases hb
    ·exact h'
   rw [Array.setIfInBounds_eq_of_size_le this]
   exact hg
def er(tmps:Array Value)(dst:Option Tmp)(v:Value):Array Value:=match dst with
 | some d=>tmps.setIfInBounds d v
 | none=>tmps
theorem TRel.putO{e:Env}{nt:Nat}{T:Tr SV}{tmps:Array Value}(h:TRel e nt T tmps){s:SV}{v:Value}(hv:s.conc e=some v)(dst:Option Tmp):TRel e nt (eg nt T dst s) (er tmps dst v):=by
 cases dst with
 | none=>exact h
 | some d=>exact h.put hv d
theorem TRel.fold{e:Env}{nt:Nat}: ∀ {ps:List Tmp} {ss:List SV} {vs:List Value} {T:Tr SV} {tmps:Array Value},SV.aq e ss=some vs→TRel e nt T tmps →
 TRel e nt ((ps.zip ss).foldl (fun T x=>eg nt T (some x.1) x.2) T) ((ps.zip vs).foldl (fun tmps x=>tmps.setIfInBounds x.1 x.2) tmps)
 | [],ss,vs,T,tmps,hc,h=>by simpa using h
 | p :: ps,[],vs,T,tmps,hc,h=>by
   simp only [SV.aq,sW] at hc
   subst hc
   simpa using h
 | p :: ps,s :: ss,vs,T,tmps,hc,h=>by
   obtain⟨v,ws,rfl,hv,hl⟩:=ba hc
   simp only [List.zip_cons_cons,List.foldl_cons]
   exact TRel.fold hl (h.put hv p)
theorem jI: ∀ (l:List SV) (T:Tr SV) (i t:Nat) (s:SV),(ez T i l).at' t=some s→(i≤t∧l[t-i]? =some s)∨T.at' t=some s
 | [],T,i,t,s,h=> .inr h
 | x :: l,T,i,t,s,h=>by
   rcases jI l (T.set i x) (i+1) t s h with ⟨h1,h2⟩|h
   ·refine .inl ⟨by omega,?_⟩
    rw [show t-i=(t-(i+1))+1 by omega]
    simpa using h2
   ·rcases Tr.aT h with ⟨rfl,rfl⟩|⟨_,h⟩
    ·exact .inl ⟨th _,by simp⟩
    ·exact .inr h
theorem nB{e:Env}{args:List SV}{vs:Array Value}(hc:SV.aq e args=some vs.toList)(n:Nat):TRel e (max args.length n) (ez .nil 0 args) (vs ++ Array.replicate (n-vs.size) undef):=by
 have hl:=bE hc
 simp only [Array.length_toList] at hl
 refine⟨by simp only [Array.size_append,Array.size_replicate];omega,fun t s hs=>?_⟩
 rcases jI args .nil 0 t s hs with ⟨_,h⟩|h
 ·obtain⟨v,hv,hg⟩:=cE hc h
  refine⟨v,hv,?_⟩
  simp only [Nat.sub_zero] at hg h
  have hlt:t<vs.size:=by
   have:=(sZ.1 hg).1
   simpa using this
  rw [s4,Array.getElem?_append_left hlt]
  simp only [Array.getElem?_toList] at hg
  rw [hg]
  rfl
 ·rw [Tr.gR] at h;cases h
section
variable {P:Program} {fn:FuncId} {tmps:Array Value} {k:List Item} {ds:List Deferred} {kd:CallKind} {ro:Option Nat} {cs:List Frame} {w:World}
def fr0(fn:FuncId)(tmps:Array Value)(todo:List Item)(ds:List Deferred)(kd:CallKind)(ro:Option Nat):Frame:={fn:=fn,tmps:=tmps,todo:=todo,defers:=ds,mode:= .run,kind:=kd,roundOf:=ro}
theorem pW:step P (lone (fr0 fn tmps (.code .skip :: k) ds kd ro) cs w) = .next (lone (fr0 fn tmps k ds kd ro) cs w):=step_lone_go (by simp [stepG,stepG.exec,fr0])
theorem od{l:Nat}:step P (lone (fr0 fn tmps (.code (.label l) :: k) ds kd ro) cs w) = .next (lone (fr0 fn tmps k ds kd ro) cs w):=step_lone_go (by simp [stepG,stepG.exec,fr0])
theorem lL{l:Nat}:step P (lone (fr0 fn tmps (.inBlock l :: k) ds kd ro) cs w) = .next (lone (fr0 fn tmps k ds kd ro) cs w):=step_lone_go (by simp [stepG,stepG.exec,fr0])
theorem lK{b:Code}:step P (lone (fr0 fn tmps (.inScope b :: k) ds kd ro) cs w) = .next (lone (fr0 fn tmps k ds kd ro) cs w):=step_lone_go (by simp [stepG,stepG.exec,fr0])
theorem rU{a b:Code}:step P (lone (fr0 fn tmps (.code (.seq a b) :: k) ds kd ro) cs w) = .next (lone (fr0 fn tmps (.code a :: .code b :: k) ds kd ro) cs w):=step_lone_go (by simp [stepG,stepG.exec,fr0])
theorem oe{id:Nat}{b:Code}:step P (lone (fr0 fn tmps (.code (.block id b) :: k) ds kd ro) cs w) = .next (lone (fr0 fn tmps (.code b :: .inBlock id :: k) ds kd ro) cs w):=step_lone_go (by simp [stepG,stepG.exec,fr0])
theorem pX{b:Code}:step P (lone (fr0 fn tmps (.code (.loop b) :: k) ds kd ro) cs w) = .next (lone (fr0 fn tmps (.code b :: .inLoop b :: k) ds kd ro) cs w):=step_lone_go (by simp [stepG,stepG.exec,fr0])
theorem mB{b:Code}:step P (lone (fr0 fn tmps (.inLoop b :: k) ds kd ro) cs w) = .next (lone (fr0 fn tmps (.code b :: .inLoop b :: k) ds kd ro) cs w):=step_lone_go (by simp [stepG,stepG.exec,fr0])
theorem oa{b:Code}:step P (lone (fr0 fn tmps (.code (.scope b) :: k) ds kd ro) cs w) = .next (lone (fr0 fn tmps (.code b :: .inScope b :: k) ds kd ro) cs w):=step_lone_go (by simp [stepG,stepG.exec,fr0])
theorem mC{c:Operand}{a b:Code}{t:Bool}(h:(fr0 fn tmps (.code (.cond c a b) :: k) ds kd ro).eval c = .bool t):step P (lone (fr0 fn tmps (.code (.cond c a b) :: k) ds kd ro) cs w) = .next (lone (fr0 fn tmps (.code (if t then a else b) :: k) ds kd ro) cs w):=by
 unfold fr0 at h ⊢
 exact step_lone_go (by simp [stepG,stepG.exec,h])
theorem pZ{id:Nat}{k':List Item}(h:exitTo id k=some k'):step P (lone (fr0 fn tmps (.code (.exit id) :: k) ds kd ro) cs w) = .next (lone (fr0 fn tmps k' ds kd ro) cs w):=step_lone_go (by simp [stepG,stepG.exec,fr0,h])
theorem pY{id:Nat}{k':List Item}(h:gotoIn id k=some k'):step P (lone (fr0 fn tmps (.code (.goto id) :: k) ds kd ro) cs w) = .next (lone (fr0 fn tmps k' ds kd ro) cs w):=step_lone_go (by simp [stepG,stepG.exec,fr0,h])
theorem mA{id:Nat}{ops:Array Oper}:step P (lone (fr0 fn tmps (.code (.region id ops false) :: k) ds kd ro) cs w) = .next (lone (fr0 fn tmps (.inRegion ops (List.range' 0 ops.size) :: k) ds kd ro) cs w):=
 step_lone_go (by simp [stepG,stepG.exec,fr0,List.range_eq_range'])
theorem fH{ops:Array Oper}:step P (lone (fr0 fn tmps (.inRegion ops [] :: k) ds kd ro) cs w) = .next (lone (fr0 fn tmps k ds kd ro) cs w):=step_lone_go (by simp [stepG,stepG.exec,fr0])
theorem p0{id:Nat}{ops:Array Oper}:step P (lone (fr0 fn tmps (.code (.region id ops true) :: k) ds kd ro) cs w) =
 .next (lone (fr0 fn tmps (.inRegion ops (Region.schedule (P.follows .mixedOrders) ops (w.tape w.drawn (.order fn id))) :: k) ds kd ro) cs {w with drawn:=w.drawn+1}):=
 step_lone_go (by simp [stepG,stepG.exec,fr0,choose,Sem.run,Question.forced,Question.cut])
def frL(fn:FuncId)(tmps:Array Value)(todo:List Item)(ds:List Deferred)(kd:CallKind):Frame:={fn:=fn,tmps:=tmps,todo:=todo,defers:=ds,mode:= .returning,kind:=kd,roundOf:=none}
theorem rV:step P (lone (fr0 fn tmps (.code .ret :: k) ds kd none) cs w) = .next (lone (frL fn tmps (.code .ret :: k) ds kd) cs w):=step_lone_go (by simp [stepG,stepG.exec,fr0,frL])
theorem rW:step P (lone (fr0 fn tmps [] ds kd none) cs w) = .next (lone (frL fn tmps [] ds kd) cs w):=step_lone_go (by simp [stepG,stepG.exec,fr0,frL])
def pw(jump:Option Code)(todo:List Item):Prop:=
 (todo= []∧jump=none)∨(∃ k,todo = .code .ret :: k∧jump=some .ret)∨(∃ id k,todo = .code (.exit id) :: k∧exitTo id k=none∧jump=some (.exit id))∨(∃ id k,todo = .code (.goto id) :: k∧gotoIn id k=none∧jump=some (.goto id))
theorem oc{l:Nat}{jump:Option Code}{todo:List Item}{c:Frame}{v:Value}{w':World}(h:pw jump todo)(hr:(Instr.endRound l jump).run P w = .ok v w') :
 step P (lone (fr0 fn tmps todo ds .normal (some l)) (c :: cs) w) = .next (lone (c.finish v) cs w'):=by
 rcases h with ⟨rfl,rfl⟩|⟨k,rfl,rfl⟩|⟨id,k,rfl,hx,rfl⟩|⟨id,k,rfl,hx,rfl⟩
 ·exact step_lone_go (by simp [stepG,stepG.exec,fr0,hr,doReturn])
 ·exact step_lone_go (by simp [stepG,stepG.exec,fr0,hr,doReturn])
 ·exact step_lone_go (by simp [stepG,stepG.exec,fr0,hx,hr,doReturn])
 ·exact step_lone_go (by simp [stepG,stepG.exec,fr0,hx,hr,doReturn])
theorem c6{ops:Array Oper}{i:Nat}{rest:List Nat}{o:Oper}(ho:ops[i]? =some o)(hw:Region.wanted o (yielded ops tmps)=false) :
 step P (lone (fr0 fn tmps (.inRegion ops (i :: rest) :: k) ds kd ro) cs w) = .next (lone (fr0 fn (er tmps o.dst undef) (.inRegion ops rest :: k) ds kd ro) cs w):=by
 refine step_lone_go ?_
 simp only [fr0,stepG,stepG.exec,ho,tu,Option.getD_some,hw,Bool.false_eq_true,if_false,GStep.bare_go,Frame.finish,tv]
 cases o.dst <;> rfl
theorem dT{ops:Array Oper}{i:Nat}{rest:List Nat}{o:Oper}(ho:ops[i]? =some o)(hw:Region.wanted o (yielded ops tmps)=true)(hd:ro=none∨ ∀ c,o.op ≠ .defer c) :
 stepG P true {frame:=fr0 fn tmps (.inRegion ops (i :: rest) :: k) ds kd ro,callers:=cs,status:= .running,dying:=none} w =
  stepG.apply P true (fr0 fn tmps (.inRegion ops (i :: rest) :: k) ds kd ro) cs none (execOp (fr0 fn tmps (.inRegion ops (i :: rest) :: k) ds kd ro).eval o) w:=by
 simp only [fr0,stepG,stepG.exec,ho,tu,Option.getD_some,hw,if_true,stepG.oper,Frame.oper?]
 rcases hd with rfl|hd
 ·rfl
 ·cases ro with
  | none=>rfl
  | some l=>
    cases hop:o.op <;> first
     | exact absurd hop (hd _)
     | rfl
theorem cl{ops:Array Oper}{i:Nat}{rest:List Nat}{o:Oper}(ho:ops[i]? =some o)(v:Value) :
 (fr0 fn tmps (.inRegion ops (i :: rest) :: k) ds kd ro).finish v=fr0 fn (er tmps o.dst v) (.inRegion ops rest :: k) ds kd ro:=by
 simp only [fr0,Frame.finish,ho,tv]
 cases o.dst <;> rfl
end
section
variable (P:Program) (K:Zone) (w0:World)
def RetOK(fr:Frame)(cs:List Frame)(w:World)(v:Value)(w':World):Prop:=
 ∃ tmps todo,Steps P (lone fr cs w) (lone (frL fr.fn tmps todo [] fr.kind) cs w')∧ ∃ fn,P.funcs[fr.fn]? =some fn∧(results fn tmps).run P w' = .ok v w'
def FrOK(e:Env)(ro:Option Nat)(fr:Frame)(cs:List Frame)(w:World)(outs:Pst):Prop:=
 ∃ r,outs r∧ ∃ e' w' v,e.le e'∧St K w0 e' r.2.1 r.2.2 w'∧r.1.conc e'=some v ∧
  match ro with
  | none=>RetOK P fr cs w v w'
  | some _=> ∃ c cs',cs=c :: cs'∧Steps P (lone fr cs w) (lone (c.finish v) cs' w')
def Ctx(e:Env)(ro:Option Nat)(kd:CallKind)(rof:Option Nat)(cs:List Frame):Prop:=
 match ro with
 | none=>rof=none∧(kd = .normal∨(kd = .deferred∧ ∃ c cs',cs=c :: cs'∧c.mode = .returning))
 | some l=> ∃ x,e l=some x∧rof=some x.blk∧kd = .normal∧ ∃ c cs',cs=c :: cs'
def dD(rn:Rn):Prop:=
 ∀ ro s outs,rn ro false s outs→ ∀ e w tmps todo ds kd rof cs,St K w0 e s.hp s.nx w→TRel e s.nt s.T tmps→IsRel e s.todo todo→DsRel e s.dfs ds→Ctx e ro kd rof cs →
  FrOK P K w0 e ro (fr0 s.fn tmps todo ds kd rof) cs w outs
def gS(rn:Rn):Prop:=
 ∀ s outs,rn none true s outs→ ∀ e w tmps todo ds kd cs,St K w0 e s.hp s.nx w→TRel e s.nt s.T tmps→DsRel e s.dfs ds→Ctx e none kd none cs →
  FrOK P K w0 e none (frL s.fn tmps todo ds kd) cs w outs
end
section
variable {P:Program} {K:Zone} {w0 w:World} {e:Env} {H:ar} {nx:Nat} {rn:Rn}
theorem Ctx.mono{e e':Env}(h:e.le e'){ro:Option Nat}{kd:CallKind}{rof:Option Nat}{cs:List Frame}(hc:Ctx e ro kd rof cs):Ctx e' ro kd rof cs:=by
 cases ro with
 | none=>exact hc
 | some l=>obtain⟨x,hx,h1⟩:=hc;exact⟨x,h _ _ hx,h1⟩
theorem FrOK.pre{e1:Env}{ro:Option Nat}{fr fr1:Frame}{cs:List Frame}{w1:World}{outs outs1:Pst}(hs:Steps P (lone fr cs w) (lone fr1 cs w1))(he:e.le e1)(h:FrOK P K w0 e1 ro fr1 cs w1 outs1)
 (hfn:fr1.fn=fr.fn) (hk:fr1.kind=fr.kind) (hsub: ∀ r,outs1 r→outs r):FrOK P K w0 e ro fr cs w outs:=by
 obtain⟨r,hr,e',w',v,h1,h2,h3,h4⟩:=h
 refine⟨r,hsub r hr,e',w',v,Env.le_trans he h1,h2,h3,?_⟩
 cases ro with
 | none=>
   obtain⟨tmps,todo,g1,fn,g2,g3⟩:=h4
   rw [hfn,hk] at g1
   rw [hfn] at g2
   exact⟨tmps,todo,hs.trans g1,fn,g2,g3⟩
 | some l=>
   obtain⟨c,cs',hc,g1⟩:=h4
   exact⟨c,cs',hc,hs.trans g1⟩
theorem fh(hrn:dD P K w0 rn){g:FuncId}{args:List SV}{vs:Array Value}{outs:Pst}(h:eM P rn g args H nx outs)(hS:St K w0 e H nx w)(hargs:SV.aq e args=some vs.toList)
 {kd:CallKind} {cs:List Frame} (hc:Ctx e none kd none cs):FrOK P K w0 e none (Frame.enter P g vs kd) cs w outs:=by
 unfold eM lu at h
 rcases h with ⟨rfl,v,r,hsure,hq,hsem⟩|h
 ·have hvs:vs = #[]:=by
   have:some []=some vs.toList:=hargs
   simp only [sW] at this
   exact(Array.toList_inj (xs:=vs) (ys:= #[])).1 this.symm
  subst hvs
  obtain⟨w',tmps,hb,⟨todo,hst⟩,fn,hfn,hres⟩:=hsure w kd cs hc.2
  obtain⟨e',h1,h2,h3⟩:=hsem K w0 e w' (hS.kept hb)
  exact⟨r,hq,e',w',v,h1,h2,h3,tmps,todo,hst,fn,hfn,hres⟩
 cases hf:P.funcs[g]? with
 | none=>rw [hf] at h;cases h
 | some fn=>
   rw [hf] at h
   simp only at h
   cases hb:fn.body with
   | none=>rw [hb] at h;cases h
   | some c=>
     rw [hb] at h
     simp only at h
     have:=hrn _ _ _ h e w (vs ++ Array.replicate (fn.ntmps-vs.size) undef) [.code c] [] kd none cs hS
      (by simp only [sn,hf];exact nB hargs fn.ntmps) ⟨rfl,trivial⟩ trivial hc
     have he:Frame.enter P g vs kd=fr0 g (vs ++ Array.replicate (fn.ntmps-vs.size) undef) [.code c] [] kd none:=by
      simp [Frame.enter,fr0,hf,hb]
     rw [he]
     exact this
theorem gL{g:FuncId}{vs:Array Value}{fr:Frame}{cs:List Frame}{outs:Pst}(h:FrOK P K w0 e none (Frame.enter P g vs .normal) (fr :: cs) w outs) :
 ∃ r,outs r∧ ∃ e' w' v,e.le e'∧St K w0 e' r.2.1 r.2.2 w'∧r.1.conc e'=some v∧Steps P (lone (Frame.enter P g vs .normal) (fr :: cs) w) (lone (fr.finish v) cs w'):=by
 obtain⟨r,hr,e',w',v,h1,h2,h3,tmps,todo,g1,fn,g2,g3⟩:=h
 refine⟨r,hr,e',w',v,h1,h2,h3,g1.trans (.one (step_leave_returned ⟨rfl,rfl,rfl,fn,g2,g3⟩))⟩
theorem iR{g:FuncId}{vs:Array Value}{fr:Frame}{cs:List Frame}{outs:Pst}(hm:fr.mode = .returning)(h:FrOK P K w0 e none (Frame.enter P g vs .deferred) (fr :: cs) w outs) :
 ∃ r,outs r∧ ∃ e' w',e.le e'∧St K w0 e' r.2.1 r.2.2 w'∧Steps P (lone (Frame.enter P g vs .deferred) (fr :: cs) w) (lone fr cs w'):=by
 obtain⟨r,hr,e',w',v,h1,h2,h3,tmps,todo,g1,fn,g2,g3⟩:=h
 refine⟨r,hr,e',w',h1,h2,g1.trans (.one (step_lone_go ?_))⟩
 have hk:(Frame.enter P g vs .deferred).kind = .deferred:=rfl
 have hfn:(Frame.enter P g vs .deferred).fn=g:=rfl
 rw [hfn] at g2
 simp [stepG,unwind,doReturn,frL,hfn,g2,g3,hk,hm]
theorem dO{l:Nat}{st:LoopState}{pend:Option Code}{fn:FuncId}{nt:Nat}{T:Tr SV}{params:Array Tmp}{assign body:Code}{dr:Nat}{x:Ent}(hS:St K w0 e H nx w)(hl:H.at' l=some (.loop st pend fn nt T params assign body dr))(hx:e l=some x) :
 ∃ tmps y,e dr=some y∧TRel e nt T tmps∧w.heap[x.blk]? =some (.loop {state:=st,pending:=pend,fn:=fn,tmps:=tmps,params:=params,assign:=assign,body:=body,defers:=y.blk}):=by
 obtain⟨hxn,o,_,hw,ho⟩:=hS.at hl hx (by simp)
 obtain⟨tmps,y,h1,h2,rfl⟩:=ho
 exact⟨tmps,y,h1,h2,hw⟩
theorem jl(hrn:dD P K w0 rn){l:Nat}{args:List SV}{vs:List Value}{outs:Pst}{x:Ent}(h:g8 rn l args H nx outs)(hS:St K w0 e H nx w)(hargs:SV.aq e args=some vs)(hx:e l=some x) :
 ∃ fn tmps assign body,(Instr.yield x.blk vs.toArray).run P w = .ok (.round x.blk fn tmps assign body) w∧ ∀ (fr:Frame) (cs:List Frame),
  ∃ r,outs r∧ ∃ e' w' v,e.le e'∧St K w0 e' r.2.1 r.2.2 w'∧r.1.conc e'=some v∧Steps P (lone (Frame.round x.blk fn tmps assign body .normal) (fr :: cs) w) (lone (fr.finish v) cs w'):=by
 unfold g8 at h
 split at h
 ·rename_i st pend fn nt T params assign body dr hl
  obtain⟨tmps,y,hy,hT,hw⟩:=dO hS hl hx
  ·obtain⟨hb,h⟩:=h
   have hsz:=aC hb
   have hlen:=bE hargs
   refine⟨fn,(params.zip vs.toArray).foldl (fun tmps (t,a)=>tmps.setIfInBounds t a) tmps,assign,body,?_,fun fr cs=>?_⟩
   ·have hg:=bN (P:=P) hw (by simp)
    have hne: ¬ (vs.toArray.size≠params.size):=by simp;omega
    simp only [Instr.yield,Instr.getLoop,Sem.run_bind,hg,Result.andThen,Sem.run_pure]
    rw [if_neg hne]
    rfl
   ·have hfold:(params.zip vs.toArray).foldl (fun tmps (t,a)=>tmps.setIfInBounds t a) tmps=(params.toList.zip vs).foldl (fun tmps x=>tmps.setIfInBounds x.1 x.2) tmps:=by
     rw [← Array.foldl_toList]
     simp
    have:=hrn _ _ _ h e w _ [.code assign,.beginRound,.code body] [] .normal (some x.blk) (fr :: cs) hS (hT.fold hargs) ⟨rfl,rfl,rfl,trivial⟩ trivial ⟨x,hx,rfl,rfl,fr,cs,rfl⟩
    obtain⟨r,hr,e',w',v,h1,h2,h3,c,cs',hc,g⟩:=this
    simp only [List.cons.injEq] at hc
    obtain⟨rfl,rfl⟩:=hc
    refine⟨r,hr,e',w',v,h1,h2,h3,?_⟩
    rw [hfold]
    exact g
 ·cases h
end
section
variable {P:Program} {K:Zone} {w0 w:World} {e:Env} {H:ar} {nx:Nat} {rn:Rn}
def nR(P:Program)(K:Zone)(w0:World)(rn:Rn):Prop:=
 P.follows .mixedOrders=true→ ∀ ops nt T H nx d,ij P rn ops nt T H nx d→ ∀ e w tmps,St K w0 e H nx w→TRel e nt T tmps→ ∀ (t fn:Nat) (k:List Item) (ds:List Deferred) (kd:CallKind) (rof:Option Nat) (cs:List Frame),
  ∃ e' w' tmps',e.le e'∧St K w0 e' d.H d.nx w'∧TRel e' nt d.T tmps' ∧
   Steps P (lone (fr0 fn tmps (.inRegion ops (Region.schedule (P.follows .mixedOrders) ops t) :: k) ds kd rof) cs w) (lone (fr0 fn tmps' (.inRegion ops [] :: k) ds kd rof) cs w')
def rvF(tmps:Array Value):ResultVar→Sem Value
 | .tmp t=>pure (tmps.getD t undef)
 | .cell a t=>do loadVar t (← asAddr (tmps.getD a undef))
theorem lO(fn:Func)(tmps:Array Value):results fn tmps=(do
 let vs←fn.results.mapM (rvF tmps)
 pure (if h:vs.size=1 then vs[0] else .tuple vs)):=rfl
theorem kb(hS:St K w0 e H nx w){nt:Nat}{T:Tr SV}{tmps:Array Value}(hT:TRel e nt T tmps): ∀ (l:List ResultVar) (ss:List SV),ix P H T l=some ss →
 ∃ vs,SV.aq e ss=some vs∧(l.mapM (rvF tmps)).run P w = .ok vs w
 | [],ss,h=>by
   simp only [ix,sW] at h
   subst h
   exact⟨[],rfl,by simp⟩
 | .tmp t :: l,ss,h=>by
   simp only [ix] at h
   cases ht:T.at' t with
   | none=>rw [ht] at h;cases h
   | some s=>
     rw [ht] at h
     simp only at h
     cases hl:ix P H T l with
     | none=>rw [hl] at h;cases h
     | some r=>
       rw [hl] at h
       simp only [sW] at h
       subst h
       obtain⟨v,hv,hg⟩:=hT.2 t s ht
       obtain⟨vs,h1,h2⟩:=kb hS hT l r hl
       refine⟨v :: vs,aY hv h1,?_⟩
       rw [List.mapM_cons]
       have h0:(rvF tmps (.tmp t)).run P w = .ok v w:=by show(pure (tmps.getD t undef):Sem Value).run P w=_;rw [hg];rfl
       simp only [Sem.run_bind,h0,Result.andThen,h2,Sem.run_pure]
 | .cell a t :: l,ss,h=>by
   simp only [ix] at h
   split at h
   ·rename_i b o ha
    obtain⟨v0,hv0,hg⟩:=hT.2 a _ ha
    obtain⟨x,hx,rfl⟩:=cN hv0
    have key: ∀ s,iK P H t b o=some s→ ∃ u,s.conc e=some u∧(rvF tmps (.cell a t)).run P w = .ok u w:=by
     intro s hs
     obtain⟨u,hu,hr⟩:=k7 (P:=P) hS hs hx
     exact⟨u,hu,by show(do loadVar t (← asAddr (tmps.getD a undef)):Sem Value).run P w=_;rw [hg];simp [asAddr,hr]⟩
    have fin: ∀ s r,iK P H t b o=some s→ix P H T l=some r→ss=s :: r→ ∃ vs,SV.aq e ss=some vs∧((ResultVar.cell a t :: l).mapM (rvF tmps)).run P w = .ok vs w:=by
     intro s r hs hr hss
     subst hss
     obtain⟨u,hu,hru⟩:=key s hs
     obtain⟨vs,h1,h2⟩:=kb hS hT l r hr
     refine⟨u :: vs,aY hu h1,?_⟩
     rw [List.mapM_cons]
     simp only [Sem.run_bind,hru,Result.andThen,h2,Sem.run_pure]
    cases hb:H.at' b with
    | none=>rw [hb] at h;cases h
    | some vo=>
      rw [hb] at h
      cases hag:bA P t with
      | none=>rw [hag] at h;cases h
      | some q=>
        rw [hag] at h
        cases q with
        | none=>
          simp only at h
          cases hc:vo.cell o with
          | none=>rw [hc] at h;cases h
          | some s=>
            cases hl:ix P H T l with
            | none=>rw [hc,hl] at h;cases h
            | some r=>
              rw [hc,hl] at h
              simp only [sW] at h
              exact fin s r (by simp [iK,hb,hag,hc]) hl h.symm
        | some n=>
          simp only at h
          cases hc:vo.cellsFrom o n with
          | none=>rw [hc] at h;cases h
          | some s=>
            cases hl:ix P H T l with
            | none=>rw [hc,hl] at h;cases h
            | some r=>
              rw [hc,hl] at h
              simp only [sW] at h
              exact fin (.agg s) r (by simp [iK,hb,hag,hc]) hl h.symm
   ·cases h
theorem lJ{ss:List SV}{vs:List Value}(h:SV.aq e ss=some vs):(dc ss).conc e=some (if h:vs.length=1 then vs[0]'(by omega) else .tuple vs.toArray):=by
 have hl:=bE h
 match ss,h with
 | [],h=>simp only [SV.aq,sW] at h;subst h;rfl
 | [s],h=>
   obtain⟨v,ws,rfl,hv,hw⟩:=ba h
   simp only [SV.aq,sW] at hw
   subst hw
   exact hv
 | s1 :: s2 :: ss,h=>
   have: ¬ (vs.length=1):=by rw [hl];simp
   rw [dif_neg this]
   simp [dc,SV.conc,h]
theorem qF(hr:dD P K w0 rn)(hL:gS P K w0 rn){s:FrS}{outs:Pst}(h:qG P rn s outs){tmps:Array Value}{todo:List Item}{ds:List Deferred}{kd:CallKind}{cs:List Frame}
 (hS:St K w0 e s.hp s.nx w) (hT:TRel e s.nt s.T tmps) (hd:DsRel e s.dfs ds) (hc:Ctx e none kd none cs):FrOK P K w0 e none (frL s.fn tmps todo ds kd) cs w outs:=by
 unfold qG at h
 cases hdf:s.dfs with
 | nil=>
   rw [hdf] at h hd
   have:ds= []:=by
    cases ds with
    | nil=>rfl
    | cons _ _=>exact hd.elim
   subst this
   simp only at h
   unfold ch at h
   cases hf:P.funcs[s.fn]? with
   | none=>rw [hf] at h;cases h
   | some fn=>
     rw [hf] at h
     simp only at h
     obtain⟨vs,hres,h⟩:=h
     ·obtain⟨us,h1,h2⟩:=kb (P:=P) hS hT _ _ hres
      refine⟨_,h,e,w,_,Env.le_refl e,hS,lJ h1,tmps,todo,.refl P _,fn,hf,?_⟩
      rw [lO]
      have hm:(fn.results.mapM (rvF tmps)).run P w = .ok us.toArray w:=by
       have ha:fn.results=fn.results.toList.toArray:=by simp
       rw [ha,List.mapM_toArray]
       simp only [Sem.run_map,h2]
       rfl
      simp only [Sem.run_bind,hm,Result.andThen,Sem.run_pure]
      simp
 | cons a l=>
   rw [hdf] at h hd
   cases ds with
   | nil=>exact hd.elim
   | cons d ds'=>
     obtain⟨hda,hdl⟩:=hd
     cases a with
     | taken r=>
       obtain⟨x,hx,rfl⟩:=hda
       simp only at h
       split at h
       ·rename_i l2 hr2
        obtain⟨hxn,o,_,hw,ho⟩:=hS.at hr2 hx (by simp)
        obtain⟨ds2,rfl,hds2⟩:=ho
        have hg:=bN (P:=P) hw (by simp)
        have hset:=cw (P:=P) (.deferred none) hw (by simp)
        have hS':=hS.upd (vo':= .dfd none) (o':= .deferred none) hr2 hx hxn rfl rfl (bq x.blk _) (br hw) rfl
        have:=hL _ _ h e _ tmps todo (ds2 ++ ds') kd cs hS' hT (hds2.append hdl) hc
        refine this.pre (.one (step_lone_go ?_)) (Env.le_refl e) rfl rfl (fun _ hr=>hr)
        simp [stepG,unwind,frL,Instr.takeDeferred,hg,hset]
       ·cases h
     | call g args=>
       obtain⟨av,cap,rfl,hargs⟩:=hda
       simp only at h
       obtain⟨hm,hcall⟩:=h
       ··have hvs:SV.aq e args=some (av ++ cap).toList:=by simpa using hargs
         obtain⟨r,hr1,e',w',h1,h2,h3⟩:=iR (fr:=frL s.fn tmps todo ds' kd) rfl (fh hr hcall hS hvs (kd:= .deferred) (cs:=frL s.fn tmps todo ds' kd :: cs) ⟨rfl,.inr ⟨rfl,_,_,rfl,rfl⟩⟩)
         have:=hL _ _ hr1 e' w' tmps todo ds' kd cs h2 (hT.mono h1) (hdl.mono h1) (hc.mono h1)
         refine this.pre (.head (step_lone_go ?_) h3) h1 rfl rfl (fun _ hr=>hr)
         have hinv:(invoke (.fn (.func g) cap) av).run P w = .ok (.enter g (av ++ cap)) w:=c9 hm w
         simp [stepG,unwind,frL,callDeferred,hinv]
end
section
variable {P:Program} {K:Zone} {w0 w:World} {e:Env} {H:ar} {nx:Nat} {rn:Rn}
theorem cP{nt:Nat}{T:Tr SV}{tmps:Array Value}{ops:Array Oper}{o:Oper}{b:Bool}(h:ak T ops o=some b)(hT:TRel e nt T tmps):Region.wanted o (yielded ops tmps)=b:=by
 unfold ak at h
 unfold Region.wanted
 cases hg:o.guard with
 | none=>rw [hg] at h;simpa using h
 | some q=>
   obtain⟨j,want⟩:=q
   rw [hg] at h
   simp only at h ⊢
   cases hj:ops[j]? with
   | none=>
     rw [hj] at h
     simp only [sW] at h
     subst h
     simp [yielded,hj]
   | some oj=>
     rw [hj] at h
     simp only at h
     cases hd:oj.dst with
     | none=>
       rw [hd] at h
       simp only [sW] at h
       subst h
       simp [yielded,hj,hd]
     | some d=>
       rw [hd] at h
       simp only at h
       split at h
       ·rename_i t ht
        obtain⟨v,hv,hg2⟩:=hT.2 d _ ht
        simp only [SV.conc,sW] at hv
        subst hv
        simp only [sW] at h
        subst h
        have:tmps[d]? =some (.bool t):=by
         rw [s4] at hg2
         cases ht2:tmps[d]? with
         | none=>rw [ht2] at hg2;cases hg2
         | some v=>rw [ht2] at hg2;simpa using hg2
        simp [yielded,hj,hd,this]
       ·rename_i vs ht
        obtain⟨v,hv,hg2⟩:=hT.2 d _ ht
        simp only [SV.conc,sW] at hv
        subst hv
        simp only [sW] at h
        subst h
        have:yielded ops tmps j=none:=by
         rw [s4] at hg2
         cases ht2:tmps[d]? with
         | none=>simp [yielded,hj,hd,ht2]
         | some v=>rw [ht2] at hg2;simp only [Option.getD_some] at hg2;subst hg2;simp [yielded,hj,hd,ht2]
        simp [this]
       ·cases h
theorem ks{l:Nat}{st:LoopState}{pend:Option Code}{fn:FuncId}{nt:Nat}{T:Tr SV}{params:Array Tmp}{assign body:Code}{dr:Nat}{x:Ent}(hS:St K w0 e H nx w)(hl:H.at' l=some (.loop st pend fn nt T params assign body dr))(hx:e l=some x):x.nil=false:=
 (hS.at hl hx (by simp)).1
theorem e6(hL:gS P K w0 rn){ro:Option Nat}{jump:Option Code}{s:FrS}{outs:Pst}(h:fK rn ro jump s outs){tmps:Array Value}{todo:List Item}{ds:List Deferred}{kd:CallKind}{rof:Option Nat}{cs:List Frame}
 (hl:pw jump todo) (hS:St K w0 e s.hp s.nx w) (hT:TRel e s.nt s.T tmps) (hd:DsRel e s.dfs ds) (hc:Ctx e ro kd rof cs):FrOK P K w0 e ro (fr0 s.fn tmps todo ds kd rof) cs w outs:=by
 cases ro with
 | none=>
   obtain⟨rfl,hk⟩:=hc
   rcases hl with ⟨rfl,rfl⟩|⟨k,rfl,rfl⟩|⟨id,k,rfl,hx,rfl⟩|⟨id,k,rfl,hx,rfl⟩
   ·exact(hL _ _ h e w tmps [] ds kd cs hS hT hd ⟨rfl,hk⟩).pre (.one rW) (Env.le_refl e) rfl rfl (fun _ hr=>hr)
   ·exact(hL _ _ h e w tmps _ ds kd cs hS hT hd ⟨rfl,hk⟩).pre (.one rV) (Env.le_refl e) rfl rfl (fun _ hr=>hr)
   ·cases h
   ·cases h
 | some l=>
   obtain⟨x,hx,rfl,rfl,c,cs',rfl⟩:=hc
   simp only [fK,k8] at h
   split at h
   ·rename_i st pend fn nt T params assign body dr hlp
    obtain⟨tm,y,hy,hTm,hw⟩:=dO hS hlp hx
    have hg:=bN (P:=P) hw (by simp)
    have hset:=fun o'=>cw (P:=P) o' hw (by simp)
    have hS':=hS.upd (vo':= .loop (if jump.isNone then .ready else .done) jump fn nt T params assign body dr)
     (o':= .loop {state:=if jump.isNone then .ready else .done,pending:=jump,fn:=fn,tmps:=tm,params:=params,assign:=assign,body:=body,defers:=y.blk}) hlp hx (ks hS hlp hx) rfl rfl (bq x.blk _) (br hw) ⟨tm,y,hy,hTm,rfl⟩
    refine⟨_,h,e,_,.bool jump.isNone,Env.le_refl e,hS',rfl,c,cs',rfl,.one (oc hl ?_)⟩
    simp only [Instr.endRound,Instr.getLoop,Sem.run_bind,hg,Result.andThen,Sem.run_pure,hset]
   ·cases h
theorem jJ{ro:Option Nat}{dr nx1:Nat}{H1:ar}{mark:List ADf}{kd:CallKind}{rof:Option Nat}{cs:List Frame}(h:dX ro H nx=some (dr,H1,nx1,mark))(hS:St K w0 e H nx w)(hc:Ctx e ro kd rof cs)
 {nt:Nat} {T:Tr SV} {tmps:Array Value} (hT:TRel e nt T tmps) (fn:FuncId) (params:Array Tmp) (assign body:Code) :
 ∃ e' w' x mk,e.le e'∧St K w0 e' (H1.set nx1 (.loop .ready none fn nt T params assign body dr)) (nx1+1) w'∧e' nx1=some x∧DsRel e' mark mk∧(Instr.enterLoop fn tmps params assign body rof).run P w = .ok (x.blk,mk) w':=by
 cases ro with
 | none=>
   obtain⟨rfl,_⟩:=hc
   simp only [dX,sW,s6] at h
   obtain⟨rfl,rfl,rfl,rfl⟩:=h
   have hf:=hS.fresh nx (th _)
   have hS1:=hS.new (vo:= .dfd (some [])) (x:=⟨w.heap.size,0,0,1,false⟩) (o:= .deferred (some [])) (w':={w with heap:=w.heap.push (.deferred (some []))}) rfl rfl rfl rfl rfl rfl rfl ⟨[],rfl,trivial⟩
   have hf1:=hS1.fresh (nx+1) (th _)
   have hle1:=Env.bB (x:=⟨w.heap.size,0,0,1,false⟩) hf
   have hle2:=Env.bB (x:=⟨w.heap.size+1,0,0,1,false⟩) hf1
   have hdr:((e.put nx ⟨w.heap.size,0,0,1,false⟩).put (nx+1) ⟨w.heap.size+1,0,0,1,false⟩) nx=some ⟨w.heap.size,0,0,1,false⟩:=hle2 _ _ (Env.aJ _ _ _)
   have hS2:=hS1.new (vo:= .loop .ready none fn nt T params assign body nx) (x:=⟨w.heap.size+1,0,0,1,false⟩)
    (o:= .loop {state:= .ready,pending:=none,fn:=fn,tmps:=tmps,params:=params,assign:=assign,body:=body,defers:=w.heap.size})
    (w':={w with heap:=(w.heap.push (.deferred (some []))).push (.loop {state:= .ready,pending:=none,fn:=fn,tmps:=tmps,params:=params,assign:=assign,body:=body,defers:=w.heap.size})})
    (by simp) rfl rfl rfl rfl rfl rfl ⟨tmps,⟨w.heap.size,0,0,1,false⟩,hdr,hT.mono (Env.le_trans hle1 hle2),rfl⟩
   refine⟨_,_,⟨w.heap.size+1,0,0,1,false⟩,[{target:= .collected w.heap.size,args:= #[]}],Env.le_trans hle1 hle2,hS2,Env.aJ _ _ _,⟨⟨⟨w.heap.size,0,0,1,false⟩,hdr,rfl⟩,trivial⟩,?_⟩
   simp [Instr.enterLoop]
   rfl
 | some l=>
   obtain⟨x,hx,rfl,_⟩:=hc
   simp only [dX] at h
   split at h
   ·rename_i st pend fn2 nt2 T2 params2 assign2 body2 dr2 hlp
    simp only [sW,s6] at h
    obtain⟨rfl,rfl,rfl,rfl⟩:=h
    obtain⟨tm,y,hy,hTm,hw⟩:=dO hS hlp hx
    have hg:=bN (P:=P) hw (by simp)
    have hf:=hS.fresh nx (th _)
    have hle1:=Env.bB (x:=⟨w.heap.size,0,0,1,false⟩) hf
    have hS1:=hS.new (vo:= .loop .ready none fn nt T params assign body dr2) (x:=⟨w.heap.size,0,0,1,false⟩)
     (o:= .loop {state:= .ready,pending:=none,fn:=fn,tmps:=tmps,params:=params,assign:=assign,body:=body,defers:=y.blk})
     (w':={w with heap:=w.heap.push (.loop {state:= .ready,pending:=none,fn:=fn,tmps:=tmps,params:=params,assign:=assign,body:=body,defers:=y.blk})})
     rfl rfl rfl rfl rfl rfl rfl ⟨tmps,y,hle1 _ _ hy,hT.mono hle1,rfl⟩
    refine⟨_,_,⟨w.heap.size,0,0,1,false⟩,[],hle1,hS1,Env.aJ _ _ _,trivial,?_⟩
    simp [Instr.enterLoop,Instr.getLoop,hg]
   ·cases h
theorem oY(hr:dD P K w0 rn)(hL:gS P K w0 rn)(hD:nR P K w0 rn){ro:Option Nat}{s:FrS}{k:List AIt}{c:Code}{outs:Pst}(h:l8 P rn ro s k c outs){tmps:Array Value}{k':List Item}{ds:List Deferred}{kd:CallKind}
 {rof:Option Nat} {cs:List Frame} (hS:St K w0 e s.hp s.nx w) (hT:TRel e s.nt s.T tmps) (hk:IsRel e k k') (hd:DsRel e s.dfs ds) (hc:Ctx e ro kd rof cs) :
 FrOK P K w0 e ro (fr0 s.fn tmps (.code c :: k') ds kd rof) cs w outs:=by
 cases c with
 | ret=>exact e6 (jump:=some .ret) hL h (.inr (.inl ⟨k',rfl,rfl⟩)) hS hT hd hc
 | skip=>exact(hr _ _ _ h e w tmps k' ds kd rof cs hS hT hk hd hc).pre (.one pW) (Env.le_refl e) rfl rfl (fun _ hr=>hr)
 | label l=>exact(hr _ _ _ h e w tmps k' ds kd rof cs hS hT hk hd hc).pre (.one od) (Env.le_refl e) rfl rfl (fun _ hr=>hr)
 | seq a b=>exact(hr _ _ _ h e w tmps (.code a :: .code b :: k') ds kd rof cs hS hT ⟨rfl,rfl,hk⟩ hd hc).pre (.one rU) (Env.le_refl e) rfl rfl (fun _ hr=>hr)
 | block id b=>exact(hr _ _ _ h e w tmps (.code b :: .inBlock id :: k') ds kd rof cs hS hT ⟨rfl,rfl,hk⟩ hd hc).pre (.one oe) (Env.le_refl e) rfl rfl (fun _ hr=>hr)
 | loop b=>exact(hr _ _ _ h e w tmps (.code b :: .inLoop b :: k') ds kd rof cs hS hT ⟨rfl,rfl,hk⟩ hd hc).pre (.one pX) (Env.le_refl e) rfl rfl (fun _ hr=>hr)
 | scope b=>exact(hr _ _ _ h e w tmps (.code b :: .inScope b :: k') ds kd rof cs hS hT ⟨rfl,rfl,hk⟩ hd hc).pre (.one oa) (Env.le_refl e) rfl rfl (fun _ hr=>hr)
 | cond c a b=>
   obtain⟨t,hcd,ht,hf⟩:=h
   ·have hE:=TRel.ev (fr:=fr0 s.fn tmps (.code (.cond c a b) :: k') ds kd rof) hT
    have hv:=hE c _ hcd
    simp only [SV.conc,sW] at hv
    cases t with
    | true=>exact(hr _ _ _ (ht rfl) e w tmps (.code a :: k') ds kd rof cs hS hT ⟨rfl,hk⟩ hd hc).pre (.one (mC hv.symm)) (Env.le_refl e) rfl rfl (fun _ hr=>hr)
    | false=>exact(hr _ _ _ (hf rfl) e w tmps (.code b :: k') ds kd rof cs hS hT ⟨rfl,hk⟩ hd hc).pre (.one (mC hv.symm)) (Env.le_refl e) rfl rfl (fun _ hr=>hr)
 | exit id=>
   simp only [l8] at h
   have hx:=lj (id:=id) hk
   cases he:iP id k with
   | some l'=>
     rw [he] at h
     obtain⟨m',h1,h2⟩:=hx.1 l' he
     exact(hr _ _ _ h e w tmps m' ds kd rof cs hS hT h2 hd hc).pre (.one (pZ h1)) (Env.le_refl e) rfl rfl (fun _ hr=>hr)
   | none=>
     rw [he] at h
     exact e6 hL h (.inr (.inr (.inl ⟨id,k',rfl,hx.2 he,rfl⟩))) hS hT hd hc
 | goto id=>
   simp only [l8] at h
   have hx:=ld (id:=id) hk
   cases he:jD id k with
   | some l'=>
     rw [he] at h
     obtain⟨m',h1,h2⟩:=hx.1 l' he
     exact(hr _ _ _ h e w tmps m' ds kd rof cs hS hT h2 hd hc).pre (.one (pY h1)) (Env.le_refl e) rfl rfl (fun _ hr=>hr)
   | none=>
     rw [he] at h
     exact e6 hL h (.inr (.inr (.inr ⟨id,k',rfl,hx.2 he,rfl⟩))) hS hT hd hc
 | refuse why=>exact h.elim
 | region id ops draw=>
   cases draw with
   | false=>exact(hr _ _ _ h e w tmps (.inRegion ops (List.range' 0 ops.size) :: k') ds kd rof cs hS hT ⟨⟨rfl,by simp⟩,hk⟩ hd hc).pre (.one mA) (Env.le_refl e) rfl rfl (fun _ hr=>hr)
   | true=>
     obtain⟨hm,d,hdr,h⟩:=h
     ·obtain⟨e',w',tmps',h1,h2,h3,h4⟩:=hD hm _ _ _ _ _ _ hdr e {w with drawn:=w.drawn+1} tmps hS.drew hT (w.tape w.drawn (.order s.fn id)) s.fn k' ds kd rof cs
      refine(hr _ _ _ h e' w' tmps' k' ds kd rof cs h2 h3 (hk.mono h1) (hd.mono h1) (hc.mono h1)).pre (.head p0 (h4.trans (.one fH))) h1 rfl rfl (fun _ hr=>hr)
 | rangeFunc fo params assign body=>
   obtain⟨dr,H1,nx1,mark,sf,g,a,b,hld,hfo,hft,hm,hcall⟩:=h
   ·····obtain⟨e1,w1,x,mk,h1,h2,h3,h4,h5⟩:=jJ (P:=P) hld hS hc hT s.fn params assign body
        have hE:=TRel.ev (fr:=fr0 s.fn tmps (.inRangeFunc x.blk :: k') (mk ++ ds) kd rof) hT
        obtain⟨xs,ys,hev,hxs,hys⟩:=eH hft (hE fo sf hfo)
        have hargs:SV.aq e1 (a ++ [.yld nx1] ++ b)=some (xs ++ #[Value.func (.yield x.blk) #[] #[]] ++ ys).toList:=by
         have:=bm (bm (SV.aU h1 _ _ hxs) (aY (x:= .yld nx1) (v:= .func (.yield x.blk) #[] #[]) (by simp [SV.conc,h3]) (show SV.aq e1 []=some [] from rfl))) (SV.aU h1 _ _ hys)
         simpa using this
        obtain⟨r,hr1,e',w',v,g1,g2,g3,g4⟩:=gL (fh hr hcall h2 hargs (kd:= .normal) (cs:=fr0 s.fn tmps (.inRangeFunc x.blk :: k') (mk ++ ds) kd rof :: cs) ⟨rfl,.inl rfl⟩)
        have hle:=Env.le_trans h1 g1
        refine(hr _ _ _ hr1 e' w' tmps (.endRangeFunc x.blk :: k') (mk ++ ds) kd rof cs g2 (hT.mono hle) ⟨⟨x,g1 _ _ h3,rfl⟩,hk.mono hle⟩ ((h4.append (hd.mono h1)).mono g1) (hc.mono hle)).pre (.head (step_lone_go ?_) g4) hle rfl rfl (fun _ hr=>hr)
        have hpush:xs ++ #[Value.func (.yield x.blk) #[] #[]] ++ ys=xs.push (Value.func (.yield x.blk) #[] #[]) ++ ys:=by simp
        have hinv:(callFunc g (xs.push (Value.func (.yield x.blk) #[] #[]) ++ ys)).run P w1 = .ok (.enter g (xs.push (Value.func (.yield x.blk) #[] #[]) ++ ys)) w1:=c9 hm w1
        have hcon: ∀ v,(fr0 s.fn tmps (.inRangeFunc x.blk :: k') (mk ++ ds) kd rof).eval (.const v)=v:=fun _=>rfl
        rw [hpush]
        simp only [fr0] at hev hcon
        simp [stepG,stepG.exec,fr0,h5,stepG.apply,resolve,hev,hcon,Deferred.ofValue,invoke,hinv]
end
section
variable {P:Program} {K:Zone} {w0 w:World} {e:Env} {H:ar} {nx:Nat} {rn:Rn}
theorem gp{fr:Frame}{cs:List Frame}(h:fr.kind = .normal∨(fr.kind = .deferred∧ ∃ c cs',cs=c :: cs'∧c.mode = .returning)):tryRecover fr cs=none:=by
 rcases h with h|⟨h,c,cs',rfl,hm⟩
 ·cases cs <;> simp [tryRecover,h]
 ·simp [tryRecover,h,hm]
theorem qk(hr:dD P K w0 rn){ro:Option Nat}{s:FrS}{outs:Pst}{out:Out}{tmps:Array Value}{ops:Array Oper}{i:Nat}{rest:List Nat}{o:Oper}{k:List Item}{kA:List AIt}{ds:List Deferred}{kd:CallKind}{rof:Option Nat}{cs:List Frame}
 (h:outS P rn ro s o.dst kA out outs) (ho:ops[i]? =some o) (hw:Region.wanted o (yielded ops tmps)=true) (hT:TRel e s.nt s.T tmps) (hk:IsRel e kA (.inRegion ops rest :: k)) (hd:DsRel e s.dfs ds) (hc:Ctx e ro kd rof cs)
 (hdf:ro=none∨ ∀ c,o.op ≠ .defer c) (hdo:nT P K w0 e out ((execOp (fr0 s.fn tmps (.inRegion ops (i :: rest) :: k) ds kd rof).eval o).run P w)) :
 FrOK P K w0 e ro (fr0 s.fn tmps (.inRegion ops (i :: rest) :: k) ds kd rof) cs w outs:=by
 obtain⟨e',w',hle,hS',hrun⟩:=hdo
 obtain⟨a,H',nx'⟩:=out
 have hdf':rof=none∨ ∀ c,o.op ≠ .defer c:=by
  rcases hdf with rfl|hdf
  ·exact .inl hc.1
  ·exact .inr hdf
 have hoper:=dT (P:=P) (fn:=s.fn) (k:=k) (ds:=ds) (kd:=kd) (cs:=cs) (w:=w) (rest:=rest) ho hw hdf'
 have hfin:=fun v=>cl (fn:=s.fn) (tmps:=tmps) (k:=k) (ds:=ds) (kd:=kd) (ro:=rof) (rest:=rest) ho v
 have hkind: ∀ {A:Type} (x y:A),(match (fr0 s.fn tmps (.inRegion ops (i :: rest) :: k) ds kd rof).todo with | .call _ true _ _ :: _=>x|_=>y)=y:=fun _ _=>rfl
 have value: ∀ (sv:SV) (v:Value) (e2:Env) (w2:World) (H2:ar) (nx2:Nat) (outs2:Pst),e.le e2→St K w0 e2 H2 nx2 w2→sv.conc e2=some v →
  Steps P (lone (fr0 s.fn tmps (.inRegion ops (i :: rest) :: k) ds kd rof) cs w) (lone ((fr0 s.fn tmps (.inRegion ops (i :: rest) :: k) ds kd rof).finish v) cs w2) →
  rn ro false {s with T:=eg s.nt s.T o.dst sv,todo:=kA,hp:=H2,nx:=nx2} outs2→(∀ r,outs2 r→outs r)→FrOK P K w0 e ro (fr0 s.fn tmps (.inRegion ops (i :: rest) :: k) ds kd rof) cs w outs:=by
  intro sv v e2 w2 H2 nx2 outs2 hle2 hS2 hv hst hrn hsub
  rw [hfin] at hst
  exact(hr _ _ _ hrn e2 w2 (er tmps o.dst v) (.inRegion ops rest :: k) ds kd rof cs hS2 ((hT.mono hle2).putO hv o.dst) (hk.mono hle2) (hd.mono hle2) (hc.mono hle2)).pre hst hle2 rfl rfl hsub
 cases a with
 | val sv=>
   obtain⟨v,hv,hres⟩:=hrun
   refine value sv v e' w' H' nx' outs hle hS' hv (.one (step_lone_go ?_)) h (fun _ hr=>hr)
   rw [hoper]
   simp only [stepG.apply,Sem.runT_eq,if_true,hres,GStep.bare_after,GStep.bare_go]
 | skip=>
   refine value cf undef e' w' H' nx' outs hle hS' rfl (.one (step_lone_go ?_)) h (fun _ hr=>hr)
   have hres:Sem.run P (execOp (fr0 s.fn tmps (.inRegion ops (i :: rest) :: k) ds kd rof).eval o) w = .ok .skip w':=hrun
   rw [hoper]
   simp only [stepG.apply,Sem.runT_eq,if_true,hres,GStep.bare_after,GStep.bare_go]
 | recover=>
   obtain⟨rfl,h⟩:=h
   ·refine value (.sc .nilIface) .nilIface e' w' H' nx' outs hle hS' rfl (.one (step_lone_go ?_)) h (fun _ hr=>hr)
    have hres:Sem.run P (execOp (fr0 s.fn tmps (.inRegion ops (i :: rest) :: k) ds kd rof).eval o) w = .ok .recover w':=hrun
    obtain⟨rfl,hkd⟩:=hc
    have htr:tryRecover (fr0 s.fn tmps (.inRegion ops (i :: rest) :: k) ds kd none) cs=none:=gp hkd
    have hro:(fr0 s.fn tmps (.inRegion ops (i :: rest) :: k) ds kd none).roundOf=none:=rfl
    rw [hoper]
    simp only [stepG.apply,Sem.runT_eq,if_true,hres,hro,htr,GStep.bare_after,GStep.bare_go]
 | dfr d=>
   obtain⟨rfl,h⟩:=h
   ·obtain⟨dd,hdd,hres⟩:=hrun
    refine(hr _ _ _ h e' w' (er tmps o.dst undef) (.inRegion ops rest :: k) (dd :: ds) kd rof cs hS' ((hT.mono hle).putO rfl o.dst) (hk.mono hle) ⟨hdd,hd.mono hle⟩ (hc.mono hle)).pre (.one (step_lone_go ?_)) hle rfl rfl (fun _ hr=>hr)
    rw [hoper]
    have:=cl (fn:=s.fn) (tmps:=tmps) (k:=k) (ds:=dd :: ds) (kd:=kd) (ro:=rof) (rest:=rest) ho undef
    simp only [stepG.apply,Sem.runT_eq,if_true,hres,GStep.bare_after,GStep.bare_go]
    rw [← this]
    rfl
 | enter g args=>
   obtain⟨vs,hvs,hres⟩:=hrun
   have hcall:eM P rn g args H' nx' _:=h
   ·obtain⟨r,hr1,e2,w2,v,g1,g2,g3,g4⟩:=gL (fh hr hcall hS' hvs (kd:= .normal) (cs:=fr0 s.fn tmps (.inRegion ops (i :: rest) :: k) ds kd rof :: cs) ⟨rfl,.inl rfl⟩)
    refine value r.1 v e2 w2 r.2.1 r.2.2 outs (Env.le_trans hle g1) g2 g3 (.head (step_lone_go ?_) g4) hr1 (fun _ hr=>hr)
    rw [hoper]
    simp only [stepG.apply,Sem.runT_eq,if_true,hres,GStep.bare_after,GStep.bare_go]
    first|done|rfl
 | round l args=>
   obtain⟨x,vs,hx,hvs,hres⟩:=hrun
   have hround:g8 rn l args H' nx' _:=h
   ·obtain⟨fn2,tmps2,assign,body,hy,hback⟩:=jl (P:=P) hr hround hS' hvs hx
    rw [hy] at hres
    obtain⟨r,hr1,e2,w2,v,g1,g2,g3,g4⟩:=hback (fr0 s.fn tmps (.inRegion ops (i :: rest) :: k) ds kd rof) cs
    refine value r.1 v e2 w2 r.2.1 r.2.2 outs (Env.le_trans hle g1) g2 g3 (.head (step_lone_go ?_) g4) hr1 (fun _ hr=>hr)
    rw [hoper]
    simp only [stepG.apply,Sem.runT_eq,if_true,hres,GStep.bare_after,GStep.bare_go]
    first|done|rfl
theorem sj(hr:dD P K w0 rn){ro:Option Nat}{s:FrS}{kA:List AIt}{outs:Pst}{tmps:Array Value}{ops:Array Oper}{i:Nat}{o:Oper}{l:List Oper}{k:List Item}{ds:List Deferred}{kd:CallKind}{rof:Option Nat}{cs:List Frame}
 (h:opS P rn ro s kA ops i o l outs) (hl:o :: l=ops.toList.drop i) (hS:St K w0 e s.hp s.nx w) (hT:TRel e s.nt s.T tmps) (hk:IsRel e kA k) (hd:DsRel e s.dfs ds) (hc:Ctx e ro kd rof cs) :
 FrOK P K w0 e ro (fr0 s.fn tmps (.inRegion ops (List.range' i (ops.size-i)) :: k) ds kd rof) cs w outs:=by
 have hlt:i<ops.size:=by
  have:=congrArg List.length hl
  simp at this
  omega
 have ho:ops[i]? =some o:=by
  have:ops.toList[i]? =some o:=by
   have:=congrArg List.head? hl
   simpa using this.symm
  simpa using this
 have hl':l=ops.toList.drop (i+1):=by
  have:=congrArg List.tail hl
  simpa using this
 have hrange:List.range' i (ops.size-i)=i :: List.range' (i+1) (ops.size-(i+1)):=by
  rw [show ops.size-i=(ops.size-(i+1))+1 by omega,List.range'_succ]
 rw [hrange]
 have hk2:IsRel e (.inReg ops (i+1) l :: kA) (.inRegion ops (List.range' (i+1) (ops.size-(i+1))) :: k):=⟨⟨rfl,hl'⟩,hk⟩
 rcases h with ⟨hw,h⟩|⟨hw,hdf,ha⟩
 ·have hwr:=cP hw hT
  ·exact(hr _ _ _ h e w (er tmps o.dst undef) _ ds kd rof cs hS (hT.putO rfl o.dst) hk2 hd hc).pre (.one (c6 ho hwr)) (Env.le_refl e) rfl rfl (fun _ hr=>hr)
 ·have hwr:=cP hw hT
  have hE:=TRel.ev (fr:=fr0 s.fn tmps (.inRegion ops (i :: List.range' (i+1) (ops.size-(i+1))) :: k) ds kd rof) hT
  obtain⟨out,q1,hdo⟩:=ha _ _ _ _ _ hS hE
  exact qk hr q1 ho hwr hT hk2 hd hc hdf hdo
theorem n9(hr:dD P K w0 rn)(hL:gS P K w0 rn)(hD:nR P K w0 rn){ro:Option Nat}{s:FrS}{outs:Pst}(h:jg P rn ro s outs){tmps:Array Value}{todo:List Item}{ds:List Deferred}{kd:CallKind}{rof:Option Nat}{cs:List Frame}
 (hS:St K w0 e s.hp s.nx w) (hT:TRel e s.nt s.T tmps) (ht:IsRel e s.todo todo) (hd:DsRel e s.dfs ds) (hc:Ctx e ro kd rof cs):FrOK P K w0 e ro (fr0 s.fn tmps todo ds kd rof) cs w outs:=by
 unfold jg at h
 cases hs:s.todo with
 | nil=>
   rw [hs] at h ht
   have:=ht.nil
   subst this
   exact e6 hL h (.inl ⟨rfl,rfl⟩) hS hT hd hc
 | cons it kA=>
   rw [hs] at h ht
   obtain⟨i,k,rfl,hi,hk⟩:=ht.cons
   cases it with
   | code c=>
     simp only [IRel] at hi
     subst hi
     exact oY hr hL hD h hS hT hk hd hc
   | inBlock id=>
     simp only [IRel] at hi
     subst hi
     exact(hr _ _ _ h e w tmps k ds kd rof cs hS hT hk hd hc).pre (.one lL) (Env.le_refl e) rfl rfl (fun _ hr=>hr)
   | inScope b=>
     simp only [IRel] at hi
     subst hi
     exact(hr _ _ _ h e w tmps k ds kd rof cs hS hT hk hd hc).pre (.one lK) (Env.le_refl e) rfl rfl (fun _ hr=>hr)
   | inLoop b=>
     simp only [IRel] at hi
     subst hi
     exact(hr _ _ _ h e w tmps (.code b :: .inLoop b :: k) ds kd rof cs hS hT ⟨rfl,rfl,hk⟩ hd hc).pre (.one mB) (Env.le_refl e) rfl rfl (fun _ hr=>hr)
   | inReg ops j l=>
     obtain⟨rfl,hl⟩:=hi
     cases l with
     | nil=>
       have:ops.size-j=0:=by
        have:=congrArg List.length hl
        simp at this
        omega
       rw [this]
       exact(hr _ _ _ h e w tmps k ds kd rof cs hS hT hk hd hc).pre (.one fH) (Env.le_refl e) rfl rfl (fun _ hr=>hr)
     | cons o l=>exact sj hr h hl hS hT hk hd hc
   | inRange l=>cases h
   | endRange l=>
     obtain⟨x,hx,rfl⟩:=hi
     simp only at h
     split at h
     ·rename_i st pend fn nt T params assign body dr hlp
      obtain⟨tm,y,hy,hTm,hw⟩:=dO hS hlp hx
      have hg:=bN (P:=P) hw (by simp)
      have hset:=fun o'=>cw (P:=P) o' hw (by simp)
      obtain⟨hne,h⟩:=h
      ·have hS':=hS.upd (vo':= .loop .exhausted pend fn nt T params assign body dr) (o':= .loop {state:= .exhausted,pending:=pend,fn:=fn,tmps:=tm,params:=params,assign:=assign,body:=body,defers:=y.blk})
        hlp hx (ks hS hlp hx) rfl rfl (bq x.blk _) (br hw) ⟨tm,y,hy,hTm,rfl⟩
       have hstb:(st == LoopState.busy)=false:=beq_eq_false_iff_ne.2 hne
       have hend:(Instr.endLoop x.blk).run P w = .ok pend {w with heap:=w.heap.setIfInBounds x.blk (.loop {state:= .exhausted,pending:=pend,fn:=fn,tmps:=tm,params:=params,assign:=assign,body:=body,defers:=y.blk})}:=by
        simp [Instr.endLoop,Instr.getLoop,hg,hne,hset]
       refine(hr _ _ _ h e _ tmps ((pend.map Item.code).toList ++ k) ds kd rof cs hS' hT ?_ hd hc).pre (.one (step_lone_go ?_)) (Env.le_refl e) rfl rfl (fun _ hr=>hr)
       ·cases pend with
        | none=>exact hk
        | some c=>exact⟨rfl,hk⟩
       ·simp [stepG,stepG.exec,fr0,hend]
     ·cases h
   | beginRound=>
     simp only [IRel] at hi
     subst hi
     cases ro with
     | none=>cases h
     | some l=>
       obtain⟨x,hx,rfl,rfl,c,cs',rfl⟩:=hc
       simp only at h
       split at h
       ·rename_i st pend fn nt T params assign body dr hlp
        obtain⟨tm,y,hy,hTm,hw⟩:=dO hS hlp hx
        have hg:=bN (P:=P) hw (by simp)
        have hset:=fun o'=>cw (P:=P) o' hw (by simp)
        obtain⟨rfl,h⟩:=h
        ·have hS':=hS.upd (vo':= .loop .busy pend fn nt T params assign body dr) (o':= .loop {state:= .busy,pending:=pend,fn:=fn,tmps:=tm,params:=params,assign:=assign,body:=body,defers:=y.blk})
          hlp hx (ks hS hlp hx) rfl rfl (bq x.blk _) (br hw) ⟨tm,y,hy,hTm,rfl⟩
         have hbeg:(Instr.beginRound x.blk).run P w = .ok () {w with heap:=w.heap.setIfInBounds x.blk (.loop {state:= .busy,pending:=pend,fn:=fn,tmps:=tm,params:=params,assign:=assign,body:=body,defers:=y.blk})}:=by
          simp [Instr.beginRound,Instr.getLoop,hg,hset]
         refine(hr _ _ _ h e _ tmps k ds .normal (some x.blk) (c :: cs') hS' hT hk hd ⟨x,hx,rfl,rfl,c,cs',rfl⟩).pre (.one (step_lone_go ?_)) (Env.le_refl e) rfl rfl (fun _ hr=>hr)
         simp [stepG,stepG.exec,fr0,stepG.apply,hbeg,Frame.finish]
       ·cases h
end
theorem gI{nt:Nat}: ∀ {l:List Oper} {seen:List Tmp},jN nt l seen=true→(∀ (i:Nat) o d,l[i]? =some o→o.dst=some d→d<nt∧d∉seen) ∧
 (∀ (i j:Nat) oi oj d,l[i]? =some oi→l[j]? =some oj→oi.dst=some d→oj.dst=some d→i=j)
 | [],seen,_=>⟨fun i o d h=>by simp at h,fun i j oi oj d h=>by simp at h⟩
 | o :: l,seen,h=>by
   simp only [jN] at h
   cases hd:o.dst with
   | none=>
     rw [hd] at h
     obtain⟨h1,h2⟩:=gI h
     refine⟨fun i o' d hi hd'=>?_,fun i j oi oj d hi hj hdi hdj=>?_⟩
     ·cases i with
      | zero=>simp only [tf,sW] at hi;subst hi;rw [hd] at hd';cases hd'
      | succ i=>exact h1 i o' d (by simpa using hi) hd'
     ·cases i with
      | zero=>simp only [tf,sW] at hi;subst hi;rw [hd] at hdi;cases hdi
      | succ i=>
        cases j with
        | zero=>simp only [tf,sW] at hj;subst hj;rw [hd] at hdj;cases hdj
        | succ j=>rw [h2 i j oi oj d (by simpa using hi) (by simpa using hj) hdi hdj]
   | some d0=>
     rw [hd] at h
     simp only [tg,Bool.not_eq_true'] at h
     obtain⟨⟨g1,g2⟩,g3⟩:=h
     obtain⟨h1,h2⟩:=gI g3
     have hns:d0∉seen:=by simpa using g2
     refine⟨fun i o' d hi hd'=>?_,fun i j oi oj d hi hj hdi hdj=>?_⟩
     ·cases i with
      | zero=>
        simp only [tf,sW] at hi
        subst hi
        rw [hd] at hd'
        simp only [sW] at hd'
        subst hd'
        exact⟨bl g1,hns⟩
      | succ i=>
        obtain⟨a,b⟩:=h1 i o' d (by simpa using hi) hd'
        exact⟨a,fun hc=>b (List.mem_cons_of_mem _ hc)⟩
     ·cases i with
      | zero=>
        simp only [tf,sW] at hi
        subst hi
        rw [hd] at hdi
        simp only [sW] at hdi
        subst hdi
        cases j with
        | zero=>rfl
        | succ j=>exact absurd (List.mem_cons_self ..) (h1 j oj d0 (by simpa using hj) hdj).2
      | succ i=>
        cases j with
        | zero=>
          simp only [tf,sW] at hj
          subst hj
          rw [hd] at hdj
          simp only [sW] at hdj
          subst hdj
          exact absurd (List.mem_cons_self ..) (h1 i oi d0 (by simpa using hi) hdi).2
        | succ j=>rw [h2 i j oi oj d (by simpa using hi) (by simpa using hj) hdi hdj]
theorem jb(t:Tmp): ∀ (l:List Oper) (i0 k:Nat) (o:Oper),l[k]? =some o→o.dst=some t→ ∃ (k':Nat) (o':Oper),dB t l i0=some (i0+k')∧l[k']? =some o'∧o'.dst=some t
 | [],i0,k,o,h,_=>by simp at h
 | o0 :: l,i0,k,o,h,hd=>by
   have rest: ∀ k2:Nat,k=k2+1→ ∃ (k':Nat) (o':Oper),dB t l (i0+1)=some (i0+1+k')∧l[k']? =some o'∧o'.dst=some t:=by
    rintro k2 rfl
    exact jb t l (i0+1) k2 o (by simpa using h) hd
   have lift:(∃ (k':Nat) (o':Oper),dB t l (i0+1)=some (i0+1+k')∧l[k']? =some o'∧o'.dst=some t)→dB t (o0 :: l) i0=dB t l (i0+1)→ ∃ (k':Nat) (o':Oper),dB t (o0 :: l) i0=some (i0+k')∧(o0 :: l)[k']? =some o'∧o'.dst=some t:=by
    rintro⟨k',o',h1,h2,h3⟩ he
    exact⟨k'+1,o',by rw [he,h1];congr 1;omega,by simpa using h2,h3⟩
   cases hd0:o0.dst with
   | none=>
     cases k with
     | zero=>simp only [tf,sW] at h;subst h;rw [hd0] at hd;cases hd
     | succ k=>exact lift (rest k rfl) (by simp [dB,hd0])
   | some d=>
     cases hb:Nat.beq d t with
     | true=>
       have:=aC hb
       subst this
       exact⟨0,o0,by simp only [dB,hd0,hb,cond_true,Nat.add_zero],rfl,hd0⟩
     | false=>
       cases k with
       | zero=>
         simp only [tf,sW] at h
         subst h
         rw [hd0] at hd
         simp only [sW] at hd
         subst hd
         rw [show Nat.beq d d=true from Nat.beq_refl d] at hb
         cases hb
       | succ k=>exact lift (rest k rfl) (by simp only [dB,hd0,hb,cond_false])
theorem ci{ops:List Oper}{ancs:List Nat}{i:Nat}{anc:Nat}(hdist: ∀ (i j:Nat) oi oj d,ops[i]? =some oi→ops[j]? =some oj→oi.dst=some d→oj.dst=some d→i=j) :
 ∀ {l:List Operand},bI ops ancs i anc l=true→ ∀ t,Operand.tmp t∈l→ ∀ (k:Nat) o,ops[k]? =some o→o.dst=some t→anc.testBit k=true∨(ancs.getD k 0).testBit i=true
 | [],_,t,h,_,_,_,_=>by cases h
 | x :: l,h,t,hm,k,o,ho,hd=>by
   have tail:bI ops ancs i anc l=true→Operand.tmp t∈l→anc.testBit k=true∨(ancs.getD k 0).testBit i=true:=fun h1 h2=>ci hdist h1 t h2 k o ho hd
   cases x with
   | tmp u=>
     simp only [bI,tg] at h
     rcases List.mem_cons.1 hm with he|hm
     ·simp only [Operand.tmp.injEq] at he
      subst he
      obtain⟨k',o',h1,h2,h3⟩:=jb t ops 0 k o ho hd
      have:=hdist k k' o o' t ho h2 hd h3
      subst this
      have h4:=h.1
      rw [h1] at h4
      simpa only [Nat.zero_add,Bool.or_eq_true] using h4
     ·exact tail h.2 hm
   | _=>
     simp only [bI] at h
     rcases List.mem_cons.1 hm with he|hm
     ·cases he
     ·exact tail h hm
theorem kW{all:List Oper}{as1:List Nat}: ∀ {l:List Oper} {ancs:List Nat} {i0:Nat},mY all as1 ancs l i0=true→ ∀ (j:Nat) o,l[j]? =some o→ ∃ anc,ancs[j]? =some anc∧cV (i0+j) o.after.toList=true∧bI all as1 (i0+j) anc (aM all o)=true
 | [],ancs,i0,_,j,o,h=>by simp at h
 | o0 :: l,[],i0,h,j,o,hj=>by simp [mY] at h
 | o0 :: l,a :: ancs,i0,h,j,o,hj=>by
   simp only [mY,tg] at h
   cases j with
   | zero=>
     simp only [tf,sW] at hj
     subst hj
     exact⟨a,rfl,h.1.1,h.1.2⟩
   | succ j=>
     obtain⟨anc,h1,h2,h3⟩:=kW h.2 j o (by simpa using hj)
     exact⟨anc,by simpa using h1,by rw [show i0+(j+1)=i0+1+j by omega];exact h2,by rw [show i0+(j+1)=i0+1+j by omega];exact h3⟩
theorem d8{i:Nat}: ∀ {l:List Edge},cV i l=true→ ∀ e∈l,Region.binds .any e=true→e.on<i
 | [],_,e,h,_=>by cases h
 | a :: l,h,e,hm,hb=>by
   simp only [cV,tg] at h
   rcases List.mem_cons.1 hm with rfl|hm
   ·have:=h.1
    rw [hb] at this
    exact bl this
   ·exact d8 h.2 e hm hb
theorem gO{p:List Nat}{j:Nat}: ∀ {l:List Edge},(jS p l).testBit j=true→ ∃ e∈l,Region.binds .any e=true∧(j=e.on∨(p.getD e.on 0).testBit j=true)
 | [],h=>by simp [jS] at h
 | a :: l,h=>by
   simp only [jS] at h
   cases hb:Region.binds .any a with
   | true=>
     rw [hb] at h
     simp only [cond_true,Nat.testBit_or,Bool.or_eq_true] at h
     rcases h with h|h|h
     ·rw [Nat.testBit_two_pow] at h
      exact⟨a,List.mem_cons_self ..,hb,.inl (by simpa [eq_comm] using h)⟩
     ·exact⟨a,List.mem_cons_self ..,hb,.inr h⟩
     ·obtain⟨e,h1,h2,h3⟩:=gO h
      exact⟨e,List.mem_cons_of_mem _ h1,h2,h3⟩
   | false=>
     rw [hb] at h
     simp only [cond_false] at h
     obtain⟨e,h1,h2,h3⟩:=gO h
     exact⟨e,List.mem_cons_of_mem _ h1,h2,h3⟩
theorem gP: ∀ (l:List Oper) (acc:List Nat) (k:Nat),k<acc.length→(bn acc l)[k]? =acc[k]?
 | [],acc,k,_=>rfl
 | o :: l,acc,k,h=>by
   rw [bn,gP l _ k (by simp;omega),te h]
theorem jT: ∀ (l:List Oper) (acc:List Nat) (j:Nat) (o:Oper),l[j]? =some o→ ∃ p:List Nat,p.length=acc.length+j∧(∀ k,k<p.length→p[k]? =(bn acc l)[k]?)∧(bn acc l)[acc.length+j]? =some (jS p o.after.toList)
 | [],acc,j,o,h=>by simp at h
 | o0 :: l,acc,j,o,h=>by
   cases j with
   | zero=>
     simp only [tf,sW] at h
     subst h
     refine⟨acc,rfl,fun k hk=>?_,?_⟩
     ·rw [bn,gP l _ k (by simp;omega),te hk]
     ·rw [bn,gP l _ _ (by simp),List.getElem?_append_right (by simp)]
      simp
   | succ j=>
     obtain⟨p,h1,h2,h3⟩:=jT l (acc ++ [jS acc o0.after.toList]) j o (by simpa using h)
     simp only [tp,List.length_singleton] at h1 h3
     refine⟨p,by omega,fun k hk=>?_,?_⟩
     ·rw [bn];exact h2 k hk
     ·rw [bn,show acc.length+(j+1)=acc.length+1+j by omega]
      exact h3
theorem aV{ops:List Oper}(L:Nat→Prop)(hE: ∀ (i:Nat) o,ops[i]? =some o→cV i o.after.toList=true)(hL: ∀ (i:Nat) o,L i→ops[i]? =some o→ ∀ e∈o.after.toList,Region.binds .any e=true→L e.on) :
 ∀ (i:Nat) o,ops[i]? =some o→(∀ e∈o.after.toList,Region.binds .any e=true→L e.on)→ ∀ j,((bn [] ops).getD i 0).testBit j=true→L j∧j<i:=by
 intro i
 induction i using Nat.strongRecOn with
 | _ i ih=>
   intro o ho hedges j hj
   obtain⟨p,h1,h2,h3⟩:=jT ops [] i o ho
   simp only [List.length_nil,Nat.zero_add] at h1 h3
   rw [tc,h3] at hj
   simp only [Option.getD_some] at hj
   obtain⟨e,he,hb,hcase⟩:=gO hj
   have hlt:=d8 (hE i o ho) e he hb
   have hLe:=hedges e he hb
   rcases hcase with rfl|hbit
   ·exact⟨hLe,hlt⟩
   ·have hlen:i<ops.length:=(sZ.1 ho).1
    have ho':ops[e.on]? =some ops[e.on]:=sY (by omega)
    rw [tc,h2 e.on (by omega),←tc] at hbit
    obtain⟨g1,g2⟩:=ih e.on hlt _ ho' (hL e.on _ hLe ho') j hbit
    exact⟨g1,by omega⟩
theorem e5{T:Tr SV}: ∀ (l:List Operand) (t:Nat) (s:SV),(aO T l).at' t=some s→Operand.tmp t∈l∧T.at' t=some s
 | [],t,s,h=>by simp [aO,Tr.gR] at h
 | x :: l,t,s,h=>by
   cases x with
   | tmp u=>
     simp only [aO] at h
     cases hu:T.at' u with
     | none=>
       rw [hu] at h
       obtain⟨h1,h2⟩:=e5 l t s h
       exact⟨List.mem_cons_of_mem _ h1,h2⟩
     | some v=>
       rw [hu] at h
       rcases Tr.aT h with ⟨rfl,rfl⟩|⟨_,h⟩
       ·exact⟨List.mem_cons_self ..,hu⟩
       ·obtain⟨h1,h2⟩:=e5 l t s h
        exact⟨List.mem_cons_of_mem _ h1,h2⟩
   | _=>
     simp only [aO] at h
     obtain⟨h1,h2⟩:=e5 l t s h
     exact⟨List.mem_cons_of_mem _ h1,h2⟩
section
variable (P:Program) (rn:Rn) (nt:Nat) (ops:Array Oper) (T0:Tr SV)
def Src(R:List Rec)(i:Nat)(t:Nat)(s:SV):Prop:=
 (∃ (k:Nat) (r:Rec),k<i∧R[k]? =some r∧r.o.dst=some t∧r.val=s)∨((∀ (k:Nat) (r:Rec),k<i→R[k]? =some r→r.o.dst≠some t)∧T0.at' t=some s)
structure RecOK (R:List Rec) (Q:List (ar×Nat)) (C:List Nat) (i:Nat) (r:Rec):Prop where
 idx:r.i=i
 op:ops[i]? =some r.o
 slots: ∀ t s,r.T.at' t=some s→Operand.tmp t∈aM ops.toList r.o∧Src T0 R i t s
 want:ak r.T ops r.o=some r.wanted
 skip:r.wanted=false→r.val=cf∧r.chain=false
 float:r.wanted=true→r.chain=false→(∀ c,r.o.op ≠ .defer c)∧ ∃ H n,Q[r.stg]? =some (H,n)∧ReadDoes P r.T H r.o r.val
 eff:r.chain=true→r.wanted=true∧C[r.stg]? =some i∧ ∃ H n H' n',Q[r.stg]? =some (H,n)∧Q[r.stg+1]? =some (H',n')∧dh P rn r.T H n r.o (r.val,H',n')
structure DSOK (i:Nat) (s:DS):Prop where
 len:s.recs.length=i
 hs:s.Hs.length=s.stg+1
 last:s.Hs.reverse[s.stg]? =some (s.H,s.nx)
 cnt:((s.recs.reverse.filter (·.chain)).map (·.i)).length=s.stg
 recs: ∀ (k:Nat) r,s.recs.reverse[k]? =some r→RecOK P rn ops T0 s.recs.reverse s.Hs.reverse ((s.recs.reverse.filter (·.chain)).map (·.i)) k r
 slots: ∀ t v,s.T.at' t=some v→Src T0 s.recs.reverse i t v
end
section
variable {P:Program} {rn:Rn} {nt:Nat} {ops:Array Oper} {T0:Tr SV}
theorem Src.mono{R R':List Rec}{i:Nat}{t:Nat}{s:SV}(h:Src T0 R i t s)(hR: ∀ k,k<i→R'[k]? =R[k]?):Src T0 R' i t s:=by
 rcases h with ⟨k,r,h1,h2,h3,h4⟩|⟨h1,h2⟩
 ·exact .inl ⟨k,r,h1,by rw [hR k h1];exact h2,h3,h4⟩
 ·exact .inr ⟨fun k r hk hr=>h1 k r hk (by rw [← hR k hk];exact hr),h2⟩
theorem RecOK.mono{R R':List Rec}{Q Q':List (ar×Nat)}{C C':List Nat}{i:Nat}{r:Rec}(h:RecOK P rn ops T0 R Q C i r)(hR: ∀ k,k<i→R'[k]? =R[k]?)(hQ: ∀ (j:Nat) x,Q[j]? =some x→Q'[j]? =some x)(hC: ∀ (j:Nat) x,C[j]? =some x→C'[j]? =some x) :
 RecOK P rn ops T0 R' Q' C' i r:=
 ⟨h.idx,h.op,fun t s hs=>let ⟨a,b⟩:=h.slots t s hs;⟨a,b.mono hR⟩,h.want,h.skip,fun a b=>let ⟨x,H,n,c,d⟩:=h.float a b;⟨x,H,n,hQ _ _ c,d⟩,
   fun a=>let ⟨b,c,H,n,H',n',d,e,f⟩:=h.eff a;⟨b,hC _ _ c,H,n,H',n',hQ _ _ d,hQ _ _ e,f⟩⟩
theorem fX{A:Type}{l:List A}{x y:A}{j:Nat}(h:l[j]? =some y):(l ++ [x])[j]? =some y:=by
 rw [te (sZ.1 h).1];exact h
theorem dv{A:Type}(l:List A)(x:A):(l ++ [x])[l.length]? =some x:=by simp
theorem DSOK.snoc{i:Nat}{s:DS}(h:DSOK P rn ops T0 i s)(hdst: ∀ (j:Nat) o d,ops.toList[j]? =some o→o.dst=some d→d<nt){r:Rec}{H:ar}{nx:Nat}{Hs:List (ar×Nat)}{stg:Nat}(ho:ops[i]? =some r.o)
 (hlen:Hs.length=stg+1) (hlast:Hs.reverse[stg]? =some (H,nx)) (hQ: ∀ (j:Nat) x,s.Hs.reverse[j]? =some x→Hs.reverse[j]? =some x) (hcnt:(if r.chain then s.stg+1 else s.stg)=stg)
 (hrec:RecOK P rn ops T0 (s.recs.reverse ++ [r]) Hs.reverse (((s.recs.reverse ++ [r]).filter (·.chain)).map (·.i)) i r):DSOK P rn ops T0 (i+1) ⟨eg nt s.T r.o.dst r.val,H,nx,r :: s.recs,Hs,stg⟩:=by
 have hR: ∀ k,k<i→(s.recs.reverse ++ [r])[k]? =s.recs.reverse[k]? :=fun k hk=>te (by simp [h.len];exact hk)
 have hri:(s.recs.reverse ++ [r])[i]? =some r:=by have:=dv s.recs.reverse r;rw [List.length_reverse,h.len] at this;exact this
 refine⟨by simp [h.len],hlen,hlast,?_,fun k r' hr'=>?_,fun t v hv=>?_⟩
 ·simp only [List.reverse_cons,List.filter_append,tq,tp,h.cnt]
  rw [← hcnt]
  cases hc:r.chain <;> simp [List.filter_cons,hc]
 ·simp only [List.reverse_cons] at hr' ⊢
  rcases Nat.lt_or_ge k i with hk|hk
  ·rw [hR k hk] at hr'
   refine(h.recs k r' hr').mono (fun k' hk'=>hR k' (by omega)) hQ (fun j x hj=>?_)
   rw [List.filter_append,tq]
   rw [te (sZ.1 hj).1]
   exact hj
  ·have:k=i:=by
    have:=(sZ.1 hr').1
    simp [h.len] at this
    omega
   subst this
   rw [hri] at hr'
   simp only [sW] at hr'
   subst hr'
   exact hrec
 ·simp only [List.reverse_cons] at hv ⊢
  have old:s.T.at' t=some v→r.o.dst≠some t→Src T0 (s.recs.reverse ++ [r]) (i+1) t v:=by
   intro hv hne
   rcases h.slots t v hv with ⟨k,r',h1,h2,h3,h4⟩|⟨h1,h2⟩
   ·exact .inl ⟨k,r',by omega,by rw [hR k h1];exact h2,h3,h4⟩
   ·refine .inr ⟨fun k r' hk hr'=>?_,h2⟩
    rcases Nat.lt_or_ge k i with hk'|hk'
    ·rw [hR k hk'] at hr'
     exact h1 k r' hk' hr'
    ·have:k=i:=by omega
     subst this
     rw [hri] at hr'
     simp only [sW] at hr'
     subst hr'
     exact hne
  cases hd:r.o.dst with
  | none=>rw [hd] at hv old;exact old hv (by simp)
  | some d=>
    rw [hd] at hv
    have hlt:=hdst i r.o d (by simpa using ho) hd
    simp only [eg,show Nat.blt d nt=true from s5 hlt,cond_true] at hv
    rcases Tr.aT hv with ⟨rfl,rfl⟩|⟨hne,hv⟩
    ·exact .inl ⟨i,r,by omega,hri,hd,rfl⟩
    ·exact old hv (by rw [hd];simp;exact fun hc=>hne hc.symm)
theorem fx{i:Nat}{o:Oper}{s s':DS}(h:DSOK P rn ops T0 i s)(hdst: ∀ (j:Nat) o d,ops.toList[j]? =some o→o.dst=some d→d<nt)(ho:ops[i]? =some o)(hd:nQ P rn nt ops i o s s'):DSOK P rn ops T0 (i+1) s':=by
 have hslots: ∀ (R:List Rec),(∀ k,k<i→R[k]? =s.recs.reverse[k]?)→ ∀ t v,(aO s.T (aM ops.toList o)).at' t=some v→Operand.tmp t∈aM ops.toList o∧Src T0 R i t v:=by
  intro R hR t v hv
  obtain⟨h1,h2⟩:=e5 _ t v hv
  exact⟨h1,(h.slots t v h2).mono hR⟩
 have hR: ∀ (r:Rec) k,k<i→(s.recs.reverse ++ [r])[k]? =s.recs.reverse[k]? :=fun r k hk=>te (by simp [h.len];exact hk)
 rcases hd with ⟨hw,rfl⟩|⟨hw,hnd,v,hf,rfl⟩|⟨hw,v,H,nx,he,rfl⟩
 ·exact h.snoc (r:=⟨i,o,_,s.stg,false,false,cf⟩) hdst ho h.hs h.last (fun _ _ hj=>hj) rfl
   ⟨rfl,ho,hslots _ (hR _),hw,fun _=>⟨rfl,rfl⟩,fun hc _=>(by cases hc),fun hc=>(by cases hc)⟩
 ·exact h.snoc (r:=⟨i,o,_,s.stg,false,true,v⟩) hdst ho h.hs h.last (fun _ _ hj=>hj) rfl
   ⟨rfl,ho,hslots _ (hR _),hw,fun hc=>(by cases hc),fun _ _=>⟨hnd,s.H,s.nx,h.last,hf⟩,fun hc=>(by cases hc)⟩
 ·have hl:=h.hs
  have hq: ∀ (j:Nat) x,s.Hs.reverse[j]? =some x→((H,nx) :: s.Hs).reverse[j]? =some x:=fun j x hj=>by rw [List.reverse_cons];exact fX hj
  have hlast:((H,nx) :: s.Hs).reverse[s.stg+1]? =some (H,nx):=by
   rw [List.reverse_cons]
   have:=dv s.Hs.reverse (H,nx)
   rw [List.length_reverse,hl] at this
   exact this
  refine h.snoc (r:=⟨i,o,_,s.stg,true,true,v⟩) hdst ho (by simp [hl]) hlast hq rfl
   ⟨rfl,ho,hslots _ (hR _),hw,fun hc=>(by cases hc),fun _ hc=>(by cases hc),fun _=>⟨rfl,?_,s.H,s.nx,H,nx,hq _ _ h.last,hlast,he⟩⟩
  simp only [List.filter_append,tq,List.filter_cons,if_true,List.filter_nil,tj,List.map_nil]
  have:=dv ((s.recs.reverse.filter (·.chain)).map (·.i)) i
  rw [h.cnt] at this
  exact this
theorem d9(hdst: ∀ (j:Nat) o d,ops.toList[j]? =some o→o.dst=some d→d<nt): ∀ (l:List Oper) (i:Nat) (s s':DS),DSOK P rn ops T0 i s→l=ops.toList.drop i→DrawRun P rn nt ops i l s s'→DSOK P rn ops T0 ops.size s'
 | [],i,s,s',h,hl,hd=>by
   cases hd
   have h1:=congrArg List.length hl
   simp at h1
   have h2:i≤ops.size:=by
    rcases Nat.lt_or_ge ops.size i with hc|hc
    ·exfalso
     have hlen:=h.len
     have hr:=h.recs (i-1) (s.recs.reverse[i-1]'(by simp;omega)) (sY (by simp;omega))
     have:=(s8.1 hr.op).1
     omega
    ·exact hc
   have:i=ops.size:=by omega
   subst this
   exact h
 | o :: l,i,s,s',h,hl,hd=>by
   have ho:ops[i]? =some o:=by
    have:ops.toList[i]? =some o:=by
     have:=congrArg List.head? hl
     simpa using this.symm
    simpa using this
   have hl':l=ops.toList.drop (i+1):=by
    have:=congrArg List.tail hl
    simpa using this
   cases hd with
   | cons hone hd=>exact d9 hdst l (i+1) _ s' (fx h hdst ho hone) hl' hd
end
section
variable {P:Program} {K:Zone} {w0 w:World} {e:Env} {H:ar} {nx:Nat} {rn:Rn}
theorem fW{anc:Nat}: ∀ {l:List Nat} (j:Nat),j<cX anc l→ ∃ c,l[j]? =some c∧anc.testBit c=true
 | [],j,h=>by simp [cX] at h
 | c :: l,j,h=>by
   simp only [cX] at h
   cases hb:anc.testBit c with
   | false=>rw [hb] at h;simp at h
   | true=>
     rw [hb] at h
     simp only [cond_true] at h
     cases j with
     | zero=>exact⟨c,rfl,hb⟩
     | succ j=>
       obtain⟨c',h1,h2⟩:=fW (anc:=anc) (l:=l) j (by omega)
       exact⟨c',by simpa using h1,h2⟩
theorem e7{ancs:List Nat}{i:Nat}: ∀ {l:List Nat},bQ ancs i l<l.length→ ∃ c,l[bQ ancs i l]? =some c∧(ancs.getD c 0).testBit i=true
 | [],h=>by simp at h
 | c :: l,h=>by
   simp only [bQ] at h ⊢
   cases hb:(ancs.getD c 0).testBit i with
   | true=>simp only [cond_true];exact⟨c,rfl,hb⟩
   | false=>
     rw [hb] at h
     simp only [cond_false,tn] at h
     obtain⟨c',h1,h2⟩:=e7 (ancs:=ancs) (i:=i) (l:=l) (by omega)
     exact⟨c',by simpa using h1,h2⟩
theorem fA{ancs:List Nat}: ∀ {l:List Nat},dQ ancs l=true→ ∀ (j:Nat) c c',l[j]? =some c→l[j+1]? =some c'→(ancs.getD c' 0).testBit c=true
 | [],_,j,c,c',h,_=>by simp at h
 | [a],_,j,c,c',_,h=>by simp at h
 | a :: b :: l,h,j,c,c',h1,h2=>by
   simp only [dQ,tg] at h
   cases j with
   | zero=>
     simp only [tf,sW,Nat.zero_add,List.getElem?_cons_succ] at h1 h2
     subst h1 h2
     exact h.1
   | succ j=>exact fA h.2 j c c' (by simpa using h1) (by simpa using h2)
theorem gm{fn:FuncId}{tmps:Array Value}{ops:Array Oper}{i:Nat}{rest:List Nat}{o:Oper}{k:List Item}{ds:List Deferred}{kd:CallKind}{rof:Option Nat}{cs:List Frame}{v:Value}{nxt:Next}{w':World}
 (ho:ops[i]? =some o) (hw:Region.wanted o (yielded ops tmps)=true) (hnd: ∀ c,o.op ≠ .defer c) (hn:nxt = .value v∨(nxt = .skip∧v=undef))
 (hr:(execOp (fr0 fn tmps (.inRegion ops (i :: rest) :: k) ds kd rof).eval o).run P w = .ok nxt w') :
 Steps P (lone (fr0 fn tmps (.inRegion ops (i :: rest) :: k) ds kd rof) cs w) (lone (fr0 fn (er tmps o.dst v) (.inRegion ops rest :: k) ds kd rof) cs w'):=by
 refine .one (step_lone_go ?_)
 rw [dT ho hw (.inr hnd),←cl ho]
 rcases hn with rfl|⟨rfl,rfl⟩
 ·simp only [stepG.apply,Sem.runT_eq,if_true,hr,GStep.bare_after,GStep.bare_go]
 ·simp only [stepG.apply,Sem.runT_eq,if_true,hr,GStep.bare_after,GStep.bare_go]
theorem eI{nt:Nat}{T:Tr SV}{fn:FuncId}{tmps:Array Value}{ops:Array Oper}{i:Nat}{rest:List Nat}{o:Oper}{k:List Item}{ds:List Deferred}{kd:CallKind}{rof:Option Nat}{cs:List Frame}{v:SV}
 (hS:St K w0 e H nx w) (hT:TRel e nt T tmps) (ho:ops[i]? =some o) (hw:Region.wanted o (yielded ops tmps)=true) (hnd: ∀ c,o.op ≠ .defer c) (h:ReadDoes P T H o v) :
 ∃ u,v.conc e=some u∧Steps P (lone (fr0 fn tmps (.inRegion ops (i :: rest) :: k) ds kd rof) cs w) (lone (fr0 fn (er tmps o.dst u) (.inRegion ops rest :: k) ds kd rof) cs w):=by
 have hE:=TRel.ev (fr:=fr0 fn tmps (.inRegion ops (i :: rest) :: k) ds kd rof) hT
 obtain⟨u,hu,hrun⟩:=h _ _ _ _ _ _ hS hE
 exact⟨u,hu,gm ho hw hnd (.inl rfl) hrun⟩
theorem dl(hrn:dD P K w0 rn){nt:Nat}{T:Tr SV}{fn:FuncId}{tmps:Array Value}{ops:Array Oper}{i:Nat}{rest:List Nat}{o:Oper}{k:List Item}{ds:List Deferred}{kd:CallKind}{rof:Option Nat}{cs:List Frame}{v:SV}{H':ar}{nx':Nat}
 (hS:St K w0 e H nx w) (hT:TRel e nt T tmps) (ho:ops[i]? =some o) (hw:Region.wanted o (yielded ops tmps)=true) (h:dh P rn T H nx o (v,H',nx')) :
 ∃ e' w' u,e.le e'∧St K w0 e' H' nx' w'∧v.conc e'=some u∧Steps P (lone (fr0 fn tmps (.inRegion ops (i :: rest) :: k) ds kd rof) cs w) (lone (fr0 fn (er tmps o.dst u) (.inRegion ops rest :: k) ds kd rof) cs w'):=by
 have hE:=TRel.ev (fr:=fr0 fn tmps (.inRegion ops (i :: rest) :: k) ds kd rof) hT
 obtain⟨out,hdo,hnd,h⟩:=h
 obtain⟨e1,w1,hle,hS1,hrun⟩:=hdo _ _ _ _ _ hS hE
 obtain⟨a,H1,nx1⟩:=out
 cases a with
 | val s=>
   simp only [s6] at h
   obtain⟨rfl,rfl,rfl⟩:=h
   obtain⟨u,hu,hres⟩:=hrun
   exact⟨e1,w1,u,hle,hS1,hu,gm ho hw hnd (.inl rfl) hres⟩
 | skip=>
   simp only [s6] at h
   obtain⟨rfl,rfl,rfl⟩:=h
   exact⟨e1,w1,undef,hle,hS1,rfl,gm ho hw hnd (.inr ⟨rfl,rfl⟩) hrun⟩
 | enter f args=>
   simp only at h
   obtain⟨vs,hvs,hres⟩:=hrun
   obtain⟨r,rfl,e2,w2,u,g1,g2,g3,g4⟩:=gL (fh hrn h hS1 hvs (kd:= .normal) (cs:=fr0 fn tmps (.inRegion ops (i :: rest) :: k) ds kd rof :: cs) ⟨rfl,.inl rfl⟩)
   refine⟨e2,w2,u,Env.le_trans hle g1,g2,g3,?_⟩
   rw [cl ho] at g4
   refine .head (step_lone_go ?_) g4
   rw [dT ho hw (.inr hnd)]
   simp only [stepG.apply,Sem.runT_eq,if_true,hres,GStep.bare_after,GStep.bare_go]
   rfl
 | round l args=>
   simp only at h
   obtain⟨x,vs,hx,hvs,hres⟩:=hrun
   obtain⟨fn2,tmps2,assign,body,hy,hback⟩:=jl (P:=P) hrn h hS1 hvs hx
   rw [hy] at hres
   obtain⟨r,rfl,e2,w2,u,g1,g2,g3,g4⟩:=hback (fr0 fn tmps (.inRegion ops (i :: rest) :: k) ds kd rof) cs
   refine⟨e2,w2,u,Env.le_trans hle g1,g2,g3,?_⟩
   rw [cl ho] at g4
   refine .head (step_lone_go ?_) g4
   rw [dT ho hw (.inr hnd)]
   simp only [stepG.apply,Sem.runT_eq,if_true,hres,GStep.bare_after,GStep.bare_go]
 | _=>exact h.elim
end
section
variable {P:Program} {K:Zone} {w0 w:World} {e:Env} {H:ar} {nx:Nat} {rn:Rn}
structure RegOK (P:Program) (rn:Rn) (nt:Nat) (ops:Array Oper) (T0:Tr SV) (R:List Rec) (Q:List (ar×Nat)) (C:List Nat):Prop where
 len:R.length=ops.size
 recs: ∀ (k:Nat) r,R[k]? =some r→RecOK P rn ops T0 R Q C k r
 stages:Q.length=C.length+1
 chainR:C=(R.filter (·.chain)).map (·.i)
 chain:dQ (bn [] ops.toList) C=true
 floats: ∀ r∈R,r.chain=false→r.wanted=true→(∀ c,r.o.op ≠ .defer c)∧ ∀ s,cX ((bn [] ops.toList).getD r.i 0) C≤s→s≤bQ (bn [] ops.toList) r.i C→ ∀ H n,Q[s]? =some (H,n)→ReadDoes P r.T H r.o r.val
 small: ∀ (i:Nat) o d,ops.toList[i]? =some o→o.dst=some d→d<nt
 dist: ∀ (i j:Nat) oi oj d,ops.toList[i]? =some oi→ops.toList[j]? =some oj→oi.dst=some d→oj.dst=some d→i=j
 edges: ∀ (i:Nat) o,ops.toList[i]? =some o→cV i o.after.toList=true
 opnds: ∀ (i:Nat) o,ops.toList[i]? =some o→bI ops.toList (bn [] ops.toList) i ((bn [] ops.toList).getD i 0) (aM ops.toList o)=true
def nS(T0:Tr SV)(R:List Rec)(L:Nat→Prop)(t:Nat)(s:SV):Prop:=
 (∃ (k:Nat) (r:Rec),L k∧R[k]? =some r∧r.o.dst=some t∧r.val=s)∨((∀ (k:Nat) (r:Rec),L k→R[k]? =some r→r.o.dst≠some t)∧T0.at' t=some s)
structure PInv (K:Zone) (w0:World) (nt:Nat) (ops:Array Oper) (T0:Tr SV) (R:List Rec) (Q:List (ar×Nat)) (C:List Nat) (L:Nat→Prop) (s:Nat) (e:Env) (w:World) (tr:Array Value):Prop where
 st: ∃ H n,Q[s]? =some (H,n)∧St K w0 e H n w
 size:tr.size=nt
 good: ∀ t sv,nS T0 R L t sv→ ∃ v,sv.conc e=some v∧tr.getD t undef=v
 chain: ∀ (j c:Nat),C[j]? =some c→(L c↔j<s)
 closed: ∀ (i:Nat) o,L i→ops.toList[i]? =some o→ ∀ ed∈o.after.toList,Region.binds .any ed=true→L ed.on
variable {nt:Nat} {ops:Array Oper} {T0:Tr SV} {R:List Rec} {Q:List (ar×Nat)} {C:List Nat}
theorem PInv.step(hrn:dD P K w0 rn)(hR:RegOK P rn nt ops T0 R Q C){L:Nat→Prop}{s:Nat}{tr:Array Value}(h:PInv K w0 nt ops T0 R Q C L s e w tr){i:Nat}{o:Oper}(ho:ops[i]? =some o)(hni: ¬ L i)
 (hed: ∀ ed∈o.after.toList,Region.binds .any ed=true→L ed.on) (fn:FuncId) (rest:List Nat) (k:List Item) (ds:List Deferred) (kd:CallKind) (rof:Option Nat) (cs:List Frame) :
 ∃ e' w' tr' s',e.le e'∧PInv K w0 nt ops T0 R Q C (fun j=>L j∨j=i) s' e' w' tr' ∧
  Steps P (lone (fr0 fn tr (.inRegion ops (i :: rest) :: k) ds kd rof) cs w) (lone (fr0 fn tr' (.inRegion ops rest :: k) ds kd rof) cs w'):=by
 have hoL:ops.toList[i]? =some o:=by simpa using ho
 have hilt:i<ops.size:=(s8.1 ho).1
 obtain⟨r,hr⟩: ∃ r,R[i]? =some r:=⟨_,sY (by rw [hR.len];exact hilt)⟩
 have hrec:=hR.recs i r hr
 have hro:r.o=o:=by
  have:=hrec.op
  rw [ho] at this
  simpa using this.symm
 have hanc:=aV L hR.edges (fun i o hi ho'=>h.closed i o hi ho') i o hoL hed
 have hT:TRel e nt r.T tr:=by
  refine⟨h.size,fun t sv ht=>?_⟩
  obtain⟨hneed,hsrc⟩:=hrec.slots t sv ht
  rw [hro] at hneed
  have hwr: ∀ (k':Nat) o',ops.toList[k']? =some o'→o'.dst=some t→(L k'∧k'<i)∨(¬ L k'∧i<k'):=fun k' o' ho' hd'=>by
   rcases ci hR.dist (hR.opnds i o hoL) t hneed k' o' ho' hd' with hb|hb
   ·exact .inl (hanc k' hb)
   ·refine .inr ⟨fun hL=>?_,?_⟩
    ·exact hni (aV L hR.edges (fun i o hi ho'=>h.closed i o hi ho') k' o' ho' (h.closed k' o' hL ho') i hb).1
    ·exact(aV (fun _=>True) hR.edges (fun _ _ _ _ _ _ _=>trivial) k' o' ho' (fun _ _ _=>trivial) i hb).2
  refine h.good t sv ?_
  rcases hsrc with ⟨k',r',h1,h2,h3,h4⟩|⟨h1,h2⟩
  ·have hop:=(hR.recs k' r' h2).op
   rcases hwr k' r'.o (by simpa using hop) h3 with g|g
   ·exact .inl ⟨k',r',g.1,h2,h3,h4⟩
   ·omega
  ·refine .inr ⟨fun k' r' hLk hr' hd'=>?_,h2⟩
   have hop:=(hR.recs k' r' hr').op
   rcases hwr k' r'.o (by simpa using hop) hd' with g|g
   ·exact h1 k' r' g.2 hr' hd'
   ·exact g.1 hLk
 have hwant:=cP hrec.want hT
 rw [hro] at hwant
 have build: ∀ (e':Env) (w':World) (u:Value) (s':Nat),e.le e'→(∃ H n,Q[s']? =some (H,n)∧St K w0 e' H n w')→r.val.conc e'=some u→(∀ (j c:Nat),C[j]? =some c→((L c∨c=i)↔j<s')) →
  PInv K w0 nt ops T0 R Q C (fun j=>L j∨j=i) s' e' w' (er tr o.dst u):=by
  intro e' w' u s' hle hst hu hch
  refine⟨hst,?_,fun t sv hg=>?_,hch,fun j oj hj hoj ed hed' hb=>?_⟩
  ·unfold er
   cases o.dst with
   | none=>exact h.size
   | some d=>simpa using h.size
  ·have old:(∀ d,o.dst=some d→d≠t)→ ∃ v,sv.conc e'=some v∧(er tr o.dst u).getD t undef=v:=by
    intro hne
    have hg':nS T0 R L t sv:=by
     rcases hg with ⟨k',r',hk',h2,h3,h4⟩|hg
     ·refine .inl ⟨k',r',?_,h2,h3,h4⟩
      rcases hk' with hk'|rfl
      ·exact hk'
      ·exfalso
       rw [hr] at h2
       simp only [sW] at h2
       subst h2
       rw [hro] at h3
       exact hne t h3 rfl
     ·exact .inr ⟨fun k' r' hLk=>hg.1 k' r' (.inl hLk),hg.2⟩
    obtain⟨v,hv,hgv⟩:=h.good t sv hg'
    refine⟨v,SV.bi hle _ _ hv,?_⟩
    cases hd:o.dst with
    | none=>exact hgv
    | some d=>
      have:=hne d hd
      simp only [er]
      rw [s4,Array.getElem?_setIfInBounds_ne this,←s4]
      exact hgv
   cases hd:o.dst with
   | none=>rw [hd] at old;exact old (fun d hd'=>by cases hd')
   | some d=>
     by_cases hdt:d=t
     ·subst hdt
      have hval:sv=r.val:=by
       rcases hg with ⟨k',r',hk',h2,h3,h4⟩|⟨h1,_⟩
       ·have hop:=(hR.recs k' r' h2).op
        have:=hR.dist k' i r'.o o d (by simpa using hop) hoL h3 hd
        subst this
        rw [hr] at h2
        simp only [sW] at h2
        subst h2
        exact h4.symm
       ·exact absurd (by rw [hro];exact hd) (h1 i r (.inr rfl) hr)
      subst hval
      refine⟨u,hu,?_⟩
      have hlt:=hR.small i o d hoL hd
      simp only [er]
      rw [s4,Array.getElem?_setIfInBounds_self_of_lt (by rw [h.size];exact hlt)]
      rfl
     ·rw [hd] at old
      exact old (fun d' hd'=>by simp only [sW] at hd';subst hd';exact hdt)
  ·rcases hj with hj|rfl
   ·exact .inl (h.closed j oj hj hoj ed hed' hb)
   ·rw [hoL] at hoj
    simp only [sW] at hoj
    subst hoj
    exact .inl (hed ed hed' hb)
 have notChain:r.chain=false→ ∀ (j c:Nat),C[j]? =some c→((L c∨c=i)↔j<s):=by
  intro hc j c hj
  have hne:c≠i:=by
   rintro rfl
   rw [hR.chainR] at hj
   rw [List.getElem?_map,s7] at hj
   obtain⟨r',hr',hi'⟩:=hj
   have hmem:=tb hr'
   rw [List.mem_filter] at hmem
   obtain⟨k',hk'⟩:=List.mem_iff_getElem?.1 hmem.1
   have:=(hR.recs k' r' hk').idx
   rw [hi'] at this
   subst this
   rw [hr] at hk'
   simp only [sW] at hk'
   subst hk'
   rw [hc] at hmem
   simp at hmem
  rw [← h.chain j c hj]
  simp [hne]
 obtain⟨H,n,hQ,hS⟩:=h.st
 cases hwd:r.wanted with
 | false=>
   rw [hwd] at hwant
   obtain⟨h1,h2⟩:=hrec.skip hwd
   exact⟨e,w,_,s,Env.le_refl e,build e w undef s (Env.le_refl e) ⟨H,n,hQ,hS⟩ (by rw [h1];rfl) (notChain h2),.one (c6 ho hwant)⟩
 | true=>
   rw [hwd] at hwant
   cases hc:r.chain with
   | false=>
     have hri:=hrec.idx
     have hlo:cX ((bn [] ops.toList).getD r.i 0) C≤s:=by
      rcases Nat.lt_or_ge s (cX ((bn [] ops.toList).getD r.i 0) C)with hlt|hge
      ·exfalso
       obtain⟨c,h1,h2⟩:=fW s hlt
       rw [hri] at h2
       have:=(h.chain s c h1).1 (hanc c h2).1
       omega
      ·exact hge
     have hhi:s≤bQ (bn [] ops.toList) r.i C:=by
      rcases Nat.lt_or_ge (bQ (bn [] ops.toList) r.i C) s with hlt|hge
      ·exfalso
       have hsC:s≤C.length:=by
        have:=(sZ.1 hQ).1
        have:=hR.stages
        omega
       obtain⟨c,h1,h2⟩:=e7 (ancs:=bn [] ops.toList) (i:=r.i) (l:=C) (by omega)
       have hLc:=(h.chain _ c h1).2 hlt
       have hcl:c<ops.size:=by
        have hcm:=tb h1
        rw [hR.chainR,List.mem_map] at hcm
        obtain⟨r',hr',rfl⟩:=hcm
        rw [List.mem_filter] at hr'
        obtain⟨k',hk'⟩:=List.mem_iff_getElem?.1 hr'.1
        have hx:=hR.recs k' r' hk'
        rw [hx.idx]
        exact(s8.1 hx.op).1
       have hoc:ops.toList[c]? =some (ops.toList[c]'(by simpa using hcl)):=sY (by simpa using hcl)
       have:=aV L hR.edges (fun i o hi ho'=>h.closed i o hi ho') c _ hoc (h.closed c _ hLc hoc) r.i h2
       rw [hri] at this
       exact hni this.1
      ·exact hge
     have hf:=(hR.floats r (tb hr) hc hwd).2 s hlo hhi H n hQ
     have hnd:=(hR.floats r (tb hr) hc hwd).1
     rw [hro] at hf hnd
     obtain⟨u,hu,hst⟩:=eI (P:=P) (fn:=fn) (rest:=rest) (k:=k) (ds:=ds) (kd:=kd) (rof:=rof) (cs:=cs) hS hT ho hwant hnd hf
     exact⟨e,w,_,s,Env.le_refl e,build e w u s (Env.le_refl e) ⟨H,n,hQ,hS⟩ hu (notChain hc),hst⟩
   | true=>
     obtain⟨_,hC,H1,n1,H2,n2,hQ1,hQ2,heff⟩:=hrec.eff hc
     have hss:r.stg=s:=by
      have h1: ¬ r.stg<s:=fun hlt=>hni ((h.chain r.stg i hC).2 hlt)
      rcases Nat.eq_zero_or_pos r.stg with h0|hp
      ·omega
      ·have hlt:r.stg-1<C.length:=by
        have:=(sZ.1 hC).1
        omega
       have hprev:C[r.stg-1]? =some C[r.stg-1]:=sY hlt
       have hbit:=fA hR.chain (r.stg-1) C[r.stg-1] i hprev (by rw [show r.stg-1+1=r.stg by omega];exact hC)
       have:=(h.chain _ _ hprev).1 (hanc _ hbit).1
       omega
     rw [hss] at hQ1 hQ2 hC
     rw [hQ] at hQ1
     simp only [sW,s6] at hQ1
     obtain⟨rfl,rfl⟩:=hQ1
     rw [hro] at heff
     obtain⟨e',w',u,hle,hS',hu,hst⟩:=dl (P:=P) hrn (fn:=fn) (rest:=rest) (k:=k) (ds:=ds) (kd:=kd) (rof:=rof) (cs:=cs) hS hT ho hwant heff
     refine⟨e',w',_,s+1,hle,build e' w' u (s+1) hle ⟨H2,n2,hQ2,hS'⟩ hu (fun j c hj=>?_),hst⟩
     constructor
     ·rintro(hL|rfl)
      ·have:=(h.chain j c hj).1 hL;omega
      ·rcases Nat.lt_or_ge j (s+1)with hlt|hge
       ·exact hlt
       ·exfalso
        have hi1:=chain_inj hR hC hj
        omega
     ·intro hlt
      rcases Nat.lt_or_ge j s with hj'|hj'
      ·exact .inl ((h.chain j c hj).2 hj')
      ·have:j=s:=by omega
       subst this
       rw [hC] at hj
       simp only [sW] at hj
       exact .inr hj.symm
where
 chain_inj {P:Program} {rn:Rn} {nt:Nat} {ops:Array Oper} {T0:Tr SV} {R:List Rec} {Q:List (ar×Nat)} {C:List Nat} (hR:RegOK P rn nt ops T0 R Q C) {s j c:Nat} (h1:C[s]? =some c) (h2:C[j]? =some c):s=j:=by
  have hnd:C.Nodup:=by
   rw [hR.chainR]
   have hall:((R.filter (·.chain)).map (·.i)).Sublist (R.map (·.i)):=(List.filter_sublist).map _
   refine hall.nodup ?_
   have:R.map (·.i)=List.range R.length:=by
    apply List.ext_getElem?
    intro k
    rw [List.getElem?_map]
    cases hk:R[k]? with
    | none=>
      rw [List.getElem?_eq_none_iff] at hk
      simp [hk]
    | some r=>
      have hlt:=(sZ.1 hk).1
      rw [tu,(hR.recs k r hk).idx,List.getElem?_range hlt]
   rw [this]
   exact List.nodup_range
  have a:=sZ.1 h1
  have b:=sZ.1 h2
  obtain⟨a1,a2⟩:=a
  obtain⟨b1,b2⟩:=b
  exact(List.getElem_inj hnd).1 (a2.trans b2.symm)
end
section
variable {P:Program} {K:Zone} {w0 w:World} {e:Env} {rn:Rn} {nt:Nat} {ops:Array Oper} {T0:Tr SV} {R:List Rec} {Q:List (ar×Nat)} {C:List Nat}
def aB(listed:Array Bool)(j:Nat):Prop:=listed[j]? =some true
theorem eW{listed:Array Bool}(hsz:listed.size=ops.size){i:Nat}(h:i∈Region.ready .any ops listed): ∃ o,ops[i]? =some o∧ ¬ aB listed i∧ ∀ ed∈o.after.toList,Region.binds .any ed=true→aB listed ed.on:=by
 unfold Region.ready at h
 rw [List.mem_filter,List.mem_range,tg] at h
 obtain⟨h1,h2,h3⟩:=h
 have ho:ops[i]? =some ops[i]:=ta h1
 refine⟨ops[i],ho,?_,fun ed hed hb=>?_⟩
 ·intro hl
  unfold aB at hl
  rw [s4,hl] at h2
  simp at h2
 ·rw [ho] at h3
  simp only [tu,Option.getD_some] at h3
  rw [Array.all_eq_true_iff_forall_mem] at h3
  have:=h3 ed (by simpa using hed)
  rw [hb] at this
  simp only [Bool.not_true,Bool.false_or] at this
  unfold aB
  rw [s4] at this
  cases hx:listed[ed.on]? with
  | none=>rw [hx] at this;simp at this
  | some b=>rw [hx] at this;simp only [Option.getD_some] at this;rw [this]
theorem fT{listed:Array Bool}(hsz:listed.size=ops.size)(hE: ∀ (i:Nat) o,ops.toList[i]? =some o→cV i o.after.toList=true){i:Nat}(hi:i<ops.size)(hn: ¬ aB listed i): ∃ j,j∈Region.ready .any ops listed:=by
 induction i using Nat.strongRecOn with
 | _ i ih=>
   have ho:ops[i]? =some ops[i]:=ta hi
   by_cases hall: ∀ ed∈ops[i].after.toList,Region.binds .any ed=true→aB listed ed.on
   ·refine⟨i,?_⟩
    unfold Region.ready
    rw [List.mem_filter,List.mem_range,tg]
    refine⟨hi,?_,?_⟩
    ·unfold aB at hn
     rw [s4]
     have hlt:i<listed.size:=by omega
     rw [ta hlt] at hn ⊢
     simp only [sW,Bool.not_eq_true] at hn
     simp [hn]
    ·rw [ho]
     simp only [tu,Option.getD_some]
     rw [Array.all_eq_true_iff_forall_mem]
     intro ed hed
     cases hb:Region.binds .any ed with
     | false=>rfl
     | true=>
       have:=hall ed (by simpa only [Array.mem_toList_iff] using hed) hb
       unfold aB at this
       rw [s4,this]
       rfl
   ·have: ∃ ed,ed∈ops[i].after.toList∧Region.binds .any ed=true∧ ¬ aB listed ed.on:=by
     apply Classical.byContradiction
     intro hc
     apply hall
     intro ed h1 h2
     apply Classical.byContradiction
     intro h3
     exact hc ⟨ed,h1,h2,h3⟩
    obtain⟨ed,h1,h2,h3⟩:=this
    have hlt:=d8 (hE i ops[i] (by simp)) ed h1 h2
    exact ih ed.on hlt (by omega) h3
def bD(listed:Array Bool):Nat:=listed.toList.count false
theorem dm: ∀ (l:List Bool) (i:Nat),l[i]? =some false→(l.set i true).count false+1=l.count false
 | [],i,h=>by simp at h
 | b :: l,0,h=>by
   simp only [tf,sW] at h
   subst h
   simp [List.count_cons]
 | b :: l,i+1,h=>by
   have:=dm l i (by simpa using h)
   simp only [List.set_cons_succ,List.count_cons]
   omega
theorem iC(hrn:dD P K w0 rn)(hR:RegOK P rn nt ops T0 R Q C)(fn:FuncId)(k:List Item)(ds:List Deferred)(kd:CallKind)(rof:Option Nat)(cs:List Frame): ∀ (fuel t:Nat) (listed:Array Bool) (s:Nat) (e:Env) (w:World) (tr:Array Value),
 listed.size=ops.size→bD listed≤fuel→PInv K w0 nt ops T0 R Q C (aB listed) s e w tr →
 ∃ e' w' tr' s' listed',e.le e'∧listed'.size=ops.size∧(∀ j,j<ops.size→aB listed' j)∧PInv K w0 nt ops T0 R Q C (aB listed') s' e' w' tr' ∧
  Steps P (lone (fr0 fn tr (.inRegion ops (Region.linearise.go .any ops fuel t listed []) :: k) ds kd rof) cs w) (lone (fr0 fn tr' (.inRegion ops [] :: k) ds kd rof) cs w'):=by
 have allOf: ∀ (listed:Array Bool),listed.size=ops.size→(∀ j,j∉Region.ready .any ops listed)→ ∀ j,j<ops.size→aB listed j:=by
  intro listed hsz hno j hj
  apply Classical.byContradiction
  intro hn
  obtain⟨i,hi⟩:=fT hsz hR.edges hj hn
  exact hno i hi
 intro fuel
 induction fuel with
 | zero=>
   intro t listed s e w tr hsz hun hI
   refine⟨e,w,tr,s,listed,Env.le_refl e,hsz,fun j hj=>?_,hI,by simp only [Region.linearise.go,List.reverse_nil];exact .refl P _⟩
   unfold aB
   have hlt:j<listed.size:=by omega
   rw [ta hlt]
   cases hb:listed[j] with
   | true=>rfl
   | false=>
     exfalso
     have:0<listed.toList.count false:=List.count_pos_iff.2 (by rw [← hb];simp)
     unfold bD at hun
     omega
 | succ fuel ih=>
   intro t listed s e w tr hsz hun hI
   simp only [Region.linearise.go]
   change ∃ e' w' tr' s' listed',_∧_∧_∧_∧Steps P (lone (fr0 fn tr (.inRegion ops (match (Region.ready .any ops listed)[t % (Region.ready .any ops listed).length]? with
    | some i=>Region.linearise.go .any ops fuel (t / (Region.ready .any ops listed).length) (listed.setIfInBounds i true) [i]
    | none=> [].reverse) :: k) ds kd rof) cs w) _
   cases hpick:(Region.ready .any ops listed)[t % (Region.ready .any ops listed).length]? with
   | none=>
     have hnil:Region.ready .any ops listed= []:=by
      cases hx:Region.ready .any ops listed with
      | nil=>rfl
      | cons x xs=>
        rw [hx] at hpick
        have hlt:t % (x :: xs).length<(x :: xs).length:=Nat.mod_lt _ (by simp)
        rw [sY hlt] at hpick
        cases hpick
     exact⟨e,w,tr,s,listed,Env.le_refl e,hsz,allOf listed hsz (by rw [hnil];simp),hI,.refl P _⟩
   | some i=>
     simp only
     have hmem:=tb hpick
     obtain⟨o,ho,hni,hed⟩:=eW hsz hmem
     rw [linearise_go_acc,List.reverse_singleton,List.singleton_append]
     obtain⟨e1,w1,tr1,s1,hle1,hI1,hst1⟩:=hI.step hrn hR ho hni hed fn (Region.linearise.go .any ops fuel (t / (Region.ready .any ops listed).length) (listed.setIfInBounds i true) []) k ds kd rof cs
     have hilt:i<ops.size:=(s8.1 ho).1
     have hfalse:listed.toList[i]? =some false:=by
      have hlt:i<listed.size:=by omega
      unfold aB at hni
      rw [ta hlt] at hni
      rw [Array.getElem?_toList,ta hlt]
      simpa using hni
     have hcnt:bD (listed.setIfInBounds i true)+1=bD listed:=by
      unfold bD
      rw [Array.toList_setIfInBounds]
      exact dm _ _ hfalse
     have hLeq: ∀ j,aB (listed.setIfInBounds i true) j↔(aB listed j∨j=i):=by
      intro j
      unfold aB
      by_cases hji:j=i
      ·subst hji
       rw [Array.getElem?_setIfInBounds_self_of_lt (by omega)]
       simp
      ·rw [Array.getElem?_setIfInBounds_ne (Ne.symm hji)]
       simp [hji]
     have hI2:PInv K w0 nt ops T0 R Q C (aB (listed.setIfInBounds i true)) s1 e1 w1 tr1:=by
      have:aB (listed.setIfInBounds i true)=fun j=>aB listed j∨j=i:=funext fun j=>propext (hLeq j)
      rw [this]
      exact hI1
     obtain⟨e2,w2,tr2,s2,l2,hle2,hs2,ha2,hI3,hst2⟩:=ih _ _ s1 e1 w1 tr1 (by simpa using hsz) (by omega) hI2
     exact⟨e2,w2,tr2,s2,l2,Env.le_trans hle1 hle2,hs2,ha2,hI3,hst1.trans hst2⟩
theorem sP(hrn:dD P K w0 rn):nR P K w0 rn:=by
 intro hm ops nt T H nx s h e w tmps hS hT t fn k ds kd rof cs
 obtain⟨hro,hda,hch,hfl⟩:=h
 simp only [fS,tg] at hro
 obtain⟨hd1,hd2⟩:=gI hro.1
 have hops:=kW hro.2
 ···have h0:DSOK P rn ops T 0 ⟨T,H,nx,[],[(H,nx)],0⟩:=
     ⟨rfl,rfl,rfl,rfl,fun k r hr=>by simp at hr,fun t v hv=> .inr ⟨fun k r hk=>by omega,hv⟩⟩
    have hD:=d9 (fun j o d hj hd=>(hd1 j o d hj hd).1) ops.toList 0 _ s h0 (by simp) hda
    have hR:RegOK P rn nt ops T s.recs.reverse s.Hs.reverse ((s.recs.reverse.filter (·.chain)).map (·.i)):=by
     refine⟨by simp [hD.len],hD.recs,by rw [hD.cnt];simp [hD.hs],rfl,hch,fun r hr hc hw=>?_,fun i o d hi hd=>(hd1 i o d hi hd).1,hd2,fun i o hi=>?_,fun i o hi=>?_⟩
     ·obtain⟨kk,hkk⟩:=List.mem_iff_getElem?.1 hr
      obtain⟨hnd,H0,n0,hQ0,hf0⟩:=(hD.recs kk r hkk).float hw hc
      refine⟨hnd,fun s1 hlo hhi H1 n1 hQ1=>?_⟩
      by_cases hs1:s1=r.stg
      ·subst hs1
       rw [hQ1] at hQ0
       simp only [sW,s6] at hQ0
       rw [hQ0.1]
       exact hf0
      ·exact hfl r (by simpa using hr) hc hw s1 hlo hhi hs1 H1 n1 hQ1
     ·obtain⟨anc,_,g2,_⟩:=hops i o hi
      simpa using g2
     ·obtain⟨anc,g1,_,g3⟩:=hops i o hi
      rw [tc,g1]
      rw [Nat.zero_add] at g3
      exact g3
    have hinit:PInv K w0 nt ops T s.recs.reverse s.Hs.reverse ((s.recs.reverse.filter (·.chain)).map (·.i)) (aB (Array.replicate ops.size false)) 0 e w tmps:=by
     have hno: ∀ j,¬ aB (Array.replicate ops.size false) j:=by
      intro j hj
      unfold aB at hj
      rw [Array.getElem?_replicate] at hj
      split at hj <;> simp at hj
     have hQ0:s.Hs.reverse[0]? =some (H,nx):=stage0 _ _ _ hda (by simp)
     refine⟨⟨H,nx,hQ0,hS⟩,hT.1,fun t sv hg=>?_,fun j c hj=>⟨fun hl=>absurd hl (hno c),fun hl=>by omega⟩,fun i o hi=>absurd hi (hno i)⟩
     rcases hg with ⟨k',r',hk',_⟩|⟨_,h2⟩
     ·exact absurd hk' (hno k')
     ·exact hT.2 t sv h2
    have hsched:Region.schedule (P.follows .mixedOrders) ops t=Region.linearise.go .any ops ops.size t (Array.replicate ops.size false) []:=by
     rw [hm]
     rfl
    rw [hsched]
    obtain⟨e',w',tr',s',listed',hle,_,hall,hI,hst⟩:=iC hrn hR fn k ds kd rof cs ops.size t (Array.replicate ops.size false) 0 e w tmps (by simp) (by unfold bD;simp) hinit
    have hs':s'=s.stg:=by
     obtain⟨H1,n1,hQ1,_⟩:=hI.st
     have hle1:s'≤s.stg:=by
      have:=(sZ.1 hQ1).1
      simp [hD.hs] at this
      omega
     rcases Nat.lt_or_ge s' s.stg with hlt|hge
     ·exfalso
      have hc: ∃ c,((s.recs.reverse.filter (·.chain)).map (·.i))[s']? =some c:=⟨_,sY (by rw [hD.cnt];exact hlt)⟩
      obtain⟨c,hc⟩:=hc
      have hcl:c<ops.size:=by
       have hcm:=tb hc
       rw [List.mem_map] at hcm
       obtain⟨r',hr',rfl⟩:=hcm
       rw [List.mem_filter] at hr'
       obtain⟨k',hk'⟩:=List.mem_iff_getElem?.1 hr'.1
       have hx:=hD.recs k' r' hk'
       rw [hx.idx]
       exact(s8.1 hx.op).1
      have:=(hI.chain s' c hc).1 (hall c hcl)
      omega
     ·omega
    subst hs'
    obtain⟨H1,n1,hQ1,hS1⟩:=hI.st
    rw [hD.last] at hQ1
    simp only [sW,s6] at hQ1
    obtain⟨rfl,rfl⟩:=hQ1
    refine⟨e',w',tr',hle,hS1,⟨hI.size,fun t sv ht=>hI.good t sv ?_⟩,hst⟩
    rcases hD.slots t sv ht with ⟨k',r',h1,h2,h3,h4⟩|⟨h1,h2⟩
    ·exact .inl ⟨k',r',hall k' h1,h2,h3,h4⟩
    ·refine .inr ⟨fun k' r' _ hr'=>?_,h2⟩
     have hlt:=(sZ.1 hr').1
     rw [List.length_reverse,hD.len] at hlt
     exact h1 k' r' hlt hr'
where
 stage0 {P:Program} {rn:Rn} {nt:Nat} {ops:Array Oper} {x:ar×Nat}: ∀ (l:List Oper) {i:Nat} (s s':DS),DrawRun P rn nt ops i l s s'→s.Hs.reverse[0]? =some x→s'.Hs.reverse[0]? =some x
  | [],i,s,s',h,h0=>by cases h;exact h0
  | o :: l,i,s,s',h,h0=>by
    cases h with
    | cons ho h=>
      refine stage0 l _ s' h ?_
      rcases ho with ⟨_,rfl⟩|⟨_,_,v,_,rfl⟩|⟨_,v,H,nx,_,rfl⟩
      ·exact h0
      ·exact h0
      ·simp only [List.reverse_cons]
       exact fX h0
end
section
variable {P:Program}
structure Wp (P:Program) (ro:Option Nat) (s:FrS) (Q:Pst):Prop where
 run: ∀ K w0 e w tmps todo ds kd rof cs,St K w0 e s.hp s.nx w→TRel e s.nt s.T tmps→IsRel e s.todo todo→DsRel e s.dfs ds→Ctx e ro kd rof cs→FrOK P K w0 e ro (fr0 s.fn tmps todo ds kd rof) cs w Q
structure Lv (P:Program) (s:FrS) (Q:Pst):Prop where
 run: ∀ K w0 e w tmps todo ds kd cs,St K w0 e s.hp s.nx w→TRel e s.nt s.T tmps→DsRel e s.dfs ds→Ctx e none kd none cs→FrOK P K w0 e none (frL s.fn tmps todo ds kd) cs w Q
def wpr(P:Program):Rn:=fun ro lv s Q=>match lv with
 | false=>Wp P ro s Q
 | true=>ro=none∧Lv P s Q
theorem il(K:Zone)(w0:World):dD P K w0 (wpr P):=fun _ _ _ h e w tmps todo ds kd rof cs=>h.run K w0 e w tmps todo ds kd rof cs
theorem jc(K:Zone)(w0:World):gS P K w0 (wpr P):=fun _ _ h e w tmps todo ds kd cs=>h.2.run K w0 e w tmps todo ds kd cs
theorem Wp.step{ro:Option Nat}{s:FrS}{Q:Pst}(h:jg P (wpr P) ro s Q):Wp P ro s Q:=
 ⟨fun K w0 _ _ _ _ _ _ _ _ hS hT ht hd hc=>n9 (il K w0) (jc K w0) (sP (il K w0)) h hS hT ht hd hc⟩
theorem Lv.fin{s:FrS}{Q:Pst}(h:qG P (wpr P) s Q):Lv P s Q:=
 ⟨fun K w0 _ _ _ _ _ _ _ hS hT hd hc=>qF (il K w0) (jc K w0) h hS hT hd hc⟩
theorem FrOK.mono{K:Zone}{w0 w:World}{e:Env}{ro:Option Nat}{fr:Frame}{cs:List Frame}{Q Q':Pst}(h:FrOK P K w0 e ro fr cs w Q)(hQ: ∀ r,Q r→Q' r):FrOK P K w0 e ro fr cs w Q':=by
 obtain⟨r,hr,h⟩:=h
 exact⟨r,hQ r hr,h⟩
theorem Wp.mono{ro:Option Nat}{s:FrS}{Q Q':Pst}(h:Wp P ro s Q)(hQ: ∀ r,Q r→Q' r):Wp P ro s Q':=
 ⟨fun K w0 e w tmps todo ds kd rof cs a b c d f=>(h.run K w0 e w tmps todo ds kd rof cs a b c d f).mono hQ⟩
theorem Lv.mono{s:FrS}{Q Q':Pst}(h:Lv P s Q)(hQ: ∀ r,Q r→Q' r):Lv P s Q':=
 ⟨fun K w0 e w tmps todo ds kd cs a b c d=>(h.run K w0 e w tmps todo ds kd cs a b c d).mono hQ⟩
def Tr.le{A:Type}(t t':Tr A):Prop:= ∀ n x,t.at' n=some x→t'.at' n=some x
theorem Tr.le_refl{A:Type}(t:Tr A):t.le t:=fun _ _ h=>h
theorem TRel.less{e:Env}{nt:Nat}{T T':Tr SV}{tmps:Array Value}(h:TRel e nt T tmps)(hl:T'.le T):TRel e nt T' tmps:=⟨h.1,fun t s hs=>h.2 t s (hl t s hs)⟩
theorem Wp.less{ro:Option Nat}{fn nt:Nat}{T T':Tr SV}{todo:List AIt}{dfs:List ADf}{H H':ar}{nx:Nat}{Q:Pst}(h:Wp P ro ⟨fn,nt,T',todo,dfs,H',nx⟩ Q)(hT:T'.le T)(hH:H'.le H):Wp P ro ⟨fn,nt,T,todo,dfs,H,nx⟩ Q:=
 ⟨fun K w0 e w tmps todo ds kd rof cs a b c d f=>h.run K w0 e w tmps todo ds kd rof cs (a.sub hH) (b.less hT) c d f⟩
def Fnc(P:Program)(f:FuncId)(args:List SV)(H:ar)(nx:Nat)(Q:Pst):Prop:=eM P (wpr P) f args H nx Q
theorem Fnc.enter{f:FuncId}{args:List SV}{H:ar}{nx:Nat}{Q:Pst}{c:Code}{n:Nat}(hb:lu P f=some c)(hn:sn P f=n)(h:Wp P none ⟨f,max args.length n,ez .nil 0 args,[.code c],[],H,nx⟩ Q):Fnc P f args H nx Q:=by
 unfold Fnc eM
 refine .inr ?_
 rw [hb]
 subst hn
 exact h
theorem Fnc.mono{f:FuncId}{args:List SV}{H:ar}{nx:Nat}{Q Q':Pst}(h:Fnc P f args H nx Q)(hQ: ∀ r,Q r→Q' r):Fnc P f args H nx Q':=by
 unfold Fnc eM at h ⊢
 rcases h with ⟨h1,v,r,h2,h3,h4⟩|h
 ·exact .inl ⟨h1,v,r,h2,hQ r h3,h4⟩
 ·refine .inr ?_
  split at h
  ·exact Wp.mono h hQ
  ·exact h.elim
theorem Fnc.calls{f:FuncId}{args:List SV}{vs:Array Value}{H:ar}{nx:Nat}{Q:Pst}(h:Fnc P f args H nx Q){K:Zone}{w0 w:World}{e:Env}(hS:St K w0 e H nx w)(ha:SV.aq e args=some vs.toList) :
 Calls P f vs w fun x w'=> ∃ r,Q r∧ ∃ e' v,e.le e'∧St K w0 e' r.2.1 r.2.2 w'∧r.1.conc e'=some v∧x = .returned v:=by
 intro cs
 obtain⟨r,hr,e',w',v,h1,h2,h3,tmps,todo,g1,fn,g2,g3⟩:=fh (il K w0) h hS ha (kd:= .normal) (cs:=cs) ⟨rfl,.inl rfl⟩
 exact⟨.returned v,w',_,⟨r,hr,e',v,h1,h2,h3,rfl⟩,g1,rfl,rfl,rfl,rfl,fn,g2,g3⟩
section
variable {ro:Option Nat} {fn nt nx:Nat} {T:Tr SV} {k:List AIt} {dfs:List ADf} {H:ar} {Q:Pst}
theorem aD(h:Wp P ro ⟨fn,nt,T,k,dfs,H,nx⟩ Q):Wp P ro ⟨fn,nt,T,.code .skip :: k,dfs,H,nx⟩ Q:= .step h
theorem pK{l:Nat}(h:Wp P ro ⟨fn,nt,T,k,dfs,H,nx⟩ Q):Wp P ro ⟨fn,nt,T,.code (.label l) :: k,dfs,H,nx⟩ Q:= .step h
theorem an{a b:Code}(h:Wp P ro ⟨fn,nt,T,.code a :: .code b :: k,dfs,H,nx⟩ Q):Wp P ro ⟨fn,nt,T,.code (.seq a b) :: k,dfs,H,nx⟩ Q:= .step h
theorem bf{id:Nat}{b:Code}(h:Wp P ro ⟨fn,nt,T,.code b :: .inBlock id :: k,dfs,H,nx⟩ Q):Wp P ro ⟨fn,nt,T,.code (.block id b) :: k,dfs,H,nx⟩ Q:= .step h
theorem bw{id:Nat}(h:Wp P ro ⟨fn,nt,T,k,dfs,H,nx⟩ Q):Wp P ro ⟨fn,nt,T,.inBlock id :: k,dfs,H,nx⟩ Q:= .step h
theorem pJ{b:Code}(h:Wp P ro ⟨fn,nt,T,.code b :: .inScope b :: k,dfs,H,nx⟩ Q):Wp P ro ⟨fn,nt,T,.code (.scope b) :: k,dfs,H,nx⟩ Q:= .step h
theorem kD{b:Code}(h:Wp P ro ⟨fn,nt,T,.code b :: .inLoop b :: k,dfs,H,nx⟩ Q):Wp P ro ⟨fn,nt,T,.code (.loop b) :: k,dfs,H,nx⟩ Q:= .step h
theorem pO{b:Code}(h:Wp P ro ⟨fn,nt,T,.code b :: .inLoop b :: k,dfs,H,nx⟩ Q):Wp P ro ⟨fn,nt,T,.inLoop b :: k,dfs,H,nx⟩ Q:= .step h
theorem bZ{id:Nat}{k':List AIt}(hx:iP id k=some k')(h:Wp P ro ⟨fn,nt,T,k',dfs,H,nx⟩ Q):Wp P ro ⟨fn,nt,T,.code (.exit id) :: k,dfs,H,nx⟩ Q:=by
 refine .step ?_
 simp only [jg,l8,hx]
 exact h
theorem pi{c:Operand}{a b:Code}{t:Bool}(hc:aj T c=some (.sc (.bool t)))(h1:t=true→Wp P ro ⟨fn,nt,T,.code a :: k,dfs,H,nx⟩ Q)(h2:t=false→Wp P ro ⟨fn,nt,T,.code b :: k,dfs,H,nx⟩ Q) :
 Wp P ro ⟨fn,nt,T,.code (.cond c a b) :: k,dfs,H,nx⟩ Q:= .step ⟨t,hc,h1,h2⟩
theorem ay{c:Operand}{a b:Code}(hc:aj T c=some (.sc (.bool true)))(h1:Wp P ro ⟨fn,nt,T,.code a :: k,dfs,H,nx⟩ Q) :
 Wp P ro ⟨fn,nt,T,.code (.cond c a b) :: k,dfs,H,nx⟩ Q:=pi hc (fun _=>h1) (fun h=>by cases h)
theorem ax{c:Operand}{a b:Code}(hc:aj T c=some (.sc (.bool false)))(h1:Wp P ro ⟨fn,nt,T,.code b :: k,dfs,H,nx⟩ Q) :
 Wp P ro ⟨fn,nt,T,.code (.cond c a b) :: k,dfs,H,nx⟩ Q:=pi hc (fun h=>by cases h) (fun _=>h1)
theorem nV{id:Nat}{ops:List Oper}(h:Wp P ro ⟨fn,nt,T,.inReg ops.toArray 0 ops :: k,dfs,H,nx⟩ Q):Wp P ro ⟨fn,nt,T,.code (.region id ops.toArray false) :: k,dfs,H,nx⟩ Q:= .step h
theorem ac{ops:Array Oper}{i:Nat}(h:Wp P ro ⟨fn,nt,T,k,dfs,H,nx⟩ Q):Wp P ro ⟨fn,nt,T,.inReg ops i [] :: k,dfs,H,nx⟩ Q:= .step h
theorem y_ret{l:List ResultVar}{vs:List SV}(hl:ch P fn=some l)(hv:ix P H T l=some vs)(h:Q (dc vs,H,nx)):Wp P none ⟨fn,nt,T,.code .ret :: k,[],H,nx⟩ Q:=by
 refine .step ⟨rfl,.fin ?_⟩
 simp only [qG,hl]
 exact⟨vs,hv,h⟩
theorem y_end{l:List ResultVar}{vs:List SV}(hl:ch P fn=some l)(hv:ix P H T l=some vs)(h:Q (dc vs,H,nx)):Wp P none ⟨fn,nt,T,[],[],H,nx⟩ Q:=by
 refine .step ⟨rfl,.fin ?_⟩
 simp only [qG,hl]
 exact⟨vs,hv,h⟩
theorem ph(h:Lv P ⟨fn,nt,T,.code .ret :: k,dfs,H,nx⟩ Q):Wp P none ⟨fn,nt,T,.code .ret :: k,dfs,H,nx⟩ Q:= .step ⟨rfl,h⟩
theorem qv{g:FuncId}{args:List SV}(hg:bu P g=true)(h:Fnc P g args H nx (fun r=>Lv P ⟨fn,nt,T,k,dfs,r.2.1,r.2.2⟩ Q)):Lv P ⟨fn,nt,T,k,.call g args :: dfs,H,nx⟩ Q:=by
 refine .fin ⟨hg,?_⟩
 exact Fnc.mono h (fun r hr=>⟨rfl,hr⟩)
theorem oL{r:Nat}{l:List ADf}(hr:H.at' r=some (.dfd (some l)))(h:Lv P ⟨fn,nt,T,k,l ++ dfs,H.set r (.dfd none),nx⟩ Q):Lv P ⟨fn,nt,T,k,.taken r :: dfs,H,nx⟩ Q:=by
 refine .fin ?_
 simp only [qG,hr]
 exact⟨rfl,h⟩
theorem pt{l:List ResultVar}{vs:List SV}(hl:ch P fn=some l)(hv:ix P H T l=some vs)(h:Q (dc vs,H,nx)):Lv P ⟨fn,nt,T,k,[],H,nx⟩ Q:=by
 refine .fin ?_
 simp only [qG,hl]
 exact⟨vs,hv,h⟩
theorem y_not{ops:Array Oper}{i:Nat}{o:Oper}{l:List Oper}(hw:ak T ops o=some false)(h:Wp P ro ⟨fn,nt,eg nt T o.dst cf,.inReg ops (i+1) l :: k,dfs,H,nx⟩ Q) :
 Wp P ro ⟨fn,nt,T,.inReg ops i (o :: l) :: k,dfs,H,nx⟩ Q:= .step (.inl ⟨hw,h⟩)
theorem OpDoes.any{T:Tr SV}{o:Oper}{out:Out}{O:Out→Prop}(h:OpDoes P T H nx o out)(hO:O out):sT P T H nx o O:=fun K w0 e w ev a b=>⟨out,hO,h K w0 e w ev a b⟩
theorem ReadDoes.does{T:Tr SV}{o:Oper}{v:SV}(h:ReadDoes P T H o v):OpDoes P T H nx o (.val v,H,nx):=by
 intro K w0 e w ev hS hE
 obtain⟨u,hu,hr⟩:=h _ _ _ _ _ _ hS hE
 exact⟨e,w,Env.le_refl e,hS,u,hu,hr⟩
theorem be{ops:Array Oper}{i:Nat}{d:Option Tmp}{op:Op}{ty:TypeId}{pos:String}{af:Array Edge}{gd:Option (Nat×Bool)}{l:List Oper}{v:SV}{H':ar}{nx':Nat}(hw:ak T ops ⟨d,op,ty,pos,af,gd⟩=some true)
 (hd:ro=none∨ ∀ c,op ≠ .defer c) (ho:OpDoes P T H nx ⟨d,op,ty,pos,af,gd⟩ (.val v,H',nx'))
 (h:Wp P ro ⟨fn,nt,eg nt T d v,.inReg ops (i+1) l :: k,dfs,H',nx'⟩ Q):Wp P ro ⟨fn,nt,T,.inReg ops i (⟨d,op,ty,pos,af,gd⟩ :: l) :: k,dfs,H,nx⟩ Q:=
 .step (.inr ⟨hw,hd,ho.any h⟩)
theorem kE{ops:Array Oper}{i:Nat}{d:Option Tmp}{op:Op}{ty:TypeId}{pos:String}{af:Array Edge}{gd:Option (Nat×Bool)}{l:List Oper}{H':ar}{nx':Nat}(hw:ak T ops ⟨d,op,ty,pos,af,gd⟩=some true)
 (hd:ro=none∨ ∀ c,op ≠ .defer c) (ho:OpDoes P T H nx ⟨d,op,ty,pos,af,gd⟩ (.skip,H',nx'))
 (h:Wp P ro ⟨fn,nt,eg nt T d cf,.inReg ops (i+1) l :: k,dfs,H',nx'⟩ Q):Wp P ro ⟨fn,nt,T,.inReg ops i (⟨d,op,ty,pos,af,gd⟩ :: l) :: k,dfs,H,nx⟩ Q:=
 .step (.inr ⟨hw,hd,ho.any h⟩)
theorem ml{ops:Array Oper}{i:Nat}{d:Option Tmp}{c:Call}{ty:TypeId}{pos:String}{af:Array Edge}{gd:Option (Nat×Bool)}{l:List Oper}{g:FuncId}{args:List SV}(hw:ak T ops ⟨d,.call c,ty,pos,af,gd⟩=some true)
 (hc:bh P T c=some (.enter g args))
 (h:Fnc P g args H nx (fun r=>Wp P ro ⟨fn,nt,eg nt T d r.1,.inReg ops (i+1) l :: k,dfs,r.2.1,r.2.2⟩ Q)):Wp P ro ⟨fn,nt,T,.inReg ops i (⟨d,.call c,ty,pos,af,gd⟩ :: l) :: k,dfs,H,nx⟩ Q:=by
 refine .step (.inr ⟨hw,.inr (fun c hc=>by cases hc),OpDoes.any (out:=(.enter g args,H,nx)) ?_ h⟩)
 intro K w0 e w ev hS hE
 have he:dN P T H nx ⟨d,.call c,ty,pos,af,gd⟩=some (.enter g args,H,nx):=by
  unfold dN
  simp only
  cases hcc:c.callee with
  | builtin b=>unfold bh at hc;rw [hcc] at hc;split at hc <;> cases hc
  | _=>simp only [hc,tu]
 exact e9 hS hE he
end
end
noncomputable section
mutual
def SV.ren(ρ:Nat→Nat):SV→SV
 | .sc v=> .sc v
 | .ptr b o=> .ptr (ρ b) o
 | .sl b o n c=> .sl (ρ b) o n c
 | .slu b eo n=> .slu (ρ b) eo n
 | .mp b=> .mp (ρ b)
 | .yld b=> .yld (ρ b)
 | .agg l=> .agg (SV.jW ρ l)
 | .tup l=> .tup (SV.jW ρ l)
 | .ifc t v=> .ifc t (SV.ren ρ v)
 | .fn f a b=> .fn f (SV.jW ρ a) (SV.jW ρ b)
def SV.jW(ρ:Nat→Nat):List SV→List SV
 | []=> []
 | x :: l=>SV.ren ρ x :: SV.jW ρ l
end
def ADf.ren(ρ:Nat→Nat):ADf→ADf
 | .call f args=> .call f (SV.jW ρ args)
 | .taken r=> .taken (ρ r)
def po(ρ:Nat→Nat)(c:Tr SV):Tr SV:=fun i=>(c i).map (SV.ren ρ)
def r7(ρ:Nat→Nat)(l:List (Value×SV×Nat)):List (Value×SV×Nat):=l.map fun x=>(x.1,x.2.1.ren ρ,x.2.2)
def VO.ren(ρ:Nat→Nat):VO→VO
 | .cells n t c=> .cells n t (po ρ c)
 | .row ro ne sz t c=> .row ro ne sz t (po ρ c)
 | .map l clock=> .map (r7 ρ l) clock
 | .iter m since seen stepped=> .iter (m.map ρ) since seen stepped
 | .siter s pos=> .siter s pos
 | .loop st pend fn nt T params assign body dr=> .loop st pend fn nt (po ρ T) params assign body (ρ dr)
 | .dfd calls=> .dfd (calls.map (List.map (ADf.ren ρ)))
def AIt.ren(ρ:Nat→Nat):AIt→AIt
 | .inRange l=> .inRange (ρ l)
 | .endRange l=> .endRange (ρ l)
 | i=>i
end
section
variable {e:Env} {ρ:Nat→Nat}
abbrev pull(e:Env)(ρ:Nat→Nat):Env:=fun n=>e (ρ n)
mutual
theorem bS: ∀ s:SV,(s.ren ρ).conc e=s.conc (pull e ρ)
 | .sc v=>rfl
 | .ptr b o=>rfl
 | .sl b o n c=>rfl
 | .slu b eo n=>rfl
 | .mp b=>rfl
 | .yld b=>rfl
 | .agg l=>by simp only [SV.ren,SV.conc,dn l]
 | .tup l=>by simp only [SV.ren,SV.conc,dn l]
 | .ifc t v=>by simp only [SV.ren,SV.conc,bS v]
 | .fn f a b=>by simp only [SV.ren,SV.conc,dn a,dn b]
theorem dn: ∀ l:List SV,SV.aq e (SV.jW ρ l)=SV.aq (pull e ρ) l
 | []=>rfl
 | x :: l=>by simp only [SV.jW,SV.aq,bS x,dn l]
end
theorem kc(c:Tr SV)(i:Nat):(po ρ c).at' i=(c.at' i).map (SV.ren ρ):=rfl
theorem jm{c:Tr SV}{i:Nat}{s:SV}(h:(po ρ c).at' i=some s): ∃ s0,c.at' i=some s0∧s=s0.ren ρ:=by
 rw [kc,s7] at h
 obtain⟨s0,h1,h2⟩:=h
 exact⟨s0,h1,h2.symm⟩
theorem o6{nt:Nat}{T:Tr SV}{tmps:Array Value}:TRel e nt (po ρ T) tmps↔TRel (pull e ρ) nt T tmps:=by
 constructor
 ·rintro⟨h1,h2⟩
  refine⟨h1,fun t s hs=>?_⟩
  obtain⟨v,g1,g2⟩:=h2 t (s.ren ρ) (by rw [kc,hs];rfl)
  exact⟨v,by rw [← bS];exact g1,g2⟩
 ·rintro⟨h1,h2⟩
  refine⟨h1,fun t s hs=>?_⟩
  obtain⟨s0,g1,rfl⟩:=jm hs
  obtain⟨v,g2,g3⟩:=h2 t s0 g1
  exact⟨v,by rw [bS];exact g2,g3⟩
theorem pe{a:ADf}{d:Deferred}:DRel e (a.ren ρ) d↔DRel (pull e ρ) a d:=by
 cases a with
 | call f args=>simp only [ADf.ren,DRel,dn]
 | taken r=>exact Iff.rfl
theorem fk: ∀ {l:List ADf} {m:List Deferred},DsRel e (l.map (ADf.ren ρ)) m↔DsRel (pull e ρ) l m
 | [],[]=>Iff.rfl
 | a :: l,d :: m=>by simp only [tj,DsRel,pe,fk]
 | [],_ :: _=>Iff.rfl
 | _ :: _,[]=>Iff.rfl
theorem lA: ∀ {l:List (Value×SV×Nat)} {m:List MapEntry},MRel e (r7 ρ l) m↔MRel (pull e ρ) l m
 | [],[]=>Iff.rfl
 | (k,s,b) :: l,x :: m=>by
   have:=lA (l:=l) (m:=m)
   simp only [r7] at this
   simp only [r7,tj,MRel,bS,this]
 | [],_ :: _=>Iff.rfl
 | (_,_,_) :: _,[]=>by simp [r7,MRel]
theorem pb{a:AIt}{i:Item}:IRel e (a.ren ρ) i↔IRel (pull e ρ) a i:=by cases a <;> exact Iff.rfl
theorem gT: ∀ {l:List AIt} {m:List Item},IsRel e (l.map (AIt.ren ρ)) m↔IsRel (pull e ρ) l m
 | [],[]=>Iff.rfl
 | a :: l,d :: m=>by simp only [tj,IsRel,pb,gT]
 | [],_ :: _=>Iff.rfl
 | _ :: _,[]=>Iff.rfl
theorem ff{n:Nat}{c:Tr SV}{g:Nat→Option Value}:(∀ i,i<n→ ∀ s,(po ρ c).at' i=some s→ ∃ v,s.conc e=some v∧g i=some v)↔(∀ i,i<n→ ∀ s,c.at' i=some s→ ∃ v,s.conc (pull e ρ)=some v∧g i=some v):=by
 constructor
 ·intro h i hi s hs
  obtain⟨v,g1,g2⟩:=h i hi (s.ren ρ) (by rw [kc,hs];rfl)
  exact⟨v,by rw [← bS];exact g1,g2⟩
 ·intro h i hi s hs
  obtain⟨s0,g1,rfl⟩:=jm hs
  obtain⟨v,g2,g3⟩:=h i hi s0 g1
  exact⟨v,by rw [bS];exact g2,g3⟩
theorem o8{vo:VO}{x:Ent}{o:Obj}:ORel e (vo.ren ρ) x o↔ORel (pull e ρ) vo x o:=by
 cases vo with
 | cells n t c=>
   simp only [VO.ren,ORel]
   constructor
   ·rintro⟨h0,cs,fz,h1,h2,h3,h4⟩;exact⟨h0,cs,fz,h1,h2,h3,ff.1 h4⟩
   ·rintro⟨h0,cs,fz,h1,h2,h3,h4⟩;exact⟨h0,cs,fz,h1,h2,h3,ff.2 h4⟩
 | row ro ne sz t c=>
   simp only [VO.ren,ORel]
   constructor
   ·rintro⟨h0,cs,fz,tt,h1,h2,h3,h4,h5,h6,h7⟩;exact⟨h0,cs,fz,tt,h1,h2,h3,h4,h5,h6,ff.1 h7⟩
   ·rintro⟨h0,cs,fz,tt,h1,h2,h3,h4,h5,h6,h7⟩;exact⟨h0,cs,fz,tt,h1,h2,h3,h4,h5,h6,ff.2 h7⟩
 | map l clock=>simp only [VO.ren,ORel,lA]
 | iter m since seen stepped=>cases m <;> exact Iff.rfl
 | siter s pos=>exact Iff.rfl
 | loop st pend fn nt T params assign body dr=>simp only [VO.ren,ORel,o6]
 | dfd calls=>
   cases calls with
   | none=>exact Iff.rfl
   | some l=>simp only [VO.ren,ORel,tu,fk]
theorem ep(ρ:Nat→Nat)(vo:VO):(vo.ren ρ).ro=vo.ro:=by cases vo <;> rfl
theorem ec{K:Zone}{w:World}{vo:VO}{x:Ent}:Lies K w e (vo.ren ρ) x↔Lies K w (pull e ρ) vo x:=by
 unfold Lies
 simp only [o8,ep]
 refine or_congr Iff.rfl ?_
 constructor
 ·rintro⟨h1,h2,ro,t,c,h3,h4⟩
  refine⟨h1,h2,ro,t,?_⟩
  cases vo with
  | row ro' ne sz t' c'=>
    simp only [VO.ren] at h3
    injection h3 with a0 a b c d
    subst a0 a b c
    exact⟨_,rfl,h4⟩
  | _=>simp [VO.ren] at h3
 ·rintro⟨h1,h2,ro,t,c,rfl,h4⟩
  exact⟨h1,h2,ro,t,po ρ c,rfl,h4⟩
end
def ext(L:List Nat)(nx:Nat):Nat→Nat:=fun m=>if m<L.length then L.getD m 0 else nx+(m-L.length)
structure ExtOk (L:List Nat) (nx:Nat):Prop where
 lt: ∀ n∈L,n<nx
 nodup:L.Nodup
theorem fv{L:List Nat}{nx:Nat}(h:ExtOk L nx){a b:Nat}(hab:ext L nx a=ext L nx b):a=b:=by
 unfold ext at hab
 have key: ∀ m,m<L.length→L.getD m 0<nx:=fun m hm=>h.lt _ (by rw [tc,sY hm];exact tA hm)
 by_cases ha:a<L.length
 ·by_cases hb:b<L.length
  ·rw [if_pos ha,if_pos hb] at hab
   rw [tc,sY ha,tc,sY hb] at hab
   exact(List.getElem_inj h.nodup).1 hab
  ·rw [if_pos ha,if_neg hb] at hab
   have:=key a ha;omega
 ·by_cases hb:b<L.length
  ·rw [if_neg ha,if_pos hb] at hab
   have:=key b hb;omega
  ·rw [if_neg ha,if_neg hb] at hab;omega
open Classical in
noncomputable def push (e e1:Env) (ρ:Nat→Nat):Env:=fun n=>if h: ∃ m,n=ρ m then e1 (Classical.choose h) else e n
theorem dK{e e1:Env}{ρ:Nat→Nat}(hi: ∀ a b,ρ a=ρ b→a=b)(m:Nat):push e e1 ρ (ρ m)=e1 m:=by
 unfold push
 have h: ∃ m',ρ m=ρ m':=⟨m,rfl⟩
 rw [dif_pos h,hi _ _ (Classical.choose_spec h).symm]
theorem gv{e e1:Env}{ρ:Nat→Nat}(hi: ∀ a b,ρ a=ρ b→a=b):pull (push e e1 ρ) ρ=e1:=funext fun m=>dK hi m
theorem cQ{e e1:Env}{ρ:Nat→Nat}{n:Nat}(h: ∀ m,n≠ρ m):push e e1 ρ n=e n:=by
 unfold push
 rw [dif_neg]
 rintro⟨m,hm⟩
 exact h m hm
theorem mT{e e1:Env}{ρ:Nat→Nat}(hi: ∀ a b,ρ a=ρ b→a=b)(h:(pull e ρ).le e1):e.le (push e e1 ρ):=by
 intro n x hx
 by_cases hn: ∃ m,n=ρ m
 ·obtain⟨m,rfl⟩:=hn
  rw [dK hi]
  exact h m x hx
 ·rw [cQ (fun m hm=>hn ⟨m,hm⟩)]
  exact hx
def jY(K:Zone)(e:Env)(H:ar)(ρ:Nat→Nat):Zone where
 all:=fun j=>K j∨ ∃ n vo x,H.at' n=some vo∧(∀ m,n≠ρ m)∧e n=some x∧x.nil=false∧vo.ro=false∧x.blk=j
 read:=K.read
 sub:=fun j h=> .inl (K.sub j h)
theorem St.inside{K:Zone}{w0 w:World}{e:Env}{H H0:ar}{L:List Nat}{nx:Nat}(hS:St K w0 e H nx w)(hL:ExtOk L nx)(hH: ∀ m vo,H0.at' m=some vo→m<L.length∧H.at' (L.getD m 0)=some (vo.ren (ext L nx))) :
 St (jY K e H (ext L nx)) w (pull e (ext L nx)) H0 L.length w:=by
 have at0: ∀ {m:Nat} {vo:VO},H0.at' m=some vo→H.at' (ext L nx m)=some (vo.ren (ext L nx)):=by
  intro m vo h
  obtain⟨h1,h2⟩:=hH m vo h
  unfold ext
  rw [if_pos h1]
  exact h2
 refine⟨⟨rfl,rfl,rfl,th _,fun j hj=>?_,fun _ _=>rfl⟩,?_,?_,?_⟩
 ·rcases hj with hj|⟨n,vo,x,h1,_,h3,h4,_,rfl⟩
  ·have:=hS.below.old j hj;have:=hS.below.size;omega
  ·rcases hS.lies h1 h3 with ⟨_,o,_,hw,_⟩|⟨h5,_⟩
   ·exact cR hw
   ·rw [h4] at h5;cases h5
 ·intro m vo hm
  obtain⟨x,hx,hl⟩:=hS.rel _ _ (at0 hm)
  refine⟨x,hx,?_⟩
  rcases ec.1 hl with ⟨h0,o,h1,h2,h3⟩|h
  ·refine .inl ⟨h0,o,⟨h1.1,fun hr=>?_⟩,h2,h3⟩
   rintro(hk|⟨n,vo',x',g1,g2,g3,g4,g6,g5⟩)
   ·exact h1.2 hr hk
   ·exact absurd g5 (hS.inj _ _ _ _ _ _ g1 (at0 hm) g3 hx (g2 m) g4 h0 g6 (by rw [ep];exact hr))
  ·exact .inr h
 ·intro m m' vo vo' x x' h1 h2 h3 h4 hne h5 h6 h7 h8
  exact hS.inj _ _ _ _ _ _ (at0 h1) (at0 h2) h3 h4 (fun h=>hne (fv hL h)) h5 h6 (by rw [ep];exact h7) (by rw [ep];exact h8)
 ·intro m hm
  show e (ext L nx m)=none
  unfold ext
  rw [if_neg (by omega)]
  exact hS.fresh _ (by omega)
theorem St.outside{K:Zone}{w0 w w1:World}{e e1:Env}{H H1 Hc:ar}{L:List Nat}{nx nx1:Nat}(hS:St K w0 e H nx w)(hL:ExtOk L nx)(hS1:St (jY K e H (ext L nx)) w e1 H1 nx1 w1)(hle:(pull e (ext L nx)).le e1)
 (hc: ∀ n vo,Hc.at' n=some vo→(∃ m vo0,n=ext L nx m∧H1.at' m=some vo0∧vo=vo0.ren (ext L nx))∨((∀ m,n≠ext L nx m)∧H.at' n=some vo)) :
 e.le (push e e1 (ext L nx))∧St K w0 (push e e1 (ext L nx)) Hc (nx+(nx1-L.length)) w1:=by
 have hi: ∀ a b,ext L nx a=ext L nx b→a=b:=fun a b h=>fv hL h
 have hle2:=mT hi hle
 refine⟨hle2,?_⟩
 have hpp:=gv (e:=e) (e1:=e1) hi
 have new: ∀ {m:Nat} {vo0:VO},H1.at' m=some vo0→ ∃ x,push e e1 (ext L nx) (ext L nx m)=some x∧Lies K w1 (push e e1 (ext L nx)) (vo0.ren (ext L nx)) x∧(x.nil=false→vo0.ro=false→ ¬ (jY K e H (ext L nx)) x.blk):=by
  intro m vo0 hm
  obtain⟨x,hx,hl⟩:=hS1.rel m vo0 hm
  refine⟨x,by rw [dK hi];exact hx,?_,?_⟩
  ·rw [ec,hpp]
   rcases hl with ⟨h0,o,h1,h2,h3⟩|h
   ·exact .inl ⟨h0,o,⟨h1.1,fun hr hk=>h1.2 hr (.inl hk)⟩,h2,h3⟩
   ·exact .inr h
  ·intro hn hr
   rcases hl with ⟨_,o,h1,_,_⟩|⟨h,_⟩
   ·exact h1.2 hr
   ·rw [hn] at h;cases h
 have old: ∀ {n:Nat} {vo:VO},(∀ m,n≠ext L nx m)→H.at' n=some vo→ ∃ x,e n=some x∧push e e1 (ext L nx) n=some x∧Lies K w1 (push e e1 (ext L nx)) vo x∧(x.nil=false→vo.ro=false→(jY K e H (ext L nx)) x.blk):=by
  intro n vo hne hn
  obtain⟨x,hx,hl⟩:=hS.rel n vo hn
  have hap:x.nil=false→vo.ro=false→(jY K e H (ext L nx)) x.blk:=fun h0 hr=> .inr ⟨n,vo,x,hn,hne,hx,h0,hr,rfl⟩
  refine⟨x,hx,by rw [cQ hne];exact hx,?_,hap⟩
  rcases hl with ⟨h0,o,h1,h2,h3⟩|h
  ·refine .inl ⟨h0,o,h1,?_,h3.mono hle2⟩
   rw [hS1.below.block x.blk ?_]
   ·exact h2
   ·cases hr:vo.ro with
    | false=>exact hap h0 hr
    | true=>exact .inl (K.sub _ (h1.1 hr))
  ·exact .inr h
 refine⟨⟨hS1.below.os.trans hS.below.os,hS1.below.tape.trans hS.below.tape,hS1.below.output.trans hS.below.output,tw hS.below.size hS1.below.size,hS.below.old,fun j hj=>?_⟩,?_,?_,?_⟩
 ·rw [hS1.below.block j (.inl hj)]
  exact hS.below.block j hj
 ·intro n vo hn
  rcases hc n vo hn with ⟨m,vo0,rfl,h1,rfl⟩|⟨h1,h2⟩
  ·obtain⟨x,g1,g2,_⟩:=new h1
   exact⟨x,g1,g2⟩
  ·obtain⟨x,_,g1,g2,_⟩:=old h1 h2
   exact⟨x,g1,g2⟩
 ·intro n n' vo vo' x x' hn hn' hx hx' hne h0 h0' hr hr'
  rcases hc n vo hn with ⟨m,vo0,rfl,h1,rfl⟩|⟨h1,h2⟩
  ·rw [ep] at hr
   rcases hc n' vo' hn' with ⟨m',vo0',rfl,h1',rfl⟩|⟨h1',h2'⟩
   ·rw [dK hi] at hx hx'
    rw [ep] at hr'
    exact hS1.inj _ _ _ _ _ _ h1 h1' hx hx' (fun h=>hne (by rw [h])) h0 h0' hr hr'
   ·obtain⟨y,g1,_,g2⟩:=new h1
    rw [hx] at g1
    simp only [sW] at g1
    subst g1
    obtain⟨y',_,g1',_,g2'⟩:=old h1' h2'
    rw [hx'] at g1'
    simp only [sW] at g1'
    subst g1'
    exact fun h=>g2 h0 hr (h ▸ g2' h0' hr')
  ·rcases hc n' vo' hn' with ⟨m',vo0',rfl,h1',rfl⟩|⟨h1',h2'⟩
   ·rw [ep] at hr'
    obtain⟨y,g1,_,g2⟩:=new h1'
    rw [hx'] at g1
    simp only [sW] at g1
    subst g1
    obtain⟨y',_,g1',_,g2'⟩:=old h1 h2
    rw [hx] at g1'
    simp only [sW] at g1'
    subst g1'
    exact fun h=>g2 h0' hr' (h ▸ g2' h0 hr)
   ·rw [cQ h1] at hx
    rw [cQ h1'] at hx'
    exact hS.inj _ _ _ _ _ _ h2 h2' hx hx' hne h0 h0' hr hr'
 ·intro n hn
  by_cases hex: ∃ m,n=ext L nx m
  ·obtain⟨m,rfl⟩:=hex
   rw [dK hi]
   refine hS1.fresh _ ?_
   unfold ext at hn
   by_cases hm:m<L.length
   ·rw [if_pos hm] at hn
    have:=hL.lt (L.getD m 0) (by rw [tc,sY hm];exact tA hm)
    omega
   ·rw [if_neg hm] at hn;omega
  ·rw [cQ (fun m hm=>hex ⟨m,hm⟩)]
   exact hS.fresh n (by omega)
section
variable {P:Program}
theorem St.pull{K:Zone}{w0 w:World}{e:Env}{H H0:ar}{L:List Nat}{nx:Nat}(hS:St K w0 e H nx w)(hL:ExtOk L nx)(hH: ∀ m vo,H0.at' m=some vo→m<L.length∧H.at' (L.getD m 0)=some (vo.ren (ext L nx))) :
 St K w0 (pull e (ext L nx)) H0 L.length w:=by
 have at0: ∀ {m:Nat} {vo:VO},H0.at' m=some vo→H.at' (ext L nx m)=some (vo.ren (ext L nx)):=by
  intro m vo h
  obtain⟨h1,h2⟩:=hH m vo h
  unfold ext
  rw [if_pos h1]
  exact h2
 refine⟨hS.below,fun m vo hm=>?_,fun m m' vo vo' x x' h1 h2 h3 h4 hne h5 h6 h7 h8=>?_,fun m hm=>?_⟩
 ·obtain⟨x,hx,hl⟩:=hS.rel _ _ (at0 hm)
  exact⟨x,hx,ec.1 hl⟩
 ·exact hS.inj _ _ _ _ _ _ (at0 h1) (at0 h2) h3 h4 (fun h=>hne (fv hL h)) h5 h6 (by rw [ep];exact h7) (by rw [ep];exact h8)
 ·show e (ext L nx m)=none
  unfold ext
  rw [if_neg (by omega)]
  exact hS.fresh _ (by omega)
structure Cz where
 v:SV
 objs:List (Option VO)
def HasO(ρ:Nat→Nat)(H:ar):Nat→List (Option VO)→Prop
 | _,[]=>True
 | i,none :: l=>HasO ρ H (i+1) l
 | i,some vo :: l=>H.at' (ρ i)=some (vo.ren ρ)∧HasO ρ H (i+1) l
theorem HasO.get{ρ:Nat→Nat}{H:ar}: ∀ {l:List (Option VO)} {i:Nat},HasO ρ H i l→ ∀ {j:Nat} {vo:VO},l[j]? =some (some vo)→H.at' (ρ (i+j))=some (vo.ren ρ)
 | [],i,_,j,vo,h=>by simp at h
 | none :: l,i,hh,j,vo,h=>by
   cases j with
   | zero=>simp at h
   | succ j=>
     have:=HasO.get (l:=l) (i:=i+1) hh (j:=j) (vo:=vo) (by simpa using h)
     rw [show i+(j+1)=i+1+j by omega]
     exact this
 | some v :: l,i,hh,j,vo,h=>by
   cases j with
   | zero=>
     simp only [tf,sW] at h
     subst h
     exact hh.1
   | succ j=>
     have:=HasO.get (l:=l) (i:=i+1) hh.2 (j:=j) (vo:=vo) (by simpa using h)
     rw [show i+(j+1)=i+1+j by omega]
     exact this
theorem HasO.of{ρ:Nat→Nat}{H:ar}: ∀ {l:List (Option VO)} {i:Nat},(∀ (j:Nat) vo,l[j]? =some (some vo)→H.at' (ρ (i+j))=some (vo.ren ρ))→HasO ρ H i l
 | [],i,_=>trivial
 | none :: l,i,h=>HasO.of (l:=l) (i:=i+1) (fun j vo hj=>by have:=h (j+1) vo (by simpa using hj);rw [show i+1+j=i+(j+1) by omega];exact this)
 | some v :: l,i,h=>⟨by have:=h 0 v rfl;simpa using this,HasO.of (l:=l) (i:=i+1) (fun j vo hj=>by have:=h (j+1) vo (by simpa using hj);rw [show i+1+j=i+(j+1) by omega];exact this)⟩
def nms(k0:Nat)(σ:List Nat):List Nat:=List.range k0 ++ σ
def Ends(k0:Nat)(c:Cz):Pst:=fun r=> ∃ σ:List Nat,ExtOk (nms k0 σ) r.2.2∧k0+σ.length=c.objs.length∧r.1=c.v.ren (ext (nms k0 σ) r.2.2)∧HasO (ext (nms k0 σ) r.2.2) r.2.1 0 c.objs
def nr(l:List VO):ar:=fun i=>l[i]?
def Ctr(P:Program)(f:FuncId)(args:List SV)(pre:List VO)(Q:Cz→Prop):Prop:=Fnc P f args (nr pre) pre.length (fun r=> ∃ c,Q c∧Ends pre.length c r)
theorem lU(k0:Nat)(σ:List Nat):(nms k0 σ).length=k0+σ.length:=by simp [nms]
theorem qt{k0:Nat}{σ:List Nat}{i:Nat}(h:i<k0):(nms k0 σ).getD i 0=i:=by
 unfold nms
 rw [tc,te (by simpa using h),List.getElem?_range h]
 rfl
def wrO(ρ:Nat→Nat)(H:ar):Nat→List (Option VO)→ar
 | _,[]=>H
 | i,none :: l=>wrO ρ (H.del (ρ i)) (i+1) l
 | i,some vo :: l=>wrO ρ (H.set (ρ i) vo) (i+1) l
theorem mm{ρ:Nat→Nat}(hi: ∀ a b,ρ a=ρ b→a=b): ∀ {l:List (Option VO)} {i:Nat} {H:ar} {n:Nat} {vo:VO},(wrO ρ H i l).at' n=some vo→(∃ j,n=ρ (i+j)∧l[j]? =some (some vo))∨((∀ j,j<l.length→n≠ρ (i+j))∧H.at' n=some vo)
 | [],i,H,n,vo,h=> .inr ⟨fun j hj=>by simp at hj,h⟩
 | none :: l,i,H,n,vo,h=>by
   rcases mm hi (l:=l) (i:=i+1) h with ⟨j,rfl,h2⟩|⟨h1,h2⟩
   ·exact .inl ⟨j+1,by rw [show i+1+j=i+(j+1) by omega],by simpa using h2⟩
   ·obtain⟨h3,h4⟩:=Tr.eO h2
    refine .inr ⟨fun j hj=>?_,h4⟩
    cases j with
    | zero=>exact h3
    | succ j=>rw [show i+(j+1)=i+1+j by omega];exact h1 j (by simpa using hj)
 | some v :: l,i,H,n,vo,h=>by
   rcases mm hi (l:=l) (i:=i+1) h with ⟨j,rfl,h2⟩|⟨h1,h2⟩
   ·exact .inl ⟨j+1,by rw [show i+1+j=i+(j+1) by omega],by simpa using h2⟩
   ·rcases Tr.aT h2 with ⟨rfl,rfl⟩|⟨h3,h4⟩
    ·exact .inl ⟨0,rfl,rfl⟩
    ·refine .inr ⟨fun j hj=>?_,h4⟩
     cases j with
     | zero=>exact h3
     | succ j=>rw [show i+(j+1)=i+1+j by omega];exact h1 j (by simpa using hj)
theorem Ctr.call{f:FuncId}{args0 args:List SV}{pre:List VO}{Q0:Cz→Prop}(h:Ctr P f args0 pre Q0)(L:List Nat){H:ar}{nx:Nat}{Q:Pst}(hlen:L.length=pre.length)(hL:ExtOk L nx)(ha:args=args0.map (SV.ren (ext L nx)))
 (hp:HasO (ext L nx) H 0 (pre.map some))
 (hQ: ∀ c,Q0 c→pre.length≤c.objs.length→Q (c.v.ren (ext L nx),wrO (ext L nx) H 0 (c.objs.map (Option.map (VO.ren (ext L nx)))),nx+(c.objs.length-pre.length))):Fnc P f args H nx Q:=by
 subst ha
 have hi: ∀ a b,ext L nx a=ext L nx b→a=b:=fun a b h=>fv hL h
 unfold Ctr Fnc eM at h
 unfold Fnc eM
 have inside: ∀ K w0 e w,St K w0 e H nx w→St (jY K e H (ext L nx)) w (pull e (ext L nx)) (nr pre) L.length w:=by
  intro K w0 e w hS
  refine hS.inside hL (fun m vo hm=>?_)
  have hm':pre[m]? =some vo:=hm
  have hlt:=(sZ.1 hm').1
  refine⟨by omega,?_⟩
  have:=hp.get (j:=m) (vo:=vo) (by rw [List.getElem?_map,hm'];rfl)
  rw [Nat.zero_add] at this
  unfold ext at this
  rw [if_pos (by omega)] at this
  exact this
 have back: ∀ K w0 e w w' (r:Res) (cz:Cz) (σ:List Nat) (e':Env) (v:Value),St K w0 e H nx w→ExtOk (nms pre.length σ) r.2.2→pre.length+σ.length=cz.objs.length→r.1=cz.v.ren (ext (nms pre.length σ) r.2.2)→HasO (ext (nms pre.length σ) r.2.2) r.2.1 0 cz.objs →
  (pull e (ext L nx)).le e'→St (jY K e H (ext L nx)) w e' r.2.1 r.2.2 w'→r.1.conc e'=some v →
  ∃ e'',e.le e''∧St K w0 e'' (wrO (ext L nx) H 0 (cz.objs.map (Option.map (VO.ren (ext L nx))))) (nx+(cz.objs.length-pre.length)) w'∧(cz.v.ren (ext L nx)).conc e''=some v:=by
  intro K w0 e w w' r cz σ e' v hS e1 e2 e3 e4 g1 g2 g3
  have hpl:=lU pre.length σ
  have hcan:St (jY K e H (ext L nx)) w (pull e' (ext (nms pre.length σ) r.2.2)) (fun i=>(cz.objs[i]?).join) (nms pre.length σ).length w':=by
   refine g2.pull e1 (fun m vo hm=>?_)
   have hm':cz.objs[m]? =some (some vo):=by
    have:(cz.objs[m]?).join=some vo:=hm
    cases hx:cz.objs[m]? with
    | none=>rw [hx] at this;cases this
    | some y=>rw [hx] at this;simp only [Option.join_some] at this;rw [this]
   have hlt:=(sZ.1 hm').1
   have:=e4.get hm'
   rw [Nat.zero_add] at this
   refine⟨by omega,?_⟩
   unfold ext at this
   rw [if_pos (by omega)] at this
   exact this
  have hle:(pull e (ext L nx)).le (pull e' (ext (nms pre.length σ) r.2.2)):=by
   intro m x hx
   have hml:m<pre.length:=by
    rcases Nat.lt_or_ge m pre.length with h|h
    ·exact h
    ·have:e (ext L nx m)=none:=by
      unfold ext
      rw [if_neg (by omega)]
      exact hS.fresh _ (by omega)
     rw [show pull e (ext L nx) m=e (ext L nx m)from rfl,this] at hx
     cases hx
   show e' (ext (nms pre.length σ) r.2.2 m)=some x
   unfold ext
   rw [if_pos (by omega),qt hml]
   exact g1 m x hx
  obtain⟨q1,q2⟩:=hS.outside (Hc:=wrO (ext L nx) H 0 (cz.objs.map (Option.map (VO.ren (ext L nx))))) hL hcan hle (fun n vo hn=>by
   rcases mm hi hn with ⟨j,rfl,h2⟩|⟨h1,h2⟩
   ·rw [List.getElem?_map,s7] at h2
    obtain⟨y,hy,hv⟩:=h2
    rw [s7] at hv
    obtain⟨vo0,rfl,rfl⟩:=hv
    refine .inl ⟨j,vo0,by rw [Nat.zero_add],?_,rfl⟩
    show(cz.objs[j]?).join=some vo0
    rw [hy]
    rfl
   ·refine .inr ⟨fun m hm=>?_,h2⟩
    rcases Nat.lt_or_ge m cz.objs.length with hlt|hge
    ·have:=h1 m (by simpa using hlt)
     rw [Nat.zero_add] at this
     exact this hm
    ·have hml: ¬ m<L.length:=by omega
     have hen:n<nx:=by
      obtain⟨x,hx,_⟩:=hS.rel n vo h2
      rcases Nat.lt_or_ge n nx with h|h
      ·exact h
      ·rw [hS.fresh n h] at hx;cases hx
     rw [hm] at hen
     unfold ext at hen
     rw [if_neg hml] at hen
     omega)
  refine⟨push e (pull e' (ext (nms pre.length σ) r.2.2)) (ext L nx),q1,?_,?_⟩
  ·have:nx+(cz.objs.length-pre.length)=nx+((nms pre.length σ).length-L.length):=by omega
   rw [this]
   exact q2
  ·show SV.conc _ (cz.v.ren (ext L nx))=some v
   rw [bS,gv hi,←bS,←e3]
   exact g3
 rcases h with ⟨h0,v,r,hsure,⟨cz,hq,σ,e1,e2,e3,e4⟩,hsem⟩|h
 ·subst h0
  refine .inl ⟨rfl,v,_,hsure,hQ cz hq (by omega),fun K w0 e w hS=>?_⟩
  have hin:=inside K w0 e w hS
  rw [hlen] at hin
  obtain⟨e',g1,g2,g3⟩:=hsem _ _ _ _ hin
  exact back K w0 e w w r cz σ e' v hS e1 e2 e3 e4 g1 g2 g3
 refine .inr ?_
 split at h
 ·rename_i c hb
  refine⟨fun K w0 e w tmps todo ds kd rof cs hS hT ht hd hc=>?_⟩
  simp only at hS hT ht hd
  have hin:=inside K w0 e w hS
  have hT':TRel (pull e (ext L nx)) (max args0.length (sn P f)) (ez .nil 0 args0) tmps:=by
   refine⟨by simpa using hT.1,fun t s hs=>?_⟩
   have:(ez .nil 0 (args0.map (SV.ren (ext L nx)))).at' t=some (s.ren (ext L nx)):=by
    have gen: ∀ (l:List SV) (T T':Tr SV) (i:Nat),(∀ u s,T.at' u=some s→T'.at' u=some (s.ren (ext L nx)))→ ∀ u s,(ez T i l).at' u=some s→(ez T' i (l.map (SV.ren (ext L nx)))).at' u=some (s.ren (ext L nx)):=by
     intro l
     induction l with
     | nil=>intro T T' i h u s hs;exact h u s hs
     | cons x l ih=>
       intro T T' i h u s hs
       refine ih _ _ _ (fun u s hs=>?_) u s hs
       rcases Tr.aT hs with ⟨rfl,rfl⟩|⟨hne,hs⟩
       ·exact Tr.ab _ _ _
       ·rw [Tr.aa _ _ hne];exact h u s hs
    exact gen args0 .nil .nil 0 (fun u s hs=>by rw [Tr.gR] at hs;cases hs) t s hs
   obtain⟨v,g1,g2⟩:=hT.2 t _ this
   exact⟨v,by rw [← bS];exact g1,g2⟩
  have htd:IsRel (pull e (ext L nx)) [.code c] todo:=by
   have:=(gT (e:=e) (ρ:=ext L nx) (l:= [.code c]) (m:=todo)).1 (by simpa [AIt.ren] using ht)
   exact this
  have hds:DsRel (pull e (ext L nx)) [] ds:=(fk (e:=e) (ρ:=ext L nx) (l:= []) (m:=ds)).1 hd
  obtain⟨r,⟨cz,hq,σ,e1,e2,e3,e4⟩,e',w',v,g1,g2,g3,g4⟩:=h.run _ _ (pull e (ext L nx)) w tmps todo ds kd rof cs (by rw [← hlen];exact hin) hT' htd hds hc
  obtain⟨e'',q1,q2,q3⟩:=back K w0 e w w' r cz σ e' v hS e1 e2 e3 e4 g1 g2 g3
  exact⟨_,hQ cz hq (by omega),e'',w',v,q1,q2,q3,g4⟩
 ·exact h.elim
def RenQ(L:List Nat)(nx:Nat)(Q:Pst):Prop:=
 ∀ v H1 nx1 Hc,Q (v,H1,nx1)→(∀ m vo0,m<nx1→H1.at' m=some vo0→Hc.at' (ext (L.take nx1) nx m)=some (vo0.ren (ext (L.take nx1) nx)))→Q (v.ren (ext (L.take nx1) nx),Hc,nx+(nx1-(L.take nx1).length))
theorem ExtOk.take{L:List Nat}{nx:Nat}(h:ExtOk L nx)(n:Nat):ExtOk (L.take n) nx:=⟨fun m hm=>h.lt m (List.mem_of_mem_take hm),h.nodup.sublist (List.take_sublist _ _)⟩
theorem Wp.ren{fn nt:Nat}{T T0:Tr SV}{k:List AIt}{dfs:List ADf}{H H0:ar}{L:List Nat}{nx:Nat}{Q:Pst}(h:Wp P none ⟨fn,nt,T0,k,dfs,H0,L.length⟩ Q)(hL:ExtOk L nx)(hT: ∀ t s,T0.at' t=some s→T.at' t=some (s.ren (ext L nx)))
 (hH: ∀ m vo,H0.at' m=some vo→m<L.length∧H.at' (L.getD m 0)=some (vo.ren (ext L nx))) (hk:k.map (AIt.ren (ext L nx))=k) (hd:dfs.map (ADf.ren (ext L nx))=dfs) (hQ:RenQ L nx Q):Wp P none ⟨fn,nt,T,k,dfs,H,nx⟩ Q:=by
 refine⟨fun K w0 e w tmps todo ds kd rof cs hS hTr htd hds hc=>?_⟩
 simp only at hS hTr htd hds
 have hi: ∀ a b,ext L nx a=ext L nx b→a=b:=fun a b h=>fv hL h
 have hT':TRel (pull e (ext L nx)) nt T0 tmps:=by
  refine⟨hTr.1,fun t s hs=>?_⟩
  obtain⟨v,g1,g2⟩:=hTr.2 t _ (hT t s hs)
  exact⟨v,by rw [← bS];exact g1,g2⟩
 rw [← hk] at htd
 rw [← hd] at hds
 obtain⟨⟨v,H1,nx1⟩,hq,e1,w',u,g1,g2,g3,g4⟩:=h.run K w0 _ w tmps todo ds kd rof cs (hS.pull hL hH) hT' (gT.1 htd) (fk.1 hds) hc
 simp only at g2 g3
 have hL':=hL.take nx1
 have hi': ∀ a b,ext (L.take nx1) nx a=ext (L.take nx1) nx b→a=b:=fun a b h=>fv hL' h
 have hnone: ∀ m,nx1≤m→e1 m=none:=fun m hm=>g2.fresh m hm
 have hsame: ∀ m,m<nx1→ext (L.take nx1) nx m=ext L nx m:=by
  intro m hm
  unfold ext
  by_cases hml:m<L.length
  ·rw [if_pos hml,if_pos (by rw [List.length_take];omega),tc,List.getElem?_take,if_pos hm,←tc]
  ·rw [if_neg hml,if_neg (by rw [List.length_take];omega),List.length_take]
   congr 1
   omega
 have hle:(pull e (ext (L.take nx1) nx)).le e1:=by
  intro m x hx
  rcases Nat.lt_or_ge m nx1 with hm|hm
  ·exact g1 m x (by show e (ext L nx m)=some x;rw [← hsame m hm];exact hx)
  ·exfalso
   have hfr: ¬ m<(L.take nx1).length:=by rw [List.length_take];omega
   have:e (ext (L.take nx1) nx m)=none:=by
    unfold ext
    rw [if_neg hfr]
    exact hS.fresh _ (by omega)
   rw [show pull e (ext (L.take nx1) nx) m=e (ext (L.take nx1) nx m)from rfl,this] at hx
   cases hx
 have hpp:=gv (e:=e) (e1:=e1) hi'
 have hH1: ∀ m vo,H1.at' m=some vo→m<nx1:=by
  intro m vo hm
  obtain⟨x,hx,_⟩:=g2.rel m vo hm
  rcases Nat.lt_or_ge m nx1 with h|h
  ·exact h
  ·rw [hnone m h] at hx;cases hx
 let Hc:ar:=fun n=>open Classical in if hh: ∃ m,n=ext (L.take nx1) nx m then(H1.at' (Classical.choose hh)).map (VO.ren (ext (L.take nx1) nx)) else none
 have hHc: ∀ m,Hc.at' (ext (L.take nx1) nx m)=(H1.at' m).map (VO.ren (ext (L.take nx1) nx)):=by
  intro m
  have hh: ∃ m',ext (L.take nx1) nx m=ext (L.take nx1) nx m':=⟨m,rfl⟩
  show(open Classical in if hh: ∃ m',ext (L.take nx1) nx m=ext (L.take nx1) nx m' then(H1.at' (Classical.choose hh)).map (VO.ren (ext (L.take nx1) nx)) else none)=_
  rw [dif_pos hh,←hi' _ _ (Classical.choose_spec hh)]
 have hHo: ∀ n vo,Hc.at' n=some vo→ ∃ m vo0,n=ext (L.take nx1) nx m∧H1.at' m=some vo0∧vo=vo0.ren (ext (L.take nx1) nx):=by
  intro n vo hn
  by_cases hh: ∃ m,n=ext (L.take nx1) nx m
  ·obtain⟨m,rfl⟩:=hh
   rw [hHc,s7] at hn
   obtain⟨vo0,h1,h2⟩:=hn
   exact⟨m,vo0,rfl,h1,h2.symm⟩
  ·have:Hc.at' n=none:=by
    show(open Classical in if hh: ∃ m,n=ext (L.take nx1) nx m then(H1.at' (Classical.choose hh)).map (VO.ren (ext (L.take nx1) nx)) else none)=none
    rw [dif_neg hh]
   rw [this] at hn
   cases hn
 refine⟨_,hQ v H1 nx1 Hc hq (fun m vo0 hm hm1=>by rw [hHc,hm1];rfl),push e e1 (ext (L.take nx1) nx),w',u,mT hi' hle,⟨g2.below,?_,?_,?_⟩,?_,g4⟩
 ·intro n vo hn
  obtain⟨m,vo0,rfl,h1,rfl⟩:=hHo n vo hn
  obtain⟨x,hx,hl⟩:=g2.rel m vo0 h1
  exact⟨x,by rw [dK hi'];exact hx,by rw [ec,hpp];exact hl⟩
 ·intro n n' vo vo' x x' hn hn' hx hx' hne h0 h0' hr hr'
  obtain⟨m,vo0,rfl,h1,rfl⟩:=hHo n vo hn
  obtain⟨m',vo0',rfl,h1',rfl⟩:=hHo n' vo' hn'
  rw [dK hi'] at hx hx'
  rw [ep] at hr hr'
  exact g2.inj _ _ _ _ _ _ h1 h1' hx hx' (fun h=>hne (by rw [h])) h0 h0' hr hr'
 ·intro n hn
  simp only at hn
  by_cases hh: ∃ m,n=ext (L.take nx1) nx m
  ·obtain⟨m,rfl⟩:=hh
   rw [dK hi']
   refine hnone m ?_
   rcases Nat.lt_or_ge m nx1 with hm|hm
   ·exfalso
    unfold ext at hn
    by_cases hml:m<(L.take nx1).length
    ·rw [if_pos hml] at hn
     have:=hL'.lt ((L.take nx1).getD m 0) (by rw [tc,sY hml];exact tA hml)
     omega
    ·rw [if_neg hml] at hn;omega
   ·exact hm
  ·rw [cQ (fun m hm=>hh ⟨m,hm⟩)]
   exact hS.fresh n (by omega)
 ·show SV.conc _ (v.ren _)=some u
  rw [bS,hpp]
  exact g3
def slT:List (Nat×SV)→Tr SV
 | []=> .nil
 | (t,s) :: l=>(slT l).set t s
def HasT(ρ:Nat→Nat)(T:Tr SV):List (Nat×SV)→Prop
 | []=>True
 | (t,s) :: l=>T.at' t=some (s.ren ρ)∧HasT ρ T l
theorem HasT.get{ρ:Nat→Nat}{T:Tr SV}: ∀ {l:List (Nat×SV)},HasT ρ T l→ ∀ t s,(slT l).at' t=some s→T.at' t=some (s.ren ρ)
 | [],_,t,s,h=>by rw [slT,Tr.gR] at h;cases h
 | (t0,s0) :: l,hh,t,s,h=>by
   rcases Tr.aT h with ⟨rfl,rfl⟩|⟨_,h⟩
   ·exact hh.1
   ·exact HasT.get hh.2 t s h
structure IsAt (k0:Nat) (L2:List Nat) (sl:List (Nat×SV)) (ob:List (Option VO)) (T:Tr SV) (H:ar) (nx:Nat):Prop where
 ok:ExtOk (nms k0 L2) nx
 len:k0+L2.length=ob.length
 slots:HasT (ext (nms k0 L2) nx) T sl
 objs:HasO (ext (nms k0 L2) nx) H 0 ob
end
section
variable {P:Program} {T:Tr SV} {H:ar} {nx:Nat} {d:Option Tmp} {ty:TypeId} {pos:String} {af:Array Edge} {gd:Option (Nat×Bool)}
theorem cK{o:Oper}{v:SV}(h:bL P T H o=some v):ReadDoes P T H o v:=fun _ _ _ _ _ _ hS hE=>mH hS hE h
theorem iQ{o:Oper}{out:Out}(h:dN P T H nx o=some out):OpDoes P T H nx o out:=fun _ _ _ _ _ hS hE=>e9 hS hE h
def d6(P:Program)(s:TypeId)(f:Nat):Option Nat:=match P.underlying s with
 | some (.struct fields)=>match fields[f]? with
   | some fd=>match aR P fd.type with
     | some (_+1)=>some fd.offset
     | _=>none
   | none=>none
 | _=>none
def j3(P:Program)(t:TypeId):Option (List SV):=(bU P t).map fun z=>z.cells.toList.map .sc
theorem gr{x:Operand}{v:SV}(h:aj T x=some v):ReadDoes P T H ⟨d,.move x,ty,pos,af,gd⟩ v:=cK h
theorem gu{x:Operand}{v:SV}(h:aj T x=some v):ReadDoes P T H ⟨d,.assign x,ty,pos,af,gd⟩ v:=cK h
theorem oq{c a b:Operand}{v:SV}(hc:aj T c=some (.sc (.bool true)))(h:aj T a=some v):ReadDoes P T H ⟨d,.pick c a b,ty,pos,af,gd⟩ v:=by
 refine cK ?_
 unfold bL
 simp only [hc,cond_true]
 exact h
theorem ot{c a b:Operand}{v:SV}(hc:aj T c=some (.sc (.bool false)))(h:aj T b=some v):ReadDoes P T H ⟨d,.pick c a b,ty,pos,af,gd⟩ v:=by
 refine cK ?_
 unfold bL
 simp only [hc,cond_false]
 exact h
theorem lP{x:Operand}{i:Nat}{l:List SV}{v:SV}(h:aj T x=some (.tup l))(hi:l[i]? =some v):ReadDoes P T H ⟨d,.extract x i,ty,pos,af,gd⟩ v:=by
 refine cK ?_
 unfold bL
 simp only [h,tv,qW]
 exact hi
theorem eD{x:Operand}{b o:Nat}(h:aj T x=some (.ptr b o)):ReadDoes P T H ⟨d,.nilCheck x,ty,pos,af,gd⟩ (.ptr b o):=by
 refine cK ?_
 unfold bL
 simp only [h,tv,cO]
theorem dJ{s:TypeId}{x:Operand}{f b o off:Nat}(hf:d6 P s f=some off)(h:aj T x=some (.ptr b o)):ReadDoes P T H ⟨d,.fieldAddr s x f,ty,pos,af,gd⟩ (.ptr b (o+off)):=by
 refine cK ?_
 unfold bL
 simp only [h,tv,dk]
 unfold d6 at hf
 cases hu:P.underlying s with
 | none=>rw [hu] at hf;cases hf
 | some dd=>
   rw [hu] at hf
   cases dd with
   | struct fields=>
     simp only at hf ⊢
     cases hx:fields[f]? with
     | none=>rw [hx] at hf;cases hf
     | some fd=>
       rw [hx] at hf
       simp only at hf ⊢
       cases hs:aR P fd.type with
       | none=>rw [hs] at hf;cases hf
       | some n=>
         rw [hs] at hf
         cases n with
         | zero=>cases hf
         | succ n=>simp only [sW] at hf;simp only [hf]
   | _=>cases hf
theorem ke{f:Fn}{a b:Array Operand}{x y:List SV}(ha:cD T a.toList=some x)(hb:cD T b.toList=some y):ReadDoes P T H ⟨d,.makeFunc f a b,ty,pos,af,gd⟩ (.fn f x y):=by
 refine cK ?_
 unfold bL
 simp only [ha,hb,tv,tu]
theorem fO{t:TypeId}{x:Operand}{v r:SV}(h:aj T x=some v)(hr:jC P t v=some r):ReadDoes P T H ⟨d,.makeInterface t x,ty,pos,af,gd⟩ r:=by
 refine cK ?_
 unfold bL
 simp only [h,tv]
 exact hr
theorem dV{t:TypeId}{x:Operand}{b o:Nat}{vo:VO}{v:SV}(ha:bA P t=some none)(hx:aj T x=some (.ptr b o))(hb:H.at' b=some vo)(hv:vo.cell o=some v):ReadDoes P T H ⟨d,.load t x,ty,pos,af,gd⟩ v:=by
 refine cK ?_
 unfold bL
 simp only [hx,iK,hb,ha]
 exact hv
theorem cL{t:TypeId}{x:Operand}{b o n:Nat}{vo:VO}{l:List SV}(ha:bA P t=some (some n))(hx:aj T x=some (.ptr b o))(hb:H.at' b=some vo)(hv:vo.cellsFrom o n=some l):ReadDoes P T H ⟨d,.load t x,ty,pos,af,gd⟩ (.agg l):=by
 refine cK ?_
 unfold bL
 simp only [hx,iK,hb,ha,hv,tu]
theorem bk{t:TypeId}{l:List SV}{o:Nat}{v:SV}(h:l[o]? =some v):(am t l).cell o=some v:=by
 have hlt:=(sZ.1 h).1
 simp only [am,VO.cell,dY,h]
 rw [show Nat.blt o l.length=true from s5 hlt]
 rfl
theorem aL{t:TypeId}{l:List SV}: ∀ (n o:Nat) {vs:List SV},(l.drop o).take n=vs→vs.length=n→(am t l).cellsFrom o n=some vs
 | 0,o,vs,h,hn=>by
   have:vs= []:=td hn
   subst this
   rfl
 | n+1,o,vs,h,hn=>by
   cases hd:l.drop o with
   | nil=>rw [hd] at h;subst h;simp at hn
   | cons x r=>
     rw [hd] at h
     simp only [List.take_succ_cons] at h
     subst h
     have hx:l[o]? =some x:=by
      have:=congrArg List.head? hd
      simpa using this
     have hr:l.drop (o+1)=r:=by
      have:=congrArg List.tail hd
      simpa using this
     simp only [VO.cellsFrom,bk hx]
     rw [aL n (o+1) (vs:=r.take n) (by rw [hr]) (by simpa using hn)]
theorem oG{t:TypeId}{l:List SV}(hz:j3 P t=some l):OpDoes P T H nx ⟨d,.alloc t,ty,pos,af,gd⟩ (.val (.ptr nx 0),H.set nx (am t l),nx+1):=by
 refine iQ ?_
 unfold dN j3 at *
 cases hzz:bU P t with
 | none=>rw [hzz] at hz;cases hz
 | some z=>rw [hzz] at hz;simp only [tu,sW] at hz;simp only [hzz,hz]
theorem qn{t:TypeId}{x:Operand}{l:List SV}(hx:aj T x=some (.agg l)):OpDoes P T H nx ⟨d,.box t x,ty,pos,af,gd⟩ (.val (.ptr nx 0),H.set nx (am t l),nx+1):=by
 refine iQ ?_
 unfold dN
 simp only [hx]
 rfl
theorem si{t:TypeId}{x:Operand}{v:SV}{l:List SV}(hx:aj T x=some v)(hl:v.cells=l):OpDoes P T H nx ⟨d,.box t x,ty,pos,af,gd⟩ (.val (.ptr nx 0),H.set nx (am t l),nx+1):=by
 refine iQ ?_
 unfold dN
 simp only [hx,hl]
theorem c8{t:TypeId}: ∀ (vs l:List SV) (o:Nat),o+vs.length≤l.length→bz vs=true→(am t l).setCells o vs=some (am t (l.take o ++ vs ++ l.drop (o+vs.length)))
 | [],l,o,h,_=>by simp [VO.setCells]
 | v :: vs,l,o,h,h1=>by
   simp only [bz,tg] at h1
   simp only [tn] at h
   have hset:(am t l).setCell o v=some (am t (l.set o v)):=by
    simp only [am,VO.setCell]
    rw [show Nat.blt o l.length=true from s5 (by omega),h1.1]
    simp only [Bool.and_self,cond_true,sW,VO.cells.injEq,List.length_set,true_and]
    funext i
    simp only [dL,Tr.set]
    rw [List.getElem?_set]
    by_cases hi:o=i
    ·subst hi
     rw [if_pos rfl,if_pos (by omega),Nat.beq_refl]
     rfl
    ·rw [if_neg hi,show Nat.beq i o=false from by cases hb:Nat.beq i o with|false=>rfl|true=>exact absurd (Nat.eq_of_beq_eq_true hb).symm hi]
     rfl
   simp only [VO.setCells,hset]
   rw [c8 vs (l.set o v) (o+1) (by rw [List.length_set];omega) h1.2]
   simp only [sW]
   congr 1
   have e1:(l.set o v).take (o+1)=l.take o ++ [v]:=by
    rw [List.take_set,List.set_eq_take_append_cons_drop,if_pos (by rw [List.length_take];omega),List.take_take,Nat.min_eq_left (by omega),List.drop_eq_nil_of_le (by rw [List.length_take];omega)]
   have e2:(l.set o v).drop (o+1+vs.length)=l.drop (o+(vs.length+1)):=by
    rw [List.drop_set_of_lt (by omega)]
    congr 1
    omega
   rw [e1,e2]
   simp
theorem fU{t:TypeId}{a x:Operand}{b o n:Nat}{bt:TypeId}{l vs:List SV}{v:SV}(hs:aR P t=some n)(ha:aj T a=some (.ptr b o))(hx:aj T x=some v)(hv:v.cells=vs)(hb:H.at' b=some (am bt l))(hn:vs.length=n)(ho:o+n≤l.length)
 (h1:bz vs=true):OpDoes P T H nx ⟨d,.store t a x,ty,pos,af,gd⟩ (.skip,H.set b (am bt (l.take o ++ vs ++ l.drop (o+n))),nx):=by
 refine iQ ?_
 subst hn
 unfold dN
 simp only [ha,hx,hv,jh,hs,Nat.beq_refl,cond_true,cg,hb,c8 vs l o ho h1]
theorem m2{t:TypeId}{a x:Operand}{b o:Nat}{bt:TypeId}{l:List SV}{v:SV}(hs:aR P t=some 1)(ha:aj T a=some (.ptr b o))(hx:aj T x=some v)(hb:H.at' b=some (am bt l))(h1:v.one=true)(ho:o<l.length) :
 OpDoes P T H nx ⟨d,.store t a x,ty,pos,af,gd⟩ (.skip,H.set b (am bt (l.set o v)),nx):=by
 have hv:v.cells= [v]:=by
  cases v with
  | sc c=>cases c <;> first|rfl|(simp [SV.one] at h1)
  | agg l=>simp [SV.one] at h1
  | _=>rfl
 have:=fU (d:=d) (ty:=ty) (pos:=pos) (af:=af) (gd:=gd) (nx:=nx) hs ha hx hv hb rfl (by omega) (by simp [bz,h1])
 rw [List.set_eq_take_append_cons_drop,if_pos ho]
 simpa using this
theorem cu{o:Oper}{v:Value}(h: ∀ ev w,(∀ x s,aj T x=some s→ ∀ u,s = .sc u→ev x=u)→(execOp ev o).run P w = .ok (.value v) w):ReadDoes P T H o (.sc v):=by
 intro K w0 e nx w ev hS hE
 refine⟨v,rfl,h ev w (fun x s hs u hu=>?_)⟩
 subst hu
 have:=hE x _ hs
 simpa [SV.conc] using this.symm
theorem eX{op:BinOp}{t yt:TypeId}{x y:Operand}{k:IntKind}{a b c:Int}(hx:aj T x=some (.sc (.int k a)))(hy:aj T y=some (.sc (.int k b)))(hop:op = .add∧c=k.wrap (a+b)∨op = .sub∧c=k.wrap (a-b)∨op = .mul∧c=k.wrap (a*b)) :
 ReadDoes P T H ⟨d,.binOp op t x y yt,ty,pos,af,gd⟩ (.sc (.int k c)):=by
 refine cu fun ev w he=>?_
 have e1:=he x _ hx _ rfl
 have e2:=he y _ hy _ rfl
 rcases hop with ⟨rfl,rfl⟩|⟨rfl,rfl⟩|⟨rfl,rfl⟩ <;> simp [execOp,e1,e2,eqGuard,binOp,Op.intArith]
theorem gt{op:BinOp}{t yt:TypeId}{x y:Operand}{k:IntKind}{a b:Int}{c:Bool}(hx:aj T x=some (.sc (.int k a)))(hy:aj T y=some (.sc (.int k b)))
 (hop:op = .eql∧c=(a == b)∨op = .neq∧c=(a != b)∨op = .lss∧c=decide (a<b)∨op = .leq∧c=decide (a≤b)∨op = .gtr∧c=decide (a>b)∨op = .geq∧c=decide (a≥b)) :
 ReadDoes P T H ⟨d,.binOp op t x y yt,ty,pos,af,gd⟩ (.sc (.bool c)):=by
 refine cu fun ev w he=>?_
 have e1:=he x _ hx _ rfl
 have e2:=he y _ hy _ rfl
 rcases hop with ⟨rfl,rfl⟩|⟨rfl,rfl⟩|⟨rfl,rfl⟩|⟨rfl,rfl⟩|⟨rfl,rfl⟩|⟨rfl,rfl⟩ <;> simp [execOp,e1,e2,eqGuard,binOp,Op.intCmp]
theorem se{t:TypeId}{x:Operand}{b:Bool}(hx:aj T x=some (.sc (.bool b))):ReadDoes P T H ⟨d,.unOp .not t x,ty,pos,af,gd⟩ (.sc (.bool (!b))):=by
 refine cu fun ev w he=>?_
 have e1:=he x _ hx _ rfl
 simp [execOp,e1,Op.unary]
def oZ(op:BinOp)(k:IntKind)(a b:Int):Int:=match op with
 | .and=>k.wrap (BitVec.ofInt k.bits a &&& BitVec.ofInt k.bits b).toNat
 | .or=>k.wrap (BitVec.ofInt k.bits a ||| BitVec.ofInt k.bits b).toNat
 | .xor=>k.wrap (BitVec.ofInt k.bits a ^^^ BitVec.ofInt k.bits b).toNat
 | _=>k.wrap (BitVec.ofInt k.bits a &&& ~~~(BitVec.ofInt k.bits b)).toNat
theorem qf{op:BinOp}{t yt:TypeId}{x y:Operand}{k:IntKind}{a b c:Int}(hx:aj T x=some (.sc (.int k a)))(hy:aj T y=some (.sc (.int k b)))(ho:op = .and∨op = .or∨op = .xor∨op = .andNot)(hc:oZ op k a b=c) :
 ReadDoes P T H ⟨d,.binOp op t x y yt,ty,pos,af,gd⟩ (.sc (.int k c)):=by
 refine cu fun ev w he=>?_
 have e1:=he x _ hx _ rfl
 have e2:=he y _ hy _ rfl
 subst hc
 rcases ho with rfl|rfl|rfl|rfl <;> simp [execOp,e1,e2,eqGuard,binOp,Op.intBits,oZ]
theorem sd{t yt:TypeId}{x y:Operand}{k k2:IntKind}{a b c:Int}(hx:aj T x=some (.sc (.int k a)))(hy:aj T y=some (.sc (.int k2 b)))(h0:0≤b)(hc:k.wrap (a*2 ^ (min b.toNat k.bits))=c) :
 ReadDoes P T H ⟨d,.binOp .shl t x y yt,ty,pos,af,gd⟩ (.sc (.int k c)):=by
 refine cu fun ev w he=>?_
 have e1:=he x _ hx _ rfl
 have e2:=he y _ hy _ rfl
 subst hc
 have h1: ¬ b<0:=by omega
 simp [execOp,e1,e2,eqGuard,binOp,Op.shift,h1]
theorem sb{t yt:TypeId}{x y:Operand}{k k2:IntKind}{a b c:Int}(hx:aj T x=some (.sc (.int k a)))(hy:aj T y=some (.sc (.int k2 b)))(h0:0≤b)(hc:a.fdiv (2 ^ (min b.toNat k.bits))=c) :
 ReadDoes P T H ⟨d,.binOp .shr t x y yt,ty,pos,af,gd⟩ (.sc (.int k c)):=by
 refine cu fun ev w he=>?_
 have e1:=he x _ hx _ rfl
 have e2:=he y _ hy _ rfl
 subst hc
 have h1: ¬ b<0:=by omega
 simp [execOp,e1,e2,eqGuard,binOp,Op.shift,h1]
theorem qe{s t:TypeId}{su:TypeDesc}{x:Operand}{k k2:IntKind}{a c:Int}(hs:P.underlying s=some su)(hu:P.underlying t=some (.int k))(hx:aj T x=some (.sc (.int k2 a)))(hc:k.wrap a=c) :
 ReadDoes P T H ⟨d,.convert s t x,ty,pos,af,gd⟩ (.sc (.int k c)):=by
 refine cu fun ev w he=>?_
 have e1:=he x _ hx _ rfl
 subst hc
 simp [execOp,e1,convert,run_underlying hs,run_underlying hu,Conv.intToInt]
def qh(P:Program)(t:TypeId):Option (List (Nat×Nat)):=match P.underlying t with
 | some (.struct fields)=>fI P fields.toList
 | _=>none
theorem iB{t:TypeId}{parts:List (Nat×Operand)}{ps:List (Nat×SV)}{pl:List (Nat×Nat)}{z:Value}{cs:List SV}(hp:fw T parts=some ps)(hz:bU P t=some z)(hl:qh P t=some pl)(hf:dM (fun i=>pl[i]?) (z.cells.toList.map .sc) ps=some cs) :
 ReadDoes P T H ⟨d,.build t parts.toArray,ty,pos,af,gd⟩ (.agg cs):=by
 refine cK ?_
 unfold qh at hl
 cases hu:P.underlying t with
 | none=>rw [hu] at hl;cases hl
 | some u=>
   rw [hu] at hl
   cases u with
   | struct fields=>simp only [bL,hp,tv,gM,hz,hu,hl,hf,tu]
   | _=>cases hl
theorem kQ{t:TypeId}{e:TypeId}{x:Operand}{b eo n:Nat}(hu:P.underlying t=some (.slice e))(hx:aj T x=some (.slu b eo n)):ReadDoes P T H ⟨d,.call {callee:= .builtin .len,args:= #[x],argTypes:= #[t]},ty,pos,af,gd⟩ (.sc (.int .i64 n)):=by
 refine cK ?_
 simp only [bL,iL,hx,tv,pu,hu]
def dat(ro:Bool)(ne sz:Nat)(t:TypeId)(vs:List Value):VO:= .row ro ne sz t (fun i=>(vs[i]?).map .sc)
theorem lr{ro:Bool}{ne sz:Nat}{t:TypeId}{vs:List Value}{i:Nat}{v:Value}(hi:i<ne*sz)(hv:vs[i]? =some v):(dat ro ne sz t vs).cell i=some (.sc v):=by
 simp only [dat,VO.cell,Tr.at',hv,tu]
 rw [show Nat.blt i (ne*sz)=true from s5 hi]
 rfl
theorem dy{ro:Bool}{ne sz:Nat}{t:TypeId}{vs:List Value}: ∀ (n o:Nat) {us:List Value},(vs.drop o).take n=us→us.length=n→o+n≤ne*sz→(dat ro ne sz t vs).cellsFrom o n=some (us.map .sc)
 | 0,o,us,h,hn,_=>by
   have:us= []:=td hn
   subst this
   rfl
 | n+1,o,us,h,hn,hl=>by
   cases hd:vs.drop o with
   | nil=>rw [hd] at h;subst h;simp at hn
   | cons x r=>
     rw [hd] at h
     simp only [List.take_succ_cons] at h
     subst h
     have hx:vs[o]? =some x:=by
      have:=congrArg List.head? hd
      simpa using this
     have hr:vs.drop (o+1)=r:=by
      have:=congrArg List.tail hd
      simpa using this
     simp only [VO.cellsFrom,lr (ro:=ro) (t:=t) (sz:=sz) (show o<ne*sz by omega) hx]
     rw [dy n (o+1) (us:=r.take n) (by rw [hr]) (by simpa using hn) (by omega)]
     rfl
theorem kR{t e:TypeId}{x y:Operand}{b eo n:Nat}{k:IntKind}{i:Int}{ro:Bool}{ne sz:Nat}{rt:TypeId}{c:Tr SV}(hu:P.underlying t=some (.slice e))(hs:aR P e=some sz)(hx:aj T x=some (.slu b eo n))(hy:aj T y=some (.sc (.int k i)))
 (hb:H.at' b=some (.row ro ne sz rt c)) (h0:0≤i) (hi:i<n) (hne:eo+n≤ne):ReadDoes P T H ⟨d,.indexAddr t x y,ty,pos,af,gd⟩ (.ptr b ((eo+i.toNat)*sz)):=by
 refine cK ?_
 obtain⟨j,rfl⟩:=Int.eq_ofNat_of_zero_le h0
 have hj:j<n:=by omega
 simp only [bL,ma,hx,hy,tv,bO,hu,hs,hb,Nat.beq_refl,Int.toNat_natCast]
 rw [show Nat.ble (eo+n) ne=true from s5 hne,show Nat.blt j n=true from s5 hj]
 rfl
end
end Go.Sy
end
