import Derived.Test.YtckajlllkmkniaaY7
set_option linter.unusedVariables false
set_option linter.unusedSimpArgs false
set_option maxRecDepth 100000
set_option maxHeartbeats 0
section
namespace Go.Sy
open Go Go.Sl Go.RowKit
theorem xd{P:Program}{ro:Option Nat}{fn nt nx:Nat}{T:Tr SV}{it it2:AIt}{k:List AIt}{dfs:List ADf}{H:aV}{Q:Pst}{α:Type}(sl:α→List (Nat×SV))(I:α→aV→Nat→Prop)
 (body: ∀ k',(∀ T' H' nx' a',I a' H' nx'→(∀ n x,(slT (sl a')).at' n=some x→T'.at' n=some x)→Wp P ro ⟨fn,nt,T',k',dfs,H',nx'⟩ Q)→Wp P ro ⟨fn,nt,T,it :: it2 :: k',dfs,H,nx⟩ Q)
 (rest: ∀ a H nx,I a H nx→Wp P ro ⟨fn,nt,slT (sl a),k,dfs,H,nx⟩ Q):Wp P ro ⟨fn,nt,T,it :: it2 :: k,dfs,H,nx⟩ Q:=
 body k fun T' H' nx' a' ha hs=>Wp.less (rest a' H' nx' ha) hs (Tr.le_refl _)
theorem mY{P:Program}{ro:Option Nat}{fn nt:Nat}{T:Tr SV}{k:List AIt}{dfs:List ADf}{H:aV}{nx:Nat}{Q:Pst}{d r eo n ne sz:Nat}{rt:TypeId}{rr:Bool}{c:Tr SV}(hT:T.at' d=some (.slu r eo n))(hr:H.at' r=some (.row rr ne sz rt c))(h0:0<ne)(hn:eo+n≤ne)
 (h: ∀ C,n≤C→Wp P ro ⟨fn,nt,T.set d (.sl r (eo*sz) n C),k,dfs,H,nx⟩ Q):Wp P ro ⟨fn,nt,T,k,dfs,H,nx⟩ Q:=by
 refine⟨fun K w0 e w tmps todo ds kd rof cs hS hTr htd hds hc2=>?_⟩
 obtain⟨z,hz,hlz⟩:=hS.rel _ _ hr
 obtain⟨g1,g2,g3,g4⟩:=Lies.row hlz
 have hnil:=g3 h0
 have hcc:(SV.sl r (eo*sz) n (z.cap-eo)).conc e=(SV.slu r eo n).conc e:=by
  simp [SV.conc,hz,Ent.at,hnil,g1]
 refine(h (z.cap-eo) (by omega)).run K w0 e w tmps todo ds kd rof cs hS ⟨hTr.1,fun t' u hs=>?_⟩ htd hds hc2
 rcases Tr.bM hs with ⟨rfl,rfl⟩|⟨_,hs⟩
 ·obtain⟨v,f1,f2⟩:=hTr.2 _ _ hT
  exact⟨v,by rw [hcc];exact f1,f2⟩
 ·exact hTr.2 _ _ hs
section
variable {P:Program} {T:Tr SV} {H:aV} {nx:Nat} {d:Option Tmp} {ty:TypeId} {pos:String} {af:Array Edge} {gd:Option (Nat×Bool)}
theorem p8{t el:TypeId}{x hi:Operand}{k1:IntKind}{sz:Nat}(hu:P.underlying t=some (.slice el))(hs:bC P el=some sz)(hx:ar T x=some (.sc (.slice none 0 0)))(hh:ar T hi=some (.sc (.int k1 0))):ReadDoes P T H ⟨d,.slice t x none (some hi) none,ty,pos,af,gd⟩ (.sc (.slice none 0 0)):=by
 refine c9 fun ev w he=>?_
 have e1:=he x _ hx _ rfl
 have e2:=he hi _ hh _ rfl
 have hbd:=cy (P:=P) (isS:=true) (len:=0) (cap:=0) (l:=0) (h:=0) (m:=0) (lo:=none) (hi:=some (.int k1 0)) (mx:=none) (.inl ⟨rfl,rfl⟩) (.inr ⟨k1,rfl⟩) (.inl ⟨rfl,rfl⟩) (zP _) (zP _) (zP _) (.inl rfl) w
 simp [execOp,Instr.sliceAt,Instr.slice,run_underlying hu,bR hs,hbd,e1,e2,Sem.run_bind,Result.andThen,Sem.run_pure]
theorem lJ{t el:TypeId}{x lo:Operand}{k1:IntKind}{sz:Nat}(hu:P.underlying t=some (.slice el))(hs:bC P el=some sz)(hx:ar T x=some (.sc (.slice none 0 0)))(hh:ar T lo=some (.sc (.int k1 0))):ReadDoes P T H ⟨d,.slice t x (some lo) none none,ty,pos,af,gd⟩ (.sc (.slice none 0 0)):=by
 refine c9 fun ev w he=>?_
 have e1:=he x _ hx _ rfl
 have e2:=he lo _ hh _ rfl
 have hbd:=cy (P:=P) (isS:=true) (len:=0) (cap:=0) (l:=0) (h:=0) (m:=0) (lo:=some (.int k1 0)) (hi:=none) (mx:=none) (.inr ⟨k1,rfl⟩) (.inl ⟨rfl,rfl⟩) (.inl ⟨rfl,rfl⟩) (zP _) (zP _) (zP _) (.inr rfl) w
 simp [execOp,Instr.sliceAt,Instr.slice,run_underlying hu,bR hs,hbd,e1,e2,Sem.run_bind,Result.andThen,Sem.run_pure]
end
end Go.Sy
namespace Go.Proofs.Ytckajlllkmkniaa
open Go Go.Sy Go.Sl Go.RowKit
theorem nw{n:Nat}: ∀ {l:List Nat} {k:Nat},(∀ j,j<k→ ∀ x,l[j]? =some x→x<n)→l[k]? =some n→gA l n=l
 | [],k,_,h=>by simp at h
 | x :: l,0,_,h=>by
   have:x=n:=by simpa using h
   unfold gA
   rw [if_neg (by omega),if_pos this]
 | x :: l,k+1,hlt,h=>by
   have h0:=hlt 0 (by omega) x rfl
   unfold gA
   rw [if_pos h0,nw (k:=k) (fun j hj y hy=>hlt (j+1) (by omega) y (by simpa using hy)) (by simpa using h)]
theorem mq{n:Nat}: ∀ {l:List Nat} {k:Nat},(∀ j,j<k→ ∀ x,l[j]? =some x→x<n)→(k=l.length∨ ∃ y,l[k]? =some y∧ ¬ y<n∧y≠n)→gA l n=l.take k ++ ([n] ++ l.drop k)
 | [],k,_,h=>by simp [gA]
 | x :: l,0,_,h=>by
   rcases h with h|⟨y,hy,h1,h2⟩
   ·simp at h
   ·have:x=y:=by simpa using hy
    subst this
    unfold gA
    rw [if_neg h1,if_neg h2]
    rfl
 | x :: l,k+1,hlt,h=>by
   have h0:=hlt 0 (by omega) x rfl
   unfold gA
   rw [if_pos h0,mq (k:=k) (fun j hj y hy=>hlt (j+1) (by omega) y (by simpa using hy)) (by simpa using h)]
   simp
theorem xv{H:aV}{sz:Nat}:aZ H sz (.sc (.slice none 0 0))=some (0,[]):=rfl
def svU(l:List Nat)(r:Nat):SV:=match l with
 | []=> .sc (.slice none 0 0)
 | x :: m=> .slu r 0 (x :: m).length
theorem oY: ∀ l:List Nat,bU (uC l)=true
 | []=>rfl
 | _ :: l=>oY l
theorem o7{l:List Nat}(r:Nat)(h:l≠ []):svU l r = .slu r 0 l.length:=by
 cases l with
 | nil=>exact absurd rfl h
 | cons x m=>rfl
theorem slU{H:aV}{l:List Nat}{r:Nat}(h:l≠ []→H.at' r=some (uR false l)):SlOf H 1 23 (svU l r) l.length (uC l):=by
 cases l with
 | nil=>exact SlOf.none
 | cons x m=>exact qt (h (by simp))
theorem qc(n:Nat): ∀ l:List Nat,(gA l n).length≤l.length+1∧gA l n≠ []
 | []=>by simp [gA]
 | x :: l=>by
   have:=qc n l
   unfold gA
   split
   ·simp;omega
   ·split <;> simp
theorem tc{V:RV}{i:Nat}(hi:i<V.length):gI ((V.take (i+1)).map (·.1))=gI ((V.take i).map (·.1)) ++ (V[i].1.2.1 :: V[i].1.2.2):=by
 rw [List.take_succ_eq_append_getElem hi,zU]
 unfold gI
 rw [List.flatMap_append]
 simp
theorem tb{V:RV}(i:Nat):(gI ((V.take i).map (·.1))).length≤(gI (V.map (·.1))).length:=by
 conv=>rhs;rw [← List.take_append_drop i V,zU]
 unfold gI
 rw [List.flatMap_append,zT]
 omega
theorem vS{t r:Nat}{W:RT}{Fw:Nat→Prop}{H:aV}{nx:Nat}(hW:WAt t r W Fw H)(hFw: ∀ n,Fw n→n<nx)(hA:(gI W).length<390000):Fnc Try.prog 46 [.ptr t 0] H nx (rW (gh W) H nx):=by
 have hl:W.length<1000000:=Nat.lt_of_le_of_lt eG (by omega)
 have hll: ∀ x∈W,x.2.2.length<1000000:=fun x hx=>Nat.lt_trans (fy hx) (by omega)
 obtain⟨s,V,hV,rfl⟩:=hW
 rw [List.length_map] at hl
 have htn:=hFw t hV.own
 refine Fnc.start Try.func46 rfl rfl ?_
 (repeat(first|refine ao ?_|refine ai ?_|refine ah ?_|refine aT ?_|(apply aj;exact rfl;exact rfl;exact rfl)))
 refine ch (α:=List Nat×Nat×Nat) (fun x=> [(0,.ptr t 0),(3,svU x.1 x.2.1),(4,.sc (.int .i64 (x.2.2:Int)))]) (fun x H1 n1=>x.2.2≤V.length∧x.1=(gI ((V.take x.2.2).map (·.1))).foldl gA []∧x.1.length≤(gI ((V.take x.2.2).map (·.1))).length∧(x.1≠ []→nx≤x.2.1∧x.2.1<n1∧H1.at' x.2.1=some (uR false x.1))∧nx≤n1∧ ∀ n,n<nx→H1.at' n=H.at' n) (fun x=>V.length-x.2.2) ([],0,0) ⟨zQ _,rfl,zP _,fun h=>absurd rfl h,zP _,fun _ _=>rfl⟩ (SlIn.sub (by repeat(first|exact trivial|refine⟨rfl,?_⟩))) ?_
 rintro⟨all,nm,i⟩ H1 n1 ⟨hi,ha,hal,hrow,hn1,hlow⟩ ih
 simp only at hi ha hal hrow ih ⊢
 have hV1:=hV.frame fun n hn=>hlow n (hFw n hn)
 have hbox1:=hV1.box
 have hsl1:=hV1.sl
 (repeat(first|refine ao ?_|refine ai ?_|(apply am;exact rfl;exact rfl;exact rfl)|(apply aJ;exact rfl;exact rfl;exact rfl)|(apply au;exact rfl;exact rfl;exact rfl;exact(F.fo _ _ rfl rfl))|refine aL rfl rfl rfl (F.ag _ rfl) (by assumption) (by exact rfl) ?_|(refine dC rfl rfl rfl (F.un _ rfl) hsl1 ?_)))
 (apply cu;exact rfl;exact rfl;exact rfl;exact rfl)
 all_goals intro h1
 ·have hq:i<V.length:=by omega
  have hx:V[i]? =some V[i]:=zz hq
  obtain⟨hln,hfr⟩:=hV.lines V[i] (zZ hq)
  have hlen:V[i].1.2.2.length<1000000:=hll V[i].1 (List.mem_map_of_mem (zZ hq))
  (repeat(first|refine ao ?_|refine ai ?_|refine ah ?_|refine aT ?_|refine aN ?_|refine aD rfl ?_|(apply aj;exact rfl;exact rfl;exact rfl)))
  have hsn:=tc hq
  have hb1:=tb (V:=V) (i+1)
  have hbound:(gI ((V.take i).map (·.1))).length+(V[i].1.2.2.length+1)<390000:=by
   rw [hsn,zT,zS] at hb1
   omega
  clear hb1
  generalize hL0:gI ((V.take i).map (·.1))=L0 at ha hal hsn hbound
  rcases hV1.row with ⟨rfl,_⟩|⟨hne,rfl,hrow1,hFr,hrt⟩
  ·simp at hq
  clear hrt
  have hrn:=hFw r hFr
  obtain⟨c1,c2,c3⟩:=kB (de hx)
  have hfl:=dv V
  generalize hown:V[i].1.2.1=h at c2 hsn
  generalize hline:V[i].1.2.2=l at hln hlen hsn hbound
  refine ch (α:=List Nat×Nat×Nat) (fun x=> [(0,.ptr t 0),(3,svU x.1 x.2.1),(4,.sc (.int .i64 (i:Int))),(5,.sc (.int .i64 ((x.2.2:Int)-1)))]) (fun x H2 n2=>x.2.2≤l.length+1∧x.1=(L0 ++ (h :: l).take x.2.2).foldl gA []∧x.1.length≤L0.length+x.2.2∧(x.1≠ []→nx≤x.2.1∧x.2.1<n2∧H2.at' x.2.1=some (uR false x.1))∧nx≤n2∧ ∀ n,n<nx→H2.at' n=H.at' n) (fun x=>l.length+1-x.2.2) (all,nm,0) ⟨zQ _,by simpa using ha,by simpa using hal,hrow,hn1,hlow⟩ (SlIn.sub (by repeat(first|exact trivial|refine⟨rfl,?_⟩))) ?_
  clear hrow hlow hn1 hV1 hbox1 hsl1 hrow1 ha hal
  rintro⟨all2,nm2,j⟩ H2 n2 ⟨hj,ha,hal,hrow,hn2,hlow⟩ ih2
  simp only at hj ha hal hrow ih2 ⊢
  have hV2:=hV.frame fun n hn=>hlow n (hFw n hn)
  have hbox2:=hV2.box
  have hrow2:H2.at' r=some (eU false V.length 3 91 (V.flatMap vC)):=by
   rcases hV2.row with ⟨e,_⟩|⟨_,_,q3,_,_⟩
   ·exact absurd e hne
   ·exact q3
  have hln2:=SlOf.frame hln fun b hb=>hlow b (hFw b (hfr b hb).1)
  (repeat(first|refine ao ?_|refine ai ?_|(apply am;exact rfl;exact rfl;exact rfl)|(apply aJ;exact rfl;exact rfl;exact rfl)|(apply au;exact rfl;exact rfl;exact rfl;exact(F.fo _ _ rfl rfl))|refine aL rfl rfl rfl (F.ag _ rfl) (by assumption) (by exact rfl) ?_|refine c7 (q:=i) rfl rfl rfl rfl (F.un _ rfl) (F.sz _ rfl) (by assumption) (by omega) (by first|omega|(simp;done)) (zP _) ?_|(refine di rfl rfl rfl (F.ag _ rfl) hrow2 (br (by exact c3) (by omega)) ?_)|(refine dC rfl rfl rfl (F.un _ rfl) hln2 ?_)))
  (apply cu;exact rfl;exact rfl;exact rfl;exact rfl)
  all_goals intro h2
  ·have hjl:j<(h :: l).length:=by simp only [zS];omega
   have hnext:(L0 ++ (h :: l).take (j+1)).foldl gA []=gA all2 (h :: l)[j]:=by
    rw [List.take_succ_eq_append_getElem hjl,←List.append_assoc,List.foldl_append,←ha]
    rfl
   (repeat(first|refine ao ?_|refine ai ?_|refine ah ?_|refine aT ?_|refine aN ?_|refine aD rfl ?_|(apply am;exact rfl;exact rfl;exact rfl)|(apply aj;exact rfl;exact rfl;exact rfl)|(apply aJ;exact rfl;exact rfl;exact rfl)|(apply au;exact rfl;exact rfl;exact rfl;exact(F.fo _ _ rfl rfl))|refine aL rfl rfl rfl (F.ag _ rfl) (by assumption) (by exact rfl) ?_|refine c7 (q:=i) rfl rfl rfl rfl (F.un _ rfl) (F.sz _ rfl) (by assumption) (by omega) (by first|omega|(simp;done)) (zP _) ?_|(refine di rfl rfl rfl (F.ag _ rfl) hrow2 (br (by exact c2) (by omega)) ?_)))
   refine xd (α:=Unit) (fun _=> [(0,.ptr t 0),(3,svU all2 nm2),(4,.sc (.int .i64 (i:Int))),(5,.sc (.int .i64 ((j:Int)-1))),(6,.sc (.int .u64 ((h :: l)[j]:Int)))]) (fun _ H3 n3=>H2=H3∧n2=n3) (fun kk out=>?_) ?_
   ·rcases j with _|j
    ·refine dQ rfl rfl rfl rfl (fun hq'=>absurd hq' (by omega)) (fun _=>?_)
     (repeat(first|refine ah ?_|refine aN ?_|refine ay rfl ?_))
     refine out _ _ _ () ⟨rfl,rfl⟩ (SlIn.sub (by repeat(first|exact trivial|refine⟨rfl,?_⟩)))
    ·have hjq:j<l.length:=by simp only [zS] at hjl;omega
     refine dQ rfl rfl rfl rfl (fun _=>?_) (fun hq'=>absurd hq' (by omega))
     (repeat(first|refine ai ?_|refine ah ?_|refine aD rfl ?_|(apply am;exact rfl;exact rfl;exact rfl)|(apply aJ;exact rfl;exact rfl;exact rfl)|(apply au;exact rfl;exact rfl;exact rfl;exact(F.fo _ _ rfl rfl))|refine aL rfl rfl rfl (F.ag _ rfl) (by assumption) (by exact rfl) ?_|refine c7 (q:=i) rfl rfl rfl rfl (F.un _ rfl) (F.sz _ rfl) (by assumption) (by omega) (by first|omega|(simp;done)) (zP _) ?_|(refine di rfl rfl rfl (F.ag _ rfl) hrow2 (br (by exact c3) (by omega)) ?_)))
     refine dq rfl rfl rfl rfl (F.un _ rfl) (F.sz _ rfl) hln2 (q:=j) (by omega) hjq fun rr2 p2 ne2 rl2 u1 u2 u3 u4 _=>?_
     rw [lp hjq] at u4
     have e1:=lq u4
     (repeat(first|refine ah ?_|(apply aj;exact rfl;exact rfl;exact rfl)|(refine di rfl rfl rfl (F.ag _ rfl) u1 (br (by exact e1) (by omega)) ?_)))
     refine out _ _ _ () ⟨rfl,rfl⟩ (SlIn.sub (by repeat(first|exact trivial|refine⟨rfl,?_⟩)))
   ·rintro⟨⟩ _ _ ⟨rfl,rfl⟩
    generalize hxx:(h :: l)[j]=x at hnext ⊢
    have hslA:=slU (H:=H2) (l:=all2) (r:=nm2) fun h=>(hrow h).2.2
    have hall:all2.length<1000000:=by omega
    have hrl:=qc x all2
    (repeat(first|refine ao ?_|refine ai ?_|refine ah ?_|refine aT ?_|(apply aj;exact rfl;exact rfl;exact rfl)))
    refine ch (α:=Nat) (fun k=> [(0,.ptr t 0),(3,svU all2 nm2),(4,.sc (.int .i64 (i:Int))),(5,.sc (.int .i64 ((j:Int)-1))),(6,.sc (.int .u64 (x:Int))),(7,.sc (.int .i64 (k:Int)))]) (fun k H3 n3=>H2=H3∧n2=n3∧k≤all2.length∧ ∀ q,q<k→ ∀ y,all2[q]? =some y→y<x) (fun k=>all2.length-k) 0 ⟨rfl,rfl,zQ _,fun q hq'=>by omega⟩ (SlIn.sub (by repeat(first|exact trivial|refine⟨rfl,?_⟩))) ?_
    rintro k _ _ ⟨rfl,rfl,hk,hlt⟩ ihk
    have fin: ∀ (T5:Tr SV) (H5:aV) (n5 q m:Nat) (cells:List SV),gA all2 x=all2.take k ++ ([x] ++ all2.drop k)→m=all2.length+1→cells=(uC all2).take k ++ ([.sc (.int .u64 (x:Int))] ++ (uC all2).drop k)→nx≤q→q<n5→H5.at' q=some (eU false m 1 23 cells)→(∀ n,n<nx→H5.at' n=H.at' n)→svU (gA all2 x) q = .slu q 0 m∧(gA all2 x≠ []→nx≤q∧q<n5∧H5.at' q=some (uR false (gA all2 x))):=fun T5 H5 n5 q m cells e0 e1 e2 g1 g2 g3 g4=>by
     have e3:(gA all2 x).length=m:=by rw [e0,e1];simp;omega
     refine⟨by rw [o7 q hrl.2,e3],fun _=>⟨g1,g2,?_⟩⟩
     rw [← kC,e3,g3,e2]
     congr 2
     rw [e0]
     simp [uC,List.map_take,List.map_drop]
    (repeat(first|refine ao ?_|refine ai ?_|(apply am;exact rfl;exact rfl;exact rfl)|(refine dC rfl rfl rfl (F.un _ rfl) hslA ?_)))
    (apply cu;exact rfl;exact rfl;exact rfl;exact rfl)
    all_goals intro h3
    ·have hkq:k<all2.length:=by omega
     have hkat:all2[k]? =some all2[k]:=zz hkq
     (repeat(apply am;exact rfl;exact rfl;exact rfl))
     refine dq rfl rfl rfl rfl (F.un _ rfl) (F.sz _ rfl) hslA rfl hkq fun rr2 p2 ne2 rl2 u1 u2 u3 u4 _=>?_
     rw [lp hkq] at u4
     have e1:=lq u4
     (repeat(first|(apply am;exact rfl;exact rfl;exact rfl)|(refine di rfl rfl rfl (F.ag _ rfl) u1 (br (by exact e1) (by omega)) ?_)))
     (apply cu;exact rfl;exact rfl;exact rfl;exact rfl)
     all_goals intro h4
     ·(repeat(first|refine ai ?_|refine ah ?_|refine aT ?_|refine aM ?_|refine aN ?_|refine aD rfl ?_|(apply am;exact rfl;exact rfl;exact rfl)|(apply aj;exact rfl;exact rfl;exact rfl)|(apply ce;exact rfl;exact rfl;exact rfl;exact rfl)|(apply bT;exact rfl;exact rfl;exact rfl;exact rfl;(focus(omega));(focus(omega)))))
      refine ihk _ _ _ (k+1) ⟨rfl,rfl,hkq,fun q hq' y hy=>?_⟩ (by omega) (SlIn.sub (by repeat(first|exact trivial|refine⟨rfl,?_⟩)))
      by_cases e:q=k
      ·subst e
       rw [hkat,zw] at hy
       omega
      ·exact hlt q (by omega) y hy
     ·clear ihk
      (repeat(first|refine ao ?_|refine ai ?_|refine ah ?_|refine bA rfl ?_|refine ay rfl ?_|(apply am;exact rfl;exact rfl;exact rfl)|(apply ce;exact rfl;exact rfl;exact rfl;exact rfl)|(refine dC rfl rfl rfl (F.un _ rfl) hslA ?_)|(refine cF rfl rfl rfl rfl (fun hq'=>absurd hq' (by omega)) (fun _=>?_))))
      refine dq rfl rfl rfl rfl (F.un _ rfl) (F.sz _ rfl) hslA rfl hkq fun rr3 p3 ne3 rl3 v1 v2 v3 v4 _=>?_
      rw [lp hkq] at v4
      have e2:=lq v4
      (repeat(first|(apply am;exact rfl;exact rfl;exact rfl)|(refine di rfl rfl rfl (F.ag _ rfl) v1 (br (by exact e2) (by omega)) ?_)))
      (apply jT;exact rfl;exact rfl;exact rfl;exact rfl)
      all_goals intro h5
      ·have hins:gA all2 x=all2.take k ++ ([x] ++ all2.drop k):=mq hlt (.inr ⟨_,hkat,by omega,by omega⟩)
       (repeat(first|refine ah ?_|refine aD rfl ?_|(apply bO;exact rfl;exact rfl;exact rfl;exact rfl)))
       have hne2:all2≠ []:=fun e=>by rw [e] at hkq;exact absurd hkq (by simp)
       have hone1: ∀ q m,bU (((uC all2).drop q).take m)=true:=fun q m=>jP (oY all2) fun y hy=>List.mem_of_mem_drop (List.mem_of_mem_take hy)
       have lenC:(uC all2).length=all2.length*1:=by simp
       obtain⟨b1,b2,b3⟩:=hrow hne2
       have hrowS:H2.at' nm2=some (eU false all2.length 1 23 (uC all2)):=by rw [kC];exact b3
       clear hslA
       refine mY (d:=3) ((show _=some (svU all2 nm2)from rfl).trans (congrArg some (o7 nm2 hne2))) hrowS (List.length_pos_iff.2 hne2) (by omega) fun C hC=>?_
       have hpos2:0<all2.length:=List.length_pos_iff.2 hne2
       have ho1:(if C=0 then 0*1 else 0*1+0*1)=0*1:=by split <;> rfl
       rcases Nat.eq_zero_or_pos k with hk0|hk0
       ·subst hk0
        (apply oX;(focus(kernel_rfl));(focus(kernel_rfl)))
        refine mM 3 (zB rfl) ?_
        (repeat(first|(apply aX;exact rfl;exact rfl;exact rfl)|(apply bv;exact rfl;exact rfl;exact(fun _ h=>by cases h);exact(bm (l:=0) (h:=0) (F.un _ rfl) (F.sz _ rfl) rfl bh (c8 rfl rfl) (zQ _) (by omega) ho1))))
        (refine be ?_);(apply ux;exact rfl;exact rfl;exact(fun _ h=>by cases h);exact(eH (F.un _ rfl) (.inl ⟨_,F.un _ rfl⟩) (F.sz _ rfl) (by decide) rfl rfl (gG hrowS)))
        refine qI ?_
        (repeat(first|(apply aX;exact rfl;exact rfl;exact rfl)|(apply dF;exact rfl;exact rfl;exact rfl)|(apply cx;exact rfl;exact rfl;exact(F.un _ rfl);exact(F.sz _ rfl);exact rfl;exact(F.ze _ rfl);exact rfl;exact rfl;exact rfl;exact rfl;exact rfl)|refine cR rfl rfl (fun _ h=>by cases h) (ct (b:=8) (F.un _ rfl) (.inl ⟨_,F.un _ rfl⟩) (F.sz _ rfl) (by decide) (by kernel_rfl) (by kernel_rfl) rfl rfl (lu (by(repeat(first|assumption|exact Tr.ae _ _ _));done) rfl) (by exact rfl) (by omega) (by omega) (by omega)) ?_|(apply bv;exact rfl;exact rfl;exact(fun _ h=>by cases h);exact(bm (l:=0) (h:=all2.length) (F.un _ rfl) (F.sz _ rfl) rfl (c8 rfl rfl) bh (by omega) hC ho1))|refine cR rfl rfl (fun _ h=>by cases h) (iU (b:=8) (F.un _ rfl) (.inl ⟨_,F.un _ rfl⟩) (F.sz _ rfl) (by decide) (by kernel_rfl) (by kernel_rfl) rfl rfl (by(repeat(first|assumption|exact Tr.ae _ _ _));done) (rfl) (iJ (by(repeat(first|assumption|refine(Tr.aa _ _ (by omega)).trans ?_));done) lenC (by omega)) (by exact hone1 _ _) (by omega) (by omega) (by omega)) ?_))
        (refine be ?_);(refine⟨by kernel_rfl,?_,?_⟩);(focus(repeat(first|exact trivial|refine⟨.inl (ck rfl),?_⟩|refine⟨.inr ⟨0,by kernel_rfl,.inl (AllH.all (fun _=>(by first|exact aY rfl|exact ax rfl|exact aq (F.fo _ _ rfl rfl) rfl|exact aP (F.un _ rfl) rfl|exact aE rfl rfl|exact aH rfl|exact aU rfl (F.ze _ rfl) (F.pl _ rfl) rfl|exact bq rfl|exact aI (F.un _ rfl) rfl|exact aQ rfl rfl|exact aR rfl rfl|exact bi rfl rfl (.inr (.inr (.inr (.inr (.inl ⟨rfl,rfl⟩)))))|exact an rfl rfl (.inl ⟨rfl,(zx _ ⟨by omega,by omega⟩).symm⟩)|exact an rfl rfl (.inr (.inl ⟨rfl,(zx _ ⟨by omega,by omega⟩).symm⟩)))) _)⟩,?_⟩|refine⟨.inr ⟨0,by kernel_rfl,.inl (by(refine⟨(by first|exact aw (F.ag _ rfl) rfl (by assumption) (az rfl)|exact aC (F.ag _ rfl) rfl (by assumption) (ak _ 0 rfl rfl)|exact aU rfl (F.ze _ rfl) (F.pl _ rfl) rfl|exact bm (l:=0) (h:=0) (F.un _ rfl) (F.sz _ rfl) rfl bh (c8 rfl rfl) (zQ _) (by omega) ho1|exact bm (l:=0) (h:=all2.length) (F.un _ rfl) (F.sz _ rfl) rfl (c8 rfl rfl) bh (by omega) hC ho1),?_⟩;(repeat(refine⟨(by first|exact aw (F.ag _ rfl) rfl (by assumption) (az rfl)|exact aC (F.ag _ rfl) rfl (by assumption) (ak _ 0 rfl rfl)|exact aU rfl (F.ze _ rfl) (F.pl _ rfl) rfl|exact bm (l:=0) (h:=0) (F.un _ rfl) (F.sz _ rfl) rfl bh (c8 rfl rfl) (zQ _) (by omega) ho1|exact bm (l:=0) (h:=all2.length) (F.un _ rfl) (F.sz _ rfl) rfl (c8 rfl rfl) bh (by omega) hC ho1),?_⟩));exact trivial))⟩,?_⟩|refine⟨.inr ⟨0,by kernel_rfl,.inr (by(refine⟨(by exact eZ (fun _ h=>by cases h) (eH (F.un _ rfl) (.inl ⟨_,F.un _ rfl⟩) (F.sz _ rfl) (by decide) rfl rfl (gG (by(repeat(first|assumption|refine(Tr.aa _ _ (by omega)).trans ?_|refine(Tr.aF _ (by omega)).trans ?_));done)))),?_⟩;(repeat(refine⟨(by exact eZ (fun _ h=>by cases h) (eH (F.un _ rfl) (.inl ⟨_,F.un _ rfl⟩) (F.sz _ rfl) (by decide) rfl rfl (gG (by(repeat(first|assumption|refine(Tr.aa _ _ (by omega)).trans ?_));done)))),?_⟩));exact trivial))⟩,?_⟩)))
        dsimp only
        refine fK (R:=fun H5 n5=>n5=n2+3∧H5.at' (n2+2)=some (eU false (1+(all2.length-0)) 1 23 ([SV.sc (.int .u64 (x:Int))] ++ ((uC all2).drop (0*1)).take ((all2.length-0)*1)))∧ ∀ n,n<nx→H5.at' n=H.at' n) ⟨rfl,by(focus((repeat(exact Tr.ae _ _ _));done)),fun n hn=>by(focus((repeat(first|refine(Tr.aa _ _ (by omega)).trans ?_|refine(Tr.aF _ (by omega)).trans ?_));exact hlow n hn))⟩ ?_
        rintro H5 _ ⟨rfl,f1,f2⟩
        obtain⟨f3,f4⟩:=fin .nil H5 (n2+3) (n2+2) (1+(all2.length-0)) ([SV.sc (.int .u64 (x:Int))] ++ ((uC all2).drop (0*1)).take ((all2.length-0)*1)) hins (by omega) (by simp [zH]) (by omega) (by omega) f1 f2
        (repeat(first|refine ai ?_|refine ah ?_|refine aM ?_|(apply am;exact rfl;exact rfl;exact rfl)|(apply aj;exact rfl;exact rfl;exact rfl)|(apply bT;exact rfl;exact rfl;exact rfl;exact rfl;(focus(omega));(focus(omega)))))
        refine ih2 _ _ _ (gA all2 x,n2+2,j+1) ⟨by simp only [zS] at hjl;simp only;omega,hnext.symm,by simp only;omega,f4,by omega,f2⟩ (by simp only [zS] at hjl;simp only;omega) (SlIn.sub (by simp only [f3];exact(by repeat(first|exact trivial|refine⟨rfl,?_⟩|refine⟨dS (by first|omega|(simp only;omega)),?_⟩))))
       ·have ho2:(if C=k then 0*1 else 0*1+k*1)=k*1:=by rw [if_neg (by omega)];omega
        refine mf 3 5 82 (by kernel_rfl) (by kernel_rfl) (by kernel_rfl) ?_
        (repeat(first|(apply aX;exact rfl;exact rfl;exact rfl)|(apply dF;exact rfl;exact rfl;exact rfl)|(apply bv;exact rfl;exact rfl;exact(fun _ h=>by cases h);exact(bm (l:=0) (h:=k) (F.un _ rfl) (F.sz _ rfl) rfl bh (c8 rfl rfl) (zQ _) (by omega) ho1))|refine cR rfl rfl (fun _ h=>by cases h) (ct (b:=8) (F.un _ rfl) (.inl ⟨_,F.un _ rfl⟩) (F.sz _ rfl) (by decide) (by kernel_rfl) (by kernel_rfl) rfl rfl (iJ (by(repeat(first|assumption|refine(Tr.aa _ _ (by omega)).trans ?_|refine(Tr.aF _ (by omega)).trans ?_));done) lenC (by omega)) (by exact hone1 _ _) (by omega) (by omega) (by omega)) ?_|(apply cx;exact rfl;exact rfl;exact(F.un _ rfl);exact(F.sz _ rfl);exact rfl;exact(F.ze _ rfl);exact rfl;exact rfl;exact rfl;exact rfl;exact rfl)|refine cR rfl rfl (fun _ h=>by cases h) (iU (b:=8) (F.un _ rfl) (.inl ⟨_,F.un _ rfl⟩) (F.sz _ rfl) (by decide) (by kernel_rfl) (by kernel_rfl) rfl rfl (by(repeat(first|exact Tr.ae _ _ _|refine(Tr.aa _ _ (by omega)).trans ?_));done) (by rw [List.length_take,List.length_drop,lenC];omega) (lu (by(repeat(exact Tr.ae _ _ _));done) rfl) (by exact rfl) (by omega) (by omega) (by omega)) ?_|(apply bv;exact rfl;exact rfl;exact(fun _ h=>by cases h);exact(bm (l:=k) (h:=all2.length) (F.un _ rfl) (F.sz _ rfl) rfl (c8 rfl rfl) bh (by omega) hC ho2))|refine cR rfl rfl (fun _ h=>by cases h) (iU (b:=8) (F.un _ rfl) (.inl ⟨_,F.un _ rfl⟩) (F.sz _ rfl) (by decide) (by kernel_rfl) (by kernel_rfl) rfl rfl (by(repeat(first|assumption|exact Tr.ae _ _ _));done) ((by show((((uC all2).drop (0*1)).take ((k-0)*1)) ++ [SV.sc (.int .u64 (x:Int))]).length=(k-0+1)*1;rw [zT,List.length_take,List.length_drop,lenC];show _+1=_;omega)) (iJ (by(repeat(first|assumption|refine(Tr.aa _ _ (by omega)).trans ?_|refine(Tr.aF _ (by omega)).trans ?_));done) lenC (by omega)) (by exact hone1 _ _) (by omega) (by omega) (by omega)) ?_))
        refine be ?_
        refine⟨⟨[6,10],by kernel_rfl,by kernel_rfl⟩,?_,?_,?_⟩
        ·(repeat(first|exact trivial|refine⟨.inl (ck rfl),?_⟩|refine⟨.inr ⟨0,by kernel_rfl,AllH.all (fun _=>(by first|exact aY rfl|exact ax rfl|exact aq (F.fo _ _ rfl rfl) rfl|exact aP (F.un _ rfl) rfl|exact aE rfl rfl|exact aH rfl|exact aU rfl (F.ze _ rfl) (F.pl _ rfl) rfl|exact bq rfl|exact aI (F.un _ rfl) rfl|exact aQ rfl rfl|exact aR rfl rfl|exact bi rfl rfl (.inr (.inr (.inr (.inr (.inl ⟨rfl,rfl⟩)))))|exact an rfl rfl (.inl ⟨rfl,(zx _ ⟨by omega,by omega⟩).symm⟩)|exact an rfl rfl (.inr (.inl ⟨rfl,(zx _ ⟨by omega,by omega⟩).symm⟩)))) _⟩,?_⟩|refine⟨.inr ⟨0,by kernel_rfl,(by(refine⟨(by first|exact aw (F.ag _ rfl) rfl (by assumption) (az rfl)|exact aC (F.ag _ rfl) rfl (by assumption) (ak _ 0 rfl rfl)|exact aU rfl (F.ze _ rfl) (F.pl _ rfl) rfl|exact bm (l:=0) (h:=k) (F.un _ rfl) (F.sz _ rfl) rfl bh (c8 rfl rfl) (zQ _) (by omega) ho1|exact bm (l:=k) (h:=all2.length) (F.un _ rfl) (F.sz _ rfl) rfl (c8 rfl rfl) bh (by omega) hC ho2),?_⟩;(repeat(refine⟨(by first|exact aw (F.ag _ rfl) rfl (by assumption) (az rfl)|exact aC (F.ag _ rfl) rfl (by assumption) (ak _ 0 rfl rfl)|exact aU rfl (F.ze _ rfl) (F.pl _ rfl) rfl|exact bm (l:=0) (h:=k) (F.un _ rfl) (F.sz _ rfl) rfl bh (c8 rfl rfl) (zQ _) (by omega) ho1|exact bm (l:=k) (h:=all2.length) (F.un _ rfl) (F.sz _ rfl) rfl (c8 rfl rfl) bh (by omega) hC ho2),?_⟩));exact trivial))⟩,?_⟩))
        ·refine⟨_,_,_,_,_,_,_,_,⟨rfl,rfl,by kernel_rfl,by kernel_rfl,rfl,rfl,rfl,rfl,rfl,mN _ _,fun ρ=>lI (((all2.flatMap uV).drop (0*1)).take ((k-0)*1)) (by rw [List.map_take,List.map_drop,mE]),fun ρ=>lI [Value.int .u64 (x:Int)] rfl,eZ (fun _ h=>by cases h) (cQ (F.un _ rfl) (F.sz _ rfl) (by decide) (F.ze _ rfl) rfl rfl rfl rfl rfl),eZ (fun _ h=>by cases h) (ct (b:=8) (F.un _ rfl) (.inl ⟨_,F.un _ rfl⟩) (F.sz _ rfl) (by decide) (by kernel_rfl) (by kernel_rfl) rfl rfl (iJ (by(repeat(first|assumption|refine(Tr.aa _ _ (by omega)).trans ?_));done) lenC (by omega)) (by exact hone1 _ _) (by omega) (by omega) (by omega))⟩⟩
        dsimp only
        refine fK (R:=fun H5 n5=>n5=n2+4∧H5.at' (n2+3)=some (eU false (k-0+1+(all2.length-k)) 1 23 (((uC all2).drop (0*1)).take ((k-0)*1) ++ [SV.sc (.int .u64 (x:Int))] ++ ((uC all2).drop (k*1)).take ((all2.length-k)*1)))∧ ∀ n,n<nx→H5.at' n=H.at' n) ⟨rfl,by(focus((repeat(exact Tr.ae _ _ _));done)),fun n hn=>by(focus((repeat(first|refine(Tr.aa _ _ (by omega)).trans ?_|refine(Tr.aF _ (by omega)).trans ?_));exact hlow n hn))⟩ ?_
        rintro H5 _ ⟨rfl,f1,f2⟩
        obtain⟨f3,f4⟩:=fin .nil H5 (n2+4) (n2+3) (k-0+1+(all2.length-k)) (((uC all2).drop (0*1)).take ((k-0)*1) ++ [SV.sc (.int .u64 (x:Int))] ++ ((uC all2).drop (k*1)).take ((all2.length-k)*1)) hins (by omega) (by simp [zH]) (by omega) (by omega) f1 f2
        (repeat(first|refine ai ?_|refine ah ?_|refine aM ?_|(apply am;exact rfl;exact rfl;exact rfl)|(apply aj;exact rfl;exact rfl;exact rfl)|(apply bT;exact rfl;exact rfl;exact rfl;exact rfl;(focus(omega));(focus(omega)))))
        refine ih2 _ _ _ (gA all2 x,n2+3,j+1) ⟨by simp only [zS] at hjl;simp only;omega,hnext.symm,by simp only;omega,f4,by omega,f2⟩ (by simp only [zS] at hjl;simp only;omega) (SlIn.sub (by simp only [f3];exact(by repeat(first|exact trivial|refine⟨rfl,?_⟩|refine⟨dS (by first|omega|(simp only;omega)),?_⟩))))
      ·have hins:gA all2 x=all2:=nw hlt (by rw [hkat];congr 1;omega)
       rw [hins] at hnext
       (repeat(first|refine ai ?_|refine ah ?_|refine aM ?_|refine aN ?_|refine ay rfl ?_|(apply am;exact rfl;exact rfl;exact rfl)|(apply aj;exact rfl;exact rfl;exact rfl)|(apply bO;exact rfl;exact rfl;exact rfl;exact rfl)|(apply bT;exact rfl;exact rfl;exact rfl;exact rfl;(focus(omega));(focus(omega)))))
       refine ih2 _ _ _ (all2,nm2,j+1) ⟨by simp only [zS] at hjl;simp only;omega,hnext.symm,by simp only;omega,hrow,hn2,hlow⟩ (by simp only [zS] at hjl;simp only;omega) (SlIn.sub (by repeat(first|exact trivial|refine⟨rfl,?_⟩|refine⟨dS (by first|omega|(simp only;omega)),?_⟩)))
    ·clear ihk
     have hkl:k=all2.length:=by omega
     have hins:gA all2 x=all2.take k ++ ([x] ++ all2.drop k):=mq hlt (.inl hkl)
     (repeat(first|refine ao ?_|refine ai ?_|refine ah ?_|refine bA rfl ?_|refine aD rfl ?_|refine ay rfl ?_|(apply am;exact rfl;exact rfl;exact rfl)|(apply ce;exact rfl;exact rfl;exact rfl;exact rfl)|(apply bO;exact rfl;exact rfl;exact rfl;exact rfl)|(apply ix;exact rfl)|(refine dC rfl rfl rfl (F.un _ rfl) hslA ?_)|(refine cF rfl rfl rfl rfl (fun _=>?_) (fun hq'=>absurd (by omega) hq'))))
     rcases Nat.eq_zero_or_pos all2.length with hz|hz
     ·obtain rfl:=zL hz
      simp only [List.length_nil] at hkl
      subst hkl
      (apply oX;(focus(kernel_rfl));(focus(kernel_rfl)))
      refine mM 3 (zB rfl) ?_
      (repeat(first|(apply aX;exact rfl;exact rfl;exact rfl)|(apply bv;exact rfl;exact rfl;exact(fun _ h=>by cases h);exact(p8 (F.un _ rfl) (F.sz _ rfl) rfl rfl))))
      (refine be ?_);(apply ux;exact rfl;exact rfl;exact(fun _ h=>by cases h);exact(eH (F.un _ rfl) (.inl ⟨_,F.un _ rfl⟩) (F.sz _ rfl) (by decide) rfl rfl (xv)))
      refine qI ?_
      (repeat(first|(apply aX;exact rfl;exact rfl;exact rfl)|(apply dF;exact rfl;exact rfl;exact rfl)|(apply cx;exact rfl;exact rfl;exact(F.un _ rfl);exact(F.sz _ rfl);exact rfl;exact(F.ze _ rfl);exact rfl;exact rfl;exact rfl;exact rfl;exact rfl)|refine cR rfl rfl (fun _ h=>by cases h) (ct (b:=8) (F.un _ rfl) (.inl ⟨_,F.un _ rfl⟩) (F.sz _ rfl) (by decide) (by kernel_rfl) (by kernel_rfl) rfl rfl (lu (by(repeat(first|assumption|exact Tr.ae _ _ _));done) rfl) (by exact rfl) (by omega) (by omega) (by omega)) ?_|(apply bv;exact rfl;exact rfl;exact(fun _ h=>by cases h);exact(lJ (F.un _ rfl) (F.sz _ rfl) rfl rfl))|refine cR rfl rfl (fun _ h=>by cases h) (pk (F.un _ rfl) (.inl ⟨_,F.un _ rfl⟩) (F.sz _ rfl) (by decide) rfl rfl (by(repeat(exact Tr.ae _ _ _));done) (zP _) rfl) ?_))
      refine be ?_
      refine⟨by kernel_rfl,?_,?_⟩
      ·refine⟨.inl (by kernel_rfl),?_⟩
       refine⟨.inl (ck rfl),?_⟩
       refine⟨.inr ⟨0,by kernel_rfl,.inl (AllH.all (fun _=>lJ (F.un _ rfl) (F.sz _ rfl) rfl rfl) _)⟩,?_⟩
       refine⟨.inr ⟨0,by kernel_rfl,.inl (AllH.all (fun _=>aY rfl) _)⟩,?_⟩
       refine⟨.inr ⟨0,by kernel_rfl,.inl (AllH.all (fun _=>aY rfl) _)⟩,?_⟩
       refine⟨.inl (ck rfl),?_⟩
       refine⟨.inl (ck rfl),?_⟩
       refine⟨.inr ⟨0,by kernel_rfl,.inl (AllH.all (fun _=>aY rfl) _)⟩,?_⟩
       refine⟨.inr ⟨0,by kernel_rfl,.inr (by(refine⟨(by exact eZ (fun _ h=>by cases h) (eH (F.un _ rfl) (.inl ⟨_,F.un _ rfl⟩) (F.sz _ rfl) (by decide) rfl rfl (xv))),?_⟩;(repeat(refine⟨(by exact eZ (fun _ h=>by cases h) (eH (F.un _ rfl) (.inl ⟨_,F.un _ rfl⟩) (F.sz _ rfl) (by decide) rfl rfl (xv))),?_⟩));exact trivial))⟩,?_⟩
       refine⟨.inr ⟨0,by kernel_rfl,.inl (AllH.all (fun _=>p8 (F.un _ rfl) (F.sz _ rfl) rfl rfl) _)⟩,?_⟩
       refine⟨.inr ⟨0,by kernel_rfl,.inl (AllH.all (fun _=>aY rfl) _)⟩,?_⟩
       refine⟨.inr ⟨0,by kernel_rfl,.inl (AllH.all (fun _=>aY rfl) _)⟩,?_⟩
       exact trivial
      dsimp only
      refine fK (R:=fun H5 n5=>n5=n2+2∧H5.at' (n2+1)=some (eU false (1) 1 23 ([SV.sc (.int .u64 (x:Int))]))∧ ∀ n,n<nx→H5.at' n=H.at' n) ⟨rfl,by(focus((repeat(exact Tr.ae _ _ _));done)),fun n hn=>by(focus((repeat(refine(Tr.aa _ _ (by omega)).trans ?_));exact hlow n hn))⟩ ?_
      rintro H5 _ ⟨rfl,f1,f2⟩
      obtain⟨f3,f4⟩:=fin .nil H5 (n2+2) (n2+1) (1) ([SV.sc (.int .u64 (x:Int))]) hins (by omega) (by rfl) (by omega) (by omega) f1 f2
      (repeat(first|refine ai ?_|refine ah ?_|refine aM ?_|(apply am;exact rfl;exact rfl;exact rfl)|(apply aj;exact rfl;exact rfl;exact rfl)|(apply bT;exact rfl;exact rfl;exact rfl;exact rfl;(focus(omega));(focus(omega)))))
      refine ih2 _ _ _ (gA [] x,n2+1,j+1) ⟨by simp only [zS] at hjl;simp only;omega,hnext.symm,by simp only;omega,f4,by omega,f2⟩ (by simp only [zS] at hjl;simp only;omega) (SlIn.sub (by simp only [f3];exact(by repeat(first|exact trivial|refine⟨rfl,?_⟩|refine⟨dS (by first|omega|(simp only;omega)),?_⟩))))
     ·have hne2:all2≠ []:=List.length_pos_iff.1 hz
      have hone1: ∀ q m,bU (((uC all2).drop q).take m)=true:=fun q m=>jP (oY all2) fun y hy=>List.mem_of_mem_drop (List.mem_of_mem_take hy)
      have lenC:(uC all2).length=all2.length*1:=by simp
      obtain⟨b1,b2,b3⟩:=hrow hne2
      have hrowS:H2.at' nm2=some (eU false all2.length 1 23 (uC all2)):=by rw [kC];exact b3
      clear hslA
      refine mY (d:=3) ((show _=some (svU all2 nm2)from rfl).trans (congrArg some (o7 nm2 hne2))) hrowS (List.length_pos_iff.2 hne2) (by omega) fun C hC=>?_
      have hpos2:0<all2.length:=List.length_pos_iff.2 hne2
      have ho1:(if C=0 then 0*1 else 0*1+0*1)=0*1:=by split <;> rfl
      refine mf 3 5 82 (by kernel_rfl) (by kernel_rfl) (by kernel_rfl) ?_
      (repeat(first|(apply aX;exact rfl;exact rfl;exact rfl)|(apply dF;exact rfl;exact rfl;exact rfl)|(apply bv;exact rfl;exact rfl;exact(fun _ h=>by cases h);exact(bm (l:=0) (h:=k) (F.un _ rfl) (F.sz _ rfl) rfl bh (c8 rfl rfl) (zQ _) (by omega) ho1))|refine cR rfl rfl (fun _ h=>by cases h) (ct (b:=8) (F.un _ rfl) (.inl ⟨_,F.un _ rfl⟩) (F.sz _ rfl) (by decide) (by kernel_rfl) (by kernel_rfl) rfl rfl (iJ (by assumption) lenC (by omega)) (by exact hone1 _ _) (by omega) (by omega) (by omega)) ?_|(apply cx;exact rfl;exact rfl;exact(F.un _ rfl);exact(F.sz _ rfl);exact rfl;exact(F.ze _ rfl);exact rfl;exact rfl;exact rfl;exact rfl;exact rfl)|refine cR rfl rfl (fun _ h=>by cases h) (iU (b:=8) (F.un _ rfl) (.inl ⟨_,F.un _ rfl⟩) (F.sz _ rfl) (by decide) (by kernel_rfl) (by kernel_rfl) rfl rfl (by(repeat(first|exact Tr.ae _ _ _|refine(Tr.aa _ _ (by omega)).trans ?_));done) (by rw [List.length_take,List.length_drop,lenC];omega) (lu (by(repeat(exact Tr.ae _ _ _));done) rfl) (by exact rfl) (by omega) (by omega) (by omega)) ?_|(apply bv;exact rfl;exact rfl;exact(fun _ h=>by cases h);exact(bm (l:=k) (h:=all2.length) (F.un _ rfl) (F.sz _ rfl) rfl (c8 rfl rfl) bh (by omega) hC rfl))|refine cR rfl rfl (fun _ h=>by cases h) (pk (F.un _ rfl) (.inl ⟨_,F.un _ rfl⟩) (F.sz _ rfl) (by decide) rfl rfl (by(repeat(exact Tr.ae _ _ _));done) (zP _) (by rw [show all2.length-k=0 from by omega];exact gG (by(repeat(first|assumption|refine(Tr.aa _ _ (by omega)).trans ?_|refine(Tr.aF _ (by omega)).trans ?_));done))) ?_))
      refine be ?_
      refine⟨⟨[6,10],by kernel_rfl,by kernel_rfl⟩,?_,?_,?_⟩
      ·(repeat(first|exact trivial|refine⟨.inl (ck rfl),?_⟩|refine⟨.inr ⟨0,by kernel_rfl,AllH.all (fun _=>(by first|exact aY rfl|exact ax rfl|exact aq (F.fo _ _ rfl rfl) rfl|exact aP (F.un _ rfl) rfl|exact aE rfl rfl|exact aH rfl|exact aU rfl (F.ze _ rfl) (F.pl _ rfl) rfl|exact bq rfl|exact aI (F.un _ rfl) rfl|exact aQ rfl rfl|exact aR rfl rfl|exact bi rfl rfl (.inr (.inr (.inr (.inr (.inl ⟨rfl,rfl⟩)))))|exact an rfl rfl (.inl ⟨rfl,(zx _ ⟨by omega,by omega⟩).symm⟩)|exact an rfl rfl (.inr (.inl ⟨rfl,(zx _ ⟨by omega,by omega⟩).symm⟩)))) _⟩,?_⟩|refine⟨.inr ⟨0,by kernel_rfl,(by(refine⟨(by first|exact aw (F.ag _ rfl) rfl (by assumption) (az rfl)|exact aC (F.ag _ rfl) rfl (by assumption) (ak _ 0 rfl rfl)|exact aU rfl (F.ze _ rfl) (F.pl _ rfl) rfl|exact bm (l:=0) (h:=k) (F.un _ rfl) (F.sz _ rfl) rfl bh (c8 rfl rfl) (zQ _) (by omega) ho1|exact bm (l:=k) (h:=all2.length) (F.un _ rfl) (F.sz _ rfl) rfl (c8 rfl rfl) bh (by omega) hC rfl),?_⟩;(repeat(refine⟨(by first|exact aw (F.ag _ rfl) rfl (by assumption) (az rfl)|exact aC (F.ag _ rfl) rfl (by assumption) (ak _ 0 rfl rfl)|exact aU rfl (F.ze _ rfl) (F.pl _ rfl) rfl|exact bm (l:=0) (h:=k) (F.un _ rfl) (F.sz _ rfl) rfl bh (c8 rfl rfl) (zQ _) (by omega) ho1|exact bm (l:=k) (h:=all2.length) (F.un _ rfl) (F.sz _ rfl) rfl (c8 rfl rfl) bh (by omega) hC rfl),?_⟩));exact trivial))⟩,?_⟩))
      ·refine⟨_,_,_,_,_,_,_,_,⟨rfl,rfl,by kernel_rfl,by kernel_rfl,rfl,rfl,rfl,rfl,rfl,mN _ _,fun ρ=>lI (((all2.flatMap uV).drop (0*1)).take ((k-0)*1)) (by rw [List.map_take,List.map_drop,mE]),fun ρ=>lI [Value.int .u64 (x:Int)] rfl,eZ (fun _ h=>by cases h) (cQ (F.un _ rfl) (F.sz _ rfl) (by decide) (F.ze _ rfl) rfl rfl rfl rfl rfl),eZ (fun _ h=>by cases h) (ct (b:=8) (F.un _ rfl) (.inl ⟨_,F.un _ rfl⟩) (F.sz _ rfl) (by decide) (by kernel_rfl) (by kernel_rfl) rfl rfl (iJ (by(repeat(first|assumption|refine(Tr.aa _ _ (by omega)).trans ?_));done) lenC (by omega)) (by exact hone1 _ _) (by omega) (by omega) (by omega))⟩⟩
      dsimp only
      refine fK (R:=fun H5 n5=>n5=n2+3∧H5.at' (n2+2)=some (eU false (k-0+1) 1 23 (((uC all2).drop (0*1)).take ((k-0)*1) ++ [SV.sc (.int .u64 (x:Int))]))∧ ∀ n,n<nx→H5.at' n=H.at' n) ⟨rfl,by(focus((repeat(exact Tr.ae _ _ _));done)),fun n hn=>by(focus((repeat(first|refine(Tr.aa _ _ (by omega)).trans ?_|refine(Tr.aF _ (by omega)).trans ?_));exact hlow n hn))⟩ ?_
      rintro H5 _ ⟨rfl,f1,f2⟩
      obtain⟨f3,f4⟩:=fin .nil H5 (n2+3) (n2+2) (k-0+1) (((uC all2).drop (0*1)).take ((k-0)*1) ++ [SV.sc (.int .u64 (x:Int))]) hins (by omega) (by simp [hkl]) (by omega) (by omega) f1 f2
      (repeat(first|refine ai ?_|refine ah ?_|refine aM ?_|(apply am;exact rfl;exact rfl;exact rfl)|(apply aj;exact rfl;exact rfl;exact rfl)|(apply bT;exact rfl;exact rfl;exact rfl;exact rfl;(focus(omega));(focus(omega)))))
      refine ih2 _ _ _ (gA all2 x,n2+2,j+1) ⟨by simp only [zS] at hjl;simp only;omega,hnext.symm,by simp only;omega,f4,by omega,f2⟩ (by simp only [zS] at hjl;simp only;omega) (SlIn.sub (by simp only [f3];exact(by repeat(first|exact trivial|refine⟨rfl,?_⟩|refine⟨dS (by first|omega|(simp only;omega)),?_⟩))))
  ·clear ih2
   have hje:j=l.length+1:=by omega
   (repeat(first|refine ai ?_|refine ah ?_|refine aM ?_|refine bA rfl ?_|refine ay rfl ?_|(apply am;exact rfl;exact rfl;exact rfl)|(apply aj;exact rfl;exact rfl;exact rfl)|(apply bT;exact rfl;exact rfl;exact rfl;exact rfl;(focus(omega));(focus(omega)))))
   refine ih _ _ _ (all2,nm2,i+1) ⟨hq,?_,?_,hrow,hn2,hlow⟩ (by simp only;omega) (SlIn.sub (by repeat(first|exact trivial|refine⟨rfl,?_⟩)))
   ·simp only
    rw [hsn,ha,hje,zH (by simp)]
   ·simp only
    rw [hsn,zT,zS]
    omega
 ·clear ih
  have hie:i=V.length:=by omega
  subst hie
  rw [List.take_length] at ha
  have hown:gh (V.map (·.1))=all:=by unfold gh;exact ha.symm
  rw [hown]
  rcases all with _|⟨x,all⟩
  ·(repeat(first|refine ao ?_|refine ai ?_|refine ah ?_|refine bA rfl ?_|refine ay rfl ?_|(apply am;exact rfl;exact rfl;exact rfl)|(apply aj;exact rfl;exact rfl;exact rfl)))
   refine co 1 23 (d:=2) (by(repeat(exact Tr.ae _ _ _));done) rfl ?_
   ((apply bj Try.func46 (congrArg Array.toList Try.results46));(focus(repeat(first|exact ResIs.nil|apply ResIs.tmp rfl))))
   exact⟨n1,rfl,by(focus((repeat(exact Tr.ae _ _ _));done)),hn1,Nat.lt_succ_self _,by simp only;omega,fun n hn=>(Tr.aa _ _ (by omega)).trans (hlow n hn)⟩
  ·obtain⟨g1,g2,g3⟩:=hrow (by simp)
   (repeat(first|refine ao ?_|refine ai ?_|refine ah ?_|refine bA rfl ?_|refine ay rfl ?_|(apply am;exact rfl;exact rfl;exact rfl)|(apply aj;exact rfl;exact rfl;exact rfl)))
   ((apply bj Try.func46 (congrArg Array.toList Try.results46));(focus(repeat(first|exact ResIs.nil|apply ResIs.tmp rfl))))
   exact⟨nm,rfl,g3,g1,g2,hn1,hlow⟩
end Go.Proofs.Ytckajlllkmkniaa
end
section
namespace Go.Proofs.Ytckajlllkmkniaa
open Go Go.Sy Go.Sl Go.RowKit
theorem pE:(Value.agg #[Value.slice none 0 0,Value.string ⟨#[]⟩]).cells.toList= [Value.slice none 0 0,Value.string ⟨#[]⟩]:=by
 simp [Value.cells]
theorem nQ{e:Env}{nx:Nat}{v:Value}(h0:e nx=some ⟨0,0,0,1,true⟩)(h1:(SV.agg (List.map SV.sc (Value.agg #[Value.slice none 0 0,Value.string ⟨#[]⟩]).cells.toList)).conc e=some v):(SV.agg [.slu nx 0 0,.sc (.string ⟨#[]⟩)]).conc e=some v:=by
 rw [pE] at h1
 simpa [SV.conc,SV.ba,h0,Ent.at] using h1
theorem rO:(Value.agg #[Value.int .u64 0,Value.slice none 0 0]).cells.toList= [Value.int .u64 0,Value.slice none 0 0]:=by
 simp [Value.cells]
theorem qj{e:Env}{nx o:Nat}{v:Value}(h0:e nx=some ⟨0,0,0,1,true⟩)(h1:(SV.agg (List.take 0 (List.map SV.sc (Value.agg #[Value.int .u64 0,Value.slice none 0 0]).cells.toList) ++ (SV.sc (Value.int .u64 (o:Int))).cells ++ List.drop (0+1) (List.map SV.sc (Value.agg #[Value.int .u64 0,Value.slice none 0 0]).cells.toList))).conc e=some v):(SV.agg [.sc (.int .u64 (o:Int)),.slu nx 0 0]).conc e=some v:=by
 rw [rO] at h1
 simpa [SV.conc,SV.ba,SV.cells,h0,Ent.at] using h1
theorem qL{t a b:Nat}{ml':MLk}{cl':Nat}{mp':MPt}{cp':Nat}{F1 F2 F1' Fp:Nat→Prop}{H H2 Hf:aV}{nx n2 nf:Nat}{T':LT}{v:SV}(hs:Step Fp (All t a b F1 F2) H nx H2 n2)(hf: ∃ F3,Tb t a b ml' cl' mp' cp' F1' F3 Hf∧Step (All t a b F1 F2) (All t a b F1' F3) H2 n2 Hf nf)(hT:T'=b9 ml' mp'):Chg t T' v Fp H nx (v,Hf,nf):=by
 obtain⟨F3,h3,h4⟩:=hf
 exact⟨rfl,_,⟨a,b,_,_,_,_,_,_,h3,hT,fun _=>Iff.rfl⟩,hs.trans h4⟩
theorem Tb.frameA{t a b:Nat}{ml:MLk}{cl:Nat}{mp:MPt}{cp:Nat}{F1 F2:Nat→Prop}{H H':aV}(h:Tb t a b ml cl mp cp F1 F2 H)(hf: ∀ n,All t a b F1 F2 n→H'.at' n=H.at' n):Tb t a b ml cl mp cp F1 F2 H':=⟨(hf _ (.inl rfl)).trans h.tab,(hf _ (.inr (.inl rfl))).trans h.locks,(hf _ (.inr (.inr (.inl rfl)))).trans h.parties,h.okl,h.okp,Big.frame eR _ _ _ _ h.bl fun z hz=>hf _ (.inr (.inr (.inr (.inl hz)))),Big.frame eQ _ _ _ _ h.bp fun z hz=>hf _ (.inr (.inr (.inr (.inr hz)))),h.ne,h.d1,h.d2⟩
theorem Tb.all_ltA{t a b:Nat}{ml:MLk}{cl:Nat}{mp:MPt}{cp:Nat}{F1 F2:Nat→Prop}{H:aV}{nx:Nat}(h:Tb t a b ml cl mp cp F1 F2 H)(hu: ∀ b vo,H.at' b=some vo→b<nx): ∀ n,All t a b F1 F2 n→n<nx:=by
 obtain⟨h1,h2,h3,h4,h5⟩:=h.lt hu
 intro n hn
 rcases hn with rfl|rfl|rfl|hn|hn
 ·exact h1
 ·exact h2
 ·exact h3
 ·exact h4 _ hn
 ·exact h5 _ hn
theorem zt{t:Nat}{T:LT}{Fp:Nat→Prop}{H:aV}{nx:Nat}(hT:TabAt t T Fp H)(o:Nat)(k:ByteArray)(hks:(T.keys o).length<999999)(hln:(T.line k).length<999999)(hsz:k.size<4611686018427387904)
 (hr: ∀ h l,bE T.locks k=some (h,l)→T.chase o 1001 h=some (decide (T.chase o (T.parties.length+1) h=some true))) :
 Fnc Try.prog 29 [.ptr t 0,.sc (.int .u64 (o:Int)),.sc (.string k)] H nx (Chg t (T.ask o k).1 (.sc (.int .i64 (T.ask o k).2)) Fp H nx):=by
 have hT0:=hT
 obtain⟨a,b,ml,cl,mp,cp,F1,F2,h,rfl,hF⟩:=hT
 have hFp:Fp=All t a b F1 F2:=funext fun n=>propext (hF n)
 subst hFp
 have htab:=h.tab
 have hloc:=h.locks
 have hpar:=h.parties
 have hne:=h.ne
 refine Fnc.start Try.func29 rfl rfl ?_
 refine b4 fun hund=>?_
 obtain⟨ut,ua,ub,u1,u2⟩:=h.lt hund
 (repeat(first|refine ao ?_|refine ai ?_|refine ah ?_|refine aN ?_|refine ay rfl ?_|refine am rfl rfl rfl ?_|refine aj rfl rfl rfl ?_|(refine bn rfl rfl rfl (by kernel_rfl) (Fnc.mono (iM htab) ?_);rintro _ rfl;dsimp only)))
 refine cF rfl rfl rfl rfl ?_ ?_
 all_goals intro h1
 ·have hask:(b9 ml mp).ask o k=(b9 ml mp,2):=by unfold LT.ask;rw [if_pos (.inl (by omega))]
  rw [hask]
  (repeat(first|refine ao ?_|refine ai ?_|refine ah ?_|refine aD rfl ?_|refine am rfl rfl rfl ?_|refine aj rfl rfl rfl ?_|refine ce rfl rfl rfl rfl ?_|refine ix rfl ?_))
  ((apply bj Try.func29 (congrArg Array.toList Try.results29));(focus(repeat(first|exact ResIs.nil|apply ResIs.tmp rfl))))
  exact is hT0 _
 by_cases h2:k.size=0
 ·have hask:(b9 ml mp).ask o k=(b9 ml mp,2):=by unfold LT.ask;rw [if_pos (.inr (.inl h2))]
  have he:=im h2
  rw [hask]
  (repeat(first|refine ao ?_|refine ai ?_|refine ah ?_|refine aD rfl ?_|refine am rfl rfl rfl ?_|refine aj rfl rfl rfl ?_|refine ce rfl rfl rfl rfl ?_|refine bO rfl rfl rfl rfl ?_|refine ix rfl ?_|refine fF rfl rfl rfl rfl he ?_))
  ((apply bj Try.func29 (congrArg Array.toList Try.results29));(focus(repeat(first|exact ResIs.nil|apply ResIs.tmp rfl))))
  exact is hT0 _
 have he:=jm h2
 (repeat(first|refine am rfl rfl rfl ?_|refine bO rfl rfl rfl rfl ?_|refine kb rfl rfl rfl (F.un _ rfl) ?_|refine fF rfl rfl rfl rfl he ?_))
 refine gv rfl rfl rfl rfl ?_ ?_
 all_goals intro h3
 ·have hask:(b9 ml mp).ask o k=(b9 ml mp,2):=by unfold LT.ask;rw [if_pos (.inr (.inr (by omega)))]
  rw [hask]
  (repeat(first|refine ao ?_|refine ai ?_|refine ah ?_|refine aD rfl ?_|refine aj rfl rfl rfl ?_|refine bO rfl rfl rfl rfl ?_))
  ((apply bj Try.func29 (congrArg Array.toList Try.results29));(focus(repeat(first|exact ResIs.nil|apply ResIs.tmp rfl))))
  exact is hT0 _
 have hc1: ¬ (o=0∨k.size=0∨32<k.size):=by omega
 cases hgp:cO mp o with
 | none=>
   have hkeys:(b9 ml mp).keys o= []:=by rw [iG,hgp]
   have hwt: ¬ ((b9 ml mp).waits o).size≠0:=by rw [jD,hgp];exact fun q=>q rfl
   (repeat(first|refine ao ?_|refine ai ?_|refine ah ?_|refine aN ?_|refine ay rfl ?_|refine am rfl rfl rfl ?_|refine aj rfl rfl rfl ?_|refine bO rfl rfl rfl rfl ?_|refine aJ rfl rfl rfl ?_|refine au rfl rfl rfl (F.fo _ _ rfl rfl) ?_|refine ix rfl ?_|refine oV rfl rfl rfl rfl rfl (F.un _ rfl) rfl ?_|refine aL rfl rfl rfl (F.ag _ rfl) (by first|exact Tr.ae _ _ _|assumption) (by exact rfl) ?_|refine fL (m:=mp) (enc:=oE) (val:=jY) rfl rfl rfl rfl (F.un _ rfl) (oK) (by first|exact rfl|(focus(skip;first|exact Tr.ae _ _ _|assumption))) (hgp) (F.ze _ rfl) ?_))
   cases hgl:cO ml k with
   | none=>
     have hask:(b9 ml mp).ask o k=(⟨ca (b9 ml mp).locks k (o,[]),ca (b9 ml mp).parties o ((b9 ml mp).keys o ++ [k],⟨#[]⟩)⟩,0):=by unfold LT.ask;rw [if_neg hc1,if_neg hwt,lC,hgl];rfl
     (repeat(first|refine l6 (d:=66) (s:= .agg (List.map SV.sc (Value.agg #[Value.slice none 0 0,Value.string ⟨#[]⟩]).cells.toList)) (s':= .agg [.slu _ 0 0,.sc (.string ⟨#[]⟩)]) 1 9 (by exact rfl) rfl (fun e v h0 h1=>nQ h0 h1) ?_|refine ao ?_|refine ai ?_|refine ah ?_|refine aN ?_|refine aD rfl ?_|refine ay rfl ?_|refine am rfl rfl rfl ?_|refine aj rfl rfl rfl ?_|refine bO rfl rfl rfl rfl ?_|refine aJ rfl rfl rfl ?_|refine au rfl rfl rfl (F.fo _ _ rfl rfl) ?_|refine ix rfl ?_|refine fv rfl rfl rfl rfl rfl (F.un _ rfl) rfl ?_|refine oV rfl rfl rfl rfl rfl (F.un _ rfl) rfl ?_|refine iD rfl rfl rfl ?_|refine aL rfl rfl rfl (F.ag _ rfl) (by(repeat(refine(Tr.aa _ _ (by omega)).trans ?_));first|exact Tr.ae _ _ _|assumption) (by exact rfl) ?_|refine gC rfl rfl rfl (F.ze _ rfl) (F.pl _ rfl) rfl ?_|refine fL (m:=ml) (enc:=kE) (val:=ke) rfl rfl rfl rfl (F.un _ rfl) (kK) (by first|exact rfl|(focus(skip;first|exact Tr.ae _ _ _|assumption))) (hgl) (F.ze _ rfl) ?_))
     refine me (m:=mp) (enc:=oE) (val:=jY) (kk:=o) (v:=(nx+1,(([]:List ByteArray),(⟨#[]⟩:ByteArray)))) rfl rfl rfl (F.un _ rfl) (oK) (by first|exact rfl|(focus((repeat(refine(Tr.aa _ _ (by omega)).trans ?_));first|exact Tr.ae _ _ _|assumption))) rfl ?_
     refine fK (R:=fun H2 n2=>Tb t a b ml cl (dm mp o (nx+1,([],⟨#[]⟩)) cp) (iz mp o cp) F1 (fun z=>(z=nx+1∨z=nx)∨F2 z) H2∧Step (All t a b F1 F2) (All t a b F1 (fun z=>(z=nx+1∨z=nx)∨F2 z)) H nx H2 n2) (h.newParty hund hgp ?_ ?_ ?_ ?_) ?_
     ·exact(Tr.aa _ _ (by omega)).trans (Tr.ae _ _ _)
     ·exact(Tr.aa _ _ (by omega)).trans ((Tr.aa _ _ (by omega)).trans (Tr.ae _ _ _))
     ·exact Tr.ae _ _ _
     ·exact fun z hz hb=>(Tr.aa _ _ (by omega)).trans ((Tr.aa _ _ (by omega)).trans (Tr.aa _ _ (by omega)))
     rintro H' nx' ⟨h',hstep⟩
     have hgp':cO (dm mp o (nx+1,(([]:List ByteArray),(⟨#[]⟩:ByteArray))) cp) o=some (nx+1,([],⟨#[]⟩)):=ij _ _ _ _
     have hput: ∀ y,ca (b9 ml (dm mp o (nx+1,([],⟨#[]⟩)) cp)).parties o y=ca (b9 ml mp).parties o y:=fun y=>by rw [dX];exact nT _ _ _ _
     refine b4 fun hund'=>?_
     obtain⟨ut',ua',ub',u1',u2'⟩:=h'.lt hund'
     have htab':=h'.tab
     have hloc':=h'.locks
     (repeat(first|refine l6 (d:=82) (s:= .agg (List.take 0 (List.map SV.sc (Value.agg #[Value.int .u64 0,Value.slice none 0 0]).cells.toList) ++ (SV.sc (Value.int .u64 (o:Int))).cells ++ List.drop (0+1) (List.map SV.sc (Value.agg #[Value.int .u64 0,Value.slice none 0 0]).cells.toList))) (s':= .agg [.sc (.int .u64 (o:Int)),.slu _ 0 0]) 1 23 (by exact rfl) rfl (fun e v h0 h1=>qj h0 h1) ?_|refine ao ?_|refine ai ?_|refine ah ?_|refine aD rfl ?_|refine am rfl rfl rfl ?_|refine aJ rfl rfl rfl ?_|refine au rfl rfl rfl (F.fo _ _ rfl rfl) ?_|refine fv rfl rfl rfl rfl rfl (F.un _ rfl) rfl ?_|refine iD rfl rfl rfl ?_|refine aL rfl rfl rfl (F.ag _ rfl) (by first|exact Tr.ae _ _ _|assumption) (by exact rfl) ?_|refine gC rfl rfl rfl (F.ze _ rfl) (F.pl _ rfl) rfl ?_))
     refine me (m:=ml) (enc:=kE) (val:=ke) (kk:=k) (v:=(nx'+1,(o,([]:List Nat)))) rfl rfl rfl (F.un _ rfl) (kK) (by first|exact rfl|(focus((repeat(refine(Tr.aa _ _ (by omega)).trans ?_));first|exact Tr.ae _ _ _|assumption))) rfl ?_
     refine fK (R:=fun H2 n2=>Tb t a b (dm ml k (nx'+1,(o,[])) cl) (iz ml k cl) (dm mp o (nx+1,([],⟨#[]⟩)) cp) (iz mp o cp) (fun z=>(z=nx'+1∨z=nx')∨F1 z) (fun z=>(z=nx+1∨z=nx)∨F2 z) H2∧Step (All t a b F1 (fun z=>(z=nx+1∨z=nx)∨F2 z)) (All t a b (fun z=>(z=nx'+1∨z=nx')∨F1 z) (fun z=>(z=nx+1∨z=nx)∨F2 z)) H' nx' H2 n2) (h'.newLock hund' hgl ?_ ?_ ?_ ?_) ?_
     ·exact(Tr.aa _ _ (by omega)).trans (Tr.ae _ _ _)
     ·exact(Tr.aa _ _ (by omega)).trans ((Tr.aa _ _ (by omega)).trans (Tr.ae _ _ _))
     ·exact Tr.ae _ _ _
     ·exact fun z hz hb=>(Tr.aa _ _ (by omega)).trans ((Tr.aa _ _ (by omega)).trans (Tr.aa _ _ (by omega)))
     rintro H2 n2 ⟨h2',hstep2⟩
     refine b4 fun hund2=>?_
     obtain⟨r2,q1,q2,q3,q4,q5,q6,q7,hturn⟩:=h2'.turnParty hund2 hgp'
     have hlk:(([]:List ByteArray)).length<999999:=by rw [hkeys] at hks;exact hks
     (repeat(first|refine ao ?_|refine ai ?_|refine ah ?_|refine am rfl rfl rfl ?_|refine aj rfl rfl rfl ?_|refine aJ rfl rfl rfl ?_|refine au rfl rfl rfl (F.fo _ _ rfl rfl) ?_|refine cI rfl rfl rfl rfl (F.sz _ rfl) (by first|exact rfl|(focus((repeat(first|refine(Tr.aa _ _ (by omega)).trans ?_|refine(Tr.aF _ (by omega)).trans ?_));first|exact Tr.ae _ _ _|assumption))) rfl (by exact zB rfl) rfl ?_|refine aL rfl rfl rfl (F.ag _ rfl) (by first|exact Tr.ae _ _ _|assumption) (by exact rfl) ?_|refine cb rfl rfl (F.un _ rfl) (F.sz _ rfl) rfl (F.ze _ rfl) rfl rfl rfl rfl rfl ?_|refine gu (b:=16) (xs:=([]:List ByteArray)) (a:=k) rfl rfl rfl rfl (F.un _ rfl) (.inl ⟨_,F.un _ rfl⟩) (F.sz _ rfl) rfl (by kernel_rfl) (by kernel_rfl) (by(repeat(refine(Tr.aa _ _ (by omega)).trans ?_));first|exact Tr.ae _ _ _|assumption) (by first|exact Tr.ae _ _ _|assumption) (by exact rfl) (wM) (by omega) (by omega) ?_))
     ((apply bj Try.func29 (congrArg Array.toList Try.results29));(focus(repeat(first|exact ResIs.nil|apply ResIs.tmp rfl))))
     have hlen:(([]:List ByteArray)).length+1=((([]:List ByteArray)) ++ [k]).length:=by simp
     rw [hask]
     refine qL (hstep.trans hstep2) (hturn (r':=n2+1) ((([]:List ByteArray)) ++ [k]) ⟨#[]⟩ (zX (zY _) (zY _)) (.inl (zY _)) ?_ ?_ ?_) ?_
     ·refine(Tr.ae _ _ _).trans ?_
      rw [← hlen]
      try rfl
     ·refine(Tr.aa _ _ (by omega)).trans ((Tr.ae _ _ _).trans ?_)
      show _=some (dat false ((([]:List ByteArray)) ++ [k]).length 1 9 (((([]:List ByteArray)) ++ [k]).flatMap sV))
      rw [← hlen]
      try rfl
     ·exact fun z hz hz1 hz2=>(Tr.aa _ _ (by omega)).trans ((Tr.aa _ _ (by omega)).trans ((Tr.aF _ (by omega)).trans (Tr.aa _ _ (by omega))))
     rw [dX,fW,hkeys]
     try exact congrArg (LT.mk _) (hput _).symm
   | some y=>
     obtain⟨ln,ow,l⟩:=y
     obtain⟨lr,LG,k1,k2,k3,k4,k5,k6,k7,_⟩:=h.lock hgl
     (repeat(first|refine ao ?_|refine ai ?_|refine ah ?_|refine am rfl rfl rfl ?_|refine aj rfl rfl rfl ?_|refine aJ rfl rfl rfl ?_|refine au rfl rfl rfl (F.fo _ _ rfl rfl) ?_|refine ku rfl rfl rfl rfl (F.un _ rfl) rfl ?_|refine aL rfl rfl rfl (F.ag _ rfl) (by first|exact Tr.ae _ _ _|assumption) (by exact rfl) ?_|refine fu (m:=ml) (enc:=kE) (val:=ke) rfl rfl rfl rfl (F.un _ rfl) (kK) (by first|exact rfl|(focus(skip;first|exact Tr.ae _ _ _|assumption))) (hgl) ?_))
     have hgl':bE (b9 ml mp).locks k=some (ow,l):=by rw [lC,hgl];rfl
     have hl9:l.length<999999:=by
      have hq:=hln
      unfold LT.line at hq
      rw [hgl'] at hq
      exact hq
     refine cF rfl rfl rfl rfl ?_ ?_
     all_goals intro h5
     ·have hask:(b9 ml mp).ask o k=(b9 ml mp,0):=by
       unfold LT.ask
       rw [if_neg hc1,if_neg hwt,hgl']
       simp only
       rw [if_pos (by omega)]
      rw [hask]
      (repeat(first|refine ao ?_|refine ai ?_|refine ah ?_|refine aD rfl ?_|refine aj rfl rfl rfl ?_|refine ce rfl rfl rfl rfl ?_))
      ((apply bj Try.func29 (congrArg Array.toList Try.results29));(focus(repeat(first|exact ResIs.nil|apply ResIs.tmp rfl))))
      exact is hT0 _
     have hch:=hr ow l hgl'
     (repeat(first|refine ao ?_|refine ai ?_|refine ah ?_|refine aN ?_|refine ay rfl ?_|refine am rfl rfl rfl ?_|refine ce rfl rfl rfl rfl ?_|refine aJ rfl rfl rfl ?_|refine au rfl rfl rfl (F.fo _ _ rfl rfl) ?_|refine ku rfl rfl rfl rfl (F.un _ rfl) rfl ?_|refine aL rfl rfl rfl (F.ag _ rfl) (by first|exact Tr.ae _ _ _|assumption) (by exact rfl) ?_))
     refine bn rfl rfl rfl (by kernel_rfl) (Fnc.mono (wL hT0 o ow _ hch) ?_)
     rintro⟨_,H1,n1⟩ ⟨rfl,hle1,hfr1⟩
     dsimp only at hle1 hfr1 ⊢
     have h1:=h.frameA (H':=H1) fun n hn=>hfr1 n (h.all_ltA hund n hn)
     have hstep1:Step (All t a b F1 F2) (All t a b F1 F2) H nx H1 n1:=⟨hle1,fun _ q=> .inl q,fun n hn _=>hfr1 n hn⟩
     by_cases hd:(b9 ml mp).chase o ((b9 ml mp).parties.length+1) ow=some true
     ·have hask:(b9 ml mp).ask o k=(b9 ml mp,10):=by
       unfold LT.ask
       rw [if_neg hc1,if_neg hwt,hgl']
       simp only
       rw [if_neg (by omega),if_pos hd]
      rw [hask,decide_eq_true hd]
      (repeat(first|refine ao ?_|refine ai ?_|refine ah ?_|refine aD rfl ?_|refine aj rfl rfl rfl ?_|refine ce rfl rfl rfl rfl ?_))
      ((apply bj Try.func29 (congrArg Array.toList Try.results29));(focus(repeat(first|exact ResIs.nil|apply ResIs.tmp rfl))))
      exact⟨rfl,_,⟨a,b,_,_,_,_,_,_,h1,rfl,fun _=>Iff.rfl⟩,hstep1⟩
     have hask:(b9 ml mp).ask o k=(⟨ca (b9 ml mp).locks k (ow,l ++ [o]),ca (b9 ml mp).parties o ((b9 ml mp).keys o,k)⟩,9):=by
      unfold LT.ask
      rw [if_neg hc1,if_neg hwt,hgl']
      simp only
      rw [if_neg (by omega),if_neg hd]
     rw [decide_eq_false hd]
     clear hr hch hund
     refine b4 fun hund1=>?_
     have hpar1:=h1.parties
     have htab1:=h1.tab
     (repeat(first|refine l6 (d:=66) (s:= .agg (List.map SV.sc (Value.agg #[Value.slice none 0 0,Value.string ⟨#[]⟩]).cells.toList)) (s':= .agg [.slu _ 0 0,.sc (.string ⟨#[]⟩)]) 1 9 (by exact rfl) rfl (fun e v h0 h1=>nQ h0 h1) ?_|refine ao ?_|refine ai ?_|refine ah ?_|refine aN ?_|refine aD rfl ?_|refine ay rfl ?_|refine am rfl rfl rfl ?_|refine aj rfl rfl rfl ?_|refine ce rfl rfl rfl rfl ?_|refine aJ rfl rfl rfl ?_|refine au rfl rfl rfl (F.fo _ _ rfl rfl) ?_|refine fv rfl rfl rfl rfl rfl (F.un _ rfl) rfl ?_|refine iD rfl rfl rfl ?_|refine aL rfl rfl rfl (F.ag _ rfl) (by(repeat(refine(Tr.aa _ _ (by omega)).trans ?_));first|exact Tr.ae _ _ _|assumption) (by exact rfl) ?_|refine gC rfl rfl rfl (F.ze _ rfl) (F.pl _ rfl) rfl ?_))
     refine me (m:=mp) (enc:=oE) (val:=jY) (kk:=o) (v:=(n1+1,(([]:List ByteArray),(⟨#[]⟩:ByteArray)))) rfl rfl rfl (F.un _ rfl) (oK) (by first|exact rfl|(focus((repeat(refine(Tr.aa _ _ (by omega)).trans ?_));first|exact Tr.ae _ _ _|assumption))) rfl ?_
     refine fK (R:=fun H2 n2=>Tb t a b ml cl (dm mp o (n1+1,([],⟨#[]⟩)) cp) (iz mp o cp) F1 (fun z=>(z=n1+1∨z=n1)∨F2 z) H2∧Step (All t a b F1 F2) (All t a b F1 (fun z=>(z=n1+1∨z=n1)∨F2 z)) H1 n1 H2 n2) (h1.newParty hund1 hgp ?_ ?_ ?_ ?_) ?_
     ·exact(Tr.aa _ _ (by omega)).trans (Tr.ae _ _ _)
     ·exact(Tr.aa _ _ (by omega)).trans ((Tr.aa _ _ (by omega)).trans (Tr.ae _ _ _))
     ·exact Tr.ae _ _ _
     ·exact fun z hz hb=>(Tr.aa _ _ (by omega)).trans ((Tr.aa _ _ (by omega)).trans (Tr.aa _ _ (by omega)))
     rintro H2 n2 ⟨h2,hstep2⟩
     clear hpar1 htab1
     have hgp':cO (dm mp o (n1+1,(([]:List ByteArray),(⟨#[]⟩:ByteArray))) cp) o=some (n1+1,([],⟨#[]⟩)):=ij _ _ _ _
     have hput: ∀ y,ca (b9 ml (dm mp o (n1+1,([],⟨#[]⟩)) cp)).parties o y=ca (b9 ml mp).parties o y:=fun y=>by rw [dX];exact nT _ _ _ _
     refine b4 fun hund2=>?_
     obtain⟨lr',q1,q2,q3,q4,q5,q6,q7,hturnL⟩:=h2.turnLock hund2 hgl
     clear h htab hloc hpar
     (repeat(first|refine ao ?_|refine ai ?_|refine ah ?_|refine aN ?_|refine ay rfl ?_|refine am rfl rfl rfl ?_|refine aJ rfl rfl rfl ?_|refine au rfl rfl rfl (F.fo _ _ rfl rfl) ?_|refine dD rfl rfl rfl rfl (F.un _ rfl) rfl ?_|refine cI rfl rfl rfl rfl (F.sz _ rfl) (by first|exact rfl|(focus((repeat(first|refine(Tr.aa _ _ (by omega)).trans ?_|refine(Tr.aF _ (by omega)).trans ?_));first|exact Tr.ae _ _ _|assumption))) rfl (by exact zB rfl) rfl ?_|refine aL rfl rfl rfl (F.ag _ rfl) (by first|exact Tr.ae _ _ _|assumption) (by exact rfl) ?_|refine cb rfl rfl (F.un _ rfl) (F.sz _ rfl) rfl (F.ze _ rfl) rfl rfl rfl rfl rfl ?_|refine gu (b:=8) (xs:=l) (a:=o) rfl rfl rfl rfl (F.un _ rfl) (.inl ⟨_,F.un _ rfl⟩) (F.sz _ rfl) rfl (by kernel_rfl) (by kernel_rfl) (by(repeat(refine(Tr.aa _ _ (by omega)).trans ?_));first|exact Tr.ae _ _ _|assumption) (by first|exact Tr.ae _ _ _|assumption) (by exact rfl) (rY) (by omega) (by omega) ?_))
     have hlen:l.length+1=(l ++ [o]).length:=by simp
     refine fK (R:=fun Hb nb=> ∃ F1',Tb t a b (dm ml k (ln,(ow,l ++ [o])) cl) cl (dm mp o (n1+1,([],⟨#[]⟩)) cp) (iz mp o cp) F1' (fun z=>(z=n1+1∨z=n1)∨F2 z) Hb∧Step (All t a b F1 (fun z=>(z=n1+1∨z=n1)∨F2 z)) (All t a b F1' (fun z=>(z=n1+1∨z=n1)∨F2 z)) H2 n2 Hb nb) (hturnL (r':=n2+1) ow (l ++ [o]) (zX (zY _) (zY _)) (.inl (zY _)) ?_ ?_ ?_) ?_
     ·refine(Tr.ae _ _ _).trans ?_
      rw [← hlen]
      try rfl
     ·refine(Tr.aa _ _ (by omega)).trans ((Tr.ae _ _ _).trans ?_)
      show _=some (dat false (l ++ [o]).length 1 23 ((l ++ [o]).flatMap uV))
      rw [← hlen]
      try rfl
     ·exact fun z hz hz1 hz2=>(Tr.aa _ _ (by omega)).trans ((Tr.aa _ _ (by omega)).trans ((Tr.aF _ (by omega)).trans (Tr.aa _ _ (by omega))))
     rintro H3 n3 ⟨F1',h3,hstep3⟩
     refine b4 fun hund4=>?_
     obtain⟨r4,v1,v2,v3,v4,v5,v6,v7,hturnP⟩:=h3.turnParty hund4 hgp'
     (repeat(first|refine ao ?_|refine ai ?_|refine ah ?_|refine aj rfl rfl rfl ?_|refine cI rfl rfl rfl rfl (F.sz _ rfl) (by first|exact rfl|(focus(skip;first|exact Tr.ae _ _ _|assumption))) rfl (by exact zB rfl) rfl ?_))
     ((apply bj Try.func29 (congrArg Array.toList Try.results29));(focus(repeat(first|exact ResIs.nil|apply ResIs.tmp rfl))))
     rw [hask]
     refine qL ((hstep1.trans hstep2).trans hstep3) (hturnP (r':=r4) ([]:List ByteArray) k (zP _) (.inr rfl) ?_ ?_ ?_) ?_
     ·exact Tr.ae _ _ _
     ·exact(Tr.aa _ _ (by omega)).trans v2
     ·exact fun z hz hz1 hz2=>Tr.aa _ _ (by omega)
     rw [dX,fW,hkeys]
     try exact congrArg (LT.mk _) (hput _).symm
 | some x=>
   obtain⟨pn,ks,w⟩:=x
   obtain⟨pr,PG,p1,p2,p3,p4,p5,p6,p7,_⟩:=h.party hgp
   have hkeys:(b9 ml mp).keys o=ks:=by rw [iG,hgp]
   (repeat(first|refine ao ?_|refine ai ?_|refine ah ?_|refine aN ?_|refine ay rfl ?_|refine am rfl rfl rfl ?_|refine aj rfl rfl rfl ?_|refine bO rfl rfl rfl rfl ?_|refine aJ rfl rfl rfl ?_|refine au rfl rfl rfl (F.fo _ _ rfl rfl) ?_|refine ku rfl rfl rfl rfl (F.un _ rfl) rfl ?_|refine aL rfl rfl rfl (F.ag _ rfl) (by first|exact Tr.ae _ _ _|assumption) (by exact rfl) ?_|refine fu (m:=mp) (enc:=oE) (val:=jY) rfl rfl rfl rfl (F.un _ rfl) (oK) (by first|exact rfl|(focus(skip;first|exact Tr.ae _ _ _|assumption))) (hgp) ?_))
   by_cases h4:w.size=0
   ·have hwe:w=⟨#[]⟩:=(MapKept.bytes_beq w ⟨#[]⟩).1 (im h4)
    subst hwe
    have hnw:((⟨#[]⟩:ByteArray) != (⟨#[]⟩:ByteArray))=false:=rfl
    have hwt: ¬ ((b9 ml mp).waits o).size≠0:=by rw [jD,hgp];exact fun q=>q rfl
    (repeat(first|refine ao ?_|refine ai ?_|refine ah ?_|refine aN ?_|refine ay rfl ?_|refine am rfl rfl rfl ?_|refine ce rfl rfl rfl rfl ?_|refine aJ rfl rfl rfl ?_|refine au rfl rfl rfl (F.fo _ _ rfl rfl) ?_|refine aL rfl rfl rfl (F.ag _ rfl) (by first|exact Tr.ae _ _ _|assumption) (by exact rfl) ?_|refine md rfl rfl rfl rfl hnw ?_))
    cases hgl:cO ml k with
    | none=>
      have hask:(b9 ml mp).ask o k=(⟨ca (b9 ml mp).locks k (o,[]),ca (b9 ml mp).parties o ((b9 ml mp).keys o ++ [k],⟨#[]⟩)⟩,0):=by unfold LT.ask;rw [if_neg hc1,if_neg hwt,lC,hgl];rfl
      (repeat(first|refine l6 (d:=82) (s:= .agg (List.take 0 (List.map SV.sc (Value.agg #[Value.int .u64 0,Value.slice none 0 0]).cells.toList) ++ (SV.sc (Value.int .u64 (o:Int))).cells ++ List.drop (0+1) (List.map SV.sc (Value.agg #[Value.int .u64 0,Value.slice none 0 0]).cells.toList))) (s':= .agg [.sc (.int .u64 (o:Int)),.slu _ 0 0]) 1 23 (by exact rfl) rfl (fun e v h0 h1=>qj h0 h1) ?_|refine ao ?_|refine ai ?_|refine ah ?_|refine aN ?_|refine aD rfl ?_|refine ay rfl ?_|refine am rfl rfl rfl ?_|refine aj rfl rfl rfl ?_|refine bO rfl rfl rfl rfl ?_|refine aJ rfl rfl rfl ?_|refine au rfl rfl rfl (F.fo _ _ rfl rfl) ?_|refine ix rfl ?_|refine dD rfl rfl rfl rfl (F.un _ rfl) rfl ?_|refine fv rfl rfl rfl rfl rfl (F.un _ rfl) rfl ?_|refine oV rfl rfl rfl rfl rfl (F.un _ rfl) rfl ?_|refine iD rfl rfl rfl ?_|refine aL rfl rfl rfl (F.ag _ rfl) (by first|exact Tr.ae _ _ _|assumption) (by exact rfl) ?_|refine gC rfl rfl rfl (F.ze _ rfl) (F.pl _ rfl) rfl ?_|refine fL (m:=ml) (enc:=kE) (val:=ke) rfl rfl rfl rfl (F.un _ rfl) (kK) (by first|exact rfl|(focus(skip;first|exact Tr.ae _ _ _|assumption))) (hgl) (F.ze _ rfl) ?_))
      have hgp':=hgp
      have hput: ∀ y,ca (b9 ml mp).parties o y=ca (b9 ml mp).parties o y:=fun _=>rfl
      refine me (m:=ml) (enc:=kE) (val:=ke) (kk:=k) (v:=(nx+1,(o,([]:List Nat)))) rfl rfl rfl (F.un _ rfl) (kK) (by first|exact rfl|(focus((repeat(refine(Tr.aa _ _ (by omega)).trans ?_));first|exact Tr.ae _ _ _|assumption))) rfl ?_
      refine fK (R:=fun H2 n2=>Tb t a b (dm ml k (nx+1,(o,[])) cl) (iz ml k cl) mp cp (fun z=>(z=nx+1∨z=nx)∨F1 z) F2 H2∧Step (All t a b F1 F2) (All t a b (fun z=>(z=nx+1∨z=nx)∨F1 z) F2) H nx H2 n2) (h.newLock hund hgl ?_ ?_ ?_ ?_) ?_
      ·exact(Tr.aa _ _ (by omega)).trans (Tr.ae _ _ _)
      ·exact(Tr.aa _ _ (by omega)).trans ((Tr.aa _ _ (by omega)).trans (Tr.ae _ _ _))
      ·exact Tr.ae _ _ _
      ·exact fun z hz hb=>(Tr.aa _ _ (by omega)).trans ((Tr.aa _ _ (by omega)).trans (Tr.aa _ _ (by omega)))
      rintro H2 n2 ⟨h2',hstep2⟩
      refine b4 fun hund2=>?_
      obtain⟨r2,q1,q2,q3,q4,q5,q6,q7,hturn⟩:=h2'.turnParty hund2 hgp'
      have hlk:(ks).length<999999:=by rw [hkeys] at hks;exact hks
      (repeat(first|refine ao ?_|refine ai ?_|refine ah ?_|refine am rfl rfl rfl ?_|refine aj rfl rfl rfl ?_|refine aJ rfl rfl rfl ?_|refine au rfl rfl rfl (F.fo _ _ rfl rfl) ?_|refine cI rfl rfl rfl rfl (F.sz _ rfl) (by first|exact rfl|(focus((repeat(first|refine(Tr.aa _ _ (by omega)).trans ?_|refine(Tr.aF _ (by omega)).trans ?_));first|exact Tr.ae _ _ _|assumption))) rfl (by exact zB rfl) rfl ?_|refine aL rfl rfl rfl (F.ag _ rfl) (by first|exact Tr.ae _ _ _|assumption) (by exact rfl) ?_|refine cb rfl rfl (F.un _ rfl) (F.sz _ rfl) rfl (F.ze _ rfl) rfl rfl rfl rfl rfl ?_|refine gu (b:=16) (xs:=ks) (a:=k) rfl rfl rfl rfl (F.un _ rfl) (.inl ⟨_,F.un _ rfl⟩) (F.sz _ rfl) rfl (by kernel_rfl) (by kernel_rfl) (by(repeat(refine(Tr.aa _ _ (by omega)).trans ?_));first|exact Tr.ae _ _ _|assumption) (by first|exact Tr.ae _ _ _|assumption) (by exact rfl) (wM) (by omega) (by omega) ?_))
      ((apply bj Try.func29 (congrArg Array.toList Try.results29));(focus(repeat(first|exact ResIs.nil|apply ResIs.tmp rfl))))
      have hlen:(ks).length+1=((ks) ++ [k]).length:=by simp
      rw [hask]
      refine qL (hstep2) (hturn (r':=n2+1) ((ks) ++ [k]) ⟨#[]⟩ (zX (zY _) (zY _)) (.inl (zY _)) ?_ ?_ ?_) ?_
      ·refine(Tr.ae _ _ _).trans ?_
       rw [← hlen]
       try rfl
      ·refine(Tr.aa _ _ (by omega)).trans ((Tr.ae _ _ _).trans ?_)
       show _=some (dat false ((ks) ++ [k]).length 1 9 (((ks) ++ [k]).flatMap sV))
       rw [← hlen]
       try rfl
      ·exact fun z hz hz1 hz2=>(Tr.aa _ _ (by omega)).trans ((Tr.aa _ _ (by omega)).trans ((Tr.aF _ (by omega)).trans (Tr.aa _ _ (by omega))))
      rw [dX,fW,hkeys]
      try exact congrArg (LT.mk _) (hput _).symm
    | some y=>
      obtain⟨ln,ow,l⟩:=y
      obtain⟨lr,LG,k1,k2,k3,k4,k5,k6,k7,_⟩:=h.lock hgl
      (repeat(first|refine ao ?_|refine ai ?_|refine ah ?_|refine am rfl rfl rfl ?_|refine aj rfl rfl rfl ?_|refine aJ rfl rfl rfl ?_|refine au rfl rfl rfl (F.fo _ _ rfl rfl) ?_|refine ku rfl rfl rfl rfl (F.un _ rfl) rfl ?_|refine aL rfl rfl rfl (F.ag _ rfl) (by first|exact Tr.ae _ _ _|assumption) (by exact rfl) ?_|refine fu (m:=ml) (enc:=kE) (val:=ke) rfl rfl rfl rfl (F.un _ rfl) (kK) (by first|exact rfl|(focus(skip;first|exact Tr.ae _ _ _|assumption))) (hgl) ?_))
      have hgl':bE (b9 ml mp).locks k=some (ow,l):=by rw [lC,hgl];rfl
      have hl9:l.length<999999:=by
       have hq:=hln
       unfold LT.line at hq
       rw [hgl'] at hq
       exact hq
      refine cF rfl rfl rfl rfl ?_ ?_
      all_goals intro h5
      ·have hask:(b9 ml mp).ask o k=(b9 ml mp,0):=by
        unfold LT.ask
        rw [if_neg hc1,if_neg hwt,hgl']
        simp only
        rw [if_pos (by omega)]
       rw [hask]
       (repeat(first|refine ao ?_|refine ai ?_|refine ah ?_|refine aD rfl ?_|refine aj rfl rfl rfl ?_|refine ce rfl rfl rfl rfl ?_))
       ((apply bj Try.func29 (congrArg Array.toList Try.results29));(focus(repeat(first|exact ResIs.nil|apply ResIs.tmp rfl))))
       exact is hT0 _
      have hch:=hr ow l hgl'
      (repeat(first|refine ao ?_|refine ai ?_|refine ah ?_|refine aN ?_|refine ay rfl ?_|refine am rfl rfl rfl ?_|refine ce rfl rfl rfl rfl ?_|refine aJ rfl rfl rfl ?_|refine au rfl rfl rfl (F.fo _ _ rfl rfl) ?_|refine ku rfl rfl rfl rfl (F.un _ rfl) rfl ?_|refine aL rfl rfl rfl (F.ag _ rfl) (by first|exact Tr.ae _ _ _|assumption) (by exact rfl) ?_))
      refine bn rfl rfl rfl (by kernel_rfl) (Fnc.mono (wL hT0 o ow _ hch) ?_)
      rintro⟨_,H1,n1⟩ ⟨rfl,hle1,hfr1⟩
      dsimp only at hle1 hfr1 ⊢
      have h1:=h.frameA (H':=H1) fun n hn=>hfr1 n (h.all_ltA hund n hn)
      have hstep1:Step (All t a b F1 F2) (All t a b F1 F2) H nx H1 n1:=⟨hle1,fun _ q=> .inl q,fun n hn _=>hfr1 n hn⟩
      by_cases hd:(b9 ml mp).chase o ((b9 ml mp).parties.length+1) ow=some true
      ·have hask:(b9 ml mp).ask o k=(b9 ml mp,10):=by
        unfold LT.ask
        rw [if_neg hc1,if_neg hwt,hgl']
        simp only
        rw [if_neg (by omega),if_pos hd]
       rw [hask,decide_eq_true hd]
       (repeat(first|refine ao ?_|refine ai ?_|refine ah ?_|refine aD rfl ?_|refine aj rfl rfl rfl ?_|refine ce rfl rfl rfl rfl ?_))
       ((apply bj Try.func29 (congrArg Array.toList Try.results29));(focus(repeat(first|exact ResIs.nil|apply ResIs.tmp rfl))))
       exact⟨rfl,_,⟨a,b,_,_,_,_,_,_,h1,rfl,fun _=>Iff.rfl⟩,hstep1⟩
      have hask:(b9 ml mp).ask o k=(⟨ca (b9 ml mp).locks k (ow,l ++ [o]),ca (b9 ml mp).parties o ((b9 ml mp).keys o,k)⟩,9):=by
       unfold LT.ask
       rw [if_neg hc1,if_neg hwt,hgl']
       simp only
       rw [if_neg (by omega),if_neg hd]
      rw [decide_eq_false hd]
      clear hr hch hund
      refine b4 fun hund1=>?_
      have hgp':=hgp
      have hput: ∀ y,ca (b9 ml mp).parties o y=ca (b9 ml mp).parties o y:=fun _=>rfl
      obtain⟨lr',q1,q2,q3,q4,q5,q6,q7,hturnL⟩:=h1.turnLock hund1 hgl
      clear h htab hloc hpar
      (repeat(first|refine ao ?_|refine ai ?_|refine ah ?_|refine aN ?_|refine ay rfl ?_|refine am rfl rfl rfl ?_|refine ce rfl rfl rfl rfl ?_|refine aJ rfl rfl rfl ?_|refine au rfl rfl rfl (F.fo _ _ rfl rfl) ?_|refine dD rfl rfl rfl rfl (F.un _ rfl) rfl ?_|refine cI rfl rfl rfl rfl (F.sz _ rfl) (by first|exact rfl|(focus((repeat(first|refine(Tr.aa _ _ (by omega)).trans ?_|refine(Tr.aF _ (by omega)).trans ?_));first|exact Tr.ae _ _ _|assumption))) rfl (by exact zB rfl) rfl ?_|refine aL rfl rfl rfl (F.ag _ rfl) (by first|exact Tr.ae _ _ _|assumption) (by exact rfl) ?_|refine cb rfl rfl (F.un _ rfl) (F.sz _ rfl) rfl (F.ze _ rfl) rfl rfl rfl rfl rfl ?_|refine gu (b:=8) (xs:=l) (a:=o) rfl rfl rfl rfl (F.un _ rfl) (.inl ⟨_,F.un _ rfl⟩) (F.sz _ rfl) rfl (by kernel_rfl) (by kernel_rfl) (by(repeat(refine(Tr.aa _ _ (by omega)).trans ?_));first|exact Tr.ae _ _ _|assumption) (by first|exact Tr.ae _ _ _|assumption) (by exact rfl) (rY) (by omega) (by omega) ?_))
      have hlen:l.length+1=(l ++ [o]).length:=by simp
      refine fK (R:=fun Hb nb=> ∃ F1',Tb t a b (dm ml k (ln,(ow,l ++ [o])) cl) cl mp cp F1' F2 Hb∧Step (All t a b F1 F2) (All t a b F1' F2) H1 n1 Hb nb) (hturnL (r':=n1+1) ow (l ++ [o]) (zX (zY _) (zY _)) (.inl (zY _)) ?_ ?_ ?_) ?_
      ·refine(Tr.ae _ _ _).trans ?_
       rw [← hlen]
       try rfl
      ·refine(Tr.aa _ _ (by omega)).trans ((Tr.ae _ _ _).trans ?_)
       show _=some (dat false (l ++ [o]).length 1 23 ((l ++ [o]).flatMap uV))
       rw [← hlen]
       try rfl
      ·exact fun z hz hz1 hz2=>(Tr.aa _ _ (by omega)).trans ((Tr.aa _ _ (by omega)).trans ((Tr.aF _ (by omega)).trans (Tr.aa _ _ (by omega))))
      rintro H3 n3 ⟨F1',h3,hstep3⟩
      refine b4 fun hund4=>?_
      obtain⟨r4,v1,v2,v3,v4,v5,v6,v7,hturnP⟩:=h3.turnParty hund4 hgp'
      (repeat(first|refine ao ?_|refine ai ?_|refine ah ?_|refine aj rfl rfl rfl ?_|refine cI rfl rfl rfl rfl (F.sz _ rfl) (by first|exact rfl|(focus(skip;first|exact Tr.ae _ _ _|assumption))) rfl (by exact zB rfl) rfl ?_))
      ((apply bj Try.func29 (congrArg Array.toList Try.results29));(focus(repeat(first|exact ResIs.nil|apply ResIs.tmp rfl))))
      rw [hask]
      refine qL (hstep1.trans hstep3) (hturnP (r':=r4) ks k (zP _) (.inr rfl) ?_ ?_ ?_) ?_
      ·exact Tr.ae _ _ _
      ·exact(Tr.aa _ _ (by omega)).trans v2
      ·exact fun z hz hz1 hz2=>Tr.aa _ _ (by omega)
      rw [dX,fW,hkeys]
      try exact congrArg (LT.mk _) (hput _).symm
   ·have hask:(b9 ml mp).ask o k=(b9 ml mp,7):=by
     unfold LT.ask
     rw [if_neg hc1,jD,hgp,if_pos h4]
    have hnw:(w != (⟨#[]⟩:ByteArray))=true:=by
     rw [show(w != (⟨#[]⟩:ByteArray)) = !(w == (⟨#[]⟩:ByteArray))from rfl,jm h4];rfl
    rw [hask]
    (repeat(first|refine ao ?_|refine ai ?_|refine ah ?_|refine aD rfl ?_|refine aj rfl rfl rfl ?_|refine ce rfl rfl rfl rfl ?_|refine md rfl rfl rfl rfl hnw ?_))
    ((apply bj Try.func29 (congrArg Array.toList Try.results29));(focus(repeat(first|exact ResIs.nil|apply ResIs.tmp rfl))))
    exact is hT0 _
abbrev pO:=Int×Nat×ByteArray×Int
abbrev w9:pO→List Value:=fun x=> [.int .i64 x.1,.int .u64 (x.2.1:Int),.string x.2.2.1,.int .i64 x.2.2.2]
theorem vy:RecOf w9 4:=⟨fun _=>rfl,fun x v hv=>by simp [w9] at hv;rcases hv with rfl|rfl|rfl|rfl <;> rfl⟩
abbrev actR(ro:Bool)(a:Array pO):VO:=arr ro a.size 4 32 w9 a
def nR(a:Array pO)(m:Int):Bool:=(a.toList.take (m+1).toNat).any (fun x=>decide (300<x.2.2.1.size)) || decide (m<a.size)
theorem y9{H:aV}{nx r:Nat}{ro:Bool}(a:Array pO)(m:Int)(hr:H.at' r=some (actR ro a))(ha:a.size≤9223372036854775807):Fnc Try.prog 8 [.slu r 0 a.size,.sc (.int .i64 m)] H nx (fun q=>q=(.sc (.bool (nR a m)),H,nx)):=by
 refine Fnc.start Try.func8 rfl rfl ?_
 (repeat(first|refine ao ?_|refine ai ?_|refine ah ?_|refine aT ?_|refine aj rfl rfl rfl ?_))
 refine ch (α:=Nat) (fun i=> [(0,.slu r 0 a.size),(1,.sc (.int .i64 m)),(5,.sc (.int .i64 (i:Int)))]) (fun i H1 nx1=>H1=H∧nx1=nx∧i≤a.size∧(a.toList.take i).any (fun x=>decide (300<x.2.2.1.size))=false) (fun i=>a.size-i) 0 ⟨rfl,rfl,zQ _,rfl⟩ (SlIn.sub ⟨rfl,rfl,rfl,trivial⟩) ?_
 rintro i H1 nx1 ⟨rfl,rfl,hi,hno⟩ again
 have hend:(¬ i<a.size∨m<(i:Int))→nR a m=decide (m<(a.size:Int)):=by
  intro h
  unfold nR
  have:(a.toList.take (m+1).toNat).any (fun x=>decide (300<x.2.2.1.size))=false:=by
   rw [List.any_eq_false] at hno ⊢
   intro x hx
   apply hno
   rcases h with h|h
   ·rw [zH (by rw [Array.length_toList];omega)]
    exact List.mem_of_mem_take hx
   ·exact(List.take_subset_take_left _ (by omega)) hx
  rw [this]
  rfl
 (repeat(first|refine ao ?_|refine ai ?_|refine am rfl rfl rfl ?_|refine cr rfl rfl rfl (F.un _ rfl) ?_))
 refine cu rfl rfl rfl rfl ?_ ?_
 all_goals intro h1
 ·(repeat(refine am rfl rfl rfl ?_))
  refine sq rfl rfl rfl rfl ?_ ?_
  all_goals intro h2
  ·have hx:i<a.size:=by omega
   (repeat(first|refine ao ?_|refine ai ?_|refine ah ?_|refine aT ?_|refine aN ?_|refine aD rfl ?_|refine am rfl rfl rfl ?_|refine ce rfl rfl rfl rfl ?_|refine au rfl rfl rfl (F.fo _ _ rfl rfl) ?_|refine kb rfl rfl rfl (F.un _ rfl) ?_|refine c7 (q:=i) rfl rfl rfl rfl (F.un _ rfl) (F.sz _ rfl) (by first|exact Tr.ae _ _ _|assumption) (by omega) (by first|omega|(simp;done)) (zP _) ?_|refine w_ldF i 2 rfl rfl rfl (F.ag _ rfl) (vy) (by first|exact rfl|(focus(skip;first|exact Tr.ae _ _ _|assumption))) (by omega) (by omega) (by omega) rfl ?_))
   refine gv rfl rfl rfl rfl ?_ ?_
   all_goals intro h3
   ·(repeat(first|refine ao ?_|refine ai ?_|refine ah ?_|refine aD rfl ?_|refine aj rfl rfl rfl ?_))
    ((apply bj Try.func8 (congrArg Array.toList Try.results8));(focus(repeat(first|exact ResIs.nil|apply ResIs.tmp rfl))))
    have:nR a m=true:=by
     unfold nR
     rw [Bool.or_eq_true]
     left
     rw [List.any_eq_true]
     refine⟨a[i]!,?_,by simp;omega⟩
     rw [List.mem_take_iff_getElem]
     refine⟨i,by rw [Array.length_toList];omega,?_⟩
     rw [getElem!_pos a i hx]
     simp
    rw [this]
    rfl
   ·(repeat(first|refine ai ?_|refine ah ?_|refine aM ?_|refine aN ?_|refine ay rfl ?_|refine am rfl rfl rfl ?_|refine aj rfl rfl rfl ?_|refine bT rfl rfl rfl rfl (by omega) (by omega) ?_))
    refine again _ _ _ (i+1) ⟨rfl,rfl,hx,?_⟩ (by omega) (SlIn.sub (by repeat(first|exact trivial|refine⟨rfl,?_⟩)))
    rw [List.take_succ_eq_append_getElem (by rw [Array.length_toList];exact hx),List.any_append,hno]
    rw [getElem!_pos a i hx] at h3
    simp
    omega
  ·(repeat(first|refine ao ?_|refine ai ?_|refine ah ?_|refine bA rfl ?_|refine ay rfl ?_|refine am rfl rfl rfl ?_|refine ce rfl rfl rfl rfl ?_|refine cr rfl rfl rfl (F.un _ rfl) ?_))
   refine gv rfl rfl rfl rfl ?_ ?_
   all_goals intro h3
   all_goals(repeat(first|refine ah ?_|refine aj rfl rfl rfl ?_))
   ·((apply bj Try.func8 (congrArg Array.toList Try.results8));(focus(repeat(first|exact ResIs.nil|apply ResIs.tmp rfl))))
    rw [hend (.inr (by omega)),decide_eq_true (by omega)]
    rfl
   ·((apply bj Try.func8 (congrArg Array.toList Try.results8));(focus(repeat(first|exact ResIs.nil|apply ResIs.tmp rfl))))
    rw [hend (.inr (by omega)),decide_eq_false (by omega)]
    rfl
 ·(repeat(first|refine ao ?_|refine ai ?_|refine ah ?_|refine bA rfl ?_|refine ay rfl ?_|refine am rfl rfl rfl ?_|refine bO rfl rfl rfl rfl ?_|refine ix rfl ?_|refine cr rfl rfl rfl (F.un _ rfl) ?_))
  refine gv rfl rfl rfl rfl ?_ ?_
  all_goals intro h3
  all_goals(repeat(first|refine ah ?_|refine aj rfl rfl rfl ?_))
  ·((apply bj Try.func8 (congrArg Array.toList Try.results8));(focus(repeat(first|exact ResIs.nil|apply ResIs.tmp rfl))))
   rw [hend (.inl (by omega)),decide_eq_true (by omega)]
   rfl
  ·((apply bj Try.func8 (congrArg Array.toList Try.results8));(focus(repeat(first|exact ResIs.nil|apply ResIs.tmp rfl))))
   rw [hend (.inl (by omega)),decide_eq_false (by omega)]
   rfl
def LT.act(T:LT)(x:pO):LT×List Nat×Int:=
 if x.1=1 then((T.ask x.2.1 x.2.2.1).1,[],(T.ask x.2.1 x.2.2.1).2) else
 if x.1=2 then T.back x.2.1 x.2.2.2 else
 if x.1=3 then((T.back x.2.1 0).1,(T.back x.2.1 0).2.1,0) else(T,[],0)
def LT.askOk(T:LT)(o:Nat)(k:ByteArray):Prop:=
 (T.keys o).length<999999∧(T.line k).length<999999∧ ∀ h l,bE T.locks k=some (h,l)→T.chase o 1001 h=some (decide (T.chase o (T.parties.length+1) h=some true))
def ChgD(t:Nat)(T':LT)(l:List Nat)(e:Int)(Fp:Nat→Prop)(H:aV)(nx:Nat):Pst:=fun q=> ∃ r,q.1 = .tup [.sc (.int .i64 e),.slu r 0 l.length]∧q.2.1.at' r=some (uR false l)∧nx≤r∧r<q.2.2∧ ∃ F',TabAt t T' F' q.2.1∧ ¬ F' r∧Step Fp F' H nx q.2.1 q.2.2
def LT.actOk(T:LT)(x:pO):Prop:=T.askOk x.2.1 x.2.2.1∧T.backOk x.2.1 x.2.2.2∧T.backOk x.2.1 0
theorem w6{t:Nat}{T:LT}{Fp:Nat→Prop}{H:aV}{nx:Nat}(hT:TabAt t T Fp H)(o:Nat)(hok:T.backOk o 0):Fnc Try.prog 22 [.ptr t 0,.sc (.int .u64 (o:Int))] H nx (fun q=> ∃ r,q.1 = .slu r 0 (T.back o 0).2.1.length∧q.2.1.at' r=some (uR false (T.back o 0).2.1)∧nx≤r∧r<q.2.2∧ ∃ F',TabAt t (T.back o 0).1 F' q.2.1∧ ¬ F' r∧Step Fp F' H nx q.2.1 q.2.2):=by
 refine Fnc.start Try.func22 rfl rfl ?_
 (repeat(first|refine ao ?_|refine ai ?_|refine ah ?_|refine am rfl rfl rfl ?_|refine aj rfl rfl rfl ?_))
 refine bn rfl rfl rfl (by kernel_rfl) (Fnc.mono (uJ hT o 0 hok) ?_)
 rintro⟨_,H1,n1⟩ ⟨r,rfl,h1,h2,h3,F',h4,h5,h6⟩
 dsimp only at h1 h2 h3 h4 h5 h6 ⊢
 (repeat(first|refine ao ?_|refine ai ?_|refine ah ?_|refine am rfl rfl rfl ?_|refine aj rfl rfl rfl ?_|refine bX rfl rfl rfl rfl ?_))
 ((apply bj Try.func22 (congrArg Array.toList Try.results22));(focus(repeat(first|exact ResIs.nil|apply ResIs.tmp rfl))))
 exact⟨r,rfl,h1,h2,h3,F',h4,h5,h6⟩
theorem do_t{t:Nat}{T:LT}{Fp:Nat→Prop}{H:aV}{nx:Nat}(hT:TabAt t T Fp H)(x:pO)(hok:T.actOk x)(hsz:x.2.2.1.size<4611686018427387904):Fnc Try.prog 11 [.ptr t 0,.agg ((w9 x).map .sc)] H nx (ChgD t (T.act x).1 (T.act x).2.1 (T.act x).2.2 Fp H nx):=by
 obtain⟨kd,o,k,mk⟩:=x
 obtain⟨⟨a1,a2,a3⟩,ok2,ok3⟩:=hok
 simp only at a1 a2 a3 ok2 ok3 hsz
 refine Fnc.start Try.func11 rfl rfl ?_
 refine b4 fun hund=>?_
 have hlt:=hT.lt hund
 (repeat(first|refine ao ?_|refine ai ?_|refine ah ?_|refine aT ?_|refine aj rfl rfl rfl ?_|refine au rfl rfl rfl (F.fo _ _ rfl rfl) ?_|refine iD rfl rfl rfl ?_|refine aL rfl rfl rfl (F.ag _ rfl) (by first|exact Tr.ae _ _ _|assumption) (by exact rfl) ?_))
 have hTn:TabAt t T Fp (H.set nx (aG 32 [.sc (.int .i64 kd),.sc (.int .u64 (o:Int)),.sc (.string k),.sc (.int .i64 mk)])):=hT.frame fun n hn=>Tr.aa _ _ (by have:=hlt n hn;omega)
 have hst0:Step Fp Fp H nx (H.set nx (aG 32 [.sc (.int .i64 kd),.sc (.int .u64 (o:Int)),.sc (.string k),.sc (.int .i64 mk)])) (nx+1):=⟨zY _,fun _ q=> .inl q,fun n hn _=>Tr.aa _ _ (by omega)⟩
 refine cF rfl rfl rfl rfl ?_ ?_
 all_goals intro h1
 ·have hact:T.act (kd,o,k,mk)=((T.ask o k).1,[],(T.ask o k).2):=by unfold LT.act;rw [if_pos h1]
  rw [hact]
  (repeat(first|refine ao ?_|refine ai ?_|refine ah ?_|refine aD rfl ?_|refine am rfl rfl rfl ?_|refine aj rfl rfl rfl ?_|refine au rfl rfl rfl (F.fo _ _ rfl rfl) ?_|refine aL rfl rfl rfl (F.ag _ rfl) (by first|exact Tr.ae _ _ _|assumption) (by exact rfl) ?_))
  refine bn rfl rfl rfl (by kernel_rfl) (Fnc.mono (zt hTn o k a1 a2 hsz a3) ?_)
  rintro⟨_,H1,n1⟩ ⟨rfl,F',h4,h6⟩
  dsimp only at h4 h6 ⊢
  (repeat(first|refine ah ?_|refine aj rfl rfl rfl ?_|(refine bn rfl rfl rfl (by kernel_rfl) (Fnc.mono (xP _) ?_);rintro _ rfl;dsimp only)))
  refine b4 fun hund1=>?_
  refine co 1 23 (d:=5) (by first|exact Tr.ae _ _ _|assumption) rfl ?_
  have hlt1:=h4.lt hund1
  ((apply bj Try.func11 (congrArg Array.toList Try.results11));(focus(repeat(first|exact ResIs.nil|apply ResIs.tmp rfl))))
  refine⟨n1,rfl,Tr.ae _ _ _,zX (zY _) h6.1,Nat.lt_succ_self _,F',h4.frame fun n hn=>Tr.aa _ _ (by have:=hlt1 n hn;omega),fun q=>Nat.lt_irrefl _ (hlt1 _ q),hst0.trans (h6.trans ⟨zY _,fun _ q=> .inl q,fun n hn _=>Tr.aa _ _ (by omega)⟩)⟩
 (repeat(first|refine ao ?_|refine ai ?_|refine ah ?_|refine ay rfl ?_|refine aj rfl rfl rfl ?_))
 refine cF rfl rfl rfl rfl ?_ ?_
 all_goals intro h2
 ·have hact:T.act (kd,o,k,mk)=T.back o mk:=by unfold LT.act;rw [if_neg h1,if_pos h2]
  rw [hact]
  (repeat(first|refine ao ?_|refine ai ?_|refine ah ?_|refine aD rfl ?_|refine am rfl rfl rfl ?_|refine aj rfl rfl rfl ?_|refine au rfl rfl rfl (F.fo _ _ rfl rfl) ?_|refine aL rfl rfl rfl (F.ag _ rfl) (by first|exact Tr.ae _ _ _|assumption) (by exact rfl) ?_))
  refine bn rfl rfl rfl (by kernel_rfl) (Fnc.mono (uJ hTn o mk ok2) ?_)
  rintro⟨_,H1,n1⟩ ⟨r,rfl,h3,h4,h5,F',h6,h7,h8⟩
  dsimp only at h3 h4 h5 h6 h7 h8 ⊢
  (repeat(first|refine ao ?_|refine ai ?_|refine ah ?_|refine am rfl rfl rfl ?_|refine aj rfl rfl rfl ?_|refine bX rfl rfl rfl rfl ?_|(refine bn rfl rfl rfl (by kernel_rfl) (Fnc.mono (xP _) ?_);rintro _ rfl;dsimp only)))
  ((apply bj Try.func11 (congrArg Array.toList Try.results11));(focus(repeat(first|exact ResIs.nil|apply ResIs.tmp rfl))))
  exact⟨r,rfl,h3,zX (zY _) h4,h5,F',h6,h7,hst0.trans h8⟩
 (repeat(first|refine ao ?_|refine ai ?_|refine ah ?_|refine ay rfl ?_|refine aj rfl rfl rfl ?_))
 refine cF rfl rfl rfl rfl ?_ ?_
 all_goals intro h3
 ·have hact:T.act (kd,o,k,mk)=((T.back o 0).1,(T.back o 0).2.1,0):=by unfold LT.act;rw [if_neg h1,if_neg h2,if_pos h3]
  rw [hact]
  (repeat(first|refine ao ?_|refine ai ?_|refine ah ?_|refine aD rfl ?_|refine am rfl rfl rfl ?_|refine aj rfl rfl rfl ?_|refine au rfl rfl rfl (F.fo _ _ rfl rfl) ?_|refine aL rfl rfl rfl (F.ag _ rfl) (by first|exact Tr.ae _ _ _|assumption) (by exact rfl) ?_))
  refine bn rfl rfl rfl (by kernel_rfl) (Fnc.mono (w6 hTn o ok3) ?_)
  rintro⟨_,H1,n1⟩ ⟨r,rfl,h3,h4,h5,F',h6,h7,h8⟩
  dsimp only at h3 h4 h5 h6 h7 h8 ⊢
  (repeat(first|refine ah ?_|refine aj rfl rfl rfl ?_))
  ((apply bj Try.func11 (congrArg Array.toList Try.results11));(focus(repeat(first|exact ResIs.nil|apply ResIs.tmp rfl))))
  exact⟨r,rfl,h3,zX (zY _) h4,h5,F',h6,h7,hst0.trans h8⟩
 ·have hact:T.act (kd,o,k,mk)=(T,[],0):=by unfold LT.act;rw [if_neg h1,if_neg h2,if_neg h3]
  rw [hact]
  (repeat(first|refine ao ?_|refine ai ?_|refine ah ?_|refine aM ?_|refine aN ?_|refine ay rfl ?_|refine aj rfl rfl rfl ?_))
  refine co 1 23 (d:=5) (by first|exact Tr.ae _ _ _|assumption) rfl ?_
  ((apply bj Try.func11 (congrArg Array.toList Try.results11));(focus(repeat(first|exact ResIs.nil|apply ResIs.tmp rfl))))
  refine⟨nx+1,rfl,Tr.ae _ _ _,zY _,Nat.lt_succ_self _,Fp,hTn.frame fun n hn=>Tr.aa _ _ (by have:=hlt n hn;omega),fun q=>by have:=hlt _ q;omega,hst0.trans ⟨zY _,fun _ q=> .inl q,fun n hn _=>Tr.aa _ _ (by omega)⟩⟩
end Go.Proofs.Ytckajlllkmkniaa
end
section
namespace Go.Sy.Nd
open Go Go.Sy Go.Sl Go.RowKit
section
variable (P:Program) (E:Nat→Tr SV→aV→Nat→Oper→Res→Prop) (nt:Nat) (ops:Array Oper) (T0:Tr SV)
def Src(R:List Rec)(i:Nat)(t:Nat)(s:SV):Prop:=
 (∃ (k:Nat) (r:Rec),k<i∧R[k]? =some r∧r.o.dst=some t∧r.val=s)∨((∀ (k:Nat) (r:Rec),k<i→R[k]? =some r→r.o.dst≠some t)∧T0.at' t=some s)
structure RecOK (R:List Rec) (Q:List (aV×Nat)) (C:List Nat) (i:Nat) (r:Rec):Prop where
 idx:r.i=i
 op:ops[i]? =some r.o
 slots: ∀ t s,r.T.at' t=some s→Operand.tmp t∈aO ops.toList r.o∧Src T0 R i t s
 want:aA r.T ops r.o=some r.wanted
 skip:r.wanted=false→r.val=cX∧r.chain=false
 float:r.wanted=true→r.chain=false→(∀ c,r.o.op ≠ .defer c)∧ ∃ H n,Q[r.stg]? =some (H,n)∧ReadDoes P r.T H r.o r.val
 eff:r.chain=true→r.wanted=true∧C[r.stg]? =some i∧ ∃ H n H' n',Q[r.stg]? =some (H,n)∧Q[r.stg+1]? =some (H',n')∧E i r.T H n r.o (r.val,H',n')
structure DSOK (i:Nat) (s:DS):Prop where
 len:s.recs.length=i
 hs:s.Hs.length=s.stg+1
 last:s.Hs.reverse[s.stg]? =some (s.H,s.nx)
 cnt:((s.recs.reverse.filter (·.chain)).map (·.i)).length=s.stg
 recs: ∀ (k:Nat) r,s.recs.reverse[k]? =some r→RecOK P E ops T0 s.recs.reverse s.Hs.reverse ((s.recs.reverse.filter (·.chain)).map (·.i)) k r
 slots: ∀ t v,s.T.at' t=some v→Src T0 s.recs.reverse i t v
end
section
variable {P:Program} {rn:Rn} {E:Nat→Tr SV→aV→Nat→Oper→Res→Prop} {nt:Nat} {ops:Array Oper} {T0:Tr SV}
theorem Src.mono{R R':List Rec}{i:Nat}{t:Nat}{s:SV}(h:Src T0 R i t s)(hR: ∀ k,k<i→R'[k]? =R[k]?):Src T0 R' i t s:=by
 rcases h with ⟨k,r,h1,h2,h3,h4⟩|⟨h1,h2⟩
 ·exact .inl ⟨k,r,h1,by rw [hR k h1];exact h2,h3,h4⟩
 ·exact .inr ⟨fun k r hk hr=>h1 k r hk (by rw [← hR k hk];exact hr),h2⟩
theorem RecOK.mono{R R':List Rec}{Q Q':List (aV×Nat)}{C C':List Nat}{i:Nat}{r:Rec}(h:RecOK P E ops T0 R Q C i r)(hR: ∀ k,k<i→R'[k]? =R[k]?)(hQ: ∀ (j:Nat) x,Q[j]? =some x→Q'[j]? =some x)(hC: ∀ (j:Nat) x,C[j]? =some x→C'[j]? =some x) :
 RecOK P E ops T0 R' Q' C' i r:=
 ⟨h.idx,h.op,fun t s hs=>let ⟨a,b⟩:=h.slots t s hs;⟨a,b.mono hR⟩,h.want,h.skip,fun a b=>let ⟨x,H,n,c,d⟩:=h.float a b;⟨x,H,n,hQ _ _ c,d⟩,
   fun a=>let ⟨b,c,H,n,H',n',d,e,f⟩:=h.eff a;⟨b,hC _ _ c,H,n,H',n',hQ _ _ d,hQ _ _ e,f⟩⟩
theorem fJ{A:Type}{l:List A}{x y:A}{j:Nat}(h:l[j]? =some y):(l ++ [x])[j]? =some y:=by
 rw [zM (zA.1 h).1];exact h
theorem dZ{A:Type}(l:List A)(x:A):(l ++ [x])[l.length]? =some x:=by simp
theorem DSOK.snoc{i:Nat}{s:DS}(h:DSOK P E ops T0 i s)(hdst: ∀ (j:Nat) o d,ops.toList[j]? =some o→o.dst=some d→d<nt){r:Rec}{H:aV}{nx:Nat}{Hs:List (aV×Nat)}{stg:Nat}(ho:ops[i]? =some r.o)
 (hlen:Hs.length=stg+1) (hlast:Hs.reverse[stg]? =some (H,nx)) (hQ: ∀ (j:Nat) x,s.Hs.reverse[j]? =some x→Hs.reverse[j]? =some x) (hcnt:(if r.chain then s.stg+1 else s.stg)=stg)
 (hrec:RecOK P E ops T0 (s.recs.reverse ++ [r]) Hs.reverse (((s.recs.reverse ++ [r]).filter (·.chain)).map (·.i)) i r):DSOK P E ops T0 (i+1) ⟨gJ nt s.T r.o.dst r.val,H,nx,r :: s.recs,Hs,stg⟩:=by
 have hR: ∀ k,k<i→(s.recs.reverse ++ [r])[k]? =s.recs.reverse[k]? :=fun k hk=>zM (by simp [h.len];exact hk)
 have hri:(s.recs.reverse ++ [r])[i]? =some r:=by have:=dZ s.recs.reverse r;rw [List.length_reverse,h.len] at this;exact this
 refine⟨by simp [h.len],hlen,hlast,?_,fun k r' hr'=>?_,fun t v hv=>?_⟩
 ·simp only [List.reverse_cons,List.filter_append,zU,zT,h.cnt]
  rw [← hcnt]
  cases hc:r.chain <;> simp [List.filter_cons,hc]
 ·simp only [List.reverse_cons] at hr' ⊢
  rcases Nat.lt_or_ge k i with hk|hk
  ·rw [hR k hk] at hr'
   refine(h.recs k r' hr').mono (fun k' hk'=>hR k' (by omega)) hQ (fun j x hj=>?_)
   rw [List.filter_append,zU]
   rw [zM (zA.1 hj).1]
   exact hj
  ·have:k=i:=by
    have:=(zA.1 hr').1
    simp [h.len] at this
    omega
   subst this
   rw [hri] at hr'
   simp only [zw] at hr'
   subst hr'
   exact hrec
 ·simp only [List.reverse_cons] at hv ⊢
  have old:s.T.at' t=some v→r.o.dst≠some t→Src T0 (s.recs.reverse ++ [r]) (i+1) t v:=by
   intro hv hne
   rcases h.slots t v hv with ⟨k,r',h1,h2,h3,h4⟩|⟨h1,h2⟩
   ·exact .inl ⟨k,r',by omega,by rw [hR k h1];exact h2,h3,h4⟩
   ·refine .inr ⟨fun k r' hk hr'=>?_,h2⟩
    rcases Nat.lt_or_ge k i with hk'|hk'
    ·rw [hR k hk'] at hr'
     exact h1 k r' hk' hr'
    ·have:k=i:=by omega
     subst this
     rw [hri] at hr'
     simp only [zw] at hr'
     subst hr'
     exact hne
  cases hd:r.o.dst with
  | none=>rw [hd] at hv old;exact old hv (by simp)
  | some d=>
    rw [hd] at hv
    have hlt:=hdst i r.o d (by simpa using ho) hd
    simp only [gJ,show Nat.blt d nt=true from zD hlt,cond_true] at hv
    rcases Tr.bM hv with ⟨rfl,rfl⟩|⟨hne,hv⟩
    ·exact .inl ⟨i,r,by omega,hri,hd,rfl⟩
    ·exact old hv (by rw [hd];simp;exact fun hc=>hne hc.symm)
theorem iq{i:Nat}{o:Oper}{s s':DS}(hE: ∀ T H nx r,eL P rn T H nx o r→E i T H nx o r)(h:DSOK P E ops T0 i s)(hdst: ∀ (j:Nat) o d,ops.toList[j]? =some o→o.dst=some d→d<nt)(ho:ops[i]? =some o)(hd:pN P rn nt ops i o s s'):DSOK P E ops T0 (i+1) s':=by
 have hslots: ∀ (R:List Rec),(∀ k,k<i→R[k]? =s.recs.reverse[k]?)→ ∀ t v,(aS s.T (aO ops.toList o)).at' t=some v→Operand.tmp t∈aO ops.toList o∧Src T0 R i t v:=by
  intro R hR t v hv
  obtain⟨h1,h2⟩:=ib _ t v hv
  exact⟨h1,(h.slots t v h2).mono hR⟩
 have hR: ∀ (r:Rec) k,k<i→(s.recs.reverse ++ [r])[k]? =s.recs.reverse[k]? :=fun r k hk=>zM (by simp [h.len];exact hk)
 rcases hd with ⟨hw,rfl⟩|⟨hw,hnd,v,hf,rfl⟩|⟨hw,v,H,nx,he,rfl⟩
 ·exact h.snoc (r:=⟨i,o,_,s.stg,false,false,cX⟩) hdst ho h.hs h.last (fun _ _ hj=>hj) rfl
   ⟨rfl,ho,hslots _ (hR _),hw,fun _=>⟨rfl,rfl⟩,fun hc _=>(by cases hc),fun hc=>(by cases hc)⟩
 ·exact h.snoc (r:=⟨i,o,_,s.stg,false,true,v⟩) hdst ho h.hs h.last (fun _ _ hj=>hj) rfl
   ⟨rfl,ho,hslots _ (hR _),hw,fun hc=>(by cases hc),fun _ _=>⟨hnd,s.H,s.nx,h.last,hf⟩,fun hc=>(by cases hc)⟩
 ·have hl:=h.hs
  have hq: ∀ (j:Nat) x,s.Hs.reverse[j]? =some x→((H,nx) :: s.Hs).reverse[j]? =some x:=fun j x hj=>by rw [List.reverse_cons];exact fJ hj
  have hlast:((H,nx) :: s.Hs).reverse[s.stg+1]? =some (H,nx):=by
   rw [List.reverse_cons]
   have:=dZ s.Hs.reverse (H,nx)
   rw [List.length_reverse,hl] at this
   exact this
  refine h.snoc (r:=⟨i,o,_,s.stg,true,true,v⟩) hdst ho (by simp [hl]) hlast hq rfl
   ⟨rfl,ho,hslots _ (hR _),hw,fun hc=>(by cases hc),fun _ hc=>(by cases hc),fun _=>⟨rfl,?_,s.H,s.nx,H,nx,hq _ _ h.last,hlast,hE _ _ _ _ he⟩⟩
  simp only [List.filter_append,zU,List.filter_cons,if_true,List.filter_nil,zR,List.map_nil]
  have:=dZ ((s.recs.reverse.filter (·.chain)).map (·.i)) i
  rw [h.cnt] at this
  exact this
end
def yi(P:Program)(K:Zone)(w0:World)(nt:Nat)(ops:Array Oper)(E:Nat→Tr SV→aV→Nat→Oper→Res→Prop)(i:Nat):Prop:=
 ∀ {e:Env} {w:World} {H:aV} {n:Nat} {T:Tr SV} {tr:Array Value} {fn:FuncId} {rest:List Nat} {k:List Item} {ds:List Deferred} {kd:CallKind} {rof:Option Nat} {cs:List Frame} {o:Oper} {v:SV} {H2:aV} {n2:Nat},St K w0 e H n w→TRel e nt T tr→ops[i]? =some o→Region.wanted o (yielded ops tr)=true→E i T H n o (v,H2,n2) →
  ∃ e' w' u,e.le e'∧St K w0 e' H2 n2 w'∧v.conc e'=some u∧Steps P (lone (fr0 fn tr (.inRegion ops (i :: rest) :: k) ds kd rof) cs w) (lone (fr0 fn (gi tr o.dst u) (.inRegion ops rest :: k) ds kd rof) cs w')
section
variable {P:Program} {K:Zone} {w0 w:World} {e:Env} {H:aV} {nx:Nat} {E:Nat→Tr SV→aV→Nat→Oper→Res→Prop}
structure RegOK (P:Program) (E:Nat→Tr SV→aV→Nat→Oper→Res→Prop) (nt:Nat) (ops:Array Oper) (T0:Tr SV) (R:List Rec) (Q:List (aV×Nat)) (C:List Nat):Prop where
 len:R.length=ops.size
 recs: ∀ (k:Nat) r,R[k]? =some r→RecOK P E ops T0 R Q C k r
 stages:Q.length=C.length+1
 chainR:C=(R.filter (·.chain)).map (·.i)
 chain:dE (bQ [] ops.toList) C=true
 floats: ∀ r∈R,r.chain=false→r.wanted=true→(∀ c,r.o.op ≠ .defer c)∧ ∀ s,eX ((bQ [] ops.toList).getD r.i 0) C≤s→s≤cV (bQ [] ops.toList) r.i C→ ∀ H n,Q[s]? =some (H,n)→ReadDoes P r.T H r.o r.val
 small: ∀ (i:Nat) o d,ops.toList[i]? =some o→o.dst=some d→d<nt
 dist: ∀ (i j:Nat) oi oj d,ops.toList[i]? =some oi→ops.toList[j]? =some oj→oi.dst=some d→oj.dst=some d→i=j
 edges: ∀ (i:Nat) o,ops.toList[i]? =some o→eJ i o.after.toList=true
 opnds: ∀ (i:Nat) o,ops.toList[i]? =some o→cL ops.toList (bQ [] ops.toList) i ((bQ [] ops.toList).getD i 0) (aO ops.toList o)=true
def rV(T0:Tr SV)(R:List Rec)(L:Nat→Prop)(t:Nat)(s:SV):Prop:=
 (∃ (k:Nat) (r:Rec),L k∧R[k]? =some r∧r.o.dst=some t∧r.val=s)∨((∀ (k:Nat) (r:Rec),L k→R[k]? =some r→r.o.dst≠some t)∧T0.at' t=some s)
structure PInv (K:Zone) (w0:World) (nt:Nat) (ops:Array Oper) (T0:Tr SV) (R:List Rec) (Q:List (aV×Nat)) (C:List Nat) (L:Nat→Prop) (s:Nat) (e:Env) (w:World) (tr:Array Value):Prop where
 st: ∃ H n,Q[s]? =some (H,n)∧St K w0 e H n w
 size:tr.size=nt
 good: ∀ t sv,rV T0 R L t sv→ ∃ v,sv.conc e=some v∧tr.getD t undef=v
 chain: ∀ (j c:Nat),C[j]? =some c→(L c↔j<s)
 closed: ∀ (i:Nat) o,L i→ops.toList[i]? =some o→ ∀ ed∈o.after.toList,Region.binds .any ed=true→L ed.on
variable {nt:Nat} {ops:Array Oper} {T0:Tr SV} {R:List Rec} {Q:List (aV×Nat)} {C:List Nat}
theorem PInv.need(hR:RegOK P E nt ops T0 R Q C){L:Nat→Prop}{s:Nat}{tr:Array Value}(h:PInv K w0 nt ops T0 R Q C L s e w tr){i:Nat}{o:Oper}(ho:ops[i]? =some o)(hni: ¬ L i)
 (hed: ∀ ed∈o.after.toList,Region.binds .any ed=true→L ed.on) {r:Rec} (hr:R[i]? =some r):TRel e nt r.T tr∧Region.wanted o (yielded ops tr)=r.wanted:=by
 have hoL:ops.toList[i]? =some o:=by simpa using ho
 have hilt:i<ops.size:=(zG.1 ho).1
 have hrec:=hR.recs i r hr
 have hro:r.o=o:=by
  have:=hrec.op
  rw [ho] at this
  simpa using this.symm
 have hanc:=bG L hR.edges (fun i o hi ho'=>h.closed i o hi ho') i o hoL hed
 have hT:TRel e nt r.T tr:=by
  refine⟨h.size,fun t sv ht=>?_⟩
  obtain⟨hneed,hsrc⟩:=hrec.slots t sv ht
  rw [hro] at hneed
  have hwr: ∀ (k':Nat) o',ops.toList[k']? =some o'→o'.dst=some t→(L k'∧k'<i)∨(¬ L k'∧i<k'):=fun k' o' ho' hd'=>by
   rcases db hR.dist (hR.opnds i o hoL) t hneed k' o' ho' hd' with hb|hb
   ·exact .inl (hanc k' hb)
   ·refine .inr ⟨fun hL=>?_,?_⟩
    ·exact hni (bG L hR.edges (fun i o hi ho'=>h.closed i o hi ho') k' o' ho' (h.closed k' o' hL ho') i hb).1
    ·exact(bG (fun _=>True) hR.edges (fun _ _ _ _ _ _ _=>trivial) k' o' ho' (fun _ _ _=>trivial) i hb).2
  refine h.good t sv ?_
  rcases hsrc with ⟨k',r',h1,h2,h3,h4⟩|⟨h1,h2⟩
  ·have hop:=(hR.recs k' r' h2).op
   rcases hwr k' r'.o (by simpa using hop) h3 with g|g
   ·exact .inl ⟨k',r',g.1,h2,h3,h4⟩
   ·omega
  ·refine .inr ⟨fun k' r' hLk hr' hd'=>?_,h2⟩
   have hop:=(hR.recs k' r' hr').op
   rcases hwr k' r'.o (by simpa using hop) hd' with g|g
   ·exact h1 k' r' g.2 hr' hd'
   ·exact g.1 hLk
 have hwant:=dL hrec.want hT
 rw [hro] at hwant
 exact⟨hT,hwant⟩
theorem PInv.step(hR:RegOK P E nt ops T0 R Q C){L:Nat→Prop}{s:Nat}{tr:Array Value}(h:PInv K w0 nt ops T0 R Q C L s e w tr){i:Nat}{o:Oper}(ho:ops[i]? =some o)(hni: ¬ L i)
 (hed: ∀ ed∈o.after.toList,Region.binds .any ed=true→L ed.on) (fn:FuncId) (rest:List Nat) (k:List Item) (ds:List Deferred) (kd:CallKind) (rof:Option Nat) (cs:List Frame) (hX: ∀ r,R[i]? =some r→r.chain=true→ ∀ H n H2 n2,Q[s]? =some (H,n)→Q[s+1]? =some (H2,n2)→E i r.T H n o (r.val,H2,n2)→St K w0 e H n w→TRel e nt r.T tr→Region.wanted o (yielded ops tr)=true→ ∃ e' w' u,e.le e'∧St K w0 e' H2 n2 w'∧r.val.conc e'=some u∧Steps P (lone (fr0 fn tr (.inRegion ops (i :: rest) :: k) ds kd rof) cs w) (lone (fr0 fn (gi tr o.dst u) (.inRegion ops rest :: k) ds kd rof) cs w')) :
 ∃ e' w' tr' s',e.le e'∧PInv K w0 nt ops T0 R Q C (fun j=>L j∨j=i) s' e' w' tr' ∧
  Steps P (lone (fr0 fn tr (.inRegion ops (i :: rest) :: k) ds kd rof) cs w) (lone (fr0 fn tr' (.inRegion ops rest :: k) ds kd rof) cs w'):=by
 have hoL:ops.toList[i]? =some o:=by simpa using ho
 have hilt:i<ops.size:=(zG.1 ho).1
 obtain⟨r,hr⟩: ∃ r,R[i]? =some r:=⟨_,zz (by rw [hR.len];exact hilt)⟩
 have hrec:=hR.recs i r hr
 have hro:r.o=o:=by
  have:=hrec.op
  rw [ho] at this
  simpa using this.symm
 have hanc:=bG L hR.edges (fun i o hi ho'=>h.closed i o hi ho') i o hoL hed
 have hT:TRel e nt r.T tr:=by
  refine⟨h.size,fun t sv ht=>?_⟩
  obtain⟨hneed,hsrc⟩:=hrec.slots t sv ht
  rw [hro] at hneed
  have hwr: ∀ (k':Nat) o',ops.toList[k']? =some o'→o'.dst=some t→(L k'∧k'<i)∨(¬ L k'∧i<k'):=fun k' o' ho' hd'=>by
   rcases db hR.dist (hR.opnds i o hoL) t hneed k' o' ho' hd' with hb|hb
   ·exact .inl (hanc k' hb)
   ·refine .inr ⟨fun hL=>?_,?_⟩
    ·exact hni (bG L hR.edges (fun i o hi ho'=>h.closed i o hi ho') k' o' ho' (h.closed k' o' hL ho') i hb).1
    ·exact(bG (fun _=>True) hR.edges (fun _ _ _ _ _ _ _=>trivial) k' o' ho' (fun _ _ _=>trivial) i hb).2
  refine h.good t sv ?_
  rcases hsrc with ⟨k',r',h1,h2,h3,h4⟩|⟨h1,h2⟩
  ·have hop:=(hR.recs k' r' h2).op
   rcases hwr k' r'.o (by simpa using hop) h3 with g|g
   ·exact .inl ⟨k',r',g.1,h2,h3,h4⟩
   ·omega
  ·refine .inr ⟨fun k' r' hLk hr' hd'=>?_,h2⟩
   have hop:=(hR.recs k' r' hr').op
   rcases hwr k' r'.o (by simpa using hop) hd' with g|g
   ·exact h1 k' r' g.2 hr' hd'
   ·exact g.1 hLk
 have hwant:=dL hrec.want hT
 rw [hro] at hwant
 have build: ∀ (e':Env) (w':World) (u:Value) (s':Nat),e.le e'→(∃ H n,Q[s']? =some (H,n)∧St K w0 e' H n w')→r.val.conc e'=some u→(∀ (j c:Nat),C[j]? =some c→((L c∨c=i)↔j<s')) →
  PInv K w0 nt ops T0 R Q C (fun j=>L j∨j=i) s' e' w' (gi tr o.dst u):=by
  intro e' w' u s' hle hst hu hch
  refine⟨hst,?_,fun t sv hg=>?_,hch,fun j oj hj hoj ed hed' hb=>?_⟩
  ·unfold gi
   cases o.dst with
   | none=>exact h.size
   | some d=>simpa using h.size
  ·have old:(∀ d,o.dst=some d→d≠t)→ ∃ v,sv.conc e'=some v∧(gi tr o.dst u).getD t undef=v:=by
    intro hne
    have hg':rV T0 R L t sv:=by
     rcases hg with ⟨k',r',hk',h2,h3,h4⟩|hg
     ·refine .inl ⟨k',r',?_,h2,h3,h4⟩
      rcases hk' with hk'|rfl
      ·exact hk'
      ·exfalso
       rw [hr] at h2
       simp only [zw] at h2
       subst h2
       rw [hro] at h3
       exact hne t h3 rfl
     ·exact .inr ⟨fun k' r' hLk=>hg.1 k' r' (.inl hLk),hg.2⟩
    obtain⟨v,hv,hgv⟩:=h.good t sv hg'
    refine⟨v,SV.bW hle _ _ hv,?_⟩
    cases hd:o.dst with
    | none=>exact hgv
    | some d=>
      have:=hne d hd
      simp only [gi]
      rw [zC,Array.getElem?_setIfInBounds_ne this,←zC]
      exact hgv
   cases hd:o.dst with
   | none=>rw [hd] at old;exact old (fun d hd'=>by cases hd')
   | some d=>
     by_cases hdt:d=t
     ·subst hdt
      have hval:sv=r.val:=by
       rcases hg with ⟨k',r',hk',h2,h3,h4⟩|⟨h1,_⟩
       ·have hop:=(hR.recs k' r' h2).op
        have:=hR.dist k' i r'.o o d (by simpa using hop) hoL h3 hd
        subst this
        rw [hr] at h2
        simp only [zw] at h2
        subst h2
        exact h4.symm
       ·exact absurd (by rw [hro];exact hd) (h1 i r (.inr rfl) hr)
      subst hval
      refine⟨u,hu,?_⟩
      have hlt:=hR.small i o d hoL hd
      simp only [gi]
      rw [zC,Array.getElem?_setIfInBounds_self_of_lt (by rw [h.size];exact hlt)]
      rfl
     ·rw [hd] at old
      exact old (fun d' hd'=>by simp only [zw] at hd';subst hd';exact hdt)
  ·rcases hj with hj|rfl
   ·exact .inl (h.closed j oj hj hoj ed hed' hb)
   ·rw [hoL] at hoj
    simp only [zw] at hoj
    subst hoj
    exact .inl (hed ed hed' hb)
 have notChain:r.chain=false→ ∀ (j c:Nat),C[j]? =some c→((L c∨c=i)↔j<s):=by
  intro hc j c hj
  have hne:c≠i:=by
   rintro rfl
   rw [hR.chainR] at hj
   rw [List.getElem?_map,zF] at hj
   obtain⟨r',hr',hi'⟩:=hj
   have hmem:=zJ hr'
   rw [List.mem_filter] at hmem
   obtain⟨k',hk'⟩:=List.mem_iff_getElem?.1 hmem.1
   have:=(hR.recs k' r' hk').idx
   rw [hi'] at this
   subst this
   rw [hr] at hk'
   simp only [zw] at hk'
   subst hk'
   rw [hc] at hmem
   simp at hmem
  rw [← h.chain j c hj]
  simp [hne]
 obtain⟨H,n,hQ,hS⟩:=h.st
 cases hwd:r.wanted with
 | false=>
   rw [hwd] at hwant
   obtain⟨h1,h2⟩:=hrec.skip hwd
   exact⟨e,w,_,s,Env.le_refl e,build e w undef s (Env.le_refl e) ⟨H,n,hQ,hS⟩ (by rw [h1];rfl) (notChain h2),.one (eT ho hwant)⟩
 | true=>
   rw [hwd] at hwant
   cases hc:r.chain with
   | false=>
     have hri:=hrec.idx
     have hlo:eX ((bQ [] ops.toList).getD r.i 0) C≤s:=by
      rcases Nat.lt_or_ge s (eX ((bQ [] ops.toList).getD r.i 0) C)with hlt|hge
      ·exfalso
       obtain⟨c,h1,h2⟩:=jh s hlt
       rw [hri] at h2
       have:=(h.chain s c h1).1 (hanc c h2).1
       omega
      ·exact hge
     have hhi:s≤cV (bQ [] ops.toList) r.i C:=by
      rcases Nat.lt_or_ge (cV (bQ [] ops.toList) r.i C) s with hlt|hge
      ·exfalso
       have hsC:s≤C.length:=by
        have:=(zA.1 hQ).1
        have:=hR.stages
        omega
       obtain⟨c,h1,h2⟩:=gP (ancs:=bQ [] ops.toList) (i:=r.i) (l:=C) (by omega)
       have hLc:=(h.chain _ c h1).2 hlt
       have hcl:c<ops.size:=by
        have hcm:=zJ h1
        rw [hR.chainR,List.mem_map] at hcm
        obtain⟨r',hr',rfl⟩:=hcm
        rw [List.mem_filter] at hr'
        obtain⟨k',hk'⟩:=List.mem_iff_getElem?.1 hr'.1
        have hx:=hR.recs k' r' hk'
        rw [hx.idx]
        exact(zG.1 hx.op).1
       have hoc:ops.toList[c]? =some (ops.toList[c]'(by simpa using hcl)):=zz (by simpa using hcl)
       have:=bG L hR.edges (fun i o hi ho'=>h.closed i o hi ho') c _ hoc (h.closed c _ hLc hoc) r.i h2
       rw [hri] at this
       exact hni this.1
      ·exact hge
     have hf:=(hR.floats r (zJ hr) hc hwd).2 s hlo hhi H n hQ
     have hnd:=(hR.floats r (zJ hr) hc hwd).1
     rw [hro] at hf hnd
     obtain⟨u,hu,hst⟩:=gm (P:=P) (fn:=fn) (rest:=rest) (k:=k) (ds:=ds) (kd:=kd) (rof:=rof) (cs:=cs) hS hT ho hwant hnd hf
     exact⟨e,w,_,s,Env.le_refl e,build e w u s (Env.le_refl e) ⟨H,n,hQ,hS⟩ hu (notChain hc),hst⟩
   | true=>
     obtain⟨_,hC,H1,n1,H2,n2,hQ1,hQ2,heff⟩:=hrec.eff hc
     have hss:r.stg=s:=by
      have h1: ¬ r.stg<s:=fun hlt=>hni ((h.chain r.stg i hC).2 hlt)
      rcases Nat.eq_zero_or_pos r.stg with h0|hp
      ·omega
      ·have hlt:r.stg-1<C.length:=by
        have:=(zA.1 hC).1
        omega
       have hprev:C[r.stg-1]? =some C[r.stg-1]:=zz hlt
       have hbit:=ga hR.chain (r.stg-1) C[r.stg-1] i hprev (by rw [show r.stg-1+1=r.stg by omega];exact hC)
       have:=(h.chain _ _ hprev).1 (hanc _ hbit).1
       omega
     rw [hss] at hQ1 hQ2 hC
     rw [hQ] at hQ1
     simp only [zw,zE] at hQ1
     obtain⟨rfl,rfl⟩:=hQ1
     rw [hro] at heff
     obtain⟨e',w',u,hle,hS',hu,hst⟩:=hX r hr hc H n H2 n2 hQ hQ2 heff hS hT hwant
     refine⟨e',w',_,s+1,hle,build e' w' u (s+1) hle ⟨H2,n2,hQ2,hS'⟩ hu (fun j c hj=>?_),hst⟩
     constructor
     ·rintro(hL|rfl)
      ·have:=(h.chain j c hj).1 hL;omega
      ·rcases Nat.lt_or_ge j (s+1)with hlt|hge
       ·exact hlt
       ·exfalso
        have hi1:=chain_inj hR hC hj
        omega
     ·intro hlt
      rcases Nat.lt_or_ge j s with hj'|hj'
      ·exact .inl ((h.chain j c hj).2 hj')
      ·have:j=s:=by omega
       subst this
       rw [hC] at hj
       simp only [zw] at hj
       exact .inr hj.symm
where
 chain_inj {P:Program} {E:Nat→Tr SV→aV→Nat→Oper→Res→Prop} {nt:Nat} {ops:Array Oper} {T0:Tr SV} {R:List Rec} {Q:List (aV×Nat)} {C:List Nat} (hR:RegOK P E nt ops T0 R Q C) {s j c:Nat} (h1:C[s]? =some c) (h2:C[j]? =some c):s=j:=by
  have hnd:C.Nodup:=by
   rw [hR.chainR]
   have hall:((R.filter (·.chain)).map (·.i)).Sublist (R.map (·.i)):=(List.filter_sublist).map _
   refine hall.nodup ?_
   have:R.map (·.i)=List.range R.length:=by
    apply List.ext_getElem?
    intro k
    rw [List.getElem?_map]
    cases hk:R[k]? with
    | none=>
      rw [List.getElem?_eq_none_iff] at hk
      simp [hk]
    | some r=>
      have hlt:=(zA.1 hk).1
      rw [zV,(hR.recs k r hk).idx,List.getElem?_range hlt]
   rw [this]
   exact List.nodup_range
  have a:=zA.1 h1
  have b:=zA.1 h2
  obtain⟨a1,a2⟩:=a
  obtain⟨b1,b2⟩:=b
  exact(List.getElem_inj hnd).1 (a2.trans b2.symm)
end
section
variable {P:Program} {K:Zone} {w0 w:World} {e:Env} {E:Nat→Tr SV→aV→Nat→Oper→Res→Prop} {nt:Nat} {ops:Array Oper} {T0:Tr SV} {R:List Rec} {Q:List (aV×Nat)} {C:List Nat}
def bg(listed:Array Bool)(j:Nat):Prop:=listed[j]? =some true
theorem fS{listed:Array Bool}(hsz:listed.size=ops.size){i:Nat}(h:i∈Region.ready .any ops listed): ∃ o,ops[i]? =some o∧ ¬ bg listed i∧ ∀ ed∈o.after.toList,Region.binds .any ed=true→bg listed ed.on:=by
 unfold Region.ready at h
 rw [List.mem_filter,List.mem_range,zO] at h
 obtain⟨h1,h2,h3⟩:=h
 have ho:ops[i]? =some ops[i]:=zI h1
 refine⟨ops[i],ho,?_,fun ed hed hb=>?_⟩
 ·intro hl
  unfold bg at hl
  rw [zC,hl] at h2
  simp at h2
 ·rw [ho] at h3
  simp only [zV,Option.getD_some] at h3
  rw [Array.all_eq_true_iff_forall_mem] at h3
  have:=h3 ed (by simpa using hed)
  rw [hb] at this
  simp only [Bool.not_true,Bool.false_or] at this
  unfold bg
  rw [zC] at this
  cases hx:listed[ed.on]? with
  | none=>rw [hx] at this;simp at this
  | some b=>rw [hx] at this;simp only [Option.getD_some] at this;rw [this]
theorem hM{listed:Array Bool}(hsz:listed.size=ops.size)(hE: ∀ (i:Nat) o,ops.toList[i]? =some o→eJ i o.after.toList=true){i:Nat}(hi:i<ops.size)(hn: ¬ bg listed i): ∃ j,j∈Region.ready .any ops listed:=by
 induction i using Nat.strongRecOn with
 | _ i ih=>
   have ho:ops[i]? =some ops[i]:=zI hi
   by_cases hall: ∀ ed∈ops[i].after.toList,Region.binds .any ed=true→bg listed ed.on
   ·refine⟨i,?_⟩
    unfold Region.ready
    rw [List.mem_filter,List.mem_range,zO]
    refine⟨hi,?_,?_⟩
    ·unfold bg at hn
     rw [zC]
     have hlt:i<listed.size:=by omega
     rw [zI hlt] at hn ⊢
     simp only [zw,Bool.not_eq_true] at hn
     simp [hn]
    ·rw [ho]
     simp only [zV,Option.getD_some]
     rw [Array.all_eq_true_iff_forall_mem]
     intro ed hed
     cases hb:Region.binds .any ed with
     | false=>rfl
     | true=>
       have:=hall ed (by simpa only [Array.mem_toList_iff] using hed) hb
       unfold bg at this
       rw [zC,this]
       rfl
   ·have: ∃ ed,ed∈ops[i].after.toList∧Region.binds .any ed=true∧ ¬ bg listed ed.on:=by
     apply Classical.byContradiction
     intro hc
     apply hall
     intro ed h1 h2
     apply Classical.byContradiction
     intro h3
     exact hc ⟨ed,h1,h2,h3⟩
    obtain⟨ed,h1,h2,h3⟩:=this
    have hlt:=f7 (hE i ops[i] (by simp)) ed h1 h2
    exact ih ed.on hlt (by omega) h3
def b8(listed:Array Bool):Nat:=listed.toList.count false
theorem ew: ∀ (l:List Bool) (i:Nat),l[i]? =some false→(l.set i true).count false+1=l.count false
 | [],i,h=>by simp at h
 | b :: l,0,h=>by
   simp only [zN,zw] at h
   subst h
   simp [List.count_cons]
 | b :: l,i+1,h=>by
   have:=ew l i (by simpa using h)
   simp only [List.set_cons_succ,List.count_cons]
   omega
theorem ia{c:Nat}(hE: ∀ i,i≠c→yi P K w0 nt ops E i)(hR:RegOK P E nt ops T0 R Q C)(fn:FuncId)(k:List Item)(ds:List Deferred)(kd:CallKind)(rof:Option Nat)(cs:List Frame): ∀ (fuel t:Nat) (listed:Array Bool) (s:Nat) (e:Env) (w:World) (tr:Array Value),
 listed.size=ops.size→b8 listed≤fuel→bg listed c→PInv K w0 nt ops T0 R Q C (bg listed) s e w tr →
 ∃ e' w' tr' s' listed',e.le e'∧listed'.size=ops.size∧(∀ j,j<ops.size→bg listed' j)∧PInv K w0 nt ops T0 R Q C (bg listed') s' e' w' tr' ∧
  Steps P (lone (fr0 fn tr (.inRegion ops (Region.linearise.go .any ops fuel t listed []) :: k) ds kd rof) cs w) (lone (fr0 fn tr' (.inRegion ops [] :: k) ds kd rof) cs w'):=by
 have allOf: ∀ (listed:Array Bool),listed.size=ops.size→(∀ j,j∉Region.ready .any ops listed)→ ∀ j,j<ops.size→bg listed j:=by
  intro listed hsz hno j hj
  apply Classical.byContradiction
  intro hn
  obtain⟨i,hi⟩:=hM hsz hR.edges hj hn
  exact hno i hi
 intro fuel
 induction fuel with
 | zero=>
   intro t listed s e w tr hsz hun hcl hI
   refine⟨e,w,tr,s,listed,Env.le_refl e,hsz,fun j hj=>?_,hI,by simp only [Region.linearise.go,List.reverse_nil];exact .refl P _⟩
   unfold bg
   have hlt:j<listed.size:=by omega
   rw [zI hlt]
   cases hb:listed[j] with
   | true=>rfl
   | false=>
     exfalso
     have:0<listed.toList.count false:=List.count_pos_iff.2 (by rw [← hb];simp)
     unfold b8 at hun
     omega
 | succ fuel ih=>
   intro t listed s e w tr hsz hun hcl hI
   simp only [Region.linearise.go]
   change ∃ e' w' tr' s' listed',_∧_∧_∧_∧Steps P (lone (fr0 fn tr (.inRegion ops (match (Region.ready .any ops listed)[t % (Region.ready .any ops listed).length]? with
    | some i=>Region.linearise.go .any ops fuel (t / (Region.ready .any ops listed).length) (listed.setIfInBounds i true) [i]
    | none=> [].reverse) :: k) ds kd rof) cs w) _
   cases hpick:(Region.ready .any ops listed)[t % (Region.ready .any ops listed).length]? with
   | none=>
     have hnil:Region.ready .any ops listed= []:=by
      cases hx:Region.ready .any ops listed with
      | nil=>rfl
      | cons x xs=>
        rw [hx] at hpick
        have hlt:t % (x :: xs).length<(x :: xs).length:=Nat.mod_lt _ (by simp)
        rw [zz hlt] at hpick
        cases hpick
     exact⟨e,w,tr,s,listed,Env.le_refl e,hsz,allOf listed hsz (by rw [hnil];simp),hI,.refl P _⟩
   | some i=>
     simp only
     have hmem:=zJ hpick
     obtain⟨o,ho,hni,hed⟩:=fS hsz hmem
     rw [linearise_go_acc,List.reverse_singleton,List.singleton_append]
     obtain⟨e1,w1,tr1,s1,hle1,hI1,hst1⟩:=hI.step hR ho hni hed fn (Region.linearise.go .any ops fuel (t / (Region.ready .any ops listed).length) (listed.setIfInBounds i true) []) k ds kd rof cs (fun r _ _ H n H2 n2 _ _ he hS hT hw=>hE i (fun hic=>hni (hic ▸ hcl)) hS hT ho hw he)
     have hilt:i<ops.size:=(zG.1 ho).1
     have hfalse:listed.toList[i]? =some false:=by
      have hlt:i<listed.size:=by omega
      unfold bg at hni
      rw [zI hlt] at hni
      rw [Array.getElem?_toList,zI hlt]
      simpa using hni
     have hcnt:b8 (listed.setIfInBounds i true)+1=b8 listed:=by
      unfold b8
      rw [Array.toList_setIfInBounds]
      exact ew _ _ hfalse
     have hLeq: ∀ j,bg (listed.setIfInBounds i true) j↔(bg listed j∨j=i):=by
      intro j
      unfold bg
      by_cases hji:j=i
      ·subst hji
       rw [Array.getElem?_setIfInBounds_self_of_lt (by omega)]
       simp
      ·rw [Array.getElem?_setIfInBounds_ne (Ne.symm hji)]
       simp [hji]
     have hI2:PInv K w0 nt ops T0 R Q C (bg (listed.setIfInBounds i true)) s1 e1 w1 tr1:=by
      have:bg (listed.setIfInBounds i true)=fun j=>bg listed j∨j=i:=funext fun j=>propext (hLeq j)
      rw [this]
      exact hI1
     obtain⟨e2,w2,tr2,s2,l2,hle2,hs2,ha2,hI3,hst2⟩:=ih _ _ s1 e1 w1 tr1 (by simpa using hsz) (by omega) ((hLeq c).2 (.inl hcl)) hI2
     exact⟨e2,w2,tr2,s2,l2,Env.le_trans hle1 hle2,hs2,ha2,hI3,hst1.trans hst2⟩
theorem PInv.turn{R':List Rec}{Q':List (aV×Nat)}{L:Nat→Prop}{s:Nat}{tr:Array Value}(h:PInv K w0 nt ops T0 R Q C L s e w tr)(hR: ∀ k,L k→R'[k]? =R[k]?)(hQ:Q'[s]? =Q[s]?):PInv K w0 nt ops T0 R' Q' C L s e w tr:=by
 obtain⟨⟨H,n,h1,h2⟩,h3,h4,h5,h6⟩:=h
 refine⟨⟨H,n,hQ.trans h1,h2⟩,h3,fun t sv hg=>h4 t sv ?_,h5,h6⟩
 rcases hg with ⟨k,r,g1,g2,g3,g4⟩|⟨g1,g2⟩
 ·exact .inl ⟨k,r,g1,by rw [← hR k g1];exact g2,g3,g4⟩
 ·exact .inr ⟨fun k r hk hr=>g1 k r hk (by rw [hR k hk];exact hr),g2⟩
end
end Go.Sy.Nd
end
section
namespace Go.Sy
open Go Go.Sl Go.RowKit
section
variable {P:Program} {ro:Option Nat} {fn nt nx:Nat} {T:Tr SV} {k:List AIt} {dfs:List ADf} {H:aV} {Q:Pst}
structure TailK (P:Program) (ro:Option Nat) (fn nt:Nat) (k:List AIt) (dfs:List ADf) (Q:Pst) (opl:List Oper) (n:Nat) (oc:Oper) (s1:DS):Prop where
 ex:aA (aS s1.T (aO opl oc)) opl.toArray oc=some true∧ ∃ (f:FuncId) (args:List SV) (Q':Pst) (r0:Res),OpDoes P (aS s1.T (aO opl oc)) s1.H s1.nx oc (.enter f args,s1.H,s1.nx)∧(∀ c,oc.op ≠ .defer c)∧iB P (wpr P) f args s1.H s1.nx Q' ∧
  (∀ r:Res,Q' r→DrawK P nt opl.toArray (n+1) (opl.drop (n+1)) ⟨gJ nt s1.T oc.dst r.1,r.2.1,r.2.2,⟨n,oc,aS s1.T (aO opl oc),s1.stg,true,true,r.1⟩ :: s1.recs,(r.2.1,r.2.2) :: s1.Hs,s1.stg+1⟩
    (fun s=>dE (bQ [] opl) (cE s)=true∧cE s=cE s1 ++ [n]∧FlOk P (bQ [] opl) (cE s) s.Hs s.recs∧Wp P ro ⟨fn,nt,s.T,k,dfs,s.H,s.nx⟩ Q)) ∧
  DrawK P nt opl.toArray (n+1) (opl.drop (n+1)) ⟨gJ nt s1.T oc.dst r0.1,r0.2.1,r0.2.2,⟨n,oc,aS s1.T (aO opl oc),s1.stg,true,true,r0.1⟩ :: s1.recs,(r0.2.1,r0.2.2) :: s1.Hs,s1.stg+1⟩
   (fun s=>dE (bQ [] opl) (cE s)=true∧cE s=cE s1 ++ [n]∧FlOk P (bQ [] opl) (cE s) s.Hs s.recs)
end
end Go.Sy
end
section
namespace Go.Proofs.Ytckajlllkmkniaa
open Go Go.Sy Go.Sl Go.RowKit
theorem LT.Fine.act2{T:LT}{N:Nat}(H:T.Fine N)(hN:N<900)(hb:T.Busy)(x:pO):T.actOk x∧(T.act x).1.Fine (N+1)∧(T.act x).1.Busy∧(T.act x).1.mass≤T.mass+1:=by
 have hk:=fun o mark=>H.backOk (by omega) o mark
 have hb2:=fun o mark=>H.back (by omega) o mark
 have hm:=fun o mark=>H.backMore (by omega) hb o mark
 have h1:=H.wf.keys_le
 have h2:=H.szL
 refine⟨⟨H.askOk hN _ _,⟨by have:=h1 x.2.1;omega,(hk _ _).2⟩,⟨by have:=h1 x.2.1;omega,(hk _ _).2⟩⟩,?_⟩
 unfold LT.act
 split
 ·exact⟨H.ask _ _,hb.ask _ _,LT.uN _ _⟩
 ·split
  ·exact⟨(hb2 _ _).mono (zY _),(hm _ _).1,Nat.le_succ_of_le (hm _ _).2.1⟩
  ·split
   ·exact⟨(hb2 _ _).mono (zY _),(hm _ _).1,Nat.le_succ_of_le (hm _ _).2.1⟩
   ·exact⟨H.mono (zY _),hb,zY _⟩
theorem tB{a:Array pO}{m:Nat}(h:nR a (m:Int)=false):a.size≤m∧ ∀ x∈a.toList,x.2.2.1.size≤300:=by
 unfold nR at h
 rw [Bool.or_eq_false_iff] at h
 have h1:a.size≤m:=by have:=of_decide_eq_false h.2;omega
 refine⟨h1,fun x hx=>?_⟩
 have h2:=h.1
 rw [zH (by rw [Array.length_toList];omega),List.any_eq_false] at h2
 have:=h2 x hx
 simpa using this
theorem vV{t lr:Nat}{T:LT}{Fo:Nat→Prop}{H:aV}{nx:Nat}(hF:TabAt t T Fo H)(hrow:H.at' lr=some (uR false T.owners))(most:Int)(hl:T.parties.length<60000):Fnc Try.prog 23 [.ptr t 0,.slu lr 0 T.owners.length,.sc (.int .i64 most)] H nx (fun q=>q.1 = .sc (.bool true)∧nx≤q.2.2∧ ∀ n,n<nx→q.2.1.at' n=H.at' n):=by
 refine Fnc.start Try.func23 rfl rfl ?_
 refine b4 fun hund=>?_
 have hFl:=hF.lt hund
 have hlr:=hund lr _ hrow
 have hol:T.owners.length<60000:=by
  unfold LT.owners
  rw [gE,List.length_map]
  exact hl
 (repeat(first|refine ao ?_|refine ai ?_|refine ah ?_|(apply am;exact rfl;exact rfl;exact rfl)|refine cI rfl rfl rfl rfl (F.sz _ rfl) (by first|exact rfl|(focus((repeat(exact Tr.ae _ _ _));done))) rfl (by exact zB rfl) rfl ?_|(apply jC;exact rfl;exact rfl;exact(F.zl _ rfl))|(apply vg;exact rfl;exact rfl;exact rfl;exact rfl)))
 refine bn rfl rfl rfl (by kernel_rfl) (Fnc.mono (vR (hF.frame fun n hn=>by have:=hFl n hn;(focus((repeat(refine(Tr.aa _ _ (by omega)).trans ?_));exact rfl))) hl) ?_)
 rintro⟨_,H3,n3⟩ ⟨ro',rfl,o1,o2,o3,o4,o5⟩
 dsimp only at o1 o2 o3 o4 o5 ⊢
 have k4:H3.at' nx=some (aG 28 [.slu lr 0 T.owners.length]):=(o5 nx (by omega)).trans (by(repeat(first|exact Tr.ae _ _ _|refine(Tr.aa _ _ (by omega)).trans ?_));done)
 have k5:H3.at' (nx+1)=some (aG 3 [.sc (.int .i64 most)]):=(o5 (nx+1) (by omega)).trans (by(repeat(first|exact Tr.ae _ _ _|refine(Tr.aa _ _ (by omega)).trans ?_));done)
 have k6:H3.at' (nx+1+1)=some (aG 4 [.sc (.bool false)]):=(o5 (nx+1+1) (by omega)).trans (by(repeat(first|exact Tr.ae _ _ _|refine(Tr.aa _ _ (by omega)).trans ?_));done)
 have k7:H3.at' (nx+1+1+1)=some (aG 3 [.sc (.int .i64 0)]):=(o5 (nx+1+1+1) (by omega)).trans (by(repeat(exact Tr.ae _ _ _));done)
 have k8:H3.at' lr=some (uR false T.owners):=(o5 lr (by omega)).trans (by(repeat(first|assumption|refine(Tr.aa _ _ (by omega)).trans ?_));done)
 have hlow: ∀ n,n<nx→H3.at' n=H.at' n:=fun n hn=>(o5 n (by omega)).trans (by(repeat(refine(Tr.aa _ _ (by omega)).trans ?_));exact rfl)
 generalize hol':T.owners=L at *
 (repeat(first|refine ao ?_|refine ai ?_|refine ah ?_|refine aT ?_|refine aN ?_|refine ay rfl ?_|(apply am;exact rfl;exact rfl;exact rfl)|(apply aj;exact rfl;exact rfl;exact rfl)|(refine dD rfl rfl rfl rfl Try.underlying47 rfl ?_)))
 refine kp [(4,.ptr nx 0),(5,.ptr (nx+1) 0),(6,.ptr (nx+1+1) 0),(7,.ptr (nx+1+1+1) 0)] rfl rfl (by kernel_rfl) (SlIn.sub (by repeat(first|exact trivial|refine⟨rfl,?_⟩))) ?_
 intro cA cB hcA hcB
 refine Fnc.start Try.func40 rfl rfl ?_
 (repeat(first|refine ao ?_|refine ai ?_|refine ah ?_|refine aT ?_|(apply am;exact rfl;exact rfl;exact rfl)|refine aL rfl rfl rfl (F.ag _ rfl) (by(repeat(first|assumption|refine(Tr.aa _ _ (by omega)).trans ?_));done) (by exact rfl) ?_|(apply cr;exact rfl;exact rfl;exact rfl;exact(F.un _ rfl))))
 refine ch (α:=Nat) (fun q=> [(0,.yld (n3+1)),(5,.slu ro' 0 L.length),(6,.sc (.int .i64 (L.length:Int))),(7,.sc (.int .i64 (q:Int)))]) (fun q H5 n5=>q≤L.length∧n3+1+1≤n5∧H5.at' (nx+1+1+1)=some (aG 3 [.sc (.int .i64 (q:Int))])∧H5.at' (nx+1+1)=some (aG 4 [.sc (.bool false)])∧H5.at' n3=some (.dfd (some []))∧H5.at' (n3+1)=some (.loop .ready none 23 37 (slT [(4,.ptr nx 0),(5,.ptr (nx+1) 0),(6,.ptr (nx+1+1) 0),(7,.ptr (nx+1+1+1) 0)]) #[15] cA cB n3)∧ ∀ n,n<n3→n≠nx+1+1+1→n≠nx+1+1→H5.at' n=H3.at' n) (fun q=>L.length-q) 0 ⟨zQ _,zP _,by(focus((repeat(first|assumption|refine(Tr.aa _ _ (by omega)).trans ?_));done)),by(focus((repeat(first|assumption|refine(Tr.aa _ _ (by omega)).trans ?_));done)),by(focus((repeat(first|exact Tr.ae _ _ _|refine(Tr.aa _ _ (by omega)).trans ?_));done)),by(focus((repeat(exact Tr.ae _ _ _));done)),fun n hn hn2 hn4=>by(focus((repeat(refine(Tr.aa _ _ (by omega)).trans ?_));exact rfl))⟩ (SlIn.sub (by repeat(first|exact trivial|refine⟨rfl,?_⟩))) ?_
 rintro q H5 n5 ⟨e1,e2,e3,e4,e5,e6,e7⟩ ih
 have g4:=(e7 nx (by omega) (by omega) (by omega)).trans k4
 have g5:=(e7 (nx+1) (by omega) (by omega) (by omega)).trans k5
 have g8:=(e7 lr (by omega) (by omega) (by omega)).trans k8
 have go:=(e7 ro' (by omega) (by omega) (by omega)).trans o2
 (repeat(first|refine ao ?_|refine ai ?_))
 (apply cu;exact rfl;exact rfl;exact rfl;exact rfl)
 all_goals intro h4
 ·have hq:q<L.length:=by omega
  (repeat(first|refine ao ?_|refine ai ?_|refine ah ?_|refine aT ?_|refine aN ?_|refine aD rfl ?_|(apply am;exact rfl;exact rfl;exact rfl)|(apply aj;exact rfl;exact rfl;exact rfl)|refine c7 (q:=q) rfl rfl rfl rfl (F.un _ rfl) (F.sz _ rfl) (by assumption) (by omega) (by first|omega|(simp;done)) (zP _) ?_|refine fE rfl rfl rfl (F.ag _ rfl) (by assumption) (wv hq) (by first|omega|(simp;done)) ?_))
  refine sj (n:=n3+1) rfl rfl rfl rfl (by assumption) (by exact rfl) ?_
  refine pR hcA ?_
  (repeat(first|refine ai ?_|refine ah ?_|(apply aj;exact rfl;exact rfl;exact rfl)))
  refine sd (by assumption) ?_
  refine pR hcB ?_
  (repeat(first|refine ao ?_|refine ai ?_|refine aT ?_|refine aL rfl rfl rfl (F.ag _ rfl) (by(repeat(first|assumption|refine(Tr.aa _ _ (by omega)).trans ?_));done) (by exact rfl) ?_|(apply cr;exact rfl;exact rfl;exact rfl;exact(F.un _ rfl))))
  refine dQ rfl rfl rfl rfl (fun hq'=>absurd hq' (by omega)) (fun _=>?_)
  (repeat(first|(apply am;exact rfl;exact rfl;exact rfl)|refine aL rfl rfl rfl (F.ag _ rfl) (by(repeat(first|assumption|refine(Tr.aa _ _ (by omega)).trans ?_));done) (by exact rfl) ?_|refine c7 (q:=q) rfl rfl rfl rfl (F.un _ rfl) (F.sz _ rfl) (by(repeat(first|assumption|refine(Tr.aa _ _ (by omega)).trans ?_));done) (by omega) (by first|omega|(simp;done)) (zP _) ?_|refine fE rfl rfl rfl (F.ag _ rfl) (by(repeat(first|assumption|refine(Tr.aa _ _ (by omega)).trans ?_));done) (wv hq) (by first|omega|(simp;done)) ?_))
  refine jT rfl rfl rfl rfl (fun hq'=>absurd (by first|rfl|omega) hq') (fun _=>?_)
  (repeat(first|refine ao ?_|refine ai ?_|refine ah ?_|refine aN ?_|refine ay rfl ?_|(apply bO;exact rfl;exact rfl;exact rfl;exact rfl)|refine cI rfl rfl rfl rfl (F.sz _ rfl) (by first|exact rfl|(focus((repeat(first|assumption|refine(Tr.aa _ _ (by omega)).trans ?_));done))) rfl (by exact zB rfl) rfl ?_|refine aL rfl rfl rfl (F.ag _ rfl) (by(repeat(first|assumption|exact Tr.ae _ _ _|refine(Tr.aa _ _ (by omega)).trans ?_));done) (by exact rfl) ?_|(apply bT;exact rfl;exact rfl;exact rfl;exact rfl;(focus(omega));(focus(omega)))))
  (apply cF;exact rfl;exact rfl;exact rfl;exact rfl)
  all_goals intro h5
  ·(repeat(first|refine ao ?_|refine ai ?_|refine ah ?_|refine aD rfl ?_|refine cI rfl rfl rfl rfl (F.sz _ rfl) (by first|exact rfl|(focus((repeat(first|assumption|refine(Tr.aa _ _ (by omega)).trans ?_));done))) rfl (by exact zB rfl) rfl ?_))
   refine qX (by(repeat(first|exact Tr.ae _ _ _|refine(Tr.aa _ _ (by omega)).trans ?_));done) ?_
   dsimp only
   (repeat(first|refine ah ?_|refine aD rfl ?_|(apply i7;exact rfl;exact rfl;exact rfl)))
   first|apply lm Try.func40 (congrArg Array.toList Try.results40) ResIs.nil|apply bj Try.func40 (congrArg Array.toList Try.results40) ResIs.nil
   dsimp only
   refine jz (by(repeat(exact Tr.ae _ _ _));done) (fun h=>by cases h) ?_
   dsimp only [ma]
   refine r9 Try.func23 (congrArg Array.toList Try.results23) (rs:= [n3]) rfl (fun r hr=>by rw [List.mem_singleton] at hr;subst hr;(focus((repeat(first|assumption|refine(Tr.aa _ _ (by omega)).trans ?_));done))) (by simp) ?_
   intro H8 hH8
   have q8:H8.at' (nx+1+1)=some (aG 4 [.sc (.bool true)]):=(hH8 _ (by simp;omega)).trans (by(repeat(first|exact Tr.ae _ _ _|refine(Tr.aa _ _ (by omega)).trans ?_));done)
   refine⟨_,(by first|exact ResIs.cell rfl (LoadIs.one (F.ag _ rfl) q8 (az rfl))|exact ResIs.cell rfl (LoadIs.one (F.ag _ rfl) q8 (az rfl)) ResIs.nil),rfl,?_,fun n hn=>?_⟩
   ·show nx≤n5
    omega
   ·exact(hH8 n (by simp;omega)).trans (by(repeat(refine(Tr.aa _ _ (by omega)).trans ?_));exact(e7 n (by omega) (by omega) (by omega)).trans (hlow n hn))
  ·(repeat(first|refine ah ?_|refine aM ?_|refine aN ?_|refine ay rfl ?_))
   refine lE (by(repeat(first|exact Tr.ae _ _ _|refine(Tr.aa _ _ (by omega)).trans ?_));done) ?_
   dsimp only
   (repeat(first|refine ai ?_|refine ah ?_|refine aM ?_|refine aN ?_|refine ay rfl ?_|(apply am;exact rfl;exact rfl;exact rfl)|(apply bT;exact rfl;exact rfl;exact rfl;exact rfl;(focus(omega));(focus(omega)))|(apply i7;exact rfl;exact rfl;exact rfl)))
   refine ih _ _ _ (q+1) ⟨hq,by omega,by(focus((repeat(first|exact Tr.ae _ _ _|refine(Tr.aa _ _ (by omega)).trans ?_));done)),by(focus((repeat(first|assumption|refine(Tr.aa _ _ (by omega)).trans ?_));done)),by(focus((repeat(first|assumption|refine(Tr.aa _ _ (by omega)).trans ?_));done)),by(focus((repeat(exact Tr.ae _ _ _));done)),fun n hn hn2 hn4=>by(focus((repeat(refine(Tr.aa _ _ (by omega)).trans ?_));exact e7 n hn hn2 hn4))⟩ (by omega) (SlIn.sub (by repeat(first|exact trivial|refine⟨rfl,?_⟩)))
 ·clear ih
  have hqe:q=L.length:=by omega
  subst hqe
  (repeat(first|refine ao ?_|refine ah ?_|refine bA rfl ?_|refine ay rfl ?_))
  apply lm Try.func40 (congrArg Array.toList Try.results40) ResIs.nil
  dsimp only
  refine jz e6 (fun h=>by cases h) ?_
  (repeat(first|refine ao ?_|refine ai ?_|refine ah ?_|refine aM ?_|refine cI rfl rfl rfl rfl (F.sz _ rfl) (by first|exact rfl|(focus((repeat(first|assumption|refine(Tr.aa _ _ (by omega)).trans ?_));done))) rfl (by exact zB rfl) rfl ?_|refine aL rfl rfl rfl (F.ag _ rfl) (by(repeat(first|assumption|refine(Tr.aa _ _ (by omega)).trans ?_));done) (by exact rfl) ?_|(apply cr;exact rfl;exact rfl;exact rfl;exact(F.un _ rfl))|(refine cF rfl rfl rfl rfl (fun _=>?_) (fun hq=>absurd rfl hq))))
  refine r9 Try.func23 (congrArg Array.toList Try.results23) (rs:= [n3]) rfl (fun r hr=>by rw [List.mem_singleton] at hr;subst hr;(focus((repeat(first|assumption|refine(Tr.aa _ _ (by omega)).trans ?_));done))) (by simp) ?_
  intro H8 hH8
  have q8:H8.at' (nx+1+1)=some (aG 4 [.sc (.bool true)]):=(hH8 _ (by simp;omega)).trans (by(repeat(exact Tr.ae _ _ _));done)
  refine⟨_,(by first|exact ResIs.cell rfl (LoadIs.one (F.ag _ rfl) q8 (az rfl))|exact ResIs.cell rfl (LoadIs.one (F.ag _ rfl) q8 (az rfl)) ResIs.nil),rfl,?_,fun n hn=>?_⟩
  ·show nx≤n5
   omega
  ·exact(hH8 n (by simp;omega)).trans (by(repeat(refine(Tr.aa _ _ (by omega)).trans ?_));exact(e7 n (by omega) (by omega) (by omega)).trans (hlow n hn))
theorem tz{H:aV}{nx r1:Nat}{a1:Bool}{s:SV}(xs ys:List Nat)(h1:H.at' r1=some (uR a1 xs))(h2:uT H s ys)(hl:xs.length<2000000)(hl2:ys.length<2000000):Fnc Try.prog 27 [.slu r1 0 xs.length,s] H nx (fun q=>q=(.sc (.bool (decide (xs=ys))),H,nx)):=by
 refine Fnc.start Try.func27 rfl rfl ?_
 (repeat(first|refine ao ?_|refine ai ?_|refine ah ?_|(apply am;exact rfl;exact rfl;exact rfl)|(apply aj;exact rfl;exact rfl;exact rfl)|(apply cr;exact rfl;exact rfl;exact rfl;exact(F.un _ rfl))|(refine dC rfl rfl rfl (F.un _ rfl) h2 ?_)))
 (apply jT;exact rfl;exact rfl;exact rfl;exact rfl)
 all_goals intro h3
 ·(repeat(first|refine ao ?_|refine ai ?_|refine ah ?_|refine aD rfl ?_|(apply aj;exact rfl;exact rfl;exact rfl)))
  ((apply bj Try.func27 (congrArg Array.toList Try.results27));(focus(repeat(first|exact ResIs.nil|apply ResIs.tmp rfl))))
  rw [decide_eq_false (fun e=>h3 (by rw [e]))]
  rfl
 have hle:xs.length=ys.length:=by omega
 (repeat(first|refine ao ?_|refine ai ?_|refine ah ?_|refine aT ?_|refine aN ?_|refine ay rfl ?_|(apply aj;exact rfl;exact rfl;exact rfl)))
 refine ch (α:=Nat) (fun i=> [(0,.slu r1 0 xs.length),(1,s),(5,.sc (.int .i64 (i:Int)))]) (fun i H1 nx1=>H=H1∧nx=nx1∧i≤xs.length∧xs.take i=ys.take i) (fun i=>xs.length-i) 0 ⟨rfl,rfl,zQ _,rfl⟩ (SlIn.sub ⟨rfl,rfl,rfl,trivial⟩) ?_
 rintro i H1 nx1 ⟨rfl,rfl,hi,heq⟩ again
 (repeat(first|refine ao ?_|refine ai ?_|(apply am;exact rfl;exact rfl;exact rfl)|(apply cr;exact rfl;exact rfl;exact rfl;exact(F.un _ rfl))))
 (apply cu;exact rfl;exact rfl;exact rfl;exact rfl)
 all_goals intro h4
 ·have hx:i<xs.length:=by omega
  have hy:i<ys.length:=by omega
  obtain⟨_,⟨h0,_⟩|⟨r,eo,ne,rl,hs,hb,hc,he,hrl⟩⟩:=h2
  ·omega
  have hcell:rl[eo+i]? =some (.sc (.int .u64 (ys[i]:Int))):=by
   have:=congrArg (·[i]?) hc
   simp only [List.getElem?_take,List.getElem?_drop] at this
   rw [if_pos (by omega),List.getElem?_map,zz hy] at this
   simpa using this
  (repeat(first|refine ao ?_|refine ah ?_|refine aT ?_|refine aN ?_|refine aD rfl ?_))
  rcases hs with rfl|⟨C,hC,rfl⟩
  ·(apply dJ;(focus(kernel_rfl));(focus(kernel_rfl)))
   (repeat(first|(apply aX;exact rfl;exact rfl;exact rfl)|refine bb (q:=i) rfl rfl rfl rfl (F.un _ rfl) (F.sz _ rfl) (by assumption) (by omega) (by first|omega|(simp;done)) (zP _) ?_|refine fC rfl rfl rfl (F.ag _ rfl) (by assumption) (wv hx) (by first|omega|(simp;done)) ?_|(apply bv;exact rfl;exact rfl;exact(fun _ h=>by cases h);exact(mn (F.un _ rfl) (F.sz _ rfl) rfl rfl hb (by omega) (by omega) he))|(apply bv;exact rfl;exact rfl;exact(fun _ h=>by cases h);exact(aw (F.ag _ rfl) rfl hb (br (by simpa using hcell) (by omega))))))
   (apply jK;exact rfl;exact rfl;exact rfl;exact rfl)
   all_goals intro h5
   ·(refine be ?_);(refine⟨by kernel_rfl,?_,?_⟩);(focus(repeat(first|exact trivial|refine⟨.inr ⟨0,by kernel_rfl,AllH.all (fun _=>(by first|exact aY rfl|exact ax rfl|exact aq (F.fo _ _ rfl rfl) rfl|exact aP (F.un _ rfl) rfl|exact aE rfl rfl|exact aH rfl|exact aU rfl (F.ze _ rfl) (F.pl _ rfl) rfl|exact bq rfl|exact aI (F.un _ rfl) rfl|exact aQ rfl rfl|exact aR rfl rfl|exact bi rfl rfl (.inr (.inr (.inr (.inr (.inl ⟨rfl,rfl⟩)))))|exact an rfl rfl (.inl ⟨rfl,(zx _ ⟨by omega,by omega⟩).symm⟩)|exact an rfl rfl (.inr (.inl ⟨rfl,(zx _ ⟨by omega,by omega⟩).symm⟩)))) _⟩,?_⟩|refine⟨.inl (by kernel_rfl),?_⟩)))
    dsimp only
    (repeat(first|refine ao ?_|refine ai ?_|refine ah ?_|refine aD rfl ?_|(apply aj;exact rfl;exact rfl;exact rfl)))
    ((apply bj Try.func27 (congrArg Array.toList Try.results27));(focus(repeat(first|exact ResIs.nil|apply ResIs.tmp rfl))))
    rw [decide_eq_false (fun e=>h5 (by subst e;rfl))]
    rfl
   ·(refine be ?_);(refine⟨by kernel_rfl,?_,?_⟩);(focus(repeat(first|exact trivial|refine⟨.inr ⟨0,by kernel_rfl,AllH.all (fun _=>(by first|exact aY rfl|exact ax rfl|exact aq (F.fo _ _ rfl rfl) rfl|exact aP (F.un _ rfl) rfl|exact aE rfl rfl|exact aH rfl|exact aU rfl (F.ze _ rfl) (F.pl _ rfl) rfl|exact bq rfl|exact aI (F.un _ rfl) rfl|exact aQ rfl rfl|exact aR rfl rfl|exact bi rfl rfl (.inr (.inr (.inr (.inr (.inl ⟨rfl,rfl⟩)))))|exact an rfl rfl (.inl ⟨rfl,(zx _ ⟨by omega,by omega⟩).symm⟩)|exact an rfl rfl (.inr (.inl ⟨rfl,(zx _ ⟨by omega,by omega⟩).symm⟩)))) _⟩,?_⟩|refine⟨.inl (by kernel_rfl),?_⟩)))
    dsimp only
    (repeat(first|refine ai ?_|refine ah ?_|refine aM ?_|refine aN ?_|refine ay rfl ?_|(apply am;exact rfl;exact rfl;exact rfl)|(apply aj;exact rfl;exact rfl;exact rfl)|(apply bT;exact rfl;exact rfl;exact rfl;exact rfl;(focus(omega));(focus(omega)))))
    refine again _ _ _ (i+1) ⟨rfl,rfl,hx,i8 hx hy heq (by omega)⟩ (by omega) (SlIn.sub (by repeat(first|exact trivial|refine⟨rfl,?_⟩)))
  ·(apply dJ;(focus(kernel_rfl));(focus(kernel_rfl)))
   (repeat(first|(apply aX;exact rfl;exact rfl;exact rfl)|refine bb (q:=i) rfl rfl rfl rfl (F.un _ rfl) (F.sz _ rfl) (by assumption) (by omega) (by first|omega|(simp;done)) (zP _) ?_|refine fC rfl rfl rfl (F.ag _ rfl) (by assumption) (wv hx) (by first|omega|(simp;done)) ?_|(apply bv;exact rfl;exact rfl;exact(fun _ h=>by cases h);exact(cP (q:=i) (F.un _ rfl) (F.sz _ rfl) rfl rfl hy))|(apply bv;exact rfl;exact rfl;exact(fun _ h=>by cases h);exact(aw (F.ag _ rfl) rfl hb (br (by simpa using hcell) (by omega))))))
   (apply jK;exact rfl;exact rfl;exact rfl;exact rfl)
   all_goals intro h5
   ·(refine be ?_);(refine⟨by kernel_rfl,?_,?_⟩);(focus(repeat(first|exact trivial|refine⟨.inr ⟨0,by kernel_rfl,AllH.all (fun _=>(by first|exact aY rfl|exact ax rfl|exact aq (F.fo _ _ rfl rfl) rfl|exact aP (F.un _ rfl) rfl|exact aE rfl rfl|exact aH rfl|exact aU rfl (F.ze _ rfl) (F.pl _ rfl) rfl|exact bq rfl|exact aI (F.un _ rfl) rfl|exact aQ rfl rfl|exact aR rfl rfl|exact bi rfl rfl (.inr (.inr (.inr (.inr (.inl ⟨rfl,rfl⟩)))))|exact an rfl rfl (.inl ⟨rfl,(zx _ ⟨by omega,by omega⟩).symm⟩)|exact an rfl rfl (.inr (.inl ⟨rfl,(zx _ ⟨by omega,by omega⟩).symm⟩)))) _⟩,?_⟩|refine⟨.inl (by kernel_rfl),?_⟩)))
    dsimp only
    (repeat(first|refine ao ?_|refine ai ?_|refine ah ?_|refine aD rfl ?_|(apply aj;exact rfl;exact rfl;exact rfl)))
    ((apply bj Try.func27 (congrArg Array.toList Try.results27));(focus(repeat(first|exact ResIs.nil|apply ResIs.tmp rfl))))
    rw [decide_eq_false (fun e=>h5 (by subst e;rfl))]
    rfl
   ·(refine be ?_);(refine⟨by kernel_rfl,?_,?_⟩);(focus(repeat(first|exact trivial|refine⟨.inr ⟨0,by kernel_rfl,AllH.all (fun _=>(by first|exact aY rfl|exact ax rfl|exact aq (F.fo _ _ rfl rfl) rfl|exact aP (F.un _ rfl) rfl|exact aE rfl rfl|exact aH rfl|exact aU rfl (F.ze _ rfl) (F.pl _ rfl) rfl|exact bq rfl|exact aI (F.un _ rfl) rfl|exact aQ rfl rfl|exact aR rfl rfl|exact bi rfl rfl (.inr (.inr (.inr (.inr (.inl ⟨rfl,rfl⟩)))))|exact an rfl rfl (.inl ⟨rfl,(zx _ ⟨by omega,by omega⟩).symm⟩)|exact an rfl rfl (.inr (.inl ⟨rfl,(zx _ ⟨by omega,by omega⟩).symm⟩)))) _⟩,?_⟩|refine⟨.inl (by kernel_rfl),?_⟩)))
    dsimp only
    (repeat(first|refine ai ?_|refine ah ?_|refine aM ?_|refine aN ?_|refine ay rfl ?_|(apply am;exact rfl;exact rfl;exact rfl)|(apply aj;exact rfl;exact rfl;exact rfl)|(apply bT;exact rfl;exact rfl;exact rfl;exact rfl;(focus(omega));(focus(omega)))))
    refine again _ _ _ (i+1) ⟨rfl,rfl,hx,i8 hx hy heq (by omega)⟩ (by omega) (SlIn.sub (by repeat(first|exact trivial|refine⟨rfl,?_⟩)))
 ·(repeat(first|refine ao ?_|refine ai ?_|refine ah ?_|refine bA rfl ?_|refine ay rfl ?_|(apply aj;exact rfl;exact rfl;exact rfl)))
  ((apply bj Try.func27 (congrArg Array.toList Try.results27));(focus(repeat(first|exact ResIs.nil|apply ResIs.tmp rfl))))
  rw [zH (by omega),zH (by omega)] at heq
  rw [decide_eq_true heq]
  rfl
end Go.Proofs.Ytckajlllkmkniaa
end
section
namespace Go.Sy
open Go Go.Sl Go.RowKit
section
variable {P:Program}
theorem ki{e e1 e2:Env}(h1:e.le e1)(h2:e.le e2){s:SV}{v0 v:Value}(h:s.conc e=some v0)(h':s.conc e1=some v):s.conc e2=some v:=by
 have:=SV.bW h1 s v0 h
 rw [h'] at this
 cases this
 exact SV.bW h2 s _ h
theorem uA{e e1 e2:Env}(h1:e.le e1)(h2:e.le e2){s:List SV}{v0 v:List Value}(h:SV.ba e s=some v0)(h':SV.ba e1 s=some v):SV.ba e2 s=some v:=by
 have:=SV.bZ h1 s v0 h
 rw [h'] at this
 cases this
 exact SV.bZ h2 s _ h
theorem qP{e e1 e2:Env}(h1:e.le e1)(h2:e.le e2): ∀ {l:List (Value×SV×Nat)} {m0 m:List MapEntry},MRel e l m0→MRel e1 l m→MRel e2 l m
 | [],[],[],_,_=>trivial
 | (_,_,_) :: _,_ :: _,_ :: _,hd0,hd=>⟨hd.1,hd.2.1,ki h1 h2 hd0.2.2.1 hd.2.2.1,qP h1 h2 hd0.2.2.2 hd.2.2.2⟩
 | [],_ :: _,_,hd,_=>hd.elim
 | [],_,_ :: _,_,hd=>hd.elim
 | _ :: _,[],_,hd,_=>by simp [MRel] at hd
 | _ :: _,_,[],_,hd=>by simp [MRel] at hd
theorem wD{e e1 e2:Env}(h1:e.le e1)(h2:e.le e2){a:ADf}{d0 d:Deferred}(hd0:DRel e a d0)(hd:DRel e1 a d):DRel e2 a d:=by
 cases a with
 | call f args=>
   obtain⟨x0,cap0,_,hl0⟩:=hd0
   obtain⟨x,cap,rfl,hl⟩:=hd
   exact⟨x,cap,rfl,uA h1 h2 hl0 hl⟩
 | taken r=>
   obtain⟨x0,hx0,_⟩:=hd0
   obtain⟨x,hx,rfl⟩:=hd
   have:=h1 _ _ hx0
   rw [hx] at this
   cases this
   exact⟨_,h2 _ _ hx0,rfl⟩
theorem oR{e e1 e2:Env}(h1:e.le e1)(h2:e.le e2): ∀ {l:List ADf} {m0 m:List Deferred},DsRel e l m0→DsRel e1 l m→DsRel e2 l m
 | [],[],[],_,_=>trivial
 | _ :: _,_ :: _,_ :: _,hd0,hd=>⟨wD h1 h2 hd0.1 hd.1,oR h1 h2 hd0.2 hd.2⟩
 | [],_ :: _,_,hd,_=>hd.elim
 | [],_,_ :: _,_,hd=>hd.elim
 | _ :: _,[],_,hd,_=>hd.elim
 | _ :: _,_,[],_,hd=>hd.elim
theorem wx{e e1 e2:Env}(h1:e.le e1)(h2:e.le e2){nt:Nat}{T:Tr SV}{t0 t:Array Value}(hd0:TRel e nt T t0)(hd:TRel e1 nt T t):TRel e2 nt T t:=by
 refine⟨hd.1,fun i s hs=>?_⟩
 obtain⟨v0,a1,_⟩:=hd0.2 i s hs
 obtain⟨v,b1,b2⟩:=hd.2 i s hs
 exact⟨v,ki h1 h2 a1 b1,b2⟩
theorem wz{e e1 e2:Env}(h1:e.le e1)(h2:e.le e2){vo:VO}{x:Ent}{o0 o:Obj}(h0:ORel e vo x o0)(ho:ORel e1 vo x o):ORel e2 vo x o:=by
 cases vo with
 | cells n t c=>
   obtain⟨_,cs0,fz0,_,_,_,g4⟩:=h0
   obtain⟨q0,cs,fz,q1,q2,q3,q4⟩:=ho
   refine⟨q0,cs,fz,q1,q2,q3,fun i hi s hs=>?_⟩
   obtain⟨v0,a1,_⟩:=g4 i hi s hs
   obtain⟨v,b1,b2⟩:=q4 i hi s hs
   exact⟨v,ki h1 h2 a1 b1,b2⟩
 | row ro ne sz t c=>
   obtain⟨_,cs0,fz0,t0,_,_,_,_,_,_,g7⟩:=h0
   obtain⟨q0,cs,fz,tt,q1,q2,q3,q4,q5,q6,q7⟩:=ho
   refine⟨q0,cs,fz,tt,q1,q2,q3,q4,q5,q6,fun i hi s hs=>?_⟩
   obtain⟨v0,a1,_⟩:=g7 i hi s hs
   obtain⟨v,b1,b2⟩:=q7 i hi s hs
   exact⟨v,ki h1 h2 a1 b1,b2⟩
 | map l clock=>
   obtain⟨es0,_,g2⟩:=h0
   obtain⟨es,q1,q2⟩:=ho
   exact⟨es,q1,qP h1 h2 g2 q2⟩
 | iter m since seen stepped=>
   cases m with
   | none=>exact ho
   | some m=>
     obtain⟨_,y0,g1,_⟩:=h0
     obtain⟨q0,y,q1,q2⟩:=ho
     have:=h1 _ _ g1
     rw [q1] at this
     cases this
     exact⟨q0,_,h2 _ _ g1,q2⟩
 | siter s pos=>exact ho
 | loop st pend fn nt T params assign body dr=>
   obtain⟨tm0,y0,g1,g2,_⟩:=h0
   obtain⟨tm,y,q1,q2,q3⟩:=ho
   have:=h1 _ _ g1
   rw [q1] at this
   cases this
   exact⟨tm,_,h2 _ _ g1,wx h1 h2 g2 q2,q3⟩
 | dfd l=>
   cases l with
   | none=>exact ho
   | some l=>
     obtain⟨ds0,_,g2⟩:=h0
     obtain⟨ds,q1,q2⟩:=ho
     exact⟨ds,q1,oR h1 h2 g2 q2⟩
theorem qR{K:Zone}{w0 w:World}{e e1 e2:Env}(h1:e.le e1)(h2:e.le e2){vo:VO}{x:Ent}(h0:Lies K w0 e vo x)(ho:Lies K w e1 vo x):Lies K w e2 vo x:=by
 rcases ho with ⟨a0,o,a1,a2,a3⟩|a
 ·rcases h0 with ⟨_,o0,_,_,b3⟩|⟨b,_⟩
  ·exact .inl ⟨a0,o,a1,a2,wz h1 h2 b3 a3⟩
  ·rw [a0] at b;cases b
 ·exact .inr a
theorem wB{K:Zone}{w:World}{e e':Env}{rr:Bool}{ne sz:Nat}{t:TypeId}{vs:List Value}{x:Ent}(h:Lies K w e (dat rr ne sz t vs) x):Lies K w e' (dat rr ne sz t vs) x:=by
 rcases h with ⟨a0,o,a1,a2,a3⟩|a
 ·obtain⟨q0,cs,fz,tt,q1,q2,q3,q4,q5,q6,q7⟩:=a3
  refine .inl ⟨a0,o,a1,a2,q0,cs,fz,tt,q1,q2,q3,q4,q5,q6,fun i hi s hs=>?_⟩
  obtain⟨v,b1,b2⟩:=q7 i hi s hs
  refine⟨v,?_,b2⟩
  simp only [Tr.at',zF] at hs
  obtain⟨u,_,rfl⟩:=hs
  exact b1
 ·exact .inr a
theorem St.next{K:Zone}{w0 w w1:World}{e e1:Env}{H H1:aV}{nx nx1 r:Nat}{rr:Bool}{ne sz:Nat}{t:TypeId}{vs:List Value}(hS:St K w0 e H nx w)(hle:e.le e1)(hS1:St K w0 e1 H1 nx1 w1)(hr:H1.at' r=some (dat rr ne sz t vs))(h1:nx≤r)(hk: ∀ m,m<nx→H1.at' m=H.at' m) :
 ∃ e2,e.le e2∧St K w0 e2 (H.set nx (dat rr ne sz t vs)) (nx+1) w1∧e2 nx=e1 r:=by
 have hbelow: ∀ m x,e m=some x→m<nx:=fun m x hx=>by
  rcases Nat.lt_or_ge m nx with q|q
  ·exact q
  ·rw [hS.fresh m q] at hx;cases hx
 have hle2:e.le (fun m=>if m<nx then e1 m else if m=nx then e1 r else none):=fun m x hx=>by
  have:=hbelow m x hx
  simp only [if_pos this]
  exact hle m x hx
 obtain⟨xr,hxr,hlr⟩:=hS1.rel r _ hr
 have hget: ∀ m vo,(H.set nx (dat rr ne sz t vs)).at' m=some vo→(m=nx∧vo=dat rr ne sz t vs)∨(m<nx∧H.at' m=some vo):=fun m vo h=>by
  rcases Tr.bM h with ⟨q1,q2⟩|⟨q1,q2⟩
  ·exact .inl ⟨q1,q2⟩
  ·obtain⟨x,hx,_⟩:=hS.rel m vo q2
   exact .inr ⟨hbelow m x hx,q2⟩
 refine⟨fun m=>if m<nx then e1 m else if m=nx then e1 r else none,hle2,⟨hS1.below,fun m vo h=>?_,fun m m' vo vo' x x' g g' gx gx' gne gn gn' gro gro'=>?_,fun i hi=>?_⟩,?_⟩
 ·rcases hget m vo h with ⟨rfl,rfl⟩|⟨q1,q2⟩
  ·refine⟨xr,?_,wB hlr⟩
   simp [hxr]
  ·obtain⟨x0,hx0,hl0⟩:=hS.rel m vo q2
   obtain⟨x,hx,hl⟩:=hS1.rel m vo ((hk m q1).trans q2)
   have:=hle m x0 hx0
   rw [hx] at this
   cases this
   refine⟨_,?_,qR hle hle2 hl0 hl⟩
   simp only [if_pos q1]
   exact hx
 ·change (if m<nx then e1 m else if m=nx then e1 r else none)=some x at gx
  change (if m'<nx then e1 m' else if m'=nx then e1 r else none)=some x' at gx'
  rcases hget m vo g with ⟨rfl,rfl⟩|⟨q1,q2⟩
  ·rcases hget m' vo' g' with ⟨rfl,rfl⟩|⟨p1,p2⟩
   ·exact absurd rfl gne
   ·simp only [Nat.lt_irrefl,if_false,if_true] at gx
    simp only [if_pos p1] at gx'
    exact hS1.inj r m' _ vo' x x' hr ((hk m' p1).trans p2) gx gx' (by omega) gn gn' gro gro'
  ·rw [if_pos q1] at gx
   rcases hget m' vo' g' with ⟨rfl,rfl⟩|⟨p1,p2⟩
   ·rw [if_neg (Nat.lt_irrefl _),if_pos rfl] at gx'
    exact hS1.inj m r vo _ x x' ((hk m q1).trans q2) hr gx gx' (by omega) gn gn' gro gro'
   ·rw [if_pos p1] at gx'
    exact hS1.inj m m' vo vo' x x' ((hk m q1).trans q2) ((hk m' p1).trans p2) gx gx' gne gn gn' gro gro'
 ·show(if i<nx then e1 i else if i=nx then e1 r else none)=none
  rw [if_neg (by omega),if_neg (by omega)]
 ·simp
theorem Fnc.next{f:FuncId}{args:List SV}{H:aV}{nx m:Nat}{rr:Bool}{ne sz:Nat}{t:TypeId}{vs:List Value}(h:Fnc P f args H nx (fun q=> ∃ r',q.1 = .slu r' 0 m∧q.2.1.at' r'=some (dat rr ne sz t vs)∧nx≤r'∧r'<q.2.2∧nx≤q.2.2∧ ∀ n,n<nx→q.2.1.at' n=H.at' n)):Fnc P f args H nx (fun q=>q=(.slu nx 0 m,H.set nx (dat rr ne sz t vs),nx+1)):=by
 have hv: ∀ {e1 e2:Env} {r:Nat} {v:Value},e2 nx=e1 r→(SV.slu r 0 m).conc e1=some v→(SV.slu nx 0 m).conc e2=some v:=fun h1 h2=>by
  simpa [SV.conc,h1] using h2
 unfold Fnc iB at h ⊢
 rcases h with ⟨h1,v,r,h2,⟨r',q1,q2,q3,q4,q5,q6⟩,h4⟩|h
 ·refine .inl ⟨h1,v,_,h2,rfl,fun K w0 e w hS=>?_⟩
  obtain⟨e',g1,g2,g3⟩:=h4 K w0 e w hS
  obtain⟨e2,k1,k2,k3⟩:=hS.next g1 g2 q2 q3 q6
  rw [q1] at g3
  exact⟨e2,k1,k2,hv k3 g3⟩
 ·refine .inr ?_
  split at h
  ·refine⟨fun K w0 e w tmps todo ds kd rof cs hS a2 a3 a4 a5=>?_⟩
   obtain⟨r,⟨r',q1,q2,q3,q4,q5,q6⟩,e',w',v,g1,g2,g3,g4⟩:=Wp.run h K w0 e w tmps todo ds kd rof cs hS a2 a3 a4 a5
   obtain⟨e2,k1,k2,k3⟩:=hS.next g1 g2 q2 q3 q6
   rw [q1] at g3
   exact⟨_,rfl,e2,w',v,k1,k2,hv k3 g3,g4⟩
  ·exact h.elim
end
theorem xw{P:Program}{t:TypeId}{a b:Bool}{w:World}(hu:P.underlying t=some .bool):(Op.equal t (.bool a) (.bool b)).run P w = .ok (a == b) w:=by
 unfold Op.equal
 rw [show Op.maxDepth=Nat.succ (Op.maxDepth-1)from rfl]
 unfold Op.equalIn
 simp [run_underlying hu,Sem.run_bind,Result.andThen]
theorem sO{P:Program}{T:Tr SV}{H:aV}{d:Option Tmp}{ty:TypeId}{pos:String}{af:Array Edge}{gd:Option (Nat×Bool)}{t yt:TypeId}{x y:Operand}{a:Bool}(hu:P.underlying t=some .bool)(hx:ar T x=some (.sc (.bool a)))(hy:ar T y=some (.sc (.bool a))):ReadDoes P T H ⟨d,.binOp .neq t x y yt,ty,pos,af,gd⟩ (.sc (.bool false)):=by
 refine c9 fun ev w he=>?_
 have e1:=he x _ hx _ rfl
 have e2:=he y _ hy _ rfl
 simp only [execOp,e1,e2,eqGuard,binOp]
 simp [xw hu,Sem.run_bind,Result.andThen]
end Go.Sy
namespace Go.Proofs.Ytckajlllkmkniaa
open Go Go.Sy Go.Sl Go.RowKit
theorem mU(a:ByteArray):(a != a)=false:=by
 rw [show(a != a) = !(a == a)from rfl,beq_toListBytes]
 simp
theorem xz(l:List ByteArray):eU false l.length 1 9 (l.map fun s:ByteArray=>SV.sc (.string s))=sR false l:=by
 have:(l.flatMap sV).map SV.sc=l.map fun s:ByteArray=>SV.sc (.string s):=by
  induction l with|nil=>rfl|cons x l ih=>rw [List.flatMap_cons,zU,ih];rfl
 rw [← this]
 exact ff false l.length 1 9 (l.flatMap sV)
theorem xX{t t2 r2:Nat}{T:LT}{W:RT}{Fp Fw:Nat→Prop}{H:aV}{nx:Nat}(hT:TabAt t T Fp H)(hW:WAt t2 r2 W Fw H)(hFw: ∀ n,Fw n→n<nx)(o:Nat)(k:ByteArray)(most:Int)
 (e1:T.waits o=(cK W o).1) (e1':(T.waits o != ⟨#[]⟩)=(cK W o).2) (e2:T.has k=(ru W k).1) (e2':T.line k=(ru W k).2) (e3:T.keys o=dt W o) (e4:T.locks.length=W.length) (e5:T.owners=gh W) (hl:T.parties.length<60000) (hkl:(T.keys o).length<1000000) (hll':(T.line k).length<1000000) (hA:(gI W).length<390000) :
 Fnc Try.prog 28 [.ptr t 0,.ptr t2 0,.sc (.int .u64 (o:Int)),.sc (.string k),.sc (.int .i64 most)] H nx (fun q=>q.1 = .sc (.bool true)∧nx≤q.2.2∧ ∀ n,n<nx→q.2.1.at' n=H.at' n):=by
 have hl2:W.length<1000000:=Nat.lt_of_le_of_lt eG (by omega)
 have hll: ∀ x∈W,x.2.2.length<1000000:=fun x hx=>Nat.lt_trans (fy hx) (by omega)
 refine Fnc.start Try.func28 rfl rfl ?_
 refine b4 fun hund=>?_
 have hFl:=hT.lt hund
 have c1:=xh (nx:=nx) hT o
 rw [e1',e1] at c1
 have c2:=mc (nx:=nx) hW o hl2 hll
 have c3:=zc (nx:=nx) hW k hl2
 (repeat(first|refine ao ?_|refine ai ?_|refine ah ?_|(apply am;exact rfl;exact rfl;exact rfl)|(apply aj;exact rfl;exact rfl;exact rfl)|(apply bX;exact rfl;exact rfl;exact rfl;exact rfl)|(refine bn rfl rfl rfl (by kernel_rfl) (Fnc.mono (c1) ?_);rintro _ rfl;dsimp only)))
 refine bn rfl rfl rfl (by kernel_rfl) (Fnc.mono c2 ?_)
 rintro _ rfl
 dsimp only
 (repeat(first|refine ao ?_|refine ai ?_|refine ah ?_|(apply am;exact rfl;exact rfl;exact rfl)|(apply aj;exact rfl;exact rfl;exact rfl)|(apply bX;exact rfl;exact rfl;exact rfl;exact rfl)))
 refine bn rfl rfl rfl (by kernel_rfl) (Fnc.mono c3 ?_)
 rintro _ ⟨sl,rfl,hsl⟩
 dsimp only
 (repeat(first|refine ao ?_|refine ai ?_|refine ah ?_|(apply am;exact rfl;exact rfl;exact rfl)|(apply aj;exact rfl;exact rfl;exact rfl)|(apply bX;exact rfl;exact rfl;exact rfl;exact rfl)))
 refine bn rfl rfl rfl (by kernel_rfl) (Fnc.mono (Fnc.next (tU hT o (by omega))) ?_)
 rintro _ rfl
 dsimp only
 (repeat(apply am;exact rfl;exact rfl;exact rfl))
 refine bn rfl rfl rfl (by kernel_rfl) (Fnc.mono (Fnc.next (zb (hT.frame fun n hn=>Tr.aa _ _ (by have:=hFl n hn;omega)) k (by omega))) ?_)
 rintro _ rfl
 dsimp only
 (repeat(first|refine ao ?_|refine ah ?_|(apply aj;exact rfl;exact rfl;exact rfl)))
 have hbase: ∀ n,n<nx→((H.set nx (sR false (T.keys o))).set (nx+1) (uR false (T.line k))).at' n=H.at' n:=fun n hn=>(Tr.aa _ _ (by omega)).trans (Tr.aa _ _ (by omega))
 refine fK (R:=fun H3 n3=>n3=nx+1+1∧H3.at' nx=some (sR false (T.keys o))∧H3.at' (nx+1)=some (uR false (T.line k))∧ ∀ n,n<nx→H3.at' n=H.at' n) ⟨rfl,by(focus((repeat(first|exact Tr.ae _ _ _|refine(Tr.aa _ _ (by omega)).trans ?_));done)),by(focus((repeat(exact Tr.ae _ _ _));done)),hbase⟩ ?_
 rintro H3 _ ⟨rfl,b1,b2,hlow⟩
 clear hbase
 have hT3: ∀ H',(∀ n,n<nx→H'.at' n=H.at' n)→TabAt t T Fp H':=fun H' h=>hT.frame fun n hn=>h n (hFl n hn)
 have numT: ∀ H' nx',H'.at' (nx+1)=some (uR false (T.line k))→uT H' sl (ru W k).2→Fnc Try.prog 27 [.slu (nx+1) 0 (T.line k).length,sl] H' nx' (fun q=>q=(.sc (.bool true),H',nx')):=fun H' nx' h1 h2=>by
  have:=tz (nx:=nx') (T.line k) (ru W k).2 h1 h2 (by omega) (by rw [← e2'];omega)
  rw [decide_eq_true e2'] at this
  exact this
 have txtT: ∀ H' nx' r,H'.at' nx=some (sR false (T.keys o))→H'.at' r=some (sR false (dt W o))→Fnc Try.prog 17 [.slu nx 0 (T.keys o).length,.slu r 0 (dt W o).length] H' nx' (fun q=>q=(.sc (.bool true),H',nx')):=fun H' nx' r h1 h2=>by
  have:=sx (nx:=nx') (T.keys o) (dt W o) h1 h2 (by omega) (by rw [← e3];omega)
  rw [decide_eq_true e3] at this
  exact this
 have hnm: ∀ b,nmS sl=some b→b<nx:=fun b hb=>by
  obtain⟨_,⟨_,rfl|⟨b',_,_,vo,rfl,hb'⟩⟩|⟨r,_,_,_,rfl|⟨_,_,rfl⟩,hb',_⟩⟩:=hsl
  ·cases hb
  ·cases hb;exact hund _ _ hb'
  ·cases hb;exact hund _ _ hb'
  ·cases hb;exact hund _ _ hb'
 obtain⟨s2,V,hV,rfl⟩:=hW
 have hV3:=hV.frame fun n hn=>hlow n (hFw n hn)
 have ht2:=hFw t2 hV.own
 have hbox3:=hV3.box
 have hslW:=fun(H':aV) (h: ∀ n,Fw n→H'.at' n=H.at' n)=>(hV.frame h).sl
 rw [List.length_map] at e4 hl2
 (apply dJ;(focus(kernel_rfl));(focus(kernel_rfl)))
 (repeat(first|(apply aX;exact rfl;exact rfl;exact rfl)|(apply cW;exact rfl;exact rfl;exact rfl;exact rfl)|(apply bD;exact rfl;exact rfl;exact rfl)|(apply bu;exact rfl;exact rfl;exact rfl;exact(F.fo _ _ rfl rfl))|(apply io;exact rfl;exact rfl;exact rfl;exact(F.un _ rfl))|(apply eu;exact rfl;exact rfl;exact rfl)|refine bK rfl rfl rfl (F.ag _ rfl) (by(repeat(first|assumption|refine(Tr.aa _ _ (by omega)).trans ?_));done) (by exact rfl) ?_|((apply kX;exact rfl;exact rfl;exact rfl;exact rfl;exact(mU _)))|(apply bv;exact rfl;exact rfl;exact(fun _ h=>by cases h);exact(sO (F.un _ rfl) rfl rfl))|(refine b5 rfl rfl rfl (by kernel_rfl) (has_t (hT3 _ (fun n hn=>by(focus(skip;exact hlow n hn)))) k) ?_)|(refine b5 rfl rfl rfl (by kernel_rfl) (numT _ _ (by assumption) (SlOf.frame hsl fun b hb=>by have:=hnm b hb;(focus(skip;exact hlow b (by omega))))) ?_)|(refine b5 rfl rfl rfl (by kernel_rfl) (Fnc.next (tV (nx:=nx+1+1) ⟨s2,V,hV.frame fun n hn=>(by have:=hFw n hn;(focus(skip;exact hlow n (by omega)))),rfl⟩ (fun n hn=>by have:=hFw n hn;omega) o (by rw [List.length_map];omega))) ?_)|(refine b5 rfl rfl rfl (by kernel_rfl) (txtT _ _ _ (by(repeat(first|assumption|refine(Tr.aa _ _ (by omega)).trans ?_));done) (by(repeat(exact Tr.ae _ _ _));done)) ?_)|(refine b5 rfl rfl rfl (by kernel_rfl) (tN (hT3 _ (fun n hn=>by(focus((repeat(refine(Tr.aa _ _ (by omega)).trans ?_));exact hlow n hn)))) o) ?_)|(refine b5 rfl rfl rfl (by kernel_rfl) (len_t (hT3 _ (fun n hn=>by(focus((repeat(refine(Tr.aa _ _ (by omega)).trans ?_));exact hlow n hn))))) ?_)|(refine jK rfl rfl rfl rfl (fun hq=>absurd (by omega) hq) (fun _=>?_))|refine bv rfl rfl (fun _ h=>by cases h) (e9 (F.un _ rfl) rfl (hslW _ (fun n hn=>by have:=hFw n hn;(focus((repeat(refine(Tr.aa _ _ (by omega)).trans ?_));exact hlow n (by omega)))))) ?_))
 (refine be ?_);(refine⟨by kernel_rfl,?_,?_⟩);(focus(repeat(first|exact trivial|refine⟨.inl (ck rfl),?_⟩|refine⟨.inr ⟨0,by kernel_rfl,AllH.all (fun _=>(by first|exact aY rfl|exact ax rfl|exact aq (F.fo _ _ rfl rfl) rfl|exact aP (F.un _ rfl) rfl|exact aE rfl rfl|exact aH rfl|exact aU rfl (F.ze _ rfl) (F.pl _ rfl) rfl|exact bq rfl|exact aI (F.un _ rfl) rfl|exact aQ rfl rfl|exact aR rfl rfl|exact bi rfl rfl (.inr (.inr (.inr (.inr (.inl ⟨rfl,rfl⟩)))))|exact an rfl rfl (.inl ⟨rfl,(zx _ ⟨by omega,by omega⟩).symm⟩)|exact an rfl rfl (.inr (.inl ⟨rfl,(zx _ ⟨by omega,by omega⟩).symm⟩)))) _⟩,?_⟩|refine⟨.inr ⟨0,by kernel_rfl,(by(refine⟨(by first|exact aw (F.ag _ rfl) rfl (by(repeat(first|assumption|refine(Tr.aa _ _ (by omega)).trans ?_));done) (az rfl)|exact aC (F.ag _ rfl) rfl (by assumption) (ak _ 0 rfl rfl)|exact aU rfl (F.ze _ rfl) (F.pl _ rfl) rfl|exact jc rfl rfl (mU _)|exact sO (F.un _ rfl) rfl rfl|exact e9 (F.un _ rfl) rfl (hslW _ (fun n hn=>by have:=hFw n hn;(focus((repeat(refine(Tr.aa _ _ (by omega)).trans ?_));exact hlow n (by omega)))))),?_⟩;(repeat(refine⟨(by first|exact aw (F.ag _ rfl) rfl (by(repeat(first|assumption|refine(Tr.aa _ _ (by omega)).trans ?_));done) (az rfl)|exact aC (F.ag _ rfl) rfl (by assumption) (ak _ 0 rfl rfl)|exact aU rfl (F.ze _ rfl) (F.pl _ rfl) rfl|exact jc rfl rfl (mU _)|exact sO (F.un _ rfl) rfl rfl|exact e9 (F.un _ rfl) rfl (hslW _ (fun n hn=>by have:=hFw n hn;(focus((repeat(refine(Tr.aa _ _ (by omega)).trans ?_));exact hlow n (by omega)))))),?_⟩));exact trivial))⟩,?_⟩|refine⟨.inl (by kernel_rfl),?_⟩)))
 dsimp only
 have hkS:H3.at' nx=some (eU false (T.keys o).length 1 9 ((T.keys o).map fun s:ByteArray=>SV.sc (.string s))):=by rw [xz];exact b1
 refine fK (R:=fun H5 n5=>nx+1+1≤n5∧(∃ cells:List SV,H5.at' nx=some (eU false (T.keys o).length 1 9 cells)∧cells.length=(T.keys o).length*1)∧H5.at' (nx+1)=some (uR false (T.line k))∧ ∀ n,n<nx→H5.at' n=H.at' n) ⟨by omega,⟨_,by(focus((repeat(first|assumption|refine(Tr.aa _ _ (by omega)).trans ?_));done)),by simp⟩,by(focus((repeat(first|assumption|refine(Tr.aa _ _ (by omega)).trans ?_));done)),fun n hn=>by(focus((repeat(refine(Tr.aa _ _ (by omega)).trans ?_));exact hlow n hn))⟩ ?_
 clear b1 b2 hlow hkS hbox3 hV3
 rintro H5 n5 ⟨f1,f2,f3,f4⟩
 (repeat(first|refine ao ?_|refine ai ?_|refine ah ?_|refine aT ?_|refine aN ?_|refine ay rfl ?_|(apply aj;exact rfl;exact rfl;exact rfl)))
 refine ch (α:=Nat) (fun i=> [(0,.ptr t 0),(1,.ptr t2 0),(4,.sc (.int .i64 most)),(17,.slu nx 0 (T.keys o).length),(18,.slu (nx+1) 0 (T.line k).length),(19,.sc (.int .i64 (i:Int)))]) (fun i H6 n6=>i≤(T.keys o).length∧nx+1+1≤n6∧(∃ cells:List SV,H6.at' nx=some (eU false (T.keys o).length 1 9 cells)∧cells.length=(T.keys o).length*1)∧H6.at' (nx+1)=some (uR false (T.line k))∧ ∀ n,n<nx→H6.at' n=H.at' n) (fun i=>(T.keys o).length-i) 0 ⟨zQ _,f1,f2,f3,f4⟩ (SlIn.sub (by repeat(first|exact trivial|refine⟨rfl,?_⟩))) ?_
 clear f1 f2 f3 f4
 rintro i H6 n6 ⟨hi,f1,⟨cells,f2,f2'⟩,f3,f4⟩ ih
 (repeat(first|refine ao ?_|refine ai ?_|(apply am;exact rfl;exact rfl;exact rfl)|(apply cr;exact rfl;exact rfl;exact rfl;exact(F.un _ rfl))))
 (apply cu;exact rfl;exact rfl;exact rfl;exact rfl)
 all_goals intro h1
 ·(repeat(first|refine ao ?_|refine ai ?_|refine ah ?_|refine aT ?_|refine aM ?_|refine aN ?_|refine aD rfl ?_|(apply am;exact rfl;exact rfl;exact rfl)|(apply aj;exact rfl;exact rfl;exact rfl)|(apply bT;exact rfl;exact rfl;exact rfl;exact rfl;(focus(omega));(focus(omega)))|refine c7 (q:=i) rfl rfl rfl rfl (F.un _ rfl) (F.sz _ rfl) (by assumption) (by omega) (by first|omega|(simp;done)) (zP _) ?_|(refine ka rfl rfl rfl rfl (F.sz _ rfl) f2 rfl (by omega) (by omega) rfl ?_)))
  refine ih _ _ _ (i+1) ⟨by omega,f1,⟨_,Tr.ae _ _ _,by rw [zT,zT,List.length_take,List.length_drop];show _+1+_=_;omega⟩,(Tr.aa _ _ (by omega)).trans f3,fun n hn=>(Tr.aa _ _ (by omega)).trans (f4 n hn)⟩ (by omega) (SlIn.sub (by repeat(first|exact trivial|refine⟨rfl,?_⟩)))
 clear ih
 (repeat(first|refine ao ?_|refine ai ?_|refine ah ?_|refine aT ?_|refine bA rfl ?_|refine ay rfl ?_|(apply aj;exact rfl;exact rfl;exact rfl)))
 have hlS:H6.at' (nx+1)=some (eU false (T.line k).length 1 23 (uC (T.line k))):=by rw [kC];exact f3
 refine ch (α:=Nat) (fun i=> [(0,.ptr t 0),(1,.ptr t2 0),(4,.sc (.int .i64 most)),(18,.slu (nx+1) 0 (T.line k).length),(20,.sc (.int .i64 (i:Int)))]) (fun i H6 n6=>i≤(T.line k).length∧nx+1+1≤n6∧(∃ cells:List SV,H6.at' (nx+1)=some (eU false (T.line k).length 1 23 cells)∧cells.length=(T.line k).length*1)∧ ∀ n,n<nx→H6.at' n=H.at' n) (fun i=>(T.line k).length-i) 0 ⟨zQ _,f1,⟨_,hlS,by simp⟩,f4⟩ (SlIn.sub (by repeat(first|exact trivial|refine⟨rfl,?_⟩))) ?_
 clear f1 f2 f3 f4 f2' hlS
 rintro j H7 n7 ⟨hj,f1,⟨cells',f2,f2'⟩,f4⟩ ih
 (repeat(first|refine ao ?_|refine ai ?_|(apply am;exact rfl;exact rfl;exact rfl)|(apply cr;exact rfl;exact rfl;exact rfl;exact(F.un _ rfl))))
 (apply cu;exact rfl;exact rfl;exact rfl;exact rfl)
 all_goals intro h2
 ·(repeat(first|refine ao ?_|refine ai ?_|refine ah ?_|refine aT ?_|refine aM ?_|refine aN ?_|refine aD rfl ?_|(apply am;exact rfl;exact rfl;exact rfl)|(apply aj;exact rfl;exact rfl;exact rfl)|(apply bT;exact rfl;exact rfl;exact rfl;exact rfl;(focus(omega));(focus(omega)))|refine c7 (q:=j) rfl rfl rfl rfl (F.un _ rfl) (F.sz _ rfl) (by assumption) (by omega) (by first|omega|(simp;done)) (zP _) ?_|(refine ka rfl rfl rfl rfl (F.sz _ rfl) f2 rfl (by omega) (by omega) rfl ?_)))
  refine ih _ _ _ (j+1) ⟨by omega,f1,⟨_,Tr.ae _ _ _,by rw [zT,zT,List.length_take,List.length_drop];show _+1+_=_;omega⟩,fun n hn=>(Tr.aa _ _ (by omega)).trans (f4 n hn)⟩ (by omega) (SlIn.sub (by repeat(first|exact trivial|refine⟨rfl,?_⟩)))
 clear ih
 have ownT: ∀ H' nx',nx≤nx'→(∀ n,n<nx→H'.at' n=H.at' n)→Fnc Try.prog 46 [.ptr t2 0] H' nx' (rW (gh (V.map (·.1))) H' nx'):=fun H' nx' h1 h2=>vS ⟨s2,V,hV.frame fun n hn=>h2 n (hFw n hn),rfl⟩ (fun n hn=>Nat.lt_of_lt_of_le (hFw n hn) h1) hA
 have onceT: ∀ H' nx' lr m,H'.at' lr=some (uR false (gh (V.map (·.1))))→(∀ n,n<nx→H'.at' n=H.at' n)→Fnc Try.prog 23 [.ptr t 0,.slu lr 0 (gh (V.map (·.1))).length,.sc (.int .i64 m)] H' nx' (fun q=>q.1 = .sc (.bool true)∧nx'≤q.2.2∧ ∀ n,n<nx'→q.2.1.at' n=H'.at' n):=fun H' nx' lr m h1 h2=>by
  have:=vV (nx:=nx') (lr:=lr) (hT3 H' h2) (by rw [e5];exact h1) m hl
  rw [e5] at this
  exact this
 (repeat(first|refine ao ?_|refine ai ?_|refine ah ?_|refine bA rfl ?_|refine ay rfl ?_|(apply am;exact rfl;exact rfl;exact rfl)))
 refine bn rfl rfl rfl (by kernel_rfl) (Fnc.mono (ownT _ _ (by omega) f4) ?_)
 rintro⟨_,H8,n8⟩ ⟨r8,rfl,g1,g2,g3,g4,g5⟩
 dsimp only at g1 g3 g4 g5 ⊢
 have l8: ∀ n,n<nx→H8.at' n=H.at' n:=fun n hn=>(g5 n (by omega)).trans (f4 n hn)
 (repeat(apply am;exact rfl;exact rfl;exact rfl))
 refine bn rfl rfl rfl (by kernel_rfl) (Fnc.mono (onceT _ _ r8 most g1 l8) ?_)
 rintro⟨_,H9,n9⟩ ⟨rfl,p1,p2⟩
 dsimp only at p1 p2 ⊢
 have l9: ∀ n,n<nx→H9.at' n=H.at' n:=fun n hn=>(p2 n (by omega)).trans (l8 n hn)
 (repeat(apply am;exact rfl;exact rfl;exact rfl))
 refine bn rfl rfl rfl (by kernel_rfl) (Fnc.mono (ownT _ _ (by omega) l9) ?_)
 rintro⟨_,H10,n10⟩ ⟨r10,rfl,g1',g2',g3',g4',g5'⟩
 dsimp only at g1' g3' g4' g5' ⊢
 have l10: ∀ n,n<nx→H10.at' n=H.at' n:=fun n hn=>(g5' n (by omega)).trans (l9 n hn)
 refine bn rfl rfl rfl (by kernel_rfl) (Fnc.mono (onceT _ _ r10 0 g1' l10) ?_)
 rintro⟨_,H11,n11⟩ ⟨rfl,p1',p2'⟩
 dsimp only at p1' p2' ⊢
 (repeat(first|refine ah ?_|(apply aj;exact rfl;exact rfl;exact rfl)|(apply ce;exact rfl;exact rfl;exact rfl;exact rfl)))
 ((apply bj Try.func28 (congrArg Array.toList Try.results28));(focus(repeat(first|exact ResIs.nil|apply ResIs.tmp rfl))))
 exact⟨rfl,by simp only;omega,fun n hn=>(p2' n (by omega)).trans (l10 n hn)⟩
end Go.Proofs.Ytckajlllkmkniaa
end
section
namespace Go.Proofs.Ytckajlllkmkniaa
open Go Go.Sy Go.Sl Go.RowKit
noncomputable def lz (W:RT) (x:pO):RT×List Nat×Int:=
 if x.1=1 then((j8 W x.2.1 x.2.2.1).1,[],(j8 W x.2.1 x.2.2.1).2) else
 if x.1=2 then(if x.2.1=0∨x.2.2.2<0∨(dt W x.2.1).length<x.2.2.2 then(W,[],2) else((gH W x.2.1 x.2.2.2.toNat).1,(gH W x.2.1 x.2.2.2.toNat).2,0)) else
 if x.1=3 then((gH W x.2.1 0).1,(gH W x.2.1 0).2,0) else(W,[],0)
def DoW(t r:Nat)(W':RT)(l:List Nat)(e:Int)(Fw:Nat→Prop)(H:aV)(nx:Nat):Pst:=fun q=> ∃ cm,q.1 = .tup [.sc (.int .i64 e),.slu cm 0 l.length]∧q.2.1.at' cm=some (uR false l)∧nx≤cm∧cm<q.2.2∧KeepW t r W' Fw H nx q
theorem KeepW.back{t r:Nat}{W':RT}{Fw:Nat→Prop}{H H':aV}{nx nx':Nat}{q:Res}(h:KeepW t r W' Fw H' nx' q)(hle:nx≤nx')(hH: ∀ n,n<nx→H'.at' n=H.at' n)(v:SV):KeepW t r W' Fw H nx (v,q.2):=by
 obtain⟨h1,r',⟨s,V,h2,h3⟩,h4,h5,h6⟩:=h
 refine⟨zX hle h1,r',⟨s,V,h2.mono fun n hn=>⟨hn.1.imp id fun h=>by omega,hn.2⟩,h3⟩,h4.imp id fun h=>by omega,h5,fun n hn hnt hnr=>(h6 n (by omega) hnt hnr).trans (hH n hn)⟩
theorem zn{t r:Nat}{W:RT}{Fw:Nat→Prop}{H:aV}{nx:Nat}(hW:WAt t r W Fw H)(hFw: ∀ n,Fw n→n<nx)(hr:r<nx)(x:pO)(hA:(gI W).length<390000)(hnd:(W.map (·.1)).Nodup)(hsz:x.2.2.1.size<4611686018427387904):Fnc Try.prog 26 [.ptr t 0,.agg ((w9 x).map .sc)] H nx (DoW t r (lz W x).1 (lz W x).2.1 (lz W x).2.2 Fw H nx):=by
 obtain⟨kd,o,k,mk⟩:=x
 simp only at hsz
 have hl:W.length<390000:=Nat.lt_of_le_of_lt eG hA
 have hKl:=nv (W:=W) (o:=o)
 show Fnc Try.prog 26 [.ptr t 0,.agg [.sc (.int .i64 kd),.sc (.int .u64 (o:Int)),.sc (.string k),.sc (.int .i64 mk)]] H nx _
 refine Fnc.start Try.func26 rfl rfl ?_
 have htn:t<nx:=by
  obtain⟨s,V,hV,_⟩:=hW
  exact hFw t hV.own
 have hW1:WAt t r W Fw (H.set nx (aG 32 [.sc (.int .i64 kd),.sc (.int .u64 (o:Int)),.sc (.string k),.sc (.int .i64 mk)])):=hW.frame fun n hn=>Tr.aa _ _ (by have:=hFw n hn;omega)
 have hlow: ∀ n,n<nx→(H.set nx (aG 32 [.sc (.int .i64 kd),.sc (.int .u64 (o:Int)),.sc (.string k),.sc (.int .i64 mk)])).at' n=H.at' n:=fun n hn=>Tr.aa _ _ (by omega)
 have hFw1: ∀ n,Fw n→n<nx+1:=fun n hn=>Nat.lt_succ_of_lt (hFw n hn)
 have same: ∀ (v:SV) (q:aV×Nat),nx≤q.2→(∀ n,n<nx→q.1.at' n=H.at' n)→KeepW t r W Fw H nx (v,q.1,q.2):=fun v q h1 h2=>by
  obtain⟨s,V,h3,h4⟩:=hW
  exact⟨h1,r,⟨s,V,(h3.frame fun n hn=>h2 n (hFw n hn)).mono fun n hn=>⟨.inl hn,by have:=hFw n hn;simp only;omega⟩,h4⟩,.inl rfl,by simp only;omega,fun n hn _ _=>h2 n hn⟩
 (repeat(first|refine ao ?_|refine ai ?_|refine ah ?_|refine aT ?_|(apply aj;exact rfl;exact rfl;exact rfl)|(apply au;exact rfl;exact rfl;exact rfl;exact(F.fo _ _ rfl rfl))|(apply iD;exact rfl;exact rfl;exact rfl)|refine aL rfl rfl rfl (F.ag _ rfl) (by(repeat(exact Tr.ae _ _ _));done) (by exact rfl) ?_))
 (apply cF;exact rfl;exact rfl;exact rfl;exact rfl)
 all_goals intro h1
 ·have hact:lz W (kd,o,k,mk)=((j8 W o k).1,[],(j8 W o k).2):=by unfold lz;rw [if_pos h1]
  rw [hact]
  (repeat(first|refine ao ?_|refine ai ?_|refine ah ?_|refine aD rfl ?_|(apply am;exact rfl;exact rfl;exact rfl)|(apply aj;exact rfl;exact rfl;exact rfl)|(apply au;exact rfl;exact rfl;exact rfl;exact(F.fo _ _ rfl rfl))|refine aL rfl rfl rfl (F.ag _ rfl) (by(repeat(exact Tr.ae _ _ _));done) (by exact rfl) ?_))
  refine bn rfl rfl rfl (by kernel_rfl) (Fnc.mono (ask_r hW1 hFw1 (Nat.lt_succ_of_lt hr) o k hA hsz) ?_)
  rintro⟨_,H2,n2⟩ ⟨rfl,g1,r',g2,g3,g4,g5⟩
  dsimp only at g1 g2 g4 g5 ⊢
  (repeat(first|refine ah ?_|(apply aj;exact rfl;exact rfl;exact rfl)))
  refine co 1 23 (d:=5) (by(repeat(exact Tr.ae _ _ _));done) rfl ?_
  ((apply bj Try.func26 (congrArg Array.toList Try.results26));(focus(repeat(first|exact ResIs.nil|apply ResIs.tmp rfl))))
  obtain⟨s,V,k1,k2⟩:=g2
  refine⟨n2,rfl,Tr.ae _ _ _,by omega,Nat.lt_succ_self _,by simp only;omega,r',⟨s,V,(k1.frame fun n hn=>Tr.aa _ _ (by have:=hn.2;omega)).mono fun n hn=>⟨hn.1.imp id fun h=>by omega,by have:=hn.2;simp only;omega⟩,k2⟩,g3.imp id fun h=>by omega,by simp only;omega,fun n hn hnt hnr=>(Tr.aa _ _ (by omega)).trans ((g5 n (by omega) hnt hnr).trans (hlow n hn))⟩
 (repeat(first|refine ao ?_|refine ai ?_|refine ah ?_|refine ay rfl ?_|(apply aj;exact rfl;exact rfl;exact rfl)))
 (apply cF;exact rfl;exact rfl;exact rfl;exact rfl)
 all_goals intro h2
 ·have hkey:=Fnc.next (tV (nx:=nx+1) hW1 hFw1 o (by omega))
  by_cases hbad:o=0∨mk<0∨((dt W o).length:Int)<mk
  ·have hact:lz W (kd,o,k,mk)=(W,[],2):=by unfold lz;rw [if_neg h1,if_pos h2,if_pos hbad]
   rw [hact]
   (repeat(first|refine ao ?_|refine ah ?_|refine aD rfl ?_|(apply aj;exact rfl;exact rfl;exact rfl)))
   rcases Nat.eq_zero_or_pos o with hb1|hb1
   ·(apply dJ;(focus(kernel_rfl));(focus(kernel_rfl)))
    (repeat(first|(apply aX;exact rfl;exact rfl;exact rfl)|(apply dH;exact rfl;exact rfl;exact rfl;exact rfl)|(apply bu;exact rfl;exact rfl;exact rfl;exact(F.fo _ _ rfl rfl))|(apply e8;exact rfl;exact rfl)|refine bK rfl rfl rfl (F.ag _ rfl) (by(repeat(exact Tr.ae _ _ _));done) (by exact rfl) ?_|(refine mL rfl rfl rfl rfl (fun _=>?_) (fun hq=>absurd (by omega) hq))))
    (refine be ?_);(refine⟨by kernel_rfl,?_,?_⟩);(focus(repeat(first|exact trivial|refine⟨.inl (qJ rfl),?_⟩|refine⟨.inr ⟨0,by kernel_rfl,AllH.all (fun _=>(by first|exact aY rfl|exact ax rfl|exact aq (F.fo _ _ rfl rfl) rfl|exact aP (F.un _ rfl) rfl|exact aE rfl rfl|exact aH rfl|exact aU rfl (F.ze _ rfl) (F.pl _ rfl) rfl|exact bq rfl|exact aI (F.un _ rfl) rfl|exact aQ rfl rfl|exact aR rfl rfl|exact bi rfl rfl (.inr (.inr (.inr (.inr (.inl ⟨rfl,rfl⟩)))))|exact an rfl rfl (.inl ⟨rfl,(zx _ ⟨by omega,by omega⟩).symm⟩)|exact an rfl rfl (.inr (.inl ⟨rfl,(zx _ ⟨by omega,by omega⟩).symm⟩)))) _⟩,?_⟩|refine⟨.inr ⟨0,by kernel_rfl,(by(refine⟨(by first|exact aw (F.ag _ rfl) rfl (by(repeat(exact Tr.ae _ _ _));done) (az rfl)|exact aC (F.ag _ rfl) rfl (by done) (ak _ 0 rfl rfl)|exact aU rfl (F.ze _ rfl) (F.pl _ rfl) rfl|fail),?_⟩;(repeat(refine⟨(by first|exact aw (F.ag _ rfl) rfl (by done) (az rfl)|exact aC (F.ag _ rfl) rfl (by done) (ak _ 0 rfl rfl)|exact aU rfl (F.ze _ rfl) (F.pl _ rfl) rfl|fail),?_⟩));exact trivial))⟩,?_⟩|refine⟨.inl (by kernel_rfl),?_⟩)))
    dsimp only
    refine fK (R:=fun H5 n5=>nx≤n5∧ ∀ n,n<nx→H5.at' n=H.at' n) ⟨by omega,fun n hn=>by(focus((repeat(refine(Tr.aa _ _ (by omega)).trans ?_));exact rfl))⟩ ?_
    rintro H5 n5 ⟨f1,f2⟩
    (repeat(first|refine ao ?_|refine ai ?_|refine ah ?_|refine aD rfl ?_|(apply aj;exact rfl;exact rfl;exact rfl)))
    refine co 1 23 (d:=5) (by(repeat(exact Tr.ae _ _ _));done) rfl ?_
    ((apply bj Try.func26 (congrArg Array.toList Try.results26));(focus(repeat(first|exact ResIs.nil|apply ResIs.tmp rfl))))
    exact⟨n5,rfl,Tr.ae _ _ _,f1,Nat.lt_succ_self _,same _ (_,n5+1) (by simp only;omega) fun n hn=>(Tr.aa _ _ (by omega)).trans (f2 n hn)⟩
   ·rcases Int.lt_or_le mk 0 with hb2|hb2
    ·(apply dJ;(focus(kernel_rfl));(focus(kernel_rfl)))
     (repeat(first|(apply aX;exact rfl;exact rfl;exact rfl)|(apply dH;exact rfl;exact rfl;exact rfl;exact rfl)|(apply cW;exact rfl;exact rfl;exact rfl;exact rfl)|(apply bu;exact rfl;exact rfl;exact rfl;exact(F.fo _ _ rfl rfl))|(apply e8;exact rfl;exact rfl)|refine bK rfl rfl rfl (F.ag _ rfl) (by(repeat(exact Tr.ae _ _ _));done) (by exact rfl) ?_|(refine mL rfl rfl rfl rfl (fun hq=>absurd hq (by omega)) (fun _=>?_))|(refine kY rfl rfl rfl rfl (fun _=>?_) (fun hq=>absurd hq (by omega)))))
     (refine be ?_);(refine⟨by kernel_rfl,?_,?_⟩);(focus(repeat(first|exact trivial|refine⟨.inl (qJ rfl),?_⟩|refine⟨.inr ⟨0,by kernel_rfl,AllH.all (fun _=>(by first|exact aY rfl|exact ax rfl|exact aq (F.fo _ _ rfl rfl) rfl|exact aP (F.un _ rfl) rfl|exact aE rfl rfl|exact aH rfl|exact aU rfl (F.ze _ rfl) (F.pl _ rfl) rfl|exact bq rfl|exact aI (F.un _ rfl) rfl|exact aQ rfl rfl|exact aR rfl rfl|exact bi rfl rfl (.inr (.inr (.inr (.inr (.inl ⟨rfl,rfl⟩)))))|exact an rfl rfl (.inl ⟨rfl,(zx _ ⟨by omega,by omega⟩).symm⟩)|exact an rfl rfl (.inr (.inl ⟨rfl,(zx _ ⟨by omega,by omega⟩).symm⟩)))) _⟩,?_⟩|refine⟨.inr ⟨0,by kernel_rfl,(by(refine⟨(by first|exact aw (F.ag _ rfl) rfl (by(repeat(exact Tr.ae _ _ _));done) (az rfl)|exact aC (F.ag _ rfl) rfl (by done) (ak _ 0 rfl rfl)|exact aU rfl (F.ze _ rfl) (F.pl _ rfl) rfl|fail),?_⟩;(repeat(refine⟨(by first|exact aw (F.ag _ rfl) rfl (by done) (az rfl)|exact aC (F.ag _ rfl) rfl (by done) (ak _ 0 rfl rfl)|exact aU rfl (F.ze _ rfl) (F.pl _ rfl) rfl|fail),?_⟩));exact trivial))⟩,?_⟩|refine⟨.inl (by kernel_rfl),?_⟩)))
     dsimp only
     refine fK (R:=fun H5 n5=>nx≤n5∧ ∀ n,n<nx→H5.at' n=H.at' n) ⟨by omega,fun n hn=>by(focus((repeat(refine(Tr.aa _ _ (by omega)).trans ?_));exact rfl))⟩ ?_
     rintro H5 n5 ⟨f1,f2⟩
     (repeat(first|refine ao ?_|refine ai ?_|refine ah ?_|refine aD rfl ?_|(apply aj;exact rfl;exact rfl;exact rfl)))
     refine co 1 23 (d:=5) (by(repeat(exact Tr.ae _ _ _));done) rfl ?_
     ((apply bj Try.func26 (congrArg Array.toList Try.results26));(focus(repeat(first|exact ResIs.nil|apply ResIs.tmp rfl))))
     exact⟨n5,rfl,Tr.ae _ _ _,f1,Nat.lt_succ_self _,same _ (_,n5+1) (by simp only;omega) fun n hn=>(Tr.aa _ _ (by omega)).trans (f2 n hn)⟩
    ·(apply dJ;(focus(kernel_rfl));(focus(kernel_rfl)))
     (repeat(first|(apply aX;exact rfl;exact rfl;exact rfl)|(apply cW;exact rfl;exact rfl;exact rfl;exact rfl)|(apply bu;exact rfl;exact rfl;exact rfl;exact(F.fo _ _ rfl rfl))|(apply io;exact rfl;exact rfl;exact rfl;exact(F.un _ rfl))|refine bK rfl rfl rfl (F.ag _ rfl) (by(repeat(exact Tr.ae _ _ _));done) (by exact rfl) ?_|(refine b5 rfl rfl rfl (by kernel_rfl) hkey ?_)|(refine mL rfl rfl rfl rfl (fun hq=>absurd hq (by omega)) (fun _=>?_))|(refine kY rfl rfl rfl rfl (fun hq=>absurd hq (by omega)) (fun _=>?_))|(refine mK rfl rfl rfl rfl (fun _=>?_) (fun hq=>absurd hq (by omega)))))
     (refine be ?_);(refine⟨by kernel_rfl,?_,?_⟩);(focus(repeat(first|exact trivial|refine⟨.inl (ck rfl),?_⟩|refine⟨.inr ⟨0,by kernel_rfl,AllH.all (fun _=>(by first|exact aY rfl|exact ax rfl|exact aq (F.fo _ _ rfl rfl) rfl|exact aP (F.un _ rfl) rfl|exact aE rfl rfl|exact aH rfl|exact aU rfl (F.ze _ rfl) (F.pl _ rfl) rfl|exact bq rfl|exact aI (F.un _ rfl) rfl|exact aQ rfl rfl|exact aR rfl rfl|exact bi rfl rfl (.inr (.inr (.inr (.inr (.inl ⟨rfl,rfl⟩)))))|exact an rfl rfl (.inl ⟨rfl,(zx _ ⟨by omega,by omega⟩).symm⟩)|exact an rfl rfl (.inr (.inl ⟨rfl,(zx _ ⟨by omega,by omega⟩).symm⟩)))) _⟩,?_⟩|refine⟨.inr ⟨0,by kernel_rfl,(by(refine⟨(by first|exact aw (F.ag _ rfl) rfl (by(repeat(first|exact Tr.ae _ _ _|refine(Tr.aa _ _ (by omega)).trans ?_));done) (az rfl)|exact aC (F.ag _ rfl) rfl (by done) (ak _ 0 rfl rfl)|exact aU rfl (F.ze _ rfl) (F.pl _ rfl) rfl|fail),?_⟩;(repeat(refine⟨(by first|exact aw (F.ag _ rfl) rfl (by(repeat(exact Tr.ae _ _ _));done) (az rfl)|exact aC (F.ag _ rfl) rfl (by done) (ak _ 0 rfl rfl)|exact aU rfl (F.ze _ rfl) (F.pl _ rfl) rfl|fail),?_⟩));exact trivial))⟩,?_⟩|refine⟨.inl (by kernel_rfl),?_⟩)))
     dsimp only
     refine fK (R:=fun H5 n5=>nx≤n5∧ ∀ n,n<nx→H5.at' n=H.at' n) ⟨by omega,fun n hn=>by(focus((repeat(refine(Tr.aa _ _ (by omega)).trans ?_));exact rfl))⟩ ?_
     rintro H5 n5 ⟨f1,f2⟩
     (repeat(first|refine ao ?_|refine ai ?_|refine ah ?_|refine aD rfl ?_|(apply aj;exact rfl;exact rfl;exact rfl)))
     refine co 1 23 (d:=5) (by(repeat(exact Tr.ae _ _ _));done) rfl ?_
     ((apply bj Try.func26 (congrArg Array.toList Try.results26));(focus(repeat(first|exact ResIs.nil|apply ResIs.tmp rfl))))
     exact⟨n5,rfl,Tr.ae _ _ _,f1,Nat.lt_succ_self _,same _ (_,n5+1) (by simp only;omega) fun n hn=>(Tr.aa _ _ (by omega)).trans (f2 n hn)⟩
  ·have hact:lz W (kd,o,k,mk)=((gH W o mk.toNat).1,(gH W o mk.toNat).2,0):=by unfold lz;rw [if_neg h1,if_pos h2,if_neg hbad]
   rw [hact]
   obtain⟨m,rfl⟩: ∃ m:Nat,mk=(m:Int):=⟨mk.toNat,by omega⟩
   rw [Int.toNat_natCast]
   (repeat(first|refine ao ?_|refine ah ?_|refine aD rfl ?_|(apply aj;exact rfl;exact rfl;exact rfl)))
   (apply dJ;(focus(kernel_rfl));(focus(kernel_rfl)))
   (repeat(first|(apply aX;exact rfl;exact rfl;exact rfl)|(apply cW;exact rfl;exact rfl;exact rfl;exact rfl)|(apply bu;exact rfl;exact rfl;exact rfl;exact(F.fo _ _ rfl rfl))|(apply io;exact rfl;exact rfl;exact rfl;exact(F.un _ rfl))|refine bK rfl rfl rfl (F.ag _ rfl) (by(repeat(exact Tr.ae _ _ _));done) (by exact rfl) ?_|(refine b5 rfl rfl rfl (by kernel_rfl) hkey ?_)|(refine mL rfl rfl rfl rfl (fun hq=>absurd hq (by omega)) (fun _=>?_))|(refine kY rfl rfl rfl rfl (fun hq=>absurd hq (by omega)) (fun _=>?_))|(refine mK rfl rfl rfl rfl (fun hq=>absurd hq (by omega)) (fun _=>?_))))
   (refine be ?_);(refine⟨by kernel_rfl,?_,?_⟩);(focus(repeat(first|exact trivial|refine⟨.inl (ck rfl),?_⟩|refine⟨.inr ⟨0,by kernel_rfl,AllH.all (fun _=>(by first|exact aY rfl|exact ax rfl|exact aq (F.fo _ _ rfl rfl) rfl|exact aP (F.un _ rfl) rfl|exact aE rfl rfl|exact aH rfl|exact aU rfl (F.ze _ rfl) (F.pl _ rfl) rfl|exact bq rfl|exact aI (F.un _ rfl) rfl|exact aQ rfl rfl|exact aR rfl rfl|exact bi rfl rfl (.inr (.inr (.inr (.inr (.inl ⟨rfl,rfl⟩)))))|exact an rfl rfl (.inl ⟨rfl,(zx _ ⟨by omega,by omega⟩).symm⟩)|exact an rfl rfl (.inr (.inl ⟨rfl,(zx _ ⟨by omega,by omega⟩).symm⟩)))) _⟩,?_⟩|refine⟨.inr ⟨0,by kernel_rfl,(by(refine⟨(by first|exact aw (F.ag _ rfl) rfl (by(repeat(first|exact Tr.ae _ _ _|refine(Tr.aa _ _ (by omega)).trans ?_));done) (az rfl)|exact aC (F.ag _ rfl) rfl (by done) (ak _ 0 rfl rfl)|exact aU rfl (F.ze _ rfl) (F.pl _ rfl) rfl|fail),?_⟩;(repeat(refine⟨(by first|exact aw (F.ag _ rfl) rfl (by(repeat(exact Tr.ae _ _ _));done) (az rfl)|exact aC (F.ag _ rfl) rfl (by done) (ak _ 0 rfl rfl)|exact aU rfl (F.ze _ rfl) (F.pl _ rfl) rfl|fail),?_⟩));exact trivial))⟩,?_⟩|refine⟨.inl (by kernel_rfl),?_⟩)))
   dsimp only
   refine fK (R:=fun H5 n5=>n5=nx+1+1∧H5.at' nx=some (aG 32 [.sc (.int .i64 kd),.sc (.int .u64 (o:Int)),.sc (.string k),.sc (.int .i64 (m:Int))])∧ ∀ n,n<nx→H5.at' n=H.at' n) ⟨rfl,by(focus((repeat(first|exact Tr.ae _ _ _|refine(Tr.aa _ _ (by omega)).trans ?_));done)),fun n hn=>by(focus((repeat(refine(Tr.aa _ _ (by omega)).trans ?_));exact rfl))⟩ ?_
   rintro H5 _ ⟨rfl,f1,f2⟩
   (repeat(first|refine ao ?_|refine ai ?_|refine aN ?_|refine ay rfl ?_|(apply am;exact rfl;exact rfl;exact rfl)|(apply au;exact rfl;exact rfl;exact rfl;exact(F.fo _ _ rfl rfl))|refine aL rfl rfl rfl (F.ag _ rfl) (by assumption) (by exact rfl) ?_))
   refine bn rfl rfl rfl (by kernel_rfl) (Fnc.mono (w8 (hW.frame fun n hn=>f2 n (hFw n hn)) (fun n hn=>by have:=hFw n hn;omega) (show r<nx+1+1 by omega) o m hA hnd (by omega)) ?_)
   rintro⟨_,H2,n2⟩ ⟨cm,rfl,g1,g2,g3,g4⟩
   dsimp only at g1 g2 g3 ⊢
   (repeat(first|refine ah ?_|(apply aj;exact rfl;exact rfl;exact rfl)))
   ((apply bj Try.func26 (congrArg Array.toList Try.results26));(focus(repeat(first|exact ResIs.nil|apply ResIs.tmp rfl))))
   exact⟨cm,rfl,g1,by omega,g3,g4.back (by omega) f2 _⟩
 (repeat(first|refine ao ?_|refine ai ?_|refine ah ?_|refine ay rfl ?_|(apply aj;exact rfl;exact rfl;exact rfl)))
 (apply cF;exact rfl;exact rfl;exact rfl;exact rfl)
 all_goals intro h3
 ·have hact:lz W (kd,o,k,mk)=((gH W o 0).1,(gH W o 0).2,0):=by unfold lz;rw [if_neg h1,if_neg h2,if_pos h3]
  rw [hact]
  (repeat(first|refine ao ?_|refine ai ?_|refine ah ?_|refine aD rfl ?_|(apply am;exact rfl;exact rfl;exact rfl)|(apply aj;exact rfl;exact rfl;exact rfl)|(apply au;exact rfl;exact rfl;exact rfl;exact(F.fo _ _ rfl rfl))|refine aL rfl rfl rfl (F.ag _ rfl) (by(repeat(exact Tr.ae _ _ _));done) (by exact rfl) ?_))
  refine bn rfl rfl rfl (by kernel_rfl) (Fnc.mono (w8 hW1 hFw1 (Nat.lt_succ_of_lt hr) o 0 hA hnd (by omega)) ?_)
  rintro⟨_,H2,n2⟩ ⟨cm,rfl,g1,g2,g3,g4⟩
  dsimp only at g1 g2 g3 ⊢
  (repeat(first|refine ah ?_|(apply aj;exact rfl;exact rfl;exact rfl)))
  ((apply bj Try.func26 (congrArg Array.toList Try.results26));(focus(repeat(first|exact ResIs.nil|apply ResIs.tmp rfl))))
  exact⟨cm,rfl,g1,by omega,g3,g4.back (zY _) hlow _⟩
 ·have hact:lz W (kd,o,k,mk)=(W,[],0):=by unfold lz;rw [if_neg h1,if_neg h2,if_neg h3]
  rw [hact]
  (repeat(first|refine ao ?_|refine ai ?_|refine ah ?_|refine aM ?_|refine aN ?_|refine ay rfl ?_|(apply aj;exact rfl;exact rfl;exact rfl)))
  refine co 1 23 (d:=5) (by(repeat(exact Tr.ae _ _ _));done) rfl ?_
  ((apply bj Try.func26 (congrArg Array.toList Try.results26));(focus(repeat(first|exact ResIs.nil|apply ResIs.tmp rfl))))
  exact⟨nx+1,rfl,Tr.ae _ _ _,by omega,Nat.lt_succ_self _,same _ (_,nx+1+1) (by simp only;omega) fun n hn=>(Tr.aa _ _ (by omega)).trans (hlow n hn)⟩
end Go.Proofs.Ytckajlllkmkniaa
end
