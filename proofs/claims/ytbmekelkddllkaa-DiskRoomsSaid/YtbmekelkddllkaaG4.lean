import Derived.Laws.StructEq
import Derived.Sort.AssemblyPlain
import Derived.Test.YtbmekelkddllkaaG3
set_option linter.unusedVariables false
set_option linter.unusedSimpArgs false
set_option maxRecDepth 100000
set_option maxHeartbeats 0
section
namespace Go.Sy
open Go Go.Sl Go.RowKit
theorem jl{P:Program}{t:TypeId}{d:TypeDesc}{A:Type}(f:TypeDesc→Sem A)(h:P.underlying t=some d):bk P (underlying t >>= f)=bk P (f d):=by
 show bk P ((match P.underlying t with|some d=>(pure d:Sem TypeDesc)|none=>stuck "no such type").bind f)=_
 rw [h]
 rfl
section
variable {K V:Type} [DecidableEq K]
structure KEnc (P:Program) (kt:TypeId) (enc:K→Value):Prop where
 find: ∀ (l:List (K×SV×Nat)) (k:K),jW P kt (enc k) (l.map fun x=>(enc x.1,x.2))=some (l.findIdx? fun x=>decide (x.1=k))
 check: ∀ k,bk P (Instr.checkKey false 10000 kt (enc k))=some ()
 bits: ∀ k,Instr.sameBits 10000 (enc k) (enc k)=true
theorem lA{enc:K→Value}{kd:TypeDesc}(hs: ∀ a b,Instr.sameNow kd (enc a) (enc b)=some (decide (a=b)))(k:K): ∀ (l:List (K×SV×Nat)) (i:Nat),
 Instr.findNow kd (enc k) (dummies (l.map fun x=>(enc x.1,x.2))) i=some ((l.findIdx? fun x=>decide (x.1=k)).map fun j=>(i+j,.nilFunc))
 | [],i=>rfl
 | x :: l,i=>by
   simp only [dummies,zC,Instr.findNow,hs,List.findIdx?_cons]
   by_cases h:x.1=k
   ·simp [h]
   ·have h': ¬ k=x.1:=fun e=>h e.symm
    have ih:=lA hs k l (i+1)
    simp only [dummies] at ih
    simp only [h,h',decide_false,ih,Option.map_map,Bool.false_eq_true,if_false]
    congr 2
    funext j
    simp only [Function.comp_apply,zn,and_true]
    omega
theorem lH{P:Program}{kt:TypeId}{kd:TypeDesc}{v:Value}(h:P.underlying kt=some kd)(hk:(match kd with | .interface _ | .array .. | .struct _=>false|_=>true)=true)(e:Bool)(n:Nat) :
 bk P (Instr.checkKey e (n+1) kt v)=some ():=by
 unfold Instr.checkKey
 rw [jl _ h]
 cases kd <;> first|rfl|simp at hk
theorem tV{P:Program}{kt:TypeId}{kd:TypeDesc}{enc:K→Value}(h:P.underlying kt=some kd)(hk:(match kd with | .interface _ | .array .. | .struct _=>false|_=>true)=true)(hs: ∀ a b,Instr.sameNow kd (enc a) (enc b)=some (decide (a=b)))
 (hb: ∀ k,Instr.sameBits 10000 (enc k) (enc k)=true):KEnc P kt enc:=by
 refine⟨fun l k=>?_,fun k=>lH h hk _ _,hb⟩
 unfold jW
 rw [lH h hk]
 simp only
 unfold Instr.findKey
 rw [jl _ h]
 simp only [lA hs]
 cases l.findIdx? fun x=>decide (x.1=k) <;> simp [pure,bk]
theorem vN{P:Program}{kt:TypeId}(h:P.underlying kt=some (.int .i64)):KEnc P kt (fun n:Int=> .int .i64 n):=
 tV h rfl (fun a b=>by simp only [Instr.sameNow,if_true,zd];rw [Bool.eq_iff_iff];simp) (fun k=>by simp [Instr.sameBits])
theorem vM{P:Program}{kt:TypeId}(h:P.underlying kt=some .string):KEnc P kt (fun s:ByteArray=> .string s):=
 tV h rfl (fun a b=>by simp only [Instr.sameNow,zd];rw [Bool.eq_iff_iff];simp [MapKept.bytes_beq]) (fun k=>by simp [Instr.sameBits,MapKept.bytes_beq])
def cr(m:List (K×V×Nat))(k:K):Option V:=(m.find? fun x=>decide (x.1=k)).map (·.2.1)
def cZ:List (K×V×Nat)→K→V→Nat→List (K×V×Nat)
 | [],k,v,c=> [(k,v,c)]
 | x :: m,k,v,c=>if x.1=k then(k,v,x.2.2) :: m else x :: cZ m k v c
def ko(m:List (K×V×Nat))(k:K)(c:Nat):Nat:=match cr m k with
 | some _=>c
 | none=>c+1
def hY:List (K×V×Nat)→K→List (K×V×Nat)
 | [],_=> []
 | x :: m,k=>if x.1=k then m else x :: hY m k
abbrev lQ(enc:K→Value)(val:V→SV)(m:List (K×V×Nat)):List (Value×SV×Nat):=m.map fun x=>(enc x.1,val x.2.1,x.2.2)
abbrev eK(enc:K→Value)(val:V→SV)(m:List (K×V×Nat))(c:Nat):VO:= .map (lQ enc val m) c
structure KOk (m:List (K×V×Nat)) (c:Nat):Prop where
 keys:(m.map (·.1)).Nodup
 born:(m.map (·.2.2)).Nodup
 lt: ∀ x∈m,x.2.2<c
omit [DecidableEq K] in
theorem KOk.nil(c:Nat):KOk ([]:List (K×V×Nat)) c:=⟨by simp,by simp,by simp⟩
theorem ye(m:List (K×V×Nat))(k:K):match m.findIdx? fun x=>decide (x.1=k)with
 | none=>cr m k=none∧hY m k=m∧ ∀ v c,cZ m k v c=m ++ [(k,v,c)]
 | some i=> ∃ x,m[i]? =some x∧x.1=k∧cr m k=some x.2.1∧hY m k=m.eraseIdx i∧ ∀ v c,cZ m k v c=m.set i (k,v,x.2.2):=by
 induction m with
 | nil=>simp [cr,hY,cZ]
 | cons y m ih=>
   rw [List.findIdx?_cons]
   by_cases h:y.1=k
   ·simp [h,cr,hY,cZ]
   ·simp only [h,decide_false,Bool.false_eq_true,if_false]
    cases hi:m.findIdx? fun x=>decide (x.1=k)with
    | none=>
      rw [hi] at ih
      obtain⟨h1,h2,h3⟩:=ih
      refine⟨?_,?_,fun v c=>?_⟩
      ·simpa [cr,h] using h1
      ·simp [hY,h,h2]
      ·simp [cZ,h,h3]
    | some i=>
      rw [hi] at ih
      obtain⟨x,h1,h2,h3,h4,h5⟩:=ih
      refine⟨x,by simpa using h1,h2,?_,?_,fun v c=>?_⟩
      ·simpa [cr,h] using h3
      ·simp [hY,h,h4]
      ·simp [cZ,h,h5]
theorem tT{m:List (K×V×Nat)}{k:K}:cr m k=none↔k∉m.map (·.1):=by
 induction m with
 | nil=>simp [cr]
 | cons y m ih=>
   by_cases h:y.1=k
   ·simp [cr,h]
   ·have:cr (y :: m) k=cr m k:=by simp [cr,h]
    rw [this,ih]
    simp [Ne.symm h]
theorem jw{m:List (K×V×Nat)}{k:K}{v:V}(h:cr m k=some v)(c:Nat):ko m k c=c:=by unfold ko;rw [h]
theorem KOk.put{m:List (K×V×Nat)}{c:Nat}(h:KOk m c)(k:K)(v:V):KOk (cZ m k v c) (ko m k c):=by
 have hk:=ye m k
 cases hi:m.findIdx? fun x=>decide (x.1=k)with
 | none=>
   rw [hi] at hk
   obtain⟨h1,_,h3⟩:=hk
   rw [h3,show ko m k c=c+1 by simp [ko,h1]]
   refine⟨?_,?_,?_⟩
   ·rw [zF,List.nodup_append]
    exact⟨h.keys,by simp,fun a ha b hb=>by simp at hb;subst hb;intro e;subst e;exact tT.1 h1 ha⟩
   ·rw [zF,List.nodup_append]
    refine⟨h.born,by simp,fun a ha b hb=>?_⟩
    simp at hb
    subst hb
    obtain⟨x,hx,rfl⟩:=List.mem_map.1 ha
    have:=h.lt x hx
    omega
   ·intro x hx
    rcases List.mem_append.1 hx with hx|hx
    ·have:=h.lt x hx;omega
    ·simp at hx;subst hx;show c<c+1;omega
 | some i=>
   rw [hi] at hk
   obtain⟨x,h1,h2,h3,_,h5⟩:=hk
   rw [h5,show ko m k c=c by simp [ko,h3]]
   obtain⟨hlt,rfl⟩:=zi.1 h1
   refine⟨?_,?_,?_⟩
   ·rw [List.map_set]
    rw [show(m.map (·.1)).set i k=m.map (·.1) by rw [← h2];apply List.ext_getElem?;intro j;rw [List.getElem?_set];by_cases hj:i=j
                                                 ·subst hj;simp [hlt]
                                                 ·simp [hj]]
    exact h.keys
   ·rw [List.map_set]
    rw [show(m.map (·.2.2)).set i m[i].2.2=m.map (·.2.2) by apply List.ext_getElem?;intro j;rw [List.getElem?_set];by_cases hj:i=j
                                                            ·subst hj;simp [hlt]
                                                            ·simp [hj]]
    exact h.born
   ·intro y hy
    rcases List.mem_or_eq_of_mem_set hy with hy|rfl
    ·exact h.lt y hy
    ·exact h.lt m[i] (zK hlt)
omit [DecidableEq K] in
theorem KOk.sub{m m':List (K×V×Nat)}{c:Nat}(h:KOk m c)(hs:m'.Sublist m):KOk m' c:=⟨h.keys.sublist (hs.map _),h.born.sublist (hs.map _),fun x hx=>h.lt x (hs.subset hx)⟩
theorem vO(m:List (K×V×Nat))(k:K):(hY m k).Sublist m:=by
 induction m with
 | nil=>exact List.Sublist.refl _
 | cons y m ih=>
   unfold hY
   split
   ·exact List.sublist_cons_self _ _
   ·exact ih.cons_cons _
theorem KOk.del{m:List (K×V×Nat)}{c:Nat}(h:KOk m c)(k:K):KOk (hY m k) c:=h.sub (vO m k)
omit [DecidableEq K] in
theorem KOk.eq{m:List (K×V×Nat)}{c:Nat}(h:KOk m c){x y:K×V×Nat}(hx:x∈m)(hy:y∈m)(hb:x.2.2=y.2.2):x=y:=by
 obtain⟨i,hi⟩:=List.getElem?_of_mem hx
 obtain⟨j,hj⟩:=List.getElem?_of_mem hy
 obtain⟨hi',rfl⟩:=zi.1 hi
 obtain⟨hj',rfl⟩:=zi.1 hj
 have:i=j:=by
  refine(List.getElem_inj (h₀:=by simpa using hi') (h₁:=by simpa using hj') h.born).1 ?_
  simpa using hb
 subst this
 rfl
omit [DecidableEq K] in
theorem KOk.nodup{m:List (K×V×Nat)}{c:Nat}(h:KOk m c):m.Nodup:=by
 have:=h.born
 exact List.Pairwise.of_map (·.2.2) (fun a b hab e=>hab (by rw [e])) this
theorem eN{A B:Type}(f:A→B): ∀ (l:List A) (i:Nat),(l.map f).eraseIdx i=(l.eraseIdx i).map f
 | [],_=>rfl
 | x :: l,0=>rfl
 | x :: l,i+1=>by simp [eN f l i]
abbrev itV(b c:Nat)(done:List (K×V×Nat)):VO:= .iter (some b) c (done.map (·.2.2)) c
variable {P:Program} {T:Tr SV} {H:aK} {nx:Nat} {d:Option Tmp} {ty:TypeId} {pos:String} {af:Array Edge} {gd:Option (Nat×Bool)}
theorem jA{kt:TypeId}{enc:K→Value}{val:V→SV}(hE:KEnc P kt enc)(m:List (K×V×Nat))(k:K):jW P kt (enc k) (lQ enc val m)=some (m.findIdx? fun x=>decide (x.1=k)):=by
 have:=hE.find (m.map fun x=>(x.1,val x.2.1,x.2.2)) k
 rw [List.map_map] at this
 rw [show lQ enc val m=m.map ((fun x:K×SV×Nat=>(enc x.1,x.2)) ∘ fun x:K×V×Nat=>(x.1,val x.2.1,x.2.2))from rfl,this]
 congr 1
 rw [List.findIdx?_map]
 rfl
theorem pF{enc:K→Value}{val:V→SV}{m:List (K×V×Nat)}{c:Nat}{t kt e:TypeId}{x y:Operand}{b:Nat}{kk:K}{v:V}{ok:Bool}(hx:ao T x=some (.mp b))(hy:ao T y=some (.sc (enc kk)))(hu:P.underlying t=some (.map kt e))(hE:KEnc P kt enc)
 (hb:H.at' b=some (eK enc val m c)) (hg:cr m kk=some v):ReadDoes P T H ⟨d,.lookup t x y ok,ty,pos,af,gd⟩ (bif ok then .tup [val v,.sc (.bool true)] else val v):=by
 refine eM ?_
 have hk:=ye m kk
 unfold cQ
 simp only [wG,hy,SV.lit,zH,hx,gl,hu,hb,jA hE]
 cases hi:m.findIdx? fun x=>decide (x.1=kk)with
 | none=>rw [hi] at hk;rw [hk.1] at hg;cases hg
 | some i=>
   rw [hi] at hk
   obtain⟨z,h1,_,h3,_⟩:=hk
   rw [hg] at h3
   simp only [zd] at h3
   subst h3
   simp only [List.getElem?_map,h1,zG]
theorem mD{enc:K→Value}{val:V→SV}{m:List (K×V×Nat)}{c:Nat}{t kt e:TypeId}{x y:Operand}{b:Nat}{kk:K}{z:Value}{ok:Bool}(hx:ao T x=some (.mp b))(hy:ao T y=some (.sc (enc kk)))(hu:P.underlying t=some (.map kt e))(hE:KEnc P kt enc)
 (hb:H.at' b=some (eK enc val m c)) (hg:cr m kk=none) (hz:cH P e=some z):ReadDoes P T H ⟨d,.lookup t x y ok,ty,pos,af,gd⟩ (bif ok then .tup [.sc z,.sc (.bool false)] else .sc z):=by
 refine eM ?_
 have hk:=ye m kk
 unfold cQ
 simp only [wG,hy,SV.lit,zH,hx,gl,hu,hb,jA hE]
 cases hi:m.findIdx? fun x=>decide (x.1=kk)with
 | none=>simp only [hz]
 | some i=>
   rw [hi] at hk
   obtain⟨z,h1,_,h3,_⟩:=hk
   rw [hg] at h3
   cases h3
theorem qD{enc:K→Value}{val:V→SV}{m:List (K×V×Nat)}{c:Nat}{t kt e:TypeId}{x y w:Operand}{b:Nat}{kk:K}{v:V}(hx:ao T x=some (.mp b))(hy:ao T y=some (.sc (enc kk)))(hu:P.underlying t=some (.map kt e))(hE:KEnc P kt enc)
 (hb:H.at' b=some (eK enc val m c)) (hw:ao T w=some (val v)):OpDoes P T H nx ⟨d,.mapUpdate t x y w,ty,pos,af,gd⟩ (.skip,H.set b (eK enc val (cZ m kk v c) (ko m kk c)),nx):=by
 refine jX ?_
 have hk:=ye m kk
 unfold gH
 simp only [wG,hy,SV.lit,zH,hx,hw,mc,hu,hb,putK,hE.check,jA hE]
 cases hi:m.findIdx? fun x=>decide (x.1=kk)with
 | none=>
   rw [hi] at hk
   obtain⟨h1,_,h3⟩:=hk
   simp only [eK,lQ,h3,ko,h1,zF,zC,List.map_nil]
 | some i=>
   rw [hi] at hk
   obtain⟨z,h1,h2,h3,_,h5⟩:=hk
   simp only [eK,lQ,h5,ko,h3,List.getElem?_map,h1,zG,h2,hE.bits,cond_true,List.map_set]
theorem nS{enc:K→Value}{val:V→SV}{m:List (K×V×Nat)}{c:Nat}{t kt e:TypeId}{x y:Operand}{b:Nat}{kk:K}(hx:ao T x=some (.mp b))(hy:ao T y=some (.sc (enc kk)))(hu:P.underlying t=some (.map kt e))(hE:KEnc P kt enc)
 (hb:H.at' b=some (eK enc val m c)):OpDoes P T H nx ⟨d,.call {callee:= .builtin .delete,args:= #[x,y],argTypes:= #[t,kt]},ty,pos,af,gd⟩ (.val (.sc (.tuple #[])),H.set b (eK enc val (hY m kk) c),nx):=by
 refine jX ?_
 have hk:=ye m kk
 unfold gH
 simp only [dQ,hx,hy,zH,gA,SV.lit,lg,hu,hb,jA hE]
 cases hi:m.findIdx? fun x=>decide (x.1=kk)with
 | none=>
   rw [hi] at hk
   simp only [eK,hk.2.1]
 | some i=>
   rw [hi] at hk
   obtain⟨z,h1,h2,h3,h4,h5⟩:=hk
   simp only [eK,lQ,h4,eN]
omit [DecidableEq K] in
theorem gN{enc:K→Value}{val:V→SV}{m:List (K×V×Nat)}{c:Nat}{t kt e:TypeId}{x:Operand}{b:Nat}(hx:ao T x=some (.mp b))(hu:P.underlying t=some (.map kt e))(hb:H.at' b=some (eK enc val m c)) :
 ReadDoes P T H ⟨d,.call {callee:= .builtin .len,args:= #[x],argTypes:= #[t]},ty,pos,af,gd⟩ (.sc (.int .i64 m.length)):=by
 refine eM ?_
 unfold cQ
 simp only [lj,hx,zH,vL,hu,hb,List.length_map]
omit [DecidableEq K] in
theorem qC{enc:K→Value}{val:V→SV}{m:List (K×V×Nat)}{c:Nat}{t kt e:TypeId}{x:Operand}{b:Nat}(hx:ao T x=some (.mp b))(hu:P.underlying t=some (.map kt e))(hb:H.at' b=some (eK enc val m c)) :
 OpDoes P T H nx ⟨d,.range t x,ty,pos,af,gd⟩ (.val (.ptr nx 0),H.set nx (itV b c ([]:List (K×V×Nat))),nx+1):=by
 refine jX ?_
 unfold gH
 simp only [hx,zH,qA,hu,hb]
 rfl
omit [DecidableEq K] in
theorem vy{enc:K→Value}{val:V→SV}{m:List (K×V×Nat)}{c:Nat}{it:Operand}{b r:Nat}{done:List (K×V×Nat)}{x:K×V×Nat}(hx:ao T it=some (.ptr r 0))(hr:H.at' r=some (itV b c (done ++ [x])))(hb:H.at' b=some (eK enc val m c))(hok:KOk m c)(hm:x∈m) :
 ReadDoes P T H ⟨d,.entry it,ty,pos,af,gd⟩ (.tup [.sc (enc x.1),val x.2.1]):=by
 refine eM ?_
 unfold cQ
 simp only [hx,zH,rd,hr,zF,zC,List.map_nil,List.getLast?_append,List.getLast?_singleton,Option.some_or,hb,Nat.beq_refl,cond_true]
 have hf:(lQ enc val m).find? (fun y=>Nat.beq y.2.2 x.2.2)=some (enc x.1,val x.2.1,x.2.2):=by
  have:m.find? (fun y=>Nat.beq y.2.2 x.2.2)=some x:=by
   cases hh:m.find? (fun y=>Nat.beq y.2.2 x.2.2)with
   | none=>exact absurd (List.find?_eq_none.1 hh x hm) (by simp)
   | some y=>
     have h1:=List.find?_some hh
     exact congrArg some (hok.eq (List.mem_of_find?_eq_some hh) hm (Nat.eq_of_beq_eq_true h1))
  rw [lQ,List.find?_map,show((fun y:Value×SV×Nat=>Nat.beq y.2.2 x.2.2) ∘ fun x:K×V×Nat=>(enc x.1,val x.2.1,x.2.2))=fun y:K×V×Nat=>Nat.beq y.2.2 x.2.2 from rfl,this]
  rfl
 rw [hf]
end
section
variable {P:Program} {T:Tr SV} {H:aK} {nx:Nat} {d:Option Tmp} {ty:TypeId} {pos:String} {af:Array Edge} {gd:Option (Nat×Bool)}
theorem vw{t yt:TypeId}{x y:Operand}{s:SV}{v:Value}{d0:TypeDesc}(hx:ao T x=some s)(hy:ao T y=some (.sc v))(hu:P.underlying t=some d0)(hn:jx s v d0=true):ReadDoes P T H ⟨d,.binOp .eql t x y yt,ty,pos,af,gd⟩ (.sc (.bool false)):=by
 refine eM ?_
 unfold cQ
 simp only [hx,hy,zH,k9,hu,hn,cond_true]
theorem qw{t yt:TypeId}{x y:Operand}{s:SV}{v:Value}{d0:TypeDesc}(hx:ao T x=some s)(hy:ao T y=some (.sc v))(hu:P.underlying t=some d0)(hn:jx s v d0=true):ReadDoes P T H ⟨d,.binOp .neq t x y yt,ty,pos,af,gd⟩ (.sc (.bool true)):=by
 refine eM ?_
 unfold cQ
 simp only [hx,hy,zH,k9,hu,hn,cond_true]
def yc:Value→Bool
 | .pointer none=>true
 | .map none=>true
 | _=>false
def yd:Value→TypeDesc→Bool
 | .pointer none,.pointer _=>true
 | .map none,.map _ _=>true
 | _,_=>false
theorem oU{t e:TypeId}(n:Nat)(hu:P.underlying t=some (.pointer e))(w:World):(Op.equalIn (n+1) t (.pointer none) (.pointer none)).run P w = .ok true w:=by
 simp [Op.equalIn,run_underlying hu]
theorem oV{t k e:TypeId}(n:Nat)(hu:P.underlying t=some (.map k e))(w:World):(Op.equalIn (n+1) t (.map none) (.map none)).run P w = .ok true w:=by
 simp [Op.equalIn,run_underlying hu]
theorem oS{t:TypeId}{v:Value}{d0:TypeDesc}(hv:yc v=true)(hu:P.underlying t=some d0)(hk:yd v d0=true)(w:World):(Op.equal t v v).run P w = .ok true w:=by
 cases v with
 | pointer a=>
   cases a with
   | some a=>cases hv
   | none=>cases d0 with
     | pointer e=>exact oU 9999 hu w
     | _=>cases hk
 | map a=>
   cases a with
   | some a=>cases hv
   | none=>cases d0 with
     | map k e=>exact oV 9999 hu w
     | _=>cases hk
 | _=>cases hv
theorem vu{t yt:TypeId}{x y:Operand}{v:Value}{d0:TypeDesc}(hx:ao T x=some (.sc v))(hy:ao T y=some (.sc v))(hv:yc v=true)(hu:P.underlying t=some d0)(hk:yd v d0=true):ReadDoes P T H ⟨d,.binOp .eql t x y yt,ty,pos,af,gd⟩ (.sc (.bool true)):=by
 refine cu fun ev w he=>?_
 have e1:=he x _ hx _ rfl
 have e2:=he y _ hy _ rfl
 have hg:(eqGuard .eql t x y v v).run P w = .ok () w:=by cases v <;> first|rfl|cases hv
 have hq:(Op.equal t v v).run P w = .ok true w:=oS hv hu hk w
 have hb:(binOp .eql t v v).run P w = .ok (.bool true) w:=by
  cases v <;> first|(simp only [binOp,Sem.run_bind,hq,Result.andThen_ok,Sem.run_pure];done)|cases hv
 simp only [execOp,e1,e2,Sem.run_bind,hg,hb,Result.andThen_ok,Sem.run_pure]
theorem qv{t yt:TypeId}{x y:Operand}{v:Value}{d0:TypeDesc}(hx:ao T x=some (.sc v))(hy:ao T y=some (.sc v))(hv:yc v=true)(hu:P.underlying t=some d0)(hk:yd v d0=true):ReadDoes P T H ⟨d,.binOp .neq t x y yt,ty,pos,af,gd⟩ (.sc (.bool false)):=by
 refine cu fun ev w he=>?_
 have e1:=he x _ hx _ rfl
 have e2:=he y _ hy _ rfl
 have hg:(eqGuard .neq t x y v v).run P w = .ok () w:=by cases v <;> first|rfl|cases hv
 have hq:(Op.equal t v v).run P w = .ok true w:=oS hv hu hk w
 have hb:(binOp .neq t v v).run P w = .ok (.bool false) w:=by
  cases v <;> first|(simp only [binOp,Sem.run_bind,hq,Result.andThen_ok,Sem.run_pure,Bool.not_true];done)|cases hv
 simp only [execOp,e1,e2,Sem.run_bind,hg,hb,Result.andThen_ok,Sem.run_pure]
theorem pG{x:Operand}{i:Nat}{xs:Array Value}{v:Value}(h:ao T x=some (.sc (.tuple xs)))(hi:xs[i]? =some v):ReadDoes P T H ⟨d,.extract x i,ty,pos,af,gd⟩ (.sc v):=by
 refine eM ?_
 unfold cQ
 simp only [h,zH,xE,hi,zG]
theorem mb{t:TypeId}:OpDoes P T H nx ⟨d,.makeMap t none,ty,pos,af,gd⟩ (.val (.mp nx),H.set nx (.map [] 0),nx+1):=jX rfl
end
abbrev wR{A:Type}(t:TypeId)(f:A→List Value)(d:Array A):VO:=ak t ((d.toList.flatMap f).map .sc)
section
variable {P:Program} {T:Tr SV} {H:aK} {nx:Nat} {d0:Option Tmp} {ty:TypeId} {pos:String} {af:Array Edge} {gd:Option (Nat×Bool)}
theorem xx{t e:TypeId}{x y:Operand}{b o n sz:Nat}{k:IntKind}{j:Int}{q:Nat}(hx:ao T x=some (.ptr b o))(hy:ao T y=some (.sc (.int k j)))(hu:P.underlying t=some (.array n e))(hs:br P e=some sz)(hq:j=(q:Int))(hi:q<n) :
 ReadDoes P T H ⟨d0,.indexAddr t x y,ty,pos,af,gd⟩ (.ptr b (o+q*sz)):=by
 refine eM ?_
 subst hq
 unfold cQ
 simp only [sh,hx,hy,zH]
 show(dc P H t q (.ptr b o))=_
 simp only [dc,hu,hs]
 rw [show Nat.blt q n=true from zm hi]
 rfl
theorem yL{A:Type} [Inhabited A]{f:A→List Value}{t rt:TypeId}{a x:Operand}{b sz o q:Nat}{d:Array A}{v:A}{u:SV}(ha:ao T a=some (.ptr b o))(hx:ao T x=some u)(hu:u.cells=(f v).map .sc)(hs:br P t=some sz)(hf:RecOf f sz)(hb:H.at' b=some (wR rt f d))(ho:o=q*sz)(hi:q<d.size) :
 OpDoes P T H nx ⟨d0,.store t a x,ty,pos,af,gd⟩ (.skip,H.set b (wR rt f (d.setIfInBounds q v)),nx):=by
 subst ho
 have hsz:d.toList.length=d.size:=rfl
 have hlen:(d.toList.flatMap f).length=d.size*sz:=by rw [gr hf.len,hsz]
 have hfit:=qi (sz:=sz) hi (zA _)
 have h:=iv (d:=d0) (ty:=ty) (pos:=pos) (af:=af) (gd:=gd) (nx:=nx) hs ha hx hu hb (by rw [List.length_map,hf.len]) (by rw [List.length_map,hlen];exact hfit) (ii (hf.one v))
 have e:=qV hf.len (xs:=d.toList) (i:=q) (by rw [hsz];exact hi) v
 rw [← List.map_take,←List.map_drop,←zF,←zF,e] at h
 unfold wR
 rw [Array.toList_setIfInBounds]
 exact h
end
section
variable {P:Program} {T:Tr SV} {H:aK} {nx:Nat} {d:Option Tmp} {ty:TypeId} {pos:String} {af:Array Edge} {gd:Option (Nat×Bool)}
theorem pC{b m sz:Nat}{ro:Bool}{t:TypeId}{l:List SV}{vs:List Value}(hb:H.at' b=some (.row ro m sz t (eH l)))(hl:l=vs.map .sc)(hlen:vs.length=m*sz):RdV P H sz (.slu b 0 m) m vs:=by
 subst hl
 rw [jC] at hb
 exact pD hb (by omega) (by rw [Nat.zero_mul,List.drop_zero];exact zq (by omega)) hlen
theorem tv{A:Type}{f:A→List Value}{xs:List A}{a:A}{t tx el:TypeId}{sz b r q:Nat}{s x:Operand}{rq:Bool}{tq:TypeId}{cs:List SV}(hx0:ao T s=some (.slu r 0 xs.length))(hx:ao T x=some (.slu q 0 1))(hu:P.underlying t=some (.slice el))
 (hk:(∃ e',P.underlying tx=some (.slice e'))∨P.underlying tx=some .string) (hs:br P el=some sz) (h0:Nat.blt 0 sz=true) (hz:eI P el sz=true) (hb:(P.info? el).map (·.bytes)=some b) (hro:H.at' r=some (dat false xs.length sz el (xs.flatMap f)))
 (hq:H.at' q=some (.row rq 1 sz tq (eH cs))) (hcs:cs=(f a).map .sc) (hf:RecOf f sz) (hm1:(xs.length+1)*b≤140737488355328) (hm2:xs.length+1≤1000000000) :
 OpDoes P T H nx ⟨d,.call {callee:= .builtin .append,args:= #[s,x],argTypes:= #[t,tx]},ty,pos,af,gd⟩ (.val (.slu nx 0 (xs ++ [a]).length),(H.del r).set nx (dat false (xs ++ [a]).length sz el ((xs ++ [a]).flatMap f)),nx+1):=by
 have h:=nU (P:=P) (T:=T) (H:=H) (nx:=nx) (d:=d) (ty:=ty) (pos:=pos) (af:=af) (gd:=gd) (eo:=0) (n:=xs.length) (m:=1) (vs:=f a) (ws:=xs.flatMap f) hu hk hs (bu h0) hz hb hx0 hx (by rw [Nat.zero_add];exact hro)
  (by rw [Nat.zero_mul,List.drop_zero];exact zq (by rw [gr hf.len];omega)) (gr hf.len xs) (pC hq hcs (by rw [hf.len];omega)) (hf.one a) (by decide) hm1 hm2
 rw [show(xs ++ [a]).length=xs.length+1 by simp,show(xs ++ [a]).flatMap f=xs.flatMap f ++ f a by simp]
 exact h
end
section
variable {P:Program} {ro:Option Nat} {fn nt nx:Nat} {T:Tr SV} {k:List AIt} {dfs:List ADf} {H:aK} {Q:Pst} {ops:Array Oper} {i:Nat} {l:List Oper} {d:Option Tmp} {ty:TypeId} {pos:String} {af:Array Edge} {gd:Option (Nat×Bool)}
theorem kS{t:TypeId}{dd:Nat}(hw:aq T ops ⟨some dd,.makeMap t none,ty,pos,af,gd⟩=some true)(hd:Nat.blt dd nt=true)
 (h:Wp P ro ⟨fn,nt,T.set dd (.mp nx),.inReg ops (i+1) l :: k,dfs,(H.set nx (.map [] 0)),(nx+1)⟩ Q):Wp P ro ⟨fn,nt,T,.inReg ops i (⟨some dd,.makeMap t none,ty,pos,af,gd⟩ :: l) :: k,dfs,H,nx⟩ Q:=
 bC hw (.inr (fun _ h=>by cases h)) (mb) (by rw [aC hd];exact h)
theorem wZ{K V:Type} [DecidableEq K]{enc:K→Value}{val:V→SV}{m:List (K×V×Nat)}{c:Nat}{t kt e:TypeId}{x y:Operand}{b:Nat}{kk:K}{v:V}{dd:Nat}(hw:aq T ops ⟨some dd,.lookup t x y true,ty,pos,af,gd⟩=some true)(hd:Nat.blt dd nt=true)(hx:ao T x=some (.mp b))(hy:ao T y=some (.sc (enc kk)))(hu:P.underlying t=some (.map kt e))(hE:KEnc P kt enc)(hb:H.at' b=some (eK enc val m c))(hg:cr m kk=some v)
 (h:Wp P ro ⟨fn,nt,T.set dd (.tup [val v,.sc (.bool true)]),.inReg ops (i+1) l :: k,dfs,H,nx⟩ Q):Wp P ro ⟨fn,nt,T,.inReg ops i (⟨some dd,.lookup t x y true,ty,pos,af,gd⟩ :: l) :: k,dfs,H,nx⟩ Q:=
 bC hw (.inr (fun _ h=>by cases h)) ((pF (ok:=true) hx hy hu hE hb hg).does) (by rw [aC hd];exact h)
theorem w6{K V:Type} [DecidableEq K]{enc:K→Value}{val:V→SV}{m:List (K×V×Nat)}{c:Nat}{t kt e:TypeId}{x y:Operand}{b:Nat}{kk:K}{z:Value}{dd:Nat}(hw:aq T ops ⟨some dd,.lookup t x y true,ty,pos,af,gd⟩=some true)(hd:Nat.blt dd nt=true)(hx:ao T x=some (.mp b))(hy:ao T y=some (.sc (enc kk)))(hu:P.underlying t=some (.map kt e))(hE:KEnc P kt enc)(hb:H.at' b=some (eK enc val m c))(hg:cr m kk=none)(hz:cH P e=some z)
 (h:Wp P ro ⟨fn,nt,T.set dd (.tup [.sc z,.sc (.bool false)]),.inReg ops (i+1) l :: k,dfs,H,nx⟩ Q):Wp P ro ⟨fn,nt,T,.inReg ops i (⟨some dd,.lookup t x y true,ty,pos,af,gd⟩ :: l) :: k,dfs,H,nx⟩ Q:=
 bC hw (.inr (fun _ h=>by cases h)) ((mD (ok:=true) hx hy hu hE hb hg hz).does) (by rw [aC hd];exact h)
theorem fx{K V:Type} [DecidableEq K]{enc:K→Value}{val:V→SV}{m:List (K×V×Nat)}{c:Nat}{t kt e:TypeId}{x y:Operand}{b:Nat}{kk:K}{v:V}{dd:Nat}(hw:aq T ops ⟨some dd,.lookup t x y false,ty,pos,af,gd⟩=some true)(hd:Nat.blt dd nt=true)(hx:ao T x=some (.mp b))(hy:ao T y=some (.sc (enc kk)))(hu:P.underlying t=some (.map kt e))(hE:KEnc P kt enc)(hb:H.at' b=some (eK enc val m c))(hg:cr m kk=some v)
 (h:Wp P ro ⟨fn,nt,T.set dd (val v),.inReg ops (i+1) l :: k,dfs,H,nx⟩ Q):Wp P ro ⟨fn,nt,T,.inReg ops i (⟨some dd,.lookup t x y false,ty,pos,af,gd⟩ :: l) :: k,dfs,H,nx⟩ Q:=
 bC hw (.inr (fun _ h=>by cases h)) ((pF (ok:=false) hx hy hu hE hb hg).does) (by rw [aC hd];exact h)
theorem pp{K V:Type} [DecidableEq K]{enc:K→Value}{val:V→SV}{m:List (K×V×Nat)}{c:Nat}{t kt e:TypeId}{x y:Operand}{b:Nat}{kk:K}{z:Value}{dd:Nat}(hw:aq T ops ⟨some dd,.lookup t x y false,ty,pos,af,gd⟩=some true)(hd:Nat.blt dd nt=true)(hx:ao T x=some (.mp b))(hy:ao T y=some (.sc (enc kk)))(hu:P.underlying t=some (.map kt e))(hE:KEnc P kt enc)(hb:H.at' b=some (eK enc val m c))(hg:cr m kk=none)(hz:cH P e=some z)
 (h:Wp P ro ⟨fn,nt,T.set dd (.sc z),.inReg ops (i+1) l :: k,dfs,H,nx⟩ Q):Wp P ro ⟨fn,nt,T,.inReg ops i (⟨some dd,.lookup t x y false,ty,pos,af,gd⟩ :: l) :: k,dfs,H,nx⟩ Q:=
 bC hw (.inr (fun _ h=>by cases h)) ((mD (ok:=false) hx hy hu hE hb hg hz).does) (by rw [aC hd];exact h)
theorem sy{K V:Type} [DecidableEq K]{enc:K→Value}{val:V→SV}{m:List (K×V×Nat)}{c:Nat}{t kt e:TypeId}{x y:Operand}{b:Nat}{kk:K}{w:Operand}{v:V}(hw:aq T ops ⟨none,.mapUpdate t x y w,ty,pos,af,gd⟩=some true)(hx:ao T x=some (.mp b))(hy:ao T y=some (.sc (enc kk)))(hu:P.underlying t=some (.map kt e))(hE:KEnc P kt enc)(hb:H.at' b=some (eK enc val m c))(hw2:ao T w=some (val v))
 (h:Wp P ro ⟨fn,nt,T,.inReg ops (i+1) l :: k,dfs,(H.set b (eK enc val (cZ m kk v c) (ko m kk c))),nx⟩ Q):Wp P ro ⟨fn,nt,T,.inReg ops i (⟨none,.mapUpdate t x y w,ty,pos,af,gd⟩ :: l) :: k,dfs,H,nx⟩ Q:=
 nr hw (.inr (fun _ h=>by cases h)) (qD hx hy hu hE hb hw2) h
theorem uO{K V:Type} [DecidableEq K]{enc:K→Value}{val:V→SV}{m:List (K×V×Nat)}{c:Nat}{t kt e:TypeId}{x:Operand}{b:Nat}{dd:Nat}(hw:aq T ops ⟨some dd,.call {callee:= .builtin .len,args:= #[x],argTypes:= #[t]},ty,pos,af,gd⟩=some true)(hd:Nat.blt dd nt=true)(hx:ao T x=some (.mp b))(hu:P.underlying t=some (.map kt e))(hb:H.at' b=some (eK enc val m c))
 (h:Wp P ro ⟨fn,nt,T.set dd (.sc (.int .i64 m.length)),.inReg ops (i+1) l :: k,dfs,H,nx⟩ Q):Wp P ro ⟨fn,nt,T,.inReg ops i (⟨some dd,.call {callee:= .builtin .len,args:= #[x],argTypes:= #[t]},ty,pos,af,gd⟩ :: l) :: k,dfs,H,nx⟩ Q:=
 bC hw (.inr (fun _ h=>by cases h)) ((gN hx hu hb).does) (by rw [aC hd];exact h)
theorem kR{K V:Type} [DecidableEq K]{enc:K→Value}{val:V→SV}{m:List (K×V×Nat)}{c:Nat}{t kt e:TypeId}{x:Operand}{b:Nat}{dd:Nat}(hw:aq T ops ⟨some dd,.range t x,ty,pos,af,gd⟩=some true)(hd:Nat.blt dd nt=true)(hx:ao T x=some (.mp b))(hu:P.underlying t=some (.map kt e))(hb:H.at' b=some (eK enc val m c))
 (h:Wp P ro ⟨fn,nt,T.set dd (.ptr nx 0),.inReg ops (i+1) l :: k,dfs,(H.set nx (itV b c ([]:List (K×V×Nat)))),(nx+1)⟩ Q):Wp P ro ⟨fn,nt,T,.inReg ops i (⟨some dd,.range t x,ty,pos,af,gd⟩ :: l) :: k,dfs,H,nx⟩ Q:=
 bC hw (.inr (fun _ h=>by cases h)) (qC hx hu hb) (by rw [aC hd];exact h)
theorem jL{K V:Type} [DecidableEq K]{enc:K→Value}{val:V→SV}{m:List (K×V×Nat)}{c:Nat}{it:Operand}{b r:Nat}{done:List (K×V×Nat)}{x:K×V×Nat}{dd:Nat}(hw:aq T ops ⟨some dd,.entry it,ty,pos,af,gd⟩=some true)(hd:Nat.blt dd nt=true)(hx:ao T it=some (.ptr r 0))(hr:H.at' r=some (itV b c (done ++ [x])))(hb:H.at' b=some (eK enc val m c))(hok:KOk m c)(hm:x∈m)
 (h:Wp P ro ⟨fn,nt,T.set dd (.tup [.sc (enc x.1),val x.2.1]),.inReg ops (i+1) l :: k,dfs,H,nx⟩ Q):Wp P ro ⟨fn,nt,T,.inReg ops i (⟨some dd,.entry it,ty,pos,af,gd⟩ :: l) :: k,dfs,H,nx⟩ Q:=
 bC hw (.inr (fun _ h=>by cases h)) ((vy hx hr hb hok hm).does) (by rw [aC hd];exact h)
theorem fy{t yt:TypeId}{x y:Operand}{s:SV}{v:Value}{d0:TypeDesc}{dd:Nat}(hw:aq T ops ⟨some dd,.binOp .eql t x y yt,ty,pos,af,gd⟩=some true)(hd:Nat.blt dd nt=true)(hx:ao T x=some s)(hy:ao T y=some (.sc v))(hu:P.underlying t=some d0)(hn:jx s v d0=true)
 (h:Wp P ro ⟨fn,nt,T.set dd (.sc (.bool false)),.inReg ops (i+1) l :: k,dfs,H,nx⟩ Q):Wp P ro ⟨fn,nt,T,.inReg ops i (⟨some dd,.binOp .eql t x y yt,ty,pos,af,gd⟩ :: l) :: k,dfs,H,nx⟩ Q:=
 bC hw (.inr (fun _ h=>by cases h)) ((vw hx hy hu hn).does) (by rw [aC hd];exact h)
theorem sx{t yt:TypeId}{x y:Operand}{s:SV}{v:Value}{d0:TypeDesc}{dd:Nat}(hw:aq T ops ⟨some dd,.binOp .neq t x y yt,ty,pos,af,gd⟩=some true)(hd:Nat.blt dd nt=true)(hx:ao T x=some s)(hy:ao T y=some (.sc v))(hu:P.underlying t=some d0)(hn:jx s v d0=true)
 (h:Wp P ro ⟨fn,nt,T.set dd (.sc (.bool true)),.inReg ops (i+1) l :: k,dfs,H,nx⟩ Q):Wp P ro ⟨fn,nt,T,.inReg ops i (⟨some dd,.binOp .neq t x y yt,ty,pos,af,gd⟩ :: l) :: k,dfs,H,nx⟩ Q:=
 bC hw (.inr (fun _ h=>by cases h)) ((qw hx hy hu hn).does) (by rw [aC hd];exact h)
theorem w9{t yt:TypeId}{x y:Operand}{v:Value}{d0:TypeDesc}{dd:Nat}(hw:aq T ops ⟨some dd,.binOp .eql t x y yt,ty,pos,af,gd⟩=some true)(hd:Nat.blt dd nt=true)(hx:ao T x=some (.sc v))(hy:ao T y=some (.sc v))(hv:yc v=true)(hu:P.underlying t=some d0)(hk:yd v d0=true)
 (h:Wp P ro ⟨fn,nt,T.set dd (.sc (.bool true)),.inReg ops (i+1) l :: k,dfs,H,nx⟩ Q):Wp P ro ⟨fn,nt,T,.inReg ops i (⟨some dd,.binOp .eql t x y yt,ty,pos,af,gd⟩ :: l) :: k,dfs,H,nx⟩ Q:=
 bC hw (.inr (fun _ h=>by cases h)) ((vu hx hy hv hu hk).does) (by rw [aC hd];exact h)
theorem sw{t yt:TypeId}{x y:Operand}{v:Value}{d0:TypeDesc}{dd:Nat}(hw:aq T ops ⟨some dd,.binOp .neq t x y yt,ty,pos,af,gd⟩=some true)(hd:Nat.blt dd nt=true)(hx:ao T x=some (.sc v))(hy:ao T y=some (.sc v))(hv:yc v=true)(hu:P.underlying t=some d0)(hk:yd v d0=true)
 (h:Wp P ro ⟨fn,nt,T.set dd (.sc (.bool false)),.inReg ops (i+1) l :: k,dfs,H,nx⟩ Q):Wp P ro ⟨fn,nt,T,.inReg ops i (⟨some dd,.binOp .neq t x y yt,ty,pos,af,gd⟩ :: l) :: k,dfs,H,nx⟩ Q:=
 bC hw (.inr (fun _ h=>by cases h)) ((qv hx hy hv hu hk).does) (by rw [aC hd];exact h)
theorem eR{x:Operand}{j:Nat}{xs:Array Value}{v:Value}{dd:Nat}(hw:aq T ops ⟨some dd,.extract x j,ty,pos,af,gd⟩=some true)(hd:Nat.blt dd nt=true)(hx:ao T x=some (.sc (.tuple xs)))(hj:xs[j]? =some v)
 (h:Wp P ro ⟨fn,nt,T.set dd (.sc v),.inReg ops (i+1) l :: k,dfs,H,nx⟩ Q):Wp P ro ⟨fn,nt,T,.inReg ops i (⟨some dd,.extract x j,ty,pos,af,gd⟩ :: l) :: k,dfs,H,nx⟩ Q:=
 bC hw (.inr (fun _ h=>by cases h)) ((pG hx hj).does) (by rw [aC hd];exact h)
theorem yr{t e:TypeId}{x y:Operand}{b o n sz:Nat}{kd:IntKind}{j:Int}{q:Nat}{dd:Nat}(hw:aq T ops ⟨some dd,.indexAddr t x y,ty,pos,af,gd⟩=some true)(hd:Nat.blt dd nt=true)(hx:ao T x=some (.ptr b o))(hy:ao T y=some (.sc (.int kd j)))(hu:P.underlying t=some (.array n e))(hs:br P e=some sz)(hq:j=(q:Int))(hi:q<n)
 (h:Wp P ro ⟨fn,nt,T.set dd (.ptr b (o+q*sz)),.inReg ops (i+1) l :: k,dfs,H,nx⟩ Q):Wp P ro ⟨fn,nt,T,.inReg ops i (⟨some dd,.indexAddr t x y,ty,pos,af,gd⟩ :: l) :: k,dfs,H,nx⟩ Q:=
 bC hw (.inr (fun _ h=>by cases h)) ((xx hx hy hu hs hq hi).does) (by rw [aC hd];exact h)
theorem w_stA{A:Type} [Inhabited A]{f:A→List Value}{t rt:TypeId}{a x:Operand}{b sz o:Nat}{d:Array A}{v:A}{u:SV}(q:Nat)(hw:aq T ops ⟨none,.store t a x,ty,pos,af,gd⟩=some true)(hx:ao T a=some (.ptr b o))(hv:ao T x=some u)(hu:u.cells=(f v).map .sc)(hs:br P t=some sz)(hf:RecOf f sz)(hb:H.at' b=some (wR rt f d))(ho:o=q*sz)(hi:q<d.size)
 (h:Wp P ro ⟨fn,nt,T,.inReg ops (i+1) l :: k,dfs,(H.set b (wR rt f (d.setIfInBounds q v))),nx⟩ Q):Wp P ro ⟨fn,nt,T,.inReg ops i (⟨none,.store t a x,ty,pos,af,gd⟩ :: l) :: k,dfs,H,nx⟩ Q:=
 nr hw (.inr (fun _ h=>by cases h)) (yL (q:=q) hx hv hu hs hf hb ho hi) h
theorem be{t bt:TypeId}{a x:Operand}{b o n:Nat}{cs vs:List SV}{v:SV}(hw:aq T ops ⟨none,.store t a x,ty,pos,af,gd⟩=some true)(ha:ao T a=some (.ptr b o))(hx:ao T x=some v)(hv:v.cells=vs)(hs:br P t=some n)(hb:H.at' b=some (ak bt cs))(hn:vs.length=n)(ho:o+n≤cs.length)(h1:c7 vs=true)
 (h:Wp P ro ⟨fn,nt,T,.inReg ops (i+1) l :: k,dfs,(H.set b (ak bt (cs.take o ++ vs ++ cs.drop (o+n)))),nx⟩ Q):Wp P ro ⟨fn,nt,T,.inReg ops i (⟨none,.store t a x,ty,pos,af,gd⟩ :: l) :: k,dfs,H,nx⟩ Q:=
 nr hw (.inr (fun _ h=>by cases h)) (iv hs ha hx hv hb hn ho h1) h
theorem wt{A:Type}{f:A→List Value}{xs:List A}{a:A}{t tx el:TypeId}{sz b r q:Nat}{s x:Operand}{rq:Bool}{tq:TypeId}{cs:List SV}{dd:Nat}(hw:aq T ops ⟨some dd,.call {callee:= .builtin .append,args:= #[s,x],argTypes:= #[t,tx]},ty,pos,af,gd⟩=some true)(hd:Nat.blt dd nt=true)(hx0:ao T s=some (.slu r 0 xs.length))(hx:ao T x=some (.slu q 0 1))(hu:P.underlying t=some (.slice el))(hk:(∃ e',P.underlying tx=some (.slice e'))∨P.underlying tx=some .string)(hs:br P el=some sz)(h0:Nat.blt 0 sz=true)(hz:eI P el sz=true)(hb:(P.info? el).map (·.bytes)=some b)(hro:H.at' r=some (dat false xs.length sz el (xs.flatMap f)))(hq:H.at' q=some (.row rq 1 sz tq (eH cs)))(hcs:cs=(f a).map .sc)(hf:RecOf f sz)(hm1:(xs.length+1)*b≤140737488355328)(hm2:xs.length+1≤1000000000)
 (h:Wp P ro ⟨fn,nt,T.set dd (.slu nx 0 (xs ++ [a]).length),.inReg ops (i+1) l :: k,dfs,((H.del r).set nx (dat false (xs ++ [a]).length sz el ((xs ++ [a]).flatMap f))),(nx+1)⟩ Q):Wp P ro ⟨fn,nt,T,.inReg ops i (⟨some dd,.call {callee:= .builtin .append,args:= #[s,x],argTypes:= #[t,tx]},ty,pos,af,gd⟩ :: l) :: k,dfs,H,nx⟩ Q:=
 bC hw (.inr (fun _ h=>by cases h)) (tv hx0 hx hu hk hs h0 hz hb hro hq hcs hf hm1 hm2) (by rw [aC hd];exact h)
end
section
variable {P:Program} {nt nx:Nat} {T:Tr SV} {H:aK} {ops:Array Oper} {i:Nat} {l:List Oper} {ty:TypeId} {pos:String} {af:Array Edge} {gd:Option (Nat×Bool)} {K:DS→Prop} {rs:List Rec} {Hs:List (aK×Nat)} {stg:Nat}
theorem rY{t:TypeId}{dd:Nat}(hw:aq (aA T (az ops.toList ⟨some dd,.makeMap t none,ty,pos,af,gd⟩)) ops ⟨some dd,.makeMap t none,ty,pos,af,gd⟩=some true)(hd:Nat.blt dd nt=true)
 (h:DrawK P nt ops (i+1) l ⟨T.set dd (.mp nx),(H.set nx (.map [] 0)),(nx+1),⟨i,⟨some dd,.makeMap t none,ty,pos,af,gd⟩,(aA T (az ops.toList ⟨some dd,.makeMap t none,ty,pos,af,gd⟩)),stg,true,true,(.mp nx)⟩ :: rs,((H.set nx (.map [] 0)),(nx+1)) :: Hs,stg+1⟩ K):DrawK P nt ops i (⟨some dd,.makeMap t none,ty,pos,af,gd⟩ :: l) ⟨T,H,nx,rs,Hs,stg⟩ K:=
 mg hw hd (fun _ h=>by cases h) (mb) h
theorem gu{K0 V:Type} [DecidableEq K0]{enc:K0→Value}{val:V→SV}{m:List (K0×V×Nat)}{c:Nat}{t kt e:TypeId}{x y:Operand}{b:Nat}{kk:K0}{v:V}{dd:Nat}(hw:aq (aA T (az ops.toList ⟨some dd,.lookup t x y false,ty,pos,af,gd⟩)) ops ⟨some dd,.lookup t x y false,ty,pos,af,gd⟩=some true)(hd:Nat.blt dd nt=true)(hx:ao (aA T (az ops.toList ⟨some dd,.lookup t x y false,ty,pos,af,gd⟩)) x=some (.mp b))(hy:ao (aA T (az ops.toList ⟨some dd,.lookup t x y false,ty,pos,af,gd⟩)) y=some (.sc (enc kk)))(hu:P.underlying t=some (.map kt e))(hE:KEnc P kt enc)(hb:H.at' b=some (eK enc val m c))(hg:cr m kk=some v)
 (h:DrawK P nt ops (i+1) l ⟨T.set dd (val v),H,nx,⟨i,⟨some dd,.lookup t x y false,ty,pos,af,gd⟩,(aA T (az ops.toList ⟨some dd,.lookup t x y false,ty,pos,af,gd⟩)),stg,false,true,(val v)⟩ :: rs,Hs,stg⟩ K):DrawK P nt ops i (⟨some dd,.lookup t x y false,ty,pos,af,gd⟩ :: l) ⟨T,H,nx,rs,Hs,stg⟩ K:=
 bo hw hd (fun _ h=>by cases h) (pF (ok:=false) hx hy hu hE hb hg) h
theorem vS{K0 V:Type} [DecidableEq K0]{enc:K0→Value}{val:V→SV}{m:List (K0×V×Nat)}{c:Nat}{t kt e:TypeId}{x y:Operand}{b:Nat}{kk:K0}{z:Value}{dd:Nat}(hw:aq (aA T (az ops.toList ⟨some dd,.lookup t x y false,ty,pos,af,gd⟩)) ops ⟨some dd,.lookup t x y false,ty,pos,af,gd⟩=some true)(hd:Nat.blt dd nt=true)(hx:ao (aA T (az ops.toList ⟨some dd,.lookup t x y false,ty,pos,af,gd⟩)) x=some (.mp b))(hy:ao (aA T (az ops.toList ⟨some dd,.lookup t x y false,ty,pos,af,gd⟩)) y=some (.sc (enc kk)))(hu:P.underlying t=some (.map kt e))(hE:KEnc P kt enc)(hb:H.at' b=some (eK enc val m c))(hg:cr m kk=none)(hz:cH P e=some z)
 (h:DrawK P nt ops (i+1) l ⟨T.set dd (.sc z),H,nx,⟨i,⟨some dd,.lookup t x y false,ty,pos,af,gd⟩,(aA T (az ops.toList ⟨some dd,.lookup t x y false,ty,pos,af,gd⟩)),stg,false,true,(.sc z)⟩ :: rs,Hs,stg⟩ K):DrawK P nt ops i (⟨some dd,.lookup t x y false,ty,pos,af,gd⟩ :: l) ⟨T,H,nx,rs,Hs,stg⟩ K:=
 bo hw hd (fun _ h=>by cases h) (mD (ok:=false) hx hy hu hE hb hg hz) h
theorem kJ{K0 V:Type} [DecidableEq K0]{enc:K0→Value}{val:V→SV}{m:List (K0×V×Nat)}{c:Nat}{t kt e:TypeId}{x y:Operand}{b:Nat}{kk:K0}{w:Operand}{v:V}(hw:aq (aA T (az ops.toList ⟨none,.mapUpdate t x y w,ty,pos,af,gd⟩)) ops ⟨none,.mapUpdate t x y w,ty,pos,af,gd⟩=some true)(hx:ao (aA T (az ops.toList ⟨none,.mapUpdate t x y w,ty,pos,af,gd⟩)) x=some (.mp b))(hy:ao (aA T (az ops.toList ⟨none,.mapUpdate t x y w,ty,pos,af,gd⟩)) y=some (.sc (enc kk)))(hu:P.underlying t=some (.map kt e))(hE:KEnc P kt enc)(hb:H.at' b=some (eK enc val m c))(hw2:ao (aA T (az ops.toList ⟨none,.mapUpdate t x y w,ty,pos,af,gd⟩)) w=some (val v))
 (h:DrawK P nt ops (i+1) l ⟨T,(H.set b (eK enc val (cZ m kk v c) (ko m kk c))),nx,⟨i,⟨none,.mapUpdate t x y w,ty,pos,af,gd⟩,(aA T (az ops.toList ⟨none,.mapUpdate t x y w,ty,pos,af,gd⟩)),stg,true,true,cy⟩ :: rs,((H.set b (eK enc val (cZ m kk v c) (ko m kk c))),nx) :: Hs,stg+1⟩ K):DrawK P nt ops i (⟨none,.mapUpdate t x y w,ty,pos,af,gd⟩ :: l) ⟨T,H,nx,rs,Hs,stg⟩ K:=
 lF hw (fun _ h=>by cases h) (qD hx hy hu hE hb hw2) h
theorem lC{K0 V:Type} [DecidableEq K0]{enc:K0→Value}{val:V→SV}{m:List (K0×V×Nat)}{c:Nat}{t kt e:TypeId}{x:Operand}{b:Nat}{dd:Nat}(hw:aq (aA T (az ops.toList ⟨some dd,.call {callee:= .builtin .len,args:= #[x],argTypes:= #[t]},ty,pos,af,gd⟩)) ops ⟨some dd,.call {callee:= .builtin .len,args:= #[x],argTypes:= #[t]},ty,pos,af,gd⟩=some true)(hd:Nat.blt dd nt=true)(hx:ao (aA T (az ops.toList ⟨some dd,.call {callee:= .builtin .len,args:= #[x],argTypes:= #[t]},ty,pos,af,gd⟩)) x=some (.mp b))(hu:P.underlying t=some (.map kt e))(hb:H.at' b=some (eK enc val m c))
 (h:DrawK P nt ops (i+1) l ⟨T.set dd (.sc (.int .i64 m.length)),H,nx,⟨i,⟨some dd,.call {callee:= .builtin .len,args:= #[x],argTypes:= #[t]},ty,pos,af,gd⟩,(aA T (az ops.toList ⟨some dd,.call {callee:= .builtin .len,args:= #[x],argTypes:= #[t]},ty,pos,af,gd⟩)),stg,false,true,(.sc (.int .i64 m.length))⟩ :: rs,Hs,stg⟩ K):DrawK P nt ops i (⟨some dd,.call {callee:= .builtin .len,args:= #[x],argTypes:= #[t]},ty,pos,af,gd⟩ :: l) ⟨T,H,nx,rs,Hs,stg⟩ K:=
 bo hw hd (fun _ h=>by cases h) (gN hx hu hb) h
theorem vR{t yt:TypeId}{x y:Operand}{s:SV}{v:Value}{d0:TypeDesc}{dd:Nat}(hw:aq (aA T (az ops.toList ⟨some dd,.binOp .neq t x y yt,ty,pos,af,gd⟩)) ops ⟨some dd,.binOp .neq t x y yt,ty,pos,af,gd⟩=some true)(hd:Nat.blt dd nt=true)(hx:ao (aA T (az ops.toList ⟨some dd,.binOp .neq t x y yt,ty,pos,af,gd⟩)) x=some s)(hy:ao (aA T (az ops.toList ⟨some dd,.binOp .neq t x y yt,ty,pos,af,gd⟩)) y=some (.sc v))(hu:P.underlying t=some d0)(hn:jx s v d0=true)
 (h:DrawK P nt ops (i+1) l ⟨T.set dd (.sc (.bool true)),H,nx,⟨i,⟨some dd,.binOp .neq t x y yt,ty,pos,af,gd⟩,(aA T (az ops.toList ⟨some dd,.binOp .neq t x y yt,ty,pos,af,gd⟩)),stg,false,true,(.sc (.bool true))⟩ :: rs,Hs,stg⟩ K):DrawK P nt ops i (⟨some dd,.binOp .neq t x y yt,ty,pos,af,gd⟩ :: l) ⟨T,H,nx,rs,Hs,stg⟩ K:=
 bo hw hd (fun _ h=>by cases h) (qw hx hy hu hn) h
theorem vQ{t yt:TypeId}{x y:Operand}{v:Value}{d0:TypeDesc}{dd:Nat}(hw:aq (aA T (az ops.toList ⟨some dd,.binOp .neq t x y yt,ty,pos,af,gd⟩)) ops ⟨some dd,.binOp .neq t x y yt,ty,pos,af,gd⟩=some true)(hd:Nat.blt dd nt=true)(hx:ao (aA T (az ops.toList ⟨some dd,.binOp .neq t x y yt,ty,pos,af,gd⟩)) x=some (.sc v))(hy:ao (aA T (az ops.toList ⟨some dd,.binOp .neq t x y yt,ty,pos,af,gd⟩)) y=some (.sc v))(hv:yc v=true)(hu:P.underlying t=some d0)(hk:yd v d0=true)
 (h:DrawK P nt ops (i+1) l ⟨T.set dd (.sc (.bool false)),H,nx,⟨i,⟨some dd,.binOp .neq t x y yt,ty,pos,af,gd⟩,(aA T (az ops.toList ⟨some dd,.binOp .neq t x y yt,ty,pos,af,gd⟩)),stg,false,true,(.sc (.bool false))⟩ :: rs,Hs,stg⟩ K):DrawK P nt ops i (⟨some dd,.binOp .neq t x y yt,ty,pos,af,gd⟩ :: l) ⟨T,H,nx,rs,Hs,stg⟩ K:=
 bo hw hd (fun _ h=>by cases h) (qv hx hy hv hu hk) h
theorem fT{t bt:TypeId}{a x:Operand}{b o n:Nat}{cs vs:List SV}{v:SV}(hw:aq (aA T (az ops.toList ⟨none,.store t a x,ty,pos,af,gd⟩)) ops ⟨none,.store t a x,ty,pos,af,gd⟩=some true)(ha:ao (aA T (az ops.toList ⟨none,.store t a x,ty,pos,af,gd⟩)) a=some (.ptr b o))(hx:ao (aA T (az ops.toList ⟨none,.store t a x,ty,pos,af,gd⟩)) x=some v)(hv:v.cells=vs)(hs:br P t=some n)(hb:H.at' b=some (ak bt cs))(hn:vs.length=n)(ho:o+n≤cs.length)(h1:c7 vs=true)
 (h:DrawK P nt ops (i+1) l ⟨T,(H.set b (ak bt (cs.take o ++ vs ++ cs.drop (o+n)))),nx,⟨i,⟨none,.store t a x,ty,pos,af,gd⟩,(aA T (az ops.toList ⟨none,.store t a x,ty,pos,af,gd⟩)),stg,true,true,cy⟩ :: rs,((H.set b (ak bt (cs.take o ++ vs ++ cs.drop (o+n)))),nx) :: Hs,stg+1⟩ K):DrawK P nt ops i (⟨none,.store t a x,ty,pos,af,gd⟩ :: l) ⟨T,H,nx,rs,Hs,stg⟩ K:=
 lF hw (fun _ h=>by cases h) (iv hs ha hx hv hb hn ho h1) h
theorem ui{A:Type}{f:A→List Value}{xs:List A}{a:A}{t tx el:TypeId}{sz b r q:Nat}{s x:Operand}{rq:Bool}{tq:TypeId}{cs:List SV}{dd:Nat}(hw:aq (aA T (az ops.toList ⟨some dd,.call {callee:= .builtin .append,args:= #[s,x],argTypes:= #[t,tx]},ty,pos,af,gd⟩)) ops ⟨some dd,.call {callee:= .builtin .append,args:= #[s,x],argTypes:= #[t,tx]},ty,pos,af,gd⟩=some true)(hd:Nat.blt dd nt=true)(hx0:ao (aA T (az ops.toList ⟨some dd,.call {callee:= .builtin .append,args:= #[s,x],argTypes:= #[t,tx]},ty,pos,af,gd⟩)) s=some (.slu r 0 xs.length))(hx:ao (aA T (az ops.toList ⟨some dd,.call {callee:= .builtin .append,args:= #[s,x],argTypes:= #[t,tx]},ty,pos,af,gd⟩)) x=some (.slu q 0 1))(hu:P.underlying t=some (.slice el))(hk:(∃ e',P.underlying tx=some (.slice e'))∨P.underlying tx=some .string)(hs:br P el=some sz)(h0:Nat.blt 0 sz=true)(hz:eI P el sz=true)(hb:(P.info? el).map (·.bytes)=some b)(hro:H.at' r=some (dat false xs.length sz el (xs.flatMap f)))(hq:H.at' q=some (.row rq 1 sz tq (eH cs)))(hcs:cs=(f a).map .sc)(hf:RecOf f sz)(hm1:(xs.length+1)*b≤140737488355328)(hm2:xs.length+1≤1000000000)
 (h:DrawK P nt ops (i+1) l ⟨T.set dd (.slu nx 0 (xs ++ [a]).length),((H.del r).set nx (dat false (xs ++ [a]).length sz el ((xs ++ [a]).flatMap f))),(nx+1),⟨i,⟨some dd,.call {callee:= .builtin .append,args:= #[s,x],argTypes:= #[t,tx]},ty,pos,af,gd⟩,(aA T (az ops.toList ⟨some dd,.call {callee:= .builtin .append,args:= #[s,x],argTypes:= #[t,tx]},ty,pos,af,gd⟩)),stg,true,true,(.slu nx 0 (xs ++ [a]).length)⟩ :: rs,(((H.del r).set nx (dat false (xs ++ [a]).length sz el ((xs ++ [a]).flatMap f))),(nx+1)) :: Hs,stg+1⟩ K):DrawK P nt ops i (⟨some dd,.call {callee:= .builtin .append,args:= #[s,x],argTypes:= #[t,tx]},ty,pos,af,gd⟩ :: l) ⟨T,H,nx,rs,Hs,stg⟩ K:=
 mg hw hd (fun _ h=>by cases h) (tv hx0 hx hu hk hs h0 hz hb hro hq hcs hf hm1 hm2) h
end
section
variable {P:Program} {ro:Option Nat} {fn nt nx:Nat} {T:Tr SV} {k:List AIt} {dfs:List ADf} {H:aK} {Q:Pst} {ops:Array Oper} {i:Nat} {l:List Oper} {d:Option Tmp} {ty:TypeId} {pos:String} {af:Array Edge} {gd:Option (Nat×Bool)}
theorem yk{it:Operand}{b:Bool}{outs:List Out}(hw:aq T ops ⟨d,.next it b,ty,pos,af,gd⟩=some true)(ho:qI T H nx ⟨d,.next it b,ty,pos,af,gd⟩=some outs)
 (h: ∀ out∈outs,yJ P (wpr P) ro ⟨fn,nt,T,.inReg ops i (⟨d,.next it b,ty,pos,af,gd⟩ :: l) :: k,dfs,H,nx⟩ d (.inReg ops (i+1) l :: k) out Q) :
 Wp P ro ⟨fn,nt,T,.inReg ops i (⟨d,.next it b,ty,pos,af,gd⟩ :: l) :: k,dfs,H,nx⟩ Q:=
 .step (.inr ⟨hw,.inr (fun c h=>by cases h),fun K w0 e w ev hS hE=>let ⟨out,hm,hd⟩:=tF hS hE ho;⟨out,h out hm,hd⟩⟩)
theorem l5{K V:Type} [DecidableEq K]{enc:K→Value}{val:V→SV}{m:List (K×V×Nat)}{c:Nat}{it:Operand}{b r:Nat}{done:List (K×V×Nat)}{dd:Nat}
 (hw:aq T ops ⟨some dd,.next it false,ty,pos,af,gd⟩=some true) (hd:Nat.blt dd nt=true) (hx:ao T it=some (.ptr r 0)) (hr:H.at' r=some (itV b c done)) (hb:H.at' b=some (eK enc val m c)) (hok:KOk m c) (hdn:done.Nodup∧ ∀ x∈done,x∈m)
 (h1:done.Perm m→Wp P ro ⟨fn,nt,T.set dd (.sc (.tuple #[.bool false])),.inReg ops (i+1) l :: k,dfs,H,nx⟩ Q)
 (h2: ∀ x∈m,x∉done→(done ++ [x]).Nodup∧(∀ y∈done ++ [x],y∈m)→Wp P ro ⟨fn,nt,T.set dd (.tup [.sc (.bool true),.sc (enc x.1),val x.2.1]),.inReg ops (i+1) l :: k,dfs,H.set r (itV b c (done ++ [x])),nx⟩ Q) :
 Wp P ro ⟨fn,nt,T,.inReg ops i (⟨some dd,.next it false,ty,pos,af,gd⟩ :: l) :: k,dfs,H,nx⟩ Q:=by
 have hseen: ∀ x∈m,((done.map (·.2.2)).contains x.2.2=true↔x∈done):=by
  intro x hx
  rw [List.contains_iff_mem]
  constructor
  ·intro h
   obtain⟨y,hy,he⟩:=List.mem_map.1 h
   rw [hok.eq hx (hdn.2 y hy) he.symm]
   exact hy
  ·intro h
   exact List.mem_map.2 ⟨x,h,rfl⟩
 refine yk hw (outs:=?_) ?_ ?_
 rotate_left
 ·simp only [qI,hx,hr,hb]
  have hg:(!(done.map (·.2.2)).isEmpty && !(lQ enc val m).isEmpty && (lQ enc val m).all (fun x=>Nat.ble c x.2.2))=false:=by
   cases m with
   | nil=>simp
   | cons x m=>
     have:=hok.lt x (by simp)
     have hb:Nat.ble c x.2.2=false:=by
      cases hh:Nat.ble c x.2.2 with
      | false=>rfl
      | true=>have:=zj hh;omega
     simp [hb]
  rw [hg]
  rfl
 ·intro out hm
  simp only [yJ] at *
  rcases List.mem_append.1 hm with hm|hm
  ·cases he:(((lQ enc val m).filter fun x=> !((done.map (·.2.2)).contains x.2.2)).filter fun x=>Nat.blt x.2.2 c).isEmpty with
   | false=>rw [he] at hm;cases hm
   | true=>
     rw [he] at hm
     simp only [cond_true,List.mem_singleton] at hm
     subst hm
     simp only [aC hd]
     refine h1 ?_
     refine(List.perm_ext_iff_of_nodup hdn.1 hok.nodup).2 fun x=>⟨hdn.2 x,fun hx=>?_⟩
     rw [← hseen x hx]
     cases hc:(done.map (·.2.2)).contains x.2.2 with
     | true=>rfl
     | false=>
       exfalso
       have hin:(enc x.1,val x.2.1,x.2.2)∈((lQ enc val m).filter fun x=> !((done.map (·.2.2)).contains x.2.2)).filter fun x=>Nat.blt x.2.2 c:=by
        refine List.mem_filter.2 ⟨List.mem_filter.2 ⟨List.mem_map.2 ⟨x,hx,rfl⟩,by simp only [hc];rfl⟩,?_⟩
        exact zm (hok.lt x hx)
       have:=List.isEmpty_iff.1 he
       rw [this] at hin
       cases hin
  ·obtain⟨y,hy,rfl⟩:=List.mem_map.1 hm
   have hy':y∈(lQ enc val m).filter fun x=> !((done.map (·.2.2)).contains x.2.2):=by
    rcases List.mem_append.1 hy with hy|hy
    ·exact(List.mem_filter.1 hy).1
    ·exact(List.mem_filter.1 hy).1
   obtain⟨hy1,hy2⟩:=List.mem_filter.1 hy'
   obtain⟨x,hx,rfl⟩:=List.mem_map.1 hy1
   simp only [aC hd]
   have hnd:x∉done:=by
    intro h
    rw [(hseen x hx).2 h] at hy2
    cases hy2
   have:=h2 x hx hnd ⟨by rw [List.nodup_append];exact⟨hdn.1,by simp,fun a ha b hb=>by simp at hb;subst hb;intro e;subst e;exact hnd ha⟩,fun y hy=>by
    rcases List.mem_append.1 hy with hy|hy
    ·exact hdn.2 y hy
    ·simp at hy;subst hy;exact hx⟩
   have e:itV b c (done ++ [x]) = .iter (some b) c (done.map (·.2.2) ++ [x.2.2]) c:=by unfold itV;rw [zF];rfl
   rw [e] at this
   exact this
theorem St.loopLess{K:Zone}{w0 w:World}{e:Env}{n:Nat}{st:LoopState}{pend:Option Code}{f2 nt2:Nat}{T2 T3:Tr SV}{ps:Array Tmp}{as1 bd:Code}{dr:Nat}(hl:T3.le T2)
 (hS:St K w0 e (H.set n (.loop st pend f2 nt2 T2 ps as1 bd dr)) nx w):St K w0 e (H.set n (.loop st pend f2 nt2 T3 ps as1 bd dr)) nx w:=by
 have key: ∀ id vo,(H.set n (.loop st pend f2 nt2 T3 ps as1 bd dr)).at' id=some vo→ ∃ vo',(H.set n (.loop st pend f2 nt2 T2 ps as1 bd dr)).at' id=some vo'∧vo'.ro=vo.ro∧ ∀ x,Lies K w e vo' x→Lies K w e vo x:=by
  intro id vo hv
  rcases Tr.bE hv with ⟨rfl,rfl⟩|⟨hne,hv⟩
  ·refine⟨_,Tr.ae _ _ _,rfl,fun x hx=>?_⟩
   rcases hx with ⟨h0,o,h1,h2,tmps,y,h3,h4,h5⟩|⟨_,_,_,_,_,h,_⟩
   ·exact .inl ⟨h0,o,h1,h2,tmps,y,h3,h4.less hl,h5⟩
   ·cases h
  ·exact⟨vo,by rw [Tr.aa _ _ hne];exact hv,rfl,fun x hx=>hx⟩
 refine⟨hS.below,fun id vo hv=>?_,fun id id' vo vo' x x' h1 h2 h3 h4 h5 h6 h7 h8 h9=>?_,hS.fresh⟩
 ·obtain⟨vo',g1,_,g3⟩:=key id vo hv
  obtain⟨x,hx,hl⟩:=hS.rel id vo' g1
  exact⟨x,hx,g3 x hl⟩
 ·obtain⟨u,g1,g2,_⟩:=key id vo h1
  obtain⟨u',g1',g2',_⟩:=key id' vo' h2
  exact hS.inj _ _ _ _ _ _ g1 g1' h3 h4 h5 h6 h7 (by rw [g2];exact h8) (by rw [g2'];exact h9)
theorem Fnc.weak{f:FuncId}{args:List SV}{H H':aK}{nx:Nat}{Q:Pst}(hs: ∀ K w0 e w,St K w0 e H nx w→St K w0 e H' nx w)(h:Fnc P f args H' nx Q):Fnc P f args H nx Q:=by
 unfold Fnc fY at h ⊢
 rcases h with ⟨h0,v,r,h1,h2,h3⟩|h
 ·exact .inl ⟨h0,v,r,h1,h2,fun K w0 e w hS=>h3 K w0 e w (hs _ _ _ _ hS)⟩
 ·refine .inr ?_
  split at h
  ·rename_i c hb
   exact⟨fun K w0 e w tmps todo ds kd rof cs a b c d f=>h.run K w0 e w tmps todo ds kd rof cs (hs _ _ _ _ a) b c d f⟩
  ·exact h.elim
theorem f9{fo:Operand}{ps:Array Tmp}{as1 bd:Code}{g:FuncId}{a b:List SV}{sf:SV}(sl:List (Nat×SV))(hf:ao T fo=some sf)(ht:dl sf=some (g,a,b))(hg:bZ P g=true)(hsl: ∀ n x,(slT sl).at' n=some x→T.at' n=some x)
 (h: ∀ as' bd',as'=as1→bd'=bd→Fnc P g (a ++ [.yld (nx+1)] ++ b) ((H.set nx (.dfd (some []))).set (nx+1) (.loop .ready none fn nt (slT sl) ps as' bd' nx)) (nx+1+1) (fun r=>Wp P none ⟨fn,nt,T,.endRange (nx+1) :: k,.taken nx :: dfs,r.2.1,r.2.2⟩ Q)) :
 Wp P none ⟨fn,nt,T,.code (.rangeFunc fo ps as1 bd) :: k,dfs,H,nx⟩ Q:=
 .step ⟨nx,H.set nx (.dfd (some [])),nx+1,[.taken nx],sf,g,a,b,rfl,hf,ht,hg,Fnc.weak (fun K w0 e w hS=>hS.loopLess hsl) (h _ _ rfl rfl)⟩
theorem ka{a b:Code}(h:a=b)(hw:Wp P ro ⟨fn,nt,T,.code b :: k,dfs,H,nx⟩ Q):Wp P ro ⟨fn,nt,T,.code a :: k,dfs,H,nx⟩ Q:=h ▸ hw
theorem im{n:Nat}{st:LoopState}{pend:Option Code}{f2 nt2:Nat}{T2:Tr SV}{ps:Array Tmp}{as1 bd:Code}{dr:Nat}(hl:H.at' n=some (.loop st pend f2 nt2 T2 ps as1 bd dr))(hs:st ≠ .busy)
 (h:Wp P ro ⟨fn,nt,T,qn pend k,dfs,H.set n (.loop .exhausted pend f2 nt2 T2 ps as1 bd dr),nx⟩ Q):Wp P ro ⟨fn,nt,T,.endRange n :: k,dfs,H,nx⟩ Q:=by
 refine .step ?_
 simp only [pw,hl]
 exact⟨hs,h⟩
theorem mr{n:Nat}{pend:Option Code}{f2 nt2:Nat}{T2:Tr SV}{ps:Array Tmp}{as1 bd:Code}{dr:Nat}(hl:H.at' n=some (.loop .ready pend f2 nt2 T2 ps as1 bd dr))
 (h:Wp P (some n) ⟨fn,nt,T,k,dfs,H.set n (.loop .busy pend f2 nt2 T2 ps as1 bd dr),nx⟩ Q):Wp P (some n) ⟨fn,nt,T,.beginRound :: k,dfs,H,nx⟩ Q:=by
 refine .step ?_
 simp only [pw,hl]
 exact⟨trivial,h⟩
theorem il{n:Nat}{st:LoopState}{pend:Option Code}{f2 nt2:Nat}{T2:Tr SV}{ps:Array Tmp}{as1 bd:Code}{dr:Nat}(hl:H.at' n=some (.loop st pend f2 nt2 T2 ps as1 bd dr))
 (h:Q (.sc (.bool true),H.set n (.loop .ready none f2 nt2 T2 ps as1 bd dr),nx)):Wp P (some n) ⟨fn,nt,T,[],dfs,H,nx⟩ Q:=by
 refine .step ?_
 simp only [pw,lk,tQ,hl]
 exact h
theorem mu{x:Operand}{as1:List Operand}{ats:Array TypeId}{args:List SV}{n dd:Nat}{st:LoopState}{pend:Option Code}{f2 nt2:Nat}{T2:Tr SV}{ps:Array Tmp}{as2 bd:Code}{dr:Nat}
 (hw:aq T ops ⟨some dd,.call {callee:= .value x,args:=as1.toArray,argTypes:=ats},ty,pos,af,gd⟩=some true) (hd:Nat.blt dd nt=true) (hx:ao T x=some (.yld n)) (ha:dQ T as1=some args) (hl:H.at' n=some (.loop st pend f2 nt2 T2 ps as2 bd dr)) (hp:Nat.beq ps.size args.length=true)
 (h:Wp P (some n) ⟨f2,nt2,(ps.toList.zip args).foldl (fun T x=>gi nt2 T (some x.1) x.2) T2,[.code as2,.beginRound,.code bd],[],H,nx⟩ (fun r=>Wp P ro ⟨fn,nt,T.set dd r.1,.inReg ops (i+1) l :: k,dfs,r.2.1,r.2.2⟩ Q)) :
 Wp P ro ⟨fn,nt,T,.inReg ops i (⟨some dd,.call {callee:= .value x,args:=as1.toArray,argTypes:=ats},ty,pos,af,gd⟩ :: l) :: k,dfs,H,nx⟩ Q:=by
 refine .step (.inr ⟨hw,.inr (fun c hc=>by cases hc),OpDoes.any (out:=(.round n args,H,nx)) ?_ ?_⟩)
 ·intro K w0 e w ev hS hE
  refine mZ hS hE ?_
  unfold gH
  simp only [ch,ha,hx,zG]
 ·simp only [yJ,ma,hl,aC hd]
  exact⟨hp,h⟩
def SameO(ρ:Nat→Nat):List (Option VO)→List (Option VO)→Prop
 | [],[]=>True
 | none :: l,none :: m=>SameO ρ l m
 | some vo :: l,some vo' :: m=>vo.ren ρ=vo'∧SameO ρ l m
 | _,_=>False
theorem SameO.map{ρ:Nat→Nat}: ∀ {l m:List (Option VO)},SameO ρ l m→l.map (Option.map (VO.ren ρ))=m
 | [],[],_=>rfl
 | none :: l,none :: m,h=>by simp only [zC,Option.map_none,SameO.map (l:=l) (m:=m) h]
 | some vo :: l,some vo' :: m,h=>by simp only [zC,zG,h.1,SameO.map h.2]
 | [],_ :: _,h=>by simp [SameO] at h
 | none :: _,some _ :: _,h=>by simp [SameO] at h
 | some _ :: _,none :: _,h=>by simp [SameO] at h
 | none :: _,[],h=>by simp [SameO] at h
 | some _ :: _,[],h=>by simp [SameO] at h
theorem mt{ρ:Nat→Nat}: ∀ (L:List Nat) (l:List (Option VO)) (i:Nat) (H:aK),(∀ j,j<L.length→ρ (i+j)=L.getD j 0)→l.length=L.length→wrO ρ H i l=wrL L H l
 | [],[],i,H,_,_=>rfl
 | [],_ :: _,i,H,_,h=>by simp at h
 | _ :: _,[],i,H,_,h=>by simp at h
 | b :: L,o :: l,i,H,he,hl=>by
   have e0:ρ i=b:=by simpa using he 0 (by simp)
   have et: ∀ j,j<L.length→ρ (i+1+j)=L.getD j 0:=fun j hj=>by
    have:=he (j+1) (by simpa using hj)
    rw [show i+1+j=i+(j+1) by omega,this]
    simp
   cases o with
   | none=>simp only [wrO,wrL,e0];exact mt L l (i+1) _ et (by simpa using hl)
   | some vo=>simp only [wrO,wrL,e0];exact mt L l (i+1) _ et (by simpa using hl)
theorem Ctr.wT{f:FuncId}{args0 args:List SV}{pre:List VO}{Q0:Cz→Prop}(h:Ctr P f args0 pre Q0)(L:List Nat){Q:Pst}(hlen:L.length=pre.length)(hL:ExtOk L nx)(ha:args=args0.map (SV.ren (ext L nx)))(hp:HasO (ext L nx) H 0 (pre.map some))
 (hQ: ∀ c,Q0 c→ ∃ v m L2 objs,L2=L ++ (List.range m).map (fun i=>nx+i)∧SameO (ext L nx) c.objs objs∧objs.length=L2.length∧c.v.ren (ext L nx)=v∧Q (v,wrL L2 H objs,nx+m)):Fnc P f args H nx Q:=by
 refine h.call L hlen hL ha hp fun c hc hpl=>?_
 obtain⟨v,m,L2,objs,e1,e2,e3,e4,hq⟩:=hQ c hc
 have hlo:c.objs.length=objs.length:=by rw [← e2.map,List.length_map]
 have hl2:L2.length=L.length+m:=by rw [e1];simp
 rw [e2.map,e4,mt (ρ:=ext L nx) L2 objs 0 H (fun j hj=>?_) e3,show nx+(c.objs.length-pre.length)=nx+m by omega]
 ·exact hq
 ·rw [Nat.zero_add]
  by_cases hjl:j<L.length
  ·rw [q8 hjl,e1]
   simp only [zu]
   rw [zw hjl]
  ·rw [q9 (by omega),e1]
   simp only [zu]
   rw [List.getElem?_append_right (by omega),List.getElem?_map,List.getElem?_range (by omega)]
   rfl
theorem Ctr.at{f:FuncId}{args:List SV}{pre:List VO}{Q:Cz→Prop}(n:Nat)(hn:pre.length=n)(h:Fnc P f args (t5 pre) n (fun r=> ∃ c,Q c∧Ends n c r)):Ctr P f args pre Q:=by
 subst hn
 exact h
theorem dS{α:Type}{b:Code}(sl:α→List (Nat×SV))(I:α→aK→Nat→Prop)(μ:α→Nat)(a0:α)(h0:I a0 H nx)(hs: ∀ n x,(slT (sl a0)).at' n=some x→T.at' n=some x)
 (body: ∀ a H nx,I a H nx→(∀ T' H' nx' a',I a' H' nx'→μ a'<μ a→(∀ n x,(slT (sl a')).at' n=some x→T'.at' n=some x)→Wp P ro ⟨fn,nt,T',.inLoop b :: k,dfs,H',nx'⟩ Q) →
   Wp P ro ⟨fn,nt,slT (sl a),.code b :: .inLoop b :: k,dfs,H,nx⟩ Q):Wp P ro ⟨fn,nt,T,.code (.loop b) :: k,dfs,H,nx⟩ Q:=by
 have main: ∀ m a H nx,μ a=m→I a H nx→Wp P ro ⟨fn,nt,slT (sl a),.code b :: .inLoop b :: k,dfs,H,nx⟩ Q:=by
  intro m
  induction m using Nat.strongRecOn with
  | _ m ih=>
    intro a H nx hm ha
    refine body a H nx ha fun T' H' nx' a' ha' hlt hs'=>pn ?_
    exact Wp.less (ih (μ a') (by omega) a' H' nx' rfl ha') hs' (Tr.le_refl _)
 exact mm (Wp.less (main _ a0 H nx rfl h0) hs (Tr.le_refl _))
theorem uK{α:Type}{b:Code}(sl:α→List (Nat×SV))(df:α→List ADf)(I:α→aK→Nat→Prop)(μ:α→Nat)(a0:α)(h0:I a0 H nx)(hd0:dfs=df a0)(hs: ∀ n x,(slT (sl a0)).at' n=some x→T.at' n=some x)
 (body: ∀ a H nx,I a H nx→(∀ T' H' nx' a' dfs',I a' H' nx'→μ a'<μ a→dfs'=df a'→(∀ n x,(slT (sl a')).at' n=some x→T'.at' n=some x)→Wp P ro ⟨fn,nt,T',.inLoop b :: k,dfs',H',nx'⟩ Q) →
   Wp P ro ⟨fn,nt,slT (sl a),.code b :: .inLoop b :: k,df a,H,nx⟩ Q):Wp P ro ⟨fn,nt,T,.code (.loop b) :: k,dfs,H,nx⟩ Q:=by
 have main: ∀ m a H nx,μ a=m→I a H nx→Wp P ro ⟨fn,nt,slT (sl a),.code b :: .inLoop b :: k,df a,H,nx⟩ Q:=by
  intro m
  induction m using Nat.strongRecOn with
  | _ m ih=>
    intro a H nx hm ha
    refine body a H nx ha fun T' H' nx' a' dfs' ha' hlt hd' hs'=>pn ?_
    subst hd'
    exact Wp.less (ih (μ a') (by omega) a' H' nx' rfl ha') hs' (Tr.le_refl _)
 subst hd0
 exact mm (Wp.less (main _ a0 H nx rfl h0) hs (Tr.le_refl _))
def SlIn(T:Tr SV):List (Nat×SV)→Prop
 | []=>True
 | (t,s) :: l=>T.at' t=some s∧SlIn T l
theorem SlIn.sub{T:Tr SV}: ∀ {l:List (Nat×SV)},SlIn T l→ ∀ n x,(slT l).at' n=some x→T.at' n=some x
 | [],_,n,x,h=>by rw [slT,Tr.lK] at h;cases h
 | (t0,s0) :: l,hh,n,x,h=>by
   rcases Tr.bE h with ⟨rfl,rfl⟩|⟨_,h⟩
   ·exact hh.1
   ·exact SlIn.sub hh.2 n x h
theorem tM{rs:List Nat}(hr: ∀ r∈rs,H.at' r=some (.dfd (some [])))(hnd:rs.Nodup)(h: ∀ H',(∀ n,n∉rs→H'.at' n=H.at' n)→Lv P ⟨fn,nt,T,k,dfs,H',nx⟩ Q):Lv P ⟨fn,nt,T,k,rs.map .taken ++ dfs,H,nx⟩ Q:=by
 induction rs generalizing H with
 | nil=>exact h H fun _ _=>rfl
 | cons r rs ih=>
   refine vJ (hr r (by simp)) ?_
   rw [List.nil_append]
   rw [List.nodup_cons] at hnd
   refine ih (fun r' hr'=>?_) hnd.2 fun H' hH'=>h H' fun n hn=>?_
   ·rw [Tr.aa _ _ (by intro e;subst e;exact hnd.1 hr')]
    exact hr r' (List.mem_cons_of_mem _ hr')
   ·rw [List.mem_cons,not_or] at hn
    rw [hH' n hn.2,Tr.aa _ _ hn.1]
theorem ql{rl:List ResultVar}{F:Func}(hf:P.funcs[fn]? =some F)(hl:F.results.toList=rl){rs:List Nat}(hdf:dfs=rs.map .taken)(hr: ∀ r∈rs,H.at' r=some (.dfd (some [])))(hnd:rs.Nodup)
 (h: ∀ H',(∀ n,n∉rs→H'.at' n=H.at' n)→ ∃ vs,ResIs P H' T rl vs∧Q (ga vs,H',nx)):Wp P none ⟨fn,nt,T,.code .ret :: k,dfs,H,nx⟩ Q:=by
 subst hdf
 refine yj ?_
 have:=tM (P:=P) (fn:=fn) (nt:=nt) (nx:=nx) (T:=T) (k:= .code .ret :: k) (dfs:= []) (Q:=Q) hr hnd fun H' hH'=>by
  obtain⟨vs,h1,h2⟩:=h H' hH'
  exact yR (by simp only [er,hf,hl]) h1.res h2
 simpa using this
end
abbrev Own:=aK→(Nat→Prop)→Prop
def lN(A:Own):Prop:= ∀ H H' F,A H F→(∀ n,F n→H'.at' n=H.at' n)→A H' F
section
variable {K X:Type} (P:K→X→Own)
def Big:List (K×X)→Own
 | [],_,F=> ∀ n,¬ F n
 | x :: m,H,F=> ∃ F1 F2,P x.1 x.2 H F1∧Big m H F2∧(∀ n,F1 n→ ¬ F2 n)∧ ∀ n,F n↔F1 n∨F2 n
variable {P}
theorem Big.frame(hP: ∀ k x,lN (P k x)): ∀ m,lN (Big P m)
 | [],H,H',F,h,_=>h
 | x :: m,H,H',F,⟨F1,F2,h1,h2,h3,h4⟩,hf=>⟨F1,F2,hP _ _ H H' F1 h1 fun n hn=>hf n ((h4 n).2 (.inl hn)),Big.frame hP m H H' F2 h2 fun n hn=>hf n ((h4 n).2 (.inr hn)),h3,h4⟩
theorem Big.same{m:List (K×X)}{H:aK}{F F':Nat→Prop}(h:Big P m H F)(hF: ∀ n,F' n↔F n):Big P m H F':=by
 have:F'=F:=funext fun n=>propext (hF n)
 rw [this];exact h
theorem Big.focus{k:K}{x:X}{B:List (K×X)}{H:aK}: ∀ {A:List (K×X)} {F:Nat→Prop},Big P (A ++ (k,x) :: B) H F→ ∃ F1 F2,P k x H F1∧Big P (A ++ B) H F2∧(∀ n,F1 n→ ¬ F2 n)∧ ∀ n,F n↔F1 n∨F2 n
 | [],F,h=>h
 | y :: A,F,⟨G1,G2,h1,h2,h3,h4⟩=>by
   obtain⟨F1,F2,g1,g2,g3,g4⟩:=Big.focus (A:=A) h2
   refine⟨F1,fun n=>G1 n∨F2 n,g1,⟨G1,F2,h1,g2,fun n hn h=>h3 n hn ((g4 n).2 (.inr h)),fun n=>Iff.rfl⟩,fun n hn h=>?_,fun n=>?_⟩
   ·rcases h with h|h
    ·exact h3 n h ((g4 n).2 (.inl hn))
    ·exact g3 n hn h
   ·rw [h4,g4]
    constructor
    ·rintro(h|h|h)
     ·exact .inr (.inl h)
     ·exact .inl h
     ·exact .inr (.inr h)
    ·rintro(h|h|h)
     ·exact .inr (.inl h)
     ·exact .inl h
     ·exact .inr (.inr h)
theorem Big.kO{k:K}{x:X}{B:List (K×X)}{H:aK}{F1:Nat→Prop}(h:P k x H F1): ∀ {A:List (K×X)} {F2:Nat→Prop},Big P (A ++ B) H F2→(∀ n,F1 n→ ¬ F2 n)→Big P (A ++ (k,x) :: B) H (fun n=>F1 n∨F2 n)
 | [],F2,h2,h3=>⟨F1,F2,h,h2,h3,fun n=>Iff.rfl⟩
 | y :: A,F2,⟨G1,G2,g1,g2,g3,g4⟩,h3=>by
   refine⟨G1,fun n=>F1 n∨G2 n,g1,Big.kO (A:=A) h g2 (fun n hn h'=>h3 n hn ((g4 n).2 (.inr h'))),fun n hn h'=>?_,fun n=>?_⟩
   ·rcases h' with h'|h'
    ·exact h3 n h' ((g4 n).2 (.inl hn))
    ·exact g3 n hn h'
   ·show F1 n∨F2 n↔_
    rw [g4]
    constructor
    ·rintro(h|h|h)
     ·exact .inr (.inl h)
     ·exact .inl h
     ·exact .inr (.inr h)
    ·rintro(h|h|h)
     ·exact .inr (.inl h)
     ·exact .inl h
     ·exact .inr (.inr h)
theorem Big.nil{H:aK}:Big P [] H (fun _=>False):=fun _ h=>h
end
section
variable {K V:Type} [DecidableEq K]
abbrev kv(m:List (K×V×Nat)):List (K×V):=m.map fun x=>(x.1,x.2.1)
theorem ju(m:List (K×V×Nat))(k:K):a6 (kv m) k=cr m k:=by
 induction m with
 | nil=>rfl
 | cons x m ih=>
   rw [kv,zC,ce]
   by_cases h:x.1=k
   ·simp [h,cr]
   ·have e:cr (x :: m) k=cr m k:=by simp [cr,h]
    rw [e,if_neg h]
    exact ih
theorem oG(m:List (K×V×Nat))(k:K)(v:V)(c:Nat):kv (cZ m k v c)=cc (kv m) k v:=by
 induction m with
 | nil=>rfl
 | cons x m ih=>
   by_cases h:x.1=k
   ·simp [cZ,cc,h]
   ·simpa [cZ,cc,h] using ih
theorem qQ(m:List (K×V×Nat))(k:K):kv (hY m k)=eJ (kv m) k:=by
 induction m with
 | nil=>rfl
 | cons x m ih=>
   by_cases h:x.1=k
   ·simp [hY,eJ,h]
   ·simpa [hY,eJ,h] using ih
theorem jT{m:List (K×V×Nat)}{k:K}{v:V}(h:cr m k=some v): ∃ A B s,m=A ++ (k,v,s) :: B∧cr A k=none∧(∀ w c,cZ m k w c=A ++ (k,w,s) :: B)∧hY m k=A ++ B:=by
 induction m with
 | nil=>simp [cr] at h
 | cons y m ih=>
   by_cases hy:y.1=k
   ·simp [cr,hy] at h
    obtain⟨y1,y2,y3⟩:=y
    simp at hy h
    exact⟨[],m,y3,by simp [hy,h],rfl,fun w c=>by simp [cZ,hy],by simp [hY,hy]⟩
   ·have h':cr m k=some v:=by simpa [cr,hy] using h
    obtain⟨A,B,s,h1,h2,h3,h4⟩:=ih h'
    exact⟨y :: A,B,s,by rw [h1];rfl,by simpa [cr,hy] using h2,fun w c=>by simp [cZ,hy,h3],by simp [hY,hy,h4]⟩
end
section
variable {P:Program} {T:Tr SV} {H:aK} {nx:Nat} {d:Option Tmp} {ty:TypeId} {pos:String} {af:Array Edge} {gd:Option (Nat×Bool)}
theorem vv{t yt:TypeId}{x y:Operand}{a b:ByteArray}(hx:ao T x=some (.sc (.string a)))(hy:ao T y=some (.sc (.string b))):ReadDoes P T H ⟨d,.binOp .eql t x y yt,ty,pos,af,gd⟩ (.sc (.bool (a == b))):=by
 refine cu fun ev w he=>?_
 have e1:=he x _ hx _ rfl
 have e2:=he y _ hy _ rfl
 rw [beq_toListBytes]
 simp [execOp,e1,e2,eqGuard,binOp,Op.stringOp]
theorem vq{t yt:TypeId}{x y:Operand}{a b:ByteArray}(hx:ao T x=some (.sc (.string a)))(hy:ao T y=some (.sc (.string b))):ReadDoes P T H ⟨d,.binOp .neq t x y yt,ty,pos,af,gd⟩ (.sc (.bool (a != b))):=by
 refine cu fun ev w he=>?_
 have e1:=he x _ hx _ rfl
 have e2:=he y _ hy _ rfl
 rw [show(a != b) = !(a == b)from rfl,beq_toListBytes]
 simp [execOp,e1,e2,eqGuard,binOp,Op.stringOp]
theorem td{t yt:TypeId}{x y:Operand}{a b:ByteArray}{r:Bool}(hx:ao T x=some (.sc (.string a)))(hy:ao T y=some (.sc (.string b)))(hr:(a == b)=r):ReadDoes P T H ⟨d,.binOp .eql t x y yt,ty,pos,af,gd⟩ (.sc (.bool r)):=hr ▸ vv hx hy
theorem tb{t yt:TypeId}{x y:Operand}{a b:ByteArray}{r:Bool}(hx:ao T x=some (.sc (.string a)))(hy:ao T y=some (.sc (.string b)))(hr:(a != b)=r):ReadDoes P T H ⟨d,.binOp .neq t x y yt,ty,pos,af,gd⟩ (.sc (.bool r)):=hr ▸ vq hx hy
end
section
variable {P:Program} {ro:Option Nat} {fn nt nx:Nat} {T:Tr SV} {k:List AIt} {dfs:List ADf} {H:aK} {Q:Pst} {ops:Array Oper} {i:Nat} {l:List Oper} {d:Option Tmp} {ty:TypeId} {pos:String} {af:Array Edge} {gd:Option (Nat×Bool)}
theorem qq{t yt:TypeId}{x y:Operand}{a b:ByteArray}{r:Bool}{dd:Nat}(hw:aq T ops ⟨some dd,.binOp .eql t x y yt,ty,pos,af,gd⟩=some true)(hd:Nat.blt dd nt=true)(hx:ao T x=some (.sc (.string a)))(hy:ao T y=some (.sc (.string b)))(hr:(a == b)=r)
 (h:Wp P ro ⟨fn,nt,T.set dd (.sc (.bool r)),.inReg ops (i+1) l :: k,dfs,H,nx⟩ Q):Wp P ro ⟨fn,nt,T,.inReg ops i (⟨some dd,.binOp .eql t x y yt,ty,pos,af,gd⟩ :: l) :: k,dfs,H,nx⟩ Q:=
 bC hw (.inr (fun _ h=>by cases h)) ((td hx hy hr).does) (by rw [aC hd];exact h)
theorem uM{t yt:TypeId}{x y:Operand}{a b:ByteArray}{r:Bool}{dd:Nat}(hw:aq T ops ⟨some dd,.binOp .neq t x y yt,ty,pos,af,gd⟩=some true)(hd:Nat.blt dd nt=true)(hx:ao T x=some (.sc (.string a)))(hy:ao T y=some (.sc (.string b)))(hr:(a != b)=r)
 (h:Wp P ro ⟨fn,nt,T.set dd (.sc (.bool r)),.inReg ops (i+1) l :: k,dfs,H,nx⟩ Q):Wp P ro ⟨fn,nt,T,.inReg ops i (⟨some dd,.binOp .neq t x y yt,ty,pos,af,gd⟩ :: l) :: k,dfs,H,nx⟩ Q:=
 bC hw (.inr (fun _ h=>by cases h)) ((tb hx hy hr).does) (by rw [aC hd];exact h)
end
section
variable {P:Program}
theorem rX{t e:TypeId}{a:Option Addr}{n c n' c':Nat}(m:Nat)(hu:P.underlying t=some (.slice e))(w:World):(Op.equalIn (m+1) t (.slice a n c) (.slice none n' c')).run P w = .ok a.isNone w:=by
 cases a <;> simp [Op.equalIn,run_underlying hu]
theorem vP{t e:TypeId}{a:Option Addr}{n c n' c':Nat}(hu:P.underlying t=some (.slice e))(w:World):(Op.equal t (.slice a n c) (.slice none n' c')).run P w = .ok a.isNone w:=rX 9999 hu w
theorem tw{T:Tr SV}{H:aK}{nx:Nat}{d:Option Tmp}{ty:TypeId}{pos:String}{af:Array Edge}{gd:Option (Nat×Bool)}{t yt el:TypeId}{x y:Operand}{r eo n:Nat}{O:Out→Prop}(hx:ao T x=some (.slu r eo n))(hy:ao T y=some (.sc (.slice none 0 0)))(hu:P.underlying t=some (.slice el)){rr:Bool}{ne sz:Nat}{rt:TypeId}{c:Tr SV}(hb:H.at' r=some (.row rr ne sz rt c))(h1:ne=0→O (.val (.sc (.bool true)),H,nx))(h2:O (.val (.sc (.bool false)),H,nx)):wg P T H nx ⟨d,.binOp .eql t x y yt,ty,pos,af,gd⟩ O:=by
 intro K w0 e w ev hS hE
 have e1:=hE x _ hx
 have e2:=hE y _ hy
 simp only [SV.conc,zo] at e1
 obtain⟨z,hz,e1⟩:=e1
 simp only [SV.conc,zd] at e2
 have hr:(execOp ev ⟨d,.binOp .eql t x y yt,ty,pos,af,gd⟩).run P w = .ok (.value (.bool (z.at eo).isNone)) w:=by
  simp only [execOp,←e1,←e2]
  have hg:(eqGuard .eql t x y (.slice (z.at eo) n (z.cap-eo)) (.slice none 0 0)).run P w = .ok () w:=rfl
  have hb:(binOp .eql t (.slice (z.at eo) n (z.cap-eo)) (.slice none 0 0)).run P w = .ok (.bool (z.at eo).isNone) w:=by
   simp only [binOp,Sem.run_bind,vP hu,Result.andThen_ok,Sem.run_pure]
  simp only [Sem.run_bind,hg,hb,Result.andThen_ok,Sem.run_pure]
 cases hc:(z.at eo).isNone with
 | true=>
   have h0:ne=0:=by
    rcases Nat.eq_zero_or_pos ne with h|h
    ·exact h
    ·obtain⟨z2,hz2,hlz⟩:=hS.rel _ _ hb
     rw [hz] at hz2;cases hz2
     have h3:=(Lies.row hlz).2.2.1 h
     rw [Ent.dm h3] at hc;cases hc
   exact⟨_,h1 h0,e,w,Env.le_refl e,hS,.bool true,rfl,by rw [hr,hc]⟩
 | false=>exact⟨_,h2,e,w,Env.le_refl e,hS,.bool false,rfl,by rw [hr,hc]⟩
theorem uP{ro:Option Nat}{fn nt nx:Nat}{T:Tr SV}{k:List AIt}{dfs:List ADf}{H:aK}{Q:Pst}{ops:Array Oper}{i:Nat}{l:List Oper}{ty:TypeId}{pos:String}{af:Array Edge}{gd:Option (Nat×Bool)}{t yt el:TypeId}{x y:Operand}{r eo n:Nat}{dd:Nat}(hw:aq T ops ⟨some dd,.binOp .eql t x y yt,ty,pos,af,gd⟩=some true)(hd:Nat.blt dd nt=true)
 (hx:ao T x=some (.slu r eo n)) (hy:ao T y=some (.sc (.slice none 0 0))) (hu:P.underlying t=some (.slice el)) {rr:Bool} {ne sz:Nat} {rt:TypeId} {c:Tr SV} (hb:H.at' r=some (.row rr ne sz rt c))
 (h1:ne=0→Wp P ro ⟨fn,nt,T.set dd (.sc (.bool true)),.inReg ops (i+1) l :: k,dfs,H,nx⟩ Q) (h2:Wp P ro ⟨fn,nt,T.set dd (.sc (.bool false)),.inReg ops (i+1) l :: k,dfs,H,nx⟩ Q):Wp P ro ⟨fn,nt,T,.inReg ops i (⟨some dd,.binOp .eql t x y yt,ty,pos,af,gd⟩ :: l) :: k,dfs,H,nx⟩ Q:=
 .step (.inr ⟨hw,.inr (fun _ h=>by cases h),tw hx hy hu hb (fun h0=>by show Wp _ _ _ _;rw [aC hd];exact h1 h0) (by show Wp _ _ _ _;rw [aC hd];exact h2)⟩)
theorem pI{T:Tr SV}{H:aK}{nx:Nat}{d:Option Tmp}{ty:TypeId}{pos:String}{af:Array Edge}{gd:Option (Nat×Bool)}{t el:TypeId}{x lo:Operand}{b eo n sz:Nat}{kd:IntKind}{j:Int}{rr:Bool}{ne:Nat}{rt:TypeId}{c:Tr SV}{O:Out→Prop}(hx:ao T x=some (.slu b eo n))(hl:ao T lo=some (.sc (.int kd j)))(hu:P.underlying t=some (.slice el))(hs:br P el=some sz)(hj:j=(n:Int))(hb:H.at' b=some (.row rr ne sz rt c))(h0:0<ne)(h1:eo+n≤ne)(h: ∀ o c,O (.val (.sl b o 0 c),H,nx)):wg P T H nx ⟨d,.slice t x (some lo) none none,ty,pos,af,gd⟩ O:=by
 intro K w0 e w ev hS hE
 have e1:=hE x _ hx
 simp only [SV.conc,zo] at e1
 obtain⟨z,hz,e1⟩:=e1
 obtain⟨z2,hz2,hlz⟩:=hS.rel _ _ hb
 rw [hz] at hz2
 cases hz2
 obtain⟨g1,g2,g3,g4⟩:=Lies.row hlz
 have hcx:(SV.sl b (eo*sz) n (z.cap-eo)).conc e=some (ev x):=by
  rw [← e1,Ent.dm (g3 h0),g1]
  simp [SV.conc,hz]
 have hsl:jh P T H t (some lo) none none (.sl b (eo*sz) n (z.cap-eo))=some (.sl b (bif Nat.beq (z.cap-eo) n then eo*sz else eo*sz+n*sz) (n-n) (z.cap-eo-n)):=by
  subst hj
  simp only [jh,hu,hs,natOr,sh,hl,Int.toNat_natCast]
  rw [show Nat.ble n n=true from zm (zA _),show Nat.ble n (z.cap-eo)=true from zm (by omega),show Nat.ble (z.cap-eo) (z.cap-eo)=true from zm (zA _)]
  simp
 obtain⟨u,hu1,hu2⟩:=nA hS hE hsl hcx
 rw [Nat.sub_self] at hu1
 refine⟨_,h _ _,e,w,Env.le_refl e,hS,u,hu1,?_⟩
 simp only [execOp,Sem.run_bind,zG,Option.map_none] at hu2 ⊢
 rw [hu2]
 rfl
theorem lZ{ro:Option Nat}{fn nt nx:Nat}{T:Tr SV}{k:List AIt}{dfs:List ADf}{H:aK}{Q:Pst}{ops:Array Oper}{i:Nat}{l:List Oper}{ty:TypeId}{pos:String}{af:Array Edge}{gd:Option (Nat×Bool)}{t el:TypeId}{x lo:Operand}{b eo n sz:Nat}{kd:IntKind}{j:Int}{rr:Bool}{ne:Nat}{rt:TypeId}{c:Tr SV}{dd:Nat}(hw:aq T ops ⟨some dd,.slice t x (some lo) none none,ty,pos,af,gd⟩=some true)(hd:Nat.blt dd nt=true)(hx:ao T x=some (.slu b eo n))(hl:ao T lo=some (.sc (.int kd j)))(hu:P.underlying t=some (.slice el))(hs:br P el=some sz)(hj:j=(n:Int))(hb:H.at' b=some (.row rr ne sz rt c))(h0:0<ne)(h1:eo+n≤ne)
 (h: ∀ o c,Wp P ro ⟨fn,nt,T.set dd (.sl b o 0 c),.inReg ops (i+1) l :: k,dfs,H,nx⟩ Q):Wp P ro ⟨fn,nt,T,.inReg ops i (⟨some dd,.slice t x (some lo) none none,ty,pos,af,gd⟩ :: l) :: k,dfs,H,nx⟩ Q:=
 .step (.inr ⟨hw,.inr (fun _ h=>by cases h),pI hx hl hu hs hj hb h0 h1 (fun o c=>by show Wp _ _ _ _;rw [aC hd];exact h o c)⟩)
theorem sA{ro:Option Nat}{fn nt nx:Nat}{T:Tr SV}{k:List AIt}{dfs:List ADf}{H:aK}{Q:Pst}{ops:Array Oper}{i:Nat}{l:List Oper}{ty:TypeId}{pos:String}{af:Array Edge}{gd:Option (Nat×Bool)}{K V:Type} [DecidableEq K]{enc:K→Value}{val:V→SV}{m:List (K×V×Nat)}{c:Nat}{t kt e:TypeId}{x y:Operand}{b:Nat}{kk:K}(hw:aq T ops ⟨none,.call {callee:= .builtin .delete,args:= #[x,y],argTypes:= #[t,kt]},ty,pos,af,gd⟩=some true)(hx:ao T x=some (.mp b))(hy:ao T y=some (.sc (enc kk)))(hu:P.underlying t=some (.map kt e))(hE:KEnc P kt enc)(hb:H.at' b=some (eK enc val m c))
 (h:Wp P ro ⟨fn,nt,T,.inReg ops (i+1) l :: k,dfs,(H.set b (eK enc val (hY m kk) c)),nx⟩ Q):Wp P ro ⟨fn,nt,T,.inReg ops i (⟨none,.call {callee:= .builtin .delete,args:= #[x,y],argTypes:= #[t,kt]},ty,pos,af,gd⟩ :: l) :: k,dfs,H,nx⟩ Q:=
 bC hw (.inr (fun _ h=>by cases h)) (nS hx hy hu hE hb) h
theorem b7{ro:Option Nat}{fn nt nx:Nat}{T:Tr SV}{k:List AIt}{dfs:List ADf}{H:aK}{Q:Pst}(h:(∀ b vo,H.at' b=some vo→b<nx)→Wp P ro ⟨fn,nt,T,k,dfs,H,nx⟩ Q):Wp P ro ⟨fn,nt,T,k,dfs,H,nx⟩ Q:=by
 refine⟨fun K w0 e w tmps todo ds kd rof cs hS hTr htd hds hc2=>(h fun b vo hb=>?_).run K w0 e w tmps todo ds kd rof cs hS hTr htd hds hc2⟩
 obtain⟨x,hx,_⟩:=hS.rel _ _ hb
 rcases Nat.lt_or_ge b nx with hlt|hge
 ·exact hlt
 ·have h2:=hS.fresh _ hge
  rw [h2] at hx;cases hx
theorem rI{T:Tr SV}{H:aK}{nx:Nat}{d:Option Tmp}{ty:TypeId}{pos:String}{af:Array Edge}{gd:Option (Nat×Bool)}{t tx el rt:TypeId}{sz r eo n ne sz':Nat}{rr:Bool}{c:Tr SV}{s x:Operand}{v:SV}{vs:List Value}(hu:P.underlying t=some (.slice el))(hk:(∃ e',P.underlying tx=some (.slice e'))∨P.underlying tx=some .string)(hs:br P el=some sz)(h0:0<sz)
 (hx0:ao T s=some (.slu r eo n)) (hx:ao T x=some v) (hro:H.at' r=some (.row rr ne sz' rt c)) (hn:eo+n≤ne) (hr:RdV P H sz v 0 vs) (h1:rJ vs) :
 OpDoes P T H nx ⟨d,.call {callee:= .builtin .append,args:= #[s,x],argTypes:= #[t,tx]},ty,pos,af,gd⟩ (.val (.slu r eo n),H,nx):=by
 have hap:fh P H nx el (.slu r eo n) v=some (.val (.slu r eo n),H,nx):=by
  unfold fh
  rw [hs]
  cases sz with
  | zero=>omega
  | succ sz=>
    simp only
    rw [show aZ H (sz+1) v=some (0,vs.map .sc)from hr]
    simp only [ii h1,Bool.not_true,cond_false]
    rw [hro]
    simp only [Nat.beq_refl,cond_true,show Nat.ble (eo+n) ne=true from zm hn]
 refine jX ?_
 rcases hk with ⟨e',hk⟩|hk <;> simp only [gH,dQ,hx0,hx,zH,gA,iL,hu,hk,hap]
theorem sE{ro:Option Nat}{fn nt nx:Nat}{T:Tr SV}{k:List AIt}{dfs:List ADf}{H:aK}{Q:Pst}{ops:Array Oper}{i:Nat}{l:List Oper}{ty:TypeId}{pos:String}{af:Array Edge}{gd:Option (Nat×Bool)}{t tx el rt:TypeId}{sz r eo n ne sz':Nat}{rr:Bool}{c:Tr SV}{s x:Operand}{v:SV}{vs:List Value}{dd:Nat}(hw:aq T ops ⟨some dd,.call {callee:= .builtin .append,args:= #[s,x],argTypes:= #[t,tx]},ty,pos,af,gd⟩=some true)(hd:Nat.blt dd nt=true)(hx0:ao T s=some (.slu r eo n))(hx:ao T x=some v)(hu:P.underlying t=some (.slice el))(hk:(∃ e',P.underlying tx=some (.slice e'))∨P.underlying tx=some .string)(hs:br P el=some sz)(h0:Nat.blt 0 sz=true)(hro:H.at' r=some (.row rr ne sz' rt c))(hn:eo+n≤ne)(hr:RdV P H sz v 0 vs)(h1:rJ vs)
 (h:Wp P ro ⟨fn,nt,T.set dd (.slu r eo n),.inReg ops (i+1) l :: k,dfs,H,nx⟩ Q):Wp P ro ⟨fn,nt,T,.inReg ops i (⟨some dd,.call {callee:= .builtin .append,args:= #[s,x],argTypes:= #[t,tx]},ty,pos,af,gd⟩ :: l) :: k,dfs,H,nx⟩ Q:=
 bC hw (.inr (fun _ h=>by cases h)) (rI hu hk hs (bu h0) hx0 hx hro hn hr h1) (by rw [aC hd];exact h)
end
section
variable {K V:Type} [DecidableEq K]
theorem oH(m:List (K×V×Nat))(k:K)(v:V)(c:Nat):cr (cZ m k v c) k=some v:=by
 induction m with
 | nil=>simp [cZ,cr]
 | cons x m ih=>
   by_cases h:x.1=k
   ·simp [cZ,h,cr]
   ·have e:cZ (x :: m) k v c=x :: cZ m k v c:=by simp [cZ,h]
    have e2:cr (x :: cZ m k v c) k=cr (cZ m k v c) k:=by simp [cr,h]
    rw [e,e2,ih]
theorem iD{m:List (K×V×Nat)}{k:K}(hg:cr m k=none)(v:V)(c:Nat):cZ m k v c=m ++ [(k,v,c)]:=by
 have hk:=ye m k
 cases hi:m.findIdx? fun x=>decide (x.1=k)with
 | none=>rw [hi] at hk;exact hk.2.2 v c
 | some i=>
   rw [hi] at hk
   obtain⟨x,_,_,h3,_⟩:=hk
   rw [hg] at h3;cases h3
theorem qP{m:List (K×V×Nat)}{k:K}{v:V}(h:cr m k=some v): ∃ A B,kv m=A ++ (k,v) :: B∧kv (hY m k)=A ++ B∧ ∀ w c,kv (cZ m k w c)=A ++ (k,w) :: B:=by
 obtain⟨A,B,s,h1,_,h3,h4⟩:=jT h
 refine⟨kv A,kv B,?_,?_,fun w c=>?_⟩
 ·rw [h1];simp [kv]
 ·rw [h4];simp [kv]
 ·rw [h3];simp [kv]
theorem iz{X:Type}{enc:K→Value}{g:X→SV}{m:List (K×X×Nat)}{k:K}{x y:X}(hg:cr m k=some x)(hs:g y=g x)(c:Nat):lQ enc g (cZ m k y c)=lQ enc g m:=by
 obtain⟨A,B,s,h1,_,h3,_⟩:=jT hg
 rw [h3,h1]
 simp [lQ,hs]
variable {P:K→V→Own}
theorem Big.get{m:List (K×V×Nat)}{H:aK}{F:Nat→Prop}(hb:Big P (kv m) H F){k:K}{v:V}(hg:cr m k=some v) :
 ∃ F1 G,P k v H F1∧Big P (kv (hY m k)) H G∧(∀ n,F1 n→ ¬ G n)∧ ∀ n,F n↔F1 n∨G n:=by
 obtain⟨A,B,h1,h2,_⟩:=qP hg
 rw [h1] at hb
 rw [h2]
 exact Big.focus hb
theorem Big.put(hP: ∀ k x,lN (P k x)){m:List (K×V×Nat)}{H H':aK}{G F1:Nat→Prop}{k:K}{v w:V}(hg:cr m k=some v)(c:Nat)(hG:Big P (kv (hY m k)) H G)(e:P k w H' F1)(fr: ∀ n,G n→H'.at' n=H.at' n)(hd: ∀ n,F1 n→ ¬ G n) :
 Big P (kv (cZ m k w c)) H' (fun n=>F1 n∨G n):=by
 obtain⟨A,B,_,h2,h3⟩:=qP hg
 rw [h2] at hG
 rw [h3]
 exact Big.kO e (Big.frame hP _ _ _ _ hG fr) hd
theorem Big.add(hP: ∀ k x,lN (P k x)){m:List (K×V×Nat)}{H H':aK}{F F1:Nat→Prop}{k:K}{w:V}(hg:cr m k=none)(c:Nat)(hb:Big P (kv m) H F)(e:P k w H' F1)(fr: ∀ n,F n→H'.at' n=H.at' n)(hd: ∀ n,F1 n→ ¬ F n) :
 Big P (kv (cZ m k w c)) H' (fun n=>F1 n∨F n):=by
 rw [iD hg]
 have h0:=Big.frame hP _ _ _ _ hb fr
 simp only [kv,zF,zC,List.map_nil]
 exact Big.kO (A:=kv m) (B:= []) e (by rw [List.append_nil];exact h0) hd
omit [DecidableEq K] in
theorem Big.lt(hP: ∀ k x H F z,P k x H F→F z→ ∃ vo,H.at' z=some vo){H:aK}{z:Nat}: ∀ {m:List (K×V)} {F:Nat→Prop},Big P m H F→F z→ ∃ vo,H.at' z=some vo
 | [],_,h,hz=>(h z hz).elim
 | x :: m,_,⟨G1,G2,h1,h2,_,h4⟩,hz=>by
   rcases(h4 z).1 hz with hz|hz
   ·exact hP _ _ _ _ _ h1 hz
   ·exact Big.lt hP h2 hz
end
theorem ee{P:Program}{ro:Option Nat}{fn nt nx:Nat}{T:Tr SV}{k:List AIt}{dfs:List ADf}{H:aK}{Q:Pst}{R:aK→Nat→Prop}(h:R H nx)(h2: ∀ H' nx',R H' nx'→Wp P ro ⟨fn,nt,T,k,dfs,H',nx'⟩ Q):Wp P ro ⟨fn,nt,T,k,dfs,H,nx⟩ Q:=h2 _ _ h
def Stp(F F':Nat→Prop)(H:aK)(nx:Nat)(H':aK)(nx':Nat):Prop:=nx≤nx'∧(∀ n,F' n→F n∨nx≤n)∧ ∀ n,n<nx→ ¬ F n→H'.at' n=H.at' n
theorem Stp.refl{F:Nat→Prop}{H:aK}{nx:Nat}:Stp F F H nx H nx:=⟨zA _,fun _ h=> .inl h,fun _ _ _=>rfl⟩
theorem Stp.trans{F F' F'':Nat→Prop}{H H' H'':aK}{nx nx' nx'':Nat}(h:Stp F F' H nx H' nx')(g:Stp F' F'' H' nx' H'' nx''):Stp F F'' H nx H'' nx'':=by
 refine⟨zI h.1 g.1,fun n hn=>?_,fun n hn hf=>?_⟩
 ·rcases g.2.1 n hn with h1|h1
  ·exact h.2.1 n h1
  ·exact .inr (zI h.1 h1)
 ·refine(g.2.2 n (Nat.lt_of_lt_of_le hn h.1) fun hf'=>?_).trans (h.2.2 n hn hf)
  rcases h.2.1 n hf' with h1|h1
  ·exact hf h1
  ·omega
def bLt(a b:ByteArray):Bool:=decide (a.data.toList<b.data.toList)
theorem kr: ∀ (x y:List UInt8),Op.bytesLess x y=decide (x<y)
 | [],[]=>by simp [Op.bytesLess]
 | _ :: _,[]=>by simp [Op.bytesLess]
 | [],_ :: _=>by simp [Op.bytesLess]
 | a :: x,b :: y=>by
   rw [Op.bytesLess,kr x y]
   by_cases h:a<b
   ·simp [h,List.cons_lt_cons_iff]
   ·by_cases h2:a=b
    ·subst h2
     simp [List.cons_lt_cons_iff]
    ·simp [h,h2,List.cons_lt_cons_iff]
theorem wP(a b:ByteArray):Op.bytesLess a.toList b.toList=bLt a b:=by
 rw [kr,ByteArray.toList_eq,ByteArray.toList_eq]
 rfl
theorem j7(a:ByteArray):bLt a a=false:=by
 unfold bLt
 exact decide_eq_false (List.lt_irrefl _)
theorem o8{a b c:ByteArray}(h:bLt a b=true)(g:bLt b c=true):bLt a c=true:=by
 unfold bLt at *
 rw [decide_eq_true_eq] at *
 exact List.lt_trans h g
theorem x3:Sort.SWO bLt where
 irrefl:=j7
 trans:=fun a b c h g=>o8 h g
 ntrans:=fun a b c h g=>by
  unfold bLt at *
  rw [decide_eq_false_iff_not] at *
  rw [List.not_lt] at *
  exact List.le_trans g h
theorem wQ{a b:ByteArray}(h:bLt a b=false)(g:bLt b a=false):a=b:=by
 unfold bLt at *
 rw [decide_eq_false_iff_not,List.not_lt] at *
 have:=List.le_antisymm g h
 cases a;cases b
 simp only at this
 congr 1
 exact Array.toList_inj.1 this
theorem uB(a b:ByteArray):(a.toList == b.toList)=decide (a=b):=by
 rw [← beq_toListBytes]
 by_cases h:a=b
 ·rw [decide_eq_true h];exact(MapKept.bytes_beq a b).2 h
 ·rw [decide_eq_false h]
  cases e:a == b with
  | false=>rfl
  | true=>exact absurd ((MapKept.bytes_beq a b).1 e) h
section
variable {P:Program} {T:Tr SV} {H:aK} {d:Option Tmp} {ty:TypeId} {pos:String} {af:Array Edge} {gd:Option (Nat×Bool)}
theorem vr{t yt:TypeId}{x y:Operand}{a b:ByteArray}{r:Bool}(hx:ao T x=some (.sc (.string a)))(hy:ao T y=some (.sc (.string b)))(hr:bLt a b=r):ReadDoes P T H ⟨d,.binOp .lss t x y yt,ty,pos,af,gd⟩ (.sc (.bool r)):=by
 subst hr
 refine cu fun ev w he=>?_
 have e1:=he x _ hx _ rfl
 have e2:=he y _ hy _ rfl
 rw [← wP]
 simp [execOp,e1,e2,eqGuard,binOp,Op.stringOp]
theorem vt{t yt:TypeId}{x y:Operand}{a b:ByteArray}{r:Bool}(hx:ao T x=some (.sc (.string a)))(hy:ao T y=some (.sc (.string b)))(hr:(!bLt b a)=r):ReadDoes P T H ⟨d,.binOp .leq t x y yt,ty,pos,af,gd⟩ (.sc (.bool r)):=by
 subst hr
 refine cu fun ev w he=>?_
 have e1:=he x _ hx _ rfl
 have e2:=he y _ hy _ rfl
 have e3:(!bLt b a)=(Op.bytesLess a.toList b.toList || (a.toList == b.toList)):=by
  rw [wP,uB]
  cases h1:bLt a b with
  | true=>
    cases h2:bLt b a with
    | true=>have:=o8 h1 h2;rw [j7] at this;cases this
    | false=>rfl
  | false=>
    cases h2:bLt b a with
    | true=>
      rw [decide_eq_false (fun e=>by subst e;rw [j7] at h2;cases h2)]
      rfl
    | false=>rw [decide_eq_true (wQ h1 h2)];rfl
 rw [e3]
 simp [execOp,e1,e2,eqGuard,binOp,Op.stringOp]
theorem xu{t u:TypeId}{x y:Operand}{kd:IntKind}{a b c:Int}(hx:ao T x=some (.sc (.int kd a)))(hy:ao T y=some (.sc (.int kd b)))(hc:min a b=c):ReadDoes P T H ⟨d,.call {callee:= .builtin .min,args:= #[x,y],argTypes:= #[t,u]},ty,pos,af,gd⟩ (.sc (.int kd c)):=by
 subst hc
 refine cu fun ev w he=>?_
 have e1:=he x _ hx _ rfl
 have e2:=he y _ hy _ rfl
 have e3:(if b<a then b else a)=min a b:=by omega
 simp [execOp,resolve,invoke,builtin,e1,e2,Builtin.min_,Builtin.min2,e3]
theorem xv{t u:TypeId}{x y:Operand}{kd:IntKind}{a b c:Int}(hx:ao T x=some (.sc (.int kd a)))(hy:ao T y=some (.sc (.int kd b)))(hc:max a b=c):ReadDoes P T H ⟨d,.call {callee:= .builtin .max,args:= #[x,y],argTypes:= #[t,u]},ty,pos,af,gd⟩ (.sc (.int kd c)):=by
 subst hc
 refine cu fun ev w he=>?_
 have e1:=he x _ hx _ rfl
 have e2:=he y _ hy _ rfl
 have e3:(if a<b then b else a)=max a b:=by omega
 simp [execOp,resolve,invoke,builtin,e1,e2,Builtin.max_,Builtin.max2,e3]
end
abbrev u8L(s:ByteArray):List Value:=s.data.toList.map fun c=> .int .u8 (c.toNat:Int)
section
variable {P:Program} {T:Tr SV} {H:aK} {d:Option Tmp} {ty:TypeId} {pos:String} {af:Array Edge} {gd:Option (Nat×Bool)}
theorem nL{t e:TypeId}{x:Operand}{a:Option Addr}{n c:Nat}(hu:P.underlying t=some (.slice e))(hx:ao T x=some (.sc (.slice a n c))):ReadDoes P T H ⟨d,.call {callee:= .builtin .len,args:= #[x],argTypes:= #[t]},ty,pos,af,gd⟩ (.sc (.int .i64 n)):=by
 refine cu fun ev w he=>?_
 have e1:=he x _ hx _ rfl
 simp [execOp,resolve,invoke,builtin,e1,Builtin.len_,run_underlying hu,goInt]
end
section
variable {P:Program} {T:Tr SV} {H:aK} {d:Option Tmp} {ty:TypeId} {pos:String} {af:Array Edge} {gd:Option (Nat×Bool)}
theorem te{t:TypeId}{v:SV}(h:ku P t []=some v):ReadDoes P T H ⟨d,.build t #[],ty,pos,af,gd⟩ v:=by
 refine eM ?_
 simp only [cQ,jB,zH,h]
end
section
variable {P:Program} {nt nx i stg:Nat} {T:Tr SV} {H:aK} {ops:Array Oper} {l:List Oper} {ty:TypeId} {pos:String} {af:Array Edge} {gd:Option (Nat×Bool)} {K:DS→Prop} {rs:List Rec} {Hs:List (aK×Nat)} {op:Op}
theorem vW{v:SV}{H':aK}{nx':Nat}(hw:aq (aA T (az ops.toList ⟨none,op,ty,pos,af,gd⟩)) ops ⟨none,op,ty,pos,af,gd⟩=some true)(hnd: ∀ c,op ≠ .defer c)
 (hr:OpDoes P (aA T (az ops.toList ⟨none,op,ty,pos,af,gd⟩)) H nx ⟨none,op,ty,pos,af,gd⟩ (.val v,H',nx'))
 (h:DrawK P nt ops (i+1) l ⟨T,H',nx',⟨i,⟨none,op,ty,pos,af,gd⟩,aA T (az ops.toList ⟨none,op,ty,pos,af,gd⟩),stg,true,true,v⟩ :: rs,(H',nx') :: Hs,stg+1⟩ K) :
 DrawK P nt ops i (⟨none,op,ty,pos,af,gd⟩ :: l) ⟨T,H,nx,rs,Hs,stg⟩ K:=by
 obtain⟨s',h1,h2⟩:=h.ex
 exact⟨⟨s',.cons (.inr (.inr ⟨hw,v,H',nx',⟨_,hr,hnd,rfl⟩,rfl⟩)) h1,h2⟩⟩
end
section
variable {P:Program} {T:Tr SV} {H:aK} {d:Option Tmp} {ty:TypeId} {pos:String} {af:Array Edge} {gd:Option (Nat×Bool)}
theorem oT{t e:TypeId}(n:Nat)(hu:P.underlying t=some (.slice e))(w:World):(Op.equalIn (n+1) t (.slice none 0 0) (.slice none 0 0)).run P w = .ok true w:=by
 simp [Op.equalIn,run_underlying hu]
theorem vp{t yt e:TypeId}{x y:Operand}(hx:ao T x=some (.sc (.slice none 0 0)))(hy:ao T y=some (.sc (.slice none 0 0)))(hu:P.underlying t=some (.slice e)):ReadDoes P T H ⟨d,.binOp .eql t x y yt,ty,pos,af,gd⟩ (.sc (.bool true)):=by
 refine cu fun ev w he=>?_
 have e1:=he x _ hx _ rfl
 have e2:=he y _ hy _ rfl
 have hg:(eqGuard .eql t x y (.slice none 0 0) (.slice none 0 0)).run P w = .ok () w:=rfl
 have hq:(Op.equal t (.slice none 0 0) (.slice none 0 0)).run P w = .ok true w:=oT 9999 hu w
 have hb:(binOp .eql t (.slice none 0 0) (.slice none 0 0)).run P w = .ok (.bool true) w:=by
  simp only [binOp,Sem.run_bind,hq,Result.andThen_ok,Sem.run_pure]
 simp only [execOp,e1,e2,Sem.run_bind,hg,hb,Result.andThen_ok,Sem.run_pure]
end
section
variable {P:Program} {ro:Option Nat} {fn nt nx:Nat} {T:Tr SV} {k:List AIt} {dfs:List ADf} {H:aK} {Q:Pst} {ops:Array Oper} {i:Nat} {l:List Oper} {d:Option Tmp} {ty:TypeId} {pos:String} {af:Array Edge} {gd:Option (Nat×Bool)}
theorem wX{t yt:TypeId}{x y:Operand}{a b:ByteArray}{r:Bool}{dd:Nat}(hw:aq T ops ⟨some dd,.binOp .lss t x y yt,ty,pos,af,gd⟩=some true)(hd:Nat.blt dd nt=true)(hx:ao T x=some (.sc (.string a)))(hy:ao T y=some (.sc (.string b)))(hr:bLt a b=r)
 (h:Wp P ro ⟨fn,nt,T.set dd (.sc (.bool r)),.inReg ops (i+1) l :: k,dfs,H,nx⟩ Q):Wp P ro ⟨fn,nt,T,.inReg ops i (⟨some dd,.binOp .lss t x y yt,ty,pos,af,gd⟩ :: l) :: k,dfs,H,nx⟩ Q:=
 bC hw (.inr (fun _ h=>by cases h)) ((vr hx hy hr).does) (by rw [aC hd];exact h)
theorem w8{t yt:TypeId}{x y:Operand}{a b:ByteArray}{r:Bool}{dd:Nat}(hw:aq T ops ⟨some dd,.binOp .leq t x y yt,ty,pos,af,gd⟩=some true)(hd:Nat.blt dd nt=true)(hx:ao T x=some (.sc (.string a)))(hy:ao T y=some (.sc (.string b)))(hr:(!bLt b a)=r)
 (h:Wp P ro ⟨fn,nt,T.set dd (.sc (.bool r)),.inReg ops (i+1) l :: k,dfs,H,nx⟩ Q):Wp P ro ⟨fn,nt,T,.inReg ops i (⟨some dd,.binOp .leq t x y yt,ty,pos,af,gd⟩ :: l) :: k,dfs,H,nx⟩ Q:=
 bC hw (.inr (fun _ h=>by cases h)) ((vt hx hy hr).does) (by rw [aC hd];exact h)
theorem wu{t u:TypeId}{x y:Operand}{kd:IntKind}{a b c:Int}{dd:Nat}(hw:aq T ops ⟨some dd,.call {callee:= .builtin .max,args:= #[x,y],argTypes:= #[t,u]},ty,pos,af,gd⟩=some true)(hd:Nat.blt dd nt=true)(hx:ao T x=some (.sc (.int kd a)))(hy:ao T y=some (.sc (.int kd b)))(hc:max a b=c)
 (h:Wp P ro ⟨fn,nt,T.set dd (.sc (.int kd c)),.inReg ops (i+1) l :: k,dfs,H,nx⟩ Q):Wp P ro ⟨fn,nt,T,.inReg ops i (⟨some dd,.call {callee:= .builtin .max,args:= #[x,y],argTypes:= #[t,u]},ty,pos,af,gd⟩ :: l) :: k,dfs,H,nx⟩ Q:=
 bC hw (.inr (fun _ h=>by cases h)) ((xv hx hy hc).does) (by rw [aC hd];exact h)
theorem mv{t e:TypeId}{x:Operand}{a:Option Addr}{n c:Nat}{dd:Nat}(hw:aq T ops ⟨some dd,.call {callee:= .builtin .len,args:= #[x],argTypes:= #[t]},ty,pos,af,gd⟩=some true)(hd:Nat.blt dd nt=true)(hx:ao T x=some (.sc (.slice a n c)))(hu:P.underlying t=some (.slice e))
 (h:Wp P ro ⟨fn,nt,T.set dd (.sc (.int .i64 n)),.inReg ops (i+1) l :: k,dfs,H,nx⟩ Q):Wp P ro ⟨fn,nt,T,.inReg ops i (⟨some dd,.call {callee:= .builtin .len,args:= #[x],argTypes:= #[t]},ty,pos,af,gd⟩ :: l) :: k,dfs,H,nx⟩ Q:=
 bC hw (.inr (fun _ h=>by cases h)) ((nL hu hx).does) (by rw [aC hd];exact h)
theorem mw{t:TypeId}{v:SV}{dd:Nat}(hw:aq T ops ⟨some dd,.build t #[],ty,pos,af,gd⟩=some true)(hd:Nat.blt dd nt=true)(h0:ku P t []=some v)
 (h:Wp P ro ⟨fn,nt,T.set dd v,.inReg ops (i+1) l :: k,dfs,H,nx⟩ Q):Wp P ro ⟨fn,nt,T,.inReg ops i (⟨some dd,.build t #[],ty,pos,af,gd⟩ :: l) :: k,dfs,H,nx⟩ Q:=
 bC hw (.inr (fun _ h=>by cases h)) ((te h0).does) (by rw [aC hd];exact h)
theorem wW{t yt e:TypeId}{x y:Operand}{dd:Nat}(hw:aq T ops ⟨some dd,.binOp .eql t x y yt,ty,pos,af,gd⟩=some true)(hd:Nat.blt dd nt=true)(hx:ao T x=some (.sc (.slice none 0 0)))(hy:ao T y=some (.sc (.slice none 0 0)))(hu:P.underlying t=some (.slice e))
 (h:Wp P ro ⟨fn,nt,T.set dd (.sc (.bool true)),.inReg ops (i+1) l :: k,dfs,H,nx⟩ Q):Wp P ro ⟨fn,nt,T,.inReg ops i (⟨some dd,.binOp .eql t x y yt,ty,pos,af,gd⟩ :: l) :: k,dfs,H,nx⟩ Q:=
 bC hw (.inr (fun _ h=>by cases h)) ((vp hx hy hu).does) (by rw [aC hd];exact h)
end
section
variable {P:Program} {T:Tr SV} {H:aK} {nx:Nat} {d:Option Tmp} {ty:TypeId} {pos:String} {af:Array Edge} {gd:Option (Nat×Bool)}
theorem pH{s t el:TypeId}{x:Operand}{b:ByteArray}(hs:P.underlying s=some .string)(ht:P.underlying t=some (.slice el))(he:P.underlying el=some (.int .u8))(hx:ao T x=some (.sc (.string b)))(hb:b.size≤140737488355328) :
 OpDoes P T H nx ⟨d,.convert s t x,ty,pos,af,gd⟩ (.val (.slu nx 0 b.size),H.set nx (dat false b.size 1 el (u8L b)),nx+1):=by
 have e0:eH (b.data.toList.map fun c=>SV.sc (.int .u8 (c.toNat:Int)))=fun i=>((u8L b)[i]?).map SV.sc:=by
  funext i
  simp [eH,u8L,Function.comp_def]
 intro K w0 e w ev hS hE
 have e1:=hE x _ hx
 simp only [SV.conc,zd] at e1
 have hrun:=run_bytes_of_string w s t el b hs ht he
 have hge:=grownCap_ge w b.size 0 el
 have hle:=grownCap_le_maxLen w b.size 0 el (by unfold maxLen;omega)
 generalize grownCap w b.size 0 el=gc at hrun hge hle
 have hf:=hS.fresh nx (zA _)
 have hsz:(bytesRow b gc).size=gc:=by
  have:b.data.size=b.size:=rfl
  simp [bytesRow];omega
 rw [hsz] at hrun
 refine⟨e.put nx ⟨w.heap.size,0,gc,1,false⟩,(w.drew.alloc (Obj.cells (bytesRow b gc) el (gc,gc+1))),Env.cf hf,?_,.slice (some ⟨w.heap.size,0,none⟩) b.size gc,by simp [SV.conc,Env.bn,Ent.at],by simp only [execOp,←e1];simp [hrun]⟩
 refine(hS.drew').new (x:=⟨w.heap.size,0,gc,1,false⟩) (o:= .cells (bytesRow b gc) el (gc,gc+1)) rfl rfl rfl rfl rfl rfl rfl ?_
 refine⟨rfl,_,_,_,rfl,hge,by rw [hsz];simp,hle,fun _ i hi=>?_,by omega,fun i hi s' hs'=>?_⟩
 ·rw [hsz] at hi
  simp;omega
 ·have hs':((u8L b)[i]?).map SV.sc=some s':=hs'
  rw [zo] at hs'
  obtain⟨u,hu,rfl⟩:=hs'
  simp only [u8L,List.getElem?_map,zo] at hu
  obtain⟨a,ha,rfl⟩:=hu
  refine⟨_,rfl,?_⟩
  simp only [Nat.zero_add,bytesRow]
  rw [Array.getElem?_append_left (by rw [Array.size_map];have:b.data.size=b.size:=rfl;omega)]
  simp only [Array.getElem?_map,zo]
  exact⟨a,by simpa using ha,rfl⟩
end
section
variable {P:Program} {ro:Option Nat} {fn nt nx i:Nat} {T:Tr SV} {k:List AIt} {dfs:List ADf} {H:aK} {Q:Pst} {ops:Array Oper} {l:List Oper} {ty:TypeId} {pos:String} {af:Array Edge} {gd:Option (Nat×Bool)}
theorem rA{s t el:TypeId}{x:Operand}{b:ByteArray}{dd:Nat}(hw:aq T ops ⟨some dd,.convert s t x,ty,pos,af,gd⟩=some true)(hd:Nat.blt dd nt=true)(hs:P.underlying s=some .string)(ht:P.underlying t=some (.slice el))(he:P.underlying el=some (.int .u8))(hx:ao T x=some (.sc (.string b)))(hb:b.size≤140737488355328)
 (h:Wp P ro ⟨fn,nt,T.set dd (.slu nx 0 b.size),.inReg ops (i+1) l :: k,dfs,H.set nx (dat false b.size 1 el (u8L b)),nx+1⟩ Q):Wp P ro ⟨fn,nt,T,.inReg ops i (⟨some dd,.convert s t x,ty,pos,af,gd⟩ :: l) :: k,dfs,H,nx⟩ Q:=
 bC hw (.inr (fun _ h=>by cases h)) (pH hs ht he hx hb) (by rw [aC hd];exact h)
end
abbrev xq(ro:Bool)(ne sz:Nat)(t:TypeId)(l:List SV):VO:= .row ro ne sz t (eH l)
section
variable {ro:Bool} {ne sz:Nat} {t:TypeId} {l:List SV}
theorem o6{i:Nat}{s:SV}(h:l[i]? =some s)(hi:i<ne*sz):(xq ro ne sz t l).cell i=some s:=by
 simp only [VO.cell]
 rw [show Nat.blt i (ne*sz)=true from zm hi]
 exact h
theorem d8: ∀ (n o:Nat) (l':List SV),(l.drop o).take n=l'→l'.length=n→o+n≤ne*sz→(xq ro ne sz t l).cellsFrom o n=some l'
 | 0,o,l',h,_,_=>by rw [List.take_zero] at h;subst h;rfl
 | n+1,o,l',h,hn,ho=>by
   cases hd:l.drop o with
   | nil=>rw [hd] at h;subst h;simp at hn
   | cons x r=>
     have hx:l[o]? =some x:=by rw [← List.head?_drop,hd];rfl
     have hr:l.drop (o+1)=r:=by rw [← List.drop_drop,hd];rfl
     rw [hd,List.take_succ_cons] at h
     subst h
     have:=d8 n (o+1) (r.take n) (by rw [hr]) (by simpa using hn) (by omega)
     have hc:=o6 (ro:=ro) (ne:=ne) (sz:=sz) (t:=t) hx (by omega)
     simp only [VO.cellsFrom,hc,this]
end
def SlOf(H:aK)(sz:Nat)(t:TypeId)(s:SV)(n:Nat)(cs:List SV):Prop:=cs.length=n*sz ∧
 ((n=0∧(s = .sc (.slice none 0 0)∨ ∃ b o c vo,s = .sl b o 0 c∧H.at' b=some vo)) ∨
  ∃ r eo ne l,(s = .slu r eo n∨ ∃ C,n≤C∧s = .sl r (eo*sz) n C)∧H.at' r=some (xq false ne sz t l)∧(l.drop (eo*sz)).take (n*sz)=cs∧eo+n≤ne∧l.length=ne*sz)
section
variable {P:Program} {T:Tr SV} {H:aK} {nx:Nat} {d:Option Tmp} {ty:TypeId} {pos:String} {af:Array Edge} {gd:Option (Nat×Bool)}
theorem SlOf.cells{sz n:Nat}{t:TypeId}{s:SV}{cs:List SV}(h:SlOf H sz t s n cs):aZ H sz s=some (n,cs):=by
 obtain⟨h1,⟨rfl,h2⟩|⟨r,eo,ne,l,rfl|⟨C,_,rfl⟩,hb,hc,he,hl⟩⟩:=h
 ·rw [Nat.zero_mul] at h1
  have:=zv h1
  subst this
  rcases h2 with rfl|⟨b,o,c,vo,rfl,hb⟩
  ·rfl
  ·simp [aZ,hb,VO.cellsFrom]
 ·simp only [aZ,hb,Nat.beq_refl,Bool.true_and]
  rw [show Nat.ble (eo+n) ne=true from zm he]
  have:=d8 (ro:=false) (ne:=ne) (sz:=sz) (t:=t) (l:=l) (n*sz) (eo*sz) cs hc h1 (by rw [← Nat.add_mul];exact Nat.mul_le_mul_right _ he)
  simp only [cond_true,this,zG]
 ·have:=d8 (ro:=false) (ne:=ne) (sz:=sz) (t:=t) (l:=l) (n*sz) (eo*sz) cs hc h1 (by rw [← Nat.add_mul];exact Nat.mul_le_mul_right _ he)
  simp only [aZ,hb,this,zG]
theorem SlOf.row{ne sz:Nat}{t:TypeId}{l:List SV}{r:Nat}(hb:H.at' r=some (xq false ne sz t l))(hl:l.length=ne*sz):SlOf H sz t (.slu r 0 ne) ne l:=by
 refine⟨hl,.inr ⟨r,0,ne,l,.inl rfl,hb,?_,by omega,hl⟩⟩
 rw [Nat.zero_mul,List.drop_zero,←hl,List.take_length]
theorem SlOf.none{sz:Nat}{t:TypeId}:SlOf H sz t (.sc (.slice none 0 0)) 0 []:=⟨by simp,.inl ⟨rfl,.inl rfl⟩⟩
end
def nmS:SV→Option Nat
 | .slu b _ _=>some b
 | .sl b _ _ _=>some b
 | _=>none
theorem SlOf.frame{H H':aK}{sz n:Nat}{t:TypeId}{s:SV}{cs:List SV}(h:SlOf H sz t s n cs)(hf: ∀ b,nmS s=some b→H'.at' b=H.at' b):SlOf H' sz t s n cs:=by
 obtain⟨h1,⟨rfl,h2⟩|⟨r,eo,ne,l,hsl,hb,hc⟩⟩:=h
 ·refine⟨h1,.inl ⟨rfl,?_⟩⟩
  rcases h2 with rfl|⟨b,o,c,vo,rfl,hb⟩
  ·exact .inl rfl
  ·exact .inr ⟨b,o,c,vo,rfl,(hf b rfl).trans hb⟩
 ·exact⟨h1,.inr ⟨r,eo,ne,l,hsl,(hf r (by rcases hsl with rfl|⟨C,_,rfl⟩ <;> rfl)).trans hb,hc⟩⟩
section
variable {P:Program} {ro:Option Nat} {fn nt nx:Nat} {T:Tr SV} {k:List AIt} {dfs:List ADf} {H:aK} {Q:Pst} {ops:Array Oper} {i:Nat} {l:List Oper} {d:Option Tmp} {ty:TypeId} {pos:String} {af:Array Edge} {gd:Option (Nat×Bool)}
theorem yv{t:TypeId}{x:Operand}{b o:Nat}{vo:VO}{v:SV}{dd:Nat}(hw:aq T ops ⟨some dd,.load t x,ty,pos,af,gd⟩=some true)(hd:Nat.blt dd nt=true)(hx:ao T x=some (.ptr b o))(ha:bI P t=some none)(hb:H.at' b=some vo)(hv:vo.cell o=some v)
 (h:Wp P ro ⟨fn,nt,T.set dd v,.inReg ops (i+1) l :: k,dfs,H,nx⟩ Q):Wp P ro ⟨fn,nt,T,.inReg ops i (⟨some dd,.load t x,ty,pos,af,gd⟩ :: l) :: k,dfs,H,nx⟩ Q:=
 bC hw (.inr (fun _ h=>by cases h)) ((aO ha hx hb hv).does) (by rw [aC hd];exact h)
end
section
variable {P:Program} {nt nx:Nat} {T:Tr SV} {H:aK} {ops:Array Oper} {i:Nat} {l:List Oper} {ty:TypeId} {pos:String} {af:Array Edge} {gd:Option (Nat×Bool)} {rs:List Rec} {Hs:List (aK×Nat)} {stg:Nat} {K:DS→Prop}
theorem lE{t:TypeId}{x:Operand}{b o:Nat}{vo:VO}{v:SV}{dd:Nat}(hw:aq (aA T (az ops.toList ⟨some dd,.load t x,ty,pos,af,gd⟩)) ops ⟨some dd,.load t x,ty,pos,af,gd⟩=some true)(hd:Nat.blt dd nt=true)(hx:ao (aA T (az ops.toList ⟨some dd,.load t x,ty,pos,af,gd⟩)) x=some (.ptr b o))(ha:bI P t=some none)(hb:H.at' b=some vo)(hv:vo.cell o=some v)
 (h:DrawK P nt ops (i+1) l ⟨T.set dd v,H,nx,⟨i,⟨some dd,.load t x,ty,pos,af,gd⟩,(aA T (az ops.toList ⟨some dd,.load t x,ty,pos,af,gd⟩)),stg,false,true,v⟩ :: rs,Hs,stg⟩ K):DrawK P nt ops i (⟨some dd,.load t x,ty,pos,af,gd⟩ :: l) ⟨T,H,nx,rs,Hs,stg⟩ K:=
 bo hw hd (fun _ h=>by cases h) (aO ha hx hb hv) h
theorem vU{t:TypeId}{x:Operand}{b o n:Nat}{vo:VO}{cs:List SV}{dd:Nat}(hw:aq (aA T (az ops.toList ⟨some dd,.load t x,ty,pos,af,gd⟩)) ops ⟨some dd,.load t x,ty,pos,af,gd⟩=some true)(hd:Nat.blt dd nt=true)(hx:ao (aA T (az ops.toList ⟨some dd,.load t x,ty,pos,af,gd⟩)) x=some (.ptr b o))(ha:bI P t=some (some n))(hb:H.at' b=some vo)(hv:vo.cellsFrom o n=some cs)
 (h:DrawK P nt ops (i+1) l ⟨T.set dd (.agg cs),H,nx,⟨i,⟨some dd,.load t x,ty,pos,af,gd⟩,(aA T (az ops.toList ⟨some dd,.load t x,ty,pos,af,gd⟩)),stg,false,true,.agg cs⟩ :: rs,Hs,stg⟩ K):DrawK P nt ops i (⟨some dd,.load t x,ty,pos,af,gd⟩ :: l) ⟨T,H,nx,rs,Hs,stg⟩ K:=
 bo hw hd (fun _ h=>by cases h) (bY ha hx hb hv) h
end
end Go.Sy
end
section
namespace Go.Sy.Nq
open Go Go.Sy Go.Sl Go.RowKit
def ReadQ(P:Program)(rn:Rn)(T:Tr SV)(H:aK)(nx:Nat)(o:Oper)(v:SV):Prop:=ReadDoes P T H o v∨dP P rn T H nx o (v,H,nx)
def rx(P:Program)(rn:Rn)(nt:Nat)(ops:Array Oper)(i:Nat)(o:Oper)(s s':DS):Prop:=
 (aq (aA s.T (az ops.toList o)) ops o=some false∧s' = {s with T:=gi nt s.T o.dst cy,recs:=⟨i,o,aA s.T (az ops.toList o),s.stg,false,false,cy⟩ :: s.recs}) ∨
 (aq (aA s.T (az ops.toList o)) ops o=some true∧(∀ c,o.op ≠ .defer c)∧ ∃ v,ReadQ P rn (aA s.T (az ops.toList o)) s.H s.nx o v∧s' = {s with T:=gi nt s.T o.dst v,recs:=⟨i,o,aA s.T (az ops.toList o),s.stg,false,true,v⟩ :: s.recs}) ∨
 (aq (aA s.T (az ops.toList o)) ops o=some true∧ ∃ v H nx,dP P rn (aA s.T (az ops.toList o)) s.H s.nx o (v,H,nx)∧s'=⟨gi nt s.T o.dst v,H,nx,⟨i,o,aA s.T (az ops.toList o),s.stg,true,true,v⟩ :: s.recs,(H,nx) :: s.Hs,s.stg+1⟩)
inductive DrawRunQ (P:Program) (rn:Rn) (nt:Nat) (ops:Array Oper):Nat→List Oper→DS→DS→Prop
 | nil (i:Nat) (s:DS):DrawRunQ P rn nt ops i [] s s
 | cons {i:Nat} {o:Oper} {l:List Oper} {s s1 s':DS}:rx P rn nt ops i o s s1→DrawRunQ P rn nt ops (i+1) l s1 s'→DrawRunQ P rn nt ops i (o :: l) s s'
section
variable (P:Program) (rn:Rn) (nt:Nat) (ops:Array Oper) (T0:Tr SV)
def Src(R:List Rec)(i:Nat)(t:Nat)(s:SV):Prop:=
 (∃ (k:Nat) (r:Rec),k<i∧R[k]? =some r∧r.o.dst=some t∧r.val=s)∨((∀ (k:Nat) (r:Rec),k<i→R[k]? =some r→r.o.dst≠some t)∧T0.at' t=some s)
structure RecOK (R:List Rec) (Q:List (aK×Nat)) (C:List Nat) (i:Nat) (r:Rec):Prop where
 idx:r.i=i
 op:ops[i]? =some r.o
 slots: ∀ t s,r.T.at' t=some s→Operand.tmp t∈az ops.toList r.o∧Src T0 R i t s
 want:aq r.T ops r.o=some r.wanted
 skip:r.wanted=false→r.val=cy∧r.chain=false
 float:r.wanted=true→r.chain=false→(∀ c,r.o.op ≠ .defer c)∧ ∃ H n,Q[r.stg]? =some (H,n)∧ReadQ P rn r.T H n r.o r.val
 eff:r.chain=true→r.wanted=true∧C[r.stg]? =some i∧ ∃ H n H' n',Q[r.stg]? =some (H,n)∧Q[r.stg+1]? =some (H',n')∧dP P rn r.T H n r.o (r.val,H',n')
structure DSOK (i:Nat) (s:DS):Prop where
 len:s.recs.length=i
 hs:s.Hs.length=s.stg+1
 last:s.Hs.reverse[s.stg]? =some (s.H,s.nx)
 cnt:((s.recs.reverse.filter (·.chain)).map (·.i)).length=s.stg
 recs: ∀ (k:Nat) r,s.recs.reverse[k]? =some r→RecOK P rn ops T0 s.recs.reverse s.Hs.reverse ((s.recs.reverse.filter (·.chain)).map (·.i)) k r
 slots: ∀ t v,s.T.at' t=some v→Src T0 s.recs.reverse i t v
end
section
variable {P:Program} {rn:Rn} {nt:Nat} {ops:Array Oper} {T0:Tr SV}
theorem Src.mono{R R':List Rec}{i:Nat}{t:Nat}{s:SV}(h:Src T0 R i t s)(hR: ∀ k,k<i→R'[k]? =R[k]?):Src T0 R' i t s:=by
 rcases h with ⟨k,r,h1,h2,h3,h4⟩|⟨h1,h2⟩
 ·exact .inl ⟨k,r,h1,by rw [hR k h1];exact h2,h3,h4⟩
 ·exact .inr ⟨fun k r hk hr=>h1 k r hk (by rw [← hR k hk];exact hr),h2⟩
theorem RecOK.mono{R R':List Rec}{Q Q':List (aK×Nat)}{C C':List Nat}{i:Nat}{r:Rec}(h:RecOK P rn ops T0 R Q C i r)(hR: ∀ k,k<i→R'[k]? =R[k]?)(hQ: ∀ (j:Nat) x,Q[j]? =some x→Q'[j]? =some x)(hC: ∀ (j:Nat) x,C[j]? =some x→C'[j]? =some x) :
 RecOK P rn ops T0 R' Q' C' i r:=
 ⟨h.idx,h.op,fun t s hs=>let ⟨a,b⟩:=h.slots t s hs;⟨a,b.mono hR⟩,h.want,h.skip,fun a b=>let ⟨x,H,n,c,d⟩:=h.float a b;⟨x,H,n,hQ _ _ c,d⟩,
   fun a=>let ⟨b,c,H,n,H',n',d,e,f⟩:=h.eff a;⟨b,hC _ _ c,H,n,H',n',hQ _ _ d,hQ _ _ e,f⟩⟩
theorem fw{A:Type}{l:List A}{x y:A}{j:Nat}(h:l[j]? =some y):(l ++ [x])[j]? =some y:=by
 rw [zw (zi.1 h).1];exact h
theorem cL{A:Type}(l:List A)(x:A):(l ++ [x])[l.length]? =some x:=by simp
theorem DSOK.snoc{i:Nat}{s:DS}(h:DSOK P rn ops T0 i s)(hdst: ∀ (j:Nat) o d,ops.toList[j]? =some o→o.dst=some d→d<nt){r:Rec}{H:aK}{nx:Nat}{Hs:List (aK×Nat)}{stg:Nat}(ho:ops[i]? =some r.o)
 (hlen:Hs.length=stg+1) (hlast:Hs.reverse[stg]? =some (H,nx)) (hQ: ∀ (j:Nat) x,s.Hs.reverse[j]? =some x→Hs.reverse[j]? =some x) (hcnt:(if r.chain then s.stg+1 else s.stg)=stg)
 (hrec:RecOK P rn ops T0 (s.recs.reverse ++ [r]) Hs.reverse (((s.recs.reverse ++ [r]).filter (·.chain)).map (·.i)) i r):DSOK P rn ops T0 (i+1) ⟨gi nt s.T r.o.dst r.val,H,nx,r :: s.recs,Hs,stg⟩:=by
 have hR: ∀ k,k<i→(s.recs.reverse ++ [r])[k]? =s.recs.reverse[k]? :=fun k hk=>zw (by simp [h.len];exact hk)
 have hri:(s.recs.reverse ++ [r])[i]? =some r:=by have:=cL s.recs.reverse r;rw [List.length_reverse,h.len] at this;exact this
 refine⟨by simp [h.len],hlen,hlast,?_,fun k r' hr'=>?_,fun t v hv=>?_⟩
 ·simp only [List.reverse_cons,List.filter_append,zF,zE,h.cnt]
  rw [← hcnt]
  cases hc:r.chain <;> simp [List.filter_cons,hc]
 ·simp only [List.reverse_cons] at hr' ⊢
  rcases Nat.lt_or_ge k i with hk|hk
  ·rw [hR k hk] at hr'
   refine(h.recs k r' hr').mono (fun k' hk'=>hR k' (by omega)) hQ (fun j x hj=>?_)
   rw [List.filter_append,zF]
   rw [zw (zi.1 hj).1]
   exact hj
  ·have:k=i:=by
    have:=(zi.1 hr').1
    simp [h.len] at this
    omega
   subst this
   rw [hri] at hr'
   simp only [zd] at hr'
   subst hr'
   exact hrec
 ·simp only [List.reverse_cons] at hv ⊢
  have old:s.T.at' t=some v→r.o.dst≠some t→Src T0 (s.recs.reverse ++ [r]) (i+1) t v:=by
   intro hv hne
   rcases h.slots t v hv with ⟨k,r',h1,h2,h3,h4⟩|⟨h1,h2⟩
   ·exact .inl ⟨k,r',by omega,by rw [hR k h1];exact h2,h3,h4⟩
   ·refine .inr ⟨fun k r' hk hr'=>?_,h2⟩
    rcases Nat.lt_or_ge k i with hk'|hk'
    ·rw [hR k hk'] at hr'
     exact h1 k r' hk' hr'
    ·have:k=i:=by omega
     subst this
     rw [hri] at hr'
     simp only [zd] at hr'
     subst hr'
     exact hne
  cases hd:r.o.dst with
  | none=>rw [hd] at hv old;exact old hv (by simp)
  | some d=>
    rw [hd] at hv
    have hlt:=hdst i r.o d (by simpa using ho) hd
    simp only [gi,show Nat.blt d nt=true from zm hlt,cond_true] at hv
    rcases Tr.bE hv with ⟨rfl,rfl⟩|⟨hne,hv⟩
    ·exact .inl ⟨i,r,by omega,hri,hd,rfl⟩
    ·exact old hv (by rw [hd];simp;exact fun hc=>hne hc.symm)
theorem fU{i:Nat}{o:Oper}{s s':DS}(h:DSOK P rn ops T0 i s)(hdst: ∀ (j:Nat) o d,ops.toList[j]? =some o→o.dst=some d→d<nt)(ho:ops[i]? =some o)(hd:rx P rn nt ops i o s s'):DSOK P rn ops T0 (i+1) s':=by
 have hslots: ∀ (R:List Rec),(∀ k,k<i→R[k]? =s.recs.reverse[k]?)→ ∀ t v,(aA s.T (az ops.toList o)).at' t=some v→Operand.tmp t∈az ops.toList o∧Src T0 R i t v:=by
  intro R hR t v hv
  obtain⟨h1,h2⟩:=fq _ t v hv
  exact⟨h1,(h.slots t v h2).mono hR⟩
 have hR: ∀ (r:Rec) k,k<i→(s.recs.reverse ++ [r])[k]? =s.recs.reverse[k]? :=fun r k hk=>zw (by simp [h.len];exact hk)
 rcases hd with ⟨hw,rfl⟩|⟨hw,hnd,v,hf,rfl⟩|⟨hw,v,H,nx,he,rfl⟩
 ·exact h.snoc (r:=⟨i,o,_,s.stg,false,false,cy⟩) hdst ho h.hs h.last (fun _ _ hj=>hj) rfl
   ⟨rfl,ho,hslots _ (hR _),hw,fun _=>⟨rfl,rfl⟩,fun hc _=>(by cases hc),fun hc=>(by cases hc)⟩
 ·exact h.snoc (r:=⟨i,o,_,s.stg,false,true,v⟩) hdst ho h.hs h.last (fun _ _ hj=>hj) rfl
   ⟨rfl,ho,hslots _ (hR _),hw,fun hc=>(by cases hc),fun _ _=>⟨hnd,s.H,s.nx,h.last,hf⟩,fun hc=>(by cases hc)⟩
 ·have hl:=h.hs
  have hq: ∀ (j:Nat) x,s.Hs.reverse[j]? =some x→((H,nx) :: s.Hs).reverse[j]? =some x:=fun j x hj=>by rw [List.reverse_cons];exact fw hj
  have hlast:((H,nx) :: s.Hs).reverse[s.stg+1]? =some (H,nx):=by
   rw [List.reverse_cons]
   have:=cL s.Hs.reverse (H,nx)
   rw [List.length_reverse,hl] at this
   exact this
  refine h.snoc (r:=⟨i,o,_,s.stg,true,true,v⟩) hdst ho (by simp [hl]) hlast hq rfl
   ⟨rfl,ho,hslots _ (hR _),hw,fun hc=>(by cases hc),fun _ hc=>(by cases hc),fun _=>⟨rfl,?_,s.H,s.nx,H,nx,hq _ _ h.last,hlast,he⟩⟩
  simp only [List.filter_append,zF,List.filter_cons,if_true,List.filter_nil,zC,List.map_nil]
  have:=cL ((s.recs.reverse.filter (·.chain)).map (·.i)) i
  rw [h.cnt] at this
  exact this
theorem iH(hdst: ∀ (j:Nat) o d,ops.toList[j]? =some o→o.dst=some d→d<nt): ∀ (l:List Oper) (i:Nat) (s s':DS),DSOK P rn ops T0 i s→l=ops.toList.drop i→DrawRunQ P rn nt ops i l s s'→DSOK P rn ops T0 ops.size s'
 | [],i,s,s',h,hl,hd=>by
   cases hd
   have h1:=congrArg List.length hl
   simp at h1
   have h2:i≤ops.size:=by
    rcases Nat.lt_or_ge ops.size i with hc|hc
    ·exfalso
     have hlen:=h.len
     have hr:=h.recs (i-1) (s.recs.reverse[i-1]'(by simp;omega)) (zh (by simp;omega))
     have:=(zp.1 hr.op).1
     omega
    ·exact hc
   have:i=ops.size:=by omega
   subst this
   exact h
 | o :: l,i,s,s',h,hl,hd=>by
   have ho:ops[i]? =some o:=by
    have:ops.toList[i]? =some o:=by
     have:=congrArg List.head? hl
     simpa using this.symm
    simpa using this
   have hl':l=ops.toList.drop (i+1):=by
    have:=congrArg List.tail hl
    simpa using this
   cases hd with
   | cons hone hd=>exact iH hdst l (i+1) _ s' (fU h hdst ho hone) hl' hd
end
section
variable {P:Program} {K:Zone} {w0 w:World} {e:Env} {H:aK} {nx:Nat} {rn:Rn}
structure RegOK (P:Program) (rn:Rn) (nt:Nat) (ops:Array Oper) (T0:Tr SV) (R:List Rec) (Q:List (aK×Nat)) (C:List Nat):Prop where
 len:R.length=ops.size
 recs: ∀ (k:Nat) r,R[k]? =some r→RecOK P rn ops T0 R Q C k r
 stages:Q.length=C.length+1
 chainR:C=(R.filter (·.chain)).map (·.i)
 chain:cN (bp [] ops.toList) C=true
 floats: ∀ r∈R,r.chain=false→r.wanted=true→(∀ c,r.o.op ≠ .defer c)∧ ∀ s,eG ((bp [] ops.toList).getD r.i 0) C≤s→s≤cC (bp [] ops.toList) r.i C→ ∀ H n,Q[s]? =some (H,n)→ReadQ P rn r.T H n r.o r.val
 small: ∀ (i:Nat) o d,ops.toList[i]? =some o→o.dst=some d→d<nt
 dist: ∀ (i j:Nat) oi oj d,ops.toList[i]? =some oi→ops.toList[j]? =some oj→oi.dst=some d→oj.dst=some d→i=j
 edges: ∀ (i:Nat) o,ops.toList[i]? =some o→dX i o.after.toList=true
 opnds: ∀ (i:Nat) o,ops.toList[i]? =some o→cm ops.toList (bp [] ops.toList) i ((bp [] ops.toList).getD i 0) (az ops.toList o)=true
def se(T0:Tr SV)(R:List Rec)(L:Nat→Prop)(t:Nat)(s:SV):Prop:=
 (∃ (k:Nat) (r:Rec),L k∧R[k]? =some r∧r.o.dst=some t∧r.val=s)∨((∀ (k:Nat) (r:Rec),L k→R[k]? =some r→r.o.dst≠some t)∧T0.at' t=some s)
structure PInv (K:Zone) (w0:World) (nt:Nat) (ops:Array Oper) (T0:Tr SV) (R:List Rec) (Q:List (aK×Nat)) (C:List Nat) (L:Nat→Prop) (s:Nat) (e:Env) (w:World) (tr:Array Value):Prop where
 st: ∃ H n,Q[s]? =some (H,n)∧St K w0 e H n w
 size:tr.size=nt
 good: ∀ t sv,se T0 R L t sv→ ∃ v,sv.conc e=some v∧tr.getD t undef=v
 chain: ∀ (j c:Nat),C[j]? =some c→(L c↔j<s)
 closed: ∀ (i:Nat) o,L i→ops.toList[i]? =some o→ ∀ ed∈o.after.toList,Region.binds .any ed=true→L ed.on
variable {nt:Nat} {ops:Array Oper} {T0:Tr SV} {R:List Rec} {Q:List (aK×Nat)} {C:List Nat}
theorem PInv.step(hrn:f7 P K w0 rn)(hR:RegOK P rn nt ops T0 R Q C){L:Nat→Prop}{s:Nat}{tr:Array Value}(h:PInv K w0 nt ops T0 R Q C L s e w tr){i:Nat}{o:Oper}(ho:ops[i]? =some o)(hni: ¬ L i)
 (hed: ∀ ed∈o.after.toList,Region.binds .any ed=true→L ed.on) (fn:FuncId) (rest:List Nat) (k:List Item) (ds:List Deferred) (kd:CallKind) (rof:Option Nat) (cs:List Frame) :
 ∃ e' w' tr' s',e.le e'∧PInv K w0 nt ops T0 R Q C (fun j=>L j∨j=i) s' e' w' tr' ∧
  Steps P (lone (fr0 fn tr (.inRegion ops (i :: rest) :: k) ds kd rof) cs w) (lone (fr0 fn tr' (.inRegion ops rest :: k) ds kd rof) cs w'):=by
 have hoL:ops.toList[i]? =some o:=by simpa using ho
 have hilt:i<ops.size:=(zp.1 ho).1
 obtain⟨r,hr⟩: ∃ r,R[i]? =some r:=⟨_,zh (by rw [hR.len];exact hilt)⟩
 have hrec:=hR.recs i r hr
 have hro:r.o=o:=by
  have:=hrec.op
  rw [ho] at this
  simpa using this.symm
 have hanc:=bg L hR.edges (fun i o hi ho'=>h.closed i o hi ho') i o hoL hed
 have hT:TRel e nt r.T tr:=by
  refine⟨h.size,fun t sv ht=>?_⟩
  obtain⟨hneed,hsrc⟩:=hrec.slots t sv ht
  rw [hro] at hneed
  have hwr: ∀ (k':Nat) o',ops.toList[k']? =some o'→o'.dst=some t→(L k'∧k'<i)∨(¬ L k'∧i<k'):=fun k' o' ho' hd'=>by
   rcases cK hR.dist (hR.opnds i o hoL) t hneed k' o' ho' hd' with hb|hb
   ·exact .inl (hanc k' hb)
   ·refine .inr ⟨fun hL=>?_,?_⟩
    ·exact hni (bg L hR.edges (fun i o hi ho'=>h.closed i o hi ho') k' o' ho' (h.closed k' o' hL ho') i hb).1
    ·exact(bg (fun _=>True) hR.edges (fun _ _ _ _ _ _ _=>trivial) k' o' ho' (fun _ _ _=>trivial) i hb).2
  refine h.good t sv ?_
  rcases hsrc with ⟨k',r',h1,h2,h3,h4⟩|⟨h1,h2⟩
  ·have hop:=(hR.recs k' r' h2).op
   rcases hwr k' r'.o (by simpa using hop) h3 with g|g
   ·exact .inl ⟨k',r',g.1,h2,h3,h4⟩
   ·omega
  ·refine .inr ⟨fun k' r' hLk hr' hd'=>?_,h2⟩
   have hop:=(hR.recs k' r' hr').op
   rcases hwr k' r'.o (by simpa using hop) hd' with g|g
   ·exact h1 k' r' g.2 hr' hd'
   ·exact g.1 hLk
 have hwant:=dv hrec.want hT
 rw [hro] at hwant
 have build: ∀ (e':Env) (w':World) (u:Value) (s':Nat),e.le e'→(∃ H n,Q[s']? =some (H,n)∧St K w0 e' H n w')→r.val.conc e'=some u→(∀ (j c:Nat),C[j]? =some c→((L c∨c=i)↔j<s')) →
  PInv K w0 nt ops T0 R Q C (fun j=>L j∨j=i) s' e' w' (fL tr o.dst u):=by
  intro e' w' u s' hle hst hu hch
  refine⟨hst,?_,fun t sv hg=>?_,hch,fun j oj hj hoj ed hed' hb=>?_⟩
  ·unfold fL
   cases o.dst with
   | none=>exact h.size
   | some d=>simpa using h.size
  ·have old:(∀ d,o.dst=some d→d≠t)→ ∃ v,sv.conc e'=some v∧(fL tr o.dst u).getD t undef=v:=by
    intro hne
    have hg':se T0 R L t sv:=by
     rcases hg with ⟨k',r',hk',h2,h3,h4⟩|hg
     ·refine .inl ⟨k',r',?_,h2,h3,h4⟩
      rcases hk' with hk'|rfl
      ·exact hk'
      ·exfalso
       rw [hr] at h2
       simp only [zd] at h2
       subst h2
       rw [hro] at h3
       exact hne t h3 rfl
     ·exact .inr ⟨fun k' r' hLk=>hg.1 k' r' (.inl hLk),hg.2⟩
    obtain⟨v,hv,hgv⟩:=h.good t sv hg'
    refine⟨v,SV.bO hle _ _ hv,?_⟩
    cases hd:o.dst with
    | none=>exact hgv
    | some d=>
      have:=hne d hd
      simp only [fL]
      rw [zk,Array.getElem?_setIfInBounds_ne this,←zk]
      exact hgv
   cases hd:o.dst with
   | none=>rw [hd] at old;exact old (fun d hd'=>by cases hd')
   | some d=>
     by_cases hdt:d=t
     ·subst hdt
      have hval:sv=r.val:=by
       rcases hg with ⟨k',r',hk',h2,h3,h4⟩|⟨h1,_⟩
       ·have hop:=(hR.recs k' r' h2).op
        have:=hR.dist k' i r'.o o d (by simpa using hop) hoL h3 hd
        subst this
        rw [hr] at h2
        simp only [zd] at h2
        subst h2
        exact h4.symm
       ·exact absurd (by rw [hro];exact hd) (h1 i r (.inr rfl) hr)
      subst hval
      refine⟨u,hu,?_⟩
      have hlt:=hR.small i o d hoL hd
      simp only [fL]
      rw [zk,Array.getElem?_setIfInBounds_self_of_lt (by rw [h.size];exact hlt)]
      rfl
     ·rw [hd] at old
      exact old (fun d' hd'=>by simp only [zd] at hd';subst hd';exact hdt)
  ·rcases hj with hj|rfl
   ·exact .inl (h.closed j oj hj hoj ed hed' hb)
   ·rw [hoL] at hoj
    simp only [zd] at hoj
    subst hoj
    exact .inl (hed ed hed' hb)
 have notChain:r.chain=false→ ∀ (j c:Nat),C[j]? =some c→((L c∨c=i)↔j<s):=by
  intro hc j c hj
  have hne:c≠i:=by
   rintro rfl
   rw [hR.chainR] at hj
   rw [List.getElem?_map,zo] at hj
   obtain⟨r',hr',hi'⟩:=hj
   have hmem:=zt hr'
   rw [List.mem_filter] at hmem
   obtain⟨k',hk'⟩:=List.mem_iff_getElem?.1 hmem.1
   have:=(hR.recs k' r' hk').idx
   rw [hi'] at this
   subst this
   rw [hr] at hk'
   simp only [zd] at hk'
   subst hk'
   rw [hc] at hmem
   simp at hmem
  rw [← h.chain j c hj]
  simp [hne]
 obtain⟨H,n,hQ,hS⟩:=h.st
 cases hwd:r.wanted with
 | false=>
   rw [hwd] at hwant
   obtain⟨h1,h2⟩:=hrec.skip hwd
   exact⟨e,w,_,s,Env.le_refl e,build e w undef s (Env.le_refl e) ⟨H,n,hQ,hS⟩ (by rw [h1];rfl) (notChain h2),.one (ej ho hwant)⟩
 | true=>
   rw [hwd] at hwant
   cases hc:r.chain with
   | false=>
     have hri:=hrec.idx
     have hlo:eG ((bp [] ops.toList).getD r.i 0) C≤s:=by
      rcases Nat.lt_or_ge s (eG ((bp [] ops.toList).getD r.i 0) C)with hlt|hge
      ·exfalso
       obtain⟨c,h1,h2⟩:=jr s hlt
       rw [hri] at h2
       have:=(h.chain s c h1).1 (hanc c h2).1
       omega
      ·exact hge
     have hhi:s≤cC (bp [] ops.toList) r.i C:=by
      rcases Nat.lt_or_ge (cC (bp [] ops.toList) r.i C) s with hlt|hge
      ·exfalso
       have hsC:s≤C.length:=by
        have:=(zi.1 hQ).1
        have:=hR.stages
        omega
       obtain⟨c,h1,h2⟩:=hZ (ancs:=bp [] ops.toList) (i:=r.i) (l:=C) (by omega)
       have hLc:=(h.chain _ c h1).2 hlt
       have hcl:c<ops.size:=by
        have hcm:=zt h1
        rw [hR.chainR,List.mem_map] at hcm
        obtain⟨r',hr',rfl⟩:=hcm
        rw [List.mem_filter] at hr'
        obtain⟨k',hk'⟩:=List.mem_iff_getElem?.1 hr'.1
        have hx:=hR.recs k' r' hk'
        rw [hx.idx]
        exact(zp.1 hx.op).1
       have hoc:ops.toList[c]? =some (ops.toList[c]'(by simpa using hcl)):=zh (by simpa using hcl)
       have:=bg L hR.edges (fun i o hi ho'=>h.closed i o hi ho') c _ hoc (h.closed c _ hLc hoc) r.i h2
       rw [hri] at this
       exact hni this.1
      ·exact hge
     have hf:=(hR.floats r (zt hr) hc hwd).2 s hlo hhi H n hQ
     have hnd:=(hR.floats r (zt hr) hc hwd).1
     rw [hro] at hf hnd
     rcases hf with hf|hf
     ·obtain⟨u,hu,hst⟩:=gp (P:=P) (fn:=fn) (rest:=rest) (k:=k) (ds:=ds) (kd:=kd) (rof:=rof) (cs:=cs) hS hT ho hwant hnd hf
      exact⟨e,w,_,s,Env.le_refl e,build e w u s (Env.le_refl e) ⟨H,n,hQ,hS⟩ hu (notChain hc),hst⟩
     ·obtain⟨e',w',u,hle,hS',hu,hst⟩:=ez (P:=P) hrn (fn:=fn) (rest:=rest) (k:=k) (ds:=ds) (kd:=kd) (rof:=rof) (cs:=cs) hS hT ho hwant hf
      exact⟨e',w',_,s,hle,build e' w' u s hle ⟨H,n,hQ,hS'⟩ hu (notChain hc),hst⟩
   | true=>
     obtain⟨_,hC,H1,n1,H2,n2,hQ1,hQ2,heff⟩:=hrec.eff hc
     have hss:r.stg=s:=by
      have h1: ¬ r.stg<s:=fun hlt=>hni ((h.chain r.stg i hC).2 hlt)
      rcases Nat.eq_zero_or_pos r.stg with h0|hp
      ·omega
      ·have hlt:r.stg-1<C.length:=by
        have:=(zi.1 hC).1
        omega
       have hprev:C[r.stg-1]? =some C[r.stg-1]:=zh hlt
       have hbit:=eV hR.chain (r.stg-1) C[r.stg-1] i hprev (by rw [show r.stg-1+1=r.stg by omega];exact hC)
       have:=(h.chain _ _ hprev).1 (hanc _ hbit).1
       omega
     rw [hss] at hQ1 hQ2 hC
     rw [hQ] at hQ1
     simp only [zd,zn] at hQ1
     obtain⟨rfl,rfl⟩:=hQ1
     rw [hro] at heff
     obtain⟨e',w',u,hle,hS',hu,hst⟩:=ez (P:=P) hrn (fn:=fn) (rest:=rest) (k:=k) (ds:=ds) (kd:=kd) (rof:=rof) (cs:=cs) hS hT ho hwant heff
     refine⟨e',w',_,s+1,hle,build e' w' u (s+1) hle ⟨H2,n2,hQ2,hS'⟩ hu (fun j c hj=>?_),hst⟩
     constructor
     ·rintro(hL|rfl)
      ·have:=(h.chain j c hj).1 hL;omega
      ·rcases Nat.lt_or_ge j (s+1)with hlt|hge
       ·exact hlt
       ·exfalso
        have hi1:=chain_inj hR hC hj
        omega
     ·intro hlt
      rcases Nat.lt_or_ge j s with hj'|hj'
      ·exact .inl ((h.chain j c hj).2 hj')
      ·have:j=s:=by omega
       subst this
       rw [hC] at hj
       simp only [zd] at hj
       exact .inr hj.symm
where
 chain_inj {P:Program} {rn:Rn} {nt:Nat} {ops:Array Oper} {T0:Tr SV} {R:List Rec} {Q:List (aK×Nat)} {C:List Nat} (hR:RegOK P rn nt ops T0 R Q C) {s j c:Nat} (h1:C[s]? =some c) (h2:C[j]? =some c):s=j:=by
  have hnd:C.Nodup:=by
   rw [hR.chainR]
   have hall:((R.filter (·.chain)).map (·.i)).Sublist (R.map (·.i)):=(List.filter_sublist).map _
   refine hall.nodup ?_
   have:R.map (·.i)=List.range R.length:=by
    apply List.ext_getElem?
    intro k
    rw [List.getElem?_map]
    cases hk:R[k]? with
    | none=>
      rw [List.getElem?_eq_none_iff] at hk
      simp [hk]
    | some r=>
      have hlt:=(zi.1 hk).1
      rw [zG,(hR.recs k r hk).idx,List.getElem?_range hlt]
   rw [this]
   exact List.nodup_range
  have a:=zi.1 h1
  have b:=zi.1 h2
  obtain⟨a1,a2⟩:=a
  obtain⟨b1,b2⟩:=b
  exact(List.getElem_inj hnd).1 (a2.trans b2.symm)
end
section
variable {P:Program} {K:Zone} {w0 w:World} {e:Env} {rn:Rn} {nt:Nat} {ops:Array Oper} {T0:Tr SV} {R:List Rec} {Q:List (aK×Nat)} {C:List Nat}
def aI(listed:Array Bool)(j:Nat):Prop:=listed[j]? =some true
theorem eu{listed:Array Bool}(hsz:listed.size=ops.size){i:Nat}(h:i∈Region.ready .any ops listed): ∃ o,ops[i]? =some o∧ ¬ aI listed i∧ ∀ ed∈o.after.toList,Region.binds .any ed=true→aI listed ed.on:=by
 unfold Region.ready at h
 rw [List.mem_filter,List.mem_range,zy] at h
 obtain⟨h1,h2,h3⟩:=h
 have ho:ops[i]? =some ops[i]:=zr h1
 refine⟨ops[i],ho,?_,fun ed hed hb=>?_⟩
 ·intro hl
  unfold aI at hl
  rw [zk,hl] at h2
  simp at h2
 ·rw [ho] at h3
  simp only [zG,Option.getD_some] at h3
  rw [Array.all_eq_true_iff_forall_mem] at h3
  have:=h3 ed (by simpa using hed)
  rw [hb] at this
  simp only [Bool.not_true,Bool.false_or] at this
  unfold aI
  rw [zk] at this
  cases hx:listed[ed.on]? with
  | none=>rw [hx] at this;simp at this
  | some b=>rw [hx] at this;simp only [Option.getD_some] at this;rw [this]
theorem fp{listed:Array Bool}(hsz:listed.size=ops.size)(hE: ∀ (i:Nat) o,ops.toList[i]? =some o→dX i o.after.toList=true){i:Nat}(hi:i<ops.size)(hn: ¬ aI listed i): ∃ j,j∈Region.ready .any ops listed:=by
 induction i using Nat.strongRecOn with
 | _ i ih=>
   have ho:ops[i]? =some ops[i]:=zr hi
   by_cases hall: ∀ ed∈ops[i].after.toList,Region.binds .any ed=true→aI listed ed.on
   ·refine⟨i,?_⟩
    unfold Region.ready
    rw [List.mem_filter,List.mem_range,zy]
    refine⟨hi,?_,?_⟩
    ·unfold aI at hn
     rw [zk]
     have hlt:i<listed.size:=by omega
     rw [zr hlt] at hn ⊢
     simp only [zd,Bool.not_eq_true] at hn
     simp [hn]
    ·rw [ho]
     simp only [zG,Option.getD_some]
     rw [Array.all_eq_true_iff_forall_mem]
     intro ed hed
     cases hb:Region.binds .any ed with
     | false=>rfl
     | true=>
       have:=hall ed (by simpa only [Array.mem_toList_iff] using hed) hb
       unfold aI at this
       rw [zk,this]
       rfl
   ·have: ∃ ed,ed∈ops[i].after.toList∧Region.binds .any ed=true∧ ¬ aI listed ed.on:=by
     apply Classical.byContradiction
     intro hc
     apply hall
     intro ed h1 h2
     apply Classical.byContradiction
     intro h3
     exact hc ⟨ed,h1,h2,h3⟩
    obtain⟨ed,h1,h2,h3⟩:=this
    have hlt:=fS (hE i ops[i] (by simp)) ed h1 h2
    exact ih ed.on hlt (by omega) h3
def bm(listed:Array Bool):Nat:=listed.toList.count false
theorem c6: ∀ (l:List Bool) (i:Nat),l[i]? =some false→(l.set i true).count false+1=l.count false
 | [],i,h=>by simp at h
 | b :: l,0,h=>by
   simp only [zx,zd] at h
   subst h
   simp [List.count_cons]
 | b :: l,i+1,h=>by
   have:=c6 l i (by simpa using h)
   simp only [List.set_cons_succ,List.count_cons]
   omega
theorem iu(hrn:f7 P K w0 rn)(hR:RegOK P rn nt ops T0 R Q C)(fn:FuncId)(k:List Item)(ds:List Deferred)(kd:CallKind)(rof:Option Nat)(cs:List Frame): ∀ (fuel t:Nat) (listed:Array Bool) (s:Nat) (e:Env) (w:World) (tr:Array Value),
 listed.size=ops.size→bm listed≤fuel→PInv K w0 nt ops T0 R Q C (aI listed) s e w tr →
 ∃ e' w' tr' s' listed',e.le e'∧listed'.size=ops.size∧(∀ j,j<ops.size→aI listed' j)∧PInv K w0 nt ops T0 R Q C (aI listed') s' e' w' tr' ∧
  Steps P (lone (fr0 fn tr (.inRegion ops (Region.linearise.go .any ops fuel t listed []) :: k) ds kd rof) cs w) (lone (fr0 fn tr' (.inRegion ops [] :: k) ds kd rof) cs w'):=by
 have allOf: ∀ (listed:Array Bool),listed.size=ops.size→(∀ j,j∉Region.ready .any ops listed)→ ∀ j,j<ops.size→aI listed j:=by
  intro listed hsz hno j hj
  apply Classical.byContradiction
  intro hn
  obtain⟨i,hi⟩:=fp hsz hR.edges hj hn
  exact hno i hi
 intro fuel
 induction fuel with
 | zero=>
   intro t listed s e w tr hsz hun hI
   refine⟨e,w,tr,s,listed,Env.le_refl e,hsz,fun j hj=>?_,hI,by simp only [Region.linearise.go,List.reverse_nil];exact .refl P _⟩
   unfold aI
   have hlt:j<listed.size:=by omega
   rw [zr hlt]
   cases hb:listed[j] with
   | true=>rfl
   | false=>
     exfalso
     have:0<listed.toList.count false:=List.count_pos_iff.2 (by rw [← hb];simp)
     unfold bm at hun
     omega
 | succ fuel ih=>
   intro t listed s e w tr hsz hun hI
   simp only [Region.linearise.go]
   change ∃ e' w' tr' s' listed',_∧_∧_∧_∧Steps P (lone (fr0 fn tr (.inRegion ops (match (Region.ready .any ops listed)[t % (Region.ready .any ops listed).length]? with
    | some i=>Region.linearise.go .any ops fuel (t / (Region.ready .any ops listed).length) (listed.setIfInBounds i true) [i]
    | none=> [].reverse) :: k) ds kd rof) cs w) _
   cases hpick:(Region.ready .any ops listed)[t % (Region.ready .any ops listed).length]? with
   | none=>
     have hnil:Region.ready .any ops listed= []:=by
      cases hx:Region.ready .any ops listed with
      | nil=>rfl
      | cons x xs=>
        rw [hx] at hpick
        have hlt:t % (x :: xs).length<(x :: xs).length:=Nat.mod_lt _ (by simp)
        rw [zh hlt] at hpick
        cases hpick
     exact⟨e,w,tr,s,listed,Env.le_refl e,hsz,allOf listed hsz (by rw [hnil];simp),hI,.refl P _⟩
   | some i=>
     simp only
     have hmem:=zt hpick
     obtain⟨o,ho,hni,hed⟩:=eu hsz hmem
     rw [linearise_go_acc,List.reverse_singleton,List.singleton_append]
     obtain⟨e1,w1,tr1,s1,hle1,hI1,hst1⟩:=hI.step hrn hR ho hni hed fn (Region.linearise.go .any ops fuel (t / (Region.ready .any ops listed).length) (listed.setIfInBounds i true) []) k ds kd rof cs
     have hilt:i<ops.size:=(zp.1 ho).1
     have hfalse:listed.toList[i]? =some false:=by
      have hlt:i<listed.size:=by omega
      unfold aI at hni
      rw [zr hlt] at hni
      rw [Array.getElem?_toList,zr hlt]
      simpa using hni
     have hcnt:bm (listed.setIfInBounds i true)+1=bm listed:=by
      unfold bm
      rw [Array.toList_setIfInBounds]
      exact c6 _ _ hfalse
     have hLeq: ∀ j,aI (listed.setIfInBounds i true) j↔(aI listed j∨j=i):=by
      intro j
      unfold aI
      by_cases hji:j=i
      ·subst hji
       rw [Array.getElem?_setIfInBounds_self_of_lt (by omega)]
       simp
      ·rw [Array.getElem?_setIfInBounds_ne (Ne.symm hji)]
       simp [hji]
     have hI2:PInv K w0 nt ops T0 R Q C (aI (listed.setIfInBounds i true)) s1 e1 w1 tr1:=by
      have:aI (listed.setIfInBounds i true)=fun j=>aI listed j∨j=i:=funext fun j=>propext (hLeq j)
      rw [this]
      exact hI1
     obtain⟨e2,w2,tr2,s2,l2,hle2,hs2,ha2,hI3,hst2⟩:=ih _ _ s1 e1 w1 tr1 (by simpa using hsz) (by omega) hI2
     exact⟨e2,w2,tr2,s2,l2,Env.le_trans hle1 hle2,hs2,ha2,hI3,hst1.trans hst2⟩
end
end Go.Sy.Nq
end
section
namespace Go.Sy
open Go Go.Sl Go.RowKit
structure DrawKQ (P:Program) (nt:Nat) (ops:Array Oper) (i:Nat) (l:List Oper) (s:DS) (K:DS→Prop):Prop where
 ex: ∃ s',Nq.DrawRunQ P (wpr P) nt ops i l s s'∧K s'
section
variable {P:Program} {ro:Option Nat} {fn nt nx:Nat} {T:Tr SV} {k:List AIt} {dfs:List ADf} {H:aK} {Q:Pst} {ops:Array Oper} {i:Nat} {l:List Oper} {K:DS→Prop} {s:DS}
def AllHQ(Q:List (aK×Nat))(p:aK→Nat→Prop):Prop:=match Q with
 | []=>True
 | q :: l=>p q.1 q.2∧AllHQ l p
theorem AllHQ.get{p:aK→Nat→Prop}: ∀ {Q:List (aK×Nat)},AllHQ Q p→ ∀ {i:Nat} {H:aK} {n:Nat},Q[i]? =some (H,n)→p H n
 | [],_,i,H,n,h=>by simp at h
 | q :: l,hh,i,H,n,h=>by
   cases i with
   | zero=>simp only [zx,zd] at h;subst h;exact hh.1
   | succ i=>exact AllHQ.get hh.2 (by simpa using h)
def FlOkQ(P:Program)(ancs chain:List Nat)(Q:List (aK×Nat)):List Rec→Prop
 | []=>True
 | r :: l=>((r.chain || !r.wanted || (Nat.beq (eG (ancs.getD r.i 0) chain) r.stg && Nat.beq (cC ancs r.i chain) r.stg))=true∨(AllH Q (fun H=>ReadDoes P r.T H r.o r.val)∨AllHQ Q (fun H n=>dP P (wpr P) r.T H n r.o (r.val,H,n))))∧FlOkQ P ancs chain Q l
theorem FlOkQ.ok{P:Program}{ancs chain:List Nat}{Q:List (aK×Nat)}: ∀ {l:List Rec},FlOkQ P ancs chain Q l→ ∀ r∈l,r.chain=false→r.wanted=true→ ∀ st,eG (ancs.getD r.i 0) chain≤st→st≤cC ancs r.i chain→st≠r.stg→ ∀ H n,Q.reverse[st]? =some (H,n)→Nq.ReadQ P (wpr P) r.T H n r.o r.val
 | [],_,r,hm,_,_,_,_,_,_,_,_,_=>by cases hm
 | r0 :: l,hh,r,hm,hc,hw,st,h1,h2,h3,H,n,hq=>by
   rcases List.mem_cons.1 hm with rfl|hm
   ·rcases hh.1 with h|h
    ·rw [hc,hw] at h
     simp only [Bool.not_true,Bool.or_false,Bool.false_or,zy] at h
     have q1:=bf h.1
     have q2:=bf h.2
     omega
    ·have hlt:=(zi.1 hq).1
     rw [List.getElem?_reverse (by simpa using hlt)] at hq
     rcases h with h|h
     ·exact .inl (h.get hq)
     ·exact .inr (h.get hq)
   ·exact FlOkQ.ok hh.2 r hm hc hw st h1 h2 h3 H n hq
end
theorem jD{e e':Env}(h:e.le e'){s:SV}{v v':Value}(h0:s.conc e=some v)(h1:s.conc e'=some v'):s.conc e=some v':=by
 have:=SV.bO h s v h0
 rw [h1] at this
 rw [h0,←Option.some.inj this]
theorem MRel.down{e e':Env}(h:e.le e'): ∀ {l:List (Value×SV×Nat)} {m m':List MapEntry},MRel e l m→MRel e' l m'→MRel e l m'
 | [],[],[],_,_=>trivial
 | (_,_,_) :: _,_ :: _,_ :: _,hd,hd'=>⟨hd'.1,hd'.2.1,jD h hd.2.2.1 hd'.2.2.1,MRel.down h hd.2.2.2 hd'.2.2.2⟩
 | [],_ :: _,_,hd,_=>hd.elim
 | [],[],_ :: _,_,hd=>hd.elim
 | _ :: _,[],_,hd,_=>by simp [MRel] at hd
 | _ :: _,_ :: _,[],_,hd=>by simp [MRel] at hd
theorem DRel.down{e e':Env}(h:e.le e'){a:ADf}{d d':Deferred}(hd:DRel e a d)(hd':DRel e' a d'):DRel e a d':=by
 cases a with
 | call f args=>
   obtain⟨x,cap,rfl,hl⟩:=hd
   obtain⟨x',cap',rfl,hl'⟩:=hd'
   refine⟨x',cap',rfl,?_⟩
   have:=SV.bJ h _ _ hl
   rw [hl'] at this
   rw [hl,←Option.some.inj this]
 | taken r=>
   obtain⟨x,hx,rfl⟩:=hd
   obtain⟨x',hx',rfl⟩:=hd'
   have:=h _ _ hx
   rw [hx'] at this
   rw [Option.some.inj this]
   exact⟨x,hx,rfl⟩
theorem DsRel.down{e e':Env}(h:e.le e'): ∀ {l:List ADf} {m m':List Deferred},DsRel e l m→DsRel e' l m'→DsRel e l m'
 | [],[],[],_,_=>trivial
 | _ :: _,_ :: _,_ :: _,hd,hd'=>⟨hd.1.down h hd'.1,DsRel.down h hd.2 hd'.2⟩
 | [],_ :: _,_,hd,_=>hd.elim
 | [],[],_ :: _,_,hd=>hd.elim
 | _ :: _,[],_,hd,_=>hd.elim
 | _ :: _,_ :: _,[],_,hd=>hd.elim
theorem TRel.down{e e':Env}(h:e.le e'){nt:Nat}{T:Tr SV}{tr tr':Array Value}(hd:TRel e nt T tr)(hd':TRel e' nt T tr'):TRel e nt T tr':=
 ⟨hd'.1,fun t s hs=>let ⟨_,h0,_⟩:=hd.2 t s hs;let ⟨v,h1,h2⟩:=hd'.2 t s hs;⟨v,jD h h0 h1,h2⟩⟩
theorem ORel.down{e e':Env}(h:e.le e'){vo:VO}{x:Ent}{o o':Obj}(ho:ORel e vo x o)(ho':ORel e' vo x o'):ORel e vo x o':=by
 cases vo with
 | cells n t c=>
   obtain⟨_,cs0,_,_,_,_,h4⟩:=ho
   obtain⟨q0,cs,fz,q1,q2,q3,q4⟩:=ho'
   exact⟨q0,cs,fz,q1,q2,q3,fun i hi s hs=>let ⟨_,a,_⟩:=h4 i hi s hs;let ⟨v,b,g⟩:=q4 i hi s hs;⟨v,jD h a b,g⟩⟩
 | row ro ne sz t c=>
   obtain⟨_,cs0,_,_,_,_,_,_,_,_,h7⟩:=ho
   obtain⟨q0,cs,fz,tt,q1,q2,q3,q4,q5,q6,q7⟩:=ho'
   exact⟨q0,cs,fz,tt,q1,q2,q3,q4,q5,q6,fun i hi s hs=>let ⟨_,a,_⟩:=h7 i hi s hs;let ⟨v,b,g⟩:=q7 i hi s hs;⟨v,jD h a b,g⟩⟩
 | map l clock=>
   obtain⟨_,_,h2⟩:=ho
   obtain⟨es,q1,q2⟩:=ho'
   exact⟨es,q1,h2.down h q2⟩
 | iter m since seen stepped=>
   cases m with
   | none=>exact ho'
   | some m=>
     obtain⟨_,y,h1,_⟩:=ho
     obtain⟨q0,y',q1,q2⟩:=ho'
     have:=h _ _ h1
     rw [q1] at this
     cases Option.some.inj this
     exact⟨q0,y,h1,q2⟩
 | siter s pos=>exact ho'
 | loop st pend fn nt T params assign body dr=>
   obtain⟨_,y,h1,h2,_⟩:=ho
   obtain⟨tmps,y',q1,q2,q3⟩:=ho'
   have:=h _ _ h1
   rw [q1] at this
   cases Option.some.inj this
   exact⟨tmps,y,h1,h2.down h q2,q3⟩
 | dfd l=>
   cases l with
   | none=>exact ho'
   | some l=>
     obtain⟨_,_,h2⟩:=ho
     obtain⟨ds,q1,q2⟩:=ho'
     exact⟨ds,q1,h2.down h q2⟩
theorem Lies.down{K:Zone}{w w':World}{e e':Env}(h:e.le e'){vo:VO}{x:Ent}(hl:Lies K w e vo x)(hl':Lies K w' e' vo x):Lies K w' e vo x:=by
 rcases hl' with ⟨h0,o,h1,h2,h3⟩|h1
 ·rcases hl with ⟨_,o',_,_,g⟩|⟨g,_⟩
  ·exact .inl ⟨h0,o,h1,h2,g.down h h3⟩
  ·rw [h0] at g;cases g
 ·exact .inr h1
theorem St.down{K:Zone}{w0 w w':World}{e e':Env}{H H':aK}{nx nx':Nat}(hS:St K w0 e H nx w)(h:e.le e')(hS':St K w0 e' H' nx' w')(hH: ∀ id vo,H.at' id=some vo→H'.at' id=some vo):St K w0 e H nx w':=by
 refine⟨hS'.below,fun id vo hid=>?_,hS.inj,hS.fresh⟩
 obtain⟨x,hx,hl⟩:=hS.rel id vo hid
 obtain⟨x',hx',hl'⟩:=hS'.rel id vo (hH id vo hid)
 have:=h _ _ hx
 rw [hx'] at this
 cases Option.some.inj this
 exact⟨x,hx,hl.down h hl'⟩
def swp(n:Nat):Nat→Nat:=fun i=>if i=n then n+1 else if i=n+1 then n else i
theorem uY(n:Nat):swp n n=n+1:=by simp [swp]
theorem uX(n:Nat):swp n (n+1)=n:=by simp [swp]
theorem sQ{n i:Nat}(h:i≠n)(h':i≠n+1):swp n i=i:=by simp [swp,h,h']
theorem sP(n i:Nat):swp n (swp n i)=i:=by
 by_cases h:i=n
 ·subst h;rw [uY,uX]
 ·by_cases h':i=n+1
  ·subst h';rw [uX,uY]
  ·rw [sQ h h',sQ h h']
theorem xg{K:Zone}{w0 w:World}{e0 e:Env}{H0:aK}{n:Nat}{a f:VO}(h0:St K w0 e0 H0 n w)(hle:e0.le e)(h:St K w0 e ((H0.set n f).set (n+1) a) (n+2) w)(ha: ∀ ρ,a.ren ρ=a)(hf: ∀ ρ,f.ren ρ=f) :
 e0.le (pull e (swp n))∧St K w0 (pull e (swp n)) ((H0.set n a).set (n+1) f) (n+2) w:=by
 have hn0:=h0.fresh n (zA _)
 have hn1:=h0.fresh (n+1) (by omega)
 have hlow: ∀ {id:Nat} {vo:VO},H0.at' id=some vo→id≠n∧id≠n+1:=fun {id vo} hid=>by
  obtain⟨x,hx,_⟩:=h0.rel id vo hid
  exact⟨fun e=>(by rw [e,hn0] at hx;cases hx),fun e=>(by rw [e,hn1] at hx;cases hx)⟩
 have hle':e0.le (pull e (swp n)):=fun i x hx=>by
  have h1:i≠n:=fun e=>by rw [e,hn0] at hx;cases hx
  have h2:i≠n+1:=fun e=>by rw [e,hn1] at hx;cases hx
  show e (swp n i)=some x
  rw [sQ h1 h2]
  exact hle i x hx
 have back: ∀ {id:Nat} {vo:VO},((H0.set n a).set (n+1) f).at' id=some vo→((H0.set n f).set (n+1) a).at' (swp n id)=some vo∧(id=n∨id=n+1∨H0.at' id=some vo):=fun {id vo} hid=>by
  by_cases h1:id=n
  ·subst h1
   rw [Tr.aa _ _ (by omega),Tr.ae] at hid
   rw [uY,Tr.ae]
   exact⟨hid,.inl rfl⟩
  ·by_cases h2:id=n+1
   ·subst h2
    rw [Tr.ae] at hid
    rw [uX,Tr.aa _ _ (by omega),Tr.ae]
    exact⟨hid,.inr (.inl rfl)⟩
   ·rw [Tr.aa _ _ h2,Tr.aa _ _ h1] at hid
    rw [sQ h1 h2,Tr.aa _ _ h2,Tr.aa _ _ h1]
    exact⟨hid,.inr (.inr hid)⟩
 refine⟨hle',h.below,fun id vo hid=>?_,fun i j vo vo' x x' hi hj hx hx' hne=>?_,fun i hi=>?_⟩
 ·obtain⟨g1,g2⟩:=back hid
  rcases g2 with rfl|rfl|g2
  ·obtain⟨x,hx,hl⟩:=h.rel _ _ g1
   have hv:vo=a:=by
    rw [Tr.aa _ _ (by omega),Tr.ae] at hid
    exact(Option.some.inj hid).symm
   subst hv
   exact⟨x,hx,iM.1 (by rw [ha];exact hl)⟩
  ·obtain⟨x,hx,hl⟩:=h.rel _ _ g1
   have hv:vo=f:=by
    rw [Tr.ae] at hid
    exact(Option.some.inj hid).symm
   subst hv
   exact⟨x,hx,iM.1 (by rw [hf];exact hl)⟩
  ·obtain⟨x,hx,hl⟩:=h0.rel id vo g2
   exact⟨x,hle' _ _ hx,hl.mono hle'⟩
 ·exact h.inj _ _ _ _ x x' (back hi).1 (back hj).1 hx hx' (fun e=>hne (by rw [← sP n i,e,sP]))
 ·show e (swp n i)=none
  rw [sQ (by omega) (by omega)]
  exact h.fresh i hi
namespace Np
section
variable {P:Program} {K:Zone} {w0 w:World} {e:Env} {H:aK} {nx:Nat} {rn:Rn}
structure RegOK (P:Program) (rn:Rn) (nt:Nat) (ops:Array Oper) (T0:Tr SV) (R:List Rec) (Q:List (aK×Nat)) (C:List Nat):Prop where
 len:R.length=ops.size
 recs: ∀ (k:Nat) r,R[k]? =some r→RecOK P rn ops T0 R Q C k r
 stages:Q.length=C.length+1
 chainR:C=(R.filter (·.chain)).map (·.i)
 floats: ∀ r∈R,r.chain=false→r.wanted=true→(∀ c,r.o.op ≠ .defer c)∧ ∀ s,eG ((bp [] ops.toList).getD r.i 0) C≤s→s≤cC (bp [] ops.toList) r.i C→ ∀ H n,Q[s]? =some (H,n)→ReadDoes P r.T H r.o r.val
 small: ∀ (i:Nat) o d,ops.toList[i]? =some o→o.dst=some d→d<nt
 dist: ∀ (i j:Nat) oi oj d,ops.toList[i]? =some oi→ops.toList[j]? =some oj→oi.dst=some d→oj.dst=some d→i=j
 edges: ∀ (i:Nat) o,ops.toList[i]? =some o→dX i o.after.toList=true
 opnds: ∀ (i:Nat) o,ops.toList[i]? =some o→cm ops.toList (bp [] ops.toList) i ((bp [] ops.toList).getD i 0) (az ops.toList o)=true
def se(T0:Tr SV)(R:List Rec)(L:Nat→Prop)(t:Nat)(s:SV):Prop:=
 (∃ (k:Nat) (r:Rec),L k∧R[k]? =some r∧r.o.dst=some t∧r.val=s)∨((∀ (k:Nat) (r:Rec),L k→R[k]? =some r→r.o.dst≠some t)∧T0.at' t=some s)
structure PInv (K:Zone) (w0:World) (nt:Nat) (ops:Array Oper) (T0:Tr SV) (R:List Rec) (Q:List (aK×Nat)) (C:List Nat) (L:Nat→Prop) (s:Nat) (e:Env) (w:World) (tr:Array Value):Prop where
 st: ∃ H n,Q[s]? =some (H,n)∧St K w0 e H n w
 size:tr.size=nt
 good: ∀ t sv,se T0 R L t sv→ ∃ v,sv.conc e=some v∧tr.getD t undef=v
 chain: ∀ (j c:Nat),C[j]? =some c→(L c↔j<s)
 closed: ∀ (i:Nat) o,L i→ops.toList[i]? =some o→ ∀ ed∈o.after.toList,Region.binds .any ed=true→L ed.on
variable {nt:Nat} {ops:Array Oper} {T0:Tr SV} {R:List Rec} {Q:List (aK×Nat)} {C:List Nat}
theorem PInv.need(hR:RegOK P rn nt ops T0 R Q C){L:Nat→Prop}{s:Nat}{tr:Array Value}(h:PInv K w0 nt ops T0 R Q C L s e w tr){i:Nat}{o:Oper}(ho:ops[i]? =some o)(hni: ¬ L i)
 (hed: ∀ ed∈o.after.toList,Region.binds .any ed=true→L ed.on) {r:Rec} (hr:R[i]? =some r):TRel e nt r.T tr∧Region.wanted o (yielded ops tr)=r.wanted:=by
 have hoL:ops.toList[i]? =some o:=by simpa using ho
 have hilt:i<ops.size:=(zp.1 ho).1
 have hrec:=hR.recs i r hr
 have hro:r.o=o:=by
  have:=hrec.op
  rw [ho] at this
  simpa using this.symm
 have hanc:=bg L hR.edges (fun i o hi ho'=>h.closed i o hi ho') i o hoL hed
 have hT:TRel e nt r.T tr:=by
  refine⟨h.size,fun t sv ht=>?_⟩
  obtain⟨hneed,hsrc⟩:=hrec.slots t sv ht
  rw [hro] at hneed
  have hwr: ∀ (k':Nat) o',ops.toList[k']? =some o'→o'.dst=some t→(L k'∧k'<i)∨(¬ L k'∧i<k'):=fun k' o' ho' hd'=>by
   rcases cK hR.dist (hR.opnds i o hoL) t hneed k' o' ho' hd' with hb|hb
   ·exact .inl (hanc k' hb)
   ·refine .inr ⟨fun hL=>?_,?_⟩
    ·exact hni (bg L hR.edges (fun i o hi ho'=>h.closed i o hi ho') k' o' ho' (h.closed k' o' hL ho') i hb).1
    ·exact(bg (fun _=>True) hR.edges (fun _ _ _ _ _ _ _=>trivial) k' o' ho' (fun _ _ _=>trivial) i hb).2
  refine h.good t sv ?_
  rcases hsrc with ⟨k',r',h1,h2,h3,h4⟩|⟨h1,h2⟩
  ·have hop:=(hR.recs k' r' h2).op
   rcases hwr k' r'.o (by simpa using hop) h3 with g|g
   ·exact .inl ⟨k',r',g.1,h2,h3,h4⟩
   ·omega
  ·refine .inr ⟨fun k' r' hLk hr' hd'=>?_,h2⟩
   have hop:=(hR.recs k' r' hr').op
   rcases hwr k' r'.o (by simpa using hop) hd' with g|g
   ·exact h1 k' r' g.2 hr' hd'
   ·exact g.1 hLk
 have hwant:=dv hrec.want hT
 rw [hro] at hwant
 exact⟨hT,hwant⟩
theorem PInv.step(hrn:f7 P K w0 rn)(hR:RegOK P rn nt ops T0 R Q C){L:Nat→Prop}{s:Nat}{tr:Array Value}(h:PInv K w0 nt ops T0 R Q C L s e w tr){i:Nat}{o:Oper}(ho:ops[i]? =some o)(hni: ¬ L i)
 (hed: ∀ ed∈o.after.toList,Region.binds .any ed=true→L ed.on) (fn:FuncId) (rest:List Nat) (k:List Item) (ds:List Deferred) (kd:CallKind) (rof:Option Nat) (cs:List Frame) (hord: ∀ (j c:Nat),C[j+1]? =some i→C[j]? =some c→L c) :
 ∃ e' w' tr' s',e.le e'∧PInv K w0 nt ops T0 R Q C (fun j=>L j∨j=i) s' e' w' tr' ∧
  Steps P (lone (fr0 fn tr (.inRegion ops (i :: rest) :: k) ds kd rof) cs w) (lone (fr0 fn tr' (.inRegion ops rest :: k) ds kd rof) cs w')∧(∃ u,tr'=fL tr o.dst u)∧((∀ r,R[i]? =some r→r.chain=false)→e'=e∧w'=w∧s'=s):=by
 have hoL:ops.toList[i]? =some o:=by simpa using ho
 have hilt:i<ops.size:=(zp.1 ho).1
 obtain⟨r,hr⟩: ∃ r,R[i]? =some r:=⟨_,zh (by rw [hR.len];exact hilt)⟩
 have hrec:=hR.recs i r hr
 have hro:r.o=o:=by
  have:=hrec.op
  rw [ho] at this
  simpa using this.symm
 have hanc:=bg L hR.edges (fun i o hi ho'=>h.closed i o hi ho') i o hoL hed
 have hT:TRel e nt r.T tr:=by
  refine⟨h.size,fun t sv ht=>?_⟩
  obtain⟨hneed,hsrc⟩:=hrec.slots t sv ht
  rw [hro] at hneed
  have hwr: ∀ (k':Nat) o',ops.toList[k']? =some o'→o'.dst=some t→(L k'∧k'<i)∨(¬ L k'∧i<k'):=fun k' o' ho' hd'=>by
   rcases cK hR.dist (hR.opnds i o hoL) t hneed k' o' ho' hd' with hb|hb
   ·exact .inl (hanc k' hb)
   ·refine .inr ⟨fun hL=>?_,?_⟩
    ·exact hni (bg L hR.edges (fun i o hi ho'=>h.closed i o hi ho') k' o' ho' (h.closed k' o' hL ho') i hb).1
    ·exact(bg (fun _=>True) hR.edges (fun _ _ _ _ _ _ _=>trivial) k' o' ho' (fun _ _ _=>trivial) i hb).2
  refine h.good t sv ?_
  rcases hsrc with ⟨k',r',h1,h2,h3,h4⟩|⟨h1,h2⟩
  ·have hop:=(hR.recs k' r' h2).op
   rcases hwr k' r'.o (by simpa using hop) h3 with g|g
   ·exact .inl ⟨k',r',g.1,h2,h3,h4⟩
   ·omega
  ·refine .inr ⟨fun k' r' hLk hr' hd'=>?_,h2⟩
   have hop:=(hR.recs k' r' hr').op
   rcases hwr k' r'.o (by simpa using hop) hd' with g|g
   ·exact h1 k' r' g.2 hr' hd'
   ·exact g.1 hLk
 have hwant:=dv hrec.want hT
 rw [hro] at hwant
 have build: ∀ (e':Env) (w':World) (u:Value) (s':Nat),e.le e'→(∃ H n,Q[s']? =some (H,n)∧St K w0 e' H n w')→r.val.conc e'=some u→(∀ (j c:Nat),C[j]? =some c→((L c∨c=i)↔j<s')) →
  PInv K w0 nt ops T0 R Q C (fun j=>L j∨j=i) s' e' w' (fL tr o.dst u):=by
  intro e' w' u s' hle hst hu hch
  refine⟨hst,?_,fun t sv hg=>?_,hch,fun j oj hj hoj ed hed' hb=>?_⟩
  ·unfold fL
   cases o.dst with
   | none=>exact h.size
   | some d=>simpa using h.size
  ·have old:(∀ d,o.dst=some d→d≠t)→ ∃ v,sv.conc e'=some v∧(fL tr o.dst u).getD t undef=v:=by
    intro hne
    have hg':se T0 R L t sv:=by
     rcases hg with ⟨k',r',hk',h2,h3,h4⟩|hg
     ·refine .inl ⟨k',r',?_,h2,h3,h4⟩
      rcases hk' with hk'|rfl
      ·exact hk'
      ·exfalso
       rw [hr] at h2
       simp only [zd] at h2
       subst h2
       rw [hro] at h3
       exact hne t h3 rfl
     ·exact .inr ⟨fun k' r' hLk=>hg.1 k' r' (.inl hLk),hg.2⟩
    obtain⟨v,hv,hgv⟩:=h.good t sv hg'
    refine⟨v,SV.bO hle _ _ hv,?_⟩
    cases hd:o.dst with
    | none=>exact hgv
    | some d=>
      have:=hne d hd
      simp only [fL]
      rw [zk,Array.getElem?_setIfInBounds_ne this,←zk]
      exact hgv
   cases hd:o.dst with
   | none=>rw [hd] at old;exact old (fun d hd'=>by cases hd')
   | some d=>
     by_cases hdt:d=t
     ·subst hdt
      have hval:sv=r.val:=by
       rcases hg with ⟨k',r',hk',h2,h3,h4⟩|⟨h1,_⟩
       ·have hop:=(hR.recs k' r' h2).op
        have:=hR.dist k' i r'.o o d (by simpa using hop) hoL h3 hd
        subst this
        rw [hr] at h2
        simp only [zd] at h2
        subst h2
        exact h4.symm
       ·exact absurd (by rw [hro];exact hd) (h1 i r (.inr rfl) hr)
      subst hval
      refine⟨u,hu,?_⟩
      have hlt:=hR.small i o d hoL hd
      simp only [fL]
      rw [zk,Array.getElem?_setIfInBounds_self_of_lt (by rw [h.size];exact hlt)]
      rfl
     ·rw [hd] at old
      exact old (fun d' hd'=>by simp only [zd] at hd';subst hd';exact hdt)
  ·rcases hj with hj|rfl
   ·exact .inl (h.closed j oj hj hoj ed hed' hb)
   ·rw [hoL] at hoj
    simp only [zd] at hoj
    subst hoj
    exact .inl (hed ed hed' hb)
 have notChain:r.chain=false→ ∀ (j c:Nat),C[j]? =some c→((L c∨c=i)↔j<s):=by
  intro hc j c hj
  have hne:c≠i:=by
   rintro rfl
   rw [hR.chainR] at hj
   rw [List.getElem?_map,zo] at hj
   obtain⟨r',hr',hi'⟩:=hj
   have hmem:=zt hr'
   rw [List.mem_filter] at hmem
   obtain⟨k',hk'⟩:=List.mem_iff_getElem?.1 hmem.1
   have:=(hR.recs k' r' hk').idx
   rw [hi'] at this
   subst this
   rw [hr] at hk'
   simp only [zd] at hk'
   subst hk'
   rw [hc] at hmem
   simp at hmem
  rw [← h.chain j c hj]
  simp [hne]
 obtain⟨H,n,hQ,hS⟩:=h.st
 cases hwd:r.wanted with
 | false=>
   rw [hwd] at hwant
   obtain⟨h1,h2⟩:=hrec.skip hwd
   exact⟨e,w,_,s,Env.le_refl e,build e w undef s (Env.le_refl e) ⟨H,n,hQ,hS⟩ (by rw [h1];rfl) (notChain h2),.one (ej ho hwant),⟨_,rfl⟩,fun _=>⟨rfl,rfl,rfl⟩⟩
 | true=>
   rw [hwd] at hwant
   cases hc:r.chain with
   | false=>
     have hri:=hrec.idx
     have hlo:eG ((bp [] ops.toList).getD r.i 0) C≤s:=by
      rcases Nat.lt_or_ge s (eG ((bp [] ops.toList).getD r.i 0) C)with hlt|hge
      ·exfalso
       obtain⟨c,h1,h2⟩:=jr s hlt
       rw [hri] at h2
       have:=(h.chain s c h1).1 (hanc c h2).1
       omega
      ·exact hge
     have hhi:s≤cC (bp [] ops.toList) r.i C:=by
      rcases Nat.lt_or_ge (cC (bp [] ops.toList) r.i C) s with hlt|hge
      ·exfalso
       have hsC:s≤C.length:=by
        have:=(zi.1 hQ).1
        have:=hR.stages
        omega
       obtain⟨c,h1,h2⟩:=hZ (ancs:=bp [] ops.toList) (i:=r.i) (l:=C) (by omega)
       have hLc:=(h.chain _ c h1).2 hlt
       have hcl:c<ops.size:=by
        have hcm:=zt h1
        rw [hR.chainR,List.mem_map] at hcm
        obtain⟨r',hr',rfl⟩:=hcm
        rw [List.mem_filter] at hr'
        obtain⟨k',hk'⟩:=List.mem_iff_getElem?.1 hr'.1
        have hx:=hR.recs k' r' hk'
        rw [hx.idx]
        exact(zp.1 hx.op).1
       have hoc:ops.toList[c]? =some (ops.toList[c]'(by simpa using hcl)):=zh (by simpa using hcl)
       have:=bg L hR.edges (fun i o hi ho'=>h.closed i o hi ho') c _ hoc (h.closed c _ hLc hoc) r.i h2
       rw [hri] at this
       exact hni this.1
      ·exact hge
     have hf:=(hR.floats r (zt hr) hc hwd).2 s hlo hhi H n hQ
     have hnd:=(hR.floats r (zt hr) hc hwd).1
     rw [hro] at hf hnd
     obtain⟨u,hu,hst⟩:=gp (P:=P) (fn:=fn) (rest:=rest) (k:=k) (ds:=ds) (kd:=kd) (rof:=rof) (cs:=cs) hS hT ho hwant hnd hf
     exact⟨e,w,_,s,Env.le_refl e,build e w u s (Env.le_refl e) ⟨H,n,hQ,hS⟩ hu (notChain hc),hst,⟨_,rfl⟩,fun _=>⟨rfl,rfl,rfl⟩⟩
   | true=>
     obtain⟨_,hC,H1,n1,H2,n2,hQ1,hQ2,heff⟩:=hrec.eff hc
     have hss:r.stg=s:=by
      have h1: ¬ r.stg<s:=fun hlt=>hni ((h.chain r.stg i hC).2 hlt)
      rcases Nat.eq_zero_or_pos r.stg with h0|hp
      ·omega
      ·have hlt:r.stg-1<C.length:=by
        have:=(zi.1 hC).1
        omega
       have hprev:C[r.stg-1]? =some C[r.stg-1]:=zh hlt
       have:=(h.chain _ _ hprev).1 (hord (r.stg-1) C[r.stg-1] (by rw [show r.stg-1+1=r.stg by omega];exact hC) hprev)
       omega
     rw [hss] at hQ1 hQ2 hC
     rw [hQ] at hQ1
     simp only [zd,zn] at hQ1
     obtain⟨rfl,rfl⟩:=hQ1
     rw [hro] at heff
     obtain⟨e',w',u,hle,hS',hu,hst⟩:=ez (P:=P) hrn (fn:=fn) (rest:=rest) (k:=k) (ds:=ds) (kd:=kd) (rof:=rof) (cs:=cs) hS hT ho hwant heff
     refine⟨e',w',_,s+1,hle,build e' w' u (s+1) hle ⟨H2,n2,hQ2,hS'⟩ hu (fun j c hj=>?_),hst,⟨_,rfl⟩,fun hx=>by have:=hx r hr;rw [hc] at this;cases this⟩
     constructor
     ·rintro(hL|rfl)
      ·have:=(h.chain j c hj).1 hL;omega
      ·rcases Nat.lt_or_ge j (s+1)with hlt|hge
       ·exact hlt
       ·exfalso
        have hi1:=chain_inj hR hC hj
        omega
     ·intro hlt
      rcases Nat.lt_or_ge j s with hj'|hj'
      ·exact .inl ((h.chain j c hj).2 hj')
      ·have:j=s:=by omega
       subst this
       rw [hC] at hj
       simp only [zd] at hj
       exact .inr hj.symm
where
 chain_inj {P:Program} {rn:Rn} {nt:Nat} {ops:Array Oper} {T0:Tr SV} {R:List Rec} {Q:List (aK×Nat)} {C:List Nat} (hR:RegOK P rn nt ops T0 R Q C) {s j c:Nat} (h1:C[s]? =some c) (h2:C[j]? =some c):s=j:=by
  have hnd:C.Nodup:=by
   rw [hR.chainR]
   have hall:((R.filter (·.chain)).map (·.i)).Sublist (R.map (·.i)):=(List.filter_sublist).map _
   refine hall.nodup ?_
   have:R.map (·.i)=List.range R.length:=by
    apply List.ext_getElem?
    intro k
    rw [List.getElem?_map]
    cases hk:R[k]? with
    | none=>
      rw [List.getElem?_eq_none_iff] at hk
      simp [hk]
    | some r=>
      have hlt:=(zi.1 hk).1
      rw [zG,(hR.recs k r hk).idx,List.getElem?_range hlt]
   rw [this]
   exact List.nodup_range
  have a:=zi.1 h1
  have b:=zi.1 h2
  obtain⟨a1,a2⟩:=a
  obtain⟨b1,b2⟩:=b
  exact(List.getElem_inj hnd).1 (a2.trans b2.symm)
end
section
variable {P:Program} {K:Zone} {w0:World} {rn:Rn} {nt:Nat} {ops:Array Oper} {T0:Tr SV} {R:List Rec} {Q:List (aK×Nat)} {C:List Nat} {a f:Nat}
def qU(ancs:List Nat)(a f:Nat):List Oper→Nat→Bool
 | [],_=>true
 | o :: l,i=>(o.after.toList.all fun ed=> !(Region.binds .any ed && Nat.beq ed.on f) || (ancs.getD i 0).testBit a) && qU ancs a f l (i+1)
theorem oO{ancs:List Nat}: ∀ {l:List Oper} {i0:Nat},qU ancs a f l i0=true→ ∀ (i:Nat) o,l[i]? =some o→ ∀ ed∈o.after.toList,Region.binds .any ed=true→ed.on=f→(ancs.getD (i0+i) 0).testBit a=true
 | [],_,_,i,o,h,_,_,_,_=>by simp at h
 | o0 :: l,i0,h,i,o,ho,ed,hed,hb,hf=>by
   simp only [qU,zy] at h
   cases i with
   | zero=>
     simp only [zx,zd] at ho
     subst ho
     have:=List.all_eq_true.1 h.1 ed hed
     rw [hb,hf] at this
     simpa using this
   | succ i=>
     have:=oO h.2 i o (by simpa using ho) ed hed hb hf
     rw [show i0+(i+1)=i0+1+i by omega]
     exact this
structure Swap (P:Program) (rn:Rn) (T0:Tr SV) (R:List Rec) (Q:List (aK×Nat)) (C:List Nat) (a f:Nat) (ra rf:Rec) (H0:aK) (n0 la lf:Nat) (va vf:VO) (df:Nat):Prop where
 iA:R[a]? =some ra
 iF:R[f]? =some rf
 c0:C[0]? =some a
 c1:C[1]? =some f
 q0:Q[0]? =some (H0,n0)
 q2:Q[2]? =some ((H0.set n0 va).set (n0+1) vf,n0+2)
 xa:ra.val = .slu n0 0 la
 xf:rf.val = .slu (n0+1) 0 lf
 oF:rf.o.dst=some df
 t0:T0.at' df=none
 na: ∀ ρ,va.ren ρ=va
 nf: ∀ ρ,vf.ren ρ=vf
 ef:dP P rn rf.T H0 n0 rf.o (.slu n0 0 lf,H0.set n0 vf,n0+1)
 ea:dP P rn ra.T (H0.set n0 vf) (n0+1) ra.o (.slu (n0+1) 0 la,(H0.set n0 vf).set (n0+1) va,n0+2)
variable {ra rf:Rec} {H0:aK} {n0 la lf:Nat} {va vf:VO} {df:Nat}
structure Dev (K:Zone) (w0:World) (nt:Nat) (ops:Array Oper) (T0:Tr SV) (R:List Rec) (Q:List (aK×Nat)) (C:List Nat) (a f:Nat) (H0:aK) (n0 lf:Nat) (vf:VO) (df:Nat) (L:Nat→Prop) (e:Env) (w:World) (tr:Array Value):Prop where
 inv:PInv K w0 nt ops T0 R Q C (fun j=>L j∧j≠f) 0 e w tr
 hf:L f
 ha: ¬ L a
 closed: ∀ (i:Nat) o,L i→ops.toList[i]? =some o→ ∀ ed∈o.after.toList,Region.binds .any ed=true→L ed.on
 ex: ∃ eB u,e.le eB∧St K w0 eB (H0.set n0 vf) (n0+1) w∧(SV.slu n0 0 lf).conc eB=some u∧tr.getD df undef=u
theorem ir{tr:Array Value}{d:Option Tmp}{u:Value}{t:Nat}(h:d≠some t):(fL tr d u).getD t undef=tr.getD t undef:=by
 cases d with
 | none=>rfl
 | some d=>
   have:d≠t:=fun e=>h (by rw [e])
   simp only [fL]
   rw [zk,Array.getElem?_setIfInBounds_ne this,←zk]
theorem nO{tr:Array Value}{t:Nat}{u:Value}(h:t<tr.size):(fL tr (some t) u).getD t undef=u:=by
 simp only [fL]
 rw [zk,Array.getElem?_setIfInBounds_self_of_lt h]
 rfl
theorem nN{tr:Array Value}{d:Option Tmp}{u:Value}:(fL tr d u).size=tr.size:=by
 cases d with
 | none=>rfl
 | some d=>simp [fL]
theorem um(hrn:f7 P K w0 rn)(hR:RegOK P rn nt ops T0 R Q C)(hs:Swap P rn T0 R Q C a f ra rf H0 n0 la lf va vf df){L:Nat→Prop}{e:Env}{w:World}{tr:Array Value}(h:PInv K w0 nt ops T0 R Q C L 0 e w tr){o:Oper}(ho:ops[f]? =some o)(hni: ¬ L f)
 (hed: ∀ ed∈o.after.toList,Region.binds .any ed=true→L ed.on) (fn:FuncId) (rest:List Nat) (k:List Item) (ds:List Deferred) (kd:CallKind) (rof:Option Nat) (cs:List Frame) :
 ∃ w' tr',Dev K w0 nt ops T0 R Q C a f H0 n0 lf vf df (fun j=>L j∨j=f) e w' tr' ∧
  Steps P (lone (fr0 fn tr (.inRegion ops (f :: rest) :: k) ds kd rof) cs w) (lone (fr0 fn tr' (.inRegion ops rest :: k) ds kd rof) cs w'):=by
 have hoL:ops.toList[f]? =some o:=by simpa using ho
 obtain⟨hT,hw⟩:=h.need hR ho hni hed hs.iF
 have hrec:=hR.recs f rf hs.iF
 have hro:rf.o=o:=by
  have:=hrec.op
  rw [ho] at this
  simpa using this.symm
 obtain⟨hwd,_⟩:rf.wanted=true∧True:=by
  refine⟨?_,trivial⟩
  cases hc:rf.chain with
  | true=>exact(hrec.eff hc).1
  | false=>
    exfalso
    have:=zt hs.c1
    rw [hR.chainR,List.mem_map] at this
    obtain⟨r',hr',hi'⟩:=this
    rw [List.mem_filter] at hr'
    obtain⟨k',hk'⟩:=List.mem_iff_getElem?.1 hr'.1
    have:=(hR.recs k' r' hk').idx
    rw [hi'] at this
    subst this
    rw [hs.iF] at hk'
    cases hk'
    rw [hc] at hr'
    simp at hr'
 rw [hwd] at hw
 obtain⟨H,n,hQ,hS⟩:=h.st
 rw [hs.q0] at hQ
 simp only [zd,zn] at hQ
 obtain⟨rfl,rfl⟩:=hQ
 have hef:=hs.ef
 rw [hro] at hef
 obtain⟨eB,w',u,hle,hSB,hu,hst⟩:=ez (P:=P) hrn (fn:=fn) (rest:=rest) (k:=k) (ds:=ds) (kd:=kd) (rof:=rof) (cs:=cs) hS hT ho hw hef
 have hn0:=hS.fresh n0 (zA _)
 have hS':St K w0 e H0 n0 w':=hS.down hle hSB fun id vo hid=>by
  obtain⟨x,hx,_⟩:=hS.rel id vo hid
  have:id≠n0:=fun e'=>by rw [e',hn0] at hx;cases hx
  rw [Tr.aa _ _ this]
  exact hid
 have hdf:o.dst=some df:=hro ▸ hs.oF
 have hlt:=hR.small f o df hoL hdf
 rw [hdf] at hst
 have hfe: ∀ j,((L j∨j=f)∧j≠f)↔L j:=fun j=>⟨fun h=>h.1.resolve_right h.2,fun h=>⟨.inl h,fun e'=>hni (e' ▸ h)⟩⟩
 refine⟨w',_,⟨⟨⟨H0,n0,hs.q0,hS'⟩,by rw [nN];exact h.size,fun t sv hg=>?_,fun j c hj=>(hfe c).trans (h.chain j c hj),fun i oi hi hoi ed he hb=>(hfe _).2 (h.closed i oi ((hfe i).1 hi) hoi ed he hb)⟩,.inr rfl,fun hc=>?_,fun i oi hi hoi ed he hb=>?_,⟨eB,u,hle,hSB,hu,nO (by rw [h.size];exact hlt)⟩⟩,hst⟩
 ·have hg':se T0 R L t sv:=by
   rcases hg with ⟨k',r',hk',g⟩|⟨g1,g2⟩
   ·exact .inl ⟨k',r',(hfe k').1 hk',g⟩
   ·exact .inr ⟨fun k' r' hL=>g1 k' r' ((hfe k').2 hL),g2⟩
  obtain⟨v,hv,hgv⟩:=h.good t sv hg'
  refine⟨v,hv,?_⟩
  rw [ir]
  ·exact hgv
  ·intro e'
   cases e'
   rcases hg' with ⟨k',r',hk',h2,h3,_⟩|⟨_,g2⟩
   ·have hop:=(hR.recs k' r' h2).op
    have:=hR.dist k' f r'.o o df (by simpa using hop) hoL h3 hdf
    exact hni (this ▸ hk')
   ·rw [hs.t0] at g2;cases g2
 ·have hne:a≠f:=by
   intro e'
   have q1:=hs.c0
   have q2:=hs.c1
   rw [e'] at q1
   have:=PInv.step.chain_inj hR q1 q2
   omega
  have hLa:L a:=hc.resolve_right hne
  have:=(h.chain 0 a hs.c0).1 hLa
  omega
 ·rcases hi with hi|rfl
  ·exact .inl (h.closed i oi hi hoi ed he hb)
  ·rw [hoL] at hoi
   cases hoi
   exact .inl (hed ed he hb)
theorem xU(hrn:f7 P K w0 rn)(hR:RegOK P rn nt ops T0 R Q C)(hs:Swap P rn T0 R Q C a f ra rf H0 n0 la lf va vf df){L:Nat→Prop}{e:Env}{w:World}{tr:Array Value}(h:Dev K w0 nt ops T0 R Q C a f H0 n0 lf vf df L e w tr){o:Oper}(ho:ops[a]? =some o)
 (hed: ∀ ed∈o.after.toList,Region.binds .any ed=true→L ed.on∧ed.on≠f) (fn:FuncId) (rest:List Nat) (k:List Item) (ds:List Deferred) (kd:CallKind) (rof:Option Nat) (cs:List Frame) :
 ∃ e' w' tr',e.le e'∧PInv K w0 nt ops T0 R Q C (fun j=>L j∨j=a) 2 e' w' tr' ∧
  Steps P (lone (fr0 fn tr (.inRegion ops (a :: rest) :: k) ds kd rof) cs w) (lone (fr0 fn tr' (.inRegion ops rest :: k) ds kd rof) cs w'):=by
 have hoL:ops.toList[a]? =some o:=by simpa using ho
 obtain⟨hT,hw⟩:=h.inv.need hR ho (fun hc=>h.ha hc.1) hed hs.iA
 have hrec:=hR.recs a ra hs.iA
 have hro:ra.o=o:=by
  have:=hrec.op
  rw [ho] at this
  simpa using this.symm
 have hwd:ra.wanted=true:=by
  cases hc:ra.chain with
  | true=>exact(hrec.eff hc).1
  | false=>
    exfalso
    have:=zt hs.c0
    rw [hR.chainR,List.mem_map] at this
    obtain⟨r',hr',hi'⟩:=this
    rw [List.mem_filter] at hr'
    obtain⟨k',hk'⟩:=List.mem_iff_getElem?.1 hr'.1
    have:=(hR.recs k' r' hk').idx
    rw [hi'] at this
    subst this
    rw [hs.iA] at hk'
    cases hk'
    rw [hc] at hr'
    simp at hr'
 rw [hwd] at hw
 obtain⟨H,n,hQ,hS⟩:=h.inv.st
 rw [hs.q0] at hQ
 simp only [zd,zn] at hQ
 obtain⟨rfl,rfl⟩:=hQ
 obtain⟨eB,uf,hleB,hSB,huf,htf⟩:=h.ex
 have hea:=hs.ea
 rw [hro] at hea
 obtain⟨e2,w',u,hle2,hS2,hu,hst⟩:=ez (P:=P) hrn (fn:=fn) (rest:=rest) (k:=k) (ds:=ds) (kd:=kd) (rof:=rof) (cs:=cs) hSB (hT.mono hleB) ho hw hea
 have hn0:=hS.fresh n0 (zA _)
 have hn1:=hS.fresh (n0+1) (by omega)
 have hS':St K w0 e H0 n0 w':=hS.down (Env.le_trans hleB hle2) hS2 fun id vo hid=>by
  obtain⟨x,hx,_⟩:=hS.rel id vo hid
  have h1:id≠n0:=fun e'=>by rw [e',hn0] at hx;cases hx
  have h2:id≠n0+1:=fun e'=>by rw [e',hn1] at hx;cases hx
  rw [Tr.aa _ _ h2,Tr.aa _ _ h1]
  exact hid
 obtain⟨hle',hSF⟩:=xg hS' (Env.le_trans hleB hle2) hS2 hs.na hs.nf
 have hne:a≠f:=fun e'=>h.ha (e' ▸ h.hf)
 refine⟨_,w',_,hle',⟨⟨_,_,hs.q2,hSF⟩,by rw [nN];exact h.inv.size,fun t sv hg=>?_,fun j c hj=>?_,fun i oi hi hoi ed he hb=>?_⟩,hst⟩
 ·
  have main: ∀ (hd:o.dst≠some t),t≠df→ ∃ v,sv.conc (pull e2 (swp n0))=some v∧(fL tr o.dst u).getD t undef=v:=fun hd htd=>by
   have hg':se T0 R (fun j=>L j∧j≠f) t sv:=by
    rcases hg with ⟨k',r',hk',h2,h3,h4⟩|⟨g1,g2⟩
    ·have hop:=(hR.recs k' r' h2).op
     refine .inl ⟨k',r',⟨hk'.resolve_right fun e'=>?_,fun e'=>?_⟩,h2,h3,h4⟩
     ·subst e'
      rw [hs.iA] at h2
      cases h2
      exact hd (hro ▸ h3)
     ·subst e'
      rw [hs.iF] at h2
      cases h2
      rw [hs.oF] at h3
      exact htd (Option.some.inj h3).symm
    ·exact .inr ⟨fun k' r' hL=>g1 k' r' (.inl hL.1),g2⟩
   obtain⟨v,hv,hgv⟩:=h.inv.good t sv hg'
   exact⟨v,SV.bO hle' _ _ hv,by rw [ir hd];exact hgv⟩
  by_cases hd:o.dst=some t
  ·have hval:sv=ra.val:=by
    rcases hg with ⟨k',r',hk',h2,h3,h4⟩|⟨h1,_⟩
    ·have hop:=(hR.recs k' r' h2).op
     have:=hR.dist k' a r'.o o t (by simpa using hop) hoL h3 hd
     subst this
     rw [hs.iA] at h2
     cases h2
     exact h4.symm
    ·exact absurd (by rw [hro];exact hd) (h1 a ra (.inr rfl) hs.iA)
   rw [hval,hs.xa]
   refine⟨u,?_,?_⟩
   ·rw [← cV]
    show(SV.slu (swp n0 n0) 0 la).conc e2=some u
    rw [uY]
    exact hu
   ·rw [hd]
    exact nO (by rw [h.inv.size];exact hR.small a o t hoL hd)
  ·by_cases htd:t=df
   ·subst htd
    have hof:=(hR.recs f rf hs.iF).op
    have hval:sv=rf.val:=by
     rcases hg with ⟨k',r',hk',h2,h3,h4⟩|⟨h1,_⟩
     ·have hop:=(hR.recs k' r' h2).op
      have:=hR.dist k' f r'.o rf.o t (by simpa using hop) (by simpa using hof) h3 hs.oF
      subst this
      rw [hs.iF] at h2
      cases h2
      exact h4.symm
     ·exact absurd hs.oF (h1 f rf (.inl h.hf) hs.iF)
    rw [hval,hs.xf]
    refine⟨uf,?_,by rw [ir hd];exact htf⟩
    rw [← cV]
    show(SV.slu (swp n0 (n0+1)) 0 lf).conc e2=some uf
    rw [uX]
    exact SV.bO hle2 _ _ huf
   ·exact main hd htd
 ·constructor
  ·rintro(hL|rfl)
   ·by_cases e':c=f
    ·subst e'
     have:=PInv.step.chain_inj hR hj hs.c1
     omega
    ·have:=(h.inv.chain j c hj).1 ⟨hL,e'⟩
     omega
   ·have:=PInv.step.chain_inj hR hj hs.c0
    omega
  ·intro hlt
   have:j=0∨j=1:=by omega
   rcases this with rfl|rfl
   ·rw [hs.c0] at hj
    exact .inr (Option.some.inj hj).symm
   ·rw [hs.c1] at hj
    exact .inl (Option.some.inj hj ▸ h.hf)
 ·rcases hi with hi|rfl
  ·exact .inl (h.closed i oi hi hoi ed he hb)
  ·rw [hoL] at hoi
   cases hoi
   exact .inl (hed ed he hb).1
theorem iu(hrn:f7 P K w0 rn)(hR:RegOK P rn nt ops T0 R Q C)(hs:Swap P rn T0 R Q C a f ra rf H0 n0 la lf va vf df)(hch: ∀ (j c d:Nat),C[j]? =some c→C[j+1]? =some d→d≠f→((bp [] ops.toList).getD d 0).testBit c=true)
 (hfr:qU (bp [] ops.toList) a f ops.toList 0=true) (fn:FuncId) (k:List Item) (ds:List Deferred) (kd:CallKind) (rof:Option Nat) (cs:List Frame): ∀ (fuel t:Nat) (listed:Array Bool) (s:Nat) (e:Env) (w:World) (tr:Array Value),
 listed.size=ops.size→bm listed≤fuel→(PInv K w0 nt ops T0 R Q C (aI listed) s e w tr∨Dev K w0 nt ops T0 R Q C a f H0 n0 lf vf df (aI listed) e w tr) →
 ∃ e' w' tr' s' listed',e.le e'∧listed'.size=ops.size∧(∀ j,j<ops.size→aI listed' j)∧PInv K w0 nt ops T0 R Q C (aI listed') s' e' w' tr' ∧
  Steps P (lone (fr0 fn tr (.inRegion ops (Region.linearise.go .any ops fuel t listed []) :: k) ds kd rof) cs w) (lone (fr0 fn tr' (.inRegion ops [] :: k) ds kd rof) cs w'):=by
 have haS:a<ops.size:=(zp.1 (hR.recs a ra hs.iA).op).1
 have hne:a≠f:=by
  intro e'
  have q1:=hs.c0
  have q2:=hs.c1
  rw [e'] at q1
  have:=PInv.step.chain_inj hR q1 q2
  omega
 have allOf: ∀ (listed:Array Bool),listed.size=ops.size→(∀ j,j∉Region.ready .any ops listed)→ ∀ j,j<ops.size→aI listed j:=by
  intro listed hsz hno j hj
  apply Classical.byContradiction
  intro hn
  obtain⟨i,hi⟩:=fp hsz hR.edges hj hn
  exact hno i hi
 have fin: ∀ {listed:Array Bool} {s:Nat} {e:Env} {w:World} {tr:Array Value},(∀ j,j<ops.size→aI listed j)→(PInv K w0 nt ops T0 R Q C (aI listed) s e w tr∨Dev K w0 nt ops T0 R Q C a f H0 n0 lf vf df (aI listed) e w tr)→PInv K w0 nt ops T0 R Q C (aI listed) s e w tr:=fun hall hI=>by
  rcases hI with hI|hI
  ·exact hI
  ·exact absurd (hall a haS) hI.ha
 intro fuel
 induction fuel with
 | zero=>
   intro t listed s e w tr hsz hun hI
   have hall: ∀ j,j<ops.size→aI listed j:=fun j hj=>by
    unfold aI
    have hlt:j<listed.size:=by omega
    rw [zr hlt]
    cases hb:listed[j] with
    | true=>rfl
    | false=>
      exfalso
      have:0<listed.toList.count false:=List.count_pos_iff.2 (by rw [← hb];simp)
      unfold bm at hun
      omega
   exact⟨e,w,tr,s,listed,Env.le_refl e,hsz,hall,fin hall hI,by simp only [Region.linearise.go,List.reverse_nil];exact .refl P _⟩
 | succ fuel ih=>
   intro t listed s e w tr hsz hun hI
   simp only [Region.linearise.go]
   change ∃ e' w' tr' s' listed',_∧_∧_∧_∧Steps P (lone (fr0 fn tr (.inRegion ops (match (Region.ready .any ops listed)[t % (Region.ready .any ops listed).length]? with
    | some i=>Region.linearise.go .any ops fuel (t / (Region.ready .any ops listed).length) (listed.setIfInBounds i true) [i]
    | none=> [].reverse) :: k) ds kd rof) cs w) _
   cases hpick:(Region.ready .any ops listed)[t % (Region.ready .any ops listed).length]? with
   | none=>
     have hnil:Region.ready .any ops listed= []:=by
      cases hx:Region.ready .any ops listed with
      | nil=>rfl
      | cons x xs=>
        rw [hx] at hpick
        have hlt:t % (x :: xs).length<(x :: xs).length:=Nat.mod_lt _ (by simp)
        rw [zh hlt] at hpick
        cases hpick
     have hall:=allOf listed hsz (by rw [hnil];simp)
     exact⟨e,w,tr,s,listed,Env.le_refl e,hsz,hall,fin hall hI,.refl P _⟩
   | some i=>
     simp only
     have hmem:=zt hpick
     obtain⟨o,ho,hni,hed⟩:=eu hsz hmem
     rw [linearise_go_acc,List.reverse_singleton,List.singleton_append]
     have hoL:ops.toList[i]? =some o:=by simpa using ho
     have hLeq: ∀ j,aI (listed.setIfInBounds i true) j↔(aI listed j∨j=i):=by
      intro j
      unfold aI
      by_cases hji:j=i
      ·subst hji
       rw [Array.getElem?_setIfInBounds_self_of_lt (by have:=(zp.1 ho).1;omega)]
       simp
      ·rw [Array.getElem?_setIfInBounds_ne (Ne.symm hji)]
       simp [hji]
     have hL2:aI (listed.setIfInBounds i true)=fun j=>aI listed j∨j=i:=funext fun j=>propext (hLeq j)
     have one: ∃ e1 w1 tr1 s1,e.le e1∧(PInv K w0 nt ops T0 R Q C (fun j=>aI listed j∨j=i) s1 e1 w1 tr1∨Dev K w0 nt ops T0 R Q C a f H0 n0 lf vf df (fun j=>aI listed j∨j=i) e1 w1 tr1) ∧
      Steps P (lone (fr0 fn tr (.inRegion ops (i :: Region.linearise.go .any ops fuel (t / (Region.ready .any ops listed).length) (listed.setIfInBounds i true) []) :: k) ds kd rof) cs w)
       (lone (fr0 fn tr1 (.inRegion ops (Region.linearise.go .any ops fuel (t / (Region.ready .any ops listed).length) (listed.setIfInBounds i true) []) :: k) ds kd rof) cs w1):=by
      rcases hI with hI|hI
      ·have hanc:=bg (aI listed) hR.edges (fun i o hi ho'=>hI.closed i o hi ho') i o hoL hed
       by_cases hif:i=f∧s=0
       ·obtain⟨rfl,rfl⟩:=hif
        obtain⟨w1,tr1,hD,hst⟩:=um hrn hR hs hI ho hni hed fn _ k ds kd rof cs
        exact⟨e,w1,tr1,0,Env.le_refl e,.inr hD,hst⟩
       ·obtain⟨e1,w1,tr1,s1,hle,hP,hst,_⟩:=hI.step hrn hR ho hni hed fn (Region.linearise.go .any ops fuel (t / (Region.ready .any ops listed).length) (listed.setIfInBounds i true) []) k ds kd rof cs (fun j c hj1 hj=>by
         by_cases hf:i=f
         ·have hs0:s≠0:=fun h0=>hif ⟨hf,h0⟩
          rw [hf] at hj1
          have:=PInv.step.chain_inj hR hj1 hs.c1
          have:j=0:=by omega
          subst this
          exact(hI.chain 0 c hj).2 (by omega)
         ·exact(hanc c (hch j c i hj hj1 hf)).1)
        exact⟨e1,w1,tr1,s1,hle,.inl hP,hst⟩
      ·have hanc:=bg (aI listed) hR.edges (fun i o hi ho'=>hI.closed i o hi ho') i o hoL hed
       have hnf: ∀ ed∈o.after.toList,Region.binds .any ed=true→ed.on≠f:=fun ed he hb e'=>by
        have:=oO hfr i o hoL ed he hb e'
        rw [Nat.zero_add] at this
        exact hI.ha (hanc a this).1
       have hif:i≠f:=fun e'=>hni (e' ▸ hI.hf)
       by_cases hia:i=a
       ·subst hia
        obtain⟨e1,w1,tr1,hle,hP,hst⟩:=xU hrn hR hs hI ho (fun ed he hb=>⟨hed ed he hb,hnf ed he hb⟩) fn (Region.linearise.go .any ops fuel (t / (Region.ready .any ops listed).length) (listed.setIfInBounds i true) []) k ds kd rof cs
        exact⟨e1,w1,tr1,2,hle,.inl hP,hst⟩
       ·have hed0: ∀ ed∈o.after.toList,Region.binds .any ed=true→aI listed ed.on∧ed.on≠f:=fun ed he hb=>⟨hed ed he hb,hnf ed he hb⟩
        have hanc0:=bg (fun j=>aI listed j∧j≠f) hR.edges (fun i o hi ho'=>hI.inv.closed i o hi ho') i o hoL hed0
        have hnc: ∀ (j c:Nat),C[j+1]? =some i→C[j]? =some c→False:=fun j c hj1 hj=>by
         have:=(hI.inv.chain j c hj).1 (hanc0 c (hch j c i hj hj1 hif)).1
         omega
        obtain⟨e1,w1,tr1,s1,hle,hP,hst,⟨u,htr⟩,hsame⟩:=hI.inv.step hrn hR ho (fun hc=>hni hc.1) hed0 fn (Region.linearise.go .any ops fuel (t / (Region.ready .any ops listed).length) (listed.setIfInBounds i true) []) k ds kd rof cs (fun j c hj1 hj=>(hnc j c hj1 hj).elim)
        have hquiet: ∀ r,R[i]? =some r→r.chain=false:=fun r hr=>by
         cases hc:r.chain with
         | false=>rfl
         | true=>
           exfalso
           obtain⟨_,hC,_⟩:=(hR.recs i r hr).eff hc
           rcases Nat.eq_zero_or_pos r.stg with h0|hp
           ·rw [h0,hs.c0] at hC
            exact hia (Option.some.inj hC).symm
           ·have hlt:r.stg-1<C.length:=by
             have:=(zi.1 hC).1
             omega
            exact hnc (r.stg-1) C[r.stg-1] (by rw [show r.stg-1+1=r.stg by omega];exact hC) (zh hlt)
        obtain⟨rfl,rfl,rfl⟩:=hsame hquiet
        obtain⟨eB,uf,g1,g2,g3,g4⟩:=hI.ex
        have hof:=(hR.recs f rf hs.iF).op
        have hdst:o.dst≠some df:=fun e'=>hif (hR.dist i f o rf.o df hoL (by simpa using hof) e' hs.oF)
        refine⟨_,_,tr1,0,Env.le_refl _,.inr ⟨?_,.inl hI.hf,fun hc=>hc.elim hI.ha fun e'=>hia e'.symm,fun i' oi hi hoi ed he hb=>?_,⟨eB,uf,g1,g2,g3,by rw [htr,ir hdst];exact g4⟩⟩,hst⟩
        ·have:(fun j=>(aI listed j∨j=i)∧j≠f)=fun j=>(aI listed j∧j≠f)∨j=i:=by
          funext j
          apply propext
          constructor
          ·rintro⟨h1|h1,h2⟩
           ·exact .inl ⟨h1,h2⟩
           ·exact .inr h1
          ·rintro(⟨h1,h2⟩|h1)
           ·exact⟨.inl h1,h2⟩
           ·exact⟨.inr h1,fun e'=>hif (h1 ▸ e')⟩
         rw [this]
         exact hP
        ·rcases hi with hi|rfl
         ·exact .inl (hI.closed i' oi hi hoi ed he hb)
         ·rw [hoL] at hoi
          cases hoi
          exact .inl (hed ed he hb)
     obtain⟨e1,w1,tr1,s1,hle1,hI1,hst1⟩:=one
     have hilt:i<ops.size:=(zp.1 ho).1
     have hfalse:listed.toList[i]? =some false:=by
      have hlt:i<listed.size:=by omega
      unfold aI at hni
      rw [zr hlt] at hni
      rw [Array.getElem?_toList,zr hlt]
      simpa using hni
     have hcnt:bm (listed.setIfInBounds i true)+1=bm listed:=by
      unfold bm
      rw [Array.toList_setIfInBounds]
      exact c6 _ _ hfalse
     rw [← hL2] at hI1
     obtain⟨e2,w2,tr2,s2,l2,hle2,hs2,ha2,hI3,hst2⟩:=ih _ _ s1 e1 w1 tr1 (by simpa using hsz) (by omega) hI1
     exact⟨e2,w2,tr2,s2,l2,Env.le_trans hle1 hle2,hs2,ha2,hI3,hst1.trans hst2⟩
end
end Np
theorem bd_n{T:Tr SV}{dflt n:Nat}{o:Operand}{k:IntKind}{j:Int}(h:ao T o=some (.sc (.int k j)))(hj:j=(n:Int)):wU T dflt (some o) n:=by
 subst hj
 exact xZ h (by omega)
def FlOkD(P:Program)(ancs chain:List Nat)(Q:List (aK×Nat)):List Rec→Prop
 | []=>True
 | r :: l=>((r.chain || !r.wanted || (Nat.beq (eG (ancs.getD r.i 0) chain) r.stg && Nat.beq (cC ancs r.i chain) r.stg))=true∨ ∃ d,Nat.ble (cC ancs r.i chain+(d+1)) Q.length=true∧(AllH (Q.drop d) (fun H=>ReadDoes P r.T H r.o r.val)∨AllHQ (Q.drop d) (fun H n=>dP P (wpr P) r.T H n r.o (r.val,H,n))))∧FlOkD P ancs chain Q l
theorem FlOkD.ok{P:Program}{ancs chain:List Nat}{Q:List (aK×Nat)}: ∀ {l:List Rec},FlOkD P ancs chain Q l→ ∀ r∈l,r.chain=false→r.wanted=true→ ∀ st,eG (ancs.getD r.i 0) chain≤st→st≤cC ancs r.i chain→st≠r.stg→ ∀ H n,Q.reverse[st]? =some (H,n)→Nq.ReadQ P (wpr P) r.T H n r.o r.val
 | [],_,r,hm,_,_,_,_,_,_,_,_,_=>by cases hm
 | r0 :: l,hh,r,hm,hc,hw,st,h1,h2,h3,H,n,hq=>by
   rcases List.mem_cons.1 hm with rfl|hm
   ·rcases hh.1 with h|⟨d,hd,h⟩
    ·rw [hc,hw] at h
     simp only [Bool.not_true,Bool.or_false,Bool.false_or,zy] at h
     have q1:=bf h.1
     have q2:=bf h.2
     omega
    ·have hlt:=(zi.1 hq).1
     rw [List.length_reverse] at hlt
     have hd':=zj hd
     rw [List.getElem?_reverse hlt] at hq
     have hq':(Q.drop d)[Q.length-1-st-d]? =some (H,n):=by
      rw [List.getElem?_drop,show d+(Q.length-1-st-d)=Q.length-1-st by omega]
      exact hq
     rcases h with h|h
     ·exact .inl (h.get hq')
     ·exact .inr (h.get hq')
   ·exact FlOkD.ok hh.2 r hm hc hw st h1 h2 h3 H n hq
def FlOkE(P:Program)(ancs chain:List Nat)(Q:List (aK×Nat)):List Rec→Prop
 | []=>True
 | r :: l=>((r.chain || !r.wanted || (Nat.beq (eG (ancs.getD r.i 0) chain) r.stg && Nat.beq (cC ancs r.i chain) r.stg))=true∨ ∃ d,Nat.ble (cC ancs r.i chain+(d+1)) Q.length=true∧AllH (Q.drop d) (fun H=>ReadDoes P r.T H r.o r.val))∧FlOkE P ancs chain Q l
theorem FlOkE.ok{P:Program}{ancs chain:List Nat}{Q:List (aK×Nat)}: ∀ {l:List Rec},FlOkE P ancs chain Q l→ ∀ r∈l,r.chain=false→r.wanted=true→ ∀ st,eG (ancs.getD r.i 0) chain≤st→st≤cC ancs r.i chain→st≠r.stg→ ∀ H n,Q.reverse[st]? =some (H,n)→ReadDoes P r.T H r.o r.val
 | [],_,r,hm,_,_,_,_,_,_,_,_,_=>by cases hm
 | r0 :: l,hh,r,hm,hc,hw,st,h1,h2,h3,H,n,hq=>by
   rcases List.mem_cons.1 hm with rfl|hm
   ·rcases hh.1 with h|⟨d,hd,h⟩
    ·rw [hc,hw] at h
     simp only [Bool.not_true,Bool.or_false,Bool.false_or,zy] at h
     have q1:=bf h.1
     have q2:=bf h.2
     omega
    ·have hlt:=(zi.1 hq).1
     rw [List.length_reverse] at hlt
     have hd':=zj hd
     rw [List.getElem?_reverse hlt] at hq
     have hq':(Q.drop d)[Q.length-1-st-d]? =some (H,n):=by
      rw [List.getElem?_drop,show d+(Q.length-1-st-d)=Q.length-1-st by omega]
      exact hq
     exact h.get hq'
   ·exact FlOkE.ok hh.2 r hm hc hw st h1 h2 h3 H n hq
theorem AllH.all{p:aK→Prop}(h: ∀ H,p H): ∀ (Q:List (aK×Nat)),AllH Q p
 | []=>trivial
 | q :: l=>⟨h q.1,AllH.all h l⟩
theorem cj{r:Rec}{b:Bool}(h:r.chain=true):(r.chain || !r.wanted || b)=true:=by rw [h];rfl
theorem kM{r:Rec}{b:Bool}(h:r.wanted=false):(r.chain || !r.wanted || b)=true:=by rw [h];simp
section
variable {P:Program} {ro:Option Nat} {fn nt nx:Nat} {T:Tr SV} {k:List AIt} {dfs:List ADf} {H:aK} {Q:Pst}
theorem dp{id:Nat}{ops:List Oper}(hm:P.follows .mixedOrders=true)(hr:dY nt ops=true)
 (h:DrawK P nt ops.toArray 0 ops ⟨T,H,nx,[],[(H,nx)],0⟩ (fun s=>cN (bp [] ops) (a7 s)=true∧FlOkE P (bp [] ops) (a7 s) s.Hs s.recs∧Wp P ro ⟨fn,nt,s.T,k,dfs,s.H,s.nx⟩ Q)) :
 Wp P ro ⟨fn,nt,T,.code (.region id ops.toArray true) :: k,dfs,H,nx⟩ Q:=by
 obtain⟨s,hs,h1,h2,h3⟩:=h.ex
 exact .step ⟨hm,s,⟨hr,hs,h1,fun r hr=>FlOkE.ok h2 r hr⟩,h3⟩
end
section
variable {P:Program}
theorem kL{e e1 e2:Env}(h1:e.le e1)(h2:e.le e2){s:SV}{v0 v:Value}(h:s.conc e=some v0)(h':s.conc e1=some v):s.conc e2=some v:=by
 have:=SV.bO h1 s v0 h
 rw [h'] at this
 cases this
 exact SV.bO h2 s _ h
theorem ur{e e1 e2:Env}(h1:e.le e1)(h2:e.le e2){s:List SV}{v0 v:List Value}(h:SV.aM e s=some v0)(h':SV.aM e1 s=some v):SV.aM e2 s=some v:=by
 have:=SV.bJ h1 s v0 h
 rw [h'] at this
 cases this
 exact SV.bJ h2 s _ h
theorem rp{e e1 e2:Env}(h1:e.le e1)(h2:e.le e2): ∀ {l:List (Value×SV×Nat)} {m0 m:List MapEntry},MRel e l m0→MRel e1 l m→MRel e2 l m
 | [],[],[],_,_=>trivial
 | (_,_,_) :: _,_ :: _,_ :: _,hd0,hd=>⟨hd.1,hd.2.1,kL h1 h2 hd0.2.2.1 hd.2.2.1,rp h1 h2 hd0.2.2.2 hd.2.2.2⟩
 | [],_ :: _,_,hd,_=>hd.elim
 | [],_,_ :: _,_,hd=>hd.elim
 | _ :: _,[],_,hd,_=>by simp [MRel] at hd
 | _ :: _,_,[],_,hd=>by simp [MRel] at hd
theorem wl{e e1 e2:Env}(h1:e.le e1)(h2:e.le e2){a:ADf}{d0 d:Deferred}(hd0:DRel e a d0)(hd:DRel e1 a d):DRel e2 a d:=by
 cases a with
 | call f args=>
   obtain⟨x0,cap0,_,hl0⟩:=hd0
   obtain⟨x,cap,rfl,hl⟩:=hd
   exact⟨x,cap,rfl,ur h1 h2 hl0 hl⟩
 | taken r=>
   obtain⟨x0,hx0,_⟩:=hd0
   obtain⟨x,hx,rfl⟩:=hd
   have:=h1 _ _ hx0
   rw [hx] at this
   cases this
   exact⟨_,h2 _ _ hx0,rfl⟩
theorem ph{e e1 e2:Env}(h1:e.le e1)(h2:e.le e2): ∀ {l:List ADf} {m0 m:List Deferred},DsRel e l m0→DsRel e1 l m→DsRel e2 l m
 | [],[],[],_,_=>trivial
 | _ :: _,_ :: _,_ :: _,hd0,hd=>⟨wl h1 h2 hd0.1 hd.1,ph h1 h2 hd0.2 hd.2⟩
 | [],_ :: _,_,hd,_=>hd.elim
 | [],_,_ :: _,_,hd=>hd.elim
 | _ :: _,[],_,hd,_=>hd.elim
 | _ :: _,_,[],_,hd=>hd.elim
theorem wc{e e1 e2:Env}(h1:e.le e1)(h2:e.le e2){nt:Nat}{T:Tr SV}{t0 t:Array Value}(hd0:TRel e nt T t0)(hd:TRel e1 nt T t):TRel e2 nt T t:=by
 refine⟨hd.1,fun i s hs=>?_⟩
 obtain⟨v0,a1,_⟩:=hd0.2 i s hs
 obtain⟨v,b1,b2⟩:=hd.2 i s hs
 exact⟨v,kL h1 h2 a1 b1,b2⟩
theorem wh{e e1 e2:Env}(h1:e.le e1)(h2:e.le e2){vo:VO}{x:Ent}{o0 o:Obj}(h0:ORel e vo x o0)(ho:ORel e1 vo x o):ORel e2 vo x o:=by
 cases vo with
 | cells n t c=>
   obtain⟨_,cs0,fz0,_,_,_,g4⟩:=h0
   obtain⟨q0,cs,fz,q1,q2,q3,q4⟩:=ho
   refine⟨q0,cs,fz,q1,q2,q3,fun i hi s hs=>?_⟩
   obtain⟨v0,a1,_⟩:=g4 i hi s hs
   obtain⟨v,b1,b2⟩:=q4 i hi s hs
   exact⟨v,kL h1 h2 a1 b1,b2⟩
 | row ro ne sz t c=>
   obtain⟨_,cs0,fz0,t0,_,_,_,_,_,_,g7⟩:=h0
   obtain⟨q0,cs,fz,tt,q1,q2,q3,q4,q5,q6,q7⟩:=ho
   refine⟨q0,cs,fz,tt,q1,q2,q3,q4,q5,q6,fun i hi s hs=>?_⟩
   obtain⟨v0,a1,_⟩:=g7 i hi s hs
   obtain⟨v,b1,b2⟩:=q7 i hi s hs
   exact⟨v,kL h1 h2 a1 b1,b2⟩
 | map l clock=>
   obtain⟨es0,_,g2⟩:=h0
   obtain⟨es,q1,q2⟩:=ho
   exact⟨es,q1,rp h1 h2 g2 q2⟩
 | iter m since seen stepped=>
   cases m with
   | none=>exact ho
   | some m=>
     obtain⟨_,y0,g1,_⟩:=h0
     obtain⟨q0,y,q1,q2⟩:=ho
     have:=h1 _ _ g1
     rw [q1] at this
     cases this
     exact⟨q0,_,h2 _ _ g1,q2⟩
 | siter s pos=>exact ho
 | loop st pend fn nt T params assign body dr=>
   obtain⟨tm0,y0,g1,g2,_⟩:=h0
   obtain⟨tm,y,q1,q2,q3⟩:=ho
   have:=h1 _ _ g1
   rw [q1] at this
   cases this
   exact⟨tm,_,h2 _ _ g1,wc h1 h2 g2 q2,q3⟩
 | dfd l=>
   cases l with
   | none=>exact ho
   | some l=>
     obtain⟨ds0,_,g2⟩:=h0
     obtain⟨ds,q1,q2⟩:=ho
     exact⟨ds,q1,ph h1 h2 g2 q2⟩
theorem rv{K:Zone}{w0 w:World}{e e1 e2:Env}(h1:e.le e1)(h2:e.le e2){vo:VO}{x:Ent}(h0:Lies K w0 e vo x)(ho:Lies K w e1 vo x):Lies K w e2 vo x:=by
 rcases ho with ⟨a0,o,a1,a2,a3⟩|a
 ·rcases h0 with ⟨_,o0,_,_,b3⟩|⟨b,_⟩
  ·exact .inl ⟨a0,o,a1,a2,wh h1 h2 b3 a3⟩
  ·rw [a0] at b;cases b
 ·exact .inr a
theorem wj{K:Zone}{w:World}{e e':Env}{rr:Bool}{ne sz:Nat}{t:TypeId}{vs:List Value}{x:Ent}(h:Lies K w e (dat rr ne sz t vs) x):Lies K w e' (dat rr ne sz t vs) x:=by
 rcases h with ⟨a0,o,a1,a2,a3⟩|a
 ·obtain⟨q0,cs,fz,tt,q1,q2,q3,q4,q5,q6,q7⟩:=a3
  refine .inl ⟨a0,o,a1,a2,q0,cs,fz,tt,q1,q2,q3,q4,q5,q6,fun i hi s hs=>?_⟩
  obtain⟨v,b1,b2⟩:=q7 i hi s hs
  refine⟨v,?_,b2⟩
  simp only [Tr.at',zo] at hs
  obtain⟨u,_,rfl⟩:=hs
  exact b1
 ·exact .inr a
theorem St.next{K:Zone}{w0 w w1:World}{e e1:Env}{H H1:aK}{nx nx1 r:Nat}{rr:Bool}{ne sz:Nat}{t:TypeId}{vs:List Value}(hS:St K w0 e H nx w)(hle:e.le e1)(hS1:St K w0 e1 H1 nx1 w1)(hr:H1.at' r=some (dat rr ne sz t vs))(h1:nx≤r)(hk: ∀ m,m<nx→H1.at' m=H.at' m) :
 ∃ e2,e.le e2∧St K w0 e2 (H.set nx (dat rr ne sz t vs)) (nx+1) w1∧e2 nx=e1 r:=by
 have hbelow: ∀ m x,e m=some x→m<nx:=fun m x hx=>by
  rcases Nat.lt_or_ge m nx with q|q
  ·exact q
  ·rw [hS.fresh m q] at hx;cases hx
 have hle2:e.le (fun m=>if m<nx then e1 m else if m=nx then e1 r else none):=fun m x hx=>by
  have:=hbelow m x hx
  simp only [if_pos this]
  exact hle m x hx
 obtain⟨xr,hxr,hlr⟩:=hS1.rel r _ hr
 have hget: ∀ m vo,(H.set nx (dat rr ne sz t vs)).at' m=some vo→(m=nx∧vo=dat rr ne sz t vs)∨(m<nx∧H.at' m=some vo):=fun m vo h=>by
  rcases Tr.bE h with ⟨q1,q2⟩|⟨q1,q2⟩
  ·exact .inl ⟨q1,q2⟩
  ·obtain⟨x,hx,_⟩:=hS.rel m vo q2
   exact .inr ⟨hbelow m x hx,q2⟩
 refine⟨fun m=>if m<nx then e1 m else if m=nx then e1 r else none,hle2,⟨hS1.below,fun m vo h=>?_,fun m m' vo vo' x x' g g' gx gx' gne gn gn' gro gro'=>?_,fun i hi=>?_⟩,?_⟩
 ·rcases hget m vo h with ⟨rfl,rfl⟩|⟨q1,q2⟩
  ·refine⟨xr,?_,wj hlr⟩
   simp [hxr]
  ·obtain⟨x0,hx0,hl0⟩:=hS.rel m vo q2
   obtain⟨x,hx,hl⟩:=hS1.rel m vo ((hk m q1).trans q2)
   have:=hle m x0 hx0
   rw [hx] at this
   cases this
   refine⟨_,?_,rv hle hle2 hl0 hl⟩
   simp only [if_pos q1]
   exact hx
 ·change (if m<nx then e1 m else if m=nx then e1 r else none)=some x at gx
  change (if m'<nx then e1 m' else if m'=nx then e1 r else none)=some x' at gx'
  rcases hget m vo g with ⟨rfl,rfl⟩|⟨q1,q2⟩
  ·rcases hget m' vo' g' with ⟨rfl,rfl⟩|⟨p1,p2⟩
   ·exact absurd rfl gne
   ·simp only [Nat.lt_irrefl,if_false,if_true] at gx
    simp only [if_pos p1] at gx'
    exact hS1.inj r m' _ vo' x x' hr ((hk m' p1).trans p2) gx gx' (by omega) gn gn' gro gro'
  ·rw [if_pos q1] at gx
   rcases hget m' vo' g' with ⟨rfl,rfl⟩|⟨p1,p2⟩
   ·rw [if_neg (Nat.lt_irrefl _),if_pos rfl] at gx'
    exact hS1.inj m r vo _ x x' ((hk m q1).trans q2) hr gx gx' (by omega) gn gn' gro gro'
   ·rw [if_pos p1] at gx'
    exact hS1.inj m m' vo vo' x x' ((hk m q1).trans q2) ((hk m' p1).trans p2) gx gx' gne gn gn' gro gro'
 ·show(if i<nx then e1 i else if i=nx then e1 r else none)=none
  rw [if_neg (by omega),if_neg (by omega)]
 ·simp
theorem Fnc.next{f:FuncId}{args:List SV}{H:aK}{nx m:Nat}{rr:Bool}{ne sz:Nat}{t:TypeId}{vs:List Value}(h:Fnc P f args H nx (fun q=> ∃ r',q.1 = .slu r' 0 m∧q.2.1.at' r'=some (dat rr ne sz t vs)∧nx≤r'∧r'<q.2.2∧nx≤q.2.2∧ ∀ n,n<nx→q.2.1.at' n=H.at' n)):Fnc P f args H nx (fun q=>q=(.slu nx 0 m,H.set nx (dat rr ne sz t vs),nx+1)):=by
 have hv: ∀ {e1 e2:Env} {r:Nat} {v:Value},e2 nx=e1 r→(SV.slu r 0 m).conc e1=some v→(SV.slu nx 0 m).conc e2=some v:=fun h1 h2=>by
  simpa [SV.conc,h1] using h2
 unfold Fnc fY at h ⊢
 rcases h with ⟨h1,v,r,h2,⟨r',q1,q2,q3,q4,q5,q6⟩,h4⟩|h
 ·refine .inl ⟨h1,v,_,h2,rfl,fun K w0 e w hS=>?_⟩
  obtain⟨e',g1,g2,g3⟩:=h4 K w0 e w hS
  obtain⟨e2,k1,k2,k3⟩:=hS.next g1 g2 q2 q3 q6
  rw [q1] at g3
  exact⟨e2,k1,k2,hv k3 g3⟩
 ·refine .inr ?_
  split at h
  ·refine⟨fun K w0 e w tmps todo ds kd rof cs hS a2 a3 a4 a5=>?_⟩
   obtain⟨r,⟨r',q1,q2,q3,q4,q5,q6⟩,e',w',v,g1,g2,g3,g4⟩:=Wp.run h K w0 e w tmps todo ds kd rof cs hS a2 a3 a4 a5
   obtain⟨e2,k1,k2,k3⟩:=hS.next g1 g2 q2 q3 q6
   rw [q1] at g3
   exact⟨_,rfl,e2,w',v,k1,k2,hv k3 g3,g4⟩
  ·exact h.elim
end
section
variable {P:Program}
theorem St.drop{K:Zone}{w0 w w1:World}{e e1:Env}{H H1:aK}{nx nx1:Nat}(hS:St K w0 e H nx w)(hle:e.le e1)(hS1:St K w0 e1 H1 nx1 w1)(hk: ∀ m,m<nx→H1.at' m=H.at' m):St K w0 e H nx w1:=by
 refine⟨hS1.below,fun m vo h=>?_,hS.inj,hS.fresh⟩
 obtain⟨x0,hx0,hl0⟩:=hS.rel m vo h
 have hm:m<nx:=by
  rcases Nat.lt_or_ge m nx with q|q
  ·exact q
  ·rw [hS.fresh m q] at hx0;cases hx0
 obtain⟨x,hx,hl⟩:=hS1.rel m vo ((hk m hm).trans h)
 have:=hle m x0 hx0
 rw [hx] at this
 cases this
 exact⟨_,hx0,rv hle (Env.le_refl e) hl0 hl⟩
theorem Fnc.lO{f:FuncId}{args:List SV}{H:aK}{nx:Nat}{v:Value}(h:Fnc P f args H nx (fun q=>q.1 = .sc v∧nx≤q.2.2∧ ∀ n,n<nx→q.2.1.at' n=H.at' n)):Fnc P f args H nx (fun q=>q=(.sc v,H,nx)):=by
 unfold Fnc fY at h ⊢
 rcases h with ⟨h1,u,r,h2,⟨q1,q2,q3⟩,h4⟩|h
 ·refine .inl ⟨h1,u,_,h2,rfl,fun K w0 e w hS=>?_⟩
  obtain⟨e',g1,g2,g3⟩:=h4 K w0 e w hS
  rw [q1] at g3
  exact⟨e,Env.le_refl e,hS.drop g1 g2 q3,g3⟩
 ·refine .inr ?_
  split at h
  ·refine⟨fun K w0 e w tmps todo ds kd rof cs hS a2 a3 a4 a5=>?_⟩
   obtain⟨r,⟨q1,q2,q3⟩,e',w',u,g1,g2,g3,g4⟩:=Wp.run h K w0 e w tmps todo ds kd rof cs hS a2 a3 a4 a5
   rw [q1] at g3
   exact⟨_,rfl,e,w',u,Env.le_refl e,hS.drop g1 g2 q3,g3,g4⟩
  ·exact h.elim
end
end Go.Sy
end
section
namespace Go.Sl
open Go Go.RowKit
theorem mM{K V U:Type} [DecidableEq K](f:V→U)(l:List (K×V))(k:K):a6 (l.map fun x=>(x.1,f x.2)) k=(a6 l k).map f:=by
 induction l with
 | nil=>rfl
 | cons x l ih=>
   rw [zC,ce,ce]
   split <;> simp [ih]
theorem qK{K V U:Type} [DecidableEq K](f:V→U)(l:List (K×V))(k:K)(v:V):(cc l k v).map (fun x=>(x.1,f x.2))=cc (l.map fun x=>(x.1,f x.2)) k (f v):=by
 induction l with
 | nil=>rfl
 | cons x l ih=>
   rw [zC]
   unfold cc
   split
   ·simp
   ·simp [ih]
theorem vI{K V U:Type} [DecidableEq K](f:V→U)(l:List (K×V))(k:K):(eJ l k).map (fun x=>(x.1,f x.2))=eJ (l.map fun x=>(x.1,f x.2)) k:=by
 induction l with
 | nil=>rfl
 | cons x l ih=>
   rw [zC]
   unfold eJ
   split
   ·rfl
   ·simp [ih]
theorem dj{K V:Type} [DecidableEq K]{l:List (K×V)}{k:K}{v:V}(h:a6 l k=some v):k∈l.map (·.1):=by
 obtain⟨A,B,rfl,_⟩:=da h
 simp
theorem qL{K V:Type} [DecidableEq K]{l:List (K×V)}{k:K}(h:k∉l.map (·.1)):a6 l k=none:=by
 cases hg:a6 l k with
 | none=>rfl
 | some v=>exact absurd (dj hg) h
theorem gY{K V:Type} [DecidableEq K]{l:List (K×V)}(hn:(l.map (·.1)).Nodup)(k k':K):a6 (eJ l k) k'=if k=k' then none else a6 l k':=by
 by_cases hk:k=k'
 ·subst hk
  rw [if_pos rfl]
  exact qL (iw hn k).2
 ·rw [if_neg hk]
  clear hn
  induction l with
  | nil=>rfl
  | cons x l ih=>
    unfold eJ
    split
    ·rename_i hx
     rw [ce,if_neg (by rw [hx];exact hk)]
    ·rw [ce,ce,ih]
theorem lh{K V:Type} [DecidableEq K]{l:List (K×V)}{k:K}{v:V}(h:a6 l k=some v)(v':V):(cc l k v').length=l.length:=by
 obtain⟨A,B,rfl,hA⟩:=da h
 rw [ix hA]
 simp
theorem hM{K V:Type} [DecidableEq K]{l:List (K×V)}{k:K}{v:V}(h:a6 l k=some v):(eJ l k).length+1=l.length:=by
 induction l with
 | nil=>cases h
 | cons x l ih=>
   rw [ce] at h
   unfold eJ
   split
   ·simp
   ·rename_i hx
    rw [if_neg hx] at h
    simp only [zD]
    have:=ih h
    omega
theorem jq{K V:Type} [DecidableEq K]{l m:List (K×V)}(hn:(m.map (·.1)).Nodup)(hp:l.Perm m)(k:K):a6 l k=a6 m k:=by
 have hl:(l.map (·.1)).Nodup:=(hp.map (·.1)).nodup_iff.2 hn
 cases hg:a6 m k with
 | none=>
   apply qL
   intro q
   obtain⟨x,hx,e⟩:=List.mem_map.1 q
   have hx2:=hp.mem_iff.1 hx
   have:k∈m.map (·.1):=e ▸ List.mem_map_of_mem hx2
   exact absurd hg (by
    clear hg q hl hp hn hx hx2 x e
    induction m with
    | nil=>simp at this
    | cons y m ih=>
      rw [ce]
      split
      ·simp
      ·rename_i hne
       rw [zC,List.mem_cons] at this
       rcases this with h|h
       ·exact absurd h.symm hne
       ·exact ih h)
 | some v=>
   obtain⟨A,B,rfl,_⟩:=da hg
   have hx:(k,v)∈l:=hp.mem_iff.2 (by simp)
   clear hg hp hn
   induction l with
   | nil=>cases hx
   | cons y l ih=>
     rw [ce]
     rw [zC,List.nodup_cons] at hl
     rcases List.mem_cons.1 hx with rfl|hx
     ·rw [if_pos rfl]
     ·have hne:y.1≠k:=fun e=>hl.1 (by rw [e];exact List.mem_map_of_mem hx)
      rw [if_neg hne]
      exact ih hl.2 hx
theorem mL{K V:Type} [DecidableEq K]{l:List (K×V)}(hn:(l.map (·.1)).Nodup){k:K}{v:V}(h:(k,v)∈l):a6 l k=some v:=by
 induction l with
 | nil=>cases h
 | cons y l ih=>
   rw [ce]
   rw [zC,List.nodup_cons] at hn
   rcases List.mem_cons.1 h with rfl|hx
   ·rw [if_pos rfl]
   ·have hne:y.1≠k:=fun e=>hn.1 (by rw [e];exact List.mem_map_of_mem hx)
    rw [if_neg hne]
    exact ih hn.2 hx
theorem dI{K V:Type} [DecidableEq K]{l:List (K×V)}{k:K}(h:k∈l.map (·.1)): ∃ v,a6 l k=some v:=by
 cases hg:a6 l k with
 | some v=>exact⟨v,rfl⟩
 | none=>
   exfalso
   induction l with
   | nil=>simp at h
   | cons y l ih=>
     rw [ce] at hg
     split at hg
     ·cases hg
     ·rename_i hne
      rw [zC,List.mem_cons] at h
      rcases h with h|h
      ·exact hne h.symm
      ·exact ih h hg
end Go.Sl
end
section
namespace Go.Proofs.Ytbmekelkddllkaa
open Go Go.Sy Go.Sl Go.RowKit
abbrev Sct:={l:List Nat // l.length=256}
def Sct.full(b:Nat):Sct:=⟨List.replicate 256 b,List.length_replicate⟩
structure Sec where
 lasts:Sct
 writes:List Sct
def Sec.has(s:Sec):Sct:=match s.writes.getLast? with
 | some w=>w
 | none=>s.lasts
def Sec.zero:Sec:=⟨Sct.full 0,[]⟩
structure DD where
 cap:Nat
 files:List (ByteArray×List (Int×Sec))
 fuse:Int
 dead:Bool
 changes:Nat
def cb{A B:Type}(l:List (A×List B)):Nat:=(l.map fun x=>x.2.length).sum
def DD.used(D:DD):Nat:=cb D.files
def okC(c:UInt8):Bool:=(97≤c.toNat && c.toNat≤122) || (48≤c.toNat && c.toNat≤57) || c.toNat == 46 || c.toNat == 45
def gZ(s:ByteArray):Bool:=s.data.toList.all okC && decide (1≤s.size) && decide (s.size≤32)
def DD.sec(D:DD)(k:ByteArray)(n:Int):Option Sec:=match a6 D.files k with
 | some m=>a6 m n
 | none=>none
def DD.look(D:DD)(k:ByteArray)(n:Int):Int:=if gZ k=false∨n<0∨65536≤n then 2 else if a6 D.files k=none then 6 else 0
def DD.fits(D:DD)(k:ByteArray)(n:Int):Bool:=(D.sec k n).isSome || decide (D.used<D.cap)
def DD.setFiles(D:DD)(l:List (ByteArray×List (Int×Sec))):DD:={D with files:=l}
def DD.lay(D:DD)(k:ByteArray)(n:Int)(f:Sec→Sec):DD:=match a6 D.files k with
 | some m=>D.setFiles (cc D.files k (cc m n (f ((a6 m n).getD Sec.zero))))
 | none=>D
def DD.gone(D:DD)(k:ByteArray):DD:=D.setFiles (eJ D.files k)
def DD.change(D:DD)(write:Bool)(g:DD→DD):DD×Int:=
 if D.dead=true then(D,8)
 else if D.fuse=0 then(if write=true then g {D with dead:=true,changes:=D.changes+1} else {D with dead:=true,changes:=D.changes+1},8)
 else(g {D with fuse:=if 0<D.fuse then D.fuse-1 else D.fuse,changes:=D.changes+1},0)
def DD.make(D:DD)(k:ByteArray):DD×Int:=
 if gZ k=false then(D,2) else if a6 D.files k≠none then(D,14) else if 32≤D.files.length then(D,5)
 else D.change false fun D=>D.setFiles (cc D.files k [])
def DD.write(D:DD)(k:ByteArray)(n:Int)(s:Sct):DD×Int:=
 if D.look k n≠0 then(D,D.look k n) else if D.fits k n=false then(D,5)
 else D.change true fun D=>D.lay k n fun t=>⟨t.lasts,t.writes ++ [s]⟩
def DD.spoil(D:DD)(k:ByteArray)(n:Int)(s:Sct):DD×Int:=
 if D.look k n≠0 then(D,D.look k n) else if D.fits k n=false then(D,5)
 else(D.lay k n fun _=>⟨s,[]⟩,0)
def jO(m:List (Int×Sec)):List (Int×Sec):=m.map fun x=>(x.1,⟨x.2.has,[]⟩)
def DD.sync(D:DD)(k:ByteArray):DD×Int:=
 if D.look k 0≠0 then(D,D.look k 0)
 else D.change false fun D=>match a6 D.files k with
  | some m=>D.setFiles (cc D.files k (jO m))
  | none=>D
def DD.remove(D:DD)(k:ByteArray):DD×Int:=
 if D.look k 0≠0 then(D,D.look k 0) else D.change false fun D=>D.gone k
def DD.moved(D:DD)(k to:ByteArray):DD:=if k=to then D else match a6 D.files k with
 | some m=>D.setFiles (eJ (cc (eJ D.files to) to m) k)
 | none=>D
def DD.rename(D:DD)(k to:ByteArray):DD×Int:=
 if gZ k=false∨gZ to=false then(D,2) else if a6 D.files k=none then(D,6)
 else D.change false fun D=>D.moved k to
def DD.lay'(D:DD)(n:Int):DD:=if D.dead=true then D else {D with fuse:=if n < -1 then -1 else n}
def DD.read(D:DD)(k:ByteArray)(n:Int):Sct×Int:=if D.look k n≠0 then(Sct.full 0,D.look k n) else((((D.sec k n).map Sec.has).getD (Sct.full 0)),0)
def Sec.calm(s:Sec):Bool:=s.writes.isEmpty
def DD.lasts(D:DD)(k:ByteArray)(n:Int):Bool×Int:=if D.look k n≠0 then(false,D.look k n) else((((D.sec k n).map Sec.calm).getD true),0)
def iN:List (Int×Sec)→Int
 | []=>0
 | x :: l=>if iN l<x.1+1 then x.1+1 else iN l
def DD.count(D:DD)(k:ByteArray):Int:=match a6 D.files k with
 | some m=>iN m
 | none=>0
structure DD.Like (D' D:DD):Prop where
 cap:D'.cap=D.cap
 fuse:D'.fuse=D.fuse
 dead:D'.dead=D.dead
 changes:D'.changes=D.changes
 has: ∀ k,(a6 D'.files k=none↔a6 D.files k=none)∧ ∀ m m',a6 D'.files k=some m'→a6 D.files k=some m→m'.Perm m
 len:D'.files.length=D.files.length
def lost(none:Bool)(s s':Sec):Prop:=s'.writes= []∧(s'.lasts=s.lasts∨none=false∧s'.lasts∈s.writes)
structure DD.Lost (none:Bool) (D D':DD):Prop where
 cap:D'.cap=D.cap
 fuse:D'.fuse = -1
 dead:D'.dead=false
 changes:D'.changes=0
 keys:(D'.files.map (·.1)).Perm (D.files.map (·.1))
 secs: ∀ k m,a6 D.files k=some m→ ∃ m',a6 D'.files k=some m'∧(m'.map (·.1)).Perm (m.map (·.1))∧ ∀ n s,a6 m n=some s→ ∃ s',a6 m' n=some s'∧lost none s s'
structure Fok (l:List (ByteArray×List (Int×Sec))) (cap N:Nat):Prop where
 ndF:(l.map (·.1)).Nodup
 ndS: ∀ k m,a6 l k=some m→(m.map (·.1)).Nodup
 num: ∀ k m,a6 l k=some m→ ∀ x∈m,0≤x.1∧x.1<65536
 name: ∀ k m,a6 l k=some m→gZ k=true
 few:l.length≤32
 used:cb l≤N
 room:cb l≤cap
 wr: ∀ k m n s,a6 l k=some m→a6 m n=some s→s.writes.length≤N
structure DD.Ok (D:DD) (N:Nat):Prop where
 f:Fok D.files D.cap N
 chg:D.changes≤N
 fuse : -1≤D.fuse∧D.fuse≤9223372036854775807
 cap:D.cap≤1048576
theorem eY{A B:Type}{l1 l2:List (A×List B)}:cb (l1 ++ l2)=cb l1+cb l2:=by
 unfold cb
 rw [zF,List.sum_append]
section
variable {A B:Type} [DecidableEq A]
theorem eZ{l:List (A×List B)}{k:A}{m:List B}(h:a6 l k=some m)(m':List B):cb (cc l k m')+m.length=cb l+m'.length:=by
 obtain⟨l1,l2,rfl,h2⟩:=da h
 rw [ix h2,eY,eY]
 simp only [cb,zC,List.sum_cons]
 omega
theorem gL{l:List (A×List B)}{k:A}(h:a6 l k=none)(m':List B):cb (cc l k m')=cb l+m'.length:=by
 rw [mK (cq.1 h),eY]
 simp [cb]
theorem ji{l:List (A×List B)}{k:A}{m:List B}(h:a6 l k=some m):cb (eJ l k)+m.length=cb l:=by
 obtain⟨l1,l2,rfl,h2⟩:=da h
 rw [iy h2,eY,eY]
 simp only [cb,zC,List.sum_cons]
 omega
theorem mT{l:List (A×B)}{k:A}{m:B}(h:a6 l k=some m)(m':B):(cc l k m').length=l.length:=lh h m'
theorem li{l:List (A×B)}{k:A}(h:a6 l k=none)(m':B):(cc l k m').length=l.length+1:=by
 rw [mK (cq.1 h)]
 simp
theorem db{l:List (A×B)}(hn:(l.map (·.1)).Nodup){k k':A}{m:B}(h:a6 (eJ l k) k'=some m):k≠k'∧a6 l k'=some m:=by
 rw [gY hn] at h
 split at h
 ·cases h
 ·exact⟨by assumption,h⟩
theorem oC{C:Type}(f:B→C)(l:List (A×B))(k:A):a6 (l.map fun x=>(x.1,f x.2)) k=(a6 l k).map f:=mM f l k
end
theorem Fok.mono{l:List (ByteArray×List (Int×Sec))}{cap N M:Nat}(h:Fok l cap N)(hN:N≤M):Fok l cap M:=
 ⟨h.ndF,h.ndS,h.num,h.name,h.few,zI h.used hN,h.room,fun k m n s h1 h2=>zI (h.wr k m n s h1 h2) hN⟩
theorem Fok.nil{cap N:Nat}:Fok [] cap N:=⟨by simp,fun _ _ h=>by simp [dZ] at h,fun _ _ h=>by simp [dZ] at h,fun _ _ h=>by simp [dZ] at h,by simp,by simp [cb],by simp [cb],fun _ _ _ _ h=>by simp [dZ] at h⟩
theorem Fok.make{l:List (ByteArray×List (Int×Sec))}{cap N:Nat}(h:Fok l cap N){k:ByteArray}(hk:gZ k=true)(hg:a6 l k=none)(hl:l.length<32):Fok (cc l k []) cap N:=by
 have hp: ∀ k' m,a6 (cc l k []) k'=some m→(k=k'∧m= [])∨a6 l k'=some m:=fun k' m hm=>by
  rw [bX] at hm
  split at hm
  ·cases hm;exact .inl ⟨by assumption,rfl⟩
  ·exact .inr hm
 refine⟨fM h.ndF _ _,fun k' m hm=>?_,fun k' m hm=>?_,fun k' m hm=>?_,by rw [li hg];exact hl,by rw [gL hg];exact h.used,by rw [gL hg];exact h.room,fun k' m n s hm hs=>?_⟩
 ·rcases hp k' m hm with ⟨_,rfl⟩|hm
  ·simp
  ·exact h.ndS k' m hm
 ·rcases hp k' m hm with ⟨_,rfl⟩|hm
  ·intro x hx;cases hx
  ·exact h.num k' m hm
 ·rcases hp k' m hm with ⟨rfl,_⟩|hm
  ·exact hk
  ·exact h.name k' m hm
 ·rcases hp k' m hm with ⟨_,rfl⟩|hm
  ·simp [dZ] at hs
  ·exact h.wr k' m n s hm hs
theorem Fok.put{l:List (ByteArray×List (Int×Sec))}{cap N M:Nat}(h:Fok l cap N)(hN:N≤M){k:ByteArray}{m m':List (Int×Sec)}(hg:a6 l k=some m)(h1:(m'.map (·.1)).Nodup)(h2: ∀ x∈m',0≤x.1∧x.1<65536)(h3: ∀ n s,a6 m' n=some s→s.writes.length≤M)(h4:cb (cc l k m')≤M)(h5:cb (cc l k m')≤cap):Fok (cc l k m') cap M:=by
 have hp: ∀ k' m2,a6 (cc l k m') k'=some m2→(k=k'∧m2=m')∨a6 l k'=some m2:=fun k' m2 hm=>by
  rw [bX] at hm
  split at hm
  ·cases hm;exact .inl ⟨by assumption,rfl⟩
  ·exact .inr hm
 refine⟨fM h.ndF _ _,fun k' m2 hm=>?_,fun k' m2 hm=>?_,fun k' m2 hm=>?_,by rw [mT hg];exact h.few,h4,h5,fun k' m2 n s hm hs=>?_⟩
 ·rcases hp k' m2 hm with ⟨_,rfl⟩|hm
  ·exact h1
  ·exact h.ndS k' m2 hm
 ·rcases hp k' m2 hm with ⟨_,rfl⟩|hm
  ·exact h2
  ·exact h.num k' m2 hm
 ·rcases hp k' m2 hm with ⟨rfl,_⟩|hm
  ·exact h.name _ m hg
  ·exact h.name k' m2 hm
 ·rcases hp k' m2 hm with ⟨_,rfl⟩|hm
  ·exact h3 n s hs
  ·exact zI (h.wr k' m2 n s hm hs) hN
theorem Fok.lay{l:List (ByteArray×List (Int×Sec))}{cap N:Nat}(h:Fok l cap N){k:ByteArray}{m:List (Int×Sec)}(hg:a6 l k=some m){n:Int}(hn:0≤n∧n<65536)(hf:a6 m n≠none∨cb l<cap){s:Sec}(hs:s.writes.length≤N+1):Fok (cc l k (cc m n s)) cap (N+1):=by
 have hsz:=eZ hg (cc m n s)
 have hu:=h.used
 have hr:=h.room
 have hlen:(cc m n s).length=m.length∨(cc m n s).length=m.length+1∧cb l<cap:=by
  cases hm:a6 m n with
  | some x=>exact .inl (mT hm s)
  | none=>exact .inr ⟨li hm s,hf.resolve_left (fun q=>q hm)⟩
 refine h.put (zJ _) hg (fM (h.ndS k m hg) _ _) (fun x hx=>?_) (fun n' s' hs'=>?_) (by omega) (by omega)
 ·have:x.1=n∨x.1∈m.map (·.1):=qM.1 (List.mem_map_of_mem hx)
  rcases this with e|e
  ·rw [e];exact hn
  ·obtain⟨y,hy,hyx⟩:=List.mem_map.1 e
   rw [← hyx];exact h.num k m hg y hy
 ·rw [bX] at hs'
  split at hs'
  ·cases hs';exact hs
  ·exact Nat.le_succ_of_le (h.wr k m n' s' hg hs')
theorem Fok.sync{l:List (ByteArray×List (Int×Sec))}{cap N:Nat}(h:Fok l cap N){k:ByteArray}{m:List (Int×Sec)}(hg:a6 l k=some m):Fok (cc l k (jO m)) cap N:=by
 have hl:(jO m).length=m.length:=by simp [jO]
 have hsz:=eZ hg (jO m)
 have hu:=h.used
 have hr:=h.room
 have hk:(jO m).map (·.1)=m.map (·.1):=by simp [jO,Function.comp_def]
 refine h.put (zA _) hg (by rw [hk];exact h.ndS k m hg) (fun x hx=>?_) (fun n' s' hs'=>?_) (by omega) (by omega)
 ·obtain⟨y,hy,rfl⟩:=List.mem_map.1 hx
  exact h.num k m hg y hy
 ·have:a6 (jO m) n'=(a6 m n').map fun s=>⟨s.has,[]⟩:=oC (fun s:Sec=>(⟨s.has,[]⟩:Sec)) m n'
  rw [this] at hs'
  obtain⟨s,_,rfl⟩:=zo.1 hs'
  exact zB _
theorem vH{K V:Type} [DecidableEq K](l:List (K×V))(k:K):(eJ l k).length≤l.length:=by
 cases h:a6 l k with
 | none=>rw [lc (cq.1 h)];exact zA _
 | some v=>have:=hM h;omega
theorem kc{l:List (ByteArray×List (Int×Sec))}{k:ByteArray}:cb (eJ l k)≤cb l:=by
 cases h:a6 l k with
 | none=>rw [lc (cq.1 h)];exact zA _
 | some v=>have:=ji h;omega
theorem Fok.gone{l:List (ByteArray×List (Int×Sec))}{cap N:Nat}(h:Fok l cap N)(k:ByteArray):Fok (eJ l k) cap N:=
 ⟨(iw h.ndF k).1,fun k' m hm=>h.ndS k' m (db h.ndF hm).2,fun k' m hm=>h.num k' m (db h.ndF hm).2,fun k' m hm=>h.name k' m (db h.ndF hm).2,zI (vH l k) h.few,zI kc h.used,zI kc h.room,fun k' m n s hm=>h.wr k' m n s (db h.ndF hm).2⟩
theorem Fok.moved{l:List (ByteArray×List (Int×Sec))}{cap N:Nat}(h:Fok l cap N){k to:ByteArray}{m:List (Int×Sec)}(hg:a6 l k=some m)(hne:k≠to)(ht:gZ to=true):Fok (eJ (cc (eJ l to) to m) k) cap N:=by
 have h1:=h.gone to
 have hto:a6 (eJ l to) to=none:=by rw [gY h.ndF];simp
 have hk:a6 (eJ l to) k=some m:=by rw [gY h.ndF,if_neg (fun e=>hne e.symm)];exact hg
 have hkm:a6 (cc (eJ l to) to m) k=some m:=by rw [bX,if_neg (fun e=>hne e.symm)];exact hk
 have hnd:=fM h1.ndF to m
 have hlen:=hM hkm
 rw [li hto] at hlen
 have hsz:=ji hkm
 rw [gL hto] at hsz
 have hfew:=h1.few
 have hused:=h1.used
 have hroom:=h1.room
 have hp: ∀ k' m2,a6 (eJ (cc (eJ l to) to m) k) k'=some m2→(to=k'∧m2=m)∨a6 (eJ l to) k'=some m2:=fun k' m2 hm=>by
  have:=(db hnd hm).2
  rw [bX] at this
  split at this
  ·cases this;exact .inl ⟨by assumption,rfl⟩
  ·exact .inr this
 refine⟨(iw hnd k).1,fun k' m2 hm=>?_,fun k' m2 hm=>?_,fun k' m2 hm=>?_,by omega,by omega,by omega,fun k' m2 n s hm hs=>?_⟩
 ·rcases hp k' m2 hm with ⟨_,rfl⟩|hm
  ·exact h.ndS _ _ hg
  ·exact h1.ndS k' m2 hm
 ·rcases hp k' m2 hm with ⟨_,rfl⟩|hm
  ·exact h.num _ _ hg
  ·exact h1.num k' m2 hm
 ·rcases hp k' m2 hm with ⟨rfl,_⟩|hm
  ·exact ht
  ·exact h1.name k' m2 hm
 ·rcases hp k' m2 hm with ⟨_,rfl⟩|hm
  ·exact h.wr _ _ n s hg hs
  ·exact h1.wr k' m2 n s hm hs
end Go.Proofs.Ytbmekelkddllkaa
end
