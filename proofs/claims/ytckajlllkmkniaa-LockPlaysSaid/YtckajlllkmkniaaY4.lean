import Derived.Test.YtckajlllkmkniaaY3
set_option linter.unusedVariables false
set_option linter.unusedSimpArgs false
set_option maxRecDepth 100000
set_option maxHeartbeats 0
section
namespace Go.Proofs.Ytckajlllkmkniaa
open Go.Sl
structure LT where
 locks:List (ByteArray×(Nat×List Nat))
 parties:List (Nat×(List ByteArray×ByteArray))
def LT.empty:LT:=⟨[],[]⟩
def LT.has(T:LT)(k:ByteArray):Nat:=match bE T.locks k with|some (o,_)=>o|none=>0
def LT.line(T:LT)(k:ByteArray):List Nat:=match bE T.locks k with|some (_,l)=>l|none=> []
def LT.keys(T:LT)(o:Nat):List ByteArray:=match bE T.parties o with|some (ks,_)=>ks|none=> []
def LT.waits(T:LT)(o:Nat):ByteArray:=match bE T.parties o with|some (_,w)=>w|none=>⟨#[]⟩
def LT.chase(T:LT)(o:Nat):Nat→Nat→Option Bool
 | 0,_=>none
 | n+1,who=>
   if who=o then some true else
   match bE T.parties who with
   | none=>some false
   | some (_,w)=>if w.size=0 then some false else
     match bE T.locks w with
     | none=>none
     | some (h,_)=>T.chase o n h
def LT.ask(T:LT)(o:Nat)(k:ByteArray):LT×Int:=
 if o=0∨k.size=0∨32<k.size then(T,2) else
 if(T.waits o).size≠0 then(T,7) else
 match bE T.locks k with
 | none=>
   (⟨ca T.locks k (o,[]),ca T.parties o (T.keys o ++ [k],⟨#[]⟩)⟩,0)
 | some (h,l)=>
   if h=o then(T,0) else
   if T.chase o (T.parties.length+1) h=some true then(T,10) else
   (⟨ca T.locks k (h,l ++ [o]),ca T.parties o (T.keys o,k)⟩,9)
def LT.letGo(T:LT)(k:ByteArray):LT×Nat:=
 match bE T.locks k with
 | some (_,n :: rest)=>
   (⟨ca T.locks k (n,rest),ca T.parties n (T.keys n ++ [k],⟨#[]⟩)⟩,n)
 | _=>(⟨dO T.locks k,T.parties⟩,0)
def LT.safeLetGo(T:LT)(k:ByteArray):Prop:=
 ∃ ow l,bE T.locks k=some (ow,l)∧l.length<1000000∧ ∀ n rest,l=n :: rest→n≠0∧(∃ p,bE T.parties n=some p)∧(T.keys n).length<999999
def LT.pop(T:LT)(o:Nat):LT:=⟨T.locks,ca T.parties o ((T.keys o).dropLast,T.waits o)⟩
def LT.li(o:Nat):Nat→LT→Prop
 | 0,_=>True
 | n+1,T=> ∃ k,(T.keys o).getLast? =some k∧(T.pop o).safeLetGo k∧(∃ p,bE ((T.pop o).letGo k).1.parties o=some p)∧(((T.pop o).letGo k).1.keys o).length+1=(T.keys o).length∧LT.li o n ((T.pop o).letGo k).1
def LT.pops(o:Nat):Nat→LT→List Nat→LT×List Nat
 | 0,T,came=>(T,came)
 | n+1,T,came=>
   match (T.keys o).getLast? with
   | none=>(T,came)
   | some k=>
     LT.pops o n ((T.pop o).letGo k).1 (if((T.pop o).letGo k).2=0 then came else came ++ [((T.pop o).letGo k).2])
def LT.leave(T:LT)(o:Nat):LT:=
 if(T.waits o).size=0 then T else
 match bE T.locks (T.waits o)with
 | none=>T
 | some (h,l)=>⟨ca T.locks (T.waits o) (h,l.erase o),ca T.parties o (T.keys o,⟨#[]⟩)⟩
def LT.back(T:LT)(o:Nat)(mark:Int):LT×List Nat×Int:=
 if o=0∨mark<0∨(T.keys o).length<mark then(T,[],2) else
 match bE T.parties o with
 | none=>(T,[],0)
 | some _=>
   let T1:=T.leave o
   let (T2,came):=LT.pops o ((T1.keys o).length-mark.toNat) T1 []
   (if(T2.keys o).length=0 then⟨T2.locks,dO T2.parties o⟩ else T2,came,0)
theorem qn{K V U:Type} [DecidableEq K](f:V→U)(l:List (K×V))(k:K):bE (l.map fun x=>(x.1,f x.2)) k=(bE l k).map f:=by
 induction l with
 | nil=>rfl
 | cons x l ih=>
   rw [zR,cq,cq]
   split <;> simp [ih]
theorem qm{K V U:Type} [DecidableEq K](f:V→U)(l:List (K×V))(k:K)(v:V):(ca l k v).map (fun x=>(x.1,f x.2))=ca (l.map fun x=>(x.1,f x.2)) k (f v):=by
 induction l with
 | nil=>rfl
 | cons x l ih=>
   rw [zR]
   unfold ca
   split
   ·simp
   ·simp [ih]
theorem qq{K V U:Type} [DecidableEq K](f:V→U)(l:List (K×V))(k:K):(dO l k).map (fun x=>(x.1,f x.2))=dO (l.map fun x=>(x.1,f x.2)) k:=by
 induction l with
 | nil=>rfl
 | cons x l ih=>
   rw [zR]
   unfold dO
   split
   ·rfl
   ·simp [ih]
theorem dW{A:Type} [DecidableEq A]: ∀ (l m:List A),l.Nodup→(∀ x∈l,x∈m)→l.length≤m.length
 | [],m,_,_=>zQ _
 | a :: l,m,hn,hs=>by
   rw [List.nodup_cons] at hn
   have ha:=hs a (List.mem_cons_self ..)
   have:=dW l (m.erase a) hn.2 (fun x hx=>by
    have hne:x≠a:=by rintro rfl;exact hn.1 hx
    exact(List.mem_erase_of_ne hne).2 (hs x (List.mem_cons_of_mem _ hx)))
   rw [List.length_erase_of_mem ha] at this
   have hp:0<m.length:=List.length_pos_of_mem ha
   simp only [zS]
   omega
theorem gk{K V:Type} [DecidableEq K]{l:List (K×V)}{k:K}{v:V}(h:bE l k=some v):k∈l.map (·.1):=by
 obtain⟨A,B,rfl,_⟩:=bH h
 simp
theorem mz{K V:Type} [DecidableEq K]{l:List (K×V)}{k:K}(h:k∉l.map (·.1)):bE l k=none:=by
 cases hg:bE l k with
 | none=>rfl
 | some v=>exact absurd (gk hg) h
theorem cZ{K V:Type} [DecidableEq K]{l:List (K×V)}(hn:(l.map (·.1)).Nodup)(k k':K):bE (dO l k) k'=if k=k' then none else bE l k':=by
 by_cases hk:k=k'
 ·subst hk
  rw [if_pos rfl]
  exact mz (ic hn k).2
 ·rw [if_neg hk]
  clear hn
  induction l with
  | nil=>rfl
  | cons x l ih=>
    unfold dO
    split
    ·rename_i hx
     rw [cq,if_neg (by rw [hx];exact hk)]
    ·rw [cq,cq,ih]
def LT.Down(T:LT)(rank:Nat→Nat):Prop:=
 ∀ o ks w,bE T.parties o=some (ks,w)→w.size≠0→ ∃ h l,bE T.locks w=some (h,l)∧rank h<rank o
theorem LT.lk{T:LT}{rank:Nat→Nat}(hr:T.Down rank)(o:Nat): ∀ (n who:Nat) (vis:List Nat),vis.Nodup→(∀ x∈vis,x∈T.parties.map (·.1)∧rank who<rank x)→T.parties.length<n+vis.length→ ∃ b,T.chase o n who=some b
 | 0,who,vis,hn,hv,hl=>by
   have:=dW vis (T.parties.map (·.1)) hn (fun x hx=>(hv x hx).1)
   rw [List.length_map] at this
   omega
 | n+1,who,vis,hn,hv,hl=>by
   unfold LT.chase
   split
   ·exact⟨_,rfl⟩
   ·cases hp:bE T.parties who with
    | none=>exact⟨_,rfl⟩
    | some p=>
      obtain⟨ks,w⟩:=p
      simp only
      split
      ·exact⟨_,rfl⟩
      ·rename_i hw
       obtain⟨h,l,hg,hlt⟩:=hr who ks w hp hw
       rw [hg]
       simp only
       refine LT.lk hr o n h (who :: vis) ?_ ?_ (by simp only [zS];omega)
       ·rw [List.nodup_cons]
        exact⟨fun hm=>Nat.lt_irrefl _ (hv who hm).2,hn⟩
       ·intro x hx
        rcases List.mem_cons.1 hx with rfl|hx
        ·exact⟨gk hp,hlt⟩
        ·exact⟨(hv x hx).1,Nat.lt_trans hlt (hv x hx).2⟩
structure LT.WF (T:LT):Prop where
 own: ∀ k o l,bE T.locks k=some (o,l)→k.size≠0∧o≠0∧(∃ ks w,bE T.parties o=some (ks,w)∧k∈ks)∧l.Nodup∧ ∀ x∈l,x≠0∧x≠o∧ ∃ ks,bE T.parties x=some (ks,k)
 par: ∀ o ks w,bE T.parties o=some (ks,w)→o≠0∧ks.Nodup∧(∀ k∈ks,∃ l,bE T.locks k=some (o,l))∧(w.size≠0→ ∃ h l,bE T.locks w=some (h,l)∧o∈l)
 down: ∃ rank,T.Down rank
theorem LT.WF.empty:LT.empty.WF:=⟨fun k o l h=>by simp [LT.empty,gj] at h,fun o ks w h=>by simp [LT.empty,gj] at h,fun _=>0,fun o ks w h=>by simp [LT.empty,gj] at h⟩
theorem LT.WF.chase{T:LT}(h:T.WF)(o who:Nat): ∃ b,T.chase o (T.parties.length+1) who=some b:=by
 obtain⟨rank,hr⟩:=h.down
 exact LT.lk hr o _ who [] List.nodup_nil (by simp) (by simp)
theorem LT.WF.keys_le{T:LT}(h:T.WF)(o:Nat):(T.keys o).length≤T.locks.length:=by
 unfold LT.keys
 cases hp:bE T.parties o with
 | none=>simp
 | some p=>
   obtain⟨ks,w⟩:=p
   obtain⟨_,hn,hk,_⟩:=h.par o ks w hp
   have:=dW ks (T.locks.map (·.1)) hn (fun k hm=>by obtain⟨l,hl⟩:=hk k hm;exact gk hl)
   simpa using this
theorem LT.WF.line_le{T:LT}(h:T.WF)(k:ByteArray):(T.line k).length≤T.parties.length:=by
 unfold LT.line
 cases hp:bE T.locks k with
 | none=>simp
 | some p=>
   obtain⟨o,l⟩:=p
   obtain⟨_,_,_,hn,hl⟩:=h.own k o l hp
   have:=dW l (T.parties.map (·.1)) hn (fun x hm=>by obtain⟨_,_,ks,hx⟩:=hl x hm;exact gk hx)
   simpa using this
theorem LT.WF.newKey{T:LT}(h:T.WF){o:Nat}{k:ByteArray}(ho:o≠0)(hk:k.size≠0)(hw:(T.waits o).size=0)(hg:bE T.locks k=none) :
 (⟨ca T.locks k (o,[]),ca T.parties o (T.keys o ++ [k],⟨#[]⟩)⟩:LT).WF:=by
 have hold: ∀ ks w,bE T.parties o=some (ks,w)→T.keys o=ks∧w.size=0:=by
  intro ks w hp
  unfold LT.waits at hw
  rw [hp] at hw
  exact⟨by unfold LT.keys;rw [hp],hw⟩
 have hin: ∀ k',k'∈T.keys o→ ∃ l,bE T.locks k'=some (o,l):=by
  intro k' hm
  unfold LT.keys at hm
  cases hp:bE T.parties o with
  | none=>rw [hp] at hm;simp at hm
  | some p=>rw [hp] at hm;exact(h.par o p.1 p.2 hp).2.2.1 k' hm
 have hnd:(T.keys o).Nodup:=by
  unfold LT.keys
  cases hp:bE T.parties o with
  | none=>exact List.nodup_nil
  | some p=>exact(h.par o p.1 p.2 hp).2.1
 refine⟨?_,?_,?_⟩
 ·intro k' o' l' hm
  simp only [bw] at hm ⊢
  by_cases hkk:k=k'
  ·rw [if_pos hkk] at hm
   simp only [zw,zE] at hm
   obtain⟨rfl,rfl⟩:=hm
   subst hkk
   exact⟨hk,ho,⟨_,_,if_pos rfl,by simp⟩,List.nodup_nil,by simp⟩
  ·rw [if_neg hkk] at hm
   obtain⟨a1,a2,⟨ks,w,a3,a4⟩,a5,a6⟩:=h.own k' o' l' hm
   refine⟨a1,a2,?_,a5,fun x hx=>?_⟩
   ·by_cases hoo:o=o'
    ·subst hoo
     exact⟨_,_,if_pos rfl,by rw [(hold ks w a3).1];simp [a4]⟩
    ·exact⟨ks,w,by rw [if_neg hoo];exact a3,a4⟩
   ·obtain⟨b1,b2,ks',b3⟩:=a6 x hx
    have hox:o≠x:=by rintro rfl;exact a1 (hold _ _ b3).2
    exact⟨b1,b2,ks',by rw [if_neg hox];exact b3⟩
 ·intro o' ks w hp
  simp only [bw] at hp ⊢
  by_cases hoo:o=o'
  ·subst hoo
   rw [if_pos rfl] at hp
   simp only [zw,zE] at hp
   obtain⟨rfl,rfl⟩:=hp
   refine⟨ho,?_,?_,fun hws=>absurd rfl hws⟩
   ·rw [List.nodup_append]
    refine⟨hnd,by simp,?_⟩
    intro a ha b hb
    simp only [List.mem_singleton] at hb
    subst hb
    rintro rfl
    obtain⟨l,hl⟩:=hin _ ha
    rw [hg] at hl
    cases hl
   ·intro k' hm
    by_cases hkk:k=k'
    ·exact⟨[],by rw [if_pos hkk]⟩
    ·rw [List.mem_append] at hm
     rcases hm with hm|hm
     ·obtain⟨l,hl⟩:=hin _ hm
      exact⟨l,by rw [if_neg hkk];exact hl⟩
     ·simp only [List.mem_singleton] at hm
      exact absurd hm.symm hkk
  ·rw [if_neg hoo] at hp
   obtain⟨a1,a2,a3,a4⟩:=h.par o' ks w hp
   refine⟨a1,a2,fun k' hm=>?_,fun hws=>?_⟩
   ·obtain⟨l,hl⟩:=a3 k' hm
    have hkk:k≠k':=by rintro rfl;rw [hg] at hl;cases hl
    exact⟨l,by rw [if_neg hkk];exact hl⟩
   ·obtain⟨hh,l,hl,hx⟩:=a4 hws
    have hkk:k≠w:=by rintro rfl;rw [hg] at hl;cases hl
    exact⟨hh,l,by rw [if_neg hkk];exact hl,hx⟩
 ·obtain⟨rank,hr⟩:=h.down
  refine⟨rank,fun o' ks w hp hws=>?_⟩
  simp only [bw] at hp ⊢
  by_cases hoo:o=o'
  ·rw [if_pos hoo] at hp
   simp only [zw,zE] at hp
   obtain⟨_,rfl⟩:=hp
   exact absurd rfl hws
  ·rw [if_neg hoo] at hp
   obtain⟨hh,l,hl,hx⟩:=hr o' ks w hp hws
   have hkk:k≠w:=by rintro rfl;rw [hg] at hl;cases hl
   exact⟨hh,l,by rw [if_neg hkk];exact hl,hx⟩
theorem LT.lj{T:LT}(o:Nat): ∀ (n who:Nat) (b:Bool),T.chase o n who=some b→T.chase o (n+1) who=some b
 | 0,who,b,h=>by unfold LT.chase at h;cases h
 | n+1,who,b,h=>by
   unfold LT.chase at h ⊢
   split at h
   ·rename_i he;rw [if_pos he];exact h
   ·rename_i he
    rw [if_neg he]
    cases hp:bE T.parties who with
    | none=>rw [hp] at h;exact h
    | some p=>
      obtain⟨ks,w⟩:=p
      rw [hp] at h
      simp only at h ⊢
      split at h
      ·rename_i hw;rw [if_pos hw];exact h
      ·rename_i hw
       rw [if_neg hw]
       cases hg:bE T.locks w with
       | none=>rw [hg] at h;cases h
       | some q=>
         rw [hg] at h
         exact LT.lj o n q.1 b h
theorem LT.iw{T:LT}{o n who:Nat}{b:Bool}(h:T.chase o n who=some b): ∀ m,T.chase o (n+m) who=some b
 | 0=>h
 | m+1=>LT.lj o (n+m) who b (LT.iw h m)
theorem LT.rU{T:LT}{o n m who:Nat}{b c:Bool}(h:T.chase o n who=some b)(h':T.chase o m who=some c):b=c:=by
 have h1:=LT.iw h m
 have h2:=LT.iw h' n
 rw [Nat.add_comm] at h2
 rw [h1] at h2
 exact Option.some.inj h2
open Classical in
theorem LT.Down.wait{T:LT}{rank:Nat→Nat}(hr:T.Down rank){o h n:Nat}{k:ByteArray}{l:List Nat}(hg:bE T.locks k=some (h,l))(hc:T.chase o n h=some false) :
 ∃ rank',LT.Down ⟨ca T.locks k (h,l ++ [o]),ca T.parties o (T.keys o,k)⟩ rank':=by
 have hPh: ¬ ∃ n,T.chase o n h=some true:=by
  rintro⟨m,hm⟩
  have:=LT.rU hc hm
  cases this
 have hPo: ∃ n,T.chase o n o=some true:=⟨1,by unfold LT.chase;rw [if_pos rfl]⟩
 refine⟨fun x=>rank x+(if ∃ n,T.chase o n x=some true then rank h+1 else 0),fun o' ks w hp hws=>?_⟩
 simp only [bw] at hp ⊢
 by_cases hoo:o=o'
 ·subst hoo
  rw [if_pos rfl] at hp
  simp only [zw,zE] at hp
  obtain⟨_,rfl⟩:=hp
  exact⟨h,l ++ [o],if_pos rfl,by rw [if_neg hPh,if_pos hPo];omega⟩
 ·rw [if_neg hoo] at hp
  obtain⟨hh,l',hl,hx⟩:=hr o' ks w hp hws
  have hlt:rank hh+(if ∃ n,T.chase o n hh=some true then rank h+1 else 0)<rank o'+(if ∃ n,T.chase o n o'=some true then rank h+1 else 0):=by
   by_cases hy: ∃ n,T.chase o n hh=some true
   ·have hx': ∃ n,T.chase o n o'=some true:=by
     obtain⟨m,hm⟩:=hy
     refine⟨m+1,?_⟩
     unfold LT.chase
     rw [if_neg (Ne.symm hoo),hp]
     simp only
     rw [if_neg hws,hl]
     exact hm
    rw [if_pos hy,if_pos hx'];omega
   ·rw [if_neg hy];omega
  by_cases hkk:k=w
  ·subst hkk
   rw [hg] at hl
   simp only [zw,zE] at hl
   obtain⟨rfl,rfl⟩:=hl
   exact⟨h,l ++ [o],if_pos rfl,hlt⟩
  ·exact⟨hh,l',by rw [if_neg hkk];exact hl,hlt⟩
theorem LT.WF.wait{T:LT}(H:T.WF){o h n:Nat}{k:ByteArray}{l:List Nat}(ho:o≠0)(hw:(T.waits o).size=0)(hg:bE T.locks k=some (h,l))(hne:h≠o)(hc:T.chase o n h=some false) :
 (⟨ca T.locks k (h,l ++ [o]),ca T.parties o (T.keys o,k)⟩:LT).WF:=by
 have hold: ∀ ks w,bE T.parties o=some (ks,w)→T.keys o=ks∧w.size=0:=by
  intro ks w hp
  unfold LT.waits at hw
  rw [hp] at hw
  exact⟨by unfold LT.keys;rw [hp],hw⟩
 have hin: ∀ k',k'∈T.keys o→ ∃ l,bE T.locks k'=some (o,l):=by
  intro k' hm
  unfold LT.keys at hm
  cases hp:bE T.parties o with
  | none=>rw [hp] at hm;simp at hm
  | some p=>rw [hp] at hm;exact(H.par o p.1 p.2 hp).2.2.1 k' hm
 have hnd:(T.keys o).Nodup:=by
  unfold LT.keys
  cases hp:bE T.parties o with
  | none=>exact List.nodup_nil
  | some p=>exact(H.par o p.1 p.2 hp).2.1
 obtain⟨k1,k2,⟨kks,kw,k3,k4⟩,k5,k6⟩:=H.own k h l hg
 refine⟨?_,?_,?_⟩
 ·intro k' o' l' hm
  simp only [bw] at hm ⊢
  by_cases hkk:k=k'
  ·rw [if_pos hkk] at hm
   simp only [zw,zE] at hm
   obtain⟨rfl,rfl⟩:=hm
   subst hkk
   refine⟨k1,k2,⟨kks,kw,by rw [if_neg (Ne.symm hne)];exact k3,k4⟩,?_,?_⟩
   ·rw [List.nodup_append]
    refine⟨k5,by simp,?_⟩
    intro a ha b hb
    simp only [List.mem_singleton] at hb
    subst hb
    rintro rfl
    obtain⟨_,_,ks,hx⟩:=k6 _ ha
    exact k1 (hold _ _ hx).2
   ·intro x hx
    rw [List.mem_append] at hx
    rcases hx with hx|hx
    ·obtain⟨b1,b2,ks,b3⟩:=k6 x hx
     have hox:o≠x:=by rintro rfl;exact k1 (hold _ _ b3).2
     exact⟨b1,b2,ks,by rw [if_neg hox];exact b3⟩
    ·simp only [List.mem_singleton] at hx
     subst hx
     exact⟨ho,Ne.symm hne,_,if_pos rfl⟩
  ·rw [if_neg hkk] at hm
   obtain⟨a1,a2,⟨ks,w,a3,a4⟩,a5,a6⟩:=H.own k' o' l' hm
   refine⟨a1,a2,?_,a5,fun x hx=>?_⟩
   ·by_cases hoo:o=o'
    ·subst hoo
     exact⟨_,_,if_pos rfl,by rw [(hold ks w a3).1];exact a4⟩
    ·exact⟨ks,w,by rw [if_neg hoo];exact a3,a4⟩
   ·obtain⟨b1,b2,ks',b3⟩:=a6 x hx
    have hox:o≠x:=by rintro rfl;exact a1 (hold _ _ b3).2
    exact⟨b1,b2,ks',by rw [if_neg hox];exact b3⟩
 ·intro o' ks w hp
  simp only [bw] at hp ⊢
  by_cases hoo:o=o'
  ·subst hoo
   rw [if_pos rfl] at hp
   simp only [zw,zE] at hp
   obtain⟨rfl,rfl⟩:=hp
   refine⟨ho,hnd,fun k' hm=>?_,fun _=>⟨h,l ++ [o],if_pos rfl,by simp⟩⟩
   obtain⟨l',hl⟩:=hin _ hm
   have hkk:k≠k':=by
    rintro rfl
    rw [hg] at hl
    simp only [zw,zE] at hl
    exact hne hl.1
   exact⟨l',by rw [if_neg hkk];exact hl⟩
  ·rw [if_neg hoo] at hp
   obtain⟨a1,a2,a3,a4⟩:=H.par o' ks w hp
   refine⟨a1,a2,fun k' hm=>?_,fun hws=>?_⟩
   ·obtain⟨l',hl⟩:=a3 k' hm
    by_cases hkk:k=k'
    ·subst hkk
     rw [hg] at hl
     simp only [zw,zE] at hl
     obtain⟨rfl,rfl⟩:=hl
     exact⟨l ++ [o],if_pos rfl⟩
    ·exact⟨l',by rw [if_neg hkk];exact hl⟩
   ·obtain⟨hh,l',hl,hx⟩:=a4 hws
    by_cases hkk:k=w
    ·subst hkk
     rw [hg] at hl
     simp only [zw,zE] at hl
     obtain⟨rfl,rfl⟩:=hl
     exact⟨h,l ++ [o],if_pos rfl,List.mem_append_left _ hx⟩
    ·exact⟨hh,l',by rw [if_neg hkk];exact hl,hx⟩
 ·obtain⟨rank,hr⟩:=H.down
  exact hr.wait hg hc
theorem LT.WF.ask{T:LT}(H:T.WF)(o:Nat)(k:ByteArray):(T.ask o k).1.WF:=by
 unfold LT.ask
 split
 ·exact H
 ·rename_i h1
  split
  ·exact H
  ·rename_i h2
   have hw:(T.waits o).size=0:=Decidable.not_not.1 h2
   have ho:o≠0:=fun h=>h1 (.inl h)
   have hk:k.size≠0:=fun h=>h1 (.inr (.inl h))
   cases hg:bE T.locks k with
   | none=>exact H.newKey ho hk hw hg
   | some p=>
     obtain⟨h,l⟩:=p
     simp only
     split
     ·exact H
     ·rename_i hne
      obtain⟨b,hb⟩:=H.chase o h
      split
      ·exact H
      ·rename_i hc
       cases b
       ·exact H.wait ho hw hg hne hb
       ·exact absurd hb hc
theorem LT.WF.out{T:LT}(H:T.WF){o h:Nat}{ks:List ByteArray}{w:ByteArray}{l:List Nat}(hp:bE T.parties o=some (ks,w))(hws:w.size≠0)(hg:bE T.locks w=some (h,l))(ho:o∈l) :
 (⟨ca T.locks w (h,l.erase o),ca T.parties o (ks,⟨#[]⟩)⟩:LT).WF:=by
 obtain⟨k1,k2,⟨kks,kw,k3,k4⟩,k5,k6⟩:=H.own w h l hg
 obtain⟨p1,p2,p3,p4⟩:=H.par o ks w hp
 have hoh:o≠h:=(k6 o ho).2.1
 refine⟨?_,?_,?_⟩
 ·intro k' o' l' hm
  simp only [bw] at hm ⊢
  by_cases hkk:w=k'
  ·rw [if_pos hkk] at hm
   simp only [zw,zE] at hm
   obtain⟨rfl,rfl⟩:=hm
   subst hkk
   refine⟨k1,k2,⟨kks,kw,by rw [if_neg hoh];exact k3,k4⟩,k5.erase o,fun x hx=>?_⟩
   have hx':=(List.Nodup.mem_erase_iff k5).1 hx
   obtain⟨b1,b2,ks',b3⟩:=k6 x hx'.2
   exact⟨b1,b2,ks',by rw [if_neg (Ne.symm hx'.1)];exact b3⟩
  ·rw [if_neg hkk] at hm
   obtain⟨a1,a2,⟨ks',w',a3,a4⟩,a5,a6⟩:=H.own k' o' l' hm
   refine⟨a1,a2,?_,a5,fun x hx=>?_⟩
   ·by_cases hoo:o=o'
    ·subst hoo
     rw [hp] at a3
     simp only [zw,zE] at a3
     obtain⟨rfl,rfl⟩:=a3
     exact⟨_,_,if_pos rfl,a4⟩
    ·exact⟨ks',w',by rw [if_neg hoo];exact a3,a4⟩
   ·obtain⟨b1,b2,ks'',b3⟩:=a6 x hx
    have hox:o≠x:=by
     rintro rfl
     rw [hp] at b3
     simp only [zw,zE] at b3
     exact hkk b3.2
    exact⟨b1,b2,ks'',by rw [if_neg hox];exact b3⟩
 ·intro o' ks' w' hp'
  simp only [bw] at hp' ⊢
  have hk': ∀ {o' k' l'},bE T.locks k'=some (o',l')→ ∃ l'',(if w=k' then some (h,l.erase o) else bE T.locks k')=some (o',l''):=by
   intro o' k' l' hl
   by_cases hkk:w=k'
   ·subst hkk
    rw [hg] at hl
    simp only [zw,zE] at hl
    obtain⟨rfl,rfl⟩:=hl
    exact⟨_,if_pos rfl⟩
   ·exact⟨l',by rw [if_neg hkk];exact hl⟩
  by_cases hoo:o=o'
  ·subst hoo
   rw [if_pos rfl] at hp'
   simp only [zw,zE] at hp'
   obtain⟨rfl,rfl⟩:=hp'
   exact⟨p1,p2,fun k' hm=>by obtain⟨l',hl⟩:=p3 k' hm;exact hk' hl,fun hh=>absurd rfl hh⟩
  ·rw [if_neg hoo] at hp'
   obtain⟨a1,a2,a3,a4⟩:=H.par o' ks' w' hp'
   refine⟨a1,a2,fun k' hm=>by obtain⟨l',hl⟩:=a3 k' hm;exact hk' hl,fun hws'=>?_⟩
   obtain⟨hh,l',hl,hx⟩:=a4 hws'
   by_cases hkk:w=w'
   ·subst hkk
    rw [hg] at hl
    simp only [zw,zE] at hl
    obtain⟨rfl,rfl⟩:=hl
    exact⟨h,_,if_pos rfl,(List.mem_erase_of_ne (Ne.symm hoo)).2 hx⟩
   ·exact⟨hh,l',by rw [if_neg hkk];exact hl,hx⟩
 ·obtain⟨rank,hr⟩:=H.down
  refine⟨rank,fun o' ks' w' hp' hws'=>?_⟩
  simp only [bw] at hp' ⊢
  by_cases hoo:o=o'
  ·rw [if_pos hoo] at hp'
   simp only [zw,zE] at hp'
   obtain⟨_,rfl⟩:=hp'
   exact absurd rfl hws'
  ·rw [if_neg hoo] at hp'
   obtain⟨hh,l',hl,hx⟩:=hr o' ks' w' hp' hws'
   by_cases hkk:w=w'
   ·subst hkk
    rw [hg] at hl
    simp only [zw,zE] at hl
    obtain⟨rfl,rfl⟩:=hl
    exact⟨h,_,if_pos rfl,hx⟩
   ·exact⟨hh,l',by rw [if_neg hkk];exact hl,hx⟩
theorem LT.WF.dropKey{T:LT}(H:T.WF){o:Nat}{ks:List ByteArray}{k w:ByteArray}(hp:bE T.parties o=some (ks ++ [k],w))(hws:w.size=0)(hg:bE T.locks k=some (o,[]))(hnd:(T.locks.map (·.1)).Nodup) :
 (⟨dO T.locks k,ca T.parties o (ks,w)⟩:LT).WF:=by
 obtain⟨p1,p2,p3,p4⟩:=H.par o _ w hp
 rw [List.nodup_append] at p2
 have hkn:k∉ks:=fun hm=>p2.2.2 k hm k (by simp) rfl
 refine⟨?_,?_,?_⟩
 ·intro k' o' l' hm
  simp only [bw,cZ hnd] at hm ⊢
  by_cases hkk:k=k'
  ·rw [if_pos hkk] at hm;cases hm
  ·rw [if_neg hkk] at hm
   obtain⟨a1,a2,⟨ks',w',a3,a4⟩,a5,a6⟩:=H.own k' o' l' hm
   refine⟨a1,a2,?_,a5,fun x hx=>?_⟩
   ·by_cases hoo:o=o'
    ·subst hoo
     rw [hp] at a3
     simp only [zw,zE] at a3
     obtain⟨rfl,rfl⟩:=a3
     rw [List.mem_append] at a4
     refine⟨_,_,if_pos rfl,a4.resolve_right ?_⟩
     simp only [List.mem_singleton]
     exact fun h=>hkk h.symm
    ·exact⟨ks',w',by rw [if_neg hoo];exact a3,a4⟩
   ·obtain⟨b1,b2,ks'',b3⟩:=a6 x hx
    have hox:o≠x:=by
     rintro rfl
     rw [hp] at b3
     simp only [zw,zE] at b3
     rw [b3.2] at hws
     exact a1 hws
    exact⟨b1,b2,ks'',by rw [if_neg hox];exact b3⟩
 ·intro o' ks' w' hp'
  simp only [bw,cZ hnd] at hp' ⊢
  by_cases hoo:o=o'
  ·subst hoo
   rw [if_pos rfl] at hp'
   simp only [zw,zE] at hp'
   obtain⟨rfl,rfl⟩:=hp'
   refine⟨p1,p2.1,fun k' hm=>?_,fun hh=>absurd hws hh⟩
   obtain⟨l',hl⟩:=p3 k' (List.mem_append_left _ hm)
   have hkk:k≠k':=by rintro rfl;exact hkn hm
   exact⟨l',by rw [if_neg hkk];exact hl⟩
  ·rw [if_neg hoo] at hp'
   obtain⟨a1,a2,a3,a4⟩:=H.par o' ks' w' hp'
   refine⟨a1,a2,fun k' hm=>?_,fun hws'=>?_⟩
   ·obtain⟨l',hl⟩:=a3 k' hm
    have hkk:k≠k':=by
     rintro rfl
     rw [hg] at hl
     simp only [zw,zE] at hl
     exact hoo hl.1
    exact⟨l',by rw [if_neg hkk];exact hl⟩
   ·obtain⟨hh,l',hl,hx⟩:=a4 hws'
    have hkk:k≠w':=by
     rintro rfl
     rw [hg] at hl
     simp only [zw,zE] at hl
     rw [← hl.2] at hx
     cases hx
    exact⟨hh,l',by rw [if_neg hkk];exact hl,hx⟩
 ·obtain⟨rank,hr⟩:=H.down
  refine⟨rank,fun o' ks' w' hp' hws'=>?_⟩
  simp only [bw,cZ hnd] at hp' ⊢
  by_cases hoo:o=o'
  ·rw [if_pos hoo] at hp'
   simp only [zw,zE] at hp'
   rw [← hp'.2] at hws'
   exact absurd hws hws'
  ·rw [if_neg hoo] at hp'
   obtain⟨hh,l',hl,hx⟩:=(H.par o' ks' w' hp').2.2.2 hws'
   obtain⟨h2,l2,hl2,hlt⟩:=hr o' ks' w' hp' hws'
   have hkk:k≠w':=by
    rintro rfl
    rw [hg] at hl
    simp only [zw,zE] at hl
    rw [← hl.2] at hx
    cases hx
   exact⟨h2,l2,by rw [if_neg hkk];exact hl2,hlt⟩
theorem LT.WF.passKey{T:LT}(H:T.WF){o n:Nat}{ks kn:List ByteArray}{rest:List Nat}{k w:ByteArray}(hp:bE T.parties o=some (ks ++ [k],w))(hws:w.size=0)(hg:bE T.locks k=some (o,n :: rest))(hn:bE T.parties n=some (kn,k)) :
 (⟨ca T.locks k (n,rest),ca (ca T.parties o (ks,w)) n (kn ++ [k],⟨#[]⟩)⟩:LT).WF:=by
 obtain⟨p1,p2,p3,p4⟩:=H.par o _ w hp
 obtain⟨n1,n2,n3,n4⟩:=H.par n _ k hn
 obtain⟨k1,k2,k3,k5,k6⟩:=H.own k o _ hg
 rw [List.nodup_append] at p2
 rw [List.nodup_cons] at k5
 have hkn:k∉ks:=fun hm=>p2.2.2 k hm k (by simp) rfl
 have hno:n≠o:=(k6 n (List.mem_cons_self ..)).2.1
 have hkk2:k∉kn:=by
  intro hm
  obtain⟨l,hl⟩:=n3 k hm
  rw [hg] at hl
  simp only [zw,zE] at hl
  exact hno hl.1.symm
 have hget: ∀ x,bE (ca (ca T.parties o (ks,w)) n (kn ++ [k],⟨#[]⟩)) x=if n=x then some (kn ++ [k],⟨#[]⟩) else if o=x then some (ks,w) else bE T.parties x:=fun x=>by rw [bw,bw]
 have hgl: ∀ x,bE (ca T.locks k (n,rest)) x=if k=x then some (n,rest) else bE T.locks x:=fun x=>bw _ _ _ _
 refine⟨?_,?_,?_⟩
 ·intro k' o' l' hm
  simp only [hget,hgl] at hm ⊢
  by_cases hkk:k=k'
  ·rw [if_pos hkk] at hm
   simp only [zw,zE] at hm
   obtain⟨rfl,rfl⟩:=hm
   subst hkk
   refine⟨k1,n1,⟨_,_,if_pos rfl,by simp⟩,k5.2,fun x hx=>?_⟩
   obtain⟨b1,b2,ks',b3⟩:=k6 x (List.mem_cons_of_mem _ hx)
   have hxn:n≠x:=by rintro rfl;exact k5.1 hx
   exact⟨b1,Ne.symm hxn,ks',by rw [if_neg hxn,if_neg (Ne.symm b2)];exact b3⟩
  ·rw [if_neg hkk] at hm
   obtain⟨a1,a2,⟨ks',w',a3,a4⟩,a5,a6⟩:=H.own k' o' l' hm
   refine⟨a1,a2,?_,a5,fun x hx=>?_⟩
   ·by_cases hnn:n=o'
    ·subst hnn
     rw [hn] at a3
     simp only [zw,zE] at a3
     obtain⟨rfl,rfl⟩:=a3
     exact⟨_,_,if_pos rfl,List.mem_append_left _ a4⟩
    ·by_cases hoo:o=o'
     ·subst hoo
      rw [hp] at a3
      simp only [zw,zE] at a3
      obtain⟨rfl,rfl⟩:=a3
      rw [List.mem_append] at a4
      refine⟨ks,w,by rw [if_neg hnn,if_pos rfl],a4.resolve_right ?_⟩
      simp only [List.mem_singleton]
      exact fun h=>hkk h.symm
     ·exact⟨ks',w',by rw [if_neg hnn,if_neg hoo];exact a3,a4⟩
   ·obtain⟨b1,b2,ks'',b3⟩:=a6 x hx
    have hox:o≠x:=by
     rintro rfl
     rw [hp] at b3
     simp only [zw,zE] at b3
     rw [b3.2] at hws
     exact a1 hws
    have hnx:n≠x:=by
     rintro rfl
     rw [hn] at b3
     simp only [zw,zE] at b3
     exact hkk b3.2
    exact⟨b1,b2,ks'',by rw [if_neg hnx,if_neg hox];exact b3⟩
 ·intro o' ks' w' hp'
  simp only [hget,hgl] at hp' ⊢
  by_cases hnn:n=o'
  ·subst hnn
   rw [if_pos rfl] at hp'
   simp only [zw,zE] at hp'
   obtain⟨rfl,rfl⟩:=hp'
   refine⟨n1,?_,fun k' hm=>?_,fun hh=>absurd rfl hh⟩
   ·rw [List.nodup_append]
    refine⟨n2,by simp,?_⟩
    intro a ha b hb
    simp only [List.mem_singleton] at hb
    subst hb
    rintro rfl
    exact hkk2 ha
   ·by_cases hkk:k=k'
    ·exact⟨rest,by rw [if_pos hkk]⟩
    ·rw [List.mem_append] at hm
     rcases hm with hm|hm
     ·obtain⟨l,hl⟩:=n3 k' hm
      exact⟨l,by rw [if_neg hkk];exact hl⟩
     ·simp only [List.mem_singleton] at hm
      exact absurd hm.symm hkk
  ·rw [if_neg hnn] at hp'
   by_cases hoo:o=o'
   ·subst hoo
    rw [if_pos rfl] at hp'
    simp only [zw,zE] at hp'
    obtain⟨rfl,rfl⟩:=hp'
    refine⟨p1,p2.1,fun k' hm=>?_,fun hh=>absurd hws hh⟩
    obtain⟨l',hl⟩:=p3 k' (List.mem_append_left _ hm)
    have hkk:k≠k':=by rintro rfl;exact hkn hm
    exact⟨l',by rw [if_neg hkk];exact hl⟩
   ·rw [if_neg hoo] at hp'
    obtain⟨a1,a2,a3,a4⟩:=H.par o' ks' w' hp'
    refine⟨a1,a2,fun k' hm=>?_,fun hws'=>?_⟩
    ·obtain⟨l',hl⟩:=a3 k' hm
     have hkk:k≠k':=by
      rintro rfl
      rw [hg] at hl
      simp only [zw,zE] at hl
      exact hoo hl.1
     exact⟨l',by rw [if_neg hkk];exact hl⟩
    ·obtain⟨hh,l',hl,hx⟩:=a4 hws'
     by_cases hkk:k=w'
     ·subst hkk
      rw [hg] at hl
      simp only [zw,zE] at hl
      rw [← hl.2] at hx
      refine⟨n,rest,if_pos rfl,?_⟩
      rcases List.mem_cons.1 hx with h|h
      ·exact absurd h.symm hnn
      ·exact h
     ·exact⟨hh,l',by rw [if_neg hkk];exact hl,hx⟩
 ·obtain⟨rank,hr⟩:=H.down
  refine⟨fun x=>if x=n then 0 else rank x+1,fun o' ks' w' hp' hws'=>?_⟩
  simp only [hget,hgl] at hp' ⊢
  by_cases hnn:n=o'
  ·rw [if_pos hnn] at hp'
   simp only [zw,zE] at hp'
   obtain⟨_,rfl⟩:=hp'
   exact absurd rfl hws'
  ·rw [if_neg hnn] at hp'
   by_cases hoo:o=o'
   ·rw [if_pos hoo] at hp'
    simp only [zw,zE] at hp'
    rw [← hp'.2] at hws'
    exact absurd hws hws'
   ·rw [if_neg hoo] at hp'
    obtain⟨hh,l',hl,hx⟩:=hr o' ks' w' hp' hws'
    by_cases hkk:k=w'
    ·exact⟨n,rest,if_pos hkk,by rw [if_pos rfl,if_neg (Ne.symm hnn)];omega⟩
    ·refine⟨hh,l',by rw [if_neg hkk];exact hl,?_⟩
     rw [if_neg (Ne.symm hnn)]
     split <;> omega
theorem cC{K V:Type} [DecidableEq K]{l:List (K×V)}{k:K}{v:V}(h:bE l k=some v)(v':V):(ca l k v').length=l.length:=by
 obtain⟨A,B,rfl,hA⟩:=bH h
 rw [cN hA]
 simp
theorem iO{K V:Type} [DecidableEq K](l:List (K×V))(k:K):(dO l k).length≤l.length:=by
 induction l with
 | nil=>simp [dO]
 | cons x l ih=>
   unfold dO
   split
   ·simp
   ·simp only [zS];omega
structure LT.Fine (T:LT) (N:Nat):Prop where
 wf:T.WF
 ndL:(T.locks.map (·.1)).Nodup
 ndP:(T.parties.map (·.1)).Nodup
 szL:T.locks.length≤N
 szP:T.parties.length≤N
theorem LT.Fine.step{T:LT}{N:Nat}(H:T.Fine N)(hN:N<900000){o:Nat}{ks:List ByteArray}{k w:ByteArray}(hp:bE T.parties o=some (ks ++ [k],w))(hws:w.size=0) :
 (T.pop o).safeLetGo k∧((T.pop o).letGo k).1.Fine N∧bE ((T.pop o).letGo k).1.parties o=some (ks,w):=by
 have hpop:T.pop o=⟨T.locks,ca T.parties o (ks,w)⟩:=by
  unfold LT.pop LT.keys LT.waits
  rw [hp]
  simp
 obtain⟨p1,p2,p3,p4⟩:=H.wf.par o _ w hp
 obtain⟨l,hg⟩:=p3 k (by simp)
 have hll:l.length≤T.parties.length:=by
  have:=H.wf.line_le k
  unfold LT.line at this
  rw [hg] at this
  exact this
 have hsl:=H.szL
 have hsp:=H.szP
 rw [hpop]
 cases l with
 | nil=>
   have hlg:LT.letGo ⟨T.locks,ca T.parties o (ks,w)⟩ k=(⟨dO T.locks k,ca T.parties o (ks,w)⟩,0):=by unfold LT.letGo;simp only;rw [hg]
   rw [hlg]
   refine⟨⟨o,[],hg,by simp,fun n rest h=>by cases h⟩,⟨H.wf.dropKey hp hws hg H.ndL,(ic H.ndL k).1,cY H.ndP o _,?_,?_⟩,?_⟩
   ·have:=iO T.locks k;simp only;omega
   ·simp only;rw [cC hp];exact hsp
   ·simp only;rw [bw,if_pos rfl]
 | cons n rest=>
   obtain⟨k1,k2,k3,k5,k6⟩:=H.wf.own k o _ hg
   obtain⟨b1,b2,kn,hn⟩:=k6 n (List.mem_cons_self ..)
   have hn':bE (ca T.parties o (ks,w)) n=some (kn,k):=by rw [bw,if_neg (Ne.symm b2)];exact hn
   have hkn:LT.keys ⟨T.locks,ca T.parties o (ks,w)⟩ n=kn:=by unfold LT.keys;simp only;rw [hn']
   have hknl:kn.length≤T.locks.length:=by
    have:=H.wf.keys_le n
    unfold LT.keys at this
    rw [hn] at this
    exact this
   have hlg:LT.letGo ⟨T.locks,ca T.parties o (ks,w)⟩ k=(⟨ca T.locks k (n,rest),ca (ca T.parties o (ks,w)) n (kn ++ [k],⟨#[]⟩)⟩,n):=by unfold LT.letGo;simp only;rw [hg];simp only;rw [hkn]
   rw [hlg]
   refine⟨⟨o,n :: rest,hg,by omega,fun n' rest' h=>?_⟩,⟨H.wf.passKey hp hws hg hn,cY H.ndL k _,cY (cY H.ndP o _) n _,?_,?_⟩,?_⟩
   ·cases h
    exact⟨b1,⟨_,hn'⟩,by rw [hkn];omega⟩
   ·simp only;rw [cC hg];exact hsl
   ·simp only;rw [cC hn',cC hp];exact hsp
   ·simp only;rw [bw,if_neg b2,bw,if_pos rfl]
theorem LT.Fine.pops{N:Nat}(hN:N<900000){o:Nat}{w:ByteArray}(hws:w.size=0): ∀ (r:Nat) (T:LT) (ks:List ByteArray),T.Fine N→bE T.parties o=some (ks,w)→r≤ks.length →
 LT.li o r T∧ ∀ came,(LT.pops o r T came).1.Fine N∧bE (LT.pops o r T came).1.parties o=some (ks.take (ks.length-r),w)
 | 0,T,ks,H,hp,_=>⟨trivial,fun came=>⟨H,by unfold LT.pops;rw [hp];simp⟩⟩
 | r+1,T,ks,H,hp,hr=>by
   obtain⟨ks',k,rfl⟩: ∃ ks' k,ks=ks' ++ [k]:=by
    refine⟨ks.dropLast,ks.getLast (by intro h;subst h;simp at hr),?_⟩
    rw [List.dropLast_concat_getLast]
   obtain⟨s1,s2,s3⟩:=H.step hN hp hws
   have hlen:(ks' ++ [k]).length=ks'.length+1:=by simp
   rw [hlen] at hr ⊢
   obtain⟨i1,i2⟩:=LT.Fine.pops hN hws r _ ks' s2 s3 (by omega)
   have hk:T.keys o=ks' ++ [k]:=by unfold LT.keys;rw [hp]
   have hlast:(T.keys o).getLast? =some k:=by rw [hk];simp
   have hk2:LT.keys ((T.pop o).letGo k).1 o=ks':=by unfold LT.keys;rw [s3]
   refine⟨⟨k,hlast,s1,⟨_,s3⟩,by rw [hk2,hk];simp,i1⟩,fun came=>?_⟩
   unfold LT.pops
   rw [hlast]
   simp only
   have:=i2 (if((T.pop o).letGo k).2=0 then came else came ++ [((T.pop o).letGo k).2])
   refine⟨this.1,?_⟩
   rw [this.2,show ks'.length+1-(r+1)=ks'.length-r by omega,List.take_append_of_le_length (by omega)]
theorem LT.Fine.leave{T:LT}{N:Nat}(H:T.Fine N){o:Nat}{ks:List ByteArray}{w:ByteArray}(hp:bE T.parties o=some (ks,w)) :
 (T.leave o).Fine N∧ ∃ w',w'.size=0∧bE (T.leave o).parties o=some (ks,w'):=by
 have hw:T.waits o=w:=by unfold LT.waits;rw [hp]
 have hk:T.keys o=ks:=by unfold LT.keys;rw [hp]
 unfold LT.leave
 rw [hw,hk]
 by_cases hws:w.size=0
 ·rw [if_pos hws]
  exact⟨H,w,hws,hp⟩
 ·rw [if_neg hws]
  obtain⟨h,l,hg,hin⟩:=(H.wf.par o ks w hp).2.2.2 hws
  rw [hg]
  refine⟨⟨H.wf.out hp hws hg hin,cY H.ndL w _,cY H.ndP o _,?_,?_⟩,⟨#[]⟩,rfl,?_⟩
  ·simp only;rw [cC hg];exact H.szL
  ·simp only;rw [cC hp];exact H.szP
  ·simp only;rw [bw,if_pos rfl]
theorem LT.Fine.gone{T:LT}{N:Nat}(H:T.Fine N){o:Nat}{w:ByteArray}(hp:bE T.parties o=some ([],w))(hws:w.size=0):LT.Fine ⟨T.locks,dO T.parties o⟩ N:=by
 refine⟨⟨?_,?_,?_⟩,H.ndL,(ic H.ndP o).1,H.szL,?_⟩
 ·intro k o' l hg
  simp only [cZ H.ndP] at hg ⊢
  obtain⟨a1,a2,⟨ks,w',a3,a4⟩,a5,a6⟩:=H.wf.own k o' l hg
  refine⟨a1,a2,⟨ks,w',?_,a4⟩,a5,fun x hx=>?_⟩
  ·have hoo:o≠o':=by
    rintro rfl
    rw [hp] at a3
    simp only [zw,zE] at a3
    rw [← a3.1] at a4
    cases a4
   rw [if_neg hoo];exact a3
  ·obtain⟨b1,b2,ks',b3⟩:=a6 x hx
   have hox:o≠x:=by
    rintro rfl
    rw [hp] at b3
    simp only [zw,zE] at b3
    rw [b3.2] at hws
    exact a1 hws
   exact⟨b1,b2,ks',by rw [if_neg hox];exact b3⟩
 ·intro o' ks w' hp'
  simp only [cZ H.ndP] at hp'
  split at hp'
  ·cases hp'
  ·exact H.wf.par o' ks w' hp'
 ·obtain⟨rank,hr⟩:=H.wf.down
  refine⟨rank,fun o' ks w' hp' hws'=>?_⟩
  simp only [cZ H.ndP] at hp'
  split at hp'
  ·cases hp'
  ·exact hr o' ks w' hp' hws'
 ·have:=iO T.parties o
  have:=H.szP
  simp only
  omega
theorem LT.Fine.backOk{T:LT}{N:Nat}(H:T.Fine N)(hN:N<900000)(o:Nat)(mark:Int) :
 (T.keys o).length<1000000∧((T.waits o).size≠0→ ∃ h l,bE T.locks (T.waits o)=some (h,l)∧o∈l∧l.length<1000000)∧(0≤mark→mark≤((T.keys o).length:Int)→LT.li o ((T.keys o).length-mark.toNat) (T.leave o)):=by
 have h1:=H.wf.keys_le o
 have h2:=H.szL
 have h3:=H.szP
 cases hp:bE T.parties o with
 | none=>
   have hk:T.keys o= []:=by unfold LT.keys;rw [hp]
   have hw:(T.waits o).size=0:=by unfold LT.waits;rw [hp];rfl
   refine⟨by omega,fun h=>absurd hw h,fun _ _=>?_⟩
   rw [hk,List.length_nil,Nat.zero_sub]
   trivial
 | some p=>
   obtain⟨ks,w⟩:=p
   have hw:T.waits o=w:=by unfold LT.waits;rw [hp]
   have hk:T.keys o=ks:=by unfold LT.keys;rw [hp]
   refine⟨by omega,fun hws=>?_,fun _ _=>?_⟩
   ·rw [hw] at hws ⊢
    obtain⟨h,l,hg,hin⟩:=(H.wf.par o ks w hp).2.2.2 hws
    have hl:=H.wf.line_le w
    unfold LT.line at hl
    rw [hg] at hl
    exact⟨h,l,hg,hin,by simp only at hl;omega⟩
   ·obtain⟨F,w',hw',hp'⟩:=H.leave hp
    rw [hk]
    exact(LT.Fine.pops hN hw' _ _ ks F hp' (by omega)).1
theorem LT.Fine.back{T:LT}{N:Nat}(H:T.Fine N)(hN:N<900000)(o:Nat)(mark:Int):(T.back o mark).1.Fine N:=by
 unfold LT.back
 split
 ·exact H
 ·cases hp:bE T.parties o with
  | none=>exact H
  | some p=>
    obtain⟨ks,w⟩:=p
    obtain⟨F,w',hw',hp'⟩:=H.leave hp
    have hk:(T.leave o).keys o=ks:=by unfold LT.keys;rw [hp']
    simp only
    rw [hk]
    obtain⟨q1,q2⟩:=(LT.Fine.pops hN hw' (ks.length-mark.toNat) _ ks F hp' (by omega)).2 []
    generalize LT.pops o (ks.length-mark.toNat) (T.leave o) []=r at q1 q2 ⊢
    obtain⟨T2,came⟩:=r
    simp only at q1 q2 ⊢
    split
    ·rename_i h0
     have hk2:T2.keys o=ks.take (ks.length-(ks.length-mark.toNat)):=by unfold LT.keys;rw [q2]
     rw [hk2,List.length_eq_zero_iff] at h0
     rw [h0] at q2
     exact q1.gone q2 hw'
    ·exact q1
end Go.Proofs.Ytckajlllkmkniaa
end
section
namespace Go.Proofs.Ytckajlllkmkniaa
open Go Go.Sy Go.Sl Go.RowKit
abbrev uV:Nat→List Value:=fun n=> [.int .u64 (n:Int)]
abbrev sV:ByteArray→List Value:=fun s=> [.string s]
theorem rY:RecOf uV 1:=pZ (fun _=>rfl)
theorem wM:RecOf sV 1:=pZ (fun _=>rfl)
abbrev uR(ro:Bool)(l:List Nat):VO:=dat ro l.length 1 23 (l.flatMap uV)
abbrev sR(ro:Bool)(l:List ByteArray):VO:=dat ro l.length 1 9 (l.flatMap sV)
abbrev kE:ByteArray→Value:=fun s=> .string s
abbrev oE:Nat→Value:=fun n=> .int .u64 (n:Int)
theorem kK:KEnc Try.prog 9 kE:=v8 (F.un _ rfl)
theorem oK:KEnc Try.prog 23 oE:=tY (F.un _ rfl)
def PL(_:ByteArray)(x:Nat×(Nat×List Nat)):Own:=fun H Fp=> ∃ r,H.at' x.1=some (aG 75 [.sc (.int .u64 (x.2.1:Int)),.slu r 0 x.2.2.length])∧H.at' r=some (uR false x.2.2)∧x.1≠r∧ ∀ n,Fp n↔n=x.1∨n=r
def PP(_:Nat)(x:Nat×(List ByteArray×ByteArray)):Own:=fun H Fp=> ∃ r,H.at' x.1=some (aG 72 [.slu r 0 x.2.1.length,.sc (.string x.2.2)])∧H.at' r=some (sR false x.2.1)∧x.1≠r∧ ∀ n,Fp n↔n=x.1∨n=r
theorem eR(k:ByteArray)(x:Nat×(Nat×List Nat)):qT (PL k x):=fun H H' Fp ⟨r,h1,h2,h3,h4⟩ hf=>⟨r,(hf _ ((h4 _).2 (.inl rfl))).trans h1,(hf _ ((h4 _).2 (.inr rfl))).trans h2,h3,h4⟩
theorem eQ(k:Nat)(x:Nat×(List ByteArray×ByteArray)):qT (PP k x):=fun H H' Fp ⟨r,h1,h2,h3,h4⟩ hf=>⟨r,(hf _ ((h4 _).2 (.inl rfl))).trans h1,(hf _ ((h4 _).2 (.inr rfl))).trans h2,h3,h4⟩
abbrev MLk:=List (ByteArray×(Nat×(Nat×List Nat))×Nat)
abbrev MPt:=List (Nat×(Nat×(List ByteArray×ByteArray))×Nat)
abbrev ke:Nat×(Nat×List Nat)→SV:=fun x=> .ptr x.1 0
abbrev jY:Nat×(List ByteArray×ByteArray)→SV:=fun x=> .ptr x.1 0
abbrev lmV(m:MLk)(c:Nat):VO:=iN kE ke m c
abbrev pmV(m:MPt)(c:Nat):VO:=iN oE jY m c
structure Tb (t a b:Nat) (ml:MLk) (cl:Nat) (mp:MPt) (cp:Nat) (F1 F2:Nat→Prop) (H:aV):Prop where
 tab:H.at' t=some (aG 67 [.mp a,.mp b])
 locks:H.at' a=some (lmV ml cl)
 parties:H.at' b=some (pmV mp cp)
 okl:KOk ml cl
 okp:KOk mp cp
 bl:Big PL (kv ml) H F1
 bp:Big PP (kv mp) H F2
 ne:t≠a∧t≠b∧a≠b
 d1: ∀ n,F1 n→n≠t∧n≠a∧n≠b∧ ¬ F2 n
 d2: ∀ n,F2 n→n≠t∧n≠a∧n≠b
def b9(ml:MLk)(mp:MPt):LT:=⟨(kv ml).map fun x=>(x.1,x.2.2),(kv mp).map fun x=>(x.1,x.2.2)⟩
def TabAt(t:Nat)(T:LT)(Fp:Nat→Prop)(H:aV):Prop:= ∃ a b ml cl mp cp F1 F2,Tb t a b ml cl mp cp F1 F2 H∧T=b9 ml mp∧ ∀ n,Fp n↔n=t∨n=a∨n=b∨F1 n∨F2 n
theorem lC(ml:MLk)(mp:MPt)(k:ByteArray):bE (b9 ml mp).locks k=(cO ml k).map (·.2):=by
 rw [← qw]
 exact qn (fun x:Nat×(Nat×List Nat)=>x.2) (kv ml) k
theorem pA(ml:MLk)(mp:MPt)(k:Nat):bE (b9 ml mp).parties k=(cO mp k).map (·.2):=by
 rw [← qw]
 exact qn (fun x:Nat×(List ByteArray×ByteArray)=>x.2) (kv mp) k
theorem Tb.lock{t a b:Nat}{ml:MLk}{cl:Nat}{mp:MPt}{cp:Nat}{F1 F2:Nat→Prop}{H:aV}(h:Tb t a b ml cl mp cp F1 F2 H){k:ByteArray}{n o:Nat}{l:List Nat}(hg:cO ml k=some (n,(o,l))) :
 ∃ r G,H.at' n=some (aG 75 [.sc (.int .u64 (o:Int)),.slu r 0 l.length])∧H.at' r=some (uR false l)∧n≠r∧Big PL (kv (ik ml k)) H G∧ ¬ G n∧ ¬ G r∧(∀ x,F1 x↔(x=n∨x=r)∨G x)∧n≠t∧n≠a∧n≠b∧ ¬ F2 n∧r≠t∧r≠a∧r≠b∧ ¬ F2 r:=by
 obtain⟨A,B,s,h1,h2,_,h4⟩:=fX hg
 have hb:=h.bl
 rw [h1] at hb
 simp only [kv,zU,zR] at hb
 obtain⟨G1,G,⟨r,g1,g2,g3,g4⟩,g5,g6,g7⟩:=Big.focus hb
 have e1:=h.d1 n ((g7 n).2 (.inl ((g4 n).2 (.inl rfl))))
 have e2:=h.d1 r ((g7 r).2 (.inl ((g4 r).2 (.inr rfl))))
 refine⟨r,G,g1,g2,g3,?_,g6 n ((g4 n).2 (.inl rfl)),g6 r ((g4 r).2 (.inr rfl)),fun x=>by rw [g7,g4],e1.1,e1.2.1,e1.2.2.1,e1.2.2.2,e2.1,e2.2.1,e2.2.2.1,e2.2.2.2⟩
 rw [h4]
 simpa [kv] using g5
theorem Tb.party{t a b:Nat}{ml:MLk}{cl:Nat}{mp:MPt}{cp:Nat}{F1 F2:Nat→Prop}{H:aV}(h:Tb t a b ml cl mp cp F1 F2 H){o n:Nat}{ks:List ByteArray}{w:ByteArray}(hg:cO mp o=some (n,(ks,w))) :
 ∃ r G,H.at' n=some (aG 72 [.slu r 0 ks.length,.sc (.string w)])∧H.at' r=some (sR false ks)∧n≠r∧Big PP (kv (ik mp o)) H G∧ ¬ G n∧ ¬ G r∧(∀ x,F2 x↔(x=n∨x=r)∨G x)∧n≠t∧n≠a∧n≠b∧ ¬ F1 n∧r≠t∧r≠a∧r≠b∧ ¬ F1 r:=by
 obtain⟨A,B,s,h1,h2,_,h4⟩:=fX hg
 have hb:=h.bp
 rw [h1] at hb
 simp only [kv,zU,zR] at hb
 obtain⟨G1,G,⟨r,g1,g2,g3,g4⟩,g5,g6,g7⟩:=Big.focus hb
 have n1:F2 n:=(g7 n).2 (.inl ((g4 n).2 (.inl rfl)))
 have n2:F2 r:=(g7 r).2 (.inl ((g4 r).2 (.inr rfl)))
 have e1:=h.d2 n n1
 have e2:=h.d2 r n2
 refine⟨r,G,g1,g2,g3,?_,g6 n ((g4 n).2 (.inl rfl)),g6 r ((g4 r).2 (.inr rfl)),fun x=>by rw [g7,g4],e1.1,e1.2.1,e1.2.2,fun hf=>(h.d1 n hf).2.2.2 n1,e2.1,e2.2.1,e2.2.2,fun hf=>(h.d1 r hf).2.2.2 n2⟩
 rw [h4]
 simpa [kv] using g5
theorem iM{t a b:Nat}{H:aV}{nx:Nat}(h:H.at' t=some (aG 67 [.mp a,.mp b])):Fnc Try.prog 32 [.ptr t 0] H nx (fun r=>r=(.sc (.bool false),H,nx)):=by
 refine Fnc.start Try.func32 rfl rfl ?_
 (repeat(first|refine ao ?_|refine ai ?_|refine ah ?_|refine am rfl rfl rfl ?_|refine aj rfl rfl rfl ?_|refine bO rfl rfl rfl rfl ?_|refine aJ rfl rfl rfl ?_|refine au rfl rfl rfl (F.fo _ _ rfl rfl) ?_|refine dD rfl rfl rfl rfl (F.un _ rfl) rfl ?_|refine aL rfl rfl rfl (F.ag _ rfl) (by first|exact Tr.ae _ _ _|assumption) (by exact rfl) ?_))
 ((apply bj Try.func32 (congrArg Array.toList Try.results32));(focus(repeat(first|exact ResIs.nil|apply ResIs.tmp rfl))))
 rfl
theorem has_t{t:Nat}{T:LT}{Fp:Nat→Prop}{H:aV}{nx:Nat}(hT:TabAt t T Fp H)(k:ByteArray):Fnc Try.prog 19 [.ptr t 0,.sc (.string k)] H nx (fun r=>r=(.sc (.int .u64 (T.has k:Int)),H,nx)):=by
 obtain⟨a,b,ml,cl,mp,cp,F1,F2,h,rfl,hF⟩:=hT
 have htab:=h.tab
 have hloc:=h.locks
 refine Fnc.start Try.func19 rfl rfl ?_
 have hh:(b9 ml mp).has k=match cO ml k with|some (_,(o,_))=>o|none=>0:=by
  unfold LT.has
  rw [lC]
  cases cO ml k <;> rfl
 rw [hh]
 (repeat(first|refine ao ?_|refine ai ?_|refine ah ?_|refine am rfl rfl rfl ?_|refine aj rfl rfl rfl ?_|refine aJ rfl rfl rfl ?_|refine au rfl rfl rfl (F.fo _ _ rfl rfl) ?_|refine aL rfl rfl rfl (F.ag _ rfl) (by first|exact Tr.ae _ _ _|assumption) (by exact rfl) ?_|(refine bn rfl rfl rfl (by kernel_rfl) (Fnc.mono (iM htab) ?_);rintro _ rfl;dsimp only)))
 cases hg:cO ml k with
 | none=>
   (repeat(first|refine ao ?_|refine ai ?_|refine ah ?_|refine aD rfl ?_|refine aj rfl rfl rfl ?_|refine bO rfl rfl rfl rfl ?_|refine fv rfl rfl rfl rfl rfl (F.un _ rfl) rfl ?_|refine fL (m:=ml) (enc:=kE) (val:=ke) rfl rfl rfl rfl (F.un _ rfl) (kK) (by first|exact rfl|(focus(skip;first|exact Tr.ae _ _ _|assumption))) (hg) (F.ze _ rfl) ?_))
   ((apply bj Try.func19 (congrArg Array.toList Try.results19));(focus(repeat(first|exact ResIs.nil|apply ResIs.tmp rfl))))
   rfl
 | some x=>
   obtain⟨n,o,l⟩:=x
   obtain⟨r,G,g1,_⟩:=h.lock hg
   (repeat(first|refine ao ?_|refine ai ?_|refine ah ?_|refine aN ?_|refine ay rfl ?_|refine am rfl rfl rfl ?_|refine aj rfl rfl rfl ?_|refine bO rfl rfl rfl rfl ?_|refine aJ rfl rfl rfl ?_|refine au rfl rfl rfl (F.fo _ _ rfl rfl) ?_|refine dD rfl rfl rfl rfl (F.un _ rfl) rfl ?_|refine aL rfl rfl rfl (F.ag _ rfl) (by first|exact Tr.ae _ _ _|assumption) (by exact rfl) ?_|refine fu (m:=ml) (enc:=kE) (val:=ke) rfl rfl rfl rfl (F.un _ rfl) (kK) (by first|exact rfl|(focus(skip;first|exact Tr.ae _ _ _|assumption))) (hg) ?_))
   ((apply bj Try.func19 (congrArg Array.toList Try.results19));(focus(repeat(first|exact ResIs.nil|apply ResIs.tmp rfl))))
   rfl
end Go.Proofs.Ytckajlllkmkniaa
end
section
namespace Go.Proofs.Ytckajlllkmkniaa
open Go.Sl
theorem eM{K V:Type} [DecidableEq K](l:List (K×V))(k:K)(v:V):(ca l k v).length≤l.length+1:=by
 induction l with
 | nil=>simp [ca]
 | cons x l ih=>
   unfold ca
   split
   ·simp
   ·simp only [zS];omega
theorem kO{K V:Type} [DecidableEq K]{l:List (K×V)}{k:K}{v:V}(h:bE l k=some v):(dO l k).length+1=l.length:=by
 induction l with
 | nil=>cases h
 | cons x l ih=>
   rw [cq] at h
   unfold dO
   split
   ·simp
   ·rename_i hx
    rw [if_neg hx] at h
    simp only [zS]
    have:=ih h
    omega
theorem LT.Fine.mono{T:LT}{N M:Nat}(H:T.Fine N)(h:N≤M):T.Fine M:=⟨H.wf,H.ndL,H.ndP,zX H.szL h,zX H.szP h⟩
theorem LT.Fine.empty:LT.empty.Fine 0:=⟨LT.WF.empty,List.nodup_nil,List.nodup_nil,zP _,zP _⟩
theorem LT.Fine.ask{T:LT}{N:Nat}(H:T.Fine N)(o:Nat)(k:ByteArray):(T.ask o k).1.Fine (N+1):=by
 have hwf:=H.wf.ask o k
 have h0:=H.mono (zY N)
 unfold LT.ask at hwf ⊢
 split
 ·exact h0
 ·split
  ·exact h0
  ·cases hg:bE T.locks k with
   | none=>
     rename_i h1 h2
     rw [if_neg h1,if_neg h2,hg] at hwf
     have a1:=eM T.locks k (o,([]:List Nat))
     have a2:=eM T.parties o (T.keys o ++ [k],(⟨#[]⟩:ByteArray))
     have:=H.szL
     have:=H.szP
     exact⟨hwf,cY H.ndL _ _,cY H.ndP _ _,by simp only;omega,by simp only;omega⟩
   | some x=>
     obtain⟨h,l⟩:=x
     rename_i h1 h2
     rw [if_neg h1,if_neg h2,hg] at hwf
     simp only at hwf ⊢
     split
     ·exact h0
     ·rename_i h3
      rw [if_neg h3] at hwf
      split
      ·exact h0
      ·rename_i h4
       rw [if_neg h4] at hwf
       have a1:=eM T.locks k (h,l ++ [o])
       have a2:=eM T.parties o (T.keys o,k)
       have:=H.szL
       have:=H.szP
       exact⟨hwf,cY H.ndL _ _,cY H.ndP _ _,by simp only;omega,by simp only;omega⟩
theorem LT.Fine.askOk{T:LT}{N:Nat}(H:T.Fine N)(hN:N<900)(o:Nat)(k:ByteArray) :
 (T.keys o).length<999999∧(T.line k).length<999999∧ ∀ h l,bE T.locks k=some (h,l)→T.chase o 1001 h=some (decide (T.chase o (T.parties.length+1) h=some true)):=by
 have h1:=H.wf.keys_le o
 have h2:=H.szL
 have h3:=H.szP
 have h4:=H.wf.line_le k
 refine⟨by omega,by omega,fun h l _=>?_⟩
 obtain⟨b,hb⟩:=H.wf.chase o h
 have h5:=LT.iw hb (1001-(T.parties.length+1))
 rw [show T.parties.length+1+(1001-(T.parties.length+1))=1001 by omega] at h5
 rw [h5,hb]
 cases b <;> rfl
theorem LT.Fine.qS{N:Nat}(hN:N<900000){o:Nat}{w:ByteArray}(hws:w.size=0): ∀ (r:Nat) (T:LT) (ks:List ByteArray) (came:List Nat),T.Fine N→bE T.parties o=some (ks,w)→r≤ks.length →
 (LT.pops o r T came).1.locks.length+r+came.length=T.locks.length+(LT.pops o r T came).2.length ∧
 (∀ k,k∉ks.drop (ks.length-r)→bE (LT.pops o r T came).1.locks k=bE T.locks k) ∧
 (∀ k,k∈ks.drop (ks.length-r)→(LT.pops o r T came).1.has k=(T.line k).headD 0)
 | 0,T,ks,came,H,hp,_=>by
   unfold LT.pops
   rw [Nat.sub_zero,List.drop_length]
   exact⟨by simp,fun _ _=>rfl,fun _ h=>by cases h⟩
 | r+1,T,ks,came,H,hp,hr=>by
   obtain⟨ks',k,rfl⟩: ∃ ks' k,ks=ks' ++ [k]:=by
    refine⟨ks.dropLast,ks.getLast (by intro h;subst h;simp at hr),?_⟩
    rw [List.dropLast_concat_getLast]
   obtain⟨s1,s2,s3⟩:=H.step hN hp hws
   have hlen:(ks' ++ [k]).length=ks'.length+1:=by simp
   rw [hlen] at hr ⊢
   have hk:T.keys o=ks' ++ [k]:=by unfold LT.keys;rw [hp]
   have hlast:(T.keys o).getLast? =some k:=by rw [hk];simp
   obtain⟨_,p2,p3,_⟩:=H.wf.par o _ w hp
   obtain⟨l,hg⟩:=p3 k (by simp)
   have hnk:k∉ks':=by
    rw [List.nodup_append] at p2
    intro q
    exact p2.2.2 _ q _ (List.mem_singleton.2 rfl) rfl
   have hd:(ks' ++ [k]).drop (ks'.length+1-(r+1))=ks'.drop (ks'.length-r) ++ [k]:=by
    rw [show ks'.length+1-(r+1)=ks'.length-r by omega,List.drop_append_of_le_length (by omega)]
   rw [hd]
   have hpopl:(T.pop o).locks=T.locks:=rfl
   have hline:T.line k=l:=by unfold LT.line;rw [hg]
   have key: ∃ c1,(((T.pop o).letGo k).1.locks.length+1+came.length=T.locks.length+c1.length)∧(if((T.pop o).letGo k).2=0 then came else came ++ [((T.pop o).letGo k).2])=c1∧(∀ k',k'≠k→bE ((T.pop o).letGo k).1.locks k'=bE T.locks k')∧((T.pop o).letGo k).1.has k=(T.line k).headD 0:=by
    have hgo:bE (T.pop o).locks k=some (o,l):=hg
    rw [hline]
    cases l with
    | nil=>
      have hlg:(T.pop o).letGo k=(⟨dO (T.pop o).locks k,(T.pop o).parties⟩,0):=by unfold LT.letGo;rw [hgo]
      rw [hlg]
      refine⟨came,?_,if_pos rfl,fun k' hne=>?_,?_⟩
      ·have:=kO hg
       simp only [hpopl]
       omega
      ·simp only [hpopl]
       rw [cZ H.ndL,if_neg (Ne.symm hne)]
      ·unfold LT.has
       simp only [hpopl]
       rw [cZ H.ndL,if_pos rfl]
       rfl
    | cons n rest=>
      have hn0:n≠0:=((H.wf.own k o _ hg).2.2.2.2 n (List.mem_cons_self ..)).1
      have hlg:(T.pop o).letGo k=(⟨ca (T.pop o).locks k (n,rest),ca (T.pop o).parties n ((T.pop o).keys n ++ [k],⟨#[]⟩)⟩,n):=by unfold LT.letGo;rw [hgo]
      rw [hlg]
      refine⟨came ++ [n],?_,if_neg hn0,fun k' hne=>?_,?_⟩
      ·simp only [hpopl]
       rw [cC hg,zT,List.length_singleton]
       omega
      ·simp only [hpopl]
       rw [bw,if_neg (Ne.symm hne)]
      ·unfold LT.has
       simp only [hpopl]
       rw [bw,if_pos rfl]
       rfl
   obtain⟨c1,q1,q2,q3,q4⟩:=key
   have hpops:LT.pops o (r+1) T came=LT.pops o r ((T.pop o).letGo k).1 c1:=by
    conv=>lhs;unfold LT.pops
    rw [hlast]
    simp only
    rw [q2]
   rw [hpops]
   obtain⟨i1,i2,i3⟩:=LT.Fine.qS hN hws r _ ks' c1 s2 s3 (by omega)
   have hnd:k∉ks'.drop (ks'.length-r):=fun q=>hnk (List.mem_of_mem_drop q)
   refine⟨by omega,fun k' hk'=>?_,fun k' hk'=>?_⟩
   ·rw [List.mem_append,List.mem_singleton,not_or] at hk'
    rw [i2 k' hk'.1,q3 k' hk'.2]
   ·rw [List.mem_append,List.mem_singleton] at hk'
    rcases hk' with hk'|rfl
    ·have hne:k'≠k:=fun e=>hnd (e ▸ hk')
     rw [i3 k' hk']
     unfold LT.line
     rw [q3 k' hne]
    ·rw [← q4]
     unfold LT.has
     rw [i2 k' hnd]
theorem LT.Fine.marks{T:LT}{N:Nat}(H:T.Fine N)(hN:N<900000)(o m:Nat)(ho:o≠0)(hm:m≤(T.keys o).length) :
 (T.back o (m:Int)).2.2=0∧(T.back o (m:Int)).1.keys o=(T.keys o).take m∧((T.back o (m:Int)).1.locks.length:Int)=(T.locks.length:Int)-(((T.keys o).length:Int)-m)+((T.back o (m:Int)).2.1.length:Int) ∧
   (∀ k,k∈(T.keys o).drop m→(T.back o (m:Int)).1.has k=(T.line k).headD 0)∧(T.back o (m:Int)).1.waits o=⟨#[]⟩:=by
 have hc: ¬ (o=0∨(m:Int)<0∨((T.keys o).length:Int)<m):=by omega
 cases hp:bE T.parties o with
 | none=>
   have hk:T.keys o= []:=by unfold LT.keys;rw [hp]
   have hb:T.back o (m:Int)=(T,[],0):=by unfold LT.back;rw [if_neg hc,hp]
   rw [hb,hk]
   rw [hk,List.length_nil] at hm
   refine⟨rfl,by simp [hk],by simp;omega,fun k h=>by simp at h,?_⟩
   unfold LT.waits
   rw [hp]
 | some p=>
   obtain⟨ks,w⟩:=p
   have hk:T.keys o=ks:=by unfold LT.keys;rw [hp]
   have hw:T.waits o=w:=by unfold LT.waits;rw [hp]
   obtain⟨F,w',hw',hp'⟩:=H.leave hp
   have hk1:(T.leave o).keys o=ks:=by unfold LT.keys;rw [hp']
   have hback:T.back o (m:Int)=(if((LT.pops o (ks.length-m) (T.leave o) []).1.keys o).length=0 then⟨(LT.pops o (ks.length-m) (T.leave o) []).1.locks,dO (LT.pops o (ks.length-m) (T.leave o) []).1.parties o⟩ else(LT.pops o (ks.length-m) (T.leave o) []).1,(LT.pops o (ks.length-m) (T.leave o) []).2,0):=by
    unfold LT.back
    rw [if_neg hc,hp]
    simp only [hk1,Int.toNat_natCast]
   rw [hk] at hm
   obtain⟨l1,l2,l3⟩:=LT.Fine.qS hN hw' (ks.length-m) _ ks [] F hp' (by omega)
   obtain⟨g1,g2⟩:=(LT.Fine.pops hN hw' (ks.length-m) _ ks F hp' (by omega)).2 []
   rw [show ks.length-(ks.length-m)=m by omega] at l2 l3 g2
   have hleave:(T.leave o).locks.length=T.locks.length∧ ∀ k∈ks,(T.leave o).line k=T.line k:=by
    unfold LT.leave
    rw [hw,hk]
    by_cases hws:w.size=0
    ·rw [if_pos hws]
     exact⟨rfl,fun _ _=>rfl⟩
    ·rw [if_neg hws]
     obtain⟨h,l,hg,hin⟩:=(H.wf.par o ks w hp).2.2.2 hws
     rw [hg]
     refine⟨cC hg _,fun k hkm=>?_⟩
     have hne:w≠k:=by
      rintro rfl
      obtain⟨l',hl'⟩:=(H.wf.par o ks w hp).2.2.1 w hkm
      rw [hg] at hl'
      have:=((H.wf.own w h l hg).2.2.2.2 o hin).2.1
      simp only [zw,zE] at hl'
      exact this hl'.1.symm
     unfold LT.line
     simp only
     rw [bw,if_neg hne]
   rw [hleave.1] at l1
   rw [hback,hk]
   generalize LT.pops o (ks.length-m) (T.leave o) []=r at l1 l2 l3 g1 g2 ⊢
   obtain⟨T2,came⟩:=r
   simp only at l1 l2 l3 g1 g2 ⊢
   have hk2:T2.keys o=ks.take m:=by unfold LT.keys;rw [g2]
   have hhas: ∀ k,k∈ks.drop m→T2.has k=(T.line k).headD 0:=fun k hkm=>by
    rw [l3 k hkm,hleave.2 k (List.mem_of_mem_drop hkm)]
   have hwe: ∀ w:ByteArray,w.size=0→w=⟨#[]⟩:=fun w h=>by
    obtain⟨⟨l⟩⟩:=w
    cases l with
    | nil=>rfl
    | cons a l=>cases h
   have hlenI:(T2.locks.length:Int)=(T.locks.length:Int)-((ks.length:Int)-m)+(came.length:Int):=by
    simp only [List.length_nil] at l1
    omega
   split
   ·rename_i h0
    rw [hk2] at h0
    have hnone:bE (dO T2.parties o) o=none:=by rw [cZ g1.ndP,if_pos rfl]
    refine⟨trivial,?_,hlenI,hhas,?_⟩
    ·unfold LT.keys
     simp only
     rw [hnone]
     exact(zL h0).symm
    ·unfold LT.waits
     simp only
     rw [hnone]
   ·refine⟨trivial,hk2,hlenI,hhas,?_⟩
    unfold LT.waits
    rw [g2]
    exact hwe _ hw'
theorem dY{K V:Type} [DecidableEq K]{l m:List (K×V)}(hn:(m.map (·.1)).Nodup)(hp:l.Perm m)(k:K):bE l k=bE m k:=by
 have hl:(l.map (·.1)).Nodup:=(hp.map (·.1)).nodup_iff.2 hn
 cases hg:bE m k with
 | none=>
   apply mz
   intro q
   obtain⟨x,hx,e⟩:=List.mem_map.1 q
   have hx2:=hp.mem_iff.1 hx
   have:k∈m.map (·.1):=e ▸ List.mem_map_of_mem hx2
   exact absurd hg (by
    clear hg q hl hp hn hx hx2 x e
    induction m with
    | nil=>simp at this
    | cons y m ih=>
      rw [cq]
      split
      ·simp
      ·rename_i hne
       rw [zR,List.mem_cons] at this
       rcases this with h|h
       ·exact absurd h.symm hne
       ·exact ih h)
 | some v=>
   obtain⟨A,B,rfl,_⟩:=bH hg
   have hx:(k,v)∈l:=hp.mem_iff.2 (by simp)
   clear hg hp hn
   induction l with
   | nil=>cases hx
   | cons y l ih=>
     rw [cq]
     rw [zR,List.nodup_cons] at hl
     rcases List.mem_cons.1 hx with rfl|hx
     ·rw [if_pos rfl]
     ·have hne:y.1≠k:=fun e=>hl.1 (by rw [e];exact List.mem_map_of_mem hx)
      rw [if_neg hne]
      exact ih hl.2 hx
structure LT.Like (T' T:LT):Prop where
 locks:T'.locks.Perm T.locks
 parties:T'.parties.Perm T.parties
theorem LT.Like.fine{T' T:LT}(h:T'.Like T){N:Nat}(H:T.Fine N):T'.Fine N:=by
 have e1:=fun k=>dY H.ndL h.locks k
 have e2:=fun k=>dY H.ndP h.parties k
 refine⟨⟨fun k o l hg=>?_,fun o ks w hg=>?_,?_⟩,(h.locks.map (·.1)).nodup_iff.2 H.ndL,(h.parties.map (·.1)).nodup_iff.2 H.ndP,by rw [h.locks.length_eq];exact H.szL,by rw [h.parties.length_eq];exact H.szP⟩
 ·rw [e1] at hg
  obtain⟨a1,a2,⟨ks,w,a3,a4⟩,a5,a6⟩:=H.wf.own k o l hg
  exact⟨a1,a2,⟨ks,w,by rw [e2];exact a3,a4⟩,a5,fun x hx=>by
   obtain⟨b1,b2,ks',b3⟩:=a6 x hx
   exact⟨b1,b2,ks',by rw [e2];exact b3⟩⟩
 ·rw [e2] at hg
  obtain⟨a1,a2,a3,a4⟩:=H.wf.par o ks w hg
  exact⟨a1,a2,fun k hk=>by
   obtain⟨l,hl⟩:=a3 k hk
   exact⟨l,by rw [e1];exact hl⟩,fun hw=>by
   obtain⟨h',l,hl,hin⟩:=a4 hw
   exact⟨h',l,by rw [e1];exact hl,hin⟩⟩
 ·obtain⟨rank,hr⟩:=H.wf.down
  refine⟨rank,fun o ks w hg hws=>?_⟩
  rw [e2] at hg
  obtain⟨h',l,hl,hlt⟩:=hr o ks w hg hws
  exact⟨h',l,by rw [e1];exact hl,hlt⟩
theorem LT.Like.keys{T' T:LT}(h:T'.Like T){N:Nat}(H:T.Fine N)(o:Nat):T'.keys o=T.keys o:=by unfold LT.keys;rw [dY H.ndP h.parties]
theorem LT.Like.line{T' T:LT}(h:T'.Like T){N:Nat}(H:T.Fine N)(k:ByteArray):T'.line k=T.line k:=by unfold LT.line;rw [dY H.ndL h.locks]
theorem dc{K V:Type} [DecidableEq K]{l:List (K×V)}(hn:(l.map (·.1)).Nodup){k:K}{v:V}(h:(k,v)∈l):bE l k=some v:=by
 induction l with
 | nil=>cases h
 | cons y l ih=>
   rw [cq]
   rw [zR,List.nodup_cons] at hn
   rcases List.mem_cons.1 h with rfl|hx
   ·rw [if_pos rfl]
   ·have hne:y.1≠k:=fun e=>hn.1 (by rw [e];exact List.mem_map_of_mem hx)
    rw [if_neg hne]
    exact ih hn.2 hx
theorem qo{K V:Type} [DecidableEq K]{l:List (K×V)}{k:K}(h:k∈l.map (·.1)): ∃ v,bE l k=some v:=by
 cases hg:bE l k with
 | some v=>exact⟨v,rfl⟩
 | none=>
   exfalso
   induction l with
   | nil=>simp at h
   | cons y l ih=>
     rw [cq] at hg
     split at hg
     ·cases hg
     ·rename_i hne
      rw [zR,List.mem_cons] at h
      rcases h with h|h
      ·exact hne h.symm
      ·exact ih h hg
def LT.BusyBut(T:LT)(o:Nat):Prop:= ∀ o' ks w,bE T.parties o'=some (ks,w)→o'=o∨ks≠ []∨w.size≠0
def LT.Busy(T:LT):Prop:= ∀ o ks w,bE T.parties o=some (ks,w)→ks≠ []∨w.size≠0
theorem LT.Busy.empty:LT.empty.Busy:=fun o ks w h=>by simp [LT.empty,gj] at h
theorem LT.Busy.but{T:LT}(h:T.Busy)(o:Nat):T.BusyBut o:=fun o' ks w hg=> .inr (h o' ks w hg)
theorem LT.Busy.ask{T:LT}(h:T.Busy)(o:Nat)(k:ByteArray):(T.ask o k).1.Busy:=by
 unfold LT.ask
 split
 ·exact h
 ·split
  ·exact h
  ·rename_i h1 h2
   cases hg:bE T.locks k with
   | none=>
     intro o' ks w hp
     simp only [bw] at hp
     split at hp
     ·simp only [zw,zE] at hp
      left
      rw [← hp.1]
      simp
     ·exact h o' ks w hp
   | some x=>
     obtain⟨ow,l⟩:=x
     simp only
     split
     ·exact h
     ·split
      ·exact h
      ·intro o' ks w hp
       simp only [bw] at hp
       split at hp
       ·simp only [zw,zE] at hp
        right
        rw [← hp.2]
        omega
       ·exact h o' ks w hp
def LT.mass(T:LT):Nat:=(T.locks.map fun x=>1+x.2.2.length).sum
theorem gD{l:List (ByteArray×(Nat×List Nat))}{k:ByteArray}{v:Nat×List Nat}(h:bE l k=some v)(v':Nat×List Nat):((ca l k v').map fun x=>1+x.2.2.length).sum+v.2.length=(l.map fun x=>1+x.2.2.length).sum+v'.2.length:=by
 obtain⟨A,B,rfl,hA⟩:=bH h
 rw [cN hA]
 simp only [zU,zR,List.sum_append,List.sum_cons]
 omega
theorem nh{l:List (ByteArray×(Nat×List Nat))}{k:ByteArray}(h:bE l k=none)(v':Nat×List Nat):((ca l k v').map fun x=>1+x.2.2.length).sum=(l.map fun x=>1+x.2.2.length).sum+1+v'.2.length:=by
 induction l with
 | nil=>simp [ca]
 | cons y l ih=>
   rw [cq] at h
   split at h
   ·cases h
   ·rename_i hne
    unfold ca
    rw [if_neg hne]
    simp only [zR,List.sum_cons]
    rw [ih h]
    omega
theorem ni{l:List (ByteArray×(Nat×List Nat))}{k:ByteArray}{v:Nat×List Nat}(h:bE l k=some v):((dO l k).map fun x=>1+x.2.2.length).sum+1+v.2.length=(l.map fun x=>1+x.2.2.length).sum:=by
 induction l with
 | nil=>cases h
 | cons y l ih=>
   rw [cq] at h
   unfold dO
   split at h
   ·rename_i he
    simp only [zw] at h
    rw [if_pos he]
    simp only [zR,List.sum_cons]
    rw [h]
    omega
   ·rename_i hne
    rw [if_neg hne]
    simp only [zR,List.sum_cons]
    have:=ih h
    omega
theorem LT.uN{T:LT}(o:Nat)(k:ByteArray):(T.ask o k).1.mass≤T.mass+1:=by
 unfold LT.ask LT.mass
 split
 ·exact zY _
 ·split
  ·exact zY _
  ·cases hg:bE T.locks k with
   | none=>
     simp only
     rw [nh hg]
     simp
   | some x=>
     obtain⟨ow,l⟩:=x
     simp only
     split
     ·exact zY _
     ·split
      ·exact zY _
      ·have:=gD hg (ow,l ++ [o])
       simp only [zT,List.length_singleton] at this ⊢
       omega
theorem LT.Fine.oQ{N:Nat}(hN:N<900000){o:Nat}{w:ByteArray}(hws:w.size=0): ∀ (r:Nat) (T:LT) (ks:List ByteArray) (came:List Nat),T.Fine N→bE T.parties o=some (ks,w)→r≤ks.length→T.BusyBut o →
 (∀ n∈came,n≠o∧(T.waits n).size=0∧T.keys n≠ []) →
 (LT.pops o r T came).1.mass+r=T.mass∧(LT.pops o r T came).1.BusyBut o∧(∀ n∈(LT.pops o r T came).2,n≠o∧((LT.pops o r T came).1.waits n).size=0∧(LT.pops o r T came).1.keys n≠ [])
 | 0,T,ks,came,H,hp,_,hb,hc=>by
   unfold LT.pops
   exact⟨rfl,hb,hc⟩
 | r+1,T,ks,came,H,hp,hr,hb,hc=>by
   obtain⟨ks',k,rfl⟩: ∃ ks' k,ks=ks' ++ [k]:=by
    refine⟨ks.dropLast,ks.getLast (by intro h;subst h;simp at hr),?_⟩
    rw [List.dropLast_concat_getLast]
   obtain⟨s1,s2,s3⟩:=H.step hN hp hws
   have hlen:(ks' ++ [k]).length=ks'.length+1:=by simp
   rw [hlen] at hr
   have hk:T.keys o=ks' ++ [k]:=by unfold LT.keys;rw [hp]
   have hwt:T.waits o=w:=by unfold LT.waits;rw [hp]
   have hlast:(T.keys o).getLast? =some k:=by rw [hk];simp
   obtain⟨_,p2,p3,_⟩:=H.wf.par o _ w hp
   obtain⟨l,hg⟩:=p3 k (by simp)
   have hpop:T.pop o=⟨T.locks,ca T.parties o (ks',w)⟩:=by
    unfold LT.pop
    rw [hk,hwt]
    simp
   have key:((T.pop o).letGo k).1.mass+1=T.mass∧((T.pop o).letGo k).1.BusyBut o∧(∀ n∈(if((T.pop o).letGo k).2=0 then came else came ++ [((T.pop o).letGo k).2]),n≠o∧(((T.pop o).letGo k).1.waits n).size=0∧((T.pop o).letGo k).1.keys n≠ []):=by
    have hbp:(T.pop o).BusyBut o:=by
     rw [hpop]
     intro o' ks2 w2 hg2
     simp only [bw] at hg2
     split at hg2
     ·rename_i he
      exact .inl he.symm
     ·exact hb o' ks2 w2 hg2
    have hcp: ∀ n∈came,n≠o∧((T.pop o).waits n).size=0∧(T.pop o).keys n≠ []:=fun n hn=>by
     obtain⟨c1,c2,c3⟩:=hc n hn
     have:bE (T.pop o).parties n=bE T.parties n:=by
      rw [hpop]
      simp only [bw]
      rw [if_neg (Ne.symm c1)]
     simp only [LT.waits,LT.keys] at c2 c3 ⊢
     rw [this]
     exact⟨c1,c2,c3⟩
    have hgo:bE (T.pop o).locks k=some (o,l):=hg
    have hm:(T.pop o).mass=T.mass:=rfl
    generalize T.pop o=S at hbp hcp hgo hm
    rw [← hm]
    cases l with
    | nil=>
      have hlg:S.letGo k=(⟨dO S.locks k,S.parties⟩,0):=by unfold LT.letGo;rw [hgo]
      rw [hlg,if_pos rfl]
      refine⟨?_,hbp,hcp⟩
      unfold LT.mass
      have:=ni hgo
      simp only [List.length_nil] at this ⊢
      omega
    | cons n rest=>
      obtain⟨b1,b2,_⟩:=(H.wf.own k o _ hg).2.2.2.2 n (List.mem_cons_self ..)
      have hlg:S.letGo k=(⟨ca S.locks k (n,rest),ca S.parties n (S.keys n ++ [k],⟨#[]⟩)⟩,n):=by unfold LT.letGo;rw [hgo]
      rw [hlg,if_neg b1]
      refine⟨?_,fun o' ks2 w2 hg2=>?_,fun x hx=>?_⟩
      ·unfold LT.mass
       have:=gD hgo (n,rest)
       simp only [zS] at this ⊢
       omega
      ·simp only [bw] at hg2
       split at hg2
       ·simp only [zw,zE] at hg2
        right;left
        rw [← hg2.1]
        simp
       ·exact hbp o' ks2 w2 hg2
      ·by_cases hxn:n=x
       ·subst hxn
        refine⟨b2,?_,?_⟩
        ·unfold LT.waits
         simp only [bw,if_true]
         rfl
        ·unfold LT.keys
         simp only [bw,if_true]
         simp
       ·have hxc:x∈came:=by
         rw [List.mem_append,List.mem_singleton] at hx
         rcases hx with hx|hx
         ·exact hx
         ·exact absurd hx.symm hxn
        obtain⟨c1,c2,c3⟩:=hcp x hxc
        have: ∀ y,bE (ca S.parties n y) x=bE S.parties x:=fun y=>by rw [bw,if_neg hxn]
        simp only [LT.waits,LT.keys] at c2 c3 ⊢
        rw [this]
        exact⟨c1,c2,c3⟩
   obtain⟨q1,q2,q3⟩:=key
   have hpops:LT.pops o (r+1) T came=LT.pops o r ((T.pop o).letGo k).1 (if((T.pop o).letGo k).2=0 then came else came ++ [((T.pop o).letGo k).2]):=by
    conv=>lhs;unfold LT.pops
    rw [hlast]
   rw [hpops]
   obtain⟨i1,i2,i3⟩:=LT.Fine.oQ hN hws r _ ks' _ s2 s3 (by omega) q2 q3
   exact⟨by omega,i2,i3⟩
theorem LT.pK{T:LT}{N:Nat}(H:T.Fine N){o:Nat}{ks:List ByteArray}{w:ByteArray}(hp:bE T.parties o=some (ks,w)):(T.leave o).mass≤T.mass∧((T.waits o).size=0→(T.leave o).mass=T.mass):=by
 have hw:T.waits o=w:=by unfold LT.waits;rw [hp]
 unfold LT.leave
 rw [hw]
 by_cases hws:w.size=0
 ·rw [if_pos hws]
  exact⟨zP _,fun _=>rfl⟩
 ·rw [if_neg hws]
  obtain⟨h,l,hg,hin⟩:=(H.wf.par o ks w hp).2.2.2 hws
  rw [hg]
  refine⟨?_,fun h=>absurd h hws⟩
  unfold LT.mass
  have:=gD hg (h,l.erase o)
  have hle:=List.length_erase_of_mem hin
  simp only at this ⊢
  omega
theorem LT.Busy.leave{T:LT}{N:Nat}(h:T.Busy)(H:T.Fine N){o:Nat}{ks:List ByteArray}{w:ByteArray}(hp:bE T.parties o=some (ks,w)):(T.leave o).BusyBut o:=by
 have hw:T.waits o=w:=by unfold LT.waits;rw [hp]
 unfold LT.leave
 rw [hw]
 by_cases hws:w.size=0
 ·rw [if_pos hws]
  exact h.but o
 ·rw [if_neg hws]
  obtain⟨h',l,hg,hin⟩:=(H.wf.par o ks w hp).2.2.2 hws
  rw [hg]
  intro o' ks2 w2 hg2
  simp only [bw] at hg2
  split at hg2
  ·rename_i he
   exact .inl he.symm
  ·exact .inr (h o' ks2 w2 hg2)
theorem LT.Fine.backMore{T:LT}{N:Nat}(H:T.Fine N)(hN:N<900000)(hb:T.Busy)(o:Nat)(mark:Int) :
 (T.back o mark).1.Busy∧(T.back o mark).1.mass≤T.mass∧((T.waits o).size=0→mark=0→o≠0→(T.back o mark).1.mass+(T.keys o).length=T.mass)∧(∀ n∈(T.back o mark).2.1,((T.back o mark).1.waits n).size=0∧(T.back o mark).1.keys n≠ []):=by
 by_cases hc:o=0∨mark<0∨((T.keys o).length:Int)<mark
 ·have:T.back o mark=(T,[],2):=by unfold LT.back;rw [if_pos hc]
  rw [this]
  refine⟨hb,zP _,fun _ h0 ho=>?_,fun n hn=>by cases hn⟩
  subst h0
  omega
 ·cases hp:bE T.parties o with
  | none=>
    have:T.back o mark=(T,[],0):=by unfold LT.back;rw [if_neg hc,hp]
    have hk:T.keys o= []:=by unfold LT.keys;rw [hp]
    rw [this,hk]
    exact⟨hb,zP _,fun _ _ _=>rfl,fun n hn=>by cases hn⟩
  | some p=>
    obtain⟨ks,w⟩:=p
    obtain⟨m,rfl⟩: ∃ m:Nat,mark=(m:Int):=⟨mark.toNat,by omega⟩
    have hk:T.keys o=ks:=by unfold LT.keys;rw [hp]
    obtain⟨Fl,w',hw',hp'⟩:=H.leave hp
    have hk1:(T.leave o).keys o=ks:=by unfold LT.keys;rw [hp']
    have hback:T.back o (m:Int)=(if((LT.pops o (ks.length-m) (T.leave o) []).1.keys o).length=0 then⟨(LT.pops o (ks.length-m) (T.leave o) []).1.locks,dO (LT.pops o (ks.length-m) (T.leave o) []).1.parties o⟩ else(LT.pops o (ks.length-m) (T.leave o) []).1,(LT.pops o (ks.length-m) (T.leave o) []).2,0):=by
     unfold LT.back
     rw [if_neg hc,hp]
     simp only [hk1,Int.toNat_natCast]
    obtain⟨m1,m2⟩:=LT.pK H hp
    obtain⟨q1,q2,q3⟩:=LT.Fine.oQ hN hw' (ks.length-m) _ ks [] Fl hp' (by omega) (hb.leave H hp) (fun n hn=>by cases hn)
    obtain⟨g1,g2⟩:=(LT.Fine.pops hN hw' (ks.length-m) _ ks Fl hp' (by omega)).2 []
    rw [hback,hk]
    rw [hk] at hc
    generalize LT.pops o (ks.length-m) (T.leave o) []=r at q1 q2 q3 g1 g2 ⊢
    obtain⟨T2,came⟩:=r
    simp only at q1 q2 q3 g1 g2 ⊢
    have hk2:T2.keys o=ks.take (ks.length-(ks.length-m)):=by unfold LT.keys;rw [g2]
    have hmass: ∀ P:List (Nat×(List ByteArray×ByteArray)),LT.mass ⟨T2.locks,P⟩=T2.mass:=fun _=>rfl
    split
    ·rename_i h0
     refine⟨fun o' ks2 w2 hg2=>?_,by rw [hmass];omega,fun h1 h2 _=>?_,fun n hn=>?_⟩
     ·simp only [cZ g1.ndP] at hg2
      split at hg2
      ·cases hg2
      ·rename_i hne
       rcases q2 o' ks2 w2 hg2 with h|h
       ·exact absurd h.symm hne
       ·exact h
     ·have:=m2 h1
      rw [hmass]
      omega
     ·obtain⟨c1,c2,c3⟩:=q3 n hn
      have:bE (dO T2.parties o) n=bE T2.parties n:=by rw [cZ g1.ndP,if_neg (Ne.symm c1)]
      simp only [LT.waits,LT.keys] at c2 c3 ⊢
      rw [this]
      exact⟨c2,c3⟩
    ·rename_i h0
     refine⟨fun o' ks2 w2 hg2=>?_,by omega,fun h1 h2 _=>?_,fun n hn=>(q3 n hn).2⟩
     ·rcases q2 o' ks2 w2 hg2 with h|h
      ·subst h
       rw [g2] at hg2
       simp only [zw,zE] at hg2
       left
       rw [← hg2.1]
       intro he
       rw [hk2,he] at h0
       exact h0 rfl
      ·exact h
     ·have:=m2 h1
      omega
theorem lV{A B:Type}: ∀ {P:List (A×List B)},(∀ x∈P,x.2.Nodup)→P.Pairwise (fun x y=> ∀ b∈x.2,b∉y.2)→(P.flatMap (·.2)).Nodup
 | [],_,_=>List.nodup_nil
 | x :: P,h1,h2=>by
   rw [List.pairwise_cons] at h2
   rw [List.flatMap_cons,List.nodup_append]
   refine⟨h1 x (List.mem_cons_self ..),lV (fun y hy=>h1 y (List.mem_cons_of_mem _ hy)) h2.2,fun a ha b hb e=>?_⟩
   subst e
   obtain⟨y,hy,hay⟩:=List.mem_flatMap.1 hb
   exact h2.1 y hy a ha hay
theorem LT.Fine.count{T:LT}{N:Nat}(H:T.Fine N):(T.parties.map fun x=>(T.keys x.1).length).sum=T.locks.length:=by
 have hkeys: ∀ x∈T.parties,T.keys x.1=x.2.1:=fun x hx=>by
  obtain⟨o,ks,w⟩:=x
  unfold LT.keys
  rw [dc H.ndP hx]
 have hsum:(T.parties.map fun x=>(T.keys x.1).length).sum=((T.parties.map fun x=>(x.1,x.2.1)).flatMap (·.2)).length:=by
  rw [List.length_flatMap,List.map_map]
  congr 1
  apply List.map_congr_left
  intro x hx
  simp only [Function.comp]
  rw [hkeys x hx]
 rw [hsum]
 have hnd:((T.parties.map fun x=>(x.1,x.2.1)).flatMap (·.2)).Nodup:=by
  refine lV (fun y hy=>?_) ?_
  ·obtain⟨x,hx,rfl⟩:=List.mem_map.1 hy
   obtain⟨o,ks,w⟩:=x
   exact(H.wf.par o ks w (dc H.ndP hx)).2.1
  ·rw [List.pairwise_map]
   have hp:T.parties.Pairwise fun x y=>x.1≠y.1:=by
    have:=H.ndP
    unfold List.Nodup at this
    rw [List.pairwise_map] at this
    exact this
   refine List.Pairwise.imp_of_mem (fun {x y} hx hy hne=>?_) hp
   obtain⟨o,ks,w⟩:=x
   obtain⟨o2,ks2,w2⟩:=y
   intro b hb hb2
   simp only at hb hb2 hne
   obtain⟨l,hl⟩:=(H.wf.par o ks w (dc H.ndP hx)).2.2.1 b hb
   obtain⟨l2,hl2⟩:=(H.wf.par o2 ks2 w2 (dc H.ndP hy)).2.2.1 b hb2
   rw [hl] at hl2
   simp only [zw,zE] at hl2
   exact hne hl2.1
 have h1:=dW _ (T.locks.map (·.1)) hnd (fun k hk=>by
  obtain⟨y,hy,hky⟩:=List.mem_flatMap.1 hk
  obtain⟨x,hx,rfl⟩:=List.mem_map.1 hy
  obtain⟨o,ks,w⟩:=x
  obtain⟨l,hl⟩:=(H.wf.par o ks w (dc H.ndP hx)).2.2.1 k hky
  exact gk hl)
 have h2:=dW (T.locks.map (·.1)) ((T.parties.map fun x=>(x.1,x.2.1)).flatMap (·.2)) H.ndL (fun k hk=>by
  obtain⟨⟨o,l⟩,hg⟩:=qo hk
  obtain⟨_,_,⟨ks,w,hp,hkk⟩,_⟩:=H.wf.own k o l hg
  obtain⟨A,B,hpe,_⟩:=bH hp
  refine List.mem_flatMap.2 ⟨(o,ks),?_,hkk⟩
  rw [hpe]
  simp)
 rw [List.length_map] at h1 h2
 omega
theorem LT.Fine.has_own{T:LT}{N:Nat}(H:T.Fine N){o:Nat}{k:ByteArray}(hk:k∈T.keys o):T.has k=o:=by
 unfold LT.keys at hk
 cases hp:bE T.parties o with
 | none=>rw [hp] at hk;cases hk
 | some p=>
   obtain⟨ks,w⟩:=p
   rw [hp] at hk
   obtain⟨l,hl⟩:=(H.wf.par o ks w hp).2.2.1 k hk
   unfold LT.has
   rw [hl]
abbrev RT:=List (ByteArray×(Nat×List Nat))
def lL(W:RT)(o:Nat):Option (ByteArray×(Nat×List Nat)):=W.find? fun x=>decide (o∈x.2.2)
def cJ(W:RT)(o:Nat):Option ByteArray:=(lL W o).map (·.1)
def dt(W:RT)(o:Nat):List ByteArray:=(W.filter fun x=>decide (x.2.1=o)).map (·.1)
def cf(W:RT)(o:Nat):List Nat:=match cJ W o with
 | none=> []
 | some k=>match bE W k with
   | none=> []
   | some (h,l)=>h :: l.takeWhile fun x=>decide (x≠o)
inductive RReach (W:RT) (o:Nat):Nat→Prop where
 | one {x:Nat} (h:x∈cf W o):RReach W o x
 | more {x y:Nat} (h:RReach W o x) (h':y∈cf W x):RReach W o y
open Classical in
noncomputable def j8 (W:RT) (o:Nat) (k:ByteArray):RT×Int:=
 if o=0∨k.size=0∨32<k.size then(W,2) else
 if(cJ W o).isSome then(W,7) else
 match bE W k with
 | none=>(W ++ [(k,(o,[]))],0)
 | some (h,l)=>
   if h=o then(W,0) else
   if RReach (ca W k (h,l ++ [o])) o o then(W,10) else(ca W k (h,l ++ [o]),9)
def dA(W:RT)(o:Nat):RT:=match cJ W o with
 | none=>W
 | some k=>match bE W k with
   | none=>W
   | some (h,l)=>ca W k (h,l.filter fun x=>decide (x≠o))
def gz(W:RT)(k:ByteArray):RT×List Nat:=match bE W k with
 | some (_,n :: rest)=>(dO W k ++ [(k,(n,rest))],[n])
 | _=>(dO W k,[])
def fU:List ByteArray→RT→List Nat→RT×List Nat
 | [],W,out=>(W,out)
 | k :: ks,W,out=>fU ks (gz W k).1 (out ++ (gz W k).2)
def gH(W:RT)(o:Nat)(mark:Nat):RT×List Nat:=fU ((dt (dA W o) o).drop mark).reverse (dA W o) []
structure Rel (T:LT) (W:RT):Prop where
 locks:T.locks.Perm W
 keys: ∀ o,T.keys o=dt W o
theorem Rel.empty:Rel LT.empty []:=⟨List.Perm.refl _,fun o=>rfl⟩
theorem Rel.nd{T:LT}{W:RT}{N:Nat}(h:Rel T W)(H:T.Fine N):(W.map (·.1)).Nodup:=(h.locks.map (·.1)).nodup_iff.1 H.ndL
theorem Rel.get{T:LT}{W:RT}{N:Nat}(h:Rel T W)(H:T.Fine N)(k:ByteArray):bE T.locks k=bE W k:=dY (h.nd H) h.locks k
theorem Rel.waits{T:LT}{W:RT}{N:Nat}(h:Rel T W)(H:T.Fine N)(o:Nat):cJ W o=if(T.waits o).size=0 then none else some (T.waits o):=by
 unfold cJ
 cases hf:lL W o with
 | none=>
   rw [Option.map_none]
   split
   ·rfl
   ·rename_i hw
    exfalso
    have hw':=hw
    unfold LT.waits at hw
    cases hp:bE T.parties o with
    | none=>rw [hp] at hw;exact hw rfl
    | some p=>
      obtain⟨ks,w⟩:=p
      rw [hp] at hw
      obtain⟨_,_,_,p4⟩:=H.wf.par o ks w hp
      obtain⟨q,l,hg,hin⟩:=p4 hw
      rw [h.get H] at hg
      obtain⟨A,B,e,_⟩:=bH hg
      have:=List.find?_eq_none.1 hf (w,(q,l)) (by rw [e];simp)
      exact this (by simpa using hin)
 | some x=>
   have h1:=List.find?_some hf
   have h2:=List.mem_of_find?_eq_some hf
   obtain⟨k,q,l⟩:=x
   have hin:o∈l:=by simpa using h1
   have hg:=dc (h.nd H) h2
   rw [← h.get H] at hg
   obtain⟨a1,a2,_,a4,a5⟩:=H.wf.own k q l hg
   obtain⟨_,_,ks,hp⟩:=a5 o hin
   have:T.waits o=k:=by unfold LT.waits;rw [hp]
   rw [this,if_neg a1]
   rfl
theorem gQ{o:Nat}: ∀ {l:List Nat},l.Nodup→l.filter (fun x=>decide (x≠o))=l.erase o
 | [],_=>rfl
 | x :: l,h=>by
   rw [List.nodup_cons] at h
   by_cases e:x=o
   ·subst e
    rw [List.erase_cons_head,List.filter_cons_of_neg (by simp)]
    exact List.filter_eq_self.2 fun y hy=>by simpa using fun e=>h.1 (by rw [← e];exact hy)
   ·rw [List.filter_cons_of_pos (by simpa using e),List.erase_cons_tail (by simpa using e),gQ h.2]
theorem nS{K V:Type} [DecidableEq K]{l m:List (K×V)}(hn:(m.map (·.1)).Nodup)(hp:l.Perm m)(k:K)(v:V):(ca l k v).Perm (ca m k v):=by
 have hl:(l.map (·.1)).Nodup:=(hp.map (·.1)).nodup_iff.2 hn
 have hg:=dY hn hp k
 cases h:bE m k with
 | none=>
   rw [h] at hg
   rw [my (gN.1 hg),my (gN.1 h)]
   exact hp.append_right _
 | some w=>
   rw [h] at hg
   obtain⟨A,B,rfl,a1⟩:=bH hg
   obtain⟨C,D,rfl,c1⟩:=bH h
   rw [cN a1,cN c1]
   have:((k,w) :: (A ++ B)).Perm ((k,w) :: (C ++ D)):=List.perm_middle.symm.trans (hp.trans List.perm_middle)
   exact List.perm_middle.trans (((List.perm_cons _).1 this).cons _ |>.trans List.perm_middle.symm)
theorem tK{K V:Type} [DecidableEq K]{l m:List (K×V)}(hn:(m.map (·.1)).Nodup)(hp:l.Perm m)(k:K):(dO l k).Perm (dO m k):=by
 have hg:=dY hn hp k
 cases h:bE m k with
 | none=>
   rw [h] at hg
   rw [nU (gN.1 hg),nU (gN.1 h)]
   exact hp
 | some w=>
   rw [h] at hg
   obtain⟨A,B,rfl,a1⟩:=bH hg
   obtain⟨C,D,rfl,c1⟩:=bH h
   rw [fk a1,fk c1]
   have:((k,w) :: (A ++ B)).Perm ((k,w) :: (C ++ D)):=List.perm_middle.symm.trans (hp.trans List.perm_middle)
   exact(List.perm_cons _).1 this
theorem tG{K V:Type} [DecidableEq K]{l m:List (K×V)}(hn:(m.map (·.1)).Nodup)(hp:l.Perm m){k:K}{v:V}(h:bE l k=some v)(v':V):(ca l k v').Perm (dO m k ++ [(k,v')]):=by
 have hg:=dY hn hp k
 rw [h] at hg
 obtain⟨A,B,rfl,a1⟩:=bH h
 obtain⟨C,D,rfl,c1⟩:=bH hg.symm
 rw [cN a1,fk c1]
 have:((k,v) :: (A ++ B)).Perm ((k,v) :: (C ++ D)):=List.perm_middle.symm.trans (hp.trans List.perm_middle)
 exact List.perm_middle.trans ((((List.perm_cons _).1 this).cons _).trans (List.perm_append_comm (l₁:= [(k,v')])))
theorem lN{W:RT}{k:ByteArray}{h:Nat}{l l':List Nat}(hg:bE W k=some (h,l))(o:Nat):dt (ca W k (h,l')) o=dt W o:=by
 obtain⟨A,B,rfl,a1⟩:=bH hg
 rw [cN a1]
 unfold dt
 simp only [List.filter_append,List.filter_cons,zU]
 split <;> rfl
theorem kF(W:RT)(k:ByteArray)(n:Nat)(l:List Nat)(o:Nat):dt (W ++ [(k,(n,l))]) o=dt W o ++ if n=o then [k] else []:=by
 unfold dt
 simp only [List.filter_append,List.filter_cons,List.filter_nil,zU]
 by_cases e:n=o <;> simp [e]
theorem lO{W:RT}(hn:(W.map (·.1)).Nodup){k:ByteArray}{h:Nat}{l:List Nat}(hg:bE W k=some (h,l))(o:Nat):dt (dO W k) o=(dt W o).filter fun x=>decide (x≠k):=by
 obtain⟨A,B,rfl,a1⟩:=bH hg
 rw [fk a1]
 unfold dt
 rw [zU,zR] at hn
 have hA: ∀ x∈(A.filter fun x=>decide (x.2.1=o)).map (·.1),x≠k:=fun x q e=>by
  obtain⟨y,hy,e'⟩:=List.mem_map.1 q
  exact a1 (List.mem_map.2 ⟨y,(List.mem_filter.1 hy).1,e'.trans e⟩)
 have hB: ∀ x∈(B.filter fun x=>decide (x.2.1=o)).map (·.1),x≠k:=fun x q e=>by
  obtain⟨y,hy,e'⟩:=List.mem_map.1 q
  have h2:=(List.nodup_append.1 hn).2.1
  rw [List.nodup_cons] at h2
  exact h2.1 (List.mem_map.2 ⟨y,(List.mem_filter.1 hy).1,e'.trans e⟩)
 have fA:=List.filter_eq_self.2 fun x hx=>decide_eq_true (hA x hx)
 have fB:=List.filter_eq_self.2 fun x hx=>decide_eq_true (hB x hx)
 simp only [List.filter_append,List.filter_cons,zU]
 rw [fA]
 split
 ·rw [zR,List.filter_cons_of_neg (by simp),fB]
 ·rw [fB]
theorem Rel.ask{T:LT}{W:RT}{N:Nat}(h:Rel T W)(H:T.Fine N)(o:Nat)(k:ByteArray)(hc: ∀ q l,bE W k=some (q,l)→q≠o→(T.waits o).size=0→(T.chase o (T.parties.length+1) q=some true↔RReach (ca W k (q,l ++ [o])) o o)) :
 Rel (T.ask o k).1 (j8 W o k).1∧(j8 W o k).2=(T.ask o k).2:=by
 unfold LT.ask j8
 by_cases h0:o=0∨k.size=0∨32<k.size
 ·rw [if_pos h0,if_pos h0];exact⟨h,rfl⟩
 rw [if_neg h0,if_neg h0]
 rw [h.waits H]
 by_cases hw:(T.waits o).size=0
 ·rw [if_pos hw,if_neg (by simpa using hw),if_neg (by simp)]
  rw [h.get H]
  have hn:=h.nd H
  cases hg:bE W k with
  | none=>
    refine⟨⟨?_,fun o'=>?_⟩,rfl⟩
    ·have hg':=hg
     rw [← h.get H] at hg'
     show(ca T.locks k (o,[])).Perm _
     rw [my (gN.1 hg')]
     exact h.locks.append_right _
    ·show LT.keys ⟨_,ca T.parties o (T.keys o ++ [k],⟨#[]⟩)⟩ o'=dt (W ++ [(k,(o,[]))]) o'
     rw [kF,←h.keys]
     unfold LT.keys
     rw [bw]
     by_cases e:o=o'
     ·subst e;rw [if_pos rfl,if_pos rfl]
     ·rw [if_neg e,if_neg e,List.append_nil]
  | some x=>
    obtain⟨q,l⟩:=x
    dsimp only
    by_cases e:q=o
    ·rw [if_pos e,if_pos e];exact⟨h,rfl⟩
    rw [if_neg e,if_neg e]
    by_cases hr:T.chase o (T.parties.length+1) q=some true
    ·rw [if_pos hr,if_pos ((hc q l hg e hw).1 hr)];exact⟨h,rfl⟩
    ·rw [if_neg hr,if_neg fun x=>hr ((hc q l hg e hw).2 x)]
     refine⟨⟨nS hn h.locks k _,fun o'=>?_⟩,rfl⟩
     rw [lN hg,←h.keys]
     unfold LT.keys
     rw [bw]
     by_cases e':o=o'
     ·subst e';rw [if_pos rfl]
     ·rw [if_neg e']
 ·rw [if_neg hw,if_pos (by simpa using hw),if_pos (by simp)]
  exact⟨h,rfl⟩
theorem LT.gX(T:LT)(L:List (ByteArray×(Nat×List Nat)))(o:Nat)(ks:List ByteArray)(w:ByteArray)(o':Nat):LT.keys ⟨L,ca T.parties o (ks,w)⟩ o'=if o=o' then ks else T.keys o':=by
 unfold LT.keys
 rw [bw]
 by_cases e:o=o'
 ·rw [if_pos e,if_pos e]
 ·rw [if_neg e,if_neg e]
theorem Rel.leave{T:LT}{W:RT}{N:Nat}(h:Rel T W)(H:T.Fine N)(o:Nat):Rel (T.leave o) (dA W o):=by
 unfold LT.leave dA
 rw [h.waits H]
 by_cases hw:(T.waits o).size=0
 ·rw [if_pos hw,if_pos hw];exact h
 ·rw [if_neg hw,if_neg hw]
  dsimp only
  rw [h.get H]
  cases hg:bE W (T.waits o)with
  | none=>exact h
  | some x=>
    obtain⟨q,l⟩:=x
    have hl:l.Nodup:=by
     have hg':=hg
     rw [← h.get H] at hg'
     exact(H.wf.own _ _ _ hg').2.2.2.1
    dsimp only
    rw [gQ hl]
    refine⟨nS (h.nd H) h.locks _ _,fun o'=>?_⟩
    rw [lN hg,←h.keys,LT.gX]
    by_cases e:o=o'
    ·subst e;rw [if_pos rfl]
    ·rw [if_neg e]
theorem Rel.step{T:LT}{W:RT}{N:Nat}(h:Rel T W)(H:T.Fine N){o:Nat}{ks:List ByteArray}{k w:ByteArray}(hp:bE T.parties o=some (ks ++ [k],w)) :
 Rel ((T.pop o).letGo k).1 (gz W k).1∧ ∀ came:List Nat,(if((T.pop o).letGo k).2=0 then came else came ++ [((T.pop o).letGo k).2])=came ++ (gz W k).2:=by
 have hko:T.keys o=ks ++ [k]:=by unfold LT.keys;rw [hp]
 have hpop:T.pop o=⟨T.locks,ca T.parties o (ks,T.waits o)⟩:=by
  unfold LT.pop
  rw [hko,List.dropLast_concat]
 obtain⟨_,p2,p3,_⟩:=H.wf.par o _ w hp
 obtain⟨l,hg⟩:=p3 k (by simp)
 have hgW:=hg
 rw [h.get H] at hgW
 have hn:=h.nd H
 have hnk:k∉ks:=fun q=>by
  have:=(List.nodup_append.1 p2).2.2 k q k (by simp)
  exact this rfl
 have hfil: ∀ o',(T.keys o').filter (fun x=>decide (x≠k))=if o=o' then ks else T.keys o':=fun o'=>by
  by_cases e:o=o'
  ·subst e
   rw [if_pos rfl,hko,List.filter_append,List.filter_cons_of_neg (by simp),List.filter_nil,List.append_nil]
   exact List.filter_eq_self.2 fun x hx=>decide_eq_true fun q=>hnk (q ▸ hx)
  ·rw [if_neg e]
   refine List.filter_eq_self.2 fun x hx=>decide_eq_true fun q=>?_
   subst q
   have h2:=H.has_own hx
   unfold LT.has at h2
   rw [hg] at h2
   exact e h2
 cases l with
 | nil=>
   have hgo:(T.pop o).letGo k=(⟨dO T.locks k,ca T.parties o (ks,T.waits o)⟩,0):=by
    rw [hpop]
    unfold LT.letGo
    rw [hg]
   have hgr:gz W k=(dO W k,[]):=by
    unfold gz
    rw [hgW]
   rw [hgo,hgr]
   refine⟨⟨tK hn h.locks k,fun o'=>?_⟩,fun came=>by simp⟩
   rw [lO hn hgW,←h.keys,hfil,LT.gX]
 | cons n rest=>
   obtain⟨_,_,_,_,a5⟩:=H.wf.own k o _ hg
   obtain⟨n0,no,kn,hpn⟩:=a5 n (by simp)
   have hgo:(T.pop o).letGo k=(⟨ca T.locks k (n,rest),ca (ca T.parties o (ks,T.waits o)) n (T.keys n ++ [k],⟨#[]⟩)⟩,n):=by
    rw [hpop]
    unfold LT.letGo
    rw [hg]
    dsimp only
    rw [LT.gX,if_neg (Ne.symm no)]
   have hgr:gz W k=(dO W k ++ [(k,(n,rest))],[n]):=by
    unfold gz
    rw [hgW]
   rw [hgo,hgr]
   refine⟨⟨tG hn h.locks hg _,fun o'=>?_⟩,fun came=>by rw [if_neg n0]⟩
   rw [kF,lO hn hgW,←h.keys,hfil]
   refine(LT.gX ⟨T.locks,ca T.parties o (ks,T.waits o)⟩ (ca T.locks k (n,rest)) n (T.keys n ++ [k]) ⟨#[]⟩ o').trans ?_
   rw [LT.gX]
   by_cases e:n=o'
   ·subst e
    rw [if_pos rfl,if_pos rfl,if_neg (Ne.symm no)]
   ·rw [if_neg e,if_neg e,List.append_nil]
theorem Rel.pops{N:Nat}(hN:N<900000){o:Nat}{w:ByteArray}(hws:w.size=0): ∀ (r:Nat) (T:LT) (W:RT) (ks:List ByteArray) (came:List Nat),T.Fine N→Rel T W→bE T.parties o=some (ks,w)→r≤ks.length →
 Rel (LT.pops o r T came).1 (fU (ks.drop (ks.length-r)).reverse W came).1∧(LT.pops o r T came).2=(fU (ks.drop (ks.length-r)).reverse W came).2∧(LT.pops o r T came).1.Fine N
 | 0,T,W,ks,came,H,h,hp,_=>by
   rw [Nat.sub_zero,List.drop_length]
   exact⟨h,rfl,H⟩
 | r+1,T,W,ks,came,H,h,hp,hr=>by
   rcases List.eq_nil_or_concat ks with rfl|⟨ks',k,rfl⟩
   ·simp at hr
   ·rw [List.concat_eq_append] at hp hr ⊢
    have hko:T.keys o=ks' ++ [k]:=by unfold LT.keys;rw [hp]
    rw [zT,List.length_singleton] at hr
    have hd:((ks' ++ [k]).drop ((ks' ++ [k]).length-(r+1))).reverse=k :: (ks'.drop (ks'.length-r)).reverse:=by
     rw [zT,List.length_singleton,show ks'.length+1-(r+1)=ks'.length-r by omega,List.drop_append_of_le_length (by omega),List.reverse_append]
     rfl
    rw [hd]
    obtain⟨_,s2,s3⟩:=H.step hN hp hws
    obtain⟨r1,r2⟩:=h.step H hp
    show Rel (LT.pops o (r+1) T came).1 _∧_∧_
    unfold LT.pops fU
    rw [hko,List.getLast?_concat]
    dsimp only
    rw [r2 came]
    exact Rel.pops hN hws r _ _ ks' _ s2 r1 s3 (by omega)
theorem Rel.gone{T:LT}{W:RT}{N:Nat}(h:Rel T W)(H:T.Fine N){o:Nat}(h0:T.keys o= []):Rel ⟨T.locks,dO T.parties o⟩ W:=by
 refine⟨h.locks,fun o'=>?_⟩
 rw [← h.keys]
 unfold LT.keys
 rw [cZ H.ndP]
 by_cases e:o=o'
 ·subst e
  rw [if_pos rfl]
  exact h0.symm
 ·rw [if_neg e]
theorem Rel.back{T:LT}{W:RT}{N:Nat}(h:Rel T W)(H:T.Fine N)(hN:N<900000)(o m:Nat)(ho:o≠0)(hm:m≤(T.keys o).length) :
 Rel (T.back o m).1 (gH W o m).1∧(T.back o m).2.1=(gH W o m).2∧(T.back o m).2.2=0:=by
 have hl:=h.leave H o
 unfold LT.back gH
 rw [if_neg (by omega)]
 cases hp:bE T.parties o with
 | none=>
   have hk:T.keys o= []:=by unfold LT.keys;rw [hp]
   have hw:(T.waits o).size=0:=by unfold LT.waits;rw [hp];rfl
   have hle:dA W o=W:=by unfold dA;rw [h.waits H,if_pos hw]
   rw [hle,←h.keys,hk,List.drop_nil]
   exact⟨h,rfl,rfl⟩
 | some p=>
   obtain⟨ks,w⟩:=p
   obtain⟨F,w',hw',hp'⟩:=H.leave hp
   have hk:(T.leave o).keys o=ks:=by unfold LT.keys;rw [hp']
   have hk0:T.keys o=ks:=by unfold LT.keys;rw [hp]
   rw [hk0] at hm
   rw [← hl.keys,hk]
   dsimp only
   rw [hk,Int.toNat_natCast]
   obtain⟨q1,q2,q3⟩:=Rel.pops hN hw' (ks.length-m) _ _ ks [] F hl hp' (by omega)
   rw [show ks.length-(ks.length-m)=m by omega] at q1 q2
   generalize LT.pops o (ks.length-m) (T.leave o) []=r at q1 q2 q3 ⊢
   obtain⟨T2,came⟩:=r
   dsimp only at q1 q2 q3 ⊢
   refine⟨?_,q2,rfl⟩
   by_cases h0:(T2.keys o).length=0
   ·rw [if_pos h0]
    exact q1.gone q3 (zL h0)
   ·rw [if_neg h0]
    exact q1
end Go.Proofs.Ytckajlllkmkniaa
end
section
namespace Go.Sy
open Go Go.Sl Go.RowKit
section
variable {P:Program}
theorem rL{t e:TypeId}{a:Option Addr}{n c n' c':Nat}(m:Nat)(hu:P.underlying t=some (.slice e))(w:World):(Op.equalIn (m+1) t (.slice a n c) (.slice none n' c')).run P w = .ok a.isNone w:=by
 cases a <;> simp [Op.equalIn,run_underlying hu]
theorem wc{t e:TypeId}{a:Option Addr}{n c n' c':Nat}(hu:P.underlying t=some (.slice e))(w:World):(Op.equal t (.slice a n c) (.slice none n' c')).run P w = .ok a.isNone w:=rL 9999 hu w
theorem ti{T:Tr SV}{H:aV}{nx:Nat}{d:Option Tmp}{ty:TypeId}{pos:String}{af:Array Edge}{gd:Option (Nat×Bool)}{t yt el:TypeId}{x y:Operand}{r eo n:Nat}{O:Out→Prop}(hx:ar T x=some (.slu r eo n))(hy:ar T y=some (.sc (.slice none 0 0)))(hu:P.underlying t=some (.slice el)){rr:Bool}{ne sz:Nat}{rt:TypeId}{c:Tr SV}(hb:H.at' r=some (.row rr ne sz rt c))(h1:ne=0→O (.val (.sc (.bool true)),H,nx))(h2:O (.val (.sc (.bool false)),H,nx)):yh P T H nx ⟨d,.binOp .eql t x y yt,ty,pos,af,gd⟩ O:=by
 intro K w0 e w ev hS hE
 have e1:=hE x _ hx
 have e2:=hE y _ hy
 simp only [SV.conc,zF] at e1
 obtain⟨z,hz,e1⟩:=e1
 simp only [SV.conc,zw] at e2
 have hr:(execOp ev ⟨d,.binOp .eql t x y yt,ty,pos,af,gd⟩).run P w = .ok (.value (.bool (z.at eo).isNone)) w:=by
  simp only [execOp,←e1,←e2]
  have hg:(eqGuard .eql t x y (.slice (z.at eo) n (z.cap-eo)) (.slice none 0 0)).run P w = .ok () w:=rfl
  have hb:(binOp .eql t (.slice (z.at eo) n (z.cap-eo)) (.slice none 0 0)).run P w = .ok (.bool (z.at eo).isNone) w:=by
   simp only [binOp,Sem.run_bind,wc hu,Result.andThen_ok,Sem.run_pure]
  simp only [Sem.run_bind,hg,hb,Result.andThen_ok,Sem.run_pure]
 cases hc:(z.at eo).isNone with
 | true=>
   have h0:ne=0:=by
    rcases Nat.eq_zero_or_pos ne with h|h
    ·exact h
    ·obtain⟨z2,hz2,hlz⟩:=hS.rel _ _ hb
     rw [hz] at hz2;cases hz2
     have h3:=(Lies.row hlz).2.2.1 h
     rw [Ent.dz h3] at hc;cases hc
   exact⟨_,h1 h0,e,w,Env.le_refl e,hS,.bool true,rfl,by rw [hr,hc]⟩
 | false=>exact⟨_,h2,e,w,Env.le_refl e,hS,.bool false,rfl,by rw [hr,hc]⟩
theorem pU{ro:Option Nat}{fn nt nx:Nat}{T:Tr SV}{k:List AIt}{dfs:List ADf}{H:aV}{Q:Pst}{ops:Array Oper}{i:Nat}{l:List Oper}{ty:TypeId}{pos:String}{af:Array Edge}{gd:Option (Nat×Bool)}{t yt el:TypeId}{x y:Operand}{r eo n:Nat}{dd:Nat}(hw:aA T ops ⟨some dd,.binOp .eql t x y yt,ty,pos,af,gd⟩=some true)(hd:Nat.blt dd nt=true)
 (hx:ar T x=some (.slu r eo n)) (hy:ar T y=some (.sc (.slice none 0 0))) (hu:P.underlying t=some (.slice el)) {rr:Bool} {ne sz:Nat} {rt:TypeId} {c:Tr SV} (hb:H.at' r=some (.row rr ne sz rt c))
 (h1:ne=0→Wp P ro ⟨fn,nt,T.set dd (.sc (.bool true)),.inReg ops (i+1) l :: k,dfs,H,nx⟩ Q) (h2:Wp P ro ⟨fn,nt,T.set dd (.sc (.bool false)),.inReg ops (i+1) l :: k,dfs,H,nx⟩ Q):Wp P ro ⟨fn,nt,T,.inReg ops i (⟨some dd,.binOp .eql t x y yt,ty,pos,af,gd⟩ :: l) :: k,dfs,H,nx⟩ Q:=
 .step (.inr ⟨hw,.inr (fun _ h=>by cases h),ti hx hy hu hb (fun h0=>by show Wp _ _ _ _;rw [aK hd];exact h1 h0) (by show Wp _ _ _ _;rw [aK hd];exact h2)⟩)
theorem nc{ro:Option Nat}{fn nt nx:Nat}{T:Tr SV}{k:List AIt}{dfs:List ADf}{H:aV}{Q:Pst}{ops:Array Oper}{i:Nat}{l:List Oper}{ty:TypeId}{pos:String}{af:Array Edge}{gd:Option (Nat×Bool)}{K V:Type} [DecidableEq K]{enc:K→Value}{val:V→SV}{m:List (K×V×Nat)}{c:Nat}{t kt e:TypeId}{x y:Operand}{b:Nat}{kk:K}(hw:aA T ops ⟨none,.call {callee:= .builtin .delete,args:= #[x,y],argTypes:= #[t,kt]},ty,pos,af,gd⟩=some true)(hx:ar T x=some (.mp b))(hy:ar T y=some (.sc (enc kk)))(hu:P.underlying t=some (.map kt e))(hE:KEnc P kt enc)(hb:H.at' b=some (iN enc val m c))
 (h:Wp P ro ⟨fn,nt,T,.inReg ops (i+1) l :: k,dfs,(H.set b (iN enc val (ik m kk) c)),nx⟩ Q):Wp P ro ⟨fn,nt,T,.inReg ops i (⟨none,.call {callee:= .builtin .delete,args:= #[x,y],argTypes:= #[t,kt]},ty,pos,af,gd⟩ :: l) :: k,dfs,H,nx⟩ Q:=
 bS hw (.inr (fun _ h=>by cases h)) (th hx hy hu hE hb) h
theorem St.shrink{K:Zone}{w0 w:World}{e:Env}{H:aV}{nx:Nat}(hS:St K w0 e H nx w){b:Nat}{ro:Bool}{ne ne' sz:Nat}{t:TypeId}{c c':Tr SV}(hb:H.at' b=some (.row ro ne sz t c))(hn:ne'≤ne)(hc: ∀ i,i<ne'*sz→ ∀ s,c'.at' i=some s→c.at' i=some s):St K w0 e (H.set b (.row ro ne' sz t c')) nx w:=by
 have hro: ∀ {id:Nat} {vo:VO},(H.set b (.row ro ne' sz t c')).at' id=some vo→ ∃ vo0,H.at' id=some vo0∧vo0.ro=vo.ro:=fun {id vo} h=>by
  rcases Tr.bM h with ⟨rfl,rfl⟩|⟨_,h⟩
  ·exact⟨_,hb,rfl⟩
  ·exact⟨_,h,rfl⟩
 refine⟨hS.below,fun id vo h=>?_,fun id id' vo vo' x x' h h' hx hx' hne h1 h2 h3 h4=>?_,hS.fresh⟩
 ·rcases Tr.bM h with ⟨rfl,rfl⟩|⟨_,h⟩
  ·obtain⟨x,hx,hl⟩:=hS.rel _ _ hb
   refine⟨x,hx,?_⟩
   rcases hl with ⟨h0,o,hz,h2,h3⟩|⟨h0,h1,ro2,t2,c2,h2,h3⟩
   ·refine .inl ⟨h0,o,hz,h2,?_⟩
    obtain⟨g1,cs,fz,tt,g2,g3,g4,g5,g6,g7,g8⟩:=h3
    exact⟨g1,cs,fz,tt,g2,by omega,g4,g5,g6,g7,fun i hi s hs=>g8 i (Nat.lt_of_lt_of_le hi (Nat.mul_le_mul_right _ hn)) s (hc i hi s hs)⟩
   ·simp only [VO.row.injEq] at h2
    obtain⟨rfl,rfl,rfl,rfl,rfl⟩:=h2
    exact .inr ⟨h0,h1,_,_,_,by rw [show ne'=0 by omega],h3⟩
  ·exact hS.rel _ _ h
 ·obtain⟨v1,k1,k2⟩:=hro h
  obtain⟨v2,k3,k4⟩:=hro h'
  exact hS.inj id id' v1 v2 x x' k1 k3 hx hx' hne h1 h2 (k2.trans h3) (k4.trans h4)
theorem pQ{ro:Option Nat}{fn nt nx:Nat}{T:Tr SV}{k:List AIt}{dfs:List ADf}{H:aV}{Q:Pst}(b:Nat){rr:Bool}(ne':Nat){ne sz:Nat}{t:TypeId}{vs:List Value}(hb:H.at' b=some (dat rr ne sz t vs))(hn:ne'≤ne)
 (h:Wp P ro ⟨fn,nt,T,k,dfs,H.set b (dat rr ne' sz t (vs.take (ne'*sz))),nx⟩ Q):Wp P ro ⟨fn,nt,T,k,dfs,H,nx⟩ Q:=by
 refine⟨fun K w0 e w tmps todo ds kd rof cs hS hTr htd hds hc2=>h.run K w0 e w tmps todo ds kd rof cs (hS.shrink hb hn fun i hi s hs=>?_) hTr htd hds hc2⟩
 simp only [Tr.at',List.getElem?_take,zF] at hs ⊢
 obtain⟨u,hu,rfl⟩:=hs
 rw [if_pos hi] at hu
 exact⟨u,hu,rfl⟩
theorem b4{ro:Option Nat}{fn nt nx:Nat}{T:Tr SV}{k:List AIt}{dfs:List ADf}{H:aV}{Q:Pst}(h:(∀ b vo,H.at' b=some vo→b<nx)→Wp P ro ⟨fn,nt,T,k,dfs,H,nx⟩ Q):Wp P ro ⟨fn,nt,T,k,dfs,H,nx⟩ Q:=by
 refine⟨fun K w0 e w tmps todo ds kd rof cs hS hTr htd hds hc2=>(h fun b vo hb=>?_).run K w0 e w tmps todo ds kd rof cs hS hTr htd hds hc2⟩
 obtain⟨x,hx,_⟩:=hS.rel _ _ hb
 rcases Nat.lt_or_ge b nx with hlt|hge
 ·exact hlt
 ·have h2:=hS.fresh _ hge
  rw [h2] at hx;cases hx
theorem lR{T:Tr SV}{H:aV}{nx:Nat}{d:Option Tmp}{ty:TypeId}{pos:String}{af:Array Edge}{gd:Option (Nat×Bool)}{t tx el rt:TypeId}{sz r eo n ne sz':Nat}{rr:Bool}{c:Tr SV}{s x:Operand}{v:SV}{vs:List Value}(hu:P.underlying t=some (.slice el))(hk:(∃ e',P.underlying tx=some (.slice e'))∨P.underlying tx=some .string)(hs:bC P el=some sz)(h0:0<sz)
 (hx0:ar T s=some (.slu r eo n)) (hx:ar T x=some v) (hro:H.at' r=some (.row rr ne sz' rt c)) (hn:eo+n≤ne) (hr:RdV P H sz v 0 vs) (h1:qg vs) :
 OpDoes P T H nx ⟨d,.call {callee:= .builtin .append,args:= #[s,x],argTypes:= #[t,tx]},ty,pos,af,gd⟩ (.val (.slu r eo n),H,nx):=by
 have hap:dg P H nx el (.slu r eo n) v=some (.val (.slu r eo n),H,nx):=by
  unfold dg
  rw [hs]
  cases sz with
  | zero=>omega
  | succ sz=>
    simp only
    rw [show aZ H (sz+1) v=some (0,vs.map .sc)from hr]
    simp only [jt h1,Bool.not_true,cond_false]
    rw [hro]
    simp only [Nat.beq_refl,cond_true,show Nat.ble (eo+n) ne=true from zD hn]
 refine gq ?_
 rcases hk with ⟨e',hk⟩|hk <;> simp only [fe,dy,hx0,hx,zW,dI,eP,hu,hk,hap]
theorem ng{ro:Option Nat}{fn nt nx:Nat}{T:Tr SV}{k:List AIt}{dfs:List ADf}{H:aV}{Q:Pst}{ops:Array Oper}{i:Nat}{l:List Oper}{ty:TypeId}{pos:String}{af:Array Edge}{gd:Option (Nat×Bool)}{t tx el rt:TypeId}{sz r eo n ne sz':Nat}{rr:Bool}{c:Tr SV}{s x:Operand}{v:SV}{vs:List Value}{dd:Nat}(hw:aA T ops ⟨some dd,.call {callee:= .builtin .append,args:= #[s,x],argTypes:= #[t,tx]},ty,pos,af,gd⟩=some true)(hd:Nat.blt dd nt=true)(hx0:ar T s=some (.slu r eo n))(hx:ar T x=some v)(hu:P.underlying t=some (.slice el))(hk:(∃ e',P.underlying tx=some (.slice e'))∨P.underlying tx=some .string)(hs:bC P el=some sz)(h0:Nat.blt 0 sz=true)(hro:H.at' r=some (.row rr ne sz' rt c))(hn:eo+n≤ne)(hr:RdV P H sz v 0 vs)(h1:qg vs)
 (h:Wp P ro ⟨fn,nt,T.set dd (.slu r eo n),.inReg ops (i+1) l :: k,dfs,H,nx⟩ Q):Wp P ro ⟨fn,nt,T,.inReg ops i (⟨some dd,.call {callee:= .builtin .append,args:= #[s,x],argTypes:= #[t,tx]},ty,pos,af,gd⟩ :: l) :: k,dfs,H,nx⟩ Q:=
 bS hw (.inr (fun _ h=>by cases h)) (lR hu hk hs (bJ h0) hx0 hx hro hn hr h1) (by rw [aK hd];exact h)
end
section
variable {P:Program} {T:Tr SV} {H:aV} {nx:Nat} {d:Option Tmp} {ty:TypeId} {pos:String} {af:Array Edge} {gd:Option (Nat×Bool)}
theorem uW{ro:Option Nat}{fn nt:Nat}{T:Tr SV}{k:List AIt}{dfs:List ADf}{H:aV}{nx:Nat}{Q:Pst}{t r n ne sz:Nat}{rr:Bool}{rt:TypeId}{c:Tr SV}(hT:T.at' t=some (.slu r 0 n))(hb:H.at' r=some (.row rr ne sz rt c))(h0:0<ne)(hn:n≤ne)
 (h: ∀ C,ne≤C→Wp P ro ⟨fn,nt,T.set t (.sl r 0 n C),k,dfs,H,nx⟩ (fun q=> ∃ m,q.1 = .sl r 0 m C∧Q (.slu r 0 m,q.2))):Wp P ro ⟨fn,nt,T,k,dfs,H,nx⟩ Q:=by
 refine⟨fun K w0 e w tmps todo ds kd rof cs hS hTr htd hds hc2=>?_⟩
 obtain⟨z,hz,hlz⟩:=hS.rel _ _ hb
 obtain⟨g1,g2,g3,g4⟩:=Lies.row hlz
 have hnil:=g3 h0
 have hT2:TRel e nt (T.set t (.sl r 0 n z.cap)) tmps:=by
  refine⟨hTr.1,fun t' u hs=>?_⟩
  rcases Tr.bM hs with ⟨rfl,rfl⟩|⟨_,hs⟩
  ·obtain⟨v,f1,f2⟩:=hTr.2 _ _ hT
   refine⟨v,?_,f2⟩
   rw [← f1]
   simp [SV.conc,hz,Ent.dz hnil]
  ·exact hTr.2 _ _ hs
 obtain⟨q,⟨m,hq,hQ⟩,e',w',v,hle,hSt,hcv,hm⟩:=(h z.cap g4).run K w0 e w tmps todo ds kd rof cs hS hT2 htd hds hc2
 refine⟨(.slu r 0 m,q.2),hQ,e',w',v,hle,hSt,?_,hm⟩
 rw [hq] at hcv
 rw [← hcv]
 have hz':=hle _ _ hz
 simp [SV.conc,hz',Ent.dz hnil]
theorem sT{t el:TypeId}{x:Operand}{lo hi:Option Operand}{b o n C l h o':Nat}(hu:P.underlying t=some (.slice el))(hs:bC P el=some 1)(hx:ar T x=some (.sl b o n C))(hl:gZ T 0 lo l)(hh:gZ T n hi h)(h1:l≤h)(h2:h≤C)(ho:(if C=l then o else o+l)=o'):ReadDoes P T H ⟨d,.slice t x lo hi none,ty,pos,af,gd⟩ (.sl b o' (h-l) (C-l)):=by
 refine eF ?_
 unfold gZ at hl hh
 have hmx:natOr T C none=some C:=rfl
 simp only [cU,hx,zW,gF,hu,hs,hl,hh,hmx]
 rw [show Nat.ble l h=true from zD h1,show Nat.ble h C=true from zD h2,show Nat.ble C C=true from zD (zP _)]
 subst ho
 by_cases hc:C=l
 ·subst hc;simp
 ·have:Nat.beq C l=false:=by cases hq:Nat.beq C l with|false=>rfl|true=>exact absurd (Nat.eq_of_beq_eq_true hq) hc
  simp [this,hc]
theorem xC{t el:TypeId}{x:Operand}{lo hi mx:Operand}{b o n C l h m:Nat}(hu:P.underlying t=some (.slice el))(hs:bC P el=some 1)(hx:ar T x=some (.sl b o n C))(hl:gZ T 0 (some lo) l)(hh:gZ T n (some hi) h)(hm:gZ T C (some mx) m)(h1:l≤h)(h2:h≤m)(h3:m≤C):ReadDoes P T H ⟨d,.slice t x (some lo) (some hi) (some mx),ty,pos,af,gd⟩ (.sl b (bif Nat.beq m l then o else o+l*1) (h-l) (m-l)):=by
 refine eF ?_
 unfold gZ at hl hh hm
 simp only [cU,hx,zW,gF,hu,hs,hl,hh,hm]
 rw [show Nat.ble l h=true from zD h1,show Nat.ble h m=true from zD h2,show Nat.ble m C=true from zD h3]
 simp
theorem pd{t:TypeId}{e:TypeId}{x:Operand}{b o n C:Nat}(hu:P.underlying t=some (.slice e))(hx:ar T x=some (.sl b o n C)):ReadDoes P T H ⟨d,.call {callee:= .builtin .len,args:= #[x],argTypes:= #[t]},ty,pos,af,gd⟩ (.sc (.int .i64 n)):=by
 refine eF ?_
 simp only [cU,kP,hx,zW,vZ,hu]
theorem yP{o n ne C b:Nat}{ro:Bool}{t:TypeId}{vs us:List Value}(hb:H.at' b=some (dat ro ne 1 t vs))(hn:o+n≤ne)(hu:(vs.drop o).take n=us)(hl:us.length=n):RdV P H 1 (.sl b o n C) n us:=by
 unfold RdV
 simp only [aZ,hb]
 subst hu
 have:=fi (ro:=ro) (ne:=ne) (sz:=1) (t:=t) (vs:=vs) (n*1) o rfl (by rw [Nat.mul_one];exact hl) (by omega)
 rw [this,Nat.mul_one]
 rfl
theorem vU{t tx el:TypeId}{m b o n C ne:Nat}{rt:TypeId}{s x:Operand}{v:SV}{us vs ws:List Value}(hu:P.underlying t=some (.slice el))(hk:(∃ e',P.underlying tx=some (.slice e'))∨P.underlying tx=some .string)(hs:bC P el=some 1)
 (hx0:ar T s=some (.sl b o n C)) (hx:ar T x=some v) (hb:H.at' b=some (dat false ne 1 rt us)) (hr:RdV P H 1 v m vs) (h1:qg vs) (hm:n+m≤C) (hne:o+n+m≤ne) (hvl:vs.length=m) (hul:us.length=ne) (hws:us.take (o+n) ++ vs ++ us.drop (o+n+m)=ws) :
 OpDoes P T H nx ⟨d,.call {callee:= .builtin .append,args:= #[s,x],argTypes:= #[t,tx]},ty,pos,af,gd⟩ (.val (.sl b o (n+m) C),H.set b (dat false ne 1 rt ws),nx):=by
 have hap:dg P H nx el (.sl b o n C) v=some (.val (.sl b o (n+m) C),H.set b (dat false ne 1 rt ws),nx):=by
  unfold dg
  rw [hs]
  simp only
  rw [show aZ H 1 v=some (m,vs.map .sc)from hr]
  simp only [jt h1,Bool.not_true,cond_false]
  rw [show Nat.ble (n+m) C=true from zD hm,hb]
  simp only [cond_true,Nat.mul_one]
  rw [fG vs us (o+n) (by omega) (by omega) h1,hvl,hws]
 refine gq ?_
 rcases hk with ⟨e',hk⟩|hk <;> simp only [fe,dy,hx0,hx,zW,dI,eP,hu,hk,hap]
theorem tj{t el:TypeId}{b o n C ne:Nat}{rt:TypeId}{x:Operand}{z:Value}{us ws:List Value}(hu:P.underlying t=some (.slice el))(hz:c6 P el=some z)(hx:ar T x=some (.sl b o (n+1) C))(hb:H.at' b=some (dat false ne 1 rt us))(hne:o+(n+1)≤ne)(hul:us.length=ne)(hzl:(Builtin.zeroCells z.cells (n+1)).size=n+1)(h1:qg (Builtin.zeroCells z.cells (n+1)).toList)(hws:us.take o ++ (Builtin.zeroCells z.cells (n+1)).toList ++ us.drop (o+(n+1))=ws) :
 OpDoes P T H nx ⟨d,.call {callee:= .builtin .clear,args:= #[x],argTypes:= #[t]},ty,pos,af,gd⟩ (.val (.sc (.tuple #[])),H.set b (dat false ne 1 rt ws),nx):=by
 have hcl:jo P H nx t (.sl b o (n+1) C)=some (.val (.sc (.tuple #[])),H.set b (dat false ne 1 rt ws),nx):=by
  simp only [jo,hu,hz,dR,hb,ko]
  rw [fG (Builtin.zeroCells z.cells (n+1)).toList us o (by rw [Array.length_toList];omega) (by rw [Array.length_toList];omega) h1,Array.length_toList,hzl,hws]
 refine gq ?_
 simp only [fe,dy,hx,zW,dI,hcl]
end
section
variable {P:Program} {ro:Option Nat} {fn nt nx:Nat} {T:Tr SV} {k:List AIt} {dfs:List ADf} {H:aV} {Q:Pst} {ops:Array Oper} {i:Nat} {l:List Oper} {d:Option Tmp} {ty:TypeId} {pos:String} {af:Array Edge} {gd:Option (Nat×Bool)}
theorem yB{t el:TypeId}{x:Operand}{lo hi:Option Operand}{b o n C lw hg o':Nat}{dd:Nat}(hw:aA T ops ⟨some dd,.slice t x lo hi none,ty,pos,af,gd⟩=some true)(hd:Nat.blt dd nt=true)(hx:ar T x=some (.sl b o n C))(hu:P.underlying t=some (.slice el))(hs:bC P el=some 1)(hl:gZ T 0 lo lw)(hh:gZ T n hi hg)(h1:lw≤hg)(h2:hg≤C)(ho:(if C=lw then o else o+lw)=o')
 (h:Wp P ro ⟨fn,nt,T.set dd (.sl b o' (hg-lw) (C-lw)),.inReg ops (i+1) l :: k,dfs,H,nx⟩ Q):Wp P ro ⟨fn,nt,T,.inReg ops i (⟨some dd,.slice t x lo hi none,ty,pos,af,gd⟩ :: l) :: k,dfs,H,nx⟩ Q:=
 bS hw (.inr (fun _ h=>by cases h)) ((sT hu hs hx hl hh h1 h2 ho).does) (by rw [aK hd];exact h)
theorem yC{t el:TypeId}{x lo hi mx:Operand}{b o n C lw hg m:Nat}{dd:Nat}(hw:aA T ops ⟨some dd,.slice t x (some lo) (some hi) (some mx),ty,pos,af,gd⟩=some true)(hd:Nat.blt dd nt=true)(hx:ar T x=some (.sl b o n C))(hu:P.underlying t=some (.slice el))(hs:bC P el=some 1)(hl:gZ T 0 (some lo) lw)(hh:gZ T n (some hi) hg)(hm:gZ T C (some mx) m)(h1:lw≤hg)(h2:hg≤m)(h3:m≤C)
 (h:Wp P ro ⟨fn,nt,T.set dd (.sl b (bif Nat.beq m lw then o else o+lw*1) (hg-lw) (m-lw)),.inReg ops (i+1) l :: k,dfs,H,nx⟩ Q):Wp P ro ⟨fn,nt,T,.inReg ops i (⟨some dd,.slice t x (some lo) (some hi) (some mx),ty,pos,af,gd⟩ :: l) :: k,dfs,H,nx⟩ Q:=
 bS hw (.inr (fun _ h=>by cases h)) ((xC hu hs hx hl hh hm h1 h2 h3).does) (by rw [aK hd];exact h)
theorem sr{t e:TypeId}{x:Operand}{b o n C:Nat}{dd:Nat}(hw:aA T ops ⟨some dd,.call {callee:= .builtin .len,args:= #[x],argTypes:= #[t]},ty,pos,af,gd⟩=some true)(hd:Nat.blt dd nt=true)(hx:ar T x=some (.sl b o n C))(hu:P.underlying t=some (.slice e))
 (h:Wp P ro ⟨fn,nt,T.set dd (.sc (.int .i64 n)),.inReg ops (i+1) l :: k,dfs,H,nx⟩ Q):Wp P ro ⟨fn,nt,T,.inReg ops i (⟨some dd,.call {callee:= .builtin .len,args:= #[x],argTypes:= #[t]},ty,pos,af,gd⟩ :: l) :: k,dfs,H,nx⟩ Q:=
 bS hw (.inr (fun _ h=>by cases h)) ((pd hu hx).does) (by rw [aK hd];exact h)
end
section
variable {P:Program} {nt nx:Nat} {T:Tr SV} {H:aV} {ops:Array Oper} {i:Nat} {l:List Oper} {ty:TypeId} {pos:String} {af:Array Edge} {gd:Option (Nat×Bool)} {K:DS→Prop} {rs:List Rec} {Hs:List (aV×Nat)} {stg:Nat}
theorem uu{t el:TypeId}{x:Operand}{lo hi:Option Operand}{b o n C lw hg o':Nat}{dd:Nat}(hw:aA (aS T (aO ops.toList ⟨some dd,.slice t x lo hi none,ty,pos,af,gd⟩)) ops ⟨some dd,.slice t x lo hi none,ty,pos,af,gd⟩=some true)(hd:Nat.blt dd nt=true)(hx:ar (aS T (aO ops.toList ⟨some dd,.slice t x lo hi none,ty,pos,af,gd⟩)) x=some (.sl b o n C))(hu:P.underlying t=some (.slice el))(hs:bC P el=some 1)(hl:gZ (aS T (aO ops.toList ⟨some dd,.slice t x lo hi none,ty,pos,af,gd⟩)) 0 lo lw)(hh:gZ (aS T (aO ops.toList ⟨some dd,.slice t x lo hi none,ty,pos,af,gd⟩)) n hi hg)(h1:lw≤hg)(h2:hg≤C)(ho:(if C=lw then o else o+lw)=o')
 (h:DrawK P nt ops (i+1) l ⟨T.set dd (.sl b o' (hg-lw) (C-lw)),H,nx,⟨i,⟨some dd,.slice t x lo hi none,ty,pos,af,gd⟩,(aS T (aO ops.toList ⟨some dd,.slice t x lo hi none,ty,pos,af,gd⟩)),stg,false,true,(.sl b o' (hg-lw) (C-lw))⟩ :: rs,Hs,stg⟩ K):DrawK P nt ops i (⟨some dd,.slice t x lo hi none,ty,pos,af,gd⟩ :: l) ⟨T,H,nx,rs,Hs,stg⟩ K:=
 bv hw hd (fun _ h=>by cases h) (sT hu hs hx hl hh h1 h2 ho) h
theorem wg{t tx el:TypeId}{m b o n C ne:Nat}{rt:TypeId}{s x:Operand}{v:SV}{us vs ws:List Value}{dd:Nat}(hw:aA (aS T (aO ops.toList ⟨some dd,.call {callee:= .builtin .append,args:= #[s,x],argTypes:= #[t,tx]},ty,pos,af,gd⟩)) ops ⟨some dd,.call {callee:= .builtin .append,args:= #[s,x],argTypes:= #[t,tx]},ty,pos,af,gd⟩=some true)(hd:Nat.blt dd nt=true)(hx0:ar (aS T (aO ops.toList ⟨some dd,.call {callee:= .builtin .append,args:= #[s,x],argTypes:= #[t,tx]},ty,pos,af,gd⟩)) s=some (.sl b o n C))(hx:ar (aS T (aO ops.toList ⟨some dd,.call {callee:= .builtin .append,args:= #[s,x],argTypes:= #[t,tx]},ty,pos,af,gd⟩)) x=some v)(hu:P.underlying t=some (.slice el))(hk:(∃ e',P.underlying tx=some (.slice e'))∨P.underlying tx=some .string)(hs:bC P el=some 1)(hb:H.at' b=some (dat false ne 1 rt us))(hr:RdV P H 1 v m vs)(h1:qg vs)(hm:n+m≤C)(hne:o+n+m≤ne)(hvl:vs.length=m)(hul:us.length=ne)(hws:us.take (o+n) ++ vs ++ us.drop (o+n+m)=ws)
 (h:DrawK P nt ops (i+1) l ⟨T.set dd (.sl b o (n+m) C),(H.set b (dat false ne 1 rt ws)),nx,⟨i,⟨some dd,.call {callee:= .builtin .append,args:= #[s,x],argTypes:= #[t,tx]},ty,pos,af,gd⟩,(aS T (aO ops.toList ⟨some dd,.call {callee:= .builtin .append,args:= #[s,x],argTypes:= #[t,tx]},ty,pos,af,gd⟩)),stg,true,true,(.sl b o (n+m) C)⟩ :: rs,((H.set b (dat false ne 1 rt ws)),nx) :: Hs,stg+1⟩ K):DrawK P nt ops i (⟨some dd,.call {callee:= .builtin .append,args:= #[s,x],argTypes:= #[t,tx]},ty,pos,af,gd⟩ :: l) ⟨T,H,nx,rs,Hs,stg⟩ K:=
 cR hw hd (fun _ h=>by cases h) (vU hu hk hs hx0 hx hb hr h1 hm hne hvl hul hws) h
end
theorem vb{P:Program}{ro:Option Nat}{fn nt nx:Nat}{T:Tr SV}{k:List AIt}{dfs:List ADf}{H:aV}{Q:Pst}{ops:Array Oper}{i:Nat}{l:List Oper}{ty:TypeId}{pos:String}{af:Array Edge}{gd:Option (Nat×Bool)}{t el:TypeId}{b o n C ne:Nat}{rt:TypeId}{x:Operand}{z:Value}{us ws:List Value}(hw:aA T ops ⟨none,.call {callee:= .builtin .clear,args:= #[x],argTypes:= #[t]},ty,pos,af,gd⟩=some true)(hx:ar T x=some (.sl b o (n+1) C))(hu:P.underlying t=some (.slice el))(hz:c6 P el=some z)(hb:H.at' b=some (dat false ne 1 rt us))(hne:o+(n+1)≤ne)(hul:us.length=ne)(hzl:(Builtin.zeroCells z.cells (n+1)).size=n+1)(h1:qg (Builtin.zeroCells z.cells (n+1)).toList)(hws:us.take o ++ (Builtin.zeroCells z.cells (n+1)).toList ++ us.drop (o+(n+1))=ws)
 (h:Wp P ro ⟨fn,nt,T,.inReg ops (i+1) l :: k,dfs,H.set b (dat false ne 1 rt ws),nx⟩ Q):Wp P ro ⟨fn,nt,T,.inReg ops i (⟨none,.call {callee:= .builtin .clear,args:= #[x],argTypes:= #[t]},ty,pos,af,gd⟩ :: l) :: k,dfs,H,nx⟩ Q:=
 bS hw (.inr (fun _ h=>by cases h)) (tj hu hz hx hb hne hul hzl h1 hws) h
abbrev eU(ro:Bool)(ne sz:Nat)(t:TypeId)(l:List SV):VO:= .row ro ne sz t (eI l)
section
variable {ro:Bool} {ne sz:Nat} {t:TypeId} {l:List SV}
theorem br{i:Nat}{s:SV}(h:l[i]? =some s)(hi:i<ne*sz):(eU ro ne sz t l).cell i=some s:=by
 simp only [VO.cell]
 rw [show Nat.blt i (ne*sz)=true from zD hi]
 exact h
theorem cT: ∀ (n o:Nat) (l':List SV),(l.drop o).take n=l'→l'.length=n→o+n≤ne*sz→(eU ro ne sz t l).cellsFrom o n=some l'
 | 0,o,l',h,_,_=>by rw [List.take_zero] at h;subst h;rfl
 | n+1,o,l',h,hn,ho=>by
   cases hd:l.drop o with
   | nil=>rw [hd] at h;subst h;simp at hn
   | cons x r=>
     have hx:l[o]? =some x:=by rw [← List.head?_drop,hd];rfl
     have hr:l.drop (o+1)=r:=by rw [← List.drop_drop,hd];rfl
     rw [hd,List.take_succ_cons] at h
     subst h
     have:=cT n (o+1) (r.take n) (by rw [hr]) (by simpa using hn) (by omega)
     have hc:=br (ro:=ro) (ne:=ne) (sz:=sz) (t:=t) hx (by omega)
     simp only [VO.cellsFrom,hc,this]
theorem tQ{i:Nat}{x:SV}(hl:i<l.length):(eI l).set i x=eI (l.set i x):=by
 funext m
 simp only [Tr.set,eI,List.getElem?_set]
 cases hb:Nat.beq m i with
 | true=>
   have:=Nat.eq_of_beq_eq_true hb
   subst this
   simp [hl]
 | false=>
   have:=Nat.ne_of_beq_eq_false hb
   rw [if_neg (Ne.symm this)]
   rfl
theorem ja: ∀ (vs l:List SV) (o:Nat),o+vs.length≤ne*sz→o+vs.length≤l.length→bU vs=true→(eU false ne sz t l).setCells o vs=some (eU false ne sz t (l.take o ++ vs ++ l.drop (o+vs.length)))
 | [],l,o,_,_,_=>by simp [VO.setCells]
 | v :: vs,l,o,h,hl,h1=>by
   simp only [zS] at h hl
   simp only [bU,zO] at h1
   have hset:(eU false ne sz t l).setCell o v=some (eU false ne sz t (l.set o v)):=by
    simp only [VO.setCell]
    rw [show Nat.blt o (ne*sz)=true from zD (by omega),h1.1,tQ (by omega)]
    rfl
   simp only [VO.setCells,hset]
   rw [ja vs (l.set o v) (o+1) (by omega) (by rw [List.length_set];omega) h1.2]
   have e1:(l.set o v).take (o+1)=l.take o ++ [v]:=by
    rw [List.take_set,List.set_eq_take_append_cons_drop,if_pos (by rw [List.length_take];omega),List.take_take,Nat.min_eq_left (by omega),List.drop_eq_nil_of_le (by rw [List.length_take];omega)]
   have e2:(l.set o v).drop (o+1+vs.length)=l.drop (o+(vs.length+1)):=by
    rw [List.drop_set_of_lt (by omega)]
    congr 1
    omega
   rw [e1,e2]
   simp
end
def SlOf(H:aV)(sz:Nat)(t:TypeId)(s:SV)(n:Nat)(cs:List SV):Prop:=cs.length=n*sz ∧
 ((n=0∧(s = .sc (.slice none 0 0)∨ ∃ b o c vo,s = .sl b o 0 c∧H.at' b=some vo)) ∨
  ∃ r eo ne l,(s = .slu r eo n∨ ∃ C,n≤C∧s = .sl r (eo*sz) n C)∧H.at' r=some (eU false ne sz t l)∧(l.drop (eo*sz)).take (n*sz)=cs∧eo+n≤ne∧l.length=ne*sz)
section
variable {P:Program} {T:Tr SV} {H:aV} {nx:Nat} {d:Option Tmp} {ty:TypeId} {pos:String} {af:Array Edge} {gd:Option (Nat×Bool)}
theorem SlOf.cells{sz n:Nat}{t:TypeId}{s:SV}{cs:List SV}(h:SlOf H sz t s n cs):aZ H sz s=some (n,cs):=by
 obtain⟨h1,⟨rfl,h2⟩|⟨r,eo,ne,l,rfl|⟨C,_,rfl⟩,hb,hc,he,hl⟩⟩:=h
 ·rw [Nat.zero_mul] at h1
  have:=zL h1
  subst this
  rcases h2 with rfl|⟨b,o,c,vo,rfl,hb⟩
  ·rfl
  ·simp [aZ,hb,VO.cellsFrom]
 ·simp only [aZ,hb,Nat.beq_refl,Bool.true_and]
  rw [show Nat.ble (eo+n) ne=true from zD he]
  have:=cT (ro:=false) (ne:=ne) (sz:=sz) (t:=t) (l:=l) (n*sz) (eo*sz) cs hc h1 (by rw [← Nat.add_mul];exact Nat.mul_le_mul_right _ he)
  simp only [cond_true,this,zV]
 ·have:=cT (ro:=false) (ne:=ne) (sz:=sz) (t:=t) (l:=l) (n*sz) (eo*sz) cs hc h1 (by rw [← Nat.add_mul];exact Nat.mul_le_mul_right _ he)
  simp only [aZ,hb,this,zV]
theorem SlOf.row{ne sz:Nat}{t:TypeId}{l:List SV}{r:Nat}(hb:H.at' r=some (eU false ne sz t l))(hl:l.length=ne*sz):SlOf H sz t (.slu r 0 ne) ne l:=by
 refine⟨hl,.inr ⟨r,0,ne,l,.inl rfl,hb,?_,by omega,hl⟩⟩
 rw [Nat.zero_mul,List.drop_zero,←hl,List.take_length]
theorem SlOf.none{sz:Nat}{t:TypeId}:SlOf H sz t (.sc (.slice none 0 0)) 0 []:=⟨by simp,.inl ⟨rfl,.inl rfl⟩⟩
theorem e9{t e rt:TypeId}{x:Operand}{s:SV}{sz n:Nat}{cs:List SV}(hu:P.underlying t=some (.slice e))(hx:ar T x=some s)(h:SlOf H sz rt s n cs):ReadDoes P T H ⟨d,.call {callee:= .builtin .len,args:= #[x],argTypes:= #[t]},ty,pos,af,gd⟩ (.sc (.int .i64 n)):=by
 obtain⟨_,⟨rfl,rfl|⟨b,o,c,vo,rfl,hb⟩⟩|⟨r,eo,ne,l,rfl|⟨C,_,rfl⟩,_⟩⟩:=h
 ·refine c9 fun ev w he=>?_
  have e1:=he x _ hx _ rfl
  simp [execOp,resolve,invoke,builtin,e1,Builtin.len_,run_underlying hu,goInt]
 ·exact pd hu hx
 ·exact aP hu hx
 ·exact pd hu hx
theorem cP{t e:TypeId}{x y:Operand}{b o n C q:Nat}{k:IntKind}{sz:Nat}(hu:P.underlying t=some (.slice e))(hs:bC P e=some sz)(hx:ar T x=some (.sl b o n C))(hy:ar T y=some (.sc (.int k (q:Int))))(hi:q<n):ReadDoes P T H ⟨d,.indexAddr t x y,ty,pos,af,gd⟩ (.ptr b (o+q*sz)):=by
 refine eF ?_
 simp only [cU,tF,hx,hy,zW,dP,hu,hs]
 rw [show Nat.blt q n=true from zD hi]
 simp
theorem bm{t el:TypeId}{x:Operand}{lo hi:Option Operand}{b o n C l h o' sz:Nat}(hu:P.underlying t=some (.slice el))(hs:bC P el=some sz)(hx:ar T x=some (.sl b o n C))(hl:gZ T 0 lo l)(hh:gZ T n hi h)(h1:l≤h)(h2:h≤C)(ho:(if C=l then o else o+l*sz)=o'):ReadDoes P T H ⟨d,.slice t x lo hi none,ty,pos,af,gd⟩ (.sl b o' (h-l) (C-l)):=by
 refine eF ?_
 unfold gZ at hl hh
 have hmx:natOr T C none=some C:=rfl
 simp only [cU,hx,zW,gF,hu,hs,hl,hh,hmx]
 rw [show Nat.ble l h=true from zD h1,show Nat.ble h C=true from zD h2,show Nat.ble C C=true from zD (zP _)]
 subst ho
 by_cases hc:C=l
 ·subst hc;simp
 ·have:Nat.beq C l=false:=by cases hq:Nat.beq C l with|false=>rfl|true=>exact absurd (Nat.eq_of_beq_eq_true hq) hc
  simp [this,hc]
theorem jd{t el rt:TypeId}{x hi mx:Operand}{r eo n ne sz:Nat}{rr:Bool}{c:Tr SV}(hu:P.underlying t=some (.slice el))(hs:bC P el=some sz)(hx:ar T x=some (.slu r eo n))(hh:gZ T n (some hi) n)(hm:gZ T n (some mx) n)(hb:H.at' r=some (.row rr ne sz rt c))(he:eo+n≤ne)(h0:0<n):ReadDoes P T H ⟨d,.slice t x none (some hi) (some mx),ty,pos,af,gd⟩ (.sl r (eo*sz) n n):=by
 refine eF ?_
 unfold gZ at hh hm
 simp only [natOr] at hh hm
 simp only [cU,hx,zW,gF,hu,hb,hs,natOr,hh,hm,Nat.beq_refl,Bool.true_and,Option.isSome_some,Bool.and_true,Nat.sub_zero,Nat.add_zero]
 rw [show Nat.ble 0 n=true from zD (zQ _),show Nat.ble n n=true from zD (zP _),show Nat.ble (eo+n) ne=true from zD he,show Nat.blt 0 ne=true from zD (by omega)]
 simp
theorem kH{t rt:TypeId}{a x:Operand}{b o n ne sz:Nat}{l vs:List SV}{v:SV}(hs:bC P t=some n)(ha:ar T a=some (.ptr b o))(hx:ar T x=some v)(hv:v.cells=vs)(hb:H.at' b=some (eU false ne sz rt l))(hn:vs.length=n)(ho:o+n≤ne*sz)(hl:o+n≤l.length)
 (h1:bU vs=true):OpDoes P T H nx ⟨d,.store t a x,ty,pos,af,gd⟩ (.skip,H.set b (eU false ne sz rt (l.take o ++ vs ++ l.drop (o+n))),nx):=by
 refine gq ?_
 subst hn
 unfold fe
 simp only [ha,hx,hv,lG,hs,Nat.beq_refl,cond_true,dR,hb,ja vs l o ho hl h1]
theorem eH{t tx el:TypeId}{sz:Nat}{s x:Operand}{v:SV}(hu:P.underlying t=some (.slice el))(hk:(∃ e',P.underlying tx=some (.slice e'))∨P.underlying tx=some .string)(hs:bC P el=some sz)(h0:0<sz)
 (hx0:ar T s=some (.sc (.slice none 0 0))) (hx:ar T x=some v) (hr:aZ H sz v=some (0,[])) :
 OpDoes P T H nx ⟨d,.call {callee:= .builtin .append,args:= #[s,x],argTypes:= #[t,tx]},ty,pos,af,gd⟩ (.val (.sc (.slice none 0 0)),H,nx):=by
 have hap:dg P H nx el (.sc (.slice none 0 0)) v=some (.val (.sc (.slice none 0 0)),H,nx):=by
  unfold dg
  rw [hs]
  cases sz with
  | zero=>omega
  | succ sz=>
    simp only
    rw [hr]
    rfl
 refine gq ?_
 rcases hk with ⟨e',hk⟩|hk <;> simp only [fe,dy,hx0,hx,zW,dI,eP,hu,hk,hap]
theorem ct{t tx el:TypeId}{sz m b:Nat}{s x:Operand}{v:SV}{cs:List SV}(hu:P.underlying t=some (.slice el))(hk:(∃ e',P.underlying tx=some (.slice e'))∨P.underlying tx=some .string)(hs:bC P el=some sz)(h0:0<sz)
 (hz:ey P el sz=true) (hb:(P.info? el).map (·.bytes)=some b) (hx0:ar T s=some (.sc (.slice none 0 0))) (hx:ar T x=some v) (hr:aZ H sz v=some (m,cs)) (h1:bU cs=true) (hm:0<m) (hm1:m*b≤140737488355328) (hm2:m≤1000000000) :
 OpDoes P T H nx ⟨d,.call {callee:= .builtin .append,args:= #[s,x],argTypes:= #[t,tx]},ty,pos,af,gd⟩ (.val (.slu nx 0 m),H.set nx (eU false m sz el cs),nx+1):=by
 have hap:dg P H nx el (.sc (.slice none 0 0)) v=some (.val (.slu nx 0 m),H.set nx (.row false m sz el (eI cs)),nx+1):=by
  unfold dg
  rw [hs]
  cases sz with
  | zero=>omega
  | succ sz=>
    simp only
    rw [hr]
    simp only [h1,Bool.not_true,cond_false,iu hb hm1 hm2,hz,Bool.and_self,cond_true]
    rw [show Nat.beq m 0=false from by cases hq:Nat.beq m 0 with|false=>rfl|true=>have:=Nat.eq_of_beq_eq_true hq;omega]
    rfl
 refine gq ?_
 rcases hk with ⟨e',hk⟩|hk <;> simp only [fe,dy,hx0,hx,zW,dI,eP,hu,hk,hap]
theorem xO{t tx el:TypeId}{sz m b r eo n:Nat}{s x:Operand}{v:SV}{l ws cs:List SV}(hu:P.underlying t=some (.slice el))(hk:(∃ e',P.underlying tx=some (.slice e'))∨P.underlying tx=some .string)(hs:bC P el=some sz)(h0:0<sz)
 (hz:ey P el sz=true) (hb:(P.info? el).map (·.bytes)=some b) (hx0:ar T s=some (.slu r eo n)) (hx:ar T x=some v) (hro:H.at' r=some (eU false (eo+n) sz el l)) (hold:aZ H sz (.slu r eo n)=some (n,ws)) (hr:aZ H sz v=some (m,cs)) (h1:bU cs=true)
 (hm:0<m) (hm1:(n+m)*b≤140737488355328) (hm2:n+m≤1000000000) :
 OpDoes P T H nx ⟨d,.call {callee:= .builtin .append,args:= #[s,x],argTypes:= #[t,tx]},ty,pos,af,gd⟩ (.val (.slu nx 0 (n+m)),(H.del r).set nx (eU false (n+m) sz el (ws ++ cs)),nx+1):=by
 have hap:dg P H nx el (.slu r eo n) v=some (.val (.slu nx 0 (n+m)),(H.del r).set nx (.row false (n+m) sz el (eI (ws ++ cs))),nx+1):=by
  unfold dg
  rw [hs]
  cases sz with
  | zero=>omega
  | succ sz=>
    simp only
    rw [hr]
    simp only [h1,Bool.not_true,cond_false,hold]
    rw [hro]
    simp only [Nat.beq_refl,iu hb hm1 hm2,hz,Bool.not_false,Bool.and_self,cond_true]
    rw [show Nat.beq m 0=false from by cases hq:Nat.beq m 0 with|false=>rfl|true=>have:=Nat.eq_of_beq_eq_true hq;omega]
    rfl
 refine gq ?_
 rcases hk with ⟨e',hk⟩|hk <;> simp only [fe,dy,hx0,hx,zW,dI,eP,hu,hk,hap]
theorem ry{t tx el:TypeId}{sz m b r o n:Nat}{s x:Operand}{v:SV}{ws cs:List SV}(hu:P.underlying t=some (.slice el))(hk:(∃ e',P.underlying tx=some (.slice e'))∨P.underlying tx=some .string)(hs:bC P el=some sz)(h0:0<sz)
 (hz:ey P el sz=true) (hb:(P.info? el).map (·.bytes)=some b) (hx0:ar T s=some (.sl r o n n)) (hx:ar T x=some v) (hold:aZ H sz (.sl r o n n)=some (n,ws)) (hr:aZ H sz v=some (m,cs)) (h1:bU cs=true)
 (hm:0<m) (hm1:(n+m)*b≤140737488355328) (hm2:n+m≤1000000000) :
 OpDoes P T H nx ⟨d,.call {callee:= .builtin .append,args:= #[s,x],argTypes:= #[t,tx]},ty,pos,af,gd⟩ (.val (.slu nx 0 (n+m)),H.set nx (eU false (n+m) sz el (ws ++ cs)),nx+1):=by
 have hap:dg P H nx el (.sl r o n n) v=some (.val (.slu nx 0 (n+m)),H.set nx (.row false (n+m) sz el (eI (ws ++ cs))),nx+1):=by
  unfold dg
  rw [hs]
  cases sz with
  | zero=>omega
  | succ sz=>
    simp only
    rw [hr]
    simp only [h1,Bool.not_true,cond_false,hold,iu hb hm1 hm2,hz,Bool.and_self,cond_true]
    rw [show Nat.ble (n+m) n=false from by cases hq:Nat.ble (n+m) n with|false=>rfl|true=>have:=zB hq;omega]
    rfl
 refine gq ?_
 rcases hk with ⟨e',hk⟩|hk <;> simp only [fe,dy,hx0,hx,zW,dI,eP,hu,hk,hap]
end
def nmS:SV→Option Nat
 | .slu b _ _=>some b
 | .sl b _ _ _=>some b
 | _=>none
theorem SlOf.frame{H H':aV}{sz n:Nat}{t:TypeId}{s:SV}{cs:List SV}(h:SlOf H sz t s n cs)(hf: ∀ b,nmS s=some b→H'.at' b=H.at' b):SlOf H' sz t s n cs:=by
 obtain⟨h1,⟨rfl,h2⟩|⟨r,eo,ne,l,hsl,hb,hc⟩⟩:=h
 ·refine⟨h1,.inl ⟨rfl,?_⟩⟩
  rcases h2 with rfl|⟨b,o,c,vo,rfl,hb⟩
  ·exact .inl rfl
  ·exact .inr ⟨b,o,c,vo,rfl,(hf b rfl).trans hb⟩
 ·exact⟨h1,.inr ⟨r,eo,ne,l,hsl,(hf r (by rcases hsl with rfl|⟨C,_,rfl⟩ <;> rfl)).trans hb,hc⟩⟩
section
variable {P:Program} {ro:Option Nat} {fn nt nx:Nat} {T:Tr SV} {k:List AIt} {dfs:List ADf} {H:aV} {Q:Pst} {ops:Array Oper} {i:Nat} {l:List Oper} {d:Option Tmp} {ty:TypeId} {pos:String} {af:Array Edge} {gd:Option (Nat×Bool)}
theorem dC{t e rt:TypeId}{x:Operand}{s:SV}{sz n:Nat}{cs:List SV}{dd:Nat}(hw:aA T ops ⟨some dd,.call {callee:= .builtin .len,args:= #[x],argTypes:= #[t]},ty,pos,af,gd⟩=some true)(hd:Nat.blt dd nt=true)(hx:ar T x=some s)(hu:P.underlying t=some (.slice e))(hf:SlOf H sz rt s n cs)
 (h:Wp P ro ⟨fn,nt,T.set dd (.sc (.int .i64 n)),.inReg ops (i+1) l :: k,dfs,H,nx⟩ Q):Wp P ro ⟨fn,nt,T,.inReg ops i (⟨some dd,.call {callee:= .builtin .len,args:= #[x],argTypes:= #[t]},ty,pos,af,gd⟩ :: l) :: k,dfs,H,nx⟩ Q:=
 bS hw (.inr (fun _ h=>by cases h)) ((e9 hu hx hf).does) (by rw [aK hd];exact h)
theorem dq{t e rt:TypeId}{x y:Operand}{s:SV}{sz n q:Nat}{kd:IntKind}{j:Int}{cs:List SV}{dd:Nat}(hw:aA T ops ⟨some dd,.indexAddr t x y,ty,pos,af,gd⟩=some true)(hd:Nat.blt dd nt=true)(hx:ar T x=some s)(hy:ar T y=some (.sc (.int kd j)))(hu:P.underlying t=some (.slice e))(hs:bC P e=some sz)(hf:SlOf H sz rt s n cs)(hj:j=(q:Int))(hq:q<n)
 (h: ∀ r o ne rl,H.at' r=some (eU false ne sz rt rl)→o+sz≤ne*sz→rl.length=ne*sz→(rl.drop o).take sz=(cs.drop (q*sz)).take sz→(∀ eo,s = .slu r eo n→o=(eo+q)*sz)→Wp P ro ⟨fn,nt,T.set dd (.ptr r o),.inReg ops (i+1) l :: k,dfs,H,nx⟩ Q) :
 Wp P ro ⟨fn,nt,T,.inReg ops i (⟨some dd,.indexAddr t x y,ty,pos,af,gd⟩ :: l) :: k,dfs,H,nx⟩ Q:=by
 subst hj
 obtain⟨h1,⟨rfl,_⟩|⟨r,eo,ne,rl,hsl,hb,hc,he,hl⟩⟩:=hf
 ·omega
 ·have e1:(eo+q)*sz+sz≤ne*sz:=by
   have:=Nat.mul_le_mul_right sz (show eo+q+1≤ne by omega)
   rwa [Nat.add_mul,Nat.one_mul] at this
  have e2:(rl.drop ((eo+q)*sz)).take sz=(cs.drop (q*sz)).take sz:=by
   subst hc
   rw [List.drop_take,List.take_take,List.drop_drop,←Nat.add_mul]
   congr 1
   have:=Nat.mul_le_mul_right sz (show q+1≤n by omega)
   rw [Nat.add_mul,Nat.one_mul] at this
   omega
  rcases hsl with rfl|⟨C,hC,rfl⟩
  ·refine bS hw (.inr (fun _ h=>by cases h)) ((mn hu hs hx hy hb (by omega) (by omega) he).does) ?_
   rw [aK hd,Int.toNat_natCast]
   exact h r _ ne rl hb e1 hl e2 fun eo' e=>by cases e;rfl
  ·refine bS hw (.inr (fun _ h=>by cases h)) ((cP hu hs hx hy hq).does) ?_
   rw [aK hd,←Nat.add_mul]
   exact h r _ ne rl hb e1 hl e2 fun eo' e=>by cases e
theorem di{t:TypeId}{x:Operand}{b o:Nat}{vo:VO}{v:SV}{dd:Nat}(hw:aA T ops ⟨some dd,.load t x,ty,pos,af,gd⟩=some true)(hd:Nat.blt dd nt=true)(hx:ar T x=some (.ptr b o))(ha:b7 P t=some none)(hb:H.at' b=some vo)(hv:vo.cell o=some v)
 (h:Wp P ro ⟨fn,nt,T.set dd v,.inReg ops (i+1) l :: k,dfs,H,nx⟩ Q):Wp P ro ⟨fn,nt,T,.inReg ops i (⟨some dd,.load t x,ty,pos,af,gd⟩ :: l) :: k,dfs,H,nx⟩ Q:=
 bS hw (.inr (fun _ h=>by cases h)) ((aw ha hx hb hv).does) (by rw [aK hd];exact h)
theorem ka{t rt:TypeId}{a x:Operand}{b o n ne sz:Nat}{rl vs:List SV}{v:SV}(hw:aA T ops ⟨none,.store t a x,ty,pos,af,gd⟩=some true)(ha:ar T a=some (.ptr b o))(hx:ar T x=some v)(hv:v.cells=vs)(hs:bC P t=some n)(hb:H.at' b=some (eU false ne sz rt rl))(hn:vs.length=n)(ho:o+n≤ne*sz)(hl:o+n≤rl.length)(h1:bU vs=true)
 (h:Wp P ro ⟨fn,nt,T,.inReg ops (i+1) l :: k,dfs,(H.set b (eU false ne sz rt (rl.take o ++ vs ++ rl.drop (o+n)))),nx⟩ Q):Wp P ro ⟨fn,nt,T,.inReg ops i (⟨none,.store t a x,ty,pos,af,gd⟩ :: l) :: k,dfs,H,nx⟩ Q:=
 mX hw (.inr (fun _ h=>by cases h)) (kH hs ha hx hv hb hn ho hl h1) h
theorem vh{t tx el rt:TypeId}{sz n b:Nat}{s x:Operand}{v:SV}{cs:List SV}{dd:Nat}(hw:aA T ops ⟨some dd,.call {callee:= .builtin .append,args:= #[s,x],argTypes:= #[t,tx]},ty,pos,af,gd⟩=some true)(hd:Nat.blt dd nt=true)(hx0:ar T s=some (.sc (.slice none 0 0)))(hx:ar T x=some v)(hu:P.underlying t=some (.slice el))(hk:(∃ e',P.underlying tx=some (.slice e'))∨P.underlying tx=some .string)(hs:bC P el=some sz)(h0:Nat.blt 0 sz=true)(hz:ey P el sz=true)(hb:(P.info? el).map (·.bytes)=some b)(hf:SlOf H sz rt v n cs)(h1:bU cs=true)(hm1:n*b≤140737488355328)(hm2:n≤1000000000)
 (h: ∀ s' H' nx',(n=0∧s' = .sc (.slice none 0 0)∧H'=H∧nx'=nx)∨(0<n∧s' = .slu nx 0 n∧H'=H.set nx (eU false n sz el cs)∧nx'=nx+1)→Wp P ro ⟨fn,nt,T.set dd s',.inReg ops (i+1) l :: k,dfs,H',nx'⟩ Q) :
 Wp P ro ⟨fn,nt,T,.inReg ops i (⟨some dd,.call {callee:= .builtin .append,args:= #[s,x],argTypes:= #[t,tx]},ty,pos,af,gd⟩ :: l) :: k,dfs,H,nx⟩ Q:=by
 have hr:=hf.cells
 rcases Nat.eq_zero_or_pos n with rfl|hn
 ·have:cs= []:=zL (by have:=hf.1;rwa [Nat.zero_mul] at this)
  subst this
  exact bS hw (.inr (fun _ h=>by cases h)) (eH hu hk hs (bJ h0) hx0 hx hr) (by rw [aK hd];exact h _ _ _ (.inl ⟨rfl,rfl,rfl,rfl⟩))
 ·exact bS hw (.inr (fun _ h=>by cases h)) (ct hu hk hs (bJ h0) hz hb hx0 hx hr h1 hn hm1 hm2) (by rw [aK hd];exact h _ _ _ (.inr ⟨hn,rfl,rfl,rfl⟩))
end
end Go.Sy
end
section
namespace Go.Proofs.Ytckajlllkmkniaa
open Go Go.Sy Go.Sl Go.RowKit
abbrev uC(l:List Nat):List SV:=l.map fun n:Nat=>SV.sc (.int .u64 (n:Int))
def uT(H:aV)(s:SV)(line:List Nat):Prop:=SlOf H 1 23 s line.length (uC line)
abbrev RV:=List ((ByteArray×(Nat×List Nat))×SV)
abbrev vC:((ByteArray×(Nat×List Nat))×SV)→List SV:=fun x=> [.sc (.string x.1.1),.sc (.int .u64 (x.1.2.1:Int)),x.2]
structure WV (t r:Nat) (s:SV) (V:RV) (Fw:Nat→Prop) (H:aV):Prop where
 box:H.at' t=some (aG 56 [s])
 row:(V= []∧s = .sc (.slice none 0 0))∨(V≠ []∧s = .slu r 0 V.length∧H.at' r=some (eU false V.length 3 91 (V.flatMap vC))∧Fw r∧r≠t)
 lines: ∀ x∈V,uT H x.2 x.1.2.2∧ ∀ b,nmS x.2=some b→Fw b∧b≠t∧b≠r
 own:Fw t
def WAt(t r:Nat)(W:RT)(Fw:Nat→Prop)(H:aV):Prop:= ∃ s V,WV t r s V Fw H∧V.map (·.1)=W
theorem WV.frame{t r:Nat}{s:SV}{V:RV}{Fw:Nat→Prop}{H H':aV}(h:WV t r s V Fw H)(hf: ∀ n,Fw n→H'.at' n=H.at' n):WV t r s V Fw H':=by
 refine⟨(hf _ h.own).trans h.box,?_,fun x hx=>?_,h.own⟩
 ·rcases h.row with q|⟨q1,q2,q3,q4,q5⟩
  ·exact .inl q
  ·exact .inr ⟨q1,q2,(hf _ q4).trans q3,q4,q5⟩
 ·obtain⟨g1,g2⟩:=h.lines x hx
  exact⟨SlOf.frame g1 fun b hb=>hf b (g2 b hb).1,g2⟩
theorem WAt.frame{t r:Nat}{W:RT}{Fw:Nat→Prop}{H H':aV}(h:WAt t r W Fw H)(hf: ∀ n,Fw n→H'.at' n=H.at' n):WAt t r W Fw H':=by
 obtain⟨s,V,h1,h2⟩:=h
 exact⟨s,V,h1.frame hf,h2⟩
theorem yF(x:(ByteArray×(Nat×List Nat))×SV):(vC x).length=3:=rfl
theorem dv(V:RV):(V.flatMap vC).length=V.length*3:=by
 induction V with
 | nil=>rfl
 | cons x V ih=>
   rw [List.flatMap_cons,zT,ih]
   simp only [zS,List.length_nil]
   omega
theorem de: ∀ {V:RV} {q:Nat} {x:(ByteArray×(Nat×List Nat))×SV},V[q]? =some x→((V.flatMap vC).drop (q*3)).take 3=vC x
 | [],q,x,h=>by simp at h
 | y :: V,0,x,h=>by
   simp only [zN,zw] at h
   subst h
   rfl
 | y :: V,q+1,x,h=>by
   rw [List.getElem?_cons_succ] at h
   rw [List.flatMap_cons,show(q+1)*3=(vC y).length+q*3 by rw [yF];omega,←List.drop_drop,List.drop_left]
   exact de h
theorem WV.sl{t r:Nat}{s:SV}{V:RV}{Fw:Nat→Prop}{H:aV}(h:WV t r s V Fw H):SlOf H 3 91 s V.length (V.flatMap vC):=by
 rcases h.row with ⟨rfl,rfl⟩|⟨_,rfl,q,_,_⟩
 ·exact SlOf.none
 ·exact SlOf.row q (dv V)
theorem kB{rl:List SV}{o:Nat}{a b c:SV}(h:(rl.drop o).take 3= [a,b,c]):rl[o]? =some a∧rl[o+1]? =some b∧rl[o+2]? =some c:=by
 have e: ∀ j<3,rl[o+j]? = [a,b,c][j]? :=fun j hj=>by
  rw [← h,List.getElem?_take,if_pos hj,List.getElem?_drop]
 exact⟨e 0 (by omega),e 1 (by omega),e 2 (by omega)⟩
def rAt(W:RT)(k:ByteArray):Int:=match W.findIdx? fun x=>decide (x.1=k)with
 | some i=>i
 | none=> -1
theorem lQ{V:RV}{k:ByteArray}{i:Nat}(hi:i<V.length)(he:V[i].1.1=k)(hno: ∀ j,j<i→ ∀ x,V[j]? =some x→x.1.1≠k):rAt (V.map (·.1)) k=(i:Int):=by
 unfold rAt
 have:(V.map (·.1)).findIdx? (fun x=>decide (x.1=k))=some i:=by
  rw [List.findIdx?_eq_some_iff_getElem]
  refine⟨by rw [List.length_map];exact hi,by simp [he],fun j hj=>?_⟩
  have:=hno j hj _ (zz (by omega))
  simpa using this
 rw [this]
theorem qd{V:RV}{k:ByteArray}(hno: ∀ x∈V,x.1.1≠k):rAt (V.map (·.1)) k = -1:=by
 unfold rAt
 have:(V.map (·.1)).findIdx? (fun x=>decide (x.1=k))=none:=by
  rw [List.findIdx?_eq_none_iff]
  intro x hx
  obtain⟨y,hy,rfl⟩:=List.mem_map.1 hx
  simpa using hno y hy
 rw [this]
theorem zr{t r:Nat}{W:RT}{Fw:Nat→Prop}{H:aV}{nx:Nat}(hW:WAt t r W Fw H)(k:ByteArray)(hl:W.length<1000000):Fnc Try.prog 51 [.ptr t 0,.sc (.string k)] H nx (fun q=>q=(.sc (.int .i64 (rAt W k)),H,nx)):=by
 obtain⟨s,V,hV,rfl⟩:=hW
 rw [List.length_map] at hl
 have hbox:=hV.box
 have hsl:=hV.sl
 refine Fnc.start Try.func51 rfl rfl ?_
 (repeat(first|refine ao ?_|refine ai ?_|refine ah ?_|refine aT ?_|refine aj rfl rfl rfl ?_))
 refine ch (α:=Nat) (fun i=> [(0,.ptr t 0),(1,.sc (.string k)),(5,.sc (.int .i64 (i:Int)))]) (fun i H1 n1=>H1=H∧n1=nx∧i≤V.length∧ ∀ j,j<i→ ∀ x,V[j]? =some x→x.1.1≠k) (fun i=>V.length-i) 0 ⟨rfl,rfl,zQ _,fun j hj=>by omega⟩ (SlIn.sub (by repeat(first|exact trivial|refine⟨rfl,?_⟩))) ?_
 rintro i H1 n1 ⟨rfl,rfl,hi,hno⟩ ih
 (repeat(first|refine ao ?_|refine ai ?_|refine am rfl rfl rfl ?_|refine aJ rfl rfl rfl ?_|refine au rfl rfl rfl (F.fo _ _ rfl rfl) ?_|refine aL rfl rfl rfl (F.ag _ rfl) (by assumption) (by exact rfl) ?_|(refine dC rfl rfl rfl (F.un _ rfl) hsl ?_)))
 refine cu rfl rfl rfl rfl ?_ ?_
 all_goals intro h1
 ·have hq:i<V.length:=by omega
  (repeat(first|refine ao ?_|refine ai ?_|refine ah ?_|refine aT ?_|refine aN ?_|refine aD rfl ?_|refine am rfl rfl rfl ?_|refine aJ rfl rfl rfl ?_|refine au rfl rfl rfl (F.fo _ _ rfl rfl) ?_|refine aL rfl rfl rfl (F.ag _ rfl) (by assumption) (by exact rfl) ?_))
  have hx:V[i]? =some V[i]:=zz hq
  refine dq rfl rfl rfl rfl (F.un _ rfl) (F.sz _ rfl) hsl rfl hq fun rr o ne rl q1 q2 q3 q4 _=>?_
  rw [de hx] at q4
  obtain⟨c1,c2,c3⟩:=kB q4
  (repeat(first|refine am rfl rfl rfl ?_|refine au rfl rfl rfl (F.fo _ _ rfl rfl) ?_|(refine di rfl rfl rfl (F.ag _ rfl) q1 (br (by exact c1) (by omega)) ?_)))
  by_cases he:V[i].1.1=k
  ·refine fF rfl rfl rfl rfl ((MapKept.bytes_beq _ _).2 he) ?_
   clear ih
   (repeat(first|refine ao ?_|refine ai ?_|refine ah ?_|refine aD rfl ?_|refine am rfl rfl rfl ?_|refine aj rfl rfl rfl ?_))
   ((apply bj Try.func51 (congrArg Array.toList Try.results51));(focus(repeat(first|exact ResIs.nil|apply ResIs.tmp rfl))))
   have:rAt (V.map (·.1)) k=(i:Int):=lQ hq he hno
   rw [this];rfl
  ·refine fF rfl rfl rfl rfl (by cases h:(V[i].1.1 == k)with|false=>rfl|true=>exact absurd ((MapKept.bytes_beq _ _).1 h) he) ?_
   (repeat(first|refine ai ?_|refine ah ?_|refine aM ?_|refine aN ?_|refine ay rfl ?_|refine am rfl rfl rfl ?_|refine aj rfl rfl rfl ?_|refine bT rfl rfl rfl rfl (by omega) (by omega) ?_))
   refine ih _ _ _ (i+1) ⟨rfl,rfl,hq,fun j hj x hxj=>?_⟩ (by omega) (SlIn.sub (by repeat(first|exact trivial|refine⟨rfl,?_⟩)))
   by_cases e:j=i
   ·subst e
    rw [hx] at hxj
    cases hxj
    exact he
   ·exact hno j (by omega) x hxj
 ·clear ih
  (repeat(first|refine ao ?_|refine ai ?_|refine ah ?_|refine bA rfl ?_|refine ay rfl ?_|refine aj rfl rfl rfl ?_))
  ((apply bj Try.func51 (congrArg Array.toList Try.results51));(focus(repeat(first|exact ResIs.nil|apply ResIs.tmp rfl))))
  have:rAt (V.map (·.1)) k = -1:=qd fun x hx=>by
   obtain⟨j,hj,rfl⟩:=List.getElem_of_mem hx
   exact hno j (by omega) _ (zz hj)
  rw [this];rfl
def cK(W:RT)(o:Nat):ByteArray×Bool:=match cJ W o with
 | some k=>(k,true)
 | none=>(⟨#[]⟩,false)
theorem sY{V:RV}{o i:Nat}(hi:i<V.length)(he:o∈V[i].1.2.2)(hno: ∀ j,j<i→ ∀ x,V[j]? =some x→o∉x.1.2.2):cJ (V.map (·.1)) o=some V[i].1.1:=by
 unfold cJ lL
 rw [List.find?_map]
 have:V.find? ((fun x:ByteArray×(Nat×List Nat)=>decide (o∈x.2.2)) ∘ fun x=>x.1)=some V[i]:=by
  rw [List.find?_eq_some_iff_getElem]
  refine⟨by simpa using he,i,hi,rfl,fun j hj=>?_⟩
  have:=hno j hj _ (zz (by omega))
  simpa using this
 rw [this]
 rfl
theorem sX{V:RV}{o:Nat}(hno: ∀ x∈V,o∉x.1.2.2):cJ (V.map (·.1)) o=none:=by
 unfold cJ lL
 rw [Option.map_eq_none_iff,List.find?_eq_none]
 intro x hx
 obtain⟨y,hy,rfl⟩:=List.mem_map.1 hx
 simpa using hno y hy
theorem lq{rl:List SV}{o:Nat}{a:SV}(h:(rl.drop o).take 1= [a]):rl[o]? =some a:=by
 have e:rl[o+0]? = [a][0]? :=by rw [← h,List.getElem?_take,if_pos (by omega),List.getElem?_drop]
 simpa using e
theorem lp{l:List Nat}{q:Nat}(h:q<l.length):((uC l).drop (q*1)).take 1= [SV.sc (.int .u64 (l[q]:Int))]:=by
 rw [Nat.mul_one,List.drop_eq_getElem_cons (by simpa using h),List.take_succ_cons,List.take_zero]
 simp
theorem mc{t r:Nat}{W:RT}{Fw:Nat→Prop}{H:aV}{nx:Nat}(hW:WAt t r W Fw H)(o:Nat)(hl:W.length<1000000)(hll: ∀ x∈W,x.2.2.length<1000000):Fnc Try.prog 44 [.ptr t 0,.sc (.int .u64 (o:Int))] H nx (fun q=>q=(.tup [.sc (.string (cK W o).1),.sc (.bool (cK W o).2)],H,nx)):=by
 obtain⟨s,V,hV,rfl⟩:=hW
 rw [List.length_map] at hl
 have hbox:=hV.box
 have hsl:=hV.sl
 refine Fnc.start Try.func44 rfl rfl ?_
 (repeat(first|refine ao ?_|refine ai ?_|refine ah ?_|refine aT ?_|refine aj rfl rfl rfl ?_))
 refine ch (α:=Nat) (fun i=> [(0,.ptr t 0),(1,.sc (.int .u64 (o:Int))),(6,.sc (.int .i64 (i:Int)))]) (fun i H1 n1=>H1=H∧n1=nx∧i≤V.length∧ ∀ j,j<i→ ∀ x,V[j]? =some x→o∉x.1.2.2) (fun i=>V.length-i) 0 ⟨rfl,rfl,zQ _,fun j hj=>by omega⟩ (SlIn.sub (by repeat(first|exact trivial|refine⟨rfl,?_⟩))) ?_
 rintro i H1 n1 ⟨rfl,rfl,hi,hno⟩ ih
 (repeat(first|refine ao ?_|refine ai ?_|refine am rfl rfl rfl ?_|refine aJ rfl rfl rfl ?_|refine au rfl rfl rfl (F.fo _ _ rfl rfl) ?_|refine aL rfl rfl rfl (F.ag _ rfl) (by assumption) (by exact rfl) ?_|(refine dC rfl rfl rfl (F.un _ rfl) hsl ?_)))
 refine cu rfl rfl rfl rfl ?_ ?_
 all_goals intro h1
 ·have hq:i<V.length:=by omega
  have hx:V[i]? =some V[i]:=zz hq
  have hln:=(hV.lines V[i] (zZ hq)).1
  have hlen:=hll V[i].1 (List.mem_map_of_mem (zZ hq))
  (repeat(first|refine ao ?_|refine ai ?_|refine ah ?_|refine aT ?_|refine aN ?_|refine aD rfl ?_|refine aj rfl rfl rfl ?_))
  refine ch (α:=Nat) (fun m=> [(0,.ptr t 0),(1,.sc (.int .u64 (o:Int))),(6,.sc (.int .i64 (i:Int))),(7,.sc (.int .i64 (m:Int)))]) (fun m H2 n2=>H2=H1∧n2=n1∧m≤V[i].1.2.2.length∧ ∀ j,j<m→V[i].1.2.2[j]? ≠some o) (fun m=>V[i].1.2.2.length-m) 0 ⟨rfl,rfl,zQ _,fun j hj=>by omega⟩ (SlIn.sub (by repeat(first|exact trivial|refine⟨rfl,?_⟩))) ?_
  rintro m H2 n2 ⟨rfl,rfl,hm,hmo⟩ ihm
  (repeat(first|refine ao ?_|refine ai ?_|refine am rfl rfl rfl ?_|refine aJ rfl rfl rfl ?_|refine au rfl rfl rfl (F.fo _ _ rfl rfl) ?_|refine aL rfl rfl rfl (F.ag _ rfl) (by assumption) (by exact rfl) ?_))
  refine dq rfl rfl rfl rfl (F.un _ rfl) (F.sz _ rfl) hsl rfl hq fun rr p ne rl q1 q2 q3 q4 _=>?_
  rw [de hx] at q4
  obtain⟨c1,c2,c3⟩:=kB q4
  (repeat(first|(refine au rfl rfl rfl (F.fo _ _ rfl rfl) ?_)|(refine di rfl rfl rfl (F.ag _ rfl) q1 (br (by exact c3) (by omega)) ?_)|(refine dC rfl rfl rfl (F.un _ rfl) hln ?_)))
  refine cu rfl rfl rfl rfl ?_ ?_
  all_goals intro h2
  ·have hmq:m<V[i].1.2.2.length:=by omega
   (repeat(first|refine ao ?_|refine ai ?_|refine ah ?_|refine aT ?_|refine aN ?_|refine aD rfl ?_|refine am rfl rfl rfl ?_|refine aJ rfl rfl rfl ?_|refine au rfl rfl rfl (F.fo _ _ rfl rfl) ?_|refine aL rfl rfl rfl (F.ag _ rfl) (by assumption) (by exact rfl) ?_))
   refine dq rfl rfl rfl rfl (F.un _ rfl) (F.sz _ rfl) hsl rfl hq fun rr p ne rl q1 q2 q3 q4 _=>?_
   rw [de hx] at q4
   obtain⟨d1,d2,d3⟩:=kB q4
   (repeat(first|refine am rfl rfl rfl ?_|refine au rfl rfl rfl (F.fo _ _ rfl rfl) ?_|(refine di rfl rfl rfl (F.ag _ rfl) q1 (br (by exact d3) (by omega)) ?_)))
   refine dq rfl rfl rfl rfl (F.un _ rfl) (F.sz _ rfl) hln rfl hmq fun rr2 p2 ne2 rl2 u1 u2 u3 u4 _=>?_
   rw [lp hmq] at u4
   have e1:=lq u4
   (repeat(first|(refine am rfl rfl rfl ?_)|(refine di rfl rfl rfl (F.ag _ rfl) u1 (br (by exact e1) (by omega)) ?_)))
   refine cF rfl rfl rfl rfl ?_ ?_
   all_goals intro h3
   ·clear ih ihm
    have hin:o∈V[i].1.2.2:=by
     have:V[i].1.2.2[m]=o:=by omega
     exact this ▸ zZ hmq
    have hres:cK (V.map (·.1)) o=(V[i].1.1,true):=by
     unfold cK
     rw [sY hq hin hno]
    (repeat(first|refine ao ?_|refine ai ?_|refine ah ?_|refine aD rfl ?_|refine am rfl rfl rfl ?_|refine aJ rfl rfl rfl ?_|refine au rfl rfl rfl (F.fo _ _ rfl rfl) ?_|refine aL rfl rfl rfl (F.ag _ rfl) (by assumption) (by exact rfl) ?_))
    refine dq rfl rfl rfl rfl (F.un _ rfl) (F.sz _ rfl) hsl rfl hq fun rr p ne rl q1 q2 q3 q4 _=>?_
    rw [de hx] at q4
    obtain⟨d1,d2,d3⟩:=kB q4
    (repeat(first|refine ah ?_|refine aj rfl rfl rfl ?_|refine au rfl rfl rfl (F.fo _ _ rfl rfl) ?_|(refine di rfl rfl rfl (F.ag _ rfl) q1 (br (by exact d1) (by omega)) ?_)))
    ((apply bj Try.func44 (congrArg Array.toList Try.results44));(focus(repeat(first|exact ResIs.nil|apply ResIs.tmp rfl))))
    rw [hres];rfl
   ·(repeat(first|refine ai ?_|refine ah ?_|refine aM ?_|refine aN ?_|refine ay rfl ?_|refine am rfl rfl rfl ?_|refine aj rfl rfl rfl ?_|refine bT rfl rfl rfl rfl (by omega) (by omega) ?_))
    refine ihm _ _ _ (m+1) ⟨rfl,rfl,hmq,fun j hj=>?_⟩ (by omega) (SlIn.sub (by repeat(first|exact trivial|refine⟨rfl,?_⟩)))
    by_cases e:j=m
    ·subst e
     rw [zz hmq]
     intro q
     simp only [zw] at q
     omega
    ·exact hmo j (by omega)
  ·clear ihm
   (repeat(first|refine ai ?_|refine ah ?_|refine aM ?_|refine bA rfl ?_|refine ay rfl ?_|refine am rfl rfl rfl ?_|refine aj rfl rfl rfl ?_|refine bT rfl rfl rfl rfl (by omega) (by omega) ?_))
   refine ih _ _ _ (i+1) ⟨rfl,rfl,hq,fun j hj x hxj=>?_⟩ (by omega) (SlIn.sub (by repeat(first|exact trivial|refine⟨rfl,?_⟩)))
   by_cases e:j=i
   ·subst e
    rw [hx] at hxj
    cases hxj
    intro hin
    obtain⟨z,hz,ez⟩:=List.getElem_of_mem hin
    exact hmo z (by omega) (by rw [zz hz,ez])
   ·exact hno j (by omega) x hxj
 ·clear ih
  have hres:cK (V.map (·.1)) o=(⟨#[]⟩,false):=by
   unfold cK
   rw [sX fun x hx=>by
    obtain⟨j,hj,rfl⟩:=List.getElem_of_mem hx
    exact hno j (by omega) _ (zz hj)]
  (repeat(first|refine ao ?_|refine ai ?_|refine ah ?_|refine bA rfl ?_|refine ay rfl ?_|refine aj rfl rfl rfl ?_))
  ((apply bj Try.func44 (congrArg Array.toList Try.results44));(focus(repeat(first|exact ResIs.nil|apply ResIs.tmp rfl))))
  rw [hres];rfl
theorem iG(ml:MLk)(mp:MPt)(o:Nat):(b9 ml mp).keys o=match cO mp o with|some (_,(ks,_))=>ks|none=> []:=by
 unfold LT.keys
 rw [pA]
 cases cO mp o <;> rfl
theorem jD(ml:MLk)(mp:MPt)(o:Nat):(b9 ml mp).waits o=match cO mp o with|some (_,(_,w))=>w|none=>⟨#[]⟩:=by
 unfold LT.waits
 rw [pA]
 cases cO mp o <;> rfl
theorem wK(ml:MLk)(mp:MPt)(k:ByteArray):(b9 ml mp).line k=match cO ml k with|some (_,(_,l))=>l|none=> []:=by
 unfold LT.line
 rw [lC]
 cases cO ml k <;> rfl
theorem tN{t:Nat}{T:LT}{Fp:Nat→Prop}{H:aV}{nx:Nat}(hT:TabAt t T Fp H)(o:Nat):Fnc Try.prog 31 [.ptr t 0,.sc (.int .u64 (o:Int))] H nx (fun r=>r=(.sc (.int .i64 ((T.keys o).length:Int)),H,nx)):=by
 obtain⟨a,b,ml,cl,mp,cp,F1,F2,h,rfl,hF⟩:=hT
 have htab:=h.tab
 have hpar:=h.parties
 refine Fnc.start Try.func31 rfl rfl ?_
 rw [iG]
 (repeat(first|refine ao ?_|refine ai ?_|refine ah ?_|refine am rfl rfl rfl ?_|refine aj rfl rfl rfl ?_|refine aJ rfl rfl rfl ?_|refine au rfl rfl rfl (F.fo _ _ rfl rfl) ?_|refine aL rfl rfl rfl (F.ag _ rfl) (by first|exact Tr.ae _ _ _|assumption) (by exact rfl) ?_|(refine bn rfl rfl rfl (by kernel_rfl) (Fnc.mono (iM htab) ?_);rintro _ rfl;dsimp only)))
 cases hg:cO mp o with
 | none=>
   (repeat(first|refine ao ?_|refine ai ?_|refine ah ?_|refine aD rfl ?_|refine aj rfl rfl rfl ?_|refine bO rfl rfl rfl rfl ?_|refine fv rfl rfl rfl rfl rfl (F.un _ rfl) rfl ?_|refine fL (m:=mp) (enc:=oE) (val:=jY) rfl rfl rfl rfl (F.un _ rfl) (oK) (by first|exact rfl|(focus(skip;first|exact Tr.ae _ _ _|assumption))) (hg) (F.ze _ rfl) ?_))
   ((apply bj Try.func31 (congrArg Array.toList Try.results31));(focus(repeat(first|exact ResIs.nil|apply ResIs.tmp rfl))))
   rfl
 | some x=>
   obtain⟨n,ks,w⟩:=x
   obtain⟨r,G,g1,_⟩:=h.party hg
   (repeat(first|refine ao ?_|refine ai ?_|refine ah ?_|refine aN ?_|refine ay rfl ?_|refine am rfl rfl rfl ?_|refine aj rfl rfl rfl ?_|refine bO rfl rfl rfl rfl ?_|refine aJ rfl rfl rfl ?_|refine au rfl rfl rfl (F.fo _ _ rfl rfl) ?_|refine dD rfl rfl rfl rfl (F.un _ rfl) rfl ?_|refine aL rfl rfl rfl (F.ag _ rfl) (by first|exact Tr.ae _ _ _|assumption) (by exact rfl) ?_|refine cr rfl rfl rfl (F.un _ rfl) ?_|refine fu (m:=mp) (enc:=oE) (val:=jY) rfl rfl rfl rfl (F.un _ rfl) (oK) (by first|exact rfl|(focus(skip;first|exact Tr.ae _ _ _|assumption))) (hg) ?_))
   ((apply bj Try.func31 (congrArg Array.toList Try.results31));(focus(repeat(first|exact ResIs.nil|apply ResIs.tmp rfl))))
   rfl
theorem xh{t:Nat}{T:LT}{Fp:Nat→Prop}{H:aV}{nx:Nat}(hT:TabAt t T Fp H)(o:Nat):Fnc Try.prog 20 [.ptr t 0,.sc (.int .u64 (o:Int))] H nx (fun r=>r=(.tup [.sc (.string (T.waits o)),.sc (.bool (T.waits o != ⟨#[]⟩))],H,nx)):=by
 obtain⟨a,b,ml,cl,mp,cp,F1,F2,h,rfl,hF⟩:=hT
 have htab:=h.tab
 have hpar:=h.parties
 refine Fnc.start Try.func20 rfl rfl ?_
 rw [jD]
 (repeat(first|refine ao ?_|refine ai ?_|refine ah ?_|refine am rfl rfl rfl ?_|refine aj rfl rfl rfl ?_|refine aJ rfl rfl rfl ?_|refine au rfl rfl rfl (F.fo _ _ rfl rfl) ?_|refine aL rfl rfl rfl (F.ag _ rfl) (by first|exact Tr.ae _ _ _|assumption) (by exact rfl) ?_|(refine bn rfl rfl rfl (by kernel_rfl) (Fnc.mono (iM htab) ?_);rintro _ rfl;dsimp only)))
 cases hg:cO mp o with
 | none=>
   (repeat(first|refine ao ?_|refine ai ?_|refine ah ?_|refine aD rfl ?_|refine aj rfl rfl rfl ?_|refine bO rfl rfl rfl rfl ?_|refine fv rfl rfl rfl rfl rfl (F.un _ rfl) rfl ?_|refine fL (m:=mp) (enc:=oE) (val:=jY) rfl rfl rfl rfl (F.un _ rfl) (oK) (by first|exact rfl|(focus(skip;first|exact Tr.ae _ _ _|assumption))) (hg) (F.ze _ rfl) ?_))
   ((apply bj Try.func20 (congrArg Array.toList Try.results20));(focus(repeat(first|exact ResIs.nil|apply ResIs.tmp rfl))))
   rfl
 | some x=>
   obtain⟨n,ks,w⟩:=x
   obtain⟨r,G,g1,_⟩:=h.party hg
   (repeat(first|refine ao ?_|refine ai ?_|refine ah ?_|refine aN ?_|refine ay rfl ?_|refine am rfl rfl rfl ?_|refine aj rfl rfl rfl ?_|refine bO rfl rfl rfl rfl ?_|refine aJ rfl rfl rfl ?_|refine au rfl rfl rfl (F.fo _ _ rfl rfl) ?_|refine dD rfl rfl rfl rfl (F.un _ rfl) rfl ?_|refine aL rfl rfl rfl (F.ag _ rfl) (by first|exact Tr.ae _ _ _|assumption) (by exact rfl) ?_|refine fu (m:=mp) (enc:=oE) (val:=jY) rfl rfl rfl rfl (F.un _ rfl) (oK) (by first|exact rfl|(focus(skip;first|exact Tr.ae _ _ _|assumption))) (hg) ?_|refine xi rfl rfl rfl rfl ?_))
   ((apply bj Try.func20 (congrArg Array.toList Try.results20));(focus(repeat(first|exact ResIs.nil|apply ResIs.tmp rfl))))
   rfl
theorem len_t{t:Nat}{T:LT}{Fp:Nat→Prop}{H:aV}{nx:Nat}(hT:TabAt t T Fp H):Fnc Try.prog 13 [.ptr t 0] H nx (fun r=>r=(.sc (.int .i64 (T.locks.length:Int)),H,nx)):=by
 obtain⟨a,b,ml,cl,mp,cp,F1,F2,h,rfl,hF⟩:=hT
 have htab:=h.tab
 have hloc:=h.locks
 refine Fnc.start Try.func13 rfl rfl ?_
 rw [show(b9 ml mp).locks.length=ml.length by simp [b9,kv]]
 (repeat(first|refine ao ?_|refine ai ?_|refine ah ?_|refine aN ?_|refine ay rfl ?_|refine am rfl rfl rfl ?_|refine aj rfl rfl rfl ?_|refine aJ rfl rfl rfl ?_|refine au rfl rfl rfl (F.fo _ _ rfl rfl) ?_|refine aL rfl rfl rfl (F.ag _ rfl) (by first|exact Tr.ae _ _ _|assumption) (by exact rfl) ?_|(refine bn rfl rfl rfl (by kernel_rfl) (Fnc.mono (iM htab) ?_);rintro _ rfl;dsimp only)|refine uZ (m:=ml) (enc:=kE) (val:=ke) rfl rfl rfl (F.un _ rfl) (by first|exact rfl|(focus(skip;first|exact Tr.ae _ _ _|assumption))) ?_))
 ((apply bj Try.func13 (congrArg Array.toList Try.results13));(focus(repeat(first|exact ResIs.nil|apply ResIs.tmp rfl))))
 rfl
theorem xT{H:aV}{nx:Nat}:Fnc Try.prog 10 [] H nx (fun r=>r=(.ptr (nx+1+1) 0,((H.set nx (.map [] 0)).set (nx+1) (.map [] 0)).set (nx+1+1) (aG 67 [.mp nx,.mp (nx+1)]),nx+1+1+1)):=by
 refine Fnc.start Try.func10 rfl rfl ?_
 (repeat(first|refine ao ?_|refine ai ?_|refine ah ?_|refine aj rfl rfl rfl ?_|refine so rfl rfl ?_|refine iD rfl rfl rfl ?_|refine gC rfl rfl rfl (F.ze _ rfl) (F.pl _ rfl) rfl ?_))
 ((apply bj Try.func10 (congrArg Array.toList Try.results10));(focus(repeat(first|exact ResIs.nil|apply ResIs.tmp rfl))))
 rfl
theorem new_at{H:aV}{nx:Nat}:TabAt (nx+1+1) LT.empty (fun n=>n=nx+1+1∨n=nx∨n=nx+1) (((H.set nx (.map [] 0)).set (nx+1) (.map [] 0)).set (nx+1+1) (aG 67 [.mp nx,.mp (nx+1)])):=by
 refine⟨nx,nx+1,[],0,[],0,fun _=>False,fun _=>False,⟨?_,?_,?_,?_,?_,Big.nil,Big.nil,⟨by omega,by omega,by omega⟩,fun n h=>h.elim,fun n h=>h.elim⟩,rfl,fun n=>by simp⟩
 ·exact Tr.ae _ _ _
 ·exact(Tr.aa _ _ (by omega)).trans ((Tr.aa _ _ (by omega)).trans (Tr.ae _ _ _))
 ·exact(Tr.aa _ _ (by omega)).trans (Tr.ae _ _ _)
 ·exact KOk.nil _
 ·exact KOk.nil _
theorem jk{A:Type}{f:A→List Value}(h:RecOf f 1): ∀ l:List A,(l.flatMap f).length=l.length*1
 | []=>rfl
 | a :: l=>by rw [List.flatMap_cons,zT,jk h l,h.len,zS];omega
theorem jE{A:Type}{f:A→List Value}(h:RecOf f 1): ∀ l:List A,qg (l.flatMap f)
 | [],v,hv=>by simp at hv
 | a :: l,v,hv=>by
   rw [List.flatMap_cons,List.mem_append] at hv
   rcases hv with hv|hv
   ·exact h.one a v hv
   ·exact jE h l v hv
theorem yO{P:Program}{H:aV}{b:Nat}{ro:Bool}(l:List Nat)(hb:H.at' b=some (uR ro l)):RdV P H 1 (.slu b 0 l.length) l.length (l.flatMap uV):=by
 refine mm hb (by omega) ?_ (jk rY l)
 rw [Nat.zero_mul,List.drop_zero]
 exact zH (by rw [jk rY];exact zP _)
def rW(l:List Nat)(H:aV)(nx:Nat):Pst:=fun q=> ∃ r',q.1 = .slu r' 0 l.length∧q.2.1.at' r'=some (uR false l)∧nx≤r'∧r'<q.2.2∧nx≤q.2.2∧ ∀ n,n<nx→q.2.1.at' n=H.at' n
theorem uE{H:aV}{nx r:Nat}(l:List Nat)(hr:H.at' r=some (uR false l))(hl:l.length<2000000):Fnc Try.prog 34 [.slu r 0 l.length] H nx (rW l H nx):=by
 refine Fnc.start Try.func34 rfl rfl ?_
 refine b4 fun hund=>?_
 have hlt:=hund _ _ hr
 (repeat(first|refine ao ?_|refine ai ?_|refine ah ?_|refine aD rfl ?_|refine am rfl rfl rfl ?_|refine aj rfl rfl rfl ?_|refine pU rfl rfl rfl rfl (F.un _ rfl) (by first|exact Tr.ae _ _ _|assumption) (fun h0=>?_) ?_))
 ·skip
  refine co 1 23 (d:=2) (by first|exact Tr.ae _ _ _|assumption) rfl ?_
  ((apply bj Try.func34 (congrArg Array.toList Try.results34));(focus(repeat(first|exact ResIs.nil|apply ResIs.tmp rfl))))
  have:l= []:=zL h0
  subst this
  exact⟨nx,rfl,Tr.ae _ _ _,zP _,Nat.lt_succ_self _,zY _,fun n hn=>Tr.aa _ _ (by omega)⟩
 ·(repeat(first|refine ao ?_|refine ai ?_|refine ah ?_|refine aN ?_|refine ay rfl ?_|refine am rfl rfl rfl ?_|refine wH rfl rfl (F.un _ rfl) (F.sz _ rfl) rfl (F.ze _ rfl) ?_))
  rcases Nat.eq_zero_or_pos l.length with h0|h0
  ·have:l= []:=zL h0
   subst this
   refine ng (vs:= []) rfl rfl rfl rfl (F.un _ rfl) (.inl ⟨_,F.un _ rfl⟩) (F.sz _ rfl) rfl (by first|exact Tr.ae _ _ _|assumption) (zP _) (yO [] (by(repeat(refine(Tr.aa _ _ (by omega)).trans ?_));first|exact Tr.ae _ _ _|assumption)) (jE rY []) ?_
   (repeat(first|refine ah ?_|refine aj rfl rfl rfl ?_))
   ((apply bj Try.func34 (congrArg Array.toList Try.results34));(focus(repeat(first|exact ResIs.nil|apply ResIs.tmp rfl))))
   exact⟨nx,rfl,Tr.ae _ _ _,zP _,Nat.lt_succ_self _,zY _,fun n hn=>Tr.aa _ _ (by omega)⟩
  ·refine pV (b:=8) (us:= []) (ws:= []) rfl rfl rfl rfl (F.un _ rfl) (.inl ⟨_,F.un _ rfl⟩) (F.sz _ rfl) rfl (by kernel_rfl) (by kernel_rfl) (by first|exact Tr.ae _ _ _|assumption) rfl rfl (yO l (by(repeat(refine(Tr.aa _ _ (by omega)).trans ?_));first|exact Tr.ae _ _ _|assumption)) (jE rY l) h0 (by omega) (by omega) ?_
   rw [Nat.zero_add,List.nil_append]
   (repeat(first|refine ah ?_|refine aj rfl rfl rfl ?_))
   ((apply bj Try.func34 (congrArg Array.toList Try.results34));(focus(repeat(first|exact ResIs.nil|apply ResIs.tmp rfl))))
   exact⟨nx+1,rfl,Tr.ae _ _ _,zY _,Nat.lt_succ_self _,zX (zY _) (zY _),fun n hn=>(Tr.aa _ _ (by omega)).trans ((Tr.aF _ (by omega)).trans (Tr.aa _ _ (by omega)))⟩
theorem zb{t:Nat}{T:LT}{Fp:Nat→Prop}{H:aV}{nx:Nat}(hT:TabAt t T Fp H)(k:ByteArray)(hl:(T.line k).length<2000000):Fnc Try.prog 18 [.ptr t 0,.sc (kE k)] H nx (rW (T.line k) H nx):=by
 obtain⟨a,b,ml,cl,mp,cp,F1,F2,h,rfl,hF⟩:=hT
 have htab:=h.tab
 have hmap:=h.locks
 refine Fnc.start Try.func18 rfl rfl ?_
 rw [wK] at hl ⊢
 (repeat(first|refine ao ?_|refine ai ?_|refine ah ?_|refine am rfl rfl rfl ?_|refine aj rfl rfl rfl ?_|refine aJ rfl rfl rfl ?_|refine au rfl rfl rfl (F.fo _ _ rfl rfl) ?_|refine aL rfl rfl rfl (F.ag _ rfl) (by first|exact Tr.ae _ _ _|assumption) (by exact rfl) ?_|(refine bn rfl rfl rfl (by kernel_rfl) (Fnc.mono (iM htab) ?_);rintro _ rfl;dsimp only)))
 cases hg:cO ml k with
 | none=>
   (repeat(first|refine ao ?_|refine ai ?_|refine ah ?_|refine aD rfl ?_|refine aj rfl rfl rfl ?_|refine bO rfl rfl rfl rfl ?_|refine fv rfl rfl rfl rfl rfl (F.un _ rfl) rfl ?_|refine fL (m:=ml) (enc:=kE) (val:=ke) rfl rfl rfl rfl (F.un _ rfl) (kK) (by first|exact rfl|(focus(skip;first|exact Tr.ae _ _ _|assumption))) (hg) (F.ze _ rfl) ?_))
   refine co 1 23 (d:=4) (by first|exact Tr.ae _ _ _|assumption) rfl ?_
   ((apply bj Try.func18 (congrArg Array.toList Try.results18));(focus(repeat(first|exact ResIs.nil|apply ResIs.tmp rfl))))
   exact⟨nx,rfl,Tr.ae _ _ _,zP _,Nat.lt_succ_self _,zY _,fun n hn=>Tr.aa _ _ (by omega)⟩
 | some x=>
   obtain⟨n,o,l⟩:=x
   rw [hg] at hl
   obtain⟨r,G,g1,g2,_⟩:=h.lock hg
   (repeat(first|refine ao ?_|refine ai ?_|refine ah ?_|refine aN ?_|refine ay rfl ?_|refine am rfl rfl rfl ?_|refine bO rfl rfl rfl rfl ?_|refine aJ rfl rfl rfl ?_|refine au rfl rfl rfl (F.fo _ _ rfl rfl) ?_|refine dD rfl rfl rfl rfl (F.un _ rfl) rfl ?_|refine aL rfl rfl rfl (F.ag _ rfl) (by first|exact Tr.ae _ _ _|assumption) (by exact rfl) ?_|refine fu (m:=ml) (enc:=kE) (val:=ke) rfl rfl rfl rfl (F.un _ rfl) (kK) (by first|exact rfl|(focus(skip;first|exact Tr.ae _ _ _|assumption))) (hg) ?_))
   (refine bn rfl rfl rfl (by kernel_rfl) (Fnc.mono (uE _ g2 hl) ?_);rintro⟨v2,H2,n2⟩ ⟨r2,rfl,q2,q3,q4,q5,q6⟩;dsimp only at q2 q4 q5 q6 ⊢)
   (repeat(first|refine ah ?_|refine aj rfl rfl rfl ?_))
   ((apply bj Try.func18 (congrArg Array.toList Try.results18));(focus(repeat(first|exact ResIs.nil|apply ResIs.tmp rfl))))
   exact⟨r2,rfl,q2,q3,q4,q5,q6⟩
theorem yQ{P:Program}{H:aV}{b:Nat}{ro:Bool}(l:List ByteArray)(hb:H.at' b=some (sR ro l)):RdV P H 1 (.slu b 0 l.length) l.length (l.flatMap sV):=by
 refine mm hb (by omega) ?_ (jk wM l)
 rw [Nat.zero_mul,List.drop_zero]
 exact zH (by rw [jk wM];exact zP _)
def yk(l:List ByteArray)(H:aV)(nx:Nat):Pst:=fun q=> ∃ r',q.1 = .slu r' 0 l.length∧q.2.1.at' r'=some (sR false l)∧nx≤r'∧r'<q.2.2∧nx≤q.2.2∧ ∀ n,n<nx→q.2.1.at' n=H.at' n
theorem uF{H:aV}{nx r:Nat}(l:List ByteArray)(hr:H.at' r=some (sR false l))(hl:l.length<2000000):Fnc Try.prog 33 [.slu r 0 l.length] H nx (yk l H nx):=by
 refine Fnc.start Try.func33 rfl rfl ?_
 refine b4 fun hund=>?_
 have hlt:=hund _ _ hr
 (repeat(first|refine ao ?_|refine ai ?_|refine ah ?_|refine aD rfl ?_|refine am rfl rfl rfl ?_|refine aj rfl rfl rfl ?_|refine pU rfl rfl rfl rfl (F.un _ rfl) (by first|exact Tr.ae _ _ _|assumption) (fun h0=>?_) ?_))
 ·skip
  refine co 1 9 (d:=2) (by first|exact Tr.ae _ _ _|assumption) rfl ?_
  ((apply bj Try.func33 (congrArg Array.toList Try.results33));(focus(repeat(first|exact ResIs.nil|apply ResIs.tmp rfl))))
  have:l= []:=zL h0
  subst this
  exact⟨nx,rfl,Tr.ae _ _ _,zP _,Nat.lt_succ_self _,zY _,fun n hn=>Tr.aa _ _ (by omega)⟩
 ·(repeat(first|refine ao ?_|refine ai ?_|refine ah ?_|refine aN ?_|refine ay rfl ?_|refine am rfl rfl rfl ?_|refine wH rfl rfl (F.un _ rfl) (F.sz _ rfl) rfl (F.ze _ rfl) ?_))
  rcases Nat.eq_zero_or_pos l.length with h0|h0
  ·have:l= []:=zL h0
   subst this
   refine ng (vs:= []) rfl rfl rfl rfl (F.un _ rfl) (.inl ⟨_,F.un _ rfl⟩) (F.sz _ rfl) rfl (by first|exact Tr.ae _ _ _|assumption) (zP _) (yQ [] (by(repeat(refine(Tr.aa _ _ (by omega)).trans ?_));first|exact Tr.ae _ _ _|assumption)) (jE wM []) ?_
   (repeat(first|refine ah ?_|refine aj rfl rfl rfl ?_))
   ((apply bj Try.func33 (congrArg Array.toList Try.results33));(focus(repeat(first|exact ResIs.nil|apply ResIs.tmp rfl))))
   exact⟨nx,rfl,Tr.ae _ _ _,zP _,Nat.lt_succ_self _,zY _,fun n hn=>Tr.aa _ _ (by omega)⟩
  ·refine pV (b:=16) (us:= []) (ws:= []) rfl rfl rfl rfl (F.un _ rfl) (.inl ⟨_,F.un _ rfl⟩) (F.sz _ rfl) rfl (by kernel_rfl) (by kernel_rfl) (by first|exact Tr.ae _ _ _|assumption) rfl rfl (yQ l (by(repeat(refine(Tr.aa _ _ (by omega)).trans ?_));first|exact Tr.ae _ _ _|assumption)) (jE wM l) h0 (by omega) (by omega) ?_
   rw [Nat.zero_add,List.nil_append]
   (repeat(first|refine ah ?_|refine aj rfl rfl rfl ?_))
   ((apply bj Try.func33 (congrArg Array.toList Try.results33));(focus(repeat(first|exact ResIs.nil|apply ResIs.tmp rfl))))
   exact⟨nx+1,rfl,Tr.ae _ _ _,zY _,Nat.lt_succ_self _,zX (zY _) (zY _),fun n hn=>(Tr.aa _ _ (by omega)).trans ((Tr.aF _ (by omega)).trans (Tr.aa _ _ (by omega)))⟩
theorem tU{t:Nat}{T:LT}{Fp:Nat→Prop}{H:aV}{nx:Nat}(hT:TabAt t T Fp H)(k:Nat)(hl:(T.keys k).length<2000000):Fnc Try.prog 12 [.ptr t 0,.sc (oE k)] H nx (yk (T.keys k) H nx):=by
 obtain⟨a,b,ml,cl,mp,cp,F1,F2,h,rfl,hF⟩:=hT
 have htab:=h.tab
 have hmap:=h.parties
 refine Fnc.start Try.func12 rfl rfl ?_
 rw [iG] at hl ⊢
 (repeat(first|refine ao ?_|refine ai ?_|refine ah ?_|refine am rfl rfl rfl ?_|refine aj rfl rfl rfl ?_|refine aJ rfl rfl rfl ?_|refine au rfl rfl rfl (F.fo _ _ rfl rfl) ?_|refine aL rfl rfl rfl (F.ag _ rfl) (by first|exact Tr.ae _ _ _|assumption) (by exact rfl) ?_|(refine bn rfl rfl rfl (by kernel_rfl) (Fnc.mono (iM htab) ?_);rintro _ rfl;dsimp only)))
 cases hg:cO mp k with
 | none=>
   (repeat(first|refine ao ?_|refine ai ?_|refine ah ?_|refine aD rfl ?_|refine aj rfl rfl rfl ?_|refine bO rfl rfl rfl rfl ?_|refine fv rfl rfl rfl rfl rfl (F.un _ rfl) rfl ?_|refine fL (m:=mp) (enc:=oE) (val:=jY) rfl rfl rfl rfl (F.un _ rfl) (oK) (by first|exact rfl|(focus(skip;first|exact Tr.ae _ _ _|assumption))) (hg) (F.ze _ rfl) ?_))
   refine co 1 9 (d:=4) (by first|exact Tr.ae _ _ _|assumption) rfl ?_
   ((apply bj Try.func12 (congrArg Array.toList Try.results12));(focus(repeat(first|exact ResIs.nil|apply ResIs.tmp rfl))))
   exact⟨nx,rfl,Tr.ae _ _ _,zP _,Nat.lt_succ_self _,zY _,fun n hn=>Tr.aa _ _ (by omega)⟩
 | some x=>
   obtain⟨n,ks,w⟩:=x
   rw [hg] at hl
   obtain⟨r,G,g1,g2,_⟩:=h.party hg
   (repeat(first|refine ao ?_|refine ai ?_|refine ah ?_|refine aN ?_|refine ay rfl ?_|refine am rfl rfl rfl ?_|refine bO rfl rfl rfl rfl ?_|refine aJ rfl rfl rfl ?_|refine au rfl rfl rfl (F.fo _ _ rfl rfl) ?_|refine dD rfl rfl rfl rfl (F.un _ rfl) rfl ?_|refine aL rfl rfl rfl (F.ag _ rfl) (by first|exact Tr.ae _ _ _|assumption) (by exact rfl) ?_|refine fu (m:=mp) (enc:=oE) (val:=jY) rfl rfl rfl rfl (F.un _ rfl) (oK) (by first|exact rfl|(focus(skip;first|exact Tr.ae _ _ _|assumption))) (hg) ?_))
   (refine bn rfl rfl rfl (by kernel_rfl) (Fnc.mono (uF _ g2 hl) ?_);rintro⟨v2,H2,n2⟩ ⟨r2,rfl,q2,q3,q4,q5,q6⟩;dsimp only at q2 q4 q5 q6 ⊢)
   (repeat(first|refine ah ?_|refine aj rfl rfl rfl ?_))
   ((apply bj Try.func12 (congrArg Array.toList Try.results12));(focus(repeat(first|exact ResIs.nil|apply ResIs.tmp rfl))))
   exact⟨r2,rfl,q2,q3,q4,q5,q6⟩
theorem in_r{H:aV}{nx:Nat}{s:SV}{xs:List Nat}(hs:uT H s xs)(o:Nat)(hl:xs.length<1000000):Fnc Try.prog 58 [s,.sc (.int .u64 (o:Int))] H nx (fun q=>q=(.sc (.bool (decide (o∈xs))),H,nx)):=by
 refine Fnc.start Try.func58 rfl rfl ?_
 (repeat(first|refine ao ?_|refine ai ?_|refine ah ?_|refine aT ?_|refine aj rfl rfl rfl ?_))
 refine ch (α:=Nat) (fun i=> [(0,s),(1,.sc (.int .u64 (o:Int))),(5,.sc (.int .i64 (i:Int)))]) (fun i H1 n1=>H1=H∧n1=nx∧i≤xs.length∧ ∀ j,j<i→xs[j]? ≠some o) (fun i=>xs.length-i) 0 ⟨rfl,rfl,zQ _,fun j hj=>by omega⟩ (SlIn.sub (by repeat(first|exact trivial|refine⟨rfl,?_⟩))) ?_
 rintro i H1 n1 ⟨rfl,rfl,hi,hno⟩ ih
 (repeat(first|refine ao ?_|refine ai ?_|refine am rfl rfl rfl ?_|(refine dC rfl rfl rfl (F.un _ rfl) hs ?_)))
 refine cu rfl rfl rfl rfl ?_ ?_
 all_goals intro h1
 ·have hq:i<xs.length:=by omega
  (repeat(first|refine ao ?_|refine ai ?_|refine ah ?_|refine aT ?_|refine aN ?_|refine aD rfl ?_|refine am rfl rfl rfl ?_))
  refine dq rfl rfl rfl rfl (F.un _ rfl) (F.sz _ rfl) hs rfl hq fun rr2 p2 ne2 rl2 u1 u2 u3 u4 _=>?_
  rw [lp hq] at u4
  have e1:=lq u4
  (repeat(first|(refine am rfl rfl rfl ?_)|(refine di rfl rfl rfl (F.ag _ rfl) u1 (br (by exact e1) (by omega)) ?_)))
  refine cF rfl rfl rfl rfl ?_ ?_
  all_goals intro h3
  ·clear ih
   have hin:o∈xs:=by
    have:xs[i]=o:=by omega
    exact this ▸ zZ hq
   (repeat(first|refine ao ?_|refine ai ?_|refine ah ?_|refine aD rfl ?_|refine aj rfl rfl rfl ?_))
   ((apply bj Try.func58 (congrArg Array.toList Try.results58));(focus(repeat(first|exact ResIs.nil|apply ResIs.tmp rfl))))
   rw [decide_eq_true hin];rfl
  ·(repeat(first|refine ai ?_|refine ah ?_|refine aM ?_|refine aN ?_|refine ay rfl ?_|refine am rfl rfl rfl ?_|refine aj rfl rfl rfl ?_|refine bT rfl rfl rfl rfl (by omega) (by omega) ?_))
   refine ih _ _ _ (i+1) ⟨rfl,rfl,hq,fun j hj=>?_⟩ (by omega) (SlIn.sub (by repeat(first|exact trivial|refine⟨rfl,?_⟩)))
   by_cases e:j=i
   ·subst e
    rw [zz hq]
    intro q
    simp only [zw] at q
    omega
   ·exact hno j (by omega)
 ·clear ih
  have hno':o∉xs:=fun hin=>by
   obtain⟨z,hz,ez⟩:=List.getElem_of_mem hin
   exact hno z (by omega) (by rw [zz hz,ez])
  (repeat(first|refine ao ?_|refine ai ?_|refine ah ?_|refine bA rfl ?_|refine ay rfl ?_|refine aj rfl rfl rfl ?_))
  ((apply bj Try.func58 (congrArg Array.toList Try.results58));(focus(repeat(first|exact ResIs.nil|apply ResIs.tmp rfl))))
  rw [decide_eq_false hno'];rfl
theorem rp(V:RV)(i o:Nat)(hi:i<V.length):dt ((V.take (i+1)).map (·.1)) o=dt ((V.take i).map (·.1)) o ++ if V[i].1.2.1=o then [V[i].1.1] else []:=by
 rw [List.take_succ_eq_append_getElem hi,zU,List.map_singleton]
 exact kF _ V[i].1.1 V[i].1.2.1 V[i].1.2.2 o
theorem vM(V:RV)(i o:Nat):(dt ((V.take i).map (·.1)) o).length≤V.length:=by
 unfold dt
 rw [List.length_map]
 refine zX (List.length_filter_le _ _) ?_
 rw [List.length_map,List.length_take]
 omega
theorem tV{t r:Nat}{W:RT}{Fw:Nat→Prop}{H:aV}{nx:Nat}(hW:WAt t r W Fw H)(hFw: ∀ n,Fw n→n<nx)(o:Nat)(hl:W.length<1000000):Fnc Try.prog 42 [.ptr t 0,.sc (.int .u64 (o:Int))] H nx (yk (dt W o) H nx):=by
 obtain⟨s,V,hV,rfl⟩:=hW
 rw [List.length_map] at hl
 refine Fnc.start Try.func42 rfl rfl ?_
 (repeat(first|refine ao ?_|refine ai ?_|refine ah ?_|refine aT ?_|refine aj rfl rfl rfl ?_))
 refine co 1 9 (d:=5) (by(repeat(first|exact Tr.ae _ _ _|refine(Tr.aa _ _ (by omega)).trans ?_));done) rfl ?_
 refine ch (α:=Nat×Nat) (fun x=> [(0,.ptr t 0),(1,.sc (.int .u64 (o:Int))),(5,.slu x.2 0 (dt ((V.take x.1).map (·.1)) o).length),(6,.sc (.int .i64 (x.1:Int)))]) (fun x H1 n1=>x.1≤V.length∧nx≤x.2∧x.2<n1∧H1.at' x.2=some (sR false (dt ((V.take x.1).map (·.1)) o))∧ ∀ n,n<nx→H1.at' n=H.at' n) (fun x=>V.length-x.1) (0,nx) ⟨zQ _,zP _,Nat.lt_succ_self _,by(focus((repeat(exact Tr.ae _ _ _));done)),fun n hn=>by(focus((repeat(refine(Tr.aa _ _ (by omega)).trans ?_));exact rfl))⟩ (SlIn.sub (by repeat(first|exact trivial|refine⟨rfl,?_⟩))) ?_
 rintro⟨i,nm⟩ H1 n1 ⟨hi,g1,g2,g3,g4⟩ ih
 simp only at hi g1 g2 g3 ih ⊢
 have hV1:=hV.frame fun n hn=>g4 n (hFw n hn)
 have hbox:=hV1.box
 have hsl:=hV1.sl
 have hle:=vM V i o
 (repeat(first|refine ao ?_|refine ai ?_|refine am rfl rfl rfl ?_|refine aJ rfl rfl rfl ?_|refine au rfl rfl rfl (F.fo _ _ rfl rfl) ?_|refine aL rfl rfl rfl (F.ag _ rfl) (by assumption) (by exact rfl) ?_|(refine dC rfl rfl rfl (F.un _ rfl) hsl ?_)))
 refine cu rfl rfl rfl rfl ?_ ?_
 all_goals intro h1
 ·have hq:i<V.length:=by omega
  have hx:V[i]? =some V[i]:=zz hq
  have hsn:=rp V i o hq
  (repeat(first|refine ao ?_|refine ai ?_|refine ah ?_|refine aT ?_|refine aN ?_|refine aD rfl ?_|refine am rfl rfl rfl ?_|refine aJ rfl rfl rfl ?_|refine au rfl rfl rfl (F.fo _ _ rfl rfl) ?_|refine aL rfl rfl rfl (F.ag _ rfl) (by assumption) (by exact rfl) ?_))
  refine dq rfl rfl rfl rfl (F.un _ rfl) (F.sz _ rfl) hsl rfl hq fun rr p ne rl q1 q2 q3 q4 _=>?_
  rw [de hx] at q4
  obtain⟨c1,c2,c3⟩:=kB q4
  (repeat(first|refine am rfl rfl rfl ?_|refine au rfl rfl rfl (F.fo _ _ rfl rfl) ?_|(refine di rfl rfl rfl (F.ag _ rfl) q1 (br (by exact c2) (by omega)) ?_)))
  refine cF rfl rfl rfl rfl ?_ ?_
  all_goals intro h3
  ·rw [if_pos (by omega)] at hsn
   (repeat(first|refine ai ?_|refine ah ?_|refine aD rfl ?_|refine am rfl rfl rfl ?_|refine aJ rfl rfl rfl ?_|refine au rfl rfl rfl (F.fo _ _ rfl rfl) ?_|refine aL rfl rfl rfl (F.ag _ rfl) (by assumption) (by exact rfl) ?_))
   refine dq rfl rfl rfl rfl (F.un _ rfl) (F.sz _ rfl) hsl rfl hq fun rr p ne rl q1 q2 q3 q4 _=>?_
   rw [de hx] at q4
   obtain⟨d1,d2,d3⟩:=kB q4
   generalize hks:dt ((V.take i).map (·.1)) o=ks at g3 hle hsn ⊢
   (repeat(first|refine ai ?_|refine ah ?_|refine aM ?_|refine am rfl rfl rfl ?_|refine aj rfl rfl rfl ?_|refine au rfl rfl rfl (F.fo _ _ rfl rfl) ?_|refine bT rfl rfl rfl rfl (by omega) (by omega) ?_|(refine di rfl rfl rfl (F.ag _ rfl) q1 (br (by exact d1) (by omega)) ?_)|refine cb rfl rfl (F.un _ rfl) (F.sz _ rfl) rfl (F.ze _ rfl) rfl rfl rfl rfl rfl ?_|refine gu (b:=16) (xs:=ks) (a:=V[i].1.1) rfl rfl rfl rfl (F.un _ rfl) (.inl ⟨_,F.un _ rfl⟩) (F.sz _ rfl) rfl (by kernel_rfl) (by kernel_rfl) (by(repeat(first|assumption|refine(Tr.aa _ _ (by omega)).trans ?_));done) (by(repeat(exact Tr.ae _ _ _));done) (by exact rfl) (wM) (by omega) (by omega) ?_))
   have hlen:(ks ++ [V[i].1.1]).length=ks.length+1:=by simp
   refine ih _ _ _ (i+1,n1+1) ⟨hq,by simp only;omega,by simp only;omega,by rw [hsn];exact Tr.ae _ _ _,fun n hn=>?_⟩ (by simp only;omega) (SlIn.sub (by simp only [hsn];exact(by repeat(first|exact trivial|refine⟨rfl,?_⟩))))
   exact(Tr.aa _ _ (by omega)).trans ((Tr.aF _ (by omega)).trans ((Tr.aa _ _ (by omega)).trans (g4 n hn)))
  ·rw [if_neg (by omega),List.append_nil] at hsn
   (repeat(first|refine ai ?_|refine ah ?_|refine aM ?_|refine aN ?_|refine ay rfl ?_|refine am rfl rfl rfl ?_|refine aj rfl rfl rfl ?_|refine bT rfl rfl rfl rfl (by omega) (by omega) ?_))
   refine ih _ _ _ (i+1,nm) ⟨hq,g1,g2,by rw [hsn];exact g3,g4⟩ (by simp only;omega) (SlIn.sub (by simp only [hsn];exact(by repeat(first|exact trivial|refine⟨rfl,?_⟩))))
 ·have hie:i=V.length:=by omega
  subst hie
  rw [List.take_length] at g3 ⊢
  clear ih
  (repeat(first|refine ao ?_|refine ai ?_|refine ah ?_|refine bA rfl ?_|refine ay rfl ?_|refine am rfl rfl rfl ?_|refine aj rfl rfl rfl ?_))
  ((apply bj Try.func42 (congrArg Array.toList Try.results42));(focus(repeat(first|exact ResIs.nil|apply ResIs.tmp rfl))))
  exact⟨nm,rfl,g3,g1,g2,by simp only;omega,g4⟩
end Go.Proofs.Ytckajlllkmkniaa
end
section
namespace Go.Sy
open Go Go.Sl Go.RowKit
section
variable {P:Program} {nt nx:Nat} {T:Tr SV} {H:aV} {ops:Array Oper} {i:Nat} {l:List Oper} {ty:TypeId} {pos:String} {af:Array Edge} {gd:Option (Nat×Bool)} {rs:List Rec} {Hs:List (aV×Nat)} {stg:Nat} {K:DS→Prop}
theorem uv{t:TypeId}{x:Operand}{b o:Nat}{vo:VO}{v:SV}{dd:Nat}(hw:aA (aS T (aO ops.toList ⟨some dd,.load t x,ty,pos,af,gd⟩)) ops ⟨some dd,.load t x,ty,pos,af,gd⟩=some true)(hd:Nat.blt dd nt=true)(hx:ar (aS T (aO ops.toList ⟨some dd,.load t x,ty,pos,af,gd⟩)) x=some (.ptr b o))(ha:b7 P t=some none)(hb:H.at' b=some vo)(hv:vo.cell o=some v)
 (h:DrawK P nt ops (i+1) l ⟨T.set dd v,H,nx,⟨i,⟨some dd,.load t x,ty,pos,af,gd⟩,(aS T (aO ops.toList ⟨some dd,.load t x,ty,pos,af,gd⟩)),stg,false,true,v⟩ :: rs,Hs,stg⟩ K):DrawK P nt ops i (⟨some dd,.load t x,ty,pos,af,gd⟩ :: l) ⟨T,H,nx,rs,Hs,stg⟩ K:=
 bv hw hd (fun _ h=>by cases h) (aw ha hx hb hv) h
theorem wh{t:TypeId}{x:Operand}{b o n:Nat}{vo:VO}{cs:List SV}{dd:Nat}(hw:aA (aS T (aO ops.toList ⟨some dd,.load t x,ty,pos,af,gd⟩)) ops ⟨some dd,.load t x,ty,pos,af,gd⟩=some true)(hd:Nat.blt dd nt=true)(hx:ar (aS T (aO ops.toList ⟨some dd,.load t x,ty,pos,af,gd⟩)) x=some (.ptr b o))(ha:b7 P t=some (some n))(hb:H.at' b=some vo)(hv:vo.cellsFrom o n=some cs)
 (h:DrawK P nt ops (i+1) l ⟨T.set dd (.agg cs),H,nx,⟨i,⟨some dd,.load t x,ty,pos,af,gd⟩,(aS T (aO ops.toList ⟨some dd,.load t x,ty,pos,af,gd⟩)),stg,false,true,.agg cs⟩ :: rs,Hs,stg⟩ K):DrawK P nt ops i (⟨some dd,.load t x,ty,pos,af,gd⟩ :: l) ⟨T,H,nx,rs,Hs,stg⟩ K:=
 bv hw hd (fun _ h=>by cases h) (aC ha hx hb hv) h
end
end Go.Sy
end
section
namespace Go.Proofs.Ytckajlllkmkniaa
open Go Go.Sy Go.Sl Go.RowKit
def ru(W:RT)(k:ByteArray):Nat×List Nat:=(bE W k).getD (0,[])
theorem xF{V:RV}{k:ByteArray}{i:Nat}(hi:i<V.length)(he:V[i].1.1=k)(hno: ∀ j,j<i→ ∀ x,V[j]? =some x→x.1.1≠k):ru (V.map (·.1)) k=V[i].1.2:=by
 unfold ru bE
 rw [List.find?_map]
 have:V.find? ((fun x:ByteArray×(Nat×List Nat)=>decide (x.1=k)) ∘ fun x=>x.1)=some V[i]:=by
  rw [List.find?_eq_some_iff_getElem]
  refine⟨by simpa using he,i,hi,rfl,fun j hj=>?_⟩
  have:=hno j hj _ (zz (by omega))
  simpa using this
 rw [this]
 rfl
theorem xE{V:RV}{k:ByteArray}(hno: ∀ x∈V,x.1.1≠k):ru (V.map (·.1)) k=(0,[]):=by
 unfold ru
 rw [show bE (V.map (·.1)) k=none from mz fun q=>by
  rw [List.map_map] at q
  obtain⟨x,hx,e⟩:=List.mem_map.1 q
  exact hno x hx e]
 rfl
theorem zc{t r:Nat}{W:RT}{Fw:Nat→Prop}{H:aV}{nx:Nat}(hW:WAt t r W Fw H)(k:ByteArray)(hl:W.length<1000000):Fnc Try.prog 45 [.ptr t 0,.sc (.string k)] H nx (fun q=> ∃ s,q=(.tup [.sc (.int .u64 ((ru W k).1:Int)),s],H,nx)∧uT H s (ru W k).2):=by
 obtain⟨s,V,hV,rfl⟩:=hW
 rw [List.length_map] at hl
 have hbox:=hV.box
 have hsl:=hV.sl
 refine Fnc.start Try.func45 rfl rfl ?_
 (repeat(first|refine ao ?_|refine ai ?_|refine ah ?_|refine aT ?_|refine aj rfl rfl rfl ?_))
 refine ch (α:=Nat) (fun i=> [(0,.ptr t 0),(1,.sc (.string k)),(6,.sc (.int .i64 (i:Int)))]) (fun i H1 n1=>H1=H∧n1=nx∧i≤V.length∧ ∀ j,j<i→ ∀ x,V[j]? =some x→x.1.1≠k) (fun i=>V.length-i) 0 ⟨rfl,rfl,zQ _,fun j hj=>by omega⟩ (SlIn.sub (by repeat(first|exact trivial|refine⟨rfl,?_⟩))) ?_
 rintro i H1 n1 ⟨rfl,rfl,hi,hno⟩ ih
 (repeat(first|refine ao ?_|refine ai ?_|refine am rfl rfl rfl ?_|refine aJ rfl rfl rfl ?_|refine au rfl rfl rfl (F.fo _ _ rfl rfl) ?_|refine aL rfl rfl rfl (F.ag _ rfl) (by assumption) (by exact rfl) ?_|(refine dC rfl rfl rfl (F.un _ rfl) hsl ?_)))
 refine cu rfl rfl rfl rfl ?_ ?_
 all_goals intro h1
 ·have hq:i<V.length:=by omega
  have hx:V[i]? =some V[i]:=zz hq
  (repeat(first|refine ao ?_|refine ai ?_|refine ah ?_|refine aT ?_|refine aN ?_|refine aD rfl ?_|refine am rfl rfl rfl ?_|refine aJ rfl rfl rfl ?_|refine au rfl rfl rfl (F.fo _ _ rfl rfl) ?_|refine aL rfl rfl rfl (F.ag _ rfl) (by assumption) (by exact rfl) ?_))
  refine dq rfl rfl rfl rfl (F.un _ rfl) (F.sz _ rfl) hsl rfl hq fun rr o ne rl q1 q2 q3 q4 _=>?_
  rw [de hx] at q4
  obtain⟨c1,c2,c3⟩:=kB q4
  (repeat(first|refine am rfl rfl rfl ?_|refine au rfl rfl rfl (F.fo _ _ rfl rfl) ?_|(refine di rfl rfl rfl (F.ag _ rfl) q1 (br (by exact c1) (by omega)) ?_)))
  by_cases he:V[i].1.1=k
  ·refine fF rfl rfl rfl rfl ((MapKept.bytes_beq _ _).2 he) ?_
   clear ih
   have hget:=xF hq he hno
   have hln:=(hV.lines V[i] (zZ hq)).1
   rcases hV.row with ⟨rfl,_⟩|⟨_,rfl,hrow,_,_⟩
   ·simp at hq
   obtain⟨d1,d2,d3⟩:=kB (de hx)
   clear q1 q2 q3 q4 c1 c2 c3
   (repeat(first|refine ao ?_|refine ah ?_|refine aD rfl ?_))
   refine bP (by kernel_rfl) (by kernel_rfl) ?_
   (repeat(first|refine aX rfl rfl rfl ?_|refine dF rfl rfl rfl ?_|refine bD rfl rfl rfl ?_|refine bu rfl rfl rfl (F.fo _ _ rfl rfl) ?_|refine bK rfl rfl rfl (F.ag _ rfl) (by assumption) (by exact rfl) ?_|refine bb (q:=i) rfl rfl rfl rfl (F.un _ rfl) (F.sz _ rfl) (by assumption) (by omega) (by first|omega|(simp;done)) (zP _) ?_|(refine uv rfl rfl rfl (F.ag _ rfl) hrow (br (by exact d2) (by omega)) ?_)|(refine uv rfl rfl rfl (F.ag _ rfl) hrow (br (by exact d3) (by omega)) ?_)))
   (refine be ?_);(refine⟨by kernel_rfl,?_,?_⟩);(focus(repeat(first|exact trivial|refine⟨.inl rfl,?_⟩)))
   dsimp only [wrL]
   ((apply bj Try.func45 (congrArg Array.toList Try.results45));(focus(repeat(first|exact ResIs.nil|apply ResIs.tmp rfl))))
   rw [hget]
   exact⟨_,rfl,hln⟩
  ·refine fF rfl rfl rfl rfl (by cases h:(V[i].1.1 == k)with|false=>rfl|true=>exact absurd ((MapKept.bytes_beq _ _).1 h) he) ?_
   (repeat(first|refine ai ?_|refine ah ?_|refine aM ?_|refine aN ?_|refine ay rfl ?_|refine am rfl rfl rfl ?_|refine aj rfl rfl rfl ?_|refine bT rfl rfl rfl rfl (by omega) (by omega) ?_))
   refine ih _ _ _ (i+1) ⟨rfl,rfl,hq,fun j hj x hxj=>?_⟩ (by omega) (SlIn.sub (by repeat(first|exact trivial|refine⟨rfl,?_⟩)))
   by_cases e:j=i
   ·subst e
    rw [hx] at hxj
    cases hxj
    exact he
   ·exact hno j (by omega) x hxj
 ·clear ih
  have hget:ru (V.map (·.1)) k=(0,[]):=xE fun x hx=>by
   obtain⟨j,hj,rfl⟩:=List.getElem_of_mem hx
   exact hno j (by omega) _ (zz hj)
  rw [hget]
  (repeat(first|refine ao ?_|refine ai ?_|refine ah ?_|refine bA rfl ?_|refine ay rfl ?_|refine aj rfl rfl rfl ?_))
  ((apply bj Try.func45 (congrArg Array.toList Try.results45));(focus(repeat(first|exact ResIs.nil|apply ResIs.tmp rfl))))
  exact⟨_,rfl,SlOf.none⟩
end Go.Proofs.Ytckajlllkmkniaa
end
