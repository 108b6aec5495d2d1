import Derived.WalkKit
import Derived.WalkSpells
import Derived.KernelRfl
import Derived.Deep.Draws
import Derived.Deep.Quiet
import Derived.Deep.QuietTactic
import Derived.BigQuiet
import Derived.Lib.Hide
import Derived.Laws.OwnMore
import Derived.MapKept
import Derived.Carry
import Derived.Laws.Tables
import Derived.Laws.BytesString
import Derived.Deep.AppendSrc
import Derived.Laws.IdiomStrings
set_option linter.unusedVariables false
set_option linter.unusedSimpArgs false
namespace Go
theorem Gc:True:=trivial
theorem D2:type_of% @Option.some.injEq:=@Option.some.injEq
theorem D3:type_of% @Go.IntWalk.i64_in:=@Go.IntWalk.i64_in
theorem D4:type_of% @Array.size_setIfInBounds:=@Array.size_setIfInBounds
theorem D5:type_of% @List.getElem?_eq_getElem:=@List.getElem?_eq_getElem
theorem D6:type_of% @List.getElem?_eq_some_iff:=@List.getElem?_eq_some_iff
theorem D7:type_of% @Nat.le_of_ble_eq_true:=@Nat.le_of_ble_eq_true
theorem D8:type_of% @Array.getD_eq_getD_getElem?:=@Array.getD_eq_getD_getElem?
theorem D9:type_of% @Nat.ble_eq_true_of_le:=@Nat.ble_eq_true_of_le
theorem Ea:type_of% @Prod.mk.injEq:=@Prod.mk.injEq
theorem Eb:type_of% @Option.map_eq_some_iff:=@Option.map_eq_some_iff
theorem Ec:type_of% @Array.getElem?_eq_some_iff:=@Array.getElem?_eq_some_iff
theorem Ed:type_of% @List.take_of_length_le:=@List.take_of_length_le
theorem Ee:type_of% @Array.getElem?_eq_getElem:=@Array.getElem?_eq_getElem
theorem Ef:type_of% @List.mem_of_getElem?:=@List.mem_of_getElem?
theorem Eg:type_of% @List.getD_eq_getElem?_getD:=@List.getD_eq_getElem?_getD
theorem Eh:type_of% @List.eq_nil_of_length_eq_zero:=@List.eq_nil_of_length_eq_zero
theorem Ei:type_of% @List.getElem?_append_left:=@List.getElem?_append_left
theorem Ej:type_of% @List.getElem?_cons_zero:=@List.getElem?_cons_zero
theorem Ek:type_of% @Bool.and_eq_true:=@Bool.and_eq_true
theorem Em:type_of% @Nat.le_refl:=@Nat.le_refl
theorem En:type_of% @Nat.zero_le:=@Nat.zero_le
theorem Eo:type_of% @List.map_cons:=@List.map_cons
theorem Ep:type_of% @List.length_cons:=@List.length_cons
theorem Er:type_of% @List.length_append:=@List.length_append
theorem Es:type_of% @List.map_append:=@List.map_append
theorem Et:type_of% @Option.map_some:=@Option.map_some
theorem Eu:type_of% @Option.bind_some:=@Option.bind_some
theorem Ev:type_of% @Nat.le_trans:=@Nat.le_trans
theorem Ew:type_of% @Nat.le_succ:=@Nat.le_succ
theorem Ex:type_of% @List.getElem_mem:=@List.getElem_mem
theorem Ey:type_of% @if_neg:=@if_neg
theorem Ez:type_of% @if_pos:=@if_pos
theorem EA:type_of% @Nat.zero_add:=@Nat.zero_add
theorem EB:type_of% @Nat.lt_or_ge:=@Nat.lt_or_ge
theorem EC:type_of% @List.length_take:=@List.length_take
theorem ED:type_of% @List.length_map:=@List.length_map
theorem EE:type_of% @List.mem_singleton:=@List.mem_singleton
theorem EF:type_of% @List.length_drop:=@List.length_drop
theorem EG:type_of% @List.mem_cons_self:=@List.mem_cons_self
theorem EH:type_of% @List.mem_cons_of_mem:=@List.mem_cons_of_mem
theorem EI:type_of% @List.getElem?_append_right:=@List.getElem?_append_right
theorem EJ:type_of% @List.append_assoc:=@List.append_assoc
theorem EK:type_of% @of_decide_eq_true:=@of_decide_eq_true
theorem EL:type_of% @List.length_replicate:=@List.length_replicate
theorem EM:type_of% @List.append_nil:=@List.append_nil
theorem EN:type_of% @List.mem_cons:=@List.mem_cons
theorem EO:type_of% @Nat.eq_of_beq_eq_true:=@Nat.eq_of_beq_eq_true
theorem EP:type_of% @List.getElem?_map:=@List.getElem?_map
theorem EQ:type_of% @Int.toNat_natCast:=@Int.toNat_natCast
theorem ER:type_of% @decide_eq_true:=@decide_eq_true
theorem ES:type_of% @decide_eq_false:=@decide_eq_false
theorem ET:type_of% @List.ext_getElem?:=@List.ext_getElem?
theorem EU:type_of% @List.mem_range:=@List.mem_range
theorem EV:type_of% @List.mem_map:=@List.mem_map
theorem EW:type_of% @List.getElem?_eq_none:=@List.getElem?_eq_none
theorem EX:type_of% @Go.IntWalk.u64_in:=@Go.IntWalk.u64_in
theorem EY:type_of% @List.replicate_append_replicate:=@List.replicate_append_replicate
theorem EZ:type_of% @decide_eq_true_eq:=@decide_eq_true_eq
end Go
set_option maxRecDepth 100000
set_option maxHeartbeats 0
section
namespace Go.Sl
open Go.RowKit
abbrev iU:=List (Nat×Obj)
structure Sat (w0 w:World) (F:iU):Prop where
 below:Below w0.heap.size w0 w
 nodup:(F.map (·.1)).Nodup
 here: ∀ p∈F,w0.heap.size≤p.1∧w.heap[p.1]? =some p.2
section
variable {F G:iU}{b:Nat}{w w0:World}
theorem Sat.start(w:World):Sat w w []:=⟨Below.refl _ _,by simp,by simp⟩
theorem Sat.lt(h:Sat w0 w F){p:Nat×Obj}(hp:p∈F):p.1<w.heap.size:=
 (Ec.1 (h.here p hp).2).1
theorem Sat.perm(h:Sat w0 w F)(hp:F.Perm G):Sat w0 w G:=
 ⟨h.below,(hp.map _).nodup_iff.1 h.nodup,fun p hm=>h.here p (hp.mem_iff.2 hm)⟩
theorem Sat.sub{w0 w:World}{F G:iU}(h:Sat w0 w F)(hs:List.Sublist G F):Sat w0 w G:=
 ⟨h.below,(hs.map _).nodup h.nodup,fun p hm=>h.here p (hs.subset hm)⟩
theorem Sat.left(h:Sat w0 w (F ++ G)):Sat w0 w F:=h.sub (List.sublist_append_left _ _)
theorem Sat.right(h:Sat w0 w (F ++ G)):Sat w0 w G:=h.sub (List.sublist_append_right _ _)
theorem Sat.tail{p:Nat×Obj}(h:Sat w0 w (p :: G)):Sat w0 w G:=h.sub (List.sublist_cons_self _ _)
theorem Sat.drew(h:Sat w0 w F):Sat w0 w.drew F:=⟨h.below.drew,h.nodup,h.here⟩
theorem Sat.alloc(h:Sat w0 w F)(o:Obj):Sat w0 (w.alloc o) ((w.heap.size,o) :: F):=by
 refine⟨h.below.alloc h.below.size o,?_,?_⟩
 ·rw [Eo,List.nodup_cons]
  refine⟨fun hm=>?_,h.nodup⟩
  obtain⟨p,hp,he⟩:=EV.1 hm
  have:=h.lt hp
  omega
 ·intro p hp
  rcases EN.1 hp with rfl|hp
  ·exact⟨h.below.size,by show(w.heap.push o)[w.heap.size]? =some o;simp⟩
  ·refine⟨(h.here p hp).1,?_⟩
   rw [Below.heap_alloc _ _ _ (h.lt hp)]
   exact(h.here p hp).2
theorem Sat.turn{w1:World}{o o':Obj}(h:Sat w0 w ((b,o) :: F))(hos:w1.os=w.os)(htape:w1.tape=w.tape)(hout:w1.output=w.output)
 (hsize:w.heap.size≤w1.heap.size) (hother: ∀ k,k<w.heap.size→k≠b→w1.heap[k]? =w.heap[k]?) (hb:w1.heap[b]? =some o'):Sat w0 w1 ((b,o') :: F):=by
 have hb0:=(h.here (b,o) (EG ..)).1
 have hn:=h.nodup
 rw [Eo,List.nodup_cons] at hn
 refine⟨⟨hos.trans h.below.os,htape.trans h.below.tape,hout.trans h.below.output,Ev h.below.size hsize,fun k hk=>?_⟩,?_,?_⟩
 ·have:=h.below.size
  rw [hother k (by omega) (by simp at hb0;omega),h.below.block k hk]
 ·rw [Eo,List.nodup_cons];exact hn
 ·intro p hp
  rcases EN.1 hp with rfl|hp
  ·exact⟨hb0,hb⟩
  ·have hp':=h.here p (EH _ hp)
   refine⟨hp'.1,?_⟩
   rw [hother p.1 (h.lt (EH _ hp)) (fun e=>hn.1 (EV.2 ⟨p,hp,e⟩))]
   exact hp'.2
theorem Sat.block(h:Sat w0 w F){o:Obj}(hb:(b,o)∈F):w.heap[b]? =some o:=(h.here _ hb).2
theorem Sat.cell{w0 w:World}{F:iU}(h:Sat w0 w F){b:Nat}{cs:Array Value}{ty:TypeId}{fz:Nat×Nat}(hb:(b,.cells cs ty fz)∈F)(i:Nat):w.cell? ⟨b,i,none⟩=cs[i]? :=by
 simp [World.cell?,h.block hb]
theorem Sat.old(h:Sat w0 w F){a:Addr}{v:Value}(hc:w0.cell? a=some v):w.cell? a=some v:=
 (h.below.cell (World.block_lt_of_cell? _ _ hc)).trans hc
end
section
variable {P:Program} {ops:Array Oper} {Q:Exit→Act→World→Prop} {a:Act} {w w0:World} {rest:List Oper} {o:Oper} {F:iU}
def AP:TypeDesc→Bool
 | .struct _ | .array _ _=>true
 | _=>false
def Plain(P:Program)(t:TypeId):Prop:=(P.underlying t).map AP=some false
def Agg(P:Program)(t:TypeId)(n:Nat):Prop:=(P.underlying t).map AP=some true∧(P.info? t).map (·.size)=some n
theorem nL{t:TypeId}{n:Nat}(h:(P.info? t).map (·.size)=some n)(w:World):(sizeOf t).run P w = .ok n w:=by
 cases hi:P.info? t with
 | none=>simp [hi] at h
 | some i=>simp [hi] at h;simp [sizeOf,typeInfo,hi,h]
inductive Upd (b:Nat) (o o':Obj):iU→iU→Prop where
 | head {l:iU}:Upd b o o' ((b,o) :: l) ((b,o') :: l)
 | tail {l l':iU} {x:Nat×Obj}:Upd b o o' l l'→Upd b o o' (x :: l) (x :: l')
 | app {l l':iU} {A:iU}:Upd b o o' l l'→Upd b o o' (A ++ l) (A ++ l')
 | appl {l l':iU} {A:iU}:Upd b o o' l l'→Upd b o o' (l ++ A) (l' ++ A)
section
variable {b:Nat}{o o':Obj}
theorem Upd.split{l l':iU}(h:Upd b o o' l l'): ∃ A B,l=A ++ (b,o) :: B∧l'=A ++ (b,o') :: B:=by
 induction h with
 | head=>exact⟨[],_,rfl,rfl⟩
 | tail _ ih=>obtain⟨A,B,rfl,rfl⟩:=ih;exact⟨_ :: A,B,rfl,rfl⟩
 | @app _ _ C _ ih=>obtain⟨A,B,rfl,rfl⟩:=ih;exact⟨C ++ A,B,by simp,by simp⟩
 | @appl _ _ C _ ih=>obtain⟨A,B,rfl,rfl⟩:=ih;exact⟨A,B ++ C,by simp,by simp⟩
theorem Upd.mem{l l':iU}(h:Upd b o o' l l'):(b,o)∈l:=by
 obtain⟨A,B,rfl,rfl⟩:=h.split
 simp
theorem Sat.upd{G:iU}(hS:Sat w0 w F)(hU:Upd b o o' F G){w1:World}(hos:w1.os=w.os)(htape:w1.tape=w.tape)(hout:w1.output=w.output)
 (hsize:w.heap.size≤w1.heap.size) (hother: ∀ k,k<w.heap.size→k≠b→w1.heap[k]? =w.heap[k]?) (hb:w1.heap[b]? =some o'):Sat w0 w1 G:=by
 obtain⟨A,B,rfl,rfl⟩:=hU.split
 exact((hS.perm List.perm_middle).turn hos htape hout hsize hother hb).perm List.perm_middle.symm
end
inductive Hole (b:Nat) (o:Obj):iU→iU→iU→Prop where
 | head {l:iU}:Hole b o ((b,o) :: l) [] l
 | tail {l A B:iU} {x:Nat×Obj}:Hole b o l A B→Hole b o (x :: l) (x :: A) B
 | app {l A B C:iU}:Hole b o l A B→Hole b o (C ++ l) (C ++ A) B
theorem Hole.eq{b:Nat}{o:Obj}{l A B:iU}(h:Hole b o l A B):l=A ++ (b,o) :: B:=by
 induction h with
 | head=>rfl
 | tail _ ih=>rw [ih];rfl
 | app _ ih=>rw [ih,EJ]
theorem Hole.upd{b:Nat}{o:Obj}{l A B:iU}(h:Hole b o l A B)(o':Obj):Upd b o o' l (A ++ (b,o') :: B):=by
 rw [h.eq]
 exact Upd.app Upd.head
theorem Sat.set{b:Nat}{cs:Array Value}{ty:TypeId}{i:Nat}{v:Value}{G:iU}(hS:Sat w0 w F)(hU:Upd b (.cells cs ty (0,0)) (.cells (cs.setIfInBounds i v) ty (0,0)) F G) :
 Sat w0 (w.setCell ⟨b,i,none⟩ v) G:=
 hS.upd hU rfl rfl rfl (by simp [World.setCell]) (fun k _ hk=>Below.heap_setCell _ _ _ _ hk) (heap_setCell_same w b i cs ty v (hS.block hU.mem))
def OneC(P:Program)(t:TypeId):Prop:=(P.info? t).map (·.size)=some 1
attribute [irreducible] Plain Agg OneC
end
structure KeyEnc (P:Program) (kt:TypeId) {K:Type} [DecidableEq K] (enc:K→Value):Prop where
 same: ∃ kd,P.underlying kt=some kd∧ ∀ a b,Instr.sameNow kd (enc a) (enc b)=some (decide (a=b))
 check: ∀ (e:Bool) (k:K) (w:World),(Instr.checkKey e 10000 kt (enc k)).run P w = .ok () w
 bits: ∀ k,Instr.sameBits 10000 (enc k) (enc k)=true
section
variable {K V:Type} [DecidableEq K]
section
variable {k:K}{v:V}{l:List (K×V)}
def CH(l:List (K×V))(k:K):Option V:=(l.find? (fun x=>decide (x.1=k))).map (·.2)
def xe:List (K×V)→K→V→List (K×V)
 | [],k,v=> [(k,v)]
 | x :: l,k,v=>if x.1=k then(k,v) :: l else x :: xe l k v
theorem zE(k:K):CH ([]:List (K×V)) k=none:=rfl
theorem xh(x:K×V)(l:List (K×V))(k:K):CH (x :: l) k=if x.1=k then some x.2 else CH l k:=by
 unfold CH
 by_cases h:x.1=k <;> simp [List.find?,h]
theorem vf(h:CH l k=some v): ∃ A B,l=A ++ (k,v) :: B∧k∉A.map (·.1):=by
 induction l with
 | nil=>simp [zE] at h
 | cons x l ih=>
   rw [xh] at h
   by_cases hk:x.1=k
   ·simp only [hk,if_true,D2] at h
    obtain⟨x1,x2⟩:=x
    simp at hk h
    exact⟨[],l,by simp [hk,h],by simp⟩
   ·simp only [hk,if_false] at h
    obtain⟨A,B,rfl,hA⟩:=ih h
    exact⟨x :: A,B,rfl,by simp [Ne.symm hk] at hA ⊢;exact hA⟩
theorem ve{A B:List (K×V)}(h:k∉A.map (·.1))(v':V):xe (A ++ (k,v) :: B) k v'=A ++ (k,v') :: B:=by
 induction A with
 | nil=>simp [xe]
 | cons x A ih=>
   simp at h
   have hx:x.1≠k:=fun e=>h.1 e.symm
   rw [List.cons_append,xe,Ey hx,ih (by simp;exact h.2)]
   rfl
theorem zF{x:K}:x∈(xe l k v).map (·.1)↔x=k∨x∈l.map (·.1):=by
 induction l with
 | nil=>simp [xe]
 | cons y l ih=>
   unfold xe
   by_cases h:y.1=k
   ·simp [h]
   ·simp only [h,if_false,Eo,EN,ih]
    constructor <;> (intro h';rcases h' with h'|h'|h' <;> simp [h'])
theorem uZ(h:(l.map (·.1)).Nodup)(k:K)(v:V):((xe l k v).map (·.1)).Nodup:=by
 induction l with
 | nil=>simp [xe]
 | cons y l ih=>
   unfold xe
   simp only [Eo,List.nodup_cons] at h
   by_cases hk:y.1=k
   ·simp only [hk,if_true,Eo,List.nodup_cons]
    exact⟨by rw [← hk];exact h.1,h.2⟩
   ·simp only [hk,if_false,Eo,List.nodup_cons,zF]
    exact⟨by simp [hk,h.1],ih h.2⟩
end
structure MapIs (enc:K→Value) (val:V→Value) (l:List (K×V)) (es:Array MapEntry) (clock:Nat):Prop where
 keys:es.toList.map (fun e=>(e.key,e.val))=l.map (fun x=>(enc x.1,val x.2))
 nodup:(l.map (·.1)).Nodup
 born:(es.toList.map (·.born)).Nodup∧ ∀ e∈es,e.born<clock
omit [DecidableEq K] in
theorem MapIs.empty(enc:K→Value)(val:V→Value):MapIs enc val [] #[] 0:=⟨rfl,by simp,by simp⟩
omit [DecidableEq K] in
theorem MapIs.size{enc:K→Value}{val:V→Value}{l:List (K×V)}{es:Array MapEntry}{clock:Nat}(h:MapIs enc val l es clock):es.size=l.length:=by
 have:=congrArg List.length h.keys
 simpa using this
section
variable {P:Program} {kt:TypeId} {enc:K→Value} {val:V→Value}
theorem MapIs.same{l:List (K×V)}{es:Array MapEntry}{clock:Nat}(h:MapIs enc val l es clock){k:K}{v u:V}(hg:CH l k=some v)(hv:val u=val v):MapIs enc val (xe l k u) es clock:=by
 refine⟨?_,uZ h.nodup k u,h.born⟩
 rw [h.keys]
 obtain⟨A,B,rfl,hA⟩:=vf hg
 rw [ve hA]
 simp [hv]
section
variable {ops:Array Oper} {Q:Exit→Act→World→Prop} {a:Act} {w w0:World} {rest:List Oper} {o:Oper} {F:iU}
theorem zf{t:TypeId}{z:Value}(hz:(P.info? t).bind (·.zero)=some z)(w:World):(zeroValue t).run P w = .ok z w:=by
 cases hi:P.info? t with
 | none=>simp [hi] at hz
 | some i=>simp [hi] at hz;simp [zeroValue,typeInfo,hi,hz]
end
end
end
end Go.Sl
end
section
namespace Go.Sy
open Go
noncomputable section
abbrev Tr(A:Type):Type:=Nat→Option A
def Tr.nil{A:Type}:Tr A:=fun _=>none
def Tr.at'{A:Type}(t:Tr A)(n:Nat):Option A:=t n
def Tr.set{A:Type}(t:Tr A)(n:Nat)(v:A):Tr A:=fun m=>bif Nat.beq m n then some v else t m
def Tr.del{A:Type}(t:Tr A)(n:Nat):Tr A:=fun m=>bif Nat.beq m n then none else t m
inductive SV where
 | sc (v:Value)
 | ptr (b off:Nat)
 | sl (b off len cap:Nat)
 | slu (b eo len:Nat)
 | mp (b:Nat)
 | yld (b:Nat)
 | agg (l:List SV)
 | tup (l:List SV)
 | ifc (t:TypeId) (v:SV)
 | fn (f:Fn) (first captured:List SV)
mutual
def SV.lit:SV→Option Value
 | .sc v=>some v
 | .agg l=>match SV.lH l with
   | some vs=>some (.agg vs.toArray)
   | none=>none
 | .tup l=>match SV.lH l with
   | some vs=>some (.tuple vs.toArray)
   | none=>none
 | .ifc t v=>match SV.lit v with
   | some x=>some (.iface t x)
   | none=>none
 | .fn f a b=>match SV.lH a with
   | some x=>match SV.lH b with
     | some y=>some (.func f x.toArray y.toArray)
     | none=>none
   | none=>none
 | .ptr _ _=>none
 | .sl _ _ _ _=>none
 | .slu _ _ _=>none
 | .mp _=>none
 | .yld _=>none
def SV.lH:List SV→Option (List Value)
 | []=>some []
 | x :: l=>match SV.lit x with
   | some v=>match SV.lH l with
     | some vs=>some (v :: vs)
     | none=>none
   | none=>none
end
def SV.cells:SV→List SV
 | .sc (.agg cs)=>cs.toList.map .sc
 | .agg l=>l
 | s=> [s]
def SV.one:SV→Bool
 | .sc (.agg _)=>false
 | .sc (.tuple _)=>false
 | .agg _=>false
 | .tup _=>false
 | _=>true
inductive ADf where
 | call (f:FuncId) (args:List SV)
 | taken (r:Nat)
inductive VO where
 | cells (n:Nat) (t:TypeId) (c:Tr SV)
 | row (ro:Bool) (ne sz:Nat) (t:TypeId) (c:Tr SV)
 | map (l:List (Value×SV×Nat)) (clock:Nat)
 | iter (m:Option Nat) (since:Nat) (seen:List Nat) (stepped:Nat)
 | siter (s:ByteArray) (pos:Nat)
 | loop (st:LoopState) (pending:Option Code) (fn:FuncId) (nt:Nat) (T:Tr SV) (params:Array Tmp) (assign body:Code) (defers:Nat)
 | dfd (calls:Option (List ADf))
abbrev aw:=Tr VO
def VO.ro:VO→Bool
 | .row r _ _ _ _=>r
 | _=>false
def VO.cell:VO→Nat→Option SV
 | .cells n _ c,i=>bif Nat.blt i n then c.at' i else none
 | .row _ ne sz _ c,i=>bif Nat.blt i (ne*sz) then c.at' i else none
 | _,_=>none
def VO.cellsFrom(vo:VO):Nat→Nat→Option (List SV)
 | _,0=>some []
 | i,n+1=>match vo.cell i with
   | some x=>match vo.cellsFrom (i+1) n with
     | some l=>some (x :: l)
     | none=>none
   | none=>none
def VO.setCell:VO→Nat→SV→Option VO
 | .cells n t c,i,x=>bif Nat.blt i n && x.one then some (.cells n t (c.set i x)) else none
 | .row false ne sz t c,i,x=>bif Nat.blt i (ne*sz) && x.one then some (.row false ne sz t (c.set i x)) else none
 | _,_,_=>none
def VO.setCells(vo:VO):Nat→List SV→Option VO
 | _,[]=>some vo
 | i,x :: l=>match vo.setCell i x with
   | some vo'=>vo'.setCells (i+1) l
   | none=>none
def fw(l:List SV):Tr SV:=fun i=>l[i]?
def eu:SV:= .sc (.tuple #[])
def am(t:TypeId)(l:List SV):VO:= .cells l.length t (fw l)
def cq:List SV→Bool
 | []=>true
 | x :: l=>x.one && cq l
inductive ANx where
 | val (v:SV)
 | skip
 | enter (f:FuncId) (args:List SV)
 | round (l:Nat) (args:List SV)
 | dfr (d:ADf)
 | recover
def bu(P:Program){A:Type}:Sem A→Option A
 | .pure a=>some a
 | .program k=>bu P (k P)
 | .mark _ k=>bu P k
 | .choose q k=>bif q.forced then bu P (k 0) else none
 | _=>none
section
variable (P:Program)
def ar(T:Tr SV):Operand→Option SV
 | .tmp t=>T.at' t
 | .const v=>some (.sc v)
 | .global g=>some (.sc (.pointer (some ⟨g,0,none⟩)))
 | .func f=>some (.sc (.func (.func f) #[] #[]))
def dh(T:Tr SV):List Operand→Option (List SV)
 | []=>some []
 | x :: l=>match ar T x with
   | some v=>match dh T l with
     | some r=>some (v :: r)
     | none=>none
   | none=>none
def l6(T:Tr SV):List (Nat×Operand)→Option (List (Nat×SV))
 | []=>some []
 | (i,x) :: l=>match ar T x with
   | some v=>match l6 T l with
     | some r=>some ((i,v) :: r)
     | none=>none
   | none=>none
def bT(t:TypeId):Option (Option Nat):=
 match P.underlying t with
 | none=>none
 | some (.struct _)=>((P.info? t).map (·.size)).map some
 | some (.array _ _)=>((P.info? t).map (·.size)).map some
 | some _=>some none
def bw(t:TypeId):Option Nat:=(P.info? t).map (·.size)
def dY(t:TypeId):Option Value:=(P.info? t).bind (·.zero)
def BD(t:TypeId)(l:List SV)(off:Nat):Option SV:=
 match bT P t with
 | none=>none
 | some none=>l[off]?
 | some (some n)=>some (.agg ((l.drop off).take n))
def hJ(place:Nat→Option (Nat×Nat))(cells:List SV):List (Nat×SV)→Option (List SV)
 | []=>some cells
 | (i,v) :: rest=>
   match place i with
   | none=>none
   | some (off,size)=>
     let vc:=v.cells
     bif Nat.beq vc.length size && Nat.ble (off+size) cells.length then hJ place (cells.take off ++ vc ++ cells.drop (off+size)) rest else none
def lL:List Field→Option (List (Nat×Nat))
 | []=>some []
 | f :: l=>match bw P f.type with
   | some s=>match lL l with
     | some r=>some ((f.offset,s) :: r)
     | none=>none
   | none=>none
def zD(T:Tr SV)(x:Operand):Option Nat:=match ar T x with
 | some (.sc (.int _ (.ofNat n)))=>some n
 | _=>none
def natOr(T:Tr SV)(d:Nat):Option Operand→Option Nat
 | none=>some d
 | some x=>zD T x
def aJ(H:aw)(sz:Nat):SV→Option (Nat×List SV)
 | .sc (.slice _ 0 _)=>some (0,[])
 | .sc (.string s)=>bif Nat.beq sz 1 then some (s.size,s.data.toList.map fun b=> .sc (.int .u8 b.toNat)) else none
 | .sl b o n _=>match H.at' b with
   | some vo=>(vo.cellsFrom o (n*sz)).map fun l=>(n,l)
   | none=>none
 | .slu b eo n=>match H.at' b with
   | some (.row ro ne sz' t c)=>bif Nat.beq sz' sz && Nat.ble (eo+n) ne then((VO.row ro ne sz' t c).cellsFrom (eo*sz') (n*sz')).map fun l=>(n,l) else none
   | _=>none
 | _=>none
def fX(t:TypeId)(n:Nat):Bool:=match P.info? t with
 | some i=>Nat.ble (n*i.bytes) 140737488355328 && Nat.ble n 1000000000
 | none=>false
def dummies(l:List (Value×SV×Nat)):List MapEntry:=l.map fun x=>{key:=x.1,val:= .nilFunc,born:=x.2.2}
def pN(kt:TypeId)(k:Value)(l:List (Value×SV×Nat)):Option (Option Nat):=
 match bu P (Instr.checkKey l.isEmpty 10000 kt k)with
 | none=>none
 | some _=>match bu P (Instr.findKey kt k (dummies l))with
   | some none=>some none
   | some (some (i,_))=>some (some i)
   | none=>none
def Dr(T:Tr SV)(x:Operand):Option Value:=match ar T x with
 | some s=>s.lit
 | none=>none
def putK(kt:TypeId)(k:Value)(v:SV)(l:List (Value×SV×Nat))(clock:Nat):Option (List (Value×SV×Nat)×Nat):=
 match bu P (Instr.checkKey false 10000 kt k)with
 | none=>none
 | some _=>match pN P kt k l with
   | none=>none
   | some none=>some (l ++ [(k,v,clock)],clock+1)
   | some (some i)=>match l[i]? with
     | some (k',_,b)=>bif Instr.sameBits 10000 k' k then some (l.set i (k,v,b),clock) else none
     | none=>none
def lQ:List SV→Option (List UInt8)
 | []=>some []
 | .sc (.int .u8 (.ofNat n)) :: l=>match lQ l with
   | some r=>some (UInt8.ofNat n :: r)
   | none=>none
 | _ :: _=>none
def oC(l:List SV):Option SV:=(lQ l).map fun b=> .sc (.string ⟨b.toArray⟩)
def pC(H:aw)(t:TypeId)(b o:Nat):Option SV:=
 match H.at' b with
 | none=>none
 | some vo=>match bT P t with
   | some none=>vo.cell o
   | some (some n)=>(vo.cellsFrom o n).map .agg
   | none=>none
def gG(s:TypeId)(f:Nat):SV→Option SV
 | .ptr b o=>match P.underlying s with
   | some (.struct fields)=>match fields[f]? with
     | some fd=>match bw P fd.type with
       | some (_+1)=>some (.ptr b (o+fd.offset))
       | _=>none
     | none=>none
   | _=>none
 | _=>none
def dk(H:aw)(t:TypeId)(n:Nat):SV→Option SV
 | .ptr b o=>match P.underlying t with
   | some (.array len e)=>match bw P e with
     | some sz=>bif Nat.blt n len then some (.ptr b (o+n*sz)) else none
     | none=>none
   | _=>none
 | .sl b o len _=>match P.underlying t with
   | some (.slice e)=>match bw P e with
     | some sz=>bif Nat.blt n len then some (.ptr b (o+n*sz)) else none
     | none=>none
   | _=>none
 | .slu b eo len=>match P.underlying t with
   | some (.slice e)=>match bw P e with
     | some sz=>match H.at' b with
       | some (.row _ ne sz' _ _)=>bif Nat.beq sz' sz && Nat.ble (eo+len) ne && Nat.blt n len then some (.ptr b ((eo+n)*sz')) else none
       | _=>none
     | none=>none
   | _=>none
 | _=>none
def xR(t:TypeId)(f:Nat)(l:List SV):Option SV:=
 match P.underlying t with
 | some (.struct fields)=>match fields[f]? with
   | some fd=>BD P fd.type l fd.offset
   | none=>none
 | _=>none
def lR(t:TypeId)(parts:List (Nat×SV)):Option SV:=
 match dY P t with
 | none=>none
 | some z=>match P.underlying t with
   | some (.struct fields)=>match lL P fields.toList with
     | some pl=>(hJ (fun i=>pl[i]?) (z.cells.toList.map .sc) parts).map .agg
     | none=>none
   | some (.array _ e)=>match bw P e with
     | some sz=>(hJ (fun i=>some (i*sz,sz)) (z.cells.toList.map .sc) parts).map .agg
     | none=>none
   | _=>none
def jP(H:aw)(t:TypeId)(ok:Bool)(k:Value):SV→Option SV
 | .mp b=>match P.underlying t with
   | some (.map kt e)=>match H.at' b with
     | some (.map l _)=>match pN P kt k l with
       | some (some i)=>match l[i]? with
         | some (_,v,_)=>some (bif ok then .tup [v,.sc (.bool true)] else v)
         | none=>none
       | some none=>match dY P e with
         | some z=>some (bif ok then .tup [.sc z,.sc (.bool false)] else .sc z)
         | none=>none
       | none=>none
     | _=>none
   | _=>none
 | .sc (.map none)=>match P.underlying t with
   | some (.map kt e)=>match pN P kt k [] with
     | some none=>match dY P e with
       | some z=>some (bif ok then .tup [.sc z,.sc (.bool false)] else .sc z)
       | none=>none
     | _=>none
   | _=>none
 | _=>none
def lJ(T:Tr SV)(H:aw)(t:TypeId)(lo hi mx:Option Operand):SV→Option SV
 | .ptr b o=>match P.underlying t with
   | some (.array n e)=>match bw P e,natOr T 0 lo,natOr T n hi,natOr T n mx with
     | some sz,some l,some h,some m=>bif Nat.ble l h && Nat.ble h m && Nat.ble m n && (hi.isSome || mx.isNone) then some (.sl b (bif Nat.beq m l then o else o+l*sz) (h-l) (m-l)) else none
     | _,_,_,_=>none
   | _=>none
 | .sl b o len cap=>match P.underlying t with
   | some (.slice e)=>match bw P e,natOr T 0 lo,natOr T len hi,natOr T cap mx with
     | some sz,some l,some h,some m=>bif Nat.ble l h && Nat.ble h m && Nat.ble m cap && (hi.isSome || mx.isNone) then some (.sl b (bif Nat.beq m l then o else o+l*sz) (h-l) (m-l)) else none
     | _,_,_,_=>none
   | _=>none
 | .slu b eo len=>match P.underlying t with
   | some (.slice e)=>match H.at' b with
     | some (.row _ ne sz' _ _)=>match bw P e,natOr T 0 lo,natOr T len hi with
       | some sz,some l,some h=>match mx with
         | none=>bif Nat.beq sz' sz && Nat.ble l h && Nat.ble (eo+h) ne && Nat.blt (eo+l) ne then some (.slu b (eo+l) (h-l)) else none
         | some x=>match zD T x with
           | some m=>bif Nat.beq sz' sz && Nat.ble l h && Nat.ble h m && Nat.ble (eo+m) ne && Nat.blt 0 ne && hi.isSome then some (.sl b ((bif Nat.beq m l then eo else eo+l)*sz') (h-l) (m-l)) else none
           | none=>none
       | _,_,_=>none
     | _=>none
   | _=>none
 | _=>none
def qX:SV→Value→TypeDesc→Bool
 | .ptr _ _,.pointer none,.pointer _=>true
 | .ifc _ _,.nilIface,.interface _=>true
 | .mp _,.map none,.map _ _=>true
 | .sl _ _ _ _,.slice none _ _,.slice _=>true
 | .fn _ _ _,.nilFunc,.func _ _ _=>true
 | .yld _,.nilFunc,.func _ _ _=>true
 | _,_,_=>false
def pA(op:BinOp)(t:TypeId)(x y:SV):Option SV:=
 match y with
 | .sc v=>match P.underlying t with
   | some d=>bif qX x v d then match op with
      | .eql=>some (.sc (.bool false))
      | .neq=>some (.sc (.bool true))
      | _=>none
     else none
   | none=>none
 | _=>none
def AN(H:aw)(t:TypeId):SV→Option SV
 | .sl _ _ n _=>match P.underlying t with
   | some (.slice _)=>some (.sc (.int .i64 n))
   | _=>none
 | .slu _ _ n=>match P.underlying t with
   | some (.slice _)=>some (.sc (.int .i64 n))
   | _=>none
 | .mp b=>match P.underlying t with
   | some (.map _ _)=>match H.at' b with
     | some (.map l _)=>some (.sc (.int .i64 l.length))
     | _=>none
   | _=>none
 | _=>none
def pE(T:Tr SV)(H:aw)(c:Call):Option SV:=
 match c.callee with
 | .builtin b=>match b with
   | .len=>match c.argTypes.toList with
     | t :: _=>match c.args.toList with
       | [x]=>(ar T x).bind (AN P H t)
       | _=>none
     | _=>none
   | _=>none
 | _=>none
def qn(H:aw)(s t:TypeId)(x:SV):Option SV:=
 match P.underlying s with
 | some (.slice e)=>match P.underlying t with
   | some .string=>match P.underlying e with
     | some (.int .u8)=>match x with
       | .sl _ _ _ _=>match aJ H 1 x with
         | some (_,l)=>oC l
         | none=>none
       | .slu _ _ _=>match aJ H 1 x with
         | some (_,l)=>oC l
         | none=>none
       | _=>none
     | _=>none
   | _=>none
 | _=>none
def eO:SV→Option SV
 | .ptr b o=>some (.ptr b o)
 | .fn (.func f) a c=>some (.fn (.func f) a c)
 | .yld l=>some (.yld l)
 | .ifc t v=>some (.ifc t v)
 | _=>none
def ud(t:TypeId):SV→SV
 | .sc x=> .sc (.iface t x)
 | v=> .ifc t v
def qZ(t:TypeId)(v:SV):Option SV:=
 match P.underlying t with
 | none=>none
 | some (.interface _)=>none
 | some _=>some (ud t v)
def BR(i:Nat):SV→Option SV
 | .tup l=>l[i]?
 | .sc (.tuple vs)=>(vs[i]?).map .sc
 | _=>none
def xU(H:aw):SV→Option SV
 | .ptr r 0=>match H.at' r with
   | some (.iter (some m) _ seen stepped)=>match seen.getLast? with
     | some stamp=>match H.at' m with
       | some (.map l clock)=>bif Nat.beq clock stepped then match l.find? (fun x=>Nat.beq x.2.2 stamp)with
          | some x=>some (.tup [.sc x.1,x.2.1])
          | none=>none
         else none
       | _=>none
     | none=>none
   | _=>none
 | _=>none
def cS(T:Tr SV)(H:aw)(o:Oper):Option SV:=
 match o.op with
 | .move x=>ar T x
 | .assign x=>ar T x
 | .pick c a b=>match ar T c with
   | some (.sc (.bool t))=>bif t then ar T a else ar T b
   | _=>none
 | .extract x i=>(ar T x).bind (BR i)
 | .nilCheck x=>(ar T x).bind eO
 | .fieldAddr s x f=>(ar T x).bind (gG P s f)
 | .indexAddr t x i=>(zD T i).bind fun n=>(ar T x).bind (dk P H t n)
 | .load t x=>match ar T x with
   | some (.ptr b o)=>pC P H t b o
   | _=>none
 | .field t x f=>match ar T x with
   | some (.agg l)=>xR P t f l
   | _=>none
 | .makeInterface t x=>(ar T x).bind (qZ P t)
 | .makeFunc f a b=>(dh T a.toList).bind fun x=>(dh T b.toList).map fun y=> .fn f x y
 | .build t parts=>(l6 T parts.toList).bind (lR P t)
 | .lookup t m k ok=>(Dr T k).bind fun kv=>(ar T m).bind (jP P H t ok kv)
 | .slice t x lo hi mx=>(ar T x).bind (lJ P T H t lo hi mx)
 | .binOp op t x y _=>(ar T x).bind fun a=>(ar T y).bind (pA P op t a)
 | .call c=>pE P T H c
 | .convert s t x=>(ar T x).bind (qn P H s t)
 | .entry it=>(ar T it).bind (xU H)
 | _=>none
abbrev Out:=ANx×aw×Nat
def fy(t:TypeId)(sz:Nat):Bool:=match dY P t with
 | some z=>Nat.beq z.cells.size sz
 | none=>false
def dD(H:aw)(nx:Nat)(e:TypeId)(s x:SV):Option Out:=
 match bw P e with
 | none=>none
 | some 0=>none
 | some sz=>match aJ H sz x with
   | none=>none
   | some (m,news)=>bif !(cq news) then none else match s with
     | .sc (.slice none 0 0)=>
       bif Nat.beq m 0 then some (.val s,H,nx)
       else bif fX P e m && fy P e sz then some (.val (.slu nx 0 m),H.set nx (.row false m sz e (fw news)),nx+1) else none
     | .sl b o n cap=>
       bif Nat.ble (n+m) cap then match H.at' b with
        | some vo=>match vo.setCells (o+n*sz) news with
          | some vo'=>some (.val (.sl b o (n+m) cap),H.set b vo',nx)
          | none=>none
        | none=>none
       else bif fX P e (n+m) && fy P e sz then match aJ H sz s with
        | some (_,olds)=>some (.val (.slu nx 0 (n+m)),H.set nx (.row false (n+m) sz e (fw (olds ++ news))),nx+1)
        | none=>none
       else none
     | .slu b eo n=>match H.at' b with
       | some (.row ro ne sz' t c)=>
         bif Nat.beq m 0 then bif Nat.ble (eo+n) ne then some (.val s,H,nx) else none
         else bif !ro && Nat.beq sz sz' && Nat.beq t e && Nat.beq (eo+n) ne && fX P e (n+m) && fy P e sz then match aJ H sz s with
          | some (_,olds)=>some (.val (.slu nx 0 (n+m)),(H.del b).set nx (.row false (n+m) sz e (fw (olds ++ news))),nx+1)
          | none=>none
         else none
       | _=>none
     | _=>none
def eT(H:aw)(b o:Nat)(l:List SV):Option aw:=
 match H.at' b with
 | some vo=>match vo.setCells o l with
   | some vo'=>some (H.set b vo')
   | none=>none
 | none=>none
def qq(t:TypeId)(n:Nat):Bool:=match bw P t with
 | some s=>Nat.beq s n
 | none=>false
def qc(z:Value)(n:Nat):List SV:=(Builtin.zeroCells z.cells n).toList.map .sc
def bB(f:FuncId):Bool:=match P.funcs[f]? with
 | some fn=>fn.body.isSome && !(fn.name == "runtime.NumGoroutine")
 | none=>false
def da:SV→Option (FuncId×List SV×List SV)
 | .sc (.func (.func g) a b)=>some (g,a.toList.map .sc,b.toList.map .sc)
 | .fn (.func g) a b=>some (g,a,b)
 | _=>none
def jO(t:TypeId)(name:String):Option FuncId:=
 match P.info? t with
 | none=>none
 | some i=>match i.methods.find? (fun m=>m.name == name)with
   | none=>none
   | some m=>match m.func with
     | some (g,true)=>match P.underlying t with
       | some (.pointer _)=>bif m.path.isEmpty && bB P g then some g else none
       | _=>none
     | _=>none
def bE(T:Tr SV)(c:Call):Option ANx:=
 match dh T c.args.toList with
 | none=>none
 | some args=>match c.callee with
   | .value f=>match ar T f with
     | none=>none
     | some (.yld l)=>some (.round l args)
     | some s=>match da s with
       | some (g,a,b)=>bif bB P g then some (.enter g (a ++ args ++ b)) else none
       | none=>none
   | .invoke r name=>match ar T r with
     | some (.ifc t v)=>match jO P t name with
       | some g=>some (.enter g (v :: args))
       | none=>none
     | _=>none
   | .builtin _=>none
def qQ(H:aw)(nx:Nat)(t:TypeId)(k:Value)(v:SV):SV→Option Out
 | .mp b=>match P.underlying t with
   | some (.map kt _)=>match H.at' b with
     | some (.map l clock)=>match putK P kt k v l clock with
       | some (l',clock')=>some (.skip,H.set b (.map l' clock'),nx)
       | none=>none
     | _=>none
   | _=>none
 | _=>none
def nm(H:aw)(nx:Nat)(t:TypeId):SV→Option Out
 | .mp b=>match P.underlying t with
   | some (.map _ _)=>match H.at' b with
     | some (.map _ clock)=>some (.val (.sc (.tuple #[])),H.set b (.map [] clock),nx)
     | _=>none
   | _=>none
 | .sl b o (n+1) _=>match P.underlying t with
   | some (.slice e)=>match dY P e with
     | some z=>match eT H b o (qc z (n+1))with
       | some H'=>some (.val (.sc (.tuple #[])),H',nx)
       | none=>none
     | none=>none
   | _=>none
 | .slu b eo (n+1)=>match P.underlying t with
   | some (.slice e)=>match dY P e with
     | some z=>match H.at' b with
       | some (.row _ ne sz' _ _)=>bif Nat.beq sz' z.cells.size && Nat.ble (eo+(n+1)) ne then match eT H b (eo*sz') (qc z (n+1))with
          | some H'=>some (.val (.sc (.tuple #[])),H',nx)
          | none=>none
         else none
       | _=>none
     | none=>none
   | _=>none
 | _=>none
def yg(H:aw)(nx:Nat)(t:TypeId)(d x:SV):Option Out:=
 match P.underlying t with
 | some (.slice e)=>match bw P e with
   | some sz=>match aJ H sz x with
     | some (m,l)=>match d with
       | .sl b o n _=>match eT H b o (l.take (min m n*sz))with
         | some H'=>some (.val (.sc (.int .i64 (min m n:Nat))),H',nx)
         | none=>none
       | .slu b eo n=>match H.at' b with
         | some (.row _ ne sz' _ _)=>bif Nat.beq sz' sz && Nat.ble (eo+n) ne then match eT H b (eo*sz') (l.take (min m n*sz))with
            | some H'=>some (.val (.sc (.int .i64 (min m n:Nat))),H',nx)
            | none=>none
           else none
         | _=>none
       | _=>none
     | none=>none
   | none=>none
 | _=>none
def wO(H:aw)(nx:Nat)(t:TypeId):SV→Option Out
 | .mp b=>match P.underlying t with
   | some (.map _ _)=>match H.at' b with
     | some (.map _ clock)=>some (.val (.ptr nx 0),H.set nx (.iter (some b) clock [] clock),nx+1)
     | _=>none
   | _=>none
 | _=>none
def gp(H:aw)(nx:Nat)(ts tx:TypeId)(s x:SV):Option Out:=
 match P.underlying ts with
 | some (.slice e)=>match P.underlying tx with
   | some (.slice _)=>dD P H nx e s x
   | some .string=>dD P H nx e s x
   | _=>none
 | _=>none
def fh(H:aw)(nx:Nat)(b:Builtin)(ts:List TypeId)(xs:List SV):Option Out:=
 match b with
 | .append=>match ts,xs with
   | [t,u],[s,x]=>gp P H nx t u s x
   | _,_=>none
 | .copy=>match ts,xs with
   | t :: _,[d,x]=>yg P H nx t d x
   | _,_=>none
 | .clear=>match ts,xs with
   | t :: _,[d]=>nm P H nx t d
   | _,_=>none
 | .recover=>match xs with
   | []=>some (.recover,H,nx)
   | _=>none
 | _=>none
def fZ(T:Tr SV)(H:aw)(nx:Nat)(o:Oper):Option Out:=
 match o.op with
 | .alloc t=>match dY P t with
   | some z=>some (.val (.ptr nx 0),H.set nx (am t (z.cells.toList.map .sc)),nx+1)
   | none=>none
 | .box t x=>match ar T x with
   | some v=>some (.val (.ptr nx 0),H.set nx (am t v.cells),nx+1)
   | none=>none
 | .store t a x=>match ar T a with
   | some (.ptr b off)=>match ar T x with
     | some v=>bif qq P t v.cells.length then match eT H b off v.cells with
        | some H'=>some (.skip,H',nx)
        | none=>none
       else none
     | none=>none
   | _=>none
 | .makeMap _ none=>some (.val (.mp nx),H.set nx (.map [] 0),nx+1)
 | .mapUpdate t m k x=>(Dr T k).bind fun kv=>(ar T x).bind fun v=>(ar T m).bind (qQ P H nx t kv v)
 | .insert t m k x=>(Dr T k).bind fun kv=>(ar T x).bind fun v=>(ar T m).bind (qQ P H nx t kv v)
 | .range t x=>(ar T x).bind (wO P H nx t)
 | .call c=>match c.callee with
   | .builtin b=>(dh T c.args.toList).bind (fh P H nx b c.argTypes.toList)
   | _=>(bE P T c).map fun a=>(a,H,nx)
 | .defer c=>match c.callee with
   | .builtin _=>none
   | .invoke _ _=>none
   | .value _=>match bE P T c with
     | some (.enter f args)=>some (.dfr (.call f args),H,nx)
     | _=>none
 | _=>none
end
inductive AIt where
 | code (c:Code)
 | inBlock (id:Nat)
 | inLoop (body:Code)
 | inScope (body:Code)
 | inReg (ops:Array Oper) (i:Nat) (l:List Oper)
 | inRange (l:Nat)
 | endRange (l:Nat)
 | beginRound
structure FrS where
 fn:FuncId
 nt:Nat
 T:Tr SV
 todo:List AIt
 dfs:List ADf
 hp:aw
 nx:Nat
abbrev Res:=SV×aw×Nat
def nj(id:Nat):List AIt→Option (List AIt)
 | .inBlock id' :: k=>bif Nat.beq id' id then some k else nj id k
 | _ :: k=>nj id k
 | []=>none
def nR(l:Nat):List AIt→Option (List AIt)
 | .inScope body :: k=>
   match findLabel body l with
   | some rest=>some (.code rest :: .inScope body :: k)
   | none=>nR l k
 | _ :: k=>nR l k
 | []=>none
def k9(nt:Nat)(T:Tr SV)(dst:Option Tmp)(v:SV):Tr SV:=match dst with
 | some d=>bif Nat.blt d nt then T.set d v else T
 | none=>T
def aD(T:Tr SV)(ops:Array Oper)(o:Oper):Option Bool:=
 match o.guard with
 | none=>some true
 | some (j,want)=>match ops[j]? with
   | some oj=>match oj.dst with
     | some d=>match T.at' d with
       | some (.sc (.bool b))=>some (b == want)
       | some (.sc (.tuple _))=>some false
       | _=>none
     | none=>some false
   | none=>some false
def il:Tr SV→Nat→List SV→Tr SV
 | T,_,[]=>T
 | T,i,x :: l=>il (T.set i x) (i+1) l
def o9(P:Program)(H:aw)(T:Tr SV):List ResultVar→Option (List SV)
 | []=>some []
 | .tmp t :: l=>match T.at' t with
   | some v=>match o9 P H T l with
     | some r=>some (v :: r)
     | none=>none
   | none=>none
 | .cell a t :: l=>match T.at' a with
   | some (.ptr b o)=>match H.at' b,bT P t with
     | some vo,some none=>match vo.cell o,o9 P H T l with
       | some v,some r=>some (v :: r)
       | _,_=>none
     | some vo,some (some n)=>match vo.cellsFrom o n,o9 P H T l with
       | some v,some r=>some (.agg v :: r)
       | _,_=>none
     | _,_=>none
   | _=>none
end
end Go.Sy
end
section
namespace Go.Sy
open Go Go.Sl Go.RowKit
section
variable {A:Type}{v:A}{m n:Nat}{t:Tr A}
theorem bl{x:A}(h:(t.set n v).at' m=some x):(m=n∧x=v)∨(m≠n∧t.at' m=some x):=by
 simp only [Tr.set,Tr.at'] at h
 cases hb:Nat.beq m n with
 | true=>rw [hb] at h;simp only [cond_true,D2] at h;exact .inl ⟨EO hb,h.symm⟩
 | false=>rw [hb] at h;exact .inr ⟨Nat.ne_of_beq_eq_false hb,h⟩
theorem au(t:Tr A)(n:Nat)(v:A):(t.set n v).at' n=some v:=by simp [Tr.set,Tr.at']
theorem ab(t:Tr A)(v:A)(h:m≠n):(t.set n v).at' m=t.at' m:=by
 simp only [Tr.set,Tr.at']
 rw [show Nat.beq m n=false from by cases hb:Nat.beq m n with|false=>rfl|true=>exact absurd (EO hb) h]
 rfl
theorem lG{x:A}(h:(t.del n).at' m=some x):m≠n∧t.at' m=some x:=by
 simp only [Tr.del,Tr.at'] at h
 cases hb:Nat.beq m n with
 | true=>rw [hb] at h;cases h
 | false=>rw [hb] at h;exact⟨Nat.ne_of_beq_eq_false hb,h⟩
theorem pZ(t:Tr A)(h:m≠n):(t.del n).at' m=t.at' m:=by
 simp only [Tr.del,Tr.at']
 rw [show Nat.beq m n=false from by cases hb:Nat.beq m n with|false=>rfl|true=>exact absurd (EO hb) h]
 rfl
theorem ah{A:Type}{t:Tr A}{v:A}:(t.set n v).at' n=some v:=au t n v
theorem aa{o:Option A}(h:m≠n)(hb:t.at' m=o):(t.set n v).at' m=o:=(ab t v h).trans hb
theorem bO{o:Option A}(h:m≠n)(hb:t.at' m=o):(t.del n).at' m=o:=(pZ t h).trans hb
theorem ny(m:Nat):(Tr.nil:Tr A).at' m=none:=rfl
theorem kr(l:List SV)(i:Nat):(fw l).at' i=l[i]? :=rfl
end
structure Ent where
 blk:Nat
 base:Nat
 cap:Nat
 sz:Nat:=1
 nil:Bool:=false
def Ent.at(x:Ent)(eo:Nat):Option Addr:=bif x.nil then none else some ⟨x.blk,x.base+eo*x.sz,none⟩
abbrev Env:=Nat→Option Ent
def Env.le(e e':Env):Prop:= ∀ i x,e i=some x→e' i=some x
def Env.put(e:Env)(n:Nat)(x:Ent):Env:=fun i=>if i=n then some x else e i
theorem Env.le_refl(e:Env):e.le e:=fun _ _ h=>h
theorem E9:type_of% @Env.le_refl:=@Env.le_refl
theorem Env.le_trans{a b c:Env}(h:a.le b)(h':b.le c):a.le c:=fun i x hx=>h' i x (h i x hx)
theorem Env.dE{e:Env}{n:Nat}{x:Ent}(h:e n=none):e.le (e.put n x):=by
 intro i y hy
 unfold Env.put
 by_cases hi:i=n
 ·subst hi;rw [h] at hy;cases hy
 ·rw [Ey hi];exact hy
theorem Env.bL(e:Env)(n:Nat)(x:Ent):(e.put n x) n=some x:=by simp [Env.put]
theorem Env.lI(e:Env){n m:Nat}(x:Ent)(h:m≠n):(e.put n x) m=e m:=by simp [Env.put,h]
mutual
def SV.conc(e:Env):SV→Option Value
 | .sc v=>some v
 | .ptr b o=>(e b).map fun x=> .pointer (some ⟨x.blk,x.base+o,none⟩)
 | .sl b o n c=>(e b).map fun x=> .slice (some ⟨x.blk,x.base+o,none⟩) n c
 | .slu b eo n=>(e b).map fun x=> .slice (x.at eo) n (x.cap-eo)
 | .mp b=>(e b).map fun x=> .map (some x.blk)
 | .yld b=>(e b).map fun x=> .func (.yield x.blk) #[] #[]
 | .agg l=>(SV.aC e l).map fun vs=> .agg vs.toArray
 | .tup l=>(SV.aC e l).map fun vs=> .tuple vs.toArray
 | .ifc t v=>(SV.conc e v).map fun x=> .iface t x
 | .fn f a b=>match SV.aC e a,SV.aC e b with
   | some x,some y=>some (.func f x.toArray y.toArray)
   | _,_=>none
def SV.aC(e:Env):List SV→Option (List Value)
 | []=>some []
 | x :: l=>match SV.conc e x,SV.aC e l with
   | some v,some vs=>some (v :: vs)
   | _,_=>none
end
mutual
theorem SV.dl{e e':Env}(h:e.le e'): ∀ (s:SV) (v:Value),s.conc e=some v→s.conc e'=some v
 | .sc _,v,hs=>by simpa [SV.conc] using hs
 | .ptr b o,v,hs=>by
   simp only [SV.conc,Eb] at hs ⊢
   obtain⟨x,hx,rfl⟩:=hs;exact⟨x,h _ _ hx,rfl⟩
 | .sl b o n c,v,hs=>by
   simp only [SV.conc,Eb] at hs ⊢
   obtain⟨x,hx,rfl⟩:=hs;exact⟨x,h _ _ hx,rfl⟩
 | .slu b eo n,v,hs=>by
   simp only [SV.conc,Eb] at hs ⊢
   obtain⟨x,hx,rfl⟩:=hs;exact⟨x,h _ _ hx,rfl⟩
 | .mp b,v,hs=>by
   simp only [SV.conc,Eb] at hs ⊢
   obtain⟨x,hx,rfl⟩:=hs;exact⟨x,h _ _ hx,rfl⟩
 | .yld b,v,hs=>by
   simp only [SV.conc,Eb] at hs ⊢
   obtain⟨x,hx,rfl⟩:=hs;exact⟨x,h _ _ hx,rfl⟩
 | .agg l,v,hs=>by
   simp only [SV.conc,Eb] at hs ⊢
   obtain⟨x,hx,rfl⟩:=hs;exact⟨x,SV.bR h l x hx,rfl⟩
 | .tup l,v,hs=>by
   simp only [SV.conc,Eb] at hs ⊢
   obtain⟨x,hx,rfl⟩:=hs;exact⟨x,SV.bR h l x hx,rfl⟩
 | .ifc t s,v,hs=>by
   simp only [SV.conc,Eb] at hs ⊢
   obtain⟨x,hx,rfl⟩:=hs;exact⟨x,SV.dl h s x hx,rfl⟩
 | .fn f a b,v,hs=>by
   simp only [SV.conc] at hs ⊢
   cases ha:SV.aC e a with
   | none=>rw [ha] at hs;cases hs
   | some x=>
     cases hb:SV.aC e b with
     | none=>rw [ha,hb] at hs;cases hs
     | some y=>
       rw [ha,hb] at hs
       rw [SV.bR h a x ha,SV.bR h b y hb]
       exact hs
theorem SV.bR{e e':Env}(h:e.le e'): ∀ (l:List SV) (vs:List Value),SV.aC e l=some vs→SV.aC e' l=some vs
 | [],vs,hs=>by simpa [SV.aC] using hs
 | x :: l,vs,hs=>by
   simp only [SV.aC] at hs ⊢
   cases hx:SV.conc e x with
   | none=>rw [hx] at hs;cases hs
   | some v=>
     cases hl:SV.aC e l with
     | none=>rw [hx,hl] at hs;cases hs
     | some ws=>
       rw [hx,hl] at hs
       rw [SV.dl h x v hx,SV.bR h l ws hl]
       exact hs
end
mutual
theorem SV.nD(e:Env): ∀ (s:SV) (v:Value),s.lit=some v→s.conc e=some v
 | .sc _,v,hs=>by simpa [SV.lit,SV.conc] using hs
 | .ptr _ _,v,hs=>by simp [SV.lit] at hs
 | .sl _ _ _ _,v,hs=>by simp [SV.lit] at hs
 | .slu _ _ _,v,hs=>by simp [SV.lit] at hs
 | .mp _,v,hs=>by simp [SV.lit] at hs
 | .yld _,v,hs=>by simp [SV.lit] at hs
 | .agg l,v,hs=>by
   simp only [SV.lit] at hs
   cases hl:SV.lH l with
   | none=>rw [hl] at hs;cases hs
   | some vs=>rw [hl] at hs;simp only [SV.conc,SV.gK e l vs hl,Et];exact hs
 | .tup l,v,hs=>by
   simp only [SV.lit] at hs
   cases hl:SV.lH l with
   | none=>rw [hl] at hs;cases hs
   | some vs=>rw [hl] at hs;simp only [SV.conc,SV.gK e l vs hl,Et];exact hs
 | .ifc t s,v,hs=>by
   simp only [SV.lit] at hs
   cases hl:SV.lit s with
   | none=>rw [hl] at hs;cases hs
   | some vs=>rw [hl] at hs;simp only [SV.conc,SV.nD e s vs hl,Et];exact hs
 | .fn f a b,v,hs=>by
   simp only [SV.lit] at hs
   cases ha:SV.lH a with
   | none=>rw [ha] at hs;cases hs
   | some x=>
     rw [ha] at hs
     simp only at hs
     cases hb:SV.lH b with
     | none=>rw [hb] at hs;cases hs
     | some y=>rw [hb] at hs;simp only [SV.conc,SV.gK e a x ha,SV.gK e b y hb];exact hs
theorem SV.gK(e:Env): ∀ (l:List SV) (vs:List Value),SV.lH l=some vs→SV.aC e l=some vs
 | [],vs,hs=>by simpa [SV.lH,SV.aC] using hs
 | x :: l,vs,hs=>by
   simp only [SV.lH] at hs
   cases hx:SV.lit x with
   | none=>rw [hx] at hs;cases hs
   | some v=>
     rw [hx] at hs
     simp only at hs
     cases hl:SV.lH l with
     | none=>rw [hl] at hs;cases hs
     | some ws=>rw [hl] at hs;simp only [SV.aC,SV.nD e x v hx,SV.gK e l ws hl];exact hs
end
section
variable {e:Env}{v:Value}
theorem cN{e:Env}: ∀ {l:List SV} {vs:List Value},SV.aC e l=some vs→vs.length=l.length
 | [],vs,h=>by simp only [SV.aC,D2] at h;subst h;rfl
 | x :: l,vs,h=>by
   simp only [SV.aC] at h
   cases hx:SV.conc e x with
   | none=>rw [hx] at h;cases h
   | some v=>
     cases hl:SV.aC e l with
     | none=>rw [hx,hl] at h;cases h
     | some ws=>
       rw [hx,hl] at h
       simp only [D2] at h
       subst h
       simp [cN hl]
theorem b9{x:SV}{l:List SV}{vs:List Value}(h:SV.aC e (x :: l)=some vs): ∃ v ws,vs=v :: ws∧x.conc e=some v∧SV.aC e l=some ws:=by
 simp only [SV.aC] at h
 cases hx:SV.conc e x with
 | none=>rw [hx] at h;cases h
 | some v=>
   cases hl:SV.aC e l with
   | none=>rw [hx,hl] at h;cases h
   | some ws=>
     rw [hx,hl] at h
     simp only [D2] at h
     exact⟨v,ws,h.symm,rfl,rfl⟩
theorem bJ{x:SV}{l:List SV}{ws:List Value}(hx:x.conc e=some v)(hl:SV.aC e l=some ws):SV.aC e (x :: l)=some (v :: ws):=by
 simp only [SV.aC,hx,hl]
theorem ft{e:Env}: ∀ {l:List SV} {vs:List Value},SV.aC e l=some vs→ ∀ {i:Nat} {x:SV},l[i]? =some x→ ∃ v,x.conc e=some v∧vs[i]? =some v
 | [],vs,h,i,x,hx=>by simp at hx
 | y :: l,vs,h,i,x,hx=>by
   obtain⟨v,ws,rfl,hv,hl⟩:=b9 h
   cases i with
   | zero=>simp only [Ej,D2] at hx;subst hx;exact⟨v,hv,rfl⟩
   | succ i=>simpa using ft hl (i:=i) (by simpa using hx)
theorem ck{e:Env}: ∀ {l m:List SV} {vs ws:List Value},SV.aC e l=some vs→SV.aC e m=some ws→SV.aC e (l ++ m)=some (vs ++ ws)
 | [],m,vs,ws,h,h'=>by simp only [SV.aC,D2] at h;subst h;exact h'
 | x :: l,m,vs,ws,h,h'=>by
   obtain⟨v,us,rfl,hv,hl⟩:=b9 h
   exact bJ hv (ck hl h')
theorem jm{e:Env}: ∀ {l:List SV} {vs:List Value} (n:Nat),SV.aC e l=some vs→SV.aC e (l.take n)=some (vs.take n)
 | [],vs,n,h=>by simp only [SV.aC,D2] at h;subst h;simp [SV.aC]
 | x :: l,vs,0,h=>by simp [SV.aC]
 | x :: l,vs,n+1,h=>by
   obtain⟨v,us,rfl,hv,hl⟩:=b9 h
   exact bJ hv (jm n hl)
theorem lC{e:Env}: ∀ {l:List SV} {vs:List Value} (n:Nat),SV.aC e l=some vs→SV.aC e (l.drop n)=some (vs.drop n)
 | [],vs,n,h=>by simp only [SV.aC,D2] at h;subst h;simp [SV.aC]
 | x :: l,vs,0,h=>by simpa using h
 | x :: l,vs,n+1,h=>by
   obtain⟨v,us,rfl,hv,hl⟩:=b9 h
   exact lC n hl
theorem fg{e:Env}: ∀ (vs:List Value),SV.aC e (vs.map .sc)=some vs
 | []=>rfl
 | v :: vs=>bJ rfl (fg vs)
theorem lE{s:SV}(h:s.conc e=some v):SV.aC e s.cells=some v.cells.toList:=by
 have one: ∀ s:SV,s.conc e=some v→v.cells = #[v]→SV.aC e [s]=some v.cells.toList:=fun s hs hv=>by
  rw [hv];exact bJ hs rfl
 cases s with
 | sc u=>
   simp only [SV.conc,D2] at h
   subst h
   cases u with
   | agg cs=>exact fg _
   | _=>exact bJ rfl rfl
 | agg l=>
   simp only [SV.conc,Eb] at h
   obtain⟨vs,hvs,rfl⟩:=h
   simpa [SV.cells,Value.cells] using hvs
 | fn f a b=>
   refine one _ h ?_
   simp only [SV.conc] at h
   cases ha:SV.aC e a with
   | none=>rw [ha] at h;cases h
   | some x=>
     cases hb:SV.aC e b with
     | none=>rw [ha,hb] at h;cases h
     | some y=>rw [ha,hb] at h;simp only [D2] at h;subst h;rfl
 | _=>
   refine one _ h ?_
   simp only [SV.conc,Eb] at h
   obtain⟨x,_,rfl⟩:=h
   rfl
theorem px{s:SV}(h:s.conc e=some v)(h1:s.one=true):v.oneCell'=true:=by
 cases s with
 | sc u=>
   simp only [SV.conc,D2] at h
   subst h
   cases u <;> first|rfl|simp [SV.one] at h1
 | agg l=>simp [SV.one] at h1
 | tup l=>simp [SV.one] at h1
 | fn f a b=>
   simp only [SV.conc] at h
   cases ha:SV.aC e a with
   | none=>rw [ha] at h;cases h
   | some x=>
     cases hb:SV.aC e b with
     | none=>rw [ha,hb] at h;cases h
     | some y=>rw [ha,hb] at h;simp only [D2] at h;subst h;rfl
 | _=>
   simp only [SV.conc,Eb] at h
   obtain⟨x,_,rfl⟩:=h
   rfl
def NoFz(fz:Nat×Nat)(n:Nat):Prop:=fz.1≤fz.2∧ ∀ i,i<n→(decide (fz.1≤i) && decide (i<fz.2))=false
def TRel(e:Env)(nt:Nat)(T:Tr SV)(tmps:Array Value):Prop:=
 tmps.size=nt∧ ∀ t s,T.at' t=some s→ ∃ v,s.conc e=some v∧tmps.getD t undef=v
def DRel(e:Env):ADf→Deferred→Prop
 | .call f args,d=> ∃ a cap,d = {target:= .fn (.func f) cap,args:=a}∧SV.aC e args=some (a.toList ++ cap.toList)
 | .taken r,d=> ∃ x,e r=some x∧d = {target:= .collected x.blk,args:= #[]}
def DsRel(e:Env):List ADf→List Deferred→Prop
 | [],[]=>True
 | a :: l,d :: m=>DRel e a d∧DsRel e l m
 | _,_=>False
def MRel(e:Env):List (Value×SV×Nat)→List MapEntry→Prop
 | [],[]=>True
 | (k,s,b) :: l,m :: ms=>m.key=k∧m.born=b∧s.conc e=some m.val∧MRel e l ms
 | _,_=>False
def ORel(e:Env)(vo:VO)(x:Ent)(o:Obj):Prop:=
 match vo with
 | .cells n t c=>x.base=0∧ ∃ cs fz,o = .cells cs t fz∧cs.size=n∧NoFz fz n∧ ∀ i,i<n→ ∀ s,c.at' i=some s→ ∃ v,s.conc e=some v∧cs[i]? =some v
 | .row ro ne sz _ c=>x.sz=sz∧ ∃ cs fz t,o = .cells cs t fz∧ne≤x.cap∧x.base+x.cap*sz≤cs.size∧x.cap≤maxLen∧(ro=false→NoFz fz cs.size)∧0<sz ∧
    ∀ i,i<ne*sz→ ∀ s,c.at' i=some s→ ∃ v,s.conc e=some v∧cs[x.base+i]? =some v
 | .map l clock=> ∃ es,o = .map es clock∧MRel e l es.toList
 | .iter none since seen stepped=>x.base=0∧o = .mapIter none since seen.toArray stepped
 | .iter (some m) since seen stepped=>x.base=0∧ ∃ y,e m=some y∧o = .mapIter (some y.blk) since seen.toArray stepped
 | .siter s pos=>x.base=0∧o = .stringIter s pos
 | .loop st pend fn nt T params assign body dr=> ∃ tmps y,e dr=some y∧TRel e nt T tmps ∧
    o = .loop {state:=st,pending:=pend,fn:=fn,tmps:=tmps,params:=params,assign:=assign,body:=body,defers:=y.blk}
 | .dfd none=>o = .deferred none
 | .dfd (some l)=> ∃ ds,o = .deferred (some ds)∧DsRel e l ds
theorem TRel.mono{e e':Env}(h:e.le e'){nt:Nat}{T:Tr SV}{tmps:Array Value}(hT:TRel e nt T tmps):TRel e' nt T tmps:=
 ⟨hT.1,fun t s hs=>let ⟨v,hv,hg⟩:=hT.2 t s hs;⟨v,SV.dl h s v hv,hg⟩⟩
theorem DRel.mono{e e':Env}(h:e.le e'){a:ADf}{d:Deferred}(hd:DRel e a d):DRel e' a d:=by
 cases a with
 | call f args=>obtain⟨x,cap,rfl,hl⟩:=hd;exact⟨x,cap,rfl,SV.bR h _ _ hl⟩
 | taken r=>obtain⟨x,hx,rfl⟩:=hd;exact⟨x,h _ _ hx,rfl⟩
theorem DsRel.mono{e e':Env}(h:e.le e'): ∀ {l:List ADf} {m:List Deferred},DsRel e l m→DsRel e' l m
 | [],[],_=>trivial
 | _ :: _,_ :: _,hd=>⟨hd.1.mono h,DsRel.mono h hd.2⟩
 | [],_ :: _,hd=>hd.elim
 | _ :: _,[],hd=>hd.elim
theorem DsRel.append{e:Env}: ∀ {l l':List ADf} {m m':List Deferred},DsRel e l m→DsRel e l' m'→DsRel e (l ++ l') (m ++ m')
 | [],l',[],m',_,h=>h
 | _ :: _,l',_ :: _,m',h,h'=>⟨h.1,DsRel.append h.2 h'⟩
 | [],_,_ :: _,_,h,_=>h.elim
 | _ :: _,_,[],_,h,_=>h.elim
theorem MRel.mono{e e':Env}(h:e.le e'): ∀ {l:List (Value×SV×Nat)} {m:List MapEntry},MRel e l m→MRel e' l m
 | [],[],_=>trivial
 | (_,_,_) :: _,_ :: _,hd=>⟨hd.1,hd.2.1,SV.dl h _ _ hd.2.2.1,MRel.mono h hd.2.2.2⟩
 | [],_ :: _,hd=>hd.elim
 | _ :: _,[],hd=>by simp [MRel] at hd
theorem ORel.mono{e e':Env}(h:e.le e'){vo:VO}{x:Ent}{o:Obj}(ho:ORel e vo x o):ORel e' vo x o:=by
 cases vo with
 | cells n t c=>
   obtain⟨h0,cs,fz,h1,h2,h3,h4⟩:=ho
   exact⟨h0,cs,fz,h1,h2,h3,fun i hi s hs=>let ⟨v,hv,hg⟩:=h4 i hi s hs;⟨v,SV.dl h _ v hv,hg⟩⟩
 | row ro ne sz t c=>
   obtain⟨h0,cs,fz,tt,h1,h2,h3,h4,h5,h6,h7⟩:=ho
   exact⟨h0,cs,fz,tt,h1,h2,h3,h4,h5,h6,fun i hi s hs=>let ⟨v,hv,hg⟩:=h7 i hi s hs;⟨v,SV.dl h _ v hv,hg⟩⟩
 | map l clock=>obtain⟨es,h1,h2⟩:=ho;exact⟨es,h1,h2.mono h⟩
 | iter m since seen stepped=>
   cases m with
   | none=>exact ho
   | some m=>obtain⟨h0,y,h1,h2⟩:=ho;exact⟨h0,y,h _ _ h1,h2⟩
 | siter s pos=>exact ho
 | loop st pend fn nt T params assign body dr=>obtain⟨tmps,y,h1,h2,h3⟩:=ho;exact⟨tmps,y,h _ _ h1,h2.mono h,h3⟩
 | dfd calls=>
   cases calls with
   | none=>exact ho
   | some l=>obtain⟨ds,h1,h2⟩:=ho;exact⟨ds,h1,h2.mono h⟩
end
structure Zone where
 all:Nat→Prop
 read:Nat→Prop
 sub: ∀ j,read j→all j
instance:CoeFun Zone (fun _=>Nat→Prop):=⟨Zone.all⟩
structure Kept (K:Zone) (w0 w:World):Prop where
 os:w.os=w0.os
 tape:w.tape=w0.tape
 output:w.output=w0.output
 size:w0.heap.size≤w.heap.size
 old: ∀ j,K j→j<w0.heap.size
 block: ∀ j,K j→w.heap[j]? =w0.heap[j]?
def Lies(K:Zone)(w:World)(e:Env)(vo:VO)(x:Ent):Prop:=
 (x.nil=false∧ ∃ o,((vo.ro=true→K.read x.blk)∧(vo.ro=false→ ¬ K x.blk))∧w.heap[x.blk]? =some o∧ORel e vo x o)∨(x.nil=true∧x.cap=0∧ ∃ ro t c,vo = .row ro 0 x.sz t c∧0<x.sz)
theorem Lies.mono{K:Zone}{w:World}{e e':Env}(h:e.le e'){vo:VO}{x:Ent}(hl:Lies K w e vo x):Lies K w e' vo x:=by
 rcases hl with ⟨h0,o,h1,h2,h3⟩|h1
 ·exact .inl ⟨h0,o,h1,h2,h3.mono h⟩
 ·exact .inr h1
structure St (K:Zone) (w0:World) (e:Env) (H:aw) (nx:Nat) (w:World):Prop where
 below:Kept K w0 w
 rel: ∀ id vo,H.at' id=some vo→ ∃ x,e id=some x∧Lies K w e vo x
 inj: ∀ id id' vo vo' x x',H.at' id=some vo→H.at' id'=some vo'→e id=some x→e id'=some x'→id≠id'→x.nil=false→x'.nil=false→vo.ro=false→vo'.ro=false→x.blk≠x'.blk
 fresh: ∀ i,nx≤i→e i=none
section
variable {K:Zone} {w0 w w':World} {e:Env} {H H':aw} {nx:Nat}
theorem St.sub(hS:St K w0 e H nx w)(h: ∀ id vo,H'.at' id=some vo→H.at' id=some vo):St K w0 e H' nx w:=
 ⟨hS.below,fun id vo hv=>hS.rel id vo (h id vo hv),fun id id' vo vo' x x' a b=>hS.inj id id' vo vo' x x' (h _ _ a) (h _ _ b),hS.fresh⟩
theorem St.lies(hS:St K w0 e H nx w){b:Nat}{vo:VO}{x:Ent}(hb:H.at' b=some vo)(hx:e b=some x):Lies K w e vo x:=by
 obtain⟨x1,h1,h2⟩:=hS.rel b vo hb
 rw [hx] at h1
 simp only [D2] at h1
 subst h1
 exact h2
theorem St.at(hS:St K w0 e H nx w){b:Nat}{vo:VO}{x:Ent}(hb:H.at' b=some vo)(hx:e b=some x)(hn: ∀ ro ne sz t c,vo ≠ .row ro ne sz t c):x.nil=false∧ ∃ o,¬ K x.blk∧w.heap[x.blk]? =some o∧ORel e vo x o:=by
 rcases hS.lies hb hx with ⟨h0,o,h1,h2⟩|⟨_,_,ro,t,c,h,_⟩
 ·refine⟨h0,o,fun hk=>?_,h2⟩
  cases vo with
  | row ro ne sz t c=>exact hn _ _ _ _ _ rfl
  | _=>exact h1.2 rfl hk
 ·exact absurd h (hn _ _ _ _ _)
theorem St.kept(hS:St K w0 e H nx w)(hb:Below w.heap.size w w'):St K w0 e H nx w':=by
 refine⟨⟨hb.os.trans hS.below.os,hb.tape.trans hS.below.tape,hb.output.trans hS.below.output,Ev hS.below.size hb.size,hS.below.old,fun j hj=>?_⟩,fun id vo hv=>?_,hS.inj,hS.fresh⟩
 ·rw [hb.block j (by have:=hS.below.old j hj;have:=hS.below.size;omega)]
  exact hS.below.block j hj
 ·obtain⟨x,hx,hl⟩:=hS.rel id vo hv
  refine⟨x,hx,?_⟩
  rcases hl with ⟨h0,o,h1,h2,h3⟩|hl
  ·refine .inl ⟨h0,o,h1,?_,h3⟩
   rw [hb.block _ (Ec.1 h2).1]
   exact h2
  ·exact .inr hl
structure Turned (w w':World) (k:Nat):Prop where
 os:w'.os=w.os
 tape:w'.tape=w.tape
 output:w'.output=w.output
 size:w.heap.size≤w'.heap.size
 other: ∀ j,j<w.heap.size→j≠k→w'.heap[j]? =w.heap[j]?
section
variable {vo:VO}{b k:Nat}{x:Ent}
theorem Turned.refl(w:World)(k:Nat):Turned w w k:=⟨rfl,rfl,rfl,Em _,fun _ _ _=>rfl⟩
theorem Turned.trans{w1 w2 w3:World}(h:Turned w1 w2 k)(h':Turned w2 w3 k):Turned w1 w3 k:=
 ⟨h'.os.trans h.os,h'.tape.trans h.tape,h'.output.trans h.output,Ev h.size h'.size,fun j hj hk=>(h'.other j (by have:=h.size;omega) hk).trans (h.other j hj hk)⟩
theorem Turned.setCell(w:World)(a:Addr)(v:Value):Turned w (w.setCell a v) a.block:=
 ⟨rfl,rfl,rfl,by simp [World.setCell],fun j _ hk=>Below.heap_setCell _ _ _ _ hk⟩
theorem fL{o:Obj}(h:w.heap[k]? =some o):k<w.heap.size:=(Ec.1 h).1
theorem m9(hb:Kept K w0 w)(hk: ¬ K k)(ht:Turned w w' k):Kept K w0 w':=
 ⟨ht.os.trans hb.os,ht.tape.trans hb.tape,ht.output.trans hb.output,Ev hb.size ht.size,hb.old,fun j hj=>by
   have:=hb.old j hj
   have:=hb.size
   rw [ht.other j (by omega) (fun h=>hk (h ▸ hj))]
   exact hb.block j hj⟩
theorem Lies.turned{K:Zone}(h:Lies K w e vo x)(ht:Turned w w' k)(hkk: ¬ K k)(hk:x.nil=false→vo.ro=false→x.blk≠k):Lies K w' e vo x:=by
 rcases h with ⟨h0,o,h1,h2,h3⟩|h
 ·refine .inl ⟨h0,o,h1,?_,h3⟩
  rw [ht.other x.blk (fL h2) ?_]
  ·exact h2
  ·cases hr:vo.ro with
   | false=>exact hk h0 hr
   | true=>exact fun h=>hkk (h ▸ K.sub _ (h1.1 hr))
 ·exact .inr h
theorem St.upd(hS:St K w0 e H nx w){vo':VO}{o':Obj}(hb:H.at' b=some vo)(hx:e b=some x)(hn:x.nil=false)(hro:vo.ro=false)(hro':vo'.ro=false)(ht:Turned w w' x.blk)(ho:w'.heap[x.blk]? =some o')(hr:ORel e vo' x o') :
 St K w0 e (H.set b vo') nx w':=by
 have hk: ¬ K x.blk:=by
  rcases hS.lies hb hx with ⟨_,_,h,_⟩|⟨h,_⟩
  ·exact h.2 hro
  ·rw [hn] at h;cases h
 refine⟨m9 hS.below hk ht,?_,?_,hS.fresh⟩
 ·intro id v hv
  rcases bl hv with ⟨rfl,rfl⟩|⟨hne,hv⟩
  ·exact⟨x,hx,.inl ⟨hn,o',⟨fun h=>(by rw [hro'] at h;cases h),fun _=>hk⟩,ho,hr⟩⟩
  ·obtain⟨y,g1,g2⟩:=hS.rel id v hv
   exact⟨y,g1,g2.turned ht hk fun hy hyr=>hS.inj id b v vo y x hv hb g1 hx hne hy hn hyr hro⟩
 ·intro id id' v v' y y' hv0 hv' hy hy' hne a b c d
  rcases bl hv0 with ⟨rfl,rfl⟩|⟨h5,hv⟩
  ·rcases bl hv' with ⟨rfl,rfl⟩|⟨h6,hv'⟩
   ·exact absurd rfl hne
   ·exact hS.inj _ _ _ _ _ _ hb hv' hy hy' hne a b hro d
  ·clear hv0
   rcases bl hv' with ⟨rfl,rfl⟩|⟨h6,hv'⟩
   ·exact hS.inj _ _ _ _ _ _ hv hb hy hy' hne a b c hro
   ·exact hS.inj _ _ _ _ _ _ hv hv' hy hy' hne a b c d
theorem St.ent(hS:St K w0 e H nx w){y:Ent}(hf:e nx=none)(hb:H.at' b=some vo)(hy:(e.put nx y) b=some x):e b=some x:=by
 obtain⟨z,g1,_⟩:=hS.rel b vo hb
 have:=Env.dE (x:=y) hf _ _ g1
 rw [hy] at this
 simp only [D2] at this
 subst this
 exact g1
theorem St.new(hS:St K w0 e H nx w){o:Obj}(hb:x.blk=w.heap.size)(hn:x.nil=false)(hro:vo.ro=false)(hos:w'.os=w.os)(htape:w'.tape=w.tape)(hout:w'.output=w.output)(hheap:w'.heap=w.heap.push o)
 (hr:ORel (e.put nx x) vo x o):St K w0 (e.put nx x) (H.set nx vo) (nx+1) w':=by
 have hf:=hS.fresh nx (Em _)
 have hle:=Env.dE (x:=x) hf
 have hold: ∀ {k:Nat} {p:Obj},w.heap[k]? =some p→w'.heap[k]? =some p:=fun {k p} h=>by
  have:=fL h
  rw [hheap,Array.getElem?_push,Ey (by omega)]
  exact h
 have hsz:w'.heap.size=w.heap.size+1:=by rw [hheap,Array.size_push]
 have hkb: ¬ K x.blk:=fun h=>by have:=hS.below.old _ h;have:=hS.below.size;omega
 refine⟨⟨hos.trans hS.below.os,htape.trans hS.below.tape,hout.trans hS.below.output,by have:=hS.below.size;omega,hS.below.old,fun j hj=>?_⟩,?_,?_,?_⟩
 ·have:=hS.below.size
  have:=hS.below.old j hj
  rw [hheap,Array.getElem?_push,Ey (by omega)]
  exact hS.below.block j hj
 ·intro id v hv
  rcases bl hv with ⟨rfl,rfl⟩|⟨hne,hv⟩
  ·exact⟨x,Env.bL _ _ _,.inl ⟨hn,o,⟨fun h=>(by rw [hro] at h;cases h),fun _=>hkb⟩,by rw [hheap,hb];simp,hr⟩⟩
  ·obtain⟨y,g1,g2⟩:=hS.rel id v hv
   refine⟨y,hle _ _ g1,?_⟩
   rcases g2 with ⟨h0,p,h1,h2,h3⟩|h
   ·exact .inl ⟨h0,p,h1,hold h2,h3.mono hle⟩
   ·exact .inr h
 ·intro id id' v v' y y' hv0 hv' hy hy' hne hyn hyn' hyr hyr'
  have key: ∀ {i:Nat} {u:VO} {z:Ent},H.at' i=some u→(e.put nx x) i=some z→z.nil=false→e i=some z∧z.blk<w.heap.size:=fun {i u z} hu hz hzn=>by
   have hz:=hS.ent hf hu hz
   rcases hS.lies hu hz with ⟨_,p,_,g3,_⟩|⟨h,_⟩
   ·exact⟨hz,fL g3⟩
   ·rw [hzn] at h;cases h
  rcases bl hv0 with ⟨rfl,rfl⟩|⟨h5,hv⟩
  ·rw [Env.bL] at hy
   simp only [D2] at hy
   subst hy
   rcases bl hv' with ⟨rfl,rfl⟩|⟨h6,hv'⟩
   ·exact absurd rfl hne
   ·have:=(key hv' hy' hyn').2;omega
  ·clear hv0
   rcases bl hv' with ⟨rfl,rfl⟩|⟨h6,hv'⟩
   ·rw [Env.bL] at hy'
    simp only [D2] at hy'
    subst hy'
    have:=(key hv hy hyn).2;omega
   ·exact hS.inj _ _ _ _ _ _ hv hv' (key hv hy hyn).1 (key hv' hy' hyn').1 hne hyn hyn' hyr hyr'
 ·intro i hi
  rw [Env.lI _ _ (by omega)]
  exact hS.fresh i (by omega)
theorem St.newNil(hS:St K w0 e H nx w)(ro:Bool)(sz:Nat)(t:TypeId)(c:Tr SV)(h0:0<sz):St K w0 (e.put nx ⟨0,0,0,sz,true⟩) (H.set nx (.row ro 0 sz t c)) (nx+1) w:=by
 have hf:=hS.fresh nx (Em _)
 have hle:=Env.dE (x:=⟨0,0,0,sz,true⟩) hf
 refine⟨hS.below,?_,?_,?_⟩
 ·intro id v hv
  rcases bl hv with ⟨rfl,rfl⟩|⟨hne,hv⟩
  ·exact⟨_,Env.bL _ _ _,.inr ⟨rfl,rfl,ro,t,c,rfl,h0⟩⟩
  ·obtain⟨y,g1,g2⟩:=hS.rel id v hv
   exact⟨y,hle _ _ g1,g2.mono hle⟩
 ·intro id id' v v' y y' hv0 hv' hy hy' hne hyn hyn' hyr hyr'
  rcases bl hv0 with ⟨rfl,rfl⟩|⟨h5,hv⟩
  ·rw [Env.bL] at hy
   simp only [D2] at hy
   subst hy
   cases hyn
  ·clear hv0
   rcases bl hv' with ⟨rfl,rfl⟩|⟨h6,hv'⟩
   ·rw [Env.bL] at hy'
    simp only [D2] at hy'
    subst hy'
    cases hyn'
   ·exact hS.inj _ _ _ _ _ _ hv hv' (hS.ent hf hv hy) (hS.ent hf hv' hy') hne hyn hyn' hyr hyr'
 ·intro i hi
  rw [Env.lI _ _ (by omega)]
  exact hS.fresh i (by omega)
theorem St.move(hS:St K w0 e H nx w){vo':VO}{y:Ent}{o':Obj}(hb:H.at' b=some vo)(hx:e b=some x)(hn:x.nil=false)(hyn:y.nil=false)(hro:vo'.ro=vo.ro)(hto:vo.ro=true→w'=w)(hy:y.blk=x.blk)(ht:Turned w w' x.blk)
 (ho:w'.heap[x.blk]? =some o') (hr:ORel (e.put nx y) vo' y o'):St K w0 (e.put nx y) ((H.del b).set nx vo') (nx+1) w':=by
 have hf:=hS.fresh nx (Em _)
 have hle:=Env.dE (x:=y) hf
 have hk:(vo.ro=true→K.read x.blk)∧(vo.ro=false→ ¬ K x.blk):=by
  rcases hS.lies hb hx with ⟨_,_,h,_⟩|⟨h,_⟩
  ·exact h
  ·rw [hn] at h;cases h
 have hkept:Kept K w0 w':=by
  cases hr0:vo.ro with
  | true=>rw [hto hr0];exact hS.below
  | false=>exact m9 hS.below (hk.2 hr0) ht
 have hturn: ∀ {v:VO} {z:Ent} {id:Nat},H.at' id=some v→e id=some z→id≠b→Lies K w e v z→Lies K w' e v z:=by
  intro v z id hv hz hne hl
  cases hr0:vo.ro with
  | true=>rw [hto hr0];exact hl
  | false=>exact hl.turned ht (hk.2 hr0) (fun hzn hzr=>hS.inj id b v vo z x hv hb hz hx hne hzn hn hzr hr0)
 refine⟨hkept,?_,?_,?_⟩
 ·intro id v hv
  rcases bl hv with ⟨rfl,rfl⟩|⟨hne,hv⟩
  ·exact⟨y,Env.bL _ _ _,.inl ⟨hyn,o',by rw [hy,hro];exact hk,by rw [hy];exact ho,hr⟩⟩
  ·obtain⟨hnb,hv⟩:=lG hv
   obtain⟨z,g1,g2⟩:=hS.rel id v hv
   exact⟨z,hle _ _ g1,(hturn hv g1 hnb g2).mono hle⟩
 ·intro id id' v v' z z' hv0 hv' hz hz' hne hzn hzn' hzr hzr'
  rcases bl hv0 with ⟨rfl,rfl⟩|⟨h5,hv⟩
  ·rw [Env.bL] at hz
   simp only [D2] at hz
   subst hz
   rcases bl hv' with ⟨rfl,rfl⟩|⟨h6,hv'⟩
   ·exact absurd rfl hne
   ·obtain⟨hnb,hv'⟩:=lG hv'
    rw [hy]
    exact fun h=>hS.inj id' b v' vo z' x hv' hb (hS.ent hf hv' hz') hx hnb hzn' hn hzr' (hro ▸ hzr) h.symm
  ·clear hv0
   obtain⟨hnb,hv1⟩:=lG hv
   clear hv
   have hv:=hv1
   clear hv1
   rcases bl hv' with ⟨rfl,rfl⟩|⟨h6,hv'⟩
   ·rw [Env.bL] at hz'
    simp only [D2] at hz'
    subst hz'
    rw [hy]
    exact hS.inj id b v vo z x hv hb (hS.ent hf hv hz) hx hnb hzn hn hzr (hro ▸ hzr')
   ·obtain⟨hnb',hv'⟩:=lG hv'
    exact hS.inj _ _ _ _ _ _ hv hv' (hS.ent hf hv hz) (hS.ent hf hv' hz') hne hzn hzn' hzr hzr'
 ·intro i hi
  rw [Env.lI _ _ (by omega)]
  exact hS.fresh i (by omega)
theorem St.drew(hS:St K w0 e H nx w):St K w0 e H nx {w with drawn:=w.drawn+1}:=by
 obtain⟨h1,h2,h3,h4⟩:=hS
 exact⟨⟨h1.os,h1.tape,h1.output,h1.size,h1.old,h1.block⟩,h2,h3,h4⟩
end
end
section
variable {P:Program} {w:World} {e:Env}
section
variable {s:SV}{vo:VO}{i n:Nat}{x:Ent}{K:Zone}{t:TypeId}
theorem aN(h:Nat.blt i n=true):i<n:=D7 h
theorem bK(h:Nat.ble i n=true):i≤n:=D7 h
theorem ba(h:Nat.beq i n=true):i=n:=EO h
theorem ORel.cell{vo:VO}{x:Ent}{o:Obj}{i:Nat}{s:SV}(h:ORel e vo x o)(hc:vo.cell i=some s)(hw:w.heap[x.blk]? =some o) :
 ∃ v,s.conc e=some v∧w.cell? ⟨x.blk,x.base+i,none⟩=some v∧(vo.ro=false→w.frozen? ⟨x.blk,x.base+i,none⟩=false):=by
 cases vo with
 | cells n t c=>
   obtain⟨h0,cs,fz,rfl,h2,h3,h4⟩:=h
   simp only [VO.cell] at hc
   cases hb:Nat.blt i n with
   | false=>rw [hb] at hc;cases hc
   | true=>
     rw [hb] at hc
     simp only [cond_true] at hc
     have hi:i<n:=aN hb
     obtain⟨v,hv,hg⟩:=h4 i hi s hc
     refine⟨v,hv,?_,?_⟩
     ·simp only [World.cell?,hw,h0,EA];simpa using hg
     ·intro _;simp only [World.frozen?,hw,h0,EA];exact h3.2 i hi
 | row ro ne sz t c=>
   obtain⟨_,cs,fz,tt,rfl,h2,h3,h4,h5,h6,h7⟩:=h
   simp only [VO.cell] at hc
   cases hb:Nat.blt i (ne*sz)with
   | false=>rw [hb] at hc;cases hc
   | true=>
     rw [hb] at hc
     simp only [cond_true] at hc
     have hi:i<ne*sz:=aN hb
     obtain⟨v,hv,hg⟩:=h7 i hi s hc
     refine⟨v,hv,?_,?_⟩
     ·simp only [World.cell?,hw];simpa using hg
     ·intro hr;simp only [World.frozen?,hw]
      exact(h5 hr).2 _ (Ec.1 hg).1
 | _=>simp [VO.cell] at hc
theorem Lies.cell{K:Zone}{vo:VO}{x:Ent}{i:Nat}{s:SV}(h:Lies K w e vo x)(hc:vo.cell i=some s) :
 ∃ v,s.conc e=some v∧w.cell? ⟨x.blk,x.base+i,none⟩=some v∧(vo.ro=false→w.frozen? ⟨x.blk,x.base+i,none⟩=false):=by
 rcases h with ⟨_,o,_,hw,hr⟩|⟨_,_,ro,t,c,rfl,_⟩
 ·exact hr.cell hc hw
 ·simp only [VO.cell,Nat.zero_mul] at hc
  cases hb:Nat.blt i 0 with
  | false=>rw [hb] at hc;cases hc
  | true=>have:=aN hb;omega
theorem Lies.cellsFrom{K:Zone}{vo:VO}{x:Ent}(h:Lies K w e vo x): ∀ (n i:Nat) (l:List SV),vo.cellsFrom i n=some l →
 ∃ vs,SV.aC e l=some vs∧vs.length=n∧ ∀ j v,vs[j]? =some v→w.cell? ⟨x.blk,x.base+i+j,none⟩=some v
 | 0,i,l,hc=>by
   simp only [VO.cellsFrom,D2] at hc
   subst hc
   exact⟨[],rfl,rfl,by simp⟩
 | n+1,i,l,hc=>by
   simp only [VO.cellsFrom] at hc
   cases h1:vo.cell i with
   | none=>rw [h1] at hc;cases hc
   | some s=>
     rw [h1] at hc
     simp only at hc
     cases h2:vo.cellsFrom (i+1) n with
     | none=>rw [h2] at hc;cases hc
     | some m=>
       rw [h2] at hc
       simp only [D2] at hc
       subst hc
       obtain⟨v,hv,hcell,_⟩:=h.cell h1
       obtain⟨vs,hvs,hl,hj⟩:=Lies.cellsFrom h n (i+1) m h2
       refine⟨v :: vs,bJ hv hvs,by simp [hl],fun j u hu=>?_⟩
       cases j with
       | zero=>simp only [Ej,D2] at hu;subst hu;simpa using hcell
       | succ j=>
         have:=hj j u (by simpa using hu)
         rw [show x.base+i+(j+1)=x.base+(i+1)+j by omega]
         exact this
theorem dt(b o j:Nat):(⟨b,o,none⟩:Addr).add j=⟨b,o+j,none⟩:=by
 unfold Addr.add
 by_cases h:j=0
 ·subst h;simp
 ·simp [h]
theorem cF(h:bw P t=some n)(w:World):(sizeOf t).run P w = .ok n w:=nL h w
theorem iA{z:Value}(h:dY P t=some z)(w:World):(zeroValue t).run P w = .ok z w:=zf h w
theorem iY{r:Option Nat}(h:bT P t=some r)(w:World):(isAgg t).run P w = .ok r.isSome w:=by
 unfold bT at h
 cases hu:P.underlying t with
 | none=>rw [hu] at h;cases h
 | some d=>
   rw [hu] at h
   cases d <;> simp at h <;> first
    | (subst h;simp [isAgg,run_underlying hu];done)
    | (obtain⟨a,_,rfl⟩:=h;simp [isAgg,run_underlying hu])
theorem lT(h:bT P t=some (some n)):bw P t=some n:=by
 unfold bT at h
 unfold bw
 cases hu:P.underlying t with
 | none=>rw [hu] at h;cases h
 | some d=>
   rw [hu] at h
   cases d <;> simp at h <;> (obtain⟨a,h1,h2⟩:=h;simp [h1,h2])
theorem uP{off:Nat}(h:Lies K w e vo x)
 (hl:(match bT P t with|some none=>vo.cell off|some (some n)=>(vo.cellsFrom off n).map .agg|none=>none)=some s) :
 ∃ v,s.conc e=some v∧(loadVar t ⟨x.blk,x.base+off,none⟩).run P w = .ok v w:=by
 cases ha:bT P t with
 | none=>rw [ha] at hl;cases hl
 | some r=>
   rw [ha] at hl
   cases r with
   | none=>
     obtain⟨v,hv,hc,_⟩:=h.cell hl
     exact⟨v,hv,by simp [loadVar,iY ha,hc]⟩
   | some n=>
     simp only [Eb] at hl
     obtain⟨l,hl,rfl⟩:=hl
     obtain⟨vs,hvs,hlen,hj⟩:=h.cellsFrom n off l hl
     refine⟨.agg vs.toArray,by simp [SV.conc,hvs],?_⟩
     have:=run_loadCells_list (P:=P) (w:=w) ⟨x.blk,x.base+off,none⟩ vs (fun j v hv=>by rw [dt];exact hj j v hv)
     rw [hlen] at this
     simp [loadVar,iY ha,cF (lT ha),this]
def EvRel(e:Env)(T:Tr SV)(ev:Operand→Value):Prop:= ∀ x s,ar T x=some s→s.conc e=some (ev x)
theorem TRel.ev{nt:Nat}{T:Tr SV}{fr:Frame}(h:TRel e nt T fr.tmps):EvRel e T fr.eval:=by
 intro x s hs
 cases x with
 | tmp t=>
   obtain⟨v,hv,hg⟩:=h.2 t s hs
   rw [hv]
   simp [Frame.eval,←hg]
 | const v=>simp only [ar,D2] at hs;subst hs;rfl
 | global g=>simp only [ar,D2] at hs;subst hs;rfl
 | func f=>simp only [ar,D2] at hs;subst hs;rfl
end
variable {T:Tr SV} {ev:Operand→Value}
theorem EvRel.list(hE:EvRel e T ev): ∀ (l:List Operand) (ss:List SV),dh T l=some ss→SV.aC e ss=some (l.map ev)
 | [],ss,h=>by simp only [dh,D2] at h;subst h;rfl
 | x :: l,ss,h=>by
   simp only [dh] at h
   cases hx:ar T x with
   | none=>rw [hx] at h;cases h
   | some s=>
     rw [hx] at h
     simp only at h
     cases hl:dh T l with
     | none=>rw [hl] at h;cases h
     | some r=>
       rw [hl] at h
       simp only [D2] at h
       subst h
       exact bJ (hE x s hx) (EvRel.list hE l r hl)
def DY(e:Env):List (Nat×SV)→List (Nat×Value)→Prop
 | [],[]=>True
 | (i,s) :: l,(j,v) :: m=>i=j∧s.conc e=some v∧DY e l m
 | _,_=>False
theorem EvRel.parts(hE:EvRel e T ev): ∀ (l:List (Nat×Operand)) (ss:List (Nat×SV)),l6 T l=some ss→DY e ss (l.map fun x=>(x.1,ev x.2))
 | [],ss,h=>by simp only [l6,D2] at h;subst h;trivial
 | (i,x) :: l,ss,h=>by
   simp only [l6] at h
   cases hx:ar T x with
   | none=>rw [hx] at h;cases h
   | some s=>
     rw [hx] at h
     simp only at h
     cases hl:l6 T l with
     | none=>rw [hl] at h;cases h
     | some r=>
       rw [hl] at h
       simp only [D2] at h
       subst h
       exact⟨rfl,hE x s hx,EvRel.parts hE l r hl⟩
theorem EvRel.nat(hE:EvRel e T ev){x:Operand}{n:Nat}(h:zD T x=some n): ∃ k,ev x = .int k (n:Int):=by
 unfold zD at h
 cases hx:ar T x with
 | none=>rw [hx] at h;cases h
 | some s=>
   have hv:=hE x s hx
   rw [hx] at h
   cases s with
   | sc v=>
     cases v with
     | int k i=>
       cases i with
       | ofNat m=>
         simp only [D2] at h
         subst h
         simp only [SV.conc,D2] at hv
         exact⟨k,hv.symm⟩
       | negSucc m=>simp at h
     | _=>simp at h
   | _=>simp at h
theorem EvRel.lit(hE:EvRel e T ev){x:Operand}{v:Value}(h:Dr T x=some v):ev x=v:=by
 unfold Dr at h
 cases hx:ar T x with
 | none=>rw [hx] at h;cases h
 | some s=>
   rw [hx] at h
   have h1:=SV.nD e s v h
   rw [hE x s hx] at h1
   simpa using h1
theorem yX{A B:List Value}{v:Value}{k:Nat}(h:A.length=k):(A ++ v :: B).take (k+1)=A ++ [v]:=by
 subst h
 rw [List.take_append,Ed (by omega)]
 simp
theorem zX{A B:List Value}{v:Value}{k n:Nat}(h:A.length=k):(A ++ v :: B).drop (k+1+n)=B.drop n:=by
 subst h
 rw [List.drop_append,List.drop_of_length_le (by omega),show A.length+1+n-A.length=n+1 by omega]
 simp
theorem rj: ∀ (l:List Value) (off j:Nat) (cs:Array Value),off+j+l.length≤cs.size →
 ((l.zipIdx j).foldl (fun cs x=>cs.setIfInBounds (off+x.2) x.1) cs).toList=cs.toList.take (off+j) ++ l ++ cs.toList.drop (off+j+l.length)
 | [],off,j,cs,_=>by simp
 | v :: l,off,j,cs,h=>by
   simp only [Ep] at h
   simp only [List.zipIdx_cons,List.foldl_cons]
   have ih:=rj l off (j+1) (cs.setIfInBounds (off+j) v) (by simp;omega)
   rw [ih]
   have hlt:off+j<cs.toList.length:=by simp;omega
   have hk:(cs.toList.take (off+j)).length=off+j:=by simp;omega
   simp only [Array.toList_setIfInBounds,Ep]
   rw [List.set_eq_take_append_cons_drop,Ez hlt]
   rw [show off+(j+1)=off+j+1 by omega,yX hk,zX hk,List.drop_drop]
   simp only [EJ,List.cons_append,List.nil_append]
   congr 4
   omega
theorem ul{place:Nat→Option (Nat×Nat)}: ∀ (ps:List (Nat×SV)) (qs:List (Nat×Value)) (cells cells':List SV) (vs:List Value),hJ place cells ps=some cells'→DY e ps qs→SV.aC e cells=some vs →
 ∃ vs',Instr.fill place vs.toArray qs=some vs'.toArray∧SV.aC e cells'=some vs'
 | [],[],cells,cells',vs,h,_,hc=>by
   simp only [hJ,D2] at h
   subst h
   exact⟨vs,rfl,hc⟩
 | [],_ :: _,_,_,_,_,hp,_=>hp.elim
 | (_,_) :: _,[],_,_,_,_,hp,_=>hp.elim
 | (i,s) :: ps,(j,v) :: qs,cells,cells',vs,h,hp,hc=>by
   obtain⟨rfl,hs,hp⟩:=hp
   simp only [hJ] at h
   cases hpl:place i with
   | none=>rw [hpl] at h;cases h
   | some x=>
     obtain⟨off,size⟩:=x
     rw [hpl] at h
     simp only at h
     have hcs:=lE hs
     have hl:=cN hcs
     have hl2:=cN hc
     simp only [Array.length_toList] at hl
     cases hb:(Nat.beq s.cells.length size && Nat.ble (off+size) cells.length)with
     | false=>rw [hb] at h;cases h
     | true=>
       rw [hb] at h
       simp only [cond_true] at h
       rw [Ek] at hb
       have h1:=ba hb.1
       have h2:=bK hb.2
       have hnew:SV.aC e (cells.take off ++ s.cells ++ cells.drop (off+size))=some (vs.take off ++ v.cells.toList ++ vs.drop (off+size)):=ck (ck (jm off hc) hcs) (lC (off+size) hc)
       obtain⟨vs',g1,g2⟩:=ul ps qs _ cells' _ h hp hnew
       refine⟨vs',?_,g2⟩
       simp only [Instr.fill,hpl]
       rw [Ey (by simp;omega)]
       rw [← g1]
       congr 1
       apply Array.ext'
       rw [← Array.foldl_toList,Array.toList_zipIdx]
       have:=rj v.cells.toList off 0 vs.toArray (by simp;omega)
       simp only [Nat.add_zero] at this
       rw [this]
       simp only [Array.length_toList,hl,h1]
end
theorem cZ{P:Program}{A:Type}: ∀ (s:Sem A) (a:A),bu P s=some a→ ∀ w,s.run P w = .ok a w
 | .pure b,a,h,w=>by simp only [bu,D2] at h;subst h;rfl
 | .program k,a,h,w=>cZ (k P) a h w
 | .mark m k,a,h,w=>cZ k a h w
 | .choose q k,a,h,w=>by
   simp only [bu] at h
   cases hq:q.forced with
   | false=>rw [hq] at h;cases h
   | true=>
     rw [hq] at h
     simp only [Sem.run,hq,if_true]
     exact cZ (k 0) a h w
 | .load ..,a,h,w=>by simp [bu] at h
 | .store ..,a,h,w=>by simp [bu] at h
 | .new ..,a,h,w=>by simp [bu] at h
 | .shape ..,a,h,w=>by simp [bu] at h
 | .freeze ..,a,h,w=>by simp [bu] at h
 | .frozen ..,a,h,w=>by simp [bu] at h
 | .getObj ..,a,h,w=>by simp [bu] at h
 | .setObj ..,a,h,w=>by simp [bu] at h
 | .sys ..,a,h,w=>by simp [bu] at h
 | .halt ..,a,h,w=>by simp [bu] at h
section
variable {P:Program} {K:Zone} {w0 w:World} {e:Env} {H:aw} {nx:Nat} {T:Tr SV} {ev:Operand→Value}
section
variable {r s:SV}{b n o:Nat}{x:Ent}{v:Value}{t:TypeId}{l:List SV}
theorem fI(h:(SV.ptr b o).conc e=some v): ∃ x,e b=some x∧v = .pointer (some ⟨x.blk,x.base+o,none⟩):=by
 simp only [SV.conc,Eb] at h
 obtain⟨x,hx,rfl⟩:=h
 exact⟨x,hx,rfl⟩
theorem hY{c:Nat}(h:(SV.sl b o n c).conc e=some v): ∃ x,e b=some x∧v = .slice (some ⟨x.blk,x.base+o,none⟩) n c:=by
 simp only [SV.conc,Eb] at h
 obtain⟨x,hx,rfl⟩:=h
 exact⟨x,hx,rfl⟩
theorem gm{eo:Nat}(h:(SV.slu b eo n).conc e=some v): ∃ x,e b=some x∧v = .slice (x.at eo) n (x.cap-eo):=by
 simp only [SV.conc,Eb] at h
 obtain⟨x,hx,rfl⟩:=h
 exact⟨x,hx,rfl⟩
theorem lB(h:(SV.mp b).conc e=some v): ∃ x,e b=some x∧v = .map (some x.blk):=by
 simp only [SV.conc,Eb] at h
 obtain⟨x,hx,rfl⟩:=h
 exact⟨x,hx,rfl⟩
theorem Aa(h:(SV.agg l).conc e=some v): ∃ vs,SV.aC e l=some vs∧v = .agg vs.toArray:=by
 simp only [SV.conc,Eb] at h
 obtain⟨x,hx,rfl⟩:=h
 exact⟨x,hx,rfl⟩
theorem z7(h:(SV.tup l).conc e=some v): ∃ vs,SV.aC e l=some vs∧v = .tuple vs.toArray:=by
 simp only [SV.conc,Eb] at h
 obtain⟨x,hx,rfl⟩:=h
 exact⟨x,hx,rfl⟩
theorem mj(h:(SV.ifc t s).conc e=some v): ∃ u,s.conc e=some u∧v = .iface t u:=by
 simp only [SV.conc,Eb] at h
 obtain⟨x,hx,rfl⟩:=h
 exact⟨x,hx,rfl⟩
theorem pR{f:Fn}{a b:List SV}(h:(SV.fn f a b).conc e=some v): ∃ x y,SV.aC e a=some x∧SV.aC e b=some y∧v = .func f x.toArray y.toArray:=by
 simp only [SV.conc] at h
 cases ha:SV.aC e a with
 | none=>rw [ha] at h;cases h
 | some x=>
   cases hb:SV.aC e b with
   | none=>rw [ha,hb] at h;cases h
   | some y=>rw [ha,hb] at h;simp only [D2] at h;exact⟨x,y,rfl,rfl,h.symm⟩
theorem pQ(h:(SV.yld b).conc e=some v): ∃ x,e b=some x∧v = .func (.yield x.blk) #[] #[]:=by
 simp only [SV.conc,Eb] at h
 obtain⟨x,hx,rfl⟩:=h
 exact⟨x,hx,rfl⟩
theorem BQ{i:Nat}(h:BR i s=some r)(hv:s.conc e=some v)(w:World): ∃ u,r.conc e=some u∧(Instr.extract v i).run P w = .ok u w:=by
 cases s with
 | tup l=>
   obtain⟨vs,hl,rfl⟩:=z7 hv
   obtain⟨u,hu,hg⟩:=ft hl h
   exact⟨u,hu,by simp [Instr.extract,hg]⟩
 | sc c=>
   cases c with
   | tuple vs=>
     simp only [SV.conc,D2] at hv
     subst hv
     simp only [BR,Eb] at h
     obtain⟨u,hu,rfl⟩:=h
     exact⟨u,rfl,by simp [Instr.extract,hu]⟩
   | _=>simp [BR] at h
 | _=>simp [BR] at h
theorem qu{o:Oper}{x:Operand}(hop:o.op = .nilCheck x)(h:eO s=some r)(hv:s.conc e=some (ev x))(w:World) :
 ∃ u,r.conc e=some u∧(execOp ev o).run P w = .ok (.value u) w:=by
 cases s with
 | ptr b off=>
   obtain⟨y,hy,hx⟩:=fI hv
   simp only [eO,D2] at h
   subst h
   exact⟨_,hv,by simp [execOp,hop,hx]⟩
 | yld l=>
   obtain⟨y,hy,hx⟩:=pQ hv
   simp only [eO,D2] at h
   subst h
   exact⟨_,hv,by simp [execOp,hop,hx]⟩
 | ifc t u=>
   obtain⟨y,hy,hx⟩:=mj hv
   simp only [eO,D2] at h
   subst h
   exact⟨_,hv,by simp [execOp,hop,hx]⟩
 | fn f a c=>
   cases f with
   | func g=>
     obtain⟨x1,y1,_,_,hx⟩:=pR hv
     simp only [eO,D2] at h
     subst h
     exact⟨_,hv,by simp [execOp,hop,hx]⟩
   | _=>simp [eO] at h
 | _=>simp [eO] at h
theorem nM{f:Field}(h:bw P f.type=some (n+1))(b o:Nat)(w:World):(fieldPlace ⟨b,o,none⟩ f).run P w = .ok ⟨b,o+f.offset,none⟩ w:=by
 simp [fieldPlace,cF h,dt]
theorem pO{f:Nat}(h:gG P t f s=some r)(hv:s.conc e=some v)(w:World): ∃ u,r.conc e=some u∧(Instr.fieldAt t v f).run P w = .ok u w:=by
 cases s with
 | ptr b off=>
   obtain⟨y,hy,rfl⟩:=fI hv
   simp only [gG] at h
   cases hu:P.underlying t with
   | none=>rw [hu] at h;cases h
   | some d=>
     rw [hu] at h
     cases d with
     | struct fields=>
       simp only at h
       cases hf:fields[f]? with
       | none=>rw [hf] at h;cases h
       | some fd=>
         rw [hf] at h
         simp only at h
         cases hs:bw P fd.type with
         | none=>rw [hs] at h;cases h
         | some n=>
           rw [hs] at h
           cases n with
           | zero=>cases h
           | succ n=>
             simp only [D2] at h
             subst h
             refine⟨.pointer (some ⟨y.blk,y.base+(off+fd.offset),none⟩),by simp [SV.conc,hy],?_⟩
             simp [Instr.fieldAt,run_underlying hu,hf,Instr.sureAddr,nM hs,Nat.add_assoc]
     | _=>cases h
 | _=>simp [gG] at h
theorem Lies.row{K:Zone}{w:World}{ro:Bool}{ne sz:Nat}{c:Tr SV}(h:Lies K w e (.row ro ne sz t c) x):x.sz=sz∧0<sz∧(0<ne→x.nil=false)∧ne≤x.cap:=by
 rcases h with ⟨h0,o,_,_,h1,cs,fz,_,_,h2,_,_,_,h3,_⟩|⟨_,h1,ro',t',c',h2,h3⟩
 ·exact⟨h1,h3,fun _=>h0,h2⟩
 ·injection h2 with h7 h2 h4 h5 h6
  subst h2;subst h4
  exact⟨rfl,h3,fun h=>absurd h (by omega),by omega⟩
theorem Ent.eQ(h:x.nil=false)(eo:Nat):x.at eo=some ⟨x.blk,x.base+eo*x.sz,none⟩:=by unfold Ent.at;rw [h];rfl
theorem pI{k:IntKind}(hS:St K w0 e H nx w)(h:dk P H t n s=some r)(hv:s.conc e=some v): ∃ u,r.conc e=some u∧(Instr.indexAt t v (.int k (n:Int))).run P w = .ok u w:=by
 cases s with
 | ptr b off=>
   obtain⟨y,hy,rfl⟩:=fI hv
   simp only [dk] at h
   cases hu:P.underlying t with
   | none=>rw [hu] at h;cases h
   | some d=>
     rw [hu] at h
     cases d with
     | array len el=>
       simp only at h
       cases hs:bw P el with
       | none=>rw [hs] at h;cases h
       | some sz=>
         rw [hs] at h
         simp only at h
         cases hb:Nat.blt n len with
         | false=>rw [hb] at h;cases h
         | true=>
           rw [hb] at h
           simp only [cond_true,D2] at h
           subst h
           have hlt:=aN hb
           refine⟨.pointer (some ⟨y.blk,y.base+(off+n*sz),none⟩),by simp [SV.conc,hy],?_⟩
           simp [Instr.indexAt,asIntOf,run_underlying hu,Instr.sureAddr,cF hs,dt,Nat.add_assoc]
           intro hc;omega
     | _=>cases h
 | sl b off len cap=>
   obtain⟨y,hy,rfl⟩:=hY hv
   simp only [dk] at h
   cases hu:P.underlying t with
   | none=>rw [hu] at h;cases h
   | some d=>
     rw [hu] at h
     cases d with
     | slice el=>
       simp only at h
       cases hs:bw P el with
       | none=>rw [hs] at h;cases h
       | some sz=>
         rw [hs] at h
         simp only at h
         cases hb:Nat.blt n len with
         | false=>rw [hb] at h;cases h
         | true=>
           rw [hb] at h
           simp only [cond_true,D2] at h
           subst h
           have hlt:=aN hb
           refine⟨.pointer (some ⟨y.blk,y.base+(off+n*sz),none⟩),by simp [SV.conc,hy],?_⟩
           simp [Instr.indexAt,asIntOf,run_underlying hu,cF hs,dt,Nat.add_assoc]
           intro hc;omega
     | _=>cases h
 | slu b eo len=>
   obtain⟨y,hy,rfl⟩:=gm hv
   simp only [dk] at h
   cases hu:P.underlying t with
   | none=>rw [hu] at h;cases h
   | some d=>
     rw [hu] at h
     cases d with
     | slice el=>
       simp only at h
       cases hs:bw P el with
       | none=>rw [hs] at h;cases h
       | some sz=>
         rw [hs] at h
         simp only at h
         split at h
         ·rename_i ro ne sz' t' c hrow
          cases hb:(Nat.beq sz' sz && Nat.ble (eo+len) ne && Nat.blt n len)with
          | false=>rw [hb] at h;cases h
          | true=>
            rw [hb] at h
            simp only [cond_true,D2] at h
            subst h
            simp only [Ek] at hb
            have hsz:=ba hb.1.1
            have hle:=bK hb.1.2
            have hlt:=aN hb.2
            obtain⟨g1,g2,g3,g4⟩:=(hS.lies hrow hy).row
            rw [Ent.eQ (g3 (by omega)),g1]
            subst hsz
            refine⟨.pointer (some ⟨y.blk,y.base+((eo+n)*sz'),none⟩),by simp [SV.conc,hy],?_⟩
            simp [Instr.indexAt,asIntOf,run_underlying hu,cF hs,dt,Nat.add_assoc,Nat.add_mul]
            intro hc;omega
         ·cases h
     | _=>cases h
 | _=>simp [dk] at h
theorem tX(hS:St K w0 e H nx w)(h:pC P H t b o=some r)(hx:e b=some x): ∃ u,r.conc e=some u∧(loadVar t ⟨x.blk,x.base+o,none⟩).run P w = .ok u w:=by
 unfold pC at h
 cases hb:H.at' b with
 | none=>rw [hb] at h;cases h
 | some vo=>
   rw [hb] at h
   exact uP (hS.lies hb hx) h
theorem zv{off:Nat}{vs:List Value}(h:BD P t l off=some r)(hl:SV.aC e l=some vs)(w:World): ∃ u,r.conc e=some u∧(part t vs.toArray off).run P w = .ok u w:=by
 unfold BD at h
 cases ha:bT P t with
 | none=>rw [ha] at h;cases h
 | some q=>
   rw [ha] at h
   cases q with
   | none=>
     obtain⟨u,hu,hg⟩:=ft hl h
     exact⟨u,hu,by simp [part,iY ha,hg]⟩
   | some n=>
     simp only [D2] at h
     subst h
     refine⟨.agg ((vs.drop off).take n).toArray,by simp [SV.conc,jm n (lC off hl)],?_⟩
     simp only [part,iY ha,cF (lT ha),Sem.run_bind,Result.andThen,Option.isSome_some,if_true,Sem.run_pure]
     congr 2
     apply Array.ext'
     simp [List.take_drop,Nat.add_comm]
theorem xQ{f:Nat}{vs:List Value}(h:xR P t f l=some r)(hl:SV.aC e l=some vs)(w:World): ∃ u,r.conc e=some u∧(Instr.field t (.agg vs.toArray) f).run P w = .ok u w:=by
 unfold xR at h
 cases hu:P.underlying t with
 | none=>rw [hu] at h;cases h
 | some d=>
   rw [hu] at h
   cases d with
   | struct fields=>
     simp only at h
     cases hf:fields[f]? with
     | none=>rw [hf] at h;cases h
     | some fd=>
       rw [hf] at h
       obtain⟨u,hu',hr⟩:=zv h hl w
       exact⟨u,hu',by simp [Instr.field,run_underlying hu,hf,asAgg,hr]⟩
   | _=>cases h
theorem xE(hv:s.conc e=some v):(ud t s).conc e=some (.iface t v):=by
 cases s <;> first
  | (simp only [SV.conc,D2] at hv;subst hv;rfl)
  | (simp only [ud];rw [SV.conc,hv];rfl)
theorem xF(h:qZ P t s=some r)(hv:s.conc e=some v)(w:World): ∃ u,r.conc e=some u∧(Instr.makeInterface t v).run P w = .ok u w:=by
 unfold qZ at h
 cases hu:P.underlying t with
 | none=>rw [hu] at h;cases h
 | some d=>
   rw [hu] at h
   cases d <;> first
    | (simp only [D2] at h
       subst h
       exact⟨_,xE hv,by simp [Instr.makeInterface,run_underlying hu]⟩)
    | cases h
theorem qF: ∀ (fs:List Field) (pl:List (Nat×Nat)),lL P fs=some pl→fs.mapM (fun f=>(P.info? f.type).map fun i=>(f.offset,i.size))=some pl
 | [],pl,h=>by simp only [lL,D2] at h;subst h;rfl
 | f :: fs,pl,h=>by
   simp only [lL,bw] at h
   cases hi:P.info? f.type with
   | none=>rw [hi] at h;cases h
   | some i=>
     rw [hi] at h
     simp only [Et] at h
     cases hr:lL P fs with
     | none=>rw [hr] at h;cases h
     | some r=>
       rw [hr] at h
       simp only [D2] at h
       subst h
       simp [List.mapM_cons,hi,qF fs r hr]
theorem yn{ps:List (Nat×SV)}{qs:Array (Nat×Value)}(h:lR P t ps=some r)(hp:DY e ps qs.toList)(w:World): ∃ u,r.conc e=some u∧(Instr.build t qs).run P w = .ok u w:=by
 unfold lR dY at h
 cases hi:P.info? t with
 | none=>rw [hi] at h;cases h
 | some it=>
   rw [hi] at h
   simp only [Eu] at h
   cases hz:it.zero with
   | none=>rw [hz] at h;cases h
   | some z=>
     rw [hz] at h
     simp only at h
     have hzl:SV.aC e (z.cells.toList.map .sc)=some z.cells.toList:=fg _
     cases hu:P.underlying t with
     | none=>rw [hu] at h;cases h
     | some d=>
       rw [hu] at h
       cases d with
       | struct fields=>
         simp only at h
         cases hpl:lL P fields.toList with
         | none=>rw [hpl] at h;cases h
         | some pl=>
           rw [hpl] at h
           simp only [Eb] at h
           obtain⟨cs,hf,rfl⟩:=h
           obtain⟨vs,g1,g2⟩:=ul ps qs.toList _ cs _ hf hp hzl
           refine⟨.agg vs.toArray,by simp [SV.conc,g2],run_build w t qs vs.toArray ?_⟩
           unfold Program.built
           rw [hi,hu]
           simp only [hz,qF _ _ hpl]
           rw [← g1]
           congr 1
           funext i
           simp
       | array len el=>
         simp only at h
         cases hs:bw P el with
         | none=>rw [hs] at h;cases h
         | some sz=>
           rw [hs] at h
           simp only [Eb] at h
           obtain⟨cs,hf,rfl⟩:=h
           obtain⟨vs,g1,g2⟩:=ul ps qs.toList _ cs _ hf hp hzl
           refine⟨.agg vs.toArray,by simp [SV.conc,g2],run_build w t qs vs.toArray ?_⟩
           unfold bw at hs
           cases hie:P.info? el with
           | none=>rw [hie] at hs;cases hs
           | some ie=>
             rw [hie] at hs
             simp only [Et,D2] at hs
             subst hs
             unfold Program.built
             rw [hi,hu]
             simp only [hz,hie]
             rw [← g1]
       | _=>cases h
theorem MRel.dummies: ∀ {l:List (Value×SV×Nat)} {ms:List MapEntry},MRel e l ms→dummies l=ms.map fun m=>{m with val:= .nilFunc}
 | [],[],_=>rfl
 | (k,s,b) :: l,m :: ms,h=>by
   obtain⟨rfl,rfl,_,h4⟩:=h
   simp only [Sy.dummies,Eo,List.cons.injEq]
   exact⟨trivial,MRel.dummies h4⟩
 | [],_ :: _,h=>h.elim
 | (_,_,_) :: _,[],h=>by simp [MRel] at h
theorem MRel.length: ∀ {l:List (Value×SV×Nat)} {ms:List MapEntry},MRel e l ms→ms.length=l.length
 | [],[],_=>rfl
 | (k,s,b) :: l,m :: ms,h=>by simp [MRel.length h.2.2.2]
 | [],_ :: _,h=>h.elim
 | (_,_,_) :: _,[],h=>by simp [MRel] at h
theorem MRel.get: ∀ {l:List (Value×SV×Nat)} {ms:List MapEntry},MRel e l ms→ ∀ {i:Nat} {k:Value} {s:SV} {b:Nat},l[i]? =some (k,s,b)→ ∃ m,ms[i]? =some m∧m.key=k∧m.born=b∧s.conc e=some m.val
 | [],[],_,i,k,s,b,hg=>by simp at hg
 | (k',s',b') :: l,m :: ms,h,i,k,s,b,hg=>by
   cases i with
   | zero=>
     simp only [Ej,D2,Ea] at hg
     obtain⟨rfl,rfl,rfl⟩:=hg
     exact⟨m,rfl,h.1,h.2.1,h.2.2.1⟩
   | succ i=>simpa using MRel.get h.2.2.2 (i:=i) (by simpa using hg)
 | [],_ :: _,h,_,_,_,_,_=>h.elim
 | (_,_,_) :: _,[],h,_,_,_,_,_=>by simp [MRel] at h
theorem g8(d:TypeDesc)(k:Value): ∀ (ms:List MapEntry) (i:Nat),Instr.findNow d k (ms.map fun m=>{m with val:= .nilFunc}) i=(Instr.findNow d k ms i).map (·.map fun x=>(x.1,.nilFunc))
 | [],i=>rfl
 | m :: ms,i=>by
   simp only [Eo,Instr.findNow]
   cases Instr.sameNow d k m.key with
   | none=>rfl
   | some b=>cases b <;> simp [g8 d k ms (i+1)]
theorem dx{A C:Type}(f:A→Sem C)(c:C): ∀ (s:Sem A),bu P (s.bind f)=some c→ ∃ a,bu P s=some a∧bu P (f a)=some c
 | .pure a,h=>⟨a,rfl,h⟩
 | .program k,h=>dx f c (k P) h
 | .mark m k,h=>dx f c k h
 | .choose q k,h=>by
   simp only [Sem.bind,bu] at h ⊢
   cases hq:q.forced with
   | false=>rw [hq] at h;cases h
   | true=>rw [hq] at h;exact dx f c (k 0) h
 | .load ..,h=>by simp [Sem.bind,bu] at h
 | .store ..,h=>by simp [Sem.bind,bu] at h
 | .new ..,h=>by simp [Sem.bind,bu] at h
 | .shape ..,h=>by simp [Sem.bind,bu] at h
 | .freeze ..,h=>by simp [Sem.bind,bu] at h
 | .frozen ..,h=>by simp [Sem.bind,bu] at h
 | .getObj ..,h=>by simp [Sem.bind,bu] at h
 | .setObj ..,h=>by simp [Sem.bind,bu] at h
 | .sys ..,h=>by simp [Sem.bind,bu] at h
 | .halt ..,h=>by simp [Sem.bind,bu] at h
theorem ik(kt:TypeId)(k:Value)(w:World): ∀ (ms:List MapEntry) (i:Nat) (r:Option (Nat×Value)),bu P (Instr.findAsking kt k (ms.map fun m=>{m with val:= .nilFunc}) i)=some r →
 ∃ r',(Instr.findAsking kt k ms i).run P w = .ok r' w∧r=r'.map fun x=>(x.1,.nilFunc)
 | [],i,r,h=>by
   simp only [List.map_nil,Instr.findAsking] at h
   have:r=none:=by
    change some none=some r at h
    simpa using h.symm
   subst this
   exact⟨none,rfl,rfl⟩
 | m :: ms,i,r,h=>by
   simp only [Eo,Instr.findAsking] at h
   obtain⟨b,h1,h2⟩:=dx _ _ _ h
   have hr:=cZ _ _ h1 w
   simp only [Instr.findAsking,Sem.run_bind,hr,Result.andThen]
   cases b with
   | true=>
     simp only [if_true] at h2 ⊢
     have:r=some (i,.nilFunc):=by
      change some _=some r at h2
      simpa using h2.symm
     subst this
     exact⟨some (i,m.val),rfl,rfl⟩
   | false=>
     simp only [Bool.false_eq_true,if_false] at h2 ⊢
     exact ik kt k w ms (i+1) r h2
theorem pK(kt:TypeId)(k:Value)(w:World)(ms:List MapEntry)(r:Option (Nat×Value))(h:bu P (Instr.findKey kt k (ms.map fun m=>{m with val:= .nilFunc}))=some r) :
 ∃ r',(Instr.findKey kt k ms).run P w = .ok r' w∧r=r'.map fun x=>(x.1,.nilFunc):=by
 unfold Instr.findKey at h ⊢
 obtain⟨d,h1,h2⟩:=dx _ _ _ h
 have hr:=cZ _ _ h1 w
 simp only [Sem.run_bind,hr,Result.andThen]
 rw [g8] at h2
 cases hf:Instr.findNow d k ms 0 with
 | none=>
   rw [hf] at h2
   exact ik kt k w ms 0 r h2
 | some q=>
   rw [hf] at h2
   refine⟨q,rfl,?_⟩
   change some _=some r at h2
   simpa using h2.symm
theorem ni(d:TypeDesc)(k:Value): ∀ (ms:List MapEntry) (i j:Nat) (v:Value),Instr.findNow d k ms i=some (some (j,v))→i≤j∧ ∃ m,ms[j-i]? =some m∧m.val=v
 | [],i,j,v,h=>by simp [Instr.findNow] at h
 | m :: ms,i,j,v,h=>by
   simp only [Instr.findNow] at h
   cases hs:Instr.sameNow d k m.key with
   | none=>rw [hs] at h;cases h
   | some b=>
     rw [hs] at h
     cases b with
     | true=>
       simp only [D2,Ea] at h
       obtain⟨rfl,rfl⟩:=h
       exact⟨Em _,m,by simp,rfl⟩
     | false=>
       obtain⟨h1,n,h2,h3⟩:=ni d k ms (i+1) j v h
       exact⟨by omega,n,by rw [show j-i=(j-(i+1))+1 by omega];simpa using h2,h3⟩
theorem jB(kt:TypeId)(k:Value)(w:World): ∀ (ms:List MapEntry) (i:Nat) (r:Option (Nat×Value)),bu P (Instr.findAsking kt k (ms.map fun m=>{m with val:= .nilFunc}) i)=some r→ ∀ j v,(Instr.findAsking kt k ms i).run P w = .ok (some (j,v)) w→i≤j∧ ∃ m,ms[j-i]? =some m∧m.val=v
 | [],i,r,_,j,v,h=>by simp [Instr.findAsking] at h
 | m :: ms,i,r,hp,j,v,h=>by
   simp only [Eo,Instr.findAsking] at hp
   obtain⟨b,h1,h2⟩:=dx _ _ _ hp
   have hr:=cZ _ _ h1 w
   simp only [Instr.findAsking,Sem.run_bind,hr,Result.andThen] at h
   cases b with
   | true=>
     simp only [if_true,Sem.run_pure,Result.ok.injEq,D2,Ea,and_true] at h
     obtain⟨rfl,rfl⟩:=h
     exact⟨Em _,m,by simp,rfl⟩
   | false=>
     simp only [Bool.false_eq_true,if_false] at h2 h
     obtain⟨g1,n,g2,g3⟩:=jB kt k w ms (i+1) r h2 j v h
     exact⟨by omega,n,by rw [show j-i=(j-(i+1))+1 by omega];simpa using g2,g3⟩
theorem pM{kt:TypeId}{k:Value}{l:List (Value×SV×Nat)}{ms:List MapEntry}{r:Option Nat}(h:pN P kt k l=some r)(hm:MRel e l ms)(w:World) :
 (∀ b,b=ms.isEmpty→(Instr.checkKey b 10000 kt k).run P w = .ok () w)∧ ∃ r',(Instr.findKey kt k ms).run P w = .ok r' w∧r=r'.map (·.1)∧ ∀ j v,r'=some (j,v)→ ∃ m,ms[j]? =some m∧m.val=v:=by
 unfold pN at h
 have hlen:=hm.length
 have hemp:l.isEmpty=ms.isEmpty:=by
  cases l <;> cases ms <;> simp at hlen ⊢
 rw [hemp] at h
 cases hc:bu P (Instr.checkKey ms.isEmpty 10000 kt k)with
 | none=>rw [hc] at h;cases h
 | some u=>
   rw [hc] at h
   simp only at h
   rw [hm.dummies] at h
   cases hf:bu P (Instr.findKey kt k (ms.map fun m=>{m with val:= .nilFunc}))with
   | none=>rw [hf] at h;cases h
   | some q=>
     rw [hf] at h
     refine⟨fun b hb=>by subst hb;exact cZ _ _ hc w,?_⟩
     obtain⟨r',h1,h2⟩:=pK kt k w ms q hf
     refine⟨r',h1,?_,?_⟩
     ·subst h2
      cases r' with
      | none=>simpa using h.symm
      | some x=>simpa using h.symm
     ·rintro j v rfl
      unfold Instr.findKey at hf h1
      obtain⟨d,g1,g2⟩:=dx _ _ _ hf
      have hr:=cZ _ _ g1 w
      simp only [Sem.run_bind,hr,Result.andThen] at h1
      rw [g8] at g2
      cases hn:Instr.findNow d k ms 0 with
      | none=>
        rw [hn] at g2 h1
        obtain⟨_,m,a,b⟩:=jB kt k w ms 0 q g2 j v h1
        exact⟨m,by simpa using a,b⟩
      | some p=>
        rw [hn] at h1
        simp only [Sem.run_pure,Result.ok.injEq,and_true] at h1
        subst h1
        obtain⟨_,m,a,b⟩:=ni d k ms 0 j v hn
        exact⟨m,by simpa using a,b⟩
end
end
section
variable {P:Program} {K:Zone} {w0 w:World} {e:Env} {H:aw} {nx:Nat} {T:Tr SV} {ev:Operand→Value}
theorem w8{s z:SV}{v:Value}{b ok:Bool}(hs:s.conc e=some v)(hz:(bif ok then SV.tup [s,.sc (.bool b)] else s)=z):z.conc e=some (if ok then .tuple #[v,.bool b] else v):=by
 subst hz
 cases ok with
 | true=>simp [SV.conc,SV.aC,hs]
 | false=>simpa using hs
theorem vi{t:TypeId}{ok:Bool}{k:Value}{s r:SV}{v:Value}(hS:St K w0 e H nx w)(h:jP P H t ok k s=some r)(hv:s.conc e=some v): ∃ u,r.conc e=some u∧(Instr.lookup t v k ok).run P w = .ok u w:=by
 cases s with
 | mp b=>
   obtain⟨x,hx,rfl⟩:=lB hv
   simp only [jP] at h
   cases hu:P.underlying t with
   | none=>rw [hu] at h;cases h
   | some d=>
     rw [hu] at h
     cases d with
     | map kt el=>
       simp only at h
       cases hb:H.at' b with
       | none=>rw [hb] at h;cases h
       | some vo=>
         rw [hb] at h
         cases vo with
         | map l clock=>
           simp only at h
           obtain⟨_,o,_,hw,ho⟩:=hS.at hb hx (by simp)
           obtain⟨es,rfl,hm⟩:=ho
           have hg:=Go.MapKept.run_getObj_map (P:=P) hw
           cases hf:pN P kt k l with
           | none=>rw [hf] at h;cases h
           | some q=>
             obtain⟨hc,r',hr,hq,hget⟩:=pM hf hm w
             have hc':=hc es.isEmpty (by simp)
             rw [hf] at h
             cases q with
             | none=>
               simp only at h
               have:r'=none:=by cases r' with|none=>rfl|some x=>simp at hq
               subst this
               cases hz:dY P el with
               | none=>rw [hz] at h;cases h
               | some z=>
                 rw [hz] at h
                 simp only [D2] at h
                 refine⟨_,w8 (s:= .sc z) rfl h,?_⟩
                 simp [Instr.lookup,run_underlying hu,hg,hc',hr,iA hz]
             | some i=>
               simp only at h
               cases r' with
               | none=>simp at hq
               | some jv=>
                 obtain⟨j,u⟩:=jv
                 simp only [Et,D2] at hq
                 subst hq
                 cases hl:l[i]? with
                 | none=>rw [hl] at h;cases h
                 | some y=>
                   obtain⟨k',s',b'⟩:=y
                   rw [hl] at h
                   simp only [D2] at h
                   obtain⟨m,g1,_,_,g4⟩:=hm.get hl
                   obtain⟨m',g5,g6⟩:=hget i u rfl
                   rw [g1] at g5
                   simp only [D2] at g5
                   subst g5
                   rw [g6] at g4
                   refine⟨_,w8 g4 h,?_⟩
                   simp [Instr.lookup,run_underlying hu,hg,hc',hr]
         | _=>cases h
     | _=>cases h
 | sc c=>
   simp only [SV.conc,D2] at hv
   subst hv
   cases c with
   | map m=>
     cases m with
     | none=>
       simp only [jP] at h
       cases hu:P.underlying t with
       | none=>rw [hu] at h;cases h
       | some d=>
         rw [hu] at h
         cases d with
         | map kt el=>
           simp only at h
           cases hf:pN P kt k [] with
           | none=>rw [hf] at h;cases h
           | some q=>
             obtain⟨hc,r',hr,hq,hget⟩:=pM (e:=e) (ms:= []) hf trivial w
             have hc':=hc true rfl
             rw [hf] at h
             cases q with
             | some i=>cases h
             | none=>
               simp only at h
               have:r'=none:=by cases r' with|none=>rfl|some x=>simp at hq
               subst this
               cases hz:dY P el with
               | none=>rw [hz] at h;cases h
               | some z=>
                 rw [hz] at h
                 simp only [D2] at h
                 refine⟨_,w8 (s:= .sc z) rfl h,?_⟩
                 simp [Instr.lookup,run_underlying hu,hc',hr,iA hz]
         | _=>cases h
     | some m=>simp [jP] at h
   | _=>simp [jP] at h
 | _=>simp [jP] at h
def Bnd(d n:Nat)(x:Option Value):Prop:=(x=none∧n=d)∨ ∃ k,x=some (.int k (n:Int))
theorem EvRel.natOr(hE:EvRel e T ev){d n:Nat}{x:Option Operand}(h:natOr T d x=some n):Bnd d n (x.map ev):=by
 cases x with
 | none=>simp only [Sy.natOr,D2] at h;exact .inl ⟨rfl,h.symm⟩
 | some x=>
   obtain⟨k,hk⟩:=hE.nat h
   exact .inr ⟨k,by simp [hk]⟩
theorem jz{k:IntKind}{n y:Nat}(h:n≤y)(c:BoundsCode)(w:World):(Instr.sliceBound (.int k (n:Int)) y c).run P w = .ok n w:=by
 simp only [Instr.sliceBound,asIntOf,Sem.run_bind,Sem.run_pure,Result.andThen]
 rw [Ez (by omega)]
 simp
theorem eE{isS:Bool}{len cap l h m:Nat}{lo hi mx:Option Value}(hl:Bnd 0 l lo)(hh:Bnd len h hi)(hm:Bnd cap m mx)(h1:l≤h)(h2:h≤m)(h3:m≤cap)(h4:hi.isSome=true∨mx=none)(w:World) :
 (Instr.sliceBounds isS len cap lo hi mx).run P w = .ok (l,h,m) w:=by
 rcases hm with ⟨rfl,rfl⟩|⟨km,rfl⟩
 ·rcases hh with ⟨rfl,rfl⟩|⟨kh,rfl⟩ <;> rcases hl with ⟨rfl,rfl⟩|⟨kl,rfl⟩ <;> simp [Instr.sliceBounds,jz,h1,h2,h3]
 ·rcases hh with ⟨rfl,rfl⟩|⟨kh,rfl⟩
  ·simp at h4
  ·rcases hl with ⟨rfl,rfl⟩|⟨kl,rfl⟩ <;> simp [Instr.sliceBounds,jz,h1,h2,h3]
theorem qW{A C:Type}{hi:Option A}{mx:Option C}(h:(hi.isSome || mx.isNone)=true){f:A→Value}{g:C→Value}:(hi.map f).isSome=true∨mx.map g=none:=by
 rw [Bool.or_eq_true] at h
 rcases h with h|h
 ·exact .inl (by simpa using h)
 ·exact .inr (by cases mx <;> simp_all)
theorem wv{t:TypeId}{lo hi mx:Option Operand}{s r:SV}{v:Value}(hS:St K w0 e H nx w)(hE:EvRel e T ev)(h:lJ P T H t lo hi mx s=some r)(hv:s.conc e=some v) :
 ∃ u,r.conc e=some u∧(Instr.sliceAt t v (lo.map ev) (hi.map ev) (mx.map ev)).run P w = .ok u w:=by
 cases s with
 | ptr b off=>
   obtain⟨x,hx,rfl⟩:=fI hv
   simp only [lJ] at h
   cases hu:P.underlying t with
   | none=>rw [hu] at h;cases h
   | some d=>
     rw [hu] at h
     cases d with
     | array n el=>
       simp only at h
       cases hs:bw P el with
       | none=>rw [hs] at h;cases h
       | some sz=>
       cases hl:natOr T 0 lo with
       | none=>rw [hs,hl] at h;cases h
       | some l=>
       cases hh:natOr T n hi with
       | none=>rw [hs,hl,hh] at h;cases h
       | some hb=>
       cases hm:natOr T n mx with
       | none=>rw [hs,hl,hh,hm] at h;cases h
       | some m=>
         rw [hs,hl,hh,hm] at h
         simp only at h
         cases hc:(Nat.ble l hb && Nat.ble hb m && Nat.ble m n && (hi.isSome || mx.isNone))with
         | false=>rw [hc] at h;cases h
         | true=>
           rw [hc] at h
           simp only [cond_true,D2] at h
           subst h
           simp only [Ek] at hc
           obtain⟨⟨⟨c1,c2⟩,c3⟩,c4⟩:=hc
           have hbd:=eE (P:=P) (isS:=false) (hE.natOr hl) (hE.natOr hh) (hE.natOr hm) (bK c1) (bK c2) (bK c3) (qW c4) w
           refine⟨.slice (some ⟨x.blk,x.base+(bif Nat.beq m l then off else off+l*sz),none⟩) (hb-l) (m-l),by simp [SV.conc,hx],?_⟩
           simp only [Instr.sliceAt,run_underlying hu,Sem.run_bind,Result.andThen,Instr.sureAddr,Sem.run_pure,hbd,cF hs]
           by_cases hml:m=l
           ·subst hml
            simp [show Nat.beq m m=true from Nat.beq_refl m]
           ·rw [Ey hml]
            have:Nat.beq m l=false:=by
             cases hbq:Nat.beq m l with
             | false=>rfl
             | true=>exact absurd (ba hbq) hml
            simp [this,dt,Nat.add_assoc]
     | _=>cases h
 | sl b off len cap=>
   obtain⟨x,hx,rfl⟩:=hY hv
   simp only [lJ] at h
   cases hu:P.underlying t with
   | none=>rw [hu] at h;cases h
   | some d=>
     rw [hu] at h
     cases d with
     | slice el=>
       simp only at h
       cases hs:bw P el with
       | none=>rw [hs] at h;cases h
       | some sz=>
       cases hl:natOr T 0 lo with
       | none=>rw [hs,hl] at h;cases h
       | some l=>
       cases hh:natOr T len hi with
       | none=>rw [hs,hl,hh] at h;cases h
       | some hb=>
       cases hm:natOr T cap mx with
       | none=>rw [hs,hl,hh,hm] at h;cases h
       | some m=>
         rw [hs,hl,hh,hm] at h
         simp only at h
         cases hc:(Nat.ble l hb && Nat.ble hb m && Nat.ble m cap && (hi.isSome || mx.isNone))with
         | false=>rw [hc] at h;cases h
         | true=>
           rw [hc] at h
           simp only [cond_true,D2] at h
           subst h
           simp only [Ek] at hc
           obtain⟨⟨⟨c1,c2⟩,c3⟩,c4⟩:=hc
           have hbd:=eE (P:=P) (isS:=true) (hE.natOr hl) (hE.natOr hh) (hE.natOr hm) (bK c1) (bK c2) (bK c3) (qW c4) w
           refine⟨.slice (some ⟨x.blk,x.base+(bif Nat.beq m l then off else off+l*sz),none⟩) (hb-l) (m-l),by simp [SV.conc,hx],?_⟩
           simp only [Instr.sliceAt,Instr.slice,run_underlying hu,Sem.run_bind,Result.andThen,Sem.run_pure,hbd,cF hs]
           by_cases hml:m=l
           ·subst hml
            simp [show Nat.beq m m=true from Nat.beq_refl m]
           ·rw [Ey hml]
            have:Nat.beq m l=false:=by
             cases hbq:Nat.beq m l with
             | false=>rfl
             | true=>exact absurd (ba hbq) hml
            simp [this,dt,Nat.add_assoc]
     | _=>cases h
 | slu b eo len=>
   obtain⟨x,hx,rfl⟩:=gm hv
   simp only [lJ] at h
   cases hu:P.underlying t with
   | none=>rw [hu] at h;cases h
   | some d=>
     rw [hu] at h
     cases d with
     | slice el=>
       simp only at h
       cases hb:H.at' b with
       | none=>rw [hb] at h;cases h
       | some vo=>
       rw [hb] at h
       cases vo with
       | row rro ne rsz rt rc=>
         simp only at h
         obtain⟨hsz,_,hnn,hne⟩:=(hS.lies hb hx).row
         cases hs:bw P el with
         | none=>rw [hs] at h;cases h
         | some sz=>
         cases hl:natOr T 0 lo with
         | none=>rw [hs,hl] at h;cases h
         | some l=>
         cases hh:natOr T len hi with
         | none=>rw [hs,hl,hh] at h;cases h
         | some hb'=>
           rw [hs,hl,hh] at h
           simp only at h
           cases mx with
           | none=>
             simp only at h
             cases hc:(Nat.beq rsz sz && Nat.ble l hb' && Nat.ble (eo+hb') ne && Nat.blt (eo+l) ne)with
             | false=>rw [hc] at h;cases h
             | true=>
               rw [hc] at h
               simp only [cond_true,D2] at h
               subst h
               simp only [Ek] at hc
               obtain⟨⟨⟨c0,c1⟩,c2⟩,c3⟩:=hc
               have c2':=bK c2
               have c3':=aN c3
               have c0':=ba c0
               have hx0:=hnn (by omega)
               have hbd:=eE (P:=P) (isS:=true) (cap:=x.cap-eo) (m:=x.cap-eo) (mx:=none) (hE.natOr hl) (hE.natOr hh) (.inl ⟨rfl,rfl⟩) (bK c1) (by omega) (Em _) (.inr rfl) w
               refine⟨.slice (x.at (eo+l)) (hb'-l) (x.cap-(eo+l)),by simp [SV.conc,hx],?_⟩
               rw [Ent.eQ hx0,Ent.eQ hx0,hsz,c0']
               simp only [Instr.sliceAt,Instr.slice,run_underlying hu,Sem.run_bind,Result.andThen,Sem.run_pure,Option.map_none,hbd,cF hs]
               rw [Ey (by omega)]
               simp [dt,Nat.add_assoc,Nat.sub_sub,Nat.add_mul]
           | some mo=>
             simp only at h
             cases hm:zD T mo with
             | none=>rw [hm] at h;cases h
             | some m=>
               rw [hm] at h
               simp only at h
               cases hc:(Nat.beq rsz sz && Nat.ble l hb' && Nat.ble hb' m && Nat.ble (eo+m) ne && Nat.blt 0 ne && hi.isSome)with
               | false=>rw [hc] at h;cases h
               | true=>
                 rw [hc] at h
                 simp only [cond_true,D2] at h
                 subst h
                 simp only [Ek] at hc
                 obtain⟨⟨⟨⟨⟨c0,c1⟩,c2⟩,c3⟩,c5⟩,c4⟩:=hc
                 have c3':=bK c3
                 have c0':=ba c0
                 have hx0:=hnn (aN c5)
                 obtain⟨km,hkm⟩:=hE.nat hm
                 have hbd:=eE (P:=P) (isS:=true) (cap:=x.cap-eo) (m:=m) (mx:=some (.int km m)) (hE.natOr hl) (hE.natOr hh) (.inr ⟨km,rfl⟩) (bK c1) (bK c2) (by omega) (.inl (by simpa using c4)) w
                 refine⟨.slice (some ⟨x.blk,x.base+(bif Nat.beq m l then eo else eo+l)*rsz,none⟩) (hb'-l) (m-l),by simp [SV.conc,hx],?_⟩
                 rw [Ent.eQ hx0,hsz,c0']
                 simp only [Instr.sliceAt,Instr.slice,run_underlying hu,Sem.run_bind,Result.andThen,Sem.run_pure,Et,hkm,hbd,cF hs]
                 by_cases hml:m=l
                 ·subst hml
                  simp [show Nat.beq m m=true from Nat.beq_refl m]
                 ·rw [Ey hml]
                  have:Nat.beq m l=false:=by
                   cases hbq:Nat.beq m l with
                   | false=>rfl
                   | true=>exact absurd (ba hbq) hml
                  simp [this,dt,Nat.add_assoc,Nat.add_mul]
       | _=>cases h
     | _=>cases h
 | _=>simp [lJ] at h
end
section
variable {P:Program} {K:Zone} {w0 w:World} {e:Env} {H:aw} {nx:Nat} {T:Tr SV} {ev:Operand→Value}
section
variable {r s:SV}{v:Value}{t:TypeId}
theorem gB{x y:Value}{r:Bool}{w:World}(h: ∀ d,(Op.equalIn (d+1) t x y).run P w = .ok r w):(Op.equal t x y).run P w = .ok r w:=h 9999
theorem xt{c:Value}{d:TypeDesc}(h:qX s c d=true)(hu:P.underlying t=some d)(hv:s.conc e=some v)(w:World):(Op.equal t v c).run P w = .ok false w∧(∀ k n,v ≠ .int k n) ∧
 (∀ k n,v ≠ .float k n)∧(∀ k a b,v ≠ .complex k a b)∧(∀ s,v ≠ .string s)∧v ≠ .nilIface∧(∀ a,v ≠ .agg a):=by
 unfold qX at h
 split at h
 case h_1 b o el=>
  obtain⟨x,_,rfl⟩:=fI hv
  refine⟨gB ?_,by simp,by simp,by simp,by simp,by simp,by simp⟩
  intro d;rw [Op.equalIn];simp [run_underlying hu]
 case h_2 a b ms=>
  obtain⟨x,_,rfl⟩:=mj hv
  refine⟨gB ?_,by simp,by simp,by simp,by simp,by simp,by simp⟩
  intro d;rw [Op.equalIn];simp [run_underlying hu]
 case h_3 b k el=>
  obtain⟨x,_,rfl⟩:=lB hv
  refine⟨gB ?_,by simp,by simp,by simp,by simp,by simp,by simp⟩
  intro d;rw [Op.equalIn];simp [run_underlying hu]
 case h_4 b o n c l2 c2 el=>
  obtain⟨x,_,rfl⟩:=hY hv
  refine⟨gB ?_,by simp,by simp,by simp,by simp,by simp,by simp⟩
  intro d;rw [Op.equalIn];simp [run_underlying hu]
 case h_5 f a b ps rs va=>
  obtain⟨x,y,_,_,rfl⟩:=pR hv
  refine⟨gB ?_,by simp,by simp,by simp,by simp,by simp,by simp⟩
  intro d;rw [Op.equalIn];simp [run_underlying hu]
 case h_6 b ps rs va=>
  obtain⟨x,_,rfl⟩:=pQ hv
  refine⟨gB ?_,by simp,by simp,by simp,by simp,by simp,by simp⟩
  intro d;rw [Op.equalIn];simp [run_underlying hu]
 case h_7=>cases h
theorem vb{o:Oper}{op:BinOp}{yt:TypeId}{xo yo:Operand}{x y:SV}(hop:o.op = .binOp op t xo yo yt)(h:pA P op t x y=some r)(hx:x.conc e=some (ev xo))(hy:y.conc e=some (ev yo))(w:World) :
 ∃ u,r.conc e=some u∧(execOp ev o).run P w = .ok (.value u) w:=by
 unfold pA at h
 cases y with
 | sc c=>
   simp only [SV.conc,D2] at hy
   subst hy
   simp only at h
   cases hu:P.underlying t with
   | none=>rw [hu] at h;cases h
   | some d=>
     rw [hu] at h
     simp only at h
     cases hb:qX x (ev yo) d with
     | false=>rw [hb] at h;cases h
     | true=>
       rw [hb] at h
       simp only [cond_true] at h
       obtain⟨h1,n1,n2,n3,n4,n5,n6⟩:=xt hb hu hx w
       generalize hA:ev xo=a at *
       generalize hC:ev yo=c at *
       cases op with
       | eql=>
         simp only [D2] at h
         subst h
         have hg:(eqGuard .eql t xo yo a c).run P w = .ok () w:=by
          unfold eqGuard
          cases a <;> cases c <;> first|rfl|exact absurd rfl n5|exact absurd rfl (n6 _)
         have hb2:(Go.binOp .eql t a c).run P w = .ok (.bool false) w:=by
          cases a <;> cases c <;> first
           | exact absurd rfl (n1 _ _)
           | exact absurd rfl (n2 _ _)
           | exact absurd rfl (n3 _ _ _)
           | exact absurd rfl (n4 _)
           | simp [Go.binOp,h1]
         exact⟨_,rfl,by simp [execOp,hop,hA,hC,hg,hb2]⟩
       | neq=>
         simp only [D2] at h
         subst h
         have hg:(eqGuard .neq t xo yo a c).run P w = .ok () w:=by
          unfold eqGuard
          cases a <;> cases c <;> first|rfl|exact absurd rfl n5|exact absurd rfl (n6 _)
         have hb2:(Go.binOp .neq t a c).run P w = .ok (.bool true) w:=by
          cases a <;> cases c <;> first
           | exact absurd rfl (n1 _ _)
           | exact absurd rfl (n2 _ _)
           | exact absurd rfl (n3 _ _ _)
           | exact absurd rfl (n4 _)
           | simp [Go.binOp,h1]
         exact⟨_,rfl,by simp [execOp,hop,hA,hC,hg,hb2]⟩
       | _=>cases h
 | _=>cases h
theorem B6{ts:Array TypeId}{ty:TypeId}(hts:ts[0]? =some t)(hS:St K w0 e H nx w)(h:AN P H t s=some r)(hv:s.conc e=some v): ∃ u,r.conc e=some u∧(Builtin.len_ ts ty #[v]).run P w = .ok u w:=by
 cases s with
 | sl b o n c=>
   obtain⟨x,_,rfl⟩:=hY hv
   simp only [AN] at h
   cases hu:P.underlying t with
   | none=>rw [hu] at h;cases h
   | some d=>
     rw [hu] at h
     cases d with
     | slice el=>simp only [D2] at h;subst h;exact⟨_,rfl,by simp [Builtin.len_,hts,run_underlying hu,goInt]⟩
     | _=>cases h
 | slu b eo n=>
   obtain⟨x,_,rfl⟩:=gm hv
   simp only [AN] at h
   cases hu:P.underlying t with
   | none=>rw [hu] at h;cases h
   | some d=>
     rw [hu] at h
     cases d with
     | slice el=>simp only [D2] at h;subst h;exact⟨_,rfl,by simp [Builtin.len_,hts,run_underlying hu,goInt]⟩
     | _=>cases h
 | mp b=>
   obtain⟨x,hx,rfl⟩:=lB hv
   simp only [AN] at h
   cases hu:P.underlying t with
   | none=>rw [hu] at h;cases h
   | some d=>
     rw [hu] at h
     cases d with
     | map kt el=>
       simp only at h
       cases hb:H.at' b with
       | none=>rw [hb] at h;cases h
       | some vo=>
         rw [hb] at h
         cases vo with
         | map l clock=>
           simp only [D2] at h
           subst h
           obtain⟨_,o,_,hw,ho⟩:=hS.at hb hx (by simp)
           obtain⟨es,rfl,hm⟩:=ho
           have hg:=Go.MapKept.run_getObj_map (P:=P) hw
           have hl:=hm.length
           simp only [Array.length_toList] at hl
           exact⟨_,rfl,by simp [Builtin.len_,hts,run_underlying hu,hg,goInt,hl]⟩
         | _=>cases h
     | _=>cases h
 | _=>simp [AN] at h
theorem dH{sz n:Nat}{l:List SV}(hS:St K w0 e H nx w)(h:aJ H sz s=some (n,l))(hv:s.conc e=some v) :
 ∃ vs,SV.aC e l=some vs∧vs.length=n*sz∧(Builtin.lenOf v).run P w = .ok n w∧ ∀ k,k≤n→(Builtin.firstCells sz k v).run P w = .ok (vs.take (k*sz)).toArray w:=by
 have row: ∀ (b o:Nat) (vo:VO) (a:Ent) (c:Nat) (ad:Option Addr),H.at' b=some vo→e b=some a→(n*sz≠0→ad=some ⟨a.blk,a.base+o,none⟩)→v = .slice ad n c→(vo.cellsFrom o (n*sz)).map (fun l=>(n,l))=some (n,l) →
  ∃ vs,SV.aC e l=some vs∧vs.length=n*sz∧(Builtin.lenOf v).run P w = .ok n w∧ ∀ k,k≤n→(Builtin.firstCells sz k v).run P w = .ok (vs.take (k*sz)).toArray w:=by
  intro b o vo a c ad hb ha had hv h
  simp only [Eb,Ea,true_and] at h
  obtain⟨l',hcf,rfl⟩:=h
  obtain⟨vs,h1,h2,h3⟩:=(hS.lies hb ha).cellsFrom _ _ _ hcf
  subst hv
  refine⟨vs,h1,h2,by simp [Builtin.lenOf],fun k hk=>?_⟩
  have hle:k*sz≤n*sz:=Nat.mul_le_mul_right _ hk
  by_cases h0:n*sz=0
  ·have hk0:k*sz=0:=by omega
   have hvs:vs= []:=Eh (by omega)
   subst hvs
   cases ad with
   | none=>simp [Builtin.firstCells]
   | some ad=>
     have:=run_loadCells_list (P:=P) (w:=w) ad [] (by simp)
     simp only [List.length_nil] at this
     simp [Builtin.firstCells,hk0,this]
  ·rw [had h0]
   have:=run_loadCells_list (P:=P) (w:=w) ⟨a.blk,a.base+o,none⟩ (vs.take (k*sz)) (fun j u hu=>by
    rw [dt]
    have hj:j<(vs.take (k*sz)).length:=(D6.1 hu).1
    rw [List.getElem?_take,Ez (by rw [EC] at hj;omega)] at hu
    exact h3 j u hu)
   rw [EC,Nat.min_eq_left (by omega)] at this
   simp [Builtin.firstCells,this]
 cases s with
 | sl b o m c=>
   obtain⟨x,hx,hv'⟩:=hY hv
   simp only [aJ] at h
   cases hb:H.at' b with
   | none=>rw [hb] at h;cases h
   | some vo=>
     rw [hb] at h
     have hmn:m=n:=by simp only [Eb,Ea] at h;obtain⟨_,_,h,_⟩:=h;exact h
     subst hmn
     exact row b o vo x c _ hb hx (fun _=>rfl) hv' h
 | slu b eo m=>
   obtain⟨x,hx,hv'⟩:=gm hv
   simp only [aJ] at h
   split at h
   ·rename_i ro ne sz' t c hb
    cases hc:(Nat.beq sz' sz && Nat.ble (eo+m) ne)with
    | false=>rw [hc] at h;cases h
    | true=>
      rw [hc] at h
      simp only [cond_true] at h
      simp only [Ek] at hc
      have c1:=ba hc.1
      have c2:=bK hc.2
      subst c1
      have hmn:m=n:=by simp only [Eb,Ea] at h;obtain⟨_,_,h,_⟩:=h;exact h
      subst hmn
      obtain⟨g1,g2,g3,g4⟩:=(hS.lies hb hx).row
      refine row b (eo*sz') _ x _ _ hb hx (fun h0=>?_) hv' h
      have:m≠0:=fun h=>h0 (by rw [h,Nat.zero_mul])
      rw [Ent.eQ (g3 (by omega)),g1]
   ·cases h
 | sc c=>
   simp only [SV.conc,D2] at hv
   subst hv
   unfold aJ at h
   split at h
   ·simp only [D2,Ea] at h
    obtain⟨rfl,rfl⟩:=h
    rename_i heq
    simp only [SV.sc.injEq] at heq
    subst heq
    rename_i ad _
    refine⟨[],rfl,by simp,by simp [Builtin.lenOf],fun k hk=>?_⟩
    obtain rfl:k=0:=by omega
    cases ad with
    | none=>simp [Builtin.firstCells]
    | some ad=>
      have:=run_loadCells_list (P:=P) (w:=w) ad [] (by simp)
      simp only [List.length_nil] at this
      simp [Builtin.firstCells,this]
   ·rename_i st heq
    simp only [SV.sc.injEq] at heq
    subst heq
    cases hb:Nat.beq sz 1 with
    | false=>rw [hb] at h;cases h
    | true=>
      rw [hb] at h
      simp only [cond_true,D2,Ea] at h
      obtain⟨rfl,rfl⟩:=h
      have:=ba hb
      subst this
      refine⟨st.data.toList.map fun b=> .int .u8 b.toNat,?_,?_,by simp [Builtin.lenOf],fun k hk=>?_⟩
      ·have:=fg (e:=e) (st.data.toList.map fun b=>Value.int .u8 b.toNat)
       rw [List.map_map] at this
       exact this
      ·rw [ED,Array.length_toList,Nat.mul_one]
       rfl
      ·simp only [Builtin.firstCells,Sem.run_pure,Nat.mul_one]
       congr 1
       apply Array.ext'
       rw [Array.toList_map,ByteArray.data_extract,Array.toList_extract,List.extract_eq_take_drop,List.map_take]
       rfl
   ·rename_i heq;cases heq
   ·rename_i heq;cases heq
   ·cases h
 | _=>simp [aJ] at h
theorem rJ: ∀ {l:List SV} {bs:List UInt8} {vs:List Value},lQ l=some bs→SV.aC e l=some vs→ ∃ ns:List Int,vs=ns.map (Value.int .u8)∧ ∀ r:ByteArray,ns.foldl (fun r n=>r.push (UInt8.ofNat n.toNat)) r=⟨r.data ++ bs.toArray⟩
 | [],bs,vs,h,hc=>by
   simp only [lQ,D2] at h
   simp only [SV.aC,D2] at hc
   subst h hc
   exact⟨[],rfl,fun r=>by simp⟩
 | s :: l,bs,vs,h,hc=>by
   obtain⟨v,ws,rfl,hv,hl⟩:=b9 hc
   unfold lQ at h
   split at h
   ·rename_i heq;cases heq
   ·rename_i n l' heq
    simp only [List.cons.injEq] at heq
    obtain⟨rfl,rfl⟩:=heq
    simp only [SV.conc,D2] at hv
    subst hv
    cases hb:lQ l with
    | none=>rw [hb] at h;cases h
    | some r=>
      rw [hb] at h
      simp only [D2] at h
      subst h
      obtain⟨ns,rfl,hns⟩:=rJ hb hl
      refine⟨(Int.ofNat n) :: ns,rfl,fun q=>?_⟩
      simp only [List.foldl_cons]
      rw [hns]
      simp [ByteArray.push]
   ·cases h
theorem wm{s:TypeId}{x:SV}(hS:St K w0 e H nx w)(h:qn P H s t x=some r)(hv:x.conc e=some v): ∃ u,r.conc e=some u∧(Go.convert s t v).run P w = .ok u w:=by
 unfold qn at h
 cases hs:P.underlying s with
 | none=>rw [hs] at h;cases h
 | some d=>
   rw [hs] at h
   cases d with
   | slice el=>
     simp only at h
     cases ht:P.underlying t with
     | none=>rw [ht] at h;cases h
     | some d2=>
       rw [ht] at h
       cases d2 with
       | string=>
         simp only at h
         cases he:P.underlying el with
         | none=>rw [he] at h;cases h
         | some d3=>
           rw [he] at h
           have key:d3 = .int .u8→ ∀ n l,aJ H 1 x=some (n,l)→oC l=some r→(∃ a m c,v = .slice a m c)→ ∃ u,r.conc e=some u∧(Go.convert s t v).run P w = .ok u w:=by
            intro hd n l hc hb hsl
            subst hd
            obtain⟨a,m,c,rfl⟩:=hsl
            obtain⟨vs,h1,h2,h3,h4⟩:=dH (P:=P) hS hc hv
            simp only [Builtin.lenOf,Sem.run_pure,Result.ok.injEq,and_true] at h3
            subst h3
            have h5:=h4 m (Em _)
            simp only [oC,Eb] at hb
            obtain⟨bs,hb,rfl⟩:=hb
            obtain⟨ns,rfl,hns⟩:=rJ hb h1
            simp only [Builtin.firstCells,Nat.mul_one] at h5
            rw [Ed (by omega)] at h5
            rw [run_convert_bytes_string w s t el a m c hs he ht]
            cases a with
            | none=>
              simp only [Sem.run_pure,Result.ok.injEq,and_true] at h5
              have h6:=congrArg Array.toList h5
              simp only [List.map_eq_nil_iff] at h6
              have h7:ns= []:=by simpa using h6.symm
              subst h7
              have h8:=hns ByteArray.empty
              have h9:bs= []:=by
               have:=congrArg ByteArray.data h8
               simpa using this
              subst h9
              exact⟨_,rfl,by simp only [Conv.bytesToString,Sem.run_pure];rfl⟩
            | some a=>
            rw [run_bytesToString w a m c ns h5,hns]
            exact⟨_,rfl,by rw [show(ByteArray.empty).data = #[] from rfl];simp⟩
           cases d3 with
           | int k=>
             cases k with
             | u8=>
               simp only at h
               cases x with
               | sl b o n c=>
                 simp only at h
                 obtain⟨y,_,hv'⟩:=hY hv
                 cases hc:aJ H 1 (.sl b o n c)with
                 | none=>rw [hc] at h;cases h
                 | some q=>rw [hc] at h;exact key rfl q.1 q.2 hc h ⟨_,_,_,hv'⟩
               | slu b eo n=>
                 simp only at h
                 obtain⟨y,_,hv'⟩:=gm hv
                 cases hc:aJ H 1 (.slu b eo n)with
                 | none=>rw [hc] at h;cases h
                 | some q=>rw [hc] at h;exact key rfl q.1 q.2 hc h ⟨_,_,_,hv'⟩
               | _=>cases h
             | _=>cases h
           | _=>cases h
       | _=>cases h
   | _=>cases h
theorem rd{r:Nat}{o:Obj}(h:w.heap[r]? =some o)(hn: ∀ c t fz,o ≠ .cells c t fz):(getObj r).run P w = .ok o w:=by
 cases o <;> first
  | exact absurd rfl (hn _ _ _)
  | simp [getObj,Sem.run,h]
theorem MRel.find(f:Nat→Bool): ∀ {l:List (Value×SV×Nat)} {ms:List MapEntry},MRel e l ms→ ∀ {x:Value×SV×Nat},l.find? (fun x=>f x.2.2)=some x→ ∃ m,ms.find? (fun m=>f m.born)=some m∧m.key=x.1∧x.2.1.conc e=some m.val
 | [],[],_,x,h=>by simp at h
 | (k,s,b) :: l,m :: ms,hr,x,h=>by
   obtain⟨h1,h2,h3,h4⟩:=hr
   simp only [List.find?_cons] at h ⊢
   rw [h2]
   cases hb:f b with
   | true=>
     rw [hb] at h
     simp only [D2] at h
     subst h
     exact⟨m,rfl,h1,h3⟩
   | false=>
     rw [hb] at h
     exact MRel.find f h4 h
 | [],_ :: _,hr,_,_=>hr.elim
 | (_,_,_) :: _,[],hr,_,_=>by simp [MRel] at hr
theorem vA(a b:Nat):(a == b)=Nat.beq a b:=by
 cases h:Nat.beq a b with
 | true=>
   have:=ba h
   subst this
   simp
 | false=>
   rw [beq_eq_false_iff_ne]
   rintro rfl
   rw [show Nat.beq a a=true from Nat.beq_refl a] at h
   cases h
theorem xT(hS:St K w0 e H nx w)(h:xU H s=some r)(hv:s.conc e=some v): ∃ u,r.conc e=some u∧(Instr.entry v).run P w = .ok u w:=by
 unfold xU at h
 split at h
 ·rename_i b
  obtain⟨x,hx,rfl⟩:=fI hv
  split at h
  ·rename_i m since seen stepped hb
   obtain⟨_,o,_,hw,ho⟩:=hS.at hb hx (by simp)
   obtain⟨h0,y,hy,rfl⟩:=ho
   have hg:=rd (P:=P) hw (by simp)
   cases hs:seen.getLast? with
   | none=>rw [hs] at h;cases h
   | some stamp=>
     rw [hs] at h
     simp only at h
     split at h
     ·rename_i l clock hm
      obtain⟨_,om,_,hwm,hom⟩:=hS.at hm hy (by simp)
      obtain⟨es,rfl,hmr⟩:=hom
      have hgm:=rd (P:=P) hwm (by simp)
      cases hc:Nat.beq clock stepped with
      | false=>rw [hc] at h;cases h
      | true=>
        rw [hc] at h
        have hcs:=ba hc
        subst hcs
        simp only [cond_true] at h
        cases hf:l.find? (fun x=>Nat.beq x.2.2 stamp)with
        | none=>rw [hf] at h;cases h
        | some z=>
          rw [hf] at h
          simp only [D2] at h
          subst h
          obtain⟨m,g1,g2,g3⟩:=hmr.find (fun b=>Nat.beq b stamp) hf
          have g1':es.find? (fun m=>m.born == stamp)=some m:=by
           rw [← Array.find?_toList]
           simp only [vA]
           exact g1
          have hback:seen.toArray.back? =some stamp:=by simpa using hs
          refine⟨.tuple #[m.key,m.val],by simp [SV.conc,SV.aC,g2,g3],?_⟩
          rw [h0,Nat.add_zero]
          simp [Instr.entry,hg,hback,hgm,g1']
     ·cases h
  ·cases h
 ·cases h
theorem fF{A C:Type}{x:Option A}{f:A→Option C}{c:C}(h:x.bind f=some c): ∃ a,x=some a∧f a=some c:=by
 cases x with
 | none=>cases h
 | some a=>exact⟨a,rfl,h⟩
theorem wG{o:Oper}(hS:St K w0 e H nx w)(hE:EvRel e T ev)(h:cS P T H o=some r): ∃ u,r.conc e=some u∧(execOp ev o).run P w = .ok (.value u) w:=by
 unfold cS at h
 cases hop:o.op with
 | move x=>rw [hop] at h;exact⟨_,hE x r h,by simp [execOp,hop]⟩
 | assign x=>rw [hop] at h;exact⟨_,hE x r h,by simp [execOp,hop]⟩
 | pick c a b=>
   rw [hop] at h
   simp only at h
   split at h
   ·rename_i t hc
    have:=hE c _ hc
    simp only [SV.conc,D2] at this
    cases t with
    | true=>exact⟨_,hE a r h,by simp [execOp,hop,←this,asBool]⟩
    | false=>exact⟨_,hE b r h,by simp [execOp,hop,←this,asBool]⟩
   ·cases h
 | extract x i=>
   rw [hop] at h
   obtain⟨s,hs,h⟩:=fF h
   obtain⟨u,hu,hr⟩:=BQ (P:=P) h (hE x s hs) w
   exact⟨u,hu,by simp [execOp,hop,hr]⟩
 | nilCheck x=>
   rw [hop] at h
   obtain⟨s,hs,h⟩:=fF h
   exact qu hop h (hE x s hs) w
 | fieldAddr t x f=>
   rw [hop] at h
   obtain⟨s,hs,h⟩:=fF h
   obtain⟨u,hu,hr⟩:=pO h (hE x s hs) w
   exact⟨u,hu,by simp [execOp,hop,hr]⟩
 | indexAddr t x i=>
   rw [hop] at h
   obtain⟨n,hn,h⟩:=fF h
   obtain⟨s,hs,h⟩:=fF h
   obtain⟨k,hk⟩:=hE.nat hn
   obtain⟨u,hu,hr⟩:=pI (k:=k) hS h (hE x s hs)
   exact⟨u,hu,by simp [execOp,hop,hk,hr]⟩
 | load t x=>
   rw [hop] at h
   simp only at h
   split at h
   ·rename_i b off hx
    obtain⟨y,hy,hv⟩:=fI (hE x _ hx)
    obtain⟨u,hu,hr⟩:=tX hS h hy
    exact⟨u,hu,by simp [execOp,hop,hv,Instr.loadAt,Instr.sureAddr,hr]⟩
   ·cases h
 | field t x f=>
   rw [hop] at h
   simp only at h
   split at h
   ·rename_i l hx
    obtain⟨vs,hl,hv⟩:=Aa (hE x _ hx)
    obtain⟨u,hu,hr⟩:=xQ h hl w
    exact⟨u,hu,by simp [execOp,hop,hv,hr]⟩
   ·cases h
 | makeInterface t x=>
   rw [hop] at h
   obtain⟨s,hs,h⟩:=fF h
   obtain⟨u,hu,hr⟩:=xF h (hE x s hs) w
   exact⟨u,hu,by simp [execOp,hop,hr]⟩
 | makeFunc f a b=>
   rw [hop] at h
   obtain⟨s,hs,h⟩:=fF h
   simp only [Eb] at h
   obtain⟨s2,hs2,rfl⟩:=h
   have h1:=hE.list _ _ hs
   have h2:=hE.list _ _ hs2
   refine⟨.func f (a.map ev) (b.map ev),?_,by simp [execOp,hop,Instr.makeFunc]⟩
   simp only [SV.conc,h1,h2]
   congr 2 <;> (apply Array.ext';simp)
 | build t parts=>
   rw [hop] at h
   obtain⟨s,hs,h⟩:=fF h
   have h1:=hE.parts _ _ hs
   obtain⟨u,hu,hr⟩:=yn (qs:=parts.map fun x=>(x.1,ev x.2)) h (by simpa using h1) w
   exact⟨u,hu,by simp [execOp,hop,hr]⟩
 | lookup t m k ok=>
   rw [hop] at h
   obtain⟨kv,hk,h⟩:=fF h
   obtain⟨s,hs,h⟩:=fF h
   obtain⟨u,hu,hr⟩:=vi hS h (hE m s hs)
   exact⟨u,hu,by simp [execOp,hop,hE.lit hk,hr]⟩
 | slice t x lo hi mx=>
   rw [hop] at h
   obtain⟨s,hs,h⟩:=fF h
   obtain⟨u,hu,hr⟩:=wv hS hE h (hE x s hs)
   exact⟨u,hu,by simp [execOp,hop,hr]⟩
 | binOp op t x y yt=>
   rw [hop] at h
   obtain⟨a,ha,h⟩:=fF h
   obtain⟨b,hb,h⟩:=fF h
   exact vb hop h (hE x a ha) (hE y b hb) w
 | call c=>
   rw [hop] at h
   simp only [pE] at h
   obtain⟨callee,args,ts⟩:=c
   cases callee with
   | builtin b=>
     simp only at h
     cases b with
     | len=>
       simp only at h
       obtain⟨tl⟩:=ts
       obtain⟨al⟩:=args
       cases tl with
       | nil=>cases h
       | cons t tl=>
         simp only at h
         cases al with
         | nil=>cases h
         | cons x al=>
           cases al with
           | cons _ _=>cases h
           | nil=>
             obtain⟨s,hs,h⟩:=fF h
             obtain⟨u,hu,hr⟩:=B6 (ts:=⟨t :: tl⟩) (ty:=o.type) (by simp) hS h (hE x s hs)
             exact⟨u,hu,by simp [execOp,hop,resolve,invoke,Go.builtin,hr]⟩
     | _=>cases h
   | _=>cases h
 | convert s t x=>
   rw [hop] at h
   obtain⟨q,hq,h⟩:=fF h
   obtain⟨u,hu,hr⟩:=wm hS h (hE x q hq)
   exact⟨u,hu,by simp [execOp,hop,hr]⟩
 | entry it=>
   rw [hop] at h
   obtain⟨q,hq,h⟩:=fF h
   obtain⟨u,hu,hr⟩:=xT (P:=P) hS h (hE it q hq)
   exact⟨u,hu,by simp [execOp,hop,hr]⟩
 | _=>rw [hop] at h;cases h
end
end
section
variable {P:Program} {K:Zone} {w0 w:World} {e:Env} {H:aw} {nx:Nat} {T:Tr SV} {ev:Operand→Value}
section
variable {s:SV}{x:Ent}{v:Value}{t:TypeId}{l:List SV}{vs:List Value}
def ORun(P:Program)(e:Env)(a:ANx)(res:Result Next)(w:World):Prop:=
 match a with
 | .val s=> ∃ v,s.conc e=some v∧res = .ok (.value v) w
 | .skip=>res = .ok .skip w
 | .enter f args=> ∃ vs:Array Value,SV.aC e args=some vs.toList∧res = .ok (.enter f vs) w
 | .round l args=> ∃ x vs,e l=some x∧SV.aC e args=some vs∧res=(Instr.yield x.blk vs.toArray).run P w
 | .dfr d=> ∃ dd,DRel e d dd∧res = .ok (.defer dd) w
 | .recover=>res = .ok .recover w
def yF(P:Program)(K:Zone)(w0:World)(e:Env)(out:Out)(res:Result Next):Prop:=
 ∃ e' w',e.le e'∧St K w0 e' out.2.1 out.2.2 w'∧ORun P e' out.1 res w'
theorem oE{vo:VO}{o:Obj}{res:Result Next}(hS:St K w0 e H nx w)(hb:x.blk=w.heap.size)(hn:x.nil=false)(hro:vo.ro=false){w':World}(hos:w'.os=w.os)(htape:w'.tape=w.tape)(hout:w'.output=w.output)(hheap:w'.heap=w.heap.push o)
 (hr:ORel (e.put nx x) vo x o) (hv:s.conc (e.put nx x)=some v) (hres:res = .ok (.value v) w'):yF P K w0 e (.val s,H.set nx vo,nx+1) res:=
 ⟨e.put nx x,w',Env.dE (hS.fresh nx (Em _)),hS.new hb hn hro hos htape hout hheap hr,v,hv,hres⟩
theorem BT(n:Nat):NoFz (0,0) n:=⟨Em _,fun i _=>by simp⟩
theorem qM{e':Env}(h:SV.aC e' l=some vs)(h0:x.base=0):ORel e' (am t l) x (.cells vs.toArray t):=by
 refine⟨h0,vs.toArray,(0,0),rfl,by simp [cN h],BT _,fun i hi s hs=>?_⟩
 rw [kr] at hs
 obtain⟨v,hv,hg⟩:=ft h hs
 exact⟨v,hv,by simpa using hg⟩
theorem tU{res:Result Next}(hS:St K w0 e H nx w)(hl:SV.aC e l=some vs)
 (hv:s.conc (e.put nx ⟨w.heap.size,0,0,1,false⟩)=some v) (hres:res = .ok (.value v) {w with heap:=w.heap.push (.cells vs.toArray t)}):yF P K w0 e (.val s,H.set nx (am t l),nx+1) res:=
 oE (o:= .cells vs.toArray t) (x:=⟨w.heap.size,0,0,1,false⟩) (w':={w with heap:=w.heap.push (.cells vs.toArray t)}) hS rfl rfl rfl rfl rfl rfl rfl (qM (SV.bR (Env.dE (hS.fresh nx (Em _))) _ _ hl) rfl) hv hres
theorem si{vo vo':VO}{o:Obj}{i:Nat}(h:ORel e vo x o)(hc:vo.setCell i s=some vo')(hs:s.conc e=some v)(hw:w.heap[x.blk]? =some o) :
 ∃ o',(w.setCell ⟨x.blk,x.base+i,none⟩ v).heap[x.blk]? =some o'∧ORel e vo' x o'∧(∃ u,w.cell? ⟨x.blk,x.base+i,none⟩=some u)∧w.frozen? ⟨x.blk,x.base+i,none⟩=false∧v.oneCell'=true∧vo.ro=false∧vo'.ro=false:=by
 have blk: ∀ (cs:Array Value) (t:TypeId) (fz:Nat×Nat),o = .cells cs t fz→(w.setCell ⟨x.blk,x.base+i,none⟩ v).heap[x.blk]? =some (.cells (cs.setIfInBounds (x.base+i) v) t fz):=by
  intro cs t fz ho
  subst ho
  simp [World.setCell,Array.getElem?_modify,hw]
 cases vo with
 | cells n t c=>
   obtain⟨h0,cs,fz,rfl,h2,h3,h4⟩:=h
   simp only [VO.setCell] at hc
   cases hb:(Nat.blt i n && s.one)with
   | false=>rw [hb] at hc;cases hc
   | true=>
     rw [hb] at hc
     simp only [cond_true,D2] at hc
     subst hc
     rw [Ek] at hb
     have hi:=aN hb.1
     refine⟨_,blk _ _ _ rfl,⟨h0,_,fz,rfl,by simpa using h2,h3,fun j hj s' hs'=>?_⟩,⟨cs[i]'(by omega),?_⟩,?_,px hs hb.2,rfl,rfl⟩
     ·rcases bl hs' with ⟨rfl,rfl⟩|⟨hne,hs'⟩
      ·refine⟨v,hs,?_⟩
       rw [h0,EA,Array.getElem?_setIfInBounds_self_of_lt (by omega)]
      ·obtain⟨u,hu,hg⟩:=h4 j hj s' hs'
       exact⟨u,hu,by rw [h0,EA,Array.getElem?_setIfInBounds_ne (Ne.symm hne)];exact hg⟩
     ·simp only [World.cell?,hw,h0,EA];simp
     ·simp only [World.frozen?,hw,h0,EA];exact h3.2 i hi
 | row ro ne sz t c=>
   obtain⟨h1,cs,fz,tt,rfl,h2,h3,h4,h5,h6,h7⟩:=h
   cases ro with
   | true=>simp [VO.setCell] at hc
   | false=>
   simp only [VO.setCell] at hc
   have h5:=h5 rfl
   cases hb:(Nat.blt i (ne*sz) && s.one)with
   | false=>rw [hb] at hc;cases hc
   | true=>
     rw [hb] at hc
     simp only [cond_true,D2] at hc
     subst hc
     rw [Ek] at hb
     have hi:=aN hb.1
     have hle:ne*sz≤x.cap*sz:=Nat.mul_le_mul_right _ h2
     have hlt:x.base+i<cs.size:=by omega
     refine⟨_,blk _ _ _ rfl,⟨h1,_,fz,tt,rfl,h2,by simpa using h3,h4,fun _=>by simpa using h5,h6,fun j hj s' hs'=>?_⟩,⟨cs[x.base+i]'hlt,?_⟩,?_,px hs hb.2,rfl,rfl⟩
     ·rcases bl hs' with ⟨rfl,rfl⟩|⟨hne,hs'⟩
      ·exact⟨v,hs,by simp [hlt]⟩
      ·obtain⟨u,hu,hg⟩:=h7 j hj s' hs'
       exact⟨u,hu,by rw [Array.getElem?_setIfInBounds_ne (by omega)];exact hg⟩
     ·simp only [World.cell?,hw];simp [hlt]
     ·simp only [World.frozen?,hw];exact h5.2 _ hlt
 | _=>simp [VO.setCell] at hc
theorem j8{a:Addr}{u:Value}(hc:w.cell? a=some u)(hf:w.frozen? a=false)(h1:v.oneCell'=true):(store a v).run P w = .ok () (w.setCell a v):=by
 rw [run_store P w a v .plain h1,hc]
 simp [hf]
theorem ju{x:Ent}: ∀ (l:List SV) (vs:List Value) (vo vo':VO) (off i:Nat) (w:World) (o:Obj),vo.setCells (off+i) l=some vo'→SV.aC e l=some vs→ORel e vo x o→w.heap[x.blk]? =some o →
 ∃ w' o',(storeCells ⟨x.blk,x.base+off,none⟩ vs i).run P w = .ok () w'∧Turned w w' x.blk∧w'.heap[x.blk]? =some o'∧ORel e vo' x o'∧(vo'=vo∧w'=w∨vo.ro=false∧vo'.ro=false)
 | [],vs,vo,vo',off,i,w,o,h,hc,ho,hw=>by
   simp only [SV.aC,D2] at hc
   subst hc
   simp only [VO.setCells,D2] at h
   subst h
   exact⟨w,o,rfl,Turned.refl _ _,hw,ho,.inl ⟨rfl,rfl⟩⟩
 | s :: l,vs,vo,vo',off,i,w,o,h,hc,ho,hw=>by
   obtain⟨v,us,rfl,hv,hl⟩:=b9 hc
   simp only [VO.setCells] at h
   cases h1:vo.setCell (off+i) s with
   | none=>rw [h1] at h;cases h
   | some vo1=>
     rw [h1] at h
     simp only at h
     obtain⟨o1,g1,g2,⟨u,g3⟩,g4,g5,g6,g7⟩:=si ho h1 hv hw
     obtain⟨w',o',k1,k2,k3,k4,k5⟩:=ju l us vo1 vo' off (i+1) _ o1 h hl g2 g1
     refine⟨w',o',?_,(Turned.setCell w _ v).trans k2,k3,k4,.inr ⟨g6,?_⟩⟩
     rotate_left
     ·rcases k5 with ⟨rfl,_⟩|⟨_,k5⟩
      ·exact g7
      ·exact k5
     have ha:(⟨x.blk,x.base+off,none⟩:Addr).add i=⟨x.blk,x.base+(off+i),none⟩:=by rw [dt];simp [Nat.add_assoc]
     simp only [storeCells,Sem.run_bind,ha,j8 g3 g4 g5,Result.andThen]
     exact k1
theorem j5{b o:Nat}{H':aw}(hS:St K w0 e H nx w)(h:eT H b o l=some H')(hx:e b=some x)(hl:SV.aC e l=some vs) :
 ∃ w',(storeCells ⟨x.blk,x.base+o,none⟩ vs).run P w = .ok () w'∧St K w0 e H' nx w':=by
 unfold eT at h
 cases hb:H.at' b with
 | none=>rw [hb] at h;cases h
 | some vo=>
   rw [hb] at h
   simp only at h
   cases hc:vo.setCells o l with
   | none=>rw [hc] at h;cases h
   | some vo'=>
     rw [hc] at h
     simp only [D2] at h
     subst h
     rcases hS.lies hb hx with ⟨hn,ob,_,hw,ho⟩|⟨_,_,ro,t,c,rfl,_⟩
     ·obtain⟨w',o',k1,k2,k3,k4,k5⟩:=ju (P:=P) l vs vo vo' o 0 w ob hc hl ho hw
      rcases k5 with ⟨rfl,rfl⟩|⟨k5,k6⟩
      ·refine⟨w',k1,hS.sub fun id vo hv=>?_⟩
       rcases bl hv with ⟨rfl,rfl⟩|⟨_,hv⟩
       ·exact hb
       ·exact hv
      ·exact⟨w',k1,hS.upd hb hx hn k5 k6 k2 k3 k4⟩
     ·cases l with
      | nil=>
        simp only [VO.setCells,D2] at hc
        subst hc
        simp only [SV.aC,D2] at hl
        subst hl
        refine⟨w,rfl,hS.sub fun id vo hv=>?_⟩
        rcases bl hv with ⟨rfl,rfl⟩|⟨_,hv⟩
        ·exact hb
        ·exact hv
      | cons y l=>
        cases ro with
        | true=>simp [VO.setCells,VO.setCell] at hc
        | false=>
          simp only [VO.setCells,VO.setCell,Nat.zero_mul] at hc
          cases hq:Nat.blt o 0 with
          | true=>have:=aN hq;omega
          | false=>rw [hq] at hc;simp at hc
theorem jw{k:Nat}{t:TypeId}{fz:Nat×Nat}: ∀ (vs:List Value) (off i:Nat) (cs:Array Value) (w:World),w.heap[k]? =some (.cells cs t fz)→off+i+vs.length≤cs.size→NoFz fz cs.size→(∀ u∈vs,u.oneCell'=true) →
 ∃ w' cs',(storeCells ⟨k,off,none⟩ vs i).run P w = .ok () w'∧Turned w w' k∧w'.heap[k]? =some (.cells cs' t fz)∧cs'.size=cs.size ∧
  (∀ j,j<off+i→cs'[j]? =cs[j]?)∧ ∀ j u,vs[j]? =some u→cs'[off+i+j]? =some u
 | [],off,i,cs,w,hw,_,_,_=>⟨w,cs,rfl,Turned.refl _ _,hw,rfl,fun _ _=>rfl,by simp⟩
 | v :: vs,off,i,cs,w,hw,hl,hf,h1=>by
   simp only [Ep] at hl
   have hlt:off+i<cs.size:=by omega
   have hw1:(w.setCell ⟨k,off+i,none⟩ v).heap[k]? =some (.cells (cs.setIfInBounds (off+i) v) t fz):=by simp [World.setCell,Array.getElem?_modify,hw]
   obtain⟨w',cs',k1,k2,k3,k4,k5,k6⟩:=jw vs off (i+1) (cs.setIfInBounds (off+i) v) _ hw1 (by simp;omega) (by simpa using hf) (fun u hu=>h1 u (EH _ hu))
   refine⟨w',cs',?_,(Turned.setCell w _ v).trans k2,k3,by simpa using k4,fun j hj=>?_,fun j u hu=>?_⟩
   ·have hc:w.cell? ⟨k,off+i,none⟩=some cs[off+i]:=by simp only [World.cell?,hw];simp [hlt]
    have hfz:w.frozen? ⟨k,off+i,none⟩=false:=by simp only [World.frozen?,hw];exact hf.2 _ hlt
    simp only [storeCells,Sem.run_bind,dt,j8 hc hfz (h1 v (EG ..)),Result.andThen]
    exact k1
   ·rw [k5 j (by omega),Array.getElem?_setIfInBounds_ne (by omega)]
   ·cases j with
    | zero=>
      simp only [Ej,D2] at hu
      subst hu
      rw [Nat.add_zero,k5 (off+i) (by omega)]
      simp [hlt]
    | succ j=>
      have:=k6 j u (by simpa using hu)
      rw [show off+i+(j+1)=off+(i+1)+j by omega]
      exact this
theorem rS: ∀ {l:List SV} {vs:List Value},cq l=true→SV.aC e l=some vs→ ∀ u∈vs,u.oneCell'=true
 | [],vs,_,hc,u,hu=>by simp only [SV.aC,D2] at hc;subst hc;cases hu
 | s :: l,vs,h,hc,u,hu=>by
   obtain⟨v,ws,rfl,hv,hl⟩:=b9 hc
   simp only [cq,Ek] at h
   rcases EN.1 hu with rfl|hu
   ·exact px hv h.1
   ·exact rS h.2 hl u hu
theorem vz{n:Nat}(h:fX P t n=true): ∃ i,P.info? t=some i∧n*i.bytes≤140737488355328∧n≤1000000000:=by
 unfold fX at h
 cases hi:P.info? t with
 | none=>rw [hi] at h;cases h
 | some i=>
   rw [hi] at h
   rw [Ek] at h
   exact⟨i,rfl,bK h.1,bK h.2⟩
theorem St.drew'(hS:St K w0 e H nx w):St K w0 e H nx w.drew:=by
 obtain⟨h1,h2,h3,h4⟩:=hS
 exact⟨⟨h1.os,h1.tape,h1.output,h1.size,h1.old,h1.block⟩,h2,h3,h4⟩
theorem C9{sz m:Nat}{tx:TypeId}{x:SV}{news:List SV}(hk:(∃ e',P.underlying tx=some (.slice e'))∨P.underlying tx=some .string)(hS:St K w0 e H nx w)
 (h:aJ H sz x=some (m,news)) (hv:x.conc e=some v) (h1:cq news=true) (hvs:SV.aC e news=some vs):Src P sz tx v m vs w:=by
 obtain⟨us,g1,g2,g3,g4⟩:=dH (P:=P) hS h hv
 rw [hvs] at g1
 simp only [D2] at g1
 subst g1
 obtain⟨us',q1,_,_,q4⟩:=dH (P:=P) hS.drew' h hv
 rw [hvs] at q1
 simp only [D2] at q1
 subst q1
 have ht:vs.take (m*sz)=vs:=Ed (by omega)
 have g5:=g4 m (Em _)
 have q5:=q4 m (Em _)
 rw [ht] at g5 q5
 refine⟨hk,fun w'=>?_,g5,q5,g2,rS h1 hvs⟩
 cases v <;> simp_all [Builtin.lenOf]
theorem Bs{el:TypeId}{sz m cap:Nat}{e':Env}{zs:Array Value}(hl:SV.aC e' l=some vs)(hlen:vs.length=m*sz)(hcap:m≤cap)(hmax:cap≤maxLen)(hz:zs.size=(cap-m)*sz)(hsz:0<sz)(k:Nat) :
 ORel e' (.row false m sz el (fw l)) ⟨k,0,cap,sz,false⟩ (.cells (vs.toArray ++ zs) el):=by
 have hmul:cap*sz=m*sz+(cap-m)*sz:=by rw [← Nat.add_mul];congr 1;omega
 refine⟨rfl,vs.toArray ++ zs,(0,0),el,rfl,hcap,by simp [hlen,hz];omega,hmax,fun _=>BT _,hsz,fun i hi s hs=>?_⟩
 rw [kr] at hs
 obtain⟨v,hv,hg⟩:=ft hl hs
 refine⟨v,hv,?_⟩
 have hil:i<vs.toArray.size:=by simp;omega
 simp only [EA]
 rw [Array.getElem?_append_left hil]
 simpa using hg
theorem oD{tx ty el:TypeId}{x:SV}{vs vx:Value}{out:Out}(ht:P.underlying t=some (.slice el))(hk:(∃ e',P.underlying tx=some (.slice e'))∨P.underlying tx=some .string)(hS:St K w0 e H nx w)
 (h:dD P H nx el s x=some out) (hs:s.conc e=some vs) (hx:x.conc e=some vx) :
 ∃ e' w' r v,out.1 = .val r∧e.le e'∧St K w0 e' out.2.1 out.2.2 w'∧r.conc e'=some v∧(Builtin.append_ #[t,tx] ty #[vs,vx]).run P w = .ok v w':=by
 unfold dD at h
 split at h
 ·cases h
 ·cases h
 rename_i sz hsz0 hsz
 have hpos:0<sz:=by
  rcases Nat.eq_zero_or_pos sz with h0|h0
  ·subst h0;exact absurd rfl hsz0
  ·exact h0
 cases hc:aJ H sz x with
 | none=>rw [hc] at h;cases h
 | some q=>
   obtain⟨m,news⟩:=q
   rw [hc] at h
   simp only at h
   cases hone:cq news with
   | false=>rw [hone] at h;cases h
   | true=>
     rw [hone] at h
     simp only [Bool.not_true,cond_false] at h
     obtain⟨us,hus,hul,_,_⟩:=dH (P:=P) hS hc hx
     have hsrc:=C9 (P:=P) hk hS hc hx hone hus
     obtain⟨i,hi,hisz⟩: ∃ i,P.info? el=some i∧i.size=sz:=by
      unfold bw at hsz
      cases hi:P.info? el with
      | none=>rw [hi] at hsz;cases hsz
      | some i=>rw [hi] at hsz;simp only [Et,D2] at hsz;exact⟨i,rfl,hsz⟩
     have hzero:fy P el sz=true→ ∃ z,i.zero=some z∧z.cells.size=sz:=by
      intro hz
      unfold fy dY at hz
      rw [hi] at hz
      simp only [Eu] at hz
      cases hzz:i.zero with
      | none=>rw [hzz] at hz;cases hz
      | some z=>rw [hzz] at hz;exact⟨z,rfl,ba hz⟩
     have grow: ∀ (n cap:Nat) (base:Option Addr) (olds:List SV) (ws:List Value) (H0:aw),vs = .slice base n cap→cap<n+m→fX P el (n+m)=true→fy P el sz=true→SV.aC e olds=some ws→ws.length=n*sz →
      (Builtin.firstCells sz n vs).run P w.drew = .ok ws.toArray w.drew→(∀ id vo,H0.at' id=some vo→H.at' id=some vo)→out=(.val (.slu nx 0 (n+m)),H0.set nx (.row false (n+m) sz el (fw (olds ++ news))),nx+1) →
      ∃ e' w' r v,out.1 = .val r∧e.le e'∧St K w0 e' out.2.1 out.2.2 w'∧r.conc e'=some v∧(Builtin.append_ #[t,tx] ty #[vs,vx]).run P w = .ok v w':=by
      intro n cap base olds ws H0 hvs hlt hby hze hol hwl hfc hsub hout
      subst hvs hout
      obtain⟨i',hi',hb1,hb2⟩:=vz hby
      rw [hi] at hi'
      simp only [D2] at hi'
      subst hi'
      obtain⟨z,hz,hzs⟩:=hzero hze
      have hmx:n+m≤maxLen:=by unfold maxLen;omega
      have hrun:=run_append_grow_src w t tx ty el i z ht hi hz base n cap ws (by rw [hisz];exact hfc) vx m us (by rw [hisz];exact hsrc) hlt (by omega) (growslice_fits hlt hb1)
      have hge:=grownCap_ge w (n+m) cap el
      have hle:=grownCap_le_maxLen w (n+m) cap el hmx
      generalize grownCap w (n+m) cap el=gc at hrun hge hle
      have hf:=hS.fresh nx (Em _)
      have hle':=Env.dE (x:=⟨w.heap.size,0,gc,sz,false⟩) hf
      refine⟨e.put nx ⟨w.heap.size,0,gc,sz,false⟩,_,.slu nx 0 (n+m),.slice (some ⟨w.heap.size,0,none⟩) (n+m) gc,rfl,hle',?_,?_,hrun⟩
      ·refine((hS.drew').sub hsub).new (x:=⟨w.heap.size,0,gc,sz,false⟩) (o:= .cells ((ws ++ us).toArray ++ Builtin.zeroCells z.cells (gc-(n+m))) el) rfl rfl rfl rfl rfl rfl rfl ?_
       refine Bs (SV.bR hle' _ _ (ck hol hus)) ?_ hge hle ?_ hpos _
       ·rw [Er,hwl,hul,Nat.add_mul]
       ·rw [size_zeroCells,hzs]
      ·simp [SV.conc,Env.bL,Ent.at]
     have oldCells: ∀ (n:Nat) (olds:List SV),aJ H sz s=some (n,olds)→(∃ base c,vs = .slice base n c)→ ∃ ws,SV.aC e olds=some ws∧ws.length=n*sz∧(Builtin.firstCells sz n vs).run P w.drew = .ok ws.toArray w.drew:=by
      intro n olds hco hsl
      obtain⟨ws,g1,g2,_,g4⟩:=dH (P:=P) hS.drew' hco hs
      have:=g4 n (Em _)
      rw [Ed (by omega)] at this
      exact⟨ws,g1,g2,this⟩
     cases s with
     | sc c=>
       simp only [SV.conc,D2] at hs
       subst hs
       split at h
       ·rename_i heq
        simp only [SV.sc.injEq] at heq
        subst heq
        cases hm:Nat.beq m 0 with
        | true=>
          rw [hm] at h
          simp only [cond_true,D2] at h
          subst h
          have hm0:=ba hm
          subst hm0
          refine⟨e,w,_,_,rfl,E9 e,hS,rfl,?_⟩
          rcases hk with ⟨e',hk⟩|hk <;> simp [Builtin.append_,run_underlying ht,run_underlying hk,sizeOf,typeInfo,hi,hsrc.len,hisz,hsrc.cells]
        | false=>
          rw [hm] at h
          simp only [cond_false] at h
          cases hby:(fX P el m && fy P el sz)with
          | false=>rw [hby] at h;cases h
          | true=>
            rw [hby] at h
            simp only [cond_true,D2] at h
            rw [Ek] at hby
            have hm0:m≠0:=by rintro rfl;cases hm
            refine grow 0 0 none [] [] H rfl (by omega) (by simpa using hby.1) hby.2 rfl (by simp) (by simp [Builtin.firstCells]) (fun _ _ h=>h) ?_
            rw [← h]
            simp
       ·rename_i heq;cases heq
       ·rename_i heq;cases heq
       ·cases h
     | sl b o n cap=>
       obtain⟨y,hy,hvs⟩:=hY hs
       simp only at h
       cases hfit:Nat.ble (n+m) cap with
       | true=>
         rw [hfit] at h
         simp only [cond_true] at h
         have hroom:=bK hfit
         have hst: ∃ H',eT H b (o+n*sz) news=some H'∧out=(.val (.sl b o (n+m) cap),H',nx):=by
          unfold eT
          cases hb:H.at' b with
          | none=>rw [hb] at h;cases h
          | some vo=>
            rw [hb] at h
            simp only at h ⊢
            cases hc2:vo.setCells (o+n*sz) news with
            | none=>rw [hc2] at h;cases h
            | some vo'=>rw [hc2] at h;simp only [D2] at h;exact⟨_,rfl,h.symm⟩
         obtain⟨H',hst,rfl⟩:=hst
         obtain⟨w',k1,k2⟩:=j5 (P:=P) hS hst hy hus
         refine⟨e,w',.sl b o (n+m) cap,.slice (some ⟨y.blk,y.base+o,none⟩) (n+m) cap,rfl,E9 e,k2,by simp [SV.conc,hy],?_⟩
         subst hvs
         have k1':(storeCells ⟨y.blk,y.base+o+n*sz,none⟩ us).run P w = .ok () w':=by rw [Nat.add_assoc];exact k1
         rcases hk with ⟨e',hk⟩|hk <;> simp [Builtin.append_,run_underlying ht,run_underlying hk,sizeOf,typeInfo,hi,hsrc.len,hisz,hsrc.cells,hroom,dt,k1']
       | false=>
         rw [hfit] at h
         simp only [cond_false] at h
         have hlt:cap<n+m:=by
          rcases EB cap (n+m)with h'|h'
          ·exact h'
          ·have:=D9 h';rw [this] at hfit;cases hfit
         cases hby:(fX P el (n+m) && fy P el sz)with
         | false=>rw [hby] at h;cases h
         | true=>
           rw [hby] at h
           simp only [cond_true] at h
           rw [Ek] at hby
           cases hco:aJ H sz (.sl b o n cap)with
           | none=>rw [hco] at h;cases h
           | some q=>
             obtain⟨n',olds⟩:=q
             rw [hco] at h
             simp only [D2] at h
             have hnn:n'=n:=by
              simp only [aJ] at hco
              cases hb:H.at' b with
              | none=>rw [hb] at hco;cases hco
              | some vo=>rw [hb] at hco;simp only [Eb,Ea] at hco;obtain⟨_,_,h1,_⟩:=hco;exact h1.symm
             subst hnn
             obtain⟨ws,g1,g2,g3⟩:=oldCells n' olds hco ⟨_,_,hvs⟩
             exact grow n' cap _ olds ws H hvs hlt hby.1 hby.2 g1 g2 g3 (fun _ _ h=>h) h.symm
     | slu b eo n=>
       obtain⟨y,hy,hvs⟩:=gm hs
       simp only at h
       cases hb:H.at' b with
       | none=>rw [hb] at h;cases h
       | some vo=>
         rw [hb] at h
         cases vo with
         | row ro ne sz' t' c=>
           simp only at h
           cases hm:Nat.beq m 0 with
           | true=>
             rw [hm] at h
             simp only [cond_true] at h
             cases hq:Nat.ble (eo+n) ne with
             | false=>rw [hq] at h;cases h
             | true=>
               rw [hq] at h
               simp only [cond_true,D2] at h
               subst h
               have hm0:=ba hm
               subst hm0
               obtain⟨_,_,_,hne⟩:=(hS.lies hb hy).row
               have hq':=bK hq
               have hroom:n≤y.cap-eo:=by omega
               have hnil:y.at eo=none→n=0∧y.cap-eo=0:=by
                intro h0
                rcases hS.lies hb hy with ⟨h1,_⟩|⟨_,h1,_,_,_,h2,_⟩
                ·rw [Ent.eQ h1] at h0;cases h0
                ·injection h2 with h3 h2
                 omega
               refine⟨e,w,_,_,rfl,E9 e,hS,hs,?_⟩
               have h0:us= []:=by cases us with|nil=>rfl|cons _ _=>simp at hul
               subst h0
               rw [hvs]
               generalize hya:y.at eo=ya at hnil
               cases ya with
               | none=>
                 obtain⟨hn0,hc0⟩:=hnil rfl
                 rw [hn0,hc0]
                 rcases hk with ⟨e',hk⟩|hk <;> simp [Builtin.append_,run_underlying ht,run_underlying hk,sizeOf,typeInfo,hi,hsrc.len,hisz,hsrc.cells]
               | some ya=>
                 rcases hk with ⟨e',hk⟩|hk <;> simp [Builtin.append_,run_underlying ht,run_underlying hk,sizeOf,typeInfo,hi,hsrc.len,hisz,hsrc.cells,hroom,storeCells]
           | false=>
             rw [hm] at h
             simp only [cond_false] at h
             cases hq:(!ro && Nat.beq sz sz' && Nat.beq t' el && Nat.beq (eo+n) ne && fX P el (n+m) && fy P el sz)with
             | false=>rw [hq] at h;cases h
             | true=>
               rw [hq] at h
               simp only [cond_true] at h
               simp only [Ek] at hq
               obtain⟨⟨⟨⟨⟨q0,q1⟩,q2⟩,q4⟩,q5⟩,q6⟩:=hq
               have q0:ro=false:=by simpa using q0
               have q1:=ba q1
               have q2:=ba q2
               have q4:=ba q4
               subst q0 q1 q2 q4
               cases hco:aJ H sz (.slu b eo n)with
               | none=>rw [hco] at h;cases h
               | some q=>
                 obtain⟨n',olds⟩:=q
                 rw [hco] at h
                 simp only [D2] at h
                 have hcf:n'=n∧(VO.row false (eo+n) sz t' c).cellsFrom (eo*sz) (n*sz)=some olds:=by
                  simp only [aJ,hb] at hco
                  rw [show(Nat.beq sz sz && Nat.ble (eo+n) (eo+n))=true from by simp] at hco
                  simp only [cond_true,Eb,Ea] at hco
                  obtain⟨l',h1,h2,h3⟩:=hco
                  subst h3
                  exact⟨h2.symm,h1⟩
                 obtain⟨hnn,hcf⟩:=hcf
                 subst hnn
                 have hm0:m≠0:=by rintro rfl;cases hm
                 obtain⟨ws,g1,g2,g3⟩:=(hS.lies hb hy).cellsFrom _ _ _ hcf
                 by_cases hfit:n'+m≤y.cap-eo
                 ·have hyn:y.nil=false:=by
                   rcases hS.lies hb hy with ⟨h1,_⟩|⟨_,h1,_⟩
                   ·exact h1
                   ·omega
                  obtain⟨_,ob,_,hw,ho⟩:y.nil=false∧ ∃ o,¬ K y.blk∧w.heap[y.blk]? =some o∧ORel e (.row false (eo+n') sz t' c) y o:=by
                   rcases hS.lies hb hy with ⟨h1,o,h2,h3⟩|⟨h1,_⟩
                   ·exact⟨h1,o,h2.2 rfl,h3⟩
                   ·rw [hyn] at h1;cases h1
                  obtain⟨hsz0,cs,fz,tt,rfl,hne,hcap,hmax,hfz,hp',hrd⟩:=ho
                  have hfz:=hfz rfl
                  have hmul:y.cap*sz=eo*sz+(n'*sz+m*sz)+(y.cap-eo-(n'+m))*sz:=by
                   rw [← Nat.add_mul,←Nat.add_mul,←Nat.add_mul];congr 1;omega
                  obtain⟨w',cs',k1,k2,k3,k4,k5,k6⟩:=jw (P:=P) us (y.base+eo*sz+n'*sz) 0 cs w hw (by omega) hfz hsrc.one
                  have hf:=hS.fresh nx (Em _)
                  have hle':=Env.dE (x:=⟨y.blk,y.base+eo*sz,y.cap-eo,sz,false⟩) hf
                  subst h
                  refine⟨e.put nx ⟨y.blk,y.base+eo*sz,y.cap-eo,sz,false⟩,w',.slu nx 0 (n'+m),.slice (some ⟨y.blk,y.base+eo*sz,none⟩) (n'+m) (y.cap-eo),rfl,hle',?_,by simp [SV.conc,Env.bL,Ent.at],?_⟩
                  ·refine hS.move (y:=⟨y.blk,y.base+eo*sz,y.cap-eo,sz,false⟩) hb hy hyn rfl rfl (fun h=>by cases h) rfl k2 k3 ?_
                   have hmul2:y.cap*sz=eo*sz+(y.cap-eo)*sz:=by rw [← Nat.add_mul];congr 1;omega
                   refine⟨rfl,cs',fz,tt,rfl,hfit,by rw [k4];simp only;omega,by simp only;omega,fun _=>by rw [k4];exact hfz,hpos,fun i hi' s' hs'=>?_⟩
                   rw [kr] at hs'
                   obtain⟨v,hv,hg⟩:=ft (SV.bR hle' _ _ (ck g1 hus)) hs'
                   refine⟨v,hv,?_⟩
                   by_cases hin:i<n'*sz
                   ·rw [Ei (by omega)] at hg
                    have:=g3 i v hg
                    simp only [World.cell?,hw] at this
                    rw [k5 _ (by simp only;omega)]
                    simpa using this
                   ·rw [EI (by omega)] at hg
                    have:=k6 (i-n'*sz) v (by rw [← g2];exact hg)
                    rw [show y.base+eo*sz+n'*sz+0+(i-n'*sz)=y.base+eo*sz+i by omega] at this
                    exact this
                  ·rw [hvs,Ent.eQ hyn,hsz0]
                   rcases hk with ⟨e',hk⟩|hk <;> simp [Builtin.append_,run_underlying ht,run_underlying hk,sizeOf,typeInfo,hi,hsrc.len,hisz,hsrc.cells,hfit,dt,k1]
                 ·have hfc:(Builtin.firstCells sz n' vs).run P w.drew = .ok ws.toArray w.drew:=by
                   obtain⟨ws',a1,a2,a3⟩:=oldCells n' olds hco ⟨_,_,hvs⟩
                   rw [g1] at a1
                   simp only [D2] at a1
                   subst a1
                   exact a3
                  exact grow n' (y.cap-eo) _ olds ws (H.del b) hvs (by omega) q5 q6 g1 g2 hfc (fun id vo hd=>(lG hd).2) h.symm
         | _=>cases h
     | _=>cases h
end
end
section
variable {P:Program} {K:Zone} {w0 w:World} {e:Env} {H:aw} {nx:Nat} {T:Tr SV} {ev:Operand→Value}
section
variable {out:Out}{v:Value}{t:TypeId}
def nT(P:Program)(K:Zone)(w0:World)(e:Env)(out:Out)(s:Sem Value)(w:World):Prop:=
 ∃ e' w' r v,out.1 = .val r∧e.le e'∧St K w0 e' out.2.1 out.2.2 w'∧r.conc e'=some v∧s.run P w = .ok v w'
def D1(P:Program)(K:Zone)(w0:World)(e:Env)(out:Out)(s:Sem Unit)(w:World):Prop:=
 ∃ e' w',out.1 = .skip∧e.le e'∧St K w0 e' out.2.1 out.2.2 w'∧s.run P w = .ok () w'
theorem cW(k:Nat)(o:Obj):Turned w {w with heap:=w.heap.setIfInBounds k o} k:=
 ⟨rfl,rfl,rfl,by simp,fun j _ hj=>by simp [Array.getElem?_setIfInBounds_ne (Ne.symm hj)]⟩
theorem cX{k:Nat}{o o':Obj}(h:w.heap[k]? =some o):(w.heap.setIfInBounds k o')[k]? =some o':=by
 have:=fL h
 simp [this]
theorem MRel.append: ∀ {l:List (Value×SV×Nat)} {ms:List MapEntry},MRel e l ms→ ∀ {k:Value} {s:SV} {b:Nat} {v:Value},s.conc e=some v→MRel e (l ++ [(k,s,b)]) (ms ++ [{key:=k,val:=v,born:=b}])
 | [],[],_,k,s,b,v,hs=>⟨rfl,rfl,hs,trivial⟩
 | (_,_,_) :: l,m :: ms,h,k,s,b,v,hs=>⟨h.1,h.2.1,h.2.2.1,MRel.append h.2.2.2 hs⟩
 | [],_ :: _,h,_,_,_,_,_=>h.elim
 | (_,_,_) :: _,[],h,_,_,_,_,_=>by simp [MRel] at h
theorem MRel.set: ∀ {l:List (Value×SV×Nat)} {ms:List MapEntry},MRel e l ms→ ∀ (i:Nat) {k k':Value} {s s':SV} {b:Nat} {v:Value},l[i]? =some (k',s',b)→s.conc e=some v→MRel e (l.set i (k,s,b)) (ms.modify i fun m=>{m with key:=k,val:=v})
 | [],[],_,i,k,k',s,s',b,v,hg,hs=>by simp at hg
 | (_,_,_) :: l,m :: ms,h,0,k,k',s,s',b,v,hg,hs=>by
   simp only [Ej,D2,Ea] at hg
   obtain⟨rfl,rfl,rfl⟩:=hg
   exact⟨rfl,h.2.1,hs,h.2.2.2⟩
 | (_,_,_) :: l,m :: ms,h,i+1,k,k',s,s',b,v,hg,hs=>⟨h.1,h.2.1,h.2.2.1,MRel.set h.2.2.2 i (by simpa using hg) hs⟩
 | [],_ :: _,h,_,_,_,_,_,_,_,_,_=>h.elim
 | (_,_,_) :: _,[],h,_,_,_,_,_,_,_,_,_=>by simp [MRel] at h
theorem qP{k:Value}{s m:SV}{vm:Value}(hS:St K w0 e H nx w)(h:qQ P H nx t k s m=some out)(hs:s.conc e=some v)(hm:m.conc e=some vm):D1 P K w0 e out (Instr.mapUpdate t vm k v) w:=by
 cases m with
 | mp b=>
   obtain⟨x,hx,rfl⟩:=lB hm
   simp only [qQ] at h
   cases hu:P.underlying t with
   | none=>rw [hu] at h;cases h
   | some d=>
     rw [hu] at h
     cases d with
     | map kt el=>
       simp only at h
       cases hb:H.at' b with
       | none=>rw [hb] at h;cases h
       | some vo=>
         rw [hb] at h
         cases vo with
         | map l clock=>
           simp only at h
           cases hp:putK P kt k s l clock with
           | none=>rw [hp] at h;cases h
           | some q=>
             obtain⟨l',clock'⟩:=q
             rw [hp] at h
             simp only [D2] at h
             subst h
             obtain⟨hxn,o,_,hw,ho⟩:=hS.at hb hx (by simp)
             obtain⟨es,rfl,hmr⟩:=ho
             have hg:=Go.MapKept.run_getObj_map (P:=P) hw
             unfold putK at hp
             cases hc:bu P (Instr.checkKey false 10000 kt k)with
             | none=>rw [hc] at hp;cases hp
             | some u=>
               rw [hc] at hp
               have hc':=cZ _ _ hc w
               simp only at hp
               cases hf:pN P kt k l with
               | none=>rw [hf] at hp;cases hp
               | some q=>
                 obtain⟨_,r',hr,hq,hget⟩:=pM hf hmr w
                 rw [hf] at hp
                 cases q with
                 | none=>
                   simp only [D2,Ea] at hp
                   obtain⟨rfl,rfl⟩:=hp
                   have:r'=none:=by cases r' with|none=>rfl|some x=>simp at hq
                   subst this
                   refine⟨e,_,rfl,E9 e,hS.upd (o':= .map (es.push {key:=k,val:=v,born:=clock}) (clock+1)) hb hx hxn rfl rfl (cW x.blk _) (cX hw) ⟨_,rfl,by simpa using hmr.append hs⟩,?_⟩
                   simp [Instr.mapUpdate,run_underlying hu,hg,hc',hr,Go.MapKept.run_setObj_map _ hw]
                 | some i=>
                   simp only at hp
                   cases r' with
                   | none=>simp at hq
                   | some jv=>
                     obtain⟨j,u'⟩:=jv
                     simp only [Et,D2] at hq
                     subst hq
                     cases hl:l[i]? with
                     | none=>rw [hl] at hp;cases hp
                     | some y=>
                       obtain⟨k',s',b'⟩:=y
                       rw [hl] at hp
                       simp only at hp
                       cases hsb:Instr.sameBits 10000 k' k with
                       | false=>rw [hsb] at hp;cases hp
                       | true=>
                         rw [hsb] at hp
                         simp only [cond_true,D2,Ea] at hp
                         obtain⟨rfl,rfl⟩:=hp
                         obtain⟨m,g1,g2,_,_⟩:=hmr.get hl
                         have g1':es[i]? =some m:=by simpa using g1
                         refine⟨e,_,rfl,E9 e,hS.upd (o':= .map (es.modify i fun e=>{e with key:=k,val:=v}) clock) hb hx hxn rfl rfl (cW x.blk _) (cX hw) ⟨_,rfl,by rw [Array.toList_modify];exact hmr.set i hl hs⟩,?_⟩
                         simp [Instr.mapUpdate,run_underlying hu,hg,hc',hr,g1',g2,Instr.keyThatStays,hsb,Go.MapKept.run_setObj_map _ hw]
         | _=>cases h
     | _=>cases h
 | _=>simp [qQ] at h
theorem r7(z:Value)(n:Nat):SV.aC e (qc z n)=some (Builtin.zeroCells z.cells n).toList:=fg _
theorem ym{ty:TypeId}{ts:Array TypeId}{s:SV}(hts:ts[0]? =some t)(hS:St K w0 e H nx w)(h:nm P H nx t s=some out)(hv:s.conc e=some v):nT P K w0 e out (Builtin.clear_ ts ty #[v]) w:=by
 have rows: ∀ (b o n c:Nat) (x:Ent),e b=some x→v = .slice (some ⟨x.blk,x.base+o,none⟩) (n+1) c→(match P.underlying t with
  | some (.slice el)=>match dY P el with
    | some z=>match eT H b o (qc z (n+1))with
      | some H'=>some ((.val (.sc (.tuple #[])),H',nx):Out)
      | none=>none
    | none=>none
  | _=>none)=some out→nT P K w0 e out (Builtin.clear_ ts ty #[v]) w:=by
  intro b o n c x hx hv h
  cases hu:P.underlying t with
  | none=>rw [hu] at h;cases h
  | some d=>
    rw [hu] at h
    cases d with
    | slice el=>
      simp only at h
      cases hz:dY P el with
      | none=>rw [hz] at h;cases h
      | some z=>
        rw [hz] at h
        simp only at h
        cases hst:eT H b o (qc z (n+1))with
        | none=>rw [hst] at h;cases h
        | some H'=>
          rw [hst] at h
          simp only [D2] at h
          subst h
          obtain⟨w',k1,k2⟩:=j5 (P:=P) hS hst hx (r7 z (n+1))
          refine⟨e,w',_,.tuple #[],rfl,E9 e,k2,rfl,?_⟩
          subst hv
          simp [Builtin.clear_,hts,run_underlying hu,iA hz,k1]
    | _=>cases h
 cases s with
 | sl b o n c=>
   obtain⟨x,hx,hv'⟩:=hY hv
   cases n with
   | zero=>simp [nm] at h
   | succ n=>exact rows b o n c x hx hv' h
 | slu b eo n=>
   obtain⟨x,hx,hv'⟩:=gm hv
   cases n with
   | zero=>simp [nm] at h
   | succ n=>
     simp only [nm] at h
     cases hu:P.underlying t with
     | none=>rw [hu] at h;cases h
     | some d=>
       rw [hu] at h
       cases d with
       | slice el=>
         simp only at h
         cases hz:dY P el with
         | none=>rw [hz] at h;cases h
         | some z=>
           rw [hz] at h
           simp only at h
           split at h
           ·rename_i ro ne sz' t' c hb
            cases hc:(Nat.beq sz' z.cells.size && Nat.ble (eo+(n+1)) ne)with
            | false=>rw [hc] at h;cases h
            | true=>
              rw [hc] at h
              simp only [Ek] at hc
              have c2:=bK hc.2
              obtain⟨g1,g2,g3,g4⟩:=(hS.lies hb hx).row
              refine rows b (eo*sz') n _ x hx (by rw [hv',Ent.eQ (g3 (by omega)),g1]) ?_
              rw [hu]
              simp only [hz]
              exact h
           ·cases h
       | _=>cases h
 | mp b=>
   obtain⟨x,hx,rfl⟩:=lB hv
   simp only [nm] at h
   cases hu:P.underlying t with
   | none=>rw [hu] at h;cases h
   | some d=>
     rw [hu] at h
     cases d with
     | map kt el=>
       simp only at h
       cases hb:H.at' b with
       | none=>rw [hb] at h;cases h
       | some vo=>
         rw [hb] at h
         cases vo with
         | map l clock=>
           simp only [D2] at h
           subst h
           obtain⟨hxn,o,_,hw,ho⟩:=hS.at hb hx (by simp)
           obtain⟨es,rfl,hmr⟩:=ho
           have hg:=Go.MapKept.run_getObj_map (P:=P) hw
           refine⟨e,_,_,.tuple #[],rfl,E9 e,hS.upd (o':= .map #[] clock) hb hx hxn rfl rfl (cW x.blk _) (cX hw) ⟨_,rfl,trivial⟩,rfl,?_⟩
           simp [Builtin.clear_,hts,run_underlying hu,hg,Go.MapKept.run_setObj_map _ hw]
         | _=>cases h
     | _=>cases h
 | _=>simp [nm] at h
theorem z0{ty:TypeId}{ts:Array TypeId}{d x:SV}{vd vx:Value}(hts:ts[0]? =some t)(hS:St K w0 e H nx w)(h:yg P H nx t d x=some out)(hd:d.conc e=some vd)(hx:x.conc e=some vx) :
 nT P K w0 e out (Builtin.copy_ ts ty #[vd,vx]) w:=by
 unfold yg at h
 cases hu:P.underlying t with
 | none=>rw [hu] at h;cases h
 | some dd=>
   rw [hu] at h
   cases dd with
   | slice el=>
     simp only at h
     cases hs:bw P el with
     | none=>rw [hs] at h;cases h
     | some sz=>
       rw [hs] at h
       simp only at h
       cases hc:aJ H sz x with
       | none=>rw [hc] at h;cases h
       | some q=>
         obtain⟨m,l⟩:=q
         rw [hc] at h
         simp only at h
         obtain⟨us,g1,g2,g3,g4⟩:=dH (P:=P) hS hc hx
         have rows: ∀ (b o n c:Nat) (y:Ent),e b=some y→vd = .slice (some ⟨y.blk,y.base+o,none⟩) n c→(match eT H b o (l.take (min m n*sz))with
          | some H'=>some ((.val (.sc (.int .i64 (min m n:Nat))),H',nx):Out)
          | none=>none)=some out→nT P K w0 e out (Builtin.copy_ ts ty #[vd,vx]) w:=by
          intro b o n c y hy hv h
          cases hst:eT H b o (l.take (min m n*sz))with
          | none=>rw [hst] at h;cases h
          | some H'=>
            rw [hst] at h
            simp only [D2] at h
            subst h
            obtain⟨w',k1,k2⟩:=j5 (P:=P) hS hst hy (jm _ g1)
            have g5:=g4 (min m n) (Nat.min_le_left _ _)
            refine⟨e,w',_,.int .i64 (min m n:Nat),rfl,E9 e,k2,rfl,?_⟩
            subst hv
            have hmin:Nat.min m n=min m n:=rfl
            simp [Builtin.copy_,hts,run_underlying hu,g3,cF hs,hmin,g5,k1,goInt]
         cases d with
         | sl b o n c=>obtain⟨y,hy,hv⟩:=hY hd;exact rows b o n c y hy hv h
         | slu b eo n=>
           obtain⟨y,hy,hv⟩:=gm hd
           simp only at h
           split at h
           ·rename_i ro ne sz' t' c hb
            cases hc2:(Nat.beq sz' sz && Nat.ble (eo+n) ne)with
            | false=>rw [hc2] at h;cases h
            | true=>
              rw [hc2] at h
              simp only [cond_true] at h
              simp only [Ek] at hc2
              have c1:=ba hc2.1
              have c2:=bK hc2.2
              subst c1
              obtain⟨q1,q2,q3,q4⟩:=(hS.lies hb hy).row
              by_cases hyn:y.nil=false
              ·exact rows b (eo*sz') n _ y hy (by rw [hv,Ent.eQ hyn,q1]) h
              ·have hyn:y.nil=true:=by simpa using hyn
               obtain⟨h0,_⟩|⟨_,hcap,_,_,_,hrow,_⟩:=hS.lies hb hy
               ·rw [hyn] at h0;cases h0
               ·injection hrow with hrow0 hrow
                have hn0:n=0:=by omega
                have he0:eo=0:=by omega
                subst hn0 he0
                simp only [Nat.zero_mul,Nat.min_zero,List.take_zero,eT,hb,VO.setCells,D2] at h
                subst h
                have hya:y.at 0=none:=by unfold Ent.at;rw [hyn];rfl
                refine⟨e,w,_,.int .i64 (0:Nat),rfl,E9 e,hS.sub fun id vo hvv=>?_,rfl,?_⟩
                ·rcases bl hvv with ⟨rfl,rfl⟩|⟨_,hvv⟩
                 ·exact hb
                 ·exact hvv
                ·subst hv
                 have hmin:Nat.min m 0=0:=Nat.min_zero m
                 have g5:=g4 0 (En _)
                 simp only [Nat.zero_mul,List.take_zero] at g5
                 simp [Builtin.copy_,hts,run_underlying hu,g3,cF hs,hmin,g5,hya,goInt,storeCells]
           ·cases h
         | _=>cases h
   | _=>cases h
theorem wN{x:SV}(hS:St K w0 e H nx w)(h:wO P H nx t x=some out)(hv:x.conc e=some v):nT P K w0 e out (Instr.range t v) w:=by
 have hf:=hS.fresh nx (Em _)
 have done: ∀ (vo:VO) (o:Obj),vo.ro=false→ORel (e.put nx ⟨w.heap.size,0,0,1,false⟩) vo ⟨w.heap.size,0,0,1,false⟩ o→out=(.val (.ptr nx 0),H.set nx vo,nx+1)→(Instr.range t v).run P w = .ok (.pointer (some ⟨w.heap.size,0,none⟩)) {w with heap:=w.heap.push o} →
  nT P K w0 e out (Instr.range t v) w:=by
  intro vo o hro ho hout hrun
  subst hout
  refine⟨e.put nx ⟨w.heap.size,0,0,1,false⟩,_,.ptr nx 0,_,rfl,Env.dE hf,?_,by simp [SV.conc,Env.bL],hrun⟩
  exact hS.new (o:=o) rfl rfl hro rfl rfl rfl rfl ho
 unfold wO at h
 split at h
 ·rename_i b
  obtain⟨x,hx,rfl⟩:=lB hv
  cases hu:P.underlying t with
  | none=>rw [hu] at h;cases h
  | some d=>
    rw [hu] at h
    cases d with
    | map kt el=>
      simp only at h
      cases hb:H.at' b with
      | none=>rw [hb] at h;cases h
      | some vo=>
        rw [hb] at h
        cases vo with
        | map l clock=>
          simp only [D2] at h
          obtain⟨hxn,o,_,hw,ho⟩:=hS.at hb hx (by simp)
          obtain⟨es,rfl,hmr⟩:=ho
          have hg:=Go.MapKept.run_getObj_map (P:=P) hw
          exact done (.iter (some b) clock [] clock) (.mapIter (some x.blk) clock #[] clock) rfl ⟨rfl,x,Env.dE hf _ _ hx,rfl⟩ h.symm (by simp [Instr.range,run_underlying hu,hg])
        | _=>cases h
    | _=>cases h
 ·cases h
end
end
section
variable {P:Program} {K:Zone} {w0 w:World} {e:Env} {H:aw} {nx:Nat} {T:Tr SV} {ev:Operand→Value}
section
variable {out:Out}{ty:TypeId}
theorem ge{f:FuncId}{args:Array Value}(h:bB P f=true)(w:World):(callFunc f args).run P w = .ok (.enter f args) w:=by
 unfold bB at h
 cases hf:P.funcs[f]? with
 | none=>rw [hf] at h;cases h
 | some fn=>
   rw [hf] at h
   simp only [Ek,Bool.not_eq_true',beq_eq_false_iff_ne] at h
   have hn: ¬ (fn.body.isNone=true):=by
    cases hb:fn.body with
    | none=>rw [hb] at h;simp at h
    | some c=>simp
   have h2: ¬ ((fn.name == "runtime.NumGoroutine")=true):=by simpa using h.2
   simp only [callFunc,Sem.run_bind,run_program,Result.andThen,hf]
   rw [Ey h2,Ey hn]
   rfl
theorem jR{s:SV}{v:Value}{g:FuncId}{a b:List SV}(h:da s=some (g,a,b))(hv:s.conc e=some v): ∃ x y,v = .func (.func g) x y∧SV.aC e a=some x.toList∧SV.aC e b=some y.toList:=by
 unfold da at h
 split at h
 ·simp only [D2,Ea] at h
  obtain⟨rfl,rfl,rfl⟩:=h
  simp only [SV.conc,D2] at hv
  subst hv
  exact⟨_,_,rfl,fg _,fg _⟩
 ·simp only [D2,Ea] at h
  obtain⟨rfl,rfl,rfl⟩:=h
  obtain⟨x,y,hx,hy,rfl⟩:=pR hv
  exact⟨_,_,rfl,by simpa using hx,by simpa using hy⟩
 ·cases h
theorem vg{t:TypeId}{name:String}{g:FuncId}(h:jO P t name=some g)(v:Value)(args:Array Value)(w:World):(callMethod (.iface t v) name args).run P w = .ok (.enter g (#[v] ++ args)) w:=by
 unfold jO at h
 cases hi:P.info? t with
 | none=>rw [hi] at h;cases h
 | some i=>
   rw [hi] at h
   simp only at h
   cases hm:i.methods.find? (fun m=>m.name == name)with
   | none=>rw [hm] at h;cases h
   | some m=>
     rw [hm] at h
     simp only at h
     cases hmf:m.func with
     | none=>rw [hmf] at h;cases h
     | some q=>
       obtain⟨g',pr⟩:=q
       rw [hmf] at h
       cases pr with
       | false=>cases h
       | true=>
         simp only at h
         cases hu:P.underlying t with
         | none=>rw [hu] at h;cases h
         | some d=>
           rw [hu] at h
           cases d with
           | pointer el=>
             simp only at h
             cases hq:(m.path.isEmpty && bB P g')with
             | false=>rw [hq] at h;cases h
             | true=>
               rw [hq] at h
               simp only [cond_true,D2] at h
               subst h
               rw [Ek] at hq
               obtain⟨n,hn⟩: ∃ n,P.types.size+Made.depth=n+1:=⟨P.types.size+99,by unfold Made.depth;omega⟩
               have hpath:m.path.toList= []:=by
                have:=hq.1
                cases hp:m.path.toList with
                | nil=>rfl
                | cons a l=>rw [Array.isEmpty_iff] at this;rw [this] at hp;cases hp
               have hi':(typeInfo t).run P w = .ok i w:=by simp [typeInfo,hi]
               simp only [callMethod,Sem.run_bind,run_program,Result.andThen,hn,Go.method,hi',hm,hpath,follow,Sem.run_pure,hmf,receiverAt,run_underlying hu,Place.get]
               exact ge hq.2 w
           | _=>cases h
theorem pU{c:Call}{a:ANx}(hE:EvRel e T ev)(h:bE P T c=some a)(w:World):ORun P e a ((do let d←resolve ev c ty;invoke d.target d.args:Sem Next).run P w) w:=by
 unfold bE at h
 cases hl:dh T c.args.toList with
 | none=>rw [hl] at h;cases h
 | some args=>
   rw [hl] at h
   simp only at h
   have hargs:=hE.list _ _ hl
   cases hc:c.callee with
   | builtin b=>rw [hc] at h;cases h
   | value f=>
     rw [hc] at h
     simp only at h
     cases hf:ar T f with
     | none=>rw [hf] at h;cases h
     | some s=>
       have hv:=hE f s hf
       rw [hf] at h
       have gen:(match da s with
        | some (g,x,y)=>bif bB P g then some (ANx.enter g (x ++ args ++ y)) else none
        | none=>none)=some a→ORun P e a ((do let d←resolve ev c ty;invoke d.target d.args:Sem Next).run P w) w:=by
        intro h
        cases ht:da s with
        | none=>rw [ht] at h;cases h
        | some q=>
          obtain⟨g,x,y⟩:=q
          rw [ht] at h
          simp only at h
          cases hm:bB P g with
          | false=>rw [hm] at h;cases h
          | true=>
            rw [hm] at h
            simp only [cond_true,D2] at h
            subst h
            obtain⟨xs,ys,hev,hx,hy⟩:=jR ht hv
            refine⟨xs ++ c.args.map ev ++ ys,?_,?_⟩
            ·have:=ck (ck hx hargs) hy
             simpa using this
            ·simp [resolve,hc,hev,Deferred.ofValue,invoke,ge hm]
       cases s with
       | yld l=>
         simp only [D2] at h
         subst h
         obtain⟨x,hx,hev⟩:=pQ hv
         refine⟨x,c.args.toList.map ev,hx,hargs,?_⟩
         simp [resolve,hc,hev,Deferred.ofValue,invoke]
         congr 1
         congr 1
         apply Array.ext'
         simp
       | _=>exact gen h
   | invoke r name=>
     rw [hc] at h
     simp only at h
     split at h
     ·rename_i t v hr
      have hv:=hE r _ hr
      obtain⟨u,hu,hev⟩:=mj hv
      cases hm:jO P t name with
      | none=>rw [hm] at h;cases h
      | some g=>
        rw [hm] at h
        simp only [D2] at h
        subst h
        refine⟨#[u] ++ c.args.map ev,?_,?_⟩
        ·simpa using bJ hu hargs
        ·have hex:(#[ev r] ++ Array.map ev c.args).extract 1 (#[ev r] ++ Array.map ev c.args).size=Array.map ev c.args:=by
          obtain⟨l⟩:=Array.map ev c.args
          simp
         have h0:(#[ev r] ++ Array.map ev c.args)[0]? =some (ev r):=by
          obtain⟨l⟩:=Array.map ev c.args
          simp
         simp only [resolve,hc,Sem.run_bind,Sem.run_pure,Result.andThen,invoke,h0,hex]
         rw [hev]
         exact vg hm u _ w
     ·cases h
theorem iO{s:Sem Value}{res:Result Next}(h:nT P K w0 e out s w)(hr: ∀ v w',s.run P w = .ok v w'→res = .ok (.value v) w'):yF P K w0 e out res:=by
 obtain⟨e',w',r,v,h1,h2,h3,h4,h5⟩:=h
 exact⟨e',w',h2,h3,by rw [h1];exact⟨v,h4,hr v w' h5⟩⟩
theorem rB{s:Sem Unit}{res:Result Next}(h:D1 P K w0 e out s w)(hr: ∀ w',s.run P w = .ok () w'→res = .ok .skip w'):yF P K w0 e out res:=by
 obtain⟨e',w',h1,h2,h3,h4⟩:=h
 exact⟨e',w',h2,h3,by rw [h1];exact hr w' h4⟩
theorem tc{t u:TypeId}{s x:SV}{vs vx:Value}(hS:St K w0 e H nx w)(h:gp P H nx t u s x=some out)(hs:s.conc e=some vs)(hx:x.conc e=some vx):nT P K w0 e out (Builtin.append_ #[t,u] ty #[vs,vx]) w:=by
 unfold gp at h
 cases ht:P.underlying t with
 | none=>rw [ht] at h;cases h
 | some d=>
   rw [ht] at h
   cases d with
   | slice el=>
     simp only at h
     cases hu:P.underlying u with
     | none=>rw [hu] at h;cases h
     | some d2=>
       rw [hu] at h
       have key:(∃ e',P.underlying u=some (.slice e'))∨P.underlying u=some .string→dD P H nx el s x=some out→nT P K w0 e out (Builtin.append_ #[t,u] ty #[vs,vx]) w:=by
        intro hk h
        obtain⟨e',w',r,v,h1,h2,h3,h4,h5⟩:=oD (ty:=ty) ht hk hS h hs hx
        exact⟨e',w',r,v,h1,h2,h3,h4,h5⟩
       cases d2 with
       | slice e2=>exact key (.inl ⟨e2,hu⟩) h
       | string=>exact key (.inr hu) h
       | _=>cases h
   | _=>cases h
theorem sZ{b:Builtin}{ts:Array TypeId}{xs:List SV}{vs:Array Value}{cs:Array Bool}(hS:St K w0 e H nx w)(h:fh P H nx b ts.toList xs=some out)(hx:SV.aC e xs=some vs.toList) :
 yF P K w0 e out ((builtin b ts ty cs vs).run P w):=by
 unfold fh at h
 obtain⟨tl⟩:=ts
 obtain⟨vl⟩:=vs
 simp only at h hx
 cases b with
 | append=>
   simp only at h
   split at h
   ·rename_i t u s x
    obtain⟨v1,l1,rfl,h1,hx⟩:=b9 hx
    obtain⟨v2,l2,rfl,h2,hx⟩:=b9 hx
    simp only [SV.aC,D2] at hx
    subst hx
    exact iO (tc (ty:=ty) hS h h1 h2) (fun v w' hr=>by simp [builtin,hr])
   ·cases h
 | copy=>
   simp only at h
   split at h
   ·rename_i t tl d x
    obtain⟨v1,l1,rfl,h1,hx⟩:=b9 hx
    obtain⟨v2,l2,rfl,h2,hx⟩:=b9 hx
    simp only [SV.aC,D2] at hx
    subst hx
    exact iO (z0 (ts:=⟨t :: tl⟩) (ty:=ty) (by simp) hS h h1 h2) (fun v w' hr=>by simp [builtin,hr])
   ·cases h
 | clear=>
   simp only at h
   split at h
   ·rename_i t tl d
    obtain⟨v1,l1,rfl,h1,hx⟩:=b9 hx
    simp only [SV.aC,D2] at hx
    subst hx
    exact iO (ym (ts:=⟨t :: tl⟩) (ty:=ty) (by simp) hS h h1) (fun v w' hr=>by simp [builtin,hr])
   ·cases h
 | recover=>
   simp only at h
   split at h
   ·simp only [D2] at h
    subst h
    exact⟨e,w,E9 e,hS,rfl⟩
   ·cases h
 | _=>cases h
theorem kK{o:Oper}(hS:St K w0 e H nx w)(hE:EvRel e T ev)(h:fZ P T H nx o=some out):yF P K w0 e out ((execOp ev o).run P w):=by
 unfold fZ at h
 cases hop:o.op with
 | alloc t=>
   rw [hop] at h
   simp only at h
   cases hz:dY P t with
   | none=>rw [hz] at h;cases h
   | some z=>
     rw [hz] at h
     simp only [D2] at h
     subst h
     refine tU hS (fg _) (v:= .pointer (some ⟨w.heap.size,0,none⟩)) (by simp [SV.conc,Env.bL]) ?_
     simp [execOp,hop,Instr.alloc,iA hz,newVar,newRow]
 | box t x=>
   rw [hop] at h
   simp only at h
   cases hx:ar T x with
   | none=>rw [hx] at h;cases h
   | some s=>
     rw [hx] at h
     simp only [D2] at h
     subst h
     refine tU hS (lE (hE x s hx)) (v:= .pointer (some ⟨w.heap.size,0,none⟩)) (by simp [SV.conc,Env.bL]) ?_
     simp [execOp,hop,Instr.box,newVar,newRow]
 | store t a x=>
   rw [hop] at h
   simp only at h
   split at h
   ·rename_i b off ha
    obtain⟨y,hy,hv⟩:=fI (hE a _ ha)
    cases hx:ar T x with
    | none=>rw [hx] at h;cases h
    | some s=>
      rw [hx] at h
      simp only at h
      cases hsz:qq P t s.cells.length with
      | false=>rw [hsz] at h;cases h
      | true=>
        rw [hsz] at h
        simp only [cond_true] at h
        cases hst:eT H b off s.cells with
        | none=>rw [hst] at h;cases h
        | some H'=>
          rw [hst] at h
          simp only [D2] at h
          subst h
          have hcs:=lE (hE x s hx)
          have hlen:=cN hcs
          obtain⟨w',k1,k2⟩:=j5 (P:=P) hS hst hy hcs
          unfold qq at hsz
          cases hs:bw P t with
          | none=>rw [hs] at hsz;cases hsz
          | some n=>
            rw [hs] at hsz
            have hn:=ba hsz
            refine⟨e,w',E9 e,k2,?_⟩
            have hcz:(ev x).cells.size=n:=by simp only [Array.length_toList] at hlen;omega
            show(execOp ev o).run P w=_
            simp [execOp,hop,hv,Instr.storeAt,Instr.sureAddr,storeVar,cF hs,hcz,k1]
   ·cases h
 | makeMap t r=>
   rw [hop] at h
   cases r with
   | some r=>cases h
   | none=>
     simp only [D2] at h
     subst h
     have hf:=hS.fresh nx (Em _)
     refine oE (o:= .map #[] 0) (x:=⟨w.heap.size,0,0,1,false⟩) (w':={w with heap:=w.heap.push (.map #[] 0)}) (v:= .map (some w.heap.size)) hS rfl rfl rfl rfl rfl rfl rfl ⟨#[],rfl,trivial⟩ (by simp [SV.conc,Env.bL]) ?_
     simp [execOp,hop,Instr.makeMap]
 | mapUpdate t m k x=>
   rw [hop] at h
   obtain⟨kv,hk,h⟩:=fF h
   obtain⟨s,hs,h⟩:=fF h
   obtain⟨sm,hsm,h⟩:=fF h
   exact rB (qP hS h (hE x s hs) (hE m sm hsm)) (fun w' hr=>by simp [execOp,hop,hE.lit hk,hr])
 | insert t m k x=>
   rw [hop] at h
   obtain⟨kv,hk,h⟩:=fF h
   obtain⟨s,hs,h⟩:=fF h
   obtain⟨sm,hsm,h⟩:=fF h
   exact rB (qP hS h (hE x s hs) (hE m sm hsm)) (fun w' hr=>by simp [execOp,hop,hE.lit hk,hr])
 | range t x=>
   rw [hop] at h
   obtain⟨q,hq,h⟩:=fF h
   exact iO (wN hS h (hE x q hq)) (fun v w' hr=>by simp [execOp,hop,hr])
 | call c=>
   rw [hop] at h
   simp only at h
   have gen:(bE P T c).map (fun a=>((a,H,nx):Out))=some out→yF P K w0 e out ((execOp ev o).run P w):=by
    intro h
    simp only [Eb] at h
    obtain⟨a,ha,rfl⟩:=h
    refine⟨e,w,E9 e,hS,?_⟩
    have:=pU (ty:=o.type) hE ha w
    simpa [execOp,hop] using this
   cases hc:c.callee with
   | builtin b=>
     rw [hc] at h
     obtain⟨xs,hxs,h⟩:=fF h
     have hargs:=hE.list _ _ hxs
     have:=fun cs=>sZ (ty:=o.type) (cs:=cs) (vs:=c.args.map ev) (w:=w) hS h (by simpa using hargs)
     simp only [execOp,hop,resolve,hc,Sem.run_bind,Sem.run_pure,Result.andThen,invoke]
     exact this _
   | value f=>rw [hc] at h;exact gen h
   | invoke r n=>rw [hc] at h;exact gen h
 | defer c=>
   rw [hop] at h
   simp only at h
   cases hc:c.callee with
   | builtin b=>rw [hc] at h;cases h
   | invoke r n=>rw [hc] at h;cases h
   | value f=>
     rw [hc] at h
     simp only at h
     unfold bE at h
     cases hl:dh T c.args.toList with
     | none=>rw [hl] at h;cases h
     | some args=>
       rw [hl] at h
       simp only [hc] at h
       have hargs:=hE.list _ _ hl
       cases hf:ar T f with
       | none=>rw [hf] at h;cases h
       | some s=>
         have hv:=hE f s hf
         rw [hf] at h
         cases ht:da s with
         | none=>
           exfalso
           cases s <;> simp [ht] at h
         | some q=>
           obtain⟨g,x,y⟩:=q
           obtain⟨xs,ys,hev,hx,hy⟩:=jR ht hv
           have hny: ∀ l,s ≠ .yld l:=by rintro l rfl;simp [da] at ht
           have h2:(match (bif bB P g then some (ANx.enter g (x ++ args ++ y)) else none:Option ANx)with
            | some (.enter f args)=>some ((.dfr (.call f args),H,nx):Out)
            | _=>none)=some out:=by
            cases s <;> first
             | exact absurd rfl (hny _)
             | (simp only [ht] at h;exact h)
           cases hm:bB P g with
           | false=>rw [hm] at h2;cases h2
           | true=>
             rw [hm] at h2
             simp only [cond_true,D2] at h2
             subst h2
             refine⟨e,w,E9 e,hS,{target:= .fn (.func g) ys,args:=xs ++ c.args.map ev},⟨_,_,rfl,?_⟩,?_⟩
             ·have:=ck (ck hx hargs) hy
              simpa using this
             ·simp [execOp,hop,resolve,hc,hev,Deferred.ofValue]
 | _=>rw [hop] at h;cases h
end
end
section
variable {P:Program} {K:Zone} {w0 w:World} {e:Env} {H:aw} {nx:Nat} {T:Tr SV} {ev:Operand→Value}
theorem dj{r:Nat}{o:Obj}(h:w.heap[r]? =some o)(hn: ∀ c t fz,o ≠ .cells c t fz):(getObj r).run P w = .ok o w:=by
 cases o <;> first
  | exact absurd rfl (hn _ _ _)
  | simp [getObj,Sem.run,h]
theorem fc{r:Nat}{o:Obj}(o':Obj)(h:w.heap[r]? =some o)(hn: ∀ c t fz,o ≠ .cells c t fz):(setObj r o').run P w = .ok () {w with heap:=w.heap.setIfInBounds r o'}:=by
 cases o <;> first
  | exact absurd rfl (hn _ _ _)
  | simp [setObj,Sem.run,h]
theorem MRel.filter(f:Nat→Bool): ∀ {l:List (Value×SV×Nat)} {ms:List MapEntry},MRel e l ms→MRel e (l.filter fun x=>f x.2.2) (ms.filter fun m=>f m.born)
 | [],[],_=>trivial
 | (k,s,b) :: l,m :: ms,h=>by
   obtain⟨h1,h2,h3,h4⟩:=h
   simp only [List.filter_cons]
   rw [h2]
   cases hb:f b with
   | true=>simp only [if_true];exact⟨h1,h2,h3,MRel.filter f h4⟩
   | false=>simp only [Bool.false_eq_true,if_false];exact MRel.filter f h4
 | [],_ :: _,h=>h.elim
 | (_,_,_) :: _,[],h=>by simp [MRel] at h
theorem MRel.app: ∀ {l l':List (Value×SV×Nat)} {ms ms':List MapEntry},MRel e l ms→MRel e l' ms'→MRel e (l ++ l') (ms ++ ms')
 | [],l',[],ms',_,h'=>h'
 | (k,s,b) :: l,l',m :: ms,ms',h,h'=>⟨h.1,h.2.1,h.2.2.1,MRel.app h.2.2.2 h'⟩
 | [],_,_ :: _,_,h,_=>h.elim
 | (_,_,_) :: _,_,[],_,h,_=>by simp [MRel] at h
theorem MRel.back: ∀ {l:List (Value×SV×Nat)} {ms:List MapEntry},MRel e l ms→ ∀ {i:Nat} {m:MapEntry},ms[i]? =some m→ ∃ s,l[i]? =some (m.key,s,m.born)∧s.conc e=some m.val
 | [],[],_,i,m,hg=>by simp at hg
 | (k,s,b) :: l,m' :: ms,h,0,m,hg=>by
   simp only [Ej,D2] at hg
   subst hg
   exact⟨s,by rw [h.1,h.2.1];rfl,h.2.2.1⟩
 | (k,s,b) :: l,m' :: ms,h,i+1,m,hg=>by simpa using MRel.back h.2.2.2 (i:=i) (by simpa using hg)
 | [],_ :: _,h,_,_,_=>h.elim
 | (_,_,_) :: _,[],h,_,_,_=>by simp [MRel] at h
theorem MRel.all(f:Nat→Bool): ∀ {l:List (Value×SV×Nat)} {ms:List MapEntry},MRel e l ms→(l.all fun x=>f x.2.2)=ms.all fun m=>f m.born
 | [],[],_=>rfl
 | (k,s,b) :: l,m :: ms,h=>by simp only [List.all_cons,h.2.1,MRel.all f h.2.2.2]
 | [],_ :: _,h=>h.elim
 | (_,_,_) :: _,[],h=>by simp [MRel] at h
theorem MRel.empty: ∀ {l:List (Value×SV×Nat)} {ms:List MapEntry},MRel e l ms→l.isEmpty=ms.isEmpty
 | [],[],_=>rfl
 | (k,s,b) :: l,m :: ms,h=>rfl
 | [],_ :: _,h=>h.elim
 | (_,_,_) :: _,[],h=>by simp [MRel] at h
end
noncomputable section
def OpDoes(P:Program)(T:Tr SV)(H:aw)(nx:Nat)(o:Oper)(out:Out):Prop:=
 ∀ K w0 e w ev,St K w0 e H nx w→EvRel e T ev→yF P K w0 e out ((execOp ev o).run P w)
def DZ(P:Program)(T:Tr SV)(H:aw)(nx:Nat)(o:Oper)(O:Out→Prop):Prop:=
 ∀ K w0 e w ev,St K w0 e H nx w→EvRel e T ev→ ∃ out,O out∧yF P K w0 e out ((execOp ev o).run P w)
def ReadDoes(P:Program)(T:Tr SV)(H:aw)(o:Oper)(v:SV):Prop:=
 ∀ K w0 e nx w ev,St K w0 e H nx w→EvRel e T ev→ ∃ u,v.conc e=some u∧(execOp ev o).run P w = .ok (.value u) w
structure Rec where
 i:Nat
 o:Oper
 T:Tr SV
 stg:Nat
 chain:Bool
 wanted:Bool
 val:SV
def rz(nt:Nat):List Oper→List Tmp→Bool
 | [],_=>true
 | o :: l,seen=>match o.dst with
   | some d=>Nat.blt d nt && !(seen.contains d) && rz nt l (d :: seen)
   | none=>rz nt l seen
def ib(t:Tmp):List Oper→Nat→Option Nat
 | [],_=>none
 | o :: l,i=>match o.dst with
   | some d=>bif Nat.beq d t then some i else ib t l (i+1)
   | none=>ib t l (i+1)
def Cc(ops:List Oper)(o:Oper):List Operand:=match o.guard with
 | none=> []
 | some (j,_)=>match ops[j]? with
   | none=> []
   | some oj=>match oj.dst with
     | some d=> [.tmp d]
     | none=> []
def aV(ops:List Oper)(o:Oper):List Operand:=Cc ops o ++ o.op.operands.toList
def rQ(acc:List Nat):List Edge→Nat
 | []=>0
 | e :: l=>bif Region.binds .any e then 2 ^ e.on ||| (acc.getD e.on 0 ||| rQ acc l) else rQ acc l
def er:List Nat→List Oper→List Nat
 | acc,[]=>acc
 | acc,o :: l=>er (acc ++ [rQ acc o.after.toList]) l
def dJ(ops:List Oper)(ancs:List Nat)(i:Nat)(anc:Nat):List Operand→Bool
 | []=>true
 | .tmp t :: l=>(match ib t ops 0 with
   | some j=>anc.testBit j || (ancs.getD j 0).testBit i
   | none=>true) && dJ ops ancs i anc l
 | _ :: l=>dJ ops ancs i anc l
def iN(i:Nat):List Edge→Bool
 | []=>true
 | e :: l=>(bif Region.binds .any e then Nat.blt e.on i else true) && iN i l
def wX(all:List Oper)(as1:List Nat):List Nat→List Oper→Nat→Bool
 | anc :: ancs,o :: l,i=>iN i o.after.toList && dJ all as1 i anc (aV all o) && wX all as1 ancs l (i+1)
 | _,[],_=>true
 | [],_ :: _,_=>false
def gf(nt:Nat)(ops:List Oper):Bool:=
 rz nt ops [] && wX ops (er [] ops) (er [] ops) ops 0
def aT(T:Tr SV):List Operand→Tr SV
 | []=> .nil
 | .tmp t :: l=>match T.at' t with
   | some v=>(aT T l).set t v
   | none=>aT T l
 | _ :: l=>aT T l
def gW(anc:Nat):List Nat→Nat
 | []=>0
 | c :: l=>bif anc.testBit c then gW anc l+1 else 0
def dq(ancs:List Nat)(i:Nat):List Nat→Nat
 | []=>0
 | c :: l=>bif (ancs.getD c 0).testBit i then 0 else dq ancs i l+1
def jW(ancs:List Nat):List Nat→Bool
 | a :: b :: l=>(ancs.getD b 0).testBit a && jW ancs (b :: l)
 | _=>true
structure DS where
 T:Tr SV
 H:aw
 nx:Nat
 recs:List Rec
 Hs:List (aw×Nat)
 stg:Nat
abbrev Pst:=Res→Prop
abbrev Rn:=Option Nat→Bool→FrS→Pst→Prop
def rM(P:Program)(f:FuncId):Option Code:=match P.funcs[f]? with
 | some fn=>fn.body
 | none=>none
def BS(P:Program)(f:FuncId):Nat:=match P.funcs[f]? with
 | some fn=>fn.ntmps
 | none=>0
def eG(P:Program)(f:FuncId):Option (List ResultVar):=match P.funcs[f]? with
 | some fn=>some fn.results.toList
 | none=>none
def Sure(P:Program)(f:FuncId)(v:Value):Prop:= ∀ (w:World) (kd:CallKind) (cs:List Frame),(kd = .normal∨(kd = .deferred∧ ∃ c cs',cs=c :: cs'∧c.mode = .returning)) →
 ∃ w' tmps,Below w.heap.size w w'∧(∃ todo,Steps P (lone (Frame.enter P f #[] kd) cs w) (lone {fn:=f,tmps:=tmps,todo:=todo,defers:= [],mode:= .returning,kind:=kd,roundOf:=none} cs w'))∧ ∃ fn,P.funcs[f]? =some fn∧(results fn tmps).run P w' = .ok v w'
def iR(P:Program)(rn:Rn)(f:FuncId)(args:List SV)(H:aw)(nx:Nat)(Q:Pst):Prop:=
 (args= []∧ ∃ v r,Sure P f v∧Q r∧ ∀ K w0 e w,St K w0 e H nx w→ ∃ e',Env.le e e'∧St K w0 e' r.2.1 r.2.2 w∧r.1.conc e'=some v) ∨
 match rM P f with
 | some c=>rn none false {fn:=f,nt:=max args.length (BS P f),T:=il .nil 0 args,todo:= [.code c],dfs:= [],hp:=H,nx:=nx} Q
 | none=>False
def oc(rn:Rn)(l:Nat)(args:List SV)(H:aw)(nx:Nat)(Q:Pst):Prop:=
 match H.at' l with
 | some (.loop _ _ fn nt T params assign body _)=>
   Nat.beq params.size args.length=true ∧
    rn (some l) false {fn:=fn,nt:=nt,T:=(params.toList.zip args).foldl (fun T x=>k9 nt T (some x.1) x.2) T,todo:= [.code assign,.beginRound,.code body],dfs:= [],hp:=H,nx:=nx} Q
 | _=>False
def gv(P:Program)(rn:Rn)(T:Tr SV)(H:aw)(nx:Nat)(o:Oper)(r:Res):Prop:=
 ∃ out,OpDoes P T H nx o out∧(∀ c,o.op ≠ .defer c)∧match out with
  | (a,H,nx)=>match a with
    | .val v=>r=(v,H,nx)
    | .skip=>r=(eu,H,nx)
    | .enter f args=>iR P rn f args H nx (fun r'=>r'=r)
    | .round l args=>oc rn l args H nx (fun r'=>r'=r)
    | _=>False
def p8(P:Program)(rn:Rn)(T:Tr SV)(H:aw)(nx:Nat)(o:Oper)(v:SV):Prop:=ReadDoes P T H o v∨gv P rn T H nx o (v,H,nx)
def yx(P:Program)(rn:Rn)(nt:Nat)(ops:Array Oper)(i:Nat)(o:Oper)(s s':DS):Prop:=
 (aD (aT s.T (aV ops.toList o)) ops o=some false∧s' = {s with T:=k9 nt s.T o.dst eu,recs:=⟨i,o,aT s.T (aV ops.toList o),s.stg,false,false,eu⟩ :: s.recs}) ∨
 (aD (aT s.T (aV ops.toList o)) ops o=some true∧(∀ c,o.op ≠ .defer c)∧ ∃ v,p8 P rn (aT s.T (aV ops.toList o)) s.H s.nx o v∧s' = {s with T:=k9 nt s.T o.dst v,recs:=⟨i,o,aT s.T (aV ops.toList o),s.stg,false,true,v⟩ :: s.recs}) ∨
 (aD (aT s.T (aV ops.toList o)) ops o=some true∧ ∃ v H nx,gv P rn (aT s.T (aV ops.toList o)) s.H s.nx o (v,H,nx)∧s'=⟨k9 nt s.T o.dst v,H,nx,⟨i,o,aT s.T (aV ops.toList o),s.stg,true,true,v⟩ :: s.recs,(H,nx) :: s.Hs,s.stg+1⟩)
inductive DrawRun (P:Program) (rn:Rn) (nt:Nat) (ops:Array Oper):Nat→List Oper→DS→DS→Prop
 | nil (i:Nat) (s:DS):DrawRun P rn nt ops i [] s s
 | cons {i:Nat} {o:Oper} {l:List Oper} {s s1 s':DS}:yx P rn nt ops i o s s1→DrawRun P rn nt ops (i+1) l s1 s'→DrawRun P rn nt ops i (o :: l) s s'
def eP(s:DS):List Nat:=(s.recs.reverse.filter (·.chain)).map (·.i)
def Ar(P:Program)(rn:Rn)(ops:Array Oper)(s:DS):Prop:=
 ∀ r∈s.recs,r.chain=false→r.wanted=true→ ∀ st,gW ((er [] ops.toList).getD r.i 0) (eP s)≤st→st≤dq (er [] ops.toList) r.i (eP s)→st≠r.stg →
  ∀ H n,s.Hs.reverse[st]? =some (H,n)→p8 P rn r.T H n r.o r.val
def oF(P:Program)(rn:Rn)(ops:Array Oper)(nt:Nat)(T:Tr SV)(H:aw)(nx:Nat)(s:DS):Prop:=
 gf nt ops.toList=true∧DrawRun P rn nt ops 0 ops.toList ⟨T,H,nx,[],[(H,nx)],0⟩ s∧jW (er [] ops.toList) (eP s)=true∧Ar P rn ops s
def fv:List SV→SV
 | [v]=>v
 | l=> .tup l
def tY(l:Nat)(jump:Option Code)(H:aw)(nx:Nat)(Q:Pst):Prop:=
 match H.at' l with
 | some (.loop _ _ fn nt T params assign body dr)=>
   Q (.sc (.bool jump.isNone),H.set l (.loop (if jump.isNone then .ready else .done) jump fn nt T params assign body dr),nx)
 | _=>False
def Cf(P:Program)(rn:Rn)(s:FrS)(Q:Pst):Prop:=
 match s.dfs with
 | .taken r :: ds=>match s.hp.at' r with
   | some (.dfd (some l))=>rn none true {s with dfs:=l ++ ds,hp:=s.hp.set r (.dfd none)} Q
   | _=>False
 | .call g args :: ds=>bB P g=true∧iR P rn g args s.hp s.nx (fun r=>rn none true {s with dfs:=ds,hp:=r.2.1,nx:=r.2.2} Q)
 | []=>match eG P s.fn with
   | some l=> ∃ vs,o9 P s.hp s.T l=some vs∧Q (fv vs,s.hp,s.nx)
   | none=>False
def lM(rn:Rn)(ro:Option Nat)(jump:Option Code)(s:FrS)(Q:Pst):Prop:=
 match ro with
 | none=>match jump with
   | none=>rn none true s Q
   | some .ret=>rn none true s Q
   | _=>False
 | some l=>tY l jump s.hp s.nx Q
def jd(ro:Option Nat)(H:aw)(nx:Nat):Option (Nat×aw×Nat×List ADf):=
 match ro with
 | none=>some (nx,H.set nx (.dfd (some [])),nx+1,[.taken nx])
 | some l=>match H.at' l with
   | some (.loop _ _ _ _ _ _ _ _ dr)=>some (dr,H,nx,[])
   | _=>none
def sX(P:Program)(rn:Rn)(ro:Option Nat)(s:FrS)(k:List AIt)(c:Code)(Q:Pst):Prop:=
 match c with
 | .ret=>lM rn ro (some .ret) s Q
 | .skip=>rn ro false {s with todo:=k} Q
 | .label _=>rn ro false {s with todo:=k} Q
 | .seq a b=>rn ro false {s with todo:= .code a :: .code b :: k} Q
 | .cond c a b=> ∃ t,ar s.T c=some (.sc (.bool t))∧(t=true→rn ro false {s with todo:= .code a :: k} Q)∧(t=false→rn ro false {s with todo:= .code b :: k} Q)
 | .block id b=>rn ro false {s with todo:= .code b :: .inBlock id :: k} Q
 | .loop b=>rn ro false {s with todo:= .code b :: .inLoop b :: k} Q
 | .scope b=>rn ro false {s with todo:= .code b :: .inScope b :: k} Q
 | .exit id=>match nj id k with
   | some k'=>rn ro false {s with todo:=k'} Q
   | none=>lM rn ro (some (.exit id)) s Q
 | .goto l=>match nR l k with
   | some k'=>rn ro false {s with todo:=k'} Q
   | none=>lM rn ro (some (.goto l)) s Q
 | .refuse _=>False
 | .region _ ops draw=>match draw with
   | false=>rn ro false {s with todo:= .inReg ops 0 ops.toList :: k} Q
   | true=>P.follows .mixedOrders=true∧ ∃ d,oF P rn ops s.nt s.T s.hp s.nx d∧rn ro false {s with todo:=k,T:=d.T,hp:=d.H,nx:=d.nx} Q
 | .rangeFunc fo params assign body=> ∃ dr H nx mark sf g a b,
    jd ro s.hp s.nx=some (dr,H,nx,mark)∧ar s.T fo=some sf∧da sf=some (g,a,b)∧bB P g=true ∧
     iR P rn g (a ++ [.yld nx] ++ b) (H.set nx (.loop .ready none s.fn s.nt s.T params assign body dr)) (nx+1) (fun r=>rn ro false {s with todo:= .endRange nx :: k,dfs:=mark ++ s.dfs,hp:=r.2.1,nx:=r.2.2} Q)
def outS(P:Program)(rn:Rn)(ro:Option Nat)(s:FrS)(dst:Option Tmp)(k':List AIt)(r:Out)(Q:Pst):Prop:=
 match r with
 | (.val v,H,nx)=>rn ro false {s with T:=k9 s.nt s.T dst v,todo:=k',hp:=H,nx:=nx} Q
 | (.skip,H,nx)=>rn ro false {s with T:=k9 s.nt s.T dst eu,todo:=k',hp:=H,nx:=nx} Q
 | (.recover,H,nx)=>ro=none∧rn ro false {s with T:=k9 s.nt s.T dst (.sc .nilIface),todo:=k',hp:=H,nx:=nx} Q
 | (.dfr d,H,nx)=>ro=none∧rn ro false {s with T:=k9 s.nt s.T dst eu,dfs:=d :: s.dfs,todo:=k',hp:=H,nx:=nx} Q
 | (.enter g args,H,nx)=>iR P rn g args H nx (fun r=>rn ro false {s with T:=k9 s.nt s.T dst r.1,todo:=k',hp:=r.2.1,nx:=r.2.2} Q)
 | (.round l' args,H,nx)=>oc rn l' args H nx (fun r=>rn ro false {s with T:=k9 s.nt s.T dst r.1,todo:=k',hp:=r.2.1,nx:=r.2.2} Q)
def opS(P:Program)(rn:Rn)(ro:Option Nat)(s:FrS)(k:List AIt)(ops:Array Oper)(i:Nat)(o:Oper)(l:List Oper)(Q:Pst):Prop:=
 (aD s.T ops o=some false∧rn ro false {s with T:=k9 s.nt s.T o.dst eu,todo:= .inReg ops (i+1) l :: k} Q) ∨
 (aD s.T ops o=some true∧(ro=none∨ ∀ c,o.op ≠ .defer c)∧DZ P s.T s.hp s.nx o (fun out=>outS P rn ro s o.dst (.inReg ops (i+1) l :: k) out Q))
def gM(pend:Option Code)(k:List AIt):List AIt:=match pend with
 | some c=> .code c :: k
 | none=>k
def oY(P:Program)(rn:Rn)(ro:Option Nat)(s:FrS)(Q:Pst):Prop:=
 match s.todo with
 | []=>lM rn ro none s Q
 | it :: k=>match it with
   | .code c=>sX P rn ro s k c Q
   | .inBlock _=>rn ro false {s with todo:=k} Q
   | .inScope _=>rn ro false {s with todo:=k} Q
   | .inLoop b=>rn ro false {s with todo:= .code b :: .inLoop b :: k} Q
   | .inReg ops i l=>match l with
     | []=>rn ro false {s with todo:=k} Q
     | o :: l=>opS P rn ro s k ops i o l Q
   | .inRange _=>False
   | .endRange l=>match s.hp.at' l with
     | some (.loop st pend fn nt T params assign body dr)=>st ≠ .busy∧rn ro false {s with todo:=gM pend k,hp:=s.hp.set l (.loop .exhausted pend fn nt T params assign body dr)} Q
     | _=>False
   | .beginRound=>match ro with
     | some l=>match s.hp.at' l with
       | some (.loop st pend fn nt T params assign body dr)=>st = .ready∧rn ro false {s with todo:=k,hp:=s.hp.set l (.loop .busy pend fn nt T params assign body dr)} Q
       | _=>False
     | none=>False
end
end Go.Sy
end
