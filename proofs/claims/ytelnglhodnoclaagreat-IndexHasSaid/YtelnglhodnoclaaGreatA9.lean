import Derived.Carry
import Derived.ChangeArms
import Derived.WalkKit
import Derived.ProofKit
import Derived.OpenShut
import Derived.Test.YtelnglhodnoclaaGreatA8
set_option linter.unusedVariables false
set_option linter.unusedSimpArgs false
set_option maxRecDepth 100000
set_option maxHeartbeats 0
section
namespace Go.Sy
open Go Go.Sl Go.RowKit Go.WideShapes
section
variable {sz:Nat}{A:Type}{v:Value}{w:World}{f:A→List Value}
theorem wN(p:Program)(fits:TypeId→Bool)(d:Nat)(e:TypeId)(count off n:Nat)(h:rowAt p fits d e count off n=true):off≤count*p.cellsOf e:=by
 cases d with
 | zero=>simp [rowAt] at h
 | succ d=>
   unfold rowAt at h
   simp only at h
   split at h
   ·cases h
   ·rename_i hs
    have hdiv:=Nat.div_add_mod off (p.cellsOf e)
    rw [Bool.or_eq_true] at h
    rcases h with h|h
    ·simp only [ED,beq_iff_eq,Gg] at h
     obtain⟨⟨h1,h2⟩,_⟩:=h
     have:p.cellsOf e*(off / p.cellsOf e)≤p.cellsOf e*count:=Nat.mul_le_mul_left _ (by omega)
     rw [Nat.mul_comm count]
     omega
    ·rw [ED,Gg] at h
     have hm:=Nat.mod_lt off (Nat.pos_of_ne_zero hs)
     have:p.cellsOf e*(off / p.cellsOf e+1)≤p.cellsOf e*count:=Nat.mul_le_mul_left _ (by omega)
     rw [Nat.mul_add,Nat.mul_one] at this
     rw [Nat.mul_comm count]
     omega
theorem ow(p:Program): ∀ (d:Nat) (e:TypeId) (count off:Nat) (u:TypeId) (n:Nat),liesAt p d e count off u n=true→off≤count*p.cellsOf e
 | 0,_,_,_,_,_,h=>by simp [liesAt] at h
 | d+1,e,count,off,u,n,h=>by
   unfold liesAt at h
   rw [Bool.or_eq_true] at h
   rcases h with h|h
   ·exact wN p _ _ e count off n h
   ·split at h
    ·exact ow p d e count off _ _ h
    ·cases h
theorem vp{f:Nat→Option A}: ∀ {n:Nat} {l:List A},(List.range n).mapM f=some l→l.length=n∧ ∀ i,i<n→f i=l[i]? :=by
 intro n
 induction n with
 | zero=>intro l h;simp at h;subst h;exact⟨rfl,fun i hi=>by omega⟩
 | succ n ih=>
   intro l h
   rw [List.range_succ,List.mapM_append] at h
   simp only [Option.bind_eq_bind,Option.bind_eq_some_iff] at h
   obtain⟨a,ha,b,hb,hl⟩:=h
   obtain⟨h1,h2⟩:=ih ha
   cases hf:f n with
   | none=>simp [hf] at hb
   | some x=>
     simp [hf] at hb
     subst hb
     simp at hl
     subst hl
     refine⟨by simp [h1],fun i hi=>?_⟩
     rcases ES i n with h|h
     ·rw [EB (by omega)];exact h2 i h
     ·obtain rfl:i=n:=by omega
      rw [hf,EZ (by omega),h1]
      simp
theorem wH{b0:Nat}{H:Type}{enc:TypeId×Value→H}{P:Program}{t e:TypeId}{dd:DataW H}{p:List MemPlace}(ht:P.underlying t=some (.slice e))(hc:P.cellsOf e=sz)(h0:0<sz)
 (hT:DataW.Trod enc P w 0 (fun _=>true) true t v dd p) (hok:Value.okWide P w .any b0 t v) :
 (v = .slice none 0 0)∨ ∃ (b o len cap:Nat) (cs:Array Value) (tt:TypeId) (fz:Nat×Nat),v = .slice (some ⟨b,o,none⟩) len cap∧w.heap[b]? =some (.cells cs tt fz)∧len≤cap∧cap≤maxLen∧o+cap*sz≤cs.size ∧
   ∀ i,i<len→ ∃ us:List Value,us.length=sz∧(∀ j,j<sz→cs[o+i*sz+j]? =us[j]?)∧ ∃ n y,DataW.trod enc P w 0 (fun _=>true) true n e us=some y:=by
 obtain⟨fuel,hT⟩:=hT
 obtain⟨a0,len0,cap0,rfl⟩:=okWide_slice ht hok
 have hcells:(Value.slice a0 len0 cap0).cells.toList= [.slice a0 len0 cap0]:=rfl
 rw [hcells] at hT
 rcases DataW.trod_slice ht hT with ⟨h1,_⟩|⟨a,len,cap,elems,rest,n,_,h1,_,_,h3,h4,h5,h6,h7,_⟩
 ·left
  simpa using h1
 ·right
  simp only [List.cons.injEq,and_true,Value.slice.injEq] at h1
  obtain⟨rfl,rfl,rfl⟩:=h1
  unfold Value.okWide at hok
  rw [ht] at hok
  simp only at hok
  unfold Cell.okWide at hok
  rw [ht] at hok
  simp only at hok
  unfold Cell.ok at hok
  rw [ht] at hok
  simp only at hok
  obtain⟨_,_,_,hsp,row,cells,hsh,hli⟩:=hok
  obtain⟨b,o,sp⟩:=a
  simp only at hsp hsh hli h6 h7
  subst hsp
  unfold World.shape? at hsh
  cases hob:w.heap[b]? with
  | none=>rw [hob] at hsh;cases hsh
  | some ob=>
    rw [hob] at hsh
    cases ob with
    | cells cs tt fz=>
      simp only [Ej,Et] at hsh
      obtain⟨rfl,rfl⟩:=hsh
      have hoff:=ow P _ _ _ _ _ _ hli
      have hoff2:o≤cs.size:=EM hoff (Nat.div_mul_le_self _ _)
      have hcell: ∀ q:Nat,w.cell? ⟨b,q,none⟩=cs[q]? :=fun q=>by simp [World.cell?,hob]
      have hget: ∀ (q:Nat) (us:List Value),w.cells? 0 ((⟨b,o,none⟩:Addr).add (q*P.cellsOf e)) (P.cellsOf e)=some us→us.length=sz∧ ∀ j,j<sz→cs[o+q*sz+j]? =us[j]? :=by
       intro q us hus
       rw [add_plain] at hus
       unfold World.cells? at hus
       rw [EQ (EF _)] at hus
       obtain⟨g1,g2⟩:=vp hus
       rw [hc] at g1 g2 hus
       refine⟨g1,fun j hj=>?_⟩
       have:=g2 j hj
       rw [add_plain,hcell] at this
       exact this
      refine⟨b,o,len0,cap0,cs,tt,fz,rfl,hob,h3,h4,?_,fun i hi=>?_⟩
      ·rcases Nat.eq_zero_or_pos cap0 with hz|hz
       ·subst hz;simpa using hoff2
       ·have hlast: ∃ us,w.cells? 0 ((⟨b,o,none⟩:Addr).add ((cap0-1)*P.cellsOf e)) (P.cellsOf e)=some us:=by
         rcases ES (cap0-1) len0 with hl|hl
         ·have h8:=h6 (cap0-1) hl
          rw [En (by omega)] at h8
          cases hcs:w.cells? 0 ((⟨b,o,none⟩:Addr).add ((cap0-1)*P.cellsOf e)) (P.cellsOf e)with
          | none=>rw [hcs] at h8;cases h8
          | some us=>exact⟨us,rfl⟩
         ·obtain⟨h9,h10⟩:=h7 trivial
          have h8:=h10 (cap0-1-len0) (by omega)
          rw [En (by omega),show len0+(cap0-1-len0)=cap0-1 by omega] at h8
          cases hcs:w.cells? 0 ((⟨b,o,none⟩:Addr).add ((cap0-1)*P.cellsOf e)) (P.cellsOf e)with
          | none=>rw [hcs] at h8;cases h8
          | some us=>exact⟨us,rfl⟩
        obtain⟨us,hus⟩:=hlast
        obtain⟨g1,g2⟩:=hget _ _ hus
        have g3:=g2 (sz-1) (by omega)
        rw [En (show sz-1<us.length by omega)] at g3
        have g4:=(Ev.1 g3).1
        have:cap0*sz=(cap0-1)*sz+sz:=by
         conv=>lhs;rw [show cap0=cap0-1+1 by omega,Nat.add_mul,Nat.one_mul]
        omega
      ·have h8:=h6 i hi
       rw [En (by omega)] at h8
       cases hcs:w.cells? 0 ((⟨b,o,none⟩:Addr).add (i*P.cellsOf e)) (P.cellsOf e)with
       | none=>rw [hcs] at h8;cases h8
       | some us=>
         rw [hcs] at h8
         simp only [EL] at h8
         obtain⟨g1,g2⟩:=hget _ _ hcs
         exact⟨us,g1,g2,n,_,h8⟩
    | _=>cases hsh
def jP(w:World):Zone:=⟨fun j=>j<w.heap.size,fun j=>j<w.heap.size,fun _ h=>h⟩
theorem xK(w:World):Kept (jP w) w w:=⟨rfl,rfl,rfl,EE _,fun _ h=>h,fun _ _=>rfl⟩
theorem At{w0:World}(h:Kept (jP w0) w0 w):Below w0.heap.size w0 w:=⟨h.os,h.tape,h.output,h.size,fun j hj=>h.block j hj⟩
def nF(sz:Nat):Value→Ent
 | .slice (some a) _ cap=>⟨a.block,a.off,cap,sz,false⟩
 | _=>⟨0,0,0,sz,true⟩
def ArgRow{A:Type}(w:World)(sz:Nat)(f:A→List Value)(v:Value)(l:List A):Prop:=
 (v = .slice none 0 0∧l= [])∨ ∃ (b o len cap:Nat) (cs:Array Value) (tt:TypeId) (fz:Nat×Nat),v = .slice (some ⟨b,o,none⟩) len cap∧w.heap[b]? =some (.cells cs tt fz)∧len=l.length∧len≤cap∧cap≤maxLen∧o+cap*sz≤cs.size ∧
   ∀ i c,l[i]? =some c→ ∀ j,j<sz→cs[o+i*sz+j]? =(f c)[j]?
theorem yH{b0:Nat}{H:Type}{enc:TypeId×Value→H}{P:Program}{t e:TypeId}{dd:DataW H}{p:List MemPlace}(ht:P.underlying t=some (.slice e))(hc:P.cellsOf e=sz)(h0:0<sz)
 (hT:DataW.Trod enc P w 0 (fun _=>true) true t v dd p) (hok:Value.okWide P w .any b0 t v) (hf: ∀ n us y,DataW.trod enc P w 0 (fun _=>true) true n e us=some y→ ∃ a,us=f a): ∃ l:List A,ArgRow w sz f v l:=by
 rcases wH ht hc h0 hT hok with h|⟨b,o,len,cap,cs,tt,fz,h1,h2,h3,h4,h5,h6⟩
 ·exact⟨[],.inl ⟨h,rfl⟩⟩
 ·have hex: ∀ i,i<len→ ∃ a:A,∀ j,j<sz→cs[o+i*sz+j]? =(f a)[j]? :=by
   intro i hi
   obtain⟨us,g1,g2,n,y,g3⟩:=h6 i hi
   obtain⟨a,rfl⟩:=hf n us y g3
   exact⟨a,g2⟩
  refine⟨(List.range len).attach.map (fun i=>Classical.choose (hex i.1 (Gb.1 i.2))),.inr ⟨b,o,len,cap,cs,tt,fz,h1,h2,by simp,h3,h4,h5,?_⟩⟩
  intro i c hi j hj
  rw [E6] at hi
  obtain⟨q,hq,rfl⟩:=Eu.1 hi
  have hq1:q.1=i:=by
   obtain⟨hlt,hh⟩:=Eo.1 hq
   rw [← hh]
   simp
  have:=Classical.choose_spec (hex q.1 (Gb.1 q.2)) j hj
  rw [← hq1]
  exact this
theorem ArgRow.conc{l:List A}(h:ArgRow w sz f v l){e:Env}{b:Nat}(he:e b=some (nF sz v)):(SV.slu b 0 l.length).conc e=some v:=by
 rcases h with ⟨rfl,rfl⟩|⟨b',o,len,cap,cs,tt,fz,rfl,h2,rfl,h3,h4,h5,h6⟩
 ·simp [SV.conc,he,nF,Ent.at]
 ·simp [SV.conc,he,nF,Ent.at]
theorem ul{A:Type}{f:A→List Value}{sz:Nat}(hf: ∀ a,(f a).length=sz): ∀ (l:List A) (i j:Nat),j<sz→(l.flatMap f)[i*sz+j]? =(l[i]?).bind (fun c=>(f c)[j]?)
 | [],i,j,_=>by simp
 | a :: l,0,j,hj=>by
   rw [List.flatMap_cons,EB (by rw [hf];omega)]
   simp
 | a :: l,i+1,j,hj=>by
   rw [List.flatMap_cons,EZ (by rw [hf,Nat.add_mul];omega),hf,show(i+1)*sz+j-sz=i*sz+j by rw [Nat.add_mul];omega,ul hf l i j hj]
   simp
theorem ArgRow.lies{l:List A}(h:ArgRow w sz f v l)(hf: ∀ a,(f a).length=sz)(h0:0<sz)(rt:TypeId)(e:Env):Lies (jP w) w e (dat true l.length sz rt (l.flatMap f)) (nF sz v):=by
 rcases h with ⟨rfl,rfl⟩|⟨b,o,len,cap,cs,tt,fz,rfl,h2,rfl,h3,h4,h5,h6⟩
 ·exact .inr ⟨rfl,rfl,true,rt,_,rfl,h0⟩
 ·refine .inl ⟨rfl,.cells cs tt fz,⟨fun _=>fH h2,fun h=>by cases h⟩,h2,rfl,cs,fz,tt,rfl,h3,h5,h4,(fun h=>by cases h),h0,fun i hi s hs=>?_⟩
  have hs':((l.flatMap f)[i]?).map SV.sc=some s:=hs
  obtain⟨u,hu,rfl⟩:=Eu.1 hs'
  refine⟨u,rfl,?_⟩
  have hdm:=Nat.div_add_mod i sz
  have hm:=Nat.mod_lt i h0
  have e1:i=i / sz*sz+i % sz:=by rw [Nat.mul_comm];omega
  rw [e1,ul hf l _ _ hm] at hu
  obtain⟨c,hc,hcu⟩:=Option.bind_eq_some_iff.1 hu
  have:=h6 (i / sz) c hc (i % sz) hm
  show cs[o+i]? =some u
  rw [e1,←Nat.add_assoc,this]
  exact hcu
theorem St.init{e:Env}{H:ay}{nx:Nat}(h1: ∀ id vo,H.at' id=some vo→vo.ro=true∧ ∃ x,e id=some x∧Lies (jP w) w e vo x)(h2: ∀ i,nx≤i→e i=none):St (jP w) w e H nx w:=
 ⟨xK w,fun id vo h=>(h1 id vo h).2,fun id id' vo vo' x x' h _ _ _ _ _ _ hr _=>by(rw [(h1 id vo h).1] at hr;cases hr),h2⟩
end
end Go.Sy
end
section
namespace Go.Proofs.YtelnglhodnoclaaGreat
open Go Go.Sy Go.ChangeShapes Go.WideShapes Go.ChangeAt Go.RowKit
theorem sP{A:Type}{l:List A}(h:l.length=2): ∃ a b,l= [a,b]:=by
 rcases l with _|⟨a,_|⟨b,_|⟨c,l⟩⟩⟩
 ·simp at h
 ·simp at h
 ·exact⟨a,b,rfl⟩
 ·simp at h
theorem xH{A:Type}{l:List A}(h:l.length=3): ∃ a b c,l= [a,b,c]:=by
 rcases l with _|⟨a,_|⟨b,_|⟨c,_|⟨d,l⟩⟩⟩⟩
 ·simp at h
 ·simp at h
 ·simp at h
 ·exact⟨a,b,c,rfl⟩
 ·simp at h
section
variable {H:Type} {enc:TypeId×Value→H} {P:Program} {w:World} {base:Nat} {sp:Nat→Bool} {held:Bool} {n:Nat} {t:TypeId} {cs:List Value} {y:DataW H×List MemPlace}
theorem eT{k:IntKind}(hu:P.underlying t=some (.int k))(h:DataW.trod enc P w base sp held n t cs=some y): ∃ x,cs= [.int k x]∧(Lit.int k x).wf=true:=by
 cases n with
 | zero=>simp [DataW.trod] at h
 | succ n=>
   unfold DataW.trod at h
   rw [hu] at h
   split at h <;> simp_all
theorem sj(hu:P.underlying t=some .string)(h:DataW.trod enc P w base sp held n t cs=some y): ∃ s,cs= [.string s]:=by
 cases n with
 | zero=>simp [DataW.trod] at h
 | succ n=>
   unfold DataW.trod at h
   rw [hu] at h
   split at h <;> simp_all
end
theorem ownE:ownKnob Tryz.prog.godebug=none:=by kernel_rfl
theorem laidE:laidOutB Tryz.prog=true:=by kernel_rfl
theorem uTid:Tryz.prog.underlying 23=some (.struct (Tryz.prog.fieldsOf 23)):=by kernel_rfl
theorem fTid:(Tryz.prog.fieldsOf 23).toList.map (fun f=>(f.type,f.offset))= [(3,0),(3,1)]:=by kernel_rfl
theorem D9:Tryz.prog.cellsOf 3=1:=by kernel_rfl
theorem cTid:Tryz.prog.cellsOf 23=2:=by kernel_rfl
theorem cStr:Tryz.prog.cellsOf 9=1:=by kernel_rfl
theorem cEnt:Tryz.prog.cellsOf 25=3:=by kernel_rfl
theorem uEnt:Tryz.prog.underlying 25=some (.struct (Tryz.prog.fieldsOf 25)):=by kernel_rfl
theorem fEnt:(Tryz.prog.fieldsOf 25).toList.map (fun f=>(f.type,f.offset))= [(9,0),(23,1)]:=by kernel_rfl
section
variable {H:Type} {enc:TypeId×Value→H} {w:World} {n:Nat} {us:List Value} {y:DataW H×List MemPlace}
theorem zc(h:DataW.trod enc Tryz.prog w 0 (fun _=>true) true n 23 us=some y): ∃ a b:Int,us= [.int .i64 a,.int .i64 b]:=by
 have hf:=fTid
 have hu:=uTid
 generalize Tryz.prog.fieldsOf 23=fs at hf hu
 obtain⟨xs,m,_,_,hl,hlen,hx⟩:=DataW.trod_struct hu h
 rw [cTid] at hl
 obtain⟨l⟩:=fs
 simp only at hf
 have hl2:l.length=2:=by simpa using congrArg List.length hf
 obtain⟨f0,f1,rfl⟩:=sP hl2
 simp only [EG,List.map_nil,List.cons.injEq,Et,and_true] at hf
 obtain⟨⟨a1,a2⟩,⟨b1,b2⟩⟩:=hf
 have hlen2:xs.length=2:=by simpa using hlen
 obtain⟨u0,u1,rfl⟩:=sP hl
 have h0:=hx 0 f0 rfl
 have h1:=hx 1 f1 rfl
 rw [a1,a2,D9] at h0
 rw [b1,b2,D9] at h1
 obtain⟨_,g0⟩: ∃ y,DataW.trod enc Tryz.prog w 0 (fun _=>true) true m 3 [u0]=some y:=⟨_,h0.trans (En (by omega))⟩
 obtain⟨_,g1⟩: ∃ y,DataW.trod enc Tryz.prog w 0 (fun _=>true) true m 3 [u1]=some y:=⟨_,h1.trans (En (by omega))⟩
 obtain⟨a,ha,_⟩:=eT (F.un 3 rfl) g0
 obtain⟨b,hb,_⟩:=eT (F.un 3 rfl) g1
 simp only [List.cons.injEq,and_true] at ha hb
 exact⟨a,b,by rw [ha,hb]⟩
theorem zd(h:DataW.trod enc Tryz.prog w 0 (fun _=>true) true n 25 us=some y): ∃ e:bf,us= [.string e.1,.int .i64 e.2.1,.int .i64 e.2.2]:=by
 have hf:=fEnt
 have hu:=uEnt
 generalize Tryz.prog.fieldsOf 25=fs at hf hu
 obtain⟨xs,m,_,_,hl,hlen,hx⟩:=DataW.trod_struct hu h
 rw [cEnt] at hl
 obtain⟨l⟩:=fs
 simp only at hf
 have hl2:l.length=2:=by simpa using congrArg List.length hf
 obtain⟨f0,f1,rfl⟩:=sP hl2
 simp only [EG,List.map_nil,List.cons.injEq,Et,and_true] at hf
 obtain⟨⟨a1,a2⟩,⟨b1,b2⟩⟩:=hf
 have hlen2:xs.length=2:=by simpa using hlen
 obtain⟨u0,u1,u2,rfl⟩:=xH hl
 have h0:=hx 0 f0 rfl
 have h1:=hx 1 f1 rfl
 rw [a1,a2,cStr] at h0
 rw [b1,b2,cTid] at h1
 obtain⟨_,g0⟩: ∃ y,DataW.trod enc Tryz.prog w 0 (fun _=>true) true m 9 [u0]=some y:=⟨_,h0.trans (En (by omega))⟩
 obtain⟨_,g1⟩: ∃ y,DataW.trod enc Tryz.prog w 0 (fun _=>true) true m 23 [u1,u2]=some y:=⟨_,h1.trans (En (by omega))⟩
 obtain⟨s,hs⟩:=sj (F.un 9 rfl) g0
 obtain⟨a,b,hab⟩:=zc g1
 simp only [List.cons.injEq,and_true] at hs hab
 obtain⟨rfl,rfl⟩:=hab
 subst hs
 exact⟨(s,a,b),rfl⟩
end
theorem qq{H:Type}{enc:TypeId×Value→H}{P:Program}{w:World}{base:Nat}{sp:Nat→Bool}{held:Bool}{n:Nat}{t:TypeId}{cs:List Value}{y:DataW H×List MemPlace}(hu:P.underlying t=some .bool)(h:DataW.trod enc P w base sp held n t cs=some y): ∃ b,cs= [.bool b]:=by
 cases n with
 | zero=>simp [DataW.trod] at h
 | succ n=>
   unfold DataW.trod at h
   rw [hu] at h
   split at h <;> simp_all
abbrev StB:Type:={s:StT // -9223372036854775808≤s.left∧s.left≤9223372036854775807}
abbrev stB(a:StB):List Value:=stV a.1
theorem uStep:Tryz.prog.underlying 46=some (.struct (Tryz.prog.fieldsOf 46)):=by kernel_rfl
theorem fStep:(Tryz.prog.fieldsOf 46).toList.map (fun f=>(f.type,f.offset))= [(4,0),(25,1),(3,4),(3,5),(3,6),(5,7)]:=by kernel_rfl
theorem cStep:Tryz.prog.cellsOf 46=8:=by kernel_rfl
theorem cBool:Tryz.prog.cellsOf 4=1:=by kernel_rfl
theorem cU8:Tryz.prog.cellsOf 5=1:=by kernel_rfl
theorem Ck{A:Type}{l:List A}(h:l.length=6): ∃ a b c d e f,l= [a,b,c,d,e,f]:=by
 rcases l with _|⟨a,_|⟨b,_|⟨c,_|⟨d,_|⟨e,_|⟨f,_|⟨g,l⟩⟩⟩⟩⟩⟩⟩ <;> simp at h
 exact⟨a,b,c,d,e,f,rfl⟩
theorem xI{A:Type}{l:List A}(h:l.length=8): ∃ a b c d e f g i,l= [a,b,c,d,e,f,g,i]:=by
 rcases l with _|⟨a,_|⟨b,_|⟨c,_|⟨d,_|⟨e,_|⟨f,_|⟨g,_|⟨i,_|⟨j,l⟩⟩⟩⟩⟩⟩⟩⟩⟩ <;> simp at h
 exact⟨a,b,c,d,e,f,g,i,rfl⟩
theorem wx{H:Type}{enc:TypeId×Value→H}{w:World}{n:Nat}{us:List Value}{y:DataW H×List MemPlace}(h:DataW.trod enc Tryz.prog w 0 (fun _=>true) true n 46 us=some y): ∃ a:StB,us=stB a:=by
 have hf:=fStep
 have hu:=uStep
 generalize Tryz.prog.fieldsOf 46=fs at hf hu
 obtain⟨xs,m,_,_,hl,hlen,hx⟩:=DataW.trod_struct hu h
 rw [cStep] at hl
 obtain⟨l⟩:=fs
 simp only at hf
 have hl2:l.length=6:=by simpa using congrArg List.length hf
 obtain⟨f0,f1,f2,f3,f4,f5,rfl⟩:=Ck hl2
 simp only [EG,List.map_nil,List.cons.injEq,Et,and_true] at hf
 obtain⟨⟨a1,a2⟩,⟨b1,b2⟩,⟨c1,c2⟩,⟨d1,d2⟩,⟨e1,e2⟩,⟨k1,k2⟩⟩:=hf
 have hlen2:xs.length=6:=by simpa using hlen
 obtain⟨u0,u1,u2,u3,u4,u5,u6,u7,rfl⟩:=xI hl
 have h0:=hx 0 f0 rfl
 have h1:=hx 1 f1 rfl
 have h2:=hx 2 f2 rfl
 have h3:=hx 3 f3 rfl
 have h4:=hx 4 f4 rfl
 have h5:=hx 5 f5 rfl
 rw [a1,a2,cBool] at h0
 rw [b1,b2,cEnt] at h1
 rw [c1,c2,D9] at h2
 rw [d1,d2,D9] at h3
 rw [e1,e2,D9] at h4
 rw [k1,k2,cU8] at h5
 obtain⟨_,g0⟩: ∃ y,DataW.trod enc Tryz.prog w 0 (fun _=>true) true m 4 [u0]=some y:=⟨_,h0.trans (En (by omega))⟩
 obtain⟨_,g1⟩: ∃ y,DataW.trod enc Tryz.prog w 0 (fun _=>true) true m 25 [u1,u2,u3]=some y:=⟨_,h1.trans (En (by omega))⟩
 obtain⟨_,g2⟩: ∃ y,DataW.trod enc Tryz.prog w 0 (fun _=>true) true m 3 [u4]=some y:=⟨_,h2.trans (En (by omega))⟩
 obtain⟨_,g3⟩: ∃ y,DataW.trod enc Tryz.prog w 0 (fun _=>true) true m 3 [u5]=some y:=⟨_,h3.trans (En (by omega))⟩
 obtain⟨_,g4⟩: ∃ y,DataW.trod enc Tryz.prog w 0 (fun _=>true) true m 3 [u6]=some y:=⟨_,h4.trans (En (by omega))⟩
 obtain⟨_,g5⟩: ∃ y,DataW.trod enc Tryz.prog w 0 (fun _=>true) true m 5 [u7]=some y:=⟨_,h5.trans (En (by omega))⟩
 obtain⟨b,hb⟩:=qq (F.un 4 rfl) g0
 obtain⟨e,he⟩:=zd g1
 obtain⟨x2,hx2,hw⟩:=eT (F.un 3 rfl) g2
 obtain⟨x3,hx3,_⟩:=eT (F.un 3 rfl) g3
 obtain⟨x4,hx4,_⟩:=eT (F.un 3 rfl) g4
 obtain⟨x5,hx5,_⟩:=eT (F.un 5 rfl) g5
 have hw : -9223372036854775808≤x2∧x2≤9223372036854775807:=by
  simpa [Lit.wf,IntKind.has,IntKind.min,IntKind.max,show IntKind.i64.signed=true from rfl,show IntKind.i64.bits=64 from rfl] using hw
 simp only [List.cons.injEq,and_true] at hb he hx2 hx3 hx4 hx5
 obtain⟨rfl,rfl,rfl⟩:=he
 subst hb hx2 hx3 hx4 hx5
 exact⟨⟨⟨b,e,x2,x3,x4,x5⟩,hw⟩,rfl⟩
end Go.Proofs.YtelnglhodnoclaaGreat
end
