import Derived.Sort.AssemblyPlain
import Derived.Sort.LotD5
import Derived.Test.YtnhmbonmlfeifaaGreatV5
set_option linter.unusedVariables false
set_option linter.unusedSimpArgs false
set_option maxRecDepth 100000
set_option maxHeartbeats 0
section
namespace Go.Proofs.YtnhmbonmlfeifaaGreat
open Go Go.Sy Go.Sl Go.RowKit
section
variable {k:Nat}{p:List UInt8}{l:List (Int×Int)}
def kY(p:List UInt8)(k:Nat):Bool:=decide (k<ae p∧ar p k≠0)
theorem qI(h:kY p k=true):cn p k=(ay p k,ar p k,0):=by
 have h:=Jp h
 unfold cn
 rw [Jd (by omega),Jd h.2]
theorem oG(h:kY p k=false):cn p k=(0,0,6):=by
 have h:=of_decide_eq_false h
 unfold cn
 split
 ·rfl
 ·rw [Je (by omega)]
def rx:List Nat→List UInt8→List UInt8×Nat
 | [],p=>iP p
 | k :: S,p=>if(gy p k).2≠0 then(zeroP,(gy p k).2) else rx S (gy p k).1
theorem Bs(h:Okp p)(hk:kY p k=true):gy p k=(lf p k,0):=by
 unfold gy
 rw [Jd (by rw [(bw h.len).2 h];decide),qI hk,Jd (fun h=>h rfl)]
theorem D4(h:Okp p)(hk:kY p k=false):gy p k=(zeroP,6):=by
 unfold gy
 rw [Jd (by rw [(bw h.len).2 h];decide),oG hk,Je (by decide)]
theorem ny: ∀ (S:List Nat) (p:List UInt8),p.length=1024→(rx S p).1.length=1024
 | [],p,hp=>lP p hp
 | k :: S,p,hp=>by
   unfold rx
   split
   ·exact ai
   ·rename_i h
    refine ny S _ ?_
    have h:(gy p k).2=0:=Decidable.not_not.1 h
    unfold gy at h ⊢
    split
    ·exact ai
    ·rename_i h1
     have hr:bl p=true:=by cases h:bl p with|true=>rfl|false=>exact absurd h h1
     split
     ·exact ai
     ·rename_i h2
      have hok:=(bw hp).1 hr
      have hk:kY p k=true:=by
       cases h3:kY p k with
       | true=>rfl
       | false=>exact absurd (by rw [oG h3];decide) h2
      have:=Jp hk
      exact(oP hok this.1 this.2).ok.len
theorem ru{p:List UInt8}(h:Okp p): ∀ (S A:List Nat),Has p A→(A ++ S).Nodup→rx S (df p A)=if(∀ k∈S,kY p k=true) then(rd p (A ++ S),0) else(zeroP,6)
 | [],A,hA,_=>by
   have hok:=md h hA
   rw [Je (fun k hk=>by cases hk),Jr]
   show iP _=_
   unfold iP
   rw [Je ((bw hok.len).2 hok)]
   rfl
 | k :: S,A,hA,hnd=>by
   have hok:=md h hA
   rw [List.nodup_append] at hnd
   obtain⟨n1,n2,n3⟩:=hnd
   rw [List.nodup_cons] at n2
   have hkA:k∉A:=fun hm=>n3 k hm k Jl rfl
   unfold rx
   cases hk:kY p k with
   | true=>
     have hk2:=Jp hk
     have hA2:Has p (A ++ [k]):=⟨by
      rw [List.nodup_append]
      exact⟨n1,List.nodup_cons.2 ⟨fun h=>by(cases h),List.nodup_nil⟩,fun a ha b hb=>by rw [Jj.1 hb];exact fun e=>hkA (e ▸ ha)⟩,fun n hn=>by
      rcases List.mem_append.1 hn with h1|h1
      ·exact hA.2 n h1
      ·rw [Jj.1 h1];exact hk2⟩
     obtain⟨t1,t2,_⟩:=Has.there (B:= []) h hA2
     have hq:kY (df p A) k=true:=Jw ⟨t1,t2⟩
     rw [Bs hok hq,Jd (fun h=>h rfl)]
     have e:lf (df p A) k=df p (A ++ [k]):=by unfold df;rw [List.foldl_append];rfl
     dsimp only
     rw [e,ru h S (A ++ [k]) hA2 (by rw [Jo,List.nodup_append];exact⟨n1,List.nodup_cons.2 n2,n3⟩),Jo]
     show(if _ then(rd p (A ++ k :: S),0) else _)=_
     by_cases hall: ∀ k∈S,kY p k=true
     ·rw [Je hall,Je (fun j hj=>by rcases Js.1 hj with rfl|hj;exact hk;exact hall j hj)]
     ·rw [Jd hall,Jd (fun h2=>hall fun j hj=>h2 j (Jm _ hj))]
   | false=>
     have hq:kY (df p A) k=false:=by
      cases hq:kY (df p A) k with
      | false=>rfl
      | true=>
        have hq:=Jp hq
        have hk2:=of_decide_eq_false hk
        by_cases h0:A= []
        ·subst h0;exact absurd hq hk2
        ·obtain⟨B,hB,g⟩:=mM h h0 hA
         have h1:=g.slots
         have h2:=g.ptr k (by omega) fun hm=>hkA ((hB k).1 hm)
         exact absurd ⟨by omega,by rw [← h2.2];exact hq.2⟩ hk2
     rw [D4 hok hq,Je (by decide),Jd (fun h2=>by rw [h2 k Jl] at hk;cases hk)]
theorem Aj(h:Okp p){S:List Nat}(hS:S.Nodup):rx S p=if(∀ k∈S,kY p k=true) then(rd p S,0) else(zeroP,6):=
 ru h S [] ⟨List.nodup_nil,fun n hn=>by cases hn⟩ hS
def aM(l:List (Int×Int))(n:Nat):List Nat:=(l.filter fun t=>decide (t.1=(n:Int))).map fun t=>t.2.toNat
def tz(l:List (Int×Int)):Prop:=(∀ t∈l,mu t.1 t.2=true)∧l.Nodup
theorem gq{n:Nat}(hl: ∀ t∈l,mu t.1 t.2=true):k∈aM l n↔((n:Int),(k:Int))∈l:=by
 unfold aM
 rw [JA]
 constructor
 ·rintro⟨t,ht,rfl⟩
  rw [List.mem_filter,JE] at ht
  have h1:=Jp (hl t ht.1)
  have h2:((n:Int),((t.2.toNat:Nat):Int))=t:=Prod.ext ht.2.symm (by dsimp only;omega)
  rw [h2]
  exact ht.1
 ·intro h
  exact⟨_,List.mem_filter.2 ⟨h,Jw rfl⟩,Jv k⟩
theorem fe(h:tz l)(n:Nat):(aM l n).Nodup:=by
 unfold aM
 have h1:(l.filter fun t=>decide (t.1=(n:Int))).Nodup:=h.2.sublist List.filter_sublist
 refine List.pairwise_map.2 (h1.imp_of_mem fun {a b} ha hb hab=>?_)
 rw [List.mem_filter,JE] at ha hb
 have h2:=Jp (h.1 a ha.1)
 have h3:=Jp (h.1 b hb.1)
 intro e
 exact hab (Prod.ext (ha.2.trans hb.2.symm) (by omega))
def dq(l:List (Int×Int)):List Nat:=((List.range 96).map (32 + ·)).filter fun n=> !(aM l n).isEmpty
theorem dP{n:Nat}:n∈dq l↔32≤n∧n<128∧aM l n≠ []:=by
 unfold dq
 rw [List.mem_filter,JA]
 constructor
 ·rintro⟨⟨i,hi,rfl⟩,h⟩
  have:=Jz.1 hi
  refine⟨by omega,by omega,fun e=>?_⟩
  rw [e] at h
  cases h
 ·rintro⟨h1,h2,h3⟩
  refine⟨⟨n-32,Jz.2 (by omega),by omega⟩,?_⟩
  cases h4:aM l n with
  | nil=>exact absurd h4 h3
  | cons a b=>rfl
theorem kX(l:List (Int×Int)):(dq l).Pairwise (·< ·):=by
 unfold dq
 refine List.Pairwise.filter _ ?_
 rw [List.pairwise_map]
 exact List.pairwise_lt_range.imp fun h=>by omega
def l0(pf:Nat→List UInt8)(l:List (Int×Int)):Prop:= ∀ t∈l,kY (aX (pf t.1.toNat)).1 t.2.toNat=true
theorem lZ{pf:Nat→List UInt8}(h:tz l):l0 pf l↔ ∀ n∈dq l,∀ k∈aM l n,kY (aX (pf n)).1 k=true:=by
 constructor
 ·intro h1 n hn k hk
  have:=h1 _ ((gq h.1).1 hk)
  rwa [Jv,Jv] at this
 ·intro h1 t ht
  have h2:=Jp (h.1 t ht)
  obtain⟨a,b⟩:=t
  obtain⟨n,rfl⟩: ∃ n:Nat,a=(n:Int):=⟨a.toNat,by dsimp only at h2;omega⟩
  obtain⟨k,rfl⟩: ∃ k:Nat,b=(k:Int):=⟨b.toNat,by dsimp only at h2;omega⟩
  have h3:=(gq h.1).2 ht
  dsimp only at h2 ⊢
  rw [Jv,Jv]
  exact h1 n (dP.2 ⟨by omega,by omega,fun e=>by rw [e] at h3;cases h3⟩) k h3
end
instance (l:List (Int×Int)):Decidable (tz l):=inferInstanceAs (Decidable (_∧_))
instance (pf:Nat→List UInt8) (l:List (Int×Int)):Decidable (l0 pf l):=inferInstanceAs (Decidable (∀ t∈l,_))
def fR(pf:Nat→List UInt8)(l:List (Int×Int)):Nat×List (Nat×List UInt8):=
 if ¬ tz l then(2,[]) else if ¬ l0 pf l then(6,[]) else(0,(dq l).map fun n=>(n,rd (aX (pf n)).1 (aM l n)))
def fS:List (Nat×List UInt8)→List UInt8→Int→Int→Nat×List UInt8×Int×Int
 | [],mem,left,puts=>(0,mem,left,puts)
 | (n,x) :: r,mem,left,puts=>if left=0 then(8,mem,left,puts) else fS r (gH mem n x) (left-1) (puts+1)
section
variable {P:Program} {H:au} {T:Tr SV} {nx:Nat}
variable {d:Option Tmp} {ty:TypeId} {pos:String} {af:Array Edge} {gd:Option (Nat×Bool)}
theorem uL{t:TypeId}{x y:Operand}{s:ByteArray}{k:IntKind}{i:Nat}{v:UInt8}(hx:ak T x=some (.sc (.string s)))(hy:ak T y=some (.sc (.int k (i:Int))))(hu:P.underlying t=some .string)(hv:s[i]? =some v) :
 ReadDoes P T H ⟨d,.index t x y,ty,pos,af,gd⟩ (.sc (.int .u8 v.toNat)):=by
 refine eG fun ev w he=>?_
 have e1:=he x _ hx _ rfl
 have e2:=he y _ hy _ rfl
 simp [execOp,e1,e2,Instr.index,asIntOf,run_underlying hu,hv]
end
theorem aO{A:Type} [Inhabited A](d:Array A)(i j:Nat):(Sort.swp d i j).size=d.size:=by simp [Sort.swp]
theorem AR{x:Int}{m:Nat}(hx:x=(m:Int)-1)(hm:m<4611686018427387904):IntKind.i64.wrap (x.tdiv 2)=(((m-1) / 2:Nat):Int):=by
 subst hx
 rcases Nat.eq_zero_or_pos m with rfl|h
 ·decide
 ·rw [Int.tdiv_eq_ediv_of_nonneg (by omega),Hu _ ⟨by omega,by omega⟩]
  omega
def DO:Sort.Hint→Int
 | .unknown=>0
 | .increasing=>1
 | .decreasing=>2
theorem zw{h:Sort.Hint}:(DO h == 2)=decide (h = .decreasing):=by cases h <;> rfl
theorem B2{m:Nat}(h:m<2 ^ 64):IntKind.u64.wrap ((m:Nat):Int)=(m:Int):=by
 rw [JC _ ⟨by omega,by omega⟩]
theorem xorU{a b:Nat}(ha:a<18446744073709551616)(hb:b<18446744073709551616):zV .xor .u64 (a:Int) (b:Int)=((a ^^^ b:Nat):Int):=by
 show IntKind.u64.wrap (((BitVec.ofInt 64 (a:Int) ^^^ BitVec.ofInt 64 (b:Int)).toNat:Nat):Int)=_
 rw [BitVec.toNat_xor,BitVec.ofInt_natCast,BitVec.ofInt_natCast,BitVec.toNat_ofNat,BitVec.toNat_ofNat,Nat.mod_eq_of_lt ha,Nat.mod_eq_of_lt hb,B2]
 exact Nat.xor_lt_two_pow ha hb
theorem andU{a b:Nat}(ha:a<18446744073709551616)(hb:b<18446744073709551616):zV .and .u64 (a:Int) (b:Int)=((a &&& b:Nat):Int):=by
 show IntKind.u64.wrap (((BitVec.ofInt 64 (a:Int) &&& BitVec.ofInt 64 (b:Int)).toNat:Nat):Int)=_
 rw [BitVec.toNat_and,BitVec.ofInt_natCast,BitVec.ofInt_natCast,BitVec.toNat_ofNat,BitVec.toNat_ofNat,Nat.mod_eq_of_lt ha,Nat.mod_eq_of_lt hb,B2]
 exact Nat.and_lt_two_pow _ hb
theorem sh13(x:Nat):IntKind.u64.wrap ((x:Int)*2 ^ (min (Int.toNat 13) IntKind.u64.bits))=((x*8192 % 18446744073709551616:Nat):Int):=by
 have:(2:Int) ^ (min (Int.toNat 13) IntKind.u64.bits)=8192:=by decide
 rw [this,IntKind.wrap_u64]
 omega
theorem sh17(x:Nat):IntKind.u64.wrap ((x:Int)*2 ^ (min (Int.toNat 17) IntKind.u64.bits))=((x*131072 % 18446744073709551616:Nat):Int):=by
 have:(2:Int) ^ (min (Int.toNat 17) IntKind.u64.bits)=131072:=by decide
 rw [this,IntKind.wrap_u64]
 omega
theorem sh7(x:Nat):Int.fdiv (x:Int) (2 ^ (min (Int.toNat 7) IntKind.u64.bits))=((x / 128:Nat):Int):=by
 have:(2:Int) ^ (min (Int.toNat 7) IntKind.u64.bits)=128:=by decide
 rw [this,Int.fdiv_eq_ediv_of_nonneg _ (by decide)]
 omega
theorem sh8(x:Nat):Int.fdiv (x:Int) (2 ^ (min (Int.toNat 8) IntKind.u64.bits))=((x / 256:Nat):Int):=by
 have:(2:Int) ^ (min (Int.toNat 8) IntKind.u64.bits)=256:=by decide
 rw [this,Int.fdiv_eq_ediv_of_nonneg _ (by decide)]
 omega
abbrev xsO(x:Nat):VO:=aq 185 [.sc (.int .u64 (x:Int))]
theorem y8(x:Nat)(hx:x<18446744073709551616):Ctr Tryz.prog 120 [.ptr 0 0] [xsO x] (fun c=>c=⟨.sc (.int .u64 (Sort.xorNextN x:Int)),[some (xsO (Sort.xorNextN x))]⟩):=by
 have hA:x ^^^ (x*8192 % 18446744073709551616)<18446744073709551616:=Nat.xor_lt_two_pow (n:=64) (by omega) (by omega)
 have eA:=xorU (a:=x) (b:=x*8192 % 18446744073709551616) hx (by omega)
 have eC:Sort.xorNextN x=Sort.xorNextN x:=rfl
 conv at eC=>rhs;unfold Sort.xorNextN
 simp only at eC
 generalize x ^^^ (x*8192 % 18446744073709551616)=A at hA eA eC
 have hB:A ^^^ (A / 128)<18446744073709551616:=Nat.xor_lt_two_pow (n:=64) (by omega) (by omega)
 have eB:=xorU (a:=A) (b:=A / 128) hA (by omega)
 generalize A ^^^ (A / 128)=B at hB eB eC
 have eD:=xorU (a:=B) (b:=B*131072 % 18446744073709551616) hB (by omega)
 rw [← eC] at eD
 refine JH Tryz.func120 rfl rfl ?_
 repeat apply aj;rfl
 refine cj (by kernel_rfl) (by kernel_rfl) ?_
 repeat first|apply aU;rfl|refine bk (an (F.ag _ rfl) rfl rfl (aD rfl)) rfl rfl rfl ?_|refine dQ rfl rfl rfl (F.sz _ rfl) rfl rfl rfl ?_|refine bk (rQ rfl rfl (by decide) (sh13 x)) rfl rfl rfl ?_|refine bk (mB rfl rfl (.inr (.inr (.inl rfl))) eA) rfl rfl rfl ?_
 refine aA ⟨by kernel_rfl,?_,?_⟩;(focus(repeat(first|exact JR|apply fk;rfl|apply eI;rfl|refine⟨.inl (by kernel_rfl),?_⟩)))
 repeat apply aj;rfl
 refine cj (by kernel_rfl) (by kernel_rfl) ?_
 repeat first|apply aU;rfl|refine bk (an (F.ag _ rfl) rfl rfl (aD rfl)) rfl rfl rfl ?_|refine dQ rfl rfl rfl (F.sz _ rfl) rfl rfl rfl ?_|refine bk (oe rfl rfl (by decide) (sh7 A)) rfl rfl rfl ?_|refine bk (mB rfl rfl (.inr (.inr (.inl rfl))) eB) rfl rfl rfl ?_
 refine aA ⟨by kernel_rfl,?_,?_⟩;(focus(repeat(first|exact JR|apply fk;rfl|apply eI;rfl|refine⟨.inl (by kernel_rfl),?_⟩)))
 repeat apply aj;rfl
 refine cj (by kernel_rfl) (by kernel_rfl) ?_
 repeat first|apply aU;rfl|refine bk (an (F.ag _ rfl) rfl rfl (aD rfl)) rfl rfl rfl ?_|refine dQ rfl rfl rfl (F.sz _ rfl) rfl rfl rfl ?_|refine bk (rQ rfl rfl (by decide) (sh17 B)) rfl rfl rfl ?_|refine bk (mB rfl rfl (.inr (.inr (.inl rfl))) eD) rfl rfl rfl ?_
 refine aA ⟨by kernel_rfl,?_,?_⟩;(focus(repeat(first|exact JR|apply fk;rfl|apply eI;rfl|refine⟨.inl (by kernel_rfl),?_⟩)))
 repeat first|apply aj;rfl|apply aG;rfl;(focus((repeat(exact ac));done));rfl
 ((apply bn Tryz.func120 (congrArg Array.toList Tryz.results120));(focus(repeat(first|exact JI|apply JK rfl)));refine⟨_,rfl,Ends.mk [] (JF rfl) rfl rfl ?_⟩)
 exact(by repeat(first|exact JR|refine⟨fq rfl,?_⟩))
def Gh(s:ByteArray):Bool:=(List.range 256).all fun i=>match s[i]? with
 | some v=>v.toNat == Sort.bitsLen i
 | none=>false
theorem B3{s:ByteArray}(h:Gh s=true){i:Nat}(hi:i<256):s[i]? =some (UInt8.ofNat (Sort.bitsLen i)):=by
 unfold Gh at h
 rw [List.all_eq_true] at h
 have:=h i (Jz.2 hi)
 split at this
 ·rename_i v hv
  rw [hv,←(beq_iff_eq.1 this),UInt8.ofNat_toNat]
 ·cases this
theorem BC(x:Nat)(h:256≤x):Sort.bitsLen x=8+Sort.bitsLen (x / 256):=by
 have key: ∀ k,Sort.bitsLen (x / 256)≤k↔Sort.bitsLen x≤k+8:=fun k=>by
  rw [Sort.bitsLen_le_iff,Sort.bitsLen_le_iff,Nat.pow_add,Nat.div_lt_iff_lt_mul (by decide)]
 have h8: ¬ Sort.bitsLen x≤7:=by
  rw [Sort.bitsLen_le_iff]
  omega
 have h1:=(key (Sort.bitsLen (x / 256))).1 (HS _)
 have h2:=(key (Sort.bitsLen x-8)).2 (by omega)
 omega
theorem pS{x:Nat}(h:x<65536):Sort.bitsLen x≤16:=(Sort.bitsLen_le_iff x 16).2 h
theorem Gg{x:Nat}(h:x<65536):IntKind.i64.wrap (((UInt8.ofNat (Sort.bitsLen x)).toNat:Nat):Int)=(Sort.bitsLen x:Int):=by
 have:=pS h
 rw [UInt8.toNat_ofNat',Nat.mod_eq_of_lt (by omega),Hu _ ⟨by omega,by omega⟩]
theorem wZ(x:Nat)(hx:x<65536):Ctr Tryz.prog 117 [.sc (.int .u64 (x:Int))] [] (fun c=>c=⟨.sc (.int .i64 (Sort.bitsLen x:Int)),[]⟩):=by
 have h16:=pS hx
 refine JH Tryz.func117 rfl rfl ?_
 repeat apply aj;rfl
 refine er rfl rfl rfl rfl ?_ ?_
 all_goals intro h1
 ·exact absurd h1 (by omega)
 repeat apply aj;rfl
 refine er rfl rfl rfl rfl ?_ ?_
 all_goals intro h2
 ·exact absurd h2 (by omega)
 repeat apply aj;rfl
 refine er rfl rfl rfl rfl ?_ ?_
 all_goals intro h3
 ·have h17:=pS (x:=x / 256) (by omega)
  repeat first|apply aj;rfl|apply aK;rfl;omega;omega|refine cc (oe rfl rfl (by decide) (sh8 x)) rfl rfl rfl ?_|refine cc (bR (F.un _ rfl) (F.un _ rfl) rfl (show _=((x / 256:Nat):Int)from Go.IntWalk.u8_in _ ⟨by omega,by omega⟩)) rfl rfl rfl ?_|refine cc (uL rfl rfl (F.un _ rfl) (B3 (by kernel_rfl) (show x / 256<256 by omega))) rfl rfl rfl ?_|refine cc (bR (F.un _ rfl) (F.un _ rfl) rfl (Gg (x:=x / 256) (by omega))) rfl rfl rfl ?_
  rw [BC x (by omega)]
  (apply bP Tryz.func117 Tryz.results117;rfl)
  (refine⟨_,rfl,Ends.val (JF rfl) rfl ?_ ?_⟩)
  ·simp
  ·trivial
 ·repeat first|apply aj;rfl|apply aK;rfl;omega;omega|refine cc (bR (F.un _ rfl) (F.un _ rfl) rfl (show _=(x:Int)from Go.IntWalk.u8_in _ ⟨by omega,by omega⟩)) rfl rfl rfl ?_|refine cc (uL rfl rfl (F.un _ rfl) (B3 (by kernel_rfl) (show x<256 by omega))) rfl rfl rfl ?_|refine cc (bR (F.un _ rfl) (F.un _ rfl) rfl (Gg (x:=x) (by omega))) rfl rfl rfl ?_
  (apply bP Tryz.func117 Tryz.results117;rfl)
  (refine⟨_,rfl,Ends.val (JF rfl) rfl ?_ ?_⟩)
  ·simp
  ·trivial
theorem vE(x:Nat)(hx:x<65536):Ctr Tryz.prog 98 [.sc (.int .u64 (x:Int))] [] (fun c=>c=⟨.sc (.int .i64 (Sort.bitsLen x:Int)),[]⟩):=by
 refine JH Tryz.func98 rfl rfl ?_
 repeat first|apply aj;rfl|refine nU (wZ x hx) [] rfl rfl rfl (by kernel_rfl) rfl (JF rfl) rfl trivial ?_
 (apply bP Tryz.func98 Tryz.results98;rfl)
 (refine⟨_,rfl,Ends.val (JF rfl) rfl ?_ ?_⟩)
 ·rfl
 ·trivial
theorem GD{k:Nat}(h:k≤16):IntKind.u64.wrap ((1:Int)*2 ^ (min (Int.toNat (k:Int)) IntKind.u64.bits))=((2 ^ k:Nat):Int):=by
 have: ∀ k:Fin 17,IntKind.u64.wrap ((1:Int)*2 ^ (min (Int.toNat (k.val:Int)) IntKind.u64.bits))=((2 ^ k.val:Nat):Int):=by decide
 exact this ⟨k,by omega⟩
theorem yG(x:Nat)(hx:x<65536):Ctr Tryz.prog 119 [.sc (.int .i64 (x:Int))] [] (fun c=>c=⟨.sc (.int .u64 ((2 ^ Sort.bitsLen x:Nat):Int)),[]⟩):=by
 refine JH Tryz.func119 rfl rfl ?_
 repeat first|apply aj;rfl|refine cc (bR (F.un _ rfl) (F.un _ rfl) rfl (show _=(x:Int)from JC _ ⟨by omega,by omega⟩)) rfl rfl rfl ?_|refine nU (vE x hx) [] rfl rfl rfl (by kernel_rfl) rfl (JF rfl) rfl trivial ?_|refine cc (rQ rfl rfl (by omega) (GD (pS hx))) rfl rfl rfl ?_
 (apply bP Tryz.func119 Tryz.results119;rfl)
 (refine⟨_,rfl,Ends.val (JF rfl) rfl ?_ ?_⟩)
 ·rfl
 ·trivial
abbrev oIV:Int→List Value:=fun x=> [.int .i64 x]
abbrev b8(n:Nat)(d:Array Int):VO:=arr false n 1 3 oIV d
def bj(x y:Int):Bool:=decide ((x:Int)<(y:Int))
theorem oInan(a:Int):Ctr Tryz.prog 123 [.sc (.int .i64 a)] [] (fun c=>c=⟨.sc (.bool false),[]⟩):=by
 refine JH Tryz.func123 rfl rfl ?_
 repeat first|apply aj;rfl|refine cc (di rfl rfl (.inr (.inl ⟨rfl,rfl⟩))) rfl rfl rfl ?_
 (apply bP Tryz.func123 Tryz.results123;rfl)
 (refine⟨_,rfl,Ends.val (JF rfl) rfl ?_ ?_⟩)
 ·simp
 ·trivial
theorem fK(a b:Int):Ctr Tryz.prog 113 [.sc (.int .i64 a),.sc (.int .i64 b)] [] (fun c=>c=⟨.sc (.bool (bj a b)),[]⟩):=by
 refine JH Tryz.func113 rfl rfl ?_
 repeat first|apply aj;rfl|refine nU (oInan _) [] rfl rfl rfl (by kernel_rfl) rfl (JF rfl) rfl trivial ?_|refine cc (di rfl rfl (.inr (.inr (.inl ⟨rfl,rfl⟩)))) rfl rfl rfl ?_
 (apply bP Tryz.func113 Tryz.results113;rfl)
 (refine⟨_,rfl,Ends.val (JF rfl) rfl ?_ ?_⟩)
 ·rfl
 ·trivial
theorem oIins(n a b:Nat)(d:Array Int)(hn:n<4611686018427387904)(hd:d.size=n)(hab:a≤b)(hb:b≤n) :
 Ctr Tryz.prog 107 [.slu 0 0 n,.sc (.int .i64 (a:Int)),.sc (.int .i64 (b:Int))] [b8 n d] (fun c=>c=⟨.tup [],[some (b8 n (Sort.insertionSort bj d a b))]⟩):=by
 refine JH Tryz.func107 rfl rfl ?_
 repeat first|apply aj;rfl|apply aK;rfl;omega;omega
 refine ga 1 (fun s:Nat×Array Int=> [(0,.slu 0 0 n),(1,.sc (.int .i64 (a:Int))),(2,.sc (.int .i64 (b:Int))),(6,.sc (.int .i64 (s.1:Int)))]) (fun s=> [some (b8 n s.2)]) (fun s=>s.1≤n+1∧a<s.1∧s.2.size=n∧Sort.insOuter bj a b s.1 s.2=Sort.insertionSort bj d a b) (fun s=>n+1-s.1) (a+1,d) []
  (fun _=>rfl) ⟨by omega,by omega,hd,rfl⟩ ?_ (fun _=>rfl) (fun _=>rfl) ?_
 ·(exact JP rfl rfl rfl ⟨aB rfl,trivial⟩)
 rintro⟨i,d1⟩ ⟨hi,hai,hd1,ho⟩ ih
 simp only at hi hai hd1 ho ih ⊢
 repeat apply aj;rfl
 refine bi rfl rfl rfl rfl ?_ ?_
 all_goals intro h1
 ·repeat apply aj;rfl
  have ho2:Sort.insOuter bj a b (i+1) (Sort.insInner bj a i d1)=Sort.insertionSort bj d a b:=by
   rw [← ho]
   conv=>rhs;rw [Sort.insOuter,Je (by omega)]
  refine ga 1 (fun s:Nat×Array Int=> [(0,.slu 0 0 n),(1,.sc (.int .i64 (a:Int))),(2,.sc (.int .i64 (b:Int))),(6,.sc (.int .i64 (i:Int))),(7,.sc (.int .i64 (s.1:Int)))]) (fun s=> [some (b8 n s.2)]) (fun s=>s.1≤i∧s.2.size=n∧Sort.insInner bj a s.1 s.2=Sort.insInner bj a i d1) (fun s=>s.1) (i,d1) []
   (fun _=>rfl) ⟨by omega,hd1,rfl⟩ ?_ (fun _=>rfl) (fun _=>rfl) ?_
  ·(exact JP rfl rfl rfl ⟨aB rfl,trivial⟩)
  rintro⟨j,d2⟩ ⟨hj,hd2,hin⟩ ihj
  simp only at hj hd2 hin ihj ⊢
  repeat apply aj;rfl
  refine cj (by kernel_rfl) (by kernel_rfl) ?_
  repeat apply aU;rfl
  refine fB rfl rfl rfl rfl ?_ ?_
  all_goals intro h2
  ·obtain⟨j,rfl⟩: ∃ j',j=j'+1:=⟨j-1,by omega⟩
   have hls:=fK d2[j+1]! d2[j]!
   cases h3:bj d2[j+1]! d2[j]!
   all_goals rw [h3] at hls
   all_goals(repeat(first|apply aU;rfl|refine bk (aw rfl rfl (.inr (.inl ⟨rfl,(Hu _ ⟨(by omega),(by omega)⟩).symm⟩))) rfl rfl rfl ?_|refine aH (q:=j+1) rfl rfl rfl rfl (F.un _ rfl) (F.sz _ rfl) rfl (by omega) (by omega) (by omega) ?_|refine aH (q:=j) rfl rfl rfl rfl (F.un _ rfl) (F.sz _ rfl) rfl (by omega) (by omega) (by omega) ?_|refine cq (g:=fun x:Int=> .int .i64 x) rfl rfl rfl (F.ag _ rfl) rfl (by omega) (by omega) ?_|refine bW rfl rfl rfl (by kernel_rfl) (Ctr.callV (hls) [] rfl (JF rfl) rfl trivial rfl) ?_))
   ·refine aA ⟨by kernel_rfl,?_,?_⟩;(focus(repeat(first|exact JR|apply fk;rfl|apply eI;rfl|refine⟨.inr (by(repeat(refine⟨(by first|exact aN (F.un _ rfl) (F.sz _ rfl) rfl rfl rfl (by omega) (by omega) (by omega)|exact aw rfl rfl (.inr (.inl ⟨rfl,(Hu _ ⟨by omega,by omega⟩).symm⟩))),?_⟩));exact JR),?_⟩|refine⟨.inl (by kernel_rfl),?_⟩)))
    repeat first|apply aj;rfl|apply aK;rfl;omega;omega
    have hin2:Sort.insInner bj a i d1=d2:=by
     rw [← hin,Sort.insInner,Jd (by rw [h3];simp)]
    refine ih _ _ _ (i+1,d2) [] ⟨by omega,by omega,hd2,by rw [← hin2];exact ho2⟩ (by simp only;omega) ?_
    (exact JP rfl rfl rfl ⟨aB rfl,trivial⟩)
   ·refine aA ⟨by kernel_rfl,?_,?_⟩;(focus(repeat(first|exact JR|apply fk;rfl|apply eI;rfl|refine⟨.inr (by(repeat(refine⟨(by first|exact aN (F.un _ rfl) (F.sz _ rfl) rfl rfl rfl (by omega) (by omega) (by omega)|exact aw rfl rfl (.inr (.inl ⟨rfl,(Hu _ ⟨by omega,by omega⟩).symm⟩))),?_⟩));exact JR),?_⟩|refine⟨.inl (by kernel_rfl),?_⟩)))
    repeat apply aj;rfl
    refine cj (by kernel_rfl) (by kernel_rfl) ?_
    repeat first|apply aU;rfl|refine bk (aw rfl rfl (.inr (.inl ⟨rfl,(Hu _ ⟨(by omega),(by omega)⟩).symm⟩))) rfl rfl rfl ?_|refine aH (q:=j+1) rfl rfl rfl rfl (F.un _ rfl) (F.sz _ rfl) rfl (by omega) (by omega) (by omega) ?_|refine aH (q:=j) rfl rfl rfl rfl (F.un _ rfl) (F.sz _ rfl) rfl (by omega) (by omega) (by omega) ?_|refine cq (g:=fun x:Int=> .int .i64 x) rfl rfl rfl (F.ag _ rfl) rfl (by omega) (by omega) ?_|refine fg (g:=fun x:Int=> .int .i64 x) rfl rfl rfl (fun _=>rfl) (F.sz _ rfl) rfl (by first|omega|(simp only [Hw,aO];omega)) (by first|omega|(simp only [Hw,aO];omega)) ?_
    refine aA ⟨by kernel_rfl,?_,?_⟩;(focus(repeat(first|exact JR|apply fk;rfl|apply eI;rfl|refine⟨.inr (by(repeat(refine⟨(by first|exact aN (F.un _ rfl) (F.sz _ rfl) rfl rfl rfl (by omega) (by omega) (by omega)|exact aw rfl rfl (.inr (.inl ⟨rfl,(Hu _ ⟨by omega,by omega⟩).symm⟩))),?_⟩));exact JR),?_⟩|refine⟨.inl (by kernel_rfl),?_⟩)))
    repeat first|apply aj;rfl|apply aK;rfl;omega;omega
    refine ihj _ _ _ (j,Sort.swp d2 (j+1) j) [] ⟨by omega,by rw [aO];exact hd2,?_⟩ (by simp only;omega) ?_
    ·rw [← hin]
     conv=>rhs;rw [Sort.insInner,Je (by simp only [h3,HR,JE,and_true];omega)]
    ·(refine⟨(JF rfl),rfl,(by repeat(first|exact JR|refine⟨rfl,?_⟩|refine⟨fH (by(omega)),?_⟩)),⟨aB rfl,trivial⟩⟩)
  ·repeat first|apply aU;rfl|refine cp rfl rfl ?_
   refine aA ⟨by kernel_rfl,?_,?_⟩;(focus(repeat(first|exact JR|apply Ag;rfl|apply eI;rfl|refine⟨.inl rfl,?_⟩)))
   repeat first|apply aj;rfl|apply aK;rfl;omega;omega
   have hin2:Sort.insInner bj a i d1=d2:=by
    rw [← hin]
    cases j with
    | zero=>rfl
    | succ j=>rw [Sort.insInner,Jd (by simp only [HR,JE];omega)]
   refine ih _ _ _ (i+1,d2) [] ⟨by omega,by omega,hd2,by rw [← hin2];exact ho2⟩ (by simp only;omega) ?_
   (exact JP rfl rfl rfl ⟨aB rfl,trivial⟩)
 ·repeat apply aj;rfl
  have ho2:d1=Sort.insertionSort bj d a b:=by rw [← ho,Sort.insOuter,Jd (by omega)]
  (apply p7 Tryz.func107 (congrArg Array.toList Tryz.results107);(focus(repeat(exact JI)));refine⟨_,rfl,Ends.mk [] (JF rfl) rfl rfl ?_⟩)
  rw [← ho2]
  exact⟨aB rfl,trivial⟩
end Go.Proofs.YtnhmbonmlfeifaaGreat
end
section
namespace Go.Proofs.YtnhmbonmlfeifaaGreat
open Go Go.Sy Go.RowKit
section
variable {a b first hi i i1 i2 j j2 limit mid pivot root s:Nat}{wb wp:Bool}{p:Int→Bool}{d:Array (Int)}{lt:Int→Int→Bool}
theorem jd(lt:Int→Int→Bool)(hi first root:Nat)(d:Array (Int)):(Sort.siftDown lt hi first root d).size=d.size:=by
 induction h:hi-root using Nat.strongRecOn generalizing root d with
 | _ m ih=>
   subst h
   unfold Sort.siftDown
   split
   ·rfl
   ·split
    ·split
     ·rfl
     ·split
      ·rw [ih _ (by omega) _ _ rfl,aO]
      ·rfl
    ·split
     ·rfl
     ·rw [ih _ (by omega) _ _ rfl,aO]
theorem sa(h:hi≤2*root+1):Sort.siftDown lt hi first root d=d:=by
 unfold Sort.siftDown
 rw [dif_pos h]
theorem yY(h:2*root+2<hi)(hl:lt d[first+(2*root+1)]! d[first+(2*root+2)]! =true) :
 Sort.siftDown lt hi first root d=if lt d[first+root]! d[first+(2*root+2)]! =true then Sort.siftDown lt hi first (2*root+2) (Sort.swp d (first+root) (first+(2*root+2))) else d:=by
 conv=>lhs;unfold Sort.siftDown
 rw [dif_neg (by omega),Je (by simp only [HR,JE];exact⟨by omega,hl⟩)]
 cases lt d[first+root]! d[first+(2*root+2)]!
 ·simp
 ·simp only [Bool.not_true,Bool.false_eq_true,if_false,if_true]
  rw [dif_pos (by omega)]
theorem sb(h:2*root+1<hi)(hl:hi≤2*root+2∨lt d[first+(2*root+1)]! d[first+(2*root+2)]! =false) :
 Sort.siftDown lt hi first root d=if lt d[first+root]! d[first+(2*root+1)]! =true then Sort.siftDown lt hi first (2*root+1) (Sort.swp d (first+root) (first+(2*root+1))) else d:=by
 conv=>lhs;unfold Sort.siftDown
 rw [dif_neg (by omega),Jd (by
  simp only [HR,JE]
  rintro⟨h1,h2⟩
  rcases hl with hl|hl
  ·omega
  ·rw [show first+(2*root+2)=first+(2*root+1)+1 by omega,h2] at hl;cases hl)]
 cases lt d[first+root]! d[first+(2*root+1)]! <;> simp
theorem nc(n lo hi first:Nat)(d:Array (Int))(hn:n<4611686018427387904)(hd:d.size=n)(hf:first+hi≤n)(hlo:lo≤n) :
 Ctr Tryz.prog 118 [.slu 0 0 n,.sc (.int .i64 (lo:Int)),.sc (.int .i64 (hi:Int)),.sc (.int .i64 (first:Int))] [b8 n d] (fun c=>c=⟨.tup [],[some (b8 n (Sort.siftDown bj hi first lo d))]⟩):=by
 refine JH Tryz.func118 rfl rfl ?_
 repeat apply aj;rfl
 refine ga 1 (fun s:Nat×Array (Int)=> [(0,.slu 0 0 n),(2,.sc (.int .i64 (hi:Int))),(3,.sc (.int .i64 (first:Int))),(8,.sc (.int .i64 (s.1:Int)))]) (fun s=> [some (b8 n s.2)]) (fun s=>s.1≤n∧s.2.size=n∧Sort.siftDown bj hi first s.1 s.2=Sort.siftDown bj hi first lo d) (fun s=>n-s.1) (lo,d) []
  (fun _=>rfl) ⟨hlo,hd,rfl⟩ ?_ (fun _=>rfl) (fun _=>rfl) ?_
 ·(exact JP rfl rfl rfl ⟨aB rfl,trivial⟩)
 rintro⟨r,d1⟩ ⟨hr,hd1,ho⟩ ih
 simp only at hr hd1 ho ih ⊢
 repeat first|apply aj;rfl|apply aK;rfl;omega;omega
 refine er rfl rfl rfl rfl ?_ ?_
 all_goals intro h1
 ·repeat apply aj;rfl
  ((apply p7 Tryz.func118 (congrArg Array.toList Tryz.results118));(focus(repeat(exact JI)));refine⟨_,rfl,Ends.mk [] (JF rfl) rfl rfl ?_⟩)
  rw [← ho,sa (by omega)]
  exact⟨aB rfl,trivial⟩
 ·repeat apply aj;rfl
  refine cj (by kernel_rfl) (by kernel_rfl) ?_
  repeat first|apply aU;rfl|refine bk (aw rfl rfl (.inl ⟨rfl,(Hu _ ⟨(by omega),(by omega)⟩).symm⟩)) rfl rfl rfl ?_
  refine cJ rfl rfl rfl rfl ?_ ?_
  all_goals intro h2
  ·have hls_h3:=fK (d1[first+(2*r+1)]!) (d1[first+(2*r+2)]!)
   cases h3:bj (d1[first+(2*r+1)]!) (d1[first+(2*r+2)]!)
   all_goals rw [h3] at hls_h3
   rotate_left
   all_goals(repeat(first|apply aU;rfl|refine bk (aw rfl rfl (.inl ⟨rfl,(Hu _ ⟨(by omega),(by omega)⟩).symm⟩)) rfl rfl rfl ?_|refine cq (g:=fun x:Int=> .int .i64 x) rfl rfl rfl (F.ag _ rfl) rfl (by(omega)) (by(omega)) ?_|refine aH (q:=first+(2*r+1)) rfl rfl rfl rfl (F.un _ rfl) (F.sz _ rfl) rfl (by omega) (by omega) (by omega) ?_|refine aH (q:=first+(2*r+2)) rfl rfl rfl rfl (F.un _ rfl) (F.sz _ rfl) rfl (by omega) (by omega) (by omega) ?_|refine bW rfl rfl rfl (by kernel_rfl) (Ctr.callV (hls_h3) [] rfl (JF rfl) rfl trivial rfl) ?_))
   ·have e:=yY (lt:=bj) (hi:=hi) (first:=first) (root:=r) (d:=d1) (by omega) (by simpa [bj] using h3)
    refine aA ⟨by kernel_rfl,?_,?_⟩;(focus(repeat(first|exact JR|apply fk;rfl|apply eI;rfl|refine⟨.inr (by(repeat(refine⟨(by first|exact aN (F.un _ rfl) (F.sz _ rfl) rfl rfl rfl (by omega) (by omega) (by omega)|exact aw rfl rfl (.inl ⟨rfl,(Hu _ ⟨by omega,by omega⟩).symm⟩)),?_⟩));exact JR),?_⟩|refine⟨.inl (by kernel_rfl),?_⟩)))
    repeat first|apply aj;rfl|apply aK;rfl;omega;omega
    refine cj (by kernel_rfl) (by kernel_rfl) ?_
    have hls_h4:=fK (d1[first+r]!) (d1[first+(2*r+2)]!)
    cases h4:bj (d1[first+r]!) (d1[first+(2*r+2)]!)
    all_goals rw [h4] at hls_h4
    rotate_left
    all_goals(repeat(first|apply aU;rfl|refine bk (aw rfl rfl (.inl ⟨rfl,(Hu _ ⟨(by omega),(by omega)⟩).symm⟩)) rfl rfl rfl ?_|refine cq (g:=fun x:Int=> .int .i64 x) rfl rfl rfl (F.ag _ rfl) rfl (by(omega)) (by(omega)) ?_|refine aH (q:=first+r) rfl rfl rfl rfl (F.un _ rfl) (F.sz _ rfl) rfl (by omega) (by omega) (by omega) ?_|refine aH (q:=first+(2*r+2)) rfl rfl rfl rfl (F.un _ rfl) (F.sz _ rfl) rfl (by omega) (by omega) (by omega) ?_|refine bW rfl rfl rfl (by kernel_rfl) (Ctr.callV (hls_h4) [] rfl (JF rfl) rfl trivial rfl) ?_))
    ·rw [Je (by simpa [bj] using h4)] at e
     refine aA ⟨by kernel_rfl,?_,?_⟩;(focus(repeat(first|exact JR|apply fk;rfl|apply eI;rfl|refine⟨.inr (by(repeat(refine⟨(by first|exact aN (F.un _ rfl) (F.sz _ rfl) rfl rfl rfl (by omega) (by omega) (by omega)|exact aw rfl rfl (.inl ⟨rfl,(Hu _ ⟨by omega,by omega⟩).symm⟩)),?_⟩));exact JR),?_⟩|refine⟨.inl (by kernel_rfl),?_⟩)))
     repeat apply aj;rfl
     refine cj (by kernel_rfl) (by kernel_rfl) ?_
     repeat first|apply aU;rfl|refine bk (aw rfl rfl (.inl ⟨rfl,(Hu _ ⟨(by omega),(by omega)⟩).symm⟩)) rfl rfl rfl ?_|refine cq (g:=fun x:Int=> .int .i64 x) rfl rfl rfl (F.ag _ rfl) rfl (by(omega)) (by(omega)) ?_|refine fg (g:=fun x:Int=> .int .i64 x) rfl rfl rfl (fun _=>rfl) (F.sz _ rfl) rfl (by first|omega|(simp only [Hw,aO];omega)) (by first|omega|(simp only [Hw,aO];omega)) ?_|refine aH (q:=first+r) rfl rfl rfl rfl (F.un _ rfl) (F.sz _ rfl) rfl (by omega) (by omega) (by omega) ?_|refine aH (q:=first+(2*r+2)) rfl rfl rfl rfl (F.un _ rfl) (F.sz _ rfl) rfl (by omega) (by omega) (by omega) ?_
     refine aA ⟨by kernel_rfl,?_,?_⟩;(focus(repeat(first|exact JR|apply fk;rfl|apply eI;rfl|refine⟨.inr (by(repeat(refine⟨(by first|exact aN (F.un _ rfl) (F.sz _ rfl) rfl rfl rfl (by omega) (by omega) (by omega)|exact aw rfl rfl (.inl ⟨rfl,(Hu _ ⟨by omega,by omega⟩).symm⟩)),?_⟩));exact JR),?_⟩|refine⟨.inl (by kernel_rfl),?_⟩)))
     repeat apply aj;rfl
     refine ih _ _ _ (2*r+2,Sort.swp d1 (first+r) (first+(2*r+2))) [] ⟨by simp only;omega,by rw [aO];exact hd1,by rw [← ho,e]⟩ (by simp only;omega) ?_
     (exact JP rfl rfl rfl ⟨aB rfl,trivial⟩)
    ·rw [Jd (by simpa [bj] using h4)] at e
     refine aA ⟨by kernel_rfl,?_,?_⟩;(focus(repeat(first|exact JR|apply fk;rfl|apply eI;rfl|refine⟨.inr (by(repeat(refine⟨(by first|exact aN (F.un _ rfl) (F.sz _ rfl) rfl rfl rfl (by omega) (by omega) (by omega)|exact aw rfl rfl (.inl ⟨rfl,(Hu _ ⟨by omega,by omega⟩).symm⟩)),?_⟩));exact JR),?_⟩|refine⟨.inl (by kernel_rfl),?_⟩)))
     repeat apply aj;rfl
     ((apply bn Tryz.func118 (congrArg Array.toList Tryz.results118));(focus(repeat(exact JI)));refine⟨_,rfl,Ends.mk [] (JF rfl) rfl rfl ?_⟩)
     rw [← ho,e]
     exact⟨aB rfl,trivial⟩
   ·have e:=sb (lt:=bj) (hi:=hi) (first:=first) (root:=r) (d:=d1) (by omega) (.inr (by simpa [bj] using h3))
    refine aA ⟨by kernel_rfl,?_,?_⟩;(focus(repeat(first|exact JR|apply fk;rfl|apply eI;rfl|refine⟨.inr (by(repeat(refine⟨(by first|exact aN (F.un _ rfl) (F.sz _ rfl) rfl rfl rfl (by omega) (by omega) (by omega)|exact aw rfl rfl (.inl ⟨rfl,(Hu _ ⟨by omega,by omega⟩).symm⟩)),?_⟩));exact JR),?_⟩|refine⟨.inl (by kernel_rfl),?_⟩)))
    repeat apply aj;rfl
    refine cj (by kernel_rfl) (by kernel_rfl) ?_
    have hls_h4:=fK (d1[first+r]!) (d1[first+(2*r+1)]!)
    cases h4:bj (d1[first+r]!) (d1[first+(2*r+1)]!)
    all_goals rw [h4] at hls_h4
    rotate_left
    all_goals(repeat(first|apply aU;rfl|refine bk (aw rfl rfl (.inl ⟨rfl,(Hu _ ⟨(by omega),(by omega)⟩).symm⟩)) rfl rfl rfl ?_|refine cq (g:=fun x:Int=> .int .i64 x) rfl rfl rfl (F.ag _ rfl) rfl (by(omega)) (by(omega)) ?_|refine aH (q:=first+r) rfl rfl rfl rfl (F.un _ rfl) (F.sz _ rfl) rfl (by omega) (by omega) (by omega) ?_|refine aH (q:=first+(2*r+1)) rfl rfl rfl rfl (F.un _ rfl) (F.sz _ rfl) rfl (by omega) (by omega) (by omega) ?_|refine bW rfl rfl rfl (by kernel_rfl) (Ctr.callV (hls_h4) [] rfl (JF rfl) rfl trivial rfl) ?_))
    ·rw [Je (by simpa [bj] using h4)] at e
     refine aA ⟨by kernel_rfl,?_,?_⟩;(focus(repeat(first|exact JR|apply fk;rfl|apply eI;rfl|refine⟨.inr (by(repeat(refine⟨(by first|exact aN (F.un _ rfl) (F.sz _ rfl) rfl rfl rfl (by omega) (by omega) (by omega)|exact aw rfl rfl (.inl ⟨rfl,(Hu _ ⟨by omega,by omega⟩).symm⟩)),?_⟩));exact JR),?_⟩|refine⟨.inl (by kernel_rfl),?_⟩)))
     repeat apply aj;rfl
     refine cj (by kernel_rfl) (by kernel_rfl) ?_
     repeat first|apply aU;rfl|refine bk (aw rfl rfl (.inl ⟨rfl,(Hu _ ⟨(by omega),(by omega)⟩).symm⟩)) rfl rfl rfl ?_|refine cq (g:=fun x:Int=> .int .i64 x) rfl rfl rfl (F.ag _ rfl) rfl (by(omega)) (by(omega)) ?_|refine fg (g:=fun x:Int=> .int .i64 x) rfl rfl rfl (fun _=>rfl) (F.sz _ rfl) rfl (by first|omega|(simp only [Hw,aO];omega)) (by first|omega|(simp only [Hw,aO];omega)) ?_|refine aH (q:=first+r) rfl rfl rfl rfl (F.un _ rfl) (F.sz _ rfl) rfl (by omega) (by omega) (by omega) ?_|refine aH (q:=first+(2*r+1)) rfl rfl rfl rfl (F.un _ rfl) (F.sz _ rfl) rfl (by omega) (by omega) (by omega) ?_
     refine aA ⟨by kernel_rfl,?_,?_⟩;(focus(repeat(first|exact JR|apply fk;rfl|apply eI;rfl|refine⟨.inr (by(repeat(refine⟨(by first|exact aN (F.un _ rfl) (F.sz _ rfl) rfl rfl rfl (by omega) (by omega) (by omega)|exact aw rfl rfl (.inl ⟨rfl,(Hu _ ⟨by omega,by omega⟩).symm⟩)),?_⟩));exact JR),?_⟩|refine⟨.inl (by kernel_rfl),?_⟩)))
     repeat apply aj;rfl
     refine ih _ _ _ (2*r+1,Sort.swp d1 (first+r) (first+(2*r+1))) [] ⟨by simp only;omega,by rw [aO];exact hd1,by rw [← ho,e]⟩ (by simp only;omega) ?_
     (exact JP rfl rfl rfl ⟨aB rfl,trivial⟩)
    ·rw [Jd (by simpa [bj] using h4)] at e
     refine aA ⟨by kernel_rfl,?_,?_⟩;(focus(repeat(first|exact JR|apply fk;rfl|apply eI;rfl|refine⟨.inr (by(repeat(refine⟨(by first|exact aN (F.un _ rfl) (F.sz _ rfl) rfl rfl rfl (by omega) (by omega) (by omega)|exact aw rfl rfl (.inl ⟨rfl,(Hu _ ⟨by omega,by omega⟩).symm⟩)),?_⟩));exact JR),?_⟩|refine⟨.inl (by kernel_rfl),?_⟩)))
     repeat apply aj;rfl
     ((apply bn Tryz.func118 (congrArg Array.toList Tryz.results118));(focus(repeat(exact JI)));refine⟨_,rfl,Ends.mk [] (JF rfl) rfl rfl ?_⟩)
     rw [← ho,e]
     exact⟨aB rfl,trivial⟩
  ·have e:=sb (lt:=bj) (hi:=hi) (first:=first) (root:=r) (d:=d1) (by omega) (.inl (by omega))
   repeat first|apply aU;rfl|refine cp rfl rfl ?_
   refine aA ⟨by kernel_rfl,?_,?_⟩;(focus(repeat(first|exact JR|apply Ag;rfl|apply eI;rfl|refine⟨.inl rfl,?_⟩)))
   repeat apply aj;rfl
   refine cj (by kernel_rfl) (by kernel_rfl) ?_
   have hls_h4:=fK (d1[first+r]!) (d1[first+(2*r+1)]!)
   cases h4:bj (d1[first+r]!) (d1[first+(2*r+1)]!)
   all_goals rw [h4] at hls_h4
   rotate_left
   all_goals(repeat(first|apply aU;rfl|refine bk (aw rfl rfl (.inl ⟨rfl,(Hu _ ⟨(by omega),(by omega)⟩).symm⟩)) rfl rfl rfl ?_|refine cq (g:=fun x:Int=> .int .i64 x) rfl rfl rfl (F.ag _ rfl) rfl (by(omega)) (by(omega)) ?_|refine aH (q:=first+r) rfl rfl rfl rfl (F.un _ rfl) (F.sz _ rfl) rfl (by omega) (by omega) (by omega) ?_|refine aH (q:=first+(2*r+1)) rfl rfl rfl rfl (F.un _ rfl) (F.sz _ rfl) rfl (by omega) (by omega) (by omega) ?_|refine bW rfl rfl rfl (by kernel_rfl) (Ctr.callV (hls_h4) [] rfl (JF rfl) rfl trivial rfl) ?_))
   ·rw [Je (by simpa [bj] using h4)] at e
    refine aA ⟨by kernel_rfl,?_,?_⟩;(focus(repeat(first|exact JR|apply fk;rfl|apply eI;rfl|refine⟨.inr (by(repeat(refine⟨(by first|exact aN (F.un _ rfl) (F.sz _ rfl) rfl rfl rfl (by omega) (by omega) (by omega)|exact aw rfl rfl (.inl ⟨rfl,(Hu _ ⟨by omega,by omega⟩).symm⟩)),?_⟩));exact JR),?_⟩|refine⟨.inl (by kernel_rfl),?_⟩)))
    repeat apply aj;rfl
    refine cj (by kernel_rfl) (by kernel_rfl) ?_
    repeat first|apply aU;rfl|refine bk (aw rfl rfl (.inl ⟨rfl,(Hu _ ⟨(by omega),(by omega)⟩).symm⟩)) rfl rfl rfl ?_|refine cq (g:=fun x:Int=> .int .i64 x) rfl rfl rfl (F.ag _ rfl) rfl (by(omega)) (by(omega)) ?_|refine fg (g:=fun x:Int=> .int .i64 x) rfl rfl rfl (fun _=>rfl) (F.sz _ rfl) rfl (by first|omega|(simp only [Hw,aO];omega)) (by first|omega|(simp only [Hw,aO];omega)) ?_|refine aH (q:=first+r) rfl rfl rfl rfl (F.un _ rfl) (F.sz _ rfl) rfl (by omega) (by omega) (by omega) ?_|refine aH (q:=first+(2*r+1)) rfl rfl rfl rfl (F.un _ rfl) (F.sz _ rfl) rfl (by omega) (by omega) (by omega) ?_
    refine aA ⟨by kernel_rfl,?_,?_⟩;(focus(repeat(first|exact JR|apply fk;rfl|apply eI;rfl|refine⟨.inr (by(repeat(refine⟨(by first|exact aN (F.un _ rfl) (F.sz _ rfl) rfl rfl rfl (by omega) (by omega) (by omega)|exact aw rfl rfl (.inl ⟨rfl,(Hu _ ⟨by omega,by omega⟩).symm⟩)),?_⟩));exact JR),?_⟩|refine⟨.inl (by kernel_rfl),?_⟩)))
    repeat apply aj;rfl
    refine ih _ _ _ (2*r+1,Sort.swp d1 (first+r) (first+(2*r+1))) [] ⟨by simp only;omega,by rw [aO];exact hd1,by rw [← ho,e]⟩ (by simp only;omega) ?_
    (exact JP rfl rfl rfl ⟨aB rfl,trivial⟩)
   ·rw [Jd (by simpa [bj] using h4)] at e
    refine aA ⟨by kernel_rfl,?_,?_⟩;(focus(repeat(first|exact JR|apply fk;rfl|apply eI;rfl|refine⟨.inr (by(repeat(refine⟨(by first|exact aN (F.un _ rfl) (F.sz _ rfl) rfl rfl rfl (by omega) (by omega) (by omega)|exact aw rfl rfl (.inl ⟨rfl,(Hu _ ⟨by omega,by omega⟩).symm⟩)),?_⟩));exact JR),?_⟩|refine⟨.inl (by kernel_rfl),?_⟩)))
    repeat apply aj;rfl
    ((apply bn Tryz.func118 (congrArg Array.toList Tryz.results118));(focus(repeat(exact JI)));refine⟨_,rfl,Ends.mk [] (JF rfl) rfl rfl ?_⟩)
    rw [← ho,e]
    exact⟨aB rfl,trivial⟩
theorem sk(n a b:Nat)(d:Array (Int))(hn:n<4611686018427387904)(hd:d.size=n)(hab:a≤b)(hb:b≤n) :
 Ctr Tryz.prog 108 [.slu 0 0 n,.sc (.int .i64 (a:Int)),.sc (.int .i64 (b:Int))] [b8 n d] (fun c=>c=⟨.tup [],[some (b8 n (Sort.heapSort bj d a b))]⟩):=by
 refine JH Tryz.func108 rfl rfl ?_
 repeat first|apply aj;rfl|apply aK;rfl;omega;omega
 refine cc (pB rfl rfl (by decide) (show _=(((b-a-1) / 2:Nat):Int)from AR (m:=b-a) (by omega) (by omega))) rfl rfl rfl ?_
 repeat apply aj;rfl
 refine ga 1 (fun s:Nat×Array (Int)=> [(0,.slu 0 0 n),(6,.sc (.int .i64 (a:Int))),(7,.sc (.int .i64 0)),(8,.sc (.int .i64 ((b-a:Nat):Int))),(9,.sc (.int .i64 ((s.1:Int)-1)))]) (fun s=> [some (b8 n s.2)]) (fun s=>s.1≤(b-a-1) / 2+1∧s.2.size=n∧Sort.heapBuild bj (b-a) a s.1 s.2=Sort.heapBuild bj (b-a) a ((b-a-1) / 2+1) d) (fun s=>s.1) ((b-a-1) / 2+1,d) []
  (fun _=>rfl) ⟨HS _,hd,rfl⟩ ?_ (fun _=>rfl) (fun _=>rfl) ?_
 ·(refine⟨(JF rfl),rfl,(by repeat(first|exact JR|refine⟨rfl,?_⟩|refine⟨fH (by(omega)),?_⟩)),⟨aB rfl,trivial⟩⟩)
 rintro⟨k,d1⟩ ⟨hk,hd1,ho⟩ ih
 simp only at hk hd1 ho ih ⊢
 repeat apply aj;rfl
 refine er rfl rfl rfl rfl ?_ ?_
 all_goals intro h1
 ·obtain⟨k,rfl⟩: ∃ k',k=k'+1:=⟨k-1,by omega⟩
  have ek:((k+1:Nat):Int)-1=(k:Int):=by omega
  rw [ek]
  repeat first|apply aj;rfl|apply aK;rfl;omega;omega|refine ci rfl rfl rfl (by kernel_rfl) (Ctr.dL (nc n k (b-a) a d1 hn hd1 (by omega) (by omega)) [0] rfl (JF rfl) rfl ⟨aB rfl,trivial⟩ rfl (by repeat(first|exact JR|refine⟨bJ,?_⟩)) (fun _=>rfl) rfl rfl) ?_
  refine ih _ _ _ (k,Sort.siftDown bj (b-a) a k d1) [] ⟨by simp only;omega,by rw [jd];exact hd1,by rw [← ho];rfl⟩ (by simp only;omega) ?_
  (exact JP rfl rfl rfl ⟨aB rfl,trivial⟩)
 ·obtain rfl:k=0:=by omega
  have ho1:d1=Sort.heapBuild bj (b-a) a ((b-a-1) / 2+1) d:=ho
  repeat first|apply aj;rfl|apply aK;rfl;omega;omega
  refine ga 1 (fun s:Nat×Array (Int)=> [(0,.slu 0 0 n),(6,.sc (.int .i64 (a:Int))),(7,.sc (.int .i64 0)),(10,.sc (.int .i64 ((s.1:Int)-1)))]) (fun s=> [some (b8 n s.2)]) (fun s=>s.1≤b-a∧s.2.size=n∧Sort.heapPop bj a s.1 s.2=Sort.heapSort bj d a b) (fun s=>s.1) (b-a,d1) []
   (fun _=>rfl) ⟨HS _,hd1,by rw [ho1];rfl⟩ ?_ (fun _=>rfl) (fun _=>rfl) ?_
  ·(exact JP rfl rfl rfl ⟨aB rfl,trivial⟩)
  rintro⟨m,d2⟩ ⟨hm,hd2,hp⟩ ihm
  simp only at hm hd2 hp ihm ⊢
  repeat apply aj;rfl
  refine er rfl rfl rfl rfl ?_ ?_
  all_goals intro h2
  ·obtain⟨m,rfl⟩: ∃ m',m=m'+1:=⟨m-1,by omega⟩
   have em:((m+1:Nat):Int)-1=(m:Int):=by omega
   rw [em]
   repeat apply aj;rfl
   refine cj (by kernel_rfl) (by kernel_rfl) ?_
   repeat first|apply aU;rfl|refine bk (aw rfl rfl (.inl ⟨rfl,(Hu _ ⟨(by omega),(by omega)⟩).symm⟩)) rfl rfl rfl ?_|refine cq (g:=fun x:Int=> .int .i64 x) rfl rfl rfl (F.ag _ rfl) rfl (by(omega)) (by(omega)) ?_|refine fg (g:=fun x:Int=> .int .i64 x) rfl rfl rfl (fun _=>rfl) (F.sz _ rfl) rfl (by first|omega|(simp only [Hw,aO];omega)) (by first|omega|(simp only [Hw,aO];omega)) ?_|refine aH (q:=a) rfl rfl rfl rfl (F.un _ rfl) (F.sz _ rfl) rfl (by omega) (by omega) (by omega) ?_|refine aH (q:=a+m) rfl rfl rfl rfl (F.un _ rfl) (F.sz _ rfl) rfl (by omega) (by omega) (by omega) ?_
   refine aA ⟨by kernel_rfl,?_,?_⟩;(focus(repeat(first|exact JR|apply fk;rfl|apply eI;rfl|refine⟨.inr (by(repeat(refine⟨(by first|exact aN (F.un _ rfl) (F.sz _ rfl) rfl rfl rfl (by omega) (by omega) (by omega)|exact aw rfl rfl (.inl ⟨rfl,(Hu _ ⟨by omega,by omega⟩).symm⟩)),?_⟩));exact JR),?_⟩|refine⟨.inl (by kernel_rfl),?_⟩)))
   repeat first|apply aj;rfl|apply aK;rfl;omega;omega|refine ci rfl rfl rfl (by kernel_rfl) (Ctr.dL (nc n 0 m a (Sort.swp d2 a (a+m)) hn (by rw [aO];exact hd2) (by omega) (by omega)) [0] rfl (JF rfl) rfl ⟨aB rfl,trivial⟩ rfl (by repeat(first|exact JR|refine⟨bJ,?_⟩)) (fun _=>rfl) rfl rfl) ?_
   refine ihm _ _ _ (m,Sort.siftDown bj m a 0 (Sort.swp d2 a (a+m))) [] ⟨by simp only;omega,by rw [jd,aO];exact hd2,by rw [← hp];rfl⟩ (by simp only;omega) ?_
   (exact JP rfl rfl rfl ⟨aB rfl,trivial⟩)
  ·obtain rfl:m=0:=by omega
   repeat apply aj;rfl
   ((apply p7 Tryz.func108 (congrArg Array.toList Tryz.results108));(focus(repeat(exact JI)));refine⟨_,rfl,Ends.mk [] (JF rfl) rfl rfl ?_⟩)
   rw [← hp]
   exact⟨aB rfl,trivial⟩
theorem tV(n a b:Nat)(d:Array (Int))(hn:n<4611686018427387904)(hd:d.size=n)(hab:a<b)(hb:b≤n) :
 Ctr Tryz.prog 111 [.slu 0 0 n,.sc (.int .i64 (a:Int)),.sc (.int .i64 (b:Int))] [b8 n d] (fun c=>c=⟨.tup [],[some (b8 n (Sort.reverseRange d a b))]⟩):=by
 refine JH Tryz.func111 rfl rfl ?_
 repeat first|apply aj;rfl|apply aK;rfl;omega;omega
 refine ga 1 (fun s:(Nat×Nat)×Array (Int)=> [(0,.slu 0 0 n),(6,.sc (.int .i64 (s.1.1:Int))),(7,.sc (.int .i64 (s.1.2:Int)))]) (fun s=> [some (b8 n s.2)]) (fun s=>s.1.1≤n∧s.1.2<n∧s.1.1≤s.1.2+1∧s.2.size=n∧Sort.reverseLoop s.1.1 s.1.2 s.2=Sort.reverseRange d a b) (fun s=>s.1.2+1-s.1.1) ((a,b-1),d) []
  (fun _=>rfl) ⟨by simp only;omega,by simp only;omega,by simp only;omega,hd,rfl⟩ ?_ (fun _=>rfl) (fun _=>rfl) ?_
 ·(refine⟨(JF rfl),rfl,(by repeat(first|exact JR|refine⟨rfl,?_⟩|refine⟨fH (by(simp only;omega)),?_⟩)),⟨aB rfl,trivial⟩⟩)
 rintro⟨⟨i,j⟩,d1⟩ ⟨hi,hj,hij,hd1,ho⟩ ih
 simp only at hi hj hij hd1 ho ih ⊢
 repeat apply aj;rfl
 refine bi rfl rfl rfl rfl ?_ ?_
 all_goals intro h1
 ·repeat apply aj;rfl
  refine cj (by kernel_rfl) (by kernel_rfl) ?_
  repeat first|apply aU;rfl|refine cq (g:=fun x:Int=> .int .i64 x) rfl rfl rfl (F.ag _ rfl) rfl (by(omega)) (by(omega)) ?_|refine fg (g:=fun x:Int=> .int .i64 x) rfl rfl rfl (fun _=>rfl) (F.sz _ rfl) rfl (by first|omega|(simp only [Hw,aO];omega)) (by first|omega|(simp only [Hw,aO];omega)) ?_|refine aH (q:=i) rfl rfl rfl rfl (F.un _ rfl) (F.sz _ rfl) rfl (by omega) (by omega) (by omega) ?_|refine aH (q:=j) rfl rfl rfl rfl (F.un _ rfl) (F.sz _ rfl) rfl (by omega) (by omega) (by omega) ?_
  refine aA ⟨by kernel_rfl,?_,?_⟩;(focus(repeat(first|exact JR|apply fk;rfl|apply eI;rfl|refine⟨.inr (by(repeat(refine⟨(by(exact aN (F.un _ rfl) (F.sz _ rfl) rfl rfl rfl (by omega) (by omega) (by omega))),?_⟩));exact JR),?_⟩|refine⟨.inl (by kernel_rfl),?_⟩)))
  repeat first|apply aj;rfl|apply aK;rfl;omega;omega
  refine ih _ _ _ ((i+1,j-1),Sort.swp d1 i j) [] ⟨by simp only;omega,by simp only;omega,by simp only;omega,by rw [aO];exact hd1,?_⟩ (by simp only;omega) ?_
  ·rw [← ho]
   conv=>rhs;rw [Sort.reverseLoop,Je (by omega)]
  ·(refine⟨(JF rfl),rfl,(by repeat(first|exact JR|refine⟨rfl,?_⟩|refine⟨fH (by(simp only;omega)),?_⟩)),⟨aB rfl,trivial⟩⟩)
 ·repeat apply aj;rfl
  ((apply p7 Tryz.func111 (congrArg Array.toList Tryz.results111));(focus(repeat(exact JI)));refine⟨_,rfl,Ends.mk [] (JF rfl) rfl rfl ?_⟩)
  rw [← ho,Sort.reverseLoop,Jd (by omega)]
  exact⟨aB rfl,trivial⟩
abbrev mG(k:Nat):VO:=aq 3 [.sc (.int .i64 (k:Int))]
theorem gZ(n a b k:Nat)(d:Array (Int))(hn:n<4611686018427387904)(hd:d.size=n)(ha:a<n)(hb:b<n)(hk:k<1000) :
 Ctr Tryz.prog 124 [.slu 0 0 n,.sc (.int .i64 (a:Int)),.sc (.int .i64 (b:Int)),.ptr 1 0] [b8 n d,mG k] (fun c=>c=⟨.tup [.sc (.int .i64 ((Sort.order2 bj d a b k).1:Int)),.sc (.int .i64 ((Sort.order2 bj d a b k).2.1:Int))],[some (b8 n d),some (mG (Sort.order2 bj d a b k).2.2)]⟩):=by
 refine JH Tryz.func124 rfl rfl ?_
 repeat apply aj;rfl
 refine cj (by kernel_rfl) (by kernel_rfl) ?_
 have hls_h1:=fK (d[b]!) (d[a]!)
 cases h1:bj (d[b]!) (d[a]!)
 all_goals rw [h1] at hls_h1
 rotate_left
 all_goals(repeat(first|apply aU;rfl|refine cq (g:=fun x:Int=> .int .i64 x) rfl rfl rfl (F.ag _ rfl) rfl (by(omega)) (by(omega)) ?_|refine aH (q:=a) rfl rfl rfl rfl (F.un _ rfl) (F.sz _ rfl) rfl (by omega) (by omega) (by omega) ?_|refine aH (q:=b) rfl rfl rfl rfl (F.un _ rfl) (F.sz _ rfl) rfl (by omega) (by omega) (by omega) ?_|refine bW rfl rfl rfl (by kernel_rfl) (Ctr.callV (hls_h1) [] rfl (JF rfl) rfl trivial rfl) ?_))
 ·skip
  refine aA ⟨by kernel_rfl,?_,?_⟩;(focus(repeat(first|exact JR|apply fk;rfl|apply eI;rfl|refine⟨.inr (by(repeat(refine⟨(by(exact aN (F.un _ rfl) (F.sz _ rfl) rfl rfl rfl (by omega) (by omega) (by omega))),?_⟩));exact JR),?_⟩|refine⟨.inl (by kernel_rfl),?_⟩)))
  repeat first|apply aj;rfl|apply aK;rfl;omega;omega|refine cV rfl rfl rfl (F.ag _ rfl) rfl rfl ?_|refine dg rfl rfl rfl (F.sz _ rfl) rfl rfl rfl ?_
  rw [show Sort.order2 bj d a b k=(b,a,k+1) by rw [Sort.order2,Je (by simpa [bj] using h1)]]
  ((apply bn Tryz.func124 (congrArg Array.toList Tryz.results124));(focus(repeat(first|exact JI|apply JK rfl)));refine⟨_,rfl,Ends.mk [] (JF rfl) rfl rfl ?_⟩)
  exact(by repeat(first|exact JR|refine⟨aB rfl,?_⟩|refine⟨fq rfl,?_⟩))
 ·skip
  refine aA ⟨by kernel_rfl,?_,?_⟩;(focus(repeat(first|exact JR|apply fk;rfl|apply eI;rfl|refine⟨.inr (by(repeat(refine⟨(by(exact aN (F.un _ rfl) (F.sz _ rfl) rfl rfl rfl (by omega) (by omega) (by omega))),?_⟩));exact JR),?_⟩|refine⟨.inl (by kernel_rfl),?_⟩)))
  repeat apply aj;rfl
  rw [show Sort.order2 bj d a b k=(a,b,k) by rw [Sort.order2,Jd (by simpa [bj] using h1)]]
  ((apply bn Tryz.func124 (congrArg Array.toList Tryz.results124));(focus(repeat(first|exact JI|apply JK rfl)));refine⟨_,rfl,Ends.mk [] (JF rfl) rfl rfl ?_⟩)
  exact(by repeat(first|exact JR|refine⟨aB rfl,?_⟩|refine⟨fq rfl,?_⟩))
theorem eW{k n:Nat}(ha:a<n)(hb:b<n):(Sort.order2 lt d a b k).1<n∧(Sort.order2 lt d a b k).2.1<n∧(Sort.order2 lt d a b k).2.2≤k+1:=by
 unfold Sort.order2
 split
 ·exact⟨hb,ha,HS _⟩
 ·exact⟨ha,hb,Jb _⟩
theorem hJ(n a b c k:Nat)(d:Array (Int))(hn:n<4611686018427387904)(hd:d.size=n)(ha:a<n)(hb:b<n)(hc:c<n)(hk:k<900) :
 Ctr Tryz.prog 122 [.slu 0 0 n,.sc (.int .i64 (a:Int)),.sc (.int .i64 (b:Int)),.sc (.int .i64 (c:Int)),.ptr 1 0] [b8 n d,mG k] (fun r=>r=⟨.sc (.int .i64 ((Sort.median bj d a b c k).1:Int)),[some (b8 n d),some (mG (Sort.median bj d a b c k).2)]⟩):=by
 obtain⟨q1,q2,q3⟩:=eW (lt:=bj) (d:=d) (k:=k) ha hb
 have e1:=gZ n a b k d hn hd ha hb (by omega)
 unfold Sort.median
 generalize Sort.order2 bj d a b k=r1 at q1 q2 q3 e1 ⊢
 obtain⟨a1,b1,k1⟩:=r1
 obtain⟨p1,p2,p3⟩:=eW (lt:=bj) (d:=d) (k:=k1) q2 hc
 have e2:=gZ n b1 c k1 d hn hd q2 hc (by simp only at q3;omega)
 simp only at q1 q2 q3 p1 p2 p3 e1 e2 ⊢
 generalize Sort.order2 bj d b1 c k1=r2 at p1 p2 p3 e2 ⊢
 obtain⟨b2,c2,k2⟩:=r2
 obtain⟨o1,o2,o3⟩:=eW (lt:=bj) (d:=d) (k:=k2) q1 p1
 have e3:=gZ n a1 b2 k2 d hn hd q1 p1 (by simp only at p3;omega)
 simp only at p1 p2 p3 o1 o2 o3 e2 e3 ⊢
 generalize Sort.order2 bj d a1 b2 k2=r3 at o1 o2 o3 e3 ⊢
 obtain⟨a3,b3,k3⟩:=r3
 simp only at o1 o2 o3 e3 ⊢
 refine JH Tryz.func122 rfl rfl ?_
 repeat first|apply aj;rfl|refine ci rfl rfl rfl (by kernel_rfl) (Ctr.dL (e1) [0,1] rfl (JF rfl) rfl (by repeat(first|exact JR|refine⟨aB rfl,?_⟩|refine⟨fq rfl,?_⟩)) rfl (by repeat(first|exact JR|refine⟨bJ,?_⟩|refine⟨dE (fun _=>rfl),?_⟩)) (fun _=>rfl) rfl rfl) ?_|refine ci rfl rfl rfl (by kernel_rfl) (Ctr.dL (e2) [0,1] rfl (JF rfl) rfl (by repeat(first|exact JR|refine⟨aB rfl,?_⟩|refine⟨fq rfl,?_⟩)) rfl (by repeat(first|exact JR|refine⟨bJ,?_⟩|refine⟨dE (fun _=>rfl),?_⟩)) (fun _=>rfl) rfl rfl) ?_|refine ci rfl rfl rfl (by kernel_rfl) (Ctr.dL (e3) [0,1] rfl (JF rfl) rfl (by repeat(first|exact JR|refine⟨aB rfl,?_⟩|refine⟨fq rfl,?_⟩)) rfl (by repeat(first|exact JR|refine⟨bJ,?_⟩|refine⟨dE (fun _=>rfl),?_⟩)) (fun _=>rfl) rfl rfl) ?_
 ((apply bn Tryz.func122 (congrArg Array.toList Tryz.results122));(focus(repeat(first|exact JI|apply JK rfl)));refine⟨_,rfl,Ends.mk [] (JF rfl) rfl rfl ?_⟩)
 exact(by repeat(first|exact JR|refine⟨aB rfl,?_⟩|refine⟨fq rfl,?_⟩))
theorem jD{c k n:Nat}(ha:a<n)(hb:b<n)(hc:c<n):(Sort.median lt d a b c k).1<n∧(Sort.median lt d a b c k).2≤k+3:=by
 obtain⟨q1,q2,q3⟩:=eW (lt:=lt) (d:=d) (k:=k) ha hb
 obtain⟨p1,p2,p3⟩:=eW (lt:=lt) (d:=d) (k:=(Sort.order2 lt d a b k).2.2) q2 hc
 obtain⟨o1,o2,o3⟩:=eW (lt:=lt) (d:=d) (k:=(Sort.order2 lt d (Sort.order2 lt d a b k).2.1 c (Sort.order2 lt d a b k).2.2).2.2) q1 p1
 exact⟨o2,by simp only [Sort.median];omega⟩
theorem hU(n a k:Nat)(d:Array (Int))(hn:n<4611686018427387904)(hd:d.size=n)(ha:a+1<n)(h1:1≤a)(hk:k<900) :
 Ctr Tryz.prog 121 [.slu 0 0 n,.sc (.int .i64 (a:Int)),.ptr 1 0] [b8 n d,mG k] (fun r=>r=⟨.sc (.int .i64 ((Sort.medianAdjacent bj d a k).1:Int)),[some (b8 n d),some (mG (Sort.medianAdjacent bj d a k).2)]⟩):=by
 obtain⟨a,rfl⟩: ∃ a',a=a'+1:=⟨a-1,by omega⟩
 have e:=hJ n a (a+1) (a+1+1) k d hn hd (by omega) (by omega) (by omega) hk
 have e0:((a:Nat):Int)=((a+1:Nat):Int)-1:=by omega
 rw [e0] at e
 refine JH Tryz.func121 rfl rfl ?_
 repeat first|apply aj;rfl|apply aK;rfl;omega;omega|refine ci rfl rfl rfl (by kernel_rfl) (Ctr.dL (e) [0,1] rfl (JF rfl) rfl (by repeat(first|exact JR|refine⟨aB rfl,?_⟩|refine⟨fq rfl,?_⟩)) rfl (by repeat(first|exact JR|refine⟨bJ,?_⟩|refine⟨dE (fun _=>rfl),?_⟩)) (fun _=>rfl) rfl rfl) ?_
 ((apply bn Tryz.func121 (congrArg Array.toList Tryz.results121));(focus(repeat(first|exact JI|apply JK rfl)));refine⟨_,rfl,Ends.mk [] (JF rfl) rfl rfl ?_⟩)
 exact(by repeat(first|exact JR|refine⟨aB rfl,?_⟩|refine⟨fq rfl,?_⟩))
theorem tW(n a b:Nat)(d:Array (Int))(hn:n<4611686018427387904)(hd:d.size=n)(hab:a<b)(hb:b≤n) :
 Ctr Tryz.prog 110 [.slu 0 0 n,.sc (.int .i64 (a:Int)),.sc (.int .i64 (b:Int))] [b8 n d] (fun r=>r=⟨.tup [.sc (.int .i64 ((Sort.choosePivot bj d a b).1:Int)),.sc (.int .i64 (DO (Sort.choosePivot bj d a b).2))],[some (b8 n d)]⟩):=by
 have e1:((a:Int)+((b:Int)-(a:Int)) / 4*1)=((a+(b-a) / 4*1:Nat):Int):=by omega
 have e2:((a:Int)+((b:Int)-(a:Int)) / 4*2)=((a+(b-a) / 4*2:Nat):Int):=by omega
 have e3:((a:Int)+((b:Int)-(a:Int)) / 4*3)=((a+(b-a) / 4*3:Nat):Int):=by omega
 refine JH Tryz.func110 rfl rfl ?_
 repeat first|apply aj;rfl|apply aK;rfl;omega;omega|refine cc (pB rfl rfl (by omega) (jk (by omega) (by omega) (by omega))) rfl rfl rfl ?_
 rw [e1,e2,e3]
 have fin: ∀ (T:Tr SV) (H:au) (nx:Nat) (p k:Nat),True:=fun _ _ _ _ _=>trivial
 refine er rfl rfl rfl rfl ?_ ?_
 all_goals intro h1
 ·repeat apply aj;rfl
  refine er rfl rfl rfl rfl ?_ ?_
  all_goals intro h2
  ·have m1:=hU n (a+(b-a) / 4*1) 0 d hn hd (by omega) (by omega) (by omega)
   have l1:(Sort.medianAdjacent bj d (a+(b-a) / 4*1) 0).1<n∧(Sort.medianAdjacent bj d (a+(b-a) / 4*1) 0).2≤0+3:=jD (by omega) (by omega) (by omega)
   have ec:Sort.choosePivot bj d a b=Sort.choosePivot bj d a b:=rfl
   conv at ec=>rhs;unfold Sort.choosePivot
   simp only [show b-a≥8 by omega,show b-a≥50 by omega,if_true] at ec
   generalize Sort.medianAdjacent bj d (a+(b-a) / 4*1) 0=r1 at m1 l1 ec
   have m2:=hU n (a+(b-a) / 4*2) r1.2 d hn hd (by omega) (by omega) (by omega)
   have l2:(Sort.medianAdjacent bj d (a+(b-a) / 4*2) r1.2).1<n∧(Sort.medianAdjacent bj d (a+(b-a) / 4*2) r1.2).2≤r1.2+3:=jD (by omega) (by omega) (by omega)
   generalize Sort.medianAdjacent bj d (a+(b-a) / 4*2) r1.2=r2 at m2 l2 ec
   have m3:=hU n (a+(b-a) / 4*3) r2.2 d hn hd (by omega) (by omega) (by omega)
   have l3:(Sort.medianAdjacent bj d (a+(b-a) / 4*3) r2.2).1<n∧(Sort.medianAdjacent bj d (a+(b-a) / 4*3) r2.2).2≤r2.2+3:=jD (by omega) (by omega) (by omega)
   generalize Sort.medianAdjacent bj d (a+(b-a) / 4*3) r2.2=r3 at m3 l3 ec
   have m4:=hJ n r1.1 r2.1 r3.1 r3.2 d hn hd l1.1 l2.1 l3.1 (by omega)
   generalize Sort.median bj d r1.1 r2.1 r3.1 r3.2=r4 at m4 ec
   rw [ec]
   obtain⟨p,k⟩:=r4
   repeat first|apply aj;rfl|apply aG;rfl;(focus((repeat(exact ac));done));rfl|refine ci rfl rfl rfl (by kernel_rfl) (Ctr.dL (m1) [0,1] rfl (JF rfl) rfl (by repeat(first|exact JR|refine⟨aB rfl,?_⟩|refine⟨fq rfl,?_⟩)) rfl (by repeat(first|exact JR|refine⟨bJ,?_⟩|refine⟨dE (fun _=>rfl),?_⟩)) (fun _=>rfl) rfl rfl) ?_|refine ci rfl rfl rfl (by kernel_rfl) (Ctr.dL (m2) [0,1] rfl (JF rfl) rfl (by repeat(first|exact JR|refine⟨aB rfl,?_⟩|refine⟨fq rfl,?_⟩)) rfl (by repeat(first|exact JR|refine⟨bJ,?_⟩|refine⟨dE (fun _=>rfl),?_⟩)) (fun _=>rfl) rfl rfl) ?_|refine ci rfl rfl rfl (by kernel_rfl) (Ctr.dL (m3) [0,1] rfl (JF rfl) rfl (by repeat(first|exact JR|refine⟨aB rfl,?_⟩|refine⟨fq rfl,?_⟩)) rfl (by repeat(first|exact JR|refine⟨bJ,?_⟩|refine⟨dE (fun _=>rfl),?_⟩)) (fun _=>rfl) rfl rfl) ?_|refine ci rfl rfl rfl (by kernel_rfl) (Ctr.dL (m4) [0,1] rfl (JF rfl) rfl (by repeat(first|exact JR|refine⟨aB rfl,?_⟩|refine⟨fq rfl,?_⟩)) rfl (by repeat(first|exact JR|refine⟨bJ,?_⟩|refine⟨dE (fun _=>rfl),?_⟩)) (fun _=>rfl) rfl rfl) ?_
   refine cF rfl rfl rfl rfl ?_ ?_
   all_goals intro h3
   ·repeat apply aj;rfl
    rw [Je (show(p,k).2=0 by simp only;omega)]
    ((apply bn Tryz.func110 (congrArg Array.toList Tryz.results110));(focus(repeat(first|exact JI|apply JK rfl)));refine⟨_,rfl,Ends.mk [] (JF rfl) rfl rfl ?_⟩)
    exact⟨aB rfl,trivial⟩
   ·repeat apply aj;rfl
    refine cF rfl rfl rfl rfl ?_ ?_
    all_goals intro h4
    ·repeat apply aj;rfl
     rw [Jd (show ¬ (p,k).2=0 by simp only;omega),Je (show(p,k).2=12 by simp only;omega)]
     ((apply bn Tryz.func110 (congrArg Array.toList Tryz.results110));(focus(repeat(first|exact JI|apply JK rfl)));refine⟨_,rfl,Ends.mk [] (JF rfl) rfl rfl ?_⟩)
     exact⟨aB rfl,trivial⟩
    ·repeat apply aj;rfl
     rw [Jd (show ¬ (p,k).2=0 by simp only;omega),Jd (show ¬ (p,k).2=12 by simp only;omega)]
     ((apply bn Tryz.func110 (congrArg Array.toList Tryz.results110));(focus(repeat(first|exact JI|apply JK rfl)));refine⟨_,rfl,Ends.mk [] (JF rfl) rfl rfl ?_⟩)
     exact⟨aB rfl,trivial⟩
  ·have ec:Sort.choosePivot bj d a b=Sort.choosePivot bj d a b:=rfl
   conv at ec=>rhs;unfold Sort.choosePivot
   simp only [show b-a≥8 by omega,show ¬ (b-a≥50) by omega,if_true,if_false] at ec
   have m4:=hJ n (a+(b-a) / 4*1) (a+(b-a) / 4*2) (a+(b-a) / 4*3) 0 d hn hd (by omega) (by omega) (by omega) (by omega)
   generalize Sort.median bj d (a+(b-a) / 4*1) (a+(b-a) / 4*2) (a+(b-a) / 4*3) 0=r4 at m4 ec
   rw [ec]
   obtain⟨p,k⟩:=r4
   repeat first|apply aj;rfl|apply aG;rfl;(focus((repeat(exact ac));done));rfl|refine ci rfl rfl rfl (by kernel_rfl) (Ctr.dL (m4) [0,1] rfl (JF rfl) rfl (by repeat(first|exact JR|refine⟨aB rfl,?_⟩|refine⟨fq rfl,?_⟩)) rfl (by repeat(first|exact JR|refine⟨bJ,?_⟩|refine⟨dE (fun _=>rfl),?_⟩)) (fun _=>rfl) rfl rfl) ?_
   refine cF rfl rfl rfl rfl ?_ ?_
   all_goals intro h3
   ·repeat apply aj;rfl
    rw [Je (show(p,k).2=0 by simp only;omega)]
    ((apply bn Tryz.func110 (congrArg Array.toList Tryz.results110));(focus(repeat(first|exact JI|apply JK rfl)));refine⟨_,rfl,Ends.mk [] (JF rfl) rfl rfl ?_⟩)
    exact⟨aB rfl,trivial⟩
   ·repeat apply aj;rfl
    refine cF rfl rfl rfl rfl ?_ ?_
    all_goals intro h4
    ·repeat apply aj;rfl
     rw [Jd (show ¬ (p,k).2=0 by simp only;omega),Je (show(p,k).2=12 by simp only;omega)]
     ((apply bn Tryz.func110 (congrArg Array.toList Tryz.results110));(focus(repeat(first|exact JI|apply JK rfl)));refine⟨_,rfl,Ends.mk [] (JF rfl) rfl rfl ?_⟩)
     exact⟨aB rfl,trivial⟩
    ·repeat apply aj;rfl
     rw [Jd (show ¬ (p,k).2=0 by simp only;omega),Jd (show ¬ (p,k).2=12 by simp only;omega)]
     ((apply bn Tryz.func110 (congrArg Array.toList Tryz.results110));(focus(repeat(first|exact JI|apply JK rfl)));refine⟨_,rfl,Ends.mk [] (JF rfl) rfl rfl ?_⟩)
     exact⟨aB rfl,trivial⟩
 ·have ec:Sort.choosePivot bj d a b=(a+(b-a) / 4*2,.increasing):=by
   unfold Sort.choosePivot
   simp only [show ¬ (b-a≥8) by omega,if_false,if_true]
  rw [ec]
  repeat first|apply aj;rfl|apply aG;rfl;(focus((repeat(exact ac));done));rfl|refine cc (di rfl rfl (.inl ⟨rfl,rfl⟩)) rfl rfl rfl ?_
  ((apply bn Tryz.func110 (congrArg Array.toList Tryz.results110));(focus(repeat(first|exact JI|apply JK rfl)));refine⟨_,rfl,Ends.mk [] (JF rfl) rfl rfl ?_⟩)
  exact⟨aB rfl,trivial⟩
theorem jC(h:i≤j)(hp:p d[i]! =true):Sort.scanUp p d j i=Sort.scanUp p d j (i+1):=by
 conv=>lhs;rw [Sort.scanUp,Je (by simp [h,hp])]
theorem dC(h:j<i∨p d[i]! =false):Sort.scanUp p d j i=i:=by
 rw [Sort.scanUp,Jd]
 simp only [HR,JE]
 rintro⟨h1,h2⟩
 rcases h with h|h
 ·omega
 ·rw [h] at h2;cases h2
theorem gY(h:i≤j+1)(hp:p d[j+1]! =true):Sort.scanDown p d i (j+1)=Sort.scanDown p d i j:=by
 conv=>lhs;rw [Sort.scanDown,Je (by simp [h,hp])]
theorem cY(h:j<i∨p d[j]! =false):Sort.scanDown p d i j=j:=by
 cases j with
 | zero=>rfl
 | succ j=>
   rw [Sort.scanDown,Jd]
   simp only [HR,JE]
   rintro⟨h1,h2⟩
   rcases h with h|h
   ·omega
   ·rw [h] at h2;cases h2
theorem pk(hi:Sort.scanUp (fun x=> !lt d[a]! x) d j i=i2)(hj:Sort.scanDown (fun x=>lt d[a]! x) d i2 j=j2)(h1:i≤i2)(h2:j2≤j) :
 Sort.partEqLoop lt a i j d=if j2<i2 then(i2,d) else Sort.partEqLoop lt a (i2+1) (j2-1) (Sort.swp d i2 j2):=by
 conv=>lhs;unfold Sort.partEqLoop
 simp only [hi,hj]
 split
 ·rfl
 ·rw [dif_pos (by omega)]
theorem pn(n a b pv:Nat)(d:Array (Int))(hn:n<4611686018427387904)(hd:d.size=n)(hap:a≤pv)(hpb:pv<b)(hb:b≤n) :
 Ctr Tryz.prog 114 [.slu 0 0 n,.sc (.int .i64 (a:Int)),.sc (.int .i64 (b:Int)),.sc (.int .i64 (pv:Int))] [b8 n d] (fun c=>c=⟨.sc (.int .i64 ((Sort.partitionEqual bj d a b pv).1:Int)),[some (b8 n (Sort.partitionEqual bj d a b pv).2)]⟩):=by
 refine JH Tryz.func114 rfl rfl ?_
 repeat apply aj;rfl
 refine cj (by kernel_rfl) (by kernel_rfl) ?_
 repeat first|apply aU;rfl|refine cq (g:=fun x:Int=> .int .i64 x) rfl rfl rfl (F.ag _ rfl) rfl (by(omega)) (by(omega)) ?_|refine fg (g:=fun x:Int=> .int .i64 x) rfl rfl rfl (fun _=>rfl) (F.sz _ rfl) rfl (by first|omega|(simp only [Hw,aO];omega)) (by first|omega|(simp only [Hw,aO];omega)) ?_|refine aH (q:=a) rfl rfl rfl rfl (F.un _ rfl) (F.sz _ rfl) rfl (by omega) (by omega) (by omega) ?_|refine aH (q:=pv) rfl rfl rfl rfl (F.un _ rfl) (F.sz _ rfl) rfl (by omega) (by omega) (by omega) ?_
 refine aA ⟨by kernel_rfl,?_,?_⟩;(focus(repeat(first|exact JR|apply fk;rfl|apply eI;rfl|refine⟨.inr (by(repeat(refine⟨(by(exact aN (F.un _ rfl) (F.sz _ rfl) rfl rfl rfl (by omega) (by omega) (by omega))),?_⟩));exact JR),?_⟩|refine⟨.inl (by kernel_rfl),?_⟩)))
 repeat first|apply aj;rfl|apply aK;rfl;omega;omega
 refine ga 1 (fun s:(Nat×Nat)×Array (Int)=> [(0,.slu 0 0 n),(1,.sc (.int .i64 (a:Int))),(9,.sc (.int .i64 (s.1.1:Int))),(10,.sc (.int .i64 (s.1.2:Int)))]) (fun s=> [some (b8 n s.2)]) (fun s=>a<s.1.1∧s.1.1≤n∧s.1.2<n∧s.2.size=n∧Sort.partEqLoop bj a s.1.1 s.1.2 s.2=Sort.partitionEqual bj d a b pv) (fun s=>s.1.2+1-s.1.1) ((a+1,b-1),Sort.swp d a pv) []
  (fun _=>rfl) ⟨by simp only;omega,by simp only;omega,by simp only;omega,by rw [aO];exact hd,rfl⟩ ?_ (fun _=>rfl) (fun _=>rfl) ?_
 ·(refine⟨(JF rfl),rfl,(by repeat(first|exact JR|refine⟨rfl,?_⟩|refine⟨fH (by(simp only;omega)),?_⟩)),⟨aB rfl,trivial⟩⟩)
 rintro⟨⟨i,j⟩,d1⟩ ⟨hai,hi,hj,hd1,ho⟩ ih
 simp only at hai hi hj hd1 ho ih ⊢
 repeat apply aj;rfl
 refine f9 1 (fun x:Nat=> [(0,.slu 0 0 n),(1,.sc (.int .i64 (a:Int))),(9,.sc (.int .i64 (x:Int))),(10,.sc (.int .i64 (j:Int)))]) (fun _=> [some (b8 n d1)]) (fun x=>i≤x∧x≤n∧Sort.scanUp (fun y=> !bj d1[a]! y) d1 j x=Sort.scanUp (fun y=> !bj d1[a]! y) d1 j i) (fun x=>n-x) i []
  1 (fun x:Nat=> [(0,.slu 0 0 n),(1,.sc (.int .i64 (a:Int))),(9,.sc (.int .i64 (x:Int))),(10,.sc (.int .i64 (j:Int)))]) (fun _=> [some (b8 n d1)]) (fun x=>i≤x∧x≤n∧Sort.scanUp (fun y=> !bj d1[a]! y) d1 j i=x)
  (fun _=>rfl) (fun _=>rfl) ⟨HS _,hi,rfl⟩ ?_ (fun _=>rfl) (fun _=>rfl) ?_ ?_
 ·(exact JP rfl rfl rfl ⟨aB rfl,trivial⟩)
 ·rintro i1 ⟨hii,hi1,hu⟩ ihu out
  repeat apply aj;rfl
  refine cj (by kernel_rfl) (by kernel_rfl) ?_
  repeat apply aU;rfl
  refine mK rfl rfl rfl rfl ?_ ?_
  all_goals intro h1
  ·have hls_h2:=fK (d1[a]!) (d1[i1]!)
   cases h2:bj (d1[a]!) (d1[i1]!)
   all_goals rw [h2] at hls_h2
   rotate_left
   all_goals(repeat(first|apply aU;rfl|refine cq (g:=fun x:Int=> .int .i64 x) rfl rfl rfl (F.ag _ rfl) rfl (by(omega)) (by(omega)) ?_|refine aH (q:=a) rfl rfl rfl rfl (F.un _ rfl) (F.sz _ rfl) rfl (by omega) (by omega) (by omega) ?_|refine aH (q:=i1) rfl rfl rfl rfl (F.un _ rfl) (F.sz _ rfl) rfl (by omega) (by omega) (by omega) ?_|refine bW rfl rfl rfl (by kernel_rfl) (Ctr.callV (hls_h2) [] rfl (JF rfl) rfl trivial rfl) ?_))
   ·skip
    refine aA ⟨by kernel_rfl,?_,?_⟩;(focus(repeat(first|exact JR|apply fk;rfl|apply eI;rfl|refine⟨.inr (by(repeat(refine⟨(by(exact aN (F.un _ rfl) (F.sz _ rfl) rfl rfl rfl (by omega) (by omega) (by omega))),?_⟩));exact JR),?_⟩|refine⟨.inl (by kernel_rfl),?_⟩)))
    repeat first|refine out _ _ _ i1 [] ⟨hii,hi1,by rw [← hu];exact dC (.inr (by simpa [bj] using h2))⟩ ?_;(exact JP rfl rfl rfl ⟨aB rfl,trivial⟩)|apply cw;rfl
   ·skip
    refine aA ⟨by kernel_rfl,?_,?_⟩;(focus(repeat(first|exact JR|apply fk;rfl|apply eI;rfl|refine⟨.inr (by(repeat(refine⟨(by(exact aN (F.un _ rfl) (F.sz _ rfl) rfl rfl rfl (by omega) (by omega) (by omega))),?_⟩));exact JR),?_⟩|refine⟨.inl (by kernel_rfl),?_⟩)))
    repeat first|apply aj;rfl|apply aK;rfl;omega;omega
    refine ihu _ _ _ (i1+1) [] ⟨by omega,by omega,?_⟩ (by omega) ?_
    ·rw [← hu]
     exact(jC (by omega) (by simpa [bj] using h2)).symm
    ·(exact JP rfl rfl rfl ⟨aB rfl,trivial⟩)
  ·repeat first|apply aU;rfl|refine cp rfl rfl ?_
   refine aA ⟨by kernel_rfl,?_,?_⟩;(focus(repeat(first|exact JR|apply Ag;rfl|apply eI;rfl|refine⟨.inl rfl,?_⟩)))
   repeat first|refine out _ _ _ i1 [] ⟨hii,hi1,by rw [← hu];exact dC (.inl (by omega))⟩ ?_;(exact JP rfl rfl rfl ⟨aB rfl,trivial⟩)|apply cw;rfl
 rintro i2 ⟨hii,hi2,hu⟩
 repeat apply aj;rfl
 refine f9 1 (fun x:Nat=> [(0,.slu 0 0 n),(1,.sc (.int .i64 (a:Int))),(9,.sc (.int .i64 (i2:Int))),(10,.sc (.int .i64 (x:Int)))]) (fun _=> [some (b8 n d1)]) (fun x=>x≤j∧Sort.scanDown (fun y=>bj d1[a]! y) d1 i2 x=Sort.scanDown (fun y=>bj d1[a]! y) d1 i2 j) (fun x=>x) j []
  1 (fun x:Nat=> [(0,.slu 0 0 n),(1,.sc (.int .i64 (a:Int))),(9,.sc (.int .i64 (i2:Int))),(10,.sc (.int .i64 (x:Int)))]) (fun _=> [some (b8 n d1)]) (fun x=>x≤j∧Sort.scanDown (fun y=>bj d1[a]! y) d1 i2 j=x)
  (fun _=>rfl) (fun _=>rfl) ⟨HS _,rfl⟩ ?_ (fun _=>rfl) (fun _=>rfl) ?_ ?_
 ·(exact JP rfl rfl rfl ⟨aB rfl,trivial⟩)
 ·rintro j1 ⟨hjj,hv⟩ ihv out
  repeat apply aj;rfl
  refine cj (by kernel_rfl) (by kernel_rfl) ?_
  repeat apply aU;rfl
  refine mK rfl rfl rfl rfl ?_ ?_
  all_goals intro h1
  ·have hls_h2:=fK (d1[a]!) (d1[j1]!)
   cases h2:bj (d1[a]!) (d1[j1]!)
   all_goals rw [h2] at hls_h2
   rotate_left
   all_goals(repeat(first|apply aU;rfl|refine cq (g:=fun x:Int=> .int .i64 x) rfl rfl rfl (F.ag _ rfl) rfl (by(omega)) (by(omega)) ?_|refine aH (q:=a) rfl rfl rfl rfl (F.un _ rfl) (F.sz _ rfl) rfl (by omega) (by omega) (by omega) ?_|refine aH (q:=j1) rfl rfl rfl rfl (F.un _ rfl) (F.sz _ rfl) rfl (by omega) (by omega) (by omega) ?_|refine bW rfl rfl rfl (by kernel_rfl) (Ctr.callV (hls_h2) [] rfl (JF rfl) rfl trivial rfl) ?_))
   ·skip
    refine aA ⟨by kernel_rfl,?_,?_⟩;(focus(repeat(first|exact JR|apply fk;rfl|apply eI;rfl|refine⟨.inr (by(repeat(refine⟨(by(exact aN (F.un _ rfl) (F.sz _ rfl) rfl rfl rfl (by omega) (by omega) (by omega))),?_⟩));exact JR),?_⟩|refine⟨.inl (by kernel_rfl),?_⟩)))
    repeat first|apply aj;rfl|apply aK;rfl;omega;omega
    obtain⟨j1,rfl⟩: ∃ j',j1=j'+1:=⟨j1-1,by omega⟩
    refine ihv _ _ _ j1 [] ⟨by omega,?_⟩ (by omega) ?_
    ·rw [← hv]
     exact(gY (by omega) (by simpa [bj] using h2)).symm
    ·(refine⟨(JF rfl),rfl,(by repeat(first|exact JR|refine⟨rfl,?_⟩|refine⟨fH (by(omega)),?_⟩)),⟨aB rfl,trivial⟩⟩)
   ·skip
    refine aA ⟨by kernel_rfl,?_,?_⟩;(focus(repeat(first|exact JR|apply fk;rfl|apply eI;rfl|refine⟨.inr (by(repeat(refine⟨(by(exact aN (F.un _ rfl) (F.sz _ rfl) rfl rfl rfl (by omega) (by omega) (by omega))),?_⟩));exact JR),?_⟩|refine⟨.inl (by kernel_rfl),?_⟩)))
    repeat first|refine out _ _ _ j1 [] ⟨hjj,by rw [← hv];exact cY (.inr (by simpa [bj] using h2))⟩ ?_;(exact JP rfl rfl rfl ⟨aB rfl,trivial⟩)|apply cw;rfl
  ·repeat first|apply aU;rfl|refine cp rfl rfl ?_
   refine aA ⟨by kernel_rfl,?_,?_⟩;(focus(repeat(first|exact JR|apply Ag;rfl|apply eI;rfl|refine⟨.inl rfl,?_⟩)))
   repeat first|refine out _ _ _ j1 [] ⟨hjj,by rw [← hv];exact cY (.inl (by omega))⟩ ?_;(exact JP rfl rfl rfl ⟨aB rfl,trivial⟩)|apply cw;rfl
 rintro j2 ⟨hjj,hv⟩
 have e:=pk hu hv hii hjj
 repeat apply aj;rfl
 refine ej rfl rfl rfl rfl ?_ ?_
 all_goals intro h3
 ·rw [ho,Je (by omega)] at e
  repeat apply aj;rfl
  rw [e]
  ((apply bn Tryz.func114 (congrArg Array.toList Tryz.results114));(focus(repeat(first|exact JI|apply JK rfl)));refine⟨_,rfl,Ends.mk [] (JF rfl) rfl rfl ?_⟩)
  exact⟨aB rfl,trivial⟩
 ·rw [ho,Jd (by omega)] at e
  repeat apply aj;rfl
  refine cj (by kernel_rfl) (by kernel_rfl) ?_
  repeat first|apply aU;rfl|refine cq (g:=fun x:Int=> .int .i64 x) rfl rfl rfl (F.ag _ rfl) rfl (by(omega)) (by(omega)) ?_|refine fg (g:=fun x:Int=> .int .i64 x) rfl rfl rfl (fun _=>rfl) (F.sz _ rfl) rfl (by first|omega|(simp only [Hw,aO];omega)) (by first|omega|(simp only [Hw,aO];omega)) ?_|refine aH (q:=i2) rfl rfl rfl rfl (F.un _ rfl) (F.sz _ rfl) rfl (by omega) (by omega) (by omega) ?_|refine aH (q:=j2) rfl rfl rfl rfl (F.un _ rfl) (F.sz _ rfl) rfl (by omega) (by omega) (by omega) ?_
  refine aA ⟨by kernel_rfl,?_,?_⟩;(focus(repeat(first|exact JR|apply fk;rfl|apply eI;rfl|refine⟨.inr (by(repeat(refine⟨(by(exact aN (F.un _ rfl) (F.sz _ rfl) rfl rfl rfl (by omega) (by omega) (by omega))),?_⟩));exact JR),?_⟩|refine⟨.inl (by kernel_rfl),?_⟩)))
  repeat first|apply aj;rfl|apply aK;rfl;omega;omega
  refine ih _ _ _ ((i2+1,j2-1),Sort.swp d1 i2 j2) [] ⟨by simp only;omega,by simp only;omega,by simp only;omega,by rw [aO];exact hd1,e.symm⟩ (by simp only;omega) ?_
  (refine⟨(JF rfl),rfl,(by repeat(first|exact JR|refine⟨rfl,?_⟩|refine⟨fH (by(simp only;omega)),?_⟩)),⟨aB rfl,trivial⟩⟩)
theorem sh(hi:Sort.scanUp (fun x=>lt x d[a]!) d j i=i2)(hj:Sort.scanDown (fun x=> !lt x d[a]!) d i2 j=j2)(h1:i≤i2)(h2:j2≤j) :
 Sort.partLoop lt a i j d=if j2<i2 then(j2,d) else Sort.partLoop lt a (i2+1) (j2-1) (Sort.swp d i2 j2):=by
 conv=>lhs;unfold Sort.partLoop
 simp only [hi,hj]
 split
 ·rfl
 ·rw [dif_pos (by omega)]
theorem tZ{pv:Nat}(hi:Sort.scanUp (fun x=>lt x (Sort.swp d a pv)[a]!) (Sort.swp d a pv) (b-1) (a+1)=i2)(hj:Sort.scanDown (fun x=> !lt x (Sort.swp d a pv)[a]!) (Sort.swp d a pv) i2 (b-1)=j2) :
 Sort.partition lt d a b pv=if j2<i2 then(j2,true,Sort.swp (Sort.swp d a pv) j2 a) else((Sort.partLoop lt a (i2+1) (j2-1) (Sort.swp (Sort.swp d a pv) i2 j2)).1,false,Sort.swp (Sort.partLoop lt a (i2+1) (j2-1) (Sort.swp (Sort.swp d a pv) i2 j2)).2 (Sort.partLoop lt a (i2+1) (j2-1) (Sort.swp (Sort.swp d a pv) i2 j2)).1 a):=by
 simp only [Sort.partition,hi,hj]
theorem si(n a b pv:Nat)(d:Array (Int))(hn:n<4611686018427387904)(hd:d.size=n)(hap:a≤pv)(hpb:pv<b)(hb:b≤n) :
 Ctr Tryz.prog 115 [.slu 0 0 n,.sc (.int .i64 (a:Int)),.sc (.int .i64 (b:Int)),.sc (.int .i64 (pv:Int))] [b8 n d] (fun c=>c=⟨.tup [.sc (.int .i64 ((Sort.partition bj d a b pv).1:Int)),.sc (.bool (Sort.partition bj d a b pv).2.1)],[some (b8 n (Sort.partition bj d a b pv).2.2)]⟩):=by
 refine JH Tryz.func115 rfl rfl ?_
 repeat apply aj;rfl
 refine cj (by kernel_rfl) (by kernel_rfl) ?_
 repeat first|apply aU;rfl|refine cq (g:=fun x:Int=> .int .i64 x) rfl rfl rfl (F.ag _ rfl) rfl (by(omega)) (by(omega)) ?_|refine fg (g:=fun x:Int=> .int .i64 x) rfl rfl rfl (fun _=>rfl) (F.sz _ rfl) rfl (by first|omega|(simp only [Hw,aO];omega)) (by first|omega|(simp only [Hw,aO];omega)) ?_|refine aH (q:=a) rfl rfl rfl rfl (F.un _ rfl) (F.sz _ rfl) rfl (by omega) (by omega) (by omega) ?_|refine aH (q:=pv) rfl rfl rfl rfl (F.un _ rfl) (F.sz _ rfl) rfl (by omega) (by omega) (by omega) ?_
 refine aA ⟨by kernel_rfl,?_,?_⟩;(focus(repeat(first|exact JR|apply fk;rfl|apply eI;rfl|refine⟨.inr (by(repeat(refine⟨(by(exact aN (F.un _ rfl) (F.sz _ rfl) rfl rfl rfl (by omega) (by omega) (by omega))),?_⟩));exact JR),?_⟩|refine⟨.inl (by kernel_rfl),?_⟩)))
 have e0:=tZ (lt:=bj) (d:=d) (a:=a) (b:=b) (pv:=pv) rfl rfl
 have hd1:(Sort.swp d a pv).size=n:=by rw [aO];exact hd
 generalize hsw:Sort.swp d a pv=d1 at e0 hd1
 have hsw':(d.setIfInBounds a d[pv]!).setIfInBounds pv d[a]! =d1:=hsw
 rw [hsw']
 repeat first|apply aj;rfl|apply aK;rfl;omega;omega
 refine f9 1 (fun x:Nat=> [(0,.slu 0 0 n),(1,.sc (.int .i64 (a:Int))),(10,.sc (.int .i64 (x:Int))),(11,.sc (.int .i64 ((b-1:Nat):Int)))]) (fun _=> [some (b8 n d1)]) (fun x=>a+1≤x∧x≤n∧Sort.scanUp (fun y=>bj y d1[a]!) d1 (b-1) x=Sort.scanUp (fun y=>bj y d1[a]!) d1 (b-1) (a+1)) (fun x=>n-x) (a+1) []
  1 (fun x:Nat=> [(0,.slu 0 0 n),(1,.sc (.int .i64 (a:Int))),(10,.sc (.int .i64 (x:Int))),(11,.sc (.int .i64 ((b-1:Nat):Int)))]) (fun _=> [some (b8 n d1)]) (fun x=>a+1≤x∧x≤n∧Sort.scanUp (fun y=>bj y d1[a]!) d1 (b-1) (a+1)=x)
  (fun _=>rfl) (fun _=>rfl) ⟨HS _,by omega,rfl⟩ ?_ (fun _=>rfl) (fun _=>rfl) ?_ ?_
 ·(refine⟨(JF rfl),rfl,(by repeat(first|exact JR|refine⟨rfl,?_⟩|refine⟨fH (by(omega)),?_⟩)),⟨aB rfl,trivial⟩⟩)
 ·rintro i1 ⟨hii,hi1,hu⟩ ihu out
  repeat apply aj;rfl
  refine cj (by kernel_rfl) (by kernel_rfl) ?_
  repeat apply aU;rfl
  refine mK rfl rfl rfl rfl ?_ ?_
  all_goals intro h1
  ·have hls_h2:=fK (d1[i1]!) (d1[a]!)
   cases h2:bj (d1[i1]!) (d1[a]!)
   all_goals rw [h2] at hls_h2
   rotate_left
   all_goals(repeat(first|apply aU;rfl|refine cq (g:=fun x:Int=> .int .i64 x) rfl rfl rfl (F.ag _ rfl) rfl (by(omega)) (by(omega)) ?_|refine aH (q:=a) rfl rfl rfl rfl (F.un _ rfl) (F.sz _ rfl) rfl (by omega) (by omega) (by omega) ?_|refine aH (q:=i1) rfl rfl rfl rfl (F.un _ rfl) (F.sz _ rfl) rfl (by omega) (by omega) (by omega) ?_|refine bW rfl rfl rfl (by kernel_rfl) (Ctr.callV (hls_h2) [] rfl (JF rfl) rfl trivial rfl) ?_))
   ·skip
    refine aA ⟨by kernel_rfl,?_,?_⟩;(focus(repeat(first|exact JR|apply fk;rfl|apply eI;rfl|refine⟨.inr (by(repeat(refine⟨(by(exact aN (F.un _ rfl) (F.sz _ rfl) rfl rfl rfl (by omega) (by omega) (by omega))),?_⟩));exact JR),?_⟩|refine⟨.inl (by kernel_rfl),?_⟩)))
    repeat first|apply aj;rfl|apply aK;rfl;omega;omega
    refine ihu _ _ _ (i1+1) [] ⟨by omega,by omega,?_⟩ (by omega) ?_
    ·rw [← hu]
     exact(jC (by omega) (by simpa [bj] using h2)).symm
    ·(exact JP rfl rfl rfl ⟨aB rfl,trivial⟩)
   ·skip
    refine aA ⟨by kernel_rfl,?_,?_⟩;(focus(repeat(first|exact JR|apply fk;rfl|apply eI;rfl|refine⟨.inr (by(repeat(refine⟨(by(exact aN (F.un _ rfl) (F.sz _ rfl) rfl rfl rfl (by omega) (by omega) (by omega))),?_⟩));exact JR),?_⟩|refine⟨.inl (by kernel_rfl),?_⟩)))
    repeat first|refine out _ _ _ i1 [] ⟨hii,hi1,by rw [← hu];exact dC (.inr (by simpa [bj] using h2))⟩ ?_;(exact JP rfl rfl rfl ⟨aB rfl,trivial⟩)|apply cw;rfl
  ·repeat first|apply aU;rfl|refine cp rfl rfl ?_
   refine aA ⟨by kernel_rfl,?_,?_⟩;(focus(repeat(first|exact JR|apply Ag;rfl|apply eI;rfl|refine⟨.inl rfl,?_⟩)))
   repeat first|refine out _ _ _ i1 [] ⟨hii,hi1,by rw [← hu];exact dC (.inl (by omega))⟩ ?_;(exact JP rfl rfl rfl ⟨aB rfl,trivial⟩)|apply cw;rfl
 rintro i2 ⟨hii,hi2,hu⟩
 rw [hu] at e0
 repeat apply aj;rfl
 refine f9 1 (fun x:Nat=> [(0,.slu 0 0 n),(1,.sc (.int .i64 (a:Int))),(10,.sc (.int .i64 (i2:Int))),(11,.sc (.int .i64 (x:Int)))]) (fun _=> [some (b8 n d1)]) (fun x=>x≤b-1∧Sort.scanDown (fun y=> !bj y d1[a]!) d1 i2 x=Sort.scanDown (fun y=> !bj y d1[a]!) d1 i2 (b-1)) (fun x=>x) (b-1) []
  1 (fun x:Nat=> [(0,.slu 0 0 n),(1,.sc (.int .i64 (a:Int))),(10,.sc (.int .i64 (i2:Int))),(11,.sc (.int .i64 (x:Int)))]) (fun _=> [some (b8 n d1)]) (fun x=>x≤b-1∧Sort.scanDown (fun y=> !bj y d1[a]!) d1 i2 (b-1)=x)
  (fun _=>rfl) (fun _=>rfl) ⟨HS _,rfl⟩ ?_ (fun _=>rfl) (fun _=>rfl) ?_ ?_
 ·(exact JP rfl rfl rfl ⟨aB rfl,trivial⟩)
 ·rintro j1 ⟨hjj,hv⟩ ihv out
  repeat apply aj;rfl
  refine cj (by kernel_rfl) (by kernel_rfl) ?_
  repeat apply aU;rfl
  refine mK rfl rfl rfl rfl ?_ ?_
  all_goals intro h1
  ·have hls_h2:=fK (d1[j1]!) (d1[a]!)
   cases h2:bj (d1[j1]!) (d1[a]!)
   all_goals rw [h2] at hls_h2
   rotate_left
   all_goals(repeat(first|apply aU;rfl|refine cq (g:=fun x:Int=> .int .i64 x) rfl rfl rfl (F.ag _ rfl) rfl (by(omega)) (by(omega)) ?_|refine aH (q:=a) rfl rfl rfl rfl (F.un _ rfl) (F.sz _ rfl) rfl (by omega) (by omega) (by omega) ?_|refine aH (q:=j1) rfl rfl rfl rfl (F.un _ rfl) (F.sz _ rfl) rfl (by omega) (by omega) (by omega) ?_|refine bW rfl rfl rfl (by kernel_rfl) (Ctr.callV (hls_h2) [] rfl (JF rfl) rfl trivial rfl) ?_))
   ·skip
    refine aA ⟨by kernel_rfl,?_,?_⟩;(focus(repeat(first|exact JR|apply fk;rfl|apply eI;rfl|refine⟨.inr (by(repeat(refine⟨(by(exact aN (F.un _ rfl) (F.sz _ rfl) rfl rfl rfl (by omega) (by omega) (by omega))),?_⟩));exact JR),?_⟩|refine⟨.inl (by kernel_rfl),?_⟩)))
    repeat first|refine out _ _ _ j1 [] ⟨hjj,by rw [← hv];exact cY (.inr (by simpa [bj] using h2))⟩ ?_;(exact JP rfl rfl rfl ⟨aB rfl,trivial⟩)|apply cw;rfl
   ·skip
    refine aA ⟨by kernel_rfl,?_,?_⟩;(focus(repeat(first|exact JR|apply fk;rfl|apply eI;rfl|refine⟨.inr (by(repeat(refine⟨(by(exact aN (F.un _ rfl) (F.sz _ rfl) rfl rfl rfl (by omega) (by omega) (by omega))),?_⟩));exact JR),?_⟩|refine⟨.inl (by kernel_rfl),?_⟩)))
    repeat first|apply aj;rfl|apply aK;rfl;omega;omega
    obtain⟨j1,rfl⟩: ∃ j',j1=j'+1:=⟨j1-1,by omega⟩
    refine ihv _ _ _ j1 [] ⟨by omega,?_⟩ (by omega) ?_
    ·rw [← hv]
     exact(gY (by omega) (by simpa [bj] using h2)).symm
    ·(refine⟨(JF rfl),rfl,(by repeat(first|exact JR|refine⟨rfl,?_⟩|refine⟨fH (by(omega)),?_⟩)),⟨aB rfl,trivial⟩⟩)
  ·repeat first|apply aU;rfl|refine cp rfl rfl ?_
   refine aA ⟨by kernel_rfl,?_,?_⟩;(focus(repeat(first|exact JR|apply Ag;rfl|apply eI;rfl|refine⟨.inl rfl,?_⟩)))
   repeat first|refine out _ _ _ j1 [] ⟨hjj,by rw [← hv];exact cY (.inl (by omega))⟩ ?_;(exact JP rfl rfl rfl ⟨aB rfl,trivial⟩)|apply cw;rfl
 rintro j2 ⟨hjj,hv⟩
 rw [hv] at e0
 repeat apply aj;rfl
 refine ej rfl rfl rfl rfl ?_ ?_
 all_goals intro h3
 ·rw [Je (by omega)] at e0
  rw [e0]
  repeat apply aj;rfl
  refine cj (by kernel_rfl) (by kernel_rfl) ?_
  repeat first|apply aU;rfl|refine cq (g:=fun x:Int=> .int .i64 x) rfl rfl rfl (F.ag _ rfl) rfl (by(omega)) (by(omega)) ?_|refine fg (g:=fun x:Int=> .int .i64 x) rfl rfl rfl (fun _=>rfl) (F.sz _ rfl) rfl (by first|omega|(simp only [Hw,aO];omega)) (by first|omega|(simp only [Hw,aO];omega)) ?_|refine aH (q:=a) rfl rfl rfl rfl (F.un _ rfl) (F.sz _ rfl) rfl (by omega) (by omega) (by omega) ?_|refine aH (q:=j2) rfl rfl rfl rfl (F.un _ rfl) (F.sz _ rfl) rfl (by omega) (by omega) (by omega) ?_
  refine aA ⟨by kernel_rfl,?_,?_⟩;(focus(repeat(first|exact JR|apply fk;rfl|apply eI;rfl|refine⟨.inr (by(repeat(refine⟨(by(exact aN (F.un _ rfl) (F.sz _ rfl) rfl rfl rfl (by omega) (by omega) (by omega))),?_⟩));exact JR),?_⟩|refine⟨.inl (by kernel_rfl),?_⟩)))
  repeat apply aj;rfl
  ((apply bn Tryz.func115 (congrArg Array.toList Tryz.results115));(focus(repeat(first|exact JI|apply JK rfl)));refine⟨_,rfl,Ends.mk [] (JF rfl) rfl rfl ?_⟩)
  exact⟨aB rfl,trivial⟩
 rw [Jd (by omega)] at e0
 rw [e0]
 repeat apply aj;rfl
 refine cj (by kernel_rfl) (by kernel_rfl) ?_
 repeat first|apply aU;rfl|refine cq (g:=fun x:Int=> .int .i64 x) rfl rfl rfl (F.ag _ rfl) rfl (by(omega)) (by(omega)) ?_|refine fg (g:=fun x:Int=> .int .i64 x) rfl rfl rfl (fun _=>rfl) (F.sz _ rfl) rfl (by first|omega|(simp only [Hw,aO];omega)) (by first|omega|(simp only [Hw,aO];omega)) ?_|refine aH (q:=i2) rfl rfl rfl rfl (F.un _ rfl) (F.sz _ rfl) rfl (by omega) (by omega) (by omega) ?_|refine aH (q:=j2) rfl rfl rfl rfl (F.un _ rfl) (F.sz _ rfl) rfl (by omega) (by omega) (by omega) ?_
 refine aA ⟨by kernel_rfl,?_,?_⟩;(focus(repeat(first|exact JR|apply fk;rfl|apply eI;rfl|refine⟨.inr (by(repeat(refine⟨(by(exact aN (F.un _ rfl) (F.sz _ rfl) rfl rfl rfl (by omega) (by omega) (by omega))),?_⟩));exact JR),?_⟩|refine⟨.inl (by kernel_rfl),?_⟩)))
 repeat first|apply aj;rfl|apply aK;rfl;omega;omega
 refine f9 1 (fun s:(Nat×Nat)×Array (Int)=> [(0,.slu 0 0 n),(1,.sc (.int .i64 (a:Int))),(10,.sc (.int .i64 (s.1.1:Int))),(11,.sc (.int .i64 (s.1.2:Int)))]) (fun s=> [some (b8 n s.2)]) (fun s=>a<s.1.1∧s.1.1≤n∧s.1.2<n∧s.2.size=n∧Sort.partLoop bj a s.1.1 s.1.2 s.2=Sort.partLoop bj a (i2+1) (j2-1) (Sort.swp d1 i2 j2)) (fun s=>s.1.2+1-s.1.1) ((i2+1,j2-1),Sort.swp d1 i2 j2) []
  1 (fun s:Nat×Array (Int)=> [(0,.slu 0 0 n),(1,.sc (.int .i64 (a:Int))),(11,.sc (.int .i64 (s.1:Int)))]) (fun s=> [some (b8 n s.2)]) (fun s=>s.1<n∧s.2.size=n∧Sort.partLoop bj a (i2+1) (j2-1) (Sort.swp d1 i2 j2)=s)
  (fun _=>rfl) (fun _=>rfl) ⟨by simp only;omega,by simp only;omega,by simp only;omega,by rw [aO];exact hd1,rfl⟩ ?_ (fun _=>rfl) (fun _=>rfl) ?_ ?_
 ·(refine⟨(JF rfl),rfl,(by repeat(first|exact JR|refine⟨rfl,?_⟩|refine⟨fH (by(simp only;omega)),?_⟩)),⟨aB rfl,trivial⟩⟩)
 ·rintro⟨⟨i,j⟩,d3⟩ ⟨hai,hi,hj,hd3,ho⟩ ih outer
  simp only at hai hi hj hd3 ho ih ⊢
  repeat apply aj;rfl
  refine f9 1 (fun x:Nat=> [(0,.slu 0 0 n),(1,.sc (.int .i64 (a:Int))),(10,.sc (.int .i64 (x:Int))),(11,.sc (.int .i64 (j:Int)))]) (fun _=> [some (b8 n d3)]) (fun x=>i≤x∧x≤n∧Sort.scanUp (fun y=>bj y d3[a]!) d3 j x=Sort.scanUp (fun y=>bj y d3[a]!) d3 j i) (fun x=>n-x) i []
   1 (fun x:Nat=> [(0,.slu 0 0 n),(1,.sc (.int .i64 (a:Int))),(10,.sc (.int .i64 (x:Int))),(11,.sc (.int .i64 (j:Int)))]) (fun _=> [some (b8 n d3)]) (fun x=>i≤x∧x≤n∧Sort.scanUp (fun y=>bj y d3[a]!) d3 j i=x)
   (fun _=>rfl) (fun _=>rfl) ⟨HS _,hi,rfl⟩ ?_ (fun _=>rfl) (fun _=>rfl) ?_ ?_
  ·(exact JP rfl rfl rfl ⟨aB rfl,trivial⟩)
  ·rintro i1 ⟨hii,hi1,hu⟩ ihu out
   repeat apply aj;rfl
   refine cj (by kernel_rfl) (by kernel_rfl) ?_
   repeat apply aU;rfl
   refine mK rfl rfl rfl rfl ?_ ?_
   all_goals intro h1
   ·have hls_h2:=fK (d3[i1]!) (d3[a]!)
    cases h2:bj (d3[i1]!) (d3[a]!)
    all_goals rw [h2] at hls_h2
    rotate_left
    all_goals(repeat(first|apply aU;rfl|refine cq (g:=fun x:Int=> .int .i64 x) rfl rfl rfl (F.ag _ rfl) rfl (by(omega)) (by(omega)) ?_|refine aH (q:=a) rfl rfl rfl rfl (F.un _ rfl) (F.sz _ rfl) rfl (by omega) (by omega) (by omega) ?_|refine aH (q:=i1) rfl rfl rfl rfl (F.un _ rfl) (F.sz _ rfl) rfl (by omega) (by omega) (by omega) ?_|refine bW rfl rfl rfl (by kernel_rfl) (Ctr.callV (hls_h2) [] rfl (JF rfl) rfl trivial rfl) ?_))
    ·skip
     refine aA ⟨by kernel_rfl,?_,?_⟩;(focus(repeat(first|exact JR|apply fk;rfl|apply eI;rfl|refine⟨.inr (by(repeat(refine⟨(by(exact aN (F.un _ rfl) (F.sz _ rfl) rfl rfl rfl (by omega) (by omega) (by omega))),?_⟩));exact JR),?_⟩|refine⟨.inl (by kernel_rfl),?_⟩)))
     repeat first|apply aj;rfl|apply aK;rfl;omega;omega
     refine ihu _ _ _ (i1+1) [] ⟨by omega,by omega,?_⟩ (by omega) ?_
     ·rw [← hu]
      exact(jC (by omega) (by simpa [bj] using h2)).symm
     ·(exact JP rfl rfl rfl ⟨aB rfl,trivial⟩)
    ·skip
     refine aA ⟨by kernel_rfl,?_,?_⟩;(focus(repeat(first|exact JR|apply fk;rfl|apply eI;rfl|refine⟨.inr (by(repeat(refine⟨(by(exact aN (F.un _ rfl) (F.sz _ rfl) rfl rfl rfl (by omega) (by omega) (by omega))),?_⟩));exact JR),?_⟩|refine⟨.inl (by kernel_rfl),?_⟩)))
     repeat first|refine out _ _ _ i1 [] ⟨hii,hi1,by rw [← hu];exact dC (.inr (by simpa [bj] using h2))⟩ ?_;(exact JP rfl rfl rfl ⟨aB rfl,trivial⟩)|apply cw;rfl
   ·repeat first|apply aU;rfl|refine cp rfl rfl ?_
    refine aA ⟨by kernel_rfl,?_,?_⟩;(focus(repeat(first|exact JR|apply Ag;rfl|apply eI;rfl|refine⟨.inl rfl,?_⟩)))
    repeat first|refine out _ _ _ i1 [] ⟨hii,hi1,by rw [← hu];exact dC (.inl (by omega))⟩ ?_;(exact JP rfl rfl rfl ⟨aB rfl,trivial⟩)|apply cw;rfl
  rintro i3 ⟨hii3,hi3,hu3⟩
  repeat apply aj;rfl
  refine f9 1 (fun x:Nat=> [(0,.slu 0 0 n),(1,.sc (.int .i64 (a:Int))),(10,.sc (.int .i64 (i3:Int))),(11,.sc (.int .i64 (x:Int)))]) (fun _=> [some (b8 n d3)]) (fun x=>x≤j∧Sort.scanDown (fun y=> !bj y d3[a]!) d3 i3 x=Sort.scanDown (fun y=> !bj y d3[a]!) d3 i3 (j)) (fun x=>x) (j) []
   1 (fun x:Nat=> [(0,.slu 0 0 n),(1,.sc (.int .i64 (a:Int))),(10,.sc (.int .i64 (i3:Int))),(11,.sc (.int .i64 (x:Int)))]) (fun _=> [some (b8 n d3)]) (fun x=>x≤j∧Sort.scanDown (fun y=> !bj y d3[a]!) d3 i3 (j)=x)
   (fun _=>rfl) (fun _=>rfl) ⟨HS _,rfl⟩ ?_ (fun _=>rfl) (fun _=>rfl) ?_ ?_
  ·(exact JP rfl rfl rfl ⟨aB rfl,trivial⟩)
  ·rintro j1 ⟨hjj,hv⟩ ihv out
   repeat apply aj;rfl
   refine cj (by kernel_rfl) (by kernel_rfl) ?_
   repeat apply aU;rfl
   refine mK rfl rfl rfl rfl ?_ ?_
   all_goals intro h1
   ·have hls_h2:=fK (d3[j1]!) (d3[a]!)
    cases h2:bj (d3[j1]!) (d3[a]!)
    all_goals rw [h2] at hls_h2
    rotate_left
    all_goals(repeat(first|apply aU;rfl|refine cq (g:=fun x:Int=> .int .i64 x) rfl rfl rfl (F.ag _ rfl) rfl (by(omega)) (by(omega)) ?_|refine aH (q:=a) rfl rfl rfl rfl (F.un _ rfl) (F.sz _ rfl) rfl (by omega) (by omega) (by omega) ?_|refine aH (q:=j1) rfl rfl rfl rfl (F.un _ rfl) (F.sz _ rfl) rfl (by omega) (by omega) (by omega) ?_|refine bW rfl rfl rfl (by kernel_rfl) (Ctr.callV (hls_h2) [] rfl (JF rfl) rfl trivial rfl) ?_))
    ·skip
     refine aA ⟨by kernel_rfl,?_,?_⟩;(focus(repeat(first|exact JR|apply fk;rfl|apply eI;rfl|refine⟨.inr (by(repeat(refine⟨(by(exact aN (F.un _ rfl) (F.sz _ rfl) rfl rfl rfl (by omega) (by omega) (by omega))),?_⟩));exact JR),?_⟩|refine⟨.inl (by kernel_rfl),?_⟩)))
     repeat first|refine out _ _ _ j1 [] ⟨hjj,by rw [← hv];exact cY (.inr (by simpa [bj] using h2))⟩ ?_;(exact JP rfl rfl rfl ⟨aB rfl,trivial⟩)|apply cw;rfl
    ·skip
     refine aA ⟨by kernel_rfl,?_,?_⟩;(focus(repeat(first|exact JR|apply fk;rfl|apply eI;rfl|refine⟨.inr (by(repeat(refine⟨(by(exact aN (F.un _ rfl) (F.sz _ rfl) rfl rfl rfl (by omega) (by omega) (by omega))),?_⟩));exact JR),?_⟩|refine⟨.inl (by kernel_rfl),?_⟩)))
     repeat first|apply aj;rfl|apply aK;rfl;omega;omega
     obtain⟨j1,rfl⟩: ∃ j',j1=j'+1:=⟨j1-1,by omega⟩
     refine ihv _ _ _ j1 [] ⟨by omega,?_⟩ (by omega) ?_
     ·rw [← hv]
      exact(gY (by omega) (by simpa [bj] using h2)).symm
     ·(refine⟨(JF rfl),rfl,(by repeat(first|exact JR|refine⟨rfl,?_⟩|refine⟨fH (by(omega)),?_⟩)),⟨aB rfl,trivial⟩⟩)
   ·repeat first|apply aU;rfl|refine cp rfl rfl ?_
    refine aA ⟨by kernel_rfl,?_,?_⟩;(focus(repeat(first|exact JR|apply Ag;rfl|apply eI;rfl|refine⟨.inl rfl,?_⟩)))
    repeat first|refine out _ _ _ j1 [] ⟨hjj,by rw [← hv];exact cY (.inl (by omega))⟩ ?_;(exact JP rfl rfl rfl ⟨aB rfl,trivial⟩)|apply cw;rfl
  rintro j3 ⟨hjj3,hv3⟩
  have e:=sh hu3 hv3 hii3 hjj3
  repeat apply aj;rfl
  refine ej rfl rfl rfl rfl ?_ ?_
  all_goals intro h3
  ·rw [ho,Je (by omega)] at e
   repeat first|refine outer _ _ _ (j3,d3) [] ⟨by simp only;omega,hd3,e⟩ ?_;(exact JP rfl rfl rfl ⟨aB rfl,trivial⟩)|apply cw;rfl
  ·rw [ho,Jd (by omega)] at e
   repeat apply aj;rfl
   refine cj (by kernel_rfl) (by kernel_rfl) ?_
   repeat first|apply aU;rfl|refine cq (g:=fun x:Int=> .int .i64 x) rfl rfl rfl (F.ag _ rfl) rfl (by(omega)) (by(omega)) ?_|refine fg (g:=fun x:Int=> .int .i64 x) rfl rfl rfl (fun _=>rfl) (F.sz _ rfl) rfl (by first|omega|(simp only [Hw,aO];omega)) (by first|omega|(simp only [Hw,aO];omega)) ?_|refine aH (q:=i3) rfl rfl rfl rfl (F.un _ rfl) (F.sz _ rfl) rfl (by omega) (by omega) (by omega) ?_|refine aH (q:=j3) rfl rfl rfl rfl (F.un _ rfl) (F.sz _ rfl) rfl (by omega) (by omega) (by omega) ?_
   refine aA ⟨by kernel_rfl,?_,?_⟩;(focus(repeat(first|exact JR|apply fk;rfl|apply eI;rfl|refine⟨.inr (by(repeat(refine⟨(by(exact aN (F.un _ rfl) (F.sz _ rfl) rfl rfl rfl (by omega) (by omega) (by omega))),?_⟩));exact JR),?_⟩|refine⟨.inl (by kernel_rfl),?_⟩)))
   repeat first|apply aj;rfl|apply aK;rfl;omega;omega
   refine ih _ _ _ ((i3+1,j3-1),Sort.swp d3 i3 j3) [] ⟨by simp only;omega,by simp only;omega,by simp only;omega,by rw [aO];exact hd3,e.symm⟩ (by simp only;omega) ?_
   (refine⟨(JF rfl),rfl,(by repeat(first|exact JR|refine⟨rfl,?_⟩|refine⟨fH (by(simp only;omega)),?_⟩)),⟨aB rfl,trivial⟩⟩)
 rintro⟨j3,d3⟩ ⟨hj3,hd3,e⟩
 simp only at hj3 hd3 e ⊢
 rw [e]
 repeat apply aj;rfl
 refine cj (by kernel_rfl) (by kernel_rfl) ?_
 repeat first|apply aU;rfl|refine cq (g:=fun x:Int=> .int .i64 x) rfl rfl rfl (F.ag _ rfl) rfl (by(omega)) (by(omega)) ?_|refine fg (g:=fun x:Int=> .int .i64 x) rfl rfl rfl (fun _=>rfl) (F.sz _ rfl) rfl (by first|omega|(simp only [Hw,aO];omega)) (by first|omega|(simp only [Hw,aO];omega)) ?_|refine aH (q:=a) rfl rfl rfl rfl (F.un _ rfl) (F.sz _ rfl) rfl (by omega) (by omega) (by omega) ?_|refine aH (q:=j3) rfl rfl rfl rfl (F.un _ rfl) (F.sz _ rfl) rfl (by omega) (by omega) (by omega) ?_
 refine aA ⟨by kernel_rfl,?_,?_⟩;(focus(repeat(first|exact JR|apply fk;rfl|apply eI;rfl|refine⟨.inr (by(repeat(refine⟨(by(exact aN (F.un _ rfl) (F.sz _ rfl) rfl rfl rfl (by omega) (by omega) (by omega))),?_⟩));exact JR),?_⟩|refine⟨.inl (by kernel_rfl),?_⟩)))
 repeat apply aj;rfl
 ((apply bn Tryz.func115 (congrArg Array.toList Tryz.results115));(focus(repeat(first|exact JI|apply JK rfl)));refine⟨_,rfl,Ends.mk [] (JF rfl) rfl rfl ?_⟩)
 exact⟨aB rfl,trivial⟩
theorem nq(h:i<b)(hp:lt d[i]! d[i-1]! =false):Sort.scanSorted lt d b i=Sort.scanSorted lt d b (i+1):=by
 conv=>lhs;rw [Sort.scanSorted,Je (by simp [h,hp])]
theorem gN(h:b≤i∨lt d[i]! d[i-1]! =true):Sort.scanSorted lt d b i=i:=by
 rw [Sort.scanSorted,Jd]
 simp only [HR,JE,Bool.not_eq_true']
 rintro⟨h1,h2⟩
 rcases h with h|h
 ·omega
 ·rw [h] at h2;cases h2
theorem lT(h:j<b)(hp:lt d[j]! d[j-1]! =true):Sort.shiftUp lt b j d=Sort.shiftUp lt b (j+1) (Sort.swp d j (j-1)):=by
 conv=>lhs;rw [Sort.shiftUp,Je h,Jd (by simp [hp])]
theorem fc(h:b≤j∨lt d[j]! d[j-1]! =false):Sort.shiftUp lt b j d=d:=by
 rw [Sort.shiftUp]
 split
 ·rename_i h1
  rw [Je]
  rcases h with h|h
  ·omega
  ·simp [h]
 ·rfl
theorem se{d2 d3:Array (Int)}(hi:Sort.scanSorted lt d b i=i1)(h1:i1≠b)(h2: ¬ b-a<50)
 (e2:(if i1-a≥2 then Sort.shiftDown lt (i1-1) (Sort.swp d i1 (i1-1)) else Sort.swp d i1 (i1-1))=d2) (e3:(if b-i1≥2 then Sort.shiftUp lt b (i1+1) d2 else d2)=d3):Sort.partialIns lt a b (s+1) i d=Sort.partialIns lt a b s i1 d3:=by
 rw [Sort.partialIns]
 simp only [hi,Jd h1,Jd h2]
 rw [e2,e3]
theorem sd(hi:Sort.scanSorted lt d b i=i1)(h1:i1=b):Sort.partialIns lt a b (s+1) i d=(d,true):=by
 rw [Sort.partialIns]
 simp only [hi,Je h1]
theorem qu(hi:Sort.scanSorted lt d b i=i1)(h1:i1≠b)(h2:b-a<50):Sort.partialIns lt a b (s+1) i d=(d,false):=by
 rw [Sort.partialIns]
 simp only [hi,Jd h1,Je h2]
theorem sg(n a b:Nat)(d:Array (Int))(hn:n<4611686018427387904)(hd:d.size=n)(hab:a<b)(hb:b≤n) :
 Ctr Tryz.prog 112 [.slu 0 0 n,.sc (.int .i64 (a:Int)),.sc (.int .i64 (b:Int))] [b8 n d] (fun c=>c=⟨.sc (.bool (Sort.partialInsertionSort bj d a b).2),[some (b8 n (Sort.partialInsertionSort bj d a b).1)]⟩):=by
 refine JH Tryz.func112 rfl rfl ?_
 repeat first|apply aj;rfl|apply aK;rfl;omega;omega
 refine ga 1 (fun s:(Nat×Nat)×Array (Int)=> [(0,.slu 0 0 n),(1,.sc (.int .i64 (a:Int))),(2,.sc (.int .i64 (b:Int))),(7,.sc (.int .i64 (s.1.2:Int))),(8,.sc (.int .i64 ((5-s.1.1:Nat):Int)))]) (fun s=> [some (b8 n s.2)]) (fun s=>s.1.1≤5∧a+1≤s.1.2∧s.1.2≤b∧s.2.size=n∧Sort.partialIns bj a b s.1.1 s.1.2 s.2=Sort.partialInsertionSort bj d a b) (fun s=>s.1.1) ((5,a+1),d) []
  (fun _=>rfl) ⟨HS _,HS _,hab,hd,rfl⟩ ?_ (fun _=>rfl) (fun _=>rfl) ?_
 ·(exact JP rfl rfl rfl ⟨aB rfl,trivial⟩)
 rintro⟨⟨s,i⟩,d0⟩ ⟨hs,hai,hi,hd0,ho⟩ ih
 simp only at hs hai hi hd0 ho ih ⊢
 repeat apply aj;rfl
 refine bi rfl rfl rfl rfl ?_ ?_
 all_goals intro h0
 ·obtain⟨s,rfl⟩: ∃ s',s=s'+1:=⟨s-1,by omega⟩
  repeat apply aj;rfl
  refine f9 1 (fun x:Nat=> [(0,.slu 0 0 n),(1,.sc (.int .i64 (a:Int))),(2,.sc (.int .i64 (b:Int))),(7,.sc (.int .i64 (x:Int))),(8,.sc (.int .i64 ((5-(s+1):Nat):Int)))]) (fun _=> [some (b8 n d0)]) (fun x=>a+1≤x∧x≤b∧Sort.scanSorted bj d0 b x=Sort.scanSorted bj d0 b i) (fun x=>b-x) i []
   1 (fun x:Nat=> [(0,.slu 0 0 n),(1,.sc (.int .i64 (a:Int))),(2,.sc (.int .i64 (b:Int))),(7,.sc (.int .i64 (x:Int))),(8,.sc (.int .i64 ((5-(s+1):Nat):Int)))]) (fun _=> [some (b8 n d0)]) (fun x=>a+1≤x∧x≤b∧Sort.scanSorted bj d0 b i=x)
   (fun _=>rfl) (fun _=>rfl) ⟨hai,hi,rfl⟩ ?_ (fun _=>rfl) (fun _=>rfl) ?_ ?_
  ·(exact JP rfl rfl rfl ⟨aB rfl,trivial⟩)
  ·rintro i1 ⟨hai1,hi1,hu⟩ ihu out
   repeat apply aj;rfl
   refine cj (by kernel_rfl) (by kernel_rfl) ?_
   repeat apply aU;rfl
   refine cJ rfl rfl rfl rfl ?_ ?_
   all_goals intro h1
   ·have hls_h2:=fK (d0[i1]!) (d0[i1-1]!)
    cases h2:bj (d0[i1]!) (d0[i1-1]!)
    all_goals rw [h2] at hls_h2
    rotate_left
    all_goals(repeat(first|apply aU;rfl|refine bk (aw rfl rfl (.inr (.inl ⟨rfl,(Hu _ ⟨(by omega),(by omega)⟩).symm⟩))) rfl rfl rfl ?_|refine cq (g:=fun x:Int=> .int .i64 x) rfl rfl rfl (F.ag _ rfl) rfl (by(omega)) (by(omega)) ?_|refine aH (q:=i1) rfl rfl rfl rfl (F.un _ rfl) (F.sz _ rfl) rfl (by omega) (by omega) (by omega) ?_|refine aH (q:=i1-1) rfl rfl rfl rfl (F.un _ rfl) (F.sz _ rfl) rfl (by omega) (by omega) (by omega) ?_|refine bW rfl rfl rfl (by kernel_rfl) (Ctr.callV (hls_h2) [] rfl (JF rfl) rfl trivial rfl) ?_))
    ·skip
     refine aA ⟨by kernel_rfl,?_,?_⟩;(focus(repeat(first|exact JR|apply fk;rfl|apply eI;rfl|refine⟨.inr (by(repeat(refine⟨(by first|exact aN (F.un _ rfl) (F.sz _ rfl) rfl rfl rfl (by omega) (by omega) (by omega)|exact aw rfl rfl (.inr (.inl ⟨rfl,(Hu _ ⟨by omega,by omega⟩).symm⟩))),?_⟩));exact JR),?_⟩|refine⟨.inl (by kernel_rfl),?_⟩)))
     repeat first|refine out _ _ _ i1 [] ⟨hai1,hi1,by rw [← hu];exact gN (.inr (by simpa [bj] using h2))⟩ ?_;(exact JP rfl rfl rfl ⟨aB rfl,trivial⟩)|apply cw;rfl
    ·skip
     refine aA ⟨by kernel_rfl,?_,?_⟩;(focus(repeat(first|exact JR|apply fk;rfl|apply eI;rfl|refine⟨.inr (by(repeat(refine⟨(by first|exact aN (F.un _ rfl) (F.sz _ rfl) rfl rfl rfl (by omega) (by omega) (by omega)|exact aw rfl rfl (.inr (.inl ⟨rfl,(Hu _ ⟨by omega,by omega⟩).symm⟩))),?_⟩));exact JR),?_⟩|refine⟨.inl (by kernel_rfl),?_⟩)))
     repeat first|apply aj;rfl|apply aK;rfl;omega;omega
     refine ihu _ _ _ (i1+1) [] ⟨by omega,by omega,?_⟩ (by omega) ?_
     ·rw [← hu]
      exact(nq (by omega) (by simpa [bj] using h2)).symm
     ·(exact JP rfl rfl rfl ⟨aB rfl,trivial⟩)
   ·repeat first|apply aU;rfl|refine cp rfl rfl ?_
    refine aA ⟨by kernel_rfl,?_,?_⟩;(focus(repeat(first|exact JR|apply Ag;rfl|apply eI;rfl|refine⟨.inl rfl,?_⟩)))
    repeat first|refine out _ _ _ i1 [] ⟨hai1,hi1,by rw [← hu];exact gN (.inl (by omega))⟩ ?_;(exact JP rfl rfl rfl ⟨aB rfl,trivial⟩)|apply cw;rfl
  rintro i1 ⟨hai1,hi1,hu⟩
  repeat apply aj;rfl
  refine cF rfl rfl rfl rfl ?_ ?_
  all_goals intro h1
  ·rw [sd hu (by omega)] at ho
   repeat apply aj;rfl
   rw [← ho]
   ((apply bn Tryz.func112 (congrArg Array.toList Tryz.results112));(focus(repeat(first|exact JI|apply JK rfl)));refine⟨_,rfl,Ends.mk [] (JF rfl) rfl rfl ?_⟩)
   exact⟨aB rfl,trivial⟩
  repeat first|apply aj;rfl|apply aK;rfl;omega;omega
  refine bi rfl rfl rfl rfl ?_ ?_
  all_goals intro h2
  ·rw [qu hu (by omega) (by omega)] at ho
   repeat apply aj;rfl
   rw [← ho]
   ((apply bn Tryz.func112 (congrArg Array.toList Tryz.results112));(focus(repeat(first|exact JI|apply JK rfl)));refine⟨_,rfl,Ends.mk [] (JF rfl) rfl rfl ?_⟩)
   exact⟨aB rfl,trivial⟩
  repeat apply aj;rfl
  refine cj (by kernel_rfl) (by kernel_rfl) ?_
  repeat first|apply aU;rfl|refine bk (aw rfl rfl (.inr (.inl ⟨rfl,(Hu _ ⟨(by omega),(by omega)⟩).symm⟩))) rfl rfl rfl ?_|refine cq (g:=fun x:Int=> .int .i64 x) rfl rfl rfl (F.ag _ rfl) rfl (by(omega)) (by(omega)) ?_|refine fg (g:=fun x:Int=> .int .i64 x) rfl rfl rfl (fun _=>rfl) (F.sz _ rfl) rfl (by first|omega|(simp only [Hw,aO];omega)) (by first|omega|(simp only [Hw,aO];omega)) ?_|refine aH (q:=i1) rfl rfl rfl rfl (F.un _ rfl) (F.sz _ rfl) rfl (by omega) (by omega) (by omega) ?_|refine aH (q:=i1-1) rfl rfl rfl rfl (F.un _ rfl) (F.sz _ rfl) rfl (by omega) (by omega) (by omega) ?_
  refine aA ⟨by kernel_rfl,?_,?_⟩;(focus(repeat(first|exact JR|apply fk;rfl|apply eI;rfl|refine⟨.inr (by(repeat(refine⟨(by first|exact aN (F.un _ rfl) (F.sz _ rfl) rfl rfl rfl (by omega) (by omega) (by omega)|exact aw rfl rfl (.inr (.inl ⟨rfl,(Hu _ ⟨by omega,by omega⟩).symm⟩))),?_⟩));exact JR),?_⟩|refine⟨.inl (by kernel_rfl),?_⟩)))
  have hd1:(Sort.swp d0 i1 (i1-1)).size=n:=by rw [aO];exact hd0
  have e2: ∃ d2,(if i1-a≥2 then Sort.shiftDown bj (i1-1) (Sort.swp d0 i1 (i1-1)) else Sort.swp d0 i1 (i1-1))=d2:=⟨_,rfl⟩
  obtain⟨d2,e2⟩:=e2
  have hps:=fun d3 e3=>se (s:=s) (d3:=d3) hu (by omega) (by omega) e2 e3
  generalize hsw:Sort.swp d0 i1 (i1-1)=d1 at e2 hd1
  have hsw':(d0.setIfInBounds i1 d0[i1-1]!).setIfInBounds (i1-1) d0[i1]! =d1:=hsw
  rw [hsw']
  repeat first|apply aj;rfl|apply aK;rfl;omega;omega
  refine er rfl rfl rfl rfl ?_ ?_
  all_goals intro h3
  ·rw [Je (by omega)] at e2
   repeat first|apply aj;rfl|apply aK;rfl;omega;omega
   refine f9 1 (fun s1:Nat×Array (Int)=> [(0,.slu 0 0 n),(1,.sc (.int .i64 (a:Int))),(2,.sc (.int .i64 (b:Int))),(7,.sc (.int .i64 (i1:Int))),(8,.sc (.int .i64 ((5-(s+1):Nat):Int))),(9,.sc (.int .i64 (s1.1:Int)))]) (fun s1=> [some (b8 n s1.2)]) (fun s1=>s1.1≤i1-1∧s1.2.size=n∧Sort.shiftDown bj s1.1 s1.2=d2) (fun s1=>s1.1) (i1-1,d1) []
    1 (fun d':Array (Int)=> [(0,.slu 0 0 n),(1,.sc (.int .i64 (a:Int))),(2,.sc (.int .i64 (b:Int))),(7,.sc (.int .i64 (i1:Int))),(8,.sc (.int .i64 ((5-(s+1):Nat):Int)))]) (fun d'=> [some (b8 n d')]) (fun d'=>d'.size=n∧d'=d2)
    (fun _=>rfl) (fun _=>rfl) ⟨HS _,hd1,e2⟩ ?_ (fun _=>rfl) (fun _=>rfl) ?_ ?_
   ·(refine⟨(JF rfl),rfl,(by repeat(first|exact JR|refine⟨rfl,?_⟩|refine⟨fH (by(omega)),?_⟩)),⟨aB rfl,trivial⟩⟩)
   ·rintro⟨j,d'⟩ ⟨hj,hd',hsd⟩ ihd out
    simp only at hj hd' hsd ihd ⊢
    repeat apply aj;rfl
    refine er rfl rfl rfl rfl ?_ ?_
    all_goals intro h4
    ·obtain⟨j,rfl⟩: ∃ j',j=j'+1:=⟨j-1,by omega⟩
     repeat apply aj;rfl
     refine cj (by kernel_rfl) (by kernel_rfl) ?_
     have hls_h5:=fK (d'[j+1]!) (d'[j]!)
     cases h5:bj (d'[j+1]!) (d'[j]!)
     all_goals rw [h5] at hls_h5
     rotate_left
     all_goals(repeat(first|apply aU;rfl|refine bk (aw rfl rfl (.inr (.inl ⟨rfl,(Hu _ ⟨(by omega),(by omega)⟩).symm⟩))) rfl rfl rfl ?_|refine cq (g:=fun x:Int=> .int .i64 x) rfl rfl rfl (F.ag _ rfl) rfl (by(omega)) (by(omega)) ?_|refine aH (q:=j+1) rfl rfl rfl rfl (F.un _ rfl) (F.sz _ rfl) rfl (by omega) (by omega) (by omega) ?_|refine aH (q:=j) rfl rfl rfl rfl (F.un _ rfl) (F.sz _ rfl) rfl (by omega) (by omega) (by omega) ?_|refine bW rfl rfl rfl (by kernel_rfl) (Ctr.callV (hls_h5) [] rfl (JF rfl) rfl trivial rfl) ?_))
     ·skip
      refine aA ⟨by kernel_rfl,?_,?_⟩;(focus(repeat(first|exact JR|apply fk;rfl|apply eI;rfl|refine⟨.inr (by(repeat(refine⟨(by first|exact aN (F.un _ rfl) (F.sz _ rfl) rfl rfl rfl (by omega) (by omega) (by omega)|exact aw rfl rfl (.inr (.inl ⟨rfl,(Hu _ ⟨by omega,by omega⟩).symm⟩))),?_⟩));exact JR),?_⟩|refine⟨.inl (by kernel_rfl),?_⟩)))
      repeat apply aj;rfl
      refine cj (by kernel_rfl) (by kernel_rfl) ?_
      repeat first|apply aU;rfl|refine bk (aw rfl rfl (.inr (.inl ⟨rfl,(Hu _ ⟨(by omega),(by omega)⟩).symm⟩))) rfl rfl rfl ?_|refine cq (g:=fun x:Int=> .int .i64 x) rfl rfl rfl (F.ag _ rfl) rfl (by(omega)) (by(omega)) ?_|refine fg (g:=fun x:Int=> .int .i64 x) rfl rfl rfl (fun _=>rfl) (F.sz _ rfl) rfl (by first|omega|(simp only [Hw,aO];omega)) (by first|omega|(simp only [Hw,aO];omega)) ?_|refine aH (q:=j+1) rfl rfl rfl rfl (F.un _ rfl) (F.sz _ rfl) rfl (by omega) (by omega) (by omega) ?_|refine aH (q:=j) rfl rfl rfl rfl (F.un _ rfl) (F.sz _ rfl) rfl (by omega) (by omega) (by omega) ?_
      refine aA ⟨by kernel_rfl,?_,?_⟩;(focus(repeat(first|exact JR|apply fk;rfl|apply eI;rfl|refine⟨.inr (by(repeat(refine⟨(by first|exact aN (F.un _ rfl) (F.sz _ rfl) rfl rfl rfl (by omega) (by omega) (by omega)|exact aw rfl rfl (.inr (.inl ⟨rfl,(Hu _ ⟨by omega,by omega⟩).symm⟩))),?_⟩));exact JR),?_⟩|refine⟨.inl (by kernel_rfl),?_⟩)))
      repeat first|apply aj;rfl|apply aK;rfl;omega;omega
      refine ihd _ _ _ (j,Sort.swp d' (j+1) j) [] ⟨by simp only;omega,by rw [aO];exact hd',?_⟩ (by simp only;omega) ?_
      ·rw [← hsd]
       conv=>rhs;rw [Sort.shiftDown,Jd (by simpa [bj] using h5)]
      ·(refine⟨(JF rfl),rfl,(by repeat(first|exact JR|refine⟨rfl,?_⟩|refine⟨fH (by(omega)),?_⟩)),⟨aB rfl,trivial⟩⟩)
     ·skip
      refine aA ⟨by kernel_rfl,?_,?_⟩;(focus(repeat(first|exact JR|apply fk;rfl|apply eI;rfl|refine⟨.inr (by(repeat(refine⟨(by first|exact aN (F.un _ rfl) (F.sz _ rfl) rfl rfl rfl (by omega) (by omega) (by omega)|exact aw rfl rfl (.inr (.inl ⟨rfl,(Hu _ ⟨by omega,by omega⟩).symm⟩))),?_⟩));exact JR),?_⟩|refine⟨.inl (by kernel_rfl),?_⟩)))
      repeat first|refine out _ _ _ d' [] ⟨hd',by rw [← hsd,Sort.shiftDown,Je (by simpa [bj] using h5)]⟩ ?_;(exact JP rfl rfl rfl ⟨aB rfl,trivial⟩)|apply cw;rfl
    ·obtain rfl:j=0:=by omega
     repeat first|refine out _ _ _ d' [] ⟨hd',hsd⟩ ?_;(exact JP rfl rfl rfl ⟨aB rfl,trivial⟩)|apply cw;rfl
   rintro d2' ⟨hd2,rfl⟩
   repeat first|apply aj;rfl|apply aK;rfl;omega;omega
   refine er rfl rfl rfl rfl ?_ ?_
   all_goals intro h6
   ·repeat first|apply aj;rfl|apply aK;rfl;omega;omega
    refine f9 1 (fun s1:Nat×Array (Int)=> [(0,.slu 0 0 n),(1,.sc (.int .i64 (a:Int))),(2,.sc (.int .i64 (b:Int))),(7,.sc (.int .i64 (i1:Int))),(8,.sc (.int .i64 ((5-(s+1):Nat):Int))),(10,.sc (.int .i64 (s1.1:Int)))]) (fun s1=> [some (b8 n s1.2)]) (fun s1=>i1+1≤s1.1∧s1.1≤b∧s1.2.size=n∧Sort.shiftUp bj b s1.1 s1.2=Sort.shiftUp bj b (i1+1) d2') (fun s1=>b-s1.1) (i1+1,d2') []
     1 (fun d':Array (Int)=> [(0,.slu 0 0 n),(1,.sc (.int .i64 (a:Int))),(2,.sc (.int .i64 (b:Int))),(7,.sc (.int .i64 (i1:Int))),(8,.sc (.int .i64 ((5-(s+1):Nat):Int)))]) (fun d'=> [some (b8 n d')]) (fun d'=>d'.size=n∧Sort.shiftUp bj b (i1+1) d2'=d')
     (fun _=>rfl) (fun _=>rfl) ⟨HS _,by simp only;omega,hd2,rfl⟩ ?_ (fun _=>rfl) (fun _=>rfl) ?_ ?_
    ·(exact JP rfl rfl rfl ⟨aB rfl,trivial⟩)
    ·rintro⟨j,d'⟩ ⟨hj,hjb,hd',hsd⟩ ihd out
     simp only at hj hjb hd' hsd ihd ⊢
     repeat apply aj;rfl
     refine bi rfl rfl rfl rfl ?_ ?_
     all_goals intro h4
     ·repeat apply aj;rfl
      refine cj (by kernel_rfl) (by kernel_rfl) ?_
      have hls_h5:=fK (d'[j]!) (d'[j-1]!)
      cases h5:bj (d'[j]!) (d'[j-1]!)
      all_goals rw [h5] at hls_h5
      rotate_left
      all_goals(repeat(first|apply aU;rfl|refine bk (aw rfl rfl (.inr (.inl ⟨rfl,(Hu _ ⟨(by omega),(by omega)⟩).symm⟩))) rfl rfl rfl ?_|refine cq (g:=fun x:Int=> .int .i64 x) rfl rfl rfl (F.ag _ rfl) rfl (by(omega)) (by(omega)) ?_|refine aH (q:=j) rfl rfl rfl rfl (F.un _ rfl) (F.sz _ rfl) rfl (by omega) (by omega) (by omega) ?_|refine aH (q:=j-1) rfl rfl rfl rfl (F.un _ rfl) (F.sz _ rfl) rfl (by omega) (by omega) (by omega) ?_|refine bW rfl rfl rfl (by kernel_rfl) (Ctr.callV (hls_h5) [] rfl (JF rfl) rfl trivial rfl) ?_))
      ·skip
       refine aA ⟨by kernel_rfl,?_,?_⟩;(focus(repeat(first|exact JR|apply fk;rfl|apply eI;rfl|refine⟨.inr (by(repeat(refine⟨(by first|exact aN (F.un _ rfl) (F.sz _ rfl) rfl rfl rfl (by omega) (by omega) (by omega)|exact aw rfl rfl (.inr (.inl ⟨rfl,(Hu _ ⟨by omega,by omega⟩).symm⟩))),?_⟩));exact JR),?_⟩|refine⟨.inl (by kernel_rfl),?_⟩)))
       repeat apply aj;rfl
       refine cj (by kernel_rfl) (by kernel_rfl) ?_
       repeat first|apply aU;rfl|refine bk (aw rfl rfl (.inr (.inl ⟨rfl,(Hu _ ⟨(by omega),(by omega)⟩).symm⟩))) rfl rfl rfl ?_|refine cq (g:=fun x:Int=> .int .i64 x) rfl rfl rfl (F.ag _ rfl) rfl (by(omega)) (by(omega)) ?_|refine fg (g:=fun x:Int=> .int .i64 x) rfl rfl rfl (fun _=>rfl) (F.sz _ rfl) rfl (by first|omega|(simp only [Hw,aO];omega)) (by first|omega|(simp only [Hw,aO];omega)) ?_|refine aH (q:=j) rfl rfl rfl rfl (F.un _ rfl) (F.sz _ rfl) rfl (by omega) (by omega) (by omega) ?_|refine aH (q:=j-1) rfl rfl rfl rfl (F.un _ rfl) (F.sz _ rfl) rfl (by omega) (by omega) (by omega) ?_
       refine aA ⟨by kernel_rfl,?_,?_⟩;(focus(repeat(first|exact JR|apply fk;rfl|apply eI;rfl|refine⟨.inr (by(repeat(refine⟨(by first|exact aN (F.un _ rfl) (F.sz _ rfl) rfl rfl rfl (by omega) (by omega) (by omega)|exact aw rfl rfl (.inr (.inl ⟨rfl,(Hu _ ⟨by omega,by omega⟩).symm⟩))),?_⟩));exact JR),?_⟩|refine⟨.inl (by kernel_rfl),?_⟩)))
       repeat first|apply aj;rfl|apply aK;rfl;omega;omega
       refine ihd _ _ _ (j+1,Sort.swp d' j (j-1)) [] ⟨by simp only;omega,by simp only;omega,by rw [aO];exact hd',?_⟩ (by simp only;omega) ?_
       ·rw [← hsd]
        exact(lT (by omega) (by simpa [bj] using h5)).symm
       ·(exact JP rfl rfl rfl ⟨aB rfl,trivial⟩)
      ·skip
       refine aA ⟨by kernel_rfl,?_,?_⟩;(focus(repeat(first|exact JR|apply fk;rfl|apply eI;rfl|refine⟨.inr (by(repeat(refine⟨(by first|exact aN (F.un _ rfl) (F.sz _ rfl) rfl rfl rfl (by omega) (by omega) (by omega)|exact aw rfl rfl (.inr (.inl ⟨rfl,(Hu _ ⟨by omega,by omega⟩).symm⟩))),?_⟩));exact JR),?_⟩|refine⟨.inl (by kernel_rfl),?_⟩)))
       repeat first|refine out _ _ _ d' [] ⟨hd',by rw [← hsd];exact fc (.inr (by simpa [bj] using h5))⟩ ?_;(exact JP rfl rfl rfl ⟨aB rfl,trivial⟩)|apply cw;rfl
     ·repeat first|refine out _ _ _ d' [] ⟨hd',by rw [← hsd];exact fc (.inl (by omega))⟩ ?_;(exact JP rfl rfl rfl ⟨aB rfl,trivial⟩)|apply cw;rfl
    rintro d3 ⟨hd3,e3⟩
    repeat first|apply aj;rfl|apply aK;rfl;omega;omega
    refine ih _ _ _ ((s,i1),d3) [] ⟨by simp only;omega,hai1,hi1,hd3,by rw [← ho];exact(hps d3 (by rw [Je (by omega)];exact e3)).symm⟩ (by simp only;omega) ?_
    (refine⟨(JF rfl),rfl,(by repeat(first|exact JR|refine⟨rfl,?_⟩|refine⟨fH (by(simp only;omega)),?_⟩)),⟨aB rfl,trivial⟩⟩)
   ·repeat first|apply aj;rfl|apply aK;rfl;omega;omega
    refine ih _ _ _ ((s,i1),d2') [] ⟨by simp only;omega,hai1,hi1,hd2,by rw [← ho];exact(hps d2' (by rw [Jd (by omega)])).symm⟩ (by simp only;omega) ?_
    (refine⟨(JF rfl),rfl,(by repeat(first|exact JR|refine⟨rfl,?_⟩|refine⟨fH (by(simp only;omega)),?_⟩)),⟨aB rfl,trivial⟩⟩)
  ·rw [Jd (by omega)] at e2
   subst e2
   have hd2:=hd1
   repeat first|apply aj;rfl|apply aK;rfl;omega;omega
   refine er rfl rfl rfl rfl ?_ ?_
   all_goals intro h6
   ·repeat first|apply aj;rfl|apply aK;rfl;omega;omega
    refine f9 1 (fun s1:Nat×Array (Int)=> [(0,.slu 0 0 n),(1,.sc (.int .i64 (a:Int))),(2,.sc (.int .i64 (b:Int))),(7,.sc (.int .i64 (i1:Int))),(8,.sc (.int .i64 ((5-(s+1):Nat):Int))),(10,.sc (.int .i64 (s1.1:Int)))]) (fun s1=> [some (b8 n s1.2)]) (fun s1=>i1+1≤s1.1∧s1.1≤b∧s1.2.size=n∧Sort.shiftUp bj b s1.1 s1.2=Sort.shiftUp bj b (i1+1) d1) (fun s1=>b-s1.1) (i1+1,d1) []
     1 (fun d':Array (Int)=> [(0,.slu 0 0 n),(1,.sc (.int .i64 (a:Int))),(2,.sc (.int .i64 (b:Int))),(7,.sc (.int .i64 (i1:Int))),(8,.sc (.int .i64 ((5-(s+1):Nat):Int)))]) (fun d'=> [some (b8 n d')]) (fun d'=>d'.size=n∧Sort.shiftUp bj b (i1+1) d1=d')
     (fun _=>rfl) (fun _=>rfl) ⟨HS _,by simp only;omega,hd2,rfl⟩ ?_ (fun _=>rfl) (fun _=>rfl) ?_ ?_
    ·(exact JP rfl rfl rfl ⟨aB rfl,trivial⟩)
    ·rintro⟨j,d'⟩ ⟨hj,hjb,hd',hsd⟩ ihd out
     simp only at hj hjb hd' hsd ihd ⊢
     repeat apply aj;rfl
     refine bi rfl rfl rfl rfl ?_ ?_
     all_goals intro h4
     ·repeat apply aj;rfl
      refine cj (by kernel_rfl) (by kernel_rfl) ?_
      have hls_h5:=fK (d'[j]!) (d'[j-1]!)
      cases h5:bj (d'[j]!) (d'[j-1]!)
      all_goals rw [h5] at hls_h5
      rotate_left
      all_goals(repeat(first|apply aU;rfl|refine bk (aw rfl rfl (.inr (.inl ⟨rfl,(Hu _ ⟨(by omega),(by omega)⟩).symm⟩))) rfl rfl rfl ?_|refine cq (g:=fun x:Int=> .int .i64 x) rfl rfl rfl (F.ag _ rfl) rfl (by(omega)) (by(omega)) ?_|refine aH (q:=j) rfl rfl rfl rfl (F.un _ rfl) (F.sz _ rfl) rfl (by omega) (by omega) (by omega) ?_|refine aH (q:=j-1) rfl rfl rfl rfl (F.un _ rfl) (F.sz _ rfl) rfl (by omega) (by omega) (by omega) ?_|refine bW rfl rfl rfl (by kernel_rfl) (Ctr.callV (hls_h5) [] rfl (JF rfl) rfl trivial rfl) ?_))
      ·skip
       refine aA ⟨by kernel_rfl,?_,?_⟩;(focus(repeat(first|exact JR|apply fk;rfl|apply eI;rfl|refine⟨.inr (by(repeat(refine⟨(by first|exact aN (F.un _ rfl) (F.sz _ rfl) rfl rfl rfl (by omega) (by omega) (by omega)|exact aw rfl rfl (.inr (.inl ⟨rfl,(Hu _ ⟨by omega,by omega⟩).symm⟩))),?_⟩));exact JR),?_⟩|refine⟨.inl (by kernel_rfl),?_⟩)))
       repeat apply aj;rfl
       refine cj (by kernel_rfl) (by kernel_rfl) ?_
       repeat first|apply aU;rfl|refine bk (aw rfl rfl (.inr (.inl ⟨rfl,(Hu _ ⟨(by omega),(by omega)⟩).symm⟩))) rfl rfl rfl ?_|refine cq (g:=fun x:Int=> .int .i64 x) rfl rfl rfl (F.ag _ rfl) rfl (by(omega)) (by(omega)) ?_|refine fg (g:=fun x:Int=> .int .i64 x) rfl rfl rfl (fun _=>rfl) (F.sz _ rfl) rfl (by first|omega|(simp only [Hw,aO];omega)) (by first|omega|(simp only [Hw,aO];omega)) ?_|refine aH (q:=j) rfl rfl rfl rfl (F.un _ rfl) (F.sz _ rfl) rfl (by omega) (by omega) (by omega) ?_|refine aH (q:=j-1) rfl rfl rfl rfl (F.un _ rfl) (F.sz _ rfl) rfl (by omega) (by omega) (by omega) ?_
       refine aA ⟨by kernel_rfl,?_,?_⟩;(focus(repeat(first|exact JR|apply fk;rfl|apply eI;rfl|refine⟨.inr (by(repeat(refine⟨(by first|exact aN (F.un _ rfl) (F.sz _ rfl) rfl rfl rfl (by omega) (by omega) (by omega)|exact aw rfl rfl (.inr (.inl ⟨rfl,(Hu _ ⟨by omega,by omega⟩).symm⟩))),?_⟩));exact JR),?_⟩|refine⟨.inl (by kernel_rfl),?_⟩)))
       repeat first|apply aj;rfl|apply aK;rfl;omega;omega
       refine ihd _ _ _ (j+1,Sort.swp d' j (j-1)) [] ⟨by simp only;omega,by simp only;omega,by rw [aO];exact hd',?_⟩ (by simp only;omega) ?_
       ·rw [← hsd]
        exact(lT (by omega) (by simpa [bj] using h5)).symm
       ·(exact JP rfl rfl rfl ⟨aB rfl,trivial⟩)
      ·skip
       refine aA ⟨by kernel_rfl,?_,?_⟩;(focus(repeat(first|exact JR|apply fk;rfl|apply eI;rfl|refine⟨.inr (by(repeat(refine⟨(by first|exact aN (F.un _ rfl) (F.sz _ rfl) rfl rfl rfl (by omega) (by omega) (by omega)|exact aw rfl rfl (.inr (.inl ⟨rfl,(Hu _ ⟨by omega,by omega⟩).symm⟩))),?_⟩));exact JR),?_⟩|refine⟨.inl (by kernel_rfl),?_⟩)))
       repeat first|refine out _ _ _ d' [] ⟨hd',by rw [← hsd];exact fc (.inr (by simpa [bj] using h5))⟩ ?_;(exact JP rfl rfl rfl ⟨aB rfl,trivial⟩)|apply cw;rfl
     ·repeat first|refine out _ _ _ d' [] ⟨hd',by rw [← hsd];exact fc (.inl (by omega))⟩ ?_;(exact JP rfl rfl rfl ⟨aB rfl,trivial⟩)|apply cw;rfl
    rintro d3 ⟨hd3,e3⟩
    repeat first|apply aj;rfl|apply aK;rfl;omega;omega
    refine ih _ _ _ ((s,i1),d3) [] ⟨by simp only;omega,hai1,hi1,hd3,by rw [← ho];exact(hps d3 (by rw [Je (by omega)];exact e3)).symm⟩ (by simp only;omega) ?_
    (refine⟨(JF rfl),rfl,(by repeat(first|exact JR|refine⟨rfl,?_⟩|refine⟨fH (by(simp only;omega)),?_⟩)),⟨aB rfl,trivial⟩⟩)
   ·repeat first|apply aj;rfl|apply aK;rfl;omega;omega
    refine ih _ _ _ ((s,i1),d1) [] ⟨by simp only;omega,hai1,hi1,hd2,by rw [← ho];exact(hps d1 (by rw [Jd (by omega)])).symm⟩ (by simp only;omega) ?_
    (refine⟨(JF rfl),rfl,(by repeat(first|exact JR|refine⟨rfl,?_⟩|refine⟨fH (by(omega)),?_⟩)),⟨aB rfl,trivial⟩⟩)
 ·obtain rfl:s=0:=by omega
  repeat apply aj;rfl
  rw [← ho]
  ((apply bn Tryz.func112 (congrArg Array.toList Tryz.results112));(focus(repeat(first|exact JI|apply JK rfl)));refine⟨_,rfl,Ends.mk [] (JF rfl) rfl rfl ?_⟩)
  exact⟨aB rfl,trivial⟩
def sn(a len m:Nat):Nat→UInt64×Array (Int)→Nat→UInt64×Array (Int)
 | 0,st,_=>st
 | k+1,st,i=>sn a len m k (Sort.breakStep a len m st i) (i+1)
theorem t5(n a b:Nat)(d:Array (Int))(hn:n<65536)(hd:d.size=n)(hab:a≤b)(hb:b≤n) :
 Ctr Tryz.prog 109 [.slu 0 0 n,.sc (.int .i64 (a:Int)),.sc (.int .i64 (b:Int))] [b8 n d] (fun c=>c=⟨.tup [],[some (b8 n (Sort.breakPatterns d a b))]⟩):=by
 have eba:(b:Int)-(a:Int)=((b-a:Nat):Int):=by omega
 refine JH Tryz.func109 rfl rfl ?_
 repeat first|apply aj;rfl|apply aK;rfl;omega;omega
 rw [eba]
 have ebp:Sort.breakPatterns d a b=Sort.breakPatterns d a b:=rfl
 conv at ebp=>rhs;unfold Sort.breakPatterns
 simp only at ebp
 refine er rfl rfl rfl rfl ?_ ?_
 all_goals intro h1
 ·rw [Je (by omega)] at ebp
  have ep:Sort.bitsLen (b-a)≤16:=pS (by omega)
  have eq1:(1:Nat) <<< Sort.bitsLen (b-a)=2 ^ Sort.bitsLen (b-a):=by rw [Nat.shiftLeft_eq,Nat.one_mul]
  have eq2:2 ^ Sort.bitsLen (b-a)≤2*(b-a):=Sort.two_pow_bitsLen_le (by omega)
  have eq3:0<2 ^ Sort.bitsLen (b-a):=Nat.pow_pos (by decide)
  repeat first|apply aj;rfl|apply aG;rfl;(focus((repeat(exact ac));done));rfl|apply aK;rfl;omega;omega|refine cc (pB rfl rfl (by omega) (jk (by omega) (by omega) (by omega))) rfl rfl rfl ?_|refine cc (bR (F.un _ rfl) (F.un _ rfl) rfl (show _=((b-a:Nat):Int)from JC _ ⟨by omega,by omega⟩)) rfl rfl rfl ?_|refine nU (yG (b-a) (by omega)) [] rfl rfl rfl (by kernel_rfl) rfl (JF rfl) rfl trivial ?_
  rw [eq1] at ebp
  generalize hm:2 ^ Sort.bitsLen (b-a)=m at ebp eq2 eq3
  have e4:(a:Int)+((b-a:Nat):Int) / 4*2-1=((a+(b-a) / 4*2-1:Nat):Int):=by omega
  rw [e4]
  have hbase:a+(b-a) / 4*2-1+3≤b:=by omega
  have hlt:0<a+(b-a) / 4*2:=by omega
  generalize hbs:a+(b-a) / 4*2-1=base at ebp hbase
  have ht:Sort.breakPatterns d a b=(sn a (b-a) m 3 (UInt64.ofNat (b-a),d) base).2:=ebp
  refine ga 2 (fun s:(Nat×UInt64)×Array (Int)=> [(0,.slu 0 0 n),(1,.sc (.int .i64 (a:Int))),(6,.sc (.int .i64 ((b-a:Nat):Int))),(7,.ptr 1 0),(8,.sc (.int .u64 (m:Int))),(9,.sc (.int .i64 ((base+3-s.1.1:Nat):Int)))]) (fun s=> [some (b8 n s.2),some (xsO s.1.2.toNat)]) (fun s=>s.1.1≤3∧s.2.size=n∧(sn a (b-a) m s.1.1 (s.1.2,s.2) (base+3-s.1.1)).2=Sort.breakPatterns d a b) (fun s=>s.1.1) ((3,UInt64.ofNat (b-a)),d) [1]
   (fun _=>rfl) ⟨HS _,hd,by rw [ht];rfl⟩ ?_ (fun _=>rfl) (fun _=>rfl) ?_
  ·have e0:(UInt64.ofNat (b-a)).toNat=b-a:=by rw [UInt64.toNat_ofNat',Nat.mod_eq_of_lt (by omega)]
   rw [e0]
   (refine⟨(JF rfl),rfl,(by repeat(first|exact JR|refine⟨rfl,?_⟩)),(by repeat(first|exact JR|refine⟨aB rfl,?_⟩|refine⟨fq rfl,?_⟩))⟩)
  rintro⟨⟨s,r⟩,d1⟩ ⟨hs,hd1,ho⟩ ih
  simp only at hs hd1 ho ih ⊢
  repeat first|apply aj;rfl|apply aK;rfl;omega;omega|refine cc (pB rfl rfl (by omega) (jk (by omega) (by omega) (by omega))) rfl rfl rfl ?_
  refine px rfl rfl rfl rfl ?_ ?_
  all_goals intro h2
  ·obtain⟨s,rfl⟩: ∃ s',s=s'+1:=⟨s-1,by omega⟩
   have hr:=UInt64.toNat_lt r
   have hnx:=Sort.xorNextN_lt r.toNat hr
   have hxn:=Sort.xorNext_toNat r
   have hst:Sort.breakStep a (b-a) m (r,d1) (base+3-(s+1))=(Sort.xorNext r,Sort.swp d1 (base+3-(s+1)) (a+(if(Sort.xorNext r).toNat &&& (m-1)≥b-a then((Sort.xorNext r).toNat &&& (m-1))-(b-a) else(Sort.xorNext r).toNat &&& (m-1)))):=rfl
   have ho':(sn a (b-a) m s (Sort.breakStep a (b-a) m (r,d1) (base+3-(s+1))) (base+3-s)).2=Sort.breakPatterns d a b:=by
    rw [← ho,sn,show base+3-(s+1)+1=base+3-s by omega]
   rw [hst] at ho'
   rw [hxn] at ho'
   have hmw:IntKind.u64.wrap ((m:Int)-1)=((m-1:Nat):Int):=by
    rw [JC _ ⟨by omega,by omega⟩]
    omega
   have hand:=andU (a:=Sort.xorNextN r.toNat) (b:=m-1) hnx (by omega)
   have hle:Sort.xorNextN r.toNat &&& (m-1)≤m-1:=Nat.and_le_right
   generalize hoo:Sort.xorNextN r.toNat &&& (m-1)=o at hand hle ho'
   repeat first|apply aj;rfl|refine ci rfl rfl rfl (by kernel_rfl) (Ctr.dL (y8 r.toNat hr) [1] rfl (JF rfl) rfl (by repeat(first|exact JR|refine⟨fq rfl,?_⟩)) rfl (by repeat(first|exact JR|refine⟨dE (fun _=>rfl),?_⟩)) (fun _=>rfl) rfl rfl) ?_
   refine cc (aw rfl rfl (.inr (.inl ⟨rfl,rfl⟩))) rfl rfl rfl ?_
   rw [hmw]
   refine cc (mB rfl rfl (.inl rfl) hand) rfl rfl rfl ?_
   repeat first|apply aj;rfl|refine cc (bR (F.un _ rfl) (F.un _ rfl) rfl (show _=(o:Int)from Hu _ ⟨by omega,by omega⟩)) rfl rfl rfl ?_
   refine er rfl rfl rfl rfl ?_ ?_
   all_goals intro h3
   ·rw [Je (by omega)] at ho'
    repeat first|apply aj;rfl|apply aK;rfl;omega;omega
    refine cj (by kernel_rfl) (by kernel_rfl) ?_
    repeat first|apply aU;rfl|refine bk (aw rfl rfl (.inl ⟨rfl,(Hu _ ⟨(by omega),(by omega)⟩).symm⟩)) rfl rfl rfl ?_|refine cq (g:=fun x:Int=> .int .i64 x) rfl rfl rfl (F.ag _ rfl) rfl (by(omega)) (by(omega)) ?_|refine fg (g:=fun x:Int=> .int .i64 x) rfl rfl rfl (fun _=>rfl) (F.sz _ rfl) rfl (by first|omega|(simp only [Hw,aO];omega)) (by first|omega|(simp only [Hw,aO];omega)) ?_|refine aH (q:=base+3-(s+1)) rfl rfl rfl rfl (F.un _ rfl) (F.sz _ rfl) rfl (by omega) (by omega) (by omega) ?_|refine aH (q:=a+(o-(b-a))) rfl rfl rfl rfl (F.un _ rfl) (F.sz _ rfl) rfl (by omega) (by omega) (by omega) ?_
    refine aA ⟨by kernel_rfl,?_,?_⟩;(focus(repeat(first|exact JR|apply fk;rfl|apply eI;rfl|refine⟨.inr (by(repeat(refine⟨(by first|exact aN (F.un _ rfl) (F.sz _ rfl) rfl rfl rfl (by omega) (by omega) (by omega)|exact aw rfl rfl (.inl ⟨rfl,(Hu _ ⟨by omega,by omega⟩).symm⟩)),?_⟩));exact JR),?_⟩|refine⟨.inl (by kernel_rfl),?_⟩)))
    repeat first|apply aj;rfl|apply aK;rfl;omega;omega
    refine ih _ _ _ ((s,Sort.xorNext r),Sort.swp d1 (base+3-(s+1)) (a+(o-(b-a)))) [1] ⟨by simp only;omega,by rw [aO];exact hd1,ho'⟩ (by simp only;omega) ?_
    rw [hxn]
    (refine⟨(JF rfl),rfl,(by repeat(first|exact JR|refine⟨rfl,?_⟩|refine⟨fH (by(simp only;omega)),?_⟩)),(by repeat(first|exact JR|refine⟨aB rfl,?_⟩|refine⟨fq rfl,?_⟩))⟩)
   ·rw [Jd (by omega)] at ho'
    repeat apply aj;rfl
    refine cj (by kernel_rfl) (by kernel_rfl) ?_
    repeat first|apply aU;rfl|refine bk (aw rfl rfl (.inl ⟨rfl,(Hu _ ⟨(by omega),(by omega)⟩).symm⟩)) rfl rfl rfl ?_|refine cq (g:=fun x:Int=> .int .i64 x) rfl rfl rfl (F.ag _ rfl) rfl (by(omega)) (by(omega)) ?_|refine fg (g:=fun x:Int=> .int .i64 x) rfl rfl rfl (fun _=>rfl) (F.sz _ rfl) rfl (by first|omega|(simp only [Hw,aO];omega)) (by first|omega|(simp only [Hw,aO];omega)) ?_|refine aH (q:=base+3-(s+1)) rfl rfl rfl rfl (F.un _ rfl) (F.sz _ rfl) rfl (by omega) (by omega) (by omega) ?_|refine aH (q:=a+o) rfl rfl rfl rfl (F.un _ rfl) (F.sz _ rfl) rfl (by omega) (by omega) (by omega) ?_
    refine aA ⟨by kernel_rfl,?_,?_⟩;(focus(repeat(first|exact JR|apply fk;rfl|apply eI;rfl|refine⟨.inr (by(repeat(refine⟨(by first|exact aN (F.un _ rfl) (F.sz _ rfl) rfl rfl rfl (by omega) (by omega) (by omega)|exact aw rfl rfl (.inl ⟨rfl,(Hu _ ⟨by omega,by omega⟩).symm⟩)),?_⟩));exact JR),?_⟩|refine⟨.inl (by kernel_rfl),?_⟩)))
    repeat first|apply aj;rfl|apply aK;rfl;omega;omega
    refine ih _ _ _ ((s,Sort.xorNext r),Sort.swp d1 (base+3-(s+1)) (a+o)) [1] ⟨by simp only;omega,by rw [aO];exact hd1,ho'⟩ (by simp only;omega) ?_
    rw [hxn]
    (refine⟨(JF rfl),rfl,(by repeat(first|exact JR|refine⟨rfl,?_⟩|refine⟨fH (by(simp only;omega)),?_⟩)),(by repeat(first|exact JR|refine⟨aB rfl,?_⟩|refine⟨fq rfl,?_⟩))⟩)
  ·obtain rfl:s=0:=by omega
   repeat apply aj;rfl
   ((apply p7 Tryz.func109 (congrArg Array.toList Tryz.results109));(focus(repeat(exact JI)));refine⟨_,rfl,Ends.mk [] (JF rfl) rfl rfl ?_⟩)
   rw [← ho]
   exact⟨aB rfl,trivial⟩
 ·rw [Jd (by omega)] at ebp
  repeat apply aj;rfl
  ((apply p7 Tryz.func109 (congrArg Array.toList Tryz.results109));(focus(repeat(exact JI)));refine⟨_,rfl,Ends.mk [] (JF rfl) rfl rfl ?_⟩)
  rw [ebp]
  exact⟨aB rfl,trivial⟩
abbrev vg:=Array (Int)
theorem wT:Sort.SWO bj where
 irrefl:=fun a=>by simp [bj]
 trans:=fun a b c h h'=>by
  simp only [bj,JE] at h h' ⊢
  omega
 ntrans:=fun a b c h h'=>by
  simp only [bj,decide_eq_false_iff_not] at h h' ⊢
  omega
theorem wV{d:vg}(h:b-a≤12):Sort.pdq lt d a b limit wb wp=Sort.insertionSort lt d a b:=by rw [Sort.pdq,Je h]
theorem tY{d:vg}(h: ¬ b-a≤12)(h0:limit=0):Sort.pdq lt d a b limit wb wp=Sort.heapSort lt d a b:=by rw [Sort.pdq,Jd h,Je h0]
def eV(lt:Int→Int→Bool)(d3:vg)(a b pivot limit:Nat)(wb wp:Bool):vg:=
 if a>0 && !lt d3[a-1]! d3[pivot]! then
  match Sort.partitionEqual lt d3 a b pivot with
  | (mid,d4)=>if _h:a<mid∧mid≤b then Sort.pdq lt d4 mid b limit wb wp else d4
 else
  match Sort.partition lt d3 a b pivot with
  | (mid,alreadyPartitioned,d4)=>
    if _h:a≤mid∧mid<b then
     if mid-a<b-mid then
      Sort.pdq lt (Sort.pdq lt d4 a mid limit true true) (mid+1) b limit (decide (mid-a≥(b-a) / 8)) alreadyPartitioned
     else
      Sort.pdq lt (Sort.pdq lt d4 (mid+1) b limit true true) a mid limit (decide (b-mid≥(b-a) / 8)) alreadyPartitioned
    else d4
theorem yZ{d d1 d2:vg}{limit1:Nat}{c:Nat×Sort.Hint}{hint:Sort.Hint}{pi:vg×Bool}(h: ¬ b-a≤12)(h0: ¬ limit=0)
 (e1:d1=(if(!wb)=true then Sort.breakPatterns d a b else d)) (el:limit1=(if(!wb)=true then limit-1 else limit)) (ec:Sort.choosePivot lt d1 a b=c)
 (e2:d2=(if c.2 = .decreasing then Sort.reverseRange d1 a b else d1)) (ep:pivot=(if c.2 = .decreasing then(b-1)-(c.1-a) else c.1)) (eh:hint=(if c.2 = .decreasing then .increasing else c.2))
 (ei:(if(wb && wp && decide (hint = .increasing))=true then Sort.partialInsertionSort lt d2 a b else(d2,false))=pi) :
 Sort.pdq lt d a b limit wb wp=if pi.2=true then pi.1 else eV lt pi.1 a b pivot limit1 wb wp:=by
 subst e1 el ec e2 ep eh ei
 rw [Sort.pdq,Jd h,Jd h0]
 rfl
theorem wU{d3 d4:vg}(h:(decide (a>0) && !lt d3[a-1]! d3[pivot]!)=true)(hx:Sort.partitionEqual lt d3 a b pivot=(mid,d4))(hm:a<mid∧mid≤b) :
 eV lt d3 a b pivot limit wb wp=Sort.pdq lt d4 mid b limit wb wp:=by
 unfold eV
 rw [Je h,hx]
 simp only [dif_pos hm]
theorem r9{d3 d4:vg}{ap:Bool}(h: ¬ (decide (a>0) && !lt d3[a-1]! d3[pivot]!)=true)(hx:Sort.partition lt d3 a b pivot=(mid,ap,d4))(hm:a≤mid∧mid<b)(hl:mid-a<b-mid) :
 eV lt d3 a b pivot limit wb wp=Sort.pdq lt (Sort.pdq lt d4 a mid limit true true) (mid+1) b limit (decide (mid-a≥(b-a) / 8)) ap:=by
 unfold eV
 rw [Jd h,hx]
 simp only [dif_pos hm,Je hl]
theorem qt{d3 d4:vg}{ap:Bool}(h: ¬ (decide (a>0) && !lt d3[a-1]! d3[pivot]!)=true)(hx:Sort.partition lt d3 a b pivot=(mid,ap,d4))(hm:a≤mid∧mid<b)(hl: ¬ mid-a<b-mid) :
 eV lt d3 a b pivot limit wb wp=Sort.pdq lt (Sort.pdq lt d4 (mid+1) b limit true true) a mid limit (decide (b-mid≥(b-a) / 8)) ap:=by
 unfold eV
 rw [Jd h,hx]
 simp only [dif_pos hm,Jd hl]
theorem tX(n:Nat)(hn:n<65536): ∀ (k a b limit:Nat) (d:vg),b-a=k→a≤b→b≤n→d.size=n→limit<4611686018427387904→Sort.Below bj a b d →
 Ctr Tryz.prog 97 [.slu 0 0 n,.sc (.int .i64 (a:Int)),.sc (.int .i64 (b:Int)),.sc (.int .i64 (limit:Int))] [b8 n d] (fun c=>c=⟨.tup [],[some (b8 n (Sort.pdq bj d a b limit true true))]⟩):=by
 intro k
 induction k using Nat.strongRecOn with
 | _ k ihk=>
 intro a b limit d hk hab hb hd hl hB
 refine JH Tryz.func97 rfl rfl ?_
 repeat apply aj;rfl
 refine ga 1 (fun s:((Nat×Nat)×Nat)×((Bool×Bool)×vg)=> [(0,.slu 0 0 n),(1,.sc (.int .i64 (s.1.1.1:Int))),(2,.sc (.int .i64 (s.1.1.2:Int))),(3,.sc (.int .i64 (s.1.2:Int))),(8,.sc (.bool s.2.1.1)),(9,.sc (.bool s.2.1.2))]) (fun s=> [some (b8 n s.2.2)])
  (fun s=>s.1.1.1≤s.1.1.2∧s.1.1.2≤n∧s.1.1.2-s.1.1.1≤k∧s.2.2.size=n∧s.1.2<4611686018427387904∧Sort.Below bj s.1.1.1 s.1.1.2 s.2.2∧Sort.pdq bj s.2.2 s.1.1.1 s.1.1.2 s.1.2 s.2.1.1 s.2.1.2=Sort.pdq bj d a b limit true true) (fun s=>s.1.1.2-s.1.1.1) (((a,b),limit),((true,true),d)) []
  (fun _=>rfl) ⟨hab,hb,Nat.le_of_eq hk,hd,hl,hB,rfl⟩ ?_ (fun _=>rfl) (fun _=>rfl) ?_
 ·(exact JP rfl rfl rfl ⟨aB rfl,trivial⟩)
 rintro⟨⟨⟨a1,b1⟩,l1⟩,⟨⟨wb,wp⟩,d1⟩⟩ ⟨hab1,hb1,hk1,hd1,hl1,hB1,ho⟩ ih
 simp only at hab1 hb1 hk1 hd1 hl1 hB1 ho ih ⊢
 have eba:(b1:Int)-(a1:Int)=((b1-a1:Nat):Int):=by omega
 repeat first|apply aj;rfl|apply aK;rfl;omega;omega
 rw [eba]
 refine px rfl rfl rfl rfl ?_ ?_
 all_goals intro h1
 ·rw [wV (by omega)] at ho
  repeat first|apply aj;rfl|refine ci rfl rfl rfl (by kernel_rfl) (Ctr.dL (oIins n a1 b1 d1 (by omega) hd1 hab1 hb1) [0] rfl (JF rfl) rfl ⟨aB rfl,trivial⟩ rfl (by repeat(first|exact JR|refine⟨bJ,?_⟩)) (fun _=>rfl) rfl rfl) ?_
  ((apply bn Tryz.func97 (congrArg Array.toList Tryz.results97));(focus(repeat(exact JI)));refine⟨_,rfl,Ends.mk [] (JF rfl) rfl rfl ?_⟩)
  rw [← ho]
  exact⟨aB rfl,trivial⟩
 repeat apply aj;rfl
 refine cF rfl rfl rfl rfl ?_ ?_
 all_goals intro h2
 ·rw [tY (by omega) (by omega)] at ho
  repeat first|apply aj;rfl|refine ci rfl rfl rfl (by kernel_rfl) (Ctr.dL (sk n a1 b1 d1 (by omega) hd1 hab1 hb1) [0] rfl (JF rfl) rfl ⟨aB rfl,trivial⟩ rfl (by repeat(first|exact JR|refine⟨bJ,?_⟩)) (fun _=>rfl) rfl rfl) ?_
  ((apply bn Tryz.func97 (congrArg Array.toList Tryz.results97));(focus(repeat(exact JI)));refine⟨_,rfl,Ends.mk [] (JF rfl) rfl rfl ?_⟩)
  rw [← ho]
  exact⟨aB rfl,trivial⟩
 repeat apply cw;rfl
 refine CT 1 (fun s:Nat×vg=> [(0,.slu 0 0 n),(1,.sc (.int .i64 (a1:Int))),(2,.sc (.int .i64 (b1:Int))),(3,.sc (.int .i64 (s.1:Int))),(8,.sc (.bool wb)),(9,.sc (.bool wp)),(10,.sc (.int .i64 ((b1-a1:Nat):Int)))]) (fun s=> [some (b8 n s.2)])
  (fun s=>s.1=(if(!wb)=true then l1-1 else l1)∧s.2=(if(!wb)=true then Sort.breakPatterns d1 a1 b1 else d1)) (fun _=>rfl) rfl (fun _=>rfl) (fun _=>rfl) ?_ ?_ ?_
 ·intro hw out
  repeat first|refine out _ _ _ (l1-1,Sort.breakPatterns d1 a1 b1) [] ⟨by rw [Je hw],by rw [Je hw]⟩ ?_;(refine⟨(JF rfl),rfl,(by repeat(first|exact JR|refine⟨rfl,?_⟩|refine⟨fH (by(omega)),?_⟩)),⟨aB rfl,trivial⟩⟩)|apply cw;rfl|apply aK;rfl;omega;omega|refine ci rfl rfl rfl (by kernel_rfl) (Ctr.dL (t5 n a1 b1 d1 hn hd1 hab1 hb1) [0] rfl (JF rfl) rfl ⟨aB rfl,trivial⟩ rfl (by repeat(first|exact JR|refine⟨bJ,?_⟩)) (fun _=>rfl) rfl rfl) ?_
 ·intro hw out
  repeat first|refine out _ _ _ (l1,d1) [] ⟨by rw [hw];rfl,by rw [hw];rfl⟩ ?_;(exact JP rfl rfl rfl ⟨aB rfl,trivial⟩)|apply cw;rfl
 rintro⟨l2,d2⟩ ⟨el,ed⟩
 simp only at el ed ⊢
 have hl2:l2<4611686018427387904:=by rw [el];split <;> omega
 have hpd:Sort.PermIn a1 b1 d1 d2:=by
  rw [ed]
  split
  ·exact Sort.breakPatterns_holds d1 a1 b1 hab1 (by omega)
  ·exact Sort.permIn_refl d1 a1 b1
 have hd2:d2.size=n:=by rw [hpd.1];exact hd1
 have hB2:Sort.Below bj a1 b1 d2:=hB1.perm (by omega) hpd
 have hpv:=tW n a1 b1 d2 (by omega) hd2 (by omega) hb1
 have hpr:=Sort.choosePivot_holds bj d2 a1 b1 (by omega)
 have hgo:=fun d3 pivot hint pi=>yZ (lt:=bj) (d:=d1) (d1:=d2) (d2:=d3) (a:=a1) (b:=b1) (limit:=l1) (limit1:=l2) (pivot:=pivot) (wb:=wb) (wp:=wp) (c:=Sort.choosePivot bj d2 a1 b1) (hint:=hint) (pi:=pi) (by omega) (by omega) ed el rfl
 generalize Sort.choosePivot bj d2 a1 b1=c at hpv hpr hgo
 obtain⟨p,hint⟩:=c
 simp only at hpv hpr hgo
 repeat first|apply aj;rfl|refine ci rfl rfl rfl (by kernel_rfl) (Ctr.dL (hpv) [0] rfl (JF rfl) rfl ⟨aB rfl,trivial⟩ rfl (by repeat(first|exact JR|refine⟨bJ,?_⟩)) (fun _=>rfl) rfl rfl) ?_
 refine cc (di rfl rfl (.inl ⟨rfl,rfl⟩)) rfl rfl rfl ?_
 rw [zw]
 repeat apply cw;rfl
 refine CT 1 (fun s:(Nat×Sort.Hint)×vg=> [(0,.slu 0 0 n),(1,.sc (.int .i64 (a1:Int))),(2,.sc (.int .i64 (b1:Int))),(3,.sc (.int .i64 (l2:Int))),(8,.sc (.bool wb)),(9,.sc (.bool wp)),(10,.sc (.int .i64 ((b1-a1:Nat):Int))),(11,.sc (.int .i64 (s.1.1:Int))),(12,.sc (.int .i64 (DO s.1.2)))]) (fun s=> [some (b8 n s.2)])
  (fun s=>s.2=(if hint = .decreasing then Sort.reverseRange d2 a1 b1 else d2)∧s.1.1=(if hint = .decreasing then(b1-1)-(p-a1) else p)∧s.1.2=(if hint = .decreasing then .increasing else hint)) (fun _=>rfl) rfl (fun _=>rfl) (fun _=>rfl) ?_ ?_ ?_
 ·intro hw out
  have hw:=Jp hw
  repeat first|refine out _ _ _ (((b1-1)-(p-a1),.increasing),Sort.reverseRange d2 a1 b1) [] ⟨by rw [Je hw],by rw [Je hw],by rw [Je hw]⟩ ?_;(refine⟨(JF rfl),rfl,(by repeat(first|exact JR|refine⟨rfl,?_⟩|refine⟨fH (by(simp only;omega)),?_⟩)),⟨aB rfl,trivial⟩⟩)|apply cw;rfl|apply aK;rfl;omega;omega|refine ci rfl rfl rfl (by kernel_rfl) (Ctr.dL (tV n a1 b1 d2 (by omega) hd2 (by omega) hb1) [0] rfl (JF rfl) rfl ⟨aB rfl,trivial⟩ rfl (by repeat(first|exact JR|refine⟨bJ,?_⟩)) (fun _=>rfl) rfl rfl) ?_
 ·intro hw out
  have hw:=of_decide_eq_false hw
  repeat first|refine out _ _ _ ((p,hint),d2) [] ⟨by rw [Jd hw],by rw [Jd hw],by rw [Jd hw]⟩ ?_;(exact JP rfl rfl rfl ⟨aB rfl,trivial⟩)|apply cw;rfl
 rintro⟨⟨pv,hint2⟩,d3⟩ ⟨ed3,epv,ehi⟩
 simp only at ed3 epv ehi ⊢
 have hpd3:Sort.PermIn a1 b1 d2 d3:=by
  rw [ed3]
  split
  ·exact Sort.reverseRange_holds d2 a1 b1 hab1 (by omega)
  ·exact Sort.permIn_refl d2 a1 b1
 have hd3:d3.size=n:=by rw [hpd3.1];exact hd2
 have hB3:Sort.Below bj a1 b1 d3:=hB2.perm (by omega) hpd3
 have hpv1:a1≤pv∧pv<b1:=by rw [epv];split <;> omega
 have hgo:=fun pi=>hgo d3 pv hint2 pi ed3 epv ehi
 (repeat refine CQ ?_)
 refine xA 1 (fun _:Unit=> [(0,.slu 0 0 n),(1,.sc (.int .i64 (a1:Int))),(2,.sc (.int .i64 (b1:Int))),(3,.sc (.int .i64 (l2:Int))),(8,.sc (.bool wb)),(9,.sc (.bool wp)),(10,.sc (.int .i64 ((b1-a1:Nat):Int))),(11,.sc (.int .i64 (pv:Int))),(68,.sc (.bool (wb && wp && decide (hint2 = .increasing))))]) (fun _=> [some (b8 n d3)])
  (fun _=>True) (fun _=>rfl) (fun _=>rfl) (fun _=>rfl) ?_ ?_
 ·intro out
  clear ih ihk ho hgo ehi ed el hpr hpv
  cases wb <;> cases wp <;> cases hint2 <;> (repeat(first|refine out _ _ _ () [] trivial ?_;(exact JP rfl rfl rfl ⟨aB rfl,trivial⟩)|apply cw;rfl|refine cc (di rfl rfl (.inl ⟨rfl,rfl⟩)) rfl rfl rfl ?_))
 rintro _ -
 (repeat refine CQ ?_)
 refine CT 1 (fun d':vg=> [(0,.slu 0 0 n),(1,.sc (.int .i64 (a1:Int))),(2,.sc (.int .i64 (b1:Int))),(3,.sc (.int .i64 (l2:Int))),(8,.sc (.bool wb)),(9,.sc (.bool wp)),(10,.sc (.int .i64 ((b1-a1:Nat):Int))),(11,.sc (.int .i64 (pv:Int)))]) (fun d'=> [some (b8 n d')])
  (fun d'=>d'.size=n∧Sort.Below bj a1 b1 d'∧Sort.pdq bj d1 a1 b1 l1 wb wp=eV bj d' a1 b1 pv l2 wb wp) (fun _=>rfl) rfl (fun _=>rfl) (fun _=>rfl) ?_ ?_ ?_
 ·intro hw out
  have hps:=sg n a1 b1 d3 (by omega) hd3 (by omega) hb1
  have hpp:=(Sort.partialInsertionSort_holds wT d3 a1 b1 (by omega) (by omega) hB3).1
  have hgo:=hgo _ (by rw [Je hw])
  generalize Sort.partialInsertionSort bj d3 a1 b1=pi at hps hpp hgo
  obtain⟨d4,done⟩:=pi
  simp only at hps hpp hgo
  cases done
  ·rw [Jd (by decide)] at hgo
   repeat first|refine out _ _ _ d4 [] ⟨by rw [hpp.1];exact hd3,hB3.perm (by omega) hpp,hgo⟩ ?_;(exact JP rfl rfl rfl ⟨aB rfl,trivial⟩)|apply cw;rfl|refine ci rfl rfl rfl (by kernel_rfl) (Ctr.dL (hps) [0] rfl (JF rfl) rfl ⟨aB rfl,trivial⟩ rfl (by repeat(first|exact JR|refine⟨bJ,?_⟩)) (fun _=>rfl) rfl rfl) ?_
  ·rw [Je rfl] at hgo
   repeat first|apply aj;rfl|refine ci rfl rfl rfl (by kernel_rfl) (Ctr.dL (hps) [0] rfl (JF rfl) rfl ⟨aB rfl,trivial⟩ rfl (by repeat(first|exact JR|refine⟨bJ,?_⟩)) (fun _=>rfl) rfl rfl) ?_
   ((apply bn Tryz.func97 (congrArg Array.toList Tryz.results97));(focus(repeat(exact JI)));refine⟨_,rfl,Ends.mk [] (JF rfl) rfl rfl ?_⟩)
   rw [← ho,hgo]
   exact⟨aB rfl,trivial⟩
 ·intro hw out
  have hgo:=hgo (d3,false) (by rw [hw];rfl)
  repeat first|refine out _ _ _ d3 [] ⟨hd3,hB3,by rw [hgo];rfl⟩ ?_;(exact JP rfl rfl rfl ⟨aB rfl,trivial⟩)|apply cw;rfl
 rintro d4 ⟨hd4,hB4,hT⟩
 rw [hT] at ho
 clear hgo hT hB3 hd3 hpd3 hB2 hd2 hpd ed ed3 ehi epv el hpv
 have arm: ∀ t:Bool,(decide (a1>0) && !bj d4[a1-1]! d4[pv]!)=t→(decide (a1>0) && !bj d4[a1-1]! d4[pv]!)=t:=fun _ h=>h
 repeat apply aj;rfl
 refine xA 1 (fun _:Unit=> [(0,.slu 0 0 n),(1,.sc (.int .i64 (a1:Int))),(2,.sc (.int .i64 (b1:Int))),(3,.sc (.int .i64 (l2:Int))),(8,.sc (.bool wb)),(9,.sc (.bool wp)),(10,.sc (.int .i64 ((b1-a1:Nat):Int))),(11,.sc (.int .i64 (pv:Int))),(87,.sc (.bool (decide (a1>0) && !bj d4[a1-1]! d4[pv]!)))]) (fun _=> [some (b8 n d4)])
  (fun _=>True) (fun _=>rfl) (fun _=>rfl) (fun _=>rfl) ?_ ?_
 ·intro out
  refine cj (by kernel_rfl) (by kernel_rfl) ?_
  repeat apply aU;rfl
  refine fB rfl rfl rfl rfl ?_ ?_
  all_goals intro h5
  ·have hls_h6:=fK (d4[a1-1]!) (d4[pv]!)
   cases h6:bj (d4[a1-1]!) (d4[pv]!)
   all_goals rw [h6] at hls_h6
   rotate_left
   all_goals(repeat(first|apply aU;rfl|refine bk (aw rfl rfl (.inr (.inl ⟨rfl,(Hu _ ⟨(by omega),(by omega)⟩).symm⟩))) rfl rfl rfl ?_|refine cq (g:=fun x:Int=> .int .i64 x) rfl rfl rfl (F.ag _ rfl) rfl (by(omega)) (by(omega)) ?_|refine aH (q:=a1-1) rfl rfl rfl rfl (F.un _ rfl) (F.sz _ rfl) rfl (by omega) (by omega) (by omega) ?_|refine aH (q:=pv) rfl rfl rfl rfl (F.un _ rfl) (F.sz _ rfl) rfl (by omega) (by omega) (by omega) ?_|refine bW rfl rfl rfl (by kernel_rfl) (Ctr.callV (hls_h6) [] rfl (JF rfl) rfl trivial rfl) ?_))
   ·skip
    refine aA ⟨by kernel_rfl,?_,?_⟩;(focus(repeat(first|exact JR|apply fk;rfl|apply eI;rfl|refine⟨.inr (by(repeat(refine⟨(by first|exact aN (F.un _ rfl) (F.sz _ rfl) rfl rfl rfl (by omega) (by omega) (by omega)|exact aw rfl rfl (.inr (.inl ⟨rfl,(Hu _ ⟨by omega,by omega⟩).symm⟩))),?_⟩));exact JR),?_⟩|refine⟨.inl (by kernel_rfl),?_⟩)))
    have e5:(decide (a1>0) && !bj d4[a1-1]! d4[pv]!)=false:=by simp [h6]
    rw [e5] at out
    repeat refine out _ _ _ () [] trivial ?_;(exact JP rfl rfl rfl ⟨aB rfl,trivial⟩)
   ·skip
    refine aA ⟨by kernel_rfl,?_,?_⟩;(focus(repeat(first|exact JR|apply fk;rfl|apply eI;rfl|refine⟨.inr (by(repeat(refine⟨(by first|exact aN (F.un _ rfl) (F.sz _ rfl) rfl rfl rfl (by omega) (by omega) (by omega)|exact aw rfl rfl (.inr (.inl ⟨rfl,(Hu _ ⟨by omega,by omega⟩).symm⟩))),?_⟩));exact JR),?_⟩|refine⟨.inl (by kernel_rfl),?_⟩)))
    have e5:(decide (a1>0) && !bj d4[a1-1]! d4[pv]!)=true:=by
     have:0<a1:=by omega
     simp [this,h6]
    rw [e5] at out
    repeat refine out _ _ _ () [] trivial ?_;(exact JP rfl rfl rfl ⟨aB rfl,trivial⟩)
  ·repeat first|apply aU;rfl|refine cp rfl rfl ?_
   refine aA ⟨by kernel_rfl,?_,?_⟩;(focus(repeat(first|exact JR|apply Ag;rfl|apply eI;rfl|refine⟨.inl rfl,?_⟩)))
   have e5:(decide (a1>0) && !bj d4[a1-1]! d4[pv]!)=false:=by
    have: ¬ 0<a1:=by omega
    simp [this]
   rw [e5] at out
   repeat refine out _ _ _ () [] trivial ?_;(exact JP rfl rfl rfl ⟨aB rfl,trivial⟩)
 rintro _ -
 cases h7:(decide (a1>0) && !bj d4[a1-1]! d4[pv]!)
 ·have hps:=si n a1 b1 pv d4 (by omega) hd4 hpv1.1 hpv1.2 hb1
  obtain⟨mid,ap,d5,hx⟩: ∃ mid ap,∃ d5,Sort.partition bj d4 a1 b1 pv=(mid,ap,d5):=⟨_,_,_,rfl⟩
  obtain⟨g1,g2,g3,g4,g5,g6,g7⟩:=Sort.round_part wT (Sort.partition_holds bj) hpv1.1 hpv1.2 (by omega) hB4 hx
  rw [hx] at hps
  simp only at hps
  have hd5:d5.size=n:=by rw [g3];exact hd4
  repeat first|apply aj;rfl|apply aK;rfl;omega;omega|refine cc (pB rfl rfl (by omega) (jk (by omega) (by omega) (by omega))) rfl rfl rfl ?_|refine ci rfl rfl rfl (by kernel_rfl) (Ctr.dL (hps) [0] rfl (JF rfl) rfl ⟨aB rfl,trivial⟩ rfl (by repeat(first|exact JR|refine⟨bJ,?_⟩)) (fun _=>rfl) rfl rfl) ?_
  refine bi rfl rfl rfl rfl ?_ ?_
  all_goals intro h8
  ·rw [r9 (by rw [h7];decide) hx ⟨g1,g2⟩ (by omega)] at ho
   have hrec:=ihk (mid-a1) (by omega) a1 mid l2 d5 rfl g1 (by omega) hd5 hl2 g4
   have hL:=Sort.pdq_sorts bj wT d5 a1 mid l2 true true g1 (by omega) g4
   have hB6:=(g6 _ hL.1 hL.2).1
   have hd6:(Sort.pdq bj d5 a1 mid l2 true true).size=n:=by rw [hL.1.1];exact hd5
   generalize Sort.pdq bj d5 a1 mid l2 true true=d6 at hrec hB6 hd6 ho
   clear hL g6 g7 hps hpr
   repeat first|apply aj;rfl|apply aK;rfl;omega;omega|refine ci rfl rfl rfl (by kernel_rfl) (Ctr.dL (hrec) [0] rfl (JF rfl) rfl ⟨aB rfl,trivial⟩ rfl (by repeat(first|exact JR|refine⟨bJ,?_⟩)) (fun _=>rfl) rfl rfl) ?_|refine cc (di rfl rfl (.inr (.inr (.inr (.inr (.inr (⟨rfl,rfl⟩))))))) rfl rfl rfl ?_
   refine ih _ _ _ (((mid+1,b1),l2),((decide (mid-a1≥(b1-a1) / 8),ap),d6)) [] ⟨by simp only;omega,hb1,by simp only;omega,hd6,hl2,hB6,ho⟩ (by simp only;omega) ?_
   have eb:decide ((mid:Int)-(a1:Int)≥((b1-a1:Nat):Int) / 8)=decide (mid-a1≥(b1-a1) / 8):=by
    rw [Bool.eq_iff_iff,JE,JE]
    omega
   rw [← eb]
   (exact JP rfl rfl rfl ⟨aB rfl,trivial⟩)
  ·rw [qt (by rw [h7];decide) hx ⟨g1,g2⟩ (by omega)] at ho
   have hrec:=ihk (b1-(mid+1)) (by omega) (mid+1) b1 l2 d5 rfl (by omega) hb1 hd5 hl2 g5
   have hL:=Sort.pdq_sorts bj wT d5 (mid+1) b1 l2 true true (by omega) (by omega) g5
   have hB6:=(g7 _ hL.1 hL.2).1
   have hd6:(Sort.pdq bj d5 (mid+1) b1 l2 true true).size=n:=by rw [hL.1.1];exact hd5
   generalize Sort.pdq bj d5 (mid+1) b1 l2 true true=d6 at hrec hB6 hd6 ho
   clear hL g6 g7 hps hpr
   have emid:((mid:Int)+1)=((mid+1:Nat):Int):=by omega
   repeat first|apply aj;rfl|apply aK;rfl;omega;omega|refine cc (di rfl rfl (.inr (.inr (.inr (.inr (.inr (⟨rfl,rfl⟩))))))) rfl rfl rfl ?_
   rw [emid]
   repeat first|apply aj;rfl|refine ci rfl rfl rfl (by kernel_rfl) (Ctr.dL (hrec) [0] rfl (JF rfl) rfl ⟨aB rfl,trivial⟩ rfl (by repeat(first|exact JR|refine⟨bJ,?_⟩)) (fun _=>rfl) rfl rfl) ?_
   refine ih _ _ _ (((a1,mid),l2),((decide (b1-mid≥(b1-a1) / 8),ap),d6)) [] ⟨g1,by simp only;omega,by simp only;omega,hd6,hl2,hB6,ho⟩ (by simp only;omega) ?_
   have eb:decide ((b1:Int)-(mid:Int)≥((b1-a1:Nat):Int) / 8)=decide (b1-mid≥(b1-a1) / 8):=by
    rw [Bool.eq_iff_iff,JE,JE]
    omega
   rw [← eb]
   (exact JP rfl rfl rfl ⟨aB rfl,trivial⟩)
 ·have h7':=h7
  rw [HR,JE,Bool.not_eq_true'] at h7'
  have hps:=pn n a1 b1 pv d4 (by omega) hd4 hpv1.1 hpv1.2 hb1
  obtain⟨mid,d5,hx⟩: ∃ mid,∃ d5,Sort.partitionEqual bj d4 a1 b1 pv=(mid,d5):=⟨_,_,rfl⟩
  obtain⟨g1,g2,g3,g4,_⟩:=Sort.round_eq wT (Sort.partitionEqual_holds bj) h7'.1 hpv1.1 hpv1.2 (by omega) hB4 h7'.2 hx
  rw [hx] at hps
  simp only at hps
  rw [wU h7 hx ⟨g1,g2⟩] at ho
  repeat first|apply aj;rfl|refine ci rfl rfl rfl (by kernel_rfl) (Ctr.dL (hps) [0] rfl (JF rfl) rfl ⟨aB rfl,trivial⟩ rfl (by repeat(first|exact JR|refine⟨bJ,?_⟩)) (fun _=>rfl) rfl rfl) ?_
  refine ih _ _ _ (((mid,b1),l2),((wb,wp),d5)) [] ⟨g2,hb1,by simp only;omega,by rw [g3];exact hd4,hl2,g4,ho⟩ (by simp only;omega) ?_
  (exact JP rfl rfl rfl ⟨aB rfl,trivial⟩)
end
end Go.Proofs.YtnhmbonmlfeifaaGreat
end
section
namespace Go.Proofs.YtnhmbonmlfeifaaGreat
open Go Go.Sy Go.Sl Go.RowKit
section
variable {H:au}{b n nx o:Nat}{V:Type}{p:List UInt8}
theorem ov{A:Type}: ∀ (l m:List A),l.Nodup→(∀ x∈l,x∈m)→l.length≤m.length
 | [],m,_,_=>HT _
 | x :: l,m,hn,hs=>by
   obtain⟨a,b,rfl⟩:=List.append_of_mem (hs x (by simp))
   rw [List.nodup_cons] at hn
   have:=ov l (a ++ b) hn.2 fun y hy=>by
    have:=hs y (Jm _ hy)
    rcases List.mem_append.1 this with h|h
    ·exact List.mem_append_left _ h
    ·rcases Js.1 h with rfl|h
     ·exact absurd hy hn.1
     ·exact List.mem_append_right _ h
   simp only [HV,HW] at this ⊢
   omega
abbrev qT:Int→List Value:=fun x:Int=> [.int .i64 x]
theorem sV:RecOf qT 1:=yp (fun _=>rfl)
abbrev iC(ro:Bool)(l:List Int):VO:=dat ro l.length 1 3 (l.flatMap qT)
theorem xc(val:V→SV)(m:List (Int×V×Nat))(c:Nat):Fnc Tryz.prog 52 [.mp b] H nx
 (fun r=>r=(.fn (.func 96) [] [.ptr nx 0],H.set nx (aq 109 [.mp b]),nx+1)):=by
 refine JH Tryz.func52 rfl rfl ?_
 repeat apply aj;rfl
 apply bn Tryz.func52 (congrArg Array.toList Tryz.results52)
 ·repeat first|exact JI|apply JK rfl
 rfl
theorem collI(val:V→SV)(m:List (Int×V×Nat))(c:Nat)(hok:KOk m c)(hl:m.length<1000000){bx:Nat}(hbx:H.at' bx=some (aq 109 [.mp b]))(hb:H.at' b=some (iT (fun x:Int=> .int .i64 x) val m c))(g1:bx<nx)(g2:b<nx) :
 Fnc Tryz.prog 95 [.fn (.func 96) [] [.ptr bx 0]] H nx
  (fun r=> ∃ (done:List (Int×V×Nat)) (nm:Nat),done.Perm m∧r.1 = .slu nm 0 (done.map (·.1)).length∧nx≤nm∧nm<r.2.2∧r.2.1.at' nm=some (iC false (done.map (·.1)))∧ ∀ n,n<nx→r.2.1.at' n=H.at' n):=by
 refine JH Tryz.func95 rfl rfl ?_
 repeat apply aj;rfl
 refine aL rfl rfl rfl (by kernel_rfl) ?_
 refine JH Tryz.func106 rfl rfl ?_
 refine jX (d:=0) 1 3 rfl rfl ?_
 repeat apply aj;rfl
 refine iI [(2,.ptr (nx+1) 0)] rfl rfl (by kernel_rfl) (JN ⟨rfl,trivial⟩) ?_
 intro cA cB hcA hcB
 refine JH Tryz.func96 rfl rfl ?_
 repeat first|apply aj;rfl|apply aG;rfl;(focus((repeat(first|assumption|refine ab (by omega) ?_));done));rfl|refine CY (b:=b) (m:=m) (c:=c) (enc:=fun x:Int=> .int .i64 x) (val:=val) rfl rfl rfl (F.un _ rfl) (by repeat(first|assumption|refine ab (by omega) ?_)) ?_
 refine bv (α:=List (Int×V×Nat)) (fun _=> [(0,.yld (nx+1+1+1)),(1,.ptr bx 0),(5,.ptr (nx+1+1+1+1) 0)]) (fun done H1 nx1=>(done.Nodup∧ ∀ x∈done,x∈m)∧nx+1+1+1+1+1≤nx1∧(∀ n,n<nx→H1.at' n=H.at' n)∧H1.at' (nx+1+1)=some (.dfd (some []))∧H1.at' (nx+1+1+1)=some (.loop .ready none 106 13 (slT [(2,.ptr (nx+1) 0)]) #[7] cA cB (nx+1+1))
  ∧ H1.at' (nx+1+1+1+1)=some (itV b c done)∧ ∃ r,r<nx1∧(r=nx∨nx+1+1+1+1+1≤r)∧H1.at' (nx+1)=some (aq 113 [.slu r 0 (done.map (·.1)).length])∧H1.at' r=some (iC false (done.map (·.1)))) (fun done=>m.length-done.length) []
  ⟨⟨List.nodup_nil,fun _ h=>by cases h⟩,HS _,fun n hn=>by(repeat(refine ab (by omega) ?_));rfl,by repeat(first|exact ac|refine ab (by omega) ?_),by repeat(first|exact ac|refine ab (by omega) ?_),by repeat(exact ac),nx,by omega,.inl rfl,by repeat(first|exact ac|refine ab (by omega) ?_),by repeat(first|exact ac|refine ab (by omega) ?_)⟩ (JN ⟨rfl,rfl,rfl,trivial⟩) ?_
 rintro done H1 nx1 ⟨hdn,hnx,hold,h4,h5,h6,r,hr,hr2,h3,hrow⟩ ih
 have hlen:=ov done m hdn.1 hdn.2
 have hb1:H1.at' b=some (iT (fun x:Int=> .int .i64 x) val m c):=(hold b g2).trans hb
 have hbx1:H1.at' bx=some (aq 109 [.mp b]):=(hold bx g1).trans hbx
 repeat apply aj;rfl
 refine Gc (b:=b) (m:=m) (c:=c) (enc:=fun x:Int=> .int .i64 x) (val:=val) (done:=done) rfl rfl rfl ?_ ?_ hok hdn ?_ ?_
 ·assumption
 ·assumption
 ·intro hp
  repeat apply aj;rfl
  apply p7 Tryz.func96 (congrArg Array.toList Tryz.results96) JI
  dsimp only
  refine im h5 (fun h=>by cases h) ?_
  repeat first|apply aj;rfl|apply aG;rfl;(focus((repeat(first|assumption|refine ab (by omega) ?_));done));rfl
  refine rh Tryz.func106 (congrArg Array.toList Tryz.results106) (rs:= [nx+1+1]) rfl (fun r hr=>by rw [Jj] at hr;subst hr;(focus((repeat(first|assumption|refine ab (by omega) ?_));done))) (by simp) ?_
  intro H2 hH2
  refine⟨_,(by(repeat(first|exact JI|apply JK rfl))),?_⟩
  dsimp only
  repeat apply aj;rfl
  apply bn Tryz.func95 (congrArg Array.toList Tryz.results95)
  ·repeat first|exact JI|apply JK rfl
  refine⟨done,r,hp,rfl,by omega,hr,?_,fun n hn=>?_⟩
  ·exact(hH2 r (by simp;omega)).trans (by repeat(first|assumption|refine ab (by omega) ?_))
  ·refine(hH2 n (by simp;omega)).trans ((aa _ _ (by omega)).trans (hold n hn))
 ·intro x hx hxn hdn2
  have hlm:(done.map (·.1)).length=done.length:=Ji ..
  have hlen2:=ov _ m hdn2.1 hdn2.2
  rw [HW,List.length_singleton] at hlen2
  repeat first|apply aj;rfl|refine CZ (b:=b) (m:=m) (c:=c) (enc:=fun x:Int=> .int .i64 x) (val:=val) (x:=x) (done:=done) rfl rfl rfl ?_ ?_ hok hx ?_;(focus((repeat(exact ac));done));(focus((repeat(first|assumption|refine ab (by omega) ?_));done))
  refine xI (n:=nx+1+1+1) rfl rfl rfl rfl (by repeat(first|assumption|refine ab (by omega) ?_)) (by rfl) ?_
  refine m8 hcA ?_
  repeat apply aj;rfl
  refine pZ (by repeat(first|assumption|refine ab (by omega) ?_)) ?_
  refine m8 hcB ?_
  repeat first|apply aj;rfl|apply aG;rfl;(focus((repeat(first|assumption|refine ab (by omega) ?_));done));rfl|refine bB rfl rfl (F.un _ rfl) (F.sz _ rfl) rfl (F.ze _ rfl) rfl rfl rfl rfl rfl ?_
  refine lC (b:=8) (xs:=done.map (·.1)) (a:=x.1) rfl rfl rfl rfl (F.un _ rfl) (.inl ⟨_,F.un _ rfl⟩) (F.sz _ rfl) rfl (by kernel_rfl) (by kernel_rfl) (by repeat(first|assumption|refine ab (by omega) ?_)) (by repeat(exact ac)) (by rfl) (sV) (by omega) (by omega) ?_
  repeat first|apply aj;rfl|apply aG;rfl;(focus((repeat(first|assumption|refine ab (by omega) ?_|refine bX (by omega) ?_));done));rfl
  refine il (by repeat(first|exact ac|refine ab (by omega) ?_|refine bX (by omega) ?_)) ?_
  dsimp only
  repeat apply aj;rfl
  have e:done.map (·.1) ++ [x.1]=(done ++ [x]).map (·.1):=by simp
  refine ih _ _ _ (done ++ [x]) ⟨hdn2,by omega,fun n hn=>?_,by repeat(first|assumption|refine ab (by omega) ?_|refine bX (by omega) ?_),by repeat(exact ac),by repeat(first|exact ac|refine ab (by omega) ?_|refine bX (by omega) ?_),nx1+1,by omega,.inr (by omega),?_,?_⟩ (by simp only [HW,List.length_singleton];omega) (JN ⟨rfl,rfl,rfl,trivial⟩)
  ·(focus((repeat(first|refine ab (by omega) ?_|refine bX (by omega) ?_));exact hold n hn))
  ·rw [← e]
   (focus((repeat(first|exact ac|refine ab (by omega) ?_));done))
  ·rw [← e]
   (focus((repeat(first|exact ac|refine ab (by omega) ?_));done))
def gM(l:List Int):List Int:=(Sort.sort bj l.toArray).toList
theorem fJ(l:List Int):(gM l).Perm l∧(gM l).Pairwise (fun x y=>bj y x=false):=by
 obtain⟨⟨h1,h2,h3⟩,h4⟩:=Sort.sort_sorts bj wT l.toArray
 have hsz:(Sort.sort bj l.toArray).size=l.length:=by simpa using h1
 constructor
 ·have e1:((Sort.sort bj l.toArray).extract 0 l.toArray.size)=Sort.sort bj l.toArray:=by
   rw [show l.toArray.size=(Sort.sort bj l.toArray).size by simpa using h1.symm]
   exact Array.extract_size
  have e2:(l.toArray.extract 0 l.toArray.size)=l.toArray:=Array.extract_size
  rw [e1,e2] at h3
  exact h3
 ·rw [List.pairwise_iff_getElem]
  intro i j hi hj hij
  have hi':i<(Sort.sort bj l.toArray).size:=hi
  have hj':j<(Sort.sort bj l.toArray).size:=hj
  have:=h4 i j (HT _) hij (by simp;omega)
  rw [getElem!_pos _ i hi',getElem!_pos _ j hj'] at this
  simp only [gM,Array.getElem_toList]
  exact this
theorem iR(l:List Int):(gM l).length=l.length:=(fJ l).1.length_eq
theorem vf(n:Nat)(d:Array Int)(hn:n<65536)(hd:d.size=n) :
 Ctr Tryz.prog 53 [.slu 0 0 n] [b8 n d] (fun c=>c=⟨.tup [],[some (b8 n (Sort.sort bj d))]⟩):=by
 have h16:=pS hn
 refine JH Tryz.func53 rfl rfl ?_
 have hp:=tX n hn n 0 n (Sort.bitsLen n) d rfl (HT _) (HS _) hd (by omega) (.inl rfl)
 have hs:Sort.pdq bj d 0 n (Sort.bitsLen n) true true=Sort.sort bj d:=by unfold Sort.sort;rw [hd]
 rw [hs] at hp
 repeat first|apply aj;rfl|refine cc (bR (F.un _ rfl) (F.un _ rfl) rfl (show _=(n:Int)from JC _ ⟨by omega,by omega⟩)) rfl rfl rfl ?_|refine nU (vE n hn) [] rfl rfl rfl (by kernel_rfl) rfl (JF rfl) rfl trivial ?_|refine ci rfl rfl rfl (by kernel_rfl) (Ctr.dL (hp) [0] rfl (JF rfl) rfl ⟨aB rfl,trivial⟩ rfl (by repeat(first|exact JR|refine⟨bJ,?_⟩)) (fun _=>rfl) rfl rfl) ?_
 ((apply p7 Tryz.func53 (congrArg Array.toList Tryz.results53));(focus(repeat(exact JI)));refine⟨_,rfl,Ends.mk [] (JF rfl) rfl rfl ?_⟩)
 exact⟨aB rfl,trivial⟩
theorem A3(val:V→SV)(m:List (Int×V×Nat))(c:Nat)(hok:KOk m c)(hl:m.length<60000){bx:Nat}(hbx:H.at' bx=some (aq 109 [.mp b]))(hb:H.at' b=some (iT (fun x:Int=> .int .i64 x) val m c))(g1:bx<nx)(g2:b<nx) :
 Fnc Tryz.prog 51 [.fn (.func 96) [] [.ptr bx 0]] H nx
  (fun r=> ∃ nm ks,ks.Perm (m.map (·.1))∧ks.Pairwise (fun x y=>bj y x=false)∧r.1 = .slu nm 0 ks.length∧nx≤nm∧nm<r.2.2∧r.2.1.at' nm=some (iC false ks)∧ ∀ n,n<nx→r.2.1.at' n=H.at' n):=by
 refine JH Tryz.func51 rfl rfl ?_
 repeat apply aj;rfl
 refine aL rfl rfl rfl (by kernel_rfl) (JG (collI val m c hok (by omega) hbx hb g1 g2) ?_)
 rintro⟨_,H1,n1⟩ ⟨done,nm,hp,rfl,h1,h2,h3,h4⟩
 dsimp only at h1 h2 h3 h4 ⊢
 have hpm:(done.map (·.1)).Perm (m.map (·.1)):=hp.map _
 have hlen:(done.map (·.1)).length=m.length:=by rw [hpm.length_eq,Ji]
 generalize done.map (·.1)=ks at h3 hlen hpm ⊢
 have h3':H1.at' nm=some (b8 ks.length ks.toArray):=h3
 have hs:=vf ks.length ks.toArray (by omega) (by simp)
 have hrow:b8 ks.length (Sort.sort bj ks.toArray)=iC false (gM ks):=by
  have:(gM ks).length=ks.length:=iR ks
  show dat false ks.length 1 3 _=dat false (gM ks).length 1 3 _
  rw [this]
  rfl
 have hsl:=iR ks
 rw [hrow] at hs
 repeat apply aj;rfl
 (refine aL rfl rfl rfl (by kernel_rfl) (Ctr.CI (hs) [nm] rfl ⟨by intro n hn;simp at hn;omega,by simp;try omega⟩ rfl (by repeat(first|exact JR|refine⟨aB (by assumption),?_⟩)) ?_);rintro _ rfl;refine⟨_,0,[nm],[some _],rfl,(by repeat(first|exact JR|refine⟨od _ _ _ _ _ _,?_⟩)),rfl,rfl,?_⟩;dsimp only [wrL])
 repeat apply aj;rfl
 (apply bP Tryz.func51 Tryz.results51;rfl)
 rw [← hsl]
 exact⟨nm,_,(fJ ks).1.trans hpm,(fJ ks).2,rfl,h1,h2,ah _ _ _,fun n hn=>(aa _ _ (by omega)).trans (h4 n hn)⟩
abbrev jF(S:List Nat):List Int:=S.map fun n:Nat=>(n:Int)
abbrev pI(l:List Int):VO:=iC false l
theorem zM(hp:p.length=1024)(k:Nat):(gy p k).1.length=1024:=by
 unfold gy
 split
 ·exact ai
 ·rename_i h1
  have hr:bl p=true:=by cases h:bl p with|true=>rfl|false=>exact absurd h h1
  split
  ·exact ai
  ·rename_i h2
   have hok:=(bw hp).1 hr
   have hk:kY p k=true:=by
    cases h3:kY p k with
    | true=>rfl
    | false=>exact absurd (by rw [oG h3];decide) h2
   have:=Jp hk
   exact(oP hok this.1 this.2).ok.len
theorem vI: ∀ l:List Int,l.flatMap qT=l.map fun x=>Value.int .i64 x
 | []=>rfl
 | a :: l=>by rw [List.flatMap_cons,HU,vI l];rfl
theorem qA{l:List Int}{i:Nat}(hi:i<l.length):(pI l).cell (i*1)=some (.sc (.int .i64 l[i])):=by
 refine fW (by omega) ?_
 rw [Nat.mul_one,vI,Ju,Hx hi]
 rfl
theorem xH{r:Nat}{S:List Nat}(hp:p.length=1024)(hrow:H.at' r=some (pI (jF S)))(hS:S.length≤100000):Fnc Tryz.prog 56 [.agg (pgS p),.slu r 0 S.length] H nx
 (fun q=>q.1=pgE (rx S p)∧nx≤q.2.2∧ ∀ m,m<nx→q.2.1.at' m=H.at' m):=by
 have hnl:(jF S).length=S.length:=Ji _
 refine JH Tryz.func56 rfl rfl ?_
 refine aW fun hund=>?_
 have lR:=hund _ _ hrow
 clear hund
 repeat first|refine aY rfl rfl ce ?_|apply aj;rfl
 refine bv (α:=Nat×List UInt8) (fun x=> [(2,.ptr nx 0),(4,.ptr (nx+1) 0),(10,.slu r 0 S.length),(11,.sc (.int .i64 (S.length:Int))),(12,.sc (.int .i64 (x.1:Int)))])
  (fun x H1 n1=>x.1≤S.length∧rx (S.drop x.1) x.2=rx S p∧x.2.length=1024∧nx+1+1≤n1∧H1.at' nx=some (pgO x.2)∧H1.at' (nx+1)=some (pgO zeroP)∧ ∀ m,m<nx→H1.at' m=H.at' m) (fun x=>S.length-x.1) (0,p)
  ⟨HT _,rfl,hp,HS _,by repeat(first|exact ac|refine ab (by omega) ?_),by repeat(exact ac),fun m hm=>by(repeat(refine ab (by omega) ?_));rfl⟩ (JN (JQ rfl)) ?_
 rintro⟨i,x⟩ H1 n1 ⟨i1,i2,i3,i4,i5,i6,i7⟩ ih
 dsimp only at i1 i2 i3 i4 i5 i6 i7 ⊢
 have r1:H1.at' r=some (pI (jF S)):=(i7 r lR).trans hrow
 repeat apply aj;rfl
 refine bi rfl rfl rfl rfl (fun h5=>?_) (fun h5=>?_)
 ·have hi:i<S.length:=by omega
  have hc:(pI (jF S)).cell (i*1)=some (.sc (.int .i64 (S[i]:Int))):=by
   have:=qA (l:=jF S) (i:=i) (by omega)
   rwa [List.getElem_map] at this
  have hd:S.drop i=S[i] :: S.drop (i+1):=List.drop_eq_getElem_cons hi
  rw [hd] at i2
  have hds:=fun(H:au) nx=>G6 (H:=H) (nx:=nx) (n:=S[i]) i3
  have hdl:=zM i3 S[i]
  have hgo:rx (S[i] :: S.drop (i+1)) x=if(gy x S[i]).2≠0 then(zeroP,(gy x S[i]).2) else rx (S.drop (i+1)) (gy x S[i]).1:=rfl
  rw [i2] at hgo
  generalize gy x S[i]=D at hds hdl hgo
  obtain⟨y,e⟩:=D
  dsimp only at hdl hgo
  by_cases he:e=0
  ·subst he
   rw [Jd (fun h=>h rfl)] at hgo
   repeat first|refine dw (q:=i) rfl rfl rfl rfl (F.un _ rfl) (F.sz _ rfl) r1 (by omega) (by omega) (by omega) ?_|refine cc (an (F.ag _ rfl) rfl r1 hc) rfl rfl rfl ?_|apply bq i3;rfl;assumption|apply bq hdl;rfl;(focus((repeat(exact ac));done))|apply bC hdl ai;rfl;(focus((repeat(first|exact ac|refine ab (by omega) ?_));done))|apply bC hdl i3;rfl;(focus((repeat(first|assumption|refine ab (by omega) ?_));done))|refine aY rfl rfl ce ?_|apply aj;rfl|apply aK;rfl;omega;omega|apply bY;rfl;kernel_rfl;exact hds _ _|apply dH;rfl;rfl
   exact ih _ _ _ (i+1,y) ⟨hi,hgo.symm,hdl,by first|omega|(dsimp only;omega),by repeat(exact ac),by repeat(first|assumption|refine ab (by omega) ?_),fun m hm=>by(repeat(refine ab (by omega) ?_));exact i7 m hm⟩ (by dsimp only;omega) (JN (JQ rfl))
  ·rw [Je he] at hgo
   rw [hgo]
   repeat first|refine dw (q:=i) rfl rfl rfl rfl (F.un _ rfl) (F.sz _ rfl) r1 (by omega) (by omega) (by omega) ?_|refine cc (an (F.ag _ rfl) rfl r1 hc) rfl rfl rfl ?_|apply bq i3;rfl;assumption|apply bC hdl ai;rfl;(focus((repeat(exact ac));done))|apply bC ai ai;rfl;(focus((repeat(first|assumption|refine ab (by omega) ?_));done))|refine aY rfl rfl ce ?_|apply aj;rfl|refine cc (cS gE) rfl rfl rfl ?_|apply bY;rfl;kernel_rfl;exact hds _ _|apply ii;rfl;omega
   ((apply bn Tryz.func56 (congrArg Array.toList Tryz.results56));(focus((apply JJ rfl (JL (F.ag _ rfl) (by repeat(exact ac)) (bm ai)));(repeat(first|exact JI|apply JK rfl)))))
   exact⟨rfl,by first|omega|(dsimp only;omega),fun m hm=>by(repeat(refine ab (by omega) ?_));exact i7 m hm⟩
 ·have hi:i=S.length:=by omega
  subst hi
  rw [List.drop_length] at i2
  have hps:=fun(H:au) nx=>Cc (H:=H) (nx:=nx) i3
  have hpl:=lP x i3
  have i2:iP x=rx S p:=i2
  rw [i2] at hps hpl
  generalize rx S p=W at hps hpl ⊢
  obtain⟨y,e⟩:=W
  dsimp only at hpl
  repeat first|apply bq i3;rfl;assumption|apply bC hpl ai;rfl;assumption|apply aj;rfl|apply bY;rfl;kernel_rfl;exact hps _ _
  ((apply bn Tryz.func56 (congrArg Array.toList Tryz.results56));(focus((apply JJ rfl (JL (F.ag _ rfl) (by repeat(exact ac)) (bm hpl)));(repeat(first|exact JI|apply JK rfl)))))
  exact⟨rfl,by first|omega|(dsimp only;omega),fun m hm=>by(repeat(refine ab (by omega) ?_));exact i7 m hm⟩
abbrev jh:Nat×List Int→SV:=fun v=> .slu v.1 0 v.2.length
abbrev v5:Int→Value:=fun x=> .int .i64 x
abbrev En(mb:Nat):VO:=aq 109 [.mp mb]
theorem Gt{mb tb nb rv c:Nat}{ks:List Int}{m:List (Int×(Nat×List Int)×Nat)}{S:List Nat}(ht:H.at' tb=some (En mb))(hn:H.at' nb=some (intO n))(hmb:H.at' mb=some (iT v5 jh m c))(hg:gC m (n:Int)=some (rv,ks))(hrow:H.at' rv=some (pI (jF S)))(hlen:ks.length=S.length)(hS:S.length≤100000)(hp:p.length=1024):Fnc Tryz.prog 55 [.agg (pgS p),.ptr tb 0,.ptr nb 0] H nx
 (fun q=>q.1=pgE (rx S p)∧nx≤q.2.2∧ ∀ m,m<nx→q.2.1.at' m=H.at' m):=by
 have hwl:=ny S p hp
 refine JH Tryz.func55 rfl rfl ?_
 refine aW fun hund=>?_
 have l1:=hund _ _ ht
 have l2:=hund _ _ hn
 have l3:=hund _ _ hmb
 have l4:=hund _ _ hrow
 clear hund
 repeat first|refine aY rfl rfl ce ?_|apply aj;rfl|apply aG;rfl;(focus((repeat(first|assumption|exact ac|refine ab (by omega) ?_));done));rfl|apply bq hp;rfl;(focus((repeat(first|exact ac|refine ab (by omega) ?_));done))
 refine xJ (m:=m) (enc:=v5) (val:=jh) (c:=c) rfl rfl rfl rfl (F.un _ rfl) (gP (F.un _ rfl)) (by repeat(first|assumption|refine ab (by omega) ?_)) hg ?_
 dsimp only [jh]
 rw [hlen]
 refine aL rfl rfl rfl (by kernel_rfl) (JG (xH (S:=S) (r:=rv) hp (by repeat(first|assumption|refine ab (by omega) ?_)) hS) ?_)
 rintro⟨_,H2,n2⟩ ⟨rfl,g2,g3⟩
 dsimp only at g2 g3 ⊢
 have k1:H2.at' (nx+1)=some (pgO zeroP):=(g3 _ (by omega)).trans (by repeat(exact ac))
 have ko: ∀ m,m<nx→H2.at' m=H.at' m:=fun m hm=>(g3 m (by omega)).trans (by(repeat(refine ab (by omega) ?_));rfl)
 generalize rx S p=W at hwl ⊢
 obtain⟨y,e⟩:=W
 dsimp only at hwl
 repeat first|apply bC hwl ai;rfl;assumption|apply aj;rfl
 ((apply bn Tryz.func55 (congrArg Array.toList Tryz.results55));(focus((apply JJ rfl (JL (F.ag _ rfl) (by repeat(exact ac)) (bm hwl)));(repeat(first|exact JI|apply JK rfl)))))
 exact⟨rfl,by dsimp only;omega,fun m hm=>by(repeat(refine ab (by omega) ?_));exact ko m hm⟩
theorem rM{a:Nat}:Fnc Tryz.prog 50 [.ptr a 0] H nx (fun q=>q=(.tup [],H,nx)):=by
 refine JH Tryz.func50 rfl rfl ?_
 repeat first|apply aj;rfl|apply jl;rfl;rfl|refine cc (ju rfl Tryz.underlying20) rfl rfl rfl ?_
 (apply B0 Tryz.func50 Tryz.results50;rfl)
 rfl
theorem Du(h:o+2≤p.length):gB p o=256*(p[o]'(by omega)).toNat+(p[o+1]'(by omega)).toNat:=by
 have hd:(p.drop o).take 2= [p[o]'(by omega),p[o+1]'(by omega)]:=by
  rw [List.drop_eq_getElem_cons (by omega:o<p.length),List.drop_eq_getElem_cons (by omega:o+1<p.length)]
  rfl
 unfold gB
 rw [hd]
 simp [beN]
theorem ou(hp:p.length=1024)(ho:o+2≤1024):Fnc Tryz.prog 76 [.agg (pgS p),.sc (.int .i64 (o:Int))] H nx (fun q=>q=(.sc (.int .i64 (gB p o:Int)),H,nx)):=by
 refine Fnc.bu (Free.sc _) ?_
 refine JH Tryz.func76 rfl rfl ?_
 repeat apply aj;rfl
 have hb:(H.set nx (pgO p)).at' nx=some (pgO p):=ah _ _ _
 have hc0:(pgO p).cell (0+o*1)=some (.sc (.int .u8 ((p[o]'(by omega)).toNat:Int))):=by rw [Jf,Nat.mul_one];exact nI (p:=p) (i:=o) (by omega)
 have hc1:(pgO p).cell (0+(o+1)*1)=some (.sc (.int .u8 ((p[o+1]'(by omega)).toNat:Int))):=by rw [Jf,Nat.mul_one];exact nI (p:=p) (i:=o+1) (by omega)
 have ha:=(p[o]'(by omega)).toNat_lt
 have hb2:=(p[o+1]'(by omega)).toNat_lt
 (apply bg;(focus(kernel_rfl));(focus(kernel_rfl)))
 repeat first|apply jM (q:=o);rfl;rfl;rfl;rfl;exact(F.un _ rfl);exact(F.sz _ rfl);(focus(omega));(focus(omega))|apply jM (q:=o+1);rfl;rfl;rfl;rfl;exact(F.un _ rfl);exact(F.sz _ rfl);(focus(omega));(focus(omega))|refine bk (an (F.ag _ rfl) rfl hb hc0) rfl rfl rfl ?_|refine bk (an (F.ag _ rfl) rfl hb hc1) rfl rfl rfl ?_|refine bk (bR (F.un _ rfl) (F.un _ rfl) rfl (show _=(((p[o]'(by omega)).toNat:Nat):Int)from Hu _ ⟨by omega,by omega⟩)) rfl rfl rfl ?_|refine bk (bR (F.un _ rfl) (F.un _ rfl) rfl (show _=(((p[o+1]'(by omega)).toNat:Nat):Int)from Hu _ ⟨by omega,by omega⟩)) rfl rfl rfl ?_|apply aU;rfl|refine bk (aw rfl rfl (.inl ⟨rfl,(Hu _ ⟨(by focus(omega)),(by focus(omega))⟩).symm⟩)) rfl rfl rfl ?_|refine bk (aw rfl rfl (.inr (.inr ⟨rfl,(Hu _ ⟨(by focus(omega)),(by focus(omega))⟩).symm⟩))) rfl rfl rfl ?_
 refine aA ⟨by kernel_rfl,?_,?_⟩;(focus(repeat(first|exact JR|apply gu;rfl;kernel_rfl|refine⟨.inr ⟨0,by kernel_rfl,AllH.all (fun _=>(by(exact aw rfl rfl (.inl ⟨rfl,(Hu _ ⟨by omega,by omega⟩).symm⟩)))) _⟩,?_⟩|refine fT 0 rfl (by kernel_rfl) (by(repeat(refine⟨(by first|exact gW (q:=o) rfl rfl (F.un _ rfl) (F.sz _ rfl) (by omega) (by omega)|exact gW (q:=o+1) rfl rfl (F.un _ rfl) (F.sz _ rfl) (by omega) (by omega)|exact an (F.ag _ rfl) rfl hb hc0|exact an (F.ag _ rfl) rfl hb hc1),?_⟩));exact JR) ?_|apply mv;kernel_rfl)))
 (apply bP Tryz.func76 Tryz.results76;rfl)
 refine⟨?_,Jb _,fun m hm=>aa _ _ (by omega)⟩
 rw [Du (by omega)]
 exact congrArg (fun z:Int=>SV.sc (.int .i64 z)) (by omega)
theorem jI(hp:p.length=1024):Fnc Tryz.prog 77 [.agg (pgS p)] H nx (fun q=>q=(.sc (.int .i64 (aE p:Int)),H,nx)):=by
 refine Fnc.bu (Free.sc _) ?_
 refine JH Tryz.func77 rfl rfl ?_
 repeat first|apply bq hp;rfl;(focus((repeat(exact ac));done))|apply aj;rfl|apply bY;rfl;kernel_rfl;exact ou (o:=16) hp (by decide)
 (apply bP Tryz.func77 Tryz.results77;rfl)
 exact⟨rfl,Jb _,fun m hm=>aa _ _ (by omega)⟩
theorem AC(h:o+2≤p.length):cm p o n=(p.set o (UInt8.ofNat (n / 256))).set (o+1) (UInt8.ofNat (n % 256)):=by
 have hB:beB n 2= [UInt8.ofNat (n / 256),UInt8.ofNat (n % 256)]:=by
  have h2:UInt8.ofNat (n % 256)=UInt8.ofNat n:=by
   apply UInt8.toNat_inj.1
   simp
  rw [h2]
  simp [beB,List.range_succ]
 refine Jy fun i=>?_
 unfold cm
 rw [cG (by rw [hB];simpa using h),hB,List.getElem?_set,List.getElem?_set,List.length_set]
 by_cases h1:o+1=i
 ·subst h1
  rw [Je ⟨by omega,by simp⟩,Je rfl,Je (by omega),show o+1-o=1 by omega]
  rfl
 ·rw [Jd h1]
  by_cases h2:o=i
  ·subst h2
   rw [Je ⟨by omega,by simp⟩,Je rfl,Je (by omega),Nat.sub_self]
   rfl
  ·rw [Jd h2,Jd (by simp;omega)]
theorem gF(hp:p.length=1024)(ho:o+2≤1024)(hn:n<65536):Fnc Tryz.prog 93 [.agg (pgS p),.sc (.int .i64 (o:Int)),.sc (.int .i64 (n:Int))] H nx (fun q=>q=(.agg (pgS (cm p o n)),H,nx)):=by
 refine Fnc.bu (Free.agg _) ?_
 refine JH Tryz.func93 rfl rfl ?_
 repeat first|refine aY rfl rfl ce ?_|apply aj;rfl|apply aK;rfl;omega;omega|refine cc (pB rfl rfl (by omega) (jk (by focus(omega)) (by focus(omega)) (by focus(omega)))) rfl rfl rfl ?_|refine cc (bR (F.un _ rfl) (F.un _ rfl) rfl (show _=((UInt8.ofNat (n / 256)).toNat:Int)from wy (n / 256))) rfl rfl rfl ?_
 (apply ry (c:=((n % 256:Nat):Int));rfl;rfl;rfl;rfl;(focus(decide));rfl)
 repeat refine cc (bR (F.un _ rfl) (F.un _ rfl) rfl (show _=((UInt8.ofNat (n % 256)).toNat:Int)from wy (n % 256))) rfl rfl rfl ?_
 (apply eR (q:=o);rfl;rfl;rfl;rfl;exact(F.un _ rfl);exact(F.sz _ rfl);(focus(omega));(focus(omega)))
 rw [show 0+o*1=o by omega]
 refine dg (cs:=pgS p) rfl rfl rfl (F.sz _ rfl) (by repeat(first|exact ac|refine ab (by omega) ?_)) rfl (HG (by rw [be hp];omega)) ?_
 rw [lG]
 have hls:(p.set o (UInt8.ofNat (n / 256))).length=1024:=by rw [List.length_set];exact hp
 (apply eR (q:=o+1);rfl;rfl;rfl;rfl;exact(F.un _ rfl);exact(F.sz _ rfl);(focus(omega));(focus(omega)))
 rw [show 0+(o+1)*1=o+1 by omega]
 refine dg (cs:=pgS (p.set o (UInt8.ofNat (n / 256)))) rfl rfl rfl (F.sz _ rfl) (by repeat(exact ac)) rfl (HG (by rw [be hls];omega)) ?_
 rw [lG,←AC (by omega)]
 have hl:(cm p o n).length=1024:=(bE (by omega)).trans hp
 generalize cm p o n=p2 at hl ⊢
 repeat first|apply bq hl;rfl;(focus((repeat(exact ac));done))|apply bC hl ai;rfl;(focus((repeat(first|exact ac|refine ab (by omega) ?_));done))|apply aj;rfl
 ((apply bn Tryz.func93 (congrArg Array.toList Tryz.results93));(focus((apply JJ rfl (JL (F.ag _ rfl) (by repeat(exact ac)) (bm hl)));(repeat(exact JI)))))
 exact⟨rfl,by dsimp only;omega,fun m hm=>by(repeat(refine ab (by omega) ?_));rfl⟩
theorem DM(k:UInt8):Fnc Tryz.prog 75 [.sc (.int .u8 (k.toNat:Int))] H nx (fun q=>q=(.agg (pgS (fy k)),H,nx)):=by
 refine Fnc.bu (Free.agg _) ?_
 refine JH Tryz.func75 rfl rfl ?_
 repeat first|refine aY rfl rfl ce ?_|apply aj;rfl
 (apply eR (q:=12);rfl;rfl;rfl;rfl;exact(F.un _ rfl);exact(F.sz _ rfl);(focus(omega));(focus(omega)))
 refine dg (cs:=pgS zeroP) rfl rfl rfl (F.sz _ rfl) (by repeat(exact ac)) rfl (HG (by rw [be ai];decide)) ?_
 rw [lG]
 have hls:(zeroP.set 12 k).length=1024:=by rw [List.length_set];exact ai
 have hl:(fy k).length=1024:=fL k
 have hi:cm (zeroP.set 12 k) 16 1024=fy k:=rfl
 have hw:=fun(H:au) nx=>gF (H:=H) (nx:=nx) (o:=16) (n:=1024) hls (by decide) (by decide)
 rw [hi] at hw
 generalize zeroP.set 12 k=p1 at hls hw ⊢
 generalize fy k=p2 at hl hw ⊢
 repeat first|apply bq hls;rfl;(focus((repeat(exact ac));done))|apply bC hl ai;rfl;(focus((repeat(first|exact ac|refine ab (by omega) ?_));done))|apply aj;rfl|apply bY;rfl;kernel_rfl;exact hw _ _
 ((apply bn Tryz.func75 (congrArg Array.toList Tryz.results75));(focus((apply JJ rfl (JL (F.ag _ rfl) (by repeat(exact ac)) (bm hl)));(repeat(exact JI)))))
 exact⟨rfl,by dsimp only;omega,fun m hm=>by(repeat(refine ab (by omega) ?_));rfl⟩
end
end Go.Proofs.YtnhmbonmlfeifaaGreat
end
