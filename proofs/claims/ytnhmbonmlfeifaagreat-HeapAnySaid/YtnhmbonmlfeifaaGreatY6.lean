import Derived.Sort.AssemblyPlain
import Derived.Sort.LotD5
import Derived.Test.YtnhmbonmlfeifaaGreatY5
set_option linter.unusedVariables false
set_option linter.unusedSimpArgs false
set_option maxRecDepth 100000
set_option maxHeartbeats 0
section
namespace Go.Proofs.YtnhmbonmlfeifaaGreat
open Go Go.Sy Go.Sl Go.RowKit
section
variable {k:Nat}{p:List UInt8}{l:List (Int×Int)}
def lB(p:List UInt8)(k:Nat):Bool:=decide (k<ae p∧ar p k≠0)
theorem ru(h:lB p k=true):cm p k=(ay p k,ar p k,0):=by
 have h:=Km h
 unfold cm
 rw [Ka (by omega),Ka h.2]
theorem o5(h:lB p k=false):cm p k=(0,0,6):=by
 have h:=of_decide_eq_false h
 unfold cm
 split
 ·rfl
 ·rw [Kb (by omega)]
def r9:List Nat→List UInt8→List UInt8×Nat
 | [],p=>iN p
 | k :: S,p=>if(gO p k).2≠0 then(zeroP,(gO p k).2) else r9 S (gO p k).1
theorem Cp(h:Okp p)(hk:lB p k=true):gO p k=(lE p k,0):=by
 unfold gO
 rw [Ka (by rw [(aZ h.len).2 h];decide),ru hk,Ka (fun h=>h rfl)]
theorem E3(h:Okp p)(hk:lB p k=false):gO p k=(zeroP,6):=by
 unfold gO
 rw [Ka (by rw [(aZ h.len).2 h];decide),o5 hk,Kb (by decide)]
theorem nS: ∀ (S:List Nat) (p:List UInt8),p.length=1024→(r9 S p).1.length=1024
 | [],p,hp=>l7 p hp
 | k :: S,p,hp=>by
   unfold r9
   split
   ·exact aj
   ·rename_i h
    refine nS S _ ?_
    have h:(gO p k).2=0:=Decidable.not_not.1 h
    unfold gO at h ⊢
    split
    ·exact aj
    ·rename_i h1
     have hr:bj p=true:=by cases h:bj p with|true=>rfl|false=>exact absurd h h1
     split
     ·exact aj
     ·rename_i h2
      have hok:=(aZ hp).1 hr
      have hk:lB p k=true:=by
       cases h3:lB p k with
       | true=>rfl
       | false=>exact absurd (by rw [o5 h3];decide) h2
      have:=Km hk
      exact(ph hok this.1 this.2).ok.len
theorem r8{p:List UInt8}(h:Okp p): ∀ (S A:List Nat),Has p A→(A ++ S).Nodup→r9 S (du p A)=if(∀ k∈S,lB p k=true) then(rS p (A ++ S),0) else(zeroP,6)
 | [],A,hA,_=>by
   have hok:=my h hA
   rw [Kb (fun k hk=>by cases hk),Ko]
   show iN _=_
   unfold iN
   rw [Kb ((aZ hok.len).2 hok)]
   rfl
 | k :: S,A,hA,hnd=>by
   have hok:=my h hA
   rw [List.nodup_append] at hnd
   obtain⟨n1,n2,n3⟩:=hnd
   rw [List.nodup_cons] at n2
   have hkA:k∉A:=fun hm=>n3 k hm k Ki rfl
   unfold r9
   cases hk:lB p k with
   | true=>
     have hk2:=Km hk
     have hA2:Has p (A ++ [k]):=⟨by
      rw [List.nodup_append]
      exact⟨n1,List.nodup_cons.2 ⟨fun h=>by(cases h),List.nodup_nil⟩,fun a ha b hb=>by rw [Kg.1 hb];exact fun e=>hkA (e ▸ ha)⟩,fun n hn=>by
      rcases List.mem_append.1 hn with h1|h1
      ·exact hA.2 n h1
      ·rw [Kg.1 h1];exact hk2⟩
     obtain⟨t1,t2,_⟩:=Has.there (B:= []) h hA2
     have hq:lB (du p A) k=true:=Kt ⟨t1,t2⟩
     rw [Cp hok hq,Ka (fun h=>h rfl)]
     have e:lE (du p A) k=du p (A ++ [k]):=by unfold du;rw [List.foldl_append];rfl
     dsimp only
     rw [e,r8 h S (A ++ [k]) hA2 (by rw [Kl,List.nodup_append];exact⟨n1,List.nodup_cons.2 n2,n3⟩),Kl]
     show(if _ then(rS p (A ++ k :: S),0) else _)=_
     by_cases hall: ∀ k∈S,lB p k=true
     ·rw [Kb hall,Kb (fun j hj=>by rcases Kp.1 hj with rfl|hj;exact hk;exact hall j hj)]
     ·rw [Ka hall,Ka (fun h2=>hall fun j hj=>h2 j (Kj _ hj))]
   | false=>
     have hq:lB (du p A) k=false:=by
      cases hq:lB (du p A) k with
      | false=>rfl
      | true=>
        have hq:=Km hq
        have hk2:=of_decide_eq_false hk
        by_cases h0:A= []
        ·subst h0;exact absurd hq hk2
        ·obtain⟨B,hB,g⟩:=m9 h h0 hA
         have h1:=g.slots
         have h2:=g.ptr k (by omega) fun hm=>hkA ((hB k).1 hm)
         exact absurd ⟨by omega,by rw [← h2.2];exact hq.2⟩ hk2
     rw [E3 hok hq,Kb (by decide),Ka (fun h2=>by rw [h2 k Ki] at hk;cases hk)]
theorem Bg(h:Okp p){S:List Nat}(hS:S.Nodup):r9 S p=if(∀ k∈S,lB p k=true) then(rS p S,0) else(zeroP,6):=
 r8 h S [] ⟨List.nodup_nil,fun n hn=>by cases hn⟩ hS
def aN(l:List (Int×Int))(n:Nat):List Nat:=(l.filter fun t=>decide (t.1=(n:Int))).map fun t=>t.2.toNat
def uf(l:List (Int×Int)):Prop:=(∀ t∈l,lQ t.1 t.2=true)∧l.Nodup
theorem gK{n:Nat}(hl: ∀ t∈l,lQ t.1 t.2=true):k∈aN l n↔((n:Int),(k:Int))∈l:=by
 unfold aN
 rw [Kx]
 constructor
 ·rintro⟨t,ht,rfl⟩
  rw [List.mem_filter,KB] at ht
  have h1:=Km (hl t ht.1)
  have h2:((n:Int),((t.2.toNat:Nat):Int))=t:=Prod.ext ht.2.symm (by dsimp only;omega)
  rw [h2]
  exact ht.1
 ·intro h
  exact⟨_,List.mem_filter.2 ⟨h,Kt rfl⟩,Ks k⟩
theorem ft(h:uf l)(n:Nat):(aN l n).Nodup:=by
 unfold aN
 have h1:(l.filter fun t=>decide (t.1=(n:Int))).Nodup:=h.2.sublist List.filter_sublist
 refine List.pairwise_map.2 (h1.imp_of_mem fun {a b} ha hb hab=>?_)
 rw [List.mem_filter,KB] at ha hb
 have h2:=Km (h.1 a ha.1)
 have h3:=Km (h.1 b hb.1)
 intro e
 exact hab (Prod.ext (ha.2.trans hb.2.symm) (by omega))
def dE(l:List (Int×Int)):List Nat:=((List.range 96).map (32 + ·)).filter fun n=> !(aN l n).isEmpty
theorem eg{n:Nat}:n∈dE l↔32≤n∧n<128∧aN l n≠ []:=by
 unfold dE
 rw [List.mem_filter,Kx]
 constructor
 ·rintro⟨⟨i,hi,rfl⟩,h⟩
  have:=Kw.1 hi
  refine⟨by omega,by omega,fun e=>?_⟩
  rw [e] at h
  cases h
 ·rintro⟨h1,h2,h3⟩
  refine⟨⟨n-32,Kw.2 (by omega),by omega⟩,?_⟩
  cases h4:aN l n with
  | nil=>exact absurd h4 h3
  | cons a b=>rfl
theorem lz(l:List (Int×Int)):(dE l).Pairwise (·< ·):=by
 unfold dE
 refine List.Pairwise.filter _ ?_
 rw [List.pairwise_map]
 exact List.pairwise_lt_range.imp fun h=>by omega
def ml(pf:Nat→List UInt8)(l:List (Int×Int)):Prop:= ∀ t∈l,lB (aM (pf t.1.toNat)).1 t.2.toNat=true
theorem mj{pf:Nat→List UInt8}(h:uf l):ml pf l↔ ∀ n∈dE l,∀ k∈aN l n,lB (aM (pf n)).1 k=true:=by
 constructor
 ·intro h1 n hn k hk
  have:=h1 _ ((gK h.1).1 hk)
  rwa [Ks,Ks] at this
 ·intro h1 t ht
  have h2:=Km (h.1 t ht)
  obtain⟨a,b⟩:=t
  obtain⟨n,rfl⟩: ∃ n:Nat,a=(n:Int):=⟨a.toNat,by dsimp only at h2;omega⟩
  obtain⟨k,rfl⟩: ∃ k:Nat,b=(k:Int):=⟨b.toNat,by dsimp only at h2;omega⟩
  have h3:=(gK h.1).2 ht
  dsimp only at h2 ⊢
  rw [Ks,Ks]
  exact h1 n (eg.2 ⟨by omega,by omega,fun e=>by rw [e] at h3;cases h3⟩) k h3
end
instance (l:List (Int×Int)):Decidable (uf l):=inferInstanceAs (Decidable (_∧_))
instance (pf:Nat→List UInt8) (l:List (Int×Int)):Decidable (ml pf l):=inferInstanceAs (Decidable (∀ t∈l,_))
def gh(pf:Nat→List UInt8)(l:List (Int×Int)):Nat×List (Nat×List UInt8):=
 if ¬ uf l then(2,[]) else if ¬ ml pf l then(6,[]) else(0,(dE l).map fun n=>(n,rS (aM (pf n)).1 (aN l n)))
def gi:List (Nat×List UInt8)→List UInt8→Int→Int→Nat×List UInt8×Int×Int
 | [],mem,left,puts=>(0,mem,left,puts)
 | (n,x) :: r,mem,left,puts=>if left=0 then(8,mem,left,puts) else gi r (fx mem n x) (left-1) (puts+1)
section
variable {P:Program} {H:au} {T:Tr SV} {nx:Nat}
variable {d:Option Tmp} {ty:TypeId} {pos:String} {af:Array Edge} {gd:Option (Nat×Bool)}
theorem vP{t:TypeId}{x y:Operand}{s:ByteArray}{k:IntKind}{i:Nat}{v:UInt8}(hx:am T x=some (.sc (.string s)))(hy:am T y=some (.sc (.int k (i:Int))))(hu:P.underlying t=some .string)(hv:s[i]? =some v) :
 ReadDoes P T H ⟨d,.index t x y,ty,pos,af,gd⟩ (.sc (.int .u8 v.toNat)):=by
 refine eO fun ev w he=>?_
 have e1:=he x _ hx _ rfl
 have e2:=he y _ hy _ rfl
 simp [execOp,e1,e2,Instr.index,asIntOf,run_underlying hu,hv]
end
theorem aP{A:Type} [Inhabited A](d:Array A)(i j:Nat):(Sort.swp d i j).size=d.size:=by simp [Sort.swp]
theorem BO{x:Int}{m:Nat}(hx:x=(m:Int)-1)(hm:m<4611686018427387904):IntKind.i64.wrap (x.tdiv 2)=(((m-1) / 2:Nat):Int):=by
 subst hx
 rcases Nat.eq_zero_or_pos m with rfl|h
 ·decide
 ·rw [Int.tdiv_eq_ediv_of_nonneg (by omega),JH _ ⟨by omega,by omega⟩]
  omega
def EO:Sort.Hint→Int
 | .unknown=>0
 | .increasing=>1
 | .decreasing=>2
theorem Au{h:Sort.Hint}:(EO h == 2)=decide (h = .decreasing):=by cases h <;> rfl
theorem C8{m:Nat}(h:m<2 ^ 64):IntKind.u64.wrap ((m:Nat):Int)=(m:Int):=by
 rw [Kz _ ⟨by omega,by omega⟩]
theorem xorU{a b:Nat}(ha:a<18446744073709551616)(hb:b<18446744073709551616):AS .xor .u64 (a:Int) (b:Int)=((a ^^^ b:Nat):Int):=by
 show IntKind.u64.wrap (((BitVec.ofInt 64 (a:Int) ^^^ BitVec.ofInt 64 (b:Int)).toNat:Nat):Int)=_
 rw [BitVec.toNat_xor,BitVec.ofInt_natCast,BitVec.ofInt_natCast,BitVec.toNat_ofNat,BitVec.toNat_ofNat,Nat.mod_eq_of_lt ha,Nat.mod_eq_of_lt hb,C8]
 exact Nat.xor_lt_two_pow ha hb
theorem andU{a b:Nat}(ha:a<18446744073709551616)(hb:b<18446744073709551616):AS .and .u64 (a:Int) (b:Int)=((a &&& b:Nat):Int):=by
 show IntKind.u64.wrap (((BitVec.ofInt 64 (a:Int) &&& BitVec.ofInt 64 (b:Int)).toNat:Nat):Int)=_
 rw [BitVec.toNat_and,BitVec.ofInt_natCast,BitVec.ofInt_natCast,BitVec.toNat_ofNat,BitVec.toNat_ofNat,Nat.mod_eq_of_lt ha,Nat.mod_eq_of_lt hb,C8]
 exact Nat.and_lt_two_pow _ hb
theorem sh13(x:Nat):IntKind.u64.wrap ((x:Int)*2 ^ (min (Int.toNat 13) IntKind.u64.bits))=((x*8192 % 18446744073709551616:Nat):Int):=by
 have:(2:Int) ^ (min (Int.toNat 13) IntKind.u64.bits)=8192:=by decide
 rw [this,IntKind.wrap_u64]
 omega
theorem sh17(x:Nat):IntKind.u64.wrap ((x:Int)*2 ^ (min (Int.toNat 17) IntKind.u64.bits))=((x*131072 % 18446744073709551616:Nat):Int):=by
 have:(2:Int) ^ (min (Int.toNat 17) IntKind.u64.bits)=131072:=by decide
 rw [this,IntKind.wrap_u64]
 omega
theorem sh7(x:Nat):Int.fdiv (x:Int) (2 ^ (min (Int.toNat 7) IntKind.u64.bits))=((x / 128:Nat):Int):=by
 have:(2:Int) ^ (min (Int.toNat 7) IntKind.u64.bits)=128:=by decide
 rw [this,Int.fdiv_eq_ediv_of_nonneg _ (by decide)]
 omega
theorem sh8(x:Nat):Int.fdiv (x:Int) (2 ^ (min (Int.toNat 8) IntKind.u64.bits))=((x / 256:Nat):Int):=by
 have:(2:Int) ^ (min (Int.toNat 8) IntKind.u64.bits)=256:=by decide
 rw [this,Int.fdiv_eq_ediv_of_nonneg _ (by decide)]
 omega
abbrev xsO(x:Nat):VO:=aq 185 [.sc (.int .u64 (x:Int))]
theorem Ab(x:Nat)(hx:x<18446744073709551616):Ctr Tryz.prog 120 [.ptr 0 0] [xsO x] (fun c=>c=⟨.sc (.int .u64 (Sort.xorNextN x:Int)),[some (xsO (Sort.xorNextN x))]⟩):=by
 have hA:x ^^^ (x*8192 % 18446744073709551616)<18446744073709551616:=Nat.xor_lt_two_pow (n:=64) (by omega) (by omega)
 have eA:=xorU (a:=x) (b:=x*8192 % 18446744073709551616) hx (by omega)
 have eC:Sort.xorNextN x=Sort.xorNextN x:=rfl
 conv at eC=>rhs;unfold Sort.xorNextN
 simp only at eC
 generalize x ^^^ (x*8192 % 18446744073709551616)=A at hA eA eC
 have hB:A ^^^ (A / 128)<18446744073709551616:=Nat.xor_lt_two_pow (n:=64) (by omega) (by omega)
 have eB:=xorU (a:=A) (b:=A / 128) hA (by omega)
 generalize A ^^^ (A / 128)=B at hB eB eC
 have eD:=xorU (a:=B) (b:=B*131072 % 18446744073709551616) hB (by omega)
 rw [← eC] at eD
 refine KE Tryz.func120 rfl rfl ?_
 repeat apply ah;rfl
 refine cu (by kernel_rfl) (by kernel_rfl) ?_
 repeat first|apply aW;rfl|refine bp (an (F.ag _ rfl) rfl rfl (aD rfl)) rfl rfl rfl ?_|refine dM rfl rfl rfl (F.sz _ rfl) rfl rfl rfl ?_|refine bp (sF rfl rfl (by decide) (sh13 x)) rfl rfl rfl ?_|refine bp (mO rfl rfl (.inr (.inr (.inl rfl))) eA) rfl rfl rfl ?_
 refine aA ⟨by kernel_rfl,?_,?_⟩;(focus(repeat(first|exact KO|apply fA;rfl|apply eQ;rfl|refine⟨.inl (by kernel_rfl),?_⟩)))
 repeat apply ah;rfl
 refine cu (by kernel_rfl) (by kernel_rfl) ?_
 repeat first|apply aW;rfl|refine bp (an (F.ag _ rfl) rfl rfl (aD rfl)) rfl rfl rfl ?_|refine dM rfl rfl rfl (F.sz _ rfl) rfl rfl rfl ?_|refine bp (oG rfl rfl (by decide) (sh7 A)) rfl rfl rfl ?_|refine bp (mO rfl rfl (.inr (.inr (.inl rfl))) eB) rfl rfl rfl ?_
 refine aA ⟨by kernel_rfl,?_,?_⟩;(focus(repeat(first|exact KO|apply fA;rfl|apply eQ;rfl|refine⟨.inl (by kernel_rfl),?_⟩)))
 repeat apply ah;rfl
 refine cu (by kernel_rfl) (by kernel_rfl) ?_
 repeat first|apply aW;rfl|refine bp (an (F.ag _ rfl) rfl rfl (aD rfl)) rfl rfl rfl ?_|refine dM rfl rfl rfl (F.sz _ rfl) rfl rfl rfl ?_|refine bp (sF rfl rfl (by decide) (sh17 B)) rfl rfl rfl ?_|refine bp (mO rfl rfl (.inr (.inr (.inl rfl))) eD) rfl rfl rfl ?_
 refine aA ⟨by kernel_rfl,?_,?_⟩;(focus(repeat(first|exact KO|apply fA;rfl|apply eQ;rfl|refine⟨.inl (by kernel_rfl),?_⟩)))
 repeat first|apply ah;rfl|apply aG;rfl;(focus((repeat(exact ac));done));rfl
 ((apply bw Tryz.func120 (congrArg Array.toList Tryz.results120));(focus(repeat(first|exact KF|apply KH rfl)));refine⟨_,rfl,Ends.mk [] (KC rfl) rfl rfl ?_⟩)
 exact(by repeat(first|exact KO|refine⟨fD rfl,?_⟩))
def Hl(s:ByteArray):Bool:=(List.range 256).all fun i=>match s[i]? with
 | some v=>v.toNat == Sort.bitsLen i
 | none=>false
theorem C9{s:ByteArray}(h:Hl s=true){i:Nat}(hi:i<256):s[i]? =some (UInt8.ofNat (Sort.bitsLen i)):=by
 unfold Hl at h
 rw [List.all_eq_true] at h
 have:=h i (Kw.2 hi)
 split at this
 ·rename_i v hv
  rw [hv,←(beq_iff_eq.1 this),UInt8.ofNat_toNat]
 ·cases this
theorem CB(x:Nat)(h:256≤x):Sort.bitsLen x=8+Sort.bitsLen (x / 256):=by
 have key: ∀ k,Sort.bitsLen (x / 256)≤k↔Sort.bitsLen x≤k+8:=fun k=>by
  rw [Sort.bitsLen_le_iff,Sort.bitsLen_le_iff,Nat.pow_add,Nat.div_lt_iff_lt_mul (by decide)]
 have h8: ¬ Sort.bitsLen x≤7:=by
  rw [Sort.bitsLen_le_iff]
  omega
 have h1:=(key (Sort.bitsLen (x / 256))).1 (JZ _)
 have h2:=(key (Sort.bitsLen x-8)).2 (by omega)
 omega
theorem qk{x:Nat}(h:x<65536):Sort.bitsLen x≤16:=(Sort.bitsLen_le_iff x 16).2 h
theorem Hj{x:Nat}(h:x<65536):IntKind.i64.wrap (((UInt8.ofNat (Sort.bitsLen x)).toNat:Nat):Int)=(Sort.bitsLen x:Int):=by
 have:=qk h
 rw [UInt8.toNat_ofNat',Nat.mod_eq_of_lt (by omega),JH _ ⟨by omega,by omega⟩]
theorem xV(x:Nat)(hx:x<65536):Ctr Tryz.prog 117 [.sc (.int .u64 (x:Int))] [] (fun c=>c=⟨.sc (.int .i64 (Sort.bitsLen x:Int)),[]⟩):=by
 have h16:=qk hx
 refine KE Tryz.func117 rfl rfl ?_
 repeat apply ah;rfl
 refine eK rfl rfl rfl rfl ?_ ?_
 all_goals intro h1
 ·exact absurd h1 (by omega)
 repeat apply ah;rfl
 refine eK rfl rfl rfl rfl ?_ ?_
 all_goals intro h2
 ·exact absurd h2 (by omega)
 repeat apply ah;rfl
 refine eK rfl rfl rfl rfl ?_ ?_
 all_goals intro h3
 ·have h17:=qk (x:=x / 256) (by omega)
  repeat first|apply ah;rfl|apply aL;rfl;omega;omega|refine cf (oG rfl rfl (by decide) (sh8 x)) rfl rfl rfl ?_|refine cf (bZ (F.un _ rfl) (F.un _ rfl) rfl (show _=((x / 256:Nat):Int)from Go.IntWalk.u8_in _ ⟨by omega,by omega⟩)) rfl rfl rfl ?_|refine cf (vP rfl rfl (F.un _ rfl) (C9 (by kernel_rfl) (show x / 256<256 by omega))) rfl rfl rfl ?_|refine cf (bZ (F.un _ rfl) (F.un _ rfl) rfl (Hj (x:=x / 256) (by omega))) rfl rfl rfl ?_
  rw [CB x (by omega)]
  (apply bR Tryz.func117 Tryz.results117;rfl)
  (refine⟨_,rfl,Ends.val (KC rfl) rfl ?_ ?_⟩)
  ·simp
  ·trivial
 ·repeat first|apply ah;rfl|apply aL;rfl;omega;omega|refine cf (bZ (F.un _ rfl) (F.un _ rfl) rfl (show _=(x:Int)from Go.IntWalk.u8_in _ ⟨by omega,by omega⟩)) rfl rfl rfl ?_|refine cf (vP rfl rfl (F.un _ rfl) (C9 (by kernel_rfl) (show x<256 by omega))) rfl rfl rfl ?_|refine cf (bZ (F.un _ rfl) (F.un _ rfl) rfl (Hj (x:=x) (by omega))) rfl rfl rfl ?_
  (apply bR Tryz.func117 Tryz.results117;rfl)
  (refine⟨_,rfl,Ends.val (KC rfl) rfl ?_ ?_⟩)
  ·simp
  ·trivial
theorem wu(x:Nat)(hx:x<65536):Ctr Tryz.prog 98 [.sc (.int .u64 (x:Int))] [] (fun c=>c=⟨.sc (.int .i64 (Sort.bitsLen x:Int)),[]⟩):=by
 refine KE Tryz.func98 rfl rfl ?_
 repeat first|apply ah;rfl|refine ow (xV x hx) [] rfl rfl rfl (by kernel_rfl) rfl (KC rfl) rfl trivial ?_
 (apply bR Tryz.func98 Tryz.results98;rfl)
 (refine⟨_,rfl,Ends.val (KC rfl) rfl ?_ ?_⟩)
 ·rfl
 ·trivial
theorem HJ{k:Nat}(h:k≤16):IntKind.u64.wrap ((1:Int)*2 ^ (min (Int.toNat (k:Int)) IntKind.u64.bits))=((2 ^ k:Nat):Int):=by
 have: ∀ k:Fin 17,IntKind.u64.wrap ((1:Int)*2 ^ (min (Int.toNat (k.val:Int)) IntKind.u64.bits))=((2 ^ k.val:Nat):Int):=by decide
 exact this ⟨k,by omega⟩
theorem zH(x:Nat)(hx:x<65536):Ctr Tryz.prog 119 [.sc (.int .i64 (x:Int))] [] (fun c=>c=⟨.sc (.int .u64 ((2 ^ Sort.bitsLen x:Nat):Int)),[]⟩):=by
 refine KE Tryz.func119 rfl rfl ?_
 repeat first|apply ah;rfl|refine cf (bZ (F.un _ rfl) (F.un _ rfl) rfl (show _=(x:Int)from Kz _ ⟨by omega,by omega⟩)) rfl rfl rfl ?_|refine ow (wu x hx) [] rfl rfl rfl (by kernel_rfl) rfl (KC rfl) rfl trivial ?_|refine cf (sF rfl rfl (by omega) (HJ (qk hx))) rfl rfl rfl ?_
 (apply bR Tryz.func119 Tryz.results119;rfl)
 (refine⟨_,rfl,Ends.val (KC rfl) rfl ?_ ?_⟩)
 ·rfl
 ·trivial
abbrev oIV:Int→List Value:=fun x=> [.int .i64 x]
abbrev cd(n:Nat)(d:Array Int):VO:=arr false n 1 3 oIV d
def bq(x y:Int):Bool:=decide ((x:Int)<(y:Int))
theorem oInan(a:Int):Ctr Tryz.prog 123 [.sc (.int .i64 a)] [] (fun c=>c=⟨.sc (.bool false),[]⟩):=by
 refine KE Tryz.func123 rfl rfl ?_
 repeat first|apply ah;rfl|refine cf (dy rfl rfl (.inr (.inl ⟨rfl,rfl⟩))) rfl rfl rfl ?_
 (apply bR Tryz.func123 Tryz.results123;rfl)
 (refine⟨_,rfl,Ends.val (KC rfl) rfl ?_ ?_⟩)
 ·simp
 ·trivial
theorem fW(a b:Int):Ctr Tryz.prog 113 [.sc (.int .i64 a),.sc (.int .i64 b)] [] (fun c=>c=⟨.sc (.bool (bq a b)),[]⟩):=by
 refine KE Tryz.func113 rfl rfl ?_
 repeat first|apply ah;rfl|refine ow (oInan _) [] rfl rfl rfl (by kernel_rfl) rfl (KC rfl) rfl trivial ?_|refine cf (dy rfl rfl (.inr (.inr (.inl ⟨rfl,rfl⟩)))) rfl rfl rfl ?_
 (apply bR Tryz.func113 Tryz.results113;rfl)
 (refine⟨_,rfl,Ends.val (KC rfl) rfl ?_ ?_⟩)
 ·rfl
 ·trivial
theorem oIins(n a b:Nat)(d:Array Int)(hn:n<4611686018427387904)(hd:d.size=n)(hab:a≤b)(hb:b≤n) :
 Ctr Tryz.prog 107 [.slu 0 0 n,.sc (.int .i64 (a:Int)),.sc (.int .i64 (b:Int))] [cd n d] (fun c=>c=⟨.tup [],[some (cd n (Sort.insertionSort bq d a b))]⟩):=by
 refine KE Tryz.func107 rfl rfl ?_
 repeat first|apply ah;rfl|apply aL;rfl;omega;omega
 refine gA 1 (fun s:Nat×Array Int=> [(0,.slu 0 0 n),(1,.sc (.int .i64 (a:Int))),(2,.sc (.int .i64 (b:Int))),(6,.sc (.int .i64 (s.1:Int)))]) (fun s=> [some (cd n s.2)]) (fun s=>s.1≤n+1∧a<s.1∧s.2.size=n∧Sort.insOuter bq a b s.1 s.2=Sort.insertionSort bq d a b) (fun s=>n+1-s.1) (a+1,d) []
  (fun _=>rfl) ⟨by omega,by omega,hd,rfl⟩ ?_ (fun _=>rfl) (fun _=>rfl) ?_
 ·(exact KM rfl rfl rfl ⟨aB rfl,trivial⟩)
 rintro⟨i,d1⟩ ⟨hi,hai,hd1,ho⟩ ih
 simp only at hi hai hd1 ho ih ⊢
 repeat apply ah;rfl
 refine bu rfl rfl rfl rfl ?_ ?_
 all_goals intro h1
 ·repeat apply ah;rfl
  have ho2:Sort.insOuter bq a b (i+1) (Sort.insInner bq a i d1)=Sort.insertionSort bq d a b:=by
   rw [← ho]
   conv=>rhs;rw [Sort.insOuter,Kb (by omega)]
  refine gA 1 (fun s:Nat×Array Int=> [(0,.slu 0 0 n),(1,.sc (.int .i64 (a:Int))),(2,.sc (.int .i64 (b:Int))),(6,.sc (.int .i64 (i:Int))),(7,.sc (.int .i64 (s.1:Int)))]) (fun s=> [some (cd n s.2)]) (fun s=>s.1≤i∧s.2.size=n∧Sort.insInner bq a s.1 s.2=Sort.insInner bq a i d1) (fun s=>s.1) (i,d1) []
   (fun _=>rfl) ⟨by omega,hd1,rfl⟩ ?_ (fun _=>rfl) (fun _=>rfl) ?_
  ·(exact KM rfl rfl rfl ⟨aB rfl,trivial⟩)
  rintro⟨j,d2⟩ ⟨hj,hd2,hin⟩ ihj
  simp only at hj hd2 hin ihj ⊢
  repeat apply ah;rfl
  refine cu (by kernel_rfl) (by kernel_rfl) ?_
  repeat apply aW;rfl
  refine fL rfl rfl rfl rfl ?_ ?_
  all_goals intro h2
  ·obtain⟨j,rfl⟩: ∃ j',j=j'+1:=⟨j-1,by omega⟩
   have hls:=fW d2[j+1]! d2[j]!
   cases h3:bq d2[j+1]! d2[j]!
   all_goals rw [h3] at hls
   all_goals(repeat(first|apply aW;rfl|refine bp (aw rfl rfl (.inr (.inl ⟨rfl,(JH _ ⟨(by omega),(by omega)⟩).symm⟩))) rfl rfl rfl ?_|refine aI (q:=j+1) rfl rfl rfl rfl (F.un _ rfl) (F.sz _ rfl) rfl (by omega) (by omega) (by omega) ?_|refine aI (q:=j) rfl rfl rfl rfl (F.un _ rfl) (F.sz _ rfl) rfl (by omega) (by omega) (by omega) ?_|refine cD (g:=fun x:Int=> .int .i64 x) rfl rfl rfl (F.ag _ rfl) rfl (by omega) (by omega) ?_|refine b9 rfl rfl rfl (by kernel_rfl) (Ctr.callV (hls) [] rfl (KC rfl) rfl trivial rfl) ?_))
   ·refine aA ⟨by kernel_rfl,?_,?_⟩;(focus(repeat(first|exact KO|apply fA;rfl|apply eQ;rfl|refine⟨.inr (by(repeat(refine⟨(by first|exact aO (F.un _ rfl) (F.sz _ rfl) rfl rfl rfl (by omega) (by omega) (by omega)|exact aw rfl rfl (.inr (.inl ⟨rfl,(JH _ ⟨by omega,by omega⟩).symm⟩))),?_⟩));exact KO),?_⟩|refine⟨.inl (by kernel_rfl),?_⟩)))
    repeat first|apply ah;rfl|apply aL;rfl;omega;omega
    have hin2:Sort.insInner bq a i d1=d2:=by
     rw [← hin,Sort.insInner,Ka (by rw [h3];simp)]
    refine ih _ _ _ (i+1,d2) [] ⟨by omega,by omega,hd2,by rw [← hin2];exact ho2⟩ (by simp only;omega) ?_
    (exact KM rfl rfl rfl ⟨aB rfl,trivial⟩)
   ·refine aA ⟨by kernel_rfl,?_,?_⟩;(focus(repeat(first|exact KO|apply fA;rfl|apply eQ;rfl|refine⟨.inr (by(repeat(refine⟨(by first|exact aO (F.un _ rfl) (F.sz _ rfl) rfl rfl rfl (by omega) (by omega) (by omega)|exact aw rfl rfl (.inr (.inl ⟨rfl,(JH _ ⟨by omega,by omega⟩).symm⟩))),?_⟩));exact KO),?_⟩|refine⟨.inl (by kernel_rfl),?_⟩)))
    repeat apply ah;rfl
    refine cu (by kernel_rfl) (by kernel_rfl) ?_
    repeat first|apply aW;rfl|refine bp (aw rfl rfl (.inr (.inl ⟨rfl,(JH _ ⟨(by omega),(by omega)⟩).symm⟩))) rfl rfl rfl ?_|refine aI (q:=j+1) rfl rfl rfl rfl (F.un _ rfl) (F.sz _ rfl) rfl (by omega) (by omega) (by omega) ?_|refine aI (q:=j) rfl rfl rfl rfl (F.un _ rfl) (F.sz _ rfl) rfl (by omega) (by omega) (by omega) ?_|refine cD (g:=fun x:Int=> .int .i64 x) rfl rfl rfl (F.ag _ rfl) rfl (by omega) (by omega) ?_|refine fv (g:=fun x:Int=> .int .i64 x) rfl rfl rfl (fun _=>rfl) (F.sz _ rfl) rfl (by first|omega|(simp only [JI,aP];omega)) (by first|omega|(simp only [JI,aP];omega)) ?_
    refine aA ⟨by kernel_rfl,?_,?_⟩;(focus(repeat(first|exact KO|apply fA;rfl|apply eQ;rfl|refine⟨.inr (by(repeat(refine⟨(by first|exact aO (F.un _ rfl) (F.sz _ rfl) rfl rfl rfl (by omega) (by omega) (by omega)|exact aw rfl rfl (.inr (.inl ⟨rfl,(JH _ ⟨by omega,by omega⟩).symm⟩))),?_⟩));exact KO),?_⟩|refine⟨.inl (by kernel_rfl),?_⟩)))
    repeat first|apply ah;rfl|apply aL;rfl;omega;omega
    refine ihj _ _ _ (j,Sort.swp d2 (j+1) j) [] ⟨by omega,by rw [aP];exact hd2,?_⟩ (by simp only;omega) ?_
    ·rw [← hin]
     conv=>rhs;rw [Sort.insInner,Kb (by simp only [h3,JY,KB,and_true];omega)]
    ·(refine⟨(KC rfl),rfl,(by repeat(first|exact KO|refine⟨rfl,?_⟩|refine⟨fU (by(omega)),?_⟩)),⟨aB rfl,trivial⟩⟩)
  ·repeat first|apply aW;rfl|refine cy rfl rfl ?_
   refine aA ⟨by kernel_rfl,?_,?_⟩;(focus(repeat(first|exact KO|apply Bd;rfl|apply eQ;rfl|refine⟨.inl rfl,?_⟩)))
   repeat first|apply ah;rfl|apply aL;rfl;omega;omega
   have hin2:Sort.insInner bq a i d1=d2:=by
    rw [← hin]
    cases j with
    | zero=>rfl
    | succ j=>rw [Sort.insInner,Ka (by simp only [JY,KB];omega)]
   refine ih _ _ _ (i+1,d2) [] ⟨by omega,by omega,hd2,by rw [← hin2];exact ho2⟩ (by simp only;omega) ?_
   (exact KM rfl rfl rfl ⟨aB rfl,trivial⟩)
 ·repeat apply ah;rfl
  have ho2:d1=Sort.insertionSort bq d a b:=by rw [← ho,Sort.insOuter,Ka (by omega)]
  (apply qw Tryz.func107 (congrArg Array.toList Tryz.results107);(focus(repeat(exact KF)));refine⟨_,rfl,Ends.mk [] (KC rfl) rfl rfl ?_⟩)
  rw [← ho2]
  exact⟨aB rfl,trivial⟩
end Go.Proofs.YtnhmbonmlfeifaaGreat
end
section
namespace Go.Proofs.YtnhmbonmlfeifaaGreat
open Go Go.Sy Go.RowKit
section
variable {a b first hi i i1 i2 j j2 limit mid pivot root s:Nat}{wb wp:Bool}{p:Int→Bool}{d:Array (Int)}{lt:Int→Int→Bool}
theorem jw(lt:Int→Int→Bool)(hi first root:Nat)(d:Array (Int)):(Sort.siftDown lt hi first root d).size=d.size:=by
 induction h:hi-root using Nat.strongRecOn generalizing root d with
 | _ m ih=>
   subst h
   unfold Sort.siftDown
   split
   ·rfl
   ·split
    ·split
     ·rfl
     ·split
      ·rw [ih _ (by omega) _ _ rfl,aP]
      ·rfl
    ·split
     ·rfl
     ·rw [ih _ (by omega) _ _ rfl,aP]
theorem sS(h:hi≤2*root+1):Sort.siftDown lt hi first root d=d:=by
 unfold Sort.siftDown
 rw [dif_pos h]
theorem zZ(h:2*root+2<hi)(hl:lt d[first+(2*root+1)]! d[first+(2*root+2)]! =true) :
 Sort.siftDown lt hi first root d=if lt d[first+root]! d[first+(2*root+2)]! =true then Sort.siftDown lt hi first (2*root+2) (Sort.swp d (first+root) (first+(2*root+2))) else d:=by
 conv=>lhs;unfold Sort.siftDown
 rw [dif_neg (by omega),Kb (by simp only [JY,KB];exact⟨by omega,hl⟩)]
 cases lt d[first+root]! d[first+(2*root+2)]!
 ·simp
 ·simp only [Bool.not_true,Bool.false_eq_true,if_false,if_true]
  rw [dif_pos (by omega)]
theorem sT(h:2*root+1<hi)(hl:hi≤2*root+2∨lt d[first+(2*root+1)]! d[first+(2*root+2)]! =false) :
 Sort.siftDown lt hi first root d=if lt d[first+root]! d[first+(2*root+1)]! =true then Sort.siftDown lt hi first (2*root+1) (Sort.swp d (first+root) (first+(2*root+1))) else d:=by
 conv=>lhs;unfold Sort.siftDown
 rw [dif_neg (by omega),Ka (by
  simp only [JY,KB]
  rintro⟨h1,h2⟩
  rcases hl with hl|hl
  ·omega
  ·rw [show first+(2*root+2)=first+(2*root+1)+1 by omega,h2] at hl;cases hl)]
 cases lt d[first+root]! d[first+(2*root+1)]! <;> simp
theorem ny(n lo hi first:Nat)(d:Array (Int))(hn:n<4611686018427387904)(hd:d.size=n)(hf:first+hi≤n)(hlo:lo≤n) :
 Ctr Tryz.prog 118 [.slu 0 0 n,.sc (.int .i64 (lo:Int)),.sc (.int .i64 (hi:Int)),.sc (.int .i64 (first:Int))] [cd n d] (fun c=>c=⟨.tup [],[some (cd n (Sort.siftDown bq hi first lo d))]⟩):=by
 refine KE Tryz.func118 rfl rfl ?_
 repeat apply ah;rfl
 refine gA 1 (fun s:Nat×Array (Int)=> [(0,.slu 0 0 n),(2,.sc (.int .i64 (hi:Int))),(3,.sc (.int .i64 (first:Int))),(8,.sc (.int .i64 (s.1:Int)))]) (fun s=> [some (cd n s.2)]) (fun s=>s.1≤n∧s.2.size=n∧Sort.siftDown bq hi first s.1 s.2=Sort.siftDown bq hi first lo d) (fun s=>n-s.1) (lo,d) []
  (fun _=>rfl) ⟨hlo,hd,rfl⟩ ?_ (fun _=>rfl) (fun _=>rfl) ?_
 ·(exact KM rfl rfl rfl ⟨aB rfl,trivial⟩)
 rintro⟨r,d1⟩ ⟨hr,hd1,ho⟩ ih
 simp only at hr hd1 ho ih ⊢
 repeat first|apply ah;rfl|apply aL;rfl;omega;omega
 refine eK rfl rfl rfl rfl ?_ ?_
 all_goals intro h1
 ·repeat apply ah;rfl
  ((apply qw Tryz.func118 (congrArg Array.toList Tryz.results118));(focus(repeat(exact KF)));refine⟨_,rfl,Ends.mk [] (KC rfl) rfl rfl ?_⟩)
  rw [← ho,sS (by omega)]
  exact⟨aB rfl,trivial⟩
 ·repeat apply ah;rfl
  refine cu (by kernel_rfl) (by kernel_rfl) ?_
  repeat first|apply aW;rfl|refine bp (aw rfl rfl (.inl ⟨rfl,(JH _ ⟨(by omega),(by omega)⟩).symm⟩)) rfl rfl rfl ?_
  refine cW rfl rfl rfl rfl ?_ ?_
  all_goals intro h2
  ·have hls_h3:=fW (d1[first+(2*r+1)]!) (d1[first+(2*r+2)]!)
   cases h3:bq (d1[first+(2*r+1)]!) (d1[first+(2*r+2)]!)
   all_goals rw [h3] at hls_h3
   rotate_left
   all_goals(repeat(first|apply aW;rfl|refine bp (aw rfl rfl (.inl ⟨rfl,(JH _ ⟨(by omega),(by omega)⟩).symm⟩)) rfl rfl rfl ?_|refine cD (g:=fun x:Int=> .int .i64 x) rfl rfl rfl (F.ag _ rfl) rfl (by(omega)) (by(omega)) ?_|refine aI (q:=first+(2*r+1)) rfl rfl rfl rfl (F.un _ rfl) (F.sz _ rfl) rfl (by omega) (by omega) (by omega) ?_|refine aI (q:=first+(2*r+2)) rfl rfl rfl rfl (F.un _ rfl) (F.sz _ rfl) rfl (by omega) (by omega) (by omega) ?_|refine b9 rfl rfl rfl (by kernel_rfl) (Ctr.callV (hls_h3) [] rfl (KC rfl) rfl trivial rfl) ?_))
   ·have e:=zZ (lt:=bq) (hi:=hi) (first:=first) (root:=r) (d:=d1) (by omega) (by simpa [bq] using h3)
    refine aA ⟨by kernel_rfl,?_,?_⟩;(focus(repeat(first|exact KO|apply fA;rfl|apply eQ;rfl|refine⟨.inr (by(repeat(refine⟨(by first|exact aO (F.un _ rfl) (F.sz _ rfl) rfl rfl rfl (by omega) (by omega) (by omega)|exact aw rfl rfl (.inl ⟨rfl,(JH _ ⟨by omega,by omega⟩).symm⟩)),?_⟩));exact KO),?_⟩|refine⟨.inl (by kernel_rfl),?_⟩)))
    repeat first|apply ah;rfl|apply aL;rfl;omega;omega
    refine cu (by kernel_rfl) (by kernel_rfl) ?_
    have hls_h4:=fW (d1[first+r]!) (d1[first+(2*r+2)]!)
    cases h4:bq (d1[first+r]!) (d1[first+(2*r+2)]!)
    all_goals rw [h4] at hls_h4
    rotate_left
    all_goals(repeat(first|apply aW;rfl|refine bp (aw rfl rfl (.inl ⟨rfl,(JH _ ⟨(by omega),(by omega)⟩).symm⟩)) rfl rfl rfl ?_|refine cD (g:=fun x:Int=> .int .i64 x) rfl rfl rfl (F.ag _ rfl) rfl (by(omega)) (by(omega)) ?_|refine aI (q:=first+r) rfl rfl rfl rfl (F.un _ rfl) (F.sz _ rfl) rfl (by omega) (by omega) (by omega) ?_|refine aI (q:=first+(2*r+2)) rfl rfl rfl rfl (F.un _ rfl) (F.sz _ rfl) rfl (by omega) (by omega) (by omega) ?_|refine b9 rfl rfl rfl (by kernel_rfl) (Ctr.callV (hls_h4) [] rfl (KC rfl) rfl trivial rfl) ?_))
    ·rw [Kb (by simpa [bq] using h4)] at e
     refine aA ⟨by kernel_rfl,?_,?_⟩;(focus(repeat(first|exact KO|apply fA;rfl|apply eQ;rfl|refine⟨.inr (by(repeat(refine⟨(by first|exact aO (F.un _ rfl) (F.sz _ rfl) rfl rfl rfl (by omega) (by omega) (by omega)|exact aw rfl rfl (.inl ⟨rfl,(JH _ ⟨by omega,by omega⟩).symm⟩)),?_⟩));exact KO),?_⟩|refine⟨.inl (by kernel_rfl),?_⟩)))
     repeat apply ah;rfl
     refine cu (by kernel_rfl) (by kernel_rfl) ?_
     repeat first|apply aW;rfl|refine bp (aw rfl rfl (.inl ⟨rfl,(JH _ ⟨(by omega),(by omega)⟩).symm⟩)) rfl rfl rfl ?_|refine cD (g:=fun x:Int=> .int .i64 x) rfl rfl rfl (F.ag _ rfl) rfl (by(omega)) (by(omega)) ?_|refine fv (g:=fun x:Int=> .int .i64 x) rfl rfl rfl (fun _=>rfl) (F.sz _ rfl) rfl (by first|omega|(simp only [JI,aP];omega)) (by first|omega|(simp only [JI,aP];omega)) ?_|refine aI (q:=first+r) rfl rfl rfl rfl (F.un _ rfl) (F.sz _ rfl) rfl (by omega) (by omega) (by omega) ?_|refine aI (q:=first+(2*r+2)) rfl rfl rfl rfl (F.un _ rfl) (F.sz _ rfl) rfl (by omega) (by omega) (by omega) ?_
     refine aA ⟨by kernel_rfl,?_,?_⟩;(focus(repeat(first|exact KO|apply fA;rfl|apply eQ;rfl|refine⟨.inr (by(repeat(refine⟨(by first|exact aO (F.un _ rfl) (F.sz _ rfl) rfl rfl rfl (by omega) (by omega) (by omega)|exact aw rfl rfl (.inl ⟨rfl,(JH _ ⟨by omega,by omega⟩).symm⟩)),?_⟩));exact KO),?_⟩|refine⟨.inl (by kernel_rfl),?_⟩)))
     repeat apply ah;rfl
     refine ih _ _ _ (2*r+2,Sort.swp d1 (first+r) (first+(2*r+2))) [] ⟨by simp only;omega,by rw [aP];exact hd1,by rw [← ho,e]⟩ (by simp only;omega) ?_
     (exact KM rfl rfl rfl ⟨aB rfl,trivial⟩)
    ·rw [Ka (by simpa [bq] using h4)] at e
     refine aA ⟨by kernel_rfl,?_,?_⟩;(focus(repeat(first|exact KO|apply fA;rfl|apply eQ;rfl|refine⟨.inr (by(repeat(refine⟨(by first|exact aO (F.un _ rfl) (F.sz _ rfl) rfl rfl rfl (by omega) (by omega) (by omega)|exact aw rfl rfl (.inl ⟨rfl,(JH _ ⟨by omega,by omega⟩).symm⟩)),?_⟩));exact KO),?_⟩|refine⟨.inl (by kernel_rfl),?_⟩)))
     repeat apply ah;rfl
     ((apply bw Tryz.func118 (congrArg Array.toList Tryz.results118));(focus(repeat(exact KF)));refine⟨_,rfl,Ends.mk [] (KC rfl) rfl rfl ?_⟩)
     rw [← ho,e]
     exact⟨aB rfl,trivial⟩
   ·have e:=sT (lt:=bq) (hi:=hi) (first:=first) (root:=r) (d:=d1) (by omega) (.inr (by simpa [bq] using h3))
    refine aA ⟨by kernel_rfl,?_,?_⟩;(focus(repeat(first|exact KO|apply fA;rfl|apply eQ;rfl|refine⟨.inr (by(repeat(refine⟨(by first|exact aO (F.un _ rfl) (F.sz _ rfl) rfl rfl rfl (by omega) (by omega) (by omega)|exact aw rfl rfl (.inl ⟨rfl,(JH _ ⟨by omega,by omega⟩).symm⟩)),?_⟩));exact KO),?_⟩|refine⟨.inl (by kernel_rfl),?_⟩)))
    repeat apply ah;rfl
    refine cu (by kernel_rfl) (by kernel_rfl) ?_
    have hls_h4:=fW (d1[first+r]!) (d1[first+(2*r+1)]!)
    cases h4:bq (d1[first+r]!) (d1[first+(2*r+1)]!)
    all_goals rw [h4] at hls_h4
    rotate_left
    all_goals(repeat(first|apply aW;rfl|refine bp (aw rfl rfl (.inl ⟨rfl,(JH _ ⟨(by omega),(by omega)⟩).symm⟩)) rfl rfl rfl ?_|refine cD (g:=fun x:Int=> .int .i64 x) rfl rfl rfl (F.ag _ rfl) rfl (by(omega)) (by(omega)) ?_|refine aI (q:=first+r) rfl rfl rfl rfl (F.un _ rfl) (F.sz _ rfl) rfl (by omega) (by omega) (by omega) ?_|refine aI (q:=first+(2*r+1)) rfl rfl rfl rfl (F.un _ rfl) (F.sz _ rfl) rfl (by omega) (by omega) (by omega) ?_|refine b9 rfl rfl rfl (by kernel_rfl) (Ctr.callV (hls_h4) [] rfl (KC rfl) rfl trivial rfl) ?_))
    ·rw [Kb (by simpa [bq] using h4)] at e
     refine aA ⟨by kernel_rfl,?_,?_⟩;(focus(repeat(first|exact KO|apply fA;rfl|apply eQ;rfl|refine⟨.inr (by(repeat(refine⟨(by first|exact aO (F.un _ rfl) (F.sz _ rfl) rfl rfl rfl (by omega) (by omega) (by omega)|exact aw rfl rfl (.inl ⟨rfl,(JH _ ⟨by omega,by omega⟩).symm⟩)),?_⟩));exact KO),?_⟩|refine⟨.inl (by kernel_rfl),?_⟩)))
     repeat apply ah;rfl
     refine cu (by kernel_rfl) (by kernel_rfl) ?_
     repeat first|apply aW;rfl|refine bp (aw rfl rfl (.inl ⟨rfl,(JH _ ⟨(by omega),(by omega)⟩).symm⟩)) rfl rfl rfl ?_|refine cD (g:=fun x:Int=> .int .i64 x) rfl rfl rfl (F.ag _ rfl) rfl (by(omega)) (by(omega)) ?_|refine fv (g:=fun x:Int=> .int .i64 x) rfl rfl rfl (fun _=>rfl) (F.sz _ rfl) rfl (by first|omega|(simp only [JI,aP];omega)) (by first|omega|(simp only [JI,aP];omega)) ?_|refine aI (q:=first+r) rfl rfl rfl rfl (F.un _ rfl) (F.sz _ rfl) rfl (by omega) (by omega) (by omega) ?_|refine aI (q:=first+(2*r+1)) rfl rfl rfl rfl (F.un _ rfl) (F.sz _ rfl) rfl (by omega) (by omega) (by omega) ?_
     refine aA ⟨by kernel_rfl,?_,?_⟩;(focus(repeat(first|exact KO|apply fA;rfl|apply eQ;rfl|refine⟨.inr (by(repeat(refine⟨(by first|exact aO (F.un _ rfl) (F.sz _ rfl) rfl rfl rfl (by omega) (by omega) (by omega)|exact aw rfl rfl (.inl ⟨rfl,(JH _ ⟨by omega,by omega⟩).symm⟩)),?_⟩));exact KO),?_⟩|refine⟨.inl (by kernel_rfl),?_⟩)))
     repeat apply ah;rfl
     refine ih _ _ _ (2*r+1,Sort.swp d1 (first+r) (first+(2*r+1))) [] ⟨by simp only;omega,by rw [aP];exact hd1,by rw [← ho,e]⟩ (by simp only;omega) ?_
     (exact KM rfl rfl rfl ⟨aB rfl,trivial⟩)
    ·rw [Ka (by simpa [bq] using h4)] at e
     refine aA ⟨by kernel_rfl,?_,?_⟩;(focus(repeat(first|exact KO|apply fA;rfl|apply eQ;rfl|refine⟨.inr (by(repeat(refine⟨(by first|exact aO (F.un _ rfl) (F.sz _ rfl) rfl rfl rfl (by omega) (by omega) (by omega)|exact aw rfl rfl (.inl ⟨rfl,(JH _ ⟨by omega,by omega⟩).symm⟩)),?_⟩));exact KO),?_⟩|refine⟨.inl (by kernel_rfl),?_⟩)))
     repeat apply ah;rfl
     ((apply bw Tryz.func118 (congrArg Array.toList Tryz.results118));(focus(repeat(exact KF)));refine⟨_,rfl,Ends.mk [] (KC rfl) rfl rfl ?_⟩)
     rw [← ho,e]
     exact⟨aB rfl,trivial⟩
  ·have e:=sT (lt:=bq) (hi:=hi) (first:=first) (root:=r) (d:=d1) (by omega) (.inl (by omega))
   repeat first|apply aW;rfl|refine cy rfl rfl ?_
   refine aA ⟨by kernel_rfl,?_,?_⟩;(focus(repeat(first|exact KO|apply Bd;rfl|apply eQ;rfl|refine⟨.inl rfl,?_⟩)))
   repeat apply ah;rfl
   refine cu (by kernel_rfl) (by kernel_rfl) ?_
   have hls_h4:=fW (d1[first+r]!) (d1[first+(2*r+1)]!)
   cases h4:bq (d1[first+r]!) (d1[first+(2*r+1)]!)
   all_goals rw [h4] at hls_h4
   rotate_left
   all_goals(repeat(first|apply aW;rfl|refine bp (aw rfl rfl (.inl ⟨rfl,(JH _ ⟨(by omega),(by omega)⟩).symm⟩)) rfl rfl rfl ?_|refine cD (g:=fun x:Int=> .int .i64 x) rfl rfl rfl (F.ag _ rfl) rfl (by(omega)) (by(omega)) ?_|refine aI (q:=first+r) rfl rfl rfl rfl (F.un _ rfl) (F.sz _ rfl) rfl (by omega) (by omega) (by omega) ?_|refine aI (q:=first+(2*r+1)) rfl rfl rfl rfl (F.un _ rfl) (F.sz _ rfl) rfl (by omega) (by omega) (by omega) ?_|refine b9 rfl rfl rfl (by kernel_rfl) (Ctr.callV (hls_h4) [] rfl (KC rfl) rfl trivial rfl) ?_))
   ·rw [Kb (by simpa [bq] using h4)] at e
    refine aA ⟨by kernel_rfl,?_,?_⟩;(focus(repeat(first|exact KO|apply fA;rfl|apply eQ;rfl|refine⟨.inr (by(repeat(refine⟨(by first|exact aO (F.un _ rfl) (F.sz _ rfl) rfl rfl rfl (by omega) (by omega) (by omega)|exact aw rfl rfl (.inl ⟨rfl,(JH _ ⟨by omega,by omega⟩).symm⟩)),?_⟩));exact KO),?_⟩|refine⟨.inl (by kernel_rfl),?_⟩)))
    repeat apply ah;rfl
    refine cu (by kernel_rfl) (by kernel_rfl) ?_
    repeat first|apply aW;rfl|refine bp (aw rfl rfl (.inl ⟨rfl,(JH _ ⟨(by omega),(by omega)⟩).symm⟩)) rfl rfl rfl ?_|refine cD (g:=fun x:Int=> .int .i64 x) rfl rfl rfl (F.ag _ rfl) rfl (by(omega)) (by(omega)) ?_|refine fv (g:=fun x:Int=> .int .i64 x) rfl rfl rfl (fun _=>rfl) (F.sz _ rfl) rfl (by first|omega|(simp only [JI,aP];omega)) (by first|omega|(simp only [JI,aP];omega)) ?_|refine aI (q:=first+r) rfl rfl rfl rfl (F.un _ rfl) (F.sz _ rfl) rfl (by omega) (by omega) (by omega) ?_|refine aI (q:=first+(2*r+1)) rfl rfl rfl rfl (F.un _ rfl) (F.sz _ rfl) rfl (by omega) (by omega) (by omega) ?_
    refine aA ⟨by kernel_rfl,?_,?_⟩;(focus(repeat(first|exact KO|apply fA;rfl|apply eQ;rfl|refine⟨.inr (by(repeat(refine⟨(by first|exact aO (F.un _ rfl) (F.sz _ rfl) rfl rfl rfl (by omega) (by omega) (by omega)|exact aw rfl rfl (.inl ⟨rfl,(JH _ ⟨by omega,by omega⟩).symm⟩)),?_⟩));exact KO),?_⟩|refine⟨.inl (by kernel_rfl),?_⟩)))
    repeat apply ah;rfl
    refine ih _ _ _ (2*r+1,Sort.swp d1 (first+r) (first+(2*r+1))) [] ⟨by simp only;omega,by rw [aP];exact hd1,by rw [← ho,e]⟩ (by simp only;omega) ?_
    (exact KM rfl rfl rfl ⟨aB rfl,trivial⟩)
   ·rw [Ka (by simpa [bq] using h4)] at e
    refine aA ⟨by kernel_rfl,?_,?_⟩;(focus(repeat(first|exact KO|apply fA;rfl|apply eQ;rfl|refine⟨.inr (by(repeat(refine⟨(by first|exact aO (F.un _ rfl) (F.sz _ rfl) rfl rfl rfl (by omega) (by omega) (by omega)|exact aw rfl rfl (.inl ⟨rfl,(JH _ ⟨by omega,by omega⟩).symm⟩)),?_⟩));exact KO),?_⟩|refine⟨.inl (by kernel_rfl),?_⟩)))
    repeat apply ah;rfl
    ((apply bw Tryz.func118 (congrArg Array.toList Tryz.results118));(focus(repeat(exact KF)));refine⟨_,rfl,Ends.mk [] (KC rfl) rfl rfl ?_⟩)
    rw [← ho,e]
    exact⟨aB rfl,trivial⟩
theorem sZ(n a b:Nat)(d:Array (Int))(hn:n<4611686018427387904)(hd:d.size=n)(hab:a≤b)(hb:b≤n) :
 Ctr Tryz.prog 108 [.slu 0 0 n,.sc (.int .i64 (a:Int)),.sc (.int .i64 (b:Int))] [cd n d] (fun c=>c=⟨.tup [],[some (cd n (Sort.heapSort bq d a b))]⟩):=by
 refine KE Tryz.func108 rfl rfl ?_
 repeat first|apply ah;rfl|apply aL;rfl;omega;omega
 refine cf (pX rfl rfl (by decide) (show _=(((b-a-1) / 2:Nat):Int)from BO (m:=b-a) (by omega) (by omega))) rfl rfl rfl ?_
 repeat apply ah;rfl
 refine gA 1 (fun s:Nat×Array (Int)=> [(0,.slu 0 0 n),(6,.sc (.int .i64 (a:Int))),(7,.sc (.int .i64 0)),(8,.sc (.int .i64 ((b-a:Nat):Int))),(9,.sc (.int .i64 ((s.1:Int)-1)))]) (fun s=> [some (cd n s.2)]) (fun s=>s.1≤(b-a-1) / 2+1∧s.2.size=n∧Sort.heapBuild bq (b-a) a s.1 s.2=Sort.heapBuild bq (b-a) a ((b-a-1) / 2+1) d) (fun s=>s.1) ((b-a-1) / 2+1,d) []
  (fun _=>rfl) ⟨JZ _,hd,rfl⟩ ?_ (fun _=>rfl) (fun _=>rfl) ?_
 ·(refine⟨(KC rfl),rfl,(by repeat(first|exact KO|refine⟨rfl,?_⟩|refine⟨fU (by(omega)),?_⟩)),⟨aB rfl,trivial⟩⟩)
 rintro⟨k,d1⟩ ⟨hk,hd1,ho⟩ ih
 simp only at hk hd1 ho ih ⊢
 repeat apply ah;rfl
 refine eK rfl rfl rfl rfl ?_ ?_
 all_goals intro h1
 ·obtain⟨k,rfl⟩: ∃ k',k=k'+1:=⟨k-1,by omega⟩
  have ek:((k+1:Nat):Int)-1=(k:Int):=by omega
  rw [ek]
  repeat first|apply ah;rfl|apply aL;rfl;omega;omega|refine cp rfl rfl rfl (by kernel_rfl) (Ctr.dY (ny n k (b-a) a d1 hn hd1 (by omega) (by omega)) [0] rfl (KC rfl) rfl ⟨aB rfl,trivial⟩ rfl (by repeat(first|exact KO|refine⟨bO,?_⟩)) (fun _=>rfl) rfl rfl) ?_
  refine ih _ _ _ (k,Sort.siftDown bq (b-a) a k d1) [] ⟨by simp only;omega,by rw [jw];exact hd1,by rw [← ho];rfl⟩ (by simp only;omega) ?_
  (exact KM rfl rfl rfl ⟨aB rfl,trivial⟩)
 ·obtain rfl:k=0:=by omega
  have ho1:d1=Sort.heapBuild bq (b-a) a ((b-a-1) / 2+1) d:=ho
  repeat first|apply ah;rfl|apply aL;rfl;omega;omega
  refine gA 1 (fun s:Nat×Array (Int)=> [(0,.slu 0 0 n),(6,.sc (.int .i64 (a:Int))),(7,.sc (.int .i64 0)),(10,.sc (.int .i64 ((s.1:Int)-1)))]) (fun s=> [some (cd n s.2)]) (fun s=>s.1≤b-a∧s.2.size=n∧Sort.heapPop bq a s.1 s.2=Sort.heapSort bq d a b) (fun s=>s.1) (b-a,d1) []
   (fun _=>rfl) ⟨JZ _,hd1,by rw [ho1];rfl⟩ ?_ (fun _=>rfl) (fun _=>rfl) ?_
  ·(exact KM rfl rfl rfl ⟨aB rfl,trivial⟩)
  rintro⟨m,d2⟩ ⟨hm,hd2,hp⟩ ihm
  simp only at hm hd2 hp ihm ⊢
  repeat apply ah;rfl
  refine eK rfl rfl rfl rfl ?_ ?_
  all_goals intro h2
  ·obtain⟨m,rfl⟩: ∃ m',m=m'+1:=⟨m-1,by omega⟩
   have em:((m+1:Nat):Int)-1=(m:Int):=by omega
   rw [em]
   repeat apply ah;rfl
   refine cu (by kernel_rfl) (by kernel_rfl) ?_
   repeat first|apply aW;rfl|refine bp (aw rfl rfl (.inl ⟨rfl,(JH _ ⟨(by omega),(by omega)⟩).symm⟩)) rfl rfl rfl ?_|refine cD (g:=fun x:Int=> .int .i64 x) rfl rfl rfl (F.ag _ rfl) rfl (by(omega)) (by(omega)) ?_|refine fv (g:=fun x:Int=> .int .i64 x) rfl rfl rfl (fun _=>rfl) (F.sz _ rfl) rfl (by first|omega|(simp only [JI,aP];omega)) (by first|omega|(simp only [JI,aP];omega)) ?_|refine aI (q:=a) rfl rfl rfl rfl (F.un _ rfl) (F.sz _ rfl) rfl (by omega) (by omega) (by omega) ?_|refine aI (q:=a+m) rfl rfl rfl rfl (F.un _ rfl) (F.sz _ rfl) rfl (by omega) (by omega) (by omega) ?_
   refine aA ⟨by kernel_rfl,?_,?_⟩;(focus(repeat(first|exact KO|apply fA;rfl|apply eQ;rfl|refine⟨.inr (by(repeat(refine⟨(by first|exact aO (F.un _ rfl) (F.sz _ rfl) rfl rfl rfl (by omega) (by omega) (by omega)|exact aw rfl rfl (.inl ⟨rfl,(JH _ ⟨by omega,by omega⟩).symm⟩)),?_⟩));exact KO),?_⟩|refine⟨.inl (by kernel_rfl),?_⟩)))
   repeat first|apply ah;rfl|apply aL;rfl;omega;omega|refine cp rfl rfl rfl (by kernel_rfl) (Ctr.dY (ny n 0 m a (Sort.swp d2 a (a+m)) hn (by rw [aP];exact hd2) (by omega) (by omega)) [0] rfl (KC rfl) rfl ⟨aB rfl,trivial⟩ rfl (by repeat(first|exact KO|refine⟨bO,?_⟩)) (fun _=>rfl) rfl rfl) ?_
   refine ihm _ _ _ (m,Sort.siftDown bq m a 0 (Sort.swp d2 a (a+m))) [] ⟨by simp only;omega,by rw [jw,aP];exact hd2,by rw [← hp];rfl⟩ (by simp only;omega) ?_
   (exact KM rfl rfl rfl ⟨aB rfl,trivial⟩)
  ·obtain rfl:m=0:=by omega
   repeat apply ah;rfl
   ((apply qw Tryz.func108 (congrArg Array.toList Tryz.results108));(focus(repeat(exact KF)));refine⟨_,rfl,Ends.mk [] (KC rfl) rfl rfl ?_⟩)
   rw [← hp]
   exact⟨aB rfl,trivial⟩
theorem uH(n a b:Nat)(d:Array (Int))(hn:n<4611686018427387904)(hd:d.size=n)(hab:a<b)(hb:b≤n) :
 Ctr Tryz.prog 111 [.slu 0 0 n,.sc (.int .i64 (a:Int)),.sc (.int .i64 (b:Int))] [cd n d] (fun c=>c=⟨.tup [],[some (cd n (Sort.reverseRange d a b))]⟩):=by
 refine KE Tryz.func111 rfl rfl ?_
 repeat first|apply ah;rfl|apply aL;rfl;omega;omega
 refine gA 1 (fun s:(Nat×Nat)×Array (Int)=> [(0,.slu 0 0 n),(6,.sc (.int .i64 (s.1.1:Int))),(7,.sc (.int .i64 (s.1.2:Int)))]) (fun s=> [some (cd n s.2)]) (fun s=>s.1.1≤n∧s.1.2<n∧s.1.1≤s.1.2+1∧s.2.size=n∧Sort.reverseLoop s.1.1 s.1.2 s.2=Sort.reverseRange d a b) (fun s=>s.1.2+1-s.1.1) ((a,b-1),d) []
  (fun _=>rfl) ⟨by simp only;omega,by simp only;omega,by simp only;omega,hd,rfl⟩ ?_ (fun _=>rfl) (fun _=>rfl) ?_
 ·(refine⟨(KC rfl),rfl,(by repeat(first|exact KO|refine⟨rfl,?_⟩|refine⟨fU (by(simp only;omega)),?_⟩)),⟨aB rfl,trivial⟩⟩)
 rintro⟨⟨i,j⟩,d1⟩ ⟨hi,hj,hij,hd1,ho⟩ ih
 simp only at hi hj hij hd1 ho ih ⊢
 repeat apply ah;rfl
 refine bu rfl rfl rfl rfl ?_ ?_
 all_goals intro h1
 ·repeat apply ah;rfl
  refine cu (by kernel_rfl) (by kernel_rfl) ?_
  repeat first|apply aW;rfl|refine cD (g:=fun x:Int=> .int .i64 x) rfl rfl rfl (F.ag _ rfl) rfl (by(omega)) (by(omega)) ?_|refine fv (g:=fun x:Int=> .int .i64 x) rfl rfl rfl (fun _=>rfl) (F.sz _ rfl) rfl (by first|omega|(simp only [JI,aP];omega)) (by first|omega|(simp only [JI,aP];omega)) ?_|refine aI (q:=i) rfl rfl rfl rfl (F.un _ rfl) (F.sz _ rfl) rfl (by omega) (by omega) (by omega) ?_|refine aI (q:=j) rfl rfl rfl rfl (F.un _ rfl) (F.sz _ rfl) rfl (by omega) (by omega) (by omega) ?_
  refine aA ⟨by kernel_rfl,?_,?_⟩;(focus(repeat(first|exact KO|apply fA;rfl|apply eQ;rfl|refine⟨.inr (by(repeat(refine⟨(by(exact aO (F.un _ rfl) (F.sz _ rfl) rfl rfl rfl (by omega) (by omega) (by omega))),?_⟩));exact KO),?_⟩|refine⟨.inl (by kernel_rfl),?_⟩)))
  repeat first|apply ah;rfl|apply aL;rfl;omega;omega
  refine ih _ _ _ ((i+1,j-1),Sort.swp d1 i j) [] ⟨by simp only;omega,by simp only;omega,by simp only;omega,by rw [aP];exact hd1,?_⟩ (by simp only;omega) ?_
  ·rw [← ho]
   conv=>rhs;rw [Sort.reverseLoop,Kb (by omega)]
  ·(refine⟨(KC rfl),rfl,(by repeat(first|exact KO|refine⟨rfl,?_⟩|refine⟨fU (by(simp only;omega)),?_⟩)),⟨aB rfl,trivial⟩⟩)
 ·repeat apply ah;rfl
  ((apply qw Tryz.func111 (congrArg Array.toList Tryz.results111));(focus(repeat(exact KF)));refine⟨_,rfl,Ends.mk [] (KC rfl) rfl rfl ?_⟩)
  rw [← ho,Sort.reverseLoop,Ka (by omega)]
  exact⟨aB rfl,trivial⟩
abbrev mU(k:Nat):VO:=aq 3 [.sc (.int .i64 (k:Int))]
theorem ir(n a b k:Nat)(d:Array (Int))(hn:n<4611686018427387904)(hd:d.size=n)(ha:a<n)(hb:b<n)(hk:k<1000) :
 Ctr Tryz.prog 124 [.slu 0 0 n,.sc (.int .i64 (a:Int)),.sc (.int .i64 (b:Int)),.ptr 1 0] [cd n d,mU k] (fun c=>c=⟨.tup [.sc (.int .i64 ((Sort.order2 bq d a b k).1:Int)),.sc (.int .i64 ((Sort.order2 bq d a b k).2.1:Int))],[some (cd n d),some (mU (Sort.order2 bq d a b k).2.2)]⟩):=by
 refine KE Tryz.func124 rfl rfl ?_
 repeat apply ah;rfl
 refine cu (by kernel_rfl) (by kernel_rfl) ?_
 have hls_h1:=fW (d[b]!) (d[a]!)
 cases h1:bq (d[b]!) (d[a]!)
 all_goals rw [h1] at hls_h1
 rotate_left
 all_goals(repeat(first|apply aW;rfl|refine cD (g:=fun x:Int=> .int .i64 x) rfl rfl rfl (F.ag _ rfl) rfl (by(omega)) (by(omega)) ?_|refine aI (q:=a) rfl rfl rfl rfl (F.un _ rfl) (F.sz _ rfl) rfl (by omega) (by omega) (by omega) ?_|refine aI (q:=b) rfl rfl rfl rfl (F.un _ rfl) (F.sz _ rfl) rfl (by omega) (by omega) (by omega) ?_|refine b9 rfl rfl rfl (by kernel_rfl) (Ctr.callV (hls_h1) [] rfl (KC rfl) rfl trivial rfl) ?_))
 ·skip
  refine aA ⟨by kernel_rfl,?_,?_⟩;(focus(repeat(first|exact KO|apply fA;rfl|apply eQ;rfl|refine⟨.inr (by(repeat(refine⟨(by(exact aO (F.un _ rfl) (F.sz _ rfl) rfl rfl rfl (by omega) (by omega) (by omega))),?_⟩));exact KO),?_⟩|refine⟨.inl (by kernel_rfl),?_⟩)))
  repeat first|apply ah;rfl|apply aL;rfl;omega;omega|refine df rfl rfl rfl (F.ag _ rfl) rfl rfl ?_|refine dU rfl rfl rfl (F.sz _ rfl) rfl rfl rfl ?_
  rw [show Sort.order2 bq d a b k=(b,a,k+1) by rw [Sort.order2,Kb (by simpa [bq] using h1)]]
  ((apply bw Tryz.func124 (congrArg Array.toList Tryz.results124));(focus(repeat(first|exact KF|apply KH rfl)));refine⟨_,rfl,Ends.mk [] (KC rfl) rfl rfl ?_⟩)
  exact(by repeat(first|exact KO|refine⟨aB rfl,?_⟩|refine⟨fD rfl,?_⟩))
 ·skip
  refine aA ⟨by kernel_rfl,?_,?_⟩;(focus(repeat(first|exact KO|apply fA;rfl|apply eQ;rfl|refine⟨.inr (by(repeat(refine⟨(by(exact aO (F.un _ rfl) (F.sz _ rfl) rfl rfl rfl (by omega) (by omega) (by omega))),?_⟩));exact KO),?_⟩|refine⟨.inl (by kernel_rfl),?_⟩)))
  repeat apply ah;rfl
  rw [show Sort.order2 bq d a b k=(a,b,k) by rw [Sort.order2,Ka (by simpa [bq] using h1)]]
  ((apply bw Tryz.func124 (congrArg Array.toList Tryz.results124));(focus(repeat(first|exact KF|apply KH rfl)));refine⟨_,rfl,Ends.mk [] (KC rfl) rfl rfl ?_⟩)
  exact(by repeat(first|exact KO|refine⟨aB rfl,?_⟩|refine⟨fD rfl,?_⟩))
theorem ff{k n:Nat}(ha:a<n)(hb:b<n):(Sort.order2 lt d a b k).1<n∧(Sort.order2 lt d a b k).2.1<n∧(Sort.order2 lt d a b k).2.2≤k+1:=by
 unfold Sort.order2
 split
 ·exact⟨hb,ha,JZ _⟩
 ·exact⟨ha,hb,J8 _⟩
theorem iu(n a b c k:Nat)(d:Array (Int))(hn:n<4611686018427387904)(hd:d.size=n)(ha:a<n)(hb:b<n)(hc:c<n)(hk:k<900) :
 Ctr Tryz.prog 122 [.slu 0 0 n,.sc (.int .i64 (a:Int)),.sc (.int .i64 (b:Int)),.sc (.int .i64 (c:Int)),.ptr 1 0] [cd n d,mU k] (fun r=>r=⟨.sc (.int .i64 ((Sort.median bq d a b c k).1:Int)),[some (cd n d),some (mU (Sort.median bq d a b c k).2)]⟩):=by
 obtain⟨q1,q2,q3⟩:=ff (lt:=bq) (d:=d) (k:=k) ha hb
 have e1:=ir n a b k d hn hd ha hb (by omega)
 unfold Sort.median
 generalize Sort.order2 bq d a b k=r1 at q1 q2 q3 e1 ⊢
 obtain⟨a1,b1,k1⟩:=r1
 obtain⟨p1,p2,p3⟩:=ff (lt:=bq) (d:=d) (k:=k1) q2 hc
 have e2:=ir n b1 c k1 d hn hd q2 hc (by simp only at q3;omega)
 simp only at q1 q2 q3 p1 p2 p3 e1 e2 ⊢
 generalize Sort.order2 bq d b1 c k1=r2 at p1 p2 p3 e2 ⊢
 obtain⟨b2,c2,k2⟩:=r2
 obtain⟨o1,o2,o3⟩:=ff (lt:=bq) (d:=d) (k:=k2) q1 p1
 have e3:=ir n a1 b2 k2 d hn hd q1 p1 (by simp only at p3;omega)
 simp only at p1 p2 p3 o1 o2 o3 e2 e3 ⊢
 generalize Sort.order2 bq d a1 b2 k2=r3 at o1 o2 o3 e3 ⊢
 obtain⟨a3,b3,k3⟩:=r3
 simp only at o1 o2 o3 e3 ⊢
 refine KE Tryz.func122 rfl rfl ?_
 repeat first|apply ah;rfl|refine cp rfl rfl rfl (by kernel_rfl) (Ctr.dY (e1) [0,1] rfl (KC rfl) rfl (by repeat(first|exact KO|refine⟨aB rfl,?_⟩|refine⟨fD rfl,?_⟩)) rfl (by repeat(first|exact KO|refine⟨bO,?_⟩|refine⟨dR (fun _=>rfl),?_⟩)) (fun _=>rfl) rfl rfl) ?_|refine cp rfl rfl rfl (by kernel_rfl) (Ctr.dY (e2) [0,1] rfl (KC rfl) rfl (by repeat(first|exact KO|refine⟨aB rfl,?_⟩|refine⟨fD rfl,?_⟩)) rfl (by repeat(first|exact KO|refine⟨bO,?_⟩|refine⟨dR (fun _=>rfl),?_⟩)) (fun _=>rfl) rfl rfl) ?_|refine cp rfl rfl rfl (by kernel_rfl) (Ctr.dY (e3) [0,1] rfl (KC rfl) rfl (by repeat(first|exact KO|refine⟨aB rfl,?_⟩|refine⟨fD rfl,?_⟩)) rfl (by repeat(first|exact KO|refine⟨bO,?_⟩|refine⟨dR (fun _=>rfl),?_⟩)) (fun _=>rfl) rfl rfl) ?_
 ((apply bw Tryz.func122 (congrArg Array.toList Tryz.results122));(focus(repeat(first|exact KF|apply KH rfl)));refine⟨_,rfl,Ends.mk [] (KC rfl) rfl rfl ?_⟩)
 exact(by repeat(first|exact KO|refine⟨aB rfl,?_⟩|refine⟨fD rfl,?_⟩))
theorem jU{c k n:Nat}(ha:a<n)(hb:b<n)(hc:c<n):(Sort.median lt d a b c k).1<n∧(Sort.median lt d a b c k).2≤k+3:=by
 obtain⟨q1,q2,q3⟩:=ff (lt:=lt) (d:=d) (k:=k) ha hb
 obtain⟨p1,p2,p3⟩:=ff (lt:=lt) (d:=d) (k:=(Sort.order2 lt d a b k).2.2) q2 hc
 obtain⟨o1,o2,o3⟩:=ff (lt:=lt) (d:=d) (k:=(Sort.order2 lt d (Sort.order2 lt d a b k).2.1 c (Sort.order2 lt d a b k).2.2).2.2) q1 p1
 exact⟨o2,by simp only [Sort.median];omega⟩
theorem iv(n a k:Nat)(d:Array (Int))(hn:n<4611686018427387904)(hd:d.size=n)(ha:a+1<n)(h1:1≤a)(hk:k<900) :
 Ctr Tryz.prog 121 [.slu 0 0 n,.sc (.int .i64 (a:Int)),.ptr 1 0] [cd n d,mU k] (fun r=>r=⟨.sc (.int .i64 ((Sort.medianAdjacent bq d a k).1:Int)),[some (cd n d),some (mU (Sort.medianAdjacent bq d a k).2)]⟩):=by
 obtain⟨a,rfl⟩: ∃ a',a=a'+1:=⟨a-1,by omega⟩
 have e:=iu n a (a+1) (a+1+1) k d hn hd (by omega) (by omega) (by omega) hk
 have e0:((a:Nat):Int)=((a+1:Nat):Int)-1:=by omega
 rw [e0] at e
 refine KE Tryz.func121 rfl rfl ?_
 repeat first|apply ah;rfl|apply aL;rfl;omega;omega|refine cp rfl rfl rfl (by kernel_rfl) (Ctr.dY (e) [0,1] rfl (KC rfl) rfl (by repeat(first|exact KO|refine⟨aB rfl,?_⟩|refine⟨fD rfl,?_⟩)) rfl (by repeat(first|exact KO|refine⟨bO,?_⟩|refine⟨dR (fun _=>rfl),?_⟩)) (fun _=>rfl) rfl rfl) ?_
 ((apply bw Tryz.func121 (congrArg Array.toList Tryz.results121));(focus(repeat(first|exact KF|apply KH rfl)));refine⟨_,rfl,Ends.mk [] (KC rfl) rfl rfl ?_⟩)
 exact(by repeat(first|exact KO|refine⟨aB rfl,?_⟩|refine⟨fD rfl,?_⟩))
theorem uI(n a b:Nat)(d:Array (Int))(hn:n<4611686018427387904)(hd:d.size=n)(hab:a<b)(hb:b≤n) :
 Ctr Tryz.prog 110 [.slu 0 0 n,.sc (.int .i64 (a:Int)),.sc (.int .i64 (b:Int))] [cd n d] (fun r=>r=⟨.tup [.sc (.int .i64 ((Sort.choosePivot bq d a b).1:Int)),.sc (.int .i64 (EO (Sort.choosePivot bq d a b).2))],[some (cd n d)]⟩):=by
 have e1:((a:Int)+((b:Int)-(a:Int)) / 4*1)=((a+(b-a) / 4*1:Nat):Int):=by omega
 have e2:((a:Int)+((b:Int)-(a:Int)) / 4*2)=((a+(b-a) / 4*2:Nat):Int):=by omega
 have e3:((a:Int)+((b:Int)-(a:Int)) / 4*3)=((a+(b-a) / 4*3:Nat):Int):=by omega
 refine KE Tryz.func110 rfl rfl ?_
 repeat first|apply ah;rfl|apply aL;rfl;omega;omega|refine cf (pX rfl rfl (by omega) (jF (by omega) (by omega) (by omega))) rfl rfl rfl ?_
 rw [e1,e2,e3]
 have fin: ∀ (T:Tr SV) (H:au) (nx:Nat) (p k:Nat),True:=fun _ _ _ _ _=>trivial
 refine eK rfl rfl rfl rfl ?_ ?_
 all_goals intro h1
 ·repeat apply ah;rfl
  refine eK rfl rfl rfl rfl ?_ ?_
  all_goals intro h2
  ·have m1:=iv n (a+(b-a) / 4*1) 0 d hn hd (by omega) (by omega) (by omega)
   have l1:(Sort.medianAdjacent bq d (a+(b-a) / 4*1) 0).1<n∧(Sort.medianAdjacent bq d (a+(b-a) / 4*1) 0).2≤0+3:=jU (by omega) (by omega) (by omega)
   have ec:Sort.choosePivot bq d a b=Sort.choosePivot bq d a b:=rfl
   conv at ec=>rhs;unfold Sort.choosePivot
   simp only [show b-a≥8 by omega,show b-a≥50 by omega,if_true] at ec
   generalize Sort.medianAdjacent bq d (a+(b-a) / 4*1) 0=r1 at m1 l1 ec
   have m2:=iv n (a+(b-a) / 4*2) r1.2 d hn hd (by omega) (by omega) (by omega)
   have l2:(Sort.medianAdjacent bq d (a+(b-a) / 4*2) r1.2).1<n∧(Sort.medianAdjacent bq d (a+(b-a) / 4*2) r1.2).2≤r1.2+3:=jU (by omega) (by omega) (by omega)
   generalize Sort.medianAdjacent bq d (a+(b-a) / 4*2) r1.2=r2 at m2 l2 ec
   have m3:=iv n (a+(b-a) / 4*3) r2.2 d hn hd (by omega) (by omega) (by omega)
   have l3:(Sort.medianAdjacent bq d (a+(b-a) / 4*3) r2.2).1<n∧(Sort.medianAdjacent bq d (a+(b-a) / 4*3) r2.2).2≤r2.2+3:=jU (by omega) (by omega) (by omega)
   generalize Sort.medianAdjacent bq d (a+(b-a) / 4*3) r2.2=r3 at m3 l3 ec
   have m4:=iu n r1.1 r2.1 r3.1 r3.2 d hn hd l1.1 l2.1 l3.1 (by omega)
   generalize Sort.median bq d r1.1 r2.1 r3.1 r3.2=r4 at m4 ec
   rw [ec]
   obtain⟨p,k⟩:=r4
   repeat first|apply ah;rfl|apply aG;rfl;(focus((repeat(exact ac));done));rfl|refine cp rfl rfl rfl (by kernel_rfl) (Ctr.dY (m1) [0,1] rfl (KC rfl) rfl (by repeat(first|exact KO|refine⟨aB rfl,?_⟩|refine⟨fD rfl,?_⟩)) rfl (by repeat(first|exact KO|refine⟨bO,?_⟩|refine⟨dR (fun _=>rfl),?_⟩)) (fun _=>rfl) rfl rfl) ?_|refine cp rfl rfl rfl (by kernel_rfl) (Ctr.dY (m2) [0,1] rfl (KC rfl) rfl (by repeat(first|exact KO|refine⟨aB rfl,?_⟩|refine⟨fD rfl,?_⟩)) rfl (by repeat(first|exact KO|refine⟨bO,?_⟩|refine⟨dR (fun _=>rfl),?_⟩)) (fun _=>rfl) rfl rfl) ?_|refine cp rfl rfl rfl (by kernel_rfl) (Ctr.dY (m3) [0,1] rfl (KC rfl) rfl (by repeat(first|exact KO|refine⟨aB rfl,?_⟩|refine⟨fD rfl,?_⟩)) rfl (by repeat(first|exact KO|refine⟨bO,?_⟩|refine⟨dR (fun _=>rfl),?_⟩)) (fun _=>rfl) rfl rfl) ?_|refine cp rfl rfl rfl (by kernel_rfl) (Ctr.dY (m4) [0,1] rfl (KC rfl) rfl (by repeat(first|exact KO|refine⟨aB rfl,?_⟩|refine⟨fD rfl,?_⟩)) rfl (by repeat(first|exact KO|refine⟨bO,?_⟩|refine⟨dR (fun _=>rfl),?_⟩)) (fun _=>rfl) rfl rfl) ?_
   refine cF rfl rfl rfl rfl ?_ ?_
   all_goals intro h3
   ·repeat apply ah;rfl
    rw [Kb (show(p,k).2=0 by simp only;omega)]
    ((apply bw Tryz.func110 (congrArg Array.toList Tryz.results110));(focus(repeat(first|exact KF|apply KH rfl)));refine⟨_,rfl,Ends.mk [] (KC rfl) rfl rfl ?_⟩)
    exact⟨aB rfl,trivial⟩
   ·repeat apply ah;rfl
    refine cF rfl rfl rfl rfl ?_ ?_
    all_goals intro h4
    ·repeat apply ah;rfl
     rw [Ka (show ¬ (p,k).2=0 by simp only;omega),Kb (show(p,k).2=12 by simp only;omega)]
     ((apply bw Tryz.func110 (congrArg Array.toList Tryz.results110));(focus(repeat(first|exact KF|apply KH rfl)));refine⟨_,rfl,Ends.mk [] (KC rfl) rfl rfl ?_⟩)
     exact⟨aB rfl,trivial⟩
    ·repeat apply ah;rfl
     rw [Ka (show ¬ (p,k).2=0 by simp only;omega),Ka (show ¬ (p,k).2=12 by simp only;omega)]
     ((apply bw Tryz.func110 (congrArg Array.toList Tryz.results110));(focus(repeat(first|exact KF|apply KH rfl)));refine⟨_,rfl,Ends.mk [] (KC rfl) rfl rfl ?_⟩)
     exact⟨aB rfl,trivial⟩
  ·have ec:Sort.choosePivot bq d a b=Sort.choosePivot bq d a b:=rfl
   conv at ec=>rhs;unfold Sort.choosePivot
   simp only [show b-a≥8 by omega,show ¬ (b-a≥50) by omega,if_true,if_false] at ec
   have m4:=iu n (a+(b-a) / 4*1) (a+(b-a) / 4*2) (a+(b-a) / 4*3) 0 d hn hd (by omega) (by omega) (by omega) (by omega)
   generalize Sort.median bq d (a+(b-a) / 4*1) (a+(b-a) / 4*2) (a+(b-a) / 4*3) 0=r4 at m4 ec
   rw [ec]
   obtain⟨p,k⟩:=r4
   repeat first|apply ah;rfl|apply aG;rfl;(focus((repeat(exact ac));done));rfl|refine cp rfl rfl rfl (by kernel_rfl) (Ctr.dY (m4) [0,1] rfl (KC rfl) rfl (by repeat(first|exact KO|refine⟨aB rfl,?_⟩|refine⟨fD rfl,?_⟩)) rfl (by repeat(first|exact KO|refine⟨bO,?_⟩|refine⟨dR (fun _=>rfl),?_⟩)) (fun _=>rfl) rfl rfl) ?_
   refine cF rfl rfl rfl rfl ?_ ?_
   all_goals intro h3
   ·repeat apply ah;rfl
    rw [Kb (show(p,k).2=0 by simp only;omega)]
    ((apply bw Tryz.func110 (congrArg Array.toList Tryz.results110));(focus(repeat(first|exact KF|apply KH rfl)));refine⟨_,rfl,Ends.mk [] (KC rfl) rfl rfl ?_⟩)
    exact⟨aB rfl,trivial⟩
   ·repeat apply ah;rfl
    refine cF rfl rfl rfl rfl ?_ ?_
    all_goals intro h4
    ·repeat apply ah;rfl
     rw [Ka (show ¬ (p,k).2=0 by simp only;omega),Kb (show(p,k).2=12 by simp only;omega)]
     ((apply bw Tryz.func110 (congrArg Array.toList Tryz.results110));(focus(repeat(first|exact KF|apply KH rfl)));refine⟨_,rfl,Ends.mk [] (KC rfl) rfl rfl ?_⟩)
     exact⟨aB rfl,trivial⟩
    ·repeat apply ah;rfl
     rw [Ka (show ¬ (p,k).2=0 by simp only;omega),Ka (show ¬ (p,k).2=12 by simp only;omega)]
     ((apply bw Tryz.func110 (congrArg Array.toList Tryz.results110));(focus(repeat(first|exact KF|apply KH rfl)));refine⟨_,rfl,Ends.mk [] (KC rfl) rfl rfl ?_⟩)
     exact⟨aB rfl,trivial⟩
 ·have ec:Sort.choosePivot bq d a b=(a+(b-a) / 4*2,.increasing):=by
   unfold Sort.choosePivot
   simp only [show ¬ (b-a≥8) by omega,if_false,if_true]
  rw [ec]
  repeat first|apply ah;rfl|apply aG;rfl;(focus((repeat(exact ac));done));rfl|refine cf (dy rfl rfl (.inl ⟨rfl,rfl⟩)) rfl rfl rfl ?_
  ((apply bw Tryz.func110 (congrArg Array.toList Tryz.results110));(focus(repeat(first|exact KF|apply KH rfl)));refine⟨_,rfl,Ends.mk [] (KC rfl) rfl rfl ?_⟩)
  exact⟨aB rfl,trivial⟩
theorem jT(h:i≤j)(hp:p d[i]! =true):Sort.scanUp p d j i=Sort.scanUp p d j (i+1):=by
 conv=>lhs;rw [Sort.scanUp,Kb (by simp [h,hp])]
theorem dP(h:j<i∨p d[i]! =false):Sort.scanUp p d j i=i:=by
 rw [Sort.scanUp,Ka]
 simp only [JY,KB]
 rintro⟨h1,h2⟩
 rcases h with h|h
 ·omega
 ·rw [h] at h2;cases h2
theorem iq(h:i≤j+1)(hp:p d[j+1]! =true):Sort.scanDown p d i (j+1)=Sort.scanDown p d i j:=by
 conv=>lhs;rw [Sort.scanDown,Kb (by simp [h,hp])]
theorem di(h:j<i∨p d[j]! =false):Sort.scanDown p d i j=j:=by
 cases j with
 | zero=>rfl
 | succ j=>
   rw [Sort.scanDown,Ka]
   simp only [JY,KB]
   rintro⟨h1,h2⟩
   rcases h with h|h
   ·omega
   ·rw [h] at h2;cases h2
theorem pM(hi:Sort.scanUp (fun x=> !lt d[a]! x) d j i=i2)(hj:Sort.scanDown (fun x=>lt d[a]! x) d i2 j=j2)(h1:i≤i2)(h2:j2≤j) :
 Sort.partEqLoop lt a i j d=if j2<i2 then(i2,d) else Sort.partEqLoop lt a (i2+1) (j2-1) (Sort.swp d i2 j2):=by
 conv=>lhs;unfold Sort.partEqLoop
 simp only [hi,hj]
 split
 ·rfl
 ·rw [dif_pos (by omega)]
theorem pN(n a b pv:Nat)(d:Array (Int))(hn:n<4611686018427387904)(hd:d.size=n)(hap:a≤pv)(hpb:pv<b)(hb:b≤n) :
 Ctr Tryz.prog 114 [.slu 0 0 n,.sc (.int .i64 (a:Int)),.sc (.int .i64 (b:Int)),.sc (.int .i64 (pv:Int))] [cd n d] (fun c=>c=⟨.sc (.int .i64 ((Sort.partitionEqual bq d a b pv).1:Int)),[some (cd n (Sort.partitionEqual bq d a b pv).2)]⟩):=by
 refine KE Tryz.func114 rfl rfl ?_
 repeat apply ah;rfl
 refine cu (by kernel_rfl) (by kernel_rfl) ?_
 repeat first|apply aW;rfl|refine cD (g:=fun x:Int=> .int .i64 x) rfl rfl rfl (F.ag _ rfl) rfl (by(omega)) (by(omega)) ?_|refine fv (g:=fun x:Int=> .int .i64 x) rfl rfl rfl (fun _=>rfl) (F.sz _ rfl) rfl (by first|omega|(simp only [JI,aP];omega)) (by first|omega|(simp only [JI,aP];omega)) ?_|refine aI (q:=a) rfl rfl rfl rfl (F.un _ rfl) (F.sz _ rfl) rfl (by omega) (by omega) (by omega) ?_|refine aI (q:=pv) rfl rfl rfl rfl (F.un _ rfl) (F.sz _ rfl) rfl (by omega) (by omega) (by omega) ?_
 refine aA ⟨by kernel_rfl,?_,?_⟩;(focus(repeat(first|exact KO|apply fA;rfl|apply eQ;rfl|refine⟨.inr (by(repeat(refine⟨(by(exact aO (F.un _ rfl) (F.sz _ rfl) rfl rfl rfl (by omega) (by omega) (by omega))),?_⟩));exact KO),?_⟩|refine⟨.inl (by kernel_rfl),?_⟩)))
 repeat first|apply ah;rfl|apply aL;rfl;omega;omega
 refine gA 1 (fun s:(Nat×Nat)×Array (Int)=> [(0,.slu 0 0 n),(1,.sc (.int .i64 (a:Int))),(9,.sc (.int .i64 (s.1.1:Int))),(10,.sc (.int .i64 (s.1.2:Int)))]) (fun s=> [some (cd n s.2)]) (fun s=>a<s.1.1∧s.1.1≤n∧s.1.2<n∧s.2.size=n∧Sort.partEqLoop bq a s.1.1 s.1.2 s.2=Sort.partitionEqual bq d a b pv) (fun s=>s.1.2+1-s.1.1) ((a+1,b-1),Sort.swp d a pv) []
  (fun _=>rfl) ⟨by simp only;omega,by simp only;omega,by simp only;omega,by rw [aP];exact hd,rfl⟩ ?_ (fun _=>rfl) (fun _=>rfl) ?_
 ·(refine⟨(KC rfl),rfl,(by repeat(first|exact KO|refine⟨rfl,?_⟩|refine⟨fU (by(simp only;omega)),?_⟩)),⟨aB rfl,trivial⟩⟩)
 rintro⟨⟨i,j⟩,d1⟩ ⟨hai,hi,hj,hd1,ho⟩ ih
 simp only at hai hi hj hd1 ho ih ⊢
 repeat apply ah;rfl
 refine gz 1 (fun x:Nat=> [(0,.slu 0 0 n),(1,.sc (.int .i64 (a:Int))),(9,.sc (.int .i64 (x:Int))),(10,.sc (.int .i64 (j:Int)))]) (fun _=> [some (cd n d1)]) (fun x=>i≤x∧x≤n∧Sort.scanUp (fun y=> !bq d1[a]! y) d1 j x=Sort.scanUp (fun y=> !bq d1[a]! y) d1 j i) (fun x=>n-x) i []
  1 (fun x:Nat=> [(0,.slu 0 0 n),(1,.sc (.int .i64 (a:Int))),(9,.sc (.int .i64 (x:Int))),(10,.sc (.int .i64 (j:Int)))]) (fun _=> [some (cd n d1)]) (fun x=>i≤x∧x≤n∧Sort.scanUp (fun y=> !bq d1[a]! y) d1 j i=x)
  (fun _=>rfl) (fun _=>rfl) ⟨JZ _,hi,rfl⟩ ?_ (fun _=>rfl) (fun _=>rfl) ?_ ?_
 ·(exact KM rfl rfl rfl ⟨aB rfl,trivial⟩)
 ·rintro i1 ⟨hii,hi1,hu⟩ ihu out
  repeat apply ah;rfl
  refine cu (by kernel_rfl) (by kernel_rfl) ?_
  repeat apply aW;rfl
  refine mZ rfl rfl rfl rfl ?_ ?_
  all_goals intro h1
  ·have hls_h2:=fW (d1[a]!) (d1[i1]!)
   cases h2:bq (d1[a]!) (d1[i1]!)
   all_goals rw [h2] at hls_h2
   rotate_left
   all_goals(repeat(first|apply aW;rfl|refine cD (g:=fun x:Int=> .int .i64 x) rfl rfl rfl (F.ag _ rfl) rfl (by(omega)) (by(omega)) ?_|refine aI (q:=a) rfl rfl rfl rfl (F.un _ rfl) (F.sz _ rfl) rfl (by omega) (by omega) (by omega) ?_|refine aI (q:=i1) rfl rfl rfl rfl (F.un _ rfl) (F.sz _ rfl) rfl (by omega) (by omega) (by omega) ?_|refine b9 rfl rfl rfl (by kernel_rfl) (Ctr.callV (hls_h2) [] rfl (KC rfl) rfl trivial rfl) ?_))
   ·skip
    refine aA ⟨by kernel_rfl,?_,?_⟩;(focus(repeat(first|exact KO|apply fA;rfl|apply eQ;rfl|refine⟨.inr (by(repeat(refine⟨(by(exact aO (F.un _ rfl) (F.sz _ rfl) rfl rfl rfl (by omega) (by omega) (by omega))),?_⟩));exact KO),?_⟩|refine⟨.inl (by kernel_rfl),?_⟩)))
    repeat first|refine out _ _ _ i1 [] ⟨hii,hi1,by rw [← hu];exact dP (.inr (by simpa [bq] using h2))⟩ ?_;(exact KM rfl rfl rfl ⟨aB rfl,trivial⟩)|apply cE;rfl
   ·skip
    refine aA ⟨by kernel_rfl,?_,?_⟩;(focus(repeat(first|exact KO|apply fA;rfl|apply eQ;rfl|refine⟨.inr (by(repeat(refine⟨(by(exact aO (F.un _ rfl) (F.sz _ rfl) rfl rfl rfl (by omega) (by omega) (by omega))),?_⟩));exact KO),?_⟩|refine⟨.inl (by kernel_rfl),?_⟩)))
    repeat first|apply ah;rfl|apply aL;rfl;omega;omega
    refine ihu _ _ _ (i1+1) [] ⟨by omega,by omega,?_⟩ (by omega) ?_
    ·rw [← hu]
     exact(jT (by omega) (by simpa [bq] using h2)).symm
    ·(exact KM rfl rfl rfl ⟨aB rfl,trivial⟩)
  ·repeat first|apply aW;rfl|refine cy rfl rfl ?_
   refine aA ⟨by kernel_rfl,?_,?_⟩;(focus(repeat(first|exact KO|apply Bd;rfl|apply eQ;rfl|refine⟨.inl rfl,?_⟩)))
   repeat first|refine out _ _ _ i1 [] ⟨hii,hi1,by rw [← hu];exact dP (.inl (by omega))⟩ ?_;(exact KM rfl rfl rfl ⟨aB rfl,trivial⟩)|apply cE;rfl
 rintro i2 ⟨hii,hi2,hu⟩
 repeat apply ah;rfl
 refine gz 1 (fun x:Nat=> [(0,.slu 0 0 n),(1,.sc (.int .i64 (a:Int))),(9,.sc (.int .i64 (i2:Int))),(10,.sc (.int .i64 (x:Int)))]) (fun _=> [some (cd n d1)]) (fun x=>x≤j∧Sort.scanDown (fun y=>bq d1[a]! y) d1 i2 x=Sort.scanDown (fun y=>bq d1[a]! y) d1 i2 j) (fun x=>x) j []
  1 (fun x:Nat=> [(0,.slu 0 0 n),(1,.sc (.int .i64 (a:Int))),(9,.sc (.int .i64 (i2:Int))),(10,.sc (.int .i64 (x:Int)))]) (fun _=> [some (cd n d1)]) (fun x=>x≤j∧Sort.scanDown (fun y=>bq d1[a]! y) d1 i2 j=x)
  (fun _=>rfl) (fun _=>rfl) ⟨JZ _,rfl⟩ ?_ (fun _=>rfl) (fun _=>rfl) ?_ ?_
 ·(exact KM rfl rfl rfl ⟨aB rfl,trivial⟩)
 ·rintro j1 ⟨hjj,hv⟩ ihv out
  repeat apply ah;rfl
  refine cu (by kernel_rfl) (by kernel_rfl) ?_
  repeat apply aW;rfl
  refine mZ rfl rfl rfl rfl ?_ ?_
  all_goals intro h1
  ·have hls_h2:=fW (d1[a]!) (d1[j1]!)
   cases h2:bq (d1[a]!) (d1[j1]!)
   all_goals rw [h2] at hls_h2
   rotate_left
   all_goals(repeat(first|apply aW;rfl|refine cD (g:=fun x:Int=> .int .i64 x) rfl rfl rfl (F.ag _ rfl) rfl (by(omega)) (by(omega)) ?_|refine aI (q:=a) rfl rfl rfl rfl (F.un _ rfl) (F.sz _ rfl) rfl (by omega) (by omega) (by omega) ?_|refine aI (q:=j1) rfl rfl rfl rfl (F.un _ rfl) (F.sz _ rfl) rfl (by omega) (by omega) (by omega) ?_|refine b9 rfl rfl rfl (by kernel_rfl) (Ctr.callV (hls_h2) [] rfl (KC rfl) rfl trivial rfl) ?_))
   ·skip
    refine aA ⟨by kernel_rfl,?_,?_⟩;(focus(repeat(first|exact KO|apply fA;rfl|apply eQ;rfl|refine⟨.inr (by(repeat(refine⟨(by(exact aO (F.un _ rfl) (F.sz _ rfl) rfl rfl rfl (by omega) (by omega) (by omega))),?_⟩));exact KO),?_⟩|refine⟨.inl (by kernel_rfl),?_⟩)))
    repeat first|apply ah;rfl|apply aL;rfl;omega;omega
    obtain⟨j1,rfl⟩: ∃ j',j1=j'+1:=⟨j1-1,by omega⟩
    refine ihv _ _ _ j1 [] ⟨by omega,?_⟩ (by omega) ?_
    ·rw [← hv]
     exact(iq (by omega) (by simpa [bq] using h2)).symm
    ·(refine⟨(KC rfl),rfl,(by repeat(first|exact KO|refine⟨rfl,?_⟩|refine⟨fU (by(omega)),?_⟩)),⟨aB rfl,trivial⟩⟩)
   ·skip
    refine aA ⟨by kernel_rfl,?_,?_⟩;(focus(repeat(first|exact KO|apply fA;rfl|apply eQ;rfl|refine⟨.inr (by(repeat(refine⟨(by(exact aO (F.un _ rfl) (F.sz _ rfl) rfl rfl rfl (by omega) (by omega) (by omega))),?_⟩));exact KO),?_⟩|refine⟨.inl (by kernel_rfl),?_⟩)))
    repeat first|refine out _ _ _ j1 [] ⟨hjj,by rw [← hv];exact di (.inr (by simpa [bq] using h2))⟩ ?_;(exact KM rfl rfl rfl ⟨aB rfl,trivial⟩)|apply cE;rfl
  ·repeat first|apply aW;rfl|refine cy rfl rfl ?_
   refine aA ⟨by kernel_rfl,?_,?_⟩;(focus(repeat(first|exact KO|apply Bd;rfl|apply eQ;rfl|refine⟨.inl rfl,?_⟩)))
   repeat first|refine out _ _ _ j1 [] ⟨hjj,by rw [← hv];exact di (.inl (by omega))⟩ ?_;(exact KM rfl rfl rfl ⟨aB rfl,trivial⟩)|apply cE;rfl
 rintro j2 ⟨hjj,hv⟩
 have e:=pM hu hv hii hjj
 repeat apply ah;rfl
 refine dI rfl rfl rfl rfl ?_ ?_
 all_goals intro h3
 ·rw [ho,Kb (by omega)] at e
  repeat apply ah;rfl
  rw [e]
  ((apply bw Tryz.func114 (congrArg Array.toList Tryz.results114));(focus(repeat(first|exact KF|apply KH rfl)));refine⟨_,rfl,Ends.mk [] (KC rfl) rfl rfl ?_⟩)
  exact⟨aB rfl,trivial⟩
 ·rw [ho,Ka (by omega)] at e
  repeat apply ah;rfl
  refine cu (by kernel_rfl) (by kernel_rfl) ?_
  repeat first|apply aW;rfl|refine cD (g:=fun x:Int=> .int .i64 x) rfl rfl rfl (F.ag _ rfl) rfl (by(omega)) (by(omega)) ?_|refine fv (g:=fun x:Int=> .int .i64 x) rfl rfl rfl (fun _=>rfl) (F.sz _ rfl) rfl (by first|omega|(simp only [JI,aP];omega)) (by first|omega|(simp only [JI,aP];omega)) ?_|refine aI (q:=i2) rfl rfl rfl rfl (F.un _ rfl) (F.sz _ rfl) rfl (by omega) (by omega) (by omega) ?_|refine aI (q:=j2) rfl rfl rfl rfl (F.un _ rfl) (F.sz _ rfl) rfl (by omega) (by omega) (by omega) ?_
  refine aA ⟨by kernel_rfl,?_,?_⟩;(focus(repeat(first|exact KO|apply fA;rfl|apply eQ;rfl|refine⟨.inr (by(repeat(refine⟨(by(exact aO (F.un _ rfl) (F.sz _ rfl) rfl rfl rfl (by omega) (by omega) (by omega))),?_⟩));exact KO),?_⟩|refine⟨.inl (by kernel_rfl),?_⟩)))
  repeat first|apply ah;rfl|apply aL;rfl;omega;omega
  refine ih _ _ _ ((i2+1,j2-1),Sort.swp d1 i2 j2) [] ⟨by simp only;omega,by simp only;omega,by simp only;omega,by rw [aP];exact hd1,e.symm⟩ (by simp only;omega) ?_
  (refine⟨(KC rfl),rfl,(by repeat(first|exact KO|refine⟨rfl,?_⟩|refine⟨fU (by(simp only;omega)),?_⟩)),⟨aB rfl,trivial⟩⟩)
theorem sX(hi:Sort.scanUp (fun x=>lt x d[a]!) d j i=i2)(hj:Sort.scanDown (fun x=> !lt x d[a]!) d i2 j=j2)(h1:i≤i2)(h2:j2≤j) :
 Sort.partLoop lt a i j d=if j2<i2 then(j2,d) else Sort.partLoop lt a (i2+1) (j2-1) (Sort.swp d i2 j2):=by
 conv=>lhs;unfold Sort.partLoop
 simp only [hi,hj]
 split
 ·rfl
 ·rw [dif_pos (by omega)]
theorem uL{pv:Nat}(hi:Sort.scanUp (fun x=>lt x (Sort.swp d a pv)[a]!) (Sort.swp d a pv) (b-1) (a+1)=i2)(hj:Sort.scanDown (fun x=> !lt x (Sort.swp d a pv)[a]!) (Sort.swp d a pv) i2 (b-1)=j2) :
 Sort.partition lt d a b pv=if j2<i2 then(j2,true,Sort.swp (Sort.swp d a pv) j2 a) else((Sort.partLoop lt a (i2+1) (j2-1) (Sort.swp (Sort.swp d a pv) i2 j2)).1,false,Sort.swp (Sort.partLoop lt a (i2+1) (j2-1) (Sort.swp (Sort.swp d a pv) i2 j2)).2 (Sort.partLoop lt a (i2+1) (j2-1) (Sort.swp (Sort.swp d a pv) i2 j2)).1 a):=by
 simp only [Sort.partition,hi,hj]
theorem sY(n a b pv:Nat)(d:Array (Int))(hn:n<4611686018427387904)(hd:d.size=n)(hap:a≤pv)(hpb:pv<b)(hb:b≤n) :
 Ctr Tryz.prog 115 [.slu 0 0 n,.sc (.int .i64 (a:Int)),.sc (.int .i64 (b:Int)),.sc (.int .i64 (pv:Int))] [cd n d] (fun c=>c=⟨.tup [.sc (.int .i64 ((Sort.partition bq d a b pv).1:Int)),.sc (.bool (Sort.partition bq d a b pv).2.1)],[some (cd n (Sort.partition bq d a b pv).2.2)]⟩):=by
 refine KE Tryz.func115 rfl rfl ?_
 repeat apply ah;rfl
 refine cu (by kernel_rfl) (by kernel_rfl) ?_
 repeat first|apply aW;rfl|refine cD (g:=fun x:Int=> .int .i64 x) rfl rfl rfl (F.ag _ rfl) rfl (by(omega)) (by(omega)) ?_|refine fv (g:=fun x:Int=> .int .i64 x) rfl rfl rfl (fun _=>rfl) (F.sz _ rfl) rfl (by first|omega|(simp only [JI,aP];omega)) (by first|omega|(simp only [JI,aP];omega)) ?_|refine aI (q:=a) rfl rfl rfl rfl (F.un _ rfl) (F.sz _ rfl) rfl (by omega) (by omega) (by omega) ?_|refine aI (q:=pv) rfl rfl rfl rfl (F.un _ rfl) (F.sz _ rfl) rfl (by omega) (by omega) (by omega) ?_
 refine aA ⟨by kernel_rfl,?_,?_⟩;(focus(repeat(first|exact KO|apply fA;rfl|apply eQ;rfl|refine⟨.inr (by(repeat(refine⟨(by(exact aO (F.un _ rfl) (F.sz _ rfl) rfl rfl rfl (by omega) (by omega) (by omega))),?_⟩));exact KO),?_⟩|refine⟨.inl (by kernel_rfl),?_⟩)))
 have e0:=uL (lt:=bq) (d:=d) (a:=a) (b:=b) (pv:=pv) rfl rfl
 have hd1:(Sort.swp d a pv).size=n:=by rw [aP];exact hd
 generalize hsw:Sort.swp d a pv=d1 at e0 hd1
 have hsw':(d.setIfInBounds a d[pv]!).setIfInBounds pv d[a]! =d1:=hsw
 rw [hsw']
 repeat first|apply ah;rfl|apply aL;rfl;omega;omega
 refine gz 1 (fun x:Nat=> [(0,.slu 0 0 n),(1,.sc (.int .i64 (a:Int))),(10,.sc (.int .i64 (x:Int))),(11,.sc (.int .i64 ((b-1:Nat):Int)))]) (fun _=> [some (cd n d1)]) (fun x=>a+1≤x∧x≤n∧Sort.scanUp (fun y=>bq y d1[a]!) d1 (b-1) x=Sort.scanUp (fun y=>bq y d1[a]!) d1 (b-1) (a+1)) (fun x=>n-x) (a+1) []
  1 (fun x:Nat=> [(0,.slu 0 0 n),(1,.sc (.int .i64 (a:Int))),(10,.sc (.int .i64 (x:Int))),(11,.sc (.int .i64 ((b-1:Nat):Int)))]) (fun _=> [some (cd n d1)]) (fun x=>a+1≤x∧x≤n∧Sort.scanUp (fun y=>bq y d1[a]!) d1 (b-1) (a+1)=x)
  (fun _=>rfl) (fun _=>rfl) ⟨JZ _,by omega,rfl⟩ ?_ (fun _=>rfl) (fun _=>rfl) ?_ ?_
 ·(refine⟨(KC rfl),rfl,(by repeat(first|exact KO|refine⟨rfl,?_⟩|refine⟨fU (by(omega)),?_⟩)),⟨aB rfl,trivial⟩⟩)
 ·rintro i1 ⟨hii,hi1,hu⟩ ihu out
  repeat apply ah;rfl
  refine cu (by kernel_rfl) (by kernel_rfl) ?_
  repeat apply aW;rfl
  refine mZ rfl rfl rfl rfl ?_ ?_
  all_goals intro h1
  ·have hls_h2:=fW (d1[i1]!) (d1[a]!)
   cases h2:bq (d1[i1]!) (d1[a]!)
   all_goals rw [h2] at hls_h2
   rotate_left
   all_goals(repeat(first|apply aW;rfl|refine cD (g:=fun x:Int=> .int .i64 x) rfl rfl rfl (F.ag _ rfl) rfl (by(omega)) (by(omega)) ?_|refine aI (q:=a) rfl rfl rfl rfl (F.un _ rfl) (F.sz _ rfl) rfl (by omega) (by omega) (by omega) ?_|refine aI (q:=i1) rfl rfl rfl rfl (F.un _ rfl) (F.sz _ rfl) rfl (by omega) (by omega) (by omega) ?_|refine b9 rfl rfl rfl (by kernel_rfl) (Ctr.callV (hls_h2) [] rfl (KC rfl) rfl trivial rfl) ?_))
   ·skip
    refine aA ⟨by kernel_rfl,?_,?_⟩;(focus(repeat(first|exact KO|apply fA;rfl|apply eQ;rfl|refine⟨.inr (by(repeat(refine⟨(by(exact aO (F.un _ rfl) (F.sz _ rfl) rfl rfl rfl (by omega) (by omega) (by omega))),?_⟩));exact KO),?_⟩|refine⟨.inl (by kernel_rfl),?_⟩)))
    repeat first|apply ah;rfl|apply aL;rfl;omega;omega
    refine ihu _ _ _ (i1+1) [] ⟨by omega,by omega,?_⟩ (by omega) ?_
    ·rw [← hu]
     exact(jT (by omega) (by simpa [bq] using h2)).symm
    ·(exact KM rfl rfl rfl ⟨aB rfl,trivial⟩)
   ·skip
    refine aA ⟨by kernel_rfl,?_,?_⟩;(focus(repeat(first|exact KO|apply fA;rfl|apply eQ;rfl|refine⟨.inr (by(repeat(refine⟨(by(exact aO (F.un _ rfl) (F.sz _ rfl) rfl rfl rfl (by omega) (by omega) (by omega))),?_⟩));exact KO),?_⟩|refine⟨.inl (by kernel_rfl),?_⟩)))
    repeat first|refine out _ _ _ i1 [] ⟨hii,hi1,by rw [← hu];exact dP (.inr (by simpa [bq] using h2))⟩ ?_;(exact KM rfl rfl rfl ⟨aB rfl,trivial⟩)|apply cE;rfl
  ·repeat first|apply aW;rfl|refine cy rfl rfl ?_
   refine aA ⟨by kernel_rfl,?_,?_⟩;(focus(repeat(first|exact KO|apply Bd;rfl|apply eQ;rfl|refine⟨.inl rfl,?_⟩)))
   repeat first|refine out _ _ _ i1 [] ⟨hii,hi1,by rw [← hu];exact dP (.inl (by omega))⟩ ?_;(exact KM rfl rfl rfl ⟨aB rfl,trivial⟩)|apply cE;rfl
 rintro i2 ⟨hii,hi2,hu⟩
 rw [hu] at e0
 repeat apply ah;rfl
 refine gz 1 (fun x:Nat=> [(0,.slu 0 0 n),(1,.sc (.int .i64 (a:Int))),(10,.sc (.int .i64 (i2:Int))),(11,.sc (.int .i64 (x:Int)))]) (fun _=> [some (cd n d1)]) (fun x=>x≤b-1∧Sort.scanDown (fun y=> !bq y d1[a]!) d1 i2 x=Sort.scanDown (fun y=> !bq y d1[a]!) d1 i2 (b-1)) (fun x=>x) (b-1) []
  1 (fun x:Nat=> [(0,.slu 0 0 n),(1,.sc (.int .i64 (a:Int))),(10,.sc (.int .i64 (i2:Int))),(11,.sc (.int .i64 (x:Int)))]) (fun _=> [some (cd n d1)]) (fun x=>x≤b-1∧Sort.scanDown (fun y=> !bq y d1[a]!) d1 i2 (b-1)=x)
  (fun _=>rfl) (fun _=>rfl) ⟨JZ _,rfl⟩ ?_ (fun _=>rfl) (fun _=>rfl) ?_ ?_
 ·(exact KM rfl rfl rfl ⟨aB rfl,trivial⟩)
 ·rintro j1 ⟨hjj,hv⟩ ihv out
  repeat apply ah;rfl
  refine cu (by kernel_rfl) (by kernel_rfl) ?_
  repeat apply aW;rfl
  refine mZ rfl rfl rfl rfl ?_ ?_
  all_goals intro h1
  ·have hls_h2:=fW (d1[j1]!) (d1[a]!)
   cases h2:bq (d1[j1]!) (d1[a]!)
   all_goals rw [h2] at hls_h2
   rotate_left
   all_goals(repeat(first|apply aW;rfl|refine cD (g:=fun x:Int=> .int .i64 x) rfl rfl rfl (F.ag _ rfl) rfl (by(omega)) (by(omega)) ?_|refine aI (q:=a) rfl rfl rfl rfl (F.un _ rfl) (F.sz _ rfl) rfl (by omega) (by omega) (by omega) ?_|refine aI (q:=j1) rfl rfl rfl rfl (F.un _ rfl) (F.sz _ rfl) rfl (by omega) (by omega) (by omega) ?_|refine b9 rfl rfl rfl (by kernel_rfl) (Ctr.callV (hls_h2) [] rfl (KC rfl) rfl trivial rfl) ?_))
   ·skip
    refine aA ⟨by kernel_rfl,?_,?_⟩;(focus(repeat(first|exact KO|apply fA;rfl|apply eQ;rfl|refine⟨.inr (by(repeat(refine⟨(by(exact aO (F.un _ rfl) (F.sz _ rfl) rfl rfl rfl (by omega) (by omega) (by omega))),?_⟩));exact KO),?_⟩|refine⟨.inl (by kernel_rfl),?_⟩)))
    repeat first|refine out _ _ _ j1 [] ⟨hjj,by rw [← hv];exact di (.inr (by simpa [bq] using h2))⟩ ?_;(exact KM rfl rfl rfl ⟨aB rfl,trivial⟩)|apply cE;rfl
   ·skip
    refine aA ⟨by kernel_rfl,?_,?_⟩;(focus(repeat(first|exact KO|apply fA;rfl|apply eQ;rfl|refine⟨.inr (by(repeat(refine⟨(by(exact aO (F.un _ rfl) (F.sz _ rfl) rfl rfl rfl (by omega) (by omega) (by omega))),?_⟩));exact KO),?_⟩|refine⟨.inl (by kernel_rfl),?_⟩)))
    repeat first|apply ah;rfl|apply aL;rfl;omega;omega
    obtain⟨j1,rfl⟩: ∃ j',j1=j'+1:=⟨j1-1,by omega⟩
    refine ihv _ _ _ j1 [] ⟨by omega,?_⟩ (by omega) ?_
    ·rw [← hv]
     exact(iq (by omega) (by simpa [bq] using h2)).symm
    ·(refine⟨(KC rfl),rfl,(by repeat(first|exact KO|refine⟨rfl,?_⟩|refine⟨fU (by(omega)),?_⟩)),⟨aB rfl,trivial⟩⟩)
  ·repeat first|apply aW;rfl|refine cy rfl rfl ?_
   refine aA ⟨by kernel_rfl,?_,?_⟩;(focus(repeat(first|exact KO|apply Bd;rfl|apply eQ;rfl|refine⟨.inl rfl,?_⟩)))
   repeat first|refine out _ _ _ j1 [] ⟨hjj,by rw [← hv];exact di (.inl (by omega))⟩ ?_;(exact KM rfl rfl rfl ⟨aB rfl,trivial⟩)|apply cE;rfl
 rintro j2 ⟨hjj,hv⟩
 rw [hv] at e0
 repeat apply ah;rfl
 refine dI rfl rfl rfl rfl ?_ ?_
 all_goals intro h3
 ·rw [Kb (by omega)] at e0
  rw [e0]
  repeat apply ah;rfl
  refine cu (by kernel_rfl) (by kernel_rfl) ?_
  repeat first|apply aW;rfl|refine cD (g:=fun x:Int=> .int .i64 x) rfl rfl rfl (F.ag _ rfl) rfl (by(omega)) (by(omega)) ?_|refine fv (g:=fun x:Int=> .int .i64 x) rfl rfl rfl (fun _=>rfl) (F.sz _ rfl) rfl (by first|omega|(simp only [JI,aP];omega)) (by first|omega|(simp only [JI,aP];omega)) ?_|refine aI (q:=a) rfl rfl rfl rfl (F.un _ rfl) (F.sz _ rfl) rfl (by omega) (by omega) (by omega) ?_|refine aI (q:=j2) rfl rfl rfl rfl (F.un _ rfl) (F.sz _ rfl) rfl (by omega) (by omega) (by omega) ?_
  refine aA ⟨by kernel_rfl,?_,?_⟩;(focus(repeat(first|exact KO|apply fA;rfl|apply eQ;rfl|refine⟨.inr (by(repeat(refine⟨(by(exact aO (F.un _ rfl) (F.sz _ rfl) rfl rfl rfl (by omega) (by omega) (by omega))),?_⟩));exact KO),?_⟩|refine⟨.inl (by kernel_rfl),?_⟩)))
  repeat apply ah;rfl
  ((apply bw Tryz.func115 (congrArg Array.toList Tryz.results115));(focus(repeat(first|exact KF|apply KH rfl)));refine⟨_,rfl,Ends.mk [] (KC rfl) rfl rfl ?_⟩)
  exact⟨aB rfl,trivial⟩
 rw [Ka (by omega)] at e0
 rw [e0]
 repeat apply ah;rfl
 refine cu (by kernel_rfl) (by kernel_rfl) ?_
 repeat first|apply aW;rfl|refine cD (g:=fun x:Int=> .int .i64 x) rfl rfl rfl (F.ag _ rfl) rfl (by(omega)) (by(omega)) ?_|refine fv (g:=fun x:Int=> .int .i64 x) rfl rfl rfl (fun _=>rfl) (F.sz _ rfl) rfl (by first|omega|(simp only [JI,aP];omega)) (by first|omega|(simp only [JI,aP];omega)) ?_|refine aI (q:=i2) rfl rfl rfl rfl (F.un _ rfl) (F.sz _ rfl) rfl (by omega) (by omega) (by omega) ?_|refine aI (q:=j2) rfl rfl rfl rfl (F.un _ rfl) (F.sz _ rfl) rfl (by omega) (by omega) (by omega) ?_
 refine aA ⟨by kernel_rfl,?_,?_⟩;(focus(repeat(first|exact KO|apply fA;rfl|apply eQ;rfl|refine⟨.inr (by(repeat(refine⟨(by(exact aO (F.un _ rfl) (F.sz _ rfl) rfl rfl rfl (by omega) (by omega) (by omega))),?_⟩));exact KO),?_⟩|refine⟨.inl (by kernel_rfl),?_⟩)))
 repeat first|apply ah;rfl|apply aL;rfl;omega;omega
 refine gz 1 (fun s:(Nat×Nat)×Array (Int)=> [(0,.slu 0 0 n),(1,.sc (.int .i64 (a:Int))),(10,.sc (.int .i64 (s.1.1:Int))),(11,.sc (.int .i64 (s.1.2:Int)))]) (fun s=> [some (cd n s.2)]) (fun s=>a<s.1.1∧s.1.1≤n∧s.1.2<n∧s.2.size=n∧Sort.partLoop bq a s.1.1 s.1.2 s.2=Sort.partLoop bq a (i2+1) (j2-1) (Sort.swp d1 i2 j2)) (fun s=>s.1.2+1-s.1.1) ((i2+1,j2-1),Sort.swp d1 i2 j2) []
  1 (fun s:Nat×Array (Int)=> [(0,.slu 0 0 n),(1,.sc (.int .i64 (a:Int))),(11,.sc (.int .i64 (s.1:Int)))]) (fun s=> [some (cd n s.2)]) (fun s=>s.1<n∧s.2.size=n∧Sort.partLoop bq a (i2+1) (j2-1) (Sort.swp d1 i2 j2)=s)
  (fun _=>rfl) (fun _=>rfl) ⟨by simp only;omega,by simp only;omega,by simp only;omega,by rw [aP];exact hd1,rfl⟩ ?_ (fun _=>rfl) (fun _=>rfl) ?_ ?_
 ·(refine⟨(KC rfl),rfl,(by repeat(first|exact KO|refine⟨rfl,?_⟩|refine⟨fU (by(simp only;omega)),?_⟩)),⟨aB rfl,trivial⟩⟩)
 ·rintro⟨⟨i,j⟩,d3⟩ ⟨hai,hi,hj,hd3,ho⟩ ih outer
  simp only at hai hi hj hd3 ho ih ⊢
  repeat apply ah;rfl
  refine gz 1 (fun x:Nat=> [(0,.slu 0 0 n),(1,.sc (.int .i64 (a:Int))),(10,.sc (.int .i64 (x:Int))),(11,.sc (.int .i64 (j:Int)))]) (fun _=> [some (cd n d3)]) (fun x=>i≤x∧x≤n∧Sort.scanUp (fun y=>bq y d3[a]!) d3 j x=Sort.scanUp (fun y=>bq y d3[a]!) d3 j i) (fun x=>n-x) i []
   1 (fun x:Nat=> [(0,.slu 0 0 n),(1,.sc (.int .i64 (a:Int))),(10,.sc (.int .i64 (x:Int))),(11,.sc (.int .i64 (j:Int)))]) (fun _=> [some (cd n d3)]) (fun x=>i≤x∧x≤n∧Sort.scanUp (fun y=>bq y d3[a]!) d3 j i=x)
   (fun _=>rfl) (fun _=>rfl) ⟨JZ _,hi,rfl⟩ ?_ (fun _=>rfl) (fun _=>rfl) ?_ ?_
  ·(exact KM rfl rfl rfl ⟨aB rfl,trivial⟩)
  ·rintro i1 ⟨hii,hi1,hu⟩ ihu out
   repeat apply ah;rfl
   refine cu (by kernel_rfl) (by kernel_rfl) ?_
   repeat apply aW;rfl
   refine mZ rfl rfl rfl rfl ?_ ?_
   all_goals intro h1
   ·have hls_h2:=fW (d3[i1]!) (d3[a]!)
    cases h2:bq (d3[i1]!) (d3[a]!)
    all_goals rw [h2] at hls_h2
    rotate_left
    all_goals(repeat(first|apply aW;rfl|refine cD (g:=fun x:Int=> .int .i64 x) rfl rfl rfl (F.ag _ rfl) rfl (by(omega)) (by(omega)) ?_|refine aI (q:=a) rfl rfl rfl rfl (F.un _ rfl) (F.sz _ rfl) rfl (by omega) (by omega) (by omega) ?_|refine aI (q:=i1) rfl rfl rfl rfl (F.un _ rfl) (F.sz _ rfl) rfl (by omega) (by omega) (by omega) ?_|refine b9 rfl rfl rfl (by kernel_rfl) (Ctr.callV (hls_h2) [] rfl (KC rfl) rfl trivial rfl) ?_))
    ·skip
     refine aA ⟨by kernel_rfl,?_,?_⟩;(focus(repeat(first|exact KO|apply fA;rfl|apply eQ;rfl|refine⟨.inr (by(repeat(refine⟨(by(exact aO (F.un _ rfl) (F.sz _ rfl) rfl rfl rfl (by omega) (by omega) (by omega))),?_⟩));exact KO),?_⟩|refine⟨.inl (by kernel_rfl),?_⟩)))
     repeat first|apply ah;rfl|apply aL;rfl;omega;omega
     refine ihu _ _ _ (i1+1) [] ⟨by omega,by omega,?_⟩ (by omega) ?_
     ·rw [← hu]
      exact(jT (by omega) (by simpa [bq] using h2)).symm
     ·(exact KM rfl rfl rfl ⟨aB rfl,trivial⟩)
    ·skip
     refine aA ⟨by kernel_rfl,?_,?_⟩;(focus(repeat(first|exact KO|apply fA;rfl|apply eQ;rfl|refine⟨.inr (by(repeat(refine⟨(by(exact aO (F.un _ rfl) (F.sz _ rfl) rfl rfl rfl (by omega) (by omega) (by omega))),?_⟩));exact KO),?_⟩|refine⟨.inl (by kernel_rfl),?_⟩)))
     repeat first|refine out _ _ _ i1 [] ⟨hii,hi1,by rw [← hu];exact dP (.inr (by simpa [bq] using h2))⟩ ?_;(exact KM rfl rfl rfl ⟨aB rfl,trivial⟩)|apply cE;rfl
   ·repeat first|apply aW;rfl|refine cy rfl rfl ?_
    refine aA ⟨by kernel_rfl,?_,?_⟩;(focus(repeat(first|exact KO|apply Bd;rfl|apply eQ;rfl|refine⟨.inl rfl,?_⟩)))
    repeat first|refine out _ _ _ i1 [] ⟨hii,hi1,by rw [← hu];exact dP (.inl (by omega))⟩ ?_;(exact KM rfl rfl rfl ⟨aB rfl,trivial⟩)|apply cE;rfl
  rintro i3 ⟨hii3,hi3,hu3⟩
  repeat apply ah;rfl
  refine gz 1 (fun x:Nat=> [(0,.slu 0 0 n),(1,.sc (.int .i64 (a:Int))),(10,.sc (.int .i64 (i3:Int))),(11,.sc (.int .i64 (x:Int)))]) (fun _=> [some (cd n d3)]) (fun x=>x≤j∧Sort.scanDown (fun y=> !bq y d3[a]!) d3 i3 x=Sort.scanDown (fun y=> !bq y d3[a]!) d3 i3 (j)) (fun x=>x) (j) []
   1 (fun x:Nat=> [(0,.slu 0 0 n),(1,.sc (.int .i64 (a:Int))),(10,.sc (.int .i64 (i3:Int))),(11,.sc (.int .i64 (x:Int)))]) (fun _=> [some (cd n d3)]) (fun x=>x≤j∧Sort.scanDown (fun y=> !bq y d3[a]!) d3 i3 (j)=x)
   (fun _=>rfl) (fun _=>rfl) ⟨JZ _,rfl⟩ ?_ (fun _=>rfl) (fun _=>rfl) ?_ ?_
  ·(exact KM rfl rfl rfl ⟨aB rfl,trivial⟩)
  ·rintro j1 ⟨hjj,hv⟩ ihv out
   repeat apply ah;rfl
   refine cu (by kernel_rfl) (by kernel_rfl) ?_
   repeat apply aW;rfl
   refine mZ rfl rfl rfl rfl ?_ ?_
   all_goals intro h1
   ·have hls_h2:=fW (d3[j1]!) (d3[a]!)
    cases h2:bq (d3[j1]!) (d3[a]!)
    all_goals rw [h2] at hls_h2
    rotate_left
    all_goals(repeat(first|apply aW;rfl|refine cD (g:=fun x:Int=> .int .i64 x) rfl rfl rfl (F.ag _ rfl) rfl (by(omega)) (by(omega)) ?_|refine aI (q:=a) rfl rfl rfl rfl (F.un _ rfl) (F.sz _ rfl) rfl (by omega) (by omega) (by omega) ?_|refine aI (q:=j1) rfl rfl rfl rfl (F.un _ rfl) (F.sz _ rfl) rfl (by omega) (by omega) (by omega) ?_|refine b9 rfl rfl rfl (by kernel_rfl) (Ctr.callV (hls_h2) [] rfl (KC rfl) rfl trivial rfl) ?_))
    ·skip
     refine aA ⟨by kernel_rfl,?_,?_⟩;(focus(repeat(first|exact KO|apply fA;rfl|apply eQ;rfl|refine⟨.inr (by(repeat(refine⟨(by(exact aO (F.un _ rfl) (F.sz _ rfl) rfl rfl rfl (by omega) (by omega) (by omega))),?_⟩));exact KO),?_⟩|refine⟨.inl (by kernel_rfl),?_⟩)))
     repeat first|refine out _ _ _ j1 [] ⟨hjj,by rw [← hv];exact di (.inr (by simpa [bq] using h2))⟩ ?_;(exact KM rfl rfl rfl ⟨aB rfl,trivial⟩)|apply cE;rfl
    ·skip
     refine aA ⟨by kernel_rfl,?_,?_⟩;(focus(repeat(first|exact KO|apply fA;rfl|apply eQ;rfl|refine⟨.inr (by(repeat(refine⟨(by(exact aO (F.un _ rfl) (F.sz _ rfl) rfl rfl rfl (by omega) (by omega) (by omega))),?_⟩));exact KO),?_⟩|refine⟨.inl (by kernel_rfl),?_⟩)))
     repeat first|apply ah;rfl|apply aL;rfl;omega;omega
     obtain⟨j1,rfl⟩: ∃ j',j1=j'+1:=⟨j1-1,by omega⟩
     refine ihv _ _ _ j1 [] ⟨by omega,?_⟩ (by omega) ?_
     ·rw [← hv]
      exact(iq (by omega) (by simpa [bq] using h2)).symm
     ·(refine⟨(KC rfl),rfl,(by repeat(first|exact KO|refine⟨rfl,?_⟩|refine⟨fU (by(omega)),?_⟩)),⟨aB rfl,trivial⟩⟩)
   ·repeat first|apply aW;rfl|refine cy rfl rfl ?_
    refine aA ⟨by kernel_rfl,?_,?_⟩;(focus(repeat(first|exact KO|apply Bd;rfl|apply eQ;rfl|refine⟨.inl rfl,?_⟩)))
    repeat first|refine out _ _ _ j1 [] ⟨hjj,by rw [← hv];exact di (.inl (by omega))⟩ ?_;(exact KM rfl rfl rfl ⟨aB rfl,trivial⟩)|apply cE;rfl
  rintro j3 ⟨hjj3,hv3⟩
  have e:=sX hu3 hv3 hii3 hjj3
  repeat apply ah;rfl
  refine dI rfl rfl rfl rfl ?_ ?_
  all_goals intro h3
  ·rw [ho,Kb (by omega)] at e
   repeat first|refine outer _ _ _ (j3,d3) [] ⟨by simp only;omega,hd3,e⟩ ?_;(exact KM rfl rfl rfl ⟨aB rfl,trivial⟩)|apply cE;rfl
  ·rw [ho,Ka (by omega)] at e
   repeat apply ah;rfl
   refine cu (by kernel_rfl) (by kernel_rfl) ?_
   repeat first|apply aW;rfl|refine cD (g:=fun x:Int=> .int .i64 x) rfl rfl rfl (F.ag _ rfl) rfl (by(omega)) (by(omega)) ?_|refine fv (g:=fun x:Int=> .int .i64 x) rfl rfl rfl (fun _=>rfl) (F.sz _ rfl) rfl (by first|omega|(simp only [JI,aP];omega)) (by first|omega|(simp only [JI,aP];omega)) ?_|refine aI (q:=i3) rfl rfl rfl rfl (F.un _ rfl) (F.sz _ rfl) rfl (by omega) (by omega) (by omega) ?_|refine aI (q:=j3) rfl rfl rfl rfl (F.un _ rfl) (F.sz _ rfl) rfl (by omega) (by omega) (by omega) ?_
   refine aA ⟨by kernel_rfl,?_,?_⟩;(focus(repeat(first|exact KO|apply fA;rfl|apply eQ;rfl|refine⟨.inr (by(repeat(refine⟨(by(exact aO (F.un _ rfl) (F.sz _ rfl) rfl rfl rfl (by omega) (by omega) (by omega))),?_⟩));exact KO),?_⟩|refine⟨.inl (by kernel_rfl),?_⟩)))
   repeat first|apply ah;rfl|apply aL;rfl;omega;omega
   refine ih _ _ _ ((i3+1,j3-1),Sort.swp d3 i3 j3) [] ⟨by simp only;omega,by simp only;omega,by simp only;omega,by rw [aP];exact hd3,e.symm⟩ (by simp only;omega) ?_
   (refine⟨(KC rfl),rfl,(by repeat(first|exact KO|refine⟨rfl,?_⟩|refine⟨fU (by(simp only;omega)),?_⟩)),⟨aB rfl,trivial⟩⟩)
 rintro⟨j3,d3⟩ ⟨hj3,hd3,e⟩
 simp only at hj3 hd3 e ⊢
 rw [e]
 repeat apply ah;rfl
 refine cu (by kernel_rfl) (by kernel_rfl) ?_
 repeat first|apply aW;rfl|refine cD (g:=fun x:Int=> .int .i64 x) rfl rfl rfl (F.ag _ rfl) rfl (by(omega)) (by(omega)) ?_|refine fv (g:=fun x:Int=> .int .i64 x) rfl rfl rfl (fun _=>rfl) (F.sz _ rfl) rfl (by first|omega|(simp only [JI,aP];omega)) (by first|omega|(simp only [JI,aP];omega)) ?_|refine aI (q:=a) rfl rfl rfl rfl (F.un _ rfl) (F.sz _ rfl) rfl (by omega) (by omega) (by omega) ?_|refine aI (q:=j3) rfl rfl rfl rfl (F.un _ rfl) (F.sz _ rfl) rfl (by omega) (by omega) (by omega) ?_
 refine aA ⟨by kernel_rfl,?_,?_⟩;(focus(repeat(first|exact KO|apply fA;rfl|apply eQ;rfl|refine⟨.inr (by(repeat(refine⟨(by(exact aO (F.un _ rfl) (F.sz _ rfl) rfl rfl rfl (by omega) (by omega) (by omega))),?_⟩));exact KO),?_⟩|refine⟨.inl (by kernel_rfl),?_⟩)))
 repeat apply ah;rfl
 ((apply bw Tryz.func115 (congrArg Array.toList Tryz.results115));(focus(repeat(first|exact KF|apply KH rfl)));refine⟨_,rfl,Ends.mk [] (KC rfl) rfl rfl ?_⟩)
 exact⟨aB rfl,trivial⟩
theorem nM(h:i<b)(hp:lt d[i]! d[i-1]! =false):Sort.scanSorted lt d b i=Sort.scanSorted lt d b (i+1):=by
 conv=>lhs;rw [Sort.scanSorted,Kb (by simp [h,hp])]
theorem ib(h:b≤i∨lt d[i]! d[i-1]! =true):Sort.scanSorted lt d b i=i:=by
 rw [Sort.scanSorted,Ka]
 simp only [JY,KB,Bool.not_eq_true']
 rintro⟨h1,h2⟩
 rcases h with h|h
 ·omega
 ·rw [h] at h2;cases h2
theorem mc(h:j<b)(hp:lt d[j]! d[j-1]! =true):Sort.shiftUp lt b j d=Sort.shiftUp lt b (j+1) (Sort.swp d j (j-1)):=by
 conv=>lhs;rw [Sort.shiftUp,Kb h,Ka (by simp [hp])]
theorem fq(h:b≤j∨lt d[j]! d[j-1]! =false):Sort.shiftUp lt b j d=d:=by
 rw [Sort.shiftUp]
 split
 ·rename_i h1
  rw [Kb]
  rcases h with h|h
  ·omega
  ·simp [h]
 ·rfl
theorem sV{d2 d3:Array (Int)}(hi:Sort.scanSorted lt d b i=i1)(h1:i1≠b)(h2: ¬ b-a<50)
 (e2:(if i1-a≥2 then Sort.shiftDown lt (i1-1) (Sort.swp d i1 (i1-1)) else Sort.swp d i1 (i1-1))=d2) (e3:(if b-i1≥2 then Sort.shiftUp lt b (i1+1) d2 else d2)=d3):Sort.partialIns lt a b (s+1) i d=Sort.partialIns lt a b s i1 d3:=by
 rw [Sort.partialIns]
 simp only [hi,Ka h1,Ka h2]
 rw [e2,e3]
theorem sU(hi:Sort.scanSorted lt d b i=i1)(h1:i1=b):Sort.partialIns lt a b (s+1) i d=(d,true):=by
 rw [Sort.partialIns]
 simp only [hi,Kb h1]
theorem qS(hi:Sort.scanSorted lt d b i=i1)(h1:i1≠b)(h2:b-a<50):Sort.partialIns lt a b (s+1) i d=(d,false):=by
 rw [Sort.partialIns]
 simp only [hi,Ka h1,Kb h2]
theorem sW(n a b:Nat)(d:Array (Int))(hn:n<4611686018427387904)(hd:d.size=n)(hab:a<b)(hb:b≤n) :
 Ctr Tryz.prog 112 [.slu 0 0 n,.sc (.int .i64 (a:Int)),.sc (.int .i64 (b:Int))] [cd n d] (fun c=>c=⟨.sc (.bool (Sort.partialInsertionSort bq d a b).2),[some (cd n (Sort.partialInsertionSort bq d a b).1)]⟩):=by
 refine KE Tryz.func112 rfl rfl ?_
 repeat first|apply ah;rfl|apply aL;rfl;omega;omega
 refine gA 1 (fun s:(Nat×Nat)×Array (Int)=> [(0,.slu 0 0 n),(1,.sc (.int .i64 (a:Int))),(2,.sc (.int .i64 (b:Int))),(7,.sc (.int .i64 (s.1.2:Int))),(8,.sc (.int .i64 ((5-s.1.1:Nat):Int)))]) (fun s=> [some (cd n s.2)]) (fun s=>s.1.1≤5∧a+1≤s.1.2∧s.1.2≤b∧s.2.size=n∧Sort.partialIns bq a b s.1.1 s.1.2 s.2=Sort.partialInsertionSort bq d a b) (fun s=>s.1.1) ((5,a+1),d) []
  (fun _=>rfl) ⟨JZ _,JZ _,hab,hd,rfl⟩ ?_ (fun _=>rfl) (fun _=>rfl) ?_
 ·(exact KM rfl rfl rfl ⟨aB rfl,trivial⟩)
 rintro⟨⟨s,i⟩,d0⟩ ⟨hs,hai,hi,hd0,ho⟩ ih
 simp only at hs hai hi hd0 ho ih ⊢
 repeat apply ah;rfl
 refine bu rfl rfl rfl rfl ?_ ?_
 all_goals intro h0
 ·obtain⟨s,rfl⟩: ∃ s',s=s'+1:=⟨s-1,by omega⟩
  repeat apply ah;rfl
  refine gz 1 (fun x:Nat=> [(0,.slu 0 0 n),(1,.sc (.int .i64 (a:Int))),(2,.sc (.int .i64 (b:Int))),(7,.sc (.int .i64 (x:Int))),(8,.sc (.int .i64 ((5-(s+1):Nat):Int)))]) (fun _=> [some (cd n d0)]) (fun x=>a+1≤x∧x≤b∧Sort.scanSorted bq d0 b x=Sort.scanSorted bq d0 b i) (fun x=>b-x) i []
   1 (fun x:Nat=> [(0,.slu 0 0 n),(1,.sc (.int .i64 (a:Int))),(2,.sc (.int .i64 (b:Int))),(7,.sc (.int .i64 (x:Int))),(8,.sc (.int .i64 ((5-(s+1):Nat):Int)))]) (fun _=> [some (cd n d0)]) (fun x=>a+1≤x∧x≤b∧Sort.scanSorted bq d0 b i=x)
   (fun _=>rfl) (fun _=>rfl) ⟨hai,hi,rfl⟩ ?_ (fun _=>rfl) (fun _=>rfl) ?_ ?_
  ·(exact KM rfl rfl rfl ⟨aB rfl,trivial⟩)
  ·rintro i1 ⟨hai1,hi1,hu⟩ ihu out
   repeat apply ah;rfl
   refine cu (by kernel_rfl) (by kernel_rfl) ?_
   repeat apply aW;rfl
   refine cW rfl rfl rfl rfl ?_ ?_
   all_goals intro h1
   ·have hls_h2:=fW (d0[i1]!) (d0[i1-1]!)
    cases h2:bq (d0[i1]!) (d0[i1-1]!)
    all_goals rw [h2] at hls_h2
    rotate_left
    all_goals(repeat(first|apply aW;rfl|refine bp (aw rfl rfl (.inr (.inl ⟨rfl,(JH _ ⟨(by omega),(by omega)⟩).symm⟩))) rfl rfl rfl ?_|refine cD (g:=fun x:Int=> .int .i64 x) rfl rfl rfl (F.ag _ rfl) rfl (by(omega)) (by(omega)) ?_|refine aI (q:=i1) rfl rfl rfl rfl (F.un _ rfl) (F.sz _ rfl) rfl (by omega) (by omega) (by omega) ?_|refine aI (q:=i1-1) rfl rfl rfl rfl (F.un _ rfl) (F.sz _ rfl) rfl (by omega) (by omega) (by omega) ?_|refine b9 rfl rfl rfl (by kernel_rfl) (Ctr.callV (hls_h2) [] rfl (KC rfl) rfl trivial rfl) ?_))
    ·skip
     refine aA ⟨by kernel_rfl,?_,?_⟩;(focus(repeat(first|exact KO|apply fA;rfl|apply eQ;rfl|refine⟨.inr (by(repeat(refine⟨(by first|exact aO (F.un _ rfl) (F.sz _ rfl) rfl rfl rfl (by omega) (by omega) (by omega)|exact aw rfl rfl (.inr (.inl ⟨rfl,(JH _ ⟨by omega,by omega⟩).symm⟩))),?_⟩));exact KO),?_⟩|refine⟨.inl (by kernel_rfl),?_⟩)))
     repeat first|refine out _ _ _ i1 [] ⟨hai1,hi1,by rw [← hu];exact ib (.inr (by simpa [bq] using h2))⟩ ?_;(exact KM rfl rfl rfl ⟨aB rfl,trivial⟩)|apply cE;rfl
    ·skip
     refine aA ⟨by kernel_rfl,?_,?_⟩;(focus(repeat(first|exact KO|apply fA;rfl|apply eQ;rfl|refine⟨.inr (by(repeat(refine⟨(by first|exact aO (F.un _ rfl) (F.sz _ rfl) rfl rfl rfl (by omega) (by omega) (by omega)|exact aw rfl rfl (.inr (.inl ⟨rfl,(JH _ ⟨by omega,by omega⟩).symm⟩))),?_⟩));exact KO),?_⟩|refine⟨.inl (by kernel_rfl),?_⟩)))
     repeat first|apply ah;rfl|apply aL;rfl;omega;omega
     refine ihu _ _ _ (i1+1) [] ⟨by omega,by omega,?_⟩ (by omega) ?_
     ·rw [← hu]
      exact(nM (by omega) (by simpa [bq] using h2)).symm
     ·(exact KM rfl rfl rfl ⟨aB rfl,trivial⟩)
   ·repeat first|apply aW;rfl|refine cy rfl rfl ?_
    refine aA ⟨by kernel_rfl,?_,?_⟩;(focus(repeat(first|exact KO|apply Bd;rfl|apply eQ;rfl|refine⟨.inl rfl,?_⟩)))
    repeat first|refine out _ _ _ i1 [] ⟨hai1,hi1,by rw [← hu];exact ib (.inl (by omega))⟩ ?_;(exact KM rfl rfl rfl ⟨aB rfl,trivial⟩)|apply cE;rfl
  rintro i1 ⟨hai1,hi1,hu⟩
  repeat apply ah;rfl
  refine cF rfl rfl rfl rfl ?_ ?_
  all_goals intro h1
  ·rw [sU hu (by omega)] at ho
   repeat apply ah;rfl
   rw [← ho]
   ((apply bw Tryz.func112 (congrArg Array.toList Tryz.results112));(focus(repeat(first|exact KF|apply KH rfl)));refine⟨_,rfl,Ends.mk [] (KC rfl) rfl rfl ?_⟩)
   exact⟨aB rfl,trivial⟩
  repeat first|apply ah;rfl|apply aL;rfl;omega;omega
  refine bu rfl rfl rfl rfl ?_ ?_
  all_goals intro h2
  ·rw [qS hu (by omega) (by omega)] at ho
   repeat apply ah;rfl
   rw [← ho]
   ((apply bw Tryz.func112 (congrArg Array.toList Tryz.results112));(focus(repeat(first|exact KF|apply KH rfl)));refine⟨_,rfl,Ends.mk [] (KC rfl) rfl rfl ?_⟩)
   exact⟨aB rfl,trivial⟩
  repeat apply ah;rfl
  refine cu (by kernel_rfl) (by kernel_rfl) ?_
  repeat first|apply aW;rfl|refine bp (aw rfl rfl (.inr (.inl ⟨rfl,(JH _ ⟨(by omega),(by omega)⟩).symm⟩))) rfl rfl rfl ?_|refine cD (g:=fun x:Int=> .int .i64 x) rfl rfl rfl (F.ag _ rfl) rfl (by(omega)) (by(omega)) ?_|refine fv (g:=fun x:Int=> .int .i64 x) rfl rfl rfl (fun _=>rfl) (F.sz _ rfl) rfl (by first|omega|(simp only [JI,aP];omega)) (by first|omega|(simp only [JI,aP];omega)) ?_|refine aI (q:=i1) rfl rfl rfl rfl (F.un _ rfl) (F.sz _ rfl) rfl (by omega) (by omega) (by omega) ?_|refine aI (q:=i1-1) rfl rfl rfl rfl (F.un _ rfl) (F.sz _ rfl) rfl (by omega) (by omega) (by omega) ?_
  refine aA ⟨by kernel_rfl,?_,?_⟩;(focus(repeat(first|exact KO|apply fA;rfl|apply eQ;rfl|refine⟨.inr (by(repeat(refine⟨(by first|exact aO (F.un _ rfl) (F.sz _ rfl) rfl rfl rfl (by omega) (by omega) (by omega)|exact aw rfl rfl (.inr (.inl ⟨rfl,(JH _ ⟨by omega,by omega⟩).symm⟩))),?_⟩));exact KO),?_⟩|refine⟨.inl (by kernel_rfl),?_⟩)))
  have hd1:(Sort.swp d0 i1 (i1-1)).size=n:=by rw [aP];exact hd0
  have e2: ∃ d2,(if i1-a≥2 then Sort.shiftDown bq (i1-1) (Sort.swp d0 i1 (i1-1)) else Sort.swp d0 i1 (i1-1))=d2:=⟨_,rfl⟩
  obtain⟨d2,e2⟩:=e2
  have hps:=fun d3 e3=>sV (s:=s) (d3:=d3) hu (by omega) (by omega) e2 e3
  generalize hsw:Sort.swp d0 i1 (i1-1)=d1 at e2 hd1
  have hsw':(d0.setIfInBounds i1 d0[i1-1]!).setIfInBounds (i1-1) d0[i1]! =d1:=hsw
  rw [hsw']
  repeat first|apply ah;rfl|apply aL;rfl;omega;omega
  refine eK rfl rfl rfl rfl ?_ ?_
  all_goals intro h3
  ·rw [Kb (by omega)] at e2
   repeat first|apply ah;rfl|apply aL;rfl;omega;omega
   refine gz 1 (fun s1:Nat×Array (Int)=> [(0,.slu 0 0 n),(1,.sc (.int .i64 (a:Int))),(2,.sc (.int .i64 (b:Int))),(7,.sc (.int .i64 (i1:Int))),(8,.sc (.int .i64 ((5-(s+1):Nat):Int))),(9,.sc (.int .i64 (s1.1:Int)))]) (fun s1=> [some (cd n s1.2)]) (fun s1=>s1.1≤i1-1∧s1.2.size=n∧Sort.shiftDown bq s1.1 s1.2=d2) (fun s1=>s1.1) (i1-1,d1) []
    1 (fun d':Array (Int)=> [(0,.slu 0 0 n),(1,.sc (.int .i64 (a:Int))),(2,.sc (.int .i64 (b:Int))),(7,.sc (.int .i64 (i1:Int))),(8,.sc (.int .i64 ((5-(s+1):Nat):Int)))]) (fun d'=> [some (cd n d')]) (fun d'=>d'.size=n∧d'=d2)
    (fun _=>rfl) (fun _=>rfl) ⟨JZ _,hd1,e2⟩ ?_ (fun _=>rfl) (fun _=>rfl) ?_ ?_
   ·(refine⟨(KC rfl),rfl,(by repeat(first|exact KO|refine⟨rfl,?_⟩|refine⟨fU (by(omega)),?_⟩)),⟨aB rfl,trivial⟩⟩)
   ·rintro⟨j,d'⟩ ⟨hj,hd',hsd⟩ ihd out
    simp only at hj hd' hsd ihd ⊢
    repeat apply ah;rfl
    refine eK rfl rfl rfl rfl ?_ ?_
    all_goals intro h4
    ·obtain⟨j,rfl⟩: ∃ j',j=j'+1:=⟨j-1,by omega⟩
     repeat apply ah;rfl
     refine cu (by kernel_rfl) (by kernel_rfl) ?_
     have hls_h5:=fW (d'[j+1]!) (d'[j]!)
     cases h5:bq (d'[j+1]!) (d'[j]!)
     all_goals rw [h5] at hls_h5
     rotate_left
     all_goals(repeat(first|apply aW;rfl|refine bp (aw rfl rfl (.inr (.inl ⟨rfl,(JH _ ⟨(by omega),(by omega)⟩).symm⟩))) rfl rfl rfl ?_|refine cD (g:=fun x:Int=> .int .i64 x) rfl rfl rfl (F.ag _ rfl) rfl (by(omega)) (by(omega)) ?_|refine aI (q:=j+1) rfl rfl rfl rfl (F.un _ rfl) (F.sz _ rfl) rfl (by omega) (by omega) (by omega) ?_|refine aI (q:=j) rfl rfl rfl rfl (F.un _ rfl) (F.sz _ rfl) rfl (by omega) (by omega) (by omega) ?_|refine b9 rfl rfl rfl (by kernel_rfl) (Ctr.callV (hls_h5) [] rfl (KC rfl) rfl trivial rfl) ?_))
     ·skip
      refine aA ⟨by kernel_rfl,?_,?_⟩;(focus(repeat(first|exact KO|apply fA;rfl|apply eQ;rfl|refine⟨.inr (by(repeat(refine⟨(by first|exact aO (F.un _ rfl) (F.sz _ rfl) rfl rfl rfl (by omega) (by omega) (by omega)|exact aw rfl rfl (.inr (.inl ⟨rfl,(JH _ ⟨by omega,by omega⟩).symm⟩))),?_⟩));exact KO),?_⟩|refine⟨.inl (by kernel_rfl),?_⟩)))
      repeat apply ah;rfl
      refine cu (by kernel_rfl) (by kernel_rfl) ?_
      repeat first|apply aW;rfl|refine bp (aw rfl rfl (.inr (.inl ⟨rfl,(JH _ ⟨(by omega),(by omega)⟩).symm⟩))) rfl rfl rfl ?_|refine cD (g:=fun x:Int=> .int .i64 x) rfl rfl rfl (F.ag _ rfl) rfl (by(omega)) (by(omega)) ?_|refine fv (g:=fun x:Int=> .int .i64 x) rfl rfl rfl (fun _=>rfl) (F.sz _ rfl) rfl (by first|omega|(simp only [JI,aP];omega)) (by first|omega|(simp only [JI,aP];omega)) ?_|refine aI (q:=j+1) rfl rfl rfl rfl (F.un _ rfl) (F.sz _ rfl) rfl (by omega) (by omega) (by omega) ?_|refine aI (q:=j) rfl rfl rfl rfl (F.un _ rfl) (F.sz _ rfl) rfl (by omega) (by omega) (by omega) ?_
      refine aA ⟨by kernel_rfl,?_,?_⟩;(focus(repeat(first|exact KO|apply fA;rfl|apply eQ;rfl|refine⟨.inr (by(repeat(refine⟨(by first|exact aO (F.un _ rfl) (F.sz _ rfl) rfl rfl rfl (by omega) (by omega) (by omega)|exact aw rfl rfl (.inr (.inl ⟨rfl,(JH _ ⟨by omega,by omega⟩).symm⟩))),?_⟩));exact KO),?_⟩|refine⟨.inl (by kernel_rfl),?_⟩)))
      repeat first|apply ah;rfl|apply aL;rfl;omega;omega
      refine ihd _ _ _ (j,Sort.swp d' (j+1) j) [] ⟨by simp only;omega,by rw [aP];exact hd',?_⟩ (by simp only;omega) ?_
      ·rw [← hsd]
       conv=>rhs;rw [Sort.shiftDown,Ka (by simpa [bq] using h5)]
      ·(refine⟨(KC rfl),rfl,(by repeat(first|exact KO|refine⟨rfl,?_⟩|refine⟨fU (by(omega)),?_⟩)),⟨aB rfl,trivial⟩⟩)
     ·skip
      refine aA ⟨by kernel_rfl,?_,?_⟩;(focus(repeat(first|exact KO|apply fA;rfl|apply eQ;rfl|refine⟨.inr (by(repeat(refine⟨(by first|exact aO (F.un _ rfl) (F.sz _ rfl) rfl rfl rfl (by omega) (by omega) (by omega)|exact aw rfl rfl (.inr (.inl ⟨rfl,(JH _ ⟨by omega,by omega⟩).symm⟩))),?_⟩));exact KO),?_⟩|refine⟨.inl (by kernel_rfl),?_⟩)))
      repeat first|refine out _ _ _ d' [] ⟨hd',by rw [← hsd,Sort.shiftDown,Kb (by simpa [bq] using h5)]⟩ ?_;(exact KM rfl rfl rfl ⟨aB rfl,trivial⟩)|apply cE;rfl
    ·obtain rfl:j=0:=by omega
     repeat first|refine out _ _ _ d' [] ⟨hd',hsd⟩ ?_;(exact KM rfl rfl rfl ⟨aB rfl,trivial⟩)|apply cE;rfl
   rintro d2' ⟨hd2,rfl⟩
   repeat first|apply ah;rfl|apply aL;rfl;omega;omega
   refine eK rfl rfl rfl rfl ?_ ?_
   all_goals intro h6
   ·repeat first|apply ah;rfl|apply aL;rfl;omega;omega
    refine gz 1 (fun s1:Nat×Array (Int)=> [(0,.slu 0 0 n),(1,.sc (.int .i64 (a:Int))),(2,.sc (.int .i64 (b:Int))),(7,.sc (.int .i64 (i1:Int))),(8,.sc (.int .i64 ((5-(s+1):Nat):Int))),(10,.sc (.int .i64 (s1.1:Int)))]) (fun s1=> [some (cd n s1.2)]) (fun s1=>i1+1≤s1.1∧s1.1≤b∧s1.2.size=n∧Sort.shiftUp bq b s1.1 s1.2=Sort.shiftUp bq b (i1+1) d2') (fun s1=>b-s1.1) (i1+1,d2') []
     1 (fun d':Array (Int)=> [(0,.slu 0 0 n),(1,.sc (.int .i64 (a:Int))),(2,.sc (.int .i64 (b:Int))),(7,.sc (.int .i64 (i1:Int))),(8,.sc (.int .i64 ((5-(s+1):Nat):Int)))]) (fun d'=> [some (cd n d')]) (fun d'=>d'.size=n∧Sort.shiftUp bq b (i1+1) d2'=d')
     (fun _=>rfl) (fun _=>rfl) ⟨JZ _,by simp only;omega,hd2,rfl⟩ ?_ (fun _=>rfl) (fun _=>rfl) ?_ ?_
    ·(exact KM rfl rfl rfl ⟨aB rfl,trivial⟩)
    ·rintro⟨j,d'⟩ ⟨hj,hjb,hd',hsd⟩ ihd out
     simp only at hj hjb hd' hsd ihd ⊢
     repeat apply ah;rfl
     refine bu rfl rfl rfl rfl ?_ ?_
     all_goals intro h4
     ·repeat apply ah;rfl
      refine cu (by kernel_rfl) (by kernel_rfl) ?_
      have hls_h5:=fW (d'[j]!) (d'[j-1]!)
      cases h5:bq (d'[j]!) (d'[j-1]!)
      all_goals rw [h5] at hls_h5
      rotate_left
      all_goals(repeat(first|apply aW;rfl|refine bp (aw rfl rfl (.inr (.inl ⟨rfl,(JH _ ⟨(by omega),(by omega)⟩).symm⟩))) rfl rfl rfl ?_|refine cD (g:=fun x:Int=> .int .i64 x) rfl rfl rfl (F.ag _ rfl) rfl (by(omega)) (by(omega)) ?_|refine aI (q:=j) rfl rfl rfl rfl (F.un _ rfl) (F.sz _ rfl) rfl (by omega) (by omega) (by omega) ?_|refine aI (q:=j-1) rfl rfl rfl rfl (F.un _ rfl) (F.sz _ rfl) rfl (by omega) (by omega) (by omega) ?_|refine b9 rfl rfl rfl (by kernel_rfl) (Ctr.callV (hls_h5) [] rfl (KC rfl) rfl trivial rfl) ?_))
      ·skip
       refine aA ⟨by kernel_rfl,?_,?_⟩;(focus(repeat(first|exact KO|apply fA;rfl|apply eQ;rfl|refine⟨.inr (by(repeat(refine⟨(by first|exact aO (F.un _ rfl) (F.sz _ rfl) rfl rfl rfl (by omega) (by omega) (by omega)|exact aw rfl rfl (.inr (.inl ⟨rfl,(JH _ ⟨by omega,by omega⟩).symm⟩))),?_⟩));exact KO),?_⟩|refine⟨.inl (by kernel_rfl),?_⟩)))
       repeat apply ah;rfl
       refine cu (by kernel_rfl) (by kernel_rfl) ?_
       repeat first|apply aW;rfl|refine bp (aw rfl rfl (.inr (.inl ⟨rfl,(JH _ ⟨(by omega),(by omega)⟩).symm⟩))) rfl rfl rfl ?_|refine cD (g:=fun x:Int=> .int .i64 x) rfl rfl rfl (F.ag _ rfl) rfl (by(omega)) (by(omega)) ?_|refine fv (g:=fun x:Int=> .int .i64 x) rfl rfl rfl (fun _=>rfl) (F.sz _ rfl) rfl (by first|omega|(simp only [JI,aP];omega)) (by first|omega|(simp only [JI,aP];omega)) ?_|refine aI (q:=j) rfl rfl rfl rfl (F.un _ rfl) (F.sz _ rfl) rfl (by omega) (by omega) (by omega) ?_|refine aI (q:=j-1) rfl rfl rfl rfl (F.un _ rfl) (F.sz _ rfl) rfl (by omega) (by omega) (by omega) ?_
       refine aA ⟨by kernel_rfl,?_,?_⟩;(focus(repeat(first|exact KO|apply fA;rfl|apply eQ;rfl|refine⟨.inr (by(repeat(refine⟨(by first|exact aO (F.un _ rfl) (F.sz _ rfl) rfl rfl rfl (by omega) (by omega) (by omega)|exact aw rfl rfl (.inr (.inl ⟨rfl,(JH _ ⟨by omega,by omega⟩).symm⟩))),?_⟩));exact KO),?_⟩|refine⟨.inl (by kernel_rfl),?_⟩)))
       repeat first|apply ah;rfl|apply aL;rfl;omega;omega
       refine ihd _ _ _ (j+1,Sort.swp d' j (j-1)) [] ⟨by simp only;omega,by simp only;omega,by rw [aP];exact hd',?_⟩ (by simp only;omega) ?_
       ·rw [← hsd]
        exact(mc (by omega) (by simpa [bq] using h5)).symm
       ·(exact KM rfl rfl rfl ⟨aB rfl,trivial⟩)
      ·skip
       refine aA ⟨by kernel_rfl,?_,?_⟩;(focus(repeat(first|exact KO|apply fA;rfl|apply eQ;rfl|refine⟨.inr (by(repeat(refine⟨(by first|exact aO (F.un _ rfl) (F.sz _ rfl) rfl rfl rfl (by omega) (by omega) (by omega)|exact aw rfl rfl (.inr (.inl ⟨rfl,(JH _ ⟨by omega,by omega⟩).symm⟩))),?_⟩));exact KO),?_⟩|refine⟨.inl (by kernel_rfl),?_⟩)))
       repeat first|refine out _ _ _ d' [] ⟨hd',by rw [← hsd];exact fq (.inr (by simpa [bq] using h5))⟩ ?_;(exact KM rfl rfl rfl ⟨aB rfl,trivial⟩)|apply cE;rfl
     ·repeat first|refine out _ _ _ d' [] ⟨hd',by rw [← hsd];exact fq (.inl (by omega))⟩ ?_;(exact KM rfl rfl rfl ⟨aB rfl,trivial⟩)|apply cE;rfl
    rintro d3 ⟨hd3,e3⟩
    repeat first|apply ah;rfl|apply aL;rfl;omega;omega
    refine ih _ _ _ ((s,i1),d3) [] ⟨by simp only;omega,hai1,hi1,hd3,by rw [← ho];exact(hps d3 (by rw [Kb (by omega)];exact e3)).symm⟩ (by simp only;omega) ?_
    (refine⟨(KC rfl),rfl,(by repeat(first|exact KO|refine⟨rfl,?_⟩|refine⟨fU (by(simp only;omega)),?_⟩)),⟨aB rfl,trivial⟩⟩)
   ·repeat first|apply ah;rfl|apply aL;rfl;omega;omega
    refine ih _ _ _ ((s,i1),d2') [] ⟨by simp only;omega,hai1,hi1,hd2,by rw [← ho];exact(hps d2' (by rw [Ka (by omega)])).symm⟩ (by simp only;omega) ?_
    (refine⟨(KC rfl),rfl,(by repeat(first|exact KO|refine⟨rfl,?_⟩|refine⟨fU (by(simp only;omega)),?_⟩)),⟨aB rfl,trivial⟩⟩)
  ·rw [Ka (by omega)] at e2
   subst e2
   have hd2:=hd1
   repeat first|apply ah;rfl|apply aL;rfl;omega;omega
   refine eK rfl rfl rfl rfl ?_ ?_
   all_goals intro h6
   ·repeat first|apply ah;rfl|apply aL;rfl;omega;omega
    refine gz 1 (fun s1:Nat×Array (Int)=> [(0,.slu 0 0 n),(1,.sc (.int .i64 (a:Int))),(2,.sc (.int .i64 (b:Int))),(7,.sc (.int .i64 (i1:Int))),(8,.sc (.int .i64 ((5-(s+1):Nat):Int))),(10,.sc (.int .i64 (s1.1:Int)))]) (fun s1=> [some (cd n s1.2)]) (fun s1=>i1+1≤s1.1∧s1.1≤b∧s1.2.size=n∧Sort.shiftUp bq b s1.1 s1.2=Sort.shiftUp bq b (i1+1) d1) (fun s1=>b-s1.1) (i1+1,d1) []
     1 (fun d':Array (Int)=> [(0,.slu 0 0 n),(1,.sc (.int .i64 (a:Int))),(2,.sc (.int .i64 (b:Int))),(7,.sc (.int .i64 (i1:Int))),(8,.sc (.int .i64 ((5-(s+1):Nat):Int)))]) (fun d'=> [some (cd n d')]) (fun d'=>d'.size=n∧Sort.shiftUp bq b (i1+1) d1=d')
     (fun _=>rfl) (fun _=>rfl) ⟨JZ _,by simp only;omega,hd2,rfl⟩ ?_ (fun _=>rfl) (fun _=>rfl) ?_ ?_
    ·(exact KM rfl rfl rfl ⟨aB rfl,trivial⟩)
    ·rintro⟨j,d'⟩ ⟨hj,hjb,hd',hsd⟩ ihd out
     simp only at hj hjb hd' hsd ihd ⊢
     repeat apply ah;rfl
     refine bu rfl rfl rfl rfl ?_ ?_
     all_goals intro h4
     ·repeat apply ah;rfl
      refine cu (by kernel_rfl) (by kernel_rfl) ?_
      have hls_h5:=fW (d'[j]!) (d'[j-1]!)
      cases h5:bq (d'[j]!) (d'[j-1]!)
      all_goals rw [h5] at hls_h5
      rotate_left
      all_goals(repeat(first|apply aW;rfl|refine bp (aw rfl rfl (.inr (.inl ⟨rfl,(JH _ ⟨(by omega),(by omega)⟩).symm⟩))) rfl rfl rfl ?_|refine cD (g:=fun x:Int=> .int .i64 x) rfl rfl rfl (F.ag _ rfl) rfl (by(omega)) (by(omega)) ?_|refine aI (q:=j) rfl rfl rfl rfl (F.un _ rfl) (F.sz _ rfl) rfl (by omega) (by omega) (by omega) ?_|refine aI (q:=j-1) rfl rfl rfl rfl (F.un _ rfl) (F.sz _ rfl) rfl (by omega) (by omega) (by omega) ?_|refine b9 rfl rfl rfl (by kernel_rfl) (Ctr.callV (hls_h5) [] rfl (KC rfl) rfl trivial rfl) ?_))
      ·skip
       refine aA ⟨by kernel_rfl,?_,?_⟩;(focus(repeat(first|exact KO|apply fA;rfl|apply eQ;rfl|refine⟨.inr (by(repeat(refine⟨(by first|exact aO (F.un _ rfl) (F.sz _ rfl) rfl rfl rfl (by omega) (by omega) (by omega)|exact aw rfl rfl (.inr (.inl ⟨rfl,(JH _ ⟨by omega,by omega⟩).symm⟩))),?_⟩));exact KO),?_⟩|refine⟨.inl (by kernel_rfl),?_⟩)))
       repeat apply ah;rfl
       refine cu (by kernel_rfl) (by kernel_rfl) ?_
       repeat first|apply aW;rfl|refine bp (aw rfl rfl (.inr (.inl ⟨rfl,(JH _ ⟨(by omega),(by omega)⟩).symm⟩))) rfl rfl rfl ?_|refine cD (g:=fun x:Int=> .int .i64 x) rfl rfl rfl (F.ag _ rfl) rfl (by(omega)) (by(omega)) ?_|refine fv (g:=fun x:Int=> .int .i64 x) rfl rfl rfl (fun _=>rfl) (F.sz _ rfl) rfl (by first|omega|(simp only [JI,aP];omega)) (by first|omega|(simp only [JI,aP];omega)) ?_|refine aI (q:=j) rfl rfl rfl rfl (F.un _ rfl) (F.sz _ rfl) rfl (by omega) (by omega) (by omega) ?_|refine aI (q:=j-1) rfl rfl rfl rfl (F.un _ rfl) (F.sz _ rfl) rfl (by omega) (by omega) (by omega) ?_
       refine aA ⟨by kernel_rfl,?_,?_⟩;(focus(repeat(first|exact KO|apply fA;rfl|apply eQ;rfl|refine⟨.inr (by(repeat(refine⟨(by first|exact aO (F.un _ rfl) (F.sz _ rfl) rfl rfl rfl (by omega) (by omega) (by omega)|exact aw rfl rfl (.inr (.inl ⟨rfl,(JH _ ⟨by omega,by omega⟩).symm⟩))),?_⟩));exact KO),?_⟩|refine⟨.inl (by kernel_rfl),?_⟩)))
       repeat first|apply ah;rfl|apply aL;rfl;omega;omega
       refine ihd _ _ _ (j+1,Sort.swp d' j (j-1)) [] ⟨by simp only;omega,by simp only;omega,by rw [aP];exact hd',?_⟩ (by simp only;omega) ?_
       ·rw [← hsd]
        exact(mc (by omega) (by simpa [bq] using h5)).symm
       ·(exact KM rfl rfl rfl ⟨aB rfl,trivial⟩)
      ·skip
       refine aA ⟨by kernel_rfl,?_,?_⟩;(focus(repeat(first|exact KO|apply fA;rfl|apply eQ;rfl|refine⟨.inr (by(repeat(refine⟨(by first|exact aO (F.un _ rfl) (F.sz _ rfl) rfl rfl rfl (by omega) (by omega) (by omega)|exact aw rfl rfl (.inr (.inl ⟨rfl,(JH _ ⟨by omega,by omega⟩).symm⟩))),?_⟩));exact KO),?_⟩|refine⟨.inl (by kernel_rfl),?_⟩)))
       repeat first|refine out _ _ _ d' [] ⟨hd',by rw [← hsd];exact fq (.inr (by simpa [bq] using h5))⟩ ?_;(exact KM rfl rfl rfl ⟨aB rfl,trivial⟩)|apply cE;rfl
     ·repeat first|refine out _ _ _ d' [] ⟨hd',by rw [← hsd];exact fq (.inl (by omega))⟩ ?_;(exact KM rfl rfl rfl ⟨aB rfl,trivial⟩)|apply cE;rfl
    rintro d3 ⟨hd3,e3⟩
    repeat first|apply ah;rfl|apply aL;rfl;omega;omega
    refine ih _ _ _ ((s,i1),d3) [] ⟨by simp only;omega,hai1,hi1,hd3,by rw [← ho];exact(hps d3 (by rw [Kb (by omega)];exact e3)).symm⟩ (by simp only;omega) ?_
    (refine⟨(KC rfl),rfl,(by repeat(first|exact KO|refine⟨rfl,?_⟩|refine⟨fU (by(simp only;omega)),?_⟩)),⟨aB rfl,trivial⟩⟩)
   ·repeat first|apply ah;rfl|apply aL;rfl;omega;omega
    refine ih _ _ _ ((s,i1),d1) [] ⟨by simp only;omega,hai1,hi1,hd2,by rw [← ho];exact(hps d1 (by rw [Ka (by omega)])).symm⟩ (by simp only;omega) ?_
    (refine⟨(KC rfl),rfl,(by repeat(first|exact KO|refine⟨rfl,?_⟩|refine⟨fU (by(omega)),?_⟩)),⟨aB rfl,trivial⟩⟩)
 ·obtain rfl:s=0:=by omega
  repeat apply ah;rfl
  rw [← ho]
  ((apply bw Tryz.func112 (congrArg Array.toList Tryz.results112));(focus(repeat(first|exact KF|apply KH rfl)));refine⟨_,rfl,Ends.mk [] (KC rfl) rfl rfl ?_⟩)
  exact⟨aB rfl,trivial⟩
def s8(a len m:Nat):Nat→UInt64×Array (Int)→Nat→UInt64×Array (Int)
 | 0,st,_=>st
 | k+1,st,i=>s8 a len m k (Sort.breakStep a len m st i) (i+1)
theorem uM(n a b:Nat)(d:Array (Int))(hn:n<65536)(hd:d.size=n)(hab:a≤b)(hb:b≤n) :
 Ctr Tryz.prog 109 [.slu 0 0 n,.sc (.int .i64 (a:Int)),.sc (.int .i64 (b:Int))] [cd n d] (fun c=>c=⟨.tup [],[some (cd n (Sort.breakPatterns d a b))]⟩):=by
 have eba:(b:Int)-(a:Int)=((b-a:Nat):Int):=by omega
 refine KE Tryz.func109 rfl rfl ?_
 repeat first|apply ah;rfl|apply aL;rfl;omega;omega
 rw [eba]
 have ebp:Sort.breakPatterns d a b=Sort.breakPatterns d a b:=rfl
 conv at ebp=>rhs;unfold Sort.breakPatterns
 simp only at ebp
 refine eK rfl rfl rfl rfl ?_ ?_
 all_goals intro h1
 ·rw [Kb (by omega)] at ebp
  have ep:Sort.bitsLen (b-a)≤16:=qk (by omega)
  have eq1:(1:Nat) <<< Sort.bitsLen (b-a)=2 ^ Sort.bitsLen (b-a):=by rw [Nat.shiftLeft_eq,Nat.one_mul]
  have eq2:2 ^ Sort.bitsLen (b-a)≤2*(b-a):=Sort.two_pow_bitsLen_le (by omega)
  have eq3:0<2 ^ Sort.bitsLen (b-a):=Nat.pow_pos (by decide)
  repeat first|apply ah;rfl|apply aG;rfl;(focus((repeat(exact ac));done));rfl|apply aL;rfl;omega;omega|refine cf (pX rfl rfl (by omega) (jF (by omega) (by omega) (by omega))) rfl rfl rfl ?_|refine cf (bZ (F.un _ rfl) (F.un _ rfl) rfl (show _=((b-a:Nat):Int)from Kz _ ⟨by omega,by omega⟩)) rfl rfl rfl ?_|refine ow (zH (b-a) (by omega)) [] rfl rfl rfl (by kernel_rfl) rfl (KC rfl) rfl trivial ?_
  rw [eq1] at ebp
  generalize hm:2 ^ Sort.bitsLen (b-a)=m at ebp eq2 eq3
  have e4:(a:Int)+((b-a:Nat):Int) / 4*2-1=((a+(b-a) / 4*2-1:Nat):Int):=by omega
  rw [e4]
  have hbase:a+(b-a) / 4*2-1+3≤b:=by omega
  have hlt:0<a+(b-a) / 4*2:=by omega
  generalize hbs:a+(b-a) / 4*2-1=base at ebp hbase
  have ht:Sort.breakPatterns d a b=(s8 a (b-a) m 3 (UInt64.ofNat (b-a),d) base).2:=ebp
  refine gA 2 (fun s:(Nat×UInt64)×Array (Int)=> [(0,.slu 0 0 n),(1,.sc (.int .i64 (a:Int))),(6,.sc (.int .i64 ((b-a:Nat):Int))),(7,.ptr 1 0),(8,.sc (.int .u64 (m:Int))),(9,.sc (.int .i64 ((base+3-s.1.1:Nat):Int)))]) (fun s=> [some (cd n s.2),some (xsO s.1.2.toNat)]) (fun s=>s.1.1≤3∧s.2.size=n∧(s8 a (b-a) m s.1.1 (s.1.2,s.2) (base+3-s.1.1)).2=Sort.breakPatterns d a b) (fun s=>s.1.1) ((3,UInt64.ofNat (b-a)),d) [1]
   (fun _=>rfl) ⟨JZ _,hd,by rw [ht];rfl⟩ ?_ (fun _=>rfl) (fun _=>rfl) ?_
  ·have e0:(UInt64.ofNat (b-a)).toNat=b-a:=by rw [UInt64.toNat_ofNat',Nat.mod_eq_of_lt (by omega)]
   rw [e0]
   (refine⟨(KC rfl),rfl,(by repeat(first|exact KO|refine⟨rfl,?_⟩)),(by repeat(first|exact KO|refine⟨aB rfl,?_⟩|refine⟨fD rfl,?_⟩))⟩)
  rintro⟨⟨s,r⟩,d1⟩ ⟨hs,hd1,ho⟩ ih
  simp only at hs hd1 ho ih ⊢
  repeat first|apply ah;rfl|apply aL;rfl;omega;omega|refine cf (pX rfl rfl (by omega) (jF (by omega) (by omega) (by omega))) rfl rfl rfl ?_
  refine pU rfl rfl rfl rfl ?_ ?_
  all_goals intro h2
  ·obtain⟨s,rfl⟩: ∃ s',s=s'+1:=⟨s-1,by omega⟩
   have hr:=UInt64.toNat_lt r
   have hnx:=Sort.xorNextN_lt r.toNat hr
   have hxn:=Sort.xorNext_toNat r
   have hst:Sort.breakStep a (b-a) m (r,d1) (base+3-(s+1))=(Sort.xorNext r,Sort.swp d1 (base+3-(s+1)) (a+(if(Sort.xorNext r).toNat &&& (m-1)≥b-a then((Sort.xorNext r).toNat &&& (m-1))-(b-a) else(Sort.xorNext r).toNat &&& (m-1)))):=rfl
   have ho':(s8 a (b-a) m s (Sort.breakStep a (b-a) m (r,d1) (base+3-(s+1))) (base+3-s)).2=Sort.breakPatterns d a b:=by
    rw [← ho,s8,show base+3-(s+1)+1=base+3-s by omega]
   rw [hst] at ho'
   rw [hxn] at ho'
   have hmw:IntKind.u64.wrap ((m:Int)-1)=((m-1:Nat):Int):=by
    rw [Kz _ ⟨by omega,by omega⟩]
    omega
   have hand:=andU (a:=Sort.xorNextN r.toNat) (b:=m-1) hnx (by omega)
   have hle:Sort.xorNextN r.toNat &&& (m-1)≤m-1:=Nat.and_le_right
   generalize hoo:Sort.xorNextN r.toNat &&& (m-1)=o at hand hle ho'
   repeat first|apply ah;rfl|refine cp rfl rfl rfl (by kernel_rfl) (Ctr.dY (Ab r.toNat hr) [1] rfl (KC rfl) rfl (by repeat(first|exact KO|refine⟨fD rfl,?_⟩)) rfl (by repeat(first|exact KO|refine⟨dR (fun _=>rfl),?_⟩)) (fun _=>rfl) rfl rfl) ?_
   refine cf (aw rfl rfl (.inr (.inl ⟨rfl,rfl⟩))) rfl rfl rfl ?_
   rw [hmw]
   refine cf (mO rfl rfl (.inl rfl) hand) rfl rfl rfl ?_
   repeat first|apply ah;rfl|refine cf (bZ (F.un _ rfl) (F.un _ rfl) rfl (show _=(o:Int)from JH _ ⟨by omega,by omega⟩)) rfl rfl rfl ?_
   refine eK rfl rfl rfl rfl ?_ ?_
   all_goals intro h3
   ·rw [Kb (by omega)] at ho'
    repeat first|apply ah;rfl|apply aL;rfl;omega;omega
    refine cu (by kernel_rfl) (by kernel_rfl) ?_
    repeat first|apply aW;rfl|refine bp (aw rfl rfl (.inl ⟨rfl,(JH _ ⟨(by omega),(by omega)⟩).symm⟩)) rfl rfl rfl ?_|refine cD (g:=fun x:Int=> .int .i64 x) rfl rfl rfl (F.ag _ rfl) rfl (by(omega)) (by(omega)) ?_|refine fv (g:=fun x:Int=> .int .i64 x) rfl rfl rfl (fun _=>rfl) (F.sz _ rfl) rfl (by first|omega|(simp only [JI,aP];omega)) (by first|omega|(simp only [JI,aP];omega)) ?_|refine aI (q:=base+3-(s+1)) rfl rfl rfl rfl (F.un _ rfl) (F.sz _ rfl) rfl (by omega) (by omega) (by omega) ?_|refine aI (q:=a+(o-(b-a))) rfl rfl rfl rfl (F.un _ rfl) (F.sz _ rfl) rfl (by omega) (by omega) (by omega) ?_
    refine aA ⟨by kernel_rfl,?_,?_⟩;(focus(repeat(first|exact KO|apply fA;rfl|apply eQ;rfl|refine⟨.inr (by(repeat(refine⟨(by first|exact aO (F.un _ rfl) (F.sz _ rfl) rfl rfl rfl (by omega) (by omega) (by omega)|exact aw rfl rfl (.inl ⟨rfl,(JH _ ⟨by omega,by omega⟩).symm⟩)),?_⟩));exact KO),?_⟩|refine⟨.inl (by kernel_rfl),?_⟩)))
    repeat first|apply ah;rfl|apply aL;rfl;omega;omega
    refine ih _ _ _ ((s,Sort.xorNext r),Sort.swp d1 (base+3-(s+1)) (a+(o-(b-a)))) [1] ⟨by simp only;omega,by rw [aP];exact hd1,ho'⟩ (by simp only;omega) ?_
    rw [hxn]
    (refine⟨(KC rfl),rfl,(by repeat(first|exact KO|refine⟨rfl,?_⟩|refine⟨fU (by(simp only;omega)),?_⟩)),(by repeat(first|exact KO|refine⟨aB rfl,?_⟩|refine⟨fD rfl,?_⟩))⟩)
   ·rw [Ka (by omega)] at ho'
    repeat apply ah;rfl
    refine cu (by kernel_rfl) (by kernel_rfl) ?_
    repeat first|apply aW;rfl|refine bp (aw rfl rfl (.inl ⟨rfl,(JH _ ⟨(by omega),(by omega)⟩).symm⟩)) rfl rfl rfl ?_|refine cD (g:=fun x:Int=> .int .i64 x) rfl rfl rfl (F.ag _ rfl) rfl (by(omega)) (by(omega)) ?_|refine fv (g:=fun x:Int=> .int .i64 x) rfl rfl rfl (fun _=>rfl) (F.sz _ rfl) rfl (by first|omega|(simp only [JI,aP];omega)) (by first|omega|(simp only [JI,aP];omega)) ?_|refine aI (q:=base+3-(s+1)) rfl rfl rfl rfl (F.un _ rfl) (F.sz _ rfl) rfl (by omega) (by omega) (by omega) ?_|refine aI (q:=a+o) rfl rfl rfl rfl (F.un _ rfl) (F.sz _ rfl) rfl (by omega) (by omega) (by omega) ?_
    refine aA ⟨by kernel_rfl,?_,?_⟩;(focus(repeat(first|exact KO|apply fA;rfl|apply eQ;rfl|refine⟨.inr (by(repeat(refine⟨(by first|exact aO (F.un _ rfl) (F.sz _ rfl) rfl rfl rfl (by omega) (by omega) (by omega)|exact aw rfl rfl (.inl ⟨rfl,(JH _ ⟨by omega,by omega⟩).symm⟩)),?_⟩));exact KO),?_⟩|refine⟨.inl (by kernel_rfl),?_⟩)))
    repeat first|apply ah;rfl|apply aL;rfl;omega;omega
    refine ih _ _ _ ((s,Sort.xorNext r),Sort.swp d1 (base+3-(s+1)) (a+o)) [1] ⟨by simp only;omega,by rw [aP];exact hd1,ho'⟩ (by simp only;omega) ?_
    rw [hxn]
    (refine⟨(KC rfl),rfl,(by repeat(first|exact KO|refine⟨rfl,?_⟩|refine⟨fU (by(simp only;omega)),?_⟩)),(by repeat(first|exact KO|refine⟨aB rfl,?_⟩|refine⟨fD rfl,?_⟩))⟩)
  ·obtain rfl:s=0:=by omega
   repeat apply ah;rfl
   ((apply qw Tryz.func109 (congrArg Array.toList Tryz.results109));(focus(repeat(exact KF)));refine⟨_,rfl,Ends.mk [] (KC rfl) rfl rfl ?_⟩)
   rw [← ho]
   exact⟨aB rfl,trivial⟩
 ·rw [Ka (by omega)] at ebp
  repeat apply ah;rfl
  ((apply qw Tryz.func109 (congrArg Array.toList Tryz.results109));(focus(repeat(exact KF)));refine⟨_,rfl,Ends.mk [] (KC rfl) rfl rfl ?_⟩)
  rw [ebp]
  exact⟨aB rfl,trivial⟩
abbrev wd:=Array (Int)
theorem xP:Sort.SWO bq where
 irrefl:=fun a=>by simp [bq]
 trans:=fun a b c h h'=>by
  simp only [bq,KB] at h h' ⊢
  omega
 ntrans:=fun a b c h h'=>by
  simp only [bq,decide_eq_false_iff_not] at h h' ⊢
  omega
theorem xR{d:wd}(h:b-a≤12):Sort.pdq lt d a b limit wb wp=Sort.insertionSort lt d a b:=by rw [Sort.pdq,Kb h]
theorem uK{d:wd}(h: ¬ b-a≤12)(h0:limit=0):Sort.pdq lt d a b limit wb wp=Sort.heapSort lt d a b:=by rw [Sort.pdq,Ka h,Kb h0]
def fe(lt:Int→Int→Bool)(d3:wd)(a b pivot limit:Nat)(wb wp:Bool):wd:=
 if a>0 && !lt d3[a-1]! d3[pivot]! then
  match Sort.partitionEqual lt d3 a b pivot with
  | (mid,d4)=>if _h:a<mid∧mid≤b then Sort.pdq lt d4 mid b limit wb wp else d4
 else
  match Sort.partition lt d3 a b pivot with
  | (mid,alreadyPartitioned,d4)=>
    if _h:a≤mid∧mid<b then
     if mid-a<b-mid then
      Sort.pdq lt (Sort.pdq lt d4 a mid limit true true) (mid+1) b limit (decide (mid-a≥(b-a) / 8)) alreadyPartitioned
     else
      Sort.pdq lt (Sort.pdq lt d4 (mid+1) b limit true true) a mid limit (decide (b-mid≥(b-a) / 8)) alreadyPartitioned
    else d4
theorem z7{d d1 d2:wd}{limit1:Nat}{c:Nat×Sort.Hint}{hint:Sort.Hint}{pi:wd×Bool}(h: ¬ b-a≤12)(h0: ¬ limit=0)
 (e1:d1=(if(!wb)=true then Sort.breakPatterns d a b else d)) (el:limit1=(if(!wb)=true then limit-1 else limit)) (ec:Sort.choosePivot lt d1 a b=c)
 (e2:d2=(if c.2 = .decreasing then Sort.reverseRange d1 a b else d1)) (ep:pivot=(if c.2 = .decreasing then(b-1)-(c.1-a) else c.1)) (eh:hint=(if c.2 = .decreasing then .increasing else c.2))
 (ei:(if(wb && wp && decide (hint = .increasing))=true then Sort.partialInsertionSort lt d2 a b else(d2,false))=pi) :
 Sort.pdq lt d a b limit wb wp=if pi.2=true then pi.1 else fe lt pi.1 a b pivot limit1 wb wp:=by
 subst e1 el ec e2 ep eh ei
 rw [Sort.pdq,Ka h,Ka h0]
 rfl
theorem xQ{d3 d4:wd}(h:(decide (a>0) && !lt d3[a-1]! d3[pivot]!)=true)(hx:Sort.partitionEqual lt d3 a b pivot=(mid,d4))(hm:a<mid∧mid≤b) :
 fe lt d3 a b pivot limit wb wp=Sort.pdq lt d4 mid b limit wb wp:=by
 unfold fe
 rw [Kb h,hx]
 simp only [dif_pos hm]
theorem sR{d3 d4:wd}{ap:Bool}(h: ¬ (decide (a>0) && !lt d3[a-1]! d3[pivot]!)=true)(hx:Sort.partition lt d3 a b pivot=(mid,ap,d4))(hm:a≤mid∧mid<b)(hl:mid-a<b-mid) :
 fe lt d3 a b pivot limit wb wp=Sort.pdq lt (Sort.pdq lt d4 a mid limit true true) (mid+1) b limit (decide (mid-a≥(b-a) / 8)) ap:=by
 unfold fe
 rw [Ka h,hx]
 simp only [dif_pos hm,Kb hl]
theorem qR{d3 d4:wd}{ap:Bool}(h: ¬ (decide (a>0) && !lt d3[a-1]! d3[pivot]!)=true)(hx:Sort.partition lt d3 a b pivot=(mid,ap,d4))(hm:a≤mid∧mid<b)(hl: ¬ mid-a<b-mid) :
 fe lt d3 a b pivot limit wb wp=Sort.pdq lt (Sort.pdq lt d4 (mid+1) b limit true true) a mid limit (decide (b-mid≥(b-a) / 8)) ap:=by
 unfold fe
 rw [Ka h,hx]
 simp only [dif_pos hm,Ka hl]
theorem uJ(n:Nat)(hn:n<65536): ∀ (k a b limit:Nat) (d:wd),b-a=k→a≤b→b≤n→d.size=n→limit<4611686018427387904→Sort.Below bq a b d →
 Ctr Tryz.prog 97 [.slu 0 0 n,.sc (.int .i64 (a:Int)),.sc (.int .i64 (b:Int)),.sc (.int .i64 (limit:Int))] [cd n d] (fun c=>c=⟨.tup [],[some (cd n (Sort.pdq bq d a b limit true true))]⟩):=by
 intro k
 induction k using Nat.strongRecOn with
 | _ k ihk=>
 intro a b limit d hk hab hb hd hl hB
 refine KE Tryz.func97 rfl rfl ?_
 repeat apply ah;rfl
 refine gA 1 (fun s:((Nat×Nat)×Nat)×((Bool×Bool)×wd)=> [(0,.slu 0 0 n),(1,.sc (.int .i64 (s.1.1.1:Int))),(2,.sc (.int .i64 (s.1.1.2:Int))),(3,.sc (.int .i64 (s.1.2:Int))),(8,.sc (.bool s.2.1.1)),(9,.sc (.bool s.2.1.2))]) (fun s=> [some (cd n s.2.2)])
  (fun s=>s.1.1.1≤s.1.1.2∧s.1.1.2≤n∧s.1.1.2-s.1.1.1≤k∧s.2.2.size=n∧s.1.2<4611686018427387904∧Sort.Below bq s.1.1.1 s.1.1.2 s.2.2∧Sort.pdq bq s.2.2 s.1.1.1 s.1.1.2 s.1.2 s.2.1.1 s.2.1.2=Sort.pdq bq d a b limit true true) (fun s=>s.1.1.2-s.1.1.1) (((a,b),limit),((true,true),d)) []
  (fun _=>rfl) ⟨hab,hb,Nat.le_of_eq hk,hd,hl,hB,rfl⟩ ?_ (fun _=>rfl) (fun _=>rfl) ?_
 ·(exact KM rfl rfl rfl ⟨aB rfl,trivial⟩)
 rintro⟨⟨⟨a1,b1⟩,l1⟩,⟨⟨wb,wp⟩,d1⟩⟩ ⟨hab1,hb1,hk1,hd1,hl1,hB1,ho⟩ ih
 simp only at hab1 hb1 hk1 hd1 hl1 hB1 ho ih ⊢
 have eba:(b1:Int)-(a1:Int)=((b1-a1:Nat):Int):=by omega
 repeat first|apply ah;rfl|apply aL;rfl;omega;omega
 rw [eba]
 refine pU rfl rfl rfl rfl ?_ ?_
 all_goals intro h1
 ·rw [xR (by omega)] at ho
  repeat first|apply ah;rfl|refine cp rfl rfl rfl (by kernel_rfl) (Ctr.dY (oIins n a1 b1 d1 (by omega) hd1 hab1 hb1) [0] rfl (KC rfl) rfl ⟨aB rfl,trivial⟩ rfl (by repeat(first|exact KO|refine⟨bO,?_⟩)) (fun _=>rfl) rfl rfl) ?_
  ((apply bw Tryz.func97 (congrArg Array.toList Tryz.results97));(focus(repeat(exact KF)));refine⟨_,rfl,Ends.mk [] (KC rfl) rfl rfl ?_⟩)
  rw [← ho]
  exact⟨aB rfl,trivial⟩
 repeat apply ah;rfl
 refine cF rfl rfl rfl rfl ?_ ?_
 all_goals intro h2
 ·rw [uK (by omega) (by omega)] at ho
  repeat first|apply ah;rfl|refine cp rfl rfl rfl (by kernel_rfl) (Ctr.dY (sZ n a1 b1 d1 (by omega) hd1 hab1 hb1) [0] rfl (KC rfl) rfl ⟨aB rfl,trivial⟩ rfl (by repeat(first|exact KO|refine⟨bO,?_⟩)) (fun _=>rfl) rfl rfl) ?_
  ((apply bw Tryz.func97 (congrArg Array.toList Tryz.results97));(focus(repeat(exact KF)));refine⟨_,rfl,Ends.mk [] (KC rfl) rfl rfl ?_⟩)
  rw [← ho]
  exact⟨aB rfl,trivial⟩
 repeat apply cE;rfl
 refine DT 1 (fun s:Nat×wd=> [(0,.slu 0 0 n),(1,.sc (.int .i64 (a1:Int))),(2,.sc (.int .i64 (b1:Int))),(3,.sc (.int .i64 (s.1:Int))),(8,.sc (.bool wb)),(9,.sc (.bool wp)),(10,.sc (.int .i64 ((b1-a1:Nat):Int)))]) (fun s=> [some (cd n s.2)])
  (fun s=>s.1=(if(!wb)=true then l1-1 else l1)∧s.2=(if(!wb)=true then Sort.breakPatterns d1 a1 b1 else d1)) (fun _=>rfl) rfl (fun _=>rfl) (fun _=>rfl) ?_ ?_ ?_
 ·intro hw out
  repeat first|refine out _ _ _ (l1-1,Sort.breakPatterns d1 a1 b1) [] ⟨by rw [Kb hw],by rw [Kb hw]⟩ ?_;(refine⟨(KC rfl),rfl,(by repeat(first|exact KO|refine⟨rfl,?_⟩|refine⟨fU (by(omega)),?_⟩)),⟨aB rfl,trivial⟩⟩)|apply cE;rfl|apply aL;rfl;omega;omega|refine cp rfl rfl rfl (by kernel_rfl) (Ctr.dY (uM n a1 b1 d1 hn hd1 hab1 hb1) [0] rfl (KC rfl) rfl ⟨aB rfl,trivial⟩ rfl (by repeat(first|exact KO|refine⟨bO,?_⟩)) (fun _=>rfl) rfl rfl) ?_
 ·intro hw out
  repeat first|refine out _ _ _ (l1,d1) [] ⟨by rw [hw];rfl,by rw [hw];rfl⟩ ?_;(exact KM rfl rfl rfl ⟨aB rfl,trivial⟩)|apply cE;rfl
 rintro⟨l2,d2⟩ ⟨el,ed⟩
 simp only at el ed ⊢
 have hl2:l2<4611686018427387904:=by rw [el];split <;> omega
 have hpd:Sort.PermIn a1 b1 d1 d2:=by
  rw [ed]
  split
  ·exact Sort.breakPatterns_holds d1 a1 b1 hab1 (by omega)
  ·exact Sort.permIn_refl d1 a1 b1
 have hd2:d2.size=n:=by rw [hpd.1];exact hd1
 have hB2:Sort.Below bq a1 b1 d2:=hB1.perm (by omega) hpd
 have hpv:=uI n a1 b1 d2 (by omega) hd2 (by omega) hb1
 have hpr:=Sort.choosePivot_holds bq d2 a1 b1 (by omega)
 have hgo:=fun d3 pivot hint pi=>z7 (lt:=bq) (d:=d1) (d1:=d2) (d2:=d3) (a:=a1) (b:=b1) (limit:=l1) (limit1:=l2) (pivot:=pivot) (wb:=wb) (wp:=wp) (c:=Sort.choosePivot bq d2 a1 b1) (hint:=hint) (pi:=pi) (by omega) (by omega) ed el rfl
 generalize Sort.choosePivot bq d2 a1 b1=c at hpv hpr hgo
 obtain⟨p,hint⟩:=c
 simp only at hpv hpr hgo
 repeat first|apply ah;rfl|refine cp rfl rfl rfl (by kernel_rfl) (Ctr.dY (hpv) [0] rfl (KC rfl) rfl ⟨aB rfl,trivial⟩ rfl (by repeat(first|exact KO|refine⟨bO,?_⟩)) (fun _=>rfl) rfl rfl) ?_
 refine cf (dy rfl rfl (.inl ⟨rfl,rfl⟩)) rfl rfl rfl ?_
 rw [Au]
 repeat apply cE;rfl
 refine DT 1 (fun s:(Nat×Sort.Hint)×wd=> [(0,.slu 0 0 n),(1,.sc (.int .i64 (a1:Int))),(2,.sc (.int .i64 (b1:Int))),(3,.sc (.int .i64 (l2:Int))),(8,.sc (.bool wb)),(9,.sc (.bool wp)),(10,.sc (.int .i64 ((b1-a1:Nat):Int))),(11,.sc (.int .i64 (s.1.1:Int))),(12,.sc (.int .i64 (EO s.1.2)))]) (fun s=> [some (cd n s.2)])
  (fun s=>s.2=(if hint = .decreasing then Sort.reverseRange d2 a1 b1 else d2)∧s.1.1=(if hint = .decreasing then(b1-1)-(p-a1) else p)∧s.1.2=(if hint = .decreasing then .increasing else hint)) (fun _=>rfl) rfl (fun _=>rfl) (fun _=>rfl) ?_ ?_ ?_
 ·intro hw out
  have hw:=Km hw
  repeat first|refine out _ _ _ (((b1-1)-(p-a1),.increasing),Sort.reverseRange d2 a1 b1) [] ⟨by rw [Kb hw],by rw [Kb hw],by rw [Kb hw]⟩ ?_;(refine⟨(KC rfl),rfl,(by repeat(first|exact KO|refine⟨rfl,?_⟩|refine⟨fU (by(simp only;omega)),?_⟩)),⟨aB rfl,trivial⟩⟩)|apply cE;rfl|apply aL;rfl;omega;omega|refine cp rfl rfl rfl (by kernel_rfl) (Ctr.dY (uH n a1 b1 d2 (by omega) hd2 (by omega) hb1) [0] rfl (KC rfl) rfl ⟨aB rfl,trivial⟩ rfl (by repeat(first|exact KO|refine⟨bO,?_⟩)) (fun _=>rfl) rfl rfl) ?_
 ·intro hw out
  have hw:=of_decide_eq_false hw
  repeat first|refine out _ _ _ ((p,hint),d2) [] ⟨by rw [Ka hw],by rw [Ka hw],by rw [Ka hw]⟩ ?_;(exact KM rfl rfl rfl ⟨aB rfl,trivial⟩)|apply cE;rfl
 rintro⟨⟨pv,hint2⟩,d3⟩ ⟨ed3,epv,ehi⟩
 simp only at ed3 epv ehi ⊢
 have hpd3:Sort.PermIn a1 b1 d2 d3:=by
  rw [ed3]
  split
  ·exact Sort.reverseRange_holds d2 a1 b1 hab1 (by omega)
  ·exact Sort.permIn_refl d2 a1 b1
 have hd3:d3.size=n:=by rw [hpd3.1];exact hd2
 have hB3:Sort.Below bq a1 b1 d3:=hB2.perm (by omega) hpd3
 have hpv1:a1≤pv∧pv<b1:=by rw [epv];split <;> omega
 have hgo:=fun pi=>hgo d3 pv hint2 pi ed3 epv ehi
 (repeat refine DP ?_)
 refine yz 1 (fun _:Unit=> [(0,.slu 0 0 n),(1,.sc (.int .i64 (a1:Int))),(2,.sc (.int .i64 (b1:Int))),(3,.sc (.int .i64 (l2:Int))),(8,.sc (.bool wb)),(9,.sc (.bool wp)),(10,.sc (.int .i64 ((b1-a1:Nat):Int))),(11,.sc (.int .i64 (pv:Int))),(68,.sc (.bool (wb && wp && decide (hint2 = .increasing))))]) (fun _=> [some (cd n d3)])
  (fun _=>True) (fun _=>rfl) (fun _=>rfl) (fun _=>rfl) ?_ ?_
 ·intro out
  clear ih ihk ho hgo ehi ed el hpr hpv
  cases wb <;> cases wp <;> cases hint2 <;> (repeat(first|refine out _ _ _ () [] trivial ?_;(exact KM rfl rfl rfl ⟨aB rfl,trivial⟩)|apply cE;rfl|refine cf (dy rfl rfl (.inl ⟨rfl,rfl⟩)) rfl rfl rfl ?_))
 rintro _ -
 (repeat refine DP ?_)
 refine DT 1 (fun d':wd=> [(0,.slu 0 0 n),(1,.sc (.int .i64 (a1:Int))),(2,.sc (.int .i64 (b1:Int))),(3,.sc (.int .i64 (l2:Int))),(8,.sc (.bool wb)),(9,.sc (.bool wp)),(10,.sc (.int .i64 ((b1-a1:Nat):Int))),(11,.sc (.int .i64 (pv:Int)))]) (fun d'=> [some (cd n d')])
  (fun d'=>d'.size=n∧Sort.Below bq a1 b1 d'∧Sort.pdq bq d1 a1 b1 l1 wb wp=fe bq d' a1 b1 pv l2 wb wp) (fun _=>rfl) rfl (fun _=>rfl) (fun _=>rfl) ?_ ?_ ?_
 ·intro hw out
  have hps:=sW n a1 b1 d3 (by omega) hd3 (by omega) hb1
  have hpp:=(Sort.partialInsertionSort_holds xP d3 a1 b1 (by omega) (by omega) hB3).1
  have hgo:=hgo _ (by rw [Kb hw])
  generalize Sort.partialInsertionSort bq d3 a1 b1=pi at hps hpp hgo
  obtain⟨d4,done⟩:=pi
  simp only at hps hpp hgo
  cases done
  ·rw [Ka (by decide)] at hgo
   repeat first|refine out _ _ _ d4 [] ⟨by rw [hpp.1];exact hd3,hB3.perm (by omega) hpp,hgo⟩ ?_;(exact KM rfl rfl rfl ⟨aB rfl,trivial⟩)|apply cE;rfl|refine cp rfl rfl rfl (by kernel_rfl) (Ctr.dY (hps) [0] rfl (KC rfl) rfl ⟨aB rfl,trivial⟩ rfl (by repeat(first|exact KO|refine⟨bO,?_⟩)) (fun _=>rfl) rfl rfl) ?_
  ·rw [Kb rfl] at hgo
   repeat first|apply ah;rfl|refine cp rfl rfl rfl (by kernel_rfl) (Ctr.dY (hps) [0] rfl (KC rfl) rfl ⟨aB rfl,trivial⟩ rfl (by repeat(first|exact KO|refine⟨bO,?_⟩)) (fun _=>rfl) rfl rfl) ?_
   ((apply bw Tryz.func97 (congrArg Array.toList Tryz.results97));(focus(repeat(exact KF)));refine⟨_,rfl,Ends.mk [] (KC rfl) rfl rfl ?_⟩)
   rw [← ho,hgo]
   exact⟨aB rfl,trivial⟩
 ·intro hw out
  have hgo:=hgo (d3,false) (by rw [hw];rfl)
  repeat first|refine out _ _ _ d3 [] ⟨hd3,hB3,by rw [hgo];rfl⟩ ?_;(exact KM rfl rfl rfl ⟨aB rfl,trivial⟩)|apply cE;rfl
 rintro d4 ⟨hd4,hB4,hT⟩
 rw [hT] at ho
 clear hgo hT hB3 hd3 hpd3 hB2 hd2 hpd ed ed3 ehi epv el hpv
 have arm: ∀ t:Bool,(decide (a1>0) && !bq d4[a1-1]! d4[pv]!)=t→(decide (a1>0) && !bq d4[a1-1]! d4[pv]!)=t:=fun _ h=>h
 repeat apply ah;rfl
 refine yz 1 (fun _:Unit=> [(0,.slu 0 0 n),(1,.sc (.int .i64 (a1:Int))),(2,.sc (.int .i64 (b1:Int))),(3,.sc (.int .i64 (l2:Int))),(8,.sc (.bool wb)),(9,.sc (.bool wp)),(10,.sc (.int .i64 ((b1-a1:Nat):Int))),(11,.sc (.int .i64 (pv:Int))),(87,.sc (.bool (decide (a1>0) && !bq d4[a1-1]! d4[pv]!)))]) (fun _=> [some (cd n d4)])
  (fun _=>True) (fun _=>rfl) (fun _=>rfl) (fun _=>rfl) ?_ ?_
 ·intro out
  refine cu (by kernel_rfl) (by kernel_rfl) ?_
  repeat apply aW;rfl
  refine fL rfl rfl rfl rfl ?_ ?_
  all_goals intro h5
  ·have hls_h6:=fW (d4[a1-1]!) (d4[pv]!)
   cases h6:bq (d4[a1-1]!) (d4[pv]!)
   all_goals rw [h6] at hls_h6
   rotate_left
   all_goals(repeat(first|apply aW;rfl|refine bp (aw rfl rfl (.inr (.inl ⟨rfl,(JH _ ⟨(by omega),(by omega)⟩).symm⟩))) rfl rfl rfl ?_|refine cD (g:=fun x:Int=> .int .i64 x) rfl rfl rfl (F.ag _ rfl) rfl (by(omega)) (by(omega)) ?_|refine aI (q:=a1-1) rfl rfl rfl rfl (F.un _ rfl) (F.sz _ rfl) rfl (by omega) (by omega) (by omega) ?_|refine aI (q:=pv) rfl rfl rfl rfl (F.un _ rfl) (F.sz _ rfl) rfl (by omega) (by omega) (by omega) ?_|refine b9 rfl rfl rfl (by kernel_rfl) (Ctr.callV (hls_h6) [] rfl (KC rfl) rfl trivial rfl) ?_))
   ·skip
    refine aA ⟨by kernel_rfl,?_,?_⟩;(focus(repeat(first|exact KO|apply fA;rfl|apply eQ;rfl|refine⟨.inr (by(repeat(refine⟨(by first|exact aO (F.un _ rfl) (F.sz _ rfl) rfl rfl rfl (by omega) (by omega) (by omega)|exact aw rfl rfl (.inr (.inl ⟨rfl,(JH _ ⟨by omega,by omega⟩).symm⟩))),?_⟩));exact KO),?_⟩|refine⟨.inl (by kernel_rfl),?_⟩)))
    have e5:(decide (a1>0) && !bq d4[a1-1]! d4[pv]!)=false:=by simp [h6]
    rw [e5] at out
    repeat refine out _ _ _ () [] trivial ?_;(exact KM rfl rfl rfl ⟨aB rfl,trivial⟩)
   ·skip
    refine aA ⟨by kernel_rfl,?_,?_⟩;(focus(repeat(first|exact KO|apply fA;rfl|apply eQ;rfl|refine⟨.inr (by(repeat(refine⟨(by first|exact aO (F.un _ rfl) (F.sz _ rfl) rfl rfl rfl (by omega) (by omega) (by omega)|exact aw rfl rfl (.inr (.inl ⟨rfl,(JH _ ⟨by omega,by omega⟩).symm⟩))),?_⟩));exact KO),?_⟩|refine⟨.inl (by kernel_rfl),?_⟩)))
    have e5:(decide (a1>0) && !bq d4[a1-1]! d4[pv]!)=true:=by
     have:0<a1:=by omega
     simp [this,h6]
    rw [e5] at out
    repeat refine out _ _ _ () [] trivial ?_;(exact KM rfl rfl rfl ⟨aB rfl,trivial⟩)
  ·repeat first|apply aW;rfl|refine cy rfl rfl ?_
   refine aA ⟨by kernel_rfl,?_,?_⟩;(focus(repeat(first|exact KO|apply Bd;rfl|apply eQ;rfl|refine⟨.inl rfl,?_⟩)))
   have e5:(decide (a1>0) && !bq d4[a1-1]! d4[pv]!)=false:=by
    have: ¬ 0<a1:=by omega
    simp [this]
   rw [e5] at out
   repeat refine out _ _ _ () [] trivial ?_;(exact KM rfl rfl rfl ⟨aB rfl,trivial⟩)
 rintro _ -
 cases h7:(decide (a1>0) && !bq d4[a1-1]! d4[pv]!)
 ·have hps:=sY n a1 b1 pv d4 (by omega) hd4 hpv1.1 hpv1.2 hb1
  obtain⟨mid,ap,d5,hx⟩: ∃ mid ap,∃ d5,Sort.partition bq d4 a1 b1 pv=(mid,ap,d5):=⟨_,_,_,rfl⟩
  obtain⟨g1,g2,g3,g4,g5,g6,g7⟩:=Sort.round_part xP (Sort.partition_holds bq) hpv1.1 hpv1.2 (by omega) hB4 hx
  rw [hx] at hps
  simp only at hps
  have hd5:d5.size=n:=by rw [g3];exact hd4
  repeat first|apply ah;rfl|apply aL;rfl;omega;omega|refine cf (pX rfl rfl (by omega) (jF (by omega) (by omega) (by omega))) rfl rfl rfl ?_|refine cp rfl rfl rfl (by kernel_rfl) (Ctr.dY (hps) [0] rfl (KC rfl) rfl ⟨aB rfl,trivial⟩ rfl (by repeat(first|exact KO|refine⟨bO,?_⟩)) (fun _=>rfl) rfl rfl) ?_
  refine bu rfl rfl rfl rfl ?_ ?_
  all_goals intro h8
  ·rw [sR (by rw [h7];decide) hx ⟨g1,g2⟩ (by omega)] at ho
   have hrec:=ihk (mid-a1) (by omega) a1 mid l2 d5 rfl g1 (by omega) hd5 hl2 g4
   have hL:=Sort.pdq_sorts bq xP d5 a1 mid l2 true true g1 (by omega) g4
   have hB6:=(g6 _ hL.1 hL.2).1
   have hd6:(Sort.pdq bq d5 a1 mid l2 true true).size=n:=by rw [hL.1.1];exact hd5
   generalize Sort.pdq bq d5 a1 mid l2 true true=d6 at hrec hB6 hd6 ho
   clear hL g6 g7 hps hpr
   repeat first|apply ah;rfl|apply aL;rfl;omega;omega|refine cp rfl rfl rfl (by kernel_rfl) (Ctr.dY (hrec) [0] rfl (KC rfl) rfl ⟨aB rfl,trivial⟩ rfl (by repeat(first|exact KO|refine⟨bO,?_⟩)) (fun _=>rfl) rfl rfl) ?_|refine cf (dy rfl rfl (.inr (.inr (.inr (.inr (.inr (⟨rfl,rfl⟩))))))) rfl rfl rfl ?_
   refine ih _ _ _ (((mid+1,b1),l2),((decide (mid-a1≥(b1-a1) / 8),ap),d6)) [] ⟨by simp only;omega,hb1,by simp only;omega,hd6,hl2,hB6,ho⟩ (by simp only;omega) ?_
   have eb:decide ((mid:Int)-(a1:Int)≥((b1-a1:Nat):Int) / 8)=decide (mid-a1≥(b1-a1) / 8):=by
    rw [Bool.eq_iff_iff,KB,KB]
    omega
   rw [← eb]
   (exact KM rfl rfl rfl ⟨aB rfl,trivial⟩)
  ·rw [qR (by rw [h7];decide) hx ⟨g1,g2⟩ (by omega)] at ho
   have hrec:=ihk (b1-(mid+1)) (by omega) (mid+1) b1 l2 d5 rfl (by omega) hb1 hd5 hl2 g5
   have hL:=Sort.pdq_sorts bq xP d5 (mid+1) b1 l2 true true (by omega) (by omega) g5
   have hB6:=(g7 _ hL.1 hL.2).1
   have hd6:(Sort.pdq bq d5 (mid+1) b1 l2 true true).size=n:=by rw [hL.1.1];exact hd5
   generalize Sort.pdq bq d5 (mid+1) b1 l2 true true=d6 at hrec hB6 hd6 ho
   clear hL g6 g7 hps hpr
   have emid:((mid:Int)+1)=((mid+1:Nat):Int):=by omega
   repeat first|apply ah;rfl|apply aL;rfl;omega;omega|refine cf (dy rfl rfl (.inr (.inr (.inr (.inr (.inr (⟨rfl,rfl⟩))))))) rfl rfl rfl ?_
   rw [emid]
   repeat first|apply ah;rfl|refine cp rfl rfl rfl (by kernel_rfl) (Ctr.dY (hrec) [0] rfl (KC rfl) rfl ⟨aB rfl,trivial⟩ rfl (by repeat(first|exact KO|refine⟨bO,?_⟩)) (fun _=>rfl) rfl rfl) ?_
   refine ih _ _ _ (((a1,mid),l2),((decide (b1-mid≥(b1-a1) / 8),ap),d6)) [] ⟨g1,by simp only;omega,by simp only;omega,hd6,hl2,hB6,ho⟩ (by simp only;omega) ?_
   have eb:decide ((b1:Int)-(mid:Int)≥((b1-a1:Nat):Int) / 8)=decide (b1-mid≥(b1-a1) / 8):=by
    rw [Bool.eq_iff_iff,KB,KB]
    omega
   rw [← eb]
   (exact KM rfl rfl rfl ⟨aB rfl,trivial⟩)
 ·have h7':=h7
  rw [JY,KB,Bool.not_eq_true'] at h7'
  have hps:=pN n a1 b1 pv d4 (by omega) hd4 hpv1.1 hpv1.2 hb1
  obtain⟨mid,d5,hx⟩: ∃ mid,∃ d5,Sort.partitionEqual bq d4 a1 b1 pv=(mid,d5):=⟨_,_,rfl⟩
  obtain⟨g1,g2,g3,g4,_⟩:=Sort.round_eq xP (Sort.partitionEqual_holds bq) h7'.1 hpv1.1 hpv1.2 (by omega) hB4 h7'.2 hx
  rw [hx] at hps
  simp only at hps
  rw [xQ h7 hx ⟨g1,g2⟩] at ho
  repeat first|apply ah;rfl|refine cp rfl rfl rfl (by kernel_rfl) (Ctr.dY (hps) [0] rfl (KC rfl) rfl ⟨aB rfl,trivial⟩ rfl (by repeat(first|exact KO|refine⟨bO,?_⟩)) (fun _=>rfl) rfl rfl) ?_
  refine ih _ _ _ (((mid,b1),l2),((wb,wp),d5)) [] ⟨g2,hb1,by simp only;omega,by rw [g3];exact hd4,hl2,g4,ho⟩ (by simp only;omega) ?_
  (exact KM rfl rfl rfl ⟨aB rfl,trivial⟩)
end
end Go.Proofs.YtnhmbonmlfeifaaGreat
end
section
namespace Go.Proofs.YtnhmbonmlfeifaaGreat
open Go Go.Sy Go.Sl Go.RowKit
section
variable {H:au}{b n nx o:Nat}{V:Type}{p:List UInt8}
theorem oP{A:Type}: ∀ (l m:List A),l.Nodup→(∀ x∈l,x∈m)→l.length≤m.length
 | [],m,_,_=>J0 _
 | x :: l,m,hn,hs=>by
   obtain⟨a,b,rfl⟩:=List.append_of_mem (hs x (by simp))
   rw [List.nodup_cons] at hn
   have:=oP l (a ++ b) hn.2 fun y hy=>by
    have:=hs y (Kj _ hy)
    rcases List.mem_append.1 this with h|h
    ·exact List.mem_append_left _ h
    ·rcases Kp.1 h with rfl|h
     ·exact absurd hy hn.1
     ·exact List.mem_append_right _ h
   simp only [J2,J3] at this ⊢
   omega
abbrev rI:Int→List Value:=fun x:Int=> [.int .i64 x]
theorem tN:RecOf rI 1:=zu (fun _=>rfl)
abbrev iU(ro:Bool)(l:List Int):VO:=dat ro l.length 1 3 (l.flatMap rI)
theorem yb(val:V→SV)(m:List (Int×V×Nat))(c:Nat):Fnc Tryz.prog 52 [.mp b] H nx
 (fun r=>r=(.fn (.func 96) [] [.ptr nx 0],H.set nx (aq 109 [.mp b]),nx+1)):=by
 refine KE Tryz.func52 rfl rfl ?_
 repeat apply ah;rfl
 apply bw Tryz.func52 (congrArg Array.toList Tryz.results52)
 ·repeat first|exact KF|apply KH rfl
 rfl
theorem collI(val:V→SV)(m:List (Int×V×Nat))(c:Nat)(hok:KOk m c)(hl:m.length<1000000){bx:Nat}(hbx:H.at' bx=some (aq 109 [.mp b]))(hb:H.at' b=some (jk (fun x:Int=> .int .i64 x) val m c))(g1:bx<nx)(g2:b<nx) :
 Fnc Tryz.prog 95 [.fn (.func 96) [] [.ptr bx 0]] H nx
  (fun r=> ∃ (done:List (Int×V×Nat)) (nm:Nat),done.Perm m∧r.1 = .slu nm 0 (done.map (·.1)).length∧nx≤nm∧nm<r.2.2∧r.2.1.at' nm=some (iU false (done.map (·.1)))∧ ∀ n,n<nx→r.2.1.at' n=H.at' n):=by
 refine KE Tryz.func95 rfl rfl ?_
 repeat apply ah;rfl
 refine aE rfl rfl rfl (by kernel_rfl) ?_
 refine KE Tryz.func106 rfl rfl ?_
 refine kD (d:=0) 1 3 rfl rfl ?_
 repeat apply ah;rfl
 refine iZ [(2,.ptr (nx+1) 0)] rfl rfl (by kernel_rfl) (KK ⟨rfl,trivial⟩) ?_
 intro cA cB hcA hcB
 refine KE Tryz.func96 rfl rfl ?_
 repeat first|apply ah;rfl|apply aG;rfl;(focus((repeat(first|assumption|refine ab (by omega) ?_));done));rfl|refine DY (b:=b) (m:=m) (c:=c) (enc:=fun x:Int=> .int .i64 x) (val:=val) rfl rfl rfl (F.un _ rfl) (by repeat(first|assumption|refine ab (by omega) ?_)) ?_
 refine bE (α:=List (Int×V×Nat)) (fun _=> [(0,.yld (nx+1+1+1)),(1,.ptr bx 0),(5,.ptr (nx+1+1+1+1) 0)]) (fun done H1 nx1=>(done.Nodup∧ ∀ x∈done,x∈m)∧nx+1+1+1+1+1≤nx1∧(∀ n,n<nx→H1.at' n=H.at' n)∧H1.at' (nx+1+1)=some (.dfd (some []))∧H1.at' (nx+1+1+1)=some (.loop .ready none 106 13 (slT [(2,.ptr (nx+1) 0)]) #[7] cA cB (nx+1+1))
  ∧ H1.at' (nx+1+1+1+1)=some (itV b c done)∧ ∃ r,r<nx1∧(r=nx∨nx+1+1+1+1+1≤r)∧H1.at' (nx+1)=some (aq 113 [.slu r 0 (done.map (·.1)).length])∧H1.at' r=some (iU false (done.map (·.1)))) (fun done=>m.length-done.length) []
  ⟨⟨List.nodup_nil,fun _ h=>by cases h⟩,JZ _,fun n hn=>by(repeat(refine ab (by omega) ?_));rfl,by repeat(first|exact ac|refine ab (by omega) ?_),by repeat(first|exact ac|refine ab (by omega) ?_),by repeat(exact ac),nx,by omega,.inl rfl,by repeat(first|exact ac|refine ab (by omega) ?_),by repeat(first|exact ac|refine ab (by omega) ?_)⟩ (KK ⟨rfl,rfl,rfl,trivial⟩) ?_
 rintro done H1 nx1 ⟨hdn,hnx,hold,h4,h5,h6,r,hr,hr2,h3,hrow⟩ ih
 have hlen:=oP done m hdn.1 hdn.2
 have hb1:H1.at' b=some (jk (fun x:Int=> .int .i64 x) val m c):=(hold b g2).trans hb
 have hbx1:H1.at' bx=some (aq 109 [.mp b]):=(hold bx g1).trans hbx
 repeat apply ah;rfl
 refine Hg (b:=b) (m:=m) (c:=c) (enc:=fun x:Int=> .int .i64 x) (val:=val) (done:=done) rfl rfl rfl ?_ ?_ hok hdn ?_ ?_
 ·assumption
 ·assumption
 ·intro hp
  repeat apply ah;rfl
  apply qw Tryz.func96 (congrArg Array.toList Tryz.results96) KF
  dsimp only
  refine iF h5 (fun h=>by cases h) ?_
  repeat first|apply ah;rfl|apply aG;rfl;(focus((repeat(first|assumption|refine ab (by omega) ?_));done));rfl
  refine rW Tryz.func106 (congrArg Array.toList Tryz.results106) (rs:= [nx+1+1]) rfl (fun r hr=>by rw [Kg] at hr;subst hr;(focus((repeat(first|assumption|refine ab (by omega) ?_));done))) (by simp) ?_
  intro H2 hH2
  refine⟨_,(by(repeat(first|exact KF|apply KH rfl))),?_⟩
  dsimp only
  repeat apply ah;rfl
  apply bw Tryz.func95 (congrArg Array.toList Tryz.results95)
  ·repeat first|exact KF|apply KH rfl
  refine⟨done,r,hp,rfl,by omega,hr,?_,fun n hn=>?_⟩
  ·exact(hH2 r (by simp;omega)).trans (by repeat(first|assumption|refine ab (by omega) ?_))
  ·refine(hH2 n (by simp;omega)).trans ((aa _ _ (by omega)).trans (hold n hn))
 ·intro x hx hxn hdn2
  have hlm:(done.map (·.1)).length=done.length:=Kf ..
  have hlen2:=oP _ m hdn2.1 hdn2.2
  rw [J3,List.length_singleton] at hlen2
  repeat first|apply ah;rfl|refine DZ (b:=b) (m:=m) (c:=c) (enc:=fun x:Int=> .int .i64 x) (val:=val) (x:=x) (done:=done) rfl rfl rfl ?_ ?_ hok hx ?_;(focus((repeat(exact ac));done));(focus((repeat(first|assumption|refine ab (by omega) ?_));done))
  refine yH (n:=nx+1+1+1) rfl rfl rfl rfl (by repeat(first|assumption|refine ab (by omega) ?_)) (by rfl) ?_
  refine nu hcA ?_
  repeat apply ah;rfl
  refine qr (by repeat(first|assumption|refine ab (by omega) ?_)) ?_
  refine nu hcB ?_
  repeat first|apply ah;rfl|apply aG;rfl;(focus((repeat(first|assumption|refine ab (by omega) ?_));done));rfl|refine bF rfl rfl (F.un _ rfl) (F.sz _ rfl) rfl (F.ze _ rfl) rfl rfl rfl rfl rfl ?_
  refine lS (b:=8) (xs:=done.map (·.1)) (a:=x.1) rfl rfl rfl rfl (F.un _ rfl) (.inl ⟨_,F.un _ rfl⟩) (F.sz _ rfl) rfl (by kernel_rfl) (by kernel_rfl) (by repeat(first|assumption|refine ab (by omega) ?_)) (by repeat(exact ac)) (by rfl) (tN) (by omega) (by omega) ?_
  repeat first|apply ah;rfl|apply aG;rfl;(focus((repeat(first|assumption|refine ab (by omega) ?_|refine cc (by omega) ?_));done));rfl
  refine iE (by repeat(first|exact ac|refine ab (by omega) ?_|refine cc (by omega) ?_)) ?_
  dsimp only
  repeat apply ah;rfl
  have e:done.map (·.1) ++ [x.1]=(done ++ [x]).map (·.1):=by simp
  refine ih _ _ _ (done ++ [x]) ⟨hdn2,by omega,fun n hn=>?_,by repeat(first|assumption|refine ab (by omega) ?_|refine cc (by omega) ?_),by repeat(exact ac),by repeat(first|exact ac|refine ab (by omega) ?_|refine cc (by omega) ?_),nx1+1,by omega,.inr (by omega),?_,?_⟩ (by simp only [J3,List.length_singleton];omega) (KK ⟨rfl,rfl,rfl,trivial⟩)
  ·(focus((repeat(first|refine ab (by omega) ?_|refine cc (by omega) ?_));exact hold n hn))
  ·rw [← e]
   (focus((repeat(first|exact ac|refine ab (by omega) ?_));done))
  ·rw [← e]
   (focus((repeat(first|exact ac|refine ab (by omega) ?_));done))
def ia(l:List Int):List Int:=(Sort.sort bq l.toArray).toList
theorem fV(l:List Int):(ia l).Perm l∧(ia l).Pairwise (fun x y=>bq y x=false):=by
 obtain⟨⟨h1,h2,h3⟩,h4⟩:=Sort.sort_sorts bq xP l.toArray
 have hsz:(Sort.sort bq l.toArray).size=l.length:=by simpa using h1
 constructor
 ·have e1:((Sort.sort bq l.toArray).extract 0 l.toArray.size)=Sort.sort bq l.toArray:=by
   rw [show l.toArray.size=(Sort.sort bq l.toArray).size by simpa using h1.symm]
   exact Array.extract_size
  have e2:(l.toArray.extract 0 l.toArray.size)=l.toArray:=Array.extract_size
  rw [e1,e2] at h3
  exact h3
 ·rw [List.pairwise_iff_getElem]
  intro i j hi hj hij
  have hi':i<(Sort.sort bq l.toArray).size:=hi
  have hj':j<(Sort.sort bq l.toArray).size:=hj
  have:=h4 i j (J0 _) hij (by simp;omega)
  rw [getElem!_pos _ i hi',getElem!_pos _ j hj'] at this
  simp only [ia,Array.getElem_toList]
  exact this
theorem ji(l:List Int):(ia l).length=l.length:=(fV l).1.length_eq
theorem wc(n:Nat)(d:Array Int)(hn:n<65536)(hd:d.size=n) :
 Ctr Tryz.prog 53 [.slu 0 0 n] [cd n d] (fun c=>c=⟨.tup [],[some (cd n (Sort.sort bq d))]⟩):=by
 have h16:=qk hn
 refine KE Tryz.func53 rfl rfl ?_
 have hp:=uJ n hn n 0 n (Sort.bitsLen n) d rfl (J0 _) (JZ _) hd (by omega) (.inl rfl)
 have hs:Sort.pdq bq d 0 n (Sort.bitsLen n) true true=Sort.sort bq d:=by unfold Sort.sort;rw [hd]
 rw [hs] at hp
 repeat first|apply ah;rfl|refine cf (bZ (F.un _ rfl) (F.un _ rfl) rfl (show _=(n:Int)from Kz _ ⟨by omega,by omega⟩)) rfl rfl rfl ?_|refine ow (wu n hn) [] rfl rfl rfl (by kernel_rfl) rfl (KC rfl) rfl trivial ?_|refine cp rfl rfl rfl (by kernel_rfl) (Ctr.dY (hp) [0] rfl (KC rfl) rfl ⟨aB rfl,trivial⟩ rfl (by repeat(first|exact KO|refine⟨bO,?_⟩)) (fun _=>rfl) rfl rfl) ?_
 ((apply qw Tryz.func53 (congrArg Array.toList Tryz.results53));(focus(repeat(exact KF)));refine⟨_,rfl,Ends.mk [] (KC rfl) rfl rfl ?_⟩)
 exact⟨aB rfl,trivial⟩
theorem B1(val:V→SV)(m:List (Int×V×Nat))(c:Nat)(hok:KOk m c)(hl:m.length<60000){bx:Nat}(hbx:H.at' bx=some (aq 109 [.mp b]))(hb:H.at' b=some (jk (fun x:Int=> .int .i64 x) val m c))(g1:bx<nx)(g2:b<nx) :
 Fnc Tryz.prog 51 [.fn (.func 96) [] [.ptr bx 0]] H nx
  (fun r=> ∃ nm ks,ks.Perm (m.map (·.1))∧ks.Pairwise (fun x y=>bq y x=false)∧r.1 = .slu nm 0 ks.length∧nx≤nm∧nm<r.2.2∧r.2.1.at' nm=some (iU false ks)∧ ∀ n,n<nx→r.2.1.at' n=H.at' n):=by
 refine KE Tryz.func51 rfl rfl ?_
 repeat apply ah;rfl
 refine aE rfl rfl rfl (by kernel_rfl) (KD (collI val m c hok (by omega) hbx hb g1 g2) ?_)
 rintro⟨_,H1,n1⟩ ⟨done,nm,hp,rfl,h1,h2,h3,h4⟩
 dsimp only at h1 h2 h3 h4 ⊢
 have hpm:(done.map (·.1)).Perm (m.map (·.1)):=hp.map _
 have hlen:(done.map (·.1)).length=m.length:=by rw [hpm.length_eq,Kf]
 generalize done.map (·.1)=ks at h3 hlen hpm ⊢
 have h3':H1.at' nm=some (cd ks.length ks.toArray):=h3
 have hs:=wc ks.length ks.toArray (by omega) (by simp)
 have hrow:cd ks.length (Sort.sort bq ks.toArray)=iU false (ia ks):=by
  have:(ia ks).length=ks.length:=ji ks
  show dat false ks.length 1 3 _=dat false (ia ks).length 1 3 _
  rw [this]
  rfl
 have hsl:=ji ks
 rw [hrow] at hs
 repeat apply ah;rfl
 (refine aE rfl rfl rfl (by kernel_rfl) (Ctr.DH (hs) [nm] rfl ⟨by intro n hn;simp at hn;omega,by simp;try omega⟩ rfl (by repeat(first|exact KO|refine⟨aB (by assumption),?_⟩)) ?_);rintro _ rfl;refine⟨_,0,[nm],[some _],rfl,(by repeat(first|exact KO|refine⟨oF _ _ _ _ _ _,?_⟩)),rfl,rfl,?_⟩;dsimp only [wrL])
 repeat apply ah;rfl
 (apply bR Tryz.func51 Tryz.results51;rfl)
 rw [← hsl]
 exact⟨nm,_,(fV ks).1.trans hpm,(fV ks).2,rfl,h1,h2,ai _ _ _,fun n hn=>(aa _ _ (by omega)).trans (h4 n hn)⟩
abbrev jV(S:List Nat):List Int:=S.map fun n:Nat=>(n:Int)
abbrev qb(l:List Int):VO:=iU false l
theorem AJ(hp:p.length=1024)(k:Nat):(gO p k).1.length=1024:=by
 unfold gO
 split
 ·exact aj
 ·rename_i h1
  have hr:bj p=true:=by cases h:bj p with|true=>rfl|false=>exact absurd h h1
  split
  ·exact aj
  ·rename_i h2
   have hok:=(aZ hp).1 hr
   have hk:lB p k=true:=by
    cases h3:lB p k with
    | true=>rfl
    | false=>exact absurd (by rw [o5 h3];decide) h2
   have:=Km hk
   exact(ph hok this.1 this.2).ok.len
theorem wx: ∀ l:List Int,l.flatMap rI=l.map fun x=>Value.int .i64 x
 | []=>rfl
 | a :: l=>by rw [List.flatMap_cons,J1,wx l];rfl
theorem qY{l:List Int}{i:Nat}(hi:i<l.length):(qb l).cell (i*1)=some (.sc (.int .i64 l[i])):=by
 refine fR (by omega) ?_
 rw [Nat.mul_one,wx,Kr,JJ hi]
 rfl
theorem yG{r:Nat}{S:List Nat}(hp:p.length=1024)(hrow:H.at' r=some (qb (jV S)))(hS:S.length≤100000):Fnc Tryz.prog 56 [.agg (pgS p),.slu r 0 S.length] H nx
 (fun q=>q.1=pgE (r9 S p)∧nx≤q.2.2∧ ∀ m,m<nx→q.2.1.at' m=H.at' m):=by
 have hnl:(jV S).length=S.length:=Kf _
 refine KE Tryz.func56 rfl rfl ?_
 refine aV fun hund=>?_
 have lR:=hund _ _ hrow
 clear hund
 repeat first|refine be rfl rfl cq ?_|apply ah;rfl
 refine bE (α:=Nat×List UInt8) (fun x=> [(2,.ptr nx 0),(4,.ptr (nx+1) 0),(10,.slu r 0 S.length),(11,.sc (.int .i64 (S.length:Int))),(12,.sc (.int .i64 (x.1:Int)))])
  (fun x H1 n1=>x.1≤S.length∧r9 (S.drop x.1) x.2=r9 S p∧x.2.length=1024∧nx+1+1≤n1∧H1.at' nx=some (pgO x.2)∧H1.at' (nx+1)=some (pgO zeroP)∧ ∀ m,m<nx→H1.at' m=H.at' m) (fun x=>S.length-x.1) (0,p)
  ⟨J0 _,rfl,hp,JZ _,by repeat(first|exact ac|refine ab (by omega) ?_),by repeat(exact ac),fun m hm=>by(repeat(refine ab (by omega) ?_));rfl⟩ (KK (KN rfl)) ?_
 rintro⟨i,x⟩ H1 n1 ⟨i1,i2,i3,i4,i5,i6,i7⟩ ih
 dsimp only at i1 i2 i3 i4 i5 i6 i7 ⊢
 have r1:H1.at' r=some (qb (jV S)):=(i7 r lR).trans hrow
 repeat apply ah;rfl
 refine bu rfl rfl rfl rfl (fun h5=>?_) (fun h5=>?_)
 ·have hi:i<S.length:=by omega
  have hc:(qb (jV S)).cell (i*1)=some (.sc (.int .i64 (S[i]:Int))):=by
   have:=qY (l:=jV S) (i:=i) (by omega)
   rwa [List.getElem_map] at this
  have hd:S.drop i=S[i] :: S.drop (i+1):=List.drop_eq_getElem_cons hi
  rw [hd] at i2
  have hds:=fun(H:au) nx=>Jl (H:=H) (nx:=nx) (n:=S[i]) i3
  have hdl:=AJ i3 S[i]
  have hgo:r9 (S[i] :: S.drop (i+1)) x=if(gO x S[i]).2≠0 then(zeroP,(gO x S[i]).2) else r9 (S.drop (i+1)) (gO x S[i]).1:=rfl
  rw [i2] at hgo
  generalize gO x S[i]=D at hds hdl hgo
  obtain⟨y,e⟩:=D
  dsimp only at hdl hgo
  by_cases he:e=0
  ·subst he
   rw [Ka (fun h=>h rfl)] at hgo
   repeat first|refine dH (q:=i) rfl rfl rfl rfl (F.un _ rfl) (F.sz _ rfl) r1 (by omega) (by omega) (by omega) ?_|refine cf (an (F.ag _ rfl) rfl r1 hc) rfl rfl rfl ?_|apply bB i3;rfl;assumption|apply bB hdl;rfl;(focus((repeat(exact ac));done))|apply bJ hdl aj;rfl;(focus((repeat(first|exact ac|refine ab (by omega) ?_));done))|apply bJ hdl i3;rfl;(focus((repeat(first|assumption|refine ab (by omega) ?_));done))|refine be rfl rfl cq ?_|apply ah;rfl|apply aL;rfl;omega;omega|apply bW;rfl;kernel_rfl;exact hds _ _|apply dA;rfl;rfl
   exact ih _ _ _ (i+1,y) ⟨hi,hgo.symm,hdl,by first|omega|(dsimp only;omega),by repeat(exact ac),by repeat(first|assumption|refine ab (by omega) ?_),fun m hm=>by(repeat(refine ab (by omega) ?_));exact i7 m hm⟩ (by dsimp only;omega) (KK (KN rfl))
  ·rw [Kb he] at hgo
   rw [hgo]
   repeat first|refine dH (q:=i) rfl rfl rfl rfl (F.un _ rfl) (F.sz _ rfl) r1 (by omega) (by omega) (by omega) ?_|refine cf (an (F.ag _ rfl) rfl r1 hc) rfl rfl rfl ?_|apply bB i3;rfl;assumption|apply bJ hdl aj;rfl;(focus((repeat(exact ac));done))|apply bJ aj aj;rfl;(focus((repeat(first|assumption|refine ab (by omega) ?_));done))|refine be rfl rfl cq ?_|apply ah;rfl|refine cf (dm iD) rfl rfl rfl ?_|apply bW;rfl;kernel_rfl;exact hds _ _|apply iA;rfl;omega
   ((apply bw Tryz.func56 (congrArg Array.toList Tryz.results56));(focus((apply KG rfl (KI (F.ag _ rfl) (by repeat(exact ac)) (bv aj)));(repeat(first|exact KF|apply KH rfl)))))
   exact⟨rfl,by first|omega|(dsimp only;omega),fun m hm=>by(repeat(refine ab (by omega) ?_));exact i7 m hm⟩
 ·have hi:i=S.length:=by omega
  subst hi
  rw [List.drop_length] at i2
  have hps:=fun(H:au) nx=>De (H:=H) (nx:=nx) i3
  have hpl:=l7 x i3
  have i2:iN x=r9 S p:=i2
  rw [i2] at hps hpl
  generalize r9 S p=W at hps hpl ⊢
  obtain⟨y,e⟩:=W
  dsimp only at hpl
  repeat first|apply bB i3;rfl;assumption|apply bJ hpl aj;rfl;assumption|apply ah;rfl|apply bW;rfl;kernel_rfl;exact hps _ _
  ((apply bw Tryz.func56 (congrArg Array.toList Tryz.results56));(focus((apply KG rfl (KI (F.ag _ rfl) (by repeat(exact ac)) (bv hpl)));(repeat(first|exact KF|apply KH rfl)))))
  exact⟨rfl,by first|omega|(dsimp only;omega),fun m hm=>by(repeat(refine ab (by omega) ?_));exact i7 m hm⟩
abbrev jA:Nat×List Int→SV:=fun v=> .slu v.1 0 v.2.length
abbrev wV:Int→Value:=fun x=> .int .i64 x
abbrev Gq(mb:Nat):VO:=aq 109 [.mp mb]
theorem Hx{mb tb nb rv c:Nat}{ks:List Int}{m:List (Int×(Nat×List Int)×Nat)}{S:List Nat}(ht:H.at' tb=some (Gq mb))(hn:H.at' nb=some (intO n))(hmb:H.at' mb=some (jk wV jA m c))(hg:gU m (n:Int)=some (rv,ks))(hrow:H.at' rv=some (qb (jV S)))(hlen:ks.length=S.length)(hS:S.length≤100000)(hp:p.length=1024):Fnc Tryz.prog 55 [.agg (pgS p),.ptr tb 0,.ptr nb 0] H nx
 (fun q=>q.1=pgE (r9 S p)∧nx≤q.2.2∧ ∀ m,m<nx→q.2.1.at' m=H.at' m):=by
 have hwl:=nS S p hp
 refine KE Tryz.func55 rfl rfl ?_
 refine aV fun hund=>?_
 have l1:=hund _ _ ht
 have l2:=hund _ _ hn
 have l3:=hund _ _ hmb
 have l4:=hund _ _ hrow
 clear hund
 repeat first|refine be rfl rfl cq ?_|apply ah;rfl|apply aG;rfl;(focus((repeat(first|assumption|exact ac|refine ab (by omega) ?_));done));rfl|apply bB hp;rfl;(focus((repeat(first|exact ac|refine ab (by omega) ?_));done))
 refine yI (m:=m) (enc:=wV) (val:=jA) (c:=c) rfl rfl rfl rfl (F.un _ rfl) (ig (F.un _ rfl)) (by repeat(first|assumption|refine ab (by omega) ?_)) hg ?_
 dsimp only [jA]
 rw [hlen]
 refine aE rfl rfl rfl (by kernel_rfl) (KD (yG (S:=S) (r:=rv) hp (by repeat(first|assumption|refine ab (by omega) ?_)) hS) ?_)
 rintro⟨_,H2,n2⟩ ⟨rfl,g2,g3⟩
 dsimp only at g2 g3 ⊢
 have k1:H2.at' (nx+1)=some (pgO zeroP):=(g3 _ (by omega)).trans (by repeat(exact ac))
 have ko: ∀ m,m<nx→H2.at' m=H.at' m:=fun m hm=>(g3 m (by omega)).trans (by(repeat(refine ab (by omega) ?_));rfl)
 generalize r9 S p=W at hwl ⊢
 obtain⟨y,e⟩:=W
 dsimp only at hwl
 repeat first|apply bJ hwl aj;rfl;assumption|apply ah;rfl
 ((apply bw Tryz.func55 (congrArg Array.toList Tryz.results55));(focus((apply KG rfl (KI (F.ag _ rfl) (by repeat(exact ac)) (bv hwl)));(repeat(first|exact KF|apply KH rfl)))))
 exact⟨rfl,by dsimp only;omega,fun m hm=>by(repeat(refine ab (by omega) ?_));exact ko m hm⟩
theorem sB{a:Nat}:Fnc Tryz.prog 50 [.ptr a 0] H nx (fun q=>q=(.tup [],H,nx)):=by
 refine KE Tryz.func50 rfl rfl ?_
 repeat first|apply ah;rfl|apply jG;rfl;rfl|refine cf (jO rfl Tryz.underlying20) rfl rfl rfl ?_
 (apply C6 Tryz.func50 Tryz.results50;rfl)
 rfl
theorem Ev(h:o+2≤p.length):gu p o=256*(p[o]'(by omega)).toNat+(p[o+1]'(by omega)).toNat:=by
 have hd:(p.drop o).take 2= [p[o]'(by omega),p[o+1]'(by omega)]:=by
  rw [List.drop_eq_getElem_cons (by omega:o<p.length),List.drop_eq_getElem_cons (by omega:o+1<p.length)]
  rfl
 unfold gu
 rw [hd]
 simp [beN]
theorem oO(hp:p.length=1024)(ho:o+2≤1024):Fnc Tryz.prog 76 [.agg (pgS p),.sc (.int .i64 (o:Int))] H nx (fun q=>q=(.sc (.int .i64 (gu p o:Int)),H,nx)):=by
 refine Fnc.bA (Free.sc _) ?_
 refine KE Tryz.func76 rfl rfl ?_
 repeat apply ah;rfl
 have hb:(H.set nx (pgO p)).at' nx=some (pgO p):=ai _ _ _
 have hc0:(pgO p).cell (0+o*1)=some (.sc (.int .u8 ((p[o]'(by omega)).toNat:Int))):=by rw [Kc,Nat.mul_one];exact nX (p:=p) (i:=o) (by omega)
 have hc1:(pgO p).cell (0+(o+1)*1)=some (.sc (.int .u8 ((p[o+1]'(by omega)).toNat:Int))):=by rw [Kc,Nat.mul_one];exact nX (p:=p) (i:=o+1) (by omega)
 have ha:=(p[o]'(by omega)).toNat_lt
 have hb2:=(p[o+1]'(by omega)).toNat_lt
 (apply bk;(focus(kernel_rfl));(focus(kernel_rfl)))
 repeat first|apply gg (q:=o);rfl;rfl;rfl;rfl;exact(F.un _ rfl);exact(F.sz _ rfl);(focus(omega));(focus(omega))|apply gg (q:=o+1);rfl;rfl;rfl;rfl;exact(F.un _ rfl);exact(F.sz _ rfl);(focus(omega));(focus(omega))|refine bp (an (F.ag _ rfl) rfl hb hc0) rfl rfl rfl ?_|refine bp (an (F.ag _ rfl) rfl hb hc1) rfl rfl rfl ?_|refine bp (bZ (F.un _ rfl) (F.un _ rfl) rfl (show _=(((p[o]'(by omega)).toNat:Nat):Int)from JH _ ⟨by omega,by omega⟩)) rfl rfl rfl ?_|refine bp (bZ (F.un _ rfl) (F.un _ rfl) rfl (show _=(((p[o+1]'(by omega)).toNat:Nat):Int)from JH _ ⟨by omega,by omega⟩)) rfl rfl rfl ?_|apply aW;rfl|refine bp (aw rfl rfl (.inl ⟨rfl,(JH _ ⟨(by focus(omega)),(by focus(omega))⟩).symm⟩)) rfl rfl rfl ?_|refine bp (aw rfl rfl (.inr (.inr ⟨rfl,(JH _ ⟨(by focus(omega)),(by focus(omega))⟩).symm⟩))) rfl rfl rfl ?_
 refine aA ⟨by kernel_rfl,?_,?_⟩;(focus(repeat(first|exact KO|apply gr;rfl;kernel_rfl|refine⟨.inr ⟨0,by kernel_rfl,AllH.all (fun _=>(by(exact aw rfl rfl (.inl ⟨rfl,(JH _ ⟨by omega,by omega⟩).symm⟩)))) _⟩,?_⟩|refine fO 0 rfl (by kernel_rfl) (by(repeat(refine⟨(by first|exact fk (q:=o) rfl rfl (F.un _ rfl) (F.sz _ rfl) (by omega) (by omega)|exact fk (q:=o+1) rfl rfl (F.un _ rfl) (F.sz _ rfl) (by omega) (by omega)|exact an (F.ag _ rfl) rfl hb hc0|exact an (F.ag _ rfl) rfl hb hc1),?_⟩));exact KO) ?_|apply mJ;kernel_rfl)))
 (apply bR Tryz.func76 Tryz.results76;rfl)
 refine⟨?_,J8 _,fun m hm=>aa _ _ (by omega)⟩
 rw [Ev (by omega)]
 exact congrArg (fun z:Int=>SV.sc (.int .i64 z)) (by omega)
theorem jY(hp:p.length=1024):Fnc Tryz.prog 77 [.agg (pgS p)] H nx (fun q=>q=(.sc (.int .i64 (aF p:Int)),H,nx)):=by
 refine Fnc.bA (Free.sc _) ?_
 refine KE Tryz.func77 rfl rfl ?_
 repeat first|apply bB hp;rfl;(focus((repeat(exact ac));done))|apply ah;rfl|apply bW;rfl;kernel_rfl;exact oO (o:=16) hp (by decide)
 (apply bR Tryz.func77 Tryz.results77;rfl)
 exact⟨rfl,J8 _,fun m hm=>aa _ _ (by omega)⟩
theorem By(h:o+2≤p.length):cw p o n=(p.set o (UInt8.ofNat (n / 256))).set (o+1) (UInt8.ofNat (n % 256)):=by
 have hB:beB n 2= [UInt8.ofNat (n / 256),UInt8.ofNat (n % 256)]:=by
  have h2:UInt8.ofNat (n % 256)=UInt8.ofNat n:=by
   apply UInt8.toNat_inj.1
   simp
  rw [h2]
  simp [beB,List.range_succ]
 refine Kv fun i=>?_
 unfold cw
 rw [cR (by rw [hB];simpa using h),hB,List.getElem?_set,List.getElem?_set,List.length_set]
 by_cases h1:o+1=i
 ·subst h1
  rw [Kb ⟨by omega,by simp⟩,Kb rfl,Kb (by omega),show o+1-o=1 by omega]
  rfl
 ·rw [Ka h1]
  by_cases h2:o=i
  ·subst h2
   rw [Kb ⟨by omega,by simp⟩,Kb rfl,Kb (by omega),Nat.sub_self]
   rfl
  ·rw [Ka h2,Ka (by simp;omega)]
theorem gX(hp:p.length=1024)(ho:o+2≤1024)(hn:n<65536):Fnc Tryz.prog 93 [.agg (pgS p),.sc (.int .i64 (o:Int)),.sc (.int .i64 (n:Int))] H nx (fun q=>q=(.agg (pgS (cw p o n)),H,nx)):=by
 refine Fnc.bA (Free.agg _) ?_
 refine KE Tryz.func93 rfl rfl ?_
 repeat first|refine be rfl rfl cq ?_|apply ah;rfl|apply aL;rfl;omega;omega|refine cf (pX rfl rfl (by omega) (jF (by focus(omega)) (by focus(omega)) (by focus(omega)))) rfl rfl rfl ?_|refine cf (bZ (F.un _ rfl) (F.un _ rfl) rfl (show _=((UInt8.ofNat (n / 256)).toNat:Int)from xv (n / 256))) rfl rfl rfl ?_
 (apply ou (c:=((n % 256:Nat):Int));rfl;rfl;rfl;rfl;(focus(decide));rfl)
 repeat refine cf (bZ (F.un _ rfl) (F.un _ rfl) rfl (show _=((UInt8.ofNat (n % 256)).toNat:Int)from xv (n % 256))) rfl rfl rfl ?_
 (apply gB (q:=o);rfl;rfl;rfl;rfl;exact(F.un _ rfl);exact(F.sz _ rfl);(focus(omega));(focus(omega)))
 rw [show 0+o*1=o by omega]
 refine dU (cs:=pgS p) rfl rfl rfl (F.sz _ rfl) (by repeat(first|exact ac|refine ab (by omega) ?_)) rfl (JN (by rw [bh hp];omega)) ?_
 rw [nv]
 have hls:(p.set o (UInt8.ofNat (n / 256))).length=1024:=by rw [List.length_set];exact hp
 (apply gB (q:=o+1);rfl;rfl;rfl;rfl;exact(F.un _ rfl);exact(F.sz _ rfl);(focus(omega));(focus(omega)))
 rw [show 0+(o+1)*1=o+1 by omega]
 refine dU (cs:=pgS (p.set o (UInt8.ofNat (n / 256)))) rfl rfl rfl (F.sz _ rfl) (by repeat(exact ac)) rfl (JN (by rw [bh hls];omega)) ?_
 rw [nv,←By (by omega)]
 have hl:(cw p o n).length=1024:=(bI (by omega)).trans hp
 generalize cw p o n=p2 at hl ⊢
 repeat first|apply bB hl;rfl;(focus((repeat(exact ac));done))|apply bJ hl aj;rfl;(focus((repeat(first|exact ac|refine ab (by omega) ?_));done))|apply ah;rfl
 ((apply bw Tryz.func93 (congrArg Array.toList Tryz.results93));(focus((apply KG rfl (KI (F.ag _ rfl) (by repeat(exact ac)) (bv hl)));(repeat(exact KF)))))
 exact⟨rfl,by dsimp only;omega,fun m hm=>by(repeat(refine ab (by omega) ?_));rfl⟩
theorem EM(k:UInt8):Fnc Tryz.prog 75 [.sc (.int .u8 (k.toNat:Int))] H nx (fun q=>q=(.agg (pgS (fJ k)),H,nx)):=by
 refine Fnc.bA (Free.agg _) ?_
 refine KE Tryz.func75 rfl rfl ?_
 repeat first|refine be rfl rfl cq ?_|apply ah;rfl
 (apply gB (q:=12);rfl;rfl;rfl;rfl;exact(F.un _ rfl);exact(F.sz _ rfl);(focus(omega));(focus(omega)))
 refine dU (cs:=pgS zeroP) rfl rfl rfl (F.sz _ rfl) (by repeat(exact ac)) rfl (JN (by rw [bh aj];decide)) ?_
 rw [nv]
 have hls:(zeroP.set 12 k).length=1024:=by rw [List.length_set];exact aj
 have hl:(fJ k).length=1024:=fX k
 have hi:cw (zeroP.set 12 k) 16 1024=fJ k:=rfl
 have hw:=fun(H:au) nx=>gX (H:=H) (nx:=nx) (o:=16) (n:=1024) hls (by decide) (by decide)
 rw [hi] at hw
 generalize zeroP.set 12 k=p1 at hls hw ⊢
 generalize fJ k=p2 at hl hw ⊢
 repeat first|apply bB hls;rfl;(focus((repeat(exact ac));done))|apply bJ hl aj;rfl;(focus((repeat(first|exact ac|refine ab (by omega) ?_));done))|apply ah;rfl|apply bW;rfl;kernel_rfl;exact hw _ _
 ((apply bw Tryz.func75 (congrArg Array.toList Tryz.results75));(focus((apply KG rfl (KI (F.ag _ rfl) (by repeat(exact ac)) (bv hl)));(repeat(exact KF)))))
 exact⟨rfl,by dsimp only;omega,fun m hm=>by(repeat(refine ab (by omega) ?_));rfl⟩
end
end Go.Proofs.YtnhmbonmlfeifaaGreat
end
