import Derived.Sort.AssemblyPlain
import Derived.Sort.LotD5
import Derived.Test.YtnhmbonmlfeifaaGreatT5
set_option linter.unusedVariables false
set_option linter.unusedSimpArgs false
set_option maxRecDepth 100000
set_option maxHeartbeats 0
section
namespace Go.Proofs.YtnhmbonmlfeifaaGreat
open Go Go.Sy Go.Sl Go.RowKit
section
variable {k:Nat}{p:List UInt8}{l:List (Int×Int)}
def jB(p:List UInt8)(k:Nat):Bool:=decide (k<ae p∧aq p k≠0)
theorem rA(h:jB p k=true):cq p k=(az p k,aq p k,0):=by
 have h:=J7 h
 unfold cq
 rw [JV (by omega),JV h.2]
theorem pd(h:jB p k=false):cq p k=(0,0,6):=by
 have h:=of_decide_eq_false h
 unfold cq
 split
 ·rfl
 ·rw [JW (by omega)]
def rZ:List Nat→List UInt8→List UInt8×Nat
 | [],p=>jf p
 | k :: S,p=>if(gP p k).2≠0 then(zeroP,(gP p k).2) else rZ S (gP p k).1
theorem B5(h:Okp p)(hk:jB p k=true):gP p k=(lD p k,0):=by
 unfold gP
 rw [JV (by rw [(bw h.len).2 h];decide),rA hk,JV (fun h=>h rfl)]
theorem EM(h:Okp p)(hk:jB p k=false):gP p k=(zeroP,6):=by
 unfold gP
 rw [JV (by rw [(bw h.len).2 h];decide),pd hk,JW (by decide)]
theorem nW: ∀ (S:List Nat) (p:List UInt8),p.length=1024→(rZ S p).1.length=1024
 | [],p,hp=>l7 p hp
 | k :: S,p,hp=>by
   unfold rZ
   split
   ·exact aj
   ·rename_i h
    refine nW S _ ?_
    have h:(gP p k).2=0:=Decidable.not_not.1 h
    unfold gP at h ⊢
    split
    ·exact aj
    ·rename_i h1
     have hr:bl p=true:=by cases h:bl p with|true=>rfl|false=>exact absurd h h1
     split
     ·exact aj
     ·rename_i h2
      have hok:=(bw hp).1 hr
      have hk:jB p k=true:=by
       cases h3:jB p k with
       | true=>rfl
       | false=>exact absurd (by rw [pd h3];decide) h2
      have:=J7 hk
      exact(pq hok this.1 this.2).ok.len
theorem rY{p:List UInt8}(h:Okp p): ∀ (S A:List Nat),Has p A→(A ++ S).Nodup→rZ S (db p A)=if(∀ k∈S,jB p k=true) then(rI p (A ++ S),0) else(zeroP,6)
 | [],A,hA,_=>by
   have hok:=mu h hA
   rw [JW (fun k hk=>by cases hk),J9]
   show jf _=_
   unfold jf
   rw [JW ((bw hok.len).2 hok)]
   rfl
 | k :: S,A,hA,hnd=>by
   have hok:=mu h hA
   rw [List.nodup_append] at hnd
   obtain⟨n1,n2,n3⟩:=hnd
   rw [List.nodup_cons] at n2
   have hkA:k∉A:=fun hm=>n3 k hm k J3 rfl
   unfold rZ
   cases hk:jB p k with
   | true=>
     have hk2:=J7 hk
     have hA2:Has p (A ++ [k]):=⟨by
      rw [List.nodup_append]
      exact⟨n1,List.nodup_cons.2 ⟨fun h=>by(cases h),List.nodup_nil⟩,fun a ha b hb=>by rw [J1.1 hb];exact fun e=>hkA (e ▸ ha)⟩,fun n hn=>by
      rcases List.mem_append.1 hn with h1|h1
      ·exact hA.2 n h1
      ·rw [J1.1 h1];exact hk2⟩
     obtain⟨t1,t2,_⟩:=Has.there (B:= []) h hA2
     have hq:jB (db p A) k=true:=Ke ⟨t1,t2⟩
     rw [B5 hok hq,JV (fun h=>h rfl)]
     have e:lD (db p A) k=db p (A ++ [k]):=by unfold db;rw [List.foldl_append];rfl
     dsimp only
     rw [e,rY h S (A ++ [k]) hA2 (by rw [J6,List.nodup_append];exact⟨n1,List.nodup_cons.2 n2,n3⟩),J6]
     show(if _ then(rI p (A ++ k :: S),0) else _)=_
     by_cases hall: ∀ k∈S,jB p k=true
     ·rw [JW hall,JW (fun j hj=>by rcases Ka.1 hj with rfl|hj;exact hk;exact hall j hj)]
     ·rw [JV hall,JV (fun h2=>hall fun j hj=>h2 j (J4 _ hj))]
   | false=>
     have hq:jB (db p A) k=false:=by
      cases hq:jB (db p A) k with
      | false=>rfl
      | true=>
        have hq:=J7 hq
        have hk2:=of_decide_eq_false hk
        by_cases h0:A= []
        ·subst h0;exact absurd hq hk2
        ·obtain⟨B,hB,g⟩:=lS h h0 hA
         have h1:=g.slots
         have h2:=g.ptr k (by omega) fun hm=>hkA ((hB k).1 hm)
         exact absurd ⟨by omega,by rw [← h2.2];exact hq.2⟩ hk2
     rw [EM hok hq,JW (by decide),JV (fun h2=>by rw [h2 k J3] at hk;cases hk)]
theorem AU(h:Okp p){S:List Nat}(hS:S.Nodup):rZ S p=if(∀ k∈S,jB p k=true) then(rI p S,0) else(zeroP,6):=
 rY h S [] ⟨List.nodup_nil,fun n hn=>by cases hn⟩ hS
def aM(l:List (Int×Int))(n:Nat):List Nat:=(l.filter fun t=>decide (t.1=(n:Int))).map fun t=>t.2.toNat
def s6(l:List (Int×Int)):Prop:=(∀ t∈l,mH t.1 t.2=true)∧l.Nodup
theorem dU{n:Nat}(hl: ∀ t∈l,mH t.1 t.2=true):k∈aM l n↔((n:Int),(k:Int))∈l:=by
 unfold aM
 rw [Ki]
 constructor
 ·rintro⟨t,ht,rfl⟩
  rw [List.mem_filter,Km] at ht
  have h1:=J7 (hl t ht.1)
  have h2:((n:Int),((t.2.toNat:Nat):Int))=t:=Prod.ext ht.2.symm (by dsimp only;omega)
  rw [h2]
  exact ht.1
 ·intro h
  exact⟨_,List.mem_filter.2 ⟨h,Ke rfl⟩,Kd k⟩
theorem er(h:s6 l)(n:Nat):(aM l n).Nodup:=by
 unfold aM
 have h1:(l.filter fun t=>decide (t.1=(n:Int))).Nodup:=h.2.sublist List.filter_sublist
 refine List.pairwise_map.2 (h1.imp_of_mem fun {a b} ha hb hab=>?_)
 rw [List.mem_filter,Km] at ha hb
 have h2:=J7 (h.1 a ha.1)
 have h3:=J7 (h.1 b hb.1)
 intro e
 exact hab (Prod.ext (ha.2.trans hb.2.symm) (by omega))
def b7(l:List (Int×Int)):List Nat:=((List.range 96).map (32 + ·)).filter fun n=> !(aM l n).isEmpty
theorem cY{n:Nat}:n∈b7 l↔32≤n∧n<128∧aM l n≠ []:=by
 unfold b7
 rw [List.mem_filter,Ki]
 constructor
 ·rintro⟨⟨i,hi,rfl⟩,h⟩
  have:=Kh.1 hi
  refine⟨by omega,by omega,fun e=>?_⟩
  rw [e] at h
  cases h
 ·rintro⟨h1,h2,h3⟩
  refine⟨⟨n-32,Kh.2 (by omega),by omega⟩,?_⟩
  cases h4:aM l n with
  | nil=>exact absurd h4 h3
  | cons a b=>rfl
theorem eQ(l:List (Int×Int)):(b7 l).Pairwise (·< ·):=by
 unfold b7
 refine List.Pairwise.filter _ ?_
 rw [List.pairwise_map]
 exact List.pairwise_lt_range.imp fun h=>by omega
def lM(pf:Nat→List UInt8)(l:List (Int×Int)):Prop:= ∀ t∈l,jB (aS (pf t.1.toNat)).1 t.2.toNat=true
theorem jW{pf:Nat→List UInt8}(h:s6 l):lM pf l↔ ∀ n∈b7 l,∀ k∈aM l n,jB (aS (pf n)).1 k=true:=by
 constructor
 ·intro h1 n hn k hk
  have:=h1 _ ((dU h.1).1 hk)
  rwa [Kd,Kd] at this
 ·intro h1 t ht
  have h2:=J7 (h.1 t ht)
  obtain⟨a,b⟩:=t
  obtain⟨n,rfl⟩: ∃ n:Nat,a=(n:Int):=⟨a.toNat,by dsimp only at h2;omega⟩
  obtain⟨k,rfl⟩: ∃ k:Nat,b=(k:Int):=⟨b.toNat,by dsimp only at h2;omega⟩
  have h3:=(dU h.1).2 ht
  dsimp only at h2 ⊢
  rw [Kd,Kd]
  exact h1 n (cY.2 ⟨by omega,by omega,fun e=>by rw [e] at h3;cases h3⟩) k h3
end
instance (l:List (Int×Int)):Decidable (s6 l):=inferInstanceAs (Decidable (_∧_))
instance (pf:Nat→List UInt8) (l:List (Int×Int)):Decidable (lM pf l):=inferInstanceAs (Decidable (∀ t∈l,_))
def fD(pf:Nat→List UInt8)(l:List (Int×Int)):Nat×List (Nat×List UInt8):=
 if ¬ s6 l then(2,[]) else if ¬ lM pf l then(6,[]) else(0,(b7 l).map fun n=>(n,rI (aS (pf n)).1 (aM l n)))
def fy:List (Nat×List UInt8)→List UInt8→Int→Int→Nat×List UInt8×Int×Int
 | [],mem,left,puts=>(0,mem,left,puts)
 | (n,x) :: r,mem,left,puts=>if left=0 then(8,mem,left,puts) else fy r (gD mem n x) (left-1) (puts+1)
section
variable {P:Program} {H:au} {T:Tr SV} {nx:Nat}
variable {d:Option Tmp} {ty:TypeId} {pos:String} {af:Array Edge} {gd:Option (Nat×Bool)}
theorem vD{t:TypeId}{x y:Operand}{s:ByteArray}{k:IntKind}{i:Nat}{v:UInt8}(hx:ak T x=some (.sc (.string s)))(hy:ak T y=some (.sc (.int k (i:Int))))(hu:P.underlying t=some .string)(hv:s[i]? =some v) :
 ReadDoes P T H ⟨d,.index t x y,ty,pos,af,gd⟩ (.sc (.int .u8 v.toNat)):=by
 refine eK fun ev w he=>?_
 have e1:=he x _ hx _ rfl
 have e2:=he y _ hy _ rfl
 simp [execOp,e1,e2,Instr.index,asIntOf,run_underlying hu,hv]
end
theorem aN{A:Type} [Inhabited A](d:Array A)(i j:Nat):(Sort.swp d i j).size=d.size:=by simp [Sort.swp]
theorem Bu{x:Int}{m:Nat}(hx:x=(m:Int)-1)(hm:m<4611686018427387904):IntKind.i64.wrap (x.tdiv 2)=(((m-1) / 2:Nat):Int):=by
 subst hx
 rcases Nat.eq_zero_or_pos m with rfl|h
 ·decide
 ·rw [Int.tdiv_eq_ediv_of_nonneg (by omega),Js _ ⟨by omega,by omega⟩]
  omega
def Ew:Sort.Hint→Int
 | .unknown=>0
 | .increasing=>1
 | .decreasing=>2
theorem z9{h:Sort.Hint}:(Ew h == 2)=decide (h = .decreasing):=by cases h <;> rfl
theorem CH{m:Nat}(h:m<2 ^ 64):IntKind.u64.wrap ((m:Nat):Int)=(m:Int):=by
 rw [Kk _ ⟨by omega,by omega⟩]
theorem xorU{a b:Nat}(ha:a<18446744073709551616)(hb:b<18446744073709551616):AB .xor .u64 (a:Int) (b:Int)=((a ^^^ b:Nat):Int):=by
 show IntKind.u64.wrap (((BitVec.ofInt 64 (a:Int) ^^^ BitVec.ofInt 64 (b:Int)).toNat:Nat):Int)=_
 rw [BitVec.toNat_xor,BitVec.ofInt_natCast,BitVec.ofInt_natCast,BitVec.toNat_ofNat,BitVec.toNat_ofNat,Nat.mod_eq_of_lt ha,Nat.mod_eq_of_lt hb,CH]
 exact Nat.xor_lt_two_pow ha hb
theorem andU{a b:Nat}(ha:a<18446744073709551616)(hb:b<18446744073709551616):AB .and .u64 (a:Int) (b:Int)=((a &&& b:Nat):Int):=by
 show IntKind.u64.wrap (((BitVec.ofInt 64 (a:Int) &&& BitVec.ofInt 64 (b:Int)).toNat:Nat):Int)=_
 rw [BitVec.toNat_and,BitVec.ofInt_natCast,BitVec.ofInt_natCast,BitVec.toNat_ofNat,BitVec.toNat_ofNat,Nat.mod_eq_of_lt ha,Nat.mod_eq_of_lt hb,CH]
 exact Nat.and_lt_two_pow _ hb
theorem sh13(x:Nat):IntKind.u64.wrap ((x:Int)*2 ^ (min (Int.toNat 13) IntKind.u64.bits))=((x*8192 % 18446744073709551616:Nat):Int):=by
 have:(2:Int) ^ (min (Int.toNat 13) IntKind.u64.bits)=8192:=by decide
 rw [this,IntKind.wrap_u64]
 omega
theorem sh17(x:Nat):IntKind.u64.wrap ((x:Int)*2 ^ (min (Int.toNat 17) IntKind.u64.bits))=((x*131072 % 18446744073709551616:Nat):Int):=by
 have:(2:Int) ^ (min (Int.toNat 17) IntKind.u64.bits)=131072:=by decide
 rw [this,IntKind.wrap_u64]
 omega
theorem sh7(x:Nat):Int.fdiv (x:Int) (2 ^ (min (Int.toNat 7) IntKind.u64.bits))=((x / 128:Nat):Int):=by
 have:(2:Int) ^ (min (Int.toNat 7) IntKind.u64.bits)=128:=by decide
 rw [this,Int.fdiv_eq_ediv_of_nonneg _ (by decide)]
 omega
theorem sh8(x:Nat):Int.fdiv (x:Int) (2 ^ (min (Int.toNat 8) IntKind.u64.bits))=((x / 256:Nat):Int):=by
 have:(2:Int) ^ (min (Int.toNat 8) IntKind.u64.bits)=256:=by decide
 rw [this,Int.fdiv_eq_ediv_of_nonneg _ (by decide)]
 omega
abbrev xsO(x:Nat):VO:=ar 185 [.sc (.int .u64 (x:Int))]
theorem zM(x:Nat)(hx:x<18446744073709551616):Ctr Tryz.prog 120 [.ptr 0 0] [xsO x] (fun c=>c=⟨.sc (.int .u64 (Sort.xorNextN x:Int)),[some (xsO (Sort.xorNextN x))]⟩):=by
 have hA:x ^^^ (x*8192 % 18446744073709551616)<18446744073709551616:=Nat.xor_lt_two_pow (n:=64) (by omega) (by omega)
 have eA:=xorU (a:=x) (b:=x*8192 % 18446744073709551616) hx (by omega)
 have eC:Sort.xorNextN x=Sort.xorNextN x:=rfl
 conv at eC=>rhs;unfold Sort.xorNextN
 simp only at eC
 generalize x ^^^ (x*8192 % 18446744073709551616)=A at hA eA eC
 have hB:A ^^^ (A / 128)<18446744073709551616:=Nat.xor_lt_two_pow (n:=64) (by omega) (by omega)
 have eB:=xorU (a:=A) (b:=A / 128) hA (by omega)
 generalize A ^^^ (A / 128)=B at hB eB eC
 have eD:=xorU (a:=B) (b:=B*131072 % 18446744073709551616) hB (by omega)
 rw [← eC] at eD
 refine Kp Tryz.func120 rfl rfl ?_
 repeat apply ai;rfl
 refine ck (by kernel_rfl) (by kernel_rfl) ?_
 repeat first|apply aU;rfl|refine bk (an (F.ag _ rfl) rfl rfl (aC rfl)) rfl rfl rfl ?_|refine dV rfl rfl rfl (F.sz _ rfl) rfl rfl rfl ?_|refine bk (sC rfl rfl (by decide) (sh13 x)) rfl rfl rfl ?_|refine bk (mP rfl rfl (.inr (.inr (.inl rfl))) eA) rfl rfl rfl ?_
 refine aA ⟨by kernel_rfl,?_,?_⟩;(focus(repeat(first|exact Kz|apply fw;rfl|apply eL;rfl|refine⟨.inl (by kernel_rfl),?_⟩)))
 repeat apply ai;rfl
 refine ck (by kernel_rfl) (by kernel_rfl) ?_
 repeat first|apply aU;rfl|refine bk (an (F.ag _ rfl) rfl rfl (aC rfl)) rfl rfl rfl ?_|refine dV rfl rfl rfl (F.sz _ rfl) rfl rfl rfl ?_|refine bk (oQ rfl rfl (by decide) (sh7 A)) rfl rfl rfl ?_|refine bk (mP rfl rfl (.inr (.inr (.inl rfl))) eB) rfl rfl rfl ?_
 refine aA ⟨by kernel_rfl,?_,?_⟩;(focus(repeat(first|exact Kz|apply fw;rfl|apply eL;rfl|refine⟨.inl (by kernel_rfl),?_⟩)))
 repeat apply ai;rfl
 refine ck (by kernel_rfl) (by kernel_rfl) ?_
 repeat first|apply aU;rfl|refine bk (an (F.ag _ rfl) rfl rfl (aC rfl)) rfl rfl rfl ?_|refine dV rfl rfl rfl (F.sz _ rfl) rfl rfl rfl ?_|refine bk (sC rfl rfl (by decide) (sh17 B)) rfl rfl rfl ?_|refine bk (mP rfl rfl (.inr (.inr (.inl rfl))) eD) rfl rfl rfl ?_
 refine aA ⟨by kernel_rfl,?_,?_⟩;(focus(repeat(first|exact Kz|apply fw;rfl|apply eL;rfl|refine⟨.inl (by kernel_rfl),?_⟩)))
 repeat first|apply ai;rfl|apply aH;rfl;(focus((repeat(exact ac));done));rfl
 ((apply bn Tryz.func120 (congrArg Array.toList Tryz.results120));(focus(repeat(first|exact Kq|apply Ks rfl)));refine⟨_,rfl,Ends.mk [] (Kn rfl) rfl rfl ?_⟩)
 exact(by repeat(first|exact Kz|refine⟨fB rfl,?_⟩))
def G4(s:ByteArray):Bool:=(List.range 256).all fun i=>match s[i]? with
 | some v=>v.toNat == Sort.bitsLen i
 | none=>false
theorem CI{s:ByteArray}(h:G4 s=true){i:Nat}(hi:i<256):s[i]? =some (UInt8.ofNat (Sort.bitsLen i)):=by
 unfold G4 at h
 rw [List.all_eq_true] at h
 have:=h i (Kh.2 hi)
 split at this
 ·rename_i v hv
  rw [hv,←(beq_iff_eq.1 this),UInt8.ofNat_toNat]
 ·cases this
theorem Cg(x:Nat)(h:256≤x):Sort.bitsLen x=8+Sort.bitsLen (x / 256):=by
 have key: ∀ k,Sort.bitsLen (x / 256)≤k↔Sort.bitsLen x≤k+8:=fun k=>by
  rw [Sort.bitsLen_le_iff,Sort.bitsLen_le_iff,Nat.pow_add,Nat.div_lt_iff_lt_mul (by decide)]
 have h8: ¬ Sort.bitsLen x≤7:=by
  rw [Sort.bitsLen_le_iff]
  omega
 have h1:=(key (Sort.bitsLen (x / 256))).1 (JK _)
 have h2:=(key (Sort.bitsLen x-8)).2 (by omega)
 omega
theorem qt{x:Nat}(h:x<65536):Sort.bitsLen x≤16:=(Sort.bitsLen_le_iff x 16).2 h
theorem G3{x:Nat}(h:x<65536):IntKind.i64.wrap (((UInt8.ofNat (Sort.bitsLen x)).toNat:Nat):Int)=(Sort.bitsLen x:Int):=by
 have:=qt h
 rw [UInt8.toNat_ofNat',Nat.mod_eq_of_lt (by omega),Js _ ⟨by omega,by omega⟩]
theorem xG(x:Nat)(hx:x<65536):Ctr Tryz.prog 117 [.sc (.int .u64 (x:Int))] [] (fun c=>c=⟨.sc (.int .i64 (Sort.bitsLen x:Int)),[]⟩):=by
 have h16:=qt hx
 refine Kp Tryz.func117 rfl rfl ?_
 repeat apply ai;rfl
 refine dR rfl rfl rfl rfl ?_ ?_
 all_goals intro h1
 ·exact absurd h1 (by omega)
 repeat apply ai;rfl
 refine dR rfl rfl rfl rfl ?_ ?_
 all_goals intro h2
 ·exact absurd h2 (by omega)
 repeat apply ai;rfl
 refine dR rfl rfl rfl rfl ?_ ?_
 all_goals intro h3
 ·have h17:=qt (x:=x / 256) (by omega)
  repeat first|apply ai;rfl|apply aL;rfl;omega;omega|refine cd (oQ rfl rfl (by decide) (sh8 x)) rfl rfl rfl ?_|refine cd (bT (F.un _ rfl) (F.un _ rfl) rfl (show _=((x / 256:Nat):Int)from Go.IntWalk.u8_in _ ⟨by omega,by omega⟩)) rfl rfl rfl ?_|refine cd (vD rfl rfl (F.un _ rfl) (CI (by kernel_rfl) (show x / 256<256 by omega))) rfl rfl rfl ?_|refine cd (bT (F.un _ rfl) (F.un _ rfl) rfl (G3 (x:=x / 256) (by omega))) rfl rfl rfl ?_
  rw [Cg x (by omega)]
  (apply bP Tryz.func117 Tryz.results117;rfl)
  (refine⟨_,rfl,Ends.val (Kn rfl) rfl ?_ ?_⟩)
  ·simp
  ·trivial
 ·repeat first|apply ai;rfl|apply aL;rfl;omega;omega|refine cd (bT (F.un _ rfl) (F.un _ rfl) rfl (show _=(x:Int)from Go.IntWalk.u8_in _ ⟨by omega,by omega⟩)) rfl rfl rfl ?_|refine cd (vD rfl rfl (F.un _ rfl) (CI (by kernel_rfl) (show x<256 by omega))) rfl rfl rfl ?_|refine cd (bT (F.un _ rfl) (F.un _ rfl) rfl (G3 (x:=x) (by omega))) rfl rfl rfl ?_
  (apply bP Tryz.func117 Tryz.results117;rfl)
  (refine⟨_,rfl,Ends.val (Kn rfl) rfl ?_ ?_⟩)
  ·simp
  ·trivial
theorem wg(x:Nat)(hx:x<65536):Ctr Tryz.prog 98 [.sc (.int .u64 (x:Int))] [] (fun c=>c=⟨.sc (.int .i64 (Sort.bitsLen x:Int)),[]⟩):=by
 refine Kp Tryz.func98 rfl rfl ?_
 repeat first|apply ai;rfl|refine oD (xG x hx) [] rfl rfl rfl (by kernel_rfl) rfl (Kn rfl) rfl trivial ?_
 (apply bP Tryz.func98 Tryz.results98;rfl)
 (refine⟨_,rfl,Ends.val (Kn rfl) rfl ?_ ?_⟩)
 ·rfl
 ·trivial
theorem Hp{k:Nat}(h:k≤16):IntKind.u64.wrap ((1:Int)*2 ^ (min (Int.toNat (k:Int)) IntKind.u64.bits))=((2 ^ k:Nat):Int):=by
 have: ∀ k:Fin 17,IntKind.u64.wrap ((1:Int)*2 ^ (min (Int.toNat (k.val:Int)) IntKind.u64.bits))=((2 ^ k.val:Nat):Int):=by decide
 exact this ⟨k,by omega⟩
theorem zo(x:Nat)(hx:x<65536):Ctr Tryz.prog 119 [.sc (.int .i64 (x:Int))] [] (fun c=>c=⟨.sc (.int .u64 ((2 ^ Sort.bitsLen x:Nat):Int)),[]⟩):=by
 refine Kp Tryz.func119 rfl rfl ?_
 repeat first|apply ai;rfl|refine cd (bT (F.un _ rfl) (F.un _ rfl) rfl (show _=(x:Int)from Kk _ ⟨by omega,by omega⟩)) rfl rfl rfl ?_|refine oD (wg x hx) [] rfl rfl rfl (by kernel_rfl) rfl (Kn rfl) rfl trivial ?_|refine cd (sC rfl rfl (by omega) (Hp (qt hx))) rfl rfl rfl ?_
 (apply bP Tryz.func119 Tryz.results119;rfl)
 (refine⟨_,rfl,Ends.val (Kn rfl) rfl ?_ ?_⟩)
 ·rfl
 ·trivial
abbrev oIV:Int→List Value:=fun x=> [.int .i64 x]
abbrev b9(n:Nat)(d:Array Int):VO:=arr false n 1 3 oIV d
def bj(x y:Int):Bool:=decide ((x:Int)<(y:Int))
theorem oInan(a:Int):Ctr Tryz.prog 123 [.sc (.int .i64 a)] [] (fun c=>c=⟨.sc (.bool false),[]⟩):=by
 refine Kp Tryz.func123 rfl rfl ?_
 repeat first|apply ai;rfl|refine cd (dl rfl rfl (.inr (.inl ⟨rfl,rfl⟩))) rfl rfl rfl ?_
 (apply bP Tryz.func123 Tryz.results123;rfl)
 (refine⟨_,rfl,Ends.val (Kn rfl) rfl ?_ ?_⟩)
 ·simp
 ·trivial
theorem fS(a b:Int):Ctr Tryz.prog 113 [.sc (.int .i64 a),.sc (.int .i64 b)] [] (fun c=>c=⟨.sc (.bool (bj a b)),[]⟩):=by
 refine Kp Tryz.func113 rfl rfl ?_
 repeat first|apply ai;rfl|refine oD (oInan _) [] rfl rfl rfl (by kernel_rfl) rfl (Kn rfl) rfl trivial ?_|refine cd (dl rfl rfl (.inr (.inr (.inl ⟨rfl,rfl⟩)))) rfl rfl rfl ?_
 (apply bP Tryz.func113 Tryz.results113;rfl)
 (refine⟨_,rfl,Ends.val (Kn rfl) rfl ?_ ?_⟩)
 ·rfl
 ·trivial
theorem oIins(n a b:Nat)(d:Array Int)(hn:n<4611686018427387904)(hd:d.size=n)(hab:a≤b)(hb:b≤n) :
 Ctr Tryz.prog 107 [.slu 0 0 n,.sc (.int .i64 (a:Int)),.sc (.int .i64 (b:Int))] [b9 n d] (fun c=>c=⟨.tup [],[some (b9 n (Sort.insertionSort bj d a b))]⟩):=by
 refine Kp Tryz.func107 rfl rfl ?_
 repeat first|apply ai;rfl|apply aL;rfl;omega;omega
 refine gz 1 (fun s:Nat×Array Int=> [(0,.slu 0 0 n),(1,.sc (.int .i64 (a:Int))),(2,.sc (.int .i64 (b:Int))),(6,.sc (.int .i64 (s.1:Int)))]) (fun s=> [some (b9 n s.2)]) (fun s=>s.1≤n+1∧a<s.1∧s.2.size=n∧Sort.insOuter bj a b s.1 s.2=Sort.insertionSort bj d a b) (fun s=>n+1-s.1) (a+1,d) []
  (fun _=>rfl) ⟨by omega,by omega,hd,rfl⟩ ?_ (fun _=>rfl) (fun _=>rfl) ?_
 ·(exact Kx rfl rfl rfl ⟨aB rfl,trivial⟩)
 rintro⟨i,d1⟩ ⟨hi,hai,hd1,ho⟩ ih
 simp only at hi hai hd1 ho ih ⊢
 repeat apply ai;rfl
 refine bh rfl rfl rfl rfl ?_ ?_
 all_goals intro h1
 ·repeat apply ai;rfl
  have ho2:Sort.insOuter bj a b (i+1) (Sort.insInner bj a i d1)=Sort.insertionSort bj d a b:=by
   rw [← ho]
   conv=>rhs;rw [Sort.insOuter,JW (by omega)]
  refine gz 1 (fun s:Nat×Array Int=> [(0,.slu 0 0 n),(1,.sc (.int .i64 (a:Int))),(2,.sc (.int .i64 (b:Int))),(6,.sc (.int .i64 (i:Int))),(7,.sc (.int .i64 (s.1:Int)))]) (fun s=> [some (b9 n s.2)]) (fun s=>s.1≤i∧s.2.size=n∧Sort.insInner bj a s.1 s.2=Sort.insInner bj a i d1) (fun s=>s.1) (i,d1) []
   (fun _=>rfl) ⟨by omega,hd1,rfl⟩ ?_ (fun _=>rfl) (fun _=>rfl) ?_
  ·(exact Kx rfl rfl rfl ⟨aB rfl,trivial⟩)
  rintro⟨j,d2⟩ ⟨hj,hd2,hin⟩ ihj
  simp only at hj hd2 hin ihj ⊢
  repeat apply ai;rfl
  refine ck (by kernel_rfl) (by kernel_rfl) ?_
  repeat apply aU;rfl
  refine fI rfl rfl rfl rfl ?_ ?_
  all_goals intro h2
  ·obtain⟨j,rfl⟩: ∃ j',j=j'+1:=⟨j-1,by omega⟩
   have hls:=fS d2[j+1]! d2[j]!
   cases h3:bj d2[j+1]! d2[j]!
   all_goals rw [h3] at hls
   all_goals(repeat(first|apply aU;rfl|refine bk (aw rfl rfl (.inr (.inl ⟨rfl,(Js _ ⟨(by omega),(by omega)⟩).symm⟩))) rfl rfl rfl ?_|refine aJ (q:=j+1) rfl rfl rfl rfl (F.un _ rfl) (F.sz _ rfl) rfl (by omega) (by omega) (by omega) ?_|refine aJ (q:=j) rfl rfl rfl rfl (F.un _ rfl) (F.sz _ rfl) rfl (by omega) (by omega) (by omega) ?_|refine cx (g:=fun x:Int=> .int .i64 x) rfl rfl rfl (F.ag _ rfl) rfl (by omega) (by omega) ?_|refine b8 rfl rfl rfl (by kernel_rfl) (Ctr.callV (hls) [] rfl (Kn rfl) rfl trivial rfl) ?_))
   ·refine aA ⟨by kernel_rfl,?_,?_⟩;(focus(repeat(first|exact Kz|apply fw;rfl|apply eL;rfl|refine⟨.inr (by(repeat(refine⟨(by first|exact aQ (F.un _ rfl) (F.sz _ rfl) rfl rfl rfl (by omega) (by omega) (by omega)|exact aw rfl rfl (.inr (.inl ⟨rfl,(Js _ ⟨by omega,by omega⟩).symm⟩))),?_⟩));exact Kz),?_⟩|refine⟨.inl (by kernel_rfl),?_⟩)))
    repeat first|apply ai;rfl|apply aL;rfl;omega;omega
    have hin2:Sort.insInner bj a i d1=d2:=by
     rw [← hin,Sort.insInner,JV (by rw [h3];simp)]
    refine ih _ _ _ (i+1,d2) [] ⟨by omega,by omega,hd2,by rw [← hin2];exact ho2⟩ (by simp only;omega) ?_
    (exact Kx rfl rfl rfl ⟨aB rfl,trivial⟩)
   ·refine aA ⟨by kernel_rfl,?_,?_⟩;(focus(repeat(first|exact Kz|apply fw;rfl|apply eL;rfl|refine⟨.inr (by(repeat(refine⟨(by first|exact aQ (F.un _ rfl) (F.sz _ rfl) rfl rfl rfl (by omega) (by omega) (by omega)|exact aw rfl rfl (.inr (.inl ⟨rfl,(Js _ ⟨by omega,by omega⟩).symm⟩))),?_⟩));exact Kz),?_⟩|refine⟨.inl (by kernel_rfl),?_⟩)))
    repeat apply ai;rfl
    refine ck (by kernel_rfl) (by kernel_rfl) ?_
    repeat first|apply aU;rfl|refine bk (aw rfl rfl (.inr (.inl ⟨rfl,(Js _ ⟨(by omega),(by omega)⟩).symm⟩))) rfl rfl rfl ?_|refine aJ (q:=j+1) rfl rfl rfl rfl (F.un _ rfl) (F.sz _ rfl) rfl (by omega) (by omega) (by omega) ?_|refine aJ (q:=j) rfl rfl rfl rfl (F.un _ rfl) (F.sz _ rfl) rfl (by omega) (by omega) (by omega) ?_|refine cx (g:=fun x:Int=> .int .i64 x) rfl rfl rfl (F.ag _ rfl) rfl (by omega) (by omega) ?_|refine fp (g:=fun x:Int=> .int .i64 x) rfl rfl rfl (fun _=>rfl) (F.sz _ rfl) rfl (by first|omega|(simp only [Jt,aN];omega)) (by first|omega|(simp only [Jt,aN];omega)) ?_
    refine aA ⟨by kernel_rfl,?_,?_⟩;(focus(repeat(first|exact Kz|apply fw;rfl|apply eL;rfl|refine⟨.inr (by(repeat(refine⟨(by first|exact aQ (F.un _ rfl) (F.sz _ rfl) rfl rfl rfl (by omega) (by omega) (by omega)|exact aw rfl rfl (.inr (.inl ⟨rfl,(Js _ ⟨by omega,by omega⟩).symm⟩))),?_⟩));exact Kz),?_⟩|refine⟨.inl (by kernel_rfl),?_⟩)))
    repeat first|apply ai;rfl|apply aL;rfl;omega;omega
    refine ihj _ _ _ (j,Sort.swp d2 (j+1) j) [] ⟨by omega,by rw [aN];exact hd2,?_⟩ (by simp only;omega) ?_
    ·rw [← hin]
     conv=>rhs;rw [Sort.insInner,JW (by simp only [h3,JJ,Km,and_true];omega)]
    ·(refine⟨(Kn rfl),rfl,(by repeat(first|exact Kz|refine⟨rfl,?_⟩|refine⟨fP (by(omega)),?_⟩)),⟨aB rfl,trivial⟩⟩)
  ·repeat first|apply aU;rfl|refine cv rfl rfl ?_
   refine aA ⟨by kernel_rfl,?_,?_⟩;(focus(repeat(first|exact Kz|apply AS;rfl|apply eL;rfl|refine⟨.inl rfl,?_⟩)))
   repeat first|apply ai;rfl|apply aL;rfl;omega;omega
   have hin2:Sort.insInner bj a i d1=d2:=by
    rw [← hin]
    cases j with
    | zero=>rfl
    | succ j=>rw [Sort.insInner,JV (by simp only [JJ,Km];omega)]
   refine ih _ _ _ (i+1,d2) [] ⟨by omega,by omega,hd2,by rw [← hin2];exact ho2⟩ (by simp only;omega) ?_
   (exact Kx rfl rfl rfl ⟨aB rfl,trivial⟩)
 ·repeat apply ai;rfl
  have ho2:d1=Sort.insertionSort bj d a b:=by rw [← ho,Sort.insOuter,JV (by omega)]
  (apply qD Tryz.func107 (congrArg Array.toList Tryz.results107);(focus(repeat(exact Kq)));refine⟨_,rfl,Ends.mk [] (Kn rfl) rfl rfl ?_⟩)
  rw [← ho2]
  exact⟨aB rfl,trivial⟩
end Go.Proofs.YtnhmbonmlfeifaaGreat
end
section
namespace Go.Proofs.YtnhmbonmlfeifaaGreat
open Go Go.Sy Go.RowKit
section
variable {a b first hi i i1 i2 j j2 limit mid pivot root s:Nat}{wb wp:Bool}{p:Int→Bool}{d:Array (Int)}{lt:Int→Int→Bool}
theorem jt(lt:Int→Int→Bool)(hi first root:Nat)(d:Array (Int)):(Sort.siftDown lt hi first root d).size=d.size:=by
 induction h:hi-root using Nat.strongRecOn generalizing root d with
 | _ m ih=>
   subst h
   unfold Sort.siftDown
   split
   ·rfl
   ·split
    ·split
     ·rfl
     ·split
      ·rw [ih _ (by omega) _ _ rfl,aN]
      ·rfl
    ·split
     ·rfl
     ·rw [ih _ (by omega) _ _ rfl,aN]
theorem sP(h:hi≤2*root+1):Sort.siftDown lt hi first root d=d:=by
 unfold Sort.siftDown
 rw [dif_pos h]
theorem zH(h:2*root+2<hi)(hl:lt d[first+(2*root+1)]! d[first+(2*root+2)]! =true) :
 Sort.siftDown lt hi first root d=if lt d[first+root]! d[first+(2*root+2)]! =true then Sort.siftDown lt hi first (2*root+2) (Sort.swp d (first+root) (first+(2*root+2))) else d:=by
 conv=>lhs;unfold Sort.siftDown
 rw [dif_neg (by omega),JW (by simp only [JJ,Km];exact⟨by omega,hl⟩)]
 cases lt d[first+root]! d[first+(2*root+2)]!
 ·simp
 ·simp only [Bool.not_true,Bool.false_eq_true,if_false,if_true]
  rw [dif_pos (by omega)]
theorem sQ(h:2*root+1<hi)(hl:hi≤2*root+2∨lt d[first+(2*root+1)]! d[first+(2*root+2)]! =false) :
 Sort.siftDown lt hi first root d=if lt d[first+root]! d[first+(2*root+1)]! =true then Sort.siftDown lt hi first (2*root+1) (Sort.swp d (first+root) (first+(2*root+1))) else d:=by
 conv=>lhs;unfold Sort.siftDown
 rw [dif_neg (by omega),JV (by
  simp only [JJ,Km]
  rintro⟨h1,h2⟩
  rcases hl with hl|hl
  ·omega
  ·rw [show first+(2*root+2)=first+(2*root+1)+1 by omega,h2] at hl;cases hl)]
 cases lt d[first+root]! d[first+(2*root+1)]! <;> simp
theorem nE(n lo hi first:Nat)(d:Array (Int))(hn:n<4611686018427387904)(hd:d.size=n)(hf:first+hi≤n)(hlo:lo≤n) :
 Ctr Tryz.prog 118 [.slu 0 0 n,.sc (.int .i64 (lo:Int)),.sc (.int .i64 (hi:Int)),.sc (.int .i64 (first:Int))] [b9 n d] (fun c=>c=⟨.tup [],[some (b9 n (Sort.siftDown bj hi first lo d))]⟩):=by
 refine Kp Tryz.func118 rfl rfl ?_
 repeat apply ai;rfl
 refine gz 1 (fun s:Nat×Array (Int)=> [(0,.slu 0 0 n),(2,.sc (.int .i64 (hi:Int))),(3,.sc (.int .i64 (first:Int))),(8,.sc (.int .i64 (s.1:Int)))]) (fun s=> [some (b9 n s.2)]) (fun s=>s.1≤n∧s.2.size=n∧Sort.siftDown bj hi first s.1 s.2=Sort.siftDown bj hi first lo d) (fun s=>n-s.1) (lo,d) []
  (fun _=>rfl) ⟨hlo,hd,rfl⟩ ?_ (fun _=>rfl) (fun _=>rfl) ?_
 ·(exact Kx rfl rfl rfl ⟨aB rfl,trivial⟩)
 rintro⟨r,d1⟩ ⟨hr,hd1,ho⟩ ih
 simp only at hr hd1 ho ih ⊢
 repeat first|apply ai;rfl|apply aL;rfl;omega;omega
 refine dR rfl rfl rfl rfl ?_ ?_
 all_goals intro h1
 ·repeat apply ai;rfl
  ((apply qD Tryz.func118 (congrArg Array.toList Tryz.results118));(focus(repeat(exact Kq)));refine⟨_,rfl,Ends.mk [] (Kn rfl) rfl rfl ?_⟩)
  rw [← ho,sP (by omega)]
  exact⟨aB rfl,trivial⟩
 ·repeat apply ai;rfl
  refine ck (by kernel_rfl) (by kernel_rfl) ?_
  repeat first|apply aU;rfl|refine bk (aw rfl rfl (.inl ⟨rfl,(Js _ ⟨(by omega),(by omega)⟩).symm⟩)) rfl rfl rfl ?_
  refine cN rfl rfl rfl rfl ?_ ?_
  all_goals intro h2
  ·have hls_h3:=fS (d1[first+(2*r+1)]!) (d1[first+(2*r+2)]!)
   cases h3:bj (d1[first+(2*r+1)]!) (d1[first+(2*r+2)]!)
   all_goals rw [h3] at hls_h3
   rotate_left
   all_goals(repeat(first|apply aU;rfl|refine bk (aw rfl rfl (.inl ⟨rfl,(Js _ ⟨(by omega),(by omega)⟩).symm⟩)) rfl rfl rfl ?_|refine cx (g:=fun x:Int=> .int .i64 x) rfl rfl rfl (F.ag _ rfl) rfl (by(omega)) (by(omega)) ?_|refine aJ (q:=first+(2*r+1)) rfl rfl rfl rfl (F.un _ rfl) (F.sz _ rfl) rfl (by omega) (by omega) (by omega) ?_|refine aJ (q:=first+(2*r+2)) rfl rfl rfl rfl (F.un _ rfl) (F.sz _ rfl) rfl (by omega) (by omega) (by omega) ?_|refine b8 rfl rfl rfl (by kernel_rfl) (Ctr.callV (hls_h3) [] rfl (Kn rfl) rfl trivial rfl) ?_))
   ·have e:=zH (lt:=bj) (hi:=hi) (first:=first) (root:=r) (d:=d1) (by omega) (by simpa [bj] using h3)
    refine aA ⟨by kernel_rfl,?_,?_⟩;(focus(repeat(first|exact Kz|apply fw;rfl|apply eL;rfl|refine⟨.inr (by(repeat(refine⟨(by first|exact aQ (F.un _ rfl) (F.sz _ rfl) rfl rfl rfl (by omega) (by omega) (by omega)|exact aw rfl rfl (.inl ⟨rfl,(Js _ ⟨by omega,by omega⟩).symm⟩)),?_⟩));exact Kz),?_⟩|refine⟨.inl (by kernel_rfl),?_⟩)))
    repeat first|apply ai;rfl|apply aL;rfl;omega;omega
    refine ck (by kernel_rfl) (by kernel_rfl) ?_
    have hls_h4:=fS (d1[first+r]!) (d1[first+(2*r+2)]!)
    cases h4:bj (d1[first+r]!) (d1[first+(2*r+2)]!)
    all_goals rw [h4] at hls_h4
    rotate_left
    all_goals(repeat(first|apply aU;rfl|refine bk (aw rfl rfl (.inl ⟨rfl,(Js _ ⟨(by omega),(by omega)⟩).symm⟩)) rfl rfl rfl ?_|refine cx (g:=fun x:Int=> .int .i64 x) rfl rfl rfl (F.ag _ rfl) rfl (by(omega)) (by(omega)) ?_|refine aJ (q:=first+r) rfl rfl rfl rfl (F.un _ rfl) (F.sz _ rfl) rfl (by omega) (by omega) (by omega) ?_|refine aJ (q:=first+(2*r+2)) rfl rfl rfl rfl (F.un _ rfl) (F.sz _ rfl) rfl (by omega) (by omega) (by omega) ?_|refine b8 rfl rfl rfl (by kernel_rfl) (Ctr.callV (hls_h4) [] rfl (Kn rfl) rfl trivial rfl) ?_))
    ·rw [JW (by simpa [bj] using h4)] at e
     refine aA ⟨by kernel_rfl,?_,?_⟩;(focus(repeat(first|exact Kz|apply fw;rfl|apply eL;rfl|refine⟨.inr (by(repeat(refine⟨(by first|exact aQ (F.un _ rfl) (F.sz _ rfl) rfl rfl rfl (by omega) (by omega) (by omega)|exact aw rfl rfl (.inl ⟨rfl,(Js _ ⟨by omega,by omega⟩).symm⟩)),?_⟩));exact Kz),?_⟩|refine⟨.inl (by kernel_rfl),?_⟩)))
     repeat apply ai;rfl
     refine ck (by kernel_rfl) (by kernel_rfl) ?_
     repeat first|apply aU;rfl|refine bk (aw rfl rfl (.inl ⟨rfl,(Js _ ⟨(by omega),(by omega)⟩).symm⟩)) rfl rfl rfl ?_|refine cx (g:=fun x:Int=> .int .i64 x) rfl rfl rfl (F.ag _ rfl) rfl (by(omega)) (by(omega)) ?_|refine fp (g:=fun x:Int=> .int .i64 x) rfl rfl rfl (fun _=>rfl) (F.sz _ rfl) rfl (by first|omega|(simp only [Jt,aN];omega)) (by first|omega|(simp only [Jt,aN];omega)) ?_|refine aJ (q:=first+r) rfl rfl rfl rfl (F.un _ rfl) (F.sz _ rfl) rfl (by omega) (by omega) (by omega) ?_|refine aJ (q:=first+(2*r+2)) rfl rfl rfl rfl (F.un _ rfl) (F.sz _ rfl) rfl (by omega) (by omega) (by omega) ?_
     refine aA ⟨by kernel_rfl,?_,?_⟩;(focus(repeat(first|exact Kz|apply fw;rfl|apply eL;rfl|refine⟨.inr (by(repeat(refine⟨(by first|exact aQ (F.un _ rfl) (F.sz _ rfl) rfl rfl rfl (by omega) (by omega) (by omega)|exact aw rfl rfl (.inl ⟨rfl,(Js _ ⟨by omega,by omega⟩).symm⟩)),?_⟩));exact Kz),?_⟩|refine⟨.inl (by kernel_rfl),?_⟩)))
     repeat apply ai;rfl
     refine ih _ _ _ (2*r+2,Sort.swp d1 (first+r) (first+(2*r+2))) [] ⟨by simp only;omega,by rw [aN];exact hd1,by rw [← ho,e]⟩ (by simp only;omega) ?_
     (exact Kx rfl rfl rfl ⟨aB rfl,trivial⟩)
    ·rw [JV (by simpa [bj] using h4)] at e
     refine aA ⟨by kernel_rfl,?_,?_⟩;(focus(repeat(first|exact Kz|apply fw;rfl|apply eL;rfl|refine⟨.inr (by(repeat(refine⟨(by first|exact aQ (F.un _ rfl) (F.sz _ rfl) rfl rfl rfl (by omega) (by omega) (by omega)|exact aw rfl rfl (.inl ⟨rfl,(Js _ ⟨by omega,by omega⟩).symm⟩)),?_⟩));exact Kz),?_⟩|refine⟨.inl (by kernel_rfl),?_⟩)))
     repeat apply ai;rfl
     ((apply bn Tryz.func118 (congrArg Array.toList Tryz.results118));(focus(repeat(exact Kq)));refine⟨_,rfl,Ends.mk [] (Kn rfl) rfl rfl ?_⟩)
     rw [← ho,e]
     exact⟨aB rfl,trivial⟩
   ·have e:=sQ (lt:=bj) (hi:=hi) (first:=first) (root:=r) (d:=d1) (by omega) (.inr (by simpa [bj] using h3))
    refine aA ⟨by kernel_rfl,?_,?_⟩;(focus(repeat(first|exact Kz|apply fw;rfl|apply eL;rfl|refine⟨.inr (by(repeat(refine⟨(by first|exact aQ (F.un _ rfl) (F.sz _ rfl) rfl rfl rfl (by omega) (by omega) (by omega)|exact aw rfl rfl (.inl ⟨rfl,(Js _ ⟨by omega,by omega⟩).symm⟩)),?_⟩));exact Kz),?_⟩|refine⟨.inl (by kernel_rfl),?_⟩)))
    repeat apply ai;rfl
    refine ck (by kernel_rfl) (by kernel_rfl) ?_
    have hls_h4:=fS (d1[first+r]!) (d1[first+(2*r+1)]!)
    cases h4:bj (d1[first+r]!) (d1[first+(2*r+1)]!)
    all_goals rw [h4] at hls_h4
    rotate_left
    all_goals(repeat(first|apply aU;rfl|refine bk (aw rfl rfl (.inl ⟨rfl,(Js _ ⟨(by omega),(by omega)⟩).symm⟩)) rfl rfl rfl ?_|refine cx (g:=fun x:Int=> .int .i64 x) rfl rfl rfl (F.ag _ rfl) rfl (by(omega)) (by(omega)) ?_|refine aJ (q:=first+r) rfl rfl rfl rfl (F.un _ rfl) (F.sz _ rfl) rfl (by omega) (by omega) (by omega) ?_|refine aJ (q:=first+(2*r+1)) rfl rfl rfl rfl (F.un _ rfl) (F.sz _ rfl) rfl (by omega) (by omega) (by omega) ?_|refine b8 rfl rfl rfl (by kernel_rfl) (Ctr.callV (hls_h4) [] rfl (Kn rfl) rfl trivial rfl) ?_))
    ·rw [JW (by simpa [bj] using h4)] at e
     refine aA ⟨by kernel_rfl,?_,?_⟩;(focus(repeat(first|exact Kz|apply fw;rfl|apply eL;rfl|refine⟨.inr (by(repeat(refine⟨(by first|exact aQ (F.un _ rfl) (F.sz _ rfl) rfl rfl rfl (by omega) (by omega) (by omega)|exact aw rfl rfl (.inl ⟨rfl,(Js _ ⟨by omega,by omega⟩).symm⟩)),?_⟩));exact Kz),?_⟩|refine⟨.inl (by kernel_rfl),?_⟩)))
     repeat apply ai;rfl
     refine ck (by kernel_rfl) (by kernel_rfl) ?_
     repeat first|apply aU;rfl|refine bk (aw rfl rfl (.inl ⟨rfl,(Js _ ⟨(by omega),(by omega)⟩).symm⟩)) rfl rfl rfl ?_|refine cx (g:=fun x:Int=> .int .i64 x) rfl rfl rfl (F.ag _ rfl) rfl (by(omega)) (by(omega)) ?_|refine fp (g:=fun x:Int=> .int .i64 x) rfl rfl rfl (fun _=>rfl) (F.sz _ rfl) rfl (by first|omega|(simp only [Jt,aN];omega)) (by first|omega|(simp only [Jt,aN];omega)) ?_|refine aJ (q:=first+r) rfl rfl rfl rfl (F.un _ rfl) (F.sz _ rfl) rfl (by omega) (by omega) (by omega) ?_|refine aJ (q:=first+(2*r+1)) rfl rfl rfl rfl (F.un _ rfl) (F.sz _ rfl) rfl (by omega) (by omega) (by omega) ?_
     refine aA ⟨by kernel_rfl,?_,?_⟩;(focus(repeat(first|exact Kz|apply fw;rfl|apply eL;rfl|refine⟨.inr (by(repeat(refine⟨(by first|exact aQ (F.un _ rfl) (F.sz _ rfl) rfl rfl rfl (by omega) (by omega) (by omega)|exact aw rfl rfl (.inl ⟨rfl,(Js _ ⟨by omega,by omega⟩).symm⟩)),?_⟩));exact Kz),?_⟩|refine⟨.inl (by kernel_rfl),?_⟩)))
     repeat apply ai;rfl
     refine ih _ _ _ (2*r+1,Sort.swp d1 (first+r) (first+(2*r+1))) [] ⟨by simp only;omega,by rw [aN];exact hd1,by rw [← ho,e]⟩ (by simp only;omega) ?_
     (exact Kx rfl rfl rfl ⟨aB rfl,trivial⟩)
    ·rw [JV (by simpa [bj] using h4)] at e
     refine aA ⟨by kernel_rfl,?_,?_⟩;(focus(repeat(first|exact Kz|apply fw;rfl|apply eL;rfl|refine⟨.inr (by(repeat(refine⟨(by first|exact aQ (F.un _ rfl) (F.sz _ rfl) rfl rfl rfl (by omega) (by omega) (by omega)|exact aw rfl rfl (.inl ⟨rfl,(Js _ ⟨by omega,by omega⟩).symm⟩)),?_⟩));exact Kz),?_⟩|refine⟨.inl (by kernel_rfl),?_⟩)))
     repeat apply ai;rfl
     ((apply bn Tryz.func118 (congrArg Array.toList Tryz.results118));(focus(repeat(exact Kq)));refine⟨_,rfl,Ends.mk [] (Kn rfl) rfl rfl ?_⟩)
     rw [← ho,e]
     exact⟨aB rfl,trivial⟩
  ·have e:=sQ (lt:=bj) (hi:=hi) (first:=first) (root:=r) (d:=d1) (by omega) (.inl (by omega))
   repeat first|apply aU;rfl|refine cv rfl rfl ?_
   refine aA ⟨by kernel_rfl,?_,?_⟩;(focus(repeat(first|exact Kz|apply AS;rfl|apply eL;rfl|refine⟨.inl rfl,?_⟩)))
   repeat apply ai;rfl
   refine ck (by kernel_rfl) (by kernel_rfl) ?_
   have hls_h4:=fS (d1[first+r]!) (d1[first+(2*r+1)]!)
   cases h4:bj (d1[first+r]!) (d1[first+(2*r+1)]!)
   all_goals rw [h4] at hls_h4
   rotate_left
   all_goals(repeat(first|apply aU;rfl|refine bk (aw rfl rfl (.inl ⟨rfl,(Js _ ⟨(by omega),(by omega)⟩).symm⟩)) rfl rfl rfl ?_|refine cx (g:=fun x:Int=> .int .i64 x) rfl rfl rfl (F.ag _ rfl) rfl (by(omega)) (by(omega)) ?_|refine aJ (q:=first+r) rfl rfl rfl rfl (F.un _ rfl) (F.sz _ rfl) rfl (by omega) (by omega) (by omega) ?_|refine aJ (q:=first+(2*r+1)) rfl rfl rfl rfl (F.un _ rfl) (F.sz _ rfl) rfl (by omega) (by omega) (by omega) ?_|refine b8 rfl rfl rfl (by kernel_rfl) (Ctr.callV (hls_h4) [] rfl (Kn rfl) rfl trivial rfl) ?_))
   ·rw [JW (by simpa [bj] using h4)] at e
    refine aA ⟨by kernel_rfl,?_,?_⟩;(focus(repeat(first|exact Kz|apply fw;rfl|apply eL;rfl|refine⟨.inr (by(repeat(refine⟨(by first|exact aQ (F.un _ rfl) (F.sz _ rfl) rfl rfl rfl (by omega) (by omega) (by omega)|exact aw rfl rfl (.inl ⟨rfl,(Js _ ⟨by omega,by omega⟩).symm⟩)),?_⟩));exact Kz),?_⟩|refine⟨.inl (by kernel_rfl),?_⟩)))
    repeat apply ai;rfl
    refine ck (by kernel_rfl) (by kernel_rfl) ?_
    repeat first|apply aU;rfl|refine bk (aw rfl rfl (.inl ⟨rfl,(Js _ ⟨(by omega),(by omega)⟩).symm⟩)) rfl rfl rfl ?_|refine cx (g:=fun x:Int=> .int .i64 x) rfl rfl rfl (F.ag _ rfl) rfl (by(omega)) (by(omega)) ?_|refine fp (g:=fun x:Int=> .int .i64 x) rfl rfl rfl (fun _=>rfl) (F.sz _ rfl) rfl (by first|omega|(simp only [Jt,aN];omega)) (by first|omega|(simp only [Jt,aN];omega)) ?_|refine aJ (q:=first+r) rfl rfl rfl rfl (F.un _ rfl) (F.sz _ rfl) rfl (by omega) (by omega) (by omega) ?_|refine aJ (q:=first+(2*r+1)) rfl rfl rfl rfl (F.un _ rfl) (F.sz _ rfl) rfl (by omega) (by omega) (by omega) ?_
    refine aA ⟨by kernel_rfl,?_,?_⟩;(focus(repeat(first|exact Kz|apply fw;rfl|apply eL;rfl|refine⟨.inr (by(repeat(refine⟨(by first|exact aQ (F.un _ rfl) (F.sz _ rfl) rfl rfl rfl (by omega) (by omega) (by omega)|exact aw rfl rfl (.inl ⟨rfl,(Js _ ⟨by omega,by omega⟩).symm⟩)),?_⟩));exact Kz),?_⟩|refine⟨.inl (by kernel_rfl),?_⟩)))
    repeat apply ai;rfl
    refine ih _ _ _ (2*r+1,Sort.swp d1 (first+r) (first+(2*r+1))) [] ⟨by simp only;omega,by rw [aN];exact hd1,by rw [← ho,e]⟩ (by simp only;omega) ?_
    (exact Kx rfl rfl rfl ⟨aB rfl,trivial⟩)
   ·rw [JV (by simpa [bj] using h4)] at e
    refine aA ⟨by kernel_rfl,?_,?_⟩;(focus(repeat(first|exact Kz|apply fw;rfl|apply eL;rfl|refine⟨.inr (by(repeat(refine⟨(by first|exact aQ (F.un _ rfl) (F.sz _ rfl) rfl rfl rfl (by omega) (by omega) (by omega)|exact aw rfl rfl (.inl ⟨rfl,(Js _ ⟨by omega,by omega⟩).symm⟩)),?_⟩));exact Kz),?_⟩|refine⟨.inl (by kernel_rfl),?_⟩)))
    repeat apply ai;rfl
    ((apply bn Tryz.func118 (congrArg Array.toList Tryz.results118));(focus(repeat(exact Kq)));refine⟨_,rfl,Ends.mk [] (Kn rfl) rfl rfl ?_⟩)
    rw [← ho,e]
    exact⟨aB rfl,trivial⟩
theorem sW(n a b:Nat)(d:Array (Int))(hn:n<4611686018427387904)(hd:d.size=n)(hab:a≤b)(hb:b≤n) :
 Ctr Tryz.prog 108 [.slu 0 0 n,.sc (.int .i64 (a:Int)),.sc (.int .i64 (b:Int))] [b9 n d] (fun c=>c=⟨.tup [],[some (b9 n (Sort.heapSort bj d a b))]⟩):=by
 refine Kp Tryz.func108 rfl rfl ?_
 repeat first|apply ai;rfl|apply aL;rfl;omega;omega
 refine cd (p9 rfl rfl (by decide) (show _=(((b-a-1) / 2:Nat):Int)from Bu (m:=b-a) (by omega) (by omega))) rfl rfl rfl ?_
 repeat apply ai;rfl
 refine gz 1 (fun s:Nat×Array (Int)=> [(0,.slu 0 0 n),(6,.sc (.int .i64 (a:Int))),(7,.sc (.int .i64 0)),(8,.sc (.int .i64 ((b-a:Nat):Int))),(9,.sc (.int .i64 ((s.1:Int)-1)))]) (fun s=> [some (b9 n s.2)]) (fun s=>s.1≤(b-a-1) / 2+1∧s.2.size=n∧Sort.heapBuild bj (b-a) a s.1 s.2=Sort.heapBuild bj (b-a) a ((b-a-1) / 2+1) d) (fun s=>s.1) ((b-a-1) / 2+1,d) []
  (fun _=>rfl) ⟨JK _,hd,rfl⟩ ?_ (fun _=>rfl) (fun _=>rfl) ?_
 ·(refine⟨(Kn rfl),rfl,(by repeat(first|exact Kz|refine⟨rfl,?_⟩|refine⟨fP (by(omega)),?_⟩)),⟨aB rfl,trivial⟩⟩)
 rintro⟨k,d1⟩ ⟨hk,hd1,ho⟩ ih
 simp only at hk hd1 ho ih ⊢
 repeat apply ai;rfl
 refine dR rfl rfl rfl rfl ?_ ?_
 all_goals intro h1
 ·obtain⟨k,rfl⟩: ∃ k',k=k'+1:=⟨k-1,by omega⟩
  have ek:((k+1:Nat):Int)-1=(k:Int):=by omega
  rw [ek]
  repeat first|apply ai;rfl|apply aL;rfl;omega;omega|refine ci rfl rfl rfl (by kernel_rfl) (Ctr.dO (nE n k (b-a) a d1 hn hd1 (by omega) (by omega)) [0] rfl (Kn rfl) rfl ⟨aB rfl,trivial⟩ rfl (by repeat(first|exact Kz|refine⟨bJ,?_⟩)) (fun _=>rfl) rfl rfl) ?_
  refine ih _ _ _ (k,Sort.siftDown bj (b-a) a k d1) [] ⟨by simp only;omega,by rw [jt];exact hd1,by rw [← ho];rfl⟩ (by simp only;omega) ?_
  (exact Kx rfl rfl rfl ⟨aB rfl,trivial⟩)
 ·obtain rfl:k=0:=by omega
  have ho1:d1=Sort.heapBuild bj (b-a) a ((b-a-1) / 2+1) d:=ho
  repeat first|apply ai;rfl|apply aL;rfl;omega;omega
  refine gz 1 (fun s:Nat×Array (Int)=> [(0,.slu 0 0 n),(6,.sc (.int .i64 (a:Int))),(7,.sc (.int .i64 0)),(10,.sc (.int .i64 ((s.1:Int)-1)))]) (fun s=> [some (b9 n s.2)]) (fun s=>s.1≤b-a∧s.2.size=n∧Sort.heapPop bj a s.1 s.2=Sort.heapSort bj d a b) (fun s=>s.1) (b-a,d1) []
   (fun _=>rfl) ⟨JK _,hd1,by rw [ho1];rfl⟩ ?_ (fun _=>rfl) (fun _=>rfl) ?_
  ·(exact Kx rfl rfl rfl ⟨aB rfl,trivial⟩)
  rintro⟨m,d2⟩ ⟨hm,hd2,hp⟩ ihm
  simp only at hm hd2 hp ihm ⊢
  repeat apply ai;rfl
  refine dR rfl rfl rfl rfl ?_ ?_
  all_goals intro h2
  ·obtain⟨m,rfl⟩: ∃ m',m=m'+1:=⟨m-1,by omega⟩
   have em:((m+1:Nat):Int)-1=(m:Int):=by omega
   rw [em]
   repeat apply ai;rfl
   refine ck (by kernel_rfl) (by kernel_rfl) ?_
   repeat first|apply aU;rfl|refine bk (aw rfl rfl (.inl ⟨rfl,(Js _ ⟨(by omega),(by omega)⟩).symm⟩)) rfl rfl rfl ?_|refine cx (g:=fun x:Int=> .int .i64 x) rfl rfl rfl (F.ag _ rfl) rfl (by(omega)) (by(omega)) ?_|refine fp (g:=fun x:Int=> .int .i64 x) rfl rfl rfl (fun _=>rfl) (F.sz _ rfl) rfl (by first|omega|(simp only [Jt,aN];omega)) (by first|omega|(simp only [Jt,aN];omega)) ?_|refine aJ (q:=a) rfl rfl rfl rfl (F.un _ rfl) (F.sz _ rfl) rfl (by omega) (by omega) (by omega) ?_|refine aJ (q:=a+m) rfl rfl rfl rfl (F.un _ rfl) (F.sz _ rfl) rfl (by omega) (by omega) (by omega) ?_
   refine aA ⟨by kernel_rfl,?_,?_⟩;(focus(repeat(first|exact Kz|apply fw;rfl|apply eL;rfl|refine⟨.inr (by(repeat(refine⟨(by first|exact aQ (F.un _ rfl) (F.sz _ rfl) rfl rfl rfl (by omega) (by omega) (by omega)|exact aw rfl rfl (.inl ⟨rfl,(Js _ ⟨by omega,by omega⟩).symm⟩)),?_⟩));exact Kz),?_⟩|refine⟨.inl (by kernel_rfl),?_⟩)))
   repeat first|apply ai;rfl|apply aL;rfl;omega;omega|refine ci rfl rfl rfl (by kernel_rfl) (Ctr.dO (nE n 0 m a (Sort.swp d2 a (a+m)) hn (by rw [aN];exact hd2) (by omega) (by omega)) [0] rfl (Kn rfl) rfl ⟨aB rfl,trivial⟩ rfl (by repeat(first|exact Kz|refine⟨bJ,?_⟩)) (fun _=>rfl) rfl rfl) ?_
   refine ihm _ _ _ (m,Sort.siftDown bj m a 0 (Sort.swp d2 a (a+m))) [] ⟨by simp only;omega,by rw [jt,aN];exact hd2,by rw [← hp];rfl⟩ (by simp only;omega) ?_
   (exact Kx rfl rfl rfl ⟨aB rfl,trivial⟩)
  ·obtain rfl:m=0:=by omega
   repeat apply ai;rfl
   ((apply qD Tryz.func108 (congrArg Array.toList Tryz.results108));(focus(repeat(exact Kq)));refine⟨_,rfl,Ends.mk [] (Kn rfl) rfl rfl ?_⟩)
   rw [← hp]
   exact⟨aB rfl,trivial⟩
theorem uw(n a b:Nat)(d:Array (Int))(hn:n<4611686018427387904)(hd:d.size=n)(hab:a<b)(hb:b≤n) :
 Ctr Tryz.prog 111 [.slu 0 0 n,.sc (.int .i64 (a:Int)),.sc (.int .i64 (b:Int))] [b9 n d] (fun c=>c=⟨.tup [],[some (b9 n (Sort.reverseRange d a b))]⟩):=by
 refine Kp Tryz.func111 rfl rfl ?_
 repeat first|apply ai;rfl|apply aL;rfl;omega;omega
 refine gz 1 (fun s:(Nat×Nat)×Array (Int)=> [(0,.slu 0 0 n),(6,.sc (.int .i64 (s.1.1:Int))),(7,.sc (.int .i64 (s.1.2:Int)))]) (fun s=> [some (b9 n s.2)]) (fun s=>s.1.1≤n∧s.1.2<n∧s.1.1≤s.1.2+1∧s.2.size=n∧Sort.reverseLoop s.1.1 s.1.2 s.2=Sort.reverseRange d a b) (fun s=>s.1.2+1-s.1.1) ((a,b-1),d) []
  (fun _=>rfl) ⟨by simp only;omega,by simp only;omega,by simp only;omega,hd,rfl⟩ ?_ (fun _=>rfl) (fun _=>rfl) ?_
 ·(refine⟨(Kn rfl),rfl,(by repeat(first|exact Kz|refine⟨rfl,?_⟩|refine⟨fP (by(simp only;omega)),?_⟩)),⟨aB rfl,trivial⟩⟩)
 rintro⟨⟨i,j⟩,d1⟩ ⟨hi,hj,hij,hd1,ho⟩ ih
 simp only at hi hj hij hd1 ho ih ⊢
 repeat apply ai;rfl
 refine bh rfl rfl rfl rfl ?_ ?_
 all_goals intro h1
 ·repeat apply ai;rfl
  refine ck (by kernel_rfl) (by kernel_rfl) ?_
  repeat first|apply aU;rfl|refine cx (g:=fun x:Int=> .int .i64 x) rfl rfl rfl (F.ag _ rfl) rfl (by(omega)) (by(omega)) ?_|refine fp (g:=fun x:Int=> .int .i64 x) rfl rfl rfl (fun _=>rfl) (F.sz _ rfl) rfl (by first|omega|(simp only [Jt,aN];omega)) (by first|omega|(simp only [Jt,aN];omega)) ?_|refine aJ (q:=i) rfl rfl rfl rfl (F.un _ rfl) (F.sz _ rfl) rfl (by omega) (by omega) (by omega) ?_|refine aJ (q:=j) rfl rfl rfl rfl (F.un _ rfl) (F.sz _ rfl) rfl (by omega) (by omega) (by omega) ?_
  refine aA ⟨by kernel_rfl,?_,?_⟩;(focus(repeat(first|exact Kz|apply fw;rfl|apply eL;rfl|refine⟨.inr (by(repeat(refine⟨(by(exact aQ (F.un _ rfl) (F.sz _ rfl) rfl rfl rfl (by omega) (by omega) (by omega))),?_⟩));exact Kz),?_⟩|refine⟨.inl (by kernel_rfl),?_⟩)))
  repeat first|apply ai;rfl|apply aL;rfl;omega;omega
  refine ih _ _ _ ((i+1,j-1),Sort.swp d1 i j) [] ⟨by simp only;omega,by simp only;omega,by simp only;omega,by rw [aN];exact hd1,?_⟩ (by simp only;omega) ?_
  ·rw [← ho]
   conv=>rhs;rw [Sort.reverseLoop,JW (by omega)]
  ·(refine⟨(Kn rfl),rfl,(by repeat(first|exact Kz|refine⟨rfl,?_⟩|refine⟨fP (by(simp only;omega)),?_⟩)),⟨aB rfl,trivial⟩⟩)
 ·repeat apply ai;rfl
  ((apply qD Tryz.func111 (congrArg Array.toList Tryz.results111));(focus(repeat(exact Kq)));refine⟨_,rfl,Ends.mk [] (Kn rfl) rfl rfl ?_⟩)
  rw [← ho,Sort.reverseLoop,JV (by omega)]
  exact⟨aB rfl,trivial⟩
abbrev mY(k:Nat):VO:=ar 3 [.sc (.int .i64 (k:Int))]
theorem im(n a b k:Nat)(d:Array (Int))(hn:n<4611686018427387904)(hd:d.size=n)(ha:a<n)(hb:b<n)(hk:k<1000) :
 Ctr Tryz.prog 124 [.slu 0 0 n,.sc (.int .i64 (a:Int)),.sc (.int .i64 (b:Int)),.ptr 1 0] [b9 n d,mY k] (fun c=>c=⟨.tup [.sc (.int .i64 ((Sort.order2 bj d a b k).1:Int)),.sc (.int .i64 ((Sort.order2 bj d a b k).2.1:Int))],[some (b9 n d),some (mY (Sort.order2 bj d a b k).2.2)]⟩):=by
 refine Kp Tryz.func124 rfl rfl ?_
 repeat apply ai;rfl
 refine ck (by kernel_rfl) (by kernel_rfl) ?_
 have hls_h1:=fS (d[b]!) (d[a]!)
 cases h1:bj (d[b]!) (d[a]!)
 all_goals rw [h1] at hls_h1
 rotate_left
 all_goals(repeat(first|apply aU;rfl|refine cx (g:=fun x:Int=> .int .i64 x) rfl rfl rfl (F.ag _ rfl) rfl (by(omega)) (by(omega)) ?_|refine aJ (q:=a) rfl rfl rfl rfl (F.un _ rfl) (F.sz _ rfl) rfl (by omega) (by omega) (by omega) ?_|refine aJ (q:=b) rfl rfl rfl rfl (F.un _ rfl) (F.sz _ rfl) rfl (by omega) (by omega) (by omega) ?_|refine b8 rfl rfl rfl (by kernel_rfl) (Ctr.callV (hls_h1) [] rfl (Kn rfl) rfl trivial rfl) ?_))
 ·skip
  refine aA ⟨by kernel_rfl,?_,?_⟩;(focus(repeat(first|exact Kz|apply fw;rfl|apply eL;rfl|refine⟨.inr (by(repeat(refine⟨(by(exact aQ (F.un _ rfl) (F.sz _ rfl) rfl rfl rfl (by omega) (by omega) (by omega))),?_⟩));exact Kz),?_⟩|refine⟨.inl (by kernel_rfl),?_⟩)))
  repeat first|apply ai;rfl|apply aL;rfl;omega;omega|refine cZ rfl rfl rfl (F.ag _ rfl) rfl rfl ?_|refine dq rfl rfl rfl (F.sz _ rfl) rfl rfl rfl ?_
  rw [show Sort.order2 bj d a b k=(b,a,k+1) by rw [Sort.order2,JW (by simpa [bj] using h1)]]
  ((apply bn Tryz.func124 (congrArg Array.toList Tryz.results124));(focus(repeat(first|exact Kq|apply Ks rfl)));refine⟨_,rfl,Ends.mk [] (Kn rfl) rfl rfl ?_⟩)
  exact(by repeat(first|exact Kz|refine⟨aB rfl,?_⟩|refine⟨fB rfl,?_⟩))
 ·skip
  refine aA ⟨by kernel_rfl,?_,?_⟩;(focus(repeat(first|exact Kz|apply fw;rfl|apply eL;rfl|refine⟨.inr (by(repeat(refine⟨(by(exact aQ (F.un _ rfl) (F.sz _ rfl) rfl rfl rfl (by omega) (by omega) (by omega))),?_⟩));exact Kz),?_⟩|refine⟨.inl (by kernel_rfl),?_⟩)))
  repeat apply ai;rfl
  rw [show Sort.order2 bj d a b k=(a,b,k) by rw [Sort.order2,JV (by simpa [bj] using h1)]]
  ((apply bn Tryz.func124 (congrArg Array.toList Tryz.results124));(focus(repeat(first|exact Kq|apply Ks rfl)));refine⟨_,rfl,Ends.mk [] (Kn rfl) rfl rfl ?_⟩)
  exact(by repeat(first|exact Kz|refine⟨aB rfl,?_⟩|refine⟨fB rfl,?_⟩))
theorem e9{k n:Nat}(ha:a<n)(hb:b<n):(Sort.order2 lt d a b k).1<n∧(Sort.order2 lt d a b k).2.1<n∧(Sort.order2 lt d a b k).2.2≤k+1:=by
 unfold Sort.order2
 split
 ·exact⟨hb,ha,JK _⟩
 ·exact⟨ha,hb,JT _⟩
theorem io(n a b c k:Nat)(d:Array (Int))(hn:n<4611686018427387904)(hd:d.size=n)(ha:a<n)(hb:b<n)(hc:c<n)(hk:k<900) :
 Ctr Tryz.prog 122 [.slu 0 0 n,.sc (.int .i64 (a:Int)),.sc (.int .i64 (b:Int)),.sc (.int .i64 (c:Int)),.ptr 1 0] [b9 n d,mY k] (fun r=>r=⟨.sc (.int .i64 ((Sort.median bj d a b c k).1:Int)),[some (b9 n d),some (mY (Sort.median bj d a b c k).2)]⟩):=by
 obtain⟨q1,q2,q3⟩:=e9 (lt:=bj) (d:=d) (k:=k) ha hb
 have e1:=im n a b k d hn hd ha hb (by omega)
 unfold Sort.median
 generalize Sort.order2 bj d a b k=r1 at q1 q2 q3 e1 ⊢
 obtain⟨a1,b1,k1⟩:=r1
 obtain⟨p1,p2,p3⟩:=e9 (lt:=bj) (d:=d) (k:=k1) q2 hc
 have e2:=im n b1 c k1 d hn hd q2 hc (by simp only at q3;omega)
 simp only at q1 q2 q3 p1 p2 p3 e1 e2 ⊢
 generalize Sort.order2 bj d b1 c k1=r2 at p1 p2 p3 e2 ⊢
 obtain⟨b2,c2,k2⟩:=r2
 obtain⟨o1,o2,o3⟩:=e9 (lt:=bj) (d:=d) (k:=k2) q1 p1
 have e3:=im n a1 b2 k2 d hn hd q1 p1 (by simp only at p3;omega)
 simp only at p1 p2 p3 o1 o2 o3 e2 e3 ⊢
 generalize Sort.order2 bj d a1 b2 k2=r3 at o1 o2 o3 e3 ⊢
 obtain⟨a3,b3,k3⟩:=r3
 simp only at o1 o2 o3 e3 ⊢
 refine Kp Tryz.func122 rfl rfl ?_
 repeat first|apply ai;rfl|refine ci rfl rfl rfl (by kernel_rfl) (Ctr.dO (e1) [0,1] rfl (Kn rfl) rfl (by repeat(first|exact Kz|refine⟨aB rfl,?_⟩|refine⟨fB rfl,?_⟩)) rfl (by repeat(first|exact Kz|refine⟨bJ,?_⟩|refine⟨dH (fun _=>rfl),?_⟩)) (fun _=>rfl) rfl rfl) ?_|refine ci rfl rfl rfl (by kernel_rfl) (Ctr.dO (e2) [0,1] rfl (Kn rfl) rfl (by repeat(first|exact Kz|refine⟨aB rfl,?_⟩|refine⟨fB rfl,?_⟩)) rfl (by repeat(first|exact Kz|refine⟨bJ,?_⟩|refine⟨dH (fun _=>rfl),?_⟩)) (fun _=>rfl) rfl rfl) ?_|refine ci rfl rfl rfl (by kernel_rfl) (Ctr.dO (e3) [0,1] rfl (Kn rfl) rfl (by repeat(first|exact Kz|refine⟨aB rfl,?_⟩|refine⟨fB rfl,?_⟩)) rfl (by repeat(first|exact Kz|refine⟨bJ,?_⟩|refine⟨dH (fun _=>rfl),?_⟩)) (fun _=>rfl) rfl rfl) ?_
 ((apply bn Tryz.func122 (congrArg Array.toList Tryz.results122));(focus(repeat(first|exact Kq|apply Ks rfl)));refine⟨_,rfl,Ends.mk [] (Kn rfl) rfl rfl ?_⟩)
 exact(by repeat(first|exact Kz|refine⟨aB rfl,?_⟩|refine⟨fB rfl,?_⟩))
theorem jR{c k n:Nat}(ha:a<n)(hb:b<n)(hc:c<n):(Sort.median lt d a b c k).1<n∧(Sort.median lt d a b c k).2≤k+3:=by
 obtain⟨q1,q2,q3⟩:=e9 (lt:=lt) (d:=d) (k:=k) ha hb
 obtain⟨p1,p2,p3⟩:=e9 (lt:=lt) (d:=d) (k:=(Sort.order2 lt d a b k).2.2) q2 hc
 obtain⟨o1,o2,o3⟩:=e9 (lt:=lt) (d:=d) (k:=(Sort.order2 lt d (Sort.order2 lt d a b k).2.1 c (Sort.order2 lt d a b k).2.2).2.2) q1 p1
 exact⟨o2,by simp only [Sort.median];omega⟩
theorem ip(n a k:Nat)(d:Array (Int))(hn:n<4611686018427387904)(hd:d.size=n)(ha:a+1<n)(h1:1≤a)(hk:k<900) :
 Ctr Tryz.prog 121 [.slu 0 0 n,.sc (.int .i64 (a:Int)),.ptr 1 0] [b9 n d,mY k] (fun r=>r=⟨.sc (.int .i64 ((Sort.medianAdjacent bj d a k).1:Int)),[some (b9 n d),some (mY (Sort.medianAdjacent bj d a k).2)]⟩):=by
 obtain⟨a,rfl⟩: ∃ a',a=a'+1:=⟨a-1,by omega⟩
 have e:=io n a (a+1) (a+1+1) k d hn hd (by omega) (by omega) (by omega) hk
 have e0:((a:Nat):Int)=((a+1:Nat):Int)-1:=by omega
 rw [e0] at e
 refine Kp Tryz.func121 rfl rfl ?_
 repeat first|apply ai;rfl|apply aL;rfl;omega;omega|refine ci rfl rfl rfl (by kernel_rfl) (Ctr.dO (e) [0,1] rfl (Kn rfl) rfl (by repeat(first|exact Kz|refine⟨aB rfl,?_⟩|refine⟨fB rfl,?_⟩)) rfl (by repeat(first|exact Kz|refine⟨bJ,?_⟩|refine⟨dH (fun _=>rfl),?_⟩)) (fun _=>rfl) rfl rfl) ?_
 ((apply bn Tryz.func121 (congrArg Array.toList Tryz.results121));(focus(repeat(first|exact Kq|apply Ks rfl)));refine⟨_,rfl,Ends.mk [] (Kn rfl) rfl rfl ?_⟩)
 exact(by repeat(first|exact Kz|refine⟨aB rfl,?_⟩|refine⟨fB rfl,?_⟩))
theorem ux(n a b:Nat)(d:Array (Int))(hn:n<4611686018427387904)(hd:d.size=n)(hab:a<b)(hb:b≤n) :
 Ctr Tryz.prog 110 [.slu 0 0 n,.sc (.int .i64 (a:Int)),.sc (.int .i64 (b:Int))] [b9 n d] (fun r=>r=⟨.tup [.sc (.int .i64 ((Sort.choosePivot bj d a b).1:Int)),.sc (.int .i64 (Ew (Sort.choosePivot bj d a b).2))],[some (b9 n d)]⟩):=by
 have e1:((a:Int)+((b:Int)-(a:Int)) / 4*1)=((a+(b-a) / 4*1:Nat):Int):=by omega
 have e2:((a:Int)+((b:Int)-(a:Int)) / 4*2)=((a+(b-a) / 4*2:Nat):Int):=by omega
 have e3:((a:Int)+((b:Int)-(a:Int)) / 4*3)=((a+(b-a) / 4*3:Nat):Int):=by omega
 refine Kp Tryz.func110 rfl rfl ?_
 repeat first|apply ai;rfl|apply aL;rfl;omega;omega|refine cd (p9 rfl rfl (by omega) (jC (by omega) (by omega) (by omega))) rfl rfl rfl ?_
 rw [e1,e2,e3]
 have fin: ∀ (T:Tr SV) (H:au) (nx:Nat) (p k:Nat),True:=fun _ _ _ _ _=>trivial
 refine dR rfl rfl rfl rfl ?_ ?_
 all_goals intro h1
 ·repeat apply ai;rfl
  refine dR rfl rfl rfl rfl ?_ ?_
  all_goals intro h2
  ·have m1:=ip n (a+(b-a) / 4*1) 0 d hn hd (by omega) (by omega) (by omega)
   have l1:(Sort.medianAdjacent bj d (a+(b-a) / 4*1) 0).1<n∧(Sort.medianAdjacent bj d (a+(b-a) / 4*1) 0).2≤0+3:=jR (by omega) (by omega) (by omega)
   have ec:Sort.choosePivot bj d a b=Sort.choosePivot bj d a b:=rfl
   conv at ec=>rhs;unfold Sort.choosePivot
   simp only [show b-a≥8 by omega,show b-a≥50 by omega,if_true] at ec
   generalize Sort.medianAdjacent bj d (a+(b-a) / 4*1) 0=r1 at m1 l1 ec
   have m2:=ip n (a+(b-a) / 4*2) r1.2 d hn hd (by omega) (by omega) (by omega)
   have l2:(Sort.medianAdjacent bj d (a+(b-a) / 4*2) r1.2).1<n∧(Sort.medianAdjacent bj d (a+(b-a) / 4*2) r1.2).2≤r1.2+3:=jR (by omega) (by omega) (by omega)
   generalize Sort.medianAdjacent bj d (a+(b-a) / 4*2) r1.2=r2 at m2 l2 ec
   have m3:=ip n (a+(b-a) / 4*3) r2.2 d hn hd (by omega) (by omega) (by omega)
   have l3:(Sort.medianAdjacent bj d (a+(b-a) / 4*3) r2.2).1<n∧(Sort.medianAdjacent bj d (a+(b-a) / 4*3) r2.2).2≤r2.2+3:=jR (by omega) (by omega) (by omega)
   generalize Sort.medianAdjacent bj d (a+(b-a) / 4*3) r2.2=r3 at m3 l3 ec
   have m4:=io n r1.1 r2.1 r3.1 r3.2 d hn hd l1.1 l2.1 l3.1 (by omega)
   generalize Sort.median bj d r1.1 r2.1 r3.1 r3.2=r4 at m4 ec
   rw [ec]
   obtain⟨p,k⟩:=r4
   repeat first|apply ai;rfl|apply aH;rfl;(focus((repeat(exact ac));done));rfl|refine ci rfl rfl rfl (by kernel_rfl) (Ctr.dO (m1) [0,1] rfl (Kn rfl) rfl (by repeat(first|exact Kz|refine⟨aB rfl,?_⟩|refine⟨fB rfl,?_⟩)) rfl (by repeat(first|exact Kz|refine⟨bJ,?_⟩|refine⟨dH (fun _=>rfl),?_⟩)) (fun _=>rfl) rfl rfl) ?_|refine ci rfl rfl rfl (by kernel_rfl) (Ctr.dO (m2) [0,1] rfl (Kn rfl) rfl (by repeat(first|exact Kz|refine⟨aB rfl,?_⟩|refine⟨fB rfl,?_⟩)) rfl (by repeat(first|exact Kz|refine⟨bJ,?_⟩|refine⟨dH (fun _=>rfl),?_⟩)) (fun _=>rfl) rfl rfl) ?_|refine ci rfl rfl rfl (by kernel_rfl) (Ctr.dO (m3) [0,1] rfl (Kn rfl) rfl (by repeat(first|exact Kz|refine⟨aB rfl,?_⟩|refine⟨fB rfl,?_⟩)) rfl (by repeat(first|exact Kz|refine⟨bJ,?_⟩|refine⟨dH (fun _=>rfl),?_⟩)) (fun _=>rfl) rfl rfl) ?_|refine ci rfl rfl rfl (by kernel_rfl) (Ctr.dO (m4) [0,1] rfl (Kn rfl) rfl (by repeat(first|exact Kz|refine⟨aB rfl,?_⟩|refine⟨fB rfl,?_⟩)) rfl (by repeat(first|exact Kz|refine⟨bJ,?_⟩|refine⟨dH (fun _=>rfl),?_⟩)) (fun _=>rfl) rfl rfl) ?_
   refine cI rfl rfl rfl rfl ?_ ?_
   all_goals intro h3
   ·repeat apply ai;rfl
    rw [JW (show(p,k).2=0 by simp only;omega)]
    ((apply bn Tryz.func110 (congrArg Array.toList Tryz.results110));(focus(repeat(first|exact Kq|apply Ks rfl)));refine⟨_,rfl,Ends.mk [] (Kn rfl) rfl rfl ?_⟩)
    exact⟨aB rfl,trivial⟩
   ·repeat apply ai;rfl
    refine cI rfl rfl rfl rfl ?_ ?_
    all_goals intro h4
    ·repeat apply ai;rfl
     rw [JV (show ¬ (p,k).2=0 by simp only;omega),JW (show(p,k).2=12 by simp only;omega)]
     ((apply bn Tryz.func110 (congrArg Array.toList Tryz.results110));(focus(repeat(first|exact Kq|apply Ks rfl)));refine⟨_,rfl,Ends.mk [] (Kn rfl) rfl rfl ?_⟩)
     exact⟨aB rfl,trivial⟩
    ·repeat apply ai;rfl
     rw [JV (show ¬ (p,k).2=0 by simp only;omega),JV (show ¬ (p,k).2=12 by simp only;omega)]
     ((apply bn Tryz.func110 (congrArg Array.toList Tryz.results110));(focus(repeat(first|exact Kq|apply Ks rfl)));refine⟨_,rfl,Ends.mk [] (Kn rfl) rfl rfl ?_⟩)
     exact⟨aB rfl,trivial⟩
  ·have ec:Sort.choosePivot bj d a b=Sort.choosePivot bj d a b:=rfl
   conv at ec=>rhs;unfold Sort.choosePivot
   simp only [show b-a≥8 by omega,show ¬ (b-a≥50) by omega,if_true,if_false] at ec
   have m4:=io n (a+(b-a) / 4*1) (a+(b-a) / 4*2) (a+(b-a) / 4*3) 0 d hn hd (by omega) (by omega) (by omega) (by omega)
   generalize Sort.median bj d (a+(b-a) / 4*1) (a+(b-a) / 4*2) (a+(b-a) / 4*3) 0=r4 at m4 ec
   rw [ec]
   obtain⟨p,k⟩:=r4
   repeat first|apply ai;rfl|apply aH;rfl;(focus((repeat(exact ac));done));rfl|refine ci rfl rfl rfl (by kernel_rfl) (Ctr.dO (m4) [0,1] rfl (Kn rfl) rfl (by repeat(first|exact Kz|refine⟨aB rfl,?_⟩|refine⟨fB rfl,?_⟩)) rfl (by repeat(first|exact Kz|refine⟨bJ,?_⟩|refine⟨dH (fun _=>rfl),?_⟩)) (fun _=>rfl) rfl rfl) ?_
   refine cI rfl rfl rfl rfl ?_ ?_
   all_goals intro h3
   ·repeat apply ai;rfl
    rw [JW (show(p,k).2=0 by simp only;omega)]
    ((apply bn Tryz.func110 (congrArg Array.toList Tryz.results110));(focus(repeat(first|exact Kq|apply Ks rfl)));refine⟨_,rfl,Ends.mk [] (Kn rfl) rfl rfl ?_⟩)
    exact⟨aB rfl,trivial⟩
   ·repeat apply ai;rfl
    refine cI rfl rfl rfl rfl ?_ ?_
    all_goals intro h4
    ·repeat apply ai;rfl
     rw [JV (show ¬ (p,k).2=0 by simp only;omega),JW (show(p,k).2=12 by simp only;omega)]
     ((apply bn Tryz.func110 (congrArg Array.toList Tryz.results110));(focus(repeat(first|exact Kq|apply Ks rfl)));refine⟨_,rfl,Ends.mk [] (Kn rfl) rfl rfl ?_⟩)
     exact⟨aB rfl,trivial⟩
    ·repeat apply ai;rfl
     rw [JV (show ¬ (p,k).2=0 by simp only;omega),JV (show ¬ (p,k).2=12 by simp only;omega)]
     ((apply bn Tryz.func110 (congrArg Array.toList Tryz.results110));(focus(repeat(first|exact Kq|apply Ks rfl)));refine⟨_,rfl,Ends.mk [] (Kn rfl) rfl rfl ?_⟩)
     exact⟨aB rfl,trivial⟩
 ·have ec:Sort.choosePivot bj d a b=(a+(b-a) / 4*2,.increasing):=by
   unfold Sort.choosePivot
   simp only [show ¬ (b-a≥8) by omega,if_false,if_true]
  rw [ec]
  repeat first|apply ai;rfl|apply aH;rfl;(focus((repeat(exact ac));done));rfl|refine cd (dl rfl rfl (.inl ⟨rfl,rfl⟩)) rfl rfl rfl ?_
  ((apply bn Tryz.func110 (congrArg Array.toList Tryz.results110));(focus(repeat(first|exact Kq|apply Ks rfl)));refine⟨_,rfl,Ends.mk [] (Kn rfl) rfl rfl ?_⟩)
  exact⟨aB rfl,trivial⟩
theorem jQ(h:i≤j)(hp:p d[i]! =true):Sort.scanUp p d j i=Sort.scanUp p d j (i+1):=by
 conv=>lhs;rw [Sort.scanUp,JW (by simp [h,hp])]
theorem dF(h:j<i∨p d[i]! =false):Sort.scanUp p d j i=i:=by
 rw [Sort.scanUp,JV]
 simp only [JJ,Km]
 rintro⟨h1,h2⟩
 rcases h with h|h
 ·omega
 ·rw [h] at h2;cases h2
theorem il(h:i≤j+1)(hp:p d[j+1]! =true):Sort.scanDown p d i (j+1)=Sort.scanDown p d i j:=by
 conv=>lhs;rw [Sort.scanDown,JW (by simp [h,hp])]
theorem dc(h:j<i∨p d[j]! =false):Sort.scanDown p d i j=j:=by
 cases j with
 | zero=>rfl
 | succ j=>
   rw [Sort.scanDown,JV]
   simp only [JJ,Km]
   rintro⟨h1,h2⟩
   rcases h with h|h
   ·omega
   ·rw [h] at h2;cases h2
theorem pR(hi:Sort.scanUp (fun x=> !lt d[a]! x) d j i=i2)(hj:Sort.scanDown (fun x=>lt d[a]! x) d i2 j=j2)(h1:i≤i2)(h2:j2≤j) :
 Sort.partEqLoop lt a i j d=if j2<i2 then(i2,d) else Sort.partEqLoop lt a (i2+1) (j2-1) (Sort.swp d i2 j2):=by
 conv=>lhs;unfold Sort.partEqLoop
 simp only [hi,hj]
 split
 ·rfl
 ·rw [dif_pos (by omega)]
theorem pS(n a b pv:Nat)(d:Array (Int))(hn:n<4611686018427387904)(hd:d.size=n)(hap:a≤pv)(hpb:pv<b)(hb:b≤n) :
 Ctr Tryz.prog 114 [.slu 0 0 n,.sc (.int .i64 (a:Int)),.sc (.int .i64 (b:Int)),.sc (.int .i64 (pv:Int))] [b9 n d] (fun c=>c=⟨.sc (.int .i64 ((Sort.partitionEqual bj d a b pv).1:Int)),[some (b9 n (Sort.partitionEqual bj d a b pv).2)]⟩):=by
 refine Kp Tryz.func114 rfl rfl ?_
 repeat apply ai;rfl
 refine ck (by kernel_rfl) (by kernel_rfl) ?_
 repeat first|apply aU;rfl|refine cx (g:=fun x:Int=> .int .i64 x) rfl rfl rfl (F.ag _ rfl) rfl (by(omega)) (by(omega)) ?_|refine fp (g:=fun x:Int=> .int .i64 x) rfl rfl rfl (fun _=>rfl) (F.sz _ rfl) rfl (by first|omega|(simp only [Jt,aN];omega)) (by first|omega|(simp only [Jt,aN];omega)) ?_|refine aJ (q:=a) rfl rfl rfl rfl (F.un _ rfl) (F.sz _ rfl) rfl (by omega) (by omega) (by omega) ?_|refine aJ (q:=pv) rfl rfl rfl rfl (F.un _ rfl) (F.sz _ rfl) rfl (by omega) (by omega) (by omega) ?_
 refine aA ⟨by kernel_rfl,?_,?_⟩;(focus(repeat(first|exact Kz|apply fw;rfl|apply eL;rfl|refine⟨.inr (by(repeat(refine⟨(by(exact aQ (F.un _ rfl) (F.sz _ rfl) rfl rfl rfl (by omega) (by omega) (by omega))),?_⟩));exact Kz),?_⟩|refine⟨.inl (by kernel_rfl),?_⟩)))
 repeat first|apply ai;rfl|apply aL;rfl;omega;omega
 refine gz 1 (fun s:(Nat×Nat)×Array (Int)=> [(0,.slu 0 0 n),(1,.sc (.int .i64 (a:Int))),(9,.sc (.int .i64 (s.1.1:Int))),(10,.sc (.int .i64 (s.1.2:Int)))]) (fun s=> [some (b9 n s.2)]) (fun s=>a<s.1.1∧s.1.1≤n∧s.1.2<n∧s.2.size=n∧Sort.partEqLoop bj a s.1.1 s.1.2 s.2=Sort.partitionEqual bj d a b pv) (fun s=>s.1.2+1-s.1.1) ((a+1,b-1),Sort.swp d a pv) []
  (fun _=>rfl) ⟨by simp only;omega,by simp only;omega,by simp only;omega,by rw [aN];exact hd,rfl⟩ ?_ (fun _=>rfl) (fun _=>rfl) ?_
 ·(refine⟨(Kn rfl),rfl,(by repeat(first|exact Kz|refine⟨rfl,?_⟩|refine⟨fP (by(simp only;omega)),?_⟩)),⟨aB rfl,trivial⟩⟩)
 rintro⟨⟨i,j⟩,d1⟩ ⟨hai,hi,hj,hd1,ho⟩ ih
 simp only at hai hi hj hd1 ho ih ⊢
 repeat apply ai;rfl
 refine gy 1 (fun x:Nat=> [(0,.slu 0 0 n),(1,.sc (.int .i64 (a:Int))),(9,.sc (.int .i64 (x:Int))),(10,.sc (.int .i64 (j:Int)))]) (fun _=> [some (b9 n d1)]) (fun x=>i≤x∧x≤n∧Sort.scanUp (fun y=> !bj d1[a]! y) d1 j x=Sort.scanUp (fun y=> !bj d1[a]! y) d1 j i) (fun x=>n-x) i []
  1 (fun x:Nat=> [(0,.slu 0 0 n),(1,.sc (.int .i64 (a:Int))),(9,.sc (.int .i64 (x:Int))),(10,.sc (.int .i64 (j:Int)))]) (fun _=> [some (b9 n d1)]) (fun x=>i≤x∧x≤n∧Sort.scanUp (fun y=> !bj d1[a]! y) d1 j i=x)
  (fun _=>rfl) (fun _=>rfl) ⟨JK _,hi,rfl⟩ ?_ (fun _=>rfl) (fun _=>rfl) ?_ ?_
 ·(exact Kx rfl rfl rfl ⟨aB rfl,trivial⟩)
 ·rintro i1 ⟨hii,hi1,hu⟩ ihu out
  repeat apply ai;rfl
  refine ck (by kernel_rfl) (by kernel_rfl) ?_
  repeat apply aU;rfl
  refine nd rfl rfl rfl rfl ?_ ?_
  all_goals intro h1
  ·have hls_h2:=fS (d1[a]!) (d1[i1]!)
   cases h2:bj (d1[a]!) (d1[i1]!)
   all_goals rw [h2] at hls_h2
   rotate_left
   all_goals(repeat(first|apply aU;rfl|refine cx (g:=fun x:Int=> .int .i64 x) rfl rfl rfl (F.ag _ rfl) rfl (by(omega)) (by(omega)) ?_|refine aJ (q:=a) rfl rfl rfl rfl (F.un _ rfl) (F.sz _ rfl) rfl (by omega) (by omega) (by omega) ?_|refine aJ (q:=i1) rfl rfl rfl rfl (F.un _ rfl) (F.sz _ rfl) rfl (by omega) (by omega) (by omega) ?_|refine b8 rfl rfl rfl (by kernel_rfl) (Ctr.callV (hls_h2) [] rfl (Kn rfl) rfl trivial rfl) ?_))
   ·skip
    refine aA ⟨by kernel_rfl,?_,?_⟩;(focus(repeat(first|exact Kz|apply fw;rfl|apply eL;rfl|refine⟨.inr (by(repeat(refine⟨(by(exact aQ (F.un _ rfl) (F.sz _ rfl) rfl rfl rfl (by omega) (by omega) (by omega))),?_⟩));exact Kz),?_⟩|refine⟨.inl (by kernel_rfl),?_⟩)))
    repeat first|refine out _ _ _ i1 [] ⟨hii,hi1,by rw [← hu];exact dF (.inr (by simpa [bj] using h2))⟩ ?_;(exact Kx rfl rfl rfl ⟨aB rfl,trivial⟩)|apply cD;rfl
   ·skip
    refine aA ⟨by kernel_rfl,?_,?_⟩;(focus(repeat(first|exact Kz|apply fw;rfl|apply eL;rfl|refine⟨.inr (by(repeat(refine⟨(by(exact aQ (F.un _ rfl) (F.sz _ rfl) rfl rfl rfl (by omega) (by omega) (by omega))),?_⟩));exact Kz),?_⟩|refine⟨.inl (by kernel_rfl),?_⟩)))
    repeat first|apply ai;rfl|apply aL;rfl;omega;omega
    refine ihu _ _ _ (i1+1) [] ⟨by omega,by omega,?_⟩ (by omega) ?_
    ·rw [← hu]
     exact(jQ (by omega) (by simpa [bj] using h2)).symm
    ·(exact Kx rfl rfl rfl ⟨aB rfl,trivial⟩)
  ·repeat first|apply aU;rfl|refine cv rfl rfl ?_
   refine aA ⟨by kernel_rfl,?_,?_⟩;(focus(repeat(first|exact Kz|apply AS;rfl|apply eL;rfl|refine⟨.inl rfl,?_⟩)))
   repeat first|refine out _ _ _ i1 [] ⟨hii,hi1,by rw [← hu];exact dF (.inl (by omega))⟩ ?_;(exact Kx rfl rfl rfl ⟨aB rfl,trivial⟩)|apply cD;rfl
 rintro i2 ⟨hii,hi2,hu⟩
 repeat apply ai;rfl
 refine gy 1 (fun x:Nat=> [(0,.slu 0 0 n),(1,.sc (.int .i64 (a:Int))),(9,.sc (.int .i64 (i2:Int))),(10,.sc (.int .i64 (x:Int)))]) (fun _=> [some (b9 n d1)]) (fun x=>x≤j∧Sort.scanDown (fun y=>bj d1[a]! y) d1 i2 x=Sort.scanDown (fun y=>bj d1[a]! y) d1 i2 j) (fun x=>x) j []
  1 (fun x:Nat=> [(0,.slu 0 0 n),(1,.sc (.int .i64 (a:Int))),(9,.sc (.int .i64 (i2:Int))),(10,.sc (.int .i64 (x:Int)))]) (fun _=> [some (b9 n d1)]) (fun x=>x≤j∧Sort.scanDown (fun y=>bj d1[a]! y) d1 i2 j=x)
  (fun _=>rfl) (fun _=>rfl) ⟨JK _,rfl⟩ ?_ (fun _=>rfl) (fun _=>rfl) ?_ ?_
 ·(exact Kx rfl rfl rfl ⟨aB rfl,trivial⟩)
 ·rintro j1 ⟨hjj,hv⟩ ihv out
  repeat apply ai;rfl
  refine ck (by kernel_rfl) (by kernel_rfl) ?_
  repeat apply aU;rfl
  refine nd rfl rfl rfl rfl ?_ ?_
  all_goals intro h1
  ·have hls_h2:=fS (d1[a]!) (d1[j1]!)
   cases h2:bj (d1[a]!) (d1[j1]!)
   all_goals rw [h2] at hls_h2
   rotate_left
   all_goals(repeat(first|apply aU;rfl|refine cx (g:=fun x:Int=> .int .i64 x) rfl rfl rfl (F.ag _ rfl) rfl (by(omega)) (by(omega)) ?_|refine aJ (q:=a) rfl rfl rfl rfl (F.un _ rfl) (F.sz _ rfl) rfl (by omega) (by omega) (by omega) ?_|refine aJ (q:=j1) rfl rfl rfl rfl (F.un _ rfl) (F.sz _ rfl) rfl (by omega) (by omega) (by omega) ?_|refine b8 rfl rfl rfl (by kernel_rfl) (Ctr.callV (hls_h2) [] rfl (Kn rfl) rfl trivial rfl) ?_))
   ·skip
    refine aA ⟨by kernel_rfl,?_,?_⟩;(focus(repeat(first|exact Kz|apply fw;rfl|apply eL;rfl|refine⟨.inr (by(repeat(refine⟨(by(exact aQ (F.un _ rfl) (F.sz _ rfl) rfl rfl rfl (by omega) (by omega) (by omega))),?_⟩));exact Kz),?_⟩|refine⟨.inl (by kernel_rfl),?_⟩)))
    repeat first|apply ai;rfl|apply aL;rfl;omega;omega
    obtain⟨j1,rfl⟩: ∃ j',j1=j'+1:=⟨j1-1,by omega⟩
    refine ihv _ _ _ j1 [] ⟨by omega,?_⟩ (by omega) ?_
    ·rw [← hv]
     exact(il (by omega) (by simpa [bj] using h2)).symm
    ·(refine⟨(Kn rfl),rfl,(by repeat(first|exact Kz|refine⟨rfl,?_⟩|refine⟨fP (by(omega)),?_⟩)),⟨aB rfl,trivial⟩⟩)
   ·skip
    refine aA ⟨by kernel_rfl,?_,?_⟩;(focus(repeat(first|exact Kz|apply fw;rfl|apply eL;rfl|refine⟨.inr (by(repeat(refine⟨(by(exact aQ (F.un _ rfl) (F.sz _ rfl) rfl rfl rfl (by omega) (by omega) (by omega))),?_⟩));exact Kz),?_⟩|refine⟨.inl (by kernel_rfl),?_⟩)))
    repeat first|refine out _ _ _ j1 [] ⟨hjj,by rw [← hv];exact dc (.inr (by simpa [bj] using h2))⟩ ?_;(exact Kx rfl rfl rfl ⟨aB rfl,trivial⟩)|apply cD;rfl
  ·repeat first|apply aU;rfl|refine cv rfl rfl ?_
   refine aA ⟨by kernel_rfl,?_,?_⟩;(focus(repeat(first|exact Kz|apply AS;rfl|apply eL;rfl|refine⟨.inl rfl,?_⟩)))
   repeat first|refine out _ _ _ j1 [] ⟨hjj,by rw [← hv];exact dc (.inl (by omega))⟩ ?_;(exact Kx rfl rfl rfl ⟨aB rfl,trivial⟩)|apply cD;rfl
 rintro j2 ⟨hjj,hv⟩
 have e:=pR hu hv hii hjj
 repeat apply ai;rfl
 refine dQ rfl rfl rfl rfl ?_ ?_
 all_goals intro h3
 ·rw [ho,JW (by omega)] at e
  repeat apply ai;rfl
  rw [e]
  ((apply bn Tryz.func114 (congrArg Array.toList Tryz.results114));(focus(repeat(first|exact Kq|apply Ks rfl)));refine⟨_,rfl,Ends.mk [] (Kn rfl) rfl rfl ?_⟩)
  exact⟨aB rfl,trivial⟩
 ·rw [ho,JV (by omega)] at e
  repeat apply ai;rfl
  refine ck (by kernel_rfl) (by kernel_rfl) ?_
  repeat first|apply aU;rfl|refine cx (g:=fun x:Int=> .int .i64 x) rfl rfl rfl (F.ag _ rfl) rfl (by(omega)) (by(omega)) ?_|refine fp (g:=fun x:Int=> .int .i64 x) rfl rfl rfl (fun _=>rfl) (F.sz _ rfl) rfl (by first|omega|(simp only [Jt,aN];omega)) (by first|omega|(simp only [Jt,aN];omega)) ?_|refine aJ (q:=i2) rfl rfl rfl rfl (F.un _ rfl) (F.sz _ rfl) rfl (by omega) (by omega) (by omega) ?_|refine aJ (q:=j2) rfl rfl rfl rfl (F.un _ rfl) (F.sz _ rfl) rfl (by omega) (by omega) (by omega) ?_
  refine aA ⟨by kernel_rfl,?_,?_⟩;(focus(repeat(first|exact Kz|apply fw;rfl|apply eL;rfl|refine⟨.inr (by(repeat(refine⟨(by(exact aQ (F.un _ rfl) (F.sz _ rfl) rfl rfl rfl (by omega) (by omega) (by omega))),?_⟩));exact Kz),?_⟩|refine⟨.inl (by kernel_rfl),?_⟩)))
  repeat first|apply ai;rfl|apply aL;rfl;omega;omega
  refine ih _ _ _ ((i2+1,j2-1),Sort.swp d1 i2 j2) [] ⟨by simp only;omega,by simp only;omega,by simp only;omega,by rw [aN];exact hd1,e.symm⟩ (by simp only;omega) ?_
  (refine⟨(Kn rfl),rfl,(by repeat(first|exact Kz|refine⟨rfl,?_⟩|refine⟨fP (by(simp only;omega)),?_⟩)),⟨aB rfl,trivial⟩⟩)
theorem sU(hi:Sort.scanUp (fun x=>lt x d[a]!) d j i=i2)(hj:Sort.scanDown (fun x=> !lt x d[a]!) d i2 j=j2)(h1:i≤i2)(h2:j2≤j) :
 Sort.partLoop lt a i j d=if j2<i2 then(j2,d) else Sort.partLoop lt a (i2+1) (j2-1) (Sort.swp d i2 j2):=by
 conv=>lhs;unfold Sort.partLoop
 simp only [hi,hj]
 split
 ·rfl
 ·rw [dif_pos (by omega)]
theorem uA{pv:Nat}(hi:Sort.scanUp (fun x=>lt x (Sort.swp d a pv)[a]!) (Sort.swp d a pv) (b-1) (a+1)=i2)(hj:Sort.scanDown (fun x=> !lt x (Sort.swp d a pv)[a]!) (Sort.swp d a pv) i2 (b-1)=j2) :
 Sort.partition lt d a b pv=if j2<i2 then(j2,true,Sort.swp (Sort.swp d a pv) j2 a) else((Sort.partLoop lt a (i2+1) (j2-1) (Sort.swp (Sort.swp d a pv) i2 j2)).1,false,Sort.swp (Sort.partLoop lt a (i2+1) (j2-1) (Sort.swp (Sort.swp d a pv) i2 j2)).2 (Sort.partLoop lt a (i2+1) (j2-1) (Sort.swp (Sort.swp d a pv) i2 j2)).1 a):=by
 simp only [Sort.partition,hi,hj]
theorem sV(n a b pv:Nat)(d:Array (Int))(hn:n<4611686018427387904)(hd:d.size=n)(hap:a≤pv)(hpb:pv<b)(hb:b≤n) :
 Ctr Tryz.prog 115 [.slu 0 0 n,.sc (.int .i64 (a:Int)),.sc (.int .i64 (b:Int)),.sc (.int .i64 (pv:Int))] [b9 n d] (fun c=>c=⟨.tup [.sc (.int .i64 ((Sort.partition bj d a b pv).1:Int)),.sc (.bool (Sort.partition bj d a b pv).2.1)],[some (b9 n (Sort.partition bj d a b pv).2.2)]⟩):=by
 refine Kp Tryz.func115 rfl rfl ?_
 repeat apply ai;rfl
 refine ck (by kernel_rfl) (by kernel_rfl) ?_
 repeat first|apply aU;rfl|refine cx (g:=fun x:Int=> .int .i64 x) rfl rfl rfl (F.ag _ rfl) rfl (by(omega)) (by(omega)) ?_|refine fp (g:=fun x:Int=> .int .i64 x) rfl rfl rfl (fun _=>rfl) (F.sz _ rfl) rfl (by first|omega|(simp only [Jt,aN];omega)) (by first|omega|(simp only [Jt,aN];omega)) ?_|refine aJ (q:=a) rfl rfl rfl rfl (F.un _ rfl) (F.sz _ rfl) rfl (by omega) (by omega) (by omega) ?_|refine aJ (q:=pv) rfl rfl rfl rfl (F.un _ rfl) (F.sz _ rfl) rfl (by omega) (by omega) (by omega) ?_
 refine aA ⟨by kernel_rfl,?_,?_⟩;(focus(repeat(first|exact Kz|apply fw;rfl|apply eL;rfl|refine⟨.inr (by(repeat(refine⟨(by(exact aQ (F.un _ rfl) (F.sz _ rfl) rfl rfl rfl (by omega) (by omega) (by omega))),?_⟩));exact Kz),?_⟩|refine⟨.inl (by kernel_rfl),?_⟩)))
 have e0:=uA (lt:=bj) (d:=d) (a:=a) (b:=b) (pv:=pv) rfl rfl
 have hd1:(Sort.swp d a pv).size=n:=by rw [aN];exact hd
 generalize hsw:Sort.swp d a pv=d1 at e0 hd1
 have hsw':(d.setIfInBounds a d[pv]!).setIfInBounds pv d[a]! =d1:=hsw
 rw [hsw']
 repeat first|apply ai;rfl|apply aL;rfl;omega;omega
 refine gy 1 (fun x:Nat=> [(0,.slu 0 0 n),(1,.sc (.int .i64 (a:Int))),(10,.sc (.int .i64 (x:Int))),(11,.sc (.int .i64 ((b-1:Nat):Int)))]) (fun _=> [some (b9 n d1)]) (fun x=>a+1≤x∧x≤n∧Sort.scanUp (fun y=>bj y d1[a]!) d1 (b-1) x=Sort.scanUp (fun y=>bj y d1[a]!) d1 (b-1) (a+1)) (fun x=>n-x) (a+1) []
  1 (fun x:Nat=> [(0,.slu 0 0 n),(1,.sc (.int .i64 (a:Int))),(10,.sc (.int .i64 (x:Int))),(11,.sc (.int .i64 ((b-1:Nat):Int)))]) (fun _=> [some (b9 n d1)]) (fun x=>a+1≤x∧x≤n∧Sort.scanUp (fun y=>bj y d1[a]!) d1 (b-1) (a+1)=x)
  (fun _=>rfl) (fun _=>rfl) ⟨JK _,by omega,rfl⟩ ?_ (fun _=>rfl) (fun _=>rfl) ?_ ?_
 ·(refine⟨(Kn rfl),rfl,(by repeat(first|exact Kz|refine⟨rfl,?_⟩|refine⟨fP (by(omega)),?_⟩)),⟨aB rfl,trivial⟩⟩)
 ·rintro i1 ⟨hii,hi1,hu⟩ ihu out
  repeat apply ai;rfl
  refine ck (by kernel_rfl) (by kernel_rfl) ?_
  repeat apply aU;rfl
  refine nd rfl rfl rfl rfl ?_ ?_
  all_goals intro h1
  ·have hls_h2:=fS (d1[i1]!) (d1[a]!)
   cases h2:bj (d1[i1]!) (d1[a]!)
   all_goals rw [h2] at hls_h2
   rotate_left
   all_goals(repeat(first|apply aU;rfl|refine cx (g:=fun x:Int=> .int .i64 x) rfl rfl rfl (F.ag _ rfl) rfl (by(omega)) (by(omega)) ?_|refine aJ (q:=a) rfl rfl rfl rfl (F.un _ rfl) (F.sz _ rfl) rfl (by omega) (by omega) (by omega) ?_|refine aJ (q:=i1) rfl rfl rfl rfl (F.un _ rfl) (F.sz _ rfl) rfl (by omega) (by omega) (by omega) ?_|refine b8 rfl rfl rfl (by kernel_rfl) (Ctr.callV (hls_h2) [] rfl (Kn rfl) rfl trivial rfl) ?_))
   ·skip
    refine aA ⟨by kernel_rfl,?_,?_⟩;(focus(repeat(first|exact Kz|apply fw;rfl|apply eL;rfl|refine⟨.inr (by(repeat(refine⟨(by(exact aQ (F.un _ rfl) (F.sz _ rfl) rfl rfl rfl (by omega) (by omega) (by omega))),?_⟩));exact Kz),?_⟩|refine⟨.inl (by kernel_rfl),?_⟩)))
    repeat first|apply ai;rfl|apply aL;rfl;omega;omega
    refine ihu _ _ _ (i1+1) [] ⟨by omega,by omega,?_⟩ (by omega) ?_
    ·rw [← hu]
     exact(jQ (by omega) (by simpa [bj] using h2)).symm
    ·(exact Kx rfl rfl rfl ⟨aB rfl,trivial⟩)
   ·skip
    refine aA ⟨by kernel_rfl,?_,?_⟩;(focus(repeat(first|exact Kz|apply fw;rfl|apply eL;rfl|refine⟨.inr (by(repeat(refine⟨(by(exact aQ (F.un _ rfl) (F.sz _ rfl) rfl rfl rfl (by omega) (by omega) (by omega))),?_⟩));exact Kz),?_⟩|refine⟨.inl (by kernel_rfl),?_⟩)))
    repeat first|refine out _ _ _ i1 [] ⟨hii,hi1,by rw [← hu];exact dF (.inr (by simpa [bj] using h2))⟩ ?_;(exact Kx rfl rfl rfl ⟨aB rfl,trivial⟩)|apply cD;rfl
  ·repeat first|apply aU;rfl|refine cv rfl rfl ?_
   refine aA ⟨by kernel_rfl,?_,?_⟩;(focus(repeat(first|exact Kz|apply AS;rfl|apply eL;rfl|refine⟨.inl rfl,?_⟩)))
   repeat first|refine out _ _ _ i1 [] ⟨hii,hi1,by rw [← hu];exact dF (.inl (by omega))⟩ ?_;(exact Kx rfl rfl rfl ⟨aB rfl,trivial⟩)|apply cD;rfl
 rintro i2 ⟨hii,hi2,hu⟩
 rw [hu] at e0
 repeat apply ai;rfl
 refine gy 1 (fun x:Nat=> [(0,.slu 0 0 n),(1,.sc (.int .i64 (a:Int))),(10,.sc (.int .i64 (i2:Int))),(11,.sc (.int .i64 (x:Int)))]) (fun _=> [some (b9 n d1)]) (fun x=>x≤b-1∧Sort.scanDown (fun y=> !bj y d1[a]!) d1 i2 x=Sort.scanDown (fun y=> !bj y d1[a]!) d1 i2 (b-1)) (fun x=>x) (b-1) []
  1 (fun x:Nat=> [(0,.slu 0 0 n),(1,.sc (.int .i64 (a:Int))),(10,.sc (.int .i64 (i2:Int))),(11,.sc (.int .i64 (x:Int)))]) (fun _=> [some (b9 n d1)]) (fun x=>x≤b-1∧Sort.scanDown (fun y=> !bj y d1[a]!) d1 i2 (b-1)=x)
  (fun _=>rfl) (fun _=>rfl) ⟨JK _,rfl⟩ ?_ (fun _=>rfl) (fun _=>rfl) ?_ ?_
 ·(exact Kx rfl rfl rfl ⟨aB rfl,trivial⟩)
 ·rintro j1 ⟨hjj,hv⟩ ihv out
  repeat apply ai;rfl
  refine ck (by kernel_rfl) (by kernel_rfl) ?_
  repeat apply aU;rfl
  refine nd rfl rfl rfl rfl ?_ ?_
  all_goals intro h1
  ·have hls_h2:=fS (d1[j1]!) (d1[a]!)
   cases h2:bj (d1[j1]!) (d1[a]!)
   all_goals rw [h2] at hls_h2
   rotate_left
   all_goals(repeat(first|apply aU;rfl|refine cx (g:=fun x:Int=> .int .i64 x) rfl rfl rfl (F.ag _ rfl) rfl (by(omega)) (by(omega)) ?_|refine aJ (q:=a) rfl rfl rfl rfl (F.un _ rfl) (F.sz _ rfl) rfl (by omega) (by omega) (by omega) ?_|refine aJ (q:=j1) rfl rfl rfl rfl (F.un _ rfl) (F.sz _ rfl) rfl (by omega) (by omega) (by omega) ?_|refine b8 rfl rfl rfl (by kernel_rfl) (Ctr.callV (hls_h2) [] rfl (Kn rfl) rfl trivial rfl) ?_))
   ·skip
    refine aA ⟨by kernel_rfl,?_,?_⟩;(focus(repeat(first|exact Kz|apply fw;rfl|apply eL;rfl|refine⟨.inr (by(repeat(refine⟨(by(exact aQ (F.un _ rfl) (F.sz _ rfl) rfl rfl rfl (by omega) (by omega) (by omega))),?_⟩));exact Kz),?_⟩|refine⟨.inl (by kernel_rfl),?_⟩)))
    repeat first|refine out _ _ _ j1 [] ⟨hjj,by rw [← hv];exact dc (.inr (by simpa [bj] using h2))⟩ ?_;(exact Kx rfl rfl rfl ⟨aB rfl,trivial⟩)|apply cD;rfl
   ·skip
    refine aA ⟨by kernel_rfl,?_,?_⟩;(focus(repeat(first|exact Kz|apply fw;rfl|apply eL;rfl|refine⟨.inr (by(repeat(refine⟨(by(exact aQ (F.un _ rfl) (F.sz _ rfl) rfl rfl rfl (by omega) (by omega) (by omega))),?_⟩));exact Kz),?_⟩|refine⟨.inl (by kernel_rfl),?_⟩)))
    repeat first|apply ai;rfl|apply aL;rfl;omega;omega
    obtain⟨j1,rfl⟩: ∃ j',j1=j'+1:=⟨j1-1,by omega⟩
    refine ihv _ _ _ j1 [] ⟨by omega,?_⟩ (by omega) ?_
    ·rw [← hv]
     exact(il (by omega) (by simpa [bj] using h2)).symm
    ·(refine⟨(Kn rfl),rfl,(by repeat(first|exact Kz|refine⟨rfl,?_⟩|refine⟨fP (by(omega)),?_⟩)),⟨aB rfl,trivial⟩⟩)
  ·repeat first|apply aU;rfl|refine cv rfl rfl ?_
   refine aA ⟨by kernel_rfl,?_,?_⟩;(focus(repeat(first|exact Kz|apply AS;rfl|apply eL;rfl|refine⟨.inl rfl,?_⟩)))
   repeat first|refine out _ _ _ j1 [] ⟨hjj,by rw [← hv];exact dc (.inl (by omega))⟩ ?_;(exact Kx rfl rfl rfl ⟨aB rfl,trivial⟩)|apply cD;rfl
 rintro j2 ⟨hjj,hv⟩
 rw [hv] at e0
 repeat apply ai;rfl
 refine dQ rfl rfl rfl rfl ?_ ?_
 all_goals intro h3
 ·rw [JW (by omega)] at e0
  rw [e0]
  repeat apply ai;rfl
  refine ck (by kernel_rfl) (by kernel_rfl) ?_
  repeat first|apply aU;rfl|refine cx (g:=fun x:Int=> .int .i64 x) rfl rfl rfl (F.ag _ rfl) rfl (by(omega)) (by(omega)) ?_|refine fp (g:=fun x:Int=> .int .i64 x) rfl rfl rfl (fun _=>rfl) (F.sz _ rfl) rfl (by first|omega|(simp only [Jt,aN];omega)) (by first|omega|(simp only [Jt,aN];omega)) ?_|refine aJ (q:=a) rfl rfl rfl rfl (F.un _ rfl) (F.sz _ rfl) rfl (by omega) (by omega) (by omega) ?_|refine aJ (q:=j2) rfl rfl rfl rfl (F.un _ rfl) (F.sz _ rfl) rfl (by omega) (by omega) (by omega) ?_
  refine aA ⟨by kernel_rfl,?_,?_⟩;(focus(repeat(first|exact Kz|apply fw;rfl|apply eL;rfl|refine⟨.inr (by(repeat(refine⟨(by(exact aQ (F.un _ rfl) (F.sz _ rfl) rfl rfl rfl (by omega) (by omega) (by omega))),?_⟩));exact Kz),?_⟩|refine⟨.inl (by kernel_rfl),?_⟩)))
  repeat apply ai;rfl
  ((apply bn Tryz.func115 (congrArg Array.toList Tryz.results115));(focus(repeat(first|exact Kq|apply Ks rfl)));refine⟨_,rfl,Ends.mk [] (Kn rfl) rfl rfl ?_⟩)
  exact⟨aB rfl,trivial⟩
 rw [JV (by omega)] at e0
 rw [e0]
 repeat apply ai;rfl
 refine ck (by kernel_rfl) (by kernel_rfl) ?_
 repeat first|apply aU;rfl|refine cx (g:=fun x:Int=> .int .i64 x) rfl rfl rfl (F.ag _ rfl) rfl (by(omega)) (by(omega)) ?_|refine fp (g:=fun x:Int=> .int .i64 x) rfl rfl rfl (fun _=>rfl) (F.sz _ rfl) rfl (by first|omega|(simp only [Jt,aN];omega)) (by first|omega|(simp only [Jt,aN];omega)) ?_|refine aJ (q:=i2) rfl rfl rfl rfl (F.un _ rfl) (F.sz _ rfl) rfl (by omega) (by omega) (by omega) ?_|refine aJ (q:=j2) rfl rfl rfl rfl (F.un _ rfl) (F.sz _ rfl) rfl (by omega) (by omega) (by omega) ?_
 refine aA ⟨by kernel_rfl,?_,?_⟩;(focus(repeat(first|exact Kz|apply fw;rfl|apply eL;rfl|refine⟨.inr (by(repeat(refine⟨(by(exact aQ (F.un _ rfl) (F.sz _ rfl) rfl rfl rfl (by omega) (by omega) (by omega))),?_⟩));exact Kz),?_⟩|refine⟨.inl (by kernel_rfl),?_⟩)))
 repeat first|apply ai;rfl|apply aL;rfl;omega;omega
 refine gy 1 (fun s:(Nat×Nat)×Array (Int)=> [(0,.slu 0 0 n),(1,.sc (.int .i64 (a:Int))),(10,.sc (.int .i64 (s.1.1:Int))),(11,.sc (.int .i64 (s.1.2:Int)))]) (fun s=> [some (b9 n s.2)]) (fun s=>a<s.1.1∧s.1.1≤n∧s.1.2<n∧s.2.size=n∧Sort.partLoop bj a s.1.1 s.1.2 s.2=Sort.partLoop bj a (i2+1) (j2-1) (Sort.swp d1 i2 j2)) (fun s=>s.1.2+1-s.1.1) ((i2+1,j2-1),Sort.swp d1 i2 j2) []
  1 (fun s:Nat×Array (Int)=> [(0,.slu 0 0 n),(1,.sc (.int .i64 (a:Int))),(11,.sc (.int .i64 (s.1:Int)))]) (fun s=> [some (b9 n s.2)]) (fun s=>s.1<n∧s.2.size=n∧Sort.partLoop bj a (i2+1) (j2-1) (Sort.swp d1 i2 j2)=s)
  (fun _=>rfl) (fun _=>rfl) ⟨by simp only;omega,by simp only;omega,by simp only;omega,by rw [aN];exact hd1,rfl⟩ ?_ (fun _=>rfl) (fun _=>rfl) ?_ ?_
 ·(refine⟨(Kn rfl),rfl,(by repeat(first|exact Kz|refine⟨rfl,?_⟩|refine⟨fP (by(simp only;omega)),?_⟩)),⟨aB rfl,trivial⟩⟩)
 ·rintro⟨⟨i,j⟩,d3⟩ ⟨hai,hi,hj,hd3,ho⟩ ih outer
  simp only at hai hi hj hd3 ho ih ⊢
  repeat apply ai;rfl
  refine gy 1 (fun x:Nat=> [(0,.slu 0 0 n),(1,.sc (.int .i64 (a:Int))),(10,.sc (.int .i64 (x:Int))),(11,.sc (.int .i64 (j:Int)))]) (fun _=> [some (b9 n d3)]) (fun x=>i≤x∧x≤n∧Sort.scanUp (fun y=>bj y d3[a]!) d3 j x=Sort.scanUp (fun y=>bj y d3[a]!) d3 j i) (fun x=>n-x) i []
   1 (fun x:Nat=> [(0,.slu 0 0 n),(1,.sc (.int .i64 (a:Int))),(10,.sc (.int .i64 (x:Int))),(11,.sc (.int .i64 (j:Int)))]) (fun _=> [some (b9 n d3)]) (fun x=>i≤x∧x≤n∧Sort.scanUp (fun y=>bj y d3[a]!) d3 j i=x)
   (fun _=>rfl) (fun _=>rfl) ⟨JK _,hi,rfl⟩ ?_ (fun _=>rfl) (fun _=>rfl) ?_ ?_
  ·(exact Kx rfl rfl rfl ⟨aB rfl,trivial⟩)
  ·rintro i1 ⟨hii,hi1,hu⟩ ihu out
   repeat apply ai;rfl
   refine ck (by kernel_rfl) (by kernel_rfl) ?_
   repeat apply aU;rfl
   refine nd rfl rfl rfl rfl ?_ ?_
   all_goals intro h1
   ·have hls_h2:=fS (d3[i1]!) (d3[a]!)
    cases h2:bj (d3[i1]!) (d3[a]!)
    all_goals rw [h2] at hls_h2
    rotate_left
    all_goals(repeat(first|apply aU;rfl|refine cx (g:=fun x:Int=> .int .i64 x) rfl rfl rfl (F.ag _ rfl) rfl (by(omega)) (by(omega)) ?_|refine aJ (q:=a) rfl rfl rfl rfl (F.un _ rfl) (F.sz _ rfl) rfl (by omega) (by omega) (by omega) ?_|refine aJ (q:=i1) rfl rfl rfl rfl (F.un _ rfl) (F.sz _ rfl) rfl (by omega) (by omega) (by omega) ?_|refine b8 rfl rfl rfl (by kernel_rfl) (Ctr.callV (hls_h2) [] rfl (Kn rfl) rfl trivial rfl) ?_))
    ·skip
     refine aA ⟨by kernel_rfl,?_,?_⟩;(focus(repeat(first|exact Kz|apply fw;rfl|apply eL;rfl|refine⟨.inr (by(repeat(refine⟨(by(exact aQ (F.un _ rfl) (F.sz _ rfl) rfl rfl rfl (by omega) (by omega) (by omega))),?_⟩));exact Kz),?_⟩|refine⟨.inl (by kernel_rfl),?_⟩)))
     repeat first|apply ai;rfl|apply aL;rfl;omega;omega
     refine ihu _ _ _ (i1+1) [] ⟨by omega,by omega,?_⟩ (by omega) ?_
     ·rw [← hu]
      exact(jQ (by omega) (by simpa [bj] using h2)).symm
     ·(exact Kx rfl rfl rfl ⟨aB rfl,trivial⟩)
    ·skip
     refine aA ⟨by kernel_rfl,?_,?_⟩;(focus(repeat(first|exact Kz|apply fw;rfl|apply eL;rfl|refine⟨.inr (by(repeat(refine⟨(by(exact aQ (F.un _ rfl) (F.sz _ rfl) rfl rfl rfl (by omega) (by omega) (by omega))),?_⟩));exact Kz),?_⟩|refine⟨.inl (by kernel_rfl),?_⟩)))
     repeat first|refine out _ _ _ i1 [] ⟨hii,hi1,by rw [← hu];exact dF (.inr (by simpa [bj] using h2))⟩ ?_;(exact Kx rfl rfl rfl ⟨aB rfl,trivial⟩)|apply cD;rfl
   ·repeat first|apply aU;rfl|refine cv rfl rfl ?_
    refine aA ⟨by kernel_rfl,?_,?_⟩;(focus(repeat(first|exact Kz|apply AS;rfl|apply eL;rfl|refine⟨.inl rfl,?_⟩)))
    repeat first|refine out _ _ _ i1 [] ⟨hii,hi1,by rw [← hu];exact dF (.inl (by omega))⟩ ?_;(exact Kx rfl rfl rfl ⟨aB rfl,trivial⟩)|apply cD;rfl
  rintro i3 ⟨hii3,hi3,hu3⟩
  repeat apply ai;rfl
  refine gy 1 (fun x:Nat=> [(0,.slu 0 0 n),(1,.sc (.int .i64 (a:Int))),(10,.sc (.int .i64 (i3:Int))),(11,.sc (.int .i64 (x:Int)))]) (fun _=> [some (b9 n d3)]) (fun x=>x≤j∧Sort.scanDown (fun y=> !bj y d3[a]!) d3 i3 x=Sort.scanDown (fun y=> !bj y d3[a]!) d3 i3 (j)) (fun x=>x) (j) []
   1 (fun x:Nat=> [(0,.slu 0 0 n),(1,.sc (.int .i64 (a:Int))),(10,.sc (.int .i64 (i3:Int))),(11,.sc (.int .i64 (x:Int)))]) (fun _=> [some (b9 n d3)]) (fun x=>x≤j∧Sort.scanDown (fun y=> !bj y d3[a]!) d3 i3 (j)=x)
   (fun _=>rfl) (fun _=>rfl) ⟨JK _,rfl⟩ ?_ (fun _=>rfl) (fun _=>rfl) ?_ ?_
  ·(exact Kx rfl rfl rfl ⟨aB rfl,trivial⟩)
  ·rintro j1 ⟨hjj,hv⟩ ihv out
   repeat apply ai;rfl
   refine ck (by kernel_rfl) (by kernel_rfl) ?_
   repeat apply aU;rfl
   refine nd rfl rfl rfl rfl ?_ ?_
   all_goals intro h1
   ·have hls_h2:=fS (d3[j1]!) (d3[a]!)
    cases h2:bj (d3[j1]!) (d3[a]!)
    all_goals rw [h2] at hls_h2
    rotate_left
    all_goals(repeat(first|apply aU;rfl|refine cx (g:=fun x:Int=> .int .i64 x) rfl rfl rfl (F.ag _ rfl) rfl (by(omega)) (by(omega)) ?_|refine aJ (q:=a) rfl rfl rfl rfl (F.un _ rfl) (F.sz _ rfl) rfl (by omega) (by omega) (by omega) ?_|refine aJ (q:=j1) rfl rfl rfl rfl (F.un _ rfl) (F.sz _ rfl) rfl (by omega) (by omega) (by omega) ?_|refine b8 rfl rfl rfl (by kernel_rfl) (Ctr.callV (hls_h2) [] rfl (Kn rfl) rfl trivial rfl) ?_))
    ·skip
     refine aA ⟨by kernel_rfl,?_,?_⟩;(focus(repeat(first|exact Kz|apply fw;rfl|apply eL;rfl|refine⟨.inr (by(repeat(refine⟨(by(exact aQ (F.un _ rfl) (F.sz _ rfl) rfl rfl rfl (by omega) (by omega) (by omega))),?_⟩));exact Kz),?_⟩|refine⟨.inl (by kernel_rfl),?_⟩)))
     repeat first|refine out _ _ _ j1 [] ⟨hjj,by rw [← hv];exact dc (.inr (by simpa [bj] using h2))⟩ ?_;(exact Kx rfl rfl rfl ⟨aB rfl,trivial⟩)|apply cD;rfl
    ·skip
     refine aA ⟨by kernel_rfl,?_,?_⟩;(focus(repeat(first|exact Kz|apply fw;rfl|apply eL;rfl|refine⟨.inr (by(repeat(refine⟨(by(exact aQ (F.un _ rfl) (F.sz _ rfl) rfl rfl rfl (by omega) (by omega) (by omega))),?_⟩));exact Kz),?_⟩|refine⟨.inl (by kernel_rfl),?_⟩)))
     repeat first|apply ai;rfl|apply aL;rfl;omega;omega
     obtain⟨j1,rfl⟩: ∃ j',j1=j'+1:=⟨j1-1,by omega⟩
     refine ihv _ _ _ j1 [] ⟨by omega,?_⟩ (by omega) ?_
     ·rw [← hv]
      exact(il (by omega) (by simpa [bj] using h2)).symm
     ·(refine⟨(Kn rfl),rfl,(by repeat(first|exact Kz|refine⟨rfl,?_⟩|refine⟨fP (by(omega)),?_⟩)),⟨aB rfl,trivial⟩⟩)
   ·repeat first|apply aU;rfl|refine cv rfl rfl ?_
    refine aA ⟨by kernel_rfl,?_,?_⟩;(focus(repeat(first|exact Kz|apply AS;rfl|apply eL;rfl|refine⟨.inl rfl,?_⟩)))
    repeat first|refine out _ _ _ j1 [] ⟨hjj,by rw [← hv];exact dc (.inl (by omega))⟩ ?_;(exact Kx rfl rfl rfl ⟨aB rfl,trivial⟩)|apply cD;rfl
  rintro j3 ⟨hjj3,hv3⟩
  have e:=sU hu3 hv3 hii3 hjj3
  repeat apply ai;rfl
  refine dQ rfl rfl rfl rfl ?_ ?_
  all_goals intro h3
  ·rw [ho,JW (by omega)] at e
   repeat first|refine outer _ _ _ (j3,d3) [] ⟨by simp only;omega,hd3,e⟩ ?_;(exact Kx rfl rfl rfl ⟨aB rfl,trivial⟩)|apply cD;rfl
  ·rw [ho,JV (by omega)] at e
   repeat apply ai;rfl
   refine ck (by kernel_rfl) (by kernel_rfl) ?_
   repeat first|apply aU;rfl|refine cx (g:=fun x:Int=> .int .i64 x) rfl rfl rfl (F.ag _ rfl) rfl (by(omega)) (by(omega)) ?_|refine fp (g:=fun x:Int=> .int .i64 x) rfl rfl rfl (fun _=>rfl) (F.sz _ rfl) rfl (by first|omega|(simp only [Jt,aN];omega)) (by first|omega|(simp only [Jt,aN];omega)) ?_|refine aJ (q:=i3) rfl rfl rfl rfl (F.un _ rfl) (F.sz _ rfl) rfl (by omega) (by omega) (by omega) ?_|refine aJ (q:=j3) rfl rfl rfl rfl (F.un _ rfl) (F.sz _ rfl) rfl (by omega) (by omega) (by omega) ?_
   refine aA ⟨by kernel_rfl,?_,?_⟩;(focus(repeat(first|exact Kz|apply fw;rfl|apply eL;rfl|refine⟨.inr (by(repeat(refine⟨(by(exact aQ (F.un _ rfl) (F.sz _ rfl) rfl rfl rfl (by omega) (by omega) (by omega))),?_⟩));exact Kz),?_⟩|refine⟨.inl (by kernel_rfl),?_⟩)))
   repeat first|apply ai;rfl|apply aL;rfl;omega;omega
   refine ih _ _ _ ((i3+1,j3-1),Sort.swp d3 i3 j3) [] ⟨by simp only;omega,by simp only;omega,by simp only;omega,by rw [aN];exact hd3,e.symm⟩ (by simp only;omega) ?_
   (refine⟨(Kn rfl),rfl,(by repeat(first|exact Kz|refine⟨rfl,?_⟩|refine⟨fP (by(simp only;omega)),?_⟩)),⟨aB rfl,trivial⟩⟩)
 rintro⟨j3,d3⟩ ⟨hj3,hd3,e⟩
 simp only at hj3 hd3 e ⊢
 rw [e]
 repeat apply ai;rfl
 refine ck (by kernel_rfl) (by kernel_rfl) ?_
 repeat first|apply aU;rfl|refine cx (g:=fun x:Int=> .int .i64 x) rfl rfl rfl (F.ag _ rfl) rfl (by(omega)) (by(omega)) ?_|refine fp (g:=fun x:Int=> .int .i64 x) rfl rfl rfl (fun _=>rfl) (F.sz _ rfl) rfl (by first|omega|(simp only [Jt,aN];omega)) (by first|omega|(simp only [Jt,aN];omega)) ?_|refine aJ (q:=a) rfl rfl rfl rfl (F.un _ rfl) (F.sz _ rfl) rfl (by omega) (by omega) (by omega) ?_|refine aJ (q:=j3) rfl rfl rfl rfl (F.un _ rfl) (F.sz _ rfl) rfl (by omega) (by omega) (by omega) ?_
 refine aA ⟨by kernel_rfl,?_,?_⟩;(focus(repeat(first|exact Kz|apply fw;rfl|apply eL;rfl|refine⟨.inr (by(repeat(refine⟨(by(exact aQ (F.un _ rfl) (F.sz _ rfl) rfl rfl rfl (by omega) (by omega) (by omega))),?_⟩));exact Kz),?_⟩|refine⟨.inl (by kernel_rfl),?_⟩)))
 repeat apply ai;rfl
 ((apply bn Tryz.func115 (congrArg Array.toList Tryz.results115));(focus(repeat(first|exact Kq|apply Ks rfl)));refine⟨_,rfl,Ends.mk [] (Kn rfl) rfl rfl ?_⟩)
 exact⟨aB rfl,trivial⟩
theorem nR(h:i<b)(hp:lt d[i]! d[i-1]! =false):Sort.scanSorted lt d b i=Sort.scanSorted lt d b (i+1):=by
 conv=>lhs;rw [Sort.scanSorted,JW (by simp [h,hp])]
theorem hY(h:b≤i∨lt d[i]! d[i-1]! =true):Sort.scanSorted lt d b i=i:=by
 rw [Sort.scanSorted,JV]
 simp only [JJ,Km,Bool.not_eq_true']
 rintro⟨h1,h2⟩
 rcases h with h|h
 ·omega
 ·rw [h] at h2;cases h2
theorem mc(h:j<b)(hp:lt d[j]! d[j-1]! =true):Sort.shiftUp lt b j d=Sort.shiftUp lt b (j+1) (Sort.swp d j (j-1)):=by
 conv=>lhs;rw [Sort.shiftUp,JW h,JV (by simp [hp])]
theorem fk(h:b≤j∨lt d[j]! d[j-1]! =false):Sort.shiftUp lt b j d=d:=by
 rw [Sort.shiftUp]
 split
 ·rename_i h1
  rw [JW]
  rcases h with h|h
  ·omega
  ·simp [h]
 ·rfl
theorem sS{d2 d3:Array (Int)}(hi:Sort.scanSorted lt d b i=i1)(h1:i1≠b)(h2: ¬ b-a<50)
 (e2:(if i1-a≥2 then Sort.shiftDown lt (i1-1) (Sort.swp d i1 (i1-1)) else Sort.swp d i1 (i1-1))=d2) (e3:(if b-i1≥2 then Sort.shiftUp lt b (i1+1) d2 else d2)=d3):Sort.partialIns lt a b (s+1) i d=Sort.partialIns lt a b s i1 d3:=by
 rw [Sort.partialIns]
 simp only [hi,JV h1,JV h2]
 rw [e2,e3]
theorem sR(hi:Sort.scanSorted lt d b i=i1)(h1:i1=b):Sort.partialIns lt a b (s+1) i d=(d,true):=by
 rw [Sort.partialIns]
 simp only [hi,JW h1]
theorem qY(hi:Sort.scanSorted lt d b i=i1)(h1:i1≠b)(h2:b-a<50):Sort.partialIns lt a b (s+1) i d=(d,false):=by
 rw [Sort.partialIns]
 simp only [hi,JV h1,JW h2]
theorem sT(n a b:Nat)(d:Array (Int))(hn:n<4611686018427387904)(hd:d.size=n)(hab:a<b)(hb:b≤n) :
 Ctr Tryz.prog 112 [.slu 0 0 n,.sc (.int .i64 (a:Int)),.sc (.int .i64 (b:Int))] [b9 n d] (fun c=>c=⟨.sc (.bool (Sort.partialInsertionSort bj d a b).2),[some (b9 n (Sort.partialInsertionSort bj d a b).1)]⟩):=by
 refine Kp Tryz.func112 rfl rfl ?_
 repeat first|apply ai;rfl|apply aL;rfl;omega;omega
 refine gz 1 (fun s:(Nat×Nat)×Array (Int)=> [(0,.slu 0 0 n),(1,.sc (.int .i64 (a:Int))),(2,.sc (.int .i64 (b:Int))),(7,.sc (.int .i64 (s.1.2:Int))),(8,.sc (.int .i64 ((5-s.1.1:Nat):Int)))]) (fun s=> [some (b9 n s.2)]) (fun s=>s.1.1≤5∧a+1≤s.1.2∧s.1.2≤b∧s.2.size=n∧Sort.partialIns bj a b s.1.1 s.1.2 s.2=Sort.partialInsertionSort bj d a b) (fun s=>s.1.1) ((5,a+1),d) []
  (fun _=>rfl) ⟨JK _,JK _,hab,hd,rfl⟩ ?_ (fun _=>rfl) (fun _=>rfl) ?_
 ·(exact Kx rfl rfl rfl ⟨aB rfl,trivial⟩)
 rintro⟨⟨s,i⟩,d0⟩ ⟨hs,hai,hi,hd0,ho⟩ ih
 simp only at hs hai hi hd0 ho ih ⊢
 repeat apply ai;rfl
 refine bh rfl rfl rfl rfl ?_ ?_
 all_goals intro h0
 ·obtain⟨s,rfl⟩: ∃ s',s=s'+1:=⟨s-1,by omega⟩
  repeat apply ai;rfl
  refine gy 1 (fun x:Nat=> [(0,.slu 0 0 n),(1,.sc (.int .i64 (a:Int))),(2,.sc (.int .i64 (b:Int))),(7,.sc (.int .i64 (x:Int))),(8,.sc (.int .i64 ((5-(s+1):Nat):Int)))]) (fun _=> [some (b9 n d0)]) (fun x=>a+1≤x∧x≤b∧Sort.scanSorted bj d0 b x=Sort.scanSorted bj d0 b i) (fun x=>b-x) i []
   1 (fun x:Nat=> [(0,.slu 0 0 n),(1,.sc (.int .i64 (a:Int))),(2,.sc (.int .i64 (b:Int))),(7,.sc (.int .i64 (x:Int))),(8,.sc (.int .i64 ((5-(s+1):Nat):Int)))]) (fun _=> [some (b9 n d0)]) (fun x=>a+1≤x∧x≤b∧Sort.scanSorted bj d0 b i=x)
   (fun _=>rfl) (fun _=>rfl) ⟨hai,hi,rfl⟩ ?_ (fun _=>rfl) (fun _=>rfl) ?_ ?_
  ·(exact Kx rfl rfl rfl ⟨aB rfl,trivial⟩)
  ·rintro i1 ⟨hai1,hi1,hu⟩ ihu out
   repeat apply ai;rfl
   refine ck (by kernel_rfl) (by kernel_rfl) ?_
   repeat apply aU;rfl
   refine cN rfl rfl rfl rfl ?_ ?_
   all_goals intro h1
   ·have hls_h2:=fS (d0[i1]!) (d0[i1-1]!)
    cases h2:bj (d0[i1]!) (d0[i1-1]!)
    all_goals rw [h2] at hls_h2
    rotate_left
    all_goals(repeat(first|apply aU;rfl|refine bk (aw rfl rfl (.inr (.inl ⟨rfl,(Js _ ⟨(by omega),(by omega)⟩).symm⟩))) rfl rfl rfl ?_|refine cx (g:=fun x:Int=> .int .i64 x) rfl rfl rfl (F.ag _ rfl) rfl (by(omega)) (by(omega)) ?_|refine aJ (q:=i1) rfl rfl rfl rfl (F.un _ rfl) (F.sz _ rfl) rfl (by omega) (by omega) (by omega) ?_|refine aJ (q:=i1-1) rfl rfl rfl rfl (F.un _ rfl) (F.sz _ rfl) rfl (by omega) (by omega) (by omega) ?_|refine b8 rfl rfl rfl (by kernel_rfl) (Ctr.callV (hls_h2) [] rfl (Kn rfl) rfl trivial rfl) ?_))
    ·skip
     refine aA ⟨by kernel_rfl,?_,?_⟩;(focus(repeat(first|exact Kz|apply fw;rfl|apply eL;rfl|refine⟨.inr (by(repeat(refine⟨(by first|exact aQ (F.un _ rfl) (F.sz _ rfl) rfl rfl rfl (by omega) (by omega) (by omega)|exact aw rfl rfl (.inr (.inl ⟨rfl,(Js _ ⟨by omega,by omega⟩).symm⟩))),?_⟩));exact Kz),?_⟩|refine⟨.inl (by kernel_rfl),?_⟩)))
     repeat first|refine out _ _ _ i1 [] ⟨hai1,hi1,by rw [← hu];exact hY (.inr (by simpa [bj] using h2))⟩ ?_;(exact Kx rfl rfl rfl ⟨aB rfl,trivial⟩)|apply cD;rfl
    ·skip
     refine aA ⟨by kernel_rfl,?_,?_⟩;(focus(repeat(first|exact Kz|apply fw;rfl|apply eL;rfl|refine⟨.inr (by(repeat(refine⟨(by first|exact aQ (F.un _ rfl) (F.sz _ rfl) rfl rfl rfl (by omega) (by omega) (by omega)|exact aw rfl rfl (.inr (.inl ⟨rfl,(Js _ ⟨by omega,by omega⟩).symm⟩))),?_⟩));exact Kz),?_⟩|refine⟨.inl (by kernel_rfl),?_⟩)))
     repeat first|apply ai;rfl|apply aL;rfl;omega;omega
     refine ihu _ _ _ (i1+1) [] ⟨by omega,by omega,?_⟩ (by omega) ?_
     ·rw [← hu]
      exact(nR (by omega) (by simpa [bj] using h2)).symm
     ·(exact Kx rfl rfl rfl ⟨aB rfl,trivial⟩)
   ·repeat first|apply aU;rfl|refine cv rfl rfl ?_
    refine aA ⟨by kernel_rfl,?_,?_⟩;(focus(repeat(first|exact Kz|apply AS;rfl|apply eL;rfl|refine⟨.inl rfl,?_⟩)))
    repeat first|refine out _ _ _ i1 [] ⟨hai1,hi1,by rw [← hu];exact hY (.inl (by omega))⟩ ?_;(exact Kx rfl rfl rfl ⟨aB rfl,trivial⟩)|apply cD;rfl
  rintro i1 ⟨hai1,hi1,hu⟩
  repeat apply ai;rfl
  refine cI rfl rfl rfl rfl ?_ ?_
  all_goals intro h1
  ·rw [sR hu (by omega)] at ho
   repeat apply ai;rfl
   rw [← ho]
   ((apply bn Tryz.func112 (congrArg Array.toList Tryz.results112));(focus(repeat(first|exact Kq|apply Ks rfl)));refine⟨_,rfl,Ends.mk [] (Kn rfl) rfl rfl ?_⟩)
   exact⟨aB rfl,trivial⟩
  repeat first|apply ai;rfl|apply aL;rfl;omega;omega
  refine bh rfl rfl rfl rfl ?_ ?_
  all_goals intro h2
  ·rw [qY hu (by omega) (by omega)] at ho
   repeat apply ai;rfl
   rw [← ho]
   ((apply bn Tryz.func112 (congrArg Array.toList Tryz.results112));(focus(repeat(first|exact Kq|apply Ks rfl)));refine⟨_,rfl,Ends.mk [] (Kn rfl) rfl rfl ?_⟩)
   exact⟨aB rfl,trivial⟩
  repeat apply ai;rfl
  refine ck (by kernel_rfl) (by kernel_rfl) ?_
  repeat first|apply aU;rfl|refine bk (aw rfl rfl (.inr (.inl ⟨rfl,(Js _ ⟨(by omega),(by omega)⟩).symm⟩))) rfl rfl rfl ?_|refine cx (g:=fun x:Int=> .int .i64 x) rfl rfl rfl (F.ag _ rfl) rfl (by(omega)) (by(omega)) ?_|refine fp (g:=fun x:Int=> .int .i64 x) rfl rfl rfl (fun _=>rfl) (F.sz _ rfl) rfl (by first|omega|(simp only [Jt,aN];omega)) (by first|omega|(simp only [Jt,aN];omega)) ?_|refine aJ (q:=i1) rfl rfl rfl rfl (F.un _ rfl) (F.sz _ rfl) rfl (by omega) (by omega) (by omega) ?_|refine aJ (q:=i1-1) rfl rfl rfl rfl (F.un _ rfl) (F.sz _ rfl) rfl (by omega) (by omega) (by omega) ?_
  refine aA ⟨by kernel_rfl,?_,?_⟩;(focus(repeat(first|exact Kz|apply fw;rfl|apply eL;rfl|refine⟨.inr (by(repeat(refine⟨(by first|exact aQ (F.un _ rfl) (F.sz _ rfl) rfl rfl rfl (by omega) (by omega) (by omega)|exact aw rfl rfl (.inr (.inl ⟨rfl,(Js _ ⟨by omega,by omega⟩).symm⟩))),?_⟩));exact Kz),?_⟩|refine⟨.inl (by kernel_rfl),?_⟩)))
  have hd1:(Sort.swp d0 i1 (i1-1)).size=n:=by rw [aN];exact hd0
  have e2: ∃ d2,(if i1-a≥2 then Sort.shiftDown bj (i1-1) (Sort.swp d0 i1 (i1-1)) else Sort.swp d0 i1 (i1-1))=d2:=⟨_,rfl⟩
  obtain⟨d2,e2⟩:=e2
  have hps:=fun d3 e3=>sS (s:=s) (d3:=d3) hu (by omega) (by omega) e2 e3
  generalize hsw:Sort.swp d0 i1 (i1-1)=d1 at e2 hd1
  have hsw':(d0.setIfInBounds i1 d0[i1-1]!).setIfInBounds (i1-1) d0[i1]! =d1:=hsw
  rw [hsw']
  repeat first|apply ai;rfl|apply aL;rfl;omega;omega
  refine dR rfl rfl rfl rfl ?_ ?_
  all_goals intro h3
  ·rw [JW (by omega)] at e2
   repeat first|apply ai;rfl|apply aL;rfl;omega;omega
   refine gy 1 (fun s1:Nat×Array (Int)=> [(0,.slu 0 0 n),(1,.sc (.int .i64 (a:Int))),(2,.sc (.int .i64 (b:Int))),(7,.sc (.int .i64 (i1:Int))),(8,.sc (.int .i64 ((5-(s+1):Nat):Int))),(9,.sc (.int .i64 (s1.1:Int)))]) (fun s1=> [some (b9 n s1.2)]) (fun s1=>s1.1≤i1-1∧s1.2.size=n∧Sort.shiftDown bj s1.1 s1.2=d2) (fun s1=>s1.1) (i1-1,d1) []
    1 (fun d':Array (Int)=> [(0,.slu 0 0 n),(1,.sc (.int .i64 (a:Int))),(2,.sc (.int .i64 (b:Int))),(7,.sc (.int .i64 (i1:Int))),(8,.sc (.int .i64 ((5-(s+1):Nat):Int)))]) (fun d'=> [some (b9 n d')]) (fun d'=>d'.size=n∧d'=d2)
    (fun _=>rfl) (fun _=>rfl) ⟨JK _,hd1,e2⟩ ?_ (fun _=>rfl) (fun _=>rfl) ?_ ?_
   ·(refine⟨(Kn rfl),rfl,(by repeat(first|exact Kz|refine⟨rfl,?_⟩|refine⟨fP (by(omega)),?_⟩)),⟨aB rfl,trivial⟩⟩)
   ·rintro⟨j,d'⟩ ⟨hj,hd',hsd⟩ ihd out
    simp only at hj hd' hsd ihd ⊢
    repeat apply ai;rfl
    refine dR rfl rfl rfl rfl ?_ ?_
    all_goals intro h4
    ·obtain⟨j,rfl⟩: ∃ j',j=j'+1:=⟨j-1,by omega⟩
     repeat apply ai;rfl
     refine ck (by kernel_rfl) (by kernel_rfl) ?_
     have hls_h5:=fS (d'[j+1]!) (d'[j]!)
     cases h5:bj (d'[j+1]!) (d'[j]!)
     all_goals rw [h5] at hls_h5
     rotate_left
     all_goals(repeat(first|apply aU;rfl|refine bk (aw rfl rfl (.inr (.inl ⟨rfl,(Js _ ⟨(by omega),(by omega)⟩).symm⟩))) rfl rfl rfl ?_|refine cx (g:=fun x:Int=> .int .i64 x) rfl rfl rfl (F.ag _ rfl) rfl (by(omega)) (by(omega)) ?_|refine aJ (q:=j+1) rfl rfl rfl rfl (F.un _ rfl) (F.sz _ rfl) rfl (by omega) (by omega) (by omega) ?_|refine aJ (q:=j) rfl rfl rfl rfl (F.un _ rfl) (F.sz _ rfl) rfl (by omega) (by omega) (by omega) ?_|refine b8 rfl rfl rfl (by kernel_rfl) (Ctr.callV (hls_h5) [] rfl (Kn rfl) rfl trivial rfl) ?_))
     ·skip
      refine aA ⟨by kernel_rfl,?_,?_⟩;(focus(repeat(first|exact Kz|apply fw;rfl|apply eL;rfl|refine⟨.inr (by(repeat(refine⟨(by first|exact aQ (F.un _ rfl) (F.sz _ rfl) rfl rfl rfl (by omega) (by omega) (by omega)|exact aw rfl rfl (.inr (.inl ⟨rfl,(Js _ ⟨by omega,by omega⟩).symm⟩))),?_⟩));exact Kz),?_⟩|refine⟨.inl (by kernel_rfl),?_⟩)))
      repeat apply ai;rfl
      refine ck (by kernel_rfl) (by kernel_rfl) ?_
      repeat first|apply aU;rfl|refine bk (aw rfl rfl (.inr (.inl ⟨rfl,(Js _ ⟨(by omega),(by omega)⟩).symm⟩))) rfl rfl rfl ?_|refine cx (g:=fun x:Int=> .int .i64 x) rfl rfl rfl (F.ag _ rfl) rfl (by(omega)) (by(omega)) ?_|refine fp (g:=fun x:Int=> .int .i64 x) rfl rfl rfl (fun _=>rfl) (F.sz _ rfl) rfl (by first|omega|(simp only [Jt,aN];omega)) (by first|omega|(simp only [Jt,aN];omega)) ?_|refine aJ (q:=j+1) rfl rfl rfl rfl (F.un _ rfl) (F.sz _ rfl) rfl (by omega) (by omega) (by omega) ?_|refine aJ (q:=j) rfl rfl rfl rfl (F.un _ rfl) (F.sz _ rfl) rfl (by omega) (by omega) (by omega) ?_
      refine aA ⟨by kernel_rfl,?_,?_⟩;(focus(repeat(first|exact Kz|apply fw;rfl|apply eL;rfl|refine⟨.inr (by(repeat(refine⟨(by first|exact aQ (F.un _ rfl) (F.sz _ rfl) rfl rfl rfl (by omega) (by omega) (by omega)|exact aw rfl rfl (.inr (.inl ⟨rfl,(Js _ ⟨by omega,by omega⟩).symm⟩))),?_⟩));exact Kz),?_⟩|refine⟨.inl (by kernel_rfl),?_⟩)))
      repeat first|apply ai;rfl|apply aL;rfl;omega;omega
      refine ihd _ _ _ (j,Sort.swp d' (j+1) j) [] ⟨by simp only;omega,by rw [aN];exact hd',?_⟩ (by simp only;omega) ?_
      ·rw [← hsd]
       conv=>rhs;rw [Sort.shiftDown,JV (by simpa [bj] using h5)]
      ·(refine⟨(Kn rfl),rfl,(by repeat(first|exact Kz|refine⟨rfl,?_⟩|refine⟨fP (by(omega)),?_⟩)),⟨aB rfl,trivial⟩⟩)
     ·skip
      refine aA ⟨by kernel_rfl,?_,?_⟩;(focus(repeat(first|exact Kz|apply fw;rfl|apply eL;rfl|refine⟨.inr (by(repeat(refine⟨(by first|exact aQ (F.un _ rfl) (F.sz _ rfl) rfl rfl rfl (by omega) (by omega) (by omega)|exact aw rfl rfl (.inr (.inl ⟨rfl,(Js _ ⟨by omega,by omega⟩).symm⟩))),?_⟩));exact Kz),?_⟩|refine⟨.inl (by kernel_rfl),?_⟩)))
      repeat first|refine out _ _ _ d' [] ⟨hd',by rw [← hsd,Sort.shiftDown,JW (by simpa [bj] using h5)]⟩ ?_;(exact Kx rfl rfl rfl ⟨aB rfl,trivial⟩)|apply cD;rfl
    ·obtain rfl:j=0:=by omega
     repeat first|refine out _ _ _ d' [] ⟨hd',hsd⟩ ?_;(exact Kx rfl rfl rfl ⟨aB rfl,trivial⟩)|apply cD;rfl
   rintro d2' ⟨hd2,rfl⟩
   repeat first|apply ai;rfl|apply aL;rfl;omega;omega
   refine dR rfl rfl rfl rfl ?_ ?_
   all_goals intro h6
   ·repeat first|apply ai;rfl|apply aL;rfl;omega;omega
    refine gy 1 (fun s1:Nat×Array (Int)=> [(0,.slu 0 0 n),(1,.sc (.int .i64 (a:Int))),(2,.sc (.int .i64 (b:Int))),(7,.sc (.int .i64 (i1:Int))),(8,.sc (.int .i64 ((5-(s+1):Nat):Int))),(10,.sc (.int .i64 (s1.1:Int)))]) (fun s1=> [some (b9 n s1.2)]) (fun s1=>i1+1≤s1.1∧s1.1≤b∧s1.2.size=n∧Sort.shiftUp bj b s1.1 s1.2=Sort.shiftUp bj b (i1+1) d2') (fun s1=>b-s1.1) (i1+1,d2') []
     1 (fun d':Array (Int)=> [(0,.slu 0 0 n),(1,.sc (.int .i64 (a:Int))),(2,.sc (.int .i64 (b:Int))),(7,.sc (.int .i64 (i1:Int))),(8,.sc (.int .i64 ((5-(s+1):Nat):Int)))]) (fun d'=> [some (b9 n d')]) (fun d'=>d'.size=n∧Sort.shiftUp bj b (i1+1) d2'=d')
     (fun _=>rfl) (fun _=>rfl) ⟨JK _,by simp only;omega,hd2,rfl⟩ ?_ (fun _=>rfl) (fun _=>rfl) ?_ ?_
    ·(exact Kx rfl rfl rfl ⟨aB rfl,trivial⟩)
    ·rintro⟨j,d'⟩ ⟨hj,hjb,hd',hsd⟩ ihd out
     simp only at hj hjb hd' hsd ihd ⊢
     repeat apply ai;rfl
     refine bh rfl rfl rfl rfl ?_ ?_
     all_goals intro h4
     ·repeat apply ai;rfl
      refine ck (by kernel_rfl) (by kernel_rfl) ?_
      have hls_h5:=fS (d'[j]!) (d'[j-1]!)
      cases h5:bj (d'[j]!) (d'[j-1]!)
      all_goals rw [h5] at hls_h5
      rotate_left
      all_goals(repeat(first|apply aU;rfl|refine bk (aw rfl rfl (.inr (.inl ⟨rfl,(Js _ ⟨(by omega),(by omega)⟩).symm⟩))) rfl rfl rfl ?_|refine cx (g:=fun x:Int=> .int .i64 x) rfl rfl rfl (F.ag _ rfl) rfl (by(omega)) (by(omega)) ?_|refine aJ (q:=j) rfl rfl rfl rfl (F.un _ rfl) (F.sz _ rfl) rfl (by omega) (by omega) (by omega) ?_|refine aJ (q:=j-1) rfl rfl rfl rfl (F.un _ rfl) (F.sz _ rfl) rfl (by omega) (by omega) (by omega) ?_|refine b8 rfl rfl rfl (by kernel_rfl) (Ctr.callV (hls_h5) [] rfl (Kn rfl) rfl trivial rfl) ?_))
      ·skip
       refine aA ⟨by kernel_rfl,?_,?_⟩;(focus(repeat(first|exact Kz|apply fw;rfl|apply eL;rfl|refine⟨.inr (by(repeat(refine⟨(by first|exact aQ (F.un _ rfl) (F.sz _ rfl) rfl rfl rfl (by omega) (by omega) (by omega)|exact aw rfl rfl (.inr (.inl ⟨rfl,(Js _ ⟨by omega,by omega⟩).symm⟩))),?_⟩));exact Kz),?_⟩|refine⟨.inl (by kernel_rfl),?_⟩)))
       repeat apply ai;rfl
       refine ck (by kernel_rfl) (by kernel_rfl) ?_
       repeat first|apply aU;rfl|refine bk (aw rfl rfl (.inr (.inl ⟨rfl,(Js _ ⟨(by omega),(by omega)⟩).symm⟩))) rfl rfl rfl ?_|refine cx (g:=fun x:Int=> .int .i64 x) rfl rfl rfl (F.ag _ rfl) rfl (by(omega)) (by(omega)) ?_|refine fp (g:=fun x:Int=> .int .i64 x) rfl rfl rfl (fun _=>rfl) (F.sz _ rfl) rfl (by first|omega|(simp only [Jt,aN];omega)) (by first|omega|(simp only [Jt,aN];omega)) ?_|refine aJ (q:=j) rfl rfl rfl rfl (F.un _ rfl) (F.sz _ rfl) rfl (by omega) (by omega) (by omega) ?_|refine aJ (q:=j-1) rfl rfl rfl rfl (F.un _ rfl) (F.sz _ rfl) rfl (by omega) (by omega) (by omega) ?_
       refine aA ⟨by kernel_rfl,?_,?_⟩;(focus(repeat(first|exact Kz|apply fw;rfl|apply eL;rfl|refine⟨.inr (by(repeat(refine⟨(by first|exact aQ (F.un _ rfl) (F.sz _ rfl) rfl rfl rfl (by omega) (by omega) (by omega)|exact aw rfl rfl (.inr (.inl ⟨rfl,(Js _ ⟨by omega,by omega⟩).symm⟩))),?_⟩));exact Kz),?_⟩|refine⟨.inl (by kernel_rfl),?_⟩)))
       repeat first|apply ai;rfl|apply aL;rfl;omega;omega
       refine ihd _ _ _ (j+1,Sort.swp d' j (j-1)) [] ⟨by simp only;omega,by simp only;omega,by rw [aN];exact hd',?_⟩ (by simp only;omega) ?_
       ·rw [← hsd]
        exact(mc (by omega) (by simpa [bj] using h5)).symm
       ·(exact Kx rfl rfl rfl ⟨aB rfl,trivial⟩)
      ·skip
       refine aA ⟨by kernel_rfl,?_,?_⟩;(focus(repeat(first|exact Kz|apply fw;rfl|apply eL;rfl|refine⟨.inr (by(repeat(refine⟨(by first|exact aQ (F.un _ rfl) (F.sz _ rfl) rfl rfl rfl (by omega) (by omega) (by omega)|exact aw rfl rfl (.inr (.inl ⟨rfl,(Js _ ⟨by omega,by omega⟩).symm⟩))),?_⟩));exact Kz),?_⟩|refine⟨.inl (by kernel_rfl),?_⟩)))
       repeat first|refine out _ _ _ d' [] ⟨hd',by rw [← hsd];exact fk (.inr (by simpa [bj] using h5))⟩ ?_;(exact Kx rfl rfl rfl ⟨aB rfl,trivial⟩)|apply cD;rfl
     ·repeat first|refine out _ _ _ d' [] ⟨hd',by rw [← hsd];exact fk (.inl (by omega))⟩ ?_;(exact Kx rfl rfl rfl ⟨aB rfl,trivial⟩)|apply cD;rfl
    rintro d3 ⟨hd3,e3⟩
    repeat first|apply ai;rfl|apply aL;rfl;omega;omega
    refine ih _ _ _ ((s,i1),d3) [] ⟨by simp only;omega,hai1,hi1,hd3,by rw [← ho];exact(hps d3 (by rw [JW (by omega)];exact e3)).symm⟩ (by simp only;omega) ?_
    (refine⟨(Kn rfl),rfl,(by repeat(first|exact Kz|refine⟨rfl,?_⟩|refine⟨fP (by(simp only;omega)),?_⟩)),⟨aB rfl,trivial⟩⟩)
   ·repeat first|apply ai;rfl|apply aL;rfl;omega;omega
    refine ih _ _ _ ((s,i1),d2') [] ⟨by simp only;omega,hai1,hi1,hd2,by rw [← ho];exact(hps d2' (by rw [JV (by omega)])).symm⟩ (by simp only;omega) ?_
    (refine⟨(Kn rfl),rfl,(by repeat(first|exact Kz|refine⟨rfl,?_⟩|refine⟨fP (by(simp only;omega)),?_⟩)),⟨aB rfl,trivial⟩⟩)
  ·rw [JV (by omega)] at e2
   subst e2
   have hd2:=hd1
   repeat first|apply ai;rfl|apply aL;rfl;omega;omega
   refine dR rfl rfl rfl rfl ?_ ?_
   all_goals intro h6
   ·repeat first|apply ai;rfl|apply aL;rfl;omega;omega
    refine gy 1 (fun s1:Nat×Array (Int)=> [(0,.slu 0 0 n),(1,.sc (.int .i64 (a:Int))),(2,.sc (.int .i64 (b:Int))),(7,.sc (.int .i64 (i1:Int))),(8,.sc (.int .i64 ((5-(s+1):Nat):Int))),(10,.sc (.int .i64 (s1.1:Int)))]) (fun s1=> [some (b9 n s1.2)]) (fun s1=>i1+1≤s1.1∧s1.1≤b∧s1.2.size=n∧Sort.shiftUp bj b s1.1 s1.2=Sort.shiftUp bj b (i1+1) d1) (fun s1=>b-s1.1) (i1+1,d1) []
     1 (fun d':Array (Int)=> [(0,.slu 0 0 n),(1,.sc (.int .i64 (a:Int))),(2,.sc (.int .i64 (b:Int))),(7,.sc (.int .i64 (i1:Int))),(8,.sc (.int .i64 ((5-(s+1):Nat):Int)))]) (fun d'=> [some (b9 n d')]) (fun d'=>d'.size=n∧Sort.shiftUp bj b (i1+1) d1=d')
     (fun _=>rfl) (fun _=>rfl) ⟨JK _,by simp only;omega,hd2,rfl⟩ ?_ (fun _=>rfl) (fun _=>rfl) ?_ ?_
    ·(exact Kx rfl rfl rfl ⟨aB rfl,trivial⟩)
    ·rintro⟨j,d'⟩ ⟨hj,hjb,hd',hsd⟩ ihd out
     simp only at hj hjb hd' hsd ihd ⊢
     repeat apply ai;rfl
     refine bh rfl rfl rfl rfl ?_ ?_
     all_goals intro h4
     ·repeat apply ai;rfl
      refine ck (by kernel_rfl) (by kernel_rfl) ?_
      have hls_h5:=fS (d'[j]!) (d'[j-1]!)
      cases h5:bj (d'[j]!) (d'[j-1]!)
      all_goals rw [h5] at hls_h5
      rotate_left
      all_goals(repeat(first|apply aU;rfl|refine bk (aw rfl rfl (.inr (.inl ⟨rfl,(Js _ ⟨(by omega),(by omega)⟩).symm⟩))) rfl rfl rfl ?_|refine cx (g:=fun x:Int=> .int .i64 x) rfl rfl rfl (F.ag _ rfl) rfl (by(omega)) (by(omega)) ?_|refine aJ (q:=j) rfl rfl rfl rfl (F.un _ rfl) (F.sz _ rfl) rfl (by omega) (by omega) (by omega) ?_|refine aJ (q:=j-1) rfl rfl rfl rfl (F.un _ rfl) (F.sz _ rfl) rfl (by omega) (by omega) (by omega) ?_|refine b8 rfl rfl rfl (by kernel_rfl) (Ctr.callV (hls_h5) [] rfl (Kn rfl) rfl trivial rfl) ?_))
      ·skip
       refine aA ⟨by kernel_rfl,?_,?_⟩;(focus(repeat(first|exact Kz|apply fw;rfl|apply eL;rfl|refine⟨.inr (by(repeat(refine⟨(by first|exact aQ (F.un _ rfl) (F.sz _ rfl) rfl rfl rfl (by omega) (by omega) (by omega)|exact aw rfl rfl (.inr (.inl ⟨rfl,(Js _ ⟨by omega,by omega⟩).symm⟩))),?_⟩));exact Kz),?_⟩|refine⟨.inl (by kernel_rfl),?_⟩)))
       repeat apply ai;rfl
       refine ck (by kernel_rfl) (by kernel_rfl) ?_
       repeat first|apply aU;rfl|refine bk (aw rfl rfl (.inr (.inl ⟨rfl,(Js _ ⟨(by omega),(by omega)⟩).symm⟩))) rfl rfl rfl ?_|refine cx (g:=fun x:Int=> .int .i64 x) rfl rfl rfl (F.ag _ rfl) rfl (by(omega)) (by(omega)) ?_|refine fp (g:=fun x:Int=> .int .i64 x) rfl rfl rfl (fun _=>rfl) (F.sz _ rfl) rfl (by first|omega|(simp only [Jt,aN];omega)) (by first|omega|(simp only [Jt,aN];omega)) ?_|refine aJ (q:=j) rfl rfl rfl rfl (F.un _ rfl) (F.sz _ rfl) rfl (by omega) (by omega) (by omega) ?_|refine aJ (q:=j-1) rfl rfl rfl rfl (F.un _ rfl) (F.sz _ rfl) rfl (by omega) (by omega) (by omega) ?_
       refine aA ⟨by kernel_rfl,?_,?_⟩;(focus(repeat(first|exact Kz|apply fw;rfl|apply eL;rfl|refine⟨.inr (by(repeat(refine⟨(by first|exact aQ (F.un _ rfl) (F.sz _ rfl) rfl rfl rfl (by omega) (by omega) (by omega)|exact aw rfl rfl (.inr (.inl ⟨rfl,(Js _ ⟨by omega,by omega⟩).symm⟩))),?_⟩));exact Kz),?_⟩|refine⟨.inl (by kernel_rfl),?_⟩)))
       repeat first|apply ai;rfl|apply aL;rfl;omega;omega
       refine ihd _ _ _ (j+1,Sort.swp d' j (j-1)) [] ⟨by simp only;omega,by simp only;omega,by rw [aN];exact hd',?_⟩ (by simp only;omega) ?_
       ·rw [← hsd]
        exact(mc (by omega) (by simpa [bj] using h5)).symm
       ·(exact Kx rfl rfl rfl ⟨aB rfl,trivial⟩)
      ·skip
       refine aA ⟨by kernel_rfl,?_,?_⟩;(focus(repeat(first|exact Kz|apply fw;rfl|apply eL;rfl|refine⟨.inr (by(repeat(refine⟨(by first|exact aQ (F.un _ rfl) (F.sz _ rfl) rfl rfl rfl (by omega) (by omega) (by omega)|exact aw rfl rfl (.inr (.inl ⟨rfl,(Js _ ⟨by omega,by omega⟩).symm⟩))),?_⟩));exact Kz),?_⟩|refine⟨.inl (by kernel_rfl),?_⟩)))
       repeat first|refine out _ _ _ d' [] ⟨hd',by rw [← hsd];exact fk (.inr (by simpa [bj] using h5))⟩ ?_;(exact Kx rfl rfl rfl ⟨aB rfl,trivial⟩)|apply cD;rfl
     ·repeat first|refine out _ _ _ d' [] ⟨hd',by rw [← hsd];exact fk (.inl (by omega))⟩ ?_;(exact Kx rfl rfl rfl ⟨aB rfl,trivial⟩)|apply cD;rfl
    rintro d3 ⟨hd3,e3⟩
    repeat first|apply ai;rfl|apply aL;rfl;omega;omega
    refine ih _ _ _ ((s,i1),d3) [] ⟨by simp only;omega,hai1,hi1,hd3,by rw [← ho];exact(hps d3 (by rw [JW (by omega)];exact e3)).symm⟩ (by simp only;omega) ?_
    (refine⟨(Kn rfl),rfl,(by repeat(first|exact Kz|refine⟨rfl,?_⟩|refine⟨fP (by(simp only;omega)),?_⟩)),⟨aB rfl,trivial⟩⟩)
   ·repeat first|apply ai;rfl|apply aL;rfl;omega;omega
    refine ih _ _ _ ((s,i1),d1) [] ⟨by simp only;omega,hai1,hi1,hd2,by rw [← ho];exact(hps d1 (by rw [JV (by omega)])).symm⟩ (by simp only;omega) ?_
    (refine⟨(Kn rfl),rfl,(by repeat(first|exact Kz|refine⟨rfl,?_⟩|refine⟨fP (by(omega)),?_⟩)),⟨aB rfl,trivial⟩⟩)
 ·obtain rfl:s=0:=by omega
  repeat apply ai;rfl
  rw [← ho]
  ((apply bn Tryz.func112 (congrArg Array.toList Tryz.results112));(focus(repeat(first|exact Kq|apply Ks rfl)));refine⟨_,rfl,Ends.mk [] (Kn rfl) rfl rfl ?_⟩)
  exact⟨aB rfl,trivial⟩
def sX(a len m:Nat):Nat→UInt64×Array (Int)→Nat→UInt64×Array (Int)
 | 0,st,_=>st
 | k+1,st,i=>sX a len m k (Sort.breakStep a len m st i) (i+1)
theorem uB(n a b:Nat)(d:Array (Int))(hn:n<65536)(hd:d.size=n)(hab:a≤b)(hb:b≤n) :
 Ctr Tryz.prog 109 [.slu 0 0 n,.sc (.int .i64 (a:Int)),.sc (.int .i64 (b:Int))] [b9 n d] (fun c=>c=⟨.tup [],[some (b9 n (Sort.breakPatterns d a b))]⟩):=by
 have eba:(b:Int)-(a:Int)=((b-a:Nat):Int):=by omega
 refine Kp Tryz.func109 rfl rfl ?_
 repeat first|apply ai;rfl|apply aL;rfl;omega;omega
 rw [eba]
 have ebp:Sort.breakPatterns d a b=Sort.breakPatterns d a b:=rfl
 conv at ebp=>rhs;unfold Sort.breakPatterns
 simp only at ebp
 refine dR rfl rfl rfl rfl ?_ ?_
 all_goals intro h1
 ·rw [JW (by omega)] at ebp
  have ep:Sort.bitsLen (b-a)≤16:=qt (by omega)
  have eq1:(1:Nat) <<< Sort.bitsLen (b-a)=2 ^ Sort.bitsLen (b-a):=by rw [Nat.shiftLeft_eq,Nat.one_mul]
  have eq2:2 ^ Sort.bitsLen (b-a)≤2*(b-a):=Sort.two_pow_bitsLen_le (by omega)
  have eq3:0<2 ^ Sort.bitsLen (b-a):=Nat.pow_pos (by decide)
  repeat first|apply ai;rfl|apply aH;rfl;(focus((repeat(exact ac));done));rfl|apply aL;rfl;omega;omega|refine cd (p9 rfl rfl (by omega) (jC (by omega) (by omega) (by omega))) rfl rfl rfl ?_|refine cd (bT (F.un _ rfl) (F.un _ rfl) rfl (show _=((b-a:Nat):Int)from Kk _ ⟨by omega,by omega⟩)) rfl rfl rfl ?_|refine oD (zo (b-a) (by omega)) [] rfl rfl rfl (by kernel_rfl) rfl (Kn rfl) rfl trivial ?_
  rw [eq1] at ebp
  generalize hm:2 ^ Sort.bitsLen (b-a)=m at ebp eq2 eq3
  have e4:(a:Int)+((b-a:Nat):Int) / 4*2-1=((a+(b-a) / 4*2-1:Nat):Int):=by omega
  rw [e4]
  have hbase:a+(b-a) / 4*2-1+3≤b:=by omega
  have hlt:0<a+(b-a) / 4*2:=by omega
  generalize hbs:a+(b-a) / 4*2-1=base at ebp hbase
  have ht:Sort.breakPatterns d a b=(sX a (b-a) m 3 (UInt64.ofNat (b-a),d) base).2:=ebp
  refine gz 2 (fun s:(Nat×UInt64)×Array (Int)=> [(0,.slu 0 0 n),(1,.sc (.int .i64 (a:Int))),(6,.sc (.int .i64 ((b-a:Nat):Int))),(7,.ptr 1 0),(8,.sc (.int .u64 (m:Int))),(9,.sc (.int .i64 ((base+3-s.1.1:Nat):Int)))]) (fun s=> [some (b9 n s.2),some (xsO s.1.2.toNat)]) (fun s=>s.1.1≤3∧s.2.size=n∧(sX a (b-a) m s.1.1 (s.1.2,s.2) (base+3-s.1.1)).2=Sort.breakPatterns d a b) (fun s=>s.1.1) ((3,UInt64.ofNat (b-a)),d) [1]
   (fun _=>rfl) ⟨JK _,hd,by rw [ht];rfl⟩ ?_ (fun _=>rfl) (fun _=>rfl) ?_
  ·have e0:(UInt64.ofNat (b-a)).toNat=b-a:=by rw [UInt64.toNat_ofNat',Nat.mod_eq_of_lt (by omega)]
   rw [e0]
   (refine⟨(Kn rfl),rfl,(by repeat(first|exact Kz|refine⟨rfl,?_⟩)),(by repeat(first|exact Kz|refine⟨aB rfl,?_⟩|refine⟨fB rfl,?_⟩))⟩)
  rintro⟨⟨s,r⟩,d1⟩ ⟨hs,hd1,ho⟩ ih
  simp only at hs hd1 ho ih ⊢
  repeat first|apply ai;rfl|apply aL;rfl;omega;omega|refine cd (p9 rfl rfl (by omega) (jC (by omega) (by omega) (by omega))) rfl rfl rfl ?_
  refine pZ rfl rfl rfl rfl ?_ ?_
  all_goals intro h2
  ·obtain⟨s,rfl⟩: ∃ s',s=s'+1:=⟨s-1,by omega⟩
   have hr:=UInt64.toNat_lt r
   have hnx:=Sort.xorNextN_lt r.toNat hr
   have hxn:=Sort.xorNext_toNat r
   have hst:Sort.breakStep a (b-a) m (r,d1) (base+3-(s+1))=(Sort.xorNext r,Sort.swp d1 (base+3-(s+1)) (a+(if(Sort.xorNext r).toNat &&& (m-1)≥b-a then((Sort.xorNext r).toNat &&& (m-1))-(b-a) else(Sort.xorNext r).toNat &&& (m-1)))):=rfl
   have ho':(sX a (b-a) m s (Sort.breakStep a (b-a) m (r,d1) (base+3-(s+1))) (base+3-s)).2=Sort.breakPatterns d a b:=by
    rw [← ho,sX,show base+3-(s+1)+1=base+3-s by omega]
   rw [hst] at ho'
   rw [hxn] at ho'
   have hmw:IntKind.u64.wrap ((m:Int)-1)=((m-1:Nat):Int):=by
    rw [Kk _ ⟨by omega,by omega⟩]
    omega
   have hand:=andU (a:=Sort.xorNextN r.toNat) (b:=m-1) hnx (by omega)
   have hle:Sort.xorNextN r.toNat &&& (m-1)≤m-1:=Nat.and_le_right
   generalize hoo:Sort.xorNextN r.toNat &&& (m-1)=o at hand hle ho'
   repeat first|apply ai;rfl|refine ci rfl rfl rfl (by kernel_rfl) (Ctr.dO (zM r.toNat hr) [1] rfl (Kn rfl) rfl (by repeat(first|exact Kz|refine⟨fB rfl,?_⟩)) rfl (by repeat(first|exact Kz|refine⟨dH (fun _=>rfl),?_⟩)) (fun _=>rfl) rfl rfl) ?_
   refine cd (aw rfl rfl (.inr (.inl ⟨rfl,rfl⟩))) rfl rfl rfl ?_
   rw [hmw]
   refine cd (mP rfl rfl (.inl rfl) hand) rfl rfl rfl ?_
   repeat first|apply ai;rfl|refine cd (bT (F.un _ rfl) (F.un _ rfl) rfl (show _=(o:Int)from Js _ ⟨by omega,by omega⟩)) rfl rfl rfl ?_
   refine dR rfl rfl rfl rfl ?_ ?_
   all_goals intro h3
   ·rw [JW (by omega)] at ho'
    repeat first|apply ai;rfl|apply aL;rfl;omega;omega
    refine ck (by kernel_rfl) (by kernel_rfl) ?_
    repeat first|apply aU;rfl|refine bk (aw rfl rfl (.inl ⟨rfl,(Js _ ⟨(by omega),(by omega)⟩).symm⟩)) rfl rfl rfl ?_|refine cx (g:=fun x:Int=> .int .i64 x) rfl rfl rfl (F.ag _ rfl) rfl (by(omega)) (by(omega)) ?_|refine fp (g:=fun x:Int=> .int .i64 x) rfl rfl rfl (fun _=>rfl) (F.sz _ rfl) rfl (by first|omega|(simp only [Jt,aN];omega)) (by first|omega|(simp only [Jt,aN];omega)) ?_|refine aJ (q:=base+3-(s+1)) rfl rfl rfl rfl (F.un _ rfl) (F.sz _ rfl) rfl (by omega) (by omega) (by omega) ?_|refine aJ (q:=a+(o-(b-a))) rfl rfl rfl rfl (F.un _ rfl) (F.sz _ rfl) rfl (by omega) (by omega) (by omega) ?_
    refine aA ⟨by kernel_rfl,?_,?_⟩;(focus(repeat(first|exact Kz|apply fw;rfl|apply eL;rfl|refine⟨.inr (by(repeat(refine⟨(by first|exact aQ (F.un _ rfl) (F.sz _ rfl) rfl rfl rfl (by omega) (by omega) (by omega)|exact aw rfl rfl (.inl ⟨rfl,(Js _ ⟨by omega,by omega⟩).symm⟩)),?_⟩));exact Kz),?_⟩|refine⟨.inl (by kernel_rfl),?_⟩)))
    repeat first|apply ai;rfl|apply aL;rfl;omega;omega
    refine ih _ _ _ ((s,Sort.xorNext r),Sort.swp d1 (base+3-(s+1)) (a+(o-(b-a)))) [1] ⟨by simp only;omega,by rw [aN];exact hd1,ho'⟩ (by simp only;omega) ?_
    rw [hxn]
    (refine⟨(Kn rfl),rfl,(by repeat(first|exact Kz|refine⟨rfl,?_⟩|refine⟨fP (by(simp only;omega)),?_⟩)),(by repeat(first|exact Kz|refine⟨aB rfl,?_⟩|refine⟨fB rfl,?_⟩))⟩)
   ·rw [JV (by omega)] at ho'
    repeat apply ai;rfl
    refine ck (by kernel_rfl) (by kernel_rfl) ?_
    repeat first|apply aU;rfl|refine bk (aw rfl rfl (.inl ⟨rfl,(Js _ ⟨(by omega),(by omega)⟩).symm⟩)) rfl rfl rfl ?_|refine cx (g:=fun x:Int=> .int .i64 x) rfl rfl rfl (F.ag _ rfl) rfl (by(omega)) (by(omega)) ?_|refine fp (g:=fun x:Int=> .int .i64 x) rfl rfl rfl (fun _=>rfl) (F.sz _ rfl) rfl (by first|omega|(simp only [Jt,aN];omega)) (by first|omega|(simp only [Jt,aN];omega)) ?_|refine aJ (q:=base+3-(s+1)) rfl rfl rfl rfl (F.un _ rfl) (F.sz _ rfl) rfl (by omega) (by omega) (by omega) ?_|refine aJ (q:=a+o) rfl rfl rfl rfl (F.un _ rfl) (F.sz _ rfl) rfl (by omega) (by omega) (by omega) ?_
    refine aA ⟨by kernel_rfl,?_,?_⟩;(focus(repeat(first|exact Kz|apply fw;rfl|apply eL;rfl|refine⟨.inr (by(repeat(refine⟨(by first|exact aQ (F.un _ rfl) (F.sz _ rfl) rfl rfl rfl (by omega) (by omega) (by omega)|exact aw rfl rfl (.inl ⟨rfl,(Js _ ⟨by omega,by omega⟩).symm⟩)),?_⟩));exact Kz),?_⟩|refine⟨.inl (by kernel_rfl),?_⟩)))
    repeat first|apply ai;rfl|apply aL;rfl;omega;omega
    refine ih _ _ _ ((s,Sort.xorNext r),Sort.swp d1 (base+3-(s+1)) (a+o)) [1] ⟨by simp only;omega,by rw [aN];exact hd1,ho'⟩ (by simp only;omega) ?_
    rw [hxn]
    (refine⟨(Kn rfl),rfl,(by repeat(first|exact Kz|refine⟨rfl,?_⟩|refine⟨fP (by(simp only;omega)),?_⟩)),(by repeat(first|exact Kz|refine⟨aB rfl,?_⟩|refine⟨fB rfl,?_⟩))⟩)
  ·obtain rfl:s=0:=by omega
   repeat apply ai;rfl
   ((apply qD Tryz.func109 (congrArg Array.toList Tryz.results109));(focus(repeat(exact Kq)));refine⟨_,rfl,Ends.mk [] (Kn rfl) rfl rfl ?_⟩)
   rw [← ho]
   exact⟨aB rfl,trivial⟩
 ·rw [JV (by omega)] at ebp
  repeat apply ai;rfl
  ((apply qD Tryz.func109 (congrArg Array.toList Tryz.results109));(focus(repeat(exact Kq)));refine⟨_,rfl,Ends.mk [] (Kn rfl) rfl rfl ?_⟩)
  rw [ebp]
  exact⟨aB rfl,trivial⟩
abbrev vX:=Array (Int)
theorem xA:Sort.SWO bj where
 irrefl:=fun a=>by simp [bj]
 trans:=fun a b c h h'=>by
  simp only [bj,Km] at h h' ⊢
  omega
 ntrans:=fun a b c h h'=>by
  simp only [bj,decide_eq_false_iff_not] at h h' ⊢
  omega
theorem xC{d:vX}(h:b-a≤12):Sort.pdq lt d a b limit wb wp=Sort.insertionSort lt d a b:=by rw [Sort.pdq,JW h]
theorem uz{d:vX}(h: ¬ b-a≤12)(h0:limit=0):Sort.pdq lt d a b limit wb wp=Sort.heapSort lt d a b:=by rw [Sort.pdq,JV h,JW h0]
def eZ(lt:Int→Int→Bool)(d3:vX)(a b pivot limit:Nat)(wb wp:Bool):vX:=
 if a>0 && !lt d3[a-1]! d3[pivot]! then
  match Sort.partitionEqual lt d3 a b pivot with
  | (mid,d4)=>if _h:a<mid∧mid≤b then Sort.pdq lt d4 mid b limit wb wp else d4
 else
  match Sort.partition lt d3 a b pivot with
  | (mid,alreadyPartitioned,d4)=>
    if _h:a≤mid∧mid<b then
     if mid-a<b-mid then
      Sort.pdq lt (Sort.pdq lt d4 a mid limit true true) (mid+1) b limit (decide (mid-a≥(b-a) / 8)) alreadyPartitioned
     else
      Sort.pdq lt (Sort.pdq lt d4 (mid+1) b limit true true) a mid limit (decide (b-mid≥(b-a) / 8)) alreadyPartitioned
    else d4
theorem zI{d d1 d2:vX}{limit1:Nat}{c:Nat×Sort.Hint}{hint:Sort.Hint}{pi:vX×Bool}(h: ¬ b-a≤12)(h0: ¬ limit=0)
 (e1:d1=(if(!wb)=true then Sort.breakPatterns d a b else d)) (el:limit1=(if(!wb)=true then limit-1 else limit)) (ec:Sort.choosePivot lt d1 a b=c)
 (e2:d2=(if c.2 = .decreasing then Sort.reverseRange d1 a b else d1)) (ep:pivot=(if c.2 = .decreasing then(b-1)-(c.1-a) else c.1)) (eh:hint=(if c.2 = .decreasing then .increasing else c.2))
 (ei:(if(wb && wp && decide (hint = .increasing))=true then Sort.partialInsertionSort lt d2 a b else(d2,false))=pi) :
 Sort.pdq lt d a b limit wb wp=if pi.2=true then pi.1 else eZ lt pi.1 a b pivot limit1 wb wp:=by
 subst e1 el ec e2 ep eh ei
 rw [Sort.pdq,JV h,JV h0]
 rfl
theorem xB{d3 d4:vX}(h:(decide (a>0) && !lt d3[a-1]! d3[pivot]!)=true)(hx:Sort.partitionEqual lt d3 a b pivot=(mid,d4))(hm:a<mid∧mid≤b) :
 eZ lt d3 a b pivot limit wb wp=Sort.pdq lt d4 mid b limit wb wp:=by
 unfold eZ
 rw [JW h,hx]
 simp only [dif_pos hm]
theorem sO{d3 d4:vX}{ap:Bool}(h: ¬ (decide (a>0) && !lt d3[a-1]! d3[pivot]!)=true)(hx:Sort.partition lt d3 a b pivot=(mid,ap,d4))(hm:a≤mid∧mid<b)(hl:mid-a<b-mid) :
 eZ lt d3 a b pivot limit wb wp=Sort.pdq lt (Sort.pdq lt d4 a mid limit true true) (mid+1) b limit (decide (mid-a≥(b-a) / 8)) ap:=by
 unfold eZ
 rw [JV h,hx]
 simp only [dif_pos hm,JW hl]
theorem qX{d3 d4:vX}{ap:Bool}(h: ¬ (decide (a>0) && !lt d3[a-1]! d3[pivot]!)=true)(hx:Sort.partition lt d3 a b pivot=(mid,ap,d4))(hm:a≤mid∧mid<b)(hl: ¬ mid-a<b-mid) :
 eZ lt d3 a b pivot limit wb wp=Sort.pdq lt (Sort.pdq lt d4 (mid+1) b limit true true) a mid limit (decide (b-mid≥(b-a) / 8)) ap:=by
 unfold eZ
 rw [JV h,hx]
 simp only [dif_pos hm,JV hl]
theorem uy(n:Nat)(hn:n<65536): ∀ (k a b limit:Nat) (d:vX),b-a=k→a≤b→b≤n→d.size=n→limit<4611686018427387904→Sort.Below bj a b d →
 Ctr Tryz.prog 97 [.slu 0 0 n,.sc (.int .i64 (a:Int)),.sc (.int .i64 (b:Int)),.sc (.int .i64 (limit:Int))] [b9 n d] (fun c=>c=⟨.tup [],[some (b9 n (Sort.pdq bj d a b limit true true))]⟩):=by
 intro k
 induction k using Nat.strongRecOn with
 | _ k ihk=>
 intro a b limit d hk hab hb hd hl hB
 refine Kp Tryz.func97 rfl rfl ?_
 repeat apply ai;rfl
 refine gz 1 (fun s:((Nat×Nat)×Nat)×((Bool×Bool)×vX)=> [(0,.slu 0 0 n),(1,.sc (.int .i64 (s.1.1.1:Int))),(2,.sc (.int .i64 (s.1.1.2:Int))),(3,.sc (.int .i64 (s.1.2:Int))),(8,.sc (.bool s.2.1.1)),(9,.sc (.bool s.2.1.2))]) (fun s=> [some (b9 n s.2.2)])
  (fun s=>s.1.1.1≤s.1.1.2∧s.1.1.2≤n∧s.1.1.2-s.1.1.1≤k∧s.2.2.size=n∧s.1.2<4611686018427387904∧Sort.Below bj s.1.1.1 s.1.1.2 s.2.2∧Sort.pdq bj s.2.2 s.1.1.1 s.1.1.2 s.1.2 s.2.1.1 s.2.1.2=Sort.pdq bj d a b limit true true) (fun s=>s.1.1.2-s.1.1.1) (((a,b),limit),((true,true),d)) []
  (fun _=>rfl) ⟨hab,hb,Nat.le_of_eq hk,hd,hl,hB,rfl⟩ ?_ (fun _=>rfl) (fun _=>rfl) ?_
 ·(exact Kx rfl rfl rfl ⟨aB rfl,trivial⟩)
 rintro⟨⟨⟨a1,b1⟩,l1⟩,⟨⟨wb,wp⟩,d1⟩⟩ ⟨hab1,hb1,hk1,hd1,hl1,hB1,ho⟩ ih
 simp only at hab1 hb1 hk1 hd1 hl1 hB1 ho ih ⊢
 have eba:(b1:Int)-(a1:Int)=((b1-a1:Nat):Int):=by omega
 repeat first|apply ai;rfl|apply aL;rfl;omega;omega
 rw [eba]
 refine pZ rfl rfl rfl rfl ?_ ?_
 all_goals intro h1
 ·rw [xC (by omega)] at ho
  repeat first|apply ai;rfl|refine ci rfl rfl rfl (by kernel_rfl) (Ctr.dO (oIins n a1 b1 d1 (by omega) hd1 hab1 hb1) [0] rfl (Kn rfl) rfl ⟨aB rfl,trivial⟩ rfl (by repeat(first|exact Kz|refine⟨bJ,?_⟩)) (fun _=>rfl) rfl rfl) ?_
  ((apply bn Tryz.func97 (congrArg Array.toList Tryz.results97));(focus(repeat(exact Kq)));refine⟨_,rfl,Ends.mk [] (Kn rfl) rfl rfl ?_⟩)
  rw [← ho]
  exact⟨aB rfl,trivial⟩
 repeat apply ai;rfl
 refine cI rfl rfl rfl rfl ?_ ?_
 all_goals intro h2
 ·rw [uz (by omega) (by omega)] at ho
  repeat first|apply ai;rfl|refine ci rfl rfl rfl (by kernel_rfl) (Ctr.dO (sW n a1 b1 d1 (by omega) hd1 hab1 hb1) [0] rfl (Kn rfl) rfl ⟨aB rfl,trivial⟩ rfl (by repeat(first|exact Kz|refine⟨bJ,?_⟩)) (fun _=>rfl) rfl rfl) ?_
  ((apply bn Tryz.func97 (congrArg Array.toList Tryz.results97));(focus(repeat(exact Kq)));refine⟨_,rfl,Ends.mk [] (Kn rfl) rfl rfl ?_⟩)
  rw [← ho]
  exact⟨aB rfl,trivial⟩
 repeat apply cD;rfl
 refine Du 1 (fun s:Nat×vX=> [(0,.slu 0 0 n),(1,.sc (.int .i64 (a1:Int))),(2,.sc (.int .i64 (b1:Int))),(3,.sc (.int .i64 (s.1:Int))),(8,.sc (.bool wb)),(9,.sc (.bool wp)),(10,.sc (.int .i64 ((b1-a1:Nat):Int)))]) (fun s=> [some (b9 n s.2)])
  (fun s=>s.1=(if(!wb)=true then l1-1 else l1)∧s.2=(if(!wb)=true then Sort.breakPatterns d1 a1 b1 else d1)) (fun _=>rfl) rfl (fun _=>rfl) (fun _=>rfl) ?_ ?_ ?_
 ·intro hw out
  repeat first|refine out _ _ _ (l1-1,Sort.breakPatterns d1 a1 b1) [] ⟨by rw [JW hw],by rw [JW hw]⟩ ?_;(refine⟨(Kn rfl),rfl,(by repeat(first|exact Kz|refine⟨rfl,?_⟩|refine⟨fP (by(omega)),?_⟩)),⟨aB rfl,trivial⟩⟩)|apply cD;rfl|apply aL;rfl;omega;omega|refine ci rfl rfl rfl (by kernel_rfl) (Ctr.dO (uB n a1 b1 d1 hn hd1 hab1 hb1) [0] rfl (Kn rfl) rfl ⟨aB rfl,trivial⟩ rfl (by repeat(first|exact Kz|refine⟨bJ,?_⟩)) (fun _=>rfl) rfl rfl) ?_
 ·intro hw out
  repeat first|refine out _ _ _ (l1,d1) [] ⟨by rw [hw];rfl,by rw [hw];rfl⟩ ?_;(exact Kx rfl rfl rfl ⟨aB rfl,trivial⟩)|apply cD;rfl
 rintro⟨l2,d2⟩ ⟨el,ed⟩
 simp only at el ed ⊢
 have hl2:l2<4611686018427387904:=by rw [el];split <;> omega
 have hpd:Sort.PermIn a1 b1 d1 d2:=by
  rw [ed]
  split
  ·exact Sort.breakPatterns_holds d1 a1 b1 hab1 (by omega)
  ·exact Sort.permIn_refl d1 a1 b1
 have hd2:d2.size=n:=by rw [hpd.1];exact hd1
 have hB2:Sort.Below bj a1 b1 d2:=hB1.perm (by omega) hpd
 have hpv:=ux n a1 b1 d2 (by omega) hd2 (by omega) hb1
 have hpr:=Sort.choosePivot_holds bj d2 a1 b1 (by omega)
 have hgo:=fun d3 pivot hint pi=>zI (lt:=bj) (d:=d1) (d1:=d2) (d2:=d3) (a:=a1) (b:=b1) (limit:=l1) (limit1:=l2) (pivot:=pivot) (wb:=wb) (wp:=wp) (c:=Sort.choosePivot bj d2 a1 b1) (hint:=hint) (pi:=pi) (by omega) (by omega) ed el rfl
 generalize Sort.choosePivot bj d2 a1 b1=c at hpv hpr hgo
 obtain⟨p,hint⟩:=c
 simp only at hpv hpr hgo
 repeat first|apply ai;rfl|refine ci rfl rfl rfl (by kernel_rfl) (Ctr.dO (hpv) [0] rfl (Kn rfl) rfl ⟨aB rfl,trivial⟩ rfl (by repeat(first|exact Kz|refine⟨bJ,?_⟩)) (fun _=>rfl) rfl rfl) ?_
 refine cd (dl rfl rfl (.inl ⟨rfl,rfl⟩)) rfl rfl rfl ?_
 rw [z9]
 repeat apply cD;rfl
 refine Du 1 (fun s:(Nat×Sort.Hint)×vX=> [(0,.slu 0 0 n),(1,.sc (.int .i64 (a1:Int))),(2,.sc (.int .i64 (b1:Int))),(3,.sc (.int .i64 (l2:Int))),(8,.sc (.bool wb)),(9,.sc (.bool wp)),(10,.sc (.int .i64 ((b1-a1:Nat):Int))),(11,.sc (.int .i64 (s.1.1:Int))),(12,.sc (.int .i64 (Ew s.1.2)))]) (fun s=> [some (b9 n s.2)])
  (fun s=>s.2=(if hint = .decreasing then Sort.reverseRange d2 a1 b1 else d2)∧s.1.1=(if hint = .decreasing then(b1-1)-(p-a1) else p)∧s.1.2=(if hint = .decreasing then .increasing else hint)) (fun _=>rfl) rfl (fun _=>rfl) (fun _=>rfl) ?_ ?_ ?_
 ·intro hw out
  have hw:=J7 hw
  repeat first|refine out _ _ _ (((b1-1)-(p-a1),.increasing),Sort.reverseRange d2 a1 b1) [] ⟨by rw [JW hw],by rw [JW hw],by rw [JW hw]⟩ ?_;(refine⟨(Kn rfl),rfl,(by repeat(first|exact Kz|refine⟨rfl,?_⟩|refine⟨fP (by(simp only;omega)),?_⟩)),⟨aB rfl,trivial⟩⟩)|apply cD;rfl|apply aL;rfl;omega;omega|refine ci rfl rfl rfl (by kernel_rfl) (Ctr.dO (uw n a1 b1 d2 (by omega) hd2 (by omega) hb1) [0] rfl (Kn rfl) rfl ⟨aB rfl,trivial⟩ rfl (by repeat(first|exact Kz|refine⟨bJ,?_⟩)) (fun _=>rfl) rfl rfl) ?_
 ·intro hw out
  have hw:=of_decide_eq_false hw
  repeat first|refine out _ _ _ ((p,hint),d2) [] ⟨by rw [JV hw],by rw [JV hw],by rw [JV hw]⟩ ?_;(exact Kx rfl rfl rfl ⟨aB rfl,trivial⟩)|apply cD;rfl
 rintro⟨⟨pv,hint2⟩,d3⟩ ⟨ed3,epv,ehi⟩
 simp only at ed3 epv ehi ⊢
 have hpd3:Sort.PermIn a1 b1 d2 d3:=by
  rw [ed3]
  split
  ·exact Sort.reverseRange_holds d2 a1 b1 hab1 (by omega)
  ·exact Sort.permIn_refl d2 a1 b1
 have hd3:d3.size=n:=by rw [hpd3.1];exact hd2
 have hB3:Sort.Below bj a1 b1 d3:=hB2.perm (by omega) hpd3
 have hpv1:a1≤pv∧pv<b1:=by rw [epv];split <;> omega
 have hgo:=fun pi=>hgo d3 pv hint2 pi ed3 epv ehi
 (repeat refine Dr ?_)
 refine yf 1 (fun _:Unit=> [(0,.slu 0 0 n),(1,.sc (.int .i64 (a1:Int))),(2,.sc (.int .i64 (b1:Int))),(3,.sc (.int .i64 (l2:Int))),(8,.sc (.bool wb)),(9,.sc (.bool wp)),(10,.sc (.int .i64 ((b1-a1:Nat):Int))),(11,.sc (.int .i64 (pv:Int))),(68,.sc (.bool (wb && wp && decide (hint2 = .increasing))))]) (fun _=> [some (b9 n d3)])
  (fun _=>True) (fun _=>rfl) (fun _=>rfl) (fun _=>rfl) ?_ ?_
 ·intro out
  clear ih ihk ho hgo ehi ed el hpr hpv
  cases wb <;> cases wp <;> cases hint2 <;> (repeat(first|refine out _ _ _ () [] trivial ?_;(exact Kx rfl rfl rfl ⟨aB rfl,trivial⟩)|apply cD;rfl|refine cd (dl rfl rfl (.inl ⟨rfl,rfl⟩)) rfl rfl rfl ?_))
 rintro _ -
 (repeat refine Dr ?_)
 refine Du 1 (fun d':vX=> [(0,.slu 0 0 n),(1,.sc (.int .i64 (a1:Int))),(2,.sc (.int .i64 (b1:Int))),(3,.sc (.int .i64 (l2:Int))),(8,.sc (.bool wb)),(9,.sc (.bool wp)),(10,.sc (.int .i64 ((b1-a1:Nat):Int))),(11,.sc (.int .i64 (pv:Int)))]) (fun d'=> [some (b9 n d')])
  (fun d'=>d'.size=n∧Sort.Below bj a1 b1 d'∧Sort.pdq bj d1 a1 b1 l1 wb wp=eZ bj d' a1 b1 pv l2 wb wp) (fun _=>rfl) rfl (fun _=>rfl) (fun _=>rfl) ?_ ?_ ?_
 ·intro hw out
  have hps:=sT n a1 b1 d3 (by omega) hd3 (by omega) hb1
  have hpp:=(Sort.partialInsertionSort_holds xA d3 a1 b1 (by omega) (by omega) hB3).1
  have hgo:=hgo _ (by rw [JW hw])
  generalize Sort.partialInsertionSort bj d3 a1 b1=pi at hps hpp hgo
  obtain⟨d4,done⟩:=pi
  simp only at hps hpp hgo
  cases done
  ·rw [JV (by decide)] at hgo
   repeat first|refine out _ _ _ d4 [] ⟨by rw [hpp.1];exact hd3,hB3.perm (by omega) hpp,hgo⟩ ?_;(exact Kx rfl rfl rfl ⟨aB rfl,trivial⟩)|apply cD;rfl|refine ci rfl rfl rfl (by kernel_rfl) (Ctr.dO (hps) [0] rfl (Kn rfl) rfl ⟨aB rfl,trivial⟩ rfl (by repeat(first|exact Kz|refine⟨bJ,?_⟩)) (fun _=>rfl) rfl rfl) ?_
  ·rw [JW rfl] at hgo
   repeat first|apply ai;rfl|refine ci rfl rfl rfl (by kernel_rfl) (Ctr.dO (hps) [0] rfl (Kn rfl) rfl ⟨aB rfl,trivial⟩ rfl (by repeat(first|exact Kz|refine⟨bJ,?_⟩)) (fun _=>rfl) rfl rfl) ?_
   ((apply bn Tryz.func97 (congrArg Array.toList Tryz.results97));(focus(repeat(exact Kq)));refine⟨_,rfl,Ends.mk [] (Kn rfl) rfl rfl ?_⟩)
   rw [← ho,hgo]
   exact⟨aB rfl,trivial⟩
 ·intro hw out
  have hgo:=hgo (d3,false) (by rw [hw];rfl)
  repeat first|refine out _ _ _ d3 [] ⟨hd3,hB3,by rw [hgo];rfl⟩ ?_;(exact Kx rfl rfl rfl ⟨aB rfl,trivial⟩)|apply cD;rfl
 rintro d4 ⟨hd4,hB4,hT⟩
 rw [hT] at ho
 clear hgo hT hB3 hd3 hpd3 hB2 hd2 hpd ed ed3 ehi epv el hpv
 have arm: ∀ t:Bool,(decide (a1>0) && !bj d4[a1-1]! d4[pv]!)=t→(decide (a1>0) && !bj d4[a1-1]! d4[pv]!)=t:=fun _ h=>h
 repeat apply ai;rfl
 refine yf 1 (fun _:Unit=> [(0,.slu 0 0 n),(1,.sc (.int .i64 (a1:Int))),(2,.sc (.int .i64 (b1:Int))),(3,.sc (.int .i64 (l2:Int))),(8,.sc (.bool wb)),(9,.sc (.bool wp)),(10,.sc (.int .i64 ((b1-a1:Nat):Int))),(11,.sc (.int .i64 (pv:Int))),(87,.sc (.bool (decide (a1>0) && !bj d4[a1-1]! d4[pv]!)))]) (fun _=> [some (b9 n d4)])
  (fun _=>True) (fun _=>rfl) (fun _=>rfl) (fun _=>rfl) ?_ ?_
 ·intro out
  refine ck (by kernel_rfl) (by kernel_rfl) ?_
  repeat apply aU;rfl
  refine fI rfl rfl rfl rfl ?_ ?_
  all_goals intro h5
  ·have hls_h6:=fS (d4[a1-1]!) (d4[pv]!)
   cases h6:bj (d4[a1-1]!) (d4[pv]!)
   all_goals rw [h6] at hls_h6
   rotate_left
   all_goals(repeat(first|apply aU;rfl|refine bk (aw rfl rfl (.inr (.inl ⟨rfl,(Js _ ⟨(by omega),(by omega)⟩).symm⟩))) rfl rfl rfl ?_|refine cx (g:=fun x:Int=> .int .i64 x) rfl rfl rfl (F.ag _ rfl) rfl (by(omega)) (by(omega)) ?_|refine aJ (q:=a1-1) rfl rfl rfl rfl (F.un _ rfl) (F.sz _ rfl) rfl (by omega) (by omega) (by omega) ?_|refine aJ (q:=pv) rfl rfl rfl rfl (F.un _ rfl) (F.sz _ rfl) rfl (by omega) (by omega) (by omega) ?_|refine b8 rfl rfl rfl (by kernel_rfl) (Ctr.callV (hls_h6) [] rfl (Kn rfl) rfl trivial rfl) ?_))
   ·skip
    refine aA ⟨by kernel_rfl,?_,?_⟩;(focus(repeat(first|exact Kz|apply fw;rfl|apply eL;rfl|refine⟨.inr (by(repeat(refine⟨(by first|exact aQ (F.un _ rfl) (F.sz _ rfl) rfl rfl rfl (by omega) (by omega) (by omega)|exact aw rfl rfl (.inr (.inl ⟨rfl,(Js _ ⟨by omega,by omega⟩).symm⟩))),?_⟩));exact Kz),?_⟩|refine⟨.inl (by kernel_rfl),?_⟩)))
    have e5:(decide (a1>0) && !bj d4[a1-1]! d4[pv]!)=false:=by simp [h6]
    rw [e5] at out
    repeat refine out _ _ _ () [] trivial ?_;(exact Kx rfl rfl rfl ⟨aB rfl,trivial⟩)
   ·skip
    refine aA ⟨by kernel_rfl,?_,?_⟩;(focus(repeat(first|exact Kz|apply fw;rfl|apply eL;rfl|refine⟨.inr (by(repeat(refine⟨(by first|exact aQ (F.un _ rfl) (F.sz _ rfl) rfl rfl rfl (by omega) (by omega) (by omega)|exact aw rfl rfl (.inr (.inl ⟨rfl,(Js _ ⟨by omega,by omega⟩).symm⟩))),?_⟩));exact Kz),?_⟩|refine⟨.inl (by kernel_rfl),?_⟩)))
    have e5:(decide (a1>0) && !bj d4[a1-1]! d4[pv]!)=true:=by
     have:0<a1:=by omega
     simp [this,h6]
    rw [e5] at out
    repeat refine out _ _ _ () [] trivial ?_;(exact Kx rfl rfl rfl ⟨aB rfl,trivial⟩)
  ·repeat first|apply aU;rfl|refine cv rfl rfl ?_
   refine aA ⟨by kernel_rfl,?_,?_⟩;(focus(repeat(first|exact Kz|apply AS;rfl|apply eL;rfl|refine⟨.inl rfl,?_⟩)))
   have e5:(decide (a1>0) && !bj d4[a1-1]! d4[pv]!)=false:=by
    have: ¬ 0<a1:=by omega
    simp [this]
   rw [e5] at out
   repeat refine out _ _ _ () [] trivial ?_;(exact Kx rfl rfl rfl ⟨aB rfl,trivial⟩)
 rintro _ -
 cases h7:(decide (a1>0) && !bj d4[a1-1]! d4[pv]!)
 ·have hps:=sV n a1 b1 pv d4 (by omega) hd4 hpv1.1 hpv1.2 hb1
  obtain⟨mid,ap,d5,hx⟩: ∃ mid ap,∃ d5,Sort.partition bj d4 a1 b1 pv=(mid,ap,d5):=⟨_,_,_,rfl⟩
  obtain⟨g1,g2,g3,g4,g5,g6,g7⟩:=Sort.round_part xA (Sort.partition_holds bj) hpv1.1 hpv1.2 (by omega) hB4 hx
  rw [hx] at hps
  simp only at hps
  have hd5:d5.size=n:=by rw [g3];exact hd4
  repeat first|apply ai;rfl|apply aL;rfl;omega;omega|refine cd (p9 rfl rfl (by omega) (jC (by omega) (by omega) (by omega))) rfl rfl rfl ?_|refine ci rfl rfl rfl (by kernel_rfl) (Ctr.dO (hps) [0] rfl (Kn rfl) rfl ⟨aB rfl,trivial⟩ rfl (by repeat(first|exact Kz|refine⟨bJ,?_⟩)) (fun _=>rfl) rfl rfl) ?_
  refine bh rfl rfl rfl rfl ?_ ?_
  all_goals intro h8
  ·rw [sO (by rw [h7];decide) hx ⟨g1,g2⟩ (by omega)] at ho
   have hrec:=ihk (mid-a1) (by omega) a1 mid l2 d5 rfl g1 (by omega) hd5 hl2 g4
   have hL:=Sort.pdq_sorts bj xA d5 a1 mid l2 true true g1 (by omega) g4
   have hB6:=(g6 _ hL.1 hL.2).1
   have hd6:(Sort.pdq bj d5 a1 mid l2 true true).size=n:=by rw [hL.1.1];exact hd5
   generalize Sort.pdq bj d5 a1 mid l2 true true=d6 at hrec hB6 hd6 ho
   clear hL g6 g7 hps hpr
   repeat first|apply ai;rfl|apply aL;rfl;omega;omega|refine ci rfl rfl rfl (by kernel_rfl) (Ctr.dO (hrec) [0] rfl (Kn rfl) rfl ⟨aB rfl,trivial⟩ rfl (by repeat(first|exact Kz|refine⟨bJ,?_⟩)) (fun _=>rfl) rfl rfl) ?_|refine cd (dl rfl rfl (.inr (.inr (.inr (.inr (.inr (⟨rfl,rfl⟩))))))) rfl rfl rfl ?_
   refine ih _ _ _ (((mid+1,b1),l2),((decide (mid-a1≥(b1-a1) / 8),ap),d6)) [] ⟨by simp only;omega,hb1,by simp only;omega,hd6,hl2,hB6,ho⟩ (by simp only;omega) ?_
   have eb:decide ((mid:Int)-(a1:Int)≥((b1-a1:Nat):Int) / 8)=decide (mid-a1≥(b1-a1) / 8):=by
    rw [Bool.eq_iff_iff,Km,Km]
    omega
   rw [← eb]
   (exact Kx rfl rfl rfl ⟨aB rfl,trivial⟩)
  ·rw [qX (by rw [h7];decide) hx ⟨g1,g2⟩ (by omega)] at ho
   have hrec:=ihk (b1-(mid+1)) (by omega) (mid+1) b1 l2 d5 rfl (by omega) hb1 hd5 hl2 g5
   have hL:=Sort.pdq_sorts bj xA d5 (mid+1) b1 l2 true true (by omega) (by omega) g5
   have hB6:=(g7 _ hL.1 hL.2).1
   have hd6:(Sort.pdq bj d5 (mid+1) b1 l2 true true).size=n:=by rw [hL.1.1];exact hd5
   generalize Sort.pdq bj d5 (mid+1) b1 l2 true true=d6 at hrec hB6 hd6 ho
   clear hL g6 g7 hps hpr
   have emid:((mid:Int)+1)=((mid+1:Nat):Int):=by omega
   repeat first|apply ai;rfl|apply aL;rfl;omega;omega|refine cd (dl rfl rfl (.inr (.inr (.inr (.inr (.inr (⟨rfl,rfl⟩))))))) rfl rfl rfl ?_
   rw [emid]
   repeat first|apply ai;rfl|refine ci rfl rfl rfl (by kernel_rfl) (Ctr.dO (hrec) [0] rfl (Kn rfl) rfl ⟨aB rfl,trivial⟩ rfl (by repeat(first|exact Kz|refine⟨bJ,?_⟩)) (fun _=>rfl) rfl rfl) ?_
   refine ih _ _ _ (((a1,mid),l2),((decide (b1-mid≥(b1-a1) / 8),ap),d6)) [] ⟨g1,by simp only;omega,by simp only;omega,hd6,hl2,hB6,ho⟩ (by simp only;omega) ?_
   have eb:decide ((b1:Int)-(mid:Int)≥((b1-a1:Nat):Int) / 8)=decide (b1-mid≥(b1-a1) / 8):=by
    rw [Bool.eq_iff_iff,Km,Km]
    omega
   rw [← eb]
   (exact Kx rfl rfl rfl ⟨aB rfl,trivial⟩)
 ·have h7':=h7
  rw [JJ,Km,Bool.not_eq_true'] at h7'
  have hps:=pS n a1 b1 pv d4 (by omega) hd4 hpv1.1 hpv1.2 hb1
  obtain⟨mid,d5,hx⟩: ∃ mid,∃ d5,Sort.partitionEqual bj d4 a1 b1 pv=(mid,d5):=⟨_,_,rfl⟩
  obtain⟨g1,g2,g3,g4,_⟩:=Sort.round_eq xA (Sort.partitionEqual_holds bj) h7'.1 hpv1.1 hpv1.2 (by omega) hB4 h7'.2 hx
  rw [hx] at hps
  simp only at hps
  rw [xB h7 hx ⟨g1,g2⟩] at ho
  repeat first|apply ai;rfl|refine ci rfl rfl rfl (by kernel_rfl) (Ctr.dO (hps) [0] rfl (Kn rfl) rfl ⟨aB rfl,trivial⟩ rfl (by repeat(first|exact Kz|refine⟨bJ,?_⟩)) (fun _=>rfl) rfl rfl) ?_
  refine ih _ _ _ (((mid,b1),l2),((wb,wp),d5)) [] ⟨g2,hb1,by simp only;omega,by rw [g3];exact hd4,hl2,g4,ho⟩ (by simp only;omega) ?_
  (exact Kx rfl rfl rfl ⟨aB rfl,trivial⟩)
end
end Go.Proofs.YtnhmbonmlfeifaaGreat
end
section
namespace Go.Proofs.YtnhmbonmlfeifaaGreat
open Go Go.Sy Go.Sl Go.RowKit
section
variable {H:au}{b n nx o:Nat}{V:Type}{p:List UInt8}
theorem oZ{A:Type}: ∀ (l m:List A),l.Nodup→(∀ x∈l,x∈m)→l.length≤m.length
 | [],m,_,_=>JL _
 | x :: l,m,hn,hs=>by
   obtain⟨a,b,rfl⟩:=List.append_of_mem (hs x (by simp))
   rw [List.nodup_cons] at hn
   have:=oZ l (a ++ b) hn.2 fun y hy=>by
    have:=hs y (J4 _ hy)
    rcases List.mem_append.1 this with h|h
    ·exact List.mem_append_left _ h
    ·rcases Ka.1 h with rfl|h
     ·exact absurd hy hn.1
     ·exact List.mem_append_right _ h
   simp only [JN,JO] at this ⊢
   omega
abbrev rM:Int→List Value:=fun x:Int=> [.int .i64 x]
theorem tG:RecOf rM 1:=y6 (fun _=>rfl)
abbrev iQ(ro:Bool)(l:List Int):VO:=dat ro l.length 1 3 (l.flatMap rM)
theorem xN(val:V→SV)(m:List (Int×V×Nat))(c:Nat):Fnc Tryz.prog 52 [.mp b] H nx
 (fun r=>r=(.fn (.func 96) [] [.ptr nx 0],H.set nx (ar 109 [.mp b]),nx+1)):=by
 refine Kp Tryz.func52 rfl rfl ?_
 repeat apply ai;rfl
 apply bn Tryz.func52 (congrArg Array.toList Tryz.results52)
 ·repeat first|exact Kq|apply Ks rfl
 rfl
theorem collI(val:V→SV)(m:List (Int×V×Nat))(c:Nat)(hok:KOk m c)(hl:m.length<1000000){bx:Nat}(hbx:H.at' bx=some (ar 109 [.mp b]))(hb:H.at' b=some (gg (fun x:Int=> .int .i64 x) val m c))(g1:bx<nx)(g2:b<nx) :
 Fnc Tryz.prog 95 [.fn (.func 96) [] [.ptr bx 0]] H nx
  (fun r=> ∃ (done:List (Int×V×Nat)) (nm:Nat),done.Perm m∧r.1 = .slu nm 0 (done.map (·.1)).length∧nx≤nm∧nm<r.2.2∧r.2.1.at' nm=some (iQ false (done.map (·.1)))∧ ∀ n,n<nx→r.2.1.at' n=H.at' n):=by
 refine Kp Tryz.func95 rfl rfl ?_
 repeat apply ai;rfl
 refine aI rfl rfl rfl (by kernel_rfl) ?_
 refine Kp Tryz.func106 rfl rfl ?_
 refine iX (d:=0) 1 3 rfl rfl ?_
 repeat apply ai;rfl
 refine iW [(2,.ptr (nx+1) 0)] rfl rfl (by kernel_rfl) (Kv ⟨rfl,trivial⟩) ?_
 intro cA cB hcA hcB
 refine Kp Tryz.func96 rfl rfl ?_
 repeat first|apply ai;rfl|apply aH;rfl;(focus((repeat(first|assumption|refine ab (by omega) ?_));done));rfl|refine Dz (b:=b) (m:=m) (c:=c) (enc:=fun x:Int=> .int .i64 x) (val:=val) rfl rfl rfl (F.un _ rfl) (by repeat(first|assumption|refine ab (by omega) ?_)) ?_
 refine bu (α:=List (Int×V×Nat)) (fun _=> [(0,.yld (nx+1+1+1)),(1,.ptr bx 0),(5,.ptr (nx+1+1+1+1) 0)]) (fun done H1 nx1=>(done.Nodup∧ ∀ x∈done,x∈m)∧nx+1+1+1+1+1≤nx1∧(∀ n,n<nx→H1.at' n=H.at' n)∧H1.at' (nx+1+1)=some (.dfd (some []))∧H1.at' (nx+1+1+1)=some (.loop .ready none 106 13 (slT [(2,.ptr (nx+1) 0)]) #[7] cA cB (nx+1+1))
  ∧ H1.at' (nx+1+1+1+1)=some (itV b c done)∧ ∃ r,r<nx1∧(r=nx∨nx+1+1+1+1+1≤r)∧H1.at' (nx+1)=some (ar 113 [.slu r 0 (done.map (·.1)).length])∧H1.at' r=some (iQ false (done.map (·.1)))) (fun done=>m.length-done.length) []
  ⟨⟨List.nodup_nil,fun _ h=>by cases h⟩,JK _,fun n hn=>by(repeat(refine ab (by omega) ?_));rfl,by repeat(first|exact ac|refine ab (by omega) ?_),by repeat(first|exact ac|refine ab (by omega) ?_),by repeat(exact ac),nx,by omega,.inl rfl,by repeat(first|exact ac|refine ab (by omega) ?_),by repeat(first|exact ac|refine ab (by omega) ?_)⟩ (Kv ⟨rfl,rfl,rfl,trivial⟩) ?_
 rintro done H1 nx1 ⟨hdn,hnx,hold,h4,h5,h6,r,hr,hr2,h3,hrow⟩ ih
 have hlen:=oZ done m hdn.1 hdn.2
 have hb1:H1.at' b=some (gg (fun x:Int=> .int .i64 x) val m c):=(hold b g2).trans hb
 have hbx1:H1.at' bx=some (ar 109 [.mp b]):=(hold bx g1).trans hbx
 repeat apply ai;rfl
 refine G0 (b:=b) (m:=m) (c:=c) (enc:=fun x:Int=> .int .i64 x) (val:=val) (done:=done) rfl rfl rfl ?_ ?_ hok hdn ?_ ?_
 ·assumption
 ·assumption
 ·intro hp
  repeat apply ai;rfl
  apply qD Tryz.func96 (congrArg Array.toList Tryz.results96) Kq
  dsimp only
  refine iz h5 (fun h=>by cases h) ?_
  repeat first|apply ai;rfl|apply aH;rfl;(focus((repeat(first|assumption|refine ab (by omega) ?_));done));rfl
  refine rV Tryz.func106 (congrArg Array.toList Tryz.results106) (rs:= [nx+1+1]) rfl (fun r hr=>by rw [J1] at hr;subst hr;(focus((repeat(first|assumption|refine ab (by omega) ?_));done))) (by simp) ?_
  intro H2 hH2
  refine⟨_,(by(repeat(first|exact Kq|apply Ks rfl))),?_⟩
  dsimp only
  repeat apply ai;rfl
  apply bn Tryz.func95 (congrArg Array.toList Tryz.results95)
  ·repeat first|exact Kq|apply Ks rfl
  refine⟨done,r,hp,rfl,by omega,hr,?_,fun n hn=>?_⟩
  ·exact(hH2 r (by simp;omega)).trans (by repeat(first|assumption|refine ab (by omega) ?_))
  ·refine(hH2 n (by simp;omega)).trans ((aa _ _ (by omega)).trans (hold n hn))
 ·intro x hx hxn hdn2
  have hlm:(done.map (·.1)).length=done.length:=J0 ..
  have hlen2:=oZ _ m hdn2.1 hdn2.2
  rw [JO,List.length_singleton] at hlen2
  repeat first|apply ai;rfl|refine DC (b:=b) (m:=m) (c:=c) (enc:=fun x:Int=> .int .i64 x) (val:=val) (x:=x) (done:=done) rfl rfl rfl ?_ ?_ hok hx ?_;(focus((repeat(exact ac));done));(focus((repeat(first|assumption|refine ab (by omega) ?_));done))
  refine yn (n:=nx+1+1+1) rfl rfl rfl rfl (by repeat(first|assumption|refine ab (by omega) ?_)) (by rfl) ?_
  refine nw hcA ?_
  repeat apply ai;rfl
  refine qz (by repeat(first|assumption|refine ab (by omega) ?_)) ?_
  refine nw hcB ?_
  repeat first|apply ai;rfl|apply aH;rfl;(focus((repeat(first|assumption|refine ab (by omega) ?_));done));rfl|refine bq rfl rfl (F.un _ rfl) (F.sz _ rfl) rfl (F.ze _ rfl) rfl rfl rfl rfl rfl ?_
  refine ll (b:=8) (xs:=done.map (·.1)) (a:=x.1) rfl rfl rfl rfl (F.un _ rfl) (.inl ⟨_,F.un _ rfl⟩) (F.sz _ rfl) rfl (by kernel_rfl) (by kernel_rfl) (by repeat(first|assumption|refine ab (by omega) ?_)) (by repeat(exact ac)) (by rfl) (tG) (by omega) (by omega) ?_
  repeat first|apply ai;rfl|apply aH;rfl;(focus((repeat(first|assumption|refine ab (by omega) ?_|refine bQ (by omega) ?_));done));rfl
  refine iy (by repeat(first|exact ac|refine ab (by omega) ?_|refine bQ (by omega) ?_)) ?_
  dsimp only
  repeat apply ai;rfl
  have e:done.map (·.1) ++ [x.1]=(done ++ [x]).map (·.1):=by simp
  refine ih _ _ _ (done ++ [x]) ⟨hdn2,by omega,fun n hn=>?_,by repeat(first|assumption|refine ab (by omega) ?_|refine bQ (by omega) ?_),by repeat(exact ac),by repeat(first|exact ac|refine ab (by omega) ?_|refine bQ (by omega) ?_),nx1+1,by omega,.inr (by omega),?_,?_⟩ (by simp only [JO,List.length_singleton];omega) (Kv ⟨rfl,rfl,rfl,trivial⟩)
  ·(focus((repeat(first|refine ab (by omega) ?_|refine bQ (by omega) ?_));exact hold n hn))
  ·rw [← e]
   (focus((repeat(first|exact ac|refine ab (by omega) ?_));done))
  ·rw [← e]
   (focus((repeat(first|exact ac|refine ab (by omega) ?_));done))
def hU(l:List Int):List Int:=(Sort.sort bj l.toArray).toList
theorem fR(l:List Int):(hU l).Perm l∧(hU l).Pairwise (fun x y=>bj y x=false):=by
 obtain⟨⟨h1,h2,h3⟩,h4⟩:=Sort.sort_sorts bj xA l.toArray
 have hsz:(Sort.sort bj l.toArray).size=l.length:=by simpa using h1
 constructor
 ·have e1:((Sort.sort bj l.toArray).extract 0 l.toArray.size)=Sort.sort bj l.toArray:=by
   rw [show l.toArray.size=(Sort.sort bj l.toArray).size by simpa using h1.symm]
   exact Array.extract_size
  have e2:(l.toArray.extract 0 l.toArray.size)=l.toArray:=Array.extract_size
  rw [e1,e2] at h3
  exact h3
 ·rw [List.pairwise_iff_getElem]
  intro i j hi hj hij
  have hi':i<(Sort.sort bj l.toArray).size:=hi
  have hj':j<(Sort.sort bj l.toArray).size:=hj
  have:=h4 i j (JL _) hij (by simp;omega)
  rw [getElem!_pos _ i hi',getElem!_pos _ j hj'] at this
  simp only [hU,Array.getElem_toList]
  exact this
theorem jh(l:List Int):(hU l).length=l.length:=(fR l).1.length_eq
theorem vW(n:Nat)(d:Array Int)(hn:n<65536)(hd:d.size=n) :
 Ctr Tryz.prog 53 [.slu 0 0 n] [b9 n d] (fun c=>c=⟨.tup [],[some (b9 n (Sort.sort bj d))]⟩):=by
 have h16:=qt hn
 refine Kp Tryz.func53 rfl rfl ?_
 have hp:=uy n hn n 0 n (Sort.bitsLen n) d rfl (JL _) (JK _) hd (by omega) (.inl rfl)
 have hs:Sort.pdq bj d 0 n (Sort.bitsLen n) true true=Sort.sort bj d:=by unfold Sort.sort;rw [hd]
 rw [hs] at hp
 repeat first|apply ai;rfl|refine cd (bT (F.un _ rfl) (F.un _ rfl) rfl (show _=(n:Int)from Kk _ ⟨by omega,by omega⟩)) rfl rfl rfl ?_|refine oD (wg n hn) [] rfl rfl rfl (by kernel_rfl) rfl (Kn rfl) rfl trivial ?_|refine ci rfl rfl rfl (by kernel_rfl) (Ctr.dO (hp) [0] rfl (Kn rfl) rfl ⟨aB rfl,trivial⟩ rfl (by repeat(first|exact Kz|refine⟨bJ,?_⟩)) (fun _=>rfl) rfl rfl) ?_
 ((apply qD Tryz.func53 (congrArg Array.toList Tryz.results53));(focus(repeat(exact Kq)));refine⟨_,rfl,Ends.mk [] (Kn rfl) rfl rfl ?_⟩)
 exact⟨aB rfl,trivial⟩
theorem BE(val:V→SV)(m:List (Int×V×Nat))(c:Nat)(hok:KOk m c)(hl:m.length<60000){bx:Nat}(hbx:H.at' bx=some (ar 109 [.mp b]))(hb:H.at' b=some (gg (fun x:Int=> .int .i64 x) val m c))(g1:bx<nx)(g2:b<nx) :
 Fnc Tryz.prog 51 [.fn (.func 96) [] [.ptr bx 0]] H nx
  (fun r=> ∃ nm ks,ks.Perm (m.map (·.1))∧ks.Pairwise (fun x y=>bj y x=false)∧r.1 = .slu nm 0 ks.length∧nx≤nm∧nm<r.2.2∧r.2.1.at' nm=some (iQ false ks)∧ ∀ n,n<nx→r.2.1.at' n=H.at' n):=by
 refine Kp Tryz.func51 rfl rfl ?_
 repeat apply ai;rfl
 refine aI rfl rfl rfl (by kernel_rfl) (Ko (collI val m c hok (by omega) hbx hb g1 g2) ?_)
 rintro⟨_,H1,n1⟩ ⟨done,nm,hp,rfl,h1,h2,h3,h4⟩
 dsimp only at h1 h2 h3 h4 ⊢
 have hpm:(done.map (·.1)).Perm (m.map (·.1)):=hp.map _
 have hlen:(done.map (·.1)).length=m.length:=by rw [hpm.length_eq,J0]
 generalize done.map (·.1)=ks at h3 hlen hpm ⊢
 have h3':H1.at' nm=some (b9 ks.length ks.toArray):=h3
 have hs:=vW ks.length ks.toArray (by omega) (by simp)
 have hrow:b9 ks.length (Sort.sort bj ks.toArray)=iQ false (hU ks):=by
  have:(hU ks).length=ks.length:=jh ks
  show dat false ks.length 1 3 _=dat false (hU ks).length 1 3 _
  rw [this]
  rfl
 have hsl:=jh ks
 rw [hrow] at hs
 repeat apply ai;rfl
 (refine aI rfl rfl rfl (by kernel_rfl) (Ctr.Dj (hs) [nm] rfl ⟨by intro n hn;simp at hn;omega,by simp;try omega⟩ rfl (by repeat(first|exact Kz|refine⟨aB (by assumption),?_⟩)) ?_);rintro _ rfl;refine⟨_,0,[nm],[some _],rfl,(by repeat(first|exact Kz|refine⟨oO _ _ _ _ _ _,?_⟩)),rfl,rfl,?_⟩;dsimp only [wrL])
 repeat apply ai;rfl
 (apply bP Tryz.func51 Tryz.results51;rfl)
 rw [← hsl]
 exact⟨nm,_,(fR ks).1.trans hpm,(fR ks).2,rfl,h1,h2,ah _ _ _,fun n hn=>(aa _ _ (by omega)).trans (h4 n hn)⟩
abbrev jT(S:List Nat):List Int:=S.map fun n:Nat=>(n:Int)
abbrev qh(l:List Int):VO:=iQ false l
theorem Aq(hp:p.length=1024)(k:Nat):(gP p k).1.length=1024:=by
 unfold gP
 split
 ·exact aj
 ·rename_i h1
  have hr:bl p=true:=by cases h:bl p with|true=>rfl|false=>exact absurd h h1
  split
  ·exact aj
  ·rename_i h2
   have hok:=(bw hp).1 hr
   have hk:jB p k=true:=by
    cases h3:jB p k with
    | true=>rfl
    | false=>exact absurd (by rw [pd h3];decide) h2
   have:=J7 hk
   exact(pq hok this.1 this.2).ok.len
theorem wj: ∀ l:List Int,l.flatMap rM=l.map fun x=>Value.int .i64 x
 | []=>rfl
 | a :: l=>by rw [List.flatMap_cons,JM,wj l];rfl
theorem rh{l:List Int}{i:Nat}(hi:i<l.length):(qh l).cell (i*1)=some (.sc (.int .i64 l[i])):=by
 refine gi (by omega) ?_
 rw [Nat.mul_one,wj,Kc,Ju hi]
 rfl
theorem ym{r:Nat}{S:List Nat}(hp:p.length=1024)(hrow:H.at' r=some (qh (jT S)))(hS:S.length≤100000):Fnc Tryz.prog 56 [.agg (pgS p),.slu r 0 S.length] H nx
 (fun q=>q.1=pgE (rZ S p)∧nx≤q.2.2∧ ∀ m,m<nx→q.2.1.at' m=H.at' m):=by
 have hnl:(jT S).length=S.length:=J0 _
 refine Kp Tryz.func56 rfl rfl ?_
 refine aX fun hund=>?_
 have lR:=hund _ _ hrow
 clear hund
 repeat first|refine aZ rfl rfl cj ?_|apply ai;rfl
 refine bu (α:=Nat×List UInt8) (fun x=> [(2,.ptr nx 0),(4,.ptr (nx+1) 0),(10,.slu r 0 S.length),(11,.sc (.int .i64 (S.length:Int))),(12,.sc (.int .i64 (x.1:Int)))])
  (fun x H1 n1=>x.1≤S.length∧rZ (S.drop x.1) x.2=rZ S p∧x.2.length=1024∧nx+1+1≤n1∧H1.at' nx=some (pgO x.2)∧H1.at' (nx+1)=some (pgO zeroP)∧ ∀ m,m<nx→H1.at' m=H.at' m) (fun x=>S.length-x.1) (0,p)
  ⟨JL _,rfl,hp,JK _,by repeat(first|exact ac|refine ab (by omega) ?_),by repeat(exact ac),fun m hm=>by(repeat(refine ab (by omega) ?_));rfl⟩ (Kv (Ky rfl)) ?_
 rintro⟨i,x⟩ H1 n1 ⟨i1,i2,i3,i4,i5,i6,i7⟩ ih
 dsimp only at i1 i2 i3 i4 i5 i6 i7 ⊢
 have r1:H1.at' r=some (qh (jT S)):=(i7 r lR).trans hrow
 repeat apply ai;rfl
 refine bh rfl rfl rfl rfl (fun h5=>?_) (fun h5=>?_)
 ·have hi:i<S.length:=by omega
  have hc:(qh (jT S)).cell (i*1)=some (.sc (.int .i64 (S[i]:Int))):=by
   have:=rh (l:=jT S) (i:=i) (by omega)
   rwa [List.getElem_map] at this
  have hd:S.drop i=S[i] :: S.drop (i+1):=List.drop_eq_getElem_cons hi
  rw [hd] at i2
  have hds:=fun(H:au) nx=>HX (H:=H) (nx:=nx) (n:=S[i]) i3
  have hdl:=Aq i3 S[i]
  have hgo:rZ (S[i] :: S.drop (i+1)) x=if(gP x S[i]).2≠0 then(zeroP,(gP x S[i]).2) else rZ (S.drop (i+1)) (gP x S[i]).1:=rfl
  rw [i2] at hgo
  generalize gP x S[i]=D at hds hdl hgo
  obtain⟨y,e⟩:=D
  dsimp only at hdl hgo
  by_cases he:e=0
  ·subst he
   rw [JV (fun h=>h rfl)] at hgo
   repeat first|refine di (q:=i) rfl rfl rfl rfl (F.un _ rfl) (F.sz _ rfl) r1 (by omega) (by omega) (by omega) ?_|refine cd (an (F.ag _ rfl) rfl r1 hc) rfl rfl rfl ?_|apply bv i3;rfl;assumption|apply bv hdl;rfl;(focus((repeat(exact ac));done))|apply bE hdl aj;rfl;(focus((repeat(first|exact ac|refine ab (by omega) ?_));done))|apply bE hdl i3;rfl;(focus((repeat(first|assumption|refine ab (by omega) ?_));done))|refine aZ rfl rfl cj ?_|apply ai;rfl|apply aL;rfl;omega;omega|apply bU;rfl;kernel_rfl;exact hds _ _|apply dK;rfl;rfl
   exact ih _ _ _ (i+1,y) ⟨hi,hgo.symm,hdl,by first|omega|(dsimp only;omega),by repeat(exact ac),by repeat(first|assumption|refine ab (by omega) ?_),fun m hm=>by(repeat(refine ab (by omega) ?_));exact i7 m hm⟩ (by dsimp only;omega) (Kv (Ky rfl))
  ·rw [JW he] at hgo
   rw [hgo]
   repeat first|refine di (q:=i) rfl rfl rfl rfl (F.un _ rfl) (F.sz _ rfl) r1 (by omega) (by omega) (by omega) ?_|refine cd (an (F.ag _ rfl) rfl r1 hc) rfl rfl rfl ?_|apply bv i3;rfl;assumption|apply bE hdl aj;rfl;(focus((repeat(exact ac));done))|apply bE aj aj;rfl;(focus((repeat(first|assumption|refine ab (by omega) ?_));done))|refine aZ rfl rfl cj ?_|apply ai;rfl|refine cd (dg ix) rfl rfl rfl ?_|apply bU;rfl;kernel_rfl;exact hds _ _|apply ig;rfl;omega
   ((apply bn Tryz.func56 (congrArg Array.toList Tryz.results56));(focus((apply Kr rfl (Kt (F.ag _ rfl) (by repeat(exact ac)) (bm aj)));(repeat(first|exact Kq|apply Ks rfl)))))
   exact⟨rfl,by first|omega|(dsimp only;omega),fun m hm=>by(repeat(refine ab (by omega) ?_));exact i7 m hm⟩
 ·have hi:i=S.length:=by omega
  subst hi
  rw [List.drop_length] at i2
  have hps:=fun(H:au) nx=>CQ (H:=H) (nx:=nx) i3
  have hpl:=l7 x i3
  have i2:jf x=rZ S p:=i2
  rw [i2] at hps hpl
  generalize rZ S p=W at hps hpl ⊢
  obtain⟨y,e⟩:=W
  dsimp only at hpl
  repeat first|apply bv i3;rfl;assumption|apply bE hpl aj;rfl;assumption|apply ai;rfl|apply bU;rfl;kernel_rfl;exact hps _ _
  ((apply bn Tryz.func56 (congrArg Array.toList Tryz.results56));(focus((apply Kr rfl (Kt (F.ag _ rfl) (by repeat(exact ac)) (bm hpl)));(repeat(first|exact Kq|apply Ks rfl)))))
  exact⟨rfl,by first|omega|(dsimp only;omega),fun m hm=>by(repeat(refine ab (by omega) ?_));exact i7 m hm⟩
abbrev jy:Nat×List Int→SV:=fun v=> .slu v.1 0 v.2.length
abbrev wH:Int→Value:=fun x=> .int .i64 x
abbrev E5(mb:Nat):VO:=ar 109 [.mp mb]
theorem Hf{mb tb nb rv c:Nat}{ks:List Int}{m:List (Int×(Nat×List Int)×Nat)}{S:List Nat}(ht:H.at' tb=some (E5 mb))(hn:H.at' nb=some (intO n))(hmb:H.at' mb=some (gg wH jy m c))(hg:fX m (n:Int)=some (rv,ks))(hrow:H.at' rv=some (qh (jT S)))(hlen:ks.length=S.length)(hS:S.length≤100000)(hp:p.length=1024):Fnc Tryz.prog 55 [.agg (pgS p),.ptr tb 0,.ptr nb 0] H nx
 (fun q=>q.1=pgE (rZ S p)∧nx≤q.2.2∧ ∀ m,m<nx→q.2.1.at' m=H.at' m):=by
 have hwl:=nW S p hp
 refine Kp Tryz.func55 rfl rfl ?_
 refine aX fun hund=>?_
 have l1:=hund _ _ ht
 have l2:=hund _ _ hn
 have l3:=hund _ _ hmb
 have l4:=hund _ _ hrow
 clear hund
 repeat first|refine aZ rfl rfl cj ?_|apply ai;rfl|apply aH;rfl;(focus((repeat(first|assumption|exact ac|refine ab (by omega) ?_));done));rfl|apply bv hp;rfl;(focus((repeat(first|exact ac|refine ab (by omega) ?_));done))
 refine t8 (m:=m) (enc:=wH) (val:=jy) (c:=c) rfl rfl rfl rfl (F.un _ rfl) (gh (F.un _ rfl)) (by repeat(first|assumption|refine ab (by omega) ?_)) hg ?_
 dsimp only [jy]
 rw [hlen]
 refine aI rfl rfl rfl (by kernel_rfl) (Ko (ym (S:=S) (r:=rv) hp (by repeat(first|assumption|refine ab (by omega) ?_)) hS) ?_)
 rintro⟨_,H2,n2⟩ ⟨rfl,g2,g3⟩
 dsimp only at g2 g3 ⊢
 have k1:H2.at' (nx+1)=some (pgO zeroP):=(g3 _ (by omega)).trans (by repeat(exact ac))
 have ko: ∀ m,m<nx→H2.at' m=H.at' m:=fun m hm=>(g3 m (by omega)).trans (by(repeat(refine ab (by omega) ?_));rfl)
 generalize rZ S p=W at hwl ⊢
 obtain⟨y,e⟩:=W
 dsimp only at hwl
 repeat first|apply bE hwl aj;rfl;assumption|apply ai;rfl
 ((apply bn Tryz.func55 (congrArg Array.toList Tryz.results55));(focus((apply Kr rfl (Kt (F.ag _ rfl) (by repeat(exact ac)) (bm hwl)));(repeat(first|exact Kq|apply Ks rfl)))))
 exact⟨rfl,by dsimp only;omega,fun m hm=>by(repeat(refine ab (by omega) ?_));exact ko m hm⟩
theorem sx{a:Nat}:Fnc Tryz.prog 50 [.ptr a 0] H nx (fun q=>q=(.tup [],H,nx)):=by
 refine Kp Tryz.func50 rfl rfl ?_
 repeat first|apply ai;rfl|apply jD;rfl;rfl|refine cd (jK rfl Tryz.underlying20) rfl rfl rfl ?_
 (apply CF Tryz.func50 Tryz.results50;rfl)
 rfl
theorem Ea(h:o+2≤p.length):gT p o=256*(p[o]'(by omega)).toNat+(p[o+1]'(by omega)).toNat:=by
 have hd:(p.drop o).take 2= [p[o]'(by omega),p[o+1]'(by omega)]:=by
  rw [List.drop_eq_getElem_cons (by omega:o<p.length),List.drop_eq_getElem_cons (by omega:o+1<p.length)]
  rfl
 unfold gT
 rw [hd]
 simp [beN]
theorem oY(hp:p.length=1024)(ho:o+2≤1024):Fnc Tryz.prog 76 [.agg (pgS p),.sc (.int .i64 (o:Int))] H nx (fun q=>q=(.sc (.int .i64 (gT p o:Int)),H,nx)):=by
 refine Fnc.bz (Free.sc _) ?_
 refine Kp Tryz.func76 rfl rfl ?_
 repeat apply ai;rfl
 have hb:(H.set nx (pgO p)).at' nx=some (pgO p):=ah _ _ _
 have hc0:(pgO p).cell (0+o*1)=some (.sc (.int .u8 ((p[o]'(by omega)).toNat:Int))):=by rw [JX,Nat.mul_one];exact oe (p:=p) (i:=o) (by omega)
 have hc1:(pgO p).cell (0+(o+1)*1)=some (.sc (.int .u8 ((p[o+1]'(by omega)).toNat:Int))):=by rw [JX,Nat.mul_one];exact oe (p:=p) (i:=o+1) (by omega)
 have ha:=(p[o]'(by omega)).toNat_lt
 have hb2:=(p[o+1]'(by omega)).toNat_lt
 (apply bg;(focus(kernel_rfl));(focus(kernel_rfl)))
 repeat first|apply jl (q:=o);rfl;rfl;rfl;rfl;exact(F.un _ rfl);exact(F.sz _ rfl);(focus(omega));(focus(omega))|apply jl (q:=o+1);rfl;rfl;rfl;rfl;exact(F.un _ rfl);exact(F.sz _ rfl);(focus(omega));(focus(omega))|refine bk (an (F.ag _ rfl) rfl hb hc0) rfl rfl rfl ?_|refine bk (an (F.ag _ rfl) rfl hb hc1) rfl rfl rfl ?_|refine bk (bT (F.un _ rfl) (F.un _ rfl) rfl (show _=(((p[o]'(by omega)).toNat:Nat):Int)from Js _ ⟨by omega,by omega⟩)) rfl rfl rfl ?_|refine bk (bT (F.un _ rfl) (F.un _ rfl) rfl (show _=(((p[o+1]'(by omega)).toNat:Nat):Int)from Js _ ⟨by omega,by omega⟩)) rfl rfl rfl ?_|apply aU;rfl|refine bk (aw rfl rfl (.inl ⟨rfl,(Js _ ⟨(by focus(omega)),(by focus(omega))⟩).symm⟩)) rfl rfl rfl ?_|refine bk (aw rfl rfl (.inr (.inr ⟨rfl,(Js _ ⟨(by focus(omega)),(by focus(omega))⟩).symm⟩))) rfl rfl rfl ?_
 refine aA ⟨by kernel_rfl,?_,?_⟩;(focus(repeat(first|exact Kz|apply gq;rfl;kernel_rfl|refine⟨.inr ⟨0,by kernel_rfl,AllH.all (fun _=>(by(exact aw rfl rfl (.inl ⟨rfl,(Js _ ⟨by omega,by omega⟩).symm⟩)))) _⟩,?_⟩|refine f9 0 rfl (by kernel_rfl) (by(repeat(refine⟨(by first|exact gI (q:=o) rfl rfl (F.un _ rfl) (F.sz _ rfl) (by omega) (by omega)|exact gI (q:=o+1) rfl rfl (F.un _ rfl) (F.sz _ rfl) (by omega) (by omega)|exact an (F.ag _ rfl) rfl hb hc0|exact an (F.ag _ rfl) rfl hb hc1),?_⟩));exact Kz) ?_|apply ml;kernel_rfl)))
 (apply bP Tryz.func76 Tryz.results76;rfl)
 refine⟨?_,JT _,fun m hm=>aa _ _ (by omega)⟩
 rw [Ea (by omega)]
 exact congrArg (fun z:Int=>SV.sc (.int .i64 z)) (by omega)
theorem jX(hp:p.length=1024):Fnc Tryz.prog 77 [.agg (pgS p)] H nx (fun q=>q=(.sc (.int .i64 (aF p:Int)),H,nx)):=by
 refine Fnc.bz (Free.sc _) ?_
 refine Kp Tryz.func77 rfl rfl ?_
 repeat first|apply bv hp;rfl;(focus((repeat(exact ac));done))|apply ai;rfl|apply bU;rfl;kernel_rfl;exact oY (o:=16) hp (by decide)
 (apply bP Tryz.func77 Tryz.results77;rfl)
 exact⟨rfl,JT _,fun m hm=>aa _ _ (by omega)⟩
theorem Bd(h:o+2≤p.length):cp p o n=(p.set o (UInt8.ofNat (n / 256))).set (o+1) (UInt8.ofNat (n % 256)):=by
 have hB:beB n 2= [UInt8.ofNat (n / 256),UInt8.ofNat (n % 256)]:=by
  have h2:UInt8.ofNat (n % 256)=UInt8.ofNat n:=by
   apply UInt8.toNat_inj.1
   simp
  rw [h2]
  simp [beB,List.range_succ]
 refine Kg fun i=>?_
 unfold cp
 rw [cJ (by rw [hB];simpa using h),hB,List.getElem?_set,List.getElem?_set,List.length_set]
 by_cases h1:o+1=i
 ·subst h1
  rw [JW ⟨by omega,by simp⟩,JW rfl,JW (by omega),show o+1-o=1 by omega]
  rfl
 ·rw [JV h1]
  by_cases h2:o=i
  ·subst h2
   rw [JW ⟨by omega,by simp⟩,JW rfl,JW (by omega),Nat.sub_self]
   rfl
  ·rw [JV h2,JV (by simp;omega)]
theorem gV(hp:p.length=1024)(ho:o+2≤1024)(hn:n<65536):Fnc Tryz.prog 93 [.agg (pgS p),.sc (.int .i64 (o:Int)),.sc (.int .i64 (n:Int))] H nx (fun q=>q=(.agg (pgS (cp p o n)),H,nx)):=by
 refine Fnc.bz (Free.agg _) ?_
 refine Kp Tryz.func93 rfl rfl ?_
 repeat first|refine aZ rfl rfl cj ?_|apply ai;rfl|apply aL;rfl;omega;omega|refine cd (p9 rfl rfl (by omega) (jC (by focus(omega)) (by focus(omega)) (by focus(omega)))) rfl rfl rfl ?_|refine cd (bT (F.un _ rfl) (F.un _ rfl) rfl (show _=((UInt8.ofNat (n / 256)).toNat:Int)from xc (n / 256))) rfl rfl rfl ?_
 (apply r6 (c:=((n % 256:Nat):Int));rfl;rfl;rfl;rfl;(focus(decide));rfl)
 repeat refine cd (bT (F.un _ rfl) (F.un _ rfl) rfl (show _=((UInt8.ofNat (n % 256)).toNat:Int)from xc (n % 256))) rfl rfl rfl ?_
 (apply gA (q:=o);rfl;rfl;rfl;rfl;exact(F.un _ rfl);exact(F.sz _ rfl);(focus(omega));(focus(omega)))
 rw [show 0+o*1=o by omega]
 refine dq (cs:=pgS p) rfl rfl rfl (F.sz _ rfl) (by repeat(first|exact ac|refine ab (by omega) ?_)) rfl (Jy (by rw [bf hp];omega)) ?_
 rw [ny]
 have hls:(p.set o (UInt8.ofNat (n / 256))).length=1024:=by rw [List.length_set];exact hp
 (apply gA (q:=o+1);rfl;rfl;rfl;rfl;exact(F.un _ rfl);exact(F.sz _ rfl);(focus(omega));(focus(omega)))
 rw [show 0+(o+1)*1=o+1 by omega]
 refine dq (cs:=pgS (p.set o (UInt8.ofNat (n / 256)))) rfl rfl rfl (F.sz _ rfl) (by repeat(exact ac)) rfl (Jy (by rw [bf hls];omega)) ?_
 rw [ny,←Bd (by omega)]
 have hl:(cp p o n).length=1024:=(bD (by omega)).trans hp
 generalize cp p o n=p2 at hl ⊢
 repeat first|apply bv hl;rfl;(focus((repeat(exact ac));done))|apply bE hl aj;rfl;(focus((repeat(first|exact ac|refine ab (by omega) ?_));done))|apply ai;rfl
 ((apply bn Tryz.func93 (congrArg Array.toList Tryz.results93));(focus((apply Kr rfl (Kt (F.ag _ rfl) (by repeat(exact ac)) (bm hl)));(repeat(exact Kq)))))
 exact⟨rfl,by dsimp only;omega,fun m hm=>by(repeat(refine ab (by omega) ?_));rfl⟩
theorem Eu(k:UInt8):Fnc Tryz.prog 75 [.sc (.int .u8 (k.toNat:Int))] H nx (fun q=>q=(.agg (pgS (eV k)),H,nx)):=by
 refine Fnc.bz (Free.agg _) ?_
 refine Kp Tryz.func75 rfl rfl ?_
 repeat first|refine aZ rfl rfl cj ?_|apply ai;rfl
 (apply gA (q:=12);rfl;rfl;rfl;rfl;exact(F.un _ rfl);exact(F.sz _ rfl);(focus(omega));(focus(omega)))
 refine dq (cs:=pgS zeroP) rfl rfl rfl (F.sz _ rfl) (by repeat(exact ac)) rfl (Jy (by rw [bf aj];decide)) ?_
 rw [ny]
 have hls:(zeroP.set 12 k).length=1024:=by rw [List.length_set];exact aj
 have hl:(eV k).length=1024:=fT k
 have hi:cp (zeroP.set 12 k) 16 1024=eV k:=rfl
 have hw:=fun(H:au) nx=>gV (H:=H) (nx:=nx) (o:=16) (n:=1024) hls (by decide) (by decide)
 rw [hi] at hw
 generalize zeroP.set 12 k=p1 at hls hw ⊢
 generalize eV k=p2 at hl hw ⊢
 repeat first|apply bv hls;rfl;(focus((repeat(exact ac));done))|apply bE hl aj;rfl;(focus((repeat(first|exact ac|refine ab (by omega) ?_));done))|apply ai;rfl|apply bU;rfl;kernel_rfl;exact hw _ _
 ((apply bn Tryz.func75 (congrArg Array.toList Tryz.results75));(focus((apply Kr rfl (Kt (F.ag _ rfl) (by repeat(exact ac)) (bm hl)));(repeat(exact Kq)))))
 exact⟨rfl,by dsimp only;omega,fun m hm=>by(repeat(refine ab (by omega) ?_));rfl⟩
end
end Go.Proofs.YtnhmbonmlfeifaaGreat
end
