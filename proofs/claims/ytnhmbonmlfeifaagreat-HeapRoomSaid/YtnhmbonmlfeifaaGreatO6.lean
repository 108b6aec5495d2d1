import Derived.Sort.AssemblyPlain
import Derived.Sort.LotD5
import Derived.Test.YtnhmbonmlfeifaaGreatO5
set_option linter.unusedVariables false
set_option linter.unusedSimpArgs false
set_option maxRecDepth 100000
set_option maxHeartbeats 0
section
namespace Go.Proofs.YtnhmbonmlfeifaaGreat
open Go Go.Sy Go.Sl Go.RowKit
section
variable {P:Program} {H:au} {T:Tr SV} {nx:Nat}
variable {d:Option Tmp} {ty:TypeId} {pos:String} {af:Array Edge} {gd:Option (Nat×Bool)}
theorem vb{t:TypeId}{x y:Operand}{s:ByteArray}{k:IntKind}{i:Nat}{v:UInt8}(hx:an T x=some (.sc (.string s)))(hy:an T y=some (.sc (.int k (i:Int))))(hu:P.underlying t=some .string)(hv:s[i]? =some v) :
 ReadDoes P T H ⟨d,.index t x y,ty,pos,af,gd⟩ (.sc (.int .u8 v.toNat)):=by
 refine eI fun ev w he=>?_
 have e1:=he x _ hx _ rfl
 have e2:=he y _ hy _ rfl
 simp [execOp,e1,e2,Instr.index,asIntOf,run_underlying hu,hv]
end
theorem aN{A:Type} [Inhabited A](d:Array A)(i j:Nat):(Sort.swp d i j).size=d.size:=by simp [Sort.swp]
theorem Bh{x:Int}{m:Nat}(hx:x=(m:Int)-1)(hm:m<4611686018427387904):IntKind.i64.wrap (x.tdiv 2)=(((m-1) / 2:Nat):Int):=by
 subst hx
 rcases Nat.eq_zero_or_pos m with rfl|h
 ·decide
 ·rw [Int.tdiv_eq_ediv_of_nonneg (by omega),Jd _ ⟨by omega,by omega⟩]
  omega
def Ei:Sort.Hint→Int
 | .unknown=>0
 | .increasing=>1
 | .decreasing=>2
theorem zS{h:Sort.Hint}:(Ei h == 2)=decide (h = .decreasing):=by cases h <;> rfl
theorem Cs{m:Nat}(h:m<2 ^ 64):IntKind.u64.wrap ((m:Nat):Int)=(m:Int):=by
 rw [J5 _ ⟨by omega,by omega⟩]
theorem xorU{a b:Nat}(ha:a<18446744073709551616)(hb:b<18446744073709551616):Ao .xor .u64 (a:Int) (b:Int)=((a ^^^ b:Nat):Int):=by
 show IntKind.u64.wrap (((BitVec.ofInt 64 (a:Int) ^^^ BitVec.ofInt 64 (b:Int)).toNat:Nat):Int)=_
 rw [BitVec.toNat_xor,BitVec.ofInt_natCast,BitVec.ofInt_natCast,BitVec.toNat_ofNat,BitVec.toNat_ofNat,Nat.mod_eq_of_lt ha,Nat.mod_eq_of_lt hb,Cs]
 exact Nat.xor_lt_two_pow ha hb
theorem andU{a b:Nat}(ha:a<18446744073709551616)(hb:b<18446744073709551616):Ao .and .u64 (a:Int) (b:Int)=((a &&& b:Nat):Int):=by
 show IntKind.u64.wrap (((BitVec.ofInt 64 (a:Int) &&& BitVec.ofInt 64 (b:Int)).toNat:Nat):Int)=_
 rw [BitVec.toNat_and,BitVec.ofInt_natCast,BitVec.ofInt_natCast,BitVec.toNat_ofNat,BitVec.toNat_ofNat,Nat.mod_eq_of_lt ha,Nat.mod_eq_of_lt hb,Cs]
 exact Nat.and_lt_two_pow _ hb
theorem sh13(x:Nat):IntKind.u64.wrap ((x:Int)*2 ^ (min (Int.toNat 13) IntKind.u64.bits))=((x*8192 % 18446744073709551616:Nat):Int):=by
 have:(2:Int) ^ (min (Int.toNat 13) IntKind.u64.bits)=8192:=by decide
 rw [this,IntKind.wrap_u64]
 omega
theorem sh17(x:Nat):IntKind.u64.wrap ((x:Int)*2 ^ (min (Int.toNat 17) IntKind.u64.bits))=((x*131072 % 18446744073709551616:Nat):Int):=by
 have:(2:Int) ^ (min (Int.toNat 17) IntKind.u64.bits)=131072:=by decide
 rw [this,IntKind.wrap_u64]
 omega
theorem sh7(x:Nat):Int.fdiv (x:Int) (2 ^ (min (Int.toNat 7) IntKind.u64.bits))=((x / 128:Nat):Int):=by
 have:(2:Int) ^ (min (Int.toNat 7) IntKind.u64.bits)=128:=by decide
 rw [this,Int.fdiv_eq_ediv_of_nonneg _ (by decide)]
 omega
theorem sh8(x:Nat):Int.fdiv (x:Int) (2 ^ (min (Int.toNat 8) IntKind.u64.bits))=((x / 256:Nat):Int):=by
 have:(2:Int) ^ (min (Int.toNat 8) IntKind.u64.bits)=256:=by decide
 rw [this,Int.fdiv_eq_ediv_of_nonneg _ (by decide)]
 omega
abbrev xsO(x:Nat):VO:=ar 185 [.sc (.int .u64 (x:Int))]
theorem zr(x:Nat)(hx:x<18446744073709551616):Ctr Tryz.prog 120 [.ptr 0 0] [xsO x] (fun c=>c=⟨.sc (.int .u64 (Sort.xorNextN x:Int)),[some (xsO (Sort.xorNextN x))]⟩):=by
 have hA:x ^^^ (x*8192 % 18446744073709551616)<18446744073709551616:=Nat.xor_lt_two_pow (n:=64) (by omega) (by omega)
 have eA:=xorU (a:=x) (b:=x*8192 % 18446744073709551616) hx (by omega)
 have eC:Sort.xorNextN x=Sort.xorNextN x:=rfl
 conv at eC=>rhs;unfold Sort.xorNextN
 simp only at eC
 generalize x ^^^ (x*8192 % 18446744073709551616)=A at hA eA eC
 have hB:A ^^^ (A / 128)<18446744073709551616:=Nat.xor_lt_two_pow (n:=64) (by omega) (by omega)
 have eB:=xorU (a:=A) (b:=A / 128) hA (by omega)
 generalize A ^^^ (A / 128)=B at hB eB eC
 have eD:=xorU (a:=B) (b:=B*131072 % 18446744073709551616) hB (by omega)
 rw [← eC] at eD
 refine Ka Tryz.func120 rfl rfl ?_
 repeat apply ai;rfl
 refine cj (by kernel_rfl) (by kernel_rfl) ?_
 repeat first|apply aS;rfl|refine bj (am (F.ag _ rfl) rfl rfl (aB rfl)) rfl rfl rfl ?_|refine dQ rfl rfl rfl (F.sz _ rfl) rfl rfl rfl ?_|refine bj (sh rfl rfl (by decide) (sh13 x)) rfl rfl rfl ?_|refine bj (mJ rfl rfl (.inr (.inr (.inl rfl))) eA) rfl rfl rfl ?_
 refine aA ⟨by kernel_rfl,?_,?_⟩;(focus(repeat(first|exact Kk|apply fv;rfl|apply eK;rfl|refine⟨.inl (by kernel_rfl),?_⟩)))
 repeat apply ai;rfl
 refine cj (by kernel_rfl) (by kernel_rfl) ?_
 repeat first|apply aS;rfl|refine bj (am (F.ag _ rfl) rfl rfl (aB rfl)) rfl rfl rfl ?_|refine dQ rfl rfl rfl (F.sz _ rfl) rfl rfl rfl ?_|refine bj (oy rfl rfl (by decide) (sh7 A)) rfl rfl rfl ?_|refine bj (mJ rfl rfl (.inr (.inr (.inl rfl))) eB) rfl rfl rfl ?_
 refine aA ⟨by kernel_rfl,?_,?_⟩;(focus(repeat(first|exact Kk|apply fv;rfl|apply eK;rfl|refine⟨.inl (by kernel_rfl),?_⟩)))
 repeat apply ai;rfl
 refine cj (by kernel_rfl) (by kernel_rfl) ?_
 repeat first|apply aS;rfl|refine bj (am (F.ag _ rfl) rfl rfl (aB rfl)) rfl rfl rfl ?_|refine dQ rfl rfl rfl (F.sz _ rfl) rfl rfl rfl ?_|refine bj (sh rfl rfl (by decide) (sh17 B)) rfl rfl rfl ?_|refine bj (mJ rfl rfl (.inr (.inr (.inl rfl))) eD) rfl rfl rfl ?_
 refine aA ⟨by kernel_rfl,?_,?_⟩;(focus(repeat(first|exact Kk|apply fv;rfl|apply eK;rfl|refine⟨.inl (by kernel_rfl),?_⟩)))
 repeat first|apply ai;rfl|apply aG;rfl;(focus((repeat(exact ae));done));rfl
 ((apply bm Tryz.func120 (congrArg Array.toList Tryz.results120));(focus(repeat(first|exact Kb|apply Kd rfl)));refine⟨_,rfl,Ends.mk [] (J8 rfl) rfl rfl ?_⟩)
 exact(by repeat(first|exact Kk|refine⟨fy rfl,?_⟩))
def GQ(s:ByteArray):Bool:=(List.range 256).all fun i=>match s[i]? with
 | some v=>v.toNat == Sort.bitsLen i
 | none=>false
theorem Cu{s:ByteArray}(h:GQ s=true){i:Nat}(hi:i<256):s[i]? =some (UInt8.ofNat (Sort.bitsLen i)):=by
 unfold GQ at h
 rw [List.all_eq_true] at h
 have:=h i (J2.2 hi)
 split at this
 ·rename_i v hv
  rw [hv,←(beq_iff_eq.1 this),UInt8.ofNat_toNat]
 ·cases this
theorem B2(x:Nat)(h:256≤x):Sort.bitsLen x=8+Sort.bitsLen (x / 256):=by
 have key: ∀ k,Sort.bitsLen (x / 256)≤k↔Sort.bitsLen x≤k+8:=fun k=>by
  rw [Sort.bitsLen_le_iff,Sort.bitsLen_le_iff,Nat.pow_add,Nat.div_lt_iff_lt_mul (by decide)]
 have h8: ¬ Sort.bitsLen x≤7:=by
  rw [Sort.bitsLen_le_iff]
  omega
 have h1:=(key (Sort.bitsLen (x / 256))).1 (Jv _)
 have h2:=(key (Sort.bitsLen x-8)).2 (by omega)
 omega
theorem qf{x:Nat}(h:x<65536):Sort.bitsLen x≤16:=(Sort.bitsLen_le_iff x 16).2 h
theorem GP{x:Nat}(h:x<65536):IntKind.i64.wrap (((UInt8.ofNat (Sort.bitsLen x)).toNat:Nat):Int)=(Sort.bitsLen x:Int):=by
 have:=qf h
 rw [UInt8.toNat_ofNat',Nat.mod_eq_of_lt (by omega),Jd _ ⟨by omega,by omega⟩]
theorem xi(x:Nat)(hx:x<65536):Ctr Tryz.prog 117 [.sc (.int .u64 (x:Int))] [] (fun c=>c=⟨.sc (.int .i64 (Sort.bitsLen x:Int)),[]⟩):=by
 have h16:=qf hx
 refine Ka Tryz.func117 rfl rfl ?_
 repeat apply ai;rfl
 refine eN rfl rfl rfl rfl ?_ ?_
 all_goals intro h1
 ·exact absurd h1 (by omega)
 repeat apply ai;rfl
 refine eN rfl rfl rfl rfl ?_ ?_
 all_goals intro h2
 ·exact absurd h2 (by omega)
 repeat apply ai;rfl
 refine eN rfl rfl rfl rfl ?_ ?_
 all_goals intro h3
 ·have h17:=qf (x:=x / 256) (by omega)
  repeat first|apply ai;rfl|apply aL;rfl;omega;omega|refine cd (oy rfl rfl (by decide) (sh8 x)) rfl rfl rfl ?_|refine cd (bR (F.un _ rfl) (F.un _ rfl) rfl (show _=((x / 256:Nat):Int)from Go.IntWalk.u8_in _ ⟨by omega,by omega⟩)) rfl rfl rfl ?_|refine cd (vb rfl rfl (F.un _ rfl) (Cu (by kernel_rfl) (show x / 256<256 by omega))) rfl rfl rfl ?_|refine cd (bR (F.un _ rfl) (F.un _ rfl) rfl (GP (x:=x / 256) (by omega))) rfl rfl rfl ?_
  rw [B2 x (by omega)]
  (apply bP Tryz.func117 Tryz.results117;rfl)
  (refine⟨_,rfl,Ends.val (J8 rfl) rfl ?_ ?_⟩)
  ·simp
  ·trivial
 ·repeat first|apply ai;rfl|apply aL;rfl;omega;omega|refine cd (bR (F.un _ rfl) (F.un _ rfl) rfl (show _=(x:Int)from Go.IntWalk.u8_in _ ⟨by omega,by omega⟩)) rfl rfl rfl ?_|refine cd (vb rfl rfl (F.un _ rfl) (Cu (by kernel_rfl) (show x<256 by omega))) rfl rfl rfl ?_|refine cd (bR (F.un _ rfl) (F.un _ rfl) rfl (GP (x:=x) (by omega))) rfl rfl rfl ?_
  (apply bP Tryz.func117 Tryz.results117;rfl)
  (refine⟨_,rfl,Ends.val (J8 rfl) rfl ?_ ?_⟩)
  ·simp
  ·trivial
theorem vS(x:Nat)(hx:x<65536):Ctr Tryz.prog 98 [.sc (.int .u64 (x:Int))] [] (fun c=>c=⟨.sc (.int .i64 (Sort.bitsLen x:Int)),[]⟩):=by
 refine Ka Tryz.func98 rfl rfl ?_
 repeat first|apply ai;rfl|refine og (xi x hx) [] rfl rfl rfl (by kernel_rfl) rfl (J8 rfl) rfl trivial ?_
 (apply bP Tryz.func98 Tryz.results98;rfl)
 (refine⟨_,rfl,Ends.val (J8 rfl) rfl ?_ ?_⟩)
 ·rfl
 ·trivial
theorem G9{k:Nat}(h:k≤16):IntKind.u64.wrap ((1:Int)*2 ^ (min (Int.toNat (k:Int)) IntKind.u64.bits))=((2 ^ k:Nat):Int):=by
 have: ∀ k:Fin 17,IntKind.u64.wrap ((1:Int)*2 ^ (min (Int.toNat (k.val:Int)) IntKind.u64.bits))=((2 ^ k.val:Nat):Int):=by decide
 exact this ⟨k,by omega⟩
theorem yX(x:Nat)(hx:x<65536):Ctr Tryz.prog 119 [.sc (.int .i64 (x:Int))] [] (fun c=>c=⟨.sc (.int .u64 ((2 ^ Sort.bitsLen x:Nat):Int)),[]⟩):=by
 refine Ka Tryz.func119 rfl rfl ?_
 repeat first|apply ai;rfl|refine cd (bR (F.un _ rfl) (F.un _ rfl) rfl (show _=(x:Int)from J5 _ ⟨by omega,by omega⟩)) rfl rfl rfl ?_|refine og (vS x hx) [] rfl rfl rfl (by kernel_rfl) rfl (J8 rfl) rfl trivial ?_|refine cd (sh rfl rfl (by omega) (G9 (qf hx))) rfl rfl rfl ?_
 (apply bP Tryz.func119 Tryz.results119;rfl)
 (refine⟨_,rfl,Ends.val (J8 rfl) rfl ?_ ?_⟩)
 ·rfl
 ·trivial
abbrev oIV:Int→List Value:=fun x=> [.int .i64 x]
abbrev b7(n:Nat)(d:Array Int):VO:=arr false n 1 3 oIV d
def bl(x y:Int):Bool:=decide ((x:Int)<(y:Int))
theorem oInan(a:Int):Ctr Tryz.prog 123 [.sc (.int .i64 a)] [] (fun c=>c=⟨.sc (.bool false),[]⟩):=by
 refine Ka Tryz.func123 rfl rfl ?_
 repeat first|apply ai;rfl|refine cd (dg rfl rfl (.inr (.inl ⟨rfl,rfl⟩))) rfl rfl rfl ?_
 (apply bP Tryz.func123 Tryz.results123;rfl)
 (refine⟨_,rfl,Ends.val (J8 rfl) rfl ?_ ?_⟩)
 ·simp
 ·trivial
theorem fQ(a b:Int):Ctr Tryz.prog 113 [.sc (.int .i64 a),.sc (.int .i64 b)] [] (fun c=>c=⟨.sc (.bool (bl a b)),[]⟩):=by
 refine Ka Tryz.func113 rfl rfl ?_
 repeat first|apply ai;rfl|refine og (oInan _) [] rfl rfl rfl (by kernel_rfl) rfl (J8 rfl) rfl trivial ?_|refine cd (dg rfl rfl (.inr (.inr (.inl ⟨rfl,rfl⟩)))) rfl rfl rfl ?_
 (apply bP Tryz.func113 Tryz.results113;rfl)
 (refine⟨_,rfl,Ends.val (J8 rfl) rfl ?_ ?_⟩)
 ·rfl
 ·trivial
theorem oIins(n a b:Nat)(d:Array Int)(hn:n<4611686018427387904)(hd:d.size=n)(hab:a≤b)(hb:b≤n) :
 Ctr Tryz.prog 107 [.slu 0 0 n,.sc (.int .i64 (a:Int)),.sc (.int .i64 (b:Int))] [b7 n d] (fun c=>c=⟨.tup [],[some (b7 n (Sort.insertionSort bl d a b))]⟩):=by
 refine Ka Tryz.func107 rfl rfl ?_
 repeat first|apply ai;rfl|apply aL;rfl;omega;omega
 refine gq 1 (fun s:Nat×Array Int=> [(0,.slu 0 0 n),(1,.sc (.int .i64 (a:Int))),(2,.sc (.int .i64 (b:Int))),(6,.sc (.int .i64 (s.1:Int)))]) (fun s=> [some (b7 n s.2)]) (fun s=>s.1≤n+1∧a<s.1∧s.2.size=n∧Sort.insOuter bl a b s.1 s.2=Sort.insertionSort bl d a b) (fun s=>n+1-s.1) (a+1,d) []
  (fun _=>rfl) ⟨by omega,by omega,hd,rfl⟩ ?_ (fun _=>rfl) (fun _=>rfl) ?_
 ·(exact Ki rfl rfl rfl ⟨aC rfl,trivial⟩)
 rintro⟨i,d1⟩ ⟨hi,hai,hd1,ho⟩ ih
 simp only at hi hai hd1 ho ih ⊢
 repeat apply ai;rfl
 refine bn rfl rfl rfl rfl ?_ ?_
 all_goals intro h1
 ·repeat apply ai;rfl
  have ho2:Sort.insOuter bl a b (i+1) (Sort.insInner bl a i d1)=Sort.insertionSort bl d a b:=by
   rw [← ho]
   conv=>rhs;rw [Sort.insOuter,JH (by omega)]
  refine gq 1 (fun s:Nat×Array Int=> [(0,.slu 0 0 n),(1,.sc (.int .i64 (a:Int))),(2,.sc (.int .i64 (b:Int))),(6,.sc (.int .i64 (i:Int))),(7,.sc (.int .i64 (s.1:Int)))]) (fun s=> [some (b7 n s.2)]) (fun s=>s.1≤i∧s.2.size=n∧Sort.insInner bl a s.1 s.2=Sort.insInner bl a i d1) (fun s=>s.1) (i,d1) []
   (fun _=>rfl) ⟨by omega,hd1,rfl⟩ ?_ (fun _=>rfl) (fun _=>rfl) ?_
  ·(exact Ki rfl rfl rfl ⟨aC rfl,trivial⟩)
  rintro⟨j,d2⟩ ⟨hj,hd2,hin⟩ ihj
  simp only at hj hd2 hin ihj ⊢
  repeat apply ai;rfl
  refine cj (by kernel_rfl) (by kernel_rfl) ?_
  repeat apply aS;rfl
  refine fH rfl rfl rfl rfl ?_ ?_
  all_goals intro h2
  ·obtain⟨j,rfl⟩: ∃ j',j=j'+1:=⟨j-1,by omega⟩
   have hls:=fQ d2[j+1]! d2[j]!
   cases h3:bl d2[j+1]! d2[j]!
   all_goals rw [h3] at hls
   all_goals(repeat(first|apply aS;rfl|refine bj (aw rfl rfl (.inr (.inl ⟨rfl,(Jd _ ⟨(by omega),(by omega)⟩).symm⟩))) rfl rfl rfl ?_|refine aH (q:=j+1) rfl rfl rfl rfl (F.un _ rfl) (F.sz _ rfl) rfl (by omega) (by omega) (by omega) ?_|refine aH (q:=j) rfl rfl rfl rfl (F.un _ rfl) (F.sz _ rfl) rfl (by omega) (by omega) (by omega) ?_|refine cu (g:=fun x:Int=> .int .i64 x) rfl rfl rfl (F.ag _ rfl) rfl (by omega) (by omega) ?_|refine bT rfl rfl rfl (by kernel_rfl) (Ctr.callV (hls) [] rfl (J8 rfl) rfl trivial rfl) ?_))
   ·refine aA ⟨by kernel_rfl,?_,?_⟩;(focus(repeat(first|exact Kk|apply fv;rfl|apply eK;rfl|refine⟨.inr (by(repeat(refine⟨(by first|exact aQ (F.un _ rfl) (F.sz _ rfl) rfl rfl rfl (by omega) (by omega) (by omega)|exact aw rfl rfl (.inr (.inl ⟨rfl,(Jd _ ⟨by omega,by omega⟩).symm⟩))),?_⟩));exact Kk),?_⟩|refine⟨.inl (by kernel_rfl),?_⟩)))
    repeat first|apply ai;rfl|apply aL;rfl;omega;omega
    have hin2:Sort.insInner bl a i d1=d2:=by
     rw [← hin,Sort.insInner,JG (by rw [h3];simp)]
    refine ih _ _ _ (i+1,d2) [] ⟨by omega,by omega,hd2,by rw [← hin2];exact ho2⟩ (by simp only;omega) ?_
    (exact Ki rfl rfl rfl ⟨aC rfl,trivial⟩)
   ·refine aA ⟨by kernel_rfl,?_,?_⟩;(focus(repeat(first|exact Kk|apply fv;rfl|apply eK;rfl|refine⟨.inr (by(repeat(refine⟨(by first|exact aQ (F.un _ rfl) (F.sz _ rfl) rfl rfl rfl (by omega) (by omega) (by omega)|exact aw rfl rfl (.inr (.inl ⟨rfl,(Jd _ ⟨by omega,by omega⟩).symm⟩))),?_⟩));exact Kk),?_⟩|refine⟨.inl (by kernel_rfl),?_⟩)))
    repeat apply ai;rfl
    refine cj (by kernel_rfl) (by kernel_rfl) ?_
    repeat first|apply aS;rfl|refine bj (aw rfl rfl (.inr (.inl ⟨rfl,(Jd _ ⟨(by omega),(by omega)⟩).symm⟩))) rfl rfl rfl ?_|refine aH (q:=j+1) rfl rfl rfl rfl (F.un _ rfl) (F.sz _ rfl) rfl (by omega) (by omega) (by omega) ?_|refine aH (q:=j) rfl rfl rfl rfl (F.un _ rfl) (F.sz _ rfl) rfl (by omega) (by omega) (by omega) ?_|refine cu (g:=fun x:Int=> .int .i64 x) rfl rfl rfl (F.ag _ rfl) rfl (by omega) (by omega) ?_|refine fq (g:=fun x:Int=> .int .i64 x) rfl rfl rfl (fun _=>rfl) (F.sz _ rfl) rfl (by first|omega|(simp only [Je,aN];omega)) (by first|omega|(simp only [Je,aN];omega)) ?_
    refine aA ⟨by kernel_rfl,?_,?_⟩;(focus(repeat(first|exact Kk|apply fv;rfl|apply eK;rfl|refine⟨.inr (by(repeat(refine⟨(by first|exact aQ (F.un _ rfl) (F.sz _ rfl) rfl rfl rfl (by omega) (by omega) (by omega)|exact aw rfl rfl (.inr (.inl ⟨rfl,(Jd _ ⟨by omega,by omega⟩).symm⟩))),?_⟩));exact Kk),?_⟩|refine⟨.inl (by kernel_rfl),?_⟩)))
    repeat first|apply ai;rfl|apply aL;rfl;omega;omega
    refine ihj _ _ _ (j,Sort.swp d2 (j+1) j) [] ⟨by omega,by rw [aN];exact hd2,?_⟩ (by simp only;omega) ?_
    ·rw [← hin]
     conv=>rhs;rw [Sort.insInner,JH (by simp only [h3,Ju,J7,and_true];omega)]
    ·(refine⟨(J8 rfl),rfl,(by repeat(first|exact Kk|refine⟨rfl,?_⟩|refine⟨fO (by(omega)),?_⟩)),⟨aC rfl,trivial⟩⟩)
  ·repeat first|apply aS;rfl|refine cq rfl rfl ?_
   refine aA ⟨by kernel_rfl,?_,?_⟩;(focus(repeat(first|exact Kk|apply AE;rfl|apply eK;rfl|refine⟨.inl rfl,?_⟩)))
   repeat first|apply ai;rfl|apply aL;rfl;omega;omega
   have hin2:Sort.insInner bl a i d1=d2:=by
    rw [← hin]
    cases j with
    | zero=>rfl
    | succ j=>rw [Sort.insInner,JG (by simp only [Ju,J7];omega)]
   refine ih _ _ _ (i+1,d2) [] ⟨by omega,by omega,hd2,by rw [← hin2];exact ho2⟩ (by simp only;omega) ?_
   (exact Ki rfl rfl rfl ⟨aC rfl,trivial⟩)
 ·repeat apply ai;rfl
  have ho2:d1=Sort.insertionSort bl d a b:=by rw [← ho,Sort.insOuter,JG (by omega)]
  (apply qn Tryz.func107 (congrArg Array.toList Tryz.results107);(focus(repeat(exact Kb)));refine⟨_,rfl,Ends.mk [] (J8 rfl) rfl rfl ?_⟩)
  rw [← ho2]
  exact⟨aC rfl,trivial⟩
end Go.Proofs.YtnhmbonmlfeifaaGreat
end
section
namespace Go.Proofs.YtnhmbonmlfeifaaGreat
open Go Go.Sy Go.RowKit
section
variable {a b first hi i i1 i2 j j2 limit mid pivot root s:Nat}{wb wp:Bool}{p:Int→Bool}{d:Array (Int)}{lt:Int→Int→Bool}
theorem jq(lt:Int→Int→Bool)(hi first root:Nat)(d:Array (Int)):(Sort.siftDown lt hi first root d).size=d.size:=by
 induction h:hi-root using Nat.strongRecOn generalizing root d with
 | _ m ih=>
   subst h
   unfold Sort.siftDown
   split
   ·rfl
   ·split
    ·split
     ·rfl
     ·split
      ·rw [ih _ (by omega) _ _ rfl,aN]
      ·rfl
    ·split
     ·rfl
     ·rw [ih _ (by omega) _ _ rfl,aN]
theorem sC(h:hi≤2*root+1):Sort.siftDown lt hi first root d=d:=by
 unfold Sort.siftDown
 rw [dif_pos h]
theorem zm(h:2*root+2<hi)(hl:lt d[first+(2*root+1)]! d[first+(2*root+2)]! =true) :
 Sort.siftDown lt hi first root d=if lt d[first+root]! d[first+(2*root+2)]! =true then Sort.siftDown lt hi first (2*root+2) (Sort.swp d (first+root) (first+(2*root+2))) else d:=by
 conv=>lhs;unfold Sort.siftDown
 rw [dif_neg (by omega),JH (by simp only [Ju,J7];exact⟨by omega,hl⟩)]
 cases lt d[first+root]! d[first+(2*root+2)]!
 ·simp
 ·simp only [Bool.not_true,Bool.false_eq_true,if_false,if_true]
  rw [dif_pos (by omega)]
theorem sD(h:2*root+1<hi)(hl:hi≤2*root+2∨lt d[first+(2*root+1)]! d[first+(2*root+2)]! =false) :
 Sort.siftDown lt hi first root d=if lt d[first+root]! d[first+(2*root+1)]! =true then Sort.siftDown lt hi first (2*root+1) (Sort.swp d (first+root) (first+(2*root+1))) else d:=by
 conv=>lhs;unfold Sort.siftDown
 rw [dif_neg (by omega),JG (by
  simp only [Ju,J7]
  rintro⟨h1,h2⟩
  rcases hl with hl|hl
  ·omega
  ·rw [show first+(2*root+2)=first+(2*root+1)+1 by omega,h2] at hl;cases hl)]
 cases lt d[first+root]! d[first+(2*root+1)]! <;> simp
theorem no(n lo hi first:Nat)(d:Array (Int))(hn:n<4611686018427387904)(hd:d.size=n)(hf:first+hi≤n)(hlo:lo≤n) :
 Ctr Tryz.prog 118 [.slu 0 0 n,.sc (.int .i64 (lo:Int)),.sc (.int .i64 (hi:Int)),.sc (.int .i64 (first:Int))] [b7 n d] (fun c=>c=⟨.tup [],[some (b7 n (Sort.siftDown bl hi first lo d))]⟩):=by
 refine Ka Tryz.func118 rfl rfl ?_
 repeat apply ai;rfl
 refine gq 1 (fun s:Nat×Array (Int)=> [(0,.slu 0 0 n),(2,.sc (.int .i64 (hi:Int))),(3,.sc (.int .i64 (first:Int))),(8,.sc (.int .i64 (s.1:Int)))]) (fun s=> [some (b7 n s.2)]) (fun s=>s.1≤n∧s.2.size=n∧Sort.siftDown bl hi first s.1 s.2=Sort.siftDown bl hi first lo d) (fun s=>n-s.1) (lo,d) []
  (fun _=>rfl) ⟨hlo,hd,rfl⟩ ?_ (fun _=>rfl) (fun _=>rfl) ?_
 ·(exact Ki rfl rfl rfl ⟨aC rfl,trivial⟩)
 rintro⟨r,d1⟩ ⟨hr,hd1,ho⟩ ih
 simp only at hr hd1 ho ih ⊢
 repeat first|apply ai;rfl|apply aL;rfl;omega;omega
 refine eN rfl rfl rfl rfl ?_ ?_
 all_goals intro h1
 ·repeat apply ai;rfl
  ((apply qn Tryz.func118 (congrArg Array.toList Tryz.results118));(focus(repeat(exact Kb)));refine⟨_,rfl,Ends.mk [] (J8 rfl) rfl rfl ?_⟩)
  rw [← ho,sC (by omega)]
  exact⟨aC rfl,trivial⟩
 ·repeat apply ai;rfl
  refine cj (by kernel_rfl) (by kernel_rfl) ?_
  repeat first|apply aS;rfl|refine bj (aw rfl rfl (.inl ⟨rfl,(Jd _ ⟨(by omega),(by omega)⟩).symm⟩)) rfl rfl rfl ?_
  refine cK rfl rfl rfl rfl ?_ ?_
  all_goals intro h2
  ·have hls_h3:=fQ (d1[first+(2*r+1)]!) (d1[first+(2*r+2)]!)
   cases h3:bl (d1[first+(2*r+1)]!) (d1[first+(2*r+2)]!)
   all_goals rw [h3] at hls_h3
   rotate_left
   all_goals(repeat(first|apply aS;rfl|refine bj (aw rfl rfl (.inl ⟨rfl,(Jd _ ⟨(by omega),(by omega)⟩).symm⟩)) rfl rfl rfl ?_|refine cu (g:=fun x:Int=> .int .i64 x) rfl rfl rfl (F.ag _ rfl) rfl (by(omega)) (by(omega)) ?_|refine aH (q:=first+(2*r+1)) rfl rfl rfl rfl (F.un _ rfl) (F.sz _ rfl) rfl (by omega) (by omega) (by omega) ?_|refine aH (q:=first+(2*r+2)) rfl rfl rfl rfl (F.un _ rfl) (F.sz _ rfl) rfl (by omega) (by omega) (by omega) ?_|refine bT rfl rfl rfl (by kernel_rfl) (Ctr.callV (hls_h3) [] rfl (J8 rfl) rfl trivial rfl) ?_))
   ·have e:=zm (lt:=bl) (hi:=hi) (first:=first) (root:=r) (d:=d1) (by omega) (by simpa [bl] using h3)
    refine aA ⟨by kernel_rfl,?_,?_⟩;(focus(repeat(first|exact Kk|apply fv;rfl|apply eK;rfl|refine⟨.inr (by(repeat(refine⟨(by first|exact aQ (F.un _ rfl) (F.sz _ rfl) rfl rfl rfl (by omega) (by omega) (by omega)|exact aw rfl rfl (.inl ⟨rfl,(Jd _ ⟨by omega,by omega⟩).symm⟩)),?_⟩));exact Kk),?_⟩|refine⟨.inl (by kernel_rfl),?_⟩)))
    repeat first|apply ai;rfl|apply aL;rfl;omega;omega
    refine cj (by kernel_rfl) (by kernel_rfl) ?_
    have hls_h4:=fQ (d1[first+r]!) (d1[first+(2*r+2)]!)
    cases h4:bl (d1[first+r]!) (d1[first+(2*r+2)]!)
    all_goals rw [h4] at hls_h4
    rotate_left
    all_goals(repeat(first|apply aS;rfl|refine bj (aw rfl rfl (.inl ⟨rfl,(Jd _ ⟨(by omega),(by omega)⟩).symm⟩)) rfl rfl rfl ?_|refine cu (g:=fun x:Int=> .int .i64 x) rfl rfl rfl (F.ag _ rfl) rfl (by(omega)) (by(omega)) ?_|refine aH (q:=first+r) rfl rfl rfl rfl (F.un _ rfl) (F.sz _ rfl) rfl (by omega) (by omega) (by omega) ?_|refine aH (q:=first+(2*r+2)) rfl rfl rfl rfl (F.un _ rfl) (F.sz _ rfl) rfl (by omega) (by omega) (by omega) ?_|refine bT rfl rfl rfl (by kernel_rfl) (Ctr.callV (hls_h4) [] rfl (J8 rfl) rfl trivial rfl) ?_))
    ·rw [JH (by simpa [bl] using h4)] at e
     refine aA ⟨by kernel_rfl,?_,?_⟩;(focus(repeat(first|exact Kk|apply fv;rfl|apply eK;rfl|refine⟨.inr (by(repeat(refine⟨(by first|exact aQ (F.un _ rfl) (F.sz _ rfl) rfl rfl rfl (by omega) (by omega) (by omega)|exact aw rfl rfl (.inl ⟨rfl,(Jd _ ⟨by omega,by omega⟩).symm⟩)),?_⟩));exact Kk),?_⟩|refine⟨.inl (by kernel_rfl),?_⟩)))
     repeat apply ai;rfl
     refine cj (by kernel_rfl) (by kernel_rfl) ?_
     repeat first|apply aS;rfl|refine bj (aw rfl rfl (.inl ⟨rfl,(Jd _ ⟨(by omega),(by omega)⟩).symm⟩)) rfl rfl rfl ?_|refine cu (g:=fun x:Int=> .int .i64 x) rfl rfl rfl (F.ag _ rfl) rfl (by(omega)) (by(omega)) ?_|refine fq (g:=fun x:Int=> .int .i64 x) rfl rfl rfl (fun _=>rfl) (F.sz _ rfl) rfl (by first|omega|(simp only [Je,aN];omega)) (by first|omega|(simp only [Je,aN];omega)) ?_|refine aH (q:=first+r) rfl rfl rfl rfl (F.un _ rfl) (F.sz _ rfl) rfl (by omega) (by omega) (by omega) ?_|refine aH (q:=first+(2*r+2)) rfl rfl rfl rfl (F.un _ rfl) (F.sz _ rfl) rfl (by omega) (by omega) (by omega) ?_
     refine aA ⟨by kernel_rfl,?_,?_⟩;(focus(repeat(first|exact Kk|apply fv;rfl|apply eK;rfl|refine⟨.inr (by(repeat(refine⟨(by first|exact aQ (F.un _ rfl) (F.sz _ rfl) rfl rfl rfl (by omega) (by omega) (by omega)|exact aw rfl rfl (.inl ⟨rfl,(Jd _ ⟨by omega,by omega⟩).symm⟩)),?_⟩));exact Kk),?_⟩|refine⟨.inl (by kernel_rfl),?_⟩)))
     repeat apply ai;rfl
     refine ih _ _ _ (2*r+2,Sort.swp d1 (first+r) (first+(2*r+2))) [] ⟨by simp only;omega,by rw [aN];exact hd1,by rw [← ho,e]⟩ (by simp only;omega) ?_
     (exact Ki rfl rfl rfl ⟨aC rfl,trivial⟩)
    ·rw [JG (by simpa [bl] using h4)] at e
     refine aA ⟨by kernel_rfl,?_,?_⟩;(focus(repeat(first|exact Kk|apply fv;rfl|apply eK;rfl|refine⟨.inr (by(repeat(refine⟨(by first|exact aQ (F.un _ rfl) (F.sz _ rfl) rfl rfl rfl (by omega) (by omega) (by omega)|exact aw rfl rfl (.inl ⟨rfl,(Jd _ ⟨by omega,by omega⟩).symm⟩)),?_⟩));exact Kk),?_⟩|refine⟨.inl (by kernel_rfl),?_⟩)))
     repeat apply ai;rfl
     ((apply bm Tryz.func118 (congrArg Array.toList Tryz.results118));(focus(repeat(exact Kb)));refine⟨_,rfl,Ends.mk [] (J8 rfl) rfl rfl ?_⟩)
     rw [← ho,e]
     exact⟨aC rfl,trivial⟩
   ·have e:=sD (lt:=bl) (hi:=hi) (first:=first) (root:=r) (d:=d1) (by omega) (.inr (by simpa [bl] using h3))
    refine aA ⟨by kernel_rfl,?_,?_⟩;(focus(repeat(first|exact Kk|apply fv;rfl|apply eK;rfl|refine⟨.inr (by(repeat(refine⟨(by first|exact aQ (F.un _ rfl) (F.sz _ rfl) rfl rfl rfl (by omega) (by omega) (by omega)|exact aw rfl rfl (.inl ⟨rfl,(Jd _ ⟨by omega,by omega⟩).symm⟩)),?_⟩));exact Kk),?_⟩|refine⟨.inl (by kernel_rfl),?_⟩)))
    repeat apply ai;rfl
    refine cj (by kernel_rfl) (by kernel_rfl) ?_
    have hls_h4:=fQ (d1[first+r]!) (d1[first+(2*r+1)]!)
    cases h4:bl (d1[first+r]!) (d1[first+(2*r+1)]!)
    all_goals rw [h4] at hls_h4
    rotate_left
    all_goals(repeat(first|apply aS;rfl|refine bj (aw rfl rfl (.inl ⟨rfl,(Jd _ ⟨(by omega),(by omega)⟩).symm⟩)) rfl rfl rfl ?_|refine cu (g:=fun x:Int=> .int .i64 x) rfl rfl rfl (F.ag _ rfl) rfl (by(omega)) (by(omega)) ?_|refine aH (q:=first+r) rfl rfl rfl rfl (F.un _ rfl) (F.sz _ rfl) rfl (by omega) (by omega) (by omega) ?_|refine aH (q:=first+(2*r+1)) rfl rfl rfl rfl (F.un _ rfl) (F.sz _ rfl) rfl (by omega) (by omega) (by omega) ?_|refine bT rfl rfl rfl (by kernel_rfl) (Ctr.callV (hls_h4) [] rfl (J8 rfl) rfl trivial rfl) ?_))
    ·rw [JH (by simpa [bl] using h4)] at e
     refine aA ⟨by kernel_rfl,?_,?_⟩;(focus(repeat(first|exact Kk|apply fv;rfl|apply eK;rfl|refine⟨.inr (by(repeat(refine⟨(by first|exact aQ (F.un _ rfl) (F.sz _ rfl) rfl rfl rfl (by omega) (by omega) (by omega)|exact aw rfl rfl (.inl ⟨rfl,(Jd _ ⟨by omega,by omega⟩).symm⟩)),?_⟩));exact Kk),?_⟩|refine⟨.inl (by kernel_rfl),?_⟩)))
     repeat apply ai;rfl
     refine cj (by kernel_rfl) (by kernel_rfl) ?_
     repeat first|apply aS;rfl|refine bj (aw rfl rfl (.inl ⟨rfl,(Jd _ ⟨(by omega),(by omega)⟩).symm⟩)) rfl rfl rfl ?_|refine cu (g:=fun x:Int=> .int .i64 x) rfl rfl rfl (F.ag _ rfl) rfl (by(omega)) (by(omega)) ?_|refine fq (g:=fun x:Int=> .int .i64 x) rfl rfl rfl (fun _=>rfl) (F.sz _ rfl) rfl (by first|omega|(simp only [Je,aN];omega)) (by first|omega|(simp only [Je,aN];omega)) ?_|refine aH (q:=first+r) rfl rfl rfl rfl (F.un _ rfl) (F.sz _ rfl) rfl (by omega) (by omega) (by omega) ?_|refine aH (q:=first+(2*r+1)) rfl rfl rfl rfl (F.un _ rfl) (F.sz _ rfl) rfl (by omega) (by omega) (by omega) ?_
     refine aA ⟨by kernel_rfl,?_,?_⟩;(focus(repeat(first|exact Kk|apply fv;rfl|apply eK;rfl|refine⟨.inr (by(repeat(refine⟨(by first|exact aQ (F.un _ rfl) (F.sz _ rfl) rfl rfl rfl (by omega) (by omega) (by omega)|exact aw rfl rfl (.inl ⟨rfl,(Jd _ ⟨by omega,by omega⟩).symm⟩)),?_⟩));exact Kk),?_⟩|refine⟨.inl (by kernel_rfl),?_⟩)))
     repeat apply ai;rfl
     refine ih _ _ _ (2*r+1,Sort.swp d1 (first+r) (first+(2*r+1))) [] ⟨by simp only;omega,by rw [aN];exact hd1,by rw [← ho,e]⟩ (by simp only;omega) ?_
     (exact Ki rfl rfl rfl ⟨aC rfl,trivial⟩)
    ·rw [JG (by simpa [bl] using h4)] at e
     refine aA ⟨by kernel_rfl,?_,?_⟩;(focus(repeat(first|exact Kk|apply fv;rfl|apply eK;rfl|refine⟨.inr (by(repeat(refine⟨(by first|exact aQ (F.un _ rfl) (F.sz _ rfl) rfl rfl rfl (by omega) (by omega) (by omega)|exact aw rfl rfl (.inl ⟨rfl,(Jd _ ⟨by omega,by omega⟩).symm⟩)),?_⟩));exact Kk),?_⟩|refine⟨.inl (by kernel_rfl),?_⟩)))
     repeat apply ai;rfl
     ((apply bm Tryz.func118 (congrArg Array.toList Tryz.results118));(focus(repeat(exact Kb)));refine⟨_,rfl,Ends.mk [] (J8 rfl) rfl rfl ?_⟩)
     rw [← ho,e]
     exact⟨aC rfl,trivial⟩
  ·have e:=sD (lt:=bl) (hi:=hi) (first:=first) (root:=r) (d:=d1) (by omega) (.inl (by omega))
   repeat first|apply aS;rfl|refine cq rfl rfl ?_
   refine aA ⟨by kernel_rfl,?_,?_⟩;(focus(repeat(first|exact Kk|apply AE;rfl|apply eK;rfl|refine⟨.inl rfl,?_⟩)))
   repeat apply ai;rfl
   refine cj (by kernel_rfl) (by kernel_rfl) ?_
   have hls_h4:=fQ (d1[first+r]!) (d1[first+(2*r+1)]!)
   cases h4:bl (d1[first+r]!) (d1[first+(2*r+1)]!)
   all_goals rw [h4] at hls_h4
   rotate_left
   all_goals(repeat(first|apply aS;rfl|refine bj (aw rfl rfl (.inl ⟨rfl,(Jd _ ⟨(by omega),(by omega)⟩).symm⟩)) rfl rfl rfl ?_|refine cu (g:=fun x:Int=> .int .i64 x) rfl rfl rfl (F.ag _ rfl) rfl (by(omega)) (by(omega)) ?_|refine aH (q:=first+r) rfl rfl rfl rfl (F.un _ rfl) (F.sz _ rfl) rfl (by omega) (by omega) (by omega) ?_|refine aH (q:=first+(2*r+1)) rfl rfl rfl rfl (F.un _ rfl) (F.sz _ rfl) rfl (by omega) (by omega) (by omega) ?_|refine bT rfl rfl rfl (by kernel_rfl) (Ctr.callV (hls_h4) [] rfl (J8 rfl) rfl trivial rfl) ?_))
   ·rw [JH (by simpa [bl] using h4)] at e
    refine aA ⟨by kernel_rfl,?_,?_⟩;(focus(repeat(first|exact Kk|apply fv;rfl|apply eK;rfl|refine⟨.inr (by(repeat(refine⟨(by first|exact aQ (F.un _ rfl) (F.sz _ rfl) rfl rfl rfl (by omega) (by omega) (by omega)|exact aw rfl rfl (.inl ⟨rfl,(Jd _ ⟨by omega,by omega⟩).symm⟩)),?_⟩));exact Kk),?_⟩|refine⟨.inl (by kernel_rfl),?_⟩)))
    repeat apply ai;rfl
    refine cj (by kernel_rfl) (by kernel_rfl) ?_
    repeat first|apply aS;rfl|refine bj (aw rfl rfl (.inl ⟨rfl,(Jd _ ⟨(by omega),(by omega)⟩).symm⟩)) rfl rfl rfl ?_|refine cu (g:=fun x:Int=> .int .i64 x) rfl rfl rfl (F.ag _ rfl) rfl (by(omega)) (by(omega)) ?_|refine fq (g:=fun x:Int=> .int .i64 x) rfl rfl rfl (fun _=>rfl) (F.sz _ rfl) rfl (by first|omega|(simp only [Je,aN];omega)) (by first|omega|(simp only [Je,aN];omega)) ?_|refine aH (q:=first+r) rfl rfl rfl rfl (F.un _ rfl) (F.sz _ rfl) rfl (by omega) (by omega) (by omega) ?_|refine aH (q:=first+(2*r+1)) rfl rfl rfl rfl (F.un _ rfl) (F.sz _ rfl) rfl (by omega) (by omega) (by omega) ?_
    refine aA ⟨by kernel_rfl,?_,?_⟩;(focus(repeat(first|exact Kk|apply fv;rfl|apply eK;rfl|refine⟨.inr (by(repeat(refine⟨(by first|exact aQ (F.un _ rfl) (F.sz _ rfl) rfl rfl rfl (by omega) (by omega) (by omega)|exact aw rfl rfl (.inl ⟨rfl,(Jd _ ⟨by omega,by omega⟩).symm⟩)),?_⟩));exact Kk),?_⟩|refine⟨.inl (by kernel_rfl),?_⟩)))
    repeat apply ai;rfl
    refine ih _ _ _ (2*r+1,Sort.swp d1 (first+r) (first+(2*r+1))) [] ⟨by simp only;omega,by rw [aN];exact hd1,by rw [← ho,e]⟩ (by simp only;omega) ?_
    (exact Ki rfl rfl rfl ⟨aC rfl,trivial⟩)
   ·rw [JG (by simpa [bl] using h4)] at e
    refine aA ⟨by kernel_rfl,?_,?_⟩;(focus(repeat(first|exact Kk|apply fv;rfl|apply eK;rfl|refine⟨.inr (by(repeat(refine⟨(by first|exact aQ (F.un _ rfl) (F.sz _ rfl) rfl rfl rfl (by omega) (by omega) (by omega)|exact aw rfl rfl (.inl ⟨rfl,(Jd _ ⟨by omega,by omega⟩).symm⟩)),?_⟩));exact Kk),?_⟩|refine⟨.inl (by kernel_rfl),?_⟩)))
    repeat apply ai;rfl
    ((apply bm Tryz.func118 (congrArg Array.toList Tryz.results118));(focus(repeat(exact Kb)));refine⟨_,rfl,Ends.mk [] (J8 rfl) rfl rfl ?_⟩)
    rw [← ho,e]
    exact⟨aC rfl,trivial⟩
theorem sJ(n a b:Nat)(d:Array (Int))(hn:n<4611686018427387904)(hd:d.size=n)(hab:a≤b)(hb:b≤n) :
 Ctr Tryz.prog 108 [.slu 0 0 n,.sc (.int .i64 (a:Int)),.sc (.int .i64 (b:Int))] [b7 n d] (fun c=>c=⟨.tup [],[some (b7 n (Sort.heapSort bl d a b))]⟩):=by
 refine Ka Tryz.func108 rfl rfl ?_
 repeat first|apply ai;rfl|apply aL;rfl;omega;omega
 refine cd (pR rfl rfl (by decide) (show _=(((b-a-1) / 2:Nat):Int)from Bh (m:=b-a) (by omega) (by omega))) rfl rfl rfl ?_
 repeat apply ai;rfl
 refine gq 1 (fun s:Nat×Array (Int)=> [(0,.slu 0 0 n),(6,.sc (.int .i64 (a:Int))),(7,.sc (.int .i64 0)),(8,.sc (.int .i64 ((b-a:Nat):Int))),(9,.sc (.int .i64 ((s.1:Int)-1)))]) (fun s=> [some (b7 n s.2)]) (fun s=>s.1≤(b-a-1) / 2+1∧s.2.size=n∧Sort.heapBuild bl (b-a) a s.1 s.2=Sort.heapBuild bl (b-a) a ((b-a-1) / 2+1) d) (fun s=>s.1) ((b-a-1) / 2+1,d) []
  (fun _=>rfl) ⟨Jv _,hd,rfl⟩ ?_ (fun _=>rfl) (fun _=>rfl) ?_
 ·(refine⟨(J8 rfl),rfl,(by repeat(first|exact Kk|refine⟨rfl,?_⟩|refine⟨fO (by(omega)),?_⟩)),⟨aC rfl,trivial⟩⟩)
 rintro⟨k,d1⟩ ⟨hk,hd1,ho⟩ ih
 simp only at hk hd1 ho ih ⊢
 repeat apply ai;rfl
 refine eN rfl rfl rfl rfl ?_ ?_
 all_goals intro h1
 ·obtain⟨k,rfl⟩: ∃ k',k=k'+1:=⟨k-1,by omega⟩
  have ek:((k+1:Nat):Int)-1=(k:Int):=by omega
  rw [ek]
  repeat first|apply ai;rfl|apply aL;rfl;omega;omega|refine cg rfl rfl rfl (by kernel_rfl) (Ctr.dJ (no n k (b-a) a d1 hn hd1 (by omega) (by omega)) [0] rfl (J8 rfl) rfl ⟨aC rfl,trivial⟩ rfl (by repeat(first|exact Kk|refine⟨bI,?_⟩)) (fun _=>rfl) rfl rfl) ?_
  refine ih _ _ _ (k,Sort.siftDown bl (b-a) a k d1) [] ⟨by simp only;omega,by rw [jq];exact hd1,by rw [← ho];rfl⟩ (by simp only;omega) ?_
  (exact Ki rfl rfl rfl ⟨aC rfl,trivial⟩)
 ·obtain rfl:k=0:=by omega
  have ho1:d1=Sort.heapBuild bl (b-a) a ((b-a-1) / 2+1) d:=ho
  repeat first|apply ai;rfl|apply aL;rfl;omega;omega
  refine gq 1 (fun s:Nat×Array (Int)=> [(0,.slu 0 0 n),(6,.sc (.int .i64 (a:Int))),(7,.sc (.int .i64 0)),(10,.sc (.int .i64 ((s.1:Int)-1)))]) (fun s=> [some (b7 n s.2)]) (fun s=>s.1≤b-a∧s.2.size=n∧Sort.heapPop bl a s.1 s.2=Sort.heapSort bl d a b) (fun s=>s.1) (b-a,d1) []
   (fun _=>rfl) ⟨Jv _,hd1,by rw [ho1];rfl⟩ ?_ (fun _=>rfl) (fun _=>rfl) ?_
  ·(exact Ki rfl rfl rfl ⟨aC rfl,trivial⟩)
  rintro⟨m,d2⟩ ⟨hm,hd2,hp⟩ ihm
  simp only at hm hd2 hp ihm ⊢
  repeat apply ai;rfl
  refine eN rfl rfl rfl rfl ?_ ?_
  all_goals intro h2
  ·obtain⟨m,rfl⟩: ∃ m',m=m'+1:=⟨m-1,by omega⟩
   have em:((m+1:Nat):Int)-1=(m:Int):=by omega
   rw [em]
   repeat apply ai;rfl
   refine cj (by kernel_rfl) (by kernel_rfl) ?_
   repeat first|apply aS;rfl|refine bj (aw rfl rfl (.inl ⟨rfl,(Jd _ ⟨(by omega),(by omega)⟩).symm⟩)) rfl rfl rfl ?_|refine cu (g:=fun x:Int=> .int .i64 x) rfl rfl rfl (F.ag _ rfl) rfl (by(omega)) (by(omega)) ?_|refine fq (g:=fun x:Int=> .int .i64 x) rfl rfl rfl (fun _=>rfl) (F.sz _ rfl) rfl (by first|omega|(simp only [Je,aN];omega)) (by first|omega|(simp only [Je,aN];omega)) ?_|refine aH (q:=a) rfl rfl rfl rfl (F.un _ rfl) (F.sz _ rfl) rfl (by omega) (by omega) (by omega) ?_|refine aH (q:=a+m) rfl rfl rfl rfl (F.un _ rfl) (F.sz _ rfl) rfl (by omega) (by omega) (by omega) ?_
   refine aA ⟨by kernel_rfl,?_,?_⟩;(focus(repeat(first|exact Kk|apply fv;rfl|apply eK;rfl|refine⟨.inr (by(repeat(refine⟨(by first|exact aQ (F.un _ rfl) (F.sz _ rfl) rfl rfl rfl (by omega) (by omega) (by omega)|exact aw rfl rfl (.inl ⟨rfl,(Jd _ ⟨by omega,by omega⟩).symm⟩)),?_⟩));exact Kk),?_⟩|refine⟨.inl (by kernel_rfl),?_⟩)))
   repeat first|apply ai;rfl|apply aL;rfl;omega;omega|refine cg rfl rfl rfl (by kernel_rfl) (Ctr.dJ (no n 0 m a (Sort.swp d2 a (a+m)) hn (by rw [aN];exact hd2) (by omega) (by omega)) [0] rfl (J8 rfl) rfl ⟨aC rfl,trivial⟩ rfl (by repeat(first|exact Kk|refine⟨bI,?_⟩)) (fun _=>rfl) rfl rfl) ?_
   refine ihm _ _ _ (m,Sort.siftDown bl m a 0 (Sort.swp d2 a (a+m))) [] ⟨by simp only;omega,by rw [jq,aN];exact hd2,by rw [← hp];rfl⟩ (by simp only;omega) ?_
   (exact Ki rfl rfl rfl ⟨aC rfl,trivial⟩)
  ·obtain rfl:m=0:=by omega
   repeat apply ai;rfl
   ((apply qn Tryz.func108 (congrArg Array.toList Tryz.results108));(focus(repeat(exact Kb)));refine⟨_,rfl,Ends.mk [] (J8 rfl) rfl rfl ?_⟩)
   rw [← hp]
   exact⟨aC rfl,trivial⟩
theorem ug(n a b:Nat)(d:Array (Int))(hn:n<4611686018427387904)(hd:d.size=n)(hab:a<b)(hb:b≤n) :
 Ctr Tryz.prog 111 [.slu 0 0 n,.sc (.int .i64 (a:Int)),.sc (.int .i64 (b:Int))] [b7 n d] (fun c=>c=⟨.tup [],[some (b7 n (Sort.reverseRange d a b))]⟩):=by
 refine Ka Tryz.func111 rfl rfl ?_
 repeat first|apply ai;rfl|apply aL;rfl;omega;omega
 refine gq 1 (fun s:(Nat×Nat)×Array (Int)=> [(0,.slu 0 0 n),(6,.sc (.int .i64 (s.1.1:Int))),(7,.sc (.int .i64 (s.1.2:Int)))]) (fun s=> [some (b7 n s.2)]) (fun s=>s.1.1≤n∧s.1.2<n∧s.1.1≤s.1.2+1∧s.2.size=n∧Sort.reverseLoop s.1.1 s.1.2 s.2=Sort.reverseRange d a b) (fun s=>s.1.2+1-s.1.1) ((a,b-1),d) []
  (fun _=>rfl) ⟨by simp only;omega,by simp only;omega,by simp only;omega,hd,rfl⟩ ?_ (fun _=>rfl) (fun _=>rfl) ?_
 ·(refine⟨(J8 rfl),rfl,(by repeat(first|exact Kk|refine⟨rfl,?_⟩|refine⟨fO (by(simp only;omega)),?_⟩)),⟨aC rfl,trivial⟩⟩)
 rintro⟨⟨i,j⟩,d1⟩ ⟨hi,hj,hij,hd1,ho⟩ ih
 simp only at hi hj hij hd1 ho ih ⊢
 repeat apply ai;rfl
 refine bn rfl rfl rfl rfl ?_ ?_
 all_goals intro h1
 ·repeat apply ai;rfl
  refine cj (by kernel_rfl) (by kernel_rfl) ?_
  repeat first|apply aS;rfl|refine cu (g:=fun x:Int=> .int .i64 x) rfl rfl rfl (F.ag _ rfl) rfl (by(omega)) (by(omega)) ?_|refine fq (g:=fun x:Int=> .int .i64 x) rfl rfl rfl (fun _=>rfl) (F.sz _ rfl) rfl (by first|omega|(simp only [Je,aN];omega)) (by first|omega|(simp only [Je,aN];omega)) ?_|refine aH (q:=i) rfl rfl rfl rfl (F.un _ rfl) (F.sz _ rfl) rfl (by omega) (by omega) (by omega) ?_|refine aH (q:=j) rfl rfl rfl rfl (F.un _ rfl) (F.sz _ rfl) rfl (by omega) (by omega) (by omega) ?_
  refine aA ⟨by kernel_rfl,?_,?_⟩;(focus(repeat(first|exact Kk|apply fv;rfl|apply eK;rfl|refine⟨.inr (by(repeat(refine⟨(by(exact aQ (F.un _ rfl) (F.sz _ rfl) rfl rfl rfl (by omega) (by omega) (by omega))),?_⟩));exact Kk),?_⟩|refine⟨.inl (by kernel_rfl),?_⟩)))
  repeat first|apply ai;rfl|apply aL;rfl;omega;omega
  refine ih _ _ _ ((i+1,j-1),Sort.swp d1 i j) [] ⟨by simp only;omega,by simp only;omega,by simp only;omega,by rw [aN];exact hd1,?_⟩ (by simp only;omega) ?_
  ·rw [← ho]
   conv=>rhs;rw [Sort.reverseLoop,JH (by omega)]
  ·(refine⟨(J8 rfl),rfl,(by repeat(first|exact Kk|refine⟨rfl,?_⟩|refine⟨fO (by(simp only;omega)),?_⟩)),⟨aC rfl,trivial⟩⟩)
 ·repeat apply ai;rfl
  ((apply qn Tryz.func111 (congrArg Array.toList Tryz.results111));(focus(repeat(exact Kb)));refine⟨_,rfl,Ends.mk [] (J8 rfl) rfl rfl ?_⟩)
  rw [← ho,Sort.reverseLoop,JG (by omega)]
  exact⟨aC rfl,trivial⟩
abbrev mO(k:Nat):VO:=ar 3 [.sc (.int .i64 (k:Int))]
theorem ik(n a b k:Nat)(d:Array (Int))(hn:n<4611686018427387904)(hd:d.size=n)(ha:a<n)(hb:b<n)(hk:k<1000) :
 Ctr Tryz.prog 124 [.slu 0 0 n,.sc (.int .i64 (a:Int)),.sc (.int .i64 (b:Int)),.ptr 1 0] [b7 n d,mO k] (fun c=>c=⟨.tup [.sc (.int .i64 ((Sort.order2 bl d a b k).1:Int)),.sc (.int .i64 ((Sort.order2 bl d a b k).2.1:Int))],[some (b7 n d),some (mO (Sort.order2 bl d a b k).2.2)]⟩):=by
 refine Ka Tryz.func124 rfl rfl ?_
 repeat apply ai;rfl
 refine cj (by kernel_rfl) (by kernel_rfl) ?_
 have hls_h1:=fQ (d[b]!) (d[a]!)
 cases h1:bl (d[b]!) (d[a]!)
 all_goals rw [h1] at hls_h1
 rotate_left
 all_goals(repeat(first|apply aS;rfl|refine cu (g:=fun x:Int=> .int .i64 x) rfl rfl rfl (F.ag _ rfl) rfl (by(omega)) (by(omega)) ?_|refine aH (q:=a) rfl rfl rfl rfl (F.un _ rfl) (F.sz _ rfl) rfl (by omega) (by omega) (by omega) ?_|refine aH (q:=b) rfl rfl rfl rfl (F.un _ rfl) (F.sz _ rfl) rfl (by omega) (by omega) (by omega) ?_|refine bT rfl rfl rfl (by kernel_rfl) (Ctr.callV (hls_h1) [] rfl (J8 rfl) rfl trivial rfl) ?_))
 ·skip
  refine aA ⟨by kernel_rfl,?_,?_⟩;(focus(repeat(first|exact Kk|apply fv;rfl|apply eK;rfl|refine⟨.inr (by(repeat(refine⟨(by(exact aQ (F.un _ rfl) (F.sz _ rfl) rfl rfl rfl (by omega) (by omega) (by omega))),?_⟩));exact Kk),?_⟩|refine⟨.inl (by kernel_rfl),?_⟩)))
  repeat first|apply ai;rfl|apply aL;rfl;omega;omega|refine cV rfl rfl rfl (F.ag _ rfl) rfl rfl ?_|refine dX rfl rfl rfl (F.sz _ rfl) rfl rfl rfl ?_
  rw [show Sort.order2 bl d a b k=(b,a,k+1) by rw [Sort.order2,JH (by simpa [bl] using h1)]]
  ((apply bm Tryz.func124 (congrArg Array.toList Tryz.results124));(focus(repeat(first|exact Kb|apply Kd rfl)));refine⟨_,rfl,Ends.mk [] (J8 rfl) rfl rfl ?_⟩)
  exact(by repeat(first|exact Kk|refine⟨aC rfl,?_⟩|refine⟨fy rfl,?_⟩))
 ·skip
  refine aA ⟨by kernel_rfl,?_,?_⟩;(focus(repeat(first|exact Kk|apply fv;rfl|apply eK;rfl|refine⟨.inr (by(repeat(refine⟨(by(exact aQ (F.un _ rfl) (F.sz _ rfl) rfl rfl rfl (by omega) (by omega) (by omega))),?_⟩));exact Kk),?_⟩|refine⟨.inl (by kernel_rfl),?_⟩)))
  repeat apply ai;rfl
  rw [show Sort.order2 bl d a b k=(a,b,k) by rw [Sort.order2,JG (by simpa [bl] using h1)]]
  ((apply bm Tryz.func124 (congrArg Array.toList Tryz.results124));(focus(repeat(first|exact Kb|apply Kd rfl)));refine⟨_,rfl,Ends.mk [] (J8 rfl) rfl rfl ?_⟩)
  exact(by repeat(first|exact Kk|refine⟨aC rfl,?_⟩|refine⟨fy rfl,?_⟩))
theorem fc{k n:Nat}(ha:a<n)(hb:b<n):(Sort.order2 lt d a b k).1<n∧(Sort.order2 lt d a b k).2.1<n∧(Sort.order2 lt d a b k).2.2≤k+1:=by
 unfold Sort.order2
 split
 ·exact⟨hb,ha,Jv _⟩
 ·exact⟨ha,hb,JE _⟩
theorem il(n a b c k:Nat)(d:Array (Int))(hn:n<4611686018427387904)(hd:d.size=n)(ha:a<n)(hb:b<n)(hc:c<n)(hk:k<900) :
 Ctr Tryz.prog 122 [.slu 0 0 n,.sc (.int .i64 (a:Int)),.sc (.int .i64 (b:Int)),.sc (.int .i64 (c:Int)),.ptr 1 0] [b7 n d,mO k] (fun r=>r=⟨.sc (.int .i64 ((Sort.median bl d a b c k).1:Int)),[some (b7 n d),some (mO (Sort.median bl d a b c k).2)]⟩):=by
 obtain⟨q1,q2,q3⟩:=fc (lt:=bl) (d:=d) (k:=k) ha hb
 have e1:=ik n a b k d hn hd ha hb (by omega)
 unfold Sort.median
 generalize Sort.order2 bl d a b k=r1 at q1 q2 q3 e1 ⊢
 obtain⟨a1,b1,k1⟩:=r1
 obtain⟨p1,p2,p3⟩:=fc (lt:=bl) (d:=d) (k:=k1) q2 hc
 have e2:=ik n b1 c k1 d hn hd q2 hc (by simp only at q3;omega)
 simp only at q1 q2 q3 p1 p2 p3 e1 e2 ⊢
 generalize Sort.order2 bl d b1 c k1=r2 at p1 p2 p3 e2 ⊢
 obtain⟨b2,c2,k2⟩:=r2
 obtain⟨o1,o2,o3⟩:=fc (lt:=bl) (d:=d) (k:=k2) q1 p1
 have e3:=ik n a1 b2 k2 d hn hd q1 p1 (by simp only at p3;omega)
 simp only at p1 p2 p3 o1 o2 o3 e2 e3 ⊢
 generalize Sort.order2 bl d a1 b2 k2=r3 at o1 o2 o3 e3 ⊢
 obtain⟨a3,b3,k3⟩:=r3
 simp only at o1 o2 o3 e3 ⊢
 refine Ka Tryz.func122 rfl rfl ?_
 repeat first|apply ai;rfl|refine cg rfl rfl rfl (by kernel_rfl) (Ctr.dJ (e1) [0,1] rfl (J8 rfl) rfl (by repeat(first|exact Kk|refine⟨aC rfl,?_⟩|refine⟨fy rfl,?_⟩)) rfl (by repeat(first|exact Kk|refine⟨bI,?_⟩|refine⟨dA (fun _=>rfl),?_⟩)) (fun _=>rfl) rfl rfl) ?_|refine cg rfl rfl rfl (by kernel_rfl) (Ctr.dJ (e2) [0,1] rfl (J8 rfl) rfl (by repeat(first|exact Kk|refine⟨aC rfl,?_⟩|refine⟨fy rfl,?_⟩)) rfl (by repeat(first|exact Kk|refine⟨bI,?_⟩|refine⟨dA (fun _=>rfl),?_⟩)) (fun _=>rfl) rfl rfl) ?_|refine cg rfl rfl rfl (by kernel_rfl) (Ctr.dJ (e3) [0,1] rfl (J8 rfl) rfl (by repeat(first|exact Kk|refine⟨aC rfl,?_⟩|refine⟨fy rfl,?_⟩)) rfl (by repeat(first|exact Kk|refine⟨bI,?_⟩|refine⟨dA (fun _=>rfl),?_⟩)) (fun _=>rfl) rfl rfl) ?_
 ((apply bm Tryz.func122 (congrArg Array.toList Tryz.results122));(focus(repeat(first|exact Kb|apply Kd rfl)));refine⟨_,rfl,Ends.mk [] (J8 rfl) rfl rfl ?_⟩)
 exact(by repeat(first|exact Kk|refine⟨aC rfl,?_⟩|refine⟨fy rfl,?_⟩))
theorem jN{c k n:Nat}(ha:a<n)(hb:b<n)(hc:c<n):(Sort.median lt d a b c k).1<n∧(Sort.median lt d a b c k).2≤k+3:=by
 obtain⟨q1,q2,q3⟩:=fc (lt:=lt) (d:=d) (k:=k) ha hb
 obtain⟨p1,p2,p3⟩:=fc (lt:=lt) (d:=d) (k:=(Sort.order2 lt d a b k).2.2) q2 hc
 obtain⟨o1,o2,o3⟩:=fc (lt:=lt) (d:=d) (k:=(Sort.order2 lt d (Sort.order2 lt d a b k).2.1 c (Sort.order2 lt d a b k).2.2).2.2) q1 p1
 exact⟨o2,by simp only [Sort.median];omega⟩
theorem im(n a k:Nat)(d:Array (Int))(hn:n<4611686018427387904)(hd:d.size=n)(ha:a+1<n)(h1:1≤a)(hk:k<900) :
 Ctr Tryz.prog 121 [.slu 0 0 n,.sc (.int .i64 (a:Int)),.ptr 1 0] [b7 n d,mO k] (fun r=>r=⟨.sc (.int .i64 ((Sort.medianAdjacent bl d a k).1:Int)),[some (b7 n d),some (mO (Sort.medianAdjacent bl d a k).2)]⟩):=by
 obtain⟨a,rfl⟩: ∃ a',a=a'+1:=⟨a-1,by omega⟩
 have e:=il n a (a+1) (a+1+1) k d hn hd (by omega) (by omega) (by omega) hk
 have e0:((a:Nat):Int)=((a+1:Nat):Int)-1:=by omega
 rw [e0] at e
 refine Ka Tryz.func121 rfl rfl ?_
 repeat first|apply ai;rfl|apply aL;rfl;omega;omega|refine cg rfl rfl rfl (by kernel_rfl) (Ctr.dJ (e) [0,1] rfl (J8 rfl) rfl (by repeat(first|exact Kk|refine⟨aC rfl,?_⟩|refine⟨fy rfl,?_⟩)) rfl (by repeat(first|exact Kk|refine⟨bI,?_⟩|refine⟨dA (fun _=>rfl),?_⟩)) (fun _=>rfl) rfl rfl) ?_
 ((apply bm Tryz.func121 (congrArg Array.toList Tryz.results121));(focus(repeat(first|exact Kb|apply Kd rfl)));refine⟨_,rfl,Ends.mk [] (J8 rfl) rfl rfl ?_⟩)
 exact(by repeat(first|exact Kk|refine⟨aC rfl,?_⟩|refine⟨fy rfl,?_⟩))
theorem uh(n a b:Nat)(d:Array (Int))(hn:n<4611686018427387904)(hd:d.size=n)(hab:a<b)(hb:b≤n) :
 Ctr Tryz.prog 110 [.slu 0 0 n,.sc (.int .i64 (a:Int)),.sc (.int .i64 (b:Int))] [b7 n d] (fun r=>r=⟨.tup [.sc (.int .i64 ((Sort.choosePivot bl d a b).1:Int)),.sc (.int .i64 (Ei (Sort.choosePivot bl d a b).2))],[some (b7 n d)]⟩):=by
 have e1:((a:Int)+((b:Int)-(a:Int)) / 4*1)=((a+(b-a) / 4*1:Nat):Int):=by omega
 have e2:((a:Int)+((b:Int)-(a:Int)) / 4*2)=((a+(b-a) / 4*2:Nat):Int):=by omega
 have e3:((a:Int)+((b:Int)-(a:Int)) / 4*3)=((a+(b-a) / 4*3:Nat):Int):=by omega
 refine Ka Tryz.func110 rfl rfl ?_
 repeat first|apply ai;rfl|apply aL;rfl;omega;omega|refine cd (pR rfl rfl (by omega) (jw (by omega) (by omega) (by omega))) rfl rfl rfl ?_
 rw [e1,e2,e3]
 have fin: ∀ (T:Tr SV) (H:au) (nx:Nat) (p k:Nat),True:=fun _ _ _ _ _=>trivial
 refine eN rfl rfl rfl rfl ?_ ?_
 all_goals intro h1
 ·repeat apply ai;rfl
  refine eN rfl rfl rfl rfl ?_ ?_
  all_goals intro h2
  ·have m1:=im n (a+(b-a) / 4*1) 0 d hn hd (by omega) (by omega) (by omega)
   have l1:(Sort.medianAdjacent bl d (a+(b-a) / 4*1) 0).1<n∧(Sort.medianAdjacent bl d (a+(b-a) / 4*1) 0).2≤0+3:=jN (by omega) (by omega) (by omega)
   have ec:Sort.choosePivot bl d a b=Sort.choosePivot bl d a b:=rfl
   conv at ec=>rhs;unfold Sort.choosePivot
   simp only [show b-a≥8 by omega,show b-a≥50 by omega,if_true] at ec
   generalize Sort.medianAdjacent bl d (a+(b-a) / 4*1) 0=r1 at m1 l1 ec
   have m2:=im n (a+(b-a) / 4*2) r1.2 d hn hd (by omega) (by omega) (by omega)
   have l2:(Sort.medianAdjacent bl d (a+(b-a) / 4*2) r1.2).1<n∧(Sort.medianAdjacent bl d (a+(b-a) / 4*2) r1.2).2≤r1.2+3:=jN (by omega) (by omega) (by omega)
   generalize Sort.medianAdjacent bl d (a+(b-a) / 4*2) r1.2=r2 at m2 l2 ec
   have m3:=im n (a+(b-a) / 4*3) r2.2 d hn hd (by omega) (by omega) (by omega)
   have l3:(Sort.medianAdjacent bl d (a+(b-a) / 4*3) r2.2).1<n∧(Sort.medianAdjacent bl d (a+(b-a) / 4*3) r2.2).2≤r2.2+3:=jN (by omega) (by omega) (by omega)
   generalize Sort.medianAdjacent bl d (a+(b-a) / 4*3) r2.2=r3 at m3 l3 ec
   have m4:=il n r1.1 r2.1 r3.1 r3.2 d hn hd l1.1 l2.1 l3.1 (by omega)
   generalize Sort.median bl d r1.1 r2.1 r3.1 r3.2=r4 at m4 ec
   rw [ec]
   obtain⟨p,k⟩:=r4
   repeat first|apply ai;rfl|apply aG;rfl;(focus((repeat(exact ae));done));rfl|refine cg rfl rfl rfl (by kernel_rfl) (Ctr.dJ (m1) [0,1] rfl (J8 rfl) rfl (by repeat(first|exact Kk|refine⟨aC rfl,?_⟩|refine⟨fy rfl,?_⟩)) rfl (by repeat(first|exact Kk|refine⟨bI,?_⟩|refine⟨dA (fun _=>rfl),?_⟩)) (fun _=>rfl) rfl rfl) ?_|refine cg rfl rfl rfl (by kernel_rfl) (Ctr.dJ (m2) [0,1] rfl (J8 rfl) rfl (by repeat(first|exact Kk|refine⟨aC rfl,?_⟩|refine⟨fy rfl,?_⟩)) rfl (by repeat(first|exact Kk|refine⟨bI,?_⟩|refine⟨dA (fun _=>rfl),?_⟩)) (fun _=>rfl) rfl rfl) ?_|refine cg rfl rfl rfl (by kernel_rfl) (Ctr.dJ (m3) [0,1] rfl (J8 rfl) rfl (by repeat(first|exact Kk|refine⟨aC rfl,?_⟩|refine⟨fy rfl,?_⟩)) rfl (by repeat(first|exact Kk|refine⟨bI,?_⟩|refine⟨dA (fun _=>rfl),?_⟩)) (fun _=>rfl) rfl rfl) ?_|refine cg rfl rfl rfl (by kernel_rfl) (Ctr.dJ (m4) [0,1] rfl (J8 rfl) rfl (by repeat(first|exact Kk|refine⟨aC rfl,?_⟩|refine⟨fy rfl,?_⟩)) rfl (by repeat(first|exact Kk|refine⟨bI,?_⟩|refine⟨dA (fun _=>rfl),?_⟩)) (fun _=>rfl) rfl rfl) ?_
   refine cF rfl rfl rfl rfl ?_ ?_
   all_goals intro h3
   ·repeat apply ai;rfl
    rw [JH (show(p,k).2=0 by simp only;omega)]
    ((apply bm Tryz.func110 (congrArg Array.toList Tryz.results110));(focus(repeat(first|exact Kb|apply Kd rfl)));refine⟨_,rfl,Ends.mk [] (J8 rfl) rfl rfl ?_⟩)
    exact⟨aC rfl,trivial⟩
   ·repeat apply ai;rfl
    refine cF rfl rfl rfl rfl ?_ ?_
    all_goals intro h4
    ·repeat apply ai;rfl
     rw [JG (show ¬ (p,k).2=0 by simp only;omega),JH (show(p,k).2=12 by simp only;omega)]
     ((apply bm Tryz.func110 (congrArg Array.toList Tryz.results110));(focus(repeat(first|exact Kb|apply Kd rfl)));refine⟨_,rfl,Ends.mk [] (J8 rfl) rfl rfl ?_⟩)
     exact⟨aC rfl,trivial⟩
    ·repeat apply ai;rfl
     rw [JG (show ¬ (p,k).2=0 by simp only;omega),JG (show ¬ (p,k).2=12 by simp only;omega)]
     ((apply bm Tryz.func110 (congrArg Array.toList Tryz.results110));(focus(repeat(first|exact Kb|apply Kd rfl)));refine⟨_,rfl,Ends.mk [] (J8 rfl) rfl rfl ?_⟩)
     exact⟨aC rfl,trivial⟩
  ·have ec:Sort.choosePivot bl d a b=Sort.choosePivot bl d a b:=rfl
   conv at ec=>rhs;unfold Sort.choosePivot
   simp only [show b-a≥8 by omega,show ¬ (b-a≥50) by omega,if_true,if_false] at ec
   have m4:=il n (a+(b-a) / 4*1) (a+(b-a) / 4*2) (a+(b-a) / 4*3) 0 d hn hd (by omega) (by omega) (by omega) (by omega)
   generalize Sort.median bl d (a+(b-a) / 4*1) (a+(b-a) / 4*2) (a+(b-a) / 4*3) 0=r4 at m4 ec
   rw [ec]
   obtain⟨p,k⟩:=r4
   repeat first|apply ai;rfl|apply aG;rfl;(focus((repeat(exact ae));done));rfl|refine cg rfl rfl rfl (by kernel_rfl) (Ctr.dJ (m4) [0,1] rfl (J8 rfl) rfl (by repeat(first|exact Kk|refine⟨aC rfl,?_⟩|refine⟨fy rfl,?_⟩)) rfl (by repeat(first|exact Kk|refine⟨bI,?_⟩|refine⟨dA (fun _=>rfl),?_⟩)) (fun _=>rfl) rfl rfl) ?_
   refine cF rfl rfl rfl rfl ?_ ?_
   all_goals intro h3
   ·repeat apply ai;rfl
    rw [JH (show(p,k).2=0 by simp only;omega)]
    ((apply bm Tryz.func110 (congrArg Array.toList Tryz.results110));(focus(repeat(first|exact Kb|apply Kd rfl)));refine⟨_,rfl,Ends.mk [] (J8 rfl) rfl rfl ?_⟩)
    exact⟨aC rfl,trivial⟩
   ·repeat apply ai;rfl
    refine cF rfl rfl rfl rfl ?_ ?_
    all_goals intro h4
    ·repeat apply ai;rfl
     rw [JG (show ¬ (p,k).2=0 by simp only;omega),JH (show(p,k).2=12 by simp only;omega)]
     ((apply bm Tryz.func110 (congrArg Array.toList Tryz.results110));(focus(repeat(first|exact Kb|apply Kd rfl)));refine⟨_,rfl,Ends.mk [] (J8 rfl) rfl rfl ?_⟩)
     exact⟨aC rfl,trivial⟩
    ·repeat apply ai;rfl
     rw [JG (show ¬ (p,k).2=0 by simp only;omega),JG (show ¬ (p,k).2=12 by simp only;omega)]
     ((apply bm Tryz.func110 (congrArg Array.toList Tryz.results110));(focus(repeat(first|exact Kb|apply Kd rfl)));refine⟨_,rfl,Ends.mk [] (J8 rfl) rfl rfl ?_⟩)
     exact⟨aC rfl,trivial⟩
 ·have ec:Sort.choosePivot bl d a b=(a+(b-a) / 4*2,.increasing):=by
   unfold Sort.choosePivot
   simp only [show ¬ (b-a≥8) by omega,if_false,if_true]
  rw [ec]
  repeat first|apply ai;rfl|apply aG;rfl;(focus((repeat(exact ae));done));rfl|refine cd (dg rfl rfl (.inl ⟨rfl,rfl⟩)) rfl rfl rfl ?_
  ((apply bm Tryz.func110 (congrArg Array.toList Tryz.results110));(focus(repeat(first|exact Kb|apply Kd rfl)));refine⟨_,rfl,Ends.mk [] (J8 rfl) rfl rfl ?_⟩)
  exact⟨aC rfl,trivial⟩
theorem jM(h:i≤j)(hp:p d[i]! =true):Sort.scanUp p d j i=Sort.scanUp p d j (i+1):=by
 conv=>lhs;rw [Sort.scanUp,JH (by simp [h,hp])]
theorem dy(h:j<i∨p d[i]! =false):Sort.scanUp p d j i=i:=by
 rw [Sort.scanUp,JG]
 simp only [Ju,J7]
 rintro⟨h1,h2⟩
 rcases h with h|h
 ·omega
 ·rw [h] at h2;cases h2
theorem ij(h:i≤j+1)(hp:p d[j+1]! =true):Sort.scanDown p d i (j+1)=Sort.scanDown p d i j:=by
 conv=>lhs;rw [Sort.scanDown,JH (by simp [h,hp])]
theorem cY(h:j<i∨p d[j]! =false):Sort.scanDown p d i j=j:=by
 cases j with
 | zero=>rfl
 | succ j=>
   rw [Sort.scanDown,JG]
   simp only [Ju,J7]
   rintro⟨h1,h2⟩
   rcases h with h|h
   ·omega
   ·rw [h] at h2;cases h2
theorem pE(hi:Sort.scanUp (fun x=> !lt d[a]! x) d j i=i2)(hj:Sort.scanDown (fun x=>lt d[a]! x) d i2 j=j2)(h1:i≤i2)(h2:j2≤j) :
 Sort.partEqLoop lt a i j d=if j2<i2 then(i2,d) else Sort.partEqLoop lt a (i2+1) (j2-1) (Sort.swp d i2 j2):=by
 conv=>lhs;unfold Sort.partEqLoop
 simp only [hi,hj]
 split
 ·rfl
 ·rw [dif_pos (by omega)]
theorem pF(n a b pv:Nat)(d:Array (Int))(hn:n<4611686018427387904)(hd:d.size=n)(hap:a≤pv)(hpb:pv<b)(hb:b≤n) :
 Ctr Tryz.prog 114 [.slu 0 0 n,.sc (.int .i64 (a:Int)),.sc (.int .i64 (b:Int)),.sc (.int .i64 (pv:Int))] [b7 n d] (fun c=>c=⟨.sc (.int .i64 ((Sort.partitionEqual bl d a b pv).1:Int)),[some (b7 n (Sort.partitionEqual bl d a b pv).2)]⟩):=by
 refine Ka Tryz.func114 rfl rfl ?_
 repeat apply ai;rfl
 refine cj (by kernel_rfl) (by kernel_rfl) ?_
 repeat first|apply aS;rfl|refine cu (g:=fun x:Int=> .int .i64 x) rfl rfl rfl (F.ag _ rfl) rfl (by(omega)) (by(omega)) ?_|refine fq (g:=fun x:Int=> .int .i64 x) rfl rfl rfl (fun _=>rfl) (F.sz _ rfl) rfl (by first|omega|(simp only [Je,aN];omega)) (by first|omega|(simp only [Je,aN];omega)) ?_|refine aH (q:=a) rfl rfl rfl rfl (F.un _ rfl) (F.sz _ rfl) rfl (by omega) (by omega) (by omega) ?_|refine aH (q:=pv) rfl rfl rfl rfl (F.un _ rfl) (F.sz _ rfl) rfl (by omega) (by omega) (by omega) ?_
 refine aA ⟨by kernel_rfl,?_,?_⟩;(focus(repeat(first|exact Kk|apply fv;rfl|apply eK;rfl|refine⟨.inr (by(repeat(refine⟨(by(exact aQ (F.un _ rfl) (F.sz _ rfl) rfl rfl rfl (by omega) (by omega) (by omega))),?_⟩));exact Kk),?_⟩|refine⟨.inl (by kernel_rfl),?_⟩)))
 repeat first|apply ai;rfl|apply aL;rfl;omega;omega
 refine gq 1 (fun s:(Nat×Nat)×Array (Int)=> [(0,.slu 0 0 n),(1,.sc (.int .i64 (a:Int))),(9,.sc (.int .i64 (s.1.1:Int))),(10,.sc (.int .i64 (s.1.2:Int)))]) (fun s=> [some (b7 n s.2)]) (fun s=>a<s.1.1∧s.1.1≤n∧s.1.2<n∧s.2.size=n∧Sort.partEqLoop bl a s.1.1 s.1.2 s.2=Sort.partitionEqual bl d a b pv) (fun s=>s.1.2+1-s.1.1) ((a+1,b-1),Sort.swp d a pv) []
  (fun _=>rfl) ⟨by simp only;omega,by simp only;omega,by simp only;omega,by rw [aN];exact hd,rfl⟩ ?_ (fun _=>rfl) (fun _=>rfl) ?_
 ·(refine⟨(J8 rfl),rfl,(by repeat(first|exact Kk|refine⟨rfl,?_⟩|refine⟨fO (by(simp only;omega)),?_⟩)),⟨aC rfl,trivial⟩⟩)
 rintro⟨⟨i,j⟩,d1⟩ ⟨hai,hi,hj,hd1,ho⟩ ih
 simp only at hai hi hj hd1 ho ih ⊢
 repeat apply ai;rfl
 refine gp 1 (fun x:Nat=> [(0,.slu 0 0 n),(1,.sc (.int .i64 (a:Int))),(9,.sc (.int .i64 (x:Int))),(10,.sc (.int .i64 (j:Int)))]) (fun _=> [some (b7 n d1)]) (fun x=>i≤x∧x≤n∧Sort.scanUp (fun y=> !bl d1[a]! y) d1 j x=Sort.scanUp (fun y=> !bl d1[a]! y) d1 j i) (fun x=>n-x) i []
  1 (fun x:Nat=> [(0,.slu 0 0 n),(1,.sc (.int .i64 (a:Int))),(9,.sc (.int .i64 (x:Int))),(10,.sc (.int .i64 (j:Int)))]) (fun _=> [some (b7 n d1)]) (fun x=>i≤x∧x≤n∧Sort.scanUp (fun y=> !bl d1[a]! y) d1 j i=x)
  (fun _=>rfl) (fun _=>rfl) ⟨Jv _,hi,rfl⟩ ?_ (fun _=>rfl) (fun _=>rfl) ?_ ?_
 ·(exact Ki rfl rfl rfl ⟨aC rfl,trivial⟩)
 ·rintro i1 ⟨hii,hi1,hu⟩ ihu out
  repeat apply ai;rfl
  refine cj (by kernel_rfl) (by kernel_rfl) ?_
  repeat apply aS;rfl
  refine mU rfl rfl rfl rfl ?_ ?_
  all_goals intro h1
  ·have hls_h2:=fQ (d1[a]!) (d1[i1]!)
   cases h2:bl (d1[a]!) (d1[i1]!)
   all_goals rw [h2] at hls_h2
   rotate_left
   all_goals(repeat(first|apply aS;rfl|refine cu (g:=fun x:Int=> .int .i64 x) rfl rfl rfl (F.ag _ rfl) rfl (by(omega)) (by(omega)) ?_|refine aH (q:=a) rfl rfl rfl rfl (F.un _ rfl) (F.sz _ rfl) rfl (by omega) (by omega) (by omega) ?_|refine aH (q:=i1) rfl rfl rfl rfl (F.un _ rfl) (F.sz _ rfl) rfl (by omega) (by omega) (by omega) ?_|refine bT rfl rfl rfl (by kernel_rfl) (Ctr.callV (hls_h2) [] rfl (J8 rfl) rfl trivial rfl) ?_))
   ·skip
    refine aA ⟨by kernel_rfl,?_,?_⟩;(focus(repeat(first|exact Kk|apply fv;rfl|apply eK;rfl|refine⟨.inr (by(repeat(refine⟨(by(exact aQ (F.un _ rfl) (F.sz _ rfl) rfl rfl rfl (by omega) (by omega) (by omega))),?_⟩));exact Kk),?_⟩|refine⟨.inl (by kernel_rfl),?_⟩)))
    repeat first|refine out _ _ _ i1 [] ⟨hii,hi1,by rw [← hu];exact dy (.inr (by simpa [bl] using h2))⟩ ?_;(exact Ki rfl rfl rfl ⟨aC rfl,trivial⟩)|apply cx;rfl
   ·skip
    refine aA ⟨by kernel_rfl,?_,?_⟩;(focus(repeat(first|exact Kk|apply fv;rfl|apply eK;rfl|refine⟨.inr (by(repeat(refine⟨(by(exact aQ (F.un _ rfl) (F.sz _ rfl) rfl rfl rfl (by omega) (by omega) (by omega))),?_⟩));exact Kk),?_⟩|refine⟨.inl (by kernel_rfl),?_⟩)))
    repeat first|apply ai;rfl|apply aL;rfl;omega;omega
    refine ihu _ _ _ (i1+1) [] ⟨by omega,by omega,?_⟩ (by omega) ?_
    ·rw [← hu]
     exact(jM (by omega) (by simpa [bl] using h2)).symm
    ·(exact Ki rfl rfl rfl ⟨aC rfl,trivial⟩)
  ·repeat first|apply aS;rfl|refine cq rfl rfl ?_
   refine aA ⟨by kernel_rfl,?_,?_⟩;(focus(repeat(first|exact Kk|apply AE;rfl|apply eK;rfl|refine⟨.inl rfl,?_⟩)))
   repeat first|refine out _ _ _ i1 [] ⟨hii,hi1,by rw [← hu];exact dy (.inl (by omega))⟩ ?_;(exact Ki rfl rfl rfl ⟨aC rfl,trivial⟩)|apply cx;rfl
 rintro i2 ⟨hii,hi2,hu⟩
 repeat apply ai;rfl
 refine gp 1 (fun x:Nat=> [(0,.slu 0 0 n),(1,.sc (.int .i64 (a:Int))),(9,.sc (.int .i64 (i2:Int))),(10,.sc (.int .i64 (x:Int)))]) (fun _=> [some (b7 n d1)]) (fun x=>x≤j∧Sort.scanDown (fun y=>bl d1[a]! y) d1 i2 x=Sort.scanDown (fun y=>bl d1[a]! y) d1 i2 j) (fun x=>x) j []
  1 (fun x:Nat=> [(0,.slu 0 0 n),(1,.sc (.int .i64 (a:Int))),(9,.sc (.int .i64 (i2:Int))),(10,.sc (.int .i64 (x:Int)))]) (fun _=> [some (b7 n d1)]) (fun x=>x≤j∧Sort.scanDown (fun y=>bl d1[a]! y) d1 i2 j=x)
  (fun _=>rfl) (fun _=>rfl) ⟨Jv _,rfl⟩ ?_ (fun _=>rfl) (fun _=>rfl) ?_ ?_
 ·(exact Ki rfl rfl rfl ⟨aC rfl,trivial⟩)
 ·rintro j1 ⟨hjj,hv⟩ ihv out
  repeat apply ai;rfl
  refine cj (by kernel_rfl) (by kernel_rfl) ?_
  repeat apply aS;rfl
  refine mU rfl rfl rfl rfl ?_ ?_
  all_goals intro h1
  ·have hls_h2:=fQ (d1[a]!) (d1[j1]!)
   cases h2:bl (d1[a]!) (d1[j1]!)
   all_goals rw [h2] at hls_h2
   rotate_left
   all_goals(repeat(first|apply aS;rfl|refine cu (g:=fun x:Int=> .int .i64 x) rfl rfl rfl (F.ag _ rfl) rfl (by(omega)) (by(omega)) ?_|refine aH (q:=a) rfl rfl rfl rfl (F.un _ rfl) (F.sz _ rfl) rfl (by omega) (by omega) (by omega) ?_|refine aH (q:=j1) rfl rfl rfl rfl (F.un _ rfl) (F.sz _ rfl) rfl (by omega) (by omega) (by omega) ?_|refine bT rfl rfl rfl (by kernel_rfl) (Ctr.callV (hls_h2) [] rfl (J8 rfl) rfl trivial rfl) ?_))
   ·skip
    refine aA ⟨by kernel_rfl,?_,?_⟩;(focus(repeat(first|exact Kk|apply fv;rfl|apply eK;rfl|refine⟨.inr (by(repeat(refine⟨(by(exact aQ (F.un _ rfl) (F.sz _ rfl) rfl rfl rfl (by omega) (by omega) (by omega))),?_⟩));exact Kk),?_⟩|refine⟨.inl (by kernel_rfl),?_⟩)))
    repeat first|apply ai;rfl|apply aL;rfl;omega;omega
    obtain⟨j1,rfl⟩: ∃ j',j1=j'+1:=⟨j1-1,by omega⟩
    refine ihv _ _ _ j1 [] ⟨by omega,?_⟩ (by omega) ?_
    ·rw [← hv]
     exact(ij (by omega) (by simpa [bl] using h2)).symm
    ·(refine⟨(J8 rfl),rfl,(by repeat(first|exact Kk|refine⟨rfl,?_⟩|refine⟨fO (by(omega)),?_⟩)),⟨aC rfl,trivial⟩⟩)
   ·skip
    refine aA ⟨by kernel_rfl,?_,?_⟩;(focus(repeat(first|exact Kk|apply fv;rfl|apply eK;rfl|refine⟨.inr (by(repeat(refine⟨(by(exact aQ (F.un _ rfl) (F.sz _ rfl) rfl rfl rfl (by omega) (by omega) (by omega))),?_⟩));exact Kk),?_⟩|refine⟨.inl (by kernel_rfl),?_⟩)))
    repeat first|refine out _ _ _ j1 [] ⟨hjj,by rw [← hv];exact cY (.inr (by simpa [bl] using h2))⟩ ?_;(exact Ki rfl rfl rfl ⟨aC rfl,trivial⟩)|apply cx;rfl
  ·repeat first|apply aS;rfl|refine cq rfl rfl ?_
   refine aA ⟨by kernel_rfl,?_,?_⟩;(focus(repeat(first|exact Kk|apply AE;rfl|apply eK;rfl|refine⟨.inl rfl,?_⟩)))
   repeat first|refine out _ _ _ j1 [] ⟨hjj,by rw [← hv];exact cY (.inl (by omega))⟩ ?_;(exact Ki rfl rfl rfl ⟨aC rfl,trivial⟩)|apply cx;rfl
 rintro j2 ⟨hjj,hv⟩
 have e:=pE hu hv hii hjj
 repeat apply ai;rfl
 refine ey rfl rfl rfl rfl ?_ ?_
 all_goals intro h3
 ·rw [ho,JH (by omega)] at e
  repeat apply ai;rfl
  rw [e]
  ((apply bm Tryz.func114 (congrArg Array.toList Tryz.results114));(focus(repeat(first|exact Kb|apply Kd rfl)));refine⟨_,rfl,Ends.mk [] (J8 rfl) rfl rfl ?_⟩)
  exact⟨aC rfl,trivial⟩
 ·rw [ho,JG (by omega)] at e
  repeat apply ai;rfl
  refine cj (by kernel_rfl) (by kernel_rfl) ?_
  repeat first|apply aS;rfl|refine cu (g:=fun x:Int=> .int .i64 x) rfl rfl rfl (F.ag _ rfl) rfl (by(omega)) (by(omega)) ?_|refine fq (g:=fun x:Int=> .int .i64 x) rfl rfl rfl (fun _=>rfl) (F.sz _ rfl) rfl (by first|omega|(simp only [Je,aN];omega)) (by first|omega|(simp only [Je,aN];omega)) ?_|refine aH (q:=i2) rfl rfl rfl rfl (F.un _ rfl) (F.sz _ rfl) rfl (by omega) (by omega) (by omega) ?_|refine aH (q:=j2) rfl rfl rfl rfl (F.un _ rfl) (F.sz _ rfl) rfl (by omega) (by omega) (by omega) ?_
  refine aA ⟨by kernel_rfl,?_,?_⟩;(focus(repeat(first|exact Kk|apply fv;rfl|apply eK;rfl|refine⟨.inr (by(repeat(refine⟨(by(exact aQ (F.un _ rfl) (F.sz _ rfl) rfl rfl rfl (by omega) (by omega) (by omega))),?_⟩));exact Kk),?_⟩|refine⟨.inl (by kernel_rfl),?_⟩)))
  repeat first|apply ai;rfl|apply aL;rfl;omega;omega
  refine ih _ _ _ ((i2+1,j2-1),Sort.swp d1 i2 j2) [] ⟨by simp only;omega,by simp only;omega,by simp only;omega,by rw [aN];exact hd1,e.symm⟩ (by simp only;omega) ?_
  (refine⟨(J8 rfl),rfl,(by repeat(first|exact Kk|refine⟨rfl,?_⟩|refine⟨fO (by(simp only;omega)),?_⟩)),⟨aC rfl,trivial⟩⟩)
theorem sH(hi:Sort.scanUp (fun x=>lt x d[a]!) d j i=i2)(hj:Sort.scanDown (fun x=> !lt x d[a]!) d i2 j=j2)(h1:i≤i2)(h2:j2≤j) :
 Sort.partLoop lt a i j d=if j2<i2 then(j2,d) else Sort.partLoop lt a (i2+1) (j2-1) (Sort.swp d i2 j2):=by
 conv=>lhs;unfold Sort.partLoop
 simp only [hi,hj]
 split
 ·rfl
 ·rw [dif_pos (by omega)]
theorem uk{pv:Nat}(hi:Sort.scanUp (fun x=>lt x (Sort.swp d a pv)[a]!) (Sort.swp d a pv) (b-1) (a+1)=i2)(hj:Sort.scanDown (fun x=> !lt x (Sort.swp d a pv)[a]!) (Sort.swp d a pv) i2 (b-1)=j2) :
 Sort.partition lt d a b pv=if j2<i2 then(j2,true,Sort.swp (Sort.swp d a pv) j2 a) else((Sort.partLoop lt a (i2+1) (j2-1) (Sort.swp (Sort.swp d a pv) i2 j2)).1,false,Sort.swp (Sort.partLoop lt a (i2+1) (j2-1) (Sort.swp (Sort.swp d a pv) i2 j2)).2 (Sort.partLoop lt a (i2+1) (j2-1) (Sort.swp (Sort.swp d a pv) i2 j2)).1 a):=by
 simp only [Sort.partition,hi,hj]
theorem sI(n a b pv:Nat)(d:Array (Int))(hn:n<4611686018427387904)(hd:d.size=n)(hap:a≤pv)(hpb:pv<b)(hb:b≤n) :
 Ctr Tryz.prog 115 [.slu 0 0 n,.sc (.int .i64 (a:Int)),.sc (.int .i64 (b:Int)),.sc (.int .i64 (pv:Int))] [b7 n d] (fun c=>c=⟨.tup [.sc (.int .i64 ((Sort.partition bl d a b pv).1:Int)),.sc (.bool (Sort.partition bl d a b pv).2.1)],[some (b7 n (Sort.partition bl d a b pv).2.2)]⟩):=by
 refine Ka Tryz.func115 rfl rfl ?_
 repeat apply ai;rfl
 refine cj (by kernel_rfl) (by kernel_rfl) ?_
 repeat first|apply aS;rfl|refine cu (g:=fun x:Int=> .int .i64 x) rfl rfl rfl (F.ag _ rfl) rfl (by(omega)) (by(omega)) ?_|refine fq (g:=fun x:Int=> .int .i64 x) rfl rfl rfl (fun _=>rfl) (F.sz _ rfl) rfl (by first|omega|(simp only [Je,aN];omega)) (by first|omega|(simp only [Je,aN];omega)) ?_|refine aH (q:=a) rfl rfl rfl rfl (F.un _ rfl) (F.sz _ rfl) rfl (by omega) (by omega) (by omega) ?_|refine aH (q:=pv) rfl rfl rfl rfl (F.un _ rfl) (F.sz _ rfl) rfl (by omega) (by omega) (by omega) ?_
 refine aA ⟨by kernel_rfl,?_,?_⟩;(focus(repeat(first|exact Kk|apply fv;rfl|apply eK;rfl|refine⟨.inr (by(repeat(refine⟨(by(exact aQ (F.un _ rfl) (F.sz _ rfl) rfl rfl rfl (by omega) (by omega) (by omega))),?_⟩));exact Kk),?_⟩|refine⟨.inl (by kernel_rfl),?_⟩)))
 have e0:=uk (lt:=bl) (d:=d) (a:=a) (b:=b) (pv:=pv) rfl rfl
 have hd1:(Sort.swp d a pv).size=n:=by rw [aN];exact hd
 generalize hsw:Sort.swp d a pv=d1 at e0 hd1
 have hsw':(d.setIfInBounds a d[pv]!).setIfInBounds pv d[a]! =d1:=hsw
 rw [hsw']
 repeat first|apply ai;rfl|apply aL;rfl;omega;omega
 refine gp 1 (fun x:Nat=> [(0,.slu 0 0 n),(1,.sc (.int .i64 (a:Int))),(10,.sc (.int .i64 (x:Int))),(11,.sc (.int .i64 ((b-1:Nat):Int)))]) (fun _=> [some (b7 n d1)]) (fun x=>a+1≤x∧x≤n∧Sort.scanUp (fun y=>bl y d1[a]!) d1 (b-1) x=Sort.scanUp (fun y=>bl y d1[a]!) d1 (b-1) (a+1)) (fun x=>n-x) (a+1) []
  1 (fun x:Nat=> [(0,.slu 0 0 n),(1,.sc (.int .i64 (a:Int))),(10,.sc (.int .i64 (x:Int))),(11,.sc (.int .i64 ((b-1:Nat):Int)))]) (fun _=> [some (b7 n d1)]) (fun x=>a+1≤x∧x≤n∧Sort.scanUp (fun y=>bl y d1[a]!) d1 (b-1) (a+1)=x)
  (fun _=>rfl) (fun _=>rfl) ⟨Jv _,by omega,rfl⟩ ?_ (fun _=>rfl) (fun _=>rfl) ?_ ?_
 ·(refine⟨(J8 rfl),rfl,(by repeat(first|exact Kk|refine⟨rfl,?_⟩|refine⟨fO (by(omega)),?_⟩)),⟨aC rfl,trivial⟩⟩)
 ·rintro i1 ⟨hii,hi1,hu⟩ ihu out
  repeat apply ai;rfl
  refine cj (by kernel_rfl) (by kernel_rfl) ?_
  repeat apply aS;rfl
  refine mU rfl rfl rfl rfl ?_ ?_
  all_goals intro h1
  ·have hls_h2:=fQ (d1[i1]!) (d1[a]!)
   cases h2:bl (d1[i1]!) (d1[a]!)
   all_goals rw [h2] at hls_h2
   rotate_left
   all_goals(repeat(first|apply aS;rfl|refine cu (g:=fun x:Int=> .int .i64 x) rfl rfl rfl (F.ag _ rfl) rfl (by(omega)) (by(omega)) ?_|refine aH (q:=a) rfl rfl rfl rfl (F.un _ rfl) (F.sz _ rfl) rfl (by omega) (by omega) (by omega) ?_|refine aH (q:=i1) rfl rfl rfl rfl (F.un _ rfl) (F.sz _ rfl) rfl (by omega) (by omega) (by omega) ?_|refine bT rfl rfl rfl (by kernel_rfl) (Ctr.callV (hls_h2) [] rfl (J8 rfl) rfl trivial rfl) ?_))
   ·skip
    refine aA ⟨by kernel_rfl,?_,?_⟩;(focus(repeat(first|exact Kk|apply fv;rfl|apply eK;rfl|refine⟨.inr (by(repeat(refine⟨(by(exact aQ (F.un _ rfl) (F.sz _ rfl) rfl rfl rfl (by omega) (by omega) (by omega))),?_⟩));exact Kk),?_⟩|refine⟨.inl (by kernel_rfl),?_⟩)))
    repeat first|apply ai;rfl|apply aL;rfl;omega;omega
    refine ihu _ _ _ (i1+1) [] ⟨by omega,by omega,?_⟩ (by omega) ?_
    ·rw [← hu]
     exact(jM (by omega) (by simpa [bl] using h2)).symm
    ·(exact Ki rfl rfl rfl ⟨aC rfl,trivial⟩)
   ·skip
    refine aA ⟨by kernel_rfl,?_,?_⟩;(focus(repeat(first|exact Kk|apply fv;rfl|apply eK;rfl|refine⟨.inr (by(repeat(refine⟨(by(exact aQ (F.un _ rfl) (F.sz _ rfl) rfl rfl rfl (by omega) (by omega) (by omega))),?_⟩));exact Kk),?_⟩|refine⟨.inl (by kernel_rfl),?_⟩)))
    repeat first|refine out _ _ _ i1 [] ⟨hii,hi1,by rw [← hu];exact dy (.inr (by simpa [bl] using h2))⟩ ?_;(exact Ki rfl rfl rfl ⟨aC rfl,trivial⟩)|apply cx;rfl
  ·repeat first|apply aS;rfl|refine cq rfl rfl ?_
   refine aA ⟨by kernel_rfl,?_,?_⟩;(focus(repeat(first|exact Kk|apply AE;rfl|apply eK;rfl|refine⟨.inl rfl,?_⟩)))
   repeat first|refine out _ _ _ i1 [] ⟨hii,hi1,by rw [← hu];exact dy (.inl (by omega))⟩ ?_;(exact Ki rfl rfl rfl ⟨aC rfl,trivial⟩)|apply cx;rfl
 rintro i2 ⟨hii,hi2,hu⟩
 rw [hu] at e0
 repeat apply ai;rfl
 refine gp 1 (fun x:Nat=> [(0,.slu 0 0 n),(1,.sc (.int .i64 (a:Int))),(10,.sc (.int .i64 (i2:Int))),(11,.sc (.int .i64 (x:Int)))]) (fun _=> [some (b7 n d1)]) (fun x=>x≤b-1∧Sort.scanDown (fun y=> !bl y d1[a]!) d1 i2 x=Sort.scanDown (fun y=> !bl y d1[a]!) d1 i2 (b-1)) (fun x=>x) (b-1) []
  1 (fun x:Nat=> [(0,.slu 0 0 n),(1,.sc (.int .i64 (a:Int))),(10,.sc (.int .i64 (i2:Int))),(11,.sc (.int .i64 (x:Int)))]) (fun _=> [some (b7 n d1)]) (fun x=>x≤b-1∧Sort.scanDown (fun y=> !bl y d1[a]!) d1 i2 (b-1)=x)
  (fun _=>rfl) (fun _=>rfl) ⟨Jv _,rfl⟩ ?_ (fun _=>rfl) (fun _=>rfl) ?_ ?_
 ·(exact Ki rfl rfl rfl ⟨aC rfl,trivial⟩)
 ·rintro j1 ⟨hjj,hv⟩ ihv out
  repeat apply ai;rfl
  refine cj (by kernel_rfl) (by kernel_rfl) ?_
  repeat apply aS;rfl
  refine mU rfl rfl rfl rfl ?_ ?_
  all_goals intro h1
  ·have hls_h2:=fQ (d1[j1]!) (d1[a]!)
   cases h2:bl (d1[j1]!) (d1[a]!)
   all_goals rw [h2] at hls_h2
   rotate_left
   all_goals(repeat(first|apply aS;rfl|refine cu (g:=fun x:Int=> .int .i64 x) rfl rfl rfl (F.ag _ rfl) rfl (by(omega)) (by(omega)) ?_|refine aH (q:=a) rfl rfl rfl rfl (F.un _ rfl) (F.sz _ rfl) rfl (by omega) (by omega) (by omega) ?_|refine aH (q:=j1) rfl rfl rfl rfl (F.un _ rfl) (F.sz _ rfl) rfl (by omega) (by omega) (by omega) ?_|refine bT rfl rfl rfl (by kernel_rfl) (Ctr.callV (hls_h2) [] rfl (J8 rfl) rfl trivial rfl) ?_))
   ·skip
    refine aA ⟨by kernel_rfl,?_,?_⟩;(focus(repeat(first|exact Kk|apply fv;rfl|apply eK;rfl|refine⟨.inr (by(repeat(refine⟨(by(exact aQ (F.un _ rfl) (F.sz _ rfl) rfl rfl rfl (by omega) (by omega) (by omega))),?_⟩));exact Kk),?_⟩|refine⟨.inl (by kernel_rfl),?_⟩)))
    repeat first|refine out _ _ _ j1 [] ⟨hjj,by rw [← hv];exact cY (.inr (by simpa [bl] using h2))⟩ ?_;(exact Ki rfl rfl rfl ⟨aC rfl,trivial⟩)|apply cx;rfl
   ·skip
    refine aA ⟨by kernel_rfl,?_,?_⟩;(focus(repeat(first|exact Kk|apply fv;rfl|apply eK;rfl|refine⟨.inr (by(repeat(refine⟨(by(exact aQ (F.un _ rfl) (F.sz _ rfl) rfl rfl rfl (by omega) (by omega) (by omega))),?_⟩));exact Kk),?_⟩|refine⟨.inl (by kernel_rfl),?_⟩)))
    repeat first|apply ai;rfl|apply aL;rfl;omega;omega
    obtain⟨j1,rfl⟩: ∃ j',j1=j'+1:=⟨j1-1,by omega⟩
    refine ihv _ _ _ j1 [] ⟨by omega,?_⟩ (by omega) ?_
    ·rw [← hv]
     exact(ij (by omega) (by simpa [bl] using h2)).symm
    ·(refine⟨(J8 rfl),rfl,(by repeat(first|exact Kk|refine⟨rfl,?_⟩|refine⟨fO (by(omega)),?_⟩)),⟨aC rfl,trivial⟩⟩)
  ·repeat first|apply aS;rfl|refine cq rfl rfl ?_
   refine aA ⟨by kernel_rfl,?_,?_⟩;(focus(repeat(first|exact Kk|apply AE;rfl|apply eK;rfl|refine⟨.inl rfl,?_⟩)))
   repeat first|refine out _ _ _ j1 [] ⟨hjj,by rw [← hv];exact cY (.inl (by omega))⟩ ?_;(exact Ki rfl rfl rfl ⟨aC rfl,trivial⟩)|apply cx;rfl
 rintro j2 ⟨hjj,hv⟩
 rw [hv] at e0
 repeat apply ai;rfl
 refine ey rfl rfl rfl rfl ?_ ?_
 all_goals intro h3
 ·rw [JH (by omega)] at e0
  rw [e0]
  repeat apply ai;rfl
  refine cj (by kernel_rfl) (by kernel_rfl) ?_
  repeat first|apply aS;rfl|refine cu (g:=fun x:Int=> .int .i64 x) rfl rfl rfl (F.ag _ rfl) rfl (by(omega)) (by(omega)) ?_|refine fq (g:=fun x:Int=> .int .i64 x) rfl rfl rfl (fun _=>rfl) (F.sz _ rfl) rfl (by first|omega|(simp only [Je,aN];omega)) (by first|omega|(simp only [Je,aN];omega)) ?_|refine aH (q:=a) rfl rfl rfl rfl (F.un _ rfl) (F.sz _ rfl) rfl (by omega) (by omega) (by omega) ?_|refine aH (q:=j2) rfl rfl rfl rfl (F.un _ rfl) (F.sz _ rfl) rfl (by omega) (by omega) (by omega) ?_
  refine aA ⟨by kernel_rfl,?_,?_⟩;(focus(repeat(first|exact Kk|apply fv;rfl|apply eK;rfl|refine⟨.inr (by(repeat(refine⟨(by(exact aQ (F.un _ rfl) (F.sz _ rfl) rfl rfl rfl (by omega) (by omega) (by omega))),?_⟩));exact Kk),?_⟩|refine⟨.inl (by kernel_rfl),?_⟩)))
  repeat apply ai;rfl
  ((apply bm Tryz.func115 (congrArg Array.toList Tryz.results115));(focus(repeat(first|exact Kb|apply Kd rfl)));refine⟨_,rfl,Ends.mk [] (J8 rfl) rfl rfl ?_⟩)
  exact⟨aC rfl,trivial⟩
 rw [JG (by omega)] at e0
 rw [e0]
 repeat apply ai;rfl
 refine cj (by kernel_rfl) (by kernel_rfl) ?_
 repeat first|apply aS;rfl|refine cu (g:=fun x:Int=> .int .i64 x) rfl rfl rfl (F.ag _ rfl) rfl (by(omega)) (by(omega)) ?_|refine fq (g:=fun x:Int=> .int .i64 x) rfl rfl rfl (fun _=>rfl) (F.sz _ rfl) rfl (by first|omega|(simp only [Je,aN];omega)) (by first|omega|(simp only [Je,aN];omega)) ?_|refine aH (q:=i2) rfl rfl rfl rfl (F.un _ rfl) (F.sz _ rfl) rfl (by omega) (by omega) (by omega) ?_|refine aH (q:=j2) rfl rfl rfl rfl (F.un _ rfl) (F.sz _ rfl) rfl (by omega) (by omega) (by omega) ?_
 refine aA ⟨by kernel_rfl,?_,?_⟩;(focus(repeat(first|exact Kk|apply fv;rfl|apply eK;rfl|refine⟨.inr (by(repeat(refine⟨(by(exact aQ (F.un _ rfl) (F.sz _ rfl) rfl rfl rfl (by omega) (by omega) (by omega))),?_⟩));exact Kk),?_⟩|refine⟨.inl (by kernel_rfl),?_⟩)))
 repeat first|apply ai;rfl|apply aL;rfl;omega;omega
 refine gp 1 (fun s:(Nat×Nat)×Array (Int)=> [(0,.slu 0 0 n),(1,.sc (.int .i64 (a:Int))),(10,.sc (.int .i64 (s.1.1:Int))),(11,.sc (.int .i64 (s.1.2:Int)))]) (fun s=> [some (b7 n s.2)]) (fun s=>a<s.1.1∧s.1.1≤n∧s.1.2<n∧s.2.size=n∧Sort.partLoop bl a s.1.1 s.1.2 s.2=Sort.partLoop bl a (i2+1) (j2-1) (Sort.swp d1 i2 j2)) (fun s=>s.1.2+1-s.1.1) ((i2+1,j2-1),Sort.swp d1 i2 j2) []
  1 (fun s:Nat×Array (Int)=> [(0,.slu 0 0 n),(1,.sc (.int .i64 (a:Int))),(11,.sc (.int .i64 (s.1:Int)))]) (fun s=> [some (b7 n s.2)]) (fun s=>s.1<n∧s.2.size=n∧Sort.partLoop bl a (i2+1) (j2-1) (Sort.swp d1 i2 j2)=s)
  (fun _=>rfl) (fun _=>rfl) ⟨by simp only;omega,by simp only;omega,by simp only;omega,by rw [aN];exact hd1,rfl⟩ ?_ (fun _=>rfl) (fun _=>rfl) ?_ ?_
 ·(refine⟨(J8 rfl),rfl,(by repeat(first|exact Kk|refine⟨rfl,?_⟩|refine⟨fO (by(simp only;omega)),?_⟩)),⟨aC rfl,trivial⟩⟩)
 ·rintro⟨⟨i,j⟩,d3⟩ ⟨hai,hi,hj,hd3,ho⟩ ih outer
  simp only at hai hi hj hd3 ho ih ⊢
  repeat apply ai;rfl
  refine gp 1 (fun x:Nat=> [(0,.slu 0 0 n),(1,.sc (.int .i64 (a:Int))),(10,.sc (.int .i64 (x:Int))),(11,.sc (.int .i64 (j:Int)))]) (fun _=> [some (b7 n d3)]) (fun x=>i≤x∧x≤n∧Sort.scanUp (fun y=>bl y d3[a]!) d3 j x=Sort.scanUp (fun y=>bl y d3[a]!) d3 j i) (fun x=>n-x) i []
   1 (fun x:Nat=> [(0,.slu 0 0 n),(1,.sc (.int .i64 (a:Int))),(10,.sc (.int .i64 (x:Int))),(11,.sc (.int .i64 (j:Int)))]) (fun _=> [some (b7 n d3)]) (fun x=>i≤x∧x≤n∧Sort.scanUp (fun y=>bl y d3[a]!) d3 j i=x)
   (fun _=>rfl) (fun _=>rfl) ⟨Jv _,hi,rfl⟩ ?_ (fun _=>rfl) (fun _=>rfl) ?_ ?_
  ·(exact Ki rfl rfl rfl ⟨aC rfl,trivial⟩)
  ·rintro i1 ⟨hii,hi1,hu⟩ ihu out
   repeat apply ai;rfl
   refine cj (by kernel_rfl) (by kernel_rfl) ?_
   repeat apply aS;rfl
   refine mU rfl rfl rfl rfl ?_ ?_
   all_goals intro h1
   ·have hls_h2:=fQ (d3[i1]!) (d3[a]!)
    cases h2:bl (d3[i1]!) (d3[a]!)
    all_goals rw [h2] at hls_h2
    rotate_left
    all_goals(repeat(first|apply aS;rfl|refine cu (g:=fun x:Int=> .int .i64 x) rfl rfl rfl (F.ag _ rfl) rfl (by(omega)) (by(omega)) ?_|refine aH (q:=a) rfl rfl rfl rfl (F.un _ rfl) (F.sz _ rfl) rfl (by omega) (by omega) (by omega) ?_|refine aH (q:=i1) rfl rfl rfl rfl (F.un _ rfl) (F.sz _ rfl) rfl (by omega) (by omega) (by omega) ?_|refine bT rfl rfl rfl (by kernel_rfl) (Ctr.callV (hls_h2) [] rfl (J8 rfl) rfl trivial rfl) ?_))
    ·skip
     refine aA ⟨by kernel_rfl,?_,?_⟩;(focus(repeat(first|exact Kk|apply fv;rfl|apply eK;rfl|refine⟨.inr (by(repeat(refine⟨(by(exact aQ (F.un _ rfl) (F.sz _ rfl) rfl rfl rfl (by omega) (by omega) (by omega))),?_⟩));exact Kk),?_⟩|refine⟨.inl (by kernel_rfl),?_⟩)))
     repeat first|apply ai;rfl|apply aL;rfl;omega;omega
     refine ihu _ _ _ (i1+1) [] ⟨by omega,by omega,?_⟩ (by omega) ?_
     ·rw [← hu]
      exact(jM (by omega) (by simpa [bl] using h2)).symm
     ·(exact Ki rfl rfl rfl ⟨aC rfl,trivial⟩)
    ·skip
     refine aA ⟨by kernel_rfl,?_,?_⟩;(focus(repeat(first|exact Kk|apply fv;rfl|apply eK;rfl|refine⟨.inr (by(repeat(refine⟨(by(exact aQ (F.un _ rfl) (F.sz _ rfl) rfl rfl rfl (by omega) (by omega) (by omega))),?_⟩));exact Kk),?_⟩|refine⟨.inl (by kernel_rfl),?_⟩)))
     repeat first|refine out _ _ _ i1 [] ⟨hii,hi1,by rw [← hu];exact dy (.inr (by simpa [bl] using h2))⟩ ?_;(exact Ki rfl rfl rfl ⟨aC rfl,trivial⟩)|apply cx;rfl
   ·repeat first|apply aS;rfl|refine cq rfl rfl ?_
    refine aA ⟨by kernel_rfl,?_,?_⟩;(focus(repeat(first|exact Kk|apply AE;rfl|apply eK;rfl|refine⟨.inl rfl,?_⟩)))
    repeat first|refine out _ _ _ i1 [] ⟨hii,hi1,by rw [← hu];exact dy (.inl (by omega))⟩ ?_;(exact Ki rfl rfl rfl ⟨aC rfl,trivial⟩)|apply cx;rfl
  rintro i3 ⟨hii3,hi3,hu3⟩
  repeat apply ai;rfl
  refine gp 1 (fun x:Nat=> [(0,.slu 0 0 n),(1,.sc (.int .i64 (a:Int))),(10,.sc (.int .i64 (i3:Int))),(11,.sc (.int .i64 (x:Int)))]) (fun _=> [some (b7 n d3)]) (fun x=>x≤j∧Sort.scanDown (fun y=> !bl y d3[a]!) d3 i3 x=Sort.scanDown (fun y=> !bl y d3[a]!) d3 i3 (j)) (fun x=>x) (j) []
   1 (fun x:Nat=> [(0,.slu 0 0 n),(1,.sc (.int .i64 (a:Int))),(10,.sc (.int .i64 (i3:Int))),(11,.sc (.int .i64 (x:Int)))]) (fun _=> [some (b7 n d3)]) (fun x=>x≤j∧Sort.scanDown (fun y=> !bl y d3[a]!) d3 i3 (j)=x)
   (fun _=>rfl) (fun _=>rfl) ⟨Jv _,rfl⟩ ?_ (fun _=>rfl) (fun _=>rfl) ?_ ?_
  ·(exact Ki rfl rfl rfl ⟨aC rfl,trivial⟩)
  ·rintro j1 ⟨hjj,hv⟩ ihv out
   repeat apply ai;rfl
   refine cj (by kernel_rfl) (by kernel_rfl) ?_
   repeat apply aS;rfl
   refine mU rfl rfl rfl rfl ?_ ?_
   all_goals intro h1
   ·have hls_h2:=fQ (d3[j1]!) (d3[a]!)
    cases h2:bl (d3[j1]!) (d3[a]!)
    all_goals rw [h2] at hls_h2
    rotate_left
    all_goals(repeat(first|apply aS;rfl|refine cu (g:=fun x:Int=> .int .i64 x) rfl rfl rfl (F.ag _ rfl) rfl (by(omega)) (by(omega)) ?_|refine aH (q:=a) rfl rfl rfl rfl (F.un _ rfl) (F.sz _ rfl) rfl (by omega) (by omega) (by omega) ?_|refine aH (q:=j1) rfl rfl rfl rfl (F.un _ rfl) (F.sz _ rfl) rfl (by omega) (by omega) (by omega) ?_|refine bT rfl rfl rfl (by kernel_rfl) (Ctr.callV (hls_h2) [] rfl (J8 rfl) rfl trivial rfl) ?_))
    ·skip
     refine aA ⟨by kernel_rfl,?_,?_⟩;(focus(repeat(first|exact Kk|apply fv;rfl|apply eK;rfl|refine⟨.inr (by(repeat(refine⟨(by(exact aQ (F.un _ rfl) (F.sz _ rfl) rfl rfl rfl (by omega) (by omega) (by omega))),?_⟩));exact Kk),?_⟩|refine⟨.inl (by kernel_rfl),?_⟩)))
     repeat first|refine out _ _ _ j1 [] ⟨hjj,by rw [← hv];exact cY (.inr (by simpa [bl] using h2))⟩ ?_;(exact Ki rfl rfl rfl ⟨aC rfl,trivial⟩)|apply cx;rfl
    ·skip
     refine aA ⟨by kernel_rfl,?_,?_⟩;(focus(repeat(first|exact Kk|apply fv;rfl|apply eK;rfl|refine⟨.inr (by(repeat(refine⟨(by(exact aQ (F.un _ rfl) (F.sz _ rfl) rfl rfl rfl (by omega) (by omega) (by omega))),?_⟩));exact Kk),?_⟩|refine⟨.inl (by kernel_rfl),?_⟩)))
     repeat first|apply ai;rfl|apply aL;rfl;omega;omega
     obtain⟨j1,rfl⟩: ∃ j',j1=j'+1:=⟨j1-1,by omega⟩
     refine ihv _ _ _ j1 [] ⟨by omega,?_⟩ (by omega) ?_
     ·rw [← hv]
      exact(ij (by omega) (by simpa [bl] using h2)).symm
     ·(refine⟨(J8 rfl),rfl,(by repeat(first|exact Kk|refine⟨rfl,?_⟩|refine⟨fO (by(omega)),?_⟩)),⟨aC rfl,trivial⟩⟩)
   ·repeat first|apply aS;rfl|refine cq rfl rfl ?_
    refine aA ⟨by kernel_rfl,?_,?_⟩;(focus(repeat(first|exact Kk|apply AE;rfl|apply eK;rfl|refine⟨.inl rfl,?_⟩)))
    repeat first|refine out _ _ _ j1 [] ⟨hjj,by rw [← hv];exact cY (.inl (by omega))⟩ ?_;(exact Ki rfl rfl rfl ⟨aC rfl,trivial⟩)|apply cx;rfl
  rintro j3 ⟨hjj3,hv3⟩
  have e:=sH hu3 hv3 hii3 hjj3
  repeat apply ai;rfl
  refine ey rfl rfl rfl rfl ?_ ?_
  all_goals intro h3
  ·rw [ho,JH (by omega)] at e
   repeat first|refine outer _ _ _ (j3,d3) [] ⟨by simp only;omega,hd3,e⟩ ?_;(exact Ki rfl rfl rfl ⟨aC rfl,trivial⟩)|apply cx;rfl
  ·rw [ho,JG (by omega)] at e
   repeat apply ai;rfl
   refine cj (by kernel_rfl) (by kernel_rfl) ?_
   repeat first|apply aS;rfl|refine cu (g:=fun x:Int=> .int .i64 x) rfl rfl rfl (F.ag _ rfl) rfl (by(omega)) (by(omega)) ?_|refine fq (g:=fun x:Int=> .int .i64 x) rfl rfl rfl (fun _=>rfl) (F.sz _ rfl) rfl (by first|omega|(simp only [Je,aN];omega)) (by first|omega|(simp only [Je,aN];omega)) ?_|refine aH (q:=i3) rfl rfl rfl rfl (F.un _ rfl) (F.sz _ rfl) rfl (by omega) (by omega) (by omega) ?_|refine aH (q:=j3) rfl rfl rfl rfl (F.un _ rfl) (F.sz _ rfl) rfl (by omega) (by omega) (by omega) ?_
   refine aA ⟨by kernel_rfl,?_,?_⟩;(focus(repeat(first|exact Kk|apply fv;rfl|apply eK;rfl|refine⟨.inr (by(repeat(refine⟨(by(exact aQ (F.un _ rfl) (F.sz _ rfl) rfl rfl rfl (by omega) (by omega) (by omega))),?_⟩));exact Kk),?_⟩|refine⟨.inl (by kernel_rfl),?_⟩)))
   repeat first|apply ai;rfl|apply aL;rfl;omega;omega
   refine ih _ _ _ ((i3+1,j3-1),Sort.swp d3 i3 j3) [] ⟨by simp only;omega,by simp only;omega,by simp only;omega,by rw [aN];exact hd3,e.symm⟩ (by simp only;omega) ?_
   (refine⟨(J8 rfl),rfl,(by repeat(first|exact Kk|refine⟨rfl,?_⟩|refine⟨fO (by(simp only;omega)),?_⟩)),⟨aC rfl,trivial⟩⟩)
 rintro⟨j3,d3⟩ ⟨hj3,hd3,e⟩
 simp only at hj3 hd3 e ⊢
 rw [e]
 repeat apply ai;rfl
 refine cj (by kernel_rfl) (by kernel_rfl) ?_
 repeat first|apply aS;rfl|refine cu (g:=fun x:Int=> .int .i64 x) rfl rfl rfl (F.ag _ rfl) rfl (by(omega)) (by(omega)) ?_|refine fq (g:=fun x:Int=> .int .i64 x) rfl rfl rfl (fun _=>rfl) (F.sz _ rfl) rfl (by first|omega|(simp only [Je,aN];omega)) (by first|omega|(simp only [Je,aN];omega)) ?_|refine aH (q:=a) rfl rfl rfl rfl (F.un _ rfl) (F.sz _ rfl) rfl (by omega) (by omega) (by omega) ?_|refine aH (q:=j3) rfl rfl rfl rfl (F.un _ rfl) (F.sz _ rfl) rfl (by omega) (by omega) (by omega) ?_
 refine aA ⟨by kernel_rfl,?_,?_⟩;(focus(repeat(first|exact Kk|apply fv;rfl|apply eK;rfl|refine⟨.inr (by(repeat(refine⟨(by(exact aQ (F.un _ rfl) (F.sz _ rfl) rfl rfl rfl (by omega) (by omega) (by omega))),?_⟩));exact Kk),?_⟩|refine⟨.inl (by kernel_rfl),?_⟩)))
 repeat apply ai;rfl
 ((apply bm Tryz.func115 (congrArg Array.toList Tryz.results115));(focus(repeat(first|exact Kb|apply Kd rfl)));refine⟨_,rfl,Ends.mk [] (J8 rfl) rfl rfl ?_⟩)
 exact⟨aC rfl,trivial⟩
theorem nF(h:i<b)(hp:lt d[i]! d[i-1]! =false):Sort.scanSorted lt d b i=Sort.scanSorted lt d b (i+1):=by
 conv=>lhs;rw [Sort.scanSorted,JH (by simp [h,hp])]
theorem gW(h:b≤i∨lt d[i]! d[i-1]! =true):Sort.scanSorted lt d b i=i:=by
 rw [Sort.scanSorted,JG]
 simp only [Ju,J7,Bool.not_eq_true']
 rintro⟨h1,h2⟩
 rcases h with h|h
 ·omega
 ·rw [h] at h2;cases h2
theorem l5(h:j<b)(hp:lt d[j]! d[j-1]! =true):Sort.shiftUp lt b j d=Sort.shiftUp lt b (j+1) (Sort.swp d j (j-1)):=by
 conv=>lhs;rw [Sort.shiftUp,JH h,JG (by simp [hp])]
theorem fj(h:b≤j∨lt d[j]! d[j-1]! =false):Sort.shiftUp lt b j d=d:=by
 rw [Sort.shiftUp]
 split
 ·rename_i h1
  rw [JH]
  rcases h with h|h
  ·omega
  ·simp [h]
 ·rfl
theorem sF{d2 d3:Array (Int)}(hi:Sort.scanSorted lt d b i=i1)(h1:i1≠b)(h2: ¬ b-a<50)
 (e2:(if i1-a≥2 then Sort.shiftDown lt (i1-1) (Sort.swp d i1 (i1-1)) else Sort.swp d i1 (i1-1))=d2) (e3:(if b-i1≥2 then Sort.shiftUp lt b (i1+1) d2 else d2)=d3):Sort.partialIns lt a b (s+1) i d=Sort.partialIns lt a b s i1 d3:=by
 rw [Sort.partialIns]
 simp only [hi,JG h1,JG h2]
 rw [e2,e3]
theorem sE(hi:Sort.scanSorted lt d b i=i1)(h1:i1=b):Sort.partialIns lt a b (s+1) i d=(d,true):=by
 rw [Sort.partialIns]
 simp only [hi,JH h1]
theorem qN(hi:Sort.scanSorted lt d b i=i1)(h1:i1≠b)(h2:b-a<50):Sort.partialIns lt a b (s+1) i d=(d,false):=by
 rw [Sort.partialIns]
 simp only [hi,JG h1,JH h2]
theorem sG(n a b:Nat)(d:Array (Int))(hn:n<4611686018427387904)(hd:d.size=n)(hab:a<b)(hb:b≤n) :
 Ctr Tryz.prog 112 [.slu 0 0 n,.sc (.int .i64 (a:Int)),.sc (.int .i64 (b:Int))] [b7 n d] (fun c=>c=⟨.sc (.bool (Sort.partialInsertionSort bl d a b).2),[some (b7 n (Sort.partialInsertionSort bl d a b).1)]⟩):=by
 refine Ka Tryz.func112 rfl rfl ?_
 repeat first|apply ai;rfl|apply aL;rfl;omega;omega
 refine gq 1 (fun s:(Nat×Nat)×Array (Int)=> [(0,.slu 0 0 n),(1,.sc (.int .i64 (a:Int))),(2,.sc (.int .i64 (b:Int))),(7,.sc (.int .i64 (s.1.2:Int))),(8,.sc (.int .i64 ((5-s.1.1:Nat):Int)))]) (fun s=> [some (b7 n s.2)]) (fun s=>s.1.1≤5∧a+1≤s.1.2∧s.1.2≤b∧s.2.size=n∧Sort.partialIns bl a b s.1.1 s.1.2 s.2=Sort.partialInsertionSort bl d a b) (fun s=>s.1.1) ((5,a+1),d) []
  (fun _=>rfl) ⟨Jv _,Jv _,hab,hd,rfl⟩ ?_ (fun _=>rfl) (fun _=>rfl) ?_
 ·(exact Ki rfl rfl rfl ⟨aC rfl,trivial⟩)
 rintro⟨⟨s,i⟩,d0⟩ ⟨hs,hai,hi,hd0,ho⟩ ih
 simp only at hs hai hi hd0 ho ih ⊢
 repeat apply ai;rfl
 refine bn rfl rfl rfl rfl ?_ ?_
 all_goals intro h0
 ·obtain⟨s,rfl⟩: ∃ s',s=s'+1:=⟨s-1,by omega⟩
  repeat apply ai;rfl
  refine gp 1 (fun x:Nat=> [(0,.slu 0 0 n),(1,.sc (.int .i64 (a:Int))),(2,.sc (.int .i64 (b:Int))),(7,.sc (.int .i64 (x:Int))),(8,.sc (.int .i64 ((5-(s+1):Nat):Int)))]) (fun _=> [some (b7 n d0)]) (fun x=>a+1≤x∧x≤b∧Sort.scanSorted bl d0 b x=Sort.scanSorted bl d0 b i) (fun x=>b-x) i []
   1 (fun x:Nat=> [(0,.slu 0 0 n),(1,.sc (.int .i64 (a:Int))),(2,.sc (.int .i64 (b:Int))),(7,.sc (.int .i64 (x:Int))),(8,.sc (.int .i64 ((5-(s+1):Nat):Int)))]) (fun _=> [some (b7 n d0)]) (fun x=>a+1≤x∧x≤b∧Sort.scanSorted bl d0 b i=x)
   (fun _=>rfl) (fun _=>rfl) ⟨hai,hi,rfl⟩ ?_ (fun _=>rfl) (fun _=>rfl) ?_ ?_
  ·(exact Ki rfl rfl rfl ⟨aC rfl,trivial⟩)
  ·rintro i1 ⟨hai1,hi1,hu⟩ ihu out
   repeat apply ai;rfl
   refine cj (by kernel_rfl) (by kernel_rfl) ?_
   repeat apply aS;rfl
   refine cK rfl rfl rfl rfl ?_ ?_
   all_goals intro h1
   ·have hls_h2:=fQ (d0[i1]!) (d0[i1-1]!)
    cases h2:bl (d0[i1]!) (d0[i1-1]!)
    all_goals rw [h2] at hls_h2
    rotate_left
    all_goals(repeat(first|apply aS;rfl|refine bj (aw rfl rfl (.inr (.inl ⟨rfl,(Jd _ ⟨(by omega),(by omega)⟩).symm⟩))) rfl rfl rfl ?_|refine cu (g:=fun x:Int=> .int .i64 x) rfl rfl rfl (F.ag _ rfl) rfl (by(omega)) (by(omega)) ?_|refine aH (q:=i1) rfl rfl rfl rfl (F.un _ rfl) (F.sz _ rfl) rfl (by omega) (by omega) (by omega) ?_|refine aH (q:=i1-1) rfl rfl rfl rfl (F.un _ rfl) (F.sz _ rfl) rfl (by omega) (by omega) (by omega) ?_|refine bT rfl rfl rfl (by kernel_rfl) (Ctr.callV (hls_h2) [] rfl (J8 rfl) rfl trivial rfl) ?_))
    ·skip
     refine aA ⟨by kernel_rfl,?_,?_⟩;(focus(repeat(first|exact Kk|apply fv;rfl|apply eK;rfl|refine⟨.inr (by(repeat(refine⟨(by first|exact aQ (F.un _ rfl) (F.sz _ rfl) rfl rfl rfl (by omega) (by omega) (by omega)|exact aw rfl rfl (.inr (.inl ⟨rfl,(Jd _ ⟨by omega,by omega⟩).symm⟩))),?_⟩));exact Kk),?_⟩|refine⟨.inl (by kernel_rfl),?_⟩)))
     repeat first|refine out _ _ _ i1 [] ⟨hai1,hi1,by rw [← hu];exact gW (.inr (by simpa [bl] using h2))⟩ ?_;(exact Ki rfl rfl rfl ⟨aC rfl,trivial⟩)|apply cx;rfl
    ·skip
     refine aA ⟨by kernel_rfl,?_,?_⟩;(focus(repeat(first|exact Kk|apply fv;rfl|apply eK;rfl|refine⟨.inr (by(repeat(refine⟨(by first|exact aQ (F.un _ rfl) (F.sz _ rfl) rfl rfl rfl (by omega) (by omega) (by omega)|exact aw rfl rfl (.inr (.inl ⟨rfl,(Jd _ ⟨by omega,by omega⟩).symm⟩))),?_⟩));exact Kk),?_⟩|refine⟨.inl (by kernel_rfl),?_⟩)))
     repeat first|apply ai;rfl|apply aL;rfl;omega;omega
     refine ihu _ _ _ (i1+1) [] ⟨by omega,by omega,?_⟩ (by omega) ?_
     ·rw [← hu]
      exact(nF (by omega) (by simpa [bl] using h2)).symm
     ·(exact Ki rfl rfl rfl ⟨aC rfl,trivial⟩)
   ·repeat first|apply aS;rfl|refine cq rfl rfl ?_
    refine aA ⟨by kernel_rfl,?_,?_⟩;(focus(repeat(first|exact Kk|apply AE;rfl|apply eK;rfl|refine⟨.inl rfl,?_⟩)))
    repeat first|refine out _ _ _ i1 [] ⟨hai1,hi1,by rw [← hu];exact gW (.inl (by omega))⟩ ?_;(exact Ki rfl rfl rfl ⟨aC rfl,trivial⟩)|apply cx;rfl
  rintro i1 ⟨hai1,hi1,hu⟩
  repeat apply ai;rfl
  refine cF rfl rfl rfl rfl ?_ ?_
  all_goals intro h1
  ·rw [sE hu (by omega)] at ho
   repeat apply ai;rfl
   rw [← ho]
   ((apply bm Tryz.func112 (congrArg Array.toList Tryz.results112));(focus(repeat(first|exact Kb|apply Kd rfl)));refine⟨_,rfl,Ends.mk [] (J8 rfl) rfl rfl ?_⟩)
   exact⟨aC rfl,trivial⟩
  repeat first|apply ai;rfl|apply aL;rfl;omega;omega
  refine bn rfl rfl rfl rfl ?_ ?_
  all_goals intro h2
  ·rw [qN hu (by omega) (by omega)] at ho
   repeat apply ai;rfl
   rw [← ho]
   ((apply bm Tryz.func112 (congrArg Array.toList Tryz.results112));(focus(repeat(first|exact Kb|apply Kd rfl)));refine⟨_,rfl,Ends.mk [] (J8 rfl) rfl rfl ?_⟩)
   exact⟨aC rfl,trivial⟩
  repeat apply ai;rfl
  refine cj (by kernel_rfl) (by kernel_rfl) ?_
  repeat first|apply aS;rfl|refine bj (aw rfl rfl (.inr (.inl ⟨rfl,(Jd _ ⟨(by omega),(by omega)⟩).symm⟩))) rfl rfl rfl ?_|refine cu (g:=fun x:Int=> .int .i64 x) rfl rfl rfl (F.ag _ rfl) rfl (by(omega)) (by(omega)) ?_|refine fq (g:=fun x:Int=> .int .i64 x) rfl rfl rfl (fun _=>rfl) (F.sz _ rfl) rfl (by first|omega|(simp only [Je,aN];omega)) (by first|omega|(simp only [Je,aN];omega)) ?_|refine aH (q:=i1) rfl rfl rfl rfl (F.un _ rfl) (F.sz _ rfl) rfl (by omega) (by omega) (by omega) ?_|refine aH (q:=i1-1) rfl rfl rfl rfl (F.un _ rfl) (F.sz _ rfl) rfl (by omega) (by omega) (by omega) ?_
  refine aA ⟨by kernel_rfl,?_,?_⟩;(focus(repeat(first|exact Kk|apply fv;rfl|apply eK;rfl|refine⟨.inr (by(repeat(refine⟨(by first|exact aQ (F.un _ rfl) (F.sz _ rfl) rfl rfl rfl (by omega) (by omega) (by omega)|exact aw rfl rfl (.inr (.inl ⟨rfl,(Jd _ ⟨by omega,by omega⟩).symm⟩))),?_⟩));exact Kk),?_⟩|refine⟨.inl (by kernel_rfl),?_⟩)))
  have hd1:(Sort.swp d0 i1 (i1-1)).size=n:=by rw [aN];exact hd0
  have e2: ∃ d2,(if i1-a≥2 then Sort.shiftDown bl (i1-1) (Sort.swp d0 i1 (i1-1)) else Sort.swp d0 i1 (i1-1))=d2:=⟨_,rfl⟩
  obtain⟨d2,e2⟩:=e2
  have hps:=fun d3 e3=>sF (s:=s) (d3:=d3) hu (by omega) (by omega) e2 e3
  generalize hsw:Sort.swp d0 i1 (i1-1)=d1 at e2 hd1
  have hsw':(d0.setIfInBounds i1 d0[i1-1]!).setIfInBounds (i1-1) d0[i1]! =d1:=hsw
  rw [hsw']
  repeat first|apply ai;rfl|apply aL;rfl;omega;omega
  refine eN rfl rfl rfl rfl ?_ ?_
  all_goals intro h3
  ·rw [JH (by omega)] at e2
   repeat first|apply ai;rfl|apply aL;rfl;omega;omega
   refine gp 1 (fun s1:Nat×Array (Int)=> [(0,.slu 0 0 n),(1,.sc (.int .i64 (a:Int))),(2,.sc (.int .i64 (b:Int))),(7,.sc (.int .i64 (i1:Int))),(8,.sc (.int .i64 ((5-(s+1):Nat):Int))),(9,.sc (.int .i64 (s1.1:Int)))]) (fun s1=> [some (b7 n s1.2)]) (fun s1=>s1.1≤i1-1∧s1.2.size=n∧Sort.shiftDown bl s1.1 s1.2=d2) (fun s1=>s1.1) (i1-1,d1) []
    1 (fun d':Array (Int)=> [(0,.slu 0 0 n),(1,.sc (.int .i64 (a:Int))),(2,.sc (.int .i64 (b:Int))),(7,.sc (.int .i64 (i1:Int))),(8,.sc (.int .i64 ((5-(s+1):Nat):Int)))]) (fun d'=> [some (b7 n d')]) (fun d'=>d'.size=n∧d'=d2)
    (fun _=>rfl) (fun _=>rfl) ⟨Jv _,hd1,e2⟩ ?_ (fun _=>rfl) (fun _=>rfl) ?_ ?_
   ·(refine⟨(J8 rfl),rfl,(by repeat(first|exact Kk|refine⟨rfl,?_⟩|refine⟨fO (by(omega)),?_⟩)),⟨aC rfl,trivial⟩⟩)
   ·rintro⟨j,d'⟩ ⟨hj,hd',hsd⟩ ihd out
    simp only at hj hd' hsd ihd ⊢
    repeat apply ai;rfl
    refine eN rfl rfl rfl rfl ?_ ?_
    all_goals intro h4
    ·obtain⟨j,rfl⟩: ∃ j',j=j'+1:=⟨j-1,by omega⟩
     repeat apply ai;rfl
     refine cj (by kernel_rfl) (by kernel_rfl) ?_
     have hls_h5:=fQ (d'[j+1]!) (d'[j]!)
     cases h5:bl (d'[j+1]!) (d'[j]!)
     all_goals rw [h5] at hls_h5
     rotate_left
     all_goals(repeat(first|apply aS;rfl|refine bj (aw rfl rfl (.inr (.inl ⟨rfl,(Jd _ ⟨(by omega),(by omega)⟩).symm⟩))) rfl rfl rfl ?_|refine cu (g:=fun x:Int=> .int .i64 x) rfl rfl rfl (F.ag _ rfl) rfl (by(omega)) (by(omega)) ?_|refine aH (q:=j+1) rfl rfl rfl rfl (F.un _ rfl) (F.sz _ rfl) rfl (by omega) (by omega) (by omega) ?_|refine aH (q:=j) rfl rfl rfl rfl (F.un _ rfl) (F.sz _ rfl) rfl (by omega) (by omega) (by omega) ?_|refine bT rfl rfl rfl (by kernel_rfl) (Ctr.callV (hls_h5) [] rfl (J8 rfl) rfl trivial rfl) ?_))
     ·skip
      refine aA ⟨by kernel_rfl,?_,?_⟩;(focus(repeat(first|exact Kk|apply fv;rfl|apply eK;rfl|refine⟨.inr (by(repeat(refine⟨(by first|exact aQ (F.un _ rfl) (F.sz _ rfl) rfl rfl rfl (by omega) (by omega) (by omega)|exact aw rfl rfl (.inr (.inl ⟨rfl,(Jd _ ⟨by omega,by omega⟩).symm⟩))),?_⟩));exact Kk),?_⟩|refine⟨.inl (by kernel_rfl),?_⟩)))
      repeat apply ai;rfl
      refine cj (by kernel_rfl) (by kernel_rfl) ?_
      repeat first|apply aS;rfl|refine bj (aw rfl rfl (.inr (.inl ⟨rfl,(Jd _ ⟨(by omega),(by omega)⟩).symm⟩))) rfl rfl rfl ?_|refine cu (g:=fun x:Int=> .int .i64 x) rfl rfl rfl (F.ag _ rfl) rfl (by(omega)) (by(omega)) ?_|refine fq (g:=fun x:Int=> .int .i64 x) rfl rfl rfl (fun _=>rfl) (F.sz _ rfl) rfl (by first|omega|(simp only [Je,aN];omega)) (by first|omega|(simp only [Je,aN];omega)) ?_|refine aH (q:=j+1) rfl rfl rfl rfl (F.un _ rfl) (F.sz _ rfl) rfl (by omega) (by omega) (by omega) ?_|refine aH (q:=j) rfl rfl rfl rfl (F.un _ rfl) (F.sz _ rfl) rfl (by omega) (by omega) (by omega) ?_
      refine aA ⟨by kernel_rfl,?_,?_⟩;(focus(repeat(first|exact Kk|apply fv;rfl|apply eK;rfl|refine⟨.inr (by(repeat(refine⟨(by first|exact aQ (F.un _ rfl) (F.sz _ rfl) rfl rfl rfl (by omega) (by omega) (by omega)|exact aw rfl rfl (.inr (.inl ⟨rfl,(Jd _ ⟨by omega,by omega⟩).symm⟩))),?_⟩));exact Kk),?_⟩|refine⟨.inl (by kernel_rfl),?_⟩)))
      repeat first|apply ai;rfl|apply aL;rfl;omega;omega
      refine ihd _ _ _ (j,Sort.swp d' (j+1) j) [] ⟨by simp only;omega,by rw [aN];exact hd',?_⟩ (by simp only;omega) ?_
      ·rw [← hsd]
       conv=>rhs;rw [Sort.shiftDown,JG (by simpa [bl] using h5)]
      ·(refine⟨(J8 rfl),rfl,(by repeat(first|exact Kk|refine⟨rfl,?_⟩|refine⟨fO (by(omega)),?_⟩)),⟨aC rfl,trivial⟩⟩)
     ·skip
      refine aA ⟨by kernel_rfl,?_,?_⟩;(focus(repeat(first|exact Kk|apply fv;rfl|apply eK;rfl|refine⟨.inr (by(repeat(refine⟨(by first|exact aQ (F.un _ rfl) (F.sz _ rfl) rfl rfl rfl (by omega) (by omega) (by omega)|exact aw rfl rfl (.inr (.inl ⟨rfl,(Jd _ ⟨by omega,by omega⟩).symm⟩))),?_⟩));exact Kk),?_⟩|refine⟨.inl (by kernel_rfl),?_⟩)))
      repeat first|refine out _ _ _ d' [] ⟨hd',by rw [← hsd,Sort.shiftDown,JH (by simpa [bl] using h5)]⟩ ?_;(exact Ki rfl rfl rfl ⟨aC rfl,trivial⟩)|apply cx;rfl
    ·obtain rfl:j=0:=by omega
     repeat first|refine out _ _ _ d' [] ⟨hd',hsd⟩ ?_;(exact Ki rfl rfl rfl ⟨aC rfl,trivial⟩)|apply cx;rfl
   rintro d2' ⟨hd2,rfl⟩
   repeat first|apply ai;rfl|apply aL;rfl;omega;omega
   refine eN rfl rfl rfl rfl ?_ ?_
   all_goals intro h6
   ·repeat first|apply ai;rfl|apply aL;rfl;omega;omega
    refine gp 1 (fun s1:Nat×Array (Int)=> [(0,.slu 0 0 n),(1,.sc (.int .i64 (a:Int))),(2,.sc (.int .i64 (b:Int))),(7,.sc (.int .i64 (i1:Int))),(8,.sc (.int .i64 ((5-(s+1):Nat):Int))),(10,.sc (.int .i64 (s1.1:Int)))]) (fun s1=> [some (b7 n s1.2)]) (fun s1=>i1+1≤s1.1∧s1.1≤b∧s1.2.size=n∧Sort.shiftUp bl b s1.1 s1.2=Sort.shiftUp bl b (i1+1) d2') (fun s1=>b-s1.1) (i1+1,d2') []
     1 (fun d':Array (Int)=> [(0,.slu 0 0 n),(1,.sc (.int .i64 (a:Int))),(2,.sc (.int .i64 (b:Int))),(7,.sc (.int .i64 (i1:Int))),(8,.sc (.int .i64 ((5-(s+1):Nat):Int)))]) (fun d'=> [some (b7 n d')]) (fun d'=>d'.size=n∧Sort.shiftUp bl b (i1+1) d2'=d')
     (fun _=>rfl) (fun _=>rfl) ⟨Jv _,by simp only;omega,hd2,rfl⟩ ?_ (fun _=>rfl) (fun _=>rfl) ?_ ?_
    ·(exact Ki rfl rfl rfl ⟨aC rfl,trivial⟩)
    ·rintro⟨j,d'⟩ ⟨hj,hjb,hd',hsd⟩ ihd out
     simp only at hj hjb hd' hsd ihd ⊢
     repeat apply ai;rfl
     refine bn rfl rfl rfl rfl ?_ ?_
     all_goals intro h4
     ·repeat apply ai;rfl
      refine cj (by kernel_rfl) (by kernel_rfl) ?_
      have hls_h5:=fQ (d'[j]!) (d'[j-1]!)
      cases h5:bl (d'[j]!) (d'[j-1]!)
      all_goals rw [h5] at hls_h5
      rotate_left
      all_goals(repeat(first|apply aS;rfl|refine bj (aw rfl rfl (.inr (.inl ⟨rfl,(Jd _ ⟨(by omega),(by omega)⟩).symm⟩))) rfl rfl rfl ?_|refine cu (g:=fun x:Int=> .int .i64 x) rfl rfl rfl (F.ag _ rfl) rfl (by(omega)) (by(omega)) ?_|refine aH (q:=j) rfl rfl rfl rfl (F.un _ rfl) (F.sz _ rfl) rfl (by omega) (by omega) (by omega) ?_|refine aH (q:=j-1) rfl rfl rfl rfl (F.un _ rfl) (F.sz _ rfl) rfl (by omega) (by omega) (by omega) ?_|refine bT rfl rfl rfl (by kernel_rfl) (Ctr.callV (hls_h5) [] rfl (J8 rfl) rfl trivial rfl) ?_))
      ·skip
       refine aA ⟨by kernel_rfl,?_,?_⟩;(focus(repeat(first|exact Kk|apply fv;rfl|apply eK;rfl|refine⟨.inr (by(repeat(refine⟨(by first|exact aQ (F.un _ rfl) (F.sz _ rfl) rfl rfl rfl (by omega) (by omega) (by omega)|exact aw rfl rfl (.inr (.inl ⟨rfl,(Jd _ ⟨by omega,by omega⟩).symm⟩))),?_⟩));exact Kk),?_⟩|refine⟨.inl (by kernel_rfl),?_⟩)))
       repeat apply ai;rfl
       refine cj (by kernel_rfl) (by kernel_rfl) ?_
       repeat first|apply aS;rfl|refine bj (aw rfl rfl (.inr (.inl ⟨rfl,(Jd _ ⟨(by omega),(by omega)⟩).symm⟩))) rfl rfl rfl ?_|refine cu (g:=fun x:Int=> .int .i64 x) rfl rfl rfl (F.ag _ rfl) rfl (by(omega)) (by(omega)) ?_|refine fq (g:=fun x:Int=> .int .i64 x) rfl rfl rfl (fun _=>rfl) (F.sz _ rfl) rfl (by first|omega|(simp only [Je,aN];omega)) (by first|omega|(simp only [Je,aN];omega)) ?_|refine aH (q:=j) rfl rfl rfl rfl (F.un _ rfl) (F.sz _ rfl) rfl (by omega) (by omega) (by omega) ?_|refine aH (q:=j-1) rfl rfl rfl rfl (F.un _ rfl) (F.sz _ rfl) rfl (by omega) (by omega) (by omega) ?_
       refine aA ⟨by kernel_rfl,?_,?_⟩;(focus(repeat(first|exact Kk|apply fv;rfl|apply eK;rfl|refine⟨.inr (by(repeat(refine⟨(by first|exact aQ (F.un _ rfl) (F.sz _ rfl) rfl rfl rfl (by omega) (by omega) (by omega)|exact aw rfl rfl (.inr (.inl ⟨rfl,(Jd _ ⟨by omega,by omega⟩).symm⟩))),?_⟩));exact Kk),?_⟩|refine⟨.inl (by kernel_rfl),?_⟩)))
       repeat first|apply ai;rfl|apply aL;rfl;omega;omega
       refine ihd _ _ _ (j+1,Sort.swp d' j (j-1)) [] ⟨by simp only;omega,by simp only;omega,by rw [aN];exact hd',?_⟩ (by simp only;omega) ?_
       ·rw [← hsd]
        exact(l5 (by omega) (by simpa [bl] using h5)).symm
       ·(exact Ki rfl rfl rfl ⟨aC rfl,trivial⟩)
      ·skip
       refine aA ⟨by kernel_rfl,?_,?_⟩;(focus(repeat(first|exact Kk|apply fv;rfl|apply eK;rfl|refine⟨.inr (by(repeat(refine⟨(by first|exact aQ (F.un _ rfl) (F.sz _ rfl) rfl rfl rfl (by omega) (by omega) (by omega)|exact aw rfl rfl (.inr (.inl ⟨rfl,(Jd _ ⟨by omega,by omega⟩).symm⟩))),?_⟩));exact Kk),?_⟩|refine⟨.inl (by kernel_rfl),?_⟩)))
       repeat first|refine out _ _ _ d' [] ⟨hd',by rw [← hsd];exact fj (.inr (by simpa [bl] using h5))⟩ ?_;(exact Ki rfl rfl rfl ⟨aC rfl,trivial⟩)|apply cx;rfl
     ·repeat first|refine out _ _ _ d' [] ⟨hd',by rw [← hsd];exact fj (.inl (by omega))⟩ ?_;(exact Ki rfl rfl rfl ⟨aC rfl,trivial⟩)|apply cx;rfl
    rintro d3 ⟨hd3,e3⟩
    repeat first|apply ai;rfl|apply aL;rfl;omega;omega
    refine ih _ _ _ ((s,i1),d3) [] ⟨by simp only;omega,hai1,hi1,hd3,by rw [← ho];exact(hps d3 (by rw [JH (by omega)];exact e3)).symm⟩ (by simp only;omega) ?_
    (refine⟨(J8 rfl),rfl,(by repeat(first|exact Kk|refine⟨rfl,?_⟩|refine⟨fO (by(simp only;omega)),?_⟩)),⟨aC rfl,trivial⟩⟩)
   ·repeat first|apply ai;rfl|apply aL;rfl;omega;omega
    refine ih _ _ _ ((s,i1),d2') [] ⟨by simp only;omega,hai1,hi1,hd2,by rw [← ho];exact(hps d2' (by rw [JG (by omega)])).symm⟩ (by simp only;omega) ?_
    (refine⟨(J8 rfl),rfl,(by repeat(first|exact Kk|refine⟨rfl,?_⟩|refine⟨fO (by(simp only;omega)),?_⟩)),⟨aC rfl,trivial⟩⟩)
  ·rw [JG (by omega)] at e2
   subst e2
   have hd2:=hd1
   repeat first|apply ai;rfl|apply aL;rfl;omega;omega
   refine eN rfl rfl rfl rfl ?_ ?_
   all_goals intro h6
   ·repeat first|apply ai;rfl|apply aL;rfl;omega;omega
    refine gp 1 (fun s1:Nat×Array (Int)=> [(0,.slu 0 0 n),(1,.sc (.int .i64 (a:Int))),(2,.sc (.int .i64 (b:Int))),(7,.sc (.int .i64 (i1:Int))),(8,.sc (.int .i64 ((5-(s+1):Nat):Int))),(10,.sc (.int .i64 (s1.1:Int)))]) (fun s1=> [some (b7 n s1.2)]) (fun s1=>i1+1≤s1.1∧s1.1≤b∧s1.2.size=n∧Sort.shiftUp bl b s1.1 s1.2=Sort.shiftUp bl b (i1+1) d1) (fun s1=>b-s1.1) (i1+1,d1) []
     1 (fun d':Array (Int)=> [(0,.slu 0 0 n),(1,.sc (.int .i64 (a:Int))),(2,.sc (.int .i64 (b:Int))),(7,.sc (.int .i64 (i1:Int))),(8,.sc (.int .i64 ((5-(s+1):Nat):Int)))]) (fun d'=> [some (b7 n d')]) (fun d'=>d'.size=n∧Sort.shiftUp bl b (i1+1) d1=d')
     (fun _=>rfl) (fun _=>rfl) ⟨Jv _,by simp only;omega,hd2,rfl⟩ ?_ (fun _=>rfl) (fun _=>rfl) ?_ ?_
    ·(exact Ki rfl rfl rfl ⟨aC rfl,trivial⟩)
    ·rintro⟨j,d'⟩ ⟨hj,hjb,hd',hsd⟩ ihd out
     simp only at hj hjb hd' hsd ihd ⊢
     repeat apply ai;rfl
     refine bn rfl rfl rfl rfl ?_ ?_
     all_goals intro h4
     ·repeat apply ai;rfl
      refine cj (by kernel_rfl) (by kernel_rfl) ?_
      have hls_h5:=fQ (d'[j]!) (d'[j-1]!)
      cases h5:bl (d'[j]!) (d'[j-1]!)
      all_goals rw [h5] at hls_h5
      rotate_left
      all_goals(repeat(first|apply aS;rfl|refine bj (aw rfl rfl (.inr (.inl ⟨rfl,(Jd _ ⟨(by omega),(by omega)⟩).symm⟩))) rfl rfl rfl ?_|refine cu (g:=fun x:Int=> .int .i64 x) rfl rfl rfl (F.ag _ rfl) rfl (by(omega)) (by(omega)) ?_|refine aH (q:=j) rfl rfl rfl rfl (F.un _ rfl) (F.sz _ rfl) rfl (by omega) (by omega) (by omega) ?_|refine aH (q:=j-1) rfl rfl rfl rfl (F.un _ rfl) (F.sz _ rfl) rfl (by omega) (by omega) (by omega) ?_|refine bT rfl rfl rfl (by kernel_rfl) (Ctr.callV (hls_h5) [] rfl (J8 rfl) rfl trivial rfl) ?_))
      ·skip
       refine aA ⟨by kernel_rfl,?_,?_⟩;(focus(repeat(first|exact Kk|apply fv;rfl|apply eK;rfl|refine⟨.inr (by(repeat(refine⟨(by first|exact aQ (F.un _ rfl) (F.sz _ rfl) rfl rfl rfl (by omega) (by omega) (by omega)|exact aw rfl rfl (.inr (.inl ⟨rfl,(Jd _ ⟨by omega,by omega⟩).symm⟩))),?_⟩));exact Kk),?_⟩|refine⟨.inl (by kernel_rfl),?_⟩)))
       repeat apply ai;rfl
       refine cj (by kernel_rfl) (by kernel_rfl) ?_
       repeat first|apply aS;rfl|refine bj (aw rfl rfl (.inr (.inl ⟨rfl,(Jd _ ⟨(by omega),(by omega)⟩).symm⟩))) rfl rfl rfl ?_|refine cu (g:=fun x:Int=> .int .i64 x) rfl rfl rfl (F.ag _ rfl) rfl (by(omega)) (by(omega)) ?_|refine fq (g:=fun x:Int=> .int .i64 x) rfl rfl rfl (fun _=>rfl) (F.sz _ rfl) rfl (by first|omega|(simp only [Je,aN];omega)) (by first|omega|(simp only [Je,aN];omega)) ?_|refine aH (q:=j) rfl rfl rfl rfl (F.un _ rfl) (F.sz _ rfl) rfl (by omega) (by omega) (by omega) ?_|refine aH (q:=j-1) rfl rfl rfl rfl (F.un _ rfl) (F.sz _ rfl) rfl (by omega) (by omega) (by omega) ?_
       refine aA ⟨by kernel_rfl,?_,?_⟩;(focus(repeat(first|exact Kk|apply fv;rfl|apply eK;rfl|refine⟨.inr (by(repeat(refine⟨(by first|exact aQ (F.un _ rfl) (F.sz _ rfl) rfl rfl rfl (by omega) (by omega) (by omega)|exact aw rfl rfl (.inr (.inl ⟨rfl,(Jd _ ⟨by omega,by omega⟩).symm⟩))),?_⟩));exact Kk),?_⟩|refine⟨.inl (by kernel_rfl),?_⟩)))
       repeat first|apply ai;rfl|apply aL;rfl;omega;omega
       refine ihd _ _ _ (j+1,Sort.swp d' j (j-1)) [] ⟨by simp only;omega,by simp only;omega,by rw [aN];exact hd',?_⟩ (by simp only;omega) ?_
       ·rw [← hsd]
        exact(l5 (by omega) (by simpa [bl] using h5)).symm
       ·(exact Ki rfl rfl rfl ⟨aC rfl,trivial⟩)
      ·skip
       refine aA ⟨by kernel_rfl,?_,?_⟩;(focus(repeat(first|exact Kk|apply fv;rfl|apply eK;rfl|refine⟨.inr (by(repeat(refine⟨(by first|exact aQ (F.un _ rfl) (F.sz _ rfl) rfl rfl rfl (by omega) (by omega) (by omega)|exact aw rfl rfl (.inr (.inl ⟨rfl,(Jd _ ⟨by omega,by omega⟩).symm⟩))),?_⟩));exact Kk),?_⟩|refine⟨.inl (by kernel_rfl),?_⟩)))
       repeat first|refine out _ _ _ d' [] ⟨hd',by rw [← hsd];exact fj (.inr (by simpa [bl] using h5))⟩ ?_;(exact Ki rfl rfl rfl ⟨aC rfl,trivial⟩)|apply cx;rfl
     ·repeat first|refine out _ _ _ d' [] ⟨hd',by rw [← hsd];exact fj (.inl (by omega))⟩ ?_;(exact Ki rfl rfl rfl ⟨aC rfl,trivial⟩)|apply cx;rfl
    rintro d3 ⟨hd3,e3⟩
    repeat first|apply ai;rfl|apply aL;rfl;omega;omega
    refine ih _ _ _ ((s,i1),d3) [] ⟨by simp only;omega,hai1,hi1,hd3,by rw [← ho];exact(hps d3 (by rw [JH (by omega)];exact e3)).symm⟩ (by simp only;omega) ?_
    (refine⟨(J8 rfl),rfl,(by repeat(first|exact Kk|refine⟨rfl,?_⟩|refine⟨fO (by(simp only;omega)),?_⟩)),⟨aC rfl,trivial⟩⟩)
   ·repeat first|apply ai;rfl|apply aL;rfl;omega;omega
    refine ih _ _ _ ((s,i1),d1) [] ⟨by simp only;omega,hai1,hi1,hd2,by rw [← ho];exact(hps d1 (by rw [JG (by omega)])).symm⟩ (by simp only;omega) ?_
    (refine⟨(J8 rfl),rfl,(by repeat(first|exact Kk|refine⟨rfl,?_⟩|refine⟨fO (by(omega)),?_⟩)),⟨aC rfl,trivial⟩⟩)
 ·obtain rfl:s=0:=by omega
  repeat apply ai;rfl
  rw [← ho]
  ((apply bm Tryz.func112 (congrArg Array.toList Tryz.results112));(focus(repeat(first|exact Kb|apply Kd rfl)));refine⟨_,rfl,Ends.mk [] (J8 rfl) rfl rfl ?_⟩)
  exact⟨aC rfl,trivial⟩
def sK(a len m:Nat):Nat→UInt64×Array (Int)→Nat→UInt64×Array (Int)
 | 0,st,_=>st
 | k+1,st,i=>sK a len m k (Sort.breakStep a len m st i) (i+1)
theorem ul(n a b:Nat)(d:Array (Int))(hn:n<65536)(hd:d.size=n)(hab:a≤b)(hb:b≤n) :
 Ctr Tryz.prog 109 [.slu 0 0 n,.sc (.int .i64 (a:Int)),.sc (.int .i64 (b:Int))] [b7 n d] (fun c=>c=⟨.tup [],[some (b7 n (Sort.breakPatterns d a b))]⟩):=by
 have eba:(b:Int)-(a:Int)=((b-a:Nat):Int):=by omega
 refine Ka Tryz.func109 rfl rfl ?_
 repeat first|apply ai;rfl|apply aL;rfl;omega;omega
 rw [eba]
 have ebp:Sort.breakPatterns d a b=Sort.breakPatterns d a b:=rfl
 conv at ebp=>rhs;unfold Sort.breakPatterns
 simp only at ebp
 refine eN rfl rfl rfl rfl ?_ ?_
 all_goals intro h1
 ·rw [JH (by omega)] at ebp
  have ep:Sort.bitsLen (b-a)≤16:=qf (by omega)
  have eq1:(1:Nat) <<< Sort.bitsLen (b-a)=2 ^ Sort.bitsLen (b-a):=by rw [Nat.shiftLeft_eq,Nat.one_mul]
  have eq2:2 ^ Sort.bitsLen (b-a)≤2*(b-a):=Sort.two_pow_bitsLen_le (by omega)
  have eq3:0<2 ^ Sort.bitsLen (b-a):=Nat.pow_pos (by decide)
  repeat first|apply ai;rfl|apply aG;rfl;(focus((repeat(exact ae));done));rfl|apply aL;rfl;omega;omega|refine cd (pR rfl rfl (by omega) (jw (by omega) (by omega) (by omega))) rfl rfl rfl ?_|refine cd (bR (F.un _ rfl) (F.un _ rfl) rfl (show _=((b-a:Nat):Int)from J5 _ ⟨by omega,by omega⟩)) rfl rfl rfl ?_|refine og (yX (b-a) (by omega)) [] rfl rfl rfl (by kernel_rfl) rfl (J8 rfl) rfl trivial ?_
  rw [eq1] at ebp
  generalize hm:2 ^ Sort.bitsLen (b-a)=m at ebp eq2 eq3
  have e4:(a:Int)+((b-a:Nat):Int) / 4*2-1=((a+(b-a) / 4*2-1:Nat):Int):=by omega
  rw [e4]
  have hbase:a+(b-a) / 4*2-1+3≤b:=by omega
  have hlt:0<a+(b-a) / 4*2:=by omega
  generalize hbs:a+(b-a) / 4*2-1=base at ebp hbase
  have ht:Sort.breakPatterns d a b=(sK a (b-a) m 3 (UInt64.ofNat (b-a),d) base).2:=ebp
  refine gq 2 (fun s:(Nat×UInt64)×Array (Int)=> [(0,.slu 0 0 n),(1,.sc (.int .i64 (a:Int))),(6,.sc (.int .i64 ((b-a:Nat):Int))),(7,.ptr 1 0),(8,.sc (.int .u64 (m:Int))),(9,.sc (.int .i64 ((base+3-s.1.1:Nat):Int)))]) (fun s=> [some (b7 n s.2),some (xsO s.1.2.toNat)]) (fun s=>s.1.1≤3∧s.2.size=n∧(sK a (b-a) m s.1.1 (s.1.2,s.2) (base+3-s.1.1)).2=Sort.breakPatterns d a b) (fun s=>s.1.1) ((3,UInt64.ofNat (b-a)),d) [1]
   (fun _=>rfl) ⟨Jv _,hd,by rw [ht];rfl⟩ ?_ (fun _=>rfl) (fun _=>rfl) ?_
  ·have e0:(UInt64.ofNat (b-a)).toNat=b-a:=by rw [UInt64.toNat_ofNat',Nat.mod_eq_of_lt (by omega)]
   rw [e0]
   (refine⟨(J8 rfl),rfl,(by repeat(first|exact Kk|refine⟨rfl,?_⟩)),(by repeat(first|exact Kk|refine⟨aC rfl,?_⟩|refine⟨fy rfl,?_⟩))⟩)
  rintro⟨⟨s,r⟩,d1⟩ ⟨hs,hd1,ho⟩ ih
  simp only at hs hd1 ho ih ⊢
  repeat first|apply ai;rfl|apply aL;rfl;omega;omega|refine cd (pR rfl rfl (by omega) (jw (by omega) (by omega) (by omega))) rfl rfl rfl ?_
  refine pN rfl rfl rfl rfl ?_ ?_
  all_goals intro h2
  ·obtain⟨s,rfl⟩: ∃ s',s=s'+1:=⟨s-1,by omega⟩
   have hr:=UInt64.toNat_lt r
   have hnx:=Sort.xorNextN_lt r.toNat hr
   have hxn:=Sort.xorNext_toNat r
   have hst:Sort.breakStep a (b-a) m (r,d1) (base+3-(s+1))=(Sort.xorNext r,Sort.swp d1 (base+3-(s+1)) (a+(if(Sort.xorNext r).toNat &&& (m-1)≥b-a then((Sort.xorNext r).toNat &&& (m-1))-(b-a) else(Sort.xorNext r).toNat &&& (m-1)))):=rfl
   have ho':(sK a (b-a) m s (Sort.breakStep a (b-a) m (r,d1) (base+3-(s+1))) (base+3-s)).2=Sort.breakPatterns d a b:=by
    rw [← ho,sK,show base+3-(s+1)+1=base+3-s by omega]
   rw [hst] at ho'
   rw [hxn] at ho'
   have hmw:IntKind.u64.wrap ((m:Int)-1)=((m-1:Nat):Int):=by
    rw [J5 _ ⟨by omega,by omega⟩]
    omega
   have hand:=andU (a:=Sort.xorNextN r.toNat) (b:=m-1) hnx (by omega)
   have hle:Sort.xorNextN r.toNat &&& (m-1)≤m-1:=Nat.and_le_right
   generalize hoo:Sort.xorNextN r.toNat &&& (m-1)=o at hand hle ho'
   repeat first|apply ai;rfl|refine cg rfl rfl rfl (by kernel_rfl) (Ctr.dJ (zr r.toNat hr) [1] rfl (J8 rfl) rfl (by repeat(first|exact Kk|refine⟨fy rfl,?_⟩)) rfl (by repeat(first|exact Kk|refine⟨dA (fun _=>rfl),?_⟩)) (fun _=>rfl) rfl rfl) ?_
   refine cd (aw rfl rfl (.inr (.inl ⟨rfl,rfl⟩))) rfl rfl rfl ?_
   rw [hmw]
   refine cd (mJ rfl rfl (.inl rfl) hand) rfl rfl rfl ?_
   repeat first|apply ai;rfl|refine cd (bR (F.un _ rfl) (F.un _ rfl) rfl (show _=(o:Int)from Jd _ ⟨by omega,by omega⟩)) rfl rfl rfl ?_
   refine eN rfl rfl rfl rfl ?_ ?_
   all_goals intro h3
   ·rw [JH (by omega)] at ho'
    repeat first|apply ai;rfl|apply aL;rfl;omega;omega
    refine cj (by kernel_rfl) (by kernel_rfl) ?_
    repeat first|apply aS;rfl|refine bj (aw rfl rfl (.inl ⟨rfl,(Jd _ ⟨(by omega),(by omega)⟩).symm⟩)) rfl rfl rfl ?_|refine cu (g:=fun x:Int=> .int .i64 x) rfl rfl rfl (F.ag _ rfl) rfl (by(omega)) (by(omega)) ?_|refine fq (g:=fun x:Int=> .int .i64 x) rfl rfl rfl (fun _=>rfl) (F.sz _ rfl) rfl (by first|omega|(simp only [Je,aN];omega)) (by first|omega|(simp only [Je,aN];omega)) ?_|refine aH (q:=base+3-(s+1)) rfl rfl rfl rfl (F.un _ rfl) (F.sz _ rfl) rfl (by omega) (by omega) (by omega) ?_|refine aH (q:=a+(o-(b-a))) rfl rfl rfl rfl (F.un _ rfl) (F.sz _ rfl) rfl (by omega) (by omega) (by omega) ?_
    refine aA ⟨by kernel_rfl,?_,?_⟩;(focus(repeat(first|exact Kk|apply fv;rfl|apply eK;rfl|refine⟨.inr (by(repeat(refine⟨(by first|exact aQ (F.un _ rfl) (F.sz _ rfl) rfl rfl rfl (by omega) (by omega) (by omega)|exact aw rfl rfl (.inl ⟨rfl,(Jd _ ⟨by omega,by omega⟩).symm⟩)),?_⟩));exact Kk),?_⟩|refine⟨.inl (by kernel_rfl),?_⟩)))
    repeat first|apply ai;rfl|apply aL;rfl;omega;omega
    refine ih _ _ _ ((s,Sort.xorNext r),Sort.swp d1 (base+3-(s+1)) (a+(o-(b-a)))) [1] ⟨by simp only;omega,by rw [aN];exact hd1,ho'⟩ (by simp only;omega) ?_
    rw [hxn]
    (refine⟨(J8 rfl),rfl,(by repeat(first|exact Kk|refine⟨rfl,?_⟩|refine⟨fO (by(simp only;omega)),?_⟩)),(by repeat(first|exact Kk|refine⟨aC rfl,?_⟩|refine⟨fy rfl,?_⟩))⟩)
   ·rw [JG (by omega)] at ho'
    repeat apply ai;rfl
    refine cj (by kernel_rfl) (by kernel_rfl) ?_
    repeat first|apply aS;rfl|refine bj (aw rfl rfl (.inl ⟨rfl,(Jd _ ⟨(by omega),(by omega)⟩).symm⟩)) rfl rfl rfl ?_|refine cu (g:=fun x:Int=> .int .i64 x) rfl rfl rfl (F.ag _ rfl) rfl (by(omega)) (by(omega)) ?_|refine fq (g:=fun x:Int=> .int .i64 x) rfl rfl rfl (fun _=>rfl) (F.sz _ rfl) rfl (by first|omega|(simp only [Je,aN];omega)) (by first|omega|(simp only [Je,aN];omega)) ?_|refine aH (q:=base+3-(s+1)) rfl rfl rfl rfl (F.un _ rfl) (F.sz _ rfl) rfl (by omega) (by omega) (by omega) ?_|refine aH (q:=a+o) rfl rfl rfl rfl (F.un _ rfl) (F.sz _ rfl) rfl (by omega) (by omega) (by omega) ?_
    refine aA ⟨by kernel_rfl,?_,?_⟩;(focus(repeat(first|exact Kk|apply fv;rfl|apply eK;rfl|refine⟨.inr (by(repeat(refine⟨(by first|exact aQ (F.un _ rfl) (F.sz _ rfl) rfl rfl rfl (by omega) (by omega) (by omega)|exact aw rfl rfl (.inl ⟨rfl,(Jd _ ⟨by omega,by omega⟩).symm⟩)),?_⟩));exact Kk),?_⟩|refine⟨.inl (by kernel_rfl),?_⟩)))
    repeat first|apply ai;rfl|apply aL;rfl;omega;omega
    refine ih _ _ _ ((s,Sort.xorNext r),Sort.swp d1 (base+3-(s+1)) (a+o)) [1] ⟨by simp only;omega,by rw [aN];exact hd1,ho'⟩ (by simp only;omega) ?_
    rw [hxn]
    (refine⟨(J8 rfl),rfl,(by repeat(first|exact Kk|refine⟨rfl,?_⟩|refine⟨fO (by(simp only;omega)),?_⟩)),(by repeat(first|exact Kk|refine⟨aC rfl,?_⟩|refine⟨fy rfl,?_⟩))⟩)
  ·obtain rfl:s=0:=by omega
   repeat apply ai;rfl
   ((apply qn Tryz.func109 (congrArg Array.toList Tryz.results109));(focus(repeat(exact Kb)));refine⟨_,rfl,Ends.mk [] (J8 rfl) rfl rfl ?_⟩)
   rw [← ho]
   exact⟨aC rfl,trivial⟩
 ·rw [JG (by omega)] at ebp
  repeat apply ai;rfl
  ((apply qn Tryz.func109 (congrArg Array.toList Tryz.results109));(focus(repeat(exact Kb)));refine⟨_,rfl,Ends.mk [] (J8 rfl) rfl rfl ?_⟩)
  rw [ebp]
  exact⟨aC rfl,trivial⟩
abbrev vD:=Array (Int)
theorem xc:Sort.SWO bl where
 irrefl:=fun a=>by simp [bl]
 trans:=fun a b c h h'=>by
  simp only [bl,J7] at h h' ⊢
  omega
 ntrans:=fun a b c h h'=>by
  simp only [bl,decide_eq_false_iff_not] at h h' ⊢
  omega
theorem xe{d:vD}(h:b-a≤12):Sort.pdq lt d a b limit wb wp=Sort.insertionSort lt d a b:=by rw [Sort.pdq,JH h]
theorem uj{d:vD}(h: ¬ b-a≤12)(h0:limit=0):Sort.pdq lt d a b limit wb wp=Sort.heapSort lt d a b:=by rw [Sort.pdq,JG h,JH h0]
def eZ(lt:Int→Int→Bool)(d3:vD)(a b pivot limit:Nat)(wb wp:Bool):vD:=
 if a>0 && !lt d3[a-1]! d3[pivot]! then
  match Sort.partitionEqual lt d3 a b pivot with
  | (mid,d4)=>if _h:a<mid∧mid≤b then Sort.pdq lt d4 mid b limit wb wp else d4
 else
  match Sort.partition lt d3 a b pivot with
  | (mid,alreadyPartitioned,d4)=>
    if _h:a≤mid∧mid<b then
     if mid-a<b-mid then
      Sort.pdq lt (Sort.pdq lt d4 a mid limit true true) (mid+1) b limit (decide (mid-a≥(b-a) / 8)) alreadyPartitioned
     else
      Sort.pdq lt (Sort.pdq lt d4 (mid+1) b limit true true) a mid limit (decide (b-mid≥(b-a) / 8)) alreadyPartitioned
    else d4
theorem zn{d d1 d2:vD}{limit1:Nat}{c:Nat×Sort.Hint}{hint:Sort.Hint}{pi:vD×Bool}(h: ¬ b-a≤12)(h0: ¬ limit=0)
 (e1:d1=(if(!wb)=true then Sort.breakPatterns d a b else d)) (el:limit1=(if(!wb)=true then limit-1 else limit)) (ec:Sort.choosePivot lt d1 a b=c)
 (e2:d2=(if c.2 = .decreasing then Sort.reverseRange d1 a b else d1)) (ep:pivot=(if c.2 = .decreasing then(b-1)-(c.1-a) else c.1)) (eh:hint=(if c.2 = .decreasing then .increasing else c.2))
 (ei:(if(wb && wp && decide (hint = .increasing))=true then Sort.partialInsertionSort lt d2 a b else(d2,false))=pi) :
 Sort.pdq lt d a b limit wb wp=if pi.2=true then pi.1 else eZ lt pi.1 a b pivot limit1 wb wp:=by
 subst e1 el ec e2 ep eh ei
 rw [Sort.pdq,JG h,JG h0]
 rfl
theorem xd{d3 d4:vD}(h:(decide (a>0) && !lt d3[a-1]! d3[pivot]!)=true)(hx:Sort.partitionEqual lt d3 a b pivot=(mid,d4))(hm:a<mid∧mid≤b) :
 eZ lt d3 a b pivot limit wb wp=Sort.pdq lt d4 mid b limit wb wp:=by
 unfold eZ
 rw [JH h,hx]
 simp only [dif_pos hm]
theorem sB{d3 d4:vD}{ap:Bool}(h: ¬ (decide (a>0) && !lt d3[a-1]! d3[pivot]!)=true)(hx:Sort.partition lt d3 a b pivot=(mid,ap,d4))(hm:a≤mid∧mid<b)(hl:mid-a<b-mid) :
 eZ lt d3 a b pivot limit wb wp=Sort.pdq lt (Sort.pdq lt d4 a mid limit true true) (mid+1) b limit (decide (mid-a≥(b-a) / 8)) ap:=by
 unfold eZ
 rw [JG h,hx]
 simp only [dif_pos hm,JH hl]
theorem qM{d3 d4:vD}{ap:Bool}(h: ¬ (decide (a>0) && !lt d3[a-1]! d3[pivot]!)=true)(hx:Sort.partition lt d3 a b pivot=(mid,ap,d4))(hm:a≤mid∧mid<b)(hl: ¬ mid-a<b-mid) :
 eZ lt d3 a b pivot limit wb wp=Sort.pdq lt (Sort.pdq lt d4 (mid+1) b limit true true) a mid limit (decide (b-mid≥(b-a) / 8)) ap:=by
 unfold eZ
 rw [JG h,hx]
 simp only [dif_pos hm,JG hl]
theorem ui(n:Nat)(hn:n<65536): ∀ (k a b limit:Nat) (d:vD),b-a=k→a≤b→b≤n→d.size=n→limit<4611686018427387904→Sort.Below bl a b d →
 Ctr Tryz.prog 97 [.slu 0 0 n,.sc (.int .i64 (a:Int)),.sc (.int .i64 (b:Int)),.sc (.int .i64 (limit:Int))] [b7 n d] (fun c=>c=⟨.tup [],[some (b7 n (Sort.pdq bl d a b limit true true))]⟩):=by
 intro k
 induction k using Nat.strongRecOn with
 | _ k ihk=>
 intro a b limit d hk hab hb hd hl hB
 refine Ka Tryz.func97 rfl rfl ?_
 repeat apply ai;rfl
 refine gq 1 (fun s:((Nat×Nat)×Nat)×((Bool×Bool)×vD)=> [(0,.slu 0 0 n),(1,.sc (.int .i64 (s.1.1.1:Int))),(2,.sc (.int .i64 (s.1.1.2:Int))),(3,.sc (.int .i64 (s.1.2:Int))),(8,.sc (.bool s.2.1.1)),(9,.sc (.bool s.2.1.2))]) (fun s=> [some (b7 n s.2.2)])
  (fun s=>s.1.1.1≤s.1.1.2∧s.1.1.2≤n∧s.1.1.2-s.1.1.1≤k∧s.2.2.size=n∧s.1.2<4611686018427387904∧Sort.Below bl s.1.1.1 s.1.1.2 s.2.2∧Sort.pdq bl s.2.2 s.1.1.1 s.1.1.2 s.1.2 s.2.1.1 s.2.1.2=Sort.pdq bl d a b limit true true) (fun s=>s.1.1.2-s.1.1.1) (((a,b),limit),((true,true),d)) []
  (fun _=>rfl) ⟨hab,hb,Nat.le_of_eq hk,hd,hl,hB,rfl⟩ ?_ (fun _=>rfl) (fun _=>rfl) ?_
 ·(exact Ki rfl rfl rfl ⟨aC rfl,trivial⟩)
 rintro⟨⟨⟨a1,b1⟩,l1⟩,⟨⟨wb,wp⟩,d1⟩⟩ ⟨hab1,hb1,hk1,hd1,hl1,hB1,ho⟩ ih
 simp only at hab1 hb1 hk1 hd1 hl1 hB1 ho ih ⊢
 have eba:(b1:Int)-(a1:Int)=((b1-a1:Nat):Int):=by omega
 repeat first|apply ai;rfl|apply aL;rfl;omega;omega
 rw [eba]
 refine pN rfl rfl rfl rfl ?_ ?_
 all_goals intro h1
 ·rw [xe (by omega)] at ho
  repeat first|apply ai;rfl|refine cg rfl rfl rfl (by kernel_rfl) (Ctr.dJ (oIins n a1 b1 d1 (by omega) hd1 hab1 hb1) [0] rfl (J8 rfl) rfl ⟨aC rfl,trivial⟩ rfl (by repeat(first|exact Kk|refine⟨bI,?_⟩)) (fun _=>rfl) rfl rfl) ?_
  ((apply bm Tryz.func97 (congrArg Array.toList Tryz.results97));(focus(repeat(exact Kb)));refine⟨_,rfl,Ends.mk [] (J8 rfl) rfl rfl ?_⟩)
  rw [← ho]
  exact⟨aC rfl,trivial⟩
 repeat apply ai;rfl
 refine cF rfl rfl rfl rfl ?_ ?_
 all_goals intro h2
 ·rw [uj (by omega) (by omega)] at ho
  repeat first|apply ai;rfl|refine cg rfl rfl rfl (by kernel_rfl) (Ctr.dJ (sJ n a1 b1 d1 (by omega) hd1 hab1 hb1) [0] rfl (J8 rfl) rfl ⟨aC rfl,trivial⟩ rfl (by repeat(first|exact Kk|refine⟨bI,?_⟩)) (fun _=>rfl) rfl rfl) ?_
  ((apply bm Tryz.func97 (congrArg Array.toList Tryz.results97));(focus(repeat(exact Kb)));refine⟨_,rfl,Ends.mk [] (J8 rfl) rfl rfl ?_⟩)
  rw [← ho]
  exact⟨aC rfl,trivial⟩
 repeat apply cx;rfl
 refine Dk 1 (fun s:Nat×vD=> [(0,.slu 0 0 n),(1,.sc (.int .i64 (a1:Int))),(2,.sc (.int .i64 (b1:Int))),(3,.sc (.int .i64 (s.1:Int))),(8,.sc (.bool wb)),(9,.sc (.bool wp)),(10,.sc (.int .i64 ((b1-a1:Nat):Int)))]) (fun s=> [some (b7 n s.2)])
  (fun s=>s.1=(if(!wb)=true then l1-1 else l1)∧s.2=(if(!wb)=true then Sort.breakPatterns d1 a1 b1 else d1)) (fun _=>rfl) rfl (fun _=>rfl) (fun _=>rfl) ?_ ?_ ?_
 ·intro hw out
  repeat first|refine out _ _ _ (l1-1,Sort.breakPatterns d1 a1 b1) [] ⟨by rw [JH hw],by rw [JH hw]⟩ ?_;(refine⟨(J8 rfl),rfl,(by repeat(first|exact Kk|refine⟨rfl,?_⟩|refine⟨fO (by(omega)),?_⟩)),⟨aC rfl,trivial⟩⟩)|apply cx;rfl|apply aL;rfl;omega;omega|refine cg rfl rfl rfl (by kernel_rfl) (Ctr.dJ (ul n a1 b1 d1 hn hd1 hab1 hb1) [0] rfl (J8 rfl) rfl ⟨aC rfl,trivial⟩ rfl (by repeat(first|exact Kk|refine⟨bI,?_⟩)) (fun _=>rfl) rfl rfl) ?_
 ·intro hw out
  repeat first|refine out _ _ _ (l1,d1) [] ⟨by rw [hw];rfl,by rw [hw];rfl⟩ ?_;(exact Ki rfl rfl rfl ⟨aC rfl,trivial⟩)|apply cx;rfl
 rintro⟨l2,d2⟩ ⟨el,ed⟩
 simp only at el ed ⊢
 have hl2:l2<4611686018427387904:=by rw [el];split <;> omega
 have hpd:Sort.PermIn a1 b1 d1 d2:=by
  rw [ed]
  split
  ·exact Sort.breakPatterns_holds d1 a1 b1 hab1 (by omega)
  ·exact Sort.permIn_refl d1 a1 b1
 have hd2:d2.size=n:=by rw [hpd.1];exact hd1
 have hB2:Sort.Below bl a1 b1 d2:=hB1.perm (by omega) hpd
 have hpv:=uh n a1 b1 d2 (by omega) hd2 (by omega) hb1
 have hpr:=Sort.choosePivot_holds bl d2 a1 b1 (by omega)
 have hgo:=fun d3 pivot hint pi=>zn (lt:=bl) (d:=d1) (d1:=d2) (d2:=d3) (a:=a1) (b:=b1) (limit:=l1) (limit1:=l2) (pivot:=pivot) (wb:=wb) (wp:=wp) (c:=Sort.choosePivot bl d2 a1 b1) (hint:=hint) (pi:=pi) (by omega) (by omega) ed el rfl
 generalize Sort.choosePivot bl d2 a1 b1=c at hpv hpr hgo
 obtain⟨p,hint⟩:=c
 simp only at hpv hpr hgo
 repeat first|apply ai;rfl|refine cg rfl rfl rfl (by kernel_rfl) (Ctr.dJ (hpv) [0] rfl (J8 rfl) rfl ⟨aC rfl,trivial⟩ rfl (by repeat(first|exact Kk|refine⟨bI,?_⟩)) (fun _=>rfl) rfl rfl) ?_
 refine cd (dg rfl rfl (.inl ⟨rfl,rfl⟩)) rfl rfl rfl ?_
 rw [zS]
 repeat apply cx;rfl
 refine Dk 1 (fun s:(Nat×Sort.Hint)×vD=> [(0,.slu 0 0 n),(1,.sc (.int .i64 (a1:Int))),(2,.sc (.int .i64 (b1:Int))),(3,.sc (.int .i64 (l2:Int))),(8,.sc (.bool wb)),(9,.sc (.bool wp)),(10,.sc (.int .i64 ((b1-a1:Nat):Int))),(11,.sc (.int .i64 (s.1.1:Int))),(12,.sc (.int .i64 (Ei s.1.2)))]) (fun s=> [some (b7 n s.2)])
  (fun s=>s.2=(if hint = .decreasing then Sort.reverseRange d2 a1 b1 else d2)∧s.1.1=(if hint = .decreasing then(b1-1)-(p-a1) else p)∧s.1.2=(if hint = .decreasing then .increasing else hint)) (fun _=>rfl) rfl (fun _=>rfl) (fun _=>rfl) ?_ ?_ ?_
 ·intro hw out
  have hw:=JS hw
  repeat first|refine out _ _ _ (((b1-1)-(p-a1),.increasing),Sort.reverseRange d2 a1 b1) [] ⟨by rw [JH hw],by rw [JH hw],by rw [JH hw]⟩ ?_;(refine⟨(J8 rfl),rfl,(by repeat(first|exact Kk|refine⟨rfl,?_⟩|refine⟨fO (by(simp only;omega)),?_⟩)),⟨aC rfl,trivial⟩⟩)|apply cx;rfl|apply aL;rfl;omega;omega|refine cg rfl rfl rfl (by kernel_rfl) (Ctr.dJ (ug n a1 b1 d2 (by omega) hd2 (by omega) hb1) [0] rfl (J8 rfl) rfl ⟨aC rfl,trivial⟩ rfl (by repeat(first|exact Kk|refine⟨bI,?_⟩)) (fun _=>rfl) rfl rfl) ?_
 ·intro hw out
  have hw:=of_decide_eq_false hw
  repeat first|refine out _ _ _ ((p,hint),d2) [] ⟨by rw [JG hw],by rw [JG hw],by rw [JG hw]⟩ ?_;(exact Ki rfl rfl rfl ⟨aC rfl,trivial⟩)|apply cx;rfl
 rintro⟨⟨pv,hint2⟩,d3⟩ ⟨ed3,epv,ehi⟩
 simp only at ed3 epv ehi ⊢
 have hpd3:Sort.PermIn a1 b1 d2 d3:=by
  rw [ed3]
  split
  ·exact Sort.reverseRange_holds d2 a1 b1 hab1 (by omega)
  ·exact Sort.permIn_refl d2 a1 b1
 have hd3:d3.size=n:=by rw [hpd3.1];exact hd2
 have hB3:Sort.Below bl a1 b1 d3:=hB2.perm (by omega) hpd3
 have hpv1:a1≤pv∧pv<b1:=by rw [epv];split <;> omega
 have hgo:=fun pi=>hgo d3 pv hint2 pi ed3 epv ehi
 (repeat refine Dh ?_)
 refine xN 1 (fun _:Unit=> [(0,.slu 0 0 n),(1,.sc (.int .i64 (a1:Int))),(2,.sc (.int .i64 (b1:Int))),(3,.sc (.int .i64 (l2:Int))),(8,.sc (.bool wb)),(9,.sc (.bool wp)),(10,.sc (.int .i64 ((b1-a1:Nat):Int))),(11,.sc (.int .i64 (pv:Int))),(68,.sc (.bool (wb && wp && decide (hint2 = .increasing))))]) (fun _=> [some (b7 n d3)])
  (fun _=>True) (fun _=>rfl) (fun _=>rfl) (fun _=>rfl) ?_ ?_
 ·intro out
  clear ih ihk ho hgo ehi ed el hpr hpv
  cases wb <;> cases wp <;> cases hint2 <;> (repeat(first|refine out _ _ _ () [] trivial ?_;(exact Ki rfl rfl rfl ⟨aC rfl,trivial⟩)|apply cx;rfl|refine cd (dg rfl rfl (.inl ⟨rfl,rfl⟩)) rfl rfl rfl ?_))
 rintro _ -
 (repeat refine Dh ?_)
 refine Dk 1 (fun d':vD=> [(0,.slu 0 0 n),(1,.sc (.int .i64 (a1:Int))),(2,.sc (.int .i64 (b1:Int))),(3,.sc (.int .i64 (l2:Int))),(8,.sc (.bool wb)),(9,.sc (.bool wp)),(10,.sc (.int .i64 ((b1-a1:Nat):Int))),(11,.sc (.int .i64 (pv:Int)))]) (fun d'=> [some (b7 n d')])
  (fun d'=>d'.size=n∧Sort.Below bl a1 b1 d'∧Sort.pdq bl d1 a1 b1 l1 wb wp=eZ bl d' a1 b1 pv l2 wb wp) (fun _=>rfl) rfl (fun _=>rfl) (fun _=>rfl) ?_ ?_ ?_
 ·intro hw out
  have hps:=sG n a1 b1 d3 (by omega) hd3 (by omega) hb1
  have hpp:=(Sort.partialInsertionSort_holds xc d3 a1 b1 (by omega) (by omega) hB3).1
  have hgo:=hgo _ (by rw [JH hw])
  generalize Sort.partialInsertionSort bl d3 a1 b1=pi at hps hpp hgo
  obtain⟨d4,done⟩:=pi
  simp only at hps hpp hgo
  cases done
  ·rw [JG (by decide)] at hgo
   repeat first|refine out _ _ _ d4 [] ⟨by rw [hpp.1];exact hd3,hB3.perm (by omega) hpp,hgo⟩ ?_;(exact Ki rfl rfl rfl ⟨aC rfl,trivial⟩)|apply cx;rfl|refine cg rfl rfl rfl (by kernel_rfl) (Ctr.dJ (hps) [0] rfl (J8 rfl) rfl ⟨aC rfl,trivial⟩ rfl (by repeat(first|exact Kk|refine⟨bI,?_⟩)) (fun _=>rfl) rfl rfl) ?_
  ·rw [JH rfl] at hgo
   repeat first|apply ai;rfl|refine cg rfl rfl rfl (by kernel_rfl) (Ctr.dJ (hps) [0] rfl (J8 rfl) rfl ⟨aC rfl,trivial⟩ rfl (by repeat(first|exact Kk|refine⟨bI,?_⟩)) (fun _=>rfl) rfl rfl) ?_
   ((apply bm Tryz.func97 (congrArg Array.toList Tryz.results97));(focus(repeat(exact Kb)));refine⟨_,rfl,Ends.mk [] (J8 rfl) rfl rfl ?_⟩)
   rw [← ho,hgo]
   exact⟨aC rfl,trivial⟩
 ·intro hw out
  have hgo:=hgo (d3,false) (by rw [hw];rfl)
  repeat first|refine out _ _ _ d3 [] ⟨hd3,hB3,by rw [hgo];rfl⟩ ?_;(exact Ki rfl rfl rfl ⟨aC rfl,trivial⟩)|apply cx;rfl
 rintro d4 ⟨hd4,hB4,hT⟩
 rw [hT] at ho
 clear hgo hT hB3 hd3 hpd3 hB2 hd2 hpd ed ed3 ehi epv el hpv
 have arm: ∀ t:Bool,(decide (a1>0) && !bl d4[a1-1]! d4[pv]!)=t→(decide (a1>0) && !bl d4[a1-1]! d4[pv]!)=t:=fun _ h=>h
 repeat apply ai;rfl
 refine xN 1 (fun _:Unit=> [(0,.slu 0 0 n),(1,.sc (.int .i64 (a1:Int))),(2,.sc (.int .i64 (b1:Int))),(3,.sc (.int .i64 (l2:Int))),(8,.sc (.bool wb)),(9,.sc (.bool wp)),(10,.sc (.int .i64 ((b1-a1:Nat):Int))),(11,.sc (.int .i64 (pv:Int))),(87,.sc (.bool (decide (a1>0) && !bl d4[a1-1]! d4[pv]!)))]) (fun _=> [some (b7 n d4)])
  (fun _=>True) (fun _=>rfl) (fun _=>rfl) (fun _=>rfl) ?_ ?_
 ·intro out
  refine cj (by kernel_rfl) (by kernel_rfl) ?_
  repeat apply aS;rfl
  refine fH rfl rfl rfl rfl ?_ ?_
  all_goals intro h5
  ·have hls_h6:=fQ (d4[a1-1]!) (d4[pv]!)
   cases h6:bl (d4[a1-1]!) (d4[pv]!)
   all_goals rw [h6] at hls_h6
   rotate_left
   all_goals(repeat(first|apply aS;rfl|refine bj (aw rfl rfl (.inr (.inl ⟨rfl,(Jd _ ⟨(by omega),(by omega)⟩).symm⟩))) rfl rfl rfl ?_|refine cu (g:=fun x:Int=> .int .i64 x) rfl rfl rfl (F.ag _ rfl) rfl (by(omega)) (by(omega)) ?_|refine aH (q:=a1-1) rfl rfl rfl rfl (F.un _ rfl) (F.sz _ rfl) rfl (by omega) (by omega) (by omega) ?_|refine aH (q:=pv) rfl rfl rfl rfl (F.un _ rfl) (F.sz _ rfl) rfl (by omega) (by omega) (by omega) ?_|refine bT rfl rfl rfl (by kernel_rfl) (Ctr.callV (hls_h6) [] rfl (J8 rfl) rfl trivial rfl) ?_))
   ·skip
    refine aA ⟨by kernel_rfl,?_,?_⟩;(focus(repeat(first|exact Kk|apply fv;rfl|apply eK;rfl|refine⟨.inr (by(repeat(refine⟨(by first|exact aQ (F.un _ rfl) (F.sz _ rfl) rfl rfl rfl (by omega) (by omega) (by omega)|exact aw rfl rfl (.inr (.inl ⟨rfl,(Jd _ ⟨by omega,by omega⟩).symm⟩))),?_⟩));exact Kk),?_⟩|refine⟨.inl (by kernel_rfl),?_⟩)))
    have e5:(decide (a1>0) && !bl d4[a1-1]! d4[pv]!)=false:=by simp [h6]
    rw [e5] at out
    repeat refine out _ _ _ () [] trivial ?_;(exact Ki rfl rfl rfl ⟨aC rfl,trivial⟩)
   ·skip
    refine aA ⟨by kernel_rfl,?_,?_⟩;(focus(repeat(first|exact Kk|apply fv;rfl|apply eK;rfl|refine⟨.inr (by(repeat(refine⟨(by first|exact aQ (F.un _ rfl) (F.sz _ rfl) rfl rfl rfl (by omega) (by omega) (by omega)|exact aw rfl rfl (.inr (.inl ⟨rfl,(Jd _ ⟨by omega,by omega⟩).symm⟩))),?_⟩));exact Kk),?_⟩|refine⟨.inl (by kernel_rfl),?_⟩)))
    have e5:(decide (a1>0) && !bl d4[a1-1]! d4[pv]!)=true:=by
     have:0<a1:=by omega
     simp [this,h6]
    rw [e5] at out
    repeat refine out _ _ _ () [] trivial ?_;(exact Ki rfl rfl rfl ⟨aC rfl,trivial⟩)
  ·repeat first|apply aS;rfl|refine cq rfl rfl ?_
   refine aA ⟨by kernel_rfl,?_,?_⟩;(focus(repeat(first|exact Kk|apply AE;rfl|apply eK;rfl|refine⟨.inl rfl,?_⟩)))
   have e5:(decide (a1>0) && !bl d4[a1-1]! d4[pv]!)=false:=by
    have: ¬ 0<a1:=by omega
    simp [this]
   rw [e5] at out
   repeat refine out _ _ _ () [] trivial ?_;(exact Ki rfl rfl rfl ⟨aC rfl,trivial⟩)
 rintro _ -
 cases h7:(decide (a1>0) && !bl d4[a1-1]! d4[pv]!)
 ·have hps:=sI n a1 b1 pv d4 (by omega) hd4 hpv1.1 hpv1.2 hb1
  obtain⟨mid,ap,d5,hx⟩: ∃ mid ap,∃ d5,Sort.partition bl d4 a1 b1 pv=(mid,ap,d5):=⟨_,_,_,rfl⟩
  obtain⟨g1,g2,g3,g4,g5,g6,g7⟩:=Sort.round_part xc (Sort.partition_holds bl) hpv1.1 hpv1.2 (by omega) hB4 hx
  rw [hx] at hps
  simp only at hps
  have hd5:d5.size=n:=by rw [g3];exact hd4
  repeat first|apply ai;rfl|apply aL;rfl;omega;omega|refine cd (pR rfl rfl (by omega) (jw (by omega) (by omega) (by omega))) rfl rfl rfl ?_|refine cg rfl rfl rfl (by kernel_rfl) (Ctr.dJ (hps) [0] rfl (J8 rfl) rfl ⟨aC rfl,trivial⟩ rfl (by repeat(first|exact Kk|refine⟨bI,?_⟩)) (fun _=>rfl) rfl rfl) ?_
  refine bn rfl rfl rfl rfl ?_ ?_
  all_goals intro h8
  ·rw [sB (by rw [h7];decide) hx ⟨g1,g2⟩ (by omega)] at ho
   have hrec:=ihk (mid-a1) (by omega) a1 mid l2 d5 rfl g1 (by omega) hd5 hl2 g4
   have hL:=Sort.pdq_sorts bl xc d5 a1 mid l2 true true g1 (by omega) g4
   have hB6:=(g6 _ hL.1 hL.2).1
   have hd6:(Sort.pdq bl d5 a1 mid l2 true true).size=n:=by rw [hL.1.1];exact hd5
   generalize Sort.pdq bl d5 a1 mid l2 true true=d6 at hrec hB6 hd6 ho
   clear hL g6 g7 hps hpr
   repeat first|apply ai;rfl|apply aL;rfl;omega;omega|refine cg rfl rfl rfl (by kernel_rfl) (Ctr.dJ (hrec) [0] rfl (J8 rfl) rfl ⟨aC rfl,trivial⟩ rfl (by repeat(first|exact Kk|refine⟨bI,?_⟩)) (fun _=>rfl) rfl rfl) ?_|refine cd (dg rfl rfl (.inr (.inr (.inr (.inr (.inr (⟨rfl,rfl⟩))))))) rfl rfl rfl ?_
   refine ih _ _ _ (((mid+1,b1),l2),((decide (mid-a1≥(b1-a1) / 8),ap),d6)) [] ⟨by simp only;omega,hb1,by simp only;omega,hd6,hl2,hB6,ho⟩ (by simp only;omega) ?_
   have eb:decide ((mid:Int)-(a1:Int)≥((b1-a1:Nat):Int) / 8)=decide (mid-a1≥(b1-a1) / 8):=by
    rw [Bool.eq_iff_iff,J7,J7]
    omega
   rw [← eb]
   (exact Ki rfl rfl rfl ⟨aC rfl,trivial⟩)
  ·rw [qM (by rw [h7];decide) hx ⟨g1,g2⟩ (by omega)] at ho
   have hrec:=ihk (b1-(mid+1)) (by omega) (mid+1) b1 l2 d5 rfl (by omega) hb1 hd5 hl2 g5
   have hL:=Sort.pdq_sorts bl xc d5 (mid+1) b1 l2 true true (by omega) (by omega) g5
   have hB6:=(g7 _ hL.1 hL.2).1
   have hd6:(Sort.pdq bl d5 (mid+1) b1 l2 true true).size=n:=by rw [hL.1.1];exact hd5
   generalize Sort.pdq bl d5 (mid+1) b1 l2 true true=d6 at hrec hB6 hd6 ho
   clear hL g6 g7 hps hpr
   have emid:((mid:Int)+1)=((mid+1:Nat):Int):=by omega
   repeat first|apply ai;rfl|apply aL;rfl;omega;omega|refine cd (dg rfl rfl (.inr (.inr (.inr (.inr (.inr (⟨rfl,rfl⟩))))))) rfl rfl rfl ?_
   rw [emid]
   repeat first|apply ai;rfl|refine cg rfl rfl rfl (by kernel_rfl) (Ctr.dJ (hrec) [0] rfl (J8 rfl) rfl ⟨aC rfl,trivial⟩ rfl (by repeat(first|exact Kk|refine⟨bI,?_⟩)) (fun _=>rfl) rfl rfl) ?_
   refine ih _ _ _ (((a1,mid),l2),((decide (b1-mid≥(b1-a1) / 8),ap),d6)) [] ⟨g1,by simp only;omega,by simp only;omega,hd6,hl2,hB6,ho⟩ (by simp only;omega) ?_
   have eb:decide ((b1:Int)-(mid:Int)≥((b1-a1:Nat):Int) / 8)=decide (b1-mid≥(b1-a1) / 8):=by
    rw [Bool.eq_iff_iff,J7,J7]
    omega
   rw [← eb]
   (exact Ki rfl rfl rfl ⟨aC rfl,trivial⟩)
 ·have h7':=h7
  rw [Ju,J7,Bool.not_eq_true'] at h7'
  have hps:=pF n a1 b1 pv d4 (by omega) hd4 hpv1.1 hpv1.2 hb1
  obtain⟨mid,d5,hx⟩: ∃ mid,∃ d5,Sort.partitionEqual bl d4 a1 b1 pv=(mid,d5):=⟨_,_,rfl⟩
  obtain⟨g1,g2,g3,g4,_⟩:=Sort.round_eq xc (Sort.partitionEqual_holds bl) h7'.1 hpv1.1 hpv1.2 (by omega) hB4 h7'.2 hx
  rw [hx] at hps
  simp only at hps
  rw [xd h7 hx ⟨g1,g2⟩] at ho
  repeat first|apply ai;rfl|refine cg rfl rfl rfl (by kernel_rfl) (Ctr.dJ (hps) [0] rfl (J8 rfl) rfl ⟨aC rfl,trivial⟩ rfl (by repeat(first|exact Kk|refine⟨bI,?_⟩)) (fun _=>rfl) rfl rfl) ?_
  refine ih _ _ _ (((mid,b1),l2),((wb,wp),d5)) [] ⟨g2,hb1,by simp only;omega,by rw [g3];exact hd4,hl2,g4,ho⟩ (by simp only;omega) ?_
  (exact Ki rfl rfl rfl ⟨aC rfl,trivial⟩)
end
end Go.Proofs.YtnhmbonmlfeifaaGreat
end
section
namespace Go.Proofs.YtnhmbonmlfeifaaGreat
open Go Go.Sy Go.Sl Go.RowKit
section
variable {H:au}{b n nx o:Nat}{V:Type}{p:List UInt8}
theorem oI{A:Type}: ∀ (l m:List A),l.Nodup→(∀ x∈l,x∈m)→l.length≤m.length
 | [],m,_,_=>Jw _
 | x :: l,m,hn,hs=>by
   obtain⟨a,b,rfl⟩:=List.append_of_mem (hs x (by simp))
   rw [List.nodup_cons] at hn
   have:=oI l (a ++ b) hn.2 fun y hy=>by
    have:=hs y (JP _ hy)
    rcases List.mem_append.1 this with h|h
    ·exact List.mem_append_left _ h
    ·rcases JV.1 h with rfl|h
     ·exact absurd hy hn.1
     ·exact List.mem_append_right _ h
   simp only [Jy,Jz] at this ⊢
   omega
abbrev rC:Int→List Value:=fun x:Int=> [.int .i64 x]
theorem th:RecOf rC 1:=yJ (fun _=>rfl)
abbrev iP(ro:Bool)(l:List Int):VO:=dat ro l.length 1 3 (l.flatMap rC)
theorem xq(val:V→SV)(m:List (Int×V×Nat))(c:Nat):Fnc Tryz.prog 52 [.mp b] H nx
 (fun r=>r=(.fn (.func 96) [] [.ptr nx 0],H.set nx (ar 109 [.mp b]),nx+1)):=by
 refine Ka Tryz.func52 rfl rfl ?_
 repeat apply ai;rfl
 apply bm Tryz.func52 (congrArg Array.toList Tryz.results52)
 ·repeat first|exact Kb|apply Kd rfl
 rfl
theorem collI(val:V→SV)(m:List (Int×V×Nat))(c:Nat)(hok:KOk m c)(hl:m.length<1000000){bx:Nat}(hbx:H.at' bx=some (ar 109 [.mp b]))(hb:H.at' b=some (je (fun x:Int=> .int .i64 x) val m c))(g1:bx<nx)(g2:b<nx) :
 Fnc Tryz.prog 95 [.fn (.func 96) [] [.ptr bx 0]] H nx
  (fun r=> ∃ (done:List (Int×V×Nat)) (nm:Nat),done.Perm m∧r.1 = .slu nm 0 (done.map (·.1)).length∧nx≤nm∧nm<r.2.2∧r.2.1.at' nm=some (iP false (done.map (·.1)))∧ ∀ n,n<nx→r.2.1.at' n=H.at' n):=by
 refine Ka Tryz.func95 rfl rfl ?_
 repeat apply ai;rfl
 refine aI rfl rfl rfl (by kernel_rfl) ?_
 refine Ka Tryz.func106 rfl rfl ?_
 refine kq (d:=0) 1 3 rfl rfl ?_
 repeat apply ai;rfl
 refine lq [(2,.ptr (nx+1) 0)] rfl rfl (by kernel_rfl) (Kg ⟨rfl,trivial⟩) ?_
 intro cA cB hcA hcB
 refine Ka Tryz.func96 rfl rfl ?_
 repeat first|apply ai;rfl|apply aG;rfl;(focus((repeat(first|assumption|refine ab (by omega) ?_));done));rfl|refine Dp (b:=b) (m:=m) (c:=c) (enc:=fun x:Int=> .int .i64 x) (val:=val) rfl rfl rfl (F.un _ rfl) (by repeat(first|assumption|refine ab (by omega) ?_)) ?_
 refine bC (α:=List (Int×V×Nat)) (fun _=> [(0,.yld (nx+1+1+1)),(1,.ptr bx 0),(5,.ptr (nx+1+1+1+1) 0)]) (fun done H1 nx1=>(done.Nodup∧ ∀ x∈done,x∈m)∧nx+1+1+1+1+1≤nx1∧(∀ n,n<nx→H1.at' n=H.at' n)∧H1.at' (nx+1+1)=some (.dfd (some []))∧H1.at' (nx+1+1+1)=some (.loop .ready none 106 13 (slT [(2,.ptr (nx+1) 0)]) #[7] cA cB (nx+1+1))
  ∧ H1.at' (nx+1+1+1+1)=some (itV b c done)∧ ∃ r,r<nx1∧(r=nx∨nx+1+1+1+1+1≤r)∧H1.at' (nx+1)=some (ar 113 [.slu r 0 (done.map (·.1)).length])∧H1.at' r=some (iP false (done.map (·.1)))) (fun done=>m.length-done.length) []
  ⟨⟨List.nodup_nil,fun _ h=>by cases h⟩,Jv _,fun n hn=>by(repeat(refine ab (by omega) ?_));rfl,by repeat(first|exact ae|refine ab (by omega) ?_),by repeat(first|exact ae|refine ab (by omega) ?_),by repeat(exact ae),nx,by omega,.inl rfl,by repeat(first|exact ae|refine ab (by omega) ?_),by repeat(first|exact ae|refine ab (by omega) ?_)⟩ (Kg ⟨rfl,rfl,rfl,trivial⟩) ?_
 rintro done H1 nx1 ⟨hdn,hnx,hold,h4,h5,h6,r,hr,hr2,h3,hrow⟩ ih
 have hlen:=oI done m hdn.1 hdn.2
 have hb1:H1.at' b=some (je (fun x:Int=> .int .i64 x) val m c):=(hold b g2).trans hb
 have hbx1:H1.at' bx=some (ar 109 [.mp b]):=(hold bx g1).trans hbx
 repeat apply ai;rfl
 refine GK (b:=b) (m:=m) (c:=c) (enc:=fun x:Int=> .int .i64 x) (val:=val) (done:=done) rfl rfl rfl ?_ ?_ hok hdn ?_ ?_
 ·assumption
 ·assumption
 ·intro hp
  repeat apply ai;rfl
  apply qn Tryz.func96 (congrArg Array.toList Tryz.results96) Kb
  dsimp only
  refine ku h5 (fun h=>by cases h) ?_
  repeat first|apply ai;rfl|apply aG;rfl;(focus((repeat(first|assumption|refine ab (by omega) ?_));done));rfl
  refine uJ Tryz.func106 (congrArg Array.toList Tryz.results106) (rs:= [nx+1+1]) rfl (fun r hr=>by rw [JM] at hr;subst hr;(focus((repeat(first|assumption|refine ab (by omega) ?_));done))) (by simp) ?_
  intro H2 hH2
  refine⟨_,(by(repeat(first|exact Kb|apply Kd rfl))),?_⟩
  dsimp only
  repeat apply ai;rfl
  apply bm Tryz.func95 (congrArg Array.toList Tryz.results95)
  ·repeat first|exact Kb|apply Kd rfl
  refine⟨done,r,hp,rfl,by omega,hr,?_,fun n hn=>?_⟩
  ·exact(hH2 r (by simp;omega)).trans (by repeat(first|assumption|refine ab (by omega) ?_))
  ·refine(hH2 n (by simp;omega)).trans ((aa _ _ (by omega)).trans (hold n hn))
 ·intro x hx hxn hdn2
  have hlm:(done.map (·.1)).length=done.length:=JL ..
  have hlen2:=oI _ m hdn2.1 hdn2.2
  rw [Jz,List.length_singleton] at hlen2
  repeat first|apply ai;rfl|refine Dq (b:=b) (m:=m) (c:=c) (enc:=fun x:Int=> .int .i64 x) (val:=val) (x:=x) (done:=done) rfl rfl rfl ?_ ?_ hok hx ?_;(focus((repeat(exact ae));done));(focus((repeat(first|assumption|refine ab (by omega) ?_));done))
  refine xV (n:=nx+1+1+1) rfl rfl rfl rfl (by repeat(first|assumption|refine ab (by omega) ?_)) (by rfl) ?_
  refine pM hcA ?_
  repeat apply ai;rfl
  refine tQ (by repeat(first|assumption|refine ab (by omega) ?_)) ?_
  refine pM hcB ?_
  repeat first|apply ai;rfl|apply aG;rfl;(focus((repeat(first|assumption|refine ab (by omega) ?_));done));rfl|refine bM rfl rfl (F.un _ rfl) (F.sz _ rfl) rfl (F.ze _ rfl) rfl rfl rfl rfl rfl ?_
  refine lL (b:=8) (xs:=done.map (·.1)) (a:=x.1) rfl rfl rfl rfl (F.un _ rfl) (.inl ⟨_,F.un _ rfl⟩) (F.sz _ rfl) rfl (by kernel_rfl) (by kernel_rfl) (by repeat(first|assumption|refine ab (by omega) ?_)) (by repeat(exact ae)) (by rfl) (th) (by omega) (by omega) ?_
  repeat first|apply ai;rfl|apply aG;rfl;(focus((repeat(first|assumption|refine ab (by omega) ?_|refine cp (by omega) ?_));done));rfl
  refine mE (by repeat(first|exact ae|refine ab (by omega) ?_|refine cp (by omega) ?_)) ?_
  dsimp only
  repeat apply ai;rfl
  have e:done.map (·.1) ++ [x.1]=(done ++ [x]).map (·.1):=by simp
  refine ih _ _ _ (done ++ [x]) ⟨hdn2,by omega,fun n hn=>?_,by repeat(first|assumption|refine ab (by omega) ?_|refine cp (by omega) ?_),by repeat(exact ae),by repeat(first|exact ae|refine ab (by omega) ?_|refine cp (by omega) ?_),nx1+1,by omega,.inr (by omega),?_,?_⟩ (by simp only [Jz,List.length_singleton];omega) (Kg ⟨rfl,rfl,rfl,trivial⟩)
  ·(focus((repeat(first|refine ab (by omega) ?_|refine cp (by omega) ?_));exact hold n hn))
  ·rw [← e]
   (focus((repeat(first|exact ae|refine ab (by omega) ?_));done))
  ·rw [← e]
   (focus((repeat(first|exact ae|refine ab (by omega) ?_));done))
def gV(l:List Int):List Int:=(Sort.sort bl l.toArray).toList
theorem fP(l:List Int):(gV l).Perm l∧(gV l).Pairwise (fun x y=>bl y x=false):=by
 obtain⟨⟨h1,h2,h3⟩,h4⟩:=Sort.sort_sorts bl xc l.toArray
 have hsz:(Sort.sort bl l.toArray).size=l.length:=by simpa using h1
 constructor
 ·have e1:((Sort.sort bl l.toArray).extract 0 l.toArray.size)=Sort.sort bl l.toArray:=by
   rw [show l.toArray.size=(Sort.sort bl l.toArray).size by simpa using h1.symm]
   exact Array.extract_size
  have e2:(l.toArray.extract 0 l.toArray.size)=l.toArray:=Array.extract_size
  rw [e1,e2] at h3
  exact h3
 ·rw [List.pairwise_iff_getElem]
  intro i j hi hj hij
  have hi':i<(Sort.sort bl l.toArray).size:=hi
  have hj':j<(Sort.sort bl l.toArray).size:=hj
  have:=h4 i j (Jw _) hij (by simp;omega)
  rw [getElem!_pos _ i hi',getElem!_pos _ j hj'] at this
  simp only [gV,Array.getElem_toList]
  exact this
theorem jd(l:List Int):(gV l).length=l.length:=(fP l).1.length_eq
theorem vC(n:Nat)(d:Array Int)(hn:n<65536)(hd:d.size=n) :
 Ctr Tryz.prog 53 [.slu 0 0 n] [b7 n d] (fun c=>c=⟨.tup [],[some (b7 n (Sort.sort bl d))]⟩):=by
 have h16:=qf hn
 refine Ka Tryz.func53 rfl rfl ?_
 have hp:=ui n hn n 0 n (Sort.bitsLen n) d rfl (Jw _) (Jv _) hd (by omega) (.inl rfl)
 have hs:Sort.pdq bl d 0 n (Sort.bitsLen n) true true=Sort.sort bl d:=by unfold Sort.sort;rw [hd]
 rw [hs] at hp
 repeat first|apply ai;rfl|refine cd (bR (F.un _ rfl) (F.un _ rfl) rfl (show _=(n:Int)from J5 _ ⟨by omega,by omega⟩)) rfl rfl rfl ?_|refine og (vS n hn) [] rfl rfl rfl (by kernel_rfl) rfl (J8 rfl) rfl trivial ?_|refine cg rfl rfl rfl (by kernel_rfl) (Ctr.dJ (hp) [0] rfl (J8 rfl) rfl ⟨aC rfl,trivial⟩ rfl (by repeat(first|exact Kk|refine⟨bI,?_⟩)) (fun _=>rfl) rfl rfl) ?_
 ((apply qn Tryz.func53 (congrArg Array.toList Tryz.results53));(focus(repeat(exact Kb)));refine⟨_,rfl,Ends.mk [] (J8 rfl) rfl rfl ?_⟩)
 exact⟨aC rfl,trivial⟩
theorem Bt(val:V→SV)(m:List (Int×V×Nat))(c:Nat)(hok:KOk m c)(hl:m.length<60000){bx:Nat}(hbx:H.at' bx=some (ar 109 [.mp b]))(hb:H.at' b=some (je (fun x:Int=> .int .i64 x) val m c))(g1:bx<nx)(g2:b<nx) :
 Fnc Tryz.prog 51 [.fn (.func 96) [] [.ptr bx 0]] H nx
  (fun r=> ∃ nm ks,ks.Perm (m.map (·.1))∧ks.Pairwise (fun x y=>bl y x=false)∧r.1 = .slu nm 0 ks.length∧nx≤nm∧nm<r.2.2∧r.2.1.at' nm=some (iP false ks)∧ ∀ n,n<nx→r.2.1.at' n=H.at' n):=by
 refine Ka Tryz.func51 rfl rfl ?_
 repeat apply ai;rfl
 refine aI rfl rfl rfl (by kernel_rfl) (J9 (collI val m c hok (by omega) hbx hb g1 g2) ?_)
 rintro⟨_,H1,n1⟩ ⟨done,nm,hp,rfl,h1,h2,h3,h4⟩
 dsimp only at h1 h2 h3 h4 ⊢
 have hpm:(done.map (·.1)).Perm (m.map (·.1)):=hp.map _
 have hlen:(done.map (·.1)).length=m.length:=by rw [hpm.length_eq,JL]
 generalize done.map (·.1)=ks at h3 hlen hpm ⊢
 have h3':H1.at' nm=some (b7 ks.length ks.toArray):=h3
 have hs:=vC ks.length ks.toArray (by omega) (by simp)
 have hrow:b7 ks.length (Sort.sort bl ks.toArray)=iP false (gV ks):=by
  have:(gV ks).length=ks.length:=jd ks
  show dat false ks.length 1 3 _=dat false (gV ks).length 1 3 _
  rw [this]
  rfl
 have hsl:=jd ks
 rw [hrow] at hs
 repeat apply ai;rfl
 (refine aI rfl rfl rfl (by kernel_rfl) (Ctr.C9 (hs) [nm] rfl ⟨by intro n hn;simp at hn;omega,by simp;try omega⟩ rfl (by repeat(first|exact Kk|refine⟨aC (by assumption),?_⟩)) ?_);rintro _ rfl;refine⟨_,0,[nm],[some _],rfl,(by repeat(first|exact Kk|refine⟨lB _ _ _ _ _ _,?_⟩)),rfl,rfl,?_⟩;dsimp only [wrL])
 repeat apply ai;rfl
 (apply bP Tryz.func51 Tryz.results51;rfl)
 rw [← hsl]
 exact⟨nm,_,(fP ks).1.trans hpm,(fP ks).2,rfl,h1,h2,aj _ _ _,fun n hn=>(aa _ _ (by omega)).trans (h4 n hn)⟩
abbrev jP(S:List Nat):List Int:=S.map fun n:Nat=>(n:Int)
abbrev pY(l:List Int):VO:=iP false l
theorem Ad(hp:p.length=1024)(k:Nat):(gI p k).1.length=1024:=by
 unfold gI
 split
 ·exact ah
 ·rename_i h1
  have hr:bg p=true:=by cases h:bg p with|true=>rfl|false=>exact absurd h h1
  split
  ·exact ah
  ·rename_i h2
   have hok:=(bi hp).1 hr
   have hk:ll p k=true:=by
    cases h3:ll p k with
    | true=>rfl
    | false=>exact absurd (by rw [oR h3];decide) h2
   have:=JS hk
   exact(o5 hok this.1 this.2).ok.len
theorem vV: ∀ l:List Int,l.flatMap rC=l.map fun x=>Value.int .i64 x
 | []=>rfl
 | a :: l=>by rw [List.flatMap_cons,Jx,vV l];rfl
theorem qT{l:List Int}{i:Nat}(hi:i<l.length):(pY l).cell (i*1)=some (.sc (.int .i64 l[i])):=by
 refine ge (by omega) ?_
 rw [Nat.mul_one,vV,JX,Jf hi]
 rfl
theorem xU{r:Nat}{S:List Nat}(hp:p.length=1024)(hrow:H.at' r=some (pY (jP S)))(hS:S.length≤100000):Fnc Tryz.prog 56 [.agg (pgS p),.slu r 0 S.length] H nx
 (fun q=>q.1=pgE (rP S p)∧nx≤q.2.2∧ ∀ m,m<nx→q.2.1.at' m=H.at' m):=by
 have hnl:(jP S).length=S.length:=JL _
 refine Ka Tryz.func56 rfl rfl ?_
 refine aX fun hund=>?_
 have lR:=hund _ _ hrow
 clear hund
 repeat first|refine a9 rfl rfl ci ?_|apply ai;rfl
 refine bC (α:=Nat×List UInt8) (fun x=> [(2,.ptr nx 0),(4,.ptr (nx+1) 0),(10,.slu r 0 S.length),(11,.sc (.int .i64 (S.length:Int))),(12,.sc (.int .i64 (x.1:Int)))])
  (fun x H1 n1=>x.1≤S.length∧rP (S.drop x.1) x.2=rP S p∧x.2.length=1024∧nx+1+1≤n1∧H1.at' nx=some (pgO x.2)∧H1.at' (nx+1)=some (pgO zeroP)∧ ∀ m,m<nx→H1.at' m=H.at' m) (fun x=>S.length-x.1) (0,p)
  ⟨Jw _,rfl,hp,Jv _,by repeat(first|exact ae|refine ab (by omega) ?_),by repeat(exact ae),fun m hm=>by(repeat(refine ab (by omega) ?_));rfl⟩ (Kg (Kj rfl)) ?_
 rintro⟨i,x⟩ H1 n1 ⟨i1,i2,i3,i4,i5,i6,i7⟩ ih
 dsimp only at i1 i2 i3 i4 i5 i6 i7 ⊢
 have r1:H1.at' r=some (pY (jP S)):=(i7 r lR).trans hrow
 repeat apply ai;rfl
 refine bn rfl rfl rfl rfl (fun h5=>?_) (fun h5=>?_)
 ·have hi:i<S.length:=by omega
  have hc:(pY (jP S)).cell (i*1)=some (.sc (.int .i64 (S[i]:Int))):=by
   have:=qT (l:=jP S) (i:=i) (by omega)
   rwa [List.getElem_map] at this
  have hd:S.drop i=S[i] :: S.drop (i+1):=List.drop_eq_getElem_cons hi
  rw [hd] at i2
  have hds:=fun(H:au) nx=>HJ (H:=H) (nx:=nx) (n:=S[i]) i3
  have hdl:=Ad i3 S[i]
  have hgo:rP (S[i] :: S.drop (i+1)) x=if(gI x S[i]).2≠0 then(zeroP,(gI x S[i]).2) else rP (S.drop (i+1)) (gI x S[i]).1:=rfl
  rw [i2] at hgo
  generalize gI x S[i]=D at hds hdl hgo
  obtain⟨y,e⟩:=D
  dsimp only at hdl hgo
  by_cases he:e=0
  ·subst he
   rw [JG (fun h=>h rfl)] at hgo
   repeat first|refine dq (q:=i) rfl rfl rfl rfl (F.un _ rfl) (F.sz _ rfl) r1 (by omega) (by omega) (by omega) ?_|refine cd (am (F.ag _ rfl) rfl r1 hc) rfl rfl rfl ?_|apply bu i3;rfl;assumption|apply bu hdl;rfl;(focus((repeat(exact ae));done))|apply bA hdl ah;rfl;(focus((repeat(first|exact ae|refine ab (by omega) ?_));done))|apply bA hdl i3;rfl;(focus((repeat(first|assumption|refine ab (by omega) ?_));done))|refine a9 rfl rfl ci ?_|apply ai;rfl|apply aL;rfl;omega;omega|apply bY;rfl;kernel_rfl;exact hds _ _|apply dM;rfl;rfl
   exact ih _ _ _ (i+1,y) ⟨hi,hgo.symm,hdl,by first|omega|(dsimp only;omega),by repeat(exact ae),by repeat(first|assumption|refine ab (by omega) ?_),fun m hm=>by(repeat(refine ab (by omega) ?_));exact i7 m hm⟩ (by dsimp only;omega) (Kg (Kj rfl))
  ·rw [JH he] at hgo
   rw [hgo]
   repeat first|refine dq (q:=i) rfl rfl rfl rfl (F.un _ rfl) (F.sz _ rfl) r1 (by omega) (by omega) (by omega) ?_|refine cd (am (F.ag _ rfl) rfl r1 hc) rfl rfl rfl ?_|apply bu i3;rfl;assumption|apply bA hdl ah;rfl;(focus((repeat(exact ae));done))|apply bA ah ah;rfl;(focus((repeat(first|assumption|refine ab (by omega) ?_));done))|refine a9 rfl rfl ci ?_|apply ai;rfl|refine cd (db iy) rfl rfl rfl ?_|apply bY;rfl;kernel_rfl;exact hds _ _|apply iv;rfl;omega
   ((apply bm Tryz.func56 (congrArg Array.toList Tryz.results56));(focus((apply Kc rfl (Ke (F.ag _ rfl) (by repeat(exact ae)) (bk ah)));(repeat(first|exact Kb|apply Kd rfl)))))
   exact⟨rfl,by first|omega|(dsimp only;omega),fun m hm=>by(repeat(refine ab (by omega) ?_));exact i7 m hm⟩
 ·have hi:i=S.length:=by omega
  subst hi
  rw [List.drop_length] at i2
  have hps:=fun(H:au) nx=>y5 (H:=H) (nx:=nx) i3
  have hpl:=lY x i3
  have i2:gE x=rP S p:=i2
  rw [i2] at hps hpl
  generalize rP S p=W at hps hpl ⊢
  obtain⟨y,e⟩:=W
  dsimp only at hpl
  repeat first|apply bu i3;rfl;assumption|apply bA hpl ah;rfl;assumption|apply ai;rfl|apply bY;rfl;kernel_rfl;exact hps _ _
  ((apply bm Tryz.func56 (congrArg Array.toList Tryz.results56));(focus((apply Kc rfl (Ke (F.ag _ rfl) (by repeat(exact ae)) (bk hpl)));(repeat(first|exact Kb|apply Kd rfl)))))
  exact⟨rfl,by first|omega|(dsimp only;omega),fun m hm=>by(repeat(refine ab (by omega) ?_));exact i7 m hm⟩
abbrev js:Nat×List Int→SV:=fun v=> .slu v.1 0 v.2.length
abbrev wj:Int→Value:=fun x=> .int .i64 x
abbrev ER(mb:Nat):VO:=ar 109 [.mp mb]
theorem G0{mb tb nb rv c:Nat}{ks:List Int}{m:List (Int×(Nat×List Int)×Nat)}{S:List Nat}(ht:H.at' tb=some (ER mb))(hn:H.at' nb=some (BC n))(hmb:H.at' mb=some (je wj js m c))(hg:gM m (n:Int)=some (rv,ks))(hrow:H.at' rv=some (pY (jP S)))(hlen:ks.length=S.length)(hS:S.length≤100000)(hp:p.length=1024):Fnc Tryz.prog 55 [.agg (pgS p),.ptr tb 0,.ptr nb 0] H nx
 (fun q=>q.1=pgE (rP S p)∧nx≤q.2.2∧ ∀ m,m<nx→q.2.1.at' m=H.at' m):=by
 have hwl:=nL S p hp
 refine Ka Tryz.func55 rfl rfl ?_
 refine aX fun hund=>?_
 have l1:=hund _ _ ht
 have l2:=hund _ _ hn
 have l3:=hund _ _ hmb
 have l4:=hund _ _ hrow
 clear hund
 repeat first|refine a9 rfl rfl ci ?_|apply ai;rfl|apply aG;rfl;(focus((repeat(first|assumption|exact ae|refine ab (by omega) ?_));done));rfl|apply bu hp;rfl;(focus((repeat(first|exact ae|refine ab (by omega) ?_));done))
 refine xW (m:=m) (enc:=wj) (val:=js) (c:=c) rfl rfl rfl rfl (F.un _ rfl) (gY (F.un _ rfl)) (by repeat(first|assumption|refine ab (by omega) ?_)) hg ?_
 dsimp only [js]
 rw [hlen]
 refine aI rfl rfl rfl (by kernel_rfl) (J9 (xU (S:=S) (r:=rv) hp (by repeat(first|assumption|refine ab (by omega) ?_)) hS) ?_)
 rintro⟨_,H2,n2⟩ ⟨rfl,g2,g3⟩
 dsimp only at g2 g3 ⊢
 have k1:H2.at' (nx+1)=some (pgO zeroP):=(g3 _ (by omega)).trans (by repeat(exact ae))
 have ko: ∀ m,m<nx→H2.at' m=H.at' m:=fun m hm=>(g3 m (by omega)).trans (by(repeat(refine ab (by omega) ?_));rfl)
 generalize rP S p=W at hwl ⊢
 obtain⟨y,e⟩:=W
 dsimp only at hwl
 repeat first|apply bA hwl ah;rfl;assumption|apply ai;rfl
 ((apply bm Tryz.func55 (congrArg Array.toList Tryz.results55));(focus((apply Kc rfl (Ke (F.ag _ rfl) (by repeat(exact ae)) (bk hwl)));(repeat(first|exact Kb|apply Kd rfl)))))
 exact⟨rfl,by dsimp only;omega,fun m hm=>by(repeat(refine ab (by omega) ?_));exact ko m hm⟩
theorem sb{a:Nat}:Fnc Tryz.prog 50 [.ptr a 0] H nx (fun q=>q=(.tup [],H,nx)):=by
 refine Ka Tryz.func50 rfl rfl ?_
 repeat first|apply ai;rfl|apply jx;rfl;rfl|refine cd (jG rfl Tryz.underlying20) rfl rfl rfl ?_
 (apply Cr Tryz.func50 Tryz.results50;rfl)
 rfl
theorem DX(h:o+2≤p.length):gL p o=256*(p[o]'(by omega)).toNat+(p[o+1]'(by omega)).toNat:=by
 have hd:(p.drop o).take 2= [p[o]'(by omega),p[o+1]'(by omega)]:=by
  rw [List.drop_eq_getElem_cons (by omega:o<p.length),List.drop_eq_getElem_cons (by omega:o+1<p.length)]
  rfl
 unfold gL
 rw [hd]
 simp [beN]
theorem oH(hp:p.length=1024)(ho:o+2≤1024):Fnc Tryz.prog 76 [.agg (pgS p),.sc (.int .i64 (o:Int))] H nx (fun q=>q=(.sc (.int .i64 (gL p o:Int)),H,nx)):=by
 refine Fnc.bv (Free.sc _) ?_
 refine Ka Tryz.func76 rfl rfl ?_
 repeat apply ai;rfl
 have hb:(H.set nx (pgO p)).at' nx=some (pgO p):=aj _ _ _
 have hc0:(pgO p).cell (0+o*1)=some (.sc (.int .u8 ((p[o]'(by omega)).toNat:Int))):=by rw [JI,Nat.mul_one];exact nR (p:=p) (i:=o) (by omega)
 have hc1:(pgO p).cell (0+(o+1)*1)=some (.sc (.int .u8 ((p[o+1]'(by omega)).toNat:Int))):=by rw [JI,Nat.mul_one];exact nR (p:=p) (i:=o+1) (by omega)
 have ha:=(p[o]'(by omega)).toNat_lt
 have hb2:=(p[o+1]'(by omega)).toNat_lt
 (apply bh;(focus(kernel_rfl));(focus(kernel_rfl)))
 repeat first|apply jX (q:=o);rfl;rfl;rfl;rfl;exact(F.un _ rfl);exact(F.sz _ rfl);(focus(omega));(focus(omega))|apply jX (q:=o+1);rfl;rfl;rfl;rfl;exact(F.un _ rfl);exact(F.sz _ rfl);(focus(omega));(focus(omega))|refine bj (am (F.ag _ rfl) rfl hb hc0) rfl rfl rfl ?_|refine bj (am (F.ag _ rfl) rfl hb hc1) rfl rfl rfl ?_|refine bj (bR (F.un _ rfl) (F.un _ rfl) rfl (show _=(((p[o]'(by omega)).toNat:Nat):Int)from Jd _ ⟨by omega,by omega⟩)) rfl rfl rfl ?_|refine bj (bR (F.un _ rfl) (F.un _ rfl) rfl (show _=(((p[o+1]'(by omega)).toNat:Nat):Int)from Jd _ ⟨by omega,by omega⟩)) rfl rfl rfl ?_|apply aS;rfl|refine bj (aw rfl rfl (.inl ⟨rfl,(Jd _ ⟨(by focus(omega)),(by focus(omega))⟩).symm⟩)) rfl rfl rfl ?_|refine bj (aw rfl rfl (.inr (.inr ⟨rfl,(Jd _ ⟨(by focus(omega)),(by focus(omega))⟩).symm⟩))) rfl rfl rfl ?_
 refine aA ⟨by kernel_rfl,?_,?_⟩;(focus(repeat(first|exact Kk|apply gi;rfl;kernel_rfl|refine⟨.inr ⟨0,by kernel_rfl,AllH.all (fun _=>(by(exact aw rfl rfl (.inl ⟨rfl,(Jd _ ⟨by omega,by omega⟩).symm⟩)))) _⟩,?_⟩|refine fX 0 rfl (by kernel_rfl) (by(repeat(refine⟨(by first|exact ig (q:=o) rfl rfl (F.un _ rfl) (F.sz _ rfl) (by omega) (by omega)|exact ig (q:=o+1) rfl rfl (F.un _ rfl) (F.sz _ rfl) (by omega) (by omega)|exact am (F.ag _ rfl) rfl hb hc0|exact am (F.ag _ rfl) rfl hb hc1),?_⟩));exact Kk) ?_|apply lJ;kernel_rfl)))
 (apply bP Tryz.func76 Tryz.results76;rfl)
 refine⟨?_,JE _,fun m hm=>aa _ _ (by omega)⟩
 rw [DX (by omega)]
 exact congrArg (fun z:Int=>SV.sc (.int .i64 z)) (by omega)
theorem jS(hp:p.length=1024):Fnc Tryz.prog 77 [.agg (pgS p)] H nx (fun q=>q=(.sc (.int .i64 (aD p:Int)),H,nx)):=by
 refine Fnc.bv (Free.sc _) ?_
 refine Ka Tryz.func77 rfl rfl ?_
 repeat first|apply bu hp;rfl;(focus((repeat(exact ae));done))|apply ai;rfl|apply bY;rfl;kernel_rfl;exact oH (o:=16) hp (by decide)
 (apply bP Tryz.func77 Tryz.results77;rfl)
 exact⟨rfl,JE _,fun m hm=>aa _ _ (by omega)⟩
theorem A0(h:o+2≤p.length):cm p o n=(p.set o (UInt8.ofNat (n / 256))).set (o+1) (UInt8.ofNat (n % 256)):=by
 have hB:beB n 2= [UInt8.ofNat (n / 256),UInt8.ofNat (n % 256)]:=by
  have h2:UInt8.ofNat (n % 256)=UInt8.ofNat n:=by
   apply UInt8.toNat_inj.1
   simp
  rw [h2]
  simp [beB,List.range_succ]
 refine J1 fun i=>?_
 unfold cm
 rw [cG (by rw [hB];simpa using h),hB,List.getElem?_set,List.getElem?_set,List.length_set]
 by_cases h1:o+1=i
 ·subst h1
  rw [JH ⟨by omega,by simp⟩,JH rfl,JH (by omega),show o+1-o=1 by omega]
  rfl
 ·rw [JG h1]
  by_cases h2:o=i
  ·subst h2
   rw [JH ⟨by omega,by simp⟩,JH rfl,JH (by omega),Nat.sub_self]
   rfl
  ·rw [JG h2,JG (by simp;omega)]
theorem gO(hp:p.length=1024)(ho:o+2≤1024)(hn:n<65536):Fnc Tryz.prog 93 [.agg (pgS p),.sc (.int .i64 (o:Int)),.sc (.int .i64 (n:Int))] H nx (fun q=>q=(.agg (pgS (cm p o n)),H,nx)):=by
 refine Fnc.bv (Free.agg _) ?_
 refine Ka Tryz.func93 rfl rfl ?_
 repeat first|refine a9 rfl rfl ci ?_|apply ai;rfl|apply aL;rfl;omega;omega|refine cd (pR rfl rfl (by omega) (jw (by focus(omega)) (by focus(omega)) (by focus(omega)))) rfl rfl rfl ?_|refine cd (bR (F.un _ rfl) (F.un _ rfl) rfl (show _=((UInt8.ofNat (n / 256)).toNat:Int)from wO (n / 256))) rfl rfl rfl ?_
 (apply rQ (c:=((n % 256:Nat):Int));rfl;rfl;rfl;rfl;(focus(decide));rfl)
 repeat refine cd (bR (F.un _ rfl) (F.un _ rfl) rfl (show _=((UInt8.ofNat (n % 256)).toNat:Int)from wO (n % 256))) rfl rfl rfl ?_
 (apply gr (q:=o);rfl;rfl;rfl;rfl;exact(F.un _ rfl);exact(F.sz _ rfl);(focus(omega));(focus(omega)))
 rw [show 0+o*1=o by omega]
 refine dX (cs:=pgS p) rfl rfl rfl (F.sz _ rfl) (by repeat(first|exact ae|refine ab (by omega) ?_)) rfl (Jj (by rw [be hp];omega)) ?_
 rw [nl]
 have hls:(p.set o (UInt8.ofNat (n / 256))).length=1024:=by rw [List.length_set];exact hp
 (apply gr (q:=o+1);rfl;rfl;rfl;rfl;exact(F.un _ rfl);exact(F.sz _ rfl);(focus(omega));(focus(omega)))
 rw [show 0+(o+1)*1=o+1 by omega]
 refine dX (cs:=pgS (p.set o (UInt8.ofNat (n / 256)))) rfl rfl rfl (F.sz _ rfl) (by repeat(exact ae)) rfl (Jj (by rw [be hls];omega)) ?_
 rw [nl,←A0 (by omega)]
 have hl:(cm p o n).length=1024:=(bD (by omega)).trans hp
 generalize cm p o n=p2 at hl ⊢
 repeat first|apply bu hl;rfl;(focus((repeat(exact ae));done))|apply bA hl ah;rfl;(focus((repeat(first|exact ae|refine ab (by omega) ?_));done))|apply ai;rfl
 ((apply bm Tryz.func93 (congrArg Array.toList Tryz.results93));(focus((apply Kc rfl (Ke (F.ag _ rfl) (by repeat(exact ae)) (bk hl)));(repeat(exact Kb)))))
 exact⟨rfl,by dsimp only;omega,fun m hm=>by(repeat(refine ab (by omega) ?_));rfl⟩
theorem Eg(k:UInt8):Fnc Tryz.prog 75 [.sc (.int .u8 (k.toNat:Int))] H nx (fun q=>q=(.agg (pgS (fE k)),H,nx)):=by
 refine Fnc.bv (Free.agg _) ?_
 refine Ka Tryz.func75 rfl rfl ?_
 repeat first|refine a9 rfl rfl ci ?_|apply ai;rfl
 (apply gr (q:=12);rfl;rfl;rfl;rfl;exact(F.un _ rfl);exact(F.sz _ rfl);(focus(omega));(focus(omega)))
 refine dX (cs:=pgS zeroP) rfl rfl rfl (F.sz _ rfl) (by repeat(exact ae)) rfl (Jj (by rw [be ah];decide)) ?_
 rw [nl]
 have hls:(zeroP.set 12 k).length=1024:=by rw [List.length_set];exact ah
 have hl:(fE k).length=1024:=fR k
 have hi:cm (zeroP.set 12 k) 16 1024=fE k:=rfl
 have hw:=fun(H:au) nx=>gO (H:=H) (nx:=nx) (o:=16) (n:=1024) hls (by decide) (by decide)
 rw [hi] at hw
 generalize zeroP.set 12 k=p1 at hls hw ⊢
 generalize fE k=p2 at hl hw ⊢
 repeat first|apply bu hls;rfl;(focus((repeat(exact ae));done))|apply bA hl ah;rfl;(focus((repeat(first|exact ae|refine ab (by omega) ?_));done))|apply ai;rfl|apply bY;rfl;kernel_rfl;exact hw _ _
 ((apply bm Tryz.func75 (congrArg Array.toList Tryz.results75));(focus((apply Kc rfl (Ke (F.ag _ rfl) (by repeat(exact ae)) (bk hl)));(repeat(exact Kb)))))
 exact⟨rfl,by dsimp only;omega,fun m hm=>by(repeat(refine ab (by omega) ?_));rfl⟩
end
end Go.Proofs.YtnhmbonmlfeifaaGreat
end
