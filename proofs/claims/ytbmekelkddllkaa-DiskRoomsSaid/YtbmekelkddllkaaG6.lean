import Derived.Test.YtbmekelkddllkaaG5
set_option linter.unusedVariables false
set_option linter.unusedSimpArgs false
set_option maxRecDepth 100000
set_option maxHeartbeats 0
section
namespace Go.Proofs.Ytbmekelkddllkaa
open Go Go.Sy Go.RowKit
theorem gE(lt:ByteArray→ByteArray→Bool)(hi first root:Nat)(d:Array (ByteArray)):(Sort.siftDown lt hi first root d).size=d.size:=by
 induction h:hi-root using Nat.strongRecOn generalizing root d with
 | _ m ih=>
   subst h
   unfold Sort.siftDown
   split
   ·rfl
   ·split
    ·split
     ·rfl
     ·split
      ·rw [ih _ (by omega) _ _ rfl,aw]
      ·rfl
    ·split
     ·rfl
     ·rw [ih _ (by omega) _ _ rfl,aw]
theorem nW{lt:ByteArray→ByteArray→Bool}{hi first root:Nat}{d:Array (ByteArray)}(h:hi≤2*root+1):Sort.siftDown lt hi first root d=d:=by
 unfold Sort.siftDown
 rw [dif_pos h]
theorem tB{lt:ByteArray→ByteArray→Bool}{hi first root:Nat}{d:Array (ByteArray)}(h:2*root+2<hi)(hl:lt d[first+(2*root+1)]! d[first+(2*root+2)]! =true) :
 Sort.siftDown lt hi first root d=if lt d[first+root]! d[first+(2*root+2)]! =true then Sort.siftDown lt hi first (2*root+2) (Sort.swp d (first+root) (first+(2*root+2))) else d:=by
 conv=>lhs;unfold Sort.siftDown
 rw [dif_neg (by omega),if_pos (by simp only [zy,decide_eq_true_eq];exact⟨by omega,hl⟩)]
 cases lt d[first+root]! d[first+(2*root+2)]!
 ·simp
 ·simp only [Bool.not_true,Bool.false_eq_true,if_false,if_true]
  rw [dif_pos (by omega)]
theorem nX{lt:ByteArray→ByteArray→Bool}{hi first root:Nat}{d:Array (ByteArray)}(h:2*root+1<hi)(hl:hi≤2*root+2∨lt d[first+(2*root+1)]! d[first+(2*root+2)]! =false) :
 Sort.siftDown lt hi first root d=if lt d[first+root]! d[first+(2*root+1)]! =true then Sort.siftDown lt hi first (2*root+1) (Sort.swp d (first+root) (first+(2*root+1))) else d:=by
 conv=>lhs;unfold Sort.siftDown
 rw [dif_neg (by omega),if_neg (by
  simp only [zy,decide_eq_true_eq]
  rintro⟨h1,h2⟩
  rcases hl with hl|hl
  ·omega
  ·rw [show first+(2*root+2)=first+(2*root+1)+1 by omega,h2] at hl;cases hl)]
 cases lt d[first+root]! d[first+(2*root+1)]! <;> simp
theorem ki(n lo hi first:Nat)(d:Array (ByteArray))(hn:n<4611686018427387904)(hd:d.size=n)(hf:first+hi≤n)(hlo:lo≤n) :
 Ctr Try.prog 83 [.slu 0 0 n,.sc (.int .i64 (lo:Int)),.sc (.int .i64 (hi:Int)),.sc (.int .i64 (first:Int))] [bG n d] (fun c=>c=⟨.tup [],[some (bG n (Sort.siftDown bi hi first lo d))]⟩):=by
 refine Fnc.start Try.func83 rfl rfl ?_
 (repeat(first|refine aj ?_|refine ac ?_|refine ab ?_|refine aD ?_|refine ai rfl rfl rfl ?_|refine ah rfl rfl rfl ?_))
 refine ct 1 (fun s:Nat×Array (ByteArray)=> [(0,.slu 0 0 n),(2,.sc (.int .i64 (hi:Int))),(3,.sc (.int .i64 (first:Int))),(8,.sc (.int .i64 (s.1:Int)))]) (fun s=> [some (bG n s.2)]) (fun s=>s.1≤n∧s.2.size=n∧Sort.siftDown bi hi first s.1 s.2=Sort.siftDown bi hi first lo d) (fun s=>n-s.1) (lo,d) []
  (fun _=>rfl) ⟨hlo,hd,rfl⟩ ?_ (fun _=>rfl) (fun _=>rfl) ?_
 ·(refine⟨(ExtOk.of rfl),rfl,(by repeat(first|exact trivial|refine⟨rfl,?_⟩)),(by repeat(first|exact trivial|refine⟨am rfl,?_⟩))⟩)
 rintro⟨r,d1⟩ ⟨hr,hd1,ho⟩ ih
 simp only at hr hd1 ho ih ⊢
 (repeat(first|refine aj ?_|refine ac ?_|refine ab ?_|refine aD ?_|refine ai rfl rfl rfl ?_|refine ah rfl rfl rfl ?_|refine bj rfl rfl rfl rfl (by omega) (by omega) ?_|refine ny rfl rfl rfl rfl (by omega) (by omega) ?_))
 refine cw rfl rfl rfl rfl ?_ ?_
 all_goals intro h1
 ·(repeat(first|refine ab ?_|refine aU rfl ?_|refine ar rfl ?_))
  ((apply dU Try.func83 (congrArg Array.toList Try.results83));(focus(repeat(exact ResIs.nil)));refine⟨_,rfl,Ends.mk [] (ExtOk.of rfl) rfl rfl ?_⟩)
  rw [← ho,nW (by omega)]
  exact(by repeat(first|exact trivial|refine⟨am rfl,?_⟩))
 ·(repeat(first|refine aj ?_|refine ab ?_|refine aE ?_|refine an rfl ?_))
  refine aT (by kernel_rfl) (by kernel_rfl) ?_
  (repeat(first|refine ax rfl rfl rfl ?_|refine cG rfl rfl rfl rfl (by omega) (by omega) ?_))
  refine jZ rfl rfl rfl rfl ?_ ?_
  all_goals intro h2
  ·have hls_h3:=ew (d1[first+(2*r+1)]!) (d1[first+(2*r+2)]!)
   cases h3:bi (d1[first+(2*r+1)]!) (d1[first+(2*r+2)]!)
   all_goals rw [h3] at hls_h3
   rotate_left
   all_goals(repeat(first|refine ax rfl rfl rfl ?_|refine bK rfl rfl rfl rfl ?_|refine cG rfl rfl rfl rfl (by omega) (by omega) ?_|(refine ba (g:=fun x:ByteArray=> .string x) rfl rfl rfl (F.ag _ rfl) rfl (by(omega)) (by(omega)) ?_)|refine au (q:=first+(2*r+1)) rfl rfl rfl rfl (F.un _ rfl) (F.sz _ rfl) rfl (by omega) (by omega) (by omega) ?_|refine au (q:=first+(2*r+2)) rfl rfl rfl rfl (F.un _ rfl) (F.sz _ rfl) rfl (by omega) (by omega) (by omega) ?_|refine aY rfl rfl rfl (by kernel_rfl) (Ctr.callV (hls_h3) [] rfl (ExtOk.of rfl) rfl trivial rfl) ?_))
   ·have e:=tB (lt:=bi) (hi:=hi) (first:=first) (root:=r) (d:=d1) (by omega) (by simpa [bi] using h3)
    (refine aF ?_);(refine⟨by kernel_rfl,?_,?_⟩);(focus(repeat(first|exact trivial|refine⟨.inl rfl,?_⟩|refine⟨.inr (by(repeat(refine⟨(by first|exact aG (F.un _ rfl) (F.sz _ rfl) rfl rfl rfl (by omega) (by omega) (by omega)|exact aL rfl rfl (.inl ⟨rfl,(zf _ ⟨by omega,by omega⟩).symm⟩)|exact aB rfl|exact aX rfl rfl),?_⟩));exact trivial),?_⟩|refine⟨.inl (by kernel_rfl),?_⟩)))
    (repeat(first|refine aj ?_|refine ac ?_|refine ab ?_|refine ar rfl ?_|refine ai rfl rfl rfl ?_|refine ah rfl rfl rfl ?_|refine bj rfl rfl rfl rfl (by omega) (by omega) ?_))
    refine aT (by kernel_rfl) (by kernel_rfl) ?_
    have hls_h4:=ew (d1[first+r]!) (d1[first+(2*r+2)]!)
    cases h4:bi (d1[first+r]!) (d1[first+(2*r+2)]!)
    all_goals rw [h4] at hls_h4
    rotate_left
    all_goals(repeat(first|refine ax rfl rfl rfl ?_|refine cG rfl rfl rfl rfl (by omega) (by omega) ?_|refine cl rfl rfl rfl ?_|(refine ba (g:=fun x:ByteArray=> .string x) rfl rfl rfl (F.ag _ rfl) rfl (by(omega)) (by(omega)) ?_)|refine au (q:=first+r) rfl rfl rfl rfl (F.un _ rfl) (F.sz _ rfl) rfl (by omega) (by omega) (by omega) ?_|refine au (q:=first+(2*r+2)) rfl rfl rfl rfl (F.un _ rfl) (F.sz _ rfl) rfl (by omega) (by omega) (by omega) ?_|refine aY rfl rfl rfl (by kernel_rfl) (Ctr.callV (hls_h4) [] rfl (ExtOk.of rfl) rfl trivial rfl) ?_))
    ·rw [if_pos (by simpa [bi] using h4)] at e
     (refine aF ?_);(refine⟨by kernel_rfl,?_,?_⟩);(focus(repeat(first|exact trivial|refine⟨.inl rfl,?_⟩|refine⟨.inr (by(repeat(refine⟨(by first|exact bD rfl|exact aG (F.un _ rfl) (F.sz _ rfl) rfl rfl rfl (by omega) (by omega) (by omega)|exact aL rfl rfl (.inl ⟨rfl,(zf _ ⟨by omega,by omega⟩).symm⟩)|exact aB rfl),?_⟩));exact trivial),?_⟩|refine⟨.inl (by kernel_rfl),?_⟩)))
     (repeat(first|refine aj ?_|refine aE ?_|refine an rfl ?_))
     refine aT (by kernel_rfl) (by kernel_rfl) ?_
     (repeat(first|refine ax rfl rfl rfl ?_|refine cG rfl rfl rfl rfl (by omega) (by omega) ?_|(refine ba (g:=fun x:ByteArray=> .string x) rfl rfl rfl (F.ag _ rfl) rfl (by(omega)) (by(omega)) ?_)|(refine bU (g:=fun x:ByteArray=> .string x) rfl rfl rfl (fun _=>rfl) (F.sz _ rfl) rfl (by first|omega|(simp only [zg,aw];omega)) (by first|omega|(simp only [zg,aw];omega)) ?_)|refine au (q:=first+r) rfl rfl rfl rfl (F.un _ rfl) (F.sz _ rfl) rfl (by omega) (by omega) (by omega) ?_|refine au (q:=first+(2*r+2)) rfl rfl rfl rfl (F.un _ rfl) (F.sz _ rfl) rfl (by omega) (by omega) (by omega) ?_))
     (refine aF ?_);(refine⟨by kernel_rfl,?_,?_⟩);(focus(repeat(first|exact trivial|refine⟨.inl rfl,?_⟩|refine⟨.inr (by(repeat(refine⟨(by first|exact aG (F.un _ rfl) (F.sz _ rfl) rfl rfl rfl (by omega) (by omega) (by omega)|exact aL rfl rfl (.inl ⟨rfl,(zf _ ⟨by omega,by omega⟩).symm⟩)|exact aB rfl),?_⟩));exact trivial),?_⟩|refine⟨.inl (by kernel_rfl),?_⟩)))
     (repeat(first|refine ac ?_|refine ab ?_|refine ay ?_|refine ai rfl rfl rfl ?_|refine ah rfl rfl rfl ?_))
     refine ih _ _ _ (2*r+2,Sort.swp d1 (first+r) (first+(2*r+2))) [] ⟨by simp only;omega,by rw [aw];exact hd1,by rw [← ho,e]⟩ (by simp only;omega) ?_
     (refine⟨(ExtOk.of rfl),rfl,(by repeat(first|exact trivial|refine⟨rfl,?_⟩)),(by repeat(first|exact trivial|refine⟨am rfl,?_⟩))⟩)
    ·rw [if_neg (by simpa [bi] using h4)] at e
     (refine aF ?_);(refine⟨by kernel_rfl,?_,?_⟩);(focus(repeat(first|exact trivial|refine⟨.inl rfl,?_⟩|refine⟨.inr (by(repeat(refine⟨(by first|exact bD rfl|exact aG (F.un _ rfl) (F.sz _ rfl) rfl rfl rfl (by omega) (by omega) (by omega)|exact aL rfl rfl (.inl ⟨rfl,(zf _ ⟨by omega,by omega⟩).symm⟩)|exact aB rfl),?_⟩));exact trivial),?_⟩|refine⟨.inl (by kernel_rfl),?_⟩)))
     (repeat(refine ar rfl ?_))
     ((apply aS Try.func83 (congrArg Array.toList Try.results83));(focus(repeat(exact ResIs.nil)));refine⟨_,rfl,Ends.mk [] (ExtOk.of rfl) rfl rfl ?_⟩)
     rw [← ho,e]
     exact(by repeat(first|exact trivial|refine⟨am rfl,?_⟩))
   ·have e:=nX (lt:=bi) (hi:=hi) (first:=first) (root:=r) (d:=d1) (by omega) (.inr (by simpa [bi] using h3))
    (refine aF ?_);(refine⟨by kernel_rfl,?_,?_⟩);(focus(repeat(first|exact trivial|refine⟨.inl rfl,?_⟩|refine⟨.inr (by(repeat(refine⟨(by first|exact aG (F.un _ rfl) (F.sz _ rfl) rfl rfl rfl (by omega) (by omega) (by omega)|exact aL rfl rfl (.inl ⟨rfl,(zf _ ⟨by omega,by omega⟩).symm⟩)|exact aB rfl|exact aX rfl rfl),?_⟩));exact trivial),?_⟩|refine⟨.inl (by kernel_rfl),?_⟩)))
    (repeat(first|refine aj ?_|refine aE ?_|refine an rfl ?_))
    refine aT (by kernel_rfl) (by kernel_rfl) ?_
    have hls_h4:=ew (d1[first+r]!) (d1[first+(2*r+1)]!)
    cases h4:bi (d1[first+r]!) (d1[first+(2*r+1)]!)
    all_goals rw [h4] at hls_h4
    rotate_left
    all_goals(repeat(first|refine ax rfl rfl rfl ?_|refine cG rfl rfl rfl rfl (by omega) (by omega) ?_|refine cl rfl rfl rfl ?_|(refine ba (g:=fun x:ByteArray=> .string x) rfl rfl rfl (F.ag _ rfl) rfl (by(omega)) (by(omega)) ?_)|refine au (q:=first+r) rfl rfl rfl rfl (F.un _ rfl) (F.sz _ rfl) rfl (by omega) (by omega) (by omega) ?_|refine au (q:=first+(2*r+1)) rfl rfl rfl rfl (F.un _ rfl) (F.sz _ rfl) rfl (by omega) (by omega) (by omega) ?_|refine aY rfl rfl rfl (by kernel_rfl) (Ctr.callV (hls_h4) [] rfl (ExtOk.of rfl) rfl trivial rfl) ?_))
    ·rw [if_pos (by simpa [bi] using h4)] at e
     (refine aF ?_);(refine⟨by kernel_rfl,?_,?_⟩);(focus(repeat(first|exact trivial|refine⟨.inl rfl,?_⟩|refine⟨.inr (by(repeat(refine⟨(by first|exact bD rfl|exact aG (F.un _ rfl) (F.sz _ rfl) rfl rfl rfl (by omega) (by omega) (by omega)|exact aL rfl rfl (.inl ⟨rfl,(zf _ ⟨by omega,by omega⟩).symm⟩)|exact aB rfl),?_⟩));exact trivial),?_⟩|refine⟨.inl (by kernel_rfl),?_⟩)))
     (repeat(first|refine aj ?_|refine aE ?_|refine an rfl ?_))
     refine aT (by kernel_rfl) (by kernel_rfl) ?_
     (repeat(first|refine ax rfl rfl rfl ?_|refine cG rfl rfl rfl rfl (by omega) (by omega) ?_|(refine ba (g:=fun x:ByteArray=> .string x) rfl rfl rfl (F.ag _ rfl) rfl (by(omega)) (by(omega)) ?_)|(refine bU (g:=fun x:ByteArray=> .string x) rfl rfl rfl (fun _=>rfl) (F.sz _ rfl) rfl (by first|omega|(simp only [zg,aw];omega)) (by first|omega|(simp only [zg,aw];omega)) ?_)|refine au (q:=first+r) rfl rfl rfl rfl (F.un _ rfl) (F.sz _ rfl) rfl (by omega) (by omega) (by omega) ?_|refine au (q:=first+(2*r+1)) rfl rfl rfl rfl (F.un _ rfl) (F.sz _ rfl) rfl (by omega) (by omega) (by omega) ?_))
     (refine aF ?_);(refine⟨by kernel_rfl,?_,?_⟩);(focus(repeat(first|exact trivial|refine⟨.inl rfl,?_⟩|refine⟨.inr (by(repeat(refine⟨(by first|exact aG (F.un _ rfl) (F.sz _ rfl) rfl rfl rfl (by omega) (by omega) (by omega)|exact aL rfl rfl (.inl ⟨rfl,(zf _ ⟨by omega,by omega⟩).symm⟩)|exact aB rfl),?_⟩));exact trivial),?_⟩|refine⟨.inl (by kernel_rfl),?_⟩)))
     (repeat(first|refine ac ?_|refine ab ?_|refine ay ?_|refine ai rfl rfl rfl ?_|refine ah rfl rfl rfl ?_))
     refine ih _ _ _ (2*r+1,Sort.swp d1 (first+r) (first+(2*r+1))) [] ⟨by simp only;omega,by rw [aw];exact hd1,by rw [← ho,e]⟩ (by simp only;omega) ?_
     (refine⟨(ExtOk.of rfl),rfl,(by repeat(first|exact trivial|refine⟨rfl,?_⟩)),(by repeat(first|exact trivial|refine⟨am rfl,?_⟩))⟩)
    ·rw [if_neg (by simpa [bi] using h4)] at e
     (refine aF ?_);(refine⟨by kernel_rfl,?_,?_⟩);(focus(repeat(first|exact trivial|refine⟨.inl rfl,?_⟩|refine⟨.inr (by(repeat(refine⟨(by first|exact bD rfl|exact aG (F.un _ rfl) (F.sz _ rfl) rfl rfl rfl (by omega) (by omega) (by omega)|exact aL rfl rfl (.inl ⟨rfl,(zf _ ⟨by omega,by omega⟩).symm⟩)|exact aB rfl),?_⟩));exact trivial),?_⟩|refine⟨.inl (by kernel_rfl),?_⟩)))
     (repeat(refine ar rfl ?_))
     ((apply aS Try.func83 (congrArg Array.toList Try.results83));(focus(repeat(exact ResIs.nil)));refine⟨_,rfl,Ends.mk [] (ExtOk.of rfl) rfl rfl ?_⟩)
     rw [← ho,e]
     exact(by repeat(first|exact trivial|refine⟨am rfl,?_⟩))
  ·have e:=nX (lt:=bi) (hi:=hi) (first:=first) (root:=r) (d:=d1) (by omega) (.inl (by omega))
   (repeat(first|refine ax rfl rfl rfl ?_|refine bL rfl rfl rfl rfl ?_|refine cd rfl rfl ?_))
   (refine aF ?_);(refine⟨by kernel_rfl,?_,?_⟩);(focus(repeat(first|exact trivial|refine⟨.inl rfl,?_⟩)))
   (repeat(first|refine aj ?_|refine aE ?_|refine an rfl ?_))
   refine aT (by kernel_rfl) (by kernel_rfl) ?_
   have hls_h4:=ew (d1[first+r]!) (d1[first+(2*r+1)]!)
   cases h4:bi (d1[first+r]!) (d1[first+(2*r+1)]!)
   all_goals rw [h4] at hls_h4
   rotate_left
   all_goals(repeat(first|refine ax rfl rfl rfl ?_|refine cG rfl rfl rfl rfl (by omega) (by omega) ?_|refine cl rfl rfl rfl ?_|(refine ba (g:=fun x:ByteArray=> .string x) rfl rfl rfl (F.ag _ rfl) rfl (by(omega)) (by(omega)) ?_)|refine au (q:=first+r) rfl rfl rfl rfl (F.un _ rfl) (F.sz _ rfl) rfl (by omega) (by omega) (by omega) ?_|refine au (q:=first+(2*r+1)) rfl rfl rfl rfl (F.un _ rfl) (F.sz _ rfl) rfl (by omega) (by omega) (by omega) ?_|refine aY rfl rfl rfl (by kernel_rfl) (Ctr.callV (hls_h4) [] rfl (ExtOk.of rfl) rfl trivial rfl) ?_))
   ·rw [if_pos (by simpa [bi] using h4)] at e
    (refine aF ?_);(refine⟨by kernel_rfl,?_,?_⟩);(focus(repeat(first|exact trivial|refine⟨.inl rfl,?_⟩|refine⟨.inr (by(repeat(refine⟨(by first|exact bD rfl|exact aG (F.un _ rfl) (F.sz _ rfl) rfl rfl rfl (by omega) (by omega) (by omega)|exact aL rfl rfl (.inl ⟨rfl,(zf _ ⟨by omega,by omega⟩).symm⟩)|exact aB rfl),?_⟩));exact trivial),?_⟩|refine⟨.inl (by kernel_rfl),?_⟩)))
    (repeat(first|refine aj ?_|refine aE ?_|refine an rfl ?_))
    refine aT (by kernel_rfl) (by kernel_rfl) ?_
    (repeat(first|refine ax rfl rfl rfl ?_|refine cG rfl rfl rfl rfl (by omega) (by omega) ?_|(refine ba (g:=fun x:ByteArray=> .string x) rfl rfl rfl (F.ag _ rfl) rfl (by(omega)) (by(omega)) ?_)|(refine bU (g:=fun x:ByteArray=> .string x) rfl rfl rfl (fun _=>rfl) (F.sz _ rfl) rfl (by first|omega|(simp only [zg,aw];omega)) (by first|omega|(simp only [zg,aw];omega)) ?_)|refine au (q:=first+r) rfl rfl rfl rfl (F.un _ rfl) (F.sz _ rfl) rfl (by omega) (by omega) (by omega) ?_|refine au (q:=first+(2*r+1)) rfl rfl rfl rfl (F.un _ rfl) (F.sz _ rfl) rfl (by omega) (by omega) (by omega) ?_))
    (refine aF ?_);(refine⟨by kernel_rfl,?_,?_⟩);(focus(repeat(first|exact trivial|refine⟨.inl rfl,?_⟩|refine⟨.inr (by(repeat(refine⟨(by first|exact aG (F.un _ rfl) (F.sz _ rfl) rfl rfl rfl (by omega) (by omega) (by omega)|exact aL rfl rfl (.inl ⟨rfl,(zf _ ⟨by omega,by omega⟩).symm⟩)|exact aB rfl),?_⟩));exact trivial),?_⟩|refine⟨.inl (by kernel_rfl),?_⟩)))
    (repeat(first|refine ac ?_|refine ab ?_|refine ay ?_|refine ai rfl rfl rfl ?_|refine ah rfl rfl rfl ?_))
    refine ih _ _ _ (2*r+1,Sort.swp d1 (first+r) (first+(2*r+1))) [] ⟨by simp only;omega,by rw [aw];exact hd1,by rw [← ho,e]⟩ (by simp only;omega) ?_
    (refine⟨(ExtOk.of rfl),rfl,(by repeat(first|exact trivial|refine⟨rfl,?_⟩)),(by repeat(first|exact trivial|refine⟨am rfl,?_⟩))⟩)
   ·rw [if_neg (by simpa [bi] using h4)] at e
    (refine aF ?_);(refine⟨by kernel_rfl,?_,?_⟩);(focus(repeat(first|exact trivial|refine⟨.inl rfl,?_⟩|refine⟨.inr (by(repeat(refine⟨(by first|exact bD rfl|exact aG (F.un _ rfl) (F.sz _ rfl) rfl rfl rfl (by omega) (by omega) (by omega)|exact aL rfl rfl (.inl ⟨rfl,(zf _ ⟨by omega,by omega⟩).symm⟩)|exact aB rfl),?_⟩));exact trivial),?_⟩|refine⟨.inl (by kernel_rfl),?_⟩)))
    (repeat(refine ar rfl ?_))
    ((apply aS Try.func83 (congrArg Array.toList Try.results83));(focus(repeat(exact ResIs.nil)));refine⟨_,rfl,Ends.mk [] (ExtOk.of rfl) rfl rfl ?_⟩)
    rw [← ho,e]
    exact(by repeat(first|exact trivial|refine⟨am rfl,?_⟩))
theorem og(n a b:Nat)(d:Array (ByteArray))(hn:n<4611686018427387904)(hd:d.size=n)(hab:a≤b)(hb:b≤n) :
 Ctr Try.prog 64 [.slu 0 0 n,.sc (.int .i64 (a:Int)),.sc (.int .i64 (b:Int))] [bG n d] (fun c=>c=⟨.tup [],[some (bG n (Sort.heapSort bi d a b))]⟩):=by
 refine Fnc.start Try.func64 rfl rfl ?_
 (repeat(first|refine aj ?_|refine ac ?_|refine ab ?_|refine ai rfl rfl rfl ?_|refine ah rfl rfl rfl ?_|refine bN rfl rfl rfl rfl (by omega) (by omega) ?_))
 refine wq rfl rfl rfl rfl (by decide) (show _=(((b-a-1) / 2:Nat):Int)from qB (m:=b-a) (by omega) (by omega)) ?_
 (repeat(first|refine ab ?_|refine aD ?_|refine ah rfl rfl rfl ?_))
 refine ct 1 (fun s:Nat×Array (ByteArray)=> [(0,.slu 0 0 n),(6,.sc (.int .i64 (a:Int))),(7,.sc (.int .i64 0)),(8,.sc (.int .i64 ((b-a:Nat):Int))),(9,.sc (.int .i64 ((s.1:Int)-1)))]) (fun s=> [some (bG n s.2)]) (fun s=>s.1≤(b-a-1) / 2+1∧s.2.size=n∧Sort.heapBuild bi (b-a) a s.1 s.2=Sort.heapBuild bi (b-a) a ((b-a-1) / 2+1) d) (fun s=>s.1) ((b-a-1) / 2+1,d) []
  (fun _=>rfl) ⟨zA _,hd,rfl⟩ ?_ (fun _=>rfl) (fun _=>rfl) ?_
 ·(refine⟨(ExtOk.of rfl),rfl,(by repeat(first|exact trivial|refine⟨rfl,?_⟩|refine⟨cp (by(omega)),?_⟩)),(by repeat(first|exact trivial|refine⟨am rfl,?_⟩))⟩)
 rintro⟨k,d1⟩ ⟨hk,hd1,ho⟩ ih
 simp only at hk hd1 ho ih ⊢
 (repeat(first|refine aj ?_|refine ac ?_|refine ai rfl rfl rfl ?_))
 refine cw rfl rfl rfl rfl ?_ ?_
 all_goals intro h1
 ·obtain⟨k,rfl⟩: ∃ k',k=k'+1:=⟨k-1,by omega⟩
  have ek:((k+1:Nat):Int)-1=(k:Int):=by omega
  rw [ek]
  (repeat(first|refine aj ?_|refine ac ?_|refine ab ?_|refine aD ?_|refine ay ?_|refine aE ?_|refine ar rfl ?_|refine ai rfl rfl rfl ?_|refine ah rfl rfl rfl ?_|refine bN rfl rfl rfl rfl (by omega) (by omega) ?_|refine aV rfl rfl rfl (by kernel_rfl) (Ctr.bA (ki n k (b-a) a d1 hn hd1 (by omega) (by omega)) [0] rfl (ExtOk.of rfl) rfl (by repeat(first|exact trivial|refine⟨am rfl,?_⟩)) rfl (by repeat(first|exact trivial|refine⟨aP,?_⟩)) (fun _=>rfl) rfl rfl) ?_))
  refine ih _ _ _ (k,Sort.siftDown bi (b-a) a k d1) [] ⟨by simp only;omega,by rw [gE];exact hd1,by rw [← ho];rfl⟩ (by simp only;omega) ?_
  (refine⟨(ExtOk.of rfl),rfl,(by repeat(first|exact trivial|refine⟨rfl,?_⟩)),(by repeat(first|exact trivial|refine⟨am rfl,?_⟩))⟩)
 ·obtain rfl:k=0:=by omega
  have ho1:d1=Sort.heapBuild bi (b-a) a ((b-a-1) / 2+1) d:=ho
  (repeat(first|refine aj ?_|refine ac ?_|refine ab ?_|refine aD ?_|refine aU rfl ?_|refine an rfl ?_|refine ai rfl rfl rfl ?_|refine ah rfl rfl rfl ?_|refine bN rfl rfl rfl rfl (by omega) (by omega) ?_))
  refine ct 1 (fun s:Nat×Array (ByteArray)=> [(0,.slu 0 0 n),(6,.sc (.int .i64 (a:Int))),(7,.sc (.int .i64 0)),(10,.sc (.int .i64 ((s.1:Int)-1)))]) (fun s=> [some (bG n s.2)]) (fun s=>s.1≤b-a∧s.2.size=n∧Sort.heapPop bi a s.1 s.2=Sort.heapSort bi d a b) (fun s=>s.1) (b-a,d1) []
   (fun _=>rfl) ⟨zA _,hd1,by rw [ho1];rfl⟩ ?_ (fun _=>rfl) (fun _=>rfl) ?_
  ·(refine⟨(ExtOk.of rfl),rfl,(by repeat(first|exact trivial|refine⟨rfl,?_⟩)),(by repeat(first|exact trivial|refine⟨am rfl,?_⟩))⟩)
  rintro⟨m,d2⟩ ⟨hm,hd2,hp⟩ ihm
  simp only at hm hd2 hp ihm ⊢
  (repeat(first|refine aj ?_|refine ac ?_|refine ai rfl rfl rfl ?_))
  refine cw rfl rfl rfl rfl ?_ ?_
  all_goals intro h2
  ·obtain⟨m,rfl⟩: ∃ m',m=m'+1:=⟨m-1,by omega⟩
   have em:((m+1:Nat):Int)-1=(m:Int):=by omega
   rw [em]
   (repeat(first|refine aj ?_|refine ab ?_|refine aD ?_|refine aE ?_|refine ar rfl ?_))
   refine aT (by kernel_rfl) (by kernel_rfl) ?_
   (repeat(first|refine ax rfl rfl rfl ?_|refine cG rfl rfl rfl rfl (by omega) (by omega) ?_|(refine ba (g:=fun x:ByteArray=> .string x) rfl rfl rfl (F.ag _ rfl) rfl (by(omega)) (by(omega)) ?_)|(refine bU (g:=fun x:ByteArray=> .string x) rfl rfl rfl (fun _=>rfl) (F.sz _ rfl) rfl (by first|omega|(simp only [zg,aw];omega)) (by first|omega|(simp only [zg,aw];omega)) ?_)|refine au (q:=a) rfl rfl rfl rfl (F.un _ rfl) (F.sz _ rfl) rfl (by omega) (by omega) (by omega) ?_|refine au (q:=a+m) rfl rfl rfl rfl (F.un _ rfl) (F.sz _ rfl) rfl (by omega) (by omega) (by omega) ?_))
   (refine aF ?_);(refine⟨by kernel_rfl,?_,?_⟩);(focus(repeat(first|exact trivial|refine⟨.inl rfl,?_⟩|refine⟨.inr (by(repeat(refine⟨(by first|exact aG (F.un _ rfl) (F.sz _ rfl) rfl rfl rfl (by omega) (by omega) (by omega)|exact aL rfl rfl (.inl ⟨rfl,(zf _ ⟨by omega,by omega⟩).symm⟩)|exact aB rfl),?_⟩));exact trivial),?_⟩|refine⟨.inl (by kernel_rfl),?_⟩)))
   (repeat(first|refine ac ?_|refine ab ?_|refine ay ?_|refine ai rfl rfl rfl ?_|refine ah rfl rfl rfl ?_|refine bN rfl rfl rfl rfl (by omega) (by omega) ?_|refine aV rfl rfl rfl (by kernel_rfl) (Ctr.bA (ki n 0 m a (Sort.swp d2 a (a+m)) hn (by rw [aw];exact hd2) (by omega) (by omega)) [0] rfl (ExtOk.of rfl) rfl (by repeat(first|exact trivial|refine⟨am rfl,?_⟩)) rfl (by repeat(first|exact trivial|refine⟨aP,?_⟩)) (fun _=>rfl) rfl rfl) ?_))
   refine ihm _ _ _ (m,Sort.siftDown bi m a 0 (Sort.swp d2 a (a+m))) [] ⟨by simp only;omega,by rw [gE,aw];exact hd2,by rw [← hp];rfl⟩ (by simp only;omega) ?_
   (refine⟨(ExtOk.of rfl),rfl,(by repeat(first|exact trivial|refine⟨rfl,?_⟩)),(by repeat(first|exact trivial|refine⟨am rfl,?_⟩))⟩)
  ·obtain rfl:m=0:=by omega
   (repeat(first|refine ab ?_|refine aU rfl ?_|refine an rfl ?_))
   ((apply dU Try.func64 (congrArg Array.toList Try.results64));(focus(repeat(exact ResIs.nil)));refine⟨_,rfl,Ends.mk [] (ExtOk.of rfl) rfl rfl ?_⟩)
   rw [← hp]
   exact(by repeat(first|exact trivial|refine⟨am rfl,?_⟩))
theorem pK(n a b:Nat)(d:Array (ByteArray))(hn:n<4611686018427387904)(hd:d.size=n)(hab:a<b)(hb:b≤n) :
 Ctr Try.prog 67 [.slu 0 0 n,.sc (.int .i64 (a:Int)),.sc (.int .i64 (b:Int))] [bG n d] (fun c=>c=⟨.tup [],[some (bG n (Sort.reverseRange d a b))]⟩):=by
 refine Fnc.start Try.func67 rfl rfl ?_
 (repeat(first|refine aj ?_|refine ac ?_|refine ab ?_|refine aD ?_|refine ai rfl rfl rfl ?_|refine ah rfl rfl rfl ?_|refine bN rfl rfl rfl rfl (by omega) (by omega) ?_))
 refine ct 1 (fun s:(Nat×Nat)×Array (ByteArray)=> [(0,.slu 0 0 n),(6,.sc (.int .i64 (s.1.1:Int))),(7,.sc (.int .i64 (s.1.2:Int)))]) (fun s=> [some (bG n s.2)]) (fun s=>s.1.1≤n∧s.1.2<n∧s.1.1≤s.1.2+1∧s.2.size=n∧Sort.reverseLoop s.1.1 s.1.2 s.2=Sort.reverseRange d a b) (fun s=>s.1.2+1-s.1.1) ((a,b-1),d) []
  (fun _=>rfl) ⟨by simp only;omega,by simp only;omega,by simp only;omega,hd,rfl⟩ ?_ (fun _=>rfl) (fun _=>rfl) ?_
 ·(refine⟨(ExtOk.of rfl),rfl,(by repeat(first|exact trivial|refine⟨rfl,?_⟩|refine⟨cp (by(simp only;omega)),?_⟩)),(by repeat(first|exact trivial|refine⟨am rfl,?_⟩))⟩)
 rintro⟨⟨i,j⟩,d1⟩ ⟨hi,hj,hij,hd1,ho⟩ ih
 simp only at hi hj hij hd1 ho ih ⊢
 (repeat(first|refine aj ?_|refine ac ?_|refine ai rfl rfl rfl ?_))
 refine cF rfl rfl rfl rfl ?_ ?_
 all_goals intro h1
 ·(repeat(first|refine aj ?_|refine ab ?_|refine aD ?_|refine aE ?_|refine ar rfl ?_))
  refine aT (by kernel_rfl) (by kernel_rfl) ?_
  (repeat(first|refine ax rfl rfl rfl ?_|(refine ba (g:=fun x:ByteArray=> .string x) rfl rfl rfl (F.ag _ rfl) rfl (by(omega)) (by(omega)) ?_)|(refine bU (g:=fun x:ByteArray=> .string x) rfl rfl rfl (fun _=>rfl) (F.sz _ rfl) rfl (by first|omega|(simp only [zg,aw];omega)) (by first|omega|(simp only [zg,aw];omega)) ?_)|refine au (q:=i) rfl rfl rfl rfl (F.un _ rfl) (F.sz _ rfl) rfl (by omega) (by omega) (by omega) ?_|refine au (q:=j) rfl rfl rfl rfl (F.un _ rfl) (F.sz _ rfl) rfl (by omega) (by omega) (by omega) ?_))
  (refine aF ?_);(refine⟨by kernel_rfl,?_,?_⟩);(focus(repeat(first|exact trivial|refine⟨.inl rfl,?_⟩|refine⟨.inr (by(repeat(refine⟨(by first|exact aG (F.un _ rfl) (F.sz _ rfl) rfl rfl rfl (by omega) (by omega) (by omega)|exact aB rfl),?_⟩));exact trivial),?_⟩|refine⟨.inl (by kernel_rfl),?_⟩)))
  (repeat(first|refine aj ?_|refine ac ?_|refine ab ?_|refine ay ?_|refine ai rfl rfl rfl ?_|refine ah rfl rfl rfl ?_|refine bj rfl rfl rfl rfl (by omega) (by omega) ?_|refine bN rfl rfl rfl rfl (by omega) (by omega) ?_))
  refine ih _ _ _ ((i+1,j-1),Sort.swp d1 i j) [] ⟨by simp only;omega,by simp only;omega,by simp only;omega,by rw [aw];exact hd1,?_⟩ (by simp only;omega) ?_
  ·rw [← ho]
   conv=>rhs;rw [Sort.reverseLoop,if_pos (by omega)]
  ·(refine⟨(ExtOk.of rfl),rfl,(by repeat(first|exact trivial|refine⟨rfl,?_⟩|refine⟨cp (by(simp only;omega)),?_⟩)),(by repeat(first|exact trivial|refine⟨am rfl,?_⟩))⟩)
 ·(repeat(first|refine ab ?_|refine aU rfl ?_|refine an rfl ?_))
  ((apply dU Try.func67 (congrArg Array.toList Try.results67));(focus(repeat(exact ResIs.nil)));refine⟨_,rfl,Ends.mk [] (ExtOk.of rfl) rfl rfl ?_⟩)
  rw [← ho,Sort.reverseLoop,if_neg (by omega)]
  exact(by repeat(first|exact trivial|refine⟨am rfl,?_⟩))
abbrev jP(k:Nat):VO:=ak 3 [.sc (.int .i64 (k:Int))]
theorem fB(n a b k:Nat)(d:Array (ByteArray))(hn:n<4611686018427387904)(hd:d.size=n)(ha:a<n)(hb:b<n)(hk:k<1000) :
 Ctr Try.prog 93 [.slu 0 0 n,.sc (.int .i64 (a:Int)),.sc (.int .i64 (b:Int)),.ptr 1 0] [bG n d,jP k] (fun c=>c=⟨.tup [.sc (.int .i64 ((Sort.order2 bi d a b k).1:Int)),.sc (.int .i64 ((Sort.order2 bi d a b k).2.1:Int))],[some (bG n d),some (jP (Sort.order2 bi d a b k).2.2)]⟩):=by
 refine Fnc.start Try.func93 rfl rfl ?_
 (repeat(first|refine aj ?_|refine ac ?_|refine ab ?_|refine ah rfl rfl rfl ?_))
 refine aT (by kernel_rfl) (by kernel_rfl) ?_
 have hls_h1:=ew (d[b]!) (d[a]!)
 cases h1:bi (d[b]!) (d[a]!)
 all_goals rw [h1] at hls_h1
 rotate_left
 all_goals(repeat(first|refine ax rfl rfl rfl ?_|(refine ba (g:=fun x:ByteArray=> .string x) rfl rfl rfl (F.ag _ rfl) rfl (by(omega)) (by(omega)) ?_)|refine au (q:=a) rfl rfl rfl rfl (F.un _ rfl) (F.sz _ rfl) rfl (by omega) (by omega) (by omega) ?_|refine au (q:=b) rfl rfl rfl rfl (F.un _ rfl) (F.sz _ rfl) rfl (by omega) (by omega) (by omega) ?_|refine aY rfl rfl rfl (by kernel_rfl) (Ctr.callV (hls_h1) [] rfl (ExtOk.of rfl) rfl trivial rfl) ?_))
 ·skip
  (refine aF ?_);(refine⟨by kernel_rfl,?_,?_⟩);(focus(repeat(first|exact trivial|refine⟨.inl rfl,?_⟩|refine⟨.inr (by(repeat(refine⟨(by first|exact aG (F.un _ rfl) (F.sz _ rfl) rfl rfl rfl (by omega) (by omega) (by omega)|exact aB rfl),?_⟩));exact trivial),?_⟩|refine⟨.inl (by kernel_rfl),?_⟩)))
  (repeat(first|refine aj ?_|refine ac ?_|refine ab ?_|refine ar rfl ?_|refine ai rfl rfl rfl ?_|refine ah rfl rfl rfl ?_|refine aR rfl rfl rfl ?_|refine aH rfl rfl rfl (F.ag _ rfl) rfl rfl ?_|refine kC rfl rfl rfl (F.sz _ rfl) rfl rfl rfl ?_|refine bj rfl rfl rfl rfl (by omega) (by omega) ?_))
  rw [show Sort.order2 bi d a b k=(b,a,k+1) by rw [Sort.order2,if_pos (by simpa [bi] using h1)]]
  ((apply aS Try.func93 (congrArg Array.toList Try.results93));(focus(repeat(first|exact ResIs.nil|apply ResIs.tmp rfl)));refine⟨_,rfl,Ends.mk [] (ExtOk.of rfl) rfl rfl ?_⟩)
  exact(by repeat(first|exact trivial|refine⟨am rfl,?_⟩|refine⟨ca rfl,?_⟩))
 ·skip
  (refine aF ?_);(refine⟨by kernel_rfl,?_,?_⟩);(focus(repeat(first|exact trivial|refine⟨.inl rfl,?_⟩|refine⟨.inr (by(repeat(refine⟨(by first|exact aG (F.un _ rfl) (F.sz _ rfl) rfl rfl rfl (by omega) (by omega) (by omega)|exact aB rfl),?_⟩));exact trivial),?_⟩|refine⟨.inl (by kernel_rfl),?_⟩)))
  (repeat(first|refine aj ?_|refine ac ?_|refine ab ?_|refine aE ?_|refine an rfl ?_|refine ai rfl rfl rfl ?_|refine ah rfl rfl rfl ?_))
  rw [show Sort.order2 bi d a b k=(a,b,k) by rw [Sort.order2,if_neg (by simpa [bi] using h1)]]
  ((apply aS Try.func93 (congrArg Array.toList Try.results93));(focus(repeat(first|exact ResIs.nil|apply ResIs.tmp rfl)));refine⟨_,rfl,Ends.mk [] (ExtOk.of rfl) rfl rfl ?_⟩)
  exact(by repeat(first|exact trivial|refine⟨am rfl,?_⟩|refine⟨ca rfl,?_⟩))
theorem dx{lt:ByteArray→ByteArray→Bool}{d:Array (ByteArray)}{a b k n:Nat}(ha:a<n)(hb:b<n):(Sort.order2 lt d a b k).1<n∧(Sort.order2 lt d a b k).2.1<n∧(Sort.order2 lt d a b k).2.2≤k+1:=by
 unfold Sort.order2
 split
 ·exact⟨hb,ha,zA _⟩
 ·exact⟨ha,hb,zJ _⟩
theorem fC(n a b c k:Nat)(d:Array (ByteArray))(hn:n<4611686018427387904)(hd:d.size=n)(ha:a<n)(hb:b<n)(hc:c<n)(hk:k<900) :
 Ctr Try.prog 87 [.slu 0 0 n,.sc (.int .i64 (a:Int)),.sc (.int .i64 (b:Int)),.sc (.int .i64 (c:Int)),.ptr 1 0] [bG n d,jP k] (fun r=>r=⟨.sc (.int .i64 ((Sort.median bi d a b c k).1:Int)),[some (bG n d),some (jP (Sort.median bi d a b c k).2)]⟩):=by
 obtain⟨q1,q2,q3⟩:=dx (lt:=bi) (d:=d) (k:=k) ha hb
 have e1:=fB n a b k d hn hd ha hb (by omega)
 unfold Sort.median
 generalize Sort.order2 bi d a b k=r1 at q1 q2 q3 e1 ⊢
 obtain⟨a1,b1,k1⟩:=r1
 obtain⟨p1,p2,p3⟩:=dx (lt:=bi) (d:=d) (k:=k1) q2 hc
 have e2:=fB n b1 c k1 d hn hd q2 hc (by simp only at q3;omega)
 simp only at q1 q2 q3 p1 p2 p3 e1 e2 ⊢
 generalize Sort.order2 bi d b1 c k1=r2 at p1 p2 p3 e2 ⊢
 obtain⟨b2,c2,k2⟩:=r2
 obtain⟨o1,o2,o3⟩:=dx (lt:=bi) (d:=d) (k:=k2) q1 p1
 have e3:=fB n a1 b2 k2 d hn hd q1 p1 (by simp only at p3;omega)
 simp only at p1 p2 p3 o1 o2 o3 e2 e3 ⊢
 generalize Sort.order2 bi d a1 b2 k2=r3 at o1 o2 o3 e3 ⊢
 obtain⟨a3,b3,k3⟩:=r3
 simp only at o1 o2 o3 e3 ⊢
 refine Fnc.start Try.func87 rfl rfl ?_
 (repeat(first|refine aj ?_|refine ac ?_|refine ab ?_|refine ai rfl rfl rfl ?_|refine ah rfl rfl rfl ?_|refine bM rfl rfl rfl rfl ?_|refine aV rfl rfl rfl (by kernel_rfl) (Ctr.bA (e1) [0,1] rfl (ExtOk.of rfl) rfl (by repeat(first|exact trivial|refine⟨am rfl,?_⟩|refine⟨ca rfl,?_⟩)) rfl (by repeat(first|exact trivial|refine⟨aP,?_⟩|refine⟨bz (fun _=>rfl),?_⟩)) (fun _=>rfl) rfl rfl) ?_|refine aV rfl rfl rfl (by kernel_rfl) (Ctr.bA (e2) [0,1] rfl (ExtOk.of rfl) rfl (by repeat(first|exact trivial|refine⟨am rfl,?_⟩|refine⟨ca rfl,?_⟩)) rfl (by repeat(first|exact trivial|refine⟨aP,?_⟩|refine⟨bz (fun _=>rfl),?_⟩)) (fun _=>rfl) rfl rfl) ?_|refine aV rfl rfl rfl (by kernel_rfl) (Ctr.bA (e3) [0,1] rfl (ExtOk.of rfl) rfl (by repeat(first|exact trivial|refine⟨am rfl,?_⟩|refine⟨ca rfl,?_⟩)) rfl (by repeat(first|exact trivial|refine⟨aP,?_⟩|refine⟨bz (fun _=>rfl),?_⟩)) (fun _=>rfl) rfl rfl) ?_))
 ((apply aS Try.func87 (congrArg Array.toList Try.results87));(focus(repeat(first|exact ResIs.nil|apply ResIs.tmp rfl)));refine⟨_,rfl,Ends.mk [] (ExtOk.of rfl) rfl rfl ?_⟩)
 exact(by repeat(first|exact trivial|refine⟨am rfl,?_⟩|refine⟨ca rfl,?_⟩))
theorem gS{lt:ByteArray→ByteArray→Bool}{d:Array (ByteArray)}{a b c k n:Nat}(ha:a<n)(hb:b<n)(hc:c<n):(Sort.median lt d a b c k).1<n∧(Sort.median lt d a b c k).2≤k+3:=by
 obtain⟨q1,q2,q3⟩:=dx (lt:=lt) (d:=d) (k:=k) ha hb
 obtain⟨p1,p2,p3⟩:=dx (lt:=lt) (d:=d) (k:=(Sort.order2 lt d a b k).2.2) q2 hc
 obtain⟨o1,o2,o3⟩:=dx (lt:=lt) (d:=d) (k:=(Sort.order2 lt d (Sort.order2 lt d a b k).2.1 c (Sort.order2 lt d a b k).2.2).2.2) q1 p1
 exact⟨o2,by simp only [Sort.median];omega⟩
theorem fD(n a k:Nat)(d:Array (ByteArray))(hn:n<4611686018427387904)(hd:d.size=n)(ha:a+1<n)(h1:1≤a)(hk:k<900) :
 Ctr Try.prog 86 [.slu 0 0 n,.sc (.int .i64 (a:Int)),.ptr 1 0] [bG n d,jP k] (fun r=>r=⟨.sc (.int .i64 ((Sort.medianAdjacent bi d a k).1:Int)),[some (bG n d),some (jP (Sort.medianAdjacent bi d a k).2)]⟩):=by
 obtain⟨a,rfl⟩: ∃ a',a=a'+1:=⟨a-1,by omega⟩
 have e:=fC n a (a+1) (a+1+1) k d hn hd (by omega) (by omega) (by omega) hk
 have e0:((a:Nat):Int)=((a+1:Nat):Int)-1:=by omega
 rw [e0] at e
 refine Fnc.start Try.func86 rfl rfl ?_
 (repeat(first|refine aj ?_|refine ac ?_|refine ab ?_|refine ai rfl rfl rfl ?_|refine ah rfl rfl rfl ?_|refine bj rfl rfl rfl rfl (by omega) (by omega) ?_|refine bN rfl rfl rfl rfl (by omega) (by omega) ?_|refine aV rfl rfl rfl (by kernel_rfl) (Ctr.bA (e) [0,1] rfl (ExtOk.of rfl) rfl (by repeat(first|exact trivial|refine⟨am rfl,?_⟩|refine⟨ca rfl,?_⟩)) rfl (by repeat(first|exact trivial|refine⟨aP,?_⟩|refine⟨bz (fun _=>rfl),?_⟩)) (fun _=>rfl) rfl rfl) ?_))
 ((apply aS Try.func86 (congrArg Array.toList Try.results86));(focus(repeat(first|exact ResIs.nil|apply ResIs.tmp rfl)));refine⟨_,rfl,Ends.mk [] (ExtOk.of rfl) rfl rfl ?_⟩)
 exact(by repeat(first|exact trivial|refine⟨am rfl,?_⟩|refine⟨ca rfl,?_⟩))
theorem pL(n a b:Nat)(d:Array (ByteArray))(hn:n<4611686018427387904)(hd:d.size=n)(hab:a<b)(hb:b≤n) :
 Ctr Try.prog 66 [.slu 0 0 n,.sc (.int .i64 (a:Int)),.sc (.int .i64 (b:Int))] [bG n d] (fun r=>r=⟨.tup [.sc (.int .i64 ((Sort.choosePivot bi d a b).1:Int)),.sc (.int .i64 (t4 (Sort.choosePivot bi d a b).2))],[some (bG n d)]⟩):=by
 have e1:((a:Int)+((b:Int)-(a:Int)) / 4*1)=((a+(b-a) / 4*1:Nat):Int):=by omega
 have e2:((a:Int)+((b:Int)-(a:Int)) / 4*2)=((a+(b-a) / 4*2:Nat):Int):=by omega
 have e3:((a:Int)+((b:Int)-(a:Int)) / 4*3)=((a+(b-a) / 4*3:Nat):Int):=by omega
 refine Fnc.start Try.func66 rfl rfl ?_
 (repeat(first|refine aj ?_|refine ac ?_|refine ab ?_|refine ai rfl rfl rfl ?_|refine ah rfl rfl rfl ?_|refine cx rfl rfl (F.zl _ rfl) ?_|refine bj rfl rfl rfl rfl (by omega) (by omega) ?_|refine bN rfl rfl rfl rfl (by omega) (by omega) ?_|refine ny rfl rfl rfl rfl (by omega) (by omega) ?_|refine nw rfl rfl rfl rfl (by omega) (by omega) (by omega) ?_))
 rw [e1,e2,e3]
 have fin: ∀ (T:Tr SV) (H:aK) (nx:Nat) (p k:Nat),True:=fun _ _ _ _ _=>trivial
 refine cw rfl rfl rfl rfl ?_ ?_
 all_goals intro h1
 ·(repeat(first|refine aj ?_|refine ac ?_|refine ab ?_|refine ar rfl ?_|refine ai rfl rfl rfl ?_))
  refine cw rfl rfl rfl rfl ?_ ?_
  all_goals intro h2
  ·have m1:=fD n (a+(b-a) / 4*1) 0 d hn hd (by omega) (by omega) (by omega)
   have l1:(Sort.medianAdjacent bi d (a+(b-a) / 4*1) 0).1<n∧(Sort.medianAdjacent bi d (a+(b-a) / 4*1) 0).2≤0+3:=gS (by omega) (by omega) (by omega)
   have ec:Sort.choosePivot bi d a b=Sort.choosePivot bi d a b:=rfl
   conv at ec=>rhs;unfold Sort.choosePivot
   simp only [show b-a≥8 by omega,show b-a≥50 by omega,if_true] at ec
   generalize Sort.medianAdjacent bi d (a+(b-a) / 4*1) 0=r1 at m1 l1 ec
   have m2:=fD n (a+(b-a) / 4*2) r1.2 d hn hd (by omega) (by omega) (by omega)
   have l2:(Sort.medianAdjacent bi d (a+(b-a) / 4*2) r1.2).1<n∧(Sort.medianAdjacent bi d (a+(b-a) / 4*2) r1.2).2≤r1.2+3:=gS (by omega) (by omega) (by omega)
   generalize Sort.medianAdjacent bi d (a+(b-a) / 4*2) r1.2=r2 at m2 l2 ec
   have m3:=fD n (a+(b-a) / 4*3) r2.2 d hn hd (by omega) (by omega) (by omega)
   have l3:(Sort.medianAdjacent bi d (a+(b-a) / 4*3) r2.2).1<n∧(Sort.medianAdjacent bi d (a+(b-a) / 4*3) r2.2).2≤r2.2+3:=gS (by omega) (by omega) (by omega)
   generalize Sort.medianAdjacent bi d (a+(b-a) / 4*3) r2.2=r3 at m3 l3 ec
   have m4:=fC n r1.1 r2.1 r3.1 r3.2 d hn hd l1.1 l2.1 l3.1 (by omega)
   generalize Sort.median bi d r1.1 r2.1 r3.1 r3.2=r4 at m4 ec
   rw [ec]
   obtain⟨p,k⟩:=r4
   (repeat(first|refine aj ?_|refine ac ?_|refine ab ?_|refine aD ?_|refine ar rfl ?_|refine ai rfl rfl rfl ?_|refine ah rfl rfl rfl ?_|refine aH rfl rfl rfl (F.ag _ rfl) rfl rfl ?_|refine aV rfl rfl rfl (by kernel_rfl) (Ctr.bA (m1) [0,1] rfl (ExtOk.of rfl) rfl (by repeat(first|exact trivial|refine⟨am rfl,?_⟩|refine⟨ca rfl,?_⟩)) rfl (by repeat(first|exact trivial|refine⟨aP,?_⟩|refine⟨bz (fun _=>rfl),?_⟩)) (fun _=>rfl) rfl rfl) ?_|refine aV rfl rfl rfl (by kernel_rfl) (Ctr.bA (m2) [0,1] rfl (ExtOk.of rfl) rfl (by repeat(first|exact trivial|refine⟨am rfl,?_⟩|refine⟨ca rfl,?_⟩)) rfl (by repeat(first|exact trivial|refine⟨aP,?_⟩|refine⟨bz (fun _=>rfl),?_⟩)) (fun _=>rfl) rfl rfl) ?_|refine aV rfl rfl rfl (by kernel_rfl) (Ctr.bA (m3) [0,1] rfl (ExtOk.of rfl) rfl (by repeat(first|exact trivial|refine⟨am rfl,?_⟩|refine⟨ca rfl,?_⟩)) rfl (by repeat(first|exact trivial|refine⟨aP,?_⟩|refine⟨bz (fun _=>rfl),?_⟩)) (fun _=>rfl) rfl rfl) ?_|refine aV rfl rfl rfl (by kernel_rfl) (Ctr.bA (m4) [0,1] rfl (ExtOk.of rfl) rfl (by repeat(first|exact trivial|refine⟨am rfl,?_⟩|refine⟨ca rfl,?_⟩)) rfl (by repeat(first|exact trivial|refine⟨aP,?_⟩|refine⟨bz (fun _=>rfl),?_⟩)) (fun _=>rfl) rfl rfl) ?_))
   refine cP rfl rfl rfl rfl ?_ ?_
   all_goals intro h3
   ·(repeat(first|refine aj ?_|refine ac ?_|refine ab ?_|refine ar rfl ?_|refine ai rfl rfl rfl ?_|refine ah rfl rfl rfl ?_))
    rw [if_pos (show(p,k).2=0 by simp only;omega)]
    ((apply aS Try.func66 (congrArg Array.toList Try.results66));(focus(repeat(first|exact ResIs.nil|apply ResIs.tmp rfl)));refine⟨_,rfl,Ends.mk [] (ExtOk.of rfl) rfl rfl ?_⟩)
    exact(by repeat(first|exact trivial|refine⟨am rfl,?_⟩))
   ·(repeat(first|refine aj ?_|refine ac ?_|refine ab ?_|refine an rfl ?_|refine ah rfl rfl rfl ?_))
    refine cP rfl rfl rfl rfl ?_ ?_
    all_goals intro h4
    ·(repeat(first|refine aj ?_|refine ac ?_|refine ab ?_|refine ar rfl ?_|refine ai rfl rfl rfl ?_|refine ah rfl rfl rfl ?_))
     rw [if_neg (show ¬ (p,k).2=0 by simp only;omega),if_pos (show(p,k).2=12 by simp only;omega)]
     ((apply aS Try.func66 (congrArg Array.toList Try.results66));(focus(repeat(first|exact ResIs.nil|apply ResIs.tmp rfl)));refine⟨_,rfl,Ends.mk [] (ExtOk.of rfl) rfl rfl ?_⟩)
     exact(by repeat(first|exact trivial|refine⟨am rfl,?_⟩))
    ·(repeat(first|refine aj ?_|refine ac ?_|refine ab ?_|refine an rfl ?_|refine ai rfl rfl rfl ?_|refine ah rfl rfl rfl ?_))
     rw [if_neg (show ¬ (p,k).2=0 by simp only;omega),if_neg (show ¬ (p,k).2=12 by simp only;omega)]
     ((apply aS Try.func66 (congrArg Array.toList Try.results66));(focus(repeat(first|exact ResIs.nil|apply ResIs.tmp rfl)));refine⟨_,rfl,Ends.mk [] (ExtOk.of rfl) rfl rfl ?_⟩)
     exact(by repeat(first|exact trivial|refine⟨am rfl,?_⟩))
  ·have ec:Sort.choosePivot bi d a b=Sort.choosePivot bi d a b:=rfl
   conv at ec=>rhs;unfold Sort.choosePivot
   simp only [show b-a≥8 by omega,show ¬ (b-a≥50) by omega,if_true,if_false] at ec
   have m4:=fC n (a+(b-a) / 4*1) (a+(b-a) / 4*2) (a+(b-a) / 4*3) 0 d hn hd (by omega) (by omega) (by omega) (by omega)
   generalize Sort.median bi d (a+(b-a) / 4*1) (a+(b-a) / 4*2) (a+(b-a) / 4*3) 0=r4 at m4 ec
   rw [ec]
   obtain⟨p,k⟩:=r4
   (repeat(first|refine aj ?_|refine ac ?_|refine ab ?_|refine aD ?_|refine aE ?_|refine an rfl ?_|refine ai rfl rfl rfl ?_|refine ah rfl rfl rfl ?_|refine aH rfl rfl rfl (F.ag _ rfl) rfl rfl ?_|refine aV rfl rfl rfl (by kernel_rfl) (Ctr.bA (m4) [0,1] rfl (ExtOk.of rfl) rfl (by repeat(first|exact trivial|refine⟨am rfl,?_⟩|refine⟨ca rfl,?_⟩)) rfl (by repeat(first|exact trivial|refine⟨aP,?_⟩|refine⟨bz (fun _=>rfl),?_⟩)) (fun _=>rfl) rfl rfl) ?_))
   refine cP rfl rfl rfl rfl ?_ ?_
   all_goals intro h3
   ·(repeat(first|refine aj ?_|refine ac ?_|refine ab ?_|refine ar rfl ?_|refine ai rfl rfl rfl ?_|refine ah rfl rfl rfl ?_))
    rw [if_pos (show(p,k).2=0 by simp only;omega)]
    ((apply aS Try.func66 (congrArg Array.toList Try.results66));(focus(repeat(first|exact ResIs.nil|apply ResIs.tmp rfl)));refine⟨_,rfl,Ends.mk [] (ExtOk.of rfl) rfl rfl ?_⟩)
    exact(by repeat(first|exact trivial|refine⟨am rfl,?_⟩))
   ·(repeat(first|refine aj ?_|refine ac ?_|refine ab ?_|refine an rfl ?_|refine ah rfl rfl rfl ?_))
    refine cP rfl rfl rfl rfl ?_ ?_
    all_goals intro h4
    ·(repeat(first|refine aj ?_|refine ac ?_|refine ab ?_|refine ar rfl ?_|refine ai rfl rfl rfl ?_|refine ah rfl rfl rfl ?_))
     rw [if_neg (show ¬ (p,k).2=0 by simp only;omega),if_pos (show(p,k).2=12 by simp only;omega)]
     ((apply aS Try.func66 (congrArg Array.toList Try.results66));(focus(repeat(first|exact ResIs.nil|apply ResIs.tmp rfl)));refine⟨_,rfl,Ends.mk [] (ExtOk.of rfl) rfl rfl ?_⟩)
     exact(by repeat(first|exact trivial|refine⟨am rfl,?_⟩))
    ·(repeat(first|refine aj ?_|refine ac ?_|refine ab ?_|refine an rfl ?_|refine ai rfl rfl rfl ?_|refine ah rfl rfl rfl ?_))
     rw [if_neg (show ¬ (p,k).2=0 by simp only;omega),if_neg (show ¬ (p,k).2=12 by simp only;omega)]
     ((apply aS Try.func66 (congrArg Array.toList Try.results66));(focus(repeat(first|exact ResIs.nil|apply ResIs.tmp rfl)));refine⟨_,rfl,Ends.mk [] (ExtOk.of rfl) rfl rfl ?_⟩)
     exact(by repeat(first|exact trivial|refine⟨am rfl,?_⟩))
 ·have ec:Sort.choosePivot bi d a b=(a+(b-a) / 4*2,.increasing):=by
   unfold Sort.choosePivot
   simp only [show ¬ (b-a≥8) by omega,if_false,if_true]
  rw [ec]
  (repeat(first|refine aj ?_|refine ac ?_|refine ab ?_|refine aD ?_|refine aE ?_|refine ar rfl ?_|refine an rfl ?_|refine ai rfl rfl rfl ?_|refine ah rfl rfl rfl ?_|refine aH rfl rfl rfl (F.ag _ rfl) rfl rfl ?_|refine pt rfl rfl rfl rfl ?_))
  ((apply aS Try.func66 (congrArg Array.toList Try.results66));(focus(repeat(first|exact ResIs.nil|apply ResIs.tmp rfl)));refine⟨_,rfl,Ends.mk [] (ExtOk.of rfl) rfl rfl ?_⟩)
  exact(by repeat(first|exact trivial|refine⟨am rfl,?_⟩))
theorem gR{p:ByteArray→Bool}{d:Array (ByteArray)}{i j:Nat}(h:i≤j)(hp:p d[i]! =true):Sort.scanUp p d j i=Sort.scanUp p d j (i+1):=by
 conv=>lhs;rw [Sort.scanUp,if_pos (by simp [h,hp])]
theorem cT{p:ByteArray→Bool}{d:Array (ByteArray)}{i j:Nat}(h:j<i∨p d[i]! =false):Sort.scanUp p d j i=i:=by
 rw [Sort.scanUp,if_neg]
 simp only [zy,decide_eq_true_eq]
 rintro⟨h1,h2⟩
 rcases h with h|h
 ·omega
 ·rw [h] at h2;cases h2
theorem fA{p:ByteArray→Bool}{d:Array (ByteArray)}{i j:Nat}(h:i≤j+1)(hp:p d[j+1]! =true):Sort.scanDown p d i (j+1)=Sort.scanDown p d i j:=by
 conv=>lhs;rw [Sort.scanDown,if_pos (by simp [h,hp])]
theorem cn{p:ByteArray→Bool}{d:Array (ByteArray)}{i j:Nat}(h:j<i∨p d[j]! =false):Sort.scanDown p d i j=j:=by
 cases j with
 | zero=>rfl
 | succ j=>
   rw [Sort.scanDown,if_neg]
   simp only [zy,decide_eq_true_eq]
   rintro⟨h1,h2⟩
   rcases h with h|h
   ·omega
   ·rw [h] at h2;cases h2
theorem lT{lt:ByteArray→ByteArray→Bool}{d:Array (ByteArray)}{a i j i2 j2:Nat}(hi:Sort.scanUp (fun x=> !lt d[a]! x) d j i=i2)(hj:Sort.scanDown (fun x=>lt d[a]! x) d i2 j=j2)(h1:i≤i2)(h2:j2≤j) :
 Sort.partEqLoop lt a i j d=if j2<i2 then(i2,d) else Sort.partEqLoop lt a (i2+1) (j2-1) (Sort.swp d i2 j2):=by
 conv=>lhs;unfold Sort.partEqLoop
 simp only [hi,hj]
 split
 ·rfl
 ·rw [dif_pos (by omega)]
theorem lU(n a b pv:Nat)(d:Array (ByteArray))(hn:n<4611686018427387904)(hd:d.size=n)(hap:a≤pv)(hpb:pv<b)(hb:b≤n) :
 Ctr Try.prog 70 [.slu 0 0 n,.sc (.int .i64 (a:Int)),.sc (.int .i64 (b:Int)),.sc (.int .i64 (pv:Int))] [bG n d] (fun c=>c=⟨.sc (.int .i64 ((Sort.partitionEqual bi d a b pv).1:Int)),[some (bG n (Sort.partitionEqual bi d a b pv).2)]⟩):=by
 refine Fnc.start Try.func70 rfl rfl ?_
 (repeat(first|refine aj ?_|refine ac ?_|refine ab ?_|refine ah rfl rfl rfl ?_))
 refine aT (by kernel_rfl) (by kernel_rfl) ?_
 (repeat(first|refine ax rfl rfl rfl ?_|(refine ba (g:=fun x:ByteArray=> .string x) rfl rfl rfl (F.ag _ rfl) rfl (by(omega)) (by(omega)) ?_)|(refine bU (g:=fun x:ByteArray=> .string x) rfl rfl rfl (fun _=>rfl) (F.sz _ rfl) rfl (by first|omega|(simp only [zg,aw];omega)) (by first|omega|(simp only [zg,aw];omega)) ?_)|refine au (q:=a) rfl rfl rfl rfl (F.un _ rfl) (F.sz _ rfl) rfl (by omega) (by omega) (by omega) ?_|refine au (q:=pv) rfl rfl rfl rfl (F.un _ rfl) (F.sz _ rfl) rfl (by omega) (by omega) (by omega) ?_))
 (refine aF ?_);(refine⟨by kernel_rfl,?_,?_⟩);(focus(repeat(first|exact trivial|refine⟨.inl rfl,?_⟩|refine⟨.inr (by(repeat(refine⟨(by first|exact aG (F.un _ rfl) (F.sz _ rfl) rfl rfl rfl (by omega) (by omega) (by omega)|exact aB rfl),?_⟩));exact trivial),?_⟩|refine⟨.inl (by kernel_rfl),?_⟩)))
 (repeat(first|refine aj ?_|refine ac ?_|refine ab ?_|refine aD ?_|refine ai rfl rfl rfl ?_|refine ah rfl rfl rfl ?_|refine bj rfl rfl rfl rfl (by omega) (by omega) ?_|refine bN rfl rfl rfl rfl (by omega) (by omega) ?_))
 refine ct 1 (fun s:(Nat×Nat)×Array (ByteArray)=> [(0,.slu 0 0 n),(1,.sc (.int .i64 (a:Int))),(9,.sc (.int .i64 (s.1.1:Int))),(10,.sc (.int .i64 (s.1.2:Int)))]) (fun s=> [some (bG n s.2)]) (fun s=>a<s.1.1∧s.1.1≤n∧s.1.2<n∧s.2.size=n∧Sort.partEqLoop bi a s.1.1 s.1.2 s.2=Sort.partitionEqual bi d a b pv) (fun s=>s.1.2+1-s.1.1) ((a+1,b-1),Sort.swp d a pv) []
  (fun _=>rfl) ⟨by simp only;omega,by simp only;omega,by simp only;omega,by rw [aw];exact hd,rfl⟩ ?_ (fun _=>rfl) (fun _=>rfl) ?_
 ·(refine⟨(ExtOk.of rfl),rfl,(by repeat(first|exact trivial|refine⟨rfl,?_⟩|refine⟨cp (by(simp only;omega)),?_⟩)),(by repeat(first|exact trivial|refine⟨am rfl,?_⟩))⟩)
 rintro⟨⟨i,j⟩,d1⟩ ⟨hai,hi,hj,hd1,ho⟩ ih
 simp only at hai hi hj hd1 ho ih ⊢
 (repeat(first|refine aj ?_|refine aD ?_))
 refine ck 1 (fun x:Nat=> [(0,.slu 0 0 n),(1,.sc (.int .i64 (a:Int))),(9,.sc (.int .i64 (x:Int))),(10,.sc (.int .i64 (j:Int)))]) (fun _=> [some (bG n d1)]) (fun x=>i≤x∧x≤n∧Sort.scanUp (fun y=> !bi d1[a]! y) d1 j x=Sort.scanUp (fun y=> !bi d1[a]! y) d1 j i) (fun x=>n-x) i []
  1 (fun x:Nat=> [(0,.slu 0 0 n),(1,.sc (.int .i64 (a:Int))),(9,.sc (.int .i64 (x:Int))),(10,.sc (.int .i64 (j:Int)))]) (fun _=> [some (bG n d1)]) (fun x=>i≤x∧x≤n∧Sort.scanUp (fun y=> !bi d1[a]! y) d1 j i=x)
  (fun _=>rfl) (fun _=>rfl) ⟨zA _,hi,rfl⟩ ?_ (fun _=>rfl) (fun _=>rfl) ?_ ?_
 ·(refine⟨(ExtOk.of rfl),rfl,(by repeat(first|exact trivial|refine⟨rfl,?_⟩)),(by repeat(first|exact trivial|refine⟨am rfl,?_⟩))⟩)
 ·rintro i1 ⟨hii,hi1,hu⟩ ihu out
  (repeat(refine aj ?_))
  refine aT (by kernel_rfl) (by kernel_rfl) ?_
  (repeat(refine ax rfl rfl rfl ?_))
  refine dJ rfl rfl rfl rfl ?_ ?_
  all_goals intro h1
  ·have hls_h2:=ew (d1[a]!) (d1[i1]!)
   cases h2:bi (d1[a]!) (d1[i1]!)
   all_goals rw [h2] at hls_h2
   rotate_left
   all_goals(repeat(first|refine ax rfl rfl rfl ?_|refine bK rfl rfl rfl rfl ?_|refine cl rfl rfl rfl ?_|(refine ba (g:=fun x:ByteArray=> .string x) rfl rfl rfl (F.ag _ rfl) rfl (by(omega)) (by(omega)) ?_)|refine au (q:=a) rfl rfl rfl rfl (F.un _ rfl) (F.sz _ rfl) rfl (by omega) (by omega) (by omega) ?_|refine au (q:=i1) rfl rfl rfl rfl (F.un _ rfl) (F.sz _ rfl) rfl (by omega) (by omega) (by omega) ?_|refine aY rfl rfl rfl (by kernel_rfl) (Ctr.callV (hls_h2) [] rfl (ExtOk.of rfl) rfl trivial rfl) ?_))
   ·skip
    (refine aF ?_);(refine⟨by kernel_rfl,?_,?_⟩);(focus(repeat(first|exact trivial|refine⟨.inl rfl,?_⟩|refine⟨.inr (by(repeat(refine⟨(by first|exact bD rfl|exact aG (F.un _ rfl) (F.sz _ rfl) rfl rfl rfl (by omega) (by omega) (by omega)|exact aB rfl|exact aX rfl rfl),?_⟩));exact trivial),?_⟩|refine⟨.inl (by kernel_rfl),?_⟩)))
    (repeat(first|(refine out _ _ _ i1 [] ⟨hii,hi1,by rw [← hu];exact cT (.inr (by simpa [bi] using h2))⟩ ?_;(refine⟨(ExtOk.of rfl),rfl,(by repeat(first|exact trivial|refine⟨rfl,?_⟩)),(by repeat(first|exact trivial|refine⟨am rfl,?_⟩))⟩))|refine aU rfl ?_|refine an rfl ?_))
   ·skip
    (refine aF ?_);(refine⟨by kernel_rfl,?_,?_⟩);(focus(repeat(first|exact trivial|refine⟨.inl rfl,?_⟩|refine⟨.inr (by(repeat(refine⟨(by first|exact bD rfl|exact aG (F.un _ rfl) (F.sz _ rfl) rfl rfl rfl (by omega) (by omega) (by omega)|exact aB rfl|exact aX rfl rfl),?_⟩));exact trivial),?_⟩|refine⟨.inl (by kernel_rfl),?_⟩)))
    (repeat(first|refine ac ?_|refine ab ?_|refine aD ?_|refine ay ?_|refine aE ?_|refine ar rfl ?_|refine ai rfl rfl rfl ?_|refine ah rfl rfl rfl ?_|refine bj rfl rfl rfl rfl (by omega) (by omega) ?_))
    refine ihu _ _ _ (i1+1) [] ⟨by omega,by omega,?_⟩ (by omega) ?_
    ·rw [← hu]
     exact(gR (by omega) (by simpa [bi] using h2)).symm
    ·(refine⟨(ExtOk.of rfl),rfl,(by repeat(first|exact trivial|refine⟨rfl,?_⟩)),(by repeat(first|exact trivial|refine⟨am rfl,?_⟩))⟩)
  ·(repeat(first|refine ax rfl rfl rfl ?_|refine bL rfl rfl rfl rfl ?_|refine cd rfl rfl ?_))
   (refine aF ?_);(refine⟨by kernel_rfl,?_,?_⟩);(focus(repeat(first|exact trivial|refine⟨.inl rfl,?_⟩)))
   (repeat(first|(refine out _ _ _ i1 [] ⟨hii,hi1,by rw [← hu];exact cT (.inl (by omega))⟩ ?_;(refine⟨(ExtOk.of rfl),rfl,(by repeat(first|exact trivial|refine⟨rfl,?_⟩)),(by repeat(first|exact trivial|refine⟨am rfl,?_⟩))⟩))|refine aU rfl ?_|refine an rfl ?_))
 rintro i2 ⟨hii,hi2,hu⟩
 (repeat(first|refine aj ?_|refine aD ?_))
 refine ck 1 (fun x:Nat=> [(0,.slu 0 0 n),(1,.sc (.int .i64 (a:Int))),(9,.sc (.int .i64 (i2:Int))),(10,.sc (.int .i64 (x:Int)))]) (fun _=> [some (bG n d1)]) (fun x=>x≤j∧Sort.scanDown (fun y=>bi d1[a]! y) d1 i2 x=Sort.scanDown (fun y=>bi d1[a]! y) d1 i2 j) (fun x=>x) j []
  1 (fun x:Nat=> [(0,.slu 0 0 n),(1,.sc (.int .i64 (a:Int))),(9,.sc (.int .i64 (i2:Int))),(10,.sc (.int .i64 (x:Int)))]) (fun _=> [some (bG n d1)]) (fun x=>x≤j∧Sort.scanDown (fun y=>bi d1[a]! y) d1 i2 j=x)
  (fun _=>rfl) (fun _=>rfl) ⟨zA _,rfl⟩ ?_ (fun _=>rfl) (fun _=>rfl) ?_ ?_
 ·(refine⟨(ExtOk.of rfl),rfl,(by repeat(first|exact trivial|refine⟨rfl,?_⟩)),(by repeat(first|exact trivial|refine⟨am rfl,?_⟩))⟩)
 ·rintro j1 ⟨hjj,hv⟩ ihv out
  (repeat(refine aj ?_))
  refine aT (by kernel_rfl) (by kernel_rfl) ?_
  (repeat(refine ax rfl rfl rfl ?_))
  refine dJ rfl rfl rfl rfl ?_ ?_
  all_goals intro h1
  ·have hls_h2:=ew (d1[a]!) (d1[j1]!)
   cases h2:bi (d1[a]!) (d1[j1]!)
   all_goals rw [h2] at hls_h2
   rotate_left
   all_goals(repeat(first|refine ax rfl rfl rfl ?_|refine bK rfl rfl rfl rfl ?_|(refine ba (g:=fun x:ByteArray=> .string x) rfl rfl rfl (F.ag _ rfl) rfl (by(omega)) (by(omega)) ?_)|refine au (q:=a) rfl rfl rfl rfl (F.un _ rfl) (F.sz _ rfl) rfl (by omega) (by omega) (by omega) ?_|refine au (q:=j1) rfl rfl rfl rfl (F.un _ rfl) (F.sz _ rfl) rfl (by omega) (by omega) (by omega) ?_|refine aY rfl rfl rfl (by kernel_rfl) (Ctr.callV (hls_h2) [] rfl (ExtOk.of rfl) rfl trivial rfl) ?_))
   ·skip
    (refine aF ?_);(refine⟨by kernel_rfl,?_,?_⟩);(focus(repeat(first|exact trivial|refine⟨.inl rfl,?_⟩|refine⟨.inr (by(repeat(refine⟨(by first|exact aG (F.un _ rfl) (F.sz _ rfl) rfl rfl rfl (by omega) (by omega) (by omega)|exact aB rfl|exact aX rfl rfl),?_⟩));exact trivial),?_⟩|refine⟨.inl (by kernel_rfl),?_⟩)))
    (repeat(first|refine ac ?_|refine ab ?_|refine aD ?_|refine ay ?_|refine aE ?_|refine ar rfl ?_|refine ai rfl rfl rfl ?_|refine ah rfl rfl rfl ?_|refine bN rfl rfl rfl rfl (by omega) (by omega) ?_))
    obtain⟨j1,rfl⟩: ∃ j',j1=j'+1:=⟨j1-1,by omega⟩
    refine ihv _ _ _ j1 [] ⟨by omega,?_⟩ (by omega) ?_
    ·rw [← hv]
     exact(fA (by omega) (by simpa [bi] using h2)).symm
    ·(refine⟨(ExtOk.of rfl),rfl,(by repeat(first|exact trivial|refine⟨rfl,?_⟩|refine⟨cp (by(omega)),?_⟩)),(by repeat(first|exact trivial|refine⟨am rfl,?_⟩))⟩)
   ·skip
    (refine aF ?_);(refine⟨by kernel_rfl,?_,?_⟩);(focus(repeat(first|exact trivial|refine⟨.inl rfl,?_⟩|refine⟨.inr (by(repeat(refine⟨(by first|exact aG (F.un _ rfl) (F.sz _ rfl) rfl rfl rfl (by omega) (by omega) (by omega)|exact aB rfl|exact aX rfl rfl),?_⟩));exact trivial),?_⟩|refine⟨.inl (by kernel_rfl),?_⟩)))
    (repeat(first|(refine out _ _ _ j1 [] ⟨hjj,by rw [← hv];exact cn (.inr (by simpa [bi] using h2))⟩ ?_;(refine⟨(ExtOk.of rfl),rfl,(by repeat(first|exact trivial|refine⟨rfl,?_⟩)),(by repeat(first|exact trivial|refine⟨am rfl,?_⟩))⟩))|refine aU rfl ?_|refine an rfl ?_))
  ·(repeat(first|refine ax rfl rfl rfl ?_|refine bL rfl rfl rfl rfl ?_|refine cd rfl rfl ?_))
   (refine aF ?_);(refine⟨by kernel_rfl,?_,?_⟩);(focus(repeat(first|exact trivial|refine⟨.inl rfl,?_⟩)))
   (repeat(first|(refine out _ _ _ j1 [] ⟨hjj,by rw [← hv];exact cn (.inl (by omega))⟩ ?_;(refine⟨(ExtOk.of rfl),rfl,(by repeat(first|exact trivial|refine⟨rfl,?_⟩)),(by repeat(first|exact trivial|refine⟨am rfl,?_⟩))⟩))|refine aU rfl ?_|refine an rfl ?_))
 rintro j2 ⟨hjj,hv⟩
 have e:=lT hu hv hii hjj
 (repeat(first|refine aj ?_|refine ac ?_|refine ai rfl rfl rfl ?_))
 refine dB rfl rfl rfl rfl ?_ ?_
 all_goals intro h3
 ·rw [ho,if_pos (by omega)] at e
  (repeat(first|refine aj ?_|refine ac ?_|refine ab ?_|refine aU rfl ?_|refine ar rfl ?_|refine ai rfl rfl rfl ?_|refine ah rfl rfl rfl ?_))
  rw [e]
  ((apply aS Try.func70 (congrArg Array.toList Try.results70));(focus(repeat(first|exact ResIs.nil|apply ResIs.tmp rfl)));refine⟨_,rfl,Ends.mk [] (ExtOk.of rfl) rfl rfl ?_⟩)
  exact(by repeat(first|exact trivial|refine⟨am rfl,?_⟩))
 ·rw [ho,if_neg (by omega)] at e
  (repeat(first|refine aj ?_|refine ab ?_|refine aE ?_|refine an rfl ?_))
  refine aT (by kernel_rfl) (by kernel_rfl) ?_
  (repeat(first|refine ax rfl rfl rfl ?_|(refine ba (g:=fun x:ByteArray=> .string x) rfl rfl rfl (F.ag _ rfl) rfl (by(omega)) (by(omega)) ?_)|(refine bU (g:=fun x:ByteArray=> .string x) rfl rfl rfl (fun _=>rfl) (F.sz _ rfl) rfl (by first|omega|(simp only [zg,aw];omega)) (by first|omega|(simp only [zg,aw];omega)) ?_)|refine au (q:=i2) rfl rfl rfl rfl (F.un _ rfl) (F.sz _ rfl) rfl (by omega) (by omega) (by omega) ?_|refine au (q:=j2) rfl rfl rfl rfl (F.un _ rfl) (F.sz _ rfl) rfl (by omega) (by omega) (by omega) ?_))
  (refine aF ?_);(refine⟨by kernel_rfl,?_,?_⟩);(focus(repeat(first|exact trivial|refine⟨.inl rfl,?_⟩|refine⟨.inr (by(repeat(refine⟨(by first|exact aG (F.un _ rfl) (F.sz _ rfl) rfl rfl rfl (by omega) (by omega) (by omega)|exact aB rfl),?_⟩));exact trivial),?_⟩|refine⟨.inl (by kernel_rfl),?_⟩)))
  (repeat(first|refine aj ?_|refine ac ?_|refine ab ?_|refine ay ?_|refine ai rfl rfl rfl ?_|refine ah rfl rfl rfl ?_|refine bj rfl rfl rfl rfl (by omega) (by omega) ?_|refine bN rfl rfl rfl rfl (by omega) (by omega) ?_))
  refine ih _ _ _ ((i2+1,j2-1),Sort.swp d1 i2 j2) [] ⟨by simp only;omega,by simp only;omega,by simp only;omega,by rw [aw];exact hd1,e.symm⟩ (by simp only;omega) ?_
  (refine⟨(ExtOk.of rfl),rfl,(by repeat(first|exact trivial|refine⟨rfl,?_⟩|refine⟨cp (by(simp only;omega)),?_⟩)),(by repeat(first|exact trivial|refine⟨am rfl,?_⟩))⟩)
theorem od{lt:ByteArray→ByteArray→Bool}{d:Array (ByteArray)}{a i j i2 j2:Nat}(hi:Sort.scanUp (fun x=>lt x d[a]!) d j i=i2)(hj:Sort.scanDown (fun x=> !lt x d[a]!) d i2 j=j2)(h1:i≤i2)(h2:j2≤j) :
 Sort.partLoop lt a i j d=if j2<i2 then(j2,d) else Sort.partLoop lt a (i2+1) (j2-1) (Sort.swp d i2 j2):=by
 conv=>lhs;unfold Sort.partLoop
 simp only [hi,hj]
 split
 ·rfl
 ·rw [dif_pos (by omega)]
theorem pO{lt:ByteArray→ByteArray→Bool}{d:Array (ByteArray)}{a b pv i2 j2:Nat}(hi:Sort.scanUp (fun x=>lt x (Sort.swp d a pv)[a]!) (Sort.swp d a pv) (b-1) (a+1)=i2)(hj:Sort.scanDown (fun x=> !lt x (Sort.swp d a pv)[a]!) (Sort.swp d a pv) i2 (b-1)=j2) :
 Sort.partition lt d a b pv=if j2<i2 then(j2,true,Sort.swp (Sort.swp d a pv) j2 a) else((Sort.partLoop lt a (i2+1) (j2-1) (Sort.swp (Sort.swp d a pv) i2 j2)).1,false,Sort.swp (Sort.partLoop lt a (i2+1) (j2-1) (Sort.swp (Sort.swp d a pv) i2 j2)).2 (Sort.partLoop lt a (i2+1) (j2-1) (Sort.swp (Sort.swp d a pv) i2 j2)).1 a):=by
 simp only [Sort.partition,hi,hj]
theorem oe(n a b pv:Nat)(d:Array (ByteArray))(hn:n<4611686018427387904)(hd:d.size=n)(hap:a≤pv)(hpb:pv<b)(hb:b≤n) :
 Ctr Try.prog 71 [.slu 0 0 n,.sc (.int .i64 (a:Int)),.sc (.int .i64 (b:Int)),.sc (.int .i64 (pv:Int))] [bG n d] (fun c=>c=⟨.tup [.sc (.int .i64 ((Sort.partition bi d a b pv).1:Int)),.sc (.bool (Sort.partition bi d a b pv).2.1)],[some (bG n (Sort.partition bi d a b pv).2.2)]⟩):=by
 refine Fnc.start Try.func71 rfl rfl ?_
 (repeat(first|refine aj ?_|refine ac ?_|refine ab ?_|refine ah rfl rfl rfl ?_))
 refine aT (by kernel_rfl) (by kernel_rfl) ?_
 (repeat(first|refine ax rfl rfl rfl ?_|(refine ba (g:=fun x:ByteArray=> .string x) rfl rfl rfl (F.ag _ rfl) rfl (by(omega)) (by(omega)) ?_)|(refine bU (g:=fun x:ByteArray=> .string x) rfl rfl rfl (fun _=>rfl) (F.sz _ rfl) rfl (by first|omega|(simp only [zg,aw];omega)) (by first|omega|(simp only [zg,aw];omega)) ?_)|refine au (q:=a) rfl rfl rfl rfl (F.un _ rfl) (F.sz _ rfl) rfl (by omega) (by omega) (by omega) ?_|refine au (q:=pv) rfl rfl rfl rfl (F.un _ rfl) (F.sz _ rfl) rfl (by omega) (by omega) (by omega) ?_))
 (refine aF ?_);(refine⟨by kernel_rfl,?_,?_⟩);(focus(repeat(first|exact trivial|refine⟨.inl rfl,?_⟩|refine⟨.inr (by(repeat(refine⟨(by first|exact aG (F.un _ rfl) (F.sz _ rfl) rfl rfl rfl (by omega) (by omega) (by omega)|exact aB rfl),?_⟩));exact trivial),?_⟩|refine⟨.inl (by kernel_rfl),?_⟩)))
 have e0:=pO (lt:=bi) (d:=d) (a:=a) (b:=b) (pv:=pv) rfl rfl
 have hd1:(Sort.swp d a pv).size=n:=by rw [aw];exact hd
 generalize hsw:Sort.swp d a pv=d1 at e0 hd1
 have hsw':(d.setIfInBounds a d[pv]!).setIfInBounds pv d[a]! =d1:=hsw
 rw [hsw']
 (repeat(first|refine aj ?_|refine ac ?_|refine ab ?_|refine aD ?_|refine ai rfl rfl rfl ?_|refine ah rfl rfl rfl ?_|refine bj rfl rfl rfl rfl (by omega) (by omega) ?_|refine bN rfl rfl rfl rfl (by omega) (by omega) ?_))
 refine ck 1 (fun x:Nat=> [(0,.slu 0 0 n),(1,.sc (.int .i64 (a:Int))),(10,.sc (.int .i64 (x:Int))),(11,.sc (.int .i64 ((b-1:Nat):Int)))]) (fun _=> [some (bG n d1)]) (fun x=>a+1≤x∧x≤n∧Sort.scanUp (fun y=>bi y d1[a]!) d1 (b-1) x=Sort.scanUp (fun y=>bi y d1[a]!) d1 (b-1) (a+1)) (fun x=>n-x) (a+1) []
  1 (fun x:Nat=> [(0,.slu 0 0 n),(1,.sc (.int .i64 (a:Int))),(10,.sc (.int .i64 (x:Int))),(11,.sc (.int .i64 ((b-1:Nat):Int)))]) (fun _=> [some (bG n d1)]) (fun x=>a+1≤x∧x≤n∧Sort.scanUp (fun y=>bi y d1[a]!) d1 (b-1) (a+1)=x)
  (fun _=>rfl) (fun _=>rfl) ⟨zA _,by omega,rfl⟩ ?_ (fun _=>rfl) (fun _=>rfl) ?_ ?_
 ·(refine⟨(ExtOk.of rfl),rfl,(by repeat(first|exact trivial|refine⟨rfl,?_⟩|refine⟨cp (by(omega)),?_⟩)),(by repeat(first|exact trivial|refine⟨am rfl,?_⟩))⟩)
 ·rintro i1 ⟨hii,hi1,hu⟩ ihu out
  (repeat(refine aj ?_))
  refine aT (by kernel_rfl) (by kernel_rfl) ?_
  (repeat(refine ax rfl rfl rfl ?_))
  refine dJ rfl rfl rfl rfl ?_ ?_
  all_goals intro h1
  ·have hls_h2:=ew (d1[i1]!) (d1[a]!)
   cases h2:bi (d1[i1]!) (d1[a]!)
   all_goals rw [h2] at hls_h2
   rotate_left
   all_goals(repeat(first|refine ax rfl rfl rfl ?_|refine bK rfl rfl rfl rfl ?_|(refine ba (g:=fun x:ByteArray=> .string x) rfl rfl rfl (F.ag _ rfl) rfl (by(omega)) (by(omega)) ?_)|refine au (q:=a) rfl rfl rfl rfl (F.un _ rfl) (F.sz _ rfl) rfl (by omega) (by omega) (by omega) ?_|refine au (q:=i1) rfl rfl rfl rfl (F.un _ rfl) (F.sz _ rfl) rfl (by omega) (by omega) (by omega) ?_|refine aY rfl rfl rfl (by kernel_rfl) (Ctr.callV (hls_h2) [] rfl (ExtOk.of rfl) rfl trivial rfl) ?_))
   ·skip
    (refine aF ?_);(refine⟨by kernel_rfl,?_,?_⟩);(focus(repeat(first|exact trivial|refine⟨.inl rfl,?_⟩|refine⟨.inr (by(repeat(refine⟨(by first|exact aG (F.un _ rfl) (F.sz _ rfl) rfl rfl rfl (by omega) (by omega) (by omega)|exact aB rfl|exact aX rfl rfl),?_⟩));exact trivial),?_⟩|refine⟨.inl (by kernel_rfl),?_⟩)))
    (repeat(first|refine ac ?_|refine ab ?_|refine aD ?_|refine ay ?_|refine aE ?_|refine ar rfl ?_|refine ai rfl rfl rfl ?_|refine ah rfl rfl rfl ?_|refine bj rfl rfl rfl rfl (by omega) (by omega) ?_))
    refine ihu _ _ _ (i1+1) [] ⟨by omega,by omega,?_⟩ (by omega) ?_
    ·rw [← hu]
     exact(gR (by omega) (by simpa [bi] using h2)).symm
    ·(refine⟨(ExtOk.of rfl),rfl,(by repeat(first|exact trivial|refine⟨rfl,?_⟩)),(by repeat(first|exact trivial|refine⟨am rfl,?_⟩))⟩)
   ·skip
    (refine aF ?_);(refine⟨by kernel_rfl,?_,?_⟩);(focus(repeat(first|exact trivial|refine⟨.inl rfl,?_⟩|refine⟨.inr (by(repeat(refine⟨(by first|exact aG (F.un _ rfl) (F.sz _ rfl) rfl rfl rfl (by omega) (by omega) (by omega)|exact aB rfl|exact aX rfl rfl),?_⟩));exact trivial),?_⟩|refine⟨.inl (by kernel_rfl),?_⟩)))
    (repeat(first|(refine out _ _ _ i1 [] ⟨hii,hi1,by rw [← hu];exact cT (.inr (by simpa [bi] using h2))⟩ ?_;(refine⟨(ExtOk.of rfl),rfl,(by repeat(first|exact trivial|refine⟨rfl,?_⟩)),(by repeat(first|exact trivial|refine⟨am rfl,?_⟩))⟩))|refine aU rfl ?_|refine an rfl ?_))
  ·(repeat(first|refine ax rfl rfl rfl ?_|refine bL rfl rfl rfl rfl ?_|refine cd rfl rfl ?_))
   (refine aF ?_);(refine⟨by kernel_rfl,?_,?_⟩);(focus(repeat(first|exact trivial|refine⟨.inl rfl,?_⟩)))
   (repeat(first|(refine out _ _ _ i1 [] ⟨hii,hi1,by rw [← hu];exact cT (.inl (by omega))⟩ ?_;(refine⟨(ExtOk.of rfl),rfl,(by repeat(first|exact trivial|refine⟨rfl,?_⟩)),(by repeat(first|exact trivial|refine⟨am rfl,?_⟩))⟩))|refine aU rfl ?_|refine an rfl ?_))
 rintro i2 ⟨hii,hi2,hu⟩
 rw [hu] at e0
 (repeat(first|refine aj ?_|refine aD ?_))
 refine ck 1 (fun x:Nat=> [(0,.slu 0 0 n),(1,.sc (.int .i64 (a:Int))),(10,.sc (.int .i64 (i2:Int))),(11,.sc (.int .i64 (x:Int)))]) (fun _=> [some (bG n d1)]) (fun x=>x≤b-1∧Sort.scanDown (fun y=> !bi y d1[a]!) d1 i2 x=Sort.scanDown (fun y=> !bi y d1[a]!) d1 i2 (b-1)) (fun x=>x) (b-1) []
  1 (fun x:Nat=> [(0,.slu 0 0 n),(1,.sc (.int .i64 (a:Int))),(10,.sc (.int .i64 (i2:Int))),(11,.sc (.int .i64 (x:Int)))]) (fun _=> [some (bG n d1)]) (fun x=>x≤b-1∧Sort.scanDown (fun y=> !bi y d1[a]!) d1 i2 (b-1)=x)
  (fun _=>rfl) (fun _=>rfl) ⟨zA _,rfl⟩ ?_ (fun _=>rfl) (fun _=>rfl) ?_ ?_
 ·(refine⟨(ExtOk.of rfl),rfl,(by repeat(first|exact trivial|refine⟨rfl,?_⟩)),(by repeat(first|exact trivial|refine⟨am rfl,?_⟩))⟩)
 ·rintro j1 ⟨hjj,hv⟩ ihv out
  (repeat(refine aj ?_))
  refine aT (by kernel_rfl) (by kernel_rfl) ?_
  (repeat(refine ax rfl rfl rfl ?_))
  refine dJ rfl rfl rfl rfl ?_ ?_
  all_goals intro h1
  ·have hls_h2:=ew (d1[j1]!) (d1[a]!)
   cases h2:bi (d1[j1]!) (d1[a]!)
   all_goals rw [h2] at hls_h2
   rotate_left
   all_goals(repeat(first|refine ax rfl rfl rfl ?_|refine bK rfl rfl rfl rfl ?_|refine cl rfl rfl rfl ?_|(refine ba (g:=fun x:ByteArray=> .string x) rfl rfl rfl (F.ag _ rfl) rfl (by(omega)) (by(omega)) ?_)|refine au (q:=a) rfl rfl rfl rfl (F.un _ rfl) (F.sz _ rfl) rfl (by omega) (by omega) (by omega) ?_|refine au (q:=j1) rfl rfl rfl rfl (F.un _ rfl) (F.sz _ rfl) rfl (by omega) (by omega) (by omega) ?_|refine aY rfl rfl rfl (by kernel_rfl) (Ctr.callV (hls_h2) [] rfl (ExtOk.of rfl) rfl trivial rfl) ?_))
   ·skip
    (refine aF ?_);(refine⟨by kernel_rfl,?_,?_⟩);(focus(repeat(first|exact trivial|refine⟨.inl rfl,?_⟩|refine⟨.inr (by(repeat(refine⟨(by first|exact bD rfl|exact aG (F.un _ rfl) (F.sz _ rfl) rfl rfl rfl (by omega) (by omega) (by omega)|exact aB rfl|exact aX rfl rfl),?_⟩));exact trivial),?_⟩|refine⟨.inl (by kernel_rfl),?_⟩)))
    (repeat(first|(refine out _ _ _ j1 [] ⟨hjj,by rw [← hv];exact cn (.inr (by simpa [bi] using h2))⟩ ?_;(refine⟨(ExtOk.of rfl),rfl,(by repeat(first|exact trivial|refine⟨rfl,?_⟩)),(by repeat(first|exact trivial|refine⟨am rfl,?_⟩))⟩))|refine aU rfl ?_|refine an rfl ?_))
   ·skip
    (refine aF ?_);(refine⟨by kernel_rfl,?_,?_⟩);(focus(repeat(first|exact trivial|refine⟨.inl rfl,?_⟩|refine⟨.inr (by(repeat(refine⟨(by first|exact bD rfl|exact aG (F.un _ rfl) (F.sz _ rfl) rfl rfl rfl (by omega) (by omega) (by omega)|exact aB rfl|exact aX rfl rfl),?_⟩));exact trivial),?_⟩|refine⟨.inl (by kernel_rfl),?_⟩)))
    (repeat(first|refine ac ?_|refine ab ?_|refine aD ?_|refine ay ?_|refine aE ?_|refine ar rfl ?_|refine ai rfl rfl rfl ?_|refine ah rfl rfl rfl ?_|refine bN rfl rfl rfl rfl (by omega) (by omega) ?_))
    obtain⟨j1,rfl⟩: ∃ j',j1=j'+1:=⟨j1-1,by omega⟩
    refine ihv _ _ _ j1 [] ⟨by omega,?_⟩ (by omega) ?_
    ·rw [← hv]
     exact(fA (by omega) (by simpa [bi] using h2)).symm
    ·(refine⟨(ExtOk.of rfl),rfl,(by repeat(first|exact trivial|refine⟨rfl,?_⟩|refine⟨cp (by(omega)),?_⟩)),(by repeat(first|exact trivial|refine⟨am rfl,?_⟩))⟩)
  ·(repeat(first|refine ax rfl rfl rfl ?_|refine bL rfl rfl rfl rfl ?_|refine cd rfl rfl ?_))
   (refine aF ?_);(refine⟨by kernel_rfl,?_,?_⟩);(focus(repeat(first|exact trivial|refine⟨.inl rfl,?_⟩)))
   (repeat(first|(refine out _ _ _ j1 [] ⟨hjj,by rw [← hv];exact cn (.inl (by omega))⟩ ?_;(refine⟨(ExtOk.of rfl),rfl,(by repeat(first|exact trivial|refine⟨rfl,?_⟩)),(by repeat(first|exact trivial|refine⟨am rfl,?_⟩))⟩))|refine aU rfl ?_|refine an rfl ?_))
 rintro j2 ⟨hjj,hv⟩
 rw [hv] at e0
 (repeat(first|refine aj ?_|refine ac ?_|refine ai rfl rfl rfl ?_))
 refine dB rfl rfl rfl rfl ?_ ?_
 all_goals intro h3
 ·rw [if_pos (by omega)] at e0
  rw [e0]
  (repeat(first|refine aj ?_|refine ab ?_|refine ar rfl ?_))
  refine aT (by kernel_rfl) (by kernel_rfl) ?_
  (repeat(first|refine ax rfl rfl rfl ?_|(refine ba (g:=fun x:ByteArray=> .string x) rfl rfl rfl (F.ag _ rfl) rfl (by(omega)) (by(omega)) ?_)|(refine bU (g:=fun x:ByteArray=> .string x) rfl rfl rfl (fun _=>rfl) (F.sz _ rfl) rfl (by first|omega|(simp only [zg,aw];omega)) (by first|omega|(simp only [zg,aw];omega)) ?_)|refine au (q:=a) rfl rfl rfl rfl (F.un _ rfl) (F.sz _ rfl) rfl (by omega) (by omega) (by omega) ?_|refine au (q:=j2) rfl rfl rfl rfl (F.un _ rfl) (F.sz _ rfl) rfl (by omega) (by omega) (by omega) ?_))
  (refine aF ?_);(refine⟨by kernel_rfl,?_,?_⟩);(focus(repeat(first|exact trivial|refine⟨.inl rfl,?_⟩|refine⟨.inr (by(repeat(refine⟨(by first|exact aG (F.un _ rfl) (F.sz _ rfl) rfl rfl rfl (by omega) (by omega) (by omega)|exact aB rfl),?_⟩));exact trivial),?_⟩|refine⟨.inl (by kernel_rfl),?_⟩)))
  (repeat(first|refine aj ?_|refine ac ?_|refine ab ?_|refine ai rfl rfl rfl ?_|refine ah rfl rfl rfl ?_))
  ((apply aS Try.func71 (congrArg Array.toList Try.results71));(focus(repeat(first|exact ResIs.nil|apply ResIs.tmp rfl)));refine⟨_,rfl,Ends.mk [] (ExtOk.of rfl) rfl rfl ?_⟩)
  exact(by repeat(first|exact trivial|refine⟨am rfl,?_⟩))
 rw [if_neg (by omega)] at e0
 rw [e0]
 (repeat(first|refine aj ?_|refine ab ?_|refine aE ?_|refine an rfl ?_))
 refine aT (by kernel_rfl) (by kernel_rfl) ?_
 (repeat(first|refine ax rfl rfl rfl ?_|(refine ba (g:=fun x:ByteArray=> .string x) rfl rfl rfl (F.ag _ rfl) rfl (by(omega)) (by(omega)) ?_)|(refine bU (g:=fun x:ByteArray=> .string x) rfl rfl rfl (fun _=>rfl) (F.sz _ rfl) rfl (by first|omega|(simp only [zg,aw];omega)) (by first|omega|(simp only [zg,aw];omega)) ?_)|refine au (q:=i2) rfl rfl rfl rfl (F.un _ rfl) (F.sz _ rfl) rfl (by omega) (by omega) (by omega) ?_|refine au (q:=j2) rfl rfl rfl rfl (F.un _ rfl) (F.sz _ rfl) rfl (by omega) (by omega) (by omega) ?_))
 (refine aF ?_);(refine⟨by kernel_rfl,?_,?_⟩);(focus(repeat(first|exact trivial|refine⟨.inl rfl,?_⟩|refine⟨.inr (by(repeat(refine⟨(by first|exact aG (F.un _ rfl) (F.sz _ rfl) rfl rfl rfl (by omega) (by omega) (by omega)|exact aB rfl),?_⟩));exact trivial),?_⟩|refine⟨.inl (by kernel_rfl),?_⟩)))
 (repeat(first|refine aj ?_|refine ac ?_|refine ab ?_|refine aD ?_|refine ai rfl rfl rfl ?_|refine ah rfl rfl rfl ?_|refine bj rfl rfl rfl rfl (by omega) (by omega) ?_|refine bN rfl rfl rfl rfl (by omega) (by omega) ?_))
 refine ck 1 (fun s:(Nat×Nat)×Array (ByteArray)=> [(0,.slu 0 0 n),(1,.sc (.int .i64 (a:Int))),(10,.sc (.int .i64 (s.1.1:Int))),(11,.sc (.int .i64 (s.1.2:Int)))]) (fun s=> [some (bG n s.2)]) (fun s=>a<s.1.1∧s.1.1≤n∧s.1.2<n∧s.2.size=n∧Sort.partLoop bi a s.1.1 s.1.2 s.2=Sort.partLoop bi a (i2+1) (j2-1) (Sort.swp d1 i2 j2)) (fun s=>s.1.2+1-s.1.1) ((i2+1,j2-1),Sort.swp d1 i2 j2) []
  1 (fun s:Nat×Array (ByteArray)=> [(0,.slu 0 0 n),(1,.sc (.int .i64 (a:Int))),(11,.sc (.int .i64 (s.1:Int)))]) (fun s=> [some (bG n s.2)]) (fun s=>s.1<n∧s.2.size=n∧Sort.partLoop bi a (i2+1) (j2-1) (Sort.swp d1 i2 j2)=s)
  (fun _=>rfl) (fun _=>rfl) ⟨by simp only;omega,by simp only;omega,by simp only;omega,by rw [aw];exact hd1,rfl⟩ ?_ (fun _=>rfl) (fun _=>rfl) ?_ ?_
 ·(refine⟨(ExtOk.of rfl),rfl,(by repeat(first|exact trivial|refine⟨rfl,?_⟩|refine⟨cp (by(simp only;omega)),?_⟩)),(by repeat(first|exact trivial|refine⟨am rfl,?_⟩))⟩)
 ·rintro⟨⟨i,j⟩,d3⟩ ⟨hai,hi,hj,hd3,ho⟩ ih outer
  simp only at hai hi hj hd3 ho ih ⊢
  (repeat(first|refine aj ?_|refine aD ?_))
  refine ck 1 (fun x:Nat=> [(0,.slu 0 0 n),(1,.sc (.int .i64 (a:Int))),(10,.sc (.int .i64 (x:Int))),(11,.sc (.int .i64 (j:Int)))]) (fun _=> [some (bG n d3)]) (fun x=>i≤x∧x≤n∧Sort.scanUp (fun y=>bi y d3[a]!) d3 j x=Sort.scanUp (fun y=>bi y d3[a]!) d3 j i) (fun x=>n-x) i []
   1 (fun x:Nat=> [(0,.slu 0 0 n),(1,.sc (.int .i64 (a:Int))),(10,.sc (.int .i64 (x:Int))),(11,.sc (.int .i64 (j:Int)))]) (fun _=> [some (bG n d3)]) (fun x=>i≤x∧x≤n∧Sort.scanUp (fun y=>bi y d3[a]!) d3 j i=x)
   (fun _=>rfl) (fun _=>rfl) ⟨zA _,hi,rfl⟩ ?_ (fun _=>rfl) (fun _=>rfl) ?_ ?_
  ·(refine⟨(ExtOk.of rfl),rfl,(by repeat(first|exact trivial|refine⟨rfl,?_⟩)),(by repeat(first|exact trivial|refine⟨am rfl,?_⟩))⟩)
  ·rintro i1 ⟨hii,hi1,hu⟩ ihu out
   (repeat(refine aj ?_))
   refine aT (by kernel_rfl) (by kernel_rfl) ?_
   (repeat(refine ax rfl rfl rfl ?_))
   refine dJ rfl rfl rfl rfl ?_ ?_
   all_goals intro h1
   ·have hls_h2:=ew (d3[i1]!) (d3[a]!)
    cases h2:bi (d3[i1]!) (d3[a]!)
    all_goals rw [h2] at hls_h2
    rotate_left
    all_goals(repeat(first|refine ax rfl rfl rfl ?_|refine bK rfl rfl rfl rfl ?_|(refine ba (g:=fun x:ByteArray=> .string x) rfl rfl rfl (F.ag _ rfl) rfl (by(omega)) (by(omega)) ?_)|refine au (q:=a) rfl rfl rfl rfl (F.un _ rfl) (F.sz _ rfl) rfl (by omega) (by omega) (by omega) ?_|refine au (q:=i1) rfl rfl rfl rfl (F.un _ rfl) (F.sz _ rfl) rfl (by omega) (by omega) (by omega) ?_|refine aY rfl rfl rfl (by kernel_rfl) (Ctr.callV (hls_h2) [] rfl (ExtOk.of rfl) rfl trivial rfl) ?_))
    ·skip
     (refine aF ?_);(refine⟨by kernel_rfl,?_,?_⟩);(focus(repeat(first|exact trivial|refine⟨.inl rfl,?_⟩|refine⟨.inr (by(repeat(refine⟨(by first|exact aG (F.un _ rfl) (F.sz _ rfl) rfl rfl rfl (by omega) (by omega) (by omega)|exact aB rfl|exact aX rfl rfl),?_⟩));exact trivial),?_⟩|refine⟨.inl (by kernel_rfl),?_⟩)))
     (repeat(first|refine ac ?_|refine ab ?_|refine aD ?_|refine ay ?_|refine aE ?_|refine ar rfl ?_|refine ai rfl rfl rfl ?_|refine ah rfl rfl rfl ?_|refine bj rfl rfl rfl rfl (by omega) (by omega) ?_))
     refine ihu _ _ _ (i1+1) [] ⟨by omega,by omega,?_⟩ (by omega) ?_
     ·rw [← hu]
      exact(gR (by omega) (by simpa [bi] using h2)).symm
     ·(refine⟨(ExtOk.of rfl),rfl,(by repeat(first|exact trivial|refine⟨rfl,?_⟩)),(by repeat(first|exact trivial|refine⟨am rfl,?_⟩))⟩)
    ·skip
     (refine aF ?_);(refine⟨by kernel_rfl,?_,?_⟩);(focus(repeat(first|exact trivial|refine⟨.inl rfl,?_⟩|refine⟨.inr (by(repeat(refine⟨(by first|exact aG (F.un _ rfl) (F.sz _ rfl) rfl rfl rfl (by omega) (by omega) (by omega)|exact aB rfl|exact aX rfl rfl),?_⟩));exact trivial),?_⟩|refine⟨.inl (by kernel_rfl),?_⟩)))
     (repeat(first|(refine out _ _ _ i1 [] ⟨hii,hi1,by rw [← hu];exact cT (.inr (by simpa [bi] using h2))⟩ ?_;(refine⟨(ExtOk.of rfl),rfl,(by repeat(first|exact trivial|refine⟨rfl,?_⟩)),(by repeat(first|exact trivial|refine⟨am rfl,?_⟩))⟩))|refine aU rfl ?_|refine an rfl ?_))
   ·(repeat(first|refine ax rfl rfl rfl ?_|refine bL rfl rfl rfl rfl ?_|refine cd rfl rfl ?_))
    (refine aF ?_);(refine⟨by kernel_rfl,?_,?_⟩);(focus(repeat(first|exact trivial|refine⟨.inl rfl,?_⟩)))
    (repeat(first|(refine out _ _ _ i1 [] ⟨hii,hi1,by rw [← hu];exact cT (.inl (by omega))⟩ ?_;(refine⟨(ExtOk.of rfl),rfl,(by repeat(first|exact trivial|refine⟨rfl,?_⟩)),(by repeat(first|exact trivial|refine⟨am rfl,?_⟩))⟩))|refine aU rfl ?_|refine an rfl ?_))
  rintro i3 ⟨hii3,hi3,hu3⟩
  (repeat(first|refine aj ?_|refine aD ?_))
  refine ck 1 (fun x:Nat=> [(0,.slu 0 0 n),(1,.sc (.int .i64 (a:Int))),(10,.sc (.int .i64 (i3:Int))),(11,.sc (.int .i64 (x:Int)))]) (fun _=> [some (bG n d3)]) (fun x=>x≤j∧Sort.scanDown (fun y=> !bi y d3[a]!) d3 i3 x=Sort.scanDown (fun y=> !bi y d3[a]!) d3 i3 (j)) (fun x=>x) (j) []
   1 (fun x:Nat=> [(0,.slu 0 0 n),(1,.sc (.int .i64 (a:Int))),(10,.sc (.int .i64 (i3:Int))),(11,.sc (.int .i64 (x:Int)))]) (fun _=> [some (bG n d3)]) (fun x=>x≤j∧Sort.scanDown (fun y=> !bi y d3[a]!) d3 i3 (j)=x)
   (fun _=>rfl) (fun _=>rfl) ⟨zA _,rfl⟩ ?_ (fun _=>rfl) (fun _=>rfl) ?_ ?_
  ·(refine⟨(ExtOk.of rfl),rfl,(by repeat(first|exact trivial|refine⟨rfl,?_⟩)),(by repeat(first|exact trivial|refine⟨am rfl,?_⟩))⟩)
  ·rintro j1 ⟨hjj,hv⟩ ihv out
   (repeat(refine aj ?_))
   refine aT (by kernel_rfl) (by kernel_rfl) ?_
   (repeat(refine ax rfl rfl rfl ?_))
   refine dJ rfl rfl rfl rfl ?_ ?_
   all_goals intro h1
   ·have hls_h2:=ew (d3[j1]!) (d3[a]!)
    cases h2:bi (d3[j1]!) (d3[a]!)
    all_goals rw [h2] at hls_h2
    rotate_left
    all_goals(repeat(first|refine ax rfl rfl rfl ?_|refine bK rfl rfl rfl rfl ?_|refine cl rfl rfl rfl ?_|(refine ba (g:=fun x:ByteArray=> .string x) rfl rfl rfl (F.ag _ rfl) rfl (by(omega)) (by(omega)) ?_)|refine au (q:=a) rfl rfl rfl rfl (F.un _ rfl) (F.sz _ rfl) rfl (by omega) (by omega) (by omega) ?_|refine au (q:=j1) rfl rfl rfl rfl (F.un _ rfl) (F.sz _ rfl) rfl (by omega) (by omega) (by omega) ?_|refine aY rfl rfl rfl (by kernel_rfl) (Ctr.callV (hls_h2) [] rfl (ExtOk.of rfl) rfl trivial rfl) ?_))
    ·skip
     (refine aF ?_);(refine⟨by kernel_rfl,?_,?_⟩);(focus(repeat(first|exact trivial|refine⟨.inl rfl,?_⟩|refine⟨.inr (by(repeat(refine⟨(by first|exact bD rfl|exact aG (F.un _ rfl) (F.sz _ rfl) rfl rfl rfl (by omega) (by omega) (by omega)|exact aB rfl|exact aX rfl rfl),?_⟩));exact trivial),?_⟩|refine⟨.inl (by kernel_rfl),?_⟩)))
     (repeat(first|(refine out _ _ _ j1 [] ⟨hjj,by rw [← hv];exact cn (.inr (by simpa [bi] using h2))⟩ ?_;(refine⟨(ExtOk.of rfl),rfl,(by repeat(first|exact trivial|refine⟨rfl,?_⟩)),(by repeat(first|exact trivial|refine⟨am rfl,?_⟩))⟩))|refine aU rfl ?_|refine an rfl ?_))
    ·skip
     (refine aF ?_);(refine⟨by kernel_rfl,?_,?_⟩);(focus(repeat(first|exact trivial|refine⟨.inl rfl,?_⟩|refine⟨.inr (by(repeat(refine⟨(by first|exact bD rfl|exact aG (F.un _ rfl) (F.sz _ rfl) rfl rfl rfl (by omega) (by omega) (by omega)|exact aB rfl|exact aX rfl rfl),?_⟩));exact trivial),?_⟩|refine⟨.inl (by kernel_rfl),?_⟩)))
     (repeat(first|refine ac ?_|refine ab ?_|refine aD ?_|refine ay ?_|refine aE ?_|refine ar rfl ?_|refine ai rfl rfl rfl ?_|refine ah rfl rfl rfl ?_|refine bN rfl rfl rfl rfl (by omega) (by omega) ?_))
     obtain⟨j1,rfl⟩: ∃ j',j1=j'+1:=⟨j1-1,by omega⟩
     refine ihv _ _ _ j1 [] ⟨by omega,?_⟩ (by omega) ?_
     ·rw [← hv]
      exact(fA (by omega) (by simpa [bi] using h2)).symm
     ·(refine⟨(ExtOk.of rfl),rfl,(by repeat(first|exact trivial|refine⟨rfl,?_⟩|refine⟨cp (by(omega)),?_⟩)),(by repeat(first|exact trivial|refine⟨am rfl,?_⟩))⟩)
   ·(repeat(first|refine ax rfl rfl rfl ?_|refine bL rfl rfl rfl rfl ?_|refine cd rfl rfl ?_))
    (refine aF ?_);(refine⟨by kernel_rfl,?_,?_⟩);(focus(repeat(first|exact trivial|refine⟨.inl rfl,?_⟩)))
    (repeat(first|(refine out _ _ _ j1 [] ⟨hjj,by rw [← hv];exact cn (.inl (by omega))⟩ ?_;(refine⟨(ExtOk.of rfl),rfl,(by repeat(first|exact trivial|refine⟨rfl,?_⟩)),(by repeat(first|exact trivial|refine⟨am rfl,?_⟩))⟩))|refine aU rfl ?_|refine an rfl ?_))
  rintro j3 ⟨hjj3,hv3⟩
  have e:=od hu3 hv3 hii3 hjj3
  (repeat(first|refine aj ?_|refine ac ?_|refine ai rfl rfl rfl ?_))
  refine dB rfl rfl rfl rfl ?_ ?_
  all_goals intro h3
  ·rw [ho,if_pos (by omega)] at e
   (repeat(first|(refine outer _ _ _ (j3,d3) [] ⟨by simp only;omega,hd3,e⟩ ?_;(refine⟨(ExtOk.of rfl),rfl,(by repeat(first|exact trivial|refine⟨rfl,?_⟩)),(by repeat(first|exact trivial|refine⟨am rfl,?_⟩))⟩))|refine ab ?_|refine aU rfl ?_|refine ar rfl ?_))
  ·rw [ho,if_neg (by omega)] at e
   (repeat(first|refine aj ?_|refine ab ?_|refine aE ?_|refine an rfl ?_))
   refine aT (by kernel_rfl) (by kernel_rfl) ?_
   (repeat(first|refine ax rfl rfl rfl ?_|(refine ba (g:=fun x:ByteArray=> .string x) rfl rfl rfl (F.ag _ rfl) rfl (by(omega)) (by(omega)) ?_)|(refine bU (g:=fun x:ByteArray=> .string x) rfl rfl rfl (fun _=>rfl) (F.sz _ rfl) rfl (by first|omega|(simp only [zg,aw];omega)) (by first|omega|(simp only [zg,aw];omega)) ?_)|refine au (q:=i3) rfl rfl rfl rfl (F.un _ rfl) (F.sz _ rfl) rfl (by omega) (by omega) (by omega) ?_|refine au (q:=j3) rfl rfl rfl rfl (F.un _ rfl) (F.sz _ rfl) rfl (by omega) (by omega) (by omega) ?_))
   (refine aF ?_);(refine⟨by kernel_rfl,?_,?_⟩);(focus(repeat(first|exact trivial|refine⟨.inl rfl,?_⟩|refine⟨.inr (by(repeat(refine⟨(by first|exact aG (F.un _ rfl) (F.sz _ rfl) rfl rfl rfl (by omega) (by omega) (by omega)|exact aB rfl),?_⟩));exact trivial),?_⟩|refine⟨.inl (by kernel_rfl),?_⟩)))
   (repeat(first|refine aj ?_|refine ac ?_|refine ab ?_|refine ay ?_|refine ai rfl rfl rfl ?_|refine ah rfl rfl rfl ?_|refine bj rfl rfl rfl rfl (by omega) (by omega) ?_|refine bN rfl rfl rfl rfl (by omega) (by omega) ?_))
   refine ih _ _ _ ((i3+1,j3-1),Sort.swp d3 i3 j3) [] ⟨by simp only;omega,by simp only;omega,by simp only;omega,by rw [aw];exact hd3,e.symm⟩ (by simp only;omega) ?_
   (refine⟨(ExtOk.of rfl),rfl,(by repeat(first|exact trivial|refine⟨rfl,?_⟩|refine⟨cp (by(simp only;omega)),?_⟩)),(by repeat(first|exact trivial|refine⟨am rfl,?_⟩))⟩)
 rintro⟨j3,d3⟩ ⟨hj3,hd3,e⟩
 simp only at hj3 hd3 e ⊢
 rw [e]
 (repeat(refine aj ?_))
 refine aT (by kernel_rfl) (by kernel_rfl) ?_
 (repeat(first|refine ax rfl rfl rfl ?_|(refine ba (g:=fun x:ByteArray=> .string x) rfl rfl rfl (F.ag _ rfl) rfl (by(omega)) (by(omega)) ?_)|(refine bU (g:=fun x:ByteArray=> .string x) rfl rfl rfl (fun _=>rfl) (F.sz _ rfl) rfl (by first|omega|(simp only [zg,aw];omega)) (by first|omega|(simp only [zg,aw];omega)) ?_)|refine au (q:=a) rfl rfl rfl rfl (F.un _ rfl) (F.sz _ rfl) rfl (by omega) (by omega) (by omega) ?_|refine au (q:=j3) rfl rfl rfl rfl (F.un _ rfl) (F.sz _ rfl) rfl (by omega) (by omega) (by omega) ?_))
 (refine aF ?_);(refine⟨by kernel_rfl,?_,?_⟩);(focus(repeat(first|exact trivial|refine⟨.inl rfl,?_⟩|refine⟨.inr (by(repeat(refine⟨(by first|exact aG (F.un _ rfl) (F.sz _ rfl) rfl rfl rfl (by omega) (by omega) (by omega)|exact aB rfl),?_⟩));exact trivial),?_⟩|refine⟨.inl (by kernel_rfl),?_⟩)))
 (repeat(first|refine aj ?_|refine ac ?_|refine ab ?_|refine ai rfl rfl rfl ?_|refine ah rfl rfl rfl ?_))
 ((apply aS Try.func71 (congrArg Array.toList Try.results71));(focus(repeat(first|exact ResIs.nil|apply ResIs.tmp rfl)));refine⟨_,rfl,Ends.mk [] (ExtOk.of rfl) rfl rfl ?_⟩)
 exact(by repeat(first|exact trivial|refine⟨am rfl,?_⟩))
theorem kz{lt:ByteArray→ByteArray→Bool}{d:Array (ByteArray)}{b i:Nat}(h:i<b)(hp:lt d[i]! d[i-1]! =false):Sort.scanSorted lt d b i=Sort.scanSorted lt d b (i+1):=by
 conv=>lhs;rw [Sort.scanSorted,if_pos (by simp [h,hp])]
theorem ft{lt:ByteArray→ByteArray→Bool}{d:Array (ByteArray)}{b i:Nat}(h:b≤i∨lt d[i]! d[i-1]! =true):Sort.scanSorted lt d b i=i:=by
 rw [Sort.scanSorted,if_neg]
 simp only [zy,decide_eq_true_eq,Bool.not_eq_true']
 rintro⟨h1,h2⟩
 rcases h with h|h
 ·omega
 ·rw [h] at h2;cases h2
theorem jn{lt:ByteArray→ByteArray→Bool}{d:Array (ByteArray)}{b j:Nat}(h:j<b)(hp:lt d[j]! d[j-1]! =true):Sort.shiftUp lt b j d=Sort.shiftUp lt b (j+1) (Sort.swp d j (j-1)):=by
 conv=>lhs;rw [Sort.shiftUp,if_pos h,if_neg (by simp [hp])]
theorem dF{lt:ByteArray→ByteArray→Bool}{d:Array (ByteArray)}{b j:Nat}(h:b≤j∨lt d[j]! d[j-1]! =false):Sort.shiftUp lt b j d=d:=by
 rw [Sort.shiftUp]
 split
 ·rename_i h1
  rw [if_pos]
  rcases h with h|h
  ·omega
  ·simp [h]
 ·rfl
theorem nZ{lt:ByteArray→ByteArray→Bool}{a b s i i1:Nat}{d d2 d3:Array (ByteArray)}(hi:Sort.scanSorted lt d b i=i1)(h1:i1≠b)(h2: ¬ b-a<50)
 (e2:(if i1-a≥2 then Sort.shiftDown lt (i1-1) (Sort.swp d i1 (i1-1)) else Sort.swp d i1 (i1-1))=d2) (e3:(if b-i1≥2 then Sort.shiftUp lt b (i1+1) d2 else d2)=d3):Sort.partialIns lt a b (s+1) i d=Sort.partialIns lt a b s i1 d3:=by
 rw [Sort.partialIns]
 simp only [hi,if_neg h1,if_neg h2]
 rw [e2,e3]
theorem nY{lt:ByteArray→ByteArray→Bool}{a b s i i1:Nat}{d:Array (ByteArray)}(hi:Sort.scanSorted lt d b i=i1)(h1:i1=b):Sort.partialIns lt a b (s+1) i d=(d,true):=by
 rw [Sort.partialIns]
 simp only [hi,if_pos h1]
theorem mG{lt:ByteArray→ByteArray→Bool}{a b s i i1:Nat}{d:Array (ByteArray)}(hi:Sort.scanSorted lt d b i=i1)(h1:i1≠b)(h2:b-a<50):Sort.partialIns lt a b (s+1) i d=(d,false):=by
 rw [Sort.partialIns]
 simp only [hi,if_neg h1,if_pos h2]
theorem oa(n a b:Nat)(d:Array (ByteArray))(hn:n<4611686018427387904)(hd:d.size=n)(hab:a<b)(hb:b≤n) :
 Ctr Try.prog 68 [.slu 0 0 n,.sc (.int .i64 (a:Int)),.sc (.int .i64 (b:Int))] [bG n d] (fun c=>c=⟨.sc (.bool (Sort.partialInsertionSort bi d a b).2),[some (bG n (Sort.partialInsertionSort bi d a b).1)]⟩):=by
 refine Fnc.start Try.func68 rfl rfl ?_
 (repeat(first|refine aj ?_|refine ac ?_|refine ab ?_|refine aD ?_|refine ai rfl rfl rfl ?_|refine ah rfl rfl rfl ?_|refine bj rfl rfl rfl rfl (by omega) (by omega) ?_))
 refine ct 1 (fun s:(Nat×Nat)×Array (ByteArray)=> [(0,.slu 0 0 n),(1,.sc (.int .i64 (a:Int))),(2,.sc (.int .i64 (b:Int))),(7,.sc (.int .i64 (s.1.2:Int))),(8,.sc (.int .i64 ((5-s.1.1:Nat):Int)))]) (fun s=> [some (bG n s.2)]) (fun s=>s.1.1≤5∧a+1≤s.1.2∧s.1.2≤b∧s.2.size=n∧Sort.partialIns bi a b s.1.1 s.1.2 s.2=Sort.partialInsertionSort bi d a b) (fun s=>s.1.1) ((5,a+1),d) []
  (fun _=>rfl) ⟨zA _,zA _,hab,hd,rfl⟩ ?_ (fun _=>rfl) (fun _=>rfl) ?_
 ·(refine⟨(ExtOk.of rfl),rfl,(by repeat(first|exact trivial|refine⟨rfl,?_⟩)),(by repeat(first|exact trivial|refine⟨am rfl,?_⟩))⟩)
 rintro⟨⟨s,i⟩,d0⟩ ⟨hs,hai,hi,hd0,ho⟩ ih
 simp only at hs hai hi hd0 ho ih ⊢
 (repeat(first|refine aj ?_|refine ac ?_|refine ai rfl rfl rfl ?_))
 refine cF rfl rfl rfl rfl ?_ ?_
 all_goals intro h0
 ·obtain⟨s,rfl⟩: ∃ s',s=s'+1:=⟨s-1,by omega⟩
  (repeat(first|refine aj ?_|refine ab ?_|refine aD ?_|refine aE ?_|refine ar rfl ?_))
  refine ck 1 (fun x:Nat=> [(0,.slu 0 0 n),(1,.sc (.int .i64 (a:Int))),(2,.sc (.int .i64 (b:Int))),(7,.sc (.int .i64 (x:Int))),(8,.sc (.int .i64 ((5-(s+1):Nat):Int)))]) (fun _=> [some (bG n d0)]) (fun x=>a+1≤x∧x≤b∧Sort.scanSorted bi d0 b x=Sort.scanSorted bi d0 b i) (fun x=>b-x) i []
   1 (fun x:Nat=> [(0,.slu 0 0 n),(1,.sc (.int .i64 (a:Int))),(2,.sc (.int .i64 (b:Int))),(7,.sc (.int .i64 (x:Int))),(8,.sc (.int .i64 ((5-(s+1):Nat):Int)))]) (fun _=> [some (bG n d0)]) (fun x=>a+1≤x∧x≤b∧Sort.scanSorted bi d0 b i=x)
   (fun _=>rfl) (fun _=>rfl) ⟨hai,hi,rfl⟩ ?_ (fun _=>rfl) (fun _=>rfl) ?_ ?_
  ·(refine⟨(ExtOk.of rfl),rfl,(by repeat(first|exact trivial|refine⟨rfl,?_⟩)),(by repeat(first|exact trivial|refine⟨am rfl,?_⟩))⟩)
  ·rintro i1 ⟨hai1,hi1,hu⟩ ihu out
   (repeat(refine aj ?_))
   refine aT (by kernel_rfl) (by kernel_rfl) ?_
   (repeat(refine ax rfl rfl rfl ?_))
   refine jZ rfl rfl rfl rfl ?_ ?_
   all_goals intro h1
   ·have hls_h2:=ew (d0[i1]!) (d0[i1-1]!)
    cases h2:bi (d0[i1]!) (d0[i1-1]!)
    all_goals rw [h2] at hls_h2
    rotate_left
    all_goals(repeat(first|refine ax rfl rfl rfl ?_|refine bK rfl rfl rfl rfl ?_|refine cD rfl rfl rfl rfl (by omega) (by omega) ?_|refine cl rfl rfl rfl ?_|(refine ba (g:=fun x:ByteArray=> .string x) rfl rfl rfl (F.ag _ rfl) rfl (by(omega)) (by(omega)) ?_)|refine au (q:=i1) rfl rfl rfl rfl (F.un _ rfl) (F.sz _ rfl) rfl (by omega) (by omega) (by omega) ?_|refine au (q:=i1-1) rfl rfl rfl rfl (F.un _ rfl) (F.sz _ rfl) rfl (by omega) (by omega) (by omega) ?_|refine aY rfl rfl rfl (by kernel_rfl) (Ctr.callV (hls_h2) [] rfl (ExtOk.of rfl) rfl trivial rfl) ?_))
    ·skip
     (refine aF ?_);(refine⟨by kernel_rfl,?_,?_⟩);(focus(repeat(first|exact trivial|refine⟨.inl rfl,?_⟩|refine⟨.inr (by(repeat(refine⟨(by first|exact bD rfl|exact aG (F.un _ rfl) (F.sz _ rfl) rfl rfl rfl (by omega) (by omega) (by omega)|exact aL rfl rfl (.inr (.inl ⟨rfl,(zf _ ⟨by omega,by omega⟩).symm⟩))|exact aB rfl|exact aX rfl rfl),?_⟩));exact trivial),?_⟩|refine⟨.inl (by kernel_rfl),?_⟩)))
     (repeat(first|(refine out _ _ _ i1 [] ⟨hai1,hi1,by rw [← hu];exact ft (.inr (by simpa [bi] using h2))⟩ ?_;(refine⟨(ExtOk.of rfl),rfl,(by repeat(first|exact trivial|refine⟨rfl,?_⟩)),(by repeat(first|exact trivial|refine⟨am rfl,?_⟩))⟩))|refine aU rfl ?_|refine an rfl ?_))
    ·skip
     (refine aF ?_);(refine⟨by kernel_rfl,?_,?_⟩);(focus(repeat(first|exact trivial|refine⟨.inl rfl,?_⟩|refine⟨.inr (by(repeat(refine⟨(by first|exact bD rfl|exact aG (F.un _ rfl) (F.sz _ rfl) rfl rfl rfl (by omega) (by omega) (by omega)|exact aL rfl rfl (.inr (.inl ⟨rfl,(zf _ ⟨by omega,by omega⟩).symm⟩))|exact aB rfl|exact aX rfl rfl),?_⟩));exact trivial),?_⟩|refine⟨.inl (by kernel_rfl),?_⟩)))
     (repeat(first|refine ac ?_|refine ab ?_|refine aD ?_|refine ay ?_|refine aE ?_|refine ar rfl ?_|refine ai rfl rfl rfl ?_|refine ah rfl rfl rfl ?_|refine bj rfl rfl rfl rfl (by omega) (by omega) ?_))
     refine ihu _ _ _ (i1+1) [] ⟨by omega,by omega,?_⟩ (by omega) ?_
     ·rw [← hu]
      exact(kz (by omega) (by simpa [bi] using h2)).symm
     ·(refine⟨(ExtOk.of rfl),rfl,(by repeat(first|exact trivial|refine⟨rfl,?_⟩)),(by repeat(first|exact trivial|refine⟨am rfl,?_⟩))⟩)
   ·(repeat(first|refine ax rfl rfl rfl ?_|refine bL rfl rfl rfl rfl ?_|refine cd rfl rfl ?_))
    (refine aF ?_);(refine⟨by kernel_rfl,?_,?_⟩);(focus(repeat(first|exact trivial|refine⟨.inl rfl,?_⟩)))
    (repeat(first|(refine out _ _ _ i1 [] ⟨hai1,hi1,by rw [← hu];exact ft (.inl (by omega))⟩ ?_;(refine⟨(ExtOk.of rfl),rfl,(by repeat(first|exact trivial|refine⟨rfl,?_⟩)),(by repeat(first|exact trivial|refine⟨am rfl,?_⟩))⟩))|refine aU rfl ?_|refine an rfl ?_))
  rintro i1 ⟨hai1,hi1,hu⟩
  (repeat(first|refine aj ?_|refine ac ?_|refine ai rfl rfl rfl ?_))
  refine cP rfl rfl rfl rfl ?_ ?_
  all_goals intro h1
  ·rw [nY hu (by omega)] at ho
   (repeat(first|refine aj ?_|refine ac ?_|refine ab ?_|refine ar rfl ?_|refine ah rfl rfl rfl ?_))
   rw [← ho]
   ((apply aS Try.func68 (congrArg Array.toList Try.results68));(focus(repeat(first|exact ResIs.nil|apply ResIs.tmp rfl)));refine⟨_,rfl,Ends.mk [] (ExtOk.of rfl) rfl rfl ?_⟩)
   exact(by repeat(first|exact trivial|refine⟨am rfl,?_⟩))
  (repeat(first|refine aj ?_|refine ac ?_|refine ab ?_|refine aE ?_|refine an rfl ?_|refine ai rfl rfl rfl ?_|refine bN rfl rfl rfl rfl (by omega) (by omega) ?_))
  refine cF rfl rfl rfl rfl ?_ ?_
  all_goals intro h2
  ·rw [mG hu (by omega) (by omega)] at ho
   (repeat(first|refine aj ?_|refine ac ?_|refine ab ?_|refine ar rfl ?_|refine ah rfl rfl rfl ?_))
   rw [← ho]
   ((apply aS Try.func68 (congrArg Array.toList Try.results68));(focus(repeat(first|exact ResIs.nil|apply ResIs.tmp rfl)));refine⟨_,rfl,Ends.mk [] (ExtOk.of rfl) rfl rfl ?_⟩)
   exact(by repeat(first|exact trivial|refine⟨am rfl,?_⟩))
  (repeat(first|refine aj ?_|refine ab ?_|refine aE ?_|refine an rfl ?_))
  refine aT (by kernel_rfl) (by kernel_rfl) ?_
  (repeat(first|refine ax rfl rfl rfl ?_|refine cD rfl rfl rfl rfl (by omega) (by omega) ?_|(refine ba (g:=fun x:ByteArray=> .string x) rfl rfl rfl (F.ag _ rfl) rfl (by(omega)) (by(omega)) ?_)|(refine bU (g:=fun x:ByteArray=> .string x) rfl rfl rfl (fun _=>rfl) (F.sz _ rfl) rfl (by first|omega|(simp only [zg,aw];omega)) (by first|omega|(simp only [zg,aw];omega)) ?_)|refine au (q:=i1) rfl rfl rfl rfl (F.un _ rfl) (F.sz _ rfl) rfl (by omega) (by omega) (by omega) ?_|refine au (q:=i1-1) rfl rfl rfl rfl (F.un _ rfl) (F.sz _ rfl) rfl (by omega) (by omega) (by omega) ?_))
  (refine aF ?_);(refine⟨by kernel_rfl,?_,?_⟩);(focus(repeat(first|exact trivial|refine⟨.inl rfl,?_⟩|refine⟨.inr (by(repeat(refine⟨(by first|exact aG (F.un _ rfl) (F.sz _ rfl) rfl rfl rfl (by omega) (by omega) (by omega)|exact aL rfl rfl (.inr (.inl ⟨rfl,(zf _ ⟨by omega,by omega⟩).symm⟩))|exact aB rfl),?_⟩));exact trivial),?_⟩|refine⟨.inl (by kernel_rfl),?_⟩)))
  have hd1:(Sort.swp d0 i1 (i1-1)).size=n:=by rw [aw];exact hd0
  have e2: ∃ d2,(if i1-a≥2 then Sort.shiftDown bi (i1-1) (Sort.swp d0 i1 (i1-1)) else Sort.swp d0 i1 (i1-1))=d2:=⟨_,rfl⟩
  obtain⟨d2,e2⟩:=e2
  have hps:=fun d3 e3=>nZ (s:=s) (d3:=d3) hu (by omega) (by omega) e2 e3
  generalize hsw:Sort.swp d0 i1 (i1-1)=d1 at e2 hd1
  have hsw':(d0.setIfInBounds i1 d0[i1-1]!).setIfInBounds (i1-1) d0[i1]! =d1:=hsw
  rw [hsw']
  (repeat(first|refine aj ?_|refine ac ?_|refine ai rfl rfl rfl ?_|refine bN rfl rfl rfl rfl (by omega) (by omega) ?_))
  refine cw rfl rfl rfl rfl ?_ ?_
  all_goals intro h3
  ·rw [if_pos (by omega)] at e2
   (repeat(first|refine aj ?_|refine ac ?_|refine ab ?_|refine aD ?_|refine ar rfl ?_|refine ai rfl rfl rfl ?_|refine ah rfl rfl rfl ?_|refine bN rfl rfl rfl rfl (by omega) (by omega) ?_))
   refine ck 1 (fun s1:Nat×Array (ByteArray)=> [(0,.slu 0 0 n),(1,.sc (.int .i64 (a:Int))),(2,.sc (.int .i64 (b:Int))),(7,.sc (.int .i64 (i1:Int))),(8,.sc (.int .i64 ((5-(s+1):Nat):Int))),(9,.sc (.int .i64 (s1.1:Int)))]) (fun s1=> [some (bG n s1.2)]) (fun s1=>s1.1≤i1-1∧s1.2.size=n∧Sort.shiftDown bi s1.1 s1.2=d2) (fun s1=>s1.1) (i1-1,d1) []
    1 (fun d':Array (ByteArray)=> [(0,.slu 0 0 n),(1,.sc (.int .i64 (a:Int))),(2,.sc (.int .i64 (b:Int))),(7,.sc (.int .i64 (i1:Int))),(8,.sc (.int .i64 ((5-(s+1):Nat):Int)))]) (fun d'=> [some (bG n d')]) (fun d'=>d'.size=n∧d'=d2)
    (fun _=>rfl) (fun _=>rfl) ⟨zA _,hd1,e2⟩ ?_ (fun _=>rfl) (fun _=>rfl) ?_ ?_
   ·(refine⟨(ExtOk.of rfl),rfl,(by repeat(first|exact trivial|refine⟨rfl,?_⟩|refine⟨cp (by(omega)),?_⟩)),(by repeat(first|exact trivial|refine⟨am rfl,?_⟩))⟩)
   ·rintro⟨j,d'⟩ ⟨hj,hd',hsd⟩ ihd out
    simp only at hj hd' hsd ihd ⊢
    (repeat(first|refine aj ?_|refine ac ?_|refine ai rfl rfl rfl ?_))
    refine cw rfl rfl rfl rfl ?_ ?_
    all_goals intro h4
    ·obtain⟨j,rfl⟩: ∃ j',j=j'+1:=⟨j-1,by omega⟩
     (repeat(first|refine aj ?_|refine ab ?_|refine aD ?_|refine aE ?_|refine ar rfl ?_))
     refine aT (by kernel_rfl) (by kernel_rfl) ?_
     have hls_h5:=ew (d'[j+1]!) (d'[j]!)
     cases h5:bi (d'[j+1]!) (d'[j]!)
     all_goals rw [h5] at hls_h5
     rotate_left
     all_goals(repeat(first|refine ax rfl rfl rfl ?_|refine cD rfl rfl rfl rfl (by omega) (by omega) ?_|refine cl rfl rfl rfl ?_|(refine ba (g:=fun x:ByteArray=> .string x) rfl rfl rfl (F.ag _ rfl) rfl (by(omega)) (by(omega)) ?_)|refine au (q:=j+1) rfl rfl rfl rfl (F.un _ rfl) (F.sz _ rfl) rfl (by omega) (by omega) (by omega) ?_|refine au (q:=j) rfl rfl rfl rfl (F.un _ rfl) (F.sz _ rfl) rfl (by omega) (by omega) (by omega) ?_|refine aY rfl rfl rfl (by kernel_rfl) (Ctr.callV (hls_h5) [] rfl (ExtOk.of rfl) rfl trivial rfl) ?_))
     ·skip
      (refine aF ?_);(refine⟨by kernel_rfl,?_,?_⟩);(focus(repeat(first|exact trivial|refine⟨.inl rfl,?_⟩|refine⟨.inr (by(repeat(refine⟨(by first|exact bD rfl|exact aG (F.un _ rfl) (F.sz _ rfl) rfl rfl rfl (by omega) (by omega) (by omega)|exact aL rfl rfl (.inr (.inl ⟨rfl,(zf _ ⟨by omega,by omega⟩).symm⟩))|exact aB rfl),?_⟩));exact trivial),?_⟩|refine⟨.inl (by kernel_rfl),?_⟩)))
      (repeat(first|refine aE ?_|refine an rfl ?_))
      refine aT (by kernel_rfl) (by kernel_rfl) ?_
      (repeat(first|refine ax rfl rfl rfl ?_|refine cD rfl rfl rfl rfl (by omega) (by omega) ?_|(refine ba (g:=fun x:ByteArray=> .string x) rfl rfl rfl (F.ag _ rfl) rfl (by(omega)) (by(omega)) ?_)|(refine bU (g:=fun x:ByteArray=> .string x) rfl rfl rfl (fun _=>rfl) (F.sz _ rfl) rfl (by first|omega|(simp only [zg,aw];omega)) (by first|omega|(simp only [zg,aw];omega)) ?_)|refine au (q:=j+1) rfl rfl rfl rfl (F.un _ rfl) (F.sz _ rfl) rfl (by omega) (by omega) (by omega) ?_|refine au (q:=j) rfl rfl rfl rfl (F.un _ rfl) (F.sz _ rfl) rfl (by omega) (by omega) (by omega) ?_))
      (refine aF ?_);(refine⟨by kernel_rfl,?_,?_⟩);(focus(repeat(first|exact trivial|refine⟨.inl rfl,?_⟩|refine⟨.inr (by(repeat(refine⟨(by first|exact aG (F.un _ rfl) (F.sz _ rfl) rfl rfl rfl (by omega) (by omega) (by omega)|exact aL rfl rfl (.inr (.inl ⟨rfl,(zf _ ⟨by omega,by omega⟩).symm⟩))|exact aB rfl),?_⟩));exact trivial),?_⟩|refine⟨.inl (by kernel_rfl),?_⟩)))
      (repeat(first|refine ac ?_|refine ab ?_|refine ay ?_|refine ai rfl rfl rfl ?_|refine ah rfl rfl rfl ?_|refine bN rfl rfl rfl rfl (by omega) (by omega) ?_))
      refine ihd _ _ _ (j,Sort.swp d' (j+1) j) [] ⟨by simp only;omega,by rw [aw];exact hd',?_⟩ (by simp only;omega) ?_
      ·rw [← hsd]
       conv=>rhs;rw [Sort.shiftDown,if_neg (by simpa [bi] using h5)]
      ·(refine⟨(ExtOk.of rfl),rfl,(by repeat(first|exact trivial|refine⟨rfl,?_⟩|refine⟨cp (by(omega)),?_⟩)),(by repeat(first|exact trivial|refine⟨am rfl,?_⟩))⟩)
     ·skip
      (refine aF ?_);(refine⟨by kernel_rfl,?_,?_⟩);(focus(repeat(first|exact trivial|refine⟨.inl rfl,?_⟩|refine⟨.inr (by(repeat(refine⟨(by first|exact bD rfl|exact aG (F.un _ rfl) (F.sz _ rfl) rfl rfl rfl (by omega) (by omega) (by omega)|exact aL rfl rfl (.inr (.inl ⟨rfl,(zf _ ⟨by omega,by omega⟩).symm⟩))|exact aB rfl),?_⟩));exact trivial),?_⟩|refine⟨.inl (by kernel_rfl),?_⟩)))
      (repeat(first|(refine out _ _ _ d' [] ⟨hd',by rw [← hsd,Sort.shiftDown,if_pos (by simpa [bi] using h5)]⟩ ?_;(refine⟨(ExtOk.of rfl),rfl,(by repeat(first|exact trivial|refine⟨rfl,?_⟩)),(by repeat(first|exact trivial|refine⟨am rfl,?_⟩))⟩))|refine aU rfl ?_|refine ar rfl ?_))
    ·obtain rfl:j=0:=by omega
     (repeat(first|(refine out _ _ _ d' [] ⟨hd',hsd⟩ ?_;(refine⟨(ExtOk.of rfl),rfl,(by repeat(first|exact trivial|refine⟨rfl,?_⟩)),(by repeat(first|exact trivial|refine⟨am rfl,?_⟩))⟩))|refine ab ?_|refine aU rfl ?_|refine an rfl ?_))
   rintro d2' ⟨hd2,rfl⟩
   (repeat(first|refine aj ?_|refine ac ?_|refine ai rfl rfl rfl ?_|refine bN rfl rfl rfl rfl (by omega) (by omega) ?_))
   refine cw rfl rfl rfl rfl ?_ ?_
   all_goals intro h6
   ·(repeat(first|refine aj ?_|refine ac ?_|refine ab ?_|refine aD ?_|refine ar rfl ?_|refine ai rfl rfl rfl ?_|refine ah rfl rfl rfl ?_|refine bj rfl rfl rfl rfl (by omega) (by omega) ?_))
    refine ck 1 (fun s1:Nat×Array (ByteArray)=> [(0,.slu 0 0 n),(1,.sc (.int .i64 (a:Int))),(2,.sc (.int .i64 (b:Int))),(7,.sc (.int .i64 (i1:Int))),(8,.sc (.int .i64 ((5-(s+1):Nat):Int))),(10,.sc (.int .i64 (s1.1:Int)))]) (fun s1=> [some (bG n s1.2)]) (fun s1=>i1+1≤s1.1∧s1.1≤b∧s1.2.size=n∧Sort.shiftUp bi b s1.1 s1.2=Sort.shiftUp bi b (i1+1) d2') (fun s1=>b-s1.1) (i1+1,d2') []
     1 (fun d':Array (ByteArray)=> [(0,.slu 0 0 n),(1,.sc (.int .i64 (a:Int))),(2,.sc (.int .i64 (b:Int))),(7,.sc (.int .i64 (i1:Int))),(8,.sc (.int .i64 ((5-(s+1):Nat):Int)))]) (fun d'=> [some (bG n d')]) (fun d'=>d'.size=n∧Sort.shiftUp bi b (i1+1) d2'=d')
     (fun _=>rfl) (fun _=>rfl) ⟨zA _,by simp only;omega,hd2,rfl⟩ ?_ (fun _=>rfl) (fun _=>rfl) ?_ ?_
    ·(refine⟨(ExtOk.of rfl),rfl,(by repeat(first|exact trivial|refine⟨rfl,?_⟩)),(by repeat(first|exact trivial|refine⟨am rfl,?_⟩))⟩)
    ·rintro⟨j,d'⟩ ⟨hj,hjb,hd',hsd⟩ ihd out
     simp only at hj hjb hd' hsd ihd ⊢
     (repeat(first|refine aj ?_|refine ac ?_|refine ai rfl rfl rfl ?_))
     refine cF rfl rfl rfl rfl ?_ ?_
     all_goals intro h4
     ·(repeat(first|refine aj ?_|refine ab ?_|refine aD ?_|refine aE ?_|refine ar rfl ?_))
      refine aT (by kernel_rfl) (by kernel_rfl) ?_
      have hls_h5:=ew (d'[j]!) (d'[j-1]!)
      cases h5:bi (d'[j]!) (d'[j-1]!)
      all_goals rw [h5] at hls_h5
      rotate_left
      all_goals(repeat(first|refine ax rfl rfl rfl ?_|refine cD rfl rfl rfl rfl (by omega) (by omega) ?_|refine cl rfl rfl rfl ?_|(refine ba (g:=fun x:ByteArray=> .string x) rfl rfl rfl (F.ag _ rfl) rfl (by(omega)) (by(omega)) ?_)|refine au (q:=j) rfl rfl rfl rfl (F.un _ rfl) (F.sz _ rfl) rfl (by omega) (by omega) (by omega) ?_|refine au (q:=j-1) rfl rfl rfl rfl (F.un _ rfl) (F.sz _ rfl) rfl (by omega) (by omega) (by omega) ?_|refine aY rfl rfl rfl (by kernel_rfl) (Ctr.callV (hls_h5) [] rfl (ExtOk.of rfl) rfl trivial rfl) ?_))
      ·skip
       (refine aF ?_);(refine⟨by kernel_rfl,?_,?_⟩);(focus(repeat(first|exact trivial|refine⟨.inl rfl,?_⟩|refine⟨.inr (by(repeat(refine⟨(by first|exact bD rfl|exact aG (F.un _ rfl) (F.sz _ rfl) rfl rfl rfl (by omega) (by omega) (by omega)|exact aL rfl rfl (.inr (.inl ⟨rfl,(zf _ ⟨by omega,by omega⟩).symm⟩))|exact aB rfl),?_⟩));exact trivial),?_⟩|refine⟨.inl (by kernel_rfl),?_⟩)))
       (repeat(first|refine aE ?_|refine an rfl ?_))
       refine aT (by kernel_rfl) (by kernel_rfl) ?_
       (repeat(first|refine ax rfl rfl rfl ?_|refine cD rfl rfl rfl rfl (by omega) (by omega) ?_|(refine ba (g:=fun x:ByteArray=> .string x) rfl rfl rfl (F.ag _ rfl) rfl (by(omega)) (by(omega)) ?_)|(refine bU (g:=fun x:ByteArray=> .string x) rfl rfl rfl (fun _=>rfl) (F.sz _ rfl) rfl (by first|omega|(simp only [zg,aw];omega)) (by first|omega|(simp only [zg,aw];omega)) ?_)|refine au (q:=j) rfl rfl rfl rfl (F.un _ rfl) (F.sz _ rfl) rfl (by omega) (by omega) (by omega) ?_|refine au (q:=j-1) rfl rfl rfl rfl (F.un _ rfl) (F.sz _ rfl) rfl (by omega) (by omega) (by omega) ?_))
       (refine aF ?_);(refine⟨by kernel_rfl,?_,?_⟩);(focus(repeat(first|exact trivial|refine⟨.inl rfl,?_⟩|refine⟨.inr (by(repeat(refine⟨(by first|exact aG (F.un _ rfl) (F.sz _ rfl) rfl rfl rfl (by omega) (by omega) (by omega)|exact aL rfl rfl (.inr (.inl ⟨rfl,(zf _ ⟨by omega,by omega⟩).symm⟩))|exact aB rfl),?_⟩));exact trivial),?_⟩|refine⟨.inl (by kernel_rfl),?_⟩)))
       (repeat(first|refine ac ?_|refine ab ?_|refine ay ?_|refine ai rfl rfl rfl ?_|refine ah rfl rfl rfl ?_|refine bj rfl rfl rfl rfl (by omega) (by omega) ?_))
       refine ihd _ _ _ (j+1,Sort.swp d' j (j-1)) [] ⟨by simp only;omega,by simp only;omega,by rw [aw];exact hd',?_⟩ (by simp only;omega) ?_
       ·rw [← hsd]
        exact(jn (by omega) (by simpa [bi] using h5)).symm
       ·(refine⟨(ExtOk.of rfl),rfl,(by repeat(first|exact trivial|refine⟨rfl,?_⟩)),(by repeat(first|exact trivial|refine⟨am rfl,?_⟩))⟩)
      ·skip
       (refine aF ?_);(refine⟨by kernel_rfl,?_,?_⟩);(focus(repeat(first|exact trivial|refine⟨.inl rfl,?_⟩|refine⟨.inr (by(repeat(refine⟨(by first|exact bD rfl|exact aG (F.un _ rfl) (F.sz _ rfl) rfl rfl rfl (by omega) (by omega) (by omega)|exact aL rfl rfl (.inr (.inl ⟨rfl,(zf _ ⟨by omega,by omega⟩).symm⟩))|exact aB rfl),?_⟩));exact trivial),?_⟩|refine⟨.inl (by kernel_rfl),?_⟩)))
       (repeat(first|(refine out _ _ _ d' [] ⟨hd',by rw [← hsd];exact dF (.inr (by simpa [bi] using h5))⟩ ?_;(refine⟨(ExtOk.of rfl),rfl,(by repeat(first|exact trivial|refine⟨rfl,?_⟩)),(by repeat(first|exact trivial|refine⟨am rfl,?_⟩))⟩))|refine aU rfl ?_|refine ar rfl ?_))
     ·(repeat(first|(refine out _ _ _ d' [] ⟨hd',by rw [← hsd];exact dF (.inl (by omega))⟩ ?_;(refine⟨(ExtOk.of rfl),rfl,(by repeat(first|exact trivial|refine⟨rfl,?_⟩)),(by repeat(first|exact trivial|refine⟨am rfl,?_⟩))⟩))|refine ab ?_|refine aU rfl ?_|refine an rfl ?_))
    rintro d3 ⟨hd3,e3⟩
    (repeat(first|refine ac ?_|refine ab ?_|refine ay ?_|refine ai rfl rfl rfl ?_|refine ah rfl rfl rfl ?_|refine bj rfl rfl rfl rfl (by omega) (by omega) ?_))
    refine ih _ _ _ ((s,i1),d3) [] ⟨by simp only;omega,hai1,hi1,hd3,by rw [← ho];exact(hps d3 (by rw [if_pos (by omega)];exact e3)).symm⟩ (by simp only;omega) ?_
    (refine⟨(ExtOk.of rfl),rfl,(by repeat(first|exact trivial|refine⟨rfl,?_⟩|refine⟨cp (by(simp only;omega)),?_⟩)),(by repeat(first|exact trivial|refine⟨am rfl,?_⟩))⟩)
   ·(repeat(first|refine ac ?_|refine ab ?_|refine ay ?_|refine aE ?_|refine an rfl ?_|refine ai rfl rfl rfl ?_|refine ah rfl rfl rfl ?_|refine bj rfl rfl rfl rfl (by omega) (by omega) ?_))
    refine ih _ _ _ ((s,i1),d2') [] ⟨by simp only;omega,hai1,hi1,hd2,by rw [← ho];exact(hps d2' (by rw [if_neg (by omega)])).symm⟩ (by simp only;omega) ?_
    (refine⟨(ExtOk.of rfl),rfl,(by repeat(first|exact trivial|refine⟨rfl,?_⟩|refine⟨cp (by(simp only;omega)),?_⟩)),(by repeat(first|exact trivial|refine⟨am rfl,?_⟩))⟩)
  ·rw [if_neg (by omega)] at e2
   subst e2
   have hd2:=hd1
   (repeat(first|refine aj ?_|refine ac ?_|refine ab ?_|refine aE ?_|refine an rfl ?_|refine ai rfl rfl rfl ?_|refine bN rfl rfl rfl rfl (by omega) (by omega) ?_))
   refine cw rfl rfl rfl rfl ?_ ?_
   all_goals intro h6
   ·(repeat(first|refine aj ?_|refine ac ?_|refine ab ?_|refine aD ?_|refine ar rfl ?_|refine ai rfl rfl rfl ?_|refine ah rfl rfl rfl ?_|refine bj rfl rfl rfl rfl (by omega) (by omega) ?_))
    refine ck 1 (fun s1:Nat×Array (ByteArray)=> [(0,.slu 0 0 n),(1,.sc (.int .i64 (a:Int))),(2,.sc (.int .i64 (b:Int))),(7,.sc (.int .i64 (i1:Int))),(8,.sc (.int .i64 ((5-(s+1):Nat):Int))),(10,.sc (.int .i64 (s1.1:Int)))]) (fun s1=> [some (bG n s1.2)]) (fun s1=>i1+1≤s1.1∧s1.1≤b∧s1.2.size=n∧Sort.shiftUp bi b s1.1 s1.2=Sort.shiftUp bi b (i1+1) d1) (fun s1=>b-s1.1) (i1+1,d1) []
     1 (fun d':Array (ByteArray)=> [(0,.slu 0 0 n),(1,.sc (.int .i64 (a:Int))),(2,.sc (.int .i64 (b:Int))),(7,.sc (.int .i64 (i1:Int))),(8,.sc (.int .i64 ((5-(s+1):Nat):Int)))]) (fun d'=> [some (bG n d')]) (fun d'=>d'.size=n∧Sort.shiftUp bi b (i1+1) d1=d')
     (fun _=>rfl) (fun _=>rfl) ⟨zA _,by simp only;omega,hd2,rfl⟩ ?_ (fun _=>rfl) (fun _=>rfl) ?_ ?_
    ·(refine⟨(ExtOk.of rfl),rfl,(by repeat(first|exact trivial|refine⟨rfl,?_⟩)),(by repeat(first|exact trivial|refine⟨am rfl,?_⟩))⟩)
    ·rintro⟨j,d'⟩ ⟨hj,hjb,hd',hsd⟩ ihd out
     simp only at hj hjb hd' hsd ihd ⊢
     (repeat(first|refine aj ?_|refine ac ?_|refine ai rfl rfl rfl ?_))
     refine cF rfl rfl rfl rfl ?_ ?_
     all_goals intro h4
     ·(repeat(first|refine aj ?_|refine ab ?_|refine aD ?_|refine aE ?_|refine ar rfl ?_))
      refine aT (by kernel_rfl) (by kernel_rfl) ?_
      have hls_h5:=ew (d'[j]!) (d'[j-1]!)
      cases h5:bi (d'[j]!) (d'[j-1]!)
      all_goals rw [h5] at hls_h5
      rotate_left
      all_goals(repeat(first|refine ax rfl rfl rfl ?_|refine cD rfl rfl rfl rfl (by omega) (by omega) ?_|refine cl rfl rfl rfl ?_|(refine ba (g:=fun x:ByteArray=> .string x) rfl rfl rfl (F.ag _ rfl) rfl (by(omega)) (by(omega)) ?_)|refine au (q:=j) rfl rfl rfl rfl (F.un _ rfl) (F.sz _ rfl) rfl (by omega) (by omega) (by omega) ?_|refine au (q:=j-1) rfl rfl rfl rfl (F.un _ rfl) (F.sz _ rfl) rfl (by omega) (by omega) (by omega) ?_|refine aY rfl rfl rfl (by kernel_rfl) (Ctr.callV (hls_h5) [] rfl (ExtOk.of rfl) rfl trivial rfl) ?_))
      ·skip
       (refine aF ?_);(refine⟨by kernel_rfl,?_,?_⟩);(focus(repeat(first|exact trivial|refine⟨.inl rfl,?_⟩|refine⟨.inr (by(repeat(refine⟨(by first|exact bD rfl|exact aG (F.un _ rfl) (F.sz _ rfl) rfl rfl rfl (by omega) (by omega) (by omega)|exact aL rfl rfl (.inr (.inl ⟨rfl,(zf _ ⟨by omega,by omega⟩).symm⟩))|exact aB rfl),?_⟩));exact trivial),?_⟩|refine⟨.inl (by kernel_rfl),?_⟩)))
       (repeat(first|refine aE ?_|refine an rfl ?_))
       refine aT (by kernel_rfl) (by kernel_rfl) ?_
       (repeat(first|refine ax rfl rfl rfl ?_|refine cD rfl rfl rfl rfl (by omega) (by omega) ?_|(refine ba (g:=fun x:ByteArray=> .string x) rfl rfl rfl (F.ag _ rfl) rfl (by(omega)) (by(omega)) ?_)|(refine bU (g:=fun x:ByteArray=> .string x) rfl rfl rfl (fun _=>rfl) (F.sz _ rfl) rfl (by first|omega|(simp only [zg,aw];omega)) (by first|omega|(simp only [zg,aw];omega)) ?_)|refine au (q:=j) rfl rfl rfl rfl (F.un _ rfl) (F.sz _ rfl) rfl (by omega) (by omega) (by omega) ?_|refine au (q:=j-1) rfl rfl rfl rfl (F.un _ rfl) (F.sz _ rfl) rfl (by omega) (by omega) (by omega) ?_))
       (refine aF ?_);(refine⟨by kernel_rfl,?_,?_⟩);(focus(repeat(first|exact trivial|refine⟨.inl rfl,?_⟩|refine⟨.inr (by(repeat(refine⟨(by first|exact aG (F.un _ rfl) (F.sz _ rfl) rfl rfl rfl (by omega) (by omega) (by omega)|exact aL rfl rfl (.inr (.inl ⟨rfl,(zf _ ⟨by omega,by omega⟩).symm⟩))|exact aB rfl),?_⟩));exact trivial),?_⟩|refine⟨.inl (by kernel_rfl),?_⟩)))
       (repeat(first|refine ac ?_|refine ab ?_|refine ay ?_|refine ai rfl rfl rfl ?_|refine ah rfl rfl rfl ?_|refine bj rfl rfl rfl rfl (by omega) (by omega) ?_))
       refine ihd _ _ _ (j+1,Sort.swp d' j (j-1)) [] ⟨by simp only;omega,by simp only;omega,by rw [aw];exact hd',?_⟩ (by simp only;omega) ?_
       ·rw [← hsd]
        exact(jn (by omega) (by simpa [bi] using h5)).symm
       ·(refine⟨(ExtOk.of rfl),rfl,(by repeat(first|exact trivial|refine⟨rfl,?_⟩)),(by repeat(first|exact trivial|refine⟨am rfl,?_⟩))⟩)
      ·skip
       (refine aF ?_);(refine⟨by kernel_rfl,?_,?_⟩);(focus(repeat(first|exact trivial|refine⟨.inl rfl,?_⟩|refine⟨.inr (by(repeat(refine⟨(by first|exact bD rfl|exact aG (F.un _ rfl) (F.sz _ rfl) rfl rfl rfl (by omega) (by omega) (by omega)|exact aL rfl rfl (.inr (.inl ⟨rfl,(zf _ ⟨by omega,by omega⟩).symm⟩))|exact aB rfl),?_⟩));exact trivial),?_⟩|refine⟨.inl (by kernel_rfl),?_⟩)))
       (repeat(first|(refine out _ _ _ d' [] ⟨hd',by rw [← hsd];exact dF (.inr (by simpa [bi] using h5))⟩ ?_;(refine⟨(ExtOk.of rfl),rfl,(by repeat(first|exact trivial|refine⟨rfl,?_⟩)),(by repeat(first|exact trivial|refine⟨am rfl,?_⟩))⟩))|refine aU rfl ?_|refine ar rfl ?_))
     ·(repeat(first|(refine out _ _ _ d' [] ⟨hd',by rw [← hsd];exact dF (.inl (by omega))⟩ ?_;(refine⟨(ExtOk.of rfl),rfl,(by repeat(first|exact trivial|refine⟨rfl,?_⟩)),(by repeat(first|exact trivial|refine⟨am rfl,?_⟩))⟩))|refine ab ?_|refine aU rfl ?_|refine an rfl ?_))
    rintro d3 ⟨hd3,e3⟩
    (repeat(first|refine ac ?_|refine ab ?_|refine ay ?_|refine ai rfl rfl rfl ?_|refine ah rfl rfl rfl ?_|refine bj rfl rfl rfl rfl (by omega) (by omega) ?_))
    refine ih _ _ _ ((s,i1),d3) [] ⟨by simp only;omega,hai1,hi1,hd3,by rw [← ho];exact(hps d3 (by rw [if_pos (by omega)];exact e3)).symm⟩ (by simp only;omega) ?_
    (refine⟨(ExtOk.of rfl),rfl,(by repeat(first|exact trivial|refine⟨rfl,?_⟩|refine⟨cp (by(simp only;omega)),?_⟩)),(by repeat(first|exact trivial|refine⟨am rfl,?_⟩))⟩)
   ·(repeat(first|refine ac ?_|refine ab ?_|refine ay ?_|refine aE ?_|refine an rfl ?_|refine ai rfl rfl rfl ?_|refine ah rfl rfl rfl ?_|refine bj rfl rfl rfl rfl (by omega) (by omega) ?_))
    refine ih _ _ _ ((s,i1),d1) [] ⟨by simp only;omega,hai1,hi1,hd2,by rw [← ho];exact(hps d1 (by rw [if_neg (by omega)])).symm⟩ (by simp only;omega) ?_
    (refine⟨(ExtOk.of rfl),rfl,(by repeat(first|exact trivial|refine⟨rfl,?_⟩|refine⟨cp (by(omega)),?_⟩)),(by repeat(first|exact trivial|refine⟨am rfl,?_⟩))⟩)
 ·obtain rfl:s=0:=by omega
  (repeat(first|refine aj ?_|refine ac ?_|refine ab ?_|refine aU rfl ?_|refine an rfl ?_|refine ah rfl rfl rfl ?_))
  rw [← ho]
  ((apply aS Try.func68 (congrArg Array.toList Try.results68));(focus(repeat(first|exact ResIs.nil|apply ResIs.tmp rfl)));refine⟨_,rfl,Ends.mk [] (ExtOk.of rfl) rfl rfl ?_⟩)
  exact(by repeat(first|exact trivial|refine⟨am rfl,?_⟩))
def oh(a len m:Nat):Nat→UInt64×Array (ByteArray)→Nat→UInt64×Array (ByteArray)
 | 0,st,_=>st
 | k+1,st,i=>oh a len m k (Sort.breakStep a len m st i) (i+1)
theorem pP(n a b:Nat)(d:Array (ByteArray))(hn:n<65536)(hd:d.size=n)(hab:a≤b)(hb:b≤n) :
 Ctr Try.prog 65 [.slu 0 0 n,.sc (.int .i64 (a:Int)),.sc (.int .i64 (b:Int))] [bG n d] (fun c=>c=⟨.tup [],[some (bG n (Sort.breakPatterns d a b))]⟩):=by
 have eba:(b:Int)-(a:Int)=((b-a:Nat):Int):=by omega
 refine Fnc.start Try.func65 rfl rfl ?_
 (repeat(first|refine aj ?_|refine ac ?_|refine ab ?_|refine ai rfl rfl rfl ?_|refine ah rfl rfl rfl ?_|refine bN rfl rfl rfl rfl (by omega) (by omega) ?_))
 rw [eba]
 have ebp:Sort.breakPatterns d a b=Sort.breakPatterns d a b:=rfl
 conv at ebp=>rhs;unfold Sort.breakPatterns
 simp only at ebp
 refine cw rfl rfl rfl rfl ?_ ?_
 all_goals intro h1
 ·rw [if_pos (by omega)] at ebp
  have ep:Sort.bitsLen (b-a)≤16:=kw (by omega)
  have eq1:(1:Nat) <<< Sort.bitsLen (b-a)=2 ^ Sort.bitsLen (b-a):=by rw [Nat.shiftLeft_eq,Nat.one_mul]
  have eq2:2 ^ Sort.bitsLen (b-a)≤2*(b-a):=Sort.two_pow_bitsLen_le (by omega)
  have eq3:0<2 ^ Sort.bitsLen (b-a):=Nat.pow_pos (by decide)
  (repeat(first|refine aj ?_|refine ac ?_|refine ab ?_|refine aD ?_|refine ar rfl ?_|refine ai rfl rfl rfl ?_|refine ah rfl rfl rfl ?_|refine cx rfl rfl (F.zl _ rfl) ?_|refine kC rfl rfl rfl (F.sz _ rfl) rfl rfl rfl ?_|refine bj rfl rfl rfl rfl (by omega) (by omega) ?_|refine bN rfl rfl rfl rfl (by omega) (by omega) ?_|refine ny rfl rfl rfl rfl (by omega) (by omega) ?_|refine nw rfl rfl rfl rfl (by omega) (by omega) (by omega) ?_|refine gI rfl rfl rfl (F.un _ rfl) (F.un _ rfl) (show _=((b-a:Nat):Int)from Go.IntWalk.u64_in _ ⟨by omega,by omega⟩) ?_|refine gJ (nP (b-a) (by omega)) [] rfl rfl rfl (by kernel_rfl) rfl (ExtOk.of rfl) rfl trivial ?_))
  rw [eq1] at ebp
  generalize hm:2 ^ Sort.bitsLen (b-a)=m at ebp eq2 eq3
  have e4:(a:Int)+((b-a:Nat):Int) / 4*2-1=((a+(b-a) / 4*2-1:Nat):Int):=by omega
  rw [e4]
  have hbase:a+(b-a) / 4*2-1+3≤b:=by omega
  have hlt:0<a+(b-a) / 4*2:=by omega
  generalize hbs:a+(b-a) / 4*2-1=base at ebp hbase
  have ht:Sort.breakPatterns d a b=(oh a (b-a) m 3 (UInt64.ofNat (b-a),d) base).2:=ebp
  refine ct 2 (fun s:(Nat×UInt64)×Array (ByteArray)=> [(0,.slu 0 0 n),(1,.sc (.int .i64 (a:Int))),(6,.sc (.int .i64 ((b-a:Nat):Int))),(7,.ptr 1 0),(8,.sc (.int .u64 (m:Int))),(9,.sc (.int .i64 ((base+3-s.1.1:Nat):Int)))]) (fun s=> [some (bG n s.2),some (xsO s.1.2.toNat)]) (fun s=>s.1.1≤3∧s.2.size=n∧(oh a (b-a) m s.1.1 (s.1.2,s.2) (base+3-s.1.1)).2=Sort.breakPatterns d a b) (fun s=>s.1.1) ((3,UInt64.ofNat (b-a)),d) [1]
   (fun _=>rfl) ⟨zA _,hd,by rw [ht];rfl⟩ ?_ (fun _=>rfl) (fun _=>rfl) ?_
  ·have e0:(UInt64.ofNat (b-a)).toNat=b-a:=by rw [UInt64.toNat_ofNat',Nat.mod_eq_of_lt (by omega)]
   rw [e0]
   (refine⟨(ExtOk.of rfl),rfl,(by repeat(first|exact trivial|refine⟨rfl,?_⟩)),(by repeat(first|exact trivial|refine⟨am rfl,?_⟩|refine⟨ca rfl,?_⟩))⟩)
  rintro⟨⟨s,r⟩,d1⟩ ⟨hs,hd1,ho⟩ ih
  simp only at hs hd1 ho ih ⊢
  (repeat(first|refine aj ?_|refine ac ?_|refine ai rfl rfl rfl ?_|refine bj rfl rfl rfl rfl (by omega) (by omega) ?_|refine ny rfl rfl rfl rfl (by omega) (by omega) ?_|refine nw rfl rfl rfl rfl (by omega) (by omega) (by omega) ?_))
  refine nz rfl rfl rfl rfl ?_ ?_
  all_goals intro h2
  ·obtain⟨s,rfl⟩: ∃ s',s=s'+1:=⟨s-1,by omega⟩
   have hr:=UInt64.toNat_lt r
   have hnx:=Sort.xorNextN_lt r.toNat hr
   have hxn:=Sort.xorNext_toNat r
   have hst:Sort.breakStep a (b-a) m (r,d1) (base+3-(s+1))=(Sort.xorNext r,Sort.swp d1 (base+3-(s+1)) (a+(if(Sort.xorNext r).toNat &&& (m-1)≥b-a then((Sort.xorNext r).toNat &&& (m-1))-(b-a) else(Sort.xorNext r).toNat &&& (m-1)))):=rfl
   have ho':(oh a (b-a) m s (Sort.breakStep a (b-a) m (r,d1) (base+3-(s+1))) (base+3-s)).2=Sort.breakPatterns d a b:=by
    rw [← ho,oh,show base+3-(s+1)+1=base+3-s by omega]
   rw [hst] at ho'
   rw [hxn] at ho'
   have hmw:IntKind.u64.wrap ((m:Int)-1)=((m-1:Nat):Int):=by
    rw [Go.IntWalk.u64_in _ ⟨by omega,by omega⟩]
    omega
   have hand:=andU (a:=Sort.xorNextN r.toNat) (b:=m-1) hnx (by omega)
   have hle:Sort.xorNextN r.toNat &&& (m-1)≤m-1:=Nat.and_le_right
   generalize hoo:Sort.xorNextN r.toNat &&& (m-1)=o at hand hle ho'
   (repeat(first|refine aj ?_|refine ac ?_|refine ab ?_|refine aD ?_|refine aE ?_|refine ar rfl ?_|refine ai rfl rfl rfl ?_|refine aV rfl rfl rfl (by kernel_rfl) (Ctr.bA (oB r.toNat hr) [1] rfl (ExtOk.of rfl) rfl (by repeat(first|exact trivial|refine⟨ca rfl,?_⟩)) rfl (by repeat(first|exact trivial|refine⟨bz (fun _=>rfl),?_⟩)) (fun _=>rfl) rfl rfl) ?_))
   refine wo rfl rfl rfl rfl ?_
   rw [hmw]
   refine wv rfl rfl rfl rfl (.inl rfl) hand ?_
   (repeat(first|refine aj ?_|refine ac ?_|refine ab ?_|refine ai rfl rfl rfl ?_|refine ah rfl rfl rfl ?_|refine gI rfl rfl rfl (F.un _ rfl) (F.un _ rfl) (show _=(o:Int)from zf _ ⟨by omega,by omega⟩) ?_))
   refine cw rfl rfl rfl rfl ?_ ?_
   all_goals intro h3
   ·rw [if_pos (by omega)] at ho'
    (repeat(first|refine ac ?_|refine ab ?_|refine ar rfl ?_|refine ai rfl rfl rfl ?_|refine ah rfl rfl rfl ?_|refine bN rfl rfl rfl rfl (by omega) (by omega) ?_))
    refine aT (by kernel_rfl) (by kernel_rfl) ?_
    (repeat(first|refine ax rfl rfl rfl ?_|refine cG rfl rfl rfl rfl (by omega) (by omega) ?_|(refine ba (g:=fun x:ByteArray=> .string x) rfl rfl rfl (F.ag _ rfl) rfl (by(omega)) (by(omega)) ?_)|(refine bU (g:=fun x:ByteArray=> .string x) rfl rfl rfl (fun _=>rfl) (F.sz _ rfl) rfl (by first|omega|(simp only [zg,aw];omega)) (by first|omega|(simp only [zg,aw];omega)) ?_)|refine au (q:=base+3-(s+1)) rfl rfl rfl rfl (F.un _ rfl) (F.sz _ rfl) rfl (by omega) (by omega) (by omega) ?_|refine au (q:=a+(o-(b-a))) rfl rfl rfl rfl (F.un _ rfl) (F.sz _ rfl) rfl (by omega) (by omega) (by omega) ?_))
    (refine aF ?_);(refine⟨by kernel_rfl,?_,?_⟩);(focus(repeat(first|exact trivial|refine⟨.inl rfl,?_⟩|refine⟨.inr (by(repeat(refine⟨(by first|exact aG (F.un _ rfl) (F.sz _ rfl) rfl rfl rfl (by omega) (by omega) (by omega)|exact aL rfl rfl (.inl ⟨rfl,(zf _ ⟨by omega,by omega⟩).symm⟩)|exact aB rfl),?_⟩));exact trivial),?_⟩|refine⟨.inl (by kernel_rfl),?_⟩)))
    (repeat(first|refine ac ?_|refine ab ?_|refine ay ?_|refine ai rfl rfl rfl ?_|refine ah rfl rfl rfl ?_|refine bj rfl rfl rfl rfl (by omega) (by omega) ?_))
    refine ih _ _ _ ((s,Sort.xorNext r),Sort.swp d1 (base+3-(s+1)) (a+(o-(b-a)))) [1] ⟨by simp only;omega,by rw [aw];exact hd1,ho'⟩ (by simp only;omega) ?_
    rw [hxn]
    (refine⟨(ExtOk.of rfl),rfl,(by repeat(first|exact trivial|refine⟨rfl,?_⟩|refine⟨cp (by(simp only;omega)),?_⟩)),(by repeat(first|exact trivial|refine⟨am rfl,?_⟩|refine⟨ca rfl,?_⟩))⟩)
   ·rw [if_neg (by omega)] at ho'
    (repeat(first|refine ab ?_|refine aE ?_|refine an rfl ?_))
    refine aT (by kernel_rfl) (by kernel_rfl) ?_
    (repeat(first|refine ax rfl rfl rfl ?_|refine cG rfl rfl rfl rfl (by omega) (by omega) ?_|(refine ba (g:=fun x:ByteArray=> .string x) rfl rfl rfl (F.ag _ rfl) rfl (by(omega)) (by(omega)) ?_)|(refine bU (g:=fun x:ByteArray=> .string x) rfl rfl rfl (fun _=>rfl) (F.sz _ rfl) rfl (by first|omega|(simp only [zg,aw];omega)) (by first|omega|(simp only [zg,aw];omega)) ?_)|refine au (q:=base+3-(s+1)) rfl rfl rfl rfl (F.un _ rfl) (F.sz _ rfl) rfl (by omega) (by omega) (by omega) ?_|refine au (q:=a+o) rfl rfl rfl rfl (F.un _ rfl) (F.sz _ rfl) rfl (by omega) (by omega) (by omega) ?_))
    (refine aF ?_);(refine⟨by kernel_rfl,?_,?_⟩);(focus(repeat(first|exact trivial|refine⟨.inl rfl,?_⟩|refine⟨.inr (by(repeat(refine⟨(by first|exact aG (F.un _ rfl) (F.sz _ rfl) rfl rfl rfl (by omega) (by omega) (by omega)|exact aL rfl rfl (.inl ⟨rfl,(zf _ ⟨by omega,by omega⟩).symm⟩)|exact aB rfl),?_⟩));exact trivial),?_⟩|refine⟨.inl (by kernel_rfl),?_⟩)))
    (repeat(first|refine ac ?_|refine ab ?_|refine ay ?_|refine ai rfl rfl rfl ?_|refine ah rfl rfl rfl ?_|refine bj rfl rfl rfl rfl (by omega) (by omega) ?_))
    refine ih _ _ _ ((s,Sort.xorNext r),Sort.swp d1 (base+3-(s+1)) (a+o)) [1] ⟨by simp only;omega,by rw [aw];exact hd1,ho'⟩ (by simp only;omega) ?_
    rw [hxn]
    (refine⟨(ExtOk.of rfl),rfl,(by repeat(first|exact trivial|refine⟨rfl,?_⟩|refine⟨cp (by(simp only;omega)),?_⟩)),(by repeat(first|exact trivial|refine⟨am rfl,?_⟩|refine⟨ca rfl,?_⟩))⟩)
  ·obtain rfl:s=0:=by omega
   (repeat(first|refine ab ?_|refine aU rfl ?_|refine an rfl ?_))
   ((apply dU Try.func65 (congrArg Array.toList Try.results65));(focus(repeat(exact ResIs.nil)));refine⟨_,rfl,Ends.mk [] (ExtOk.of rfl) rfl rfl ?_⟩)
   rw [← ho]
   exact(by repeat(first|exact trivial|refine⟨am rfl,?_⟩))
 ·rw [if_neg (by omega)] at ebp
  (repeat(first|refine ab ?_|refine aE ?_|refine an rfl ?_))
  ((apply dU Try.func65 (congrArg Array.toList Try.results65));(focus(repeat(exact ResIs.nil)));refine⟨_,rfl,Ends.mk [] (ExtOk.of rfl) rfl rfl ?_⟩)
  rw [ebp]
  exact(by repeat(first|exact trivial|refine⟨am rfl,?_⟩))
abbrev qF:=Array (ByteArray)
theorem rK:Sort.SWO bi:=x3
theorem rM{lt:ByteArray→ByteArray→Bool}{d:qF}{a b limit:Nat}{wb wp:Bool}(h:b-a≤12):Sort.pdq lt d a b limit wb wp=Sort.insertionSort lt d a b:=by rw [Sort.pdq,if_pos h]
theorem pN{lt:ByteArray→ByteArray→Bool}{d:qF}{a b limit:Nat}{wb wp:Bool}(h: ¬ b-a≤12)(h0:limit=0):Sort.pdq lt d a b limit wb wp=Sort.heapSort lt d a b:=by rw [Sort.pdq,if_neg h,if_pos h0]
def dw(lt:ByteArray→ByteArray→Bool)(d3:qF)(a b pivot limit:Nat)(wb wp:Bool):qF:=
 if a>0 && !lt d3[a-1]! d3[pivot]! then
  match Sort.partitionEqual lt d3 a b pivot with
  | (mid,d4)=>if _h:a<mid∧mid≤b then Sort.pdq lt d4 mid b limit wb wp else d4
 else
  match Sort.partition lt d3 a b pivot with
  | (mid,alreadyPartitioned,d4)=>
    if _h:a≤mid∧mid<b then
     if mid-a<b-mid then
      Sort.pdq lt (Sort.pdq lt d4 a mid limit true true) (mid+1) b limit (decide (mid-a≥(b-a) / 8)) alreadyPartitioned
     else
      Sort.pdq lt (Sort.pdq lt d4 (mid+1) b limit true true) a mid limit (decide (b-mid≥(b-a) / 8)) alreadyPartitioned
    else d4
theorem tC{lt:ByteArray→ByteArray→Bool}{d d1 d2:qF}{a b limit limit1 pivot:Nat}{wb wp:Bool}{c:Nat×Sort.Hint}{hint:Sort.Hint}{pi:qF×Bool}(h: ¬ b-a≤12)(h0: ¬ limit=0)
 (e1:d1=(if(!wb)=true then Sort.breakPatterns d a b else d)) (el:limit1=(if(!wb)=true then limit-1 else limit)) (ec:Sort.choosePivot lt d1 a b=c)
 (e2:d2=(if c.2 = .decreasing then Sort.reverseRange d1 a b else d1)) (ep:pivot=(if c.2 = .decreasing then(b-1)-(c.1-a) else c.1)) (eh:hint=(if c.2 = .decreasing then .increasing else c.2))
 (ei:(if(wb && wp && decide (hint = .increasing))=true then Sort.partialInsertionSort lt d2 a b else(d2,false))=pi) :
 Sort.pdq lt d a b limit wb wp=if pi.2=true then pi.1 else dw lt pi.1 a b pivot limit1 wb wp:=by
 subst e1 el ec e2 ep eh ei
 rw [Sort.pdq,if_neg h,if_neg h0]
 rfl
theorem rL{lt:ByteArray→ByteArray→Bool}{d3 d4:qF}{a b pivot limit mid:Nat}{wb wp:Bool}(h:(decide (a>0) && !lt d3[a-1]! d3[pivot]!)=true)(hx:Sort.partitionEqual lt d3 a b pivot=(mid,d4))(hm:a<mid∧mid≤b) :
 dw lt d3 a b pivot limit wb wp=Sort.pdq lt d4 mid b limit wb wp:=by
 unfold dw
 rw [if_pos h,hx]
 simp only [dif_pos hm]
theorem nV{lt:ByteArray→ByteArray→Bool}{d3 d4:qF}{a b pivot limit mid:Nat}{wb wp ap:Bool}(h: ¬ (decide (a>0) && !lt d3[a-1]! d3[pivot]!)=true)(hx:Sort.partition lt d3 a b pivot=(mid,ap,d4))(hm:a≤mid∧mid<b)(hl:mid-a<b-mid) :
 dw lt d3 a b pivot limit wb wp=Sort.pdq lt (Sort.pdq lt d4 a mid limit true true) (mid+1) b limit (decide (mid-a≥(b-a) / 8)) ap:=by
 unfold dw
 rw [if_neg h,hx]
 simp only [dif_pos hm,if_pos hl]
theorem mF{lt:ByteArray→ByteArray→Bool}{d3 d4:qF}{a b pivot limit mid:Nat}{wb wp ap:Bool}(h: ¬ (decide (a>0) && !lt d3[a-1]! d3[pivot]!)=true)(hx:Sort.partition lt d3 a b pivot=(mid,ap,d4))(hm:a≤mid∧mid<b)(hl: ¬ mid-a<b-mid) :
 dw lt d3 a b pivot limit wb wp=Sort.pdq lt (Sort.pdq lt d4 (mid+1) b limit true true) a mid limit (decide (b-mid≥(b-a) / 8)) ap:=by
 unfold dw
 rw [if_neg h,hx]
 simp only [dif_pos hm,if_neg hl]
theorem pM(n:Nat)(hn:n<65536): ∀ (k a b limit:Nat) (d:qF),b-a=k→a≤b→b≤n→d.size=n→limit<4611686018427387904→Sort.Below bi a b d →
 Ctr Try.prog 59 [.slu 0 0 n,.sc (.int .i64 (a:Int)),.sc (.int .i64 (b:Int)),.sc (.int .i64 (limit:Int))] [bG n d] (fun c=>c=⟨.tup [],[some (bG n (Sort.pdq bi d a b limit true true))]⟩):=by
 intro k
 induction k using Nat.strongRecOn with
 | _ k ihk=>
 intro a b limit d hk hab hb hd hl hB
 refine Fnc.start Try.func59 rfl rfl ?_
 (repeat(first|refine aj ?_|refine ac ?_|refine ab ?_|refine aD ?_|refine ah rfl rfl rfl ?_))
 refine ct 1 (fun s:((Nat×Nat)×Nat)×((Bool×Bool)×qF)=> [(0,.slu 0 0 n),(1,.sc (.int .i64 (s.1.1.1:Int))),(2,.sc (.int .i64 (s.1.1.2:Int))),(3,.sc (.int .i64 (s.1.2:Int))),(8,.sc (.bool s.2.1.1)),(9,.sc (.bool s.2.1.2))]) (fun s=> [some (bG n s.2.2)])
  (fun s=>s.1.1.1≤s.1.1.2∧s.1.1.2≤n∧s.1.1.2-s.1.1.1≤k∧s.2.2.size=n∧s.1.2<4611686018427387904∧Sort.Below bi s.1.1.1 s.1.1.2 s.2.2∧Sort.pdq bi s.2.2 s.1.1.1 s.1.1.2 s.1.2 s.2.1.1 s.2.1.2=Sort.pdq bi d a b limit true true) (fun s=>s.1.1.2-s.1.1.1) (((a,b),limit),((true,true),d)) []
  (fun _=>rfl) ⟨hab,hb,Nat.le_of_eq hk,hd,hl,hB,rfl⟩ ?_ (fun _=>rfl) (fun _=>rfl) ?_
 ·(refine⟨(ExtOk.of rfl),rfl,(by repeat(first|exact trivial|refine⟨rfl,?_⟩)),(by repeat(first|exact trivial|refine⟨am rfl,?_⟩))⟩)
 rintro⟨⟨⟨a1,b1⟩,l1⟩,⟨⟨wb,wp⟩,d1⟩⟩ ⟨hab1,hb1,hk1,hd1,hl1,hB1,ho⟩ ih
 simp only at hab1 hb1 hk1 hd1 hl1 hB1 ho ih ⊢
 have eba:(b1:Int)-(a1:Int)=((b1-a1:Nat):Int):=by omega
 (repeat(first|refine aj ?_|refine ac ?_|refine ab ?_|refine aD ?_|refine ai rfl rfl rfl ?_|refine ah rfl rfl rfl ?_|refine bN rfl rfl rfl rfl (by omega) (by omega) ?_))
 rw [eba]
 refine nz rfl rfl rfl rfl ?_ ?_
 all_goals intro h1
 ·rw [rM (by omega)] at ho
  (repeat(first|refine aj ?_|refine ac ?_|refine ab ?_|refine ar rfl ?_|refine ai rfl rfl rfl ?_|refine aV rfl rfl rfl (by kernel_rfl) (Ctr.bA (oSins n a1 b1 d1 (by omega) hd1 hab1 hb1) [0] rfl (ExtOk.of rfl) rfl (by repeat(first|exact trivial|refine⟨am rfl,?_⟩)) rfl (by repeat(first|exact trivial|refine⟨aP,?_⟩)) (fun _=>rfl) rfl rfl) ?_))
  ((apply aS Try.func59 (congrArg Array.toList Try.results59));(focus(repeat(exact ResIs.nil)));refine⟨_,rfl,Ends.mk [] (ExtOk.of rfl) rfl rfl ?_⟩)
  rw [← ho]
  exact(by repeat(first|exact trivial|refine⟨am rfl,?_⟩))
 (repeat(first|refine aj ?_|refine ac ?_|refine ab ?_|refine aE ?_|refine an rfl ?_|refine ai rfl rfl rfl ?_))
 refine cP rfl rfl rfl rfl ?_ ?_
 all_goals intro h2
 ·rw [pN (by omega) (by omega)] at ho
  (repeat(first|refine aj ?_|refine ac ?_|refine ab ?_|refine ar rfl ?_|refine ai rfl rfl rfl ?_|refine aV rfl rfl rfl (by kernel_rfl) (Ctr.bA (og n a1 b1 d1 (by omega) hd1 hab1 hb1) [0] rfl (ExtOk.of rfl) rfl (by repeat(first|exact trivial|refine⟨am rfl,?_⟩)) rfl (by repeat(first|exact trivial|refine⟨aP,?_⟩)) (fun _=>rfl) rfl rfl) ?_))
  ((apply aS Try.func59 (congrArg Array.toList Try.results59));(focus(repeat(exact ResIs.nil)));refine⟨_,rfl,Ends.mk [] (ExtOk.of rfl) rfl rfl ?_⟩)
  rw [← ho]
  exact(by repeat(first|exact trivial|refine⟨am rfl,?_⟩))
 (repeat(first|refine aj ?_|refine ac ?_|refine ab ?_|refine aE ?_|refine an rfl ?_|refine ai rfl rfl rfl ?_|refine dg rfl rfl rfl ?_))
 refine rz 1 (fun s:Nat×qF=> [(0,.slu 0 0 n),(1,.sc (.int .i64 (a1:Int))),(2,.sc (.int .i64 (b1:Int))),(3,.sc (.int .i64 (s.1:Int))),(8,.sc (.bool wb)),(9,.sc (.bool wp)),(10,.sc (.int .i64 ((b1-a1:Nat):Int)))]) (fun s=> [some (bG n s.2)])
  (fun s=>s.1=(if(!wb)=true then l1-1 else l1)∧s.2=(if(!wb)=true then Sort.breakPatterns d1 a1 b1 else d1)) (fun _=>rfl) rfl (fun _=>rfl) (fun _=>rfl) ?_ ?_ ?_
 ·intro hw out
  (repeat(first|(refine out _ _ _ (l1-1,Sort.breakPatterns d1 a1 b1) [] ⟨by rw [if_pos hw],by rw [if_pos hw]⟩ ?_;(refine⟨(ExtOk.of rfl),rfl,(by repeat(first|exact trivial|refine⟨rfl,?_⟩|refine⟨cp (by(omega)),?_⟩)),(by repeat(first|exact trivial|refine⟨am rfl,?_⟩))⟩))|refine aj ?_|refine ac ?_|refine ab ?_|refine ai rfl rfl rfl ?_|refine ah rfl rfl rfl ?_|refine bN rfl rfl rfl rfl (by omega) (by omega) ?_|refine aV rfl rfl rfl (by kernel_rfl) (Ctr.bA (pP n a1 b1 d1 hn hd1 hab1 hb1) [0] rfl (ExtOk.of rfl) rfl (by repeat(first|exact trivial|refine⟨am rfl,?_⟩)) rfl (by repeat(first|exact trivial|refine⟨aP,?_⟩)) (fun _=>rfl) rfl rfl) ?_))
 ·intro hw out
  (repeat(first|(refine out _ _ _ (l1,d1) [] ⟨by rw [hw];rfl,by rw [hw];rfl⟩ ?_;(refine⟨(ExtOk.of rfl),rfl,(by repeat(first|exact trivial|refine⟨rfl,?_⟩)),(by repeat(first|exact trivial|refine⟨am rfl,?_⟩))⟩))|(refine aE ?_)))
 rintro⟨l2,d2⟩ ⟨el,ed⟩
 simp only at el ed ⊢
 have hl2:l2<4611686018427387904:=by rw [el];split <;> omega
 have hpd:Sort.PermIn a1 b1 d1 d2:=by
  rw [ed]
  split
  ·exact Sort.breakPatterns_holds d1 a1 b1 hab1 (by omega)
  ·exact Sort.permIn_refl d1 a1 b1
 have hd2:d2.size=n:=by rw [hpd.1];exact hd1
 have hB2:Sort.Below bi a1 b1 d2:=hB1.perm (by omega) hpd
 have hpv:=pL n a1 b1 d2 (by omega) hd2 (by omega) hb1
 have hpr:=Sort.choosePivot_holds bi d2 a1 b1 (by omega)
 have hgo:=fun d3 pivot hint pi=>tC (lt:=bi) (d:=d1) (d1:=d2) (d2:=d3) (a:=a1) (b:=b1) (limit:=l1) (limit1:=l2) (pivot:=pivot) (wb:=wb) (wp:=wp) (c:=Sort.choosePivot bi d2 a1 b1) (hint:=hint) (pi:=pi) (by omega) (by omega) ed el rfl
 generalize Sort.choosePivot bi d2 a1 b1=c at hpv hpr hgo
 obtain⟨p,hint⟩:=c
 simp only at hpv hpr hgo
 (repeat(first|refine aj ?_|refine ac ?_|refine ab ?_|refine ai rfl rfl rfl ?_|refine ah rfl rfl rfl ?_|refine bM rfl rfl rfl rfl ?_|refine aV rfl rfl rfl (by kernel_rfl) (Ctr.bA (hpv) [0] rfl (ExtOk.of rfl) rfl (by repeat(first|exact trivial|refine⟨am rfl,?_⟩)) rfl (by repeat(first|exact trivial|refine⟨aP,?_⟩)) (fun _=>rfl) rfl rfl) ?_))
 refine pt rfl rfl rfl rfl ?_
 rw [oK]
 (repeat(refine ab ?_))
 refine rz 1 (fun s:(Nat×Sort.Hint)×qF=> [(0,.slu 0 0 n),(1,.sc (.int .i64 (a1:Int))),(2,.sc (.int .i64 (b1:Int))),(3,.sc (.int .i64 (l2:Int))),(8,.sc (.bool wb)),(9,.sc (.bool wp)),(10,.sc (.int .i64 ((b1-a1:Nat):Int))),(11,.sc (.int .i64 (s.1.1:Int))),(12,.sc (.int .i64 (t4 s.1.2)))]) (fun s=> [some (bG n s.2)])
  (fun s=>s.2=(if hint = .decreasing then Sort.reverseRange d2 a1 b1 else d2)∧s.1.1=(if hint = .decreasing then(b1-1)-(p-a1) else p)∧s.1.2=(if hint = .decreasing then .increasing else hint)) (fun _=>rfl) rfl (fun _=>rfl) (fun _=>rfl) ?_ ?_ ?_
 ·intro hw out
  have hw:=of_decide_eq_true hw
  (repeat(first|(refine out _ _ _ (((b1-1)-(p-a1),.increasing),Sort.reverseRange d2 a1 b1) [] ⟨by rw [if_pos hw],by rw [if_pos hw],by rw [if_pos hw]⟩ ?_;(refine⟨(ExtOk.of rfl),rfl,(by repeat(first|exact trivial|refine⟨rfl,?_⟩|refine⟨cp (by(simp only;omega)),?_⟩)),(by repeat(first|exact trivial|refine⟨am rfl,?_⟩))⟩))|refine aj ?_|refine ac ?_|refine ab ?_|refine ai rfl rfl rfl ?_|refine ah rfl rfl rfl ?_|refine bN rfl rfl rfl rfl (by omega) (by omega) ?_|refine aV rfl rfl rfl (by kernel_rfl) (Ctr.bA (pK n a1 b1 d2 (by omega) hd2 (by omega) hb1) [0] rfl (ExtOk.of rfl) rfl (by repeat(first|exact trivial|refine⟨am rfl,?_⟩)) rfl (by repeat(first|exact trivial|refine⟨aP,?_⟩)) (fun _=>rfl) rfl rfl) ?_))
 ·intro hw out
  have hw:=of_decide_eq_false hw
  (repeat(first|(refine out _ _ _ ((p,hint),d2) [] ⟨by rw [if_neg hw],by rw [if_neg hw],by rw [if_neg hw]⟩ ?_;(refine⟨(ExtOk.of rfl),rfl,(by repeat(first|exact trivial|refine⟨rfl,?_⟩)),(by repeat(first|exact trivial|refine⟨am rfl,?_⟩))⟩))|(refine aE ?_)))
 rintro⟨⟨pv,hint2⟩,d3⟩ ⟨ed3,epv,ehi⟩
 simp only at ed3 epv ehi ⊢
 have hpd3:Sort.PermIn a1 b1 d2 d3:=by
  rw [ed3]
  split
  ·exact Sort.reverseRange_holds d2 a1 b1 hab1 (by omega)
  ·exact Sort.permIn_refl d2 a1 b1
 have hd3:d3.size=n:=by rw [hpd3.1];exact hd2
 have hB3:Sort.Below bi a1 b1 d3:=hB2.perm (by omega) hpd3
 have hpv1:a1≤pv∧pv<b1:=by rw [epv];split <;> omega
 have hgo:=fun pi=>hgo d3 pv hint2 pi ed3 epv ehi
 (repeat refine aj ?_)
 refine mq 1 (fun _:Unit=> [(0,.slu 0 0 n),(1,.sc (.int .i64 (a1:Int))),(2,.sc (.int .i64 (b1:Int))),(3,.sc (.int .i64 (l2:Int))),(8,.sc (.bool wb)),(9,.sc (.bool wp)),(10,.sc (.int .i64 ((b1-a1:Nat):Int))),(11,.sc (.int .i64 (pv:Int))),(68,.sc (.bool (wb && wp && decide (hint2 = .increasing))))]) (fun _=> [some (bG n d3)])
  (fun _=>True) (fun _=>rfl) (fun _=>rfl) (fun _=>rfl) ?_ ?_
 ·intro out
  clear ih ihk ho hgo ehi ed el hpr hpv
  cases wb <;> cases wp <;> cases hint2 <;> (repeat(first|(refine out _ _ _ () [] trivial ?_;(refine⟨(ExtOk.of rfl),rfl,(by repeat(first|exact trivial|refine⟨rfl,?_⟩)),(by repeat(first|exact trivial|refine⟨am rfl,?_⟩))⟩))|refine ac ?_|refine ab ?_|refine ai rfl rfl rfl ?_|refine dT rfl rfl rfl rfl ?_|refine ci rfl rfl rfl rfl ?_|refine jK rfl ?_|(refine pt rfl rfl rfl rfl ?_)))
 rintro _ -
 (repeat refine aj ?_)
 refine rz 1 (fun d':qF=> [(0,.slu 0 0 n),(1,.sc (.int .i64 (a1:Int))),(2,.sc (.int .i64 (b1:Int))),(3,.sc (.int .i64 (l2:Int))),(8,.sc (.bool wb)),(9,.sc (.bool wp)),(10,.sc (.int .i64 ((b1-a1:Nat):Int))),(11,.sc (.int .i64 (pv:Int)))]) (fun d'=> [some (bG n d')])
  (fun d'=>d'.size=n∧Sort.Below bi a1 b1 d'∧Sort.pdq bi d1 a1 b1 l1 wb wp=dw bi d' a1 b1 pv l2 wb wp) (fun _=>rfl) rfl (fun _=>rfl) (fun _=>rfl) ?_ ?_ ?_
 ·intro hw out
  have hps:=oa n a1 b1 d3 (by omega) hd3 (by omega) hb1
  have hpp:=(Sort.partialInsertionSort_holds rK d3 a1 b1 (by omega) (by omega) hB3).1
  have hgo:=hgo _ (by rw [if_pos hw])
  generalize Sort.partialInsertionSort bi d3 a1 b1=pi at hps hpp hgo
  obtain⟨d4,done⟩:=pi
  simp only at hps hpp hgo
  cases done
  ·rw [if_neg (by decide)] at hgo
   (repeat(first|(refine out _ _ _ d4 [] ⟨by rw [hpp.1];exact hd3,hB3.perm (by omega) hpp,hgo⟩ ?_;(refine⟨(ExtOk.of rfl),rfl,(by repeat(first|exact trivial|refine⟨rfl,?_⟩)),(by repeat(first|exact trivial|refine⟨am rfl,?_⟩))⟩))|refine aj ?_|refine ac ?_|refine ab ?_|refine aE ?_|refine an rfl ?_|refine ai rfl rfl rfl ?_|refine aV rfl rfl rfl (by kernel_rfl) (Ctr.bA (hps) [0] rfl (ExtOk.of rfl) rfl (by repeat(first|exact trivial|refine⟨am rfl,?_⟩)) rfl (by repeat(first|exact trivial|refine⟨aP,?_⟩)) (fun _=>rfl) rfl rfl) ?_))
  ·rw [if_pos rfl] at hgo
   (repeat(first|refine aj ?_|refine ac ?_|refine ab ?_|refine ar rfl ?_|refine ai rfl rfl rfl ?_|refine aV rfl rfl rfl (by kernel_rfl) (Ctr.bA (hps) [0] rfl (ExtOk.of rfl) rfl (by repeat(first|exact trivial|refine⟨am rfl,?_⟩)) rfl (by repeat(first|exact trivial|refine⟨aP,?_⟩)) (fun _=>rfl) rfl rfl) ?_))
   ((apply aS Try.func59 (congrArg Array.toList Try.results59));(focus(repeat(exact ResIs.nil)));refine⟨_,rfl,Ends.mk [] (ExtOk.of rfl) rfl rfl ?_⟩)
   rw [← ho,hgo]
   exact(by repeat(first|exact trivial|refine⟨am rfl,?_⟩))
 ·intro hw out
  have hgo:=hgo (d3,false) (by rw [hw];rfl)
  (repeat(first|(refine out _ _ _ d3 [] ⟨hd3,hB3,by rw [hgo];rfl⟩ ?_;(refine⟨(ExtOk.of rfl),rfl,(by repeat(first|exact trivial|refine⟨rfl,?_⟩)),(by repeat(first|exact trivial|refine⟨am rfl,?_⟩))⟩))|(refine aE ?_)))
 rintro d4 ⟨hd4,hB4,hT⟩
 rw [hT] at ho
 clear hgo hT hB3 hd3 hpd3 hB2 hd2 hpd ed ed3 ehi epv el hpv
 have arm: ∀ t:Bool,(decide (a1>0) && !bi d4[a1-1]! d4[pv]!)=t→(decide (a1>0) && !bi d4[a1-1]! d4[pv]!)=t:=fun _ h=>h
 (repeat(refine aj ?_))
 refine mq 1 (fun _:Unit=> [(0,.slu 0 0 n),(1,.sc (.int .i64 (a1:Int))),(2,.sc (.int .i64 (b1:Int))),(3,.sc (.int .i64 (l2:Int))),(8,.sc (.bool wb)),(9,.sc (.bool wp)),(10,.sc (.int .i64 ((b1-a1:Nat):Int))),(11,.sc (.int .i64 (pv:Int))),(87,.sc (.bool (decide (a1>0) && !bi d4[a1-1]! d4[pv]!)))]) (fun _=> [some (bG n d4)])
  (fun _=>True) (fun _=>rfl) (fun _=>rfl) (fun _=>rfl) ?_ ?_
 ·intro out
  refine aT (by kernel_rfl) (by kernel_rfl) ?_
  (repeat(refine ax rfl rfl rfl ?_))
  refine ja rfl rfl rfl rfl ?_ ?_
  all_goals intro h5
  ·have hls_h6:=ew (d4[a1-1]!) (d4[pv]!)
   cases h6:bi (d4[a1-1]!) (d4[pv]!)
   all_goals rw [h6] at hls_h6
   rotate_left
   all_goals(repeat(first|refine ax rfl rfl rfl ?_|refine bK rfl rfl rfl rfl ?_|refine cD rfl rfl rfl rfl (by omega) (by omega) ?_|refine cl rfl rfl rfl ?_|(refine ba (g:=fun x:ByteArray=> .string x) rfl rfl rfl (F.ag _ rfl) rfl (by(omega)) (by(omega)) ?_)|refine au (q:=a1-1) rfl rfl rfl rfl (F.un _ rfl) (F.sz _ rfl) rfl (by omega) (by omega) (by omega) ?_|refine au (q:=pv) rfl rfl rfl rfl (F.un _ rfl) (F.sz _ rfl) rfl (by omega) (by omega) (by omega) ?_|refine aY rfl rfl rfl (by kernel_rfl) (Ctr.callV (hls_h6) [] rfl (ExtOk.of rfl) rfl trivial rfl) ?_))
   ·skip
    (refine aF ?_);(refine⟨by kernel_rfl,?_,?_⟩);(focus(repeat(first|exact trivial|refine⟨.inl rfl,?_⟩|refine⟨.inr (by(repeat(refine⟨(by first|exact bD rfl|exact aG (F.un _ rfl) (F.sz _ rfl) rfl rfl rfl (by omega) (by omega) (by omega)|exact aL rfl rfl (.inr (.inl ⟨rfl,(zf _ ⟨by omega,by omega⟩).symm⟩))|exact aB rfl|exact aX rfl rfl),?_⟩));exact trivial),?_⟩|refine⟨.inl (by kernel_rfl),?_⟩)))
    have e5:(decide (a1>0) && !bi d4[a1-1]! d4[pv]!)=false:=by simp [h6]
    rw [e5] at out
    (repeat(refine out _ _ _ () [] trivial ?_;(refine⟨(ExtOk.of rfl),rfl,(by repeat(first|exact trivial|refine⟨rfl,?_⟩)),(by repeat(first|exact trivial|refine⟨am rfl,?_⟩))⟩)))
   ·skip
    (refine aF ?_);(refine⟨by kernel_rfl,?_,?_⟩);(focus(repeat(first|exact trivial|refine⟨.inl rfl,?_⟩|refine⟨.inr (by(repeat(refine⟨(by first|exact bD rfl|exact aG (F.un _ rfl) (F.sz _ rfl) rfl rfl rfl (by omega) (by omega) (by omega)|exact aL rfl rfl (.inr (.inl ⟨rfl,(zf _ ⟨by omega,by omega⟩).symm⟩))|exact aB rfl|exact aX rfl rfl),?_⟩));exact trivial),?_⟩|refine⟨.inl (by kernel_rfl),?_⟩)))
    have e5:(decide (a1>0) && !bi d4[a1-1]! d4[pv]!)=true:=by
     have:0<a1:=by omega
     simp [this,h6]
    rw [e5] at out
    (repeat(refine out _ _ _ () [] trivial ?_;(refine⟨(ExtOk.of rfl),rfl,(by repeat(first|exact trivial|refine⟨rfl,?_⟩)),(by repeat(first|exact trivial|refine⟨am rfl,?_⟩))⟩)))
  ·(repeat(first|refine ax rfl rfl rfl ?_|refine bL rfl rfl rfl rfl ?_|refine cd rfl rfl ?_))
   (refine aF ?_);(refine⟨by kernel_rfl,?_,?_⟩);(focus(repeat(first|exact trivial|refine⟨.inl rfl,?_⟩)))
   have e5:(decide (a1>0) && !bi d4[a1-1]! d4[pv]!)=false:=by
    have: ¬ 0<a1:=by omega
    simp [this]
   rw [e5] at out
   (repeat(refine out _ _ _ () [] trivial ?_;(refine⟨(ExtOk.of rfl),rfl,(by repeat(first|exact trivial|refine⟨rfl,?_⟩)),(by repeat(first|exact trivial|refine⟨am rfl,?_⟩))⟩)))
 rintro _ -
 cases h7:(decide (a1>0) && !bi d4[a1-1]! d4[pv]!)
 ·have hps:=oe n a1 b1 pv d4 (by omega) hd4 hpv1.1 hpv1.2 hb1
  obtain⟨mid,ap,d5,hx⟩: ∃ mid ap,∃ d5,Sort.partition bi d4 a1 b1 pv=(mid,ap,d5):=⟨_,_,_,rfl⟩
  obtain⟨g1,g2,g3,g4,g5,g6,g7⟩:=Sort.round_part rK (Sort.partition_holds bi) hpv1.1 hpv1.2 (by omega) hB4 hx
  rw [hx] at hps
  simp only at hps
  have hd5:d5.size=n:=by rw [g3];exact hd4
  (repeat(first|refine aj ?_|refine ac ?_|refine ab ?_|refine aE ?_|refine an rfl ?_|refine ai rfl rfl rfl ?_|refine ah rfl rfl rfl ?_|refine bM rfl rfl rfl rfl ?_|refine bN rfl rfl rfl rfl (by omega) (by omega) ?_|refine nw rfl rfl rfl rfl (by omega) (by omega) (by omega) ?_|refine aV rfl rfl rfl (by kernel_rfl) (Ctr.bA (hps) [0] rfl (ExtOk.of rfl) rfl (by repeat(first|exact trivial|refine⟨am rfl,?_⟩)) rfl (by repeat(first|exact trivial|refine⟨aP,?_⟩)) (fun _=>rfl) rfl rfl) ?_))
  refine cF rfl rfl rfl rfl ?_ ?_
  all_goals intro h8
  ·rw [nV (by rw [h7];decide) hx ⟨g1,g2⟩ (by omega)] at ho
   have hrec:=ihk (mid-a1) (by omega) a1 mid l2 d5 rfl g1 (by omega) hd5 hl2 g4
   have hL:=Sort.pdq_sorts bi rK d5 a1 mid l2 true true g1 (by omega) g4
   have hB6:=(g6 _ hL.1 hL.2).1
   have hd6:(Sort.pdq bi d5 a1 mid l2 true true).size=n:=by rw [hL.1.1];exact hd5
   generalize Sort.pdq bi d5 a1 mid l2 true true=d6 at hrec hB6 hd6 ho
   clear hL g6 g7 hps hpr
   (repeat(first|refine aj ?_|refine ac ?_|refine ab ?_|refine ay ?_|refine ar rfl ?_|refine ai rfl rfl rfl ?_|refine ah rfl rfl rfl ?_|refine bj rfl rfl rfl rfl (by omega) (by omega) ?_|refine aV rfl rfl rfl (by kernel_rfl) (Ctr.bA (hrec) [0] rfl (ExtOk.of rfl) rfl (by repeat(first|exact trivial|refine⟨am rfl,?_⟩)) rfl (by repeat(first|exact trivial|refine⟨aP,?_⟩)) (fun _=>rfl) rfl rfl) ?_|(refine sB rfl rfl rfl rfl ?_)))
   refine ih _ _ _ (((mid+1,b1),l2),((decide (mid-a1≥(b1-a1) / 8),ap),d6)) [] ⟨by simp only;omega,hb1,by simp only;omega,hd6,hl2,hB6,ho⟩ (by simp only;omega) ?_
   have eb:decide ((mid:Int)-(a1:Int)≥((b1-a1:Nat):Int) / 8)=decide (mid-a1≥(b1-a1) / 8):=by
    rw [Bool.eq_iff_iff,decide_eq_true_eq,decide_eq_true_eq]
    omega
   rw [← eb]
   (refine⟨(ExtOk.of rfl),rfl,(by repeat(first|exact trivial|refine⟨rfl,?_⟩)),(by repeat(first|exact trivial|refine⟨am rfl,?_⟩))⟩)
  ·rw [mF (by rw [h7];decide) hx ⟨g1,g2⟩ (by omega)] at ho
   have hrec:=ihk (b1-(mid+1)) (by omega) (mid+1) b1 l2 d5 rfl (by omega) hb1 hd5 hl2 g5
   have hL:=Sort.pdq_sorts bi rK d5 (mid+1) b1 l2 true true (by omega) (by omega) g5
   have hB6:=(g7 _ hL.1 hL.2).1
   have hd6:(Sort.pdq bi d5 (mid+1) b1 l2 true true).size=n:=by rw [hL.1.1];exact hd5
   generalize Sort.pdq bi d5 (mid+1) b1 l2 true true=d6 at hrec hB6 hd6 ho
   clear hL g6 g7 hps hpr
   have emid:((mid:Int)+1)=((mid+1:Nat):Int):=by omega
   (repeat(first|refine aj ?_|refine ac ?_|refine ab ?_|refine an rfl ?_|refine ai rfl rfl rfl ?_|refine ah rfl rfl rfl ?_|refine bj rfl rfl rfl rfl (by omega) (by omega) ?_|(refine sB rfl rfl rfl rfl ?_)))
   rw [emid]
   (repeat(first|refine ac ?_|refine ab ?_|refine ay ?_|refine ai rfl rfl rfl ?_|refine ah rfl rfl rfl ?_|refine aV rfl rfl rfl (by kernel_rfl) (Ctr.bA (hrec) [0] rfl (ExtOk.of rfl) rfl (by repeat(first|exact trivial|refine⟨am rfl,?_⟩)) rfl (by repeat(first|exact trivial|refine⟨aP,?_⟩)) (fun _=>rfl) rfl rfl) ?_))
   refine ih _ _ _ (((a1,mid),l2),((decide (b1-mid≥(b1-a1) / 8),ap),d6)) [] ⟨g1,by simp only;omega,by simp only;omega,hd6,hl2,hB6,ho⟩ (by simp only;omega) ?_
   have eb:decide ((b1:Int)-(mid:Int)≥((b1-a1:Nat):Int) / 8)=decide (b1-mid≥(b1-a1) / 8):=by
    rw [Bool.eq_iff_iff,decide_eq_true_eq,decide_eq_true_eq]
    omega
   rw [← eb]
   (refine⟨(ExtOk.of rfl),rfl,(by repeat(first|exact trivial|refine⟨rfl,?_⟩)),(by repeat(first|exact trivial|refine⟨am rfl,?_⟩))⟩)
 ·have h7':=h7
  rw [zy,decide_eq_true_eq,Bool.not_eq_true'] at h7'
  have hps:=lU n a1 b1 pv d4 (by omega) hd4 hpv1.1 hpv1.2 hb1
  obtain⟨mid,d5,hx⟩: ∃ mid,∃ d5,Sort.partitionEqual bi d4 a1 b1 pv=(mid,d5):=⟨_,_,rfl⟩
  obtain⟨g1,g2,g3,g4,_⟩:=Sort.round_eq rK (Sort.partitionEqual_holds bi) h7'.1 hpv1.1 hpv1.2 (by omega) hB4 h7'.2 hx
  rw [hx] at hps
  simp only at hps
  rw [rL h7 hx ⟨g1,g2⟩] at ho
  (repeat(first|refine aj ?_|refine ac ?_|refine ab ?_|refine aU rfl ?_|refine ar rfl ?_|refine ai rfl rfl rfl ?_|refine ah rfl rfl rfl ?_|refine aV rfl rfl rfl (by kernel_rfl) (Ctr.bA (hps) [0] rfl (ExtOk.of rfl) rfl (by repeat(first|exact trivial|refine⟨am rfl,?_⟩)) rfl (by repeat(first|exact trivial|refine⟨aP,?_⟩)) (fun _=>rfl) rfl rfl) ?_))
  refine ih _ _ _ (((mid,b1),l2),((wb,wp),d5)) [] ⟨g2,hb1,by simp only;omega,by rw [g3];exact hd4,hl2,g4,ho⟩ (by simp only;omega) ?_
  (refine⟨(ExtOk.of rfl),rfl,(by repeat(first|exact trivial|refine⟨rfl,?_⟩)),(by repeat(first|exact trivial|refine⟨am rfl,?_⟩))⟩)
end Go.Proofs.Ytbmekelkddllkaa
end
section
namespace Go.Proofs.Ytbmekelkddllkaa
open Go Go.Sy Go.Sl Go.RowKit
abbrev nh:ByteArray→List Value:=fun x:ByteArray=> [.string x]
theorem ut:RecOf nh 1:=nI (fun _=>rfl)
abbrev fW(ro:Bool)(l:List ByteArray):VO:=dat ro l.length 1 9 (l.flatMap nh)
theorem r5{V:Type}(val:V→SV)(m:List (ByteArray×V×Nat))(c:Nat){H:aK}{nx b:Nat}:Fnc Try.prog 33 [.mp b] H nx
 (fun r=>r=(.fn (.func 52) [] [.ptr nx 0],H.set nx (ak 56 [.mp b]),nx+1)):=by
 refine Fnc.start Try.func33 rfl rfl ?_
 (repeat(first|refine aj ?_|refine ac ?_|refine ab ?_|refine ah rfl rfl rfl ?_|refine c8 rfl rfl rfl rfl ?_|refine ky rfl rfl rfl rfl ?_))
 apply aS Try.func33 (congrArg Array.toList Try.results33)
 ·(repeat(first|exact ResIs.nil|apply ResIs.tmp rfl))
 rfl
theorem collS{V:Type}(val:V→SV)(m:List (ByteArray×V×Nat))(c:Nat)(hok:KOk m c)(hl:m.length<1000000){H:aK}{nx bx b:Nat}(hbx:H.at' bx=some (ak 56 [.mp b]))(hb:H.at' b=some (eK (fun x:ByteArray=> .string x) val m c))(g1:bx<nx)(g2:b<nx) :
 Fnc Try.prog 50 [.fn (.func 52) [] [.ptr bx 0]] H nx
  (fun r=> ∃ (done:List (ByteArray×V×Nat)) (nm:Nat),done.Perm m∧r.1 = .slu nm 0 (done.map (·.1)).length∧nx≤nm∧nm<r.2.2∧r.2.1.at' nm=some (fW false (done.map (·.1)))∧ ∀ n,n<nx→r.2.1.at' n=H.at' n):=by
 refine Fnc.start Try.func50 rfl rfl ?_
 (repeat(first|refine aj ?_|refine ac ?_|refine ab ?_|refine ai rfl rfl rfl ?_|refine ah rfl rfl rfl ?_))
 refine aQ rfl rfl rfl (by kernel_rfl) ?_
 refine Fnc.start Try.func58 rfl rfl ?_
 refine mn (d:=0) 1 9 rfl rfl ?_
 (repeat(first|refine aj ?_|refine ac ?_|refine ab ?_|refine aD ?_|refine ai rfl rfl rfl ?_|refine ah rfl rfl rfl ?_|refine ky rfl rfl rfl rfl ?_))
 refine f9 [(2,.ptr (nx+1) 0)] rfl rfl (by kernel_rfl) (SlIn.sub ⟨rfl,trivial⟩) ?_
 intro cA cB hcA hcB
 refine Fnc.start Try.func52 rfl rfl ?_
 (repeat(first|refine aj ?_|refine ac ?_|refine ab ?_|refine aD ?_|refine aH rfl rfl rfl (F.ag _ rfl) (by(repeat(first|assumption|refine(Tr.aa _ _ (by omega)).trans ?_));done) (by exact rfl) ?_|(refine kR (b:=b) (m:=m) (c:=c) (enc:=fun x:ByteArray=> .string x) (val:=val) rfl rfl rfl (F.un _ rfl) (by(repeat(first|assumption|refine(Tr.aa _ _ (by omega)).trans ?_));done) ?_)))
 refine dS (α:=List (ByteArray×V×Nat)) (fun _=> [(0,.yld (nx+1+1+1)),(1,.ptr bx 0),(5,.ptr (nx+1+1+1+1) 0)]) (fun done H1 nx1=>(done.Nodup∧ ∀ x∈done,x∈m)∧nx+1+1+1+1+1≤nx1∧(∀ n,n<nx→H1.at' n=H.at' n)∧H1.at' (nx+1+1)=some (.dfd (some []))∧H1.at' (nx+1+1+1)=some (.loop .ready none 58 13 (slT [(2,.ptr (nx+1) 0)]) #[7] cA cB (nx+1+1))
  ∧ H1.at' (nx+1+1+1+1)=some (itV b c done)∧ ∃ r,r<nx1∧(r=nx∨nx+1+1+1+1+1≤r)∧H1.at' (nx+1)=some (ak 65 [.slu r 0 (done.map (·.1)).length])∧H1.at' r=some (fW false (done.map (·.1)))) (fun done=>m.length-done.length) []
  ⟨⟨List.nodup_nil,fun _ h=>by cases h⟩,zA _,fun n hn=>by(focus((repeat(refine(Tr.aa _ _ (by omega)).trans ?_));exact rfl)),by(focus((repeat(first|exact Tr.ae _ _ _|refine(Tr.aa _ _ (by omega)).trans ?_));done)),by(focus((repeat(first|exact Tr.ae _ _ _|refine(Tr.aa _ _ (by omega)).trans ?_));done)),by(focus((repeat(exact Tr.ae _ _ _));done)),nx,by omega,.inl rfl,by(focus((repeat(first|exact Tr.ae _ _ _|refine(Tr.aa _ _ (by omega)).trans ?_));done)),by(focus((repeat(first|exact Tr.ae _ _ _|refine(Tr.aa _ _ (by omega)).trans ?_));done))⟩ (SlIn.sub ⟨rfl,rfl,rfl,trivial⟩) ?_
 rintro done H1 nx1 ⟨hdn,hnx,hold,h4,h5,h6,r,hr,hr2,h3,hrow⟩ ih
 have hlen:=dH done m hdn.1 hdn.2
 have hb1:H1.at' b=some (eK (fun x:ByteArray=> .string x) val m c):=(hold b g2).trans hb
 have hbx1:H1.at' bx=some (ak 56 [.mp b]):=(hold bx g1).trans hbx
 (repeat(first|refine aj ?_|refine ac ?_))
 refine l5 (b:=b) (m:=m) (c:=c) (enc:=fun x:ByteArray=> .string x) (val:=val) (done:=done) rfl rfl rfl ?_ ?_ hok hdn ?_ ?_
 ·assumption
 ·assumption
 ·intro hp
  (repeat(first|refine aj ?_|refine ab ?_|refine aU rfl ?_|refine an rfl ?_|refine eR rfl rfl rfl rfl ?_))
  apply dU Try.func52 (congrArg Array.toList Try.results52) ResIs.nil
  dsimp only
  refine im h5 (fun h=>by cases h) ?_
  (repeat(first|refine aj ?_|refine ac ?_|refine ab ?_|refine ay ?_|refine ah rfl rfl rfl ?_|refine aH rfl rfl rfl (F.ag _ rfl) (by(repeat(first|assumption|refine(Tr.aa _ _ (by omega)).trans ?_));done) (by exact rfl) ?_))
  refine ql Try.func58 (congrArg Array.toList Try.results58) (rs:= [nx+1+1]) rfl (fun r hr=>by rw [List.mem_singleton] at hr;subst hr;(focus((repeat(first|assumption|refine(Tr.aa _ _ (by omega)).trans ?_));done))) (by simp) ?_
  intro H2 hH2
  refine⟨_,(by(repeat(first|exact ResIs.nil|apply ResIs.tmp rfl))),?_⟩
  dsimp only
  (repeat(first|refine ab ?_|refine ah rfl rfl rfl ?_))
  apply aS Try.func50 (congrArg Array.toList Try.results50)
  ·(repeat(first|exact ResIs.nil|apply ResIs.tmp rfl))
  refine⟨done,r,hp,rfl,by omega,hr,?_,fun n hn=>?_⟩
  ·exact(hH2 r (by simp;omega)).trans (by(repeat(first|assumption|refine(Tr.aa _ _ (by omega)).trans ?_));done)
  ·refine(hH2 n (by simp;omega)).trans ((Tr.aa _ _ (by omega)).trans (hold n hn))
 ·intro x hx hxn hdn2
  have hlm:(done.map (·.1)).length=done.length:=List.length_map ..
  have hlen2:=dH _ m hdn2.1 hdn2.2
  rw [zE,List.length_singleton] at hlen2
  (repeat(first|refine aj ?_|refine ac ?_|refine ab ?_|refine aD ?_|refine aE ?_|refine ar rfl ?_|refine ai rfl rfl rfl ?_|refine ah rfl rfl rfl ?_|refine bM rfl rfl rfl rfl ?_|(refine jL (b:=b) (m:=m) (c:=c) (enc:=fun x:ByteArray=> .string x) (val:=val) (x:=x) (done:=done) rfl rfl rfl ?_ ?_ hok hx ?_;(focus((repeat(exact Tr.ae _ _ _));done));(focus((repeat(first|assumption|refine(Tr.aa _ _ (by omega)).trans ?_));done)))))
  refine mu (n:=nx+1+1+1) rfl rfl rfl rfl (by(repeat(first|assumption|refine(Tr.aa _ _ (by omega)).trans ?_));done) (by exact rfl) ?_
  refine ka hcA ?_
  (repeat(first|refine ac ?_|refine ab ?_|refine ah rfl rfl rfl ?_))
  refine mr (by(repeat(first|assumption|refine(Tr.aa _ _ (by omega)).trans ?_));done) ?_
  refine ka hcB ?_
  (repeat(first|refine ac ?_|refine aD ?_|refine ai rfl rfl rfl ?_|refine aH rfl rfl rfl (F.ag _ rfl) (by(repeat(first|assumption|refine(Tr.aa _ _ (by omega)).trans ?_));done) (by exact rfl) ?_|refine gK rfl rfl (F.un _ rfl) (F.sz _ rfl) rfl (F.ze _ rfl) rfl rfl rfl rfl rfl ?_))
  refine wt (b:=16) (xs:=done.map (·.1)) (a:=x.1) rfl rfl rfl rfl (F.un _ rfl) (.inl ⟨_,F.un _ rfl⟩) (F.sz _ rfl) rfl (by kernel_rfl) (by kernel_rfl) (by(repeat(first|assumption|refine(Tr.aa _ _ (by omega)).trans ?_));done) (by(repeat(exact Tr.ae _ _ _));done) (by exact rfl) (ut) (by omega) (by omega) ?_
  (repeat(first|refine ab ?_|refine ay ?_|refine be rfl rfl rfl rfl (F.sz _ rfl) (by first|exact rfl|(focus((repeat(first|assumption|refine(Tr.aa _ _ (by omega)).trans ?_|refine(Tr.a8 _ (by omega)).trans ?_));done))) rfl (by exact zj rfl) rfl ?_))
  refine il (by(repeat(first|exact Tr.ae _ _ _|refine(Tr.aa _ _ (by omega)).trans ?_|refine(Tr.a8 _ (by omega)).trans ?_));done) ?_
  dsimp only
  (repeat(first|refine ab ?_|refine ay ?_|refine aE ?_|refine an rfl ?_|refine dg rfl rfl rfl ?_))
  have e:done.map (·.1) ++ [x.1]=(done ++ [x]).map (·.1):=by simp
  refine ih _ _ _ (done ++ [x]) ⟨hdn2,by omega,fun n hn=>?_,by(focus((repeat(first|assumption|refine(Tr.aa _ _ (by omega)).trans ?_|refine(Tr.a8 _ (by omega)).trans ?_));done)),by(focus((repeat(exact Tr.ae _ _ _));done)),by(focus((repeat(first|exact Tr.ae _ _ _|refine(Tr.aa _ _ (by omega)).trans ?_|refine(Tr.a8 _ (by omega)).trans ?_));done)),nx1+1,by omega,.inr (by omega),?_,?_⟩ (by simp only [zE,List.length_singleton];omega) (SlIn.sub ⟨rfl,rfl,rfl,trivial⟩)
  ·(focus((repeat(first|refine(Tr.aa _ _ (by omega)).trans ?_|refine(Tr.a8 _ (by omega)).trans ?_));exact hold n hn))
  ·rw [← e]
   (focus((repeat(first|exact Tr.ae _ _ _|refine(Tr.aa _ _ (by omega)).trans ?_));done))
  ·rw [← e]
   (focus((repeat(first|exact Tr.ae _ _ _|refine(Tr.aa _ _ (by omega)).trans ?_));done))
def kY(l:List ByteArray):List ByteArray:=(Sort.sort bi l.toArray).toList
theorem gQ(l:List ByteArray):(kY l).Perm l∧(kY l).Pairwise (fun x y=>bi y x=false):=by
 obtain⟨⟨h1,h2,h3⟩,h4⟩:=Sort.sort_sorts bi rK l.toArray
 have hsz:(Sort.sort bi l.toArray).size=l.length:=by simpa using h1
 constructor
 ·have e1:((Sort.sort bi l.toArray).extract 0 l.toArray.size)=Sort.sort bi l.toArray:=by
   rw [show l.toArray.size=(Sort.sort bi l.toArray).size by simpa using h1.symm]
   exact Array.extract_size
  have e2:(l.toArray.extract 0 l.toArray.size)=l.toArray:=Array.extract_size
  rw [e1,e2] at h3
  exact h3
 ·rw [List.pairwise_iff_getElem]
  intro i j hi hj hij
  have hi':i<(Sort.sort bi l.toArray).size:=hi
  have hj':j<(Sort.sort bi l.toArray).size:=hj
  have:=h4 i j (zB _) hij (by simp;omega)
  rw [getElem!_pos _ i hi',getElem!_pos _ j hj'] at this
  simp only [kY,Array.getElem_toList]
  exact this
theorem jm(l:List ByteArray):(kY l).length=l.length:=(gQ l).1.length_eq
theorem vD(n:Nat)(d:Array ByteArray)(hn:n<65536)(hd:d.size=n) :
 Ctr Try.prog 51 [.slu 0 0 n] [bG n d] (fun c=>c=⟨.tup [],[some (bG n (Sort.sort bi d))]⟩):=by
 have h16:=kw hn
 refine Fnc.start Try.func51 rfl rfl ?_
 have hp:=pM n hn n 0 n (Sort.bitsLen n) d rfl (zB _) (zA _) hd (by omega) (.inl rfl)
 have hs:Sort.pdq bi d 0 n (Sort.bitsLen n) true true=Sort.sort bi d:=by unfold Sort.sort;rw [hd]
 rw [hs] at hp
 (repeat(first|refine aj ?_|refine ac ?_|refine ab ?_|refine ai rfl rfl rfl ?_|refine ah rfl rfl rfl ?_|refine dA rfl rfl rfl (F.un _ rfl) ?_|refine gI rfl rfl rfl (F.un _ rfl) (F.un _ rfl) (show _=(n:Int)from Go.IntWalk.u64_in _ ⟨by omega,by omega⟩) ?_|refine gJ (mS n hn) [] rfl rfl rfl (by kernel_rfl) rfl (ExtOk.of rfl) rfl trivial ?_|refine aV rfl rfl rfl (by kernel_rfl) (Ctr.bA (hp) [0] rfl (ExtOk.of rfl) rfl (by repeat(first|exact trivial|refine⟨am rfl,?_⟩)) rfl (by repeat(first|exact trivial|refine⟨aP,?_⟩)) (fun _=>rfl) rfl rfl) ?_))
 ((apply dU Try.func51 (congrArg Array.toList Try.results51));(focus(repeat(exact ResIs.nil)));refine⟨_,rfl,Ends.mk [] (ExtOk.of rfl) rfl rfl ?_⟩)
 exact(by repeat(first|exact trivial|refine⟨am rfl,?_⟩))
theorem vC{V:Type}(val:V→SV)(m:List (ByteArray×V×Nat))(c:Nat)(hok:KOk m c)(hl:m.length<60000){H:aK}{nx bx b:Nat}(hbx:H.at' bx=some (ak 56 [.mp b]))(hb:H.at' b=some (eK (fun x:ByteArray=> .string x) val m c))(g1:bx<nx)(g2:b<nx) :
 Fnc Try.prog 32 [.fn (.func 52) [] [.ptr bx 0]] H nx
  (fun r=> ∃ nm ks,ks.Perm (m.map (·.1))∧ks.Pairwise (fun x y=>bi y x=false)∧r.1 = .slu nm 0 ks.length∧nx≤nm∧nm<r.2.2∧r.2.1.at' nm=some (fW false ks)∧ ∀ n,n<nx→r.2.1.at' n=H.at' n):=by
 refine Fnc.start Try.func32 rfl rfl ?_
 (repeat(first|refine aj ?_|refine ac ?_|refine ab ?_|refine ai rfl rfl rfl ?_|refine ah rfl rfl rfl ?_))
 refine aQ rfl rfl rfl (by kernel_rfl) (Fnc.mono (collS val m c hok (by omega) hbx hb g1 g2) ?_)
 rintro⟨_,H1,n1⟩ ⟨done,nm,hp,rfl,h1,h2,h3,h4⟩
 dsimp only at h1 h2 h3 h4 ⊢
 have hpm:(done.map (·.1)).Perm (m.map (·.1)):=hp.map _
 have hlen:(done.map (·.1)).length=m.length:=by rw [hpm.length_eq,List.length_map]
 generalize done.map (·.1)=ks at h3 hlen hpm ⊢
 have h3':H1.at' nm=some (bG ks.length ks.toArray):=h3
 have hs:=vD ks.length ks.toArray (by omega) (by simp)
 have hrow:bG ks.length (Sort.sort bi ks.toArray)=fW false (kY ks):=by
  have:(kY ks).length=ks.length:=jm ks
  show dat false ks.length 1 9 _=dat false (kY ks).length 1 9 _
  rw [this]
  rfl
 have hsl:=jm ks
 rw [hrow] at hs
 (repeat(first|refine aj ?_|refine ac ?_|refine ab ?_|refine ai rfl rfl rfl ?_|refine ah rfl rfl rfl ?_))
 (refine aQ rfl rfl rfl (by kernel_rfl) (Ctr.wT (hs) [nm] rfl ⟨by intro n hn;simp at hn;omega,by simp;try omega⟩ rfl (by repeat(first|exact trivial|refine⟨am (by assumption),?_⟩)) ?_);rintro _ rfl;refine⟨_,0,[nm],[some _],rfl,(by repeat(first|exact trivial|refine⟨mC _ _ _ _ _ _,?_⟩)),rfl,rfl,?_⟩;dsimp only [wrL])
 (repeat(first|refine aj ?_|refine ac ?_|refine ab ?_|refine ai rfl rfl rfl ?_|refine ah rfl rfl rfl ?_))
 ((apply aS Try.func32 (congrArg Array.toList Try.results32));(focus(repeat(first|exact ResIs.nil|apply ResIs.tmp rfl))))
 rw [← hsl]
 exact⟨nm,_,(gQ ks).1.trans hpm,(gQ ks).2,rfl,h1,h2,Tr.ae _ _ _,fun n hn=>(Tr.aa _ _ (by omega)).trans (h4 n hn)⟩
abbrev iV:Nat→List Value:=fun n=> [.int .i64 (n:Int)]
theorem recI:RecOf iV 1:=nI (fun _=>rfl)
abbrev iR(ro:Bool)(l:List Nat):VO:=dat ro l.length 1 3 (l.flatMap iV)
def DD.cnt(D:DD)(k:ByteArray):Nat:=((a6 D.files k).map List.length).getD 0
structure FilesAt (x y:Nat) (ks:List ByteArray) (cs:List Nat) (lo nx:Nat) (H:aK):Prop where
 lx:lo≤x∧x<nx
 ly:lo≤y∧y<nx
 names: ∃ r,lo≤r∧r<nx∧H.at' x=some (ak 65 [.slu r 0 ks.length])∧H.at' r=some (fW false ks)
 counts: ∃ v,H.at' y=some (ak 33 [v])∧((v = .sc (.slice none 0 0)∧cs= [])∨ ∃ r,lo≤r∧r<nx∧v = .slu r 0 cs.length∧H.at' r=some (iR false cs))
 len:cs.length=ks.length
theorem rm{l:List ByteArray}{i:Nat}(hi:i<l.length):(l.flatMap nh)[i*1]? =some (.string l[i]):=by
 have e: ∀ l:List ByteArray,l.flatMap nh=l.map Value.string:=fun l=>by
  induction l with
  | nil=>rfl
  | cons x l ih=>rw [List.flatMap_cons,ih];rfl
 rw [e,Nat.mul_one,List.getElem?_map,zh hi]
 rfl
theorem t8{d:Nat}{D:DD}{Fp:Nat→Prop}{H:aK}{nx N:Nat}(hD:DAt d D Fp H)(hok:D.Ok N)(hN:N<1000000):Fnc Try.prog 14 [.ptr d 0] H nx
 (fun q=> ∃ x y ks,q.1 = .fn (.func 34) [] [.ptr x 0,.ptr y 0]∧ks.Perm (D.files.map (·.1))∧ks.Pairwise (fun a b=>bLt b a=false)∧FilesAt x y ks (ks.map D.cnt) nx q.2.2 q.2.1∧nx≤q.2.2∧ ∀ z,z<nx→q.2.1.at' z=H.at' z):=by
 refine Fnc.start Try.func14 rfl rfl ?_
 refine b7 fun hund=>?_
 have hlt:=hD.lt hund
 obtain⟨mp,m,c,G,h,hF⟩:=id hD
 have hbox:=h.box
 have hmap:=h.map
 have lmp:=hund _ _ hmap
 have ld:=hund _ _ hbox
 have hlen:m.length≤32:=by have:=hok.f.few;rw [h.fl,wI] at this;exact this
 have hkeys:D.files.map (·.1)=m.map (·.1):=by rw [h.fl];simp [kv,Function.comp_def]
 have hD1: ∀ {H1:aK},(∀ z,z<nx→H1.at' z=H.at' z)→H1.at' d=some (ak 58 (dkC D mp)):=fun hk=>(hk d ld).trans hbox
 (repeat(first|refine aj ?_|refine ac ?_|refine ab ?_|refine ar rfl ?_|(apply ai;exact rfl;exact rfl;exact rfl)|(apply ah;exact rfl;exact rfl;exact rfl)|(apply aR;exact rfl;exact rfl;exact rfl)|(apply aJ;exact rfl;exact rfl;exact rfl;exact(F.fo _ _ rfl rfl))|(apply cx;exact rfl;exact rfl;exact(F.zl _ rfl))|refine aH rfl rfl rfl (F.ag _ rfl) (by(repeat(first|assumption|refine(Tr.aa _ _ (by omega)).trans ?_));done) (by exact rfl) ?_|(apply dg;exact rfl;exact rfl;exact rfl)|(refine aQ rfl rfl rfl (by kernel_rfl) (Fnc.mono (gX (hD1 fun z hz=>by(focus((repeat(refine(Tr.aa _ _ (by omega)).trans ?_));exact rfl))) h.cap) ?_);rintro _ rfl;dsimp only)|(refine aQ rfl rfl rfl (by kernel_rfl) (Fnc.mono (r5 f8 m c) ?_);rintro _ rfl;dsimp only)))
 refine aQ rfl rfl rfl (by kernel_rfl) (Fnc.mono (vC f8 m c h.ok (by omega) (by(repeat(exact Tr.ae _ _ _));done) (b:=mp) (by(repeat(first|assumption|refine(Tr.aa _ _ (by omega)).trans ?_));done) (by omega) (by omega)) ?_)
 rintro⟨_,H1,n1⟩ ⟨nm,ks,hp,hpw,rfl,q1,q2,q3,q4⟩
 dsimp only at q1 q2 q3 q4 ⊢
 have hx:H1.at' nx=some (ak 65 [.sc (.slice none 0 0)]):=(q4 nx (by omega)).trans (by(repeat(first|exact Tr.ae _ _ _|refine(Tr.aa _ _ (by omega)).trans ?_));done)
 have hy:H1.at' (nx+1)=some (ak 33 [.sc (.slice none 0 0)]):=(q4 (nx+1) (by omega)).trans (by(repeat(first|exact Tr.ae _ _ _|refine(Tr.aa _ _ (by omega)).trans ?_));done)
 have hold: ∀ z,z<nx→H1.at' z=H.at' z:=fun z hz=>(q4 z (by omega)).trans (by(repeat(refine(Tr.aa _ _ (by omega)).trans ?_));exact rfl)
 clear q4
 (repeat(first|refine aj ?_|refine ac ?_|refine ab ?_|refine aD ?_|(apply ai;exact rfl;exact rfl;exact rfl)|refine be rfl rfl rfl rfl (F.sz _ rfl) (by assumption) rfl (by exact zj rfl) rfl ?_|refine aH rfl rfl rfl (F.ag _ rfl) (by(repeat(first|assumption|exact Tr.ae _ _ _));done) (by exact rfl) ?_|(apply dA;exact rfl;exact rfl;exact rfl;exact(F.un _ rfl))))
 have hkl:ks.length=m.length:=by rw [hp.length_eq,List.length_map]
 refine dS (α:=Nat) (fun i=> [(0,.ptr d 0),(3,.ptr nx 0),(4,.ptr (nx+1) 0),(16,.slu nm 0 ks.length),(17,.sc (.int .i64 (ks.length:Int))),(18,.sc (.int .i64 (i:Int)))]) (fun i H2 n2=>i≤ks.length∧n1≤n2∧H2.at' nx=some (ak 65 [.slu nm 0 ks.length])∧H2.at' nm=some (fW false ks)∧(∃ v,H2.at' (nx+1)=some (ak 33 [v])∧((v = .sc (.slice none 0 0)∧i=0)∨ ∃ r,n1≤r∧r<n2∧v = .slu r 0 ((ks.take i).map D.cnt).length∧H2.at' r=some (iR false ((ks.take i).map D.cnt))))∧ ∀ z,z<nx→H2.at' z=H.at' z) (fun i=>ks.length-i) 0
  ⟨zB _,zA _,by(focus((repeat(exact Tr.ae _ _ _));done)),by(focus((repeat(first|assumption|refine(Tr.aa _ _ (by omega)).trans ?_));done)),⟨_,by(focus((repeat(refine(Tr.aa _ _ (by omega)).trans ?_));exact hy)),.inl ⟨rfl,rfl⟩⟩,fun z hz=>by(focus((repeat(refine(Tr.aa _ _ (by omega)).trans ?_));exact hold z hz))⟩ (SlIn.sub (by repeat(first|exact trivial|refine⟨rfl,?_⟩))) ?_
 clear hx hy hold q3
 rintro i H2 n2 ⟨hi,hn2,hx,hrow,⟨v,hy,hv⟩,hold⟩ ih
 (repeat(first|refine aj ?_|refine ac ?_))
 (apply cF;exact rfl;exact rfl;exact rfl;exact rfl)
 all_goals intro h1
 ·have hq:i<ks.length:=by omega
  have hmem:ks[i]∈m.map (·.1):=hp.subset (zK hq)
  obtain⟨y0,hy0,hy1⟩:=List.mem_map.1 hmem
  have hg0:=fv h.ok.keys hy0
  rw [hy1] at hg0
  obtain⟨_,⟨fn,l⟩,_⟩:=y0
  dsimp only at hg0
  obtain⟨ms,m2,c2,G2,R,hf,rfl,hR,hd,hG⟩:=h.file hg0
  have lf:=hund _ _ hf.box
  have lm:=hund _ _ hf.map
  have hb2:=(hold d ld).trans hbox
  have hm2:=(hold mp lmp).trans hmap
  have hfb:=(hold fn lf).trans hf.box
  have hfm:=(hold ms lm).trans hf.map
  have hc:D.cnt ks[i]=m2.length:=by
   unfold DD.cnt
   rw [h.fl,dR,hg0]
   exact wH m2
  have htk:(ks.take (i+1)).map D.cnt=(ks.take i).map D.cnt ++ [m2.length]:=by
   rw [List.take_succ_eq_append_getElem hq,zF,zC,List.map_nil,hc]
  have hln:((ks.take i).map D.cnt).length=i:=by rw [List.length_map,List.length_take];omega
  rcases hv with ⟨rfl,rfl⟩|⟨r,r1,r2,rfl,hr⟩
  ·(repeat(first|refine aj ?_|refine ac ?_|refine ab ?_|refine aD ?_|refine aE ?_|refine ar rfl ?_|(apply ah;exact rfl;exact rfl;exact rfl)|refine kb (q:=0) rfl rfl rfl rfl (F.un _ rfl) (F.sz _ rfl) (by assumption) (by omega) (by(omega)) (zA _) ?_|(refine fj rfl rfl rfl (F.ag _ rfl) hrow (rm hq) (by omega) ?_)))
   (apply dp;(focus(kernel_rfl));(focus(kernel_rfl)))
   (repeat(first|(apply ax;exact rfl;exact rfl;exact rfl)|(apply bl;exact rfl;exact rfl;exact rfl)|(apply aW;exact rfl;exact rfl;exact rfl;exact(F.fo _ _ rfl rfl))|(refine bP rfl rfl rfl (F.ag _ rfl) hy (aN rfl) ?_)|(refine bP rfl rfl rfl (F.ag _ rfl) hb2 (aN rfl) ?_)|(refine gu (m:=m) (enc:=kE) (val:=f8) rfl rfl rfl rfl (F.un _ rfl) kK hm2 hg0 ?_)|(refine bP rfl rfl rfl (F.ag _ rfl) hfb (aN rfl) ?_)|(refine lC (m:=m2) (enc:=iE) (val:=iS) rfl rfl rfl (F.un _ rfl) hfm ?_)|(apply eO;exact rfl;exact rfl;exact(F.un _ rfl);exact(F.sz _ rfl);exact rfl;exact(F.ze _ rfl);exact rfl;exact rfl;exact rfl;exact rfl;exact rfl)))
   (repeat(first|(refine kq (m:=1) (b:=8) (vs:=iV m2.length) rfl rfl rfl rfl (F.un _ rfl) (.inl ⟨_,F.un _ rfl⟩) (F.sz _ rfl) rfl (by kernel_rfl) (by kernel_rfl) (pC (by(repeat(exact Tr.ae _ _ _));done) rfl rfl) (recI.2 _) (by omega) (by omega) ?_)|(refine fT rfl rfl rfl rfl (F.sz _ rfl) (by(repeat(first|assumption|refine(Tr.aa _ _ (by omega)).trans ?_));done) rfl (by exact zj rfl) rfl ?_)))
   (refine aF ?_);(refine⟨by kernel_rfl,?_,?_⟩);(focus(repeat(first|exact trivial|refine⟨.inl (cj rfl),?_⟩|refine⟨.inr ⟨0,by kernel_rfl,AllH.all (fun _=>(by first|exact aB rfl|exact bv rfl|exact bc (F.fo _ _ rfl rfl) rfl)) _⟩,?_⟩|refine⟨.inr ⟨0,by kernel_rfl,(by(refine⟨(by(exact aO (F.ag _ rfl) rfl (by(repeat(first|assumption|exact Tr.ae _ _ _|refine(Tr.aa _ _ (by omega)).trans ?_));done) (aN rfl))),?_⟩;(repeat(refine⟨(by(exact aO (F.ag _ rfl) rfl (by(repeat(first|assumption|refine(Tr.aa _ _ (by omega)).trans ?_));done) (aN rfl))),?_⟩));exact trivial))⟩,?_⟩|refine⟨.inr ⟨1,by kernel_rfl,(by(refine⟨(by(exact aO (F.ag _ rfl) rfl (by(repeat(first|assumption|refine(Tr.aa _ _ (by omega)).trans ?_));done) (aN rfl))),?_⟩;(repeat(refine⟨(by(exact aO (F.ag _ rfl) rfl (by(repeat(first|assumption|refine(Tr.aa _ _ (by omega)).trans ?_));done) (aN rfl))),?_⟩));exact trivial))⟩,?_⟩|refine⟨.inr ⟨3,by kernel_rfl,(by(refine⟨(by(exact gN rfl (F.un _ rfl) hfm)),?_⟩;(repeat(refine⟨(by skip),?_⟩));exact trivial))⟩,?_⟩|refine⟨.inl (by kernel_rfl),?_⟩)))
   dsimp only [wrL]
   (repeat(first|refine ac ?_|refine ab ?_|refine ay ?_|(apply ai;exact rfl;exact rfl;exact rfl)|(apply bj;exact rfl;exact rfl;exact rfl;exact rfl;(focus(omega));(focus(omega)))))
   refine ih _ _ _ 1 ⟨hq,by omega,by(focus((repeat(first|assumption|refine(Tr.aa _ _ (by omega)).trans ?_));done)),by(focus((repeat(first|assumption|refine(Tr.aa _ _ (by omega)).trans ?_));done)),⟨_,Tr.ae _ _ _,.inr ⟨n2+1,by omega,by omega,?_,?_⟩⟩,fun z hz=>by(focus((repeat(refine(Tr.aa _ _ (by omega)).trans ?_));exact hold z hz))⟩ (by omega) (SlIn.sub (by repeat(first|exact trivial|refine⟨rfl,?_⟩)))
   ·rw [htk];rfl
   ·rw [htk];(focus((repeat(first|exact Tr.ae _ _ _|refine(Tr.aa _ _ (by omega)).trans ?_));done))
  ·have hsz:=hln
   (repeat(first|refine aj ?_|refine ac ?_|refine ab ?_|refine aD ?_|refine aE ?_|refine ar rfl ?_|(apply ah;exact rfl;exact rfl;exact rfl)|refine kb (q:=i) rfl rfl rfl rfl (F.un _ rfl) (F.sz _ rfl) (by assumption) (by omega) (by(omega)) (zA _) ?_|(refine fj rfl rfl rfl (F.ag _ rfl) hrow (rm hq) (by omega) ?_)))
   (apply dp;(focus(kernel_rfl));(focus(kernel_rfl)))
   (repeat(first|(apply ax;exact rfl;exact rfl;exact rfl)|(apply bl;exact rfl;exact rfl;exact rfl)|(apply aW;exact rfl;exact rfl;exact rfl;exact(F.fo _ _ rfl rfl))|(refine bP rfl rfl rfl (F.ag _ rfl) hy (aN rfl) ?_)|(refine bP rfl rfl rfl (F.ag _ rfl) hb2 (aN rfl) ?_)|(refine gu (m:=m) (enc:=kE) (val:=f8) rfl rfl rfl rfl (F.un _ rfl) kK hm2 hg0 ?_)|(refine bP rfl rfl rfl (F.ag _ rfl) hfb (aN rfl) ?_)|(refine lC (m:=m2) (enc:=iE) (val:=iS) rfl rfl rfl (F.un _ rfl) hfm ?_)|(apply eO;exact rfl;exact rfl;exact(F.un _ rfl);exact(F.sz _ rfl);exact rfl;exact(F.ze _ rfl);exact rfl;exact rfl;exact rfl;exact rfl;exact rfl)))
   (repeat(first|(refine ui (f:=iV) (xs:=(ks.take i).map D.cnt) (a:=m2.length) (b:=8) rfl rfl rfl rfl (F.un _ rfl) (.inl ⟨_,F.un _ rfl⟩) (F.sz _ rfl) rfl (by kernel_rfl) (by kernel_rfl) (by(repeat(first|assumption|refine(Tr.aa _ _ (by omega)).trans ?_));done) (by(repeat(exact Tr.ae _ _ _));done) rfl recI (by omega) (by omega) ?_)|(refine fT rfl rfl rfl rfl (F.sz _ rfl) (by(repeat(first|assumption|refine(Tr.aa _ _ (by omega)).trans ?_|refine(Tr.a8 _ (by omega)).trans ?_));done) rfl (by exact zj rfl) rfl ?_)))
   (refine aF ?_);(refine⟨by kernel_rfl,?_,?_⟩);(focus(repeat(first|exact trivial|refine⟨.inl (cj rfl),?_⟩|refine⟨.inr ⟨0,by kernel_rfl,AllH.all (fun _=>(by first|exact aB rfl|exact bv rfl|exact bc (F.fo _ _ rfl rfl) rfl)) _⟩,?_⟩|refine⟨.inr ⟨0,by kernel_rfl,(by(refine⟨(by(exact aO (F.ag _ rfl) rfl (by(repeat(first|assumption|exact Tr.ae _ _ _|refine(Tr.aa _ _ (by omega)).trans ?_|refine(Tr.a8 _ (by omega)).trans ?_));done) (aN rfl))),?_⟩;(repeat(refine⟨(by(exact aO (F.ag _ rfl) rfl (by(repeat(first|assumption|refine(Tr.aa _ _ (by omega)).trans ?_|refine(Tr.a8 _ (by omega)).trans ?_));done) (aN rfl))),?_⟩));exact trivial))⟩,?_⟩|refine⟨.inr ⟨1,by kernel_rfl,(by(refine⟨(by(exact aO (F.ag _ rfl) rfl (by(repeat(first|assumption|refine(Tr.aa _ _ (by omega)).trans ?_|refine(Tr.a8 _ (by omega)).trans ?_));done) (aN rfl))),?_⟩;(repeat(refine⟨(by(exact aO (F.ag _ rfl) rfl (by(repeat(first|assumption|refine(Tr.aa _ _ (by omega)).trans ?_));done) (aN rfl))),?_⟩));exact trivial))⟩,?_⟩|refine⟨.inr ⟨3,by kernel_rfl,(by(refine⟨(by(exact gN rfl (F.un _ rfl) hfm)),?_⟩;(repeat(refine⟨(by skip),?_⟩));exact trivial))⟩,?_⟩|refine⟨.inl (by kernel_rfl),?_⟩)))
   dsimp only [wrL]
   (repeat(first|refine ac ?_|refine ab ?_|refine ay ?_|(apply ai;exact rfl;exact rfl;exact rfl)|(apply bj;exact rfl;exact rfl;exact rfl;exact rfl;(focus(omega));(focus(omega)))))
   refine ih _ _ _ (i+1) ⟨hq,by omega,by(focus((repeat(first|assumption|refine(Tr.aa _ _ (by omega)).trans ?_|refine(Tr.a8 _ (by omega)).trans ?_));done)),by(focus((repeat(first|assumption|refine(Tr.aa _ _ (by omega)).trans ?_|refine(Tr.a8 _ (by omega)).trans ?_));done)),⟨_,Tr.ae _ _ _,.inr ⟨n2+1,by omega,by omega,?_,?_⟩⟩,fun z hz=>by(focus((repeat(first|refine(Tr.aa _ _ (by omega)).trans ?_|refine(Tr.a8 _ (by omega)).trans ?_));exact hold z hz))⟩ (by omega) (SlIn.sub (by repeat(first|exact trivial|refine⟨rfl,?_⟩)))
   ·rw [htk,zE]
   ·rw [htk];(focus((repeat(first|exact Tr.ae _ _ _|refine(Tr.aa _ _ (by omega)).trans ?_));done))
 ·have hq:i=ks.length:=by omega
  subst hq
  (repeat(first|refine aj ?_|refine ac ?_|refine ab ?_|refine aU rfl ?_|refine an rfl ?_|(apply ah;exact rfl;exact rfl;exact rfl)|(apply c8;exact rfl;exact rfl;exact rfl;exact rfl)))
  ((apply aS Try.func14 (congrArg Array.toList Try.results14));(focus(repeat(first|exact ResIs.nil|apply ResIs.tmp rfl))))
  rw [List.take_length] at hv
  refine⟨nx,nx+1,ks,rfl,by rw [hkeys];exact hp,hpw,⟨⟨zA _,by show nx<n2;omega⟩,⟨zJ _,by show nx+1<n2;omega⟩,⟨nm,by omega,by show nm<n2;omega,hx,hrow⟩,⟨v,hy,?_⟩,List.length_map ..⟩,by show nx≤n2;omega,hold⟩
  rcases hv with ⟨e,h0⟩|⟨r,r1,r2,e,hr⟩
  ·exact .inl ⟨e,by rw [zv h0];rfl⟩
  ·exact .inr ⟨r,by omega,r2,e,hr⟩
theorem s9{P:Program}{H:aK}{b:Nat}{ro:Bool}(l:List Sct)(hb:H.at' b=some (x8 ro l)):RdV P H 256 (.slu b 0 l.length) l.length (l.flatMap pz):=by
 refine pD hb (by omega) ?_ (gr eL l)
 rw [Nat.zero_mul,List.drop_zero]
 exact zq (by rw [gr eL];exact zA _)
theorem qE(l:List Sct):rJ (l.flatMap pz):=t6 recV.2 l
theorem xY{H:aK}{nx r:Nat}(l:List Sct)(hr:H.at' r=some (x8 false l))(hl:l.length<2000000):Fnc Try.prog 53 [.slu r 0 l.length] H nx (fun q=> ∃ r',q.1 = .slu r' 0 l.length∧q.2.1.at' r'=some (x8 false l)∧nx≤r'∧r'<q.2.2∧nx≤q.2.2∧ ∀ n,n<nx→q.2.1.at' n=H.at' n):=by
 refine Fnc.start Try.func53 rfl rfl ?_
 refine b7 fun hund=>?_
 have hlt:=hund _ _ hr
 (repeat(first|refine aj ?_|refine ac ?_|refine ab ?_|refine ar rfl ?_|(apply ai;exact rfl;exact rfl;exact rfl)|(apply ah;exact rfl;exact rfl;exact rfl)|refine uP rfl rfl rfl rfl (F.un _ rfl) (by assumption) (fun h0=>?_) ?_))
 ·skip
  refine mn 256 45 (d:=2) (by(repeat(exact Tr.ae _ _ _));done) rfl ?_
  ((apply aS Try.func53 (congrArg Array.toList Try.results53));(focus(repeat(first|exact ResIs.nil|apply ResIs.tmp rfl))))
  have:l= []:=zv h0
  subst this
  exact⟨nx,rfl,Tr.ae _ _ _,zA _,Nat.lt_succ_self _,zJ _,fun n hn=>Tr.aa _ _ (by omega)⟩
 ·(repeat(first|refine aj ?_|refine ac ?_|refine ab ?_|refine aE ?_|refine an rfl ?_|(apply ai;exact rfl;exact rfl;exact rfl)|(refine yw rfl rfl (F.un _ rfl) (F.sz _ rfl) rfl wV ?_)))
  rcases Nat.eq_zero_or_pos l.length with h0|h0
  ·have:l= []:=zv h0
   subst this
   refine sE (vs:= []) rfl rfl rfl rfl (F.un _ rfl) (.inl ⟨_,F.un _ rfl⟩) (F.sz _ rfl) rfl (by(repeat(exact Tr.ae _ _ _));done) (zA _) (s9 [] (by(repeat(first|assumption|refine(Tr.aa _ _ (by omega)).trans ?_));done)) (qE []) ?_
   (repeat(first|refine ab ?_|(apply ah;exact rfl;exact rfl;exact rfl)))
   ((apply aS Try.func53 (congrArg Array.toList Try.results53));(focus(repeat(first|exact ResIs.nil|apply ResIs.tmp rfl))))
   exact⟨nx,rfl,Tr.ae _ _ _,zA _,Nat.lt_succ_self _,zJ _,fun n hn=>Tr.aa _ _ (by omega)⟩
  ·refine uQ (b:=256) (us:= []) (ws:= []) rfl rfl rfl rfl (F.un _ rfl) (.inl ⟨_,F.un _ rfl⟩) (F.sz _ rfl) rfl (by kernel_rfl) (by kernel_rfl) (by(repeat(exact Tr.ae _ _ _));done) rfl rfl (s9 l (by(repeat(first|assumption|refine(Tr.aa _ _ (by omega)).trans ?_));done)) (qE l) h0 (by omega) (by omega) ?_
   rw [Nat.zero_add,List.nil_append]
   (repeat(first|refine ab ?_|(apply ah;exact rfl;exact rfl;exact rfl)))
   ((apply aS Try.func53 (congrArg Array.toList Try.results53));(focus(repeat(first|exact ResIs.nil|apply ResIs.tmp rfl))))
   exact⟨nx+1,rfl,Tr.ae _ _ _,zJ _,Nat.lt_succ_self _,zI (zJ _) (zJ _),fun n hn=>(Tr.aa _ _ (by omega)).trans ((Tr.a8 _ (by omega)).trans (Tr.aa _ _ (by omega)))⟩
theorem xX{H:aK}{nx r:Nat}(l:List Sct)(hr:H.at' r=some (x8 false l))(hl:l.length<2000000):Fnc Try.prog 53 [.slu r 0 l.length] H nx (fun q=>q=(.slu nx 0 l.length,H.set nx (x8 false l),nx+1)):=Fnc.next (xY l hr hl)
theorem uw{H:aK}{nx:Nat}:Fnc Try.prog 53 [.sc (.slice none 0 0)] H nx (fun q=>q=(.sc (.slice none 0 0),H,nx)):=by
 refine Fnc.start Try.func53 rfl rfl ?_
 (repeat(first|refine aj ?_|refine ac ?_|refine ab ?_|refine ar rfl ?_|(apply ai;exact rfl;exact rfl;exact rfl)|(apply ah;exact rfl;exact rfl;exact rfl)|((apply wW;exact rfl;exact rfl;exact rfl;exact rfl;exact(F.un _ rfl)))))
 ((apply aS Try.func53 (congrArg Array.toList Try.results53));(focus(repeat(first|exact ResIs.nil|apply ResIs.tmp rfl))))
 rfl
end Go.Proofs.Ytbmekelkddllkaa
end
