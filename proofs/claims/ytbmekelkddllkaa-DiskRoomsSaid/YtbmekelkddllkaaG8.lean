import Derived.Test.YtbmekelkddllkaaG7
set_option linter.unusedVariables false
set_option linter.unusedSimpArgs false
set_option maxRecDepth 100000
set_option maxHeartbeats 0
section
namespace Go.Proofs.Ytbmekelkddllkaa
open Go Go.Sy Go.Sl Go.RowKit
abbrev ni:Int→List Value:=fun x:Int=> [.int .i64 x]
theorem uu:RecOf ni 1:=nI (fun _=>rfl)
abbrev fX(ro:Bool)(l:List Int):VO:=dat ro l.length 1 3 (l.flatMap ni)
theorem r6{V:Type}(val:V→SV)(m:List (Int×V×Nat))(c:Nat){H:aK}{nx b:Nat}:Fnc Try.prog 37 [.mp b] H nx
 (fun r=>r=(.fn (.func 56) [] [.ptr nx 0],H.set nx (ak 61 [.mp b]),nx+1)):=by
 refine Fnc.start Try.func37 rfl rfl ?_
 (repeat(first|refine aj ?_|refine ac ?_|refine ab ?_|refine ah rfl rfl rfl ?_|refine c8 rfl rfl rfl rfl ?_|refine ky rfl rfl rfl rfl ?_))
 apply aS Try.func37 (congrArg Array.toList Try.results37)
 ·(repeat(first|exact ResIs.nil|apply ResIs.tmp rfl))
 rfl
theorem collI{V:Type}(val:V→SV)(m:List (Int×V×Nat))(c:Nat)(hok:KOk m c)(hl:m.length<1000000){H:aK}{nx bx b:Nat}(hbx:H.at' bx=some (ak 61 [.mp b]))(hb:H.at' b=some (eK (fun x:Int=> .int .i64 x) val m c))(g1:bx<nx)(g2:b<nx) :
 Fnc Try.prog 54 [.fn (.func 56) [] [.ptr bx 0]] H nx
  (fun r=> ∃ (done:List (Int×V×Nat)) (nm:Nat),done.Perm m∧r.1 = .slu nm 0 (done.map (·.1)).length∧nx≤nm∧nm<r.2.2∧r.2.1.at' nm=some (fX false (done.map (·.1)))∧ ∀ n,n<nx→r.2.1.at' n=H.at' n):=by
 refine Fnc.start Try.func54 rfl rfl ?_
 (repeat(first|refine aj ?_|refine ac ?_|refine ab ?_|refine ai rfl rfl rfl ?_|refine ah rfl rfl rfl ?_))
 refine aQ rfl rfl rfl (by kernel_rfl) ?_
 refine Fnc.start Try.func61 rfl rfl ?_
 refine mn (d:=0) 1 3 rfl rfl ?_
 (repeat(first|refine aj ?_|refine ac ?_|refine ab ?_|refine aD ?_|refine ai rfl rfl rfl ?_|refine ah rfl rfl rfl ?_|refine ky rfl rfl rfl rfl ?_))
 refine f9 [(2,.ptr (nx+1) 0)] rfl rfl (by kernel_rfl) (SlIn.sub ⟨rfl,trivial⟩) ?_
 intro cA cB hcA hcB
 refine Fnc.start Try.func56 rfl rfl ?_
 (repeat(first|refine aj ?_|refine ac ?_|refine ab ?_|refine aD ?_|refine aH rfl rfl rfl (F.ag _ rfl) (by(repeat(first|assumption|refine(Tr.aa _ _ (by omega)).trans ?_));done) (by exact rfl) ?_|(refine kR (b:=b) (m:=m) (c:=c) (enc:=fun x:Int=> .int .i64 x) (val:=val) rfl rfl rfl (F.un _ rfl) (by(repeat(first|assumption|refine(Tr.aa _ _ (by omega)).trans ?_));done) ?_)))
 refine dS (α:=List (Int×V×Nat)) (fun _=> [(0,.yld (nx+1+1+1)),(1,.ptr bx 0),(5,.ptr (nx+1+1+1+1) 0)]) (fun done H1 nx1=>(done.Nodup∧ ∀ x∈done,x∈m)∧nx+1+1+1+1+1≤nx1∧(∀ n,n<nx→H1.at' n=H.at' n)∧H1.at' (nx+1+1)=some (.dfd (some []))∧H1.at' (nx+1+1+1)=some (.loop .ready none 61 13 (slT [(2,.ptr (nx+1) 0)]) #[7] cA cB (nx+1+1))
  ∧ H1.at' (nx+1+1+1+1)=some (itV b c done)∧ ∃ r,r<nx1∧(r=nx∨nx+1+1+1+1+1≤r)∧H1.at' (nx+1)=some (ak 33 [.slu r 0 (done.map (·.1)).length])∧H1.at' r=some (fX false (done.map (·.1)))) (fun done=>m.length-done.length) []
  ⟨⟨List.nodup_nil,fun _ h=>by cases h⟩,zA _,fun n hn=>by(focus((repeat(refine(Tr.aa _ _ (by omega)).trans ?_));exact rfl)),by(focus((repeat(first|exact Tr.ae _ _ _|refine(Tr.aa _ _ (by omega)).trans ?_));done)),by(focus((repeat(first|exact Tr.ae _ _ _|refine(Tr.aa _ _ (by omega)).trans ?_));done)),by(focus((repeat(exact Tr.ae _ _ _));done)),nx,by omega,.inl rfl,by(focus((repeat(first|exact Tr.ae _ _ _|refine(Tr.aa _ _ (by omega)).trans ?_));done)),by(focus((repeat(first|exact Tr.ae _ _ _|refine(Tr.aa _ _ (by omega)).trans ?_));done))⟩ (SlIn.sub ⟨rfl,rfl,rfl,trivial⟩) ?_
 rintro done H1 nx1 ⟨hdn,hnx,hold,h4,h5,h6,r,hr,hr2,h3,hrow⟩ ih
 have hlen:=dH done m hdn.1 hdn.2
 have hb1:H1.at' b=some (eK (fun x:Int=> .int .i64 x) val m c):=(hold b g2).trans hb
 have hbx1:H1.at' bx=some (ak 61 [.mp b]):=(hold bx g1).trans hbx
 (repeat(first|refine aj ?_|refine ac ?_))
 refine l5 (b:=b) (m:=m) (c:=c) (enc:=fun x:Int=> .int .i64 x) (val:=val) (done:=done) rfl rfl rfl ?_ ?_ hok hdn ?_ ?_
 ·assumption
 ·assumption
 ·intro hp
  (repeat(first|refine aj ?_|refine ab ?_|refine aU rfl ?_|refine an rfl ?_|refine eR rfl rfl rfl rfl ?_))
  apply dU Try.func56 (congrArg Array.toList Try.results56) ResIs.nil
  dsimp only
  refine im h5 (fun h=>by cases h) ?_
  (repeat(first|refine aj ?_|refine ac ?_|refine ab ?_|refine ay ?_|refine ah rfl rfl rfl ?_|refine aH rfl rfl rfl (F.ag _ rfl) (by(repeat(first|assumption|refine(Tr.aa _ _ (by omega)).trans ?_));done) (by exact rfl) ?_))
  refine ql Try.func61 (congrArg Array.toList Try.results61) (rs:= [nx+1+1]) rfl (fun r hr=>by rw [List.mem_singleton] at hr;subst hr;(focus((repeat(first|assumption|refine(Tr.aa _ _ (by omega)).trans ?_));done))) (by simp) ?_
  intro H2 hH2
  refine⟨_,(by(repeat(first|exact ResIs.nil|apply ResIs.tmp rfl))),?_⟩
  dsimp only
  (repeat(first|refine ab ?_|refine ah rfl rfl rfl ?_))
  apply aS Try.func54 (congrArg Array.toList Try.results54)
  ·(repeat(first|exact ResIs.nil|apply ResIs.tmp rfl))
  refine⟨done,r,hp,rfl,by omega,hr,?_,fun n hn=>?_⟩
  ·exact(hH2 r (by simp;omega)).trans (by(repeat(first|assumption|refine(Tr.aa _ _ (by omega)).trans ?_));done)
  ·refine(hH2 n (by simp;omega)).trans ((Tr.aa _ _ (by omega)).trans (hold n hn))
 ·intro x hx hxn hdn2
  have hlm:(done.map (·.1)).length=done.length:=List.length_map ..
  have hlen2:=dH _ m hdn2.1 hdn2.2
  rw [zE,List.length_singleton] at hlen2
  (repeat(first|refine aj ?_|refine ac ?_|refine ab ?_|refine aD ?_|refine aE ?_|refine ar rfl ?_|refine ai rfl rfl rfl ?_|refine ah rfl rfl rfl ?_|refine bM rfl rfl rfl rfl ?_|(refine jL (b:=b) (m:=m) (c:=c) (enc:=fun x:Int=> .int .i64 x) (val:=val) (x:=x) (done:=done) rfl rfl rfl ?_ ?_ hok hx ?_;(focus((repeat(exact Tr.ae _ _ _));done));(focus((repeat(first|assumption|refine(Tr.aa _ _ (by omega)).trans ?_));done)))))
  refine mu (n:=nx+1+1+1) rfl rfl rfl rfl (by(repeat(first|assumption|refine(Tr.aa _ _ (by omega)).trans ?_));done) (by exact rfl) ?_
  refine ka hcA ?_
  (repeat(first|refine ac ?_|refine ab ?_|refine ah rfl rfl rfl ?_))
  refine mr (by(repeat(first|assumption|refine(Tr.aa _ _ (by omega)).trans ?_));done) ?_
  refine ka hcB ?_
  (repeat(first|refine ac ?_|refine aD ?_|refine ai rfl rfl rfl ?_|refine aH rfl rfl rfl (F.ag _ rfl) (by(repeat(first|assumption|refine(Tr.aa _ _ (by omega)).trans ?_));done) (by exact rfl) ?_|refine gK rfl rfl (F.un _ rfl) (F.sz _ rfl) rfl (F.ze _ rfl) rfl rfl rfl rfl rfl ?_))
  refine wt (b:=8) (xs:=done.map (·.1)) (a:=x.1) rfl rfl rfl rfl (F.un _ rfl) (.inl ⟨_,F.un _ rfl⟩) (F.sz _ rfl) rfl (by kernel_rfl) (by kernel_rfl) (by(repeat(first|assumption|refine(Tr.aa _ _ (by omega)).trans ?_));done) (by(repeat(exact Tr.ae _ _ _));done) (by exact rfl) (uu) (by omega) (by omega) ?_
  (repeat(first|refine ab ?_|refine ay ?_|refine be rfl rfl rfl rfl (F.sz _ rfl) (by first|exact rfl|(focus((repeat(first|assumption|refine(Tr.aa _ _ (by omega)).trans ?_|refine(Tr.a8 _ (by omega)).trans ?_));done))) rfl (by exact zj rfl) rfl ?_))
  refine il (by(repeat(first|exact Tr.ae _ _ _|refine(Tr.aa _ _ (by omega)).trans ?_|refine(Tr.a8 _ (by omega)).trans ?_));done) ?_
  dsimp only
  (repeat(first|refine ab ?_|refine ay ?_|refine aE ?_|refine an rfl ?_|refine dg rfl rfl rfl ?_))
  have e:done.map (·.1) ++ [x.1]=(done ++ [x]).map (·.1):=by simp
  refine ih _ _ _ (done ++ [x]) ⟨hdn2,by omega,fun n hn=>?_,by(focus((repeat(first|assumption|refine(Tr.aa _ _ (by omega)).trans ?_|refine(Tr.a8 _ (by omega)).trans ?_));done)),by(focus((repeat(exact Tr.ae _ _ _));done)),by(focus((repeat(first|exact Tr.ae _ _ _|refine(Tr.aa _ _ (by omega)).trans ?_|refine(Tr.a8 _ (by omega)).trans ?_));done)),nx1+1,by omega,.inr (by omega),?_,?_⟩ (by simp only [zE,List.length_singleton];omega) (SlIn.sub ⟨rfl,rfl,rfl,trivial⟩)
  ·(focus((repeat(first|refine(Tr.aa _ _ (by omega)).trans ?_|refine(Tr.a8 _ (by omega)).trans ?_));exact hold n hn))
  ·rw [← e]
   (focus((repeat(first|exact Tr.ae _ _ _|refine(Tr.aa _ _ (by omega)).trans ?_));done))
  ·rw [← e]
   (focus((repeat(first|exact Tr.ae _ _ _|refine(Tr.aa _ _ (by omega)).trans ?_));done))
def kZ(l:List Int):List Int:=(Sort.sort bh l.toArray).toList
theorem gT(l:List Int):(kZ l).Perm l∧(kZ l).Pairwise (fun x y=>bh y x=false):=by
 obtain⟨⟨h1,h2,h3⟩,h4⟩:=Sort.sort_sorts bh rN l.toArray
 have hsz:(Sort.sort bh l.toArray).size=l.length:=by simpa using h1
 constructor
 ·have e1:((Sort.sort bh l.toArray).extract 0 l.toArray.size)=Sort.sort bh l.toArray:=by
   rw [show l.toArray.size=(Sort.sort bh l.toArray).size by simpa using h1.symm]
   exact Array.extract_size
  have e2:(l.toArray.extract 0 l.toArray.size)=l.toArray:=Array.extract_size
  rw [e1,e2] at h3
  exact h3
 ·rw [List.pairwise_iff_getElem]
  intro i j hi hj hij
  have hi':i<(Sort.sort bh l.toArray).size:=hi
  have hj':j<(Sort.sort bh l.toArray).size:=hj
  have:=h4 i j (zB _) hij (by simp;omega)
  rw [getElem!_pos _ i hi',getElem!_pos _ j hj'] at this
  simp only [kZ,Array.getElem_toList]
  exact this
theorem jo(l:List Int):(kZ l).length=l.length:=(gT l).1.length_eq
theorem vF(n:Nat)(d:Array Int)(hn:n<65536)(hd:d.size=n) :
 Ctr Try.prog 55 [.slu 0 0 n] [bH n d] (fun c=>c=⟨.tup [],[some (bH n (Sort.sort bh d))]⟩):=by
 have h16:=kw hn
 refine Fnc.start Try.func55 rfl rfl ?_
 have hp:=pS n hn n 0 n (Sort.bitsLen n) d rfl (zB _) (zA _) hd (by omega) (.inl rfl)
 have hs:Sort.pdq bh d 0 n (Sort.bitsLen n) true true=Sort.sort bh d:=by unfold Sort.sort;rw [hd]
 rw [hs] at hp
 (repeat(first|refine aj ?_|refine ac ?_|refine ab ?_|refine ai rfl rfl rfl ?_|refine ah rfl rfl rfl ?_|refine dA rfl rfl rfl (F.un _ rfl) ?_|refine gI rfl rfl rfl (F.un _ rfl) (F.un _ rfl) (show _=(n:Int)from Go.IntWalk.u64_in _ ⟨by omega,by omega⟩) ?_|refine gJ (mS n hn) [] rfl rfl rfl (by kernel_rfl) rfl (ExtOk.of rfl) rfl trivial ?_|refine aV rfl rfl rfl (by kernel_rfl) (Ctr.bA (hp) [0] rfl (ExtOk.of rfl) rfl (by repeat(first|exact trivial|refine⟨am rfl,?_⟩)) rfl (by repeat(first|exact trivial|refine⟨aP,?_⟩)) (fun _=>rfl) rfl rfl) ?_))
 ((apply dU Try.func55 (congrArg Array.toList Try.results55));(focus(repeat(exact ResIs.nil)));refine⟨_,rfl,Ends.mk [] (ExtOk.of rfl) rfl rfl ?_⟩)
 exact(by repeat(first|exact trivial|refine⟨am rfl,?_⟩))
theorem vE{V:Type}(val:V→SV)(m:List (Int×V×Nat))(c:Nat)(hok:KOk m c)(hl:m.length<60000){H:aK}{nx bx b:Nat}(hbx:H.at' bx=some (ak 61 [.mp b]))(hb:H.at' b=some (eK (fun x:Int=> .int .i64 x) val m c))(g1:bx<nx)(g2:b<nx) :
 Fnc Try.prog 36 [.fn (.func 56) [] [.ptr bx 0]] H nx
  (fun r=> ∃ nm ks,ks.Perm (m.map (·.1))∧ks.Pairwise (fun x y=>bh y x=false)∧r.1 = .slu nm 0 ks.length∧nx≤nm∧nm<r.2.2∧r.2.1.at' nm=some (fX false ks)∧ ∀ n,n<nx→r.2.1.at' n=H.at' n):=by
 refine Fnc.start Try.func36 rfl rfl ?_
 (repeat(first|refine aj ?_|refine ac ?_|refine ab ?_|refine ai rfl rfl rfl ?_|refine ah rfl rfl rfl ?_))
 refine aQ rfl rfl rfl (by kernel_rfl) (Fnc.mono (collI val m c hok (by omega) hbx hb g1 g2) ?_)
 rintro⟨_,H1,n1⟩ ⟨done,nm,hp,rfl,h1,h2,h3,h4⟩
 dsimp only at h1 h2 h3 h4 ⊢
 have hpm:(done.map (·.1)).Perm (m.map (·.1)):=hp.map _
 have hlen:(done.map (·.1)).length=m.length:=by rw [hpm.length_eq,List.length_map]
 generalize done.map (·.1)=ks at h3 hlen hpm ⊢
 have h3':H1.at' nm=some (bH ks.length ks.toArray):=h3
 have hs:=vF ks.length ks.toArray (by omega) (by simp)
 have hrow:bH ks.length (Sort.sort bh ks.toArray)=fX false (kZ ks):=by
  have:(kZ ks).length=ks.length:=jo ks
  show dat false ks.length 1 3 _=dat false (kZ ks).length 1 3 _
  rw [this]
  rfl
 have hsl:=jo ks
 rw [hrow] at hs
 (repeat(first|refine aj ?_|refine ac ?_|refine ab ?_|refine ai rfl rfl rfl ?_|refine ah rfl rfl rfl ?_))
 (refine aQ rfl rfl rfl (by kernel_rfl) (Ctr.wT (hs) [nm] rfl ⟨by intro n hn;simp at hn;omega,by simp;try omega⟩ rfl (by repeat(first|exact trivial|refine⟨am (by assumption),?_⟩)) ?_);rintro _ rfl;refine⟨_,0,[nm],[some _],rfl,(by repeat(first|exact trivial|refine⟨mC _ _ _ _ _ _,?_⟩)),rfl,rfl,?_⟩;dsimp only [wrL])
 (repeat(first|refine aj ?_|refine ac ?_|refine ab ?_|refine ai rfl rfl rfl ?_|refine ah rfl rfl rfl ?_))
 ((apply aS Try.func36 (congrArg Array.toList Try.results36));(focus(repeat(first|exact ResIs.nil|apply ResIs.tmp rfl))))
 rw [← hsl]
 exact⟨nm,_,(gT ks).1.trans hpm,(gT ks).2,rfl,h1,h2,Tr.ae _ _ _,fun n hn=>(Tr.aa _ _ (by omega)).trans (h4 n hn)⟩
theorem at_ii{l:List Int}{i:Nat}(hi:i<l.length):(l.flatMap ni)[i*1]? =some (.int .i64 l[i]):=by
 have e: ∀ l:List Int,l.flatMap ni=l.map fun n:Int=>Value.int .i64 n:=fun l=>by
  induction l with
  | nil=>rfl
  | cons x l ih=>rw [List.flatMap_cons,ih];rfl
 rw [e,Nat.mul_one,List.getElem?_map,zh hi]
 rfl
theorem y7{l:List Nat}{i:Nat}(hi:i<l.length):(l.flatMap iV)[i*1]? =some (.int .i64 (l[i]:Int)):=by
 have e: ∀ l:List Nat,l.flatMap iV=l.map fun n:Nat=>Value.int .i64 (n:Int):=fun l=>by
  induction l with
  | nil=>rfl
  | cons x l ih=>rw [List.flatMap_cons,ih];rfl
 rw [e,Nat.mul_one,List.getElem?_map,zh hi]
 rfl
theorem rT{no:Bool}{s s1 s2:Sec}(h:lost no s s1)(h2:lost no s1 s2):lost no s s2:=by
 refine⟨h2.1,?_⟩
 rcases h2.2 with e|⟨_,e⟩
 ·rw [e]
  exact h.2
 ·rw [h.1] at e
  cases e
theorem Half.lose2{no:Bool}{P:ByteArray→Int→Prop}{D E:DD}(h:Half no P D E){k:ByteArray}{m:List (Int×Sec)}{n:Int}{s1 s':Sec}(hm:a6 D.files k=some m)(h1:E.sec k n=some s1)(hl:lost no s1 s'):Half no (fun k' n'=>(k'=k∧n'=n)∨P k' n') D (E.lay k n fun _=>s'):=by
 obtain⟨m',a1,a2,a3⟩:=h.secs k m hm
 unfold DD.sec at h1
 rw [a1] at h1
 simp only at h1
 have hk:n∈m.map (·.1):=by
  rw [← a2]
  exact dj h1
 obtain⟨s,hs⟩:=dI hk
 obtain⟨s'',e1,e2,e3⟩:=a3 n s hs
 rw [h1] at e1
 cases e1
 refine h.lose hm hs ?_
 by_cases hp:P k n
 ·exact rT (e2 hp) hl
 ·rw [← e3 hp]
  exact hl
theorem Half.wr{no:Bool}{P:ByteArray→Int→Prop}{D E:DD}(h:Half no P D E){k:ByteArray}{m:List (Int×Sec)}{n:Int}{s1:Sec}{N:Nat}(hm:a6 D.files k=some m)(h1:E.sec k n=some s1)(hw: ∀ s,a6 m n=some s→s.writes.length≤N):s1.writes.length≤N:=by
 obtain⟨m',a1,a2,a3⟩:=h.secs k m hm
 unfold DD.sec at h1
 rw [a1] at h1
 simp only at h1
 have hk:n∈m.map (·.1):=by
  rw [← a2]
  exact dj h1
 obtain⟨s,hs⟩:=dI hk
 obtain⟨s'',e1,e2,e3⟩:=a3 n s hs
 rw [h1] at e1
 cases e1
 by_cases hp:P k n
 ·rw [(e2 hp).1]
  exact zB _
 ·rw [e3 hp]
  exact hw s hs
theorem qc{d:Nat}{D:DD}{Fp:Nat→Prop}{H:aK}{nx N:Nat}{v:SV}{l:List Int}(hD:DAt d D Fp H)(hok:D.Ok N)(hN:N<60000)(hp:PickIs H v l):Fnc Try.prog 17 [.ptr d 0,v] H nx
 (fun q=> ∃ x D' F',q.1 = .ptr x 0∧DAt x D' F' q.2.1∧D.Lost l.isEmpty D'∧(∀ k n m s s',we D k n→a6 D.files k=some m→a6 m n=some s→s.writes≠ []→D'.sec k n=some s'→s'.lasts=gD l s)∧(∀ z,F' z→nx≤z∧z<q.2.2)∧nx≤q.2.2∧ ∀ z,z<nx→q.2.1.at' z=H.at' z):=by
 refine Fnc.start Try.func17 rfl rfl ?_
 refine b7 fun hund=>?_
 have hlt:=hD.lt hund
 have hc:v.cells= [v]:=by
  rcases hp with ⟨a,c,rfl,_⟩|⟨b,o,c,rfl,_⟩|⟨b,eo,ro,ne,rt,vs,rfl,_⟩ <;> rfl
 (repeat(first|(refine ky rfl rfl rfl hc ?_)|refine aj ?_|refine ac ?_|refine ab ?_|(apply ai;exact rfl;exact rfl;exact rfl)|(apply ah;exact rfl;exact rfl;exact rfl)))
 refine aQ rfl rfl rfl (by kernel_rfl) (Fnc.mono (y5 (hD.frame fun z hz=>by have:=hlt z hz;(focus((repeat(refine(Tr.aa _ _ (by omega)).trans ?_));exact rfl))) hok (by omega)) ?_)
 rintro⟨_,H1,n1⟩ ⟨x,D1,F1,rfl,hA,hcop,hF1,hn1,hold⟩
 dsimp only at hA hF1 hn1 hold ⊢
 have hx:H1.at' nx=some (ak 33 [v]):=(hold nx (by omega)).trans (by(repeat(exact Tr.ae _ _ _));done)
 have hold1: ∀ z,z<nx→H1.at' z=H.at' z:=fun z hz=>(hold z (by omega)).trans (by(repeat(refine(Tr.aa _ _ (by omega)).trans ?_));exact rfl)
 have hp1:=hp.frame hund hold1
 have lx:x<n1:=by
  obtain⟨mp,m,c,G,h,hF⟩:=hA
  exact(hF1 x ((hF x).2 (.inl rfl))).2
 clear hold
 (repeat(first|refine aj ?_|refine ac ?_|refine ab ?_|refine aE ?_|refine an rfl ?_|(apply fy;exact rfl;exact rfl;exact rfl;exact rfl;exact(F.un _ rfl);exact rfl)|refine be rfl rfl rfl rfl (F.sz _ rfl) (by(repeat(first|assumption|exact Tr.ae _ _ _));done) rfl (by exact zj rfl) rfl ?_|(apply cx;exact rfl;exact rfl;exact(F.zl _ rfl))|refine aH rfl rfl rfl (F.ag _ rfl) (by(repeat(first|assumption|exact Tr.ae _ _ _));done) (by exact rfl) ?_))
 refine ee (R:=fun H2 n2=>n2=n1+1∧H2.at' n1=some (ak 25 [.ptr x 0])∧ ∀ z,z<n1→H2.at' z=H1.at' z) ⟨rfl,by(focus((repeat(exact Tr.ae _ _ _));done)),fun z hz=>by(focus((repeat(refine(Tr.aa _ _ (by omega)).trans ?_));exact rfl))⟩ ?_
 rintro H2 n2 ⟨rfl,h5,hold2⟩
 obtain⟨mp,m,c,G,h,hF⟩:=id hA
 have hbox:H2.at' x=some (ak 58 (dkC D1 mp)):=(hold2 x lx).trans h.box
 (apply dp;(focus(kernel_rfl));(focus(kernel_rfl)))
 (repeat(first|(apply bl;exact rfl;exact rfl;exact rfl)|(apply aW;exact rfl;exact rfl;exact rfl;exact(F.fo _ _ rfl rfl))|refine fT rfl rfl rfl rfl (F.sz _ rfl) (by(repeat(first|assumption|exact Tr.ae _ _ _));done) rfl (by exact zj rfl) rfl ?_|(refine bP rfl rfl rfl (F.ag _ rfl) h5 (aN rfl) ?_)))
 (refine aF ?_);(refine⟨by kernel_rfl,?_,?_⟩);(focus(repeat(first|exact trivial|refine⟨.inl (cj rfl),?_⟩|refine⟨.inr ⟨0,by kernel_rfl,AllH.all (fun _=>(by first|exact bv rfl|exact bc (F.fo _ _ rfl rfl) rfl)) _⟩,?_⟩|refine⟨.inr ⟨0,by kernel_rfl,(by(refine⟨(by(exact aO (F.ag _ rfl) rfl (by(repeat(first|assumption|refine(Tr.aa _ _ (by omega)).trans ?_));done) (aN rfl))),?_⟩;(repeat(refine⟨(by(exact aO (F.ag _ rfl) rfl (by(repeat(first|assumption|refine(Tr.aa _ _ (by omega)).trans ?_));done) (aN rfl))),?_⟩));exact trivial))⟩,?_⟩)))
 dsimp only [wrL]
 refine ee (R:=fun H3 n3=>n3=n1+1∧H3.at' n1=some (ak 25 [.ptr x 0])∧H3.at' x=some (ak 58 (dkC D1.up mp))∧ ∀ z,z<n1→z≠x→H3.at' z=H1.at' z) ⟨rfl,by(focus((repeat(first|assumption|refine(Tr.aa _ _ (by omega)).trans ?_));done)),(Tr.ae _ _ _).trans rfl,fun z hz hn=>by(focus((repeat(refine(Tr.aa _ _ (by omega)).trans ?_));exact hold2 z hz))⟩ ?_
 clear hold2 h5 hbox
 rintro H3 n3 ⟨rfl,h5,hbox,hold3⟩
 have hA3:DAt x D1.up F1 H3:=⟨mp,m,c,G,⟨hbox,?_,h.ok,Big.frame dO _ _ _ _ h.big fun z hz=>?_,h.fl,h.ne,h.nd,h.nm,h.cap⟩,hF⟩
 rotate_left
 ·exact(hold3 mp (hF1 mp ((hF mp).2 (.inr (.inl rfl)))).2 (Ne.symm h.ne)).trans h.map
 ·exact hold3 z (hF1 z ((hF z).2 (.inr (.inr hz)))).2 (fun e=>h.nd (e ▸ hz))
 have hok1:=hcop.ok hok
 clear hbox
 (repeat(first|refine aj ?_|refine ac ?_|refine aH rfl rfl rfl (F.ag _ rfl) (by assumption) (by exact rfl) ?_))
 refine aQ rfl rfl rfl (by kernel_rfl) (Fnc.mono (t8 hA3 hok1 (by omega)) ?_)
 rintro⟨_,H4,n4⟩ ⟨y1,y2,ks,rfl,hks,hpw,hfa,hn4,hold4⟩
 dsimp only at hfa hn4 hold4 ⊢
 (repeat(first|refine ab ?_|refine aD ?_))
 obtain⟨⟨lx1,lx2⟩,⟨ly1,ly2⟩,⟨r,r1,r2,hn1r,hrow⟩,⟨vc,hcnt,hcv⟩,hlen⟩:=hfa
 have hk5:H4.at' n1=some (ak 25 [.ptr x 0]):=(hold4 n1 (by omega)).trans h5
 have hx4:H4.at' nx=some (ak 33 [v]):=(hold4 nx (by omega)).trans ((hold3 nx (by omega) (fun e=>by have:=(hF1 x ((hF x).2 (.inl rfl))).1;omega)).trans hx)
 have hold5: ∀ z,z<nx→H4.at' z=H.at' z:=fun z hz=>(hold4 z (by omega)).trans ((hold3 z (by omega) (fun e=>by have:=(hF1 x ((hF x).2 (.inl rfl))).1;omega)).trans (hold1 z hz))
 have hp4:PickIs H4 v l:=hp.frame hund hold5
 have hA4:DAt x D1.up F1 H4:=hA3.frame fun z hz=>hold4 z (by have:=hF1 z hz;omega)
 refine f9 [(3,.ptr nx 0),(5,.ptr n1 0)] rfl rfl (by kernel_rfl) (SlIn.sub (by repeat(first|exact trivial|refine⟨rfl,?_⟩))) ?_
 intro cA cB hcA hcB
 refine Fnc.start Try.func34 rfl rfl ?_
 (repeat(first|refine aj ?_|refine ac ?_|refine ab ?_|refine aD ?_|(apply ai;exact rfl;exact rfl;exact rfl)|refine aH rfl rfl rfl (F.ag _ rfl) (by(repeat(first|assumption|refine(Tr.aa _ _ (by omega)).trans ?_));done) (by exact rfl) ?_|(apply dA;exact rfl;exact rfl;exact rfl;exact(F.un _ rfl))))
 refine dS (α:=Nat) (fun q=> [(0,.yld (n4+1)),(1,.ptr y1 0),(2,.ptr y2 0),(6,.slu r 0 ks.length),(7,.sc (.int .i64 (ks.length:Int))),(8,.sc (.int .i64 (q:Int)))]) (fun q H5 n5=>q≤ks.length∧n4+1+1≤n5∧H5.at' n4=some (.dfd (some []))∧H5.at' (n4+1)=some (.loop .ready none 17 91 (slT [(3,.ptr nx 0),(5,.ptr n1 0)]) #[27,28] cA cB n4)∧(∃ v' l',H5.at' nx=some (ak 33 [v'])∧PickIs H v' l'∧PkL l (fun k _=>k∈ks.take q) D1 l')∧(∃ E F5,DAt x E F5 H5∧HalfL l (fun k _=>k∈ks.take q) D1 E∧ ∀ z,F5 z→F1 z)∧ ∀ z,z<n4→z≠nx→ ¬ F1 z→H5.at' z=H4.at' z) (fun q=>ks.length-q) 0
  ⟨zB _,zA _,by(focus((repeat(first|exact Tr.ae _ _ _|refine(Tr.aa _ _ (by omega)).trans ?_));done)),by(focus((repeat(exact Tr.ae _ _ _));done)),⟨v,l,by(focus((repeat(refine(Tr.aa _ _ (by omega)).trans ?_));exact hx4)),hp,PkL.start _ _ _⟩,⟨D1.up,F1,hA4.frame fun z hz=>by have:=hF1 z hz;(focus((repeat(refine(Tr.aa _ _ (by omega)).trans ?_));exact rfl)),(HalfL.start _ D1).iff fun _ _ _ _ _ _=>by simp,fun _ h=>h⟩,fun z hz _ _=>by(focus((repeat(refine(Tr.aa _ _ (by omega)).trans ?_));exact rfl))⟩ (SlIn.sub (by repeat(first|exact trivial|refine⟨rfl,?_⟩))) ?_
 rintro q H5 n5 ⟨e1,e2,e3,e4,⟨v',l',e5,e6,e7⟩,⟨E,F5,hE,hH,hF5⟩,e8⟩ ih
 (repeat(first|refine aj ?_|refine ac ?_))
 have e9: ∀ z,z<nx→H5.at' z=H.at' z:=fun z hz=>(e8 z (by omega) (by omega) (fun h=>by have:=hF1 z h;omega)).trans (hold5 z hz)
 have e10:H5.at' n1=some (ak 25 [.ptr x 0]):=(e8 n1 (by omega) (by omega) (fun h=>by have:=hF1 _ h;omega)).trans hk5
 (apply cF;exact rfl;exact rfl;exact rfl;exact rfl)
 all_goals intro h2
 ·have hq:q<ks.length:=by omega
  have hcs:(ks.map D1.up.cnt).length=ks.length:=List.length_map ..
  obtain⟨rc,rc1,rc2,rfl,hrc⟩: ∃ rc,n1+1≤rc∧rc<n4∧vc = .slu rc 0 (ks.map D1.up.cnt).length∧H4.at' rc=some (iR false (ks.map D1.up.cnt)):=by
   rcases hcv with ⟨_,h⟩|h
   ·rw [h] at hcs
    simp at hcs
    omega
   ·exact h
  have far: ∀ z,n1<z→z<n4→H5.at' z=H4.at' z:=fun z h1 h2=>e8 z h2 (by omega) (fun h=>by have:=hF1 z h;omega)
  have g1:=(far y1 (by omega) (by omega)).trans hn1r
  have g2:=(far y2 (by omega) (by omega)).trans hcnt
  have g3:=(far r (by omega) (by omega)).trans hrow
  have g4:=(far rc (by omega) (by omega)).trans hrc
  (repeat(first|refine aj ?_|refine ac ?_|refine ab ?_|refine aD ?_|refine aE ?_|refine ar rfl ?_|(apply ai;exact rfl;exact rfl;exact rfl)|(apply ah;exact rfl;exact rfl;exact rfl)|refine aH rfl rfl rfl (F.ag _ rfl) (by assumption) (by exact rfl) ?_|refine kb (q:=q) rfl rfl rfl rfl (F.un _ rfl) (F.sz _ rfl) (by assumption) (by omega) (by(omega)) (zA _) ?_|(refine fj rfl rfl rfl (F.ag _ rfl) g3 (rm hq) (by omega) ?_)|(refine fy rfl rfl rfl rfl Try.underlying70 rfl ?_)|(refine fj rfl rfl rfl (F.ag _ rfl) g4 (y7 (by omega)) (by omega) ?_)))
  refine mu (n:=n4+1) rfl rfl rfl rfl (by assumption) (by exact rfl) ?_
  refine ka hcA ?_
  (repeat(first|refine ac ?_|refine ab ?_|(apply ah;exact rfl;exact rfl;exact rfl)))
  refine mr (by assumption) ?_
  refine ka hcB ?_
  obtain⟨mp5,m5,c5,G5,h6,hF6⟩:=id hE
  have hkm:ks[q]∈D1.files.map (·.1):=hks.subset (zK hq)
  have hkE:ks[q]∈m5.map (·.1):=by
   have:E.files.map (·.1)=m5.map (·.1):=by rw [h6.fl];simp [kv,Function.comp_def]
   rw [← this,hH.h.keys]
   exact hkm
  obtain⟨z0,hz0,hz1⟩:=List.mem_map.1 hkE
  have hg0:=fv h6.ok.keys hz0
  rw [hz1] at hg0
  obtain⟨_,⟨fn,lf⟩,_⟩:=z0
  dsimp only at hg0
  obtain⟨ms,m2,c2,G2,R,hf,rfl,hR,hd,hG⟩:=h6.file hg0
  clear hz0 hz1 hkE
  obtain⟨m1,hm1⟩:=dI hkm
  obtain⟨m1',hm2,hm3,hm4⟩:=hH.h.secs _ m1 hm1
  rw [h6.fl,dR,hg0] at hm2
  cases hm2
  have hl2:m2.length=m1.length:=by
   have:=congrArg List.length hm3
   simpa [kv] using this
  have hl1:m1.length≤N:=zI (by have:=eZ hm1 [];rw [List.length_nil] at this;show m1.length≤cb D1.files;omega) hok1.f.used
  refine ee (R:=fun H6 n6=>n6=n5∧H6.at' (n4+1)=some (.loop .busy none 17 91 (slT [(3,.ptr nx 0),(5,.ptr n1 0)]) #[27,28] cA cB n4)∧ ∀ z,z≠n4+1→H6.at' z=H5.at' z) ⟨rfl,by(focus((repeat(exact Tr.ae _ _ _));done)),fun z hz=>by(focus((repeat(refine(Tr.aa _ _ (by omega)).trans ?_));exact rfl))⟩ ?_
  rintro H6 n6 ⟨rfl,f1,f2⟩
  have fF: ∀ z,F5 z→z<n1∧nx<z:=fun z hz=>by have:=hF1 z (hF5 z hz);omega
  have lx6:=fF x ((hF6 x).2 (.inl rfl))
  have lm6:=fF mp5 ((hF6 mp5).2 (.inr (.inl rfl)))
  have lf6:=fF fn ((hF6 fn).2 (.inr (.inr ((hG fn).2 (.inl (.inl rfl))))))
  have ls6:=fF ms ((hF6 ms).2 (.inr (.inr ((hG ms).2 (.inl (.inr (.inl rfl)))))))
  have b1:=(f2 x (by omega)).trans h6.box
  have b2:=(f2 mp5 (by omega)).trans h6.map
  have b3:=(f2 fn (by omega)).trans hf.box
  have b4:=(f2 ms (by omega)).trans hf.map
  have b5:=(f2 n1 (by omega)).trans e10
  have b6:=(f2 nx (by omega)).trans e5
  (repeat(first|refine aj ?_|refine ac ?_|refine ab ?_|refine aD ?_|(apply ai;exact rfl;exact rfl;exact rfl)|(apply ah;exact rfl;exact rfl;exact rfl)|(apply aR;exact rfl;exact rfl;exact rfl)|(apply aJ;exact rfl;exact rfl;exact rfl;exact(F.fo _ _ rfl rfl))|refine aH rfl rfl rfl (F.ag _ rfl) (by assumption) (by exact rfl) ?_|refine fx (m:=m5) (enc:=kE) (val:=f8) rfl rfl rfl rfl (F.un _ rfl) (kK) (by assumption) (hg0) ?_))
  (repeat(refine aQ rfl rfl rfl (by kernel_rfl) (Fnc.mono (r6 iS m2 c2) ?_);rintro _ rfl;dsimp only))
  have hl6:m2.length<60000:=by omega
  refine aQ rfl rfl rfl (by kernel_rfl) (Fnc.mono (vE iS m2 c2 hf.ok hl6 (by(repeat(exact Tr.ae _ _ _));done) (b:=ms) (by(repeat(refine(Tr.aa _ _ (by omega)).trans ?_));exact b4) (by omega) (by omega)) ?_)
  rintro⟨_,H7,n7⟩ ⟨nm,ns,hns,hpn,rfl,u1,u2,u3,u4⟩
  dsimp only at u1 u2 u3 u4 ⊢
  (repeat(first|refine ab ?_|refine aD ?_|(apply ai;exact rfl;exact rfl;exact rfl)|(apply dA;exact rfl;exact rfl;exact rfl;exact(F.un _ rfl))))
  refine dS (α:=Nat) (fun j=> [(3,.ptr nx 0),(5,.ptr n1 0),(6,.sc (kE ks[q])),(7,.ptr fn 0),(40,.slu nm 0 ns.length),(41,.sc (.int .i64 (ns.length:Int))),(42,.sc (.int .i64 (j:Int)))]) (fun j H8 n8=>j≤ns.length∧n7≤n8∧H8.at' (n4+1)=some (.loop .busy none 17 91 (slT [(3,.ptr nx 0),(5,.ptr n1 0)]) #[27,28] cA cB n4)∧H8.at' nm=some (fX false ns)∧(∃ v' l',H8.at' nx=some (ak 33 [v'])∧PickIs H v' l'∧PkL l (fun k n=>k∈ks.take q∨(k=ks[q]∧n∈ns.take j)) D1 l')∧(∃ E' F8,DAt x E' F8 H8∧HalfL l (fun k n=>k∈ks.take q∨(k=ks[q]∧n∈ns.take j)) D1 E'∧ ∀ z,F8 z→F1 z)∧(H8.at' x=H6.at' x∧H8.at' mp5=H6.at' mp5∧H8.at' fn=H6.at' fn∧H8.at' ms=H6.at' ms)∧ ∀ z,z≤n4→z≠nx→ ¬ F1 z→H8.at' z=H5.at' z) (fun j=>ns.length-j) 0
   ⟨zB _,zA _,(u4 _ (by omega)).trans (by(repeat(first|assumption|refine(Tr.aa _ _ (by omega)).trans ?_));done),u3,⟨v',l',(u4 _ (by omega)).trans (by(repeat(refine(Tr.aa _ _ (by omega)).trans ?_));exact b6),e6,e7.iff fun _ _ _ _ _ _ h=> .inl h⟩,⟨E,F5,hE.frame fun z hz=>(u4 z (by have:=fF z hz;omega)).trans ((Tr.aa _ _ (by have:=fF z hz;omega)).trans (f2 z (by have:=fF z hz;omega))),hH.iff fun _ _ _ _ _ _=>by simp,hF5⟩,⟨(u4 _ (by omega)).trans (Tr.aa _ _ (by omega)),(u4 _ (by omega)).trans (Tr.aa _ _ (by omega)),(u4 _ (by omega)).trans (Tr.aa _ _ (by omega)),(u4 _ (by omega)).trans (Tr.aa _ _ (by omega))⟩,fun z hz _ _=>(u4 z (by omega)).trans ((Tr.aa _ _ (by omega)).trans (f2 z (by omega)))⟩ (SlIn.sub (by repeat(first|exact trivial|refine⟨rfl,?_⟩))) ?_
  rintro j H8 n8 ⟨i1,i2,i3,i4,⟨v8,l8,i5,i6,i7⟩,⟨E8,F8,hE8,hH8,hF8⟩,⟨j1,j2,j3,j4⟩,i8⟩ ih2
  (repeat(first|refine aj ?_|refine ac ?_))
  (apply cF;exact rfl;exact rfl;exact rfl;exact rfl)
  all_goals intro h8
  ·have hj:j<ns.length:=by omega
   have hnm:ns[j]∈m2.map (·.1):=hns.subset (zK hj)
   obtain⟨z1,hz1,hz2⟩:=List.mem_map.1 hnm
   have hs0:=fv hf.ok.keys hz1
   rw [hz2] at hs0
   obtain⟨_,⟨p,s0⟩,_⟩:=z1
   dsimp only at hs0
   clear hz1 hz2
   obtain⟨s1,hs1,v1,GW,Rest,p1,p2,p3,p4,p5,p6,p7,p8,p9⟩:=DAt.stay hE8 (j1.trans b1) (j2.trans b2) hg0 (j3.trans b3) (j4.trans b4) hs0
   have k3:=j3.trans b3
   have k4:=j4.trans b4
   have hlp:nx<p∧p<n1:=by have:=hF1 p (hF8 p ((p6 p).2 (.inl rfl)));omega
   (repeat(first|refine aj ?_|refine ac ?_|refine ab ?_|refine aD ?_|refine aE ?_|refine ar rfl ?_|(apply ai;exact rfl;exact rfl;exact rfl)|(apply ah;exact rfl;exact rfl;exact rfl)|(apply aR;exact rfl;exact rfl;exact rfl)|(apply aJ;exact rfl;exact rfl;exact rfl;exact(F.fo _ _ rfl rfl))|refine aH rfl rfl rfl (F.ag _ rfl) (by assumption) (by exact rfl) ?_|refine kb (q:=j) rfl rfl rfl rfl (F.un _ rfl) (F.sz _ rfl) (by assumption) (by omega) (by(omega)) (zA _) ?_|(refine fj rfl rfl rfl (F.ag _ rfl) i4 (at_ii hj) (by omega) ?_)|refine fx (m:=m2) (enc:=iE) (val:=iS) rfl rfl rfl rfl (F.un _ rfl) (iK) (by assumption) (hs0) ?_|(refine kT rfl rfl rfl (F.ag _ rfl) p1 (cv _ _) ?_)))
   have hnl:ns.length<60000:=by
    have:=hns.length_eq
    rw [List.length_map] at this
    omega
   have htk:ns.take (j+1)=ns.take j ++ [ns[j]]:=List.take_succ_eq_append_getElem hj
   have hst: ∀ (k:ByteArray) (n:Int),((k=ks[q]∧n=ns[j])∨(k∈ks.take q∨(k=ks[q]∧n∈ns.take j)))↔(k∈ks.take q∨(k=ks[q]∧n∈ns.take (j+1))):=fun k n=>by
    rw [htk,List.mem_append,List.mem_singleton]
    constructor
    ·rintro(⟨h1,h2⟩|h|⟨h1,h2⟩)
     ·exact .inr ⟨h1,.inr h2⟩
     ·exact .inl h
     ·exact .inr ⟨h1,.inl h2⟩
    ·rintro(h|⟨h1,h2|h2⟩)
     ·exact .inr (.inl h)
     ·exact .inr (.inr ⟨h1,h2⟩)
     ·exact .inl ⟨h1,h2⟩
   rcases p2 with ⟨rfl,hw,_⟩|⟨rw0,rfl,hrw,hGr⟩
   ·(repeat(first|refine ac ?_|refine ab ?_|refine aU rfl ?_|refine ar rfl ?_|(apply ai;exact rfl;exact rfl;exact rfl)|(apply bj;exact rfl;exact rfl;exact rfl;exact rfl;(focus(omega));(focus(omega)))|((apply mv;exact rfl;exact rfl;exact rfl;exact(F.un _ rfl)))|(refine cP rfl rfl rfl rfl (fun _=>?_) (fun hq=>absurd rfl hq))))
    refine ih2 _ _ _ (j+1) ⟨by omega,i2,i3,i4,⟨v8,l8,i5,i6,i7.iff fun k m n s _ _ h=>(hst k n).1 (.inr h)⟩,⟨E8,F8,hE8,(hH8.keep hm1 hs1 hw).iff fun k m n s _ _=>hst k n,hF8⟩,⟨j1,j2,j3,j4⟩,i8⟩ (by omega) (SlIn.sub (by repeat(first|exact trivial|refine⟨rfl,?_⟩)))
   ·(repeat(apply dA;exact rfl;exact rfl;exact rfl;exact(F.un _ rfl)))
    (apply cP;exact rfl;exact rfl;exact rfl;exact rfl)
    all_goals intro h9
    ·have hw:s1.writes= []:=zv (by omega)
     (repeat(first|refine ac ?_|refine ab ?_|refine aU rfl ?_|refine ar rfl ?_|(apply ai;exact rfl;exact rfl;exact rfl)|(apply bj;exact rfl;exact rfl;exact rfl;exact rfl;(focus(omega));(focus(omega)))))
     refine ih2 _ _ _ (j+1) ⟨by omega,i2,i3,i4,⟨v8,l8,i5,i6,i7.iff fun k m n s _ _ h=>(hst k n).1 (.inr h)⟩,⟨E8,F8,hE8,(hH8.keep hm1 hs1 hw).iff fun k m n s _ _=>hst k n,hF8⟩,⟨j1,j2,j3,j4⟩,i8⟩ (by omega) (SlIn.sub (by repeat(first|exact trivial|refine⟨rfl,?_⟩)))
    ·(repeat(first|refine aj ?_|refine ac ?_|refine ab ?_|refine aE ?_|refine an rfl ?_|refine aH rfl rfl rfl (F.ag _ rfl) (by assumption) (by exact rfl) ?_))
     have nmp:mp5≠p:=fun e=>by
      have:=j2.trans b2
      rw [e,p1] at this
      cases this
     have nms:ms≠p:=fun e=>by
      have:=k4
      rw [e,p1] at this
      cases this
     have nfn:fn≠p:=fun e=>by
      have:=k3
      rw [e,p1] at this
      exact absurd (congrArg (fun o:Option VO=>match o with|some (VO.cells _ t _)=>t|_=>0) this) (by decide: ¬ ((80:TypeId)=63))
     have nx8:x≠p:=fun e=>p4 (e ▸ p7)
     have rl: ∀ z,Rest z→nx<z∧z<n1:=fun z hz=>by have:=hF1 z (hF8 z ((p6 z).2 (.inr (.inr hz))));omega
     have hFp:F1 p:=hF8 p ((p6 p).2 (.inl rfl))
     have hw1:s1.writes≠ []:=fun h=>h9 (by rw [h];rfl)
     obtain⟨hw2,hw3⟩:=hH8.h.was hm1 hs1 hw1
     have hsole:we D1 ks[q] ns[j]→l8=l:=fun h=>i7.2 _ _ _ _ h hm1 hw2 hw1 hw3
     have fin: ∀ (H9:aK) (v9:SV) (l9:List Int) (la:Sct),lost l.isEmpty s1 ⟨la,[]⟩→(l8=l→la=gD l s1)→H9.at' p=some (ak 80 (cW la ++ [.sc (.slice none 0 0)]))→H9.at' nx=some (ak 33 [v9])→PickIs H v9 l9→(l= []→l9= [])→(∀ z,z≠p→z≠nx→H9.at' z=H8.at' z) →
      (j+1≤ns.length∧n7≤n8∧H9.at' (n4+1)=some (.loop .busy none 17 91 (slT [(3,.ptr nx 0),(5,.ptr n1 0)]) #[27,28] cA cB n4)∧H9.at' nm=some (fX false ns)∧(∃ v' l',H9.at' nx=some (ak 33 [v'])∧PickIs H v' l'∧PkL l (fun k n=>k∈ks.take q∨(k=ks[q]∧n∈ns.take (j+1))) D1 l')∧(∃ E' F8,DAt x E' F8 H9∧HalfL l (fun k n=>k∈ks.take q∨(k=ks[q]∧n∈ns.take (j+1))) D1 E'∧ ∀ z,F8 z→F1 z)∧(H9.at' x=H6.at' x∧H9.at' mp5=H6.at' mp5∧H9.at' fn=H6.at' fn∧H9.at' ms=H6.at' ms)∧ ∀ z,z≤n4→z≠nx→ ¬ F1 z→H9.at' z=H5.at' z):=fun H9 v9 l9 la hlo w0 w1 w2 w3 w4 w5=>by
      refine⟨by omega,i2,(w5 _ (by omega) (by omega)).trans i3,(w5 _ (by omega) (by omega)).trans i4,⟨v9,l9,w2,w3,PkL.use hm1 hw2 hw1 w4 ((hst _ _).1 (.inl ⟨rfl,rfl⟩))⟩,⟨_,_,p9 H9 ⟨la,[]⟩ (.sc (.slice none 0 0)) (fun _=>False) w1 (.inl ⟨rfl,rfl,fun _ h=>h⟩) (fun h=>h) (fun _ h=>h.elim) (fun z hz=>w5 z (fun e=>p4 (e ▸ hz)) (by have:=rl z hz;omega)),(hH8.lose hm1 hs1 hw1 hlo (fun h=>w0 (hsole h)) (hH8.h.lose2 hm1 hs1 hlo)).iff fun k m n s _ _=>hst k n,fun z hz=>?_⟩,⟨(w5 _ nx8 (by omega)).trans j1,(w5 _ nmp (by omega)).trans j2,(w5 _ nfn (by omega)).trans j3,(w5 _ nms (by omega)).trans j4⟩,fun z hz hn hf=>(w5 z (fun e=>hf (e ▸ hFp)) hn).trans (i8 z hz hn hf)⟩
      rcases hz with rfl|hz|hz
      ·exact hFp
      ·exact hz.elim
      ·exact hF8 z ((p6 z).2 (.inr (.inr hz)))
     rcases i6 with ⟨a9,c9,rfl,rfl⟩|⟨b9,o9,c9,rfl,rfl⟩|⟨b9,o9,r9,n9,t9,vs9,rfl,q1,q2,q3,q4⟩
     ·(repeat(first|refine ac ?_|refine ab ?_|refine ay ?_|refine aE ?_|refine an rfl ?_|(apply ai;exact rfl;exact rfl;exact rfl)|(apply aR;exact rfl;exact rfl;exact rfl)|(apply aJ;exact rfl;exact rfl;exact rfl;exact(F.fo _ _ rfl rfl))|(apply bj;exact rfl;exact rfl;exact rfl;exact rfl;(focus(omega));(focus(omega)))|((apply mv;exact rfl;exact rfl;exact rfl;exact(F.un _ rfl)))|(refine dB rfl rfl rfl rfl (fun hq=>absurd hq (by decide)) (fun _=>?_))|(refine be rfl rfl rfl rfl (F.sz _ rfl) p1 rfl (by rw [ff];exact zA _) rfl ?_)))
      refine ih2 _ _ _ (j+1) (fin _ _ _ s1.lasts ⟨rfl,.inl rfl⟩ (fun h=>h ▸ rfl) ((Tr.ae _ _ _).trans (congrArg (fun l=>some (ak _ l)) (gC _ _ _))) ((Tr.aa _ _ (by omega)).trans i5) (.inl ⟨a9,c9,rfl,rfl⟩) (fun _=>rfl) (fun z hz _=>Tr.aa _ _ hz)) (by omega) (SlIn.sub (by repeat(first|exact trivial|refine⟨rfl,?_⟩)))
     ·(repeat(first|refine ac ?_|refine ab ?_|refine ay ?_|refine aE ?_|refine an rfl ?_|(apply ai;exact rfl;exact rfl;exact rfl)|(apply aR;exact rfl;exact rfl;exact rfl)|(apply aJ;exact rfl;exact rfl;exact rfl;exact(F.fo _ _ rfl rfl))|(apply bj;exact rfl;exact rfl;exact rfl;exact rfl;(focus(omega));(focus(omega)))|((apply w7;exact rfl;exact rfl;exact rfl;exact(F.un _ rfl)))|(refine dB rfl rfl rfl rfl (fun hq=>absurd hq (by decide)) (fun _=>?_))|(refine be rfl rfl rfl rfl (F.sz _ rfl) p1 rfl (by rw [ff];exact zA _) rfl ?_)))
      refine ih2 _ _ _ (j+1) (fin _ _ _ s1.lasts ⟨rfl,.inl rfl⟩ (fun h=>h ▸ rfl) ((Tr.ae _ _ _).trans (congrArg (fun l=>some (ak _ l)) (gC _ _ _))) ((Tr.aa _ _ (by omega)).trans i5) (.inr (.inl ⟨b9,o9,c9,rfl,rfl⟩)) (fun _=>rfl) (fun z hz _=>Tr.aa _ _ hz)) (by omega) (SlIn.sub (by repeat(first|exact trivial|refine⟨rfl,?_⟩)))
     ·(repeat(apply dA;exact rfl;exact rfl;exact rfl;exact(F.un _ rfl)))
      (apply dB;exact rfl;exact rfl;exact rfl;exact rfl)
      all_goals intro h10
      ·obtain⟨x0,l9,rfl⟩: ∃ x0 l9,l8=x0 :: l9:=by
        cases l8 with
        | nil=>exact absurd h10 (by decide)
        | cons x l=>exact⟨x,l,rfl⟩
       have hll:(x0 :: l9).length=l9.length+1:=rfl
       have lb9:b9<nx:=hund _ _ q1
       have gb:H8.at' b9=some (dat r9 n9 1 t9 vs9):=((i8 b9 (by omega) (by omega) (fun h=>by have:=hF1 b9 h;omega)).trans (e9 b9 lb9)).trans q1
       have hlne:l.isEmpty=false:=by
        cases l with
        | nil=>exact absurd (i7.1 rfl) (by simp)
        | cons x l=>rfl
       have hwl:s1.writes.length<1000000:=by have:=hH8.h.wr hm1 hs1 (fun s hs=>hok1.f.wr _ m1 _ s hm1 hs);omega
       have q5:vs9[(o9+(0:Int).toNat)*1]? =some (.int .i64 x0):=by
        rw [Nat.mul_one]
        exact q4 0 (by omega)
       (repeat(first|refine aj ?_|refine ab ?_|refine ar rfl ?_))
       (apply aT;(focus(kernel_rfl));(focus(kernel_rfl)))
       (repeat(first|(apply ax;exact rfl;exact rfl;exact rfl)|(apply cR;exact rfl;exact rfl;exact rfl)|(apply bl;exact rfl;exact rfl;exact rfl)|(apply aW;exact rfl;exact rfl;exact rfl;exact(F.fo _ _ rfl rfl))|(apply rg;exact rfl;exact rfl;exact rfl;exact(F.un _ rfl))|(apply cG;exact rfl;exact rfl;exact rfl;exact rfl;(focus(omega));(focus(omega)))|(refine bP rfl rfl rfl (F.ag _ rfl) i5 (aN rfl) ?_)|(refine vT rfl rfl rfl rfl (F.un _ rfl) (F.sz _ rfl) gb (Int.le_refl 0) (by omega) (by omega) ?_)|(refine uk rfl rfl rfl (F.ag _ rfl) gb q5 (by show(o9+0)*1<n9*1;omega) ?_)|(refine bP rfl rfl rfl (F.ag _ rfl) p1 (cv _ _) ?_)|((apply xT;exact rfl;exact rfl;exact rfl;exact rfl;(focus(omega));exact rfl))))
       (refine aF ?_);(refine⟨by kernel_rfl,?_,?_⟩);(focus(repeat(first|exact trivial|refine⟨.inl rfl,?_⟩)))
       dsimp only [wrL]
       have hk1:=Int.tmod_lt_of_pos x0 (show(0:Int)<(s1.writes.length:Int)+1 by omega)
       generalize hkk:x0.tmod ((s1.writes.length:Int)+1)=kk at hk1
       (repeat(first|refine aj ?_|refine ac ?_|(apply ai;exact rfl;exact rfl;exact rfl)))
       have nb9:b9≠p:=by omega
       (apply dB;exact rfl;exact rfl;exact rfl;exact rfl)
       all_goals intro h11
       ·have hq1:kk.toNat-1<s1.writes.length:=by omega
        have hpos:x0 :: l9=l→s1.writes[kk.toNat-1]=gD l s1:=fun h=>by
         subst h
         unfold gD
         simp only
         rw [hkk,if_pos h11,zh hq1]
         rfl
        have hlo:lost l.isEmpty s1 ⟨s1.writes[kk.toNat-1],[]⟩:=⟨rfl,.inr ⟨hlne,zK hq1⟩⟩
        (repeat(first|refine ac ?_|refine ab ?_|refine ar rfl ?_|(apply ai;exact rfl;exact rfl;exact rfl)|(apply aR;exact rfl;exact rfl;exact rfl)|(apply aJ;exact rfl;exact rfl;exact rfl;exact(F.fo _ _ rfl rfl))|refine aH rfl rfl rfl (F.ag _ rfl) (by(repeat(first|assumption|refine(Tr.aa _ _ (by omega)).trans ?_));done) (by exact rfl) ?_|(apply bN;exact rfl;exact rfl;exact rfl;exact rfl;(focus(omega));(focus(omega)))|(refine kT rfl rfl rfl (F.ag _ rfl) p1 (cv _ _) ?_)|refine kb (q:=kk.toNat-1) rfl rfl rfl rfl (F.un _ rfl) (F.sz _ rfl) (by assumption) (by omega) (by(omega)) (zA _) ?_|(refine uN rfl rfl rfl (F.ag _ rfl) hrw (mz hq1) (eL _) (by omega) ?_)|(refine io rfl rfl rfl (F.sz _ rfl) p1 (bB _) (by rw [ff];exact zj rfl) (gk _) (th _ _ _) ?_)))
        have g9:(H8.set (p,s0).fst (ak 80 (cW s1.writes[kk.toNat-1] ++ [.slu rw0 0 s1.writes.length]))).at' b9=some (dat r9 n9 1 t9 vs9):=(Tr.aa _ _ nb9).trans gb
        cases l9 with
        | nil=>
          refine lZ rfl rfl rfl rfl (F.un _ rfl) (F.sz _ rfl) rfl g9 (by omega) (by omega) ?_
          intro o2 c2
          (repeat(first|refine ac ?_|refine ab ?_|refine ay ?_|(apply ai;exact rfl;exact rfl;exact rfl)|(apply aR;exact rfl;exact rfl;exact rfl)|(apply aJ;exact rfl;exact rfl;exact rfl;exact(F.fo _ _ rfl rfl))|refine be rfl rfl rfl rfl (F.sz _ rfl) (by(repeat(first|assumption|exact Tr.ae _ _ _|refine(Tr.aa _ _ (by omega)).trans ?_));done) rfl (by exact zj rfl) rfl ?_|(apply bj;exact rfl;exact rfl;exact rfl;exact rfl;(focus(omega));(focus(omega)))|((apply be;exact rfl;exact rfl;exact rfl;exact rfl;exact(F.sz _ rfl);exact((Tr.aa _ _ (by show p≠nx;omega)).trans (Tr.ae _ _ _));exact rfl;(focus(rw [ff];exact zA _));exact rfl))))
          refine ih2 _ _ _ (j+1) (fin _ _ _ s1.writes[kk.toNat-1] hlo hpos ((Tr.ae _ _ _).trans (congrArg (fun l=>some (ak _ l)) (gC _ _ _))) ((Tr.aa _ _ (by show nx≠p;omega)).trans (Tr.ae _ _ _)) (.inr (.inl ⟨b9,o2,c2,rfl,rfl⟩)) (fun _=>rfl) (fun z hz hn=>(Tr.aa _ _ hz).trans ((Tr.aa _ _ hn).trans (Tr.aa _ _ hz)))) (by omega) (SlIn.sub (by repeat(first|exact trivial|refine⟨rfl,?_⟩)))
        | cons y0 l9=>
          refine sr (lw:=1) (hg:=(x0 :: y0 :: l9).length) rfl rfl rfl (F.un _ rfl) (F.sz _ rfl) g9 (bd_n rfl rfl) uC (by simp only [zD];omega) (by omega) (by simp only [zD] at q3 ⊢;omega) ?_
          (repeat(first|refine ac ?_|refine ab ?_|refine ay ?_|(apply ai;exact rfl;exact rfl;exact rfl)|(apply aR;exact rfl;exact rfl;exact rfl)|(apply aJ;exact rfl;exact rfl;exact rfl;exact(F.fo _ _ rfl rfl))|refine be rfl rfl rfl rfl (F.sz _ rfl) (by(repeat(first|assumption|exact Tr.ae _ _ _|refine(Tr.aa _ _ (by omega)).trans ?_));done) rfl (by exact zj rfl) rfl ?_|(apply bj;exact rfl;exact rfl;exact rfl;exact rfl;(focus(omega));(focus(omega)))|((apply be;exact rfl;exact rfl;exact rfl;exact rfl;exact(F.sz _ rfl);exact((Tr.aa _ _ (by show p≠nx;omega)).trans (Tr.ae _ _ _));exact rfl;(focus(rw [ff];exact zA _));exact rfl))))
          refine ih2 _ _ _ (j+1) (fin _ _ _ s1.writes[kk.toNat-1] hlo hpos ((Tr.ae _ _ _).trans (congrArg (fun l=>some (ak _ l)) (gC _ _ _))) ((Tr.aa _ _ (by show nx≠p;omega)).trans (Tr.ae _ _ _)) (PickIs.next (.inr (.inr ⟨b9,o9,r9,n9,t9,vs9,rfl,q1,q2,q3,q4⟩))) (fun h=>absurd (i7.1 h) (by simp)) (fun z hz hn=>(Tr.aa _ _ hz).trans ((Tr.aa _ _ hn).trans (Tr.aa _ _ hz)))) (by omega) (SlIn.sub (by repeat(first|exact trivial|refine⟨rfl,?_⟩)))
       ·have hneg:x0 :: l9=l→s1.lasts=gD l s1:=fun h=>by
         subst h
         unfold gD
         simp only
         rw [hkk,if_neg (by omega)]
        (repeat(first|refine ac ?_|refine ab ?_|refine aE ?_|refine an rfl ?_|refine aH rfl rfl rfl (F.ag _ rfl) (by assumption) (by exact rfl) ?_))
        cases l9 with
        | nil=>
          refine lZ rfl rfl rfl rfl (F.un _ rfl) (F.sz _ rfl) rfl gb (by omega) (by omega) ?_
          intro o2 c2
          (repeat(first|refine ac ?_|refine ab ?_|refine ay ?_|(apply ai;exact rfl;exact rfl;exact rfl)|(apply aR;exact rfl;exact rfl;exact rfl)|(apply aJ;exact rfl;exact rfl;exact rfl;exact(F.fo _ _ rfl rfl))|refine be rfl rfl rfl rfl (F.sz _ rfl) (by(repeat(first|assumption|refine(Tr.aa _ _ (by omega)).trans ?_));done) rfl (by exact zj rfl) rfl ?_|(apply bj;exact rfl;exact rfl;exact rfl;exact rfl;(focus(omega));(focus(omega)))|((apply be;exact rfl;exact rfl;exact rfl;exact rfl;exact(F.sz _ rfl);exact((Tr.aa _ _ (by omega)).trans p1);exact rfl;(focus(rw [ff];exact zA _));exact rfl))))
          refine ih2 _ _ _ (j+1) (fin _ _ _ s1.lasts ⟨rfl,.inl rfl⟩ hneg ((Tr.ae _ _ _).trans (congrArg (fun l=>some (ak _ l)) (gC _ _ _))) ((Tr.aa _ _ (by omega)).trans (Tr.ae _ _ _)) (.inr (.inl ⟨b9,o2,c2,rfl,rfl⟩)) (fun _=>rfl) (fun z hz hn=>(Tr.aa _ _ hz).trans (Tr.aa _ _ hn))) (by omega) (SlIn.sub (by repeat(first|exact trivial|refine⟨rfl,?_⟩)))
        | cons y0 l9=>
          refine sr (lw:=1) (hg:=(x0 :: y0 :: l9).length) rfl rfl rfl (F.un _ rfl) (F.sz _ rfl) gb (bd_n rfl rfl) uC (by simp only [zD];omega) (by omega) (by simp only [zD] at q3 ⊢;omega) ?_
          (repeat(first|refine ac ?_|refine ab ?_|refine ay ?_|(apply ai;exact rfl;exact rfl;exact rfl)|(apply aR;exact rfl;exact rfl;exact rfl)|(apply aJ;exact rfl;exact rfl;exact rfl;exact(F.fo _ _ rfl rfl))|refine be rfl rfl rfl rfl (F.sz _ rfl) (by(repeat(first|assumption|refine(Tr.aa _ _ (by omega)).trans ?_));done) rfl (by exact zj rfl) rfl ?_|(apply bj;exact rfl;exact rfl;exact rfl;exact rfl;(focus(omega));(focus(omega)))|((apply be;exact rfl;exact rfl;exact rfl;exact rfl;exact(F.sz _ rfl);exact((Tr.aa _ _ (by omega)).trans p1);exact rfl;(focus(rw [ff];exact zA _));exact rfl))))
          refine ih2 _ _ _ (j+1) (fin _ _ _ s1.lasts ⟨rfl,.inl rfl⟩ hneg ((Tr.ae _ _ _).trans (congrArg (fun l=>some (ak _ l)) (gC _ _ _))) ((Tr.aa _ _ (by omega)).trans (Tr.ae _ _ _)) (PickIs.next (.inr (.inr ⟨b9,o9,r9,n9,t9,vs9,rfl,q1,q2,q3,q4⟩))) (fun h=>absurd (i7.1 h) (by simp)) (fun z hz hn=>(Tr.aa _ _ hz).trans (Tr.aa _ _ hn))) (by omega) (SlIn.sub (by repeat(first|exact trivial|refine⟨rfl,?_⟩)))
      ·obtain rfl:l8= []:=zv (by omega)
       (repeat(first|refine ac ?_|refine ab ?_|refine ay ?_|refine aE ?_|refine an rfl ?_|(apply ai;exact rfl;exact rfl;exact rfl)|(apply aR;exact rfl;exact rfl;exact rfl)|(apply aJ;exact rfl;exact rfl;exact rfl;exact(F.fo _ _ rfl rfl))|(apply bj;exact rfl;exact rfl;exact rfl;exact rfl;(focus(omega));(focus(omega)))|(refine be rfl rfl rfl rfl (F.sz _ rfl) p1 rfl (by rw [ff];exact zA _) rfl ?_)))
       refine ih2 _ _ _ (j+1) (fin _ _ _ s1.lasts ⟨rfl,.inl rfl⟩ (fun h=>h ▸ rfl) ((Tr.ae _ _ _).trans (congrArg (fun l=>some (ak _ l)) (gC _ _ _))) ((Tr.aa _ _ (by omega)).trans i5) (.inr (.inr ⟨b9,o9,r9,n9,t9,vs9,rfl,q1,q2,q3,q4⟩)) (fun _=>rfl) (fun z hz _=>Tr.aa _ _ hz)) (by omega) (SlIn.sub (by repeat(first|exact trivial|refine⟨rfl,?_⟩)))
  ·have hj:j=ns.length:=by omega
   subst hj
   rw [List.take_length] at hH8 i7
   (repeat(first|refine aj ?_|refine ab ?_|refine ay ?_|refine aU rfl ?_|refine an rfl ?_))
   refine il (by exact i3) ?_
   dsimp only
   have hkl:ks.length≤32:=by
    have:=hks.length_eq
    rw [List.length_map] at this
    rw [this]
    exact hok1.f.few
   (repeat(first|refine ac ?_|refine ab ?_|refine ay ?_|refine aE ?_|refine an rfl ?_|(apply ai;exact rfl;exact rfl;exact rfl)|(apply ci;exact rfl;exact rfl;exact rfl;exact rfl)|(apply bj;exact rfl;exact rfl;exact rfl;exact rfl;(focus(omega));(focus(omega)))|(apply dg;exact rfl;exact rfl;exact rfl)))
   have hend: ∀ k m n s,a6 D1.files k=some m→a6 m n=some s→((k∈ks.take q∨(k=ks[q]∧n∈ns))↔k∈ks.take (q+1)):=fun k m n s hm hs=>by
    rw [List.take_succ_eq_append_getElem hq,List.mem_append,List.mem_singleton]
    constructor
    ·rintro(h|⟨h,_⟩)
     ·exact .inl h
     ·exact .inr h
    ·rintro(h|h)
     ·exact .inl h
     ·subst h
      refine .inr ⟨rfl,hns.symm.subset ?_⟩
      rw [hm1] at hm
      cases hm
      have:(di m2).map (·.1)=m2.map (·.1):=by simp [kv,Function.comp_def]
      rw [← this,hm3]
      exact dj hs
   refine ih _ _ _ (q+1) ⟨by omega,by omega,(Tr.aa _ _ (by omega)).trans ((i8 n4 (zA _) (by omega) (fun h=>by have:=hF1 _ h;omega)).trans e3),by(focus((repeat(exact Tr.ae _ _ _));done)),⟨v8,l8,(Tr.aa _ _ (by omega)).trans i5,i6,i7.iff fun k m n s hm hs=>(hend k m n s hm hs).1⟩,⟨E8,F8,hE8.frame fun z hz=>Tr.aa _ _ (by have:=hF1 z (hF8 z hz);omega),hH8.iff hend,hF8⟩,fun z hz hn hf=>(Tr.aa _ _ (by omega)).trans ((i8 z (by omega) hn hf).trans (e8 z hz hn hf))⟩ (by omega) (SlIn.sub (by repeat(first|exact trivial|refine⟨rfl,?_⟩)))
 ·have hq:q=ks.length:=by omega
  subst hq
  rw [List.take_length] at hH
  clear ih
  (repeat(first|refine aj ?_|refine ab ?_|refine aU rfl ?_|refine an rfl ?_))
  apply dU Try.func34 (congrArg Array.toList Try.results34) ResIs.nil
  dsimp only
  refine im e4 (fun h=>by cases h) ?_
  (repeat(first|refine aj ?_|refine ac ?_|refine ab ?_|refine ay ?_|(apply ah;exact rfl;exact rfl;exact rfl)|refine aH rfl rfl rfl (F.ag _ rfl) (by(repeat(first|assumption|refine(Tr.aa _ _ (by omega)).trans ?_));done) (by exact rfl) ?_))
  refine ql Try.func17 (congrArg Array.toList Try.results17) (rs:= [n4]) rfl (fun r hr=>by rw [List.mem_singleton.1 hr];exact(Tr.aa _ _ (by omega)).trans e3) (List.nodup_cons.2 ⟨List.not_mem_nil,List.nodup_nil⟩) ?_
  intro H6 h6
  refine⟨_,(by(repeat(first|exact ResIs.nil|apply ResIs.tmp rfl))),?_⟩
  have h7: ∀ z,z<n4→H6.at' z=H5.at' z:=fun z hz=>(h6 z (by simp only [List.mem_singleton];omega)).trans (Tr.aa _ _ (by omega))
  refine⟨x,E,F5,rfl,hE.frame fun z hz=>h7 z (by have:=hF1 z (hF5 z hz);omega),hcop.lost hok.f.ndS (hH.h.all fun k m n s hm _=>hks.symm.subset (dj hm)),fun k n m s s' g1 g2 g3 g4 g5=>(by
   obtain⟨m1,a1,a2⟩:=hcop.secs k m g2
   exact hH.sole k n m1 s s' (hcop.sole hok.f.ndS g1) a1 (by rw [jq (hok.f.ndS k m g2) a2];exact g3) g4 (hks.symm.subset (dj a1)) g5),fun z hz=>by have:=hF1 z (hF5 z hz);exact⟨by omega,by show z<n5;omega⟩,by show nx≤n5;omega,fun z hz=>(h7 z (by omega)).trans (e9 z hz)⟩
theorem kF(s:Sct):pz s=jU .u8 (s.1.map fun n:Nat=>(n:Int)):=by
 show _=List.map _ _
 rw [List.map_map]
 rfl
theorem sX{s s':Sct}:((s.1.map fun n:Nat=>(n:Int))=(s'.1.map fun n:Nat=>(n:Int)))↔s=s':=by
 constructor
 ·intro h
  refine Subtype.ext ?_
  have:=congrArg (List.map Int.toNat) h
  simpa [List.map_map,Function.comp_def] using this
 ·rintro rfl
  rfl
theorem tX: ∃ i,Try.prog.info? 5=some i:=by
 have h:(Try.prog.info? 5).isSome=true:=by kernel_rfl
 exact Option.isSome_iff_exists.1 h
theorem uSec:Try.prog.underlying 45=some (.array 256 5):=by kernel_rfl
section
variable {H:aK} {T:Tr SV} {nx:Nat}
variable {d:Option Tmp} {ty:TypeId} {pos:String} {af:Array Edge} {gd:Option (Nat×Bool)}
theorem nM{x y:Operand}{yt:TypeId}{s s':Sct}{b:Bool}(hx:ao T x=some (.agg (cW s)))(hy:ao T y=some (.agg (cW s')))(hb:decide (s=s')=b):ReadDoes Try.prog T H ⟨d,.binOp .eql 45 x y yt,ty,pos,af,gd⟩ (.sc (.bool b)):=by
 obtain⟨i,hi⟩:=tX
 have:=tc (P:=Try.prog) (H:=H) (d:=d) (ty:=ty) (pos:=pos) (af:=af) (gd:=gd) (yt:=yt) uSec hi (by kernel_rfl) (F.un _ rfl) (by kernel_rfl) (xs:=s.1.map fun n:Nat=>(n:Int)) (ys:=s'.1.map fun n:Nat=>(n:Int)) (by rw [List.length_map];exact s.2) (by rw [List.length_map];exact s'.2) (x:=x) (y:=y) (by rw [← kF];exact hx) (by rw [← kF];exact hy)
 rw [← hb,←decide_eq_decide.2 (sX (s:=s) (s':=s'))]
 exact this
theorem jk{x y:Operand}{yt:TypeId}{s s':Sct}{b:Bool}(hx:ao T x=some (.agg (cW s)))(hy:ao T y=some (.agg (cW s')))(hb:(!decide (s=s'))=b):ReadDoes Try.prog T H ⟨d,.binOp .neq 45 x y yt,ty,pos,af,gd⟩ (.sc (.bool b)):=by
 obtain⟨i,hi⟩:=tX
 have:=ta (P:=Try.prog) (H:=H) (d:=d) (ty:=ty) (pos:=pos) (af:=af) (gd:=gd) (yt:=yt) uSec hi (by kernel_rfl) (F.un _ rfl) (by kernel_rfl) (xs:=s.1.map fun n:Nat=>(n:Int)) (ys:=s'.1.map fun n:Nat=>(n:Int)) (by rw [List.length_map];exact s.2) (by rw [List.length_map];exact s'.2) (x:=x) (y:=y) (by rw [← kF];exact hx) (by rw [← kF];exact hy)
 rw [← hb,←decide_eq_decide.2 (sX (s:=s) (s':=s'))]
 exact this
end
end Go.Proofs.Ytbmekelkddllkaa
end
section
namespace Go.Sy.Nd
open Go Go.Sy Go.Sl Go.RowKit
section
variable (P:Program) (E:Nat→Tr SV→aK→Nat→Oper→Res→Prop) (nt:Nat) (ops:Array Oper) (T0:Tr SV)
def Src(R:List Rec)(i:Nat)(t:Nat)(s:SV):Prop:=
 (∃ (k:Nat) (r:Rec),k<i∧R[k]? =some r∧r.o.dst=some t∧r.val=s)∨((∀ (k:Nat) (r:Rec),k<i→R[k]? =some r→r.o.dst≠some t)∧T0.at' t=some s)
structure RecOK (R:List Rec) (Q:List (aK×Nat)) (C:List Nat) (i:Nat) (r:Rec):Prop where
 idx:r.i=i
 op:ops[i]? =some r.o
 slots: ∀ t s,r.T.at' t=some s→Operand.tmp t∈az ops.toList r.o∧Src T0 R i t s
 want:aq r.T ops r.o=some r.wanted
 skip:r.wanted=false→r.val=cy∧r.chain=false
 float:r.wanted=true→r.chain=false→(∀ c,r.o.op ≠ .defer c)∧ ∃ H n,Q[r.stg]? =some (H,n)∧ReadDoes P r.T H r.o r.val
 eff:r.chain=true→r.wanted=true∧C[r.stg]? =some i∧ ∃ H n H' n',Q[r.stg]? =some (H,n)∧Q[r.stg+1]? =some (H',n')∧E i r.T H n r.o (r.val,H',n')
structure DSOK (i:Nat) (s:DS):Prop where
 len:s.recs.length=i
 hs:s.Hs.length=s.stg+1
 last:s.Hs.reverse[s.stg]? =some (s.H,s.nx)
 cnt:((s.recs.reverse.filter (·.chain)).map (·.i)).length=s.stg
 recs: ∀ (k:Nat) r,s.recs.reverse[k]? =some r→RecOK P E ops T0 s.recs.reverse s.Hs.reverse ((s.recs.reverse.filter (·.chain)).map (·.i)) k r
 slots: ∀ t v,s.T.at' t=some v→Src T0 s.recs.reverse i t v
end
section
variable {P:Program} {rn:Rn} {E:Nat→Tr SV→aK→Nat→Oper→Res→Prop} {nt:Nat} {ops:Array Oper} {T0:Tr SV}
theorem Src.mono{R R':List Rec}{i:Nat}{t:Nat}{s:SV}(h:Src T0 R i t s)(hR: ∀ k,k<i→R'[k]? =R[k]?):Src T0 R' i t s:=by
 rcases h with ⟨k,r,h1,h2,h3,h4⟩|⟨h1,h2⟩
 ·exact .inl ⟨k,r,h1,by rw [hR k h1];exact h2,h3,h4⟩
 ·exact .inr ⟨fun k r hk hr=>h1 k r hk (by rw [← hR k hk];exact hr),h2⟩
theorem RecOK.mono{R R':List Rec}{Q Q':List (aK×Nat)}{C C':List Nat}{i:Nat}{r:Rec}(h:RecOK P E ops T0 R Q C i r)(hR: ∀ k,k<i→R'[k]? =R[k]?)(hQ: ∀ (j:Nat) x,Q[j]? =some x→Q'[j]? =some x)(hC: ∀ (j:Nat) x,C[j]? =some x→C'[j]? =some x) :
 RecOK P E ops T0 R' Q' C' i r:=
 ⟨h.idx,h.op,fun t s hs=>let ⟨a,b⟩:=h.slots t s hs;⟨a,b.mono hR⟩,h.want,h.skip,fun a b=>let ⟨x,H,n,c,d⟩:=h.float a b;⟨x,H,n,hQ _ _ c,d⟩,
   fun a=>let ⟨b,c,H,n,H',n',d,e,f⟩:=h.eff a;⟨b,hC _ _ c,H,n,H',n',hQ _ _ d,hQ _ _ e,f⟩⟩
theorem fw{A:Type}{l:List A}{x y:A}{j:Nat}(h:l[j]? =some y):(l ++ [x])[j]? =some y:=by
 rw [zw (zi.1 h).1];exact h
theorem cL{A:Type}(l:List A)(x:A):(l ++ [x])[l.length]? =some x:=by simp
theorem DSOK.snoc{i:Nat}{s:DS}(h:DSOK P E ops T0 i s)(hdst: ∀ (j:Nat) o d,ops.toList[j]? =some o→o.dst=some d→d<nt){r:Rec}{H:aK}{nx:Nat}{Hs:List (aK×Nat)}{stg:Nat}(ho:ops[i]? =some r.o)
 (hlen:Hs.length=stg+1) (hlast:Hs.reverse[stg]? =some (H,nx)) (hQ: ∀ (j:Nat) x,s.Hs.reverse[j]? =some x→Hs.reverse[j]? =some x) (hcnt:(if r.chain then s.stg+1 else s.stg)=stg)
 (hrec:RecOK P E ops T0 (s.recs.reverse ++ [r]) Hs.reverse (((s.recs.reverse ++ [r]).filter (·.chain)).map (·.i)) i r):DSOK P E ops T0 (i+1) ⟨gi nt s.T r.o.dst r.val,H,nx,r :: s.recs,Hs,stg⟩:=by
 have hR: ∀ k,k<i→(s.recs.reverse ++ [r])[k]? =s.recs.reverse[k]? :=fun k hk=>zw (by simp [h.len];exact hk)
 have hri:(s.recs.reverse ++ [r])[i]? =some r:=by have:=cL s.recs.reverse r;rw [List.length_reverse,h.len] at this;exact this
 refine⟨by simp [h.len],hlen,hlast,?_,fun k r' hr'=>?_,fun t v hv=>?_⟩
 ·simp only [List.reverse_cons,List.filter_append,zF,zE,h.cnt]
  rw [← hcnt]
  cases hc:r.chain <;> simp [List.filter_cons,hc]
 ·simp only [List.reverse_cons] at hr' ⊢
  rcases Nat.lt_or_ge k i with hk|hk
  ·rw [hR k hk] at hr'
   refine(h.recs k r' hr').mono (fun k' hk'=>hR k' (by omega)) hQ (fun j x hj=>?_)
   rw [List.filter_append,zF]
   rw [zw (zi.1 hj).1]
   exact hj
  ·have:k=i:=by
    have:=(zi.1 hr').1
    simp [h.len] at this
    omega
   subst this
   rw [hri] at hr'
   simp only [zd] at hr'
   subst hr'
   exact hrec
 ·simp only [List.reverse_cons] at hv ⊢
  have old:s.T.at' t=some v→r.o.dst≠some t→Src T0 (s.recs.reverse ++ [r]) (i+1) t v:=by
   intro hv hne
   rcases h.slots t v hv with ⟨k,r',h1,h2,h3,h4⟩|⟨h1,h2⟩
   ·exact .inl ⟨k,r',by omega,by rw [hR k h1];exact h2,h3,h4⟩
   ·refine .inr ⟨fun k r' hk hr'=>?_,h2⟩
    rcases Nat.lt_or_ge k i with hk'|hk'
    ·rw [hR k hk'] at hr'
     exact h1 k r' hk' hr'
    ·have:k=i:=by omega
     subst this
     rw [hri] at hr'
     simp only [zd] at hr'
     subst hr'
     exact hne
  cases hd:r.o.dst with
  | none=>rw [hd] at hv old;exact old hv (by simp)
  | some d=>
    rw [hd] at hv
    have hlt:=hdst i r.o d (by simpa using ho) hd
    simp only [gi,show Nat.blt d nt=true from zm hlt,cond_true] at hv
    rcases Tr.bE hv with ⟨rfl,rfl⟩|⟨hne,hv⟩
    ·exact .inl ⟨i,r,by omega,hri,hd,rfl⟩
    ·exact old hv (by rw [hd];simp;exact fun hc=>hne hc.symm)
theorem fU{i:Nat}{o:Oper}{s s':DS}(hE: ∀ T H nx r,dP P rn T H nx o r→E i T H nx o r)(h:DSOK P E ops T0 i s)(hdst: ∀ (j:Nat) o d,ops.toList[j]? =some o→o.dst=some d→d<nt)(ho:ops[i]? =some o)(hd:qk P rn nt ops i o s s'):DSOK P E ops T0 (i+1) s':=by
 have hslots: ∀ (R:List Rec),(∀ k,k<i→R[k]? =s.recs.reverse[k]?)→ ∀ t v,(aA s.T (az ops.toList o)).at' t=some v→Operand.tmp t∈az ops.toList o∧Src T0 R i t v:=by
  intro R hR t v hv
  obtain⟨h1,h2⟩:=fq _ t v hv
  exact⟨h1,(h.slots t v h2).mono hR⟩
 have hR: ∀ (r:Rec) k,k<i→(s.recs.reverse ++ [r])[k]? =s.recs.reverse[k]? :=fun r k hk=>zw (by simp [h.len];exact hk)
 rcases hd with ⟨hw,rfl⟩|⟨hw,hnd,v,hf,rfl⟩|⟨hw,v,H,nx,he,rfl⟩
 ·exact h.snoc (r:=⟨i,o,_,s.stg,false,false,cy⟩) hdst ho h.hs h.last (fun _ _ hj=>hj) rfl
   ⟨rfl,ho,hslots _ (hR _),hw,fun _=>⟨rfl,rfl⟩,fun hc _=>(by cases hc),fun hc=>(by cases hc)⟩
 ·exact h.snoc (r:=⟨i,o,_,s.stg,false,true,v⟩) hdst ho h.hs h.last (fun _ _ hj=>hj) rfl
   ⟨rfl,ho,hslots _ (hR _),hw,fun hc=>(by cases hc),fun _ _=>⟨hnd,s.H,s.nx,h.last,hf⟩,fun hc=>(by cases hc)⟩
 ·have hl:=h.hs
  have hq: ∀ (j:Nat) x,s.Hs.reverse[j]? =some x→((H,nx) :: s.Hs).reverse[j]? =some x:=fun j x hj=>by rw [List.reverse_cons];exact fw hj
  have hlast:((H,nx) :: s.Hs).reverse[s.stg+1]? =some (H,nx):=by
   rw [List.reverse_cons]
   have:=cL s.Hs.reverse (H,nx)
   rw [List.length_reverse,hl] at this
   exact this
  refine h.snoc (r:=⟨i,o,_,s.stg,true,true,v⟩) hdst ho (by simp [hl]) hlast hq rfl
   ⟨rfl,ho,hslots _ (hR _),hw,fun hc=>(by cases hc),fun _ hc=>(by cases hc),fun _=>⟨rfl,?_,s.H,s.nx,H,nx,hq _ _ h.last,hlast,hE _ _ _ _ he⟩⟩
  simp only [List.filter_append,zF,List.filter_cons,if_true,List.filter_nil,zC,List.map_nil]
  have:=cL ((s.recs.reverse.filter (·.chain)).map (·.i)) i
  rw [h.cnt] at this
  exact this
theorem fg(hdst: ∀ (j:Nat) o d,ops.toList[j]? =some o→o.dst=some d→d<nt): ∀ (l:List Oper) (i:Nat) (s s':DS),(∀ (k:Nat) o,l[k]? =some o→ops[i+k]? =some o∧ ∀ T H nx r,dP P rn T H nx o r→E (i+k) T H nx o r)→DSOK P E ops T0 i s→DrawRun P rn nt ops i l s s'→DSOK P E ops T0 (i+l.length) s'
 | [],i,s,s',_,h,hd=>by
   cases hd
   exact h
 | o :: l,i,s,s',hl,h,hd=>by
   cases hd with
   | cons hone hd=>
     obtain⟨ho,hE⟩:=hl 0 o rfl
     have:=fg hdst l (i+1) _ s' (fun k o' hk=>by
      have:=hl (k+1) o' (by simpa using hk)
      rw [show i+1+k=i+(k+1) by omega]
      exact this) (fU hE h hdst ho hone) hd
     rw [zD,show i+(l.length+1)=i+1+l.length by omega]
     exact this
end
def lP(P:Program)(K:Zone)(w0:World)(nt:Nat)(ops:Array Oper)(E:Nat→Tr SV→aK→Nat→Oper→Res→Prop)(i:Nat):Prop:=
 ∀ {e:Env} {w:World} {H:aK} {n:Nat} {T:Tr SV} {tr:Array Value} {fn:FuncId} {rest:List Nat} {k:List Item} {ds:List Deferred} {kd:CallKind} {rof:Option Nat} {cs:List Frame} {o:Oper} {v:SV} {H2:aK} {n2:Nat},St K w0 e H n w→TRel e nt T tr→ops[i]? =some o→Region.wanted o (yielded ops tr)=true→E i T H n o (v,H2,n2) →
  ∃ e' w' u,e.le e'∧St K w0 e' H2 n2 w'∧v.conc e'=some u∧Steps P (lone (fr0 fn tr (.inRegion ops (i :: rest) :: k) ds kd rof) cs w) (lone (fr0 fn (fL tr o.dst u) (.inRegion ops rest :: k) ds kd rof) cs w')
section
variable {P:Program} {K:Zone} {w0 w:World} {e:Env} {H:aK} {nx:Nat} {E:Nat→Tr SV→aK→Nat→Oper→Res→Prop}
structure RegOK (P:Program) (E:Nat→Tr SV→aK→Nat→Oper→Res→Prop) (nt:Nat) (ops:Array Oper) (T0:Tr SV) (R:List Rec) (Q:List (aK×Nat)) (C:List Nat):Prop where
 len:R.length=ops.size
 recs: ∀ (k:Nat) r,R[k]? =some r→RecOK P E ops T0 R Q C k r
 stages:Q.length=C.length+1
 chainR:C=(R.filter (·.chain)).map (·.i)
 chain:cN (bp [] ops.toList) C=true
 floats: ∀ r∈R,r.chain=false→r.wanted=true→(∀ c,r.o.op ≠ .defer c)∧ ∀ s,eG ((bp [] ops.toList).getD r.i 0) C≤s→s≤cC (bp [] ops.toList) r.i C→ ∀ H n,Q[s]? =some (H,n)→ReadDoes P r.T H r.o r.val
 small: ∀ (i:Nat) o d,ops.toList[i]? =some o→o.dst=some d→d<nt
 dist: ∀ (i j:Nat) oi oj d,ops.toList[i]? =some oi→ops.toList[j]? =some oj→oi.dst=some d→oj.dst=some d→i=j
 edges: ∀ (i:Nat) o,ops.toList[i]? =some o→dX i o.after.toList=true
 opnds: ∀ (i:Nat) o,ops.toList[i]? =some o→cm ops.toList (bp [] ops.toList) i ((bp [] ops.toList).getD i 0) (az ops.toList o)=true
def se(T0:Tr SV)(R:List Rec)(L:Nat→Prop)(t:Nat)(s:SV):Prop:=
 (∃ (k:Nat) (r:Rec),L k∧R[k]? =some r∧r.o.dst=some t∧r.val=s)∨((∀ (k:Nat) (r:Rec),L k→R[k]? =some r→r.o.dst≠some t)∧T0.at' t=some s)
structure PInv (K:Zone) (w0:World) (nt:Nat) (ops:Array Oper) (T0:Tr SV) (R:List Rec) (Q:List (aK×Nat)) (C:List Nat) (L:Nat→Prop) (s:Nat) (e:Env) (w:World) (tr:Array Value):Prop where
 st: ∃ H n,Q[s]? =some (H,n)∧St K w0 e H n w
 size:tr.size=nt
 good: ∀ t sv,se T0 R L t sv→ ∃ v,sv.conc e=some v∧tr.getD t undef=v
 chain: ∀ (j c:Nat),C[j]? =some c→(L c↔j<s)
 closed: ∀ (i:Nat) o,L i→ops.toList[i]? =some o→ ∀ ed∈o.after.toList,Region.binds .any ed=true→L ed.on
variable {nt:Nat} {ops:Array Oper} {T0:Tr SV} {R:List Rec} {Q:List (aK×Nat)} {C:List Nat}
theorem PInv.need(hR:RegOK P E nt ops T0 R Q C){L:Nat→Prop}{s:Nat}{tr:Array Value}(h:PInv K w0 nt ops T0 R Q C L s e w tr){i:Nat}{o:Oper}(ho:ops[i]? =some o)(hni: ¬ L i)
 (hed: ∀ ed∈o.after.toList,Region.binds .any ed=true→L ed.on) {r:Rec} (hr:R[i]? =some r):TRel e nt r.T tr∧Region.wanted o (yielded ops tr)=r.wanted:=by
 have hoL:ops.toList[i]? =some o:=by simpa using ho
 have hilt:i<ops.size:=(zp.1 ho).1
 have hrec:=hR.recs i r hr
 have hro:r.o=o:=by
  have:=hrec.op
  rw [ho] at this
  simpa using this.symm
 have hanc:=bg L hR.edges (fun i o hi ho'=>h.closed i o hi ho') i o hoL hed
 have hT:TRel e nt r.T tr:=by
  refine⟨h.size,fun t sv ht=>?_⟩
  obtain⟨hneed,hsrc⟩:=hrec.slots t sv ht
  rw [hro] at hneed
  have hwr: ∀ (k':Nat) o',ops.toList[k']? =some o'→o'.dst=some t→(L k'∧k'<i)∨(¬ L k'∧i<k'):=fun k' o' ho' hd'=>by
   rcases cK hR.dist (hR.opnds i o hoL) t hneed k' o' ho' hd' with hb|hb
   ·exact .inl (hanc k' hb)
   ·refine .inr ⟨fun hL=>?_,?_⟩
    ·exact hni (bg L hR.edges (fun i o hi ho'=>h.closed i o hi ho') k' o' ho' (h.closed k' o' hL ho') i hb).1
    ·exact(bg (fun _=>True) hR.edges (fun _ _ _ _ _ _ _=>trivial) k' o' ho' (fun _ _ _=>trivial) i hb).2
  refine h.good t sv ?_
  rcases hsrc with ⟨k',r',h1,h2,h3,h4⟩|⟨h1,h2⟩
  ·have hop:=(hR.recs k' r' h2).op
   rcases hwr k' r'.o (by simpa using hop) h3 with g|g
   ·exact .inl ⟨k',r',g.1,h2,h3,h4⟩
   ·omega
  ·refine .inr ⟨fun k' r' hLk hr' hd'=>?_,h2⟩
   have hop:=(hR.recs k' r' hr').op
   rcases hwr k' r'.o (by simpa using hop) hd' with g|g
   ·exact h1 k' r' g.2 hr' hd'
   ·exact g.1 hLk
 have hwant:=dv hrec.want hT
 rw [hro] at hwant
 exact⟨hT,hwant⟩
theorem PInv.step(hR:RegOK P E nt ops T0 R Q C){L:Nat→Prop}{s:Nat}{tr:Array Value}(h:PInv K w0 nt ops T0 R Q C L s e w tr){i:Nat}{o:Oper}(ho:ops[i]? =some o)(hni: ¬ L i)
 (hed: ∀ ed∈o.after.toList,Region.binds .any ed=true→L ed.on) (fn:FuncId) (rest:List Nat) (k:List Item) (ds:List Deferred) (kd:CallKind) (rof:Option Nat) (cs:List Frame) (hX: ∀ r,R[i]? =some r→r.chain=true→ ∀ H n H2 n2,Q[s]? =some (H,n)→Q[s+1]? =some (H2,n2)→E i r.T H n o (r.val,H2,n2)→St K w0 e H n w→TRel e nt r.T tr→Region.wanted o (yielded ops tr)=true→ ∃ e' w' u,e.le e'∧St K w0 e' H2 n2 w'∧r.val.conc e'=some u∧Steps P (lone (fr0 fn tr (.inRegion ops (i :: rest) :: k) ds kd rof) cs w) (lone (fr0 fn (fL tr o.dst u) (.inRegion ops rest :: k) ds kd rof) cs w')) :
 ∃ e' w' tr' s',e.le e'∧PInv K w0 nt ops T0 R Q C (fun j=>L j∨j=i) s' e' w' tr' ∧
  Steps P (lone (fr0 fn tr (.inRegion ops (i :: rest) :: k) ds kd rof) cs w) (lone (fr0 fn tr' (.inRegion ops rest :: k) ds kd rof) cs w'):=by
 have hoL:ops.toList[i]? =some o:=by simpa using ho
 have hilt:i<ops.size:=(zp.1 ho).1
 obtain⟨r,hr⟩: ∃ r,R[i]? =some r:=⟨_,zh (by rw [hR.len];exact hilt)⟩
 have hrec:=hR.recs i r hr
 have hro:r.o=o:=by
  have:=hrec.op
  rw [ho] at this
  simpa using this.symm
 have hanc:=bg L hR.edges (fun i o hi ho'=>h.closed i o hi ho') i o hoL hed
 have hT:TRel e nt r.T tr:=by
  refine⟨h.size,fun t sv ht=>?_⟩
  obtain⟨hneed,hsrc⟩:=hrec.slots t sv ht
  rw [hro] at hneed
  have hwr: ∀ (k':Nat) o',ops.toList[k']? =some o'→o'.dst=some t→(L k'∧k'<i)∨(¬ L k'∧i<k'):=fun k' o' ho' hd'=>by
   rcases cK hR.dist (hR.opnds i o hoL) t hneed k' o' ho' hd' with hb|hb
   ·exact .inl (hanc k' hb)
   ·refine .inr ⟨fun hL=>?_,?_⟩
    ·exact hni (bg L hR.edges (fun i o hi ho'=>h.closed i o hi ho') k' o' ho' (h.closed k' o' hL ho') i hb).1
    ·exact(bg (fun _=>True) hR.edges (fun _ _ _ _ _ _ _=>trivial) k' o' ho' (fun _ _ _=>trivial) i hb).2
  refine h.good t sv ?_
  rcases hsrc with ⟨k',r',h1,h2,h3,h4⟩|⟨h1,h2⟩
  ·have hop:=(hR.recs k' r' h2).op
   rcases hwr k' r'.o (by simpa using hop) h3 with g|g
   ·exact .inl ⟨k',r',g.1,h2,h3,h4⟩
   ·omega
  ·refine .inr ⟨fun k' r' hLk hr' hd'=>?_,h2⟩
   have hop:=(hR.recs k' r' hr').op
   rcases hwr k' r'.o (by simpa using hop) hd' with g|g
   ·exact h1 k' r' g.2 hr' hd'
   ·exact g.1 hLk
 have hwant:=dv hrec.want hT
 rw [hro] at hwant
 have build: ∀ (e':Env) (w':World) (u:Value) (s':Nat),e.le e'→(∃ H n,Q[s']? =some (H,n)∧St K w0 e' H n w')→r.val.conc e'=some u→(∀ (j c:Nat),C[j]? =some c→((L c∨c=i)↔j<s')) →
  PInv K w0 nt ops T0 R Q C (fun j=>L j∨j=i) s' e' w' (fL tr o.dst u):=by
  intro e' w' u s' hle hst hu hch
  refine⟨hst,?_,fun t sv hg=>?_,hch,fun j oj hj hoj ed hed' hb=>?_⟩
  ·unfold fL
   cases o.dst with
   | none=>exact h.size
   | some d=>simpa using h.size
  ·have old:(∀ d,o.dst=some d→d≠t)→ ∃ v,sv.conc e'=some v∧(fL tr o.dst u).getD t undef=v:=by
    intro hne
    have hg':se T0 R L t sv:=by
     rcases hg with ⟨k',r',hk',h2,h3,h4⟩|hg
     ·refine .inl ⟨k',r',?_,h2,h3,h4⟩
      rcases hk' with hk'|rfl
      ·exact hk'
      ·exfalso
       rw [hr] at h2
       simp only [zd] at h2
       subst h2
       rw [hro] at h3
       exact hne t h3 rfl
     ·exact .inr ⟨fun k' r' hLk=>hg.1 k' r' (.inl hLk),hg.2⟩
    obtain⟨v,hv,hgv⟩:=h.good t sv hg'
    refine⟨v,SV.bO hle _ _ hv,?_⟩
    cases hd:o.dst with
    | none=>exact hgv
    | some d=>
      have:=hne d hd
      simp only [fL]
      rw [zk,Array.getElem?_setIfInBounds_ne this,←zk]
      exact hgv
   cases hd:o.dst with
   | none=>rw [hd] at old;exact old (fun d hd'=>by cases hd')
   | some d=>
     by_cases hdt:d=t
     ·subst hdt
      have hval:sv=r.val:=by
       rcases hg with ⟨k',r',hk',h2,h3,h4⟩|⟨h1,_⟩
       ·have hop:=(hR.recs k' r' h2).op
        have:=hR.dist k' i r'.o o d (by simpa using hop) hoL h3 hd
        subst this
        rw [hr] at h2
        simp only [zd] at h2
        subst h2
        exact h4.symm
       ·exact absurd (by rw [hro];exact hd) (h1 i r (.inr rfl) hr)
      subst hval
      refine⟨u,hu,?_⟩
      have hlt:=hR.small i o d hoL hd
      simp only [fL]
      rw [zk,Array.getElem?_setIfInBounds_self_of_lt (by rw [h.size];exact hlt)]
      rfl
     ·rw [hd] at old
      exact old (fun d' hd'=>by simp only [zd] at hd';subst hd';exact hdt)
  ·rcases hj with hj|rfl
   ·exact .inl (h.closed j oj hj hoj ed hed' hb)
   ·rw [hoL] at hoj
    simp only [zd] at hoj
    subst hoj
    exact .inl (hed ed hed' hb)
 have notChain:r.chain=false→ ∀ (j c:Nat),C[j]? =some c→((L c∨c=i)↔j<s):=by
  intro hc j c hj
  have hne:c≠i:=by
   rintro rfl
   rw [hR.chainR] at hj
   rw [List.getElem?_map,zo] at hj
   obtain⟨r',hr',hi'⟩:=hj
   have hmem:=zt hr'
   rw [List.mem_filter] at hmem
   obtain⟨k',hk'⟩:=List.mem_iff_getElem?.1 hmem.1
   have:=(hR.recs k' r' hk').idx
   rw [hi'] at this
   subst this
   rw [hr] at hk'
   simp only [zd] at hk'
   subst hk'
   rw [hc] at hmem
   simp at hmem
  rw [← h.chain j c hj]
  simp [hne]
 obtain⟨H,n,hQ,hS⟩:=h.st
 cases hwd:r.wanted with
 | false=>
   rw [hwd] at hwant
   obtain⟨h1,h2⟩:=hrec.skip hwd
   exact⟨e,w,_,s,Env.le_refl e,build e w undef s (Env.le_refl e) ⟨H,n,hQ,hS⟩ (by rw [h1];rfl) (notChain h2),.one (ej ho hwant)⟩
 | true=>
   rw [hwd] at hwant
   cases hc:r.chain with
   | false=>
     have hri:=hrec.idx
     have hlo:eG ((bp [] ops.toList).getD r.i 0) C≤s:=by
      rcases Nat.lt_or_ge s (eG ((bp [] ops.toList).getD r.i 0) C)with hlt|hge
      ·exfalso
       obtain⟨c,h1,h2⟩:=jr s hlt
       rw [hri] at h2
       have:=(h.chain s c h1).1 (hanc c h2).1
       omega
      ·exact hge
     have hhi:s≤cC (bp [] ops.toList) r.i C:=by
      rcases Nat.lt_or_ge (cC (bp [] ops.toList) r.i C) s with hlt|hge
      ·exfalso
       have hsC:s≤C.length:=by
        have:=(zi.1 hQ).1
        have:=hR.stages
        omega
       obtain⟨c,h1,h2⟩:=hZ (ancs:=bp [] ops.toList) (i:=r.i) (l:=C) (by omega)
       have hLc:=(h.chain _ c h1).2 hlt
       have hcl:c<ops.size:=by
        have hcm:=zt h1
        rw [hR.chainR,List.mem_map] at hcm
        obtain⟨r',hr',rfl⟩:=hcm
        rw [List.mem_filter] at hr'
        obtain⟨k',hk'⟩:=List.mem_iff_getElem?.1 hr'.1
        have hx:=hR.recs k' r' hk'
        rw [hx.idx]
        exact(zp.1 hx.op).1
       have hoc:ops.toList[c]? =some (ops.toList[c]'(by simpa using hcl)):=zh (by simpa using hcl)
       have:=bg L hR.edges (fun i o hi ho'=>h.closed i o hi ho') c _ hoc (h.closed c _ hLc hoc) r.i h2
       rw [hri] at this
       exact hni this.1
      ·exact hge
     have hf:=(hR.floats r (zt hr) hc hwd).2 s hlo hhi H n hQ
     have hnd:=(hR.floats r (zt hr) hc hwd).1
     rw [hro] at hf hnd
     obtain⟨u,hu,hst⟩:=gp (P:=P) (fn:=fn) (rest:=rest) (k:=k) (ds:=ds) (kd:=kd) (rof:=rof) (cs:=cs) hS hT ho hwant hnd hf
     exact⟨e,w,_,s,Env.le_refl e,build e w u s (Env.le_refl e) ⟨H,n,hQ,hS⟩ hu (notChain hc),hst⟩
   | true=>
     obtain⟨_,hC,H1,n1,H2,n2,hQ1,hQ2,heff⟩:=hrec.eff hc
     have hss:r.stg=s:=by
      have h1: ¬ r.stg<s:=fun hlt=>hni ((h.chain r.stg i hC).2 hlt)
      rcases Nat.eq_zero_or_pos r.stg with h0|hp
      ·omega
      ·have hlt:r.stg-1<C.length:=by
        have:=(zi.1 hC).1
        omega
       have hprev:C[r.stg-1]? =some C[r.stg-1]:=zh hlt
       have hbit:=eV hR.chain (r.stg-1) C[r.stg-1] i hprev (by rw [show r.stg-1+1=r.stg by omega];exact hC)
       have:=(h.chain _ _ hprev).1 (hanc _ hbit).1
       omega
     rw [hss] at hQ1 hQ2 hC
     rw [hQ] at hQ1
     simp only [zd,zn] at hQ1
     obtain⟨rfl,rfl⟩:=hQ1
     rw [hro] at heff
     obtain⟨e',w',u,hle,hS',hu,hst⟩:=hX r hr hc H n H2 n2 hQ hQ2 heff hS hT hwant
     refine⟨e',w',_,s+1,hle,build e' w' u (s+1) hle ⟨H2,n2,hQ2,hS'⟩ hu (fun j c hj=>?_),hst⟩
     constructor
     ·rintro(hL|rfl)
      ·have:=(h.chain j c hj).1 hL;omega
      ·rcases Nat.lt_or_ge j (s+1)with hlt|hge
       ·exact hlt
       ·exfalso
        have hi1:=chain_inj hR hC hj
        omega
     ·intro hlt
      rcases Nat.lt_or_ge j s with hj'|hj'
      ·exact .inl ((h.chain j c hj).2 hj')
      ·have:j=s:=by omega
       subst this
       rw [hC] at hj
       simp only [zd] at hj
       exact .inr hj.symm
where
 chain_inj {P:Program} {E:Nat→Tr SV→aK→Nat→Oper→Res→Prop} {nt:Nat} {ops:Array Oper} {T0:Tr SV} {R:List Rec} {Q:List (aK×Nat)} {C:List Nat} (hR:RegOK P E nt ops T0 R Q C) {s j c:Nat} (h1:C[s]? =some c) (h2:C[j]? =some c):s=j:=by
  have hnd:C.Nodup:=by
   rw [hR.chainR]
   have hall:((R.filter (·.chain)).map (·.i)).Sublist (R.map (·.i)):=(List.filter_sublist).map _
   refine hall.nodup ?_
   have:R.map (·.i)=List.range R.length:=by
    apply List.ext_getElem?
    intro k
    rw [List.getElem?_map]
    cases hk:R[k]? with
    | none=>
      rw [List.getElem?_eq_none_iff] at hk
      simp [hk]
    | some r=>
      have hlt:=(zi.1 hk).1
      rw [zG,(hR.recs k r hk).idx,List.getElem?_range hlt]
   rw [this]
   exact List.nodup_range
  have a:=zi.1 h1
  have b:=zi.1 h2
  obtain⟨a1,a2⟩:=a
  obtain⟨b1,b2⟩:=b
  exact(List.getElem_inj hnd).1 (a2.trans b2.symm)
end
section
variable {P:Program} {K:Zone} {w0 w:World} {e:Env} {E:Nat→Tr SV→aK→Nat→Oper→Res→Prop} {nt:Nat} {ops:Array Oper} {T0:Tr SV} {R:List Rec} {Q:List (aK×Nat)} {C:List Nat}
def aI(listed:Array Bool)(j:Nat):Prop:=listed[j]? =some true
theorem eu{listed:Array Bool}(hsz:listed.size=ops.size){i:Nat}(h:i∈Region.ready .any ops listed): ∃ o,ops[i]? =some o∧ ¬ aI listed i∧ ∀ ed∈o.after.toList,Region.binds .any ed=true→aI listed ed.on:=by
 unfold Region.ready at h
 rw [List.mem_filter,List.mem_range,zy] at h
 obtain⟨h1,h2,h3⟩:=h
 have ho:ops[i]? =some ops[i]:=zr h1
 refine⟨ops[i],ho,?_,fun ed hed hb=>?_⟩
 ·intro hl
  unfold aI at hl
  rw [zk,hl] at h2
  simp at h2
 ·rw [ho] at h3
  simp only [zG,Option.getD_some] at h3
  rw [Array.all_eq_true_iff_forall_mem] at h3
  have:=h3 ed (by simpa using hed)
  rw [hb] at this
  simp only [Bool.not_true,Bool.false_or] at this
  unfold aI
  rw [zk] at this
  cases hx:listed[ed.on]? with
  | none=>rw [hx] at this;simp at this
  | some b=>rw [hx] at this;simp only [Option.getD_some] at this;rw [this]
theorem fp{listed:Array Bool}(hsz:listed.size=ops.size)(hE: ∀ (i:Nat) o,ops.toList[i]? =some o→dX i o.after.toList=true){i:Nat}(hi:i<ops.size)(hn: ¬ aI listed i): ∃ j,j∈Region.ready .any ops listed:=by
 induction i using Nat.strongRecOn with
 | _ i ih=>
   have ho:ops[i]? =some ops[i]:=zr hi
   by_cases hall: ∀ ed∈ops[i].after.toList,Region.binds .any ed=true→aI listed ed.on
   ·refine⟨i,?_⟩
    unfold Region.ready
    rw [List.mem_filter,List.mem_range,zy]
    refine⟨hi,?_,?_⟩
    ·unfold aI at hn
     rw [zk]
     have hlt:i<listed.size:=by omega
     rw [zr hlt] at hn ⊢
     simp only [zd,Bool.not_eq_true] at hn
     simp [hn]
    ·rw [ho]
     simp only [zG,Option.getD_some]
     rw [Array.all_eq_true_iff_forall_mem]
     intro ed hed
     cases hb:Region.binds .any ed with
     | false=>rfl
     | true=>
       have:=hall ed (by simpa only [Array.mem_toList_iff] using hed) hb
       unfold aI at this
       rw [zk,this]
       rfl
   ·have: ∃ ed,ed∈ops[i].after.toList∧Region.binds .any ed=true∧ ¬ aI listed ed.on:=by
     apply Classical.byContradiction
     intro hc
     apply hall
     intro ed h1 h2
     apply Classical.byContradiction
     intro h3
     exact hc ⟨ed,h1,h2,h3⟩
    obtain⟨ed,h1,h2,h3⟩:=this
    have hlt:=fS (hE i ops[i] (by simp)) ed h1 h2
    exact ih ed.on hlt (by omega) h3
def bm(listed:Array Bool):Nat:=listed.toList.count false
theorem c6: ∀ (l:List Bool) (i:Nat),l[i]? =some false→(l.set i true).count false+1=l.count false
 | [],i,h=>by simp at h
 | b :: l,0,h=>by
   simp only [zx,zd] at h
   subst h
   simp [List.count_cons]
 | b :: l,i+1,h=>by
   have:=c6 l i (by simpa using h)
   simp only [List.set_cons_succ,List.count_cons]
   omega
theorem iu{c:Nat}(hE: ∀ i,i≠c→lP P K w0 nt ops E i)(hR:RegOK P E nt ops T0 R Q C)(fn:FuncId)(k:List Item)(ds:List Deferred)(kd:CallKind)(rof:Option Nat)(cs:List Frame): ∀ (fuel t:Nat) (listed:Array Bool) (s:Nat) (e:Env) (w:World) (tr:Array Value),
 listed.size=ops.size→bm listed≤fuel→aI listed c→PInv K w0 nt ops T0 R Q C (aI listed) s e w tr →
 ∃ e' w' tr' s' listed',e.le e'∧listed'.size=ops.size∧(∀ j,j<ops.size→aI listed' j)∧PInv K w0 nt ops T0 R Q C (aI listed') s' e' w' tr' ∧
  Steps P (lone (fr0 fn tr (.inRegion ops (Region.linearise.go .any ops fuel t listed []) :: k) ds kd rof) cs w) (lone (fr0 fn tr' (.inRegion ops [] :: k) ds kd rof) cs w'):=by
 have allOf: ∀ (listed:Array Bool),listed.size=ops.size→(∀ j,j∉Region.ready .any ops listed)→ ∀ j,j<ops.size→aI listed j:=by
  intro listed hsz hno j hj
  apply Classical.byContradiction
  intro hn
  obtain⟨i,hi⟩:=fp hsz hR.edges hj hn
  exact hno i hi
 intro fuel
 induction fuel with
 | zero=>
   intro t listed s e w tr hsz hun hcl hI
   refine⟨e,w,tr,s,listed,Env.le_refl e,hsz,fun j hj=>?_,hI,by simp only [Region.linearise.go,List.reverse_nil];exact .refl P _⟩
   unfold aI
   have hlt:j<listed.size:=by omega
   rw [zr hlt]
   cases hb:listed[j] with
   | true=>rfl
   | false=>
     exfalso
     have:0<listed.toList.count false:=List.count_pos_iff.2 (by rw [← hb];simp)
     unfold bm at hun
     omega
 | succ fuel ih=>
   intro t listed s e w tr hsz hun hcl hI
   simp only [Region.linearise.go]
   change ∃ e' w' tr' s' listed',_∧_∧_∧_∧Steps P (lone (fr0 fn tr (.inRegion ops (match (Region.ready .any ops listed)[t % (Region.ready .any ops listed).length]? with
    | some i=>Region.linearise.go .any ops fuel (t / (Region.ready .any ops listed).length) (listed.setIfInBounds i true) [i]
    | none=> [].reverse) :: k) ds kd rof) cs w) _
   cases hpick:(Region.ready .any ops listed)[t % (Region.ready .any ops listed).length]? with
   | none=>
     have hnil:Region.ready .any ops listed= []:=by
      cases hx:Region.ready .any ops listed with
      | nil=>rfl
      | cons x xs=>
        rw [hx] at hpick
        have hlt:t % (x :: xs).length<(x :: xs).length:=Nat.mod_lt _ (by simp)
        rw [zh hlt] at hpick
        cases hpick
     exact⟨e,w,tr,s,listed,Env.le_refl e,hsz,allOf listed hsz (by rw [hnil];simp),hI,.refl P _⟩
   | some i=>
     simp only
     have hmem:=zt hpick
     obtain⟨o,ho,hni,hed⟩:=eu hsz hmem
     rw [linearise_go_acc,List.reverse_singleton,List.singleton_append]
     obtain⟨e1,w1,tr1,s1,hle1,hI1,hst1⟩:=hI.step hR ho hni hed fn (Region.linearise.go .any ops fuel (t / (Region.ready .any ops listed).length) (listed.setIfInBounds i true) []) k ds kd rof cs (fun r _ _ H n H2 n2 _ _ he hS hT hw=>hE i (fun hic=>hni (hic ▸ hcl)) hS hT ho hw he)
     have hilt:i<ops.size:=(zp.1 ho).1
     have hfalse:listed.toList[i]? =some false:=by
      have hlt:i<listed.size:=by omega
      unfold aI at hni
      rw [zr hlt] at hni
      rw [Array.getElem?_toList,zr hlt]
      simpa using hni
     have hcnt:bm (listed.setIfInBounds i true)+1=bm listed:=by
      unfold bm
      rw [Array.toList_setIfInBounds]
      exact c6 _ _ hfalse
     have hLeq: ∀ j,aI (listed.setIfInBounds i true) j↔(aI listed j∨j=i):=by
      intro j
      unfold aI
      by_cases hji:j=i
      ·subst hji
       rw [Array.getElem?_setIfInBounds_self_of_lt (by omega)]
       simp
      ·rw [Array.getElem?_setIfInBounds_ne (Ne.symm hji)]
       simp [hji]
     have hI2:PInv K w0 nt ops T0 R Q C (aI (listed.setIfInBounds i true)) s1 e1 w1 tr1:=by
      have:aI (listed.setIfInBounds i true)=fun j=>aI listed j∨j=i:=funext fun j=>propext (hLeq j)
      rw [this]
      exact hI1
     obtain⟨e2,w2,tr2,s2,l2,hle2,hs2,ha2,hI3,hst2⟩:=ih _ _ s1 e1 w1 tr1 (by simpa using hsz) (by omega) ((hLeq c).2 (.inl hcl)) hI2
     exact⟨e2,w2,tr2,s2,l2,Env.le_trans hle1 hle2,hs2,ha2,hI3,hst1.trans hst2⟩
theorem PInv.turn{R':List Rec}{Q':List (aK×Nat)}{L:Nat→Prop}{s:Nat}{tr:Array Value}(h:PInv K w0 nt ops T0 R Q C L s e w tr)(hR: ∀ k,L k→R'[k]? =R[k]?)(hQ:Q'[s]? =Q[s]?):PInv K w0 nt ops T0 R' Q' C L s e w tr:=by
 obtain⟨⟨H,n,h1,h2⟩,h3,h4,h5,h6⟩:=h
 refine⟨⟨H,n,hQ.trans h1,h2⟩,h3,fun t sv hg=>h4 t sv ?_,h5,h6⟩
 rcases hg with ⟨k,r,g1,g2,g3,g4⟩|⟨g1,g2⟩
 ·exact .inl ⟨k,r,g1,by rw [← hR k g1];exact g2,g3,g4⟩
 ·exact .inr ⟨fun k r hk hr=>g1 k r hk (by rw [hR k hk];exact hr),g2⟩
theorem tj{A:Type}{c m:Nat}{Rf:A→List Rec}{Qf:A→List (aK×Nat)}{good:A→Prop}(hE: ∀ i,i≠c→lP P K w0 nt ops E i)(hR: ∀ a,RegOK P E nt ops T0 (Rf a) (Qf a) C)
 (hm:C[m]? =some c) (hcs:c<ops.size) (hRf: ∀ a b k,k<c→(Rf a)[k]? =(Rf b)[k]?) (hQf: ∀ a b k,k≤m→(Qf a)[k]? =(Qf b)[k]?)
 (hdesc: ∀ j,c<j→j<ops.size→((bp [] ops.toList).getD j 0).testBit c=true) (fn:FuncId) (k:List Item) (ds:List Deferred) (kd:CallKind) (rof:Option Nat) (cs:List Frame)
 (hX: ∀ (a0:A) (e:Env) (w:World) (tr:Array Value) (rest:List Nat) (o:Oper) (r:Rec) (H:aK) (n:Nat),(Rf a0)[c]? =some r→ops[c]? =some o→(Qf a0)[m]? =some (H,n)→St K w0 e H n w→TRel e nt r.T tr→Region.wanted o (yielded ops tr)=true →
   ∃ a,good a∧ ∃ e' w' u H2 n2 ra,e.le e'∧(Qf a)[m+1]? =some (H2,n2)∧St K w0 e' H2 n2 w'∧(Rf a)[c]? =some ra∧ra.val.conc e'=some u ∧
    Steps P (lone (fr0 fn tr (.inRegion ops (c :: rest) :: k) ds kd rof) cs w) (lone (fr0 fn (fL tr o.dst u) (.inRegion ops rest :: k) ds kd rof) cs w')) (a0:A) :
 ∀ (fuel t:Nat) (listed:Array Bool) (s:Nat) (e:Env) (w:World) (tr:Array Value),
 listed.size=ops.size→bm listed≤fuel→ ¬ aI listed c→PInv K w0 nt ops T0 (Rf a0) (Qf a0) C (aI listed) s e w tr →
 ∃ a,good a∧ ∃ e' w' tr' s' listed',e.le e'∧listed'.size=ops.size∧(∀ j,j<ops.size→aI listed' j)∧PInv K w0 nt ops T0 (Rf a) (Qf a) C (aI listed') s' e' w' tr' ∧
  Steps P (lone (fr0 fn tr (.inRegion ops (Region.linearise.go .any ops fuel t listed []) :: k) ds kd rof) cs w) (lone (fr0 fn tr' (.inRegion ops [] :: k) ds kd rof) cs w'):=by
 intro fuel
 induction fuel with
 | zero=>
   intro t listed s e w tr hsz hun hcl hI
   exfalso
   have hlt:c<listed.size:=by omega
   unfold aI at hcl
   rw [zr hlt] at hcl
   cases hb:listed[c] with
   | true=>rw [hb] at hcl;exact hcl rfl
   | false=>
     have:0<listed.toList.count false:=List.count_pos_iff.2 (by rw [← hb];simp)
     unfold bm at hun
     omega
 | succ fuel ih=>
   intro t listed s e w tr hsz hun hcl hI
   simp only [Region.linearise.go]
   change ∃ a,good a∧ ∃ e' w' tr' s' listed',_∧_∧_∧_∧Steps P (lone (fr0 fn tr (.inRegion ops (match (Region.ready .any ops listed)[t % (Region.ready .any ops listed).length]? with
    | some i=>Region.linearise.go .any ops fuel (t / (Region.ready .any ops listed).length) (listed.setIfInBounds i true) [i]
    | none=> [].reverse) :: k) ds kd rof) cs w) _
   cases hpick:(Region.ready .any ops listed)[t % (Region.ready .any ops listed).length]? with
   | none=>
     exfalso
     obtain⟨i,hi⟩:=fp hsz (hR a0).edges hcs hcl
     cases hx:Region.ready .any ops listed with
     | nil=>rw [hx] at hi;cases hi
     | cons x xs=>
       rw [hx] at hpick
       have hlt:t % (x :: xs).length<(x :: xs).length:=Nat.mod_lt _ (by simp)
       rw [zh hlt] at hpick
       cases hpick
   | some i=>
     simp only
     have hmem:=zt hpick
     obtain⟨o,ho,hni,hed⟩:=eu hsz hmem
     rw [linearise_go_acc,List.reverse_singleton,List.singleton_append]
     have hilt:i<ops.size:=(zp.1 ho).1
     have hfalse:listed.toList[i]? =some false:=by
      have hlt:i<listed.size:=by omega
      unfold aI at hni
      rw [zr hlt] at hni
      rw [Array.getElem?_toList,zr hlt]
      simpa using hni
     have hcnt:bm (listed.setIfInBounds i true)+1=bm listed:=by
      unfold bm
      rw [Array.toList_setIfInBounds]
      exact c6 _ _ hfalse
     have hLeq: ∀ j,aI (listed.setIfInBounds i true) j↔(aI listed j∨j=i):=by
      intro j
      unfold aI
      by_cases hji:j=i
      ·subst hji
       rw [Array.getElem?_setIfInBounds_self_of_lt (by omega)]
       simp
      ·rw [Array.getElem?_setIfInBounds_ne (Ne.symm hji)]
       simp [hji]
     have hLL:aI (listed.setIfInBounds i true)=fun j=>aI listed j∨j=i:=funext fun j=>propext (hLeq j)
     by_cases hic:i=c
     ·subst hic
      have hoL:ops.toList[i]? =some o:=by simpa using ho
      obtain⟨r,hr⟩: ∃ r,(Rf a0)[i]? =some r:=⟨_,zh (by rw [(hR a0).len];exact hilt)⟩
      obtain⟨hT,hw⟩:=hI.need (hR a0) ho hni hed hr
      have hrec:=(hR a0).recs i r hr
      have hchain:r.chain=true:=by
       have hmm:=zt hm
       rw [(hR a0).chainR,List.mem_map] at hmm
       obtain⟨r',hr',hi'⟩:=hmm
       rw [List.mem_filter] at hr'
       obtain⟨k',hk'⟩:=List.mem_iff_getElem?.1 hr'.1
       have:=((hR a0).recs k' r' hk').idx
       rw [hi'] at this
       subst this
       rw [hr] at hk'
       simp only [zd] at hk'
       subst hk'
       exact hr'.2
      rw [(hrec.eff hchain).1] at hw
      have hanc:=bg (aI listed) (hR a0).edges (fun i o hi ho'=>hI.closed i o hi ho') i o hoL hed
      have hs:s=m:=by
       have h1: ¬ m<s:=fun hlt=>hni ((hI.chain m i hm).2 hlt)
       rcases Nat.eq_zero_or_pos m with h0|hp
       ·omega
       ·have hlt:m-1<C.length:=by
         have:=(zi.1 hm).1
         omega
        have hprev:C[m-1]? =some C[m-1]:=zh hlt
        have hbit:=eV (hR a0).chain (m-1) C[m-1] i hprev (by rw [show m-1+1=m by omega];exact hm)
        have:=(hI.chain _ _ hprev).1 (hanc _ hbit).1
        omega
      subst hs
      obtain⟨H,n,hQ,hS⟩:=hI.st
      obtain⟨a,hga,e',w',u,H2,n2,ra,hle,hq2,hS2,hra,hu,hst⟩:=hX a0 e w tr (Region.linearise.go .any ops fuel (t / (Region.ready .any ops listed).length) (listed.setIfInBounds i true) []) o r H n hr ho hQ hS hT hw
      have hless: ∀ j,aI listed j→j<i:=fun j hj=>by
       rcases Nat.lt_trichotomy j i with h|h|h
       ·exact h
       ·exact absurd (h ▸ hj) hni
       ·exfalso
        have hjs:j<ops.size:=by
         unfold aI at hj
         have:=(zp.1 hj).1
         omega
        have hoj:ops.toList[j]? =some (ops.toList[j]'(by simpa using hjs)):=zh (by simpa using hjs)
        exact hni (bg (aI listed) (hR a0).edges (fun i o hi ho'=>hI.closed i o hi ho') j _ hoj (hI.closed j _ hj hoj) i (hdesc j h hjs)).1
      have hIa:=hI.turn (R':=Rf a) (Q':=Qf a) (fun k hk=>hRf a a0 k (hless k hk)) (hQf a a0 _ (zA _))
      obtain⟨e1,w1,tr1,s1,hle1,hI1,hst1⟩:=hIa.step (hR a) ho hni hed fn (Region.linearise.go .any ops fuel (t / (Region.ready .any ops listed).length) (listed.setIfInBounds i true) []) k ds kd rof cs (fun r' hr' _ H' n' H2' n2' _ hQ2' _ _ _ _=>by
       rw [hra] at hr'
       simp only [zd] at hr'
       subst hr'
       rw [hq2] at hQ2'
       simp only [zd,zn] at hQ2'
       obtain⟨rfl,rfl⟩:=hQ2'
       exact⟨e',w',u,hle,hS2,hu,hst⟩)
      have hI2:PInv K w0 nt ops T0 (Rf a) (Qf a) C (aI (listed.setIfInBounds i true)) s1 e1 w1 tr1:=by rw [hLL];exact hI1
      obtain⟨e2,w2,tr2,s2,l2,hle2,hs2,ha2,hI3,hst2⟩:=iu hE (hR a) fn k ds kd rof cs fuel _ _ s1 e1 w1 tr1 (by simpa using hsz) (by omega) ((hLeq i).2 (.inr rfl)) hI2
      exact⟨a,hga,e2,w2,tr2,s2,l2,Env.le_trans hle1 hle2,hs2,ha2,hI3,hst1.trans hst2⟩
     ·obtain⟨e1,w1,tr1,s1,hle1,hI1,hst1⟩:=hI.step (hR a0) ho hni hed fn (Region.linearise.go .any ops fuel (t / (Region.ready .any ops listed).length) (listed.setIfInBounds i true) []) k ds kd rof cs (fun r _ _ H n H2 n2 _ _ he hS hT hw=>hE i hic hS hT ho hw he)
      have hI2:PInv K w0 nt ops T0 (Rf a0) (Qf a0) C (aI (listed.setIfInBounds i true)) s1 e1 w1 tr1:=by rw [hLL];exact hI1
      obtain⟨a,hga,e2,w2,tr2,s2,l2,hle2,hs2,ha2,hI3,hst2⟩:=ih _ _ s1 e1 w1 tr1 (by simpa using hsz) (by omega) (fun h=>by
       rcases(hLeq c).1 h with h|h
       ·exact hcl h
       ·exact hic h.symm) hI2
      exact⟨a,hga,e2,w2,tr2,s2,l2,Env.le_trans hle1 hle2,hs2,ha2,hI3,hst1.trans hst2⟩
end
theorem dq{P:Program}{rn:Rn}{nt:Nat}{ops:Array Oper}: ∀ (l:List Oper) {i:Nat} {s s':DS},DrawRun P rn nt ops i l s s'→(∃ x,s'.recs=x ++ s.recs)∧ ∃ y,s'.Hs=y ++ s.Hs
 | [],i,s,s',h=>by cases h;exact⟨⟨[],rfl⟩,[],rfl⟩
 | o :: l,i,s,s',h=>by
   cases h with
   | cons ho h=>
     obtain⟨⟨x,hx⟩,y,hy⟩:=dq l h
     rcases ho with ⟨_,rfl⟩|⟨_,_,v,_,rfl⟩|⟨_,v,H,nx,_,rfl⟩
     ·exact⟨⟨x ++ [_],by rw [hx];simp;rfl⟩,y,hy⟩
     ·exact⟨⟨x ++ [_],by rw [hx];simp;rfl⟩,y,hy⟩
     ·exact⟨⟨x ++ [_],by rw [hx];simp;rfl⟩,y ++ [_],by rw [hy];simp;rfl⟩
def descOk(ancs:List Nat)(c n:Nat):Bool:=(List.range n).all fun j=> !(Nat.blt c j) || (ancs.getD j 0).testBit c
theorem uo{ancs:List Nat}{c n:Nat}(h:descOk ancs c n=true): ∀ j,c<j→j<n→(ancs.getD j 0).testBit c=true:=fun j h1 h2=>by
 unfold descOk at h
 have:=List.all_eq_true.1 h j (List.mem_range.2 h2)
 rw [Bool.or_eq_true] at this
 rcases this with q|q
 ·rw [show Nat.blt c j=true from zm h1] at q
  cases q
 ·exact q
theorem drawN{P:Program}{rn:Rn}{K:Zone}{w0:World}(hrn:f7 P K w0 rn){ops:Array Oper}{nt:Nat}{T:Tr SV}{H:aK}{nx:Nat}{l1 l2:List Oper}{oc:Oper}(hops:ops.toList=l1 ++ oc :: l2)(hro:dY nt ops.toList=true){s1:DS}
 (h1:DrawRun P rn nt ops 0 l1 ⟨T,H,nx,[],[(H,nx)],0⟩ s1) (hwt:aq (aA s1.T (az ops.toList oc)) ops oc=some true) {f:FuncId} {args:List SV} {Q':Pst}
 (hdo:OpDoes P (aA s1.T (az ops.toList oc)) s1.H s1.nx oc (.enter f args,s1.H,s1.nx)) (hnd: ∀ c,oc.op ≠ .defer c) (hcall:fY P rn f args s1.H s1.nx Q') (hde:descOk (bp [] ops.toList) l1.length ops.size=true) {r0:Res} {Kt:DS→Prop}
 (h2: ∀ r:Res,(Q' r∨r=r0)→ ∃ s,DrawRun P rn nt ops (l1.length+1) l2 ⟨gi nt s1.T oc.dst r.1,r.2.1,r.2.2,⟨l1.length,oc,aA s1.T (az ops.toList oc),s1.stg,true,true,r.1⟩ :: s1.recs,(r.2.1,r.2.2) :: s1.Hs,s1.stg+1⟩ s ∧
   cN (bp [] ops.toList) (a7 s)=true∧a7 s=a7 s1 ++ [l1.length]∧nq P ops s∧(Q' r→Kt s))
 (hm:P.follows .mixedOrders=true) {e:Env} {w:World} {tmps:Array Value} (hS:St K w0 e H nx w) (hT:TRel e nt T tmps) (t fn:Nat) (k:List Item) (ds:List Deferred) (kd:CallKind) (rof:Option Nat) (cs:List Frame) :
 ∃ s,Kt s∧ ∃ e' w' tmps',e.le e'∧St K w0 e' s.H s.nx w'∧TRel e' nt s.T tmps' ∧
  Steps P (lone (fr0 fn tmps (.inRegion ops (Region.schedule (P.follows .mixedOrders) ops t) :: k) ds kd rof) cs w) (lone (fr0 fn tmps' (.inRegion ops [] :: k) ds kd rof) cs w'):=by
 simp only [dY,zy] at hro
 obtain⟨hd1,hd2⟩:=ia hro.1
 have hopk:=kH hro.2
 have hdst: ∀ (j:Nat) o d,ops.toList[j]? =some o→o.dst=some d→d<nt:=fun j o d hj hd=>(hd1 j o d hj hd).1
 have hsz:ops.size=l1.length+1+l2.length:=by
  have:=congrArg List.length hops
  simp at this
  omega
 have hocat:ops[l1.length]? =some oc:=by
  have:ops.toList[l1.length]? =some oc:=by rw [hops];simp
  simpa using this
 let E:Nat→Tr SV→aK→Nat→Oper→Res→Prop:=fun i T H nx o r=>i≠l1.length→dP P rn T H nx o r
 have h0:DSOK P E ops T 0 ⟨T,H,nx,[],[(H,nx)],0⟩:=
  ⟨rfl,rfl,rfl,rfl,fun k r hr=>by simp at hr,fun t v hv=> .inr ⟨fun k r hk=>by omega,hv⟩⟩
 have hD1:DSOK P E ops T (0+l1.length) s1:=fg hdst l1 0 _ s1 (fun k o hk=>by
  have hkl:=(zi.1 hk).1
  refine⟨?_,fun T H nx r h _=>h⟩
  have:ops.toList[0+k]? =some o:=by rw [hops,Nat.zero_add,zw hkl];exact hk
  simpa using this) h0 h1
 rw [Nat.zero_add] at hD1
 let sf:=fun(r:Res) (h:Q' r∨r=r0)=>Classical.choose (h2 r h)
 have hsf:=fun(r:Res) (h:Q' r∨r=r0)=>Classical.choose_spec (h2 r h)
 let A:={r:Res // Q' r∨r=r0}
 have hD: ∀ a:A,DSOK P E ops T ops.size (sf a.1 a.2):=fun a=>by
  have hl:=hD1.hs
  have hq: ∀ (j:Nat) x,s1.Hs.reverse[j]? =some x→((a.1.2.1,a.1.2.2) :: s1.Hs).reverse[j]? =some x:=fun j x hj=>by rw [List.reverse_cons];exact fw hj
  have hlast:((a.1.2.1,a.1.2.2) :: s1.Hs).reverse[s1.stg+1]? =some (a.1.2.1,a.1.2.2):=by
   rw [List.reverse_cons]
   have:=cL s1.Hs.reverse (a.1.2.1,a.1.2.2)
   rw [List.length_reverse,hl] at this
   exact this
  have hslots: ∀ t v,(aA s1.T (az ops.toList oc)).at' t=some v→Operand.tmp t∈az ops.toList oc∧Src T (s1.recs.reverse ++ [⟨l1.length,oc,aA s1.T (az ops.toList oc),s1.stg,true,true,a.1.1⟩]) l1.length t v:=by
   intro t v hv
   obtain⟨h1,h2⟩:=fq _ t v hv
   exact⟨h1,(hD1.slots t v h2).mono fun k hk=>zw (by simp [hD1.len];exact hk)⟩
  have hS1:=hD1.snoc (r:=⟨l1.length,oc,aA s1.T (az ops.toList oc),s1.stg,true,true,a.1.1⟩) (H:=a.1.2.1) (nx:=a.1.2.2) hdst hocat (by simp [hl]) hlast hq rfl
   ⟨rfl,hocat,hslots,hwt,fun hc=>(by cases hc),fun _ hc=>(by cases hc),fun _=>⟨rfl,by
     simp only [List.filter_append,zF,List.filter_cons,if_true,List.filter_nil,zC,List.map_nil]
     have:=cL ((s1.recs.reverse.filter (·.chain)).map (·.i)) l1.length
     rw [hD1.cnt] at this
     exact this,s1.H,s1.nx,a.1.2.1,a.1.2.2,hq _ _ hD1.last,hlast,fun h=>absurd rfl h⟩⟩
  have:=fg hdst l2 (l1.length+1) _ _ (fun k o hk=>by
   refine⟨?_,fun T H nx r h _=>h⟩
   have:ops.toList[l1.length+1+k]? =some o:=by
    rw [hops,List.getElem?_append_right (by omega),show l1.length+1+k-l1.length=k+1 by omega,List.getElem?_cons_succ]
    exact hk
   simpa using this) hS1 (hsf a.1 a.2).1
  rw [hsz]
  exact this
 have hC: ∀ a:A,((sf a.1 a.2).recs.reverse.filter (·.chain)).map (·.i)=a7 s1 ++ [l1.length]:=fun a=>(hsf a.1 a.2).2.2.1
 have hR: ∀ a:A,RegOK P E nt ops T (sf a.1 a.2).recs.reverse (sf a.1 a.2).Hs.reverse (a7 s1 ++ [l1.length]):=fun a=>by
  obtain⟨hrun,hch,hcc,hfl,_⟩:=hsf a.1 a.2
  have hDa:=hD a
  have hrecs:=hDa.recs
  have hcnt:=hDa.cnt
  rw [hC a] at hrecs hcnt
  refine⟨by simp [hDa.len],hrecs,by rw [hcnt];simp [hDa.hs],(hC a).symm,by rw [← hcc];exact hch,fun r hr hc hw=>?_,fun i o d hi hd=>(hd1 i o d hi hd).1,hd2,fun i o hi=>?_,fun i o hi=>?_⟩
  ·obtain⟨kk,hkk⟩:=List.mem_iff_getElem?.1 hr
   obtain⟨hnd,H0,n0,hQ0,hf0⟩:=(hrecs kk r hkk).float hw hc
   refine⟨hnd,fun s1' hlo hhi H1 n1 hQ1=>?_⟩
   by_cases hs1:s1'=r.stg
   ·subst hs1
    rw [hQ1] at hQ0
    simp only [zd,zn] at hQ0
    rw [hQ0.1]
    exact hf0
   ·exact hfl r (by simpa using hr) hc hw s1' (by rw [hcc];exact hlo) (by rw [hcc];exact hhi) hs1 H1 n1 hQ1
  ·obtain⟨anc,_,g2,_⟩:=hopk i o hi
   simpa using g2
  ·obtain⟨anc,g1,_,g3⟩:=hopk i o hi
   rw [zu,g1]
   rw [Nat.zero_add] at g3
   exact g3
 have hrec1: ∀ a:A,∃ x,(sf a.1 a.2).recs.reverse=s1.recs.reverse ++ (⟨l1.length,oc,aA s1.T (az ops.toList oc),s1.stg,true,true,a.1.1⟩ :: x):=fun a=>by
  obtain⟨⟨x,hx⟩,_⟩:=dq l2 (hsf a.1 a.2).1
  exact⟨x.reverse,by rw [hx];simp⟩
 have hHs1: ∀ a:A,∃ y,(sf a.1 a.2).Hs.reverse=s1.Hs.reverse ++ ((a.1.2.1,a.1.2.2) :: y):=fun a=>by
  obtain⟨_,y,hy⟩:=dq l2 (hsf a.1 a.2).1
  exact⟨y.reverse,by rw [hy];simp⟩
 have hcl:(a7 s1).length=s1.stg:=hD1.cnt
 have hatc: ∀ a:A,(sf a.1 a.2).recs.reverse[l1.length]? =some ⟨l1.length,oc,aA s1.T (az ops.toList oc),s1.stg,true,true,a.1.1⟩:=fun a=>by
  obtain⟨x,hx⟩:=hrec1 a
  rw [hx,List.getElem?_append_right (by simp [hD1.len])]
  simp [hD1.len]
 have hatQ: ∀ a:A,(sf a.1 a.2).Hs.reverse[s1.stg+1]? =some (a.1.2.1,a.1.2.2):=fun a=>by
  obtain⟨y,hy⟩:=hHs1 a
  rw [hy,List.getElem?_append_right (by simp [hD1.hs])]
  simp [hD1.hs]
 have hatS: ∀ a:A,(sf a.1 a.2).Hs.reverse[s1.stg]? =some (s1.H,s1.nx):=fun a=>by
  obtain⟨y,hy⟩:=hHs1 a
  rw [hy,zw (by simp [hD1.hs])]
  exact hD1.last
 have hE: ∀ i,i≠l1.length→lP P K w0 nt ops E i:=fun i hi=>by
  intro e w H n T tr fn rest k ds kd rof cs o v H2 n2 hS hT ho hw he
  exact ez (P:=P) hrn hS hT ho hw (he hi)
 have hinit: ∀ a:A,PInv K w0 nt ops T (sf a.1 a.2).recs.reverse (sf a.1 a.2).Hs.reverse (a7 s1 ++ [l1.length]) (aI (Array.replicate ops.size false)) 0 e w tmps:=fun a=>by
  have hno: ∀ j,¬ aI (Array.replicate ops.size false) j:=by
   intro j hj
   unfold aI at hj
   rw [Array.getElem?_replicate] at hj
   split at hj <;> simp at hj
  have hQ0:(sf a.1 a.2).Hs.reverse[0]? =some (H,nx):=by
   obtain⟨y,hy⟩:=hHs1 a
   obtain⟨_,z,hz⟩:=dq l1 h1
   rw [hy,hz]
   simp
  refine⟨⟨H,nx,hQ0,hS⟩,hT.1,fun t sv hg=>?_,fun j c hj=>⟨fun hl=>absurd hl (hno c),fun hl=>by omega⟩,fun i o hi=>absurd hi (hno i)⟩
  rcases hg with ⟨k',r',hk',_⟩|⟨_,h2⟩
  ·exact absurd hk' (hno k')
  ·exact hT.2 t sv h2
 have hsched:Region.schedule (P.follows .mixedOrders) ops t=Region.linearise.go .any ops ops.size t (Array.replicate ops.size false) []:=by
  rw [hm]
  rfl
 rw [hsched]
 obtain⟨a,hga,e',w',tr',s',listed',hle,_,hall,hI,hst⟩:=tj (A:=A) (c:=l1.length) (m:=s1.stg) (Rf:=fun a=>(sf a.1 a.2).recs.reverse) (Qf:=fun a=>(sf a.1 a.2).Hs.reverse) (good:=fun a=>Q' a.1) hE hR
  (by rw [List.getElem?_append_right (by omega),hcl];simp) (by omega)
  (fun a b j hj=>by
    obtain⟨x,hx⟩:=hrec1 a
    obtain⟨y,hy⟩:=hrec1 b
    simp only [hx,hy]
    rw [zw (by simp [hD1.len];exact hj),zw (by simp [hD1.len];exact hj)])
  (fun a b j hj=>by
    obtain⟨x,hx⟩:=hHs1 a
    obtain⟨y,hy⟩:=hHs1 b
    simp only [hx,hy]
    rw [zw (by simp [hD1.hs];omega),zw (by simp [hD1.hs];omega)])
  (uo hde) fn k ds kd rof cs
  (fun a0 e w tr rest o r H n hr ho hQ hS hT hw=>by
    rw [hatc a0] at hr
    simp only [zd] at hr
    subst hr
    rw [hocat] at ho
    simp only [zd] at ho
    subst ho
    rw [hatS a0] at hQ
    simp only [zd,zn] at hQ
    obtain⟨rfl,rfl⟩:=hQ
    have hEv:=TRel.ev (fr:=fr0 fn tr (.inRegion ops (l1.length :: rest) :: k) ds kd rof) hT
    obtain⟨e1,w1,hle,hS1,hrun⟩:=hdo _ _ _ _ _ hS hEv
    obtain⟨vs,hvs,hres⟩:=hrun
    obtain⟨r,hr,e2,w2,u,g1,g2,g3,g4⟩:=ig (gz hrn hcall hS1 hvs (kd:= .normal) (cs:=fr0 fn tr (.inRegion ops (l1.length :: rest) :: k) ds kd rof :: cs) ⟨rfl,.inl rfl⟩)
    refine⟨⟨r,.inl hr⟩,hr,e2,w2,u,r.2.1,r.2.2,_,Env.le_trans hle g1,hatQ ⟨r,.inl hr⟩,g2,hatc ⟨r,.inl hr⟩,g3,?_⟩
    rw [cM hocat] at g4
    refine .head (step_lone_go ?_) g4
    rw [eS hocat hw (.inr hnd)]
    simp only [stepG.apply,Sem.runT_eq,if_true,hres,GStep.bare_after,GStep.bare_go]
    rfl)
  ⟨r0,.inr rfl⟩ ops.size t (Array.replicate ops.size false) 0 e w tmps (by simp) (by unfold bm;simp) (by
    intro hj
    unfold aI at hj
    rw [Array.getElem?_replicate] at hj
    split at hj <;> simp at hj) (hinit _)
 have hDa:=hD a
 have hs':s'=(sf a.1 a.2).stg:=by
  obtain⟨H1,n1,hQ1,_⟩:=hI.st
  have hle1:s'≤(sf a.1 a.2).stg:=by
   have:=(zi.1 hQ1).1
   simp [hDa.hs] at this
   omega
  have hcnt:=hDa.cnt
  rw [hC a] at hcnt
  rcases Nat.lt_or_ge s' (sf a.1 a.2).stg with hlt|hge
  ·exfalso
   obtain⟨c,hc⟩: ∃ c,(a7 s1 ++ [l1.length])[s']? =some c:=⟨_,zh (by rw [hcnt];exact hlt)⟩
   have hcl':c<ops.size:=by
    have hcm:=zt hc
    rw [← hC a,List.mem_map] at hcm
    obtain⟨r',hr',rfl⟩:=hcm
    rw [List.mem_filter] at hr'
    obtain⟨k',hk'⟩:=List.mem_iff_getElem?.1 hr'.1
    have hx:=hDa.recs k' r' hk'
    rw [hx.idx]
    exact(zp.1 hx.op).1
   have:=(hI.chain s' c hc).1 (hall c hcl')
   omega
  ·omega
 subst hs'
 obtain⟨H1,n1,hQ1,hS1⟩:=hI.st
 rw [hDa.last] at hQ1
 simp only [zd,zn] at hQ1
 obtain⟨rfl,rfl⟩:=hQ1
 refine⟨_,(hsf a.1 a.2).2.2.2.2 hga,e',w',tr',hle,hS1,⟨hI.size,fun t sv ht=>hI.good t sv ?_⟩,hst⟩
 rcases hDa.slots t sv ht with ⟨k',r',h1,h2,h3,h4⟩|⟨h1,h2⟩
 ·exact .inl ⟨k',r',hall k' h1,h2,h3,h4⟩
 ·refine .inr ⟨fun k' r' _ hr'=>?_,h2⟩
  have hlt:=(zi.1 hr').1
  rw [List.length_reverse,hDa.len] at hlt
  exact h1 k' r' hlt hr'
end Go.Sy.Nd
end
section
namespace Go.Sy
open Go Go.Sl Go.RowKit
section
variable {P:Program} {ro:Option Nat} {fn nt nx:Nat} {T:Tr SV} {k:List AIt} {dfs:List ADf} {H:aK} {Q:Pst}
structure TailK (P:Program) (ro:Option Nat) (fn nt:Nat) (k:List AIt) (dfs:List ADf) (Q:Pst) (opl:List Oper) (n:Nat) (oc:Oper) (s1:DS):Prop where
 ex:aq (aA s1.T (az opl oc)) opl.toArray oc=some true∧ ∃ (f:FuncId) (args:List SV) (Q':Pst) (r0:Res),OpDoes P (aA s1.T (az opl oc)) s1.H s1.nx oc (.enter f args,s1.H,s1.nx)∧(∀ c,oc.op ≠ .defer c)∧fY P (wpr P) f args s1.H s1.nx Q' ∧
  (∀ r:Res,Q' r→DrawK P nt opl.toArray (n+1) (opl.drop (n+1)) ⟨gi nt s1.T oc.dst r.1,r.2.1,r.2.2,⟨n,oc,aA s1.T (az opl oc),s1.stg,true,true,r.1⟩ :: s1.recs,(r.2.1,r.2.2) :: s1.Hs,s1.stg+1⟩
    (fun s=>cN (bp [] opl) (a7 s)=true∧a7 s=a7 s1 ++ [n]∧FlOk P (bp [] opl) (a7 s) s.Hs s.recs∧Wp P ro ⟨fn,nt,s.T,k,dfs,s.H,s.nx⟩ Q)) ∧
  DrawK P nt opl.toArray (n+1) (opl.drop (n+1)) ⟨gi nt s1.T oc.dst r0.1,r0.2.1,r0.2.2,⟨n,oc,aA s1.T (az opl oc),s1.stg,true,true,r0.1⟩ :: s1.recs,(r0.2.1,r0.2.2) :: s1.Hs,s1.stg+1⟩
   (fun s=>cN (bp [] opl) (a7 s)=true∧a7 s=a7 s1 ++ [n]∧FlOk P (bp [] opl) (a7 s) s.Hs s.recs)
theorem xb{id:Nat}{opl:List Oper}(n:Nat){oc:Oper}(hm:P.follows .mixedOrders=true)(hr:dY nt opl=true)(hde:Nd.descOk (bp [] opl) n opl.length=true)(hoc:opl[n]? =some oc)
 (h:DrawK P nt opl.toArray 0 (opl.take n) ⟨T,H,nx,[],[(H,nx)],0⟩ (TailK P ro fn nt k dfs Q opl n oc)) :
 Wp P ro ⟨fn,nt,T,.code (.region id opl.toArray true) :: k,dfs,H,nx⟩ Q:=by
 obtain⟨s1,hrun1,hK⟩:=h.ex
 obtain⟨hw,f,args,Q',r0,hdo,hnd,hcall,h1,h0⟩:=hK.ex
 have hlt:n<opl.length:=(zi.1 hoc).1
 have hnl:(opl.take n).length=n:=by rw [List.length_take];omega
 have hops:opl=opl.take n ++ oc :: opl.drop (n+1):=by
  have hg:opl[n]=oc:=(zi.1 hoc).2
  rw [← hg,List.getElem_cons_drop,List.take_append_drop]
 refine⟨fun K w0 e w tmps todo ds kd rof cs hS hT ht hd hc=>?_⟩
 obtain⟨it,k',rfl,hi,hk⟩:=ht.cons
 have hi:it=Item.code (.region id opl.toArray true):=hi
 subst hi
 obtain⟨s,hKt,e',w',tmps',g1,g2,g3,g4⟩:=Nd.drawN (ops:=opl.toArray) (l1:=opl.take n) (l2:=opl.drop (n+1)) (oc:=oc) (T:=T) (H:=H) (nx:=nx) (nt:=nt) (r0:=r0) (Q':=Q') (Kt:=fun s=>Wp P ro ⟨fn,nt,s.T,k,dfs,s.H,s.nx⟩ Q) (jJ K w0) hops hr hrun1 hw hdo hnd hcall (by rw [hnl];simpa using hde)
  (fun r hr=>by
    rw [hnl]
    by_cases hq:Q' r
    ·obtain⟨s,q1,q2,q3,q4,q5⟩:=(h1 r hq).ex
     exact⟨s,q1,q2,q3,fun r hr=>FlOk.ok q4 r hr,fun _=>q5⟩
    ·have hr:=hr.resolve_left hq
     subst hr
     obtain⟨s,q1,q2,q3,q4⟩:=h0.ex
     exact⟨s,q1,q2,q3,fun r hr=>FlOk.ok q4 r hr,fun h=>absurd h hq⟩) hm (w:={w with drawn:=w.drawn+1}) hS.drew hT (w.tape w.drawn (.order fn id)) fn k' ds kd rof cs
 exact(hKt.run K w0 e' w' tmps' k' ds kd rof cs g2 g3 (hk.mono g1) (hd.mono g1) (hc.mono g1)).pre (.head px (g4.trans (.one fk))) g1 rfl rfl (fun _ hr=>hr)
theorem xc{opl:List Oper}{n:Nat}{s1:DS}{ty:TypeId}{pos:String}{af:Array Edge}{gd:Option (Nat×Bool)}{g:FuncId}{as1:List Operand}{ats:Array TypeId}{args:List SV}{Q':Pst}{dd:Nat}
 (hw:aq (aA s1.T (az opl ⟨some dd,.call {callee:= .value (.func g),args:=as1.toArray,argTypes:=ats},ty,pos,af,gd⟩)) opl.toArray ⟨some dd,.call {callee:= .value (.func g),args:=as1.toArray,argTypes:=ats},ty,pos,af,gd⟩=some true) (hd:Nat.blt dd nt=true)
 (ha:dQ (aA s1.T (az opl ⟨some dd,.call {callee:= .value (.func g),args:=as1.toArray,argTypes:=ats},ty,pos,af,gd⟩)) as1=some args) (hm:bZ P g=true) (hr:Fnc P g args s1.H s1.nx Q') (r0:Res)
 (h1: ∀ r:Res,Q' r→DrawK P nt opl.toArray (n+1) (opl.drop (n+1)) ⟨s1.T.set dd r.1,r.2.1,r.2.2,⟨n,⟨some dd,.call {callee:= .value (.func g),args:=as1.toArray,argTypes:=ats},ty,pos,af,gd⟩,aA s1.T (az opl ⟨some dd,.call {callee:= .value (.func g),args:=as1.toArray,argTypes:=ats},ty,pos,af,gd⟩),s1.stg,true,true,r.1⟩ :: s1.recs,(r.2.1,r.2.2) :: s1.Hs,s1.stg+1⟩
   (fun s=>cN (bp [] opl) (a7 s)=true∧a7 s=a7 s1 ++ [n]∧FlOk P (bp [] opl) (a7 s) s.Hs s.recs∧Wp P ro ⟨fn,nt,s.T,k,dfs,s.H,s.nx⟩ Q))
 (h0:DrawK P nt opl.toArray (n+1) (opl.drop (n+1)) ⟨s1.T.set dd r0.1,r0.2.1,r0.2.2,⟨n,⟨some dd,.call {callee:= .value (.func g),args:=as1.toArray,argTypes:=ats},ty,pos,af,gd⟩,aA s1.T (az opl ⟨some dd,.call {callee:= .value (.func g),args:=as1.toArray,argTypes:=ats},ty,pos,af,gd⟩),s1.stg,true,true,r0.1⟩ :: s1.recs,(r0.2.1,r0.2.2) :: s1.Hs,s1.stg+1⟩
   (fun s=>cN (bp [] opl) (a7 s)=true∧a7 s=a7 s1 ++ [n]∧FlOk P (bp [] opl) (a7 s) s.Hs s.recs)) :
 TailK P ro fn nt k dfs Q opl n ⟨some dd,.call {callee:= .value (.func g),args:=as1.toArray,argTypes:=ats},ty,pos,af,gd⟩ s1:=
 ⟨hw,g,args,Q',r0,pJ ha hm,fun c hc=>(by cases hc),hr,fun r hq=>by rw [aC hd];exact h1 r hq,by rw [aC hd];exact h0⟩
end
end Go.Sy
end
section
namespace Go.Sy.Nd
open Go Go.Sy Go.Sl Go.RowKit
def descOkX(ancs:List Nat)(js:List Nat)(c n:Nat):Bool:=(List.range n).all fun j=> !(Nat.blt c j) || js.contains j || (ancs.getD j 0).testBit c
theorem rZ{ancs:List Nat}{c n:Nat}{X:List (Nat×Tr SV×Nat×SV)}(h:descOkX ancs (X.map (·.1)) c n=true): ∀ j,c<j→j<n→(∃ x∈X,x.1=j)∨(ancs.getD j 0).testBit c=true:=fun j h1 h2=>by
 unfold descOkX at h
 have:=List.all_eq_true.1 h j (List.mem_range.2 h2)
 rw [Bool.or_eq_true,Bool.or_eq_true] at this
 rcases this with (q|q)|q
 ·rw [show Nat.blt c j=true from zm h1] at q
  cases q
 ·rw [List.contains_iff_mem] at q
  obtain⟨x,hx,e⟩:=List.mem_map.1 q
  exact .inl ⟨x,hx,e⟩
 ·exact .inr q
def XOk(ops:Array Oper)(X:List (Nat×Tr SV×Nat×SV))(s:DS):Prop:= ∀ x∈X,s.recs.reverse[x.1]? =(ops[x.1]?).map fun o=>⟨x.1,o,x.2.1,x.2.2.1,false,true,x.2.2.2⟩
theorem XOk.one{ops:Array Oper}{x:Nat×Tr SV×Nat×SV}{s:DS}(h:s.recs.reverse[x.1]? =(ops[x.1]?).map fun o=>⟨x.1,o,x.2.1,x.2.2.1,false,true,x.2.2.2⟩):XOk ops [x] s:=fun y hy=>by
 rw [List.mem_singleton] at hy
 subst hy
 exact h
section
variable {P:Program} {K:Zone} {w0 w:World} {e:Env} {E:Nat→Tr SV→aK→Nat→Oper→Res→Prop} {nt:Nat} {ops:Array Oper} {T0:Tr SV} {R:List Rec} {Q:List (aK×Nat)} {C:List Nat}
theorem tn{A:Type}{J:Nat→Prop}{c m:Nat}{Rf:A→List Rec}{Qf:A→List (aK×Nat)}{good:A→Prop}(hE: ∀ i,i≠c→lP P K w0 nt ops E i)(hR: ∀ a,RegOK P E nt ops T0 (Rf a) (Qf a) C)
 (hm:C[m]? =some c) (hcs:c<ops.size) (hRf: ∀ a b k,(k<c∨J k)→(Rf a)[k]? =(Rf b)[k]?) (hQf: ∀ a b k,k≤m→(Qf a)[k]? =(Qf b)[k]?)
 (hdesc: ∀ j,c<j→j<ops.size→J j∨((bp [] ops.toList).getD j 0).testBit c=true) (fn:FuncId) (k:List Item) (ds:List Deferred) (kd:CallKind) (rof:Option Nat) (cs:List Frame)
 (hX: ∀ (a0:A) (e:Env) (w:World) (tr:Array Value) (rest:List Nat) (o:Oper) (r:Rec) (H:aK) (n:Nat),(Rf a0)[c]? =some r→ops[c]? =some o→(Qf a0)[m]? =some (H,n)→St K w0 e H n w→TRel e nt r.T tr→Region.wanted o (yielded ops tr)=true →
   ∃ a,good a∧ ∃ e' w' u H2 n2 ra,e.le e'∧(Qf a)[m+1]? =some (H2,n2)∧St K w0 e' H2 n2 w'∧(Rf a)[c]? =some ra∧ra.val.conc e'=some u ∧
    Steps P (lone (fr0 fn tr (.inRegion ops (c :: rest) :: k) ds kd rof) cs w) (lone (fr0 fn (fL tr o.dst u) (.inRegion ops rest :: k) ds kd rof) cs w')) (a0:A) :
 ∀ (fuel t:Nat) (listed:Array Bool) (s:Nat) (e:Env) (w:World) (tr:Array Value),
 listed.size=ops.size→bm listed≤fuel→ ¬ aI listed c→PInv K w0 nt ops T0 (Rf a0) (Qf a0) C (aI listed) s e w tr →
 ∃ a,good a∧ ∃ e' w' tr' s' listed',e.le e'∧listed'.size=ops.size∧(∀ j,j<ops.size→aI listed' j)∧PInv K w0 nt ops T0 (Rf a) (Qf a) C (aI listed') s' e' w' tr' ∧
  Steps P (lone (fr0 fn tr (.inRegion ops (Region.linearise.go .any ops fuel t listed []) :: k) ds kd rof) cs w) (lone (fr0 fn tr' (.inRegion ops [] :: k) ds kd rof) cs w'):=by
 intro fuel
 induction fuel with
 | zero=>
   intro t listed s e w tr hsz hun hcl hI
   exfalso
   have hlt:c<listed.size:=by omega
   unfold aI at hcl
   rw [zr hlt] at hcl
   cases hb:listed[c] with
   | true=>rw [hb] at hcl;exact hcl rfl
   | false=>
     have:0<listed.toList.count false:=List.count_pos_iff.2 (by rw [← hb];simp)
     unfold bm at hun
     omega
 | succ fuel ih=>
   intro t listed s e w tr hsz hun hcl hI
   simp only [Region.linearise.go]
   change ∃ a,good a∧ ∃ e' w' tr' s' listed',_∧_∧_∧_∧Steps P (lone (fr0 fn tr (.inRegion ops (match (Region.ready .any ops listed)[t % (Region.ready .any ops listed).length]? with
    | some i=>Region.linearise.go .any ops fuel (t / (Region.ready .any ops listed).length) (listed.setIfInBounds i true) [i]
    | none=> [].reverse) :: k) ds kd rof) cs w) _
   cases hpick:(Region.ready .any ops listed)[t % (Region.ready .any ops listed).length]? with
   | none=>
     exfalso
     obtain⟨i,hi⟩:=fp hsz (hR a0).edges hcs hcl
     cases hx:Region.ready .any ops listed with
     | nil=>rw [hx] at hi;cases hi
     | cons x xs=>
       rw [hx] at hpick
       have hlt:t % (x :: xs).length<(x :: xs).length:=Nat.mod_lt _ (by simp)
       rw [zh hlt] at hpick
       cases hpick
   | some i=>
     simp only
     have hmem:=zt hpick
     obtain⟨o,ho,hni,hed⟩:=eu hsz hmem
     rw [linearise_go_acc,List.reverse_singleton,List.singleton_append]
     have hilt:i<ops.size:=(zp.1 ho).1
     have hfalse:listed.toList[i]? =some false:=by
      have hlt:i<listed.size:=by omega
      unfold aI at hni
      rw [zr hlt] at hni
      rw [Array.getElem?_toList,zr hlt]
      simpa using hni
     have hcnt:bm (listed.setIfInBounds i true)+1=bm listed:=by
      unfold bm
      rw [Array.toList_setIfInBounds]
      exact c6 _ _ hfalse
     have hLeq: ∀ j,aI (listed.setIfInBounds i true) j↔(aI listed j∨j=i):=by
      intro j
      unfold aI
      by_cases hji:j=i
      ·subst hji
       rw [Array.getElem?_setIfInBounds_self_of_lt (by omega)]
       simp
      ·rw [Array.getElem?_setIfInBounds_ne (Ne.symm hji)]
       simp [hji]
     have hLL:aI (listed.setIfInBounds i true)=fun j=>aI listed j∨j=i:=funext fun j=>propext (hLeq j)
     by_cases hic:i=c
     ·subst hic
      have hoL:ops.toList[i]? =some o:=by simpa using ho
      obtain⟨r,hr⟩: ∃ r,(Rf a0)[i]? =some r:=⟨_,zh (by rw [(hR a0).len];exact hilt)⟩
      obtain⟨hT,hw⟩:=hI.need (hR a0) ho hni hed hr
      have hrec:=(hR a0).recs i r hr
      have hchain:r.chain=true:=by
       have hmm:=zt hm
       rw [(hR a0).chainR,List.mem_map] at hmm
       obtain⟨r',hr',hi'⟩:=hmm
       rw [List.mem_filter] at hr'
       obtain⟨k',hk'⟩:=List.mem_iff_getElem?.1 hr'.1
       have:=((hR a0).recs k' r' hk').idx
       rw [hi'] at this
       subst this
       rw [hr] at hk'
       simp only [zd] at hk'
       subst hk'
       exact hr'.2
      rw [(hrec.eff hchain).1] at hw
      have hanc:=bg (aI listed) (hR a0).edges (fun i o hi ho'=>hI.closed i o hi ho') i o hoL hed
      have hs:s=m:=by
       have h1: ¬ m<s:=fun hlt=>hni ((hI.chain m i hm).2 hlt)
       rcases Nat.eq_zero_or_pos m with h0|hp
       ·omega
       ·have hlt:m-1<C.length:=by
         have:=(zi.1 hm).1
         omega
        have hprev:C[m-1]? =some C[m-1]:=zh hlt
        have hbit:=eV (hR a0).chain (m-1) C[m-1] i hprev (by rw [show m-1+1=m by omega];exact hm)
        have:=(hI.chain _ _ hprev).1 (hanc _ hbit).1
        omega
      subst hs
      obtain⟨H,n,hQ,hS⟩:=hI.st
      obtain⟨a,hga,e',w',u,H2,n2,ra,hle,hq2,hS2,hra,hu,hst⟩:=hX a0 e w tr (Region.linearise.go .any ops fuel (t / (Region.ready .any ops listed).length) (listed.setIfInBounds i true) []) o r H n hr ho hQ hS hT hw
      have hless: ∀ j,aI listed j→(j<i∨J j):=fun j hj=>by
       rcases Nat.lt_trichotomy j i with h|h|h
       ·exact .inl h
       ·exact absurd (h ▸ hj) hni
       ·have hjs:j<ops.size:=by
         unfold aI at hj
         have:=(zp.1 hj).1
         omega
        have hoj:ops.toList[j]? =some (ops.toList[j]'(by simpa using hjs)):=zh (by simpa using hjs)
        rcases hdesc j h hjs with hJ|hbit
        ·exact .inr hJ
        ·exfalso
         exact hni (bg (aI listed) (hR a0).edges (fun i o hi ho'=>hI.closed i o hi ho') j _ hoj (hI.closed j _ hj hoj) i hbit).1
      have hIa:=hI.turn (R':=Rf a) (Q':=Qf a) (fun k hk=>hRf a a0 k (hless k hk)) (hQf a a0 _ (zA _))
      obtain⟨e1,w1,tr1,s1,hle1,hI1,hst1⟩:=hIa.step (hR a) ho hni hed fn (Region.linearise.go .any ops fuel (t / (Region.ready .any ops listed).length) (listed.setIfInBounds i true) []) k ds kd rof cs (fun r' hr' _ H' n' H2' n2' _ hQ2' _ _ _ _=>by
       rw [hra] at hr'
       simp only [zd] at hr'
       subst hr'
       rw [hq2] at hQ2'
       simp only [zd,zn] at hQ2'
       obtain⟨rfl,rfl⟩:=hQ2'
       exact⟨e',w',u,hle,hS2,hu,hst⟩)
      have hI2:PInv K w0 nt ops T0 (Rf a) (Qf a) C (aI (listed.setIfInBounds i true)) s1 e1 w1 tr1:=by rw [hLL];exact hI1
      obtain⟨e2,w2,tr2,s2,l2,hle2,hs2,ha2,hI3,hst2⟩:=iu hE (hR a) fn k ds kd rof cs fuel _ _ s1 e1 w1 tr1 (by simpa using hsz) (by omega) ((hLeq i).2 (.inr rfl)) hI2
      exact⟨a,hga,e2,w2,tr2,s2,l2,Env.le_trans hle1 hle2,hs2,ha2,hI3,hst1.trans hst2⟩
     ·obtain⟨e1,w1,tr1,s1,hle1,hI1,hst1⟩:=hI.step (hR a0) ho hni hed fn (Region.linearise.go .any ops fuel (t / (Region.ready .any ops listed).length) (listed.setIfInBounds i true) []) k ds kd rof cs (fun r _ _ H n H2 n2 _ _ he hS hT hw=>hE i hic hS hT ho hw he)
      have hI2:PInv K w0 nt ops T0 (Rf a0) (Qf a0) C (aI (listed.setIfInBounds i true)) s1 e1 w1 tr1:=by rw [hLL];exact hI1
      obtain⟨a,hga,e2,w2,tr2,s2,l2,hle2,hs2,ha2,hI3,hst2⟩:=ih _ _ s1 e1 w1 tr1 (by simpa using hsz) (by omega) (fun h=>by
       rcases(hLeq c).1 h with h|h
       ·exact hcl h
       ·exact hic h.symm) hI2
      exact⟨a,hga,e2,w2,tr2,s2,l2,Env.le_trans hle1 hle2,hs2,ha2,hI3,hst1.trans hst2⟩
end
theorem drawM{X:List (Nat×Tr SV×Nat×SV)}{rest:List Nat}{P:Program}{rn:Rn}{K:Zone}{w0:World}(hrn:f7 P K w0 rn){ops:Array Oper}{nt:Nat}{T:Tr SV}{H:aK}{nx:Nat}{l1 l2:List Oper}{oc:Oper}(hops:ops.toList=l1 ++ oc :: l2)(hro:dY nt ops.toList=true){s1:DS}
 (h1:DrawRun P rn nt ops 0 l1 ⟨T,H,nx,[],[(H,nx)],0⟩ s1) (hwt:aq (aA s1.T (az ops.toList oc)) ops oc=some true) {f:FuncId} {args:List SV} {Q':Pst}
 (hdo:OpDoes P (aA s1.T (az ops.toList oc)) s1.H s1.nx oc (.enter f args,s1.H,s1.nx)) (hnd: ∀ c,oc.op ≠ .defer c) (hcall:fY P rn f args s1.H s1.nx Q') (hde:descOkX (bp [] ops.toList) (X.map (·.1)) l1.length ops.size=true) {r0:Res} {Kt:DS→Prop}
 (h2: ∀ r:Res,(Q' r∨r=r0)→ ∃ s,DrawRun P rn nt ops (l1.length+1) l2 ⟨gi nt s1.T oc.dst r.1,r.2.1,r.2.2,⟨l1.length,oc,aA s1.T (az ops.toList oc),s1.stg,true,true,r.1⟩ :: s1.recs,(r.2.1,r.2.2) :: s1.Hs,s1.stg+1⟩ s ∧
   cN (bp [] ops.toList) (a7 s)=true∧a7 s=a7 s1 ++ (l1.length :: rest)∧nq P ops s∧(Q' r→Kt s)∧XOk ops X s)
 (hm:P.follows .mixedOrders=true) {e:Env} {w:World} {tmps:Array Value} (hS:St K w0 e H nx w) (hT:TRel e nt T tmps) (t fn:Nat) (k:List Item) (ds:List Deferred) (kd:CallKind) (rof:Option Nat) (cs:List Frame) :
 ∃ s,Kt s∧ ∃ e' w' tmps',e.le e'∧St K w0 e' s.H s.nx w'∧TRel e' nt s.T tmps' ∧
  Steps P (lone (fr0 fn tmps (.inRegion ops (Region.schedule (P.follows .mixedOrders) ops t) :: k) ds kd rof) cs w) (lone (fr0 fn tmps' (.inRegion ops [] :: k) ds kd rof) cs w'):=by
 simp only [dY,zy] at hro
 obtain⟨hd1,hd2⟩:=ia hro.1
 have hopk:=kH hro.2
 have hdst: ∀ (j:Nat) o d,ops.toList[j]? =some o→o.dst=some d→d<nt:=fun j o d hj hd=>(hd1 j o d hj hd).1
 have hsz:ops.size=l1.length+1+l2.length:=by
  have:=congrArg List.length hops
  simp at this
  omega
 have hocat:ops[l1.length]? =some oc:=by
  have:ops.toList[l1.length]? =some oc:=by rw [hops];simp
  simpa using this
 let E:Nat→Tr SV→aK→Nat→Oper→Res→Prop:=fun i T H nx o r=>i≠l1.length→dP P rn T H nx o r
 have h0:DSOK P E ops T 0 ⟨T,H,nx,[],[(H,nx)],0⟩:=
  ⟨rfl,rfl,rfl,rfl,fun k r hr=>by simp at hr,fun t v hv=> .inr ⟨fun k r hk=>by omega,hv⟩⟩
 have hD1:DSOK P E ops T (0+l1.length) s1:=fg hdst l1 0 _ s1 (fun k o hk=>by
  have hkl:=(zi.1 hk).1
  refine⟨?_,fun T H nx r h _=>h⟩
  have:ops.toList[0+k]? =some o:=by rw [hops,Nat.zero_add,zw hkl];exact hk
  simpa using this) h0 h1
 rw [Nat.zero_add] at hD1
 let sf:=fun(r:Res) (h:Q' r∨r=r0)=>Classical.choose (h2 r h)
 have hsf:=fun(r:Res) (h:Q' r∨r=r0)=>Classical.choose_spec (h2 r h)
 let A:={r:Res // Q' r∨r=r0}
 have hD: ∀ a:A,DSOK P E ops T ops.size (sf a.1 a.2):=fun a=>by
  have hl:=hD1.hs
  have hq: ∀ (j:Nat) x,s1.Hs.reverse[j]? =some x→((a.1.2.1,a.1.2.2) :: s1.Hs).reverse[j]? =some x:=fun j x hj=>by rw [List.reverse_cons];exact fw hj
  have hlast:((a.1.2.1,a.1.2.2) :: s1.Hs).reverse[s1.stg+1]? =some (a.1.2.1,a.1.2.2):=by
   rw [List.reverse_cons]
   have:=cL s1.Hs.reverse (a.1.2.1,a.1.2.2)
   rw [List.length_reverse,hl] at this
   exact this
  have hslots: ∀ t v,(aA s1.T (az ops.toList oc)).at' t=some v→Operand.tmp t∈az ops.toList oc∧Src T (s1.recs.reverse ++ [⟨l1.length,oc,aA s1.T (az ops.toList oc),s1.stg,true,true,a.1.1⟩]) l1.length t v:=by
   intro t v hv
   obtain⟨h1,h2⟩:=fq _ t v hv
   exact⟨h1,(hD1.slots t v h2).mono fun k hk=>zw (by simp [hD1.len];exact hk)⟩
  have hS1:=hD1.snoc (r:=⟨l1.length,oc,aA s1.T (az ops.toList oc),s1.stg,true,true,a.1.1⟩) (H:=a.1.2.1) (nx:=a.1.2.2) hdst hocat (by simp [hl]) hlast hq rfl
   ⟨rfl,hocat,hslots,hwt,fun hc=>(by cases hc),fun _ hc=>(by cases hc),fun _=>⟨rfl,by
     simp only [List.filter_append,zF,List.filter_cons,if_true,List.filter_nil,zC,List.map_nil]
     have:=cL ((s1.recs.reverse.filter (·.chain)).map (·.i)) l1.length
     rw [hD1.cnt] at this
     exact this,s1.H,s1.nx,a.1.2.1,a.1.2.2,hq _ _ hD1.last,hlast,fun h=>absurd rfl h⟩⟩
  have:=fg hdst l2 (l1.length+1) _ _ (fun k o hk=>by
   refine⟨?_,fun T H nx r h _=>h⟩
   have:ops.toList[l1.length+1+k]? =some o:=by
    rw [hops,List.getElem?_append_right (by omega),show l1.length+1+k-l1.length=k+1 by omega,List.getElem?_cons_succ]
    exact hk
   simpa using this) hS1 (hsf a.1 a.2).1
  rw [hsz]
  exact this
 have hC: ∀ a:A,((sf a.1 a.2).recs.reverse.filter (·.chain)).map (·.i)=a7 s1 ++ (l1.length :: rest):=fun a=>(hsf a.1 a.2).2.2.1
 have hR: ∀ a:A,RegOK P E nt ops T (sf a.1 a.2).recs.reverse (sf a.1 a.2).Hs.reverse (a7 s1 ++ (l1.length :: rest)):=fun a=>by
  obtain⟨hrun,hch,hcc,hfl,_⟩:=hsf a.1 a.2
  have hDa:=hD a
  have hrecs:=hDa.recs
  have hcnt:=hDa.cnt
  rw [hC a] at hrecs hcnt
  refine⟨by simp [hDa.len],hrecs,by rw [hcnt];simp [hDa.hs],(hC a).symm,by rw [← hcc];exact hch,fun r hr hc hw=>?_,fun i o d hi hd=>(hd1 i o d hi hd).1,hd2,fun i o hi=>?_,fun i o hi=>?_⟩
  ·obtain⟨kk,hkk⟩:=List.mem_iff_getElem?.1 hr
   obtain⟨hnd,H0,n0,hQ0,hf0⟩:=(hrecs kk r hkk).float hw hc
   refine⟨hnd,fun s1' hlo hhi H1 n1 hQ1=>?_⟩
   by_cases hs1:s1'=r.stg
   ·subst hs1
    rw [hQ1] at hQ0
    simp only [zd,zn] at hQ0
    rw [hQ0.1]
    exact hf0
   ·exact hfl r (by simpa using hr) hc hw s1' (by rw [hcc];exact hlo) (by rw [hcc];exact hhi) hs1 H1 n1 hQ1
  ·obtain⟨anc,_,g2,_⟩:=hopk i o hi
   simpa using g2
  ·obtain⟨anc,g1,_,g3⟩:=hopk i o hi
   rw [zu,g1]
   rw [Nat.zero_add] at g3
   exact g3
 have hrec1: ∀ a:A,∃ x,(sf a.1 a.2).recs.reverse=s1.recs.reverse ++ (⟨l1.length,oc,aA s1.T (az ops.toList oc),s1.stg,true,true,a.1.1⟩ :: x):=fun a=>by
  obtain⟨⟨x,hx⟩,_⟩:=dq l2 (hsf a.1 a.2).1
  exact⟨x.reverse,by rw [hx];simp⟩
 have hHs1: ∀ a:A,∃ y,(sf a.1 a.2).Hs.reverse=s1.Hs.reverse ++ ((a.1.2.1,a.1.2.2) :: y):=fun a=>by
  obtain⟨_,y,hy⟩:=dq l2 (hsf a.1 a.2).1
  exact⟨y.reverse,by rw [hy];simp⟩
 have hcl:(a7 s1).length=s1.stg:=hD1.cnt
 have hatc: ∀ a:A,(sf a.1 a.2).recs.reverse[l1.length]? =some ⟨l1.length,oc,aA s1.T (az ops.toList oc),s1.stg,true,true,a.1.1⟩:=fun a=>by
  obtain⟨x,hx⟩:=hrec1 a
  rw [hx,List.getElem?_append_right (by simp [hD1.len])]
  simp [hD1.len]
 have hatQ: ∀ a:A,(sf a.1 a.2).Hs.reverse[s1.stg+1]? =some (a.1.2.1,a.1.2.2):=fun a=>by
  obtain⟨y,hy⟩:=hHs1 a
  rw [hy,List.getElem?_append_right (by simp [hD1.hs])]
  simp [hD1.hs]
 have hatS: ∀ a:A,(sf a.1 a.2).Hs.reverse[s1.stg]? =some (s1.H,s1.nx):=fun a=>by
  obtain⟨y,hy⟩:=hHs1 a
  rw [hy,zw (by simp [hD1.hs])]
  exact hD1.last
 have hE: ∀ i,i≠l1.length→lP P K w0 nt ops E i:=fun i hi=>by
  intro e w H n T tr fn rest k ds kd rof cs o v H2 n2 hS hT ho hw he
  exact ez (P:=P) hrn hS hT ho hw (he hi)
 have hinit: ∀ a:A,PInv K w0 nt ops T (sf a.1 a.2).recs.reverse (sf a.1 a.2).Hs.reverse (a7 s1 ++ (l1.length :: rest)) (aI (Array.replicate ops.size false)) 0 e w tmps:=fun a=>by
  have hno: ∀ j,¬ aI (Array.replicate ops.size false) j:=by
   intro j hj
   unfold aI at hj
   rw [Array.getElem?_replicate] at hj
   split at hj <;> simp at hj
  have hQ0:(sf a.1 a.2).Hs.reverse[0]? =some (H,nx):=by
   obtain⟨y,hy⟩:=hHs1 a
   obtain⟨_,z,hz⟩:=dq l1 h1
   rw [hy,hz]
   simp
  refine⟨⟨H,nx,hQ0,hS⟩,hT.1,fun t sv hg=>?_,fun j c hj=>⟨fun hl=>absurd hl (hno c),fun hl=>by omega⟩,fun i o hi=>absurd hi (hno i)⟩
  rcases hg with ⟨k',r',hk',_⟩|⟨_,h2⟩
  ·exact absurd hk' (hno k')
  ·exact hT.2 t sv h2
 have hsched:Region.schedule (P.follows .mixedOrders) ops t=Region.linearise.go .any ops ops.size t (Array.replicate ops.size false) []:=by
  rw [hm]
  rfl
 rw [hsched]
 obtain⟨a,hga,e',w',tr',s',listed',hle,_,hall,hI,hst⟩:=tn (A:=A) (J:=fun j=> ∃ x∈X,x.1=j) (c:=l1.length) (m:=s1.stg) (Rf:=fun a=>(sf a.1 a.2).recs.reverse) (Qf:=fun a=>(sf a.1 a.2).Hs.reverse) (good:=fun a=>Q' a.1) hE hR
  (by rw [List.getElem?_append_right (by omega),hcl];simp) (by omega)
  (fun a b j hj=>by
    rcases hj with hj|⟨x,hx,rfl⟩
    ·obtain⟨x,hx⟩:=hrec1 a
     obtain⟨y,hy⟩:=hrec1 b
     simp only [hx,hy]
     rw [zw (by simp [hD1.len];exact hj),zw (by simp [hD1.len];exact hj)]
    ·exact((hsf a.1 a.2).2.2.2.2.2 x hx).trans ((hsf b.1 b.2).2.2.2.2.2 x hx).symm)
  (fun a b j hj=>by
    obtain⟨x,hx⟩:=hHs1 a
    obtain⟨y,hy⟩:=hHs1 b
    simp only [hx,hy]
    rw [zw (by simp [hD1.hs];omega),zw (by simp [hD1.hs];omega)])
  (rZ hde) fn k ds kd rof cs
  (fun a0 e w tr rest o r H n hr ho hQ hS hT hw=>by
    rw [hatc a0] at hr
    simp only [zd] at hr
    subst hr
    rw [hocat] at ho
    simp only [zd] at ho
    subst ho
    rw [hatS a0] at hQ
    simp only [zd,zn] at hQ
    obtain⟨rfl,rfl⟩:=hQ
    have hEv:=TRel.ev (fr:=fr0 fn tr (.inRegion ops (l1.length :: rest) :: k) ds kd rof) hT
    obtain⟨e1,w1,hle,hS1,hrun⟩:=hdo _ _ _ _ _ hS hEv
    obtain⟨vs,hvs,hres⟩:=hrun
    obtain⟨r,hr,e2,w2,u,g1,g2,g3,g4⟩:=ig (gz hrn hcall hS1 hvs (kd:= .normal) (cs:=fr0 fn tr (.inRegion ops (l1.length :: rest) :: k) ds kd rof :: cs) ⟨rfl,.inl rfl⟩)
    refine⟨⟨r,.inl hr⟩,hr,e2,w2,u,r.2.1,r.2.2,_,Env.le_trans hle g1,hatQ ⟨r,.inl hr⟩,g2,hatc ⟨r,.inl hr⟩,g3,?_⟩
    rw [cM hocat] at g4
    refine .head (step_lone_go ?_) g4
    rw [eS hocat hw (.inr hnd)]
    simp only [stepG.apply,Sem.runT_eq,if_true,hres,GStep.bare_after,GStep.bare_go]
    rfl)
  ⟨r0,.inr rfl⟩ ops.size t (Array.replicate ops.size false) 0 e w tmps (by simp) (by unfold bm;simp) (by
    intro hj
    unfold aI at hj
    rw [Array.getElem?_replicate] at hj
    split at hj <;> simp at hj) (hinit _)
 have hDa:=hD a
 have hs':s'=(sf a.1 a.2).stg:=by
  obtain⟨H1,n1,hQ1,_⟩:=hI.st
  have hle1:s'≤(sf a.1 a.2).stg:=by
   have:=(zi.1 hQ1).1
   simp [hDa.hs] at this
   omega
  have hcnt:=hDa.cnt
  rw [hC a] at hcnt
  rcases Nat.lt_or_ge s' (sf a.1 a.2).stg with hlt|hge
  ·exfalso
   obtain⟨c,hc⟩: ∃ c,(a7 s1 ++ (l1.length :: rest))[s']? =some c:=⟨_,zh (by rw [hcnt];exact hlt)⟩
   have hcl':c<ops.size:=by
    have hcm:=zt hc
    rw [← hC a,List.mem_map] at hcm
    obtain⟨r',hr',rfl⟩:=hcm
    rw [List.mem_filter] at hr'
    obtain⟨k',hk'⟩:=List.mem_iff_getElem?.1 hr'.1
    have hx:=hDa.recs k' r' hk'
    rw [hx.idx]
    exact(zp.1 hx.op).1
   have:=(hI.chain s' c hc).1 (hall c hcl')
   omega
  ·omega
 subst hs'
 obtain⟨H1,n1,hQ1,hS1⟩:=hI.st
 rw [hDa.last] at hQ1
 simp only [zd,zn] at hQ1
 obtain⟨rfl,rfl⟩:=hQ1
 refine⟨_,(hsf a.1 a.2).2.2.2.2.1 hga,e',w',tr',hle,hS1,⟨hI.size,fun t sv ht=>hI.good t sv ?_⟩,hst⟩
 rcases hDa.slots t sv ht with ⟨k',r',h1,h2,h3,h4⟩|⟨h1,h2⟩
 ·exact .inl ⟨k',r',hall k' h1,h2,h3,h4⟩
 ·refine .inr ⟨fun k' r' _ hr'=>?_,h2⟩
  have hlt:=(zi.1 hr').1
  rw [List.length_reverse,hDa.len] at hlt
  exact h1 k' r' hlt hr'
end Go.Sy.Nd
namespace Go.Sy
open Go Go.Sl Go.RowKit
section
variable {P:Program} {ro:Option Nat} {fn nt nx:Nat} {T:Tr SV} {k:List AIt} {dfs:List ADf} {H:aK} {Q:Pst}
structure TailM (X:List (Nat×Tr SV×Nat×SV)) (rest:List Nat) (P:Program) (ro:Option Nat) (fn nt:Nat) (k:List AIt) (dfs:List ADf) (Q:Pst) (opl:List Oper) (n:Nat) (oc:Oper) (s1:DS):Prop where
 ex:aq (aA s1.T (az opl oc)) opl.toArray oc=some true∧ ∃ (f:FuncId) (args:List SV) (Q':Pst) (r0:Res),OpDoes P (aA s1.T (az opl oc)) s1.H s1.nx oc (.enter f args,s1.H,s1.nx)∧(∀ c,oc.op ≠ .defer c)∧fY P (wpr P) f args s1.H s1.nx Q' ∧
  (∀ r:Res,Q' r→DrawK P nt opl.toArray (n+1) (opl.drop (n+1)) ⟨gi nt s1.T oc.dst r.1,r.2.1,r.2.2,⟨n,oc,aA s1.T (az opl oc),s1.stg,true,true,r.1⟩ :: s1.recs,(r.2.1,r.2.2) :: s1.Hs,s1.stg+1⟩
    (fun s=>cN (bp [] opl) (a7 s)=true∧a7 s=a7 s1 ++ (n :: rest)∧FlOk P (bp [] opl) (a7 s) s.Hs s.recs∧Nd.XOk opl.toArray X s∧Wp P ro ⟨fn,nt,s.T,k,dfs,s.H,s.nx⟩ Q)) ∧
  DrawK P nt opl.toArray (n+1) (opl.drop (n+1)) ⟨gi nt s1.T oc.dst r0.1,r0.2.1,r0.2.2,⟨n,oc,aA s1.T (az opl oc),s1.stg,true,true,r0.1⟩ :: s1.recs,(r0.2.1,r0.2.2) :: s1.Hs,s1.stg+1⟩
   (fun s=>cN (bp [] opl) (a7 s)=true∧a7 s=a7 s1 ++ (n :: rest)∧FlOk P (bp [] opl) (a7 s) s.Hs s.recs∧Nd.XOk opl.toArray X s)
theorem sC{id:Nat}{opl:List Oper}(n:Nat)(X:List (Nat×Tr SV×Nat×SV))(rest:List Nat){oc:Oper}(hm:P.follows .mixedOrders=true)(hr:dY nt opl=true)(hde:Nd.descOkX (bp [] opl) (X.map (·.1)) n opl.length=true)(hoc:opl[n]? =some oc)
 (h:DrawK P nt opl.toArray 0 (opl.take n) ⟨T,H,nx,[],[(H,nx)],0⟩ (TailM X rest P ro fn nt k dfs Q opl n oc)) :
 Wp P ro ⟨fn,nt,T,.code (.region id opl.toArray true) :: k,dfs,H,nx⟩ Q:=by
 obtain⟨s1,hrun1,hK⟩:=h.ex
 obtain⟨hw,f,args,Q',r0,hdo,hnd,hcall,h1,h0⟩:=hK.ex
 have hlt:n<opl.length:=(zi.1 hoc).1
 have hnl:(opl.take n).length=n:=by rw [List.length_take];omega
 have hops:opl=opl.take n ++ oc :: opl.drop (n+1):=by
  have hg:opl[n]=oc:=(zi.1 hoc).2
  rw [← hg,List.getElem_cons_drop,List.take_append_drop]
 refine⟨fun K w0 e w tmps todo ds kd rof cs hS hT ht hd hc=>?_⟩
 obtain⟨it,k',rfl,hi,hk⟩:=ht.cons
 have hi:it=Item.code (.region id opl.toArray true):=hi
 subst hi
 obtain⟨s,hKt,e',w',tmps',g1,g2,g3,g4⟩:=Nd.drawM (X:=X) (rest:=rest) (ops:=opl.toArray) (l1:=opl.take n) (l2:=opl.drop (n+1)) (oc:=oc) (T:=T) (H:=H) (nx:=nx) (nt:=nt) (r0:=r0) (Q':=Q') (Kt:=fun s=>Wp P ro ⟨fn,nt,s.T,k,dfs,s.H,s.nx⟩ Q) (jJ K w0) hops hr hrun1 hw hdo hnd hcall (by rw [hnl];simpa using hde)
  (fun r hr=>by
    rw [hnl]
    by_cases hq:Q' r
    ·obtain⟨s,q1,q2,q3,q4,qx,q5⟩:=(h1 r hq).ex
     exact⟨s,q1,q2,q3,fun r hr=>FlOk.ok q4 r hr,fun _=>q5,qx⟩
    ·have hr:=hr.resolve_left hq
     subst hr
     obtain⟨s,q1,q2,q3,q4,qx⟩:=h0.ex
     exact⟨s,q1,q2,q3,fun r hr=>FlOk.ok q4 r hr,fun h=>absurd h hq,qx⟩) hm (w:={w with drawn:=w.drawn+1}) hS.drew hT (w.tape w.drawn (.order fn id)) fn k' ds kd rof cs
 exact(hKt.run K w0 e' w' tmps' k' ds kd rof cs g2 g3 (hk.mono g1) (hd.mono g1) (hc.mono g1)).pre (.head px (g4.trans (.one fk))) g1 rfl rfl (fun _ hr=>hr)
theorem sK{X:List (Nat×Tr SV×Nat×SV)}{rest:List Nat}{opl:List Oper}{n:Nat}{s1:DS}{ty:TypeId}{pos:String}{af:Array Edge}{gd:Option (Nat×Bool)}{g:FuncId}{as1:List Operand}{ats:Array TypeId}{args:List SV}{Q':Pst}{dd:Nat}
 (hw:aq (aA s1.T (az opl ⟨some dd,.call {callee:= .value (.func g),args:=as1.toArray,argTypes:=ats},ty,pos,af,gd⟩)) opl.toArray ⟨some dd,.call {callee:= .value (.func g),args:=as1.toArray,argTypes:=ats},ty,pos,af,gd⟩=some true) (hd:Nat.blt dd nt=true)
 (ha:dQ (aA s1.T (az opl ⟨some dd,.call {callee:= .value (.func g),args:=as1.toArray,argTypes:=ats},ty,pos,af,gd⟩)) as1=some args) (hm:bZ P g=true) (hr:Fnc P g args s1.H s1.nx Q') (r0:Res)
 (h1: ∀ r:Res,Q' r→DrawK P nt opl.toArray (n+1) (opl.drop (n+1)) ⟨s1.T.set dd r.1,r.2.1,r.2.2,⟨n,⟨some dd,.call {callee:= .value (.func g),args:=as1.toArray,argTypes:=ats},ty,pos,af,gd⟩,aA s1.T (az opl ⟨some dd,.call {callee:= .value (.func g),args:=as1.toArray,argTypes:=ats},ty,pos,af,gd⟩),s1.stg,true,true,r.1⟩ :: s1.recs,(r.2.1,r.2.2) :: s1.Hs,s1.stg+1⟩
   (fun s=>cN (bp [] opl) (a7 s)=true∧a7 s=a7 s1 ++ (n :: rest)∧FlOk P (bp [] opl) (a7 s) s.Hs s.recs∧Nd.XOk opl.toArray X s∧Wp P ro ⟨fn,nt,s.T,k,dfs,s.H,s.nx⟩ Q))
 (h0:DrawK P nt opl.toArray (n+1) (opl.drop (n+1)) ⟨s1.T.set dd r0.1,r0.2.1,r0.2.2,⟨n,⟨some dd,.call {callee:= .value (.func g),args:=as1.toArray,argTypes:=ats},ty,pos,af,gd⟩,aA s1.T (az opl ⟨some dd,.call {callee:= .value (.func g),args:=as1.toArray,argTypes:=ats},ty,pos,af,gd⟩),s1.stg,true,true,r0.1⟩ :: s1.recs,(r0.2.1,r0.2.2) :: s1.Hs,s1.stg+1⟩
   (fun s=>cN (bp [] opl) (a7 s)=true∧a7 s=a7 s1 ++ (n :: rest)∧FlOk P (bp [] opl) (a7 s) s.Hs s.recs∧Nd.XOk opl.toArray X s)) :
 TailM X rest P ro fn nt k dfs Q opl n ⟨some dd,.call {callee:= .value (.func g),args:=as1.toArray,argTypes:=ats},ty,pos,af,gd⟩ s1:=
 ⟨hw,g,args,Q',r0,pJ ha hm,fun c hc=>(by cases hc),hr,fun r hq=>by rw [aC hd];exact h1 r hq,by rw [aC hd];exact h0⟩
end
end Go.Sy
end
section
namespace Go.Proofs.Ytbmekelkddllkaa
open Go Go.Sy Go.Sl Go.RowKit
theorem do_t{d:Nat}{D:DD}{Fp:Nat→Prop}{H:aK}{nx N:Nat}(hD:DAt d D Fp H)(hok:D.Ok N)(hN:N<60000)(s:StepT){v:SV}(hp:PickIs H v s.picks)(hk:s.name.size≤140737488355328)(ht:s.to.size≤140737488355328):Fnc Try.prog 12 [.ptr d 0,.agg [.sc (iE s.kind),.sc (iE s.n),.sc (kE s.name),.sc (kE s.to),.sc (.int .u8 (s.b:Int)),v]] H nx
 (fun q=> ∃ e x D' F',q.1 = .tup [.sc (.int .i64 e),.ptr x 0]∧D.Act s e D'∧DAt x D' F' q.2.1∧Stp Fp F' H nx q.2.1 q.2.2):=by
 refine Fnc.start Try.func12 rfl rfl ?_
 refine b7 fun hund=>?_
 have hlt:=hD.lt hund
 (repeat(first|refine aj ?_|refine ac ?_|refine ab ?_|refine aD ?_|(apply ah;exact rfl;exact rfl;exact rfl)|(apply aJ;exact rfl;exact rfl;exact rfl;exact(F.fo _ _ rfl rfl))|(apply l6;exact rfl;exact rfl;exact rfl)|refine aH rfl rfl rfl (F.ag _ rfl) (by(repeat(exact Tr.ae _ _ _));done) (by exact rfl) ?_))
 refine ee (R:=fun H1 n1=>n1=nx+1∧H1.at' nx=some (ak 35 [.sc (iE s.kind),.sc (iE s.n),.sc (kE s.name),.sc (kE s.to),.sc (.int .u8 (s.b:Int)),v])∧ ∀ z,z<nx→H1.at' z=H.at' z) ⟨rfl,by(focus((repeat(exact Tr.ae _ _ _));done)),fun z hz=>by(focus((repeat(refine(Tr.aa _ _ (by omega)).trans ?_));exact rfl))⟩ ?_
 rintro H1 n1 ⟨rfl,hbx,hold⟩
 have hD1:DAt d D Fp H1:=hD.frame fun z hz=>hold z (hlt z hz)
 (apply cP;exact rfl;exact rfl;exact rfl;exact rfl)
 all_goals intro h1
 ·(repeat(first|refine aj ?_|refine ac ?_|refine ab ?_|refine ar rfl ?_|(apply ai;exact rfl;exact rfl;exact rfl)|(apply ah;exact rfl;exact rfl;exact rfl)|(apply aJ;exact rfl;exact rfl;exact rfl;exact(F.fo _ _ rfl rfl))|refine aH rfl rfl rfl (F.ag _ rfl) (by assumption) (by exact rfl) ?_))
  refine aQ rfl rfl rfl (by kernel_rfl) (Fnc.mono (wF hD1 hok (by omega) s.name hk) ?_)
  rintro⟨_,H2,n2⟩ ⟨rfl,F',hA,hS⟩
  dsimp only at hA hS ⊢
  (repeat(first|refine ab ?_|(apply ai;exact rfl;exact rfl;exact rfl)|(apply ah;exact rfl;exact rfl;exact rfl)|(refine aQ rfl rfl rfl (by kernel_rfl) (Fnc.mono (gW _) ?_);rintro _ rfl;dsimp only)))
  ((apply aS Try.func12 (congrArg Array.toList Try.results12));(focus(repeat(first|exact ResIs.nil|apply ResIs.tmp rfl))))
  exact⟨_,_,_,_,rfl,(by unfold DD.Act;rw [if_pos h1]),hA,Stp.eF hS (by omega) hold⟩
 (repeat(first|refine aj ?_|refine ac ?_|refine ab ?_|refine an rfl ?_|(apply ah;exact rfl;exact rfl;exact rfl)))
 (apply cP;exact rfl;exact rfl;exact rfl;exact rfl)
 all_goals intro h2
 ·(repeat(first|refine aj ?_|refine ab ?_|refine ar rfl ?_|(apply ah;exact rfl;exact rfl;exact rfl)))
  refine sC 8 [(10,Tr.nil.set 0 (.ptr d 0),3,.ptr d 0)] [9] (by kernel_rfl) (by kernel_rfl) (by kernel_rfl) rfl ?_
  (repeat(first|(apply ax;exact rfl;exact rfl;exact rfl)|(apply aW;exact rfl;exact rfl;exact rfl;exact(F.fo _ _ rfl rfl))|refine cE rfl rfl rfl (F.ag _ rfl) (by assumption) (by exact rfl) ?_|((apply aY;exact rfl;exact rfl;exact rfl;(focus(kernel_rfl));exact(jy s.b)))))
  refine aF ?_
  refine sK rfl rfl rfl (by kernel_rfl) (kQ hD1 hok (by omega) s.name hk s.n (Sct.full s.b)) (.sc (.int .i64 0),H1,nx+1) ?_ ?_
  ·rintro⟨_,H2,n2⟩ ⟨rfl,F',hA,hS⟩
   dsimp only at hA hS ⊢
   have hbx2:=(hS.2.2 nx (by omega) (fun h=>by have:=hlt nx h;omega)).trans hbx
   (repeat(first|(apply ax;exact rfl;exact rfl;exact rfl)|(apply cR;exact rfl;exact rfl;exact rfl)|((apply aY;exact rfl;exact rfl;exact rfl;(focus(kernel_rfl));exact(gW _)))))
   refine aF ⟨by kernel_rfl,rfl,?_,Nd.XOk.one rfl,?_⟩
   ·(repeat(first|exact trivial|refine⟨.inl rfl,?_⟩|refine⟨.inr (by(repeat(refine⟨(by first|exact bc (F.fo _ _ rfl rfl) rfl|exact aB rfl|exact dD rfl|exact aO (F.ag _ rfl) rfl (by assumption) (aN rfl)),?_⟩));exact trivial),?_⟩))
   dsimp only
   ((apply aS Try.func12 (congrArg Array.toList Try.results12));(focus(repeat(first|exact ResIs.nil|apply ResIs.tmp rfl))))
   exact⟨_,_,_,_,rfl,(by unfold DD.Act;rw [if_neg h1,if_pos h2]),hA,Stp.eF hS (by omega) hold⟩
  ·(repeat(first|(apply ax;exact rfl;exact rfl;exact rfl)|(apply cR;exact rfl;exact rfl;exact rfl)|((apply aY;exact rfl;exact rfl;exact rfl;(focus(kernel_rfl));exact(gW _)))))
   refine aF ⟨by kernel_rfl,rfl,?_,Nd.XOk.one rfl⟩
   (repeat(first|exact trivial|refine⟨.inl rfl,?_⟩|refine⟨.inr (by(repeat(refine⟨(by first|exact bc (F.fo _ _ rfl rfl) rfl|exact aB rfl|exact dD rfl|exact aO (F.ag _ rfl) rfl (by assumption) (aN rfl)),?_⟩));exact trivial),?_⟩))
 (repeat(first|refine aj ?_|refine ac ?_|refine ab ?_|refine an rfl ?_|(apply ah;exact rfl;exact rfl;exact rfl)))
 (apply cP;exact rfl;exact rfl;exact rfl;exact rfl)
 all_goals intro h3
 ·(repeat(first|refine aj ?_|refine ac ?_|refine ab ?_|refine ar rfl ?_|(apply ai;exact rfl;exact rfl;exact rfl)|(apply ah;exact rfl;exact rfl;exact rfl)|(apply aJ;exact rfl;exact rfl;exact rfl;exact(F.fo _ _ rfl rfl))|refine aH rfl rfl rfl (F.ag _ rfl) (by assumption) (by exact rfl) ?_))
  refine aQ rfl rfl rfl (by kernel_rfl) (Fnc.mono (wz hD1 hok (by omega) s.name hk) ?_)
  rintro⟨_,H2,n2⟩ ⟨rfl,F',hA,hS⟩
  dsimp only at hA hS ⊢
  (repeat(first|refine ab ?_|(apply ai;exact rfl;exact rfl;exact rfl)|(apply ah;exact rfl;exact rfl;exact rfl)|(refine aQ rfl rfl rfl (by kernel_rfl) (Fnc.mono (gW _) ?_);rintro _ rfl;dsimp only)))
  ((apply aS Try.func12 (congrArg Array.toList Try.results12));(focus(repeat(first|exact ResIs.nil|apply ResIs.tmp rfl))))
  exact⟨_,_,_,_,rfl,(by unfold DD.Act;rw [if_neg h1,if_neg h2,if_pos h3]),hA,Stp.eF hS (by omega) hold⟩
 (repeat(first|refine aj ?_|refine ac ?_|refine ab ?_|refine an rfl ?_|(apply ah;exact rfl;exact rfl;exact rfl)))
 (apply cP;exact rfl;exact rfl;exact rfl;exact rfl)
 all_goals intro h4
 ·(repeat(first|refine aj ?_|refine ac ?_|refine ab ?_|refine ar rfl ?_|(apply ai;exact rfl;exact rfl;exact rfl)|(apply ah;exact rfl;exact rfl;exact rfl)|(apply aJ;exact rfl;exact rfl;exact rfl;exact(F.fo _ _ rfl rfl))|refine aH rfl rfl rfl (F.ag _ rfl) (by assumption) (by exact rfl) ?_))
  refine aQ rfl rfl rfl (by kernel_rfl) (Fnc.mono (vj hD1 hok (by omega) s.name hk) ?_)
  rintro⟨_,H2,n2⟩ ⟨rfl,F',hA,hS⟩
  dsimp only at hA hS ⊢
  (repeat(first|refine ab ?_|(apply ai;exact rfl;exact rfl;exact rfl)|(apply ah;exact rfl;exact rfl;exact rfl)|(refine aQ rfl rfl rfl (by kernel_rfl) (Fnc.mono (gW _) ?_);rintro _ rfl;dsimp only)))
  ((apply aS Try.func12 (congrArg Array.toList Try.results12));(focus(repeat(first|exact ResIs.nil|apply ResIs.tmp rfl))))
  exact⟨_,_,_,_,rfl,(by unfold DD.Act;rw [if_neg h1,if_neg h2,if_neg h3,if_pos h4]),hA,Stp.eF hS (by omega) hold⟩
 (repeat(first|refine aj ?_|refine ac ?_|refine ab ?_|refine an rfl ?_|(apply ah;exact rfl;exact rfl;exact rfl)))
 (apply cP;exact rfl;exact rfl;exact rfl;exact rfl)
 all_goals intro h5
 ·(repeat(first|refine aj ?_|refine ac ?_|refine ab ?_|refine ar rfl ?_|(apply ai;exact rfl;exact rfl;exact rfl)|(apply ah;exact rfl;exact rfl;exact rfl)|(apply aJ;exact rfl;exact rfl;exact rfl;exact(F.fo _ _ rfl rfl))|refine aH rfl rfl rfl (F.ag _ rfl) (by assumption) (by exact rfl) ?_))
  refine aQ rfl rfl rfl (by kernel_rfl) (Fnc.mono (qu hD1 hok (by omega) s.name s.to hk ht) ?_)
  rintro⟨_,H2,n2⟩ ⟨rfl,F',hA,hS⟩
  dsimp only at hA hS ⊢
  (repeat(first|refine ab ?_|(apply ai;exact rfl;exact rfl;exact rfl)|(apply ah;exact rfl;exact rfl;exact rfl)|(refine aQ rfl rfl rfl (by kernel_rfl) (Fnc.mono (gW _) ?_);rintro _ rfl;dsimp only)))
  ((apply aS Try.func12 (congrArg Array.toList Try.results12));(focus(repeat(first|exact ResIs.nil|apply ResIs.tmp rfl))))
  exact⟨_,_,_,_,rfl,(by unfold DD.Act;rw [if_neg h1,if_neg h2,if_neg h3,if_neg h4,if_pos h5]),hA,Stp.eF hS (by omega) hold⟩
 (repeat(first|refine aj ?_|refine ac ?_|refine ab ?_|refine an rfl ?_|(apply ah;exact rfl;exact rfl;exact rfl)))
 (apply cP;exact rfl;exact rfl;exact rfl;exact rfl)
 all_goals intro h6
 ·(repeat(first|refine ac ?_|refine ab ?_|refine ar rfl ?_|(apply ai;exact rfl;exact rfl;exact rfl)|(apply ah;exact rfl;exact rfl;exact rfl)|(apply aJ;exact rfl;exact rfl;exact rfl;exact(F.fo _ _ rfl rfl))|refine aH rfl rfl rfl (F.ag _ rfl) (by assumption) (by exact rfl) ?_))
  refine aQ rfl rfl rfl (by kernel_rfl) (Fnc.mono (wM hD1 s.n) ?_)
  rintro⟨_,H2,n2⟩ ⟨hA,hS⟩
  dsimp only at hA hS ⊢
  (repeat(first|refine aj ?_|refine ac ?_|refine ab ?_|refine ay ?_|(apply ai;exact rfl;exact rfl;exact rfl)|(apply ah;exact rfl;exact rfl;exact rfl)))
  ((apply aS Try.func12 (congrArg Array.toList Try.results12));(focus(repeat(first|exact ResIs.nil|apply ResIs.tmp rfl))))
  exact⟨_,_,_,_,rfl,(by unfold DD.Act;rw [if_neg h1,if_neg h2,if_neg h3,if_neg h4,if_neg h5,if_pos h6]),hA,Stp.eF hS (by omega) hold⟩
 (repeat(first|refine aj ?_|refine ac ?_|refine ab ?_|refine an rfl ?_|(apply ah;exact rfl;exact rfl;exact rfl)))
 (apply cP;exact rfl;exact rfl;exact rfl;exact rfl)
 all_goals intro h7
 ·(repeat(first|refine aj ?_|refine ac ?_|refine ab ?_|refine ar rfl ?_|(apply ai;exact rfl;exact rfl;exact rfl)|(apply ah;exact rfl;exact rfl;exact rfl)|(apply aJ;exact rfl;exact rfl;exact rfl;exact(F.fo _ _ rfl rfl))|refine aH rfl rfl rfl (F.ag _ rfl) (by assumption) (by exact rfl) ?_))
  refine aQ rfl rfl rfl (by kernel_rfl) (Fnc.mono (qc hD1 hok hN (hp.frame hund hold)) ?_)
  rintro⟨_,H2,n2⟩ ⟨x,D',F',rfl,hA,hL,_,hF',hn2,hold2⟩
  dsimp only at hA hF' hn2 hold2 ⊢
  (repeat(first|refine ab ?_|(apply ah;exact rfl;exact rfl;exact rfl)))
  ((apply aS Try.func12 (congrArg Array.toList Try.results12));(focus(repeat(first|exact ResIs.nil|apply ResIs.tmp rfl))))
  exact⟨_,_,_,_,rfl,(by unfold DD.Act;rw [if_neg h1,if_neg h2,if_neg h3,if_neg h4,if_neg h5,if_neg h6,if_pos h7];exact⟨rfl,hL⟩),hA,by show nx≤n2;omega,fun z hz=> .inr (by have:=(hF' z hz).1;omega),fun z hz _=>(hold2 z (by omega)).trans (hold z hz)⟩
 (repeat(first|refine aj ?_|refine ac ?_|refine ab ?_|refine an rfl ?_|(apply ah;exact rfl;exact rfl;exact rfl)))
 (apply cP;exact rfl;exact rfl;exact rfl;exact rfl)
 all_goals intro h8
 ·(repeat(first|refine aj ?_|refine ab ?_|refine ar rfl ?_|(apply ah;exact rfl;exact rfl;exact rfl)))
  refine sC 8 [(10,Tr.nil.set 0 (.ptr d 0),3,.ptr d 0)] [9] (by kernel_rfl) (by kernel_rfl) (by kernel_rfl) rfl ?_
  (repeat(first|(apply ax;exact rfl;exact rfl;exact rfl)|(apply aW;exact rfl;exact rfl;exact rfl;exact(F.fo _ _ rfl rfl))|refine cE rfl rfl rfl (F.ag _ rfl) (by assumption) (by exact rfl) ?_|((apply aY;exact rfl;exact rfl;exact rfl;(focus(kernel_rfl));exact(jy s.b)))))
  refine aF ?_
  refine sK rfl rfl rfl (by kernel_rfl) (xn hD1 hok (by omega) s.name hk s.n (Sct.full s.b)) (.sc (.int .i64 0),H1,nx+1) ?_ ?_
  ·rintro⟨_,H2,n2⟩ ⟨rfl,F',hA,hS⟩
   dsimp only at hA hS ⊢
   have hbx2:=(hS.2.2 nx (by omega) (fun h=>by have:=hlt nx h;omega)).trans hbx
   (repeat(first|(apply ax;exact rfl;exact rfl;exact rfl)|(apply cR;exact rfl;exact rfl;exact rfl)|((apply aY;exact rfl;exact rfl;exact rfl;(focus(kernel_rfl));exact(gW _)))))
   refine aF ⟨by kernel_rfl,rfl,?_,Nd.XOk.one rfl,?_⟩
   ·(repeat(first|exact trivial|refine⟨.inl rfl,?_⟩|refine⟨.inr (by(repeat(refine⟨(by first|exact bc (F.fo _ _ rfl rfl) rfl|exact aB rfl|exact dD rfl|exact aO (F.ag _ rfl) rfl (by assumption) (aN rfl)),?_⟩));exact trivial),?_⟩))
   dsimp only
   ((apply aS Try.func12 (congrArg Array.toList Try.results12));(focus(repeat(first|exact ResIs.nil|apply ResIs.tmp rfl))))
   exact⟨_,_,_,_,rfl,(by unfold DD.Act;rw [if_neg h1,if_neg h2,if_neg h3,if_neg h4,if_neg h5,if_neg h6,if_neg h7,if_pos h8]),hA,Stp.eF hS (by omega) hold⟩
  ·(repeat(first|(apply ax;exact rfl;exact rfl;exact rfl)|(apply cR;exact rfl;exact rfl;exact rfl)|((apply aY;exact rfl;exact rfl;exact rfl;(focus(kernel_rfl));exact(gW _)))))
   refine aF ⟨by kernel_rfl,rfl,?_,Nd.XOk.one rfl⟩
   (repeat(first|exact trivial|refine⟨.inl rfl,?_⟩|refine⟨.inr (by(repeat(refine⟨(by first|exact bc (F.fo _ _ rfl rfl) rfl|exact aB rfl|exact dD rfl|exact aO (F.ag _ rfl) rfl (by assumption) (aN rfl)),?_⟩));exact trivial),?_⟩))
 (repeat(first|refine aj ?_|refine ac ?_|refine ab ?_|refine ay ?_|refine aE ?_|refine an rfl ?_|(apply ai;exact rfl;exact rfl;exact rfl)|(apply ah;exact rfl;exact rfl;exact rfl)))
 ((apply aS Try.func12 (congrArg Array.toList Try.results12));(focus(repeat(first|exact ResIs.nil|apply ResIs.tmp rfl))))
 exact⟨_,_,_,_,rfl,(by unfold DD.Act;rw [if_neg h1,if_neg h2,if_neg h3,if_neg h4,if_neg h5,if_neg h6,if_neg h7,if_neg h8]),hD1,Stp.eF (n1:=nx+1) Stp.refl (by omega) hold⟩
abbrev stV(x:StepT×SV):List SV:= [.sc (iE x.1.kind),.sc (iE x.1.n),.sc (kE x.1.name),.sc (kE x.1.to),.sc (.int .u8 (x.1.b:Int)),x.2]
abbrev stR(ro:Bool)(ls:List (StepT×SV)):VO:=xq ro ls.length 6 35 (ls.flatMap stV)
theorem vg: ∀ {ls:List (StepT×SV)} {i j:Nat} (hi:i<ls.length),j<6→(ls.flatMap stV)[i*6+j]? =(stV ls[i])[j]?
 | [],_,_,hi,_=>by simp at hi
 | x :: ls,0,j,_,hj=>by
   rw [List.flatMap_cons,zw (by show _<6;omega),Nat.zero_mul,Nat.zero_add]
   rfl
 | x :: ls,i+1,j,hi,hj=>by
   rw [List.flatMap_cons,List.getElem?_append_right (by show 6≤_;omega)]
   have:(i+1)*6+j-(stV x).length=i*6+j:=by show(i+1)*6+j-6=_;omega
   rw [this,vg (by simpa using hi) hj]
   simp
theorem dC{ro:Bool}{ls:List (StepT×SV)}{i j:Nat}{v:SV}(hi:i<ls.length)(hv:(stV ls[i])[j]? =some v):(stR ro ls).cell (i*6+j)=some v:=by
 have hj:j<6:=(zi.1 hv).1
 exact o6 ((vg hi hj).trans hv) (by omega)
theorem kD{ro:Bool}{ls:List (StepT×SV)}{i:Nat}(hi:i<ls.length):(stR ro ls).cellsFrom (i*6) 6=some (stV ls[i]):=by
 refine d8 6 (i*6) _ (List.ext_getElem? fun j=>?_) rfl (by omega)
 rcases Nat.lt_or_ge j 6 with hj|hj
 ·rw [List.getElem?_take_of_lt hj,List.getElem?_drop,vg hi hj]
 ·rw [List.getElem?_eq_none (by simp;omega),List.getElem?_eq_none (by show 6≤j;omega)]
section
variable {P:Program} {H:aK} {T:Tr SV} {nx:Nat}
variable {d:Option Tmp} {ty:TypeId} {pos:String} {af:Array Edge} {gd:Option (Nat×Bool)}
theorem xw{t e:TypeId}{x:Operand}{v:SV}{l:List Int}{H0:aK}(hu:P.underlying t=some (.slice e))(hx:ao T x=some v)(hp:PickIs H0 v l):ReadDoes P T H ⟨d,.call {callee:= .builtin .len,args:= #[x],argTypes:= #[t]},ty,pos,af,gd⟩ (.sc (.int .i64 (l.length:Int))):=by
 rcases hp with ⟨a,c,rfl,rfl⟩|⟨b,o,c,rfl,rfl⟩|⟨b,eo,ro,ne,rt,vs,rfl,_⟩
 ·exact nL hu hx
 ·exact qy hu hx
 ·exact kG hu hx
end
theorem yQ{H:aK}{nx r:Nat}{ro:Bool}{ls:List (StepT×SV)}(most:Nat)(hm:most<1000000)(hr:H.at' r=some (stR ro ls))(hp: ∀ x∈ls,PickIs H x.2 x.1.picks)(hl:ls.length≤9223372036854775807):Fnc Try.prog 6 [.slu r 0 ls.length,.sc (.int .i64 (most:Int))] H nx
 (fun q=> ∃ b,q=(.sc (.bool b),H,nx)∧(b=false→ls.length≤most∧ ∀ x∈ls,x.1.name.size≤20000∧x.1.to.size≤20000)):=by
 refine Fnc.start Try.func6 rfl rfl ?_
 (repeat(first|refine aj ?_|refine ac ?_|refine ab ?_|refine aD ?_|(apply ah;exact rfl;exact rfl;exact rfl)))
 refine dS (α:=Nat×Int) (fun x=> [(0,.slu r 0 ls.length),(1,.sc (.int .i64 (most:Int))),(4,.sc (.bool false)),(5,.sc (.int .i64 x.2)),(6,.sc (.int .i64 (x.1:Int)))]) (fun x H1 n1=>H1=H∧n1=nx∧x.1≤ls.length∧x.1≤most+1∧0≤x.2∧x.2≤20000∧ ∀ y∈ls.take x.1,y.1.name.size≤20000∧y.1.to.size≤20000) (fun x=>ls.length-x.1) (0,0)
  ⟨rfl,rfl,zB _,zB _,Int.le_refl _,by decide,fun y hy=>by cases hy⟩ (SlIn.sub (by repeat(first|exact trivial|refine⟨rfl,?_⟩))) ?_
 rintro⟨i,n⟩ H1 n1 ⟨rfl,rfl,h1,h2,h3,h4,h5⟩ ih
 dsimp only at h1 h2 h3 h4 h5 ih ⊢
 (repeat(first|refine aj ?_|refine ac ?_|(apply ai;exact rfl;exact rfl;exact rfl)|(apply dA;exact rfl;exact rfl;exact rfl;exact(F.un _ rfl))))
 (apply cF;exact rfl;exact rfl;exact rfl;exact rfl)
 all_goals intro h6
 ·have hi:i<ls.length:=by omega
  (repeat(apply ai;exact rfl;exact rfl;exact rfl))
  (apply nz;exact rfl;exact rfl;exact rfl;exact rfl)
  all_goals intro h7
  ·have hpi:=hp ls[i] (zK hi)
   (repeat(first|refine aj ?_|refine ab ?_|refine aD ?_|refine aE ?_|refine ar rfl ?_|(apply dT;exact rfl;exact rfl;exact rfl;exact rfl)))
   (apply aT;(focus(kernel_rfl));(focus(kernel_rfl)))
   (repeat(first|(apply ax;exact rfl;exact rfl;exact rfl)|(apply cR;exact rfl;exact rfl;exact rfl)|(apply aW;exact rfl;exact rfl;exact rfl;exact(F.fo _ _ rfl rfl))|(apply ul;exact rfl;exact rfl;exact rfl;exact(F.un _ rfl))|(apply cG;exact rfl;exact rfl;exact rfl;exact rfl;(focus(omega));(focus(omega)))|refine au (q:=i) rfl rfl rfl rfl (F.un _ rfl) (F.sz _ rfl) (by assumption) (by omega) (by(omega)) (zA _) ?_|(refine lE rfl rfl rfl (F.ag _ rfl) hr (dC hi rfl) ?_)|(apply bo;exact rfl;exact rfl;exact(fun _ h=>by cases h);exact(xu rfl rfl rfl))|(apply bo;exact rfl;exact rfl;exact(fun _ h=>by cases h);exact(xw (F.un _ rfl) rfl hpi))))
   (refine aF ?_);(refine⟨by kernel_rfl,?_,?_⟩);(focus(repeat(first|exact trivial|refine⟨.inl rfl,?_⟩)))
   dsimp only [wrL]
   (repeat(first|refine aj ?_|refine ac ?_|(apply ai;exact rfl;exact rfl;exact rfl)))
   (apply dB;exact rfl;exact rfl;exact rfl;exact rfl)
   all_goals intro h8
   ·(repeat(first|refine aj ?_|refine ac ?_|refine ab ?_|refine ar rfl ?_|(apply ah;exact rfl;exact rfl;exact rfl)))
    ((apply aS Try.func6 (congrArg Array.toList Try.results6));(focus(repeat(first|exact ResIs.nil|apply ResIs.tmp rfl))))
    exact⟨true,rfl,fun h=>by cases h⟩
   ·(repeat(first|refine ac ?_|refine ab ?_|refine ay ?_|refine aE ?_|refine an rfl ?_|(apply ai;exact rfl;exact rfl;exact rfl)|(apply ah;exact rfl;exact rfl;exact rfl)|(apply bj;exact rfl;exact rfl;exact rfl;exact rfl;(focus(omega));(focus(omega)))))
    refine ih _ _ _ (i+1,_) ⟨rfl,rfl,by show i+1≤_;omega,by show i+1≤_;omega,?_,?_,fun y hy=>?_⟩ (by show ls.length-(i+1)<ls.length-i;omega) (SlIn.sub (by repeat(first|exact trivial|refine⟨rfl,?_⟩)))
    ·dsimp only;omega
    ·dsimp only;omega
    ·dsimp only at hy
     rw [List.take_succ_eq_append_getElem hi,List.mem_append,List.mem_singleton] at hy
     rcases hy with hy|rfl
     ·exact h5 y hy
     ·exact⟨by omega,by omega⟩
  ·(repeat(first|refine aj ?_|refine ac ?_|refine ab ?_|refine aU rfl ?_|refine an rfl ?_|(apply ai;exact rfl;exact rfl;exact rfl)|(apply dT;exact rfl;exact rfl;exact rfl;exact rfl)|(apply dA;exact rfl;exact rfl;exact rfl;exact(F.un _ rfl))))
   refine dB rfl rfl rfl rfl (fun _=>?_) (fun hq=>absurd hq (by omega))
   (repeat(first|refine ab ?_|(apply ah;exact rfl;exact rfl;exact rfl)))
   ((apply aS Try.func6 (congrArg Array.toList Try.results6));(focus(repeat(first|exact ResIs.nil|apply ResIs.tmp rfl))))
   exact⟨true,rfl,fun h=>by cases h⟩
 ·obtain rfl:i=ls.length:=by omega
  (repeat(first|refine aj ?_|refine ac ?_|refine ab ?_|refine aU rfl ?_|refine an rfl ?_|(apply ai;exact rfl;exact rfl;exact rfl)|(apply ci;exact rfl;exact rfl;exact rfl;exact rfl)|(apply jK;exact rfl)|(apply dA;exact rfl;exact rfl;exact rfl;exact(F.un _ rfl))))
  (apply yu;exact rfl;exact rfl;exact rfl;exact rfl)
  (repeat(first|refine ab ?_|(apply ah;exact rfl;exact rfl;exact rfl)))
  ((apply aS Try.func6 (congrArg Array.toList Try.results6));(focus(repeat(first|exact ResIs.nil|apply ResIs.tmp rfl))))
  refine⟨_,rfl,fun h=>⟨?_,fun x hx=>h5 x (by rw [List.take_length];exact hx)⟩⟩
  have:=of_decide_eq_false h
  omega
theorem qf{d:Nat}{D:DD}{Fp:Nat→Prop}{H:aK}{nx:Nat}(hD:DAt d D Fp H)(hd:D.dead=true)(wr:Bool)(v:SV):Fnc Try.prog 40 [.ptr d 0,.sc (.bool wr),v] H nx (fun q=>q=(.sc (.int .i64 8),H,nx)):=by
 refine Fnc.start Try.func40 rfl rfl ?_
 obtain⟨mp,m,c,G,h,hF⟩:=hD
 have hbox:=h.box
 rw [show dkC D mp= [.sc (.int .i64 (D.cap:Int)),.mp mp,.sc (.int .i64 (D.used:Int)),.sc (.int .i64 D.fuse),.sc (.bool true),.sc (.int .i64 (D.changes:Int))] by unfold dkC;rw [hd]] at hbox
 (repeat(first|refine aj ?_|refine ac ?_|refine ab ?_|refine ar rfl ?_|(apply ai;exact rfl;exact rfl;exact rfl)|(apply ah;exact rfl;exact rfl;exact rfl)|(apply aR;exact rfl;exact rfl;exact rfl)|(apply aJ;exact rfl;exact rfl;exact rfl;exact(F.fo _ _ rfl rfl))|refine aH rfl rfl rfl (F.ag _ rfl) (by assumption) (by exact rfl) ?_))
 ((apply aS Try.func40 (congrArg Array.toList Try.results40));(focus(repeat(first|exact ResIs.nil|apply ResIs.tmp rfl))))
 rfl
theorem sL{d:Nat}{D:DD}{Fp:Nat→Prop}{H:aK}{nx:Nat}(hD:DAt d D Fp H)(hd:D.dead=true)(k:ByteArray)(hk:k.size≤140737488355328)(hl:D.look k 0=0):Fnc Try.prog 27 [.ptr d 0,.sc (kE k)] H nx (fun q=>q=(.sc (.int .i64 8),H,nx)):=Fnc.lO (by
 refine Fnc.start Try.func27 rfl rfl ?_
 refine b7 fun hund=>?_
 have hlt:=hD.lt hund
 (repeat(first|refine aj ?_|refine ac ?_|refine ab ?_|(apply ah;exact rfl;exact rfl;exact rfl)|(apply ky;exact rfl;exact rfl;exact rfl;exact rfl)|refine aH rfl rfl rfl (F.ag _ rfl) (by(repeat(first|exact Tr.ae _ _ _|refine(Tr.aa _ _ (by omega)).trans ?_));done) (by exact rfl) ?_))
 refine ee (R:=fun H1 n1=>n1=nx+1+1∧H1.at' nx=some (ak 25 [.ptr d 0])∧H1.at' (nx+1)=some (ak 9 [.sc (kE k)])∧ ∀ z,z<nx→H1.at' z=H.at' z) ⟨rfl,by(focus((repeat(first|exact Tr.ae _ _ _|refine(Tr.aa _ _ (by omega)).trans ?_));done)),by(focus((repeat(exact Tr.ae _ _ _));done)),fun z hz=>by(focus((repeat(refine(Tr.aa _ _ (by omega)).trans ?_));exact rfl))⟩ ?_
 rintro H1 n1 ⟨rfl,h0,h1,hold⟩
 have hD1:DAt d D Fp H1:=hD.frame fun z hz=>hold z (hlt z hz)
 have hlk:=md (nx:=nx+1+1) hD1 k hk 0
 rw [hl] at hlk
 (repeat(first|refine aj ?_|refine ac ?_|refine ab ?_|refine aE ?_|refine an rfl ?_|(apply ai;exact rfl;exact rfl;exact rfl)|(apply ah;exact rfl;exact rfl;exact rfl)|(apply c8;exact rfl;exact rfl;exact rfl;exact rfl)|refine aH rfl rfl rfl (F.ag _ rfl) (by assumption) (by exact rfl) ?_|(refine aQ rfl rfl rfl (by kernel_rfl) (Fnc.mono (hlk) ?_);rintro _ rfl;dsimp only)|(refine aQ rfl rfl rfl (by kernel_rfl) (Fnc.mono (qf hD1 hd _ _) ?_);rintro _ rfl;dsimp only)|(refine je rfl rfl rfl rfl (fun hq=>absurd rfl hq) (fun _=>?_))))
 ((apply aS Try.func27 (congrArg Array.toList Try.results27));(focus(repeat(first|exact ResIs.nil|apply ResIs.tmp rfl))))
 exact⟨rfl,by show nx≤nx+1+1;omega,hold⟩)
theorem tL{d:Nat}{D:DD}{Fp:Nat→Prop}{H:aK}{nx:Nat}(hD:DAt d D Fp H)(k:ByteArray)(hk:k.size≤140737488355328)(e:Int)(he:(gZ k=false∧e=2)∨(gZ k=true∧(a6 D.files k).isSome=true∧e=14)):Fnc Try.prog 23 [.ptr d 0,.sc (kE k)] H nx (fun q=>q=(.sc (.int .i64 e),H,nx)):=Fnc.lO (by
 refine Fnc.start Try.func23 rfl rfl ?_
 refine b7 fun hund=>?_
 have hlt:=hD.lt hund
 (repeat(first|refine aj ?_|refine ac ?_|refine ab ?_|refine aD ?_|(apply ah;exact rfl;exact rfl;exact rfl)|(apply ky;exact rfl;exact rfl;exact rfl;exact rfl)|refine aH rfl rfl rfl (F.ag _ rfl) (by(repeat(first|exact Tr.ae _ _ _|refine(Tr.aa _ _ (by omega)).trans ?_));done) (by exact rfl) ?_))
 refine ee (R:=fun H1 n1=>n1=nx+1+1∧H1.at' nx=some (ak 25 [.ptr d 0])∧H1.at' (nx+1)=some (ak 9 [.sc (kE k)])∧ ∀ z,z<nx→H1.at' z=H.at' z) ⟨rfl,by(focus((repeat(first|exact Tr.ae _ _ _|refine(Tr.aa _ _ (by omega)).trans ?_));done)),by(focus((repeat(exact Tr.ae _ _ _));done)),fun z hz=>by(focus((repeat(refine(Tr.aa _ _ (by omega)).trans ?_));exact rfl))⟩ ?_
 rintro H1 n1 ⟨rfl,h0,h1,hold⟩
 have hD1:DAt d D Fp H1:=hD.frame fun z hz=>hold z (hlt z hz)
 obtain⟨mp,m,c,G,h,hF⟩:=id hD1
 have hbox:=h.box
 have hmay:=fO (H:=H1) (nx:=nx+1+1) k hk
 have hhas:=rW (nx:=nx+1+1) hD1 k
 rcases he with ⟨e1,rfl⟩|⟨e1,e2,rfl⟩
 ·rw [e1] at hmay
  (repeat(first|refine aj ?_|refine ac ?_|refine ab ?_|refine ar rfl ?_|refine an rfl ?_|(apply ah;exact rfl;exact rfl;exact rfl)|refine aH rfl rfl rfl (F.ag _ rfl) (by assumption) (by exact rfl) ?_|(apply dg;exact rfl;exact rfl;exact rfl)|(refine aQ rfl rfl rfl (by kernel_rfl) (Fnc.mono (gX hbox h.cap) ?_);rintro _ rfl;dsimp only)|(refine aQ rfl rfl rfl (by kernel_rfl) (Fnc.mono (hmay) ?_);rintro _ rfl;dsimp only)))
  ((apply aS Try.func23 (congrArg Array.toList Try.results23));(focus(repeat(first|exact ResIs.nil|apply ResIs.tmp rfl))))
  exact⟨rfl,by show nx≤nx+1+1;omega,hold⟩
 ·rw [e1] at hmay
  rw [e2] at hhas
  (repeat(first|refine aj ?_|refine ac ?_|refine ab ?_|refine ar rfl ?_|refine an rfl ?_|(apply ah;exact rfl;exact rfl;exact rfl)|refine aH rfl rfl rfl (F.ag _ rfl) (by assumption) (by exact rfl) ?_|(apply dg;exact rfl;exact rfl;exact rfl)|(refine aQ rfl rfl rfl (by kernel_rfl) (Fnc.mono (gX hbox h.cap) ?_);rintro _ rfl;dsimp only)|(refine aQ rfl rfl rfl (by kernel_rfl) (Fnc.mono (hmay) ?_);rintro _ rfl;dsimp only)|(refine aQ rfl rfl rfl (by kernel_rfl) (Fnc.mono (hhas) ?_);rintro _ rfl;dsimp only)))
  ((apply aS Try.func23 (congrArg Array.toList Try.results23));(focus(repeat(first|exact ResIs.nil|apply ResIs.tmp rfl))))
  exact⟨rfl,by show nx≤nx+1+1;omega,hold⟩)
abbrev bsA:ByteArray:=⟨#[97]⟩
abbrev bsB:ByteArray:=⟨#[98]⟩
abbrev bsC:ByteArray:=⟨#[99]⟩
abbrev bsG:ByteArray:=⟨#[66]⟩
def K0:DD:=DD.new 9
def K1:DD:=(K0.make bsA).1
def K2:DD:=(K1.write bsA 3 (Sct.full 120)).1
def K3:DD:=(K2.sync bsA).1
def K4:DD:=(K3.write bsA 3 (Sct.full 121)).1
def K5:DD:=(K4.write bsA 3 (Sct.full 122)).1
def K6:DD:=K5.lay' 1
def K7:DD:=(K6.rename bsA bsB).1
def K8:DD:=(K7.write bsB 0 (Sct.full 119)).1
theorem ke1:(K0.make bsA).2=0:=by kernel_rfl
theorem ke2:(K1.write bsA 3 (Sct.full 120)).2=0:=by kernel_rfl
theorem ke3:(K2.sync bsA).2=0:=by kernel_rfl
theorem ke4:(K3.write bsA 3 (Sct.full 121)).2=0:=by kernel_rfl
theorem ke5:(K4.write bsA 3 (Sct.full 122)).2=0:=by kernel_rfl
theorem ke7:(K6.rename bsA bsB).2=0:=by kernel_rfl
theorem ke8:(K7.write bsB 0 (Sct.full 119)).2=8:=by kernel_rfl
def S5:Sec:=⟨Sct.full 120,[Sct.full 121,Sct.full 122]⟩
theorem kf5:K5.files= [(bsA,[(3,S5)])]:=by kernel_rfl
theorem kl5:K5.look bsA 3=0:=by kernel_rfl
theorem kr1:K8.read bsB 0=(Sct.full 119,0):=by kernel_rfl
theorem kr2:(K8.read bsB 65536).2=2:=by kernel_rfl
theorem kr3:(K8.read bsC 0).2=6:=by kernel_rfl
theorem kd8:K8.dead=true:=by kernel_rfl
theorem kl8:K8.look bsB 0=0:=by kernel_rfl
theorem km1:gZ bsG=false:=by kernel_rfl
theorem km2:gZ bsB=true:=by kernel_rfl
theorem km3:(a6 K8.files bsB).isSome=true:=by kernel_rfl
theorem kok0:K0.Ok 0:=⟨Fok.nil,zA _,by decide,by decide⟩
theorem kok1:K1.Ok 1:=(dN (s:=⟨1,0,bsA,bsA,0,[]⟩) (e:=0) kok0 (by unfold DD.Act;rw [if_pos rfl];exact Prod.ext rfl ke1.symm) (by decide)).ok
theorem kok2:K2.Ok 2:=(dN (s:=⟨2,3,bsA,bsA,120,[]⟩) (e:=0) kok1 (by unfold DD.Act;rw [if_neg (by decide),if_pos rfl];exact Prod.ext rfl ke2.symm) (by decide)).ok
theorem kok3:K3.Ok 3:=(dN (s:=⟨3,3,bsA,bsA,120,[]⟩) (e:=0) kok2 (by unfold DD.Act;rw [if_neg (by decide),if_neg (by decide),if_pos rfl];exact Prod.ext rfl ke3.symm) (by decide)).ok
theorem kok4:K4.Ok 4:=(dN (s:=⟨2,3,bsA,bsA,121,[]⟩) (e:=0) kok3 (by unfold DD.Act;rw [if_neg (by decide),if_pos rfl];exact Prod.ext rfl ke4.symm) (by decide)).ok
theorem yS:K5.Ok 5:=(dN (s:=⟨2,3,bsA,bsA,122,[]⟩) (e:=0) kok4 (by unfold DD.Act;rw [if_neg (by decide),if_pos rfl];exact Prod.ext rfl ke5.symm) (by decide)).ok
theorem kok6:K6.Ok 6:=(dN (s:=⟨6,1,bsA,bsA,122,[]⟩) (e:=0) yS (by unfold DD.Act;rw [if_neg (by decide),if_neg (by decide),if_neg (by decide),if_neg (by decide),if_neg (by decide),if_pos rfl];rfl) (by decide)).ok
theorem kok7:K7.Ok 7:=(dN (s:=⟨5,1,bsA,bsB,122,[]⟩) (e:=0) kok6 (by unfold DD.Act;rw [if_neg (by decide),if_neg (by decide),if_neg (by decide),if_neg (by decide),if_pos rfl];exact Prod.ext rfl ke7.symm) (by decide)).ok
theorem kok8:K8.Ok 8:=(dN (s:=⟨2,0,bsB,bsB,119,[]⟩) (e:=8) kok7 (by unfold DD.Act;rw [if_neg (by decide),if_pos rfl];exact Prod.ext rfl ke8.symm) (by decide)).ok
theorem sole5:we K5 bsA 3:=fun k m n s h1 h2 _=>by
 rw [kf5] at h1
 have h1':=dj h1
 rw [zC,List.map_nil,List.mem_singleton] at h1'
 dsimp only at h1'
 subst h1'
 have:m= [(3,S5)]:=by
  have:a6 [(bsA,[((3:Int),S5)])] bsA=some [((3:Int),S5)]:=by kernel_rfl
  rw [this] at h1
  exact(Option.some.inj h1).symm
 subst this
 have h2':=dj h2
 rw [zC,List.map_nil,List.mem_singleton] at h2'
 exact⟨rfl,h2'⟩
theorem s7{C:DD}{k:ByteArray}{n:Int}{s:Sec}(h1:C.look k n=0)(h2:C.sec k n=some s)(hw:s.writes= []):C.read k n=(s.lasts,0):=by
 unfold DD.read
 rw [h1,if_neg (by simp),h2]
 have:s.has=s.lasts:=by unfold Sec.has;rw [hw];rfl
 simp only [zG,Option.getD_some,this]
theorem yE{no:Bool}{l:List Int}{C:DD}{x:Sct}(hL:K5.Lost no C)(hs: ∀ k n m s s',we K5 k n→a6 K5.files k=some m→a6 m n=some s→s.writes≠ []→C.sec k n=some s'→s'.lasts=gD l s)(hx:gD l S5=x):C.read bsA 3=(x,0):=by
 have h5:K5.sec bsA 3=some S5:=by kernel_rfl
 have hg:a6 K5.files bsA=some [((3:Int),S5)]:=by kernel_rfl
 have hg2:a6 [((3:Int),S5)] 3=some S5:=by kernel_rfl
 rcases hL.sec bsA 3 with ⟨h,_⟩|⟨s,s',h1,h2,h3⟩
 ·rw [h5] at h
  cases h
 ·rw [h5] at h1
  cases h1
  rw [s7 ((hL.look bsA 3).trans kl5) h2 h3.1,hs bsA 3 _ S5 s' sole5 hg hg2 (by decide) h2,hx]
theorem xN{H:aK}{nx:Nat}:Fnc Try.prog 7 [] H nx (fun q=>q.1 = .sc (.bool true)∧nx≤q.2.2∧ ∀ z,z<nx→q.2.1.at' z=H.at' z):=by
 refine Fnc.start Try.func7 rfl rfl ?_
 (repeat(first|refine aj ?_|refine ac ?_|refine ab ?_|(apply ai;exact rfl;exact rfl;exact rfl)|(apply ah;exact rfl;exact rfl;exact rfl)|(apply bM;exact rfl;exact rfl;exact rfl;exact rfl)|(apply fy;exact rfl;exact rfl;exact rfl;exact rfl;exact(F.un _ rfl);exact rfl)|(refine aQ rfl rfl rfl (by kernel_rfl) (Fnc.mono (yP 9 (by decide) (by decide)) ?_);rintro _ rfl;dsimp only)))
 refine ee (R:=fun H0 n0=>n0=nx+1+1∧DAt (nx+1) K0 (fun n=>n=nx+1∨n=nx) H0∧ ∀ z,z<nx→H0.at' z=H.at' z) ⟨rfl,wD (by decide),fun z hz=>by(focus((repeat(refine(Tr.aa _ _ (by omega)).trans ?_));exact rfl))⟩ ?_
 rintro H0 n0 ⟨rfl,hA0,ho0⟩
 have hn0:nx+1+1≤nx+1+1:=zA _
 have hF0: ∀ z,(z=nx+1∨z=nx)→nx≤z:=fun z hz=>by omega
 (repeat(first|(apply ai;exact rfl;exact rfl;exact rfl)|(refine aQ rfl rfl rfl (by kernel_rfl) (Fnc.mono (gW _) ?_);rintro _ rfl;dsimp only)))
 refine aQ rfl rfl rfl (by kernel_rfl) (Fnc.mono (wF hA0 kok0 (by decide) bsA (by decide)) ?_)
 rw [ke1]
 rintro⟨_,H1,n1⟩ ⟨rfl,F1,hA1,hS1⟩
 replace hA1:DAt (nx+1) K1 F1 H1:=hA1
 dsimp only at hA1 hS1 ⊢
 have hF1: ∀ z,F1 z→nx≤z:=fun z hz=>(hS1.2.1 z hz).elim (hF0 z) (fun h=>by omega)
 have ho1: ∀ z,z<nx→H1.at' z=H.at' z:=fun z hz=>(hS1.2.2 z (by omega) (fun h=>by have:=hF0 z h;omega)).trans (ho0 z hz)
 have hn1:nx+1+1≤n1:=by have:=hS1.1;omega
 (repeat(first|(apply ai;exact rfl;exact rfl;exact rfl)|(apply bj;exact rfl;exact rfl;exact rfl;exact rfl;(focus(omega));(focus(omega)))|(refine aQ rfl rfl rfl (by kernel_rfl) (Fnc.mono (gW _) ?_);rintro _ rfl;dsimp only)|(refine aQ rfl rfl rfl (by kernel_rfl) (Fnc.mono (jy 120) ?_);rintro _ rfl;dsimp only)))
 refine aQ rfl rfl rfl (by kernel_rfl) (Fnc.mono (kQ hA1 kok1 (by decide) bsA (by decide) 3 (Sct.full 120)) ?_)
 rw [ke2]
 rintro⟨_,H2,n2⟩ ⟨rfl,F2,hA2,hS2⟩
 replace hA2:DAt (nx+1) K2 F2 H2:=hA2
 dsimp only at hA2 hS2 ⊢
 have hF2: ∀ z,F2 z→nx≤z:=fun z hz=>(hS2.2.1 z hz).elim (hF1 z) (fun h=>by omega)
 have ho2: ∀ z,z<nx→H2.at' z=H.at' z:=fun z hz=>(hS2.2.2 z (by omega) (fun h=>by have:=hF1 z h;omega)).trans (ho1 z hz)
 have hn2:nx+1+1≤n2:=by have:=hS2.1;omega
 (repeat(first|(apply ai;exact rfl;exact rfl;exact rfl)|(apply bj;exact rfl;exact rfl;exact rfl;exact rfl;(focus(omega));(focus(omega)))|(refine aQ rfl rfl rfl (by kernel_rfl) (Fnc.mono (gW _) ?_);rintro _ rfl;dsimp only)))
 refine aQ rfl rfl rfl (by kernel_rfl) (Fnc.mono (wz hA2 kok2 (by decide) bsA (by decide)) ?_)
 rw [ke3]
 rintro⟨_,H3,n3⟩ ⟨rfl,F3,hA3,hS3⟩
 replace hA3:DAt (nx+1) K3 F3 H3:=hA3
 dsimp only at hA3 hS3 ⊢
 have hF3: ∀ z,F3 z→nx≤z:=fun z hz=>(hS3.2.1 z hz).elim (hF2 z) (fun h=>by omega)
 have ho3: ∀ z,z<nx→H3.at' z=H.at' z:=fun z hz=>(hS3.2.2 z (by omega) (fun h=>by have:=hF2 z h;omega)).trans (ho2 z hz)
 have hn3:nx+1+1≤n3:=by have:=hS3.1;omega
 (repeat(first|(apply ai;exact rfl;exact rfl;exact rfl)|(apply bj;exact rfl;exact rfl;exact rfl;exact rfl;(focus(omega));(focus(omega)))|(refine aQ rfl rfl rfl (by kernel_rfl) (Fnc.mono (gW _) ?_);rintro _ rfl;dsimp only)|(refine aQ rfl rfl rfl (by kernel_rfl) (Fnc.mono (jy 121) ?_);rintro _ rfl;dsimp only)))
 refine aQ rfl rfl rfl (by kernel_rfl) (Fnc.mono (kQ hA3 kok3 (by decide) bsA (by decide) 3 (Sct.full 121)) ?_)
 rw [ke4]
 rintro⟨_,H4,n4⟩ ⟨rfl,F4,hA4,hS4⟩
 replace hA4:DAt (nx+1) K4 F4 H4:=hA4
 dsimp only at hA4 hS4 ⊢
 have hF4: ∀ z,F4 z→nx≤z:=fun z hz=>(hS4.2.1 z hz).elim (hF3 z) (fun h=>by omega)
 have ho4: ∀ z,z<nx→H4.at' z=H.at' z:=fun z hz=>(hS4.2.2 z (by omega) (fun h=>by have:=hF3 z h;omega)).trans (ho3 z hz)
 have hn4:nx+1+1≤n4:=by have:=hS4.1;omega
 (repeat(first|(apply ai;exact rfl;exact rfl;exact rfl)|(apply bj;exact rfl;exact rfl;exact rfl;exact rfl;(focus(omega));(focus(omega)))|(refine aQ rfl rfl rfl (by kernel_rfl) (Fnc.mono (gW _) ?_);rintro _ rfl;dsimp only)|(refine aQ rfl rfl rfl (by kernel_rfl) (Fnc.mono (jy 122) ?_);rintro _ rfl;dsimp only)))
 refine aQ rfl rfl rfl (by kernel_rfl) (Fnc.mono (kQ hA4 kok4 (by decide) bsA (by decide) 3 (Sct.full 122)) ?_)
 rw [ke5]
 rintro⟨_,H5,n5⟩ ⟨rfl,F5,hA5,hS5⟩
 replace hA5:DAt (nx+1) K5 F5 H5:=hA5
 dsimp only at hA5 hS5 ⊢
 have hF5: ∀ z,F5 z→nx≤z:=fun z hz=>(hS5.2.1 z hz).elim (hF4 z) (fun h=>by omega)
 have ho5: ∀ z,z<nx→H5.at' z=H.at' z:=fun z hz=>(hS5.2.2 z (by omega) (fun h=>by have:=hF4 z h;omega)).trans (ho4 z hz)
 have hn5:nx+1+1≤n5:=by have:=hS5.1;omega
 refine b7 fun hund5=>?_
 have hlt5:=hA5.lt hund5
 (repeat(first|refine aj ?_|refine ac ?_|refine ab ?_|refine aE ?_|refine an rfl ?_|(apply ai;exact rfl;exact rfl;exact rfl)|(apply ci;exact rfl;exact rfl;exact rfl;exact rfl)|(apply bj;exact rfl;exact rfl;exact rfl;exact rfl;(focus(omega));(focus(omega)))|(refine aQ rfl rfl rfl (by kernel_rfl) (Fnc.mono (gW _) ?_);rintro _ rfl;dsimp only)|(refine je rfl rfl rfl rfl (fun hq=>absurd (by omega) hq) (fun _=>?_))|(apply gK;exact rfl;exact rfl;exact(F.un _ rfl);exact(F.sz _ rfl);exact rfl;exact(F.ze _ rfl);exact rfl;exact rfl;exact rfl;exact rfl;exact rfl)))
 refine ee (R:=fun Ha na=>na=n5+1∧Ha.at' n5=some (dat false 1 1 3 [.int .i64 2])∧ ∀ z,z<n5→Ha.at' z=H5.at' z) ⟨rfl,(Tr.ae _ _ _).trans (congrArg some (jC false 1 1 3 [.int .i64 2])),fun z hz=>by(focus((repeat(refine(Tr.aa _ _ (by omega)).trans ?_));exact rfl))⟩ ?_
 rintro Ha na ⟨rfl,hpk,hoa⟩
 have hAa:DAt (nx+1) K5 F5 Ha:=hA5.frame fun z hz=>hoa z (hlt5 z hz)
 refine aQ rfl rfl rfl (by kernel_rfl) (Fnc.mono (qc (l:= [2]) (v:= .slu n5 0 1) hAa yS (by decide) (.inr (.inr ⟨n5,0,false,1,_,[.int .i64 2],rfl,hpk,by decide,by decide,fun i hi=>by(have:i=0:=by simpa using hi);subst this;rfl⟩))) ?_)
 rintro⟨_,Hc,nc⟩ ⟨x,C,FC,rfl,hC,hL,hsole,hFC,hnc,hoc⟩
 dsimp only at hC hFC hnc hoc ⊢
 have hAc:DAt (nx+1) K5 F5 Hc:=hAa.frame fun z hz=>hoc z (by have:=hlt5 z hz;omega)
 have hrC:=yE hL hsole (show gD [2] S5=Sct.full 122 by kernel_rfl)
 have okC:=hL.ok yS
 (repeat(apply ai;exact rfl;exact rfl;exact rfl))
 refine aQ rfl rfl rfl (by kernel_rfl) (Fnc.mono (qc (l:= []) (v:= .sc (.slice none 0 0)) hAc yS (by decide) (.inl ⟨none,0,rfl,rfl⟩)) ?_)
 rintro⟨_,Ho,no⟩ ⟨y,O,FO,rfl,hO,hL2,hsole2,hFO,hno,hoo⟩
 dsimp only at hO hFO hno hoo ⊢
 have hAo:DAt (nx+1) K5 F5 Ho:=hAc.frame fun z hz=>hoo z (by have:=hlt5 z hz;omega)
 have hCo:DAt x C FC Ho:=hC.frame fun z hz=>hoo z (hFC z hz).2
 have hrO:=yE hL2 hsole2 (show gD [] S5=Sct.full 120 by kernel_rfl)
 have okO:=hL2.ok yS
 have hro1:=nJ (nx:=no) hCo okC (by decide) bsA (by decide) 3
 rw [hrC] at hro1
 (repeat(first|refine aj ?_|refine ac ?_|refine ab ?_|refine aE ?_|refine an rfl ?_|(apply ai;exact rfl;exact rfl;exact rfl)|(apply ah;exact rfl;exact rfl;exact rfl)|(apply ci;exact rfl;exact rfl;exact rfl;exact rfl)|(apply bM;exact rfl;exact rfl;exact rfl;exact rfl)|(apply fy;exact rfl;exact rfl;exact rfl;exact rfl;exact(F.un _ rfl);exact rfl)|refine be rfl rfl rfl rfl (F.sz _ rfl) (by(repeat(exact Tr.ae _ _ _));done) rfl (by exact zj rfl) rfl ?_|(refine aQ rfl rfl rfl (by kernel_rfl) (Fnc.mono (hro1) ?_);rintro _ rfl;dsimp only)|(refine cx rfl rfl uI ?_)))
 refine ee (R:=fun Hb nb=>nb=no+1∧Hb.at' no=some (ak 45 (cW (Sct.full 122)))∧ ∀ z,z<no→Hb.at' z=Ho.at' z) ⟨rfl,(Tr.ae _ _ _).trans (congrArg (fun l=>some (ak _ l)) (fc _ _)),fun z hz=>by(focus((repeat(refine(Tr.aa _ _ (by omega)).trans ?_));exact rfl))⟩ ?_
 rintro Hb nb ⟨rfl,hb1,hob⟩
 have hro2:=nJ (nx:=no+1) (hO.frame fun z hz=>hob z (hFO z hz).2) okO (by decide) bsA (by decide) 3
 rw [hrO] at hro2
 (repeat(first|refine aj ?_|refine ab ?_|(apply ai;exact rfl;exact rfl;exact rfl)|(apply ah;exact rfl;exact rfl;exact rfl)|(apply bM;exact rfl;exact rfl;exact rfl;exact rfl)|refine be rfl rfl rfl rfl (F.sz _ rfl) (by(repeat(first|assumption|exact Tr.ae _ _ _));done) rfl (by exact zj rfl) rfl ?_|(refine aQ rfl rfl rfl (by kernel_rfl) (Fnc.mono (hro2) ?_);rintro _ rfl;dsimp only)|(refine cx rfl rfl uI ?_)))
 refine ee (R:=fun Hd nd=>nd=no+1+1∧Hd.at' no=some (ak 45 (cW (Sct.full 122)))∧Hd.at' (no+1)=some (ak 45 (cW (Sct.full 120)))∧ ∀ z,z<no→Hd.at' z=Ho.at' z) ⟨rfl,by(focus((repeat(first|assumption|refine(Tr.aa _ _ (by omega)).trans ?_));done)),(Tr.ae _ _ _).trans (congrArg (fun l=>some (ak _ l)) (fc _ _)),fun z hz=>by(focus((repeat(refine(Tr.aa _ _ (by omega)).trans ?_));exact hob z hz))⟩ ?_
 rintro Hd nd ⟨rfl,hd1,hd2,hod⟩
 (apply aT;(focus(kernel_rfl));(focus(kernel_rfl)))
 (repeat(first|(apply ax;exact rfl;exact rfl;exact rfl)|(apply bL;exact rfl;exact rfl;exact rfl;exact rfl)|(apply cG;exact rfl;exact rfl;exact rfl;exact rfl;(focus(omega));(focus(omega)))|(refine gv rfl rfl rfl (F.ag _ rfl) hd1 (du _) ?_)|(refine gv rfl rfl rfl (F.ag _ rfl) hd2 (du _) ?_)|((apply aY;exact rfl;exact rfl;exact rfl;(focus(kernel_rfl));exact(jy 122)))|((apply aY;exact rfl;exact rfl;exact rfl;(focus(kernel_rfl));exact(jy 120)))|((apply aY;exact rfl;exact rfl;exact rfl;(focus(kernel_rfl));exact(gW _)))|(apply bo;exact rfl;exact rfl;exact(fun _ h=>by cases h);exact(jk (s:=Sct.full 122) (s':=Sct.full 122) (b:=false) rfl rfl (by simp)))|(apply bo;exact rfl;exact rfl;exact(fun _ h=>by cases h);exact(jk (s:=Sct.full 120) (s':=Sct.full 120) (b:=false) rfl rfl (by simp)))|(refine jY rfl rfl rfl rfl (fun hq=>absurd rfl hq) (fun _=>?_))))
 (refine aF ?_);(refine⟨by kernel_rfl,?_,?_⟩);(focus(repeat(first|exact trivial|refine⟨.inl rfl,?_⟩|refine⟨.inr (by(repeat(refine⟨(by first|exact aL rfl rfl (.inl ⟨rfl,(zf _ ⟨by omega,by omega⟩).symm⟩)|exact aB rfl|exact gg rfl rfl|exact bY (F.ag _ rfl) rfl (by assumption) (de _ 0 rfl rfl)|exact jk (s:=Sct.full 122) (s':=Sct.full 122) (b:=false) rfl rfl (by simp)|exact jk (s:=Sct.full 120) (s':=Sct.full 120) (b:=false) rfl rfl (by simp)),?_⟩));exact trivial),?_⟩|refine⟨.inl (by kernel_rfl),?_⟩)))
 dsimp only [wrL]
 have hAd:DAt (nx+1) K5 F5 Hd:=hAo.frame fun z hz=>hod z (by have:=hlt5 z hz;omega)
 have hod5: ∀ z,z<nx→Hd.at' z=H.at' z:=fun z hz=>(hod z (by omega)).trans ((hoo z (by omega)).trans ((hoc z (by omega)).trans ((hoa z (by omega)).trans (ho5 z hz))))
 (repeat(first|refine aj ?_|refine ac ?_|refine aE ?_|refine an rfl ?_|(apply ai;exact rfl;exact rfl;exact rfl)))
 refine aQ rfl rfl rfl (by kernel_rfl) (Fnc.mono (wM hAd 1) ?_)
 rintro⟨_,H6,n6⟩ ⟨hA6,hS6⟩
 replace hA6:DAt (nx+1) K6 F5 H6:=hA6
 dsimp only at hA6 hS6 ⊢
 have hF6:=hF5
 have ho6: ∀ z,z<nx→H6.at' z=H.at' z:=fun z hz=>(hS6.2.2 z (by omega) (fun h=>by have:=hF5 z h;omega)).trans (hod5 z hz)
 have hn6:nx+1+1≤n6:=by have:=hS6.1;omega
 (repeat(first|refine aj ?_|refine ac ?_|refine ab ?_|(apply ai;exact rfl;exact rfl;exact rfl)))
 refine aQ rfl rfl rfl (by kernel_rfl) (Fnc.mono (qu hA6 kok6 (by decide) bsA bsB (by decide) (by decide)) ?_)
 rw [ke7]
 rintro⟨_,H7,n7⟩ ⟨rfl,F7,hA7,hS7⟩
 replace hA7:DAt (nx+1) K7 F7 H7:=hA7
 dsimp only at hA7 hS7 ⊢
 have hF7: ∀ z,F7 z→nx≤z:=fun z hz=>(hS7.2.1 z hz).elim (hF6 z) (fun h=>by omega)
 have ho7: ∀ z,z<nx→H7.at' z=H.at' z:=fun z hz=>(hS7.2.2 z (by omega) (fun h=>by have:=hF6 z h;omega)).trans (ho6 z hz)
 have hn7:nx+1+1≤n7:=by have:=hS7.1;omega
 (repeat(first|(apply ai;exact rfl;exact rfl;exact rfl)|(refine aQ rfl rfl rfl (by kernel_rfl) (Fnc.mono (jy 119) ?_);rintro _ rfl;dsimp only)))
 refine aQ rfl rfl rfl (by kernel_rfl) (Fnc.mono (kQ hA7 kok7 (by decide) bsB (by decide) 0 (Sct.full 119)) ?_)
 rw [ke8]
 rintro⟨_,H8,n8⟩ ⟨rfl,F8,hA8,hS8⟩
 replace hA8:DAt (nx+1) K8 F8 H8:=hA8
 dsimp only at hA8 hS8 ⊢
 have hF8: ∀ z,F8 z→nx≤z:=fun z hz=>(hS8.2.1 z hz).elim (hF7 z) (fun h=>by omega)
 have ho8: ∀ z,z<nx→H8.at' z=H.at' z:=fun z hz=>(hS8.2.2 z (by omega) (fun h=>by have:=hF7 z h;omega)).trans (ho7 z hz)
 have hn8:nx+1+1≤n8:=by have:=hS8.1;omega
 refine b7 fun hund8=>?_
 have hlt8:=hA8.lt hund8
 have hr81:=nJ (nx:=n8) hA8 kok8 (by decide) bsB (by decide) 0
 rw [kr1] at hr81
 (repeat(first|refine aj ?_|refine ac ?_|refine ab ?_|(apply ai;exact rfl;exact rfl;exact rfl)|(apply ah;exact rfl;exact rfl;exact rfl)|(apply bM;exact rfl;exact rfl;exact rfl;exact rfl)|refine be rfl rfl rfl rfl (F.sz _ rfl) (by(repeat(first|assumption|exact Tr.ae _ _ _));done) rfl (by exact zj rfl) rfl ?_|(refine aQ rfl rfl rfl (by kernel_rfl) (Fnc.mono (hr81) ?_);rintro _ rfl;dsimp only)|(refine cx rfl rfl uI ?_)))
 refine ee (R:=fun He ne=>ne=n8+1∧He.at' n8=some (ak 45 (cW (Sct.full 119)))∧ ∀ z,z<n8→He.at' z=H8.at' z) ⟨rfl,(Tr.ae _ _ _).trans (congrArg (fun l=>some (ak _ l)) (fc _ _)),fun z hz=>by(focus((repeat(refine(Tr.aa _ _ (by omega)).trans ?_));exact rfl))⟩ ?_
 rintro He ne ⟨rfl,he1,hoe⟩
 have hr82:=nJ (nx:=n8+1) (hA8.frame fun z hz=>hoe z (hlt8 z hz)) kok8 (by decide) bsB (by decide) 65536
 rw [kr2] at hr82
 (repeat(first|refine aj ?_|refine ac ?_|refine ab ?_|(apply ai;exact rfl;exact rfl;exact rfl)|(apply ah;exact rfl;exact rfl;exact rfl)|(apply bM;exact rfl;exact rfl;exact rfl;exact rfl)|refine be rfl rfl rfl rfl (F.sz _ rfl) (by(repeat(first|assumption|exact Tr.ae _ _ _));done) rfl (by exact zj rfl) rfl ?_|(refine aQ rfl rfl rfl (by kernel_rfl) (Fnc.mono (hr82) ?_);rintro _ rfl;dsimp only)|(refine cx rfl rfl uI ?_)))
 refine ee (R:=fun Hf nf=>nf=n8+1+1∧Hf.at' n8=some (ak 45 (cW (Sct.full 119)))∧ ∀ z,z<n8→Hf.at' z=H8.at' z) ⟨rfl,by(focus((repeat(first|assumption|refine(Tr.aa _ _ (by omega)).trans ?_));done)),fun z hz=>by(focus((repeat(refine(Tr.aa _ _ (by omega)).trans ?_));exact hoe z hz))⟩ ?_
 rintro Hf nf ⟨rfl,hf1,hof⟩
 have hr83:=nJ (nx:=n8+1+1) (hA8.frame fun z hz=>hof z (hlt8 z hz)) kok8 (by decide) bsC (by decide) 0
 rw [kr3] at hr83
 (repeat(first|refine aj ?_|refine ab ?_|(apply ai;exact rfl;exact rfl;exact rfl)|(apply ah;exact rfl;exact rfl;exact rfl)|(apply bM;exact rfl;exact rfl;exact rfl;exact rfl)|refine be rfl rfl rfl rfl (F.sz _ rfl) (by(repeat(first|assumption|exact Tr.ae _ _ _));done) rfl (by exact zj rfl) rfl ?_|(refine aQ rfl rfl rfl (by kernel_rfl) (Fnc.mono (hr83) ?_);rintro _ rfl;dsimp only)|(refine cx rfl rfl uI ?_)))
 refine ee (R:=fun Hg ng=>ng=n8+1+1+1∧Hg.at' n8=some (ak 45 (cW (Sct.full 119)))∧ ∀ z,z<n8→Hg.at' z=H8.at' z) ⟨rfl,by(focus((repeat(first|assumption|refine(Tr.aa _ _ (by omega)).trans ?_));done)),fun z hz=>by(focus((repeat(refine(Tr.aa _ _ (by omega)).trans ?_));exact hof z hz))⟩ ?_
 rintro Hg ng ⟨rfl,hg1,hog⟩
 have hAg:DAt (nx+1) K8 F8 Hg:=hA8.frame fun z hz=>hog z (hlt8 z hz)
 (apply aT;(focus(kernel_rfl));(focus(kernel_rfl)))
 (repeat(first|(apply ax;exact rfl;exact rfl;exact rfl)|(apply cR;exact rfl;exact rfl;exact rfl)|(apply bK;exact rfl;exact rfl;exact rfl;exact rfl)|(refine gv rfl rfl rfl (F.ag _ rfl) hg1 (du _) ?_)|((apply aY;exact rfl;exact rfl;exact rfl;(focus(kernel_rfl));exact(jy 119)))|((apply aY;exact rfl;exact rfl;exact rfl;(focus(kernel_rfl));exact(gW _)))|((apply aY;exact rfl;exact rfl;exact rfl;(focus(kernel_rfl));exact(sL hAg kd8 bsB (by decide) kl8)))|((apply aY;exact rfl;exact rfl;exact rfl;(focus(kernel_rfl));exact(tL hAg bsG (by decide) 2 (.inl ⟨km1,rfl⟩))))|((apply aY;exact rfl;exact rfl;exact rfl;(focus(kernel_rfl));exact(tL hAg bsB (by decide) 14 (.inr ⟨km2,km3,rfl⟩))))|(apply bo;exact rfl;exact rfl;exact(fun _ h=>by cases h);exact(nM (s:=Sct.full 119) (s':=Sct.full 119) (b:=true) rfl rfl (by simp)))|(refine lD rfl rfl rfl rfl (fun _=>?_) (fun hq=>absurd rfl hq))))
 (refine aF ?_);(refine⟨by kernel_rfl,?_,?_⟩);(focus(repeat(first|exact trivial|refine⟨.inl rfl,?_⟩|refine⟨.inr (by(repeat(refine⟨(by first|exact aB rfl|exact dD rfl|exact aX rfl rfl|exact bY (F.ag _ rfl) rfl (by assumption) (de _ 0 rfl rfl)|exact nM (s:=Sct.full 119) (s':=Sct.full 119) (b:=true) rfl rfl (by simp)),?_⟩));exact trivial),?_⟩|refine⟨.inl (by kernel_rfl),?_⟩)))
 dsimp only [wrL]
 ((apply aS Try.func7 (congrArg Array.toList Try.results7));(focus(repeat(first|exact ResIs.nil|apply ResIs.tmp rfl))))
 exact⟨rfl,by show nx≤n8+1+1+1;omega,fun z hz=>(hog z (by omega)).trans (ho8 z hz)⟩
theorem mU{H:aK}{nx:Nat}:Fnc Try.prog 7 [] H nx (fun q=>q=(.sc (.bool true),H,nx)):=Fnc.lO xN
end Go.Proofs.Ytbmekelkddllkaa
end
