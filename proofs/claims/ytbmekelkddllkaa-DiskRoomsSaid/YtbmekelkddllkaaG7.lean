import Derived.Test.YtbmekelkddllkaaG6
set_option linter.unusedVariables false
set_option linter.unusedSimpArgs false
set_option maxRecDepth 100000
set_option maxHeartbeats 0
section
namespace Go.Proofs.Ytbmekelkddllkaa
open Go Go.Sy Go.Sl Go.RowKit
structure Cop (D D':DD):Prop where
 cap:D'.cap=D.cap
 fuse:D'.fuse=D.fuse
 dead:D'.dead=D.dead
 changes:D'.changes=D.changes
 keys:(D'.files.map (·.1)).Perm (D.files.map (·.1))
 secs: ∀ k m,a6 D.files k=some m→ ∃ m',a6 D'.files k=some m'∧m'.Perm m
theorem nB{l l':List (ByteArray×List (Int×Sec))}(hn:(l.map (·.1)).Nodup)(hk:(l'.map (·.1)).Perm (l.map (·.1)))(hs: ∀ k m,a6 l k=some m→ ∃ m',a6 l' k=some m'∧m'.Perm m):cb l'=cb l:=by
 rw [eT hn,eT ((hk.nodup_iff).2 hn),jf (hk.map _)]
 refine congrArg List.sum (List.map_congr_left fun k hkm=>?_)
 obtain⟨m,hm⟩:=dI hkm
 obtain⟨m',h1,h2⟩:=hs k m hm
 simp [hm,h1,h2.length_eq]
theorem oI{K V:Type} [DecidableEq K](m:List (K×V×Nat))(k k':K)(v:V)(c:Nat):cr (cZ m k v c) k'=if k=k' then some v else cr m k':=by
 rw [← ju,oG,bX,ju]
theorem qt(m:MSc):di m=m.map fun x=>(x.1,x.2.1.2):=by
 unfold di kv
 rw [List.map_map]
 rfl
theorem tS{K V:Type} [DecidableEq K]{m:List (K×V×Nat)}{k:K}(hg:cr m k=none)(v:V)(c:Nat):(cZ m k v c).map (·.1)=m.map (·.1) ++ [k]:=by
 rw [iD hg,zF]
 rfl
theorem yi: ∃ z,cH Try.prog 80=some z∧(z.cells.toList.map SV.sc).length=257:=⟨_,(by kernel_rfl:cH Try.prog 80=some (.agg (List.replicate 256 (Value.int .u8 0) ++ [Value.slice none 0 0]).toArray)),by kernel_rfl⟩
theorem fP{zs:List SV}(hz:zs.length=257)(s:Sct){v:SV}(hv:v.cells= [v]):fQ (fun i=>([(0,256),(256,1)]:List (Nat×Nat))[i]?) zs [(0,.agg (cW s)),(1,v)]=some (cW s ++ [v]):=by
 have h1:(SV.agg (cW s)).cells.length=256:=bB s
 have h3:Nat.beq (SV.agg (cW s)).cells.length 256=true:=by rw [h1];rfl
 have h4:Nat.ble (0+256) zs.length=true:=by rw [hz];rfl
 obtain⟨w,hw⟩: ∃ w,zs.drop 256= [w]:=by
  have:(zs.drop 256).length=1:=by rw [List.length_drop,hz]
  exact List.length_eq_one_iff.1 this
 have h2:zs.take 0 ++ (SV.agg (cW s)).cells ++ zs.drop (0+256)=cW s ++ [w]:=by
  rw [List.take_zero,List.nil_append,Nat.zero_add,hw]
  rfl
 have h5:Nat.beq v.cells.length 1=true:=by rw [hv];rfl
 have h6:Nat.ble (256+1) (cW s ++ [w]).length=true:=by rw [ff];rfl
 have h7:(cW s ++ [w]).take 256 ++ v.cells ++ (cW s ++ [w]).drop (256+1)=cW s ++ [v]:=by rw [hv];exact gC s w v
 simp only [fQ,zx,List.getElem?_cons_succ,h3,h4,Bool.and_self,cond_true,h2,h5,h6,h7]
theorem y5{d:Nat}{D:DD}{Fp:Nat→Prop}{H:aK}{nx N:Nat}(hD:DAt d D Fp H)(hok:D.Ok N)(hN:N<1000000):Fnc Try.prog 35 [.ptr d 0] H nx
 (fun q=> ∃ x D' F',q.1 = .ptr x 0∧DAt x D' F' q.2.1∧Cop D D'∧(∀ z,F' z→nx≤z∧z<q.2.2)∧nx≤q.2.2∧ ∀ z,z<nx→q.2.1.at' z=H.at' z):=by
 refine Fnc.start Try.func35 rfl rfl ?_
 refine b7 fun hund=>?_
 have hlt:=hD.lt hund
 obtain⟨mp,m,c,G,h,hF⟩:=id hD
 have hbox:=h.box
 have hmap:=h.map
 have lmp:=hund _ _ hmap
 have ld:=hund _ _ hbox
 (repeat(first|refine aj ?_|refine ac ?_|refine ab ?_|refine aE ?_|refine an rfl ?_|(apply ai;exact rfl;exact rfl;exact rfl)|(apply ah;exact rfl;exact rfl;exact rfl)|(apply aR;exact rfl;exact rfl;exact rfl)|(apply aJ;exact rfl;exact rfl;exact rfl;exact(F.fo _ _ rfl rfl))|(apply kS;exact rfl;exact rfl)|refine be rfl rfl rfl rfl (F.sz _ rfl) (by(repeat(first|assumption|exact Tr.ae _ _ _|refine(Tr.aa _ _ (by omega)).trans ?_));done) rfl (by exact zj rfl) rfl ?_|(apply cx;exact rfl;exact rfl;exact(F.zl _ rfl))|refine aH rfl rfl rfl (F.ag _ rfl) (by(repeat(first|assumption|refine(Tr.aa _ _ (by omega)).trans ?_));done) (by exact rfl) ?_|refine qo rfl rfl rfl (F.ag _ rfl) (by assumption) (by exact rfl) ?_|(refine aQ rfl rfl rfl (by kernel_rfl) (Fnc.mono (gX hbox h.cap) ?_);rintro _ rfl;dsimp only)))
 (repeat(first|(refine kR (b:=mp) (m:=m) (c:=c) (enc:=kE) (val:=f8) rfl rfl rfl (F.un _ rfl) (by(repeat(first|assumption|refine(Tr.aa _ _ (by omega)).trans ?_));done) ?_)|refine ab ?_|refine aD ?_))
 refine dS (α:=MFl) (fun _=> [(3,.ptr nx 0),(20,.ptr (nx+1+1) 0)]) (fun done H1 n1=>(done.Nodup∧ ∀ x∈done,x∈m)∧nx+1+1+1≤n1∧H1.at' (nx+1+1)=some (itV mp c done)∧H1.at' nx=some (ak 58 (dkC D (nx+1)))∧(∃ m' c' G',H1.at' (nx+1)=some (eK kE f8 m' c')∧KOk m' c'∧Big PF (kv m') H1 G'∧(∀ z,G' z→nx+1+1<z∧z<n1)∧m'.map (·.1)=done.map (·.1)∧ ∀ x∈done,∃ f l,cr m' x.1=some (f,l)∧l.Perm x.2.1.2)∧ ∀ z,z<nx→H1.at' z=H.at' z) (fun done=>m.length-done.length) []
  ⟨⟨List.nodup_nil,fun _ h=>(by cases h)⟩,zA _,by(focus((repeat(exact Tr.ae _ _ _));done)),by(focus((repeat(first|exact Tr.ae _ _ _|refine(Tr.aa _ _ (by omega)).trans ?_));done)),⟨[],0,fun _=>False,by(focus((repeat(first|exact Tr.ae _ _ _|refine(Tr.aa _ _ (by omega)).trans ?_));done)),KOk.nil 0,Big.nil,fun _ h=>h.elim,rfl,fun _ h=>(by cases h)⟩,fun z hz=>by(focus((repeat(refine(Tr.aa _ _ (by omega)).trans ?_));exact rfl))⟩ (SlIn.sub (by repeat(first|exact trivial|refine⟨rfl,?_⟩))) ?_
 rintro done H1 n1 ⟨hdn,hn1,hit,hx,⟨m',c',G',hy,hok',hbig,hG',hkeys,hcop⟩,hold⟩ ih
 have hmap1:=(hold mp lmp).trans hmap
 (repeat(first|refine aj ?_|refine ac ?_))
 refine l5 (b:=mp) (m:=m) (c:=c) (enc:=kE) (val:=f8) (done:=done) rfl rfl rfl hit hmap1 h.ok hdn ?_ ?_
 ·intro hp
  (repeat(first|refine aj ?_|refine ac ?_|refine ab ?_|refine aU rfl ?_|refine an rfl ?_|(apply ah;exact rfl;exact rfl;exact rfl)|(apply eR;exact rfl;exact rfl;exact rfl;exact rfl)))
  ((apply aS Try.func35 (congrArg Array.toList Try.results35));(focus(repeat(first|exact ResIs.nil|apply ResIs.tmp rfl))))
  have hk0:(pm m').map (·.1)=m'.map (·.1):=by simp [kv,Function.comp_def]
  have hk1:(pm m).map (·.1)=m.map (·.1):=by simp [kv,Function.comp_def]
  have hperm:((pm m').map (·.1)).Perm (D.files.map (·.1)):=by
   rw [hk0,hkeys,h.fl,hk1]
   exact hp.map _
  have hsecs: ∀ k l,a6 D.files k=some l→ ∃ l',a6 (pm m') k=some l'∧l'.Perm l:=fun k l hl=>by
   rw [h.fl] at hl
   obtain⟨fn,hg⟩:=jV hl
   obtain⟨A,B,s,e,_⟩:=jT hg
   have hmem:(k,(fn,l),s)∈m:=by rw [e];simp
   obtain⟨f,l',g1,g2⟩:=hcop _ (hp.mem_iff.2 hmem)
   exact⟨l',by rw [dR,g1];rfl,g2⟩
  have hus:(D.setFiles (pm m')).used=D.used:=nB hok.f.ndF hperm hsecs
  refine⟨nx,D.setFiles (pm m'),_,rfl,⟨nx+1,m',c',G',⟨hx.trans ?_,hy,hok',hbig,rfl,by omega,fun hz=>by have:=hG' _ hz;omega,fun hz=>by have:=hG' _ hz;omega,h.cap⟩,fun z=>Iff.rfl⟩,⟨rfl,rfl,rfl,rfl,hperm,hsecs⟩,fun z hz=>?_,by show nx≤n1;omega,hold⟩
  ·unfold dkC
   rw [hus]
   rfl
  ·show nx≤z∧z<n1
   rcases hz with hz|hz|hz
   ·omega
   ·omega
   ·have:=hG' z hz;omega
 ·intro x hxm hxn hdn2
  have hkn:x.1∉m'.map (·.1):=fun e=>by
   rw [hkeys] at e
   obtain⟨y,hy,e⟩:=List.mem_map.1 e
   exact hxn (ln h.ok.keys hxm (hdn.2 y hy) e ▸ hy)
  have hg':cr m' x.1=none:=by
   rw [← ju,cq]
   simpa [kv,Function.comp_def] using hkn
  have hlen2:=dH _ m hdn2.1 hdn2.2
  rw [zE,List.length_singleton] at hlen2
  have hgx:=fv h.ok.keys hxm
  obtain⟨k,⟨fn,l⟩,b⟩:=x
  dsimp only at hgx hg' hkn
  have hmg:a6 D.files k=some l:=by rw [h.fl,dR,hgx];rfl
  have hwr:=fun n s=>hok.f.wr k l n s hmg
  obtain⟨ms,m2,c2,G2,R,hf,rfl,hR,hd,hG⟩:=h.file hgx
  have lf:=hund _ _ hf.box
  have lm:=hund _ _ hf.map
  have hfb:=(hold fn lf).trans hf.box
  have hfm:=(hold ms lm).trans hf.map
  have l2: ∀ z,G2 z→z<nx:=fun z hz=>hlt z ((hF z).2 (.inr (.inr ((hG z).2 (.inl (.inr (.inr hz)))))))
  have hbig2:Big PS (kv m2) H1 G2:=Big.frame d9 _ _ _ _ hf.big fun z hz=>hold z (l2 z hz)
  (repeat(first|refine aj ?_|refine ac ?_|refine ab ?_|refine aD ?_|refine aE ?_|refine ar rfl ?_|(apply ai;exact rfl;exact rfl;exact rfl)|(apply ah;exact rfl;exact rfl;exact rfl)|(apply bM;exact rfl;exact rfl;exact rfl;exact rfl)|(apply aR;exact rfl;exact rfl;exact rfl)|(apply aJ;exact rfl;exact rfl;exact rfl;exact(F.fo _ _ rfl rfl))|(apply kS;exact rfl;exact rfl)|(apply l6;exact rfl;exact rfl;exact rfl)|(apply sD;exact rfl;exact rfl;exact rfl;exact(F.ze _ rfl);exact(F.pl _ rfl);exact rfl)|(refine jL (b:=mp) (m:=m) (c:=c) (enc:=kE) (val:=f8) (x:=(k,(fn,di m2),b)) (done:=done) rfl rfl rfl (Tr.ae _ _ _) ((Tr.aa _ _ (by omega)).trans hmap1) h.ok hxm ?_)))
  refine ee (R:=fun H2 n2=>n2=n1+1+1∧H2.at' (nx+1+1)=some (itV mp c (done ++ [(k,(fn,di m2),b)]))∧H2.at' n1=some (.map [] 0)∧H2.at' (n1+1)=some (ak 63 [.mp n1])∧ ∀ z,z<n1→z≠nx+1+1→H2.at' z=H1.at' z) ⟨rfl,by(focus((repeat(first|exact Tr.ae _ _ _|refine(Tr.aa _ _ (by omega)).trans ?_));done)),by(focus((repeat(first|exact Tr.ae _ _ _|refine(Tr.aa _ _ (by omega)).trans ?_));done)),by(focus((repeat(exact Tr.ae _ _ _));done)),fun z hz hn=>by(focus((repeat(refine(Tr.aa _ _ (by omega)).trans ?_));exact rfl))⟩ ?_
  rintro H2 n2 ⟨rfl,hit2,hg2,hf2,hold2⟩
  have hfb2:=(hold2 fn (by omega) (by omega)).trans hfb
  have hfm2:=(hold2 ms (by omega) (by omega)).trans hfm
  have hbig3:Big PS (kv m2) H2 G2:=Big.frame d9 _ _ _ _ hbig2 fun z hz=>hold2 z (by have:=l2 z hz;omega) (by have:=l2 z hz;omega)
  (repeat(first|(refine kT rfl rfl rfl (F.ag _ rfl) hfb2 (aN rfl) ?_)|(refine kR (b:=ms) (m:=m2) (c:=c2) (enc:=iE) (val:=iS) rfl rfl rfl (F.un _ rfl) hfm2 ?_)|refine ab ?_|refine aD ?_))
  refine dS (α:=MSc) (fun _=> [(3,.ptr nx 0),(20,.ptr (nx+1+1) 0),(4,.sc (kE k)),(6,.ptr (n1+1) 0),(33,.ptr (n1+1+1) 0)]) (fun dn H3 n3=>(dn.Nodup∧ ∀ x∈dn,x∈m2)∧n1+1+1+1≤n3∧H3.at' (n1+1+1)=some (itV ms c2 dn)∧H3.at' (n1+1)=some (ak 63 [.mp n1])∧(∃ m3 c3 G3,H3.at' n1=some (eK iE iS m3 c3)∧KOk m3 c3∧Big PS (kv m3) H3 G3∧(∀ z,G3 z→n1+1+1<z∧z<n3)∧m3.map (fun x=>(x.1,x.2.1.2))=dn.map (fun x=>(x.1,x.2.1.2)))∧ ∀ z,z<n1→H3.at' z=H2.at' z) (fun dn=>m2.length-dn.length) []
   ⟨⟨List.nodup_nil,fun _ h=>(by cases h)⟩,zA _,by(focus((repeat(exact Tr.ae _ _ _));done)),by(focus((repeat(first|assumption|refine(Tr.aa _ _ (by omega)).trans ?_));done)),⟨[],0,fun _=>False,by(focus((repeat(first|assumption|refine(Tr.aa _ _ (by omega)).trans ?_));done)),KOk.nil 0,Big.nil,fun _ h=>h.elim,rfl⟩,fun z hz=>by(focus((repeat(refine(Tr.aa _ _ (by omega)).trans ?_));exact rfl))⟩ (SlIn.sub (by repeat(first|exact trivial|refine⟨rfl,?_⟩))) ?_
  rintro dn H3 n3 ⟨hdn3,hn3,hit3,hf3,⟨m3,c3,G3,hy3,hok3,hbig4,hG3,hvals⟩,hold3⟩ ih3
  have hfm3:=(hold3 ms (by omega)).trans hfm2
  (repeat(first|refine aj ?_|refine ac ?_))
  refine l5 (b:=ms) (m:=m2) (c:=c2) (enc:=iE) (val:=iS) (done:=dn) rfl rfl rfl hit3 hfm3 hf.ok hdn3 ?_ ?_
  ·intro hp
   clear ih3
   have hy4:=(hold3 (nx+1) (by omega)).trans ((hold2 (nx+1) (by omega) (by omega)).trans hy)
   have hx4:=(hold3 nx (by omega)).trans ((hold2 nx (by omega) (by omega)).trans hx)
   have hit4:=(hold3 (nx+1+1) (by omega)).trans hit2
   (repeat(first|refine sy (m:=m') (enc:=kE) (val:=f8) (kk:=k) (v:=(n1+1,di m3)) rfl rfl rfl (F.un _ rfl) (kK) (by assumption) rfl ?_|refine aj ?_|refine ac ?_|refine ab ?_|refine ay ?_|refine aU rfl ?_|refine an rfl ?_|(apply ai;exact rfl;exact rfl;exact rfl)|(apply aJ;exact rfl;exact rfl;exact rfl;exact(F.fo _ _ rfl rfl))|(apply eR;exact rfl;exact rfl;exact rfl;exact rfl)|refine aH rfl rfl rfl (F.ag _ rfl) (by assumption) (by exact rfl) ?_))
   have fl:Fl (n1+1) n1 m3 c3 G3 (H3.set (nx+1) (eK kE f8 (cZ m' k (n1+1,di m3) c') (ko m' k c'))):=
    Fl.frame (H:=H3) ⟨hf3,hy3,hok3,hbig4,by omega,fun hz=>by have:=hG3 _ hz;omega,fun hz=>by have:=hG3 _ hz;omega⟩ fun z hz=>Tr.aa _ _ (by
     rcases hz with hz|hz|hz
     ·omega
     ·omega
     ·have:=hG3 z hz;omega)
   have pf:PF k (n1+1,di m3) (H3.set (nx+1) (eK kE f8 (cZ m' k (n1+1,di m3) c') (ko m' k c'))) (fun z=>z=n1+1∨z=n1∨G3 z):=⟨n1,m3,c3,G3,fl,rfl,fun z=>Iff.rfl⟩
   have hper:(di m3).Perm (di m2):=by
    rw [qt,qt,hvals]
    exact hp.map _
   refine ih _ _ _ (done ++ [(k,(fn,di m2),b)]) ⟨hdn2,by omega,by(focus((repeat(first|assumption|refine(Tr.aa _ _ (by omega)).trans ?_));done)),by(focus((repeat(first|assumption|refine(Tr.aa _ _ (by omega)).trans ?_));done)),⟨cZ m' k (n1+1,di m3) c',ko m' k c',fun z=>(z=n1+1∨z=n1∨G3 z)∨G' z,Tr.ae _ _ _,hok'.put _ _,Big.add dO hg' c' hbig pf (fun z hz=>?_) (fun z hz hz'=>?_),fun z hz=>?_,?_,fun x hx=>?_⟩,fun z hz=>?_⟩ (by simp only [zE,List.length_singleton];omega) (SlIn.sub (by repeat(first|exact trivial|refine⟨rfl,?_⟩)))
   ·have:=hG' z hz
    exact(Tr.aa _ _ (by omega)).trans ((hold3 z (by omega)).trans (hold2 z (by omega) (by omega)))
   ·have:=hG' z hz'
    rcases hz with hz|hz|hz
    ·omega
    ·omega
    ·have:=hG3 z hz;omega
   ·rcases hz with (hz|hz|hz)|hz
    ·omega
    ·omega
    ·have:=hG3 z hz;omega
    ·have:=hG' z hz;omega
   ·rw [tS hg',hkeys,zF]
    rfl
   ·rcases List.mem_append.1 hx with hx|hx
    ·obtain⟨f,l,e1,e2⟩:=hcop x hx
     refine⟨f,l,?_,e2⟩
     rw [oI,if_neg (fun e=>hkn (by rw [hkeys,e];exact List.mem_map_of_mem hx))]
     exact e1
    ·rw [List.mem_singleton.1 hx]
     exact⟨n1+1,di m3,by rw [oI,if_pos rfl],hper⟩
   ·exact(Tr.aa _ _ (by omega)).trans ((hold3 z (by omega)).trans ((hold2 z (by omega) (by omega)).trans (hold z hz)))
  ·intro x hxm3 hxn3 hdn4
   have hkn3:x.1∉m3.map (·.1):=fun e=>by
    have:m3.map (·.1)=dn.map (·.1):=by
     have:=congrArg (List.map Prod.fst) hvals
     simpa [List.map_map,Function.comp_def] using this
    rw [this] at e
    obtain⟨y,hy,e⟩:=List.mem_map.1 e
    exact hxn3 (ln hf.ok.keys hxm3 (hdn3.2 y hy) e ▸ hy)
   have hg3:cr m3 x.1=none:=by
    rw [← ju,cq]
    simpa [kv,Function.comp_def] using hkn3
   have hlen4:=dH _ m2 hdn4.1 hdn4.2
   rw [zE,List.length_singleton] at hlen4
   have hgx3:=fv hf.ok.keys hxm3
   obtain⟨n,⟨q,s⟩,b2⟩:=x
   dsimp only at hgx3 hg3 hkn3
   have hws:s.writes.length≤N:=hwr n s (by rw [kp,hgx3];rfl)
   obtain⟨F1,R1,⟨v,GW,p1,p2,p3,p4⟩,_,_,r3⟩:=Big.get hbig3 hgx3
   dsimp only at p1 p2 p3
   have lq:q<nx:=l2 q ((r3 q).2 (.inl ((p4 q).2 (.inl rfl))))
   have lw: ∀ z,GW z→z<nx:=fun z hz=>l2 z ((r3 z).2 (.inl ((p4 z).2 (.inr hz))))
   refine ee (R:=fun H4 n4=>n4=n3∧H4.at' (n1+1+1)=some (itV ms c2 (dn ++ [(n,(q,s),b2)]))∧ ∀ z,z≠n1+1+1→H4.at' z=H3.at' z) ⟨rfl,Tr.ae _ _ _,fun z hz=>Tr.aa _ _ hz⟩ ?_
   rintro H4 n4 ⟨rfl,hit4,hold4⟩
   have hfm4:=(hold4 ms (by omega)).trans hfm3
   have hf4:=(hold4 (n1+1) (by omega)).trans hf3
   have hy4:=(hold4 n1 (by omega)).trans hy3
   have p14:=(hold4 q (by omega)).trans ((hold3 q (by omega)).trans p1)
   have hnew: ∀ z,z<n1→H4.at' z=H2.at' z:=fun z hz=>(hold4 z (by omega)).trans (hold3 z hz)
   obtain⟨zz,hz1,hz2⟩:=yi
   (repeat(first|(refine jL (b:=ms) (m:=m2) (c:=c2) (enc:=iE) (val:=iS) (x:=(n,(q,s),b2)) (done:=dn) rfl rfl rfl hit4 hfm4 hf.ok hxm3 ?_)|refine aj ?_|refine ac ?_|refine ab ?_|refine aD ?_|refine aE ?_|refine ar rfl ?_|(apply ah;exact rfl;exact rfl;exact rfl)|(apply bM;exact rfl;exact rfl;exact rfl;exact rfl)))
   rcases p2 with ⟨rfl,hw,_⟩|⟨r,rfl,hr,hGr⟩
   ·skip
    (apply dp;(focus(kernel_rfl));(focus(kernel_rfl)))
    (repeat(first|(apply ax;exact rfl;exact rfl;exact rfl)|(apply bl;exact rfl;exact rfl;exact rfl)|(apply aW;exact rfl;exact rfl;exact rfl;exact(F.fo _ _ rfl rfl))|(apply qa;exact rfl;exact rfl;exact rfl)|(refine bP rfl rfl rfl (F.ag _ rfl) hf4 (aN rfl) ?_)|(refine gv rfl rfl rfl (F.ag _ rfl) p14 (dL _ _) ?_)|(refine bP rfl rfl rfl (F.ag _ rfl) p14 (cv _ _) ?_)|((apply aY;exact rfl;exact rfl;exact rfl;(focus(kernel_rfl));exact(uw)))|(refine m6 (pl:= [(0,256),(256,1)]) rfl rfl rfl hz1 (F.pl _ rfl) (fP hz2 _ rfl) ?_)|refine kJ (m:=m3) (enc:=iE) (val:=iS) (kk:=n) (v:=(n4,s)) rfl rfl rfl (F.un _ rfl) (iK) (by(repeat(first|assumption|refine(Tr.aa _ _ (by omega)).trans ?_));done) rfl ?_))
    (refine aF ?_);(refine⟨by kernel_rfl,?_,?_⟩);(focus(repeat(first|exact trivial|refine⟨.inl (cj rfl),?_⟩|refine⟨.inr ⟨0,by kernel_rfl,AllH.all (fun _=>(by first|exact aB rfl|exact bv rfl|exact bc (F.fo _ _ rfl rfl) rfl)) _⟩,?_⟩|refine⟨.inr ⟨0,by kernel_rfl,(by(refine⟨(by first|exact aO (F.ag _ rfl) rfl (by(repeat(first|assumption|refine(Tr.aa _ _ (by omega)).trans ?_));done) (aN rfl)|exact bY (F.ag _ rfl) rfl ((Tr.aa _ _ (by show q≠_;omega)).trans ((Tr.aa _ _ (by show q≠_;omega)).trans p14)) (dL _ _)|exact aO (F.ag _ rfl) rfl ((Tr.aa _ _ (by show q≠_;omega)).trans ((Tr.aa _ _ (by show q≠_;omega)).trans p14)) (cv _ _)|exact gh (pl:= [(0,256),(256,1)]) rfl hz1 (F.pl _ rfl) (fP hz2 _ rfl)),?_⟩;(repeat(refine⟨(by first|exact aO (F.ag _ rfl) rfl (by(repeat(first|assumption|refine(Tr.aa _ _ (by omega)).trans ?_));done) (aN rfl)|exact bY (F.ag _ rfl) rfl p14 (dL _ _)|exact aO (F.ag _ rfl) rfl p14 (cv _ _)|exact bY (F.ag _ rfl) rfl ((Tr.aa _ _ (by show q≠_;omega)).trans p14) (dL _ _)|exact aO (F.ag _ rfl) rfl ((Tr.aa _ _ (by show q≠_;omega)).trans p14) (cv _ _)|exact gh (pl:= [(0,256),(256,1)]) rfl hz1 (F.pl _ rfl) (fP hz2 _ rfl)),?_⟩));exact trivial))⟩,?_⟩)))
    dsimp only [wrL]
    (repeat(refine ay ?_))
    refine ih3 _ _ _ (dn ++ [(n,(q,s),b2)]) ⟨hdn4,by omega,by(focus((repeat(refine(Tr.aa _ _ (by omega)).trans ?_));exact hit4)),by(focus((repeat(refine(Tr.aa _ _ (by omega)).trans ?_));exact hf4)),⟨cZ m3 n (n4,s) c3,ko m3 n c3,fun z=>z=n4∨G3 z,Tr.ae _ _ _,hok3.put _ _,Big.add d9 hg3 c3 hbig4 ?_ (fun z hz=>?_) (fun z hz hz'=>?_),fun z hz=>?_,?_⟩,fun z hz=>?_⟩ (by simp only [zE,List.length_singleton];omega) (SlIn.sub (by repeat(first|exact trivial|refine⟨rfl,?_⟩)))
    ·exact⟨.sc (.slice none 0 0),fun _=>False,by(focus((repeat(first|exact Tr.ae _ _ _|refine(Tr.aa _ _ (by omega)).trans ?_));done)),.inl ⟨rfl,hw,fun _ h=>h⟩,fun h=>h,fun z=>by simp⟩
    ·have:=hG3 z hz
     exact(Tr.aa _ _ (by omega)).trans (by(repeat(refine(Tr.aa _ _ (by omega)).trans ?_));exact hold4 z (by omega))
    ·have:=hG3 z hz'
     omega
    ·rcases hz with hz|hz
     ·omega
     ·have:=hG3 z hz;omega
    ·rw [iD hg3,zF,hvals,zF]
     rfl
    ·exact(Tr.aa _ _ (by omega)).trans (by(repeat(refine(Tr.aa _ _ (by omega)).trans ?_));exact hnew z hz)
   ·have lr:=lw r ((hGr r).2 rfl)
    have hr4:=(hnew r (by omega)).trans hr
    (apply dp;(focus(kernel_rfl));(focus(kernel_rfl)))
    (repeat(first|(apply ax;exact rfl;exact rfl;exact rfl)|(apply bl;exact rfl;exact rfl;exact rfl)|(apply aW;exact rfl;exact rfl;exact rfl;exact(F.fo _ _ rfl rfl))|(apply qa;exact rfl;exact rfl;exact rfl)|(refine bP rfl rfl rfl (F.ag _ rfl) hf4 (aN rfl) ?_)|(refine gv rfl rfl rfl (F.ag _ rfl) p14 (dL _ _) ?_)|(refine bP rfl rfl rfl (F.ag _ rfl) p14 (cv _ _) ?_)|((apply aY;exact rfl;exact rfl;exact rfl;(focus(kernel_rfl));exact(xX s.writes hr4 (by omega))))|(refine m6 (pl:= [(0,256),(256,1)]) rfl rfl rfl hz1 (F.pl _ rfl) (fP hz2 _ rfl) ?_)|refine kJ (m:=m3) (enc:=iE) (val:=iS) (kk:=n) (v:=(n4+1,s)) rfl rfl rfl (F.un _ rfl) (iK) (by(repeat(first|assumption|refine(Tr.aa _ _ (by omega)).trans ?_));done) rfl ?_))
    (refine aF ?_);(refine⟨by kernel_rfl,?_,?_⟩);(focus(repeat(first|exact trivial|refine⟨.inl (cj rfl),?_⟩|refine⟨.inr ⟨0,by kernel_rfl,AllH.all (fun _=>(by first|exact aB rfl|exact bv rfl|exact bc (F.fo _ _ rfl rfl) rfl)) _⟩,?_⟩|refine⟨.inr ⟨0,by kernel_rfl,(by(refine⟨(by first|exact aO (F.ag _ rfl) rfl (by(repeat(first|assumption|refine(Tr.aa _ _ (by omega)).trans ?_));done) (aN rfl)|exact bY (F.ag _ rfl) rfl ((Tr.aa _ _ (by show q≠_;omega)).trans ((Tr.aa _ _ (by show q≠_;omega)).trans ((Tr.aa _ _ (by show q≠_;omega)).trans p14))) (dL _ _)|exact aO (F.ag _ rfl) rfl ((Tr.aa _ _ (by show q≠_;omega)).trans ((Tr.aa _ _ (by show q≠_;omega)).trans ((Tr.aa _ _ (by show q≠_;omega)).trans p14))) (cv _ _)|exact gh (pl:= [(0,256),(256,1)]) rfl hz1 (F.pl _ rfl) (fP hz2 _ rfl)),?_⟩;(repeat(refine⟨(by first|exact aO (F.ag _ rfl) rfl (by(repeat(first|assumption|refine(Tr.aa _ _ (by omega)).trans ?_));done) (aN rfl)|exact bY (F.ag _ rfl) rfl p14 (dL _ _)|exact aO (F.ag _ rfl) rfl p14 (cv _ _)|exact bY (F.ag _ rfl) rfl ((Tr.aa _ _ (by show q≠_;omega)).trans p14) (dL _ _)|exact aO (F.ag _ rfl) rfl ((Tr.aa _ _ (by show q≠_;omega)).trans p14) (cv _ _)|exact bY (F.ag _ rfl) rfl ((Tr.aa _ _ (by show q≠_;omega)).trans ((Tr.aa _ _ (by show q≠_;omega)).trans p14)) (dL _ _)|exact aO (F.ag _ rfl) rfl ((Tr.aa _ _ (by show q≠_;omega)).trans ((Tr.aa _ _ (by show q≠_;omega)).trans p14)) (cv _ _)|exact gh (pl:= [(0,256),(256,1)]) rfl hz1 (F.pl _ rfl) (fP hz2 _ rfl)),?_⟩));exact trivial))⟩,?_⟩)))
    dsimp only [wrL]
    (repeat(refine ay ?_))
    refine ih3 _ _ _ (dn ++ [(n,(q,s),b2)]) ⟨hdn4,by omega,by(focus((repeat(refine(Tr.aa _ _ (by omega)).trans ?_));exact hit4)),by(focus((repeat(refine(Tr.aa _ _ (by omega)).trans ?_));exact hf4)),⟨cZ m3 n (n4+1,s) c3,ko m3 n c3,fun z=>(z=n4+1∨z=n4)∨G3 z,Tr.ae _ _ _,hok3.put _ _,Big.add d9 hg3 c3 hbig4 ?_ (fun z hz=>?_) (fun z hz hz'=>?_),fun z hz=>?_,?_⟩,fun z hz=>?_⟩ (by simp only [zE,List.length_singleton];omega) (SlIn.sub (by repeat(first|exact trivial|refine⟨rfl,?_⟩)))
    ·exact⟨.slu n4 0 s.writes.length,fun z=>z=n4,by(focus((repeat(first|exact Tr.ae _ _ _|refine(Tr.aa _ _ (by omega)).trans ?_));done)),.inr ⟨n4,rfl,by(focus((repeat(first|exact Tr.ae _ _ _|refine(Tr.aa _ _ (by omega)).trans ?_));done)),fun z=>Iff.rfl⟩,by show ¬ n4+1=n4;omega,fun z=>Iff.rfl⟩
    ·have:=hG3 z hz
     exact(Tr.aa _ _ (by omega)).trans (by(repeat(refine(Tr.aa _ _ (by omega)).trans ?_));exact hold4 z (by omega))
    ·have:=hG3 z hz'
     omega
    ·rcases hz with hz|hz
     ·omega
     ·have:=hG3 z hz;omega
    ·rw [iD hg3,zF,hvals,zF]
     rfl
    ·exact(Tr.aa _ _ (by omega)).trans (by(repeat(refine(Tr.aa _ _ (by omega)).trans ?_));exact hnew z hz)
theorem qS{K V:Type} [DecidableEq K]{l:List (K×V)}{k:K}{v:V}(h:a6 l k=some v)(w:V):(cc l k w).map (·.1)=l.map (·.1):=by
 induction l with
 | nil=>simp [dZ] at h
 | cons z l ih=>
   by_cases e:z.1=k
   ·simp [cc,e]
   ·simp [cc,e]
    exact ih (by simpa [a6,e] using h)
structure Half (no:Bool) (P:ByteArray→Int→Prop) (D E:DD):Prop where
 cap:E.cap=D.cap
 fuse:E.fuse = -1
 dead:E.dead=false
 changes:E.changes=0
 keys:E.files.map (·.1)=D.files.map (·.1)
 secs: ∀ k m,a6 D.files k=some m→ ∃ m',a6 E.files k=some m'∧m'.map (·.1)=m.map (·.1)∧ ∀ n s,a6 m n=some s→ ∃ s',a6 m' n=some s'∧(P k n→lost no s s')∧(¬ P k n→s'=s)
def DD.up(D:DD):DD:={D with fuse:= -1,dead:=false,changes:=0}
theorem Half.start(no:Bool)(D:DD):Half no (fun _ _=>False) D D.up:=⟨rfl,rfl,rfl,rfl,rfl,fun _ m h=>⟨m,h,rfl,fun _ s hs=>⟨s,hs,fun h=>h.elim,fun _=>rfl⟩⟩⟩
theorem Half.iff{no:Bool}{P P':ByteArray→Int→Prop}{D E:DD}(h:Half no P D E)(hp: ∀ k m n s,a6 D.files k=some m→a6 m n=some s→(P k n↔P' k n)):Half no P' D E:=
 ⟨h.cap,h.fuse,h.dead,h.changes,h.keys,fun k m hm=>by
   obtain⟨m',h1,h2,h3⟩:=h.secs k m hm
   refine⟨m',h1,h2,fun n s hs=>?_⟩
   obtain⟨s',e1,e2,e3⟩:=h3 n s hs
   have hi:=hp k m n s hm hs
   exact⟨s',e1,fun h=>e2 (hi.2 h),fun h=>e3 fun h'=>h (hi.1 h')⟩⟩
theorem Half.lose{no:Bool}{P:ByteArray→Int→Prop}{D E:DD}(h:Half no P D E){k:ByteArray}{m:List (Int×Sec)}{n:Int}{s s':Sec}(hm:a6 D.files k=some m)(hs:a6 m n=some s)(hl:lost no s s') :
 Half no (fun k' n'=>(k'=k∧n'=n)∨P k' n') D (E.lay k n fun _=>s'):=by
 obtain⟨m1,h1,h2,h3⟩:=h.secs k m hm
 obtain⟨s1,e1,_,_⟩:=h3 n s hs
 have he:(E.lay k n fun _=>s')=E.setFiles (cc E.files k (cc m1 n s')):=by
  unfold DD.lay
  rw [h1]
 rw [he]
 refine⟨h.cap,h.fuse,h.dead,h.changes,(qS h1 _).trans h.keys,fun k' m' hm'=>?_⟩
 by_cases hk:k=k'
 ·subst hk
  rw [hm] at hm'
  cases hm'
  refine⟨cc m1 n s',by show a6 (cc _ _ _) _=_;rw [bX,if_pos rfl],(qS e1 _).trans h2,fun n' t ht=>?_⟩
  by_cases hn:n=n'
  ·subst hn
   rw [hs] at ht
   cases ht
   exact⟨s',by rw [bX,if_pos rfl],fun _=>hl,fun h=>(h (.inl ⟨rfl,rfl⟩)).elim⟩
  ·obtain⟨t',g1,g2,g3⟩:=h3 n' t ht
   refine⟨t',by rw [bX,if_neg hn];exact g1,fun h=>?_,fun h=>g3 fun h'=>h (.inr h')⟩
   rcases h with h|h
   ·exact(hn h.2.symm).elim
   ·exact g2 h
 ·obtain⟨m2,g1,g2,g3⟩:=h.secs k' m' hm'
  refine⟨m2,by show a6 (cc _ _ _) _=_;rw [bX,if_neg hk];exact g1,g2,fun n' t ht=>?_⟩
  obtain⟨t',f1,f2,f3⟩:=g3 n' t ht
  refine⟨t',f1,fun h=>?_,fun h=>f3 fun h'=>h (.inr h')⟩
  rcases h with h|h
  ·exact(hk h.1.symm).elim
  ·exact f2 h
theorem Half.all{no:Bool}{P:ByteArray→Int→Prop}{D E:DD}(h:Half no P D E)(hp: ∀ k m n s,a6 D.files k=some m→a6 m n=some s→P k n):D.Lost no E:=
 ⟨h.cap,h.fuse,h.dead,h.changes,h.keys ▸ List.Perm.refl _,fun k m hm=>by
   obtain⟨m',h1,h2,h3⟩:=h.secs k m hm
   refine⟨m',h1,h2 ▸ List.Perm.refl _,fun n s hs=>?_⟩
   obtain⟨s',e1,e2,_⟩:=h3 n s hs
   exact⟨s',e1,e2 (hp k m n s hm hs)⟩⟩
theorem Cop.lost{no:Bool}{D D1 E:DD}(hc:Cop D D1)(hn: ∀ k m,a6 D.files k=some m→(m.map (·.1)).Nodup)(h:D1.Lost no E):D.Lost no E:=
 ⟨h.cap.trans hc.cap,h.fuse,h.dead,h.changes,h.keys.trans hc.keys,fun k m hm=>by
   obtain⟨m1,a1,a2⟩:=hc.secs k m hm
   obtain⟨m2,b1,b2,b3⟩:=h.secs k m1 a1
   exact⟨m2,b1,b2.trans (a2.map _),fun n s hs=>b3 n s (by rw [jq (hn k m hm) a2];exact hs)⟩⟩
theorem Cop.back{D D1:DD}(hc:Cop D D1){k:ByteArray}{m1:List (Int×Sec)}(h:a6 D1.files k=some m1): ∃ m,a6 D.files k=some m∧m1.Perm m:=by
 have h1:k∈D.files.map (·.1):=hc.keys.subset (dj h)
 obtain⟨m,hm⟩:=dI h1
 obtain⟨m',e1,e2⟩:=hc.secs k m hm
 rw [h] at e1
 cases e1
 exact⟨m,hm,e2⟩
theorem Cop.ok{D D1:DD}{N:Nat}(hc:Cop D D1)(h:D.Ok N):D1.up.Ok N:=by
 have hsz:cb D1.files=cb D.files:=nB h.f.ndF hc.keys hc.secs
 refine⟨⟨hc.keys.nodup_iff.2 h.f.ndF,fun k m hm=>?_,fun k m hm y hy=>?_,fun k m hm=>?_,?_,?_,?_,fun k m n s hm hs=>?_⟩,zB _,by show(-1:Int) ≤ -1∧(-1:Int)≤9223372036854775807;omega,by show D1.cap≤_;rw [hc.cap];exact h.cap⟩
 ·obtain⟨m',e1,e2⟩:=hc.back hm
  exact(e2.map _).nodup_iff.2 (h.f.ndS k m' e1)
 ·obtain⟨m',e1,e2⟩:=hc.back hm
  exact h.f.num k m' e1 y (e2.subset hy)
 ·obtain⟨m',e1,e2⟩:=hc.back hm
  exact h.f.name k m' e1
 ·have:=hc.keys.length_eq
  rw [List.length_map,List.length_map] at this
  show D1.files.length≤32
  rw [this]
  exact h.f.few
 ·show cb D1.files≤N
  rw [hsz]
  exact h.f.used
 ·show cb D1.files≤D1.cap
  rw [hsz,hc.cap]
  exact h.f.room
 ·obtain⟨m',e1,e2⟩:=hc.back hm
  exact h.f.wr k m' n s e1 (by rw [← jq (h.f.ndS k m' e1) e2];exact hs)
def PickIs(H:aK)(v:SV)(l:List Int):Prop:=(∃ a c,v = .sc (.slice a 0 c)∧l= [])∨(∃ b o c,v = .sl b o 0 c∧l= [])∨ ∃ b eo ro ne rt vs,v = .slu b eo l.length∧H.at' b=some (dat ro ne 1 rt vs)∧0<ne∧eo+l.length≤ne∧ ∀ i (h:i<l.length),vs[eo+i]? =some (.int .i64 l[i])
theorem PickIs.frame{H H':aK}{v:SV}{l:List Int}{nx:Nat}(h:PickIs H v l)(hu: ∀ b vo,H.at' b=some vo→b<nx)(hf: ∀ z,z<nx→H'.at' z=H.at' z):PickIs H' v l:=by
 rcases h with h|h|⟨b,eo,ro,ne,rt,vs,h1,h2,h3⟩
 ·exact .inl h
 ·exact .inr (.inl h)
 ·exact .inr (.inr ⟨b,eo,ro,ne,rt,vs,h1,(hf b (hu b _ h2)).trans h2,h3⟩)
theorem PickIs.next{H:aK}{b eo:Nat}{x y:Int}{l:List Int}(h:PickIs H (.slu b eo (x :: y :: l).length) (x :: y :: l)):PickIs H (.slu b (eo+1) (y :: l).length) (y :: l):=by
 rcases h with ⟨a,c,h,_⟩|⟨_,_,_,h,_⟩|⟨b',eo',ro,ne,rt,vs,h1,h2,h3,h4,h5⟩
 ·cases h
 ·cases h
 ·cases h1
  refine .inr (.inr ⟨b,eo+1,ro,ne,rt,vs,rfl,h2,h3,?_,fun i hi=>?_⟩)
  ·simp only [zD] at h4 ⊢
   omega
  ·have:=h5 (i+1) (by simp only [zD] at hi ⊢;omega)
   rw [show eo+1+i=eo+(i+1) by omega]
   simpa using this
section
variable {P:Program} {fn nt nx i:Nat} {T:Tr SV} {k:List AIt} {dfs:List ADf} {H:aK} {Q:Pst} {ops:Array Oper} {l:List Oper} {ty:TypeId} {pos:String} {af:Array Edge} {gd:Option (Nat×Bool)} {ro:Option Nat} {d:Option Tmp}
theorem qy{t e:TypeId}{x:Operand}{b o n c:Nat}(hu:P.underlying t=some (.slice e))(hx:ao T x=some (.sl b o n c)):ReadDoes P T H ⟨d,.call {callee:= .builtin .len,args:= #[x],argTypes:= #[t]},ty,pos,af,gd⟩ (.sc (.int .i64 n)):=by
 refine eM ?_
 simp only [cQ,lj,hx,zH,vL,hu]
theorem w7{t e:TypeId}{x:Operand}{b o n c:Nat}{dd:Nat}(hw:aq T ops ⟨some dd,.call {callee:= .builtin .len,args:= #[x],argTypes:= #[t]},ty,pos,af,gd⟩=some true)(hd:Nat.blt dd nt=true)(hx:ao T x=some (.sl b o n c))(hu:P.underlying t=some (.slice e))
 (h:Wp P ro ⟨fn,nt,T.set dd (.sc (.int .i64 n)),.inReg ops (i+1) l :: k,dfs,H,nx⟩ Q):Wp P ro ⟨fn,nt,T,.inReg ops i (⟨some dd,.call {callee:= .builtin .len,args:= #[x],argTypes:= #[t]},ty,pos,af,gd⟩ :: l) :: k,dfs,H,nx⟩ Q:=
 bC hw (.inr (fun _ h=>by cases h)) ((qy hu hx).does) (by rw [aC hd];exact h)
end
theorem mO{K V:Type} [DecidableEq K]{enc:K→Value}{val:V→SV}(he: ∀ a b,enc a=enc b→a=b): ∀ {m m':List (K×V×Nat)},lQ enc val m=lQ enc val m'→ ∀ {k:K} {u:V},cr m k=some u→ ∃ u',cr m' k=some u'∧val u'=val u
 | [],_,_,k,u,h=>by cases h
 | x :: m,[],e,_,_,_=>by cases e
 | x :: m,y :: m',e,k,u,h=>by
   simp only [lQ,zC,List.cons.injEq,zn] at e
   obtain⟨⟨e1,e2,_⟩,e3⟩:=e
   have e1:=he _ _ e1
   by_cases hk:x.1=k
   ·simp only [cr,List.find?_cons,hk,decide_true,zG,zd] at h
    subst h
    refine⟨y.2.1,?_,e2.symm⟩
    rw [e1] at hk
    simp only [cr,List.find?_cons,hk,decide_true,zG]
   ·have hk': ¬ y.1=k:=fun h=>hk (e1.trans h)
    simp only [cr,List.find?_cons,hk,decide_false] at h
    obtain⟨u',g1,g2⟩:=mO he (m:=m) (m':=m') e3 (k:=k) (u:=u) h
    refine⟨u',?_,g2⟩
    simp only [cr,List.find?_cons,hk',decide_false]
    exact g1
theorem ri{t:TypeId}{l l':List SV}{H:aK}{b i:Nat}{v v':SV}(h:H.at' b=some (ak t l))(h':H.at' b=some (ak t l'))(hv:l[i]? =some v)(hv':l'[i]? =some v'):v=v':=by
 rw [h] at h'
 have e:=congrArg (fun o=>VO.cell o i) (Option.some.inj h')
 rw [aN hv,aN hv'] at e
 exact Option.some.inj e
theorem DAt.stay{x mp:Nat}{m:MFl}{c:Nat}{E0 E:DD}{F:Nat→Prop}{H:aK}(hE:DAt x E F H)(h1:H.at' x=some (ak 58 (dkC E0 mp)))(h2:H.at' mp=some (eK kE f8 m c)){k:ByteArray}{fn ms:Nat}{l:List (Int×Sec)}(hg:cr m k=some (fn,l))
 (h3:H.at' fn=some (ak 63 [.mp ms])) {m2:MSc} {c2:Nat} (h4:H.at' ms=some (eK iE iS m2 c2)) {n:Int} {q:Nat} {s:Sec} (hs:cr m2 n=some (q,s)): ∃ s',E.sec k n=some s'∧Foc x k n q s' E F H:=by
 obtain⟨mp',m',c',G,h,hF⟩:=hE
 have e1:=ri (i:=1) h.box h1 rfl rfl
 cases e1
 have e2:=h.map.symm.trans h2
 obtain⟨⟨fn',l'⟩,g1,g2⟩:=mO (m:=m) (m':=m') (enc:=kE) (val:=f8) (fun a b e=>by cases e;rfl) (by injection e2 with e2;injection e2 with e3 e4;exact e3.symm) hg
 have g3:fn'=fn:=by injection g2
 subst g3
 obtain⟨ms',m2',c2',G2,R,hf,rfl,hR,hd,hG⟩:=h.file g1
 have e5:=ri (i:=0) hf.box h3 rfl rfl
 cases e5
 have e6:=hf.map.symm.trans h4
 obtain⟨⟨q',s'⟩,g4,g5⟩:=mO (m:=m2) (m':=m2') (enc:=iE) (val:=iS) (fun a b e=>by cases e;rfl) (by injection e6 with e6;injection e6 with e7 e8;exact e7.symm) hs
 have g6:q'=q:=by injection g5
 subst g6
 refine⟨s',?_,?_⟩
 ·unfold DD.sec
  rw [h.fl,dR,g1]
  simp only [zG]
  rw [kp,g4]
  rfl
 ·have:=Dk.foc h g1 hf hR hd hG g4
  rwa [show(fun z=>z=x∨z=mp∨G z)=F from funext fun z=>propext (hF z).symm] at this
theorem Half.keep{no:Bool}{P:ByteArray→Int→Prop}{D E:DD}(h:Half no P D E){k:ByteArray}{n:Int}{s1:Sec}(h1:E.sec k n=some s1)(hw:s1.writes= []):Half no (fun k' n'=>(k'=k∧n'=n)∨P k' n') D E:=
 ⟨h.cap,h.fuse,h.dead,h.changes,h.keys,fun k' m hm=>by
   obtain⟨m',a1,a2,a3⟩:=h.secs k' m hm
   refine⟨m',a1,a2,fun n' s hs=>?_⟩
   obtain⟨s',e1,e2,e3⟩:=a3 n' s hs
   refine⟨s',e1,fun hP=>?_,fun hP=>e3 fun hp=>hP (.inr hp)⟩
   rcases hP with ⟨rfl,rfl⟩|hp
   ·by_cases hp:P k' n'
    ·exact e2 hp
    ·have e4:=e3 hp
     have e5:s'=s1:=by
      unfold DD.sec at h1
      rw [a1] at h1
      simp only at h1
      rw [e1] at h1
      exact Option.some.inj h1
     subst e4
     subst e5
     exact⟨hw,.inl rfl⟩
   ·exact e2 hp⟩
def we(D:DD)(k:ByteArray)(n:Int):Prop:= ∀ k' m n' s,a6 D.files k'=some m→a6 m n'=some s→s.writes≠ []→k'=k∧n'=n
def gD(l:List Int)(s:Sec):Sct:=match l with
 | []=>s.lasts
 | p :: _=>if 0<p.tmod ((s.writes.length:Int)+1) then(s.writes[(p.tmod ((s.writes.length:Int)+1)).toNat-1]?).getD s.lasts else s.lasts
def PkL(l:List Int)(P:ByteArray→Int→Prop)(D:DD)(l':List Int):Prop:=(l= []→l'= [])∧ ∀ k n m s,we D k n→a6 D.files k=some m→a6 m n=some s→s.writes≠ []→ ¬ P k n→l'=l
theorem PkL.start(l:List Int)(P:ByteArray→Int→Prop)(D:DD):PkL l P D l:=⟨fun h=>h,fun _ _ _ _ _ _ _ _ _=>rfl⟩
theorem PkL.iff{l l':List Int}{P P':ByteArray→Int→Prop}{D:DD}(h:PkL l P D l')(hp: ∀ k m n s,a6 D.files k=some m→a6 m n=some s→P k n→P' k n):PkL l P' D l':=
 ⟨h.1,fun k n m s h1 h2 h3 h4 h5=>h.2 k n m s h1 h2 h3 h4 fun h6=>h5 (hp k m n s h2 h3 h6)⟩
theorem PkL.use{l l':List Int}{P:ByteArray→Int→Prop}{D:DD}{k:ByteArray}{n:Int}{m:List (Int×Sec)}{s:Sec}(h1:a6 D.files k=some m)(h2:a6 m n=some s)(h3:s.writes≠ [])(hl:l= []→l'= [])(hp:P k n):PkL l P D l':=
 ⟨hl,fun k' n' m' s' g1 g2 g3 g4 g5=>by
   obtain⟨rfl,rfl⟩:=g1 k m n s h1 h2 h3
   exact absurd hp g5⟩
structure HalfL (l:List Int) (P:ByteArray→Int→Prop) (D E:DD):Prop where
 h:Half l.isEmpty P D E
 sole: ∀ k n m s s',we D k n→a6 D.files k=some m→a6 m n=some s→s.writes≠ []→P k n→E.sec k n=some s'→s'.lasts=gD l s
theorem HalfL.start(l:List Int)(D:DD):HalfL l (fun _ _=>False) D D.up:=⟨Half.start _ D,fun _ _ _ _ _ _ _ _ _ h=>h.elim⟩
theorem HalfL.iff{l:List Int}{P P':ByteArray→Int→Prop}{D E:DD}(h:HalfL l P D E)(hp: ∀ k m n s,a6 D.files k=some m→a6 m n=some s→(P k n↔P' k n)):HalfL l P' D E:=
 ⟨h.h.iff hp,fun k n m s s' h1 h2 h3 h4 h5 h6=>h.sole k n m s s' h1 h2 h3 h4 ((hp k m n s h2 h3).2 h5) h6⟩
theorem Half.was{no:Bool}{P:ByteArray→Int→Prop}{D E:DD}(h:Half no P D E){k:ByteArray}{m:List (Int×Sec)}{n:Int}{s1:Sec}(hm:a6 D.files k=some m)(h1:E.sec k n=some s1)(hw:s1.writes≠ []):a6 m n=some s1∧ ¬ P k n:=by
 obtain⟨m',a1,a2,a3⟩:=h.secs k m hm
 unfold DD.sec at h1
 rw [a1] at h1
 simp only at h1
 have hk:n∈m.map (·.1):=by
  rw [← a2]
  exact dj h1
 obtain⟨s,hs⟩:=dI hk
 obtain⟨s'',e1,e2,e3⟩:=a3 n s hs
 rw [h1] at e1
 cases e1
 have hp: ¬ P k n:=fun hp=>hw (e2 hp).1
 exact⟨by rw [e3 hp];exact hs,hp⟩
theorem HalfL.keep{l:List Int}{P:ByteArray→Int→Prop}{D E:DD}(h:HalfL l P D E){k:ByteArray}{m:List (Int×Sec)}{n:Int}{s1:Sec}(hm:a6 D.files k=some m)(h1:E.sec k n=some s1)(hw:s1.writes= []):HalfL l (fun k' n'=>(k'=k∧n'=n)∨P k' n') D E:=by
 refine⟨h.h.keep h1 hw,fun k' n' m' s s' g1 g2 g3 g4 g5 g6=>?_⟩
 by_cases hp:P k' n'
 ·exact h.sole k' n' m' s s' g1 g2 g3 g4 hp g6
 ·rcases g5 with ⟨rfl,rfl⟩|g5
  ·exfalso
   obtain⟨m2,a1,a2,a3⟩:=h.h.secs k' m' g2
   obtain⟨s2,e1,_,e3⟩:=a3 n' s g3
   have e4:=e3 hp
   unfold DD.sec at h1
   rw [a1] at h1
   simp only at h1
   rw [e1] at h1
   cases h1
   exact g4 (e4 ▸ hw)
  ·exact absurd g5 hp
theorem xL{E:DD}{k:ByteArray}{n:Int}{s1 s':Sec}(h1:E.sec k n=some s1)(k':ByteArray)(n':Int):(E.lay k n fun _=>s').sec k' n'=if k'=k∧n'=n then some s' else E.sec k' n':=by
 unfold DD.sec at h1
 cases hm:a6 E.files k with
 | none=>rw [hm] at h1;cases h1
 | some m=>
   unfold DD.lay
   rw [hm]
   simp only
   unfold DD.sec DD.setFiles
   simp only
   rw [bX]
   by_cases hk:k=k'
   ·subst hk
    rw [if_pos rfl]
    simp only
    rw [bX,hm]
    by_cases hn:n=n'
    ·subst hn
     simp
    ·rw [if_neg hn,if_neg (fun h=>hn h.2.symm)]
   ·rw [if_neg hk,if_neg (fun h=>hk h.1.symm)]
theorem HalfL.lose{l:List Int}{P:ByteArray→Int→Prop}{D E:DD}(h:HalfL l P D E){k:ByteArray}{m:List (Int×Sec)}{n:Int}{s1 s':Sec}(hm:a6 D.files k=some m)(h1:E.sec k n=some s1)(hw:s1.writes≠ [])(hl:lost l.isEmpty s1 s')(hp:we D k n→s'.lasts=gD l s1)(h2:Half l.isEmpty (fun k' n'=>(k'=k∧n'=n)∨P k' n') D (E.lay k n fun _=>s')):HalfL l (fun k' n'=>(k'=k∧n'=n)∨P k' n') D (E.lay k n fun _=>s'):=by
 refine⟨h2,fun k' n' m' s t g1 g2 g3 g4 g5 g6=>?_⟩
 obtain⟨w1,w2⟩:=h.h.was hm h1 hw
 obtain⟨rfl,rfl⟩:=g1 k m n s1 hm w1 hw
 rw [hm] at g2
 cases g2
 rw [w1] at g3
 cases g3
 rw [xL h1,if_pos ⟨rfl,rfl⟩] at g6
 cases g6
 exact hp g1
theorem Cop.sole{D D1:DD}(hc:Cop D D1)(hn: ∀ k m,a6 D.files k=some m→(m.map (·.1)).Nodup){k:ByteArray}{n:Int}(h:we D k n):we D1 k n:=fun k' m1 n' s h1 h2 h3=>by
 obtain⟨m,e1,e2⟩:=hc.back h1
 exact h k' m n' s e1 (by rw [← jq (hn k' m e1) e2];exact h2) h3
abbrev oIV:Int→List Value:=fun x=> [.int .i64 x]
abbrev bH(n:Nat)(d:Array Int):VO:=arr false n 1 3 oIV d
def bh(x y:Int):Bool:=decide ((x:Int)<(y:Int))
theorem oInan(a:Int):Ctr Try.prog 92 [.sc (.int .i64 a)] [] (fun c=>c=⟨.sc (.bool false),[]⟩):=by
 refine Fnc.start Try.func92 rfl rfl ?_
 (repeat(first|refine aj ?_|refine ac ?_|refine ab ?_|refine ai rfl rfl rfl ?_|refine ah rfl rfl rfl ?_|refine yp rfl rfl rfl rfl ?_))
 (apply aS Try.func92 (congrArg Array.toList Try.results92);(focus(repeat(first|exact ResIs.nil|apply ResIs.tmp rfl))))
 (refine⟨_,rfl,Ends.val (ExtOk.of rfl) rfl ?_ ?_⟩)
 ·simp
 ·trivial
theorem ey(a b:Int):Ctr Try.prog 80 [.sc (.int .i64 a),.sc (.int .i64 b)] [] (fun c=>c=⟨.sc (.bool (bh a b)),[]⟩):=by
 refine Fnc.start Try.func80 rfl rfl ?_
 (repeat(first|refine aj ?_|refine ac ?_|refine ab ?_|refine ai rfl rfl rfl ?_|refine ah rfl rfl rfl ?_|refine ci rfl rfl rfl rfl ?_|refine jK rfl ?_|refine gJ (oInan _) [] rfl rfl rfl (by kernel_rfl) rfl (ExtOk.of rfl) rfl trivial ?_|refine wY rfl rfl rfl rfl ?_))
 (apply aS Try.func80 (congrArg Array.toList Try.results80);(focus(repeat(first|exact ResIs.nil|apply ResIs.tmp rfl))))
 (refine⟨_,rfl,Ends.val (ExtOk.of rfl) rfl ?_ ?_⟩)
 ·rfl
 ·trivial
theorem oIins(n a b:Nat)(d:Array Int)(hn:n<4611686018427387904)(hd:d.size=n)(hab:a≤b)(hb:b≤n) :
 Ctr Try.prog 74 [.slu 0 0 n,.sc (.int .i64 (a:Int)),.sc (.int .i64 (b:Int))] [bH n d] (fun c=>c=⟨.tup [],[some (bH n (Sort.insertionSort bh d a b))]⟩):=by
 refine Fnc.start Try.func74 rfl rfl ?_
 (repeat(first|refine aj ?_|refine ac ?_|refine ab ?_|refine aD ?_|refine ai rfl rfl rfl ?_|refine ah rfl rfl rfl ?_|refine bj rfl rfl rfl rfl (by omega) (by omega) ?_))
 refine ct 1 (fun s:Nat×Array Int=> [(0,.slu 0 0 n),(1,.sc (.int .i64 (a:Int))),(2,.sc (.int .i64 (b:Int))),(6,.sc (.int .i64 (s.1:Int)))]) (fun s=> [some (bH n s.2)]) (fun s=>s.1≤n+1∧a<s.1∧s.2.size=n∧Sort.insOuter bh a b s.1 s.2=Sort.insertionSort bh d a b) (fun s=>n+1-s.1) (a+1,d) []
  (fun _=>rfl) ⟨by omega,by omega,hd,rfl⟩ ?_ (fun _=>rfl) (fun _=>rfl) ?_
 ·(refine⟨(ExtOk.of rfl),rfl,(by repeat(first|exact trivial|refine⟨rfl,?_⟩)),(by repeat(first|exact trivial|refine⟨am rfl,?_⟩))⟩)
 rintro⟨i,d1⟩ ⟨hi,hai,hd1,ho⟩ ih
 simp only at hi hai hd1 ho ih ⊢
 (repeat(first|refine aj ?_|refine ac ?_|refine ai rfl rfl rfl ?_))
 refine cF rfl rfl rfl rfl ?_ ?_
 all_goals intro h1
 ·(repeat(first|refine aj ?_|refine ac ?_|refine ab ?_|refine aD ?_|refine aE ?_|refine ar rfl ?_|refine ai rfl rfl rfl ?_|refine ah rfl rfl rfl ?_))
  have ho2:Sort.insOuter bh a b (i+1) (Sort.insInner bh a i d1)=Sort.insertionSort bh d a b:=by
   rw [← ho]
   conv=>rhs;rw [Sort.insOuter,if_pos (by omega)]
  refine ct 1 (fun s:Nat×Array Int=> [(0,.slu 0 0 n),(1,.sc (.int .i64 (a:Int))),(2,.sc (.int .i64 (b:Int))),(6,.sc (.int .i64 (i:Int))),(7,.sc (.int .i64 (s.1:Int)))]) (fun s=> [some (bH n s.2)]) (fun s=>s.1≤i∧s.2.size=n∧Sort.insInner bh a s.1 s.2=Sort.insInner bh a i d1) (fun s=>s.1) (i,d1) []
   (fun _=>rfl) ⟨by omega,hd1,rfl⟩ ?_ (fun _=>rfl) (fun _=>rfl) ?_
  ·(refine⟨(ExtOk.of rfl),rfl,(by repeat(first|exact trivial|refine⟨rfl,?_⟩)),(by repeat(first|exact trivial|refine⟨am rfl,?_⟩))⟩)
  rintro⟨j,d2⟩ ⟨hj,hd2,hin⟩ ihj
  simp only at hj hd2 hin ihj ⊢
  (repeat(refine aj ?_))
  refine aT (by kernel_rfl) (by kernel_rfl) ?_
  (repeat(refine ax rfl rfl rfl ?_))
  refine ja rfl rfl rfl rfl ?_ ?_
  all_goals intro h2
  ·obtain⟨j,rfl⟩: ∃ j',j=j'+1:=⟨j-1,by omega⟩
   have hls:=ey d2[j+1]! d2[j]!
   cases h3:bh d2[j+1]! d2[j]!
   all_goals rw [h3] at hls
   all_goals(repeat(first|refine ax rfl rfl rfl ?_|refine bK rfl rfl rfl rfl ?_|refine cD rfl rfl rfl rfl (by omega) (by omega) ?_|refine au (q:=j+1) rfl rfl rfl rfl (F.un _ rfl) (F.sz _ rfl) rfl (by omega) (by omega) (by omega) ?_|refine au (q:=j) rfl rfl rfl rfl (F.un _ rfl) (F.sz _ rfl) rfl (by omega) (by omega) (by omega) ?_|(refine ba (g:=fun x:Int=> .int .i64 x) rfl rfl rfl (F.ag _ rfl) rfl (by omega) (by omega) ?_)|refine aY rfl rfl rfl (by kernel_rfl) (Ctr.callV (hls) [] rfl (ExtOk.of rfl) rfl trivial rfl) ?_))
   ·(refine aF ?_);(refine⟨by kernel_rfl,?_,?_⟩);(focus(repeat(first|exact trivial|refine⟨.inl rfl,?_⟩|refine⟨.inr (by(repeat(refine⟨(by first|exact aG (F.un _ rfl) (F.sz _ rfl) rfl rfl rfl (by omega) (by omega) (by omega)|exact aL rfl rfl (.inr (.inl ⟨rfl,(zf _ ⟨by omega,by omega⟩).symm⟩))|exact aB rfl|exact aX rfl rfl),?_⟩));exact trivial),?_⟩|refine⟨.inl (by kernel_rfl),?_⟩)))
    (repeat(first|refine ac ?_|refine ab ?_|refine ay ?_|refine aU rfl ?_|refine an rfl ?_|refine ai rfl rfl rfl ?_|refine ah rfl rfl rfl ?_|refine bj rfl rfl rfl rfl (by omega) (by omega) ?_))
    have hin2:Sort.insInner bh a i d1=d2:=by
     rw [← hin,Sort.insInner,if_neg (by rw [h3];simp)]
    refine ih _ _ _ (i+1,d2) [] ⟨by omega,by omega,hd2,by rw [← hin2];exact ho2⟩ (by simp only;omega) ?_
    (refine⟨(ExtOk.of rfl),rfl,(by repeat(first|exact trivial|refine⟨rfl,?_⟩)),(by repeat(first|exact trivial|refine⟨am rfl,?_⟩))⟩)
   ·(refine aF ?_);(refine⟨by kernel_rfl,?_,?_⟩);(focus(repeat(first|exact trivial|refine⟨.inl rfl,?_⟩|refine⟨.inr (by(repeat(refine⟨(by first|exact aG (F.un _ rfl) (F.sz _ rfl) rfl rfl rfl (by omega) (by omega) (by omega)|exact aL rfl rfl (.inr (.inl ⟨rfl,(zf _ ⟨by omega,by omega⟩).symm⟩))|exact aB rfl|exact aX rfl rfl),?_⟩));exact trivial),?_⟩|refine⟨.inl (by kernel_rfl),?_⟩)))
    (repeat(first|refine aj ?_|refine aD ?_|refine aE ?_|refine ar rfl ?_))
    refine aT (by kernel_rfl) (by kernel_rfl) ?_
    (repeat(first|refine ax rfl rfl rfl ?_|refine cD rfl rfl rfl rfl (by omega) (by omega) ?_|refine au (q:=j+1) rfl rfl rfl rfl (F.un _ rfl) (F.sz _ rfl) rfl (by omega) (by omega) (by omega) ?_|refine au (q:=j) rfl rfl rfl rfl (F.un _ rfl) (F.sz _ rfl) rfl (by omega) (by omega) (by omega) ?_|(refine ba (g:=fun x:Int=> .int .i64 x) rfl rfl rfl (F.ag _ rfl) rfl (by omega) (by omega) ?_)|(refine bU (g:=fun x:Int=> .int .i64 x) rfl rfl rfl (fun _=>rfl) (F.sz _ rfl) rfl (by first|omega|(simp only [zg,aw];omega)) (by first|omega|(simp only [zg,aw];omega)) ?_)))
    (refine aF ?_);(refine⟨by kernel_rfl,?_,?_⟩);(focus(repeat(first|exact trivial|refine⟨.inl rfl,?_⟩|refine⟨.inr (by(repeat(refine⟨(by first|exact aG (F.un _ rfl) (F.sz _ rfl) rfl rfl rfl (by omega) (by omega) (by omega)|exact aL rfl rfl (.inr (.inl ⟨rfl,(zf _ ⟨by omega,by omega⟩).symm⟩))|exact aB rfl),?_⟩));exact trivial),?_⟩|refine⟨.inl (by kernel_rfl),?_⟩)))
    (repeat(first|refine ac ?_|refine ab ?_|refine ay ?_|refine ai rfl rfl rfl ?_|refine ah rfl rfl rfl ?_|refine bN rfl rfl rfl rfl (by omega) (by omega) ?_))
    refine ihj _ _ _ (j,Sort.swp d2 (j+1) j) [] ⟨by omega,by rw [aw];exact hd2,?_⟩ (by simp only;omega) ?_
    ·rw [← hin]
     conv=>rhs;rw [Sort.insInner,if_pos (by simp only [h3,zy,decide_eq_true_eq,and_true];omega)]
    ·(refine⟨(ExtOk.of rfl),rfl,(by repeat(first|exact trivial|refine⟨rfl,?_⟩|refine⟨cp (by(omega)),?_⟩)),(by repeat(first|exact trivial|refine⟨am rfl,?_⟩))⟩)
  ·(repeat(first|refine ax rfl rfl rfl ?_|refine bL rfl rfl rfl rfl ?_|refine cd rfl rfl ?_))
   (refine aF ?_);(refine⟨by kernel_rfl,?_,?_⟩);(focus(repeat(first|exact trivial|refine⟨.inl rfl,?_⟩)))
   (repeat(first|refine ac ?_|refine ab ?_|refine ay ?_|refine aU rfl ?_|refine an rfl ?_|refine ai rfl rfl rfl ?_|refine ah rfl rfl rfl ?_|refine bj rfl rfl rfl rfl (by omega) (by omega) ?_))
   have hin2:Sort.insInner bh a i d1=d2:=by
    rw [← hin]
    cases j with
    | zero=>rfl
    | succ j=>rw [Sort.insInner,if_neg (by simp only [zy,decide_eq_true_eq];omega)]
   refine ih _ _ _ (i+1,d2) [] ⟨by omega,by omega,hd2,by rw [← hin2];exact ho2⟩ (by simp only;omega) ?_
   (refine⟨(ExtOk.of rfl),rfl,(by repeat(first|exact trivial|refine⟨rfl,?_⟩)),(by repeat(first|exact trivial|refine⟨am rfl,?_⟩))⟩)
 ·(repeat(first|refine ab ?_|refine aU rfl ?_|refine an rfl ?_))
  have ho2:d1=Sort.insertionSort bh d a b:=by rw [← ho,Sort.insOuter,if_neg (by omega)]
  (apply dU Try.func74 (congrArg Array.toList Try.results74);(focus(repeat(exact ResIs.nil)));refine⟨_,rfl,Ends.mk [] (ExtOk.of rfl) rfl rfl ?_⟩)
  rw [← ho2]
  exact(by repeat(first|exact trivial|refine⟨am rfl,?_⟩))
end Go.Proofs.Ytbmekelkddllkaa
end
section
namespace Go.Proofs.Ytbmekelkddllkaa
open Go Go.Sy Go.RowKit
theorem gF(lt:Int→Int→Bool)(hi first root:Nat)(d:Array (Int)):(Sort.siftDown lt hi first root d).size=d.size:=by
 induction h:hi-root using Nat.strongRecOn generalizing root d with
 | _ m ih=>
   subst h
   unfold Sort.siftDown
   split
   ·rfl
   ·split
    ·split
     ·rfl
     ·split
      ·rw [ih _ (by omega) _ _ rfl,aw]
      ·rfl
    ·split
     ·rfl
     ·rw [ih _ (by omega) _ _ rfl,aw]
theorem oo{lt:Int→Int→Bool}{hi first root:Nat}{d:Array (Int)}(h:hi≤2*root+1):Sort.siftDown lt hi first root d=d:=by
 unfold Sort.siftDown
 rw [dif_pos h]
theorem tD{lt:Int→Int→Bool}{hi first root:Nat}{d:Array (Int)}(h:2*root+2<hi)(hl:lt d[first+(2*root+1)]! d[first+(2*root+2)]! =true) :
 Sort.siftDown lt hi first root d=if lt d[first+root]! d[first+(2*root+2)]! =true then Sort.siftDown lt hi first (2*root+2) (Sort.swp d (first+root) (first+(2*root+2))) else d:=by
 conv=>lhs;unfold Sort.siftDown
 rw [dif_neg (by omega),if_pos (by simp only [zy,decide_eq_true_eq];exact⟨by omega,hl⟩)]
 cases lt d[first+root]! d[first+(2*root+2)]!
 ·simp
 ·simp only [Bool.not_true,Bool.false_eq_true,if_false,if_true]
  rw [dif_pos (by omega)]
theorem oq{lt:Int→Int→Bool}{hi first root:Nat}{d:Array (Int)}(h:2*root+1<hi)(hl:hi≤2*root+2∨lt d[first+(2*root+1)]! d[first+(2*root+2)]! =false) :
 Sort.siftDown lt hi first root d=if lt d[first+root]! d[first+(2*root+1)]! =true then Sort.siftDown lt hi first (2*root+1) (Sort.swp d (first+root) (first+(2*root+1))) else d:=by
 conv=>lhs;unfold Sort.siftDown
 rw [dif_neg (by omega),if_neg (by
  simp only [zy,decide_eq_true_eq]
  rintro⟨h1,h2⟩
  rcases hl with hl|hl
  ·omega
  ·rw [show first+(2*root+2)=first+(2*root+1)+1 by omega,h2] at hl;cases hl)]
 cases lt d[first+root]! d[first+(2*root+1)]! <;> simp
theorem kj(n lo hi first:Nat)(d:Array (Int))(hn:n<4611686018427387904)(hd:d.size=n)(hf:first+hi≤n)(hlo:lo≤n) :
 Ctr Try.prog 89 [.slu 0 0 n,.sc (.int .i64 (lo:Int)),.sc (.int .i64 (hi:Int)),.sc (.int .i64 (first:Int))] [bH n d] (fun c=>c=⟨.tup [],[some (bH n (Sort.siftDown bh hi first lo d))]⟩):=by
 refine Fnc.start Try.func89 rfl rfl ?_
 (repeat(first|refine aj ?_|refine ac ?_|refine ab ?_|refine aD ?_|refine ai rfl rfl rfl ?_|refine ah rfl rfl rfl ?_))
 refine ct 1 (fun s:Nat×Array (Int)=> [(0,.slu 0 0 n),(2,.sc (.int .i64 (hi:Int))),(3,.sc (.int .i64 (first:Int))),(8,.sc (.int .i64 (s.1:Int)))]) (fun s=> [some (bH n s.2)]) (fun s=>s.1≤n∧s.2.size=n∧Sort.siftDown bh hi first s.1 s.2=Sort.siftDown bh hi first lo d) (fun s=>n-s.1) (lo,d) []
  (fun _=>rfl) ⟨hlo,hd,rfl⟩ ?_ (fun _=>rfl) (fun _=>rfl) ?_
 ·(refine⟨(ExtOk.of rfl),rfl,(by repeat(first|exact trivial|refine⟨rfl,?_⟩)),(by repeat(first|exact trivial|refine⟨am rfl,?_⟩))⟩)
 rintro⟨r,d1⟩ ⟨hr,hd1,ho⟩ ih
 simp only at hr hd1 ho ih ⊢
 (repeat(first|refine aj ?_|refine ac ?_|refine ab ?_|refine aD ?_|refine ai rfl rfl rfl ?_|refine ah rfl rfl rfl ?_|refine bj rfl rfl rfl rfl (by omega) (by omega) ?_|refine ny rfl rfl rfl rfl (by omega) (by omega) ?_))
 refine cw rfl rfl rfl rfl ?_ ?_
 all_goals intro h1
 ·(repeat(first|refine ab ?_|refine aU rfl ?_|refine ar rfl ?_))
  ((apply dU Try.func89 (congrArg Array.toList Try.results89));(focus(repeat(exact ResIs.nil)));refine⟨_,rfl,Ends.mk [] (ExtOk.of rfl) rfl rfl ?_⟩)
  rw [← ho,oo (by omega)]
  exact(by repeat(first|exact trivial|refine⟨am rfl,?_⟩))
 ·(repeat(first|refine aj ?_|refine ab ?_|refine aE ?_|refine an rfl ?_))
  refine aT (by kernel_rfl) (by kernel_rfl) ?_
  (repeat(first|refine ax rfl rfl rfl ?_|refine cG rfl rfl rfl rfl (by omega) (by omega) ?_))
  refine jZ rfl rfl rfl rfl ?_ ?_
  all_goals intro h2
  ·have hls_h3:=ey (d1[first+(2*r+1)]!) (d1[first+(2*r+2)]!)
   cases h3:bh (d1[first+(2*r+1)]!) (d1[first+(2*r+2)]!)
   all_goals rw [h3] at hls_h3
   rotate_left
   all_goals(repeat(first|refine ax rfl rfl rfl ?_|refine bK rfl rfl rfl rfl ?_|refine cG rfl rfl rfl rfl (by omega) (by omega) ?_|(refine ba (g:=fun x:Int=> .int .i64 x) rfl rfl rfl (F.ag _ rfl) rfl (by(omega)) (by(omega)) ?_)|refine au (q:=first+(2*r+1)) rfl rfl rfl rfl (F.un _ rfl) (F.sz _ rfl) rfl (by omega) (by omega) (by omega) ?_|refine au (q:=first+(2*r+2)) rfl rfl rfl rfl (F.un _ rfl) (F.sz _ rfl) rfl (by omega) (by omega) (by omega) ?_|refine aY rfl rfl rfl (by kernel_rfl) (Ctr.callV (hls_h3) [] rfl (ExtOk.of rfl) rfl trivial rfl) ?_))
   ·have e:=tD (lt:=bh) (hi:=hi) (first:=first) (root:=r) (d:=d1) (by omega) (by simpa [bh] using h3)
    (refine aF ?_);(refine⟨by kernel_rfl,?_,?_⟩);(focus(repeat(first|exact trivial|refine⟨.inl rfl,?_⟩|refine⟨.inr (by(repeat(refine⟨(by first|exact aG (F.un _ rfl) (F.sz _ rfl) rfl rfl rfl (by omega) (by omega) (by omega)|exact aL rfl rfl (.inl ⟨rfl,(zf _ ⟨by omega,by omega⟩).symm⟩)|exact aB rfl|exact aX rfl rfl),?_⟩));exact trivial),?_⟩|refine⟨.inl (by kernel_rfl),?_⟩)))
    (repeat(first|refine aj ?_|refine ac ?_|refine ab ?_|refine ar rfl ?_|refine ai rfl rfl rfl ?_|refine ah rfl rfl rfl ?_|refine bj rfl rfl rfl rfl (by omega) (by omega) ?_))
    refine aT (by kernel_rfl) (by kernel_rfl) ?_
    have hls_h4:=ey (d1[first+r]!) (d1[first+(2*r+2)]!)
    cases h4:bh (d1[first+r]!) (d1[first+(2*r+2)]!)
    all_goals rw [h4] at hls_h4
    rotate_left
    all_goals(repeat(first|refine ax rfl rfl rfl ?_|refine cG rfl rfl rfl rfl (by omega) (by omega) ?_|refine cl rfl rfl rfl ?_|(refine ba (g:=fun x:Int=> .int .i64 x) rfl rfl rfl (F.ag _ rfl) rfl (by(omega)) (by(omega)) ?_)|refine au (q:=first+r) rfl rfl rfl rfl (F.un _ rfl) (F.sz _ rfl) rfl (by omega) (by omega) (by omega) ?_|refine au (q:=first+(2*r+2)) rfl rfl rfl rfl (F.un _ rfl) (F.sz _ rfl) rfl (by omega) (by omega) (by omega) ?_|refine aY rfl rfl rfl (by kernel_rfl) (Ctr.callV (hls_h4) [] rfl (ExtOk.of rfl) rfl trivial rfl) ?_))
    ·rw [if_pos (by simpa [bh] using h4)] at e
     (refine aF ?_);(refine⟨by kernel_rfl,?_,?_⟩);(focus(repeat(first|exact trivial|refine⟨.inl rfl,?_⟩|refine⟨.inr (by(repeat(refine⟨(by first|exact bD rfl|exact aG (F.un _ rfl) (F.sz _ rfl) rfl rfl rfl (by omega) (by omega) (by omega)|exact aL rfl rfl (.inl ⟨rfl,(zf _ ⟨by omega,by omega⟩).symm⟩)|exact aB rfl),?_⟩));exact trivial),?_⟩|refine⟨.inl (by kernel_rfl),?_⟩)))
     (repeat(first|refine aj ?_|refine aE ?_|refine an rfl ?_))
     refine aT (by kernel_rfl) (by kernel_rfl) ?_
     (repeat(first|refine ax rfl rfl rfl ?_|refine cG rfl rfl rfl rfl (by omega) (by omega) ?_|(refine ba (g:=fun x:Int=> .int .i64 x) rfl rfl rfl (F.ag _ rfl) rfl (by(omega)) (by(omega)) ?_)|(refine bU (g:=fun x:Int=> .int .i64 x) rfl rfl rfl (fun _=>rfl) (F.sz _ rfl) rfl (by first|omega|(simp only [zg,aw];omega)) (by first|omega|(simp only [zg,aw];omega)) ?_)|refine au (q:=first+r) rfl rfl rfl rfl (F.un _ rfl) (F.sz _ rfl) rfl (by omega) (by omega) (by omega) ?_|refine au (q:=first+(2*r+2)) rfl rfl rfl rfl (F.un _ rfl) (F.sz _ rfl) rfl (by omega) (by omega) (by omega) ?_))
     (refine aF ?_);(refine⟨by kernel_rfl,?_,?_⟩);(focus(repeat(first|exact trivial|refine⟨.inl rfl,?_⟩|refine⟨.inr (by(repeat(refine⟨(by first|exact aG (F.un _ rfl) (F.sz _ rfl) rfl rfl rfl (by omega) (by omega) (by omega)|exact aL rfl rfl (.inl ⟨rfl,(zf _ ⟨by omega,by omega⟩).symm⟩)|exact aB rfl),?_⟩));exact trivial),?_⟩|refine⟨.inl (by kernel_rfl),?_⟩)))
     (repeat(first|refine ac ?_|refine ab ?_|refine ay ?_|refine ai rfl rfl rfl ?_|refine ah rfl rfl rfl ?_))
     refine ih _ _ _ (2*r+2,Sort.swp d1 (first+r) (first+(2*r+2))) [] ⟨by simp only;omega,by rw [aw];exact hd1,by rw [← ho,e]⟩ (by simp only;omega) ?_
     (refine⟨(ExtOk.of rfl),rfl,(by repeat(first|exact trivial|refine⟨rfl,?_⟩)),(by repeat(first|exact trivial|refine⟨am rfl,?_⟩))⟩)
    ·rw [if_neg (by simpa [bh] using h4)] at e
     (refine aF ?_);(refine⟨by kernel_rfl,?_,?_⟩);(focus(repeat(first|exact trivial|refine⟨.inl rfl,?_⟩|refine⟨.inr (by(repeat(refine⟨(by first|exact bD rfl|exact aG (F.un _ rfl) (F.sz _ rfl) rfl rfl rfl (by omega) (by omega) (by omega)|exact aL rfl rfl (.inl ⟨rfl,(zf _ ⟨by omega,by omega⟩).symm⟩)|exact aB rfl),?_⟩));exact trivial),?_⟩|refine⟨.inl (by kernel_rfl),?_⟩)))
     (repeat(refine ar rfl ?_))
     ((apply aS Try.func89 (congrArg Array.toList Try.results89));(focus(repeat(exact ResIs.nil)));refine⟨_,rfl,Ends.mk [] (ExtOk.of rfl) rfl rfl ?_⟩)
     rw [← ho,e]
     exact(by repeat(first|exact trivial|refine⟨am rfl,?_⟩))
   ·have e:=oq (lt:=bh) (hi:=hi) (first:=first) (root:=r) (d:=d1) (by omega) (.inr (by simpa [bh] using h3))
    (refine aF ?_);(refine⟨by kernel_rfl,?_,?_⟩);(focus(repeat(first|exact trivial|refine⟨.inl rfl,?_⟩|refine⟨.inr (by(repeat(refine⟨(by first|exact aG (F.un _ rfl) (F.sz _ rfl) rfl rfl rfl (by omega) (by omega) (by omega)|exact aL rfl rfl (.inl ⟨rfl,(zf _ ⟨by omega,by omega⟩).symm⟩)|exact aB rfl|exact aX rfl rfl),?_⟩));exact trivial),?_⟩|refine⟨.inl (by kernel_rfl),?_⟩)))
    (repeat(first|refine aj ?_|refine aE ?_|refine an rfl ?_))
    refine aT (by kernel_rfl) (by kernel_rfl) ?_
    have hls_h4:=ey (d1[first+r]!) (d1[first+(2*r+1)]!)
    cases h4:bh (d1[first+r]!) (d1[first+(2*r+1)]!)
    all_goals rw [h4] at hls_h4
    rotate_left
    all_goals(repeat(first|refine ax rfl rfl rfl ?_|refine cG rfl rfl rfl rfl (by omega) (by omega) ?_|refine cl rfl rfl rfl ?_|(refine ba (g:=fun x:Int=> .int .i64 x) rfl rfl rfl (F.ag _ rfl) rfl (by(omega)) (by(omega)) ?_)|refine au (q:=first+r) rfl rfl rfl rfl (F.un _ rfl) (F.sz _ rfl) rfl (by omega) (by omega) (by omega) ?_|refine au (q:=first+(2*r+1)) rfl rfl rfl rfl (F.un _ rfl) (F.sz _ rfl) rfl (by omega) (by omega) (by omega) ?_|refine aY rfl rfl rfl (by kernel_rfl) (Ctr.callV (hls_h4) [] rfl (ExtOk.of rfl) rfl trivial rfl) ?_))
    ·rw [if_pos (by simpa [bh] using h4)] at e
     (refine aF ?_);(refine⟨by kernel_rfl,?_,?_⟩);(focus(repeat(first|exact trivial|refine⟨.inl rfl,?_⟩|refine⟨.inr (by(repeat(refine⟨(by first|exact bD rfl|exact aG (F.un _ rfl) (F.sz _ rfl) rfl rfl rfl (by omega) (by omega) (by omega)|exact aL rfl rfl (.inl ⟨rfl,(zf _ ⟨by omega,by omega⟩).symm⟩)|exact aB rfl),?_⟩));exact trivial),?_⟩|refine⟨.inl (by kernel_rfl),?_⟩)))
     (repeat(first|refine aj ?_|refine aE ?_|refine an rfl ?_))
     refine aT (by kernel_rfl) (by kernel_rfl) ?_
     (repeat(first|refine ax rfl rfl rfl ?_|refine cG rfl rfl rfl rfl (by omega) (by omega) ?_|(refine ba (g:=fun x:Int=> .int .i64 x) rfl rfl rfl (F.ag _ rfl) rfl (by(omega)) (by(omega)) ?_)|(refine bU (g:=fun x:Int=> .int .i64 x) rfl rfl rfl (fun _=>rfl) (F.sz _ rfl) rfl (by first|omega|(simp only [zg,aw];omega)) (by first|omega|(simp only [zg,aw];omega)) ?_)|refine au (q:=first+r) rfl rfl rfl rfl (F.un _ rfl) (F.sz _ rfl) rfl (by omega) (by omega) (by omega) ?_|refine au (q:=first+(2*r+1)) rfl rfl rfl rfl (F.un _ rfl) (F.sz _ rfl) rfl (by omega) (by omega) (by omega) ?_))
     (refine aF ?_);(refine⟨by kernel_rfl,?_,?_⟩);(focus(repeat(first|exact trivial|refine⟨.inl rfl,?_⟩|refine⟨.inr (by(repeat(refine⟨(by first|exact aG (F.un _ rfl) (F.sz _ rfl) rfl rfl rfl (by omega) (by omega) (by omega)|exact aL rfl rfl (.inl ⟨rfl,(zf _ ⟨by omega,by omega⟩).symm⟩)|exact aB rfl),?_⟩));exact trivial),?_⟩|refine⟨.inl (by kernel_rfl),?_⟩)))
     (repeat(first|refine ac ?_|refine ab ?_|refine ay ?_|refine ai rfl rfl rfl ?_|refine ah rfl rfl rfl ?_))
     refine ih _ _ _ (2*r+1,Sort.swp d1 (first+r) (first+(2*r+1))) [] ⟨by simp only;omega,by rw [aw];exact hd1,by rw [← ho,e]⟩ (by simp only;omega) ?_
     (refine⟨(ExtOk.of rfl),rfl,(by repeat(first|exact trivial|refine⟨rfl,?_⟩)),(by repeat(first|exact trivial|refine⟨am rfl,?_⟩))⟩)
    ·rw [if_neg (by simpa [bh] using h4)] at e
     (refine aF ?_);(refine⟨by kernel_rfl,?_,?_⟩);(focus(repeat(first|exact trivial|refine⟨.inl rfl,?_⟩|refine⟨.inr (by(repeat(refine⟨(by first|exact bD rfl|exact aG (F.un _ rfl) (F.sz _ rfl) rfl rfl rfl (by omega) (by omega) (by omega)|exact aL rfl rfl (.inl ⟨rfl,(zf _ ⟨by omega,by omega⟩).symm⟩)|exact aB rfl),?_⟩));exact trivial),?_⟩|refine⟨.inl (by kernel_rfl),?_⟩)))
     (repeat(refine ar rfl ?_))
     ((apply aS Try.func89 (congrArg Array.toList Try.results89));(focus(repeat(exact ResIs.nil)));refine⟨_,rfl,Ends.mk [] (ExtOk.of rfl) rfl rfl ?_⟩)
     rw [← ho,e]
     exact(by repeat(first|exact trivial|refine⟨am rfl,?_⟩))
  ·have e:=oq (lt:=bh) (hi:=hi) (first:=first) (root:=r) (d:=d1) (by omega) (.inl (by omega))
   (repeat(first|refine ax rfl rfl rfl ?_|refine bL rfl rfl rfl rfl ?_|refine cd rfl rfl ?_))
   (refine aF ?_);(refine⟨by kernel_rfl,?_,?_⟩);(focus(repeat(first|exact trivial|refine⟨.inl rfl,?_⟩)))
   (repeat(first|refine aj ?_|refine aE ?_|refine an rfl ?_))
   refine aT (by kernel_rfl) (by kernel_rfl) ?_
   have hls_h4:=ey (d1[first+r]!) (d1[first+(2*r+1)]!)
   cases h4:bh (d1[first+r]!) (d1[first+(2*r+1)]!)
   all_goals rw [h4] at hls_h4
   rotate_left
   all_goals(repeat(first|refine ax rfl rfl rfl ?_|refine cG rfl rfl rfl rfl (by omega) (by omega) ?_|refine cl rfl rfl rfl ?_|(refine ba (g:=fun x:Int=> .int .i64 x) rfl rfl rfl (F.ag _ rfl) rfl (by(omega)) (by(omega)) ?_)|refine au (q:=first+r) rfl rfl rfl rfl (F.un _ rfl) (F.sz _ rfl) rfl (by omega) (by omega) (by omega) ?_|refine au (q:=first+(2*r+1)) rfl rfl rfl rfl (F.un _ rfl) (F.sz _ rfl) rfl (by omega) (by omega) (by omega) ?_|refine aY rfl rfl rfl (by kernel_rfl) (Ctr.callV (hls_h4) [] rfl (ExtOk.of rfl) rfl trivial rfl) ?_))
   ·rw [if_pos (by simpa [bh] using h4)] at e
    (refine aF ?_);(refine⟨by kernel_rfl,?_,?_⟩);(focus(repeat(first|exact trivial|refine⟨.inl rfl,?_⟩|refine⟨.inr (by(repeat(refine⟨(by first|exact bD rfl|exact aG (F.un _ rfl) (F.sz _ rfl) rfl rfl rfl (by omega) (by omega) (by omega)|exact aL rfl rfl (.inl ⟨rfl,(zf _ ⟨by omega,by omega⟩).symm⟩)|exact aB rfl),?_⟩));exact trivial),?_⟩|refine⟨.inl (by kernel_rfl),?_⟩)))
    (repeat(first|refine aj ?_|refine aE ?_|refine an rfl ?_))
    refine aT (by kernel_rfl) (by kernel_rfl) ?_
    (repeat(first|refine ax rfl rfl rfl ?_|refine cG rfl rfl rfl rfl (by omega) (by omega) ?_|(refine ba (g:=fun x:Int=> .int .i64 x) rfl rfl rfl (F.ag _ rfl) rfl (by(omega)) (by(omega)) ?_)|(refine bU (g:=fun x:Int=> .int .i64 x) rfl rfl rfl (fun _=>rfl) (F.sz _ rfl) rfl (by first|omega|(simp only [zg,aw];omega)) (by first|omega|(simp only [zg,aw];omega)) ?_)|refine au (q:=first+r) rfl rfl rfl rfl (F.un _ rfl) (F.sz _ rfl) rfl (by omega) (by omega) (by omega) ?_|refine au (q:=first+(2*r+1)) rfl rfl rfl rfl (F.un _ rfl) (F.sz _ rfl) rfl (by omega) (by omega) (by omega) ?_))
    (refine aF ?_);(refine⟨by kernel_rfl,?_,?_⟩);(focus(repeat(first|exact trivial|refine⟨.inl rfl,?_⟩|refine⟨.inr (by(repeat(refine⟨(by first|exact aG (F.un _ rfl) (F.sz _ rfl) rfl rfl rfl (by omega) (by omega) (by omega)|exact aL rfl rfl (.inl ⟨rfl,(zf _ ⟨by omega,by omega⟩).symm⟩)|exact aB rfl),?_⟩));exact trivial),?_⟩|refine⟨.inl (by kernel_rfl),?_⟩)))
    (repeat(first|refine ac ?_|refine ab ?_|refine ay ?_|refine ai rfl rfl rfl ?_|refine ah rfl rfl rfl ?_))
    refine ih _ _ _ (2*r+1,Sort.swp d1 (first+r) (first+(2*r+1))) [] ⟨by simp only;omega,by rw [aw];exact hd1,by rw [← ho,e]⟩ (by simp only;omega) ?_
    (refine⟨(ExtOk.of rfl),rfl,(by repeat(first|exact trivial|refine⟨rfl,?_⟩)),(by repeat(first|exact trivial|refine⟨am rfl,?_⟩))⟩)
   ·rw [if_neg (by simpa [bh] using h4)] at e
    (refine aF ?_);(refine⟨by kernel_rfl,?_,?_⟩);(focus(repeat(first|exact trivial|refine⟨.inl rfl,?_⟩|refine⟨.inr (by(repeat(refine⟨(by first|exact bD rfl|exact aG (F.un _ rfl) (F.sz _ rfl) rfl rfl rfl (by omega) (by omega) (by omega)|exact aL rfl rfl (.inl ⟨rfl,(zf _ ⟨by omega,by omega⟩).symm⟩)|exact aB rfl),?_⟩));exact trivial),?_⟩|refine⟨.inl (by kernel_rfl),?_⟩)))
    (repeat(refine ar rfl ?_))
    ((apply aS Try.func89 (congrArg Array.toList Try.results89));(focus(repeat(exact ResIs.nil)));refine⟨_,rfl,Ends.mk [] (ExtOk.of rfl) rfl rfl ?_⟩)
    rw [← ho,e]
    exact(by repeat(first|exact trivial|refine⟨am rfl,?_⟩))
theorem oy(n a b:Nat)(d:Array (Int))(hn:n<4611686018427387904)(hd:d.size=n)(hab:a≤b)(hb:b≤n) :
 Ctr Try.prog 75 [.slu 0 0 n,.sc (.int .i64 (a:Int)),.sc (.int .i64 (b:Int))] [bH n d] (fun c=>c=⟨.tup [],[some (bH n (Sort.heapSort bh d a b))]⟩):=by
 refine Fnc.start Try.func75 rfl rfl ?_
 (repeat(first|refine aj ?_|refine ac ?_|refine ab ?_|refine ai rfl rfl rfl ?_|refine ah rfl rfl rfl ?_|refine bN rfl rfl rfl rfl (by omega) (by omega) ?_))
 refine wq rfl rfl rfl rfl (by decide) (show _=(((b-a-1) / 2:Nat):Int)from qB (m:=b-a) (by omega) (by omega)) ?_
 (repeat(first|refine ab ?_|refine aD ?_|refine ah rfl rfl rfl ?_))
 refine ct 1 (fun s:Nat×Array (Int)=> [(0,.slu 0 0 n),(6,.sc (.int .i64 (a:Int))),(7,.sc (.int .i64 0)),(8,.sc (.int .i64 ((b-a:Nat):Int))),(9,.sc (.int .i64 ((s.1:Int)-1)))]) (fun s=> [some (bH n s.2)]) (fun s=>s.1≤(b-a-1) / 2+1∧s.2.size=n∧Sort.heapBuild bh (b-a) a s.1 s.2=Sort.heapBuild bh (b-a) a ((b-a-1) / 2+1) d) (fun s=>s.1) ((b-a-1) / 2+1,d) []
  (fun _=>rfl) ⟨zA _,hd,rfl⟩ ?_ (fun _=>rfl) (fun _=>rfl) ?_
 ·(refine⟨(ExtOk.of rfl),rfl,(by repeat(first|exact trivial|refine⟨rfl,?_⟩|refine⟨cp (by(omega)),?_⟩)),(by repeat(first|exact trivial|refine⟨am rfl,?_⟩))⟩)
 rintro⟨k,d1⟩ ⟨hk,hd1,ho⟩ ih
 simp only at hk hd1 ho ih ⊢
 (repeat(first|refine aj ?_|refine ac ?_|refine ai rfl rfl rfl ?_))
 refine cw rfl rfl rfl rfl ?_ ?_
 all_goals intro h1
 ·obtain⟨k,rfl⟩: ∃ k',k=k'+1:=⟨k-1,by omega⟩
  have ek:((k+1:Nat):Int)-1=(k:Int):=by omega
  rw [ek]
  (repeat(first|refine aj ?_|refine ac ?_|refine ab ?_|refine aD ?_|refine ay ?_|refine aE ?_|refine ar rfl ?_|refine ai rfl rfl rfl ?_|refine ah rfl rfl rfl ?_|refine bN rfl rfl rfl rfl (by omega) (by omega) ?_|refine aV rfl rfl rfl (by kernel_rfl) (Ctr.bA (kj n k (b-a) a d1 hn hd1 (by omega) (by omega)) [0] rfl (ExtOk.of rfl) rfl (by repeat(first|exact trivial|refine⟨am rfl,?_⟩)) rfl (by repeat(first|exact trivial|refine⟨aP,?_⟩)) (fun _=>rfl) rfl rfl) ?_))
  refine ih _ _ _ (k,Sort.siftDown bh (b-a) a k d1) [] ⟨by simp only;omega,by rw [gF];exact hd1,by rw [← ho];rfl⟩ (by simp only;omega) ?_
  (refine⟨(ExtOk.of rfl),rfl,(by repeat(first|exact trivial|refine⟨rfl,?_⟩)),(by repeat(first|exact trivial|refine⟨am rfl,?_⟩))⟩)
 ·obtain rfl:k=0:=by omega
  have ho1:d1=Sort.heapBuild bh (b-a) a ((b-a-1) / 2+1) d:=ho
  (repeat(first|refine aj ?_|refine ac ?_|refine ab ?_|refine aD ?_|refine aU rfl ?_|refine an rfl ?_|refine ai rfl rfl rfl ?_|refine ah rfl rfl rfl ?_|refine bN rfl rfl rfl rfl (by omega) (by omega) ?_))
  refine ct 1 (fun s:Nat×Array (Int)=> [(0,.slu 0 0 n),(6,.sc (.int .i64 (a:Int))),(7,.sc (.int .i64 0)),(10,.sc (.int .i64 ((s.1:Int)-1)))]) (fun s=> [some (bH n s.2)]) (fun s=>s.1≤b-a∧s.2.size=n∧Sort.heapPop bh a s.1 s.2=Sort.heapSort bh d a b) (fun s=>s.1) (b-a,d1) []
   (fun _=>rfl) ⟨zA _,hd1,by rw [ho1];rfl⟩ ?_ (fun _=>rfl) (fun _=>rfl) ?_
  ·(refine⟨(ExtOk.of rfl),rfl,(by repeat(first|exact trivial|refine⟨rfl,?_⟩)),(by repeat(first|exact trivial|refine⟨am rfl,?_⟩))⟩)
  rintro⟨m,d2⟩ ⟨hm,hd2,hp⟩ ihm
  simp only at hm hd2 hp ihm ⊢
  (repeat(first|refine aj ?_|refine ac ?_|refine ai rfl rfl rfl ?_))
  refine cw rfl rfl rfl rfl ?_ ?_
  all_goals intro h2
  ·obtain⟨m,rfl⟩: ∃ m',m=m'+1:=⟨m-1,by omega⟩
   have em:((m+1:Nat):Int)-1=(m:Int):=by omega
   rw [em]
   (repeat(first|refine aj ?_|refine ab ?_|refine aD ?_|refine aE ?_|refine ar rfl ?_))
   refine aT (by kernel_rfl) (by kernel_rfl) ?_
   (repeat(first|refine ax rfl rfl rfl ?_|refine cG rfl rfl rfl rfl (by omega) (by omega) ?_|(refine ba (g:=fun x:Int=> .int .i64 x) rfl rfl rfl (F.ag _ rfl) rfl (by(omega)) (by(omega)) ?_)|(refine bU (g:=fun x:Int=> .int .i64 x) rfl rfl rfl (fun _=>rfl) (F.sz _ rfl) rfl (by first|omega|(simp only [zg,aw];omega)) (by first|omega|(simp only [zg,aw];omega)) ?_)|refine au (q:=a) rfl rfl rfl rfl (F.un _ rfl) (F.sz _ rfl) rfl (by omega) (by omega) (by omega) ?_|refine au (q:=a+m) rfl rfl rfl rfl (F.un _ rfl) (F.sz _ rfl) rfl (by omega) (by omega) (by omega) ?_))
   (refine aF ?_);(refine⟨by kernel_rfl,?_,?_⟩);(focus(repeat(first|exact trivial|refine⟨.inl rfl,?_⟩|refine⟨.inr (by(repeat(refine⟨(by first|exact aG (F.un _ rfl) (F.sz _ rfl) rfl rfl rfl (by omega) (by omega) (by omega)|exact aL rfl rfl (.inl ⟨rfl,(zf _ ⟨by omega,by omega⟩).symm⟩)|exact aB rfl),?_⟩));exact trivial),?_⟩|refine⟨.inl (by kernel_rfl),?_⟩)))
   (repeat(first|refine ac ?_|refine ab ?_|refine ay ?_|refine ai rfl rfl rfl ?_|refine ah rfl rfl rfl ?_|refine bN rfl rfl rfl rfl (by omega) (by omega) ?_|refine aV rfl rfl rfl (by kernel_rfl) (Ctr.bA (kj n 0 m a (Sort.swp d2 a (a+m)) hn (by rw [aw];exact hd2) (by omega) (by omega)) [0] rfl (ExtOk.of rfl) rfl (by repeat(first|exact trivial|refine⟨am rfl,?_⟩)) rfl (by repeat(first|exact trivial|refine⟨aP,?_⟩)) (fun _=>rfl) rfl rfl) ?_))
   refine ihm _ _ _ (m,Sort.siftDown bh m a 0 (Sort.swp d2 a (a+m))) [] ⟨by simp only;omega,by rw [gF,aw];exact hd2,by rw [← hp];rfl⟩ (by simp only;omega) ?_
   (refine⟨(ExtOk.of rfl),rfl,(by repeat(first|exact trivial|refine⟨rfl,?_⟩)),(by repeat(first|exact trivial|refine⟨am rfl,?_⟩))⟩)
  ·obtain rfl:m=0:=by omega
   (repeat(first|refine ab ?_|refine aU rfl ?_|refine an rfl ?_))
   ((apply dU Try.func75 (congrArg Array.toList Try.results75));(focus(repeat(exact ResIs.nil)));refine⟨_,rfl,Ends.mk [] (ExtOk.of rfl) rfl rfl ?_⟩)
   rw [← hp]
   exact(by repeat(first|exact trivial|refine⟨am rfl,?_⟩))
theorem pQ(n a b:Nat)(d:Array (Int))(hn:n<4611686018427387904)(hd:d.size=n)(hab:a<b)(hb:b≤n) :
 Ctr Try.prog 78 [.slu 0 0 n,.sc (.int .i64 (a:Int)),.sc (.int .i64 (b:Int))] [bH n d] (fun c=>c=⟨.tup [],[some (bH n (Sort.reverseRange d a b))]⟩):=by
 refine Fnc.start Try.func78 rfl rfl ?_
 (repeat(first|refine aj ?_|refine ac ?_|refine ab ?_|refine aD ?_|refine ai rfl rfl rfl ?_|refine ah rfl rfl rfl ?_|refine bN rfl rfl rfl rfl (by omega) (by omega) ?_))
 refine ct 1 (fun s:(Nat×Nat)×Array (Int)=> [(0,.slu 0 0 n),(6,.sc (.int .i64 (s.1.1:Int))),(7,.sc (.int .i64 (s.1.2:Int)))]) (fun s=> [some (bH n s.2)]) (fun s=>s.1.1≤n∧s.1.2<n∧s.1.1≤s.1.2+1∧s.2.size=n∧Sort.reverseLoop s.1.1 s.1.2 s.2=Sort.reverseRange d a b) (fun s=>s.1.2+1-s.1.1) ((a,b-1),d) []
  (fun _=>rfl) ⟨by simp only;omega,by simp only;omega,by simp only;omega,hd,rfl⟩ ?_ (fun _=>rfl) (fun _=>rfl) ?_
 ·(refine⟨(ExtOk.of rfl),rfl,(by repeat(first|exact trivial|refine⟨rfl,?_⟩|refine⟨cp (by(simp only;omega)),?_⟩)),(by repeat(first|exact trivial|refine⟨am rfl,?_⟩))⟩)
 rintro⟨⟨i,j⟩,d1⟩ ⟨hi,hj,hij,hd1,ho⟩ ih
 simp only at hi hj hij hd1 ho ih ⊢
 (repeat(first|refine aj ?_|refine ac ?_|refine ai rfl rfl rfl ?_))
 refine cF rfl rfl rfl rfl ?_ ?_
 all_goals intro h1
 ·(repeat(first|refine aj ?_|refine ab ?_|refine aD ?_|refine aE ?_|refine ar rfl ?_))
  refine aT (by kernel_rfl) (by kernel_rfl) ?_
  (repeat(first|refine ax rfl rfl rfl ?_|(refine ba (g:=fun x:Int=> .int .i64 x) rfl rfl rfl (F.ag _ rfl) rfl (by(omega)) (by(omega)) ?_)|(refine bU (g:=fun x:Int=> .int .i64 x) rfl rfl rfl (fun _=>rfl) (F.sz _ rfl) rfl (by first|omega|(simp only [zg,aw];omega)) (by first|omega|(simp only [zg,aw];omega)) ?_)|refine au (q:=i) rfl rfl rfl rfl (F.un _ rfl) (F.sz _ rfl) rfl (by omega) (by omega) (by omega) ?_|refine au (q:=j) rfl rfl rfl rfl (F.un _ rfl) (F.sz _ rfl) rfl (by omega) (by omega) (by omega) ?_))
  (refine aF ?_);(refine⟨by kernel_rfl,?_,?_⟩);(focus(repeat(first|exact trivial|refine⟨.inl rfl,?_⟩|refine⟨.inr (by(repeat(refine⟨(by first|exact aG (F.un _ rfl) (F.sz _ rfl) rfl rfl rfl (by omega) (by omega) (by omega)|exact aB rfl),?_⟩));exact trivial),?_⟩|refine⟨.inl (by kernel_rfl),?_⟩)))
  (repeat(first|refine aj ?_|refine ac ?_|refine ab ?_|refine ay ?_|refine ai rfl rfl rfl ?_|refine ah rfl rfl rfl ?_|refine bj rfl rfl rfl rfl (by omega) (by omega) ?_|refine bN rfl rfl rfl rfl (by omega) (by omega) ?_))
  refine ih _ _ _ ((i+1,j-1),Sort.swp d1 i j) [] ⟨by simp only;omega,by simp only;omega,by simp only;omega,by rw [aw];exact hd1,?_⟩ (by simp only;omega) ?_
  ·rw [← ho]
   conv=>rhs;rw [Sort.reverseLoop,if_pos (by omega)]
  ·(refine⟨(ExtOk.of rfl),rfl,(by repeat(first|exact trivial|refine⟨rfl,?_⟩|refine⟨cp (by(simp only;omega)),?_⟩)),(by repeat(first|exact trivial|refine⟨am rfl,?_⟩))⟩)
 ·(repeat(first|refine ab ?_|refine aU rfl ?_|refine an rfl ?_))
  ((apply dU Try.func78 (congrArg Array.toList Try.results78));(focus(repeat(exact ResIs.nil)));refine⟨_,rfl,Ends.mk [] (ExtOk.of rfl) rfl rfl ?_⟩)
  rw [← ho,Sort.reverseLoop,if_neg (by omega)]
  exact(by repeat(first|exact trivial|refine⟨am rfl,?_⟩))
abbrev jQ(k:Nat):VO:=ak 3 [.sc (.int .i64 (k:Int))]
theorem fG(n a b k:Nat)(d:Array (Int))(hn:n<4611686018427387904)(hd:d.size=n)(ha:a<n)(hb:b<n)(hk:k<1000) :
 Ctr Try.prog 94 [.slu 0 0 n,.sc (.int .i64 (a:Int)),.sc (.int .i64 (b:Int)),.ptr 1 0] [bH n d,jQ k] (fun c=>c=⟨.tup [.sc (.int .i64 ((Sort.order2 bh d a b k).1:Int)),.sc (.int .i64 ((Sort.order2 bh d a b k).2.1:Int))],[some (bH n d),some (jQ (Sort.order2 bh d a b k).2.2)]⟩):=by
 refine Fnc.start Try.func94 rfl rfl ?_
 (repeat(first|refine aj ?_|refine ac ?_|refine ab ?_|refine ah rfl rfl rfl ?_))
 refine aT (by kernel_rfl) (by kernel_rfl) ?_
 have hls_h1:=ey (d[b]!) (d[a]!)
 cases h1:bh (d[b]!) (d[a]!)
 all_goals rw [h1] at hls_h1
 rotate_left
 all_goals(repeat(first|refine ax rfl rfl rfl ?_|(refine ba (g:=fun x:Int=> .int .i64 x) rfl rfl rfl (F.ag _ rfl) rfl (by(omega)) (by(omega)) ?_)|refine au (q:=a) rfl rfl rfl rfl (F.un _ rfl) (F.sz _ rfl) rfl (by omega) (by omega) (by omega) ?_|refine au (q:=b) rfl rfl rfl rfl (F.un _ rfl) (F.sz _ rfl) rfl (by omega) (by omega) (by omega) ?_|refine aY rfl rfl rfl (by kernel_rfl) (Ctr.callV (hls_h1) [] rfl (ExtOk.of rfl) rfl trivial rfl) ?_))
 ·skip
  (refine aF ?_);(refine⟨by kernel_rfl,?_,?_⟩);(focus(repeat(first|exact trivial|refine⟨.inl rfl,?_⟩|refine⟨.inr (by(repeat(refine⟨(by first|exact aG (F.un _ rfl) (F.sz _ rfl) rfl rfl rfl (by omega) (by omega) (by omega)|exact aB rfl),?_⟩));exact trivial),?_⟩|refine⟨.inl (by kernel_rfl),?_⟩)))
  (repeat(first|refine aj ?_|refine ac ?_|refine ab ?_|refine ar rfl ?_|refine ai rfl rfl rfl ?_|refine ah rfl rfl rfl ?_|refine aR rfl rfl rfl ?_|refine aH rfl rfl rfl (F.ag _ rfl) rfl rfl ?_|refine kC rfl rfl rfl (F.sz _ rfl) rfl rfl rfl ?_|refine bj rfl rfl rfl rfl (by omega) (by omega) ?_))
  rw [show Sort.order2 bh d a b k=(b,a,k+1) by rw [Sort.order2,if_pos (by simpa [bh] using h1)]]
  ((apply aS Try.func94 (congrArg Array.toList Try.results94));(focus(repeat(first|exact ResIs.nil|apply ResIs.tmp rfl)));refine⟨_,rfl,Ends.mk [] (ExtOk.of rfl) rfl rfl ?_⟩)
  exact(by repeat(first|exact trivial|refine⟨am rfl,?_⟩|refine⟨ca rfl,?_⟩))
 ·skip
  (refine aF ?_);(refine⟨by kernel_rfl,?_,?_⟩);(focus(repeat(first|exact trivial|refine⟨.inl rfl,?_⟩|refine⟨.inr (by(repeat(refine⟨(by first|exact aG (F.un _ rfl) (F.sz _ rfl) rfl rfl rfl (by omega) (by omega) (by omega)|exact aB rfl),?_⟩));exact trivial),?_⟩|refine⟨.inl (by kernel_rfl),?_⟩)))
  (repeat(first|refine aj ?_|refine ac ?_|refine ab ?_|refine aE ?_|refine an rfl ?_|refine ai rfl rfl rfl ?_|refine ah rfl rfl rfl ?_))
  rw [show Sort.order2 bh d a b k=(a,b,k) by rw [Sort.order2,if_neg (by simpa [bh] using h1)]]
  ((apply aS Try.func94 (congrArg Array.toList Try.results94));(focus(repeat(first|exact ResIs.nil|apply ResIs.tmp rfl)));refine⟨_,rfl,Ends.mk [] (ExtOk.of rfl) rfl rfl ?_⟩)
  exact(by repeat(first|exact trivial|refine⟨am rfl,?_⟩|refine⟨ca rfl,?_⟩))
theorem dz{lt:Int→Int→Bool}{d:Array (Int)}{a b k n:Nat}(ha:a<n)(hb:b<n):(Sort.order2 lt d a b k).1<n∧(Sort.order2 lt d a b k).2.1<n∧(Sort.order2 lt d a b k).2.2≤k+1:=by
 unfold Sort.order2
 split
 ·exact⟨hb,ha,zA _⟩
 ·exact⟨ha,hb,zJ _⟩
theorem fH(n a b c k:Nat)(d:Array (Int))(hn:n<4611686018427387904)(hd:d.size=n)(ha:a<n)(hb:b<n)(hc:c<n)(hk:k<900) :
 Ctr Try.prog 91 [.slu 0 0 n,.sc (.int .i64 (a:Int)),.sc (.int .i64 (b:Int)),.sc (.int .i64 (c:Int)),.ptr 1 0] [bH n d,jQ k] (fun r=>r=⟨.sc (.int .i64 ((Sort.median bh d a b c k).1:Int)),[some (bH n d),some (jQ (Sort.median bh d a b c k).2)]⟩):=by
 obtain⟨q1,q2,q3⟩:=dz (lt:=bh) (d:=d) (k:=k) ha hb
 have e1:=fG n a b k d hn hd ha hb (by omega)
 unfold Sort.median
 generalize Sort.order2 bh d a b k=r1 at q1 q2 q3 e1 ⊢
 obtain⟨a1,b1,k1⟩:=r1
 obtain⟨p1,p2,p3⟩:=dz (lt:=bh) (d:=d) (k:=k1) q2 hc
 have e2:=fG n b1 c k1 d hn hd q2 hc (by simp only at q3;omega)
 simp only at q1 q2 q3 p1 p2 p3 e1 e2 ⊢
 generalize Sort.order2 bh d b1 c k1=r2 at p1 p2 p3 e2 ⊢
 obtain⟨b2,c2,k2⟩:=r2
 obtain⟨o1,o2,o3⟩:=dz (lt:=bh) (d:=d) (k:=k2) q1 p1
 have e3:=fG n a1 b2 k2 d hn hd q1 p1 (by simp only at p3;omega)
 simp only at p1 p2 p3 o1 o2 o3 e2 e3 ⊢
 generalize Sort.order2 bh d a1 b2 k2=r3 at o1 o2 o3 e3 ⊢
 obtain⟨a3,b3,k3⟩:=r3
 simp only at o1 o2 o3 e3 ⊢
 refine Fnc.start Try.func91 rfl rfl ?_
 (repeat(first|refine aj ?_|refine ac ?_|refine ab ?_|refine ai rfl rfl rfl ?_|refine ah rfl rfl rfl ?_|refine bM rfl rfl rfl rfl ?_|refine aV rfl rfl rfl (by kernel_rfl) (Ctr.bA (e1) [0,1] rfl (ExtOk.of rfl) rfl (by repeat(first|exact trivial|refine⟨am rfl,?_⟩|refine⟨ca rfl,?_⟩)) rfl (by repeat(first|exact trivial|refine⟨aP,?_⟩|refine⟨bz (fun _=>rfl),?_⟩)) (fun _=>rfl) rfl rfl) ?_|refine aV rfl rfl rfl (by kernel_rfl) (Ctr.bA (e2) [0,1] rfl (ExtOk.of rfl) rfl (by repeat(first|exact trivial|refine⟨am rfl,?_⟩|refine⟨ca rfl,?_⟩)) rfl (by repeat(first|exact trivial|refine⟨aP,?_⟩|refine⟨bz (fun _=>rfl),?_⟩)) (fun _=>rfl) rfl rfl) ?_|refine aV rfl rfl rfl (by kernel_rfl) (Ctr.bA (e3) [0,1] rfl (ExtOk.of rfl) rfl (by repeat(first|exact trivial|refine⟨am rfl,?_⟩|refine⟨ca rfl,?_⟩)) rfl (by repeat(first|exact trivial|refine⟨aP,?_⟩|refine⟨bz (fun _=>rfl),?_⟩)) (fun _=>rfl) rfl rfl) ?_))
 ((apply aS Try.func91 (congrArg Array.toList Try.results91));(focus(repeat(first|exact ResIs.nil|apply ResIs.tmp rfl)));refine⟨_,rfl,Ends.mk [] (ExtOk.of rfl) rfl rfl ?_⟩)
 exact(by repeat(first|exact trivial|refine⟨am rfl,?_⟩|refine⟨ca rfl,?_⟩))
theorem gV{lt:Int→Int→Bool}{d:Array (Int)}{a b c k n:Nat}(ha:a<n)(hb:b<n)(hc:c<n):(Sort.median lt d a b c k).1<n∧(Sort.median lt d a b c k).2≤k+3:=by
 obtain⟨q1,q2,q3⟩:=dz (lt:=lt) (d:=d) (k:=k) ha hb
 obtain⟨p1,p2,p3⟩:=dz (lt:=lt) (d:=d) (k:=(Sort.order2 lt d a b k).2.2) q2 hc
 obtain⟨o1,o2,o3⟩:=dz (lt:=lt) (d:=d) (k:=(Sort.order2 lt d (Sort.order2 lt d a b k).2.1 c (Sort.order2 lt d a b k).2.2).2.2) q1 p1
 exact⟨o2,by simp only [Sort.median];omega⟩
theorem fI(n a k:Nat)(d:Array (Int))(hn:n<4611686018427387904)(hd:d.size=n)(ha:a+1<n)(h1:1≤a)(hk:k<900) :
 Ctr Try.prog 90 [.slu 0 0 n,.sc (.int .i64 (a:Int)),.ptr 1 0] [bH n d,jQ k] (fun r=>r=⟨.sc (.int .i64 ((Sort.medianAdjacent bh d a k).1:Int)),[some (bH n d),some (jQ (Sort.medianAdjacent bh d a k).2)]⟩):=by
 obtain⟨a,rfl⟩: ∃ a',a=a'+1:=⟨a-1,by omega⟩
 have e:=fH n a (a+1) (a+1+1) k d hn hd (by omega) (by omega) (by omega) hk
 have e0:((a:Nat):Int)=((a+1:Nat):Int)-1:=by omega
 rw [e0] at e
 refine Fnc.start Try.func90 rfl rfl ?_
 (repeat(first|refine aj ?_|refine ac ?_|refine ab ?_|refine ai rfl rfl rfl ?_|refine ah rfl rfl rfl ?_|refine bj rfl rfl rfl rfl (by omega) (by omega) ?_|refine bN rfl rfl rfl rfl (by omega) (by omega) ?_|refine aV rfl rfl rfl (by kernel_rfl) (Ctr.bA (e) [0,1] rfl (ExtOk.of rfl) rfl (by repeat(first|exact trivial|refine⟨am rfl,?_⟩|refine⟨ca rfl,?_⟩)) rfl (by repeat(first|exact trivial|refine⟨aP,?_⟩|refine⟨bz (fun _=>rfl),?_⟩)) (fun _=>rfl) rfl rfl) ?_))
 ((apply aS Try.func90 (congrArg Array.toList Try.results90));(focus(repeat(first|exact ResIs.nil|apply ResIs.tmp rfl)));refine⟨_,rfl,Ends.mk [] (ExtOk.of rfl) rfl rfl ?_⟩)
 exact(by repeat(first|exact trivial|refine⟨am rfl,?_⟩|refine⟨ca rfl,?_⟩))
theorem pR(n a b:Nat)(d:Array (Int))(hn:n<4611686018427387904)(hd:d.size=n)(hab:a<b)(hb:b≤n) :
 Ctr Try.prog 77 [.slu 0 0 n,.sc (.int .i64 (a:Int)),.sc (.int .i64 (b:Int))] [bH n d] (fun r=>r=⟨.tup [.sc (.int .i64 ((Sort.choosePivot bh d a b).1:Int)),.sc (.int .i64 (t4 (Sort.choosePivot bh d a b).2))],[some (bH n d)]⟩):=by
 have e1:((a:Int)+((b:Int)-(a:Int)) / 4*1)=((a+(b-a) / 4*1:Nat):Int):=by omega
 have e2:((a:Int)+((b:Int)-(a:Int)) / 4*2)=((a+(b-a) / 4*2:Nat):Int):=by omega
 have e3:((a:Int)+((b:Int)-(a:Int)) / 4*3)=((a+(b-a) / 4*3:Nat):Int):=by omega
 refine Fnc.start Try.func77 rfl rfl ?_
 (repeat(first|refine aj ?_|refine ac ?_|refine ab ?_|refine ai rfl rfl rfl ?_|refine ah rfl rfl rfl ?_|refine cx rfl rfl (F.zl _ rfl) ?_|refine bj rfl rfl rfl rfl (by omega) (by omega) ?_|refine bN rfl rfl rfl rfl (by omega) (by omega) ?_|refine ny rfl rfl rfl rfl (by omega) (by omega) ?_|refine nw rfl rfl rfl rfl (by omega) (by omega) (by omega) ?_))
 rw [e1,e2,e3]
 have fin: ∀ (T:Tr SV) (H:aK) (nx:Nat) (p k:Nat),True:=fun _ _ _ _ _=>trivial
 refine cw rfl rfl rfl rfl ?_ ?_
 all_goals intro h1
 ·(repeat(first|refine aj ?_|refine ac ?_|refine ab ?_|refine ar rfl ?_|refine ai rfl rfl rfl ?_))
  refine cw rfl rfl rfl rfl ?_ ?_
  all_goals intro h2
  ·have m1:=fI n (a+(b-a) / 4*1) 0 d hn hd (by omega) (by omega) (by omega)
   have l1:(Sort.medianAdjacent bh d (a+(b-a) / 4*1) 0).1<n∧(Sort.medianAdjacent bh d (a+(b-a) / 4*1) 0).2≤0+3:=gV (by omega) (by omega) (by omega)
   have ec:Sort.choosePivot bh d a b=Sort.choosePivot bh d a b:=rfl
   conv at ec=>rhs;unfold Sort.choosePivot
   simp only [show b-a≥8 by omega,show b-a≥50 by omega,if_true] at ec
   generalize Sort.medianAdjacent bh d (a+(b-a) / 4*1) 0=r1 at m1 l1 ec
   have m2:=fI n (a+(b-a) / 4*2) r1.2 d hn hd (by omega) (by omega) (by omega)
   have l2:(Sort.medianAdjacent bh d (a+(b-a) / 4*2) r1.2).1<n∧(Sort.medianAdjacent bh d (a+(b-a) / 4*2) r1.2).2≤r1.2+3:=gV (by omega) (by omega) (by omega)
   generalize Sort.medianAdjacent bh d (a+(b-a) / 4*2) r1.2=r2 at m2 l2 ec
   have m3:=fI n (a+(b-a) / 4*3) r2.2 d hn hd (by omega) (by omega) (by omega)
   have l3:(Sort.medianAdjacent bh d (a+(b-a) / 4*3) r2.2).1<n∧(Sort.medianAdjacent bh d (a+(b-a) / 4*3) r2.2).2≤r2.2+3:=gV (by omega) (by omega) (by omega)
   generalize Sort.medianAdjacent bh d (a+(b-a) / 4*3) r2.2=r3 at m3 l3 ec
   have m4:=fH n r1.1 r2.1 r3.1 r3.2 d hn hd l1.1 l2.1 l3.1 (by omega)
   generalize Sort.median bh d r1.1 r2.1 r3.1 r3.2=r4 at m4 ec
   rw [ec]
   obtain⟨p,k⟩:=r4
   (repeat(first|refine aj ?_|refine ac ?_|refine ab ?_|refine aD ?_|refine ar rfl ?_|refine ai rfl rfl rfl ?_|refine ah rfl rfl rfl ?_|refine aH rfl rfl rfl (F.ag _ rfl) rfl rfl ?_|refine aV rfl rfl rfl (by kernel_rfl) (Ctr.bA (m1) [0,1] rfl (ExtOk.of rfl) rfl (by repeat(first|exact trivial|refine⟨am rfl,?_⟩|refine⟨ca rfl,?_⟩)) rfl (by repeat(first|exact trivial|refine⟨aP,?_⟩|refine⟨bz (fun _=>rfl),?_⟩)) (fun _=>rfl) rfl rfl) ?_|refine aV rfl rfl rfl (by kernel_rfl) (Ctr.bA (m2) [0,1] rfl (ExtOk.of rfl) rfl (by repeat(first|exact trivial|refine⟨am rfl,?_⟩|refine⟨ca rfl,?_⟩)) rfl (by repeat(first|exact trivial|refine⟨aP,?_⟩|refine⟨bz (fun _=>rfl),?_⟩)) (fun _=>rfl) rfl rfl) ?_|refine aV rfl rfl rfl (by kernel_rfl) (Ctr.bA (m3) [0,1] rfl (ExtOk.of rfl) rfl (by repeat(first|exact trivial|refine⟨am rfl,?_⟩|refine⟨ca rfl,?_⟩)) rfl (by repeat(first|exact trivial|refine⟨aP,?_⟩|refine⟨bz (fun _=>rfl),?_⟩)) (fun _=>rfl) rfl rfl) ?_|refine aV rfl rfl rfl (by kernel_rfl) (Ctr.bA (m4) [0,1] rfl (ExtOk.of rfl) rfl (by repeat(first|exact trivial|refine⟨am rfl,?_⟩|refine⟨ca rfl,?_⟩)) rfl (by repeat(first|exact trivial|refine⟨aP,?_⟩|refine⟨bz (fun _=>rfl),?_⟩)) (fun _=>rfl) rfl rfl) ?_))
   refine cP rfl rfl rfl rfl ?_ ?_
   all_goals intro h3
   ·(repeat(first|refine aj ?_|refine ac ?_|refine ab ?_|refine ar rfl ?_|refine ai rfl rfl rfl ?_|refine ah rfl rfl rfl ?_))
    rw [if_pos (show(p,k).2=0 by simp only;omega)]
    ((apply aS Try.func77 (congrArg Array.toList Try.results77));(focus(repeat(first|exact ResIs.nil|apply ResIs.tmp rfl)));refine⟨_,rfl,Ends.mk [] (ExtOk.of rfl) rfl rfl ?_⟩)
    exact(by repeat(first|exact trivial|refine⟨am rfl,?_⟩))
   ·(repeat(first|refine aj ?_|refine ac ?_|refine ab ?_|refine an rfl ?_|refine ah rfl rfl rfl ?_))
    refine cP rfl rfl rfl rfl ?_ ?_
    all_goals intro h4
    ·(repeat(first|refine aj ?_|refine ac ?_|refine ab ?_|refine ar rfl ?_|refine ai rfl rfl rfl ?_|refine ah rfl rfl rfl ?_))
     rw [if_neg (show ¬ (p,k).2=0 by simp only;omega),if_pos (show(p,k).2=12 by simp only;omega)]
     ((apply aS Try.func77 (congrArg Array.toList Try.results77));(focus(repeat(first|exact ResIs.nil|apply ResIs.tmp rfl)));refine⟨_,rfl,Ends.mk [] (ExtOk.of rfl) rfl rfl ?_⟩)
     exact(by repeat(first|exact trivial|refine⟨am rfl,?_⟩))
    ·(repeat(first|refine aj ?_|refine ac ?_|refine ab ?_|refine an rfl ?_|refine ai rfl rfl rfl ?_|refine ah rfl rfl rfl ?_))
     rw [if_neg (show ¬ (p,k).2=0 by simp only;omega),if_neg (show ¬ (p,k).2=12 by simp only;omega)]
     ((apply aS Try.func77 (congrArg Array.toList Try.results77));(focus(repeat(first|exact ResIs.nil|apply ResIs.tmp rfl)));refine⟨_,rfl,Ends.mk [] (ExtOk.of rfl) rfl rfl ?_⟩)
     exact(by repeat(first|exact trivial|refine⟨am rfl,?_⟩))
  ·have ec:Sort.choosePivot bh d a b=Sort.choosePivot bh d a b:=rfl
   conv at ec=>rhs;unfold Sort.choosePivot
   simp only [show b-a≥8 by omega,show ¬ (b-a≥50) by omega,if_true,if_false] at ec
   have m4:=fH n (a+(b-a) / 4*1) (a+(b-a) / 4*2) (a+(b-a) / 4*3) 0 d hn hd (by omega) (by omega) (by omega) (by omega)
   generalize Sort.median bh d (a+(b-a) / 4*1) (a+(b-a) / 4*2) (a+(b-a) / 4*3) 0=r4 at m4 ec
   rw [ec]
   obtain⟨p,k⟩:=r4
   (repeat(first|refine aj ?_|refine ac ?_|refine ab ?_|refine aD ?_|refine aE ?_|refine an rfl ?_|refine ai rfl rfl rfl ?_|refine ah rfl rfl rfl ?_|refine aH rfl rfl rfl (F.ag _ rfl) rfl rfl ?_|refine aV rfl rfl rfl (by kernel_rfl) (Ctr.bA (m4) [0,1] rfl (ExtOk.of rfl) rfl (by repeat(first|exact trivial|refine⟨am rfl,?_⟩|refine⟨ca rfl,?_⟩)) rfl (by repeat(first|exact trivial|refine⟨aP,?_⟩|refine⟨bz (fun _=>rfl),?_⟩)) (fun _=>rfl) rfl rfl) ?_))
   refine cP rfl rfl rfl rfl ?_ ?_
   all_goals intro h3
   ·(repeat(first|refine aj ?_|refine ac ?_|refine ab ?_|refine ar rfl ?_|refine ai rfl rfl rfl ?_|refine ah rfl rfl rfl ?_))
    rw [if_pos (show(p,k).2=0 by simp only;omega)]
    ((apply aS Try.func77 (congrArg Array.toList Try.results77));(focus(repeat(first|exact ResIs.nil|apply ResIs.tmp rfl)));refine⟨_,rfl,Ends.mk [] (ExtOk.of rfl) rfl rfl ?_⟩)
    exact(by repeat(first|exact trivial|refine⟨am rfl,?_⟩))
   ·(repeat(first|refine aj ?_|refine ac ?_|refine ab ?_|refine an rfl ?_|refine ah rfl rfl rfl ?_))
    refine cP rfl rfl rfl rfl ?_ ?_
    all_goals intro h4
    ·(repeat(first|refine aj ?_|refine ac ?_|refine ab ?_|refine ar rfl ?_|refine ai rfl rfl rfl ?_|refine ah rfl rfl rfl ?_))
     rw [if_neg (show ¬ (p,k).2=0 by simp only;omega),if_pos (show(p,k).2=12 by simp only;omega)]
     ((apply aS Try.func77 (congrArg Array.toList Try.results77));(focus(repeat(first|exact ResIs.nil|apply ResIs.tmp rfl)));refine⟨_,rfl,Ends.mk [] (ExtOk.of rfl) rfl rfl ?_⟩)
     exact(by repeat(first|exact trivial|refine⟨am rfl,?_⟩))
    ·(repeat(first|refine aj ?_|refine ac ?_|refine ab ?_|refine an rfl ?_|refine ai rfl rfl rfl ?_|refine ah rfl rfl rfl ?_))
     rw [if_neg (show ¬ (p,k).2=0 by simp only;omega),if_neg (show ¬ (p,k).2=12 by simp only;omega)]
     ((apply aS Try.func77 (congrArg Array.toList Try.results77));(focus(repeat(first|exact ResIs.nil|apply ResIs.tmp rfl)));refine⟨_,rfl,Ends.mk [] (ExtOk.of rfl) rfl rfl ?_⟩)
     exact(by repeat(first|exact trivial|refine⟨am rfl,?_⟩))
 ·have ec:Sort.choosePivot bh d a b=(a+(b-a) / 4*2,.increasing):=by
   unfold Sort.choosePivot
   simp only [show ¬ (b-a≥8) by omega,if_false,if_true]
  rw [ec]
  (repeat(first|refine aj ?_|refine ac ?_|refine ab ?_|refine aD ?_|refine aE ?_|refine ar rfl ?_|refine an rfl ?_|refine ai rfl rfl rfl ?_|refine ah rfl rfl rfl ?_|refine aH rfl rfl rfl (F.ag _ rfl) rfl rfl ?_|refine pt rfl rfl rfl rfl ?_))
  ((apply aS Try.func77 (congrArg Array.toList Try.results77));(focus(repeat(first|exact ResIs.nil|apply ResIs.tmp rfl)));refine⟨_,rfl,Ends.mk [] (ExtOk.of rfl) rfl rfl ?_⟩)
  exact(by repeat(first|exact trivial|refine⟨am rfl,?_⟩))
theorem gU{p:Int→Bool}{d:Array (Int)}{i j:Nat}(h:i≤j)(hp:p d[i]! =true):Sort.scanUp p d j i=Sort.scanUp p d j (i+1):=by
 conv=>lhs;rw [Sort.scanUp,if_pos (by simp [h,hp])]
theorem cU{p:Int→Bool}{d:Array (Int)}{i j:Nat}(h:j<i∨p d[i]! =false):Sort.scanUp p d j i=i:=by
 rw [Sort.scanUp,if_neg]
 simp only [zy,decide_eq_true_eq]
 rintro⟨h1,h2⟩
 rcases h with h|h
 ·omega
 ·rw [h] at h2;cases h2
theorem fE{p:Int→Bool}{d:Array (Int)}{i j:Nat}(h:i≤j+1)(hp:p d[j+1]! =true):Sort.scanDown p d i (j+1)=Sort.scanDown p d i j:=by
 conv=>lhs;rw [Sort.scanDown,if_pos (by simp [h,hp])]
theorem co{p:Int→Bool}{d:Array (Int)}{i j:Nat}(h:j<i∨p d[j]! =false):Sort.scanDown p d i j=j:=by
 cases j with
 | zero=>rfl
 | succ j=>
   rw [Sort.scanDown,if_neg]
   simp only [zy,decide_eq_true_eq]
   rintro⟨h1,h2⟩
   rcases h with h|h
   ·omega
   ·rw [h] at h2;cases h2
theorem lV{lt:Int→Int→Bool}{d:Array (Int)}{a i j i2 j2:Nat}(hi:Sort.scanUp (fun x=> !lt d[a]! x) d j i=i2)(hj:Sort.scanDown (fun x=>lt d[a]! x) d i2 j=j2)(h1:i≤i2)(h2:j2≤j) :
 Sort.partEqLoop lt a i j d=if j2<i2 then(i2,d) else Sort.partEqLoop lt a (i2+1) (j2-1) (Sort.swp d i2 j2):=by
 conv=>lhs;unfold Sort.partEqLoop
 simp only [hi,hj]
 split
 ·rfl
 ·rw [dif_pos (by omega)]
theorem lW(n a b pv:Nat)(d:Array (Int))(hn:n<4611686018427387904)(hd:d.size=n)(hap:a≤pv)(hpb:pv<b)(hb:b≤n) :
 Ctr Try.prog 81 [.slu 0 0 n,.sc (.int .i64 (a:Int)),.sc (.int .i64 (b:Int)),.sc (.int .i64 (pv:Int))] [bH n d] (fun c=>c=⟨.sc (.int .i64 ((Sort.partitionEqual bh d a b pv).1:Int)),[some (bH n (Sort.partitionEqual bh d a b pv).2)]⟩):=by
 refine Fnc.start Try.func81 rfl rfl ?_
 (repeat(first|refine aj ?_|refine ac ?_|refine ab ?_|refine ah rfl rfl rfl ?_))
 refine aT (by kernel_rfl) (by kernel_rfl) ?_
 (repeat(first|refine ax rfl rfl rfl ?_|(refine ba (g:=fun x:Int=> .int .i64 x) rfl rfl rfl (F.ag _ rfl) rfl (by(omega)) (by(omega)) ?_)|(refine bU (g:=fun x:Int=> .int .i64 x) rfl rfl rfl (fun _=>rfl) (F.sz _ rfl) rfl (by first|omega|(simp only [zg,aw];omega)) (by first|omega|(simp only [zg,aw];omega)) ?_)|refine au (q:=a) rfl rfl rfl rfl (F.un _ rfl) (F.sz _ rfl) rfl (by omega) (by omega) (by omega) ?_|refine au (q:=pv) rfl rfl rfl rfl (F.un _ rfl) (F.sz _ rfl) rfl (by omega) (by omega) (by omega) ?_))
 (refine aF ?_);(refine⟨by kernel_rfl,?_,?_⟩);(focus(repeat(first|exact trivial|refine⟨.inl rfl,?_⟩|refine⟨.inr (by(repeat(refine⟨(by first|exact aG (F.un _ rfl) (F.sz _ rfl) rfl rfl rfl (by omega) (by omega) (by omega)|exact aB rfl),?_⟩));exact trivial),?_⟩|refine⟨.inl (by kernel_rfl),?_⟩)))
 (repeat(first|refine aj ?_|refine ac ?_|refine ab ?_|refine aD ?_|refine ai rfl rfl rfl ?_|refine ah rfl rfl rfl ?_|refine bj rfl rfl rfl rfl (by omega) (by omega) ?_|refine bN rfl rfl rfl rfl (by omega) (by omega) ?_))
 refine ct 1 (fun s:(Nat×Nat)×Array (Int)=> [(0,.slu 0 0 n),(1,.sc (.int .i64 (a:Int))),(9,.sc (.int .i64 (s.1.1:Int))),(10,.sc (.int .i64 (s.1.2:Int)))]) (fun s=> [some (bH n s.2)]) (fun s=>a<s.1.1∧s.1.1≤n∧s.1.2<n∧s.2.size=n∧Sort.partEqLoop bh a s.1.1 s.1.2 s.2=Sort.partitionEqual bh d a b pv) (fun s=>s.1.2+1-s.1.1) ((a+1,b-1),Sort.swp d a pv) []
  (fun _=>rfl) ⟨by simp only;omega,by simp only;omega,by simp only;omega,by rw [aw];exact hd,rfl⟩ ?_ (fun _=>rfl) (fun _=>rfl) ?_
 ·(refine⟨(ExtOk.of rfl),rfl,(by repeat(first|exact trivial|refine⟨rfl,?_⟩|refine⟨cp (by(simp only;omega)),?_⟩)),(by repeat(first|exact trivial|refine⟨am rfl,?_⟩))⟩)
 rintro⟨⟨i,j⟩,d1⟩ ⟨hai,hi,hj,hd1,ho⟩ ih
 simp only at hai hi hj hd1 ho ih ⊢
 (repeat(first|refine aj ?_|refine aD ?_))
 refine ck 1 (fun x:Nat=> [(0,.slu 0 0 n),(1,.sc (.int .i64 (a:Int))),(9,.sc (.int .i64 (x:Int))),(10,.sc (.int .i64 (j:Int)))]) (fun _=> [some (bH n d1)]) (fun x=>i≤x∧x≤n∧Sort.scanUp (fun y=> !bh d1[a]! y) d1 j x=Sort.scanUp (fun y=> !bh d1[a]! y) d1 j i) (fun x=>n-x) i []
  1 (fun x:Nat=> [(0,.slu 0 0 n),(1,.sc (.int .i64 (a:Int))),(9,.sc (.int .i64 (x:Int))),(10,.sc (.int .i64 (j:Int)))]) (fun _=> [some (bH n d1)]) (fun x=>i≤x∧x≤n∧Sort.scanUp (fun y=> !bh d1[a]! y) d1 j i=x)
  (fun _=>rfl) (fun _=>rfl) ⟨zA _,hi,rfl⟩ ?_ (fun _=>rfl) (fun _=>rfl) ?_ ?_
 ·(refine⟨(ExtOk.of rfl),rfl,(by repeat(first|exact trivial|refine⟨rfl,?_⟩)),(by repeat(first|exact trivial|refine⟨am rfl,?_⟩))⟩)
 ·rintro i1 ⟨hii,hi1,hu⟩ ihu out
  (repeat(refine aj ?_))
  refine aT (by kernel_rfl) (by kernel_rfl) ?_
  (repeat(refine ax rfl rfl rfl ?_))
  refine dJ rfl rfl rfl rfl ?_ ?_
  all_goals intro h1
  ·have hls_h2:=ey (d1[a]!) (d1[i1]!)
   cases h2:bh (d1[a]!) (d1[i1]!)
   all_goals rw [h2] at hls_h2
   rotate_left
   all_goals(repeat(first|refine ax rfl rfl rfl ?_|refine bK rfl rfl rfl rfl ?_|refine cl rfl rfl rfl ?_|(refine ba (g:=fun x:Int=> .int .i64 x) rfl rfl rfl (F.ag _ rfl) rfl (by(omega)) (by(omega)) ?_)|refine au (q:=a) rfl rfl rfl rfl (F.un _ rfl) (F.sz _ rfl) rfl (by omega) (by omega) (by omega) ?_|refine au (q:=i1) rfl rfl rfl rfl (F.un _ rfl) (F.sz _ rfl) rfl (by omega) (by omega) (by omega) ?_|refine aY rfl rfl rfl (by kernel_rfl) (Ctr.callV (hls_h2) [] rfl (ExtOk.of rfl) rfl trivial rfl) ?_))
   ·skip
    (refine aF ?_);(refine⟨by kernel_rfl,?_,?_⟩);(focus(repeat(first|exact trivial|refine⟨.inl rfl,?_⟩|refine⟨.inr (by(repeat(refine⟨(by first|exact bD rfl|exact aG (F.un _ rfl) (F.sz _ rfl) rfl rfl rfl (by omega) (by omega) (by omega)|exact aB rfl|exact aX rfl rfl),?_⟩));exact trivial),?_⟩|refine⟨.inl (by kernel_rfl),?_⟩)))
    (repeat(first|(refine out _ _ _ i1 [] ⟨hii,hi1,by rw [← hu];exact cU (.inr (by simpa [bh] using h2))⟩ ?_;(refine⟨(ExtOk.of rfl),rfl,(by repeat(first|exact trivial|refine⟨rfl,?_⟩)),(by repeat(first|exact trivial|refine⟨am rfl,?_⟩))⟩))|refine aU rfl ?_|refine an rfl ?_))
   ·skip
    (refine aF ?_);(refine⟨by kernel_rfl,?_,?_⟩);(focus(repeat(first|exact trivial|refine⟨.inl rfl,?_⟩|refine⟨.inr (by(repeat(refine⟨(by first|exact bD rfl|exact aG (F.un _ rfl) (F.sz _ rfl) rfl rfl rfl (by omega) (by omega) (by omega)|exact aB rfl|exact aX rfl rfl),?_⟩));exact trivial),?_⟩|refine⟨.inl (by kernel_rfl),?_⟩)))
    (repeat(first|refine ac ?_|refine ab ?_|refine aD ?_|refine ay ?_|refine aE ?_|refine ar rfl ?_|refine ai rfl rfl rfl ?_|refine ah rfl rfl rfl ?_|refine bj rfl rfl rfl rfl (by omega) (by omega) ?_))
    refine ihu _ _ _ (i1+1) [] ⟨by omega,by omega,?_⟩ (by omega) ?_
    ·rw [← hu]
     exact(gU (by omega) (by simpa [bh] using h2)).symm
    ·(refine⟨(ExtOk.of rfl),rfl,(by repeat(first|exact trivial|refine⟨rfl,?_⟩)),(by repeat(first|exact trivial|refine⟨am rfl,?_⟩))⟩)
  ·(repeat(first|refine ax rfl rfl rfl ?_|refine bL rfl rfl rfl rfl ?_|refine cd rfl rfl ?_))
   (refine aF ?_);(refine⟨by kernel_rfl,?_,?_⟩);(focus(repeat(first|exact trivial|refine⟨.inl rfl,?_⟩)))
   (repeat(first|(refine out _ _ _ i1 [] ⟨hii,hi1,by rw [← hu];exact cU (.inl (by omega))⟩ ?_;(refine⟨(ExtOk.of rfl),rfl,(by repeat(first|exact trivial|refine⟨rfl,?_⟩)),(by repeat(first|exact trivial|refine⟨am rfl,?_⟩))⟩))|refine aU rfl ?_|refine an rfl ?_))
 rintro i2 ⟨hii,hi2,hu⟩
 (repeat(first|refine aj ?_|refine aD ?_))
 refine ck 1 (fun x:Nat=> [(0,.slu 0 0 n),(1,.sc (.int .i64 (a:Int))),(9,.sc (.int .i64 (i2:Int))),(10,.sc (.int .i64 (x:Int)))]) (fun _=> [some (bH n d1)]) (fun x=>x≤j∧Sort.scanDown (fun y=>bh d1[a]! y) d1 i2 x=Sort.scanDown (fun y=>bh d1[a]! y) d1 i2 j) (fun x=>x) j []
  1 (fun x:Nat=> [(0,.slu 0 0 n),(1,.sc (.int .i64 (a:Int))),(9,.sc (.int .i64 (i2:Int))),(10,.sc (.int .i64 (x:Int)))]) (fun _=> [some (bH n d1)]) (fun x=>x≤j∧Sort.scanDown (fun y=>bh d1[a]! y) d1 i2 j=x)
  (fun _=>rfl) (fun _=>rfl) ⟨zA _,rfl⟩ ?_ (fun _=>rfl) (fun _=>rfl) ?_ ?_
 ·(refine⟨(ExtOk.of rfl),rfl,(by repeat(first|exact trivial|refine⟨rfl,?_⟩)),(by repeat(first|exact trivial|refine⟨am rfl,?_⟩))⟩)
 ·rintro j1 ⟨hjj,hv⟩ ihv out
  (repeat(refine aj ?_))
  refine aT (by kernel_rfl) (by kernel_rfl) ?_
  (repeat(refine ax rfl rfl rfl ?_))
  refine dJ rfl rfl rfl rfl ?_ ?_
  all_goals intro h1
  ·have hls_h2:=ey (d1[a]!) (d1[j1]!)
   cases h2:bh (d1[a]!) (d1[j1]!)
   all_goals rw [h2] at hls_h2
   rotate_left
   all_goals(repeat(first|refine ax rfl rfl rfl ?_|refine bK rfl rfl rfl rfl ?_|(refine ba (g:=fun x:Int=> .int .i64 x) rfl rfl rfl (F.ag _ rfl) rfl (by(omega)) (by(omega)) ?_)|refine au (q:=a) rfl rfl rfl rfl (F.un _ rfl) (F.sz _ rfl) rfl (by omega) (by omega) (by omega) ?_|refine au (q:=j1) rfl rfl rfl rfl (F.un _ rfl) (F.sz _ rfl) rfl (by omega) (by omega) (by omega) ?_|refine aY rfl rfl rfl (by kernel_rfl) (Ctr.callV (hls_h2) [] rfl (ExtOk.of rfl) rfl trivial rfl) ?_))
   ·skip
    (refine aF ?_);(refine⟨by kernel_rfl,?_,?_⟩);(focus(repeat(first|exact trivial|refine⟨.inl rfl,?_⟩|refine⟨.inr (by(repeat(refine⟨(by first|exact aG (F.un _ rfl) (F.sz _ rfl) rfl rfl rfl (by omega) (by omega) (by omega)|exact aB rfl|exact aX rfl rfl),?_⟩));exact trivial),?_⟩|refine⟨.inl (by kernel_rfl),?_⟩)))
    (repeat(first|refine ac ?_|refine ab ?_|refine aD ?_|refine ay ?_|refine aE ?_|refine ar rfl ?_|refine ai rfl rfl rfl ?_|refine ah rfl rfl rfl ?_|refine bN rfl rfl rfl rfl (by omega) (by omega) ?_))
    obtain⟨j1,rfl⟩: ∃ j',j1=j'+1:=⟨j1-1,by omega⟩
    refine ihv _ _ _ j1 [] ⟨by omega,?_⟩ (by omega) ?_
    ·rw [← hv]
     exact(fE (by omega) (by simpa [bh] using h2)).symm
    ·(refine⟨(ExtOk.of rfl),rfl,(by repeat(first|exact trivial|refine⟨rfl,?_⟩|refine⟨cp (by(omega)),?_⟩)),(by repeat(first|exact trivial|refine⟨am rfl,?_⟩))⟩)
   ·skip
    (refine aF ?_);(refine⟨by kernel_rfl,?_,?_⟩);(focus(repeat(first|exact trivial|refine⟨.inl rfl,?_⟩|refine⟨.inr (by(repeat(refine⟨(by first|exact aG (F.un _ rfl) (F.sz _ rfl) rfl rfl rfl (by omega) (by omega) (by omega)|exact aB rfl|exact aX rfl rfl),?_⟩));exact trivial),?_⟩|refine⟨.inl (by kernel_rfl),?_⟩)))
    (repeat(first|(refine out _ _ _ j1 [] ⟨hjj,by rw [← hv];exact co (.inr (by simpa [bh] using h2))⟩ ?_;(refine⟨(ExtOk.of rfl),rfl,(by repeat(first|exact trivial|refine⟨rfl,?_⟩)),(by repeat(first|exact trivial|refine⟨am rfl,?_⟩))⟩))|refine aU rfl ?_|refine an rfl ?_))
  ·(repeat(first|refine ax rfl rfl rfl ?_|refine bL rfl rfl rfl rfl ?_|refine cd rfl rfl ?_))
   (refine aF ?_);(refine⟨by kernel_rfl,?_,?_⟩);(focus(repeat(first|exact trivial|refine⟨.inl rfl,?_⟩)))
   (repeat(first|(refine out _ _ _ j1 [] ⟨hjj,by rw [← hv];exact co (.inl (by omega))⟩ ?_;(refine⟨(ExtOk.of rfl),rfl,(by repeat(first|exact trivial|refine⟨rfl,?_⟩)),(by repeat(first|exact trivial|refine⟨am rfl,?_⟩))⟩))|refine aU rfl ?_|refine an rfl ?_))
 rintro j2 ⟨hjj,hv⟩
 have e:=lV hu hv hii hjj
 (repeat(first|refine aj ?_|refine ac ?_|refine ai rfl rfl rfl ?_))
 refine dB rfl rfl rfl rfl ?_ ?_
 all_goals intro h3
 ·rw [ho,if_pos (by omega)] at e
  (repeat(first|refine aj ?_|refine ac ?_|refine ab ?_|refine aU rfl ?_|refine ar rfl ?_|refine ai rfl rfl rfl ?_|refine ah rfl rfl rfl ?_))
  rw [e]
  ((apply aS Try.func81 (congrArg Array.toList Try.results81));(focus(repeat(first|exact ResIs.nil|apply ResIs.tmp rfl)));refine⟨_,rfl,Ends.mk [] (ExtOk.of rfl) rfl rfl ?_⟩)
  exact(by repeat(first|exact trivial|refine⟨am rfl,?_⟩))
 ·rw [ho,if_neg (by omega)] at e
  (repeat(first|refine aj ?_|refine ab ?_|refine aE ?_|refine an rfl ?_))
  refine aT (by kernel_rfl) (by kernel_rfl) ?_
  (repeat(first|refine ax rfl rfl rfl ?_|(refine ba (g:=fun x:Int=> .int .i64 x) rfl rfl rfl (F.ag _ rfl) rfl (by(omega)) (by(omega)) ?_)|(refine bU (g:=fun x:Int=> .int .i64 x) rfl rfl rfl (fun _=>rfl) (F.sz _ rfl) rfl (by first|omega|(simp only [zg,aw];omega)) (by first|omega|(simp only [zg,aw];omega)) ?_)|refine au (q:=i2) rfl rfl rfl rfl (F.un _ rfl) (F.sz _ rfl) rfl (by omega) (by omega) (by omega) ?_|refine au (q:=j2) rfl rfl rfl rfl (F.un _ rfl) (F.sz _ rfl) rfl (by omega) (by omega) (by omega) ?_))
  (refine aF ?_);(refine⟨by kernel_rfl,?_,?_⟩);(focus(repeat(first|exact trivial|refine⟨.inl rfl,?_⟩|refine⟨.inr (by(repeat(refine⟨(by first|exact aG (F.un _ rfl) (F.sz _ rfl) rfl rfl rfl (by omega) (by omega) (by omega)|exact aB rfl),?_⟩));exact trivial),?_⟩|refine⟨.inl (by kernel_rfl),?_⟩)))
  (repeat(first|refine aj ?_|refine ac ?_|refine ab ?_|refine ay ?_|refine ai rfl rfl rfl ?_|refine ah rfl rfl rfl ?_|refine bj rfl rfl rfl rfl (by omega) (by omega) ?_|refine bN rfl rfl rfl rfl (by omega) (by omega) ?_))
  refine ih _ _ _ ((i2+1,j2-1),Sort.swp d1 i2 j2) [] ⟨by simp only;omega,by simp only;omega,by simp only;omega,by rw [aw];exact hd1,e.symm⟩ (by simp only;omega) ?_
  (refine⟨(ExtOk.of rfl),rfl,(by repeat(first|exact trivial|refine⟨rfl,?_⟩|refine⟨cp (by(simp only;omega)),?_⟩)),(by repeat(first|exact trivial|refine⟨am rfl,?_⟩))⟩)
theorem ow{lt:Int→Int→Bool}{d:Array (Int)}{a i j i2 j2:Nat}(hi:Sort.scanUp (fun x=>lt x d[a]!) d j i=i2)(hj:Sort.scanDown (fun x=> !lt x d[a]!) d i2 j=j2)(h1:i≤i2)(h2:j2≤j) :
 Sort.partLoop lt a i j d=if j2<i2 then(j2,d) else Sort.partLoop lt a (i2+1) (j2-1) (Sort.swp d i2 j2):=by
 conv=>lhs;unfold Sort.partLoop
 simp only [hi,hj]
 split
 ·rfl
 ·rw [dif_pos (by omega)]
theorem pU{lt:Int→Int→Bool}{d:Array (Int)}{a b pv i2 j2:Nat}(hi:Sort.scanUp (fun x=>lt x (Sort.swp d a pv)[a]!) (Sort.swp d a pv) (b-1) (a+1)=i2)(hj:Sort.scanDown (fun x=> !lt x (Sort.swp d a pv)[a]!) (Sort.swp d a pv) i2 (b-1)=j2) :
 Sort.partition lt d a b pv=if j2<i2 then(j2,true,Sort.swp (Sort.swp d a pv) j2 a) else((Sort.partLoop lt a (i2+1) (j2-1) (Sort.swp (Sort.swp d a pv) i2 j2)).1,false,Sort.swp (Sort.partLoop lt a (i2+1) (j2-1) (Sort.swp (Sort.swp d a pv) i2 j2)).2 (Sort.partLoop lt a (i2+1) (j2-1) (Sort.swp (Sort.swp d a pv) i2 j2)).1 a):=by
 simp only [Sort.partition,hi,hj]
theorem ox(n a b pv:Nat)(d:Array (Int))(hn:n<4611686018427387904)(hd:d.size=n)(hap:a≤pv)(hpb:pv<b)(hb:b≤n) :
 Ctr Try.prog 82 [.slu 0 0 n,.sc (.int .i64 (a:Int)),.sc (.int .i64 (b:Int)),.sc (.int .i64 (pv:Int))] [bH n d] (fun c=>c=⟨.tup [.sc (.int .i64 ((Sort.partition bh d a b pv).1:Int)),.sc (.bool (Sort.partition bh d a b pv).2.1)],[some (bH n (Sort.partition bh d a b pv).2.2)]⟩):=by
 refine Fnc.start Try.func82 rfl rfl ?_
 (repeat(first|refine aj ?_|refine ac ?_|refine ab ?_|refine ah rfl rfl rfl ?_))
 refine aT (by kernel_rfl) (by kernel_rfl) ?_
 (repeat(first|refine ax rfl rfl rfl ?_|(refine ba (g:=fun x:Int=> .int .i64 x) rfl rfl rfl (F.ag _ rfl) rfl (by(omega)) (by(omega)) ?_)|(refine bU (g:=fun x:Int=> .int .i64 x) rfl rfl rfl (fun _=>rfl) (F.sz _ rfl) rfl (by first|omega|(simp only [zg,aw];omega)) (by first|omega|(simp only [zg,aw];omega)) ?_)|refine au (q:=a) rfl rfl rfl rfl (F.un _ rfl) (F.sz _ rfl) rfl (by omega) (by omega) (by omega) ?_|refine au (q:=pv) rfl rfl rfl rfl (F.un _ rfl) (F.sz _ rfl) rfl (by omega) (by omega) (by omega) ?_))
 (refine aF ?_);(refine⟨by kernel_rfl,?_,?_⟩);(focus(repeat(first|exact trivial|refine⟨.inl rfl,?_⟩|refine⟨.inr (by(repeat(refine⟨(by first|exact aG (F.un _ rfl) (F.sz _ rfl) rfl rfl rfl (by omega) (by omega) (by omega)|exact aB rfl),?_⟩));exact trivial),?_⟩|refine⟨.inl (by kernel_rfl),?_⟩)))
 have e0:=pU (lt:=bh) (d:=d) (a:=a) (b:=b) (pv:=pv) rfl rfl
 have hd1:(Sort.swp d a pv).size=n:=by rw [aw];exact hd
 generalize hsw:Sort.swp d a pv=d1 at e0 hd1
 have hsw':(d.setIfInBounds a d[pv]!).setIfInBounds pv d[a]! =d1:=hsw
 rw [hsw']
 (repeat(first|refine aj ?_|refine ac ?_|refine ab ?_|refine aD ?_|refine ai rfl rfl rfl ?_|refine ah rfl rfl rfl ?_|refine bj rfl rfl rfl rfl (by omega) (by omega) ?_|refine bN rfl rfl rfl rfl (by omega) (by omega) ?_))
 refine ck 1 (fun x:Nat=> [(0,.slu 0 0 n),(1,.sc (.int .i64 (a:Int))),(10,.sc (.int .i64 (x:Int))),(11,.sc (.int .i64 ((b-1:Nat):Int)))]) (fun _=> [some (bH n d1)]) (fun x=>a+1≤x∧x≤n∧Sort.scanUp (fun y=>bh y d1[a]!) d1 (b-1) x=Sort.scanUp (fun y=>bh y d1[a]!) d1 (b-1) (a+1)) (fun x=>n-x) (a+1) []
  1 (fun x:Nat=> [(0,.slu 0 0 n),(1,.sc (.int .i64 (a:Int))),(10,.sc (.int .i64 (x:Int))),(11,.sc (.int .i64 ((b-1:Nat):Int)))]) (fun _=> [some (bH n d1)]) (fun x=>a+1≤x∧x≤n∧Sort.scanUp (fun y=>bh y d1[a]!) d1 (b-1) (a+1)=x)
  (fun _=>rfl) (fun _=>rfl) ⟨zA _,by omega,rfl⟩ ?_ (fun _=>rfl) (fun _=>rfl) ?_ ?_
 ·(refine⟨(ExtOk.of rfl),rfl,(by repeat(first|exact trivial|refine⟨rfl,?_⟩|refine⟨cp (by(omega)),?_⟩)),(by repeat(first|exact trivial|refine⟨am rfl,?_⟩))⟩)
 ·rintro i1 ⟨hii,hi1,hu⟩ ihu out
  (repeat(refine aj ?_))
  refine aT (by kernel_rfl) (by kernel_rfl) ?_
  (repeat(refine ax rfl rfl rfl ?_))
  refine dJ rfl rfl rfl rfl ?_ ?_
  all_goals intro h1
  ·have hls_h2:=ey (d1[i1]!) (d1[a]!)
   cases h2:bh (d1[i1]!) (d1[a]!)
   all_goals rw [h2] at hls_h2
   rotate_left
   all_goals(repeat(first|refine ax rfl rfl rfl ?_|refine bK rfl rfl rfl rfl ?_|(refine ba (g:=fun x:Int=> .int .i64 x) rfl rfl rfl (F.ag _ rfl) rfl (by(omega)) (by(omega)) ?_)|refine au (q:=a) rfl rfl rfl rfl (F.un _ rfl) (F.sz _ rfl) rfl (by omega) (by omega) (by omega) ?_|refine au (q:=i1) rfl rfl rfl rfl (F.un _ rfl) (F.sz _ rfl) rfl (by omega) (by omega) (by omega) ?_|refine aY rfl rfl rfl (by kernel_rfl) (Ctr.callV (hls_h2) [] rfl (ExtOk.of rfl) rfl trivial rfl) ?_))
   ·skip
    (refine aF ?_);(refine⟨by kernel_rfl,?_,?_⟩);(focus(repeat(first|exact trivial|refine⟨.inl rfl,?_⟩|refine⟨.inr (by(repeat(refine⟨(by first|exact aG (F.un _ rfl) (F.sz _ rfl) rfl rfl rfl (by omega) (by omega) (by omega)|exact aB rfl|exact aX rfl rfl),?_⟩));exact trivial),?_⟩|refine⟨.inl (by kernel_rfl),?_⟩)))
    (repeat(first|refine ac ?_|refine ab ?_|refine aD ?_|refine ay ?_|refine aE ?_|refine ar rfl ?_|refine ai rfl rfl rfl ?_|refine ah rfl rfl rfl ?_|refine bj rfl rfl rfl rfl (by omega) (by omega) ?_))
    refine ihu _ _ _ (i1+1) [] ⟨by omega,by omega,?_⟩ (by omega) ?_
    ·rw [← hu]
     exact(gU (by omega) (by simpa [bh] using h2)).symm
    ·(refine⟨(ExtOk.of rfl),rfl,(by repeat(first|exact trivial|refine⟨rfl,?_⟩)),(by repeat(first|exact trivial|refine⟨am rfl,?_⟩))⟩)
   ·skip
    (refine aF ?_);(refine⟨by kernel_rfl,?_,?_⟩);(focus(repeat(first|exact trivial|refine⟨.inl rfl,?_⟩|refine⟨.inr (by(repeat(refine⟨(by first|exact aG (F.un _ rfl) (F.sz _ rfl) rfl rfl rfl (by omega) (by omega) (by omega)|exact aB rfl|exact aX rfl rfl),?_⟩));exact trivial),?_⟩|refine⟨.inl (by kernel_rfl),?_⟩)))
    (repeat(first|(refine out _ _ _ i1 [] ⟨hii,hi1,by rw [← hu];exact cU (.inr (by simpa [bh] using h2))⟩ ?_;(refine⟨(ExtOk.of rfl),rfl,(by repeat(first|exact trivial|refine⟨rfl,?_⟩)),(by repeat(first|exact trivial|refine⟨am rfl,?_⟩))⟩))|refine aU rfl ?_|refine an rfl ?_))
  ·(repeat(first|refine ax rfl rfl rfl ?_|refine bL rfl rfl rfl rfl ?_|refine cd rfl rfl ?_))
   (refine aF ?_);(refine⟨by kernel_rfl,?_,?_⟩);(focus(repeat(first|exact trivial|refine⟨.inl rfl,?_⟩)))
   (repeat(first|(refine out _ _ _ i1 [] ⟨hii,hi1,by rw [← hu];exact cU (.inl (by omega))⟩ ?_;(refine⟨(ExtOk.of rfl),rfl,(by repeat(first|exact trivial|refine⟨rfl,?_⟩)),(by repeat(first|exact trivial|refine⟨am rfl,?_⟩))⟩))|refine aU rfl ?_|refine an rfl ?_))
 rintro i2 ⟨hii,hi2,hu⟩
 rw [hu] at e0
 (repeat(first|refine aj ?_|refine aD ?_))
 refine ck 1 (fun x:Nat=> [(0,.slu 0 0 n),(1,.sc (.int .i64 (a:Int))),(10,.sc (.int .i64 (i2:Int))),(11,.sc (.int .i64 (x:Int)))]) (fun _=> [some (bH n d1)]) (fun x=>x≤b-1∧Sort.scanDown (fun y=> !bh y d1[a]!) d1 i2 x=Sort.scanDown (fun y=> !bh y d1[a]!) d1 i2 (b-1)) (fun x=>x) (b-1) []
  1 (fun x:Nat=> [(0,.slu 0 0 n),(1,.sc (.int .i64 (a:Int))),(10,.sc (.int .i64 (i2:Int))),(11,.sc (.int .i64 (x:Int)))]) (fun _=> [some (bH n d1)]) (fun x=>x≤b-1∧Sort.scanDown (fun y=> !bh y d1[a]!) d1 i2 (b-1)=x)
  (fun _=>rfl) (fun _=>rfl) ⟨zA _,rfl⟩ ?_ (fun _=>rfl) (fun _=>rfl) ?_ ?_
 ·(refine⟨(ExtOk.of rfl),rfl,(by repeat(first|exact trivial|refine⟨rfl,?_⟩)),(by repeat(first|exact trivial|refine⟨am rfl,?_⟩))⟩)
 ·rintro j1 ⟨hjj,hv⟩ ihv out
  (repeat(refine aj ?_))
  refine aT (by kernel_rfl) (by kernel_rfl) ?_
  (repeat(refine ax rfl rfl rfl ?_))
  refine dJ rfl rfl rfl rfl ?_ ?_
  all_goals intro h1
  ·have hls_h2:=ey (d1[j1]!) (d1[a]!)
   cases h2:bh (d1[j1]!) (d1[a]!)
   all_goals rw [h2] at hls_h2
   rotate_left
   all_goals(repeat(first|refine ax rfl rfl rfl ?_|refine bK rfl rfl rfl rfl ?_|refine cl rfl rfl rfl ?_|(refine ba (g:=fun x:Int=> .int .i64 x) rfl rfl rfl (F.ag _ rfl) rfl (by(omega)) (by(omega)) ?_)|refine au (q:=a) rfl rfl rfl rfl (F.un _ rfl) (F.sz _ rfl) rfl (by omega) (by omega) (by omega) ?_|refine au (q:=j1) rfl rfl rfl rfl (F.un _ rfl) (F.sz _ rfl) rfl (by omega) (by omega) (by omega) ?_|refine aY rfl rfl rfl (by kernel_rfl) (Ctr.callV (hls_h2) [] rfl (ExtOk.of rfl) rfl trivial rfl) ?_))
   ·skip
    (refine aF ?_);(refine⟨by kernel_rfl,?_,?_⟩);(focus(repeat(first|exact trivial|refine⟨.inl rfl,?_⟩|refine⟨.inr (by(repeat(refine⟨(by first|exact bD rfl|exact aG (F.un _ rfl) (F.sz _ rfl) rfl rfl rfl (by omega) (by omega) (by omega)|exact aB rfl|exact aX rfl rfl),?_⟩));exact trivial),?_⟩|refine⟨.inl (by kernel_rfl),?_⟩)))
    (repeat(first|(refine out _ _ _ j1 [] ⟨hjj,by rw [← hv];exact co (.inr (by simpa [bh] using h2))⟩ ?_;(refine⟨(ExtOk.of rfl),rfl,(by repeat(first|exact trivial|refine⟨rfl,?_⟩)),(by repeat(first|exact trivial|refine⟨am rfl,?_⟩))⟩))|refine aU rfl ?_|refine an rfl ?_))
   ·skip
    (refine aF ?_);(refine⟨by kernel_rfl,?_,?_⟩);(focus(repeat(first|exact trivial|refine⟨.inl rfl,?_⟩|refine⟨.inr (by(repeat(refine⟨(by first|exact bD rfl|exact aG (F.un _ rfl) (F.sz _ rfl) rfl rfl rfl (by omega) (by omega) (by omega)|exact aB rfl|exact aX rfl rfl),?_⟩));exact trivial),?_⟩|refine⟨.inl (by kernel_rfl),?_⟩)))
    (repeat(first|refine ac ?_|refine ab ?_|refine aD ?_|refine ay ?_|refine aE ?_|refine ar rfl ?_|refine ai rfl rfl rfl ?_|refine ah rfl rfl rfl ?_|refine bN rfl rfl rfl rfl (by omega) (by omega) ?_))
    obtain⟨j1,rfl⟩: ∃ j',j1=j'+1:=⟨j1-1,by omega⟩
    refine ihv _ _ _ j1 [] ⟨by omega,?_⟩ (by omega) ?_
    ·rw [← hv]
     exact(fE (by omega) (by simpa [bh] using h2)).symm
    ·(refine⟨(ExtOk.of rfl),rfl,(by repeat(first|exact trivial|refine⟨rfl,?_⟩|refine⟨cp (by(omega)),?_⟩)),(by repeat(first|exact trivial|refine⟨am rfl,?_⟩))⟩)
  ·(repeat(first|refine ax rfl rfl rfl ?_|refine bL rfl rfl rfl rfl ?_|refine cd rfl rfl ?_))
   (refine aF ?_);(refine⟨by kernel_rfl,?_,?_⟩);(focus(repeat(first|exact trivial|refine⟨.inl rfl,?_⟩)))
   (repeat(first|(refine out _ _ _ j1 [] ⟨hjj,by rw [← hv];exact co (.inl (by omega))⟩ ?_;(refine⟨(ExtOk.of rfl),rfl,(by repeat(first|exact trivial|refine⟨rfl,?_⟩)),(by repeat(first|exact trivial|refine⟨am rfl,?_⟩))⟩))|refine aU rfl ?_|refine an rfl ?_))
 rintro j2 ⟨hjj,hv⟩
 rw [hv] at e0
 (repeat(first|refine aj ?_|refine ac ?_|refine ai rfl rfl rfl ?_))
 refine dB rfl rfl rfl rfl ?_ ?_
 all_goals intro h3
 ·rw [if_pos (by omega)] at e0
  rw [e0]
  (repeat(first|refine aj ?_|refine ab ?_|refine ar rfl ?_))
  refine aT (by kernel_rfl) (by kernel_rfl) ?_
  (repeat(first|refine ax rfl rfl rfl ?_|(refine ba (g:=fun x:Int=> .int .i64 x) rfl rfl rfl (F.ag _ rfl) rfl (by(omega)) (by(omega)) ?_)|(refine bU (g:=fun x:Int=> .int .i64 x) rfl rfl rfl (fun _=>rfl) (F.sz _ rfl) rfl (by first|omega|(simp only [zg,aw];omega)) (by first|omega|(simp only [zg,aw];omega)) ?_)|refine au (q:=a) rfl rfl rfl rfl (F.un _ rfl) (F.sz _ rfl) rfl (by omega) (by omega) (by omega) ?_|refine au (q:=j2) rfl rfl rfl rfl (F.un _ rfl) (F.sz _ rfl) rfl (by omega) (by omega) (by omega) ?_))
  (refine aF ?_);(refine⟨by kernel_rfl,?_,?_⟩);(focus(repeat(first|exact trivial|refine⟨.inl rfl,?_⟩|refine⟨.inr (by(repeat(refine⟨(by first|exact aG (F.un _ rfl) (F.sz _ rfl) rfl rfl rfl (by omega) (by omega) (by omega)|exact aB rfl),?_⟩));exact trivial),?_⟩|refine⟨.inl (by kernel_rfl),?_⟩)))
  (repeat(first|refine aj ?_|refine ac ?_|refine ab ?_|refine ai rfl rfl rfl ?_|refine ah rfl rfl rfl ?_))
  ((apply aS Try.func82 (congrArg Array.toList Try.results82));(focus(repeat(first|exact ResIs.nil|apply ResIs.tmp rfl)));refine⟨_,rfl,Ends.mk [] (ExtOk.of rfl) rfl rfl ?_⟩)
  exact(by repeat(first|exact trivial|refine⟨am rfl,?_⟩))
 rw [if_neg (by omega)] at e0
 rw [e0]
 (repeat(first|refine aj ?_|refine ab ?_|refine aE ?_|refine an rfl ?_))
 refine aT (by kernel_rfl) (by kernel_rfl) ?_
 (repeat(first|refine ax rfl rfl rfl ?_|(refine ba (g:=fun x:Int=> .int .i64 x) rfl rfl rfl (F.ag _ rfl) rfl (by(omega)) (by(omega)) ?_)|(refine bU (g:=fun x:Int=> .int .i64 x) rfl rfl rfl (fun _=>rfl) (F.sz _ rfl) rfl (by first|omega|(simp only [zg,aw];omega)) (by first|omega|(simp only [zg,aw];omega)) ?_)|refine au (q:=i2) rfl rfl rfl rfl (F.un _ rfl) (F.sz _ rfl) rfl (by omega) (by omega) (by omega) ?_|refine au (q:=j2) rfl rfl rfl rfl (F.un _ rfl) (F.sz _ rfl) rfl (by omega) (by omega) (by omega) ?_))
 (refine aF ?_);(refine⟨by kernel_rfl,?_,?_⟩);(focus(repeat(first|exact trivial|refine⟨.inl rfl,?_⟩|refine⟨.inr (by(repeat(refine⟨(by first|exact aG (F.un _ rfl) (F.sz _ rfl) rfl rfl rfl (by omega) (by omega) (by omega)|exact aB rfl),?_⟩));exact trivial),?_⟩|refine⟨.inl (by kernel_rfl),?_⟩)))
 (repeat(first|refine aj ?_|refine ac ?_|refine ab ?_|refine aD ?_|refine ai rfl rfl rfl ?_|refine ah rfl rfl rfl ?_|refine bj rfl rfl rfl rfl (by omega) (by omega) ?_|refine bN rfl rfl rfl rfl (by omega) (by omega) ?_))
 refine ck 1 (fun s:(Nat×Nat)×Array (Int)=> [(0,.slu 0 0 n),(1,.sc (.int .i64 (a:Int))),(10,.sc (.int .i64 (s.1.1:Int))),(11,.sc (.int .i64 (s.1.2:Int)))]) (fun s=> [some (bH n s.2)]) (fun s=>a<s.1.1∧s.1.1≤n∧s.1.2<n∧s.2.size=n∧Sort.partLoop bh a s.1.1 s.1.2 s.2=Sort.partLoop bh a (i2+1) (j2-1) (Sort.swp d1 i2 j2)) (fun s=>s.1.2+1-s.1.1) ((i2+1,j2-1),Sort.swp d1 i2 j2) []
  1 (fun s:Nat×Array (Int)=> [(0,.slu 0 0 n),(1,.sc (.int .i64 (a:Int))),(11,.sc (.int .i64 (s.1:Int)))]) (fun s=> [some (bH n s.2)]) (fun s=>s.1<n∧s.2.size=n∧Sort.partLoop bh a (i2+1) (j2-1) (Sort.swp d1 i2 j2)=s)
  (fun _=>rfl) (fun _=>rfl) ⟨by simp only;omega,by simp only;omega,by simp only;omega,by rw [aw];exact hd1,rfl⟩ ?_ (fun _=>rfl) (fun _=>rfl) ?_ ?_
 ·(refine⟨(ExtOk.of rfl),rfl,(by repeat(first|exact trivial|refine⟨rfl,?_⟩|refine⟨cp (by(simp only;omega)),?_⟩)),(by repeat(first|exact trivial|refine⟨am rfl,?_⟩))⟩)
 ·rintro⟨⟨i,j⟩,d3⟩ ⟨hai,hi,hj,hd3,ho⟩ ih outer
  simp only at hai hi hj hd3 ho ih ⊢
  (repeat(first|refine aj ?_|refine aD ?_))
  refine ck 1 (fun x:Nat=> [(0,.slu 0 0 n),(1,.sc (.int .i64 (a:Int))),(10,.sc (.int .i64 (x:Int))),(11,.sc (.int .i64 (j:Int)))]) (fun _=> [some (bH n d3)]) (fun x=>i≤x∧x≤n∧Sort.scanUp (fun y=>bh y d3[a]!) d3 j x=Sort.scanUp (fun y=>bh y d3[a]!) d3 j i) (fun x=>n-x) i []
   1 (fun x:Nat=> [(0,.slu 0 0 n),(1,.sc (.int .i64 (a:Int))),(10,.sc (.int .i64 (x:Int))),(11,.sc (.int .i64 (j:Int)))]) (fun _=> [some (bH n d3)]) (fun x=>i≤x∧x≤n∧Sort.scanUp (fun y=>bh y d3[a]!) d3 j i=x)
   (fun _=>rfl) (fun _=>rfl) ⟨zA _,hi,rfl⟩ ?_ (fun _=>rfl) (fun _=>rfl) ?_ ?_
  ·(refine⟨(ExtOk.of rfl),rfl,(by repeat(first|exact trivial|refine⟨rfl,?_⟩)),(by repeat(first|exact trivial|refine⟨am rfl,?_⟩))⟩)
  ·rintro i1 ⟨hii,hi1,hu⟩ ihu out
   (repeat(refine aj ?_))
   refine aT (by kernel_rfl) (by kernel_rfl) ?_
   (repeat(refine ax rfl rfl rfl ?_))
   refine dJ rfl rfl rfl rfl ?_ ?_
   all_goals intro h1
   ·have hls_h2:=ey (d3[i1]!) (d3[a]!)
    cases h2:bh (d3[i1]!) (d3[a]!)
    all_goals rw [h2] at hls_h2
    rotate_left
    all_goals(repeat(first|refine ax rfl rfl rfl ?_|refine bK rfl rfl rfl rfl ?_|(refine ba (g:=fun x:Int=> .int .i64 x) rfl rfl rfl (F.ag _ rfl) rfl (by(omega)) (by(omega)) ?_)|refine au (q:=a) rfl rfl rfl rfl (F.un _ rfl) (F.sz _ rfl) rfl (by omega) (by omega) (by omega) ?_|refine au (q:=i1) rfl rfl rfl rfl (F.un _ rfl) (F.sz _ rfl) rfl (by omega) (by omega) (by omega) ?_|refine aY rfl rfl rfl (by kernel_rfl) (Ctr.callV (hls_h2) [] rfl (ExtOk.of rfl) rfl trivial rfl) ?_))
    ·skip
     (refine aF ?_);(refine⟨by kernel_rfl,?_,?_⟩);(focus(repeat(first|exact trivial|refine⟨.inl rfl,?_⟩|refine⟨.inr (by(repeat(refine⟨(by first|exact aG (F.un _ rfl) (F.sz _ rfl) rfl rfl rfl (by omega) (by omega) (by omega)|exact aB rfl|exact aX rfl rfl),?_⟩));exact trivial),?_⟩|refine⟨.inl (by kernel_rfl),?_⟩)))
     (repeat(first|refine ac ?_|refine ab ?_|refine aD ?_|refine ay ?_|refine aE ?_|refine ar rfl ?_|refine ai rfl rfl rfl ?_|refine ah rfl rfl rfl ?_|refine bj rfl rfl rfl rfl (by omega) (by omega) ?_))
     refine ihu _ _ _ (i1+1) [] ⟨by omega,by omega,?_⟩ (by omega) ?_
     ·rw [← hu]
      exact(gU (by omega) (by simpa [bh] using h2)).symm
     ·(refine⟨(ExtOk.of rfl),rfl,(by repeat(first|exact trivial|refine⟨rfl,?_⟩)),(by repeat(first|exact trivial|refine⟨am rfl,?_⟩))⟩)
    ·skip
     (refine aF ?_);(refine⟨by kernel_rfl,?_,?_⟩);(focus(repeat(first|exact trivial|refine⟨.inl rfl,?_⟩|refine⟨.inr (by(repeat(refine⟨(by first|exact aG (F.un _ rfl) (F.sz _ rfl) rfl rfl rfl (by omega) (by omega) (by omega)|exact aB rfl|exact aX rfl rfl),?_⟩));exact trivial),?_⟩|refine⟨.inl (by kernel_rfl),?_⟩)))
     (repeat(first|(refine out _ _ _ i1 [] ⟨hii,hi1,by rw [← hu];exact cU (.inr (by simpa [bh] using h2))⟩ ?_;(refine⟨(ExtOk.of rfl),rfl,(by repeat(first|exact trivial|refine⟨rfl,?_⟩)),(by repeat(first|exact trivial|refine⟨am rfl,?_⟩))⟩))|refine aU rfl ?_|refine an rfl ?_))
   ·(repeat(first|refine ax rfl rfl rfl ?_|refine bL rfl rfl rfl rfl ?_|refine cd rfl rfl ?_))
    (refine aF ?_);(refine⟨by kernel_rfl,?_,?_⟩);(focus(repeat(first|exact trivial|refine⟨.inl rfl,?_⟩)))
    (repeat(first|(refine out _ _ _ i1 [] ⟨hii,hi1,by rw [← hu];exact cU (.inl (by omega))⟩ ?_;(refine⟨(ExtOk.of rfl),rfl,(by repeat(first|exact trivial|refine⟨rfl,?_⟩)),(by repeat(first|exact trivial|refine⟨am rfl,?_⟩))⟩))|refine aU rfl ?_|refine an rfl ?_))
  rintro i3 ⟨hii3,hi3,hu3⟩
  (repeat(first|refine aj ?_|refine aD ?_))
  refine ck 1 (fun x:Nat=> [(0,.slu 0 0 n),(1,.sc (.int .i64 (a:Int))),(10,.sc (.int .i64 (i3:Int))),(11,.sc (.int .i64 (x:Int)))]) (fun _=> [some (bH n d3)]) (fun x=>x≤j∧Sort.scanDown (fun y=> !bh y d3[a]!) d3 i3 x=Sort.scanDown (fun y=> !bh y d3[a]!) d3 i3 (j)) (fun x=>x) (j) []
   1 (fun x:Nat=> [(0,.slu 0 0 n),(1,.sc (.int .i64 (a:Int))),(10,.sc (.int .i64 (i3:Int))),(11,.sc (.int .i64 (x:Int)))]) (fun _=> [some (bH n d3)]) (fun x=>x≤j∧Sort.scanDown (fun y=> !bh y d3[a]!) d3 i3 (j)=x)
   (fun _=>rfl) (fun _=>rfl) ⟨zA _,rfl⟩ ?_ (fun _=>rfl) (fun _=>rfl) ?_ ?_
  ·(refine⟨(ExtOk.of rfl),rfl,(by repeat(first|exact trivial|refine⟨rfl,?_⟩)),(by repeat(first|exact trivial|refine⟨am rfl,?_⟩))⟩)
  ·rintro j1 ⟨hjj,hv⟩ ihv out
   (repeat(refine aj ?_))
   refine aT (by kernel_rfl) (by kernel_rfl) ?_
   (repeat(refine ax rfl rfl rfl ?_))
   refine dJ rfl rfl rfl rfl ?_ ?_
   all_goals intro h1
   ·have hls_h2:=ey (d3[j1]!) (d3[a]!)
    cases h2:bh (d3[j1]!) (d3[a]!)
    all_goals rw [h2] at hls_h2
    rotate_left
    all_goals(repeat(first|refine ax rfl rfl rfl ?_|refine bK rfl rfl rfl rfl ?_|refine cl rfl rfl rfl ?_|(refine ba (g:=fun x:Int=> .int .i64 x) rfl rfl rfl (F.ag _ rfl) rfl (by(omega)) (by(omega)) ?_)|refine au (q:=a) rfl rfl rfl rfl (F.un _ rfl) (F.sz _ rfl) rfl (by omega) (by omega) (by omega) ?_|refine au (q:=j1) rfl rfl rfl rfl (F.un _ rfl) (F.sz _ rfl) rfl (by omega) (by omega) (by omega) ?_|refine aY rfl rfl rfl (by kernel_rfl) (Ctr.callV (hls_h2) [] rfl (ExtOk.of rfl) rfl trivial rfl) ?_))
    ·skip
     (refine aF ?_);(refine⟨by kernel_rfl,?_,?_⟩);(focus(repeat(first|exact trivial|refine⟨.inl rfl,?_⟩|refine⟨.inr (by(repeat(refine⟨(by first|exact bD rfl|exact aG (F.un _ rfl) (F.sz _ rfl) rfl rfl rfl (by omega) (by omega) (by omega)|exact aB rfl|exact aX rfl rfl),?_⟩));exact trivial),?_⟩|refine⟨.inl (by kernel_rfl),?_⟩)))
     (repeat(first|(refine out _ _ _ j1 [] ⟨hjj,by rw [← hv];exact co (.inr (by simpa [bh] using h2))⟩ ?_;(refine⟨(ExtOk.of rfl),rfl,(by repeat(first|exact trivial|refine⟨rfl,?_⟩)),(by repeat(first|exact trivial|refine⟨am rfl,?_⟩))⟩))|refine aU rfl ?_|refine an rfl ?_))
    ·skip
     (refine aF ?_);(refine⟨by kernel_rfl,?_,?_⟩);(focus(repeat(first|exact trivial|refine⟨.inl rfl,?_⟩|refine⟨.inr (by(repeat(refine⟨(by first|exact bD rfl|exact aG (F.un _ rfl) (F.sz _ rfl) rfl rfl rfl (by omega) (by omega) (by omega)|exact aB rfl|exact aX rfl rfl),?_⟩));exact trivial),?_⟩|refine⟨.inl (by kernel_rfl),?_⟩)))
     (repeat(first|refine ac ?_|refine ab ?_|refine aD ?_|refine ay ?_|refine aE ?_|refine ar rfl ?_|refine ai rfl rfl rfl ?_|refine ah rfl rfl rfl ?_|refine bN rfl rfl rfl rfl (by omega) (by omega) ?_))
     obtain⟨j1,rfl⟩: ∃ j',j1=j'+1:=⟨j1-1,by omega⟩
     refine ihv _ _ _ j1 [] ⟨by omega,?_⟩ (by omega) ?_
     ·rw [← hv]
      exact(fE (by omega) (by simpa [bh] using h2)).symm
     ·(refine⟨(ExtOk.of rfl),rfl,(by repeat(first|exact trivial|refine⟨rfl,?_⟩|refine⟨cp (by(omega)),?_⟩)),(by repeat(first|exact trivial|refine⟨am rfl,?_⟩))⟩)
   ·(repeat(first|refine ax rfl rfl rfl ?_|refine bL rfl rfl rfl rfl ?_|refine cd rfl rfl ?_))
    (refine aF ?_);(refine⟨by kernel_rfl,?_,?_⟩);(focus(repeat(first|exact trivial|refine⟨.inl rfl,?_⟩)))
    (repeat(first|(refine out _ _ _ j1 [] ⟨hjj,by rw [← hv];exact co (.inl (by omega))⟩ ?_;(refine⟨(ExtOk.of rfl),rfl,(by repeat(first|exact trivial|refine⟨rfl,?_⟩)),(by repeat(first|exact trivial|refine⟨am rfl,?_⟩))⟩))|refine aU rfl ?_|refine an rfl ?_))
  rintro j3 ⟨hjj3,hv3⟩
  have e:=ow hu3 hv3 hii3 hjj3
  (repeat(first|refine aj ?_|refine ac ?_|refine ai rfl rfl rfl ?_))
  refine dB rfl rfl rfl rfl ?_ ?_
  all_goals intro h3
  ·rw [ho,if_pos (by omega)] at e
   (repeat(first|(refine outer _ _ _ (j3,d3) [] ⟨by simp only;omega,hd3,e⟩ ?_;(refine⟨(ExtOk.of rfl),rfl,(by repeat(first|exact trivial|refine⟨rfl,?_⟩)),(by repeat(first|exact trivial|refine⟨am rfl,?_⟩))⟩))|refine ab ?_|refine aU rfl ?_|refine ar rfl ?_))
  ·rw [ho,if_neg (by omega)] at e
   (repeat(first|refine aj ?_|refine ab ?_|refine aE ?_|refine an rfl ?_))
   refine aT (by kernel_rfl) (by kernel_rfl) ?_
   (repeat(first|refine ax rfl rfl rfl ?_|(refine ba (g:=fun x:Int=> .int .i64 x) rfl rfl rfl (F.ag _ rfl) rfl (by(omega)) (by(omega)) ?_)|(refine bU (g:=fun x:Int=> .int .i64 x) rfl rfl rfl (fun _=>rfl) (F.sz _ rfl) rfl (by first|omega|(simp only [zg,aw];omega)) (by first|omega|(simp only [zg,aw];omega)) ?_)|refine au (q:=i3) rfl rfl rfl rfl (F.un _ rfl) (F.sz _ rfl) rfl (by omega) (by omega) (by omega) ?_|refine au (q:=j3) rfl rfl rfl rfl (F.un _ rfl) (F.sz _ rfl) rfl (by omega) (by omega) (by omega) ?_))
   (refine aF ?_);(refine⟨by kernel_rfl,?_,?_⟩);(focus(repeat(first|exact trivial|refine⟨.inl rfl,?_⟩|refine⟨.inr (by(repeat(refine⟨(by first|exact aG (F.un _ rfl) (F.sz _ rfl) rfl rfl rfl (by omega) (by omega) (by omega)|exact aB rfl),?_⟩));exact trivial),?_⟩|refine⟨.inl (by kernel_rfl),?_⟩)))
   (repeat(first|refine aj ?_|refine ac ?_|refine ab ?_|refine ay ?_|refine ai rfl rfl rfl ?_|refine ah rfl rfl rfl ?_|refine bj rfl rfl rfl rfl (by omega) (by omega) ?_|refine bN rfl rfl rfl rfl (by omega) (by omega) ?_))
   refine ih _ _ _ ((i3+1,j3-1),Sort.swp d3 i3 j3) [] ⟨by simp only;omega,by simp only;omega,by simp only;omega,by rw [aw];exact hd3,e.symm⟩ (by simp only;omega) ?_
   (refine⟨(ExtOk.of rfl),rfl,(by repeat(first|exact trivial|refine⟨rfl,?_⟩|refine⟨cp (by(simp only;omega)),?_⟩)),(by repeat(first|exact trivial|refine⟨am rfl,?_⟩))⟩)
 rintro⟨j3,d3⟩ ⟨hj3,hd3,e⟩
 simp only at hj3 hd3 e ⊢
 rw [e]
 (repeat(refine aj ?_))
 refine aT (by kernel_rfl) (by kernel_rfl) ?_
 (repeat(first|refine ax rfl rfl rfl ?_|(refine ba (g:=fun x:Int=> .int .i64 x) rfl rfl rfl (F.ag _ rfl) rfl (by(omega)) (by(omega)) ?_)|(refine bU (g:=fun x:Int=> .int .i64 x) rfl rfl rfl (fun _=>rfl) (F.sz _ rfl) rfl (by first|omega|(simp only [zg,aw];omega)) (by first|omega|(simp only [zg,aw];omega)) ?_)|refine au (q:=a) rfl rfl rfl rfl (F.un _ rfl) (F.sz _ rfl) rfl (by omega) (by omega) (by omega) ?_|refine au (q:=j3) rfl rfl rfl rfl (F.un _ rfl) (F.sz _ rfl) rfl (by omega) (by omega) (by omega) ?_))
 (refine aF ?_);(refine⟨by kernel_rfl,?_,?_⟩);(focus(repeat(first|exact trivial|refine⟨.inl rfl,?_⟩|refine⟨.inr (by(repeat(refine⟨(by first|exact aG (F.un _ rfl) (F.sz _ rfl) rfl rfl rfl (by omega) (by omega) (by omega)|exact aB rfl),?_⟩));exact trivial),?_⟩|refine⟨.inl (by kernel_rfl),?_⟩)))
 (repeat(first|refine aj ?_|refine ac ?_|refine ab ?_|refine ai rfl rfl rfl ?_|refine ah rfl rfl rfl ?_))
 ((apply aS Try.func82 (congrArg Array.toList Try.results82));(focus(repeat(first|exact ResIs.nil|apply ResIs.tmp rfl)));refine⟨_,rfl,Ends.mk [] (ExtOk.of rfl) rfl rfl ?_⟩)
 exact(by repeat(first|exact trivial|refine⟨am rfl,?_⟩))
theorem kB{lt:Int→Int→Bool}{d:Array (Int)}{b i:Nat}(h:i<b)(hp:lt d[i]! d[i-1]! =false):Sort.scanSorted lt d b i=Sort.scanSorted lt d b (i+1):=by
 conv=>lhs;rw [Sort.scanSorted,if_pos (by simp [h,hp])]
theorem fu{lt:Int→Int→Bool}{d:Array (Int)}{b i:Nat}(h:b≤i∨lt d[i]! d[i-1]! =true):Sort.scanSorted lt d b i=i:=by
 rw [Sort.scanSorted,if_neg]
 simp only [zy,decide_eq_true_eq,Bool.not_eq_true']
 rintro⟨h1,h2⟩
 rcases h with h|h
 ·omega
 ·rw [h] at h2;cases h2
theorem jp{lt:Int→Int→Bool}{d:Array (Int)}{b j:Nat}(h:j<b)(hp:lt d[j]! d[j-1]! =true):Sort.shiftUp lt b j d=Sort.shiftUp lt b (j+1) (Sort.swp d j (j-1)):=by
 conv=>lhs;rw [Sort.shiftUp,if_pos h,if_neg (by simp [hp])]
theorem dG{lt:Int→Int→Bool}{d:Array (Int)}{b j:Nat}(h:b≤j∨lt d[j]! d[j-1]! =false):Sort.shiftUp lt b j d=d:=by
 rw [Sort.shiftUp]
 split
 ·rename_i h1
  rw [if_pos]
  rcases h with h|h
  ·omega
  ·simp [h]
 ·rfl
theorem ou{lt:Int→Int→Bool}{a b s i i1:Nat}{d d2 d3:Array (Int)}(hi:Sort.scanSorted lt d b i=i1)(h1:i1≠b)(h2: ¬ b-a<50)
 (e2:(if i1-a≥2 then Sort.shiftDown lt (i1-1) (Sort.swp d i1 (i1-1)) else Sort.swp d i1 (i1-1))=d2) (e3:(if b-i1≥2 then Sort.shiftUp lt b (i1+1) d2 else d2)=d3):Sort.partialIns lt a b (s+1) i d=Sort.partialIns lt a b s i1 d3:=by
 rw [Sort.partialIns]
 simp only [hi,if_neg h1,if_neg h2]
 rw [e2,e3]
theorem ot{lt:Int→Int→Bool}{a b s i i1:Nat}{d:Array (Int)}(hi:Sort.scanSorted lt d b i=i1)(h1:i1=b):Sort.partialIns lt a b (s+1) i d=(d,true):=by
 rw [Sort.partialIns]
 simp only [hi,if_pos h1]
theorem mI{lt:Int→Int→Bool}{a b s i i1:Nat}{d:Array (Int)}(hi:Sort.scanSorted lt d b i=i1)(h1:i1≠b)(h2:b-a<50):Sort.partialIns lt a b (s+1) i d=(d,false):=by
 rw [Sort.partialIns]
 simp only [hi,if_neg h1,if_pos h2]
theorem ov(n a b:Nat)(d:Array (Int))(hn:n<4611686018427387904)(hd:d.size=n)(hab:a<b)(hb:b≤n) :
 Ctr Try.prog 79 [.slu 0 0 n,.sc (.int .i64 (a:Int)),.sc (.int .i64 (b:Int))] [bH n d] (fun c=>c=⟨.sc (.bool (Sort.partialInsertionSort bh d a b).2),[some (bH n (Sort.partialInsertionSort bh d a b).1)]⟩):=by
 refine Fnc.start Try.func79 rfl rfl ?_
 (repeat(first|refine aj ?_|refine ac ?_|refine ab ?_|refine aD ?_|refine ai rfl rfl rfl ?_|refine ah rfl rfl rfl ?_|refine bj rfl rfl rfl rfl (by omega) (by omega) ?_))
 refine ct 1 (fun s:(Nat×Nat)×Array (Int)=> [(0,.slu 0 0 n),(1,.sc (.int .i64 (a:Int))),(2,.sc (.int .i64 (b:Int))),(7,.sc (.int .i64 (s.1.2:Int))),(8,.sc (.int .i64 ((5-s.1.1:Nat):Int)))]) (fun s=> [some (bH n s.2)]) (fun s=>s.1.1≤5∧a+1≤s.1.2∧s.1.2≤b∧s.2.size=n∧Sort.partialIns bh a b s.1.1 s.1.2 s.2=Sort.partialInsertionSort bh d a b) (fun s=>s.1.1) ((5,a+1),d) []
  (fun _=>rfl) ⟨zA _,zA _,hab,hd,rfl⟩ ?_ (fun _=>rfl) (fun _=>rfl) ?_
 ·(refine⟨(ExtOk.of rfl),rfl,(by repeat(first|exact trivial|refine⟨rfl,?_⟩)),(by repeat(first|exact trivial|refine⟨am rfl,?_⟩))⟩)
 rintro⟨⟨s,i⟩,d0⟩ ⟨hs,hai,hi,hd0,ho⟩ ih
 simp only at hs hai hi hd0 ho ih ⊢
 (repeat(first|refine aj ?_|refine ac ?_|refine ai rfl rfl rfl ?_))
 refine cF rfl rfl rfl rfl ?_ ?_
 all_goals intro h0
 ·obtain⟨s,rfl⟩: ∃ s',s=s'+1:=⟨s-1,by omega⟩
  (repeat(first|refine aj ?_|refine ab ?_|refine aD ?_|refine aE ?_|refine ar rfl ?_))
  refine ck 1 (fun x:Nat=> [(0,.slu 0 0 n),(1,.sc (.int .i64 (a:Int))),(2,.sc (.int .i64 (b:Int))),(7,.sc (.int .i64 (x:Int))),(8,.sc (.int .i64 ((5-(s+1):Nat):Int)))]) (fun _=> [some (bH n d0)]) (fun x=>a+1≤x∧x≤b∧Sort.scanSorted bh d0 b x=Sort.scanSorted bh d0 b i) (fun x=>b-x) i []
   1 (fun x:Nat=> [(0,.slu 0 0 n),(1,.sc (.int .i64 (a:Int))),(2,.sc (.int .i64 (b:Int))),(7,.sc (.int .i64 (x:Int))),(8,.sc (.int .i64 ((5-(s+1):Nat):Int)))]) (fun _=> [some (bH n d0)]) (fun x=>a+1≤x∧x≤b∧Sort.scanSorted bh d0 b i=x)
   (fun _=>rfl) (fun _=>rfl) ⟨hai,hi,rfl⟩ ?_ (fun _=>rfl) (fun _=>rfl) ?_ ?_
  ·(refine⟨(ExtOk.of rfl),rfl,(by repeat(first|exact trivial|refine⟨rfl,?_⟩)),(by repeat(first|exact trivial|refine⟨am rfl,?_⟩))⟩)
  ·rintro i1 ⟨hai1,hi1,hu⟩ ihu out
   (repeat(refine aj ?_))
   refine aT (by kernel_rfl) (by kernel_rfl) ?_
   (repeat(refine ax rfl rfl rfl ?_))
   refine jZ rfl rfl rfl rfl ?_ ?_
   all_goals intro h1
   ·have hls_h2:=ey (d0[i1]!) (d0[i1-1]!)
    cases h2:bh (d0[i1]!) (d0[i1-1]!)
    all_goals rw [h2] at hls_h2
    rotate_left
    all_goals(repeat(first|refine ax rfl rfl rfl ?_|refine bK rfl rfl rfl rfl ?_|refine cD rfl rfl rfl rfl (by omega) (by omega) ?_|refine cl rfl rfl rfl ?_|(refine ba (g:=fun x:Int=> .int .i64 x) rfl rfl rfl (F.ag _ rfl) rfl (by(omega)) (by(omega)) ?_)|refine au (q:=i1) rfl rfl rfl rfl (F.un _ rfl) (F.sz _ rfl) rfl (by omega) (by omega) (by omega) ?_|refine au (q:=i1-1) rfl rfl rfl rfl (F.un _ rfl) (F.sz _ rfl) rfl (by omega) (by omega) (by omega) ?_|refine aY rfl rfl rfl (by kernel_rfl) (Ctr.callV (hls_h2) [] rfl (ExtOk.of rfl) rfl trivial rfl) ?_))
    ·skip
     (refine aF ?_);(refine⟨by kernel_rfl,?_,?_⟩);(focus(repeat(first|exact trivial|refine⟨.inl rfl,?_⟩|refine⟨.inr (by(repeat(refine⟨(by first|exact bD rfl|exact aG (F.un _ rfl) (F.sz _ rfl) rfl rfl rfl (by omega) (by omega) (by omega)|exact aL rfl rfl (.inr (.inl ⟨rfl,(zf _ ⟨by omega,by omega⟩).symm⟩))|exact aB rfl|exact aX rfl rfl),?_⟩));exact trivial),?_⟩|refine⟨.inl (by kernel_rfl),?_⟩)))
     (repeat(first|(refine out _ _ _ i1 [] ⟨hai1,hi1,by rw [← hu];exact fu (.inr (by simpa [bh] using h2))⟩ ?_;(refine⟨(ExtOk.of rfl),rfl,(by repeat(first|exact trivial|refine⟨rfl,?_⟩)),(by repeat(first|exact trivial|refine⟨am rfl,?_⟩))⟩))|refine aU rfl ?_|refine an rfl ?_))
    ·skip
     (refine aF ?_);(refine⟨by kernel_rfl,?_,?_⟩);(focus(repeat(first|exact trivial|refine⟨.inl rfl,?_⟩|refine⟨.inr (by(repeat(refine⟨(by first|exact bD rfl|exact aG (F.un _ rfl) (F.sz _ rfl) rfl rfl rfl (by omega) (by omega) (by omega)|exact aL rfl rfl (.inr (.inl ⟨rfl,(zf _ ⟨by omega,by omega⟩).symm⟩))|exact aB rfl|exact aX rfl rfl),?_⟩));exact trivial),?_⟩|refine⟨.inl (by kernel_rfl),?_⟩)))
     (repeat(first|refine ac ?_|refine ab ?_|refine aD ?_|refine ay ?_|refine aE ?_|refine ar rfl ?_|refine ai rfl rfl rfl ?_|refine ah rfl rfl rfl ?_|refine bj rfl rfl rfl rfl (by omega) (by omega) ?_))
     refine ihu _ _ _ (i1+1) [] ⟨by omega,by omega,?_⟩ (by omega) ?_
     ·rw [← hu]
      exact(kB (by omega) (by simpa [bh] using h2)).symm
     ·(refine⟨(ExtOk.of rfl),rfl,(by repeat(first|exact trivial|refine⟨rfl,?_⟩)),(by repeat(first|exact trivial|refine⟨am rfl,?_⟩))⟩)
   ·(repeat(first|refine ax rfl rfl rfl ?_|refine bL rfl rfl rfl rfl ?_|refine cd rfl rfl ?_))
    (refine aF ?_);(refine⟨by kernel_rfl,?_,?_⟩);(focus(repeat(first|exact trivial|refine⟨.inl rfl,?_⟩)))
    (repeat(first|(refine out _ _ _ i1 [] ⟨hai1,hi1,by rw [← hu];exact fu (.inl (by omega))⟩ ?_;(refine⟨(ExtOk.of rfl),rfl,(by repeat(first|exact trivial|refine⟨rfl,?_⟩)),(by repeat(first|exact trivial|refine⟨am rfl,?_⟩))⟩))|refine aU rfl ?_|refine an rfl ?_))
  rintro i1 ⟨hai1,hi1,hu⟩
  (repeat(first|refine aj ?_|refine ac ?_|refine ai rfl rfl rfl ?_))
  refine cP rfl rfl rfl rfl ?_ ?_
  all_goals intro h1
  ·rw [ot hu (by omega)] at ho
   (repeat(first|refine aj ?_|refine ac ?_|refine ab ?_|refine ar rfl ?_|refine ah rfl rfl rfl ?_))
   rw [← ho]
   ((apply aS Try.func79 (congrArg Array.toList Try.results79));(focus(repeat(first|exact ResIs.nil|apply ResIs.tmp rfl)));refine⟨_,rfl,Ends.mk [] (ExtOk.of rfl) rfl rfl ?_⟩)
   exact(by repeat(first|exact trivial|refine⟨am rfl,?_⟩))
  (repeat(first|refine aj ?_|refine ac ?_|refine ab ?_|refine aE ?_|refine an rfl ?_|refine ai rfl rfl rfl ?_|refine bN rfl rfl rfl rfl (by omega) (by omega) ?_))
  refine cF rfl rfl rfl rfl ?_ ?_
  all_goals intro h2
  ·rw [mI hu (by omega) (by omega)] at ho
   (repeat(first|refine aj ?_|refine ac ?_|refine ab ?_|refine ar rfl ?_|refine ah rfl rfl rfl ?_))
   rw [← ho]
   ((apply aS Try.func79 (congrArg Array.toList Try.results79));(focus(repeat(first|exact ResIs.nil|apply ResIs.tmp rfl)));refine⟨_,rfl,Ends.mk [] (ExtOk.of rfl) rfl rfl ?_⟩)
   exact(by repeat(first|exact trivial|refine⟨am rfl,?_⟩))
  (repeat(first|refine aj ?_|refine ab ?_|refine aE ?_|refine an rfl ?_))
  refine aT (by kernel_rfl) (by kernel_rfl) ?_
  (repeat(first|refine ax rfl rfl rfl ?_|refine cD rfl rfl rfl rfl (by omega) (by omega) ?_|(refine ba (g:=fun x:Int=> .int .i64 x) rfl rfl rfl (F.ag _ rfl) rfl (by(omega)) (by(omega)) ?_)|(refine bU (g:=fun x:Int=> .int .i64 x) rfl rfl rfl (fun _=>rfl) (F.sz _ rfl) rfl (by first|omega|(simp only [zg,aw];omega)) (by first|omega|(simp only [zg,aw];omega)) ?_)|refine au (q:=i1) rfl rfl rfl rfl (F.un _ rfl) (F.sz _ rfl) rfl (by omega) (by omega) (by omega) ?_|refine au (q:=i1-1) rfl rfl rfl rfl (F.un _ rfl) (F.sz _ rfl) rfl (by omega) (by omega) (by omega) ?_))
  (refine aF ?_);(refine⟨by kernel_rfl,?_,?_⟩);(focus(repeat(first|exact trivial|refine⟨.inl rfl,?_⟩|refine⟨.inr (by(repeat(refine⟨(by first|exact aG (F.un _ rfl) (F.sz _ rfl) rfl rfl rfl (by omega) (by omega) (by omega)|exact aL rfl rfl (.inr (.inl ⟨rfl,(zf _ ⟨by omega,by omega⟩).symm⟩))|exact aB rfl),?_⟩));exact trivial),?_⟩|refine⟨.inl (by kernel_rfl),?_⟩)))
  have hd1:(Sort.swp d0 i1 (i1-1)).size=n:=by rw [aw];exact hd0
  have e2: ∃ d2,(if i1-a≥2 then Sort.shiftDown bh (i1-1) (Sort.swp d0 i1 (i1-1)) else Sort.swp d0 i1 (i1-1))=d2:=⟨_,rfl⟩
  obtain⟨d2,e2⟩:=e2
  have hps:=fun d3 e3=>ou (s:=s) (d3:=d3) hu (by omega) (by omega) e2 e3
  generalize hsw:Sort.swp d0 i1 (i1-1)=d1 at e2 hd1
  have hsw':(d0.setIfInBounds i1 d0[i1-1]!).setIfInBounds (i1-1) d0[i1]! =d1:=hsw
  rw [hsw']
  (repeat(first|refine aj ?_|refine ac ?_|refine ai rfl rfl rfl ?_|refine bN rfl rfl rfl rfl (by omega) (by omega) ?_))
  refine cw rfl rfl rfl rfl ?_ ?_
  all_goals intro h3
  ·rw [if_pos (by omega)] at e2
   (repeat(first|refine aj ?_|refine ac ?_|refine ab ?_|refine aD ?_|refine ar rfl ?_|refine ai rfl rfl rfl ?_|refine ah rfl rfl rfl ?_|refine bN rfl rfl rfl rfl (by omega) (by omega) ?_))
   refine ck 1 (fun s1:Nat×Array (Int)=> [(0,.slu 0 0 n),(1,.sc (.int .i64 (a:Int))),(2,.sc (.int .i64 (b:Int))),(7,.sc (.int .i64 (i1:Int))),(8,.sc (.int .i64 ((5-(s+1):Nat):Int))),(9,.sc (.int .i64 (s1.1:Int)))]) (fun s1=> [some (bH n s1.2)]) (fun s1=>s1.1≤i1-1∧s1.2.size=n∧Sort.shiftDown bh s1.1 s1.2=d2) (fun s1=>s1.1) (i1-1,d1) []
    1 (fun d':Array (Int)=> [(0,.slu 0 0 n),(1,.sc (.int .i64 (a:Int))),(2,.sc (.int .i64 (b:Int))),(7,.sc (.int .i64 (i1:Int))),(8,.sc (.int .i64 ((5-(s+1):Nat):Int)))]) (fun d'=> [some (bH n d')]) (fun d'=>d'.size=n∧d'=d2)
    (fun _=>rfl) (fun _=>rfl) ⟨zA _,hd1,e2⟩ ?_ (fun _=>rfl) (fun _=>rfl) ?_ ?_
   ·(refine⟨(ExtOk.of rfl),rfl,(by repeat(first|exact trivial|refine⟨rfl,?_⟩|refine⟨cp (by(omega)),?_⟩)),(by repeat(first|exact trivial|refine⟨am rfl,?_⟩))⟩)
   ·rintro⟨j,d'⟩ ⟨hj,hd',hsd⟩ ihd out
    simp only at hj hd' hsd ihd ⊢
    (repeat(first|refine aj ?_|refine ac ?_|refine ai rfl rfl rfl ?_))
    refine cw rfl rfl rfl rfl ?_ ?_
    all_goals intro h4
    ·obtain⟨j,rfl⟩: ∃ j',j=j'+1:=⟨j-1,by omega⟩
     (repeat(first|refine aj ?_|refine ab ?_|refine aD ?_|refine aE ?_|refine ar rfl ?_))
     refine aT (by kernel_rfl) (by kernel_rfl) ?_
     have hls_h5:=ey (d'[j+1]!) (d'[j]!)
     cases h5:bh (d'[j+1]!) (d'[j]!)
     all_goals rw [h5] at hls_h5
     rotate_left
     all_goals(repeat(first|refine ax rfl rfl rfl ?_|refine cD rfl rfl rfl rfl (by omega) (by omega) ?_|refine cl rfl rfl rfl ?_|(refine ba (g:=fun x:Int=> .int .i64 x) rfl rfl rfl (F.ag _ rfl) rfl (by(omega)) (by(omega)) ?_)|refine au (q:=j+1) rfl rfl rfl rfl (F.un _ rfl) (F.sz _ rfl) rfl (by omega) (by omega) (by omega) ?_|refine au (q:=j) rfl rfl rfl rfl (F.un _ rfl) (F.sz _ rfl) rfl (by omega) (by omega) (by omega) ?_|refine aY rfl rfl rfl (by kernel_rfl) (Ctr.callV (hls_h5) [] rfl (ExtOk.of rfl) rfl trivial rfl) ?_))
     ·skip
      (refine aF ?_);(refine⟨by kernel_rfl,?_,?_⟩);(focus(repeat(first|exact trivial|refine⟨.inl rfl,?_⟩|refine⟨.inr (by(repeat(refine⟨(by first|exact bD rfl|exact aG (F.un _ rfl) (F.sz _ rfl) rfl rfl rfl (by omega) (by omega) (by omega)|exact aL rfl rfl (.inr (.inl ⟨rfl,(zf _ ⟨by omega,by omega⟩).symm⟩))|exact aB rfl),?_⟩));exact trivial),?_⟩|refine⟨.inl (by kernel_rfl),?_⟩)))
      (repeat(first|refine aE ?_|refine an rfl ?_))
      refine aT (by kernel_rfl) (by kernel_rfl) ?_
      (repeat(first|refine ax rfl rfl rfl ?_|refine cD rfl rfl rfl rfl (by omega) (by omega) ?_|(refine ba (g:=fun x:Int=> .int .i64 x) rfl rfl rfl (F.ag _ rfl) rfl (by(omega)) (by(omega)) ?_)|(refine bU (g:=fun x:Int=> .int .i64 x) rfl rfl rfl (fun _=>rfl) (F.sz _ rfl) rfl (by first|omega|(simp only [zg,aw];omega)) (by first|omega|(simp only [zg,aw];omega)) ?_)|refine au (q:=j+1) rfl rfl rfl rfl (F.un _ rfl) (F.sz _ rfl) rfl (by omega) (by omega) (by omega) ?_|refine au (q:=j) rfl rfl rfl rfl (F.un _ rfl) (F.sz _ rfl) rfl (by omega) (by omega) (by omega) ?_))
      (refine aF ?_);(refine⟨by kernel_rfl,?_,?_⟩);(focus(repeat(first|exact trivial|refine⟨.inl rfl,?_⟩|refine⟨.inr (by(repeat(refine⟨(by first|exact aG (F.un _ rfl) (F.sz _ rfl) rfl rfl rfl (by omega) (by omega) (by omega)|exact aL rfl rfl (.inr (.inl ⟨rfl,(zf _ ⟨by omega,by omega⟩).symm⟩))|exact aB rfl),?_⟩));exact trivial),?_⟩|refine⟨.inl (by kernel_rfl),?_⟩)))
      (repeat(first|refine ac ?_|refine ab ?_|refine ay ?_|refine ai rfl rfl rfl ?_|refine ah rfl rfl rfl ?_|refine bN rfl rfl rfl rfl (by omega) (by omega) ?_))
      refine ihd _ _ _ (j,Sort.swp d' (j+1) j) [] ⟨by simp only;omega,by rw [aw];exact hd',?_⟩ (by simp only;omega) ?_
      ·rw [← hsd]
       conv=>rhs;rw [Sort.shiftDown,if_neg (by simpa [bh] using h5)]
      ·(refine⟨(ExtOk.of rfl),rfl,(by repeat(first|exact trivial|refine⟨rfl,?_⟩|refine⟨cp (by(omega)),?_⟩)),(by repeat(first|exact trivial|refine⟨am rfl,?_⟩))⟩)
     ·skip
      (refine aF ?_);(refine⟨by kernel_rfl,?_,?_⟩);(focus(repeat(first|exact trivial|refine⟨.inl rfl,?_⟩|refine⟨.inr (by(repeat(refine⟨(by first|exact bD rfl|exact aG (F.un _ rfl) (F.sz _ rfl) rfl rfl rfl (by omega) (by omega) (by omega)|exact aL rfl rfl (.inr (.inl ⟨rfl,(zf _ ⟨by omega,by omega⟩).symm⟩))|exact aB rfl),?_⟩));exact trivial),?_⟩|refine⟨.inl (by kernel_rfl),?_⟩)))
      (repeat(first|(refine out _ _ _ d' [] ⟨hd',by rw [← hsd,Sort.shiftDown,if_pos (by simpa [bh] using h5)]⟩ ?_;(refine⟨(ExtOk.of rfl),rfl,(by repeat(first|exact trivial|refine⟨rfl,?_⟩)),(by repeat(first|exact trivial|refine⟨am rfl,?_⟩))⟩))|refine aU rfl ?_|refine ar rfl ?_))
    ·obtain rfl:j=0:=by omega
     (repeat(first|(refine out _ _ _ d' [] ⟨hd',hsd⟩ ?_;(refine⟨(ExtOk.of rfl),rfl,(by repeat(first|exact trivial|refine⟨rfl,?_⟩)),(by repeat(first|exact trivial|refine⟨am rfl,?_⟩))⟩))|refine ab ?_|refine aU rfl ?_|refine an rfl ?_))
   rintro d2' ⟨hd2,rfl⟩
   (repeat(first|refine aj ?_|refine ac ?_|refine ai rfl rfl rfl ?_|refine bN rfl rfl rfl rfl (by omega) (by omega) ?_))
   refine cw rfl rfl rfl rfl ?_ ?_
   all_goals intro h6
   ·(repeat(first|refine aj ?_|refine ac ?_|refine ab ?_|refine aD ?_|refine ar rfl ?_|refine ai rfl rfl rfl ?_|refine ah rfl rfl rfl ?_|refine bj rfl rfl rfl rfl (by omega) (by omega) ?_))
    refine ck 1 (fun s1:Nat×Array (Int)=> [(0,.slu 0 0 n),(1,.sc (.int .i64 (a:Int))),(2,.sc (.int .i64 (b:Int))),(7,.sc (.int .i64 (i1:Int))),(8,.sc (.int .i64 ((5-(s+1):Nat):Int))),(10,.sc (.int .i64 (s1.1:Int)))]) (fun s1=> [some (bH n s1.2)]) (fun s1=>i1+1≤s1.1∧s1.1≤b∧s1.2.size=n∧Sort.shiftUp bh b s1.1 s1.2=Sort.shiftUp bh b (i1+1) d2') (fun s1=>b-s1.1) (i1+1,d2') []
     1 (fun d':Array (Int)=> [(0,.slu 0 0 n),(1,.sc (.int .i64 (a:Int))),(2,.sc (.int .i64 (b:Int))),(7,.sc (.int .i64 (i1:Int))),(8,.sc (.int .i64 ((5-(s+1):Nat):Int)))]) (fun d'=> [some (bH n d')]) (fun d'=>d'.size=n∧Sort.shiftUp bh b (i1+1) d2'=d')
     (fun _=>rfl) (fun _=>rfl) ⟨zA _,by simp only;omega,hd2,rfl⟩ ?_ (fun _=>rfl) (fun _=>rfl) ?_ ?_
    ·(refine⟨(ExtOk.of rfl),rfl,(by repeat(first|exact trivial|refine⟨rfl,?_⟩)),(by repeat(first|exact trivial|refine⟨am rfl,?_⟩))⟩)
    ·rintro⟨j,d'⟩ ⟨hj,hjb,hd',hsd⟩ ihd out
     simp only at hj hjb hd' hsd ihd ⊢
     (repeat(first|refine aj ?_|refine ac ?_|refine ai rfl rfl rfl ?_))
     refine cF rfl rfl rfl rfl ?_ ?_
     all_goals intro h4
     ·(repeat(first|refine aj ?_|refine ab ?_|refine aD ?_|refine aE ?_|refine ar rfl ?_))
      refine aT (by kernel_rfl) (by kernel_rfl) ?_
      have hls_h5:=ey (d'[j]!) (d'[j-1]!)
      cases h5:bh (d'[j]!) (d'[j-1]!)
      all_goals rw [h5] at hls_h5
      rotate_left
      all_goals(repeat(first|refine ax rfl rfl rfl ?_|refine cD rfl rfl rfl rfl (by omega) (by omega) ?_|refine cl rfl rfl rfl ?_|(refine ba (g:=fun x:Int=> .int .i64 x) rfl rfl rfl (F.ag _ rfl) rfl (by(omega)) (by(omega)) ?_)|refine au (q:=j) rfl rfl rfl rfl (F.un _ rfl) (F.sz _ rfl) rfl (by omega) (by omega) (by omega) ?_|refine au (q:=j-1) rfl rfl rfl rfl (F.un _ rfl) (F.sz _ rfl) rfl (by omega) (by omega) (by omega) ?_|refine aY rfl rfl rfl (by kernel_rfl) (Ctr.callV (hls_h5) [] rfl (ExtOk.of rfl) rfl trivial rfl) ?_))
      ·skip
       (refine aF ?_);(refine⟨by kernel_rfl,?_,?_⟩);(focus(repeat(first|exact trivial|refine⟨.inl rfl,?_⟩|refine⟨.inr (by(repeat(refine⟨(by first|exact bD rfl|exact aG (F.un _ rfl) (F.sz _ rfl) rfl rfl rfl (by omega) (by omega) (by omega)|exact aL rfl rfl (.inr (.inl ⟨rfl,(zf _ ⟨by omega,by omega⟩).symm⟩))|exact aB rfl),?_⟩));exact trivial),?_⟩|refine⟨.inl (by kernel_rfl),?_⟩)))
       (repeat(first|refine aE ?_|refine an rfl ?_))
       refine aT (by kernel_rfl) (by kernel_rfl) ?_
       (repeat(first|refine ax rfl rfl rfl ?_|refine cD rfl rfl rfl rfl (by omega) (by omega) ?_|(refine ba (g:=fun x:Int=> .int .i64 x) rfl rfl rfl (F.ag _ rfl) rfl (by(omega)) (by(omega)) ?_)|(refine bU (g:=fun x:Int=> .int .i64 x) rfl rfl rfl (fun _=>rfl) (F.sz _ rfl) rfl (by first|omega|(simp only [zg,aw];omega)) (by first|omega|(simp only [zg,aw];omega)) ?_)|refine au (q:=j) rfl rfl rfl rfl (F.un _ rfl) (F.sz _ rfl) rfl (by omega) (by omega) (by omega) ?_|refine au (q:=j-1) rfl rfl rfl rfl (F.un _ rfl) (F.sz _ rfl) rfl (by omega) (by omega) (by omega) ?_))
       (refine aF ?_);(refine⟨by kernel_rfl,?_,?_⟩);(focus(repeat(first|exact trivial|refine⟨.inl rfl,?_⟩|refine⟨.inr (by(repeat(refine⟨(by first|exact aG (F.un _ rfl) (F.sz _ rfl) rfl rfl rfl (by omega) (by omega) (by omega)|exact aL rfl rfl (.inr (.inl ⟨rfl,(zf _ ⟨by omega,by omega⟩).symm⟩))|exact aB rfl),?_⟩));exact trivial),?_⟩|refine⟨.inl (by kernel_rfl),?_⟩)))
       (repeat(first|refine ac ?_|refine ab ?_|refine ay ?_|refine ai rfl rfl rfl ?_|refine ah rfl rfl rfl ?_|refine bj rfl rfl rfl rfl (by omega) (by omega) ?_))
       refine ihd _ _ _ (j+1,Sort.swp d' j (j-1)) [] ⟨by simp only;omega,by simp only;omega,by rw [aw];exact hd',?_⟩ (by simp only;omega) ?_
       ·rw [← hsd]
        exact(jp (by omega) (by simpa [bh] using h5)).symm
       ·(refine⟨(ExtOk.of rfl),rfl,(by repeat(first|exact trivial|refine⟨rfl,?_⟩)),(by repeat(first|exact trivial|refine⟨am rfl,?_⟩))⟩)
      ·skip
       (refine aF ?_);(refine⟨by kernel_rfl,?_,?_⟩);(focus(repeat(first|exact trivial|refine⟨.inl rfl,?_⟩|refine⟨.inr (by(repeat(refine⟨(by first|exact bD rfl|exact aG (F.un _ rfl) (F.sz _ rfl) rfl rfl rfl (by omega) (by omega) (by omega)|exact aL rfl rfl (.inr (.inl ⟨rfl,(zf _ ⟨by omega,by omega⟩).symm⟩))|exact aB rfl),?_⟩));exact trivial),?_⟩|refine⟨.inl (by kernel_rfl),?_⟩)))
       (repeat(first|(refine out _ _ _ d' [] ⟨hd',by rw [← hsd];exact dG (.inr (by simpa [bh] using h5))⟩ ?_;(refine⟨(ExtOk.of rfl),rfl,(by repeat(first|exact trivial|refine⟨rfl,?_⟩)),(by repeat(first|exact trivial|refine⟨am rfl,?_⟩))⟩))|refine aU rfl ?_|refine ar rfl ?_))
     ·(repeat(first|(refine out _ _ _ d' [] ⟨hd',by rw [← hsd];exact dG (.inl (by omega))⟩ ?_;(refine⟨(ExtOk.of rfl),rfl,(by repeat(first|exact trivial|refine⟨rfl,?_⟩)),(by repeat(first|exact trivial|refine⟨am rfl,?_⟩))⟩))|refine ab ?_|refine aU rfl ?_|refine an rfl ?_))
    rintro d3 ⟨hd3,e3⟩
    (repeat(first|refine ac ?_|refine ab ?_|refine ay ?_|refine ai rfl rfl rfl ?_|refine ah rfl rfl rfl ?_|refine bj rfl rfl rfl rfl (by omega) (by omega) ?_))
    refine ih _ _ _ ((s,i1),d3) [] ⟨by simp only;omega,hai1,hi1,hd3,by rw [← ho];exact(hps d3 (by rw [if_pos (by omega)];exact e3)).symm⟩ (by simp only;omega) ?_
    (refine⟨(ExtOk.of rfl),rfl,(by repeat(first|exact trivial|refine⟨rfl,?_⟩|refine⟨cp (by(simp only;omega)),?_⟩)),(by repeat(first|exact trivial|refine⟨am rfl,?_⟩))⟩)
   ·(repeat(first|refine ac ?_|refine ab ?_|refine ay ?_|refine aE ?_|refine an rfl ?_|refine ai rfl rfl rfl ?_|refine ah rfl rfl rfl ?_|refine bj rfl rfl rfl rfl (by omega) (by omega) ?_))
    refine ih _ _ _ ((s,i1),d2') [] ⟨by simp only;omega,hai1,hi1,hd2,by rw [← ho];exact(hps d2' (by rw [if_neg (by omega)])).symm⟩ (by simp only;omega) ?_
    (refine⟨(ExtOk.of rfl),rfl,(by repeat(first|exact trivial|refine⟨rfl,?_⟩|refine⟨cp (by(simp only;omega)),?_⟩)),(by repeat(first|exact trivial|refine⟨am rfl,?_⟩))⟩)
  ·rw [if_neg (by omega)] at e2
   subst e2
   have hd2:=hd1
   (repeat(first|refine aj ?_|refine ac ?_|refine ab ?_|refine aE ?_|refine an rfl ?_|refine ai rfl rfl rfl ?_|refine bN rfl rfl rfl rfl (by omega) (by omega) ?_))
   refine cw rfl rfl rfl rfl ?_ ?_
   all_goals intro h6
   ·(repeat(first|refine aj ?_|refine ac ?_|refine ab ?_|refine aD ?_|refine ar rfl ?_|refine ai rfl rfl rfl ?_|refine ah rfl rfl rfl ?_|refine bj rfl rfl rfl rfl (by omega) (by omega) ?_))
    refine ck 1 (fun s1:Nat×Array (Int)=> [(0,.slu 0 0 n),(1,.sc (.int .i64 (a:Int))),(2,.sc (.int .i64 (b:Int))),(7,.sc (.int .i64 (i1:Int))),(8,.sc (.int .i64 ((5-(s+1):Nat):Int))),(10,.sc (.int .i64 (s1.1:Int)))]) (fun s1=> [some (bH n s1.2)]) (fun s1=>i1+1≤s1.1∧s1.1≤b∧s1.2.size=n∧Sort.shiftUp bh b s1.1 s1.2=Sort.shiftUp bh b (i1+1) d1) (fun s1=>b-s1.1) (i1+1,d1) []
     1 (fun d':Array (Int)=> [(0,.slu 0 0 n),(1,.sc (.int .i64 (a:Int))),(2,.sc (.int .i64 (b:Int))),(7,.sc (.int .i64 (i1:Int))),(8,.sc (.int .i64 ((5-(s+1):Nat):Int)))]) (fun d'=> [some (bH n d')]) (fun d'=>d'.size=n∧Sort.shiftUp bh b (i1+1) d1=d')
     (fun _=>rfl) (fun _=>rfl) ⟨zA _,by simp only;omega,hd2,rfl⟩ ?_ (fun _=>rfl) (fun _=>rfl) ?_ ?_
    ·(refine⟨(ExtOk.of rfl),rfl,(by repeat(first|exact trivial|refine⟨rfl,?_⟩)),(by repeat(first|exact trivial|refine⟨am rfl,?_⟩))⟩)
    ·rintro⟨j,d'⟩ ⟨hj,hjb,hd',hsd⟩ ihd out
     simp only at hj hjb hd' hsd ihd ⊢
     (repeat(first|refine aj ?_|refine ac ?_|refine ai rfl rfl rfl ?_))
     refine cF rfl rfl rfl rfl ?_ ?_
     all_goals intro h4
     ·(repeat(first|refine aj ?_|refine ab ?_|refine aD ?_|refine aE ?_|refine ar rfl ?_))
      refine aT (by kernel_rfl) (by kernel_rfl) ?_
      have hls_h5:=ey (d'[j]!) (d'[j-1]!)
      cases h5:bh (d'[j]!) (d'[j-1]!)
      all_goals rw [h5] at hls_h5
      rotate_left
      all_goals(repeat(first|refine ax rfl rfl rfl ?_|refine cD rfl rfl rfl rfl (by omega) (by omega) ?_|refine cl rfl rfl rfl ?_|(refine ba (g:=fun x:Int=> .int .i64 x) rfl rfl rfl (F.ag _ rfl) rfl (by(omega)) (by(omega)) ?_)|refine au (q:=j) rfl rfl rfl rfl (F.un _ rfl) (F.sz _ rfl) rfl (by omega) (by omega) (by omega) ?_|refine au (q:=j-1) rfl rfl rfl rfl (F.un _ rfl) (F.sz _ rfl) rfl (by omega) (by omega) (by omega) ?_|refine aY rfl rfl rfl (by kernel_rfl) (Ctr.callV (hls_h5) [] rfl (ExtOk.of rfl) rfl trivial rfl) ?_))
      ·skip
       (refine aF ?_);(refine⟨by kernel_rfl,?_,?_⟩);(focus(repeat(first|exact trivial|refine⟨.inl rfl,?_⟩|refine⟨.inr (by(repeat(refine⟨(by first|exact bD rfl|exact aG (F.un _ rfl) (F.sz _ rfl) rfl rfl rfl (by omega) (by omega) (by omega)|exact aL rfl rfl (.inr (.inl ⟨rfl,(zf _ ⟨by omega,by omega⟩).symm⟩))|exact aB rfl),?_⟩));exact trivial),?_⟩|refine⟨.inl (by kernel_rfl),?_⟩)))
       (repeat(first|refine aE ?_|refine an rfl ?_))
       refine aT (by kernel_rfl) (by kernel_rfl) ?_
       (repeat(first|refine ax rfl rfl rfl ?_|refine cD rfl rfl rfl rfl (by omega) (by omega) ?_|(refine ba (g:=fun x:Int=> .int .i64 x) rfl rfl rfl (F.ag _ rfl) rfl (by(omega)) (by(omega)) ?_)|(refine bU (g:=fun x:Int=> .int .i64 x) rfl rfl rfl (fun _=>rfl) (F.sz _ rfl) rfl (by first|omega|(simp only [zg,aw];omega)) (by first|omega|(simp only [zg,aw];omega)) ?_)|refine au (q:=j) rfl rfl rfl rfl (F.un _ rfl) (F.sz _ rfl) rfl (by omega) (by omega) (by omega) ?_|refine au (q:=j-1) rfl rfl rfl rfl (F.un _ rfl) (F.sz _ rfl) rfl (by omega) (by omega) (by omega) ?_))
       (refine aF ?_);(refine⟨by kernel_rfl,?_,?_⟩);(focus(repeat(first|exact trivial|refine⟨.inl rfl,?_⟩|refine⟨.inr (by(repeat(refine⟨(by first|exact aG (F.un _ rfl) (F.sz _ rfl) rfl rfl rfl (by omega) (by omega) (by omega)|exact aL rfl rfl (.inr (.inl ⟨rfl,(zf _ ⟨by omega,by omega⟩).symm⟩))|exact aB rfl),?_⟩));exact trivial),?_⟩|refine⟨.inl (by kernel_rfl),?_⟩)))
       (repeat(first|refine ac ?_|refine ab ?_|refine ay ?_|refine ai rfl rfl rfl ?_|refine ah rfl rfl rfl ?_|refine bj rfl rfl rfl rfl (by omega) (by omega) ?_))
       refine ihd _ _ _ (j+1,Sort.swp d' j (j-1)) [] ⟨by simp only;omega,by simp only;omega,by rw [aw];exact hd',?_⟩ (by simp only;omega) ?_
       ·rw [← hsd]
        exact(jp (by omega) (by simpa [bh] using h5)).symm
       ·(refine⟨(ExtOk.of rfl),rfl,(by repeat(first|exact trivial|refine⟨rfl,?_⟩)),(by repeat(first|exact trivial|refine⟨am rfl,?_⟩))⟩)
      ·skip
       (refine aF ?_);(refine⟨by kernel_rfl,?_,?_⟩);(focus(repeat(first|exact trivial|refine⟨.inl rfl,?_⟩|refine⟨.inr (by(repeat(refine⟨(by first|exact bD rfl|exact aG (F.un _ rfl) (F.sz _ rfl) rfl rfl rfl (by omega) (by omega) (by omega)|exact aL rfl rfl (.inr (.inl ⟨rfl,(zf _ ⟨by omega,by omega⟩).symm⟩))|exact aB rfl),?_⟩));exact trivial),?_⟩|refine⟨.inl (by kernel_rfl),?_⟩)))
       (repeat(first|(refine out _ _ _ d' [] ⟨hd',by rw [← hsd];exact dG (.inr (by simpa [bh] using h5))⟩ ?_;(refine⟨(ExtOk.of rfl),rfl,(by repeat(first|exact trivial|refine⟨rfl,?_⟩)),(by repeat(first|exact trivial|refine⟨am rfl,?_⟩))⟩))|refine aU rfl ?_|refine ar rfl ?_))
     ·(repeat(first|(refine out _ _ _ d' [] ⟨hd',by rw [← hsd];exact dG (.inl (by omega))⟩ ?_;(refine⟨(ExtOk.of rfl),rfl,(by repeat(first|exact trivial|refine⟨rfl,?_⟩)),(by repeat(first|exact trivial|refine⟨am rfl,?_⟩))⟩))|refine ab ?_|refine aU rfl ?_|refine an rfl ?_))
    rintro d3 ⟨hd3,e3⟩
    (repeat(first|refine ac ?_|refine ab ?_|refine ay ?_|refine ai rfl rfl rfl ?_|refine ah rfl rfl rfl ?_|refine bj rfl rfl rfl rfl (by omega) (by omega) ?_))
    refine ih _ _ _ ((s,i1),d3) [] ⟨by simp only;omega,hai1,hi1,hd3,by rw [← ho];exact(hps d3 (by rw [if_pos (by omega)];exact e3)).symm⟩ (by simp only;omega) ?_
    (refine⟨(ExtOk.of rfl),rfl,(by repeat(first|exact trivial|refine⟨rfl,?_⟩|refine⟨cp (by(simp only;omega)),?_⟩)),(by repeat(first|exact trivial|refine⟨am rfl,?_⟩))⟩)
   ·(repeat(first|refine ac ?_|refine ab ?_|refine ay ?_|refine aE ?_|refine an rfl ?_|refine ai rfl rfl rfl ?_|refine ah rfl rfl rfl ?_|refine bj rfl rfl rfl rfl (by omega) (by omega) ?_))
    refine ih _ _ _ ((s,i1),d1) [] ⟨by simp only;omega,hai1,hi1,hd2,by rw [← ho];exact(hps d1 (by rw [if_neg (by omega)])).symm⟩ (by simp only;omega) ?_
    (refine⟨(ExtOk.of rfl),rfl,(by repeat(first|exact trivial|refine⟨rfl,?_⟩|refine⟨cp (by(omega)),?_⟩)),(by repeat(first|exact trivial|refine⟨am rfl,?_⟩))⟩)
 ·obtain rfl:s=0:=by omega
  (repeat(first|refine aj ?_|refine ac ?_|refine ab ?_|refine aU rfl ?_|refine an rfl ?_|refine ah rfl rfl rfl ?_))
  rw [← ho]
  ((apply aS Try.func79 (congrArg Array.toList Try.results79));(focus(repeat(first|exact ResIs.nil|apply ResIs.tmp rfl)));refine⟨_,rfl,Ends.mk [] (ExtOk.of rfl) rfl rfl ?_⟩)
  exact(by repeat(first|exact trivial|refine⟨am rfl,?_⟩))
def oz(a len m:Nat):Nat→UInt64×Array (Int)→Nat→UInt64×Array (Int)
 | 0,st,_=>st
 | k+1,st,i=>oz a len m k (Sort.breakStep a len m st i) (i+1)
theorem pV(n a b:Nat)(d:Array (Int))(hn:n<65536)(hd:d.size=n)(hab:a≤b)(hb:b≤n) :
 Ctr Try.prog 76 [.slu 0 0 n,.sc (.int .i64 (a:Int)),.sc (.int .i64 (b:Int))] [bH n d] (fun c=>c=⟨.tup [],[some (bH n (Sort.breakPatterns d a b))]⟩):=by
 have eba:(b:Int)-(a:Int)=((b-a:Nat):Int):=by omega
 refine Fnc.start Try.func76 rfl rfl ?_
 (repeat(first|refine aj ?_|refine ac ?_|refine ab ?_|refine ai rfl rfl rfl ?_|refine ah rfl rfl rfl ?_|refine bN rfl rfl rfl rfl (by omega) (by omega) ?_))
 rw [eba]
 have ebp:Sort.breakPatterns d a b=Sort.breakPatterns d a b:=rfl
 conv at ebp=>rhs;unfold Sort.breakPatterns
 simp only at ebp
 refine cw rfl rfl rfl rfl ?_ ?_
 all_goals intro h1
 ·rw [if_pos (by omega)] at ebp
  have ep:Sort.bitsLen (b-a)≤16:=kw (by omega)
  have eq1:(1:Nat) <<< Sort.bitsLen (b-a)=2 ^ Sort.bitsLen (b-a):=by rw [Nat.shiftLeft_eq,Nat.one_mul]
  have eq2:2 ^ Sort.bitsLen (b-a)≤2*(b-a):=Sort.two_pow_bitsLen_le (by omega)
  have eq3:0<2 ^ Sort.bitsLen (b-a):=Nat.pow_pos (by decide)
  (repeat(first|refine aj ?_|refine ac ?_|refine ab ?_|refine aD ?_|refine ar rfl ?_|refine ai rfl rfl rfl ?_|refine ah rfl rfl rfl ?_|refine cx rfl rfl (F.zl _ rfl) ?_|refine kC rfl rfl rfl (F.sz _ rfl) rfl rfl rfl ?_|refine bj rfl rfl rfl rfl (by omega) (by omega) ?_|refine bN rfl rfl rfl rfl (by omega) (by omega) ?_|refine ny rfl rfl rfl rfl (by omega) (by omega) ?_|refine nw rfl rfl rfl rfl (by omega) (by omega) (by omega) ?_|refine gI rfl rfl rfl (F.un _ rfl) (F.un _ rfl) (show _=((b-a:Nat):Int)from Go.IntWalk.u64_in _ ⟨by omega,by omega⟩) ?_|refine gJ (nP (b-a) (by omega)) [] rfl rfl rfl (by kernel_rfl) rfl (ExtOk.of rfl) rfl trivial ?_))
  rw [eq1] at ebp
  generalize hm:2 ^ Sort.bitsLen (b-a)=m at ebp eq2 eq3
  have e4:(a:Int)+((b-a:Nat):Int) / 4*2-1=((a+(b-a) / 4*2-1:Nat):Int):=by omega
  rw [e4]
  have hbase:a+(b-a) / 4*2-1+3≤b:=by omega
  have hlt:0<a+(b-a) / 4*2:=by omega
  generalize hbs:a+(b-a) / 4*2-1=base at ebp hbase
  have ht:Sort.breakPatterns d a b=(oz a (b-a) m 3 (UInt64.ofNat (b-a),d) base).2:=ebp
  refine ct 2 (fun s:(Nat×UInt64)×Array (Int)=> [(0,.slu 0 0 n),(1,.sc (.int .i64 (a:Int))),(6,.sc (.int .i64 ((b-a:Nat):Int))),(7,.ptr 1 0),(8,.sc (.int .u64 (m:Int))),(9,.sc (.int .i64 ((base+3-s.1.1:Nat):Int)))]) (fun s=> [some (bH n s.2),some (xsO s.1.2.toNat)]) (fun s=>s.1.1≤3∧s.2.size=n∧(oz a (b-a) m s.1.1 (s.1.2,s.2) (base+3-s.1.1)).2=Sort.breakPatterns d a b) (fun s=>s.1.1) ((3,UInt64.ofNat (b-a)),d) [1]
   (fun _=>rfl) ⟨zA _,hd,by rw [ht];rfl⟩ ?_ (fun _=>rfl) (fun _=>rfl) ?_
  ·have e0:(UInt64.ofNat (b-a)).toNat=b-a:=by rw [UInt64.toNat_ofNat',Nat.mod_eq_of_lt (by omega)]
   rw [e0]
   (refine⟨(ExtOk.of rfl),rfl,(by repeat(first|exact trivial|refine⟨rfl,?_⟩)),(by repeat(first|exact trivial|refine⟨am rfl,?_⟩|refine⟨ca rfl,?_⟩))⟩)
  rintro⟨⟨s,r⟩,d1⟩ ⟨hs,hd1,ho⟩ ih
  simp only at hs hd1 ho ih ⊢
  (repeat(first|refine aj ?_|refine ac ?_|refine ai rfl rfl rfl ?_|refine bj rfl rfl rfl rfl (by omega) (by omega) ?_|refine ny rfl rfl rfl rfl (by omega) (by omega) ?_|refine nw rfl rfl rfl rfl (by omega) (by omega) (by omega) ?_))
  refine nz rfl rfl rfl rfl ?_ ?_
  all_goals intro h2
  ·obtain⟨s,rfl⟩: ∃ s',s=s'+1:=⟨s-1,by omega⟩
   have hr:=UInt64.toNat_lt r
   have hnx:=Sort.xorNextN_lt r.toNat hr
   have hxn:=Sort.xorNext_toNat r
   have hst:Sort.breakStep a (b-a) m (r,d1) (base+3-(s+1))=(Sort.xorNext r,Sort.swp d1 (base+3-(s+1)) (a+(if(Sort.xorNext r).toNat &&& (m-1)≥b-a then((Sort.xorNext r).toNat &&& (m-1))-(b-a) else(Sort.xorNext r).toNat &&& (m-1)))):=rfl
   have ho':(oz a (b-a) m s (Sort.breakStep a (b-a) m (r,d1) (base+3-(s+1))) (base+3-s)).2=Sort.breakPatterns d a b:=by
    rw [← ho,oz,show base+3-(s+1)+1=base+3-s by omega]
   rw [hst] at ho'
   rw [hxn] at ho'
   have hmw:IntKind.u64.wrap ((m:Int)-1)=((m-1:Nat):Int):=by
    rw [Go.IntWalk.u64_in _ ⟨by omega,by omega⟩]
    omega
   have hand:=andU (a:=Sort.xorNextN r.toNat) (b:=m-1) hnx (by omega)
   have hle:Sort.xorNextN r.toNat &&& (m-1)≤m-1:=Nat.and_le_right
   generalize hoo:Sort.xorNextN r.toNat &&& (m-1)=o at hand hle ho'
   (repeat(first|refine aj ?_|refine ac ?_|refine ab ?_|refine aD ?_|refine aE ?_|refine ar rfl ?_|refine ai rfl rfl rfl ?_|refine aV rfl rfl rfl (by kernel_rfl) (Ctr.bA (oB r.toNat hr) [1] rfl (ExtOk.of rfl) rfl (by repeat(first|exact trivial|refine⟨ca rfl,?_⟩)) rfl (by repeat(first|exact trivial|refine⟨bz (fun _=>rfl),?_⟩)) (fun _=>rfl) rfl rfl) ?_))
   refine wo rfl rfl rfl rfl ?_
   rw [hmw]
   refine wv rfl rfl rfl rfl (.inl rfl) hand ?_
   (repeat(first|refine aj ?_|refine ac ?_|refine ab ?_|refine ai rfl rfl rfl ?_|refine ah rfl rfl rfl ?_|refine gI rfl rfl rfl (F.un _ rfl) (F.un _ rfl) (show _=(o:Int)from zf _ ⟨by omega,by omega⟩) ?_))
   refine cw rfl rfl rfl rfl ?_ ?_
   all_goals intro h3
   ·rw [if_pos (by omega)] at ho'
    (repeat(first|refine ac ?_|refine ab ?_|refine ar rfl ?_|refine ai rfl rfl rfl ?_|refine ah rfl rfl rfl ?_|refine bN rfl rfl rfl rfl (by omega) (by omega) ?_))
    refine aT (by kernel_rfl) (by kernel_rfl) ?_
    (repeat(first|refine ax rfl rfl rfl ?_|refine cG rfl rfl rfl rfl (by omega) (by omega) ?_|(refine ba (g:=fun x:Int=> .int .i64 x) rfl rfl rfl (F.ag _ rfl) rfl (by(omega)) (by(omega)) ?_)|(refine bU (g:=fun x:Int=> .int .i64 x) rfl rfl rfl (fun _=>rfl) (F.sz _ rfl) rfl (by first|omega|(simp only [zg,aw];omega)) (by first|omega|(simp only [zg,aw];omega)) ?_)|refine au (q:=base+3-(s+1)) rfl rfl rfl rfl (F.un _ rfl) (F.sz _ rfl) rfl (by omega) (by omega) (by omega) ?_|refine au (q:=a+(o-(b-a))) rfl rfl rfl rfl (F.un _ rfl) (F.sz _ rfl) rfl (by omega) (by omega) (by omega) ?_))
    (refine aF ?_);(refine⟨by kernel_rfl,?_,?_⟩);(focus(repeat(first|exact trivial|refine⟨.inl rfl,?_⟩|refine⟨.inr (by(repeat(refine⟨(by first|exact aG (F.un _ rfl) (F.sz _ rfl) rfl rfl rfl (by omega) (by omega) (by omega)|exact aL rfl rfl (.inl ⟨rfl,(zf _ ⟨by omega,by omega⟩).symm⟩)|exact aB rfl),?_⟩));exact trivial),?_⟩|refine⟨.inl (by kernel_rfl),?_⟩)))
    (repeat(first|refine ac ?_|refine ab ?_|refine ay ?_|refine ai rfl rfl rfl ?_|refine ah rfl rfl rfl ?_|refine bj rfl rfl rfl rfl (by omega) (by omega) ?_))
    refine ih _ _ _ ((s,Sort.xorNext r),Sort.swp d1 (base+3-(s+1)) (a+(o-(b-a)))) [1] ⟨by simp only;omega,by rw [aw];exact hd1,ho'⟩ (by simp only;omega) ?_
    rw [hxn]
    (refine⟨(ExtOk.of rfl),rfl,(by repeat(first|exact trivial|refine⟨rfl,?_⟩|refine⟨cp (by(simp only;omega)),?_⟩)),(by repeat(first|exact trivial|refine⟨am rfl,?_⟩|refine⟨ca rfl,?_⟩))⟩)
   ·rw [if_neg (by omega)] at ho'
    (repeat(first|refine ab ?_|refine aE ?_|refine an rfl ?_))
    refine aT (by kernel_rfl) (by kernel_rfl) ?_
    (repeat(first|refine ax rfl rfl rfl ?_|refine cG rfl rfl rfl rfl (by omega) (by omega) ?_|(refine ba (g:=fun x:Int=> .int .i64 x) rfl rfl rfl (F.ag _ rfl) rfl (by(omega)) (by(omega)) ?_)|(refine bU (g:=fun x:Int=> .int .i64 x) rfl rfl rfl (fun _=>rfl) (F.sz _ rfl) rfl (by first|omega|(simp only [zg,aw];omega)) (by first|omega|(simp only [zg,aw];omega)) ?_)|refine au (q:=base+3-(s+1)) rfl rfl rfl rfl (F.un _ rfl) (F.sz _ rfl) rfl (by omega) (by omega) (by omega) ?_|refine au (q:=a+o) rfl rfl rfl rfl (F.un _ rfl) (F.sz _ rfl) rfl (by omega) (by omega) (by omega) ?_))
    (refine aF ?_);(refine⟨by kernel_rfl,?_,?_⟩);(focus(repeat(first|exact trivial|refine⟨.inl rfl,?_⟩|refine⟨.inr (by(repeat(refine⟨(by first|exact aG (F.un _ rfl) (F.sz _ rfl) rfl rfl rfl (by omega) (by omega) (by omega)|exact aL rfl rfl (.inl ⟨rfl,(zf _ ⟨by omega,by omega⟩).symm⟩)|exact aB rfl),?_⟩));exact trivial),?_⟩|refine⟨.inl (by kernel_rfl),?_⟩)))
    (repeat(first|refine ac ?_|refine ab ?_|refine ay ?_|refine ai rfl rfl rfl ?_|refine ah rfl rfl rfl ?_|refine bj rfl rfl rfl rfl (by omega) (by omega) ?_))
    refine ih _ _ _ ((s,Sort.xorNext r),Sort.swp d1 (base+3-(s+1)) (a+o)) [1] ⟨by simp only;omega,by rw [aw];exact hd1,ho'⟩ (by simp only;omega) ?_
    rw [hxn]
    (refine⟨(ExtOk.of rfl),rfl,(by repeat(first|exact trivial|refine⟨rfl,?_⟩|refine⟨cp (by(simp only;omega)),?_⟩)),(by repeat(first|exact trivial|refine⟨am rfl,?_⟩|refine⟨ca rfl,?_⟩))⟩)
  ·obtain rfl:s=0:=by omega
   (repeat(first|refine ab ?_|refine aU rfl ?_|refine an rfl ?_))
   ((apply dU Try.func76 (congrArg Array.toList Try.results76));(focus(repeat(exact ResIs.nil)));refine⟨_,rfl,Ends.mk [] (ExtOk.of rfl) rfl rfl ?_⟩)
   rw [← ho]
   exact(by repeat(first|exact trivial|refine⟨am rfl,?_⟩))
 ·rw [if_neg (by omega)] at ebp
  (repeat(first|refine ab ?_|refine aE ?_|refine an rfl ?_))
  ((apply dU Try.func76 (congrArg Array.toList Try.results76));(focus(repeat(exact ResIs.nil)));refine⟨_,rfl,Ends.mk [] (ExtOk.of rfl) rfl rfl ?_⟩)
  rw [ebp]
  exact(by repeat(first|exact trivial|refine⟨am rfl,?_⟩))
abbrev qG:=Array (Int)
theorem rN:Sort.SWO bh where
 irrefl:=fun a=>by simp [bh]
 trans:=fun a b c h h'=>by
  simp only [bh,decide_eq_true_eq] at h h' ⊢
  omega
 ntrans:=fun a b c h h'=>by
  simp only [bh,decide_eq_false_iff_not] at h h' ⊢
  omega
theorem rP{lt:Int→Int→Bool}{d:qG}{a b limit:Nat}{wb wp:Bool}(h:b-a≤12):Sort.pdq lt d a b limit wb wp=Sort.insertionSort lt d a b:=by rw [Sort.pdq,if_pos h]
theorem pT{lt:Int→Int→Bool}{d:qG}{a b limit:Nat}{wb wp:Bool}(h: ¬ b-a≤12)(h0:limit=0):Sort.pdq lt d a b limit wb wp=Sort.heapSort lt d a b:=by rw [Sort.pdq,if_neg h,if_pos h0]
def dy(lt:Int→Int→Bool)(d3:qG)(a b pivot limit:Nat)(wb wp:Bool):qG:=
 if a>0 && !lt d3[a-1]! d3[pivot]! then
  match Sort.partitionEqual lt d3 a b pivot with
  | (mid,d4)=>if _h:a<mid∧mid≤b then Sort.pdq lt d4 mid b limit wb wp else d4
 else
  match Sort.partition lt d3 a b pivot with
  | (mid,alreadyPartitioned,d4)=>
    if _h:a≤mid∧mid<b then
     if mid-a<b-mid then
      Sort.pdq lt (Sort.pdq lt d4 a mid limit true true) (mid+1) b limit (decide (mid-a≥(b-a) / 8)) alreadyPartitioned
     else
      Sort.pdq lt (Sort.pdq lt d4 (mid+1) b limit true true) a mid limit (decide (b-mid≥(b-a) / 8)) alreadyPartitioned
    else d4
theorem tE{lt:Int→Int→Bool}{d d1 d2:qG}{a b limit limit1 pivot:Nat}{wb wp:Bool}{c:Nat×Sort.Hint}{hint:Sort.Hint}{pi:qG×Bool}(h: ¬ b-a≤12)(h0: ¬ limit=0)
 (e1:d1=(if(!wb)=true then Sort.breakPatterns d a b else d)) (el:limit1=(if(!wb)=true then limit-1 else limit)) (ec:Sort.choosePivot lt d1 a b=c)
 (e2:d2=(if c.2 = .decreasing then Sort.reverseRange d1 a b else d1)) (ep:pivot=(if c.2 = .decreasing then(b-1)-(c.1-a) else c.1)) (eh:hint=(if c.2 = .decreasing then .increasing else c.2))
 (ei:(if(wb && wp && decide (hint = .increasing))=true then Sort.partialInsertionSort lt d2 a b else(d2,false))=pi) :
 Sort.pdq lt d a b limit wb wp=if pi.2=true then pi.1 else dy lt pi.1 a b pivot limit1 wb wp:=by
 subst e1 el ec e2 ep eh ei
 rw [Sort.pdq,if_neg h,if_neg h0]
 rfl
theorem rO{lt:Int→Int→Bool}{d3 d4:qG}{a b pivot limit mid:Nat}{wb wp:Bool}(h:(decide (a>0) && !lt d3[a-1]! d3[pivot]!)=true)(hx:Sort.partitionEqual lt d3 a b pivot=(mid,d4))(hm:a<mid∧mid≤b) :
 dy lt d3 a b pivot limit wb wp=Sort.pdq lt d4 mid b limit wb wp:=by
 unfold dy
 rw [if_pos h,hx]
 simp only [dif_pos hm]
theorem ol{lt:Int→Int→Bool}{d3 d4:qG}{a b pivot limit mid:Nat}{wb wp ap:Bool}(h: ¬ (decide (a>0) && !lt d3[a-1]! d3[pivot]!)=true)(hx:Sort.partition lt d3 a b pivot=(mid,ap,d4))(hm:a≤mid∧mid<b)(hl:mid-a<b-mid) :
 dy lt d3 a b pivot limit wb wp=Sort.pdq lt (Sort.pdq lt d4 a mid limit true true) (mid+1) b limit (decide (mid-a≥(b-a) / 8)) ap:=by
 unfold dy
 rw [if_neg h,hx]
 simp only [dif_pos hm,if_pos hl]
theorem mH{lt:Int→Int→Bool}{d3 d4:qG}{a b pivot limit mid:Nat}{wb wp ap:Bool}(h: ¬ (decide (a>0) && !lt d3[a-1]! d3[pivot]!)=true)(hx:Sort.partition lt d3 a b pivot=(mid,ap,d4))(hm:a≤mid∧mid<b)(hl: ¬ mid-a<b-mid) :
 dy lt d3 a b pivot limit wb wp=Sort.pdq lt (Sort.pdq lt d4 (mid+1) b limit true true) a mid limit (decide (b-mid≥(b-a) / 8)) ap:=by
 unfold dy
 rw [if_neg h,hx]
 simp only [dif_pos hm,if_neg hl]
theorem pS(n:Nat)(hn:n<65536): ∀ (k a b limit:Nat) (d:qG),b-a=k→a≤b→b≤n→d.size=n→limit<4611686018427387904→Sort.Below bh a b d →
 Ctr Try.prog 62 [.slu 0 0 n,.sc (.int .i64 (a:Int)),.sc (.int .i64 (b:Int)),.sc (.int .i64 (limit:Int))] [bH n d] (fun c=>c=⟨.tup [],[some (bH n (Sort.pdq bh d a b limit true true))]⟩):=by
 intro k
 induction k using Nat.strongRecOn with
 | _ k ihk=>
 intro a b limit d hk hab hb hd hl hB
 refine Fnc.start Try.func62 rfl rfl ?_
 (repeat(first|refine aj ?_|refine ac ?_|refine ab ?_|refine aD ?_|refine ah rfl rfl rfl ?_))
 refine ct 1 (fun s:((Nat×Nat)×Nat)×((Bool×Bool)×qG)=> [(0,.slu 0 0 n),(1,.sc (.int .i64 (s.1.1.1:Int))),(2,.sc (.int .i64 (s.1.1.2:Int))),(3,.sc (.int .i64 (s.1.2:Int))),(8,.sc (.bool s.2.1.1)),(9,.sc (.bool s.2.1.2))]) (fun s=> [some (bH n s.2.2)])
  (fun s=>s.1.1.1≤s.1.1.2∧s.1.1.2≤n∧s.1.1.2-s.1.1.1≤k∧s.2.2.size=n∧s.1.2<4611686018427387904∧Sort.Below bh s.1.1.1 s.1.1.2 s.2.2∧Sort.pdq bh s.2.2 s.1.1.1 s.1.1.2 s.1.2 s.2.1.1 s.2.1.2=Sort.pdq bh d a b limit true true) (fun s=>s.1.1.2-s.1.1.1) (((a,b),limit),((true,true),d)) []
  (fun _=>rfl) ⟨hab,hb,Nat.le_of_eq hk,hd,hl,hB,rfl⟩ ?_ (fun _=>rfl) (fun _=>rfl) ?_
 ·(refine⟨(ExtOk.of rfl),rfl,(by repeat(first|exact trivial|refine⟨rfl,?_⟩)),(by repeat(first|exact trivial|refine⟨am rfl,?_⟩))⟩)
 rintro⟨⟨⟨a1,b1⟩,l1⟩,⟨⟨wb,wp⟩,d1⟩⟩ ⟨hab1,hb1,hk1,hd1,hl1,hB1,ho⟩ ih
 simp only at hab1 hb1 hk1 hd1 hl1 hB1 ho ih ⊢
 have eba:(b1:Int)-(a1:Int)=((b1-a1:Nat):Int):=by omega
 (repeat(first|refine aj ?_|refine ac ?_|refine ab ?_|refine aD ?_|refine ai rfl rfl rfl ?_|refine ah rfl rfl rfl ?_|refine bN rfl rfl rfl rfl (by omega) (by omega) ?_))
 rw [eba]
 refine nz rfl rfl rfl rfl ?_ ?_
 all_goals intro h1
 ·rw [rP (by omega)] at ho
  (repeat(first|refine aj ?_|refine ac ?_|refine ab ?_|refine ar rfl ?_|refine ai rfl rfl rfl ?_|refine aV rfl rfl rfl (by kernel_rfl) (Ctr.bA (oIins n a1 b1 d1 (by omega) hd1 hab1 hb1) [0] rfl (ExtOk.of rfl) rfl (by repeat(first|exact trivial|refine⟨am rfl,?_⟩)) rfl (by repeat(first|exact trivial|refine⟨aP,?_⟩)) (fun _=>rfl) rfl rfl) ?_))
  ((apply aS Try.func62 (congrArg Array.toList Try.results62));(focus(repeat(exact ResIs.nil)));refine⟨_,rfl,Ends.mk [] (ExtOk.of rfl) rfl rfl ?_⟩)
  rw [← ho]
  exact(by repeat(first|exact trivial|refine⟨am rfl,?_⟩))
 (repeat(first|refine aj ?_|refine ac ?_|refine ab ?_|refine aE ?_|refine an rfl ?_|refine ai rfl rfl rfl ?_))
 refine cP rfl rfl rfl rfl ?_ ?_
 all_goals intro h2
 ·rw [pT (by omega) (by omega)] at ho
  (repeat(first|refine aj ?_|refine ac ?_|refine ab ?_|refine ar rfl ?_|refine ai rfl rfl rfl ?_|refine aV rfl rfl rfl (by kernel_rfl) (Ctr.bA (oy n a1 b1 d1 (by omega) hd1 hab1 hb1) [0] rfl (ExtOk.of rfl) rfl (by repeat(first|exact trivial|refine⟨am rfl,?_⟩)) rfl (by repeat(first|exact trivial|refine⟨aP,?_⟩)) (fun _=>rfl) rfl rfl) ?_))
  ((apply aS Try.func62 (congrArg Array.toList Try.results62));(focus(repeat(exact ResIs.nil)));refine⟨_,rfl,Ends.mk [] (ExtOk.of rfl) rfl rfl ?_⟩)
  rw [← ho]
  exact(by repeat(first|exact trivial|refine⟨am rfl,?_⟩))
 (repeat(first|refine aj ?_|refine ac ?_|refine ab ?_|refine aE ?_|refine an rfl ?_|refine ai rfl rfl rfl ?_|refine dg rfl rfl rfl ?_))
 refine rz 1 (fun s:Nat×qG=> [(0,.slu 0 0 n),(1,.sc (.int .i64 (a1:Int))),(2,.sc (.int .i64 (b1:Int))),(3,.sc (.int .i64 (s.1:Int))),(8,.sc (.bool wb)),(9,.sc (.bool wp)),(10,.sc (.int .i64 ((b1-a1:Nat):Int)))]) (fun s=> [some (bH n s.2)])
  (fun s=>s.1=(if(!wb)=true then l1-1 else l1)∧s.2=(if(!wb)=true then Sort.breakPatterns d1 a1 b1 else d1)) (fun _=>rfl) rfl (fun _=>rfl) (fun _=>rfl) ?_ ?_ ?_
 ·intro hw out
  (repeat(first|(refine out _ _ _ (l1-1,Sort.breakPatterns d1 a1 b1) [] ⟨by rw [if_pos hw],by rw [if_pos hw]⟩ ?_;(refine⟨(ExtOk.of rfl),rfl,(by repeat(first|exact trivial|refine⟨rfl,?_⟩|refine⟨cp (by(omega)),?_⟩)),(by repeat(first|exact trivial|refine⟨am rfl,?_⟩))⟩))|refine aj ?_|refine ac ?_|refine ab ?_|refine ai rfl rfl rfl ?_|refine ah rfl rfl rfl ?_|refine bN rfl rfl rfl rfl (by omega) (by omega) ?_|refine aV rfl rfl rfl (by kernel_rfl) (Ctr.bA (pV n a1 b1 d1 hn hd1 hab1 hb1) [0] rfl (ExtOk.of rfl) rfl (by repeat(first|exact trivial|refine⟨am rfl,?_⟩)) rfl (by repeat(first|exact trivial|refine⟨aP,?_⟩)) (fun _=>rfl) rfl rfl) ?_))
 ·intro hw out
  (repeat(first|(refine out _ _ _ (l1,d1) [] ⟨by rw [hw];rfl,by rw [hw];rfl⟩ ?_;(refine⟨(ExtOk.of rfl),rfl,(by repeat(first|exact trivial|refine⟨rfl,?_⟩)),(by repeat(first|exact trivial|refine⟨am rfl,?_⟩))⟩))|(refine aE ?_)))
 rintro⟨l2,d2⟩ ⟨el,ed⟩
 simp only at el ed ⊢
 have hl2:l2<4611686018427387904:=by rw [el];split <;> omega
 have hpd:Sort.PermIn a1 b1 d1 d2:=by
  rw [ed]
  split
  ·exact Sort.breakPatterns_holds d1 a1 b1 hab1 (by omega)
  ·exact Sort.permIn_refl d1 a1 b1
 have hd2:d2.size=n:=by rw [hpd.1];exact hd1
 have hB2:Sort.Below bh a1 b1 d2:=hB1.perm (by omega) hpd
 have hpv:=pR n a1 b1 d2 (by omega) hd2 (by omega) hb1
 have hpr:=Sort.choosePivot_holds bh d2 a1 b1 (by omega)
 have hgo:=fun d3 pivot hint pi=>tE (lt:=bh) (d:=d1) (d1:=d2) (d2:=d3) (a:=a1) (b:=b1) (limit:=l1) (limit1:=l2) (pivot:=pivot) (wb:=wb) (wp:=wp) (c:=Sort.choosePivot bh d2 a1 b1) (hint:=hint) (pi:=pi) (by omega) (by omega) ed el rfl
 generalize Sort.choosePivot bh d2 a1 b1=c at hpv hpr hgo
 obtain⟨p,hint⟩:=c
 simp only at hpv hpr hgo
 (repeat(first|refine aj ?_|refine ac ?_|refine ab ?_|refine ai rfl rfl rfl ?_|refine ah rfl rfl rfl ?_|refine bM rfl rfl rfl rfl ?_|refine aV rfl rfl rfl (by kernel_rfl) (Ctr.bA (hpv) [0] rfl (ExtOk.of rfl) rfl (by repeat(first|exact trivial|refine⟨am rfl,?_⟩)) rfl (by repeat(first|exact trivial|refine⟨aP,?_⟩)) (fun _=>rfl) rfl rfl) ?_))
 refine pt rfl rfl rfl rfl ?_
 rw [oK]
 (repeat(refine ab ?_))
 refine rz 1 (fun s:(Nat×Sort.Hint)×qG=> [(0,.slu 0 0 n),(1,.sc (.int .i64 (a1:Int))),(2,.sc (.int .i64 (b1:Int))),(3,.sc (.int .i64 (l2:Int))),(8,.sc (.bool wb)),(9,.sc (.bool wp)),(10,.sc (.int .i64 ((b1-a1:Nat):Int))),(11,.sc (.int .i64 (s.1.1:Int))),(12,.sc (.int .i64 (t4 s.1.2)))]) (fun s=> [some (bH n s.2)])
  (fun s=>s.2=(if hint = .decreasing then Sort.reverseRange d2 a1 b1 else d2)∧s.1.1=(if hint = .decreasing then(b1-1)-(p-a1) else p)∧s.1.2=(if hint = .decreasing then .increasing else hint)) (fun _=>rfl) rfl (fun _=>rfl) (fun _=>rfl) ?_ ?_ ?_
 ·intro hw out
  have hw:=of_decide_eq_true hw
  (repeat(first|(refine out _ _ _ (((b1-1)-(p-a1),.increasing),Sort.reverseRange d2 a1 b1) [] ⟨by rw [if_pos hw],by rw [if_pos hw],by rw [if_pos hw]⟩ ?_;(refine⟨(ExtOk.of rfl),rfl,(by repeat(first|exact trivial|refine⟨rfl,?_⟩|refine⟨cp (by(simp only;omega)),?_⟩)),(by repeat(first|exact trivial|refine⟨am rfl,?_⟩))⟩))|refine aj ?_|refine ac ?_|refine ab ?_|refine ai rfl rfl rfl ?_|refine ah rfl rfl rfl ?_|refine bN rfl rfl rfl rfl (by omega) (by omega) ?_|refine aV rfl rfl rfl (by kernel_rfl) (Ctr.bA (pQ n a1 b1 d2 (by omega) hd2 (by omega) hb1) [0] rfl (ExtOk.of rfl) rfl (by repeat(first|exact trivial|refine⟨am rfl,?_⟩)) rfl (by repeat(first|exact trivial|refine⟨aP,?_⟩)) (fun _=>rfl) rfl rfl) ?_))
 ·intro hw out
  have hw:=of_decide_eq_false hw
  (repeat(first|(refine out _ _ _ ((p,hint),d2) [] ⟨by rw [if_neg hw],by rw [if_neg hw],by rw [if_neg hw]⟩ ?_;(refine⟨(ExtOk.of rfl),rfl,(by repeat(first|exact trivial|refine⟨rfl,?_⟩)),(by repeat(first|exact trivial|refine⟨am rfl,?_⟩))⟩))|(refine aE ?_)))
 rintro⟨⟨pv,hint2⟩,d3⟩ ⟨ed3,epv,ehi⟩
 simp only at ed3 epv ehi ⊢
 have hpd3:Sort.PermIn a1 b1 d2 d3:=by
  rw [ed3]
  split
  ·exact Sort.reverseRange_holds d2 a1 b1 hab1 (by omega)
  ·exact Sort.permIn_refl d2 a1 b1
 have hd3:d3.size=n:=by rw [hpd3.1];exact hd2
 have hB3:Sort.Below bh a1 b1 d3:=hB2.perm (by omega) hpd3
 have hpv1:a1≤pv∧pv<b1:=by rw [epv];split <;> omega
 have hgo:=fun pi=>hgo d3 pv hint2 pi ed3 epv ehi
 (repeat refine aj ?_)
 refine mq 1 (fun _:Unit=> [(0,.slu 0 0 n),(1,.sc (.int .i64 (a1:Int))),(2,.sc (.int .i64 (b1:Int))),(3,.sc (.int .i64 (l2:Int))),(8,.sc (.bool wb)),(9,.sc (.bool wp)),(10,.sc (.int .i64 ((b1-a1:Nat):Int))),(11,.sc (.int .i64 (pv:Int))),(68,.sc (.bool (wb && wp && decide (hint2 = .increasing))))]) (fun _=> [some (bH n d3)])
  (fun _=>True) (fun _=>rfl) (fun _=>rfl) (fun _=>rfl) ?_ ?_
 ·intro out
  clear ih ihk ho hgo ehi ed el hpr hpv
  cases wb <;> cases wp <;> cases hint2 <;> (repeat(first|(refine out _ _ _ () [] trivial ?_;(refine⟨(ExtOk.of rfl),rfl,(by repeat(first|exact trivial|refine⟨rfl,?_⟩)),(by repeat(first|exact trivial|refine⟨am rfl,?_⟩))⟩))|refine ac ?_|refine ab ?_|refine ai rfl rfl rfl ?_|refine dT rfl rfl rfl rfl ?_|refine ci rfl rfl rfl rfl ?_|refine jK rfl ?_|(refine pt rfl rfl rfl rfl ?_)))
 rintro _ -
 (repeat refine aj ?_)
 refine rz 1 (fun d':qG=> [(0,.slu 0 0 n),(1,.sc (.int .i64 (a1:Int))),(2,.sc (.int .i64 (b1:Int))),(3,.sc (.int .i64 (l2:Int))),(8,.sc (.bool wb)),(9,.sc (.bool wp)),(10,.sc (.int .i64 ((b1-a1:Nat):Int))),(11,.sc (.int .i64 (pv:Int)))]) (fun d'=> [some (bH n d')])
  (fun d'=>d'.size=n∧Sort.Below bh a1 b1 d'∧Sort.pdq bh d1 a1 b1 l1 wb wp=dy bh d' a1 b1 pv l2 wb wp) (fun _=>rfl) rfl (fun _=>rfl) (fun _=>rfl) ?_ ?_ ?_
 ·intro hw out
  have hps:=ov n a1 b1 d3 (by omega) hd3 (by omega) hb1
  have hpp:=(Sort.partialInsertionSort_holds rN d3 a1 b1 (by omega) (by omega) hB3).1
  have hgo:=hgo _ (by rw [if_pos hw])
  generalize Sort.partialInsertionSort bh d3 a1 b1=pi at hps hpp hgo
  obtain⟨d4,done⟩:=pi
  simp only at hps hpp hgo
  cases done
  ·rw [if_neg (by decide)] at hgo
   (repeat(first|(refine out _ _ _ d4 [] ⟨by rw [hpp.1];exact hd3,hB3.perm (by omega) hpp,hgo⟩ ?_;(refine⟨(ExtOk.of rfl),rfl,(by repeat(first|exact trivial|refine⟨rfl,?_⟩)),(by repeat(first|exact trivial|refine⟨am rfl,?_⟩))⟩))|refine aj ?_|refine ac ?_|refine ab ?_|refine aE ?_|refine an rfl ?_|refine ai rfl rfl rfl ?_|refine aV rfl rfl rfl (by kernel_rfl) (Ctr.bA (hps) [0] rfl (ExtOk.of rfl) rfl (by repeat(first|exact trivial|refine⟨am rfl,?_⟩)) rfl (by repeat(first|exact trivial|refine⟨aP,?_⟩)) (fun _=>rfl) rfl rfl) ?_))
  ·rw [if_pos rfl] at hgo
   (repeat(first|refine aj ?_|refine ac ?_|refine ab ?_|refine ar rfl ?_|refine ai rfl rfl rfl ?_|refine aV rfl rfl rfl (by kernel_rfl) (Ctr.bA (hps) [0] rfl (ExtOk.of rfl) rfl (by repeat(first|exact trivial|refine⟨am rfl,?_⟩)) rfl (by repeat(first|exact trivial|refine⟨aP,?_⟩)) (fun _=>rfl) rfl rfl) ?_))
   ((apply aS Try.func62 (congrArg Array.toList Try.results62));(focus(repeat(exact ResIs.nil)));refine⟨_,rfl,Ends.mk [] (ExtOk.of rfl) rfl rfl ?_⟩)
   rw [← ho,hgo]
   exact(by repeat(first|exact trivial|refine⟨am rfl,?_⟩))
 ·intro hw out
  have hgo:=hgo (d3,false) (by rw [hw];rfl)
  (repeat(first|(refine out _ _ _ d3 [] ⟨hd3,hB3,by rw [hgo];rfl⟩ ?_;(refine⟨(ExtOk.of rfl),rfl,(by repeat(first|exact trivial|refine⟨rfl,?_⟩)),(by repeat(first|exact trivial|refine⟨am rfl,?_⟩))⟩))|(refine aE ?_)))
 rintro d4 ⟨hd4,hB4,hT⟩
 rw [hT] at ho
 clear hgo hT hB3 hd3 hpd3 hB2 hd2 hpd ed ed3 ehi epv el hpv
 have arm: ∀ t:Bool,(decide (a1>0) && !bh d4[a1-1]! d4[pv]!)=t→(decide (a1>0) && !bh d4[a1-1]! d4[pv]!)=t:=fun _ h=>h
 (repeat(refine aj ?_))
 refine mq 1 (fun _:Unit=> [(0,.slu 0 0 n),(1,.sc (.int .i64 (a1:Int))),(2,.sc (.int .i64 (b1:Int))),(3,.sc (.int .i64 (l2:Int))),(8,.sc (.bool wb)),(9,.sc (.bool wp)),(10,.sc (.int .i64 ((b1-a1:Nat):Int))),(11,.sc (.int .i64 (pv:Int))),(87,.sc (.bool (decide (a1>0) && !bh d4[a1-1]! d4[pv]!)))]) (fun _=> [some (bH n d4)])
  (fun _=>True) (fun _=>rfl) (fun _=>rfl) (fun _=>rfl) ?_ ?_
 ·intro out
  refine aT (by kernel_rfl) (by kernel_rfl) ?_
  (repeat(refine ax rfl rfl rfl ?_))
  refine ja rfl rfl rfl rfl ?_ ?_
  all_goals intro h5
  ·have hls_h6:=ey (d4[a1-1]!) (d4[pv]!)
   cases h6:bh (d4[a1-1]!) (d4[pv]!)
   all_goals rw [h6] at hls_h6
   rotate_left
   all_goals(repeat(first|refine ax rfl rfl rfl ?_|refine bK rfl rfl rfl rfl ?_|refine cD rfl rfl rfl rfl (by omega) (by omega) ?_|refine cl rfl rfl rfl ?_|(refine ba (g:=fun x:Int=> .int .i64 x) rfl rfl rfl (F.ag _ rfl) rfl (by(omega)) (by(omega)) ?_)|refine au (q:=a1-1) rfl rfl rfl rfl (F.un _ rfl) (F.sz _ rfl) rfl (by omega) (by omega) (by omega) ?_|refine au (q:=pv) rfl rfl rfl rfl (F.un _ rfl) (F.sz _ rfl) rfl (by omega) (by omega) (by omega) ?_|refine aY rfl rfl rfl (by kernel_rfl) (Ctr.callV (hls_h6) [] rfl (ExtOk.of rfl) rfl trivial rfl) ?_))
   ·skip
    (refine aF ?_);(refine⟨by kernel_rfl,?_,?_⟩);(focus(repeat(first|exact trivial|refine⟨.inl rfl,?_⟩|refine⟨.inr (by(repeat(refine⟨(by first|exact bD rfl|exact aG (F.un _ rfl) (F.sz _ rfl) rfl rfl rfl (by omega) (by omega) (by omega)|exact aL rfl rfl (.inr (.inl ⟨rfl,(zf _ ⟨by omega,by omega⟩).symm⟩))|exact aB rfl|exact aX rfl rfl),?_⟩));exact trivial),?_⟩|refine⟨.inl (by kernel_rfl),?_⟩)))
    have e5:(decide (a1>0) && !bh d4[a1-1]! d4[pv]!)=false:=by simp [h6]
    rw [e5] at out
    (repeat(refine out _ _ _ () [] trivial ?_;(refine⟨(ExtOk.of rfl),rfl,(by repeat(first|exact trivial|refine⟨rfl,?_⟩)),(by repeat(first|exact trivial|refine⟨am rfl,?_⟩))⟩)))
   ·skip
    (refine aF ?_);(refine⟨by kernel_rfl,?_,?_⟩);(focus(repeat(first|exact trivial|refine⟨.inl rfl,?_⟩|refine⟨.inr (by(repeat(refine⟨(by first|exact bD rfl|exact aG (F.un _ rfl) (F.sz _ rfl) rfl rfl rfl (by omega) (by omega) (by omega)|exact aL rfl rfl (.inr (.inl ⟨rfl,(zf _ ⟨by omega,by omega⟩).symm⟩))|exact aB rfl|exact aX rfl rfl),?_⟩));exact trivial),?_⟩|refine⟨.inl (by kernel_rfl),?_⟩)))
    have e5:(decide (a1>0) && !bh d4[a1-1]! d4[pv]!)=true:=by
     have:0<a1:=by omega
     simp [this,h6]
    rw [e5] at out
    (repeat(refine out _ _ _ () [] trivial ?_;(refine⟨(ExtOk.of rfl),rfl,(by repeat(first|exact trivial|refine⟨rfl,?_⟩)),(by repeat(first|exact trivial|refine⟨am rfl,?_⟩))⟩)))
  ·(repeat(first|refine ax rfl rfl rfl ?_|refine bL rfl rfl rfl rfl ?_|refine cd rfl rfl ?_))
   (refine aF ?_);(refine⟨by kernel_rfl,?_,?_⟩);(focus(repeat(first|exact trivial|refine⟨.inl rfl,?_⟩)))
   have e5:(decide (a1>0) && !bh d4[a1-1]! d4[pv]!)=false:=by
    have: ¬ 0<a1:=by omega
    simp [this]
   rw [e5] at out
   (repeat(refine out _ _ _ () [] trivial ?_;(refine⟨(ExtOk.of rfl),rfl,(by repeat(first|exact trivial|refine⟨rfl,?_⟩)),(by repeat(first|exact trivial|refine⟨am rfl,?_⟩))⟩)))
 rintro _ -
 cases h7:(decide (a1>0) && !bh d4[a1-1]! d4[pv]!)
 ·have hps:=ox n a1 b1 pv d4 (by omega) hd4 hpv1.1 hpv1.2 hb1
  obtain⟨mid,ap,d5,hx⟩: ∃ mid ap,∃ d5,Sort.partition bh d4 a1 b1 pv=(mid,ap,d5):=⟨_,_,_,rfl⟩
  obtain⟨g1,g2,g3,g4,g5,g6,g7⟩:=Sort.round_part rN (Sort.partition_holds bh) hpv1.1 hpv1.2 (by omega) hB4 hx
  rw [hx] at hps
  simp only at hps
  have hd5:d5.size=n:=by rw [g3];exact hd4
  (repeat(first|refine aj ?_|refine ac ?_|refine ab ?_|refine aE ?_|refine an rfl ?_|refine ai rfl rfl rfl ?_|refine ah rfl rfl rfl ?_|refine bM rfl rfl rfl rfl ?_|refine bN rfl rfl rfl rfl (by omega) (by omega) ?_|refine nw rfl rfl rfl rfl (by omega) (by omega) (by omega) ?_|refine aV rfl rfl rfl (by kernel_rfl) (Ctr.bA (hps) [0] rfl (ExtOk.of rfl) rfl (by repeat(first|exact trivial|refine⟨am rfl,?_⟩)) rfl (by repeat(first|exact trivial|refine⟨aP,?_⟩)) (fun _=>rfl) rfl rfl) ?_))
  refine cF rfl rfl rfl rfl ?_ ?_
  all_goals intro h8
  ·rw [ol (by rw [h7];decide) hx ⟨g1,g2⟩ (by omega)] at ho
   have hrec:=ihk (mid-a1) (by omega) a1 mid l2 d5 rfl g1 (by omega) hd5 hl2 g4
   have hL:=Sort.pdq_sorts bh rN d5 a1 mid l2 true true g1 (by omega) g4
   have hB6:=(g6 _ hL.1 hL.2).1
   have hd6:(Sort.pdq bh d5 a1 mid l2 true true).size=n:=by rw [hL.1.1];exact hd5
   generalize Sort.pdq bh d5 a1 mid l2 true true=d6 at hrec hB6 hd6 ho
   clear hL g6 g7 hps hpr
   (repeat(first|refine aj ?_|refine ac ?_|refine ab ?_|refine ay ?_|refine ar rfl ?_|refine ai rfl rfl rfl ?_|refine ah rfl rfl rfl ?_|refine bj rfl rfl rfl rfl (by omega) (by omega) ?_|refine aV rfl rfl rfl (by kernel_rfl) (Ctr.bA (hrec) [0] rfl (ExtOk.of rfl) rfl (by repeat(first|exact trivial|refine⟨am rfl,?_⟩)) rfl (by repeat(first|exact trivial|refine⟨aP,?_⟩)) (fun _=>rfl) rfl rfl) ?_|(refine sB rfl rfl rfl rfl ?_)))
   refine ih _ _ _ (((mid+1,b1),l2),((decide (mid-a1≥(b1-a1) / 8),ap),d6)) [] ⟨by simp only;omega,hb1,by simp only;omega,hd6,hl2,hB6,ho⟩ (by simp only;omega) ?_
   have eb:decide ((mid:Int)-(a1:Int)≥((b1-a1:Nat):Int) / 8)=decide (mid-a1≥(b1-a1) / 8):=by
    rw [Bool.eq_iff_iff,decide_eq_true_eq,decide_eq_true_eq]
    omega
   rw [← eb]
   (refine⟨(ExtOk.of rfl),rfl,(by repeat(first|exact trivial|refine⟨rfl,?_⟩)),(by repeat(first|exact trivial|refine⟨am rfl,?_⟩))⟩)
  ·rw [mH (by rw [h7];decide) hx ⟨g1,g2⟩ (by omega)] at ho
   have hrec:=ihk (b1-(mid+1)) (by omega) (mid+1) b1 l2 d5 rfl (by omega) hb1 hd5 hl2 g5
   have hL:=Sort.pdq_sorts bh rN d5 (mid+1) b1 l2 true true (by omega) (by omega) g5
   have hB6:=(g7 _ hL.1 hL.2).1
   have hd6:(Sort.pdq bh d5 (mid+1) b1 l2 true true).size=n:=by rw [hL.1.1];exact hd5
   generalize Sort.pdq bh d5 (mid+1) b1 l2 true true=d6 at hrec hB6 hd6 ho
   clear hL g6 g7 hps hpr
   have emid:((mid:Int)+1)=((mid+1:Nat):Int):=by omega
   (repeat(first|refine aj ?_|refine ac ?_|refine ab ?_|refine an rfl ?_|refine ai rfl rfl rfl ?_|refine ah rfl rfl rfl ?_|refine bj rfl rfl rfl rfl (by omega) (by omega) ?_|(refine sB rfl rfl rfl rfl ?_)))
   rw [emid]
   (repeat(first|refine ac ?_|refine ab ?_|refine ay ?_|refine ai rfl rfl rfl ?_|refine ah rfl rfl rfl ?_|refine aV rfl rfl rfl (by kernel_rfl) (Ctr.bA (hrec) [0] rfl (ExtOk.of rfl) rfl (by repeat(first|exact trivial|refine⟨am rfl,?_⟩)) rfl (by repeat(first|exact trivial|refine⟨aP,?_⟩)) (fun _=>rfl) rfl rfl) ?_))
   refine ih _ _ _ (((a1,mid),l2),((decide (b1-mid≥(b1-a1) / 8),ap),d6)) [] ⟨g1,by simp only;omega,by simp only;omega,hd6,hl2,hB6,ho⟩ (by simp only;omega) ?_
   have eb:decide ((b1:Int)-(mid:Int)≥((b1-a1:Nat):Int) / 8)=decide (b1-mid≥(b1-a1) / 8):=by
    rw [Bool.eq_iff_iff,decide_eq_true_eq,decide_eq_true_eq]
    omega
   rw [← eb]
   (refine⟨(ExtOk.of rfl),rfl,(by repeat(first|exact trivial|refine⟨rfl,?_⟩)),(by repeat(first|exact trivial|refine⟨am rfl,?_⟩))⟩)
 ·have h7':=h7
  rw [zy,decide_eq_true_eq,Bool.not_eq_true'] at h7'
  have hps:=lW n a1 b1 pv d4 (by omega) hd4 hpv1.1 hpv1.2 hb1
  obtain⟨mid,d5,hx⟩: ∃ mid,∃ d5,Sort.partitionEqual bh d4 a1 b1 pv=(mid,d5):=⟨_,_,rfl⟩
  obtain⟨g1,g2,g3,g4,_⟩:=Sort.round_eq rN (Sort.partitionEqual_holds bh) h7'.1 hpv1.1 hpv1.2 (by omega) hB4 h7'.2 hx
  rw [hx] at hps
  simp only at hps
  rw [rO h7 hx ⟨g1,g2⟩] at ho
  (repeat(first|refine aj ?_|refine ac ?_|refine ab ?_|refine aU rfl ?_|refine ar rfl ?_|refine ai rfl rfl rfl ?_|refine ah rfl rfl rfl ?_|refine aV rfl rfl rfl (by kernel_rfl) (Ctr.bA (hps) [0] rfl (ExtOk.of rfl) rfl (by repeat(first|exact trivial|refine⟨am rfl,?_⟩)) rfl (by repeat(first|exact trivial|refine⟨aP,?_⟩)) (fun _=>rfl) rfl rfl) ?_))
  refine ih _ _ _ (((mid,b1),l2),((wb,wp),d5)) [] ⟨g2,hb1,by simp only;omega,by rw [g3];exact hd4,hl2,g4,ho⟩ (by simp only;omega) ?_
  (refine⟨(ExtOk.of rfl),rfl,(by repeat(first|exact trivial|refine⟨rfl,?_⟩)),(by repeat(first|exact trivial|refine⟨am rfl,?_⟩))⟩)
end Go.Proofs.Ytbmekelkddllkaa
end
