import Derived.Sort.AssemblyPlain
import Derived.Sort.LotD5
import Derived.Test.YtbmekelkddllkaaG4
set_option linter.unusedVariables false
set_option linter.unusedSimpArgs false
set_option maxRecDepth 100000
set_option maxHeartbeats 0
section
namespace Go.Proofs.Ytbmekelkddllkaa
open Go Go.Sy Go.Sl Go.RowKit
theorem tP{A:Type} [DecidableEq A]: ∀ {l m:List A},l.Nodup→(∀ x∈l,x∈m)→l.length≤m.length
 | [],_,_,_=>zB _
 | x :: l,m,hn,h=>by
   have hx:=h x (List.mem_cons_self ..)
   have h2:l.length≤(m.erase x).length:=tP (List.nodup_cons.1 hn).2 fun y hy=>(List.mem_erase_of_ne (fun e:y=x=>(List.nodup_cons.1 hn).1 (e ▸ hy))).2 (h y (List.mem_cons_of_mem _ hy))
   rw [List.length_erase_of_mem hx] at h2
   have:=List.length_pos_of_mem hx
   simp only [zD]
   omega
theorem my{m:List (Int×Sec)}: ∀ x∈m,x.1+1≤iN m:=by
 induction m with
 | nil=>intro x hx;cases hx
 | cons y m ih=>
   intro x hx
   unfold iN
   rcases List.mem_cons.1 hx with rfl|hx
   ·split <;> omega
   ·have:=ih x hx
    split <;> omega
theorem l7(m:List (Int×Sec)):0≤iN m:=by
 induction m with
 | nil=>exact Int.le_refl _
 | cons y m ih=>unfold iN;split <;> omega
theorem uT{m:List (Int×Sec)}:iN m=0∨ ∃ x∈m,iN m=x.1+1:=by
 induction m with
 | nil=>exact .inl rfl
 | cons y m ih=>
   unfold iN
   split
   ·exact .inr ⟨y,List.mem_cons_self ..,rfl⟩
   ·rcases ih with h|⟨x,hx,h⟩
    ·exact .inl h
    ·exact .inr ⟨x,List.mem_cons_of_mem _ hx,h⟩
theorem uU{m:List (Int×Sec)}{t:Int}(h0:0≤t)(h1: ∀ x∈m,x.1+1≤t)(h2:t=0∨ ∃ x∈m,t=x.1+1):t=iN m:=by
 have a:iN m≤t:=by
  rcases uT (m:=m)with h|⟨x,hx,h⟩
  ·omega
  ·have:=h1 x hx;omega
 have b:t≤iN m:=by
  rcases h2 with h|⟨x,hx,h⟩
  ·have:=l7 m;omega
  ·have:=my x hx;omega
 omega
theorem sJ{m:List (Int×Sec)}(hn:(m.map (·.1)).Nodup)(h: ∀ x∈m,0≤x.1):(m.length:Int)≤iN m:=by
 have h1:(m.map (·.1)).length≤((List.range (iN m).toNat).map fun n:Nat=>(n:Int)).length:=tP hn fun y hy=>by
  obtain⟨x,hx,rfl⟩:=List.mem_map.1 hy
  have:=h x hx
  have:=my x hx
  exact List.mem_map.2 ⟨x.1.toNat,List.mem_range.2 (by omega),by omega⟩
 simp only [List.length_map,List.length_range] at h1
 have:=l7 m
 omega
theorem eT{l:List (ByteArray×List (Int×Sec))}(hn:(l.map (·.1)).Nodup):cb l=((l.map (·.1)).map fun k=>((a6 l k).map List.length).getD 0).sum:=by
 unfold cb
 rw [List.map_map]
 refine congrArg List.sum (List.map_congr_left fun x hx=>?_)
 have:a6 l x.1=some x.2:=mL hn hx
 simp [this]
theorem jf{l m:List Nat}(h:l.Perm m):l.sum=m.sum:=by
 induction h with
 | nil=>rfl
 | cons x _ ih=>simp [ih]
 | swap x y l=>simp only [List.sum_cons];omega
 | trans _ _ h1 h2=>exact h1.trans h2
structure StepT where
 kind:Int
 n:Int
 name:ByteArray
 to:ByteArray
 b:Nat
 picks:List Int
def DD.Act(D:DD)(s:StepT)(e:Int)(D':DD):Prop:=
 if s.kind=1 then(D',e)=D.make s.name
 else if s.kind=2 then(D',e)=D.write s.name s.n (Sct.full s.b)
 else if s.kind=3 then(D',e)=D.sync s.name
 else if s.kind=4 then(D',e)=D.remove s.name
 else if s.kind=5 then(D',e)=D.rename s.name s.to
 else if s.kind=6 then(D',e)=(D.lay' s.n,0)
 else if s.kind=7 then e=0∧D.Lost s.picks.isEmpty D'
 else if s.kind=8 then(D',e)=D.spoil s.name s.n (Sct.full s.b)
 else(D',e)=(D,0)
structure Rooms (D D':DD) (s:StepT) (e:Int) (N:Nat):Prop where
 ok:D'.Ok (N+1)
 cap:D'.cap=D.cap
 lays:(s.kind=2∨s.kind=8)→e=0→(D'.used=D.used∨D'.used=D.used+1)∧s.n<D'.count s.name
 full:(s.kind=2∨s.kind=8)→e=5→D.used=D.cap
 lost:s.kind=7→D'.used=D.used
 dead:D.dead=true→1≤s.kind→s.kind<6→e≠0
theorem DD.Lost.get{no:Bool}{D D':DD}(h:D.Lost no D'){k:ByteArray}{m':List (Int×Sec)}(hg:a6 D'.files k=some m'): ∃ m,a6 D.files k=some m∧(m'.map (·.1)).Perm (m.map (·.1))∧ ∀ n s,a6 m n=some s→ ∃ s',a6 m' n=some s'∧lost no s s':=by
 have hk:k∈D.files.map (·.1):=h.keys.subset (dj hg)
 obtain⟨m,hm⟩:=dI hk
 obtain⟨m2,h1,h2,h3⟩:=h.secs k m hm
 rw [hg] at h1
 cases h1
 exact⟨m,hm,h2,h3⟩
theorem DD.Lost.back{no:Bool}{m m':List (Int×Sec)}(hk:(m'.map (·.1)).Perm (m.map (·.1)))(hs: ∀ n s,a6 m n=some s→ ∃ s',a6 m' n=some s'∧lost no s s'){n:Int}{s':Sec}(hg:a6 m' n=some s'): ∃ s,a6 m n=some s∧lost no s s':=by
 obtain⟨s,h⟩:=dI (hk.subset (dj hg))
 obtain⟨s2,h1,h2⟩:=hs n s h
 rw [hg] at h1
 cases h1
 exact⟨s,h,h2⟩
theorem DD.Lost.used{no:Bool}{D D':DD}(h:D.Lost no D')(hn:(D.files.map (·.1)).Nodup):D'.used=D.used:=by
 unfold DD.used
 rw [eT hn,eT ((h.keys.nodup_iff).2 hn),jf (h.keys.map _)]
 refine congrArg List.sum (List.map_congr_left fun k hk=>?_)
 obtain⟨m,hm⟩:=dI hk
 obtain⟨m',h1,h2,_⟩:=h.secs k m hm
 have:=h2.length_eq
 simp only [List.length_map] at this
 simp [hm,h1,this]
theorem DD.Lost.ok{no:Bool}{D D':DD}{N:Nat}(h:D.Lost no D')(H:D.Ok N):D'.Ok N:=by
 refine⟨⟨(h.keys.nodup_iff).2 H.f.ndF,fun k m' hm=>?_,fun k m' hm x hx=>?_,fun k m' hm=>?_,?_,?_,?_,fun k m' n s' hm hs=>?_⟩,by rw [h.changes];exact zB _,by rw [h.fuse];omega,by rw [h.cap];exact H.cap⟩
 ·obtain⟨m,h1,h2,_⟩:=h.get hm
  exact(h2.nodup_iff).2 (H.f.ndS k m h1)
 ·obtain⟨m,h1,h2,_⟩:=h.get hm
  obtain⟨y,hy,hyx⟩:=List.mem_map.1 (h2.subset (List.mem_map_of_mem hx))
  have:=H.f.num k m h1 y hy
  rw [hyx] at this
  exact this
 ·obtain⟨m,h1,_⟩:=h.get hm
  exact H.f.name k m h1
 ·have:=h.keys.length_eq
  simp only [List.length_map] at this
  rw [this];exact H.f.few
 ·have:=h.used H.f.ndF
  have:=H.f.used
  unfold DD.used at *
  omega
 ·have:=h.used H.f.ndF
  have:=H.f.room
  unfold DD.used at *
  rw [h.cap]
  omega
 ·obtain⟨m,h1,h2,h3⟩:=h.get hm
  obtain⟨s,_,h5⟩:=DD.Lost.back h2 h3 hs
  rw [h5.1]
  exact zB _
theorem DD.Ok.mono{D:DD}{N M:Nat}(h:D.Ok N)(hN:N≤M):D.Ok M:=⟨h.f.mono hN,zI h.chg hN,h.fuse,h.cap⟩
theorem DD.fi{D:DD}{wr:Bool}{g:DD→DD}{Q:DD→Int→Prop}(hd:D.dead=true→Q D 8)(hl:D.dead=false→D.fuse=0→wr=false→Q {D with dead:=true,changes:=D.changes+1} 8)
 (hw:D.dead=false→D.fuse=0→wr=true→Q (g {D with dead:=true,changes:=D.changes+1}) 8) (hg:D.dead=false→D.fuse≠0→Q (g {D with fuse:=if 0<D.fuse then D.fuse-1 else D.fuse,changes:=D.changes+1}) 0):Q (D.change wr g).1 (D.change wr g).2:=by
 unfold DD.change
 split
 ·rename_i h;exact hd h
 ·rename_i h
  have h':D.dead=false:=by simpa using h
  split
  ·rename_i hf
   cases wr with
   | true=>exact hw h' hf rfl
   | false=>exact hl h' hf rfl
  ·rename_i hf;exact hg h' hf
theorem DD.Ok.files{D D':DD}{N M:Nat}(h:D.Ok N)(hN:N<M)(hf:Fok D'.files D.cap M)(hc:D'.cap=D.cap)(hfu:D'.fuse=D.fuse∨D'.fuse=if 0<D.fuse then D.fuse-1 else D.fuse)(hch:D'.changes=D.changes∨D'.changes=D.changes+1):D'.Ok M:=by
 have h1:=h.chg
 have h2:=h.fuse
 refine⟨by rw [hc];exact hf,by omega,?_,by rw [hc];exact h.cap⟩
 rcases hfu with e|e
 ·rw [e];exact h2
 ·rw [e];split <;> omega
theorem pW{D:DD}{k:ByteArray}{n:Int}(h:D.look k n=0):gZ k=true∧0≤n∧n<65536∧ ∃ m,a6 D.files k=some m:=by
 unfold DD.look at h
 split at h
 ·cases h
 ·rename_i h1
  split at h
  ·cases h
  ·rename_i h2
   refine⟨?_,by omega,by omega,?_⟩
   ·cases hk:gZ k with
    | true=>rfl
    | false=>exact absurd (.inl hk) h1
   ·cases hm:a6 D.files k with
    | none=>exact absurd hm h2
    | some m=>exact⟨m,rfl⟩
theorem qN{D:DD}{k:ByteArray}{n:Int}(h:D.look k n≠0):D.look k n=2∨D.look k n=6:=by
 unfold DD.look at h ⊢
 split
 ·exact .inl rfl
 ·rename_i h1
  rw [if_neg h1] at h
  split
  ·exact .inr rfl
  ·rename_i h2;rw [if_neg h2] at h;exact absurd rfl h
theorem ll{D D1:DD}{N:Nat}(h:D.Ok N){k:ByteArray}{n:Int}(hl:D.look k n=0)(hf:D.fits k n=true){f:Sec→Sec}(hs: ∀ s,(s=Sec.zero∨ ∃ m,a6 D.files k=some m∧a6 m n=some s)→(f s).writes.length≤N+1)(h1:D1.files=D.files)(h2:D1.cap=D.cap)(h3:D1.fuse=D.fuse∨D1.fuse=if 0<D.fuse then D.fuse-1 else D.fuse)(h4:D1.changes=D.changes∨D1.changes=D.changes+1) :
 (D1.lay k n f).Ok (N+1)∧(D1.lay k n f).cap=D.cap∧((D1.lay k n f).used=D.used∨(D1.lay k n f).used=D.used+1)∧n<(D1.lay k n f).count k:=by
 obtain⟨a1,a2,a3,m,hm⟩:=pW hl
 have e:D1.lay k n f=D1.setFiles (cc D.files k (cc m n (f ((a6 m n).getD Sec.zero)))):=by
  unfold DD.lay
  rw [h1,hm]
 have hw:(f ((a6 m n).getD Sec.zero)).writes.length≤N+1:=by
  refine hs _ ?_
  cases hg:a6 m n with
  | none=>exact .inl rfl
  | some s=>exact .inr ⟨m,hm,hg⟩
 have hfit:a6 m n≠none∨cb D.files<D.cap:=by
  unfold DD.fits DD.sec DD.used at hf
  rw [hm] at hf
  simp only at hf
  cases hg:a6 m n with
  | none=>rw [hg] at hf;exact .inr (by simpa using hf)
  | some s=>exact .inl (by simp)
 have hF:=h.f.lay hm ⟨a2,a3⟩ hfit hw
 have hsz:=eZ hm (cc m n (f ((a6 m n).getD Sec.zero)))
 rw [e]
 refine⟨h.files (Nat.lt_succ_self _) hF h2 h3 h4,h2,?_,?_⟩
 ·show cb _=cb _∨cb _=cb _+1
  cases hg:a6 m n with
  | none=>
    rw [hg] at hsz
    rw [li hg] at hsz
    exact .inr (by show cb _=_;simp only [DD.setFiles] at *;omega)
  | some s=>
    rw [hg] at hsz
    rw [mT hg] at hsz
    exact .inl (by show cb _=_;simp only [DD.setFiles] at *;omega)
 ·have:(D1.setFiles (cc D.files k (cc m n (f ((a6 m n).getD Sec.zero))))).count k=iN (cc m n (f ((a6 m n).getD Sec.zero))):=by
   unfold DD.count DD.setFiles
   simp only [bX,if_true]
  rw [this]
  have hx:a6 (cc m n (f ((a6 m n).getD Sec.zero))) n=some (f ((a6 m n).getD Sec.zero)):=by rw [bX,if_pos rfl]
  obtain⟨l1,l2,h5,_⟩:=da hx
  have:=my (m:=cc m n (f ((a6 m n).getD Sec.zero))) (n,f ((a6 m n).getD Sec.zero)) (by rw [h5];simp)
  simp only at this
  omega
theorem dN{D D':DD}{N:Nat}{s:StepT}{e:Int}(h:D.Ok N)(ha:D.Act s e D')(hn : -9223372036854775808≤s.n∧s.n≤9223372036854775807):Rooms D D' s e N:=by
 have hok:=h.mono (zJ N)
 unfold DD.Act at ha
 have stay:(s.kind=2∨s.kind=8→False)→s.kind≠7→ ∀ D1 e1,D1.Ok (N+1)→D1.cap=D.cap→(D.dead=true→1≤s.kind→s.kind<6→e1≠0)→Rooms D D1 s e1 N:=fun h1 h2 D1 e1 h3 h4 h5=>⟨h3,h4,fun q=>(h1 q).elim,fun q=>(h1 q).elim,fun q=>(h2 q).elim,h5⟩
 have tick0: ∀ {D1:DD},D1 = {D with dead:=true,changes:=D.changes+1}→D1.Ok (N+1):=fun e=>by subst e;exact h.files (Nat.lt_succ_self _) (h.f.mono (zJ _)) rfl (.inl rfl) (.inr rfl)
 by_cases k1:s.kind=1
 ·rw [if_pos k1] at ha
  obtain⟨rfl,rfl⟩:D'=(D.make s.name).1∧e=(D.make s.name).2:=by rw [← ha];exact⟨rfl,rfl⟩
  have no:s.kind=2∨s.kind=8→False:=fun q=>(by omega)
  unfold DD.make
  split
  ·exact stay no (by omega) _ _ hok rfl (fun _ _ _=>(by simp))
  split
  ·exact stay no (by omega) _ _ hok rfl (fun _ _ _=>(by simp))
  split
  ·exact stay no (by omega) _ _ hok rfl (fun _ _ _=>(by simp))
  rename_i g1 g2 g3
  have hk:gZ s.name=true:=by simpa using g1
  have hg:a6 D.files s.name=none:=by simpa using g2
  refine DD.fi (Q:=fun D1 e1=>Rooms D D1 s e1 N) (fun _=>stay no (by omega) _ _ hok rfl (fun _ _ _=>(by simp))) (fun _ _ _=>stay no (by omega) _ _ (tick0 rfl) rfl (fun _ _ _=>(by simp))) (fun _ _ q=>(by cases q)) (fun q _=>stay no (by omega) _ _ ?_ rfl (fun q2=>(by rw [q] at q2;cases q2)))
  exact h.files (Nat.lt_succ_self _) ((h.f.make hk hg (by omega)).mono (zJ _)) rfl (.inr rfl) (.inr rfl)
 rw [if_neg k1] at ha
 have wrote: ∀ (b:Sct),D.look s.name s.n=0→D.fits s.name s.n=true→ ∀ t,(t=Sec.zero∨ ∃ m,a6 D.files s.name=some m∧a6 m s.n=some t)→(⟨t.lasts,t.writes ++ [b]⟩:Sec).writes.length≤N+1:=fun b _ _ t ht=>by
  rcases ht with rfl|⟨m,hm,ht⟩
  ·simp [Sec.zero]
  ·have:=h.f.wr _ m s.n t hm ht
   simp
   omega
 by_cases k2:s.kind=2
 ·rw [if_pos k2] at ha
  obtain⟨rfl,rfl⟩:D'=(D.write s.name s.n (Sct.full s.b)).1∧e=(D.write s.name s.n (Sct.full s.b)).2:=by rw [← ha];exact⟨rfl,rfl⟩
  unfold DD.write
  split
  ·rename_i g1
   have:=qN g1
   exact⟨hok,rfl,fun _ q=>absurd q g1,fun _ q=>(by omega),fun q=>(by omega),fun _ _ _=>g1⟩
  rename_i g1
  have g1':D.look s.name s.n=0:=by simpa using g1
  split
  ·rename_i g2
   refine⟨hok,rfl,fun _ q=>(by simp at q),fun _ _=>?_,fun q=>(by omega),fun _ _ _=>(by simp)⟩
   unfold DD.fits at g2
   simp only [Bool.or_eq_false_iff,decide_eq_false_iff_not] at g2
   have:=h.f.room
   have g3:=g2.2
   unfold DD.used at *
   omega
  rename_i g2
  have g2':D.fits s.name s.n=true:=by simpa using g2
  have hw:=wrote (Sct.full s.b) g1' g2'
  refine DD.fi (Q:=fun D1 e1=>Rooms D D1 s e1 N) (fun _=>⟨hok,rfl,fun _ q=>(by simp at q),fun _ q=>(by simp at q),fun q=>(by omega),fun _ _ _=>(by simp)⟩) (fun _ _ q=>(by cases q)) (fun _ _ _=>?_) (fun q _=>?_)
  ·obtain⟨b1,b2,_⟩:=ll h g1' g2' (f:=fun t=>⟨t.lasts,t.writes ++ [Sct.full s.b]⟩) hw (D1:={D with dead:=true,changes:=D.changes+1}) rfl rfl (.inl rfl) (.inr rfl)
   exact⟨b1,b2,fun _ q=>(by simp at q),fun _ q=>(by simp at q),fun q=>(by omega),fun _ _ _=>(by simp)⟩
  ·obtain⟨b1,b2,b3,b4⟩:=ll h g1' g2' (f:=fun t=>⟨t.lasts,t.writes ++ [Sct.full s.b]⟩) hw (D1:={D with fuse:=if 0<D.fuse then D.fuse-1 else D.fuse,changes:=D.changes+1}) rfl rfl (.inr rfl) (.inr rfl)
   exact⟨b1,b2,fun _ _=>⟨b3,b4⟩,fun _ q=>(by simp at q),fun q=>(by omega),fun q2=>(by rw [q] at q2;cases q2)⟩
 rw [if_neg k2] at ha
 by_cases k3:s.kind=3
 ·rw [if_pos k3] at ha
  obtain⟨rfl,rfl⟩:D'=(D.sync s.name).1∧e=(D.sync s.name).2:=by rw [← ha];exact⟨rfl,rfl⟩
  have no:s.kind=2∨s.kind=8→False:=fun q=>(by omega)
  unfold DD.sync
  split
  ·rename_i g1
   exact stay no (by omega) _ _ hok rfl (fun _ _ _=>g1)
  rename_i g1
  obtain⟨_,_,_,m,hm⟩:=pW (D:=D) (k:=s.name) (n:=0) (by simpa using g1)
  refine DD.fi (Q:=fun D1 e1=>Rooms D D1 s e1 N) (fun _=>stay no (by omega) _ _ hok rfl (fun _ _ _=>(by simp))) (fun _ _ _=>stay no (by omega) _ _ (tick0 rfl) rfl (fun _ _ _=>(by simp))) (fun _ _ q=>(by cases q)) (fun q _=>?_)
  simp only [hm]
  exact stay no (by omega) _ _ (h.files (Nat.lt_succ_self _) ((h.f.sync hm).mono (zJ _)) rfl (.inr rfl) (.inr rfl)) rfl (fun q2=>(by rw [q] at q2;cases q2))
 rw [if_neg k3] at ha
 by_cases k4:s.kind=4
 ·rw [if_pos k4] at ha
  obtain⟨rfl,rfl⟩:D'=(D.remove s.name).1∧e=(D.remove s.name).2:=by rw [← ha];exact⟨rfl,rfl⟩
  have no:s.kind=2∨s.kind=8→False:=fun q=>(by omega)
  unfold DD.remove
  split
  ·rename_i g1
   exact stay no (by omega) _ _ hok rfl (fun _ _ _=>g1)
  refine DD.fi (Q:=fun D1 e1=>Rooms D D1 s e1 N) (fun _=>stay no (by omega) _ _ hok rfl (fun _ _ _=>(by simp))) (fun _ _ _=>stay no (by omega) _ _ (tick0 rfl) rfl (fun _ _ _=>(by simp))) (fun _ _ q=>(by cases q)) (fun q _=>?_)
  exact stay no (by omega) _ _ (h.files (Nat.lt_succ_self _) ((h.f.gone s.name).mono (zJ _)) rfl (.inr rfl) (.inr rfl)) rfl (fun q2=>(by rw [q] at q2;cases q2))
 rw [if_neg k4] at ha
 by_cases k5:s.kind=5
 ·rw [if_pos k5] at ha
  obtain⟨rfl,rfl⟩:D'=(D.rename s.name s.to).1∧e=(D.rename s.name s.to).2:=by rw [← ha];exact⟨rfl,rfl⟩
  have no:s.kind=2∨s.kind=8→False:=fun q=>(by omega)
  unfold DD.rename
  split
  ·exact stay no (by omega) _ _ hok rfl (fun _ _ _=>(by simp))
  rename_i g1
  split
  ·exact stay no (by omega) _ _ hok rfl (fun _ _ _=>(by simp))
  rename_i g2
  refine DD.fi (Q:=fun D1 e1=>Rooms D D1 s e1 N) (fun _=>stay no (by omega) _ _ hok rfl (fun _ _ _=>(by simp))) (fun _ _ _=>stay no (by omega) _ _ (tick0 rfl) rfl (fun _ _ _=>(by simp))) (fun _ _ q=>(by cases q)) (fun q _=>?_)
  have hd: ∀ e1:Int,D.dead=true→1≤s.kind→s.kind<6→e1≠0:=fun _ q2=>by rw [q] at q2;cases q2
  unfold DD.moved
  split
  ·exact stay no (by omega) _ _ (h.files (Nat.lt_succ_self _) (h.f.mono (zJ _)) rfl (.inr rfl) (.inr rfl)) rfl (hd _)
  rename_i hne
  simp only
  cases hm:a6 D.files s.name with
  | none=>exact absurd hm g2
  | some m=>
    have ht:gZ s.to=true:=by
     cases ht:gZ s.to with
     | true=>rfl
     | false=>exact absurd (.inr ht) g1
    exact stay no (by omega) _ _ (h.files (Nat.lt_succ_self _) ((h.f.moved hm hne ht).mono (zJ _)) rfl (.inr rfl) (.inr rfl)) rfl (hd _)
 rw [if_neg k5] at ha
 by_cases k6:s.kind=6
 ·rw [if_pos k6] at ha
  obtain⟨rfl,rfl⟩:=Prod.mk.inj ha
  have no:s.kind=2∨s.kind=8→False:=fun q=>(by omega)
  refine stay no (by omega) _ _ ?_ ?_ (fun _ _ q=>(by omega))
  ·unfold DD.lay'
   split
   ·exact hok
   ·exact⟨hok.f,hok.chg,by show -1≤(if s.n < -1 then -1 else s.n)∧(if s.n < -1 then -1 else s.n)≤9223372036854775807;split <;> omega,hok.cap⟩
  ·unfold DD.lay'
   split <;> rfl
 rw [if_neg k6] at ha
 by_cases k7:s.kind=7
 ·rw [if_pos k7] at ha
  obtain⟨rfl,hl⟩:=ha
  exact⟨hl.ok hok,hl.cap,fun q=>(by omega),fun q=>(by omega),fun _=>hl.used h.f.ndF,fun _ _ q=>(by omega)⟩
 rw [if_neg k7] at ha
 by_cases k8:s.kind=8
 ·rw [if_pos k8] at ha
  obtain⟨rfl,rfl⟩:D'=(D.spoil s.name s.n (Sct.full s.b)).1∧e=(D.spoil s.name s.n (Sct.full s.b)).2:=by rw [← ha];exact⟨rfl,rfl⟩
  unfold DD.spoil
  split
  ·rename_i g1
   have:=qN g1
   exact⟨hok,rfl,fun _ q=>absurd q g1,fun _ q=>(by omega),fun q=>(by omega),fun _ _ _=>g1⟩
  rename_i g1
  have g1':D.look s.name s.n=0:=by simpa using g1
  split
  ·rename_i g2
   refine⟨hok,rfl,fun _ q=>(by simp at q),fun _ _=>?_,fun q=>(by omega),fun _ _ _=>(by simp)⟩
   unfold DD.fits at g2
   simp only [Bool.or_eq_false_iff,decide_eq_false_iff_not] at g2
   have:=h.f.room
   have g3:=g2.2
   unfold DD.used at *
   omega
  rename_i g2
  have g2':D.fits s.name s.n=true:=by simpa using g2
  obtain⟨b1,b2,b3,b4⟩:=ll h g1' g2' (f:=fun _=>⟨Sct.full s.b,[]⟩) (fun _ _=>zB _) (D1:=D) rfl rfl (.inl rfl) (.inl rfl)
  exact⟨b1,b2,fun _ _=>⟨b3,b4⟩,fun _ q=>(by simp at q),fun q=>(by omega),fun _ _ q=>(by omega)⟩
 rw [if_neg k8] at ha
 obtain⟨rfl,rfl⟩:=Prod.mk.inj ha
 exact stay (fun q=>(by omega)) k7 _ _ hok rfl (fun _ q1 q2=>by omega)
def Wr(l:List (ByteArray×List (Int×Sec)))(P:Int→Sct→Prop):Prop:= ∀ k m n s,a6 l k=some m→a6 m n=some s→ ∀ w∈s.writes,P n w
theorem Wr.nil{P:Int→Sct→Prop}:Wr [] P:=fun _ _ _ _ h=>by simp [dZ] at h
theorem Wr.mono{l:List (ByteArray×List (Int×Sec))}{P Q:Int→Sct→Prop}(h:Wr l P)(hq: ∀ n w,P n w→Q n w):Wr l Q:=fun k m n s h1 h2 w hw=>hq n w (h k m n s h1 h2 w hw)
theorem Wr.put{l:List (ByteArray×List (Int×Sec))}{P:Int→Sct→Prop}(h:Wr l P){k:ByteArray}{m:List (Int×Sec)}(hm: ∀ n s,a6 m n=some s→ ∀ w∈s.writes,P n w):Wr (cc l k m) P:=fun k' m' n s h1 h2 w hw=>by
 rw [bX] at h1
 split at h1
 ·cases h1;exact hm n s h2 w hw
 ·exact h k' m' n s h1 h2 w hw
theorem Wr.del{l:List (ByteArray×List (Int×Sec))}{P:Int→Sct→Prop}(h:Wr l P)(hn:(l.map (·.1)).Nodup)(k:ByteArray):Wr (eJ l k) P:=fun k' m' n s h1 h2 w hw=>h k' m' n s (db hn h1).2 h2 w hw
theorem Wr.lay{D:DD}{P:Int→Sct→Prop}(h:Wr D.files P){k:ByteArray}{n:Int}{f:Sec→Sec}(hf: ∀ s,(∀ w∈s.writes,P n w)→ ∀ w∈(f s).writes,P n w):Wr (D.lay k n f).files P:=by
 unfold DD.lay
 cases hm:a6 D.files k with
 | none=>exact h
 | some m=>
   refine h.put fun n' s hs w hw=>?_
   rw [bX] at hs
   split at hs
   ·rename_i e
    subst e
    cases hs
    refine hf _ (fun w hw=>?_) w hw
    cases hg:a6 m n with
    | none=>rw [hg] at hw;simp [Sec.zero] at hw
    | some s=>rw [hg] at hw;exact h k m n s hm hg w hw
   ·exact h k m n' s hm hs w hw
def Quiet(D:DD):Prop:= ∀ k m n s,a6 D.files k=some m→a6 m n=some s→s.writes= []
structure DD.Eq (D D':DD):Prop where
 cap:D.cap=D'.cap
 len:D.files.length=D'.files.length
 secs: ∀ k m,a6 D.files k=some m→ ∃ m',a6 D'.files k=some m'∧m'.length=m.length∧ ∀ n s,a6 m n=some s→a6 m' n=some s
theorem DD.Lost.same{no:Bool}{D D':DD}(h:D.Lost no D')(hq:Quiet D):D.Eq D':=by
 refine⟨h.cap.symm,?_,fun k m hm=>?_⟩
 ·have:=h.keys.length_eq
  simpa using this.symm
 ·obtain⟨m',h1,h2,h3⟩:=h.secs k m hm
  refine⟨m',h1,by simpa using h2.length_eq,fun n s hs=>?_⟩
  obtain⟨s',h4,h5,h6⟩:=h3 n s hs
  have hs0:=hq k m n s hm hs
  rcases h6 with h6|⟨_,h6⟩
  ·have:s'=s:=by cases s';cases s;simp only at *;simp [h5,h6,hs0]
   rw [← this];exact h4
  ·rw [hs0] at h6;cases h6
theorem DD.Lost.look{no:Bool}{D D':DD}(h:D.Lost no D')(k:ByteArray)(n:Int):D'.look k n=D.look k n:=by
 have:a6 D'.files k=none↔a6 D.files k=none:=by
  rw [cq,cq,h.keys.mem_iff]
 unfold DD.look
 simp only [this]
theorem DD.Lost.sec{no:Bool}{D D':DD}(h:D.Lost no D')(k:ByteArray)(n:Int):(D.sec k n=none∧D'.sec k n=none)∨ ∃ s s',D.sec k n=some s∧D'.sec k n=some s'∧lost no s s':=by
 unfold DD.sec
 cases hm:a6 D.files k with
 | none=>
   have:a6 D'.files k=none:=by rw [cq,h.keys.mem_iff,←cq];exact hm
   rw [this]
   exact .inl ⟨rfl,rfl⟩
 | some m=>
   obtain⟨m',h1,h2,h3⟩:=h.secs k m hm
   rw [h1]
   simp only
   cases hs:a6 m n with
   | none=>
     have:a6 m' n=none:=by rw [cq,h2.mem_iff,←cq];exact hs
     exact .inl ⟨rfl,this⟩
   | some s=>
     obtain⟨s',h4,h5⟩:=h3 n s hs
     exact .inr ⟨s,s',rfl,h4,h5⟩
abbrev pz(s:Sct):List Value:=s.1.map fun n:Nat=> .int .u8 (n:Int)
abbrev cW(s:Sct):List SV:=(pz s).map .sc
theorem eL(s:Sct):(pz s).length=256:=by rw [List.length_map];exact s.2
theorem bB(s:Sct):(cW s).length=256:=by rw [List.length_map];exact eL s
theorem recV:RecOf pz 256:=⟨eL,fun s v hv=>by
 obtain⟨n,_,rfl⟩:=List.mem_map.1 hv
 rfl⟩
abbrev x8(ro:Bool)(l:List Sct):VO:=dat ro l.length 256 45 (l.flatMap pz)
abbrev kE:ByteArray→Value:=fun s=> .string s
abbrev iE:Int→Value:=fun n=> .int .i64 n
theorem kK:KEnc Try.prog 9 kE:=vM (F.un _ rfl)
theorem iK:KEnc Try.prog 3 iE:=vN (F.un _ rfl)
def y9(v:SV)(l:List Sct):Own:=fun H Fp=>(v = .sc (.slice none 0 0)∧l= []∧ ∀ n,¬ Fp n)∨ ∃ r,v = .slu r 0 l.length∧H.at' r=some (x8 false l)∧ ∀ n,Fp n↔n=r
def PS(_:Int)(x:Nat×Sec):Own:=fun H Fp=> ∃ v G,H.at' x.1=some (ak 80 (cW x.2.lasts ++ [v]))∧y9 v x.2.writes H G∧ ¬ G x.1∧ ∀ n,Fp n↔n=x.1∨G n
theorem sd(v:SV)(l:List Sct):lN (y9 v l):=fun H H' Fp h hf=>h.elim (fun h=> .inl h) fun⟨r,h1,h2,h3⟩=> .inr ⟨r,h1,(hf r ((h3 r).2 rfl)).trans h2,h3⟩
theorem d9(k:Int)(x:Nat×Sec):lN (PS k x):=fun H H' Fp ⟨v,G,h1,h2,h3,h4⟩ hf=>⟨v,G,(hf _ ((h4 _).2 (.inl rfl))).trans h1,sd _ _ _ _ _ h2 fun n hn=>hf n ((h4 n).2 (.inr hn)),h3,h4⟩
abbrev MSc:=List (Int×(Nat×Sec)×Nat)
abbrev MFl:=List (ByteArray×(Nat×List (Int×Sec))×Nat)
abbrev iS:Nat×Sec→SV:=fun x=> .ptr x.1 0
abbrev f8:Nat×List (Int×Sec)→SV:=fun x=> .ptr x.1 0
abbrev di(m:MSc):List (Int×Sec):=(kv m).map fun x=>(x.1,x.2.2)
abbrev pm(m:MFl):List (ByteArray×List (Int×Sec)):=(kv m).map fun x=>(x.1,x.2.2)
structure Fl (n ms:Nat) (m:MSc) (c:Nat) (G:Nat→Prop) (H:aK):Prop where
 box:H.at' n=some (ak 63 [.mp ms])
 map:H.at' ms=some (eK iE iS m c)
 ok:KOk m c
 big:Big PS (kv m) H G
 ne:n≠ms
 nn: ¬ G n
 nm: ¬ G ms
def PF(_:ByteArray)(x:Nat×List (Int×Sec)):Own:=fun H Fp=> ∃ ms m c G,Fl x.1 ms m c G H∧x.2=di m∧ ∀ n,Fp n↔n=x.1∨n=ms∨G n
theorem Fl.frame{n ms:Nat}{m:MSc}{c:Nat}{G:Nat→Prop}{H H':aK}(h:Fl n ms m c G H)(hf: ∀ z,(z=n∨z=ms∨G z)→H'.at' z=H.at' z):Fl n ms m c G H':=
 ⟨(hf n (.inl rfl)).trans h.box,(hf ms (.inr (.inl rfl))).trans h.map,h.ok,Big.frame d9 _ _ _ _ h.big fun z hz=>hf z (.inr (.inr hz)),h.ne,h.nn,h.nm⟩
theorem dO(k:ByteArray)(x:Nat×List (Int×Sec)):lN (PF k x):=fun H H' Fp ⟨ms,m,c,G,h1,h2,h3⟩ hf=>⟨ms,m,c,G,h1.frame fun z hz=>hf z ((h3 z).2 hz),h2,h3⟩
abbrev dkC(D:DD)(mp:Nat):List SV:= [.sc (.int .i64 (D.cap:Int)),.mp mp,.sc (.int .i64 (D.used:Int)),.sc (.int .i64 D.fuse),.sc (.bool D.dead),.sc (.int .i64 (D.changes:Int))]
structure Dk (d mp:Nat) (m:MFl) (c:Nat) (D:DD) (G:Nat→Prop) (H:aK):Prop where
 box:H.at' d=some (ak 58 (dkC D mp))
 map:H.at' mp=some (eK kE f8 m c)
 ok:KOk m c
 big:Big PF (kv m) H G
 fl:D.files=pm m
 ne:d≠mp
 nd: ¬ G d
 nm: ¬ G mp
 cap:D.cap≠0
def DAt(d:Nat)(D:DD)(Fp:Nat→Prop)(H:aK):Prop:= ∃ mp m c G,Dk d mp m c D G H∧ ∀ n,Fp n↔n=d∨n=mp∨G n
theorem Dk.frame{d mp:Nat}{m:MFl}{c:Nat}{D:DD}{G:Nat→Prop}{H H':aK}(h:Dk d mp m c D G H)(hf: ∀ z,(z=d∨z=mp∨G z)→H'.at' z=H.at' z):Dk d mp m c D G H':=
 ⟨(hf d (.inl rfl)).trans h.box,(hf mp (.inr (.inl rfl))).trans h.map,h.ok,Big.frame dO _ _ _ _ h.big fun z hz=>hf z (.inr (.inr hz)),h.fl,h.ne,h.nd,h.nm,h.cap⟩
theorem DAt.frame{d:Nat}{D:DD}{Fp:Nat→Prop}{H H':aK}(h:DAt d D Fp H)(hf: ∀ z,Fp z→H'.at' z=H.at' z):DAt d D Fp H':=by
 obtain⟨mp,m,c,G,h1,h2⟩:=h
 exact⟨mp,m,c,G,h1.frame fun z hz=>hf z ((h2 z).2 hz),h2⟩
theorem dR(m:MFl)(k:ByteArray):a6 (pm m) k=(cr m k).map (·.2):=by
 rw [← ju]
 exact mM (fun x:Nat×List (Int×Sec)=>x.2) (kv m) k
theorem kp(m:MSc)(k:Int):a6 (di m) k=(cr m k).map (·.2):=by
 rw [← ju]
 exact mM (fun x:Nat×Sec=>x.2) (kv m) k
theorem wI(m:MFl):(pm m).length=m.length:=by simp [kv]
theorem wH(m:MSc):(di m).length=m.length:=by simp [kv]
theorem gX{d cap:Nat}{rest:List SV}{H:aK}{nx:Nat}(h:H.at' d=some (ak 58 (.sc (.int .i64 (cap:Int)) :: rest)))(hc:cap≠0):Fnc Try.prog 29 [.ptr d 0] H nx (fun r=>r=(.sc (.bool false),H,nx)):=by
 refine Fnc.start Try.func29 rfl rfl ?_
 (repeat(first|refine aj ?_|refine ac ?_|refine ab ?_|(apply ai;exact rfl;exact rfl;exact rfl)|(apply ah;exact rfl;exact rfl;exact rfl)|(apply ci;exact rfl;exact rfl;exact rfl;exact rfl)|(apply aR;exact rfl;exact rfl;exact rfl)|(apply aJ;exact rfl;exact rfl;exact rfl;exact(F.fo _ _ rfl rfl))|(apply fy;exact rfl;exact rfl;exact rfl;exact rfl;exact(F.un _ rfl);exact rfl)|refine aH rfl rfl rfl (F.ag _ rfl) (by assumption) (by exact rfl) ?_|(refine cP rfl rfl rfl rfl (fun hq=>absurd hq (by omega)) (fun _=>?_))))
 ((apply aS Try.func29 (congrArg Array.toList Try.results29));(focus(repeat(first|exact ResIs.nil|apply ResIs.tmp rfl))))
 rfl
theorem gW(e:Int){H:aK}{nx:Nat}:Fnc Try.prog 9 [.sc (.int .i64 e)] H nx (fun r=>r=(.sc (.int .i64 e),H,nx)):=by
 refine Fnc.start Try.func9 rfl rfl ?_
 (repeat(first|refine aj ?_|refine ac ?_|refine ab ?_|(apply ai;exact rfl;exact rfl;exact rfl)|(apply ah;exact rfl;exact rfl;exact rfl)))
 ((apply aS Try.func9 (congrArg Array.toList Try.results9));(focus(repeat(first|exact ResIs.nil|apply ResIs.tmp rfl))))
 rfl
def wE(n:Int):Bool:=decide (0≤n) && decide (n<65536)
theorem xH(n:Int){H:aK}{nx:Nat}:Fnc Try.prog 57 [.sc (.int .i64 n)] H nx (fun r=>r=(.sc (.bool (wE n)),H,nx)):=by
 refine Fnc.start Try.func57 rfl rfl ?_
 (repeat(first|refine aj ?_|refine ac ?_|refine ab ?_|(apply ai;exact rfl;exact rfl;exact rfl)|(apply ah;exact rfl;exact rfl;exact rfl)))
 (apply cw;exact rfl;exact rfl;exact rfl;exact rfl)
 all_goals intro h1
 ·(repeat(first|refine ab ?_|(apply ai;exact rfl;exact rfl;exact rfl)|(apply ah;exact rfl;exact rfl;exact rfl)|(apply dT;exact rfl;exact rfl;exact rfl;exact rfl)|((apply wY;exact rfl;exact rfl;exact rfl;exact rfl))))
  ((apply aS Try.func57 (congrArg Array.toList Try.results57));(focus(repeat(first|exact ResIs.nil|apply ResIs.tmp rfl))))
  rw [show wE n=decide (n<65536) by simp [wE,h1]]
  rfl
 ·(repeat(first|refine ab ?_|(apply ai;exact rfl;exact rfl;exact rfl)|(apply ah;exact rfl;exact rfl;exact rfl)|(apply ci;exact rfl;exact rfl;exact rfl;exact rfl)|(apply jK;exact rfl)))
  ((apply aS Try.func57 (congrArg Array.toList Try.results57));(focus(repeat(first|exact ResIs.nil|apply ResIs.tmp rfl))))
  rw [show wE n=false by simp [wE,show ¬ 0≤n by omega]]
  rfl
theorem at_u8{s:ByteArray}{i:Nat}(hi:i<s.size):(u8L s)[i*1]? =some (.int .u8 ((s.data.toList[i]'(by simpa using hi)).toNat:Int)):=by
 have h:i<s.data.toList.length:=by simpa using hi
 rw [Nat.mul_one,List.getElem?_map,zh h]
 rfl
theorem v7{A:Type}{p:A→Bool}{l:List A}{i:Nat}(hi:i<l.length)(h:(l.take i).all p=true)(hp:p l[i]=true):(l.take (i+1)).all p=true:=by
 rw [List.take_succ_eq_append_getElem hi,List.all_append,h]
 simp [hp]
theorem x6{A:Type}{p:A→Bool}{l:List A}{i:Nat}(hi:i<l.length)(hp:p l[i]=false):l.all p=false:=by
 cases h:l.all p with
 | false=>rfl
 | true=>rw [List.all_eq_true.1 h _ (zK hi)] at hp;cases hp
theorem tJ(s:ByteArray)(hs:s.size≤140737488355328){H:aK}{nx:Nat}:Fnc Try.prog 15 [.sc (.string s)] H nx (fun q=>q.1 = .sc (.bool (gZ s))∧nx≤q.2.2∧ ∀ n,n<nx→q.2.1.at' n=H.at' n):=by
 refine Fnc.start Try.func15 rfl rfl ?_
 have hl:s.data.toList.length=s.size:=by simp
 (repeat(first|refine aj ?_|refine ac ?_|refine ab ?_|refine aD ?_|(apply ai;exact rfl;exact rfl;exact rfl)|(apply ah;exact rfl;exact rfl;exact rfl)|(apply dA;exact rfl;exact rfl;exact rfl;exact(F.un _ rfl))|((apply rA;exact rfl;exact rfl;exact(F.un _ rfl);exact(F.un _ rfl);exact(F.un _ rfl);exact rfl;(focus(omega))))))
 refine dS (α:=Nat) (fun i=> [(0,.sc (.string s)),(6,.slu nx 0 s.size),(7,.sc (.int .i64 (s.size:Int))),(8,.sc (.int .i64 (i:Int)))]) (fun i H1 n1=>i≤s.size∧(s.data.toList.take i).all okC=true∧n1=nx+1∧H1=H.set nx (dat false s.size 1 5 (u8L s))) (fun i=>s.size-i) 0 ⟨zB _,rfl,rfl,rfl⟩ (SlIn.sub (by repeat(first|exact trivial|refine⟨rfl,?_⟩))) ?_
 rintro i H1 n1 ⟨hi,ha,rfl,rfl⟩ ih
 (repeat(first|refine aj ?_|refine ac ?_))
 (apply cF;exact rfl;exact rfl;exact rfl;exact rfl)
 all_goals intro h1
 ·have hq:i<s.size:=by omega
  have hq2:i<s.data.toList.length:=by omega
  (repeat(first|refine aj ?_|refine ac ?_|refine ab ?_|refine aD ?_|refine aE ?_|refine ar rfl ?_|(apply ai;exact rfl;exact rfl;exact rfl)|(apply ah;exact rfl;exact rfl;exact rfl)|refine kb (q:=i) rfl rfl rfl rfl (F.un _ rfl) (F.sz _ rfl) (by(repeat(exact Tr.ae _ _ _));done) (by omega) (by(omega)) (zA _) ?_|refine fj rfl rfl rfl (F.ag _ rfl) (by(repeat(exact Tr.ae _ _ _));done) (at_u8 hq) (by(omega)) ?_))
  generalize hc:s.data.toList[i]=c
  have hgo:okC c=true→(s.data.toList.take (i+1)).all okC=true:=fun h=>v7 hq2 ha (by rw [hc];exact h)
  have hno:okC c=false→gZ s=false:=fun h=>by
   unfold gZ
   rw [x6 hq2 (by rw [hc];exact h)]
   rfl
  have hcc:(c.toNat:Int)<256:=by have:=c.toNat_lt;omega
  iterate 6
   all_goals(first|((apply cF;exact rfl;exact rfl;exact rfl;exact rfl))|((apply dB;exact rfl;exact rfl;exact rfl;exact rfl))|((apply je;exact rfl;exact rfl;exact rfl;exact rfl))|skip)
   all_goals(first|(intro _)|skip)
   all_goals(repeat(first|refine aj ?_|refine ac ?_|refine ab ?_|refine ay ?_|refine aE ?_|refine ar rfl ?_|refine an rfl ?_|(apply ai;exact rfl;exact rfl;exact rfl)|(apply ah;exact rfl;exact rfl;exact rfl)|(apply dT;exact rfl;exact rfl;exact rfl;exact rfl)|(apply ci;exact rfl;exact rfl;exact rfl;exact rfl)|(apply jK;exact rfl)|(apply bj;exact rfl;exact rfl;exact rfl;exact rfl;(focus(omega));(focus(omega)))))
  all_goals(first|(refine ih _ _ _ (i+1) ⟨hq,hgo ?_,rfl,rfl⟩ (by omega) (SlIn.sub (by repeat(first|exact trivial|refine⟨rfl,?_⟩)));clear ih;unfold okC;simp only [Bool.or_eq_true,zy,decide_eq_true_eq,beq_iff_eq];omega)|(((apply aS Try.func15 (congrArg Array.toList Try.results15));(focus(repeat(first|exact ResIs.nil|apply ResIs.tmp rfl))));rw [hno (by clear ih;unfold okC;simp only [Bool.or_eq_false_iff,Bool.and_eq_false_iff,decide_eq_false_iff_not,beq_eq_false_iff_ne];omega)];exact⟨rfl,zJ _,fun n hn=>Tr.aa _ _ (by omega)⟩))
 ·have hq:i=s.size:=by omega
  subst hq
  rw [← hl,List.take_length] at ha
  (repeat(first|refine aj ?_|refine ac ?_|refine ab ?_|refine aU rfl ?_|refine an rfl ?_|(apply ai;exact rfl;exact rfl;exact rfl)|(apply qp;exact rfl;exact rfl;exact rfl;exact(F.un _ rfl))))
  (apply cw;exact rfl;exact rfl;exact rfl;exact rfl)
  all_goals intro h2
  ·(repeat(first|refine ab ?_|(apply ai;exact rfl;exact rfl;exact rfl)|(apply ah;exact rfl;exact rfl;exact rfl)|(apply dT;exact rfl;exact rfl;exact rfl;exact rfl)|(apply qp;exact rfl;exact rfl;exact rfl;exact(F.un _ rfl))|((apply yq;exact rfl;exact rfl;exact rfl;exact rfl))))
   ((apply aS Try.func15 (congrArg Array.toList Try.results15));(focus(repeat(first|exact ResIs.nil|apply ResIs.tmp rfl))))
   rw [show gZ s=decide ((s.size:Int)≤32) by
    unfold gZ
    rw [ha,decide_eq_true (show 1≤s.size by omega),Bool.true_and,Bool.true_and]
    exact decide_eq_decide.2 (by omega)]
   exact⟨rfl,zJ _,fun n hn=>Tr.aa _ _ (by omega)⟩
  ·(repeat(first|refine ab ?_|(apply ai;exact rfl;exact rfl;exact rfl)|(apply ah;exact rfl;exact rfl;exact rfl)|(apply ci;exact rfl;exact rfl;exact rfl;exact rfl)|(apply jK;exact rfl)))
   ((apply aS Try.func15 (congrArg Array.toList Try.results15));(focus(repeat(first|exact ResIs.nil|apply ResIs.tmp rfl))))
   rw [show gZ s=false by
    unfold gZ
    rw [ha,decide_eq_false (show ¬ 1≤s.size by omega)]
    rfl]
   exact⟨rfl,zJ _,fun n hn=>Tr.aa _ _ (by omega)⟩
theorem fO(s:ByteArray)(hs:s.size≤140737488355328){H:aK}{nx:Nat}:Fnc Try.prog 15 [.sc (.string s)] H nx (fun q=>q=(.sc (.bool (gZ s)),H,nx)):=Fnc.lO (tJ s hs)
def DD.new(cap:Nat):DD:=⟨cap,[],-1,false,0⟩
theorem yP(cap:Nat)(h1:1≤cap)(h2:cap≤1048576){H:aK}{nx:Nat}:Fnc Try.prog 8 [.sc (.int .i64 (cap:Int))] H nx (fun r=>r=(.tup [.ptr (nx+1) 0,.sc (.int .i64 0)],(H.set nx (.map [] 0)).set (nx+1) (ak 58 (dkC (DD.new cap) nx)),nx+1+1)):=by
 refine Fnc.start Try.func8 rfl rfl ?_
 (repeat(first|refine aj ?_|refine ac ?_|refine ab ?_|refine aE ?_|refine an rfl ?_|(apply ai;exact rfl;exact rfl;exact rfl)|(apply ah;exact rfl;exact rfl;exact rfl)|(apply ci;exact rfl;exact rfl;exact rfl;exact rfl)|(apply kS;exact rfl;exact rfl)|(apply l6;exact rfl;exact rfl;exact rfl)|(apply sD;exact rfl;exact rfl;exact rfl;exact(F.ze _ rfl);exact(F.pl _ rfl);exact rfl)|(refine cF rfl rfl rfl rfl (fun hq=>absurd hq (by omega)) (fun _=>?_))|(refine dB rfl rfl rfl rfl (fun hq=>absurd hq (by omega)) (fun _=>?_))))
 ((apply aS Try.func8 (congrArg Array.toList Try.results8));(focus(repeat(first|exact ResIs.nil|apply ResIs.tmp rfl))))
 rfl
theorem wD{cap:Nat}(h1:1≤cap){H:aK}{nx:Nat}:DAt (nx+1) (DD.new cap) (fun n=>n=nx+1∨n=nx) ((H.set nx (.map [] 0)).set (nx+1) (ak 58 (dkC (DD.new cap) nx))):=
 ⟨nx,[],0,fun _=>False,⟨Tr.ae _ _ _,(Tr.aa _ _ (by omega)).trans (Tr.ae _ _ _),KOk.nil 0,Big.nil,rfl,by omega,fun h=>h,fun h=>h,by show cap≠0;omega⟩,fun n=>by simp⟩
theorem rW{d:Nat}{D:DD}{Fp:Nat→Prop}{H:aK}{nx:Nat}(hD:DAt d D Fp H)(k:ByteArray):Fnc Try.prog 16 [.ptr d 0,.sc (kE k)] H nx (fun r=>r=(.sc (.bool (a6 D.files k).isSome),H,nx)):=by
 obtain⟨mp,m,c,G,h,hF⟩:=hD
 have hbox:=h.box
 have hmap:=h.map
 rw [h.fl,dR]
 refine Fnc.start Try.func16 rfl rfl ?_
 (repeat(first|refine aj ?_|refine ac ?_|refine ab ?_|refine aE ?_|refine an rfl ?_|(apply ai;exact rfl;exact rfl;exact rfl)|(apply ah;exact rfl;exact rfl;exact rfl)|(apply aR;exact rfl;exact rfl;exact rfl)|(apply aJ;exact rfl;exact rfl;exact rfl;exact(F.fo _ _ rfl rfl))|refine aH rfl rfl rfl (F.ag _ rfl) (by assumption) (by exact rfl) ?_|(refine aQ rfl rfl rfl (by kernel_rfl) (Fnc.mono (gX hbox h.cap) ?_);rintro _ rfl;dsimp only)))
 cases hg:cr m k with
 | none=>
   (repeat(first|refine aj ?_|refine ac ?_|refine ab ?_|(apply ai;exact rfl;exact rfl;exact rfl)|(apply ah;exact rfl;exact rfl;exact rfl)|(apply bM;exact rfl;exact rfl;exact rfl;exact rfl)|refine w6 (m:=m) (enc:=kE) (val:=f8) rfl rfl rfl rfl (F.un _ rfl) (kK) (by first|exact rfl|assumption) (hg) (F.ze _ rfl) ?_))
   ((apply aS Try.func16 (congrArg Array.toList Try.results16));(focus(repeat(first|exact ResIs.nil|apply ResIs.tmp rfl))))
   rfl
 | some x=>
   (repeat(first|refine aj ?_|refine ac ?_|refine ab ?_|(apply ai;exact rfl;exact rfl;exact rfl)|(apply ah;exact rfl;exact rfl;exact rfl)|(apply bM;exact rfl;exact rfl;exact rfl;exact rfl)|refine wZ (m:=m) (enc:=kE) (val:=f8) rfl rfl rfl rfl (F.un _ rfl) (kK) (by first|exact rfl|assumption) (hg) ?_))
   ((apply aS Try.func16 (congrArg Array.toList Try.results16));(focus(repeat(first|exact ResIs.nil|apply ResIs.tmp rfl))))
   rfl
theorem s3{d:Nat}{D:DD}{Fp:Nat→Prop}{H:aK}{nx:Nat}(hD:DAt d D Fp H)(hc:D.cap≤1048576)(hu:D.used≤1048576):Fnc Try.prog 10 [.ptr d 0] H nx (fun r=>r=(.sc (.int .i64 ((D.cap:Int)-(D.used:Int))),H,nx)):=by
 obtain⟨mp,m,c,G,h,hF⟩:=hD
 have hbox:=h.box
 refine Fnc.start Try.func10 rfl rfl ?_
 (repeat(first|refine aj ?_|refine ac ?_|refine ab ?_|refine aE ?_|refine an rfl ?_|(apply ai;exact rfl;exact rfl;exact rfl)|(apply ah;exact rfl;exact rfl;exact rfl)|(refine aQ rfl rfl rfl (by kernel_rfl) (Fnc.mono (gX hbox h.cap) ?_);rintro _ rfl;dsimp only)))
 (apply aT;(focus(kernel_rfl));(focus(kernel_rfl)))
 (repeat(first|(apply ax;exact rfl;exact rfl;exact rfl)|(apply cR;exact rfl;exact rfl;exact rfl)|(apply bl;exact rfl;exact rfl;exact rfl)|(apply aW;exact rfl;exact rfl;exact rfl;exact(F.fo _ _ rfl rfl))|(apply cD;exact rfl;exact rfl;exact rfl;exact rfl;(focus(omega));(focus(omega)))|refine cE rfl rfl rfl (F.ag _ rfl) (by assumption) (by exact rfl) ?_))
 (refine aF ?_);(refine⟨by kernel_rfl,?_,?_⟩);(focus(repeat(first|exact trivial|refine⟨.inl rfl,?_⟩)))
 dsimp only [wrL]
 ((apply aS Try.func10 (congrArg Array.toList Try.results10));(focus(repeat(first|exact ResIs.nil|apply ResIs.tmp rfl))))
 rfl
theorem y4{d:Nat}{D:DD}{Fp:Nat→Prop}{H:aK}{nx:Nat}(hD:DAt d D Fp H):Fnc Try.prog 11 [.ptr d 0] H nx (fun r=>r=(.sc (.bool D.dead),H,nx)):=by
 obtain⟨mp,m,c,G,h,hF⟩:=hD
 have hbox:=h.box
 refine Fnc.start Try.func11 rfl rfl ?_
 (repeat(first|refine aj ?_|refine ac ?_|refine ab ?_|(apply ai;exact rfl;exact rfl;exact rfl)|(apply ah;exact rfl;exact rfl;exact rfl)|(apply dT;exact rfl;exact rfl;exact rfl;exact rfl)|(apply aR;exact rfl;exact rfl;exact rfl)|(apply aJ;exact rfl;exact rfl;exact rfl;exact(F.fo _ _ rfl rfl))|refine aH rfl rfl rfl (F.ag _ rfl) (by assumption) (by exact rfl) ?_|(apply dg;exact rfl;exact rfl;exact rfl)|(refine aQ rfl rfl rfl (by kernel_rfl) (Fnc.mono (gX hbox h.cap) ?_);rintro _ rfl;dsimp only)))
 ((apply aS Try.func11 (congrArg Array.toList Try.results11));(focus(repeat(first|exact ResIs.nil|apply ResIs.tmp rfl))))
 rfl
theorem md{d:Nat}{D:DD}{Fp:Nat→Prop}{H:aK}{nx:Nat}(hD:DAt d D Fp H)(k:ByteArray)(hk:k.size≤140737488355328)(n:Int):Fnc Try.prog 39 [.ptr d 0,.sc (kE k),.sc (iE n)] H nx (fun r=>r=(.sc (.int .i64 (D.look k n)),H,nx)):=by
 obtain⟨mp,m,c,G,h,hF⟩:=id hD
 have hbox:=h.box
 refine Fnc.start Try.func39 rfl rfl ?_
 have hlk:D.look k n=if gZ k=false∨wE n=false then 2 else if(a6 D.files k).isSome=false then 6 else 0:=by
  unfold DD.look wE
  have:(n<0∨65536≤n)↔(decide (0≤n) && decide (n<65536))=false:=by
   rw [Bool.and_eq_false_iff,decide_eq_false_iff_not,decide_eq_false_iff_not]
   omega
  simp only [this]
  cases a6 D.files k <;> rfl
 rw [hlk]
 (repeat(first|refine aj ?_|refine ac ?_|refine ab ?_|refine aE ?_|refine an rfl ?_|(apply ai;exact rfl;exact rfl;exact rfl)|(apply ah;exact rfl;exact rfl;exact rfl)|(apply dg;exact rfl;exact rfl;exact rfl)|(refine aQ rfl rfl rfl (by kernel_rfl) (Fnc.mono (gX hbox h.cap) ?_);rintro _ rfl;dsimp only)|(refine aQ rfl rfl rfl (by kernel_rfl) (Fnc.mono (fO k hk) ?_);rintro _ rfl;dsimp only)))
 cases h1:gZ k with
 | false=>
   (repeat(first|refine aj ?_|refine ac ?_|refine ab ?_|refine ar rfl ?_|(apply ah;exact rfl;exact rfl;exact rfl)|(apply dT;exact rfl;exact rfl;exact rfl;exact rfl)|(apply jK;exact rfl)))
   ((apply aS Try.func39 (congrArg Array.toList Try.results39));(focus(repeat(first|exact ResIs.nil|apply ResIs.tmp rfl))))
   rfl
 | true=>
   (repeat(first|refine ab ?_|(apply ai;exact rfl;exact rfl;exact rfl)|(apply ci;exact rfl;exact rfl;exact rfl;exact rfl)|(apply dg;exact rfl;exact rfl;exact rfl)|(refine aQ rfl rfl rfl (by kernel_rfl) (Fnc.mono (xH n) ?_);rintro _ rfl;dsimp only)))
   cases h2:wE n with
   | false=>
     (repeat(first|refine aj ?_|refine ac ?_|refine ab ?_|refine ar rfl ?_|(apply ah;exact rfl;exact rfl;exact rfl)))
     ((apply aS Try.func39 (congrArg Array.toList Try.results39));(focus(repeat(first|exact ResIs.nil|apply ResIs.tmp rfl))))
     rfl
   | true=>
     (repeat(first|refine aj ?_|refine ac ?_|refine ab ?_|refine aE ?_|refine an rfl ?_|(apply ai;exact rfl;exact rfl;exact rfl)|(apply dg;exact rfl;exact rfl;exact rfl)|(refine aQ rfl rfl rfl (by kernel_rfl) (Fnc.mono (rW hD k) ?_);rintro _ rfl;dsimp only)))
     cases h3:(a6 D.files k).isSome with
     | false=>
       (repeat(first|refine aj ?_|refine ac ?_|refine ab ?_|refine ar rfl ?_|(apply ah;exact rfl;exact rfl;exact rfl)))
       ((apply aS Try.func39 (congrArg Array.toList Try.results39));(focus(repeat(first|exact ResIs.nil|apply ResIs.tmp rfl))))
       rfl
     | true=>
       (repeat(first|refine aj ?_|refine ac ?_|refine ab ?_|refine aE ?_|refine an rfl ?_|(apply ah;exact rfl;exact rfl;exact rfl)))
       ((apply aS Try.func39 (congrArg Array.toList Try.results39));(focus(repeat(first|exact ResIs.nil|apply ResIs.tmp rfl))))
       rfl
end Go.Proofs.Ytbmekelkddllkaa
end
section
namespace Go.Sy
open Go Go.Sl Go.RowKit
section
variable {P:Program}
def Free(v:SV):Prop:= ∀ e e' u,v.conc e=some u→v.conc e'=some u
theorem Free.sc(v:Value):Free (.sc v):=fun _ _ _ h=>h
theorem Free.agg(vs:List Value):Free (.agg (vs.map .sc)):=fun e e' u h=>by
 rw [SV.conc,dK] at h ⊢
 exact h
theorem Free.two{a b:SV}(ha:Free a)(hb:Free b):Free (.tup [a,b]):=fun e e' u h=>by
 simp only [SV.conc,SV.aM] at h ⊢
 cases h1:a.conc e with
 | none=>rw [h1] at h;simp at h
 | some x=>
   cases h2:b.conc e with
   | none=>rw [h1,h2] at h;simp at h
   | some y=>
     rw [h1,h2] at h
     rw [ha e e' x h1,hb e e' y h2]
     exact h
theorem Fnc.np{f:FuncId}{args:List SV}{H:aK}{nx:Nat}{v:SV}(hv:Free v)(h:Fnc P f args H nx (fun q=>q.1=v∧nx≤q.2.2∧ ∀ n,n<nx→q.2.1.at' n=H.at' n)):Fnc P f args H nx (fun q=>q=(v,H,nx)):=by
 unfold Fnc fY at h ⊢
 rcases h with ⟨h1,u,r,h2,⟨q1,q2,q3⟩,h4⟩|h
 ·refine .inl ⟨h1,u,_,h2,rfl,fun K w0 e w hS=>?_⟩
  obtain⟨e',g1,g2,g3⟩:=h4 K w0 e w hS
  rw [q1] at g3
  exact⟨e,Env.le_refl e,hS.drop g1 g2 q3,hv _ _ _ g3⟩
 ·refine .inr ?_
  split at h
  ·refine⟨fun K w0 e w tmps todo ds kd rof cs hS a2 a3 a4 a5=>?_⟩
   obtain⟨r,⟨q1,q2,q3⟩,e',w',u,g1,g2,g3,g4⟩:=Wp.run h K w0 e w tmps todo ds kd rof cs hS a2 a3 a4 a5
   rw [q1] at g3
   exact⟨_,rfl,e,w',u,Env.le_refl e,hS.drop g1 g2 q3,hv _ _ _ g3,g4⟩
  ·exact h.elim
end
end Go.Sy
end
section
namespace Go.Proofs.Ytbmekelkddllkaa
open Go Go.Sy Go.Sl Go.RowKit
abbrev bV:Nat→List Value:=fun n=> [.int .u8 (n:Int)]
theorem bRec:RecOf bV 1:=nI (fun _=>rfl)
theorem bAgg(b:Nat):(Array.replicate 256 b).toList.flatMap bV=pz (Sct.full b):=by
 rw [Array.toList_replicate]
 show _=(List.replicate 256 b).map _
 generalize 256=n
 induction n with
 | zero=>rfl
 | succ n ih=>simp only [List.replicate_succ,List.flatMap_cons,zC,ih];rfl
theorem fc(a b:Sct):List.take 0 (cW a) ++ (SV.agg (cW b)).cells ++ List.drop (0+256) (cW a)=cW b:=by
 rw [List.take_zero,List.nil_append,Nat.zero_add,List.drop_of_length_le (by rw [bB];exact zA _),List.append_nil]
 rfl
theorem gk(s:Sct):c7 (cW s)=true:=by
 unfold cW pz
 induction s.1 with
 | nil=>rfl
 | cons x l ih=>exact ih
theorem du(s:Sct):(ak 45 (cW s)).cellsFrom 0 256=some (cW s):=
 de _ 0 (by rw [List.drop_zero,←bB s,List.take_length]) (bB s)
def uS(b n:Nat):Array Nat:=(List.replicate n b ++ List.replicate (256-n) 0).toArray
theorem sF{b n:Nat}(h:n≤256):(uS b n).size=256:=by
 unfold uS
 simp
 omega
theorem sH{b n:Nat}(h:n<256):(uS b n).setIfInBounds n b=uS b (n+1):=by
 unfold uS
 refine Array.toList_inj.1 ?_
 rw [Array.toList_setIfInBounds]
 show(List.replicate n b ++ List.replicate (256-n) 0).set n b=List.replicate (n+1) b ++ List.replicate (256-(n+1)) 0
 rw [List.set_append_right _ _ (by simp),List.length_replicate,Nat.sub_self,show 256-n=(256-(n+1))+1 by omega,List.replicate_succ,List.set_cons_zero,List.replicate_succ',List.append_assoc]
 rfl
theorem uR(b:Nat):uS b 256=Array.replicate 256 b:=by
 show(List.replicate 256 b ++ List.replicate (256-256) 0).toArray=_
 rw [Nat.sub_self,List.replicate_zero,List.append_nil,List.toArray_replicate]
theorem uI:ry Try.prog 45=some (cW (Sct.full 0)):=by kernel_rfl
theorem uD(b:Nat):ak 45 (cW (Sct.full b))=wR 45 bV (Array.replicate 256 b):=by
 unfold wR
 rw [bAgg]
theorem sG(b:Nat):uS b 0=Array.replicate 256 0:=by
 unfold uS
 rw [List.replicate_zero,List.nil_append,Nat.sub_zero,List.toArray_replicate]
theorem yU(b:Nat){H:aK}{nx:Nat}:Fnc Try.prog 22 [.sc (.int .u8 (b:Int))] H nx (fun q=>q.1 = .agg (cW (Sct.full b))∧nx≤q.2.2∧ ∀ n,n<nx→q.2.1.at' n=H.at' n):=by
 refine Fnc.start Try.func22 rfl rfl ?_
 (repeat(first|refine aj ?_|refine ac ?_|refine ab ?_|refine aD ?_|(apply ah;exact rfl;exact rfl;exact rfl)|(refine cx rfl rfl uI ?_)))
 refine dS (α:=Nat) (fun i=> [(0,.sc (.int .u8 (b:Int))),(2,.ptr nx 0),(3,.ptr (nx+1) 0),(4,.sc (.int .i64 (i:Int)))]) (fun i H1 n1=>i≤256∧n1=nx+1+1∧H1.at' (nx+1)=some (wR 45 bV (uS b i))∧H1.at' nx=some (ak 45 (cW (Sct.full 0)))∧ ∀ n,n<nx→H1.at' n=H.at' n) (fun i=>256-i) 0 ⟨zB _,rfl,by rw [sG,←uD];(focus((repeat(exact Tr.ae _ _ _));done)),by(focus((repeat(first|exact Tr.ae _ _ _|refine(Tr.aa _ _ (by omega)).trans ?_));done)),fun n hn=>by(focus((repeat(refine(Tr.aa _ _ (by omega)).trans ?_));exact rfl))⟩ (SlIn.sub (by repeat(first|exact trivial|refine⟨rfl,?_⟩))) ?_
 rintro i H1 n1 ⟨hi,rfl,h1,h2,hold⟩ ih
 (repeat(first|refine aj ?_|refine ac ?_|(apply ai;exact rfl;exact rfl;exact rfl)))
 (apply cF;exact rfl;exact rfl;exact rfl;exact rfl)
 all_goals intro h3
 ·have hq:i<256:=by omega
  have hsz:=sF (b:=b) hi
  (repeat(first|refine aj ?_|refine ac ?_|refine ab ?_|refine aD ?_|refine ay ?_|refine aE ?_|refine ar rfl ?_|(apply ai;exact rfl;exact rfl;exact rfl)|(apply ah;exact rfl;exact rfl;exact rfl)|(apply bj;exact rfl;exact rfl;exact rfl;exact rfl;(focus(omega));(focus(omega)))|(apply yr (q:=i);exact rfl;exact rfl;exact rfl;exact rfl;exact(F.un _ rfl);exact(F.sz _ rfl);(focus(omega));(focus(omega)))|refine w_stA (v:=b) i rfl rfl rfl rfl (F.sz _ rfl) (bRec) (by assumption) (by omega) (by omega) ?_))
  refine ih _ _ _ (i+1) ⟨hq,rfl,by rw [← sH hq];(focus((repeat(exact Tr.ae _ _ _));done)),by(focus((repeat(first|assumption|refine(Tr.aa _ _ (by omega)).trans ?_));done)),fun n hn=>by(focus((repeat(refine(Tr.aa _ _ (by omega)).trans ?_));exact hold n hn))⟩ (by omega) (SlIn.sub (by repeat(first|exact trivial|refine⟨rfl,?_⟩)))
 ·obtain rfl:i=256:=by omega
  rw [uR,←uD] at h1
  (repeat(first|refine aj ?_|refine ac ?_|refine ab ?_|refine aU rfl ?_|refine an rfl ?_|refine be rfl rfl rfl rfl (F.sz _ rfl) (by assumption) rfl (by exact zj rfl) rfl ?_|refine qo rfl rfl rfl (F.ag _ rfl) (by assumption) (by exact rfl) ?_))
  rw [fc]
  ((apply aS Try.func22 (congrArg Array.toList Try.results22));(focus((apply ResIs.cell rfl (LoadIs.many (F.ag _ rfl) (by(repeat(exact Tr.ae _ _ _));done) (du _)));exact ResIs.nil)))
  exact⟨rfl,zI (zJ nx) (zJ _),fun n hn=>by(focus((repeat(refine(Tr.aa _ _ (by omega)).trans ?_));exact hold n hn))⟩
theorem jy(b:Nat){H:aK}{nx:Nat}:Fnc Try.prog 22 [.sc (.int .u8 (b:Int))] H nx (fun q=>q=(.agg (cW (Sct.full b)),H,nx)):=Fnc.np (Free.agg _) (yU b)
theorem cv(s:Sct)(v:SV):(ak 80 (cW s ++ [v])).cell 256=some v:=by
 refine aN ?_
 rw [List.getElem?_append_right (by rw [bB];exact zA _),bB]
 rfl
theorem dL(s:Sct)(v:SV):(ak 80 (cW s ++ [v])).cellsFrom 0 256=some (cW s):=by
 refine de _ 0 ?_ (bB s)
 rw [List.drop_zero,List.take_append_of_le_length (by rw [bB];exact zA _),←bB s,List.take_length]
theorem mz{l:List Sct}{q:Nat}(hq:q<l.length):((l.flatMap pz).drop (q*256)).take 256=pz l[q]:=by
 exact qW eL (zh hq)
theorem has_r{n:Nat}{x:Sec}{Fp:Nat→Prop}{k:Int}{H:aK}{nx:Nat}(hs:PS k (n,x) H Fp)(hl:x.writes.length<1000000)(hn:n<nx)(hF: ∀ z,Fp z→z<nx):Fnc Try.prog 38 [.ptr n 0] H nx (fun q=>q.1 = .agg (cW x.has)∧nx≤q.2.2∧ ∀ z,z<nx→q.2.1.at' z=H.at' z):=by
 obtain⟨v,G,h1,h2,h3,h4⟩:=hs
 dsimp only at h1 h2 h3 h4
 refine Fnc.start Try.func38 rfl rfl ?_
 have hbox:(H.set nx (ak 45 (cW (Sct.full 0)))).at' n=some (ak 80 (cW x.lasts ++ [v])):=(Tr.aa _ _ (by omega)).trans h1
 rcases h2 with ⟨rfl,hw,_⟩|⟨r,rfl,hr,hG⟩
 ·rw [show x.has=x.lasts by unfold Sec.has;rw [hw];rfl]
  (repeat(first|refine aj ?_|refine ac ?_|refine ab ?_|refine aE ?_|refine an rfl ?_|(apply ai;exact rfl;exact rfl;exact rfl)|(apply aR;exact rfl;exact rfl;exact rfl)|(apply aJ;exact rfl;exact rfl;exact rfl;exact(F.fo _ _ rfl rfl))|(refine cx rfl rfl uI ?_)|(refine kT rfl rfl rfl (F.ag _ rfl) hbox (cv _ _) ?_)|((apply mv;exact rfl;exact rfl;exact rfl;exact(F.un _ rfl)))|(refine dB rfl rfl rfl rfl (fun hq=>absurd hq (by decide)) (fun _=>?_))|(refine pq rfl rfl rfl (F.ag _ rfl) hbox (dL _ _) ?_)))
  (repeat(first|(refine io rfl rfl rfl (F.sz _ rfl) (by(repeat(exact Tr.ae _ _ _));done) (bB _) (by rw [bB];exact zA _) (gk _) (fc _ _) ?_)|(refine ab ?_)))
  ((apply aS Try.func38 (congrArg Array.toList Try.results38));(focus((apply ResIs.cell rfl (LoadIs.many (F.ag _ rfl) (by(repeat(exact Tr.ae _ _ _));done) (du _)));exact ResIs.nil)))
  exact⟨rfl,zJ _,fun n hn=>by(focus((repeat(refine(Tr.aa _ _ (by omega)).trans ?_));exact rfl))⟩
 ·(repeat(first|refine aj ?_|refine ac ?_|refine ab ?_|(apply ai;exact rfl;exact rfl;exact rfl)|(apply aR;exact rfl;exact rfl;exact rfl)|(apply aJ;exact rfl;exact rfl;exact rfl;exact(F.fo _ _ rfl rfl))|(apply dA;exact rfl;exact rfl;exact rfl;exact(F.un _ rfl))|(refine cx rfl rfl uI ?_)|(refine kT rfl rfl rfl (F.ag _ rfl) hbox (cv _ _) ?_)))
  have hrn:r<nx:=hF r ((h4 r).2 (.inr ((hG r).2 rfl)))
  (apply dB;exact rfl;exact rfl;exact rfl;exact rfl)
  all_goals intro h5
  ·have hq:x.writes.length-1<x.writes.length:=by omega
   rw [show x.has=x.writes[x.writes.length-1] by
    unfold Sec.has
    rw [List.getLast?_eq_getElem?,zh hq]]
   (repeat(first|refine aj ?_|refine ab ?_|refine ar rfl ?_))
   (apply aT;(focus(kernel_rfl));(focus(kernel_rfl)))
   (repeat(first|(apply ax;exact rfl;exact rfl;exact rfl)|(apply bl;exact rfl;exact rfl;exact rfl)|(apply aW;exact rfl;exact rfl;exact rfl;exact(F.fo _ _ rfl rfl))|(apply rg;exact rfl;exact rfl;exact rfl;exact(F.un _ rfl))|(apply cD;exact rfl;exact rfl;exact rfl;exact rfl;(focus(omega));(focus(omega)))|(refine bP rfl rfl rfl (F.ag _ rfl) hbox (cv _ _) ?_)|refine au (q:=x.writes.length-1) rfl rfl rfl rfl (F.un _ rfl) (F.sz _ rfl) (by(repeat(first|assumption|refine(Tr.aa _ _ (by omega)).trans ?_));done) (by omega) (by(omega)) (zA _) ?_|(refine uj rfl rfl rfl (F.ag _ rfl) (by(repeat(first|assumption|refine(Tr.aa _ _ (by omega)).trans ?_));done) (mz hq) (eL _) (by omega) ?_)|(refine ug rfl rfl rfl (F.sz _ rfl) (by(repeat(exact Tr.ae _ _ _));done) (bB _) (by rw [bB];exact zA _) (gk _) (fc _ _) ?_)))
   (refine aF ?_);(refine⟨by kernel_rfl,?_,?_⟩);(focus(repeat(first|exact trivial|refine⟨.inl rfl,?_⟩|refine⟨.inr (by(repeat(refine⟨(by first|exact aL rfl rfl (.inr (.inl ⟨rfl,(zf _ ⟨by omega,by omega⟩).symm⟩))|exact bc (F.fo _ _ rfl rfl) rfl|exact aB rfl|exact kG (F.un _ rfl) rfl|exact bv rfl|exact bY (F.ag _ rfl) rfl (by(repeat(first|assumption|refine(Tr.aa _ _ (by omega)).trans ?_));done) (dM 256 _ (mz hq) (eL _) (by omega))),?_⟩));exact trivial),?_⟩|refine⟨.inl (by kernel_rfl),?_⟩)))
   dsimp only [wrL]
   ((apply aS Try.func38 (congrArg Array.toList Try.results38));(focus((apply ResIs.cell rfl (LoadIs.many (F.ag _ rfl) (by(repeat(exact Tr.ae _ _ _));done) (du _)));exact ResIs.nil)))
   exact⟨rfl,zJ _,fun n hn=>by(focus((repeat(refine(Tr.aa _ _ (by omega)).trans ?_));exact rfl))⟩
  ·have hw:x.writes= []:=zv (by omega)
   rw [show x.has=x.lasts by unfold Sec.has;rw [hw];rfl]
   (repeat(first|refine aj ?_|refine ac ?_|refine ab ?_|refine aE ?_|refine an rfl ?_|(apply ai;exact rfl;exact rfl;exact rfl)|(apply aR;exact rfl;exact rfl;exact rfl)|(apply aJ;exact rfl;exact rfl;exact rfl;exact(F.fo _ _ rfl rfl))|(refine pq rfl rfl rfl (F.ag _ rfl) hbox (dL _ _) ?_)|(refine io rfl rfl rfl (F.sz _ rfl) (by(repeat(exact Tr.ae _ _ _));done) (bB _) (by rw [bB];exact zA _) (gk _) (fc _ _) ?_)))
   ((apply aS Try.func38 (congrArg Array.toList Try.results38));(focus((apply ResIs.cell rfl (LoadIs.many (F.ag _ rfl) (by(repeat(exact Tr.ae _ _ _));done) (du _)));exact ResIs.nil)))
   exact⟨rfl,zJ _,fun n hn=>by(focus((repeat(refine(Tr.aa _ _ (by omega)).trans ?_));exact rfl))⟩
theorem yT{n:Nat}{x:Sec}{Fp:Nat→Prop}{k:Int}{H:aK}{nx:Nat}(hs:PS k (n,x) H Fp)(hl:x.writes.length<1000000)(hn:n<nx)(hF: ∀ z,Fp z→z<nx):Fnc Try.prog 38 [.ptr n 0] H nx (fun q=>q=(.agg (cW x.has),H,nx)):=Fnc.np (Free.agg _) (has_r hs hl hn hF)
theorem dH{A:Type}: ∀ (l m:List A),l.Nodup→(∀ x∈l,x∈m)→l.length≤m.length
 | [],m,_,_=>zB _
 | x :: l,m,hn,hs=>by
   obtain⟨a,b,rfl⟩:=List.append_of_mem (hs x (by simp))
   rw [List.nodup_cons] at hn
   have:=dH l (a ++ b) hn.2 fun y hy=>by
    have:=hs y (List.mem_cons_of_mem _ hy)
    rcases List.mem_append.1 this with h|h
    ·exact List.mem_append_left _ h
    ·rcases List.mem_cons.1 h with rfl|h
     ·exact absurd hy hn.1
     ·exact List.mem_append_right _ h
   simp only [zD,zE] at this ⊢
   omega
theorem Dk.file{d mp:Nat}{m:MFl}{c:Nat}{D:DD}{G:Nat→Prop}{H:aK}(h:Dk d mp m c D G H){k:ByteArray}{n:Nat}{l:List (Int×Sec)}(hg:cr m k=some (n,l)) :
 ∃ ms m2 c2 G2 R,Fl n ms m2 c2 G2 H∧l=di m2∧Big PF (kv (hY m k)) H R∧(∀ z,(z=n∨z=ms∨G2 z)→ ¬ R z)∧(∀ z,G z↔(z=n∨z=ms∨G2 z)∨R z):=by
 obtain⟨F1,R,⟨ms,m2,c2,G2,h1,h2,h3⟩,h4,h5,h6⟩:=Big.get h.big hg
 exact⟨ms,m2,c2,G2,R,h1,h2,h4,fun z hz=>h5 z ((h3 z).2 hz),fun z=>by rw [h6,h3]⟩
theorem Fl.sec{n ms:Nat}{m:MSc}{c:Nat}{G:Nat→Prop}{H:aK}(h:Fl n ms m c G H){k:Int}{q:Nat}{s:Sec}(hg:cr m k=some (q,s)) :
 ∃ F1 R,PS k (q,s) H F1∧Big PS (kv (hY m k)) H R∧(∀ z,F1 z→ ¬ R z)∧ ∀ z,G z↔F1 z∨R z:=Big.get h.big hg
theorem jV{m:MFl}{k:ByteArray}{l:List (Int×Sec)}(h:a6 (pm m) k=some l): ∃ n,cr m k=some (n,l):=by
 rw [dR] at h
 obtain⟨⟨n,l'⟩,h1,rfl⟩:=zo.1 h
 exact⟨n,h1⟩
theorem Dk.sec{d mp:Nat}{m:MFl}{c:Nat}{D:DD}{G:Nat→Prop}{H:aK}(h:Dk d mp m c D G H){k:ByteArray}{n:Nat}{m2:MSc}(hg:cr m k=some (n,di m2))(q:Int):D.sec k q=(cr m2 q).map (·.2):=by
 unfold DD.sec
 rw [h.fl,dR,hg]
 exact kp m2 q
theorem wa{v:SV}{l:List Sct}{H:aK}{F:Nat→Prop}{z:Nat}(h:y9 v l H F)(hz:F z): ∃ vo,H.at' z=some vo:=by
 rcases h with ⟨_,_,h2⟩|⟨r,_,hr,hG⟩
 ·exact absurd hz (h2 z)
 ·rw [(hG z).1 hz];exact⟨_,hr⟩
theorem zb(k:Int)(x:Nat×Sec)(H:aK)(F:Nat→Prop)(z:Nat)(h:PS k x H F)(hz:F z): ∃ vo,H.at' z=some vo:=by
 obtain⟨v,G,h1,h2,h3,h4⟩:=h
 rcases(h4 z).1 hz with rfl|hz
 ·exact⟨_,h1⟩
 ·exact wa h2 hz
theorem wS(k:ByteArray)(x:Nat×List (Int×Sec))(H:aK)(F:Nat→Prop)(z:Nat)(h:PF k x H F)(hz:F z): ∃ vo,H.at' z=some vo:=by
 obtain⟨ms,m,c,G,h1,_,h3⟩:=h
 rcases(h3 z).1 hz with rfl|rfl|hz
 ·exact⟨_,h1.box⟩
 ·exact⟨_,h1.map⟩
 ·exact Big.lt zb h1.big hz
theorem DAt.lt{d:Nat}{D:DD}{Fp:Nat→Prop}{H:aK}{nx:Nat}(h:DAt d D Fp H)(hu: ∀ b vo,H.at' b=some vo→b<nx): ∀ z,Fp z→z<nx:=fun z hz=>by
 obtain⟨mp,m,c,G,h,hF⟩:=h
 rcases(hF z).1 hz with rfl|rfl|hz
 ·exact hu _ _ h.box
 ·exact hu _ _ h.map
 ·obtain⟨vo,hv⟩:=Big.lt wS h.big hz
  exact hu _ _ hv
theorem wN{d:Nat}{D:DD}{Fp:Nat→Prop}{H:aK}{nx:Nat}(hD:DAt d D Fp H)(k:ByteArray)(n:Int){l:List (Int×Sec)}(hl:a6 D.files k=some l):Fnc Try.prog 44 [.ptr d 0,.sc (kE k),.sc (iE n)] H nx (fun r=>r=(.sc (.bool (D.fits k n)),H,nx)):=by
 obtain⟨mp,m,c,G,h,hF⟩:=hD
 have hbox:=h.box
 have hmap:=h.map
 rw [h.fl] at hl
 obtain⟨fn,hg⟩:=jV hl
 obtain⟨ms,m2,c2,G2,R,hf,rfl,_⟩:=h.file hg
 have hfb:=hf.box
 have hfm:=hf.map
 unfold DD.fits
 rw [h.sec hg]
 refine Fnc.start Try.func44 rfl rfl ?_
 (repeat(first|refine aj ?_|refine ac ?_|refine ab ?_|(apply ah;exact rfl;exact rfl;exact rfl)))
 (apply aT;(focus(kernel_rfl));(focus(kernel_rfl)))
 cases hs:cr m2 n with
 | none=>
   (repeat(first|(apply ax;exact rfl;exact rfl;exact rfl)|(apply cR;exact rfl;exact rfl;exact rfl)|(apply bL;exact rfl;exact rfl;exact rfl;exact rfl)|(apply bl;exact rfl;exact rfl;exact rfl)|(apply aW;exact rfl;exact rfl;exact rfl;exact(F.fo _ _ rfl rfl))|(apply vQ;exact rfl;exact rfl;exact rfl;exact rfl;exact rfl;exact(F.un _ rfl);exact rfl)|refine cE rfl rfl rfl (F.ag _ rfl) (by assumption) (by exact rfl) ?_|refine gu (m:=m) (enc:=kE) (val:=f8) rfl rfl rfl rfl (F.un _ rfl) (kK) (by assumption) (hg) ?_|refine vS (m:=m2) (enc:=iE) (val:=iS) rfl rfl rfl rfl (F.un _ rfl) (iK) (by assumption) (hs) (F.ze _ rfl) ?_|((apply wO;exact rfl;exact rfl;exact rfl;exact rfl))))
   (refine aF ?_);(refine⟨by kernel_rfl,?_,?_⟩);(focus(repeat(first|exact trivial|refine⟨.inl rfl,?_⟩)))
   dsimp only [wrL]
   ((apply aS Try.func44 (congrArg Array.toList Try.results44));(focus(repeat(first|exact ResIs.nil|apply ResIs.tmp rfl))))
   rw [show decide (D.used<D.cap)=decide ((D.used:Int)<(D.cap:Int))from decide_eq_decide.2 (by omega)]
   rfl
 | some x=>
   (repeat(first|(apply ax;exact rfl;exact rfl;exact rfl)|(apply cR;exact rfl;exact rfl;exact rfl)|(apply bK;exact rfl;exact rfl;exact rfl;exact rfl)|(apply bl;exact rfl;exact rfl;exact rfl)|(apply aW;exact rfl;exact rfl;exact rfl;exact(F.fo _ _ rfl rfl))|(apply cd;exact rfl;exact rfl)|(apply vR;exact rfl;exact rfl;exact rfl;exact rfl;exact(F.un _ rfl);exact rfl)|refine cE rfl rfl rfl (F.ag _ rfl) (by assumption) (by exact rfl) ?_|refine gu (m:=m) (enc:=kE) (val:=f8) rfl rfl rfl rfl (F.un _ rfl) (kK) (by assumption) (hg) ?_|refine gu (m:=m2) (enc:=iE) (val:=iS) rfl rfl rfl rfl (F.un _ rfl) (iK) (by assumption) (hs) ?_))
   (refine aF ?_);(refine⟨by kernel_rfl,?_,?_⟩);(focus(repeat(first|exact trivial|refine⟨.inl rfl,?_⟩)))
   dsimp only [wrL]
   ((apply aS Try.func44 (congrArg Array.toList Try.results44));(focus(repeat(first|exact ResIs.nil|apply ResIs.tmp rfl))))
   rfl
theorem bSec:ku Try.prog 45 []=some (.agg (cW (Sct.full 0))):=by kernel_rfl
theorem mQ{D:DD}{k:ByteArray}{n:Int}(h:D.look k n=0): ∃ l,a6 D.files k=some l:=(pW h).2.2.2
theorem yD{d:Nat}{D:DD}{Fp:Nat→Prop}{H:aK}{nx N:Nat}(hD:DAt d D Fp H)(hok:D.Ok N)(hN:N<1000000)(k:ByteArray)(hk:k.size≤140737488355328)(n:Int):Fnc Try.prog 20 [.ptr d 0,.sc (kE k),.sc (iE n)] H nx (fun q=>q.1 = .tup [.agg (cW (D.read k n).1),.sc (.int .i64 (D.read k n).2)]∧nx≤q.2.2∧ ∀ z,z<nx→q.2.1.at' z=H.at' z):=by
 refine Fnc.start Try.func20 rfl rfl ?_
 refine b7 fun hund=>?_
 have hlt:=hD.lt hund
 have hD0:DAt d D Fp (H.set nx (ak 45 (cW (Sct.full 0)))):=hD.frame fun z hz=>Tr.aa _ _ (by have:=hlt z hz;omega)
 (repeat(first|refine aj ?_|refine ac ?_|refine ab ?_|(apply ai;exact rfl;exact rfl;exact rfl)|(apply ah;exact rfl;exact rfl;exact rfl)|(refine cx rfl rfl uI ?_)|(refine aQ rfl rfl rfl (by kernel_rfl) (Fnc.mono (md hD0 k hk n) ?_);rintro _ rfl;dsimp only)))
 (apply je;exact rfl;exact rfl;exact rfl;exact rfl)
 all_goals intro h1
 ·rw [show D.read k n=(Sct.full 0,D.look k n) by unfold DD.read;rw [if_pos (by omega)]]
  (repeat(first|refine aj ?_|refine ac ?_|refine ab ?_|refine ar rfl ?_|(apply ai;exact rfl;exact rfl;exact rfl)|(apply ah;exact rfl;exact rfl;exact rfl)|refine be rfl rfl rfl rfl (F.sz _ rfl) (by(repeat(exact Tr.ae _ _ _));done) rfl (by exact zj rfl) rfl ?_|(refine mw rfl rfl bSec ?_)))
  (try rw [fc])
  ((apply aS Try.func20 (congrArg Array.toList Try.results20));(focus((apply ResIs.cell rfl (LoadIs.many (F.ag _ rfl) (by(repeat(exact Tr.ae _ _ _));done) (du _)));apply ResIs.tmp rfl;exact ResIs.nil)))
  exact⟨rfl,zJ _,fun z hz=>by(focus((repeat(refine(Tr.aa _ _ (by omega)).trans ?_));exact rfl))⟩
 ·have h0:D.look k n=0:=by omega
  obtain⟨l,hl⟩:=mQ h0
  rw [show D.read k n=((((D.sec k n).map Sec.has).getD (Sct.full 0)),0) by unfold DD.read;rw [if_neg (by omega)]]
  have hwr:=hok.f.wr k l n
  obtain⟨mp,m,c,G,h,hF⟩:=hD0
  have hbox:=h.box
  have hmap:=h.map
  rw [h.fl] at hl hwr
  obtain⟨fn,hg⟩:=jV hl
  obtain⟨ms,m2,c2,G2,R,hf,rfl,_,_,hG⟩:=h.file hg
  have hfb:=hf.box
  have hfm:=hf.map
  rw [h.sec hg]
  cases hs:cr m2 n with
  | none=>
    (repeat(first|refine aj ?_|refine ac ?_|refine ab ?_|refine aE ?_|refine an rfl ?_|(apply ai;exact rfl;exact rfl;exact rfl)|(apply ah;exact rfl;exact rfl;exact rfl)|(apply aR;exact rfl;exact rfl;exact rfl)|(apply aJ;exact rfl;exact rfl;exact rfl;exact(F.fo _ _ rfl rfl))|(apply sw;exact rfl;exact rfl;exact rfl;exact rfl;exact rfl;exact(F.un _ rfl);exact rfl)|refine be rfl rfl rfl rfl (F.sz _ rfl) (by(repeat(first|assumption|exact Tr.ae _ _ _));done) rfl (by exact zj rfl) rfl ?_|refine aH rfl rfl rfl (F.ag _ rfl) (by assumption) (by exact rfl) ?_|refine fx (m:=m) (enc:=kE) (val:=f8) rfl rfl rfl rfl (F.un _ rfl) (kK) (by assumption) (hg) ?_|refine pp (m:=m2) (enc:=iE) (val:=iS) rfl rfl rfl rfl (F.un _ rfl) (iK) (by assumption) (hs) (F.ze _ rfl) ?_|(refine mw rfl rfl bSec ?_)))
    (try rw [fc])
    ((apply aS Try.func20 (congrArg Array.toList Try.results20));(focus((apply ResIs.cell rfl (LoadIs.many (F.ag _ rfl) (by(repeat(exact Tr.ae _ _ _));done) (du _)));apply ResIs.tmp rfl;exact ResIs.nil)))
    exact⟨rfl,zJ _,fun z hz=>by(focus((repeat(refine(Tr.aa _ _ (by omega)).trans ?_));exact rfl))⟩
  | some x=>
    obtain⟨q,x⟩:=x
    obtain⟨F1,R1,hps,_,_,hG2⟩:=hf.sec hs
    have hpl: ∀ z,F1 z→z<nx:=fun z hz=>hlt z ((hF z).2 (.inr (.inr ((hG z).2 (.inl (.inr (.inr ((hG2 z).2 (.inl hz)))))))))
    have hq:q<nx:=by
     obtain⟨v,G3,_,_,_,g4⟩:=id hps
     exact hpl q ((g4 q).2 (.inl rfl))
    have hle:=hwr x (hl ▸ rfl) (by rw [kp,hs];rfl)
    (repeat(first|(refine io rfl rfl rfl (F.sz _ rfl) (by(repeat(exact Tr.ae _ _ _));done) (bB _) (by rw [bB];exact zA _) (gk _) (fc _ _) ?_)|refine aj ?_|refine ac ?_|refine ab ?_|refine aE ?_|refine ar rfl ?_|refine an rfl ?_|(apply ai;exact rfl;exact rfl;exact rfl)|(apply ah;exact rfl;exact rfl;exact rfl)|(apply aR;exact rfl;exact rfl;exact rfl)|(apply aJ;exact rfl;exact rfl;exact rfl;exact(F.fo _ _ rfl rfl))|(apply sx;exact rfl;exact rfl;exact rfl;exact rfl;exact(F.un _ rfl);exact rfl)|refine aH rfl rfl rfl (F.ag _ rfl) (by assumption) (by exact rfl) ?_|refine fx (m:=m) (enc:=kE) (val:=f8) rfl rfl rfl rfl (F.un _ rfl) (kK) (by assumption) (hg) ?_|refine fx (m:=m2) (enc:=iE) (val:=iS) rfl rfl rfl rfl (F.un _ rfl) (iK) (by assumption) (hs) ?_|(refine aQ rfl rfl rfl (by kernel_rfl) (Fnc.mono (yT hps (by omega) (by omega) (fun z hz=>Nat.lt_succ_of_lt (hpl z hz))) ?_);rintro _ rfl;dsimp only)))
    (try rw [fc])
    ((apply aS Try.func20 (congrArg Array.toList Try.results20));(focus((apply ResIs.cell rfl (LoadIs.many (F.ag _ rfl) (by(repeat(exact Tr.ae _ _ _));done) (du _)));apply ResIs.tmp rfl;exact ResIs.nil)))
    exact⟨rfl,zJ _,fun z hz=>by(focus((repeat(refine(Tr.aa _ _ (by omega)).trans ?_));exact rfl))⟩
theorem nJ{d:Nat}{D:DD}{Fp:Nat→Prop}{H:aK}{nx N:Nat}(hD:DAt d D Fp H)(hok:D.Ok N)(hN:N<1000000)(k:ByteArray)(hk:k.size≤140737488355328)(n:Int):Fnc Try.prog 20 [.ptr d 0,.sc (kE k),.sc (iE n)] H nx (fun q=>q=(.tup [.agg (cW (D.read k n).1),.sc (.int .i64 (D.read k n).2)],H,nx)):=Fnc.np (Free.two (Free.agg _) (Free.sc _)) (yD hD hok hN k hk n)
def x7(d:Nat)(D':DD)(v:SV)(Fp:Nat→Prop)(H:aK)(nx:Nat):Pst:=fun q=>q.1=v∧ ∃ F',DAt d D' F' q.2.1∧Stp Fp F' H nx q.2.1 q.2.2
theorem Dk.set{d mp:Nat}{m:MFl}{c:Nat}{D D':DD}{G:Nat→Prop}{H H':aK}(h:Dk d mp m c D G H)(hf:D'.files=D.files)(hc:D'.cap=D.cap)(hb:H'.at' d=some (ak 58 (dkC D' mp)))(fr: ∀ z,z≠d→H'.at' z=H.at' z):Dk d mp m c D' G H':=
 ⟨hb,(fr mp h.ne.symm).trans h.map,h.ok,Big.frame dO _ _ _ _ h.big fun z hz=>fr z fun e=>h.nd (e ▸ hz),hf.trans h.fl,h.ne,h.nd,h.nm,by rw [hc];exact h.cap⟩
theorem jM{D D':DD}(h:D'.files=D.files):D'.used=D.used:=by unfold DD.used;rw [h]
theorem jE{d:Nat}{D:DD}{Fp:Nat→Prop}{H:aK}{nx N:Nat}(hD:DAt d D Fp H)(hok:D.Ok N)(hN:N<1000000)(wr:Bool)(f:FuncId)(caps:List SV)(g:DD→DD)(hm:bZ Try.prog f=true)
 (hdo: ∀ D1 H1,D1.files=D.files→D1.cap=D.cap→DAt d D1 Fp H1→(∀ z,z≠d→H1.at' z=H.at' z)→Fnc Try.prog f caps H1 nx (fun q=> ∃ F',DAt d (g D1) F' q.2.1∧Stp Fp F' H1 nx q.2.1 q.2.2)) :
 Fnc Try.prog 40 [.ptr d 0,.sc (.bool wr),.fn (.func f) [] caps] H nx (x7 d (D.change wr g).1 (.sc (.int .i64 (D.change wr g).2)) Fp H nx):=by
 obtain⟨mp,m,c,G,h,hF⟩:=hD
 have hbox:=h.box
 have hch:=hok.chg
 have hfu:=hok.fuse
 have hFd:Fp d:=(hF d).2 (.inl rfl)
 have stp: ∀ {F':Nat→Prop} {H1 H2:aK} {n2:Nat},(∀ z,z≠d→H1.at' z=H.at' z)→Stp Fp F' H1 nx H2 n2→Stp Fp F' H nx H2 n2:=fun hk hs=>⟨hs.1,hs.2.1,fun z hz hn=>(hs.2.2 z hz hn).trans (hk z fun e=>hn (e ▸ hFd))⟩
 refine Fnc.start Try.func40 rfl rfl ?_
 (repeat(first|refine aj ?_|refine ac ?_|refine ab ?_|(apply ai;exact rfl;exact rfl;exact rfl)|(apply ah;exact rfl;exact rfl;exact rfl)|(apply aR;exact rfl;exact rfl;exact rfl)|(apply aJ;exact rfl;exact rfl;exact rfl;exact(F.fo _ _ rfl rfl))|refine aH rfl rfl rfl (F.ag _ rfl) (by assumption) (by exact rfl) ?_))
 unfold DD.change
 cases hd:D.dead with
 | true=>
   (repeat(first|refine aj ?_|refine ac ?_|refine ab ?_|refine ar rfl ?_|(apply ah;exact rfl;exact rfl;exact rfl)))
   ((apply aS Try.func40 (congrArg Array.toList Try.results40));(focus(repeat(first|exact ResIs.nil|apply ResIs.tmp rfl))))
   exact⟨rfl,Fp,⟨mp,m,c,G,h,hF⟩,Stp.refl⟩
 | false=>
   (repeat(first|refine aj ?_|refine ac ?_|refine ab ?_|refine aE ?_|refine an rfl ?_|(apply ai;exact rfl;exact rfl;exact rfl)|(apply aR;exact rfl;exact rfl;exact rfl)|(apply aJ;exact rfl;exact rfl;exact rfl;exact(F.fo _ _ rfl rfl))|refine be rfl rfl rfl rfl (F.sz _ rfl) (by first|exact rfl|assumption) rfl (by exact zj rfl) rfl ?_|refine aH rfl rfl rfl (F.ag _ rfl) (by(repeat(first|assumption|exact Tr.ae _ _ _));done) (by exact rfl) ?_|(apply bj;exact rfl;exact rfl;exact rfl;exact rfl;(focus(omega));(focus(omega)))))
   simp only [Bool.false_eq_true,if_false]
   (apply cP;exact rfl;exact rfl;exact rfl;exact rfl)
   all_goals intro h1
   ·rw [if_pos h1]
    cases wr with
    | false=>
      (repeat(first|refine aj ?_|refine ac ?_|refine ab ?_|refine aE ?_|refine ar rfl ?_|refine an rfl ?_|(apply ai;exact rfl;exact rfl;exact rfl)|(apply ah;exact rfl;exact rfl;exact rfl)|(apply aR;exact rfl;exact rfl;exact rfl)|(apply aJ;exact rfl;exact rfl;exact rfl;exact(F.fo _ _ rfl rfl))|refine be rfl rfl rfl rfl (F.sz _ rfl) (by first|exact rfl|(focus((repeat(first|assumption|exact Tr.ae _ _ _));done))) rfl (by exact zj rfl) rfl ?_))
      ((apply aS Try.func40 (congrArg Array.toList Try.results40));(focus(repeat(first|exact ResIs.nil|apply ResIs.tmp rfl))))
      exact⟨rfl,Fp,⟨mp,m,c,G,h.set rfl rfl (Tr.ae _ _ _) (fun z hz=>(Tr.aa _ _ hz).trans (Tr.aa _ _ hz)),hF⟩,stp (fun z hz=>(Tr.aa _ _ hz).trans (Tr.aa _ _ hz)) Stp.refl⟩
    | true=>
      (repeat(first|refine aj ?_|refine ac ?_|refine ab ?_|refine ar rfl ?_|(apply ai;exact rfl;exact rfl;exact rfl)|(apply aR;exact rfl;exact rfl;exact rfl)|(apply aJ;exact rfl;exact rfl;exact rfl;exact(F.fo _ _ rfl rfl))|refine be rfl rfl rfl rfl (F.sz _ rfl) (by first|exact rfl|(focus((repeat(first|assumption|exact Tr.ae _ _ _));done))) rfl (by exact zj rfl) rfl ?_))
      refine pu rfl rfl rfl rfl hm (Fnc.mono (hdo {D with dead:=true,changes:=D.changes+1} _ rfl rfl ⟨mp,m,c,G,h.set rfl rfl (Tr.ae _ _ _) (fun z hz=>(Tr.aa _ _ hz).trans (Tr.aa _ _ hz)),hF⟩ (fun z hz=>(Tr.aa _ _ hz).trans (Tr.aa _ _ hz))) ?_)
      rintro⟨_,H2,n2⟩ ⟨F',hA,hS⟩
      dsimp only at hA hS ⊢
      (repeat(first|refine aj ?_|refine ac ?_|refine ab ?_|(apply ah;exact rfl;exact rfl;exact rfl)))
      ((apply aS Try.func40 (congrArg Array.toList Try.results40));(focus(repeat(first|exact ResIs.nil|apply ResIs.tmp rfl))))
      exact⟨rfl,F',hA,stp (fun z hz=>(Tr.aa _ _ hz).trans (Tr.aa _ _ hz)) hS⟩
   ·rw [if_neg h1]
    (repeat(first|refine aj ?_|refine ac ?_|refine ab ?_|refine aE ?_|refine an rfl ?_|(apply ai;exact rfl;exact rfl;exact rfl)|(apply aR;exact rfl;exact rfl;exact rfl)|(apply aJ;exact rfl;exact rfl;exact rfl;exact(F.fo _ _ rfl rfl))|refine aH rfl rfl rfl (F.ag _ rfl) (by(repeat(first|assumption|exact Tr.ae _ _ _));done) (by exact rfl) ?_))
    (apply dB;exact rfl;exact rfl;exact rfl;exact rfl)
    all_goals intro h2
    ·rw [if_pos h2]
     (repeat(first|refine aj ?_|refine ac ?_|refine ab ?_|refine ar rfl ?_|(apply ai;exact rfl;exact rfl;exact rfl)|(apply aR;exact rfl;exact rfl;exact rfl)|(apply aJ;exact rfl;exact rfl;exact rfl;exact(F.fo _ _ rfl rfl))|refine be rfl rfl rfl rfl (F.sz _ rfl) (by first|exact rfl|(focus((repeat(first|assumption|exact Tr.ae _ _ _));done))) rfl (by exact zj rfl) rfl ?_|refine aH rfl rfl rfl (F.ag _ rfl) (by(repeat(first|assumption|exact Tr.ae _ _ _));done) (by exact rfl) ?_|(apply bN;exact rfl;exact rfl;exact rfl;exact rfl;(focus(omega));(focus(omega)))))
     refine pu rfl rfl rfl rfl hm (Fnc.mono (hdo {D with fuse:=D.fuse-1,dead:=false,changes:=D.changes+1} _ rfl rfl ⟨mp,m,c,G,h.set rfl rfl ((Tr.ae _ _ _).trans (by rw [← hd];rfl)) (fun z hz=>(Tr.aa _ _ hz).trans (Tr.aa _ _ hz)),hF⟩ (fun z hz=>(Tr.aa _ _ hz).trans (Tr.aa _ _ hz))) ?_)
     rintro⟨_,H2,n2⟩ ⟨F',hA,hS⟩
     dsimp only at hA hS ⊢
     (repeat(first|refine aj ?_|refine ac ?_|refine ab ?_|(apply ah;exact rfl;exact rfl;exact rfl)))
     ((apply aS Try.func40 (congrArg Array.toList Try.results40));(focus(repeat(first|exact ResIs.nil|apply ResIs.tmp rfl))))
     exact⟨rfl,F',hA,stp (fun z hz=>(Tr.aa _ _ hz).trans (Tr.aa _ _ hz)) hS⟩
    ·rw [if_neg (show ¬ 0<D.fuse by omega)]
     (repeat(first|refine aj ?_|refine ac ?_|refine ab ?_|refine aE ?_|refine an rfl ?_|(apply ai;exact rfl;exact rfl;exact rfl)))
     refine pu rfl rfl rfl rfl hm (Fnc.mono (hdo {D with dead:=false,changes:=D.changes+1} _ rfl rfl ⟨mp,m,c,G,h.set rfl rfl ((Tr.ae _ _ _).trans (by rw [← hd];rfl)) (fun z hz=>Tr.aa _ _ hz),hF⟩ (fun z hz=>Tr.aa _ _ hz)) ?_)
     rintro⟨_,H2,n2⟩ ⟨F',hA,hS⟩
     dsimp only at hA hS ⊢
     (repeat(first|refine aj ?_|refine ac ?_|refine ab ?_|(apply ah;exact rfl;exact rfl;exact rfl)))
     ((apply aS Try.func40 (congrArg Array.toList Try.results40));(focus(repeat(first|exact ResIs.nil|apply ResIs.tmp rfl))))
     exact⟨rfl,F',hA,stp (fun z hz=>Tr.aa _ _ hz) hS⟩
theorem jz(m:MFl)(k:ByteArray)(n:Nat)(l:List (Int×Sec))(c:Nat):pm (cZ m k (n,l) c)=cc (pm m) k l:=by
 unfold pm
 rw [oG]
 exact qK (fun x:Nat×List (Int×Sec)=>x.2) (kv m) k (n,l)
theorem qr(m:MSc)(k:Int)(n:Nat)(s:Sec)(c:Nat):di (cZ m k (n,s) c)=cc (di m) k s:=by
 unfold di
 rw [oG]
 exact qK (fun x:Nat×Sec=>x.2) (kv m) k (n,s)
theorem tH{K V:Type} [DecidableEq K](m:List (K×V))(k:K)(x y:V):cc (cc m k x) k y=cc m k y:=by
 induction m with
 | nil=>simp [cc]
 | cons z m ih=>
   by_cases h:z.1=k
   ·simp [cc,h]
   ·simp [cc,h,ih]
def Foc(d:Nat)(k:ByteArray)(n:Int)(q:Nat)(s:Sec)(D:DD)(Fp:Nat→Prop)(H:aK):Prop:= ∃ (v:SV) (GW Rest:Nat→Prop),H.at' q=some (ak 80 (cW s.lasts ++ [v]))∧y9 v s.writes H GW∧ ¬ GW q∧ ¬ Rest q∧(∀ z,GW z→ ¬ Rest z)∧(∀ z,Fp z↔z=q∨GW z∨Rest z)∧Rest d∧(∀ z,Fp z→ ∃ vo,H.at' z=some vo) ∧
 ∀ (H':aK) (s':Sec) (v':SV) (GW':Nat→Prop),H'.at' q=some (ak 80 (cW s'.lasts ++ [v']))→y9 v' s'.writes H' GW'→ ¬ GW' q→(∀ z,GW' z→ ¬ Rest z)→(∀ z,Rest z→H'.at' z=H.at' z)→DAt d (D.lay k n fun _=>s') (fun z=>z=q∨GW' z∨Rest z) H'
theorem Dk.foc{d mp:Nat}{m:MFl}{c:Nat}{D:DD}{G:Nat→Prop}{H:aK}(h:Dk d mp m c D G H){k:ByteArray}{fn ms:Nat}{m2:MSc}{c2:Nat}{G2 R:Nat→Prop}(hg:cr m k=some (fn,di m2))(hf:Fl fn ms m2 c2 G2 H)(hR:Big PF (kv (hY m k)) H R)(hd: ∀ z,(z=fn∨z=ms∨G2 z)→ ¬ R z)(hG: ∀ z,G z↔(z=fn∨z=ms∨G2 z)∨R z)
 {n:Int} {q:Nat} {s:Sec} (hs:cr m2 n=some (q,s)):Foc d k n q s D (fun z=>z=d∨z=mp∨G z) H:=by
 obtain⟨F1,R1,⟨v,GW,p1,p2,p3,p4⟩,r1,r2,r3⟩:=hf.sec hs
 dsimp only at p1 p2 p3 p4
 have gq:G2 q:=(r3 q).2 (.inl ((p4 q).2 (.inl rfl)))
 have gw: ∀ z,GW z→G2 z:=fun z hz=>(r3 z).2 (.inl ((p4 z).2 (.inr hz)))
 have out: ∀ z,G2 z→z≠d∧z≠mp∧z≠fn∧z≠ms∧ ¬ R z:=fun z hz=>by
  have hGz:G z:=(hG z).2 (.inl (.inr (.inr hz)))
  exact⟨fun e=>h.nd (e ▸ hGz),fun e=>h.nm (e ▸ hGz),fun e=>hf.nn (e ▸ hz),fun e=>hf.nm (e ▸ hz),hd z (.inr (.inr hz))⟩
 have rest: ∀ z,G2 z→ ¬ R1 z→ ¬ (z=d∨z=mp∨z=fn∨z=ms∨R1 z∨R z):=fun z hz h1 h2=>by
  obtain⟨o1,o2,o3,o4,o5⟩:=out z hz
  rcases h2 with h2|h2|h2|h2|h2|h2
  ·exact o1 h2
  ·exact o2 h2
  ·exact o3 h2
  ·exact o4 h2
  ·exact h1 h2
  ·exact o5 h2
 refine⟨v,GW,fun z=>z=d∨z=mp∨z=fn∨z=ms∨R1 z∨R z,p1,p2,p3,rest q gq (r2 q ((p4 q).2 (.inl rfl))),fun z hz=>rest z (gw z hz) (r2 z ((p4 z).2 (.inr hz))),fun z=>?_,.inl rfl,fun z hz=>?_,?_⟩
 rotate_left
 ·rcases hz with rfl|rfl|hz
  ·exact⟨_,h.box⟩
  ·exact⟨_,h.map⟩
  ·exact Big.lt wS h.big hz
 rotate_left
 ·show(z=d∨z=mp∨G z)↔z=q∨GW z∨(z=d∨z=mp∨z=fn∨z=ms∨R1 z∨R z)
  rw [hG,r3,p4]
  constructor
  ·rintro(h|h|(h|h|(h|h)|h)|h)
   ·exact .inr (.inr (.inl h))
   ·exact .inr (.inr (.inr (.inl h)))
   ·exact .inr (.inr (.inr (.inr (.inl h))))
   ·exact .inr (.inr (.inr (.inr (.inr (.inl h)))))
   ·exact .inl h
   ·exact .inr (.inl h)
   ·exact .inr (.inr (.inr (.inr (.inr (.inr (.inl h))))))
   ·exact .inr (.inr (.inr (.inr (.inr (.inr (.inr h))))))
  ·rintro(h|h|h|h|h|h|h|h)
   ·exact .inr (.inr (.inl (.inr (.inr (.inl (.inl h))))))
   ·exact .inr (.inr (.inl (.inr (.inr (.inl (.inr h))))))
   ·exact .inl h
   ·exact .inr (.inl h)
   ·exact .inr (.inr (.inl (.inl h)))
   ·exact .inr (.inr (.inl (.inr (.inl h))))
   ·exact .inr (.inr (.inl (.inr (.inr (.inr h)))))
   ·exact .inr (.inr (.inr h))
 intro H' s' v' GW' e1 e2 e3 e4 fr
 have ps:PS n (q,s') H' (fun z=>z=q∨GW' z):=⟨v',GW',e1,e2,e3,fun z=>Iff.rfl⟩
 have b2:Big PS (kv (cZ m2 n (q,s') c2)) H' (fun z=>(z=q∨GW' z)∨R1 z):=Big.put d9 hs c2 r1 ps (fun z hz=>fr z (.inr (.inr (.inr (.inr (.inl hz)))))) fun z hz=>by
  rcases hz with rfl|hz
  ·exact r2 z ((p4 z).2 (.inl rfl))
  ·exact fun hr=>e4 z hz (.inr (.inr (.inr (.inr (.inl hr)))))
 have gout: ∀ z,((z=q∨GW' z)∨R1 z)→z≠d∧z≠mp∧z≠fn∧z≠ms∧ ¬ R z:=fun z hz=>by
  rcases hz with (rfl|hz)|hz
  ·exact out z gq
  ·have:=e4 z hz
   exact⟨fun e=>this (.inl e),fun e=>this (.inr (.inl e)),fun e=>this (.inr (.inr (.inl e))),fun e=>this (.inr (.inr (.inr (.inl e)))),fun e=>this (.inr (.inr (.inr (.inr (.inr e)))))⟩
  ·exact out z ((r3 z).2 (.inr hz))
 have hk2:=hf.ok.put n (q,s')
 rw [jw hs] at hk2
 have fl:Fl fn ms (cZ m2 n (q,s') c2) c2 (fun z=>(z=q∨GW' z)∨R1 z) H':=
  ⟨(fr fn (.inr (.inr (.inl rfl)))).trans hf.box,(fr ms (.inr (.inr (.inr (.inl rfl))))).trans (hf.map.trans (congrArg (fun l=>some (VO.map l c2)) (iz (g:=iS) (y:=(q,s')) hs rfl c2).symm)),hk2,b2,hf.ne,fun hz=>(gout fn hz).2.2.1 rfl,fun hz=>(gout ms hz).2.2.2.1 rfl⟩
 have pf:PF k (fn,di (cZ m2 n (q,s') c2)) H' (fun z=>z=fn∨z=ms∨((z=q∨GW' z)∨R1 z)):=⟨ms,_,c2,_,fl,rfl,fun z=>Iff.rfl⟩
 have dis: ∀ z,(z=fn∨z=ms∨((z=q∨GW' z)∨R1 z))→ ¬ R z:=fun z hz=>by
  rcases hz with hz|hz|hz
  ·exact hd z (.inl hz)
  ·exact hd z (.inr (.inl hz))
  ·exact(gout z hz).2.2.2.2
 have b1:Big PF (kv (cZ m k (fn,di (cZ m2 n (q,s') c2)) c)) H' (fun z=>(z=fn∨z=ms∨((z=q∨GW' z)∨R1 z))∨R z):=Big.put dO hg c hR pf (fun z hz=>fr z (.inr (.inr (.inr (.inr (.inr hz)))))) dis
 have hk:=h.ok.put k (fn,di (cZ m2 n (q,s') c2))
 rw [jw hg] at hk
 have hmg:a6 D.files k=some (di m2):=by rw [h.fl,dR,hg];rfl
 have hms:a6 (di m2) n=some s:=by rw [kp,hs];rfl
 have hlay:(D.lay k n fun _=>s')=D.setFiles (cc D.files k (cc (di m2) n s')):=by unfold DD.lay;rw [hmg]
 have hus:(D.setFiles (cc D.files k (cc (di m2) n s'))).used=D.used:=by
  have:=eZ hmg (cc (di m2) n s')
  rw [mT hms] at this
  show cb _=cb _
  simp only [DD.setFiles]
  omega
 have dout: ∀ z,((z=fn∨z=ms∨((z=q∨GW' z)∨R1 z))∨R z)→z≠d∧z≠mp:=fun z hz=>by
  rcases hz with (hz|hz|hz)|hz
  ·have:G z:=(hG z).2 (.inl (.inl hz))
   exact⟨fun e=>h.nd (e ▸ this),fun e=>h.nm (e ▸ this)⟩
  ·have:G z:=(hG z).2 (.inl (.inr (.inl hz)))
   exact⟨fun e=>h.nd (e ▸ this),fun e=>h.nm (e ▸ this)⟩
  ·exact⟨(gout z hz).1,(gout z hz).2.1⟩
  ·have:G z:=(hG z).2 (.inr hz)
   exact⟨fun e=>h.nd (e ▸ this),fun e=>h.nm (e ▸ this)⟩
 rw [hlay]
 refine⟨mp,_,c,_,⟨?_,(fr mp (.inr (.inl rfl))).trans (h.map.trans (congrArg (fun l=>some (VO.map l c)) (iz (g:=f8) (y:=(fn,di (cZ m2 n (q,s') c2))) hg rfl c).symm)),hk,b1,?_,h.ne,fun hz=>(dout d hz).1 rfl,fun hz=>(dout mp hz).2 rfl,h.cap⟩,fun z=>?_⟩
 ·refine(fr d (.inl rfl)).trans (h.box.trans ?_)
  unfold dkC
  rw [hus]
  rfl
 ·show cc D.files k (cc (di m2) n s')=_
  rw [jz,qr,h.fl]
 ·constructor
  ·rintro(h|h|h|h|h|h|h|h)
   ·exact .inr (.inr (.inl (.inr (.inr (.inl (.inl h))))))
   ·exact .inr (.inr (.inl (.inr (.inr (.inl (.inr h))))))
   ·exact .inl h
   ·exact .inr (.inl h)
   ·exact .inr (.inr (.inl (.inl h)))
   ·exact .inr (.inr (.inl (.inr (.inl h))))
   ·exact .inr (.inr (.inl (.inr (.inr (.inr h)))))
   ·exact .inr (.inr (.inr h))
  ·rintro(h|h|(h|h|(h|h)|h)|h)
   ·exact .inr (.inr (.inl h))
   ·exact .inr (.inr (.inr (.inl h)))
   ·exact .inr (.inr (.inr (.inr (.inl h))))
   ·exact .inr (.inr (.inr (.inr (.inr (.inl h)))))
   ·exact .inl h
   ·exact .inr (.inl h)
   ·exact .inr (.inr (.inr (.inr (.inr (.inr (.inl h))))))
   ·exact .inr (.inr (.inr (.inr (.inr (.inr (.inr h))))))
theorem tI{K V:Type} [DecidableEq K]{l:List (K×V)}{k:K}{v:V}(h:a6 l k=some v)(w:V):eJ (cc l k w) k=eJ l k:=by
 obtain⟨A,B,rfl,h2⟩:=da h
 rw [ix h2,iy h2,iy h2]
theorem Dk.addSec{d mp:Nat}{m:MFl}{c:Nat}{D:DD}{G:Nat→Prop}{H:aK}(h:Dk d mp m c D G H){k:ByteArray}{fn ms:Nat}{m2:MSc}{c2:Nat}{G2 R:Nat→Prop}(hg:cr m k=some (fn,di m2))(hf:Fl fn ms m2 c2 G2 H)(hR:Big PF (kv (hY m k)) H R)(hd: ∀ z,(z=fn∨z=ms∨G2 z)→ ¬ R z)(hG: ∀ z,G z↔(z=fn∨z=ms∨G2 z)∨R z)
 {n:Int} (hs:cr m2 n=none) {x:Nat} (hx: ∀ z,(z=d∨z=mp∨G z)→z<x) {H':aK} (e1:H'.at' x=some (ak 80 (cW Sec.zero.lasts ++ [.sc (.slice none 0 0)]))) (e2:H'.at' ms=some (eK iE iS (cZ m2 n (x,Sec.zero) c2) (ko m2 n c2)))
 (e3:H'.at' d=some (ak 58 (dkC (D.lay k n fun s=>s) mp))) (fr: ∀ z,(z=mp∨z=fn∨G2 z∨R z)→H'.at' z=H.at' z):Foc d k n x Sec.zero (D.lay k n fun s=>s) (fun z=>z=d∨z=mp∨((z=fn∨z=ms∨(z=x∨G2 z))∨R z)) H':=by
 have xd:x≠d:=fun e=>by have:=hx d (.inl rfl);omega
 have xm:x≠mp:=fun e=>by have:=hx mp (.inr (.inl rfl));omega
 have xG: ¬ G x:=fun e=>by have:=hx x (.inr (.inr e));omega
 have xf:x≠fn:=fun e=>xG ((hG x).2 (.inl (.inl e)))
 have xs:x≠ms:=fun e=>xG ((hG x).2 (.inl (.inr (.inl e))))
 have x2: ¬ G2 x:=fun e=>xG ((hG x).2 (.inl (.inr (.inr e))))
 have xR: ¬ R x:=fun e=>xG ((hG x).2 (.inr e))
 have ps:PS n (x,Sec.zero) H' (fun z=>z=x):=⟨_,fun _=>False,e1,.inl ⟨rfl,rfl,fun _ q=>q⟩,fun q=>q,fun z=>by simp⟩
 have b2:Big PS (kv (cZ m2 n (x,Sec.zero) c2)) H' (fun z=>z=x∨G2 z):=Big.add d9 hs c2 hf.big ps (fun z hz=>fr z (.inr (.inr (.inl hz)))) fun z hz=>by rw [hz];exact x2
 have hk2:=hf.ok.put n (x,Sec.zero)
 have fl:Fl fn ms (cZ m2 n (x,Sec.zero) c2) (ko m2 n c2) (fun z=>z=x∨G2 z) H':=
  ⟨(fr fn (.inr (.inl rfl))).trans hf.box,e2,hk2,b2,hf.ne,fun hz=>hz.elim (fun e=>xf e.symm) hf.nn,fun hz=>hz.elim (fun e=>xs e.symm) hf.nm⟩
 have pf:PF k (fn,di (cZ m2 n (x,Sec.zero) c2)) H' (fun z=>z=fn∨z=ms∨(z=x∨G2 z)):=⟨ms,_,_,_,fl,rfl,fun z=>Iff.rfl⟩
 have dis: ∀ z,(z=fn∨z=ms∨(z=x∨G2 z))→ ¬ R z:=fun z hz=>by
  rcases hz with hz|hz|hz|hz
  ·exact hd z (.inl hz)
  ·exact hd z (.inr (.inl hz))
  ·rw [hz];exact xR
  ·exact hd z (.inr (.inr hz))
 have b1:Big PF (kv (cZ m k (fn,di (cZ m2 n (x,Sec.zero) c2)) c)) H' (fun z=>(z=fn∨z=ms∨(z=x∨G2 z))∨R z):=Big.put dO hg c hR pf (fun z hz=>fr z (.inr (.inr (.inr hz)))) dis
 have hk:=h.ok.put k (fn,di (cZ m2 n (x,Sec.zero) c2))
 rw [jw hg] at hk
 have hmg:a6 D.files k=some (di m2):=by rw [h.fl,dR,hg];rfl
 have hms:a6 (di m2) n=none:=by rw [kp,hs];rfl
 have hlay:(D.lay k n fun s=>s)=D.setFiles (cc D.files k (cc (di m2) n Sec.zero)):=by
  unfold DD.lay
  rw [hmg]
  simp only [hms,Option.getD_none]
 have dout: ∀ z,((z=fn∨z=ms∨(z=x∨G2 z))∨R z)→z≠d∧z≠mp:=fun z hz=>by
  have:G z∨z=x:=by
   rcases hz with (hz|hz|hz|hz)|hz
   ·exact .inl ((hG z).2 (.inl (.inl hz)))
   ·exact .inl ((hG z).2 (.inl (.inr (.inl hz))))
   ·exact .inr hz
   ·exact .inl ((hG z).2 (.inl (.inr (.inr hz))))
   ·exact .inl ((hG z).2 (.inr hz))
  rcases this with hz|rfl
  ·exact⟨fun e=>h.nd (e ▸ hz),fun e=>h.nm (e ▸ hz)⟩
  ·exact⟨xd,xm⟩
 have dk:Dk d mp (cZ m k (fn,di (cZ m2 n (x,Sec.zero) c2)) c) c (D.lay k n fun s=>s) (fun z=>(z=fn∨z=ms∨(z=x∨G2 z))∨R z) H':=
  ⟨e3,(fr mp (.inl rfl)).trans (h.map.trans (congrArg (fun l=>some (VO.map l c)) (iz (g:=f8) (y:=(fn,di (cZ m2 n (x,Sec.zero) c2))) hg rfl c).symm)),hk,b1,by
    rw [hlay]
    show cc D.files k (cc (di m2) n Sec.zero)=_
    rw [jz,qr,h.fl],h.ne,fun hz=>(dout d hz).1 rfl,fun hz=>(dout mp hz).2 rfl,by rw [hlay];exact h.cap⟩
 refine dk.foc (oH _ _ _ _) fl ?_ dis (fun z=>Iff.rfl) (oH _ _ _ _)
 have:kv (hY (cZ m k (fn,di (cZ m2 n (x,Sec.zero) c2)) c) k)=kv (hY m k):=by
  rw [qQ,oG,qQ]
  exact tI (by rw [ju];exact hg) _
 rw [this]
 exact Big.frame dO _ _ _ _ hR fun z hz=>fr z (.inr (.inr (.inr hz)))
theorem bSecr:ku Try.prog 80 []=some (.agg (cW (Sct.full 0) ++ [.sc (.slice none 0 0)])):=by kernel_rfl
theorem at_t{d:Nat}{D:DD}{Fp:Nat→Prop}{H:aK}{nx:Nat}(hD:DAt d D Fp H)(hu:D.used<1000000000)(k:ByteArray)(n:Int){l:List (Int×Sec)}(hl:a6 D.files k=some l):Fnc Try.prog 46 [.ptr d 0,.sc (kE k),.sc (iE n)] H nx
 (fun q=> ∃ z F' D2,q.1 = .ptr z 0∧Foc d k n z ((D.sec k n).getD Sec.zero) D2 F' q.2.1∧Stp Fp F' H nx q.2.1 q.2.2∧ ∀ s',(D2.lay k n fun _=>s')=D.lay k n fun _=>s'):=by
 refine Fnc.start Try.func46 rfl rfl ?_
 refine b7 fun hund=>?_
 have hlt:=hD.lt hund
 obtain⟨mp,m,c,G,h,hF⟩:=hD
 have hbox:=h.box
 have hmap:=h.map
 have hl0:=hl
 rw [h.fl] at hl
 obtain⟨fn,hg⟩:=jV hl
 obtain⟨ms,m2,c2,G2,R,hf,rfl,hR,hd,hG⟩:=h.file hg
 have hfb:=hf.box
 have hfm:=hf.map
 rw [h.sec hg]
 cases hs:cr m2 n with
 | some x=>
   obtain⟨q,s⟩:=x
   (repeat(first|refine aj ?_|refine ac ?_|refine ab ?_|refine aE ?_|refine an rfl ?_|(apply ai;exact rfl;exact rfl;exact rfl)|(apply ah;exact rfl;exact rfl;exact rfl)|(apply aR;exact rfl;exact rfl;exact rfl)|(apply aJ;exact rfl;exact rfl;exact rfl;exact(F.fo _ _ rfl rfl))|(apply fy;exact rfl;exact rfl;exact rfl;exact rfl;exact(F.un _ rfl);exact rfl)|refine aH rfl rfl rfl (F.ag _ rfl) (by assumption) (by exact rfl) ?_|refine fx (m:=m) (enc:=kE) (val:=f8) rfl rfl rfl rfl (F.un _ rfl) (kK) (by assumption) (hg) ?_|refine fx (m:=m2) (enc:=iE) (val:=iS) rfl rfl rfl rfl (F.un _ rfl) (iK) (by assumption) (hs) ?_))
   ((apply aS Try.func46 (congrArg Array.toList Try.results46));(focus(repeat(first|exact ResIs.nil|apply ResIs.tmp rfl))))
   have hF':(fun z=>z=d∨z=mp∨G z)=Fp:=funext fun z=>propext (hF z).symm
   exact⟨q,_,D,rfl,h.foc hg hf hR hd hG hs,by rw [hF'];exact Stp.refl,fun _=>rfl⟩
 | none=>
   have hk1:(z:Nat)→(z=d∨z=mp∨G z)→z<nx:=fun z hz=>hlt z ((hF z).2 hz)
   have l1:=hk1 d (.inl rfl)
   have l2:=hk1 mp (.inr (.inl rfl))
   have l3:=hk1 fn (.inr (.inr ((hG fn).2 (.inl (.inl rfl)))))
   have l4:=hk1 ms (.inr (.inr ((hG ms).2 (.inl (.inr (.inl rfl))))))
   have n1:=h.ne
   have n2:fn≠d:=fun e=>h.nd (e ▸ (hG fn).2 (.inl (.inl rfl)))
   have n3:ms≠d:=fun e=>h.nd (e ▸ (hG ms).2 (.inl (.inr (.inl rfl))))
   have n4:fn≠ms:=hf.ne
   (repeat(first|refine aj ?_|refine ac ?_|refine ab ?_|refine ar rfl ?_|(apply ai;exact rfl;exact rfl;exact rfl)|(apply ah;exact rfl;exact rfl;exact rfl)|(apply aR;exact rfl;exact rfl;exact rfl)|(apply aJ;exact rfl;exact rfl;exact rfl;exact(F.fo _ _ rfl rfl))|(apply w9;exact rfl;exact rfl;exact rfl;exact rfl;exact rfl;exact(F.un _ rfl);exact rfl)|refine be rfl rfl rfl rfl (F.sz _ rfl) (by(repeat(first|assumption|refine(Tr.aa _ _ (by omega)).trans ?_));done) rfl (by exact zj rfl) rfl ?_|(apply l6;exact rfl;exact rfl;exact rfl)|refine aH rfl rfl rfl (F.ag _ rfl) (by(repeat(first|assumption|refine(Tr.aa _ _ (by omega)).trans ?_));done) (by exact rfl) ?_|(apply bj;exact rfl;exact rfl;exact rfl;exact rfl;(focus(omega));(focus(omega)))|refine fx (m:=m) (enc:=kE) (val:=f8) rfl rfl rfl rfl (F.un _ rfl) (kK) (by assumption) (hg) ?_|refine pp (m:=m2) (enc:=iE) (val:=iS) rfl rfl rfl rfl (F.un _ rfl) (iK) (by assumption) (hs) (F.ze _ rfl) ?_|(refine mw rfl rfl bSecr ?_)|refine sy (m:=m2) (enc:=iE) (val:=iS) (kk:=n) (v:=(nx,Sec.zero)) rfl rfl rfl (F.un _ rfl) (iK) (by(repeat(first|assumption|refine(Tr.aa _ _ (by omega)).trans ?_));done) rfl ?_))
   ((apply aS Try.func46 (congrArg Array.toList Try.results46));(focus(repeat(first|exact ResIs.nil|apply ResIs.tmp rfl))))
   have hmg:a6 D.files k=some (di m2):=hl0
   have hms:a6 (di m2) n=none:=by rw [kp,hs];rfl
   have hlay:(D.lay k n fun s=>s)=D.setFiles (cc D.files k (cc (di m2) n Sec.zero)):=by
    unfold DD.lay
    rw [hmg]
    simp only [hms,Option.getD_none]
   have hus:(D.setFiles (cc D.files k (cc (di m2) n Sec.zero))).used=D.used+1:=by
    have:=eZ hmg (cc (di m2) n Sec.zero)
    rw [li hms] at this
    show cb _=cb _+1
    simp only [DD.setFiles]
    omega
   have far: ∀ z,(z=mp∨z=fn∨G2 z∨R z)→z<nx∧z≠ms∧z≠d:=fun z hz=>by
    rcases hz with rfl|rfl|hz|hz
    ·exact⟨l2,fun e=>h.nm ((hG z).2 (.inl (.inr (.inl e)))),fun e=>n1 e.symm⟩
    ·exact⟨l3,n4,n2⟩
    ·have hz2:=(hG z).2 (.inl (.inr (.inr hz)))
     exact⟨hk1 z (.inr (.inr hz2)),fun e=>hf.nm (e ▸ hz),fun e=>h.nd (e ▸ hz2)⟩
    ·have hz2:=(hG z).2 (.inr hz)
     exact⟨hk1 z (.inr (.inr hz2)),fun e=>hd ms (.inr (.inl rfl)) (e ▸ hz),fun e=>h.nd (e ▸ hz2)⟩
   refine⟨nx,_,D.lay k n fun s=>s,rfl,h.addSec hg hf hR hd hG hs hk1 (by(repeat(first|exact Tr.ae _ _ _|refine(Tr.aa _ _ (by omega)).trans ?_));done) (by(repeat(first|exact Tr.ae _ _ _|refine(Tr.aa _ _ (by omega)).trans ?_));done) ((Tr.ae _ _ _).trans ?_) (fun z hz=>by obtain⟨f1,f2,f3⟩:=far z hz;(focus((repeat(refine(Tr.aa _ _ (by omega)).trans ?_));exact rfl))),⟨zJ _,fun z hz=>?_,fun z hz hn=>?_⟩,fun s'=>?_⟩
   ·rw [hlay]
    unfold dkC
    rw [hus]
    rfl
   ·rw [hF,hG]
    rcases hz with hz|hz|(hz|hz|hz|hz)|hz
    ·exact .inl (.inl hz)
    ·exact .inl (.inr (.inl hz))
    ·exact .inl (.inr (.inr (.inl (.inl hz))))
    ·exact .inl (.inr (.inr (.inl (.inr (.inl hz)))))
    ·exact .inr (by omega)
    ·exact .inl (.inr (.inr (.inl (.inr (.inr hz)))))
    ·exact .inl (.inr (.inr (.inr hz)))
   ·have e1:z≠d:=fun e=>hn ((hF z).2 (.inl e))
    have e2:z≠ms:=fun e=>hn ((hF z).2 (.inr (.inr ((hG z).2 (.inl (.inr (.inl e)))))))
    (focus((repeat(refine(Tr.aa _ _ (by omega)).trans ?_));exact rfl))
   ·rw [hlay]
    unfold DD.lay DD.setFiles
    simp only [bX,if_true,hmg,tH]
theorem wV:cH Try.prog 45=some (.agg (List.replicate 256 (Value.int .u8 0)).toArray):=by kernel_rfl
theorem qZ{zs:List SV}(hz:zs.length=256)(s:Sct):fQ (fun i=>some (i*256,256)) zs [(0,.agg (cW s))]=some (cW s):=by
 have h1:(SV.agg (cW s)).cells.length=256:=bB s
 have h2:zs.take 0 ++ (SV.agg (cW s)).cells ++ zs.drop (0*256+256)=cW s:=by
  rw [List.take_zero,List.nil_append,List.drop_of_length_le (by omega),List.append_nil]
  rfl
 have h3:Nat.beq (SV.agg (cW s)).cells.length 256=true:=by rw [h1];rfl
 have h4:Nat.ble (0*256+256) zs.length=true:=by rw [hz];rfl
 simp only [fQ,h3,h4,Bool.and_self,cond_true]
 exact congrArg some h2
theorem gC(s:Sct)(v v':SV):List.take 256 (cW s ++ [v]) ++ [v'] ++ List.drop (256+1) (cW s ++ [v])=cW s ++ [v']:=by
 rw [List.take_append_of_le_length (by rw [bB];exact zA _),←bB s,List.take_length,List.drop_of_length_le (by simp),List.append_nil]
theorem ff(s:Sct)(v:SV):(cW s ++ [v]).length=257:=by rw [zE,bB];rfl
theorem th(s s':Sct)(v:SV):List.take 0 (cW s ++ [v]) ++ cW s' ++ List.drop (0+256) (cW s ++ [v])=cW s' ++ [v]:=by
 rw [List.take_zero,List.nil_append,Nat.zero_add,List.drop_append_of_le_length (by rw [bB];exact zA _),List.drop_of_length_le (by rw [bB];exact zA _),List.nil_append]
theorem uL{d:Nat}{D:DD}{Fp:Nat→Prop}{H:aK}{nx:Nat}{b0 b1 b2 b3:Nat}(hD:DAt d D Fp H)(hu:D.used<1000000000)(k:ByteArray)(n:Int)(s:Sct){l:List (Int×Sec)}(hl:a6 D.files k=some l)(hwl:((D.sec k n).getD Sec.zero).writes.length<1000000)
 (h0:H.at' b0=some (ak 25 [.ptr d 0])) (h1:H.at' b1=some (ak 9 [.sc (kE k)])) (h2:H.at' b2=some (ak 3 [.sc (iE n)])) (h3:H.at' b3=some (ak 45 (cW s))) (hb3: ¬ Fp b3) :
 Fnc Try.prog 45 [.ptr b0 0,.ptr b1 0,.ptr b2 0,.ptr b3 0] H nx (fun q=> ∃ F',DAt d (D.lay k n fun t=>⟨t.lasts,t.writes ++ [s]⟩) F' q.2.1∧Stp Fp F' H nx q.2.1 q.2.2):=by
 refine Fnc.start Try.func45 rfl rfl ?_
 refine b7 fun hund=>?_
 have l3:=hund _ _ h3
 (repeat(first|refine aj ?_|refine ac ?_|refine aH rfl rfl rfl (F.ag _ rfl) (by assumption) (by exact rfl) ?_))
 refine aQ rfl rfl rfl (by kernel_rfl) (Fnc.mono (at_t hD hu k n hl) ?_)
 rintro⟨_,H2,n2⟩ ⟨q,F2,D2,rfl,⟨v,GW,Rest,p1,p2,p3,p4,p5,p6,p7,p9,p8⟩,hS,hlay⟩
 dsimp only at p1 p2 p8 p9 hS ⊢
 have hb:=(hS.2.2 b3 l3 hb3).trans h3
 have hf3:b3<n2:=Nat.lt_of_lt_of_le l3 hS.1
 refine b7 fun hund2=>?_
 have lq:=hund2 _ _ p1
 have eq3:q≠b3:=fun e=>by
  rcases hS.2.1 q ((p6 q).2 (.inl rfl))with h|h
  ·exact hb3 (e ▸ h)
  ·omega
 generalize hst:(D.sec k n).getD Sec.zero=t at p1 p2 hwl
 have hgo: ∀ s',(D2.lay k n fun _=>s')=D.lay k n fun _=>s':=hlay
 have hfin:(D.lay k n fun t=>(⟨t.lasts,t.writes ++ [s]⟩:Sec))=D.lay k n fun _=>⟨t.lasts,t.writes ++ [s]⟩:=by
  unfold DD.lay
  rw [hl]
  simp only
  have:(a6 l n).getD Sec.zero=t:=by
   rw [← hst]
   unfold DD.sec
   rw [hl]
  rw [this]
 rw [hfin,←hgo]
 have rl: ∀ z,Rest z→z<n2:=fun z hz=>by
  obtain⟨vo,hv⟩:=p9 z ((p6 z).2 (.inr (.inr hz)))
  exact hund2 _ _ hv
 rcases p2 with ⟨rfl,hw,_⟩|⟨r,rfl,hr,hG⟩
 ·(repeat(first|refine ab ?_|(apply ah;exact rfl;exact rfl;exact rfl)))
  (apply dp;(focus(kernel_rfl));(focus(kernel_rfl)))
  (repeat(first|(apply ax;exact rfl;exact rfl;exact rfl)|(apply bl;exact rfl;exact rfl;exact rfl)|(apply aW;exact rfl;exact rfl;exact rfl;exact(F.fo _ _ rfl rfl))|(refine bP rfl rfl rfl (F.ag _ rfl) p1 (cv _ _) ?_)|(refine gv rfl rfl rfl (F.ag _ rfl) hb (du _) ?_)|(refine eO rfl rfl (F.un _ rfl) (F.sz _ rfl) rfl wV rfl (qZ (by simp) _) (gk _) rfl (bB _) ?_)))
  (repeat(refine kq (m:=1) (b:=256) (vs:=pz s) rfl rfl rfl rfl (F.un _ rfl) (.inl ⟨_,F.un _ rfl⟩) (F.sz _ rfl) rfl (by kernel_rfl) (by kernel_rfl) (pC (by(repeat(exact Tr.ae _ _ _));done) rfl (by rw [eL])) (recV.2 s) (by omega) (by omega) ?_))
  (repeat(first|(apply bl;exact rfl;exact rfl;exact rfl)|(apply aW;exact rfl;exact rfl;exact rfl;exact(F.fo _ _ rfl rfl))|(refine fT rfl rfl rfl rfl (F.sz _ rfl) (by(repeat(first|assumption|refine(Tr.aa _ _ (by omega)).trans ?_));done) rfl (by rw [ff];exact zA _) rfl ?_)))
  (refine aF ?_);(refine⟨by kernel_rfl,?_,?_⟩);(focus(repeat(first|exact trivial|refine⟨.inl (cj rfl),?_⟩|refine⟨.inr ⟨0,by kernel_rfl,AllH.all (fun _=>(by first|exact aB rfl|exact bv rfl|exact bc (F.fo _ _ rfl rfl) rfl)) _⟩,?_⟩|refine⟨.inr ⟨2,by kernel_rfl,(by(refine⟨(by(exact aO (F.ag _ rfl) rfl ((Tr.aa _ _ (by omega)).trans p1) (cv _ _))),?_⟩;(repeat(refine⟨(by(exact aO (F.ag _ rfl) rfl p1 (cv _ _))),?_⟩));exact trivial))⟩,?_⟩|refine⟨.inr ⟨3,by kernel_rfl,(by(refine⟨(by(exact bY (F.ag _ rfl) rfl hb (du _))),?_⟩;(repeat(refine⟨(by skip),?_⟩));exact trivial))⟩,?_⟩)))
  dsimp only [wrL]
  ((apply dU Try.func45 (congrArg Array.toList Try.results45));(focus(repeat(exact ResIs.nil))))
  have hq2:F2 q:=(p6 q).2 (.inl rfl)
  refine⟨_,p8 _ ⟨t.lasts,t.writes ++ [s]⟩ (.slu (n2+1) 0 1) (fun z=>z=n2+1) ((Tr.ae _ _ _).trans (congrArg (fun l=>some (ak _ l)) (gC _ _ _))) (.inr ⟨n2+1,by rw [hw];rfl,?_,fun z=>Iff.rfl⟩) (by omega) (fun z hz hr=>by have:=rl z hr;omega) (fun z hz=>?_),hS.trans ⟨by show n2≤n2+1+1;omega,fun z hz=>?_,fun z hz hn=>?_⟩⟩
  ·refine Eq.trans (b:=some (dat false 1 256 45 (pz s))) (by(repeat(first|exact Tr.ae _ _ _|refine(Tr.aa _ _ (by omega)).trans ?_));done) ?_
   rw [hw]
   show _=some (dat false 1 256 45 (pz s ++ []))
   rw [List.append_nil]
  ·have:=rl z hz
   have:z≠q:=fun e=>p4 (e ▸ hz)
   (focus((repeat(refine(Tr.aa _ _ (by omega)).trans ?_));exact rfl))
  ·rcases hz with hz|hz|hz
   ·exact .inl (hz ▸ hq2)
   ·exact .inr (by omega)
   ·exact .inl ((p6 z).2 (.inr (.inr hz)))
  ·have:z≠q:=fun e=>hn (e ▸ hq2)
   (focus((repeat(refine(Tr.aa _ _ (by omega)).trans ?_));exact rfl))
 ·have hGr:GW r:=(hG r).2 rfl
  have hrq:r≠q:=fun e=>p3 (e ▸ hGr)
  have hr3:r≠b3:=fun e=>by
   rcases hS.2.1 r ((p6 r).2 (.inr (.inl hGr)))with h|h
   ·exact hb3 (e ▸ h)
   ·omega
  have hr2:r<n2:=hund2 _ _ hr
  (repeat(first|refine ab ?_|(apply ah;exact rfl;exact rfl;exact rfl)))
  (apply dp;(focus(kernel_rfl));(focus(kernel_rfl)))
  (repeat(first|(apply ax;exact rfl;exact rfl;exact rfl)|(apply bl;exact rfl;exact rfl;exact rfl)|(apply aW;exact rfl;exact rfl;exact rfl;exact(F.fo _ _ rfl rfl))|(refine bP rfl rfl rfl (F.ag _ rfl) p1 (cv _ _) ?_)|(refine gv rfl rfl rfl (F.ag _ rfl) hb (du _) ?_)|(refine eO rfl rfl (F.un _ rfl) (F.sz _ rfl) rfl wV rfl (qZ (by simp) _) (gk _) rfl (bB _) ?_)))
  (repeat(refine ui (f:=pz) (xs:=t.writes) (a:=s) (b:=256) rfl rfl rfl rfl (F.un _ rfl) (.inl ⟨_,F.un _ rfl⟩) (F.sz _ rfl) rfl (by kernel_rfl) (by kernel_rfl) (by(repeat(first|assumption|refine(Tr.aa _ _ (by omega)).trans ?_));done) (by(repeat(exact Tr.ae _ _ _));done) rfl recV (by omega) (by omega) ?_))
  (repeat(first|(apply bl;exact rfl;exact rfl;exact rfl)|(apply aW;exact rfl;exact rfl;exact rfl;exact(F.fo _ _ rfl rfl))|(refine fT rfl rfl rfl rfl (F.sz _ rfl) (by(repeat(first|assumption|refine(Tr.aa _ _ (by omega)).trans ?_|refine(Tr.a8 _ (by omega)).trans ?_));done) rfl (by rw [ff];exact zA _) rfl ?_)))
  (refine aF ?_);(refine⟨by kernel_rfl,?_,?_⟩);(focus(repeat(first|exact trivial|refine⟨.inl (cj rfl),?_⟩|refine⟨.inr ⟨0,by kernel_rfl,AllH.all (fun _=>(by first|exact aB rfl|exact bv rfl|exact bc (F.fo _ _ rfl rfl) rfl)) _⟩,?_⟩|refine⟨.inr ⟨2,by kernel_rfl,(by(refine⟨(by(exact aO (F.ag _ rfl) rfl ((Tr.aa _ _ (by omega)).trans p1) (cv _ _))),?_⟩;(repeat(refine⟨(by(exact aO (F.ag _ rfl) rfl p1 (cv _ _))),?_⟩));exact trivial))⟩,?_⟩|refine⟨.inr ⟨3,by kernel_rfl,(by(refine⟨(by(exact bY (F.ag _ rfl) rfl hb (du _))),?_⟩;(repeat(refine⟨(by skip),?_⟩));exact trivial))⟩,?_⟩)))
  dsimp only [wrL]
  ((apply dU Try.func45 (congrArg Array.toList Try.results45));(focus(repeat(exact ResIs.nil))))
  have hq2:F2 q:=(p6 q).2 (.inl rfl)
  refine⟨_,p8 _ ⟨t.lasts,t.writes ++ [s]⟩ (.slu (n2+1) 0 (t.writes ++ [s]).length) (fun z=>z=n2+1) ((Tr.ae _ _ _).trans (congrArg (fun l=>some (ak _ l)) (gC _ _ _))) (.inr ⟨n2+1,rfl,?_,fun z=>Iff.rfl⟩) (by omega) (fun z hz hr=>by have:=rl z hr;omega) (fun z hz=>?_),hS.trans ⟨by show n2≤n2+1+1;omega,fun z hz=>?_,fun z hz hn=>?_⟩⟩
  ·exact(Tr.aa _ _ (by omega)).trans (Tr.ae _ _ _)
  ·have:=rl z hz
   have:z≠q:=fun e=>p4 (e ▸ hz)
   have:z≠r:=fun e=>p5 r hGr (e ▸ hz)
   (focus((repeat(first|refine(Tr.aa _ _ (by omega)).trans ?_|refine(Tr.a8 _ (by omega)).trans ?_));exact rfl))
  ·rcases hz with hz|hz|hz
   ·exact .inl (hz ▸ hq2)
   ·exact .inr (by omega)
   ·exact .inl ((p6 z).2 (.inr (.inr hz)))
  ·have:z≠q:=fun e=>hn (e ▸ hq2)
   have:z≠r:=fun e=>hn (e ▸ (p6 r).2 (.inr (.inl hGr)))
   (focus((repeat(first|refine(Tr.aa _ _ (by omega)).trans ?_|refine(Tr.a8 _ (by omega)).trans ?_));exact rfl))
theorem Stp.eF{F F':Nat→Prop}{H H1 H':aK}{nx n1 n':Nat}(h:Stp F F' H1 n1 H' n')(hn:nx≤n1)(fr: ∀ z,z<nx→H1.at' z=H.at' z):Stp F F' H nx H' n':=
 ⟨zI hn h.1,fun z hz=>(h.2.1 z hz).imp id fun e=>zI hn e,fun z hz hf=>(h.2.2 z (Nat.lt_of_lt_of_le hz hn) hf).trans (fr z hz)⟩
theorem sY{D D':DD}(h:D'.files=D.files)(k:ByteArray)(n:Int):D'.sec k n=D.sec k n:=by unfold DD.sec;rw [h]
theorem yl{D:DD}{N:Nat}(hok:D.Ok N)(hN:N<1000000)(k:ByteArray)(n:Int):((D.sec k n).getD Sec.zero).writes.length<1000000:=by
 cases h:D.sec k n with
 | none=>exact Nat.zero_lt_succ _
 | some s=>
   unfold DD.sec at h
   cases hm:a6 D.files k with
   | none=>rw [hm] at h;cases h
   | some m=>
     rw [hm] at h
     have:=hok.f.wr k m n s hm h
     show s.writes.length<1000000
     omega
theorem kQ{d:Nat}{D:DD}{Fp:Nat→Prop}{H:aK}{nx N:Nat}(hD:DAt d D Fp H)(hok:D.Ok N)(hN:N<1000000)(k:ByteArray)(hk:k.size≤140737488355328)(n:Int)(s:Sct):Fnc Try.prog 25 [.ptr d 0,.sc (kE k),.sc (iE n),.agg (cW s)] H nx (x7 d (D.write k n s).1 (.sc (.int .i64 (D.write k n s).2)) Fp H nx):=by
 refine Fnc.start Try.func25 rfl rfl ?_
 refine b7 fun hund=>?_
 have hlt:=hD.lt hund
 (repeat(first|refine aj ?_|refine ac ?_|refine ab ?_|(apply ah;exact rfl;exact rfl;exact rfl)|(apply l6;exact rfl;exact rfl;exact rfl)|(apply ky;exact rfl;exact rfl;exact rfl;exact rfl)|refine aH rfl rfl rfl (F.ag _ rfl) (by(repeat(first|exact Tr.ae _ _ _|refine(Tr.aa _ _ (by omega)).trans ?_));done) (by exact rfl) ?_))
 refine ee (R:=fun H1 n1=>n1=nx+1+1+1+1∧H1.at' nx=some (ak 25 [.ptr d 0])∧H1.at' (nx+1)=some (ak 9 [.sc (kE k)])∧H1.at' (nx+1+1)=some (ak 3 [.sc (iE n)])∧H1.at' (nx+1+1+1)=some (ak 45 (cW s))∧ ∀ z,z<nx→H1.at' z=H.at' z) ⟨rfl,by(focus((repeat(first|exact Tr.ae _ _ _|refine(Tr.aa _ _ (by omega)).trans ?_));done)),by(focus((repeat(first|exact Tr.ae _ _ _|refine(Tr.aa _ _ (by omega)).trans ?_));done)),by(focus((repeat(first|exact Tr.ae _ _ _|refine(Tr.aa _ _ (by omega)).trans ?_));done)),by(focus((repeat(exact Tr.ae _ _ _));done)),fun z hz=>by(focus((repeat(refine(Tr.aa _ _ (by omega)).trans ?_));exact rfl))⟩ ?_
 rintro H1 n1 ⟨rfl,h0,h1,h2,h3,hold⟩
 have hD1:DAt d D Fp H1:=hD.frame fun z hz=>hold z (hlt z hz)
 have hFd:d<nx:=by
  obtain⟨mp,m,c,G,h,hF⟩:=hD
  exact hlt d ((hF d).2 (.inl rfl))
 clear hD
 have hb3: ¬ Fp (nx+1+1+1):=fun e=>by have:=hlt _ e;omega
 (repeat(first|refine aj ?_|refine ac ?_|refine ab ?_|(apply ai;exact rfl;exact rfl;exact rfl)|(apply ah;exact rfl;exact rfl;exact rfl)|(refine aQ rfl rfl rfl (by kernel_rfl) (Fnc.mono (md hD1 k hk n) ?_);rintro _ rfl;dsimp only)))
 (apply je;exact rfl;exact rfl;exact rfl;exact rfl)
 all_goals intro h4
 ·rw [show D.write k n s=(D,D.look k n) by unfold DD.write;rw [if_pos (by omega)]]
  (repeat(first|refine aj ?_|refine ac ?_|refine ab ?_|refine ar rfl ?_|(apply ai;exact rfl;exact rfl;exact rfl)|(apply ah;exact rfl;exact rfl;exact rfl)))
  ((apply aS Try.func25 (congrArg Array.toList Try.results25));(focus(repeat(first|exact ResIs.nil|apply ResIs.tmp rfl))))
  exact⟨rfl,Fp,hD1,Stp.eF (n1:=nx+1+1+1+1) Stp.refl (by omega) hold⟩
 ·have h5:D.look k n=0:=by omega
  obtain⟨l,hl⟩:=mQ h5
  (repeat(first|refine aj ?_|refine ac ?_|refine ab ?_|refine aE ?_|refine an rfl ?_|refine aH rfl rfl rfl (F.ag _ rfl) (by assumption) (by exact rfl) ?_|(apply dg;exact rfl;exact rfl;exact rfl)|(refine aQ rfl rfl rfl (by kernel_rfl) (Fnc.mono (wN hD1 k n hl) ?_);rintro _ rfl;dsimp only)))
  cases hf:D.fits k n with
  | false=>
    rw [show D.write k n s=(D,5) by unfold DD.write;rw [if_neg (by omega),if_pos hf]]
    (repeat(first|refine aj ?_|refine ac ?_|refine ab ?_|refine ar rfl ?_|(apply ah;exact rfl;exact rfl;exact rfl)))
    ((apply aS Try.func25 (congrArg Array.toList Try.results25));(focus(repeat(first|exact ResIs.nil|apply ResIs.tmp rfl))))
    exact⟨rfl,Fp,hD1,Stp.eF (n1:=nx+1+1+1+1) Stp.refl (by omega) hold⟩
  | true=>
    rw [show D.write k n s=D.change true fun D=>D.lay k n fun t=>⟨t.lasts,t.writes ++ [s]⟩ by unfold DD.write;rw [if_neg (by omega),if_neg (by rw [hf];simp)]]
    (repeat(first|refine aj ?_|refine ac ?_|refine aE ?_|refine an rfl ?_|(apply c8;exact rfl;exact rfl;exact rfl;exact rfl)|refine aH rfl rfl rfl (F.ag _ rfl) (by assumption) (by exact rfl) ?_))
    refine aQ rfl rfl rfl (by kernel_rfl) (Fnc.mono (jE hD1 hok hN true 45 [.ptr nx 0,.ptr (nx+1) 0,.ptr (nx+1+1) 0,.ptr (nx+1+1+1) 0] (fun D=>D.lay k n fun t=>⟨t.lasts,t.writes ++ [s]⟩) (by kernel_rfl) ?_) ?_)
    ·intro D1 H2 e1 e2 hA hkeep
     have hu:D1.used<1000000000:=by have:=jM e1;have:=hok.f.used;unfold DD.used at *;omega
     exact uL hA hu k n s (by rw [e1];exact hl) (by rw [sY e1];exact yl hok hN k n) ((hkeep _ (by omega)).trans h0) ((hkeep _ (by omega)).trans h1) ((hkeep _ (by omega)).trans h2) ((hkeep _ (by omega)).trans h3) hb3
    ·rintro⟨_,H2,n2⟩ ⟨rfl,F',hA,hS⟩
     dsimp only at hA hS ⊢
     (repeat(first|refine ab ?_|(apply ah;exact rfl;exact rfl;exact rfl)))
     ((apply aS Try.func25 (congrArg Array.toList Try.results25));(focus(repeat(first|exact ResIs.nil|apply ResIs.tmp rfl))))
     exact⟨rfl,F',hA,Stp.eF hS (by omega) hold⟩
theorem xn{d:Nat}{D:DD}{Fp:Nat→Prop}{H:aK}{nx N:Nat}(hD:DAt d D Fp H)(hok:D.Ok N)(hN:N<1000000)(k:ByteArray)(hk:k.size≤140737488355328)(n:Int)(s:Sct):Fnc Try.prog 31 [.ptr d 0,.sc (kE k),.sc (iE n),.agg (cW s)] H nx (x7 d (D.spoil k n s).1 (.sc (.int .i64 (D.spoil k n s).2)) Fp H nx):=by
 refine Fnc.start Try.func31 rfl rfl ?_
 refine b7 fun hund=>?_
 have hlt:=hD.lt hund
 (repeat(first|refine aj ?_|refine ac ?_|refine ab ?_|(apply ai;exact rfl;exact rfl;exact rfl)|(apply ah;exact rfl;exact rfl;exact rfl)|(apply l6;exact rfl;exact rfl;exact rfl)))
 refine ee (R:=fun H1 n1=>n1=nx+1∧H1.at' nx=some (ak 45 (cW s))∧ ∀ z,z<nx→H1.at' z=H.at' z) ⟨rfl,by(focus((repeat(exact Tr.ae _ _ _));done)),fun z hz=>by(focus((repeat(refine(Tr.aa _ _ (by omega)).trans ?_));exact rfl))⟩ ?_
 rintro H1 n1 ⟨rfl,h3,hold⟩
 have hD1:DAt d D Fp H1:=hD.frame fun z hz=>hold z (hlt z hz)
 clear hD
 have hb3: ¬ Fp nx:=fun e=>by have:=hlt _ e;omega
 (repeat(first|refine aj ?_|refine ac ?_|refine ab ?_|(apply ai;exact rfl;exact rfl;exact rfl)|(apply ah;exact rfl;exact rfl;exact rfl)|(refine aQ rfl rfl rfl (by kernel_rfl) (Fnc.mono (md hD1 k hk n) ?_);rintro _ rfl;dsimp only)))
 (apply je;exact rfl;exact rfl;exact rfl;exact rfl)
 all_goals intro h4
 ·rw [show D.spoil k n s=(D,D.look k n) by unfold DD.spoil;rw [if_pos (by omega)]]
  (repeat(first|refine aj ?_|refine ac ?_|refine ab ?_|refine ar rfl ?_|(apply ai;exact rfl;exact rfl;exact rfl)|(apply ah;exact rfl;exact rfl;exact rfl)))
  ((apply aS Try.func31 (congrArg Array.toList Try.results31));(focus(repeat(first|exact ResIs.nil|apply ResIs.tmp rfl))))
  exact⟨rfl,Fp,hD1,Stp.eF (n1:=nx+1) Stp.refl (by omega) hold⟩
 ·have h5:D.look k n=0:=by omega
  obtain⟨l,hl⟩:=mQ h5
  (repeat(first|refine aj ?_|refine ac ?_|refine ab ?_|refine aE ?_|refine an rfl ?_|(apply ai;exact rfl;exact rfl;exact rfl)|(apply dg;exact rfl;exact rfl;exact rfl)|(refine aQ rfl rfl rfl (by kernel_rfl) (Fnc.mono (wN hD1 k n hl) ?_);rintro _ rfl;dsimp only)))
  cases hf:D.fits k n with
  | false=>
    rw [show D.spoil k n s=(D,5) by unfold DD.spoil;rw [if_neg (by omega),if_pos hf]]
    (repeat(first|refine aj ?_|refine ac ?_|refine ab ?_|refine ar rfl ?_|(apply ah;exact rfl;exact rfl;exact rfl)))
    ((apply aS Try.func31 (congrArg Array.toList Try.results31));(focus(repeat(first|exact ResIs.nil|apply ResIs.tmp rfl))))
    exact⟨rfl,Fp,hD1,Stp.eF (n1:=nx+1) Stp.refl (by omega) hold⟩
  | true=>
    rw [show D.spoil k n s=(D.lay k n fun _=>⟨s,[]⟩,0) by unfold DD.spoil;rw [if_neg (by omega),if_neg (by rw [hf];simp)]]
    (repeat(first|refine aj ?_|refine ac ?_|refine aE ?_|refine an rfl ?_|(apply ai;exact rfl;exact rfl;exact rfl)))
    have hu:D.used<1000000000:=by have:=hok.f.used;unfold DD.used at *;omega
    refine aQ rfl rfl rfl (by kernel_rfl) (Fnc.mono (at_t hD1 hu k n hl) ?_)
    rintro⟨_,H2,n2⟩ ⟨q,F2,D2,rfl,⟨v,GW,Rest,p1,p2,p3,p4,p5,p6,p7,p9,p8⟩,hS,hlay⟩
    dsimp only at p1 p2 p8 p9 hS ⊢
    have hb:=(hS.2.2 nx (by omega) hb3).trans h3
    refine b7 fun hund2=>?_
    have lq:=hund2 _ _ p1
    have eq3:q≠nx:=fun e=>by
     rcases hS.2.1 q ((p6 q).2 (.inl rfl))with h|h
     ·exact hb3 (e ▸ h)
     ·omega
    have hq2:F2 q:=(p6 q).2 (.inl rfl)
    have hgo: ∀ s',(D2.lay k n fun _=>s')=D.lay k n fun _=>s':=hlay
    rw [← hgo]
    (repeat(first|(refine pq rfl rfl rfl (F.ag _ rfl) hb (du _) ?_)|(refine io rfl rfl rfl (F.sz _ rfl) p1 (bB _) (by rw [ff];exact zj rfl) (gk _) (th _ _ _) ?_)|((apply be;exact rfl;exact rfl;exact rfl;exact rfl;exact(F.sz _ rfl);exact(Tr.ae _ _ _);exact rfl;(focus(rw [ff];exact zA _));exact rfl))|refine aj ?_|refine ac ?_|refine ab ?_|(apply ai;exact rfl;exact rfl;exact rfl)|(apply ah;exact rfl;exact rfl;exact rfl)|(apply aR;exact rfl;exact rfl;exact rfl)|(apply aJ;exact rfl;exact rfl;exact rfl;exact(F.fo _ _ rfl rfl))))
    ((apply aS Try.func31 (congrArg Array.toList Try.results31));(focus(repeat(first|exact ResIs.nil|apply ResIs.tmp rfl))))
    refine⟨rfl,_,p8 _ ⟨s,[]⟩ (.sc (.slice none 0 0)) (fun _=>False) ((Tr.ae _ _ _).trans (congrArg (fun l=>some (ak _ l)) (gC _ _ _))) (.inl ⟨rfl,rfl,fun _ h=>h⟩) (fun h=>h) (fun _ h=>h.elim) (fun z hz=>?_),Stp.eF (hS.trans ⟨zA _,fun z hz=>?_,fun z hz hn=>?_⟩) (by omega) hold⟩
    ·have:z≠q:=fun e=>p4 (e ▸ hz)
     (focus((repeat(refine(Tr.aa _ _ (by omega)).trans ?_));exact rfl))
    ·rcases hz with hz|hz|hz
     ·exact .inl (hz ▸ hq2)
     ·exact hz.elim
     ·exact .inl ((p6 z).2 (.inr (.inr hz)))
    ·have:z≠q:=fun e=>hn (e ▸ hq2)
     (focus((repeat(refine(Tr.aa _ _ (by omega)).trans ?_));exact rfl))
theorem qY(m:MFl)(k:ByteArray):pm (hY m k)=eJ (pm m) k:=by
 unfold pm
 rw [qQ]
 exact vI (fun x:Nat×List (Int×Sec)=>x.2) (kv m) k
theorem Dk.del{d mp:Nat}{m:MFl}{c:Nat}{D:DD}{G:Nat→Prop}{H:aK}(h:Dk d mp m c D G H){k:ByteArray}{R:Nat→Prop}(hR:Big PF (kv (hY m k)) H R)(hRG: ∀ z,R z→G z){H':aK}
 (e2:H'.at' mp=some (eK kE f8 (hY m k) c)) (e3:H'.at' d=some (ak 58 (dkC (D.gone k) mp))) (fr: ∀ z,R z→H'.at' z=H.at' z):Dk d mp (hY m k) c (D.gone k) R H':=
 ⟨e3,e2,h.ok.del k,Big.frame dO _ _ _ _ hR fr,by
   show eJ D.files k=_
   rw [qY,h.fl],h.ne,fun hz=>h.nd (hRG _ hz),fun hz=>h.nm (hRG _ hz),h.cap⟩
theorem wL{d:Nat}{D:DD}{Fp:Nat→Prop}{H:aK}{nx:Nat}(hD:DAt d D Fp H)(hu:D.used<1000000000)(k:ByteArray):Fnc Try.prog 43 [.ptr d 0,.sc (kE k)] H nx (fun q=> ∃ F',DAt d (D.gone k) F' q.2.1∧Stp Fp F' H nx q.2.1 q.2.2∧(∀ z,F' z→Fp z)):=by
 refine Fnc.start Try.func43 rfl rfl ?_
 obtain⟨mp,m,c,G,h,hF⟩:=id hD
 have hbox:=h.box
 have hmap:=h.map
 have hFd:Fp d:=(hF d).2 (.inl rfl)
 have hFm:Fp mp:=(hF mp).2 (.inr (.inl rfl))
 have hne:=h.ne
 cases hg:cr m k with
 | none=>
   (repeat(first|refine aj ?_|refine ac ?_|refine ab ?_|refine aE ?_|refine an rfl ?_|(apply ai;exact rfl;exact rfl;exact rfl)|(apply ah;exact rfl;exact rfl;exact rfl)|(apply aR;exact rfl;exact rfl;exact rfl)|(apply aJ;exact rfl;exact rfl;exact rfl;exact(F.fo _ _ rfl rfl))|(apply sw;exact rfl;exact rfl;exact rfl;exact rfl;exact rfl;exact(F.un _ rfl);exact rfl)|refine aH rfl rfl rfl (F.ag _ rfl) (by assumption) (by exact rfl) ?_|refine pp (m:=m) (enc:=kE) (val:=f8) rfl rfl rfl rfl (F.un _ rfl) (kK) (by assumption) (hg) (F.ze _ rfl) ?_))
   ((apply dU Try.func43 (congrArg Array.toList Try.results43));(focus(repeat(exact ResIs.nil))))
   have:D.gone k=D:=by
    unfold DD.gone DD.setFiles
    rw [lc (cq.1 (by rw [h.fl,dR,hg];rfl))]
   rw [this]
   exact⟨Fp,hD,Stp.refl,fun _ h=>h⟩
 | some x=>
   obtain⟨fn,l⟩:=x
   obtain⟨ms,m2,c2,G2,R,hf,rfl,hR,hd,hG⟩:=h.file hg
   have hfb:=hf.box
   have hfm:=hf.map
   (repeat(first|refine aj ?_|refine ac ?_|refine ab ?_|refine ar rfl ?_|(apply ai;exact rfl;exact rfl;exact rfl)|(apply ah;exact rfl;exact rfl;exact rfl)|(apply aR;exact rfl;exact rfl;exact rfl)|(apply aJ;exact rfl;exact rfl;exact rfl;exact(F.fo _ _ rfl rfl))|(apply sx;exact rfl;exact rfl;exact rfl;exact rfl;exact(F.un _ rfl);exact rfl)|refine aH rfl rfl rfl (F.ag _ rfl) (by assumption) (by exact rfl) ?_|refine fx (m:=m) (enc:=kE) (val:=f8) rfl rfl rfl rfl (F.un _ rfl) (kK) (by assumption) (hg) ?_))
   have hmg:a6 D.files k=some (di m2):=by rw [h.fl,dR,hg];rfl
   have hsz:=ji hmg
   rw [wH] at hsz
   have hus:D.used=cb D.files:=rfl
   have hug:(D.gone k).used=cb (eJ D.files k):=rfl
   (apply dp;(focus(kernel_rfl));(focus(kernel_rfl)))
   (repeat(first|(apply ax;exact rfl;exact rfl;exact rfl)|(apply bl;exact rfl;exact rfl;exact rfl)|(apply aW;exact rfl;exact rfl;exact rfl;exact(F.fo _ _ rfl rfl))|(apply cD;exact rfl;exact rfl;exact rfl;exact rfl;(focus(omega));(focus(omega)))|refine fT rfl rfl rfl rfl (F.sz _ rfl) (by assumption) rfl (by exact zj rfl) rfl ?_|(refine bP rfl rfl rfl (F.ag _ rfl) hbox (aN rfl) ?_)|(refine bP rfl rfl rfl (F.ag _ rfl) hfb (aN rfl) ?_)|(refine lC (m:=m2) (enc:=iE) (val:=iS) rfl rfl rfl (F.un _ rfl) hfm ?_)))
   (refine aF ?_);(refine⟨by kernel_rfl,?_,?_⟩);(focus(repeat(first|exact trivial|refine⟨.inl (cj rfl),?_⟩|refine⟨.inr ⟨0,by kernel_rfl,AllH.all (fun _=>(by first|exact aB rfl|exact bv rfl|exact bc (F.fo _ _ rfl rfl) rfl|exact aL rfl rfl (.inr (.inl ⟨rfl,(zf _ ⟨by omega,by omega⟩).symm⟩)))) _⟩,?_⟩|refine⟨.inr ⟨1,by kernel_rfl,(by(refine⟨(by first|exact aO (F.ag _ rfl) rfl (by assumption) (aN rfl)|exact gN rfl (F.un _ rfl) hfm),?_⟩;(repeat(refine⟨(by skip),?_⟩));exact trivial))⟩,?_⟩)))
   dsimp only [wrL]
   (repeat(first|refine ac ?_|refine ab ?_|(apply ai;exact rfl;exact rfl;exact rfl)|(apply aR;exact rfl;exact rfl;exact rfl)|(apply aJ;exact rfl;exact rfl;exact rfl;exact(F.fo _ _ rfl rfl))|refine aH rfl rfl rfl (F.ag _ rfl) (by(repeat(first|assumption|exact Tr.ae _ _ _));done) (by exact rfl) ?_|refine sA (m:=m) (enc:=kE) (val:=f8) rfl rfl rfl (F.un _ rfl) (kK) (by(repeat(first|assumption|refine(Tr.aa _ _ (by omega)).trans ?_));done) ?_))
   ((apply dU Try.func43 (congrArg Array.toList Try.results43));(focus(repeat(exact ResIs.nil))))
   have hRG: ∀ z,R z→G z:=fun z hz=>(hG z).2 (.inr hz)
   have hsub: ∀ z,(z=d∨z=mp∨R z)→Fp z:=fun z hz=>(hF z).2 (hz.imp id fun e=>e.imp id fun e=>hRG z e)
   refine⟨_,⟨mp,_,c,R,h.del hR hRG (by(repeat(exact Tr.ae _ _ _));done) ?_ (fun z hz=>?_),fun z=>Iff.rfl⟩,⟨zA _,fun z hz=> .inl (hsub z hz),fun z hz hn=>?_⟩,hsub⟩
   ·refine((Tr.aa _ _ h.ne).trans (Tr.ae _ _ _)).trans ?_
    unfold dkC
    rw [show((D.gone k).used:Int)=(D.used:Int)-(m2.length:Int) by omega]
    rfl
   ·have e1:z≠d:=fun e=>h.nd (hRG _ (e ▸ hz))
    have e2:z≠mp:=fun e=>h.nm (hRG _ (e ▸ hz))
    (focus((repeat(refine(Tr.aa _ _ (by omega)).trans ?_));exact rfl))
   ·have e1:z≠d:=fun e=>hn (e ▸ hFd)
    have e2:z≠mp:=fun e=>hn (e ▸ hFm)
    (focus((repeat(refine(Tr.aa _ _ (by omega)).trans ?_));exact rfl))
theorem vj{d:Nat}{D:DD}{Fp:Nat→Prop}{H:aK}{nx N:Nat}(hD:DAt d D Fp H)(hok:D.Ok N)(hN:N<1000000)(k:ByteArray)(hk:k.size≤140737488355328):Fnc Try.prog 30 [.ptr d 0,.sc (kE k)] H nx (x7 d (D.remove k).1 (.sc (.int .i64 (D.remove k).2)) Fp H nx):=by
 refine Fnc.start Try.func30 rfl rfl ?_
 refine b7 fun hund=>?_
 have hlt:=hD.lt hund
 (repeat(first|refine aj ?_|refine ac ?_|refine ab ?_|(apply ah;exact rfl;exact rfl;exact rfl)|(apply ky;exact rfl;exact rfl;exact rfl;exact rfl)|refine aH rfl rfl rfl (F.ag _ rfl) (by(repeat(first|exact Tr.ae _ _ _|refine(Tr.aa _ _ (by omega)).trans ?_));done) (by exact rfl) ?_))
 refine ee (R:=fun H1 n1=>n1=nx+1+1∧H1.at' nx=some (ak 25 [.ptr d 0])∧H1.at' (nx+1)=some (ak 9 [.sc (kE k)])∧ ∀ z,z<nx→H1.at' z=H.at' z) ⟨rfl,by(focus((repeat(first|exact Tr.ae _ _ _|refine(Tr.aa _ _ (by omega)).trans ?_));done)),by(focus((repeat(exact Tr.ae _ _ _));done)),fun z hz=>by(focus((repeat(refine(Tr.aa _ _ (by omega)).trans ?_));exact rfl))⟩ ?_
 rintro H1 n1 ⟨rfl,h0,h1,hold⟩
 have hD1:DAt d D Fp H1:=hD.frame fun z hz=>hold z (hlt z hz)
 have hFd:d<nx:=by
  obtain⟨mp,m,c,G,h,hF⟩:=hD
  exact hlt d ((hF d).2 (.inl rfl))
 clear hD
 (repeat(first|refine aj ?_|refine ac ?_|refine ab ?_|(apply ai;exact rfl;exact rfl;exact rfl)|(apply ah;exact rfl;exact rfl;exact rfl)|(refine aQ rfl rfl rfl (by kernel_rfl) (Fnc.mono (md hD1 k hk 0) ?_);rintro _ rfl;dsimp only)))
 (apply je;exact rfl;exact rfl;exact rfl;exact rfl)
 all_goals intro h4
 ·rw [show D.remove k=(D,D.look k 0) by unfold DD.remove;rw [if_pos (by omega)]]
  (repeat(first|refine aj ?_|refine ac ?_|refine ab ?_|refine ar rfl ?_|(apply ai;exact rfl;exact rfl;exact rfl)|(apply ah;exact rfl;exact rfl;exact rfl)))
  ((apply aS Try.func30 (congrArg Array.toList Try.results30));(focus(repeat(first|exact ResIs.nil|apply ResIs.tmp rfl))))
  exact⟨rfl,Fp,hD1,Stp.eF (n1:=nx+1+1) Stp.refl (by omega) hold⟩
 ·rw [show D.remove k=D.change false fun D=>D.gone k by unfold DD.remove;rw [if_neg (by omega)]]
  (repeat(first|refine aj ?_|refine ac ?_|refine ab ?_|refine aE ?_|refine an rfl ?_|(apply c8;exact rfl;exact rfl;exact rfl;exact rfl)|refine aH rfl rfl rfl (F.ag _ rfl) (by assumption) (by exact rfl) ?_))
  refine aQ rfl rfl rfl (by kernel_rfl) (Fnc.mono (jE hD1 hok hN false 49 [.ptr nx 0,.ptr (nx+1) 0] (fun D=>D.gone k) (by kernel_rfl) ?_) ?_)
  ·intro D1 H2 e1 e2 hA hkeep
   have hu:D1.used<1000000000:=by have:=jM e1;have:=hok.f.used;unfold DD.used at *;omega
   have g0:=(hkeep nx (by omega)).trans h0
   have g1:=(hkeep (nx+1) (by omega)).trans h1
   refine Fnc.start Try.func49 rfl rfl ?_
   (repeat(first|refine ac ?_|refine aH rfl rfl rfl (F.ag _ rfl) (by assumption) (by exact rfl) ?_))
   refine aQ rfl rfl rfl (by kernel_rfl) (Fnc.mono (wL hA hu k) ?_)
   rintro⟨_,H3,n3⟩ ⟨F',hB,hS,_⟩
   dsimp only at hB hS ⊢
   (repeat(refine ab ?_))
   ((apply dU Try.func49 (congrArg Array.toList Try.results49));(focus(repeat(exact ResIs.nil))))
   exact⟨F',hB,hS⟩
  ·rintro⟨_,H2,n2⟩ ⟨rfl,F',hA,hS⟩
   dsimp only at hA hS ⊢
   (repeat(first|refine ab ?_|(apply ah;exact rfl;exact rfl;exact rfl)))
   ((apply aS Try.func30 (congrArg Array.toList Try.results30));(focus(repeat(first|exact ResIs.nil|apply ResIs.tmp rfl))))
   exact⟨rfl,F',hA,Stp.eF hS (by omega) hold⟩
theorem wM{d:Nat}{D:DD}{Fp:Nat→Prop}{H:aK}{nx:Nat}(hD:DAt d D Fp H)(n:Int):Fnc Try.prog 28 [.ptr d 0,.sc (iE n)] H nx (fun q=>DAt d (D.lay' n) Fp q.2.1∧Stp Fp Fp H nx q.2.1 q.2.2):=by
 refine Fnc.start Try.func28 rfl rfl ?_
 obtain⟨mp,m,c,G,h,hF⟩:=id hD
 have hbox:=h.box
 have hFd:Fp d:=(hF d).2 (.inl rfl)
 (repeat(first|refine aj ?_|refine ac ?_|refine ab ?_|(apply ai;exact rfl;exact rfl;exact rfl)|(apply ci;exact rfl;exact rfl;exact rfl;exact rfl)|(apply aR;exact rfl;exact rfl;exact rfl)|(apply aJ;exact rfl;exact rfl;exact rfl;exact(F.fo _ _ rfl rfl))|refine aH rfl rfl rfl (F.ag _ rfl) (by assumption) (by exact rfl) ?_|(refine aQ rfl rfl rfl (by kernel_rfl) (Fnc.mono (gX hbox h.cap) ?_);rintro _ rfl;dsimp only)))
 unfold DD.lay'
 cases hd:D.dead with
 | true=>
   (repeat(refine ar rfl ?_))
   ((apply aS Try.func28 (congrArg Array.toList Try.results28));(focus(repeat(exact ResIs.nil))))
   exact⟨hD,Stp.refl⟩
 | false=>
   simp only [Bool.false_eq_true,if_false]
   (repeat(first|refine ac ?_|refine ab ?_|refine aE ?_|refine an rfl ?_|(apply ai;exact rfl;exact rfl;exact rfl)|(apply aR;exact rfl;exact rfl;exact rfl)|(apply aJ;exact rfl;exact rfl;exact rfl;exact(F.fo _ _ rfl rfl))|refine be rfl rfl rfl rfl (F.sz _ rfl) (by assumption) rfl (by exact zj rfl) rfl ?_|((apply wu;exact rfl;exact rfl;exact rfl;exact rfl;exact(show _=(if n < -1 then -1 else n) by split <;> omega)))))
   ((apply dU Try.func28 (congrArg Array.toList Try.results28));(focus(repeat(exact ResIs.nil))))
   exact⟨⟨mp,m,c,G,h.set rfl rfl ((Tr.ae _ _ _).trans (by rw [← hd];rfl)) (fun z hz=>Tr.aa _ _ hz),hF⟩,zA _,fun z hz=> .inl hz,fun z hz hn=>Tr.aa _ _ fun e=>hn (e ▸ hFd)⟩
theorem Dk.addFile{d mp:Nat}{m:MFl}{c:Nat}{D:DD}{G:Nat→Prop}{H:aK}(h:Dk d mp m c D G H){k:ByteArray}(hg:cr m k=none){x y:Nat}(hxy:x≠y)(hx: ∀ z,(z=d∨z=mp∨G z)→z≠x∧z≠y){H':aK}(e0:H'.at' y=some (.map [] 0))(e1:H'.at' x=some (ak 63 [.mp y]))
 (e2:H'.at' mp=some (eK kE f8 (cZ m k (x,[]) c) (ko m k c))) (fr: ∀ z,(z=d∨G z)→H'.at' z=H.at' z):Dk d mp (cZ m k (x,[]) c) (ko m k c) (D.setFiles (cc D.files k [])) (fun z=>(z=x∨z=y)∨G z) H':=by
 have hmg:a6 D.files k=none:=by rw [h.fl,dR,hg];rfl
 have fl:Fl x y ([]:MSc) 0 (fun _=>False) H':=⟨e1,e0,KOk.nil 0,Big.nil,hxy,fun q=>q,fun q=>q⟩
 have pf:PF k (x,[]) H' (fun z=>z=x∨z=y):=⟨y,[],0,_,fl,rfl,fun z=>by simp⟩
 have hus:(D.setFiles (cc D.files k [])).used=D.used:=by
  have:=gL hmg ([]:List (Int×Sec))
  show cb _=cb _
  simpa [DD.setFiles] using this
 refine⟨?_,e2,h.ok.put k (x,[]),Big.add dO hg c h.big pf (fun z hz=>fr z (.inr hz)) (fun z hz hG=>?_),?_,h.ne,fun hz=>?_,fun hz=>?_,h.cap⟩
 ·refine(fr d (.inl rfl)).trans (h.box.trans ?_)
  unfold dkC
  rw [hus]
  rfl
 ·rcases hz with rfl|rfl
  ·exact(hx z (.inr (.inr hG))).1 rfl
  ·exact(hx z (.inr (.inr hG))).2 rfl
 ·show cc D.files k []=_
  rw [jz,h.fl]
 ·have:=hx d (.inl rfl)
  rcases hz with (hz|hz)|hz
  ·exact this.1 hz
  ·exact this.2 hz
  ·exact h.nd hz
 ·have:=hx mp (.inr (.inl rfl))
  rcases hz with (hz|hz)|hz
  ·exact this.1 hz
  ·exact this.2 hz
  ·exact h.nm hz
theorem xJ{d:Nat}{D:DD}{Fp:Nat→Prop}{H:aK}{nx:Nat}{b0 b1:Nat}(hD:DAt d D Fp H)(k:ByteArray)(hmg:a6 D.files k=none)
 (h0:H.at' b0=some (ak 25 [.ptr d 0])) (h1:H.at' b1=some (ak 9 [.sc (kE k)])) (n0: ¬ Fp b0) (n1: ¬ Fp b1) :
 Fnc Try.prog 41 [.ptr b0 0,.ptr b1 0] H nx (fun q=> ∃ F',DAt d (D.setFiles (cc D.files k [])) F' q.2.1∧Stp Fp F' H nx q.2.1 q.2.2):=by
 refine Fnc.start Try.func41 rfl rfl ?_
 refine b7 fun hund=>?_
 have hlt:=hD.lt hund
 obtain⟨mp,m,c,G,h,hF⟩:=id hD
 have hbox:=h.box
 have hmap:=h.map
 have l0:=hund _ _ h0
 have l1:=hund _ _ h1
 have ld:=hund _ _ hbox
 have lm:=hund _ _ hmap
 have hne:=h.ne
 have hFm:Fp mp:=(hF mp).2 (.inr (.inl rfl))
 have m0:b0≠mp:=fun e=>n0 (e ▸ hFm)
 have m1:b1≠mp:=fun e=>n1 (e ▸ hFm)
 have hg:cr m k=none:=by
  rw [h.fl,dR] at hmg
  exact Option.map_eq_none_iff.1 hmg
 (apply aT;(focus(kernel_rfl));(focus(kernel_rfl)))
 (repeat(first|(apply bl;exact rfl;exact rfl;exact rfl)|(apply aW;exact rfl;exact rfl;exact rfl;exact(F.fo _ _ rfl rfl))|(apply qa;exact rfl;exact rfl;exact rfl)|(apply m6;exact rfl;exact rfl;exact rfl;exact(F.ze _ rfl);exact(F.pl _ rfl);exact rfl)|refine cE rfl rfl rfl (F.ag _ rfl) (by assumption) (by exact rfl) ?_|((apply rY;exact rfl;exact rfl))|refine kJ (m:=m) (enc:=kE) (val:=f8) (kk:=k) (v:=(nx+1,[])) rfl rfl rfl (F.un _ rfl) (kK) (by(repeat(first|assumption|refine(Tr.aa _ _ (by omega)).trans ?_));done) rfl ?_))
 (refine aF ?_);(refine⟨by kernel_rfl,?_,?_⟩);(focus(repeat(first|exact trivial|refine⟨.inl rfl,?_⟩|refine⟨.inr (by(repeat(refine⟨(by first|exact bc (F.fo _ _ rfl rfl) rfl|exact bv rfl|exact aO (F.ag _ rfl) rfl (by(repeat(first|assumption|refine(Tr.aa _ _ (by omega)).trans ?_));done) (aN rfl)|exact gh rfl (F.ze _ rfl) (F.pl _ rfl) rfl),?_⟩));exact trivial),?_⟩)))
 dsimp only [wrL]
 ((apply dU Try.func41 (congrArg Array.toList Try.results41));(focus(repeat(exact ResIs.nil))))
 have hk1: ∀ z,(z=d∨z=mp∨G z)→z<nx:=fun z hz=>hlt z ((hF z).2 hz)
 refine⟨_,⟨mp,_,_,_,h.addFile hg (x:=nx+1) (y:=nx) (by omega) (fun z hz=>by have:=hk1 z hz;exact⟨by omega,by omega⟩) (by(repeat(first|exact Tr.ae _ _ _|refine(Tr.aa _ _ (by omega)).trans ?_));done) (by(repeat(first|exact Tr.ae _ _ _|refine(Tr.aa _ _ (by omega)).trans ?_));done) (by(repeat(exact Tr.ae _ _ _));done) (fun z hz=>?_),fun z=>Iff.rfl⟩,by show nx≤nx+1+1;omega,fun z hz=>?_,fun z hz hn=>?_⟩
 ·have e1:z<nx:=hk1 z (hz.imp id .inr)
  have e2:z≠mp:=by
   rcases hz with rfl|hz
   ·exact hne
   ·exact fun e=>h.nm (e ▸ hz)
  (focus((repeat(refine(Tr.aa _ _ (by omega)).trans ?_));exact rfl))
 ·rw [hF]
  rcases hz with hz|hz|(hz|hz)|hz
  ·exact .inl (.inl hz)
  ·exact .inl (.inr (.inl hz))
  ·exact .inr (by omega)
  ·exact .inr (by omega)
  ·exact .inl (.inr (.inr hz))
 ·have e2:z≠mp:=fun e=>hn (e ▸ hFm)
  (focus((repeat(refine(Tr.aa _ _ (by omega)).trans ?_));exact rfl))
theorem wF{d:Nat}{D:DD}{Fp:Nat→Prop}{H:aK}{nx N:Nat}(hD:DAt d D Fp H)(hok:D.Ok N)(hN:N<1000000)(k:ByteArray)(hk:k.size≤140737488355328):Fnc Try.prog 23 [.ptr d 0,.sc (kE k)] H nx (x7 d (D.make k).1 (.sc (.int .i64 (D.make k).2)) Fp H nx):=by
 refine Fnc.start Try.func23 rfl rfl ?_
 refine b7 fun hund=>?_
 have hlt:=hD.lt hund
 (repeat(first|refine aj ?_|refine ac ?_|refine ab ?_|refine aD ?_|(apply ah;exact rfl;exact rfl;exact rfl)|(apply ky;exact rfl;exact rfl;exact rfl;exact rfl)|refine aH rfl rfl rfl (F.ag _ rfl) (by(repeat(first|exact Tr.ae _ _ _|refine(Tr.aa _ _ (by omega)).trans ?_));done) (by exact rfl) ?_))
 refine ee (R:=fun H1 n1=>n1=nx+1+1∧H1.at' nx=some (ak 25 [.ptr d 0])∧H1.at' (nx+1)=some (ak 9 [.sc (kE k)])∧ ∀ z,z<nx→H1.at' z=H.at' z) ⟨rfl,by(focus((repeat(first|exact Tr.ae _ _ _|refine(Tr.aa _ _ (by omega)).trans ?_));done)),by(focus((repeat(exact Tr.ae _ _ _));done)),fun z hz=>by(focus((repeat(refine(Tr.aa _ _ (by omega)).trans ?_));exact rfl))⟩ ?_
 rintro H1 n1 ⟨rfl,h0,h1,hold⟩
 have hD1:DAt d D Fp H1:=hD.frame fun z hz=>hold z (hlt z hz)
 have hFd:d<nx:=by
  obtain⟨mp,m,c,G,h,hF⟩:=hD
  exact hlt d ((hF d).2 (.inl rfl))
 clear hD
 have n0: ¬ Fp nx:=fun e=>by have:=hlt _ e;omega
 have n1: ¬ Fp (nx+1):=fun e=>by have:=hlt _ e;omega
 obtain⟨mp,m,c,G,h,hF⟩:=id hD1
 have hbox:=h.box
 have hmap:=h.map
 have hlen:m.length=D.files.length:=by rw [h.fl,wI]
 (repeat(first|refine aj ?_|refine ac ?_|refine ab ?_|refine an rfl ?_|(apply ah;exact rfl;exact rfl;exact rfl)|refine aH rfl rfl rfl (F.ag _ rfl) (by assumption) (by exact rfl) ?_|(apply dg;exact rfl;exact rfl;exact rfl)|(refine aQ rfl rfl rfl (by kernel_rfl) (Fnc.mono (gX hbox h.cap) ?_);rintro _ rfl;dsimp only)|(refine aQ rfl rfl rfl (by kernel_rfl) (Fnc.mono (fO k hk) ?_);rintro _ rfl;dsimp only)))
 cases h2:gZ k with
 | false=>
   rw [show D.make k=(D,2) by unfold DD.make;rw [if_pos h2]]
   (repeat(first|refine aj ?_|refine ac ?_|refine ab ?_|refine ar rfl ?_|(apply ah;exact rfl;exact rfl;exact rfl)))
   ((apply aS Try.func23 (congrArg Array.toList Try.results23));(focus(repeat(first|exact ResIs.nil|apply ResIs.tmp rfl))))
   exact⟨rfl,Fp,hD1,Stp.eF (n1:=nx+1+1) Stp.refl (by omega) hold⟩
 | true=>
   (repeat(first|refine aj ?_|refine ac ?_|refine ab ?_|refine an rfl ?_|(apply ah;exact rfl;exact rfl;exact rfl)|refine aH rfl rfl rfl (F.ag _ rfl) (by assumption) (by exact rfl) ?_|(refine aQ rfl rfl rfl (by kernel_rfl) (Fnc.mono (rW hD1 k) ?_);rintro _ rfl;dsimp only)))
   cases h3:(a6 D.files k).isSome with
   | true=>
     rw [show D.make k=(D,14) by unfold DD.make;rw [if_neg (by rw [h2];simp),if_pos (by intro e;rw [e] at h3;cases h3)]]
     (repeat(first|refine aj ?_|refine ac ?_|refine ab ?_|refine ar rfl ?_|(apply ah;exact rfl;exact rfl;exact rfl)))
     ((apply aS Try.func23 (congrArg Array.toList Try.results23));(focus(repeat(first|exact ResIs.nil|apply ResIs.tmp rfl))))
     exact⟨rfl,Fp,hD1,Stp.eF (n1:=nx+1+1) Stp.refl (by omega) hold⟩
   | false=>
     have hmg:a6 D.files k=none:=by
      cases e:a6 D.files k with
      | none=>rfl
      | some l=>rw [e] at h3;cases h3
     (repeat(first|refine aj ?_|refine ac ?_|refine an rfl ?_|(apply aR;exact rfl;exact rfl;exact rfl)|(apply aJ;exact rfl;exact rfl;exact rfl;exact(F.fo _ _ rfl rfl))|refine aH rfl rfl rfl (F.ag _ rfl) (by assumption) (by exact rfl) ?_|(refine uO (m:=m) (enc:=kE) (val:=f8) rfl rfl rfl (F.un _ rfl) hmap ?_)))
     (apply cw;exact rfl;exact rfl;exact rfl;exact rfl)
     all_goals intro h4
     ·rw [show D.make k=(D,5) by unfold DD.make;rw [if_neg (by rw [h2];simp),if_neg (by rw [hmg];simp),if_pos (by omega)]]
      (repeat(first|refine aj ?_|refine ac ?_|refine ab ?_|refine ar rfl ?_|(apply ah;exact rfl;exact rfl;exact rfl)))
      ((apply aS Try.func23 (congrArg Array.toList Try.results23));(focus(repeat(first|exact ResIs.nil|apply ResIs.tmp rfl))))
      exact⟨rfl,Fp,hD1,Stp.eF (n1:=nx+1+1) Stp.refl (by omega) hold⟩
     ·rw [show D.make k=D.change false fun D=>D.setFiles (cc D.files k []) by unfold DD.make;rw [if_neg (by rw [h2];simp),if_neg (by rw [hmg];simp),if_neg (by omega)]]
      (repeat(first|refine aj ?_|refine ac ?_|refine ab ?_|refine ay ?_|refine aE ?_|refine an rfl ?_|(apply ah;exact rfl;exact rfl;exact rfl)|(apply c8;exact rfl;exact rfl;exact rfl;exact rfl)|refine aH rfl rfl rfl (F.ag _ rfl) (by assumption) (by exact rfl) ?_))
      refine aQ rfl rfl rfl (by kernel_rfl) (Fnc.mono (jE hD1 hok hN false 41 [.ptr nx 0,.ptr (nx+1) 0] (fun D=>D.setFiles (cc D.files k [])) (by kernel_rfl) ?_) ?_)
      ·intro D1 H2 e1 e2 hA hkeep
       exact xJ hA k (by rw [e1];exact hmg) ((hkeep nx (by omega)).trans h0) ((hkeep (nx+1) (by omega)).trans h1) n0 n1
      ·rintro⟨_,H2,n2⟩ ⟨rfl,F',hA,hS⟩
       dsimp only at hA hS ⊢
       (repeat(first|refine ab ?_|(apply ah;exact rfl;exact rfl;exact rfl)))
       ((apply aS Try.func23 (congrArg Array.toList Try.results23));(focus(repeat(first|exact ResIs.nil|apply ResIs.tmp rfl))))
       exact⟨rfl,F',hA,Stp.eF hS (by omega) hold⟩
theorem xM{m:MFl}{k to:ByteArray}{x:Nat×List (Int×Sec)}(hg:cr m k=some x)(ht:cr m to=none)(hne:k≠to)(c:Nat): ∃ A B,kv m=A ++ (k,x) :: B∧kv (hY (cZ m to x c) k)=(A ++ B) ++ [(to,x)]:=by
 have hg':a6 (kv m) k=some x:=by rw [ju];exact hg
 have ht':a6 (kv m) to=none:=by rw [ju];exact ht
 obtain⟨A,B,h1,h2⟩:=da hg'
 refine⟨A,B,h1,?_⟩
 rw [qQ,oG,mK (cq.1 ht'),h1,List.append_assoc,List.cons_append,iy h2,List.append_assoc]
theorem Dk.move{d mp:Nat}{m:MFl}{c:Nat}{D:DD}{G:Nat→Prop}{H:aK}(h:Dk d mp m c D G H)(hok:(D.files.map (·.1)).Nodup){k to:ByteArray}{fn:Nat}{l:List (Int×Sec)}(hg:cr m k=some (fn,l))(ht:cr m to=none)(hne:k≠to){H':aK}
 (e2:H'.at' mp=some (eK kE f8 (hY (cZ m to (fn,l) c) k) (ko m to c))) (fr: ∀ z,(z=d∨G z)→H'.at' z=H.at' z):Dk d mp (hY (cZ m to (fn,l) c) k) (ko m to c) (D.setFiles (eJ (cc D.files to l) k)) G H':=by
 obtain⟨A,B,h1,h2⟩:=xM hg ht hne c
 have hb:=h.big
 rw [h1] at hb
 obtain⟨F1,F2,p1,p2,p3,p4⟩:=Big.focus hb
 have hb2:Big PF ((A ++ B) ++ [(to,(fn,l))]) H (fun z=>F1 z∨F2 z):=Big.kO (A:=A ++ B) (B:= []) (P:=PF) (k:=to) (x:=(fn,l)) p1 (by rw [List.append_nil];exact p2) p3
 have hb3:Big PF ((A ++ B) ++ [(to,(fn,l))]) H G:=Big.same hb2 p4
 have hmg:a6 D.files k=some l:=by rw [h.fl,dR,hg];rfl
 have hmt:a6 D.files to=none:=by rw [h.fl,dR,ht];rfl
 have hus:(D.setFiles (eJ (cc D.files to l) k)).used=D.used:=by
  have e1:=gL hmt l
  have e2:a6 (cc D.files to l) k=some l:=by rw [bX,if_neg (fun e=>hne e.symm)];exact hmg
  have e3:=ji e2
  show cb _=cb _
  simp only [DD.setFiles]
  omega
 refine⟨?_,e2,(h.ok.put to (fn,l)).del k,?_,?_,h.ne,h.nd,h.nm,h.cap⟩
 ·refine(fr d (.inl rfl)).trans (h.box.trans ?_)
  unfold dkC
  rw [hus]
  rfl
 ·rw [h2]
  exact Big.frame dO _ _ _ _ hb3 fun z hz=>fr z (.inr hz)
 ·show eJ (cc D.files to l) k=_
  rw [qY,jz,h.fl]
theorem s4{d:Nat}{D:DD}{Fp:Nat→Prop}{H:aK}{nx:Nat}{b0 b1 b2:Nat}(hD:DAt d D Fp H)(hnd:(D.files.map (·.1)).Nodup)(hu:D.used<1000000000)(k to:ByteArray){l:List (Int×Sec)}(hl:a6 D.files k=some l)
 (h0:H.at' b0=some (ak 9 [.sc (kE k)])) (h1:H.at' b1=some (ak 9 [.sc (kE to)])) (h2:H.at' b2=some (ak 25 [.ptr d 0])) (n0: ¬ Fp b0) (n1: ¬ Fp b1) (n2: ¬ Fp b2) :
 Fnc Try.prog 42 [.ptr b0 0,.ptr b1 0,.ptr b2 0] H nx (fun q=> ∃ F',DAt d (D.moved k to) F' q.2.1∧Stp Fp F' H nx q.2.1 q.2.2):=by
 refine Fnc.start Try.func42 rfl rfl ?_
 refine b7 fun hund=>?_
 have hlt:=hD.lt hund
 have l0:=hund _ _ h0
 have l1:=hund _ _ h1
 have l2:=hund _ _ h2
 unfold DD.moved
 by_cases hkt:k=to
 ·rw [if_pos hkt]
  (repeat(first|refine aj ?_|refine ac ?_|refine ab ?_|refine ar rfl ?_|refine aH rfl rfl rfl (F.ag _ rfl) (by assumption) (by exact rfl) ?_|((apply qq;exact rfl;exact rfl;exact rfl;exact rfl;exact((MapKept.bytes_beq k to).2 hkt)))))
  ((apply aS Try.func42 (congrArg Array.toList Try.results42));(focus(repeat(exact ResIs.nil))))
  exact⟨Fp,hD,Stp.refl⟩
 ·rw [if_neg hkt,hl]
  have hbq:(k == to)=false:=by
   cases e:k == to with
   | false=>rfl
   | true=>exact absurd ((MapKept.bytes_beq k to).1 e) hkt
  (repeat(first|refine aj ?_|refine ac ?_|refine ab ?_|refine aE ?_|refine an rfl ?_|refine aH rfl rfl rfl (F.ag _ rfl) (by assumption) (by exact rfl) ?_|(refine qq rfl rfl rfl rfl hbq ?_)))
  refine aQ rfl rfl rfl (by kernel_rfl) (Fnc.mono (wL hD hu to) ?_)
  rintro⟨_,H2,nx2⟩ ⟨F2,hA,hS,hsub⟩
  dsimp only at hA hS ⊢
  have g0:=(hS.2.2 b0 l0 n0).trans h0
  have g1:=(hS.2.2 b1 l1 n1).trans h1
  have g2:=(hS.2.2 b2 l2 n2).trans h2
  have hnd2:((D.gone to).files.map (·.1)).Nodup:=(iw hnd to).1
  have q1:a6 (D.gone to).files k=some l:=by
   show a6 (eJ D.files to) k=_
   rw [gY hnd,if_neg (fun e=>hkt e.symm)];exact hl
  have q2:a6 (D.gone to).files to=none:=by
   show a6 (eJ D.files to) to=_
   rw [gY hnd,if_pos rfl]
  obtain⟨mp,m,c,G,h,hF⟩:=id hA
  have hbox:=h.box
  have hmap:=h.map
  have hne:=h.ne
  have hFm:F2 mp:=(hF mp).2 (.inr (.inl rfl))
  have m0:b0≠mp:=fun e=>n0 (hsub _ (e ▸ hFm))
  have m1:b1≠mp:=fun e=>n1 (hsub _ (e ▸ hFm))
  have m2:b2≠mp:=fun e=>n2 (hsub _ (e ▸ hFm))
  rw [h.fl,dR] at q1 q2
  obtain⟨⟨fn,l'⟩,hg,rfl⟩:=zo.1 q1
  have ht:=Option.map_eq_none_iff.1 q2
  (repeat(first|refine aj ?_|refine ab ?_))
  (apply dp;(focus(kernel_rfl));(focus(kernel_rfl)))
  (repeat(first|(apply bl;exact rfl;exact rfl;exact rfl)|(apply aW;exact rfl;exact rfl;exact rfl;exact(F.fo _ _ rfl rfl))|refine cE rfl rfl rfl (F.ag _ rfl) (by assumption) (by exact rfl) ?_|refine gu (m:=m) (enc:=kE) (val:=f8) rfl rfl rfl rfl (F.un _ rfl) (kK) (by assumption) (hg) ?_|refine kJ (m:=m) (enc:=kE) (val:=f8) (kk:=to) (v:=(fn,l')) rfl rfl rfl (F.un _ rfl) (kK) (by assumption) rfl ?_))
  (refine aF ?_);(refine⟨by kernel_rfl,?_,?_⟩);(focus(repeat(first|exact trivial|refine⟨.inl (cj rfl),?_⟩|refine⟨.inr ⟨0,by kernel_rfl,AllH.all (fun _=>(by first|exact bv rfl|exact bc (F.fo _ _ rfl rfl) rfl)) _⟩,?_⟩|refine⟨.inr ⟨0,by kernel_rfl,(by(refine⟨(by(exact aO (F.ag _ rfl) rfl (by(repeat(first|assumption|refine(Tr.aa _ _ (by omega)).trans ?_));done) (aN rfl))),?_⟩;(repeat(refine⟨(by(exact aO (F.ag _ rfl) rfl (by assumption) (aN rfl))),?_⟩));exact trivial))⟩,?_⟩|refine⟨.inl (by kernel_rfl),?_⟩)))
  dsimp only [wrL]
  have hbox3:(H2.set mp (eK kE f8 (cZ m to (fn,l') c) (ko m to c))).at' d=some (ak 58 (dkC (D.gone to) mp)):=(Tr.aa _ _ hne).trans hbox
  (apply dp;(focus(kernel_rfl));(focus(kernel_rfl)))
  (repeat(first|(apply bl;exact rfl;exact rfl;exact rfl)|(apply aW;exact rfl;exact rfl;exact rfl;exact(F.fo _ _ rfl rfl))|refine cE rfl rfl rfl (F.ag _ rfl) (by(repeat(first|assumption|refine(Tr.aa _ _ (by omega)).trans ?_));done) (by exact rfl) ?_|refine vW rfl (fun _ h=>by cases h) (nS (m:=cZ m to (fn,l') c) (c:=ko m to c) (enc:=kE) (val:=f8) (kk:=k) rfl rfl (F.un _ rfl) kK (by(repeat(exact Tr.ae _ _ _));done)) ?_))
  (refine aF ?_);(refine⟨by kernel_rfl,?_,?_⟩);(focus(repeat(first|exact trivial|refine⟨.inl (cj rfl),?_⟩|refine⟨.inr ⟨0,by kernel_rfl,AllH.all (fun _=>(by first|exact bv rfl|exact bc (F.fo _ _ rfl rfl) rfl)) _⟩,?_⟩|refine⟨.inr ⟨0,by kernel_rfl,(by(refine⟨(by(exact aO (F.ag _ rfl) rfl (by(repeat(first|assumption|refine(Tr.aa _ _ (by omega)).trans ?_));done) (aN rfl))),?_⟩;(repeat(refine⟨(by(exact aO (F.ag _ rfl) rfl (by(repeat(first|assumption|refine(Tr.aa _ _ (by omega)).trans ?_));done) (aN rfl))),?_⟩));exact trivial))⟩,?_⟩)))
  dsimp only [wrL]
  ((apply dU Try.func42 (congrArg Array.toList Try.results42));(focus(repeat(exact ResIs.nil))))
  refine⟨F2,⟨mp,_,_,G,h.move hnd2 hg ht hkt (by(repeat(exact Tr.ae _ _ _));done) (fun z hz=>?_),hF⟩,hS.trans ⟨zA _,fun z hz=> .inl hz,fun z hz hn=>?_⟩⟩
  ·have e2:z≠mp:=by
    rcases hz with rfl|hz
    ·exact hne
    ·exact fun e=>h.nm (e ▸ hz)
   (focus((repeat(refine(Tr.aa _ _ (by omega)).trans ?_));exact rfl))
  ·have e2:z≠mp:=fun e=>hn (e ▸ hFm)
   (focus((repeat(refine(Tr.aa _ _ (by omega)).trans ?_));exact rfl))
theorem qu{d:Nat}{D:DD}{Fp:Nat→Prop}{H:aK}{nx N:Nat}(hD:DAt d D Fp H)(hok:D.Ok N)(hN:N<1000000)(k to:ByteArray)(hk:k.size≤140737488355328)(ht:to.size≤140737488355328):Fnc Try.prog 24 [.ptr d 0,.sc (kE k),.sc (kE to)] H nx (x7 d (D.rename k to).1 (.sc (.int .i64 (D.rename k to).2)) Fp H nx):=by
 refine Fnc.start Try.func24 rfl rfl ?_
 refine b7 fun hund=>?_
 have hlt:=hD.lt hund
 (repeat(first|refine aj ?_|refine ac ?_|refine ab ?_|refine aD ?_|(apply ah;exact rfl;exact rfl;exact rfl)|(apply ky;exact rfl;exact rfl;exact rfl;exact rfl)|refine aH rfl rfl rfl (F.ag _ rfl) (by(repeat(first|exact Tr.ae _ _ _|refine(Tr.aa _ _ (by omega)).trans ?_));done) (by exact rfl) ?_))
 refine ee (R:=fun H1 n1=>n1=nx+1+1+1∧H1.at' nx=some (ak 25 [.ptr d 0])∧H1.at' (nx+1)=some (ak 9 [.sc (kE k)])∧H1.at' (nx+1+1)=some (ak 9 [.sc (kE to)])∧ ∀ z,z<nx→H1.at' z=H.at' z) ⟨rfl,by(focus((repeat(first|exact Tr.ae _ _ _|refine(Tr.aa _ _ (by omega)).trans ?_));done)),by(focus((repeat(first|exact Tr.ae _ _ _|refine(Tr.aa _ _ (by omega)).trans ?_));done)),by(focus((repeat(exact Tr.ae _ _ _));done)),fun z hz=>by(focus((repeat(refine(Tr.aa _ _ (by omega)).trans ?_));exact rfl))⟩ ?_
 rintro H1 n1 ⟨rfl,h0,h1,h2,hold⟩
 have hD1:DAt d D Fp H1:=hD.frame fun z hz=>hold z (hlt z hz)
 have hFd:d<nx:=by
  obtain⟨mp,m,c,G,h,hF⟩:=hD
  exact hlt d ((hF d).2 (.inl rfl))
 clear hD
 have n0: ¬ Fp nx:=fun e=>by have:=hlt _ e;omega
 have n1: ¬ Fp (nx+1):=fun e=>by have:=hlt _ e;omega
 have n2: ¬ Fp (nx+1+1):=fun e=>by have:=hlt _ e;omega
 obtain⟨mp,m,c,G,h,hF⟩:=id hD1
 have hbox:=h.box
 (repeat(first|refine aj ?_|refine ac ?_|refine ab ?_|refine an rfl ?_|(apply ai;exact rfl;exact rfl;exact rfl)|(apply ah;exact rfl;exact rfl;exact rfl)|refine aH rfl rfl rfl (F.ag _ rfl) (by assumption) (by exact rfl) ?_|(apply dg;exact rfl;exact rfl;exact rfl)|(refine aQ rfl rfl rfl (by kernel_rfl) (Fnc.mono (gX hbox h.cap) ?_);rintro _ rfl;dsimp only)|(refine aQ rfl rfl rfl (by kernel_rfl) (Fnc.mono (fO k hk) ?_);rintro _ rfl;dsimp only)))
 cases h3:gZ k with
 | false=>
   rw [show D.rename k to=(D,2) by unfold DD.rename;rw [if_pos (.inl h3)]]
   (repeat(first|refine aj ?_|refine ac ?_|refine ab ?_|refine ar rfl ?_|(apply ah;exact rfl;exact rfl;exact rfl)|(apply dT;exact rfl;exact rfl;exact rfl;exact rfl)|(apply jK;exact rfl)))
   ((apply aS Try.func24 (congrArg Array.toList Try.results24));(focus(repeat(first|exact ResIs.nil|apply ResIs.tmp rfl))))
   exact⟨rfl,Fp,hD1,Stp.eF (n1:=nx+1+1+1) Stp.refl (by omega) hold⟩
 | true=>
   (repeat(first|refine ab ?_|(apply ah;exact rfl;exact rfl;exact rfl)|(apply ci;exact rfl;exact rfl;exact rfl;exact rfl)|refine aH rfl rfl rfl (F.ag _ rfl) (by assumption) (by exact rfl) ?_|(apply dg;exact rfl;exact rfl;exact rfl)|(refine aQ rfl rfl rfl (by kernel_rfl) (Fnc.mono (fO to ht) ?_);rintro _ rfl;dsimp only)))
   cases h4:gZ to with
   | false=>
     rw [show D.rename k to=(D,2) by unfold DD.rename;rw [if_pos (.inr h4)]]
     (repeat(first|refine aj ?_|refine ac ?_|refine ab ?_|refine ar rfl ?_|(apply ah;exact rfl;exact rfl;exact rfl)))
     ((apply aS Try.func24 (congrArg Array.toList Try.results24));(focus(repeat(first|exact ResIs.nil|apply ResIs.tmp rfl))))
     exact⟨rfl,Fp,hD1,Stp.eF (n1:=nx+1+1+1) Stp.refl (by omega) hold⟩
   | true=>
     have hno: ¬ (gZ k=false∨gZ to=false):=by rw [h3,h4];simp
     (repeat(first|refine aj ?_|refine ac ?_|refine ab ?_|refine an rfl ?_|(apply ah;exact rfl;exact rfl;exact rfl)|refine aH rfl rfl rfl (F.ag _ rfl) (by assumption) (by exact rfl) ?_|(apply dg;exact rfl;exact rfl;exact rfl)|(refine aQ rfl rfl rfl (by kernel_rfl) (Fnc.mono (rW hD1 k) ?_);rintro _ rfl;dsimp only)))
     cases hl:a6 D.files k with
     | none=>
       rw [show D.rename k to=(D,6) by unfold DD.rename;rw [if_neg hno,if_pos hl]]
       (repeat(first|refine aj ?_|refine ac ?_|refine ab ?_|refine ar rfl ?_|(apply ah;exact rfl;exact rfl;exact rfl)))
       ((apply aS Try.func24 (congrArg Array.toList Try.results24));(focus(repeat(first|exact ResIs.nil|apply ResIs.tmp rfl))))
       exact⟨rfl,Fp,hD1,Stp.eF (n1:=nx+1+1+1) Stp.refl (by omega) hold⟩
     | some l=>
       rw [show D.rename k to=D.change false fun D=>D.moved k to by unfold DD.rename;rw [if_neg hno,if_neg (by rw [hl];simp)]]
       (repeat(first|refine aj ?_|refine ac ?_|refine ay ?_|refine aE ?_|refine an rfl ?_|(apply c8;exact rfl;exact rfl;exact rfl;exact rfl)|refine aH rfl rfl rfl (F.ag _ rfl) (by assumption) (by exact rfl) ?_))
       refine aQ rfl rfl rfl (by kernel_rfl) (Fnc.mono (jE hD1 hok hN false 42 [.ptr (nx+1) 0,.ptr (nx+1+1) 0,.ptr nx 0] (fun D=>D.moved k to) (by kernel_rfl) ?_) ?_)
       ·intro D1 H2 e1 e2 hA hkeep
        have hu:D1.used<1000000000:=by have:=jM e1;have:=hok.f.used;unfold DD.used at *;omega
        exact s4 hA (by rw [e1];exact hok.f.ndF) hu k to (by rw [e1];exact hl) ((hkeep _ (by omega)).trans h1) ((hkeep _ (by omega)).trans h2) ((hkeep _ (by omega)).trans h0) n1 n2 n0
       ·rintro⟨_,H2,n2⟩ ⟨rfl,F',hA,hS⟩
        dsimp only at hA hS ⊢
        (repeat(first|refine ab ?_|(apply ah;exact rfl;exact rfl;exact rfl)))
        ((apply aS Try.func24 (congrArg Array.toList Try.results24));(focus(repeat(first|exact ResIs.nil|apply ResIs.tmp rfl))))
        exact⟨rfl,F',hA,Stp.eF hS (by omega) hold⟩
theorem xV{d:Nat}{D:DD}{Fp:Nat→Prop}{H:aK}{nx N:Nat}(hD:DAt d D Fp H)(hok:D.Ok N)(k:ByteArray):Fnc Try.prog 13 [.ptr d 0,.sc (kE k)] H nx (fun q=>q.1 = .sc (.int .i64 (D.count k))∧nx≤q.2.2∧ ∀ z,z<nx→q.2.1.at' z=H.at' z):=by
 refine Fnc.start Try.func13 rfl rfl ?_
 refine b7 fun hund=>?_
 have hlt:=hD.lt hund
 have hnum:=hok.f.num k
 obtain⟨mp,m,c,G,h,hF⟩:=id hD
 have hbox:=h.box
 have hmap:=h.map
 (repeat(first|refine aj ?_|refine ac ?_|refine ab ?_|(apply ai;exact rfl;exact rfl;exact rfl)|(apply ah;exact rfl;exact rfl;exact rfl)|(apply dg;exact rfl;exact rfl;exact rfl)|(refine aQ rfl rfl rfl (by kernel_rfl) (Fnc.mono (rW hD k) ?_);rintro _ rfl;dsimp only)))
 unfold DD.count
 cases hl:a6 D.files k with
 | none=>
   (repeat(first|refine aj ?_|refine ac ?_|refine ab ?_|refine ar rfl ?_|(apply ah;exact rfl;exact rfl;exact rfl)))
   ((apply aS Try.func13 (congrArg Array.toList Try.results13));(focus(repeat(first|exact ResIs.nil|apply ResIs.tmp rfl))))
   exact⟨rfl,zA _,fun _ _=>rfl⟩
 | some l=>
   have hl2:=hnum l hl
   rw [h.fl] at hl
   obtain⟨fn,hg⟩:=jV hl
   obtain⟨ms,m2,c2,G2,R,hf,rfl,hR,hd,hG⟩:=h.file hg
   have hfb:=hf.box
   have hfm:=hf.map
   have lf:=hund _ _ hfb
   have lm:=hund _ _ hfm
   have hx2: ∀ x∈m2,0≤x.1∧x.1<65536:=fun x hx=>hl2 (x.1,x.2.1.2) (List.mem_map.2 ⟨(x.1,x.2.1),List.mem_map.2 ⟨x,hx,rfl⟩,rfl⟩)
   (repeat(first|refine aj ?_|refine ac ?_|refine ab ?_|refine aD ?_|refine aE ?_|refine an rfl ?_|(apply ai;exact rfl;exact rfl;exact rfl)|(apply ah;exact rfl;exact rfl;exact rfl)|(apply aR;exact rfl;exact rfl;exact rfl)|(apply aJ;exact rfl;exact rfl;exact rfl;exact(F.fo _ _ rfl rfl))|refine aH rfl rfl rfl (F.ag _ rfl) (by assumption) (by exact rfl) ?_|refine fx (m:=m) (enc:=kE) (val:=f8) rfl rfl rfl rfl (F.un _ rfl) (kK) (by first|exact rfl|assumption) (hg) ?_|(refine kR (b:=ms) (m:=m2) (c:=c2) (enc:=iE) (val:=iS) rfl rfl rfl (F.un _ rfl) (by assumption) ?_)))
   refine dS (α:=MSc×Int) (fun a=> [(5,.sc (.int .i64 a.2)),(20,.ptr nx 0)]) (fun a H1 n1=>(a.1.Nodup∧ ∀ x∈a.1,x∈m2)∧(0≤a.2∧a.2≤65536)∧(∀ x∈a.1,x.1+1≤a.2)∧(a.2=0∨ ∃ x∈a.1,a.2=x.1+1)∧n1=nx+1∧H1.at' nx=some (itV ms c2 a.1)∧ ∀ z,z<nx→H1.at' z=H.at' z) (fun a=>m2.length-a.1.length) ([],0)
    ⟨⟨List.nodup_nil,fun _ h=>(by cases h)⟩,⟨Int.le_refl _,by decide⟩,fun _ h=>(by cases h),.inl rfl,rfl,by(focus((repeat(exact Tr.ae _ _ _));done)),fun z hz=>by(focus((repeat(refine(Tr.aa _ _ (by omega)).trans ?_));exact rfl))⟩ (SlIn.sub (by repeat(first|exact trivial|refine⟨rfl,?_⟩))) ?_
   rintro⟨done,top⟩ H1 n1 ⟨hdn,⟨ht0,ht1⟩,ht2,ht3,rfl,hit,hold⟩ ih
   simp only at hdn ht0 ht1 ht2 ht3 hit ih ⊢
   have hfm1:=(hold ms lm).trans hfm
   (repeat(first|refine aj ?_|refine ac ?_))
   refine l5 (b:=ms) (m:=m2) (c:=c2) (enc:=iE) (val:=iS) (done:=done) rfl rfl rfl hit hfm1 hf.ok hdn ?_ ?_
   ·intro hp
    (repeat(first|refine aj ?_|refine ac ?_|refine ab ?_|refine aU rfl ?_|refine an rfl ?_|(apply ai;exact rfl;exact rfl;exact rfl)|(apply ah;exact rfl;exact rfl;exact rfl)|(apply eR;exact rfl;exact rfl;exact rfl;exact rfl)))
    ((apply aS Try.func13 (congrArg Array.toList Try.results13));(focus(repeat(first|exact ResIs.nil|apply ResIs.tmp rfl))))
    refine⟨?_,zJ _,hold⟩
    have hmm: ∀ x:Int×Sec,x∈di m2↔ ∃ y∈done,x=(y.1,y.2.1.2):=fun x=>by
     rw [List.mem_map]
     constructor
     ·rintro⟨y,hy,rfl⟩
      obtain⟨z,hz,rfl⟩:=List.mem_map.1 hy
      exact⟨z,hp.mem_iff.2 hz,rfl⟩
     ·rintro⟨y,hy,rfl⟩
      exact⟨(y.1,y.2.1),List.mem_map.2 ⟨y,hp.mem_iff.1 hy,rfl⟩,rfl⟩
    have:=uU (m:=di m2) (t:=top) ht0 (fun x hx=>by
     obtain⟨y,hy,rfl⟩:=(hmm x).1 hx
     exact ht2 y hy) (ht3.imp id fun⟨y,hy,e⟩=>⟨(y.1,y.2.1.2),(hmm _).2 ⟨y,hy,rfl⟩,e⟩)
    rw [← this]
    rfl
   ·intro x hx hxn hdn2
    have hxb:=hx2 x hx
    have hlen2:=dH _ m2 hdn2.1 hdn2.2
    rw [zE,List.length_singleton] at hlen2
    (repeat(first|refine aj ?_|refine ac ?_|refine ab ?_|refine aD ?_|refine ay ?_|refine aE ?_|refine ar rfl ?_|(apply ai;exact rfl;exact rfl;exact rfl)|(apply ah;exact rfl;exact rfl;exact rfl)|(apply bM;exact rfl;exact rfl;exact rfl;exact rfl)|(apply bj;exact rfl;exact rfl;exact rfl;exact rfl;(focus(omega));(focus(omega)))|(refine jL (b:=ms) (m:=m2) (c:=c2) (enc:=iE) (val:=iS) (x:=x) (done:=done) rfl rfl rfl (Tr.ae _ _ _) ((Tr.aa _ _ (by omega)).trans hfm1) hf.ok hx ?_)|((apply wu;exact rfl;exact rfl;exact rfl;exact rfl;exact rfl))))
    refine ih _ _ _ (done ++ [x],max top (x.1+1)) ⟨hdn2,⟨by omega,by omega⟩,fun y hy=>?_,?_,rfl,by(focus((repeat(exact Tr.ae _ _ _));done)),fun z hz=>by(focus((repeat(refine(Tr.aa _ _ (by omega)).trans ?_));exact hold z hz))⟩ (by simp only [zE,List.length_singleton];omega) (SlIn.sub (by repeat(first|exact trivial|refine⟨rfl,?_⟩)))
    ·rcases List.mem_append.1 hy with hy|hy
     ·have:=ht2 y hy;omega
     ·rw [List.mem_singleton.1 hy];omega
    ·by_cases hc:top≤x.1+1
     ·exact .inr ⟨x,by simp,by omega⟩
     ·rcases ht3 with e|⟨y,hy,e⟩
      ·omega
      ·exact .inr ⟨y,List.mem_append_left _ hy,by omega⟩
theorem uq{d:Nat}{D:DD}{Fp:Nat→Prop}{H:aK}{nx N:Nat}(hD:DAt d D Fp H)(hok:D.Ok N)(k:ByteArray):Fnc Try.prog 13 [.ptr d 0,.sc (kE k)] H nx (fun q=>q=(.sc (.int .i64 (D.count k)),H,nx)):=Fnc.lO (xV hD hok k)
theorem qR{K V:Type} [DecidableEq K]: ∀ {m:List (K×V×Nat)} {x:K×V×Nat},(m.map (·.1)).Nodup→x∈m→ ∀ (w:V) (c:Nat),cZ m x.1 w c=m.map fun y=>if y.1=x.1 then(y.1,w,y.2.2) else y
 | [],x,_,h,_,_=>by cases h
 | y :: m,x,hn,h,w,c=>by
   rw [zC,List.nodup_cons] at hn
   rcases List.mem_cons.1 h with rfl|h
   ·have:(m.map fun z=>if z.1=x.1 then(z.1,w,z.2.2) else z)=m:=by
     refine(List.map_congr_left fun z hz=>?_).trans (List.map_id m)
     exact if_neg (fun e:z.1=x.1=>hn.1 (List.mem_map.2 ⟨z,hz,e⟩))
    simp [cZ,this]
   ·have hne:y.1≠x.1:=fun e=>hn.1 (e ▸ List.mem_map_of_mem h)
    simp only [cZ,if_neg hne,zC]
    rw [qR hn.2 h w c]
theorem fv{K V:Type} [DecidableEq K]: ∀ {m:List (K×V×Nat)} {x:K×V×Nat},(m.map (·.1)).Nodup→x∈m→cr m x.1=some x.2.1
 | [],x,_,h=>by cases h
 | y :: m,x,hn,h=>by
   rw [zC,List.nodup_cons] at hn
   rcases List.mem_cons.1 h with rfl|h
   ·simp [cr]
   ·have hne:y.1≠x.1:=fun e=>hn.1 (e ▸ List.mem_map_of_mem h)
    have e:cr (y :: m) x.1=cr m x.1:=by simp [cr,hne]
    rw [e]
    exact fv hn.2 h
theorem ln{K V:Type}: ∀ {m:List (K×V×Nat)} {x y:K×V×Nat},(m.map (·.1)).Nodup→x∈m→y∈m→y.1=x.1→y=x
 | [],_,_,_,h,_,_=>by cases h
 | z :: m,x,y,hn,hx,hy,e=>by
   rw [zC,List.nodup_cons] at hn
   rcases List.mem_cons.1 hx with rfl|hx
   ·rcases List.mem_cons.1 hy with h|hy
    ·exact h
    ·exact absurd (List.mem_map.2 ⟨y,hy,e⟩) hn.1
   ·rcases List.mem_cons.1 hy with h|hy
    ·exact absurd (List.mem_map.2 ⟨x,hx,by rw [← e,h]⟩) hn.1
    ·exact ln hn.2 hx hy e
def wy(s:Sec):Sec:=⟨s.has,[]⟩
def fJ(m:MSc)(ks:List Int):MSc:=m.map fun x=>if x.1∈ks then(x.1,(x.2.1.1,wy x.2.1.2),x.2.2) else x
theorem jN(m:MSc)(ks:List Int):(fJ m ks).map (·.1)=m.map (·.1):=by
 unfold fJ
 rw [List.map_map]
 refine List.map_congr_left fun x _=>?_
 simp only [Function.comp_def]
 split <;> rfl
theorem rC(m:MSc)(ks:List Int):lQ iE iS (fJ m ks)=lQ iE iS m:=by
 unfold fJ lQ
 rw [List.map_map]
 refine List.map_congr_left fun x _=>?_
 simp only [Function.comp_def]
 split <;> rfl
theorem sM(m:MSc):fJ m []=m:=by
 unfold fJ
 refine(List.map_congr_left fun x _=>?_).trans (List.map_id m)
 rw [if_neg (by simp)]
 rfl
theorem rD{m:MSc}(hn:(m.map (·.1)).Nodup){ks:List Int}{x:Int×(Nat×Sec)×Nat}(hx:x∈m)(hk:x.1∉ks)(c:Nat):cZ (fJ m ks) x.1 (x.2.1.1,wy x.2.1.2) c=fJ m (ks ++ [x.1]):=by
 have hm:x∈fJ m ks:=List.mem_map.2 ⟨x,hx,by rw [if_neg hk]⟩
 rw [qR (by rw [jN];exact hn) hm]
 unfold fJ
 rw [List.map_map]
 refine List.map_congr_left fun y hy=>?_
 simp only [Function.comp_def]
 by_cases e:y.1=x.1
 ·have:=ln hn hx hy e
  subst this
  simp [hk]
 ·simp only [List.mem_append,List.mem_singleton,e,or_false]
  split <;> simp [e]
theorem sO{m:MSc}{ks:List Int}(h: ∀ x∈m,x.1∈ks):di (fJ m ks)=jO (di m):=by
 unfold di jO fJ kv
 simp only [List.map_map]
 refine List.map_congr_left fun x hx=>?_
 simp only [Function.comp_def,if_pos (h x hx)]
 rfl
theorem sN{m:MSc}(hn:(m.map (·.1)).Nodup){ks:List Int}{x:Int×(Nat×Sec)×Nat}(hx:x∈m)(hk:x.1∉ks):cr (fJ m ks) x.1=some x.2.1:=
 fv (by rw [jN];exact hn) (List.mem_map.2 ⟨x,hx,by rw [if_neg hk]⟩)
theorem uW{m:MSc}{c:Nat}(h:KOk m c)(ks:List Int):KOk (fJ m ks) c:=by
 have hb:(fJ m ks).map (·.2.2)=m.map (·.2.2):=by
  unfold fJ
  rw [List.map_map]
  refine List.map_congr_left fun x _=>?_
  simp only [Function.comp_def]
  split <;> rfl
 refine⟨by rw [jN];exact h.keys,by rw [hb];exact h.born,fun x hx=>?_⟩
 have:x.2.2∈(fJ m ks).map (·.2.2):=List.mem_map_of_mem hx
 rw [hb] at this
 obtain⟨y,hy,e⟩:=List.mem_map.1 this
 rw [← e]
 exact h.lt y hy
theorem Dk.putFile{d mp:Nat}{m:MFl}{c:Nat}{D:DD}{G:Nat→Prop}{H:aK}(h:Dk d mp m c D G H){k:ByteArray}{fn ms:Nat}{l:List (Int×Sec)}{G2 R:Nat→Prop}(hg:cr m k=some (fn,l))(hR:Big PF (kv (hY m k)) H R)(hd: ∀ z,(z=fn∨z=ms∨G2 z)→ ¬ R z)(hG: ∀ z,G z↔(z=fn∨z=ms∨G2 z)∨R z)
 {H':aK} {m3:MSc} {c3:Nat} {G3:Nat→Prop} (fl:Fl fn ms m3 c3 G3 H') (hsub: ∀ z,G3 z→G2 z) (hlen:(di m3).length=l.length) (fr: ∀ z,(z=d∨z=mp∨R z)→H'.at' z=H.at' z):Dk d mp (cZ m k (fn,di m3) c) c (D.setFiles (cc D.files k (di m3))) (fun z=>(z=fn∨z=ms∨G3 z)∨R z) H':=by
 have pf:PF k (fn,di m3) H' (fun z=>z=fn∨z=ms∨G3 z):=⟨ms,_,_,_,fl,rfl,fun z=>Iff.rfl⟩
 have up: ∀ z,(z=fn∨z=ms∨G3 z)→(z=fn∨z=ms∨G2 z):=fun z hz=>hz.imp id fun e=>e.imp id (hsub z)
 have hmg:a6 D.files k=some l:=by rw [h.fl,dR,hg];rfl
 have hk:=h.ok.put k (fn,di m3)
 rw [jw hg] at hk
 have hus:(D.setFiles (cc D.files k (di m3))).used=D.used:=by
  have:=eZ hmg (di m3)
  show cb _=cb _
  simp only [DD.setFiles]
  omega
 have inG: ∀ z,((z=fn∨z=ms∨G3 z)∨R z)→G z:=fun z hz=>(hG z).2 (hz.imp (up z) id)
 refine⟨?_,(fr mp (.inr (.inl rfl))).trans (h.map.trans (congrArg (fun l=>some (VO.map l c)) (iz (g:=f8) (y:=(fn,di m3)) hg rfl c).symm)),hk,Big.put dO hg c hR pf (fun z hz=>fr z (.inr (.inr hz))) (fun z hz=>hd z (up z hz)),?_,h.ne,fun hz=>h.nd (inG _ hz),fun hz=>h.nm (inG _ hz),h.cap⟩
 ·refine(fr d (.inl rfl)).trans (h.box.trans ?_)
  unfold dkC
  rw [hus]
  rfl
 ·show cc D.files k (di m3)=_
  rw [jz,h.fl]
theorem xe{d:Nat}{D:DD}{Fp:Nat→Prop}{H:aK}{nx:Nat}{b0 b1:Nat}(hD:DAt d D Fp H)(k:ByteArray){l:List (Int×Sec)}(hl:a6 D.files k=some l)(hw: ∀ n s,a6 l n=some s→s.writes.length<1000000)
 (h0:H.at' b0=some (ak 25 [.ptr d 0])) (h1:H.at' b1=some (ak 9 [.sc (kE k)])) :
 Fnc Try.prog 48 [.ptr b0 0,.ptr b1 0] H nx (fun q=> ∃ F',DAt d (D.setFiles (cc D.files k (jO l))) F' q.2.1∧Stp Fp F' H nx q.2.1 q.2.2):=by
 refine Fnc.start Try.func48 rfl rfl ?_
 refine b7 fun hund=>?_
 have hlt:=hD.lt hund
 obtain⟨mp,m,c,G,h,hF⟩:=id hD
 have hbox:=h.box
 have hmap:=h.map
 have l0:=hund _ _ h0
 have l1:=hund _ _ h1
 have ld:=hund _ _ hbox
 have lmp:=hund _ _ hmap
 rw [h.fl] at hl
 obtain⟨fn,hg⟩:=jV hl
 obtain⟨ms,m2,c2,G2,R,hf,rfl,hR,hd,hG⟩:=h.file hg
 have hfb:=hf.box
 have hfm:=hf.map
 have lf:=hund _ _ hfb
 have lm:=hund _ _ hfm
 (repeat(refine aj ?_))
 (apply aT;(focus(kernel_rfl));(focus(kernel_rfl)))
 (repeat(first|(apply bl;exact rfl;exact rfl;exact rfl)|(apply aW;exact rfl;exact rfl;exact rfl;exact(F.fo _ _ rfl rfl))|refine cE rfl rfl rfl (F.ag _ rfl) (by assumption) (by exact rfl) ?_|refine gu (m:=m) (enc:=kE) (val:=f8) rfl rfl rfl rfl (F.un _ rfl) (kK) (by assumption) (hg) ?_|(apply mg;exact rfl;exact rfl;exact(fun _ h=>by cases h);exact(qC (m:=m2) (enc:=iE) (val:=iS) rfl (F.un _ rfl) hfm))))
 (refine aF ?_);(refine⟨by kernel_rfl,?_,?_⟩);(focus(repeat(first|exact trivial|refine⟨.inl rfl,?_⟩|refine⟨.inr (by(repeat(refine⟨(by first|exact bc (F.fo _ _ rfl rfl) rfl|exact bv rfl|exact aO (F.ag _ rfl) rfl (by(repeat(first|assumption|refine(Tr.aa _ _ (by omega)).trans ?_));done) (aN rfl)),?_⟩));exact trivial),?_⟩|refine⟨.inl (by kernel_rfl),?_⟩)))
 dsimp only [wrL]
 (repeat(refine aD ?_))
 refine dS (α:=MSc) (fun a=> [(13,.ptr nx 0)]) (fun a H1 n1=>(a.Nodup∧ ∀ x∈a,x∈m2)∧n1=nx+1∧H1.at' nx=some (itV ms c2 a)∧(∃ G3,Big PS (kv (fJ m2 (a.map (·.1)))) H1 G3∧ ∀ z,G3 z→G2 z)∧ ∀ z,z<nx→ ¬ G2 z→H1.at' z=H.at' z) (fun a=>m2.length-a.length) []
  ⟨⟨List.nodup_nil,fun _ h=>(by cases h)⟩,rfl,by(focus((repeat(exact Tr.ae _ _ _));done)),⟨G2,by rw [List.map_nil,sM];exact Big.frame d9 _ _ _ _ hf.big fun z hz=>(Tr.aa _ _ (by have:=hlt z ((hF z).2 (.inr (.inr ((hG z).2 (.inl (.inr (.inr hz)))))));omega)),fun _ h=>h⟩,fun z hz _=>by(focus((repeat(refine(Tr.aa _ _ (by omega)).trans ?_));exact rfl))⟩ (SlIn.sub (by repeat(first|exact trivial|refine⟨rfl,?_⟩))) ?_
 rintro done H1 n1 ⟨hdn,rfl,hit,⟨G3,hbig,hsub⟩,hold⟩ ih
 have gm: ¬ G2 ms:=hf.nm
 have hfm1:=(hold ms lm gm).trans hfm
 (repeat(first|refine aj ?_|refine ac ?_))
 refine l5 (b:=ms) (m:=m2) (c:=c2) (enc:=iE) (val:=iS) (done:=done) rfl rfl rfl hit hfm1 hf.ok hdn ?_ ?_
 ·intro hp
  (repeat(first|refine aj ?_|refine ab ?_|refine aU rfl ?_|refine an rfl ?_|(apply eR;exact rfl;exact rfl;exact rfl;exact rfl)))
  ((apply dU Try.func48 (congrArg Array.toList Try.results48));(focus(repeat(exact ResIs.nil))))
  have hall: ∀ x∈m2,x.1∈done.map (·.1):=fun x hx=>List.mem_map_of_mem (hp.mem_iff.2 hx)
  have fl:Fl fn ms (fJ m2 (done.map (·.1))) c2 G3 H1:=
   ⟨(hold fn lf hf.nn).trans hfb,hfm1.trans (congrArg (fun l=>some (VO.map l c2)) (rC m2 _).symm),uW hf.ok _,hbig,hf.ne,fun hz=>hf.nn (hsub _ hz),fun hz=>hf.nm (hsub _ hz)⟩
  rw [← sO hall]
  refine⟨_,⟨mp,_,c,_,h.putFile hg hR hd hG fl hsub (by simp [fJ,kv]) (fun z hz=>?_),fun z=>Iff.rfl⟩,zJ _,fun z hz=>?_,fun z hz hn=>hold z hz fun e=>hn ((hF z).2 (.inr (.inr ((hG z).2 (.inl (.inr (.inr e)))))))⟩
  ·have hz2:z=d∨z=mp∨G z:=hz.imp id fun e=>e.imp id fun e=>(hG z).2 (.inr e)
   refine hold z (hlt z ((hF z).2 hz2)) fun e=>?_
   rcases hz with rfl|rfl|hz
   ·exact h.nd ((hG z).2 (.inl (.inr (.inr e))))
   ·exact h.nm ((hG z).2 (.inl (.inr (.inr e))))
   ·exact hd z (.inr (.inr e)) hz
  ·refine .inl ((hF z).2 ?_)
   rcases hz with hz|hz|(hz|hz|hz)|hz
   ·exact .inl hz
   ·exact .inr (.inl hz)
   ·exact .inr (.inr ((hG z).2 (.inl (.inl hz))))
   ·exact .inr (.inr ((hG z).2 (.inl (.inr (.inl hz)))))
   ·exact .inr (.inr ((hG z).2 (.inl (.inr (.inr (hsub z hz))))))
   ·exact .inr (.inr ((hG z).2 (.inr hz)))
 ·intro x hx hxn hdn2
  have hkn:x.1∉done.map (·.1):=fun e=>by
   obtain⟨y,hy,e⟩:=List.mem_map.1 e
   exact hxn (ln hf.ok.keys hx (hdn.2 y hy) e ▸ hy)
  have hget:=sN hf.ok.keys hx hkn
  have hnext:=rD hf.ok.keys hx hkn c2
  have hlen2:=dH _ m2 hdn2.1 hdn2.2
  rw [zE,List.length_singleton] at hlen2
  obtain⟨n,⟨q,s⟩,b⟩:=x
  dsimp only at hget hnext hkn
  obtain⟨F1,R1,hps,r1,r2,r3⟩:=Big.get hbig hget
  have g2: ∀ z,(F1 z∨R1 z)→G2 z∧z<nx:=fun z hz=>by
   have:=hsub z ((r3 z).2 hz)
   exact⟨this,hlt z ((hF z).2 (.inr (.inr ((hG z).2 (.inl (.inr (.inr this)))))))⟩
  have hps2:PS n (q,s) (H1.set nx (itV ms c2 (done ++ [(n,(q,s),b)]))) F1:=d9 _ _ _ _ _ hps fun z hz=>Tr.aa _ _ (by have:=(g2 z (.inl hz)).2;omega)
  obtain⟨v,GW,p1,p2,p3,p4⟩:=id hps2
  have hF1:F1 q:=(p4 q).2 (.inl rfl)
  have lq:q<nx:=(g2 q (.inl hF1)).2
  have hws:s.writes.length<1000000:=hw n s (by rw [kp,fv hf.ok.keys hx];rfl)
  dsimp only at p1
  (repeat(first|refine aj ?_|refine ac ?_|refine ab ?_|refine aD ?_|refine aE ?_|refine ar rfl ?_|(apply ai;exact rfl;exact rfl;exact rfl)|(apply ah;exact rfl;exact rfl;exact rfl)|(apply bM;exact rfl;exact rfl;exact rfl;exact rfl)|(apply aR;exact rfl;exact rfl;exact rfl)|(apply aJ;exact rfl;exact rfl;exact rfl;exact(F.fo _ _ rfl rfl))|(refine jL (b:=ms) (m:=m2) (c:=c2) (enc:=iE) (val:=iS) (x:=(n,(q,s),b)) (done:=done) rfl rfl rfl (Tr.ae _ _ _) ((Tr.aa _ _ (by omega)).trans hfm1) hf.ok hx ?_)|(refine aQ rfl rfl rfl (by kernel_rfl) (Fnc.mono (yT hps2 hws (Nat.lt_succ_of_lt lq) (fun z hz=>Nat.lt_succ_of_lt (g2 z (.inl hz)).2)) ?_);rintro _ rfl;dsimp only)))
  (repeat(first|(refine io rfl rfl rfl (F.sz _ rfl) p1 (bB _) (by rw [ff];exact zj rfl) (gk _) (th _ _ _) ?_)|((apply be;exact rfl;exact rfl;exact rfl;exact rfl;exact(F.sz _ rfl);exact(Tr.ae _ _ _);exact rfl;(focus(rw [ff];exact zA _));exact rfl))|refine ab ?_|refine ay ?_|(apply aR;exact rfl;exact rfl;exact rfl)|(apply aJ;exact rfl;exact rfl;exact rfl;exact(F.fo _ _ rfl rfl))))
  have hqn:q≠nx:=by omega
  have hR1: ∀ z,R1 z→z≠q∧z≠nx:=fun z hz=>⟨fun e=>r2 q hF1 (e ▸ hz),by have:=(g2 z (.inr hz)).2;omega⟩
  refine ih _ _ _ (done ++ [(n,(q,s),b)]) ⟨hdn2,rfl,by dsimp only;(focus((repeat(first|exact Tr.ae _ _ _|refine(Tr.aa _ _ (by omega)).trans ?_));done)),⟨fun z=>z=q∨R1 z,?_,fun z hz=>?_⟩,fun z hz hn=>?_⟩ (by simp only [zE,List.length_singleton];omega) (SlIn.sub (by repeat(first|exact trivial|refine⟨rfl,?_⟩)))
  ·rw [zF,zC,List.map_nil,←hnext]
   refine Big.put d9 hget c2 r1 ⟨.sc (.slice none 0 0),fun _=>False,(Tr.ae _ _ _).trans (congrArg (fun l=>some (ak _ l)) (gC _ _ _)),.inl ⟨rfl,rfl,fun _ h=>h⟩,fun h=>h,fun z=>by simp⟩ (fun z hz=>?_) (fun z hz hr=>?_)
   ·obtain⟨e1,e2⟩:=hR1 z hz
    dsimp only
    (focus((repeat(refine(Tr.aa _ _ (by omega)).trans ?_));exact rfl))
   ·exact(hR1 z hr).1 hz
  ·rcases hz with rfl|hz
   ·exact(g2 z (.inl hF1)).1
   ·exact(g2 z (.inr hz)).1
  ·have e1:z≠q:=fun e=>hn (e ▸ (g2 q (.inl hF1)).1)
   dsimp only
   refine Eq.trans ?_ (hold z hz hn)
   (focus((repeat(refine(Tr.aa _ _ (by omega)).trans ?_));exact rfl))
theorem wz{d:Nat}{D:DD}{Fp:Nat→Prop}{H:aK}{nx N:Nat}(hD:DAt d D Fp H)(hok:D.Ok N)(hN:N<1000000)(k:ByteArray)(hk:k.size≤140737488355328):Fnc Try.prog 27 [.ptr d 0,.sc (kE k)] H nx (x7 d (D.sync k).1 (.sc (.int .i64 (D.sync k).2)) Fp H nx):=by
 refine Fnc.start Try.func27 rfl rfl ?_
 refine b7 fun hund=>?_
 have hlt:=hD.lt hund
 (repeat(first|refine aj ?_|refine ac ?_|refine ab ?_|(apply ah;exact rfl;exact rfl;exact rfl)|(apply ky;exact rfl;exact rfl;exact rfl;exact rfl)|refine aH rfl rfl rfl (F.ag _ rfl) (by(repeat(first|exact Tr.ae _ _ _|refine(Tr.aa _ _ (by omega)).trans ?_));done) (by exact rfl) ?_))
 refine ee (R:=fun H1 n1=>n1=nx+1+1∧H1.at' nx=some (ak 25 [.ptr d 0])∧H1.at' (nx+1)=some (ak 9 [.sc (kE k)])∧ ∀ z,z<nx→H1.at' z=H.at' z) ⟨rfl,by(focus((repeat(first|exact Tr.ae _ _ _|refine(Tr.aa _ _ (by omega)).trans ?_));done)),by(focus((repeat(exact Tr.ae _ _ _));done)),fun z hz=>by(focus((repeat(refine(Tr.aa _ _ (by omega)).trans ?_));exact rfl))⟩ ?_
 rintro H1 n1 ⟨rfl,h0,h1,hold⟩
 have hD1:DAt d D Fp H1:=hD.frame fun z hz=>hold z (hlt z hz)
 have hFd:d<nx:=by
  obtain⟨mp,m,c,G,h,hF⟩:=hD
  exact hlt d ((hF d).2 (.inl rfl))
 clear hD
 (repeat(first|refine aj ?_|refine ac ?_|refine ab ?_|(apply ai;exact rfl;exact rfl;exact rfl)|(apply ah;exact rfl;exact rfl;exact rfl)|(refine aQ rfl rfl rfl (by kernel_rfl) (Fnc.mono (md hD1 k hk 0) ?_);rintro _ rfl;dsimp only)))
 (apply je;exact rfl;exact rfl;exact rfl;exact rfl)
 all_goals intro h4
 ·rw [show D.sync k=(D,D.look k 0) by unfold DD.sync;rw [if_pos (by omega)]]
  (repeat(first|refine aj ?_|refine ac ?_|refine ab ?_|refine ar rfl ?_|(apply ai;exact rfl;exact rfl;exact rfl)|(apply ah;exact rfl;exact rfl;exact rfl)))
  ((apply aS Try.func27 (congrArg Array.toList Try.results27));(focus(repeat(first|exact ResIs.nil|apply ResIs.tmp rfl))))
  exact⟨rfl,Fp,hD1,Stp.eF (n1:=nx+1+1) Stp.refl (by omega) hold⟩
 ·obtain⟨l,hl⟩:=mQ (n:=0) (show D.look k 0=0 by omega)
  rw [show D.sync k=D.change false fun D=>match a6 D.files k with
   | some m=>D.setFiles (cc D.files k (jO m))
   | none=>D by unfold DD.sync;rw [if_neg (by omega)];rfl]
  (repeat(first|refine aj ?_|refine ac ?_|refine ab ?_|refine aE ?_|refine an rfl ?_|(apply c8;exact rfl;exact rfl;exact rfl;exact rfl)|refine aH rfl rfl rfl (F.ag _ rfl) (by assumption) (by exact rfl) ?_))
  refine aQ rfl rfl rfl (by kernel_rfl) (Fnc.mono (jE hD1 hok hN false 48 [.ptr nx 0,.ptr (nx+1) 0] (fun D=>match a6 D.files k with
   | some m=>D.setFiles (cc D.files k (jO m))
   | none=>D) (by kernel_rfl) ?_) ?_)
  ·intro D1 H2 e1 e2 hA hkeep
   have hl1:a6 D1.files k=some l:=by rw [e1];exact hl
   simp only [hl1]
   exact xe hA k hl1 (fun n s hs=>by have:=hok.f.wr k l n s hl hs;omega) ((hkeep nx (by omega)).trans h0) ((hkeep (nx+1) (by omega)).trans h1)
  ·rintro⟨_,H2,n2⟩ ⟨rfl,F',hA,hS⟩
   dsimp only at hA hS ⊢
   (repeat(first|refine ab ?_|(apply ah;exact rfl;exact rfl;exact rfl)))
   ((apply aS Try.func27 (congrArg Array.toList Try.results27));(focus(repeat(first|exact ResIs.nil|apply ResIs.tmp rfl))))
   exact⟨rfl,F',hA,Stp.eF hS (by omega) hold⟩
section
variable {P:Program} {H:aK} {T:Tr SV} {nx:Nat}
variable {d:Option Tmp} {ty:TypeId} {pos:String} {af:Array Edge} {gd:Option (Nat×Bool)}
theorem vk{t:TypeId}{x y:Operand}{s:ByteArray}{k:IntKind}{i:Nat}{v:UInt8}(hx:ao T x=some (.sc (.string s)))(hy:ao T y=some (.sc (.int k (i:Int))))(hu:P.underlying t=some .string)(hv:s[i]? =some v) :
 ReadDoes P T H ⟨d,.index t x y,ty,pos,af,gd⟩ (.sc (.int .u8 v.toNat)):=by
 refine cu fun ev w he=>?_
 have e1:=he x _ hx _ rfl
 have e2:=he y _ hy _ rfl
 simp [execOp,e1,e2,Instr.index,asIntOf,run_underlying hu,hv]
end
section
variable {ro:Option Nat} {fn nt nx i:Nat} {T:Tr SV} {k:List AIt} {dfs:List ADf} {H:aK} {Q:Pst} {ops:Array Oper} {l:List Oper} {ty:TypeId} {pos:String} {af:Array Edge} {gd:Option (Nat×Bool)} {P:Program}
theorem sq{t:TypeId}{x y:Operand}{s:ByteArray}{kd:IntKind}{j:Nat}{v:UInt8}{dd:Nat}(hw:aq T ops ⟨some dd,.index t x y,ty,pos,af,gd⟩=some true)(hd:Nat.blt dd nt=true)(hx:ao T x=some (.sc (.string s)))(hy:ao T y=some (.sc (.int kd (j:Int))))(hu:P.underlying t=some .string)(hv:s[j]? =some v)
 (h:Wp P ro ⟨fn,nt,T.set dd (.sc (.int .u8 v.toNat)),.inReg ops (i+1) l :: k,dfs,H,nx⟩ Q):Wp P ro ⟨fn,nt,T,.inReg ops i (⟨some dd,.index t x y,ty,pos,af,gd⟩ :: l) :: k,dfs,H,nx⟩ Q:=
 bC hw (.inr (fun _ h=>by cases h)) ((vk hx hy hu hv).does) (by rw [aC hd];exact h)
end
theorem aw{A:Type} [Inhabited A](d:Array A)(i j:Nat):(Sort.swp d i j).size=d.size:=by simp [Sort.swp]
theorem qB{x:Int}{m:Nat}(hx:x=(m:Int)-1)(hm:m<4611686018427387904):IntKind.i64.wrap (x.tdiv 2)=(((m-1) / 2:Nat):Int):=by
 subst hx
 rcases Nat.eq_zero_or_pos m with rfl|h
 ·decide
 ·rw [Int.tdiv_eq_ediv_of_nonneg (by omega),zf _ ⟨by omega,by omega⟩]
  omega
def t4:Sort.Hint→Int
 | .unknown=>0
 | .increasing=>1
 | .decreasing=>2
theorem oK{h:Sort.Hint}:(t4 h == 2)=decide (h = .decreasing):=by cases h <;> rfl
theorem ww{m:Nat}(h:m<2 ^ 64):IntKind.u64.wrap ((m:Nat):Int)=(m:Int):=by
 rw [Go.IntWalk.u64_in _ ⟨by omega,by omega⟩]
theorem xorU{a b:Nat}(ha:a<18446744073709551616)(hb:b<18446744073709551616):r7 .xor .u64 (a:Int) (b:Int)=((a ^^^ b:Nat):Int):=by
 show IntKind.u64.wrap (((BitVec.ofInt 64 (a:Int) ^^^ BitVec.ofInt 64 (b:Int)).toNat:Nat):Int)=_
 rw [BitVec.toNat_xor,BitVec.ofInt_natCast,BitVec.ofInt_natCast,BitVec.toNat_ofNat,BitVec.toNat_ofNat,Nat.mod_eq_of_lt ha,Nat.mod_eq_of_lt hb,ww]
 exact Nat.xor_lt_two_pow ha hb
theorem andU{a b:Nat}(ha:a<18446744073709551616)(hb:b<18446744073709551616):r7 .and .u64 (a:Int) (b:Int)=((a &&& b:Nat):Int):=by
 show IntKind.u64.wrap (((BitVec.ofInt 64 (a:Int) &&& BitVec.ofInt 64 (b:Int)).toNat:Nat):Int)=_
 rw [BitVec.toNat_and,BitVec.ofInt_natCast,BitVec.ofInt_natCast,BitVec.toNat_ofNat,BitVec.toNat_ofNat,Nat.mod_eq_of_lt ha,Nat.mod_eq_of_lt hb,ww]
 exact Nat.and_lt_two_pow _ hb
theorem sh13(x:Nat):IntKind.u64.wrap ((x:Int)*2 ^ (min (Int.toNat 13) IntKind.u64.bits))=((x*8192 % 18446744073709551616:Nat):Int):=by
 have:(2:Int) ^ (min (Int.toNat 13) IntKind.u64.bits)=8192:=by decide
 rw [this,IntKind.wrap_u64]
 omega
theorem sh17(x:Nat):IntKind.u64.wrap ((x:Int)*2 ^ (min (Int.toNat 17) IntKind.u64.bits))=((x*131072 % 18446744073709551616:Nat):Int):=by
 have:(2:Int) ^ (min (Int.toNat 17) IntKind.u64.bits)=131072:=by decide
 rw [this,IntKind.wrap_u64]
 omega
theorem sh7(x:Nat):Int.fdiv (x:Int) (2 ^ (min (Int.toNat 7) IntKind.u64.bits))=((x / 128:Nat):Int):=by
 have:(2:Int) ^ (min (Int.toNat 7) IntKind.u64.bits)=128:=by decide
 rw [this,Int.fdiv_eq_ediv_of_nonneg _ (by decide)]
 omega
theorem sh8(x:Nat):Int.fdiv (x:Int) (2 ^ (min (Int.toNat 8) IntKind.u64.bits))=((x / 256:Nat):Int):=by
 have:(2:Int) ^ (min (Int.toNat 8) IntKind.u64.bits)=256:=by decide
 rw [this,Int.fdiv_eq_ediv_of_nonneg _ (by decide)]
 omega
abbrev xsO(x:Nat):VO:=ak 123 [.sc (.int .u64 (x:Int))]
theorem oB(x:Nat)(hx:x<18446744073709551616):Ctr Try.prog 85 [.ptr 0 0] [xsO x] (fun c=>c=⟨.sc (.int .u64 (Sort.xorNextN x:Int)),[some (xsO (Sort.xorNextN x))]⟩):=by
 have hA:x ^^^ (x*8192 % 18446744073709551616)<18446744073709551616:=Nat.xor_lt_two_pow (n:=64) (by omega) (by omega)
 have eA:=xorU (a:=x) (b:=x*8192 % 18446744073709551616) hx (by omega)
 have eC:Sort.xorNextN x=Sort.xorNextN x:=rfl
 conv at eC=>rhs;unfold Sort.xorNextN
 simp only at eC
 generalize x ^^^ (x*8192 % 18446744073709551616)=A at hA eA eC
 have hB:A ^^^ (A / 128)<18446744073709551616:=Nat.xor_lt_two_pow (n:=64) (by omega) (by omega)
 have eB:=xorU (a:=A) (b:=A / 128) hA (by omega)
 generalize A ^^^ (A / 128)=B at hB eB eC
 have eD:=xorU (a:=B) (b:=B*131072 % 18446744073709551616) hB (by omega)
 rw [← eC] at eD
 refine Fnc.start Try.func85 rfl rfl ?_
 (repeat(first|refine aj ?_|refine ac ?_|refine ab ?_|refine ah rfl rfl rfl ?_))
 refine aT (by kernel_rfl) (by kernel_rfl) ?_
 (repeat(first|refine ax rfl rfl rfl ?_|refine bl rfl rfl rfl ?_|refine cE rfl rfl rfl (F.ag _ rfl) rfl rfl ?_|refine lB rfl rfl rfl (F.sz _ rfl) rfl rfl rfl ?_|(refine uh rfl rfl rfl rfl (by decide) (sh13 x) ?_)|(refine qb rfl rfl rfl rfl (.inr (.inr (.inl rfl))) eA ?_)))
 (refine aF ?_);(refine⟨by kernel_rfl,?_,?_⟩);(focus(repeat(first|exact trivial|refine⟨.inl rfl,?_⟩|refine⟨.inr (by(repeat(refine⟨(by first|exact aB rfl|exact bv rfl),?_⟩));exact trivial),?_⟩|refine⟨.inl (by kernel_rfl),?_⟩)))
 (repeat(refine aj ?_))
 refine aT (by kernel_rfl) (by kernel_rfl) ?_
 (repeat(first|refine ax rfl rfl rfl ?_|refine bl rfl rfl rfl ?_|refine cE rfl rfl rfl (F.ag _ rfl) rfl rfl ?_|refine lB rfl rfl rfl (F.sz _ rfl) rfl rfl rfl ?_|(refine xS rfl rfl rfl rfl (by decide) (sh7 A) ?_)|(refine qb rfl rfl rfl rfl (.inr (.inr (.inl rfl))) eB ?_)))
 (refine aF ?_);(refine⟨by kernel_rfl,?_,?_⟩);(focus(repeat(first|exact trivial|refine⟨.inl rfl,?_⟩|refine⟨.inr (by(repeat(refine⟨(by first|exact aB rfl|exact bv rfl),?_⟩));exact trivial),?_⟩|refine⟨.inl (by kernel_rfl),?_⟩)))
 (repeat(refine aj ?_))
 refine aT (by kernel_rfl) (by kernel_rfl) ?_
 (repeat(first|refine ax rfl rfl rfl ?_|refine bl rfl rfl rfl ?_|refine cE rfl rfl rfl (F.ag _ rfl) rfl rfl ?_|refine lB rfl rfl rfl (F.sz _ rfl) rfl rfl rfl ?_|(refine uh rfl rfl rfl rfl (by decide) (sh17 B) ?_)|(refine qb rfl rfl rfl rfl (.inr (.inr (.inl rfl))) eD ?_)))
 (refine aF ?_);(refine⟨by kernel_rfl,?_,?_⟩);(focus(repeat(first|exact trivial|refine⟨.inl rfl,?_⟩|refine⟨.inr (by(repeat(refine⟨(by first|exact aB rfl|exact bv rfl),?_⟩));exact trivial),?_⟩|refine⟨.inl (by kernel_rfl),?_⟩)))
 (repeat(first|refine aj ?_|refine ac ?_|refine ab ?_|refine ai rfl rfl rfl ?_|refine ah rfl rfl rfl ?_|refine aR rfl rfl rfl ?_|refine aH rfl rfl rfl (F.ag _ rfl) rfl rfl ?_))
 ((apply aS Try.func85 (congrArg Array.toList Try.results85));(focus(repeat(first|exact ResIs.nil|apply ResIs.tmp rfl)));refine⟨_,rfl,Ends.mk [] (ExtOk.of rfl) rfl rfl ?_⟩)
 exact(by repeat(first|exact trivial|refine⟨ca rfl,?_⟩))
def yy(s:ByteArray):Bool:=(List.range 256).all fun i=>match s[i]? with
 | some v=>v.toNat == Sort.bitsLen i
 | none=>false
theorem wx{s:ByteArray}(h:yy s=true){i:Nat}(hi:i<256):s[i]? =some (UInt8.ofNat (Sort.bitsLen i)):=by
 unfold yy at h
 rw [List.all_eq_true] at h
 have:=h i (List.mem_range.2 hi)
 split at this
 ·rename_i v hv
  rw [hv,←(beq_iff_eq.1 this),UInt8.ofNat_toNat]
 ·cases this
theorem v4(x:Nat)(h:256≤x):Sort.bitsLen x=8+Sort.bitsLen (x / 256):=by
 have key: ∀ k,Sort.bitsLen (x / 256)≤k↔Sort.bitsLen x≤k+8:=fun k=>by
  rw [Sort.bitsLen_le_iff,Sort.bitsLen_le_iff,Nat.pow_add,Nat.div_lt_iff_lt_mul (by decide)]
 have h8: ¬ Sort.bitsLen x≤7:=by
  rw [Sort.bitsLen_le_iff]
  omega
 have h1:=(key (Sort.bitsLen (x / 256))).1 (zA _)
 have h2:=(key (Sort.bitsLen x-8)).2 (by omega)
 omega
theorem kw{x:Nat}(h:x<65536):Sort.bitsLen x≤16:=(Sort.bitsLen_le_iff x 16).2 h
theorem yx{x:Nat}(h:x<65536):IntKind.i64.wrap (((UInt8.ofNat (Sort.bitsLen x)).toNat:Nat):Int)=(Sort.bitsLen x:Int):=by
 have:=kw h
 rw [UInt8.toNat_ofNat',Nat.mod_eq_of_lt (by omega),zf _ ⟨by omega,by omega⟩]
theorem rV(x:Nat)(hx:x<65536):Ctr Try.prog 73 [.sc (.int .u64 (x:Int))] [] (fun c=>c=⟨.sc (.int .i64 (Sort.bitsLen x:Int)),[]⟩):=by
 have h16:=kw hx
 refine Fnc.start Try.func73 rfl rfl ?_
 (repeat(first|refine aj ?_|refine ac ?_|refine ab ?_|refine ai rfl rfl rfl ?_|refine ah rfl rfl rfl ?_))
 refine cw rfl rfl rfl rfl ?_ ?_
 all_goals intro h1
 ·exact absurd h1 (by omega)
 (repeat(first|refine aj ?_|refine ac ?_|refine ab ?_|refine aE ?_|refine an rfl ?_|refine ai rfl rfl rfl ?_))
 refine cw rfl rfl rfl rfl ?_ ?_
 all_goals intro h2
 ·exact absurd h2 (by omega)
 (repeat(first|refine aj ?_|refine ac ?_|refine ab ?_|refine aE ?_|refine an rfl ?_|refine ai rfl rfl rfl ?_))
 refine cw rfl rfl rfl rfl ?_ ?_
 all_goals intro h3
 ·have h17:=kw (x:=x / 256) (by omega)
  (repeat(first|refine aj ?_|refine ac ?_|refine ab ?_|refine ar rfl ?_|refine ai rfl rfl rfl ?_|refine ah rfl rfl rfl ?_|refine bj rfl rfl rfl rfl (by omega) (by omega) ?_|(refine ym rfl rfl rfl rfl (by decide) (sh8 x) ?_)|refine gI rfl rfl rfl (F.un _ rfl) (F.un _ rfl) (show _=((x / 256:Nat):Int)from Go.IntWalk.u8_in _ ⟨by omega,by omega⟩) ?_|(refine sq rfl rfl rfl rfl (F.un _ rfl) (wx (by kernel_rfl) (show x / 256<256 by omega)) ?_)|refine gI rfl rfl rfl (F.un _ rfl) (F.un _ rfl) (yx (x:=x / 256) (by omega)) ?_))
  rw [v4 x (by omega)]
  (apply aS Try.func73 (congrArg Array.toList Try.results73);(focus(repeat(first|exact ResIs.nil|apply ResIs.tmp rfl))))
  (refine⟨_,rfl,Ends.val (ExtOk.of rfl) rfl ?_ ?_⟩)
  ·simp
  ·trivial
 ·(repeat(first|refine aj ?_|refine ac ?_|refine ab ?_|refine aE ?_|refine an rfl ?_|refine ai rfl rfl rfl ?_|refine ah rfl rfl rfl ?_|refine bj rfl rfl rfl rfl (by omega) (by omega) ?_|refine gI rfl rfl rfl (F.un _ rfl) (F.un _ rfl) (show _=(x:Int)from Go.IntWalk.u8_in _ ⟨by omega,by omega⟩) ?_|(refine sq rfl rfl rfl rfl (F.un _ rfl) (wx (by kernel_rfl) (show x<256 by omega)) ?_)|refine gI rfl rfl rfl (F.un _ rfl) (F.un _ rfl) (yx (x:=x) (by omega)) ?_))
  (apply aS Try.func73 (congrArg Array.toList Try.results73);(focus(repeat(first|exact ResIs.nil|apply ResIs.tmp rfl))))
  (refine⟨_,rfl,Ends.val (ExtOk.of rfl) rfl ?_ ?_⟩)
  ·simp
  ·trivial
theorem mS(x:Nat)(hx:x<65536):Ctr Try.prog 60 [.sc (.int .u64 (x:Int))] [] (fun c=>c=⟨.sc (.int .i64 (Sort.bitsLen x:Int)),[]⟩):=by
 refine Fnc.start Try.func60 rfl rfl ?_
 (repeat(first|refine aj ?_|refine ac ?_|refine ab ?_|refine aE ?_|refine an rfl ?_|refine ai rfl rfl rfl ?_|refine ah rfl rfl rfl ?_|refine gJ (rV x hx) [] rfl rfl rfl (by kernel_rfl) rfl (ExtOk.of rfl) rfl trivial ?_))
 (apply aS Try.func60 (congrArg Array.toList Try.results60);(focus(repeat(first|exact ResIs.nil|apply ResIs.tmp rfl))))
 (refine⟨_,rfl,Ends.val (ExtOk.of rfl) rfl ?_ ?_⟩)
 ·rfl
 ·trivial
theorem yH{k:Nat}(h:k≤16):IntKind.u64.wrap ((1:Int)*2 ^ (min (Int.toNat (k:Int)) IntKind.u64.bits))=((2 ^ k:Nat):Int):=by
 have: ∀ k:Fin 17,IntKind.u64.wrap ((1:Int)*2 ^ (min (Int.toNat (k.val:Int)) IntKind.u64.bits))=((2 ^ k.val:Nat):Int):=by decide
 exact this ⟨k,by omega⟩
theorem nP(x:Nat)(hx:x<65536):Ctr Try.prog 84 [.sc (.int .i64 (x:Int))] [] (fun c=>c=⟨.sc (.int .u64 ((2 ^ Sort.bitsLen x:Nat):Int)),[]⟩):=by
 refine Fnc.start Try.func84 rfl rfl ?_
 (repeat(first|refine aj ?_|refine ac ?_|refine ab ?_|refine ai rfl rfl rfl ?_|refine ah rfl rfl rfl ?_|refine gI rfl rfl rfl (F.un _ rfl) (F.un _ rfl) (show _=(x:Int)from Go.IntWalk.u64_in _ ⟨by omega,by omega⟩) ?_|refine gJ (mS x hx) [] rfl rfl rfl (by kernel_rfl) rfl (ExtOk.of rfl) rfl trivial ?_|(refine yn rfl rfl rfl rfl (by omega) (yH (kw hx)) ?_)))
 (apply aS Try.func84 (congrArg Array.toList Try.results84);(focus(repeat(first|exact ResIs.nil|apply ResIs.tmp rfl))))
 (refine⟨_,rfl,Ends.val (ExtOk.of rfl) rfl ?_ ?_⟩)
 ·rfl
 ·trivial
abbrev oSV:ByteArray→List Value:=fun x=> [.string x]
abbrev bG(n:Nat)(d:Array ByteArray):VO:=arr false n 1 9 oSV d
def bi(x y:ByteArray):Bool:=bLt x y
theorem oSnan(a:ByteArray):Ctr Try.prog 88 [.sc (.string a)] [] (fun c=>c=⟨.sc (.bool false),[]⟩):=by
 refine Fnc.start Try.func88 rfl rfl ?_
 (repeat(first|refine aj ?_|refine ac ?_|refine ab ?_|refine ai rfl rfl rfl ?_|refine ah rfl rfl rfl ?_|(refine uM rfl rfl rfl rfl (show(a != a)=false by rw [show(a != a) = !(a == a)from rfl,(MapKept.bytes_beq a a).2 rfl];rfl) ?_)))
 (apply aS Try.func88 (congrArg Array.toList Try.results88);(focus(repeat(first|exact ResIs.nil|apply ResIs.tmp rfl))))
 (refine⟨_,rfl,Ends.val (ExtOk.of rfl) rfl ?_ ?_⟩)
 ·rfl
 ·trivial
theorem ew(a b:ByteArray):Ctr Try.prog 69 [.sc (.string a),.sc (.string b)] [] (fun c=>c=⟨.sc (.bool (bi a b)),[]⟩):=by
 refine Fnc.start Try.func69 rfl rfl ?_
 (repeat(first|refine aj ?_|refine ac ?_|refine ab ?_|refine ai rfl rfl rfl ?_|refine ah rfl rfl rfl ?_|refine ci rfl rfl rfl rfl ?_|refine jK rfl ?_|refine gJ (oSnan _) [] rfl rfl rfl (by kernel_rfl) rfl (ExtOk.of rfl) rfl trivial ?_|(refine wX rfl rfl rfl rfl rfl ?_)))
 (apply aS Try.func69 (congrArg Array.toList Try.results69);(focus(repeat(first|exact ResIs.nil|apply ResIs.tmp rfl))))
 (refine⟨_,rfl,Ends.val (ExtOk.of rfl) rfl ?_ ?_⟩)
 ·rfl
 ·trivial
theorem oSins(n a b:Nat)(d:Array ByteArray)(hn:n<4611686018427387904)(hd:d.size=n)(hab:a≤b)(hb:b≤n) :
 Ctr Try.prog 63 [.slu 0 0 n,.sc (.int .i64 (a:Int)),.sc (.int .i64 (b:Int))] [bG n d] (fun c=>c=⟨.tup [],[some (bG n (Sort.insertionSort bi d a b))]⟩):=by
 refine Fnc.start Try.func63 rfl rfl ?_
 (repeat(first|refine aj ?_|refine ac ?_|refine ab ?_|refine aD ?_|refine ai rfl rfl rfl ?_|refine ah rfl rfl rfl ?_|refine bj rfl rfl rfl rfl (by omega) (by omega) ?_))
 refine ct 1 (fun s:Nat×Array ByteArray=> [(0,.slu 0 0 n),(1,.sc (.int .i64 (a:Int))),(2,.sc (.int .i64 (b:Int))),(6,.sc (.int .i64 (s.1:Int)))]) (fun s=> [some (bG n s.2)]) (fun s=>s.1≤n+1∧a<s.1∧s.2.size=n∧Sort.insOuter bi a b s.1 s.2=Sort.insertionSort bi d a b) (fun s=>n+1-s.1) (a+1,d) []
  (fun _=>rfl) ⟨by omega,by omega,hd,rfl⟩ ?_ (fun _=>rfl) (fun _=>rfl) ?_
 ·(refine⟨(ExtOk.of rfl),rfl,(by repeat(first|exact trivial|refine⟨rfl,?_⟩)),(by repeat(first|exact trivial|refine⟨am rfl,?_⟩))⟩)
 rintro⟨i,d1⟩ ⟨hi,hai,hd1,ho⟩ ih
 simp only at hi hai hd1 ho ih ⊢
 (repeat(first|refine aj ?_|refine ac ?_|refine ai rfl rfl rfl ?_))
 refine cF rfl rfl rfl rfl ?_ ?_
 all_goals intro h1
 ·(repeat(first|refine aj ?_|refine ac ?_|refine ab ?_|refine aD ?_|refine aE ?_|refine ar rfl ?_|refine ai rfl rfl rfl ?_|refine ah rfl rfl rfl ?_))
  have ho2:Sort.insOuter bi a b (i+1) (Sort.insInner bi a i d1)=Sort.insertionSort bi d a b:=by
   rw [← ho]
   conv=>rhs;rw [Sort.insOuter,if_pos (by omega)]
  refine ct 1 (fun s:Nat×Array ByteArray=> [(0,.slu 0 0 n),(1,.sc (.int .i64 (a:Int))),(2,.sc (.int .i64 (b:Int))),(6,.sc (.int .i64 (i:Int))),(7,.sc (.int .i64 (s.1:Int)))]) (fun s=> [some (bG n s.2)]) (fun s=>s.1≤i∧s.2.size=n∧Sort.insInner bi a s.1 s.2=Sort.insInner bi a i d1) (fun s=>s.1) (i,d1) []
   (fun _=>rfl) ⟨by omega,hd1,rfl⟩ ?_ (fun _=>rfl) (fun _=>rfl) ?_
  ·(refine⟨(ExtOk.of rfl),rfl,(by repeat(first|exact trivial|refine⟨rfl,?_⟩)),(by repeat(first|exact trivial|refine⟨am rfl,?_⟩))⟩)
  rintro⟨j,d2⟩ ⟨hj,hd2,hin⟩ ihj
  simp only at hj hd2 hin ihj ⊢
  (repeat(refine aj ?_))
  refine aT (by kernel_rfl) (by kernel_rfl) ?_
  (repeat(refine ax rfl rfl rfl ?_))
  refine ja rfl rfl rfl rfl ?_ ?_
  all_goals intro h2
  ·obtain⟨j,rfl⟩: ∃ j',j=j'+1:=⟨j-1,by omega⟩
   have hls:=ew d2[j+1]! d2[j]!
   cases h3:bi d2[j+1]! d2[j]!
   all_goals rw [h3] at hls
   all_goals(repeat(first|refine ax rfl rfl rfl ?_|refine bK rfl rfl rfl rfl ?_|refine cD rfl rfl rfl rfl (by omega) (by omega) ?_|refine au (q:=j+1) rfl rfl rfl rfl (F.un _ rfl) (F.sz _ rfl) rfl (by omega) (by omega) (by omega) ?_|refine au (q:=j) rfl rfl rfl rfl (F.un _ rfl) (F.sz _ rfl) rfl (by omega) (by omega) (by omega) ?_|(refine ba (g:=fun x:ByteArray=> .string x) rfl rfl rfl (F.ag _ rfl) rfl (by omega) (by omega) ?_)|refine aY rfl rfl rfl (by kernel_rfl) (Ctr.callV (hls) [] rfl (ExtOk.of rfl) rfl trivial rfl) ?_))
   ·(refine aF ?_);(refine⟨by kernel_rfl,?_,?_⟩);(focus(repeat(first|exact trivial|refine⟨.inl rfl,?_⟩|refine⟨.inr (by(repeat(refine⟨(by first|exact aG (F.un _ rfl) (F.sz _ rfl) rfl rfl rfl (by omega) (by omega) (by omega)|exact aL rfl rfl (.inr (.inl ⟨rfl,(zf _ ⟨by omega,by omega⟩).symm⟩))|exact aB rfl|exact aX rfl rfl),?_⟩));exact trivial),?_⟩|refine⟨.inl (by kernel_rfl),?_⟩)))
    (repeat(first|refine ac ?_|refine ab ?_|refine ay ?_|refine aU rfl ?_|refine an rfl ?_|refine ai rfl rfl rfl ?_|refine ah rfl rfl rfl ?_|refine bj rfl rfl rfl rfl (by omega) (by omega) ?_))
    have hin2:Sort.insInner bi a i d1=d2:=by
     rw [← hin,Sort.insInner,if_neg (by rw [h3];simp)]
    refine ih _ _ _ (i+1,d2) [] ⟨by omega,by omega,hd2,by rw [← hin2];exact ho2⟩ (by simp only;omega) ?_
    (refine⟨(ExtOk.of rfl),rfl,(by repeat(first|exact trivial|refine⟨rfl,?_⟩)),(by repeat(first|exact trivial|refine⟨am rfl,?_⟩))⟩)
   ·(refine aF ?_);(refine⟨by kernel_rfl,?_,?_⟩);(focus(repeat(first|exact trivial|refine⟨.inl rfl,?_⟩|refine⟨.inr (by(repeat(refine⟨(by first|exact aG (F.un _ rfl) (F.sz _ rfl) rfl rfl rfl (by omega) (by omega) (by omega)|exact aL rfl rfl (.inr (.inl ⟨rfl,(zf _ ⟨by omega,by omega⟩).symm⟩))|exact aB rfl|exact aX rfl rfl),?_⟩));exact trivial),?_⟩|refine⟨.inl (by kernel_rfl),?_⟩)))
    (repeat(first|refine aj ?_|refine aD ?_|refine aE ?_|refine ar rfl ?_))
    refine aT (by kernel_rfl) (by kernel_rfl) ?_
    (repeat(first|refine ax rfl rfl rfl ?_|refine cD rfl rfl rfl rfl (by omega) (by omega) ?_|refine au (q:=j+1) rfl rfl rfl rfl (F.un _ rfl) (F.sz _ rfl) rfl (by omega) (by omega) (by omega) ?_|refine au (q:=j) rfl rfl rfl rfl (F.un _ rfl) (F.sz _ rfl) rfl (by omega) (by omega) (by omega) ?_|(refine ba (g:=fun x:ByteArray=> .string x) rfl rfl rfl (F.ag _ rfl) rfl (by omega) (by omega) ?_)|(refine bU (g:=fun x:ByteArray=> .string x) rfl rfl rfl (fun _=>rfl) (F.sz _ rfl) rfl (by first|omega|(simp only [zg,aw];omega)) (by first|omega|(simp only [zg,aw];omega)) ?_)))
    (refine aF ?_);(refine⟨by kernel_rfl,?_,?_⟩);(focus(repeat(first|exact trivial|refine⟨.inl rfl,?_⟩|refine⟨.inr (by(repeat(refine⟨(by first|exact aG (F.un _ rfl) (F.sz _ rfl) rfl rfl rfl (by omega) (by omega) (by omega)|exact aL rfl rfl (.inr (.inl ⟨rfl,(zf _ ⟨by omega,by omega⟩).symm⟩))|exact aB rfl),?_⟩));exact trivial),?_⟩|refine⟨.inl (by kernel_rfl),?_⟩)))
    (repeat(first|refine ac ?_|refine ab ?_|refine ay ?_|refine ai rfl rfl rfl ?_|refine ah rfl rfl rfl ?_|refine bN rfl rfl rfl rfl (by omega) (by omega) ?_))
    refine ihj _ _ _ (j,Sort.swp d2 (j+1) j) [] ⟨by omega,by rw [aw];exact hd2,?_⟩ (by simp only;omega) ?_
    ·rw [← hin]
     conv=>rhs;rw [Sort.insInner,if_pos (by simp only [h3,zy,decide_eq_true_eq,and_true];omega)]
    ·(refine⟨(ExtOk.of rfl),rfl,(by repeat(first|exact trivial|refine⟨rfl,?_⟩|refine⟨cp (by(omega)),?_⟩)),(by repeat(first|exact trivial|refine⟨am rfl,?_⟩))⟩)
  ·(repeat(first|refine ax rfl rfl rfl ?_|refine bL rfl rfl rfl rfl ?_|refine cd rfl rfl ?_))
   (refine aF ?_);(refine⟨by kernel_rfl,?_,?_⟩);(focus(repeat(first|exact trivial|refine⟨.inl rfl,?_⟩)))
   (repeat(first|refine ac ?_|refine ab ?_|refine ay ?_|refine aU rfl ?_|refine an rfl ?_|refine ai rfl rfl rfl ?_|refine ah rfl rfl rfl ?_|refine bj rfl rfl rfl rfl (by omega) (by omega) ?_))
   have hin2:Sort.insInner bi a i d1=d2:=by
    rw [← hin]
    cases j with
    | zero=>rfl
    | succ j=>rw [Sort.insInner,if_neg (by simp only [zy,decide_eq_true_eq];omega)]
   refine ih _ _ _ (i+1,d2) [] ⟨by omega,by omega,hd2,by rw [← hin2];exact ho2⟩ (by simp only;omega) ?_
   (refine⟨(ExtOk.of rfl),rfl,(by repeat(first|exact trivial|refine⟨rfl,?_⟩)),(by repeat(first|exact trivial|refine⟨am rfl,?_⟩))⟩)
 ·(repeat(first|refine ab ?_|refine aU rfl ?_|refine an rfl ?_))
  have ho2:d1=Sort.insertionSort bi d a b:=by rw [← ho,Sort.insOuter,if_neg (by omega)]
  (apply dU Try.func63 (congrArg Array.toList Try.results63);(focus(repeat(exact ResIs.nil)));refine⟨_,rfl,Ends.mk [] (ExtOk.of rfl) rfl rfl ?_⟩)
  rw [← ho2]
  exact(by repeat(first|exact trivial|refine⟨am rfl,?_⟩))
end Go.Proofs.Ytbmekelkddllkaa
end
