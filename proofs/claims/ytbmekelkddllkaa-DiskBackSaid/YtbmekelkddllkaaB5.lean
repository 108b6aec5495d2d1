import Derived.Sort.AssemblyPlain
import Derived.Sort.LotD5
import Derived.Test.YtbmekelkddllkaaB4
set_option linter.unusedVariables false
set_option linter.unusedSimpArgs false
set_option maxRecDepth 100000
set_option maxHeartbeats 0
section
namespace Go.Proofs.Ytbmekelkddllkaa
open Go Go.Sy Go.Sl Go.RowKit
theorem uX{m:List (Int×Sec)}: ∀ x∈m,x.1+1≤rC m:=by
 induction m with
 | nil=>intro x hx;cases hx
 | cons y m ih=>
   intro x hx
   unfold rC
   rcases List.mem_cons.1 hx with rfl|hx
   ·split <;> omega
   ·have:=ih x hx
    split <;> omega
theorem iv{l:List (ByteArray×List (Int×Sec))}(hn:(l.map (·.1)).Nodup):cd l=((l.map (·.1)).map fun k=>((aV l k).map List.length).getD 0).sum:=by
 unfold cd
 rw [List.map_map]
 refine congrArg List.sum (List.map_congr_left fun x hx=>?_)
 have:aV l x.1=some x.2:=mM hn hx
 simp [this]
theorem nF{l m:List Nat}(h:l.Perm m):l.sum=m.sum:=by
 induction h with
 | nil=>rfl
 | cons x _ ih=>simp [ih]
 | swap x y l=>simp only [List.sum_cons];omega
 | trans _ _ h1 h2=>exact h1.trans h2
structure StepT where
 kind:Int
 n:Int
 name:ByteArray
 to:ByteArray
 b:Nat
 picks:List Int
def DD.Act(D:DD)(s:StepT)(e:Int)(D':DD):Prop:=
 if s.kind=1 then(D',e)=D.make s.name
 else if s.kind=2 then(D',e)=D.write s.name s.n (Sct.full s.b)
 else if s.kind=3 then(D',e)=D.sync s.name
 else if s.kind=4 then(D',e)=D.remove s.name
 else if s.kind=5 then(D',e)=D.rename s.name s.to
 else if s.kind=6 then(D',e)=(D.lay' s.n,0)
 else if s.kind=7 then e=0∧D.Lost s.picks.isEmpty D'
 else if s.kind=8 then(D',e)=D.spoil s.name s.n (Sct.full s.b)
 else(D',e)=(D,0)
structure Rooms (D D':DD) (s:StepT) (e:Int) (N:Nat):Prop where
 ok:D'.Ok (N+1)
 cap:D'.cap=D.cap
 lays:(s.kind=2∨s.kind=8)→e=0→(D'.used=D.used∨D'.used=D.used+1)∧s.n<D'.count s.name
 full:(s.kind=2∨s.kind=8)→e=5→D.used=D.cap
 lost:s.kind=7→D'.used=D.used
 dead:D.dead=true→1≤s.kind→s.kind<6→e≠0
theorem DD.Lost.get{no:Bool}{D D':DD}(h:D.Lost no D'){k:ByteArray}{m':List (Int×Sec)}(hg:aV D'.files k=some m'): ∃ m,aV D.files k=some m∧(m'.map (·.1)).Perm (m.map (·.1))∧ ∀ n s,aV m n=some s→ ∃ s',aV m' n=some s'∧lost no s s':=by
 have hk:k∈D.files.map (·.1):=h.keys.subset (du hg)
 obtain⟨m,hm⟩:=d8 hk
 obtain⟨m2,h1,h2,h3⟩:=h.secs k m hm
 rw [hg] at h1
 cases h1
 exact⟨m,hm,h2,h3⟩
theorem DD.Lost.back{no:Bool}{m m':List (Int×Sec)}(hk:(m'.map (·.1)).Perm (m.map (·.1)))(hs: ∀ n s,aV m n=some s→ ∃ s',aV m' n=some s'∧lost no s s'){n:Int}{s':Sec}(hg:aV m' n=some s'): ∃ s,aV m n=some s∧lost no s s':=by
 obtain⟨s,h⟩:=d8 (hk.subset (du hg))
 obtain⟨s2,h1,h2⟩:=hs n s h
 rw [hg] at h1
 cases h1
 exact⟨s,h,h2⟩
theorem DD.Lost.used{no:Bool}{D D':DD}(h:D.Lost no D')(hn:(D.files.map (·.1)).Nodup):D'.used=D.used:=by
 unfold DD.used
 rw [iv hn,iv ((h.keys.nodup_iff).2 hn),nF (h.keys.map _)]
 refine congrArg List.sum (List.map_congr_left fun k hk=>?_)
 obtain⟨m,hm⟩:=d8 hk
 obtain⟨m',h1,h2,_⟩:=h.secs k m hm
 have:=h2.length_eq
 simp only [List.length_map] at this
 simp [hm,h1,this]
theorem DD.Lost.ok{no:Bool}{D D':DD}{N:Nat}(h:D.Lost no D')(H:D.Ok N):D'.Ok N:=by
 refine⟨⟨(h.keys.nodup_iff).2 H.f.ndF,fun k m' hm=>?_,fun k m' hm x hx=>?_,fun k m' hm=>?_,?_,?_,?_,fun k m' n s' hm hs=>?_⟩,by rw [h.changes];exact zA _,by rw [h.fuse];omega,by rw [h.cap];exact H.cap⟩
 ·obtain⟨m,h1,h2,_⟩:=h.get hm
  exact(h2.nodup_iff).2 (H.f.ndS k m h1)
 ·obtain⟨m,h1,h2,_⟩:=h.get hm
  obtain⟨y,hy,hyx⟩:=List.mem_map.1 (h2.subset (List.mem_map_of_mem hx))
  have:=H.f.num k m h1 y hy
  rw [hyx] at this
  exact this
 ·obtain⟨m,h1,_⟩:=h.get hm
  exact H.f.name k m h1
 ·have:=h.keys.length_eq
  simp only [List.length_map] at this
  rw [this];exact H.f.few
 ·have:=h.used H.f.ndF
  have:=H.f.used
  unfold DD.used at *
  omega
 ·have:=h.used H.f.ndF
  have:=H.f.room
  unfold DD.used at *
  rw [h.cap]
  omega
 ·obtain⟨m,h1,h2,h3⟩:=h.get hm
  obtain⟨s,_,h5⟩:=DD.Lost.back h2 h3 hs
  rw [h5.1]
  exact zA _
theorem DD.Ok.mono{D:DD}{N M:Nat}(h:D.Ok N)(hN:N≤M):D.Ok M:=⟨h.f.mono hN,zH h.chg hN,h.fuse,h.cap⟩
theorem DD.d7{D:DD}{wr:Bool}{g:DD→DD}{Q:DD→Int→Prop}(hd:D.dead=true→Q D 8)(hl:D.dead=false→D.fuse=0→wr=false→Q {D with dead:=true,changes:=D.changes+1} 8)
 (hw:D.dead=false→D.fuse=0→wr=true→Q (g {D with dead:=true,changes:=D.changes+1}) 8) (hg:D.dead=false→D.fuse≠0→Q (g {D with fuse:=if 0<D.fuse then D.fuse-1 else D.fuse,changes:=D.changes+1}) 0):Q (D.change wr g).1 (D.change wr g).2:=by
 unfold DD.change
 split
 ·rename_i h;exact hd h
 ·rename_i h
  have h':D.dead=false:=by simpa using h
  split
  ·rename_i hf
   cases wr with
   | true=>exact hw h' hf rfl
   | false=>exact hl h' hf rfl
  ·rename_i hf;exact hg h' hf
theorem DD.Ok.files{D D':DD}{N M:Nat}(h:D.Ok N)(hN:N<M)(hf:Fok D'.files D.cap M)(hc:D'.cap=D.cap)(hfu:D'.fuse=D.fuse∨D'.fuse=if 0<D.fuse then D.fuse-1 else D.fuse)(hch:D'.changes=D.changes∨D'.changes=D.changes+1):D'.Ok M:=by
 have h1:=h.chg
 have h2:=h.fuse
 refine⟨by rw [hc];exact hf,by omega,?_,by rw [hc];exact h.cap⟩
 rcases hfu with e|e
 ·rw [e];exact h2
 ·rw [e];split <;> omega
theorem mR{D:DD}{k:ByteArray}{n:Int}(h:D.look k n=0):jf k=true∧0≤n∧n<65536∧ ∃ m,aV D.files k=some m:=by
 unfold DD.look at h
 split at h
 ·cases h
 ·rename_i h1
  split at h
  ·cases h
  ·rename_i h2
   refine⟨?_,by omega,by omega,?_⟩
   ·cases hk:jf k with
    | true=>rfl
    | false=>exact absurd (.inl hk) h1
   ·cases hm:aV D.files k with
    | none=>exact absurd hm h2
    | some m=>exact⟨m,rfl⟩
theorem qL{D:DD}{k:ByteArray}{n:Int}(h:D.look k n≠0):D.look k n=2∨D.look k n=6:=by
 unfold DD.look at h ⊢
 split
 ·exact .inl rfl
 ·rename_i h1
  rw [if_neg h1] at h
  split
  ·exact .inr rfl
  ·rename_i h2;rw [if_neg h2] at h;exact absurd rfl h
theorem lz{D D1:DD}{N:Nat}(h:D.Ok N){k:ByteArray}{n:Int}(hl:D.look k n=0)(hf:D.fits k n=true){f:Sec→Sec}(hs: ∀ s,(s=Sec.zero∨ ∃ m,aV D.files k=some m∧aV m n=some s)→(f s).writes.length≤N+1)(h1:D1.files=D.files)(h2:D1.cap=D.cap)(h3:D1.fuse=D.fuse∨D1.fuse=if 0<D.fuse then D.fuse-1 else D.fuse)(h4:D1.changes=D.changes∨D1.changes=D.changes+1) :
 (D1.lay k n f).Ok (N+1)∧(D1.lay k n f).cap=D.cap∧((D1.lay k n f).used=D.used∨(D1.lay k n f).used=D.used+1)∧n<(D1.lay k n f).count k:=by
 obtain⟨a1,a2,a3,m,hm⟩:=mR hl
 have e:D1.lay k n f=D1.setFiles (bZ D.files k (bZ m n (f ((aV m n).getD Sec.zero)))):=by
  unfold DD.lay
  rw [h1,hm]
 have hw:(f ((aV m n).getD Sec.zero)).writes.length≤N+1:=by
  refine hs _ ?_
  cases hg:aV m n with
  | none=>exact .inl rfl
  | some s=>exact .inr ⟨m,hm,hg⟩
 have hfit:aV m n≠none∨cd D.files<D.cap:=by
  unfold DD.fits DD.sec DD.used at hf
  rw [hm] at hf
  simp only at hf
  cases hg:aV m n with
  | none=>rw [hg] at hf;exact .inr (by simpa using hf)
  | some s=>exact .inl (by simp)
 have hF:=h.f.lay hm ⟨a2,a3⟩ hfit hw
 have hsz:=fj hm (bZ m n (f ((aV m n).getD Sec.zero)))
 rw [e]
 refine⟨h.files (Nat.lt_succ_self _) hF h2 h3 h4,h2,?_,?_⟩
 ·show cd _=cd _∨cd _=cd _+1
  cases hg:aV m n with
  | none=>
    rw [hg] at hsz
    rw [ln hg] at hsz
    exact .inr (by show cd _=_;simp only [DD.setFiles] at *;omega)
  | some s=>
    rw [hg] at hsz
    rw [mU hg] at hsz
    exact .inl (by show cd _=_;simp only [DD.setFiles] at *;omega)
 ·have:(D1.setFiles (bZ D.files k (bZ m n (f ((aV m n).getD Sec.zero))))).count k=rC (bZ m n (f ((aV m n).getD Sec.zero))):=by
   unfold DD.count DD.setFiles
   simp only [bW,if_true]
  rw [this]
  have hx:aV (bZ m n (f ((aV m n).getD Sec.zero))) n=some (f ((aV m n).getD Sec.zero)):=by rw [bW,if_pos rfl]
  obtain⟨l1,l2,h5,_⟩:=db hx
  have:=uX (m:=bZ m n (f ((aV m n).getD Sec.zero))) (n,f ((aV m n).getD Sec.zero)) (by rw [h5];simp)
  simp only at this
  omega
theorem dP{D D':DD}{N:Nat}{s:StepT}{e:Int}(h:D.Ok N)(ha:D.Act s e D')(hn : -9223372036854775808≤s.n∧s.n≤9223372036854775807):Rooms D D' s e N:=by
 have hok:=h.mono (zI N)
 unfold DD.Act at ha
 have stay:(s.kind=2∨s.kind=8→False)→s.kind≠7→ ∀ D1 e1,D1.Ok (N+1)→D1.cap=D.cap→(D.dead=true→1≤s.kind→s.kind<6→e1≠0)→Rooms D D1 s e1 N:=fun h1 h2 D1 e1 h3 h4 h5=>⟨h3,h4,fun q=>(h1 q).elim,fun q=>(h1 q).elim,fun q=>(h2 q).elim,h5⟩
 have tick0: ∀ {D1:DD},D1 = {D with dead:=true,changes:=D.changes+1}→D1.Ok (N+1):=fun e=>by subst e;exact h.files (Nat.lt_succ_self _) (h.f.mono (zI _)) rfl (.inl rfl) (.inr rfl)
 by_cases k1:s.kind=1
 ·rw [if_pos k1] at ha
  obtain⟨rfl,rfl⟩:D'=(D.make s.name).1∧e=(D.make s.name).2:=by rw [← ha];exact⟨rfl,rfl⟩
  have no:s.kind=2∨s.kind=8→False:=fun q=>(by omega)
  unfold DD.make
  split
  ·exact stay no (by omega) _ _ hok rfl (fun _ _ _=>(by simp))
  split
  ·exact stay no (by omega) _ _ hok rfl (fun _ _ _=>(by simp))
  split
  ·exact stay no (by omega) _ _ hok rfl (fun _ _ _=>(by simp))
  rename_i g1 g2 g3
  have hk:jf s.name=true:=by simpa using g1
  have hg:aV D.files s.name=none:=by simpa using g2
  refine DD.d7 (Q:=fun D1 e1=>Rooms D D1 s e1 N) (fun _=>stay no (by omega) _ _ hok rfl (fun _ _ _=>(by simp))) (fun _ _ _=>stay no (by omega) _ _ (tick0 rfl) rfl (fun _ _ _=>(by simp))) (fun _ _ q=>(by cases q)) (fun q _=>stay no (by omega) _ _ ?_ rfl (fun q2=>(by rw [q] at q2;cases q2)))
  exact h.files (Nat.lt_succ_self _) ((h.f.make hk hg (by omega)).mono (zI _)) rfl (.inr rfl) (.inr rfl)
 rw [if_neg k1] at ha
 have wrote: ∀ (b:Sct),D.look s.name s.n=0→D.fits s.name s.n=true→ ∀ t,(t=Sec.zero∨ ∃ m,aV D.files s.name=some m∧aV m s.n=some t)→(⟨t.lasts,t.writes ++ [b]⟩:Sec).writes.length≤N+1:=fun b _ _ t ht=>by
  rcases ht with rfl|⟨m,hm,ht⟩
  ·simp [Sec.zero]
  ·have:=h.f.wr _ m s.n t hm ht
   simp
   omega
 by_cases k2:s.kind=2
 ·rw [if_pos k2] at ha
  obtain⟨rfl,rfl⟩:D'=(D.write s.name s.n (Sct.full s.b)).1∧e=(D.write s.name s.n (Sct.full s.b)).2:=by rw [← ha];exact⟨rfl,rfl⟩
  unfold DD.write
  split
  ·rename_i g1
   have:=qL g1
   exact⟨hok,rfl,fun _ q=>absurd q g1,fun _ q=>(by omega),fun q=>(by omega),fun _ _ _=>g1⟩
  rename_i g1
  have g1':D.look s.name s.n=0:=by simpa using g1
  split
  ·rename_i g2
   refine⟨hok,rfl,fun _ q=>(by simp at q),fun _ _=>?_,fun q=>(by omega),fun _ _ _=>(by simp)⟩
   unfold DD.fits at g2
   simp only [Bool.or_eq_false_iff,decide_eq_false_iff_not] at g2
   have:=h.f.room
   have g3:=g2.2
   unfold DD.used at *
   omega
  rename_i g2
  have g2':D.fits s.name s.n=true:=by simpa using g2
  have hw:=wrote (Sct.full s.b) g1' g2'
  refine DD.d7 (Q:=fun D1 e1=>Rooms D D1 s e1 N) (fun _=>⟨hok,rfl,fun _ q=>(by simp at q),fun _ q=>(by simp at q),fun q=>(by omega),fun _ _ _=>(by simp)⟩) (fun _ _ q=>(by cases q)) (fun _ _ _=>?_) (fun q _=>?_)
  ·obtain⟨b1,b2,_⟩:=lz h g1' g2' (f:=fun t=>⟨t.lasts,t.writes ++ [Sct.full s.b]⟩) hw (D1:={D with dead:=true,changes:=D.changes+1}) rfl rfl (.inl rfl) (.inr rfl)
   exact⟨b1,b2,fun _ q=>(by simp at q),fun _ q=>(by simp at q),fun q=>(by omega),fun _ _ _=>(by simp)⟩
  ·obtain⟨b1,b2,b3,b4⟩:=lz h g1' g2' (f:=fun t=>⟨t.lasts,t.writes ++ [Sct.full s.b]⟩) hw (D1:={D with fuse:=if 0<D.fuse then D.fuse-1 else D.fuse,changes:=D.changes+1}) rfl rfl (.inr rfl) (.inr rfl)
   exact⟨b1,b2,fun _ _=>⟨b3,b4⟩,fun _ q=>(by simp at q),fun q=>(by omega),fun q2=>(by rw [q] at q2;cases q2)⟩
 rw [if_neg k2] at ha
 by_cases k3:s.kind=3
 ·rw [if_pos k3] at ha
  obtain⟨rfl,rfl⟩:D'=(D.sync s.name).1∧e=(D.sync s.name).2:=by rw [← ha];exact⟨rfl,rfl⟩
  have no:s.kind=2∨s.kind=8→False:=fun q=>(by omega)
  unfold DD.sync
  split
  ·rename_i g1
   exact stay no (by omega) _ _ hok rfl (fun _ _ _=>g1)
  rename_i g1
  obtain⟨_,_,_,m,hm⟩:=mR (D:=D) (k:=s.name) (n:=0) (by simpa using g1)
  refine DD.d7 (Q:=fun D1 e1=>Rooms D D1 s e1 N) (fun _=>stay no (by omega) _ _ hok rfl (fun _ _ _=>(by simp))) (fun _ _ _=>stay no (by omega) _ _ (tick0 rfl) rfl (fun _ _ _=>(by simp))) (fun _ _ q=>(by cases q)) (fun q _=>?_)
  simp only [hm]
  exact stay no (by omega) _ _ (h.files (Nat.lt_succ_self _) ((h.f.sync hm).mono (zI _)) rfl (.inr rfl) (.inr rfl)) rfl (fun q2=>(by rw [q] at q2;cases q2))
 rw [if_neg k3] at ha
 by_cases k4:s.kind=4
 ·rw [if_pos k4] at ha
  obtain⟨rfl,rfl⟩:D'=(D.remove s.name).1∧e=(D.remove s.name).2:=by rw [← ha];exact⟨rfl,rfl⟩
  have no:s.kind=2∨s.kind=8→False:=fun q=>(by omega)
  unfold DD.remove
  split
  ·rename_i g1
   exact stay no (by omega) _ _ hok rfl (fun _ _ _=>g1)
  refine DD.d7 (Q:=fun D1 e1=>Rooms D D1 s e1 N) (fun _=>stay no (by omega) _ _ hok rfl (fun _ _ _=>(by simp))) (fun _ _ _=>stay no (by omega) _ _ (tick0 rfl) rfl (fun _ _ _=>(by simp))) (fun _ _ q=>(by cases q)) (fun q _=>?_)
  exact stay no (by omega) _ _ (h.files (Nat.lt_succ_self _) ((h.f.gone s.name).mono (zI _)) rfl (.inr rfl) (.inr rfl)) rfl (fun q2=>(by rw [q] at q2;cases q2))
 rw [if_neg k4] at ha
 by_cases k5:s.kind=5
 ·rw [if_pos k5] at ha
  obtain⟨rfl,rfl⟩:D'=(D.rename s.name s.to).1∧e=(D.rename s.name s.to).2:=by rw [← ha];exact⟨rfl,rfl⟩
  have no:s.kind=2∨s.kind=8→False:=fun q=>(by omega)
  unfold DD.rename
  split
  ·exact stay no (by omega) _ _ hok rfl (fun _ _ _=>(by simp))
  rename_i g1
  split
  ·exact stay no (by omega) _ _ hok rfl (fun _ _ _=>(by simp))
  rename_i g2
  refine DD.d7 (Q:=fun D1 e1=>Rooms D D1 s e1 N) (fun _=>stay no (by omega) _ _ hok rfl (fun _ _ _=>(by simp))) (fun _ _ _=>stay no (by omega) _ _ (tick0 rfl) rfl (fun _ _ _=>(by simp))) (fun _ _ q=>(by cases q)) (fun q _=>?_)
  have hd: ∀ e1:Int,D.dead=true→1≤s.kind→s.kind<6→e1≠0:=fun _ q2=>by rw [q] at q2;cases q2
  unfold DD.moved
  split
  ·exact stay no (by omega) _ _ (h.files (Nat.lt_succ_self _) (h.f.mono (zI _)) rfl (.inr rfl) (.inr rfl)) rfl (hd _)
  rename_i hne
  simp only
  cases hm:aV D.files s.name with
  | none=>exact absurd hm g2
  | some m=>
    have ht:jf s.to=true:=by
     cases ht:jf s.to with
     | true=>rfl
     | false=>exact absurd (.inr ht) g1
    exact stay no (by omega) _ _ (h.files (Nat.lt_succ_self _) ((h.f.moved hm hne ht).mono (zI _)) rfl (.inr rfl) (.inr rfl)) rfl (hd _)
 rw [if_neg k5] at ha
 by_cases k6:s.kind=6
 ·rw [if_pos k6] at ha
  obtain⟨rfl,rfl⟩:=Prod.mk.inj ha
  have no:s.kind=2∨s.kind=8→False:=fun q=>(by omega)
  refine stay no (by omega) _ _ ?_ ?_ (fun _ _ q=>(by omega))
  ·unfold DD.lay'
   split
   ·exact hok
   ·exact⟨hok.f,hok.chg,by show -1≤(if s.n < -1 then -1 else s.n)∧(if s.n < -1 then -1 else s.n)≤9223372036854775807;split <;> omega,hok.cap⟩
  ·unfold DD.lay'
   split <;> rfl
 rw [if_neg k6] at ha
 by_cases k7:s.kind=7
 ·rw [if_pos k7] at ha
  obtain⟨rfl,hl⟩:=ha
  exact⟨hl.ok hok,hl.cap,fun q=>(by omega),fun q=>(by omega),fun _=>hl.used h.f.ndF,fun _ _ q=>(by omega)⟩
 rw [if_neg k7] at ha
 by_cases k8:s.kind=8
 ·rw [if_pos k8] at ha
  obtain⟨rfl,rfl⟩:D'=(D.spoil s.name s.n (Sct.full s.b)).1∧e=(D.spoil s.name s.n (Sct.full s.b)).2:=by rw [← ha];exact⟨rfl,rfl⟩
  unfold DD.spoil
  split
  ·rename_i g1
   have:=qL g1
   exact⟨hok,rfl,fun _ q=>absurd q g1,fun _ q=>(by omega),fun q=>(by omega),fun _ _ _=>g1⟩
  rename_i g1
  have g1':D.look s.name s.n=0:=by simpa using g1
  split
  ·rename_i g2
   refine⟨hok,rfl,fun _ q=>(by simp at q),fun _ _=>?_,fun q=>(by omega),fun _ _ _=>(by simp)⟩
   unfold DD.fits at g2
   simp only [Bool.or_eq_false_iff,decide_eq_false_iff_not] at g2
   have:=h.f.room
   have g3:=g2.2
   unfold DD.used at *
   omega
  rename_i g2
  have g2':D.fits s.name s.n=true:=by simpa using g2
  obtain⟨b1,b2,b3,b4⟩:=lz h g1' g2' (f:=fun _=>⟨Sct.full s.b,[]⟩) (fun _ _=>zA _) (D1:=D) rfl rfl (.inl rfl) (.inl rfl)
  exact⟨b1,b2,fun _ _=>⟨b3,b4⟩,fun _ q=>(by simp at q),fun q=>(by omega),fun _ _ q=>(by omega)⟩
 rw [if_neg k8] at ha
 obtain⟨rfl,rfl⟩:=Prod.mk.inj ha
 exact stay (fun q=>(by omega)) k7 _ _ hok rfl (fun _ q1 q2=>by omega)
def Wr(l:List (ByteArray×List (Int×Sec)))(P:Int→Sct→Prop):Prop:= ∀ k m n s,aV l k=some m→aV m n=some s→ ∀ w∈s.writes,P n w
theorem Wr.nil{P:Int→Sct→Prop}:Wr [] P:=fun _ _ _ _ h=>by simp [dM] at h
theorem Wr.mono{l:List (ByteArray×List (Int×Sec))}{P Q:Int→Sct→Prop}(h:Wr l P)(hq: ∀ n w,P n w→Q n w):Wr l Q:=fun k m n s h1 h2 w hw=>hq n w (h k m n s h1 h2 w hw)
theorem Wr.put{l:List (ByteArray×List (Int×Sec))}{P:Int→Sct→Prop}(h:Wr l P){k:ByteArray}{m:List (Int×Sec)}(hm: ∀ n s,aV m n=some s→ ∀ w∈s.writes,P n w):Wr (bZ l k m) P:=fun k' m' n s h1 h2 w hw=>by
 rw [bW] at h1
 split at h1
 ·cases h1;exact hm n s h2 w hw
 ·exact h k' m' n s h1 h2 w hw
theorem Wr.del{l:List (ByteArray×List (Int×Sec))}{P:Int→Sct→Prop}(h:Wr l P)(hn:(l.map (·.1)).Nodup)(k:ByteArray):Wr (eF l k) P:=fun k' m' n s h1 h2 w hw=>h k' m' n s (dc hn h1).2 h2 w hw
theorem Wr.lay{D:DD}{P:Int→Sct→Prop}(h:Wr D.files P){k:ByteArray}{n:Int}{f:Sec→Sec}(hf: ∀ s,(∀ w∈s.writes,P n w)→ ∀ w∈(f s).writes,P n w):Wr (D.lay k n f).files P:=by
 unfold DD.lay
 cases hm:aV D.files k with
 | none=>exact h
 | some m=>
   refine h.put fun n' s hs w hw=>?_
   rw [bW] at hs
   split at hs
   ·rename_i e
    subst e
    cases hs
    refine hf _ (fun w hw=>?_) w hw
    cases hg:aV m n with
    | none=>rw [hg] at hw;simp [Sec.zero] at hw
    | some s=>rw [hg] at hw;exact h k m n s hm hg w hw
   ·exact h k m n' s hm hs w hw
theorem y8{D D':DD}{N:Nat}{s:StepT}{e:Int}{P:Int→Sct→Prop}(h:D.Ok N)(hw:Wr D.files P)(ha:D.Act s e D')(hP:(s.kind=2∨s.kind=8)→P s.n (Sct.full s.b)):Wr D'.files P:=by
 unfold DD.Act at ha
 have chg: ∀ {wr:Bool} {g:DD→DD},(∀ D1:DD,D1.files=D.files→Wr (g D1).files P)→Wr (D.change wr g).1.files P:=fun hg=>
  DD.d7 (Q:=fun D1 _=>Wr D1.files P) (fun _=>hw) (fun _ _ _=>hw) (fun _ _ _=>hg _ rfl) (fun _ _=>hg _ rfl)
 by_cases k1:s.kind=1
 ·rw [if_pos k1] at ha
  obtain rfl:D'=(D.make s.name).1:=by rw [← ha]
  unfold DD.make
  split
  ·exact hw
  split
  ·exact hw
  split
  ·exact hw
  exact chg fun D1 h1=>by
   show Wr (bZ D1.files s.name []) P
   rw [h1]
   exact hw.put fun n s hs=>by simp [dM] at hs
 rw [if_neg k1] at ha
 by_cases k2:s.kind=2
 ·rw [if_pos k2] at ha
  obtain rfl:D'=(D.write s.name s.n (Sct.full s.b)).1:=by rw [← ha]
  unfold DD.write
  split
  ·exact hw
  split
  ·exact hw
  exact chg fun D1 h1=>by
   refine Wr.lay (by rw [h1];exact hw) fun t ht w hx=>?_
   rcases List.mem_append.1 hx with hx|hx
   ·exact ht w hx
   ·rw [List.mem_singleton.1 hx];exact hP (.inl k2)
 rw [if_neg k2] at ha
 by_cases k3:s.kind=3
 ·rw [if_pos k3] at ha
  obtain rfl:D'=(D.sync s.name).1:=by rw [← ha]
  unfold DD.sync
  split
  ·exact hw
  exact chg fun D1 h1=>by
   rw [h1]
   cases hm:aV D.files s.name with
   | none=>simp only;rw [h1];exact hw
   | some m=>
     show Wr (bZ D.files s.name (je m)) P
     refine hw.put fun n t ht w hx=>?_
     have:aV (je m) n=(aV m n).map fun s=>(⟨s.has,[]⟩:Sec):=ku (fun s:Sec=>(⟨s.has,[]⟩:Sec)) m n
     rw [this] at ht
     obtain⟨t0,_,rfl⟩:=zn.1 ht
     cases hx
 rw [if_neg k3] at ha
 by_cases k4:s.kind=4
 ·rw [if_pos k4] at ha
  obtain rfl:D'=(D.remove s.name).1:=by rw [← ha]
  unfold DD.remove
  split
  ·exact hw
  exact chg fun D1 h1=>by
   show Wr (eF D1.files s.name) P
   rw [h1]
   exact hw.del h.f.ndF _
 rw [if_neg k4] at ha
 by_cases k5:s.kind=5
 ·rw [if_pos k5] at ha
  obtain rfl:D'=(D.rename s.name s.to).1:=by rw [← ha]
  unfold DD.rename
  split
  ·exact hw
  split
  ·exact hw
  exact chg fun D1 h1=>by
   unfold DD.moved
   split
   ·rw [h1];exact hw
   cases hm:aV D1.files s.name with
   | none=>simp only;rw [h1];exact hw
   | some m=>
     show Wr (eF (bZ (eF D1.files s.to) s.to m) s.name) P
     rw [h1] at hm ⊢
     exact Wr.del ((hw.del h.f.ndF _).put fun n t ht=>hw _ _ n t hm ht) (eZ (fQ h.f.ndF _).1 _ _) _
 rw [if_neg k5] at ha
 by_cases k6:s.kind=6
 ·rw [if_pos k6] at ha
  obtain rfl:D'=D.lay' s.n:=by cases ha;rfl
  unfold DD.lay'
  split <;> exact hw
 rw [if_neg k6] at ha
 by_cases k7:s.kind=7
 ·rw [if_pos k7] at ha
  intro k m' n s' h1 h2 w hx
  obtain⟨m,_,h4,h5⟩:=ha.2.get h1
  obtain⟨t,_,h7⟩:=DD.Lost.back h4 h5 h2
  rw [h7.1] at hx
  cases hx
 rw [if_neg k7] at ha
 by_cases k8:s.kind=8
 ·rw [if_pos k8] at ha
  obtain rfl:D'=(D.spoil s.name s.n (Sct.full s.b)).1:=by rw [← ha]
  unfold DD.spoil
  split
  ·exact hw
  split
  ·exact hw
  exact hw.lay fun t ht w hx=>by cases hx
 rw [if_neg k8] at ha
 obtain rfl:D'=D:=by cases ha;rfl
 exact hw
def Quiet(D:DD):Prop:= ∀ k m n s,aV D.files k=some m→aV m n=some s→s.writes= []
theorem DD.Lost.quiet{no:Bool}{D D':DD}(h:D.Lost no D'):Quiet D':=fun k m' n s' h1 h2=>by
 obtain⟨m,_,h4,h5⟩:=h.get h1
 obtain⟨t,_,h7⟩:=DD.Lost.back h4 h5 h2
 exact h7.1
structure DD.Eq (D D':DD):Prop where
 cap:D.cap=D'.cap
 len:D.files.length=D'.files.length
 secs: ∀ k m,aV D.files k=some m→ ∃ m',aV D'.files k=some m'∧m'.length=m.length∧ ∀ n s,aV m n=some s→aV m' n=some s
theorem DD.Lost.same{no:Bool}{D D':DD}(h:D.Lost no D')(hq:Quiet D):D.Eq D':=by
 refine⟨h.cap.symm,?_,fun k m hm=>?_⟩
 ·have:=h.keys.length_eq
  simpa using this.symm
 ·obtain⟨m',h1,h2,h3⟩:=h.secs k m hm
  refine⟨m',h1,by simpa using h2.length_eq,fun n s hs=>?_⟩
  obtain⟨s',h4,h5,h6⟩:=h3 n s hs
  have hs0:=hq k m n s hm hs
  rcases h6 with h6|⟨_,h6⟩
  ·have:s'=s:=by cases s';cases s;simp only at *;simp [h5,h6,hs0]
   rw [← this];exact h4
  ·rw [hs0] at h6;cases h6
theorem DD.Lost.look{no:Bool}{D D':DD}(h:D.Lost no D')(k:ByteArray)(n:Int):D'.look k n=D.look k n:=by
 have:aV D'.files k=none↔aV D.files k=none:=by
  rw [cv,cv,h.keys.mem_iff]
 unfold DD.look
 simp only [this]
theorem DD.Lost.sec{no:Bool}{D D':DD}(h:D.Lost no D')(k:ByteArray)(n:Int):(D.sec k n=none∧D'.sec k n=none)∨ ∃ s s',D.sec k n=some s∧D'.sec k n=some s'∧lost no s s':=by
 unfold DD.sec
 cases hm:aV D.files k with
 | none=>
   have:aV D'.files k=none:=by rw [cv,h.keys.mem_iff,←cv];exact hm
   rw [this]
   exact .inl ⟨rfl,rfl⟩
 | some m=>
   obtain⟨m',h1,h2,h3⟩:=h.secs k m hm
   rw [h1]
   simp only
   cases hs:aV m n with
   | none=>
     have:aV m' n=none:=by rw [cv,h2.mem_iff,←cv];exact hs
     exact .inl ⟨rfl,this⟩
   | some s=>
     obtain⟨s',h4,h5⟩:=h3 n s hs
     exact .inr ⟨s,s',rfl,h4,h5⟩
theorem vM{no:Bool}{D C E:DD}{P:Int→Sct→Prop}(hw:Wr D.files P)(hC:D.Lost no C)(hE:D.Lost true E)(k:ByteArray)(n:Int)(hl:D.look k n=0) :
 (C.read k n).2=0∧(E.read k n).2=0∧(D.read k n).2=0∧C.lasts k n=(true,0)∧(D.lasts k n).2=0∧((D.lasts k n).1=true→(C.read k n).1=(E.read k n).1∧(C.read k n).1=(D.read k n).1)∧((C.read k n).1=(E.read k n).1∨P n (C.read k n).1):=by
 have lC:=(hC.look k n).trans hl
 have lE:=(hE.look k n).trans hl
 obtain⟨m,hm⟩:=(mR hl).2.2.2
 unfold DD.read DD.lasts
 rw [lC,lE,hl]
 simp only [ne_eq,not_true_eq_false,if_false]
 have empty: ∀ s:Sec,s.writes= []→s.has=s.lasts:=fun s h=>by unfold Sec.has;rw [h];rfl
 rcases hC.sec k n with ⟨d1,c1⟩|⟨s,s1,d1,c1,c2,c3⟩
 ·rcases hE.sec k n with ⟨_,e1⟩|⟨s,_,d2,_⟩
  ·rw [c1,e1,d1]
   exact⟨trivial,trivial,trivial,rfl,trivial,fun _=>⟨rfl,rfl⟩,.inl rfl⟩
  ·rw [d1] at d2;cases d2
 ·rcases hE.sec k n with ⟨d2,_⟩|⟨s0,s2,d2,e1,e2,e3⟩
  ·rw [d1] at d2;cases d2
  ·rw [d1] at d2
   cases d2
   rw [c1,e1,d1]
   simp only [zF,Option.getD_some,empty s1 c2,empty s2 e2]
   have eE:s2.lasts=s.lasts:=by
    rcases e3 with e3|⟨h,_⟩
    ·exact e3
    ·cases h
   refine⟨trivial,trivial,trivial,by unfold Sec.calm;rw [c2];rfl,trivial,fun hc=>?_,?_⟩
   ·have hs0:s.writes= []:=by unfold Sec.calm at hc;simpa using hc
    rcases c3 with c3|⟨_,c3⟩
    ·exact⟨by rw [c3,eE],by rw [c3,empty s hs0]⟩
    ·rw [hs0] at c3;cases c3
   ·rcases c3 with c3|⟨_,c3⟩
    ·exact .inl (by rw [c3,eE])
    ·refine .inr (hw k m n s hm ?_ _ c3)
     unfold DD.sec at d1
     rw [hm] at d1
     exact d1
abbrev pw(s:Sct):List Value:=s.1.map fun n:Nat=> .int .u8 (n:Int)
abbrev cF(s:Sct):List SV:=(pw s).map .sc
theorem eQ(s:Sct):(pw s).length=256:=by rw [List.length_map];exact s.2
theorem bm(s:Sct):(cF s).length=256:=by rw [List.length_map];exact eQ s
theorem recV:RecOf pw 256:=⟨eQ,fun s v hv=>by
 obtain⟨n,_,rfl⟩:=List.mem_map.1 hv
 rfl⟩
abbrev x6(ro:Bool)(l:List Sct):VO:=dat ro l.length 256 45 (l.flatMap pw)
abbrev kE:ByteArray→Value:=fun s=> .string s
abbrev iE:Int→Value:=fun n=> .int .i64 n
theorem kK:KEnc Try.prog 9 kE:=vP (F.un _ rfl)
theorem iK:KEnc Try.prog 3 iE:=vQ (F.un _ rfl)
def ye(v:SV)(l:List Sct):Own:=fun H Fp=>(v = .sc (.slice none 0 0)∧l= []∧ ∀ n,¬ Fp n)∨ ∃ r,v = .slu r 0 l.length∧H.at' r=some (x6 false l)∧ ∀ n,Fp n↔n=r
def PS(_:Int)(x:Nat×Sec):Own:=fun H Fp=> ∃ v G,H.at' x.1=some (ak 80 (cF x.2.lasts ++ [v]))∧ye v x.2.writes H G∧ ¬ G x.1∧ ∀ n,Fp n↔n=x.1∨G n
theorem se(v:SV)(l:List Sct):lQ (ye v l):=fun H H' Fp h hf=>h.elim (fun h=> .inl h) fun⟨r,h1,h2,h3⟩=> .inr ⟨r,h1,(hf r ((h3 r).2 rfl)).trans h2,h3⟩
theorem dw(k:Int)(x:Nat×Sec):lQ (PS k x):=fun H H' Fp ⟨v,G,h1,h2,h3,h4⟩ hf=>⟨v,G,(hf _ ((h4 _).2 (.inl rfl))).trans h1,se _ _ _ _ _ h2 fun n hn=>hf n ((h4 n).2 (.inr hn)),h3,h4⟩
abbrev MSc:=List (Int×(Nat×Sec)×Nat)
abbrev MFl:=List (ByteArray×(Nat×List (Int×Sec))×Nat)
abbrev gN:Nat×Sec→SV:=fun x=> .ptr x.1 0
abbrev fq:Nat×List (Int×Sec)→SV:=fun x=> .ptr x.1 0
abbrev dt(m:MSc):List (Int×Sec):=(kv m).map fun x=>(x.1,x.2.2)
abbrev po(m:MFl):List (ByteArray×List (Int×Sec)):=(kv m).map fun x=>(x.1,x.2.2)
structure Fl (n ms:Nat) (m:MSc) (c:Nat) (G:Nat→Prop) (H:aJ):Prop where
 box:H.at' n=some (ak 63 [.mp ms])
 map:H.at' ms=some (eO iE gN m c)
 ok:KOk m c
 big:Big PS (kv m) H G
 ne:n≠ms
 nn: ¬ G n
 nm: ¬ G ms
def PF(_:ByteArray)(x:Nat×List (Int×Sec)):Own:=fun H Fp=> ∃ ms m c G,Fl x.1 ms m c G H∧x.2=dt m∧ ∀ n,Fp n↔n=x.1∨n=ms∨G n
theorem Fl.frame{n ms:Nat}{m:MSc}{c:Nat}{G:Nat→Prop}{H H':aJ}(h:Fl n ms m c G H)(hf: ∀ z,(z=n∨z=ms∨G z)→H'.at' z=H.at' z):Fl n ms m c G H':=
 ⟨(hf n (.inl rfl)).trans h.box,(hf ms (.inr (.inl rfl))).trans h.map,h.ok,Big.frame dw _ _ _ _ h.big fun z hz=>hf z (.inr (.inr hz)),h.ne,h.nn,h.nm⟩
theorem dQ(k:ByteArray)(x:Nat×List (Int×Sec)):lQ (PF k x):=fun H H' Fp ⟨ms,m,c,G,h1,h2,h3⟩ hf=>⟨ms,m,c,G,h1.frame fun z hz=>hf z ((h3 z).2 hz),h2,h3⟩
abbrev dkC(D:DD)(mp:Nat):List SV:= [.sc (.int .i64 (D.cap:Int)),.mp mp,.sc (.int .i64 (D.used:Int)),.sc (.int .i64 D.fuse),.sc (.bool D.dead),.sc (.int .i64 (D.changes:Int))]
structure Dk (d mp:Nat) (m:MFl) (c:Nat) (D:DD) (G:Nat→Prop) (H:aJ):Prop where
 box:H.at' d=some (ak 58 (dkC D mp))
 map:H.at' mp=some (eO kE fq m c)
 ok:KOk m c
 big:Big PF (kv m) H G
 fl:D.files=po m
 ne:d≠mp
 nd: ¬ G d
 nm: ¬ G mp
 cap:D.cap≠0
def DAt(d:Nat)(D:DD)(Fp:Nat→Prop)(H:aJ):Prop:= ∃ mp m c G,Dk d mp m c D G H∧ ∀ n,Fp n↔n=d∨n=mp∨G n
theorem Dk.frame{d mp:Nat}{m:MFl}{c:Nat}{D:DD}{G:Nat→Prop}{H H':aJ}(h:Dk d mp m c D G H)(hf: ∀ z,(z=d∨z=mp∨G z)→H'.at' z=H.at' z):Dk d mp m c D G H':=
 ⟨(hf d (.inl rfl)).trans h.box,(hf mp (.inr (.inl rfl))).trans h.map,h.ok,Big.frame dQ _ _ _ _ h.big fun z hz=>hf z (.inr (.inr hz)),h.fl,h.ne,h.nd,h.nm,h.cap⟩
theorem DAt.frame{d:Nat}{D:DD}{Fp:Nat→Prop}{H H':aJ}(h:DAt d D Fp H)(hf: ∀ z,Fp z→H'.at' z=H.at' z):DAt d D Fp H':=by
 obtain⟨mp,m,c,G,h1,h2⟩:=h
 exact⟨mp,m,c,G,h1.frame fun z hz=>hf z ((h2 z).2 hz),h2⟩
theorem dT(m:MFl)(k:ByteArray):aV (po m) k=(ct m k).map (·.2):=by
 rw [← jF]
 exact mN (fun x:Nat×List (Int×Sec)=>x.2) (kv m) k
theorem iZ(m:MSc)(k:Int):aV (dt m) k=(ct m k).map (·.2):=by
 rw [← jF]
 exact mN (fun x:Nat×Sec=>x.2) (kv m) k
theorem qN(m:MFl):(po m).length=m.length:=by simp [kv]
theorem tR(m:MSc):(dt m).length=m.length:=by simp [kv]
theorem fP{d cap:Nat}{rest:List SV}{H:aJ}{nx:Nat}(h:H.at' d=some (ak 58 (.sc (.int .i64 (cap:Int)) :: rest)))(hc:cap≠0):Fnc Try.prog 29 [.ptr d 0] H nx (fun r=>r=(.sc (.bool false),H,nx)):=by
 refine Fnc.start Try.func29 rfl rfl ?_
 (repeat(first|refine aj ?_|refine ac ?_|refine ab ?_|(apply ai;exact rfl;exact rfl;exact rfl)|(apply ah;exact rfl;exact rfl;exact rfl)|(apply bL;exact rfl;exact rfl;exact rfl;exact rfl)|(apply aN;exact rfl;exact rfl;exact rfl)|(apply aI;exact rfl;exact rfl;exact rfl;exact(F.fo _ _ rfl rfl))|(apply eI;exact rfl;exact rfl;exact rfl;exact rfl;exact(F.un _ rfl);exact rfl)|refine aG rfl rfl rfl (F.ag _ rfl) (by assumption) (by exact rfl) ?_|(refine cO rfl rfl rfl rfl (fun hq=>absurd hq (by omega)) (fun _=>?_))))
 ((apply aQ Try.func29 (congrArg Array.toList Try.results29));(focus(repeat(first|exact ResIs.nil|apply ResIs.tmp rfl))))
 rfl
theorem gr(e:Int){H:aJ}{nx:Nat}:Fnc Try.prog 9 [.sc (.int .i64 e)] H nx (fun r=>r=(.sc (.int .i64 e),H,nx)):=by
 refine Fnc.start Try.func9 rfl rfl ?_
 (repeat(first|refine aj ?_|refine ac ?_|refine ab ?_|(apply ai;exact rfl;exact rfl;exact rfl)|(apply ah;exact rfl;exact rfl;exact rfl)))
 ((apply aQ Try.func9 (congrArg Array.toList Try.results9));(focus(repeat(first|exact ResIs.nil|apply ResIs.tmp rfl))))
 rfl
def wK(n:Int):Bool:=decide (0≤n) && decide (n<65536)
theorem xE(n:Int){H:aJ}{nx:Nat}:Fnc Try.prog 57 [.sc (.int .i64 n)] H nx (fun r=>r=(.sc (.bool (wK n)),H,nx)):=by
 refine Fnc.start Try.func57 rfl rfl ?_
 (repeat(first|refine aj ?_|refine ac ?_|refine ab ?_|(apply ai;exact rfl;exact rfl;exact rfl)|(apply ah;exact rfl;exact rfl;exact rfl)))
 (apply cx;exact rfl;exact rfl;exact rfl;exact rfl)
 all_goals intro h1
 ·(repeat(first|refine ab ?_|(apply ai;exact rfl;exact rfl;exact rfl)|(apply ah;exact rfl;exact rfl;exact rfl)|(apply dz;exact rfl;exact rfl;exact rfl;exact rfl)|((apply w8;exact rfl;exact rfl;exact rfl;exact rfl))))
  ((apply aQ Try.func57 (congrArg Array.toList Try.results57));(focus(repeat(first|exact ResIs.nil|apply ResIs.tmp rfl))))
  rw [show wK n=decide (n<65536) by simp [wK,h1]]
  rfl
 ·(repeat(first|refine ab ?_|(apply ai;exact rfl;exact rfl;exact rfl)|(apply ah;exact rfl;exact rfl;exact rfl)|(apply bL;exact rfl;exact rfl;exact rfl;exact rfl)|(apply jn;exact rfl)))
  ((apply aQ Try.func57 (congrArg Array.toList Try.results57));(focus(repeat(first|exact ResIs.nil|apply ResIs.tmp rfl))))
  rw [show wK n=false by simp [wK,show ¬ 0≤n by omega]]
  rfl
theorem at_u8{s:ByteArray}{i:Nat}(hi:i<s.size):(u8L s)[i*1]? =some (.int .u8 ((s.data.toList[i]'(by simpa using hi)).toNat:Int)):=by
 have h:i<s.data.toList.length:=by simpa using hi
 rw [Nat.mul_one,List.getElem?_map,zg h]
 rfl
theorem wh{A:Type}{p:A→Bool}{l:List A}{i:Nat}(hi:i<l.length)(h:(l.take i).all p=true)(hp:p l[i]=true):(l.take (i+1)).all p=true:=by
 rw [List.take_succ_eq_append_getElem hi,List.all_append,h]
 simp [hp]
theorem x4{A:Type}{p:A→Bool}{l:List A}{i:Nat}(hi:i<l.length)(hp:p l[i]=false):l.all p=false:=by
 cases h:l.all p with
 | false=>rfl
 | true=>rw [List.all_eq_true.1 h _ (zJ hi)] at hp;cases hp
theorem tM(s:ByteArray)(hs:s.size≤140737488355328){H:aJ}{nx:Nat}:Fnc Try.prog 15 [.sc (.string s)] H nx (fun q=>q.1 = .sc (.bool (jf s))∧nx≤q.2.2∧ ∀ n,n<nx→q.2.1.at' n=H.at' n):=by
 refine Fnc.start Try.func15 rfl rfl ?_
 have hl:s.data.toList.length=s.size:=by simp
 (repeat(first|refine aj ?_|refine ac ?_|refine ab ?_|refine aE ?_|(apply ai;exact rfl;exact rfl;exact rfl)|(apply ah;exact rfl;exact rfl;exact rfl)|(apply dj;exact rfl;exact rfl;exact rfl;exact(F.un _ rfl))|((apply rA;exact rfl;exact rfl;exact(F.un _ rfl);exact(F.un _ rfl);exact(F.un _ rfl);exact rfl;(focus(omega))))))
 refine dy (α:=Nat) (fun i=> [(0,.sc (.string s)),(6,.slu nx 0 s.size),(7,.sc (.int .i64 (s.size:Int))),(8,.sc (.int .i64 (i:Int)))]) (fun i H1 n1=>i≤s.size∧(s.data.toList.take i).all okC=true∧n1=nx+1∧H1=H.set nx (dat false s.size 1 5 (u8L s))) (fun i=>s.size-i) 0 ⟨zA _,rfl,rfl,rfl⟩ (SlIn.sub (by repeat(first|exact trivial|refine⟨rfl,?_⟩))) ?_
 rintro i H1 n1 ⟨hi,ha,rfl,rfl⟩ ih
 (repeat(first|refine aj ?_|refine ac ?_))
 (apply cN;exact rfl;exact rfl;exact rfl;exact rfl)
 all_goals intro h1
 ·have hq:i<s.size:=by omega
  have hq2:i<s.data.toList.length:=by omega
  (repeat(first|refine aj ?_|refine ac ?_|refine ab ?_|refine aE ?_|refine aA ?_|refine ar rfl ?_|(apply ai;exact rfl;exact rfl;exact rfl)|(apply ah;exact rfl;exact rfl;exact rfl)|refine kf (q:=i) rfl rfl rfl rfl (F.un _ rfl) (F.sz _ rfl) (by(repeat(exact Tr.ae _ _ _));done) (by omega) (by(omega)) (zy _) ?_|refine fv rfl rfl rfl (F.ag _ rfl) (by(repeat(exact Tr.ae _ _ _));done) (at_u8 hq) (by(omega)) ?_))
  generalize hc:s.data.toList[i]=c
  have hgo:okC c=true→(s.data.toList.take (i+1)).all okC=true:=fun h=>wh hq2 ha (by rw [hc];exact h)
  have hno:okC c=false→jf s=false:=fun h=>by
   unfold jf
   rw [x4 hq2 (by rw [hc];exact h)]
   rfl
  have hcc:(c.toNat:Int)<256:=by have:=c.toNat_lt;omega
  iterate 6
   all_goals(first|((apply cN;exact rfl;exact rfl;exact rfl;exact rfl))|((apply dS;exact rfl;exact rfl;exact rfl;exact rfl))|((apply fe;exact rfl;exact rfl;exact rfl;exact rfl))|skip)
   all_goals(first|(intro _)|skip)
   all_goals(repeat(first|refine aj ?_|refine ac ?_|refine ab ?_|refine ax ?_|refine aA ?_|refine ar rfl ?_|refine am rfl ?_|(apply ai;exact rfl;exact rfl;exact rfl)|(apply ah;exact rfl;exact rfl;exact rfl)|(apply dz;exact rfl;exact rfl;exact rfl;exact rfl)|(apply bL;exact rfl;exact rfl;exact rfl;exact rfl)|(apply jn;exact rfl)|(apply bi;exact rfl;exact rfl;exact rfl;exact rfl;(focus(omega));(focus(omega)))))
  all_goals(first|(refine ih _ _ _ (i+1) ⟨hq,hgo ?_,rfl,rfl⟩ (by omega) (SlIn.sub (by repeat(first|exact trivial|refine⟨rfl,?_⟩)));clear ih;unfold okC;simp only [Bool.or_eq_true,zx,decide_eq_true_eq,beq_iff_eq];omega)|(((apply aQ Try.func15 (congrArg Array.toList Try.results15));(focus(repeat(first|exact ResIs.nil|apply ResIs.tmp rfl))));rw [hno (by clear ih;unfold okC;simp only [Bool.or_eq_false_iff,Bool.and_eq_false_iff,decide_eq_false_iff_not,beq_eq_false_iff_ne];omega)];exact⟨rfl,zI _,fun n hn=>Tr.aa _ _ (by omega)⟩))
 ·have hq:i=s.size:=by omega
  subst hq
  rw [← hl,List.take_length] at ha
  (repeat(first|refine aj ?_|refine ac ?_|refine ab ?_|refine aS rfl ?_|refine am rfl ?_|(apply ai;exact rfl;exact rfl;exact rfl)|(apply ql;exact rfl;exact rfl;exact rfl;exact(F.un _ rfl))))
  (apply cx;exact rfl;exact rfl;exact rfl;exact rfl)
  all_goals intro h2
  ·(repeat(first|refine ab ?_|(apply ai;exact rfl;exact rfl;exact rfl)|(apply ah;exact rfl;exact rfl;exact rfl)|(apply dz;exact rfl;exact rfl;exact rfl;exact rfl)|(apply ql;exact rfl;exact rfl;exact rfl;exact(F.un _ rfl))|((apply yp;exact rfl;exact rfl;exact rfl;exact rfl))))
   ((apply aQ Try.func15 (congrArg Array.toList Try.results15));(focus(repeat(first|exact ResIs.nil|apply ResIs.tmp rfl))))
   rw [show jf s=decide ((s.size:Int)≤32) by
    unfold jf
    rw [ha,decide_eq_true (show 1≤s.size by omega),Bool.true_and,Bool.true_and]
    exact decide_eq_decide.2 (by omega)]
   exact⟨rfl,zI _,fun n hn=>Tr.aa _ _ (by omega)⟩
  ·(repeat(first|refine ab ?_|(apply ai;exact rfl;exact rfl;exact rfl)|(apply ah;exact rfl;exact rfl;exact rfl)|(apply bL;exact rfl;exact rfl;exact rfl;exact rfl)|(apply jn;exact rfl)))
   ((apply aQ Try.func15 (congrArg Array.toList Try.results15));(focus(repeat(first|exact ResIs.nil|apply ResIs.tmp rfl))))
   rw [show jf s=false by
    unfold jf
    rw [ha,decide_eq_false (show ¬ 1≤s.size by omega)]
    rfl]
   exact⟨rfl,zI _,fun n hn=>Tr.aa _ _ (by omega)⟩
theorem ib(s:ByteArray)(hs:s.size≤140737488355328){H:aJ}{nx:Nat}:Fnc Try.prog 15 [.sc (.string s)] H nx (fun q=>q=(.sc (.bool (jf s)),H,nx)):=Fnc.lR (tM s hs)
def DD.new(cap:Nat):DD:=⟨cap,[],-1,false,0⟩
theorem yO(cap:Nat)(h1:1≤cap)(h2:cap≤1048576){H:aJ}{nx:Nat}:Fnc Try.prog 8 [.sc (.int .i64 (cap:Int))] H nx (fun r=>r=(.tup [.ptr (nx+1) 0,.sc (.int .i64 0)],(H.set nx (.map [] 0)).set (nx+1) (ak 58 (dkC (DD.new cap) nx)),nx+1+1)):=by
 refine Fnc.start Try.func8 rfl rfl ?_
 (repeat(first|refine aj ?_|refine ac ?_|refine ab ?_|refine aA ?_|refine am rfl ?_|(apply ai;exact rfl;exact rfl;exact rfl)|(apply ah;exact rfl;exact rfl;exact rfl)|(apply bL;exact rfl;exact rfl;exact rfl;exact rfl)|(apply kT;exact rfl;exact rfl)|(apply ma;exact rfl;exact rfl;exact rfl)|(apply sG;exact rfl;exact rfl;exact rfl;exact(F.ze _ rfl);exact(F.pl _ rfl);exact rfl)|(refine cN rfl rfl rfl rfl (fun hq=>absurd hq (by omega)) (fun _=>?_))|(refine dS rfl rfl rfl rfl (fun hq=>absurd hq (by omega)) (fun _=>?_))))
 ((apply aQ Try.func8 (congrArg Array.toList Try.results8));(focus(repeat(first|exact ResIs.nil|apply ResIs.tmp rfl))))
 rfl
theorem wJ{cap:Nat}(h1:1≤cap){H:aJ}{nx:Nat}:DAt (nx+1) (DD.new cap) (fun n=>n=nx+1∨n=nx) ((H.set nx (.map [] 0)).set (nx+1) (ak 58 (dkC (DD.new cap) nx))):=
 ⟨nx,[],0,fun _=>False,⟨Tr.ae _ _ _,(Tr.aa _ _ (by omega)).trans (Tr.ae _ _ _),KOk.nil 0,Big.nil,rfl,by omega,fun h=>h,fun h=>h,by show cap≠0;omega⟩,fun n=>by simp⟩
theorem ub{d:Nat}{D:DD}{Fp:Nat→Prop}{H:aJ}{nx:Nat}(hD:DAt d D Fp H)(k:ByteArray):Fnc Try.prog 16 [.ptr d 0,.sc (kE k)] H nx (fun r=>r=(.sc (.bool (aV D.files k).isSome),H,nx)):=by
 obtain⟨mp,m,c,G,h,hF⟩:=hD
 have hbox:=h.box
 have hmap:=h.map
 rw [h.fl,dT]
 refine Fnc.start Try.func16 rfl rfl ?_
 (repeat(first|refine aj ?_|refine ac ?_|refine ab ?_|refine aA ?_|refine am rfl ?_|(apply ai;exact rfl;exact rfl;exact rfl)|(apply ah;exact rfl;exact rfl;exact rfl)|(apply aN;exact rfl;exact rfl;exact rfl)|(apply aI;exact rfl;exact rfl;exact rfl;exact(F.fo _ _ rfl rfl))|refine aG rfl rfl rfl (F.ag _ rfl) (by assumption) (by exact rfl) ?_|(refine aL rfl rfl rfl (by kernel_rfl) (Fnc.mono (fP hbox h.cap) ?_);rintro _ rfl;dsimp only)))
 cases hg:ct m k with
 | none=>
   (repeat(first|refine aj ?_|refine ac ?_|refine ab ?_|(apply ai;exact rfl;exact rfl;exact rfl)|(apply ah;exact rfl;exact rfl;exact rfl)|(apply bp;exact rfl;exact rfl;exact rfl;exact rfl)|refine xb (m:=m) (enc:=kE) (val:=fq) rfl rfl rfl rfl (F.un _ rfl) (kK) (by first|exact rfl|assumption) (hg) (F.ze _ rfl) ?_))
   ((apply aQ Try.func16 (congrArg Array.toList Try.results16));(focus(repeat(first|exact ResIs.nil|apply ResIs.tmp rfl))))
   rfl
 | some x=>
   (repeat(first|refine aj ?_|refine ac ?_|refine ab ?_|(apply ai;exact rfl;exact rfl;exact rfl)|(apply ah;exact rfl;exact rfl;exact rfl)|(apply bp;exact rfl;exact rfl;exact rfl;exact rfl)|refine w9 (m:=m) (enc:=kE) (val:=fq) rfl rfl rfl rfl (F.un _ rfl) (kK) (by first|exact rfl|assumption) (hg) ?_))
   ((apply aQ Try.func16 (congrArg Array.toList Try.results16));(focus(repeat(first|exact ResIs.nil|apply ResIs.tmp rfl))))
   rfl
theorem yY{d:Nat}{D:DD}{Fp:Nat→Prop}{H:aJ}{nx:Nat}(hD:DAt d D Fp H):Fnc Try.prog 11 [.ptr d 0] H nx (fun r=>r=(.sc (.bool D.dead),H,nx)):=by
 obtain⟨mp,m,c,G,h,hF⟩:=hD
 have hbox:=h.box
 refine Fnc.start Try.func11 rfl rfl ?_
 (repeat(first|refine aj ?_|refine ac ?_|refine ab ?_|(apply ai;exact rfl;exact rfl;exact rfl)|(apply ah;exact rfl;exact rfl;exact rfl)|(apply dz;exact rfl;exact rfl;exact rfl;exact rfl)|(apply aN;exact rfl;exact rfl;exact rfl)|(apply aI;exact rfl;exact rfl;exact rfl;exact(F.fo _ _ rfl rfl))|refine aG rfl rfl rfl (F.ag _ rfl) (by assumption) (by exact rfl) ?_|(apply cG;exact rfl;exact rfl;exact rfl)|(refine aL rfl rfl rfl (by kernel_rfl) (Fnc.mono (fP hbox h.cap) ?_);rintro _ rfl;dsimp only)))
 ((apply aQ Try.func11 (congrArg Array.toList Try.results11));(focus(repeat(first|exact ResIs.nil|apply ResIs.tmp rfl))))
 rfl
theorem uD{d:Nat}{D:DD}{Fp:Nat→Prop}{H:aJ}{nx:Nat}(hD:DAt d D Fp H):Fnc Try.prog 18 [.ptr d 0] H nx (fun r=>r=(.sc (.int .i64 (D.changes:Int)),H,nx)):=by
 obtain⟨mp,m,c,G,h,hF⟩:=hD
 have hbox:=h.box
 refine Fnc.start Try.func18 rfl rfl ?_
 (repeat(first|refine aj ?_|refine ac ?_|refine ab ?_|refine aA ?_|refine am rfl ?_|(apply ai;exact rfl;exact rfl;exact rfl)|(apply ah;exact rfl;exact rfl;exact rfl)|(apply aN;exact rfl;exact rfl;exact rfl)|(apply aI;exact rfl;exact rfl;exact rfl;exact(F.fo _ _ rfl rfl))|refine aG rfl rfl rfl (F.ag _ rfl) (by assumption) (by exact rfl) ?_|(refine aL rfl rfl rfl (by kernel_rfl) (Fnc.mono (fP hbox h.cap) ?_);rintro _ rfl;dsimp only)))
 ((apply aQ Try.func18 (congrArg Array.toList Try.results18));(focus(repeat(first|exact ResIs.nil|apply ResIs.tmp rfl))))
 rfl
theorem lj{d:Nat}{D:DD}{Fp:Nat→Prop}{H:aJ}{nx:Nat}(hD:DAt d D Fp H)(k:ByteArray)(hk:k.size≤140737488355328)(n:Int):Fnc Try.prog 39 [.ptr d 0,.sc (kE k),.sc (iE n)] H nx (fun r=>r=(.sc (.int .i64 (D.look k n)),H,nx)):=by
 obtain⟨mp,m,c,G,h,hF⟩:=id hD
 have hbox:=h.box
 refine Fnc.start Try.func39 rfl rfl ?_
 have hlk:D.look k n=if jf k=false∨wK n=false then 2 else if(aV D.files k).isSome=false then 6 else 0:=by
  unfold DD.look wK
  have:(n<0∨65536≤n)↔(decide (0≤n) && decide (n<65536))=false:=by
   rw [Bool.and_eq_false_iff,decide_eq_false_iff_not,decide_eq_false_iff_not]
   omega
  simp only [this]
  cases aV D.files k <;> rfl
 rw [hlk]
 (repeat(first|refine aj ?_|refine ac ?_|refine ab ?_|refine aA ?_|refine am rfl ?_|(apply ai;exact rfl;exact rfl;exact rfl)|(apply ah;exact rfl;exact rfl;exact rfl)|(apply cG;exact rfl;exact rfl;exact rfl)|(refine aL rfl rfl rfl (by kernel_rfl) (Fnc.mono (fP hbox h.cap) ?_);rintro _ rfl;dsimp only)|(refine aL rfl rfl rfl (by kernel_rfl) (Fnc.mono (ib k hk) ?_);rintro _ rfl;dsimp only)))
 cases h1:jf k with
 | false=>
   (repeat(first|refine aj ?_|refine ac ?_|refine ab ?_|refine ar rfl ?_|(apply ah;exact rfl;exact rfl;exact rfl)|(apply dz;exact rfl;exact rfl;exact rfl;exact rfl)|(apply jn;exact rfl)))
   ((apply aQ Try.func39 (congrArg Array.toList Try.results39));(focus(repeat(first|exact ResIs.nil|apply ResIs.tmp rfl))))
   rfl
 | true=>
   (repeat(first|refine ab ?_|(apply ai;exact rfl;exact rfl;exact rfl)|(apply bL;exact rfl;exact rfl;exact rfl;exact rfl)|(apply cG;exact rfl;exact rfl;exact rfl)|(refine aL rfl rfl rfl (by kernel_rfl) (Fnc.mono (xE n) ?_);rintro _ rfl;dsimp only)))
   cases h2:wK n with
   | false=>
     (repeat(first|refine aj ?_|refine ac ?_|refine ab ?_|refine ar rfl ?_|(apply ah;exact rfl;exact rfl;exact rfl)))
     ((apply aQ Try.func39 (congrArg Array.toList Try.results39));(focus(repeat(first|exact ResIs.nil|apply ResIs.tmp rfl))))
     rfl
   | true=>
     (repeat(first|refine aj ?_|refine ac ?_|refine ab ?_|refine aA ?_|refine am rfl ?_|(apply ai;exact rfl;exact rfl;exact rfl)|(apply cG;exact rfl;exact rfl;exact rfl)|(refine aL rfl rfl rfl (by kernel_rfl) (Fnc.mono (ub hD k) ?_);rintro _ rfl;dsimp only)))
     cases h3:(aV D.files k).isSome with
     | false=>
       (repeat(first|refine aj ?_|refine ac ?_|refine ab ?_|refine ar rfl ?_|(apply ah;exact rfl;exact rfl;exact rfl)))
       ((apply aQ Try.func39 (congrArg Array.toList Try.results39));(focus(repeat(first|exact ResIs.nil|apply ResIs.tmp rfl))))
       rfl
     | true=>
       (repeat(first|refine aj ?_|refine ac ?_|refine ab ?_|refine aA ?_|refine am rfl ?_|(apply ah;exact rfl;exact rfl;exact rfl)))
       ((apply aQ Try.func39 (congrArg Array.toList Try.results39));(focus(repeat(first|exact ResIs.nil|apply ResIs.tmp rfl))))
       rfl
end Go.Proofs.Ytbmekelkddllkaa
end
section
namespace Go.Sy
open Go Go.Sl Go.RowKit
section
variable {P:Program}
def Free(v:SV):Prop:= ∀ e e' u,v.conc e=some u→v.conc e'=some u
theorem Free.sc(v:Value):Free (.sc v):=fun _ _ _ h=>h
theorem Free.agg(vs:List Value):Free (.agg (vs.map .sc)):=fun e e' u h=>by
 rw [SV.conc,dN] at h ⊢
 exact h
theorem Free.two{a b:SV}(ha:Free a)(hb:Free b):Free (.tup [a,b]):=fun e e' u h=>by
 simp only [SV.conc,SV.aM] at h ⊢
 cases h1:a.conc e with
 | none=>rw [h1] at h;simp at h
 | some x=>
   cases h2:b.conc e with
   | none=>rw [h1,h2] at h;simp at h
   | some y=>
     rw [h1,h2] at h
     rw [ha e e' x h1,hb e e' y h2]
     exact h
theorem Fnc.nw{f:FuncId}{args:List SV}{H:aJ}{nx:Nat}{v:SV}(hv:Free v)(h:Fnc P f args H nx (fun q=>q.1=v∧nx≤q.2.2∧ ∀ n,n<nx→q.2.1.at' n=H.at' n)):Fnc P f args H nx (fun q=>q=(v,H,nx)):=by
 unfold Fnc gD at h ⊢
 rcases h with ⟨h1,u,r,h2,⟨q1,q2,q3⟩,h4⟩|h
 ·refine .inl ⟨h1,u,_,h2,rfl,fun K w0 e w hS=>?_⟩
  obtain⟨e',g1,g2,g3⟩:=h4 K w0 e w hS
  rw [q1] at g3
  exact⟨e,Env.le_refl e,hS.drop g1 g2 q3,hv _ _ _ g3⟩
 ·refine .inr ?_
  split at h
  ·refine⟨fun K w0 e w tmps todo ds kd rof cs hS a2 a3 a4 a5=>?_⟩
   obtain⟨r,⟨q1,q2,q3⟩,e',w',u,g1,g2,g3,g4⟩:=Wp.run h K w0 e w tmps todo ds kd rof cs hS a2 a3 a4 a5
   rw [q1] at g3
   exact⟨_,rfl,e,w',u,Env.le_refl e,hS.drop g1 g2 q3,hv _ _ _ g3,g4⟩
  ·exact h.elim
end
end Go.Sy
end
section
namespace Go.Proofs.Ytbmekelkddllkaa
open Go Go.Sy Go.Sl Go.RowKit
abbrev bV:Nat→List Value:=fun n=> [.int .u8 (n:Int)]
theorem bRec:RecOf bV 1:=nO (fun _=>rfl)
theorem bAgg(b:Nat):(Array.replicate 256 b).toList.flatMap bV=pw (Sct.full b):=by
 rw [Array.toList_replicate]
 show _=(List.replicate 256 b).map _
 generalize 256=n
 induction n with
 | zero=>rfl
 | succ n ih=>simp only [List.replicate_succ,List.flatMap_cons,zB,ih];rfl
theorem dG(a b:Sct):List.take 0 (cF a) ++ (SV.agg (cF b)).cells ++ List.drop (0+256) (cF a)=cF b:=by
 rw [List.take_zero,List.nil_append,Nat.zero_add,List.drop_of_length_le (by rw [bm];exact zy _),List.append_nil]
 rfl
theorem eJ(s:Sct):c8 (cF s)=true:=by
 unfold cF pw
 induction s.1 with
 | nil=>rfl
 | cons x l ih=>exact ih
theorem ck(s:Sct):(ak 45 (cF s)).cellsFrom 0 256=some (cF s):=
 di _ 0 (by rw [List.drop_zero,←bm s,List.take_length]) (bm s)
def uW(b n:Nat):Array Nat:=(List.replicate n b ++ List.replicate (256-n) 0).toArray
theorem sI{b n:Nat}(h:n≤256):(uW b n).size=256:=by
 unfold uW
 simp
 omega
theorem sK{b n:Nat}(h:n<256):(uW b n).setIfInBounds n b=uW b (n+1):=by
 unfold uW
 refine Array.toList_inj.1 ?_
 rw [Array.toList_setIfInBounds]
 show(List.replicate n b ++ List.replicate (256-n) 0).set n b=List.replicate (n+1) b ++ List.replicate (256-(n+1)) 0
 rw [List.set_append_right _ _ (by simp),List.length_replicate,Nat.sub_self,show 256-n=(256-(n+1))+1 by omega,List.replicate_succ,List.set_cons_zero,List.replicate_succ',List.append_assoc]
 rfl
theorem uV(b:Nat):uW b 256=Array.replicate 256 b:=by
 show(List.replicate 256 b ++ List.replicate (256-256) 0).toArray=_
 rw [Nat.sub_self,List.replicate_zero,List.append_nil,List.toArray_replicate]
theorem sh:ry Try.prog 45=some (cF (Sct.full 0)):=by kernel_rfl
theorem uJ(b:Nat):ak 45 (cF (Sct.full b))=wU 45 bV (Array.replicate 256 b):=by
 unfold wU
 rw [bAgg]
theorem sJ(b:Nat):uW b 0=Array.replicate 256 0:=by
 unfold uW
 rw [List.replicate_zero,List.nil_append,Nat.sub_zero,List.toArray_replicate]
theorem yS(b:Nat){H:aJ}{nx:Nat}:Fnc Try.prog 22 [.sc (.int .u8 (b:Int))] H nx (fun q=>q.1 = .agg (cF (Sct.full b))∧nx≤q.2.2∧ ∀ n,n<nx→q.2.1.at' n=H.at' n):=by
 refine Fnc.start Try.func22 rfl rfl ?_
 (repeat(first|refine aj ?_|refine ac ?_|refine ab ?_|refine aE ?_|(apply ah;exact rfl;exact rfl;exact rfl)|(refine cy rfl rfl sh ?_)))
 refine dy (α:=Nat) (fun i=> [(0,.sc (.int .u8 (b:Int))),(2,.ptr nx 0),(3,.ptr (nx+1) 0),(4,.sc (.int .i64 (i:Int)))]) (fun i H1 n1=>i≤256∧n1=nx+1+1∧H1.at' (nx+1)=some (wU 45 bV (uW b i))∧H1.at' nx=some (ak 45 (cF (Sct.full 0)))∧ ∀ n,n<nx→H1.at' n=H.at' n) (fun i=>256-i) 0 ⟨zA _,rfl,by rw [sJ,←uJ];(focus((repeat(exact Tr.ae _ _ _));done)),by(focus((repeat(first|exact Tr.ae _ _ _|refine(Tr.aa _ _ (by omega)).trans ?_));done)),fun n hn=>by(focus((repeat(refine(Tr.aa _ _ (by omega)).trans ?_));exact rfl))⟩ (SlIn.sub (by repeat(first|exact trivial|refine⟨rfl,?_⟩))) ?_
 rintro i H1 n1 ⟨hi,rfl,h1,h2,hold⟩ ih
 (repeat(first|refine aj ?_|refine ac ?_|(apply ai;exact rfl;exact rfl;exact rfl)))
 (apply cN;exact rfl;exact rfl;exact rfl;exact rfl)
 all_goals intro h3
 ·have hq:i<256:=by omega
  have hsz:=sI (b:=b) hi
  (repeat(first|refine aj ?_|refine ac ?_|refine ab ?_|refine aE ?_|refine ax ?_|refine aA ?_|refine ar rfl ?_|(apply ai;exact rfl;exact rfl;exact rfl)|(apply ah;exact rfl;exact rfl;exact rfl)|(apply bi;exact rfl;exact rfl;exact rfl;exact rfl;(focus(omega));(focus(omega)))|(apply yq (q:=i);exact rfl;exact rfl;exact rfl;exact rfl;exact(F.un _ rfl);exact(F.sz _ rfl);(focus(omega));(focus(omega)))|refine w_stA (v:=b) i rfl rfl rfl rfl (F.sz _ rfl) (bRec) (by assumption) (by omega) (by omega) ?_))
  refine ih _ _ _ (i+1) ⟨hq,rfl,by rw [← sK hq];(focus((repeat(exact Tr.ae _ _ _));done)),by(focus((repeat(first|assumption|refine(Tr.aa _ _ (by omega)).trans ?_));done)),fun n hn=>by(focus((repeat(refine(Tr.aa _ _ (by omega)).trans ?_));exact hold n hn))⟩ (by omega) (SlIn.sub (by repeat(first|exact trivial|refine⟨rfl,?_⟩)))
 ·obtain rfl:i=256:=by omega
  rw [uV,←uJ] at h1
  (repeat(first|refine aj ?_|refine ac ?_|refine ab ?_|refine aS rfl ?_|refine am rfl ?_|refine bn rfl rfl rfl rfl (F.sz _ rfl) (by assumption) rfl (by exact zi rfl) rfl ?_|refine qk rfl rfl rfl (F.ag _ rfl) (by assumption) (by exact rfl) ?_))
  rw [dG]
  ((apply aQ Try.func22 (congrArg Array.toList Try.results22));(focus((apply ResIs.cell rfl (LoadIs.many (F.ag _ rfl) (by(repeat(exact Tr.ae _ _ _));done) (ck _)));exact ResIs.nil)))
  exact⟨rfl,zH (zI nx) (zI _),fun n hn=>by(focus((repeat(refine(Tr.aa _ _ (by omega)).trans ?_));exact hold n hn))⟩
theorem i9(b:Nat){H:aJ}{nx:Nat}:Fnc Try.prog 22 [.sc (.int .u8 (b:Int))] H nx (fun q=>q=(.agg (cF (Sct.full b)),H,nx)):=Fnc.nw (Free.agg _) (yS b)
theorem bX(s:Sct)(v:SV):(ak 80 (cF s ++ [v])).cell 256=some v:=by
 refine aX ?_
 rw [List.getElem?_append_right (by rw [bm];exact zy _),bm]
 rfl
theorem cL(s:Sct)(v:SV):(ak 80 (cF s ++ [v])).cellsFrom 0 256=some (cF s):=by
 refine di _ 0 ?_ (bm s)
 rw [List.drop_zero,List.take_append_of_le_length (by rw [bm];exact zy _),←bm s,List.take_length]
theorem mw{l:List Sct}{q:Nat}(hq:q<l.length):((l.flatMap pw).drop (q*256)).take 256=pw l[q]:=by
 exact qV eQ (zg hq)
theorem has_r{n:Nat}{x:Sec}{Fp:Nat→Prop}{k:Int}{H:aJ}{nx:Nat}(hs:PS k (n,x) H Fp)(hl:x.writes.length<1000000)(hn:n<nx)(hF: ∀ z,Fp z→z<nx):Fnc Try.prog 38 [.ptr n 0] H nx (fun q=>q.1 = .agg (cF x.has)∧nx≤q.2.2∧ ∀ z,z<nx→q.2.1.at' z=H.at' z):=by
 obtain⟨v,G,h1,h2,h3,h4⟩:=hs
 dsimp only at h1 h2 h3 h4
 refine Fnc.start Try.func38 rfl rfl ?_
 have hbox:(H.set nx (ak 45 (cF (Sct.full 0)))).at' n=some (ak 80 (cF x.lasts ++ [v])):=(Tr.aa _ _ (by omega)).trans h1
 rcases h2 with ⟨rfl,hw,_⟩|⟨r,rfl,hr,hG⟩
 ·rw [show x.has=x.lasts by unfold Sec.has;rw [hw];rfl]
  (repeat(first|refine aj ?_|refine ac ?_|refine ab ?_|refine aA ?_|refine am rfl ?_|(apply ai;exact rfl;exact rfl;exact rfl)|(apply aN;exact rfl;exact rfl;exact rfl)|(apply aI;exact rfl;exact rfl;exact rfl;exact(F.fo _ _ rfl rfl))|(refine cy rfl rfl sh ?_)|(refine jd rfl rfl rfl (F.ag _ rfl) hbox (bX _ _) ?_)|((apply kH;exact rfl;exact rfl;exact rfl;exact(F.un _ rfl)))|(refine dS rfl rfl rfl rfl (fun hq=>absurd hq (by decide)) (fun _=>?_))|(refine gf rfl rfl rfl (F.ag _ rfl) hbox (cL _ _) ?_)))
  (repeat(first|(refine eP rfl rfl rfl (F.sz _ rfl) (by(repeat(exact Tr.ae _ _ _));done) (bm _) (by rw [bm];exact zy _) (eJ _) (dG _ _) ?_)|(refine ab ?_)))
  ((apply aQ Try.func38 (congrArg Array.toList Try.results38));(focus((apply ResIs.cell rfl (LoadIs.many (F.ag _ rfl) (by(repeat(exact Tr.ae _ _ _));done) (ck _)));exact ResIs.nil)))
  exact⟨rfl,zI _,fun n hn=>by(focus((repeat(refine(Tr.aa _ _ (by omega)).trans ?_));exact rfl))⟩
 ·(repeat(first|refine aj ?_|refine ac ?_|refine ab ?_|(apply ai;exact rfl;exact rfl;exact rfl)|(apply aN;exact rfl;exact rfl;exact rfl)|(apply aI;exact rfl;exact rfl;exact rfl;exact(F.fo _ _ rfl rfl))|(apply dj;exact rfl;exact rfl;exact rfl;exact(F.un _ rfl))|(refine cy rfl rfl sh ?_)|(refine jd rfl rfl rfl (F.ag _ rfl) hbox (bX _ _) ?_)))
  have hrn:r<nx:=hF r ((h4 r).2 (.inr ((hG r).2 rfl)))
  (apply dS;exact rfl;exact rfl;exact rfl;exact rfl)
  all_goals intro h5
  ·have hq:x.writes.length-1<x.writes.length:=by omega
   rw [show x.has=x.writes[x.writes.length-1] by
    unfold Sec.has
    rw [List.getLast?_eq_getElem?,zg hq]]
   (repeat(first|refine aj ?_|refine ab ?_|refine ar rfl ?_))
   (apply aR;(focus(kernel_rfl));(focus(kernel_rfl)))
   (repeat(first|(apply ay;exact rfl;exact rfl;exact rfl)|(apply bh;exact rfl;exact rfl;exact rfl)|(apply aZ;exact rfl;exact rfl;exact rfl;exact(F.fo _ _ rfl rfl))|(apply re;exact rfl;exact rfl;exact rfl;exact(F.un _ rfl))|(apply cW;exact rfl;exact rfl;exact rfl;exact rfl;(focus(omega));(focus(omega)))|(refine cf rfl rfl rfl (F.ag _ rfl) hbox (bX _ _) ?_)|refine au (q:=x.writes.length-1) rfl rfl rfl rfl (F.un _ rfl) (F.sz _ rfl) (by(repeat(first|assumption|refine(Tr.aa _ _ (by omega)).trans ?_));done) (by omega) (by(omega)) (zy _) ?_|(refine uq rfl rfl rfl (F.ag _ rfl) (by(repeat(first|assumption|refine(Tr.aa _ _ (by omega)).trans ?_));done) (mw hq) (eQ _) (by omega) ?_)|(refine ul rfl rfl rfl (F.sz _ rfl) (by(repeat(exact Tr.ae _ _ _));done) (bm _) (by rw [bm];exact zy _) (eJ _) (dG _ _) ?_)))
   (refine aF ?_);(refine⟨by kernel_rfl,?_,?_⟩);(focus(repeat(first|exact trivial|refine⟨.inl rfl,?_⟩|refine⟨.inr (by(repeat(refine⟨(by first|exact aK rfl rfl (.inr (.inl ⟨rfl,(zd _ ⟨by omega,by omega⟩).symm⟩))|exact be (F.fo _ _ rfl rfl) rfl|exact aC rfl|exact ju (F.un _ rfl) rfl|exact br rfl|exact bY (F.ag _ rfl) rfl (by(repeat(first|assumption|refine(Tr.aa _ _ (by omega)).trans ?_));done) (dO 256 _ (mw hq) (eQ _) (by omega))),?_⟩));exact trivial),?_⟩|refine⟨.inl (by kernel_rfl),?_⟩)))
   dsimp only [wrL]
   ((apply aQ Try.func38 (congrArg Array.toList Try.results38));(focus((apply ResIs.cell rfl (LoadIs.many (F.ag _ rfl) (by(repeat(exact Tr.ae _ _ _));done) (ck _)));exact ResIs.nil)))
   exact⟨rfl,zI _,fun n hn=>by(focus((repeat(refine(Tr.aa _ _ (by omega)).trans ?_));exact rfl))⟩
  ·have hw:x.writes= []:=zu (by omega)
   rw [show x.has=x.lasts by unfold Sec.has;rw [hw];rfl]
   (repeat(first|refine aj ?_|refine ac ?_|refine ab ?_|refine aA ?_|refine am rfl ?_|(apply ai;exact rfl;exact rfl;exact rfl)|(apply aN;exact rfl;exact rfl;exact rfl)|(apply aI;exact rfl;exact rfl;exact rfl;exact(F.fo _ _ rfl rfl))|(refine gf rfl rfl rfl (F.ag _ rfl) hbox (cL _ _) ?_)|(refine eP rfl rfl rfl (F.sz _ rfl) (by(repeat(exact Tr.ae _ _ _));done) (bm _) (by rw [bm];exact zy _) (eJ _) (dG _ _) ?_)))
   ((apply aQ Try.func38 (congrArg Array.toList Try.results38));(focus((apply ResIs.cell rfl (LoadIs.many (F.ag _ rfl) (by(repeat(exact Tr.ae _ _ _));done) (ck _)));exact ResIs.nil)))
   exact⟨rfl,zI _,fun n hn=>by(focus((repeat(refine(Tr.aa _ _ (by omega)).trans ?_));exact rfl))⟩
theorem vS{n:Nat}{x:Sec}{Fp:Nat→Prop}{k:Int}{H:aJ}{nx:Nat}(hs:PS k (n,x) H Fp)(hl:x.writes.length<1000000)(hn:n<nx)(hF: ∀ z,Fp z→z<nx):Fnc Try.prog 38 [.ptr n 0] H nx (fun q=>q=(.agg (cF x.has),H,nx)):=Fnc.nw (Free.agg _) (has_r hs hl hn hF)
theorem dL{A:Type}: ∀ (l m:List A),l.Nodup→(∀ x∈l,x∈m)→l.length≤m.length
 | [],m,_,_=>zA _
 | x :: l,m,hn,hs=>by
   obtain⟨a,b,rfl⟩:=List.append_of_mem (hs x (by simp))
   rw [List.nodup_cons] at hn
   have:=dL l (a ++ b) hn.2 fun y hy=>by
    have:=hs y (List.mem_cons_of_mem _ hy)
    rcases List.mem_append.1 this with h|h
    ·exact List.mem_append_left _ h
    ·rcases List.mem_cons.1 h with rfl|h
     ·exact absurd hy hn.1
     ·exact List.mem_append_right _ h
   simp only [zC,zD] at this ⊢
   omega
theorem Dk.file{d mp:Nat}{m:MFl}{c:Nat}{D:DD}{G:Nat→Prop}{H:aJ}(h:Dk d mp m c D G H){k:ByteArray}{n:Nat}{l:List (Int×Sec)}(hg:ct m k=some (n,l)) :
 ∃ ms m2 c2 G2 R,Fl n ms m2 c2 G2 H∧l=dt m2∧Big PF (kv (ig m k)) H R∧(∀ z,(z=n∨z=ms∨G2 z)→ ¬ R z)∧(∀ z,G z↔(z=n∨z=ms∨G2 z)∨R z):=by
 obtain⟨F1,R,⟨ms,m2,c2,G2,h1,h2,h3⟩,h4,h5,h6⟩:=Big.get h.big hg
 exact⟨ms,m2,c2,G2,R,h1,h2,h4,fun z hz=>h5 z ((h3 z).2 hz),fun z=>by rw [h6,h3]⟩
theorem Fl.sec{n ms:Nat}{m:MSc}{c:Nat}{G:Nat→Prop}{H:aJ}(h:Fl n ms m c G H){k:Int}{q:Nat}{s:Sec}(hg:ct m k=some (q,s)) :
 ∃ F1 R,PS k (q,s) H F1∧Big PS (kv (ig m k)) H R∧(∀ z,F1 z→ ¬ R z)∧ ∀ z,G z↔F1 z∨R z:=Big.get h.big hg
theorem ij{m:MFl}{k:ByteArray}{l:List (Int×Sec)}(h:aV (po m) k=some l): ∃ n,ct m k=some (n,l):=by
 rw [dT] at h
 obtain⟨⟨n,l'⟩,h1,rfl⟩:=zn.1 h
 exact⟨n,h1⟩
theorem Dk.sec{d mp:Nat}{m:MFl}{c:Nat}{D:DD}{G:Nat→Prop}{H:aJ}(h:Dk d mp m c D G H){k:ByteArray}{n:Nat}{m2:MSc}(hg:ct m k=some (n,dt m2))(q:Int):D.sec k q=(ct m2 q).map (·.2):=by
 unfold DD.sec
 rw [h.fl,dT,hg]
 exact iZ m2 q
theorem wi{v:SV}{l:List Sct}{H:aJ}{F:Nat→Prop}{z:Nat}(h:ye v l H F)(hz:F z): ∃ vo,H.at' z=some vo:=by
 rcases h with ⟨_,_,h2⟩|⟨r,_,hr,hG⟩
 ·exact absurd hz (h2 z)
 ·rw [(hG z).1 hz];exact⟨_,hr⟩
theorem za(k:Int)(x:Nat×Sec)(H:aJ)(F:Nat→Prop)(z:Nat)(h:PS k x H F)(hz:F z): ∃ vo,H.at' z=some vo:=by
 obtain⟨v,G,h1,h2,h3,h4⟩:=h
 rcases(h4 z).1 hz with rfl|hz
 ·exact⟨_,h1⟩
 ·exact wi h2 hz
theorem wV(k:ByteArray)(x:Nat×List (Int×Sec))(H:aJ)(F:Nat→Prop)(z:Nat)(h:PF k x H F)(hz:F z): ∃ vo,H.at' z=some vo:=by
 obtain⟨ms,m,c,G,h1,_,h3⟩:=h
 rcases(h3 z).1 hz with rfl|rfl|hz
 ·exact⟨_,h1.box⟩
 ·exact⟨_,h1.map⟩
 ·exact Big.lt za h1.big hz
theorem DAt.lt{d:Nat}{D:DD}{Fp:Nat→Prop}{H:aJ}{nx:Nat}(h:DAt d D Fp H)(hu: ∀ b vo,H.at' b=some vo→b<nx): ∀ z,Fp z→z<nx:=fun z hz=>by
 obtain⟨mp,m,c,G,h,hF⟩:=h
 rcases(hF z).1 hz with rfl|rfl|hz
 ·exact hu _ _ h.box
 ·exact hu _ _ h.map
 ·obtain⟨vo,hv⟩:=Big.lt wV h.big hz
  exact hu _ _ hv
theorem wR{d:Nat}{D:DD}{Fp:Nat→Prop}{H:aJ}{nx:Nat}(hD:DAt d D Fp H)(k:ByteArray)(n:Int){l:List (Int×Sec)}(hl:aV D.files k=some l):Fnc Try.prog 44 [.ptr d 0,.sc (kE k),.sc (iE n)] H nx (fun r=>r=(.sc (.bool (D.fits k n)),H,nx)):=by
 obtain⟨mp,m,c,G,h,hF⟩:=hD
 have hbox:=h.box
 have hmap:=h.map
 rw [h.fl] at hl
 obtain⟨fn,hg⟩:=ij hl
 obtain⟨ms,m2,c2,G2,R,hf,rfl,_⟩:=h.file hg
 have hfb:=hf.box
 have hfm:=hf.map
 unfold DD.fits
 rw [h.sec hg]
 refine Fnc.start Try.func44 rfl rfl ?_
 (repeat(first|refine aj ?_|refine ac ?_|refine ab ?_|(apply ah;exact rfl;exact rfl;exact rfl)))
 (apply aR;(focus(kernel_rfl));(focus(kernel_rfl)))
 cases hs:ct m2 n with
 | none=>
   (repeat(first|(apply ay;exact rfl;exact rfl;exact rfl)|(apply dm;exact rfl;exact rfl;exact rfl)|(apply bK;exact rfl;exact rfl;exact rfl;exact rfl)|(apply bh;exact rfl;exact rfl;exact rfl)|(apply aZ;exact rfl;exact rfl;exact rfl;exact(F.fo _ _ rfl rfl))|(apply vU;exact rfl;exact rfl;exact rfl;exact rfl;exact rfl;exact(F.un _ rfl);exact rfl)|refine cQ rfl rfl rfl (F.ag _ rfl) (by assumption) (by exact rfl) ?_|refine gA (m:=m) (enc:=kE) (val:=fq) rfl rfl rfl rfl (F.un _ rfl) (kK) (by assumption) (hg) ?_|refine vW (m:=m2) (enc:=iE) (val:=gN) rfl rfl rfl rfl (F.un _ rfl) (iK) (by assumption) (hs) (F.ze _ rfl) ?_|((apply wS;exact rfl;exact rfl;exact rfl;exact rfl))))
   (refine aF ?_);(refine⟨by kernel_rfl,?_,?_⟩);(focus(repeat(first|exact trivial|refine⟨.inl rfl,?_⟩)))
   dsimp only [wrL]
   ((apply aQ Try.func44 (congrArg Array.toList Try.results44));(focus(repeat(first|exact ResIs.nil|apply ResIs.tmp rfl))))
   rw [show decide (D.used<D.cap)=decide ((D.used:Int)<(D.cap:Int))from decide_eq_decide.2 (by omega)]
   rfl
 | some x=>
   (repeat(first|(apply ay;exact rfl;exact rfl;exact rfl)|(apply dm;exact rfl;exact rfl;exact rfl)|(apply bS;exact rfl;exact rfl;exact rfl;exact rfl)|(apply bh;exact rfl;exact rfl;exact rfl)|(apply aZ;exact rfl;exact rfl;exact rfl;exact(F.fo _ _ rfl rfl))|(apply cn;exact rfl;exact rfl)|(apply vV;exact rfl;exact rfl;exact rfl;exact rfl;exact(F.un _ rfl);exact rfl)|refine cQ rfl rfl rfl (F.ag _ rfl) (by assumption) (by exact rfl) ?_|refine gA (m:=m) (enc:=kE) (val:=fq) rfl rfl rfl rfl (F.un _ rfl) (kK) (by assumption) (hg) ?_|refine gA (m:=m2) (enc:=iE) (val:=gN) rfl rfl rfl rfl (F.un _ rfl) (iK) (by assumption) (hs) ?_))
   (refine aF ?_);(refine⟨by kernel_rfl,?_,?_⟩);(focus(repeat(first|exact trivial|refine⟨.inl rfl,?_⟩)))
   dsimp only [wrL]
   ((apply aQ Try.func44 (congrArg Array.toList Try.results44));(focus(repeat(first|exact ResIs.nil|apply ResIs.tmp rfl))))
   rfl
theorem bSec:kz Try.prog 45 []=some (.agg (cF (Sct.full 0))):=by kernel_rfl
theorem lk{D:DD}{k:ByteArray}{n:Int}(h:D.look k n=0): ∃ l,aV D.files k=some l:=(mR h).2.2.2
theorem yC{d:Nat}{D:DD}{Fp:Nat→Prop}{H:aJ}{nx N:Nat}(hD:DAt d D Fp H)(hok:D.Ok N)(hN:N<1000000)(k:ByteArray)(hk:k.size≤140737488355328)(n:Int):Fnc Try.prog 20 [.ptr d 0,.sc (kE k),.sc (iE n)] H nx (fun q=>q.1 = .tup [.agg (cF (D.read k n).1),.sc (.int .i64 (D.read k n).2)]∧nx≤q.2.2∧ ∀ z,z<nx→q.2.1.at' z=H.at' z):=by
 refine Fnc.start Try.func20 rfl rfl ?_
 refine ca fun hund=>?_
 have hlt:=hD.lt hund
 have hD0:DAt d D Fp (H.set nx (ak 45 (cF (Sct.full 0)))):=hD.frame fun z hz=>Tr.aa _ _ (by have:=hlt z hz;omega)
 (repeat(first|refine aj ?_|refine ac ?_|refine ab ?_|(apply ai;exact rfl;exact rfl;exact rfl)|(apply ah;exact rfl;exact rfl;exact rfl)|(refine cy rfl rfl sh ?_)|(refine aL rfl rfl rfl (by kernel_rfl) (Fnc.mono (lj hD0 k hk n) ?_);rintro _ rfl;dsimp only)))
 (apply fe;exact rfl;exact rfl;exact rfl;exact rfl)
 all_goals intro h1
 ·rw [show D.read k n=(Sct.full 0,D.look k n) by unfold DD.read;rw [if_pos (by omega)]]
  (repeat(first|refine aj ?_|refine ac ?_|refine ab ?_|refine ar rfl ?_|(apply ai;exact rfl;exact rfl;exact rfl)|(apply ah;exact rfl;exact rfl;exact rfl)|refine bn rfl rfl rfl rfl (F.sz _ rfl) (by(repeat(exact Tr.ae _ _ _));done) rfl (by exact zi rfl) rfl ?_|(refine mv rfl rfl bSec ?_)))
  (try rw [dG])
  ((apply aQ Try.func20 (congrArg Array.toList Try.results20));(focus((apply ResIs.cell rfl (LoadIs.many (F.ag _ rfl) (by(repeat(exact Tr.ae _ _ _));done) (ck _)));apply ResIs.tmp rfl;exact ResIs.nil)))
  exact⟨rfl,zI _,fun z hz=>by(focus((repeat(refine(Tr.aa _ _ (by omega)).trans ?_));exact rfl))⟩
 ·have h0:D.look k n=0:=by omega
  obtain⟨l,hl⟩:=lk h0
  rw [show D.read k n=((((D.sec k n).map Sec.has).getD (Sct.full 0)),0) by unfold DD.read;rw [if_neg (by omega)]]
  have hwr:=hok.f.wr k l n
  obtain⟨mp,m,c,G,h,hF⟩:=hD0
  have hbox:=h.box
  have hmap:=h.map
  rw [h.fl] at hl hwr
  obtain⟨fn,hg⟩:=ij hl
  obtain⟨ms,m2,c2,G2,R,hf,rfl,_,_,hG⟩:=h.file hg
  have hfb:=hf.box
  have hfm:=hf.map
  rw [h.sec hg]
  cases hs:ct m2 n with
  | none=>
    (repeat(first|refine aj ?_|refine ac ?_|refine ab ?_|refine aA ?_|refine am rfl ?_|(apply ai;exact rfl;exact rfl;exact rfl)|(apply ah;exact rfl;exact rfl;exact rfl)|(apply aN;exact rfl;exact rfl;exact rfl)|(apply aI;exact rfl;exact rfl;exact rfl;exact(F.fo _ _ rfl rfl))|(apply sy;exact rfl;exact rfl;exact rfl;exact rfl;exact rfl;exact(F.un _ rfl);exact rfl)|refine bn rfl rfl rfl rfl (F.sz _ rfl) (by(repeat(first|assumption|exact Tr.ae _ _ _));done) rfl (by exact zi rfl) rfl ?_|refine aG rfl rfl rfl (F.ag _ rfl) (by assumption) (by exact rfl) ?_|refine cV (m:=m) (enc:=kE) (val:=fq) rfl rfl rfl rfl (F.un _ rfl) (kK) (by assumption) (hg) ?_|refine mu (m:=m2) (enc:=iE) (val:=gN) rfl rfl rfl rfl (F.un _ rfl) (iK) (by assumption) (hs) (F.ze _ rfl) ?_|(refine mv rfl rfl bSec ?_)))
    (try rw [dG])
    ((apply aQ Try.func20 (congrArg Array.toList Try.results20));(focus((apply ResIs.cell rfl (LoadIs.many (F.ag _ rfl) (by(repeat(exact Tr.ae _ _ _));done) (ck _)));apply ResIs.tmp rfl;exact ResIs.nil)))
    exact⟨rfl,zI _,fun z hz=>by(focus((repeat(refine(Tr.aa _ _ (by omega)).trans ?_));exact rfl))⟩
  | some x=>
    obtain⟨q,x⟩:=x
    obtain⟨F1,R1,hps,_,_,hG2⟩:=hf.sec hs
    have hpl: ∀ z,F1 z→z<nx:=fun z hz=>hlt z ((hF z).2 (.inr (.inr ((hG z).2 (.inl (.inr (.inr ((hG2 z).2 (.inl hz)))))))))
    have hq:q<nx:=by
     obtain⟨v,G3,_,_,_,g4⟩:=id hps
     exact hpl q ((g4 q).2 (.inl rfl))
    have hle:=hwr x (hl ▸ rfl) (by rw [iZ,hs];rfl)
    (repeat(first|(refine eP rfl rfl rfl (F.sz _ rfl) (by(repeat(exact Tr.ae _ _ _));done) (bm _) (by rw [bm];exact zy _) (eJ _) (dG _ _) ?_)|refine aj ?_|refine ac ?_|refine ab ?_|refine aA ?_|refine ar rfl ?_|refine am rfl ?_|(apply ai;exact rfl;exact rfl;exact rfl)|(apply ah;exact rfl;exact rfl;exact rfl)|(apply aN;exact rfl;exact rfl;exact rfl)|(apply aI;exact rfl;exact rfl;exact rfl;exact(F.fo _ _ rfl rfl))|(apply sA;exact rfl;exact rfl;exact rfl;exact rfl;exact(F.un _ rfl);exact rfl)|refine aG rfl rfl rfl (F.ag _ rfl) (by assumption) (by exact rfl) ?_|refine cV (m:=m) (enc:=kE) (val:=fq) rfl rfl rfl rfl (F.un _ rfl) (kK) (by assumption) (hg) ?_|refine cV (m:=m2) (enc:=iE) (val:=gN) rfl rfl rfl rfl (F.un _ rfl) (iK) (by assumption) (hs) ?_|(refine aL rfl rfl rfl (by kernel_rfl) (Fnc.mono (vS hps (by omega) (by omega) (fun z hz=>Nat.lt_succ_of_lt (hpl z hz))) ?_);rintro _ rfl;dsimp only)))
    (try rw [dG])
    ((apply aQ Try.func20 (congrArg Array.toList Try.results20));(focus((apply ResIs.cell rfl (LoadIs.many (F.ag _ rfl) (by(repeat(exact Tr.ae _ _ _));done) (ck _)));apply ResIs.tmp rfl;exact ResIs.nil)))
    exact⟨rfl,zI _,fun z hz=>by(focus((repeat(refine(Tr.aa _ _ (by omega)).trans ?_));exact rfl))⟩
theorem kn{d:Nat}{D:DD}{Fp:Nat→Prop}{H:aJ}{nx N:Nat}(hD:DAt d D Fp H)(hok:D.Ok N)(hN:N<1000000)(k:ByteArray)(hk:k.size≤140737488355328)(n:Int):Fnc Try.prog 20 [.ptr d 0,.sc (kE k),.sc (iE n)] H nx (fun q=>q=(.tup [.agg (cF (D.read k n).1),.sc (.int .i64 (D.read k n).2)],H,nx)):=Fnc.nw (Free.two (Free.agg _) (Free.sc _)) (yC hD hok hN k hk n)
theorem tT{d:Nat}{D:DD}{Fp:Nat→Prop}{H:aJ}{nx:Nat}(hD:DAt d D Fp H)(k:ByteArray)(hk:k.size≤140737488355328)(n:Int):Fnc Try.prog 21 [.ptr d 0,.sc (kE k),.sc (iE n)] H nx (fun q=>q=(.tup [.sc (.bool (D.lasts k n).1),.sc (.int .i64 (D.lasts k n).2)],H,nx)):=by
 refine Fnc.start Try.func21 rfl rfl ?_
 (repeat(first|refine aj ?_|refine ac ?_|refine ab ?_|(apply ai;exact rfl;exact rfl;exact rfl)|(apply ah;exact rfl;exact rfl;exact rfl)|(refine aL rfl rfl rfl (by kernel_rfl) (Fnc.mono (lj hD k hk n) ?_);rintro _ rfl;dsimp only)))
 (apply fe;exact rfl;exact rfl;exact rfl;exact rfl)
 all_goals intro h1
 ·rw [show D.lasts k n=(false,D.look k n) by unfold DD.lasts;rw [if_pos (by omega)]]
  (repeat(first|refine aj ?_|refine ac ?_|refine ab ?_|refine ar rfl ?_|(apply ai;exact rfl;exact rfl;exact rfl)|(apply ah;exact rfl;exact rfl;exact rfl)))
  ((apply aQ Try.func21 (congrArg Array.toList Try.results21));(focus(repeat(first|exact ResIs.nil|apply ResIs.tmp rfl))))
  rfl
 ·have h0:D.look k n=0:=by omega
  obtain⟨l,hl⟩:=lk h0
  rw [show D.lasts k n=((((D.sec k n).map Sec.calm).getD true),0) by unfold DD.lasts;rw [if_neg (by omega)]]
  obtain⟨mp,m,c,G,h,hF⟩:=hD
  have hbox:=h.box
  have hmap:=h.map
  rw [h.fl] at hl
  obtain⟨fn,hg⟩:=ij hl
  obtain⟨ms,m2,c2,G2,R,hf,rfl,_,_,hG⟩:=h.file hg
  have hfb:=hf.box
  have hfm:=hf.map
  rw [h.sec hg]
  cases hs:ct m2 n with
  | none=>
    (repeat(first|refine aj ?_|refine ac ?_|refine ab ?_|refine aA ?_|refine am rfl ?_|(apply ai;exact rfl;exact rfl;exact rfl)|(apply ah;exact rfl;exact rfl;exact rfl)|(apply dz;exact rfl;exact rfl;exact rfl;exact rfl)|(apply aN;exact rfl;exact rfl;exact rfl)|(apply aI;exact rfl;exact rfl;exact rfl;exact(F.fo _ _ rfl rfl))|(apply jn;exact rfl)|(apply sD;exact rfl;exact rfl;exact rfl;exact rfl;exact rfl;exact(F.un _ rfl);exact rfl)|refine aG rfl rfl rfl (F.ag _ rfl) (by assumption) (by exact rfl) ?_|refine cV (m:=m) (enc:=kE) (val:=fq) rfl rfl rfl rfl (F.un _ rfl) (kK) (by assumption) (hg) ?_|refine mu (m:=m2) (enc:=iE) (val:=gN) rfl rfl rfl rfl (F.un _ rfl) (iK) (by assumption) (hs) (F.ze _ rfl) ?_))
    ((apply aQ Try.func21 (congrArg Array.toList Try.results21));(focus(repeat(first|exact ResIs.nil|apply ResIs.tmp rfl))))
    rfl
  | some x=>
    obtain⟨q,x⟩:=x
    obtain⟨F1,R1,⟨v,G3,g1,g2,_⟩,_,_,hG2⟩:=hf.sec hs
    dsimp only at g1 g2
    rcases g2 with ⟨rfl,hw,_⟩|⟨r,rfl,hr,_⟩
    ·have hcalm:x.calm=true:=by unfold Sec.calm;rw [hw];rfl
     (repeat(first|refine aj ?_|refine ac ?_|refine ab ?_|refine aA ?_|refine am rfl ?_|(apply ai;exact rfl;exact rfl;exact rfl)|(apply ah;exact rfl;exact rfl;exact rfl)|(apply bL;exact rfl;exact rfl;exact rfl;exact rfl)|(apply aN;exact rfl;exact rfl;exact rfl)|(apply aI;exact rfl;exact rfl;exact rfl;exact(F.fo _ _ rfl rfl))|(apply eI;exact rfl;exact rfl;exact rfl;exact rfl;exact(F.un _ rfl);exact rfl)|refine aG rfl rfl rfl (F.ag _ rfl) (by assumption) (by exact rfl) ?_|refine cV (m:=m) (enc:=kE) (val:=fq) rfl rfl rfl rfl (F.un _ rfl) (kK) (by assumption) (hg) ?_|refine cV (m:=m2) (enc:=iE) (val:=gN) rfl rfl rfl rfl (F.un _ rfl) (iK) (by assumption) (hs) ?_|(refine jd rfl rfl rfl (F.ag _ rfl) g1 (bX _ _) ?_)|((apply kH;exact rfl;exact rfl;exact rfl;exact(F.un _ rfl)))|((apply nE;exact rfl;exact rfl;exact rfl;exact rfl))))
     ((apply aQ Try.func21 (congrArg Array.toList Try.results21));(focus(repeat(first|exact ResIs.nil|apply ResIs.tmp rfl))))
     simp only [zF,Option.getD_some,hcalm]
     rfl
    ·have hcalm:x.calm=decide ((x.writes.length:Int)=0):=by
      unfold Sec.calm
      cases x.writes with
      | nil=>rfl
      | cons y l=>exact(decide_eq_false (by simp only [zC];omega)).symm
     (repeat(first|refine aj ?_|refine ac ?_|refine ab ?_|refine aA ?_|refine am rfl ?_|(apply ai;exact rfl;exact rfl;exact rfl)|(apply ah;exact rfl;exact rfl;exact rfl)|(apply aN;exact rfl;exact rfl;exact rfl)|(apply aI;exact rfl;exact rfl;exact rfl;exact(F.fo _ _ rfl rfl))|(apply eI;exact rfl;exact rfl;exact rfl;exact rfl;exact(F.un _ rfl);exact rfl)|refine aG rfl rfl rfl (F.ag _ rfl) (by assumption) (by exact rfl) ?_|(apply dj;exact rfl;exact rfl;exact rfl;exact(F.un _ rfl))|refine cV (m:=m) (enc:=kE) (val:=fq) rfl rfl rfl rfl (F.un _ rfl) (kK) (by assumption) (hg) ?_|refine cV (m:=m2) (enc:=iE) (val:=gN) rfl rfl rfl rfl (F.un _ rfl) (iK) (by assumption) (hs) ?_|(refine jd rfl rfl rfl (F.ag _ rfl) g1 (bX _ _) ?_)|((apply cO;exact rfl;exact rfl;exact rfl;exact rfl))))
     all_goals intro h5
     all_goals(repeat(first|refine ab ?_|(apply ah;exact rfl;exact rfl;exact rfl)|(apply bL;exact rfl;exact rfl;exact rfl;exact rfl)))
     all_goals((apply aQ Try.func21 (congrArg Array.toList Try.results21));(focus(repeat(first|exact ResIs.nil|apply ResIs.tmp rfl))))
     all_goals simp only [zF,Option.getD_some,hcalm,h5]
     all_goals rfl
def x5(d:Nat)(D':DD)(v:SV)(Fp:Nat→Prop)(H:aJ)(nx:Nat):Pst:=fun q=>q.1=v∧ ∃ F',DAt d D' F' q.2.1∧Stp Fp F' H nx q.2.1 q.2.2
theorem Dk.set{d mp:Nat}{m:MFl}{c:Nat}{D D':DD}{G:Nat→Prop}{H H':aJ}(h:Dk d mp m c D G H)(hf:D'.files=D.files)(hc:D'.cap=D.cap)(hb:H'.at' d=some (ak 58 (dkC D' mp)))(fr: ∀ z,z≠d→H'.at' z=H.at' z):Dk d mp m c D' G H':=
 ⟨hb,(fr mp h.ne.symm).trans h.map,h.ok,Big.frame dQ _ _ _ _ h.big fun z hz=>fr z fun e=>h.nd (e ▸ hz),hf.trans h.fl,h.ne,h.nd,h.nm,by rw [hc];exact h.cap⟩
theorem jU{D D':DD}(h:D'.files=D.files):D'.used=D.used:=by unfold DD.used;rw [h]
theorem jM{d:Nat}{D:DD}{Fp:Nat→Prop}{H:aJ}{nx N:Nat}(hD:DAt d D Fp H)(hok:D.Ok N)(hN:N<1000000)(wr:Bool)(f:FuncId)(caps:List SV)(g:DD→DD)(hm:ce Try.prog f=true)
 (hdo: ∀ D1 H1,D1.files=D.files→D1.cap=D.cap→DAt d D1 Fp H1→(∀ z,z≠d→H1.at' z=H.at' z)→Fnc Try.prog f caps H1 nx (fun q=> ∃ F',DAt d (g D1) F' q.2.1∧Stp Fp F' H1 nx q.2.1 q.2.2)) :
 Fnc Try.prog 40 [.ptr d 0,.sc (.bool wr),.fn (.func f) [] caps] H nx (x5 d (D.change wr g).1 (.sc (.int .i64 (D.change wr g).2)) Fp H nx):=by
 obtain⟨mp,m,c,G,h,hF⟩:=hD
 have hbox:=h.box
 have hch:=hok.chg
 have hfu:=hok.fuse
 have hFd:Fp d:=(hF d).2 (.inl rfl)
 have stp: ∀ {F':Nat→Prop} {H1 H2:aJ} {n2:Nat},(∀ z,z≠d→H1.at' z=H.at' z)→Stp Fp F' H1 nx H2 n2→Stp Fp F' H nx H2 n2:=fun hk hs=>⟨hs.1,hs.2.1,fun z hz hn=>(hs.2.2 z hz hn).trans (hk z fun e=>hn (e ▸ hFd))⟩
 refine Fnc.start Try.func40 rfl rfl ?_
 (repeat(first|refine aj ?_|refine ac ?_|refine ab ?_|(apply ai;exact rfl;exact rfl;exact rfl)|(apply ah;exact rfl;exact rfl;exact rfl)|(apply aN;exact rfl;exact rfl;exact rfl)|(apply aI;exact rfl;exact rfl;exact rfl;exact(F.fo _ _ rfl rfl))|refine aG rfl rfl rfl (F.ag _ rfl) (by assumption) (by exact rfl) ?_))
 unfold DD.change
 cases hd:D.dead with
 | true=>
   (repeat(first|refine aj ?_|refine ac ?_|refine ab ?_|refine ar rfl ?_|(apply ah;exact rfl;exact rfl;exact rfl)))
   ((apply aQ Try.func40 (congrArg Array.toList Try.results40));(focus(repeat(first|exact ResIs.nil|apply ResIs.tmp rfl))))
   exact⟨rfl,Fp,⟨mp,m,c,G,h,hF⟩,Stp.refl⟩
 | false=>
   (repeat(first|refine aj ?_|refine ac ?_|refine ab ?_|refine aA ?_|refine am rfl ?_|(apply ai;exact rfl;exact rfl;exact rfl)|(apply aN;exact rfl;exact rfl;exact rfl)|(apply aI;exact rfl;exact rfl;exact rfl;exact(F.fo _ _ rfl rfl))|refine bn rfl rfl rfl rfl (F.sz _ rfl) (by first|exact rfl|assumption) rfl (by exact zi rfl) rfl ?_|refine aG rfl rfl rfl (F.ag _ rfl) (by(repeat(first|assumption|exact Tr.ae _ _ _));done) (by exact rfl) ?_|(apply bi;exact rfl;exact rfl;exact rfl;exact rfl;(focus(omega));(focus(omega)))))
   simp only [Bool.false_eq_true,if_false]
   (apply cO;exact rfl;exact rfl;exact rfl;exact rfl)
   all_goals intro h1
   ·rw [if_pos h1]
    cases wr with
    | false=>
      (repeat(first|refine aj ?_|refine ac ?_|refine ab ?_|refine aA ?_|refine ar rfl ?_|refine am rfl ?_|(apply ai;exact rfl;exact rfl;exact rfl)|(apply ah;exact rfl;exact rfl;exact rfl)|(apply aN;exact rfl;exact rfl;exact rfl)|(apply aI;exact rfl;exact rfl;exact rfl;exact(F.fo _ _ rfl rfl))|refine bn rfl rfl rfl rfl (F.sz _ rfl) (by first|exact rfl|(focus((repeat(first|assumption|exact Tr.ae _ _ _));done))) rfl (by exact zi rfl) rfl ?_))
      ((apply aQ Try.func40 (congrArg Array.toList Try.results40));(focus(repeat(first|exact ResIs.nil|apply ResIs.tmp rfl))))
      exact⟨rfl,Fp,⟨mp,m,c,G,h.set rfl rfl (Tr.ae _ _ _) (fun z hz=>(Tr.aa _ _ hz).trans (Tr.aa _ _ hz)),hF⟩,stp (fun z hz=>(Tr.aa _ _ hz).trans (Tr.aa _ _ hz)) Stp.refl⟩
    | true=>
      (repeat(first|refine aj ?_|refine ac ?_|refine ab ?_|refine ar rfl ?_|(apply ai;exact rfl;exact rfl;exact rfl)|(apply aN;exact rfl;exact rfl;exact rfl)|(apply aI;exact rfl;exact rfl;exact rfl;exact(F.fo _ _ rfl rfl))|refine bn rfl rfl rfl rfl (F.sz _ rfl) (by first|exact rfl|(focus((repeat(first|assumption|exact Tr.ae _ _ _));done))) rfl (by exact zi rfl) rfl ?_))
      refine pq rfl rfl rfl rfl hm (Fnc.mono (hdo {D with dead:=true,changes:=D.changes+1} _ rfl rfl ⟨mp,m,c,G,h.set rfl rfl (Tr.ae _ _ _) (fun z hz=>(Tr.aa _ _ hz).trans (Tr.aa _ _ hz)),hF⟩ (fun z hz=>(Tr.aa _ _ hz).trans (Tr.aa _ _ hz))) ?_)
      rintro⟨_,H2,n2⟩ ⟨F',hA,hS⟩
      dsimp only at hA hS ⊢
      (repeat(first|refine aj ?_|refine ac ?_|refine ab ?_|(apply ah;exact rfl;exact rfl;exact rfl)))
      ((apply aQ Try.func40 (congrArg Array.toList Try.results40));(focus(repeat(first|exact ResIs.nil|apply ResIs.tmp rfl))))
      exact⟨rfl,F',hA,stp (fun z hz=>(Tr.aa _ _ hz).trans (Tr.aa _ _ hz)) hS⟩
   ·rw [if_neg h1]
    (repeat(first|refine aj ?_|refine ac ?_|refine ab ?_|refine aA ?_|refine am rfl ?_|(apply ai;exact rfl;exact rfl;exact rfl)|(apply aN;exact rfl;exact rfl;exact rfl)|(apply aI;exact rfl;exact rfl;exact rfl;exact(F.fo _ _ rfl rfl))|refine aG rfl rfl rfl (F.ag _ rfl) (by(repeat(first|assumption|exact Tr.ae _ _ _));done) (by exact rfl) ?_))
    (apply dS;exact rfl;exact rfl;exact rfl;exact rfl)
    all_goals intro h2
    ·rw [if_pos h2]
     (repeat(first|refine aj ?_|refine ac ?_|refine ab ?_|refine ar rfl ?_|(apply ai;exact rfl;exact rfl;exact rfl)|(apply aN;exact rfl;exact rfl;exact rfl)|(apply aI;exact rfl;exact rfl;exact rfl;exact(F.fo _ _ rfl rfl))|refine bn rfl rfl rfl rfl (F.sz _ rfl) (by first|exact rfl|(focus((repeat(first|assumption|exact Tr.ae _ _ _));done))) rfl (by exact zi rfl) rfl ?_|refine aG rfl rfl rfl (F.ag _ rfl) (by(repeat(first|assumption|exact Tr.ae _ _ _));done) (by exact rfl) ?_|(apply bN;exact rfl;exact rfl;exact rfl;exact rfl;(focus(omega));(focus(omega)))))
     refine pq rfl rfl rfl rfl hm (Fnc.mono (hdo {D with fuse:=D.fuse-1,dead:=false,changes:=D.changes+1} _ rfl rfl ⟨mp,m,c,G,h.set rfl rfl ((Tr.ae _ _ _).trans (by rw [← hd];rfl)) (fun z hz=>(Tr.aa _ _ hz).trans (Tr.aa _ _ hz)),hF⟩ (fun z hz=>(Tr.aa _ _ hz).trans (Tr.aa _ _ hz))) ?_)
     rintro⟨_,H2,n2⟩ ⟨F',hA,hS⟩
     dsimp only at hA hS ⊢
     (repeat(first|refine aj ?_|refine ac ?_|refine ab ?_|(apply ah;exact rfl;exact rfl;exact rfl)))
     ((apply aQ Try.func40 (congrArg Array.toList Try.results40));(focus(repeat(first|exact ResIs.nil|apply ResIs.tmp rfl))))
     exact⟨rfl,F',hA,stp (fun z hz=>(Tr.aa _ _ hz).trans (Tr.aa _ _ hz)) hS⟩
    ·rw [if_neg (show ¬ 0<D.fuse by omega)]
     (repeat(first|refine aj ?_|refine ac ?_|refine ab ?_|refine aA ?_|refine am rfl ?_|(apply ai;exact rfl;exact rfl;exact rfl)))
     refine pq rfl rfl rfl rfl hm (Fnc.mono (hdo {D with dead:=false,changes:=D.changes+1} _ rfl rfl ⟨mp,m,c,G,h.set rfl rfl ((Tr.ae _ _ _).trans (by rw [← hd];rfl)) (fun z hz=>Tr.aa _ _ hz),hF⟩ (fun z hz=>Tr.aa _ _ hz)) ?_)
     rintro⟨_,H2,n2⟩ ⟨F',hA,hS⟩
     dsimp only at hA hS ⊢
     (repeat(first|refine aj ?_|refine ac ?_|refine ab ?_|(apply ah;exact rfl;exact rfl;exact rfl)))
     ((apply aQ Try.func40 (congrArg Array.toList Try.results40));(focus(repeat(first|exact ResIs.nil|apply ResIs.tmp rfl))))
     exact⟨rfl,F',hA,stp (fun z hz=>Tr.aa _ _ hz) hS⟩
theorem jH(m:MFl)(k:ByteArray)(n:Nat)(l:List (Int×Sec))(c:Nat):po (c6 m k (n,l) c)=bZ (po m) k l:=by
 unfold po
 rw [oH]
 exact qI (fun x:Nat×List (Int×Sec)=>x.2) (kv m) k (n,l)
theorem qo(m:MSc)(k:Int)(n:Nat)(s:Sec)(c:Nat):dt (c6 m k (n,s) c)=bZ (dt m) k s:=by
 unfold dt
 rw [oH]
 exact qI (fun x:Nat×Sec=>x.2) (kv m) k (n,s)
theorem tK{K V:Type} [DecidableEq K](m:List (K×V))(k:K)(x y:V):bZ (bZ m k x) k y=bZ m k y:=by
 induction m with
 | nil=>simp [bZ]
 | cons z m ih=>
   by_cases h:z.1=k
   ·simp [bZ,h]
   ·simp [bZ,h,ih]
def Foc(d:Nat)(k:ByteArray)(n:Int)(q:Nat)(s:Sec)(D:DD)(Fp:Nat→Prop)(H:aJ):Prop:= ∃ (v:SV) (GW Rest:Nat→Prop),H.at' q=some (ak 80 (cF s.lasts ++ [v]))∧ye v s.writes H GW∧ ¬ GW q∧ ¬ Rest q∧(∀ z,GW z→ ¬ Rest z)∧(∀ z,Fp z↔z=q∨GW z∨Rest z)∧Rest d∧(∀ z,Fp z→ ∃ vo,H.at' z=some vo) ∧
 ∀ (H':aJ) (s':Sec) (v':SV) (GW':Nat→Prop),H'.at' q=some (ak 80 (cF s'.lasts ++ [v']))→ye v' s'.writes H' GW'→ ¬ GW' q→(∀ z,GW' z→ ¬ Rest z)→(∀ z,Rest z→H'.at' z=H.at' z)→DAt d (D.lay k n fun _=>s') (fun z=>z=q∨GW' z∨Rest z) H'
theorem Dk.foc{d mp:Nat}{m:MFl}{c:Nat}{D:DD}{G:Nat→Prop}{H:aJ}(h:Dk d mp m c D G H){k:ByteArray}{fn ms:Nat}{m2:MSc}{c2:Nat}{G2 R:Nat→Prop}(hg:ct m k=some (fn,dt m2))(hf:Fl fn ms m2 c2 G2 H)(hR:Big PF (kv (ig m k)) H R)(hd: ∀ z,(z=fn∨z=ms∨G2 z)→ ¬ R z)(hG: ∀ z,G z↔(z=fn∨z=ms∨G2 z)∨R z)
 {n:Int} {q:Nat} {s:Sec} (hs:ct m2 n=some (q,s)):Foc d k n q s D (fun z=>z=d∨z=mp∨G z) H:=by
 obtain⟨F1,R1,⟨v,GW,p1,p2,p3,p4⟩,r1,r2,r3⟩:=hf.sec hs
 dsimp only at p1 p2 p3 p4
 have gq:G2 q:=(r3 q).2 (.inl ((p4 q).2 (.inl rfl)))
 have gw: ∀ z,GW z→G2 z:=fun z hz=>(r3 z).2 (.inl ((p4 z).2 (.inr hz)))
 have out: ∀ z,G2 z→z≠d∧z≠mp∧z≠fn∧z≠ms∧ ¬ R z:=fun z hz=>by
  have hGz:G z:=(hG z).2 (.inl (.inr (.inr hz)))
  exact⟨fun e=>h.nd (e ▸ hGz),fun e=>h.nm (e ▸ hGz),fun e=>hf.nn (e ▸ hz),fun e=>hf.nm (e ▸ hz),hd z (.inr (.inr hz))⟩
 have rest: ∀ z,G2 z→ ¬ R1 z→ ¬ (z=d∨z=mp∨z=fn∨z=ms∨R1 z∨R z):=fun z hz h1 h2=>by
  obtain⟨o1,o2,o3,o4,o5⟩:=out z hz
  rcases h2 with h2|h2|h2|h2|h2|h2
  ·exact o1 h2
  ·exact o2 h2
  ·exact o3 h2
  ·exact o4 h2
  ·exact h1 h2
  ·exact o5 h2
 refine⟨v,GW,fun z=>z=d∨z=mp∨z=fn∨z=ms∨R1 z∨R z,p1,p2,p3,rest q gq (r2 q ((p4 q).2 (.inl rfl))),fun z hz=>rest z (gw z hz) (r2 z ((p4 z).2 (.inr hz))),fun z=>?_,.inl rfl,fun z hz=>?_,?_⟩
 rotate_left
 ·rcases hz with rfl|rfl|hz
  ·exact⟨_,h.box⟩
  ·exact⟨_,h.map⟩
  ·exact Big.lt wV h.big hz
 rotate_left
 ·show(z=d∨z=mp∨G z)↔z=q∨GW z∨(z=d∨z=mp∨z=fn∨z=ms∨R1 z∨R z)
  rw [hG,r3,p4]
  constructor
  ·rintro(h|h|(h|h|(h|h)|h)|h)
   ·exact .inr (.inr (.inl h))
   ·exact .inr (.inr (.inr (.inl h)))
   ·exact .inr (.inr (.inr (.inr (.inl h))))
   ·exact .inr (.inr (.inr (.inr (.inr (.inl h)))))
   ·exact .inl h
   ·exact .inr (.inl h)
   ·exact .inr (.inr (.inr (.inr (.inr (.inr (.inl h))))))
   ·exact .inr (.inr (.inr (.inr (.inr (.inr (.inr h))))))
  ·rintro(h|h|h|h|h|h|h|h)
   ·exact .inr (.inr (.inl (.inr (.inr (.inl (.inl h))))))
   ·exact .inr (.inr (.inl (.inr (.inr (.inl (.inr h))))))
   ·exact .inl h
   ·exact .inr (.inl h)
   ·exact .inr (.inr (.inl (.inl h)))
   ·exact .inr (.inr (.inl (.inr (.inl h))))
   ·exact .inr (.inr (.inl (.inr (.inr (.inr h)))))
   ·exact .inr (.inr (.inr h))
 intro H' s' v' GW' e1 e2 e3 e4 fr
 have ps:PS n (q,s') H' (fun z=>z=q∨GW' z):=⟨v',GW',e1,e2,e3,fun z=>Iff.rfl⟩
 have b2:Big PS (kv (c6 m2 n (q,s') c2)) H' (fun z=>(z=q∨GW' z)∨R1 z):=Big.put dw hs c2 r1 ps (fun z hz=>fr z (.inr (.inr (.inr (.inr (.inl hz)))))) fun z hz=>by
  rcases hz with rfl|hz
  ·exact r2 z ((p4 z).2 (.inl rfl))
  ·exact fun hr=>e4 z hz (.inr (.inr (.inr (.inr (.inl hr)))))
 have gout: ∀ z,((z=q∨GW' z)∨R1 z)→z≠d∧z≠mp∧z≠fn∧z≠ms∧ ¬ R z:=fun z hz=>by
  rcases hz with (rfl|hz)|hz
  ·exact out z gq
  ·have:=e4 z hz
   exact⟨fun e=>this (.inl e),fun e=>this (.inr (.inl e)),fun e=>this (.inr (.inr (.inl e))),fun e=>this (.inr (.inr (.inr (.inl e)))),fun e=>this (.inr (.inr (.inr (.inr (.inr e)))))⟩
  ·exact out z ((r3 z).2 (.inr hz))
 have hk2:=hf.ok.put n (q,s')
 rw [jG hs] at hk2
 have fl:Fl fn ms (c6 m2 n (q,s') c2) c2 (fun z=>(z=q∨GW' z)∨R1 z) H':=
  ⟨(fr fn (.inr (.inr (.inl rfl)))).trans hf.box,(fr ms (.inr (.inr (.inr (.inl rfl))))).trans (hf.map.trans (congrArg (fun l=>some (VO.map l c2)) (iC (g:=gN) (y:=(q,s')) hs rfl c2).symm)),hk2,b2,hf.ne,fun hz=>(gout fn hz).2.2.1 rfl,fun hz=>(gout ms hz).2.2.2.1 rfl⟩
 have pf:PF k (fn,dt (c6 m2 n (q,s') c2)) H' (fun z=>z=fn∨z=ms∨((z=q∨GW' z)∨R1 z)):=⟨ms,_,c2,_,fl,rfl,fun z=>Iff.rfl⟩
 have dis: ∀ z,(z=fn∨z=ms∨((z=q∨GW' z)∨R1 z))→ ¬ R z:=fun z hz=>by
  rcases hz with hz|hz|hz
  ·exact hd z (.inl hz)
  ·exact hd z (.inr (.inl hz))
  ·exact(gout z hz).2.2.2.2
 have b1:Big PF (kv (c6 m k (fn,dt (c6 m2 n (q,s') c2)) c)) H' (fun z=>(z=fn∨z=ms∨((z=q∨GW' z)∨R1 z))∨R z):=Big.put dQ hg c hR pf (fun z hz=>fr z (.inr (.inr (.inr (.inr (.inr hz)))))) dis
 have hk:=h.ok.put k (fn,dt (c6 m2 n (q,s') c2))
 rw [jG hg] at hk
 have hmg:aV D.files k=some (dt m2):=by rw [h.fl,dT,hg];rfl
 have hms:aV (dt m2) n=some s:=by rw [iZ,hs];rfl
 have hlay:(D.lay k n fun _=>s')=D.setFiles (bZ D.files k (bZ (dt m2) n s')):=by unfold DD.lay;rw [hmg]
 have hus:(D.setFiles (bZ D.files k (bZ (dt m2) n s'))).used=D.used:=by
  have:=fj hmg (bZ (dt m2) n s')
  rw [mU hms] at this
  show cd _=cd _
  simp only [DD.setFiles]
  omega
 have dout: ∀ z,((z=fn∨z=ms∨((z=q∨GW' z)∨R1 z))∨R z)→z≠d∧z≠mp:=fun z hz=>by
  rcases hz with (hz|hz|hz)|hz
  ·have:G z:=(hG z).2 (.inl (.inl hz))
   exact⟨fun e=>h.nd (e ▸ this),fun e=>h.nm (e ▸ this)⟩
  ·have:G z:=(hG z).2 (.inl (.inr (.inl hz)))
   exact⟨fun e=>h.nd (e ▸ this),fun e=>h.nm (e ▸ this)⟩
  ·exact⟨(gout z hz).1,(gout z hz).2.1⟩
  ·have:G z:=(hG z).2 (.inr hz)
   exact⟨fun e=>h.nd (e ▸ this),fun e=>h.nm (e ▸ this)⟩
 rw [hlay]
 refine⟨mp,_,c,_,⟨?_,(fr mp (.inr (.inl rfl))).trans (h.map.trans (congrArg (fun l=>some (VO.map l c)) (iC (g:=fq) (y:=(fn,dt (c6 m2 n (q,s') c2))) hg rfl c).symm)),hk,b1,?_,h.ne,fun hz=>(dout d hz).1 rfl,fun hz=>(dout mp hz).2 rfl,h.cap⟩,fun z=>?_⟩
 ·refine(fr d (.inl rfl)).trans (h.box.trans ?_)
  unfold dkC
  rw [hus]
  rfl
 ·show bZ D.files k (bZ (dt m2) n s')=_
  rw [jH,qo,h.fl]
 ·constructor
  ·rintro(h|h|h|h|h|h|h|h)
   ·exact .inr (.inr (.inl (.inr (.inr (.inl (.inl h))))))
   ·exact .inr (.inr (.inl (.inr (.inr (.inl (.inr h))))))
   ·exact .inl h
   ·exact .inr (.inl h)
   ·exact .inr (.inr (.inl (.inl h)))
   ·exact .inr (.inr (.inl (.inr (.inl h))))
   ·exact .inr (.inr (.inl (.inr (.inr (.inr h)))))
   ·exact .inr (.inr (.inr h))
  ·rintro(h|h|(h|h|(h|h)|h)|h)
   ·exact .inr (.inr (.inl h))
   ·exact .inr (.inr (.inr (.inl h)))
   ·exact .inr (.inr (.inr (.inr (.inl h))))
   ·exact .inr (.inr (.inr (.inr (.inr (.inl h)))))
   ·exact .inl h
   ·exact .inr (.inl h)
   ·exact .inr (.inr (.inr (.inr (.inr (.inr (.inl h))))))
   ·exact .inr (.inr (.inr (.inr (.inr (.inr (.inr h))))))
theorem tL{K V:Type} [DecidableEq K]{l:List (K×V)}{k:K}{v:V}(h:aV l k=some v)(w:V):eF (bZ l k w) k=eF l k:=by
 obtain⟨A,B,rfl,h2⟩:=db h
 rw [iz h2,iB h2,iB h2]
theorem Dk.addSec{d mp:Nat}{m:MFl}{c:Nat}{D:DD}{G:Nat→Prop}{H:aJ}(h:Dk d mp m c D G H){k:ByteArray}{fn ms:Nat}{m2:MSc}{c2:Nat}{G2 R:Nat→Prop}(hg:ct m k=some (fn,dt m2))(hf:Fl fn ms m2 c2 G2 H)(hR:Big PF (kv (ig m k)) H R)(hd: ∀ z,(z=fn∨z=ms∨G2 z)→ ¬ R z)(hG: ∀ z,G z↔(z=fn∨z=ms∨G2 z)∨R z)
 {n:Int} (hs:ct m2 n=none) {x:Nat} (hx: ∀ z,(z=d∨z=mp∨G z)→z<x) {H':aJ} (e1:H'.at' x=some (ak 80 (cF Sec.zero.lasts ++ [.sc (.slice none 0 0)]))) (e2:H'.at' ms=some (eO iE gN (c6 m2 n (x,Sec.zero) c2) (kw m2 n c2)))
 (e3:H'.at' d=some (ak 58 (dkC (D.lay k n fun s=>s) mp))) (fr: ∀ z,(z=mp∨z=fn∨G2 z∨R z)→H'.at' z=H.at' z):Foc d k n x Sec.zero (D.lay k n fun s=>s) (fun z=>z=d∨z=mp∨((z=fn∨z=ms∨(z=x∨G2 z))∨R z)) H':=by
 have xd:x≠d:=fun e=>by have:=hx d (.inl rfl);omega
 have xm:x≠mp:=fun e=>by have:=hx mp (.inr (.inl rfl));omega
 have xG: ¬ G x:=fun e=>by have:=hx x (.inr (.inr e));omega
 have xf:x≠fn:=fun e=>xG ((hG x).2 (.inl (.inl e)))
 have xs:x≠ms:=fun e=>xG ((hG x).2 (.inl (.inr (.inl e))))
 have x2: ¬ G2 x:=fun e=>xG ((hG x).2 (.inl (.inr (.inr e))))
 have xR: ¬ R x:=fun e=>xG ((hG x).2 (.inr e))
 have ps:PS n (x,Sec.zero) H' (fun z=>z=x):=⟨_,fun _=>False,e1,.inl ⟨rfl,rfl,fun _ q=>q⟩,fun q=>q,fun z=>by simp⟩
 have b2:Big PS (kv (c6 m2 n (x,Sec.zero) c2)) H' (fun z=>z=x∨G2 z):=Big.add dw hs c2 hf.big ps (fun z hz=>fr z (.inr (.inr (.inl hz)))) fun z hz=>by rw [hz];exact x2
 have hk2:=hf.ok.put n (x,Sec.zero)
 have fl:Fl fn ms (c6 m2 n (x,Sec.zero) c2) (kw m2 n c2) (fun z=>z=x∨G2 z) H':=
  ⟨(fr fn (.inr (.inl rfl))).trans hf.box,e2,hk2,b2,hf.ne,fun hz=>hz.elim (fun e=>xf e.symm) hf.nn,fun hz=>hz.elim (fun e=>xs e.symm) hf.nm⟩
 have pf:PF k (fn,dt (c6 m2 n (x,Sec.zero) c2)) H' (fun z=>z=fn∨z=ms∨(z=x∨G2 z)):=⟨ms,_,_,_,fl,rfl,fun z=>Iff.rfl⟩
 have dis: ∀ z,(z=fn∨z=ms∨(z=x∨G2 z))→ ¬ R z:=fun z hz=>by
  rcases hz with hz|hz|hz|hz
  ·exact hd z (.inl hz)
  ·exact hd z (.inr (.inl hz))
  ·rw [hz];exact xR
  ·exact hd z (.inr (.inr hz))
 have b1:Big PF (kv (c6 m k (fn,dt (c6 m2 n (x,Sec.zero) c2)) c)) H' (fun z=>(z=fn∨z=ms∨(z=x∨G2 z))∨R z):=Big.put dQ hg c hR pf (fun z hz=>fr z (.inr (.inr (.inr hz)))) dis
 have hk:=h.ok.put k (fn,dt (c6 m2 n (x,Sec.zero) c2))
 rw [jG hg] at hk
 have hmg:aV D.files k=some (dt m2):=by rw [h.fl,dT,hg];rfl
 have hms:aV (dt m2) n=none:=by rw [iZ,hs];rfl
 have hlay:(D.lay k n fun s=>s)=D.setFiles (bZ D.files k (bZ (dt m2) n Sec.zero)):=by
  unfold DD.lay
  rw [hmg]
  simp only [hms,Option.getD_none]
 have dout: ∀ z,((z=fn∨z=ms∨(z=x∨G2 z))∨R z)→z≠d∧z≠mp:=fun z hz=>by
  have:G z∨z=x:=by
   rcases hz with (hz|hz|hz|hz)|hz
   ·exact .inl ((hG z).2 (.inl (.inl hz)))
   ·exact .inl ((hG z).2 (.inl (.inr (.inl hz))))
   ·exact .inr hz
   ·exact .inl ((hG z).2 (.inl (.inr (.inr hz))))
   ·exact .inl ((hG z).2 (.inr hz))
  rcases this with hz|rfl
  ·exact⟨fun e=>h.nd (e ▸ hz),fun e=>h.nm (e ▸ hz)⟩
  ·exact⟨xd,xm⟩
 have dk:Dk d mp (c6 m k (fn,dt (c6 m2 n (x,Sec.zero) c2)) c) c (D.lay k n fun s=>s) (fun z=>(z=fn∨z=ms∨(z=x∨G2 z))∨R z) H':=
  ⟨e3,(fr mp (.inl rfl)).trans (h.map.trans (congrArg (fun l=>some (VO.map l c)) (iC (g:=fq) (y:=(fn,dt (c6 m2 n (x,Sec.zero) c2))) hg rfl c).symm)),hk,b1,by
    rw [hlay]
    show bZ D.files k (bZ (dt m2) n Sec.zero)=_
    rw [jH,qo,h.fl],h.ne,fun hz=>(dout d hz).1 rfl,fun hz=>(dout mp hz).2 rfl,by rw [hlay];exact h.cap⟩
 refine dk.foc (oI _ _ _ _) fl ?_ dis (fun z=>Iff.rfl) (oI _ _ _ _)
 have:kv (ig (c6 m k (fn,dt (c6 m2 n (x,Sec.zero) c2)) c) k)=kv (ig m k):=by
  rw [qP,oH,qP]
  exact tL (by rw [jF];exact hg) _
 rw [this]
 exact Big.frame dQ _ _ _ _ hR fun z hz=>fr z (.inr (.inr (.inr hz)))
theorem bSecr:kz Try.prog 80 []=some (.agg (cF (Sct.full 0) ++ [.sc (.slice none 0 0)])):=by kernel_rfl
theorem at_t{d:Nat}{D:DD}{Fp:Nat→Prop}{H:aJ}{nx:Nat}(hD:DAt d D Fp H)(hu:D.used<1000000000)(k:ByteArray)(n:Int){l:List (Int×Sec)}(hl:aV D.files k=some l):Fnc Try.prog 46 [.ptr d 0,.sc (kE k),.sc (iE n)] H nx
 (fun q=> ∃ z F' D2,q.1 = .ptr z 0∧Foc d k n z ((D.sec k n).getD Sec.zero) D2 F' q.2.1∧Stp Fp F' H nx q.2.1 q.2.2∧ ∀ s',(D2.lay k n fun _=>s')=D.lay k n fun _=>s'):=by
 refine Fnc.start Try.func46 rfl rfl ?_
 refine ca fun hund=>?_
 have hlt:=hD.lt hund
 obtain⟨mp,m,c,G,h,hF⟩:=hD
 have hbox:=h.box
 have hmap:=h.map
 have hl0:=hl
 rw [h.fl] at hl
 obtain⟨fn,hg⟩:=ij hl
 obtain⟨ms,m2,c2,G2,R,hf,rfl,hR,hd,hG⟩:=h.file hg
 have hfb:=hf.box
 have hfm:=hf.map
 rw [h.sec hg]
 cases hs:ct m2 n with
 | some x=>
   obtain⟨q,s⟩:=x
   (repeat(first|refine aj ?_|refine ac ?_|refine ab ?_|refine aA ?_|refine am rfl ?_|(apply ai;exact rfl;exact rfl;exact rfl)|(apply ah;exact rfl;exact rfl;exact rfl)|(apply aN;exact rfl;exact rfl;exact rfl)|(apply aI;exact rfl;exact rfl;exact rfl;exact(F.fo _ _ rfl rfl))|(apply eI;exact rfl;exact rfl;exact rfl;exact rfl;exact(F.un _ rfl);exact rfl)|refine aG rfl rfl rfl (F.ag _ rfl) (by assumption) (by exact rfl) ?_|refine cV (m:=m) (enc:=kE) (val:=fq) rfl rfl rfl rfl (F.un _ rfl) (kK) (by assumption) (hg) ?_|refine cV (m:=m2) (enc:=iE) (val:=gN) rfl rfl rfl rfl (F.un _ rfl) (iK) (by assumption) (hs) ?_))
   ((apply aQ Try.func46 (congrArg Array.toList Try.results46));(focus(repeat(first|exact ResIs.nil|apply ResIs.tmp rfl))))
   have hF':(fun z=>z=d∨z=mp∨G z)=Fp:=funext fun z=>propext (hF z).symm
   exact⟨q,_,D,rfl,h.foc hg hf hR hd hG hs,by rw [hF'];exact Stp.refl,fun _=>rfl⟩
 | none=>
   have hk1:(z:Nat)→(z=d∨z=mp∨G z)→z<nx:=fun z hz=>hlt z ((hF z).2 hz)
   have l1:=hk1 d (.inl rfl)
   have l2:=hk1 mp (.inr (.inl rfl))
   have l3:=hk1 fn (.inr (.inr ((hG fn).2 (.inl (.inl rfl)))))
   have l4:=hk1 ms (.inr (.inr ((hG ms).2 (.inl (.inr (.inl rfl))))))
   have n1:=h.ne
   have n2:fn≠d:=fun e=>h.nd (e ▸ (hG fn).2 (.inl (.inl rfl)))
   have n3:ms≠d:=fun e=>h.nd (e ▸ (hG ms).2 (.inl (.inr (.inl rfl))))
   have n4:fn≠ms:=hf.ne
   (repeat(first|refine aj ?_|refine ac ?_|refine ab ?_|refine ar rfl ?_|(apply ai;exact rfl;exact rfl;exact rfl)|(apply ah;exact rfl;exact rfl;exact rfl)|(apply aN;exact rfl;exact rfl;exact rfl)|(apply aI;exact rfl;exact rfl;exact rfl;exact(F.fo _ _ rfl rfl))|(apply sD;exact rfl;exact rfl;exact rfl;exact rfl;exact rfl;exact(F.un _ rfl);exact rfl)|refine bn rfl rfl rfl rfl (F.sz _ rfl) (by(repeat(first|assumption|refine(Tr.aa _ _ (by omega)).trans ?_));done) rfl (by exact zi rfl) rfl ?_|(apply ma;exact rfl;exact rfl;exact rfl)|refine aG rfl rfl rfl (F.ag _ rfl) (by(repeat(first|assumption|refine(Tr.aa _ _ (by omega)).trans ?_));done) (by exact rfl) ?_|(apply bi;exact rfl;exact rfl;exact rfl;exact rfl;(focus(omega));(focus(omega)))|refine cV (m:=m) (enc:=kE) (val:=fq) rfl rfl rfl rfl (F.un _ rfl) (kK) (by assumption) (hg) ?_|refine mu (m:=m2) (enc:=iE) (val:=gN) rfl rfl rfl rfl (F.un _ rfl) (iK) (by assumption) (hs) (F.ze _ rfl) ?_|(refine mv rfl rfl bSecr ?_)|refine sB (m:=m2) (enc:=iE) (val:=gN) (kk:=n) (v:=(nx,Sec.zero)) rfl rfl rfl (F.un _ rfl) (iK) (by(repeat(first|assumption|refine(Tr.aa _ _ (by omega)).trans ?_));done) rfl ?_))
   ((apply aQ Try.func46 (congrArg Array.toList Try.results46));(focus(repeat(first|exact ResIs.nil|apply ResIs.tmp rfl))))
   have hmg:aV D.files k=some (dt m2):=hl0
   have hms:aV (dt m2) n=none:=by rw [iZ,hs];rfl
   have hlay:(D.lay k n fun s=>s)=D.setFiles (bZ D.files k (bZ (dt m2) n Sec.zero)):=by
    unfold DD.lay
    rw [hmg]
    simp only [hms,Option.getD_none]
   have hus:(D.setFiles (bZ D.files k (bZ (dt m2) n Sec.zero))).used=D.used+1:=by
    have:=fj hmg (bZ (dt m2) n Sec.zero)
    rw [ln hms] at this
    show cd _=cd _+1
    simp only [DD.setFiles]
    omega
   have far: ∀ z,(z=mp∨z=fn∨G2 z∨R z)→z<nx∧z≠ms∧z≠d:=fun z hz=>by
    rcases hz with rfl|rfl|hz|hz
    ·exact⟨l2,fun e=>h.nm ((hG z).2 (.inl (.inr (.inl e)))),fun e=>n1 e.symm⟩
    ·exact⟨l3,n4,n2⟩
    ·have hz2:=(hG z).2 (.inl (.inr (.inr hz)))
     exact⟨hk1 z (.inr (.inr hz2)),fun e=>hf.nm (e ▸ hz),fun e=>h.nd (e ▸ hz2)⟩
    ·have hz2:=(hG z).2 (.inr hz)
     exact⟨hk1 z (.inr (.inr hz2)),fun e=>hd ms (.inr (.inl rfl)) (e ▸ hz),fun e=>h.nd (e ▸ hz2)⟩
   refine⟨nx,_,D.lay k n fun s=>s,rfl,h.addSec hg hf hR hd hG hs hk1 (by(repeat(first|exact Tr.ae _ _ _|refine(Tr.aa _ _ (by omega)).trans ?_));done) (by(repeat(first|exact Tr.ae _ _ _|refine(Tr.aa _ _ (by omega)).trans ?_));done) ((Tr.ae _ _ _).trans ?_) (fun z hz=>by obtain⟨f1,f2,f3⟩:=far z hz;(focus((repeat(refine(Tr.aa _ _ (by omega)).trans ?_));exact rfl))),⟨zI _,fun z hz=>?_,fun z hz hn=>?_⟩,fun s'=>?_⟩
   ·rw [hlay]
    unfold dkC
    rw [hus]
    rfl
   ·rw [hF,hG]
    rcases hz with hz|hz|(hz|hz|hz|hz)|hz
    ·exact .inl (.inl hz)
    ·exact .inl (.inr (.inl hz))
    ·exact .inl (.inr (.inr (.inl (.inl hz))))
    ·exact .inl (.inr (.inr (.inl (.inr (.inl hz)))))
    ·exact .inr (by omega)
    ·exact .inl (.inr (.inr (.inl (.inr (.inr hz)))))
    ·exact .inl (.inr (.inr (.inr hz)))
   ·have e1:z≠d:=fun e=>hn ((hF z).2 (.inl e))
    have e2:z≠ms:=fun e=>hn ((hF z).2 (.inr (.inr ((hG z).2 (.inl (.inr (.inl e)))))))
    (focus((repeat(refine(Tr.aa _ _ (by omega)).trans ?_));exact rfl))
   ·rw [hlay]
    unfold DD.lay DD.setFiles
    simp only [bW,if_true,hmg,tK]
theorem wY:cH Try.prog 45=some (.agg (List.replicate 256 (Value.int .u8 0)).toArray):=by kernel_rfl
theorem qY{zs:List SV}(hz:zs.length=256)(s:Sct):fT (fun i=>some (i*256,256)) zs [(0,.agg (cF s))]=some (cF s):=by
 have h1:(SV.agg (cF s)).cells.length=256:=bm s
 have h2:zs.take 0 ++ (SV.agg (cF s)).cells ++ zs.drop (0*256+256)=cF s:=by
  rw [List.take_zero,List.nil_append,List.drop_of_length_le (by omega),List.append_nil]
  rfl
 have h3:Nat.beq (SV.agg (cF s)).cells.length 256=true:=by rw [h1];rfl
 have h4:Nat.ble (0*256+256) zs.length=true:=by rw [hz];rfl
 simp only [fT,h3,h4,Bool.and_self,cond_true]
 exact congrArg some h2
theorem gH(s:Sct)(v v':SV):List.take 256 (cF s ++ [v]) ++ [v'] ++ List.drop (256+1) (cF s ++ [v])=cF s ++ [v']:=by
 rw [List.take_append_of_le_length (by rw [bm];exact zy _),←bm s,List.take_length,List.drop_of_length_le (by simp),List.append_nil]
theorem fp(s:Sct)(v:SV):(cF s ++ [v]).length=257:=by rw [zD,bm];rfl
theorem tn(s s':Sct)(v:SV):List.take 0 (cF s ++ [v]) ++ cF s' ++ List.drop (0+256) (cF s ++ [v])=cF s' ++ [v]:=by
 rw [List.take_zero,List.nil_append,Nat.zero_add,List.drop_append_of_le_length (by rw [bm];exact zy _),List.drop_of_length_le (by rw [bm];exact zy _),List.nil_append]
theorem uP{d:Nat}{D:DD}{Fp:Nat→Prop}{H:aJ}{nx:Nat}{b0 b1 b2 b3:Nat}(hD:DAt d D Fp H)(hu:D.used<1000000000)(k:ByteArray)(n:Int)(s:Sct){l:List (Int×Sec)}(hl:aV D.files k=some l)(hwl:((D.sec k n).getD Sec.zero).writes.length<1000000)
 (h0:H.at' b0=some (ak 25 [.ptr d 0])) (h1:H.at' b1=some (ak 9 [.sc (kE k)])) (h2:H.at' b2=some (ak 3 [.sc (iE n)])) (h3:H.at' b3=some (ak 45 (cF s))) (hb3: ¬ Fp b3) :
 Fnc Try.prog 45 [.ptr b0 0,.ptr b1 0,.ptr b2 0,.ptr b3 0] H nx (fun q=> ∃ F',DAt d (D.lay k n fun t=>⟨t.lasts,t.writes ++ [s]⟩) F' q.2.1∧Stp Fp F' H nx q.2.1 q.2.2):=by
 refine Fnc.start Try.func45 rfl rfl ?_
 refine ca fun hund=>?_
 have l3:=hund _ _ h3
 (repeat(first|refine aj ?_|refine ac ?_|refine aG rfl rfl rfl (F.ag _ rfl) (by assumption) (by exact rfl) ?_))
 refine aL rfl rfl rfl (by kernel_rfl) (Fnc.mono (at_t hD hu k n hl) ?_)
 rintro⟨_,H2,n2⟩ ⟨q,F2,D2,rfl,⟨v,GW,Rest,p1,p2,p3,p4,p5,p6,p7,p9,p8⟩,hS,hlay⟩
 dsimp only at p1 p2 p8 p9 hS ⊢
 have hb:=(hS.2.2 b3 l3 hb3).trans h3
 have hf3:b3<n2:=Nat.lt_of_lt_of_le l3 hS.1
 refine ca fun hund2=>?_
 have lq:=hund2 _ _ p1
 have eq3:q≠b3:=fun e=>by
  rcases hS.2.1 q ((p6 q).2 (.inl rfl))with h|h
  ·exact hb3 (e ▸ h)
  ·omega
 generalize hst:(D.sec k n).getD Sec.zero=t at p1 p2 hwl
 have hgo: ∀ s',(D2.lay k n fun _=>s')=D.lay k n fun _=>s':=hlay
 have hfin:(D.lay k n fun t=>(⟨t.lasts,t.writes ++ [s]⟩:Sec))=D.lay k n fun _=>⟨t.lasts,t.writes ++ [s]⟩:=by
  unfold DD.lay
  rw [hl]
  simp only
  have:(aV l n).getD Sec.zero=t:=by
   rw [← hst]
   unfold DD.sec
   rw [hl]
  rw [this]
 rw [hfin,←hgo]
 have rl: ∀ z,Rest z→z<n2:=fun z hz=>by
  obtain⟨vo,hv⟩:=p9 z ((p6 z).2 (.inr (.inr hz)))
  exact hund2 _ _ hv
 rcases p2 with ⟨rfl,hw,_⟩|⟨r,rfl,hr,hG⟩
 ·(repeat(first|refine ab ?_|(apply ah;exact rfl;exact rfl;exact rfl)))
  (apply ff;(focus(kernel_rfl));(focus(kernel_rfl)))
  (repeat(first|(apply ay;exact rfl;exact rfl;exact rfl)|(apply bh;exact rfl;exact rfl;exact rfl)|(apply aZ;exact rfl;exact rfl;exact rfl;exact(F.fo _ _ rfl rfl))|(refine cf rfl rfl rfl (F.ag _ rfl) p1 (bX _ _) ?_)|(refine d9 rfl rfl rfl (F.ag _ rfl) hb (ck _) ?_)|(refine eU rfl rfl (F.un _ rfl) (F.sz _ rfl) rfl wY rfl (qY (by simp) _) (eJ _) rfl (bm _) ?_)))
  (repeat(refine kx (m:=1) (b:=256) (vs:=pw s) rfl rfl rfl rfl (F.un _ rfl) (.inl ⟨_,F.un _ rfl⟩) (F.sz _ rfl) rfl (by kernel_rfl) (by kernel_rfl) (pz (by(repeat(exact Tr.ae _ _ _));done) rfl (by rw [eQ])) (recV.2 s) (by omega) (by omega) ?_))
  (repeat(first|(apply bh;exact rfl;exact rfl;exact rfl)|(apply aZ;exact rfl;exact rfl;exact rfl;exact(F.fo _ _ rfl rfl))|(refine fW rfl rfl rfl rfl (F.sz _ rfl) (by(repeat(first|assumption|refine(Tr.aa _ _ (by omega)).trans ?_));done) rfl (by rw [fp];exact zy _) rfl ?_)))
  (refine aF ?_);(refine⟨by kernel_rfl,?_,?_⟩);(focus(repeat(first|exact trivial|refine⟨.inl (c7 rfl),?_⟩|refine⟨.inr ⟨0,by kernel_rfl,AllH.all (fun _=>(by first|exact aC rfl|exact br rfl|exact be (F.fo _ _ rfl rfl) rfl)) _⟩,?_⟩|refine⟨.inr ⟨2,by kernel_rfl,(by(refine⟨(by(exact aU (F.ag _ rfl) rfl ((Tr.aa _ _ (by omega)).trans p1) (bX _ _))),?_⟩;(repeat(refine⟨(by(exact aU (F.ag _ rfl) rfl p1 (bX _ _))),?_⟩));exact trivial))⟩,?_⟩|refine⟨.inr ⟨3,by kernel_rfl,(by(refine⟨(by(exact bY (F.ag _ rfl) rfl hb (ck _))),?_⟩;(repeat(refine⟨(by skip),?_⟩));exact trivial))⟩,?_⟩)))
  dsimp only [wrL]
  ((apply dU Try.func45 (congrArg Array.toList Try.results45));(focus(repeat(exact ResIs.nil))))
  have hq2:F2 q:=(p6 q).2 (.inl rfl)
  refine⟨_,p8 _ ⟨t.lasts,t.writes ++ [s]⟩ (.slu (n2+1) 0 1) (fun z=>z=n2+1) ((Tr.ae _ _ _).trans (congrArg (fun l=>some (ak _ l)) (gH _ _ _))) (.inr ⟨n2+1,by rw [hw];rfl,?_,fun z=>Iff.rfl⟩) (by omega) (fun z hz hr=>by have:=rl z hr;omega) (fun z hz=>?_),hS.trans ⟨by show n2≤n2+1+1;omega,fun z hz=>?_,fun z hz hn=>?_⟩⟩
  ·refine Eq.trans (b:=some (dat false 1 256 45 (pw s))) (by(repeat(first|exact Tr.ae _ _ _|refine(Tr.aa _ _ (by omega)).trans ?_));done) ?_
   rw [hw]
   show _=some (dat false 1 256 45 (pw s ++ []))
   rw [List.append_nil]
  ·have:=rl z hz
   have:z≠q:=fun e=>p4 (e ▸ hz)
   (focus((repeat(refine(Tr.aa _ _ (by omega)).trans ?_));exact rfl))
  ·rcases hz with hz|hz|hz
   ·exact .inl (hz ▸ hq2)
   ·exact .inr (by omega)
   ·exact .inl ((p6 z).2 (.inr (.inr hz)))
  ·have:z≠q:=fun e=>hn (e ▸ hq2)
   (focus((repeat(refine(Tr.aa _ _ (by omega)).trans ?_));exact rfl))
 ·have hGr:GW r:=(hG r).2 rfl
  have hrq:r≠q:=fun e=>p3 (e ▸ hGr)
  have hr3:r≠b3:=fun e=>by
   rcases hS.2.1 r ((p6 r).2 (.inr (.inl hGr)))with h|h
   ·exact hb3 (e ▸ h)
   ·omega
  have hr2:r<n2:=hund2 _ _ hr
  (repeat(first|refine ab ?_|(apply ah;exact rfl;exact rfl;exact rfl)))
  (apply ff;(focus(kernel_rfl));(focus(kernel_rfl)))
  (repeat(first|(apply ay;exact rfl;exact rfl;exact rfl)|(apply bh;exact rfl;exact rfl;exact rfl)|(apply aZ;exact rfl;exact rfl;exact rfl;exact(F.fo _ _ rfl rfl))|(refine cf rfl rfl rfl (F.ag _ rfl) p1 (bX _ _) ?_)|(refine d9 rfl rfl rfl (F.ag _ rfl) hb (ck _) ?_)|(refine eU rfl rfl (F.un _ rfl) (F.sz _ rfl) rfl wY rfl (qY (by simp) _) (eJ _) rfl (bm _) ?_)))
  (repeat(refine uo (f:=pw) (xs:=t.writes) (a:=s) (b:=256) rfl rfl rfl rfl (F.un _ rfl) (.inl ⟨_,F.un _ rfl⟩) (F.sz _ rfl) rfl (by kernel_rfl) (by kernel_rfl) (by(repeat(first|assumption|refine(Tr.aa _ _ (by omega)).trans ?_));done) (by(repeat(exact Tr.ae _ _ _));done) rfl recV (by omega) (by omega) ?_))
  (repeat(first|(apply bh;exact rfl;exact rfl;exact rfl)|(apply aZ;exact rfl;exact rfl;exact rfl;exact(F.fo _ _ rfl rfl))|(refine fW rfl rfl rfl rfl (F.sz _ rfl) (by(repeat(first|assumption|refine(Tr.aa _ _ (by omega)).trans ?_|refine(Tr.a6 _ (by omega)).trans ?_));done) rfl (by rw [fp];exact zy _) rfl ?_)))
  (refine aF ?_);(refine⟨by kernel_rfl,?_,?_⟩);(focus(repeat(first|exact trivial|refine⟨.inl (c7 rfl),?_⟩|refine⟨.inr ⟨0,by kernel_rfl,AllH.all (fun _=>(by first|exact aC rfl|exact br rfl|exact be (F.fo _ _ rfl rfl) rfl)) _⟩,?_⟩|refine⟨.inr ⟨2,by kernel_rfl,(by(refine⟨(by(exact aU (F.ag _ rfl) rfl ((Tr.aa _ _ (by omega)).trans p1) (bX _ _))),?_⟩;(repeat(refine⟨(by(exact aU (F.ag _ rfl) rfl p1 (bX _ _))),?_⟩));exact trivial))⟩,?_⟩|refine⟨.inr ⟨3,by kernel_rfl,(by(refine⟨(by(exact bY (F.ag _ rfl) rfl hb (ck _))),?_⟩;(repeat(refine⟨(by skip),?_⟩));exact trivial))⟩,?_⟩)))
  dsimp only [wrL]
  ((apply dU Try.func45 (congrArg Array.toList Try.results45));(focus(repeat(exact ResIs.nil))))
  have hq2:F2 q:=(p6 q).2 (.inl rfl)
  refine⟨_,p8 _ ⟨t.lasts,t.writes ++ [s]⟩ (.slu (n2+1) 0 (t.writes ++ [s]).length) (fun z=>z=n2+1) ((Tr.ae _ _ _).trans (congrArg (fun l=>some (ak _ l)) (gH _ _ _))) (.inr ⟨n2+1,rfl,?_,fun z=>Iff.rfl⟩) (by omega) (fun z hz hr=>by have:=rl z hr;omega) (fun z hz=>?_),hS.trans ⟨by show n2≤n2+1+1;omega,fun z hz=>?_,fun z hz hn=>?_⟩⟩
  ·exact(Tr.aa _ _ (by omega)).trans (Tr.ae _ _ _)
  ·have:=rl z hz
   have:z≠q:=fun e=>p4 (e ▸ hz)
   have:z≠r:=fun e=>p5 r hGr (e ▸ hz)
   (focus((repeat(first|refine(Tr.aa _ _ (by omega)).trans ?_|refine(Tr.a6 _ (by omega)).trans ?_));exact rfl))
  ·rcases hz with hz|hz|hz
   ·exact .inl (hz ▸ hq2)
   ·exact .inr (by omega)
   ·exact .inl ((p6 z).2 (.inr (.inr hz)))
  ·have:z≠q:=fun e=>hn (e ▸ hq2)
   have:z≠r:=fun e=>hn (e ▸ (p6 r).2 (.inr (.inl hGr)))
   (focus((repeat(first|refine(Tr.aa _ _ (by omega)).trans ?_|refine(Tr.a6 _ (by omega)).trans ?_));exact rfl))
theorem Stp.eH{F F':Nat→Prop}{H H1 H':aJ}{nx n1 n':Nat}(h:Stp F F' H1 n1 H' n')(hn:nx≤n1)(fr: ∀ z,z<nx→H1.at' z=H.at' z):Stp F F' H nx H' n':=
 ⟨zH hn h.1,fun z hz=>(h.2.1 z hz).imp id fun e=>zH hn e,fun z hz hf=>(h.2.2 z (Nat.lt_of_lt_of_le hz hn) hf).trans (fr z hz)⟩
theorem s4{D D':DD}(h:D'.files=D.files)(k:ByteArray)(n:Int):D'.sec k n=D.sec k n:=by unfold DD.sec;rw [h]
theorem yj{D:DD}{N:Nat}(hok:D.Ok N)(hN:N<1000000)(k:ByteArray)(n:Int):((D.sec k n).getD Sec.zero).writes.length<1000000:=by
 cases h:D.sec k n with
 | none=>exact Nat.zero_lt_succ _
 | some s=>
   unfold DD.sec at h
   cases hm:aV D.files k with
   | none=>rw [hm] at h;cases h
   | some m=>
     rw [hm] at h
     have:=hok.f.wr k m n s hm h
     show s.writes.length<1000000
     omega
theorem kQ{d:Nat}{D:DD}{Fp:Nat→Prop}{H:aJ}{nx N:Nat}(hD:DAt d D Fp H)(hok:D.Ok N)(hN:N<1000000)(k:ByteArray)(hk:k.size≤140737488355328)(n:Int)(s:Sct):Fnc Try.prog 25 [.ptr d 0,.sc (kE k),.sc (iE n),.agg (cF s)] H nx (x5 d (D.write k n s).1 (.sc (.int .i64 (D.write k n s).2)) Fp H nx):=by
 refine Fnc.start Try.func25 rfl rfl ?_
 refine ca fun hund=>?_
 have hlt:=hD.lt hund
 (repeat(first|refine aj ?_|refine ac ?_|refine ab ?_|(apply ah;exact rfl;exact rfl;exact rfl)|(apply ma;exact rfl;exact rfl;exact rfl)|(apply jT;exact rfl;exact rfl;exact rfl;exact rfl)|refine aG rfl rfl rfl (F.ag _ rfl) (by(repeat(first|exact Tr.ae _ _ _|refine(Tr.aa _ _ (by omega)).trans ?_));done) (by exact rfl) ?_))
 refine dR (R:=fun H1 n1=>n1=nx+1+1+1+1∧H1.at' nx=some (ak 25 [.ptr d 0])∧H1.at' (nx+1)=some (ak 9 [.sc (kE k)])∧H1.at' (nx+1+1)=some (ak 3 [.sc (iE n)])∧H1.at' (nx+1+1+1)=some (ak 45 (cF s))∧ ∀ z,z<nx→H1.at' z=H.at' z) ⟨rfl,by(focus((repeat(first|exact Tr.ae _ _ _|refine(Tr.aa _ _ (by omega)).trans ?_));done)),by(focus((repeat(first|exact Tr.ae _ _ _|refine(Tr.aa _ _ (by omega)).trans ?_));done)),by(focus((repeat(first|exact Tr.ae _ _ _|refine(Tr.aa _ _ (by omega)).trans ?_));done)),by(focus((repeat(exact Tr.ae _ _ _));done)),fun z hz=>by(focus((repeat(refine(Tr.aa _ _ (by omega)).trans ?_));exact rfl))⟩ ?_
 rintro H1 n1 ⟨rfl,h0,h1,h2,h3,hold⟩
 have hD1:DAt d D Fp H1:=hD.frame fun z hz=>hold z (hlt z hz)
 have hFd:d<nx:=by
  obtain⟨mp,m,c,G,h,hF⟩:=hD
  exact hlt d ((hF d).2 (.inl rfl))
 clear hD
 have hb3: ¬ Fp (nx+1+1+1):=fun e=>by have:=hlt _ e;omega
 (repeat(first|refine aj ?_|refine ac ?_|refine ab ?_|(apply ai;exact rfl;exact rfl;exact rfl)|(apply ah;exact rfl;exact rfl;exact rfl)|(refine aL rfl rfl rfl (by kernel_rfl) (Fnc.mono (lj hD1 k hk n) ?_);rintro _ rfl;dsimp only)))
 (apply fe;exact rfl;exact rfl;exact rfl;exact rfl)
 all_goals intro h4
 ·rw [show D.write k n s=(D,D.look k n) by unfold DD.write;rw [if_pos (by omega)]]
  (repeat(first|refine aj ?_|refine ac ?_|refine ab ?_|refine ar rfl ?_|(apply ai;exact rfl;exact rfl;exact rfl)|(apply ah;exact rfl;exact rfl;exact rfl)))
  ((apply aQ Try.func25 (congrArg Array.toList Try.results25));(focus(repeat(first|exact ResIs.nil|apply ResIs.tmp rfl))))
  exact⟨rfl,Fp,hD1,Stp.eH (n1:=nx+1+1+1+1) Stp.refl (by omega) hold⟩
 ·have h5:D.look k n=0:=by omega
  obtain⟨l,hl⟩:=lk h5
  (repeat(first|refine aj ?_|refine ac ?_|refine ab ?_|refine aA ?_|refine am rfl ?_|refine aG rfl rfl rfl (F.ag _ rfl) (by assumption) (by exact rfl) ?_|(apply cG;exact rfl;exact rfl;exact rfl)|(refine aL rfl rfl rfl (by kernel_rfl) (Fnc.mono (wR hD1 k n hl) ?_);rintro _ rfl;dsimp only)))
  cases hf:D.fits k n with
  | false=>
    rw [show D.write k n s=(D,5) by unfold DD.write;rw [if_neg (by omega),if_pos hf]]
    (repeat(first|refine aj ?_|refine ac ?_|refine ab ?_|refine ar rfl ?_|(apply ah;exact rfl;exact rfl;exact rfl)))
    ((apply aQ Try.func25 (congrArg Array.toList Try.results25));(focus(repeat(first|exact ResIs.nil|apply ResIs.tmp rfl))))
    exact⟨rfl,Fp,hD1,Stp.eH (n1:=nx+1+1+1+1) Stp.refl (by omega) hold⟩
  | true=>
    rw [show D.write k n s=D.change true fun D=>D.lay k n fun t=>⟨t.lasts,t.writes ++ [s]⟩ by unfold DD.write;rw [if_neg (by omega),if_neg (by rw [hf];simp)]]
    (repeat(first|refine aj ?_|refine ac ?_|refine aA ?_|refine am rfl ?_|(apply da;exact rfl;exact rfl;exact rfl;exact rfl)|refine aG rfl rfl rfl (F.ag _ rfl) (by assumption) (by exact rfl) ?_))
    refine aL rfl rfl rfl (by kernel_rfl) (Fnc.mono (jM hD1 hok hN true 45 [.ptr nx 0,.ptr (nx+1) 0,.ptr (nx+1+1) 0,.ptr (nx+1+1+1) 0] (fun D=>D.lay k n fun t=>⟨t.lasts,t.writes ++ [s]⟩) (by kernel_rfl) ?_) ?_)
    ·intro D1 H2 e1 e2 hA hkeep
     have hu:D1.used<1000000000:=by have:=jU e1;have:=hok.f.used;unfold DD.used at *;omega
     exact uP hA hu k n s (by rw [e1];exact hl) (by rw [s4 e1];exact yj hok hN k n) ((hkeep _ (by omega)).trans h0) ((hkeep _ (by omega)).trans h1) ((hkeep _ (by omega)).trans h2) ((hkeep _ (by omega)).trans h3) hb3
    ·rintro⟨_,H2,n2⟩ ⟨rfl,F',hA,hS⟩
     dsimp only at hA hS ⊢
     (repeat(first|refine ab ?_|(apply ah;exact rfl;exact rfl;exact rfl)))
     ((apply aQ Try.func25 (congrArg Array.toList Try.results25));(focus(repeat(first|exact ResIs.nil|apply ResIs.tmp rfl))))
     exact⟨rfl,F',hA,Stp.eH hS (by omega) hold⟩
theorem xn{d:Nat}{D:DD}{Fp:Nat→Prop}{H:aJ}{nx N:Nat}(hD:DAt d D Fp H)(hok:D.Ok N)(hN:N<1000000)(k:ByteArray)(hk:k.size≤140737488355328)(n:Int)(s:Sct):Fnc Try.prog 31 [.ptr d 0,.sc (kE k),.sc (iE n),.agg (cF s)] H nx (x5 d (D.spoil k n s).1 (.sc (.int .i64 (D.spoil k n s).2)) Fp H nx):=by
 refine Fnc.start Try.func31 rfl rfl ?_
 refine ca fun hund=>?_
 have hlt:=hD.lt hund
 (repeat(first|refine aj ?_|refine ac ?_|refine ab ?_|(apply ai;exact rfl;exact rfl;exact rfl)|(apply ah;exact rfl;exact rfl;exact rfl)|(apply ma;exact rfl;exact rfl;exact rfl)))
 refine dR (R:=fun H1 n1=>n1=nx+1∧H1.at' nx=some (ak 45 (cF s))∧ ∀ z,z<nx→H1.at' z=H.at' z) ⟨rfl,by(focus((repeat(exact Tr.ae _ _ _));done)),fun z hz=>by(focus((repeat(refine(Tr.aa _ _ (by omega)).trans ?_));exact rfl))⟩ ?_
 rintro H1 n1 ⟨rfl,h3,hold⟩
 have hD1:DAt d D Fp H1:=hD.frame fun z hz=>hold z (hlt z hz)
 clear hD
 have hb3: ¬ Fp nx:=fun e=>by have:=hlt _ e;omega
 (repeat(first|refine aj ?_|refine ac ?_|refine ab ?_|(apply ai;exact rfl;exact rfl;exact rfl)|(apply ah;exact rfl;exact rfl;exact rfl)|(refine aL rfl rfl rfl (by kernel_rfl) (Fnc.mono (lj hD1 k hk n) ?_);rintro _ rfl;dsimp only)))
 (apply fe;exact rfl;exact rfl;exact rfl;exact rfl)
 all_goals intro h4
 ·rw [show D.spoil k n s=(D,D.look k n) by unfold DD.spoil;rw [if_pos (by omega)]]
  (repeat(first|refine aj ?_|refine ac ?_|refine ab ?_|refine ar rfl ?_|(apply ai;exact rfl;exact rfl;exact rfl)|(apply ah;exact rfl;exact rfl;exact rfl)))
  ((apply aQ Try.func31 (congrArg Array.toList Try.results31));(focus(repeat(first|exact ResIs.nil|apply ResIs.tmp rfl))))
  exact⟨rfl,Fp,hD1,Stp.eH (n1:=nx+1) Stp.refl (by omega) hold⟩
 ·have h5:D.look k n=0:=by omega
  obtain⟨l,hl⟩:=lk h5
  (repeat(first|refine aj ?_|refine ac ?_|refine ab ?_|refine aA ?_|refine am rfl ?_|(apply ai;exact rfl;exact rfl;exact rfl)|(apply cG;exact rfl;exact rfl;exact rfl)|(refine aL rfl rfl rfl (by kernel_rfl) (Fnc.mono (wR hD1 k n hl) ?_);rintro _ rfl;dsimp only)))
  cases hf:D.fits k n with
  | false=>
    rw [show D.spoil k n s=(D,5) by unfold DD.spoil;rw [if_neg (by omega),if_pos hf]]
    (repeat(first|refine aj ?_|refine ac ?_|refine ab ?_|refine ar rfl ?_|(apply ah;exact rfl;exact rfl;exact rfl)))
    ((apply aQ Try.func31 (congrArg Array.toList Try.results31));(focus(repeat(first|exact ResIs.nil|apply ResIs.tmp rfl))))
    exact⟨rfl,Fp,hD1,Stp.eH (n1:=nx+1) Stp.refl (by omega) hold⟩
  | true=>
    rw [show D.spoil k n s=(D.lay k n fun _=>⟨s,[]⟩,0) by unfold DD.spoil;rw [if_neg (by omega),if_neg (by rw [hf];simp)]]
    (repeat(first|refine aj ?_|refine ac ?_|refine aA ?_|refine am rfl ?_|(apply ai;exact rfl;exact rfl;exact rfl)))
    have hu:D.used<1000000000:=by have:=hok.f.used;unfold DD.used at *;omega
    refine aL rfl rfl rfl (by kernel_rfl) (Fnc.mono (at_t hD1 hu k n hl) ?_)
    rintro⟨_,H2,n2⟩ ⟨q,F2,D2,rfl,⟨v,GW,Rest,p1,p2,p3,p4,p5,p6,p7,p9,p8⟩,hS,hlay⟩
    dsimp only at p1 p2 p8 p9 hS ⊢
    have hb:=(hS.2.2 nx (by omega) hb3).trans h3
    refine ca fun hund2=>?_
    have lq:=hund2 _ _ p1
    have eq3:q≠nx:=fun e=>by
     rcases hS.2.1 q ((p6 q).2 (.inl rfl))with h|h
     ·exact hb3 (e ▸ h)
     ·omega
    have hq2:F2 q:=(p6 q).2 (.inl rfl)
    have hgo: ∀ s',(D2.lay k n fun _=>s')=D.lay k n fun _=>s':=hlay
    rw [← hgo]
    (repeat(first|(refine gf rfl rfl rfl (F.ag _ rfl) hb (ck _) ?_)|(refine eP rfl rfl rfl (F.sz _ rfl) p1 (bm _) (by rw [fp];exact zi rfl) (eJ _) (tn _ _ _) ?_)|((apply bn;exact rfl;exact rfl;exact rfl;exact rfl;exact(F.sz _ rfl);exact(Tr.ae _ _ _);exact rfl;(focus(rw [fp];exact zy _));exact rfl))|refine aj ?_|refine ac ?_|refine ab ?_|(apply ai;exact rfl;exact rfl;exact rfl)|(apply ah;exact rfl;exact rfl;exact rfl)|(apply aN;exact rfl;exact rfl;exact rfl)|(apply aI;exact rfl;exact rfl;exact rfl;exact(F.fo _ _ rfl rfl))))
    ((apply aQ Try.func31 (congrArg Array.toList Try.results31));(focus(repeat(first|exact ResIs.nil|apply ResIs.tmp rfl))))
    refine⟨rfl,_,p8 _ ⟨s,[]⟩ (.sc (.slice none 0 0)) (fun _=>False) ((Tr.ae _ _ _).trans (congrArg (fun l=>some (ak _ l)) (gH _ _ _))) (.inl ⟨rfl,rfl,fun _ h=>h⟩) (fun h=>h) (fun _ h=>h.elim) (fun z hz=>?_),Stp.eH (hS.trans ⟨zy _,fun z hz=>?_,fun z hz hn=>?_⟩) (by omega) hold⟩
    ·have:z≠q:=fun e=>p4 (e ▸ hz)
     (focus((repeat(refine(Tr.aa _ _ (by omega)).trans ?_));exact rfl))
    ·rcases hz with hz|hz|hz
     ·exact .inl (hz ▸ hq2)
     ·exact hz.elim
     ·exact .inl ((p6 z).2 (.inr (.inr hz)))
    ·have:z≠q:=fun e=>hn (e ▸ hq2)
     (focus((repeat(refine(Tr.aa _ _ (by omega)).trans ?_));exact rfl))
theorem qX(m:MFl)(k:ByteArray):po (ig m k)=eF (po m) k:=by
 unfold po
 rw [qP]
 exact vK (fun x:Nat×List (Int×Sec)=>x.2) (kv m) k
theorem Dk.del{d mp:Nat}{m:MFl}{c:Nat}{D:DD}{G:Nat→Prop}{H:aJ}(h:Dk d mp m c D G H){k:ByteArray}{R:Nat→Prop}(hR:Big PF (kv (ig m k)) H R)(hRG: ∀ z,R z→G z){H':aJ}
 (e2:H'.at' mp=some (eO kE fq (ig m k) c)) (e3:H'.at' d=some (ak 58 (dkC (D.gone k) mp))) (fr: ∀ z,R z→H'.at' z=H.at' z):Dk d mp (ig m k) c (D.gone k) R H':=
 ⟨e3,e2,h.ok.del k,Big.frame dQ _ _ _ _ hR fr,by
   show eF D.files k=_
   rw [qX,h.fl],h.ne,fun hz=>h.nd (hRG _ hz),fun hz=>h.nm (hRG _ hz),h.cap⟩
theorem wP{d:Nat}{D:DD}{Fp:Nat→Prop}{H:aJ}{nx:Nat}(hD:DAt d D Fp H)(hu:D.used<1000000000)(k:ByteArray):Fnc Try.prog 43 [.ptr d 0,.sc (kE k)] H nx (fun q=> ∃ F',DAt d (D.gone k) F' q.2.1∧Stp Fp F' H nx q.2.1 q.2.2∧(∀ z,F' z→Fp z)):=by
 refine Fnc.start Try.func43 rfl rfl ?_
 obtain⟨mp,m,c,G,h,hF⟩:=id hD
 have hbox:=h.box
 have hmap:=h.map
 have hFd:Fp d:=(hF d).2 (.inl rfl)
 have hFm:Fp mp:=(hF mp).2 (.inr (.inl rfl))
 have hne:=h.ne
 cases hg:ct m k with
 | none=>
   (repeat(first|refine aj ?_|refine ac ?_|refine ab ?_|refine aA ?_|refine am rfl ?_|(apply ai;exact rfl;exact rfl;exact rfl)|(apply ah;exact rfl;exact rfl;exact rfl)|(apply aN;exact rfl;exact rfl;exact rfl)|(apply aI;exact rfl;exact rfl;exact rfl;exact(F.fo _ _ rfl rfl))|(apply sy;exact rfl;exact rfl;exact rfl;exact rfl;exact rfl;exact(F.un _ rfl);exact rfl)|refine aG rfl rfl rfl (F.ag _ rfl) (by assumption) (by exact rfl) ?_|refine mu (m:=m) (enc:=kE) (val:=fq) rfl rfl rfl rfl (F.un _ rfl) (kK) (by assumption) (hg) (F.ze _ rfl) ?_))
   ((apply dU Try.func43 (congrArg Array.toList Try.results43));(focus(repeat(exact ResIs.nil))))
   have:D.gone k=D:=by
    unfold DD.gone DD.setFiles
    rw [lh (cv.1 (by rw [h.fl,dT,hg];rfl))]
   rw [this]
   exact⟨Fp,hD,Stp.refl,fun _ h=>h⟩
 | some x=>
   obtain⟨fn,l⟩:=x
   obtain⟨ms,m2,c2,G2,R,hf,rfl,hR,hd,hG⟩:=h.file hg
   have hfb:=hf.box
   have hfm:=hf.map
   (repeat(first|refine aj ?_|refine ac ?_|refine ab ?_|refine ar rfl ?_|(apply ai;exact rfl;exact rfl;exact rfl)|(apply ah;exact rfl;exact rfl;exact rfl)|(apply aN;exact rfl;exact rfl;exact rfl)|(apply aI;exact rfl;exact rfl;exact rfl;exact(F.fo _ _ rfl rfl))|(apply sA;exact rfl;exact rfl;exact rfl;exact rfl;exact(F.un _ rfl);exact rfl)|refine aG rfl rfl rfl (F.ag _ rfl) (by assumption) (by exact rfl) ?_|refine cV (m:=m) (enc:=kE) (val:=fq) rfl rfl rfl rfl (F.un _ rfl) (kK) (by assumption) (hg) ?_))
   have hmg:aV D.files k=some (dt m2):=by rw [h.fl,dT,hg];rfl
   have hsz:=jq hmg
   rw [tR] at hsz
   have hus:D.used=cd D.files:=rfl
   have hug:(D.gone k).used=cd (eF D.files k):=rfl
   (apply ff;(focus(kernel_rfl));(focus(kernel_rfl)))
   (repeat(first|(apply ay;exact rfl;exact rfl;exact rfl)|(apply bh;exact rfl;exact rfl;exact rfl)|(apply aZ;exact rfl;exact rfl;exact rfl;exact(F.fo _ _ rfl rfl))|(apply cW;exact rfl;exact rfl;exact rfl;exact rfl;(focus(omega));(focus(omega)))|refine fW rfl rfl rfl rfl (F.sz _ rfl) (by assumption) rfl (by exact zi rfl) rfl ?_|(refine cf rfl rfl rfl (F.ag _ rfl) hbox (aX rfl) ?_)|(refine cf rfl rfl rfl (F.ag _ rfl) hfb (aX rfl) ?_)|(refine ik (m:=m2) (enc:=iE) (val:=gN) rfl rfl rfl (F.un _ rfl) hfm ?_)))
   (refine aF ?_);(refine⟨by kernel_rfl,?_,?_⟩);(focus(repeat(first|exact trivial|refine⟨.inl (c7 rfl),?_⟩|refine⟨.inr ⟨0,by kernel_rfl,AllH.all (fun _=>(by first|exact aC rfl|exact br rfl|exact be (F.fo _ _ rfl rfl) rfl|exact aK rfl rfl (.inr (.inl ⟨rfl,(zd _ ⟨by omega,by omega⟩).symm⟩)))) _⟩,?_⟩|refine⟨.inr ⟨1,by kernel_rfl,(by(refine⟨(by first|exact aU (F.ag _ rfl) rfl (by assumption) (aX rfl)|exact gU rfl (F.un _ rfl) hfm),?_⟩;(repeat(refine⟨(by skip),?_⟩));exact trivial))⟩,?_⟩)))
   dsimp only [wrL]
   (repeat(first|refine ac ?_|refine ab ?_|(apply ai;exact rfl;exact rfl;exact rfl)|(apply aN;exact rfl;exact rfl;exact rfl)|(apply aI;exact rfl;exact rfl;exact rfl;exact(F.fo _ _ rfl rfl))|refine aG rfl rfl rfl (F.ag _ rfl) (by(repeat(first|assumption|exact Tr.ae _ _ _));done) (by exact rfl) ?_|refine sC (m:=m) (enc:=kE) (val:=fq) rfl rfl rfl (F.un _ rfl) (kK) (by(repeat(first|assumption|refine(Tr.aa _ _ (by omega)).trans ?_));done) ?_))
   ((apply dU Try.func43 (congrArg Array.toList Try.results43));(focus(repeat(exact ResIs.nil))))
   have hRG: ∀ z,R z→G z:=fun z hz=>(hG z).2 (.inr hz)
   have hsub: ∀ z,(z=d∨z=mp∨R z)→Fp z:=fun z hz=>(hF z).2 (hz.imp id fun e=>e.imp id fun e=>hRG z e)
   refine⟨_,⟨mp,_,c,R,h.del hR hRG (by(repeat(exact Tr.ae _ _ _));done) ?_ (fun z hz=>?_),fun z=>Iff.rfl⟩,⟨zy _,fun z hz=> .inl (hsub z hz),fun z hz hn=>?_⟩,hsub⟩
   ·refine((Tr.aa _ _ h.ne).trans (Tr.ae _ _ _)).trans ?_
    unfold dkC
    rw [show((D.gone k).used:Int)=(D.used:Int)-(m2.length:Int) by omega]
    rfl
   ·have e1:z≠d:=fun e=>h.nd (hRG _ (e ▸ hz))
    have e2:z≠mp:=fun e=>h.nm (hRG _ (e ▸ hz))
    (focus((repeat(refine(Tr.aa _ _ (by omega)).trans ?_));exact rfl))
   ·have e1:z≠d:=fun e=>hn (e ▸ hFd)
    have e2:z≠mp:=fun e=>hn (e ▸ hFm)
    (focus((repeat(refine(Tr.aa _ _ (by omega)).trans ?_));exact rfl))
theorem vq{d:Nat}{D:DD}{Fp:Nat→Prop}{H:aJ}{nx N:Nat}(hD:DAt d D Fp H)(hok:D.Ok N)(hN:N<1000000)(k:ByteArray)(hk:k.size≤140737488355328):Fnc Try.prog 30 [.ptr d 0,.sc (kE k)] H nx (x5 d (D.remove k).1 (.sc (.int .i64 (D.remove k).2)) Fp H nx):=by
 refine Fnc.start Try.func30 rfl rfl ?_
 refine ca fun hund=>?_
 have hlt:=hD.lt hund
 (repeat(first|refine aj ?_|refine ac ?_|refine ab ?_|(apply ah;exact rfl;exact rfl;exact rfl)|(apply jT;exact rfl;exact rfl;exact rfl;exact rfl)|refine aG rfl rfl rfl (F.ag _ rfl) (by(repeat(first|exact Tr.ae _ _ _|refine(Tr.aa _ _ (by omega)).trans ?_));done) (by exact rfl) ?_))
 refine dR (R:=fun H1 n1=>n1=nx+1+1∧H1.at' nx=some (ak 25 [.ptr d 0])∧H1.at' (nx+1)=some (ak 9 [.sc (kE k)])∧ ∀ z,z<nx→H1.at' z=H.at' z) ⟨rfl,by(focus((repeat(first|exact Tr.ae _ _ _|refine(Tr.aa _ _ (by omega)).trans ?_));done)),by(focus((repeat(exact Tr.ae _ _ _));done)),fun z hz=>by(focus((repeat(refine(Tr.aa _ _ (by omega)).trans ?_));exact rfl))⟩ ?_
 rintro H1 n1 ⟨rfl,h0,h1,hold⟩
 have hD1:DAt d D Fp H1:=hD.frame fun z hz=>hold z (hlt z hz)
 have hFd:d<nx:=by
  obtain⟨mp,m,c,G,h,hF⟩:=hD
  exact hlt d ((hF d).2 (.inl rfl))
 clear hD
 (repeat(first|refine aj ?_|refine ac ?_|refine ab ?_|(apply ai;exact rfl;exact rfl;exact rfl)|(apply ah;exact rfl;exact rfl;exact rfl)|(refine aL rfl rfl rfl (by kernel_rfl) (Fnc.mono (lj hD1 k hk 0) ?_);rintro _ rfl;dsimp only)))
 (apply fe;exact rfl;exact rfl;exact rfl;exact rfl)
 all_goals intro h4
 ·rw [show D.remove k=(D,D.look k 0) by unfold DD.remove;rw [if_pos (by omega)]]
  (repeat(first|refine aj ?_|refine ac ?_|refine ab ?_|refine ar rfl ?_|(apply ai;exact rfl;exact rfl;exact rfl)|(apply ah;exact rfl;exact rfl;exact rfl)))
  ((apply aQ Try.func30 (congrArg Array.toList Try.results30));(focus(repeat(first|exact ResIs.nil|apply ResIs.tmp rfl))))
  exact⟨rfl,Fp,hD1,Stp.eH (n1:=nx+1+1) Stp.refl (by omega) hold⟩
 ·rw [show D.remove k=D.change false fun D=>D.gone k by unfold DD.remove;rw [if_neg (by omega)]]
  (repeat(first|refine aj ?_|refine ac ?_|refine ab ?_|refine aA ?_|refine am rfl ?_|(apply da;exact rfl;exact rfl;exact rfl;exact rfl)|refine aG rfl rfl rfl (F.ag _ rfl) (by assumption) (by exact rfl) ?_))
  refine aL rfl rfl rfl (by kernel_rfl) (Fnc.mono (jM hD1 hok hN false 49 [.ptr nx 0,.ptr (nx+1) 0] (fun D=>D.gone k) (by kernel_rfl) ?_) ?_)
  ·intro D1 H2 e1 e2 hA hkeep
   have hu:D1.used<1000000000:=by have:=jU e1;have:=hok.f.used;unfold DD.used at *;omega
   have g0:=(hkeep nx (by omega)).trans h0
   have g1:=(hkeep (nx+1) (by omega)).trans h1
   refine Fnc.start Try.func49 rfl rfl ?_
   (repeat(first|refine ac ?_|refine aG rfl rfl rfl (F.ag _ rfl) (by assumption) (by exact rfl) ?_))
   refine aL rfl rfl rfl (by kernel_rfl) (Fnc.mono (wP hA hu k) ?_)
   rintro⟨_,H3,n3⟩ ⟨F',hB,hS,_⟩
   dsimp only at hB hS ⊢
   (repeat(refine ab ?_))
   ((apply dU Try.func49 (congrArg Array.toList Try.results49));(focus(repeat(exact ResIs.nil))))
   exact⟨F',hB,hS⟩
  ·rintro⟨_,H2,n2⟩ ⟨rfl,F',hA,hS⟩
   dsimp only at hA hS ⊢
   (repeat(first|refine ab ?_|(apply ah;exact rfl;exact rfl;exact rfl)))
   ((apply aQ Try.func30 (congrArg Array.toList Try.results30));(focus(repeat(first|exact ResIs.nil|apply ResIs.tmp rfl))))
   exact⟨rfl,F',hA,Stp.eH hS (by omega) hold⟩
theorem wQ{d:Nat}{D:DD}{Fp:Nat→Prop}{H:aJ}{nx:Nat}(hD:DAt d D Fp H)(n:Int):Fnc Try.prog 28 [.ptr d 0,.sc (iE n)] H nx (fun q=>DAt d (D.lay' n) Fp q.2.1∧Stp Fp Fp H nx q.2.1 q.2.2):=by
 refine Fnc.start Try.func28 rfl rfl ?_
 obtain⟨mp,m,c,G,h,hF⟩:=id hD
 have hbox:=h.box
 have hFd:Fp d:=(hF d).2 (.inl rfl)
 (repeat(first|refine aj ?_|refine ac ?_|refine ab ?_|(apply ai;exact rfl;exact rfl;exact rfl)|(apply bL;exact rfl;exact rfl;exact rfl;exact rfl)|(apply aN;exact rfl;exact rfl;exact rfl)|(apply aI;exact rfl;exact rfl;exact rfl;exact(F.fo _ _ rfl rfl))|refine aG rfl rfl rfl (F.ag _ rfl) (by assumption) (by exact rfl) ?_|(refine aL rfl rfl rfl (by kernel_rfl) (Fnc.mono (fP hbox h.cap) ?_);rintro _ rfl;dsimp only)))
 unfold DD.lay'
 cases hd:D.dead with
 | true=>
   (repeat(refine ar rfl ?_))
   ((apply aQ Try.func28 (congrArg Array.toList Try.results28));(focus(repeat(exact ResIs.nil))))
   exact⟨hD,Stp.refl⟩
 | false=>
   simp only [Bool.false_eq_true,if_false]
   (repeat(first|refine ac ?_|refine ab ?_|refine aA ?_|refine am rfl ?_|(apply ai;exact rfl;exact rfl;exact rfl)|(apply aN;exact rfl;exact rfl;exact rfl)|(apply aI;exact rfl;exact rfl;exact rfl;exact(F.fo _ _ rfl rfl))|refine bn rfl rfl rfl rfl (F.sz _ rfl) (by assumption) rfl (by exact zi rfl) rfl ?_|((apply yn;exact rfl;exact rfl;exact rfl;exact rfl;exact(show _=(if n < -1 then -1 else n) by split <;> omega)))))
   ((apply dU Try.func28 (congrArg Array.toList Try.results28));(focus(repeat(exact ResIs.nil))))
   exact⟨⟨mp,m,c,G,h.set rfl rfl ((Tr.ae _ _ _).trans (by rw [← hd];rfl)) (fun z hz=>Tr.aa _ _ hz),hF⟩,zy _,fun z hz=> .inl hz,fun z hz hn=>Tr.aa _ _ fun e=>hn (e ▸ hFd)⟩
theorem Dk.addFile{d mp:Nat}{m:MFl}{c:Nat}{D:DD}{G:Nat→Prop}{H:aJ}(h:Dk d mp m c D G H){k:ByteArray}(hg:ct m k=none){x y:Nat}(hxy:x≠y)(hx: ∀ z,(z=d∨z=mp∨G z)→z≠x∧z≠y){H':aJ}(e0:H'.at' y=some (.map [] 0))(e1:H'.at' x=some (ak 63 [.mp y]))
 (e2:H'.at' mp=some (eO kE fq (c6 m k (x,[]) c) (kw m k c))) (fr: ∀ z,(z=d∨G z)→H'.at' z=H.at' z):Dk d mp (c6 m k (x,[]) c) (kw m k c) (D.setFiles (bZ D.files k [])) (fun z=>(z=x∨z=y)∨G z) H':=by
 have hmg:aV D.files k=none:=by rw [h.fl,dT,hg];rfl
 have fl:Fl x y ([]:MSc) 0 (fun _=>False) H':=⟨e1,e0,KOk.nil 0,Big.nil,hxy,fun q=>q,fun q=>q⟩
 have pf:PF k (x,[]) H' (fun z=>z=x∨z=y):=⟨y,[],0,_,fl,rfl,fun z=>by simp⟩
 have hus:(D.setFiles (bZ D.files k [])).used=D.used:=by
  have:=gS hmg ([]:List (Int×Sec))
  show cd _=cd _
  simpa [DD.setFiles] using this
 refine⟨?_,e2,h.ok.put k (x,[]),Big.add dQ hg c h.big pf (fun z hz=>fr z (.inr hz)) (fun z hz hG=>?_),?_,h.ne,fun hz=>?_,fun hz=>?_,h.cap⟩
 ·refine(fr d (.inl rfl)).trans (h.box.trans ?_)
  unfold dkC
  rw [hus]
  rfl
 ·rcases hz with rfl|rfl
  ·exact(hx z (.inr (.inr hG))).1 rfl
  ·exact(hx z (.inr (.inr hG))).2 rfl
 ·show bZ D.files k []=_
  rw [jH,h.fl]
 ·have:=hx d (.inl rfl)
  rcases hz with (hz|hz)|hz
  ·exact this.1 hz
  ·exact this.2 hz
  ·exact h.nd hz
 ·have:=hx mp (.inr (.inl rfl))
  rcases hz with (hz|hz)|hz
  ·exact this.1 hz
  ·exact this.2 hz
  ·exact h.nm hz
theorem xF{d:Nat}{D:DD}{Fp:Nat→Prop}{H:aJ}{nx:Nat}{b0 b1:Nat}(hD:DAt d D Fp H)(k:ByteArray)(hmg:aV D.files k=none)
 (h0:H.at' b0=some (ak 25 [.ptr d 0])) (h1:H.at' b1=some (ak 9 [.sc (kE k)])) (n0: ¬ Fp b0) (n1: ¬ Fp b1) :
 Fnc Try.prog 41 [.ptr b0 0,.ptr b1 0] H nx (fun q=> ∃ F',DAt d (D.setFiles (bZ D.files k [])) F' q.2.1∧Stp Fp F' H nx q.2.1 q.2.2):=by
 refine Fnc.start Try.func41 rfl rfl ?_
 refine ca fun hund=>?_
 have hlt:=hD.lt hund
 obtain⟨mp,m,c,G,h,hF⟩:=id hD
 have hbox:=h.box
 have hmap:=h.map
 have l0:=hund _ _ h0
 have l1:=hund _ _ h1
 have ld:=hund _ _ hbox
 have lm:=hund _ _ hmap
 have hne:=h.ne
 have hFm:Fp mp:=(hF mp).2 (.inr (.inl rfl))
 have m0:b0≠mp:=fun e=>n0 (e ▸ hFm)
 have m1:b1≠mp:=fun e=>n1 (e ▸ hFm)
 have hg:ct m k=none:=by
  rw [h.fl,dT] at hmg
  exact Option.map_eq_none_iff.1 hmg
 (apply aR;(focus(kernel_rfl));(focus(kernel_rfl)))
 (repeat(first|(apply bh;exact rfl;exact rfl;exact rfl)|(apply aZ;exact rfl;exact rfl;exact rfl;exact(F.fo _ _ rfl rfl))|(apply pU;exact rfl;exact rfl;exact rfl)|(apply m8;exact rfl;exact rfl;exact rfl;exact(F.ze _ rfl);exact(F.pl _ rfl);exact rfl)|refine cQ rfl rfl rfl (F.ag _ rfl) (by assumption) (by exact rfl) ?_|((apply rZ;exact rfl;exact rfl))|refine kL (m:=m) (enc:=kE) (val:=fq) (kk:=k) (v:=(nx+1,[])) rfl rfl rfl (F.un _ rfl) (kK) (by(repeat(first|assumption|refine(Tr.aa _ _ (by omega)).trans ?_));done) rfl ?_))
 (refine aF ?_);(refine⟨by kernel_rfl,?_,?_⟩);(focus(repeat(first|exact trivial|refine⟨.inl rfl,?_⟩|refine⟨.inr (by(repeat(refine⟨(by first|exact be (F.fo _ _ rfl rfl) rfl|exact br rfl|exact aU (F.ag _ rfl) rfl (by(repeat(first|assumption|refine(Tr.aa _ _ (by omega)).trans ?_));done) (aX rfl)|exact gk rfl (F.ze _ rfl) (F.pl _ rfl) rfl),?_⟩));exact trivial),?_⟩)))
 dsimp only [wrL]
 ((apply dU Try.func41 (congrArg Array.toList Try.results41));(focus(repeat(exact ResIs.nil))))
 have hk1: ∀ z,(z=d∨z=mp∨G z)→z<nx:=fun z hz=>hlt z ((hF z).2 hz)
 refine⟨_,⟨mp,_,_,_,h.addFile hg (x:=nx+1) (y:=nx) (by omega) (fun z hz=>by have:=hk1 z hz;exact⟨by omega,by omega⟩) (by(repeat(first|exact Tr.ae _ _ _|refine(Tr.aa _ _ (by omega)).trans ?_));done) (by(repeat(first|exact Tr.ae _ _ _|refine(Tr.aa _ _ (by omega)).trans ?_));done) (by(repeat(exact Tr.ae _ _ _));done) (fun z hz=>?_),fun z=>Iff.rfl⟩,by show nx≤nx+1+1;omega,fun z hz=>?_,fun z hz hn=>?_⟩
 ·have e1:z<nx:=hk1 z (hz.imp id .inr)
  have e2:z≠mp:=by
   rcases hz with rfl|hz
   ·exact hne
   ·exact fun e=>h.nm (e ▸ hz)
  (focus((repeat(refine(Tr.aa _ _ (by omega)).trans ?_));exact rfl))
 ·rw [hF]
  rcases hz with hz|hz|(hz|hz)|hz
  ·exact .inl (.inl hz)
  ·exact .inl (.inr (.inl hz))
  ·exact .inr (by omega)
  ·exact .inr (by omega)
  ·exact .inl (.inr (.inr hz))
 ·have e2:z≠mp:=fun e=>hn (e ▸ hFm)
  (focus((repeat(refine(Tr.aa _ _ (by omega)).trans ?_));exact rfl))
theorem wL{d:Nat}{D:DD}{Fp:Nat→Prop}{H:aJ}{nx N:Nat}(hD:DAt d D Fp H)(hok:D.Ok N)(hN:N<1000000)(k:ByteArray)(hk:k.size≤140737488355328):Fnc Try.prog 23 [.ptr d 0,.sc (kE k)] H nx (x5 d (D.make k).1 (.sc (.int .i64 (D.make k).2)) Fp H nx):=by
 refine Fnc.start Try.func23 rfl rfl ?_
 refine ca fun hund=>?_
 have hlt:=hD.lt hund
 (repeat(first|refine aj ?_|refine ac ?_|refine ab ?_|refine aE ?_|(apply ah;exact rfl;exact rfl;exact rfl)|(apply jT;exact rfl;exact rfl;exact rfl;exact rfl)|refine aG rfl rfl rfl (F.ag _ rfl) (by(repeat(first|exact Tr.ae _ _ _|refine(Tr.aa _ _ (by omega)).trans ?_));done) (by exact rfl) ?_))
 refine dR (R:=fun H1 n1=>n1=nx+1+1∧H1.at' nx=some (ak 25 [.ptr d 0])∧H1.at' (nx+1)=some (ak 9 [.sc (kE k)])∧ ∀ z,z<nx→H1.at' z=H.at' z) ⟨rfl,by(focus((repeat(first|exact Tr.ae _ _ _|refine(Tr.aa _ _ (by omega)).trans ?_));done)),by(focus((repeat(exact Tr.ae _ _ _));done)),fun z hz=>by(focus((repeat(refine(Tr.aa _ _ (by omega)).trans ?_));exact rfl))⟩ ?_
 rintro H1 n1 ⟨rfl,h0,h1,hold⟩
 have hD1:DAt d D Fp H1:=hD.frame fun z hz=>hold z (hlt z hz)
 have hFd:d<nx:=by
  obtain⟨mp,m,c,G,h,hF⟩:=hD
  exact hlt d ((hF d).2 (.inl rfl))
 clear hD
 have n0: ¬ Fp nx:=fun e=>by have:=hlt _ e;omega
 have n1: ¬ Fp (nx+1):=fun e=>by have:=hlt _ e;omega
 obtain⟨mp,m,c,G,h,hF⟩:=id hD1
 have hbox:=h.box
 have hmap:=h.map
 have hlen:m.length=D.files.length:=by rw [h.fl,qN]
 (repeat(first|refine aj ?_|refine ac ?_|refine ab ?_|refine am rfl ?_|(apply ah;exact rfl;exact rfl;exact rfl)|refine aG rfl rfl rfl (F.ag _ rfl) (by assumption) (by exact rfl) ?_|(apply cG;exact rfl;exact rfl;exact rfl)|(refine aL rfl rfl rfl (by kernel_rfl) (Fnc.mono (fP hbox h.cap) ?_);rintro _ rfl;dsimp only)|(refine aL rfl rfl rfl (by kernel_rfl) (Fnc.mono (ib k hk) ?_);rintro _ rfl;dsimp only)))
 cases h2:jf k with
 | false=>
   rw [show D.make k=(D,2) by unfold DD.make;rw [if_pos h2]]
   (repeat(first|refine aj ?_|refine ac ?_|refine ab ?_|refine ar rfl ?_|(apply ah;exact rfl;exact rfl;exact rfl)))
   ((apply aQ Try.func23 (congrArg Array.toList Try.results23));(focus(repeat(first|exact ResIs.nil|apply ResIs.tmp rfl))))
   exact⟨rfl,Fp,hD1,Stp.eH (n1:=nx+1+1) Stp.refl (by omega) hold⟩
 | true=>
   (repeat(first|refine aj ?_|refine ac ?_|refine ab ?_|refine am rfl ?_|(apply ah;exact rfl;exact rfl;exact rfl)|refine aG rfl rfl rfl (F.ag _ rfl) (by assumption) (by exact rfl) ?_|(refine aL rfl rfl rfl (by kernel_rfl) (Fnc.mono (ub hD1 k) ?_);rintro _ rfl;dsimp only)))
   cases h3:(aV D.files k).isSome with
   | true=>
     rw [show D.make k=(D,14) by unfold DD.make;rw [if_neg (by rw [h2];simp),if_pos (by intro e;rw [e] at h3;cases h3)]]
     (repeat(first|refine aj ?_|refine ac ?_|refine ab ?_|refine ar rfl ?_|(apply ah;exact rfl;exact rfl;exact rfl)))
     ((apply aQ Try.func23 (congrArg Array.toList Try.results23));(focus(repeat(first|exact ResIs.nil|apply ResIs.tmp rfl))))
     exact⟨rfl,Fp,hD1,Stp.eH (n1:=nx+1+1) Stp.refl (by omega) hold⟩
   | false=>
     have hmg:aV D.files k=none:=by
      cases e:aV D.files k with
      | none=>rfl
      | some l=>rw [e] at h3;cases h3
     (repeat(first|refine aj ?_|refine ac ?_|refine am rfl ?_|(apply aN;exact rfl;exact rfl;exact rfl)|(apply aI;exact rfl;exact rfl;exact rfl;exact(F.fo _ _ rfl rfl))|refine aG rfl rfl rfl (F.ag _ rfl) (by assumption) (by exact rfl) ?_|(refine qm (m:=m) (enc:=kE) (val:=fq) rfl rfl rfl (F.un _ rfl) hmap ?_)))
     (apply cx;exact rfl;exact rfl;exact rfl;exact rfl)
     all_goals intro h4
     ·rw [show D.make k=(D,5) by unfold DD.make;rw [if_neg (by rw [h2];simp),if_neg (by rw [hmg];simp),if_pos (by omega)]]
      (repeat(first|refine aj ?_|refine ac ?_|refine ab ?_|refine ar rfl ?_|(apply ah;exact rfl;exact rfl;exact rfl)))
      ((apply aQ Try.func23 (congrArg Array.toList Try.results23));(focus(repeat(first|exact ResIs.nil|apply ResIs.tmp rfl))))
      exact⟨rfl,Fp,hD1,Stp.eH (n1:=nx+1+1) Stp.refl (by omega) hold⟩
     ·rw [show D.make k=D.change false fun D=>D.setFiles (bZ D.files k []) by unfold DD.make;rw [if_neg (by rw [h2];simp),if_neg (by rw [hmg];simp),if_neg (by omega)]]
      (repeat(first|refine aj ?_|refine ac ?_|refine ab ?_|refine ax ?_|refine aA ?_|refine am rfl ?_|(apply ah;exact rfl;exact rfl;exact rfl)|(apply da;exact rfl;exact rfl;exact rfl;exact rfl)|refine aG rfl rfl rfl (F.ag _ rfl) (by assumption) (by exact rfl) ?_))
      refine aL rfl rfl rfl (by kernel_rfl) (Fnc.mono (jM hD1 hok hN false 41 [.ptr nx 0,.ptr (nx+1) 0] (fun D=>D.setFiles (bZ D.files k [])) (by kernel_rfl) ?_) ?_)
      ·intro D1 H2 e1 e2 hA hkeep
       exact xF hA k (by rw [e1];exact hmg) ((hkeep nx (by omega)).trans h0) ((hkeep (nx+1) (by omega)).trans h1) n0 n1
      ·rintro⟨_,H2,n2⟩ ⟨rfl,F',hA,hS⟩
       dsimp only at hA hS ⊢
       (repeat(first|refine ab ?_|(apply ah;exact rfl;exact rfl;exact rfl)))
       ((apply aQ Try.func23 (congrArg Array.toList Try.results23));(focus(repeat(first|exact ResIs.nil|apply ResIs.tmp rfl))))
       exact⟨rfl,F',hA,Stp.eH hS (by omega) hold⟩
theorem xJ{m:MFl}{k to:ByteArray}{x:Nat×List (Int×Sec)}(hg:ct m k=some x)(ht:ct m to=none)(hne:k≠to)(c:Nat): ∃ A B,kv m=A ++ (k,x) :: B∧kv (ig (c6 m to x c) k)=(A ++ B) ++ [(to,x)]:=by
 have hg':aV (kv m) k=some x:=by rw [jF];exact hg
 have ht':aV (kv m) to=none:=by rw [jF];exact ht
 obtain⟨A,B,h1,h2⟩:=db hg'
 refine⟨A,B,h1,?_⟩
 rw [qP,oH,mL (cv.1 ht'),h1,List.append_assoc,List.cons_append,iB h2,List.append_assoc]
theorem Dk.move{d mp:Nat}{m:MFl}{c:Nat}{D:DD}{G:Nat→Prop}{H:aJ}(h:Dk d mp m c D G H)(hok:(D.files.map (·.1)).Nodup){k to:ByteArray}{fn:Nat}{l:List (Int×Sec)}(hg:ct m k=some (fn,l))(ht:ct m to=none)(hne:k≠to){H':aJ}
 (e2:H'.at' mp=some (eO kE fq (ig (c6 m to (fn,l) c) k) (kw m to c))) (fr: ∀ z,(z=d∨G z)→H'.at' z=H.at' z):Dk d mp (ig (c6 m to (fn,l) c) k) (kw m to c) (D.setFiles (eF (bZ D.files to l) k)) G H':=by
 obtain⟨A,B,h1,h2⟩:=xJ hg ht hne c
 have hb:=h.big
 rw [h1] at hb
 obtain⟨F1,F2,p1,p2,p3,p4⟩:=Big.focus hb
 have hb2:Big PF ((A ++ B) ++ [(to,(fn,l))]) H (fun z=>F1 z∨F2 z):=Big.kO (A:=A ++ B) (B:= []) (P:=PF) (k:=to) (x:=(fn,l)) p1 (by rw [List.append_nil];exact p2) p3
 have hb3:Big PF ((A ++ B) ++ [(to,(fn,l))]) H G:=Big.same hb2 p4
 have hmg:aV D.files k=some l:=by rw [h.fl,dT,hg];rfl
 have hmt:aV D.files to=none:=by rw [h.fl,dT,ht];rfl
 have hus:(D.setFiles (eF (bZ D.files to l) k)).used=D.used:=by
  have e1:=gS hmt l
  have e2:aV (bZ D.files to l) k=some l:=by rw [bW,if_neg (fun e=>hne e.symm)];exact hmg
  have e3:=jq e2
  show cd _=cd _
  simp only [DD.setFiles]
  omega
 refine⟨?_,e2,(h.ok.put to (fn,l)).del k,?_,?_,h.ne,h.nd,h.nm,h.cap⟩
 ·refine(fr d (.inl rfl)).trans (h.box.trans ?_)
  unfold dkC
  rw [hus]
  rfl
 ·rw [h2]
  exact Big.frame dQ _ _ _ _ hb3 fun z hz=>fr z (.inr hz)
 ·show eF (bZ D.files to l) k=_
  rw [qX,jH,h.fl]
theorem s6{d:Nat}{D:DD}{Fp:Nat→Prop}{H:aJ}{nx:Nat}{b0 b1 b2:Nat}(hD:DAt d D Fp H)(hnd:(D.files.map (·.1)).Nodup)(hu:D.used<1000000000)(k to:ByteArray){l:List (Int×Sec)}(hl:aV D.files k=some l)
 (h0:H.at' b0=some (ak 9 [.sc (kE k)])) (h1:H.at' b1=some (ak 9 [.sc (kE to)])) (h2:H.at' b2=some (ak 25 [.ptr d 0])) (n0: ¬ Fp b0) (n1: ¬ Fp b1) (n2: ¬ Fp b2) :
 Fnc Try.prog 42 [.ptr b0 0,.ptr b1 0,.ptr b2 0] H nx (fun q=> ∃ F',DAt d (D.moved k to) F' q.2.1∧Stp Fp F' H nx q.2.1 q.2.2):=by
 refine Fnc.start Try.func42 rfl rfl ?_
 refine ca fun hund=>?_
 have hlt:=hD.lt hund
 have l0:=hund _ _ h0
 have l1:=hund _ _ h1
 have l2:=hund _ _ h2
 unfold DD.moved
 by_cases hkt:k=to
 ·rw [if_pos hkt]
  (repeat(first|refine aj ?_|refine ac ?_|refine ab ?_|refine ar rfl ?_|refine aG rfl rfl rfl (F.ag _ rfl) (by assumption) (by exact rfl) ?_|((apply qn;exact rfl;exact rfl;exact rfl;exact rfl;exact((MapKept.bytes_beq k to).2 hkt)))))
  ((apply aQ Try.func42 (congrArg Array.toList Try.results42));(focus(repeat(exact ResIs.nil))))
  exact⟨Fp,hD,Stp.refl⟩
 ·rw [if_neg hkt,hl]
  have hbq:(k == to)=false:=by
   cases e:k == to with
   | false=>rfl
   | true=>exact absurd ((MapKept.bytes_beq k to).1 e) hkt
  (repeat(first|refine aj ?_|refine ac ?_|refine ab ?_|refine aA ?_|refine am rfl ?_|refine aG rfl rfl rfl (F.ag _ rfl) (by assumption) (by exact rfl) ?_|(refine qn rfl rfl rfl rfl hbq ?_)))
  refine aL rfl rfl rfl (by kernel_rfl) (Fnc.mono (wP hD hu to) ?_)
  rintro⟨_,H2,nx2⟩ ⟨F2,hA,hS,hsub⟩
  dsimp only at hA hS ⊢
  have g0:=(hS.2.2 b0 l0 n0).trans h0
  have g1:=(hS.2.2 b1 l1 n1).trans h1
  have g2:=(hS.2.2 b2 l2 n2).trans h2
  have hnd2:((D.gone to).files.map (·.1)).Nodup:=(fQ hnd to).1
  have q1:aV (D.gone to).files k=some l:=by
   show aV (eF D.files to) k=_
   rw [ia hnd,if_neg (fun e=>hkt e.symm)];exact hl
  have q2:aV (D.gone to).files to=none:=by
   show aV (eF D.files to) to=_
   rw [ia hnd,if_pos rfl]
  obtain⟨mp,m,c,G,h,hF⟩:=id hA
  have hbox:=h.box
  have hmap:=h.map
  have hne:=h.ne
  have hFm:F2 mp:=(hF mp).2 (.inr (.inl rfl))
  have m0:b0≠mp:=fun e=>n0 (hsub _ (e ▸ hFm))
  have m1:b1≠mp:=fun e=>n1 (hsub _ (e ▸ hFm))
  have m2:b2≠mp:=fun e=>n2 (hsub _ (e ▸ hFm))
  rw [h.fl,dT] at q1 q2
  obtain⟨⟨fn,l'⟩,hg,rfl⟩:=zn.1 q1
  have ht:=Option.map_eq_none_iff.1 q2
  (repeat(first|refine aj ?_|refine ab ?_))
  (apply ff;(focus(kernel_rfl));(focus(kernel_rfl)))
  (repeat(first|(apply bh;exact rfl;exact rfl;exact rfl)|(apply aZ;exact rfl;exact rfl;exact rfl;exact(F.fo _ _ rfl rfl))|refine cQ rfl rfl rfl (F.ag _ rfl) (by assumption) (by exact rfl) ?_|refine gA (m:=m) (enc:=kE) (val:=fq) rfl rfl rfl rfl (F.un _ rfl) (kK) (by assumption) (hg) ?_|refine kL (m:=m) (enc:=kE) (val:=fq) (kk:=to) (v:=(fn,l')) rfl rfl rfl (F.un _ rfl) (kK) (by assumption) rfl ?_))
  (refine aF ?_);(refine⟨by kernel_rfl,?_,?_⟩);(focus(repeat(first|exact trivial|refine⟨.inl (c7 rfl),?_⟩|refine⟨.inr ⟨0,by kernel_rfl,AllH.all (fun _=>(by first|exact br rfl|exact be (F.fo _ _ rfl rfl) rfl)) _⟩,?_⟩|refine⟨.inr ⟨0,by kernel_rfl,(by(refine⟨(by(exact aU (F.ag _ rfl) rfl (by(repeat(first|assumption|refine(Tr.aa _ _ (by omega)).trans ?_));done) (aX rfl))),?_⟩;(repeat(refine⟨(by(exact aU (F.ag _ rfl) rfl (by assumption) (aX rfl))),?_⟩));exact trivial))⟩,?_⟩|refine⟨.inl (by kernel_rfl),?_⟩)))
  dsimp only [wrL]
  have hbox3:(H2.set mp (eO kE fq (c6 m to (fn,l') c) (kw m to c))).at' d=some (ak 58 (dkC (D.gone to) mp)):=(Tr.aa _ _ hne).trans hbox
  (apply ff;(focus(kernel_rfl));(focus(kernel_rfl)))
  (repeat(first|(apply bh;exact rfl;exact rfl;exact rfl)|(apply aZ;exact rfl;exact rfl;exact rfl;exact(F.fo _ _ rfl rfl))|refine cQ rfl rfl rfl (F.ag _ rfl) (by(repeat(first|assumption|refine(Tr.aa _ _ (by omega)).trans ?_));done) (by exact rfl) ?_|refine v4 rfl (fun _ h=>by cases h) (nV (m:=c6 m to (fn,l') c) (c:=kw m to c) (enc:=kE) (val:=fq) (kk:=k) rfl rfl (F.un _ rfl) kK (by(repeat(exact Tr.ae _ _ _));done)) ?_))
  (refine aF ?_);(refine⟨by kernel_rfl,?_,?_⟩);(focus(repeat(first|exact trivial|refine⟨.inl (c7 rfl),?_⟩|refine⟨.inr ⟨0,by kernel_rfl,AllH.all (fun _=>(by first|exact br rfl|exact be (F.fo _ _ rfl rfl) rfl)) _⟩,?_⟩|refine⟨.inr ⟨0,by kernel_rfl,(by(refine⟨(by(exact aU (F.ag _ rfl) rfl (by(repeat(first|assumption|refine(Tr.aa _ _ (by omega)).trans ?_));done) (aX rfl))),?_⟩;(repeat(refine⟨(by(exact aU (F.ag _ rfl) rfl (by(repeat(first|assumption|refine(Tr.aa _ _ (by omega)).trans ?_));done) (aX rfl))),?_⟩));exact trivial))⟩,?_⟩)))
  dsimp only [wrL]
  ((apply dU Try.func42 (congrArg Array.toList Try.results42));(focus(repeat(exact ResIs.nil))))
  refine⟨F2,⟨mp,_,_,G,h.move hnd2 hg ht hkt (by(repeat(exact Tr.ae _ _ _));done) (fun z hz=>?_),hF⟩,hS.trans ⟨zy _,fun z hz=> .inl hz,fun z hz hn=>?_⟩⟩
  ·have e2:z≠mp:=by
    rcases hz with rfl|hz
    ·exact hne
    ·exact fun e=>h.nm (e ▸ hz)
   (focus((repeat(refine(Tr.aa _ _ (by omega)).trans ?_));exact rfl))
  ·have e2:z≠mp:=fun e=>hn (e ▸ hFm)
   (focus((repeat(refine(Tr.aa _ _ (by omega)).trans ?_));exact rfl))
theorem qq{d:Nat}{D:DD}{Fp:Nat→Prop}{H:aJ}{nx N:Nat}(hD:DAt d D Fp H)(hok:D.Ok N)(hN:N<1000000)(k to:ByteArray)(hk:k.size≤140737488355328)(ht:to.size≤140737488355328):Fnc Try.prog 24 [.ptr d 0,.sc (kE k),.sc (kE to)] H nx (x5 d (D.rename k to).1 (.sc (.int .i64 (D.rename k to).2)) Fp H nx):=by
 refine Fnc.start Try.func24 rfl rfl ?_
 refine ca fun hund=>?_
 have hlt:=hD.lt hund
 (repeat(first|refine aj ?_|refine ac ?_|refine ab ?_|refine aE ?_|(apply ah;exact rfl;exact rfl;exact rfl)|(apply jT;exact rfl;exact rfl;exact rfl;exact rfl)|refine aG rfl rfl rfl (F.ag _ rfl) (by(repeat(first|exact Tr.ae _ _ _|refine(Tr.aa _ _ (by omega)).trans ?_));done) (by exact rfl) ?_))
 refine dR (R:=fun H1 n1=>n1=nx+1+1+1∧H1.at' nx=some (ak 25 [.ptr d 0])∧H1.at' (nx+1)=some (ak 9 [.sc (kE k)])∧H1.at' (nx+1+1)=some (ak 9 [.sc (kE to)])∧ ∀ z,z<nx→H1.at' z=H.at' z) ⟨rfl,by(focus((repeat(first|exact Tr.ae _ _ _|refine(Tr.aa _ _ (by omega)).trans ?_));done)),by(focus((repeat(first|exact Tr.ae _ _ _|refine(Tr.aa _ _ (by omega)).trans ?_));done)),by(focus((repeat(exact Tr.ae _ _ _));done)),fun z hz=>by(focus((repeat(refine(Tr.aa _ _ (by omega)).trans ?_));exact rfl))⟩ ?_
 rintro H1 n1 ⟨rfl,h0,h1,h2,hold⟩
 have hD1:DAt d D Fp H1:=hD.frame fun z hz=>hold z (hlt z hz)
 have hFd:d<nx:=by
  obtain⟨mp,m,c,G,h,hF⟩:=hD
  exact hlt d ((hF d).2 (.inl rfl))
 clear hD
 have n0: ¬ Fp nx:=fun e=>by have:=hlt _ e;omega
 have n1: ¬ Fp (nx+1):=fun e=>by have:=hlt _ e;omega
 have n2: ¬ Fp (nx+1+1):=fun e=>by have:=hlt _ e;omega
 obtain⟨mp,m,c,G,h,hF⟩:=id hD1
 have hbox:=h.box
 (repeat(first|refine aj ?_|refine ac ?_|refine ab ?_|refine am rfl ?_|(apply ai;exact rfl;exact rfl;exact rfl)|(apply ah;exact rfl;exact rfl;exact rfl)|refine aG rfl rfl rfl (F.ag _ rfl) (by assumption) (by exact rfl) ?_|(apply cG;exact rfl;exact rfl;exact rfl)|(refine aL rfl rfl rfl (by kernel_rfl) (Fnc.mono (fP hbox h.cap) ?_);rintro _ rfl;dsimp only)|(refine aL rfl rfl rfl (by kernel_rfl) (Fnc.mono (ib k hk) ?_);rintro _ rfl;dsimp only)))
 cases h3:jf k with
 | false=>
   rw [show D.rename k to=(D,2) by unfold DD.rename;rw [if_pos (.inl h3)]]
   (repeat(first|refine aj ?_|refine ac ?_|refine ab ?_|refine ar rfl ?_|(apply ah;exact rfl;exact rfl;exact rfl)|(apply dz;exact rfl;exact rfl;exact rfl;exact rfl)|(apply jn;exact rfl)))
   ((apply aQ Try.func24 (congrArg Array.toList Try.results24));(focus(repeat(first|exact ResIs.nil|apply ResIs.tmp rfl))))
   exact⟨rfl,Fp,hD1,Stp.eH (n1:=nx+1+1+1) Stp.refl (by omega) hold⟩
 | true=>
   (repeat(first|refine ab ?_|(apply ah;exact rfl;exact rfl;exact rfl)|(apply bL;exact rfl;exact rfl;exact rfl;exact rfl)|refine aG rfl rfl rfl (F.ag _ rfl) (by assumption) (by exact rfl) ?_|(apply cG;exact rfl;exact rfl;exact rfl)|(refine aL rfl rfl rfl (by kernel_rfl) (Fnc.mono (ib to ht) ?_);rintro _ rfl;dsimp only)))
   cases h4:jf to with
   | false=>
     rw [show D.rename k to=(D,2) by unfold DD.rename;rw [if_pos (.inr h4)]]
     (repeat(first|refine aj ?_|refine ac ?_|refine ab ?_|refine ar rfl ?_|(apply ah;exact rfl;exact rfl;exact rfl)))
     ((apply aQ Try.func24 (congrArg Array.toList Try.results24));(focus(repeat(first|exact ResIs.nil|apply ResIs.tmp rfl))))
     exact⟨rfl,Fp,hD1,Stp.eH (n1:=nx+1+1+1) Stp.refl (by omega) hold⟩
   | true=>
     have hno: ¬ (jf k=false∨jf to=false):=by rw [h3,h4];simp
     (repeat(first|refine aj ?_|refine ac ?_|refine ab ?_|refine am rfl ?_|(apply ah;exact rfl;exact rfl;exact rfl)|refine aG rfl rfl rfl (F.ag _ rfl) (by assumption) (by exact rfl) ?_|(apply cG;exact rfl;exact rfl;exact rfl)|(refine aL rfl rfl rfl (by kernel_rfl) (Fnc.mono (ub hD1 k) ?_);rintro _ rfl;dsimp only)))
     cases hl:aV D.files k with
     | none=>
       rw [show D.rename k to=(D,6) by unfold DD.rename;rw [if_neg hno,if_pos hl]]
       (repeat(first|refine aj ?_|refine ac ?_|refine ab ?_|refine ar rfl ?_|(apply ah;exact rfl;exact rfl;exact rfl)))
       ((apply aQ Try.func24 (congrArg Array.toList Try.results24));(focus(repeat(first|exact ResIs.nil|apply ResIs.tmp rfl))))
       exact⟨rfl,Fp,hD1,Stp.eH (n1:=nx+1+1+1) Stp.refl (by omega) hold⟩
     | some l=>
       rw [show D.rename k to=D.change false fun D=>D.moved k to by unfold DD.rename;rw [if_neg hno,if_neg (by rw [hl];simp)]]
       (repeat(first|refine aj ?_|refine ac ?_|refine ax ?_|refine aA ?_|refine am rfl ?_|(apply da;exact rfl;exact rfl;exact rfl;exact rfl)|refine aG rfl rfl rfl (F.ag _ rfl) (by assumption) (by exact rfl) ?_))
       refine aL rfl rfl rfl (by kernel_rfl) (Fnc.mono (jM hD1 hok hN false 42 [.ptr (nx+1) 0,.ptr (nx+1+1) 0,.ptr nx 0] (fun D=>D.moved k to) (by kernel_rfl) ?_) ?_)
       ·intro D1 H2 e1 e2 hA hkeep
        have hu:D1.used<1000000000:=by have:=jU e1;have:=hok.f.used;unfold DD.used at *;omega
        exact s6 hA (by rw [e1];exact hok.f.ndF) hu k to (by rw [e1];exact hl) ((hkeep _ (by omega)).trans h1) ((hkeep _ (by omega)).trans h2) ((hkeep _ (by omega)).trans h0) n1 n2 n0
       ·rintro⟨_,H2,n2⟩ ⟨rfl,F',hA,hS⟩
        dsimp only at hA hS ⊢
        (repeat(first|refine ab ?_|(apply ah;exact rfl;exact rfl;exact rfl)))
        ((apply aQ Try.func24 (congrArg Array.toList Try.results24));(focus(repeat(first|exact ResIs.nil|apply ResIs.tmp rfl))))
        exact⟨rfl,F',hA,Stp.eH hS (by omega) hold⟩
theorem qQ{K V:Type} [DecidableEq K]: ∀ {m:List (K×V×Nat)} {x:K×V×Nat},(m.map (·.1)).Nodup→x∈m→ ∀ (w:V) (c:Nat),c6 m x.1 w c=m.map fun y=>if y.1=x.1 then(y.1,w,y.2.2) else y
 | [],x,_,h,_,_=>by cases h
 | y :: m,x,hn,h,w,c=>by
   rw [zB,List.nodup_cons] at hn
   rcases List.mem_cons.1 h with rfl|h
   ·have:(m.map fun z=>if z.1=x.1 then(z.1,w,z.2.2) else z)=m:=by
     refine(List.map_congr_left fun z hz=>?_).trans (List.map_id m)
     exact if_neg (fun e:z.1=x.1=>hn.1 (List.mem_map.2 ⟨z,hz,e⟩))
    simp [c6,this]
   ·have hne:y.1≠x.1:=fun e=>hn.1 (e ▸ List.mem_map_of_mem h)
    simp only [c6,if_neg hne,zB]
    rw [qQ hn.2 h w c]
theorem eT{K V:Type} [DecidableEq K]: ∀ {m:List (K×V×Nat)} {x:K×V×Nat},(m.map (·.1)).Nodup→x∈m→ct m x.1=some x.2.1
 | [],x,_,h=>by cases h
 | y :: m,x,hn,h=>by
   rw [zB,List.nodup_cons] at hn
   rcases List.mem_cons.1 h with rfl|h
   ·simp [ct]
   ·have hne:y.1≠x.1:=fun e=>hn.1 (e ▸ List.mem_map_of_mem h)
    have e:ct (y :: m) x.1=ct m x.1:=by simp [ct,hne]
    rw [e]
    exact eT hn.2 h
theorem lA{K V:Type}: ∀ {m:List (K×V×Nat)} {x y:K×V×Nat},(m.map (·.1)).Nodup→x∈m→y∈m→y.1=x.1→y=x
 | [],_,_,_,h,_,_=>by cases h
 | z :: m,x,y,hn,hx,hy,e=>by
   rw [zB,List.nodup_cons] at hn
   rcases List.mem_cons.1 hx with rfl|hx
   ·rcases List.mem_cons.1 hy with h|hy
    ·exact h
    ·exact absurd (List.mem_map.2 ⟨y,hy,e⟩) hn.1
   ·rcases List.mem_cons.1 hy with h|hy
    ·exact absurd (List.mem_map.2 ⟨x,hx,by rw [← e,h]⟩) hn.1
    ·exact lA hn.2 hx hy e
def wD(s:Sec):Sec:=⟨s.has,[]⟩
def fK(m:MSc)(ks:List Int):MSc:=m.map fun x=>if x.1∈ks then(x.1,(x.2.1.1,wD x.2.1.2),x.2.2) else x
theorem jV(m:MSc)(ks:List Int):(fK m ks).map (·.1)=m.map (·.1):=by
 unfold fK
 rw [List.map_map]
 refine List.map_congr_left fun x _=>?_
 simp only [Function.comp_def]
 split <;> rfl
theorem rD(m:MSc)(ks:List Int):lS iE gN (fK m ks)=lS iE gN m:=by
 unfold fK lS
 rw [List.map_map]
 refine List.map_congr_left fun x _=>?_
 simp only [Function.comp_def]
 split <;> rfl
theorem sO(m:MSc):fK m []=m:=by
 unfold fK
 refine(List.map_congr_left fun x _=>?_).trans (List.map_id m)
 rw [if_neg (by simp)]
 rfl
theorem rE{m:MSc}(hn:(m.map (·.1)).Nodup){ks:List Int}{x:Int×(Nat×Sec)×Nat}(hx:x∈m)(hk:x.1∉ks)(c:Nat):c6 (fK m ks) x.1 (x.2.1.1,wD x.2.1.2) c=fK m (ks ++ [x.1]):=by
 have hm:x∈fK m ks:=List.mem_map.2 ⟨x,hx,by rw [if_neg hk]⟩
 rw [qQ (by rw [jV];exact hn) hm]
 unfold fK
 rw [List.map_map]
 refine List.map_congr_left fun y hy=>?_
 simp only [Function.comp_def]
 by_cases e:y.1=x.1
 ·have:=lA hn hx hy e
  subst this
  simp [hk]
 ·simp only [List.mem_append,List.mem_singleton,e,or_false]
  split <;> simp [e]
theorem sQ{m:MSc}{ks:List Int}(h: ∀ x∈m,x.1∈ks):dt (fK m ks)=je (dt m):=by
 unfold dt je fK kv
 simp only [List.map_map]
 refine List.map_congr_left fun x hx=>?_
 simp only [Function.comp_def,if_pos (h x hx)]
 rfl
theorem sP{m:MSc}(hn:(m.map (·.1)).Nodup){ks:List Int}{x:Int×(Nat×Sec)×Nat}(hx:x∈m)(hk:x.1∉ks):ct (fK m ks) x.1=some x.2.1:=
 eT (by rw [jV];exact hn) (List.mem_map.2 ⟨x,hx,by rw [if_neg hk]⟩)
theorem uZ{m:MSc}{c:Nat}(h:KOk m c)(ks:List Int):KOk (fK m ks) c:=by
 have hb:(fK m ks).map (·.2.2)=m.map (·.2.2):=by
  unfold fK
  rw [List.map_map]
  refine List.map_congr_left fun x _=>?_
  simp only [Function.comp_def]
  split <;> rfl
 refine⟨by rw [jV];exact h.keys,by rw [hb];exact h.born,fun x hx=>?_⟩
 have:x.2.2∈(fK m ks).map (·.2.2):=List.mem_map_of_mem hx
 rw [hb] at this
 obtain⟨y,hy,e⟩:=List.mem_map.1 this
 rw [← e]
 exact h.lt y hy
theorem Dk.putFile{d mp:Nat}{m:MFl}{c:Nat}{D:DD}{G:Nat→Prop}{H:aJ}(h:Dk d mp m c D G H){k:ByteArray}{fn ms:Nat}{l:List (Int×Sec)}{G2 R:Nat→Prop}(hg:ct m k=some (fn,l))(hR:Big PF (kv (ig m k)) H R)(hd: ∀ z,(z=fn∨z=ms∨G2 z)→ ¬ R z)(hG: ∀ z,G z↔(z=fn∨z=ms∨G2 z)∨R z)
 {H':aJ} {m3:MSc} {c3:Nat} {G3:Nat→Prop} (fl:Fl fn ms m3 c3 G3 H') (hsub: ∀ z,G3 z→G2 z) (hlen:(dt m3).length=l.length) (fr: ∀ z,(z=d∨z=mp∨R z)→H'.at' z=H.at' z):Dk d mp (c6 m k (fn,dt m3) c) c (D.setFiles (bZ D.files k (dt m3))) (fun z=>(z=fn∨z=ms∨G3 z)∨R z) H':=by
 have pf:PF k (fn,dt m3) H' (fun z=>z=fn∨z=ms∨G3 z):=⟨ms,_,_,_,fl,rfl,fun z=>Iff.rfl⟩
 have up: ∀ z,(z=fn∨z=ms∨G3 z)→(z=fn∨z=ms∨G2 z):=fun z hz=>hz.imp id fun e=>e.imp id (hsub z)
 have hmg:aV D.files k=some l:=by rw [h.fl,dT,hg];rfl
 have hk:=h.ok.put k (fn,dt m3)
 rw [jG hg] at hk
 have hus:(D.setFiles (bZ D.files k (dt m3))).used=D.used:=by
  have:=fj hmg (dt m3)
  show cd _=cd _
  simp only [DD.setFiles]
  omega
 have inG: ∀ z,((z=fn∨z=ms∨G3 z)∨R z)→G z:=fun z hz=>(hG z).2 (hz.imp (up z) id)
 refine⟨?_,(fr mp (.inr (.inl rfl))).trans (h.map.trans (congrArg (fun l=>some (VO.map l c)) (iC (g:=fq) (y:=(fn,dt m3)) hg rfl c).symm)),hk,Big.put dQ hg c hR pf (fun z hz=>fr z (.inr (.inr hz))) (fun z hz=>hd z (up z hz)),?_,h.ne,fun hz=>h.nd (inG _ hz),fun hz=>h.nm (inG _ hz),h.cap⟩
 ·refine(fr d (.inl rfl)).trans (h.box.trans ?_)
  unfold dkC
  rw [hus]
  rfl
 ·show bZ D.files k (dt m3)=_
  rw [jH,h.fl]
theorem xe{d:Nat}{D:DD}{Fp:Nat→Prop}{H:aJ}{nx:Nat}{b0 b1:Nat}(hD:DAt d D Fp H)(k:ByteArray){l:List (Int×Sec)}(hl:aV D.files k=some l)(hw: ∀ n s,aV l n=some s→s.writes.length<1000000)
 (h0:H.at' b0=some (ak 25 [.ptr d 0])) (h1:H.at' b1=some (ak 9 [.sc (kE k)])) :
 Fnc Try.prog 48 [.ptr b0 0,.ptr b1 0] H nx (fun q=> ∃ F',DAt d (D.setFiles (bZ D.files k (je l))) F' q.2.1∧Stp Fp F' H nx q.2.1 q.2.2):=by
 refine Fnc.start Try.func48 rfl rfl ?_
 refine ca fun hund=>?_
 have hlt:=hD.lt hund
 obtain⟨mp,m,c,G,h,hF⟩:=id hD
 have hbox:=h.box
 have hmap:=h.map
 have l0:=hund _ _ h0
 have l1:=hund _ _ h1
 have ld:=hund _ _ hbox
 have lmp:=hund _ _ hmap
 rw [h.fl] at hl
 obtain⟨fn,hg⟩:=ij hl
 obtain⟨ms,m2,c2,G2,R,hf,rfl,hR,hd,hG⟩:=h.file hg
 have hfb:=hf.box
 have hfm:=hf.map
 have lf:=hund _ _ hfb
 have lm:=hund _ _ hfm
 (repeat(refine aj ?_))
 (apply aR;(focus(kernel_rfl));(focus(kernel_rfl)))
 (repeat(first|(apply bh;exact rfl;exact rfl;exact rfl)|(apply aZ;exact rfl;exact rfl;exact rfl;exact(F.fo _ _ rfl rfl))|refine cQ rfl rfl rfl (F.ag _ rfl) (by assumption) (by exact rfl) ?_|refine gA (m:=m) (enc:=kE) (val:=fq) rfl rfl rfl rfl (F.un _ rfl) (kK) (by assumption) (hg) ?_|(apply mf;exact rfl;exact rfl;exact(fun _ h=>by cases h);exact(qA (m:=m2) (enc:=iE) (val:=gN) rfl (F.un _ rfl) hfm))))
 (refine aF ?_);(refine⟨by kernel_rfl,?_,?_⟩);(focus(repeat(first|exact trivial|refine⟨.inl rfl,?_⟩|refine⟨.inr (by(repeat(refine⟨(by first|exact be (F.fo _ _ rfl rfl) rfl|exact br rfl|exact aU (F.ag _ rfl) rfl (by(repeat(first|assumption|refine(Tr.aa _ _ (by omega)).trans ?_));done) (aX rfl)),?_⟩));exact trivial),?_⟩|refine⟨.inl (by kernel_rfl),?_⟩)))
 dsimp only [wrL]
 (repeat(refine aE ?_))
 refine dy (α:=MSc) (fun a=> [(13,.ptr nx 0)]) (fun a H1 n1=>(a.Nodup∧ ∀ x∈a,x∈m2)∧n1=nx+1∧H1.at' nx=some (itV ms c2 a)∧(∃ G3,Big PS (kv (fK m2 (a.map (·.1)))) H1 G3∧ ∀ z,G3 z→G2 z)∧ ∀ z,z<nx→ ¬ G2 z→H1.at' z=H.at' z) (fun a=>m2.length-a.length) []
  ⟨⟨List.nodup_nil,fun _ h=>(by cases h)⟩,rfl,by(focus((repeat(exact Tr.ae _ _ _));done)),⟨G2,by rw [List.map_nil,sO];exact Big.frame dw _ _ _ _ hf.big fun z hz=>(Tr.aa _ _ (by have:=hlt z ((hF z).2 (.inr (.inr ((hG z).2 (.inl (.inr (.inr hz)))))));omega)),fun _ h=>h⟩,fun z hz _=>by(focus((repeat(refine(Tr.aa _ _ (by omega)).trans ?_));exact rfl))⟩ (SlIn.sub (by repeat(first|exact trivial|refine⟨rfl,?_⟩))) ?_
 rintro done H1 n1 ⟨hdn,rfl,hit,⟨G3,hbig,hsub⟩,hold⟩ ih
 have gm: ¬ G2 ms:=hf.nm
 have hfm1:=(hold ms lm gm).trans hfm
 (repeat(first|refine aj ?_|refine ac ?_))
 refine l7 (b:=ms) (m:=m2) (c:=c2) (enc:=iE) (val:=gN) (done:=done) rfl rfl rfl hit hfm1 hf.ok hdn ?_ ?_
 ·intro hp
  (repeat(first|refine aj ?_|refine ab ?_|refine aS rfl ?_|refine am rfl ?_|(apply eX;exact rfl;exact rfl;exact rfl;exact rfl)))
  ((apply dU Try.func48 (congrArg Array.toList Try.results48));(focus(repeat(exact ResIs.nil))))
  have hall: ∀ x∈m2,x.1∈done.map (·.1):=fun x hx=>List.mem_map_of_mem (hp.mem_iff.2 hx)
  have fl:Fl fn ms (fK m2 (done.map (·.1))) c2 G3 H1:=
   ⟨(hold fn lf hf.nn).trans hfb,hfm1.trans (congrArg (fun l=>some (VO.map l c2)) (rD m2 _).symm),uZ hf.ok _,hbig,hf.ne,fun hz=>hf.nn (hsub _ hz),fun hz=>hf.nm (hsub _ hz)⟩
  rw [← sQ hall]
  refine⟨_,⟨mp,_,c,_,h.putFile hg hR hd hG fl hsub (by simp [fK,kv]) (fun z hz=>?_),fun z=>Iff.rfl⟩,zI _,fun z hz=>?_,fun z hz hn=>hold z hz fun e=>hn ((hF z).2 (.inr (.inr ((hG z).2 (.inl (.inr (.inr e)))))))⟩
  ·have hz2:z=d∨z=mp∨G z:=hz.imp id fun e=>e.imp id fun e=>(hG z).2 (.inr e)
   refine hold z (hlt z ((hF z).2 hz2)) fun e=>?_
   rcases hz with rfl|rfl|hz
   ·exact h.nd ((hG z).2 (.inl (.inr (.inr e))))
   ·exact h.nm ((hG z).2 (.inl (.inr (.inr e))))
   ·exact hd z (.inr (.inr e)) hz
  ·refine .inl ((hF z).2 ?_)
   rcases hz with hz|hz|(hz|hz|hz)|hz
   ·exact .inl hz
   ·exact .inr (.inl hz)
   ·exact .inr (.inr ((hG z).2 (.inl (.inl hz))))
   ·exact .inr (.inr ((hG z).2 (.inl (.inr (.inl hz)))))
   ·exact .inr (.inr ((hG z).2 (.inl (.inr (.inr (hsub z hz))))))
   ·exact .inr (.inr ((hG z).2 (.inr hz)))
 ·intro x hx hxn hdn2
  have hkn:x.1∉done.map (·.1):=fun e=>by
   obtain⟨y,hy,e⟩:=List.mem_map.1 e
   exact hxn (lA hf.ok.keys hx (hdn.2 y hy) e ▸ hy)
  have hget:=sP hf.ok.keys hx hkn
  have hnext:=rE hf.ok.keys hx hkn c2
  have hlen2:=dL _ m2 hdn2.1 hdn2.2
  rw [zD,List.length_singleton] at hlen2
  obtain⟨n,⟨q,s⟩,b⟩:=x
  dsimp only at hget hnext hkn
  obtain⟨F1,R1,hps,r1,r2,r3⟩:=Big.get hbig hget
  have g2: ∀ z,(F1 z∨R1 z)→G2 z∧z<nx:=fun z hz=>by
   have:=hsub z ((r3 z).2 hz)
   exact⟨this,hlt z ((hF z).2 (.inr (.inr ((hG z).2 (.inl (.inr (.inr this)))))))⟩
  have hps2:PS n (q,s) (H1.set nx (itV ms c2 (done ++ [(n,(q,s),b)]))) F1:=dw _ _ _ _ _ hps fun z hz=>Tr.aa _ _ (by have:=(g2 z (.inl hz)).2;omega)
  obtain⟨v,GW,p1,p2,p3,p4⟩:=id hps2
  have hF1:F1 q:=(p4 q).2 (.inl rfl)
  have lq:q<nx:=(g2 q (.inl hF1)).2
  have hws:s.writes.length<1000000:=hw n s (by rw [iZ,eT hf.ok.keys hx];rfl)
  dsimp only at p1
  (repeat(first|refine aj ?_|refine ac ?_|refine ab ?_|refine aE ?_|refine aA ?_|refine ar rfl ?_|(apply ai;exact rfl;exact rfl;exact rfl)|(apply ah;exact rfl;exact rfl;exact rfl)|(apply bp;exact rfl;exact rfl;exact rfl;exact rfl)|(apply aN;exact rfl;exact rfl;exact rfl)|(apply aI;exact rfl;exact rfl;exact rfl;exact(F.fo _ _ rfl rfl))|(refine jS (b:=ms) (m:=m2) (c:=c2) (enc:=iE) (val:=gN) (x:=(n,(q,s),b)) (done:=done) rfl rfl rfl (Tr.ae _ _ _) ((Tr.aa _ _ (by omega)).trans hfm1) hf.ok hx ?_)|(refine aL rfl rfl rfl (by kernel_rfl) (Fnc.mono (vS hps2 hws (Nat.lt_succ_of_lt lq) (fun z hz=>Nat.lt_succ_of_lt (g2 z (.inl hz)).2)) ?_);rintro _ rfl;dsimp only)))
  (repeat(first|(refine eP rfl rfl rfl (F.sz _ rfl) p1 (bm _) (by rw [fp];exact zi rfl) (eJ _) (tn _ _ _) ?_)|((apply bn;exact rfl;exact rfl;exact rfl;exact rfl;exact(F.sz _ rfl);exact(Tr.ae _ _ _);exact rfl;(focus(rw [fp];exact zy _));exact rfl))|refine ab ?_|refine ax ?_|(apply aN;exact rfl;exact rfl;exact rfl)|(apply aI;exact rfl;exact rfl;exact rfl;exact(F.fo _ _ rfl rfl))))
  have hqn:q≠nx:=by omega
  have hR1: ∀ z,R1 z→z≠q∧z≠nx:=fun z hz=>⟨fun e=>r2 q hF1 (e ▸ hz),by have:=(g2 z (.inr hz)).2;omega⟩
  refine ih _ _ _ (done ++ [(n,(q,s),b)]) ⟨hdn2,rfl,by dsimp only;(focus((repeat(first|exact Tr.ae _ _ _|refine(Tr.aa _ _ (by omega)).trans ?_));done)),⟨fun z=>z=q∨R1 z,?_,fun z hz=>?_⟩,fun z hz hn=>?_⟩ (by simp only [zD,List.length_singleton];omega) (SlIn.sub (by repeat(first|exact trivial|refine⟨rfl,?_⟩)))
  ·rw [zE,zB,List.map_nil,←hnext]
   refine Big.put dw hget c2 r1 ⟨.sc (.slice none 0 0),fun _=>False,(Tr.ae _ _ _).trans (congrArg (fun l=>some (ak _ l)) (gH _ _ _)),.inl ⟨rfl,rfl,fun _ h=>h⟩,fun h=>h,fun z=>by simp⟩ (fun z hz=>?_) (fun z hz hr=>?_)
   ·obtain⟨e1,e2⟩:=hR1 z hz
    dsimp only
    (focus((repeat(refine(Tr.aa _ _ (by omega)).trans ?_));exact rfl))
   ·exact(hR1 z hr).1 hz
  ·rcases hz with rfl|hz
   ·exact(g2 z (.inl hF1)).1
   ·exact(g2 z (.inr hz)).1
  ·have e1:z≠q:=fun e=>hn (e ▸ (g2 q (.inl hF1)).1)
   dsimp only
   refine Eq.trans ?_ (hold z hz hn)
   (focus((repeat(refine(Tr.aa _ _ (by omega)).trans ?_));exact rfl))
theorem wE{d:Nat}{D:DD}{Fp:Nat→Prop}{H:aJ}{nx N:Nat}(hD:DAt d D Fp H)(hok:D.Ok N)(hN:N<1000000)(k:ByteArray)(hk:k.size≤140737488355328):Fnc Try.prog 27 [.ptr d 0,.sc (kE k)] H nx (x5 d (D.sync k).1 (.sc (.int .i64 (D.sync k).2)) Fp H nx):=by
 refine Fnc.start Try.func27 rfl rfl ?_
 refine ca fun hund=>?_
 have hlt:=hD.lt hund
 (repeat(first|refine aj ?_|refine ac ?_|refine ab ?_|(apply ah;exact rfl;exact rfl;exact rfl)|(apply jT;exact rfl;exact rfl;exact rfl;exact rfl)|refine aG rfl rfl rfl (F.ag _ rfl) (by(repeat(first|exact Tr.ae _ _ _|refine(Tr.aa _ _ (by omega)).trans ?_));done) (by exact rfl) ?_))
 refine dR (R:=fun H1 n1=>n1=nx+1+1∧H1.at' nx=some (ak 25 [.ptr d 0])∧H1.at' (nx+1)=some (ak 9 [.sc (kE k)])∧ ∀ z,z<nx→H1.at' z=H.at' z) ⟨rfl,by(focus((repeat(first|exact Tr.ae _ _ _|refine(Tr.aa _ _ (by omega)).trans ?_));done)),by(focus((repeat(exact Tr.ae _ _ _));done)),fun z hz=>by(focus((repeat(refine(Tr.aa _ _ (by omega)).trans ?_));exact rfl))⟩ ?_
 rintro H1 n1 ⟨rfl,h0,h1,hold⟩
 have hD1:DAt d D Fp H1:=hD.frame fun z hz=>hold z (hlt z hz)
 have hFd:d<nx:=by
  obtain⟨mp,m,c,G,h,hF⟩:=hD
  exact hlt d ((hF d).2 (.inl rfl))
 clear hD
 (repeat(first|refine aj ?_|refine ac ?_|refine ab ?_|(apply ai;exact rfl;exact rfl;exact rfl)|(apply ah;exact rfl;exact rfl;exact rfl)|(refine aL rfl rfl rfl (by kernel_rfl) (Fnc.mono (lj hD1 k hk 0) ?_);rintro _ rfl;dsimp only)))
 (apply fe;exact rfl;exact rfl;exact rfl;exact rfl)
 all_goals intro h4
 ·rw [show D.sync k=(D,D.look k 0) by unfold DD.sync;rw [if_pos (by omega)]]
  (repeat(first|refine aj ?_|refine ac ?_|refine ab ?_|refine ar rfl ?_|(apply ai;exact rfl;exact rfl;exact rfl)|(apply ah;exact rfl;exact rfl;exact rfl)))
  ((apply aQ Try.func27 (congrArg Array.toList Try.results27));(focus(repeat(first|exact ResIs.nil|apply ResIs.tmp rfl))))
  exact⟨rfl,Fp,hD1,Stp.eH (n1:=nx+1+1) Stp.refl (by omega) hold⟩
 ·obtain⟨l,hl⟩:=lk (n:=0) (show D.look k 0=0 by omega)
  rw [show D.sync k=D.change false fun D=>match aV D.files k with
   | some m=>D.setFiles (bZ D.files k (je m))
   | none=>D by unfold DD.sync;rw [if_neg (by omega)];rfl]
  (repeat(first|refine aj ?_|refine ac ?_|refine ab ?_|refine aA ?_|refine am rfl ?_|(apply da;exact rfl;exact rfl;exact rfl;exact rfl)|refine aG rfl rfl rfl (F.ag _ rfl) (by assumption) (by exact rfl) ?_))
  refine aL rfl rfl rfl (by kernel_rfl) (Fnc.mono (jM hD1 hok hN false 48 [.ptr nx 0,.ptr (nx+1) 0] (fun D=>match aV D.files k with
   | some m=>D.setFiles (bZ D.files k (je m))
   | none=>D) (by kernel_rfl) ?_) ?_)
  ·intro D1 H2 e1 e2 hA hkeep
   have hl1:aV D1.files k=some l:=by rw [e1];exact hl
   simp only [hl1]
   exact xe hA k hl1 (fun n s hs=>by have:=hok.f.wr k l n s hl hs;omega) ((hkeep nx (by omega)).trans h0) ((hkeep (nx+1) (by omega)).trans h1)
  ·rintro⟨_,H2,n2⟩ ⟨rfl,F',hA,hS⟩
   dsimp only at hA hS ⊢
   (repeat(first|refine ab ?_|(apply ah;exact rfl;exact rfl;exact rfl)))
   ((apply aQ Try.func27 (congrArg Array.toList Try.results27));(focus(repeat(first|exact ResIs.nil|apply ResIs.tmp rfl))))
   exact⟨rfl,F',hA,Stp.eH hS (by omega) hold⟩
section
variable {P:Program} {H:aJ} {T:Tr SV} {nx:Nat}
variable {d:Option Tmp} {ty:TypeId} {pos:String} {af:Array Edge} {gd:Option (Nat×Bool)}
theorem vr{t:TypeId}{x y:Operand}{s:ByteArray}{k:IntKind}{i:Nat}{v:UInt8}(hx:ao T x=some (.sc (.string s)))(hy:ao T y=some (.sc (.int k (i:Int))))(hu:P.underlying t=some .string)(hv:s[i]? =some v) :
 ReadDoes P T H ⟨d,.index t x y,ty,pos,af,gd⟩ (.sc (.int .u8 v.toNat)):=by
 refine cD fun ev w he=>?_
 have e1:=he x _ hx _ rfl
 have e2:=he y _ hy _ rfl
 simp [execOp,e1,e2,Instr.index,asIntOf,run_underlying hu,hv]
end
section
variable {ro:Option Nat} {fn nt nx i:Nat} {T:Tr SV} {k:List AIt} {dfs:List ADf} {H:aJ} {Q:Pst} {ops:Array Oper} {l:List Oper} {ty:TypeId} {pos:String} {af:Array Edge} {gd:Option (Nat×Bool)} {P:Program}
theorem sw{t:TypeId}{x y:Operand}{s:ByteArray}{kd:IntKind}{j:Nat}{v:UInt8}{dd:Nat}(hw:aq T ops ⟨some dd,.index t x y,ty,pos,af,gd⟩=some true)(hd:Nat.blt dd nt=true)(hx:ao T x=some (.sc (.string s)))(hy:ao T y=some (.sc (.int kd (j:Int))))(hu:P.underlying t=some .string)(hv:s[j]? =some v)
 (h:Wp P ro ⟨fn,nt,T.set dd (.sc (.int .u8 v.toNat)),.inReg ops (i+1) l :: k,dfs,H,nx⟩ Q):Wp P ro ⟨fn,nt,T,.inReg ops i (⟨some dd,.index t x y,ty,pos,af,gd⟩ :: l) :: k,dfs,H,nx⟩ Q:=
 bD hw (.inr (fun _ h=>by cases h)) ((vr hx hy hu hv).does) (by rw [aB hd];exact h)
end
theorem aw{A:Type} [Inhabited A](d:Array A)(i j:Nat):(Sort.swp d i j).size=d.size:=by simp [Sort.swp]
theorem qz{x:Int}{m:Nat}(hx:x=(m:Int)-1)(hm:m<4611686018427387904):IntKind.i64.wrap (x.tdiv 2)=(((m-1) / 2:Nat):Int):=by
 subst hx
 rcases Nat.eq_zero_or_pos m with rfl|h
 ·decide
 ·rw [Int.tdiv_eq_ediv_of_nonneg (by omega),zd _ ⟨by omega,by omega⟩]
  omega
def t8:Sort.Hint→Int
 | .unknown=>0
 | .increasing=>1
 | .decreasing=>2
theorem oL{h:Sort.Hint}:(t8 h == 2)=decide (h = .decreasing):=by cases h <;> rfl
theorem wB{m:Nat}(h:m<2 ^ 64):IntKind.u64.wrap ((m:Nat):Int)=(m:Int):=by
 rw [Go.IntWalk.u64_in _ ⟨by omega,by omega⟩]
theorem xorU{a b:Nat}(ha:a<18446744073709551616)(hb:b<18446744073709551616):r8 .xor .u64 (a:Int) (b:Int)=((a ^^^ b:Nat):Int):=by
 show IntKind.u64.wrap (((BitVec.ofInt 64 (a:Int) ^^^ BitVec.ofInt 64 (b:Int)).toNat:Nat):Int)=_
 rw [BitVec.toNat_xor,BitVec.ofInt_natCast,BitVec.ofInt_natCast,BitVec.toNat_ofNat,BitVec.toNat_ofNat,Nat.mod_eq_of_lt ha,Nat.mod_eq_of_lt hb,wB]
 exact Nat.xor_lt_two_pow ha hb
theorem andU{a b:Nat}(ha:a<18446744073709551616)(hb:b<18446744073709551616):r8 .and .u64 (a:Int) (b:Int)=((a &&& b:Nat):Int):=by
 show IntKind.u64.wrap (((BitVec.ofInt 64 (a:Int) &&& BitVec.ofInt 64 (b:Int)).toNat:Nat):Int)=_
 rw [BitVec.toNat_and,BitVec.ofInt_natCast,BitVec.ofInt_natCast,BitVec.toNat_ofNat,BitVec.toNat_ofNat,Nat.mod_eq_of_lt ha,Nat.mod_eq_of_lt hb,wB]
 exact Nat.and_lt_two_pow _ hb
theorem sh13(x:Nat):IntKind.u64.wrap ((x:Int)*2 ^ (min (Int.toNat 13) IntKind.u64.bits))=((x*8192 % 18446744073709551616:Nat):Int):=by
 have:(2:Int) ^ (min (Int.toNat 13) IntKind.u64.bits)=8192:=by decide
 rw [this,IntKind.wrap_u64]
 omega
theorem sh17(x:Nat):IntKind.u64.wrap ((x:Int)*2 ^ (min (Int.toNat 17) IntKind.u64.bits))=((x*131072 % 18446744073709551616:Nat):Int):=by
 have:(2:Int) ^ (min (Int.toNat 17) IntKind.u64.bits)=131072:=by decide
 rw [this,IntKind.wrap_u64]
 omega
theorem sh7(x:Nat):Int.fdiv (x:Int) (2 ^ (min (Int.toNat 7) IntKind.u64.bits))=((x / 128:Nat):Int):=by
 have:(2:Int) ^ (min (Int.toNat 7) IntKind.u64.bits)=128:=by decide
 rw [this,Int.fdiv_eq_ediv_of_nonneg _ (by decide)]
 omega
theorem sh8(x:Nat):Int.fdiv (x:Int) (2 ^ (min (Int.toNat 8) IntKind.u64.bits))=((x / 256:Nat):Int):=by
 have:(2:Int) ^ (min (Int.toNat 8) IntKind.u64.bits)=256:=by decide
 rw [this,Int.fdiv_eq_ediv_of_nonneg _ (by decide)]
 omega
abbrev xsO(x:Nat):VO:=ak 123 [.sc (.int .u64 (x:Int))]
theorem oE(x:Nat)(hx:x<18446744073709551616):Ctr Try.prog 85 [.ptr 0 0] [xsO x] (fun c=>c=⟨.sc (.int .u64 (Sort.xorNextN x:Int)),[some (xsO (Sort.xorNextN x))]⟩):=by
 have hA:x ^^^ (x*8192 % 18446744073709551616)<18446744073709551616:=Nat.xor_lt_two_pow (n:=64) (by omega) (by omega)
 have eA:=xorU (a:=x) (b:=x*8192 % 18446744073709551616) hx (by omega)
 have eC:Sort.xorNextN x=Sort.xorNextN x:=rfl
 conv at eC=>rhs;unfold Sort.xorNextN
 simp only at eC
 generalize x ^^^ (x*8192 % 18446744073709551616)=A at hA eA eC
 have hB:A ^^^ (A / 128)<18446744073709551616:=Nat.xor_lt_two_pow (n:=64) (by omega) (by omega)
 have eB:=xorU (a:=A) (b:=A / 128) hA (by omega)
 generalize A ^^^ (A / 128)=B at hB eB eC
 have eD:=xorU (a:=B) (b:=B*131072 % 18446744073709551616) hB (by omega)
 rw [← eC] at eD
 refine Fnc.start Try.func85 rfl rfl ?_
 (repeat(first|refine aj ?_|refine ac ?_|refine ab ?_|refine ah rfl rfl rfl ?_))
 refine aR (by kernel_rfl) (by kernel_rfl) ?_
 (repeat(first|refine ay rfl rfl rfl ?_|refine bh rfl rfl rfl ?_|refine cQ rfl rfl rfl (F.ag _ rfl) rfl rfl ?_|refine lH rfl rfl rfl (F.sz _ rfl) rfl rfl rfl ?_|(refine um rfl rfl rfl rfl (by decide) (sh13 x) ?_)|(refine pV rfl rfl rfl rfl (.inr (.inr (.inl rfl))) eA ?_)))
 (refine aF ?_);(refine⟨by kernel_rfl,?_,?_⟩);(focus(repeat(first|exact trivial|refine⟨.inl rfl,?_⟩|refine⟨.inr (by(repeat(refine⟨(by first|exact aC rfl|exact br rfl),?_⟩));exact trivial),?_⟩|refine⟨.inl (by kernel_rfl),?_⟩)))
 (repeat(refine aj ?_))
 refine aR (by kernel_rfl) (by kernel_rfl) ?_
 (repeat(first|refine ay rfl rfl rfl ?_|refine bh rfl rfl rfl ?_|refine cQ rfl rfl rfl (F.ag _ rfl) rfl rfl ?_|refine lH rfl rfl rfl (F.sz _ rfl) rfl rfl rfl ?_|(refine xQ rfl rfl rfl rfl (by decide) (sh7 A) ?_)|(refine pV rfl rfl rfl rfl (.inr (.inr (.inl rfl))) eB ?_)))
 (refine aF ?_);(refine⟨by kernel_rfl,?_,?_⟩);(focus(repeat(first|exact trivial|refine⟨.inl rfl,?_⟩|refine⟨.inr (by(repeat(refine⟨(by first|exact aC rfl|exact br rfl),?_⟩));exact trivial),?_⟩|refine⟨.inl (by kernel_rfl),?_⟩)))
 (repeat(refine aj ?_))
 refine aR (by kernel_rfl) (by kernel_rfl) ?_
 (repeat(first|refine ay rfl rfl rfl ?_|refine bh rfl rfl rfl ?_|refine cQ rfl rfl rfl (F.ag _ rfl) rfl rfl ?_|refine lH rfl rfl rfl (F.sz _ rfl) rfl rfl rfl ?_|(refine um rfl rfl rfl rfl (by decide) (sh17 B) ?_)|(refine pV rfl rfl rfl rfl (.inr (.inr (.inl rfl))) eD ?_)))
 (refine aF ?_);(refine⟨by kernel_rfl,?_,?_⟩);(focus(repeat(first|exact trivial|refine⟨.inl rfl,?_⟩|refine⟨.inr (by(repeat(refine⟨(by first|exact aC rfl|exact br rfl),?_⟩));exact trivial),?_⟩|refine⟨.inl (by kernel_rfl),?_⟩)))
 (repeat(first|refine aj ?_|refine ac ?_|refine ab ?_|refine ai rfl rfl rfl ?_|refine ah rfl rfl rfl ?_|refine aN rfl rfl rfl ?_|refine aG rfl rfl rfl (F.ag _ rfl) rfl rfl ?_))
 ((apply aQ Try.func85 (congrArg Array.toList Try.results85));(focus(repeat(first|exact ResIs.nil|apply ResIs.tmp rfl)));refine⟨_,rfl,Ends.mk [] (ExtOk.of rfl) rfl rfl ?_⟩)
 exact(by repeat(first|exact trivial|refine⟨cc rfl,?_⟩))
def yw(s:ByteArray):Bool:=(List.range 256).all fun i=>match s[i]? with
 | some v=>v.toNat == Sort.bitsLen i
 | none=>false
theorem wC{s:ByteArray}(h:yw s=true){i:Nat}(hi:i<256):s[i]? =some (UInt8.ofNat (Sort.bitsLen i)):=by
 unfold yw at h
 rw [List.all_eq_true] at h
 have:=h i (List.mem_range.2 hi)
 split at this
 ·rename_i v hv
  rw [hv,←(beq_iff_eq.1 this),UInt8.ofNat_toNat]
 ·cases this
theorem wd(x:Nat)(h:256≤x):Sort.bitsLen x=8+Sort.bitsLen (x / 256):=by
 have key: ∀ k,Sort.bitsLen (x / 256)≤k↔Sort.bitsLen x≤k+8:=fun k=>by
  rw [Sort.bitsLen_le_iff,Sort.bitsLen_le_iff,Nat.pow_add,Nat.div_lt_iff_lt_mul (by decide)]
 have h8: ¬ Sort.bitsLen x≤7:=by
  rw [Sort.bitsLen_le_iff]
  omega
 have h1:=(key (Sort.bitsLen (x / 256))).1 (zy _)
 have h2:=(key (Sort.bitsLen x-8)).2 (by omega)
 omega
theorem kB{x:Nat}(h:x<65536):Sort.bitsLen x≤16:=(Sort.bitsLen_le_iff x 16).2 h
theorem yv{x:Nat}(h:x<65536):IntKind.i64.wrap (((UInt8.ofNat (Sort.bitsLen x)).toNat:Nat):Int)=(Sort.bitsLen x:Int):=by
 have:=kB h
 rw [UInt8.toNat_ofNat',Nat.mod_eq_of_lt (by omega),zd _ ⟨by omega,by omega⟩]
theorem rX(x:Nat)(hx:x<65536):Ctr Try.prog 73 [.sc (.int .u64 (x:Int))] [] (fun c=>c=⟨.sc (.int .i64 (Sort.bitsLen x:Int)),[]⟩):=by
 have h16:=kB hx
 refine Fnc.start Try.func73 rfl rfl ?_
 (repeat(first|refine aj ?_|refine ac ?_|refine ab ?_|refine ai rfl rfl rfl ?_|refine ah rfl rfl rfl ?_))
 refine cx rfl rfl rfl rfl ?_ ?_
 all_goals intro h1
 ·exact absurd h1 (by omega)
 (repeat(first|refine aj ?_|refine ac ?_|refine ab ?_|refine aA ?_|refine am rfl ?_|refine ai rfl rfl rfl ?_))
 refine cx rfl rfl rfl rfl ?_ ?_
 all_goals intro h2
 ·exact absurd h2 (by omega)
 (repeat(first|refine aj ?_|refine ac ?_|refine ab ?_|refine aA ?_|refine am rfl ?_|refine ai rfl rfl rfl ?_))
 refine cx rfl rfl rfl rfl ?_ ?_
 all_goals intro h3
 ·have h17:=kB (x:=x / 256) (by omega)
  (repeat(first|refine aj ?_|refine ac ?_|refine ab ?_|refine ar rfl ?_|refine ai rfl rfl rfl ?_|refine ah rfl rfl rfl ?_|refine bi rfl rfl rfl rfl (by omega) (by omega) ?_|(refine yk rfl rfl rfl rfl (by decide) (sh8 x) ?_)|refine gP rfl rfl rfl (F.un _ rfl) (F.un _ rfl) (show _=((x / 256:Nat):Int)from Go.IntWalk.u8_in _ ⟨by omega,by omega⟩) ?_|(refine sw rfl rfl rfl rfl (F.un _ rfl) (wC (by kernel_rfl) (show x / 256<256 by omega)) ?_)|refine gP rfl rfl rfl (F.un _ rfl) (F.un _ rfl) (yv (x:=x / 256) (by omega)) ?_))
  rw [wd x (by omega)]
  (apply aQ Try.func73 (congrArg Array.toList Try.results73);(focus(repeat(first|exact ResIs.nil|apply ResIs.tmp rfl))))
  (refine⟨_,rfl,Ends.val (ExtOk.of rfl) rfl ?_ ?_⟩)
  ·simp
  ·trivial
 ·(repeat(first|refine aj ?_|refine ac ?_|refine ab ?_|refine aA ?_|refine am rfl ?_|refine ai rfl rfl rfl ?_|refine ah rfl rfl rfl ?_|refine bi rfl rfl rfl rfl (by omega) (by omega) ?_|refine gP rfl rfl rfl (F.un _ rfl) (F.un _ rfl) (show _=(x:Int)from Go.IntWalk.u8_in _ ⟨by omega,by omega⟩) ?_|(refine sw rfl rfl rfl rfl (F.un _ rfl) (wC (by kernel_rfl) (show x<256 by omega)) ?_)|refine gP rfl rfl rfl (F.un _ rfl) (F.un _ rfl) (yv (x:=x) (by omega)) ?_))
  (apply aQ Try.func73 (congrArg Array.toList Try.results73);(focus(repeat(first|exact ResIs.nil|apply ResIs.tmp rfl))))
  (refine⟨_,rfl,Ends.val (ExtOk.of rfl) rfl ?_ ?_⟩)
  ·simp
  ·trivial
theorem mT(x:Nat)(hx:x<65536):Ctr Try.prog 60 [.sc (.int .u64 (x:Int))] [] (fun c=>c=⟨.sc (.int .i64 (Sort.bitsLen x:Int)),[]⟩):=by
 refine Fnc.start Try.func60 rfl rfl ?_
 (repeat(first|refine aj ?_|refine ac ?_|refine ab ?_|refine aA ?_|refine am rfl ?_|refine ai rfl rfl rfl ?_|refine ah rfl rfl rfl ?_|refine gQ (rX x hx) [] rfl rfl rfl (by kernel_rfl) rfl (ExtOk.of rfl) rfl trivial ?_))
 (apply aQ Try.func60 (congrArg Array.toList Try.results60);(focus(repeat(first|exact ResIs.nil|apply ResIs.tmp rfl))))
 (refine⟨_,rfl,Ends.val (ExtOk.of rfl) rfl ?_ ?_⟩)
 ·rfl
 ·trivial
theorem yG{k:Nat}(h:k≤16):IntKind.u64.wrap ((1:Int)*2 ^ (min (Int.toNat (k:Int)) IntKind.u64.bits))=((2 ^ k:Nat):Int):=by
 have: ∀ k:Fin 17,IntKind.u64.wrap ((1:Int)*2 ^ (min (Int.toNat (k.val:Int)) IntKind.u64.bits))=((2 ^ k.val:Nat):Int):=by decide
 exact this ⟨k,by omega⟩
theorem nS(x:Nat)(hx:x<65536):Ctr Try.prog 84 [.sc (.int .i64 (x:Int))] [] (fun c=>c=⟨.sc (.int .u64 ((2 ^ Sort.bitsLen x:Nat):Int)),[]⟩):=by
 refine Fnc.start Try.func84 rfl rfl ?_
 (repeat(first|refine aj ?_|refine ac ?_|refine ab ?_|refine ai rfl rfl rfl ?_|refine ah rfl rfl rfl ?_|refine gP rfl rfl rfl (F.un _ rfl) (F.un _ rfl) (show _=(x:Int)from Go.IntWalk.u64_in _ ⟨by omega,by omega⟩) ?_|refine gQ (mT x hx) [] rfl rfl rfl (by kernel_rfl) rfl (ExtOk.of rfl) rfl trivial ?_|(refine yl rfl rfl rfl rfl (by omega) (yG (kB hx)) ?_)))
 (apply aQ Try.func84 (congrArg Array.toList Try.results84);(focus(repeat(first|exact ResIs.nil|apply ResIs.tmp rfl))))
 (refine⟨_,rfl,Ends.val (ExtOk.of rfl) rfl ?_ ?_⟩)
 ·rfl
 ·trivial
abbrev oSV:ByteArray→List Value:=fun x=> [.string x]
abbrev bH(n:Nat)(d:Array ByteArray):VO:=arr false n 1 9 oSV d
def bf(x y:ByteArray):Bool:=bLt x y
theorem oSnan(a:ByteArray):Ctr Try.prog 88 [.sc (.string a)] [] (fun c=>c=⟨.sc (.bool false),[]⟩):=by
 refine Fnc.start Try.func88 rfl rfl ?_
 (repeat(first|refine aj ?_|refine ac ?_|refine ab ?_|refine ai rfl rfl rfl ?_|refine ah rfl rfl rfl ?_|(refine uQ rfl rfl rfl rfl (show(a != a)=false by rw [show(a != a) = !(a == a)from rfl,(MapKept.bytes_beq a a).2 rfl];rfl) ?_)))
 (apply aQ Try.func88 (congrArg Array.toList Try.results88);(focus(repeat(first|exact ResIs.nil|apply ResIs.tmp rfl))))
 (refine⟨_,rfl,Ends.val (ExtOk.of rfl) rfl ?_ ?_⟩)
 ·rfl
 ·trivial
theorem ey(a b:ByteArray):Ctr Try.prog 69 [.sc (.string a),.sc (.string b)] [] (fun c=>c=⟨.sc (.bool (bf a b)),[]⟩):=by
 refine Fnc.start Try.func69 rfl rfl ?_
 (repeat(first|refine aj ?_|refine ac ?_|refine ab ?_|refine ai rfl rfl rfl ?_|refine ah rfl rfl rfl ?_|refine bL rfl rfl rfl rfl ?_|refine jn rfl ?_|refine gQ (oSnan _) [] rfl rfl rfl (by kernel_rfl) rfl (ExtOk.of rfl) rfl trivial ?_|(refine w7 rfl rfl rfl rfl rfl ?_)))
 (apply aQ Try.func69 (congrArg Array.toList Try.results69);(focus(repeat(first|exact ResIs.nil|apply ResIs.tmp rfl))))
 (refine⟨_,rfl,Ends.val (ExtOk.of rfl) rfl ?_ ?_⟩)
 ·rfl
 ·trivial
theorem oSins(n a b:Nat)(d:Array ByteArray)(hn:n<4611686018427387904)(hd:d.size=n)(hab:a≤b)(hb:b≤n) :
 Ctr Try.prog 63 [.slu 0 0 n,.sc (.int .i64 (a:Int)),.sc (.int .i64 (b:Int))] [bH n d] (fun c=>c=⟨.tup [],[some (bH n (Sort.insertionSort bf d a b))]⟩):=by
 refine Fnc.start Try.func63 rfl rfl ?_
 (repeat(first|refine aj ?_|refine ac ?_|refine ab ?_|refine aE ?_|refine ai rfl rfl rfl ?_|refine ah rfl rfl rfl ?_|refine bi rfl rfl rfl rfl (by omega) (by omega) ?_))
 refine cw 1 (fun s:Nat×Array ByteArray=> [(0,.slu 0 0 n),(1,.sc (.int .i64 (a:Int))),(2,.sc (.int .i64 (b:Int))),(6,.sc (.int .i64 (s.1:Int)))]) (fun s=> [some (bH n s.2)]) (fun s=>s.1≤n+1∧a<s.1∧s.2.size=n∧Sort.insOuter bf a b s.1 s.2=Sort.insertionSort bf d a b) (fun s=>n+1-s.1) (a+1,d) []
  (fun _=>rfl) ⟨by omega,by omega,hd,rfl⟩ ?_ (fun _=>rfl) (fun _=>rfl) ?_
 ·(refine⟨(ExtOk.of rfl),rfl,(by repeat(first|exact trivial|refine⟨rfl,?_⟩)),(by repeat(first|exact trivial|refine⟨an rfl,?_⟩))⟩)
 rintro⟨i,d1⟩ ⟨hi,hai,hd1,ho⟩ ih
 simp only at hi hai hd1 ho ih ⊢
 (repeat(first|refine aj ?_|refine ac ?_|refine ai rfl rfl rfl ?_))
 refine cN rfl rfl rfl rfl ?_ ?_
 all_goals intro h1
 ·(repeat(first|refine aj ?_|refine ac ?_|refine ab ?_|refine aE ?_|refine aA ?_|refine ar rfl ?_|refine ai rfl rfl rfl ?_|refine ah rfl rfl rfl ?_))
  have ho2:Sort.insOuter bf a b (i+1) (Sort.insInner bf a i d1)=Sort.insertionSort bf d a b:=by
   rw [← ho]
   conv=>rhs;rw [Sort.insOuter,if_pos (by omega)]
  refine cw 1 (fun s:Nat×Array ByteArray=> [(0,.slu 0 0 n),(1,.sc (.int .i64 (a:Int))),(2,.sc (.int .i64 (b:Int))),(6,.sc (.int .i64 (i:Int))),(7,.sc (.int .i64 (s.1:Int)))]) (fun s=> [some (bH n s.2)]) (fun s=>s.1≤i∧s.2.size=n∧Sort.insInner bf a s.1 s.2=Sort.insInner bf a i d1) (fun s=>s.1) (i,d1) []
   (fun _=>rfl) ⟨by omega,hd1,rfl⟩ ?_ (fun _=>rfl) (fun _=>rfl) ?_
  ·(refine⟨(ExtOk.of rfl),rfl,(by repeat(first|exact trivial|refine⟨rfl,?_⟩)),(by repeat(first|exact trivial|refine⟨an rfl,?_⟩))⟩)
  rintro⟨j,d2⟩ ⟨hj,hd2,hin⟩ ihj
  simp only at hj hd2 hin ihj ⊢
  (repeat(refine aj ?_))
  refine aR (by kernel_rfl) (by kernel_rfl) ?_
  (repeat(refine ay rfl rfl rfl ?_))
  refine m7 rfl rfl rfl rfl ?_ ?_
  all_goals intro h2
  ·obtain⟨j,rfl⟩: ∃ j',j=j'+1:=⟨j-1,by omega⟩
   have hls:=ey d2[j+1]! d2[j]!
   cases h3:bf d2[j+1]! d2[j]!
   all_goals rw [h3] at hls
   all_goals(repeat(first|refine ay rfl rfl rfl ?_|refine bS rfl rfl rfl rfl ?_|refine cW rfl rfl rfl rfl (by omega) (by omega) ?_|refine au (q:=j+1) rfl rfl rfl rfl (F.un _ rfl) (F.sz _ rfl) rfl (by omega) (by omega) (by omega) ?_|refine au (q:=j) rfl rfl rfl rfl (F.un _ rfl) (F.sz _ rfl) rfl (by omega) (by omega) (by omega) ?_|(refine a7 (g:=fun x:ByteArray=> .string x) rfl rfl rfl (F.ag _ rfl) rfl (by omega) (by omega) ?_)|refine a8 rfl rfl rfl (by kernel_rfl) (Ctr.callV (hls) [] rfl (ExtOk.of rfl) rfl trivial rfl) ?_))
   ·(refine aF ?_);(refine⟨by kernel_rfl,?_,?_⟩);(focus(repeat(first|exact trivial|refine⟨.inl rfl,?_⟩|refine⟨.inr (by(repeat(refine⟨(by first|exact aH (F.un _ rfl) (F.sz _ rfl) rfl rfl rfl (by omega) (by omega) (by omega)|exact aK rfl rfl (.inr (.inl ⟨rfl,(zd _ ⟨by omega,by omega⟩).symm⟩))|exact aC rfl|exact aY rfl rfl),?_⟩));exact trivial),?_⟩|refine⟨.inl (by kernel_rfl),?_⟩)))
    (repeat(first|refine ac ?_|refine ab ?_|refine ax ?_|refine aS rfl ?_|refine am rfl ?_|refine ai rfl rfl rfl ?_|refine ah rfl rfl rfl ?_|refine bi rfl rfl rfl rfl (by omega) (by omega) ?_))
    have hin2:Sort.insInner bf a i d1=d2:=by
     rw [← hin,Sort.insInner,if_neg (by rw [h3];simp)]
    refine ih _ _ _ (i+1,d2) [] ⟨by omega,by omega,hd2,by rw [← hin2];exact ho2⟩ (by simp only;omega) ?_
    (refine⟨(ExtOk.of rfl),rfl,(by repeat(first|exact trivial|refine⟨rfl,?_⟩)),(by repeat(first|exact trivial|refine⟨an rfl,?_⟩))⟩)
   ·(refine aF ?_);(refine⟨by kernel_rfl,?_,?_⟩);(focus(repeat(first|exact trivial|refine⟨.inl rfl,?_⟩|refine⟨.inr (by(repeat(refine⟨(by first|exact aH (F.un _ rfl) (F.sz _ rfl) rfl rfl rfl (by omega) (by omega) (by omega)|exact aK rfl rfl (.inr (.inl ⟨rfl,(zd _ ⟨by omega,by omega⟩).symm⟩))|exact aC rfl|exact aY rfl rfl),?_⟩));exact trivial),?_⟩|refine⟨.inl (by kernel_rfl),?_⟩)))
    (repeat(first|refine aj ?_|refine aE ?_|refine aA ?_|refine ar rfl ?_))
    refine aR (by kernel_rfl) (by kernel_rfl) ?_
    (repeat(first|refine ay rfl rfl rfl ?_|refine cW rfl rfl rfl rfl (by omega) (by omega) ?_|refine au (q:=j+1) rfl rfl rfl rfl (F.un _ rfl) (F.sz _ rfl) rfl (by omega) (by omega) (by omega) ?_|refine au (q:=j) rfl rfl rfl rfl (F.un _ rfl) (F.sz _ rfl) rfl (by omega) (by omega) (by omega) ?_|(refine a7 (g:=fun x:ByteArray=> .string x) rfl rfl rfl (F.ag _ rfl) rfl (by omega) (by omega) ?_)|(refine bU (g:=fun x:ByteArray=> .string x) rfl rfl rfl (fun _=>rfl) (F.sz _ rfl) rfl (by first|omega|(simp only [zf,aw];omega)) (by first|omega|(simp only [zf,aw];omega)) ?_)))
    (refine aF ?_);(refine⟨by kernel_rfl,?_,?_⟩);(focus(repeat(first|exact trivial|refine⟨.inl rfl,?_⟩|refine⟨.inr (by(repeat(refine⟨(by first|exact aH (F.un _ rfl) (F.sz _ rfl) rfl rfl rfl (by omega) (by omega) (by omega)|exact aK rfl rfl (.inr (.inl ⟨rfl,(zd _ ⟨by omega,by omega⟩).symm⟩))|exact aC rfl),?_⟩));exact trivial),?_⟩|refine⟨.inl (by kernel_rfl),?_⟩)))
    (repeat(first|refine ac ?_|refine ab ?_|refine ax ?_|refine ai rfl rfl rfl ?_|refine ah rfl rfl rfl ?_|refine bN rfl rfl rfl rfl (by omega) (by omega) ?_))
    refine ihj _ _ _ (j,Sort.swp d2 (j+1) j) [] ⟨by omega,by rw [aw];exact hd2,?_⟩ (by simp only;omega) ?_
    ·rw [← hin]
     conv=>rhs;rw [Sort.insInner,if_pos (by simp only [h3,zx,decide_eq_true_eq,and_true];omega)]
    ·(refine⟨(ExtOk.of rfl),rfl,(by repeat(first|exact trivial|refine⟨rfl,?_⟩|refine⟨cu (by(omega)),?_⟩)),(by repeat(first|exact trivial|refine⟨an rfl,?_⟩))⟩)
  ·(repeat(first|refine ay rfl rfl rfl ?_|refine bK rfl rfl rfl rfl ?_|refine cn rfl rfl ?_))
   (refine aF ?_);(refine⟨by kernel_rfl,?_,?_⟩);(focus(repeat(first|exact trivial|refine⟨.inl rfl,?_⟩)))
   (repeat(first|refine ac ?_|refine ab ?_|refine ax ?_|refine aS rfl ?_|refine am rfl ?_|refine ai rfl rfl rfl ?_|refine ah rfl rfl rfl ?_|refine bi rfl rfl rfl rfl (by omega) (by omega) ?_))
   have hin2:Sort.insInner bf a i d1=d2:=by
    rw [← hin]
    cases j with
    | zero=>rfl
    | succ j=>rw [Sort.insInner,if_neg (by simp only [zx,decide_eq_true_eq];omega)]
   refine ih _ _ _ (i+1,d2) [] ⟨by omega,by omega,hd2,by rw [← hin2];exact ho2⟩ (by simp only;omega) ?_
   (refine⟨(ExtOk.of rfl),rfl,(by repeat(first|exact trivial|refine⟨rfl,?_⟩)),(by repeat(first|exact trivial|refine⟨an rfl,?_⟩))⟩)
 ·(repeat(first|refine ab ?_|refine aS rfl ?_|refine am rfl ?_))
  have ho2:d1=Sort.insertionSort bf d a b:=by rw [← ho,Sort.insOuter,if_neg (by omega)]
  (apply dU Try.func63 (congrArg Array.toList Try.results63);(focus(repeat(exact ResIs.nil)));refine⟨_,rfl,Ends.mk [] (ExtOk.of rfl) rfl rfl ?_⟩)
  rw [← ho2]
  exact(by repeat(first|exact trivial|refine⟨an rfl,?_⟩))
end Go.Proofs.Ytbmekelkddllkaa
end
