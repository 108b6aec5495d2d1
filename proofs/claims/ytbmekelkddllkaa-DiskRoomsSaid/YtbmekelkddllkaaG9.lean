import Derived.WalkKit
import Derived.ProofKit
import Derived.OpenShut
import Derived.Below
import Derived.ChangeSame
import Derived.Carry
import Derived.ChangeArms
import Derived.Test.YtbmekelkddllkaaChecked
import Derived.Test.YtbmekelkddllkaaG8
set_option linter.unusedVariables false
set_option linter.unusedSimpArgs false
set_option maxRecDepth 100000
set_option maxHeartbeats 0
section
namespace Go.Proofs.Ytbmekelkddllkaa
open Go Go.Sy Go.Sl Go.RowKit
theorem sj{P:Program}{ro:Option Nat}{fn nt nx:Nat}{T:Tr SV}{it:AIt}{k:List AIt}{dfs:List ADf}{H:aK}{Q:Pst}{α:Type}(sl:α→List (Nat×SV))(I:α→aK→Nat→Prop)
 (body: ∀ k',(∀ T' H' nx' a',I a' H' nx'→(∀ n x,(slT (sl a')).at' n=some x→T'.at' n=some x)→Wp P ro ⟨fn,nt,T',k',dfs,H',nx'⟩ Q)→Wp P ro ⟨fn,nt,T,it :: k',dfs,H,nx⟩ Q)
 (rest: ∀ a H nx,I a H nx→Wp P ro ⟨fn,nt,slT (sl a),k,dfs,H,nx⟩ Q):Wp P ro ⟨fn,nt,T,it :: k,dfs,H,nx⟩ Q:=
 body k fun T' H' nx' a' ha hs=>Wp.less (rest a' H' nx' ha) hs (Tr.le_refl _)
def oE(ks:List ByteArray)(q:Nat):ByteArray:=((ks.take q).getLast?).getD ⟨#[]⟩
theorem x4{s:ByteArray}(h:1≤s.size):bLt ⟨#[]⟩ s=true:=by
 unfold bLt
 rw [decide_eq_true_eq]
 obtain⟨⟨l⟩⟩:=s
 cases l with
 | nil=>exact absurd h (by decide)
 | cons x l=>exact List.Lex.nil
theorem tR{ks:List ByteArray}{q:Nat}(hq:q<ks.length)(hp:ks.Pairwise (fun a b=>bLt b a=false))(hn:ks.Nodup)(h1: ∀ k∈ks,1≤k.size):bLt (oE ks q) ks[q]=true:=by
 unfold oE
 rcases Nat.eq_zero_or_pos q with rfl|hpos
 ·exact x4 (h1 _ (zK hq))
 ·have hl:(ks.take q).getLast? =some (ks[q-1]'(by omega)):=by
   rw [List.getLast?_eq_getElem?,List.length_take,Nat.min_eq_left (by omega),List.getElem?_take_of_lt (by omega),zh (by omega)]
  rw [hl,Option.getD_some]
  have h:=List.pairwise_iff_getElem.1 hp (q-1) q (by omega) hq (by omega)
  cases hb:bLt (ks[q-1]'(by omega)) ks[q] with
  | true=>rfl
  | false=>
    have:=wQ hb h
    exact absurd this (List.pairwise_iff_getElem.1 hn (q-1) q (by omega) hq (by omega))
theorem pX{ks:List ByteArray}{q:Nat}(hq:q<ks.length):oE ks (q+1)=ks[q]:=by
 unfold oE
 rw [List.take_succ_eq_append_getElem hq,List.getLast?_append]
 simp
theorem tK{k:ByteArray}(h:gZ k=true):1≤k.size:=by
 unfold gZ at h
 rw [zy,zy,decide_eq_true_eq] at h
 exact h.1.2
theorem xI{k:ByteArray}(h:gZ k=true):k.size≤32:=by
 unfold gZ at h
 rw [zy,zy,decide_eq_true_eq,decide_eq_true_eq] at h
 exact h.2
theorem xt{H:aK}{nx r:Nat}{ro:Bool}{ls:List (StepT×SV)}(k:Int)(hr:H.at' r=some (stR ro ls))(hp: ∀ x∈ls,PickIs H x.2 x.1.picks)(hl:ls.length≤9223372036854775807)(hb: ∀ x∈ls,-9223372036854775808≤x.1.n∧x.1.n≤9223372036854775807):Fnc Try.prog 3 [.sc (.int .i64 k),.slu r 0 ls.length] H nx (fun q=>q.1 = .sc (.bool true)):=by
 refine Fnc.start Try.func3 rfl rfl ?_
 refine b7 fun hund=>?_
 have lr:=hund _ _ hr
 (repeat(first|refine aj ?_|refine ac ?_|refine ab ?_|(apply ai;exact rfl;exact rfl;exact rfl)|(apply cx;exact rfl;exact rfl;exact(F.zl _ rfl))))
 (apply cF;exact rfl;exact rfl;exact rfl;exact rfl)
 all_goals intro h1
 ·(repeat(first|refine aj ?_|refine ac ?_|refine ab ?_|refine ar rfl ?_|(apply ai;exact rfl;exact rfl;exact rfl)|(apply dT;exact rfl;exact rfl;exact rfl;exact rfl)|(apply jK;exact rfl)|refine be rfl rfl rfl rfl (F.sz _ rfl) (by(repeat(exact Tr.ae _ _ _));done) rfl (by exact zj rfl) rfl ?_|(refine aQ rfl rfl rfl (by kernel_rfl) (Fnc.mono (mU) ?_);rintro _ rfl;dsimp only)))
  (apply aS Try.func3 (congrArg Array.toList Try.results3);(focus(repeat(first|exact ResIs.nil|apply ResIs.cell rfl (LoadIs.one (F.ag _ rfl) (by(repeat(exact Tr.ae _ _ _));done) (aN rfl))))))
  rfl
 (repeat(apply ai;exact rfl;exact rfl;exact rfl))
 (apply dB;exact rfl;exact rfl;exact rfl;exact rfl)
 all_goals intro h2
 ·(repeat(first|refine aj ?_|refine ac ?_|refine ab ?_|refine ar rfl ?_|(apply ai;exact rfl;exact rfl;exact rfl)|(apply dT;exact rfl;exact rfl;exact rfl;exact rfl)|(apply ci;exact rfl;exact rfl;exact rfl;exact rfl)|(apply jK;exact rfl)|refine be rfl rfl rfl rfl (F.sz _ rfl) (by(repeat(exact Tr.ae _ _ _));done) rfl (by exact zj rfl) rfl ?_|(refine aQ rfl rfl rfl (by kernel_rfl) (Fnc.mono (mU) ?_);rintro _ rfl;dsimp only)))
  (apply aS Try.func3 (congrArg Array.toList Try.results3);(focus(repeat(first|exact ResIs.nil|apply ResIs.cell rfl (LoadIs.one (F.ag _ rfl) (by(repeat(exact Tr.ae _ _ _));done) (aN rfl))))))
  rfl
 obtain⟨cap,rfl⟩:=Int.eq_ofNat_of_zero_le (show 0≤k by omega)
 (repeat(first|(apply ai;exact rfl;exact rfl;exact rfl)|(apply ci;exact rfl;exact rfl;exact rfl;exact rfl)))
 refine aQ rfl rfl rfl (by kernel_rfl) (Fnc.mono (yQ (ro:=ro) 100 (by decide) ((Tr.aa _ _ (by omega)).trans hr) (fun x hx=>(hp x hx).frame hund fun z hz=>by(focus((repeat(refine(Tr.aa _ _ (by omega)).trans ?_));exact rfl))) hl) ?_)
 rintro _ ⟨b,rfl,hmu⟩
 dsimp only
 cases b with
 | true=>
   (repeat(first|refine aj ?_|refine ac ?_|refine ab ?_|refine ar rfl ?_|(apply ci;exact rfl;exact rfl;exact rfl;exact rfl)|refine be rfl rfl rfl rfl (F.sz _ rfl) (by(repeat(exact Tr.ae _ _ _));done) rfl (by exact zj rfl) rfl ?_|(refine aQ rfl rfl rfl (by kernel_rfl) (Fnc.mono (mU) ?_);rintro _ rfl;dsimp only)))
   (apply aS Try.func3 (congrArg Array.toList Try.results3);(focus(repeat(first|exact ResIs.nil|apply ResIs.cell rfl (LoadIs.one (F.ag _ rfl) (by(repeat(exact Tr.ae _ _ _));done) (aN rfl))))))
   rfl
 | false=>
   obtain⟨hn,hsz⟩:=hmu rfl
   clear hmu
   (repeat(first|refine aj ?_|refine ac ?_|refine ab ?_|refine aD ?_|refine aE ?_|refine an rfl ?_|(apply ai;exact rfl;exact rfl;exact rfl)|(apply ah;exact rfl;exact rfl;exact rfl)|(apply ci;exact rfl;exact rfl;exact rfl;exact rfl)|(apply bM;exact rfl;exact rfl;exact rfl;exact rfl)|(apply fy;exact rfl;exact rfl;exact rfl;exact rfl;exact(F.un _ rfl);exact rfl)|refine be rfl rfl rfl rfl (F.sz _ rfl) (by(repeat(exact Tr.ae _ _ _));done) rfl (by exact zj rfl) rfl ?_|(apply cx;exact rfl;exact rfl;exact(F.zl _ rfl))|refine aH rfl rfl rfl (F.ag _ rfl) (by(repeat(exact Tr.ae _ _ _));done) (by exact rfl) ?_|(refine aQ rfl rfl rfl (by kernel_rfl) (Fnc.mono (yP cap (by omega) (by omega)) ?_);rintro _ rfl;dsimp only)|(refine aQ rfl rfl rfl (by kernel_rfl) (Fnc.mono (gW _) ?_);rintro _ rfl;dsimp only)|(refine je rfl rfl rfl rfl (fun hq=>absurd rfl hq) (fun _=>?_))))
   have hd0:DAt (nx+1+1) (DD.new cap) (fun n=>n=nx+1+1∨n=nx+1) (((H.set nx (ak 4 [.sc (.bool false)])).set (nx+1) (.map [] 0)).set (nx+1+1) (ak 58 (dkC (DD.new cap) (nx+1)))):=wD (by omega)
   refine uK (α:=Nat×List Nat) (fun x=> [(0,.sc (.int .i64 (cap:Int))),(1,.slu r 0 ls.length),(4,.ptr nx 0),(5,.ptr (nx+1+1+1) 0),(7,.sc (.int .i64 (x.1:Int)))]) (fun x=>x.2.map .taken) (fun x H1 n1=>x.1≤ls.length∧nx+1+1+1+1≤n1∧H1.at' nx=some (ak 4 [.sc (.bool false)])∧(∃ y D F,H1.at' (nx+1+1+1)=some (ak 25 [.ptr y 0])∧DAt y D F H1∧D.Ok x.1∧D.cap=cap∧ ∀ z,F z→nx<z∧z≠nx+1+1+1∧z∉x.2)∧(∀ z,z<nx→H1.at' z=H.at' z)∧(∀ q∈x.2,nx+1+1+1<q∧q<n1∧H1.at' q=some (.dfd (some [])))∧x.2.Nodup) (fun x=>ls.length-x.1) (0,[])
    ⟨zB _,zA _,by(focus((repeat(first|exact Tr.ae _ _ _|refine(Tr.aa _ _ (by omega)).trans ?_));done)),⟨nx+1+1,DD.new cap,_,(Tr.ae _ _ _).trans rfl,hd0.frame fun z hz=>by(have:z≠nx+1+1+1:=by omega);(focus((repeat(refine(Tr.aa _ _ (by omega)).trans ?_));exact rfl)),⟨Fok.nil,zA _,⟨by show(-1:Int) ≤ -1;decide,by show(-1:Int)≤9223372036854775807;decide⟩,by show cap≤_;omega⟩,rfl,fun z hz=>⟨by omega,by omega,fun h=>by cases h⟩⟩,fun z hz=>by(focus((repeat(refine(Tr.aa _ _ (by omega)).trans ?_));exact rfl)),(fun q hq=>by cases hq),List.nodup_nil⟩ rfl (SlIn.sub (by repeat(first|exact trivial|refine⟨rfl,?_⟩))) ?_
   clear hd0
   rintro⟨i,R⟩ H1 n1 ⟨g1,g2,g3,⟨y,D,F0,g4,g5,g6,g7,g8⟩,g9,g10,g11⟩ again
   dsimp only at g1 g2 g3 g4 g5 g6 g7 g8 g10 g11 again ⊢
   have hus:D.used≤D.cap:=g6.f.room
   (repeat(first|refine aj ?_|refine ac ?_|(apply ai;exact rfl;exact rfl;exact rfl)|(apply dA;exact rfl;exact rfl;exact rfl;exact(F.un _ rfl))))
   (apply cF;exact rfl;exact rfl;exact rfl;exact rfl)
   all_goals intro h3
   ·have hi:i<ls.length:=by omega
    (repeat(first|refine aj ?_|refine ac ?_|refine ab ?_|refine aD ?_|refine aE ?_|refine ar rfl ?_|(apply ah;exact rfl;exact rfl;exact rfl)|refine aH rfl rfl rfl (F.ag _ rfl) (by assumption) (by exact rfl) ?_|(refine aQ rfl rfl rfl (by kernel_rfl) (Fnc.mono (s3 g5 (by omega) (by omega)) ?_);rintro _ rfl;dsimp only)|(refine aQ rfl rfl rfl (by kernel_rfl) (Fnc.mono (y4 g5) ?_);rintro _ rfl;dsimp only)))
    have hmem:ls[i]∈ls:=zK hi
    have hr1:=(g9 r lr).trans hr
    have f0r: ∀ z,z≤nx→ ¬ F0 z:=fun z hz h=>by have:=(g8 z h).1;omega
    have f05: ¬ F0 (nx+1+1+1):=fun h=>(g8 _ h).2.1 rfl
    refine xb 5 (by kernel_rfl) (by kernel_rfl) (by kernel_rfl) rfl ?_
    (repeat(first|(apply ax;exact rfl;exact rfl;exact rfl)|refine cE rfl rfl rfl (F.ag _ rfl) (by assumption) (by exact rfl) ?_|refine au (q:=i) rfl rfl rfl rfl (F.un _ rfl) (F.sz _ rfl) (by assumption) (by omega) (by(omega)) (zA _) ?_|(refine vU rfl rfl rfl (F.ag _ rfl) hr1 (kD hi) ?_)))
    refine aF ?_
    refine xc rfl rfl rfl (by kernel_rfl) (do_t g5 g6 (by omega) ls[i].1 ((hp _ hmem).frame hund g9) (by have:=(hsz _ hmem).1;omega) (by have:=(hsz _ hmem).2;omega)) (.tup [.sc (.int .i64 0),.ptr 0 0],H1,n1) ?_ ?_
    ·rintro⟨_,H2,n2⟩ ⟨e,y',D',F',rfl,hact,hA,hS⟩
     dsimp only at hA hS ⊢
     have hr2:=(hS.2.2 r (by omega) (f0r r (by omega))).trans hr1
     have k4:=(hS.2.2 (nx+1+1+1) (by omega) f05).trans g4
     have k3:=(hS.2.2 nx (by omega) (f0r nx (zA _))).trans g3
     (repeat(first|(apply ax;exact rfl;exact rfl;exact rfl)|(apply cR;exact rfl;exact rfl;exact rfl)|(apply mf;exact rfl;exact rfl;exact rfl;exact rfl)))
     refine aF ⟨by kernel_rfl,rfl,?_,?_⟩
     ·(repeat(first|exact trivial|refine⟨.inl rfl,?_⟩|refine⟨.inr (by(repeat(refine⟨(by first|exact aB rfl|exact dD rfl|exact iq rfl rfl|exact aO (F.ag _ rfl) rfl (by assumption) (aN rfl)|exact bY (F.ag _ rfl) rfl hr1 (kD hi)|exact bY (F.ag _ rfl) rfl hr2 (kD hi)),?_⟩));exact trivial),?_⟩|refine⟨.inl (by kernel_rfl),?_⟩))
     dsimp only
     have hR:=dN g6 hact (hb _ hmem)
     have hF': ∀ z,F' z→nx<z∧z≠nx+1+1+1∧z∉R:=fun z hz=>by
      rcases hS.2.1 z hz with h|h
      ·exact g8 z h
      ·exact⟨by omega,by omega,fun hq=>by have:=(g10 z hq).2.1;omega⟩
     (repeat(first|refine aj ?_|refine ac ?_|refine ab ?_|refine aE ?_|refine an rfl ?_|(apply ai;exact rfl;exact rfl;exact rfl)|(apply fy;exact rfl;exact rfl;exact rfl;exact rfl;exact(F.un _ rfl);exact rfl)|refine be rfl rfl rfl rfl (F.sz _ rfl) (by assumption) rfl (by exact zj rfl) rfl ?_|refine aH rfl rfl rfl (F.ag _ rfl) (by(repeat(first|assumption|exact Tr.ae _ _ _));done) (by exact rfl) ?_))
     refine ee (R:=fun H3 n3=>n3=n2∧H3.at' (nx+1+1+1)=some (ak 25 [.ptr y' 0])∧ ∀ z,z≠nx+1+1+1→H3.at' z=H2.at' z) ⟨rfl,(Tr.ae _ _ _).trans rfl,fun z hz=>by(focus((repeat(refine(Tr.aa _ _ (by omega)).trans ?_));exact rfl))⟩ ?_
     rintro H3 n3 ⟨rfl,b5,hold3⟩
     have b3:=(hold3 nx (by omega)).trans k3
     have hr3:=(hold3 r (by omega)).trans hr2
     have hA3:DAt y' D' F' H3:=hA.frame fun z hz=>hold3 z (hF' z hz).2.1
     have hus':D'.used≤D'.cap:=hR.ok.f.room
     have hcap':=hR.cap
     have hg10: ∀ q∈R,nx+1+1+1<q∧q<n3∧H3.at' q=some (.dfd (some [])):=fun q hq=>by
      obtain⟨a1,a2,a3⟩:=g10 q hq
      exact⟨a1,Nat.lt_of_lt_of_le a2 hS.1,(hold3 q (by omega)).trans ((hS.2.2 q a2 fun h=>(g8 q h).2.2 hq).trans a3)⟩
     have hold4: ∀ z,z<nx→H3.at' z=H.at' z:=fun z hz=>(hold3 z (by omega)).trans ((hS.2.2 z (by omega) (f0r z (by omega))).trans (g9 z hz))
     have hn3:nx+1+1+1+1≤n3:=zI g2 hS.1
     have hF'':=hF'
     have hok':=hR.ok
     refine sj (α:=Bool) (fun a=> [(0,.sc (.int .i64 (cap:Int))),(1,.slu r 0 ls.length),(4,.ptr nx 0),(5,.ptr (nx+1+1+1) 0),(7,.sc (.int .i64 (i:Int))),(8,.sc (.int .i64 ((D.cap:Int)-(D.used:Int)))),(9,.sc (.bool D.dead)),(10,.sc (.int .i64 e)),(12,.sc (.bool a))]) (fun a H' n'=>H3=H'∧n3=n'∧(a=true↔(ls[i].1.kind=2∨ls[i].1.kind=8))) (fun k' out=>?_) ?_
     ·clear hR hact hS hF' again hold3 hold4 hg10 hA g5 g4 g8 g9 g10 hp hsz hb hund b3 k3 k4 hr2 hr1 hr hok' g6 g11 f0r f05 g3
      repeat' (first|refine ab ?_|(apply ai;exact rfl;exact rfl;exact rfl)|(apply ah;exact rfl;exact rfl;exact rfl)|(apply dT;exact rfl;exact rfl;exact rfl;exact rfl)|(apply ci;exact rfl;exact rfl;exact rfl;exact rfl)|(apply aJ;exact rfl;exact rfl;exact rfl;exact(F.fo _ _ rfl rfl))|(apply jK;exact rfl)|refine kb (q:=i) rfl rfl rfl rfl (F.un _ rfl) (F.sz _ rfl) (by assumption) (by omega) (by(omega)) (zA _) ?_|(refine yv rfl rfl rfl (F.ag _ rfl) hr3 (dC hi rfl) ?_)|(refine cP rfl rfl rfl rfl ?_ ?_ <;> intro hq))
      ·exact out _ _ _ true ⟨rfl,rfl,by simp [hq]⟩ (SlIn.sub (by repeat(first|exact trivial|refine⟨rfl,?_⟩)))
      ·rename_i hq2
       exact out _ _ _ true ⟨rfl,rfl,by simp [hq]⟩ (SlIn.sub (by repeat(first|exact trivial|refine⟨rfl,?_⟩)))
      ·rename_i hq2
       exact out _ _ _ false ⟨rfl,rfl,by simp [hq,hq2]⟩ (SlIn.sub (by repeat(first|exact trivial|refine⟨rfl,?_⟩)))
     rintro a _ _ ⟨rfl,rfl,ha⟩
     have hroom:=fun n=>s3 (nx:=n) hA3 (by omega) (by omega)
     have hcount:=fun n=>uq (nx:=n) hA3 hok' ls[i].1.name
     (repeat(refine aj ?_))
     refine sj (α:=Unit) (fun _=> [(0,.sc (.int .i64 (cap:Int))),(1,.slu r 0 ls.length),(4,.ptr nx 0),(5,.ptr (nx+1+1+1) 0),(7,.sc (.int .i64 (i:Int))),(157,.sc (.bool false))]) (fun _ H' n'=>H3=H'∧n3=n') (fun k' out=>?_) ?_
     ·have hl1:=hR.lays
      have hl2:=hR.full
      have hl3:=hR.lost
      have hl4:=hR.dead
      clear hR hact hS hF' again hold3 hold4 hg10 hA g5 g4 g8 g9 g10 hp hsz hb hund b3 k3 k4 hr2 hr1 hr g6 g11 f0r f05 g3
      cases a with
      | true=>
        have hq0:=ha.1 rfl
        clear ha
        cases hd:D.dead with
        | true=>
          have hl5:=hl4 hd
          clear hl4
          (apply dp;(focus(kernel_rfl));(focus(kernel_rfl)))
          repeat' (first|(apply ax;exact rfl;exact rfl;exact rfl)|(apply bK;exact rfl;exact rfl;exact rfl;exact rfl)|(apply bL;exact rfl;exact rfl;exact rfl;exact rfl)|(apply aW;exact rfl;exact rfl;exact rfl;exact(F.fo _ _ rfl rfl))|(apply cD;exact rfl;exact rfl;exact rfl;exact rfl;(focus(omega));(focus(omega)))|(apply cd;exact rfl;exact rfl)|(refine bP rfl rfl rfl (F.ag _ rfl) b5 (aN rfl) ?_)|refine au (q:=i) rfl rfl rfl rfl (F.un _ rfl) (F.sz _ rfl) (by assumption) (by omega) (by(omega)) (zA _) ?_|(refine lE rfl rfl rfl (F.ag _ rfl) hr3 (dC hi rfl) ?_)|((apply aY;exact rfl;exact rfl;exact rfl;(focus(kernel_rfl));exact(hroom n3)))|((apply aY;exact rfl;exact rfl;exact rfl;(focus(kernel_rfl));exact(hcount n3)))|((first|(apply lD;exact rfl;exact rfl;exact rfl;exact rfl)|(apply jY;exact rfl;exact rfl;exact rfl;exact rfl)|(apply jZ;exact rfl;exact rfl;exact rfl;exact rfl)|(apply dJ;exact rfl;exact rfl;exact rfl;exact rfl)|(apply ja;exact rfl;exact rfl;exact rfl;exact rfl)) <;> intro hq <;> (try (exfalso;omega))))
          all_goals
           ((refine aF ?_);(refine⟨by kernel_rfl,?_,?_⟩);(focus(repeat(first|exact trivial|refine⟨.inl (cj rfl),?_⟩|refine⟨.inl (kM rfl),?_⟩|refine⟨.inr ⟨0,by kernel_rfl,AllH.all (fun _=>(by first|exact aB rfl|exact bc (F.fo _ _ rfl rfl) rfl|exact aX rfl rfl|exact gg rfl rfl|exact aL rfl rfl (.inr (.inl ⟨rfl,(zf _ ⟨by omega,by omega⟩).symm⟩)))) _⟩,?_⟩|refine⟨.inr ⟨0,by kernel_rfl,(by(refine⟨(by first|exact aO (F.ag _ rfl) rfl (by assumption) (aN rfl)|exact aG (F.un _ rfl) (F.sz _ rfl) rfl rfl hr3 rfl hi (zA _)|exact aO (F.ag _ rfl) rfl hr3 (dC hi rfl)|exact bW rfl rfl (.inr (.inr (.inr (.inl ⟨rfl,(decide_eq_false (by omega)).symm⟩))))|exact bW rfl rfl (.inl ⟨rfl,(decide_eq_true (by omega)).symm⟩)|exact bW rfl rfl (.inl ⟨rfl,(decide_eq_false (by omega)).symm⟩)|exact bW rfl rfl (.inr (.inr (.inl ⟨rfl,(decide_eq_true (by omega)).symm⟩)))|exact bW rfl rfl (.inr (.inr (.inl ⟨rfl,(decide_eq_false (by omega)).symm⟩)))),?_⟩;(repeat(refine⟨(by first|exact aO (F.ag _ rfl) rfl (by assumption) (aN rfl)|exact aG (F.un _ rfl) (F.sz _ rfl) rfl rfl hr3 rfl hi (zA _)|exact aO (F.ag _ rfl) rfl hr3 (dC hi rfl)|exact bW rfl rfl (.inr (.inr (.inr (.inl ⟨rfl,(decide_eq_false (by omega)).symm⟩))))|exact bW rfl rfl (.inl ⟨rfl,(decide_eq_true (by omega)).symm⟩)|exact bW rfl rfl (.inl ⟨rfl,(decide_eq_false (by omega)).symm⟩)|exact bW rfl rfl (.inr (.inr (.inl ⟨rfl,(decide_eq_false (by omega)).symm⟩)))),?_⟩));exact trivial))⟩,?_⟩|refine⟨.inl (by kernel_rfl),?_⟩)))
            exact out _ _ _ () ⟨rfl,rfl⟩ (SlIn.sub (by repeat(first|exact trivial|refine⟨rfl,?_⟩))))
        | false=>
          clear hl4
          (apply dp;(focus(kernel_rfl));(focus(kernel_rfl)))
          repeat' (first|(apply ax;exact rfl;exact rfl;exact rfl)|(apply bK;exact rfl;exact rfl;exact rfl;exact rfl)|(apply bL;exact rfl;exact rfl;exact rfl;exact rfl)|(apply aW;exact rfl;exact rfl;exact rfl;exact(F.fo _ _ rfl rfl))|(apply cD;exact rfl;exact rfl;exact rfl;exact rfl;(focus(omega));(focus(omega)))|(apply cd;exact rfl;exact rfl)|(refine bP rfl rfl rfl (F.ag _ rfl) b5 (aN rfl) ?_)|refine au (q:=i) rfl rfl rfl rfl (F.un _ rfl) (F.sz _ rfl) (by assumption) (by omega) (by(omega)) (zA _) ?_|(refine lE rfl rfl rfl (F.ag _ rfl) hr3 (dC hi rfl) ?_)|((apply aY;exact rfl;exact rfl;exact rfl;(focus(kernel_rfl));exact(hroom n3)))|((apply aY;exact rfl;exact rfl;exact rfl;(focus(kernel_rfl));exact(hcount n3)))|((first|(apply lD;exact rfl;exact rfl;exact rfl;exact rfl)|(apply jY;exact rfl;exact rfl;exact rfl;exact rfl)|(apply dJ;exact rfl;exact rfl;exact rfl;exact rfl)|(apply ja;exact rfl;exact rfl;exact rfl;exact rfl)) <;> intro hq <;> (try (exfalso;omega))))
          all_goals
           ((refine aF ?_);(refine⟨by kernel_rfl,?_,?_⟩);(focus(repeat(first|exact trivial|refine⟨.inl (cj rfl),?_⟩|refine⟨.inl (kM rfl),?_⟩|refine⟨.inr ⟨0,by kernel_rfl,AllH.all (fun _=>(by first|exact aB rfl|exact bc (F.fo _ _ rfl rfl) rfl|exact aX rfl rfl|exact gg rfl rfl|exact aL rfl rfl (.inr (.inl ⟨rfl,(zf _ ⟨by omega,by omega⟩).symm⟩)))) _⟩,?_⟩|refine⟨.inr ⟨0,by kernel_rfl,(by(refine⟨(by first|exact aO (F.ag _ rfl) rfl (by assumption) (aN rfl)|exact aG (F.un _ rfl) (F.sz _ rfl) rfl rfl hr3 rfl hi (zA _)|exact aO (F.ag _ rfl) rfl hr3 (dC hi rfl)|exact bW rfl rfl (.inr (.inr (.inr (.inl ⟨rfl,(decide_eq_false (by omega)).symm⟩))))|exact bW rfl rfl (.inl ⟨rfl,(decide_eq_true (by omega)).symm⟩)|exact bW rfl rfl (.inl ⟨rfl,(decide_eq_false (by omega)).symm⟩)),?_⟩;(repeat(refine⟨(by first|exact aO (F.ag _ rfl) rfl (by assumption) (aN rfl)|exact aG (F.un _ rfl) (F.sz _ rfl) rfl rfl hr3 rfl hi (zA _)|exact aO (F.ag _ rfl) rfl hr3 (dC hi rfl)|exact bW rfl rfl (.inr (.inr (.inr (.inl ⟨rfl,(decide_eq_false (by omega)).symm⟩))))|exact bW rfl rfl (.inl ⟨rfl,(decide_eq_true (by omega)).symm⟩)|exact bW rfl rfl (.inl ⟨rfl,(decide_eq_false (by omega)).symm⟩)),?_⟩));exact trivial))⟩,?_⟩|refine⟨.inl (by kernel_rfl),?_⟩)))
            exact out _ _ _ () ⟨rfl,rfl⟩ (SlIn.sub (by repeat(first|exact trivial|refine⟨rfl,?_⟩))))
      | false=>
        have hq0: ¬ (ls[i].1.kind=2∨ls[i].1.kind=8):=fun h=>by(have:=ha.2 h);cases this
        clear ha
        cases hd:D.dead with
        | true=>
          have hl5:=hl4 hd
          clear hl4
          (apply dp;(focus(kernel_rfl));(focus(kernel_rfl)))
          repeat' (first|(apply ax;exact rfl;exact rfl;exact rfl)|(apply bK;exact rfl;exact rfl;exact rfl;exact rfl)|(apply bL;exact rfl;exact rfl;exact rfl;exact rfl)|(apply aW;exact rfl;exact rfl;exact rfl;exact(F.fo _ _ rfl rfl))|(apply cd;exact rfl;exact rfl)|(refine bP rfl rfl rfl (F.ag _ rfl) b5 (aN rfl) ?_)|refine au (q:=i) rfl rfl rfl rfl (F.un _ rfl) (F.sz _ rfl) (by assumption) (by omega) (by(omega)) (zA _) ?_|(refine lE rfl rfl rfl (F.ag _ rfl) hr3 (dC hi rfl) ?_)|((apply aY;exact rfl;exact rfl;exact rfl;(focus(kernel_rfl));exact(hroom n3)))|((first|(apply lD;exact rfl;exact rfl;exact rfl;exact rfl)|(apply jY;exact rfl;exact rfl;exact rfl;exact rfl)|(apply jZ;exact rfl;exact rfl;exact rfl;exact rfl)|(apply ja;exact rfl;exact rfl;exact rfl;exact rfl)) <;> intro hq <;> (try (exfalso;omega))))
          all_goals
           ((refine aF ?_);(refine⟨by kernel_rfl,?_,?_⟩);(focus(repeat(first|exact trivial|refine⟨.inl (cj rfl),?_⟩|refine⟨.inl (kM rfl),?_⟩|refine⟨.inr ⟨0,by kernel_rfl,AllH.all (fun _=>(by first|exact aB rfl|exact bc (F.fo _ _ rfl rfl) rfl|exact aX rfl rfl|exact gg rfl rfl)) _⟩,?_⟩|refine⟨.inr ⟨0,by kernel_rfl,(by(refine⟨(by first|exact aO (F.ag _ rfl) rfl (by assumption) (aN rfl)|exact aG (F.un _ rfl) (F.sz _ rfl) rfl rfl hr3 rfl hi (zA _)|exact aO (F.ag _ rfl) rfl hr3 (dC hi rfl)|exact bW rfl rfl (.inl ⟨rfl,(decide_eq_true (by omega)).symm⟩)|exact bW rfl rfl (.inl ⟨rfl,(decide_eq_false (by omega)).symm⟩)|exact bW rfl rfl (.inr (.inr (.inl ⟨rfl,(decide_eq_true (by omega)).symm⟩)))|exact bW rfl rfl (.inr (.inr (.inl ⟨rfl,(decide_eq_false (by omega)).symm⟩)))),?_⟩;(repeat(refine⟨(by first|exact aO (F.ag _ rfl) rfl (by assumption) (aN rfl)|exact aG (F.un _ rfl) (F.sz _ rfl) rfl rfl hr3 rfl hi (zA _)|exact aO (F.ag _ rfl) rfl hr3 (dC hi rfl)|exact bW rfl rfl (.inl ⟨rfl,(decide_eq_true (by omega)).symm⟩)|exact bW rfl rfl (.inr (.inr (.inl ⟨rfl,(decide_eq_false (by omega)).symm⟩)))),?_⟩));exact trivial))⟩,?_⟩|refine⟨.inl (by kernel_rfl),?_⟩)))
            exact out _ _ _ () ⟨rfl,rfl⟩ (SlIn.sub (by repeat(first|exact trivial|refine⟨rfl,?_⟩))))
        | false=>
          clear hl4
          (apply dp;(focus(kernel_rfl));(focus(kernel_rfl)))
          repeat' (first|(apply ax;exact rfl;exact rfl;exact rfl)|(apply bK;exact rfl;exact rfl;exact rfl;exact rfl)|(apply bL;exact rfl;exact rfl;exact rfl;exact rfl)|(apply aW;exact rfl;exact rfl;exact rfl;exact(F.fo _ _ rfl rfl))|(apply cd;exact rfl;exact rfl)|(refine bP rfl rfl rfl (F.ag _ rfl) b5 (aN rfl) ?_)|refine au (q:=i) rfl rfl rfl rfl (F.un _ rfl) (F.sz _ rfl) (by assumption) (by omega) (by(omega)) (zA _) ?_|(refine lE rfl rfl rfl (F.ag _ rfl) hr3 (dC hi rfl) ?_)|((apply aY;exact rfl;exact rfl;exact rfl;(focus(kernel_rfl));exact(hroom n3)))|((first|(apply lD;exact rfl;exact rfl;exact rfl;exact rfl)|(apply jY;exact rfl;exact rfl;exact rfl;exact rfl)) <;> intro hq <;> (try (exfalso;omega))))
          all_goals
           ((refine aF ?_);(refine⟨by kernel_rfl,?_,?_⟩);(focus(repeat(first|exact trivial|refine⟨.inl (cj rfl),?_⟩|refine⟨.inl (kM rfl),?_⟩|refine⟨.inr ⟨0,by kernel_rfl,AllH.all (fun _=>(by first|exact aB rfl|exact bc (F.fo _ _ rfl rfl) rfl|exact aX rfl rfl|exact gg rfl rfl)) _⟩,?_⟩|refine⟨.inr ⟨0,by kernel_rfl,(by(refine⟨(by first|exact aO (F.ag _ rfl) rfl (by assumption) (aN rfl)|exact aG (F.un _ rfl) (F.sz _ rfl) rfl rfl hr3 rfl hi (zA _)|exact aO (F.ag _ rfl) rfl hr3 (dC hi rfl)|exact bW rfl rfl (.inl ⟨rfl,(decide_eq_true (by omega)).symm⟩)|exact bW rfl rfl (.inl ⟨rfl,(decide_eq_false (by omega)).symm⟩)),?_⟩;(repeat(refine⟨(by first|exact aO (F.ag _ rfl) rfl (by assumption) (aN rfl)|exact aG (F.un _ rfl) (F.sz _ rfl) rfl rfl hr3 rfl hi (zA _)|exact aO (F.ag _ rfl) rfl hr3 (dC hi rfl)|exact bW rfl rfl (.inl ⟨rfl,(decide_eq_true (by omega)).symm⟩)),?_⟩));exact trivial))⟩,?_⟩|refine⟨.inl (by kernel_rfl),?_⟩)))
            exact out _ _ _ () ⟨rfl,rfl⟩ (SlIn.sub (by repeat(first|exact trivial|refine⟨rfl,?_⟩))))
     rintro _ _ _ ⟨rfl,rfl⟩
     clear hroom hcount ha a hl hr1 hr2 k3 k4 hold3 hS hA hF' g4 g5 g6 g8 g9 g10 f0r f05 g3 g2 hact
     have hF3: ∀ z,F' z→nx<z∧z≠nx+1+1+1∧z∉R:=hF''
     refine b7 fun hu3=>?_
     have hlt3:=hA3.lt hu3
     (repeat(first|refine aj ?_|refine ac ?_|refine ab ?_|refine aE ?_|refine an rfl ?_|refine be rfl rfl rfl rfl (F.sz _ rfl) (by(repeat(first|assumption|exact Tr.ae _ _ _));done) rfl (by exact zj rfl) rfl ?_|(apply cx;exact rfl;exact rfl;exact(F.zl _ rfl))|refine aH rfl rfl rfl (F.ag _ rfl) (by(repeat(first|assumption|refine(Tr.aa _ _ (by omega)).trans ?_));done) (by exact rfl) ?_))
     refine ee (R:=fun H4 n4=>n4=n3+1∧H4.at' n3=some (ak 3 [.sc (.int .i64 0)])∧ ∀ z,z<n3→H4.at' z=H3.at' z) ⟨rfl,(Tr.ae _ _ _).trans rfl,fun z hz=>by(focus((repeat(refine(Tr.aa _ _ (by omega)).trans ?_));exact rfl))⟩ ?_
     rintro H4 n4 ⟨rfl,hcn,ho4⟩
     have hA4:DAt y' D' F' H4:=hA3.frame fun z hz=>ho4 z (hlt3 z hz)
     refine aQ rfl rfl rfl (by kernel_rfl) (Fnc.mono (t8 hA4 hok' (by omega)) ?_)
     rintro⟨_,H5,n5⟩ ⟨y1,y2,ks,rfl,hks,hpw,hfa,hn5,hold5⟩
     dsimp only at hfa hn5 hold5 ⊢
     obtain⟨⟨lx1,lx2⟩,⟨ly1,ly2⟩,⟨rn,rn1,rn2,hn1r,hrow⟩,⟨vc,hcnt,hcv⟩,hlen⟩:=hfa
     have hcs:(ks.map D'.cnt).length=ks.length:=List.length_map ..
     (repeat(first|refine aj ?_|refine ac ?_|refine ab ?_|refine aD ?_|refine aE ?_|refine an rfl ?_|(apply ai;exact rfl;exact rfl;exact rfl)|(apply ah;exact rfl;exact rfl;exact rfl)|refine be rfl rfl rfl rfl (F.sz _ rfl) (by(repeat(first|assumption|exact Tr.ae _ _ _));done) rfl (by exact zj rfl) rfl ?_|(apply cx;exact rfl;exact rfl;exact(F.zl _ rfl))|(refine fy rfl rfl rfl rfl Try.underlying38 rfl ?_)))
     refine ee (R:=fun H6 n6=>n6=n5+1∧H6.at' n5=some (ak 9 [.sc (kE ⟨#[]⟩)])∧ ∀ z,z<n5→H6.at' z=H5.at' z) ⟨rfl,(Tr.ae _ _ _).trans rfl,fun z hz=>by(focus((repeat(refine(Tr.aa _ _ (by omega)).trans ?_));exact rfl))⟩ ?_
     rintro H6 n6 ⟨rfl,hla,ho6⟩
     refine f9 [(0,.sc (.int .i64 (cap:Int))),(1,.slu r 0 ls.length),(4,.ptr nx 0),(5,.ptr (nx+1+1+1) 0),(7,.sc (.int .i64 (i:Int))),(13,.ptr n3 0),(15,.ptr n5 0)] rfl rfl (by kernel_rfl) (SlIn.sub (by repeat(first|exact trivial|refine⟨rfl,?_⟩))) ?_
     intro cA cB hcA hcB
     refine Fnc.start Try.func34 rfl rfl ?_
     have c1:=(ho6 y1 lx2).trans hn1r
     have c2:=(ho6 y2 ly2).trans hcnt
     have c3:=(ho6 rn rn2).trans hrow
     have c4:=(ho6 n3 (by omega)).trans ((hold5 n3 (by omega)).trans hcn)
     have hA6:DAt y' D' F' H6:=hA4.frame fun z hz=>(ho6 z (by have:=hlt3 z hz;omega)).trans (hold5 z (by have:=hlt3 z hz;omega))
     have c5:=(ho6 (nx+1+1+1) (by omega)).trans ((hold5 _ (by omega)).trans ((ho4 _ (by omega)).trans b5))
     (repeat(first|refine aj ?_|refine ac ?_|refine ab ?_|refine aD ?_|(apply ai;exact rfl;exact rfl;exact rfl)|refine aH rfl rfl rfl (F.ag _ rfl) (by(repeat(first|assumption|refine(Tr.aa _ _ (by omega)).trans ?_));done) (by exact rfl) ?_|(apply dA;exact rfl;exact rfl;exact rfl;exact(F.un _ rfl))))
     refine dS (α:=Nat) (fun q=> [(0,.yld (n5+1+1)),(1,.ptr y1 0),(2,.ptr y2 0),(6,.slu rn 0 ks.length),(7,.sc (.int .i64 (ks.length:Int))),(8,.sc (.int .i64 (q:Int)))]) (fun q H7 n7=>q≤ks.length∧n5+1+1+1≤n7∧H7.at' (n5+1)=some (.dfd (some []))∧H7.at' (n5+1+1)=some (.loop .ready none 3 201 (slT [(0,.sc (.int .i64 (cap:Int))),(1,.slu r 0 ls.length),(4,.ptr nx 0),(5,.ptr (nx+1+1+1) 0),(7,.sc (.int .i64 (i:Int))),(13,.ptr n3 0),(15,.ptr n5 0)]) #[163,164] cA cB (n5+1))∧H7.at' n3=some (ak 3 [.sc (.int .i64 ((((ks.take q).map D'.cnt).sum:Nat):Int))])∧H7.at' n5=some (ak 9 [.sc (kE (oE ks q))])∧ ∀ z,z<n5→z≠n3→H7.at' z=H6.at' z) (fun q=>ks.length-q) 0
      ⟨zB _,zA _,by(focus((repeat(first|exact Tr.ae _ _ _|refine(Tr.aa _ _ (by omega)).trans ?_));done)),by(focus((repeat(exact Tr.ae _ _ _));done)),by(focus((repeat(refine(Tr.aa _ _ (by omega)).trans ?_));exact c4)),by(focus((repeat(refine(Tr.aa _ _ (by omega)).trans ?_));exact hla)),fun z hz _=>by(focus((repeat(refine(Tr.aa _ _ (by omega)).trans ?_));exact rfl))⟩ (SlIn.sub (by repeat(first|exact trivial|refine⟨rfl,?_⟩))) ?_
     rintro q H7 n7 ⟨e1,e2,e3,e4,e5,e6,e8⟩ ih
     (repeat(first|refine aj ?_|refine ac ?_))
     (apply cF;exact rfl;exact rfl;exact rfl;exact rfl)
     all_goals intro h4
     ·have hq:q<ks.length:=by omega
      obtain⟨rc,rc1,rc2,rfl,hrc⟩: ∃ rc,n3+1≤rc∧rc<n5∧vc = .slu rc 0 (ks.map D'.cnt).length∧H5.at' rc=some (iR false (ks.map D'.cnt)):=by
       rcases hcv with ⟨_,h⟩|h
       ·rw [h] at hcs
        simp at hcs
        omega
       ·exact h
      have g1:=(e8 y1 (by omega) (by omega)).trans c1
      have g2:=(e8 y2 (by omega) (by omega)).trans c2
      have g3:=(e8 rn (by omega) (by omega)).trans c3
      have g4:=(e8 rc (by omega) (by omega)).trans ((ho6 rc rc2).trans hrc)
      (repeat(first|refine aj ?_|refine ac ?_|refine ab ?_|refine aD ?_|refine aE ?_|refine ar rfl ?_|(apply ai;exact rfl;exact rfl;exact rfl)|(apply ah;exact rfl;exact rfl;exact rfl)|refine aH rfl rfl rfl (F.ag _ rfl) (by assumption) (by exact rfl) ?_|refine kb (q:=q) rfl rfl rfl rfl (F.un _ rfl) (F.sz _ rfl) (by assumption) (by omega) (by(omega)) (zA _) ?_|(refine fj rfl rfl rfl (F.ag _ rfl) g3 (rm hq) (by omega) ?_)|(refine fy rfl rfl rfl rfl Try.underlying70 rfl ?_)|(refine fj rfl rfl rfl (F.ag _ rfl) g4 (y7 (by omega)) (by omega) ?_)))
      refine mu (n:=n5+1+1) rfl rfl rfl rfl (by assumption) (by exact rfl) ?_
      refine ka hcA ?_
      (repeat(first|refine aj ?_|refine ac ?_|refine ab ?_|(apply ah;exact rfl;exact rfl;exact rfl)))
      refine mr (by assumption) ?_
      refine ka hcB ?_
      refine ee (R:=fun H8 n8=>n8=n7∧H8.at' (n5+1+1)=some (.loop .busy none 3 201 (slT [(0,.sc (.int .i64 (cap:Int))),(1,.slu r 0 ls.length),(4,.ptr nx 0),(5,.ptr (nx+1+1+1) 0),(7,.sc (.int .i64 (i:Int))),(13,.ptr n3 0),(15,.ptr n5 0)]) #[163,164] cA cB (n5+1))∧ ∀ z,z≠n5+1+1→H8.at' z=H7.at' z) ⟨rfl,by(focus((repeat(exact Tr.ae _ _ _));done)),fun z hz=>by(focus((repeat(refine(Tr.aa _ _ (by omega)).trans ?_));exact rfl))⟩ ?_
      rintro H8 n8 ⟨rfl,f1,f2⟩
      have d1:=(f2 n5 (by omega)).trans e6
      have d2:=(f2 n3 (by omega)).trans e5
      have d3:=(f2 (nx+1+1+1) (by omega)).trans ((e8 _ (by omega) (by omega)).trans c5)
      have hA8:DAt y' D' F' H8:=hA6.frame fun z hz=>(f2 z (by have:=hlt3 z hz;omega)).trans (e8 z (by have:=hlt3 z hz;omega) (by have:=hlt3 z hz;omega))
      have hkm:ks[q]∈D'.files.map (·.1):=hks.subset (zK hq)
      obtain⟨m1,hm1⟩:=dI hkm
      have hmay:=hok'.f.name _ m1 hm1
      have hknd:ks.Nodup:=hks.nodup_iff.2 hok'.f.ndF
      have hlast:=tR hq hpw hknd fun k hk=>by
       obtain⟨m,hm⟩:=dI (hks.subset hk)
       exact tK (hok'.f.name _ m hm)
      have hmy:=fO (H:=H8) (nx:=n8) ks[q] (by have:=xI hmay;omega)
      rw [hmay] at hmy
      have hhas:Fnc Try.prog 16 [.ptr y' 0,.sc (kE ks[q])] H8 n8 (fun r=>r=(.sc (.bool true),H8,n8)):=by
       have:=rW (nx:=n8) hA8 ks[q]
       rw [hm1] at this
       exact this
      have hcou:=uq (nx:=n8) hA8 hok' ks[q]
      have hcnt1:D'.cnt ks[q]=m1.length:=by unfold DD.cnt;rw [hm1];rfl
      have hcq:(ks.map D'.cnt)[q]'(by omega)=m1.length:=by rw [List.getElem_map];exact hcnt1
      have htop:(m1.length:Int)≤D'.count ks[q]:=by
       unfold DD.count
       rw [hm1]
       exact sJ (hok'.f.ndS _ m1 hm1) fun x hx=>(hok'.f.num _ m1 hm1 x hx).1
      have hsum:((ks.take (q+1)).map D'.cnt).sum=((ks.take q).map D'.cnt).sum+m1.length:=by
       rw [List.take_succ_eq_append_getElem hq,zF,List.sum_append,zC,List.map_nil,List.sum_singleton,hcnt1]
      have hall:(ks.map D'.cnt).sum=D'.used:=by
       unfold DD.used
       rw [eT hok'.f.ndF]
       exact jf (hks.map _)
      have hle:((ks.take (q+1)).map D'.cnt).sum≤D'.used:=by
       rw [← hall]
       conv=>rhs;rw [← List.take_append_drop (q+1) ks,zF,List.sum_append]
       omega
      have hkl:ks.length≤32:=by
       have:=hks.length_eq
       rw [List.length_map] at this
       rw [this]
       exact hok'.f.few
      have hv:((((ks.take q).map D'.cnt).sum:Nat):Int)+(((ks.map D'.cnt)[q]'(by omega):Nat):Int)=((((ks.take (q+1)).map D'.cnt).sum:Nat):Int):=by
       rw [hsum,hcq]
       omega
      (repeat(first|refine aj ?_|refine ac ?_|refine ab ?_|refine aD ?_|refine ay ?_|refine aE ?_|refine an rfl ?_|(apply ai;exact rfl;exact rfl;exact rfl)|(apply ci;exact rfl;exact rfl;exact rfl;exact rfl)|refine be rfl rfl rfl rfl (F.sz _ rfl) (by(repeat(first|assumption|refine(Tr.aa _ _ (by omega)).trans ?_));done) rfl (by exact zj rfl) rfl ?_|refine aH rfl rfl rfl (F.ag _ rfl) (by(repeat(first|assumption|refine(Tr.aa _ _ (by omega)).trans ?_));done) (by exact rfl) ?_|(apply bj;exact rfl;exact rfl;exact rfl;exact rfl;(focus(omega));(focus(omega)))|(apply dg;exact rfl;exact rfl;exact rfl)|((apply w8 (r:=false);exact rfl;exact rfl;exact rfl;exact rfl;(focus(rw [hlast];rfl))))|(refine aQ rfl rfl rfl (by kernel_rfl) (Fnc.mono (hmy) ?_);rintro _ rfl;dsimp only)|(refine aQ rfl rfl rfl (by kernel_rfl) (Fnc.mono (hhas) ?_);rintro _ rfl;dsimp only)|(refine aQ rfl rfl rfl (by kernel_rfl) (Fnc.mono (hcou) ?_);rintro _ rfl;dsimp only)|(refine dB rfl rfl rfl rfl (fun hq=>absurd hq (by omega)) (fun _=>?_))|(refine cF rfl rfl rfl rfl (fun hq=>absurd hq (by omega)) (fun _=>?_))))
      refine il (by(repeat(refine(Tr.aa _ _ (by omega)).trans ?_));exact f1) ?_
      dsimp only
      (repeat(first|refine ac ?_|refine ab ?_|refine ay ?_|refine aE ?_|refine an rfl ?_|(apply ai;exact rfl;exact rfl;exact rfl)|(apply ci;exact rfl;exact rfl;exact rfl;exact rfl)|(apply bj;exact rfl;exact rfl;exact rfl;exact rfl;(focus(omega));(focus(omega)))|(apply dg;exact rfl;exact rfl;exact rfl)))
      rw [hv]
      refine ih _ _ _ (q+1) ⟨by omega,by omega,(by(repeat(refine(Tr.aa _ _ (by omega)).trans ?_));exact(f2 (n5+1) (by omega)).trans e3),by(focus((repeat(exact Tr.ae _ _ _));done)),by(focus((repeat(first|exact Tr.ae _ _ _|refine(Tr.aa _ _ (by omega)).trans ?_));done)),by rw [pX hq];(focus((repeat(first|exact Tr.ae _ _ _|refine(Tr.aa _ _ (by omega)).trans ?_));done)),fun z hz hn=>(by(repeat(refine(Tr.aa _ _ (by omega)).trans ?_));exact(f2 z (by omega)).trans (e8 z hz hn))⟩ (by omega) (SlIn.sub (by repeat(first|exact trivial|refine⟨rfl,?_⟩)))
     ·obtain rfl:q=ks.length:=by omega
      rw [List.take_length] at e5
      have hall:(ks.map D'.cnt).sum=D'.used:=by
       unfold DD.used
       rw [eT hok'.f.ndF]
       exact jf (hks.map _)
      rw [hall] at e5
      clear ih
      (repeat(first|refine aj ?_|refine ab ?_|refine aU rfl ?_|refine an rfl ?_))
      apply dU Try.func34 (congrArg Array.toList Try.results34) ResIs.nil
      dsimp only
      refine im e4 (fun h=>by cases h) ?_
      (repeat(first|refine aj ?_|refine ay ?_))
      refine ee (R:=fun H9 n9=>n9=n7∧ ∀ z,z≠n5+1+1→H9.at' z=H7.at' z) ⟨rfl,fun z hz=>by(focus((repeat(refine(Tr.aa _ _ (by omega)).trans ?_));exact rfl))⟩ ?_
      rintro H9 n9 ⟨rfl,h9⟩
      have down: ∀ z,z<n3→H9.at' z=H3.at' z:=fun z hz=>(h9 z (by omega)).trans ((e8 z (by omega) (by omega)).trans ((ho6 z (by omega)).trans ((hold5 z (by omega)).trans (ho4 z hz))))
      have hA9:DAt y' D' F' H9:=hA3.frame fun z hz=>down z (hlt3 z hz)
      have d1:=(h9 n3 (by omega)).trans e5
      have d2:=(down _ (by omega)).trans b5
      have hroom:=s3 (nx:=n9) hA9 (by omega) (by omega)
      (apply dp;(focus(kernel_rfl));(focus(kernel_rfl)))
      (repeat(first|(apply ax;exact rfl;exact rfl;exact rfl)|(apply cG;exact rfl;exact rfl;exact rfl;exact rfl;(focus(omega));(focus(omega)))|(refine bP rfl rfl rfl (F.ag _ rfl) d1 (aN rfl) ?_)|(refine bP rfl rfl rfl (F.ag _ rfl) d2 (aN rfl) ?_)|(refine aY rfl rfl rfl (by kernel_rfl) hroom ?_)|(refine jY rfl rfl rfl rfl (fun hq=>absurd (by omega) hq) (fun _=>?_))))
      (refine aF ?_);(refine⟨by kernel_rfl,?_,?_⟩);(focus(repeat(first|exact trivial|refine⟨.inl (cj rfl),?_⟩|refine⟨.inr ⟨0,by kernel_rfl,AllH.all (fun _=>(by first|exact aB rfl|exact aL rfl rfl (.inl ⟨rfl,(zf _ ⟨by omega,by omega⟩).symm⟩))) _⟩,?_⟩|refine⟨.inr ⟨0,by kernel_rfl,(by(refine⟨(by first|exact aO (F.ag _ rfl) rfl (by assumption) (aN rfl)|exact bW rfl rfl (.inr (.inl ⟨rfl,by simp;omega⟩))),?_⟩;(repeat(refine⟨(by first|exact aO (F.ag _ rfl) rfl (by assumption) (aN rfl)|exact bW rfl rfl (.inr (.inl ⟨rfl,by simp;omega⟩))),?_⟩));exact trivial))⟩,?_⟩)))
      dsimp only [wrL]
      (repeat(first|refine ac ?_|refine ab ?_|refine ay ?_|refine aE ?_|refine an rfl ?_|(apply ai;exact rfl;exact rfl;exact rfl)|(apply ah;exact rfl;exact rfl;exact rfl)|(apply bj;exact rfl;exact rfl;exact rfl;exact rfl;(focus(omega));(focus(omega)))))
      refine again _ _ _ (i+1,(n5+1) :: R) _ ⟨by show i+1≤_;omega,by omega,(down nx (by omega)).trans b3,⟨y',D',F',d2,hA9,hok',by omega,fun z hz=>⟨(hF3 z hz).1,(hF3 z hz).2.1,fun hm=>?_⟩⟩,fun z hz=>(down z (by omega)).trans (hold4 z hz),fun z hz=>?_,?_⟩ (by show ls.length-(i+1)<ls.length-i;omega) rfl (SlIn.sub (by repeat(first|exact trivial|refine⟨rfl,?_⟩)))
      ·have:=hlt3 z hz
       rcases List.mem_cons.1 hm with h|h
       ·omega
       ·exact(hF3 z hz).2.2 h
      ·rcases List.mem_cons.1 hz with h|h
       ·subst h
        exact⟨by omega,by omega,(h9 _ (by omega)).trans e3⟩
       ·obtain⟨a1,a2,a3⟩:=hg10 z h
        exact⟨a1,by omega,(down z a2).trans a3⟩
      ·exact List.nodup_cons.2 ⟨fun h=>by have:=(hg10 _ h).2.1;omega,g11⟩
    ·(repeat(first|(apply ax;exact rfl;exact rfl;exact rfl)|(apply cR;exact rfl;exact rfl;exact rfl)|(apply mf;exact rfl;exact rfl;exact rfl;exact rfl)))
     refine aF ⟨by kernel_rfl,rfl,?_⟩
     (repeat(first|exact trivial|refine⟨.inl rfl,?_⟩|refine⟨.inr (by(repeat(refine⟨(by first|exact aB rfl|exact dD rfl|exact iq rfl rfl|exact aO (F.ag _ rfl) rfl (by assumption) (aN rfl)|exact bY (F.ag _ rfl) rfl hr1 (kD hi)),?_⟩));exact trivial),?_⟩|refine⟨.inl (by kernel_rfl),?_⟩))
   ·(repeat(first|refine aj ?_|refine ac ?_|refine ab ?_|refine aU rfl ?_|refine an rfl ?_|refine be rfl rfl rfl rfl (F.sz _ rfl) (by assumption) rfl (by exact zj rfl) rfl ?_|(refine aQ rfl rfl rfl (by kernel_rfl) (Fnc.mono (mU) ?_);rintro _ rfl;dsimp only)))
    refine ql Try.func3 (congrArg Array.toList Try.results3) (rs:=R) rfl (fun q hq=>(Tr.aa _ _ (by have:=(g10 q hq).1;omega)).trans (g10 q hq).2.2) g11 ?_
    intro H6 h6
    refine⟨_,(by apply ResIs.cell rfl (LoadIs.one (F.ag _ rfl) ((h6 _ (fun h=>by have:=(g10 _ h).1;omega)).trans (Tr.ae _ _ _)) (aN rfl));exact ResIs.nil),rfl⟩
end Go.Proofs.Ytbmekelkddllkaa
end
section
namespace Go.Sl
open Go Go.RowKit Go.WideShapes Go.ChangeShapes
theorem post_new{H:Type}{enc:TypeId×Value→H}{P:Program}{f:Func}{s:ChangeSpec}{apart fresh handsOn again:Bool}{W W':World}{args:Array Value}{v:Value}{ds gs:List (DataW H)}{before pa pv:List MemPlace}
 (hW:DataW.Whole enc P f.params.toList s.vars apart W args.toList ds gs before) (hb:Below W.heap.size W W') (hps:before=pa ++ pv)
 (hres: ∀ (b:Nat) (sp:Nat→Bool) (hd:Bool),DataW.TrodAll enc P W' b sp hd f.resultTypes.toList (v.resultList f.resultTypes.size) (s.fn H (ds ++ gs)).results [])
 (hargs: ∀ sp:Nat→Bool,(∀ p∈before,sp p.block=true)→DataW.TrodAll enc P W' 0 sp true f.params.toList args.toList (s.fn H (ds ++ gs)).args pa)
 (hvars: ∀ sp:Nat→Bool,(∀ p∈before,sp p.block=true)→DataW.TrodVars enc P W' sp s.vars (s.fn H (ds ++ gs)).vars pv)
 (hok: ∀ (j:Nat) (t:TypeId) (r:Value),f.resultTypes[j]? =some t→(v.resultList f.resultTypes.size)[j]? =some r→Value.okWide P W' .any 0 t r) :
 s.post enc P f apart fresh handsOn again W args v W':=by
 have hsp: ∀ p∈before,(fun b=>decide (b<W.heap.size)) p.block=true:=fun p hp=>by simpa using hW.lt p hp
 have hmem: ∀ p,p∈pa ++ pv↔p∈before:=fun p=>by rw [hps]
 refine⟨ds,gs,before,[],pa,pv,hW,hres _ _ _,hargs _ hsp,hvars _ hsp,World.keptBut_mono (fun p hp=>⟨hp,?_⟩) (hb.frame (·∈before)),fun _=>?_⟩
 ·have:=(hmem p).2 hp
  rw [List.mem_append] at this
  exact .inr this
 obtain⟨_,_,_,_,_,hz,hn⟩:=id hW
 refine⟨hok,_,_,([] ++ pa) ++ pv,⟨[] ++ pa,pv,trodAll_append (hargs _ (fun _ _=>rfl)) (hres _ _ _),hvars _ (fun _ _=>rfl),rfl,fun b off hp=>?_,fun ha=>?_⟩,fun p hp _=>?_⟩
 ·have hin:MemPlace.cell b off∈before:=(hmem _).1 (by simpa using hp)
  rw [hb.frozen (hW.lt _ hin)]
  exact hz b off hin
 ·have:=hn ha
  rw [hps] at this
  simpa using this
 ·exact(hmem p).1 (by simpa using hp)
end Go.Sl
end
section
namespace Go.Sy
open Go Go.Sl Go.RowKit Go.WideShapes
theorem sZ(p:Program)(fits:TypeId→Bool)(d:Nat)(e:TypeId)(count off n:Nat)(h:rowAt p fits d e count off n=true):off≤count*p.cellsOf e:=by
 cases d with
 | zero=>simp [rowAt] at h
 | succ d=>
   unfold rowAt at h
   simp only at h
   split at h
   ·cases h
   ·rename_i hs
    have hdiv:=Nat.div_add_mod off (p.cellsOf e)
    rw [Bool.or_eq_true] at h
    rcases h with h|h
    ·simp only [zy,beq_iff_eq,decide_eq_true_eq] at h
     obtain⟨⟨h1,h2⟩,_⟩:=h
     have:p.cellsOf e*(off / p.cellsOf e)≤p.cellsOf e*count:=Nat.mul_le_mul_left _ (by omega)
     rw [Nat.mul_comm count]
     omega
    ·rw [zy,decide_eq_true_eq] at h
     have hm:=Nat.mod_lt off (Nat.pos_of_ne_zero hs)
     have:p.cellsOf e*(off / p.cellsOf e+1)≤p.cellsOf e*count:=Nat.mul_le_mul_left _ (by omega)
     rw [Nat.mul_add,Nat.mul_one] at this
     rw [Nat.mul_comm count]
     omega
theorem me(p:Program): ∀ (d:Nat) (e:TypeId) (count off:Nat) (u:TypeId) (n:Nat),liesAt p d e count off u n=true→off≤count*p.cellsOf e
 | 0,_,_,_,_,_,h=>by simp [liesAt] at h
 | d+1,e,count,off,u,n,h=>by
   unfold liesAt at h
   rw [Bool.or_eq_true] at h
   rcases h with h|h
   ·exact sZ p _ _ e count off n h
   ·split at h
    ·exact me p d e count off _ _ h
    ·cases h
theorem jR{A:Type}{f:Nat→Option A}: ∀ {n:Nat} {l:List A},(List.range n).mapM f=some l→l.length=n∧ ∀ i,i<n→f i=l[i]? :=by
 intro n
 induction n with
 | zero=>intro l h;simp at h;subst h;exact⟨rfl,fun i hi=>by omega⟩
 | succ n ih=>
   intro l h
   rw [List.range_succ,List.mapM_append] at h
   simp only [Option.bind_eq_bind,Option.bind_eq_some_iff] at h
   obtain⟨a,ha,b,hb,hl⟩:=h
   obtain⟨h1,h2⟩:=ih ha
   cases hf:f n with
   | none=>simp [hf] at hb
   | some x=>
     simp [hf] at hb
     subst hb
     simp at hl
     subst hl
     refine⟨by simp [h1],fun i hi=>?_⟩
     rcases Nat.lt_or_ge i n with h|h
     ·rw [zw (by omega)];exact h2 i h
     ·obtain rfl:i=n:=by omega
      rw [hf,List.getElem?_append_right (by omega),h1]
      simp
theorem sW{b0:Nat}{H:Type}{enc:TypeId×Value→H}{P:Program}{w:World}{t e:TypeId}{sz:Nat}{v:Value}{dd:DataW H}{p:List MemPlace}(ht:P.underlying t=some (.slice e))(hc:P.cellsOf e=sz)(h0:0<sz)
 (hT:DataW.Trod enc P w 0 (fun _=>true) true t v dd p) (hok:Value.okWide P w .any b0 t v) :
 (v = .slice none 0 0)∨ ∃ (b o len cap:Nat) (cs:Array Value) (tt:TypeId) (fz:Nat×Nat),v = .slice (some ⟨b,o,none⟩) len cap∧w.heap[b]? =some (.cells cs tt fz)∧len≤cap∧cap≤maxLen∧o+cap*sz≤cs.size ∧
   ∀ i,i<len→ ∃ us:List Value,us.length=sz∧(∀ j,j<sz→cs[o+i*sz+j]? =us[j]?)∧ ∃ n y,DataW.trod enc P w 0 (fun _=>true) true n e us=some y:=by
 obtain⟨fuel,hT⟩:=hT
 obtain⟨a0,len0,cap0,rfl⟩:=okWide_slice ht hok
 have hcells:(Value.slice a0 len0 cap0).cells.toList= [.slice a0 len0 cap0]:=rfl
 rw [hcells] at hT
 rcases DataW.trod_slice ht hT with ⟨h1,_⟩|⟨a,len,cap,elems,rest,n,_,h1,_,_,h3,h4,h5,h6,h7,_⟩
 ·left
  simpa using h1
 ·right
  simp only [List.cons.injEq,and_true,Value.slice.injEq] at h1
  obtain⟨rfl,rfl,rfl⟩:=h1
  unfold Value.okWide at hok
  rw [ht] at hok
  simp only at hok
  unfold Cell.okWide at hok
  rw [ht] at hok
  simp only at hok
  unfold Cell.ok at hok
  rw [ht] at hok
  simp only at hok
  obtain⟨_,_,_,hsp,row,cells,hsh,hli⟩:=hok
  obtain⟨b,o,sp⟩:=a
  simp only at hsp hsh hli h6 h7
  subst hsp
  unfold World.shape? at hsh
  cases hob:w.heap[b]? with
  | none=>rw [hob] at hsh;cases hsh
  | some ob=>
    rw [hob] at hsh
    cases ob with
    | cells cs tt fz=>
      simp only [zd,zn] at hsh
      obtain⟨rfl,rfl⟩:=hsh
      have hoff:=me P _ _ _ _ _ _ hli
      have hoff2:o≤cs.size:=zI hoff (Nat.div_mul_le_self _ _)
      have hcell: ∀ q:Nat,w.cell? ⟨b,q,none⟩=cs[q]? :=fun q=>by simp [World.cell?,hob]
      have hget: ∀ (q:Nat) (us:List Value),w.cells? 0 ((⟨b,o,none⟩:Addr).add (q*P.cellsOf e)) (P.cellsOf e)=some us→us.length=sz∧ ∀ j,j<sz→cs[o+q*sz+j]? =us[j]? :=by
       intro q us hus
       rw [add_plain] at hus
       unfold World.cells? at hus
       rw [if_pos (zB _)] at hus
       obtain⟨g1,g2⟩:=jR hus
       rw [hc] at g1 g2 hus
       refine⟨g1,fun j hj=>?_⟩
       have:=g2 j hj
       rw [add_plain,hcell] at this
       exact this
      refine⟨b,o,len0,cap0,cs,tt,fz,rfl,hob,h3,h4,?_,fun i hi=>?_⟩
      ·rcases Nat.eq_zero_or_pos cap0 with hz|hz
       ·subst hz;simpa using hoff2
       ·have hlast: ∃ us,w.cells? 0 ((⟨b,o,none⟩:Addr).add ((cap0-1)*P.cellsOf e)) (P.cellsOf e)=some us:=by
         rcases Nat.lt_or_ge (cap0-1) len0 with hl|hl
         ·have h8:=h6 (cap0-1) hl
          rw [zh (by omega)] at h8
          cases hcs:w.cells? 0 ((⟨b,o,none⟩:Addr).add ((cap0-1)*P.cellsOf e)) (P.cellsOf e)with
          | none=>rw [hcs] at h8;cases h8
          | some us=>exact⟨us,rfl⟩
         ·obtain⟨h9,h10⟩:=h7 trivial
          have h8:=h10 (cap0-1-len0) (by omega)
          rw [zh (by omega),show len0+(cap0-1-len0)=cap0-1 by omega] at h8
          cases hcs:w.cells? 0 ((⟨b,o,none⟩:Addr).add ((cap0-1)*P.cellsOf e)) (P.cellsOf e)with
          | none=>rw [hcs] at h8;cases h8
          | some us=>exact⟨us,rfl⟩
        obtain⟨us,hus⟩:=hlast
        obtain⟨g1,g2⟩:=hget _ _ hus
        have g3:=g2 (sz-1) (by omega)
        rw [zh (show sz-1<us.length by omega)] at g3
        have g4:=(zp.1 g3).1
        have:cap0*sz=(cap0-1)*sz+sz:=by
         conv=>lhs;rw [show cap0=cap0-1+1 by omega,Nat.add_mul,Nat.one_mul]
        omega
      ·have h8:=h6 i hi
       rw [zh (by omega)] at h8
       cases hcs:w.cells? 0 ((⟨b,o,none⟩:Addr).add (i*P.cellsOf e)) (P.cellsOf e)with
       | none=>rw [hcs] at h8;cases h8
       | some us=>
         rw [hcs] at h8
         simp only [zH] at h8
         obtain⟨g1,g2⟩:=hget _ _ hcs
         exact⟨us,g1,g2,n,_,h8⟩
    | _=>cases hsh
def gP(w:World):Zone:=⟨fun j=>j<w.heap.size,fun j=>j<w.heap.size,fun _ h=>h⟩
theorem tU(w:World):Kept (gP w) w w:=⟨rfl,rfl,rfl,zA _,fun _ h=>h,fun _ _=>rfl⟩
theorem v5{w0 w:World}(h:Kept (gP w0) w0 w):Below w0.heap.size w0 w:=⟨h.os,h.tape,h.output,h.size,fun j hj=>h.block j hj⟩
def iY(sz:Nat):Value→Ent
 | .slice (some a) _ cap=>⟨a.block,a.off,cap,sz,false⟩
 | _=>⟨0,0,0,sz,true⟩
def ArgRow{A:Type}(w:World)(sz:Nat)(f:A→List Value)(v:Value)(l:List A):Prop:=
 (v = .slice none 0 0∧l= [])∨ ∃ (b o len cap:Nat) (cs:Array Value) (tt:TypeId) (fz:Nat×Nat),v = .slice (some ⟨b,o,none⟩) len cap∧w.heap[b]? =some (.cells cs tt fz)∧len=l.length∧len≤cap∧cap≤maxLen∧o+cap*sz≤cs.size ∧
   ∀ i c,l[i]? =some c→ ∀ j,j<sz→cs[o+i*sz+j]? =(f c)[j]?
theorem uE{b0:Nat}{A:Type}{H:Type}{enc:TypeId×Value→H}{P:Program}{w:World}{t e:TypeId}{sz:Nat}{v:Value}{dd:DataW H}{p:List MemPlace}{f:A→List Value}(ht:P.underlying t=some (.slice e))(hc:P.cellsOf e=sz)(h0:0<sz)
 (hT:DataW.Trod enc P w 0 (fun _=>true) true t v dd p) (hok:Value.okWide P w .any b0 t v) (hf: ∀ n us y,DataW.trod enc P w 0 (fun _=>true) true n e us=some y→ ∃ a,us=f a): ∃ l:List A,ArgRow w sz f v l:=by
 rcases sW ht hc h0 hT hok with h|⟨b,o,len,cap,cs,tt,fz,h1,h2,h3,h4,h5,h6⟩
 ·exact⟨[],.inl ⟨h,rfl⟩⟩
 ·have hex: ∀ i,i<len→ ∃ a:A,∀ j,j<sz→cs[o+i*sz+j]? =(f a)[j]? :=by
   intro i hi
   obtain⟨us,g1,g2,n,y,g3⟩:=h6 i hi
   obtain⟨a,rfl⟩:=hf n us y g3
   exact⟨a,g2⟩
  refine⟨(List.range len).attach.map (fun i=>Classical.choose (hex i.1 (List.mem_range.1 i.2))),.inr ⟨b,o,len,cap,cs,tt,fz,h1,h2,by simp,h3,h4,h5,?_⟩⟩
  intro i c hi j hj
  rw [List.getElem?_map] at hi
  obtain⟨q,hq,rfl⟩:=zo.1 hi
  have hq1:q.1=i:=by
   obtain⟨hlt,hh⟩:=zi.1 hq
   rw [← hh]
   simp
  have:=Classical.choose_spec (hex q.1 (List.mem_range.1 q.2)) j hj
  rw [← hq1]
  exact this
theorem ArgRow.conc{A:Type}{w:World}{sz:Nat}{f:A→List Value}{v:Value}{l:List A}(h:ArgRow w sz f v l){e:Env}{b:Nat}(he:e b=some (iY sz v)):(SV.slu b 0 l.length).conc e=some v:=by
 rcases h with ⟨rfl,rfl⟩|⟨b',o,len,cap,cs,tt,fz,rfl,h2,rfl,h3,h4,h5,h6⟩
 ·simp [SV.conc,he,iY,Ent.at]
 ·simp [SV.conc,he,iY,Ent.at]
theorem qX{A:Type}{f:A→List Value}{sz:Nat}(hf: ∀ a,(f a).length=sz): ∀ (l:List A) (i j:Nat),j<sz→(l.flatMap f)[i*sz+j]? =(l[i]?).bind (fun c=>(f c)[j]?)
 | [],i,j,_=>by simp
 | a :: l,0,j,hj=>by
   rw [List.flatMap_cons,zw (by rw [hf];omega)]
   simp
 | a :: l,i+1,j,hj=>by
   rw [List.flatMap_cons,List.getElem?_append_right (by rw [hf,Nat.add_mul];omega),hf,show(i+1)*sz+j-sz=i*sz+j by rw [Nat.add_mul];omega,qX hf l i j hj]
   simp
theorem ArgRow.lies{A:Type}{w:World}{sz:Nat}{f:A→List Value}{v:Value}{l:List A}(h:ArgRow w sz f v l)(hf: ∀ a,(f a).length=sz)(h0:0<sz)(rt:TypeId)(e:Env):Lies (gP w) w e (dat true l.length sz rt (l.flatMap f)) (iY sz v):=by
 rcases h with ⟨rfl,rfl⟩|⟨b,o,len,cap,cs,tt,fz,rfl,h2,rfl,h3,h4,h5,h6⟩
 ·exact .inr ⟨rfl,rfl,true,rt,_,rfl,h0⟩
 ·refine .inl ⟨rfl,.cells cs tt fz,⟨fun _=>dW h2,fun h=>by cases h⟩,h2,rfl,cs,fz,tt,rfl,h3,h5,h4,(fun h=>by cases h),h0,fun i hi s hs=>?_⟩
  have hs':((l.flatMap f)[i]?).map SV.sc=some s:=hs
  obtain⟨u,hu,rfl⟩:=zo.1 hs'
  refine⟨u,rfl,?_⟩
  have hdm:=Nat.div_add_mod i sz
  have hm:=Nat.mod_lt i h0
  have e1:i=i / sz*sz+i % sz:=by rw [Nat.mul_comm];omega
  rw [e1,qX hf l _ _ hm] at hu
  obtain⟨c,hc,hcu⟩:=Option.bind_eq_some_iff.1 hu
  have:=h6 (i / sz) c hc (i % sz) hm
  show cs[o+i]? =some u
  rw [e1,←Nat.add_assoc,this]
  exact hcu
theorem St.init{w:World}{e:Env}{H:aK}{nx:Nat}(h1: ∀ id vo,H.at' id=some vo→vo.ro=true∧ ∃ x,e id=some x∧Lies (gP w) w e vo x)(h2: ∀ i,nx≤i→e i=none):St (gP w) w e H nx w:=
 ⟨tU w,fun id vo h=>(h1 id vo h).2,fun id id' vo vo' x x' h _ _ _ _ _ _ hr _=>by(rw [(h1 id vo h).1] at hr;cases hr),h2⟩
theorem vh{H:Type}{enc:TypeId×Value→H}{P:Program}{w:World}{t e:TypeId}{sz n:Nat}{v:Value}{y:DataW H×List MemPlace}(ht:P.underlying t=some (.slice e))(hc:P.cellsOf e=sz)(h0:0<sz)
 (hT:DataW.trod enc P w 0 (fun _=>true) true n t [v]=some y) :
 (∃ a c,v = .slice a 0 c)∨ ∃ (b o len cap:Nat) (cs:Array Value) (tt:TypeId) (fz:Nat×Nat),v = .slice (some ⟨b,o,none⟩) len cap∧0<len∧w.heap[b]? =some (.cells cs tt fz)∧len≤cap∧cap≤maxLen∧o+cap*sz≤cs.size ∧
   ∀ i,i<len→ ∃ us:List Value,us.length=sz∧(∀ j,j<sz→cs[o+i*sz+j]? =us[j]?)∧ ∃ n y,DataW.trod enc P w 0 (fun _=>true) true n e us=some y:=by
 rcases DataW.trod_slice ht hT with ⟨h1,_⟩|⟨a,len,cap,elems,rest,n,_,h1,_,_,h3,h4,h5,h6,h7,_⟩
 ·simp only [List.cons.injEq,and_true] at h1
  exact .inl ⟨none,0,h1⟩
 ·simp only [List.cons.injEq,and_true] at h1
  subst h1
  rcases Nat.eq_zero_or_pos len with hz|hpos
  ·subst hz
   exact .inl ⟨some a,cap,rfl⟩
  ·right
   have h8:=h6 0 hpos
   rw [zh (by omega)] at h8
   obtain⟨b,o,sp⟩:=a
   cases hcs:w.cells? 0 ((⟨b,o,sp⟩:Addr).add (0*P.cellsOf e)) (P.cellsOf e)with
   | none=>rw [hcs] at h8;cases h8
   | some us=>
     unfold World.cells? at hcs
     rw [if_pos (zB _)] at hcs
     obtain⟨g1,g2⟩:=jR hcs
     have g3:=g2 0 (by omega)
     rw [zh (show 0<us.length by omega)] at g3
     have ha:((⟨b,o,sp⟩:Addr).add (0*P.cellsOf e)).add 0=⟨b,o,sp⟩:=by simp [Addr.add]
     rw [ha] at g3
     unfold World.cell? at g3
     cases hob:w.heap[b]? with
     | none=>simp only [hob] at g3;cases g3
     | some ob=>
       simp only [hob] at g3
       cases ob with
       | cells cs tt fz=>
         simp only at g3
         have hsp:sp=none:=by
          cases sp with
          | none=>rfl
          | some s=>simp at g3
         subst hsp
         have hcell: ∀ q:Nat,w.cell? ⟨b,q,none⟩=cs[q]? :=fun q=>by simp [World.cell?,hob]
         have hget: ∀ (q:Nat) (us:List Value),w.cells? 0 ((⟨b,o,none⟩:Addr).add (q*P.cellsOf e)) (P.cellsOf e)=some us→us.length=sz∧ ∀ j,j<sz→cs[o+q*sz+j]? =us[j]? :=by
          intro q us hus
          rw [add_plain] at hus
          unfold World.cells? at hus
          rw [if_pos (zB _)] at hus
          obtain⟨g1,g2⟩:=jR hus
          rw [hc] at g1 g2 hus
          refine⟨g1,fun j hj=>?_⟩
          have:=g2 j hj
          rw [add_plain,hcell] at this
          exact this
         refine⟨b,o,len,cap,cs,tt,fz,rfl,hpos,hob,h3,h4,?_,fun i hi=>?_⟩
         ·have hlast: ∃ us,w.cells? 0 ((⟨b,o,none⟩:Addr).add ((cap-1)*P.cellsOf e)) (P.cellsOf e)=some us:=by
           rcases Nat.lt_or_ge (cap-1) len with hl|hl
           ·have h8:=h6 (cap-1) hl
            rw [zh (by omega)] at h8
            cases hcs:w.cells? 0 ((⟨b,o,none⟩:Addr).add ((cap-1)*P.cellsOf e)) (P.cellsOf e)with
            | none=>rw [hcs] at h8;cases h8
            | some us=>exact⟨us,rfl⟩
           ·obtain⟨h9,h10⟩:=h7 rfl
            have h8:=h10 (cap-1-len) (by omega)
            rw [zh (by omega),show len+(cap-1-len)=cap-1 by omega] at h8
            cases hcs:w.cells? 0 ((⟨b,o,none⟩:Addr).add ((cap-1)*P.cellsOf e)) (P.cellsOf e)with
            | none=>rw [hcs] at h8;cases h8
            | some us=>exact⟨us,rfl⟩
          obtain⟨us,hus⟩:=hlast
          obtain⟨g1,g2⟩:=hget _ _ hus
          have g3:=g2 (sz-1) (by omega)
          rw [zh (show sz-1<us.length by omega)] at g3
          have g4:=(zp.1 g3).1
          have:cap*sz=(cap-1)*sz+sz:=by
           conv=>lhs;rw [show cap=cap-1+1 by omega,Nat.add_mul,Nat.one_mul]
          omega
         ·have h8:=h6 i hi
          rw [zh (by omega)] at h8
          cases hcs:w.cells? 0 ((⟨b,o,none⟩:Addr).add (i*P.cellsOf e)) (P.cellsOf e)with
          | none=>rw [hcs] at h8;cases h8
          | some us=>
            rw [hcs] at h8
            simp only [zH] at h8
            obtain⟨g1,g2⟩:=hget _ _ hcs
            exact⟨us,g1,g2,n,_,h8⟩
       | _=>simp only at g3;cases g3
theorem tO{w:World}{e:Env}{b o len cap sz:Nat}{cs:Array Value}{tt:TypeId}{fz:Nat×Nat}(h2:w.heap[b]? =some (.cells cs tt fz))(h3:len≤cap)(h4:cap≤maxLen)(h5:o+cap*sz≤cs.size)(h0:0<sz)(rt:TypeId)(l:List SV)
 (hc: ∀ i s,i<len*sz→l[i]? =some s→ ∃ u,s.conc e=some u∧cs[o+i]? =some u):Lies (gP w) w e (xq true len sz rt l) ⟨b,o,cap,sz,false⟩:=
 .inl ⟨rfl,.cells cs tt fz,⟨fun _=>dW h2,fun h=>by cases h⟩,h2,rfl,cs,fz,tt,rfl,h3,h5,h4,(fun h=>by cases h),h0,fun i hi s hs=>hc i s hi hs⟩
theorem vK{w:World}{e:Env}{sz:Nat}(h0:0<sz)(rt:TypeId)(l:List SV):Lies (gP w) w e (xq true 0 sz rt l) ⟨0,0,0,sz,true⟩:= .inr ⟨rfl,rfl,true,rt,_,rfl,h0⟩
end Go.Sy
end
section
namespace Go.Proofs.Ytbmekelkddllkaa
open Go Go.Sy Go.ChangeShapes Go.WideShapes Go.ChangeAt Go.RowKit
section
variable {H:Type} {enc:TypeId×Value→H} {P:Program} {w:World} {base:Nat} {sp:Nat→Bool} {held:Bool} {n:Nat} {t:TypeId} {cs:List Value} {y:DataW H×List MemPlace}
theorem ge{k:IntKind}(hu:P.underlying t=some (.int k))(h:DataW.trod enc P w base sp held n t cs=some y): ∃ x,cs= [.int k x]∧(Lit.int k x).wf=true:=by
 cases n with
 | zero=>simp [DataW.trod] at h
 | succ n=>
   unfold DataW.trod at h
   rw [hu] at h
   split at h <;> simp_all
theorem kW(hu:P.underlying t=some .string)(h:DataW.trod enc P w base sp held n t cs=some y): ∃ s,cs= [.string s]:=by
 cases n with
 | zero=>simp [DataW.trod] at h
 | succ n=>
   unfold DataW.trod at h
   rw [hu] at h
   split at h <;> simp_all
end
theorem own:ownKnob Try.prog.godebug=none:=by kernel_rfl
theorem laid:laidOutB Try.prog=true:=by kernel_rfl
theorem v6{A:Type}{f:A→List Value}{sz len o:Nat}{cs:Array Value}(hex: ∀ i,i<len→ ∃ a:A,∀ j,j<sz→cs[o+i*sz+j]? =(f a)[j]?): ∃ l:List A,l.length=len∧ ∀ i c,l[i]? =some c→ ∀ j,j<sz→cs[o+i*sz+j]? =(f c)[j]? :=by
 refine⟨(List.range len).attach.map (fun i=>Classical.choose (hex i.1 (List.mem_range.1 i.2))),by simp,?_⟩
 intro i c hi j hj
 rw [List.getElem?_map] at hi
 obtain⟨q,hq,rfl⟩:=zo.1 hi
 have hq1:q.1=i:=by
  obtain⟨hlt,hh⟩:=zi.1 hq
  rw [← hh]
  simp
 have:=Classical.choose_spec (hex q.1 (List.mem_range.1 q.2)) j hj
 rw [← hq1]
 exact this
abbrev iVi:Int→List Value:=fun n=> [.int .i64 n]
def za(w:World)(v:Value)(l:List Int):Prop:=(∃ a c,v = .slice a 0 c∧l= [])∨(l≠ []∧ArgRow w 1 iVi v l)
abbrev stU(x:StepT×Value):List Value:= [.int .i64 x.1.kind,.int .i64 x.1.n,.string x.1.name,.string x.1.to,.int .u8 (x.1.b:Int),x.2]
abbrev StA(w:World):={x:StepT×Value // za w x.2 x.1.picks ∧ -9223372036854775808≤x.1.n∧x.1.n≤9223372036854775807}
theorem uStep:Try.prog.underlying 35=some (.struct (Try.prog.fieldsOf 35)):=by kernel_rfl
theorem fStep:(Try.prog.fieldsOf 35).toList.map (fun f=>(f.type,f.offset))= [(3,0),(3,1),(9,2),(9,3),(5,4),(33,5)]:=by kernel_rfl
theorem xz{H:Type}{enc:TypeId×Value→H}{w:World}{n:Nat}{v:Value}{y:DataW H×List MemPlace}(h:DataW.trod enc Try.prog w 0 (fun _=>true) true n 33 [v]=some y): ∃ l,za w v l:=by
 rcases vh (F.un 33 rfl) (by kernel_rfl:Try.prog.cellsOf 3=1) (by decide) h with ⟨a,c,rfl⟩|⟨b,o,len,cap,cs,tt,fz,rfl,h1,h2,h3,h4,h5,h6⟩
 ·exact⟨[],.inl ⟨a,c,rfl,rfl⟩⟩
 ·obtain⟨l,hl,hc⟩:=v6 (f:=iVi) (sz:=1) (o:=o) (cs:=cs) (len:=len) fun i hi=>by
   obtain⟨us,g1,g2,n,y,g3⟩:=h6 i hi
   obtain⟨x,rfl,_⟩:=ge (F.un 3 rfl) g3
   exact⟨x,g2⟩
  refine⟨l,.inr ⟨fun e=>by rw [e] at hl;simp at hl;omega,.inr ⟨b,o,len,cap,cs,tt,fz,rfl,h2,hl.symm,h3,h4,h5,hc⟩⟩⟩
theorem sI{H:Type}{enc:TypeId×Value→H}{w:World}{n:Nat}{us:List Value}{y:DataW H×List MemPlace}(h:DataW.trod enc Try.prog w 0 (fun _=>true) true n 35 us=some y): ∃ a:StA w,us=stU a.1:=by
 have hf:=fStep
 have hu:=uStep
 generalize Try.prog.fieldsOf 35=fs at hf hu
 obtain⟨xs,m,_,_,hl,hlen,hx⟩:=DataW.trod_struct hu h
 obtain⟨l⟩:=fs
 simp only at hf
 have hl6:l.length=6:=by simpa using congrArg List.length hf
 rcases l with _|⟨f0,_|⟨f1,_|⟨f2,_|⟨f3,_|⟨f4,_|⟨f5,_|⟨f6,l⟩⟩⟩⟩⟩⟩⟩
 ·simp at hl6
 ·simp at hl6
 ·simp at hl6
 ·simp at hl6
 ·simp at hl6
 ·simp at hl6
 ·simp only [zC,List.map_nil,List.cons.injEq,zn,and_true] at hf
  obtain⟨⟨a1,a2⟩,⟨b1,b2⟩,⟨c1,c2⟩,⟨d1,d2⟩,⟨e1,e2⟩,⟨i1,i2⟩⟩:=hf
  have hc:Try.prog.cellsOf 35=6:=by kernel_rfl
  have hi:Try.prog.cellsOf 3=1:=by kernel_rfl
  have hu8:Try.prog.cellsOf 5=1:=by kernel_rfl
  have hs:Try.prog.cellsOf 9=1:=by kernel_rfl
  have hsl:Try.prog.cellsOf 33=1:=by kernel_rfl
  rw [hc] at hl
  have hlen6:xs.length=6:=by simpa using hlen
  have h0:=hx 0 f0 rfl
  have h1:=hx 1 f1 rfl
  have h2:=hx 2 f2 rfl
  have h3:=hx 3 f3 rfl
  have h4:=hx 4 f4 rfl
  have h5:=hx 5 f5 rfl
  rw [a1,a2,hi] at h0
  rw [b1,b2,hi] at h1
  rw [c1,c2,hs] at h2
  rw [d1,d2,hs] at h3
  rw [e1,e2,hu8] at h4
  rw [i1,i2,hsl] at h5
  obtain⟨_,g0⟩: ∃ y,DataW.trod enc Try.prog w 0 (fun _=>true) true m 3 ((us.drop 0).take 1)=some y:=⟨_,h0.trans (zh (by omega))⟩
  obtain⟨_,g1⟩: ∃ y,DataW.trod enc Try.prog w 0 (fun _=>true) true m 3 ((us.drop 1).take 1)=some y:=⟨_,h1.trans (zh (by omega))⟩
  obtain⟨_,g2⟩: ∃ y,DataW.trod enc Try.prog w 0 (fun _=>true) true m 9 ((us.drop 2).take 1)=some y:=⟨_,h2.trans (zh (by omega))⟩
  obtain⟨_,g3⟩: ∃ y,DataW.trod enc Try.prog w 0 (fun _=>true) true m 9 ((us.drop 3).take 1)=some y:=⟨_,h3.trans (zh (by omega))⟩
  obtain⟨_,g4⟩: ∃ y,DataW.trod enc Try.prog w 0 (fun _=>true) true m 5 ((us.drop 4).take 1)=some y:=⟨_,h4.trans (zh (by omega))⟩
  obtain⟨_,g5⟩: ∃ y,DataW.trod enc Try.prog w 0 (fun _=>true) true m 33 ((us.drop 5).take 1)=some y:=⟨_,h5.trans (zh (by omega))⟩
  obtain⟨k,hk,_⟩:=ge (F.un 3 rfl) g0
  obtain⟨q,hq,hqw⟩:=ge (F.un 3 rfl) g1
  obtain⟨s,hst⟩:=kW (F.un 9 rfl) g2
  obtain⟨s2,hst2⟩:=kW (F.un 9 rfl) g3
  obtain⟨bb,hbb,hbw⟩:=ge (F.un 5 rfl) g4
  have hq1 : -9223372036854775808≤q∧q≤9223372036854775807:=by
   simpa [Lit.wf,IntKind.has,IntKind.min,IntKind.max,show IntKind.i64.signed=true from rfl,show IntKind.i64.bits=64 from rfl] using hqw
  have hb0:0≤bb:=by
   simp only [Lit.wf,IntKind.has,IntKind.min,show IntKind.u8.signed=false from rfl,zy,decide_eq_true_eq] at hbw
   first|exact hbw.1|(simp at hbw;omega)
  rcases us with _|⟨u0,_|⟨u1,_|⟨u2,_|⟨u3,_|⟨u4,_|⟨u5,_|⟨u6,us⟩⟩⟩⟩⟩⟩⟩
  ·simp at hl
  ·simp at hl
  ·simp at hl
  ·simp at hl
  ·simp at hl
  ·simp at hl
  ·have g5':DataW.trod enc Try.prog w 0 (fun _=>true) true m 33 [u5]=some _:=g5
   obtain⟨l,hl⟩:=xz g5'
   simp at hk hq hst hst2 hbb
   refine⟨⟨(⟨k,q,s,s2,bb.toNat,l⟩,u5),hl,hq1⟩,?_⟩
   simp [stU,hk,hq,hst,hst2,hbb,Int.toNat_of_nonneg hb0]
  ·simp at hl
 ·simp at hl6
def eX{w:World}(k:Nat):List (StA w)→List (StepT×SV)
 | []=> []
 | x :: L=>(x.1.1,if x.1.1.picks= [] then .sc x.1.2 else .slu (2+k) 0 x.1.1.picks.length) :: eX (k+1) L
theorem dV{w:World}: ∀ (k:Nat) (L:List (StA w)),(eX k L).length=L.length
 | _,[]=>rfl
 | k,x :: L=>by simp [eX,dV (k+1) L]
theorem gf{w:World}: ∀ (k:Nat) (L:List (StA w)) (i:Nat) (x:StA w),L[i]? =some x→(eX k L)[i]? =some (x.1.1,if x.1.1.picks= [] then .sc x.1.2 else .slu (2+(k+i)) 0 x.1.1.picks.length)
 | k,[],i,x,h=>by simp at h
 | k,y :: L,0,x,h=>by
   simp at h
   subst h
   simp [eX]
 | k,y :: L,i+1,x,h=>by
   have:=gf (k+1) L i x (by simpa using h)
   simp only [eX,List.getElem?_cons_succ,this]
   rw [show k+1+i=k+(i+1) by omega]
def yf{w:World}(v0 pv:Value)(L:List (StA w)):Env:=fun k=>if k=0 then some (iY 6 v0) else if k=1 then some (iY 1 pv) else(L[k-2]?).map fun x=>iY 1 x.1.2
abbrev yI(l:List Int):VO:=dat true l.length 1 3 (l.flatMap iVi)
def pZ{w:World}(L:List (StA w))(picks:List Int):aK:=fun k=>if k=0 then some (stR true (eX 0 L)) else if k=1 then some (yI picks) else match L[k-2]? with
 | some x=>if x.1.1.picks= [] then none else some (yI x.1.1.picks)
 | none=>none
theorem y8{l:List Int}{i:Nat}(hi:i<l.length):(l.flatMap iVi)[i]? =some (.int .i64 l[i]):=by
 have e: ∀ l:List Int,l.flatMap iVi=l.map fun n:Int=>Value.int .i64 n:=fun l=>by
  induction l with
  | nil=>rfl
  | cons x l ih=>rw [List.flatMap_cons,ih];rfl
 rw [e,List.getElem?_map,zh hi]
 rfl
theorem vz{w:World}(L:List (StA w))(pk:List Int): ∀ x∈eX 0 L,PickIs (pZ L pk) x.2 x.1.picks:=fun x hx=>by
 obtain⟨i,hi⟩:=List.mem_iff_getElem?.1 hx
 have hlt:i<L.length:=by
  have:=(zi.1 hi).1
  rwa [dV] at this
 have hg:=gf 0 L i L[i] (zh hlt)
 rw [hi] at hg
 obtain⟨a,ha,_⟩: ∃ a,a=L[i]∧True:=⟨_,rfl,trivial⟩
 rw [← ha] at hg
 cases hg
 by_cases hp:a.1.1.picks= []
 ·rcases a.2.1 with ⟨b,c,h1,h2⟩|⟨h1,_⟩
  ·exact .inl ⟨b,c,by simp only [hp,if_true];rw [h1],hp⟩
  ·exact absurd hp h1
 ·refine .inr (.inr ⟨2+i,0,true,a.1.1.picks.length,3,a.1.1.picks.flatMap iVi,by simp [hp],?_,List.length_pos_iff.2 hp,(by show 0+a.1.1.picks.length≤a.1.1.picks.length;omega),fun j hj=>?_⟩)
  ·show pZ L pk (2+i)=_
   unfold pZ
   rw [if_neg (by omega),if_neg (by omega),show 2+i-2=i by omega,zh hlt,←ha]
   simp [hp]
  ·rw [Nat.zero_add]
   exact y8 hj
theorem uA{w:World}(L:List (StA w)): ∀ x∈eX 0 L,-9223372036854775808≤x.1.n∧x.1.n≤9223372036854775807:=fun x hx=>by
 obtain⟨i,hi⟩:=List.mem_iff_getElem?.1 hx
 have hlt:i<L.length:=by
  have:=(zi.1 hi).1
  rwa [dV] at this
 have hg:=gf 0 L i L[i] (zh hlt)
 rw [hi] at hg
 obtain⟨a,ha,_⟩: ∃ a,a=L[i]∧True:=⟨_,rfl,trivial⟩
 rw [← ha] at hg
 cases hg
 exact a.2.2
theorem xj{w:World}{v0 pv:Value}{L:List (StA w)}{pk:List Int}(h0:ArgRow w 6 (fun a:StA w=>stU a.1) v0 L)(h1:ArgRow w 1 iVi pv pk):St (gP w) w (yf v0 pv L) (pZ L pk) (2+L.length) w:=by
 refine St.init (fun id vo hv=>?_) (fun i hi=>?_)
 ·have hv:pZ L pk id=some vo:=hv
  unfold pZ at hv
  by_cases e0:id=0
  ·subst e0
   rw [if_pos rfl] at hv
   cases hv
   refine⟨rfl,iY 6 v0,rfl,?_⟩
   have hlen:=dV 0 L
   rcases h0 with ⟨rfl,rfl⟩|⟨b,o,len,cap,cs,tt,fz,rfl,g2,g3,g4,g5,g6,g7⟩
   ·exact vK (by decide) _ _
   ·refine tO g2 (by omega) g5 g6 (by decide) _ _ fun i s hi hs=>?_
    have hdm:=Nat.div_add_mod i 6
    have hm:=Nat.mod_lt i (show 0<6 by decide)
    have hq:i / 6<L.length:=by omega
    have e1:i=i / 6*6+i % 6:=by omega
    have hx:=gf 0 L (i / 6) L[i / 6] (zh hq)
    have hq2:i / 6<(eX 0 L).length:=by omega
    rw [e1,vg hq2 hm] at hs
    have hc:=g7 (i / 6) L[i / 6] (zh hq) (i % 6) hm
    rw [show o+i=o+i / 6*6+i % 6 by omega,hc]
    rw [zh hq2,zd] at hx
    rw [hx] at hs
    obtain⟨a,ha,_⟩: ∃ a,a=L[i / 6]∧True:=⟨_,rfl,trivial⟩
    rw [← ha] at hs ⊢
    have hm6:i % 6=0∨i % 6=1∨i % 6=2∨i % 6=3∨i % 6=4∨i % 6=5:=by omega
    rcases hm6 with e|e|e|e|e|e <;> rw [e] at hs ⊢
    ·cases hs;exact⟨_,rfl,rfl⟩
    ·cases hs;exact⟨_,rfl,rfl⟩
    ·cases hs;exact⟨_,rfl,rfl⟩
    ·cases hs;exact⟨_,rfl,rfl⟩
    ·cases hs;exact⟨_,rfl,rfl⟩
    ·have hs:some (if a.1.1.picks= [] then SV.sc a.1.2 else .slu (2+(0+i / 6)) 0 a.1.1.picks.length)=some s:=hs
     cases hs
     refine⟨a.1.2,?_,rfl⟩
     by_cases hp:a.1.1.picks= []
     ·rw [if_pos hp]
      rfl
     ·rw [if_neg hp]
      rcases a.2.1 with ⟨b,c,_,h2⟩|⟨_,h2⟩
      ·exact absurd h2 hp
      ·refine h2.conc ?_
       show yf _ pv L (2+(0+i / 6))=_
       unfold yf
       rw [if_neg (by omega),if_neg (by omega),show 2+(0+i / 6)-2=i / 6 by omega,zh hq,←ha]
       rfl
  rw [if_neg e0] at hv
  by_cases e1:id=1
  ·subst e1
   rw [if_pos rfl] at hv
   cases hv
   exact⟨rfl,iY 1 pv,rfl,h1.lies (fun _=>rfl) (by decide) _ _⟩
  rw [if_neg e1] at hv
  cases hL:L[id-2]? with
  | none=>rw [hL] at hv;cases hv
  | some x=>
    rw [hL] at hv
    simp only at hv
    by_cases hp:x.1.1.picks= []
    ·rw [if_pos hp] at hv;cases hv
    ·rw [if_neg hp] at hv
     cases hv
     refine⟨rfl,iY 1 x.1.2,?_,?_⟩
     ·unfold yf
      rw [if_neg e0,if_neg e1,hL]
      rfl
     ·rcases x.2.1 with ⟨b,c,_,h2⟩|⟨_,h2⟩
      ·exact absurd h2 hp
      ·exact h2.lies (fun _=>rfl) (by decide) _ _
 ·unfold yf
  rw [if_neg (by omega),if_neg (by omega),List.getElem?_eq_none (by omega)]
  rfl
theorem sa{A:Type}{w:World}{sz:Nat}{f:A→List Value}{v:Value}{l:List A}(h:ArgRow w sz f v l):l.length≤9223372036854775807:=by
 rcases h with ⟨_,rfl⟩|⟨b,o,len,cap,cs,tt,fz,_,_,h1,h2,h3,_⟩
 ·simp
 ·have:maxLen=9223372036854775807:=rfl
  omega
end Go.Proofs.Ytbmekelkddllkaa
end
