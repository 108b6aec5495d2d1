/-
  Texts of the proof, merged: SyMp Q21 Q22 Q23 Q24 Q25 Q26 Post SyBr Qa Qb.
-/
import Derived.WalkKit
import Derived.ProofKit
import Derived.OpenShut
import Derived.Below
import Derived.ChangeSame
import Derived.Carry
import Derived.ChangeArms
import Derived.Test.YtfkfiafohcoomaaChecked
import Derived.Test.YtfkfiafohcoomaaG6
set_option linter.unusedVariables false
set_option linter.unusedSimpArgs false
section
namespace Go.Sy
open Go Go.Sl Go.RowKit
theorem pureRun_under {P : Program} {t : TypeId} {d : TypeDesc} {A : Type} (f : TypeDesc → Sem A) (h : P.underlying t = some d) : pureRun P (underlying t >>= f) = pureRun P (f d) := by
  show pureRun P ((match P.underlying t with | some d => (pure d : Sem TypeDesc) | none => stuck "no such type").bind f) = _
  rw [h]
  rfl
section
variable {K V : Type} [DecidableEq K]
structure KEnc (P : Program) (kt : TypeId) (enc : K → Value) : Prop where
  find : ∀ (l : List (K × SV × Nat)) (k : K), findK P kt (enc k) (l.map fun x => (enc x.1, x.2)) = some (l.findIdx? fun x => decide (x.1 = k))
  check : ∀ k, pureRun P (Instr.checkKey false 10000 kt (enc k)) = some ()
  bits : ∀ k, Instr.sameBits 10000 (enc k) (enc k) = true
theorem findNow_enc {enc : K → Value} {kd : TypeDesc} (hs : ∀ a b, Instr.sameNow kd (enc a) (enc b) = some (decide (a = b))) (k : K) : ∀ (l : List (K × SV × Nat)) (i : Nat),
    Instr.findNow kd (enc k) (dummies (l.map fun x => (enc x.1, x.2))) i = some ((l.findIdx? fun x => decide (x.1 = k)).map fun j => (i + j, .nilFunc))
  | [], i => rfl
  | x :: l, i => by
    simp only [dummies, List.map_cons, Instr.findNow, hs, List.findIdx?_cons]
    by_cases h : x.1 = k
    · simp [h]
    · have h' : ¬ k = x.1 := fun e => h e.symm
      have ih := findNow_enc hs k l (i + 1)
      simp only [dummies] at ih
      simp only [h, h', decide_false, ih, Option.map_map, Bool.false_eq_true, if_false]
      congr 2
      funext j
      simp only [Function.comp_apply, Prod.mk.injEq, and_true]
      omega
theorem check_plain {P : Program} {kt : TypeId} {kd : TypeDesc} {v : Value} (h : P.underlying kt = some kd) (hk : (match kd with | .interface _ | .array .. | .struct _ => false | _ => true) = true) (e : Bool) (n : Nat) :
    pureRun P (Instr.checkKey e (n + 1) kt v) = some () := by
  unfold Instr.checkKey
  rw [pureRun_under _ h]
  cases kd <;> first | rfl | simp at hk
theorem kenc_of {P : Program} {kt : TypeId} {kd : TypeDesc} {enc : K → Value} (h : P.underlying kt = some kd) (hk : (match kd with | .interface _ | .array .. | .struct _ => false | _ => true) = true) (hs : ∀ a b, Instr.sameNow kd (enc a) (enc b) = some (decide (a = b)))
    (hb : ∀ k, Instr.sameBits 10000 (enc k) (enc k) = true) : KEnc P kt enc := by
  refine ⟨fun l k => ?_, fun k => check_plain h hk _ _, hb⟩
  unfold findK
  rw [check_plain h hk]
  simp only
  unfold Instr.findKey
  rw [pureRun_under _ h]
  simp only [findNow_enc hs]
  cases l.findIdx? fun x => decide (x.1 = k) <;> simp [pure, pureRun]
theorem kenc_i64 {P : Program} {kt : TypeId} (h : P.underlying kt = some (.int .i64)) : KEnc P kt (fun n : Int => .int .i64 n) :=
  kenc_of h rfl (fun a b => by simp only [Instr.sameNow, if_true, Option.some.injEq]; rw [Bool.eq_iff_iff]; simp) (fun k => by simp [Instr.sameBits])
def kget (m : List (K × V × Nat)) (k : K) : Option V := (m.find? fun x => decide (x.1 = k)).map (·.2.1)
def kput : List (K × V × Nat) → K → V → Nat → List (K × V × Nat)
  | [], k, v, c => [(k, v, c)]
  | x :: m, k, v, c => if x.1 = k then (k, v, x.2.2) :: m else x :: kput m k v c
def kclk (m : List (K × V × Nat)) (k : K) (c : Nat) : Nat := match kget m k with
  | some _ => c
  | none => c + 1
def kdel : List (K × V × Nat) → K → List (K × V × Nat)
  | [], _ => []
  | x :: m, k => if x.1 = k then m else x :: kdel m k
abbrev mapL (enc : K → Value) (val : V → SV) (m : List (K × V × Nat)) : List (Value × SV × Nat) := m.map fun x => (enc x.1, val x.2.1, x.2.2)
abbrev mapV (enc : K → Value) (val : V → SV) (m : List (K × V × Nat)) (c : Nat) : VO := .map (mapL enc val m) c
structure KOk (m : List (K × V × Nat)) (c : Nat) : Prop where
  keys : (m.map (·.1)).Nodup
  born : (m.map (·.2.2)).Nodup
  lt : ∀ x ∈ m, x.2.2 < c
omit [DecidableEq K] in
theorem KOk.nil (c : Nat) : KOk ([] : List (K × V × Nat)) c := ⟨by simp, by simp, by simp⟩
theorem kidx (m : List (K × V × Nat)) (k : K) : match m.findIdx? fun x => decide (x.1 = k) with
    | none => kget m k = none ∧ kdel m k = m ∧ ∀ v c, kput m k v c = m ++ [(k, v, c)]
    | some i => ∃ x, m[i]? = some x ∧ x.1 = k ∧ kget m k = some x.2.1 ∧ kdel m k = m.eraseIdx i ∧ ∀ v c, kput m k v c = m.set i (k, v, x.2.2) := by
  induction m with
  | nil => simp [kget, kdel, kput]
  | cons y m ih =>
    rw [List.findIdx?_cons]
    by_cases h : y.1 = k
    · simp [h, kget, kdel, kput]
    · simp only [h, decide_false, Bool.false_eq_true, if_false]
      cases hi : m.findIdx? fun x => decide (x.1 = k) with
      | none =>
        rw [hi] at ih
        obtain ⟨h1, h2, h3⟩ := ih
        refine ⟨?_, ?_, fun v c => ?_⟩
        · simpa [kget, h] using h1
        · simp [kdel, h, h2]
        · simp [kput, h, h3]
      | some i =>
        rw [hi] at ih
        obtain ⟨x, h1, h2, h3, h4, h5⟩ := ih
        refine ⟨x, by simpa using h1, h2, ?_, ?_, fun v c => ?_⟩
        · simpa [kget, h] using h3
        · simp [kdel, h, h4]
        · simp [kput, h, h5]
theorem kget_none {m : List (K × V × Nat)} {k : K} : kget m k = none ↔ k ∉ m.map (·.1) := by
  induction m with
  | nil => simp [kget]
  | cons y m ih =>
    by_cases h : y.1 = k
    · simp [kget, h]
    · have : kget (y :: m) k = kget m k := by simp [kget, h]
      rw [this, ih]
      simp [Ne.symm h]
theorem kput_none {m : List (K × V × Nat)} {k : K} (h : kget m k = none) (v : V) (c : Nat) : kput m k v c = m ++ [(k, v, c)] := by
  have hk := kidx m k
  cases hi : m.findIdx? fun x => decide (x.1 = k) with
  | none => rw [hi] at hk; exact hk.2.2 v c
  | some i => rw [hi] at hk; obtain ⟨x, _, _, h3, _⟩ := hk; rw [h] at h3; cases h3
theorem kclk_none {m : List (K × V × Nat)} {k : K} (h : kget m k = none) (c : Nat) : kclk m k c = c + 1 := by unfold kclk; rw [h]
theorem kclk_some {m : List (K × V × Nat)} {k : K} {v : V} (h : kget m k = some v) (c : Nat) : kclk m k c = c := by unfold kclk; rw [h]
theorem kput_some {m : List (K × V × Nat)} {k : K} {w : V} (h : kget m k = some w) : ∃ A B s, m = A ++ (k, w, s) :: B ∧ ∀ v c, kput m k v c = A ++ (k, v, s) :: B := by
  induction m with
  | nil => simp [kget] at h
  | cons y m ih =>
    by_cases hy : y.1 = k
    · refine ⟨[], m, y.2.2, ?_, fun v c => by simp [kput, hy]⟩
      simp [kget, hy] at h
      obtain ⟨y1, y2, y3⟩ := y
      simp at hy h
      simp [hy, h]
    · have h' : kget m k = some w := by simpa [kget, hy] using h
      obtain ⟨A, B, s, h1, h2⟩ := ih h'
      exact ⟨y :: A, B, s, by rw [h1]; rfl, fun v c => by simp [kput, hy, h2]⟩
theorem KOk.put {m : List (K × V × Nat)} {c : Nat} (h : KOk m c) (k : K) (v : V) : KOk (kput m k v c) (kclk m k c) := by
  have hk := kidx m k
  cases hi : m.findIdx? fun x => decide (x.1 = k) with
  | none =>
    rw [hi] at hk
    obtain ⟨h1, _, h3⟩ := hk
    rw [h3, show kclk m k c = c + 1 by simp [kclk, h1]]
    refine ⟨?_, ?_, ?_⟩
    · rw [List.map_append, List.nodup_append]
      exact ⟨h.keys, by simp, fun a ha b hb => by simp at hb; subst hb; intro e; subst e; exact kget_none.1 h1 ha⟩
    · rw [List.map_append, List.nodup_append]
      refine ⟨h.born, by simp, fun a ha b hb => ?_⟩
      simp at hb
      subst hb
      obtain ⟨x, hx, rfl⟩ := List.mem_map.1 ha
      have := h.lt x hx
      omega
    · intro x hx
      rcases List.mem_append.1 hx with hx | hx
      · have := h.lt x hx; omega
      · simp at hx; subst hx; show c < c + 1; omega
  | some i =>
    rw [hi] at hk
    obtain ⟨x, h1, h2, h3, _, h5⟩ := hk
    rw [h5, show kclk m k c = c by simp [kclk, h3]]
    obtain ⟨hlt, rfl⟩ := List.getElem?_eq_some_iff.1 h1
    refine ⟨?_, ?_, ?_⟩
    · rw [List.map_set]
      rw [show (m.map (·.1)).set i k = m.map (·.1) by rw [← h2]; apply List.ext_getElem?; intro j; rw [List.getElem?_set]; by_cases hj : i = j
                                                      · subst hj; simp [hlt]
                                                      · simp [hj]]
      exact h.keys
    · rw [List.map_set]
      rw [show (m.map (·.2.2)).set i m[i].2.2 = m.map (·.2.2) by apply List.ext_getElem?; intro j; rw [List.getElem?_set]; by_cases hj : i = j
                                                                 · subst hj; simp [hlt]
                                                                 · simp [hj]]
      exact h.born
    · intro y hy
      rcases List.mem_or_eq_of_mem_set hy with hy | rfl
      · exact h.lt y hy
      · exact h.lt m[i] (List.getElem_mem hlt)
omit [DecidableEq K] in
theorem KOk.sub {m m' : List (K × V × Nat)} {c : Nat} (h : KOk m c) (hs : m'.Sublist m) : KOk m' c := ⟨h.keys.sublist (hs.map _), h.born.sublist (hs.map _), fun x hx => h.lt x (hs.subset hx)⟩
theorem kdel_sub (m : List (K × V × Nat)) (k : K) : (kdel m k).Sublist m := by
  induction m with
  | nil => exact List.Sublist.refl _
  | cons y m ih =>
    unfold kdel
    split
    · exact List.sublist_cons_self _ _
    · exact ih.cons_cons _
theorem KOk.del {m : List (K × V × Nat)} {c : Nat} (h : KOk m c) (k : K) : KOk (kdel m k) c := h.sub (kdel_sub m k)
omit [DecidableEq K] in
theorem KOk.eq {m : List (K × V × Nat)} {c : Nat} (h : KOk m c) {x y : K × V × Nat} (hx : x ∈ m) (hy : y ∈ m) (hb : x.2.2 = y.2.2) : x = y := by
  obtain ⟨i, hi⟩ := List.getElem?_of_mem hx
  obtain ⟨j, hj⟩ := List.getElem?_of_mem hy
  obtain ⟨hi', rfl⟩ := List.getElem?_eq_some_iff.1 hi
  obtain ⟨hj', rfl⟩ := List.getElem?_eq_some_iff.1 hj
  have : i = j := by
    refine (List.getElem_inj (h₀ := by simpa using hi') (h₁ := by simpa using hj') h.born).1 ?_
    simpa using hb
  subst this
  rfl
omit [DecidableEq K] in
theorem KOk.nodup {m : List (K × V × Nat)} {c : Nat} (h : KOk m c) : m.Nodup := by
  have := h.born
  exact List.Pairwise.of_map (·.2.2) (fun a b hab e => hab (by rw [e])) this
abbrev itV (b c : Nat) (done : List (K × V × Nat)) : VO := .iter (some b) c (done.map (·.2.2)) c
variable {P : Program} {T : Tr SV} {H : Heap} {nx : Nat} {d : Option Tmp} {ty : TypeId} {pos : String} {af : Array Edge} {gd : Option (Nat × Bool)}
theorem findK_map {kt : TypeId} {enc : K → Value} {val : V → SV} (hE : KEnc P kt enc) (m : List (K × V × Nat)) (k : K) : findK P kt (enc k) (mapL enc val m) = some (m.findIdx? fun x => decide (x.1 = k)) := by
  have := hE.find (m.map fun x => (x.1, val x.2.1, x.2.2)) k
  rw [List.map_map] at this
  rw [show mapL enc val m = m.map ((fun x : K × SV × Nat => (enc x.1, x.2)) ∘ fun x : K × V × Nat => (x.1, val x.2.1, x.2.2)) from rfl, this]
  congr 1
  rw [List.findIdx?_map]
  rfl
theorem rd_look {enc : K → Value} {val : V → SV} {m : List (K × V × Nat)} {c : Nat} {t kt e : TypeId} {x y : Operand} {b : Nat} {kk : K} {v : V} {ok : Bool} (hx : evalS T x = some (.mp b)) (hy : evalS T y = some (.sc (enc kk))) (hu : P.underlying t = some (.map kt e)) (hE : KEnc P kt enc)
    (hb : H.at' b = some (mapV enc val m c)) (hg : kget m kk = some v) : ReadDoes P T H ⟨d, .lookup t x y ok, ty, pos, af, gd⟩ (bif ok then .tup [val v, .sc (.bool true)] else val v) := by
  refine rd_of ?_
  have hk := kidx m kk
  unfold readOp
  simp only [litS, hy, SV.lit, Option.bind_some, hx, lookupS, hu, hb, findK_map hE]
  cases hi : m.findIdx? fun x => decide (x.1 = kk) with
  | none => rw [hi] at hk; rw [hk.1] at hg; cases hg
  | some i =>
    rw [hi] at hk
    obtain ⟨z, h1, _, h3, _⟩ := hk
    rw [hg] at h3
    simp only [Option.some.injEq] at h3
    subst h3
    simp only [List.getElem?_map, h1, Option.map_some]
theorem rd_lookZ {enc : K → Value} {val : V → SV} {m : List (K × V × Nat)} {c : Nat} {t kt e : TypeId} {x y : Operand} {b : Nat} {kk : K} {z : Value} {ok : Bool} (hx : evalS T x = some (.mp b)) (hy : evalS T y = some (.sc (enc kk))) (hu : P.underlying t = some (.map kt e)) (hE : KEnc P kt enc)
    (hb : H.at' b = some (mapV enc val m c)) (hg : kget m kk = none) (hz : zeroT P e = some z) : ReadDoes P T H ⟨d, .lookup t x y ok, ty, pos, af, gd⟩ (bif ok then .tup [.sc z, .sc (.bool false)] else .sc z) := by
  refine rd_of ?_
  have hk := kidx m kk
  unfold readOp
  simp only [litS, hy, SV.lit, Option.bind_some, hx, lookupS, hu, hb, findK_map hE]
  cases hi : m.findIdx? fun x => decide (x.1 = kk) with
  | none => simp only [hz]
  | some i =>
    rw [hi] at hk
    obtain ⟨z, h1, _, h3, _⟩ := hk
    rw [hg] at h3
    cases h3
theorem op_mapUp {enc : K → Value} {val : V → SV} {m : List (K × V × Nat)} {c : Nat} {t kt e : TypeId} {x y w : Operand} {b : Nat} {kk : K} {v : V} (hx : evalS T x = some (.mp b)) (hy : evalS T y = some (.sc (enc kk))) (hu : P.underlying t = some (.map kt e)) (hE : KEnc P kt enc)
    (hb : H.at' b = some (mapV enc val m c)) (hw : evalS T w = some (val v)) : OpDoes P T H nx ⟨d, .mapUpdate t x y w, ty, pos, af, gd⟩ (.skip, H.set b (mapV enc val (kput m kk v c) (kclk m kk c)), nx) := by
  refine ed_of ?_
  have hk := kidx m kk
  unfold effOp
  simp only [litS, hy, SV.lit, Option.bind_some, hx, hw, mapUpS, hu, hb, putK, hE.check, findK_map hE]
  cases hi : m.findIdx? fun x => decide (x.1 = kk) with
  | none =>
    rw [hi] at hk
    obtain ⟨h1, _, h3⟩ := hk
    simp only [mapV, mapL, h3, kclk, h1, List.map_append, List.map_cons, List.map_nil]
  | some i =>
    rw [hi] at hk
    obtain ⟨z, h1, h2, h3, _, h5⟩ := hk
    simp only [mapV, mapL, h5, kclk, h3, List.getElem?_map, h1, Option.map_some, h2, hE.bits, cond_true, List.map_set]
omit [DecidableEq K] in
theorem op_range {enc : K → Value} {val : V → SV} {m : List (K × V × Nat)} {c : Nat} {t kt e : TypeId} {x : Operand} {b : Nat} (hx : evalS T x = some (.mp b)) (hu : P.underlying t = some (.map kt e)) (hb : H.at' b = some (mapV enc val m c)) :
    OpDoes P T H nx ⟨d, .range t x, ty, pos, af, gd⟩ (.val (.ptr nx 0), H.set nx (itV b c ([] : List (K × V × Nat))), nx + 1) := by
  refine ed_of ?_
  unfold effOp
  simp only [hx, Option.bind_some, rangeS, hu, hb]
  rfl
omit [DecidableEq K] in
theorem rd_entry {enc : K → Value} {val : V → SV} {m : List (K × V × Nat)} {c : Nat} {it : Operand} {b r : Nat} {done : List (K × V × Nat)} {x : K × V × Nat} (hx : evalS T it = some (.ptr r 0)) (hr : H.at' r = some (itV b c (done ++ [x]))) (hb : H.at' b = some (mapV enc val m c)) (hok : KOk m c) (hm : x ∈ m) :
    ReadDoes P T H ⟨d, .entry it, ty, pos, af, gd⟩ (.tup [.sc (enc x.1), val x.2.1]) := by
  refine rd_of ?_
  unfold readOp
  simp only [hx, Option.bind_some, entryS, hr, List.map_append, List.map_cons, List.map_nil, List.getLast?_append, List.getLast?_singleton, Option.some_or, hb, Nat.beq_refl, cond_true]
  have hf : (mapL enc val m).find? (fun y => Nat.beq y.2.2 x.2.2) = some (enc x.1, val x.2.1, x.2.2) := by
    have : m.find? (fun y => Nat.beq y.2.2 x.2.2) = some x := by
      cases hh : m.find? (fun y => Nat.beq y.2.2 x.2.2) with
      | none => exact absurd (List.find?_eq_none.1 hh x hm) (by simp)
      | some y =>
        have h1 := List.find?_some hh
        exact congrArg some (hok.eq (List.mem_of_find?_eq_some hh) hm (Nat.eq_of_beq_eq_true h1))
    rw [mapL, List.find?_map, show ((fun y : Value × SV × Nat => Nat.beq y.2.2 x.2.2) ∘ fun x : K × V × Nat => (enc x.1, val x.2.1, x.2.2)) = fun y : K × V × Nat => Nat.beq y.2.2 x.2.2 from rfl, this]
    rfl
  rw [hf]
end
section
variable {P : Program} {T : Tr SV} {H : Heap} {nx : Nat} {d : Option Tmp} {ty : TypeId} {pos : String} {af : Array Edge} {gd : Option (Nat × Bool)}
theorem rd_eqNil {t yt : TypeId} {x y : Operand} {s : SV} {v : Value} {d0 : TypeDesc} (hx : evalS T x = some s) (hy : evalS T y = some (.sc v)) (hu : P.underlying t = some d0) (hn : isNilS s v d0 = true) : ReadDoes P T H ⟨d, .binOp .eql t x y yt, ty, pos, af, gd⟩ (.sc (.bool false)) := by
  refine rd_of ?_
  unfold readOp
  simp only [hx, hy, Option.bind_some, nilTest, hu, hn, cond_true]
theorem rd_extractV {x : Operand} {i : Nat} {xs : Array Value} {v : Value} (h : evalS T x = some (.sc (.tuple xs))) (hi : xs[i]? = some v) : ReadDoes P T H ⟨d, .extract x i, ty, pos, af, gd⟩ (.sc v) := by
  refine rd_of ?_
  unfold readOp
  simp only [h, Option.bind_some, nthS, hi, Option.map_some]
theorem op_makeMap {t : TypeId} : OpDoes P T H nx ⟨d, .makeMap t none, ty, pos, af, gd⟩ (.val (.mp nx), H.set nx (.map [] 0), nx + 1) := ed_of rfl
end
abbrev arrC {A : Type} (t : TypeId) (f : A → List Value) (d : Array A) : VO := newCells t ((d.toList.flatMap f).map .sc)
section
variable {P : Program} {T : Tr SV} {H : Heap} {nx : Nat} {d0 : Option Tmp} {ty : TypeId} {pos : String} {af : Array Edge} {gd : Option (Nat × Bool)}
theorem rd_idxA {t e : TypeId} {x y : Operand} {b o n sz : Nat} {k : IntKind} {j : Int} {q : Nat} (hx : evalS T x = some (.ptr b o)) (hy : evalS T y = some (.sc (.int k j))) (hu : P.underlying t = some (.array n e)) (hs : sizeT P e = some sz) (hq : j = (q : Int)) (hi : q < n) :
    ReadDoes P T H ⟨d0, .indexAddr t x y, ty, pos, af, gd⟩ (.ptr b (o + q * sz)) := by
  refine rd_of ?_
  subst hq
  unfold readOp
  simp only [natS, hx, hy, Option.bind_some]
  show (indexAddrS P H t q (.ptr b o)) = _
  simp only [indexAddrS, hu, hs]
  rw [show Nat.blt q n = true from Nat.ble_eq_true_of_le hi]
  rfl
theorem rd_ldA {A : Type} [Inhabited A] {f : A → List Value} {t rt : TypeId} {x : Operand} {b sz o q : Nat} {d : Array A} (hx : evalS T x = some (.ptr b o)) (ha : aggSize P t = some (some sz)) (hf : RecOf f sz) (hb : H.at' b = some (arrC rt f d)) (ho : o = q * sz) (hi : q < d.size) :
    ReadDoes P T H ⟨d0, .load t x, ty, pos, af, gd⟩ (.agg ((f d[q]!).map .sc)) := by
  subst ho
  refine rd_loadN ha hx hb (cellsFrom_box sz (q * sz) ?_ ?_)
  · rw [← List.map_drop, ← List.map_take, flat_one hf.len (arr_get hi)]
  · rw [List.length_map, hf.len]
theorem op_stA {A : Type} [Inhabited A] {f : A → List Value} {t rt : TypeId} {a x : Operand} {b sz o q : Nat} {d : Array A} {v : A} {u : SV} (ha : evalS T a = some (.ptr b o)) (hx : evalS T x = some u) (hu : u.cells = (f v).map .sc) (hs : sizeT P t = some sz) (hf : RecOf f sz) (hb : H.at' b = some (arrC rt f d)) (ho : o = q * sz) (hi : q < d.size) :
    OpDoes P T H nx ⟨d0, .store t a x, ty, pos, af, gd⟩ (.skip, H.set b (arrC rt f (d.setIfInBounds q v)), nx) := by
  subst ho
  have hsz : d.toList.length = d.size := rfl
  have hlen : (d.toList.flatMap f).length = d.size * sz := by rw [flat_len hf.len, hsz]
  have hfit := arr_fit (sz := sz) hi (Nat.le_refl _)
  have h := op_store (d := d0) (ty := ty) (pos := pos) (af := af) (gd := gd) (nx := nx) hs ha hx hu hb (by rw [List.length_map, hf.len]) (by rw [List.length_map, hlen]; exact hfit) (allOne_sc (hf.one v))
  have e := flat_set hf.len (xs := d.toList) (i := q) (by rw [hsz]; exact hi) v
  rw [← List.map_take, ← List.map_drop, ← List.map_append, ← List.map_append, e] at h
  unfold arrC
  rw [Array.toList_setIfInBounds]
  exact h
end
section
variable {P : Program} {T : Tr SV} {H : Heap} {nx : Nat} {d : Option Tmp} {ty : TypeId} {pos : String} {af : Array Edge} {gd : Option (Nat × Bool)}
theorem rdv_row {b m sz : Nat} {ro : Bool} {t : TypeId} {l : List SV} {vs : List Value} (hb : H.at' b = some (.row ro m sz t (listC l))) (hl : l = vs.map .sc) (hlen : vs.length = m * sz) : RdV P H sz (.slu b 0 m) m vs := by
  subst hl
  rw [dat_list] at hb
  exact rdv_dat hb (by omega) (by rw [Nat.zero_mul, List.drop_zero]; exact List.take_of_length_le (by omega)) hlen
theorem op_push {A : Type} {f : A → List Value} {xs : List A} {a : A} {t tx el : TypeId} {sz b r q : Nat} {s x : Operand} {rq : Bool} {tq : TypeId} {cs : List SV} (hx0 : evalS T s = some (.slu r 0 xs.length)) (hx : evalS T x = some (.slu q 0 1)) (hu : P.underlying t = some (.slice el))
    (hk : (∃ e', P.underlying tx = some (.slice e')) ∨ P.underlying tx = some .string) (hs : sizeT P el = some sz) (h0 : Nat.blt 0 sz = true) (hz : zeroIs P el sz = true) (hb : (P.info? el).map (·.bytes) = some b) (hro : H.at' r = some (dat false xs.length sz el (xs.flatMap f)))
    (hq : H.at' q = some (.row rq 1 sz tq (listC cs))) (hcs : cs = (f a).map .sc) (hf : RecOf f sz) (hm1 : (xs.length + 1) * b ≤ 140737488355328) (hm2 : xs.length + 1 ≤ 1000000000) :
    OpDoes P T H nx ⟨d, .call { callee := .builtin .append, args := #[s, x], argTypes := #[t, tx] }, ty, pos, af, gd⟩ (.val (.slu nx 0 (xs ++ [a]).length), (H.del r).set nx (dat false (xs ++ [a]).length sz el ((xs ++ [a]).flatMap f)), nx + 1) := by
  have h := op_append (P := P) (T := T) (H := H) (nx := nx) (d := d) (ty := ty) (pos := pos) (af := af) (gd := gd) (eo := 0) (n := xs.length) (m := 1) (vs := f a) (ws := xs.flatMap f) hu hk hs (lt_of_blt h0) hz hb hx0 hx (by rw [Nat.zero_add]; exact hro)
    (by rw [Nat.zero_mul, List.drop_zero]; exact List.take_of_length_le (by rw [flat_len hf.len]; omega)) (flat_len hf.len xs) (rdv_row hq hcs (by rw [hf.len]; omega)) (hf.one a) (by decide) hm1 hm2
  rw [show (xs ++ [a]).length = xs.length + 1 by simp, show (xs ++ [a]).flatMap f = xs.flatMap f ++ f a by simp]
  exact h
end
section
variable {P : Program} {T : Tr SV} {H : Heap} {nx : Nat} {d0 : Option Tmp} {ty : TypeId} {pos : String} {af : Array Edge} {gd : Option (Nat × Bool)}
theorem rd_ldFN {A : Type} [Inhabited A] {f : A → List Value} {t rt : TypeId} {x : Operand} {b o n ne sz : Nat} {ro : Bool} {d : Array A} {q j : Nat} {us : List Value} (ha : aggSize P t = some (some n)) (hx : evalS T x = some (.ptr b o)) (ho : o = q * sz + j) (hf : RecOf f sz) (hb : H.at' b = some (arr ro ne sz rt f d))
    (hi : q < d.size) (hne : d.size ≤ ne) (hus : ((f d[q]!).drop j).take n = us) (hl : us.length = n) (hj : j + n ≤ sz) : ReadDoes P T H ⟨d0, .load t x, ty, pos, af, gd⟩ (.agg (us.map .sc)) := by
  subst ho
  have hfit := arr_fit (sz := sz) hi hne
  refine rd_loadN ha hx hb (cellsFrom_dat n (q * sz + j) ?_ hl (by omega))
  have h1 := flat_one hf.len (arr_get hi)
  rw [← hus, ← h1, List.drop_take, List.take_take, List.drop_drop, Nat.min_eq_left (by omega)]
theorem rd_ldF {A : Type} [Inhabited A] {f : A → List Value} {t rt : TypeId} {x : Operand} {b o ne sz : Nat} {ro : Bool} {d : Array A} {q j : Nat} {v : Value} (ha : aggSize P t = some none) (hx : evalS T x = some (.ptr b o)) (ho : o = q * sz + j) (hf : RecOf f sz) (hb : H.at' b = some (arr ro ne sz rt f d))
    (hi : q < d.size) (hne : d.size ≤ ne) (hv : (f d[q]!)[j]? = some v) : ReadDoes P T H ⟨d0, .load t x, ty, pos, af, gd⟩ (.sc v) := by
  subst ho
  have hfit := arr_fit (sz := sz) hi hne
  have hj : j < sz := by have := (List.getElem?_eq_some_iff.1 hv).1; rwa [hf.len] at this
  refine rd_load1 ha hx hb (cell_dat (by omega) ?_)
  rw [flat_cell hf.len (arr_get hi) hj]
  exact hv
end
section
variable {P : Program} {ro : Option Nat} {fn nt nx : Nat} {T : Tr SV} {k : List AIt} {dfs : List ADf} {H : Heap} {Q : Pst} {ops : Array Oper} {i : Nat} {l : List Oper} {d : Option Tmp} {ty : TypeId} {pos : String} {af : Array Edge} {gd : Option (Nat × Bool)}
theorem w_makeMap {t : TypeId} {dd : Nat} (hw : wantedS T ops ⟨some dd, .makeMap t none, ty, pos, af, gd⟩ = some true) (hd : Nat.blt dd nt = true) 
    (h : Wp P ro ⟨fn, nt, T.set dd (.mp nx), .inReg ops (i + 1) l :: k, dfs, (H.set nx (.map [] 0)), (nx + 1)⟩ Q) : Wp P ro ⟨fn, nt, T, .inReg ops i (⟨some dd, .makeMap t none, ty, pos, af, gd⟩ :: l) :: k, dfs, H, nx⟩ Q :=
  y_val hw (.inr (fun _ h => by cases h)) (op_makeMap) (by rw [putS_some hd]; exact h)
theorem w_lookT {K V : Type} [DecidableEq K] {enc : K → Value} {val : V → SV} {m : List (K × V × Nat)} {c : Nat} {t kt e : TypeId} {x y : Operand} {b : Nat} {kk : K} {v : V} {dd : Nat} (hw : wantedS T ops ⟨some dd, .lookup t x y true, ty, pos, af, gd⟩ = some true) (hd : Nat.blt dd nt = true) (hx : evalS T x = some (.mp b)) (hy : evalS T y = some (.sc (enc kk))) (hu : P.underlying t = some (.map kt e)) (hE : KEnc P kt enc) (hb : H.at' b = some (mapV enc val m c)) (hg : kget m kk = some v)
    (h : Wp P ro ⟨fn, nt, T.set dd (.tup [val v, .sc (.bool true)]), .inReg ops (i + 1) l :: k, dfs, H, nx⟩ Q) : Wp P ro ⟨fn, nt, T, .inReg ops i (⟨some dd, .lookup t x y true, ty, pos, af, gd⟩ :: l) :: k, dfs, H, nx⟩ Q :=
  y_val hw (.inr (fun _ h => by cases h)) ((rd_look (ok := true) hx hy hu hE hb hg).does) (by rw [putS_some hd]; exact h)
theorem w_lookF {K V : Type} [DecidableEq K] {enc : K → Value} {val : V → SV} {m : List (K × V × Nat)} {c : Nat} {t kt e : TypeId} {x y : Operand} {b : Nat} {kk : K} {z : Value} {dd : Nat} (hw : wantedS T ops ⟨some dd, .lookup t x y true, ty, pos, af, gd⟩ = some true) (hd : Nat.blt dd nt = true) (hx : evalS T x = some (.mp b)) (hy : evalS T y = some (.sc (enc kk))) (hu : P.underlying t = some (.map kt e)) (hE : KEnc P kt enc) (hb : H.at' b = some (mapV enc val m c)) (hg : kget m kk = none) (hz : zeroT P e = some z)
    (h : Wp P ro ⟨fn, nt, T.set dd (.tup [.sc z, .sc (.bool false)]), .inReg ops (i + 1) l :: k, dfs, H, nx⟩ Q) : Wp P ro ⟨fn, nt, T, .inReg ops i (⟨some dd, .lookup t x y true, ty, pos, af, gd⟩ :: l) :: k, dfs, H, nx⟩ Q :=
  y_val hw (.inr (fun _ h => by cases h)) ((rd_lookZ (ok := true) hx hy hu hE hb hg hz).does) (by rw [putS_some hd]; exact h)
theorem w_mapUp {K V : Type} [DecidableEq K] {enc : K → Value} {val : V → SV} {m : List (K × V × Nat)} {c : Nat} {t kt e : TypeId} {x y : Operand} {b : Nat} {kk : K} {w : Operand} {v : V}  (hw : wantedS T ops ⟨none, .mapUpdate t x y w, ty, pos, af, gd⟩ = some true)  (hx : evalS T x = some (.mp b)) (hy : evalS T y = some (.sc (enc kk))) (hu : P.underlying t = some (.map kt e)) (hE : KEnc P kt enc) (hb : H.at' b = some (mapV enc val m c)) (hw2 : evalS T w = some (val v))
    (h : Wp P ro ⟨fn, nt, T, .inReg ops (i + 1) l :: k, dfs, (H.set b (mapV enc val (kput m kk v c) (kclk m kk c))), nx⟩ Q) : Wp P ro ⟨fn, nt, T, .inReg ops i (⟨none, .mapUpdate t x y w, ty, pos, af, gd⟩ :: l) :: k, dfs, H, nx⟩ Q :=
  y_none hw (.inr (fun _ h => by cases h)) (op_mapUp hx hy hu hE hb hw2) h
theorem w_range {K V : Type} [DecidableEq K] {enc : K → Value} {val : V → SV} {m : List (K × V × Nat)} {c : Nat} {t kt e : TypeId} {x : Operand} {b : Nat} {dd : Nat} (hw : wantedS T ops ⟨some dd, .range t x, ty, pos, af, gd⟩ = some true) (hd : Nat.blt dd nt = true) (hx : evalS T x = some (.mp b)) (hu : P.underlying t = some (.map kt e)) (hb : H.at' b = some (mapV enc val m c))
    (h : Wp P ro ⟨fn, nt, T.set dd (.ptr nx 0), .inReg ops (i + 1) l :: k, dfs, (H.set nx (itV b c ([] : List (K × V × Nat)))), (nx + 1)⟩ Q) : Wp P ro ⟨fn, nt, T, .inReg ops i (⟨some dd, .range t x, ty, pos, af, gd⟩ :: l) :: k, dfs, H, nx⟩ Q :=
  y_val hw (.inr (fun _ h => by cases h)) (op_range hx hu hb) (by rw [putS_some hd]; exact h)
theorem w_entry {K V : Type} [DecidableEq K] {enc : K → Value} {val : V → SV} {m : List (K × V × Nat)} {c : Nat} {it : Operand} {b r : Nat} {done : List (K × V × Nat)} {x : K × V × Nat} {dd : Nat} (hw : wantedS T ops ⟨some dd, .entry it, ty, pos, af, gd⟩ = some true) (hd : Nat.blt dd nt = true) (hx : evalS T it = some (.ptr r 0)) (hr : H.at' r = some (itV b c (done ++ [x]))) (hb : H.at' b = some (mapV enc val m c)) (hok : KOk m c) (hm : x ∈ m)
    (h : Wp P ro ⟨fn, nt, T.set dd (.tup [.sc (enc x.1), val x.2.1]), .inReg ops (i + 1) l :: k, dfs, H, nx⟩ Q) : Wp P ro ⟨fn, nt, T, .inReg ops i (⟨some dd, .entry it, ty, pos, af, gd⟩ :: l) :: k, dfs, H, nx⟩ Q :=
  y_val hw (.inr (fun _ h => by cases h)) ((rd_entry hx hr hb hok hm).does) (by rw [putS_some hd]; exact h)
theorem w_eqNil {t yt : TypeId} {x y : Operand} {s : SV} {v : Value} {d0 : TypeDesc} {dd : Nat} (hw : wantedS T ops ⟨some dd, .binOp .eql t x y yt, ty, pos, af, gd⟩ = some true) (hd : Nat.blt dd nt = true) (hx : evalS T x = some s) (hy : evalS T y = some (.sc v)) (hu : P.underlying t = some d0) (hn : isNilS s v d0 = true)
    (h : Wp P ro ⟨fn, nt, T.set dd (.sc (.bool false)), .inReg ops (i + 1) l :: k, dfs, H, nx⟩ Q) : Wp P ro ⟨fn, nt, T, .inReg ops i (⟨some dd, .binOp .eql t x y yt, ty, pos, af, gd⟩ :: l) :: k, dfs, H, nx⟩ Q :=
  y_val hw (.inr (fun _ h => by cases h)) ((rd_eqNil hx hy hu hn).does) (by rw [putS_some hd]; exact h)
theorem w_extractV {x : Operand} {j : Nat} {xs : Array Value} {v : Value} {dd : Nat} (hw : wantedS T ops ⟨some dd, .extract x j, ty, pos, af, gd⟩ = some true) (hd : Nat.blt dd nt = true) (hx : evalS T x = some (.sc (.tuple xs))) (hj : xs[j]? = some v)
    (h : Wp P ro ⟨fn, nt, T.set dd (.sc v), .inReg ops (i + 1) l :: k, dfs, H, nx⟩ Q) : Wp P ro ⟨fn, nt, T, .inReg ops i (⟨some dd, .extract x j, ty, pos, af, gd⟩ :: l) :: k, dfs, H, nx⟩ Q :=
  y_val hw (.inr (fun _ h => by cases h)) ((rd_extractV hx hj).does) (by rw [putS_some hd]; exact h)
theorem w_idxA {t e : TypeId} {x y : Operand} {b o n sz : Nat} {kd : IntKind} {j : Int} {q : Nat} {dd : Nat} (hw : wantedS T ops ⟨some dd, .indexAddr t x y, ty, pos, af, gd⟩ = some true) (hd : Nat.blt dd nt = true) (hx : evalS T x = some (.ptr b o)) (hy : evalS T y = some (.sc (.int kd j))) (hu : P.underlying t = some (.array n e)) (hs : sizeT P e = some sz) (hq : j = (q : Int)) (hi : q < n)
    (h : Wp P ro ⟨fn, nt, T.set dd (.ptr b (o + q * sz)), .inReg ops (i + 1) l :: k, dfs, H, nx⟩ Q) : Wp P ro ⟨fn, nt, T, .inReg ops i (⟨some dd, .indexAddr t x y, ty, pos, af, gd⟩ :: l) :: k, dfs, H, nx⟩ Q :=
  y_val hw (.inr (fun _ h => by cases h)) ((rd_idxA hx hy hu hs hq hi).does) (by rw [putS_some hd]; exact h)
theorem w_stA {A : Type} [Inhabited A] {f : A → List Value} {t rt : TypeId} {a x : Operand} {b sz o : Nat} {d : Array A} {v : A} {u : SV} (q : Nat)  (hw : wantedS T ops ⟨none, .store t a x, ty, pos, af, gd⟩ = some true)  (hx : evalS T a = some (.ptr b o)) (hv : evalS T x = some u) (hu : u.cells = (f v).map .sc) (hs : sizeT P t = some sz) (hf : RecOf f sz) (hb : H.at' b = some (arrC rt f d)) (ho : o = q * sz) (hi : q < d.size)
    (h : Wp P ro ⟨fn, nt, T, .inReg ops (i + 1) l :: k, dfs, (H.set b (arrC rt f (d.setIfInBounds q v))), nx⟩ Q) : Wp P ro ⟨fn, nt, T, .inReg ops i (⟨none, .store t a x, ty, pos, af, gd⟩ :: l) :: k, dfs, H, nx⟩ Q :=
  y_none hw (.inr (fun _ h => by cases h)) (op_stA (q := q) hx hv hu hs hf hb ho hi) h
theorem w_storeC {t bt : TypeId} {a x : Operand} {b o n : Nat} {cs vs : List SV} {v : SV}  (hw : wantedS T ops ⟨none, .store t a x, ty, pos, af, gd⟩ = some true)  (ha : evalS T a = some (.ptr b o)) (hx : evalS T x = some v) (hv : v.cells = vs) (hs : sizeT P t = some n) (hb : H.at' b = some (newCells bt cs)) (hn : vs.length = n) (ho : o + n ≤ cs.length) (h1 : allOne vs = true)
    (h : Wp P ro ⟨fn, nt, T, .inReg ops (i + 1) l :: k, dfs, (H.set b (newCells bt (cs.take o ++ vs ++ cs.drop (o + n)))), nx⟩ Q) : Wp P ro ⟨fn, nt, T, .inReg ops i (⟨none, .store t a x, ty, pos, af, gd⟩ :: l) :: k, dfs, H, nx⟩ Q :=
  y_none hw (.inr (fun _ h => by cases h)) (op_store hs ha hx hv hb hn ho h1) h
theorem w_push {A : Type} {f : A → List Value} {xs : List A} {a : A} {t tx el : TypeId} {sz b r q : Nat} {s x : Operand} {rq : Bool} {tq : TypeId} {cs : List SV} {dd : Nat} (hw : wantedS T ops ⟨some dd, .call { callee := .builtin .append, args := #[s, x], argTypes := #[t, tx] }, ty, pos, af, gd⟩ = some true) (hd : Nat.blt dd nt = true) (hx0 : evalS T s = some (.slu r 0 xs.length)) (hx : evalS T x = some (.slu q 0 1)) (hu : P.underlying t = some (.slice el)) (hk : (∃ e', P.underlying tx = some (.slice e')) ∨ P.underlying tx = some .string) (hs : sizeT P el = some sz) (h0 : Nat.blt 0 sz = true) (hz : zeroIs P el sz = true) (hb : (P.info? el).map (·.bytes) = some b) (hro : H.at' r = some (dat false xs.length sz el (xs.flatMap f))) (hq : H.at' q = some (.row rq 1 sz tq (listC cs))) (hcs : cs = (f a).map .sc) (hf : RecOf f sz) (hm1 : (xs.length + 1) * b ≤ 140737488355328) (hm2 : xs.length + 1 ≤ 1000000000)
    (h : Wp P ro ⟨fn, nt, T.set dd (.slu nx 0 (xs ++ [a]).length), .inReg ops (i + 1) l :: k, dfs, ((H.del r).set nx (dat false (xs ++ [a]).length sz el ((xs ++ [a]).flatMap f))), (nx + 1)⟩ Q) : Wp P ro ⟨fn, nt, T, .inReg ops i (⟨some dd, .call { callee := .builtin .append, args := #[s, x], argTypes := #[t, tx] }, ty, pos, af, gd⟩ :: l) :: k, dfs, H, nx⟩ Q :=
  y_val hw (.inr (fun _ h => by cases h)) (op_push hx0 hx hu hk hs h0 hz hb hro hq hcs hf hm1 hm2) (by rw [putS_some hd]; exact h)
end
section
variable {P : Program} {nt nx : Nat} {T : Tr SV} {H : Heap} {ops : Array Oper} {i : Nat} {l : List Oper} {ty : TypeId} {pos : String} {af : Array Edge} {gd : Option (Nat × Bool)} {K : DS → Prop} {rs : List Rec} {Hs : List (Heap × Nat)} {stg : Nat}
theorem dw_mapUp {K0 V : Type} [DecidableEq K0] {enc : K0 → Value} {val : V → SV} {m : List (K0 × V × Nat)} {c : Nat} {t kt e : TypeId} {x y : Operand} {b : Nat} {kk : K0} {w : Operand} {v : V}  (hw : wantedS (onlyT T (needs ops.toList ⟨none, .mapUpdate t x y w, ty, pos, af, gd⟩)) ops ⟨none, .mapUpdate t x y w, ty, pos, af, gd⟩ = some true) (hx : evalS (onlyT T (needs ops.toList ⟨none, .mapUpdate t x y w, ty, pos, af, gd⟩)) x = some (.mp b)) (hy : evalS (onlyT T (needs ops.toList ⟨none, .mapUpdate t x y w, ty, pos, af, gd⟩)) y = some (.sc (enc kk))) (hu : P.underlying t = some (.map kt e)) (hE : KEnc P kt enc) (hb : H.at' b = some (mapV enc val m c)) (hw2 : evalS (onlyT T (needs ops.toList ⟨none, .mapUpdate t x y w, ty, pos, af, gd⟩)) w = some (val v))
    (h : DrawK P nt ops (i + 1) l ⟨T, (H.set b (mapV enc val (kput m kk v c) (kclk m kk c))), nx, ⟨i, ⟨none, .mapUpdate t x y w, ty, pos, af, gd⟩, (onlyT T (needs ops.toList ⟨none, .mapUpdate t x y w, ty, pos, af, gd⟩)), stg, true, true, undefS⟩ :: rs, ((H.set b (mapV enc val (kput m kk v c) (kclk m kk c))), nx) :: Hs, stg + 1⟩ K) : DrawK P nt ops i (⟨none, .mapUpdate t x y w, ty, pos, af, gd⟩ :: l) ⟨T, H, nx, rs, Hs, stg⟩ K :=
  dk_none hw (fun _ h => by cases h) (op_mapUp hx hy hu hE hb hw2) h
theorem dw_idxA {t e : TypeId} {x y : Operand} {b o n sz : Nat} {kd : IntKind} {j : Int} {q : Nat} {dd : Nat} (hw : wantedS (onlyT T (needs ops.toList ⟨some dd, .indexAddr t x y, ty, pos, af, gd⟩)) ops ⟨some dd, .indexAddr t x y, ty, pos, af, gd⟩ = some true) (hd : Nat.blt dd nt = true) (hx : evalS (onlyT T (needs ops.toList ⟨some dd, .indexAddr t x y, ty, pos, af, gd⟩)) x = some (.ptr b o)) (hy : evalS (onlyT T (needs ops.toList ⟨some dd, .indexAddr t x y, ty, pos, af, gd⟩)) y = some (.sc (.int kd j))) (hu : P.underlying t = some (.array n e)) (hs : sizeT P e = some sz) (hq : j = (q : Int)) (hi : q < n)
    (h : DrawK P nt ops (i + 1) l ⟨T.set dd (.ptr b (o + q * sz)), H, nx, ⟨i, ⟨some dd, .indexAddr t x y, ty, pos, af, gd⟩, (onlyT T (needs ops.toList ⟨some dd, .indexAddr t x y, ty, pos, af, gd⟩)), stg, false, true, (.ptr b (o + q * sz))⟩ :: rs, Hs, stg⟩ K) : DrawK P nt ops i (⟨some dd, .indexAddr t x y, ty, pos, af, gd⟩ :: l) ⟨T, H, nx, rs, Hs, stg⟩ K :=
  dk_read hw hd (fun _ h => by cases h) (rd_idxA hx hy hu hs hq hi) h
theorem dw_ldA {A : Type} [Inhabited A] {f : A → List Value} {t rt : TypeId} {x : Operand} {b sz o : Nat} {d : Array A} (q : Nat) {dd : Nat} (hw : wantedS (onlyT T (needs ops.toList ⟨some dd, .load t x, ty, pos, af, gd⟩)) ops ⟨some dd, .load t x, ty, pos, af, gd⟩ = some true) (hd : Nat.blt dd nt = true) (hx : evalS (onlyT T (needs ops.toList ⟨some dd, .load t x, ty, pos, af, gd⟩)) x = some (.ptr b o)) (ha : aggSize P t = some (some sz)) (hf : RecOf f sz) (hb : H.at' b = some (arrC rt f d)) (ho : o = q * sz) (hi : q < d.size)
    (h : DrawK P nt ops (i + 1) l ⟨T.set dd (.agg ((f d[q]!).map .sc)), H, nx, ⟨i, ⟨some dd, .load t x, ty, pos, af, gd⟩, (onlyT T (needs ops.toList ⟨some dd, .load t x, ty, pos, af, gd⟩)), stg, false, true, (.agg ((f d[q]!).map .sc))⟩ :: rs, Hs, stg⟩ K) : DrawK P nt ops i (⟨some dd, .load t x, ty, pos, af, gd⟩ :: l) ⟨T, H, nx, rs, Hs, stg⟩ K :=
  dk_read hw hd (fun _ h => by cases h) (rd_ldA (q := q) hx ha hf hb ho hi) h
theorem dw_ldF {A : Type} [Inhabited A] {f : A → List Value} {t rt : TypeId} {x : Operand} {b o ne sz : Nat} {rr : Bool} {d : Array A} {v : Value} (q j : Nat) {dd : Nat} (hw : wantedS (onlyT T (needs ops.toList ⟨some dd, .load t x, ty, pos, af, gd⟩)) ops ⟨some dd, .load t x, ty, pos, af, gd⟩ = some true) (hd : Nat.blt dd nt = true) (hx : evalS (onlyT T (needs ops.toList ⟨some dd, .load t x, ty, pos, af, gd⟩)) x = some (.ptr b o)) (ha : aggSize P t = some none) (hf : RecOf f sz) (hb : H.at' b = some (arr rr ne sz rt f d)) (ho : o = q * sz + j) (hi : q < d.size) (hne : d.size ≤ ne) (hv : (f d[q]!)[j]? = some v)
    (h : DrawK P nt ops (i + 1) l ⟨T.set dd (.sc v), H, nx, ⟨i, ⟨some dd, .load t x, ty, pos, af, gd⟩, (onlyT T (needs ops.toList ⟨some dd, .load t x, ty, pos, af, gd⟩)), stg, false, true, (.sc v)⟩ :: rs, Hs, stg⟩ K) : DrawK P nt ops i (⟨some dd, .load t x, ty, pos, af, gd⟩ :: l) ⟨T, H, nx, rs, Hs, stg⟩ K :=
  dk_read hw hd (fun _ h => by cases h) (rd_ldF (q := q) (j := j) ha hx ho hf hb hi hne hv) h
theorem dw_ldFN {A : Type} [Inhabited A] {f : A → List Value} {t rt : TypeId} {x : Operand} {b o ne sz : Nat} {rr : Bool} {d : Array A} {us : List Value} {n : Nat} (q j : Nat) {dd : Nat} (hw : wantedS (onlyT T (needs ops.toList ⟨some dd, .load t x, ty, pos, af, gd⟩)) ops ⟨some dd, .load t x, ty, pos, af, gd⟩ = some true) (hd : Nat.blt dd nt = true) (hx : evalS (onlyT T (needs ops.toList ⟨some dd, .load t x, ty, pos, af, gd⟩)) x = some (.ptr b o)) (ha : aggSize P t = some (some n)) (hf : RecOf f sz) (hb : H.at' b = some (arr rr ne sz rt f d)) (ho : o = q * sz + j) (hi : q < d.size) (hne : d.size ≤ ne) (hv : ((f d[q]!).drop j).take n = us) (hl : us.length = n) (hj : j + n ≤ sz)
    (h : DrawK P nt ops (i + 1) l ⟨T.set dd (.agg (us.map .sc)), H, nx, ⟨i, ⟨some dd, .load t x, ty, pos, af, gd⟩, (onlyT T (needs ops.toList ⟨some dd, .load t x, ty, pos, af, gd⟩)), stg, false, true, (.agg (us.map .sc))⟩ :: rs, Hs, stg⟩ K) : DrawK P nt ops i (⟨some dd, .load t x, ty, pos, af, gd⟩ :: l) ⟨T, H, nx, rs, Hs, stg⟩ K :=
  dk_read hw hd (fun _ h => by cases h) (rd_ldFN (q := q) (j := j) ha hx ho hf hb hi hne hv hl hj) h
end
section
variable {P : Program} {ro : Option Nat} {fn nt nx : Nat} {T : Tr SV} {k : List AIt} {dfs : List ADf} {H : Heap} {Q : Pst} {ops : Array Oper} {i : Nat} {l : List Oper} {d : Option Tmp} {ty : TypeId} {pos : String} {af : Array Edge} {gd : Option (Nat × Bool)}
theorem y_next {it : Operand} {b : Bool} {outs : List Out} (hw : wantedS T ops ⟨d, .next it b, ty, pos, af, gd⟩ = some true) (ho : nextOp T H nx ⟨d, .next it b, ty, pos, af, gd⟩ = some outs)
    (h : ∀ out ∈ outs, outS P (wpr P) ro ⟨fn, nt, T, .inReg ops i (⟨d, .next it b, ty, pos, af, gd⟩ :: l) :: k, dfs, H, nx⟩ d (.inReg ops (i + 1) l :: k) out Q) :
    Wp P ro ⟨fn, nt, T, .inReg ops i (⟨d, .next it b, ty, pos, af, gd⟩ :: l) :: k, dfs, H, nx⟩ Q :=
  .step (.inr ⟨hw, .inr (fun c h => by cases h), fun K w0 e w ev hS hE => let ⟨out, hm, hd⟩ := nextOp_ok hS hE ho; ⟨out, h out hm, hd⟩⟩)
theorem w_next {K V : Type} [DecidableEq K] {enc : K → Value} {val : V → SV} {m : List (K × V × Nat)} {c : Nat} {it : Operand} {b r : Nat} {done : List (K × V × Nat)} {dd : Nat}
    (hw : wantedS T ops ⟨some dd, .next it false, ty, pos, af, gd⟩ = some true) (hd : Nat.blt dd nt = true) (hx : evalS T it = some (.ptr r 0)) (hr : H.at' r = some (itV b c done)) (hb : H.at' b = some (mapV enc val m c)) (hok : KOk m c) (hdn : done.Nodup ∧ ∀ x ∈ done, x ∈ m)
    (h1 : done.Perm m → Wp P ro ⟨fn, nt, T.set dd (.sc (.tuple #[.bool false])), .inReg ops (i + 1) l :: k, dfs, H, nx⟩ Q)
    (h2 : ∀ x ∈ m, x ∉ done → (done ++ [x]).Nodup ∧ (∀ y ∈ done ++ [x], y ∈ m) → Wp P ro ⟨fn, nt, T.set dd (.tup [.sc (.bool true), .sc (enc x.1), val x.2.1]), .inReg ops (i + 1) l :: k, dfs, H.set r (itV b c (done ++ [x])), nx⟩ Q) :
    Wp P ro ⟨fn, nt, T, .inReg ops i (⟨some dd, .next it false, ty, pos, af, gd⟩ :: l) :: k, dfs, H, nx⟩ Q := by
  have hseen : ∀ x ∈ m, ((done.map (·.2.2)).contains x.2.2 = true ↔ x ∈ done) := by
    intro x hx
    rw [List.contains_iff_mem]
    constructor
    · intro h
      obtain ⟨y, hy, he⟩ := List.mem_map.1 h
      rw [hok.eq hx (hdn.2 y hy) he.symm]
      exact hy
    · intro h
      exact List.mem_map.2 ⟨x, h, rfl⟩
  refine y_next hw (outs := ?_) ?_ ?_
  rotate_left
  · simp only [nextOp, hx, hr, hb]
    have hg : (!(done.map (·.2.2)).isEmpty && !(mapL enc val m).isEmpty && (mapL enc val m).all (fun x => Nat.ble c x.2.2)) = false := by
      cases m with
      | nil => simp
      | cons x m =>
        have := hok.lt x (by simp)
        have hb : Nat.ble c x.2.2 = false := by
          cases hh : Nat.ble c x.2.2 with
          | false => rfl
          | true => have := Nat.le_of_ble_eq_true hh; omega
        simp [hb]
    rw [hg]
    rfl
  · intro out hm
    simp only [outS] at *
    rcases List.mem_append.1 hm with hm | hm
    · cases he : (((mapL enc val m).filter fun x => !((done.map (·.2.2)).contains x.2.2)).filter fun x => Nat.blt x.2.2 c).isEmpty with
      | false => rw [he] at hm; cases hm
      | true =>
        rw [he] at hm
        simp only [cond_true, List.mem_singleton] at hm
        subst hm
        simp only [putS_some hd]
        refine h1 ?_
        refine (List.perm_ext_iff_of_nodup hdn.1 hok.nodup).2 fun x => ⟨hdn.2 x, fun hx => ?_⟩
        rw [← hseen x hx]
        cases hc : (done.map (·.2.2)).contains x.2.2 with
        | true => rfl
        | false =>
          exfalso
          have hin : (enc x.1, val x.2.1, x.2.2) ∈ ((mapL enc val m).filter fun x => !((done.map (·.2.2)).contains x.2.2)).filter fun x => Nat.blt x.2.2 c := by
            refine List.mem_filter.2 ⟨List.mem_filter.2 ⟨List.mem_map.2 ⟨x, hx, rfl⟩, by simp only [hc]; rfl⟩, ?_⟩
            exact Nat.ble_eq_true_of_le (hok.lt x hx)
          have := List.isEmpty_iff.1 he
          rw [this] at hin
          cases hin
    · obtain ⟨y, hy, rfl⟩ := List.mem_map.1 hm
      have hy' : y ∈ (mapL enc val m).filter fun x => !((done.map (·.2.2)).contains x.2.2) := by
        rcases List.mem_append.1 hy with hy | hy
        · exact (List.mem_filter.1 hy).1
        · exact (List.mem_filter.1 hy).1
      obtain ⟨hy1, hy2⟩ := List.mem_filter.1 hy'
      obtain ⟨x, hx, rfl⟩ := List.mem_map.1 hy1
      simp only [putS_some hd]
      have hnd : x ∉ done := by
        intro h
        rw [(hseen x hx).2 h] at hy2
        cases hy2
      have := h2 x hx hnd ⟨by rw [List.nodup_append]; exact ⟨hdn.1, by simp, fun a ha b hb => by simp at hb; subst hb; intro e; subst e; exact hnd ha⟩, fun y hy => by
        rcases List.mem_append.1 hy with hy | hy
        · exact hdn.2 y hy
        · simp at hy; subst hy; exact hx⟩
      have e : itV b c (done ++ [x]) = .iter (some b) c (done.map (·.2.2) ++ [x.2.2]) c := by unfold itV; rw [List.map_append]; rfl
      rw [e] at this
      exact this
theorem ren_map {K V : Type} {enc : K → Value} {val : V → SV} {m : List (K × V × Nat)} {c : Nat} {ρ : Nat → Nat} (hc : ∀ v, (val v).ren ρ = val v) : (mapV enc val m c).ren ρ = mapV enc val m c := by
  simp only [mapV, mapL, VO.ren, renM, List.map_map]
  congr 1
  refine List.map_congr_left fun x _ => ?_
  simp only [Function.comp_apply, hc]
theorem at_map {K V : Type} {H : Heap} {n : Nat} {enc : K → Value} {val : V → SV} {m : List (K × V × Nat)} {c : Nat} {ρ : Nat → Nat} (hc : ∀ v, (val v).ren ρ = val v) (h : H.at' n = some (mapV enc val m c)) : H.at' n = some ((mapV enc val m c).ren ρ) := by rw [ren_map hc]; exact h
theorem renL_sc (ρ : Nat → Nat) : ∀ vs : List Value, SV.renL ρ (vs.map .sc) = vs.map .sc
  | [] => rfl
  | v :: vs => by rw [List.map_cons, SV.renL, renL_sc ρ vs]; rfl
theorem ren_arrC {A : Type} {t : TypeId} {f : A → List Value} {d : Array A} {ρ : Nat → Nat} : (arrC t f d).ren ρ = arrC t f d := by rw [ren_box, renL_sc]
theorem at_arrC {A : Type} {H : Heap} {n : Nat} {t : TypeId} {f : A → List Value} {d : Array A} {ρ : Nat → Nat} (h : H.at' n = some (arrC t f d)) : H.at' n = some ((arrC t f d).ren ρ) := by rw [ren_arrC]; exact h
theorem St.loopLess {K : Zone} {w0 w : World} {e : Env} {n : Nat} {st : LoopState} {pend : Option Code} {f2 nt2 : Nat} {T2 T3 : Tr SV} {ps : Array Tmp} {as1 bd : Code} {dr : Nat} (hl : T3.le T2)
    (hS : St K w0 e (H.set n (.loop st pend f2 nt2 T2 ps as1 bd dr)) nx w) : St K w0 e (H.set n (.loop st pend f2 nt2 T3 ps as1 bd dr)) nx w := by
  have key : ∀ id vo, (H.set n (.loop st pend f2 nt2 T3 ps as1 bd dr)).at' id = some vo → ∃ vo', (H.set n (.loop st pend f2 nt2 T2 ps as1 bd dr)).at' id = some vo' ∧ vo'.ro = vo.ro ∧ ∀ x, Lies K w e vo' x → Lies K w e vo x := by
    intro id vo hv
    rcases Tr.at_set hv with ⟨rfl, rfl⟩ | ⟨hne, hv⟩
    · refine ⟨_, Tr.at_set_same _ _ _, rfl, fun x hx => ?_⟩
      rcases hx with ⟨h0, o, h1, h2, tmps, y, h3, h4, h5⟩ | ⟨_, _, _, _, _, h, _⟩
      · exact .inl ⟨h0, o, h1, h2, tmps, y, h3, h4.less hl, h5⟩
      · cases h
    · exact ⟨vo, by rw [Tr.at_set_other _ _ hne]; exact hv, rfl, fun x hx => hx⟩
  refine ⟨hS.below, fun id vo hv => ?_, fun id id' vo vo' x x' h1 h2 h3 h4 h5 h6 h7 h8 h9 => ?_, hS.fresh⟩
  · obtain ⟨vo', g1, _, g3⟩ := key id vo hv
    obtain ⟨x, hx, hl⟩ := hS.rel id vo' g1
    exact ⟨x, hx, g3 x hl⟩
  · obtain ⟨u, g1, g2, _⟩ := key id vo h1
    obtain ⟨u', g1', g2', _⟩ := key id' vo' h2
    exact hS.inj _ _ _ _ _ _ g1 g1' h3 h4 h5 h6 h7 (by rw [g2]; exact h8) (by rw [g2']; exact h9)
theorem Fnc.weak {f : FuncId} {args : List SV} {H H' : Heap} {nx : Nat} {Q : Pst} (hs : ∀ K w0 e w, St K w0 e H nx w → St K w0 e H' nx w) (h : Fnc P f args H' nx Q) : Fnc P f args H nx Q := by
  unfold Fnc callS at h ⊢
  rcases h with ⟨h0, v, r, h1, h2, h3⟩ | h
  · exact .inl ⟨h0, v, r, h1, h2, fun K w0 e w hS => h3 K w0 e w (hs _ _ _ _ hS)⟩
  · refine .inr ?_
    split at h
    · rename_i c hb
      exact ⟨fun K w0 e w tmps todo ds kd rof cs a b c d f => h.run K w0 e w tmps todo ds kd rof cs (hs _ _ _ _ a) b c d f⟩
    · exact h.elim
theorem y_rangeFunc {fo : Operand} {ps : Array Tmp} {as1 bd : Code} {g : FuncId} {a b : List SV} {sf : SV} (sl : List (Nat × SV)) (hf : evalS T fo = some sf) (ht : fnTarget sf = some (g, a, b)) (hg : mayEnter P g = true) (hsl : ∀ n x, (slT sl).at' n = some x → T.at' n = some x)
    (h : ∀ as' bd', as' = as1 → bd' = bd → Fnc P g (a ++ [.yld (nx + 1)] ++ b) ((H.set nx (.dfd (some []))).set (nx + 1) (.loop .ready none fn nt (slT sl) ps as' bd' nx)) (nx + 1 + 1) (fun r => Wp P none ⟨fn, nt, T, .endRange (nx + 1) :: k, .taken nx :: dfs, r.2.1, r.2.2⟩ Q)) :
    Wp P none ⟨fn, nt, T, .code (.rangeFunc fo ps as1 bd) :: k, dfs, H, nx⟩ Q :=
  .step ⟨nx, H.set nx (.dfd (some [])), nx + 1, [.taken nx], sf, g, a, b, rfl, hf, ht, hg, Fnc.weak (fun K w0 e w hS => hS.loopLess hsl) (h _ _ rfl rfl)⟩
theorem y_cast {a b : Code} (h : a = b) (hw : Wp P ro ⟨fn, nt, T, .code b :: k, dfs, H, nx⟩ Q) : Wp P ro ⟨fn, nt, T, .code a :: k, dfs, H, nx⟩ Q := h ▸ hw
theorem y_endRange {n : Nat} {st : LoopState} {pend : Option Code} {f2 nt2 : Nat} {T2 : Tr SV} {ps : Array Tmp} {as1 bd : Code} {dr : Nat} (hl : H.at' n = some (.loop st pend f2 nt2 T2 ps as1 bd dr)) (hs : st ≠ .busy)
    (h : Wp P ro ⟨fn, nt, T, withPend pend k, dfs, H.set n (.loop .exhausted pend f2 nt2 T2 ps as1 bd dr), nx⟩ Q) : Wp P ro ⟨fn, nt, T, .endRange n :: k, dfs, H, nx⟩ Q := by
  refine .step ?_
  simp only [stepS, hl]
  exact ⟨hs, h⟩
theorem y_begin {n : Nat} {pend : Option Code} {f2 nt2 : Nat} {T2 : Tr SV} {ps : Array Tmp} {as1 bd : Code} {dr : Nat} (hl : H.at' n = some (.loop .ready pend f2 nt2 T2 ps as1 bd dr))
    (h : Wp P (some n) ⟨fn, nt, T, k, dfs, H.set n (.loop .busy pend f2 nt2 T2 ps as1 bd dr), nx⟩ Q) : Wp P (some n) ⟨fn, nt, T, .beginRound :: k, dfs, H, nx⟩ Q := by
  refine .step ?_
  simp only [stepS, hl]
  exact ⟨trivial, h⟩
theorem y_roundEnd {n : Nat} {st : LoopState} {pend : Option Code} {f2 nt2 : Nat} {T2 : Tr SV} {ps : Array Tmp} {as1 bd : Code} {dr : Nat} (hl : H.at' n = some (.loop st pend f2 nt2 T2 ps as1 bd dr))
    (h : Q (.sc (.bool true), H.set n (.loop .ready none f2 nt2 T2 ps as1 bd dr), nx)) : Wp P (some n) ⟨fn, nt, T, [], dfs, H, nx⟩ Q := by
  refine .step ?_
  simp only [stepS, leaveR, leaveS, hl]
  exact h
theorem w_round {x : Operand} {as1 : List Operand} {ats : Array TypeId} {args : List SV} {n dd : Nat} {st : LoopState} {pend : Option Code} {f2 nt2 : Nat} {T2 : Tr SV} {ps : Array Tmp} {as2 bd : Code} {dr : Nat}
    (hw : wantedS T ops ⟨some dd, .call { callee := .value x, args := as1.toArray, argTypes := ats }, ty, pos, af, gd⟩ = some true) (hd : Nat.blt dd nt = true) (hx : evalS T x = some (.yld n)) (ha : evalL T as1 = some args) (hl : H.at' n = some (.loop st pend f2 nt2 T2 ps as2 bd dr)) (hp : Nat.beq ps.size args.length = true)
    (h : Wp P (some n) ⟨f2, nt2, (ps.toList.zip args).foldl (fun T x => putS nt2 T (some x.1) x.2) T2, [.code as2, .beginRound, .code bd], [], H, nx⟩ (fun r => Wp P ro ⟨fn, nt, T.set dd r.1, .inReg ops (i + 1) l :: k, dfs, r.2.1, r.2.2⟩ Q)) :
    Wp P ro ⟨fn, nt, T, .inReg ops i (⟨some dd, .call { callee := .value x, args := as1.toArray, argTypes := ats }, ty, pos, af, gd⟩ :: l) :: k, dfs, H, nx⟩ Q := by
  refine .step (.inr ⟨hw, .inr (fun c hc => by cases hc), OpDoes.any (out := (.round n args, H, nx)) ?_ ?_⟩)
  · intro K w0 e w ev hS hE
    refine effOp_ok hS hE ?_
    unfold effOp
    simp only [callTarget, ha, hx, Option.map_some]
  · simp only [outS, roundS, hl, putS_some hd]
    exact ⟨hp, h⟩
def SameO (ρ : Nat → Nat) : List (Option VO) → List (Option VO) → Prop
  | [], [] => True
  | none :: l, none :: m => SameO ρ l m
  | some vo :: l, some vo' :: m => vo.ren ρ = vo' ∧ SameO ρ l m
  | _, _ => False
theorem SameO.map {ρ : Nat → Nat} : ∀ {l m : List (Option VO)}, SameO ρ l m → l.map (Option.map (VO.ren ρ)) = m
  | [], [], _ => rfl
  | none :: l, none :: m, h => by simp only [List.map_cons, Option.map_none, SameO.map (l := l) (m := m) h]
  | some vo :: l, some vo' :: m, h => by simp only [List.map_cons, Option.map_some, h.1, SameO.map h.2]
  | [], _ :: _, h => by simp [SameO] at h
  | none :: _, some _ :: _, h => by simp [SameO] at h
  | some _ :: _, none :: _, h => by simp [SameO] at h
  | none :: _, [], h => by simp [SameO] at h
  | some _ :: _, [], h => by simp [SameO] at h
theorem wrO_wrL2 {ρ : Nat → Nat} : ∀ (L : List Nat) (l : List (Option VO)) (i : Nat) (H : Heap), (∀ j, j < L.length → ρ (i + j) = L.getD j 0) → l.length = L.length → wrO ρ H i l = wrL L H l
  | [], [], i, H, _, _ => rfl
  | [], _ :: _, i, H, _, h => by simp at h
  | _ :: _, [], i, H, _, h => by simp at h
  | b :: L, o :: l, i, H, he, hl => by
    have e0 : ρ i = b := by simpa using he 0 (by simp)
    have et : ∀ j, j < L.length → ρ (i + 1 + j) = L.getD j 0 := fun j hj => by
      have := he (j + 1) (by simpa using hj)
      rw [show i + 1 + j = i + (j + 1) by omega, this]
      simp
    cases o with
    | none => simp only [wrO, wrL, e0]; exact wrO_wrL2 L l (i + 1) _ et (by simpa using hl)
    | some vo => simp only [wrO, wrL, e0]; exact wrO_wrL2 L l (i + 1) _ et (by simpa using hl)
theorem Ctr.callX {f : FuncId} {args0 args : List SV} {pre : List VO} {Q0 : Cz → Prop} (h : Ctr P f args0 pre Q0) (L : List Nat) {Q : Pst} (hlen : L.length = pre.length) (hL : ExtOk L nx) (ha : args = args0.map (SV.ren (ext L nx))) (hp : HasO (ext L nx) H 0 (pre.map some))
    (hQ : ∀ c, Q0 c → ∃ v m L2 objs, L2 = L ++ (List.range m).map (fun i => nx + i) ∧ SameO (ext L nx) c.objs objs ∧ objs.length = L2.length ∧ c.v.ren (ext L nx) = v ∧ Q (v, wrL L2 H objs, nx + m)) : Fnc P f args H nx Q := by
  refine h.call L hlen hL ha hp fun c hc hpl => ?_
  obtain ⟨v, m, L2, objs, e1, e2, e3, e4, hq⟩ := hQ c hc
  have hlo : c.objs.length = objs.length := by rw [← e2.map, List.length_map]
  have hl2 : L2.length = L.length + m := by rw [e1]; simp
  rw [e2.map, e4, wrO_wrL2 (ρ := ext L nx) L2 objs 0 H (fun j hj => ?_) e3, show nx + (c.objs.length - pre.length) = nx + m by omega]
  · exact hq
  · rw [Nat.zero_add]
    by_cases hjl : j < L.length
    · rw [ext_lt hjl, e1]
      simp only [List.getD_eq_getElem?_getD]
      rw [List.getElem?_append_left hjl]
    · rw [ext_ge (by omega), e1]
      simp only [List.getD_eq_getElem?_getD]
      rw [List.getElem?_append_right (by omega), List.getElem?_map, List.getElem?_range (by omega)]
      rfl
theorem Ctr.callY {f : FuncId} {args0 args : List SV} {pre : List VO} {c : Cz} (h : Ctr P f args0 pre (fun c' => c' = c)) (L L2 : List Nat) (m : Nat) (objs : List (Option VO)) {v : SV} {H' : Heap} {nx' : Nat} (hlen : L.length = pre.length) (hL : ExtOk L nx) (ha : args = args0.map (SV.ren (ext L nx))) (hp : HasO (ext L nx) H 0 (pre.map some))
    (e1 : L2 = L ++ (List.range m).map (fun i => nx + i)) (e2 : SameO (ext L nx) c.objs objs) (e3 : objs.length = L2.length) (e4 : c.v.ren (ext L nx) = v) (e5 : wrL L2 H objs = H') (e6 : nx + m = nx') : Fnc P f args H nx (fun r => r = (v, H', nx')) :=
  h.callX L hlen hL ha hp (by rintro _ rfl; exact ⟨v, m, L2, objs, e1, e2, e3, e4, by rw [e5, e6]⟩)
theorem ren_boxT {ρ : Nat → Nat} {t : TypeId} {l l' : List SV} (h : SV.renL ρ l = l') : (newCells t l).ren ρ = newCells t l' := by rw [ren_box, h]
theorem Ctr.at {f : FuncId} {args : List SV} {pre : List VO} {Q : Cz → Prop} (n : Nat) (hn : pre.length = n) (h : Fnc P f args (heapOf pre) n (fun r => ∃ c, Q c ∧ Ends n c r)) : Ctr P f args pre Q := by
  subst hn
  exact h
theorem y_loopT {α : Type} {b : Code} (sl : α → List (Nat × SV)) (I : α → Heap → Nat → Prop) (μ : α → Nat) (a0 : α) (h0 : I a0 H nx) (hs : ∀ n x, (slT (sl a0)).at' n = some x → T.at' n = some x)
    (body : ∀ a H nx, I a H nx → (∀ T' H' nx' a', I a' H' nx' → μ a' < μ a → (∀ n x, (slT (sl a')).at' n = some x → T'.at' n = some x) → Wp P ro ⟨fn, nt, T', .inLoop b :: k, dfs, H', nx'⟩ Q) →
      Wp P ro ⟨fn, nt, slT (sl a), .code b :: .inLoop b :: k, dfs, H, nx⟩ Q) : Wp P ro ⟨fn, nt, T, .code (.loop b) :: k, dfs, H, nx⟩ Q := by
  have main : ∀ m a H nx, μ a = m → I a H nx → Wp P ro ⟨fn, nt, slT (sl a), .code b :: .inLoop b :: k, dfs, H, nx⟩ Q := by
    intro m
    induction m using Nat.strongRecOn with
    | _ m ih =>
      intro a H nx hm ha
      refine body a H nx ha fun T' H' nx' a' ha' hlt hs' => y_again ?_
      exact Wp.less (ih (μ a') (by omega) a' H' nx' rfl ha') hs' (Tr.le_refl _)
  exact y_unroll (Wp.less (main _ a0 H nx rfl h0) hs (Tr.le_refl _))
def SlIn (T : Tr SV) : List (Nat × SV) → Prop
  | [] => True
  | (t, s) :: l => T.at' t = some s ∧ SlIn T l
theorem SlIn.sub {T : Tr SV} : ∀ {l : List (Nat × SV)}, SlIn T l → ∀ n x, (slT l).at' n = some x → T.at' n = some x
  | [], _, n, x, h => by rw [slT, Tr.at_nil] at h; cases h
  | (t0, s0) :: l, hh, n, x, h => by
    rcases Tr.at_set h with ⟨rfl, rfl⟩ | ⟨_, h⟩
    · exact hh.1
    · exact SlIn.sub hh.2 n x h
theorem lv_takens {rs : List Nat} (hr : ∀ r ∈ rs, H.at' r = some (.dfd (some []))) (hnd : rs.Nodup) (h : ∀ H', (∀ n, n ∉ rs → H'.at' n = H.at' n) → Lv P ⟨fn, nt, T, k, dfs, H', nx⟩ Q) : Lv P ⟨fn, nt, T, k, rs.map .taken ++ dfs, H, nx⟩ Q := by
  induction rs generalizing H with
  | nil => exact h H fun _ _ => rfl
  | cons r rs ih =>
    refine lv_taken (hr r (by simp)) ?_
    rw [List.nil_append]
    rw [List.nodup_cons] at hnd
    refine ih (fun r' hr' => ?_) hnd.2 fun H' hH' => h H' fun n hn => ?_
    · rw [Tr.at_set_other _ _ (by intro e; subst e; exact hnd.1 hr')]
      exact hr r' (List.mem_cons_of_mem _ hr')
    · rw [List.mem_cons, not_or] at hn
      rw [hH' n hn.2, Tr.at_set_other _ _ hn.1]
theorem y_retT {rl : List ResultVar} {F : Func} (hf : P.funcs[fn]? = some F) (hl : F.results.toList = rl) {rs : List Nat} (hdf : dfs = rs.map .taken) (hr : ∀ r ∈ rs, H.at' r = some (.dfd (some []))) (hnd : rs.Nodup)
    (h : ∀ H', (∀ n, n ∉ rs → H'.at' n = H.at' n) → ∃ vs, ResIs P H' T rl vs ∧ Q (valueOf vs, H', nx)) : Wp P none ⟨fn, nt, T, .code .ret :: k, dfs, H, nx⟩ Q := by
  subst hdf
  refine y_retD ?_
  have := lv_takens (P := P) (fn := fn) (nt := nt) (nx := nx) (T := T) (k := .code .ret :: k) (dfs := []) (Q := Q) hr hnd fun H' hH' => by
    obtain ⟨vs, h1, h2⟩ := h H' hH'
    exact lv_end (by simp only [resultsOf, hf, hl]) h1.res h2
  simpa using this
end
end Go.Sy
end
section
namespace Go.Proofs.Ytfkfiafohcoomaa
open Go Go.Sy Go.Sl Go.RowKit
abbrev mkE : Int → Value := fun n => .int .i64 n
abbrev mkV : Int × Int → SV := fun a => plS a
abbrev MkL := List (Int × (Int × Int) × Nat)
abbrev marksV (m : MkL) (c : Nat) : VO := mapV mkE mkV m c
abbrev tPl : Nat := 25
theorem nodup_len {A : Type} : ∀ (l m : List A), l.Nodup → (∀ x ∈ l, x ∈ m) → l.length ≤ m.length
  | [], m, _, _ => Nat.zero_le _
  | x :: l, m, hn, hs => by
    obtain ⟨a, b, rfl⟩ := List.append_of_mem (hs x (by simp))
    rw [List.nodup_cons] at hn
    have := nodup_len l (a ++ b) hn.2 fun y hy => by
      have := hs y (List.mem_cons_of_mem _ hy)
      rcases List.mem_append.1 this with h | h
      · exact List.mem_append_left _ h
      · rcases List.mem_cons.1 h with rfl | h
        · exact absurd hy hn.1
        · exact List.mem_append_right _ h
    simp only [List.length_cons, List.length_append] at this ⊢
    omega
set_option maxRecDepth 100000 in
set_option maxHeartbeats 0 in
theorem collect_spec (m : MkL) (c : Nat) (hok : KOk m c) (hl : m.length < 1000) :
    Ctr Try.prog 34 [.fn (.func 47) [] [.ptr 0 0]] [newCells 63 [.mp 1], marksV m c]
      (fun cz => ∃ done : MkL, done.Perm m ∧ cz = ⟨.slu 2 0 (done.map (·.2.1)).length, [some (newCells 63 [.mp 1]), some (marksV m c), some (plR false (done.map (·.2.1)))]⟩) := by
  refine Ctr.at 2 rfl ?_
  refine Fnc.start Try.func34 rfl rfl ?_
  (repeat (first | refine y_seq ?_ | refine w_region ?_ | refine y_regEnd ?_ | refine w_move rfl rfl rfl ?_ | refine w_assign rfl rfl rfl ?_))
  refine w_call rfl rfl rfl (by kernel_rfl) ?_
  refine Fnc.start Try.func46 rfl rfl ?_
  refine y_nilRow (d := 0) 2 tPl rfl rfl ?_
  (repeat (first | refine y_seq ?_ | refine w_region ?_ | refine y_regEnd ?_ | refine y_block ?_ | refine w_move rfl rfl rfl ?_ | refine w_assign rfl rfl rfl ?_ | refine w_box rfl rfl rfl rfl ?_))
  refine y_rangeFunc [(2, .ptr 3 0)] rfl rfl (by kernel_rfl) (SlIn.sub ⟨rfl, trivial⟩) ?_
  intro cA cB hcA hcB
  refine Fnc.start Try.func47 rfl rfl ?_
  (repeat (first | (first | refine y_seq ?_ | refine w_region ?_ | refine y_regEnd ?_ | refine y_block ?_ | refine w_loadB1 rfl rfl rfl (F.ag _ rfl) rfl rfl ?_) | (refine w_range (m := m) (enc := mkE) (val := mkV) rfl rfl rfl (F.un _ rfl) rfl ?_)))
  refine y_loopT (α := MkL) (fun _ => [(0, .yld 5), (1, .ptr 0 0), (6, .ptr 6 0)]) (fun done H nx => (done.Nodup ∧ ∀ x ∈ done, x ∈ m) ∧ 7 ≤ nx ∧ H.at' 0 = some (newCells 63 [.mp 1]) ∧ H.at' 1 = some (marksV m c) ∧ H.at' 4 = some (.dfd (some [])) ∧ H.at' 5 = some (.loop .ready none 46 13 (slT [(2, .ptr 3 0)]) #[7] cA cB 4)
      ∧ H.at' 6 = some (itV 1 c done) ∧ ∃ r, r < nx ∧ (r = 2 ∨ 7 ≤ r) ∧ H.at' 3 = some (newCells 22 [.slu r 0 (done.map (·.2.1)).length]) ∧ H.at' r = some (plR false (done.map (·.2.1)))) (fun done => m.length - done.length) []
    ⟨⟨List.nodup_nil, fun _ h => by cases h⟩, Nat.le_refl _, rfl, rfl, rfl, rfl, rfl, 2, (show 2 < 7 by decide), .inl rfl, rfl, rfl⟩ (SlIn.sub ⟨rfl, rfl, rfl, trivial⟩) ?_
  rintro done H nx ⟨hdn, hnx, h0, h1, h4, h5, h6, r, hr, hr2, h3, hrow⟩ ih
  have hlen := nodup_len done m hdn.1 hdn.2
  (repeat (first | refine y_seq ?_ | refine w_region ?_))
  refine w_next (b := 1) (m := m) (c := c) (enc := mkE) (val := mkV) (done := done) rfl rfl rfl ?_ ?_ hok hdn ?_ ?_
  · (focus (skip; first | exact Tr.at_set_same _ _ _ | assumption))
  · (focus (skip; first | exact Tr.at_set_same _ _ _ | assumption))
  · intro hp
    (repeat (first | refine y_seq ?_ | refine y_regEnd ?_ | refine y_exit rfl ?_ | refine y_condF rfl ?_ | refine w_extractV rfl rfl rfl rfl ?_))
    apply w_end Try.func47 (congrArg Array.toList Try.results47) ResIs.nil
    dsimp only
    refine y_endRange h5 (fun h => by cases h) ?_
    (repeat (first | refine y_seq ?_ | refine w_region ?_ | refine y_regEnd ?_ | refine y_inBlock ?_ | refine w_assign rfl rfl rfl ?_ | refine w_loadB1 rfl rfl rfl (F.ag _ rfl) (by (focus ((repeat (refine (Tr.at_set_other _ _ (by omega)).trans ?_)); first | exact Tr.at_set_same _ _ _ | assumption))) (by exact rfl) ?_))
    refine y_retT Try.func46 (congrArg Array.toList Try.results46) (rs := [4]) rfl (fun r hr => by rw [List.mem_singleton] at hr; subst hr; (focus ((repeat (refine (Tr.at_set_other _ _ (by omega)).trans ?_)); first | exact Tr.at_set_same _ _ _ | assumption))) (by simp) ?_
    intro H1 hH1
    refine ⟨_, (by (repeat (first | exact ResIs.nil | apply ResIs.tmp rfl))), ?_⟩
    dsimp only
    (repeat (first | refine y_regEnd ?_ | refine w_assign rfl rfl rfl ?_))
    apply w_ret Try.func34 (congrArg Array.toList Try.results34)
    · (repeat (first | exact ResIs.nil | apply ResIs.tmp rfl))
    refine ⟨_, ⟨done, hp, rfl⟩, Ends.mk [r] ⟨by intro n hn; simp [nms, List.range_succ] at hn; omega, by simp [nms, List.range_succ]; omega⟩ rfl rfl ⟨at_box ?_, at_map (fun _ => rfl) ?_, at_dat ?_, trivial⟩⟩
    · exact (hH1 0 (by simp)).trans (by (focus ((repeat (refine (Tr.at_set_other _ _ (by omega)).trans ?_)); first | exact Tr.at_set_same _ _ _ | assumption)))
    · exact (hH1 1 (by simp)).trans (by (focus ((repeat (refine (Tr.at_set_other _ _ (by omega)).trans ?_)); first | exact Tr.at_set_same _ _ _ | assumption)))
    · exact (hH1 r (by simp; omega)).trans (by (focus ((repeat (refine (Tr.at_set_other _ _ (by omega)).trans ?_)); first | exact Tr.at_set_same _ _ _ | assumption)))
  · intro x hx hxn hdn2
    have hlm : (done.map (·.2.1)).length = done.length := List.length_map ..
    have hlen2 := nodup_len _ m hdn2.1 hdn2.2
    rw [List.length_append, List.length_singleton] at hlen2
    (repeat (first | (first | refine y_seq ?_ | refine w_region ?_ | refine y_regEnd ?_ | refine y_block ?_ | refine y_skip ?_ | refine y_condT rfl ?_ | refine w_move rfl rfl rfl ?_ | refine w_extract rfl rfl rfl rfl ?_ | refine w_storeC rfl rfl rfl rfl (F.sz _ rfl) (by first | exact rfl | (focus (skip; first | exact Tr.at_set_same _ _ _ | assumption))) rfl (by exact Nat.le_of_ble_eq_true rfl) rfl ?_ | refine w_alloc rfl rfl (F.zl _ rfl) ?_ | refine w_loadBN rfl rfl rfl (F.ag _ rfl) (by (focus (skip; first | exact Tr.at_set_same _ _ _ | assumption))) (by exact rfl) ?_) | (refine w_entry (b := 1) (m := m) (c := c) (enc := mkE) (val := mkV) (x := x) (done := done) rfl rfl rfl ?_ ?_ hok hx ?_; (focus (skip; first | exact Tr.at_set_same _ _ _ | assumption)); (focus ((repeat (refine (Tr.at_set_other _ _ (by omega)).trans ?_)); first | exact Tr.at_set_same _ _ _ | assumption)))))
    refine w_round (n := 5) rfl rfl rfl rfl (by (focus ((repeat (refine (Tr.at_set_other _ _ (by omega)).trans ?_)); first | exact Tr.at_set_same _ _ _ | assumption))) (by exact rfl) ?_
    refine y_cast hcA ?_
    (repeat (first | refine w_region ?_ | refine y_regEnd ?_ | refine w_storeC rfl rfl rfl rfl (F.sz _ rfl) (by first | exact rfl | (focus (skip; first | exact Tr.at_set_same _ _ _ | assumption))) rfl (by exact Nat.le_of_ble_eq_true rfl) rfl ?_ | refine w_alloc rfl rfl (F.zl _ rfl) ?_))
    refine y_begin (by (focus ((repeat (refine (Tr.at_set_other _ _ (by omega)).trans ?_)); first | exact Tr.at_set_same _ _ _ | assumption))) ?_
    refine y_cast hcB ?_
    (repeat (first | (first | refine w_region ?_ | refine y_block ?_ | refine w_loadB1 rfl rfl rfl (F.ag _ rfl) (by (focus ((repeat (refine (Tr.at_set_other _ _ (by omega)).trans ?_)); first | exact Tr.at_set_same _ _ _ | assumption))) (by exact rfl) ?_ | refine w_loadBN rfl rfl rfl (F.ag _ rfl) (by (focus ((repeat (refine (Tr.at_set_other _ _ (by omega)).trans ?_)); first | exact Tr.at_set_same _ _ _ | assumption))) (by exact rfl) ?_) | refine w_buildSlice rfl rfl (F.un _ rfl) (F.sz _ rfl) rfl (F.ze _ rfl) rfl rfl rfl rfl rfl ?_))
    refine w_push (b := 16) (xs := done.map (·.2.1)) (a := x.2.1) rfl rfl rfl rfl (F.un _ rfl) (.inl ⟨_, F.un _ rfl⟩) (F.sz _ rfl) rfl (by kernel_rfl) (by kernel_rfl) (by (focus ((repeat (refine (Tr.at_set_other _ _ (by omega)).trans ?_)); first | exact Tr.at_set_same _ _ _ | assumption))) (by (focus (skip; first | exact Tr.at_set_same _ _ _ | assumption))) (by exact rfl) (recP) (by omega) (by omega) ?_
    (repeat (first | refine y_regEnd ?_ | refine y_inBlock ?_ | refine w_storeC rfl rfl rfl rfl (F.sz _ rfl) (by first | exact rfl | (focus ((repeat (first | refine (Tr.at_set_other _ _ (by omega)).trans ?_ | refine (Tr.at_del_other _ (by omega)).trans ?_)); first | exact Tr.at_set_same _ _ _ | assumption))) rfl (by exact Nat.le_of_ble_eq_true rfl) rfl ?_))
    refine y_roundEnd (by (focus ((repeat (first | refine (Tr.at_set_other _ _ (by omega)).trans ?_ | refine (Tr.at_del_other _ (by omega)).trans ?_)); first | exact Tr.at_set_same _ _ _ | assumption))) ?_
    dsimp only
    (repeat (first | refine y_regEnd ?_ | refine y_inBlock ?_ | refine y_skip ?_ | refine y_condF rfl ?_ | refine w_notB rfl rfl rfl ?_))
    have e : done.map (·.2.1) ++ [x.2.1] = (done ++ [x]).map (·.2.1) := by simp
    refine ih _ _ _ (done ++ [x]) ⟨hdn2, by omega, by (focus ((repeat (first | refine (Tr.at_set_other _ _ (by omega)).trans ?_ | refine (Tr.at_del_other _ (by omega)).trans ?_)); first | exact Tr.at_set_same _ _ _ | assumption)), by (focus ((repeat (first | refine (Tr.at_set_other _ _ (by omega)).trans ?_ | refine (Tr.at_del_other _ (by omega)).trans ?_)); first | exact Tr.at_set_same _ _ _ | assumption)), by (focus ((repeat (first | refine (Tr.at_set_other _ _ (by omega)).trans ?_ | refine (Tr.at_del_other _ (by omega)).trans ?_)); first | exact Tr.at_set_same _ _ _ | assumption)), by (focus (skip; first | exact Tr.at_set_same _ _ _ | assumption)), by (focus ((repeat (first | refine (Tr.at_set_other _ _ (by omega)).trans ?_ | refine (Tr.at_del_other _ (by omega)).trans ?_)); first | exact Tr.at_set_same _ _ _ | assumption)), nx + 1 + 1 + 1, by omega, .inr (by omega), ?_, ?_⟩ (by simp only [List.length_append, List.length_singleton]; omega) (SlIn.sub ⟨rfl, rfl, rfl, trivial⟩)
    · rw [← e]
      (focus ((repeat (refine (Tr.at_set_other _ _ (by omega)).trans ?_)); first | exact Tr.at_set_same _ _ _ | assumption))
    · rw [← e]
      (focus ((repeat (refine (Tr.at_set_other _ _ (by omega)).trans ?_)); first | exact Tr.at_set_same _ _ _ | assumption))
end Go.Proofs.Ytfkfiafohcoomaa
end
section
namespace Go.Proofs.Ytfkfiafohcoomaa
open Go Go.Sy Go.Sl Go.RowKit
theorem desc_perm {l l' : List (Int × Int)} (h : l.Perm l') : descP l = descP l' := by
  have hb : ∀ (p : Int × Int) (k : Nat), (∃ a, (descP l)[k]? = some a ∧ uptoP p a = true) ↔ ∃ a, (descP l')[k]? = some a ∧ uptoP p a = true := fun p k => by
    rw [← have_desc, ← have_desc, haveP_perm h]
  have hlen : (descP l).length = (descP l').length := by rw [desc_length, desc_length]; exact h.length_eq
  refine List.ext_getElem hlen fun k h1 h2 => ?_
  obtain ⟨a, ha, hu⟩ := (hb _ k).1 ⟨_, List.getElem?_eq_getElem h1, upto_refl _⟩
  obtain ⟨b, hb', hu'⟩ := (hb _ k).2 ⟨_, List.getElem?_eq_getElem h2, upto_refl _⟩
  rw [List.getElem?_eq_getElem h2, Option.some.injEq] at ha
  rw [List.getElem?_eq_getElem h1, Option.some.injEq] at hb'
  subst ha hb'
  exact upto_anti hu hu'
theorem leastQ_perm (k : Int) {l l' : List (Int × Int)} (h : l.Perm l') : leastQ k l = leastQ k l' := by
  unfold leastQ
  rw [desc_perm h, h.length_eq]
abbrev plcs (m : MkL) : List (Int × Int) := m.map (·.2.1)
abbrev mkB : VO := newCells 65 [.mp 1]
theorem mkK : KEnc Try.prog 3 mkE := kenc_i64 (F.un _ rfl)
set_option maxRecDepth 100000 in
theorem none_spec (m : MkL) (c : Nat) : Ctr Try.prog 33 [.ptr 0 0] [mkB, marksV m c] (fun cz => cz = ⟨.sc (.bool false), [mkB, marksV m c].map some⟩) := by
  refine Ctr.at 2 rfl ?_
  refine Fnc.start Try.func33 rfl rfl ?_
  (repeat (first | refine y_seq ?_ | refine w_region ?_ | refine y_regEnd ?_ | refine w_move rfl rfl rfl ?_ | refine w_assign rfl rfl rfl ?_ | refine w_pickF rfl rfl rfl rfl ?_ | refine w_nilCheck rfl rfl rfl ?_ | refine w_fieldAddr rfl rfl rfl (F.fo _ _ rfl rfl) ?_ | refine w_eqNil rfl rfl rfl rfl (F.un _ rfl) rfl ?_ | refine w_loadB1 rfl rfl rfl (F.ag _ rfl) rfl rfl ?_))
  (apply w_ret Try.func33 (congrArg Array.toList Try.results33); (focus (repeat (first | exact ResIs.nil | apply ResIs.tmp rfl))))
  (refine ⟨_, rfl, Ends.val (ExtOk.of rfl) rfl ?_ ?_⟩)
  · rfl
  · exact (by repeat (first | exact trivial | refine ⟨at_box rfl, ?_⟩ | refine ⟨at_map (fun _ => rfl) rfl, ?_⟩))
set_option maxRecDepth 100000 in
theorem num_spec (e : Int) : Ctr Try.prog 18 [.sc (.int .i64 e)] [] (fun cz => cz = ⟨.sc (.int .i64 e), []⟩) := by
  refine Ctr.at 0 rfl ?_
  refine Fnc.start Try.func18 rfl rfl ?_
  (repeat (first | refine y_seq ?_ | refine w_region ?_ | refine y_regEnd ?_ | refine w_move rfl rfl rfl ?_ | refine w_assign rfl rfl rfl ?_))
  (apply w_ret Try.func18 (congrArg Array.toList Try.results18); (focus (repeat (first | exact ResIs.nil | apply ResIs.tmp rfl))))
  (refine ⟨_, rfl, Ends.val (ExtOk.of rfl) rfl ?_ ?_⟩)
  · rfl
  · trivial
def tellR (m : MkL) (c : Nat) (k : Int) (p : Int × Int) : MkL × Bool × Int := match kget m k with
  | none => (m, false, 2)
  | some w => if lessP w p then (kput m k p c, true, 0) else (m, false, 0)
set_option maxRecDepth 100000 in
set_option maxHeartbeats 0 in
theorem tell_spec (m : MkL) (c : Nat) (k : Int) (p : Int × Int) : Ctr Try.prog 19 [.ptr 0 0, .sc (.int .i64 k), plS p] [mkB, marksV m c]
    (fun cz => cz = ⟨.tup [.sc (.bool (tellR m c k p).2.1), .sc (.int .i64 (tellR m c k p).2.2)], [some mkB, some (marksV (tellR m c k p).1 c)]⟩) := by
  refine Ctr.at 2 rfl ?_
  refine Fnc.start Try.func19 rfl rfl ?_
  (repeat (first | (first | refine y_seq ?_ | refine w_region ?_ | refine y_regEnd ?_ | refine y_skip ?_ | refine y_condF rfl ?_ | refine w_move rfl rfl rfl ?_ | refine w_assign rfl rfl rfl ?_ | refine w_nilCheck rfl rfl rfl ?_ | refine w_fieldAddr rfl rfl rfl (F.fo _ _ rfl rfl) ?_ | refine w_loadB1 rfl rfl rfl (F.ag _ rfl) rfl rfl ?_ | refine w_boxN rfl rfl rfl ?_) | refine w_callV (none_spec m c) [0, 1] rfl rfl rfl (by kernel_rfl) rfl (ExtOk.of rfl) rfl (by repeat (first | exact trivial | refine ⟨at_box rfl, ?_⟩ | refine ⟨at_map (fun _ => rfl) rfl, ?_⟩)) ?_))
  cases hg : kget m k with
  | none =>
    rw [show tellR m c k p = (m, false, 2) by unfold tellR; rw [hg]]
    refine w_lookF (m := m) (enc := mkE) (val := mkV) rfl rfl rfl rfl (F.un _ rfl) (mkK) (by first | exact rfl | (focus (skip; first | exact Tr.at_set_same _ _ _ | assumption))) (hg) (F.ze _ rfl) ?_
    (repeat (first | refine y_seq ?_ | refine w_region ?_ | refine y_regEnd ?_ | refine y_condT rfl ?_ | refine w_move rfl rfl rfl ?_ | refine w_assign rfl rfl rfl ?_ | refine w_extract rfl rfl rfl rfl ?_ | refine w_storeC rfl rfl rfl rfl (F.sz _ rfl) (by first | exact rfl | (focus (skip; first | exact Tr.at_set_same _ _ _ | assumption))) rfl (by exact Nat.le_of_ble_eq_true rfl) rfl ?_ | refine w_alloc rfl rfl (F.zl _ rfl) ?_ | refine w_notB rfl rfl rfl ?_))
    ((apply w_ret Try.func19 (congrArg Array.toList Try.results19)); (focus (repeat (first | exact ResIs.nil | apply ResIs.tmp rfl))); refine ⟨_, rfl, Ends.mk [] (ExtOk.of rfl) rfl rfl ?_⟩)
    exact (by repeat (first | exact trivial | refine ⟨at_box rfl, ?_⟩ | refine ⟨at_map (fun _ => rfl) rfl, ?_⟩))
  | some w =>
    have hls := less_spec w p
    refine w_lookT (m := m) (enc := mkE) (val := mkV) rfl rfl rfl rfl (F.un _ rfl) (mkK) (by first | exact rfl | (focus (skip; first | exact Tr.at_set_same _ _ _ | assumption))) (hg) ?_
    cases hb : lessP w p
    all_goals rw [hb] at hls
    all_goals (repeat (first | (first | refine y_seq ?_ | refine w_region ?_ | refine y_regEnd ?_ | refine y_skip ?_ | refine y_condT rfl ?_ | refine y_condF rfl ?_ | refine w_move rfl rfl rfl ?_ | refine w_assign rfl rfl rfl ?_ | refine w_extract rfl rfl rfl rfl ?_ | refine w_storeC rfl rfl rfl rfl (F.sz _ rfl) (by first | exact rfl | (focus (skip; first | exact Tr.at_set_same _ _ _ | assumption))) rfl (by exact Nat.le_of_ble_eq_true rfl) rfl ?_ | refine w_loadBN rfl rfl rfl (F.ag _ rfl) rfl rfl ?_ | refine w_alloc rfl rfl (F.zl _ rfl) ?_ | refine w_notB rfl rfl rfl ?_) | refine w_callV (hls) [] rfl rfl rfl (by kernel_rfl) rfl (ExtOk.of rfl) rfl trivial ?_))
    · rw [show tellR m c k p = (m, false, 0) by unfold tellR; rw [hg]; simp only [hb]; rfl]
      ((apply w_ret Try.func19 (congrArg Array.toList Try.results19)); (focus (repeat (first | exact ResIs.nil | apply ResIs.tmp rfl))); refine ⟨_, rfl, Ends.mk [] (ExtOk.of rfl) rfl rfl ?_⟩)
      exact (by repeat (first | exact trivial | refine ⟨at_box rfl, ?_⟩ | refine ⟨at_map (fun _ => rfl) rfl, ?_⟩))
    · rw [show tellR m c k p = (kput m k p c, true, 0) by unfold tellR; rw [hg]; simp only [hb]; rfl]
      have hc : kclk m k c = c := by unfold kclk; rw [hg]
      refine w_draw (by kernel_rfl) (by kernel_rfl) ?_
      (repeat (first | (first | refine dw_move rfl rfl rfl ?_ | refine dw_nilCheck rfl rfl rfl ?_ | refine dw_fieldAddr rfl rfl rfl (F.fo _ _ rfl rfl) ?_ | refine dw_loadB1 rfl rfl rfl (F.ag _ rfl) rfl rfl ?_ | refine dw_loadBN rfl rfl rfl (F.ag _ rfl) rfl rfl ?_) | refine dw_mapUp (m := m) (enc := mkE) (val := mkV) (kk := k) (v := p) rfl rfl rfl (F.un _ rfl) (mkK) (by first | exact rfl | (focus (skip; first | exact Tr.at_set_same _ _ _ | assumption))) rfl ?_))
      (refine dk_nil ?_); (refine ⟨by kernel_rfl, ?_, ?_⟩); (focus (repeat (first | exact trivial | refine ⟨.inl rfl, ?_⟩ | refine ⟨.inr (by (repeat (refine ⟨(by first | exact rd_idxN (F.un _ rfl) (F.sz _ rfl) rfl rfl rfl (by omega) (by omega) (by omega) | exact rd_arith rfl rfl (.inl ⟨rfl, (Go.IntWalk.i64_in _ ⟨by omega, by omega⟩).symm⟩) | exact rd_arith rfl rfl (.inr (.inl ⟨rfl, (Go.IntWalk.i64_in _ ⟨by omega, by omega⟩).symm⟩)) | exact rd_fieldAddr (F.fo _ _ rfl rfl) rfl | exact rd_move rfl | exact rd_assign rfl | exact rd_load1 (F.ag _ rfl) rfl rfl (cell_box rfl) | exact rd_loadN (F.ag _ rfl) rfl rfl (cellsFrom_box _ 0 rfl rfl) | exact rd_extract rfl rfl | exact rd_lenSl (F.un _ rfl) rfl | exact rd_lenStr (F.un _ rfl) rfl | exact rd_nilCheck rfl | exact rd_pickT rfl rfl | exact rd_pickF rfl rfl), ?_⟩)); exact trivial), ?_⟩)))
      (repeat (first | refine y_seq ?_ | refine w_region ?_ | refine y_regEnd ?_ | refine w_assign rfl rfl rfl ?_))
      rw [hc]
      ((apply w_ret Try.func19 (congrArg Array.toList Try.results19)); (focus (repeat (first | exact ResIs.nil | apply ResIs.tmp rfl))); refine ⟨_, rfl, Ends.mk [] (ExtOk.of rfl) rfl rfl ?_⟩)
      exact (by repeat (first | exact trivial | refine ⟨at_box rfl, ?_⟩ | refine ⟨at_map (fun _ => rfl) rfl, ?_⟩))
set_option maxRecDepth 100000 in
set_option maxHeartbeats 0 in
theorem values_spec (m : MkL) (c : Nat) : Ctr Try.prog 35 [.mp 0] [marksV m c]
    (fun cz => cz = ⟨.fn (.func 47) [] [.ptr 1 0], [some (marksV m c), some (newCells 63 [.mp 0])]⟩) := by
  refine Ctr.at 1 rfl ?_
  refine Fnc.start Try.func35 rfl rfl ?_
  (repeat (first | refine y_seq ?_ | refine w_region ?_ | refine y_regEnd ?_ | refine w_assign rfl rfl rfl ?_ | refine w_makeFunc rfl rfl rfl rfl ?_ | refine w_box rfl rfl rfl rfl ?_))
  (apply w_ret Try.func35 (congrArg Array.toList Try.results35)); (focus (repeat (first | exact ResIs.nil | apply ResIs.tmp rfl))); refine ⟨_, rfl, Ends.mk [1] (ExtOk.of rfl) rfl rfl ?_⟩
  exact (by repeat (first | exact trivial | refine ⟨at_box rfl, ?_⟩ | refine ⟨at_map (fun _ => rfl) rfl, ?_⟩))
set_option maxRecDepth 100000 in
set_option maxHeartbeats 0 in
theorem mleast_spec (m : MkL) (c : Nat) (k : Int) (hok : KOk m c) (hl : m.length < 1000) : Ctr Try.prog 20 [.ptr 0 0, .sc (.int .i64 k)] [mkB, marksV m c]
    (fun cz => cz = ⟨.tup [plS (leastQ k (plcs m)).1, .sc (.bool (leastQ k (plcs m)).2)], [mkB, marksV m c].map some⟩) := by
  refine Ctr.at 2 rfl ?_
  refine Fnc.start Try.func20 rfl rfl ?_
  (repeat (first | (first | refine y_seq ?_ | refine w_region ?_ | refine y_regEnd ?_ | refine y_skip ?_ | refine y_condF rfl ?_ | refine w_move rfl rfl rfl ?_ | refine w_assign rfl rfl rfl ?_ | refine w_nilCheck rfl rfl rfl ?_ | refine w_fieldAddr rfl rfl rfl (F.fo _ _ rfl rfl) ?_ | refine w_loadB1 rfl rfl rfl (F.ag _ rfl) rfl rfl ?_ | refine w_alloc rfl rfl (F.zl _ rfl) ?_) | refine w_callV (none_spec m c) [0, 1] rfl rfl rfl (by kernel_rfl) rfl (ExtOk.of rfl) rfl (by repeat (first | exact trivial | refine ⟨at_box rfl, ?_⟩ | refine ⟨at_map (fun _ => rfl) rfl, ?_⟩)) ?_))
  (refine w_call rfl rfl rfl (by kernel_rfl) (Ctr.callX (values_spec m c) [1] rfl (ExtOk.of rfl) rfl (by repeat (first | exact trivial | refine ⟨at_map (fun _ => rfl) rfl, ?_⟩)) ?_); rintro _ rfl; refine ⟨_, 1, [1, 3], [some _, some _], rfl, (by repeat (first | exact trivial | refine ⟨ren_map (fun _ => rfl), ?_⟩ | refine ⟨ren_boxT rfl, ?_⟩)), rfl, rfl, ?_⟩; dsimp only [wrL])
  (refine w_call rfl rfl rfl (by kernel_rfl) (Ctr.callX (collect_spec m c hok hl) [3, 1] rfl (ExtOk.of rfl) rfl (by repeat (first | exact trivial | refine ⟨at_box rfl, ?_⟩ | refine ⟨at_map (fun _ => rfl) rfl, ?_⟩)) ?_); rintro _ ⟨done, hp, rfl⟩; refine ⟨_, 1, [3, 1, 4], [some _, some _, some _], rfl, (by repeat (first | exact trivial | refine ⟨ren_dat _ _ _ _ _ _, ?_⟩ | refine ⟨ren_map (fun _ => rfl), ?_⟩ | refine ⟨ren_boxT rfl, ?_⟩)), rfl, rfl, ?_⟩; dsimp only [wrL])
  have hq := qleast_spec false k (done.map (·.2.1)) (by rw [List.length_map, hp.length_eq]; omega)
  rw [leastQ_perm k (hp.map (·.2.1))] at hq
  (refine w_call rfl rfl rfl (by kernel_rfl) (Ctr.callX (hq) [4] rfl (ExtOk.of rfl) rfl (by repeat (first | exact trivial | refine ⟨at_dat rfl, ?_⟩)) ?_); rintro _ rfl; refine ⟨_, 0, [4], [some _], rfl, (by repeat (first | exact trivial | refine ⟨ren_dat _ _ _ _ _ _, ?_⟩)), rfl, rfl, ?_⟩; dsimp only [wrL])
  (repeat (first | refine y_regEnd ?_ | refine w_assign rfl rfl rfl ?_ | refine w_extract rfl rfl rfl rfl ?_ | refine w_storeC rfl rfl rfl rfl (F.sz _ rfl) (by first | exact rfl | (focus (skip; first | exact Tr.at_set_same _ _ _ | assumption))) rfl (by exact Nat.le_of_ble_eq_true rfl) rfl ?_))
  ((apply w_ret Try.func20 (congrArg Array.toList Try.results20)); (focus (repeat (first | exact ResIs.nil | apply ResIs.tmp rfl | apply ResIs.cell rfl (LoadIs.many (F.ag _ rfl) rfl (cellsFrom_box _ 0 rfl rfl))))); refine ⟨_, rfl, Ends.mk [] (ExtOk.of rfl) rfl rfl ?_⟩)
  exact (by repeat (first | exact trivial | refine ⟨at_box rfl, ?_⟩ | refine ⟨at_map (fun _ => rfl) rfl, ?_⟩))
end Go.Proofs.Ytfkfiafohcoomaa
end
section
namespace Go.Proofs.Ytfkfiafohcoomaa
open Go Go.Sy Go.Sl Go.RowKit
def mhaveR (m : MkL) (k : Int) (p : Int × Int) : Bool := if k < 1 then true else (leastQ k (plcs m)).2 && !lessP (leastQ k (plcs m)).1 p
set_option maxRecDepth 100000 in
set_option maxHeartbeats 0 in
theorem mhave_spec (m : MkL) (c : Nat) (k : Int) (p : Int × Int) (hok : KOk m c) (hl : m.length < 1000) : Ctr Try.prog 21 [.ptr 0 0, .sc (.int .i64 k), plS p] [mkB, marksV m c]
    (fun cz => cz = ⟨.sc (.bool (mhaveR m k p)), [mkB, marksV m c].map some⟩) := by
  refine Ctr.at 2 rfl ?_
  refine Fnc.start Try.func21 rfl rfl ?_
  (repeat (first | refine y_seq ?_ | refine w_region ?_ | refine y_regEnd ?_ | refine w_move rfl rfl rfl ?_ | refine w_assign rfl rfl rfl ?_ | refine w_boxN rfl rfl rfl ?_))
  refine w_lssS rfl rfl rfl rfl ?_ ?_
  all_goals intro h1
  · rw [show mhaveR m k p = true by unfold mhaveR; rw [if_pos h1]]
    (repeat (first | refine y_seq ?_ | refine w_region ?_ | refine y_regEnd ?_ | refine y_condT rfl ?_ | refine w_assign rfl rfl rfl ?_))
    ((apply w_ret Try.func21 (congrArg Array.toList Try.results21)); (focus (repeat (first | exact ResIs.nil | apply ResIs.tmp rfl))); refine ⟨_, rfl, Ends.mk [] (ExtOk.of rfl) rfl rfl ?_⟩)
    exact (by repeat (first | exact trivial | refine ⟨at_box rfl, ?_⟩ | refine ⟨at_map (fun _ => rfl) rfl, ?_⟩))
  have hq := mleast_spec m c k hok hl
  have hr : mhaveR m k p = ((leastQ k (plcs m)).2 && !lessP (leastQ k (plcs m)).1 p) := by unfold mhaveR; rw [if_neg (by omega)]
  rw [hr]
  generalize leastQ k (plcs m) = q at hq ⊢
  obtain ⟨q, is⟩ := q
  simp only at hq ⊢
  (repeat (first | refine y_seq ?_ | refine w_region ?_ | refine y_regEnd ?_ | refine y_skip ?_ | refine y_condF rfl ?_ | refine w_move rfl rfl rfl ?_))
  (refine w_call rfl rfl rfl (by kernel_rfl) (Ctr.callX (hq) [0, 1] rfl (ExtOk.of rfl) rfl (by repeat (first | exact trivial | refine ⟨at_box rfl, ?_⟩ | refine ⟨at_map (fun _ => rfl) rfl, ?_⟩)) ?_); rintro _ rfl; refine ⟨_, 0, [0, 1], [some _, some _], rfl, (by repeat (first | exact trivial | refine ⟨ren_map (fun _ => rfl), ?_⟩ | refine ⟨ren_boxT rfl, ?_⟩)), rfl, rfl, ?_⟩; dsimp only [wrL])
  have hls := less_spec q p
  generalize lessP q p = b at hls ⊢
  cases is
  all_goals cases b
  all_goals (repeat (first | (first | refine y_seq ?_ | refine w_region ?_ | refine y_regEnd ?_ | refine w_move rfl rfl rfl ?_ | refine w_assign rfl rfl rfl ?_ | refine w_pickT rfl rfl rfl rfl ?_ | refine w_pickF rfl rfl rfl rfl ?_ | refine w_extract rfl rfl rfl rfl ?_ | refine w_not rfl ?_ | refine w_storeC rfl rfl rfl rfl (F.sz _ rfl) (by first | exact rfl | (focus (skip; first | exact Tr.at_set_same _ _ _ | assumption))) rfl (by exact Nat.le_of_ble_eq_true rfl) rfl ?_ | refine w_loadBN rfl rfl rfl (F.ag _ rfl) rfl rfl ?_ | refine w_alloc rfl rfl (F.zl _ rfl) ?_ | refine w_notB rfl rfl rfl ?_) | refine w_callV (hls) [] rfl rfl rfl (by kernel_rfl) rfl (ExtOk.of rfl) rfl trivial ?_))
  all_goals (((apply w_ret Try.func21 (congrArg Array.toList Try.results21)); (focus (repeat (first | exact ResIs.nil | apply ResIs.tmp rfl))); refine ⟨_, rfl, Ends.mk [] (ExtOk.of rfl) rfl rfl ?_⟩); exact (by repeat (first | exact trivial | refine ⟨at_box rfl, ?_⟩ | refine ⟨at_map (fun _ => rfl) rfl, ?_⟩)))
end Go.Proofs.Ytfkfiafohcoomaa
end
section
namespace Go.Proofs.Ytfkfiafohcoomaa
open Go Go.Sy Go.Sl Go.RowKit
abbrev inV : Int → List Value := fun x => [.int .i64 x]
abbrev inR (ro : Bool) (a : Array Int) : VO := arr ro a.size 1 3 inV a
def okAt (a : Array Int) (j : Nat) : Prop := (1 ≤ a[j]! ∧ a[j]! ≤ 5) ∧ ∀ k, k < j → a[k]! ≠ a[j]!
instance (a : Array Int) (j : Nat) : Decidable (okAt a j) := by unfold okAt; infer_instance
def mayB (a : Array Int) : Bool := decide (∀ j, j < a.size → okAt a j)
theorem may_no {a : Array Int} {j : Nat} (hj : j < a.size) (h : ¬ okAt a j) : mayB a = false := decide_eq_false fun h' => h (h' j hj)
theorem may_yes {a : Array Int} (h : ∀ j, j < a.size → okAt a j) : mayB a = true := decide_eq_true h
set_option maxRecDepth 100000 in
set_option maxHeartbeats 0 in
theorem may_spec (ro : Bool) (a : Array Int) (hn : a.size < 4611686018427387904) : Ctr Try.prog 16 [.slu 0 0 a.size] [inR ro a] (fun cz => cz = ⟨.sc (.bool (mayB a)), [some (inR ro a)]⟩) := by
  refine Ctr.at 1 rfl ?_
  refine Fnc.start Try.func16 rfl rfl ?_
  (repeat (first | refine y_seq ?_ | refine w_region ?_ | refine y_regEnd ?_ | refine y_block ?_ | refine w_assign rfl rfl rfl ?_))
  refine y_loopC 1 (fun i : Nat => [(0, .slu 0 0 a.size), (3, .sc (.int .i64 (i : Int)))]) (fun _ => [some (inR ro a)]) (fun i => i ≤ a.size ∧ ∀ j, j < i → okAt a j) (fun i => a.size - i) 0 []
    (fun _ => rfl) ⟨Nat.zero_le _, fun _ h => absurd h (Nat.not_lt_zero _)⟩ ?_ (fun _ => rfl) (fun _ => rfl) ?_
  · (refine ⟨(ExtOk.of rfl), rfl, (by repeat (first | exact trivial | refine ⟨rfl, ?_⟩)), (by repeat (first | exact trivial | refine ⟨at_dat rfl, ?_⟩))⟩)
  rintro i ⟨hi, hp⟩ ih
  (repeat (first | refine y_seq ?_ | refine w_region ?_ | refine w_move rfl rfl rfl ?_ | refine w_lenSl rfl rfl rfl (F.un _ rfl) ?_))
  refine w_lssS rfl rfl rfl rfl ?_ ?_
  all_goals intro h1
  · (repeat (first | (first | refine y_seq ?_ | refine w_region ?_ | refine y_regEnd ?_ | refine y_block ?_ | refine y_skip ?_ | refine y_condT rfl ?_ | refine w_move rfl rfl rfl ?_) | refine w_idxN (q := i) rfl rfl rfl rfl (F.un _ rfl) (F.sz _ rfl) rfl (by omega) (by omega) (by omega) ?_ | (refine w_ldS (g := fun x => Value.int .i64 x) rfl rfl rfl (F.ag _ rfl) rfl (by omega) (Nat.le_refl _) ?_)))
    refine w_lssS rfl rfl rfl rfl ?_ ?_
    all_goals intro h2
    · (repeat (first | refine y_seq ?_ | refine w_region ?_ | refine y_regEnd ?_ | refine y_condT rfl ?_ | refine w_move rfl rfl rfl ?_ | refine w_assign rfl rfl rfl ?_ | refine w_pickT rfl rfl rfl rfl ?_ | refine w_not rfl ?_))
      rw [may_no (a := a) (j := i) (by omega) (fun h => by have := h.1; omega)]
      ((apply w_ret Try.func16 (congrArg Array.toList Try.results16)); (focus (repeat (first | exact ResIs.nil | apply ResIs.tmp rfl))); refine ⟨_, rfl, Ends.mk [] (ExtOk.of rfl) rfl rfl ?_⟩)
      exact (by repeat (first | exact trivial | refine ⟨at_dat rfl, ?_⟩))
    (repeat (first | (refine w_move rfl rfl rfl ?_) | refine w_idxN (q := i) rfl rfl rfl rfl (F.un _ rfl) (F.sz _ rfl) rfl (by omega) (by omega) (by omega) ?_ | (refine w_ldS (g := fun x => Value.int .i64 x) rfl rfl rfl (F.ag _ rfl) rfl (by omega) (Nat.le_refl _) ?_)))
    refine w_gtrS rfl rfl rfl rfl ?_ ?_
    all_goals intro h3
    · (repeat (first | refine y_seq ?_ | refine w_region ?_ | refine y_regEnd ?_ | refine y_condT rfl ?_ | refine w_assign rfl rfl rfl ?_ | refine w_pickF rfl rfl rfl rfl ?_))
      rw [may_no (a := a) (j := i) (by omega) (fun h => by have := h.1; omega)]
      ((apply w_ret Try.func16 (congrArg Array.toList Try.results16)); (focus (repeat (first | exact ResIs.nil | apply ResIs.tmp rfl))); refine ⟨_, rfl, Ends.mk [] (ExtOk.of rfl) rfl rfl ?_⟩)
      exact (by repeat (first | exact trivial | refine ⟨at_dat rfl, ?_⟩))
    (repeat (first | refine y_seq ?_ | refine w_region ?_ | refine y_regEnd ?_ | refine y_block ?_ | refine y_skip ?_ | refine y_condF rfl ?_ | refine w_assign rfl rfl rfl ?_ | refine w_pickF rfl rfl rfl rfl ?_))
    refine y_loopC 1 (fun k : Nat => [(0, .slu 0 0 a.size), (3, .sc (.int .i64 (i : Int))), (4, .sc (.int .i64 (k : Int)))]) (fun _ => [some (inR ro a)]) (fun k => k ≤ i ∧ ∀ j, j < k → a[j]! ≠ a[i]!) (fun k => i - k) 0 []
      (fun _ => rfl) ⟨Nat.zero_le _, fun _ h => absurd h (Nat.not_lt_zero _)⟩ ?_ (fun _ => rfl) (fun _ => rfl) ?_
    · (refine ⟨(ExtOk.of rfl), rfl, (by repeat (first | exact trivial | refine ⟨rfl, ?_⟩)), (by repeat (first | exact trivial | refine ⟨at_dat rfl, ?_⟩))⟩)
    rintro k ⟨hk, hq⟩ ih2
    (repeat (first | refine y_seq ?_ | refine w_region ?_ | refine w_move rfl rfl rfl ?_))
    refine w_lssS rfl rfl rfl rfl ?_ ?_
    all_goals intro h4
    · (repeat (first | refine y_seq ?_ | refine y_regEnd ?_ | refine y_block ?_ | refine y_skip ?_ | refine y_condT rfl ?_))
      refine w_draw (by kernel_rfl) (by kernel_rfl) ?_
      (repeat (first | (refine dw_move rfl rfl rfl ?_) | refine dw_idxN (q := k) rfl rfl rfl rfl (F.un _ rfl) (F.sz _ rfl) rfl (by omega) (by omega) (by omega) ?_ | refine dw_idxN (q := i) rfl rfl rfl rfl (F.un _ rfl) (F.sz _ rfl) rfl (by omega) (by omega) (by omega) ?_ | (refine dw_ldS (g := fun x => Value.int .i64 x) rfl rfl rfl (F.ag _ rfl) rfl (by omega) (Nat.le_refl _) ?_)))
      refine dw_eqlS rfl rfl rfl rfl ?_ ?_
      all_goals intro h5
      · skip
        (refine dk_nil ?_); (refine ⟨by kernel_rfl, ?_, ?_⟩); (focus (repeat (first | exact trivial | refine ⟨.inl rfl, ?_⟩)))
        (repeat (first | refine y_seq ?_ | refine w_region ?_ | refine y_regEnd ?_ | refine y_condT rfl ?_ | refine w_assign rfl rfl rfl ?_))
        rw [may_no (a := a) (j := i) (by omega) (fun h => h.2 k (by omega) h5)]
        ((apply w_ret Try.func16 (congrArg Array.toList Try.results16)); (focus (repeat (first | exact ResIs.nil | apply ResIs.tmp rfl))); refine ⟨_, rfl, Ends.mk [] (ExtOk.of rfl) rfl rfl ?_⟩)
        exact (by repeat (first | exact trivial | refine ⟨at_dat rfl, ?_⟩))
      · skip
        (refine dk_nil ?_); (refine ⟨by kernel_rfl, ?_, ?_⟩); (focus (repeat (first | exact trivial | refine ⟨.inl rfl, ?_⟩)))
        (repeat (first | refine w_region ?_ | refine y_regEnd ?_ | refine y_inBlock ?_ | refine y_skip ?_ | refine y_condF rfl ?_ | refine w_move rfl rfl rfl ?_ | refine w_assign rfl rfl rfl ?_ | refine w_add rfl rfl rfl rfl (by omega) (by omega) ?_))
        refine ih2 _ _ _ (k + 1) [] ⟨by omega, fun j hj => ?_⟩ (by omega) ?_
        · rcases Nat.lt_or_ge j k with h | h
          · exact hq j h
          · rw [show j = k by omega]; exact h5
        · (refine ⟨(ExtOk.of rfl), rfl, (by repeat (first | exact trivial | refine ⟨rfl, ?_⟩)), (by repeat (first | exact trivial | refine ⟨at_dat rfl, ?_⟩))⟩)
    · (repeat (first | refine w_region ?_ | refine y_regEnd ?_ | refine y_inBlock ?_ | refine y_exit rfl ?_ | refine y_condF rfl ?_ | refine w_move rfl rfl rfl ?_ | refine w_assign rfl rfl rfl ?_ | refine w_add rfl rfl rfl rfl (by omega) (by omega) ?_))
      refine ih _ _ _ (i + 1) [] ⟨by omega, fun j hj => ?_⟩ (by omega) ?_
      · rcases Nat.lt_or_ge j i with h | h
        · exact hp j h
        · rw [show j = i by omega]; exact ⟨by omega, fun q hq' => hq q (by omega)⟩
      · (refine ⟨(ExtOk.of rfl), rfl, (by repeat (first | exact trivial | refine ⟨rfl, ?_⟩)), (by repeat (first | exact trivial | refine ⟨at_dat rfl, ?_⟩))⟩)
  · (repeat (first | refine y_seq ?_ | refine w_region ?_ | refine y_regEnd ?_ | refine y_exit rfl ?_ | refine y_condF rfl ?_ | refine w_assign rfl rfl rfl ?_))
    rw [may_yes (a := a) (fun j hj => hp j (by omega))]
    ((apply w_ret Try.func16 (congrArg Array.toList Try.results16)); (focus (repeat (first | exact ResIs.nil | apply ResIs.tmp rfl))); refine ⟨_, rfl, Ends.mk [] (ExtOk.of rfl) rfl rfl ?_⟩)
    exact (by repeat (first | exact trivial | refine ⟨at_dat rfl, ?_⟩))
end Go.Proofs.Ytfkfiafohcoomaa
end
section
namespace Go.Proofs.Ytfkfiafohcoomaa
open Go Go.Sy Go.Sl Go.RowKit
def newM (a : Array Int) (i : Nat) : MkL := (List.range i).map fun j => (a[j]!, (0, 0), j)
theorem newM_get {a : Array Int} {i : Nat} {k : Int} : kget (newM a i) k = none ↔ ∀ j, j < i → a[j]! ≠ k := by
  rw [kget_none]
  simp [newM]
theorem newM_put {a : Array Int} {i : Nat} (h : ∀ j, j < i → a[j]! ≠ a[i]!) : kput (newM a i) a[i]! (0, 0) i = newM a (i + 1) ∧ kclk (newM a i) a[i]! i = i + 1 := by
  have h' := newM_get.2 h
  refine ⟨?_, kclk_none h' _⟩
  rw [kput_none h']
  simp [newM, List.range_succ]
theorem newM_len (a : Array Int) (i : Nat) : (newM a i).length = i := by simp [newM]
theorem newM_ok {a : Array Int} {i : Nat} (h : ∀ j, j < i → ∀ k, k < j → a[k]! ≠ a[j]!) : KOk (newM a i) i := by
  induction i with
  | zero => exact KOk.nil 0
  | succ i ih =>
    have e := newM_put (a := a) (i := i) (fun j hj => h i (by omega) j hj)
    have := (ih fun j hj k hk => h j (by omega) k hk).put a[i]! (0, 0)
    rw [e.1, e.2] at this
    exact this
set_option maxRecDepth 100000 in
set_option maxHeartbeats 0 in
theorem new_spec (ro : Bool) (a : Array Int) (hn : a.size < 1000) : Ctr Try.prog 17 [.slu 0 0 a.size] [inR ro a]
    (fun cz => cz = if mayB a then ⟨.tup [.ptr 1 0, .sc (.int .i64 0)], [some (inR ro a), some (newCells 65 [.mp 2]), some (marksV (newM a a.size) a.size)]⟩ else ⟨.tup [.sc (.pointer none), .sc (.int .i64 2)], [some (inR ro a)]⟩) := by
  refine Ctr.at 1 rfl ?_
  refine Fnc.start Try.func17 rfl rfl ?_
  (repeat (first | refine y_seq ?_ | refine w_region ?_ | refine y_regEnd ?_ | refine y_block ?_ | refine w_move rfl rfl rfl ?_ | refine w_assign rfl rfl rfl ?_ | refine w_makeMap rfl rfl ?_ | refine w_boxN rfl rfl rfl ?_ | refine w_lenSl rfl rfl rfl (F.un _ rfl) ?_ | refine w_build rfl rfl rfl (F.ze _ rfl) (F.pl _ rfl) rfl ?_))
  refine y_loopC 3 (fun i : Nat => [(0, .slu 0 0 a.size), (2, .sc (.pointer none)), (3, .sc (.int .i64 0)), (4, .ptr 1 0), (12, .slu 0 0 a.size), (13, .sc (.int .i64 (a.size : Int))), (14, .sc (.int .i64 (i : Int)))]) (fun i => [some (inR ro a), some (newCells 65 [.mp 2]), some (marksV (newM a i) i)]) (fun i => i ≤ a.size ∧ ∀ j, j < i → okAt a j) (fun i => a.size - i) 0 [2, 1]
    (fun _ => rfl) ⟨Nat.zero_le _, fun _ h => absurd h (Nat.not_lt_zero _)⟩ ?_ (fun _ => rfl) (fun _ => rfl) ?_
  · exact ⟨(ExtOk.of rfl), rfl, (by repeat (first | exact trivial | refine ⟨rfl, ?_⟩)), (by repeat (first | exact trivial | refine ⟨rfl, ?_⟩ | refine ⟨at_dat rfl, ?_⟩ | refine ⟨at_box rfl, ?_⟩))⟩
  rintro i ⟨hi, hp⟩ ih
  (repeat (first | refine y_seq ?_ | refine w_region ?_))
  refine w_lssS rfl rfl rfl rfl ?_ ?_
  all_goals intro h1
  · (repeat (first | (first | refine y_seq ?_ | refine w_region ?_ | refine y_regEnd ?_ | refine y_block ?_ | refine y_skip ?_ | refine y_condT rfl ?_ | refine w_move rfl rfl rfl ?_ | refine w_assign rfl rfl rfl ?_ | refine w_nilCheck rfl rfl rfl ?_ | refine w_fieldAddr rfl rfl rfl (F.fo _ _ rfl rfl) ?_ | refine w_loadB1 rfl rfl rfl (F.ag _ rfl) rfl rfl ?_) | refine w_idxN (q := i) rfl rfl rfl rfl (F.un _ rfl) (F.sz _ rfl) rfl (by omega) (by omega) (by omega) ?_ | (refine w_ldS (g := fun x => Value.int .i64 x) rfl rfl rfl (F.ag _ rfl) rfl (by omega) (Nat.le_refl _) ?_)))
    cases hg : kget (newM a i) a[i]! with
    | some w =>
      refine w_lookT (m := newM a i) (enc := mkE) (val := mkV) rfl rfl rfl rfl (F.un _ rfl) (mkK) (by first | exact rfl | (focus (skip; first | exact Tr.at_set_same _ _ _ | assumption))) (hg) ?_
      (repeat (first | refine y_seq ?_ | refine w_region ?_ | refine y_regEnd ?_ | refine y_condT rfl ?_ | refine w_move rfl rfl rfl ?_ | refine w_assign rfl rfl rfl ?_ | refine w_pickT rfl rfl rfl rfl ?_ | refine w_extract rfl rfl rfl rfl ?_ | refine w_not rfl ?_ | refine w_storeC rfl rfl rfl rfl (F.sz _ rfl) (by first | exact rfl | (focus (skip; first | exact Tr.at_set_same _ _ _ | assumption))) rfl (by exact Nat.le_of_ble_eq_true rfl) rfl ?_ | refine w_alloc rfl rfl (F.zl _ rfl) ?_))
      have hno : ¬ okAt a i := fun h => by
        have := newM_get.2 h.2
        rw [hg] at this
        cases this
      rw [may_no (a := a) (j := i) (by omega) hno, if_neg (by decide)]
      ((apply w_ret Try.func17 (congrArg Array.toList Try.results17)); (focus (repeat (first | exact ResIs.nil | apply ResIs.tmp rfl))); refine ⟨_, rfl, Ends.mk [] (ExtOk.of rfl) rfl rfl ?_⟩)
      exact (by repeat (first | exact trivial | refine ⟨at_dat rfl, ?_⟩))
    | none =>
      have hd := newM_get.1 hg
      have hpu := newM_put hd
      refine w_lookF (m := newM a i) (enc := mkE) (val := mkV) rfl rfl rfl rfl (F.un _ rfl) (mkK) (by first | exact rfl | (focus (skip; first | exact Tr.at_set_same _ _ _ | assumption))) (hg) (F.ze _ rfl) ?_
      (repeat (first | refine y_seq ?_ | refine w_region ?_ | refine y_regEnd ?_ | refine w_move rfl rfl rfl ?_ | refine w_assign rfl rfl rfl ?_ | refine w_extract rfl rfl rfl rfl ?_ | refine w_storeC rfl rfl rfl rfl (F.sz _ rfl) (by first | exact rfl | (focus (skip; first | exact Tr.at_set_same _ _ _ | assumption))) rfl (by exact Nat.le_of_ble_eq_true rfl) rfl ?_ | refine w_alloc rfl rfl (F.zl _ rfl) ?_))
      refine w_lssS rfl rfl rfl rfl ?_ ?_
      all_goals intro h2
      · (repeat (first | refine y_seq ?_ | refine w_region ?_ | refine y_regEnd ?_ | refine y_condT rfl ?_ | refine w_move rfl rfl rfl ?_ | refine w_assign rfl rfl rfl ?_ | refine w_pickT rfl rfl rfl rfl ?_ | refine w_pickF rfl rfl rfl rfl ?_ | refine w_not rfl ?_))
        rw [may_no (a := a) (j := i) (by omega) (fun h => by have := h.1; omega), if_neg (by decide)]
        ((apply w_ret Try.func17 (congrArg Array.toList Try.results17)); (focus (repeat (first | exact ResIs.nil | apply ResIs.tmp rfl))); refine ⟨_, rfl, Ends.mk [] (ExtOk.of rfl) rfl rfl ?_⟩)
        exact (by repeat (first | exact trivial | refine ⟨at_dat rfl, ?_⟩))
      (repeat (first | refine w_move rfl rfl rfl ?_ | refine w_pickF rfl rfl rfl rfl ?_))
      refine w_gtrS rfl rfl rfl rfl ?_ ?_
      all_goals intro h3
      · (repeat (first | refine y_seq ?_ | refine w_region ?_ | refine y_regEnd ?_ | refine y_condT rfl ?_ | refine w_assign rfl rfl rfl ?_ | refine w_pickF rfl rfl rfl rfl ?_))
        rw [may_no (a := a) (j := i) (by omega) (fun h => by have := h.1; omega), if_neg (by decide)]
        ((apply w_ret Try.func17 (congrArg Array.toList Try.results17)); (focus (repeat (first | exact ResIs.nil | apply ResIs.tmp rfl))); refine ⟨_, rfl, Ends.mk [] (ExtOk.of rfl) rfl rfl ?_⟩)
        exact (by repeat (first | exact trivial | refine ⟨at_dat rfl, ?_⟩))
      (repeat (first | (first | refine w_region ?_ | refine y_regEnd ?_ | refine y_inBlock ?_ | refine y_skip ?_ | refine y_condF rfl ?_ | refine w_move rfl rfl rfl ?_ | refine w_pickF rfl rfl rfl rfl ?_ | refine w_nilCheck rfl rfl rfl ?_ | refine w_fieldAddr rfl rfl rfl (F.fo _ _ rfl rfl) ?_ | refine w_loadB1 rfl rfl rfl (F.ag _ rfl) rfl rfl ?_ | refine w_add rfl rfl rfl rfl (by omega) (by omega) ?_ | refine w_build rfl rfl rfl (F.ze _ rfl) (F.pl _ rfl) rfl ?_) | refine w_mapUp (m := newM a i) (enc := mkE) (val := mkV) (kk := a[i]!) (v := (0, 0)) rfl rfl rfl (F.un _ rfl) (mkK) (by first | exact rfl | (focus (skip; first | exact Tr.at_set_same _ _ _ | assumption))) rfl ?_))
      rw [hpu.1, hpu.2]
      refine ih _ _ _ (i + 1) [1, 2] ⟨by omega, fun j hj => ?_⟩ (by omega) ?_
      · rcases Nat.lt_or_ge j i with h | h
        · exact hp j h
        · rw [show j = i by omega]; exact ⟨by omega, hd⟩
      · exact ⟨(ExtOk.of rfl), rfl, (by repeat (first | exact trivial | refine ⟨rfl, ?_⟩)), (by repeat (first | exact trivial | refine ⟨at_dat rfl, ?_⟩ | refine ⟨at_box rfl, ?_⟩ | refine ⟨at_map (fun _ => rfl) rfl, ?_⟩))⟩
  · (repeat (first | refine y_seq ?_ | refine w_region ?_ | refine y_regEnd ?_ | refine y_exit rfl ?_ | refine y_condF rfl ?_ | refine w_move rfl rfl rfl ?_ | refine w_assign rfl rfl rfl ?_))
    obtain rfl : i = a.size := by omega
    rw [may_yes (a := a) hp, if_pos rfl]
    apply w_ret Try.func17 (congrArg Array.toList Try.results17)
    · (repeat (first | exact ResIs.nil | apply ResIs.tmp rfl))
    refine ⟨_, rfl, Ends.mk [1, 2] (ExtOk.of rfl) rfl rfl ?_⟩
    exact (by repeat (first | exact trivial | refine ⟨at_dat rfl, ?_⟩ | refine ⟨at_box rfl, ?_⟩ | refine ⟨at_map (fun _ => rfl) rfl, ?_⟩))
end Go.Proofs.Ytfkfiafohcoomaa
end
section
namespace Go.Proofs.Ytfkfiafohcoomaa
open Go Go.Sy Go.Sl Go.RowKit
abbrev Td := Int × (Int × Int)
abbrev tdV : Td → List Value := fun x => [.int .i64 x.1, .int .u64 x.2.1, .int .u64 x.2.2]
theorem recT : RecOf tdV 3 := ⟨fun _ => rfl, fun a v hv => by
  simp only [tdV, List.mem_cons, List.not_mem_nil, or_false] at hv
  rcases hv with rfl | rfl | rfl <;> rfl⟩
abbrev tdR (ro : Bool) (t : Array Td) : VO := arr ro t.size 3 49 tdV t
theorem least_yes {l : List (Int × Int)} {k : Nat} (h1 : 1 ≤ k) (h2 : k ≤ l.length) : (leastQ (k : Int) l).2 = true ∧ ∀ p, k ≤ haveP l p ↔ uptoP p (leastQ (k : Int) l).1 = true := by
  have e : leastQ (k : Int) l = ((descP l).getD (k - 1) (0, 0), true) := by
    unfold leastQ
    rw [if_neg (by omega), show ((k : Int) - 1).toNat = k - 1 by omega]
  rw [e]
  refine ⟨rfl, fun p => ?_⟩
  obtain ⟨q, hq⟩ : ∃ q, (descP l)[k - 1]? = some q := ⟨_, List.getElem?_eq_getElem (by rw [desc_length]; omega)⟩
  have := have_desc l p (k - 1)
  rw [hq] at this
  simp only [Option.some.injEq, exists_eq_left'] at this
  rw [getD_of hq, ← this]
  omega
theorem least_mono {l : List (Int × Int)} {k : Nat} (h1 : 1 ≤ k) (h2 : k + 1 ≤ l.length) : uptoP (leastQ ((k + 1 : Nat) : Int) l).1 (leastQ (k : Int) l).1 = true := by
  rw [← (least_yes h1 (by omega)).2]
  have := ((least_yes (l := l) (k := k + 1) (by omega) h2).2 _).2 (upto_refl _)
  omega
theorem least_grow {l l' : List (Int × Int)} {k : Nat} (h1 : 1 ≤ k) (h2 : k ≤ l.length) (hl : l'.length = l.length) (hh : ∀ p, haveP l p ≤ haveP l' p) : uptoP (leastQ (k : Int) l).1 (leastQ (k : Int) l').1 = true := by
  rw [← (least_yes h1 (by omega)).2]
  have := ((least_yes (l := l) h1 h2).2 _).2 (upto_refl _)
  have := hh (leastQ (k : Int) l).1
  omega
theorem tell_facts (m : MkL) (c : Nat) (k : Int) (p : Int × Int) (hok : KOk m c) : KOk (tellR m c k p).1 c ∧ (tellR m c k p).1.length = m.length ∧ ∀ x, haveP (plcs m) x ≤ haveP (plcs (tellR m c k p).1) x := by
  cases hg : kget m k with
  | none =>
    rw [show tellR m c k p = (m, false, 2) by unfold tellR; rw [hg]]
    exact ⟨hok, rfl, fun x => Nat.le_refl _⟩
  | some w =>
    cases hb : lessP w p with
    | false =>
      rw [show tellR m c k p = (m, false, 0) by unfold tellR; rw [hg]; simp only [hb]; rfl]
      exact ⟨hok, rfl, fun x => Nat.le_refl _⟩
    | true =>
      rw [show tellR m c k p = (kput m k p c, true, 0) by unfold tellR; rw [hg]; simp only [hb]; rfl]
      have h1 := hok.put k p
      rw [kclk_some hg] at h1
      obtain ⟨A, B, s, h2, h3⟩ := kput_some hg
      refine ⟨h1, ?_, fun x => ?_⟩
      · rw [h3, h2]
        simp
      · rw [h3, h2]
        simp only [plcs, haveP, List.map_append, List.map_cons, List.filter_append, List.filter_cons, List.length_append]
        have hu : uptoP x w = true → uptoP x p = true := fun h => upto_trans h (by rw [less_not] at hb; exact upto_of_not (by simpa using hb))
        cases h1 : uptoP x w <;> cases h2 : uptoP x p <;> simp_all <;> omega
def LastOk (n : Nat) (m : MkL) (last : Array (Int × Int)) : Prop := ∀ j : Nat, 1 ≤ j → j ≤ n → j < 7 → uptoP last[j]! (leastQ (j : Int) (plcs m)).1 = true
set_option maxRecDepth 100000 in
set_option maxHeartbeats 0 in
theorem grows_spec (ro ro2 : Bool) (a : Array Int) (t : Array Td) : Ctr Try.prog 5 [.slu 0 0 a.size, .slu 1 0 t.size] [inR ro a, tdR ro2 t] (fun cz => cz = ⟨.sc (.bool true), [some (inR ro a), some (tdR ro2 t)]⟩) := by
  refine Ctr.at 2 rfl ?_
  refine Fnc.start Try.func5 rfl rfl ?_
  (repeat (first | refine y_seq ?_ | refine w_region ?_ | refine y_regEnd ?_ | refine w_move rfl rfl rfl ?_ | refine w_assign rfl rfl rfl ?_ | refine w_lenSl rfl rfl rfl (F.un _ rfl) ?_))
  refine w_gtrS rfl rfl rfl rfl ?_ ?_
  all_goals intro h1
  · (repeat (first | (first | refine y_seq ?_ | refine w_region ?_ | refine y_regEnd ?_ | refine y_condT rfl ?_ | refine w_move rfl rfl rfl ?_ | refine w_assign rfl rfl rfl ?_ | refine w_pickT rfl rfl rfl rfl ?_ | refine w_not rfl ?_) | (refine w_sure known_sure rfl rfl (by kernel_rfl) ?_)))
    ((apply w_ret Try.func5 (congrArg Array.toList Try.results5)); (focus (repeat (first | exact ResIs.nil | apply ResIs.tmp rfl))); refine ⟨_, rfl, Ends.mk [] (ExtOk.of rfl) rfl rfl ?_⟩)
    exact (by repeat (first | exact trivial | refine ⟨at_dat rfl, ?_⟩))
  (repeat (first | refine w_move rfl rfl rfl ?_ | refine w_lenSl rfl rfl rfl (F.un _ rfl) ?_))
  refine w_gtrS rfl rfl rfl rfl ?_ ?_
  all_goals intro h2
  · (repeat (first | (first | refine y_seq ?_ | refine w_region ?_ | refine y_regEnd ?_ | refine y_condT rfl ?_ | refine w_move rfl rfl rfl ?_ | refine w_assign rfl rfl rfl ?_ | refine w_pickT rfl rfl rfl rfl ?_ | refine w_pickF rfl rfl rfl rfl ?_ | refine w_not rfl ?_) | (refine w_sure known_sure rfl rfl (by kernel_rfl) ?_)))
    ((apply w_ret Try.func5 (congrArg Array.toList Try.results5)); (focus (repeat (first | exact ResIs.nil | apply ResIs.tmp rfl))); refine ⟨_, rfl, Ends.mk [] (ExtOk.of rfl) rfl rfl ?_⟩)
    exact (by repeat (first | exact trivial | refine ⟨at_dat rfl, ?_⟩))
  have hm := may_spec ro a (by omega)
  have hn := new_spec ro a (by omega)
  cases hb : mayB a
  all_goals rw [hb] at hm hn
  · (repeat (first | (first | refine y_seq ?_ | refine w_region ?_ | refine y_regEnd ?_ | refine y_condT rfl ?_ | refine w_move rfl rfl rfl ?_ | refine w_assign rfl rfl rfl ?_ | refine w_pickF rfl rfl rfl rfl ?_ | refine w_notB rfl rfl rfl ?_) | refine w_callV (hm) [0] rfl rfl rfl (by kernel_rfl) rfl (ExtOk.of rfl) rfl (by repeat (first | exact trivial | refine ⟨at_dat rfl, ?_⟩)) ?_ | (refine w_sure known_sure rfl rfl (by kernel_rfl) ?_)))
    ((apply w_ret Try.func5 (congrArg Array.toList Try.results5)); (focus (repeat (first | exact ResIs.nil | apply ResIs.tmp rfl))); refine ⟨_, rfl, Ends.mk [] (ExtOk.of rfl) rfl rfl ?_⟩)
    exact (by repeat (first | exact trivial | refine ⟨at_dat rfl, ?_⟩))
  rw [if_pos rfl] at hn
  (repeat (first | (first | refine y_seq ?_ | refine w_region ?_ | refine y_regEnd ?_ | refine y_skip ?_ | refine y_condF rfl ?_ | refine w_move rfl rfl rfl ?_ | refine w_pickF rfl rfl rfl rfl ?_ | refine w_notB rfl rfl rfl ?_) | refine w_callV (hm) [0] rfl rfl rfl (by kernel_rfl) rfl (ExtOk.of rfl) rfl (by repeat (first | exact trivial | refine ⟨at_dat rfl, ?_⟩)) ?_))
  (refine w_call rfl rfl rfl (by kernel_rfl) (Ctr.callX (hn) [0] rfl (ExtOk.of rfl) rfl (by repeat (first | exact trivial | refine ⟨at_dat rfl, ?_⟩)) ?_); rintro _ rfl; refine ⟨_, 2, [0, 2, 3], [some _, some _, some _], rfl, (by repeat (first | exact trivial | refine ⟨ren_dat _ _ _ _ _ _, ?_⟩ | refine ⟨ren_map (fun _ => rfl), ?_⟩ | refine ⟨ren_boxT rfl, ?_⟩)), rfl, rfl, ?_⟩; dsimp only [wrL])
  (repeat (first | (first | refine y_seq ?_ | refine w_region ?_ | refine y_regEnd ?_ | refine w_move rfl rfl rfl ?_ | refine w_assign rfl rfl rfl ?_ | refine w_extract rfl rfl rfl rfl ?_ | refine w_eqNil rfl rfl rfl rfl (F.un _ rfl) rfl ?_) | refine w_callV (num_spec 0) [] rfl rfl rfl (by kernel_rfl) rfl (ExtOk.of rfl) rfl trivial ?_))
  refine w_neqS rfl rfl rfl rfl ?_ ?_
  all_goals intro h3
  · exact absurd rfl h3
  (repeat (first | refine y_seq ?_ | refine w_region ?_ | refine y_regEnd ?_ | refine y_block ?_ | refine y_skip ?_ | refine y_condF rfl ?_ | refine w_assign rfl rfl rfl ?_ | refine w_pickF rfl rfl rfl rfl ?_ | refine w_alloc rfl rfl (F.zl _ rfl) ?_))
  have hd0 : ∀ j, j < a.size → okAt a j := of_decide_eq_true hb
  refine y_loopC 5 (fun x : Nat × MkL × Nat × Array (Int × Int) => [(0, .slu 0 0 a.size), (1, .slu 1 0 t.size), (5, .ptr 2 0), (7, .ptr 4 0), (8, .sc (.int .i64 (x.1 : Int)))])
    (fun x => [some (inR ro a), some (tdR ro2 t), some (newCells 65 [.mp 3]), some (marksV x.2.1 x.2.2.1), some (arrC 45 plV x.2.2.2)])
    (fun x => x.1 ≤ t.size ∧ KOk x.2.1 x.2.2.1 ∧ x.2.1.length = a.size ∧ x.2.2.2.size = 7 ∧ LastOk a.size x.2.1 x.2.2.2) (fun x => t.size - x.1) (0, newM a a.size, a.size, #[(0, 0), (0, 0), (0, 0), (0, 0), (0, 0), (0, 0), (0, 0)]) [2, 3, 4]
    (fun _ => rfl) ⟨Nat.zero_le _, newM_ok (fun j hj => (hd0 j hj).2), newM_len _ _, rfl, ?_⟩ ?_ (fun _ => rfl) (fun _ => rfl) ?_
  · intro j g1 g2 g3
    have : (#[(0, 0), (0, 0), (0, 0), (0, 0), (0, 0), (0, 0), (0, 0)] : Array (Int × Int))[j]! = (0, 0) := by
      rcases j with _ | _ | _ | _ | _ | _ | _ | j <;> first | rfl | omega
    rw [this, ← (least_yes g1 (by rw [List.length_map, newM_len]; exact g2)).2]
    have hall : haveP (plcs (newM a a.size)) (0, 0) = a.size := by
      have e : plcs (newM a a.size) = List.replicate a.size (0, 0) := by
        refine List.ext_getElem (by simp [newM]) fun j h1 h2 => ?_
        simp [newM]
      rw [e]
      simp [haveP, uptoP, List.filter_replicate]
    rw [hall]
    exact g2
  · (exact ⟨(ExtOk.of rfl), rfl, (by repeat (first | exact trivial | refine ⟨rfl, ?_⟩)), (by repeat (first | exact trivial | refine ⟨at_dat rfl, ?_⟩ | refine ⟨at_box rfl, ?_⟩ | refine ⟨at_map (fun _ => rfl) rfl, ?_⟩))⟩)
  rintro ⟨i, m, c, last⟩ ⟨hi, hok, hml, hls, hlast⟩ ih
  simp only at hi hok hml hls hlast ih ⊢
  (repeat (first | refine y_seq ?_ | refine w_region ?_ | refine w_move rfl rfl rfl ?_ | refine w_lenSl rfl rfl rfl (F.un _ rfl) ?_))
  refine w_lssS rfl rfl rfl rfl ?_ ?_
  all_goals intro h4
  · (repeat (first | refine y_seq ?_ | refine y_regEnd ?_ | refine y_block ?_ | refine y_skip ?_ | refine y_condT rfl ?_))
    have htl := tell_spec m c t[i]!.1 t[i]!.2
    obtain ⟨hok', hml', hgr⟩ := tell_facts m c t[i]!.1 t[i]!.2 hok
    generalize tellR m c t[i]!.1 t[i]!.2 = r at htl hok' hml' hgr
    obtain ⟨m', tb, te⟩ := r
    simp only at htl hok' hml' hgr
    refine w_draw (by kernel_rfl) (by kernel_rfl) ?_
    (repeat (first | (first | refine dw_move rfl rfl rfl ?_ | refine dw_fieldAddr rfl rfl rfl (F.fo _ _ rfl rfl) ?_) | refine dw_idxN (q := i) rfl rfl rfl rfl (F.un _ rfl) (F.sz _ rfl) rfl (by omega) (by omega) (by omega) ?_ | refine dw_ldF i 0 rfl rfl rfl (F.ag _ rfl) (recT) (by first | exact rfl | (focus (skip; first | exact Tr.at_set_same _ _ _ | assumption))) (by omega) (by omega) (by omega) rfl ?_ | refine dw_ldFN i 1 rfl rfl rfl (F.ag _ rfl) (recT) (by first | exact rfl | (focus (skip; first | exact Tr.at_set_same _ _ _ | assumption))) (by omega) (by omega) (by omega) rfl rfl (by omega) ?_))
    refine dk_call rfl rfl rfl (by kernel_rfl) (Ctr.callY (htl) [2, 3] [2, 3] 0 [some _, some _] rfl (ExtOk.of rfl) rfl (by repeat (first | exact trivial | refine ⟨at_box rfl, ?_⟩ | refine ⟨at_map (fun _ => rfl) rfl, ?_⟩)) rfl (by repeat (first | exact trivial | refine ⟨ren_map (fun _ => rfl), ?_⟩ | refine ⟨ren_boxT rfl, ?_⟩)) rfl rfl rfl rfl) ?_
    (refine dk_nil ?_); (refine ⟨by kernel_rfl, ?_, ?_⟩); (focus (repeat (first | exact trivial | refine ⟨.inl rfl, ?_⟩ | refine ⟨.inr (by (repeat (refine ⟨(by first | exact rd_not rfl | exact rd_cmp rfl rfl (.inr (.inr (.inr (.inr (.inl ⟨rfl, rfl⟩))))) | exact rd_idxN (F.un _ rfl) (F.sz _ rfl) rfl rfl rfl (by omega) (by omega) (by omega) | exact rd_arith rfl rfl (.inl ⟨rfl, (Go.IntWalk.i64_in _ ⟨by omega, by omega⟩).symm⟩) | exact rd_arith rfl rfl (.inr (.inl ⟨rfl, (Go.IntWalk.i64_in _ ⟨by omega, by omega⟩).symm⟩)) | exact rd_fieldAddr (F.fo _ _ rfl rfl) rfl | exact rd_move rfl | exact rd_assign rfl | exact rd_load1 (F.ag _ rfl) rfl rfl (cell_box rfl) | exact rd_loadN (F.ag _ rfl) rfl rfl (cellsFrom_box _ 0 rfl rfl) | exact rd_extract rfl rfl | exact rd_lenSl (F.un _ rfl) rfl | exact rd_lenStr (F.un _ rfl) rfl | exact rd_nilCheck rfl | exact rd_pickT rfl rfl | exact rd_pickF rfl rfl), ?_⟩)); exact trivial), ?_⟩ | refine ⟨.inl (by kernel_rfl), ?_⟩)))
    dsimp only [wrL]
    (repeat (first | refine y_seq ?_ | refine w_region ?_ | refine y_regEnd ?_ | refine y_block ?_ | refine w_assign rfl rfl rfl ?_))
    refine y_loopC 5 (fun x : Nat × Array (Int × Int) => [(0, .slu 0 0 a.size), (1, .slu 1 0 t.size), (5, .ptr 2 0), (7, .ptr 4 0), (8, .sc (.int .i64 (i : Int))), (9, .sc (.int .i64 (x.1 : Int)))])
      (fun x => [some (inR ro a), some (tdR ro2 t), some (newCells 65 [.mp 3]), some (marksV m' c), some (arrC 45 plV x.2)])
      (fun x => 1 ≤ x.1 ∧ x.1 ≤ 7 ∧ x.1 ≤ a.size + 1 ∧ x.2.size = 7 ∧ LastOk a.size m' x.2 ∧ (1 < x.1 → x.2[x.1 - 1]! = (leastQ ((x.1 - 1 : Nat) : Int) (plcs m')).1)) (fun x => 7 - x.1) (1, last) [2, 3, 4]
      (fun _ => rfl) ⟨Nat.le_refl _, (by show 1 ≤ 7; omega), (by show 1 ≤ a.size + 1; omega), hls, fun j g1 g2 g3 => upto_trans (hlast j g1 g2 g3) (least_grow g1 (by rw [List.length_map]; omega) (by simpa using hml') hgr), fun h => absurd h (by show ¬ 1 < 1; omega)⟩ ?_ (fun _ => rfl) (fun _ => rfl) ?_
    · (exact ⟨(ExtOk.of rfl), rfl, (by repeat (first | exact trivial | refine ⟨rfl, ?_⟩)), (by repeat (first | exact trivial | refine ⟨at_dat rfl, ?_⟩ | refine ⟨at_box rfl, ?_⟩ | refine ⟨at_map (fun _ => rfl) rfl, ?_⟩ | refine ⟨at_arrC rfl, ?_⟩))⟩)
    rintro ⟨k, last2⟩ ⟨hk1, hk7, hka, hls2, hlast2, hk⟩ ih2
    simp only at hk1 hk7 hka hls2 hlast2 hk ih2 ⊢
    (repeat (first | refine y_seq ?_ | refine w_region ?_ | refine w_move rfl rfl rfl ?_ | refine w_lenSl rfl rfl rfl (F.un _ rfl) ?_))
    refine w_leqS rfl rfl rfl rfl ?_ ?_
    all_goals intro h5
    · (repeat (refine w_move rfl rfl rfl ?_))
      refine w_lssS rfl rfl rfl rfl ?_ ?_
      all_goals intro h6
      · have hly := least_yes (l := plcs m') (k := k) hk1 (by rw [List.length_map]; omega)
        have hle := mleast_spec m' c (k : Int) hok' (by omega)
        rw [hly.1] at hle
        have hmo : 1 < k → uptoP (leastQ (k : Int) (plcs m')).1 last2[k - 1]! = true := fun h => by
          rw [hk h]
          have := least_mono (l := plcs m') (k := k - 1) (by omega) (by rw [List.length_map]; omega)
          rwa [show k - 1 + 1 = k by omega] at this
        have hup := hlast2 k hk1 (by omega) (by omega)
        have hmh := fun p => mhave_spec m' c (k : Int) p hok' (by omega)
        have hmr : mhaveR m' (k : Int) (leastQ (k : Int) (plcs m')).1 = true := by
          unfold mhaveR
          rw [if_neg (by omega), hly.1, less_not, upto_refl]
          rfl
        have hmh := hmh (leastQ (k : Int) (plcs m')).1
        rw [hmr] at hmh
        have hst : ∀ j : Nat, 1 ≤ j → j ≤ a.size → j < 7 → uptoP (last2.setIfInBounds k (leastQ (k : Int) (plcs m')).1)[j]! (leastQ (j : Int) (plcs m')).1 = true := by
          intro j g1 g2 g3
          by_cases hj : j = k
          · subst hj
            rw [getElem!_pos _ j (by rw [Array.size_setIfInBounds]; omega), Array.getElem_setIfInBounds_self]
            exact upto_refl _
          · have := hlast2 j g1 g2 g3
            rw [getElem!_pos _ j (by rw [Array.size_setIfInBounds]; omega), Array.getElem_setIfInBounds_ne (by omega) (by omega)]
            rwa [getElem!_pos _ j (by omega)] at this
        have hst2 : (last2.setIfInBounds k (leastQ (k : Int) (plcs m')).1)[k]! = (leastQ (k : Int) (plcs m')).1 := by
          rw [getElem!_pos _ k (by rw [Array.size_setIfInBounds]; omega), Array.getElem_setIfInBounds_self]
        generalize hqe : (leastQ (k : Int) (plcs m')).1 = q at hle hmo hup hmh hst hst2
        have hl1 := less_spec q last2[k]!
        rw [less_not, hup] at hl1
        have hl2 := less_spec last2[k - 1]! q
        rw [less_not] at hl2
        (repeat (first | refine y_seq ?_ | refine w_region ?_ | refine y_regEnd ?_ | refine y_block ?_ | refine y_skip ?_ | refine y_condT rfl ?_ | refine w_move rfl rfl rfl ?_ | refine w_pickT rfl rfl rfl rfl ?_))
        (refine w_call rfl rfl rfl (by kernel_rfl) (Ctr.callX (hle) [2, 3] rfl (ExtOk.of rfl) rfl (by repeat (first | exact trivial | refine ⟨at_box rfl, ?_⟩ | refine ⟨at_map (fun _ => rfl) rfl, ?_⟩)) ?_); rintro _ rfl; refine ⟨_, 0, [2, 3], [some _, some _], rfl, (by repeat (first | exact trivial | refine ⟨ren_map (fun _ => rfl), ?_⟩ | refine ⟨ren_boxT rfl, ?_⟩)), rfl, rfl, ?_⟩; dsimp only [wrL])
        (repeat (first | refine y_seq ?_ | refine y_regEnd ?_ | refine w_move rfl rfl rfl ?_ | refine w_assign rfl rfl rfl ?_ | refine w_extract rfl rfl rfl rfl ?_ | refine w_storeC rfl rfl rfl rfl (F.sz _ rfl) (by first | exact rfl | (focus (skip; first | exact Tr.at_set_same _ _ _ | assumption))) rfl (by exact Nat.le_of_ble_eq_true rfl) rfl ?_ | refine w_alloc rfl rfl (F.zl _ rfl) ?_))
        refine w_draw (by kernel_rfl) (by kernel_rfl) ?_
        (repeat (first | (first | refine dw_move rfl rfl rfl ?_ | refine dw_pickF rfl rfl rfl rfl ?_ | refine dw_loadBN rfl rfl rfl (F.ag _ rfl) rfl rfl ?_ | refine dw_notB rfl rfl rfl ?_) | refine dw_idxA (q := k) rfl rfl rfl rfl (F.un _ rfl) (F.sz _ rfl) (by omega) (by omega) ?_ | refine dw_ldA k rfl rfl rfl (F.ag _ rfl) (recP) (by first | exact rfl | (focus (skip; first | exact Tr.at_set_same _ _ _ | assumption))) (by omega) (by omega) ?_ | refine dk_call rfl rfl rfl (by kernel_rfl) (Ctr.callV (hl1) [] rfl (ExtOk.of rfl) rfl trivial rfl) ?_))
        refine dw_gtrS rfl rfl rfl rfl ?_ ?_
        all_goals intro h7
        · rw [hmo (by omega)] at hl2
          (repeat (first | (first | refine dw_move rfl rfl rfl ?_ | refine dw_pickT rfl rfl rfl rfl ?_ | refine dw_pickF rfl rfl rfl rfl ?_ | refine dw_loadBN rfl rfl rfl (F.ag _ rfl) rfl rfl ?_ | refine dw_sub rfl rfl rfl rfl (by omega) (by omega) ?_ | refine dw_notB rfl rfl rfl ?_) | refine dw_idxA (q := (k - 1)) rfl rfl rfl rfl (F.un _ rfl) (F.sz _ rfl) (by omega) (by omega) ?_ | refine dw_ldA (k - 1) rfl rfl rfl (F.ag _ rfl) (recP) (by first | exact rfl | (focus (skip; first | exact Tr.at_set_same _ _ _ | assumption))) (by omega) (by omega) ?_ | refine dk_call rfl rfl rfl (by kernel_rfl) (Ctr.callV (hl2) [] rfl (ExtOk.of rfl) rfl trivial rfl) ?_ | refine dk_call rfl rfl rfl (by kernel_rfl) (Ctr.callV (hmh) [2, 3] rfl (ExtOk.of rfl) rfl (by repeat (first | exact trivial | refine ⟨at_box rfl, ?_⟩ | refine ⟨at_map (fun _ => rfl) rfl, ?_⟩)) rfl) ?_))
          (refine dk_nil ?_); (refine ⟨by kernel_rfl, ?_, ?_⟩)
          · (repeat (first | exact trivial | refine ⟨.inl rfl, ?_⟩ | refine ⟨.inr (by (repeat (refine ⟨(by first | exact rd_not rfl | exact rd_cmp rfl rfl (.inr (.inr (.inr (.inr (.inl ⟨rfl, rfl⟩))))) | exact rd_idxN (F.un _ rfl) (F.sz _ rfl) rfl rfl rfl (by omega) (by omega) (by omega) | exact rd_arith rfl rfl (.inl ⟨rfl, (Go.IntWalk.i64_in _ ⟨by omega, by omega⟩).symm⟩) | exact rd_arith rfl rfl (.inr (.inl ⟨rfl, (Go.IntWalk.i64_in _ ⟨by omega, by omega⟩).symm⟩)) | exact rd_fieldAddr (F.fo _ _ rfl rfl) rfl | exact rd_move rfl | exact rd_assign rfl | exact rd_load1 (F.ag _ rfl) rfl rfl (cell_box rfl) | exact rd_loadN (F.ag _ rfl) rfl rfl (cellsFrom_box _ 0 rfl rfl) | exact rd_extract rfl rfl | exact rd_lenSl (F.un _ rfl) rfl | exact rd_lenStr (F.un _ rfl) rfl | exact rd_nilCheck rfl | exact rd_pickT rfl rfl | exact rd_pickF rfl rfl), ?_⟩)); exact trivial), ?_⟩ | refine ⟨.inl (by kernel_rfl), ?_⟩))
          (repeat (first | (first | refine w_region ?_ | refine y_regEnd ?_ | refine y_inBlock ?_ | refine y_skip ?_ | refine y_condF rfl ?_ | refine w_move rfl rfl rfl ?_ | refine w_assign rfl rfl rfl ?_ | refine w_loadBN rfl rfl rfl (F.ag _ rfl) rfl rfl ?_ | refine w_add rfl rfl rfl rfl (by omega) (by omega) ?_) | refine w_idxA (q := k) rfl rfl rfl rfl (F.un _ rfl) (F.sz _ rfl) (by omega) (by omega) ?_ | refine w_stA (v := q) k rfl rfl rfl rfl (F.sz _ rfl) (recP) (by first | exact rfl | (focus (skip; first | exact Tr.at_set_same _ _ _ | assumption))) (by omega) (by omega) ?_))
          refine ih2 _ _ _ (k + 1, last2.setIfInBounds k q) [2, 3, 4] ⟨by simp only; omega, by simp only; omega, by simp only; omega, by simp only [Array.size_setIfInBounds]; exact hls2, hst, fun _ => by simp only [Nat.add_sub_cancel]; rw [hqe]; exact hst2⟩ (by simp only; omega) ?_
          (exact ⟨(ExtOk.of rfl), rfl, (by repeat (first | exact trivial | refine ⟨rfl, ?_⟩)), (by repeat (first | exact trivial | refine ⟨at_dat rfl, ?_⟩ | refine ⟨at_box rfl, ?_⟩ | refine ⟨at_map (fun _ => rfl) rfl, ?_⟩ | refine ⟨at_arrC rfl, ?_⟩))⟩)
        · (repeat (first | (first | refine dw_move rfl rfl rfl ?_ | refine dw_pickF rfl rfl rfl rfl ?_ | refine dw_loadBN rfl rfl rfl (F.ag _ rfl) rfl rfl ?_ | refine dw_notB rfl rfl rfl ?_ | refine dk_skip rfl rfl ?_) | refine dk_call rfl rfl rfl (by kernel_rfl) (Ctr.callV (hmh) [2, 3] rfl (ExtOk.of rfl) rfl (by repeat (first | exact trivial | refine ⟨at_box rfl, ?_⟩ | refine ⟨at_map (fun _ => rfl) rfl, ?_⟩)) rfl) ?_))
          (refine dk_nil ?_); (refine ⟨by kernel_rfl, ?_, ?_⟩)
          · (repeat (first | exact trivial | refine ⟨.inl rfl, ?_⟩ | refine ⟨.inr (by (repeat (refine ⟨(by first | exact rd_not rfl | exact rd_cmp rfl rfl (.inr (.inr (.inr (.inr (.inl ⟨rfl, rfl⟩))))) | exact rd_idxN (F.un _ rfl) (F.sz _ rfl) rfl rfl rfl (by omega) (by omega) (by omega) | exact rd_arith rfl rfl (.inl ⟨rfl, (Go.IntWalk.i64_in _ ⟨by omega, by omega⟩).symm⟩) | exact rd_arith rfl rfl (.inr (.inl ⟨rfl, (Go.IntWalk.i64_in _ ⟨by omega, by omega⟩).symm⟩)) | exact rd_fieldAddr (F.fo _ _ rfl rfl) rfl | exact rd_move rfl | exact rd_assign rfl | exact rd_load1 (F.ag _ rfl) rfl rfl (cell_box rfl) | exact rd_loadN (F.ag _ rfl) rfl rfl (cellsFrom_box _ 0 rfl rfl) | exact rd_extract rfl rfl | exact rd_lenSl (F.un _ rfl) rfl | exact rd_lenStr (F.un _ rfl) rfl | exact rd_nilCheck rfl | exact rd_pickT rfl rfl | exact rd_pickF rfl rfl), ?_⟩)); exact trivial), ?_⟩ | refine ⟨.inl (by kernel_rfl), ?_⟩))
          (repeat (first | (first | refine w_region ?_ | refine y_regEnd ?_ | refine y_inBlock ?_ | refine y_skip ?_ | refine y_condF rfl ?_ | refine w_move rfl rfl rfl ?_ | refine w_assign rfl rfl rfl ?_ | refine w_loadBN rfl rfl rfl (F.ag _ rfl) rfl rfl ?_ | refine w_add rfl rfl rfl rfl (by omega) (by omega) ?_) | refine w_idxA (q := k) rfl rfl rfl rfl (F.un _ rfl) (F.sz _ rfl) (by omega) (by omega) ?_ | refine w_stA (v := q) k rfl rfl rfl rfl (F.sz _ rfl) (recP) (by first | exact rfl | (focus (skip; first | exact Tr.at_set_same _ _ _ | assumption))) (by omega) (by omega) ?_))
          refine ih2 _ _ _ (k + 1, last2.setIfInBounds k q) [2, 3, 4] ⟨by simp only; omega, by simp only; omega, by simp only; omega, by simp only [Array.size_setIfInBounds]; exact hls2, hst, fun _ => by simp only [Nat.add_sub_cancel]; rw [hqe]; exact hst2⟩ (by simp only; omega) ?_
          (exact ⟨(ExtOk.of rfl), rfl, (by repeat (first | exact trivial | refine ⟨rfl, ?_⟩)), (by repeat (first | exact trivial | refine ⟨at_dat rfl, ?_⟩ | refine ⟨at_box rfl, ?_⟩ | refine ⟨at_map (fun _ => rfl) rfl, ?_⟩ | refine ⟨at_arrC rfl, ?_⟩))⟩)
      · (repeat (first | refine w_region ?_ | refine y_regEnd ?_ | refine y_inBlock ?_ | refine y_exit rfl ?_ | refine y_condF rfl ?_ | refine w_move rfl rfl rfl ?_ | refine w_assign rfl rfl rfl ?_ | refine w_pickT rfl rfl rfl rfl ?_ | refine w_add rfl rfl rfl rfl (by omega) (by omega) ?_))
        refine ih _ _ _ (i + 1, m', c, last2) [2, 3, 4] ⟨by simp only; omega, hok', by simp only; omega, hls2, hlast2⟩ (by simp only; omega) ?_
        (exact ⟨(ExtOk.of rfl), rfl, (by repeat (first | exact trivial | refine ⟨rfl, ?_⟩)), (by repeat (first | exact trivial | refine ⟨at_dat rfl, ?_⟩ | refine ⟨at_box rfl, ?_⟩ | refine ⟨at_map (fun _ => rfl) rfl, ?_⟩ | refine ⟨at_arrC rfl, ?_⟩))⟩)
    · (repeat (first | refine w_region ?_ | refine y_regEnd ?_ | refine y_inBlock ?_ | refine y_exit rfl ?_ | refine y_condF rfl ?_ | refine w_move rfl rfl rfl ?_ | refine w_assign rfl rfl rfl ?_ | refine w_pickF rfl rfl rfl rfl ?_ | refine w_not rfl ?_ | refine w_add rfl rfl rfl rfl (by omega) (by omega) ?_))
      refine ih _ _ _ (i + 1, m', c, last2) [2, 3, 4] ⟨by simp only; omega, hok', by simp only; omega, hls2, hlast2⟩ (by simp only; omega) ?_
      (exact ⟨(ExtOk.of rfl), rfl, (by repeat (first | exact trivial | refine ⟨rfl, ?_⟩)), (by repeat (first | exact trivial | refine ⟨at_dat rfl, ?_⟩ | refine ⟨at_box rfl, ?_⟩ | refine ⟨at_map (fun _ => rfl) rfl, ?_⟩ | refine ⟨at_arrC rfl, ?_⟩))⟩)
  · (repeat (first | (first | refine y_seq ?_ | refine w_region ?_ | refine y_regEnd ?_ | refine y_exit rfl ?_ | refine y_condF rfl ?_ | refine w_assign rfl rfl rfl ?_) | (refine w_sure known_sure rfl rfl (by kernel_rfl) ?_)))
    ((apply w_ret Try.func5 (congrArg Array.toList Try.results5)); (focus (repeat (first | exact ResIs.nil | apply ResIs.tmp rfl))); refine ⟨_, rfl, Ends.mk [] (ExtOk.of rfl) rfl rfl ?_⟩)
    exact (by repeat (first | exact trivial | refine ⟨at_dat rfl, ?_⟩))
end Go.Proofs.Ytfkfiafohcoomaa
end
section
namespace Go.Sl
open Go Go.RowKit Go.WideShapes Go.ChangeShapes
theorem post_new {H : Type} {enc : TypeId × Value → H} {P : Program} {f : Func} {s : ChangeSpec} {apart fresh handsOn again : Bool} {W W' : World} {args : Array Value} {v : Value} {ds gs : List (DataW H)} {before pa pv : List MemPlace}
    (hW : DataW.Whole enc P f.params.toList s.vars apart W args.toList ds gs before) (hb : Below W.heap.size W W') (hps : before = pa ++ pv)
    (hres : ∀ (b : Nat) (sp : Nat → Bool) (hd : Bool), DataW.TrodAll enc P W' b sp hd f.resultTypes.toList (v.resultList f.resultTypes.size) (s.fn H (ds ++ gs)).results [])
    (hargs : ∀ sp : Nat → Bool, (∀ p ∈ before, sp p.block = true) → DataW.TrodAll enc P W' 0 sp true f.params.toList args.toList (s.fn H (ds ++ gs)).args pa)
    (hvars : ∀ sp : Nat → Bool, (∀ p ∈ before, sp p.block = true) → DataW.TrodVars enc P W' sp s.vars (s.fn H (ds ++ gs)).vars pv)
    (hok : ∀ (j : Nat) (t : TypeId) (r : Value), f.resultTypes[j]? = some t → (v.resultList f.resultTypes.size)[j]? = some r → Value.okWide P W' .any 0 t r) :
    s.post enc P f apart fresh handsOn again W args v W' := by
  have hsp : ∀ p ∈ before, (fun b => decide (b < W.heap.size)) p.block = true := fun p hp => by simpa using hW.lt p hp
  have hmem : ∀ p, p ∈ pa ++ pv ↔ p ∈ before := fun p => by rw [hps]
  refine ⟨ds, gs, before, [], pa, pv, hW, hres _ _ _, hargs _ hsp, hvars _ hsp, World.keptBut_mono (fun p hp => ⟨hp, ?_⟩) (hb.frame (· ∈ before)), fun _ => ?_⟩
  · have := (hmem p).2 hp
    rw [List.mem_append] at this
    exact .inr this
  obtain ⟨_, _, _, _, _, hz, hn⟩ := id hW
  refine ⟨hok, _, _, ([] ++ pa) ++ pv, ⟨[] ++ pa, pv, trodAll_append (hargs _ (fun _ _ => rfl)) (hres _ _ _), hvars _ (fun _ _ => rfl), rfl, fun b off hp => ?_, fun ha => ?_⟩, fun p hp _ => ?_⟩
  · have hin : MemPlace.cell b off ∈ before := (hmem _).1 (by simpa using hp)
    rw [hb.frozen (hW.lt _ hin)]
    exact hz b off hin
  · have := hn ha
    rw [hps] at this
    simpa using this
  · exact (hmem p).1 (by simpa using hp)
end Go.Sl
end
section
namespace Go.Sy
open Go Go.Sl Go.RowKit Go.WideShapes
theorem rowAt_off (p : Program) (fits : TypeId → Bool) (d : Nat) (e : TypeId) (count off n : Nat) (h : rowAt p fits d e count off n = true) : off ≤ count * p.cellsOf e := by
  cases d with
  | zero => simp [rowAt] at h
  | succ d =>
    unfold rowAt at h
    simp only at h
    split at h
    · cases h
    · rename_i hs
      have hdiv := Nat.div_add_mod off (p.cellsOf e)
      rw [Bool.or_eq_true] at h
      rcases h with h | h
      · simp only [Bool.and_eq_true, beq_iff_eq, decide_eq_true_eq] at h
        obtain ⟨⟨h1, h2⟩, _⟩ := h
        have : p.cellsOf e * (off / p.cellsOf e) ≤ p.cellsOf e * count := Nat.mul_le_mul_left _ (by omega)
        rw [Nat.mul_comm count]
        omega
      · rw [Bool.and_eq_true, decide_eq_true_eq] at h
        have hm := Nat.mod_lt off (Nat.pos_of_ne_zero hs)
        have : p.cellsOf e * (off / p.cellsOf e + 1) ≤ p.cellsOf e * count := Nat.mul_le_mul_left _ (by omega)
        rw [Nat.mul_add, Nat.mul_one] at this
        rw [Nat.mul_comm count]
        omega
theorem liesAt_off (p : Program) : ∀ (d : Nat) (e : TypeId) (count off : Nat) (u : TypeId) (n : Nat), liesAt p d e count off u n = true → off ≤ count * p.cellsOf e
  | 0, _, _, _, _, _, h => by simp [liesAt] at h
  | d + 1, e, count, off, u, n, h => by
    unfold liesAt at h
    rw [Bool.or_eq_true] at h
    rcases h with h | h
    · exact rowAt_off p _ _ e count off n h
    · split at h
      · exact liesAt_off p d e count off _ _ h
      · cases h
theorem mapM_range {A : Type} {f : Nat → Option A} : ∀ {n : Nat} {l : List A}, (List.range n).mapM f = some l → l.length = n ∧ ∀ i, i < n → f i = l[i]? := by
  intro n
  induction n with
  | zero => intro l h; simp at h; subst h; exact ⟨rfl, fun i hi => by omega⟩
  | succ n ih =>
    intro l h
    rw [List.range_succ, List.mapM_append] at h
    simp only [Option.bind_eq_bind, Option.bind_eq_some_iff] at h
    obtain ⟨a, ha, b, hb, hl⟩ := h
    obtain ⟨h1, h2⟩ := ih ha
    cases hf : f n with
    | none => simp [hf] at hb
    | some x =>
      simp [hf] at hb
      subst hb
      simp at hl
      subst hl
      refine ⟨by simp [h1], fun i hi => ?_⟩
      rcases Nat.lt_or_ge i n with h | h
      · rw [List.getElem?_append_left (by omega)]; exact h2 i h
      · obtain rfl : i = n := by omega
        rw [hf, List.getElem?_append_right (by omega), h1]
        simp
theorem slice_arg {b0 : Nat} {H : Type} {enc : TypeId × Value → H} {P : Program} {w : World} {t e : TypeId} {sz : Nat} {v : Value} {dd : DataW H} {p : List MemPlace} (ht : P.underlying t = some (.slice e)) (hc : P.cellsOf e = sz) (h0 : 0 < sz)
    (hT : DataW.Trod enc P w 0 (fun _ => true) true t v dd p) (hok : Value.okWide P w .any b0 t v) :
    (v = .slice none 0 0) ∨ ∃ (b o len cap : Nat) (cs : Array Value) (tt : TypeId) (fz : Nat × Nat), v = .slice (some ⟨b, o, none⟩) len cap ∧ w.heap[b]? = some (.cells cs tt fz) ∧ len ≤ cap ∧ cap ≤ maxLen ∧ o + cap * sz ≤ cs.size ∧
      ∀ i, i < len → ∃ us : List Value, us.length = sz ∧ (∀ j, j < sz → cs[o + i * sz + j]? = us[j]?) ∧ ∃ n y, DataW.trod enc P w 0 (fun _ => true) true n e us = some y := by
  obtain ⟨fuel, hT⟩ := hT
  obtain ⟨a0, len0, cap0, rfl⟩ := okWide_slice ht hok
  have hcells : (Value.slice a0 len0 cap0).cells.toList = [.slice a0 len0 cap0] := rfl
  rw [hcells] at hT
  rcases DataW.trod_slice ht hT with ⟨h1, _⟩ | ⟨a, len, cap, elems, rest, n, _, h1, _, _, h3, h4, h5, h6, h7, _⟩
  · left
    simpa using h1
  · right
    simp only [List.cons.injEq, and_true, Value.slice.injEq] at h1
    obtain ⟨rfl, rfl, rfl⟩ := h1
    unfold Value.okWide at hok
    rw [ht] at hok
    simp only at hok
    unfold Cell.okWide at hok
    rw [ht] at hok
    simp only at hok
    unfold Cell.ok at hok
    rw [ht] at hok
    simp only at hok
    obtain ⟨_, _, _, hsp, row, cells, hsh, hli⟩ := hok
    obtain ⟨b, o, sp⟩ := a
    simp only at hsp hsh hli h6 h7
    subst hsp
    unfold World.shape? at hsh
    cases hob : w.heap[b]? with
    | none => rw [hob] at hsh; cases hsh
    | some ob =>
      rw [hob] at hsh
      cases ob with
      | cells cs tt fz =>
        simp only [Option.some.injEq, Prod.mk.injEq] at hsh
        obtain ⟨rfl, rfl⟩ := hsh
        have hoff := liesAt_off P _ _ _ _ _ _ hli
        have hoff2 : o ≤ cs.size := Nat.le_trans hoff (Nat.div_mul_le_self _ _)
        have hcell : ∀ q : Nat, w.cell? ⟨b, q, none⟩ = cs[q]? := fun q => by simp [World.cell?, hob]
        have hget : ∀ (q : Nat) (us : List Value), w.cells? 0 ((⟨b, o, none⟩ : Addr).add (q * P.cellsOf e)) (P.cellsOf e) = some us → us.length = sz ∧ ∀ j, j < sz → cs[o + q * sz + j]? = us[j]? := by
          intro q us hus
          rw [add_plain] at hus
          unfold World.cells? at hus
          rw [if_pos (Nat.zero_le _)] at hus
          obtain ⟨g1, g2⟩ := mapM_range hus
          rw [hc] at g1 g2 hus
          refine ⟨g1, fun j hj => ?_⟩
          have := g2 j hj
          rw [add_plain, hcell] at this
          exact this
        refine ⟨b, o, len0, cap0, cs, tt, fz, rfl, hob, h3, h4, ?_, fun i hi => ?_⟩
        · rcases Nat.eq_zero_or_pos cap0 with hz | hz
          · subst hz; simpa using hoff2
          · have hlast : ∃ us, w.cells? 0 ((⟨b, o, none⟩ : Addr).add ((cap0 - 1) * P.cellsOf e)) (P.cellsOf e) = some us := by
              rcases Nat.lt_or_ge (cap0 - 1) len0 with hl | hl
              · have h8 := h6 (cap0 - 1) hl
                rw [List.getElem?_eq_getElem (by omega)] at h8
                cases hcs : w.cells? 0 ((⟨b, o, none⟩ : Addr).add ((cap0 - 1) * P.cellsOf e)) (P.cellsOf e) with
                | none => rw [hcs] at h8; cases h8
                | some us => exact ⟨us, rfl⟩
              · obtain ⟨h9, h10⟩ := h7 trivial
                have h8 := h10 (cap0 - 1 - len0) (by omega)
                rw [List.getElem?_eq_getElem (by omega), show len0 + (cap0 - 1 - len0) = cap0 - 1 by omega] at h8
                cases hcs : w.cells? 0 ((⟨b, o, none⟩ : Addr).add ((cap0 - 1) * P.cellsOf e)) (P.cellsOf e) with
                | none => rw [hcs] at h8; cases h8
                | some us => exact ⟨us, rfl⟩
            obtain ⟨us, hus⟩ := hlast
            obtain ⟨g1, g2⟩ := hget _ _ hus
            have g3 := g2 (sz - 1) (by omega)
            rw [List.getElem?_eq_getElem (show sz - 1 < us.length by omega)] at g3
            have g4 := (Array.getElem?_eq_some_iff.1 g3).1
            have : cap0 * sz = (cap0 - 1) * sz + sz := by
              conv => lhs; rw [show cap0 = cap0 - 1 + 1 by omega, Nat.add_mul, Nat.one_mul]
            omega
        · have h8 := h6 i hi
          rw [List.getElem?_eq_getElem (by omega)] at h8
          cases hcs : w.cells? 0 ((⟨b, o, none⟩ : Addr).add (i * P.cellsOf e)) (P.cellsOf e) with
          | none => rw [hcs] at h8; cases h8
          | some us =>
            rw [hcs] at h8
            simp only [Option.bind_some] at h8
            obtain ⟨g1, g2⟩ := hget _ _ hcs
            exact ⟨us, g1, g2, n, _, h8⟩
      | _ => cases hsh
def oldZone (w : World) : Zone := ⟨fun j => j < w.heap.size, fun j => j < w.heap.size, fun _ h => h⟩
theorem kept_refl (w : World) : Kept (oldZone w) w w := ⟨rfl, rfl, rfl, Nat.le_refl _, fun _ h => h, fun _ _ => rfl⟩
theorem below_of {w0 w : World} (h : Kept (oldZone w0) w0 w) : Below w0.heap.size w0 w := ⟨h.os, h.tape, h.output, h.size, fun j hj => h.block j hj⟩
def argEnt (sz : Nat) : Value → Ent
  | .slice (some a) _ cap => ⟨a.block, a.off, cap, sz, false⟩
  | _ => ⟨0, 0, 0, sz, true⟩
def ArgRow {A : Type} (w : World) (sz : Nat) (f : A → List Value) (v : Value) (l : List A) : Prop :=
  (v = .slice none 0 0 ∧ l = []) ∨ ∃ (b o len cap : Nat) (cs : Array Value) (tt : TypeId) (fz : Nat × Nat), v = .slice (some ⟨b, o, none⟩) len cap ∧ w.heap[b]? = some (.cells cs tt fz) ∧ len = l.length ∧ len ≤ cap ∧ cap ≤ maxLen ∧ o + cap * sz ≤ cs.size ∧
    ∀ i c, l[i]? = some c → ∀ j, j < sz → cs[o + i * sz + j]? = (f c)[j]?
theorem argRow_of {b0 : Nat} {A : Type} {H : Type} {enc : TypeId × Value → H} {P : Program} {w : World} {t e : TypeId} {sz : Nat} {v : Value} {dd : DataW H} {p : List MemPlace} {f : A → List Value} (ht : P.underlying t = some (.slice e)) (hc : P.cellsOf e = sz) (h0 : 0 < sz)
    (hT : DataW.Trod enc P w 0 (fun _ => true) true t v dd p) (hok : Value.okWide P w .any b0 t v) (hf : ∀ n us y, DataW.trod enc P w 0 (fun _ => true) true n e us = some y → ∃ a, us = f a) : ∃ l : List A, ArgRow w sz f v l := by
  rcases slice_arg ht hc h0 hT hok with h | ⟨b, o, len, cap, cs, tt, fz, h1, h2, h3, h4, h5, h6⟩
  · exact ⟨[], .inl ⟨h, rfl⟩⟩
  · have hex : ∀ i, i < len → ∃ a : A, ∀ j, j < sz → cs[o + i * sz + j]? = (f a)[j]? := by
      intro i hi
      obtain ⟨us, g1, g2, n, y, g3⟩ := h6 i hi
      obtain ⟨a, rfl⟩ := hf n us y g3
      exact ⟨a, g2⟩
    refine ⟨(List.range len).attach.map (fun i => Classical.choose (hex i.1 (List.mem_range.1 i.2))), .inr ⟨b, o, len, cap, cs, tt, fz, h1, h2, by simp, h3, h4, h5, ?_⟩⟩
    intro i c hi j hj
    rw [List.getElem?_map] at hi
    obtain ⟨q, hq, rfl⟩ := Option.map_eq_some_iff.1 hi
    have hq1 : q.1 = i := by
      obtain ⟨hlt, hh⟩ := List.getElem?_eq_some_iff.1 hq
      rw [← hh]
      simp
    have := Classical.choose_spec (hex q.1 (List.mem_range.1 q.2)) j hj
    rw [← hq1]
    exact this
theorem ArgRow.conc {A : Type} {w : World} {sz : Nat} {f : A → List Value} {v : Value} {l : List A} (h : ArgRow w sz f v l) {e : Env} {b : Nat} (he : e b = some (argEnt sz v)) : (SV.slu b 0 l.length).conc e = some v := by
  rcases h with ⟨rfl, rfl⟩ | ⟨b', o, len, cap, cs, tt, fz, rfl, h2, rfl, h3, h4, h5, h6⟩
  · simp [SV.conc, he, argEnt, Ent.at]
  · simp [SV.conc, he, argEnt, Ent.at]
theorem flat_get {A : Type} {f : A → List Value} {sz : Nat} (hf : ∀ a, (f a).length = sz) : ∀ (l : List A) (i j : Nat), j < sz → (l.flatMap f)[i * sz + j]? = (l[i]?).bind (fun c => (f c)[j]?)
  | [], i, j, _ => by simp
  | a :: l, 0, j, hj => by
    rw [List.flatMap_cons, List.getElem?_append_left (by rw [hf]; omega)]
    simp
  | a :: l, i + 1, j, hj => by
    rw [List.flatMap_cons, List.getElem?_append_right (by rw [hf, Nat.add_mul]; omega), hf, show (i + 1) * sz + j - sz = i * sz + j by rw [Nat.add_mul]; omega, flat_get hf l i j hj]
    simp
theorem ArgRow.lies {A : Type} {w : World} {sz : Nat} {f : A → List Value} {v : Value} {l : List A} (h : ArgRow w sz f v l) (hf : ∀ a, (f a).length = sz) (h0 : 0 < sz) (rt : TypeId) (e : Env) : Lies (oldZone w) w e (dat true l.length sz rt (l.flatMap f)) (argEnt sz v) := by
  rcases h with ⟨rfl, rfl⟩ | ⟨b, o, len, cap, cs, tt, fz, rfl, h2, rfl, h3, h4, h5, h6⟩
  · exact .inr ⟨rfl, rfl, true, rt, _, rfl, h0⟩
  · refine .inl ⟨rfl, .cells cs tt fz, ⟨fun _ => lt_of_heap h2, fun h => by cases h⟩, h2, rfl, cs, fz, tt, rfl, h3, h5, h4, (fun h => by cases h), h0, fun i hi s hs => ?_⟩
    have hs' : ((l.flatMap f)[i]?).map SV.sc = some s := hs
    obtain ⟨u, hu, rfl⟩ := Option.map_eq_some_iff.1 hs'
    refine ⟨u, rfl, ?_⟩
    have hdm := Nat.div_add_mod i sz
    have hm := Nat.mod_lt i h0
    have e1 : i = i / sz * sz + i % sz := by rw [Nat.mul_comm]; omega
    rw [e1, flat_get hf l _ _ hm] at hu
    obtain ⟨c, hc, hcu⟩ := Option.bind_eq_some_iff.1 hu
    have := h6 (i / sz) c hc (i % sz) hm
    show cs[o + i]? = some u
    rw [e1, ← Nat.add_assoc, this]
    exact hcu
theorem St.init {w : World} {e : Env} {H : Heap} {nx : Nat} (h1 : ∀ id vo, H.at' id = some vo → vo.ro = true ∧ ∃ x, e id = some x ∧ Lies (oldZone w) w e vo x) (h2 : ∀ i, nx ≤ i → e i = none) : St (oldZone w) w e H nx w :=
  ⟨kept_refl w, fun id vo h => (h1 id vo h).2, fun id id' vo vo' x x' h _ _ _ _ _ _ hr _ => by (rw [(h1 id vo h).1] at hr; cases hr), h2⟩
end Go.Sy
end
section
namespace Go.Proofs.Ytfkfiafohcoomaa
open Go Go.Sy Go.ChangeShapes Go.WideShapes Go.ChangeAt Go.RowKit
theorem trod_int_is {H : Type} {enc : TypeId × Value → H} {P : Program} {w : World} {base : Nat} {sp : Nat → Bool} {held : Bool} {n : Nat} {t : TypeId} {k : IntKind} {cs : List Value} {y : DataW H × List MemPlace} (hu : P.underlying t = some (.int k)) (h : DataW.trod enc P w base sp held n t cs = some y) : ∃ x, cs = [.int k x] := by
  cases n with
  | zero => simp [DataW.trod] at h
  | succ n =>
    unfold DataW.trod at h
    rw [hu] at h
    split at h <;> simp_all
theorem trod_pl {H : Type} {enc : TypeId × Value → H} {w : World} {base : Nat} {sp : Nat → Bool} {held : Bool} {n : Nat} {us : List Value} {y : DataW H × List MemPlace} (h : DataW.trod enc Try.prog w base sp held n 25 us = some y) : ∃ a : Int × Int, us = plV a := by
  obtain ⟨f, g, hl, _, f2, f3, _, g2, g3⟩ := fPl2
  have ht : Try.prog.underlying 25 = some (.struct #[f, g]) := by
    rw [uPl, show Try.prog.fieldsOf 25 = #[f, g] from Array.ext' hl]
  have hu : Try.prog.underlying 23 = some (.int .u64) := by kernel_rfl
  have h1 : Try.prog.cellsOf 23 = 1 := by kernel_rfl
  have h2 : Try.prog.cellsOf 25 = 2 := by kernel_rfl
  obtain ⟨y0, y1, m, _, hlen, g4, g5⟩ := trod_struct2 ht h
  rw [f2, f3, h1] at g4
  rw [g2, g3, h1] at g5
  rw [h2] at hlen
  obtain ⟨a, ha⟩ := trod_int_is hu g4
  obtain ⟨b, hb⟩ := trod_int_is hu g5
  rcases us with _ | ⟨x, _ | ⟨z, _ | ⟨_, _⟩⟩⟩
  · simp at hlen
  · simp at hlen
  · simp at ha hb
    exact ⟨(a, b), by rw [ha, hb]; rfl⟩
  · simp at hlen
theorem own : ownKnob Try.prog.godebug = none := by kernel_rfl
theorem laid : laidOutB Try.prog = true := by kernel_rfl
end Go.Proofs.Ytfkfiafohcoomaa
end
section
namespace Go.Proofs.Ytfkfiafohcoomaa
open Go Go.Sy Go.ChangeShapes Go.WideShapes Go.ChangeAt Go.RowKit
theorem trod_in {H : Type} {enc : TypeId × Value → H} {w : World} {base : Nat} {sp : Nat → Bool} {held : Bool} {n : Nat} {us : List Value} {y : DataW H × List MemPlace} (h : DataW.trod enc Try.prog w base sp held n 3 us = some y) : ∃ a : Int, us = inV a :=
  trod_int_is (F.un 3 rfl) h
theorem uTd : Try.prog.underlying 49 = some (.struct (Try.prog.fieldsOf 49)) := by kernel_rfl
def fdsTd : List (Bool × TypeId × Nat) := [(true, 3, 0), (true, 25, 1)]
theorem fTd : (Try.prog.fieldsOf 49).toList.map (fun f => (f.name != "_", f.type, f.offset)) = fdsTd := by kernel_rfl
theorem fTd2 : ∃ f g : Field, (Try.prog.fieldsOf 49).toList = [f, g] ∧ f.type = 3 ∧ f.offset = 0 ∧ g.type = 25 ∧ g.offset = 1 := by
  have h := fTd
  generalize (Try.prog.fieldsOf 49).toList = l at h
  have hl : l.length = 2 := by simpa [fdsTd] using congrArg List.length h
  rcases l with _ | ⟨f, _ | ⟨g, _ | ⟨x, l⟩⟩⟩
  · simp at hl
  · simp at hl
  · simp only [List.map_cons, List.map_nil, fdsTd, List.cons.injEq, Prod.mk.injEq, and_true, bne_iff_ne] at h
    exact ⟨f, g, rfl, h.1.2.1, h.1.2.2, h.2.2.1, h.2.2.2⟩
  · simp at hl
theorem trod_td {H : Type} {enc : TypeId × Value → H} {w : World} {base : Nat} {sp : Nat → Bool} {held : Bool} {n : Nat} {us : List Value} {y : DataW H × List MemPlace} (h : DataW.trod enc Try.prog w base sp held n 49 us = some y) : ∃ a : Td, us = tdV a := by
  obtain ⟨f, g, hl, f2, f3, g2, g3⟩ := fTd2
  have ht : Try.prog.underlying 49 = some (.struct #[f, g]) := by
    rw [uTd, show Try.prog.fieldsOf 49 = #[f, g] from Array.ext' hl]
  have h1 : Try.prog.cellsOf 3 = 1 := by kernel_rfl
  have h2 : Try.prog.cellsOf 25 = 2 := by kernel_rfl
  have h3 : Try.prog.cellsOf 49 = 3 := by kernel_rfl
  obtain ⟨y0, y1, m, _, hlen, g4, g5⟩ := trod_struct2 ht h
  rw [f2, f3, h1] at g4
  rw [g2, g3, h2] at g5
  rw [h3] at hlen
  obtain ⟨a, ha⟩ := trod_in g4
  obtain ⟨b, hb⟩ := trod_pl g5
  rcases us with _ | ⟨x, _ | ⟨z, _ | ⟨u, _ | ⟨_, _⟩⟩⟩⟩
  · simp at hlen
  · simp at hlen
  · simp at hlen
  · simp [inV] at ha
    simp [plV] at hb
    exact ⟨(a, b), by simp [tdV, ha, hb]⟩
  · simp at hlen
end Go.Proofs.Ytfkfiafohcoomaa
end
