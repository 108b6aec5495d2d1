/-
  Texts of the proof, merged: SyMp SyOm LkM LkW L1 L2 SyOn L3 L4 L7 L8 L11 SyOs L6 L5.
-/
import Derived.Laws.StructEq
import Derived.Test.YtckajlllkmkniaaA3
set_option linter.unusedVariables false
set_option linter.unusedSimpArgs false
section
namespace Go.Sy
open Go Go.Sl Go.RowKit
theorem pureRun_under {P : Program} {t : TypeId} {d : TypeDesc} {A : Type} (f : TypeDesc → Sem A) (h : P.underlying t = some d) : pureRun P (underlying t >>= f) = pureRun P (f d) := by
  show pureRun P ((match P.underlying t with | some d => (pure d : Sem TypeDesc) | none => stuck "no such type").bind f) = _
  rw [h]
  rfl
section
variable {K V : Type} [DecidableEq K]
structure KEnc (P : Program) (kt : TypeId) (enc : K → Value) : Prop where
  find : ∀ (l : List (K × SV × Nat)) (k : K), findK P kt (enc k) (l.map fun x => (enc x.1, x.2)) = some (l.findIdx? fun x => decide (x.1 = k))
  check : ∀ k, pureRun P (Instr.checkKey false 10000 kt (enc k)) = some ()
  bits : ∀ k, Instr.sameBits 10000 (enc k) (enc k) = true
theorem findNow_enc {enc : K → Value} {kd : TypeDesc} (hs : ∀ a b, Instr.sameNow kd (enc a) (enc b) = some (decide (a = b))) (k : K) : ∀ (l : List (K × SV × Nat)) (i : Nat),
    Instr.findNow kd (enc k) (dummies (l.map fun x => (enc x.1, x.2))) i = some ((l.findIdx? fun x => decide (x.1 = k)).map fun j => (i + j, .nilFunc))
  | [], i => rfl
  | x :: l, i => by
    simp only [dummies, List.map_cons, Instr.findNow, hs, List.findIdx?_cons]
    by_cases h : x.1 = k
    · simp [h]
    · have h' : ¬ k = x.1 := fun e => h e.symm
      have ih := findNow_enc hs k l (i + 1)
      simp only [dummies] at ih
      simp only [h, h', decide_false, ih, Option.map_map, Bool.false_eq_true, if_false]
      congr 2
      funext j
      simp only [Function.comp_apply, Prod.mk.injEq, and_true]
      omega
theorem check_plain {P : Program} {kt : TypeId} {kd : TypeDesc} {v : Value} (h : P.underlying kt = some kd) (hk : (match kd with | .interface _ | .array .. | .struct _ => false | _ => true) = true) (e : Bool) (n : Nat) :
    pureRun P (Instr.checkKey e (n + 1) kt v) = some () := by
  unfold Instr.checkKey
  rw [pureRun_under _ h]
  cases kd <;> first | rfl | simp at hk
theorem kenc_of {P : Program} {kt : TypeId} {kd : TypeDesc} {enc : K → Value} (h : P.underlying kt = some kd) (hk : (match kd with | .interface _ | .array .. | .struct _ => false | _ => true) = true) (hs : ∀ a b, Instr.sameNow kd (enc a) (enc b) = some (decide (a = b)))
    (hb : ∀ k, Instr.sameBits 10000 (enc k) (enc k) = true) : KEnc P kt enc := by
  refine ⟨fun l k => ?_, fun k => check_plain h hk _ _, hb⟩
  unfold findK
  rw [check_plain h hk]
  simp only
  unfold Instr.findKey
  rw [pureRun_under _ h]
  simp only [findNow_enc hs]
  cases l.findIdx? fun x => decide (x.1 = k) <;> simp [pure, pureRun]
theorem kenc_str {P : Program} {kt : TypeId} (h : P.underlying kt = some .string) : KEnc P kt (fun s : ByteArray => .string s) :=
  kenc_of h rfl (fun a b => by simp only [Instr.sameNow, Option.some.injEq]; rw [Bool.eq_iff_iff]; simp [MapKept.bytes_beq]) (fun k => by simp [Instr.sameBits, MapKept.bytes_beq])
def kget (m : List (K × V × Nat)) (k : K) : Option V := (m.find? fun x => decide (x.1 = k)).map (·.2.1)
def kput : List (K × V × Nat) → K → V → Nat → List (K × V × Nat)
  | [], k, v, c => [(k, v, c)]
  | x :: m, k, v, c => if x.1 = k then (k, v, x.2.2) :: m else x :: kput m k v c
def kclk (m : List (K × V × Nat)) (k : K) (c : Nat) : Nat := match kget m k with
  | some _ => c
  | none => c + 1
def kdel : List (K × V × Nat) → K → List (K × V × Nat)
  | [], _ => []
  | x :: m, k => if x.1 = k then m else x :: kdel m k
abbrev mapL (enc : K → Value) (val : V → SV) (m : List (K × V × Nat)) : List (Value × SV × Nat) := m.map fun x => (enc x.1, val x.2.1, x.2.2)
abbrev mapV (enc : K → Value) (val : V → SV) (m : List (K × V × Nat)) (c : Nat) : VO := .map (mapL enc val m) c
structure KOk (m : List (K × V × Nat)) (c : Nat) : Prop where
  keys : (m.map (·.1)).Nodup
  born : (m.map (·.2.2)).Nodup
  lt : ∀ x ∈ m, x.2.2 < c
omit [DecidableEq K] in
theorem KOk.nil (c : Nat) : KOk ([] : List (K × V × Nat)) c := ⟨by simp, by simp, by simp⟩
theorem kidx (m : List (K × V × Nat)) (k : K) : match m.findIdx? fun x => decide (x.1 = k) with
    | none => kget m k = none ∧ kdel m k = m ∧ ∀ v c, kput m k v c = m ++ [(k, v, c)]
    | some i => ∃ x, m[i]? = some x ∧ x.1 = k ∧ kget m k = some x.2.1 ∧ kdel m k = m.eraseIdx i ∧ ∀ v c, kput m k v c = m.set i (k, v, x.2.2) := by
  induction m with
  | nil => simp [kget, kdel, kput]
  | cons y m ih =>
    rw [List.findIdx?_cons]
    by_cases h : y.1 = k
    · simp [h, kget, kdel, kput]
    · simp only [h, decide_false, Bool.false_eq_true, if_false]
      cases hi : m.findIdx? fun x => decide (x.1 = k) with
      | none =>
        rw [hi] at ih
        obtain ⟨h1, h2, h3⟩ := ih
        refine ⟨?_, ?_, fun v c => ?_⟩
        · simpa [kget, h] using h1
        · simp [kdel, h, h2]
        · simp [kput, h, h3]
      | some i =>
        rw [hi] at ih
        obtain ⟨x, h1, h2, h3, h4, h5⟩ := ih
        refine ⟨x, by simpa using h1, h2, ?_, ?_, fun v c => ?_⟩
        · simpa [kget, h] using h3
        · simp [kdel, h, h4]
        · simp [kput, h, h5]
theorem kget_none {m : List (K × V × Nat)} {k : K} : kget m k = none ↔ k ∉ m.map (·.1) := by
  induction m with
  | nil => simp [kget]
  | cons y m ih =>
    by_cases h : y.1 = k
    · simp [kget, h]
    · have : kget (y :: m) k = kget m k := by simp [kget, h]
      rw [this, ih]
      simp [Ne.symm h]
theorem kput_none {m : List (K × V × Nat)} {k : K} (h : kget m k = none) (v : V) (c : Nat) : kput m k v c = m ++ [(k, v, c)] := by
  have hk := kidx m k
  cases hi : m.findIdx? fun x => decide (x.1 = k) with
  | none => rw [hi] at hk; exact hk.2.2 v c
  | some i => rw [hi] at hk; obtain ⟨x, _, _, h3, _⟩ := hk; rw [h] at h3; cases h3
theorem KOk.put {m : List (K × V × Nat)} {c : Nat} (h : KOk m c) (k : K) (v : V) : KOk (kput m k v c) (kclk m k c) := by
  have hk := kidx m k
  cases hi : m.findIdx? fun x => decide (x.1 = k) with
  | none =>
    rw [hi] at hk
    obtain ⟨h1, _, h3⟩ := hk
    rw [h3, show kclk m k c = c + 1 by simp [kclk, h1]]
    refine ⟨?_, ?_, ?_⟩
    · rw [List.map_append, List.nodup_append]
      exact ⟨h.keys, by simp, fun a ha b hb => by simp at hb; subst hb; intro e; subst e; exact kget_none.1 h1 ha⟩
    · rw [List.map_append, List.nodup_append]
      refine ⟨h.born, by simp, fun a ha b hb => ?_⟩
      simp at hb
      subst hb
      obtain ⟨x, hx, rfl⟩ := List.mem_map.1 ha
      have := h.lt x hx
      omega
    · intro x hx
      rcases List.mem_append.1 hx with hx | hx
      · have := h.lt x hx; omega
      · simp at hx; subst hx; show c < c + 1; omega
  | some i =>
    rw [hi] at hk
    obtain ⟨x, h1, h2, h3, _, h5⟩ := hk
    rw [h5, show kclk m k c = c by simp [kclk, h3]]
    obtain ⟨hlt, rfl⟩ := List.getElem?_eq_some_iff.1 h1
    refine ⟨?_, ?_, ?_⟩
    · rw [List.map_set]
      rw [show (m.map (·.1)).set i k = m.map (·.1) by rw [← h2]; apply List.ext_getElem?; intro j; rw [List.getElem?_set]; by_cases hj : i = j
                                                      · subst hj; simp [hlt]
                                                      · simp [hj]]
      exact h.keys
    · rw [List.map_set]
      rw [show (m.map (·.2.2)).set i m[i].2.2 = m.map (·.2.2) by apply List.ext_getElem?; intro j; rw [List.getElem?_set]; by_cases hj : i = j
                                                                 · subst hj; simp [hlt]
                                                                 · simp [hj]]
      exact h.born
    · intro y hy
      rcases List.mem_or_eq_of_mem_set hy with hy | rfl
      · exact h.lt y hy
      · exact h.lt m[i] (List.getElem_mem hlt)
omit [DecidableEq K] in
theorem KOk.sub {m m' : List (K × V × Nat)} {c : Nat} (h : KOk m c) (hs : m'.Sublist m) : KOk m' c := ⟨h.keys.sublist (hs.map _), h.born.sublist (hs.map _), fun x hx => h.lt x (hs.subset hx)⟩
theorem kdel_sub (m : List (K × V × Nat)) (k : K) : (kdel m k).Sublist m := by
  induction m with
  | nil => exact List.Sublist.refl _
  | cons y m ih =>
    unfold kdel
    split
    · exact List.sublist_cons_self _ _
    · exact ih.cons_cons _
theorem KOk.del {m : List (K × V × Nat)} {c : Nat} (h : KOk m c) (k : K) : KOk (kdel m k) c := h.sub (kdel_sub m k)
omit [DecidableEq K] in
theorem KOk.eq {m : List (K × V × Nat)} {c : Nat} (h : KOk m c) {x y : K × V × Nat} (hx : x ∈ m) (hy : y ∈ m) (hb : x.2.2 = y.2.2) : x = y := by
  obtain ⟨i, hi⟩ := List.getElem?_of_mem hx
  obtain ⟨j, hj⟩ := List.getElem?_of_mem hy
  obtain ⟨hi', rfl⟩ := List.getElem?_eq_some_iff.1 hi
  obtain ⟨hj', rfl⟩ := List.getElem?_eq_some_iff.1 hj
  have : i = j := by
    refine (List.getElem_inj (h₀ := by simpa using hi') (h₁ := by simpa using hj') h.born).1 ?_
    simpa using hb
  subst this
  rfl
omit [DecidableEq K] in
theorem KOk.nodup {m : List (K × V × Nat)} {c : Nat} (h : KOk m c) : m.Nodup := by
  have := h.born
  exact List.Pairwise.of_map (·.2.2) (fun a b hab e => hab (by rw [e])) this
theorem map_eraseIdx' {A B : Type} (f : A → B) : ∀ (l : List A) (i : Nat), (l.map f).eraseIdx i = (l.eraseIdx i).map f
  | [], _ => rfl
  | x :: l, 0 => rfl
  | x :: l, i + 1 => by simp [map_eraseIdx' f l i]
abbrev itV (b c : Nat) (done : List (K × V × Nat)) : VO := .iter (some b) c (done.map (·.2.2)) c
variable {P : Program} {T : Tr SV} {H : Heap} {nx : Nat} {d : Option Tmp} {ty : TypeId} {pos : String} {af : Array Edge} {gd : Option (Nat × Bool)}
theorem findK_map {kt : TypeId} {enc : K → Value} {val : V → SV} (hE : KEnc P kt enc) (m : List (K × V × Nat)) (k : K) : findK P kt (enc k) (mapL enc val m) = some (m.findIdx? fun x => decide (x.1 = k)) := by
  have := hE.find (m.map fun x => (x.1, val x.2.1, x.2.2)) k
  rw [List.map_map] at this
  rw [show mapL enc val m = m.map ((fun x : K × SV × Nat => (enc x.1, x.2)) ∘ fun x : K × V × Nat => (x.1, val x.2.1, x.2.2)) from rfl, this]
  congr 1
  rw [List.findIdx?_map]
  rfl
theorem rd_look {enc : K → Value} {val : V → SV} {m : List (K × V × Nat)} {c : Nat} {t kt e : TypeId} {x y : Operand} {b : Nat} {kk : K} {v : V} {ok : Bool} (hx : evalS T x = some (.mp b)) (hy : evalS T y = some (.sc (enc kk))) (hu : P.underlying t = some (.map kt e)) (hE : KEnc P kt enc)
    (hb : H.at' b = some (mapV enc val m c)) (hg : kget m kk = some v) : ReadDoes P T H ⟨d, .lookup t x y ok, ty, pos, af, gd⟩ (bif ok then .tup [val v, .sc (.bool true)] else val v) := by
  refine rd_of ?_
  have hk := kidx m kk
  unfold readOp
  simp only [litS, hy, SV.lit, Option.bind_some, hx, lookupS, hu, hb, findK_map hE]
  cases hi : m.findIdx? fun x => decide (x.1 = kk) with
  | none => rw [hi] at hk; rw [hk.1] at hg; cases hg
  | some i =>
    rw [hi] at hk
    obtain ⟨z, h1, _, h3, _⟩ := hk
    rw [hg] at h3
    simp only [Option.some.injEq] at h3
    subst h3
    simp only [List.getElem?_map, h1, Option.map_some]
theorem rd_lookZ {enc : K → Value} {val : V → SV} {m : List (K × V × Nat)} {c : Nat} {t kt e : TypeId} {x y : Operand} {b : Nat} {kk : K} {z : Value} {ok : Bool} (hx : evalS T x = some (.mp b)) (hy : evalS T y = some (.sc (enc kk))) (hu : P.underlying t = some (.map kt e)) (hE : KEnc P kt enc)
    (hb : H.at' b = some (mapV enc val m c)) (hg : kget m kk = none) (hz : zeroT P e = some z) : ReadDoes P T H ⟨d, .lookup t x y ok, ty, pos, af, gd⟩ (bif ok then .tup [.sc z, .sc (.bool false)] else .sc z) := by
  refine rd_of ?_
  have hk := kidx m kk
  unfold readOp
  simp only [litS, hy, SV.lit, Option.bind_some, hx, lookupS, hu, hb, findK_map hE]
  cases hi : m.findIdx? fun x => decide (x.1 = kk) with
  | none => simp only [hz]
  | some i =>
    rw [hi] at hk
    obtain ⟨z, h1, _, h3, _⟩ := hk
    rw [hg] at h3
    cases h3
theorem op_mapUp {enc : K → Value} {val : V → SV} {m : List (K × V × Nat)} {c : Nat} {t kt e : TypeId} {x y w : Operand} {b : Nat} {kk : K} {v : V} (hx : evalS T x = some (.mp b)) (hy : evalS T y = some (.sc (enc kk))) (hu : P.underlying t = some (.map kt e)) (hE : KEnc P kt enc)
    (hb : H.at' b = some (mapV enc val m c)) (hw : evalS T w = some (val v)) : OpDoes P T H nx ⟨d, .mapUpdate t x y w, ty, pos, af, gd⟩ (.skip, H.set b (mapV enc val (kput m kk v c) (kclk m kk c)), nx) := by
  refine ed_of ?_
  have hk := kidx m kk
  unfold effOp
  simp only [litS, hy, SV.lit, Option.bind_some, hx, hw, mapUpS, hu, hb, putK, hE.check, findK_map hE]
  cases hi : m.findIdx? fun x => decide (x.1 = kk) with
  | none =>
    rw [hi] at hk
    obtain ⟨h1, _, h3⟩ := hk
    simp only [mapV, mapL, h3, kclk, h1, List.map_append, List.map_cons, List.map_nil]
  | some i =>
    rw [hi] at hk
    obtain ⟨z, h1, h2, h3, _, h5⟩ := hk
    simp only [mapV, mapL, h5, kclk, h3, List.getElem?_map, h1, Option.map_some, h2, hE.bits, cond_true, List.map_set]
theorem op_mapDel {enc : K → Value} {val : V → SV} {m : List (K × V × Nat)} {c : Nat} {t kt e : TypeId} {x y : Operand} {b : Nat} {kk : K} (hx : evalS T x = some (.mp b)) (hy : evalS T y = some (.sc (enc kk))) (hu : P.underlying t = some (.map kt e)) (hE : KEnc P kt enc)
    (hb : H.at' b = some (mapV enc val m c)) : OpDoes P T H nx ⟨d, .call { callee := .builtin .delete, args := #[x, y], argTypes := #[t, kt] }, ty, pos, af, gd⟩ (.val (.sc (.tuple #[])), H.set b (mapV enc val (kdel m kk) c), nx) := by
  refine ed_of ?_
  have hk := kidx m kk
  unfold effOp
  simp only [evalL, hx, hy, Option.bind_some, builtinS, SV.lit, mapDelS, hu, hb, findK_map hE]
  cases hi : m.findIdx? fun x => decide (x.1 = kk) with
  | none =>
    rw [hi] at hk
    simp only [mapV, hk.2.1]
  | some i =>
    rw [hi] at hk
    obtain ⟨z, h1, h2, h3, h4, h5⟩ := hk
    simp only [mapV, mapL, h4, map_eraseIdx']
omit [DecidableEq K] in
theorem rd_lenMap {enc : K → Value} {val : V → SV} {m : List (K × V × Nat)} {c : Nat} {t kt e : TypeId} {x : Operand} {b : Nat} (hx : evalS T x = some (.mp b)) (hu : P.underlying t = some (.map kt e)) (hb : H.at' b = some (mapV enc val m c)) :
    ReadDoes P T H ⟨d, .call { callee := .builtin .len, args := #[x], argTypes := #[t] }, ty, pos, af, gd⟩ (.sc (.int .i64 m.length)) := by
  refine rd_of ?_
  unfold readOp
  simp only [lenCall, hx, Option.bind_some, lenS, hu, hb, List.length_map]
omit [DecidableEq K] in
theorem op_range {enc : K → Value} {val : V → SV} {m : List (K × V × Nat)} {c : Nat} {t kt e : TypeId} {x : Operand} {b : Nat} (hx : evalS T x = some (.mp b)) (hu : P.underlying t = some (.map kt e)) (hb : H.at' b = some (mapV enc val m c)) :
    OpDoes P T H nx ⟨d, .range t x, ty, pos, af, gd⟩ (.val (.ptr nx 0), H.set nx (itV b c ([] : List (K × V × Nat))), nx + 1) := by
  refine ed_of ?_
  unfold effOp
  simp only [hx, Option.bind_some, rangeS, hu, hb]
  rfl
omit [DecidableEq K] in
theorem rd_entry {enc : K → Value} {val : V → SV} {m : List (K × V × Nat)} {c : Nat} {it : Operand} {b r : Nat} {done : List (K × V × Nat)} {x : K × V × Nat} (hx : evalS T it = some (.ptr r 0)) (hr : H.at' r = some (itV b c (done ++ [x]))) (hb : H.at' b = some (mapV enc val m c)) (hok : KOk m c) (hm : x ∈ m) :
    ReadDoes P T H ⟨d, .entry it, ty, pos, af, gd⟩ (.tup [.sc (enc x.1), val x.2.1]) := by
  refine rd_of ?_
  unfold readOp
  simp only [hx, Option.bind_some, entryS, hr, List.map_append, List.map_cons, List.map_nil, List.getLast?_append, List.getLast?_singleton, Option.some_or, hb, Nat.beq_refl, cond_true]
  have hf : (mapL enc val m).find? (fun y => Nat.beq y.2.2 x.2.2) = some (enc x.1, val x.2.1, x.2.2) := by
    have : m.find? (fun y => Nat.beq y.2.2 x.2.2) = some x := by
      cases hh : m.find? (fun y => Nat.beq y.2.2 x.2.2) with
      | none => exact absurd (List.find?_eq_none.1 hh x hm) (by simp)
      | some y =>
        have h1 := List.find?_some hh
        exact congrArg some (hok.eq (List.mem_of_find?_eq_some hh) hm (Nat.eq_of_beq_eq_true h1))
    rw [mapL, List.find?_map, show ((fun y : Value × SV × Nat => Nat.beq y.2.2 x.2.2) ∘ fun x : K × V × Nat => (enc x.1, val x.2.1, x.2.2)) = fun y : K × V × Nat => Nat.beq y.2.2 x.2.2 from rfl, this]
    rfl
  rw [hf]
end
section
variable {P : Program} {T : Tr SV} {H : Heap} {nx : Nat} {d : Option Tmp} {ty : TypeId} {pos : String} {af : Array Edge} {gd : Option (Nat × Bool)}
theorem rd_eqNil {t yt : TypeId} {x y : Operand} {s : SV} {v : Value} {d0 : TypeDesc} (hx : evalS T x = some s) (hy : evalS T y = some (.sc v)) (hu : P.underlying t = some d0) (hn : isNilS s v d0 = true) : ReadDoes P T H ⟨d, .binOp .eql t x y yt, ty, pos, af, gd⟩ (.sc (.bool false)) := by
  refine rd_of ?_
  unfold readOp
  simp only [hx, hy, Option.bind_some, nilTest, hu, hn, cond_true]
theorem rd_neNil {t yt : TypeId} {x y : Operand} {s : SV} {v : Value} {d0 : TypeDesc} (hx : evalS T x = some s) (hy : evalS T y = some (.sc v)) (hu : P.underlying t = some d0) (hn : isNilS s v d0 = true) : ReadDoes P T H ⟨d, .binOp .neq t x y yt, ty, pos, af, gd⟩ (.sc (.bool true)) := by
  refine rd_of ?_
  unfold readOp
  simp only [hx, hy, Option.bind_some, nilTest, hu, hn, cond_true]
def nilV : Value → Bool
  | .pointer none => true
  | .map none => true
  | _ => false
def nilK : Value → TypeDesc → Bool
  | .pointer none, .pointer _ => true
  | .map none, .map _ _ => true
  | _, _ => false
theorem equalIn_nilP {t e : TypeId} (n : Nat) (hu : P.underlying t = some (.pointer e)) (w : World) : (Op.equalIn (n + 1) t (.pointer none) (.pointer none)).run P w = .ok true w := by
  simp [Op.equalIn, run_underlying hu]
theorem equalIn_nilM {t k e : TypeId} (n : Nat) (hu : P.underlying t = some (.map k e)) (w : World) : (Op.equalIn (n + 1) t (.map none) (.map none)).run P w = .ok true w := by
  simp [Op.equalIn, run_underlying hu]
theorem equal_nil {t : TypeId} {v : Value} {d0 : TypeDesc} (hv : nilV v = true) (hu : P.underlying t = some d0) (hk : nilK v d0 = true) (w : World) : (Op.equal t v v).run P w = .ok true w := by
  cases v with
  | pointer a =>
    cases a with
    | some a => cases hv
    | none => cases d0 with
      | pointer e => exact equalIn_nilP 9999 hu w
      | _ => cases hk
  | map a =>
    cases a with
    | some a => cases hv
    | none => cases d0 with
      | map k e => exact equalIn_nilM 9999 hu w
      | _ => cases hk
  | _ => cases hv
theorem rd_isNil {t yt : TypeId} {x y : Operand} {v : Value} {d0 : TypeDesc} (hx : evalS T x = some (.sc v)) (hy : evalS T y = some (.sc v)) (hv : nilV v = true) (hu : P.underlying t = some d0) (hk : nilK v d0 = true) : ReadDoes P T H ⟨d, .binOp .eql t x y yt, ty, pos, af, gd⟩ (.sc (.bool true)) := by
  refine rd_pure fun ev w he => ?_
  have e1 := he x _ hx _ rfl
  have e2 := he y _ hy _ rfl
  have hg : (eqGuard .eql t x y v v).run P w = .ok () w := by cases v <;> first | rfl | cases hv
  have hq : (Op.equal t v v).run P w = .ok true w := equal_nil hv hu hk w
  have hb : (binOp .eql t v v).run P w = .ok (.bool true) w := by
    cases v <;> first | (simp only [binOp, Sem.run_bind, hq, Result.andThen_ok, Sem.run_pure]; done) | cases hv
  simp only [execOp, e1, e2, Sem.run_bind, hg, hb, Result.andThen_ok, Sem.run_pure]
theorem rd_noNil {t yt : TypeId} {x y : Operand} {v : Value} {d0 : TypeDesc} (hx : evalS T x = some (.sc v)) (hy : evalS T y = some (.sc v)) (hv : nilV v = true) (hu : P.underlying t = some d0) (hk : nilK v d0 = true) : ReadDoes P T H ⟨d, .binOp .neq t x y yt, ty, pos, af, gd⟩ (.sc (.bool false)) := by
  refine rd_pure fun ev w he => ?_
  have e1 := he x _ hx _ rfl
  have e2 := he y _ hy _ rfl
  have hg : (eqGuard .neq t x y v v).run P w = .ok () w := by cases v <;> first | rfl | cases hv
  have hq : (Op.equal t v v).run P w = .ok true w := equal_nil hv hu hk w
  have hb : (binOp .neq t v v).run P w = .ok (.bool false) w := by
    cases v <;> first | (simp only [binOp, Sem.run_bind, hq, Result.andThen_ok, Sem.run_pure, Bool.not_true]; done) | cases hv
  simp only [execOp, e1, e2, Sem.run_bind, hg, hb, Result.andThen_ok, Sem.run_pure]
theorem rd_extractV {x : Operand} {i : Nat} {xs : Array Value} {v : Value} (h : evalS T x = some (.sc (.tuple xs))) (hi : xs[i]? = some v) : ReadDoes P T H ⟨d, .extract x i, ty, pos, af, gd⟩ (.sc v) := by
  refine rd_of ?_
  unfold readOp
  simp only [h, Option.bind_some, nthS, hi, Option.map_some]
theorem op_makeMap {t : TypeId} : OpDoes P T H nx ⟨d, .makeMap t none, ty, pos, af, gd⟩ (.val (.mp nx), H.set nx (.map [] 0), nx + 1) := ed_of rfl
end
section
variable {P : Program} {T : Tr SV} {H : Heap} {nx : Nat} {d : Option Tmp} {ty : TypeId} {pos : String} {af : Array Edge} {gd : Option (Nat × Bool)}
theorem rdv_row {b m sz : Nat} {ro : Bool} {t : TypeId} {l : List SV} {vs : List Value} (hb : H.at' b = some (.row ro m sz t (listC l))) (hl : l = vs.map .sc) (hlen : vs.length = m * sz) : RdV P H sz (.slu b 0 m) m vs := by
  subst hl
  rw [dat_list] at hb
  exact rdv_dat hb (by omega) (by rw [Nat.zero_mul, List.drop_zero]; exact List.take_of_length_le (by omega)) hlen
theorem op_push {A : Type} {f : A → List Value} {xs : List A} {a : A} {t tx el : TypeId} {sz b r q : Nat} {s x : Operand} {rq : Bool} {tq : TypeId} {cs : List SV} (hx0 : evalS T s = some (.slu r 0 xs.length)) (hx : evalS T x = some (.slu q 0 1)) (hu : P.underlying t = some (.slice el))
    (hk : (∃ e', P.underlying tx = some (.slice e')) ∨ P.underlying tx = some .string) (hs : sizeT P el = some sz) (h0 : Nat.blt 0 sz = true) (hz : zeroIs P el sz = true) (hb : (P.info? el).map (·.bytes) = some b) (hro : H.at' r = some (dat false xs.length sz el (xs.flatMap f)))
    (hq : H.at' q = some (.row rq 1 sz tq (listC cs))) (hcs : cs = (f a).map .sc) (hf : RecOf f sz) (hm1 : (xs.length + 1) * b ≤ 140737488355328) (hm2 : xs.length + 1 ≤ 1000000000) :
    OpDoes P T H nx ⟨d, .call { callee := .builtin .append, args := #[s, x], argTypes := #[t, tx] }, ty, pos, af, gd⟩ (.val (.slu nx 0 (xs ++ [a]).length), (H.del r).set nx (dat false (xs ++ [a]).length sz el ((xs ++ [a]).flatMap f)), nx + 1) := by
  have h := op_append (P := P) (T := T) (H := H) (nx := nx) (d := d) (ty := ty) (pos := pos) (af := af) (gd := gd) (eo := 0) (n := xs.length) (m := 1) (vs := f a) (ws := xs.flatMap f) hu hk hs (lt_of_blt h0) hz hb hx0 hx (by rw [Nat.zero_add]; exact hro)
    (by rw [Nat.zero_mul, List.drop_zero]; exact List.take_of_length_le (by rw [flat_len hf.len]; omega)) (flat_len hf.len xs) (rdv_row hq hcs (by rw [hf.len]; omega)) (hf.one a) (by decide) hm1 hm2
  rw [show (xs ++ [a]).length = xs.length + 1 by simp, show (xs ++ [a]).flatMap f = xs.flatMap f ++ f a by simp]
  exact h
end
section
variable {P : Program} {T : Tr SV} {H : Heap} {nx : Nat} {d0 : Option Tmp} {ty : TypeId} {pos : String} {af : Array Edge} {gd : Option (Nat × Bool)}
theorem rd_ldF {A : Type} [Inhabited A] {f : A → List Value} {t rt : TypeId} {x : Operand} {b o ne sz : Nat} {ro : Bool} {d : Array A} {q j : Nat} {v : Value} (ha : aggSize P t = some none) (hx : evalS T x = some (.ptr b o)) (ho : o = q * sz + j) (hf : RecOf f sz) (hb : H.at' b = some (arr ro ne sz rt f d))
    (hi : q < d.size) (hne : d.size ≤ ne) (hv : (f d[q]!)[j]? = some v) : ReadDoes P T H ⟨d0, .load t x, ty, pos, af, gd⟩ (.sc v) := by
  subst ho
  have hfit := arr_fit (sz := sz) hi hne
  have hj : j < sz := by have := (List.getElem?_eq_some_iff.1 hv).1; rwa [hf.len] at this
  refine rd_load1 ha hx hb (cell_dat (by omega) ?_)
  rw [flat_cell hf.len (arr_get hi) hj]
  exact hv
end
section
variable {P : Program} {ro : Option Nat} {fn nt nx : Nat} {T : Tr SV} {k : List AIt} {dfs : List ADf} {H : Heap} {Q : Pst} {ops : Array Oper} {i : Nat} {l : List Oper} {d : Option Tmp} {ty : TypeId} {pos : String} {af : Array Edge} {gd : Option (Nat × Bool)}
theorem w_makeMap {t : TypeId} {dd : Nat} (hw : wantedS T ops ⟨some dd, .makeMap t none, ty, pos, af, gd⟩ = some true) (hd : Nat.blt dd nt = true) 
    (h : Wp P ro ⟨fn, nt, T.set dd (.mp nx), .inReg ops (i + 1) l :: k, dfs, (H.set nx (.map [] 0)), (nx + 1)⟩ Q) : Wp P ro ⟨fn, nt, T, .inReg ops i (⟨some dd, .makeMap t none, ty, pos, af, gd⟩ :: l) :: k, dfs, H, nx⟩ Q :=
  y_val hw (.inr (fun _ h => by cases h)) (op_makeMap) (by rw [putS_some hd]; exact h)
theorem w_lookV {K V : Type} [DecidableEq K] {enc : K → Value} {val : V → SV} {m : List (K × V × Nat)} {c : Nat} {t kt e : TypeId} {x y : Operand} {b : Nat} {kk : K} {v : V} {dd : Nat} (hw : wantedS T ops ⟨some dd, .lookup t x y false, ty, pos, af, gd⟩ = some true) (hd : Nat.blt dd nt = true) (hx : evalS T x = some (.mp b)) (hy : evalS T y = some (.sc (enc kk))) (hu : P.underlying t = some (.map kt e)) (hE : KEnc P kt enc) (hb : H.at' b = some (mapV enc val m c)) (hg : kget m kk = some v)
    (h : Wp P ro ⟨fn, nt, T.set dd (val v), .inReg ops (i + 1) l :: k, dfs, H, nx⟩ Q) : Wp P ro ⟨fn, nt, T, .inReg ops i (⟨some dd, .lookup t x y false, ty, pos, af, gd⟩ :: l) :: k, dfs, H, nx⟩ Q :=
  y_val hw (.inr (fun _ h => by cases h)) ((rd_look (ok := false) hx hy hu hE hb hg).does) (by rw [putS_some hd]; exact h)
theorem w_lookZ {K V : Type} [DecidableEq K] {enc : K → Value} {val : V → SV} {m : List (K × V × Nat)} {c : Nat} {t kt e : TypeId} {x y : Operand} {b : Nat} {kk : K} {z : Value} {dd : Nat} (hw : wantedS T ops ⟨some dd, .lookup t x y false, ty, pos, af, gd⟩ = some true) (hd : Nat.blt dd nt = true) (hx : evalS T x = some (.mp b)) (hy : evalS T y = some (.sc (enc kk))) (hu : P.underlying t = some (.map kt e)) (hE : KEnc P kt enc) (hb : H.at' b = some (mapV enc val m c)) (hg : kget m kk = none) (hz : zeroT P e = some z)
    (h : Wp P ro ⟨fn, nt, T.set dd (.sc z), .inReg ops (i + 1) l :: k, dfs, H, nx⟩ Q) : Wp P ro ⟨fn, nt, T, .inReg ops i (⟨some dd, .lookup t x y false, ty, pos, af, gd⟩ :: l) :: k, dfs, H, nx⟩ Q :=
  y_val hw (.inr (fun _ h => by cases h)) ((rd_lookZ (ok := false) hx hy hu hE hb hg hz).does) (by rw [putS_some hd]; exact h)
theorem w_mapUp {K V : Type} [DecidableEq K] {enc : K → Value} {val : V → SV} {m : List (K × V × Nat)} {c : Nat} {t kt e : TypeId} {x y : Operand} {b : Nat} {kk : K} {w : Operand} {v : V}  (hw : wantedS T ops ⟨none, .mapUpdate t x y w, ty, pos, af, gd⟩ = some true)  (hx : evalS T x = some (.mp b)) (hy : evalS T y = some (.sc (enc kk))) (hu : P.underlying t = some (.map kt e)) (hE : KEnc P kt enc) (hb : H.at' b = some (mapV enc val m c)) (hw2 : evalS T w = some (val v))
    (h : Wp P ro ⟨fn, nt, T, .inReg ops (i + 1) l :: k, dfs, (H.set b (mapV enc val (kput m kk v c) (kclk m kk c))), nx⟩ Q) : Wp P ro ⟨fn, nt, T, .inReg ops i (⟨none, .mapUpdate t x y w, ty, pos, af, gd⟩ :: l) :: k, dfs, H, nx⟩ Q :=
  y_none hw (.inr (fun _ h => by cases h)) (op_mapUp hx hy hu hE hb hw2) h
theorem w_lenMap {K V : Type} [DecidableEq K] {enc : K → Value} {val : V → SV} {m : List (K × V × Nat)} {c : Nat} {t kt e : TypeId} {x : Operand} {b : Nat} {dd : Nat} (hw : wantedS T ops ⟨some dd, .call { callee := .builtin .len, args := #[x], argTypes := #[t] }, ty, pos, af, gd⟩ = some true) (hd : Nat.blt dd nt = true) (hx : evalS T x = some (.mp b)) (hu : P.underlying t = some (.map kt e)) (hb : H.at' b = some (mapV enc val m c))
    (h : Wp P ro ⟨fn, nt, T.set dd (.sc (.int .i64 m.length)), .inReg ops (i + 1) l :: k, dfs, H, nx⟩ Q) : Wp P ro ⟨fn, nt, T, .inReg ops i (⟨some dd, .call { callee := .builtin .len, args := #[x], argTypes := #[t] }, ty, pos, af, gd⟩ :: l) :: k, dfs, H, nx⟩ Q :=
  y_val hw (.inr (fun _ h => by cases h)) ((rd_lenMap hx hu hb).does) (by rw [putS_some hd]; exact h)
theorem w_range {K V : Type} [DecidableEq K] {enc : K → Value} {val : V → SV} {m : List (K × V × Nat)} {c : Nat} {t kt e : TypeId} {x : Operand} {b : Nat} {dd : Nat} (hw : wantedS T ops ⟨some dd, .range t x, ty, pos, af, gd⟩ = some true) (hd : Nat.blt dd nt = true) (hx : evalS T x = some (.mp b)) (hu : P.underlying t = some (.map kt e)) (hb : H.at' b = some (mapV enc val m c))
    (h : Wp P ro ⟨fn, nt, T.set dd (.ptr nx 0), .inReg ops (i + 1) l :: k, dfs, (H.set nx (itV b c ([] : List (K × V × Nat)))), (nx + 1)⟩ Q) : Wp P ro ⟨fn, nt, T, .inReg ops i (⟨some dd, .range t x, ty, pos, af, gd⟩ :: l) :: k, dfs, H, nx⟩ Q :=
  y_val hw (.inr (fun _ h => by cases h)) (op_range hx hu hb) (by rw [putS_some hd]; exact h)
theorem w_entry {K V : Type} [DecidableEq K] {enc : K → Value} {val : V → SV} {m : List (K × V × Nat)} {c : Nat} {it : Operand} {b r : Nat} {done : List (K × V × Nat)} {x : K × V × Nat} {dd : Nat} (hw : wantedS T ops ⟨some dd, .entry it, ty, pos, af, gd⟩ = some true) (hd : Nat.blt dd nt = true) (hx : evalS T it = some (.ptr r 0)) (hr : H.at' r = some (itV b c (done ++ [x]))) (hb : H.at' b = some (mapV enc val m c)) (hok : KOk m c) (hm : x ∈ m)
    (h : Wp P ro ⟨fn, nt, T.set dd (.tup [.sc (enc x.1), val x.2.1]), .inReg ops (i + 1) l :: k, dfs, H, nx⟩ Q) : Wp P ro ⟨fn, nt, T, .inReg ops i (⟨some dd, .entry it, ty, pos, af, gd⟩ :: l) :: k, dfs, H, nx⟩ Q :=
  y_val hw (.inr (fun _ h => by cases h)) ((rd_entry hx hr hb hok hm).does) (by rw [putS_some hd]; exact h)
theorem w_eqNil {t yt : TypeId} {x y : Operand} {s : SV} {v : Value} {d0 : TypeDesc} {dd : Nat} (hw : wantedS T ops ⟨some dd, .binOp .eql t x y yt, ty, pos, af, gd⟩ = some true) (hd : Nat.blt dd nt = true) (hx : evalS T x = some s) (hy : evalS T y = some (.sc v)) (hu : P.underlying t = some d0) (hn : isNilS s v d0 = true)
    (h : Wp P ro ⟨fn, nt, T.set dd (.sc (.bool false)), .inReg ops (i + 1) l :: k, dfs, H, nx⟩ Q) : Wp P ro ⟨fn, nt, T, .inReg ops i (⟨some dd, .binOp .eql t x y yt, ty, pos, af, gd⟩ :: l) :: k, dfs, H, nx⟩ Q :=
  y_val hw (.inr (fun _ h => by cases h)) ((rd_eqNil hx hy hu hn).does) (by rw [putS_some hd]; exact h)
theorem w_neNil {t yt : TypeId} {x y : Operand} {s : SV} {v : Value} {d0 : TypeDesc} {dd : Nat} (hw : wantedS T ops ⟨some dd, .binOp .neq t x y yt, ty, pos, af, gd⟩ = some true) (hd : Nat.blt dd nt = true) (hx : evalS T x = some s) (hy : evalS T y = some (.sc v)) (hu : P.underlying t = some d0) (hn : isNilS s v d0 = true)
    (h : Wp P ro ⟨fn, nt, T.set dd (.sc (.bool true)), .inReg ops (i + 1) l :: k, dfs, H, nx⟩ Q) : Wp P ro ⟨fn, nt, T, .inReg ops i (⟨some dd, .binOp .neq t x y yt, ty, pos, af, gd⟩ :: l) :: k, dfs, H, nx⟩ Q :=
  y_val hw (.inr (fun _ h => by cases h)) ((rd_neNil hx hy hu hn).does) (by rw [putS_some hd]; exact h)
theorem w_isNil {t yt : TypeId} {x y : Operand} {v : Value} {d0 : TypeDesc} {dd : Nat} (hw : wantedS T ops ⟨some dd, .binOp .eql t x y yt, ty, pos, af, gd⟩ = some true) (hd : Nat.blt dd nt = true) (hx : evalS T x = some (.sc v)) (hy : evalS T y = some (.sc v)) (hv : nilV v = true) (hu : P.underlying t = some d0) (hk : nilK v d0 = true)
    (h : Wp P ro ⟨fn, nt, T.set dd (.sc (.bool true)), .inReg ops (i + 1) l :: k, dfs, H, nx⟩ Q) : Wp P ro ⟨fn, nt, T, .inReg ops i (⟨some dd, .binOp .eql t x y yt, ty, pos, af, gd⟩ :: l) :: k, dfs, H, nx⟩ Q :=
  y_val hw (.inr (fun _ h => by cases h)) ((rd_isNil hx hy hv hu hk).does) (by rw [putS_some hd]; exact h)
theorem w_noNil {t yt : TypeId} {x y : Operand} {v : Value} {d0 : TypeDesc} {dd : Nat} (hw : wantedS T ops ⟨some dd, .binOp .neq t x y yt, ty, pos, af, gd⟩ = some true) (hd : Nat.blt dd nt = true) (hx : evalS T x = some (.sc v)) (hy : evalS T y = some (.sc v)) (hv : nilV v = true) (hu : P.underlying t = some d0) (hk : nilK v d0 = true)
    (h : Wp P ro ⟨fn, nt, T.set dd (.sc (.bool false)), .inReg ops (i + 1) l :: k, dfs, H, nx⟩ Q) : Wp P ro ⟨fn, nt, T, .inReg ops i (⟨some dd, .binOp .neq t x y yt, ty, pos, af, gd⟩ :: l) :: k, dfs, H, nx⟩ Q :=
  y_val hw (.inr (fun _ h => by cases h)) ((rd_noNil hx hy hv hu hk).does) (by rw [putS_some hd]; exact h)
theorem w_extractV {x : Operand} {j : Nat} {xs : Array Value} {v : Value} {dd : Nat} (hw : wantedS T ops ⟨some dd, .extract x j, ty, pos, af, gd⟩ = some true) (hd : Nat.blt dd nt = true) (hx : evalS T x = some (.sc (.tuple xs))) (hj : xs[j]? = some v)
    (h : Wp P ro ⟨fn, nt, T.set dd (.sc v), .inReg ops (i + 1) l :: k, dfs, H, nx⟩ Q) : Wp P ro ⟨fn, nt, T, .inReg ops i (⟨some dd, .extract x j, ty, pos, af, gd⟩ :: l) :: k, dfs, H, nx⟩ Q :=
  y_val hw (.inr (fun _ h => by cases h)) ((rd_extractV hx hj).does) (by rw [putS_some hd]; exact h)
theorem w_storeC {t bt : TypeId} {a x : Operand} {b o n : Nat} {cs vs : List SV} {v : SV}  (hw : wantedS T ops ⟨none, .store t a x, ty, pos, af, gd⟩ = some true)  (ha : evalS T a = some (.ptr b o)) (hx : evalS T x = some v) (hv : v.cells = vs) (hs : sizeT P t = some n) (hb : H.at' b = some (newCells bt cs)) (hn : vs.length = n) (ho : o + n ≤ cs.length) (h1 : allOne vs = true)
    (h : Wp P ro ⟨fn, nt, T, .inReg ops (i + 1) l :: k, dfs, (H.set b (newCells bt (cs.take o ++ vs ++ cs.drop (o + n)))), nx⟩ Q) : Wp P ro ⟨fn, nt, T, .inReg ops i (⟨none, .store t a x, ty, pos, af, gd⟩ :: l) :: k, dfs, H, nx⟩ Q :=
  y_none hw (.inr (fun _ h => by cases h)) (op_store hs ha hx hv hb hn ho h1) h
theorem w_ldF {A : Type} [Inhabited A] {f : A → List Value} {t rt : TypeId} {x : Operand} {b o ne sz : Nat} {rr : Bool} {d : Array A} {v : Value} (q j : Nat) {dd : Nat} (hw : wantedS T ops ⟨some dd, .load t x, ty, pos, af, gd⟩ = some true) (hd : Nat.blt dd nt = true) (hx : evalS T x = some (.ptr b o)) (ha : aggSize P t = some none) (hf : RecOf f sz) (hb : H.at' b = some (arr rr ne sz rt f d)) (ho : o = q * sz + j) (hi : q < d.size) (hne : d.size ≤ ne) (hv : (f d[q]!)[j]? = some v)
    (h : Wp P ro ⟨fn, nt, T.set dd (.sc v), .inReg ops (i + 1) l :: k, dfs, H, nx⟩ Q) : Wp P ro ⟨fn, nt, T, .inReg ops i (⟨some dd, .load t x, ty, pos, af, gd⟩ :: l) :: k, dfs, H, nx⟩ Q :=
  y_val hw (.inr (fun _ h => by cases h)) ((rd_ldF (q := q) (j := j) ha hx ho hf hb hi hne hv).does) (by rw [putS_some hd]; exact h)
theorem w_push {A : Type} {f : A → List Value} {xs : List A} {a : A} {t tx el : TypeId} {sz b r q : Nat} {s x : Operand} {rq : Bool} {tq : TypeId} {cs : List SV} {dd : Nat} (hw : wantedS T ops ⟨some dd, .call { callee := .builtin .append, args := #[s, x], argTypes := #[t, tx] }, ty, pos, af, gd⟩ = some true) (hd : Nat.blt dd nt = true) (hx0 : evalS T s = some (.slu r 0 xs.length)) (hx : evalS T x = some (.slu q 0 1)) (hu : P.underlying t = some (.slice el)) (hk : (∃ e', P.underlying tx = some (.slice e')) ∨ P.underlying tx = some .string) (hs : sizeT P el = some sz) (h0 : Nat.blt 0 sz = true) (hz : zeroIs P el sz = true) (hb : (P.info? el).map (·.bytes) = some b) (hro : H.at' r = some (dat false xs.length sz el (xs.flatMap f))) (hq : H.at' q = some (.row rq 1 sz tq (listC cs))) (hcs : cs = (f a).map .sc) (hf : RecOf f sz) (hm1 : (xs.length + 1) * b ≤ 140737488355328) (hm2 : xs.length + 1 ≤ 1000000000)
    (h : Wp P ro ⟨fn, nt, T.set dd (.slu nx 0 (xs ++ [a]).length), .inReg ops (i + 1) l :: k, dfs, ((H.del r).set nx (dat false (xs ++ [a]).length sz el ((xs ++ [a]).flatMap f))), (nx + 1)⟩ Q) : Wp P ro ⟨fn, nt, T, .inReg ops i (⟨some dd, .call { callee := .builtin .append, args := #[s, x], argTypes := #[t, tx] }, ty, pos, af, gd⟩ :: l) :: k, dfs, H, nx⟩ Q :=
  y_val hw (.inr (fun _ h => by cases h)) (op_push hx0 hx hu hk hs h0 hz hb hro hq hcs hf hm1 hm2) (by rw [putS_some hd]; exact h)
end
section
variable {P : Program} {nt nx : Nat} {T : Tr SV} {H : Heap} {ops : Array Oper} {i : Nat} {l : List Oper} {ty : TypeId} {pos : String} {af : Array Edge} {gd : Option (Nat × Bool)} {K : DS → Prop} {rs : List Rec} {Hs : List (Heap × Nat)} {stg : Nat}
theorem dw_lookV {K0 V : Type} [DecidableEq K0] {enc : K0 → Value} {val : V → SV} {m : List (K0 × V × Nat)} {c : Nat} {t kt e : TypeId} {x y : Operand} {b : Nat} {kk : K0} {v : V} {dd : Nat} (hw : wantedS (onlyT T (needs ops.toList ⟨some dd, .lookup t x y false, ty, pos, af, gd⟩)) ops ⟨some dd, .lookup t x y false, ty, pos, af, gd⟩ = some true) (hd : Nat.blt dd nt = true) (hx : evalS (onlyT T (needs ops.toList ⟨some dd, .lookup t x y false, ty, pos, af, gd⟩)) x = some (.mp b)) (hy : evalS (onlyT T (needs ops.toList ⟨some dd, .lookup t x y false, ty, pos, af, gd⟩)) y = some (.sc (enc kk))) (hu : P.underlying t = some (.map kt e)) (hE : KEnc P kt enc) (hb : H.at' b = some (mapV enc val m c)) (hg : kget m kk = some v)
    (h : DrawK P nt ops (i + 1) l ⟨T.set dd (val v), H, nx, ⟨i, ⟨some dd, .lookup t x y false, ty, pos, af, gd⟩, (onlyT T (needs ops.toList ⟨some dd, .lookup t x y false, ty, pos, af, gd⟩)), stg, false, true, (val v)⟩ :: rs, Hs, stg⟩ K) : DrawK P nt ops i (⟨some dd, .lookup t x y false, ty, pos, af, gd⟩ :: l) ⟨T, H, nx, rs, Hs, stg⟩ K :=
  dk_read hw hd (fun _ h => by cases h) (rd_look (ok := false) hx hy hu hE hb hg) h
theorem dw_storeC {t bt : TypeId} {a x : Operand} {b o n : Nat} {cs vs : List SV} {v : SV}  (hw : wantedS (onlyT T (needs ops.toList ⟨none, .store t a x, ty, pos, af, gd⟩)) ops ⟨none, .store t a x, ty, pos, af, gd⟩ = some true) (ha : evalS (onlyT T (needs ops.toList ⟨none, .store t a x, ty, pos, af, gd⟩)) a = some (.ptr b o)) (hx : evalS (onlyT T (needs ops.toList ⟨none, .store t a x, ty, pos, af, gd⟩)) x = some v) (hv : v.cells = vs) (hs : sizeT P t = some n) (hb : H.at' b = some (newCells bt cs)) (hn : vs.length = n) (ho : o + n ≤ cs.length) (h1 : allOne vs = true)
    (h : DrawK P nt ops (i + 1) l ⟨T, (H.set b (newCells bt (cs.take o ++ vs ++ cs.drop (o + n)))), nx, ⟨i, ⟨none, .store t a x, ty, pos, af, gd⟩, (onlyT T (needs ops.toList ⟨none, .store t a x, ty, pos, af, gd⟩)), stg, true, true, undefS⟩ :: rs, ((H.set b (newCells bt (cs.take o ++ vs ++ cs.drop (o + n)))), nx) :: Hs, stg + 1⟩ K) : DrawK P nt ops i (⟨none, .store t a x, ty, pos, af, gd⟩ :: l) ⟨T, H, nx, rs, Hs, stg⟩ K :=
  dk_none hw (fun _ h => by cases h) (op_store hs ha hx hv hb hn ho h1) h
end
section
variable {P : Program} {ro : Option Nat} {fn nt nx : Nat} {T : Tr SV} {k : List AIt} {dfs : List ADf} {H : Heap} {Q : Pst} {ops : Array Oper} {i : Nat} {l : List Oper} {d : Option Tmp} {ty : TypeId} {pos : String} {af : Array Edge} {gd : Option (Nat × Bool)}
theorem y_next {it : Operand} {b : Bool} {outs : List Out} (hw : wantedS T ops ⟨d, .next it b, ty, pos, af, gd⟩ = some true) (ho : nextOp T H nx ⟨d, .next it b, ty, pos, af, gd⟩ = some outs)
    (h : ∀ out ∈ outs, outS P (wpr P) ro ⟨fn, nt, T, .inReg ops i (⟨d, .next it b, ty, pos, af, gd⟩ :: l) :: k, dfs, H, nx⟩ d (.inReg ops (i + 1) l :: k) out Q) :
    Wp P ro ⟨fn, nt, T, .inReg ops i (⟨d, .next it b, ty, pos, af, gd⟩ :: l) :: k, dfs, H, nx⟩ Q :=
  .step (.inr ⟨hw, .inr (fun c h => by cases h), fun K w0 e w ev hS hE => let ⟨out, hm, hd⟩ := nextOp_ok hS hE ho; ⟨out, h out hm, hd⟩⟩)
theorem w_next {K V : Type} [DecidableEq K] {enc : K → Value} {val : V → SV} {m : List (K × V × Nat)} {c : Nat} {it : Operand} {b r : Nat} {done : List (K × V × Nat)} {dd : Nat}
    (hw : wantedS T ops ⟨some dd, .next it false, ty, pos, af, gd⟩ = some true) (hd : Nat.blt dd nt = true) (hx : evalS T it = some (.ptr r 0)) (hr : H.at' r = some (itV b c done)) (hb : H.at' b = some (mapV enc val m c)) (hok : KOk m c) (hdn : done.Nodup ∧ ∀ x ∈ done, x ∈ m)
    (h1 : done.Perm m → Wp P ro ⟨fn, nt, T.set dd (.sc (.tuple #[.bool false])), .inReg ops (i + 1) l :: k, dfs, H, nx⟩ Q)
    (h2 : ∀ x ∈ m, x ∉ done → (done ++ [x]).Nodup ∧ (∀ y ∈ done ++ [x], y ∈ m) → Wp P ro ⟨fn, nt, T.set dd (.tup [.sc (.bool true), .sc (enc x.1), val x.2.1]), .inReg ops (i + 1) l :: k, dfs, H.set r (itV b c (done ++ [x])), nx⟩ Q) :
    Wp P ro ⟨fn, nt, T, .inReg ops i (⟨some dd, .next it false, ty, pos, af, gd⟩ :: l) :: k, dfs, H, nx⟩ Q := by
  have hseen : ∀ x ∈ m, ((done.map (·.2.2)).contains x.2.2 = true ↔ x ∈ done) := by
    intro x hx
    rw [List.contains_iff_mem]
    constructor
    · intro h
      obtain ⟨y, hy, he⟩ := List.mem_map.1 h
      rw [hok.eq hx (hdn.2 y hy) he.symm]
      exact hy
    · intro h
      exact List.mem_map.2 ⟨x, h, rfl⟩
  refine y_next hw (outs := ?_) ?_ ?_
  rotate_left
  · simp only [nextOp, hx, hr, hb]
    have hg : (!(done.map (·.2.2)).isEmpty && !(mapL enc val m).isEmpty && (mapL enc val m).all (fun x => Nat.ble c x.2.2)) = false := by
      cases m with
      | nil => simp
      | cons x m =>
        have := hok.lt x (by simp)
        have hb : Nat.ble c x.2.2 = false := by
          cases hh : Nat.ble c x.2.2 with
          | false => rfl
          | true => have := Nat.le_of_ble_eq_true hh; omega
        simp [hb]
    rw [hg]
    rfl
  · intro out hm
    simp only [outS] at *
    rcases List.mem_append.1 hm with hm | hm
    · cases he : (((mapL enc val m).filter fun x => !((done.map (·.2.2)).contains x.2.2)).filter fun x => Nat.blt x.2.2 c).isEmpty with
      | false => rw [he] at hm; cases hm
      | true =>
        rw [he] at hm
        simp only [cond_true, List.mem_singleton] at hm
        subst hm
        simp only [putS_some hd]
        refine h1 ?_
        refine (List.perm_ext_iff_of_nodup hdn.1 hok.nodup).2 fun x => ⟨hdn.2 x, fun hx => ?_⟩
        rw [← hseen x hx]
        cases hc : (done.map (·.2.2)).contains x.2.2 with
        | true => rfl
        | false =>
          exfalso
          have hin : (enc x.1, val x.2.1, x.2.2) ∈ ((mapL enc val m).filter fun x => !((done.map (·.2.2)).contains x.2.2)).filter fun x => Nat.blt x.2.2 c := by
            refine List.mem_filter.2 ⟨List.mem_filter.2 ⟨List.mem_map.2 ⟨x, hx, rfl⟩, by simp only [hc]; rfl⟩, ?_⟩
            exact Nat.ble_eq_true_of_le (hok.lt x hx)
          have := List.isEmpty_iff.1 he
          rw [this] at hin
          cases hin
    · obtain ⟨y, hy, rfl⟩ := List.mem_map.1 hm
      have hy' : y ∈ (mapL enc val m).filter fun x => !((done.map (·.2.2)).contains x.2.2) := by
        rcases List.mem_append.1 hy with hy | hy
        · exact (List.mem_filter.1 hy).1
        · exact (List.mem_filter.1 hy).1
      obtain ⟨hy1, hy2⟩ := List.mem_filter.1 hy'
      obtain ⟨x, hx, rfl⟩ := List.mem_map.1 hy1
      simp only [putS_some hd]
      have hnd : x ∉ done := by
        intro h
        rw [(hseen x hx).2 h] at hy2
        cases hy2
      have := h2 x hx hnd ⟨by rw [List.nodup_append]; exact ⟨hdn.1, by simp, fun a ha b hb => by simp at hb; subst hb; intro e; subst e; exact hnd ha⟩, fun y hy => by
        rcases List.mem_append.1 hy with hy | hy
        · exact hdn.2 y hy
        · simp at hy; subst hy; exact hx⟩
      have e : itV b c (done ++ [x]) = .iter (some b) c (done.map (·.2.2) ++ [x.2.2]) c := by unfold itV; rw [List.map_append]; rfl
      rw [e] at this
      exact this
theorem St.loopLess {K : Zone} {w0 w : World} {e : Env} {n : Nat} {st : LoopState} {pend : Option Code} {f2 nt2 : Nat} {T2 T3 : Tr SV} {ps : Array Tmp} {as1 bd : Code} {dr : Nat} (hl : T3.le T2)
    (hS : St K w0 e (H.set n (.loop st pend f2 nt2 T2 ps as1 bd dr)) nx w) : St K w0 e (H.set n (.loop st pend f2 nt2 T3 ps as1 bd dr)) nx w := by
  have key : ∀ id vo, (H.set n (.loop st pend f2 nt2 T3 ps as1 bd dr)).at' id = some vo → ∃ vo', (H.set n (.loop st pend f2 nt2 T2 ps as1 bd dr)).at' id = some vo' ∧ vo'.ro = vo.ro ∧ ∀ x, Lies K w e vo' x → Lies K w e vo x := by
    intro id vo hv
    rcases Tr.at_set hv with ⟨rfl, rfl⟩ | ⟨hne, hv⟩
    · refine ⟨_, Tr.at_set_same _ _ _, rfl, fun x hx => ?_⟩
      rcases hx with ⟨h0, o, h1, h2, tmps, y, h3, h4, h5⟩ | ⟨_, _, _, _, _, h, _⟩
      · exact .inl ⟨h0, o, h1, h2, tmps, y, h3, h4.less hl, h5⟩
      · cases h
    · exact ⟨vo, by rw [Tr.at_set_other _ _ hne]; exact hv, rfl, fun x hx => hx⟩
  refine ⟨hS.below, fun id vo hv => ?_, fun id id' vo vo' x x' h1 h2 h3 h4 h5 h6 h7 h8 h9 => ?_, hS.fresh⟩
  · obtain ⟨vo', g1, _, g3⟩ := key id vo hv
    obtain ⟨x, hx, hl⟩ := hS.rel id vo' g1
    exact ⟨x, hx, g3 x hl⟩
  · obtain ⟨u, g1, g2, _⟩ := key id vo h1
    obtain ⟨u', g1', g2', _⟩ := key id' vo' h2
    exact hS.inj _ _ _ _ _ _ g1 g1' h3 h4 h5 h6 h7 (by rw [g2]; exact h8) (by rw [g2']; exact h9)
theorem Fnc.weak {f : FuncId} {args : List SV} {H H' : Heap} {nx : Nat} {Q : Pst} (hs : ∀ K w0 e w, St K w0 e H nx w → St K w0 e H' nx w) (h : Fnc P f args H' nx Q) : Fnc P f args H nx Q := by
  unfold Fnc callS at h ⊢
  rcases h with ⟨h0, v, r, h1, h2, h3⟩ | h
  · exact .inl ⟨h0, v, r, h1, h2, fun K w0 e w hS => h3 K w0 e w (hs _ _ _ _ hS)⟩
  · refine .inr ?_
    split at h
    · rename_i c hb
      exact ⟨fun K w0 e w tmps todo ds kd rof cs a b c d f => h.run K w0 e w tmps todo ds kd rof cs (hs _ _ _ _ a) b c d f⟩
    · exact h.elim
theorem y_rangeFunc {fo : Operand} {ps : Array Tmp} {as1 bd : Code} {g : FuncId} {a b : List SV} {sf : SV} (sl : List (Nat × SV)) (hf : evalS T fo = some sf) (ht : fnTarget sf = some (g, a, b)) (hg : mayEnter P g = true) (hsl : ∀ n x, (slT sl).at' n = some x → T.at' n = some x)
    (h : ∀ as' bd', as' = as1 → bd' = bd → Fnc P g (a ++ [.yld (nx + 1)] ++ b) ((H.set nx (.dfd (some []))).set (nx + 1) (.loop .ready none fn nt (slT sl) ps as' bd' nx)) (nx + 1 + 1) (fun r => Wp P none ⟨fn, nt, T, .endRange (nx + 1) :: k, .taken nx :: dfs, r.2.1, r.2.2⟩ Q)) :
    Wp P none ⟨fn, nt, T, .code (.rangeFunc fo ps as1 bd) :: k, dfs, H, nx⟩ Q :=
  .step ⟨nx, H.set nx (.dfd (some [])), nx + 1, [.taken nx], sf, g, a, b, rfl, hf, ht, hg, Fnc.weak (fun K w0 e w hS => hS.loopLess hsl) (h _ _ rfl rfl)⟩
theorem y_cast {a b : Code} (h : a = b) (hw : Wp P ro ⟨fn, nt, T, .code b :: k, dfs, H, nx⟩ Q) : Wp P ro ⟨fn, nt, T, .code a :: k, dfs, H, nx⟩ Q := h ▸ hw
theorem y_endRange {n : Nat} {st : LoopState} {pend : Option Code} {f2 nt2 : Nat} {T2 : Tr SV} {ps : Array Tmp} {as1 bd : Code} {dr : Nat} (hl : H.at' n = some (.loop st pend f2 nt2 T2 ps as1 bd dr)) (hs : st ≠ .busy)
    (h : Wp P ro ⟨fn, nt, T, withPend pend k, dfs, H.set n (.loop .exhausted pend f2 nt2 T2 ps as1 bd dr), nx⟩ Q) : Wp P ro ⟨fn, nt, T, .endRange n :: k, dfs, H, nx⟩ Q := by
  refine .step ?_
  simp only [stepS, hl]
  exact ⟨hs, h⟩
theorem y_begin {n : Nat} {pend : Option Code} {f2 nt2 : Nat} {T2 : Tr SV} {ps : Array Tmp} {as1 bd : Code} {dr : Nat} (hl : H.at' n = some (.loop .ready pend f2 nt2 T2 ps as1 bd dr))
    (h : Wp P (some n) ⟨fn, nt, T, k, dfs, H.set n (.loop .busy pend f2 nt2 T2 ps as1 bd dr), nx⟩ Q) : Wp P (some n) ⟨fn, nt, T, .beginRound :: k, dfs, H, nx⟩ Q := by
  refine .step ?_
  simp only [stepS, hl]
  exact ⟨trivial, h⟩
theorem y_roundEnd {n : Nat} {st : LoopState} {pend : Option Code} {f2 nt2 : Nat} {T2 : Tr SV} {ps : Array Tmp} {as1 bd : Code} {dr : Nat} (hl : H.at' n = some (.loop st pend f2 nt2 T2 ps as1 bd dr))
    (h : Q (.sc (.bool true), H.set n (.loop .ready none f2 nt2 T2 ps as1 bd dr), nx)) : Wp P (some n) ⟨fn, nt, T, [], dfs, H, nx⟩ Q := by
  refine .step ?_
  simp only [stepS, leaveR, leaveS, hl]
  exact h
theorem w_round {x : Operand} {as1 : List Operand} {ats : Array TypeId} {args : List SV} {n dd : Nat} {st : LoopState} {pend : Option Code} {f2 nt2 : Nat} {T2 : Tr SV} {ps : Array Tmp} {as2 bd : Code} {dr : Nat}
    (hw : wantedS T ops ⟨some dd, .call { callee := .value x, args := as1.toArray, argTypes := ats }, ty, pos, af, gd⟩ = some true) (hd : Nat.blt dd nt = true) (hx : evalS T x = some (.yld n)) (ha : evalL T as1 = some args) (hl : H.at' n = some (.loop st pend f2 nt2 T2 ps as2 bd dr)) (hp : Nat.beq ps.size args.length = true)
    (h : Wp P (some n) ⟨f2, nt2, (ps.toList.zip args).foldl (fun T x => putS nt2 T (some x.1) x.2) T2, [.code as2, .beginRound, .code bd], [], H, nx⟩ (fun r => Wp P ro ⟨fn, nt, T.set dd r.1, .inReg ops (i + 1) l :: k, dfs, r.2.1, r.2.2⟩ Q)) :
    Wp P ro ⟨fn, nt, T, .inReg ops i (⟨some dd, .call { callee := .value x, args := as1.toArray, argTypes := ats }, ty, pos, af, gd⟩ :: l) :: k, dfs, H, nx⟩ Q := by
  refine .step (.inr ⟨hw, .inr (fun c hc => by cases hc), OpDoes.any (out := (.round n args, H, nx)) ?_ ?_⟩)
  · intro K w0 e w ev hS hE
    refine effOp_ok hS hE ?_
    unfold effOp
    simp only [callTarget, ha, hx, Option.map_some]
  · simp only [outS, roundS, hl, putS_some hd]
    exact ⟨hp, h⟩
def SameO (ρ : Nat → Nat) : List (Option VO) → List (Option VO) → Prop
  | [], [] => True
  | none :: l, none :: m => SameO ρ l m
  | some vo :: l, some vo' :: m => vo.ren ρ = vo' ∧ SameO ρ l m
  | _, _ => False
theorem SameO.map {ρ : Nat → Nat} : ∀ {l m : List (Option VO)}, SameO ρ l m → l.map (Option.map (VO.ren ρ)) = m
  | [], [], _ => rfl
  | none :: l, none :: m, h => by simp only [List.map_cons, Option.map_none, SameO.map (l := l) (m := m) h]
  | some vo :: l, some vo' :: m, h => by simp only [List.map_cons, Option.map_some, h.1, SameO.map h.2]
  | [], _ :: _, h => by simp [SameO] at h
  | none :: _, some _ :: _, h => by simp [SameO] at h
  | some _ :: _, none :: _, h => by simp [SameO] at h
  | none :: _, [], h => by simp [SameO] at h
  | some _ :: _, [], h => by simp [SameO] at h
theorem wrO_wrL2 {ρ : Nat → Nat} : ∀ (L : List Nat) (l : List (Option VO)) (i : Nat) (H : Heap), (∀ j, j < L.length → ρ (i + j) = L.getD j 0) → l.length = L.length → wrO ρ H i l = wrL L H l
  | [], [], i, H, _, _ => rfl
  | [], _ :: _, i, H, _, h => by simp at h
  | _ :: _, [], i, H, _, h => by simp at h
  | b :: L, o :: l, i, H, he, hl => by
    have e0 : ρ i = b := by simpa using he 0 (by simp)
    have et : ∀ j, j < L.length → ρ (i + 1 + j) = L.getD j 0 := fun j hj => by
      have := he (j + 1) (by simpa using hj)
      rw [show i + 1 + j = i + (j + 1) by omega, this]
      simp
    cases o with
    | none => simp only [wrO, wrL, e0]; exact wrO_wrL2 L l (i + 1) _ et (by simpa using hl)
    | some vo => simp only [wrO, wrL, e0]; exact wrO_wrL2 L l (i + 1) _ et (by simpa using hl)
theorem Ctr.callX {f : FuncId} {args0 args : List SV} {pre : List VO} {Q0 : Cz → Prop} (h : Ctr P f args0 pre Q0) (L : List Nat) {Q : Pst} (hlen : L.length = pre.length) (hL : ExtOk L nx) (ha : args = args0.map (SV.ren (ext L nx))) (hp : HasO (ext L nx) H 0 (pre.map some))
    (hQ : ∀ c, Q0 c → ∃ v m L2 objs, L2 = L ++ (List.range m).map (fun i => nx + i) ∧ SameO (ext L nx) c.objs objs ∧ objs.length = L2.length ∧ c.v.ren (ext L nx) = v ∧ Q (v, wrL L2 H objs, nx + m)) : Fnc P f args H nx Q := by
  refine h.call L hlen hL ha hp fun c hc hpl => ?_
  obtain ⟨v, m, L2, objs, e1, e2, e3, e4, hq⟩ := hQ c hc
  have hlo : c.objs.length = objs.length := by rw [← e2.map, List.length_map]
  have hl2 : L2.length = L.length + m := by rw [e1]; simp
  rw [e2.map, e4, wrO_wrL2 (ρ := ext L nx) L2 objs 0 H (fun j hj => ?_) e3, show nx + (c.objs.length - pre.length) = nx + m by omega]
  · exact hq
  · rw [Nat.zero_add]
    by_cases hjl : j < L.length
    · rw [ext_lt hjl, e1]
      simp only [List.getD_eq_getElem?_getD]
      rw [List.getElem?_append_left hjl]
    · rw [ext_ge (by omega), e1]
      simp only [List.getD_eq_getElem?_getD]
      rw [List.getElem?_append_right (by omega), List.getElem?_map, List.getElem?_range (by omega)]
      rfl
theorem Ctr.at {f : FuncId} {args : List SV} {pre : List VO} {Q : Cz → Prop} (n : Nat) (hn : pre.length = n) (h : Fnc P f args (heapOf pre) n (fun r => ∃ c, Q c ∧ Ends n c r)) : Ctr P f args pre Q := by
  subst hn
  exact h
theorem y_loopT {α : Type} {b : Code} (sl : α → List (Nat × SV)) (I : α → Heap → Nat → Prop) (μ : α → Nat) (a0 : α) (h0 : I a0 H nx) (hs : ∀ n x, (slT (sl a0)).at' n = some x → T.at' n = some x)
    (body : ∀ a H nx, I a H nx → (∀ T' H' nx' a', I a' H' nx' → μ a' < μ a → (∀ n x, (slT (sl a')).at' n = some x → T'.at' n = some x) → Wp P ro ⟨fn, nt, T', .inLoop b :: k, dfs, H', nx'⟩ Q) →
      Wp P ro ⟨fn, nt, slT (sl a), .code b :: .inLoop b :: k, dfs, H, nx⟩ Q) : Wp P ro ⟨fn, nt, T, .code (.loop b) :: k, dfs, H, nx⟩ Q := by
  have main : ∀ m a H nx, μ a = m → I a H nx → Wp P ro ⟨fn, nt, slT (sl a), .code b :: .inLoop b :: k, dfs, H, nx⟩ Q := by
    intro m
    induction m using Nat.strongRecOn with
    | _ m ih =>
      intro a H nx hm ha
      refine body a H nx ha fun T' H' nx' a' ha' hlt hs' => y_again ?_
      exact Wp.less (ih (μ a') (by omega) a' H' nx' rfl ha') hs' (Tr.le_refl _)
  exact y_unroll (Wp.less (main _ a0 H nx rfl h0) hs (Tr.le_refl _))
theorem y_loopTD {α : Type} {b : Code} (sl : α → List (Nat × SV)) (df : α → List ADf) (I : α → Heap → Nat → Prop) (μ : α → Nat) (a0 : α) (h0 : I a0 H nx) (hd0 : dfs = df a0) (hs : ∀ n x, (slT (sl a0)).at' n = some x → T.at' n = some x)
    (body : ∀ a H nx, I a H nx → (∀ T' H' nx' a' dfs', I a' H' nx' → μ a' < μ a → dfs' = df a' → (∀ n x, (slT (sl a')).at' n = some x → T'.at' n = some x) → Wp P ro ⟨fn, nt, T', .inLoop b :: k, dfs', H', nx'⟩ Q) →
      Wp P ro ⟨fn, nt, slT (sl a), .code b :: .inLoop b :: k, df a, H, nx⟩ Q) : Wp P ro ⟨fn, nt, T, .code (.loop b) :: k, dfs, H, nx⟩ Q := by
  have main : ∀ m a H nx, μ a = m → I a H nx → Wp P ro ⟨fn, nt, slT (sl a), .code b :: .inLoop b :: k, df a, H, nx⟩ Q := by
    intro m
    induction m using Nat.strongRecOn with
    | _ m ih =>
      intro a H nx hm ha
      refine body a H nx ha fun T' H' nx' a' dfs' ha' hlt hd' hs' => y_again ?_
      subst hd'
      exact Wp.less (ih (μ a') (by omega) a' H' nx' rfl ha') hs' (Tr.le_refl _)
  subst hd0
  exact y_unroll (Wp.less (main _ a0 H nx rfl h0) hs (Tr.le_refl _))
def SlIn (T : Tr SV) : List (Nat × SV) → Prop
  | [] => True
  | (t, s) :: l => T.at' t = some s ∧ SlIn T l
theorem SlIn.sub {T : Tr SV} : ∀ {l : List (Nat × SV)}, SlIn T l → ∀ n x, (slT l).at' n = some x → T.at' n = some x
  | [], _, n, x, h => by rw [slT, Tr.at_nil] at h; cases h
  | (t0, s0) :: l, hh, n, x, h => by
    rcases Tr.at_set h with ⟨rfl, rfl⟩ | ⟨_, h⟩
    · exact hh.1
    · exact SlIn.sub hh.2 n x h
theorem lv_takens {rs : List Nat} (hr : ∀ r ∈ rs, H.at' r = some (.dfd (some []))) (hnd : rs.Nodup) (h : ∀ H', (∀ n, n ∉ rs → H'.at' n = H.at' n) → Lv P ⟨fn, nt, T, k, dfs, H', nx⟩ Q) : Lv P ⟨fn, nt, T, k, rs.map .taken ++ dfs, H, nx⟩ Q := by
  induction rs generalizing H with
  | nil => exact h H fun _ _ => rfl
  | cons r rs ih =>
    refine lv_taken (hr r (by simp)) ?_
    rw [List.nil_append]
    rw [List.nodup_cons] at hnd
    refine ih (fun r' hr' => ?_) hnd.2 fun H' hH' => h H' fun n hn => ?_
    · rw [Tr.at_set_other _ _ (by intro e; subst e; exact hnd.1 hr')]
      exact hr r' (List.mem_cons_of_mem _ hr')
    · rw [List.mem_cons, not_or] at hn
      rw [hH' n hn.2, Tr.at_set_other _ _ hn.1]
theorem y_retT {rl : List ResultVar} {F : Func} (hf : P.funcs[fn]? = some F) (hl : F.results.toList = rl) {rs : List Nat} (hdf : dfs = rs.map .taken) (hr : ∀ r ∈ rs, H.at' r = some (.dfd (some []))) (hnd : rs.Nodup)
    (h : ∀ H', (∀ n, n ∉ rs → H'.at' n = H.at' n) → ∃ vs, ResIs P H' T rl vs ∧ Q (valueOf vs, H', nx)) : Wp P none ⟨fn, nt, T, .code .ret :: k, dfs, H, nx⟩ Q := by
  subst hdf
  refine y_retD ?_
  have := lv_takens (P := P) (fn := fn) (nt := nt) (nx := nx) (T := T) (k := .code .ret :: k) (dfs := []) (Q := Q) hr hnd fun H' hH' => by
    obtain ⟨vs, h1, h2⟩ := h H' hH'
    exact lv_end (by simp only [resultsOf, hf, hl]) h1.res h2
  simpa using this
end
end Go.Sy
end
section
namespace Go.Sy
open Go Go.Sl Go.RowKit
abbrev Own := Heap → (Nat → Prop) → Prop
def Framed (A : Own) : Prop := ∀ H H' F, A H F → (∀ n, F n → H'.at' n = H.at' n) → A H' F
section
variable {K X : Type} (P : K → X → Own)
def Big : List (K × X) → Own
  | [], _, F => ∀ n, ¬ F n
  | x :: m, H, F => ∃ F1 F2, P x.1 x.2 H F1 ∧ Big m H F2 ∧ (∀ n, F1 n → ¬ F2 n) ∧ ∀ n, F n ↔ F1 n ∨ F2 n
variable {P}
theorem Big.frame (hP : ∀ k x, Framed (P k x)) : ∀ m, Framed (Big P m)
  | [], H, H', F, h, _ => h
  | x :: m, H, H', F, ⟨F1, F2, h1, h2, h3, h4⟩, hf => ⟨F1, F2, hP _ _ H H' F1 h1 fun n hn => hf n ((h4 n).2 (.inl hn)), Big.frame hP m H H' F2 h2 fun n hn => hf n ((h4 n).2 (.inr hn)), h3, h4⟩
theorem Big.same {m : List (K × X)} {H : Heap} {F F' : Nat → Prop} (h : Big P m H F) (hF : ∀ n, F' n ↔ F n) : Big P m H F' := by
  have : F' = F := funext fun n => propext (hF n)
  rw [this]; exact h
theorem Big.focus {k : K} {x : X} {B : List (K × X)} {H : Heap} : ∀ {A : List (K × X)} {F : Nat → Prop}, Big P (A ++ (k, x) :: B) H F → ∃ F1 F2, P k x H F1 ∧ Big P (A ++ B) H F2 ∧ (∀ n, F1 n → ¬ F2 n) ∧ ∀ n, F n ↔ F1 n ∨ F2 n
  | [], F, h => h
  | y :: A, F, ⟨G1, G2, h1, h2, h3, h4⟩ => by
    obtain ⟨F1, F2, g1, g2, g3, g4⟩ := Big.focus (A := A) h2
    refine ⟨F1, fun n => G1 n ∨ F2 n, g1, ⟨G1, F2, h1, g2, fun n hn h => h3 n hn ((g4 n).2 (.inr h)), fun n => Iff.rfl⟩, fun n hn h => ?_, fun n => ?_⟩
    · rcases h with h | h
      · exact h3 n h ((g4 n).2 (.inl hn))
      · exact g3 n hn h
    · rw [h4, g4]
      constructor
      · rintro (h | h | h)
        · exact .inr (.inl h)
        · exact .inl h
        · exact .inr (.inr h)
      · rintro (h | h | h)
        · exact .inr (.inl h)
        · exact .inl h
        · exact .inr (.inr h)
theorem Big.unfocus {k : K} {x : X} {B : List (K × X)} {H : Heap} {F1 : Nat → Prop} (h : P k x H F1) : ∀ {A : List (K × X)} {F2 : Nat → Prop}, Big P (A ++ B) H F2 → (∀ n, F1 n → ¬ F2 n) → Big P (A ++ (k, x) :: B) H (fun n => F1 n ∨ F2 n)
  | [], F2, h2, h3 => ⟨F1, F2, h, h2, h3, fun n => Iff.rfl⟩
  | y :: A, F2, ⟨G1, G2, g1, g2, g3, g4⟩, h3 => by
    refine ⟨G1, fun n => F1 n ∨ G2 n, g1, Big.unfocus (A := A) h g2 (fun n hn h' => h3 n hn ((g4 n).2 (.inr h'))), fun n hn h' => ?_, fun n => ?_⟩
    · rcases h' with h' | h'
      · exact h3 n h' ((g4 n).2 (.inl hn))
      · exact g3 n hn h'
    · show F1 n ∨ F2 n ↔ _
      rw [g4]
      constructor
      · rintro (h | h | h)
        · exact .inr (.inl h)
        · exact .inl h
        · exact .inr (.inr h)
      · rintro (h | h | h)
        · exact .inr (.inl h)
        · exact .inl h
        · exact .inr (.inr h)
theorem Big.nil {H : Heap} : Big P [] H (fun _ => False) := fun _ h => h
end
section
variable {K V : Type} [DecidableEq K]
abbrev kv (m : List (K × V × Nat)) : List (K × V) := m.map fun x => (x.1, x.2.1)
theorem kv_get (m : List (K × V × Nat)) (k : K) : mget (kv m) k = kget m k := by
  induction m with
  | nil => rfl
  | cons x m ih =>
    rw [kv, List.map_cons, mget_cons]
    by_cases h : x.1 = k
    · simp [h, kget]
    · have e : kget (x :: m) k = kget m k := by simp [kget, h]
      rw [e, if_neg h]
      exact ih
theorem kv_put (m : List (K × V × Nat)) (k : K) (v : V) (c : Nat) : kv (kput m k v c) = mput (kv m) k v := by
  induction m with
  | nil => rfl
  | cons x m ih =>
    by_cases h : x.1 = k
    · simp [kput, mput, h]
    · simpa [kput, mput, h] using ih
theorem kv_del (m : List (K × V × Nat)) (k : K) : kv (kdel m k) = mdel (kv m) k := by
  induction m with
  | nil => rfl
  | cons x m ih =>
    by_cases h : x.1 = k
    · simp [kdel, mdel, h]
    · simpa [kdel, mdel, h] using ih
theorem kget_split {m : List (K × V × Nat)} {k : K} {v : V} (h : kget m k = some v) : ∃ A B s, m = A ++ (k, v, s) :: B ∧ kget A k = none ∧ (∀ w c, kput m k w c = A ++ (k, w, s) :: B) ∧ kdel m k = A ++ B := by
  induction m with
  | nil => simp [kget] at h
  | cons y m ih =>
    by_cases hy : y.1 = k
    · simp [kget, hy] at h
      obtain ⟨y1, y2, y3⟩ := y
      simp at hy h
      exact ⟨[], m, y3, by simp [hy, h], rfl, fun w c => by simp [kput, hy], by simp [kdel, hy]⟩
    · have h' : kget m k = some v := by simpa [kget, hy] using h
      obtain ⟨A, B, s, h1, h2, h3, h4⟩ := ih h'
      exact ⟨y :: A, B, s, by rw [h1]; rfl, by simpa [kget, hy] using h2, fun w c => by simp [kput, hy, h3], by simp [kdel, hy, h4]⟩
omit [DecidableEq K] in
theorem kenc_u64N {P : Program} {kt : TypeId} (h : P.underlying kt = some (.int .u64)) : KEnc P kt (fun n : Nat => .int .u64 (n : Int)) :=
  kenc_of h rfl (fun a b => by simp only [Instr.sameNow, if_true, Option.some.injEq]; rw [Bool.eq_iff_iff]; simp [Int.natCast_inj]) (fun k => by simp [Instr.sameBits])
end
section
variable {P : Program} {T : Tr SV} {H : Heap} {nx : Nat} {d : Option Tmp} {ty : TypeId} {pos : String} {af : Array Edge} {gd : Option (Nat × Bool)}
theorem rd_eqStr {t yt : TypeId} {x y : Operand} {a b : ByteArray} (hx : evalS T x = some (.sc (.string a))) (hy : evalS T y = some (.sc (.string b))) : ReadDoes P T H ⟨d, .binOp .eql t x y yt, ty, pos, af, gd⟩ (.sc (.bool (a == b))) := by
  refine rd_pure fun ev w he => ?_
  have e1 := he x _ hx _ rfl
  have e2 := he y _ hy _ rfl
  rw [beq_toListBytes]
  simp [execOp, e1, e2, eqGuard, binOp, Op.stringOp]
theorem rd_neStr {t yt : TypeId} {x y : Operand} {a b : ByteArray} (hx : evalS T x = some (.sc (.string a))) (hy : evalS T y = some (.sc (.string b))) : ReadDoes P T H ⟨d, .binOp .neq t x y yt, ty, pos, af, gd⟩ (.sc (.bool (a != b))) := by
  refine rd_pure fun ev w he => ?_
  have e1 := he x _ hx _ rfl
  have e2 := he y _ hy _ rfl
  rw [show (a != b) = !(a == b) from rfl, beq_toListBytes]
  simp [execOp, e1, e2, eqGuard, binOp, Op.stringOp]
theorem rd_eqStrV {t yt : TypeId} {x y : Operand} {a b : ByteArray} {r : Bool} (hx : evalS T x = some (.sc (.string a))) (hy : evalS T y = some (.sc (.string b))) (hr : (a == b) = r) : ReadDoes P T H ⟨d, .binOp .eql t x y yt, ty, pos, af, gd⟩ (.sc (.bool r)) := hr ▸ rd_eqStr hx hy
theorem rd_neStrV {t yt : TypeId} {x y : Operand} {a b : ByteArray} {r : Bool} (hx : evalS T x = some (.sc (.string a))) (hy : evalS T y = some (.sc (.string b))) (hr : (a != b) = r) : ReadDoes P T H ⟨d, .binOp .neq t x y yt, ty, pos, af, gd⟩ (.sc (.bool r)) := hr ▸ rd_neStr hx hy
end
section
variable {P : Program} {ro : Option Nat} {fn nt nx : Nat} {T : Tr SV} {k : List AIt} {dfs : List ADf} {H : Heap} {Q : Pst} {ops : Array Oper} {i : Nat} {l : List Oper} {d : Option Tmp} {ty : TypeId} {pos : String} {af : Array Edge} {gd : Option (Nat × Bool)}
theorem w_neStr {t yt : TypeId} {x y : Operand} {a b : ByteArray} {dd : Nat} (hw : wantedS T ops ⟨some dd, .binOp .neq t x y yt, ty, pos, af, gd⟩ = some true) (hd : Nat.blt dd nt = true) (hx : evalS T x = some (.sc (.string a))) (hy : evalS T y = some (.sc (.string b)))
    (h : Wp P ro ⟨fn, nt, T.set dd (.sc (.bool (a != b))), .inReg ops (i + 1) l :: k, dfs, H, nx⟩ Q) : Wp P ro ⟨fn, nt, T, .inReg ops i (⟨some dd, .binOp .neq t x y yt, ty, pos, af, gd⟩ :: l) :: k, dfs, H, nx⟩ Q :=
  y_val hw (.inr (fun _ h => by cases h)) ((rd_neStr hx hy).does) (by rw [putS_some hd]; exact h)
theorem w_eqStrV {t yt : TypeId} {x y : Operand} {a b : ByteArray} {r : Bool} {dd : Nat} (hw : wantedS T ops ⟨some dd, .binOp .eql t x y yt, ty, pos, af, gd⟩ = some true) (hd : Nat.blt dd nt = true) (hx : evalS T x = some (.sc (.string a))) (hy : evalS T y = some (.sc (.string b))) (hr : (a == b) = r)
    (h : Wp P ro ⟨fn, nt, T.set dd (.sc (.bool r)), .inReg ops (i + 1) l :: k, dfs, H, nx⟩ Q) : Wp P ro ⟨fn, nt, T, .inReg ops i (⟨some dd, .binOp .eql t x y yt, ty, pos, af, gd⟩ :: l) :: k, dfs, H, nx⟩ Q :=
  y_val hw (.inr (fun _ h => by cases h)) ((rd_eqStrV hx hy hr).does) (by rw [putS_some hd]; exact h)
theorem w_neStrV {t yt : TypeId} {x y : Operand} {a b : ByteArray} {r : Bool} {dd : Nat} (hw : wantedS T ops ⟨some dd, .binOp .neq t x y yt, ty, pos, af, gd⟩ = some true) (hd : Nat.blt dd nt = true) (hx : evalS T x = some (.sc (.string a))) (hy : evalS T y = some (.sc (.string b))) (hr : (a != b) = r)
    (h : Wp P ro ⟨fn, nt, T.set dd (.sc (.bool r)), .inReg ops (i + 1) l :: k, dfs, H, nx⟩ Q) : Wp P ro ⟨fn, nt, T, .inReg ops i (⟨some dd, .binOp .neq t x y yt, ty, pos, af, gd⟩ :: l) :: k, dfs, H, nx⟩ Q :=
  y_val hw (.inr (fun _ h => by cases h)) ((rd_neStrV hx hy hr).does) (by rw [putS_some hd]; exact h)
end
section
variable {P : Program} {nt nx : Nat} {T : Tr SV} {H : Heap} {ops : Array Oper} {i : Nat} {l : List Oper} {ty : TypeId} {pos : String} {af : Array Edge} {gd : Option (Nat × Bool)} {K : DS → Prop} {rs : List Rec} {Hs : List (Heap × Nat)} {stg : Nat}
theorem dw_neStrV {t yt : TypeId} {x y : Operand} {a b : ByteArray} {r : Bool} {dd : Nat} (hw : wantedS (onlyT T (needs ops.toList ⟨some dd, .binOp .neq t x y yt, ty, pos, af, gd⟩)) ops ⟨some dd, .binOp .neq t x y yt, ty, pos, af, gd⟩ = some true) (hd : Nat.blt dd nt = true) (hx : evalS (onlyT T (needs ops.toList ⟨some dd, .binOp .neq t x y yt, ty, pos, af, gd⟩)) x = some (.sc (.string a))) (hy : evalS (onlyT T (needs ops.toList ⟨some dd, .binOp .neq t x y yt, ty, pos, af, gd⟩)) y = some (.sc (.string b))) (hr : (a != b) = r)
    (h : DrawK P nt ops (i + 1) l ⟨T.set dd (.sc (.bool r)), H, nx, ⟨i, ⟨some dd, .binOp .neq t x y yt, ty, pos, af, gd⟩, (onlyT T (needs ops.toList ⟨some dd, .binOp .neq t x y yt, ty, pos, af, gd⟩)), stg, false, true, (.sc (.bool r))⟩ :: rs, Hs, stg⟩ K) : DrawK P nt ops i (⟨some dd, .binOp .neq t x y yt, ty, pos, af, gd⟩ :: l) ⟨T, H, nx, rs, Hs, stg⟩ K :=
  dk_read hw hd (fun _ h => by cases h) (rd_neStrV hx hy hr) h
end
section
variable {P : Program}
theorem y_nilIn {ro : Option Nat} {fn nt nx : Nat} {T : Tr SV} {k : List AIt} {dfs : List ADf} {H : Heap} {Q : Pst} {d : Nat} {s s' : SV} (sz : Nat) (t : TypeId) (hT : T.at' d = some s) (h0 : Nat.blt 0 sz = true) (hc : ∀ e v, e nx = some ⟨0, 0, 0, sz, true⟩ → s.conc e = some v → s'.conc e = some v)
    (h : Wp P ro ⟨fn, nt, T.set d s', k, dfs, H.set nx (dat false 0 sz t []), nx + 1⟩ Q) : Wp P ro ⟨fn, nt, T, k, dfs, H, nx⟩ Q := by
  refine ⟨fun K w0 e w tmps todo ds kd rof cs hS hTr htd hds hc2 => ?_⟩
  have hf := hS.fresh nx (Nat.le_refl _)
  have hle := Env.le_put (x := ⟨0, 0, 0, sz, true⟩) hf
  have hT2 : TRel (e.put nx ⟨0, 0, 0, sz, true⟩) nt (T.set d s') tmps := by
    refine ⟨hTr.1, fun t u hs => ?_⟩
    rcases Tr.at_set hs with ⟨rfl, rfl⟩ | ⟨_, hs⟩
    · obtain ⟨v, g1, g2⟩ := hTr.2 _ _ hT
      exact ⟨v, hc _ _ (Env.put_same _ _ _) (SV.conc_mono hle _ _ g1), g2⟩
    · obtain ⟨v, g1, g2⟩ := hTr.2 _ _ hs
      exact ⟨v, SV.conc_mono hle _ _ g1, g2⟩
  obtain ⟨r, hr, e1, w', v, g1, g2⟩ := h.run K w0 _ w tmps todo ds kd rof cs (hS.newNil false sz t _ (lt_of_blt h0)) hT2 (htd.mono hle) (hds.mono hle) (hc2.mono hle)
  exact ⟨r, hr, e1, w', v, Env.le_trans hle g1, g2⟩
end
end Go.Sy
end
section
namespace Go.Proofs.Ytckajlllkmkniaa
open Go.Sl
structure LT where
  locks : List (ByteArray × (Nat × List Nat))
  parties : List (Nat × (List ByteArray × ByteArray))
def LT.empty : LT := ⟨[], []⟩
def LT.has (T : LT) (k : ByteArray) : Nat := match mget T.locks k with | some (o, _) => o | none => 0
def LT.line (T : LT) (k : ByteArray) : List Nat := match mget T.locks k with | some (_, l) => l | none => []
def LT.keys (T : LT) (o : Nat) : List ByteArray := match mget T.parties o with | some (ks, _) => ks | none => []
def LT.waits (T : LT) (o : Nat) : ByteArray := match mget T.parties o with | some (_, w) => w | none => ⟨#[]⟩
def LT.chase (T : LT) (o : Nat) : Nat → Nat → Option Bool
  | 0, _ => none
  | n + 1, who =>
    if who = o then some true else
    match mget T.parties who with
    | none => some false
    | some (_, w) => if w.size = 0 then some false else
      match mget T.locks w with
      | none => none
      | some (h, _) => T.chase o n h
def LT.ask (T : LT) (o : Nat) (k : ByteArray) : LT × Int :=
  if o = 0 ∨ k.size = 0 ∨ 32 < k.size then (T, 2) else
  if (T.waits o).size ≠ 0 then (T, 7) else
  match mget T.locks k with
  | none =>
    (⟨mput T.locks k (o, []), mput T.parties o (T.keys o ++ [k], ⟨#[]⟩)⟩, 0)
  | some (h, l) =>
    if h = o then (T, 0) else
    if T.chase o (T.parties.length + 1) h = some true then (T, 10) else
    (⟨mput T.locks k (h, l ++ [o]), mput T.parties o (T.keys o, k)⟩, 9)
def LT.letGo (T : LT) (k : ByteArray) : LT × Nat :=
  match mget T.locks k with
  | some (_, n :: rest) =>
    (⟨mput T.locks k (n, rest), mput T.parties n (T.keys n ++ [k], ⟨#[]⟩)⟩, n)
  | _ => (⟨mdel T.locks k, T.parties⟩, 0)
def LT.safeLetGo (T : LT) (k : ByteArray) : Prop :=
  ∃ ow l, mget T.locks k = some (ow, l) ∧ l.length < 1000000 ∧ ∀ n rest, l = n :: rest → n ≠ 0 ∧ (∃ p, mget T.parties n = some p) ∧ (T.keys n).length < 999999
def LT.pop (T : LT) (o : Nat) : LT := ⟨T.locks, mput T.parties o ((T.keys o).dropLast, T.waits o)⟩
def LT.popsOk (o : Nat) : Nat → LT → Prop
  | 0, _ => True
  | n + 1, T => ∃ k, (T.keys o).getLast? = some k ∧ (T.pop o).safeLetGo k ∧ (∃ p, mget ((T.pop o).letGo k).1.parties o = some p) ∧ (((T.pop o).letGo k).1.keys o).length + 1 = (T.keys o).length ∧ LT.popsOk o n ((T.pop o).letGo k).1
def LT.pops (o : Nat) : Nat → LT → List Nat → LT × List Nat
  | 0, T, came => (T, came)
  | n + 1, T, came =>
    match (T.keys o).getLast? with
    | none => (T, came)
    | some k =>
      LT.pops o n ((T.pop o).letGo k).1 (if ((T.pop o).letGo k).2 = 0 then came else came ++ [((T.pop o).letGo k).2])
def LT.leave (T : LT) (o : Nat) : LT :=
  if (T.waits o).size = 0 then T else
  match mget T.locks (T.waits o) with
  | none => T
  | some (h, l) => ⟨mput T.locks (T.waits o) (h, l.erase o), mput T.parties o (T.keys o, ⟨#[]⟩)⟩
def LT.back (T : LT) (o : Nat) (mark : Int) : LT × List Nat × Int :=
  if o = 0 ∨ mark < 0 ∨ (T.keys o).length < mark then (T, [], 2) else
  match mget T.parties o with
  | none => (T, [], 0)
  | some _ =>
    let T1 := T.leave o
    let (T2, came) := LT.pops o ((T1.keys o).length - mark.toNat) T1 []
    (if (T2.keys o).length = 0 then ⟨T2.locks, mdel T2.parties o⟩ else T2, came, 0)
theorem mget_map {K V U : Type} [DecidableEq K] (f : V → U) (l : List (K × V)) (k : K) : mget (l.map fun x => (x.1, f x.2)) k = (mget l k).map f := by
  induction l with
  | nil => rfl
  | cons x l ih =>
    rw [List.map_cons, mget_cons, mget_cons]
    split <;> simp [ih]
theorem mput_map {K V U : Type} [DecidableEq K] (f : V → U) (l : List (K × V)) (k : K) (v : V) : (mput l k v).map (fun x => (x.1, f x.2)) = mput (l.map fun x => (x.1, f x.2)) k (f v) := by
  induction l with
  | nil => rfl
  | cons x l ih =>
    rw [List.map_cons]
    unfold mput
    split
    · simp
    · simp [ih]
theorem mdel_map {K V U : Type} [DecidableEq K] (f : V → U) (l : List (K × V)) (k : K) : (mdel l k).map (fun x => (x.1, f x.2)) = mdel (l.map fun x => (x.1, f x.2)) k := by
  induction l with
  | nil => rfl
  | cons x l ih =>
    rw [List.map_cons]
    unfold mdel
    split
    · rfl
    · simp [ih]
end Go.Proofs.Ytckajlllkmkniaa
end
section
namespace Go.Proofs.Ytckajlllkmkniaa
open Go.Sl
theorem nodup_le {A : Type} [DecidableEq A] : ∀ (l m : List A), l.Nodup → (∀ x ∈ l, x ∈ m) → l.length ≤ m.length
  | [], m, _, _ => Nat.zero_le _
  | a :: l, m, hn, hs => by
    rw [List.nodup_cons] at hn
    have ha := hs a (List.mem_cons_self ..)
    have := nodup_le l (m.erase a) hn.2 (fun x hx => by
      have hne : x ≠ a := by rintro rfl; exact hn.1 hx
      exact (List.mem_erase_of_ne hne).2 (hs x (List.mem_cons_of_mem _ hx)))
    rw [List.length_erase_of_mem ha] at this
    have hp : 0 < m.length := List.length_pos_of_mem ha
    simp only [List.length_cons]
    omega
theorem mget_mem {K V : Type} [DecidableEq K] {l : List (K × V)} {k : K} {v : V} (h : mget l k = some v) : k ∈ l.map (·.1) := by
  obtain ⟨A, B, rfl, _⟩ := mget_split h
  simp
theorem mget_out {K V : Type} [DecidableEq K] {l : List (K × V)} {k : K} (h : k ∉ l.map (·.1)) : mget l k = none := by
  cases hg : mget l k with
  | none => rfl
  | some v => exact absurd (mget_mem hg) h
theorem mget_mdel {K V : Type} [DecidableEq K] {l : List (K × V)} (hn : (l.map (·.1)).Nodup) (k k' : K) : mget (mdel l k) k' = if k = k' then none else mget l k' := by
  by_cases hk : k = k'
  · subst hk
    rw [if_pos rfl]
    exact mget_out (nodup_mdel hn k).2
  · rw [if_neg hk]
    clear hn
    induction l with
    | nil => rfl
    | cons x l ih =>
      unfold mdel
      split
      · rename_i hx
        rw [mget_cons, if_neg (by rw [hx]; exact hk)]
      · rw [mget_cons, mget_cons, ih]
def LT.Down (T : LT) (rank : Nat → Nat) : Prop :=
  ∀ o ks w, mget T.parties o = some (ks, w) → w.size ≠ 0 → ∃ h l, mget T.locks w = some (h, l) ∧ rank h < rank o
theorem LT.chase_ends {T : LT} {rank : Nat → Nat} (hr : T.Down rank) (o : Nat) : ∀ (n who : Nat) (vis : List Nat), vis.Nodup → (∀ x ∈ vis, x ∈ T.parties.map (·.1) ∧ rank who < rank x) → T.parties.length < n + vis.length → ∃ b, T.chase o n who = some b
  | 0, who, vis, hn, hv, hl => by
    have := nodup_le vis (T.parties.map (·.1)) hn (fun x hx => (hv x hx).1)
    rw [List.length_map] at this
    omega
  | n + 1, who, vis, hn, hv, hl => by
    unfold LT.chase
    split
    · exact ⟨_, rfl⟩
    · cases hp : mget T.parties who with
      | none => exact ⟨_, rfl⟩
      | some p =>
        obtain ⟨ks, w⟩ := p
        simp only
        split
        · exact ⟨_, rfl⟩
        · rename_i hw
          obtain ⟨h, l, hg, hlt⟩ := hr who ks w hp hw
          rw [hg]
          simp only
          refine LT.chase_ends hr o n h (who :: vis) ?_ ?_ (by simp only [List.length_cons]; omega)
          · rw [List.nodup_cons]
            exact ⟨fun hm => Nat.lt_irrefl _ (hv who hm).2, hn⟩
          · intro x hx
            rcases List.mem_cons.1 hx with rfl | hx
            · exact ⟨mget_mem hp, hlt⟩
            · exact ⟨(hv x hx).1, Nat.lt_trans hlt (hv x hx).2⟩
structure LT.WF (T : LT) : Prop where
  own : ∀ k o l, mget T.locks k = some (o, l) → k.size ≠ 0 ∧ o ≠ 0 ∧ (∃ ks w, mget T.parties o = some (ks, w) ∧ k ∈ ks) ∧ l.Nodup ∧ ∀ x ∈ l, x ≠ 0 ∧ x ≠ o ∧ ∃ ks, mget T.parties x = some (ks, k)
  par : ∀ o ks w, mget T.parties o = some (ks, w) → o ≠ 0 ∧ ks.Nodup ∧ (∀ k ∈ ks, ∃ l, mget T.locks k = some (o, l)) ∧ (w.size ≠ 0 → ∃ h l, mget T.locks w = some (h, l) ∧ o ∈ l)
  down : ∃ rank, T.Down rank
theorem LT.WF.empty : LT.empty.WF := ⟨fun k o l h => by simp [LT.empty, mget_nil] at h, fun o ks w h => by simp [LT.empty, mget_nil] at h, fun _ => 0, fun o ks w h => by simp [LT.empty, mget_nil] at h⟩
theorem LT.WF.chase {T : LT} (h : T.WF) (o who : Nat) : ∃ b, T.chase o (T.parties.length + 1) who = some b := by
  obtain ⟨rank, hr⟩ := h.down
  exact LT.chase_ends hr o _ who [] List.nodup_nil (by simp) (by simp)
theorem LT.WF.keys_le {T : LT} (h : T.WF) (o : Nat) : (T.keys o).length ≤ T.locks.length := by
  unfold LT.keys
  cases hp : mget T.parties o with
  | none => simp
  | some p =>
    obtain ⟨ks, w⟩ := p
    obtain ⟨_, hn, hk, _⟩ := h.par o ks w hp
    have := nodup_le ks (T.locks.map (·.1)) hn (fun k hm => by obtain ⟨l, hl⟩ := hk k hm; exact mget_mem hl)
    simpa using this
theorem LT.WF.line_le {T : LT} (h : T.WF) (k : ByteArray) : (T.line k).length ≤ T.parties.length := by
  unfold LT.line
  cases hp : mget T.locks k with
  | none => simp
  | some p =>
    obtain ⟨o, l⟩ := p
    obtain ⟨_, _, _, hn, hl⟩ := h.own k o l hp
    have := nodup_le l (T.parties.map (·.1)) hn (fun x hm => by obtain ⟨_, _, ks, hx⟩ := hl x hm; exact mget_mem hx)
    simpa using this
theorem LT.WF.newKey {T : LT} (h : T.WF) {o : Nat} {k : ByteArray} (ho : o ≠ 0) (hk : k.size ≠ 0) (hw : (T.waits o).size = 0) (hg : mget T.locks k = none) :
    (⟨mput T.locks k (o, []), mput T.parties o (T.keys o ++ [k], ⟨#[]⟩)⟩ : LT).WF := by
  have hold : ∀ ks w, mget T.parties o = some (ks, w) → T.keys o = ks ∧ w.size = 0 := by
    intro ks w hp
    unfold LT.waits at hw
    rw [hp] at hw
    exact ⟨by unfold LT.keys; rw [hp], hw⟩
  have hin : ∀ k', k' ∈ T.keys o → ∃ l, mget T.locks k' = some (o, l) := by
    intro k' hm
    unfold LT.keys at hm
    cases hp : mget T.parties o with
    | none => rw [hp] at hm; simp at hm
    | some p => rw [hp] at hm; exact (h.par o p.1 p.2 hp).2.2.1 k' hm
  have hnd : (T.keys o).Nodup := by
    unfold LT.keys
    cases hp : mget T.parties o with
    | none => exact List.nodup_nil
    | some p => exact (h.par o p.1 p.2 hp).2.1
  refine ⟨?_, ?_, ?_⟩
  · intro k' o' l' hm
    simp only [mget_mput] at hm ⊢
    by_cases hkk : k = k'
    · rw [if_pos hkk] at hm
      simp only [Option.some.injEq, Prod.mk.injEq] at hm
      obtain ⟨rfl, rfl⟩ := hm
      subst hkk
      exact ⟨hk, ho, ⟨_, _, if_pos rfl, by simp⟩, List.nodup_nil, by simp⟩
    · rw [if_neg hkk] at hm
      obtain ⟨a1, a2, ⟨ks, w, a3, a4⟩, a5, a6⟩ := h.own k' o' l' hm
      refine ⟨a1, a2, ?_, a5, fun x hx => ?_⟩
      · by_cases hoo : o = o'
        · subst hoo
          exact ⟨_, _, if_pos rfl, by rw [(hold ks w a3).1]; simp [a4]⟩
        · exact ⟨ks, w, by rw [if_neg hoo]; exact a3, a4⟩
      · obtain ⟨b1, b2, ks', b3⟩ := a6 x hx
        have hox : o ≠ x := by rintro rfl; exact a1 (hold _ _ b3).2
        exact ⟨b1, b2, ks', by rw [if_neg hox]; exact b3⟩
  · intro o' ks w hp
    simp only [mget_mput] at hp ⊢
    by_cases hoo : o = o'
    · subst hoo
      rw [if_pos rfl] at hp
      simp only [Option.some.injEq, Prod.mk.injEq] at hp
      obtain ⟨rfl, rfl⟩ := hp
      refine ⟨ho, ?_, ?_, fun hws => absurd rfl hws⟩
      · rw [List.nodup_append]
        refine ⟨hnd, by simp, ?_⟩
        intro a ha b hb
        simp only [List.mem_singleton] at hb
        subst hb
        rintro rfl
        obtain ⟨l, hl⟩ := hin _ ha
        rw [hg] at hl
        cases hl
      · intro k' hm
        by_cases hkk : k = k'
        · exact ⟨[], by rw [if_pos hkk]⟩
        · rw [List.mem_append] at hm
          rcases hm with hm | hm
          · obtain ⟨l, hl⟩ := hin _ hm
            exact ⟨l, by rw [if_neg hkk]; exact hl⟩
          · simp only [List.mem_singleton] at hm
            exact absurd hm.symm hkk
    · rw [if_neg hoo] at hp
      obtain ⟨a1, a2, a3, a4⟩ := h.par o' ks w hp
      refine ⟨a1, a2, fun k' hm => ?_, fun hws => ?_⟩
      · obtain ⟨l, hl⟩ := a3 k' hm
        have hkk : k ≠ k' := by rintro rfl; rw [hg] at hl; cases hl
        exact ⟨l, by rw [if_neg hkk]; exact hl⟩
      · obtain ⟨hh, l, hl, hx⟩ := a4 hws
        have hkk : k ≠ w := by rintro rfl; rw [hg] at hl; cases hl
        exact ⟨hh, l, by rw [if_neg hkk]; exact hl, hx⟩
  · obtain ⟨rank, hr⟩ := h.down
    refine ⟨rank, fun o' ks w hp hws => ?_⟩
    simp only [mget_mput] at hp ⊢
    by_cases hoo : o = o'
    · rw [if_pos hoo] at hp
      simp only [Option.some.injEq, Prod.mk.injEq] at hp
      obtain ⟨_, rfl⟩ := hp
      exact absurd rfl hws
    · rw [if_neg hoo] at hp
      obtain ⟨hh, l, hl, hx⟩ := hr o' ks w hp hws
      have hkk : k ≠ w := by rintro rfl; rw [hg] at hl; cases hl
      exact ⟨hh, l, by rw [if_neg hkk]; exact hl, hx⟩
theorem LT.chase_more {T : LT} (o : Nat) : ∀ (n who : Nat) (b : Bool), T.chase o n who = some b → T.chase o (n + 1) who = some b
  | 0, who, b, h => by unfold LT.chase at h; cases h
  | n + 1, who, b, h => by
    unfold LT.chase at h ⊢
    split at h
    · rename_i he; rw [if_pos he]; exact h
    · rename_i he
      rw [if_neg he]
      cases hp : mget T.parties who with
      | none => rw [hp] at h; exact h
      | some p =>
        obtain ⟨ks, w⟩ := p
        rw [hp] at h
        simp only at h ⊢
        split at h
        · rename_i hw; rw [if_pos hw]; exact h
        · rename_i hw
          rw [if_neg hw]
          cases hg : mget T.locks w with
          | none => rw [hg] at h; cases h
          | some q =>
            rw [hg] at h
            exact LT.chase_more o n q.1 b h
theorem LT.chase_far {T : LT} {o n who : Nat} {b : Bool} (h : T.chase o n who = some b) : ∀ m, T.chase o (n + m) who = some b
  | 0 => h
  | m + 1 => LT.chase_more o (n + m) who b (LT.chase_far h m)
theorem LT.chase_one {T : LT} {o n m who : Nat} {b c : Bool} (h : T.chase o n who = some b) (h' : T.chase o m who = some c) : b = c := by
  have h1 := LT.chase_far h m
  have h2 := LT.chase_far h' n
  rw [Nat.add_comm] at h2
  rw [h1] at h2
  exact Option.some.inj h2
open Classical in
theorem LT.Down.wait {T : LT} {rank : Nat → Nat} (hr : T.Down rank) {o h n : Nat} {k : ByteArray} {l : List Nat} (hg : mget T.locks k = some (h, l)) (hc : T.chase o n h = some false) :
    ∃ rank', LT.Down ⟨mput T.locks k (h, l ++ [o]), mput T.parties o (T.keys o, k)⟩ rank' := by
  have hPh : ¬ ∃ n, T.chase o n h = some true := by
    rintro ⟨m, hm⟩
    have := LT.chase_one hc hm
    cases this
  have hPo : ∃ n, T.chase o n o = some true := ⟨1, by unfold LT.chase; rw [if_pos rfl]⟩
  refine ⟨fun x => rank x + (if ∃ n, T.chase o n x = some true then rank h + 1 else 0), fun o' ks w hp hws => ?_⟩
  simp only [mget_mput] at hp ⊢
  by_cases hoo : o = o'
  · subst hoo
    rw [if_pos rfl] at hp
    simp only [Option.some.injEq, Prod.mk.injEq] at hp
    obtain ⟨_, rfl⟩ := hp
    exact ⟨h, l ++ [o], if_pos rfl, by rw [if_neg hPh, if_pos hPo]; omega⟩
  · rw [if_neg hoo] at hp
    obtain ⟨hh, l', hl, hx⟩ := hr o' ks w hp hws
    have hlt : rank hh + (if ∃ n, T.chase o n hh = some true then rank h + 1 else 0) < rank o' + (if ∃ n, T.chase o n o' = some true then rank h + 1 else 0) := by
      by_cases hy : ∃ n, T.chase o n hh = some true
      · have hx' : ∃ n, T.chase o n o' = some true := by
          obtain ⟨m, hm⟩ := hy
          refine ⟨m + 1, ?_⟩
          unfold LT.chase
          rw [if_neg (Ne.symm hoo), hp]
          simp only
          rw [if_neg hws, hl]
          exact hm
        rw [if_pos hy, if_pos hx']; omega
      · rw [if_neg hy]; omega
    by_cases hkk : k = w
    · subst hkk
      rw [hg] at hl
      simp only [Option.some.injEq, Prod.mk.injEq] at hl
      obtain ⟨rfl, rfl⟩ := hl
      exact ⟨h, l ++ [o], if_pos rfl, hlt⟩
    · exact ⟨hh, l', by rw [if_neg hkk]; exact hl, hlt⟩
theorem LT.WF.wait {T : LT} (H : T.WF) {o h n : Nat} {k : ByteArray} {l : List Nat} (ho : o ≠ 0) (hw : (T.waits o).size = 0) (hg : mget T.locks k = some (h, l)) (hne : h ≠ o) (hc : T.chase o n h = some false) :
    (⟨mput T.locks k (h, l ++ [o]), mput T.parties o (T.keys o, k)⟩ : LT).WF := by
  have hold : ∀ ks w, mget T.parties o = some (ks, w) → T.keys o = ks ∧ w.size = 0 := by
    intro ks w hp
    unfold LT.waits at hw
    rw [hp] at hw
    exact ⟨by unfold LT.keys; rw [hp], hw⟩
  have hin : ∀ k', k' ∈ T.keys o → ∃ l, mget T.locks k' = some (o, l) := by
    intro k' hm
    unfold LT.keys at hm
    cases hp : mget T.parties o with
    | none => rw [hp] at hm; simp at hm
    | some p => rw [hp] at hm; exact (H.par o p.1 p.2 hp).2.2.1 k' hm
  have hnd : (T.keys o).Nodup := by
    unfold LT.keys
    cases hp : mget T.parties o with
    | none => exact List.nodup_nil
    | some p => exact (H.par o p.1 p.2 hp).2.1
  obtain ⟨k1, k2, ⟨kks, kw, k3, k4⟩, k5, k6⟩ := H.own k h l hg
  refine ⟨?_, ?_, ?_⟩
  · intro k' o' l' hm
    simp only [mget_mput] at hm ⊢
    by_cases hkk : k = k'
    · rw [if_pos hkk] at hm
      simp only [Option.some.injEq, Prod.mk.injEq] at hm
      obtain ⟨rfl, rfl⟩ := hm
      subst hkk
      refine ⟨k1, k2, ⟨kks, kw, by rw [if_neg (Ne.symm hne)]; exact k3, k4⟩, ?_, ?_⟩
      · rw [List.nodup_append]
        refine ⟨k5, by simp, ?_⟩
        intro a ha b hb
        simp only [List.mem_singleton] at hb
        subst hb
        rintro rfl
        obtain ⟨_, _, ks, hx⟩ := k6 _ ha
        exact k1 (hold _ _ hx).2
      · intro x hx
        rw [List.mem_append] at hx
        rcases hx with hx | hx
        · obtain ⟨b1, b2, ks, b3⟩ := k6 x hx
          have hox : o ≠ x := by rintro rfl; exact k1 (hold _ _ b3).2
          exact ⟨b1, b2, ks, by rw [if_neg hox]; exact b3⟩
        · simp only [List.mem_singleton] at hx
          subst hx
          exact ⟨ho, Ne.symm hne, _, if_pos rfl⟩
    · rw [if_neg hkk] at hm
      obtain ⟨a1, a2, ⟨ks, w, a3, a4⟩, a5, a6⟩ := H.own k' o' l' hm
      refine ⟨a1, a2, ?_, a5, fun x hx => ?_⟩
      · by_cases hoo : o = o'
        · subst hoo
          exact ⟨_, _, if_pos rfl, by rw [(hold ks w a3).1]; exact a4⟩
        · exact ⟨ks, w, by rw [if_neg hoo]; exact a3, a4⟩
      · obtain ⟨b1, b2, ks', b3⟩ := a6 x hx
        have hox : o ≠ x := by rintro rfl; exact a1 (hold _ _ b3).2
        exact ⟨b1, b2, ks', by rw [if_neg hox]; exact b3⟩
  · intro o' ks w hp
    simp only [mget_mput] at hp ⊢
    by_cases hoo : o = o'
    · subst hoo
      rw [if_pos rfl] at hp
      simp only [Option.some.injEq, Prod.mk.injEq] at hp
      obtain ⟨rfl, rfl⟩ := hp
      refine ⟨ho, hnd, fun k' hm => ?_, fun _ => ⟨h, l ++ [o], if_pos rfl, by simp⟩⟩
      obtain ⟨l', hl⟩ := hin _ hm
      have hkk : k ≠ k' := by
        rintro rfl
        rw [hg] at hl
        simp only [Option.some.injEq, Prod.mk.injEq] at hl
        exact hne hl.1
      exact ⟨l', by rw [if_neg hkk]; exact hl⟩
    · rw [if_neg hoo] at hp
      obtain ⟨a1, a2, a3, a4⟩ := H.par o' ks w hp
      refine ⟨a1, a2, fun k' hm => ?_, fun hws => ?_⟩
      · obtain ⟨l', hl⟩ := a3 k' hm
        by_cases hkk : k = k'
        · subst hkk
          rw [hg] at hl
          simp only [Option.some.injEq, Prod.mk.injEq] at hl
          obtain ⟨rfl, rfl⟩ := hl
          exact ⟨l ++ [o], if_pos rfl⟩
        · exact ⟨l', by rw [if_neg hkk]; exact hl⟩
      · obtain ⟨hh, l', hl, hx⟩ := a4 hws
        by_cases hkk : k = w
        · subst hkk
          rw [hg] at hl
          simp only [Option.some.injEq, Prod.mk.injEq] at hl
          obtain ⟨rfl, rfl⟩ := hl
          exact ⟨h, l ++ [o], if_pos rfl, List.mem_append_left _ hx⟩
        · exact ⟨hh, l', by rw [if_neg hkk]; exact hl, hx⟩
  · obtain ⟨rank, hr⟩ := H.down
    exact hr.wait hg hc
theorem LT.WF.ask {T : LT} (H : T.WF) (o : Nat) (k : ByteArray) : (T.ask o k).1.WF := by
  unfold LT.ask
  split
  · exact H
  · rename_i h1
    split
    · exact H
    · rename_i h2
      have hw : (T.waits o).size = 0 := Decidable.not_not.1 h2
      have ho : o ≠ 0 := fun h => h1 (.inl h)
      have hk : k.size ≠ 0 := fun h => h1 (.inr (.inl h))
      cases hg : mget T.locks k with
      | none => exact H.newKey ho hk hw hg
      | some p =>
        obtain ⟨h, l⟩ := p
        simp only
        split
        · exact H
        · rename_i hne
          obtain ⟨b, hb⟩ := H.chase o h
          split
          · exact H
          · rename_i hc
            cases b
            · exact H.wait ho hw hg hne hb
            · exact absurd hb hc
theorem LT.WF.out {T : LT} (H : T.WF) {o h : Nat} {ks : List ByteArray} {w : ByteArray} {l : List Nat} (hp : mget T.parties o = some (ks, w)) (hws : w.size ≠ 0) (hg : mget T.locks w = some (h, l)) (ho : o ∈ l) :
    (⟨mput T.locks w (h, l.erase o), mput T.parties o (ks, ⟨#[]⟩)⟩ : LT).WF := by
  obtain ⟨k1, k2, ⟨kks, kw, k3, k4⟩, k5, k6⟩ := H.own w h l hg
  obtain ⟨p1, p2, p3, p4⟩ := H.par o ks w hp
  have hoh : o ≠ h := (k6 o ho).2.1
  refine ⟨?_, ?_, ?_⟩
  · intro k' o' l' hm
    simp only [mget_mput] at hm ⊢
    by_cases hkk : w = k'
    · rw [if_pos hkk] at hm
      simp only [Option.some.injEq, Prod.mk.injEq] at hm
      obtain ⟨rfl, rfl⟩ := hm
      subst hkk
      refine ⟨k1, k2, ⟨kks, kw, by rw [if_neg hoh]; exact k3, k4⟩, k5.erase o, fun x hx => ?_⟩
      have hx' := (List.Nodup.mem_erase_iff k5).1 hx
      obtain ⟨b1, b2, ks', b3⟩ := k6 x hx'.2
      exact ⟨b1, b2, ks', by rw [if_neg (Ne.symm hx'.1)]; exact b3⟩
    · rw [if_neg hkk] at hm
      obtain ⟨a1, a2, ⟨ks', w', a3, a4⟩, a5, a6⟩ := H.own k' o' l' hm
      refine ⟨a1, a2, ?_, a5, fun x hx => ?_⟩
      · by_cases hoo : o = o'
        · subst hoo
          rw [hp] at a3
          simp only [Option.some.injEq, Prod.mk.injEq] at a3
          obtain ⟨rfl, rfl⟩ := a3
          exact ⟨_, _, if_pos rfl, a4⟩
        · exact ⟨ks', w', by rw [if_neg hoo]; exact a3, a4⟩
      · obtain ⟨b1, b2, ks'', b3⟩ := a6 x hx
        have hox : o ≠ x := by
          rintro rfl
          rw [hp] at b3
          simp only [Option.some.injEq, Prod.mk.injEq] at b3
          exact hkk b3.2
        exact ⟨b1, b2, ks'', by rw [if_neg hox]; exact b3⟩
  · intro o' ks' w' hp'
    simp only [mget_mput] at hp' ⊢
    have hk' : ∀ {o' k' l'}, mget T.locks k' = some (o', l') → ∃ l'', (if w = k' then some (h, l.erase o) else mget T.locks k') = some (o', l'') := by
      intro o' k' l' hl
      by_cases hkk : w = k'
      · subst hkk
        rw [hg] at hl
        simp only [Option.some.injEq, Prod.mk.injEq] at hl
        obtain ⟨rfl, rfl⟩ := hl
        exact ⟨_, if_pos rfl⟩
      · exact ⟨l', by rw [if_neg hkk]; exact hl⟩
    by_cases hoo : o = o'
    · subst hoo
      rw [if_pos rfl] at hp'
      simp only [Option.some.injEq, Prod.mk.injEq] at hp'
      obtain ⟨rfl, rfl⟩ := hp'
      exact ⟨p1, p2, fun k' hm => by obtain ⟨l', hl⟩ := p3 k' hm; exact hk' hl, fun hh => absurd rfl hh⟩
    · rw [if_neg hoo] at hp'
      obtain ⟨a1, a2, a3, a4⟩ := H.par o' ks' w' hp'
      refine ⟨a1, a2, fun k' hm => by obtain ⟨l', hl⟩ := a3 k' hm; exact hk' hl, fun hws' => ?_⟩
      obtain ⟨hh, l', hl, hx⟩ := a4 hws'
      by_cases hkk : w = w'
      · subst hkk
        rw [hg] at hl
        simp only [Option.some.injEq, Prod.mk.injEq] at hl
        obtain ⟨rfl, rfl⟩ := hl
        exact ⟨h, _, if_pos rfl, (List.mem_erase_of_ne (Ne.symm hoo)).2 hx⟩
      · exact ⟨hh, l', by rw [if_neg hkk]; exact hl, hx⟩
  · obtain ⟨rank, hr⟩ := H.down
    refine ⟨rank, fun o' ks' w' hp' hws' => ?_⟩
    simp only [mget_mput] at hp' ⊢
    by_cases hoo : o = o'
    · rw [if_pos hoo] at hp'
      simp only [Option.some.injEq, Prod.mk.injEq] at hp'
      obtain ⟨_, rfl⟩ := hp'
      exact absurd rfl hws'
    · rw [if_neg hoo] at hp'
      obtain ⟨hh, l', hl, hx⟩ := hr o' ks' w' hp' hws'
      by_cases hkk : w = w'
      · subst hkk
        rw [hg] at hl
        simp only [Option.some.injEq, Prod.mk.injEq] at hl
        obtain ⟨rfl, rfl⟩ := hl
        exact ⟨h, _, if_pos rfl, hx⟩
      · exact ⟨hh, l', by rw [if_neg hkk]; exact hl, hx⟩
theorem LT.WF.dropKey {T : LT} (H : T.WF) {o : Nat} {ks : List ByteArray} {k w : ByteArray} (hp : mget T.parties o = some (ks ++ [k], w)) (hws : w.size = 0) (hg : mget T.locks k = some (o, [])) (hnd : (T.locks.map (·.1)).Nodup) :
    (⟨mdel T.locks k, mput T.parties o (ks, w)⟩ : LT).WF := by
  obtain ⟨p1, p2, p3, p4⟩ := H.par o _ w hp
  rw [List.nodup_append] at p2
  have hkn : k ∉ ks := fun hm => p2.2.2 k hm k (by simp) rfl
  refine ⟨?_, ?_, ?_⟩
  · intro k' o' l' hm
    simp only [mget_mput, mget_mdel hnd] at hm ⊢
    by_cases hkk : k = k'
    · rw [if_pos hkk] at hm; cases hm
    · rw [if_neg hkk] at hm
      obtain ⟨a1, a2, ⟨ks', w', a3, a4⟩, a5, a6⟩ := H.own k' o' l' hm
      refine ⟨a1, a2, ?_, a5, fun x hx => ?_⟩
      · by_cases hoo : o = o'
        · subst hoo
          rw [hp] at a3
          simp only [Option.some.injEq, Prod.mk.injEq] at a3
          obtain ⟨rfl, rfl⟩ := a3
          rw [List.mem_append] at a4
          refine ⟨_, _, if_pos rfl, a4.resolve_right ?_⟩
          simp only [List.mem_singleton]
          exact fun h => hkk h.symm
        · exact ⟨ks', w', by rw [if_neg hoo]; exact a3, a4⟩
      · obtain ⟨b1, b2, ks'', b3⟩ := a6 x hx
        have hox : o ≠ x := by
          rintro rfl
          rw [hp] at b3
          simp only [Option.some.injEq, Prod.mk.injEq] at b3
          rw [b3.2] at hws
          exact a1 hws
        exact ⟨b1, b2, ks'', by rw [if_neg hox]; exact b3⟩
  · intro o' ks' w' hp'
    simp only [mget_mput, mget_mdel hnd] at hp' ⊢
    by_cases hoo : o = o'
    · subst hoo
      rw [if_pos rfl] at hp'
      simp only [Option.some.injEq, Prod.mk.injEq] at hp'
      obtain ⟨rfl, rfl⟩ := hp'
      refine ⟨p1, p2.1, fun k' hm => ?_, fun hh => absurd hws hh⟩
      obtain ⟨l', hl⟩ := p3 k' (List.mem_append_left _ hm)
      have hkk : k ≠ k' := by rintro rfl; exact hkn hm
      exact ⟨l', by rw [if_neg hkk]; exact hl⟩
    · rw [if_neg hoo] at hp'
      obtain ⟨a1, a2, a3, a4⟩ := H.par o' ks' w' hp'
      refine ⟨a1, a2, fun k' hm => ?_, fun hws' => ?_⟩
      · obtain ⟨l', hl⟩ := a3 k' hm
        have hkk : k ≠ k' := by
          rintro rfl
          rw [hg] at hl
          simp only [Option.some.injEq, Prod.mk.injEq] at hl
          exact hoo hl.1
        exact ⟨l', by rw [if_neg hkk]; exact hl⟩
      · obtain ⟨hh, l', hl, hx⟩ := a4 hws'
        have hkk : k ≠ w' := by
          rintro rfl
          rw [hg] at hl
          simp only [Option.some.injEq, Prod.mk.injEq] at hl
          rw [← hl.2] at hx
          cases hx
        exact ⟨hh, l', by rw [if_neg hkk]; exact hl, hx⟩
  · obtain ⟨rank, hr⟩ := H.down
    refine ⟨rank, fun o' ks' w' hp' hws' => ?_⟩
    simp only [mget_mput, mget_mdel hnd] at hp' ⊢
    by_cases hoo : o = o'
    · rw [if_pos hoo] at hp'
      simp only [Option.some.injEq, Prod.mk.injEq] at hp'
      rw [← hp'.2] at hws'
      exact absurd hws hws'
    · rw [if_neg hoo] at hp'
      obtain ⟨hh, l', hl, hx⟩ := (H.par o' ks' w' hp').2.2.2 hws'
      obtain ⟨h2, l2, hl2, hlt⟩ := hr o' ks' w' hp' hws'
      have hkk : k ≠ w' := by
        rintro rfl
        rw [hg] at hl
        simp only [Option.some.injEq, Prod.mk.injEq] at hl
        rw [← hl.2] at hx
        cases hx
      exact ⟨h2, l2, by rw [if_neg hkk]; exact hl2, hlt⟩
theorem LT.WF.passKey {T : LT} (H : T.WF) {o n : Nat} {ks kn : List ByteArray} {rest : List Nat} {k w : ByteArray} (hp : mget T.parties o = some (ks ++ [k], w)) (hws : w.size = 0) (hg : mget T.locks k = some (o, n :: rest)) (hn : mget T.parties n = some (kn, k)) :
    (⟨mput T.locks k (n, rest), mput (mput T.parties o (ks, w)) n (kn ++ [k], ⟨#[]⟩)⟩ : LT).WF := by
  obtain ⟨p1, p2, p3, p4⟩ := H.par o _ w hp
  obtain ⟨n1, n2, n3, n4⟩ := H.par n _ k hn
  obtain ⟨k1, k2, k3, k5, k6⟩ := H.own k o _ hg
  rw [List.nodup_append] at p2
  rw [List.nodup_cons] at k5
  have hkn : k ∉ ks := fun hm => p2.2.2 k hm k (by simp) rfl
  have hno : n ≠ o := (k6 n (List.mem_cons_self ..)).2.1
  have hkk2 : k ∉ kn := by
    intro hm
    obtain ⟨l, hl⟩ := n3 k hm
    rw [hg] at hl
    simp only [Option.some.injEq, Prod.mk.injEq] at hl
    exact hno hl.1.symm
  have hget : ∀ x, mget (mput (mput T.parties o (ks, w)) n (kn ++ [k], ⟨#[]⟩)) x = if n = x then some (kn ++ [k], ⟨#[]⟩) else if o = x then some (ks, w) else mget T.parties x := fun x => by rw [mget_mput, mget_mput]
  have hgl : ∀ x, mget (mput T.locks k (n, rest)) x = if k = x then some (n, rest) else mget T.locks x := fun x => mget_mput _ _ _ _
  refine ⟨?_, ?_, ?_⟩
  · intro k' o' l' hm
    simp only [hget, hgl] at hm ⊢
    by_cases hkk : k = k'
    · rw [if_pos hkk] at hm
      simp only [Option.some.injEq, Prod.mk.injEq] at hm
      obtain ⟨rfl, rfl⟩ := hm
      subst hkk
      refine ⟨k1, n1, ⟨_, _, if_pos rfl, by simp⟩, k5.2, fun x hx => ?_⟩
      obtain ⟨b1, b2, ks', b3⟩ := k6 x (List.mem_cons_of_mem _ hx)
      have hxn : n ≠ x := by rintro rfl; exact k5.1 hx
      exact ⟨b1, Ne.symm hxn, ks', by rw [if_neg hxn, if_neg (Ne.symm b2)]; exact b3⟩
    · rw [if_neg hkk] at hm
      obtain ⟨a1, a2, ⟨ks', w', a3, a4⟩, a5, a6⟩ := H.own k' o' l' hm
      refine ⟨a1, a2, ?_, a5, fun x hx => ?_⟩
      · by_cases hnn : n = o'
        · subst hnn
          rw [hn] at a3
          simp only [Option.some.injEq, Prod.mk.injEq] at a3
          obtain ⟨rfl, rfl⟩ := a3
          exact ⟨_, _, if_pos rfl, List.mem_append_left _ a4⟩
        · by_cases hoo : o = o'
          · subst hoo
            rw [hp] at a3
            simp only [Option.some.injEq, Prod.mk.injEq] at a3
            obtain ⟨rfl, rfl⟩ := a3
            rw [List.mem_append] at a4
            refine ⟨ks, w, by rw [if_neg hnn, if_pos rfl], a4.resolve_right ?_⟩
            simp only [List.mem_singleton]
            exact fun h => hkk h.symm
          · exact ⟨ks', w', by rw [if_neg hnn, if_neg hoo]; exact a3, a4⟩
      · obtain ⟨b1, b2, ks'', b3⟩ := a6 x hx
        have hox : o ≠ x := by
          rintro rfl
          rw [hp] at b3
          simp only [Option.some.injEq, Prod.mk.injEq] at b3
          rw [b3.2] at hws
          exact a1 hws
        have hnx : n ≠ x := by
          rintro rfl
          rw [hn] at b3
          simp only [Option.some.injEq, Prod.mk.injEq] at b3
          exact hkk b3.2
        exact ⟨b1, b2, ks'', by rw [if_neg hnx, if_neg hox]; exact b3⟩
  · intro o' ks' w' hp'
    simp only [hget, hgl] at hp' ⊢
    by_cases hnn : n = o'
    · subst hnn
      rw [if_pos rfl] at hp'
      simp only [Option.some.injEq, Prod.mk.injEq] at hp'
      obtain ⟨rfl, rfl⟩ := hp'
      refine ⟨n1, ?_, fun k' hm => ?_, fun hh => absurd rfl hh⟩
      · rw [List.nodup_append]
        refine ⟨n2, by simp, ?_⟩
        intro a ha b hb
        simp only [List.mem_singleton] at hb
        subst hb
        rintro rfl
        exact hkk2 ha
      · by_cases hkk : k = k'
        · exact ⟨rest, by rw [if_pos hkk]⟩
        · rw [List.mem_append] at hm
          rcases hm with hm | hm
          · obtain ⟨l, hl⟩ := n3 k' hm
            exact ⟨l, by rw [if_neg hkk]; exact hl⟩
          · simp only [List.mem_singleton] at hm
            exact absurd hm.symm hkk
    · rw [if_neg hnn] at hp'
      by_cases hoo : o = o'
      · subst hoo
        rw [if_pos rfl] at hp'
        simp only [Option.some.injEq, Prod.mk.injEq] at hp'
        obtain ⟨rfl, rfl⟩ := hp'
        refine ⟨p1, p2.1, fun k' hm => ?_, fun hh => absurd hws hh⟩
        obtain ⟨l', hl⟩ := p3 k' (List.mem_append_left _ hm)
        have hkk : k ≠ k' := by rintro rfl; exact hkn hm
        exact ⟨l', by rw [if_neg hkk]; exact hl⟩
      · rw [if_neg hoo] at hp'
        obtain ⟨a1, a2, a3, a4⟩ := H.par o' ks' w' hp'
        refine ⟨a1, a2, fun k' hm => ?_, fun hws' => ?_⟩
        · obtain ⟨l', hl⟩ := a3 k' hm
          have hkk : k ≠ k' := by
            rintro rfl
            rw [hg] at hl
            simp only [Option.some.injEq, Prod.mk.injEq] at hl
            exact hoo hl.1
          exact ⟨l', by rw [if_neg hkk]; exact hl⟩
        · obtain ⟨hh, l', hl, hx⟩ := a4 hws'
          by_cases hkk : k = w'
          · subst hkk
            rw [hg] at hl
            simp only [Option.some.injEq, Prod.mk.injEq] at hl
            rw [← hl.2] at hx
            refine ⟨n, rest, if_pos rfl, ?_⟩
            rcases List.mem_cons.1 hx with h | h
            · exact absurd h.symm hnn
            · exact h
          · exact ⟨hh, l', by rw [if_neg hkk]; exact hl, hx⟩
  · obtain ⟨rank, hr⟩ := H.down
    refine ⟨fun x => if x = n then 0 else rank x + 1, fun o' ks' w' hp' hws' => ?_⟩
    simp only [hget, hgl] at hp' ⊢
    by_cases hnn : n = o'
    · rw [if_pos hnn] at hp'
      simp only [Option.some.injEq, Prod.mk.injEq] at hp'
      obtain ⟨_, rfl⟩ := hp'
      exact absurd rfl hws'
    · rw [if_neg hnn] at hp'
      by_cases hoo : o = o'
      · rw [if_pos hoo] at hp'
        simp only [Option.some.injEq, Prod.mk.injEq] at hp'
        rw [← hp'.2] at hws'
        exact absurd hws hws'
      · rw [if_neg hoo] at hp'
        obtain ⟨hh, l', hl, hx⟩ := hr o' ks' w' hp' hws'
        by_cases hkk : k = w'
        · exact ⟨n, rest, if_pos hkk, by rw [if_pos rfl, if_neg (Ne.symm hnn)]; omega⟩
        · refine ⟨hh, l', by rw [if_neg hkk]; exact hl, ?_⟩
          rw [if_neg (Ne.symm hnn)]
          split <;> omega
theorem length_mput_has {K V : Type} [DecidableEq K] {l : List (K × V)} {k : K} {v : V} (h : mget l k = some v) (v' : V) : (mput l k v').length = l.length := by
  obtain ⟨A, B, rfl, hA⟩ := mget_split h
  rw [mput_split hA]
  simp
theorem length_mdel_le {K V : Type} [DecidableEq K] (l : List (K × V)) (k : K) : (mdel l k).length ≤ l.length := by
  induction l with
  | nil => simp [mdel]
  | cons x l ih =>
    unfold mdel
    split
    · simp
    · simp only [List.length_cons]; omega
structure LT.Fine (T : LT) (N : Nat) : Prop where
  wf : T.WF
  ndL : (T.locks.map (·.1)).Nodup
  ndP : (T.parties.map (·.1)).Nodup
  szL : T.locks.length ≤ N
  szP : T.parties.length ≤ N
theorem LT.Fine.step {T : LT} {N : Nat} (H : T.Fine N) (hN : N < 900000) {o : Nat} {ks : List ByteArray} {k w : ByteArray} (hp : mget T.parties o = some (ks ++ [k], w)) (hws : w.size = 0) :
    (T.pop o).safeLetGo k ∧ ((T.pop o).letGo k).1.Fine N ∧ mget ((T.pop o).letGo k).1.parties o = some (ks, w) := by
  have hpop : T.pop o = ⟨T.locks, mput T.parties o (ks, w)⟩ := by
    unfold LT.pop LT.keys LT.waits
    rw [hp]
    simp
  obtain ⟨p1, p2, p3, p4⟩ := H.wf.par o _ w hp
  obtain ⟨l, hg⟩ := p3 k (by simp)
  have hll : l.length ≤ T.parties.length := by
    have := H.wf.line_le k
    unfold LT.line at this
    rw [hg] at this
    exact this
  have hsl := H.szL
  have hsp := H.szP
  rw [hpop]
  cases l with
  | nil =>
    have hlg : LT.letGo ⟨T.locks, mput T.parties o (ks, w)⟩ k = (⟨mdel T.locks k, mput T.parties o (ks, w)⟩, 0) := by unfold LT.letGo; simp only; rw [hg]
    rw [hlg]
    refine ⟨⟨o, [], hg, by simp, fun n rest h => by cases h⟩, ⟨H.wf.dropKey hp hws hg H.ndL, (nodup_mdel H.ndL k).1, nodup_mput H.ndP o _, ?_, ?_⟩, ?_⟩
    · have := length_mdel_le T.locks k; simp only; omega
    · simp only; rw [length_mput_has hp]; exact hsp
    · simp only; rw [mget_mput, if_pos rfl]
  | cons n rest =>
    obtain ⟨k1, k2, k3, k5, k6⟩ := H.wf.own k o _ hg
    obtain ⟨b1, b2, kn, hn⟩ := k6 n (List.mem_cons_self ..)
    have hn' : mget (mput T.parties o (ks, w)) n = some (kn, k) := by rw [mget_mput, if_neg (Ne.symm b2)]; exact hn
    have hkn : LT.keys ⟨T.locks, mput T.parties o (ks, w)⟩ n = kn := by unfold LT.keys; simp only; rw [hn']
    have hknl : kn.length ≤ T.locks.length := by
      have := H.wf.keys_le n
      unfold LT.keys at this
      rw [hn] at this
      exact this
    have hlg : LT.letGo ⟨T.locks, mput T.parties o (ks, w)⟩ k = (⟨mput T.locks k (n, rest), mput (mput T.parties o (ks, w)) n (kn ++ [k], ⟨#[]⟩)⟩, n) := by unfold LT.letGo; simp only; rw [hg]; simp only; rw [hkn]
    rw [hlg]
    refine ⟨⟨o, n :: rest, hg, by omega, fun n' rest' h => ?_⟩, ⟨H.wf.passKey hp hws hg hn, nodup_mput H.ndL k _, nodup_mput (nodup_mput H.ndP o _) n _, ?_, ?_⟩, ?_⟩
    · cases h
      exact ⟨b1, ⟨_, hn'⟩, by rw [hkn]; omega⟩
    · simp only; rw [length_mput_has hg]; exact hsl
    · simp only; rw [length_mput_has hn', length_mput_has hp]; exact hsp
    · simp only; rw [mget_mput, if_neg b2, mget_mput, if_pos rfl]
theorem LT.Fine.pops {N : Nat} (hN : N < 900000) {o : Nat} {w : ByteArray} (hws : w.size = 0) : ∀ (r : Nat) (T : LT) (ks : List ByteArray), T.Fine N → mget T.parties o = some (ks, w) → r ≤ ks.length →
    LT.popsOk o r T ∧ ∀ came, (LT.pops o r T came).1.Fine N ∧ mget (LT.pops o r T came).1.parties o = some (ks.take (ks.length - r), w)
  | 0, T, ks, H, hp, _ => ⟨trivial, fun came => ⟨H, by unfold LT.pops; rw [hp]; simp⟩⟩
  | r + 1, T, ks, H, hp, hr => by
    obtain ⟨ks', k, rfl⟩ : ∃ ks' k, ks = ks' ++ [k] := by
      refine ⟨ks.dropLast, ks.getLast (by intro h; subst h; simp at hr), ?_⟩
      rw [List.dropLast_concat_getLast]
    obtain ⟨s1, s2, s3⟩ := H.step hN hp hws
    have hlen : (ks' ++ [k]).length = ks'.length + 1 := by simp
    rw [hlen] at hr ⊢
    obtain ⟨i1, i2⟩ := LT.Fine.pops hN hws r _ ks' s2 s3 (by omega)
    have hk : T.keys o = ks' ++ [k] := by unfold LT.keys; rw [hp]
    have hlast : (T.keys o).getLast? = some k := by rw [hk]; simp
    have hk2 : LT.keys ((T.pop o).letGo k).1 o = ks' := by unfold LT.keys; rw [s3]
    refine ⟨⟨k, hlast, s1, ⟨_, s3⟩, by rw [hk2, hk]; simp, i1⟩, fun came => ?_⟩
    unfold LT.pops
    rw [hlast]
    simp only
    have := i2 (if ((T.pop o).letGo k).2 = 0 then came else came ++ [((T.pop o).letGo k).2])
    refine ⟨this.1, ?_⟩
    rw [this.2, show ks'.length + 1 - (r + 1) = ks'.length - r by omega, List.take_append_of_le_length (by omega)]
theorem LT.Fine.leave {T : LT} {N : Nat} (H : T.Fine N) {o : Nat} {ks : List ByteArray} {w : ByteArray} (hp : mget T.parties o = some (ks, w)) :
    (T.leave o).Fine N ∧ ∃ w', w'.size = 0 ∧ mget (T.leave o).parties o = some (ks, w') := by
  have hw : T.waits o = w := by unfold LT.waits; rw [hp]
  have hk : T.keys o = ks := by unfold LT.keys; rw [hp]
  unfold LT.leave
  rw [hw, hk]
  by_cases hws : w.size = 0
  · rw [if_pos hws]
    exact ⟨H, w, hws, hp⟩
  · rw [if_neg hws]
    obtain ⟨h, l, hg, hin⟩ := (H.wf.par o ks w hp).2.2.2 hws
    rw [hg]
    refine ⟨⟨H.wf.out hp hws hg hin, nodup_mput H.ndL w _, nodup_mput H.ndP o _, ?_, ?_⟩, ⟨#[]⟩, rfl, ?_⟩
    · simp only; rw [length_mput_has hg]; exact H.szL
    · simp only; rw [length_mput_has hp]; exact H.szP
    · simp only; rw [mget_mput, if_pos rfl]
theorem LT.Fine.gone {T : LT} {N : Nat} (H : T.Fine N) {o : Nat} {w : ByteArray} (hp : mget T.parties o = some ([], w)) (hws : w.size = 0) : LT.Fine ⟨T.locks, mdel T.parties o⟩ N := by
  refine ⟨⟨?_, ?_, ?_⟩, H.ndL, (nodup_mdel H.ndP o).1, H.szL, ?_⟩
  · intro k o' l hg
    simp only [mget_mdel H.ndP] at hg ⊢
    obtain ⟨a1, a2, ⟨ks, w', a3, a4⟩, a5, a6⟩ := H.wf.own k o' l hg
    refine ⟨a1, a2, ⟨ks, w', ?_, a4⟩, a5, fun x hx => ?_⟩
    · have hoo : o ≠ o' := by
        rintro rfl
        rw [hp] at a3
        simp only [Option.some.injEq, Prod.mk.injEq] at a3
        rw [← a3.1] at a4
        cases a4
      rw [if_neg hoo]; exact a3
    · obtain ⟨b1, b2, ks', b3⟩ := a6 x hx
      have hox : o ≠ x := by
        rintro rfl
        rw [hp] at b3
        simp only [Option.some.injEq, Prod.mk.injEq] at b3
        rw [b3.2] at hws
        exact a1 hws
      exact ⟨b1, b2, ks', by rw [if_neg hox]; exact b3⟩
  · intro o' ks w' hp'
    simp only [mget_mdel H.ndP] at hp'
    split at hp'
    · cases hp'
    · exact H.wf.par o' ks w' hp'
  · obtain ⟨rank, hr⟩ := H.wf.down
    refine ⟨rank, fun o' ks w' hp' hws' => ?_⟩
    simp only [mget_mdel H.ndP] at hp'
    split at hp'
    · cases hp'
    · exact hr o' ks w' hp' hws'
  · have := length_mdel_le T.parties o
    have := H.szP
    simp only
    omega
theorem LT.Fine.backOk {T : LT} {N : Nat} (H : T.Fine N) (hN : N < 900000) (o : Nat) (mark : Int) :
    (T.keys o).length < 1000000 ∧ ((T.waits o).size ≠ 0 → ∃ h l, mget T.locks (T.waits o) = some (h, l) ∧ o ∈ l ∧ l.length < 1000000) ∧ (0 ≤ mark → mark ≤ ((T.keys o).length : Int) → LT.popsOk o ((T.keys o).length - mark.toNat) (T.leave o)) := by
  have h1 := H.wf.keys_le o
  have h2 := H.szL
  have h3 := H.szP
  cases hp : mget T.parties o with
  | none =>
    have hk : T.keys o = [] := by unfold LT.keys; rw [hp]
    have hw : (T.waits o).size = 0 := by unfold LT.waits; rw [hp]; rfl
    refine ⟨by omega, fun h => absurd hw h, fun _ _ => ?_⟩
    rw [hk, List.length_nil, Nat.zero_sub]
    trivial
  | some p =>
    obtain ⟨ks, w⟩ := p
    have hw : T.waits o = w := by unfold LT.waits; rw [hp]
    have hk : T.keys o = ks := by unfold LT.keys; rw [hp]
    refine ⟨by omega, fun hws => ?_, fun _ _ => ?_⟩
    · rw [hw] at hws ⊢
      obtain ⟨h, l, hg, hin⟩ := (H.wf.par o ks w hp).2.2.2 hws
      have hl := H.wf.line_le w
      unfold LT.line at hl
      rw [hg] at hl
      exact ⟨h, l, hg, hin, by simp only at hl; omega⟩
    · obtain ⟨F, w', hw', hp'⟩ := H.leave hp
      rw [hk]
      exact (LT.Fine.pops hN hw' _ _ ks F hp' (by omega)).1
theorem LT.Fine.back {T : LT} {N : Nat} (H : T.Fine N) (hN : N < 900000) (o : Nat) (mark : Int) : (T.back o mark).1.Fine N := by
  unfold LT.back
  split
  · exact H
  · cases hp : mget T.parties o with
    | none => exact H
    | some p =>
      obtain ⟨ks, w⟩ := p
      obtain ⟨F, w', hw', hp'⟩ := H.leave hp
      have hk : (T.leave o).keys o = ks := by unfold LT.keys; rw [hp']
      simp only
      rw [hk]
      obtain ⟨q1, q2⟩ := (LT.Fine.pops hN hw' (ks.length - mark.toNat) _ ks F hp' (by omega)).2 []
      generalize LT.pops o (ks.length - mark.toNat) (T.leave o) [] = r at q1 q2 ⊢
      obtain ⟨T2, came⟩ := r
      simp only at q1 q2 ⊢
      split
      · rename_i h0
        have hk2 : T2.keys o = ks.take (ks.length - (ks.length - mark.toNat)) := by unfold LT.keys; rw [q2]
        rw [hk2, List.length_eq_zero_iff] at h0
        rw [h0] at q2
        exact q1.gone q2 hw'
      · exact q1
end Go.Proofs.Ytckajlllkmkniaa
end
section
namespace Go.Proofs.Ytckajlllkmkniaa
open Go Go.Sy Go.Sl Go.RowKit
abbrev uV : Nat → List Value := fun n => [.int .u64 (n : Int)]
abbrev sV : ByteArray → List Value := fun s => [.string s]
theorem recU : RecOf uV 1 := recOne (fun _ => rfl)
theorem recS : RecOf sV 1 := recOne (fun _ => rfl)
abbrev uR (ro : Bool) (l : List Nat) : VO := dat ro l.length 1 23 (l.flatMap uV)
abbrev sR (ro : Bool) (l : List ByteArray) : VO := dat ro l.length 1 9 (l.flatMap sV)
abbrev kE : ByteArray → Value := fun s => .string s
abbrev oE : Nat → Value := fun n => .int .u64 (n : Int)
theorem kK : KEnc Try.prog 9 kE := kenc_str (F.un _ rfl)
theorem oK : KEnc Try.prog 23 oE := kenc_u64N (F.un _ rfl)
def PL (_ : ByteArray) (x : Nat × (Nat × List Nat)) : Own := fun H Fp => ∃ r, H.at' x.1 = some (newCells 75 [.sc (.int .u64 (x.2.1 : Int)), .slu r 0 x.2.2.length]) ∧ H.at' r = some (uR false x.2.2) ∧ x.1 ≠ r ∧ ∀ n, Fp n ↔ n = x.1 ∨ n = r
def PP (_ : Nat) (x : Nat × (List ByteArray × ByteArray)) : Own := fun H Fp => ∃ r, H.at' x.1 = some (newCells 72 [.slu r 0 x.2.1.length, .sc (.string x.2.2)]) ∧ H.at' r = some (sR false x.2.1) ∧ x.1 ≠ r ∧ ∀ n, Fp n ↔ n = x.1 ∨ n = r
theorem PL_frame (k : ByteArray) (x : Nat × (Nat × List Nat)) : Framed (PL k x) := fun H H' Fp ⟨r, h1, h2, h3, h4⟩ hf => ⟨r, (hf _ ((h4 _).2 (.inl rfl))).trans h1, (hf _ ((h4 _).2 (.inr rfl))).trans h2, h3, h4⟩
theorem PP_frame (k : Nat) (x : Nat × (List ByteArray × ByteArray)) : Framed (PP k x) := fun H H' Fp ⟨r, h1, h2, h3, h4⟩ hf => ⟨r, (hf _ ((h4 _).2 (.inl rfl))).trans h1, (hf _ ((h4 _).2 (.inr rfl))).trans h2, h3, h4⟩
abbrev MLk := List (ByteArray × (Nat × (Nat × List Nat)) × Nat)
abbrev MPt := List (Nat × (Nat × (List ByteArray × ByteArray)) × Nat)
abbrev lVal : Nat × (Nat × List Nat) → SV := fun x => .ptr x.1 0
abbrev pVal : Nat × (List ByteArray × ByteArray) → SV := fun x => .ptr x.1 0
abbrev lmV (m : MLk) (c : Nat) : VO := mapV kE lVal m c
abbrev pmV (m : MPt) (c : Nat) : VO := mapV oE pVal m c
structure Tb (t a b : Nat) (ml : MLk) (cl : Nat) (mp : MPt) (cp : Nat) (F1 F2 : Nat → Prop) (H : Heap) : Prop where
  tab : H.at' t = some (newCells 67 [.mp a, .mp b])
  locks : H.at' a = some (lmV ml cl)
  parties : H.at' b = some (pmV mp cp)
  okl : KOk ml cl
  okp : KOk mp cp
  bl : Big PL (kv ml) H F1
  bp : Big PP (kv mp) H F2
  ne : t ≠ a ∧ t ≠ b ∧ a ≠ b
  d1 : ∀ n, F1 n → n ≠ t ∧ n ≠ a ∧ n ≠ b ∧ ¬ F2 n
  d2 : ∀ n, F2 n → n ≠ t ∧ n ≠ a ∧ n ≠ b
def ltOf (ml : MLk) (mp : MPt) : LT := ⟨(kv ml).map fun x => (x.1, x.2.2), (kv mp).map fun x => (x.1, x.2.2)⟩
def TabAt (t : Nat) (T : LT) (Fp : Nat → Prop) (H : Heap) : Prop := ∃ a b ml cl mp cp F1 F2, Tb t a b ml cl mp cp F1 F2 H ∧ T = ltOf ml mp ∧ ∀ n, Fp n ↔ n = t ∨ n = a ∨ n = b ∨ F1 n ∨ F2 n
theorem get_l (ml : MLk) (mp : MPt) (k : ByteArray) : mget (ltOf ml mp).locks k = (kget ml k).map (·.2) := by
  rw [← kv_get]
  exact mget_map (fun x : Nat × (Nat × List Nat) => x.2) (kv ml) k
theorem get_p (ml : MLk) (mp : MPt) (k : Nat) : mget (ltOf ml mp).parties k = (kget mp k).map (·.2) := by
  rw [← kv_get]
  exact mget_map (fun x : Nat × (List ByteArray × ByteArray) => x.2) (kv mp) k
theorem Tb.lock {t a b : Nat} {ml : MLk} {cl : Nat} {mp : MPt} {cp : Nat} {F1 F2 : Nat → Prop} {H : Heap} (h : Tb t a b ml cl mp cp F1 F2 H) {k : ByteArray} {n o : Nat} {l : List Nat} (hg : kget ml k = some (n, (o, l))) :
    ∃ r G, H.at' n = some (newCells 75 [.sc (.int .u64 (o : Int)), .slu r 0 l.length]) ∧ H.at' r = some (uR false l) ∧ n ≠ r ∧ Big PL (kv (kdel ml k)) H G ∧ ¬ G n ∧ ¬ G r ∧ (∀ x, F1 x ↔ (x = n ∨ x = r) ∨ G x) ∧ n ≠ t ∧ n ≠ a ∧ n ≠ b ∧ ¬ F2 n ∧ r ≠ t ∧ r ≠ a ∧ r ≠ b ∧ ¬ F2 r := by
  obtain ⟨A, B, s, h1, h2, _, h4⟩ := kget_split hg
  have hb := h.bl
  rw [h1] at hb
  simp only [kv, List.map_append, List.map_cons] at hb
  obtain ⟨G1, G, ⟨r, g1, g2, g3, g4⟩, g5, g6, g7⟩ := Big.focus hb
  have e1 := h.d1 n ((g7 n).2 (.inl ((g4 n).2 (.inl rfl))))
  have e2 := h.d1 r ((g7 r).2 (.inl ((g4 r).2 (.inr rfl))))
  refine ⟨r, G, g1, g2, g3, ?_, g6 n ((g4 n).2 (.inl rfl)), g6 r ((g4 r).2 (.inr rfl)), fun x => by rw [g7, g4], e1.1, e1.2.1, e1.2.2.1, e1.2.2.2, e2.1, e2.2.1, e2.2.2.1, e2.2.2.2⟩
  rw [h4]
  simpa [kv] using g5
theorem Tb.party {t a b : Nat} {ml : MLk} {cl : Nat} {mp : MPt} {cp : Nat} {F1 F2 : Nat → Prop} {H : Heap} (h : Tb t a b ml cl mp cp F1 F2 H) {o n : Nat} {ks : List ByteArray} {w : ByteArray} (hg : kget mp o = some (n, (ks, w))) :
    ∃ r G, H.at' n = some (newCells 72 [.slu r 0 ks.length, .sc (.string w)]) ∧ H.at' r = some (sR false ks) ∧ n ≠ r ∧ Big PP (kv (kdel mp o)) H G ∧ ¬ G n ∧ ¬ G r ∧ (∀ x, F2 x ↔ (x = n ∨ x = r) ∨ G x) ∧ n ≠ t ∧ n ≠ a ∧ n ≠ b ∧ ¬ F1 n ∧ r ≠ t ∧ r ≠ a ∧ r ≠ b ∧ ¬ F1 r := by
  obtain ⟨A, B, s, h1, h2, _, h4⟩ := kget_split hg
  have hb := h.bp
  rw [h1] at hb
  simp only [kv, List.map_append, List.map_cons] at hb
  obtain ⟨G1, G, ⟨r, g1, g2, g3, g4⟩, g5, g6, g7⟩ := Big.focus hb
  have n1 : F2 n := (g7 n).2 (.inl ((g4 n).2 (.inl rfl)))
  have n2 : F2 r := (g7 r).2 (.inl ((g4 r).2 (.inr rfl)))
  have e1 := h.d2 n n1
  have e2 := h.d2 r n2
  refine ⟨r, G, g1, g2, g3, ?_, g6 n ((g4 n).2 (.inl rfl)), g6 r ((g4 r).2 (.inr rfl)), fun x => by rw [g7, g4], e1.1, e1.2.1, e1.2.2, fun hf => (h.d1 n hf).2.2.2 n1, e2.1, e2.2.1, e2.2.2, fun hf => (h.d1 r hf).2.2.2 n2⟩
  rw [h4]
  simpa [kv] using g5
set_option maxRecDepth 100000 in
theorem none_t {t a b : Nat} {H : Heap} {nx : Nat} (h : H.at' t = some (newCells 67 [.mp a, .mp b])) : Fnc Try.prog 32 [.ptr t 0] H nx (fun r => r = (.sc (.bool false), H, nx)) := by
  refine Fnc.start Try.func32 rfl rfl ?_
  (repeat (first | refine y_seq ?_ | refine w_region ?_ | refine y_regEnd ?_ | refine w_move rfl rfl rfl ?_ | refine w_assign rfl rfl rfl ?_ | refine w_pickF rfl rfl rfl rfl ?_ | refine w_nilCheck rfl rfl rfl ?_ | refine w_fieldAddr rfl rfl rfl (F.fo _ _ rfl rfl) ?_ | refine w_eqNil rfl rfl rfl rfl (F.un _ rfl) rfl ?_ | refine w_loadB1 rfl rfl rfl (F.ag _ rfl) (by (focus (skip; first | exact Tr.at_set_same _ _ _ | assumption))) (by exact rfl) ?_))
  ((apply w_ret Try.func32 (congrArg Array.toList Try.results32)); (focus (repeat (first | exact ResIs.nil | apply ResIs.tmp rfl))))
  rfl
set_option maxRecDepth 100000 in
set_option maxHeartbeats 0 in
theorem has_t {t : Nat} {T : LT} {Fp : Nat → Prop} {H : Heap} {nx : Nat} (hT : TabAt t T Fp H) (k : ByteArray) : Fnc Try.prog 19 [.ptr t 0, .sc (.string k)] H nx (fun r => r = (.sc (.int .u64 (T.has k : Int)), H, nx)) := by
  obtain ⟨a, b, ml, cl, mp, cp, F1, F2, h, rfl, hF⟩ := hT
  have htab := h.tab
  have hloc := h.locks
  refine Fnc.start Try.func19 rfl rfl ?_
  have hh : (ltOf ml mp).has k = match kget ml k with | some (_, (o, _)) => o | none => 0 := by
    unfold LT.has
    rw [get_l]
    cases kget ml k <;> rfl
  rw [hh]
  (repeat (first | (first | refine y_seq ?_ | refine w_region ?_ | refine y_regEnd ?_ | refine w_move rfl rfl rfl ?_ | refine w_assign rfl rfl rfl ?_ | refine w_nilCheck rfl rfl rfl ?_ | refine w_fieldAddr rfl rfl rfl (F.fo _ _ rfl rfl) ?_ | refine w_loadB1 rfl rfl rfl (F.ag _ rfl) (by (focus (skip; first | exact Tr.at_set_same _ _ _ | assumption))) (by exact rfl) ?_) | (refine w_call rfl rfl rfl (by kernel_rfl) (Fnc.mono (none_t htab) ?_); rintro _ rfl; dsimp only)))
  cases hg : kget ml k with
  | none =>
    (repeat (first | (first | refine y_seq ?_ | refine w_region ?_ | refine y_regEnd ?_ | refine y_condT rfl ?_ | refine w_assign rfl rfl rfl ?_ | refine w_pickF rfl rfl rfl rfl ?_ | refine w_isNil rfl rfl rfl rfl rfl (F.un _ rfl) rfl ?_) | refine w_lookZ (m := ml) (enc := kE) (val := lVal) rfl rfl rfl rfl (F.un _ rfl) (kK) (by first | exact rfl | (focus (skip; first | exact Tr.at_set_same _ _ _ | assumption))) (hg) (F.ze _ rfl) ?_))
    ((apply w_ret Try.func19 (congrArg Array.toList Try.results19)); (focus (repeat (first | exact ResIs.nil | apply ResIs.tmp rfl))))
    rfl
  | some x =>
    obtain ⟨n, o, l⟩ := x
    obtain ⟨r, G, g1, _⟩ := h.lock hg
    (repeat (first | (first | refine y_seq ?_ | refine w_region ?_ | refine y_regEnd ?_ | refine y_skip ?_ | refine y_condF rfl ?_ | refine w_move rfl rfl rfl ?_ | refine w_assign rfl rfl rfl ?_ | refine w_pickF rfl rfl rfl rfl ?_ | refine w_nilCheck rfl rfl rfl ?_ | refine w_fieldAddr rfl rfl rfl (F.fo _ _ rfl rfl) ?_ | refine w_eqNil rfl rfl rfl rfl (F.un _ rfl) rfl ?_ | refine w_loadB1 rfl rfl rfl (F.ag _ rfl) (by (focus (skip; first | exact Tr.at_set_same _ _ _ | assumption))) (by exact rfl) ?_) | refine w_lookV (m := ml) (enc := kE) (val := lVal) rfl rfl rfl rfl (F.un _ rfl) (kK) (by first | exact rfl | (focus (skip; first | exact Tr.at_set_same _ _ _ | assumption))) (hg) ?_))
    ((apply w_ret Try.func19 (congrArg Array.toList Try.results19)); (focus (repeat (first | exact ResIs.nil | apply ResIs.tmp rfl))))
    rfl
end Go.Proofs.Ytckajlllkmkniaa
end
section
namespace Go.Proofs.Ytckajlllkmkniaa
open Go Go.Sy Go.Sl Go.RowKit
theorem t_keys (ml : MLk) (mp : MPt) (o : Nat) : (ltOf ml mp).keys o = match kget mp o with | some (_, (ks, _)) => ks | none => [] := by
  unfold LT.keys
  rw [get_p]
  cases kget mp o <;> rfl
theorem t_waits (ml : MLk) (mp : MPt) (o : Nat) : (ltOf ml mp).waits o = match kget mp o with | some (_, (_, w)) => w | none => ⟨#[]⟩ := by
  unfold LT.waits
  rw [get_p]
  cases kget mp o <;> rfl
set_option maxRecDepth 100000 in
set_option maxHeartbeats 0 in
theorem mark_t {t : Nat} {T : LT} {Fp : Nat → Prop} {H : Heap} {nx : Nat} (hT : TabAt t T Fp H) (o : Nat) : Fnc Try.prog 31 [.ptr t 0, .sc (.int .u64 (o : Int))] H nx (fun r => r = (.sc (.int .i64 ((T.keys o).length : Int)), H, nx)) := by
  obtain ⟨a, b, ml, cl, mp, cp, F1, F2, h, rfl, hF⟩ := hT
  have htab := h.tab
  have hpar := h.parties
  refine Fnc.start Try.func31 rfl rfl ?_
  rw [t_keys]
  (repeat (first | (first | refine y_seq ?_ | refine w_region ?_ | refine y_regEnd ?_ | refine w_move rfl rfl rfl ?_ | refine w_assign rfl rfl rfl ?_ | refine w_nilCheck rfl rfl rfl ?_ | refine w_fieldAddr rfl rfl rfl (F.fo _ _ rfl rfl) ?_ | refine w_loadB1 rfl rfl rfl (F.ag _ rfl) (by (focus (skip; first | exact Tr.at_set_same _ _ _ | assumption))) (by exact rfl) ?_) | (refine w_call rfl rfl rfl (by kernel_rfl) (Fnc.mono (none_t htab) ?_); rintro _ rfl; dsimp only)))
  cases hg : kget mp o with
  | none =>
    (repeat (first | (first | refine y_seq ?_ | refine w_region ?_ | refine y_regEnd ?_ | refine y_condT rfl ?_ | refine w_assign rfl rfl rfl ?_ | refine w_pickF rfl rfl rfl rfl ?_ | refine w_isNil rfl rfl rfl rfl rfl (F.un _ rfl) rfl ?_) | refine w_lookZ (m := mp) (enc := oE) (val := pVal) rfl rfl rfl rfl (F.un _ rfl) (oK) (by first | exact rfl | (focus (skip; first | exact Tr.at_set_same _ _ _ | assumption))) (hg) (F.ze _ rfl) ?_))
    ((apply w_ret Try.func31 (congrArg Array.toList Try.results31)); (focus (repeat (first | exact ResIs.nil | apply ResIs.tmp rfl))))
    rfl
  | some x =>
    obtain ⟨n, ks, w⟩ := x
    obtain ⟨r, G, g1, _⟩ := h.party hg
    (repeat (first | (first | refine y_seq ?_ | refine w_region ?_ | refine y_regEnd ?_ | refine y_skip ?_ | refine y_condF rfl ?_ | refine w_move rfl rfl rfl ?_ | refine w_assign rfl rfl rfl ?_ | refine w_pickF rfl rfl rfl rfl ?_ | refine w_nilCheck rfl rfl rfl ?_ | refine w_fieldAddr rfl rfl rfl (F.fo _ _ rfl rfl) ?_ | refine w_eqNil rfl rfl rfl rfl (F.un _ rfl) rfl ?_ | refine w_loadB1 rfl rfl rfl (F.ag _ rfl) (by (focus (skip; first | exact Tr.at_set_same _ _ _ | assumption))) (by exact rfl) ?_ | refine w_lenSl rfl rfl rfl (F.un _ rfl) ?_) | refine w_lookV (m := mp) (enc := oE) (val := pVal) rfl rfl rfl rfl (F.un _ rfl) (oK) (by first | exact rfl | (focus (skip; first | exact Tr.at_set_same _ _ _ | assumption))) (hg) ?_))
    ((apply w_ret Try.func31 (congrArg Array.toList Try.results31)); (focus (repeat (first | exact ResIs.nil | apply ResIs.tmp rfl))))
    rfl
set_option maxRecDepth 100000 in
set_option maxHeartbeats 0 in
theorem waits_t {t : Nat} {T : LT} {Fp : Nat → Prop} {H : Heap} {nx : Nat} (hT : TabAt t T Fp H) (o : Nat) : Fnc Try.prog 20 [.ptr t 0, .sc (.int .u64 (o : Int))] H nx (fun r => r = (.tup [.sc (.string (T.waits o)), .sc (.bool (T.waits o != ⟨#[]⟩))], H, nx)) := by
  obtain ⟨a, b, ml, cl, mp, cp, F1, F2, h, rfl, hF⟩ := hT
  have htab := h.tab
  have hpar := h.parties
  refine Fnc.start Try.func20 rfl rfl ?_
  rw [t_waits]
  (repeat (first | (first | refine y_seq ?_ | refine w_region ?_ | refine y_regEnd ?_ | refine w_move rfl rfl rfl ?_ | refine w_assign rfl rfl rfl ?_ | refine w_nilCheck rfl rfl rfl ?_ | refine w_fieldAddr rfl rfl rfl (F.fo _ _ rfl rfl) ?_ | refine w_loadB1 rfl rfl rfl (F.ag _ rfl) (by (focus (skip; first | exact Tr.at_set_same _ _ _ | assumption))) (by exact rfl) ?_) | (refine w_call rfl rfl rfl (by kernel_rfl) (Fnc.mono (none_t htab) ?_); rintro _ rfl; dsimp only)))
  cases hg : kget mp o with
  | none =>
    (repeat (first | (first | refine y_seq ?_ | refine w_region ?_ | refine y_regEnd ?_ | refine y_condT rfl ?_ | refine w_assign rfl rfl rfl ?_ | refine w_pickF rfl rfl rfl rfl ?_ | refine w_isNil rfl rfl rfl rfl rfl (F.un _ rfl) rfl ?_) | refine w_lookZ (m := mp) (enc := oE) (val := pVal) rfl rfl rfl rfl (F.un _ rfl) (oK) (by first | exact rfl | (focus (skip; first | exact Tr.at_set_same _ _ _ | assumption))) (hg) (F.ze _ rfl) ?_))
    ((apply w_ret Try.func20 (congrArg Array.toList Try.results20)); (focus (repeat (first | exact ResIs.nil | apply ResIs.tmp rfl))))
    rfl
  | some x =>
    obtain ⟨n, ks, w⟩ := x
    obtain ⟨r, G, g1, _⟩ := h.party hg
    (repeat (first | (first | refine y_seq ?_ | refine w_region ?_ | refine y_regEnd ?_ | refine y_skip ?_ | refine y_condF rfl ?_ | refine w_move rfl rfl rfl ?_ | refine w_assign rfl rfl rfl ?_ | refine w_pickF rfl rfl rfl rfl ?_ | refine w_nilCheck rfl rfl rfl ?_ | refine w_fieldAddr rfl rfl rfl (F.fo _ _ rfl rfl) ?_ | refine w_eqNil rfl rfl rfl rfl (F.un _ rfl) rfl ?_ | refine w_loadB1 rfl rfl rfl (F.ag _ rfl) (by (focus (skip; first | exact Tr.at_set_same _ _ _ | assumption))) (by exact rfl) ?_) | refine w_lookV (m := mp) (enc := oE) (val := pVal) rfl rfl rfl rfl (F.un _ rfl) (oK) (by first | exact rfl | (focus (skip; first | exact Tr.at_set_same _ _ _ | assumption))) (hg) ?_ | refine w_neStr rfl rfl rfl rfl ?_))
    ((apply w_ret Try.func20 (congrArg Array.toList Try.results20)); (focus (repeat (first | exact ResIs.nil | apply ResIs.tmp rfl))))
    rfl
set_option maxRecDepth 100000 in
set_option maxHeartbeats 0 in
theorem len_t {t : Nat} {T : LT} {Fp : Nat → Prop} {H : Heap} {nx : Nat} (hT : TabAt t T Fp H) : Fnc Try.prog 13 [.ptr t 0] H nx (fun r => r = (.sc (.int .i64 (T.locks.length : Int)), H, nx)) := by
  obtain ⟨a, b, ml, cl, mp, cp, F1, F2, h, rfl, hF⟩ := hT
  have htab := h.tab
  have hloc := h.locks
  refine Fnc.start Try.func13 rfl rfl ?_
  rw [show (ltOf ml mp).locks.length = ml.length by simp [ltOf, kv]]
  (repeat (first | (first | refine y_seq ?_ | refine w_region ?_ | refine y_regEnd ?_ | refine y_skip ?_ | refine y_condF rfl ?_ | refine w_move rfl rfl rfl ?_ | refine w_assign rfl rfl rfl ?_ | refine w_nilCheck rfl rfl rfl ?_ | refine w_fieldAddr rfl rfl rfl (F.fo _ _ rfl rfl) ?_ | refine w_loadB1 rfl rfl rfl (F.ag _ rfl) (by (focus (skip; first | exact Tr.at_set_same _ _ _ | assumption))) (by exact rfl) ?_) | (refine w_call rfl rfl rfl (by kernel_rfl) (Fnc.mono (none_t htab) ?_); rintro _ rfl; dsimp only) | refine w_lenMap (m := ml) (enc := kE) (val := lVal) rfl rfl rfl (F.un _ rfl) (by first | exact rfl | (focus (skip; first | exact Tr.at_set_same _ _ _ | assumption))) ?_))
  ((apply w_ret Try.func13 (congrArg Array.toList Try.results13)); (focus (repeat (first | exact ResIs.nil | apply ResIs.tmp rfl))))
  rfl
set_option maxRecDepth 100000 in
set_option maxHeartbeats 0 in
theorem new_t {H : Heap} {nx : Nat} : Fnc Try.prog 10 [] H nx (fun r => r = (.ptr (nx + 1 + 1) 0, ((H.set nx (.map [] 0)).set (nx + 1) (.map [] 0)).set (nx + 1 + 1) (newCells 67 [.mp nx, .mp (nx + 1)]), nx + 1 + 1 + 1)) := by
  refine Fnc.start Try.func10 rfl rfl ?_
  (repeat (first | refine y_seq ?_ | refine w_region ?_ | refine y_regEnd ?_ | refine w_assign rfl rfl rfl ?_ | refine w_makeMap rfl rfl ?_ | refine w_boxN rfl rfl rfl ?_ | refine w_build rfl rfl rfl (F.ze _ rfl) (F.pl _ rfl) rfl ?_))
  ((apply w_ret Try.func10 (congrArg Array.toList Try.results10)); (focus (repeat (first | exact ResIs.nil | apply ResIs.tmp rfl))))
  rfl
theorem new_at {H : Heap} {nx : Nat} : TabAt (nx + 1 + 1) LT.empty (fun n => n = nx + 1 + 1 ∨ n = nx ∨ n = nx + 1) (((H.set nx (.map [] 0)).set (nx + 1) (.map [] 0)).set (nx + 1 + 1) (newCells 67 [.mp nx, .mp (nx + 1)])) := by
  refine ⟨nx, nx + 1, [], 0, [], 0, fun _ => False, fun _ => False, ⟨?_, ?_, ?_, ?_, ?_, Big.nil, Big.nil, ⟨by omega, by omega, by omega⟩, fun n h => h.elim, fun n h => h.elim⟩, rfl, fun n => by simp⟩
  · exact Tr.at_set_same _ _ _
  · exact (Tr.at_set_other _ _ (by omega)).trans ((Tr.at_set_other _ _ (by omega)).trans (Tr.at_set_same _ _ _))
  · exact (Tr.at_set_other _ _ (by omega)).trans (Tr.at_set_same _ _ _)
  · exact KOk.nil _
  · exact KOk.nil _
end Go.Proofs.Ytckajlllkmkniaa
end
section
namespace Go.Sy
open Go Go.Sl Go.RowKit
section
variable {P : Program}
theorem equalIn_sl {t e : TypeId} {a : Option Addr} {n c n' c' : Nat} (m : Nat) (hu : P.underlying t = some (.slice e)) (w : World) : (Op.equalIn (m + 1) t (.slice a n c) (.slice none n' c')).run P w = .ok a.isNone w := by
  cases a <;> simp [Op.equalIn, run_underlying hu]
theorem equal_sl {t e : TypeId} {a : Option Addr} {n c n' c' : Nat} (hu : P.underlying t = some (.slice e)) (w : World) : (Op.equal t (.slice a n c) (.slice none n' c')).run P w = .ok a.isNone w := equalIn_sl 9999 hu w
theorem op_eqNilR {T : Tr SV} {H : Heap} {nx : Nat} {d : Option Tmp} {ty : TypeId} {pos : String} {af : Array Edge} {gd : Option (Nat × Bool)} {t yt el : TypeId} {x y : Operand} {r eo n : Nat} {O : Out → Prop} (hx : evalS T x = some (.slu r eo n)) (hy : evalS T y = some (.sc (.slice none 0 0))) (hu : P.underlying t = some (.slice el)) {rr : Bool} {ne sz : Nat} {rt : TypeId} {c : Tr SV} (hb : H.at' r = some (.row rr ne sz rt c)) (h1 : ne = 0 → O (.val (.sc (.bool true)), H, nx)) (h2 : O (.val (.sc (.bool false)), H, nx)) : OpAny P T H nx ⟨d, .binOp .eql t x y yt, ty, pos, af, gd⟩ O := by
  intro K w0 e w ev hS hE
  have e1 := hE x _ hx
  have e2 := hE y _ hy
  simp only [SV.conc, Option.map_eq_some_iff] at e1
  obtain ⟨z, hz, e1⟩ := e1
  simp only [SV.conc, Option.some.injEq] at e2
  have hr : (execOp ev ⟨d, .binOp .eql t x y yt, ty, pos, af, gd⟩).run P w = .ok (.value (.bool (z.at eo).isNone)) w := by
    simp only [execOp, ← e1, ← e2]
    have hg : (eqGuard .eql t x y (.slice (z.at eo) n (z.cap - eo)) (.slice none 0 0)).run P w = .ok () w := rfl
    have hb : (binOp .eql t (.slice (z.at eo) n (z.cap - eo)) (.slice none 0 0)).run P w = .ok (.bool (z.at eo).isNone) w := by
      simp only [binOp, Sem.run_bind, equal_sl hu, Result.andThen_ok, Sem.run_pure]
    simp only [Sem.run_bind, hg, hb, Result.andThen_ok, Sem.run_pure]
  cases hc : (z.at eo).isNone with
  | true =>
    have h0 : ne = 0 := by
      rcases Nat.eq_zero_or_pos ne with h | h
      · exact h
      · obtain ⟨z2, hz2, hlz⟩ := hS.rel _ _ hb
        rw [hz] at hz2; cases hz2
        have h3 := (Lies.row hlz).2.2.1 h
        rw [Ent.at_some h3] at hc; cases hc
    exact ⟨_, h1 h0, e, w, Env.le_refl e, hS, .bool true, rfl, by rw [hr, hc]⟩
  | false => exact ⟨_, h2, e, w, Env.le_refl e, hS, .bool false, rfl, by rw [hr, hc]⟩
theorem w_eqNilR {ro : Option Nat} {fn nt nx : Nat} {T : Tr SV} {k : List AIt} {dfs : List ADf} {H : Heap} {Q : Pst} {ops : Array Oper} {i : Nat} {l : List Oper} {ty : TypeId} {pos : String} {af : Array Edge} {gd : Option (Nat × Bool)} {t yt el : TypeId} {x y : Operand} {r eo n : Nat} {dd : Nat} (hw : wantedS T ops ⟨some dd, .binOp .eql t x y yt, ty, pos, af, gd⟩ = some true) (hd : Nat.blt dd nt = true)
    (hx : evalS T x = some (.slu r eo n)) (hy : evalS T y = some (.sc (.slice none 0 0))) (hu : P.underlying t = some (.slice el)) {rr : Bool} {ne sz : Nat} {rt : TypeId} {c : Tr SV} (hb : H.at' r = some (.row rr ne sz rt c))
    (h1 : ne = 0 → Wp P ro ⟨fn, nt, T.set dd (.sc (.bool true)), .inReg ops (i + 1) l :: k, dfs, H, nx⟩ Q) (h2 : Wp P ro ⟨fn, nt, T.set dd (.sc (.bool false)), .inReg ops (i + 1) l :: k, dfs, H, nx⟩ Q) : Wp P ro ⟨fn, nt, T, .inReg ops i (⟨some dd, .binOp .eql t x y yt, ty, pos, af, gd⟩ :: l) :: k, dfs, H, nx⟩ Q :=
  .step (.inr ⟨hw, .inr (fun _ h => by cases h), op_eqNilR hx hy hu hb (fun h0 => by show Wp _ _ _ _; rw [putS_some hd]; exact h1 h0) (by show Wp _ _ _ _; rw [putS_some hd]; exact h2)⟩)
theorem w_mapDelN {ro : Option Nat} {fn nt nx : Nat} {T : Tr SV} {k : List AIt} {dfs : List ADf} {H : Heap} {Q : Pst} {ops : Array Oper} {i : Nat} {l : List Oper} {ty : TypeId} {pos : String} {af : Array Edge} {gd : Option (Nat × Bool)} {K V : Type} [DecidableEq K] {enc : K → Value} {val : V → SV} {m : List (K × V × Nat)} {c : Nat} {t kt e : TypeId} {x y : Operand} {b : Nat} {kk : K} (hw : wantedS T ops ⟨none, .call { callee := .builtin .delete, args := #[x, y], argTypes := #[t, kt] }, ty, pos, af, gd⟩ = some true) (hx : evalS T x = some (.mp b)) (hy : evalS T y = some (.sc (enc kk))) (hu : P.underlying t = some (.map kt e)) (hE : KEnc P kt enc) (hb : H.at' b = some (mapV enc val m c))
    (h : Wp P ro ⟨fn, nt, T, .inReg ops (i + 1) l :: k, dfs, (H.set b (mapV enc val (kdel m kk) c)), nx⟩ Q) : Wp P ro ⟨fn, nt, T, .inReg ops i (⟨none, .call { callee := .builtin .delete, args := #[x, y], argTypes := #[t, kt] }, ty, pos, af, gd⟩ :: l) :: k, dfs, H, nx⟩ Q :=
  y_val hw (.inr (fun _ h => by cases h)) (op_mapDel hx hy hu hE hb) h
theorem St.shrink {K : Zone} {w0 w : World} {e : Env} {H : Heap} {nx : Nat} (hS : St K w0 e H nx w) {b : Nat} {ro : Bool} {ne ne' sz : Nat} {t : TypeId} {c c' : Tr SV} (hb : H.at' b = some (.row ro ne sz t c)) (hn : ne' ≤ ne) (hc : ∀ i, i < ne' * sz → ∀ s, c'.at' i = some s → c.at' i = some s) : St K w0 e (H.set b (.row ro ne' sz t c')) nx w := by
  have hro : ∀ {id : Nat} {vo : VO}, (H.set b (.row ro ne' sz t c')).at' id = some vo → ∃ vo0, H.at' id = some vo0 ∧ vo0.ro = vo.ro := fun {id vo} h => by
    rcases Tr.at_set h with ⟨rfl, rfl⟩ | ⟨_, h⟩
    · exact ⟨_, hb, rfl⟩
    · exact ⟨_, h, rfl⟩
  refine ⟨hS.below, fun id vo h => ?_, fun id id' vo vo' x x' h h' hx hx' hne h1 h2 h3 h4 => ?_, hS.fresh⟩
  · rcases Tr.at_set h with ⟨rfl, rfl⟩ | ⟨_, h⟩
    · obtain ⟨x, hx, hl⟩ := hS.rel _ _ hb
      refine ⟨x, hx, ?_⟩
      rcases hl with ⟨h0, o, hz, h2, h3⟩ | ⟨h0, h1, ro2, t2, c2, h2, h3⟩
      · refine .inl ⟨h0, o, hz, h2, ?_⟩
        obtain ⟨g1, cs, fz, tt, g2, g3, g4, g5, g6, g7, g8⟩ := h3
        exact ⟨g1, cs, fz, tt, g2, by omega, g4, g5, g6, g7, fun i hi s hs => g8 i (Nat.lt_of_lt_of_le hi (Nat.mul_le_mul_right _ hn)) s (hc i hi s hs)⟩
      · simp only [VO.row.injEq] at h2
        obtain ⟨rfl, rfl, rfl, rfl, rfl⟩ := h2
        exact .inr ⟨h0, h1, _, _, _, by rw [show ne' = 0 by omega], h3⟩
    · exact hS.rel _ _ h
  · obtain ⟨v1, k1, k2⟩ := hro h
    obtain ⟨v2, k3, k4⟩ := hro h'
    exact hS.inj id id' v1 v2 x x' k1 k3 hx hx' hne h1 h2 (k2.trans h3) (k4.trans h4)
theorem y_shrink {ro : Option Nat} {fn nt nx : Nat} {T : Tr SV} {k : List AIt} {dfs : List ADf} {H : Heap} {Q : Pst} (b : Nat) {rr : Bool} (ne' : Nat) {ne sz : Nat} {t : TypeId} {vs : List Value} (hb : H.at' b = some (dat rr ne sz t vs)) (hn : ne' ≤ ne)
    (h : Wp P ro ⟨fn, nt, T, k, dfs, H.set b (dat rr ne' sz t (vs.take (ne' * sz))), nx⟩ Q) : Wp P ro ⟨fn, nt, T, k, dfs, H, nx⟩ Q := by
  refine ⟨fun K w0 e w tmps todo ds kd rof cs hS hTr htd hds hc2 => h.run K w0 e w tmps todo ds kd rof cs (hS.shrink hb hn fun i hi s hs => ?_) hTr htd hds hc2⟩
  simp only [Tr.at', List.getElem?_take, Option.map_eq_some_iff] at hs ⊢
  obtain ⟨u, hu, rfl⟩ := hs
  rw [if_pos hi] at hu
  exact ⟨u, hu, rfl⟩
theorem y_under {ro : Option Nat} {fn nt nx : Nat} {T : Tr SV} {k : List AIt} {dfs : List ADf} {H : Heap} {Q : Pst} (h : (∀ b vo, H.at' b = some vo → b < nx) → Wp P ro ⟨fn, nt, T, k, dfs, H, nx⟩ Q) : Wp P ro ⟨fn, nt, T, k, dfs, H, nx⟩ Q := by
  refine ⟨fun K w0 e w tmps todo ds kd rof cs hS hTr htd hds hc2 => (h fun b vo hb => ?_).run K w0 e w tmps todo ds kd rof cs hS hTr htd hds hc2⟩
  obtain ⟨x, hx, _⟩ := hS.rel _ _ hb
  rcases Nat.lt_or_ge b nx with hlt | hge
  · exact hlt
  · have h2 := hS.fresh _ hge
    rw [h2] at hx; cases hx
theorem op_append0 {T : Tr SV} {H : Heap} {nx : Nat} {d : Option Tmp} {ty : TypeId} {pos : String} {af : Array Edge} {gd : Option (Nat × Bool)} {t tx el rt : TypeId} {sz r eo n ne sz' : Nat} {rr : Bool} {c : Tr SV} {s x : Operand} {v : SV} {vs : List Value} (hu : P.underlying t = some (.slice el)) (hk : (∃ e', P.underlying tx = some (.slice e')) ∨ P.underlying tx = some .string) (hs : sizeT P el = some sz) (h0 : 0 < sz)
    (hx0 : evalS T s = some (.slu r eo n)) (hx : evalS T x = some v) (hro : H.at' r = some (.row rr ne sz' rt c)) (hn : eo + n ≤ ne) (hr : RdV P H sz v 0 vs) (h1 : oneV vs) :
    OpDoes P T H nx ⟨d, .call { callee := .builtin .append, args := #[s, x], argTypes := #[t, tx] }, ty, pos, af, gd⟩ (.val (.slu r eo n), H, nx) := by
  have hap : appendS P H nx el (.slu r eo n) v = some (.val (.slu r eo n), H, nx) := by
    unfold appendS
    rw [hs]
    cases sz with
    | zero => omega
    | succ sz =>
      simp only
      rw [show sliceCells H (sz + 1) v = some (0, vs.map .sc) from hr]
      simp only [allOne_sc h1, Bool.not_true, cond_false]
      rw [hro]
      simp only [Nat.beq_refl, cond_true, show Nat.ble (eo + n) ne = true from Nat.ble_eq_true_of_le hn]
  refine ed_of ?_
  rcases hk with ⟨e', hk⟩ | hk <;> simp only [effOp, evalL, hx0, hx, Option.bind_some, builtinS, appendAt, hu, hk, hap]
theorem w_append0 {ro : Option Nat} {fn nt nx : Nat} {T : Tr SV} {k : List AIt} {dfs : List ADf} {H : Heap} {Q : Pst} {ops : Array Oper} {i : Nat} {l : List Oper} {ty : TypeId} {pos : String} {af : Array Edge} {gd : Option (Nat × Bool)} {t tx el rt : TypeId} {sz r eo n ne sz' : Nat} {rr : Bool} {c : Tr SV} {s x : Operand} {v : SV} {vs : List Value} {dd : Nat} (hw : wantedS T ops ⟨some dd, .call { callee := .builtin .append, args := #[s, x], argTypes := #[t, tx] }, ty, pos, af, gd⟩ = some true) (hd : Nat.blt dd nt = true) (hx0 : evalS T s = some (.slu r eo n)) (hx : evalS T x = some v) (hu : P.underlying t = some (.slice el)) (hk : (∃ e', P.underlying tx = some (.slice e')) ∨ P.underlying tx = some .string) (hs : sizeT P el = some sz) (h0 : Nat.blt 0 sz = true) (hro : H.at' r = some (.row rr ne sz' rt c)) (hn : eo + n ≤ ne) (hr : RdV P H sz v 0 vs) (h1 : oneV vs)
    (h : Wp P ro ⟨fn, nt, T.set dd (.slu r eo n), .inReg ops (i + 1) l :: k, dfs, H, nx⟩ Q) : Wp P ro ⟨fn, nt, T, .inReg ops i (⟨some dd, .call { callee := .builtin .append, args := #[s, x], argTypes := #[t, tx] }, ty, pos, af, gd⟩ :: l) :: k, dfs, H, nx⟩ Q :=
  y_val hw (.inr (fun _ h => by cases h)) (op_append0 hu hk hs (lt_of_blt h0) hx0 hx hro hn hr h1) (by rw [putS_some hd]; exact h)
end
end Go.Sy
end
section
namespace Go.Proofs.Ytckajlllkmkniaa
open Go Go.Sy Go.Sl Go.RowKit
theorem flat_rec {A : Type} {f : A → List Value} (h : RecOf f 1) : ∀ l : List A, (l.flatMap f).length = l.length * 1
  | [] => rfl
  | a :: l => by rw [List.flatMap_cons, List.length_append, flat_rec h l, h.len, List.length_cons]; omega
theorem one_rec {A : Type} {f : A → List Value} (h : RecOf f 1) : ∀ l : List A, oneV (l.flatMap f)
  | [], v, hv => by simp at hv
  | a :: l, v, hv => by
    rw [List.flatMap_cons, List.mem_append] at hv
    rcases hv with hv | hv
    · exact h.one a v hv
    · exact one_rec h l v hv
theorem rdv_s {P : Program} {H : Heap} {b : Nat} {ro : Bool} (l : List ByteArray) (hb : H.at' b = some (sR ro l)) : RdV P H 1 (.slu b 0 l.length) l.length (l.flatMap sV) := by
  refine rdv_dat hb (by omega) ?_ (flat_rec recS l)
  rw [Nat.zero_mul, List.drop_zero]
  exact List.take_of_length_le (by rw [flat_rec recS]; exact Nat.le_refl _)
def Copys (l : List ByteArray) (H : Heap) (nx : Nat) : Pst := fun q => ∃ r', q.1 = .slu r' 0 l.length ∧ q.2.1.at' r' = some (sR false l) ∧ nx ≤ r' ∧ r' < q.2.2 ∧ nx ≤ q.2.2 ∧ ∀ n, n < nx → q.2.1.at' n = H.at' n
set_option maxRecDepth 100000 in
set_option maxHeartbeats 0 in
theorem clone_s {H : Heap} {nx r : Nat} (l : List ByteArray) (hr : H.at' r = some (sR false l)) (hl : l.length < 2000000) : Fnc Try.prog 33 [.slu r 0 l.length] H nx (Copys l H nx) := by
  refine Fnc.start Try.func33 rfl rfl ?_
  refine y_under fun hund => ?_
  have hlt := hund _ _ hr
  (repeat (first | (first | refine y_seq ?_ | refine w_region ?_ | refine y_regEnd ?_ | refine y_condT rfl ?_ | refine w_move rfl rfl rfl ?_ | refine w_assign rfl rfl rfl ?_) | refine w_eqNilR rfl rfl rfl rfl (F.un _ rfl) (by (focus (skip; first | exact Tr.at_set_same _ _ _ | assumption))) (fun h0 => ?_) ?_))
  · skip
    refine y_nilRow 1 9 (d := 2) (by (focus (skip; first | exact Tr.at_set_same _ _ _ | assumption))) rfl ?_
    ((apply w_ret Try.func33 (congrArg Array.toList Try.results33)); (focus (repeat (first | exact ResIs.nil | apply ResIs.tmp rfl))))
    have : l = [] := List.eq_nil_of_length_eq_zero h0
    subst this
    exact ⟨nx, rfl, Tr.at_set_same _ _ _, Nat.le_refl _, Nat.lt_succ_self _, Nat.le_succ _, fun n hn => Tr.at_set_other _ _ (by omega)⟩
  · (repeat (first | (first | refine y_seq ?_ | refine w_region ?_ | refine y_regEnd ?_ | refine y_skip ?_ | refine y_condF rfl ?_ | refine w_move rfl rfl rfl ?_) | refine w_bsl0 rfl rfl (F.un _ rfl) (F.sz _ rfl) rfl (F.ze _ rfl) ?_))
    rcases Nat.eq_zero_or_pos l.length with h0 | h0
    · have : l = [] := List.eq_nil_of_length_eq_zero h0
      subst this
      refine w_append0 (vs := []) rfl rfl rfl rfl (F.un _ rfl) (.inl ⟨_, F.un _ rfl⟩) (F.sz _ rfl) rfl (by (focus (skip; first | exact Tr.at_set_same _ _ _ | assumption))) (Nat.le_refl _) (rdv_s [] (by (focus ((repeat (refine (Tr.at_set_other _ _ (by omega)).trans ?_)); first | exact Tr.at_set_same _ _ _ | assumption)))) (one_rec recS []) ?_
      (repeat (first | refine y_regEnd ?_ | refine w_assign rfl rfl rfl ?_))
      ((apply w_ret Try.func33 (congrArg Array.toList Try.results33)); (focus (repeat (first | exact ResIs.nil | apply ResIs.tmp rfl))))
      exact ⟨nx, rfl, Tr.at_set_same _ _ _, Nat.le_refl _, Nat.lt_succ_self _, Nat.le_succ _, fun n hn => Tr.at_set_other _ _ (by omega)⟩
    · refine w_append (b := 16) (us := []) (ws := []) rfl rfl rfl rfl (F.un _ rfl) (.inl ⟨_, F.un _ rfl⟩) (F.sz _ rfl) rfl (by kernel_rfl) (by kernel_rfl) (by (focus (skip; first | exact Tr.at_set_same _ _ _ | assumption))) rfl rfl (rdv_s l (by (focus ((repeat (refine (Tr.at_set_other _ _ (by omega)).trans ?_)); first | exact Tr.at_set_same _ _ _ | assumption)))) (one_rec recS l) h0 (by omega) (by omega) ?_
      rw [Nat.zero_add, List.nil_append]
      (repeat (first | refine y_regEnd ?_ | refine w_assign rfl rfl rfl ?_))
      ((apply w_ret Try.func33 (congrArg Array.toList Try.results33)); (focus (repeat (first | exact ResIs.nil | apply ResIs.tmp rfl))))
      exact ⟨nx + 1, rfl, Tr.at_set_same _ _ _, Nat.le_succ _, Nat.lt_succ_self _, Nat.le_trans (Nat.le_succ _) (Nat.le_succ _), fun n hn => (Tr.at_set_other _ _ (by omega)).trans ((Tr.at_del_other _ (by omega)).trans (Tr.at_set_other _ _ (by omega)))⟩
set_option maxRecDepth 100000 in
set_option maxHeartbeats 0 in
theorem keys_t {t : Nat} {T : LT} {Fp : Nat → Prop} {H : Heap} {nx : Nat} (hT : TabAt t T Fp H) (k : Nat) (hl : (T.keys k).length < 2000000) : Fnc Try.prog 12 [.ptr t 0, .sc (oE k)] H nx (Copys (T.keys k) H nx) := by
  obtain ⟨a, b, ml, cl, mp, cp, F1, F2, h, rfl, hF⟩ := hT
  have htab := h.tab
  have hmap := h.parties
  refine Fnc.start Try.func12 rfl rfl ?_
  rw [t_keys] at hl ⊢
  (repeat (first | (first | refine y_seq ?_ | refine w_region ?_ | refine y_regEnd ?_ | refine w_move rfl rfl rfl ?_ | refine w_assign rfl rfl rfl ?_ | refine w_nilCheck rfl rfl rfl ?_ | refine w_fieldAddr rfl rfl rfl (F.fo _ _ rfl rfl) ?_ | refine w_loadB1 rfl rfl rfl (F.ag _ rfl) (by (focus (skip; first | exact Tr.at_set_same _ _ _ | assumption))) (by exact rfl) ?_) | (refine w_call rfl rfl rfl (by kernel_rfl) (Fnc.mono (none_t htab) ?_); rintro _ rfl; dsimp only)))
  cases hg : kget mp k with
  | none =>
    (repeat (first | (first | refine y_seq ?_ | refine w_region ?_ | refine y_regEnd ?_ | refine y_condT rfl ?_ | refine w_assign rfl rfl rfl ?_ | refine w_pickF rfl rfl rfl rfl ?_ | refine w_isNil rfl rfl rfl rfl rfl (F.un _ rfl) rfl ?_) | refine w_lookZ (m := mp) (enc := oE) (val := pVal) rfl rfl rfl rfl (F.un _ rfl) (oK) (by first | exact rfl | (focus (skip; first | exact Tr.at_set_same _ _ _ | assumption))) (hg) (F.ze _ rfl) ?_))
    refine y_nilRow 1 9 (d := 4) (by (focus (skip; first | exact Tr.at_set_same _ _ _ | assumption))) rfl ?_
    ((apply w_ret Try.func12 (congrArg Array.toList Try.results12)); (focus (repeat (first | exact ResIs.nil | apply ResIs.tmp rfl))))
    exact ⟨nx, rfl, Tr.at_set_same _ _ _, Nat.le_refl _, Nat.lt_succ_self _, Nat.le_succ _, fun n hn => Tr.at_set_other _ _ (by omega)⟩
  | some x =>
    obtain ⟨n, ks, w⟩ := x
    rw [hg] at hl
    obtain ⟨r, G, g1, g2, _⟩ := h.party hg
    (repeat (first | (first | refine y_seq ?_ | refine w_region ?_ | refine y_regEnd ?_ | refine y_skip ?_ | refine y_condF rfl ?_ | refine w_move rfl rfl rfl ?_ | refine w_pickF rfl rfl rfl rfl ?_ | refine w_nilCheck rfl rfl rfl ?_ | refine w_fieldAddr rfl rfl rfl (F.fo _ _ rfl rfl) ?_ | refine w_eqNil rfl rfl rfl rfl (F.un _ rfl) rfl ?_ | refine w_loadB1 rfl rfl rfl (F.ag _ rfl) (by (focus (skip; first | exact Tr.at_set_same _ _ _ | assumption))) (by exact rfl) ?_) | refine w_lookV (m := mp) (enc := oE) (val := pVal) rfl rfl rfl rfl (F.un _ rfl) (oK) (by first | exact rfl | (focus (skip; first | exact Tr.at_set_same _ _ _ | assumption))) (hg) ?_))
    (refine w_call rfl rfl rfl (by kernel_rfl) (Fnc.mono (clone_s _ g2 hl) ?_); rintro ⟨v2, H2, n2⟩ ⟨r2, rfl, q2, q3, q4, q5, q6⟩; dsimp only at q2 q4 q5 q6 ⊢)
    (repeat (first | refine y_regEnd ?_ | refine w_assign rfl rfl rfl ?_))
    ((apply w_ret Try.func12 (congrArg Array.toList Try.results12)); (focus (repeat (first | exact ResIs.nil | apply ResIs.tmp rfl))))
    exact ⟨r2, rfl, q2, q3, q4, q5, q6⟩
end Go.Proofs.Ytckajlllkmkniaa
end
section
namespace Go.Proofs.Ytckajlllkmkniaa
open Go Go.Sy Go.Sl Go.RowKit
def Step (F F' : Nat → Prop) (H : Heap) (nx : Nat) (H' : Heap) (nx' : Nat) : Prop := nx ≤ nx' ∧ (∀ n, F' n → F n ∨ nx ≤ n) ∧ ∀ n, n < nx → ¬ F n → H'.at' n = H.at' n
theorem Step.refl {F : Nat → Prop} {H : Heap} {nx : Nat} : Step F F H nx H nx := ⟨Nat.le_refl _, fun _ h => .inl h, fun _ _ _ => rfl⟩
theorem Step.trans {F F' F'' : Nat → Prop} {H H' H'' : Heap} {nx nx' nx'' : Nat} (h : Step F F' H nx H' nx') (g : Step F' F'' H' nx' H'' nx'') : Step F F'' H nx H'' nx'' := by
  refine ⟨Nat.le_trans h.1 g.1, fun n hn => ?_, fun n hn hf => ?_⟩
  · rcases g.2.1 n hn with h1 | h1
    · exact h.2.1 n h1
    · exact .inr (Nat.le_trans h.1 h1)
  · refine (g.2.2 n (Nat.lt_of_lt_of_le hn h.1) fun hf' => ?_).trans (h.2.2 n hn hf)
    rcases h.2.1 n hf' with h1 | h1
    · exact hf h1
    · omega
abbrev All (t a b : Nat) (F1 F2 : Nat → Prop) : Nat → Prop := fun n => n = t ∨ n = a ∨ n = b ∨ F1 n ∨ F2 n
def Chg (t : Nat) (T' : LT) (v : SV) (Fp : Nat → Prop) (H : Heap) (nx : Nat) : Pst := fun q => q.1 = v ∧ ∃ F', TabAt t T' F' q.2.1 ∧ Step Fp F' H nx q.2.1 q.2.2
theorem y_gen {P : Program} {ro : Option Nat} {fn nt nx : Nat} {T : Tr SV} {k : List AIt} {dfs : List ADf} {H : Heap} {Q : Pst} {R : Heap → Nat → Prop} (h : R H nx) (h2 : ∀ H' nx', R H' nx' → Wp P ro ⟨fn, nt, T, k, dfs, H', nx'⟩ Q) : Wp P ro ⟨fn, nt, T, k, dfs, H, nx⟩ Q := h2 _ _ h
theorem mput_kv_l (ml : MLk) (mp : MPt) (k : ByteArray) (n : Nat) (y : Nat × List Nat) (c : Nat) : ltOf (kput ml k (n, y) c) mp = ⟨mput (ltOf ml mp).locks k y, (ltOf ml mp).parties⟩ := by
  simp only [ltOf, kv_put]
  rw [mput_map (fun x : Nat × (Nat × List Nat) => x.2)]
theorem mput_kv_p (ml : MLk) (mp : MPt) (k : Nat) (n : Nat) (y : List ByteArray × ByteArray) (c : Nat) : ltOf ml (kput mp k (n, y) c) = ⟨(ltOf ml mp).locks, mput (ltOf ml mp).parties k y⟩ := by
  simp only [ltOf, kv_put]
  rw [mput_map (fun x : Nat × (List ByteArray × ByteArray) => x.2)]
theorem mdel_kv_l (ml : MLk) (mp : MPt) (k : ByteArray) : ltOf (kdel ml k) mp = ⟨mdel (ltOf ml mp).locks k, (ltOf ml mp).parties⟩ := by
  simp only [ltOf, kv_del]
  rw [mdel_map (fun x : Nat × (Nat × List Nat) => x.2)]
theorem mdel_kv_p (ml : MLk) (mp : MPt) (k : Nat) : ltOf ml (kdel mp k) = ⟨(ltOf ml mp).locks, mdel (ltOf ml mp).parties k⟩ := by
  simp only [ltOf, kv_del]
  rw [mdel_map (fun x : Nat × (List ByteArray × ByteArray) => x.2)]
theorem mapL_same {K X : Type} [DecidableEq K] {enc : K → Value} {m : List (K × (Nat × X) × Nat)} {k : K} {n : Nat} {x y : X} (hg : kget m k = some (n, x)) (c : Nat) : mapL enc (fun z : Nat × X => SV.ptr z.1 0) (kput m k (n, y) c) = mapL enc (fun z : Nat × X => SV.ptr z.1 0) m := by
  obtain ⟨A, B, s, h1, _, h3, _⟩ := kget_split hg
  rw [h3, h1]
  simp [mapL]
theorem kget_put {K V : Type} [DecidableEq K] (m : List (K × V × Nat)) (k : K) (v : V) (c : Nat) : kget (kput m k v c) k = some v := by
  induction m with
  | nil => simp [kput, kget]
  | cons x m ih =>
    by_cases h : x.1 = k
    · simp [kput, h, kget]
    · have e : kput (x :: m) k v c = x :: kput m k v c := by simp [kput, h]
      have e2 : kget (x :: kput m k v c) k = kget (kput m k v c) k := by simp [kget, h]
      rw [e, e2, ih]
theorem kput_none {K V : Type} [DecidableEq K] {m : List (K × V × Nat)} {k : K} (hg : kget m k = none) (v : V) (c : Nat) : kput m k v c = m ++ [(k, v, c)] := by
  have hk := kidx m k
  cases hi : m.findIdx? fun x => decide (x.1 = k) with
  | none => rw [hi] at hk; exact hk.2.2 v c
  | some i =>
    rw [hi] at hk
    obtain ⟨x, _, _, h3, _⟩ := hk
    rw [hg] at h3; cases h3
theorem Big.dom {K X : Type} {P : K → X → Own} (hP : ∀ k x H Fp z, P k x H Fp → Fp z → ∃ vo, H.at' z = some vo) {H : Heap} {z : Nat} : ∀ {m : List (K × X)} {Fp : Nat → Prop}, Big P m H Fp → Fp z → ∃ vo, H.at' z = some vo
  | [], _, h, hz => (h z hz).elim
  | x :: m, _, ⟨G1, G2, h1, h2, _, h4⟩, hz => by
    rcases (h4 z).1 hz with hz | hz
    · exact hP _ _ _ _ _ h1 hz
    · exact Big.dom hP h2 hz
theorem Tb.lt {t a b : Nat} {ml : MLk} {cl : Nat} {mp : MPt} {cp : Nat} {F1 F2 : Nat → Prop} {H : Heap} {nx : Nat} (h : Tb t a b ml cl mp cp F1 F2 H) (hu : ∀ b vo, H.at' b = some vo → b < nx) : t < nx ∧ a < nx ∧ b < nx ∧ (∀ z, F1 z → z < nx) ∧ ∀ z, F2 z → z < nx := by
  refine ⟨hu _ _ h.tab, hu _ _ h.locks, hu _ _ h.parties, fun z hz => ?_, fun z hz => ?_⟩
  · obtain ⟨vo, hv⟩ := Big.dom (fun k x H Fp z ⟨r, h1, h2, _, h4⟩ hz => by
      rcases (h4 z).1 hz with rfl | rfl
      · exact ⟨_, h1⟩
      · exact ⟨_, h2⟩) h.bl hz
    exact hu _ _ hv
  · obtain ⟨vo, hv⟩ := Big.dom (fun k x H Fp z ⟨r, h1, h2, _, h4⟩ hz => by
      rcases (h4 z).1 hz with rfl | rfl
      · exact ⟨_, h1⟩
      · exact ⟨_, h2⟩) h.bp hz
    exact hu _ _ hv
theorem Tb.putLock {t a b : Nat} {ml : MLk} {cl : Nat} {mp : MPt} {cp : Nat} {F1 F2 : Nat → Prop} {H : Heap} (h : Tb t a b ml cl mp cp F1 F2 H) {k : ByteArray} {n : Nat} {x y : Nat × List Nat} {G : Nat → Prop} (hg : kget ml k = some (n, x)) (hG : Big PL (kv (kdel ml k)) H G) (hGF : ∀ z, G z → F1 z) (hnF : F1 n) (hn : ¬ G n) {H' : Heap} {r : Nat} (e : PL k (n, y) H' (fun z => z = n ∨ z = r)) (e4 : r ≠ t ∧ r ≠ a ∧ r ≠ b ∧ ¬ G r ∧ ¬ F2 r) (fr : ∀ z, (z = t ∨ z = a ∨ z = b ∨ G z ∨ F2 z) → H'.at' z = H.at' z) :
    Tb t a b (kput ml k (n, y) cl) cl mp cp (fun z => (z = n ∨ z = r) ∨ G z) F2 H' := by
  obtain ⟨A, B, s, h1, h2, h3, h4⟩ := kget_split hg
  have hk : kclk ml k cl = cl := by simp [kclk, hg]
  have ok' := h.okl.put k (n, y)
  rw [hk] at ok'
  have hb' : Big PL (kv (kput ml k (n, y) cl)) H' (fun z => (z = n ∨ z = r) ∨ G z) := by
    rw [h4] at hG
    rw [h3]
    simp only [kv, List.map_append, List.map_cons] at hG ⊢
    refine Big.unfocus e (Big.frame PL_frame _ _ _ _ hG fun z hz => fr z (.inr (.inr (.inr (.inl hz))))) fun z hz => ?_
    rcases hz with rfl | rfl
    · exact hn
    · exact e4.2.2.2.1
  have hm : H'.at' a = some (lmV (kput ml k (n, y) cl) cl) := (fr a (by simp)).trans (h.locks.trans (congrArg (fun l => some (VO.map l cl)) (mapL_same hg cl).symm))
  have ho : H'.at' b = some (pmV mp cp) := (fr b (by simp)).trans h.parties
  have hn' : n ≠ t ∧ n ≠ a ∧ n ≠ b ∧ ¬ F2 n := h.d1 n hnF
  have d : ∀ z, ((z = n ∨ z = r) ∨ G z) → z ≠ t ∧ z ≠ a ∧ z ≠ b ∧ ¬ F2 z := fun z hz => by
    rcases hz with (rfl | rfl) | hz
    · exact hn'
    · exact ⟨e4.1, e4.2.1, e4.2.2.1, e4.2.2.2.2⟩
    · exact h.d1 z (hGF z hz)
  have ob : Big PP (kv mp) H' F2 := Big.frame PP_frame _ _ _ _ h.bp fun z hz => fr z (.inr (.inr (.inr (.inr hz))))
  exact ⟨(fr t (by simp)).trans h.tab, hm, ho, ok', h.okp, hb', ob, h.ne, d, h.d2⟩
theorem Tb.delLock {t a b : Nat} {ml : MLk} {cl : Nat} {mp : MPt} {cp : Nat} {F1 F2 : Nat → Prop} {H : Heap} (h : Tb t a b ml cl mp cp F1 F2 H) {k : ByteArray} {G : Nat → Prop} (hG : Big PL (kv (kdel ml k)) H G) (hGF : ∀ z, G z → F1 z) {H' : Heap} (hm : H'.at' a = some (lmV (kdel ml k) cl)) (fr : ∀ z, (z = t ∨ z = b ∨ G z ∨ F2 z) → H'.at' z = H.at' z) :
    Tb t a b (kdel ml k) cl mp cp G F2 H' := by
  have ok' := h.okl.del k
  have hb' : Big PL (kv (kdel ml k)) H' G := Big.frame PL_frame _ _ _ _ hG fun z hz => fr z (.inr (.inr (.inl hz)))
  have ho : H'.at' b = some (pmV mp cp) := (fr b (by simp)).trans h.parties
  have d : ∀ z, G z → z ≠ t ∧ z ≠ a ∧ z ≠ b ∧ ¬ F2 z := fun z hz => h.d1 z (hGF z hz)
  have ob : Big PP (kv mp) H' F2 := Big.frame PP_frame _ _ _ _ h.bp fun z hz => fr z (.inr (.inr (.inr hz)))
  exact ⟨(fr t (by simp)).trans h.tab, hm, ho, ok', h.okp, hb', ob, h.ne, d, h.d2⟩
theorem Tb.addLock {t a b : Nat} {ml : MLk} {cl : Nat} {mp : MPt} {cp : Nat} {F1 F2 : Nat → Prop} {H : Heap} (h : Tb t a b ml cl mp cp F1 F2 H) {k : ByteArray} {n : Nat} {y : Nat × List Nat} (hg : kget ml k = none) {H' : Heap} {r : Nat} (e : PL k (n, y) H' (fun z => z = n ∨ z = r)) (e3 : n ≠ t ∧ n ≠ a ∧ n ≠ b ∧ ¬ F1 n ∧ ¬ F2 n) (e4 : r ≠ t ∧ r ≠ a ∧ r ≠ b ∧ ¬ F1 r ∧ ¬ F2 r) (hm : H'.at' a = some (lmV (kput ml k (n, y) cl) (kclk ml k cl))) (fr : ∀ z, (z = t ∨ z = b ∨ F1 z ∨ F2 z) → H'.at' z = H.at' z) :
    Tb t a b (kput ml k (n, y) cl) (kclk ml k cl) mp cp (fun z => (z = n ∨ z = r) ∨ F1 z) F2 H' := by
  have ok' := h.okl.put k (n, y)
  have hb' : Big PL (kv (kput ml k (n, y) cl)) H' (fun z => (z = n ∨ z = r) ∨ F1 z) := by
    rw [kput_none hg]
    have h0 := Big.frame PL_frame _ _ _ _ h.bl fun z hz => fr z (.inr (.inr (.inl hz)))
    simp only [kv, List.map_append, List.map_cons, List.map_nil]
    refine Big.unfocus (A := kv ml) (B := []) e (by rw [List.append_nil]; exact h0) fun z hz => ?_
    rcases hz with rfl | rfl
    · exact e3.2.2.2.1
    · exact e4.2.2.2.1
  have ho : H'.at' b = some (pmV mp cp) := (fr b (by simp)).trans h.parties
  have d : ∀ z, ((z = n ∨ z = r) ∨ F1 z) → z ≠ t ∧ z ≠ a ∧ z ≠ b ∧ ¬ F2 z := fun z hz => by
    rcases hz with (rfl | rfl) | hz
    · exact ⟨e3.1, e3.2.1, e3.2.2.1, e3.2.2.2.2⟩
    · exact ⟨e4.1, e4.2.1, e4.2.2.1, e4.2.2.2.2⟩
    · exact h.d1 z hz
  have ob : Big PP (kv mp) H' F2 := Big.frame PP_frame _ _ _ _ h.bp fun z hz => fr z (.inr (.inr (.inr hz)))
  exact ⟨(fr t (by simp)).trans h.tab, hm, ho, ok', h.okp, hb', ob, h.ne, d, h.d2⟩
theorem Tb.putParty {t a b : Nat} {ml : MLk} {cl : Nat} {mp : MPt} {cp : Nat} {F1 F2 : Nat → Prop} {H : Heap} (h : Tb t a b ml cl mp cp F1 F2 H) {k : Nat} {n : Nat} {x y : List ByteArray × ByteArray} {G : Nat → Prop} (hg : kget mp k = some (n, x)) (hG : Big PP (kv (kdel mp k)) H G) (hGF : ∀ z, G z → F2 z) (hnF : F2 n) (hn : ¬ G n) {H' : Heap} {r : Nat} (e : PP k (n, y) H' (fun z => z = n ∨ z = r)) (e4 : r ≠ t ∧ r ≠ a ∧ r ≠ b ∧ ¬ G r ∧ ¬ F1 r) (fr : ∀ z, (z = t ∨ z = a ∨ z = b ∨ G z ∨ F1 z) → H'.at' z = H.at' z) :
    Tb t a b ml cl (kput mp k (n, y) cp) cp F1 (fun z => (z = n ∨ z = r) ∨ G z) H' := by
  obtain ⟨A, B, s, h1, h2, h3, h4⟩ := kget_split hg
  have hk : kclk mp k cp = cp := by simp [kclk, hg]
  have ok' := h.okp.put k (n, y)
  rw [hk] at ok'
  have hb' : Big PP (kv (kput mp k (n, y) cp)) H' (fun z => (z = n ∨ z = r) ∨ G z) := by
    rw [h4] at hG
    rw [h3]
    simp only [kv, List.map_append, List.map_cons] at hG ⊢
    refine Big.unfocus e (Big.frame PP_frame _ _ _ _ hG fun z hz => fr z (.inr (.inr (.inr (.inl hz))))) fun z hz => ?_
    rcases hz with rfl | rfl
    · exact hn
    · exact e4.2.2.2.1
  have hm : H'.at' b = some (pmV (kput mp k (n, y) cp) cp) := (fr b (by simp)).trans (h.parties.trans (congrArg (fun l => some (VO.map l cp)) (mapL_same hg cp).symm))
  have ho : H'.at' a = some (lmV ml cl) := (fr a (by simp)).trans h.locks
  have hn' : n ≠ t ∧ n ≠ a ∧ n ≠ b ∧ ¬ F1 n := ⟨(h.d2 n hnF).1, (h.d2 n hnF).2.1, (h.d2 n hnF).2.2, fun q => (h.d1 n q).2.2.2 hnF⟩
  have d : ∀ z, ((z = n ∨ z = r) ∨ G z) → z ≠ t ∧ z ≠ a ∧ z ≠ b ∧ ¬ F1 z := fun z hz => by
    rcases hz with (rfl | rfl) | hz
    · exact hn'
    · exact ⟨e4.1, e4.2.1, e4.2.2.1, e4.2.2.2.2⟩
    · exact ⟨(h.d2 z (hGF z hz)).1, (h.d2 z (hGF z hz)).2.1, (h.d2 z (hGF z hz)).2.2, fun q => (h.d1 z q).2.2.2 (hGF z hz)⟩
  have ob : Big PL (kv ml) H' F1 := Big.frame PL_frame _ _ _ _ h.bl fun z hz => fr z (.inr (.inr (.inr (.inr hz))))
  exact ⟨(fr t (by simp)).trans h.tab, ho, hm, h.okl, ok', ob, hb', h.ne, fun z hz => ⟨(h.d1 z hz).1, (h.d1 z hz).2.1, (h.d1 z hz).2.2.1, fun q => (d z q).2.2.2 hz⟩, fun z hz => ⟨(d z hz).1, (d z hz).2.1, (d z hz).2.2.1⟩⟩
theorem Tb.delParty {t a b : Nat} {ml : MLk} {cl : Nat} {mp : MPt} {cp : Nat} {F1 F2 : Nat → Prop} {H : Heap} (h : Tb t a b ml cl mp cp F1 F2 H) {k : Nat} {G : Nat → Prop} (hG : Big PP (kv (kdel mp k)) H G) (hGF : ∀ z, G z → F2 z) {H' : Heap} (hm : H'.at' b = some (pmV (kdel mp k) cp)) (fr : ∀ z, (z = t ∨ z = a ∨ G z ∨ F1 z) → H'.at' z = H.at' z) :
    Tb t a b ml cl (kdel mp k) cp F1 G H' := by
  have ok' := h.okp.del k
  have hb' : Big PP (kv (kdel mp k)) H' G := Big.frame PP_frame _ _ _ _ hG fun z hz => fr z (.inr (.inr (.inl hz)))
  have ho : H'.at' a = some (lmV ml cl) := (fr a (by simp)).trans h.locks
  have d : ∀ z, G z → z ≠ t ∧ z ≠ a ∧ z ≠ b ∧ ¬ F1 z := fun z hz => ⟨(h.d2 z (hGF z hz)).1, (h.d2 z (hGF z hz)).2.1, (h.d2 z (hGF z hz)).2.2, fun q => (h.d1 z q).2.2.2 (hGF z hz)⟩
  have ob : Big PL (kv ml) H' F1 := Big.frame PL_frame _ _ _ _ h.bl fun z hz => fr z (.inr (.inr (.inr hz)))
  exact ⟨(fr t (by simp)).trans h.tab, ho, hm, h.okl, ok', ob, hb', h.ne, fun z hz => ⟨(h.d1 z hz).1, (h.d1 z hz).2.1, (h.d1 z hz).2.2.1, fun q => (d z q).2.2.2 hz⟩, fun z hz => ⟨(d z hz).1, (d z hz).2.1, (d z hz).2.2.1⟩⟩
theorem Tb.addParty {t a b : Nat} {ml : MLk} {cl : Nat} {mp : MPt} {cp : Nat} {F1 F2 : Nat → Prop} {H : Heap} (h : Tb t a b ml cl mp cp F1 F2 H) {k : Nat} {n : Nat} {y : List ByteArray × ByteArray} (hg : kget mp k = none) {H' : Heap} {r : Nat} (e : PP k (n, y) H' (fun z => z = n ∨ z = r)) (e3 : n ≠ t ∧ n ≠ a ∧ n ≠ b ∧ ¬ F2 n ∧ ¬ F1 n) (e4 : r ≠ t ∧ r ≠ a ∧ r ≠ b ∧ ¬ F2 r ∧ ¬ F1 r) (hm : H'.at' b = some (pmV (kput mp k (n, y) cp) (kclk mp k cp))) (fr : ∀ z, (z = t ∨ z = a ∨ F2 z ∨ F1 z) → H'.at' z = H.at' z) :
    Tb t a b ml cl (kput mp k (n, y) cp) (kclk mp k cp) F1 (fun z => (z = n ∨ z = r) ∨ F2 z) H' := by
  have ok' := h.okp.put k (n, y)
  have hb' : Big PP (kv (kput mp k (n, y) cp)) H' (fun z => (z = n ∨ z = r) ∨ F2 z) := by
    rw [kput_none hg]
    have h0 := Big.frame PP_frame _ _ _ _ h.bp fun z hz => fr z (.inr (.inr (.inl hz)))
    simp only [kv, List.map_append, List.map_cons, List.map_nil]
    refine Big.unfocus (A := kv mp) (B := []) e (by rw [List.append_nil]; exact h0) fun z hz => ?_
    rcases hz with rfl | rfl
    · exact e3.2.2.2.1
    · exact e4.2.2.2.1
  have ho : H'.at' a = some (lmV ml cl) := (fr a (by simp)).trans h.locks
  have d : ∀ z, ((z = n ∨ z = r) ∨ F2 z) → z ≠ t ∧ z ≠ a ∧ z ≠ b ∧ ¬ F1 z := fun z hz => by
    rcases hz with (rfl | rfl) | hz
    · exact ⟨e3.1, e3.2.1, e3.2.2.1, e3.2.2.2.2⟩
    · exact ⟨e4.1, e4.2.1, e4.2.2.1, e4.2.2.2.2⟩
    · exact ⟨(h.d2 z hz).1, (h.d2 z hz).2.1, (h.d2 z hz).2.2, fun q => (h.d1 z q).2.2.2 hz⟩
  have ob : Big PL (kv ml) H' F1 := Big.frame PL_frame _ _ _ _ h.bl fun z hz => fr z (.inr (.inr (.inr hz)))
  exact ⟨(fr t (by simp)).trans h.tab, ho, hm, h.okl, ok', ob, hb', h.ne, fun z hz => ⟨(h.d1 z hz).1, (h.d1 z hz).2.1, (h.d1 z hz).2.2.1, fun q => (d z q).2.2.2 hz⟩, fun z hz => ⟨(d z hz).1, (d z hz).2.1, (d z hz).2.2.1⟩⟩
end Go.Proofs.Ytckajlllkmkniaa
end
section
namespace Go.Proofs.Ytckajlllkmkniaa
open Go Go.Sy Go.Sl Go.RowKit
theorem empty_of {w : ByteArray} (h : w.size = 0) : (w == (⟨#[]⟩ : ByteArray)) = true := by
  have : w = ⟨#[]⟩ := by
    obtain ⟨⟨l⟩⟩ := w
    cases l with
    | nil => rfl
    | cons a l => cases h
  subst this
  rfl
theorem empty_ne {w : ByteArray} (h : w.size ≠ 0) : (w == (⟨#[]⟩ : ByteArray)) = false := by
  cases hq : (w == (⟨#[]⟩ : ByteArray)) with
  | false => rfl
  | true =>
    have e := (MapKept.bytes_beq w ⟨#[]⟩).1 hq
    subst e
    exact absurd rfl h
set_option maxRecDepth 100000 in
set_option maxHeartbeats 0 in
theorem ring1_t {t : Nat} {T : LT} {Fp : Nat → Prop} {H : Heap} {nx bt bo bf : Nat} (hT : TabAt t T Fp H) (o who : Nat) (r : Bool) (hbt : H.at' bt = some (newCells 26 [.ptr t 0])) (hbo : H.at' bo = some (newCells 23 [.sc (.int .u64 (o : Int))])) (hc : T.chase o 1001 who = some r) : Fnc Try.prog 53 [.sc (.int .u64 (who : Int)), .ptr bt 0, .ptr bo 0, .ptr bf 0] H nx (fun q => q = (.sc (.bool r), H, nx)) := by
  obtain ⟨a, b, ml, cl, mp, cp, F1, F2, h, rfl, hF⟩ := hT
  have htab := h.tab
  have hloc := h.locks
  have hpar := h.parties
  refine Fnc.start Try.func53 rfl rfl ?_
  (repeat (first | refine y_seq ?_ | refine w_region ?_ | refine y_regEnd ?_ | refine y_block ?_ | refine y_label ?_ | refine y_scope ?_ | refine w_move rfl rfl rfl ?_ | refine w_assign rfl rfl rfl ?_))
  refine y_loopT (α := Nat × Nat) (fun x => [(0, .sc (.int .u64 (x.2 : Int))), (1, .ptr bt 0), (2, .ptr bo 0), (3, .ptr bf 0), (6, .sc (.bool true)), (8, .sc (.int .i64 (x.1 : Int)))]) (fun x H1 nx1 => H1 = H ∧ nx1 = nx ∧ x.1 ≤ 1001 ∧ (ltOf ml mp).chase o (1001 - x.1) x.2 = some r) (fun x => 1024 - x.1) (0, who) ⟨rfl, rfl, Nat.zero_le _, hc⟩ (SlIn.sub ⟨rfl, rfl, rfl, rfl, rfl, rfl, trivial⟩) ?_
  rintro ⟨i, p⟩ H1 nx1 ⟨rfl, rfl, hi, hch⟩ again
  simp only at hi hch again ⊢
  (repeat (first | refine y_seq ?_ | refine w_region ?_))
  refine w_lssS rfl rfl rfl rfl ?_ ?_
  all_goals intro h1
  · obtain ⟨n, hn⟩ : ∃ n, 1001 - i = n + 1 := by
      cases hq : 1001 - i with
      | zero => rw [hq] at hch; cases hch
      | succ n => exact ⟨n, rfl⟩
    rw [hn] at hch
    unfold LT.chase at hch
    cases hg : kget mp p with
    | none =>
      rw [get_p, hg] at hch
      (repeat (first | (first | refine y_seq ?_ | refine w_region ?_ | refine y_regEnd ?_ | refine y_block ?_ | refine y_skip ?_ | refine y_condT rfl ?_ | refine w_move rfl rfl rfl ?_ | refine w_assign rfl rfl rfl ?_ | refine w_nilCheck rfl rfl rfl ?_ | refine w_fieldAddr rfl rfl rfl (F.fo _ _ rfl rfl) ?_ | refine w_loadB1 rfl rfl rfl (F.ag _ rfl) (by (focus (skip; first | exact Tr.at_set_same _ _ _ | assumption))) (by exact rfl) ?_) | refine w_lookZ (m := mp) (enc := oE) (val := pVal) rfl rfl rfl rfl (F.un _ rfl) (oK) (by first | exact rfl | (focus (skip; first | exact Tr.at_set_same _ _ _ | assumption))) (hg) (F.ze _ rfl) ?_))
      refine w_eqlS rfl rfl rfl rfl ?_ ?_
      all_goals intro h2
      · rw [if_pos (by omega)] at hch
        (repeat (first | refine y_seq ?_ | refine w_region ?_ | refine y_regEnd ?_ | refine y_condT rfl ?_ | refine w_assign rfl rfl rfl ?_))
        ((apply w_ret Try.func53 (congrArg Array.toList Try.results53)); (focus (repeat (first | exact ResIs.nil | apply ResIs.tmp rfl))))
        cases hch
        rfl
      · rw [if_neg (by omega)] at hch
        (repeat (first | refine y_seq ?_ | refine w_region ?_ | refine y_regEnd ?_ | refine y_exit rfl ?_ | refine y_condT rfl ?_ | refine y_condF rfl ?_ | refine w_move rfl rfl rfl ?_ | refine w_assign rfl rfl rfl ?_ | refine w_pickT rfl rfl rfl rfl ?_ | refine w_pickF rfl rfl rfl rfl ?_ | refine w_not rfl ?_ | refine w_isNil rfl rfl rfl rfl rfl (F.un _ rfl) rfl ?_))
        ((apply w_ret Try.func53 (congrArg Array.toList Try.results53)); (focus (repeat (first | exact ResIs.nil | apply ResIs.tmp rfl))))
        cases hch
        rfl
    | some x =>
      obtain ⟨pn, ks, w⟩ := x
      rw [get_p, hg] at hch
      obtain ⟨pr, PG, g1, _⟩ := h.party hg
      (repeat (first | (first | refine y_seq ?_ | refine w_region ?_ | refine y_regEnd ?_ | refine y_block ?_ | refine y_skip ?_ | refine y_condT rfl ?_ | refine w_move rfl rfl rfl ?_ | refine w_assign rfl rfl rfl ?_ | refine w_nilCheck rfl rfl rfl ?_ | refine w_fieldAddr rfl rfl rfl (F.fo _ _ rfl rfl) ?_ | refine w_loadB1 rfl rfl rfl (F.ag _ rfl) (by (focus (skip; first | exact Tr.at_set_same _ _ _ | assumption))) (by exact rfl) ?_) | refine w_lookV (m := mp) (enc := oE) (val := pVal) rfl rfl rfl rfl (F.un _ rfl) (oK) (by first | exact rfl | (focus (skip; first | exact Tr.at_set_same _ _ _ | assumption))) (hg) ?_))
      refine w_eqlS rfl rfl rfl rfl ?_ ?_
      all_goals intro h2
      · rw [if_pos (by omega)] at hch
        (repeat (first | refine y_seq ?_ | refine w_region ?_ | refine y_regEnd ?_ | refine y_condT rfl ?_ | refine w_assign rfl rfl rfl ?_))
        ((apply w_ret Try.func53 (congrArg Array.toList Try.results53)); (focus (repeat (first | exact ResIs.nil | apply ResIs.tmp rfl))))
        cases hch
        rfl
      · rw [if_neg (by omega)] at hch
        simp only [Option.map_some] at hch
        dsimp only [pVal]
        by_cases hw : w.size = 0
        · rw [if_pos hw] at hch
          have he := empty_of hw
          (repeat (first | (first | refine y_seq ?_ | refine w_region ?_ | refine y_regEnd ?_ | refine y_exit rfl ?_ | refine y_condT rfl ?_ | refine y_condF rfl ?_ | refine w_move rfl rfl rfl ?_ | refine w_assign rfl rfl rfl ?_ | refine w_pickF rfl rfl rfl rfl ?_ | refine w_nilCheck rfl rfl rfl ?_ | refine w_fieldAddr rfl rfl rfl (F.fo _ _ rfl rfl) ?_ | refine w_not rfl ?_ | refine w_eqNil rfl rfl rfl rfl (F.un _ rfl) rfl ?_ | refine w_loadB1 rfl rfl rfl (F.ag _ rfl) (by (focus (skip; first | exact Tr.at_set_same _ _ _ | assumption))) (by exact rfl) ?_) | refine w_eqStrV rfl rfl rfl rfl he ?_))
          ((apply w_ret Try.func53 (congrArg Array.toList Try.results53)); (focus (repeat (first | exact ResIs.nil | apply ResIs.tmp rfl))))
          cases hch
          rfl
        · rw [if_neg hw] at hch
          have he := empty_ne hw
          cases hgl : kget ml w with
          | none => rw [get_l, hgl] at hch; cases hch
          | some y =>
            obtain ⟨ln, ow, l⟩ := y
            rw [get_l, hgl] at hch
            simp only [Option.map_some] at hch
            obtain ⟨lr, LG, k1, _⟩ := h.lock hgl
            (repeat (first | (first | refine y_seq ?_ | refine w_region ?_ | refine y_regEnd ?_ | refine y_inBlock ?_ | refine y_skip ?_ | refine y_condF rfl ?_ | refine w_move rfl rfl rfl ?_ | refine w_assign rfl rfl rfl ?_ | refine w_pickF rfl rfl rfl rfl ?_ | refine w_nilCheck rfl rfl rfl ?_ | refine w_fieldAddr rfl rfl rfl (F.fo _ _ rfl rfl) ?_ | refine w_eqNil rfl rfl rfl rfl (F.un _ rfl) rfl ?_ | refine w_loadB1 rfl rfl rfl (F.ag _ rfl) (by (focus (skip; first | exact Tr.at_set_same _ _ _ | assumption))) (by exact rfl) ?_) | refine w_eqStrV rfl rfl rfl rfl he ?_))
            refine w_draw (by kernel_rfl) (by kernel_rfl) ?_
            (repeat (first | (first | refine dw_move rfl rfl rfl ?_ | refine dw_assign rfl rfl rfl ?_ | refine dw_nilCheck rfl rfl rfl ?_ | refine dw_fieldAddr rfl rfl rfl (F.fo _ _ rfl rfl) ?_) | refine dw_loadB1 rfl rfl rfl (F.ag _ rfl) (by (focus (skip; first | exact Tr.at_set_same _ _ _ | assumption))) (by exact rfl) ?_ | refine dw_lookV (m := ml) (enc := kE) (val := lVal) rfl rfl rfl rfl (F.un _ rfl) (kK) (by first | exact rfl | (focus (skip; first | exact Tr.at_set_same _ _ _ | assumption))) (hgl) ?_))
            (refine dk_nil ?_); (refine ⟨by kernel_rfl, ?_, ?_⟩); (focus (repeat (first | exact trivial | refine ⟨.inl rfl, ?_⟩)))
            dsimp only [wrL, lVal]
            (repeat (first | refine w_region ?_ | refine y_regEnd ?_ | refine y_inBlock ?_ | refine w_move rfl rfl rfl ?_ | refine w_add rfl rfl rfl rfl (by omega) (by omega) ?_))
            refine again _ _ _ (i + 1, ow) ⟨rfl, rfl, by simp only; omega, ?_⟩ (by simp only; omega) (SlIn.sub (by repeat (first | exact trivial | refine ⟨rfl, ?_⟩)))
            simp only
            rw [show 1001 - (i + 1) = n by omega]
            exact hch
  · omega
end Go.Proofs.Ytckajlllkmkniaa
end
section
namespace Go.Proofs.Ytckajlllkmkniaa
open Go Go.Sy Go.Sl Go.RowKit
theorem TabAt.frame {t : Nat} {T : LT} {Fp : Nat → Prop} {H H' : Heap} (hT : TabAt t T Fp H) (hf : ∀ n, Fp n → H'.at' n = H.at' n) : TabAt t T Fp H' := by
  obtain ⟨a, b, ml, cl, mp, cp, F1, F2, h, rfl, hF⟩ := hT
  refine ⟨a, b, ml, cl, mp, cp, F1, F2, ⟨(hf _ ((hF _).2 (.inl rfl))).trans h.tab, (hf _ ((hF _).2 (.inr (.inl rfl)))).trans h.locks, (hf _ ((hF _).2 (.inr (.inr (.inl rfl))))).trans h.parties, h.okl, h.okp, Big.frame PL_frame _ _ _ _ h.bl fun z hz => hf _ ((hF _).2 (.inr (.inr (.inr (.inl hz))))), Big.frame PP_frame _ _ _ _ h.bp fun z hz => hf _ ((hF _).2 (.inr (.inr (.inr (.inr hz))))), h.ne, h.d1, h.d2⟩, rfl, hF⟩
theorem TabAt.lt {t : Nat} {T : LT} {Fp : Nat → Prop} {H : Heap} {nx : Nat} (hT : TabAt t T Fp H) (hu : ∀ b vo, H.at' b = some vo → b < nx) : ∀ n, Fp n → n < nx := by
  obtain ⟨a, b, ml, cl, mp, cp, F1, F2, h, rfl, hF⟩ := hT
  obtain ⟨h1, h2, h3, h4, h5⟩ := h.lt hu
  intro n hn
  rcases (hF n).1 hn with rfl | rfl | rfl | hn | hn
  · exact h1
  · exact h2
  · exact h3
  · exact h4 _ hn
  · exact h5 _ hn
set_option maxRecDepth 100000 in
set_option maxHeartbeats 0 in
theorem ring_t {t : Nat} {T : LT} {Fp : Nat → Prop} {H : Heap} {nx : Nat} (hT : TabAt t T Fp H) (o who : Nat) (r : Bool) (hc : T.chase o 1001 who = some r) : Fnc Try.prog 47 [.ptr t 0, .sc (.int .u64 (o : Int)), .sc (.int .u64 (who : Int))] H nx (fun q => q.1 = .sc (.bool r) ∧ nx ≤ q.2.2 ∧ ∀ n, n < nx → q.2.1.at' n = H.at' n) := by
  refine Fnc.start Try.func47 rfl rfl ?_
  refine y_under fun hund => ?_
  (repeat (first | (first | refine y_seq ?_ | refine w_region ?_ | refine y_regEnd ?_ | refine y_block ?_ | refine y_inBlock ?_ | refine y_skip ?_ | refine y_label ?_ | refine y_scope ?_ | refine y_inScope ?_ | refine y_exit rfl ?_ | refine y_condT rfl ?_ | refine y_condF rfl ?_ | refine y_goto rfl ?_ | refine w_move rfl rfl rfl ?_ | refine w_assign rfl rfl rfl ?_ | refine w_pickT rfl rfl rfl rfl ?_ | refine w_pickF rfl rfl rfl rfl ?_ | refine w_extract rfl rfl rfl rfl ?_ | refine w_nilCheck rfl rfl rfl ?_ | refine w_nilCheckF rfl rfl rfl ?_ | refine w_nilCheckI rfl rfl rfl ?_ | refine w_fieldAddr rfl rfl rfl (F.fo _ _ rfl rfl) ?_ | refine w_makeFunc rfl rfl rfl rfl ?_ | refine w_not rfl ?_ | refine w_extractV rfl rfl rfl rfl ?_ | refine w_makeMap rfl rfl ?_ | refine w_eqNil rfl rfl rfl rfl (F.un _ rfl) rfl ?_ | refine w_neNil rfl rfl rfl rfl (F.un _ rfl) rfl ?_ | refine w_isNil rfl rfl rfl rfl rfl (F.un _ rfl) rfl ?_ | refine w_noNil rfl rfl rfl rfl rfl (F.un _ rfl) rfl ?_ | refine w_storeC rfl rfl rfl rfl (F.sz _ rfl) (by first | exact rfl | (focus ((repeat (first | refine (Tr.at_set_other _ _ (by omega)).trans ?_ | refine (Tr.at_del_other _ (by omega)).trans ?_)); first | exact Tr.at_set_same _ _ _ | assumption))) rfl (by exact Nat.le_of_ble_eq_true rfl) rfl ?_ | refine w_loadB1 rfl rfl rfl (F.ag _ rfl) rfl rfl ?_ | refine w_loadBN rfl rfl rfl (F.ag _ rfl) rfl rfl ?_ | refine w_alloc rfl rfl (F.zl _ rfl) ?_ | refine w_boxN rfl rfl rfl ?_ | refine w_box rfl rfl rfl rfl ?_ | refine w_store1 rfl rfl rfl (F.sz _ rfl) rfl rfl rfl ?_ | refine w_storeN rfl rfl rfl (F.sz _ rfl) rfl rfl (by decide) rfl rfl ?_ | refine w_loadB1 rfl rfl rfl (F.ag _ rfl) (by (focus ((repeat (first | refine (Tr.at_set_other _ _ (by omega)).trans ?_ | refine (Tr.at_del_other _ (by omega)).trans ?_)); first | exact Tr.at_set_same _ _ _ | assumption))) (by exact rfl) ?_ | refine w_loadBN rfl rfl rfl (F.ag _ rfl) (by (focus ((repeat (first | refine (Tr.at_set_other _ _ (by omega)).trans ?_ | refine (Tr.at_del_other _ (by omega)).trans ?_)); first | exact Tr.at_set_same _ _ _ | assumption))) (by exact rfl) ?_ | refine w_store1 rfl rfl rfl (F.sz _ rfl) (by (focus ((repeat (first | refine (Tr.at_set_other _ _ (by omega)).trans ?_ | refine (Tr.at_del_other _ (by omega)).trans ?_)); first | exact Tr.at_set_same _ _ _ | assumption))) (by exact rfl) (by exact rfl) ?_ | refine w_storeN rfl rfl rfl (F.sz _ rfl) (by (focus ((repeat (first | refine (Tr.at_set_other _ _ (by omega)).trans ?_ | refine (Tr.at_del_other _ (by omega)).trans ?_)); first | exact Tr.at_set_same _ _ _ | assumption))) rfl (by exact Nat.le_of_ble_eq_true rfl) rfl (by exact rfl) ?_ | refine w_lenSl rfl rfl rfl (F.un _ rfl) ?_ | refine w_lenStr rfl rfl rfl (F.un _ rfl) ?_ | refine w_add rfl rfl rfl rfl (by omega) (by omega) ?_ | refine w_sub rfl rfl rfl rfl (by omega) (by omega) ?_ | refine w_mul rfl rfl rfl rfl (by omega) (by omega) ?_ | refine w_notB rfl rfl rfl ?_ | refine w_quo rfl rfl rfl rfl (by omega) (by omega) (by omega) ?_ | refine w_build rfl rfl rfl (F.ze _ rfl) (F.pl _ rfl) rfl ?_ | fail) | fail))
  have hlt := hT.lt hund
  refine w_callFf rfl rfl rfl rfl (by kernel_rfl) rfl (ring1_t (bt := nx) (bo := nx + 1) (bf := nx + 1 + 1) (hT.frame fun n hn => ?_) o who r (by (focus ((repeat (first | refine (Tr.at_set_other _ _ (by omega)).trans ?_ | refine (Tr.at_del_other _ (by omega)).trans ?_)); first | exact Tr.at_set_same _ _ _ | assumption))) (by (focus ((repeat (first | refine (Tr.at_set_other _ _ (by omega)).trans ?_ | refine (Tr.at_del_other _ (by omega)).trans ?_)); first | exact Tr.at_set_same _ _ _ | assumption))) hc) ?_
  · have := hlt n hn
    exact (Tr.at_set_other _ _ (by omega)).trans ((Tr.at_set_other _ _ (by omega)).trans ((Tr.at_set_other _ _ (by omega)).trans (Tr.at_set_other _ _ (by omega))))
  (repeat (first | (first | refine y_seq ?_ | refine w_region ?_ | refine y_regEnd ?_ | refine y_block ?_ | refine y_inBlock ?_ | refine y_skip ?_ | refine y_label ?_ | refine y_scope ?_ | refine y_inScope ?_ | refine y_exit rfl ?_ | refine y_condT rfl ?_ | refine y_condF rfl ?_ | refine y_goto rfl ?_ | refine w_move rfl rfl rfl ?_ | refine w_assign rfl rfl rfl ?_ | refine w_pickT rfl rfl rfl rfl ?_ | refine w_pickF rfl rfl rfl rfl ?_ | refine w_extract rfl rfl rfl rfl ?_ | refine w_nilCheck rfl rfl rfl ?_ | refine w_nilCheckF rfl rfl rfl ?_ | refine w_nilCheckI rfl rfl rfl ?_ | refine w_fieldAddr rfl rfl rfl (F.fo _ _ rfl rfl) ?_ | refine w_makeFunc rfl rfl rfl rfl ?_ | refine w_not rfl ?_ | refine w_extractV rfl rfl rfl rfl ?_ | refine w_makeMap rfl rfl ?_ | refine w_eqNil rfl rfl rfl rfl (F.un _ rfl) rfl ?_ | refine w_neNil rfl rfl rfl rfl (F.un _ rfl) rfl ?_ | refine w_isNil rfl rfl rfl rfl rfl (F.un _ rfl) rfl ?_ | refine w_noNil rfl rfl rfl rfl rfl (F.un _ rfl) rfl ?_ | refine w_storeC rfl rfl rfl rfl (F.sz _ rfl) (by first | exact rfl | (focus ((repeat (first | refine (Tr.at_set_other _ _ (by omega)).trans ?_ | refine (Tr.at_del_other _ (by omega)).trans ?_)); first | exact Tr.at_set_same _ _ _ | assumption))) rfl (by exact Nat.le_of_ble_eq_true rfl) rfl ?_ | refine w_loadB1 rfl rfl rfl (F.ag _ rfl) rfl rfl ?_ | refine w_loadBN rfl rfl rfl (F.ag _ rfl) rfl rfl ?_ | refine w_alloc rfl rfl (F.zl _ rfl) ?_ | refine w_boxN rfl rfl rfl ?_ | refine w_box rfl rfl rfl rfl ?_ | refine w_store1 rfl rfl rfl (F.sz _ rfl) rfl rfl rfl ?_ | refine w_storeN rfl rfl rfl (F.sz _ rfl) rfl rfl (by decide) rfl rfl ?_ | refine w_loadB1 rfl rfl rfl (F.ag _ rfl) (by (focus ((repeat (first | refine (Tr.at_set_other _ _ (by omega)).trans ?_ | refine (Tr.at_del_other _ (by omega)).trans ?_)); first | exact Tr.at_set_same _ _ _ | assumption))) (by exact rfl) ?_ | refine w_loadBN rfl rfl rfl (F.ag _ rfl) (by (focus ((repeat (first | refine (Tr.at_set_other _ _ (by omega)).trans ?_ | refine (Tr.at_del_other _ (by omega)).trans ?_)); first | exact Tr.at_set_same _ _ _ | assumption))) (by exact rfl) ?_ | refine w_store1 rfl rfl rfl (F.sz _ rfl) (by (focus ((repeat (first | refine (Tr.at_set_other _ _ (by omega)).trans ?_ | refine (Tr.at_del_other _ (by omega)).trans ?_)); first | exact Tr.at_set_same _ _ _ | assumption))) (by exact rfl) (by exact rfl) ?_ | refine w_storeN rfl rfl rfl (F.sz _ rfl) (by (focus ((repeat (first | refine (Tr.at_set_other _ _ (by omega)).trans ?_ | refine (Tr.at_del_other _ (by omega)).trans ?_)); first | exact Tr.at_set_same _ _ _ | assumption))) rfl (by exact Nat.le_of_ble_eq_true rfl) rfl (by exact rfl) ?_ | refine w_lenSl rfl rfl rfl (F.un _ rfl) ?_ | refine w_lenStr rfl rfl rfl (F.un _ rfl) ?_ | refine w_add rfl rfl rfl rfl (by omega) (by omega) ?_ | refine w_sub rfl rfl rfl rfl (by omega) (by omega) ?_ | refine w_mul rfl rfl rfl rfl (by omega) (by omega) ?_ | refine w_notB rfl rfl rfl ?_ | refine w_quo rfl rfl rfl rfl (by omega) (by omega) (by omega) ?_ | refine w_build rfl rfl rfl (F.ze _ rfl) (F.pl _ rfl) rfl ?_ | fail) | fail))
  ((first | apply w_end Try.func47 (congrArg Array.toList Try.results47) | apply w_ret Try.func47 (congrArg Array.toList Try.results47)); (focus (repeat (first | exact ResIs.nil | apply ResIs.tmp rfl | apply ResIs.cell rfl (LoadIs.one (F.ag _ rfl) rfl (cell_box rfl)) | apply ResIs.cell rfl (LoadIs.many (F.ag _ rfl) rfl (cellsFrom_box _ 0 rfl rfl))))))
  exact ⟨rfl, Nat.le_trans (Nat.le_succ _) (Nat.le_trans (Nat.le_succ _) (Nat.le_succ _)), fun n hn => (Tr.at_set_other _ _ (by omega)).trans ((Tr.at_set_other _ _ (by omega)).trans ((Tr.at_set_other _ _ (by omega)).trans (Tr.at_set_other _ _ (by omega))))⟩
end Go.Proofs.Ytckajlllkmkniaa
end
section
namespace Go.Proofs.Ytckajlllkmkniaa
open Go Go.Sy Go.Sl Go.RowKit
theorem chg_same {t : Nat} {T : LT} {Fp : Nat → Prop} {H : Heap} {nx : Nat} (hT : TabAt t T Fp H) (v : SV) : Chg t T v Fp H nx (v, H, nx) := ⟨rfl, Fp, hT, Step.refl⟩
theorem mput_mput {K V : Type} [DecidableEq K] (m : List (K × V)) (k : K) (x y : V) : mput (mput m k x) k y = mput m k y := by
  induction m with
  | nil => simp [mput]
  | cons z m ih =>
    by_cases h : z.1 = k
    · simp [mput, h]
    · simp [mput, h, ih]
theorem Tb.newParty {t a b : Nat} {ml : MLk} {cl : Nat} {mp : MPt} {cp : Nat} {F1 F2 : Nat → Prop} {H : Heap} {nx : Nat} (h : Tb t a b ml cl mp cp F1 F2 H) (hu : ∀ b vo, H.at' b = some vo → b < nx) {o : Nat} (hg : kget mp o = none) {H' : Heap} (e1 : H'.at' (nx + 1) = some (newCells 72 [.slu nx 0 0, .sc (.string ⟨#[]⟩)])) (e2 : H'.at' nx = some (sR false [])) (hm : H'.at' b = some (pmV (kput mp o (nx + 1, ([], ⟨#[]⟩)) cp) (kclk mp o cp))) (fr : ∀ z, z < nx → z ≠ b → H'.at' z = H.at' z) :
    Tb t a b ml cl (kput mp o (nx + 1, ([], ⟨#[]⟩)) cp) (kclk mp o cp) F1 (fun z => (z = nx + 1 ∨ z = nx) ∨ F2 z) H' ∧ Step (All t a b F1 F2) (All t a b F1 (fun z => (z = nx + 1 ∨ z = nx) ∨ F2 z)) H nx H' (nx + 1 + 1) := by
  obtain ⟨ut, ua, ub, u1, u2⟩ := h.lt hu
  have hne := h.ne
  refine ⟨h.addParty hg ⟨nx, e1, e2, by omega, fun z => Iff.rfl⟩ ⟨by omega, by omega, by omega, fun q => by have := u2 _ q; omega, fun q => by have := u1 _ q; omega⟩ ⟨by omega, by omega, by omega, fun q => by have := u2 _ q; omega, fun q => by have := u1 _ q; omega⟩ hm fun z hz => ?_, by omega, fun z hz => ?_, fun z hz hf => fr z hz fun e => hf (.inr (.inr (.inl e)))⟩
  · rcases hz with rfl | rfl | hz | hz
    · exact fr _ ut hne.2.1
    · exact fr _ ua hne.2.2
    · exact fr _ (u2 _ hz) (h.d2 _ hz).2.2
    · exact fr _ (u1 _ hz) (h.d1 _ hz).2.2.1
  · rcases hz with hz | hz | hz | hz | ((hz | hz) | hz)
    · exact .inl (.inl hz)
    · exact .inl (.inr (.inl hz))
    · exact .inl (.inr (.inr (.inl hz)))
    · exact .inl (.inr (.inr (.inr (.inl hz))))
    · exact .inr (by omega)
    · exact .inr (by omega)
    · exact .inl (.inr (.inr (.inr (.inr hz))))
theorem Tb.newLock {t a b : Nat} {ml : MLk} {cl : Nat} {mp : MPt} {cp : Nat} {F1 F2 : Nat → Prop} {H : Heap} {nx : Nat} (h : Tb t a b ml cl mp cp F1 F2 H) (hu : ∀ b vo, H.at' b = some vo → b < nx) {k : ByteArray} {o : Nat} (hg : kget ml k = none) {H' : Heap} (e1 : H'.at' (nx + 1) = some (newCells 75 [.sc (.int .u64 (o : Int)), .slu nx 0 0])) (e2 : H'.at' nx = some (uR false [])) (hm : H'.at' a = some (lmV (kput ml k (nx + 1, (o, [])) cl) (kclk ml k cl))) (fr : ∀ z, z < nx → z ≠ a → H'.at' z = H.at' z) :
    Tb t a b (kput ml k (nx + 1, (o, [])) cl) (kclk ml k cl) mp cp (fun z => (z = nx + 1 ∨ z = nx) ∨ F1 z) F2 H' ∧ Step (All t a b F1 F2) (All t a b (fun z => (z = nx + 1 ∨ z = nx) ∨ F1 z) F2) H nx H' (nx + 1 + 1) := by
  obtain ⟨ut, ua, ub, u1, u2⟩ := h.lt hu
  have hne := h.ne
  refine ⟨h.addLock hg ⟨nx, e1, e2, by omega, fun z => Iff.rfl⟩ ⟨by omega, by omega, by omega, fun q => by have := u1 _ q; omega, fun q => by have := u2 _ q; omega⟩ ⟨by omega, by omega, by omega, fun q => by have := u1 _ q; omega, fun q => by have := u2 _ q; omega⟩ hm fun z hz => ?_, by omega, fun z hz => ?_, fun z hz hf => fr z hz fun e => hf (.inr (.inl e))⟩
  · rcases hz with rfl | rfl | hz | hz
    · exact fr _ ut hne.1
    · exact fr _ ub (Ne.symm hne.2.2)
    · exact fr _ (u1 _ hz) (h.d1 _ hz).2.1
    · exact fr _ (u2 _ hz) (h.d2 _ hz).2.1
  · rcases hz with hz | hz | hz | ((hz | hz) | hz) | hz
    · exact .inl (.inl hz)
    · exact .inl (.inr (.inl hz))
    · exact .inl (.inr (.inr (.inl hz)))
    · exact .inr (by omega)
    · exact .inr (by omega)
    · exact .inl (.inr (.inr (.inr (.inl hz))))
    · exact .inl (.inr (.inr (.inr (.inr hz))))
theorem Tb.turnParty {t a b : Nat} {ml : MLk} {cl : Nat} {mp : MPt} {cp : Nat} {F1 F2 : Nat → Prop} {H : Heap} {nx : Nat} (h : Tb t a b ml cl mp cp F1 F2 H) (hu : ∀ b vo, H.at' b = some vo → b < nx) {o n : Nat} {ks : List ByteArray} {w : ByteArray} (hg : kget mp o = some (n, (ks, w))) :
    ∃ r, H.at' n = some (newCells 72 [.slu r 0 ks.length, .sc (.string w)]) ∧ H.at' r = some (sR false ks) ∧ n ≠ r ∧ n < nx ∧ r < nx ∧ F2 n ∧ F2 r ∧
      ∀ {H' : Heap} {nx' r' : Nat} (ks' : List ByteArray) (w' : ByteArray), nx ≤ nx' → (nx ≤ r' ∨ r' = r) → H'.at' n = some (newCells 72 [.slu r' 0 ks'.length, .sc (.string w')]) → H'.at' r' = some (sR false ks') → (∀ z, z < nx → z ≠ n → z ≠ r → H'.at' z = H.at' z) →
        ∃ F2', Tb t a b ml cl (kput mp o (n, (ks', w')) cp) cp F1 F2' H' ∧ Step (All t a b F1 F2) (All t a b F1 F2') H nx H' nx' := by
  obtain ⟨ut, ua, ub, u1, u2⟩ := h.lt hu
  obtain ⟨r, G, g1, g2, g3, g4, g5, g6, g7, n1, n2, n3, n4, r1, r2, r3, r4⟩ := h.party hg
  have hGF : ∀ z, G z → F2 z := fun z hz => (g7 z).2 (.inr hz)
  have fn : F2 n := (g7 n).2 (.inl (.inl rfl))
  have fr' : F2 r := (g7 r).2 (.inl (.inr rfl))
  have ln := u2 _ fn
  have lr := u2 _ fr'
  refine ⟨r, g1, g2, g3, ln, lr, fn, fr', fun {H' nx' r'} ks' w' hle hr' e1 e2 fr => ⟨fun z => (z = n ∨ z = r') ∨ G z, h.putParty hg g4 hGF fn g5 ⟨r', e1, e2, by rcases hr' with q | q <;> omega, fun z => Iff.rfl⟩ ?_ fun z hz => ?_, hle, fun z hz => ?_, fun z hz hf => fr z hz (fun e => hf (.inr (.inr (.inr (.inr (e ▸ fn)))))) (fun e => hf (.inr (.inr (.inr (.inr (e ▸ fr'))))))⟩⟩
  · rcases hr' with q | q
    · exact ⟨by omega, by omega, by omega, fun e => by have := u2 _ (hGF _ e); omega, fun e => by have := u1 _ e; omega⟩
    · subst q
      exact ⟨r1, r2, r3, g6, r4⟩
  · rcases hz with rfl | rfl | rfl | hz | hz
    · exact fr _ ut (Ne.symm n1) (Ne.symm r1)
    · exact fr _ ua (Ne.symm n2) (Ne.symm r2)
    · exact fr _ ub (Ne.symm n3) (Ne.symm r3)
    · exact fr _ (u2 _ (hGF _ hz)) (fun e => g5 (e ▸ hz)) (fun e => g6 (e ▸ hz))
    · exact fr _ (u1 _ hz) (fun e => n4 (e ▸ hz)) (fun e => r4 (e ▸ hz))
  · rcases hz with hz | hz | hz | hz | ((hz | hz) | hz)
    · exact .inl (.inl hz)
    · exact .inl (.inr (.inl hz))
    · exact .inl (.inr (.inr (.inl hz)))
    · exact .inl (.inr (.inr (.inr (.inl hz))))
    · exact .inl (.inr (.inr (.inr (.inr (hz ▸ fn)))))
    · rcases hr' with q | q
      · exact .inr (by omega)
      · exact .inl (.inr (.inr (.inr (.inr ((hz.trans q) ▸ fr')))))
    · exact .inl (.inr (.inr (.inr (.inr (hGF z hz)))))
theorem Tb.turnLock {t a b : Nat} {ml : MLk} {cl : Nat} {mp : MPt} {cp : Nat} {F1 F2 : Nat → Prop} {H : Heap} {nx : Nat} (h : Tb t a b ml cl mp cp F1 F2 H) (hu : ∀ b vo, H.at' b = some vo → b < nx) {k : ByteArray} {n o : Nat} {l : List Nat} (hg : kget ml k = some (n, (o, l))) :
    ∃ r, H.at' n = some (newCells 75 [.sc (.int .u64 (o : Int)), .slu r 0 l.length]) ∧ H.at' r = some (uR false l) ∧ n ≠ r ∧ n < nx ∧ r < nx ∧ F1 n ∧ F1 r ∧
      ∀ {H' : Heap} {nx' r' : Nat} (o' : Nat) (l' : List Nat), nx ≤ nx' → (nx ≤ r' ∨ r' = r) → H'.at' n = some (newCells 75 [.sc (.int .u64 (o' : Int)), .slu r' 0 l'.length]) → H'.at' r' = some (uR false l') → (∀ z, z < nx → z ≠ n → z ≠ r → H'.at' z = H.at' z) →
        ∃ F1', Tb t a b (kput ml k (n, (o', l')) cl) cl mp cp F1' F2 H' ∧ Step (All t a b F1 F2) (All t a b F1' F2) H nx H' nx' := by
  obtain ⟨ut, ua, ub, u1, u2⟩ := h.lt hu
  obtain ⟨r, G, g1, g2, g3, g4, g5, g6, g7, n1, n2, n3, n4, r1, r2, r3, r4⟩ := h.lock hg
  have hGF : ∀ z, G z → F1 z := fun z hz => (g7 z).2 (.inr hz)
  have fn : F1 n := (g7 n).2 (.inl (.inl rfl))
  have fr' : F1 r := (g7 r).2 (.inl (.inr rfl))
  have ln := u1 _ fn
  have lr := u1 _ fr'
  refine ⟨r, g1, g2, g3, ln, lr, fn, fr', fun {H' nx' r'} o' l' hle hr' e1 e2 fr => ⟨fun z => (z = n ∨ z = r') ∨ G z, h.putLock hg g4 hGF fn g5 ⟨r', e1, e2, by rcases hr' with q | q <;> omega, fun z => Iff.rfl⟩ ?_ fun z hz => ?_, hle, fun z hz => ?_, fun z hz hf => fr z hz (fun e => hf (.inr (.inr (.inr (.inl (e ▸ fn)))))) (fun e => hf (.inr (.inr (.inr (.inl (e ▸ fr'))))))⟩⟩
  · rcases hr' with q | q
    · exact ⟨by omega, by omega, by omega, fun e => by have := u1 _ (hGF _ e); omega, fun e => by have := u2 _ e; omega⟩
    · subst q
      exact ⟨r1, r2, r3, g6, r4⟩
  · rcases hz with rfl | rfl | rfl | hz | hz
    · exact fr _ ut (Ne.symm n1) (Ne.symm r1)
    · exact fr _ ua (Ne.symm n2) (Ne.symm r2)
    · exact fr _ ub (Ne.symm n3) (Ne.symm r3)
    · exact fr _ (u1 _ (hGF _ hz)) (fun e => g5 (e ▸ hz)) (fun e => g6 (e ▸ hz))
    · exact fr _ (u2 _ hz) (fun e => n4 (e ▸ hz)) (fun e => r4 (e ▸ hz))
  · rcases hz with hz | hz | hz | ((hz | hz) | hz) | hz
    · exact .inl (.inl hz)
    · exact .inl (.inr (.inl hz))
    · exact .inl (.inr (.inr (.inl hz)))
    · exact .inl (.inr (.inr (.inr (.inl (hz ▸ fn)))))
    · rcases hr' with q | q
      · exact .inr (by omega)
      · exact .inl (.inr (.inr (.inr (.inl ((hz.trans q) ▸ fr')))))
    · exact .inl (.inr (.inr (.inr (.inl (hGF z hz)))))
    · exact .inl (.inr (.inr (.inr (.inr hz))))
end Go.Proofs.Ytckajlllkmkniaa
end
section
namespace Go.Sy
open Go Go.Sl Go.RowKit
section
variable {P : Program} {T : Tr SV} {H : Heap} {nx : Nat} {d : Option Tmp} {ty : TypeId} {pos : String} {af : Array Edge} {gd : Option (Nat × Bool)}
theorem y_fixcap {ro : Option Nat} {fn nt : Nat} {T : Tr SV} {k : List AIt} {dfs : List ADf} {H : Heap} {nx : Nat} {Q : Pst} {t r n ne sz : Nat} {rr : Bool} {rt : TypeId} {c : Tr SV} (hT : T.at' t = some (.slu r 0 n)) (hb : H.at' r = some (.row rr ne sz rt c)) (h0 : 0 < ne) (hn : n ≤ ne)
    (h : ∀ C, ne ≤ C → Wp P ro ⟨fn, nt, T.set t (.sl r 0 n C), k, dfs, H, nx⟩ (fun q => ∃ m, q.1 = .sl r 0 m C ∧ Q (.slu r 0 m, q.2))) : Wp P ro ⟨fn, nt, T, k, dfs, H, nx⟩ Q := by
  refine ⟨fun K w0 e w tmps todo ds kd rof cs hS hTr htd hds hc2 => ?_⟩
  obtain ⟨z, hz, hlz⟩ := hS.rel _ _ hb
  obtain ⟨g1, g2, g3, g4⟩ := Lies.row hlz
  have hnil := g3 h0
  have hT2 : TRel e nt (T.set t (.sl r 0 n z.cap)) tmps := by
    refine ⟨hTr.1, fun t' u hs => ?_⟩
    rcases Tr.at_set hs with ⟨rfl, rfl⟩ | ⟨_, hs⟩
    · obtain ⟨v, f1, f2⟩ := hTr.2 _ _ hT
      refine ⟨v, ?_, f2⟩
      rw [← f1]
      simp [SV.conc, hz, Ent.at_some hnil]
    · exact hTr.2 _ _ hs
  obtain ⟨q, ⟨m, hq, hQ⟩, e', w', v, hle, hSt, hcv, hm⟩ := (h z.cap g4).run K w0 e w tmps todo ds kd rof cs hS hT2 htd hds hc2
  refine ⟨(.slu r 0 m, q.2), hQ, e', w', v, hle, hSt, ?_, hm⟩
  rw [hq] at hcv
  rw [← hcv]
  have hz' := hle _ _ hz
  simp [SV.conc, hz', Ent.at_some hnil]
theorem rd_cutS {t el : TypeId} {x : Operand} {lo hi : Option Operand} {b o n C l h o' : Nat} (hu : P.underlying t = some (.slice el)) (hs : sizeT P el = some 1) (hx : evalS T x = some (.sl b o n C)) (hl : BdIs T 0 lo l) (hh : BdIs T n hi h) (h1 : l ≤ h) (h2 : h ≤ C) (ho : (if C = l then o else o + l) = o') : ReadDoes P T H ⟨d, .slice t x lo hi none, ty, pos, af, gd⟩ (.sl b o' (h - l) (C - l)) := by
  refine rd_of ?_
  unfold BdIs at hl hh
  have hmx : natOr T C none = some C := rfl
  simp only [readOp, hx, Option.bind_some, sliceS, hu, hs, hl, hh, hmx]
  rw [show Nat.ble l h = true from Nat.ble_eq_true_of_le h1, show Nat.ble h C = true from Nat.ble_eq_true_of_le h2, show Nat.ble C C = true from Nat.ble_eq_true_of_le (Nat.le_refl _)]
  subst ho
  by_cases hc : C = l
  · subst hc; simp
  · have : Nat.beq C l = false := by cases hq : Nat.beq C l with | false => rfl | true => exact absurd (Nat.eq_of_beq_eq_true hq) hc
    simp [this, hc]
theorem rd_cut3 {t el : TypeId} {x : Operand} {lo hi mx : Operand} {b o n C l h m : Nat} (hu : P.underlying t = some (.slice el)) (hs : sizeT P el = some 1) (hx : evalS T x = some (.sl b o n C)) (hl : BdIs T 0 (some lo) l) (hh : BdIs T n (some hi) h) (hm : BdIs T C (some mx) m) (h1 : l ≤ h) (h2 : h ≤ m) (h3 : m ≤ C) : ReadDoes P T H ⟨d, .slice t x (some lo) (some hi) (some mx), ty, pos, af, gd⟩ (.sl b (bif Nat.beq m l then o else o + l * 1) (h - l) (m - l)) := by
  refine rd_of ?_
  unfold BdIs at hl hh hm
  simp only [readOp, hx, Option.bind_some, sliceS, hu, hs, hl, hh, hm]
  rw [show Nat.ble l h = true from Nat.ble_eq_true_of_le h1, show Nat.ble h m = true from Nat.ble_eq_true_of_le h2, show Nat.ble m C = true from Nat.ble_eq_true_of_le h3]
  simp
theorem rd_lenS {t : TypeId} {e : TypeId} {x : Operand} {b o n C : Nat} (hu : P.underlying t = some (.slice e)) (hx : evalS T x = some (.sl b o n C)) : ReadDoes P T H ⟨d, .call { callee := .builtin .len, args := #[x], argTypes := #[t] }, ty, pos, af, gd⟩ (.sc (.int .i64 n)) := by
  refine rd_of ?_
  simp only [readOp, lenCall, hx, Option.bind_some, lenS, hu]
theorem rdv_sl {o n ne C b : Nat} {ro : Bool} {t : TypeId} {vs us : List Value} (hb : H.at' b = some (dat ro ne 1 t vs)) (hn : o + n ≤ ne) (hu : (vs.drop o).take n = us) (hl : us.length = n) : RdV P H 1 (.sl b o n C) n us := by
  unfold RdV
  simp only [sliceCells, hb]
  subst hu
  have := cellsFrom_dat (ro := ro) (ne := ne) (sz := 1) (t := t) (vs := vs) (n * 1) o rfl (by rw [Nat.mul_one]; exact hl) (by omega)
  rw [this, Nat.mul_one]
  rfl
theorem op_joinS {t tx el : TypeId} {m b o n C ne : Nat} {rt : TypeId} {s x : Operand} {v : SV} {us vs ws : List Value} (hu : P.underlying t = some (.slice el)) (hk : (∃ e', P.underlying tx = some (.slice e')) ∨ P.underlying tx = some .string) (hs : sizeT P el = some 1)
    (hx0 : evalS T s = some (.sl b o n C)) (hx : evalS T x = some v) (hb : H.at' b = some (dat false ne 1 rt us)) (hr : RdV P H 1 v m vs) (h1 : oneV vs) (hm : n + m ≤ C) (hne : o + n + m ≤ ne) (hvl : vs.length = m) (hul : us.length = ne) (hws : us.take (o + n) ++ vs ++ us.drop (o + n + m) = ws) :
    OpDoes P T H nx ⟨d, .call { callee := .builtin .append, args := #[s, x], argTypes := #[t, tx] }, ty, pos, af, gd⟩ (.val (.sl b o (n + m) C), H.set b (dat false ne 1 rt ws), nx) := by
  have hap : appendS P H nx el (.sl b o n C) v = some (.val (.sl b o (n + m) C), H.set b (dat false ne 1 rt ws), nx) := by
    unfold appendS
    rw [hs]
    simp only
    rw [show sliceCells H 1 v = some (m, vs.map .sc) from hr]
    simp only [allOne_sc h1, Bool.not_true, cond_false]
    rw [show Nat.ble (n + m) C = true from Nat.ble_eq_true_of_le hm, hb]
    simp only [cond_true, Nat.mul_one]
    rw [setCells_dat vs us (o + n) (by omega) (by omega) h1, hvl, hws]
  refine ed_of ?_
  rcases hk with ⟨e', hk⟩ | hk <;> simp only [effOp, evalL, hx0, hx, Option.bind_some, builtinS, appendAt, hu, hk, hap]
theorem op_clearS {t el : TypeId} {b o n C ne : Nat} {rt : TypeId} {x : Operand} {z : Value} {us ws : List Value} (hu : P.underlying t = some (.slice el)) (hz : zeroT P el = some z) (hx : evalS T x = some (.sl b o (n + 1) C)) (hb : H.at' b = some (dat false ne 1 rt us)) (hne : o + (n + 1) ≤ ne) (hul : us.length = ne) (hzl : (Builtin.zeroCells z.cells (n + 1)).size = n + 1) (h1 : oneV (Builtin.zeroCells z.cells (n + 1)).toList) (hws : us.take o ++ (Builtin.zeroCells z.cells (n + 1)).toList ++ us.drop (o + (n + 1)) = ws) :
    OpDoes P T H nx ⟨d, .call { callee := .builtin .clear, args := #[x], argTypes := #[t] }, ty, pos, af, gd⟩ (.val (.sc (.tuple #[])), H.set b (dat false ne 1 rt ws), nx) := by
  have hcl : clearS P H nx t (.sl b o (n + 1) C) = some (.val (.sc (.tuple #[])), H.set b (dat false ne 1 rt ws), nx) := by
    simp only [clearS, hu, hz, storeS, hb, zerosL]
    rw [setCells_dat (Builtin.zeroCells z.cells (n + 1)).toList us o (by rw [Array.length_toList]; omega) (by rw [Array.length_toList]; omega) h1, Array.length_toList, hzl, hws]
  refine ed_of ?_
  simp only [effOp, evalL, hx, Option.bind_some, builtinS, hcl]
end
section
variable {P : Program} {ro : Option Nat} {fn nt nx : Nat} {T : Tr SV} {k : List AIt} {dfs : List ADf} {H : Heap} {Q : Pst} {ops : Array Oper} {i : Nat} {l : List Oper} {d : Option Tmp} {ty : TypeId} {pos : String} {af : Array Edge} {gd : Option (Nat × Bool)}
theorem w_cutS {t el : TypeId} {x : Operand} {lo hi : Option Operand} {b o n C lw hg o' : Nat} {dd : Nat} (hw : wantedS T ops ⟨some dd, .slice t x lo hi none, ty, pos, af, gd⟩ = some true) (hd : Nat.blt dd nt = true) (hx : evalS T x = some (.sl b o n C)) (hu : P.underlying t = some (.slice el)) (hs : sizeT P el = some 1) (hl : BdIs T 0 lo lw) (hh : BdIs T n hi hg) (h1 : lw ≤ hg) (h2 : hg ≤ C) (ho : (if C = lw then o else o + lw) = o')
    (h : Wp P ro ⟨fn, nt, T.set dd (.sl b o' (hg - lw) (C - lw)), .inReg ops (i + 1) l :: k, dfs, H, nx⟩ Q) : Wp P ro ⟨fn, nt, T, .inReg ops i (⟨some dd, .slice t x lo hi none, ty, pos, af, gd⟩ :: l) :: k, dfs, H, nx⟩ Q :=
  y_val hw (.inr (fun _ h => by cases h)) ((rd_cutS hu hs hx hl hh h1 h2 ho).does) (by rw [putS_some hd]; exact h)
theorem w_cut3 {t el : TypeId} {x lo hi mx : Operand} {b o n C lw hg m : Nat} {dd : Nat} (hw : wantedS T ops ⟨some dd, .slice t x (some lo) (some hi) (some mx), ty, pos, af, gd⟩ = some true) (hd : Nat.blt dd nt = true) (hx : evalS T x = some (.sl b o n C)) (hu : P.underlying t = some (.slice el)) (hs : sizeT P el = some 1) (hl : BdIs T 0 (some lo) lw) (hh : BdIs T n (some hi) hg) (hm : BdIs T C (some mx) m) (h1 : lw ≤ hg) (h2 : hg ≤ m) (h3 : m ≤ C)
    (h : Wp P ro ⟨fn, nt, T.set dd (.sl b (bif Nat.beq m lw then o else o + lw * 1) (hg - lw) (m - lw)), .inReg ops (i + 1) l :: k, dfs, H, nx⟩ Q) : Wp P ro ⟨fn, nt, T, .inReg ops i (⟨some dd, .slice t x (some lo) (some hi) (some mx), ty, pos, af, gd⟩ :: l) :: k, dfs, H, nx⟩ Q :=
  y_val hw (.inr (fun _ h => by cases h)) ((rd_cut3 hu hs hx hl hh hm h1 h2 h3).does) (by rw [putS_some hd]; exact h)
theorem w_lenS {t e : TypeId} {x : Operand} {b o n C : Nat} {dd : Nat} (hw : wantedS T ops ⟨some dd, .call { callee := .builtin .len, args := #[x], argTypes := #[t] }, ty, pos, af, gd⟩ = some true) (hd : Nat.blt dd nt = true) (hx : evalS T x = some (.sl b o n C)) (hu : P.underlying t = some (.slice e))
    (h : Wp P ro ⟨fn, nt, T.set dd (.sc (.int .i64 n)), .inReg ops (i + 1) l :: k, dfs, H, nx⟩ Q) : Wp P ro ⟨fn, nt, T, .inReg ops i (⟨some dd, .call { callee := .builtin .len, args := #[x], argTypes := #[t] }, ty, pos, af, gd⟩ :: l) :: k, dfs, H, nx⟩ Q :=
  y_val hw (.inr (fun _ h => by cases h)) ((rd_lenS hu hx).does) (by rw [putS_some hd]; exact h)
end
section
variable {P : Program} {nt nx : Nat} {T : Tr SV} {H : Heap} {ops : Array Oper} {i : Nat} {l : List Oper} {ty : TypeId} {pos : String} {af : Array Edge} {gd : Option (Nat × Bool)} {K : DS → Prop} {rs : List Rec} {Hs : List (Heap × Nat)} {stg : Nat}
theorem dw_cutS {t el : TypeId} {x : Operand} {lo hi : Option Operand} {b o n C lw hg o' : Nat} {dd : Nat} (hw : wantedS (onlyT T (needs ops.toList ⟨some dd, .slice t x lo hi none, ty, pos, af, gd⟩)) ops ⟨some dd, .slice t x lo hi none, ty, pos, af, gd⟩ = some true) (hd : Nat.blt dd nt = true) (hx : evalS (onlyT T (needs ops.toList ⟨some dd, .slice t x lo hi none, ty, pos, af, gd⟩)) x = some (.sl b o n C)) (hu : P.underlying t = some (.slice el)) (hs : sizeT P el = some 1) (hl : BdIs (onlyT T (needs ops.toList ⟨some dd, .slice t x lo hi none, ty, pos, af, gd⟩)) 0 lo lw) (hh : BdIs (onlyT T (needs ops.toList ⟨some dd, .slice t x lo hi none, ty, pos, af, gd⟩)) n hi hg) (h1 : lw ≤ hg) (h2 : hg ≤ C) (ho : (if C = lw then o else o + lw) = o')
    (h : DrawK P nt ops (i + 1) l ⟨T.set dd (.sl b o' (hg - lw) (C - lw)), H, nx, ⟨i, ⟨some dd, .slice t x lo hi none, ty, pos, af, gd⟩, (onlyT T (needs ops.toList ⟨some dd, .slice t x lo hi none, ty, pos, af, gd⟩)), stg, false, true, (.sl b o' (hg - lw) (C - lw))⟩ :: rs, Hs, stg⟩ K) : DrawK P nt ops i (⟨some dd, .slice t x lo hi none, ty, pos, af, gd⟩ :: l) ⟨T, H, nx, rs, Hs, stg⟩ K :=
  dk_read hw hd (fun _ h => by cases h) (rd_cutS hu hs hx hl hh h1 h2 ho) h
theorem dw_joinS {t tx el : TypeId} {m b o n C ne : Nat} {rt : TypeId} {s x : Operand} {v : SV} {us vs ws : List Value} {dd : Nat} (hw : wantedS (onlyT T (needs ops.toList ⟨some dd, .call { callee := .builtin .append, args := #[s, x], argTypes := #[t, tx] }, ty, pos, af, gd⟩)) ops ⟨some dd, .call { callee := .builtin .append, args := #[s, x], argTypes := #[t, tx] }, ty, pos, af, gd⟩ = some true) (hd : Nat.blt dd nt = true) (hx0 : evalS (onlyT T (needs ops.toList ⟨some dd, .call { callee := .builtin .append, args := #[s, x], argTypes := #[t, tx] }, ty, pos, af, gd⟩)) s = some (.sl b o n C)) (hx : evalS (onlyT T (needs ops.toList ⟨some dd, .call { callee := .builtin .append, args := #[s, x], argTypes := #[t, tx] }, ty, pos, af, gd⟩)) x = some v) (hu : P.underlying t = some (.slice el)) (hk : (∃ e', P.underlying tx = some (.slice e')) ∨ P.underlying tx = some .string) (hs : sizeT P el = some 1) (hb : H.at' b = some (dat false ne 1 rt us)) (hr : RdV P H 1 v m vs) (h1 : oneV vs) (hm : n + m ≤ C) (hne : o + n + m ≤ ne) (hvl : vs.length = m) (hul : us.length = ne) (hws : us.take (o + n) ++ vs ++ us.drop (o + n + m) = ws)
    (h : DrawK P nt ops (i + 1) l ⟨T.set dd (.sl b o (n + m) C), (H.set b (dat false ne 1 rt ws)), nx, ⟨i, ⟨some dd, .call { callee := .builtin .append, args := #[s, x], argTypes := #[t, tx] }, ty, pos, af, gd⟩, (onlyT T (needs ops.toList ⟨some dd, .call { callee := .builtin .append, args := #[s, x], argTypes := #[t, tx] }, ty, pos, af, gd⟩)), stg, true, true, (.sl b o (n + m) C)⟩ :: rs, ((H.set b (dat false ne 1 rt ws)), nx) :: Hs, stg + 1⟩ K) : DrawK P nt ops i (⟨some dd, .call { callee := .builtin .append, args := #[s, x], argTypes := #[t, tx] }, ty, pos, af, gd⟩ :: l) ⟨T, H, nx, rs, Hs, stg⟩ K :=
  dk_val hw hd (fun _ h => by cases h) (op_joinS hu hk hs hx0 hx hb hr h1 hm hne hvl hul hws) h
end
theorem w_clearN {P : Program} {ro : Option Nat} {fn nt nx : Nat} {T : Tr SV} {k : List AIt} {dfs : List ADf} {H : Heap} {Q : Pst} {ops : Array Oper} {i : Nat} {l : List Oper} {ty : TypeId} {pos : String} {af : Array Edge} {gd : Option (Nat × Bool)} {t el : TypeId} {b o n C ne : Nat} {rt : TypeId} {x : Operand} {z : Value} {us ws : List Value} (hw : wantedS T ops ⟨none, .call { callee := .builtin .clear, args := #[x], argTypes := #[t] }, ty, pos, af, gd⟩ = some true) (hx : evalS T x = some (.sl b o (n + 1) C)) (hu : P.underlying t = some (.slice el)) (hz : zeroT P el = some z) (hb : H.at' b = some (dat false ne 1 rt us)) (hne : o + (n + 1) ≤ ne) (hul : us.length = ne) (hzl : (Builtin.zeroCells z.cells (n + 1)).size = n + 1) (h1 : oneV (Builtin.zeroCells z.cells (n + 1)).toList) (hws : us.take o ++ (Builtin.zeroCells z.cells (n + 1)).toList ++ us.drop (o + (n + 1)) = ws)
    (h : Wp P ro ⟨fn, nt, T, .inReg ops (i + 1) l :: k, dfs, H.set b (dat false ne 1 rt ws), nx⟩ Q) : Wp P ro ⟨fn, nt, T, .inReg ops i (⟨none, .call { callee := .builtin .clear, args := #[x], argTypes := #[t] }, ty, pos, af, gd⟩ :: l) :: k, dfs, H, nx⟩ Q :=
  y_val hw (.inr (fun _ h => by cases h)) (op_clearS hu hz hx hb hne hul hzl h1 hws) h
end Go.Sy
end
section
namespace Go.Proofs.Ytckajlllkmkniaa
open Go Go.Sy Go.Sl Go.RowKit
def idxU (l : List Nat) (o : Nat) : Int := if o ∈ l then ((l.idxOf o : Nat) : Int) else -1
theorem mapu (l : List Nat) : (l.flatMap uV) = l.map (fun n : Nat => Value.int .u64 (n : Int)) := by
  induction l with
  | nil => rfl
  | cons a l ih => rw [List.flatMap_cons, ih]; rfl
theorem get_u {l : List Nat} {i : Nat} (hi : i < l.length) : (l.flatMap uV)[i * 1]? = some (.int .u64 ((l[i] : Nat) : Int)) := by
  rw [mapu, Nat.mul_one, List.getElem?_map, List.getElem?_eq_getElem hi]; rfl
theorem idx_found {l : List Nat} {o i : Nat} (hi : i < l.length) (h1 : o ∉ l.take i) (h2 : l[i] = o) : idxU l o = (i : Int) := by
  have hm : o ∈ l := h2 ▸ List.getElem_mem hi
  have hl : l = l.take i ++ l[i] :: l.drop (i + 1) := by simp
  unfold idxU
  rw [if_pos hm]
  have : l.idxOf o = i := by
    rw [hl, List.idxOf_append, if_neg h1, h2]
    simp
    omega
  rw [this]
theorem idx_out {l : List Nat} {o : Nat} (h1 : o ∉ l) : idxU l o = -1 := by unfold idxU; rw [if_neg h1]
set_option maxRecDepth 100000 in
set_option maxHeartbeats 0 in
theorem index_u {H : Heap} {nx r : Nat} (l : List Nat) (o : Nat) (hr : H.at' r = some (uR false l)) (hl : l.length < 2000000) : Fnc Try.prog 35 [.slu r 0 l.length, .sc (.int .u64 (o : Int))] H nx (fun q => q = (.sc (.int .i64 (idxU l o)), H, nx)) := by
  refine Fnc.start Try.func35 rfl rfl ?_
  (repeat (first | refine y_seq ?_ | refine w_region ?_ | refine y_regEnd ?_ | refine y_block ?_ | refine w_move rfl rfl rfl ?_ | refine w_assign rfl rfl rfl ?_ | refine w_lenSl rfl rfl rfl (F.un _ rfl) ?_))
  refine y_loopT (α := Nat) (fun i => [(0, .slu r 0 l.length), (1, .sc (.int .u64 (o : Int))), (7, .sc (.int .i64 (l.length : Int))), (8, .sc (.int .i64 (i : Int)))]) (fun i H1 nx1 => H1 = H ∧ nx1 = nx ∧ i ≤ l.length ∧ o ∉ l.take i) (fun i => l.length - i) 0 ⟨rfl, rfl, Nat.zero_le _, by simp⟩ (SlIn.sub (by repeat (first | exact trivial | refine ⟨rfl, ?_⟩))) ?_
  rintro i H1 nx1 ⟨rfl, rfl, hi, hno⟩ again
  (repeat (first | refine y_seq ?_ | refine w_region ?_))
  refine w_lssS rfl rfl rfl rfl ?_ ?_
  all_goals intro h1
  · have hi' : i < l.length := by omega
    (repeat (first | (first | refine y_seq ?_ | refine w_region ?_ | refine y_regEnd ?_ | refine y_block ?_ | refine y_skip ?_ | refine y_condT rfl ?_ | refine w_move rfl rfl rfl ?_ | refine w_assign rfl rfl rfl ?_) | refine w_idxN (q := i) rfl rfl rfl rfl (F.un _ rfl) (F.sz _ rfl) (by (focus (skip; first | exact Tr.at_set_same _ _ _ | assumption))) (by omega) (by first | omega | (simp; done)) (Nat.le_refl _) ?_ | refine w_loadD1 rfl rfl rfl (F.ag _ rfl) (by (focus (skip; first | exact Tr.at_set_same _ _ _ | assumption))) (get_u hi') (by first | omega | (simp; done)) ?_))
    refine w_eqlS rfl rfl rfl rfl ?_ ?_
    all_goals intro h2
    · (repeat (first | refine y_seq ?_ | refine w_region ?_ | refine y_regEnd ?_ | refine y_condT rfl ?_ | refine w_move rfl rfl rfl ?_ | refine w_assign rfl rfl rfl ?_))
      ((apply w_ret Try.func35 (congrArg Array.toList Try.results35)); (focus (repeat (first | exact ResIs.nil | apply ResIs.tmp rfl))))
      rw [idx_found hi' hno (by omega)]
      rfl
    · (repeat (first | refine w_region ?_ | refine y_regEnd ?_ | refine y_inBlock ?_ | refine y_skip ?_ | refine y_condF rfl ?_ | refine w_move rfl rfl rfl ?_ | refine w_add rfl rfl rfl rfl (by omega) (by omega) ?_))
      refine again _ _ _ (i + 1) ⟨rfl, rfl, hi', ?_⟩ (by omega) (SlIn.sub (by repeat (first | exact trivial | refine ⟨rfl, ?_⟩)))
      rw [List.take_succ_eq_append_getElem hi', List.mem_append]
      rintro (h3 | h3)
      · exact hno h3
      · simp at h3
        exact h2 (by omega)
  · (repeat (first | refine y_seq ?_ | refine w_region ?_ | refine y_regEnd ?_ | refine y_exit rfl ?_ | refine y_condF rfl ?_ | refine w_assign rfl rfl rfl ?_))
    ((apply w_ret Try.func35 (congrArg Array.toList Try.results35)); (focus (repeat (first | exact ResIs.nil | apply ResIs.tmp rfl))))
    rw [idx_out (by rwa [List.take_of_length_le (by omega)] at hno)]
    rfl
theorem bd_nat {T : Tr SV} {dflt n : Nat} {o : Operand} {k : IntKind} {j : Int} (h : evalS T o = some (.sc (.int k j))) (hj : j = (n : Int)) : BdIs T dflt (some o) n := by
  subst hj
  exact bd_some h (by omega)
theorem del_row (l : List Nat) (i : Nat) (hi : i < l.length) (R z Y : List Value) : (((l.flatMap uV).take (0 + i) ++ (l.drop (i + 1)).flatMap uV ++ R).take (0 + (i + (l.length - (i + 1)))) ++ z ++ Y).take ((l.length - 1) * 1) = (l.eraseIdx i).flatMap uV := by
  have ha : ((l.flatMap uV).take (0 + i) ++ (l.drop (i + 1)).flatMap uV).length = l.length - 1 := by
    rw [mapu, mapu]; simp; omega
  have e : (l.eraseIdx i).flatMap uV = (l.flatMap uV).take (0 + i) ++ (l.drop (i + 1)).flatMap uV := by
    rw [List.eraseIdx_eq_take_drop_succ, mapu, mapu, mapu, Nat.zero_add]; simp
  rw [e]
  generalize (l.flatMap uV).take (0 + i) ++ (l.drop (i + 1)).flatMap uV = A at ha
  rw [List.take_append_of_le_length (l₁ := A) (by omega), List.take_of_length_le (l := A) (by omega), List.append_assoc, List.take_append_of_le_length (by omega), List.take_of_length_le (by omega)]
def DelU (l : List Nat) (i : Nat) (r : Nat) (H : Heap) (nx : Nat) : Pst := fun q => q.1 = .slu r 0 (l.eraseIdx i).length ∧ q.2.1.at' r = some (uR false (l.eraseIdx i)) ∧ q.2.2 = nx ∧ ∀ n, n ≠ r → q.2.1.at' n = H.at' n
set_option maxRecDepth 100000 in
set_option maxHeartbeats 0 in
theorem delete_u {H : Heap} {nx r : Nat} (l : List Nat) (i : Nat) (hr : H.at' r = some (uR false l)) (hl : l.length < 2000000) (hi : i < l.length) : Fnc Try.prog 36 [.slu r 0 l.length, .sc (.int .i64 (i : Int)), .sc (.int .i64 ((i : Int) + 1))] H nx (DelU l i r H nx) := by
  refine Fnc.start Try.func36 rfl rfl ?_
  refine y_fixcap (t := 0) rfl hr (by omega) (Nat.le_refl _) fun C hC => ?_
  (repeat (first | (first | refine y_seq ?_ | refine w_region ?_ | refine y_regEnd ?_ | refine w_move rfl rfl rfl ?_ | refine w_assign rfl rfl rfl ?_) | refine w_lenS rfl rfl rfl (F.un _ rfl) ?_ | refine w_cut3 (lw := i) (hg := i + 1) (m := l.length) rfl rfl rfl (F.un _ rfl) (F.sz _ rfl) (bd_nat rfl rfl) (bd_nat rfl (by omega)) (bd_nat rfl rfl) (by omega) (by omega) (by omega) ?_))
  refine w_eqlS rfl rfl rfl rfl ?_ ?_
  · intro h; omega
  intro _
  (repeat (first | (first | refine y_seq ?_ | refine w_region ?_ | refine y_regEnd ?_ | refine y_skip ?_ | refine y_condF rfl ?_ | refine w_move rfl rfl rfl ?_ | refine w_assign rfl rfl rfl ?_) | refine w_lenS rfl rfl rfl (F.un _ rfl) ?_))
  refine w_draw (by kernel_rfl) (by kernel_rfl) ?_
  have hfl : (l.flatMap uV).length = l.length := by rw [mapu, List.length_map]
  have hfd : ((l.drop (i + 1)).flatMap uV).length = l.length - (i + 1) := by rw [mapu, List.length_map, List.length_drop]
  have hrd : (((l.flatMap uV).drop (if C = i + 1 then 0 else 0 + (i + 1))).take (l.length - (i + 1))) = (l.drop (i + 1)).flatMap uV := by
    by_cases hc : C = i + 1
    · have e : l.length - (i + 1) = 0 := by omega
      rw [e, List.take_zero]
      exact (List.eq_nil_of_length_eq_zero (by omega)).symm
    · rw [if_neg hc, Nat.zero_add, List.take_of_length_le (by rw [List.length_drop]; omega), mapu, mapu, List.map_drop]
  (repeat (first | (first | refine dw_move rfl rfl rfl ?_ | refine dw_assign rfl rfl rfl ?_) | refine dw_cutS (lw := 0) (hg := i) (o' := 0) rfl rfl rfl (F.un _ rfl) (F.sz _ rfl) bd_none (bd_nat rfl rfl) (by omega) (by omega) (by simp) ?_ | refine dw_cutS (lw := i + 1) (hg := l.length) (o' := if C = i + 1 then 0 else 0 + (i + 1)) rfl rfl rfl (F.un _ rfl) (F.sz _ rfl) (bd_nat rfl (by omega)) bd_none (by omega) (by omega) rfl ?_ | refine dw_joinS (m := l.length - (i + 1)) (n := i) (o := 0) (us := l.flatMap uV) (vs := (l.drop (i + 1)).flatMap uV) rfl rfl rfl rfl (F.un _ rfl) (.inl ⟨_, F.un _ rfl⟩) (F.sz _ rfl) (by (focus (skip; first | exact Tr.at_set_same _ _ _ | assumption))) (rdv_sl (by (focus (skip; first | exact Tr.at_set_same _ _ _ | assumption))) (by split <;> omega) hrd hfd) (one_rec recU _) (by omega) (by omega) hfd hfl rfl ?_))
  (refine dk_nil ?_); (refine ⟨by kernel_rfl, ?_, ?_⟩); (focus (repeat (first | exact trivial | refine ⟨.inl rfl, ?_⟩ | refine ⟨.inr (by (repeat (refine ⟨(by first | exact rd_not rfl | exact rd_cmp rfl rfl (.inr (.inr (.inr (.inr (.inl ⟨rfl, rfl⟩))))) | exact rd_idxN (F.un _ rfl) (F.sz _ rfl) rfl rfl rfl (by omega) (by omega) (by omega) | exact rd_arith rfl rfl (.inl ⟨rfl, (Go.IntWalk.i64_in _ ⟨by omega, by omega⟩).symm⟩) | exact rd_arith rfl rfl (.inr (.inl ⟨rfl, (Go.IntWalk.i64_in _ ⟨by omega, by omega⟩).symm⟩)) | exact rd_fieldAddr (F.fo _ _ rfl rfl) rfl | exact rd_move rfl | exact rd_assign rfl | exact rd_load1 (F.ag _ rfl) rfl rfl (cell_box rfl) | exact rd_loadN (F.ag _ rfl) rfl rfl (cellsFrom_box _ 0 rfl rfl) | exact rd_extract rfl rfl | exact rd_lenSl (F.un _ rfl) rfl | exact rd_lenStr (F.un _ rfl) rfl | exact rd_nilCheck rfl | exact rd_pickT rfl rfl | exact rd_pickF rfl rfl), ?_⟩)); exact trivial), ?_⟩ | refine ⟨.inl (by kernel_rfl), ?_⟩)))
  dsimp only [wrL]
  have hm : i + (l.length - (i + 1)) = l.length - 1 := by omega
  have h1l : l.length - (l.length - 1) = 0 + 1 := by omega
  rw [hm]
  (repeat (first | (first | refine y_seq ?_ | refine w_region ?_ | refine w_move rfl rfl rfl ?_) | refine w_lenS rfl rfl rfl (F.un _ rfl) ?_ | refine w_cutS (lw := l.length - 1) (hg := l.length) (o' := 0 + (l.length - 1)) rfl rfl rfl (F.un _ rfl) (F.sz _ rfl) (bd_nat rfl rfl) (bd_nat rfl rfl) (by omega) (by omega) (if_neg (by omega)) ?_))
  rw [h1l]
  have hzc : Builtin.zeroCells (Value.int .u64 0).cells (0 + 1) = #[Value.int .u64 0] := by
    simp [Builtin.zeroCells, Value.cells]
    exact ⟨0, by decide, rfl⟩
  refine w_clearN (ne := l.length) rfl rfl (F.un _ rfl) (F.ze _ rfl) (by (focus (skip; first | exact Tr.at_set_same _ _ _ | assumption))) (by omega) ?_ (by rw [hzc]; rfl) (fun v hv => ?_) rfl ?_
  · simp only [List.length_append, List.length_take, List.length_drop, hfd, hfl]
    omega
  · rw [hzc] at hv
    have : v = .int .u64 0 := by simpa using hv
    subst this
    rfl
  (repeat (first | refine y_seq ?_ | refine w_region ?_ | refine y_regEnd ?_ | refine w_move rfl rfl rfl ?_ | refine w_assign rfl rfl rfl ?_))
  refine y_shrink r (l.length - 1) (by (focus (skip; first | exact Tr.at_set_same _ _ _ | assumption))) (by omega) ?_
  ((apply w_ret Try.func36 (congrArg Array.toList Try.results36)); (focus (repeat (first | exact ResIs.nil | apply ResIs.tmp rfl))))
  have hel : (l.eraseIdx i).length = l.length - 1 := by rw [List.length_eraseIdx, if_pos hi]
  refine ⟨l.length - 1, rfl, ?_, ?_, rfl, fun n hn => ?_⟩
  · rw [hel]
  · refine (Tr.at_set_same _ _ _).trans ?_
    rw [show uR false (l.eraseIdx i) = dat false (l.length - 1) 1 23 ((l.eraseIdx i).flatMap uV) by rw [← hel]]
    refine congrArg (fun v => some (dat false (l.length - 1) 1 23 v)) ?_
    have hd := fun z Y => del_row l i hi (List.drop (0 + i + (l.length - (i + 1))) (l.flatMap uV)) z Y
    simp only [hm] at hd
    exact hd _ _
  · exact (Tr.at_set_other _ _ (by omega)).trans ((Tr.at_set_other _ _ (by omega)).trans (Tr.at_set_other _ _ (by omega)))
end Go.Proofs.Ytckajlllkmkniaa
end
section
namespace Go.Proofs.Ytckajlllkmkniaa
open Go Go.Sy Go.Sl Go.RowKit
theorem kget_put_ne {K V : Type} [DecidableEq K] (m : List (K × V × Nat)) (k k' : K) (v : V) (c : Nat) (h : k ≠ k') : kget (kput m k v c) k' = kget m k' := by
  rw [← kv_get, ← kv_get, kv_put, mget_mput, if_neg h]
def Keep (mp mp' : MPt) : Prop := ∀ o n x, kget mp o = some (n, x) → ∃ y, kget mp' o = some (n, y)
theorem Keep.refl (mp : MPt) : Keep mp mp := fun _ _ x h => ⟨x, h⟩
theorem Keep.put {mp : MPt} {w n : Nat} {x : List ByteArray × ByteArray} (hg : kget mp w = some (n, x)) (y : List ByteArray × ByteArray) (c : Nat) : Keep mp (kput mp w (n, y) c) := fun o n' x' h => by
  by_cases e : w = o
  · subst e
    rw [hg] at h
    cases h
    exact ⟨y, kget_put _ _ _ _⟩
  · exact ⟨x', by rw [kget_put_ne _ _ _ _ _ e]; exact h⟩
def ChgB (t a b : Nat) (T' : LT) (mp : MPt) (v : SV) (Fp : Nat → Prop) (H : Heap) (nx : Nat) : Pst := fun q => q.1 = v ∧ ∃ ml' cl' mp' cp' F1' F2', Tb t a b ml' cl' mp' cp' F1' F2' q.2.1 ∧ T' = ltOf ml' mp' ∧ Keep mp mp' ∧ Step Fp (All t a b F1' F2') H nx q.2.1 q.2.2
set_option maxRecDepth 100000 in
set_option maxHeartbeats 0 in
theorem letGo_b {t a b : Nat} {ml : MLk} {cl : Nat} {mp : MPt} {cp : Nat} {F1 F2 : Nat → Prop} {H : Heap} {nx : Nat} (h : Tb t a b ml cl mp cp F1 F2 H) (k : ByteArray) (hs : (ltOf ml mp).safeLetGo k) : Fnc Try.prog 37 [.ptr t 0, .sc (.string k)] H nx (ChgB t a b ((ltOf ml mp).letGo k).1 mp (.sc (.int .u64 (((ltOf ml mp).letGo k).2 : Int))) (All t a b F1 F2) H nx) := by
  have hF : ∀ n, All t a b F1 F2 n ↔ n = t ∨ n = a ∨ n = b ∨ F1 n ∨ F2 n := fun n => Iff.rfl
  obtain ⟨ow, l, s1, s2, s3⟩ := hs
  have htab := h.tab
  have hloc := h.locks
  have s1' := s1
  rw [get_l] at s1
  obtain ⟨⟨n, x⟩, hg, hx⟩ := Option.map_eq_some_iff.1 s1
  simp only at hx
  subst hx
  obtain ⟨r, G, g1, g2, g3, g4, g5, g6, g7, n1, n2, n3, n4, r1, r2, r3, r4⟩ := h.lock hg
  have hne := h.ne
  refine Fnc.start Try.func37 rfl rfl ?_
  refine y_under fun hund => ?_
  (repeat (first | (first | refine y_seq ?_ | refine w_region ?_ | refine y_regEnd ?_ | refine w_move rfl rfl rfl ?_ | refine w_assign rfl rfl rfl ?_ | refine w_nilCheck rfl rfl rfl ?_ | refine w_fieldAddr rfl rfl rfl (F.fo _ _ rfl rfl) ?_ | refine w_loadB1 rfl rfl rfl (F.ag _ rfl) (by (focus (skip; first | exact Tr.at_set_same _ _ _ | assumption))) (by exact rfl) ?_ | refine w_lenSl rfl rfl rfl (F.un _ rfl) ?_) | refine w_lookV (m := ml) (enc := kE) (val := lVal) rfl rfl rfl rfl (F.un _ rfl) (kK) (by first | exact rfl | (focus (skip; first | exact Tr.at_set_same _ _ _ | assumption))) (hg) ?_))
  refine w_eqlS rfl rfl rfl rfl ?_ ?_
  · intro h0
    have : l = [] := List.eq_nil_of_length_eq_zero (by omega)
    subst this
    have hgo : (ltOf ml mp).letGo k = (ltOf (kdel ml k) mp, 0) := by
      rw [mdel_kv_l]
      unfold LT.letGo
      rw [s1']
    rw [hgo]
    (repeat (first | (first | refine y_seq ?_ | refine w_region ?_ | refine y_regEnd ?_ | refine y_condT rfl ?_ | refine w_move rfl rfl rfl ?_ | refine w_assign rfl rfl rfl ?_ | refine w_nilCheck rfl rfl rfl ?_ | refine w_fieldAddr rfl rfl rfl (F.fo _ _ rfl rfl) ?_ | refine w_loadB1 rfl rfl rfl (F.ag _ rfl) (by (focus (skip; first | exact Tr.at_set_same _ _ _ | assumption))) (by exact rfl) ?_) | refine w_mapDelN (m := ml) (enc := kE) (val := lVal) rfl rfl rfl (F.un _ rfl) (kK) (by first | exact rfl | (focus (skip; first | exact Tr.at_set_same _ _ _ | assumption))) ?_))
    ((apply w_ret Try.func37 (congrArg Array.toList Try.results37)); (focus (repeat (first | exact ResIs.nil | apply ResIs.tmp rfl))))
    have hGF : ∀ z, G z → F1 z := fun z hz => (g7 z).2 (.inr hz)
    refine ⟨rfl, kdel ml k, cl, mp, cp, G, F2, h.delLock g4 hGF (Tr.at_set_same _ _ _) fun z hz => Tr.at_set_other _ _ ?_, rfl, Keep.refl _, Nat.le_refl _, fun z hz => .inl ((hF z).2 ?_), fun z hz hf => Tr.at_set_other _ _ ?_⟩
    · rcases hz with rfl | rfl | hz | hz
      · exact hne.1
      · exact Ne.symm hne.2.2
      · exact (h.d1 z (hGF z hz)).2.1
      · exact (h.d2 z hz).2.1
    · rcases hz with hz | hz | hz | hz | hz
      · exact .inl hz
      · exact .inr (.inl hz)
      · exact .inr (.inr (.inl hz))
      · exact .inr (.inr (.inr (.inl (hGF z hz))))
      · exact .inr (.inr (.inr (.inr hz)))
    · intro e
      exact hf ((hF z).2 (.inr (.inl e)))
  · intro h0
    cases l with
    | nil => exact absurd rfl h0
    | cons w rest =>
      have hnn := hund _ _ g1
      have hrn := hund _ _ g2
      dsimp only [lVal]
      (repeat (first | (first | refine y_seq ?_ | refine w_region ?_ | refine y_regEnd ?_ | refine y_skip ?_ | refine y_condF rfl ?_ | refine w_move rfl rfl rfl ?_ | refine w_nilCheck rfl rfl rfl ?_ | refine w_fieldAddr rfl rfl rfl (F.fo _ _ rfl rfl) ?_ | refine w_storeC rfl rfl rfl rfl (F.sz _ rfl) (by first | exact rfl | (focus (skip; first | exact Tr.at_set_same _ _ _ | assumption))) rfl (by exact Nat.le_of_ble_eq_true rfl) rfl ?_ | refine w_loadB1 rfl rfl rfl (F.ag _ rfl) (by (focus (skip; first | exact Tr.at_set_same _ _ _ | assumption))) (by exact rfl) ?_) | refine w_idxN (q := 0) rfl rfl rfl rfl (F.un _ rfl) (F.sz _ rfl) (by (focus (skip; first | exact Tr.at_set_same _ _ _ | assumption))) (by omega) (by first | omega | (simp; done)) (Nat.le_refl _) ?_ | refine w_loadD1 rfl rfl rfl (F.ag _ rfl) (by (focus (skip; first | exact Tr.at_set_same _ _ _ | assumption))) (rfl) (by first | omega | (simp; done)) ?_))
      have g2' : H.at' r = some (dat false (0 + (rest.length + 1)) 1 23 ((w :: rest).flatMap uV)) := by rw [Nat.zero_add]; exact g2
      refine w_rest (lw := 1) (hg := rest.length + 1) (rr := false) (rt := 23) (vs := (w :: rest).flatMap uV) (us := rest.flatMap uV) rfl rfl rfl (F.un _ rfl) (F.sz _ rfl) (bd_some (i := 1) rfl (by omega)) bd_none (by (focus ((repeat (refine (Tr.at_set_other _ _ (by omega)).trans ?_)); first | exact Tr.at_set_same _ _ _ | assumption))) (by omega) rfl ?_
      (repeat (first | refine y_seq ?_ | refine y_regEnd ?_ | refine w_nilCheck rfl rfl rfl ?_ | refine w_fieldAddr rfl rfl rfl (F.fo _ _ rfl rfl) ?_ | refine w_storeC rfl rfl rfl rfl (F.sz _ rfl) (by first | exact rfl | (focus ((repeat (first | refine (Tr.at_set_other _ _ (by omega)).trans ?_ | refine (Tr.at_del_other _ (by omega)).trans ?_)); first | exact Tr.at_set_same _ _ _ | assumption))) rfl (by exact Nat.le_of_ble_eq_true rfl) rfl ?_))
      obtain ⟨ut, ua, ub, u1, u2⟩ := h.lt hund
      have hGF : ∀ z, G z → F1 z := fun z hz => (g7 z).2 (.inr hz)
      refine y_gen (R := fun H' nx' => Tb t a b (kput ml k (n, (w, rest)) cl) cl mp cp (fun z => (z = n ∨ z = nx) ∨ G z) F2 H' ∧ Step (All t a b F1 F2) (All t a b (fun z => (z = n ∨ z = nx) ∨ G z) F2) H nx H' nx') ⟨?_, ?_⟩ ?_
      · refine h.putLock hg g4 hGF ((g7 n).2 (.inl (.inl rfl))) g5 ⟨nx, Tr.at_set_same _ _ _, (Tr.at_set_other _ _ (by omega)).trans (Tr.at_set_same _ _ _), by omega, fun z => Iff.rfl⟩ ⟨by omega, by omega, by omega, fun q => by have := u1 _ (hGF _ q); omega, fun q => by have := u2 _ q; omega⟩ fun z hz => ?_
        have hz' : z ≠ n ∧ z ≠ r ∧ z < nx := by
          rcases hz with rfl | rfl | rfl | hz | hz
          · exact ⟨by omega, by omega, by omega⟩
          · exact ⟨by omega, by omega, by omega⟩
          · exact ⟨by omega, by omega, by omega⟩
          · exact ⟨fun e => g5 (e ▸ hz), fun e => g6 (e ▸ hz), u1 _ (hGF _ hz)⟩
          · exact ⟨fun e => n4 (e ▸ hz), fun e => r4 (e ▸ hz), u2 _ hz⟩
        exact (Tr.at_set_other _ _ (by omega)).trans ((Tr.at_set_other _ _ (by omega)).trans ((Tr.at_del_other _ (by omega)).trans (Tr.at_set_other _ _ (by omega))))
      · refine ⟨Nat.le_succ _, fun z hz => ?_, fun z hz hf => ?_⟩
        · rcases hz with hz | hz | hz | ((hz | hz) | hz) | hz
          · exact .inl ((hF z).2 (.inl hz))
          · exact .inl ((hF z).2 (.inr (.inl hz)))
          · exact .inl ((hF z).2 (.inr (.inr (.inl hz))))
          · exact .inl ((hF z).2 (.inr (.inr (.inr (.inl ((g7 z).2 (.inl (.inl hz))))))))
          · exact .inr (Nat.le_of_eq hz.symm)
          · exact .inl ((hF z).2 (.inr (.inr (.inr (.inl (hGF z hz))))))
          · exact .inl ((hF z).2 (.inr (.inr (.inr (.inr hz)))))
        · have hzn : z ≠ n := fun e => hf ((hF z).2 (.inr (.inr (.inr (.inl ((g7 z).2 (.inl (.inl e))))))))
          have hzr : z ≠ r := fun e => hf ((hF z).2 (.inr (.inr (.inr (.inl ((g7 z).2 (.inl (.inr e))))))))
          exact (Tr.at_set_other _ _ (by omega)).trans ((Tr.at_set_other _ _ (by omega)).trans ((Tr.at_del_other _ (by omega)).trans (Tr.at_set_other _ _ (by omega))))
      rintro H' nx' ⟨h', hstep⟩
      refine y_under fun hund' => ?_
      obtain ⟨s4, ⟨p, s5⟩, s6⟩ := s3 w rest rfl
      have s5' := s5
      rw [get_p] at s5
      obtain ⟨⟨pn, ks, pw⟩, hgp, hx⟩ := Option.map_eq_some_iff.1 s5
      simp only at hx
      subst hx
      have hks : (ltOf ml mp).keys w = ks := by rw [t_keys, hgp]
      rw [hks] at s6
      have hg' : kget (kput ml k (n, (w, rest)) cl) k = some (n, (w, rest)) := kget_put _ _ _ _
      obtain ⟨r', G', q1, q2, q3, q4, q5, q6, q7, m1, m2, m3, m4, o1, o2, o3, o4⟩ := h'.lock hg'
      obtain ⟨pr, PG, p1, p2, p3, p4, p5, p6, p7, i1, i2, i3, i4, j1, j2, j3, j4⟩ := h'.party hgp
      have htab' := h'.tab
      have hpar' := h'.parties
      have hln := hund' _ _ q1
      have hlp := hund' _ _ p1
      have hlr := hund' _ _ p2
      have hpn : pn ≠ n := fun e => m4 (e ▸ (p7 pn).2 (.inl (.inl rfl)))
      have hprn : pr ≠ n := fun e => m4 (e ▸ (p7 pr).2 (.inl (.inr rfl)))
      refine w_draw (by kernel_rfl) (by kernel_rfl) ?_
      (repeat (first | (first | refine dw_move rfl rfl rfl ?_ | refine dw_assign rfl rfl rfl ?_ | refine dw_nilCheck rfl rfl rfl ?_ | refine dw_fieldAddr rfl rfl rfl (F.fo _ _ rfl rfl) ?_) | refine dw_loadB1 rfl rfl rfl (F.ag _ rfl) (by (focus (skip; first | exact Tr.at_set_same _ _ _ | assumption))) (by exact rfl) ?_ | refine dw_lookV (m := mp) (enc := oE) (val := pVal) rfl rfl rfl rfl (F.un _ rfl) (oK) (by first | exact rfl | (focus (skip; first | exact Tr.at_set_same _ _ _ | assumption))) (hgp) ?_))
      (refine dk_nil ?_); (refine ⟨by kernel_rfl, ?_, ?_⟩); (focus (repeat (first | exact trivial | refine ⟨.inl rfl, ?_⟩)))
      dsimp only [wrL, pVal]
      (repeat (first | (first | refine y_seq ?_ | refine w_region ?_ | refine y_regEnd ?_ | refine w_move rfl rfl rfl ?_ | refine w_assign rfl rfl rfl ?_ | refine w_nilCheck rfl rfl rfl ?_ | refine w_fieldAddr rfl rfl rfl (F.fo _ _ rfl rfl) ?_ | refine w_storeC rfl rfl rfl rfl (F.sz _ rfl) (by first | exact rfl | (focus ((repeat (first | refine (Tr.at_set_other _ _ (by omega)).trans ?_ | refine (Tr.at_del_other _ (by omega)).trans ?_)); first | exact Tr.at_set_same _ _ _ | assumption))) rfl (by exact Nat.le_of_ble_eq_true rfl) rfl ?_ | refine w_loadB1 rfl rfl rfl (F.ag _ rfl) (by (focus ((repeat (first | refine (Tr.at_set_other _ _ (by omega)).trans ?_ | refine (Tr.at_del_other _ (by omega)).trans ?_)); first | exact Tr.at_set_same _ _ _ | assumption))) (by exact rfl) ?_) | refine w_buildSlice rfl rfl (F.un _ rfl) (F.sz _ rfl) rfl (F.ze _ rfl) rfl rfl rfl rfl rfl ?_ | refine w_push (b := 16) (xs := ks) (a := k) rfl rfl rfl rfl (F.un _ rfl) (.inl ⟨_, F.un _ rfl⟩) (F.sz _ rfl) rfl (by kernel_rfl) (by kernel_rfl) (by (focus ((repeat (refine (Tr.at_set_other _ _ (by omega)).trans ?_)); first | exact Tr.at_set_same _ _ _ | assumption))) (by (focus (skip; first | exact Tr.at_set_same _ _ _ | assumption))) (by exact rfl) (recS) (by omega) (by omega) ?_))
      ((apply w_ret Try.func37 (congrArg Array.toList Try.results37)); (focus (repeat (first | exact ResIs.nil | apply ResIs.tmp rfl))))
      have hgo : (ltOf ml mp).letGo k = (ltOf (kput ml k (n, (w, rest)) cl) (kput mp w (pn, (ks ++ [k], ⟨#[]⟩)) cp), w) := by
        rw [mput_kv_p, mput_kv_l]
        unfold LT.letGo
        rw [s1']
        simp only [hks]
      rw [hgo]
      obtain ⟨ut', ua', ub', u1', u2'⟩ := h'.lt hund'
      have hne' := h'.ne
      have PGF : ∀ z, PG z → F2 z := fun z hz => (p7 z).2 (.inr hz)
      have hlen : ks.length + 1 = (ks ++ [k]).length := by simp
      refine ⟨rfl, _, _, _, _, fun z => (z = n ∨ z = nx) ∨ G z, fun z => (z = pn ∨ z = nx' + 1) ∨ PG z, h'.putParty hgp p4 PGF ((p7 pn).2 (.inl (.inl rfl))) p5 ⟨nx' + 1, ?_, ?_, by omega, fun z => Iff.rfl⟩ ⟨by omega, by omega, by omega, fun q => by have := u2' _ (PGF _ q); omega, fun q => by have := u1' _ q; omega⟩ fun z hz => ?_, rfl, Keep.put hgp _ _, hstep.trans ⟨Nat.le_trans (Nat.le_succ _) (Nat.le_succ _), fun z hz => ?_, fun z hz hf => ?_⟩⟩
      · refine (Tr.at_set_same _ _ _).trans ?_
        rw [← hlen]
        rfl
      · refine (Tr.at_set_other _ _ (by omega)).trans ((Tr.at_set_same _ _ _).trans ?_)
        show _ = some (dat false (ks ++ [k]).length 1 9 ((ks ++ [k]).flatMap sV))
        rw [← hlen]
      · have hz' : z ≠ pn ∧ z ≠ pr ∧ z < nx' := by
          rcases hz with rfl | rfl | rfl | hz | hz
          · exact ⟨by omega, by omega, by omega⟩
          · exact ⟨by omega, by omega, by omega⟩
          · exact ⟨by omega, by omega, by omega⟩
          · exact ⟨fun e => p5 (e ▸ hz), fun e => p6 (e ▸ hz), u2' _ (PGF _ hz)⟩
          · exact ⟨fun e => i4 (e ▸ hz), fun e => j4 (e ▸ hz), u1' _ hz⟩
        exact (Tr.at_set_other _ _ (by omega)).trans ((Tr.at_set_other _ _ (by omega)).trans ((Tr.at_del_other _ (by omega)).trans ((Tr.at_set_other _ _ (by omega)).trans (Tr.at_set_other _ _ (by omega)))))
      · rcases hz with hz | hz | hz | hz | ((hz | hz) | hz)
        · exact .inl (.inl hz)
        · exact .inl (.inr (.inl hz))
        · exact .inl (.inr (.inr (.inl hz)))
        · exact .inl (.inr (.inr (.inr (.inl hz))))
        · exact .inl (.inr (.inr (.inr (.inr ((p7 z).2 (.inl (.inl hz)))))))
        · exact .inr (by omega)
        · exact .inl (.inr (.inr (.inr (.inr (PGF z hz)))))
      · have hzn : z ≠ pn := fun e => hf (.inr (.inr (.inr (.inr ((p7 z).2 (.inl (.inl e)))))))
        have hzr : z ≠ pr := fun e => hf (.inr (.inr (.inr (.inr ((p7 z).2 (.inl (.inr e)))))))
        exact (Tr.at_set_other _ _ (by omega)).trans ((Tr.at_set_other _ _ (by omega)).trans ((Tr.at_del_other _ (by omega)).trans ((Tr.at_set_other _ _ (by omega)).trans (Tr.at_set_other _ _ (by omega)))))
end Go.Proofs.Ytckajlllkmkniaa
end
