/-
  Maps whose block is known: what they hold as a list of keys and values, in the order of the block. Over any program.
-/
import Derived.Test.YtbmekelkddllkaaOps
import Derived.MapKept
import Derived.Carry
namespace Go.Sl
open Go.RowKit

/-- A key type: how keys lie in cells; equal just if they are. -/
structure KeyEnc (P : Program) (kt : TypeId) {K : Type} [DecidableEq K] (enc : K → Value) : Prop where
  same : ∃ kd, P.underlying kt = some kd ∧ ∀ a b, Instr.sameNow kd (enc a) (enc b) = some (decide (a = b))
  check : ∀ (e : Bool) (k : K) (w : World), (Instr.checkKey e 10000 kt (enc k)).run P w = .ok () w
  bits : ∀ k, Instr.sameBits 10000 (enc k) (enc k) = true

def strV (s : ByteArray) : Value := .string s
def u64V (n : Nat) : Value := .int .u64 n
def i64V (n : Int) : Value := .int .i64 n

theorem checkKey_plain {P : Program} {kt : TypeId} {kd : TypeDesc} {v : Value} (h : P.underlying kt = some kd) (hk : (match kd with | .interface _ | .array .. | .struct _ => false | _ => true) = true) (e : Bool) (n : Nat) (w : World) :
    (Instr.checkKey e (n + 1) kt v).run P w = .ok () w := by
  cases kd <;> simp at hk <;> simp [Instr.checkKey, run_underlying h]

theorem keyEnc_str {P : Program} {kt : TypeId} (h : P.underlying kt = some .string) : KeyEnc P kt strV :=
  ⟨⟨_, h, fun a b => by simp only [strV, Instr.sameNow, Option.some.injEq]; rw [Bool.eq_iff_iff]; simp [MapKept.bytes_beq]⟩, fun e k w => checkKey_plain h rfl e 9999 w, fun k => by simp [strV, Instr.sameBits, MapKept.bytes_beq]⟩
theorem keyEnc_u64 {P : Program} {kt : TypeId} (h : P.underlying kt = some (.int .u64)) : KeyEnc P kt u64V :=
  ⟨⟨_, h, fun a b => by simp [u64V, Instr.sameNow, Int.natCast_inj]; rw [Bool.eq_iff_iff]; simp [Int.natCast_inj]⟩, fun e k w => checkKey_plain h rfl e 9999 w, fun k => by simp [u64V, Instr.sameBits]⟩
theorem keyEnc_i64 {P : Program} {kt : TypeId} (h : P.underlying kt = some (.int .i64)) : KeyEnc P kt i64V :=
  ⟨⟨_, h, fun a b => by simp [i64V, Instr.sameNow]; rw [Bool.eq_iff_iff]; simp⟩, fun e k w => checkKey_plain h rfl e 9999 w, fun k => by simp [i64V, Instr.sameBits]⟩

section
variable {K V : Type} [DecidableEq K]

/-- What a list of keys and values has at a key. -/
def mget (l : List (K × V)) (k : K) : Option V := (l.find? (fun x => decide (x.1 = k))).map (·.2)
/-- .. with a key's value put: in its place, or at the end. -/
def mput : List (K × V) → K → V → List (K × V)
  | [], k, v => [(k, v)]
  | x :: l, k, v => if x.1 = k then (k, v) :: l else x :: mput l k v
/-- .. without a key. -/
def mdel : List (K × V) → K → List (K × V)
  | [], _ => []
  | x :: l, k => if x.1 = k then l else x :: mdel l k

theorem mget_nil (k : K) : mget ([] : List (K × V)) k = none := rfl
theorem mget_cons (x : K × V) (l : List (K × V)) (k : K) : mget (x :: l) k = if x.1 = k then some x.2 else mget l k := by
  unfold mget
  by_cases h : x.1 = k <;> simp [List.find?, h]
theorem mget_mput (l : List (K × V)) (k : K) (v : V) (k' : K) : mget (mput l k v) k' = if k = k' then some v else mget l k' := by
  induction l with
  | nil => simp [mput, mget_cons, mget_nil]
  | cons x l ih =>
    unfold mput
    by_cases h : x.1 = k
    · simp only [h, if_true, mget_cons]
      split <;> simp_all
    · simp only [h, if_false, mget_cons, ih]
      by_cases h2 : x.1 = k'
      · have : k ≠ k' := fun e => h (by rw [h2, e])
        simp [h2, this]
      · simp [h2]
theorem mget_none {l : List (K × V)} {k : K} : mget l k = none ↔ k ∉ l.map (·.1) := by
  induction l with
  | nil => simp [mget_nil]
  | cons x l ih =>
    rw [mget_cons]
    by_cases h : x.1 = k
    · simp [h]
    · simp [h, ih, Ne.symm h]
theorem mget_split {l : List (K × V)} {k : K} {v : V} (h : mget l k = some v) : ∃ A B, l = A ++ (k, v) :: B ∧ k ∉ A.map (·.1) := by
  induction l with
  | nil => simp [mget_nil] at h
  | cons x l ih =>
    rw [mget_cons] at h
    by_cases hk : x.1 = k
    · simp only [hk, if_true, Option.some.injEq] at h
      obtain ⟨x1, x2⟩ := x
      simp at hk h
      exact ⟨[], l, by simp [hk, h], by simp⟩
    · simp only [hk, if_false] at h
      obtain ⟨A, B, rfl, hA⟩ := ih h
      exact ⟨x :: A, B, rfl, by simp [Ne.symm hk] at hA ⊢; exact hA⟩
theorem mput_split {A B : List (K × V)} {k : K} {v : V} (h : k ∉ A.map (·.1)) (v' : V) : mput (A ++ (k, v) :: B) k v' = A ++ (k, v') :: B := by
  induction A with
  | nil => simp [mput]
  | cons x A ih =>
    simp at h
    have hx : x.1 ≠ k := fun e => h.1 e.symm
    rw [List.cons_append, mput, if_neg hx, ih (by simp; exact h.2)]
    rfl
theorem mput_new {l : List (K × V)} {k : K} (h : k ∉ l.map (·.1)) (v : V) : mput l k v = l ++ [(k, v)] := by
  induction l with
  | nil => rfl
  | cons x A ih =>
    simp at h
    have hx : x.1 ≠ k := fun e => h.1 e.symm
    rw [mput, if_neg hx, ih (by simp; exact h.2)]
    rfl
theorem mdel_split {A B : List (K × V)} {k : K} {v : V} (h : k ∉ A.map (·.1)) : mdel (A ++ (k, v) :: B) k = A ++ B := by
  induction A with
  | nil => simp [mdel]
  | cons x A ih =>
    simp at h
    have hx : x.1 ≠ k := fun e => h.1 e.symm
    rw [List.cons_append, mdel, if_neg hx, ih (by simp; exact h.2)]
    rfl
theorem mdel_none {l : List (K × V)} {k : K} (h : k ∉ l.map (·.1)) : mdel l k = l := by
  induction l with
  | nil => rfl
  | cons x A ih =>
    simp at h
    have hx : x.1 ≠ k := fun e => h.1 e.symm
    rw [mdel, if_neg hx, ih (by simp; exact h.2)]

theorem mem_mput {l : List (K × V)} {k : K} {v : V} {x : K} : x ∈ (mput l k v).map (·.1) ↔ x = k ∨ x ∈ l.map (·.1) := by
  induction l with
  | nil => simp [mput]
  | cons y l ih =>
    unfold mput
    by_cases h : y.1 = k
    · simp [h]
    · simp only [h, if_false, List.map_cons, List.mem_cons, ih]
      constructor <;> (intro h'; rcases h' with h' | h' | h' <;> simp [h'])
theorem nodup_mput {l : List (K × V)} (h : (l.map (·.1)).Nodup) (k : K) (v : V) : ((mput l k v).map (·.1)).Nodup := by
  induction l with
  | nil => simp [mput]
  | cons y l ih =>
    unfold mput
    simp only [List.map_cons, List.nodup_cons] at h
    by_cases hk : y.1 = k
    · simp only [hk, if_true, List.map_cons, List.nodup_cons]
      exact ⟨by rw [← hk]; exact h.1, h.2⟩
    · simp only [hk, if_false, List.map_cons, List.nodup_cons, mem_mput]
      exact ⟨by simp [hk, h.1], ih h.2⟩
theorem nodup_mdel {l : List (K × V)} (h : (l.map (·.1)).Nodup) (k : K) : ((mdel l k).map (·.1)).Nodup ∧ k ∉ (mdel l k).map (·.1) := by
  induction l with
  | nil => simp [mdel]
  | cons y l ih =>
    unfold mdel
    simp only [List.map_cons, List.nodup_cons] at h
    by_cases hk : y.1 = k
    · subst hk
      simp only [if_true]
      exact ⟨h.2, h.1⟩
    · simp only [hk, if_false, List.map_cons, List.nodup_cons, List.mem_cons]
      refine ⟨⟨fun hm => h.1 ?_, (ih h.2).1⟩, by simp [Ne.symm hk]; simpa using (ih h.2).2⟩
      have : ∀ l : List (K × V), y.1 ∈ (mdel l k).map (·.1) → y.1 ∈ l.map (·.1) := by
        intro l
        induction l with
        | nil => simp [mdel]
        | cons z l ihl =>
          unfold mdel
          split
          · intro hh; exact List.mem_cons_of_mem _ hh
          · intro hh
            rcases List.mem_cons.1 hh with hh | hh
            · exact List.mem_cons.2 (.inl hh)
            · exact List.mem_cons.2 (.inr (ihl hh))
      exact this l hm

theorem forall_mput {l : List (K × V)} {k : K} {v : V} {p : V → Prop} (h : ∀ x ∈ l, p x.2) (hv : p v) : ∀ x ∈ mput l k v, p x.2 := by
  induction l with
  | nil => intro x hx; simp [mput] at hx; rw [hx]; exact hv
  | cons y l ih =>
    intro x hx
    unfold mput at hx
    split at hx
    · rcases List.mem_cons.1 hx with rfl | hx
      · exact hv
      · exact h x (List.mem_cons_of_mem _ hx)
    · rcases List.mem_cons.1 hx with rfl | hx
      · exact h _ (List.mem_cons_self ..)
      · exact ih (fun z hz => h z (List.mem_cons_of_mem _ hz)) x hx
theorem forall_mdel {l : List (K × V)} {k : K} {p : V → Prop} (h : ∀ x ∈ l, p x.2) : ∀ x ∈ mdel l k, p x.2 := by
  induction l with
  | nil => intro x hx; simp [mdel] at hx
  | cons y l ih =>
    intro x hx
    unfold mdel at hx
    split at hx
    · exact h x (List.mem_cons_of_mem _ hx)
    · rcases List.mem_cons.1 hx with rfl | hx
      · exact h _ (List.mem_cons_self ..)
      · exact ih (fun z hz => h z (List.mem_cons_of_mem _ hz)) x hx
theorem forall_mget {l : List (K × V)} {k : K} {v : V} {p : V → Prop} (h : ∀ x ∈ l, p x.2) (hg : mget l k = some v) : p v := by
  obtain ⟨A, B, rfl, _⟩ := mget_split hg
  exact h (k, v) (by simp)

/-- Block content: a map of just these keys and values, in this order. -/
structure MapIs (enc : K → Value) (val : V → Value) (l : List (K × V)) (es : Array MapEntry) (clock : Nat) : Prop where
  keys : es.toList.map (fun e => (e.key, e.val)) = l.map (fun x => (enc x.1, val x.2))
  nodup : (l.map (·.1)).Nodup
  born : (es.toList.map (·.born)).Nodup ∧ ∀ e ∈ es, e.born < clock

omit [DecidableEq K] in
theorem MapIs.empty (enc : K → Value) (val : V → Value) : MapIs enc val [] #[] 0 := ⟨rfl, by simp, by simp⟩
omit [DecidableEq K] in
theorem MapIs.size {enc : K → Value} {val : V → Value} {l : List (K × V)} {es : Array MapEntry} {clock : Nat} (h : MapIs enc val l es clock) : es.size = l.length := by
  have := congrArg List.length h.keys
  simpa using this

section
variable {P : Program} {kt : TypeId} {enc : K → Value} {val : V → Value}

theorem findNow_list {kd : TypeDesc} (hs : ∀ a b, Instr.sameNow kd (enc a) (enc b) = some (decide (a = b))) (k : K) : ∀ (es : List MapEntry) (l : List (K × V)) (i : Nat), es.map (fun e => (e.key, e.val)) = l.map (fun x => (enc x.1, val x.2)) →
    Instr.findNow kd (enc k) es i = some ((l.findIdx? (fun x => decide (x.1 = k))).bind fun j => (l[j]?).map fun x => (i + j, val x.2)) := by
  intro es
  induction es with
  | nil => intro l i h; cases l <;> simp [Instr.findNow] at h ⊢
  | cons e es ih =>
    intro l i h
    cases l with
    | nil => simp at h
    | cons x l =>
      simp only [List.map_cons, List.cons.injEq, Prod.mk.injEq] at h
      obtain ⟨⟨hk, hv⟩, ht⟩ := h
      unfold Instr.findNow
      rw [hk, hs]
      by_cases hx : k = x.1
      · subst hx
        simp [List.findIdx?_cons, hv]
      · have hx' : ¬ x.1 = k := fun e => hx e.symm
        simp only [hx, decide_false]
        rw [ih l (i + 1) ht]
        simp only [List.findIdx?_cons, hx', decide_false]
        cases hf : l.findIdx? (fun x => decide (x.1 = k)) with
        | none => simp
        | some j => simp [Nat.add_assoc, Nat.add_comm 1 j]

theorem mget_findIdx (l : List (K × V)) (k : K) : mget l k = (l.findIdx? (fun x => decide (x.1 = k))).bind fun j => (l[j]?).map (·.2) := by
  induction l with
  | nil => rfl
  | cons x l ih =>
    rw [mget_cons, List.findIdx?_cons]
    by_cases h : x.1 = k
    · simp [h]
    · simp only [h, if_false, decide_false, ih]
      cases hf : l.findIdx? (fun x => decide (x.1 = k)) <;> simp

theorem run_findKey (kE : KeyEnc P kt enc) {l : List (K × V)} {es : Array MapEntry} {clock : Nat} (h : MapIs enc val l es clock) (k : K) (w : World) :
    (Instr.findKey kt (enc k) es.toList).run P w = .ok ((l.findIdx? (fun x => decide (x.1 = k))).bind fun j => (l[j]?).map fun x => (j, val x.2)) w := by
  obtain ⟨kd, hk, hs⟩ := kE.same
  have := findNow_list hs k es.toList l 0 h.keys
  simp only [Nat.zero_add] at this
  simp [Instr.findKey, run_underlying hk, this]


theorem findIdx_some {l : List (K × V)} {k : K} {v : V} (h : mget l k = some v) : ∃ j, l.findIdx? (fun x => decide (x.1 = k)) = some j ∧ j < l.length ∧ l[j]? = some (k, v) ∧ mput l k = (fun u => l.set j (k, u)) ∧ mdel l k = l.eraseIdx j := by
  obtain ⟨A, B, rfl, hA⟩ := mget_split h
  refine ⟨A.length, ?_, by simp, by simp, ?_, ?_⟩
  · rw [List.findIdx?_append]
    have : A.findIdx? (fun x => decide (x.1 = k)) = none := by
      rw [List.findIdx?_eq_none_iff]
      intro x hx
      simp only [decide_eq_false_iff_not]
      exact fun e => hA (List.mem_map.2 ⟨x, hx, e⟩)
    rw [this]
    simp [List.findIdx?_cons]
  · funext u
    rw [mput_split hA]
    rw [List.set_append_right _ _ (Nat.le_refl _)]
    simp
  · rw [mdel_split hA, List.eraseIdx_append_of_length_le (Nat.le_refl _)]
    simp

theorem findIdx_none {l : List (K × V)} {k : K} (h : mget l k = none) : l.findIdx? (fun x => decide (x.1 = k)) = none := by
  rw [mget_none] at h
  rw [List.findIdx?_eq_none_iff]
  intro x hx
  simp only [decide_eq_false_iff_not]
  exact fun e => h (List.mem_map.2 ⟨x, hx, e⟩)

theorem run_find_some (kE : KeyEnc P kt enc) {l : List (K × V)} {es : Array MapEntry} {clock : Nat} (h : MapIs enc val l es clock) {k : K} {v : V} (hg : mget l k = some v) (w : World) :
    ∃ j, (Instr.findKey kt (enc k) es.toList).run P w = .ok (some (j, val v)) w ∧ j < l.length ∧ l[j]? = some (k, v) ∧ mput l k = (fun u => l.set j (k, u)) ∧ mdel l k = l.eraseIdx j := by
  obtain ⟨j, h1, h2, h3, h4, h5⟩ := findIdx_some hg
  refine ⟨j, ?_, h2, h3, h4, h5⟩
  rw [run_findKey kE h, h1]
  simp [h3]
theorem run_find_none (kE : KeyEnc P kt enc) {l : List (K × V)} {es : Array MapEntry} {clock : Nat} (h : MapIs enc val l es clock) {k : K} (hg : mget l k = none) (w : World) :
    (Instr.findKey kt (enc k) es.toList).run P w = .ok none w := by
  rw [run_findKey kE h, findIdx_none hg]
  rfl

theorem MapIs.put_some {l : List (K × V)} {es : Array MapEntry} {clock : Nat} (h : MapIs enc val l es clock) {k : K} {v u : V} (hg : mget l k = some v) :
    ∀ j, l[j]? = some (k, v) → mput l k = (fun u => l.set j (k, u)) → MapIs enc val (mput l k u) (es.modify j fun e => { e with key := enc k, val := val u }) clock := by
  intro j hj hp
  have hlen := h.size
  have hjl : j < l.length := (List.getElem?_eq_some_iff.1 hj).1
  refine ⟨?_, nodup_mput h.nodup k u, ?_, ?_⟩
  · rw [hp]
    simp only [List.map_set, ← h.keys]
    apply List.ext_getElem?
    intro i
    simp only [Array.toList_modify, List.getElem?_map, List.getElem?_modify, List.getElem?_set, List.length_map, Array.length_toList]
    by_cases hij : j = i
    · subst hij
      have : j < es.size := by omega
      simp [this]
    · simp [hij]
  · have : (es.modify j fun e => { e with key := enc k, val := val u }).toList.map (·.born) = es.toList.map (·.born) := by
      apply List.ext_getElem?
      intro i
      simp only [Array.toList_modify, List.getElem?_map, List.getElem?_modify]
      by_cases hij : j = i
      · subst hij; simp only [if_true]; cases es.toList[j]? <;> rfl
      · simp [hij]
    rw [this]
    exact h.born.1
  · intro e he
    rw [← Array.mem_toList_iff] at he
    obtain ⟨i, hi⟩ := List.mem_iff_getElem?.1 he
    simp only [Array.toList_modify, List.getElem?_modify] at hi
    by_cases hij : j = i
    · subst hij
      simp only [if_true] at hi
      cases hx : es.toList[j]? with
      | none => simp [hx] at hi
      | some x =>
        simp [hx] at hi
        subst hi
        exact h.born.2 x (Array.mem_toList_iff.1 (List.mem_iff_getElem?.2 ⟨j, hx⟩))
    · simp only [hij, if_false] at hi
      have : es.toList[i]? = some e := by simpa using hi
      exact h.born.2 e (Array.mem_toList_iff.1 (List.mem_iff_getElem?.2 ⟨i, this⟩))

theorem MapIs.put_none {l : List (K × V)} {es : Array MapEntry} {clock : Nat} (h : MapIs enc val l es clock) {k : K} (u : V) (hg : mget l k = none) :
    MapIs enc val (mput l k u) (es.push { key := enc k, val := val u, born := clock }) (clock + 1) := by
  have hn := mget_none.1 hg
  refine ⟨?_, nodup_mput h.nodup k u, ?_, ?_⟩
  · rw [mput_new hn]
    simp [h.keys]
  · simp only [Array.toList_push, List.map_append, List.map_cons, List.map_nil]
    rw [List.nodup_append]
    refine ⟨h.born.1, by simp, ?_⟩
    intro x hx y hy
    obtain ⟨e, he, rfl⟩ := List.mem_map.1 hx
    have := h.born.2 e (Array.mem_toList_iff.1 he)
    simp at hy
    omega
  · intro e he
    rcases Array.mem_push.1 he with he | rfl
    · have := h.born.2 e he; omega
    · exact Nat.lt_succ_self _

theorem map_eraseIdx' {α β : Type} (f : α → β) : ∀ (l : List α) (j : Nat), (l.eraseIdx j).map f = (l.map f).eraseIdx j
  | [], _ => by simp
  | x :: l, 0 => by simp
  | x :: l, j + 1 => by simp [map_eraseIdx' f l j]

theorem MapIs.del_some {l : List (K × V)} {es : Array MapEntry} {clock : Nat} (h : MapIs enc val l es clock) {k : K} {j : Nat} (hd : mdel l k = l.eraseIdx j) :
    MapIs enc val (mdel l k) (es.eraseIdxIfInBounds j) clock := by
  have e1 : (es.eraseIdxIfInBounds j).toList = es.toList.eraseIdx j := by
    unfold Array.eraseIdxIfInBounds
    split
    · simp
    · rename_i hj; rw [List.eraseIdx_of_length_le (by simpa using hj)]
  refine ⟨?_, (nodup_mdel h.nodup k).1, ?_, ?_⟩
  · rw [e1, hd, map_eraseIdx', h.keys, ← map_eraseIdx']
  · rw [e1]
    exact ((List.eraseIdx_sublist _ _).map _).nodup h.born.1
  · intro e he
    rw [← Array.mem_toList_iff, e1] at he
    exact h.born.2 e (Array.mem_toList_iff.1 ((List.eraseIdx_sublist _ _).subset he))

/-- The value at a key is another one, but lies in the same cell. -/
theorem MapIs.same {l : List (K × V)} {es : Array MapEntry} {clock : Nat} (h : MapIs enc val l es clock) {k : K} {v u : V} (hg : mget l k = some v) (hv : val u = val v) : MapIs enc val (mput l k u) es clock := by
  refine ⟨?_, nodup_mput h.nodup k u, h.born⟩
  rw [h.keys]
  obtain ⟨A, B, rfl, hA⟩ := mget_split hg
  rw [mput_split hA]
  simp [hv]

theorem map_mput_val (l : List (K × V)) (k : K) (u u' : V) (hv : val u' = val u) : (mput l k u').map (fun x => (enc x.1, val x.2)) = (mput l k u).map (fun x => (enc x.1, val x.2)) := by
  induction l with
  | nil => simp [mput, hv]
  | cons x l ih =>
    unfold mput
    split
    · simp [hv]
    · simp only [List.map_cons, ih]

theorem MapIs.reval {l : List (K × V)} {es : Array MapEntry} {clock : Nat} {k : K} {u u' : V} (h : MapIs enc val (mput l k u) es clock) (hv : val u' = val u) (hn : (l.map (·.1)).Nodup) : MapIs enc val (mput l k u') es clock :=
  ⟨by rw [map_mput_val l k u u' hv]; exact h.keys, nodup_mput hn k u', h.born⟩

section
variable {ops : Array Oper} {Q : Exit → Act → World → Prop} {a : Act} {w w0 : World} {rest : List Oper} {o : Oper} {F : Blks}

theorem run_zero {t : TypeId} {z : Value} (hz : (P.info? t).bind (·.zero) = some z) (w : World) : (zeroValue t).run P w = .ok z w := by
  cases hi : P.info? t with
  | none => simp [hi] at hz
  | some i => simp [hi] at hz; simp [zeroValue, typeInfo, hi, hz]

theorem Sat.xlook_some (hS : Sat w0 w F) {t : TypeId} {m x : Operand} {ok : Bool} (hop : o.op = .lookup t m x ok) {et : TypeId} (ht : P.underlying t = some (.map kt et)) (kE : KeyEnc P kt enc) {b : Nat} (hm : a.eval m = .map (some b))
    {es : Array MapEntry} {clock : Nat} (hb : (b, .map es clock) ∈ F) {l : List (K × V)} (hM : MapIs enc val l es clock) {k : K} (hx : a.eval x = enc k) {v : V} (hg : mget l k = some v) :
    (execOp a.eval o).run P w = .ok (.value (if ok then .tuple #[val v, .bool true] else val v)) w := by
  obtain ⟨j, h1, _⟩ := run_find_some kE hM hg w
  simp [execOp, hop, hm, hx, Instr.lookup, run_underlying ht, run_getObj_map w _ _ _ (hS.block hb), kE.check, h1]

theorem Sat.xlook_none (hS : Sat w0 w F) {t : TypeId} {m x : Operand} {ok : Bool} (hop : o.op = .lookup t m x ok) {et : TypeId} (ht : P.underlying t = some (.map kt et)) (kE : KeyEnc P kt enc) {b : Nat} (hm : a.eval m = .map (some b))
    {es : Array MapEntry} {clock : Nat} (hb : (b, .map es clock) ∈ F) {l : List (K × V)} (hM : MapIs enc val l es clock) {k : K} (hx : a.eval x = enc k) (hg : mget l k = none) {z : Value} (hz : (P.info? et).bind (·.zero) = some z) :
    (execOp a.eval o).run P w = .ok (.value (if ok then .tuple #[z, .bool false] else z)) w := by
  have h1 := run_find_none kE hM hg w
  simp [execOp, hop, hm, hx, Instr.lookup, run_underlying ht, run_getObj_map w _ _ _ (hS.block hb), kE.check, h1, run_zero hz]

omit [DecidableEq K] in
theorem Sat.xlen_map (hS : Sat w0 w F) {t : TypeId} {m : Operand} {ts : Array TypeId} (hop : o.op = .call { callee := .builtin .len, args := #[m], argTypes := ts }) (hts : ts[0]? = some t) {et : TypeId} (ht : P.underlying t = some (.map kt et)) {b : Nat} (hm : a.eval m = .map (some b))
    {es : Array MapEntry} {clock : Nat} (hb : (b, .map es clock) ∈ F) {l : List (K × V)} (hM : MapIs enc val l es clock) :
    (execOp a.eval o).run P w = .ok (.value (.int .i64 l.length)) w := by
  simp [execOp, hop, resolve, invoke, builtin, Builtin.len_, hm, hts, run_underlying ht, run_getObj_map w _ _ _ (hS.block hb), hM.size, goInt]

theorem wpl_lookS {t : TypeId} {m x : Operand} {ok : Bool} {et : TypeId} {b : Nat} {es : Array MapEntry} {clock : Nat} {l : List (K × V)} {k : K} {v : V} (hS : Sat w0 w F) (kE : KeyEnc P kt enc) (hM : MapIs enc val l es clock)
    (hop : o.op = .lookup t m x ok) (hw : Region.wanted o (yielded ops a.tmps) = true) (ht : P.underlying t = some (.map kt et)) (hm : a.eval m = .map (some b)) (hb : (b, .map es clock) ∈ F) (hx : a.eval x = enc k) (hg : mget l k = some v) (h : wpList P ops Q rest (a.put o.dst (if ok then .tuple #[val v, .bool true] else val v)) w) : wpList P ops Q (o :: rest) a w :=
  wpl_val hw (hS.xlook_some hop ht kE hm hb hM hx hg) h

theorem wpl_lookN {t : TypeId} {m x : Operand} {ok : Bool} {et : TypeId} {b : Nat} {es : Array MapEntry} {clock : Nat} {l : List (K × V)} {k : K} {z : Value} (hS : Sat w0 w F) (kE : KeyEnc P kt enc) (hM : MapIs enc val l es clock)
    (hop : o.op = .lookup t m x ok) (hw : Region.wanted o (yielded ops a.tmps) = true) (ht : P.underlying t = some (.map kt et)) (hm : a.eval m = .map (some b)) (hb : (b, .map es clock) ∈ F) (hx : a.eval x = enc k) (hg : mget l k = none) (hz : (P.info? et).bind (·.zero) = some z) (h : wpList P ops Q rest (a.put o.dst (if ok then .tuple #[z, .bool false] else z)) w) : wpList P ops Q (o :: rest) a w :=
  wpl_val hw (hS.xlook_none hop ht kE hm hb hM hx hg hz) h

omit [DecidableEq K] in
theorem wpl_lenM {t : TypeId} {m : Operand} {ts : Array TypeId} {et : TypeId} {b : Nat} {es : Array MapEntry} {clock : Nat} {l : List (K × V)} (hS : Sat w0 w F) (hM : MapIs enc val l es clock)
    (hop : o.op = .call { callee := .builtin .len, args := #[m], argTypes := ts }) (hts : ts[0]? = some t) (hw : Region.wanted o (yielded ops a.tmps) = true) (ht : P.underlying t = some (.map kt et)) (hm : a.eval m = .map (some b)) (hb : (b, .map es clock) ∈ F) (h : wpList P ops Q rest (a.put o.dst (.int .i64 l.length)) w) : wpList P ops Q (o :: rest) a w :=
  wpl_val hw (hS.xlen_map hop hts ht hm hb hM) h

theorem heap_set_same {b : Nat} {o : Obj} (h : b < w.heap.size) : (w.heap.setIfInBounds b o)[b]? = some o := by simp [h]

theorem wpl_mapUpdate {t : TypeId} {m x y : Operand} {et : TypeId} {b : Nat} {es : Array MapEntry} {clock : Nat} {A B : Blks} {l : List (K × V)} {k : K} {u : V} (hS : Sat w0 w F) (kE : KeyEnc P kt enc) (hM : MapIs enc val l es clock)
    (hop : o.op = .mapUpdate t m x y) (hw : Region.wanted o (yielded ops a.tmps) = true) (ht : P.underlying t = some (.map kt et)) (hm : a.eval m = .map (some b)) (hH : Hole b (.map es clock) F A B) (hx : a.eval x = enc k) (hy : a.eval y = val u) (h : ∀ es' clock' w', MapIs enc val (mput l k u) es' clock' → Sat w0 w' (A ++ (b, .map es' clock') :: B) → wpList P ops Q rest (a.put o.dst undef) w') : wpList P ops Q (o :: rest) a w := by
  have hU := fun es' clock' => hH.upd (.map es' clock')
  have hb := hS.block (hU es clock).mem
  have hlt := hS.lt (hU es clock).mem
  cases hg : mget l k with
  | some v =>
    obtain ⟨j, h1, h2, h3, h4, _⟩ := run_find_some kE hM hg w
    have hkey : ((es[j]?).map (·.key)).getD (enc k) = enc k := by
      have h5 := congrArg (·[j]?) hM.keys
      simp only [List.getElem?_map, h3, Array.getElem?_toList, Option.map_some] at h5
      cases he : es[j]? with
      | none => simp [he] at h5
      | some e => simp [he] at h5; simp [h5.1]
    have hn := hM.put_some (u := u) hg j h3 h4
    refine wpl_skp hw (w' := { w with heap := w.heap.setIfInBounds b (.map (es.modify j fun e => { e with key := enc k, val := val u }) clock) }) ?_ (h _ _ _ hn
      (hS.upd (hU _ _) rfl rfl rfl (by simp) (fun i _ hi => by simp [Ne.symm hi]) (heap_set_same hlt)))
    simp only [execOp, hop, hm, hx, hy, Instr.mapUpdate]
    simp [run_underlying ht, run_getObj_map w _ _ _ hb, kE.check, h1, hkey, Instr.keyThatStays, kE.bits, MapKept.run_setObj_map _ hb]
  | none =>
    have h1 := run_find_none kE hM hg w
    have hn := hM.put_none u hg
    refine wpl_skp hw (w' := { w with heap := w.heap.setIfInBounds b (.map (es.push { key := enc k, val := val u, born := clock }) (clock + 1)) }) ?_ (h _ _ _ hn
      (hS.upd (hU _ _) rfl rfl rfl (by simp) (fun i _ hi => by simp [Ne.symm hi]) (heap_set_same hlt)))
    simp only [execOp, hop, hm, hx, hy, Instr.mapUpdate]
    simp [run_underlying ht, run_getObj_map w _ _ _ hb, kE.check, h1, MapKept.run_setObj_map _ hb]

theorem wpl_delete {t : TypeId} {m x : Operand} {ts : Array TypeId} {et : TypeId} {b : Nat} {es : Array MapEntry} {clock : Nat} {A B : Blks} {l : List (K × V)} {k : K} (hS : Sat w0 w F) (kE : KeyEnc P kt enc) (hM : MapIs enc val l es clock)
    (hop : o.op = .call { callee := .builtin .delete, args := #[m, x], argTypes := ts }) (hts : ts[0]? = some t) (hw : Region.wanted o (yielded ops a.tmps) = true) (ht : P.underlying t = some (.map kt et)) (hm : a.eval m = .map (some b)) (hH : Hole b (.map es clock) F A B) (hx : a.eval x = enc k) (h : ∀ es' clock' w', MapIs enc val (mdel l k) es' clock' → Sat w0 w' (A ++ (b, .map es' clock') :: B) → wpList P ops Q rest (a.put o.dst (.tuple #[])) w') : wpList P ops Q (o :: rest) a w := by
  have hU := fun es' clock' => hH.upd (.map es' clock')
  have hb := hS.block (hU es clock).mem
  have hlt := hS.lt (hU es clock).mem
  cases hg : mget l k with
  | some v =>
    obtain ⟨j, h1, h2, h3, _, h4⟩ := run_find_some kE hM hg w
    refine wpl_val hw (v := .tuple #[]) (w' := { w with heap := w.heap.setIfInBounds b (.map (es.eraseIdxIfInBounds j) clock) }) ?_ (h _ _ _ (hM.del_some h4)
      (hS.upd (hU _ _) rfl rfl rfl (by simp) (fun i _ hi => by simp [Ne.symm hi]) (heap_set_same hlt)))
    simp only [execOp, hop, resolve, invoke, builtin, Builtin.delete_]
    simp [invoke, builtin, Builtin.delete_, hm, hx, hts, run_underlying ht, run_getObj_map w _ _ _ hb, kE.check, h1, MapKept.run_setObj_map _ hb]
  | none =>
    have h1 := run_find_none kE hM hg w
    refine wpl_val hw (v := .tuple #[]) (w' := { w with heap := w.heap.setIfInBounds b (.map es clock) }) ?_ (h _ _ _ (by rw [mdel_none (mget_none.1 hg)]; exact hM)
      (hS.upd (hU _ _) rfl rfl rfl (by simp) (fun i _ hi => by simp [Ne.symm hi]) (heap_set_same hlt)))
    simp only [execOp, hop, resolve, invoke, builtin, Builtin.delete_]
    simp [invoke, builtin, Builtin.delete_, hm, hx, hts, run_underlying ht, run_getObj_map w _ _ _ hb, kE.check, h1, MapKept.run_setObj_map _ hb]

theorem wpl_makeMap {t : TypeId} (hS : Sat w0 w F)
    (hop : o.op = .makeMap t none) (hw : Region.wanted o (yielded ops a.tmps) = true) (h : ∀ b w', Sat w0 w' ((b, .map #[] 0) :: F) → wpList P ops Q rest (a.put o.dst (.map (some b))) w') : wpList P ops Q (o :: rest) a w := by
  refine wpl_val hw (v := .map (some w.heap.size)) (w' := w.alloc (.map #[] 0)) ?_ (h _ _ (hS.alloc _))
  simp [execOp, hop, Instr.makeMap]
end
end
end
end Go.Sl
