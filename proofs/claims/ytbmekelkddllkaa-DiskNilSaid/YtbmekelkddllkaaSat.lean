/-
  A lemma file of its own: worlds whose new blocks are known ('Sat w0 w F': w goes on from w0; F lists new blocks and what they hold), and what the model's operations do to them. Over any program.
-/
import Derived.WalkKit
import Derived.WalkSpells
import Derived.KernelRfl
import Derived.Deep.Draws
import Derived.Deep.Quiet
import Derived.Deep.QuietTactic
import Derived.BigQuiet
import Derived.Lib.Hide
namespace Go.Sl
open Go.RowKit

/-- A list of blocks and what they hold. -/
abbrev Blks := List (Nat × Obj)

/-- The world w goes on from w0: what w0 had is as it was; the blocks of F are new, each another one, and hold what F says. -/
structure Sat (w0 w : World) (F : Blks) : Prop where
  below : Below w0.heap.size w0 w
  nodup : (F.map (·.1)).Nodup
  here : ∀ p ∈ F, w0.heap.size ≤ p.1 ∧ w.heap[p.1]? = some p.2

theorem Sat.start (w : World) : Sat w w [] := ⟨Below.refl _ _, by simp, by simp⟩

theorem Sat.lt {w0 w : World} {F : Blks} (h : Sat w0 w F) {p : Nat × Obj} (hp : p ∈ F) : p.1 < w.heap.size :=
  (Array.getElem?_eq_some_iff.1 (h.here p hp).2).1

theorem Sat.perm {w0 w : World} {F G : Blks} (h : Sat w0 w F) (hp : F.Perm G) : Sat w0 w G :=
  ⟨h.below, (hp.map _).nodup_iff.1 h.nodup, fun p hm => h.here p (hp.mem_iff.2 hm)⟩

theorem Sat.sub {w0 w : World} {F G : Blks} (h : Sat w0 w F) (hs : List.Sublist G F) : Sat w0 w G :=
  ⟨h.below, (hs.map _).nodup h.nodup, fun p hm => h.here p (hs.subset hm)⟩

theorem Sat.left {w0 w : World} {F G : Blks} (h : Sat w0 w (F ++ G)) : Sat w0 w F := h.sub (List.sublist_append_left _ _)
theorem Sat.right {w0 w : World} {F G : Blks} (h : Sat w0 w (F ++ G)) : Sat w0 w G := h.sub (List.sublist_append_right _ _)
theorem Sat.tail {w0 w : World} {p : Nat × Obj} {G : Blks} (h : Sat w0 w (p :: G)) : Sat w0 w G := h.sub (List.sublist_cons_self _ _)

theorem Sat.drew {w0 w : World} {F : Blks} (h : Sat w0 w F) : Sat w0 w.drew F := ⟨h.below.drew, h.nodup, h.here⟩
theorem Sat.drewN {w0 w : World} {F : Blks} (h : Sat w0 w F) (n : Nat) : Sat w0 (w.drewN n) F := ⟨⟨h.below.os, h.below.tape, h.below.output, h.below.size, h.below.block⟩, h.nodup, h.here⟩

theorem Sat.alloc {w0 w : World} {F : Blks} (h : Sat w0 w F) (o : Obj) : Sat w0 (w.alloc o) ((w.heap.size, o) :: F) := by
  refine ⟨h.below.alloc h.below.size o, ?_, ?_⟩
  · rw [List.map_cons, List.nodup_cons]
    refine ⟨fun hm => ?_, h.nodup⟩
    obtain ⟨p, hp, he⟩ := List.mem_map.1 hm
    have := h.lt hp
    omega
  · intro p hp
    rcases List.mem_cons.1 hp with rfl | hp
    · exact ⟨h.below.size, by show (w.heap.push o)[w.heap.size]? = some o; simp⟩
    · refine ⟨(h.here p hp).1, ?_⟩
      rw [Below.heap_alloc _ _ _ (h.lt hp)]
      exact (h.here p hp).2

theorem Sat.allocSome {w0 w : World} {F : Blks} (h : Sat w0 w F) (o : Obj) : Sat w0 (w.alloc o) F := (h.alloc o).tail

/-- Turn one block: the world w1 is w but for block b. -/
theorem Sat.turn {w0 w w1 : World} {b : Nat} {o o' : Obj} {F : Blks} (h : Sat w0 w ((b, o) :: F)) (hos : w1.os = w.os) (htape : w1.tape = w.tape) (hout : w1.output = w.output)
    (hsize : w.heap.size ≤ w1.heap.size) (hother : ∀ k, k < w.heap.size → k ≠ b → w1.heap[k]? = w.heap[k]?) (hb : w1.heap[b]? = some o') : Sat w0 w1 ((b, o') :: F) := by
  have hb0 := (h.here (b, o) (List.mem_cons_self ..)).1
  have hn := h.nodup
  rw [List.map_cons, List.nodup_cons] at hn
  refine ⟨⟨hos.trans h.below.os, htape.trans h.below.tape, hout.trans h.below.output, Nat.le_trans h.below.size hsize, fun k hk => ?_⟩, ?_, ?_⟩
  · have := h.below.size
    rw [hother k (by omega) (by simp at hb0; omega), h.below.block k hk]
  · rw [List.map_cons, List.nodup_cons]; exact hn
  · intro p hp
    rcases List.mem_cons.1 hp with rfl | hp
    · exact ⟨hb0, hb⟩
    · have hp' := h.here p (List.mem_cons_of_mem _ hp)
      refine ⟨hp'.1, ?_⟩
      rw [hother p.1 (h.lt (List.mem_cons_of_mem _ hp)) (fun e => hn.1 (List.mem_map.2 ⟨p, hp, e⟩))]
      exact hp'.2

theorem Sat.grown {w0 w w1 : World} {F : Blks} (h : Sat w0 w F) (hg : w.grownBy w1 none) : Sat w0 w1 F := by
  refine ⟨h.below.trans ⟨hg.os, hg.tape, hg.output, hg.size, fun k hk => hg.block k (by have := h.below.size; omega) (by simp)⟩, h.nodup, fun p hp => ⟨(h.here p hp).1, ?_⟩⟩
  rw [hg.block p.1 (h.lt hp) (by simp)]
  exact (h.here p hp).2

/-! ### reading -/
theorem Sat.block {w0 w : World} {F : Blks} (h : Sat w0 w F) {b : Nat} {o : Obj} (hb : (b, o) ∈ F) : w.heap[b]? = some o := (h.here _ hb).2
theorem Sat.cell {w0 w : World} {F : Blks} (h : Sat w0 w F) {b : Nat} {cs : Array Value} {ty : TypeId} {fz : Nat × Nat} (hb : (b, .cells cs ty fz) ∈ F) (i : Nat) : w.cell? ⟨b, i, none⟩ = cs[i]? := by
  simp [World.cell?, h.block hb]
theorem Sat.free {w0 w : World} {F : Blks} (h : Sat w0 w F) {b : Nat} {cs : Array Value} {ty : TypeId} (hb : (b, .cells cs ty (0, 0)) ∈ F) (i : Nat) : w.frozen? ⟨b, i, none⟩ = false := by
  simp [World.frozen?, h.block hb]
theorem Sat.old {w0 w : World} {F : Blks} (h : Sat w0 w F) {a : Addr} {v : Value} (hc : w0.cell? a = some v) : w.cell? a = some v :=
  (h.below.cell (World.block_lt_of_cell? _ _ hc)).trans hc

end Go.Sl
