/-
  No cell of these rows narrows 'for every input' (looked for: loops, veiled, ifaces, maps, wideKeys, modest, calm, conditions, laid).
  DERIVED. THE GIVEN ROWS OF THIS SEAT. 5 by the template 'for every input the law returns true; each argument reads behind the call as it read before'; 0 by the template 'total and deterministic' (their statements: YtelnglhodnoclaaGreatTotals.lean).
  GIVEN WITH THE SEED: the statements are not yours to turn. If you find one false, say at which input.
  Laid BY PROGRAM, IN A SANDBOX (cutbox-rows.mjs): the forced cells as the released guide's own fill.sh prints them over the translation 5e1afa5d7134509e… (all of the seat's roots in one cut). By AI agents, Wed Nov 11 2026. No macro, syntax, notation, axiom, sorry.
-/
import Derived.Test.YtelnglhodnoclaaGreatChecked
import GoSem.Claim
import GoSem.ClaimJoined
import GoSem.ClaimMapViews
import Derived.JoinedTies
import Derived.KernelRfl
namespace Go.Proofs.YtelnglhodnoclaaGreat
/- THE CELL 'sum', in the pinned program and in every row, IS THE sha256 OF THE DUMP (.gsa) THAT YtelnglhodnoclaaGreatProg.lean LOADS. Nothing in Lean hashes anything: it is a label: what it is worth is what the hold of that sum in a sandbox is worth. -/
noncomputable def Tryz.pinned : Pinned := { name := "ytelnglhodnoclaagreat", sum := "5e1afa5d7134509e280c22ee2dc009da8ee63243e7efc516c2173a08a346be37", checked := Tryz.checked }
namespace Rows
def none {H : Type} : Left H := { results := [], args := [] }

/-- 'understudylaw12.IndexEntries': WHATEVER THE INPUT: true; the input reads as it did. -/
def indexEntriesSpec : ChangeSpec := { name := "indexEntries", fn := fun _ => fun
  | [d1, d2, d3] => { results := [.lit (.bool true)], args := [d1, d2, d3] }
  | _ => none }
def indexEntriesRow : OpenClaim := { program := "ytelnglhodnoclaagreat", sum := "5e1afa5d7134509e280c22ee2dc009da8ee63243e7efc516c2173a08a346be37", func := "understudy/understudylaw12.IndexEntries", spec := "indexEntries", unfollowed := true, recurses := true, plainKeys := false, apart := false }
def IndexEntriesSaid : Prop := indexEntriesRow.holds Tryz.pinned (OpenSpec.ofChange indexEntriesSpec)

/-- ITS FALSE NEIGHBOUR: 'it returns false'. Refute it at one input. -/
def indexEntriesWrong : ChangeSpec := { name := "indexEntries", fn := fun _ => fun
  | [d1, d2, d3] => { results := [.lit (.bool false)], args := [d1, d2, d3] }
  | _ => none }
def IndexEntriesWrongFalsely : Prop := indexEntriesRow.holds Tryz.pinned (OpenSpec.ofChange indexEntriesWrong)

/-- 'understudylaw12.IndexHas': WHATEVER THE INPUT: true; the input reads as it did. -/
def indexHasSpec : ChangeSpec := { name := "indexHas", fn := fun _ => fun
  | [d] => { results := [.lit (.bool true)], args := [d] }
  | _ => none }
def indexHasRow : OpenClaim := { program := "ytelnglhodnoclaagreat", sum := "5e1afa5d7134509e280c22ee2dc009da8ee63243e7efc516c2173a08a346be37", func := "understudy/understudylaw12.IndexHas", spec := "indexHas", unfollowed := true, recurses := true, plainKeys := false, apart := false }
def IndexHasSaid : Prop := indexHasRow.holds Tryz.pinned (OpenSpec.ofChange indexHasSpec)

/-- ITS FALSE NEIGHBOUR: 'it returns false'. Refute it at one input. -/
def indexHasWrong : ChangeSpec := { name := "indexHas", fn := fun _ => fun
  | [d] => { results := [.lit (.bool false)], args := [d] }
  | _ => none }
def IndexHasWrongFalsely : Prop := indexHasRow.holds Tryz.pinned (OpenSpec.ofChange indexHasWrong)

/-- 'understudylaw12.IndexOnce': WHATEVER THE INPUT: true; the input reads as it did. -/
def indexOnceSpec : ChangeSpec := { name := "indexOnce", fn := fun _ => fun
  | [d1, d2] => { results := [.lit (.bool true)], args := [d1, d2] }
  | _ => none }
def indexOnceRow : OpenClaim := { program := "ytelnglhodnoclaagreat", sum := "5e1afa5d7134509e280c22ee2dc009da8ee63243e7efc516c2173a08a346be37", func := "understudy/understudylaw12.IndexOnce", spec := "indexOnce", unfollowed := true, recurses := true, plainKeys := false, apart := false }
def IndexOnceSaid : Prop := indexOnceRow.holds Tryz.pinned (OpenSpec.ofChange indexOnceSpec)

/-- ITS FALSE NEIGHBOUR: 'it returns false'. Refute it at one input. -/
def indexOnceWrong : ChangeSpec := { name := "indexOnce", fn := fun _ => fun
  | [d1, d2] => { results := [.lit (.bool false)], args := [d1, d2] }
  | _ => none }
def IndexOnceWrongFalsely : Prop := indexOnceRow.holds Tryz.pinned (OpenSpec.ofChange indexOnceWrong)

/-- 'understudylaw12.IndexNil': WHATEVER THE INPUT: true; the input reads as it did. -/
def indexNilSpec : ChangeSpec := { name := "indexNil", fn := fun _ => fun
  | [] => { results := [.lit (.bool true)], args := [] }
  | _ => none }
def indexNilRow : OpenClaim := { program := "ytelnglhodnoclaagreat", sum := "5e1afa5d7134509e280c22ee2dc009da8ee63243e7efc516c2173a08a346be37", func := "understudy/understudylaw12.IndexNil", spec := "indexNil", unfollowed := true, recurses := true, plainKeys := false, apart := false }
def IndexNilSaid : Prop := indexNilRow.holds Tryz.pinned (OpenSpec.ofChange indexNilSpec)

/-- ITS FALSE NEIGHBOUR: 'it returns false'. Refute it at one input. -/
def indexNilWrong : ChangeSpec := { name := "indexNil", fn := fun _ => fun
  | [] => { results := [.lit (.bool false)], args := [] }
  | _ => none }
def IndexNilWrongFalsely : Prop := indexNilRow.holds Tryz.pinned (OpenSpec.ofChange indexNilWrong)

/-- 'understudylaw12.IndexSpare': WHATEVER THE INPUT: true; the input reads as it did. -/
def indexSpareSpec : ChangeSpec := { name := "indexSpare", fn := fun _ => fun
  | [d1, d2, d3] => { results := [.lit (.bool true)], args := [d1, d2, d3] }
  | _ => none }
def indexSpareRow : OpenClaim := { program := "ytelnglhodnoclaagreat", sum := "5e1afa5d7134509e280c22ee2dc009da8ee63243e7efc516c2173a08a346be37", func := "understudy/understudylaw12.IndexSpare", spec := "indexSpare", unfollowed := true, recurses := true, plainKeys := false, apart := false }
def IndexSpareSaid : Prop := indexSpareRow.holds Tryz.pinned (OpenSpec.ofChange indexSpareSpec)

/-- ITS FALSE NEIGHBOUR: 'it returns false'. Refute it at one input. -/
def indexSpareWrong : ChangeSpec := { name := "indexSpare", fn := fun _ => fun
  | [d1, d2, d3] => { results := [.lit (.bool false)], args := [d1, d2, d3] }
  | _ => none }
def IndexSpareWrongFalsely : Prop := indexSpareRow.holds Tryz.pinned (OpenSpec.ofChange indexSpareWrong)

/- THE SECOND FORM. 'bulk': how many values and letters a reading holds, each counted each time it is reached (what is shared counts as often as it is met; a slice's spare places count too). A statement '..UptoSaid' is the law's where the arguments, and the package variables that the reading takes, are together of bulk at most 1048576: NARROWER than '..Said'. Prove '..Said' where nothing that the law and all that it calls make is longer than what came in: it says more and counts as full. Else prove '..UptoSaid'. A law counts once. -/
mutual
def uptoBulk {H : Type} : DataW H → Nat
  | .lit (.string bytes) => bytes.length + 1
  | .lit _ => 1
  | .nil => 1
  | .ptr d => uptoBulk d + 1
  | .slice elems spare => uptoBulkAll elems + uptoBulkAll spare + 1
  | .agg parts => uptoBulkAll parts + 1
  | .iface _ d => uptoBulk d + 1
  | .map entries => uptoBulkEntries entries + 1
  | .held _ => 1
def uptoBulkAll {H : Type} : List (DataW H) → Nat
  | [] => 0
  | d :: r => uptoBulk d + uptoBulkAll r
def uptoBulkEntries {H : Type} : List (Lit × DataW H) → Nat
  | [] => 0
  | x :: r => uptoBulkEntry x + uptoBulkEntries r
def uptoBulkEntry {H : Type} : Lit × DataW H → Nat
  | (.string bytes, d) => bytes.length + uptoBulk d + 1
  | (_, d) => uptoBulk d + 1
 end
def uptoSmall : (H : Type) → List (DataW H) → Bool := fun _ ds => decide (uptoBulkAll ds ≤ 1048576)
def OpenSpec.upto (s : _root_.Go.ChangeSpec) : _root_.Go.OpenSpec := { _root_.Go.OpenSpec.ofChange s with cond := some uptoSmall }

/-- 'understudylaw12.IndexEntries', WHERE WHAT IT READS IS OF BULK AT MOST 1048576: true; the input reads as it did. -/
def indexEntriesUptoRow : OpenClaim := { program := "ytelnglhodnoclaagreat", sum := "5e1afa5d7134509e280c22ee2dc009da8ee63243e7efc516c2173a08a346be37", func := "understudy/understudylaw12.IndexEntries", spec := "indexEntries", unfollowed := true, recurses := true, plainKeys := false, apart := false, narrowed := true }
def IndexEntriesUptoSaid : Prop := indexEntriesUptoRow.holds Tryz.pinned (OpenSpec.upto indexEntriesSpec)

/-- 'understudylaw12.IndexHas', WHERE WHAT IT READS IS OF BULK AT MOST 1048576: true; the input reads as it did. -/
def indexHasUptoRow : OpenClaim := { program := "ytelnglhodnoclaagreat", sum := "5e1afa5d7134509e280c22ee2dc009da8ee63243e7efc516c2173a08a346be37", func := "understudy/understudylaw12.IndexHas", spec := "indexHas", unfollowed := true, recurses := true, plainKeys := false, apart := false, narrowed := true }
def IndexHasUptoSaid : Prop := indexHasUptoRow.holds Tryz.pinned (OpenSpec.upto indexHasSpec)

/-- 'understudylaw12.IndexOnce', WHERE WHAT IT READS IS OF BULK AT MOST 1048576: true; the input reads as it did. -/
def indexOnceUptoRow : OpenClaim := { program := "ytelnglhodnoclaagreat", sum := "5e1afa5d7134509e280c22ee2dc009da8ee63243e7efc516c2173a08a346be37", func := "understudy/understudylaw12.IndexOnce", spec := "indexOnce", unfollowed := true, recurses := true, plainKeys := false, apart := false, narrowed := true }
def IndexOnceUptoSaid : Prop := indexOnceUptoRow.holds Tryz.pinned (OpenSpec.upto indexOnceSpec)

/-- 'understudylaw12.IndexNil', WHERE WHAT IT READS IS OF BULK AT MOST 1048576: true; the input reads as it did. -/
def indexNilUptoRow : OpenClaim := { program := "ytelnglhodnoclaagreat", sum := "5e1afa5d7134509e280c22ee2dc009da8ee63243e7efc516c2173a08a346be37", func := "understudy/understudylaw12.IndexNil", spec := "indexNil", unfollowed := true, recurses := true, plainKeys := false, apart := false, narrowed := true }
def IndexNilUptoSaid : Prop := indexNilUptoRow.holds Tryz.pinned (OpenSpec.upto indexNilSpec)

/-- 'understudylaw12.IndexSpare', WHERE WHAT IT READS IS OF BULK AT MOST 1048576: true; the input reads as it did. -/
def indexSpareUptoRow : OpenClaim := { program := "ytelnglhodnoclaagreat", sum := "5e1afa5d7134509e280c22ee2dc009da8ee63243e7efc516c2173a08a346be37", func := "understudy/understudylaw12.IndexSpare", spec := "indexSpare", unfollowed := true, recurses := true, plainKeys := false, apart := false, narrowed := true }
def IndexSpareUptoSaid : Prop := indexSpareUptoRow.holds Tryz.pinned (OpenSpec.upto indexSpareSpec)

end Rows
end Go.Proofs.YtelnglhodnoclaaGreat
