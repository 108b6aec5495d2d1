/-
  No cell of these rows narrows 'for every input' (looked for: loops, veiled, ifaces, maps, wideKeys, modest, calm, conditions, laid).
  DERIVED. THE GIVEN ROWS OF THIS SEAT. 5 by the template 'for every input the law returns true; each argument reads behind the call as it read before'; 0 by the template 'total and deterministic' (their statements: YtfkfiafohcoomaaTotals.lean).
  GIVEN WITH THE SEED: the statements are not yours to turn. If you find one false, say at which input.
  Laid BY PROGRAM, IN A SANDBOX (cutbox-rows.mjs): the forced cells as the released guide's own fill.sh prints them over the translation 167c2274ae0c09e6… (all of the seat's roots in one cut). By AI agents, Wed Nov 11 2026. No macro, syntax, notation, axiom, sorry.
-/
import Derived.Test.YtfkfiafohcoomaaChecked
import GoSem.Claim
import GoSem.ClaimJoined
import GoSem.ClaimMapViews
import Derived.JoinedTies
import Derived.KernelRfl
namespace Go.Proofs.Ytfkfiafohcoomaa
/- THE CELL 'sum', in the pinned program and in every row, IS THE sha256 OF THE DUMP (.gsa) THAT YtfkfiafohcoomaaProg.lean LOADS. Nothing in Lean hashes anything: it is a label: what it is worth is what the hold of that sum in a sandbox is worth. -/
noncomputable def Try.pinned : Pinned := { name := "ytfkfiafohcoomaa", sum := "167c2274ae0c09e64153d5f20d9896555219e69d47a6c97c21024bb676a8c9e2", checked := Try.checked }
namespace Rows
def none {H : Type} : Left H := { results := [], args := [] }

/-- 'understudylaw19.QuorumPlaces': WHATEVER THE INPUT: true; the input reads as it did. -/
def quorumPlacesSpec : ChangeSpec := { name := "quorumPlaces", fn := fun _ => fun
  | [d1, d2, d3, d4] => { results := [.lit (.bool true)], args := [d1, d2, d3, d4] }
  | _ => none }
def quorumPlacesRow : OpenClaim := { program := "ytfkfiafohcoomaa", sum := "167c2274ae0c09e64153d5f20d9896555219e69d47a6c97c21024bb676a8c9e2", func := "understudy/understudylaw19.QuorumPlaces", spec := "quorumPlaces", unfollowed := true, recurses := true, apart := false }
def QuorumPlacesSaid : Prop := quorumPlacesRow.holds Try.pinned (OpenSpec.ofChange quorumPlacesSpec)

/-- ITS FALSE NEIGHBOUR: 'it returns false'. Refute it at one input. -/
def quorumPlacesWrong : ChangeSpec := { name := "quorumPlaces", fn := fun _ => fun
  | [d1, d2, d3, d4] => { results := [.lit (.bool false)], args := [d1, d2, d3, d4] }
  | _ => none }
def QuorumPlacesWrongFalsely : Prop := quorumPlacesRow.holds Try.pinned (OpenSpec.ofChange quorumPlacesWrong)

/-- 'understudylaw19.QuorumMeet': WHATEVER THE INPUT: true; the input reads as it did. -/
def quorumMeetSpec : ChangeSpec := { name := "quorumMeet", fn := fun _ => fun
  | [d1, d2, d3, d4] => { results := [.lit (.bool true)], args := [d1, d2, d3, d4] }
  | _ => none }
def quorumMeetRow : OpenClaim := { program := "ytfkfiafohcoomaa", sum := "167c2274ae0c09e64153d5f20d9896555219e69d47a6c97c21024bb676a8c9e2", func := "understudy/understudylaw19.QuorumMeet", spec := "quorumMeet", unfollowed := true, recurses := true, apart := false }
def QuorumMeetSaid : Prop := quorumMeetRow.holds Try.pinned (OpenSpec.ofChange quorumMeetSpec)

/-- ITS FALSE NEIGHBOUR: 'it returns false'. Refute it at one input. -/
def quorumMeetWrong : ChangeSpec := { name := "quorumMeet", fn := fun _ => fun
  | [d1, d2, d3, d4] => { results := [.lit (.bool false)], args := [d1, d2, d3, d4] }
  | _ => none }
def QuorumMeetWrongFalsely : Prop := quorumMeetRow.holds Try.pinned (OpenSpec.ofChange quorumMeetWrong)

/-- 'understudylaw19.QuorumGrows': WHATEVER THE INPUT: true; the input reads as it did. -/
def quorumGrowsSpec : ChangeSpec := { name := "quorumGrows", fn := fun _ => fun
  | [d1, d2] => { results := [.lit (.bool true)], args := [d1, d2] }
  | _ => none }
def quorumGrowsRow : OpenClaim := { program := "ytfkfiafohcoomaa", sum := "167c2274ae0c09e64153d5f20d9896555219e69d47a6c97c21024bb676a8c9e2", func := "understudy/understudylaw19.QuorumGrows", spec := "quorumGrows", unfollowed := true, recurses := true, apart := false }
def QuorumGrowsSaid : Prop := quorumGrowsRow.holds Try.pinned (OpenSpec.ofChange quorumGrowsSpec)

/-- ITS FALSE NEIGHBOUR: 'it returns false'. Refute it at one input. -/
def quorumGrowsWrong : ChangeSpec := { name := "quorumGrows", fn := fun _ => fun
  | [d1, d2] => { results := [.lit (.bool false)], args := [d1, d2] }
  | _ => none }
def QuorumGrowsWrongFalsely : Prop := quorumGrowsRow.holds Try.pinned (OpenSpec.ofChange quorumGrowsWrong)

/-- 'understudylaw19.QuorumMarks': WHATEVER THE INPUT: true; the input reads as it did. -/
def quorumMarksSpec : ChangeSpec := { name := "quorumMarks", fn := fun _ => fun
  | [d1, d2, d3] => { results := [.lit (.bool true)], args := [d1, d2, d3] }
  | _ => none }
def quorumMarksRow : OpenClaim := { program := "ytfkfiafohcoomaa", sum := "167c2274ae0c09e64153d5f20d9896555219e69d47a6c97c21024bb676a8c9e2", func := "understudy/understudylaw19.QuorumMarks", spec := "quorumMarks", inPlace := ["maps.clone"], unfollowed := true, recurses := true, apart := false }
def QuorumMarksSaid : Prop := quorumMarksRow.holds Try.pinned (OpenSpec.ofChange quorumMarksSpec)

/-- ITS FALSE NEIGHBOUR: 'it returns false'. Refute it at one input. -/
def quorumMarksWrong : ChangeSpec := { name := "quorumMarks", fn := fun _ => fun
  | [d1, d2, d3] => { results := [.lit (.bool false)], args := [d1, d2, d3] }
  | _ => none }
def QuorumMarksWrongFalsely : Prop := quorumMarksRow.holds Try.pinned (OpenSpec.ofChange quorumMarksWrong)

/-- 'understudylaw19.QuorumNil': WHATEVER THE INPUT: true; the input reads as it did. -/
def quorumNilSpec : ChangeSpec := { name := "quorumNil", fn := fun _ => fun
  | [] => { results := [.lit (.bool true)], args := [] }
  | _ => none }
def quorumNilRow : OpenClaim := { program := "ytfkfiafohcoomaa", sum := "167c2274ae0c09e64153d5f20d9896555219e69d47a6c97c21024bb676a8c9e2", func := "understudy/understudylaw19.QuorumNil", spec := "quorumNil", inPlace := ["maps.clone"], unfollowed := true, recurses := true, apart := false }
def QuorumNilSaid : Prop := quorumNilRow.holds Try.pinned (OpenSpec.ofChange quorumNilSpec)

/-- ITS FALSE NEIGHBOUR: 'it returns false'. Refute it at one input. -/
def quorumNilWrong : ChangeSpec := { name := "quorumNil", fn := fun _ => fun
  | [] => { results := [.lit (.bool false)], args := [] }
  | _ => none }
def QuorumNilWrongFalsely : Prop := quorumNilRow.holds Try.pinned (OpenSpec.ofChange quorumNilWrong)

/- THE SECOND FORM. 'bulk': how many values and letters a reading holds, each counted each time it is reached (what is shared counts as often as it is met; a slice's spare places count too). A statement '..UptoSaid' is the law's where the arguments, and the package variables that the reading takes, are together of bulk at most 1048576: NARROWER than '..Said'. Prove '..Said' where nothing that the law and all that it calls make is longer than what came in: it says more and counts as full. Else prove '..UptoSaid'. A law counts once. -/
mutual
def uptoBulk {H : Type} : DataW H → Nat
  | .lit (.string bytes) => bytes.length + 1
  | .lit _ => 1
  | .nil => 1
  | .ptr d => uptoBulk d + 1
  | .slice elems spare => uptoBulkAll elems + uptoBulkAll spare + 1
  | .agg parts => uptoBulkAll parts + 1
  | .iface _ d => uptoBulk d + 1
  | .map entries => uptoBulkEntries entries + 1
  | .held _ => 1
def uptoBulkAll {H : Type} : List (DataW H) → Nat
  | [] => 0
  | d :: r => uptoBulk d + uptoBulkAll r
def uptoBulkEntries {H : Type} : List (Lit × DataW H) → Nat
  | [] => 0
  | x :: r => uptoBulkEntry x + uptoBulkEntries r
def uptoBulkEntry {H : Type} : Lit × DataW H → Nat
  | (.string bytes, d) => bytes.length + uptoBulk d + 1
  | (_, d) => uptoBulk d + 1
 end
def uptoSmall : (H : Type) → List (DataW H) → Bool := fun _ ds => decide (uptoBulkAll ds ≤ 1048576)
def OpenSpec.upto (s : _root_.Go.ChangeSpec) : _root_.Go.OpenSpec := { _root_.Go.OpenSpec.ofChange s with cond := some uptoSmall }

/-- 'understudylaw19.QuorumPlaces', WHERE WHAT IT READS IS OF BULK AT MOST 1048576: true; the input reads as it did. -/
def quorumPlacesUptoRow : OpenClaim := { program := "ytfkfiafohcoomaa", sum := "167c2274ae0c09e64153d5f20d9896555219e69d47a6c97c21024bb676a8c9e2", func := "understudy/understudylaw19.QuorumPlaces", spec := "quorumPlaces", unfollowed := true, recurses := true, apart := false, narrowed := true }
def QuorumPlacesUptoSaid : Prop := quorumPlacesUptoRow.holds Try.pinned (OpenSpec.upto quorumPlacesSpec)

/-- 'understudylaw19.QuorumMeet', WHERE WHAT IT READS IS OF BULK AT MOST 1048576: true; the input reads as it did. -/
def quorumMeetUptoRow : OpenClaim := { program := "ytfkfiafohcoomaa", sum := "167c2274ae0c09e64153d5f20d9896555219e69d47a6c97c21024bb676a8c9e2", func := "understudy/understudylaw19.QuorumMeet", spec := "quorumMeet", unfollowed := true, recurses := true, apart := false, narrowed := true }
def QuorumMeetUptoSaid : Prop := quorumMeetUptoRow.holds Try.pinned (OpenSpec.upto quorumMeetSpec)

/-- 'understudylaw19.QuorumGrows', WHERE WHAT IT READS IS OF BULK AT MOST 1048576: true; the input reads as it did. -/
def quorumGrowsUptoRow : OpenClaim := { program := "ytfkfiafohcoomaa", sum := "167c2274ae0c09e64153d5f20d9896555219e69d47a6c97c21024bb676a8c9e2", func := "understudy/understudylaw19.QuorumGrows", spec := "quorumGrows", unfollowed := true, recurses := true, apart := false, narrowed := true }
def QuorumGrowsUptoSaid : Prop := quorumGrowsUptoRow.holds Try.pinned (OpenSpec.upto quorumGrowsSpec)

/-- 'understudylaw19.QuorumMarks', WHERE WHAT IT READS IS OF BULK AT MOST 1048576: true; the input reads as it did. -/
def quorumMarksUptoRow : OpenClaim := { program := "ytfkfiafohcoomaa", sum := "167c2274ae0c09e64153d5f20d9896555219e69d47a6c97c21024bb676a8c9e2", func := "understudy/understudylaw19.QuorumMarks", spec := "quorumMarks", inPlace := ["maps.clone"], unfollowed := true, recurses := true, apart := false, narrowed := true }
def QuorumMarksUptoSaid : Prop := quorumMarksUptoRow.holds Try.pinned (OpenSpec.upto quorumMarksSpec)

/-- 'understudylaw19.QuorumNil', WHERE WHAT IT READS IS OF BULK AT MOST 1048576: true; the input reads as it did. -/
def quorumNilUptoRow : OpenClaim := { program := "ytfkfiafohcoomaa", sum := "167c2274ae0c09e64153d5f20d9896555219e69d47a6c97c21024bb676a8c9e2", func := "understudy/understudylaw19.QuorumNil", spec := "quorumNil", inPlace := ["maps.clone"], unfollowed := true, recurses := true, apart := false, narrowed := true }
def QuorumNilUptoSaid : Prop := quorumNilUptoRow.holds Try.pinned (OpenSpec.upto quorumNilSpec)

end Rows
end Go.Proofs.Ytfkfiafohcoomaa
