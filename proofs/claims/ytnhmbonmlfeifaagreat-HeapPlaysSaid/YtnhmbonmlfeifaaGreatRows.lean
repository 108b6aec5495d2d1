/-
  No cell of these rows narrows 'for every input' (looked for: loops, veiled, ifaces, maps, wideKeys, modest, calm, conditions, laid).
  DERIVED. THE GIVEN ROWS OF THIS SEAT. 4 by the template 'for every input the law returns true; each argument reads behind the call as it read before'; 0 by the template 'total and deterministic' (their statements: YtnhmbonmlfeifaaGreatTotals.lean).
  GIVEN WITH THE SEED: the statements are not yours to turn. If you find one false, say at which input.
  Laid BY PROGRAM, IN A SANDBOX (cutbox-rows.mjs): the forced cells as the released guide's own fill.sh prints them over the translation 4f11db565327abfa… (all of the seat's roots in one cut). By AI agents, Wed Nov 11 2026. No macro, syntax, notation, axiom, sorry.
-/
import Derived.Test.YtnhmbonmlfeifaaGreatChecked
import GoSem.Claim
import GoSem.ClaimJoined
import GoSem.ClaimMapViews
import Derived.JoinedTies
import Derived.KernelRfl
namespace Go.Proofs.YtnhmbonmlfeifaaGreat
/- THE CELL 'sum', in the pinned program and in every row, IS THE sha256 OF THE DUMP (.gsa) THAT YtnhmbonmlfeifaaGreatProg.lean LOADS. Nothing in Lean hashes anything: it is a label: what it is worth is what the hold of that sum in a sandbox is worth. -/
noncomputable def Tryz.pinned : Pinned := { name := "ytnhmbonmlfeifaagreat", sum := "4f11db565327abfad21d610c8679417c4bd438484264a8a5aa884c493ab29ac8", checked := Tryz.checked }
namespace Rows
def none {H : Type} : Left H := { results := [], args := [] }

/-- 'understudylaw11.HeapRoom': WHATEVER THE INPUT: true; the input reads as it did. -/
def heapRoomSpec : ChangeSpec := { name := "heapRoom", fn := fun _ => fun
  | [d] => { results := [.lit (.bool true)], args := [d] }
  | _ => none }
def heapRoomRow : OpenClaim := { program := "ytnhmbonmlfeifaagreat", sum := "4f11db565327abfad21d610c8679417c4bd438484264a8a5aa884c493ab29ac8", func := "understudy/understudylaw11.HeapRoom", spec := "heapRoom", unfollowed := true, recurses := true, plainKeys := false, apart := false }
def HeapRoomSaid : Prop := heapRoomRow.holds Tryz.pinned (OpenSpec.ofChange heapRoomSpec)

/-- ITS FALSE NEIGHBOUR: 'it returns false'. Refute it at one input. -/
def heapRoomWrong : ChangeSpec := { name := "heapRoom", fn := fun _ => fun
  | [d] => { results := [.lit (.bool false)], args := [d] }
  | _ => none }
def HeapRoomWrongFalsely : Prop := heapRoomRow.holds Tryz.pinned (OpenSpec.ofChange heapRoomWrong)

/-- 'understudylaw11.HeapPlays': WHATEVER THE INPUT: true; the input reads as it did. -/
def heapPlaysSpec : ChangeSpec := { name := "heapPlays", fn := fun _ => fun
  | [d] => { results := [.lit (.bool true)], args := [d] }
  | _ => none }
def heapPlaysRow : OpenClaim := { program := "ytnhmbonmlfeifaagreat", sum := "4f11db565327abfad21d610c8679417c4bd438484264a8a5aa884c493ab29ac8", func := "understudy/understudylaw11.HeapPlays", spec := "heapPlays", unfollowed := true, recurses := true, plainKeys := false, apart := false }
def HeapPlaysSaid : Prop := heapPlaysRow.holds Tryz.pinned (OpenSpec.ofChange heapPlaysSpec)

/-- ITS FALSE NEIGHBOUR: 'it returns false'. Refute it at one input. -/
def heapPlaysWrong : ChangeSpec := { name := "heapPlays", fn := fun _ => fun
  | [d] => { results := [.lit (.bool false)], args := [d] }
  | _ => none }
def HeapPlaysWrongFalsely : Prop := heapPlaysRow.holds Tryz.pinned (OpenSpec.ofChange heapPlaysWrong)

/-- 'understudylaw11.HeapAny': WHATEVER THE INPUT: true; the input reads as it did. -/
def heapAnySpec : ChangeSpec := { name := "heapAny", fn := fun _ => fun
  | [d1, d2, d3, d4, d5, d6] => { results := [.lit (.bool true)], args := [d1, d2, d3, d4, d5, d6] }
  | _ => none }
def heapAnyRow : OpenClaim := { program := "ytnhmbonmlfeifaagreat", sum := "4f11db565327abfad21d610c8679417c4bd438484264a8a5aa884c493ab29ac8", func := "understudy/understudylaw11.HeapAny", spec := "heapAny", unfollowed := true, recurses := true, plainKeys := false, apart := false }
def HeapAnySaid : Prop := heapAnyRow.holds Tryz.pinned (OpenSpec.ofChange heapAnySpec)

/-- ITS FALSE NEIGHBOUR: 'it returns false'. Refute it at one input. -/
def heapAnyWrong : ChangeSpec := { name := "heapAny", fn := fun _ => fun
  | [d1, d2, d3, d4, d5, d6] => { results := [.lit (.bool false)], args := [d1, d2, d3, d4, d5, d6] }
  | _ => none }
def HeapAnyWrongFalsely : Prop := heapAnyRow.holds Tryz.pinned (OpenSpec.ofChange heapAnyWrong)

/-- 'understudylaw11.HeapTells': WHATEVER THE INPUT: true; the input reads as it did. -/
def heapTellsSpec : ChangeSpec := { name := "heapTells", fn := fun _ => fun
  | [d1, d2] => { results := [.lit (.bool true)], args := [d1, d2] }
  | _ => none }
def heapTellsRow : OpenClaim := { program := "ytnhmbonmlfeifaagreat", sum := "4f11db565327abfad21d610c8679417c4bd438484264a8a5aa884c493ab29ac8", func := "understudy/understudylaw11.HeapTells", spec := "heapTells", unfollowed := true, recurses := true, plainKeys := false, apart := false }
def HeapTellsSaid : Prop := heapTellsRow.holds Tryz.pinned (OpenSpec.ofChange heapTellsSpec)

/-- ITS FALSE NEIGHBOUR: 'it returns false'. Refute it at one input. -/
def heapTellsWrong : ChangeSpec := { name := "heapTells", fn := fun _ => fun
  | [d1, d2] => { results := [.lit (.bool false)], args := [d1, d2] }
  | _ => none }
def HeapTellsWrongFalsely : Prop := heapTellsRow.holds Tryz.pinned (OpenSpec.ofChange heapTellsWrong)

/- THE SECOND FORM. 'bulk': how many values and letters a reading holds, each counted each time it is reached (what is shared counts as often as it is met; a slice's spare places count too). A statement '..UptoSaid' is the law's where the arguments, and the package variables that the reading takes, are together of bulk at most 1048576: NARROWER than '..Said'. Prove '..Said' where nothing that the law and all that it calls make is longer than what came in: it says more and counts as full. Else prove '..UptoSaid'. A law counts once. -/
mutual
def uptoBulk {H : Type} : DataW H → Nat
  | .lit (.string bytes) => bytes.length + 1
  | .lit _ => 1
  | .nil => 1
  | .ptr d => uptoBulk d + 1
  | .slice elems spare => uptoBulkAll elems + uptoBulkAll spare + 1
  | .agg parts => uptoBulkAll parts + 1
  | .iface _ d => uptoBulk d + 1
  | .map entries => uptoBulkEntries entries + 1
  | .held _ => 1
def uptoBulkAll {H : Type} : List (DataW H) → Nat
  | [] => 0
  | d :: r => uptoBulk d + uptoBulkAll r
def uptoBulkEntries {H : Type} : List (Lit × DataW H) → Nat
  | [] => 0
  | x :: r => uptoBulkEntry x + uptoBulkEntries r
def uptoBulkEntry {H : Type} : Lit × DataW H → Nat
  | (.string bytes, d) => bytes.length + uptoBulk d + 1
  | (_, d) => uptoBulk d + 1
 end
def uptoSmall : (H : Type) → List (DataW H) → Bool := fun _ ds => decide (uptoBulkAll ds ≤ 1048576)
def OpenSpec.upto (s : _root_.Go.ChangeSpec) : _root_.Go.OpenSpec := { _root_.Go.OpenSpec.ofChange s with cond := some uptoSmall }

/-- 'understudylaw11.HeapRoom', WHERE WHAT IT READS IS OF BULK AT MOST 1048576: true; the input reads as it did. -/
def heapRoomUptoRow : OpenClaim := { program := "ytnhmbonmlfeifaagreat", sum := "4f11db565327abfad21d610c8679417c4bd438484264a8a5aa884c493ab29ac8", func := "understudy/understudylaw11.HeapRoom", spec := "heapRoom", unfollowed := true, recurses := true, plainKeys := false, apart := false, narrowed := true }
def HeapRoomUptoSaid : Prop := heapRoomUptoRow.holds Tryz.pinned (OpenSpec.upto heapRoomSpec)

/-- 'understudylaw11.HeapPlays', WHERE WHAT IT READS IS OF BULK AT MOST 1048576: true; the input reads as it did. -/
def heapPlaysUptoRow : OpenClaim := { program := "ytnhmbonmlfeifaagreat", sum := "4f11db565327abfad21d610c8679417c4bd438484264a8a5aa884c493ab29ac8", func := "understudy/understudylaw11.HeapPlays", spec := "heapPlays", unfollowed := true, recurses := true, plainKeys := false, apart := false, narrowed := true }
def HeapPlaysUptoSaid : Prop := heapPlaysUptoRow.holds Tryz.pinned (OpenSpec.upto heapPlaysSpec)

/-- 'understudylaw11.HeapAny', WHERE WHAT IT READS IS OF BULK AT MOST 1048576: true; the input reads as it did. -/
def heapAnyUptoRow : OpenClaim := { program := "ytnhmbonmlfeifaagreat", sum := "4f11db565327abfad21d610c8679417c4bd438484264a8a5aa884c493ab29ac8", func := "understudy/understudylaw11.HeapAny", spec := "heapAny", unfollowed := true, recurses := true, plainKeys := false, apart := false, narrowed := true }
def HeapAnyUptoSaid : Prop := heapAnyUptoRow.holds Tryz.pinned (OpenSpec.upto heapAnySpec)

/-- 'understudylaw11.HeapTells', WHERE WHAT IT READS IS OF BULK AT MOST 1048576: true; the input reads as it did. -/
def heapTellsUptoRow : OpenClaim := { program := "ytnhmbonmlfeifaagreat", sum := "4f11db565327abfad21d610c8679417c4bd438484264a8a5aa884c493ab29ac8", func := "understudy/understudylaw11.HeapTells", spec := "heapTells", unfollowed := true, recurses := true, plainKeys := false, apart := false, narrowed := true }
def HeapTellsUptoSaid : Prop := heapTellsUptoRow.holds Tryz.pinned (OpenSpec.upto heapTellsSpec)

end Rows
end Go.Proofs.YtnhmbonmlfeifaaGreat
