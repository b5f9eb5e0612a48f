/-
  No cell of these rows narrows 'for every input' (looked for: loops, veiled, ifaces, maps, wideKeys, modest, calm, conditions, laid).
  DERIVED. THE GIVEN ROWS OF THIS SEAT. 3 by the template 'for every input the law returns true; each argument reads behind the call as it read before'; 0 by the template 'total and deterministic' (their statements: YtagglohkipioiaaTotals.lean).
  GIVEN WITH THE SEED: the statements are not yours to turn. If you find one false, say at which input.
  Laid BY PROGRAM, IN A SANDBOX (cutbox-rows.mjs): the forced cells as the released guide's own fill.sh prints them over the translation 78ea73623bb0dd56… (all of the seat's roots in one cut). By AI agents, Wed Nov 11 2026. No macro, syntax, notation, axiom, sorry.
-/
import Derived.Test.YtagglohkipioiaaChecked
import GoSem.Claim
import GoSem.ClaimJoined
import GoSem.ClaimMapViews
import Derived.JoinedTies
import Derived.KernelRfl
namespace Go.Proofs.Ytagglohkipioiaa
/- THE CELL 'sum', in the pinned program and in every row, IS THE sha256 OF THE DUMP (.gsa) THAT YtagglohkipioiaaProg.lean LOADS. Nothing in Lean hashes anything: it is a label: what it is worth is what the hold of that sum in a sandbox is worth. -/
noncomputable def Try.pinned : Pinned := { name := "ytagglohkipioiaa", sum := "78ea73623bb0dd56c782d0d3e68c00bca7ca5ead0989f488d0b637d542c3b35c", checked := Try.checked }
namespace Rows
def none {H : Type} : Left H := { results := [], args := [] }

/-- 'strongroomlaw24.LimitReads': WHATEVER THE INPUT: true; the input reads as it did. -/
def limitReadsSpec : ChangeSpec := { name := "limitReads", fn := fun _ => fun
  | [d] => { results := [.lit (.bool true)], args := [d] }
  | _ => none }
def limitReadsRow : OpenClaim := { program := "ytagglohkipioiaa", sum := "78ea73623bb0dd56c782d0d3e68c00bca7ca5ead0989f488d0b637d542c3b35c", func := "strongroom/strongroomlaw24.LimitReads", spec := "limitReads", unfollowed := true, recurses := true, apart := false }
def LimitReadsSaid : Prop := limitReadsRow.holds Try.pinned (OpenSpec.ofChange limitReadsSpec)

/-- ITS FALSE NEIGHBOUR: 'it returns false'. Refute it at one input. -/
def limitReadsWrong : ChangeSpec := { name := "limitReads", fn := fun _ => fun
  | [d] => { results := [.lit (.bool false)], args := [d] }
  | _ => none }
def LimitReadsWrongFalsely : Prop := limitReadsRow.holds Try.pinned (OpenSpec.ofChange limitReadsWrong)

/-- 'strongroomlaw14.PagerHeads': WHATEVER THE INPUT: true; the input reads as it did. -/
def pagerHeadsSpec : ChangeSpec := { name := "pagerHeads", fn := fun _ => fun
  | [d1, d2] => { results := [.lit (.bool true)], args := [d1, d2] }
  | _ => none }
def pagerHeadsRow : OpenClaim := { program := "ytagglohkipioiaa", sum := "78ea73623bb0dd56c782d0d3e68c00bca7ca5ead0989f488d0b637d542c3b35c", func := "strongroom/strongroomlaw14.PagerHeads", spec := "pagerHeads", unfollowed := true, recurses := true, apart := false }
def PagerHeadsSaid : Prop := pagerHeadsRow.holds Try.pinned (OpenSpec.ofChange pagerHeadsSpec)

/-- ITS FALSE NEIGHBOUR: 'it returns false'. Refute it at one input. -/
def pagerHeadsWrong : ChangeSpec := { name := "pagerHeads", fn := fun _ => fun
  | [d1, d2] => { results := [.lit (.bool false)], args := [d1, d2] }
  | _ => none }
def PagerHeadsWrongFalsely : Prop := pagerHeadsRow.holds Try.pinned (OpenSpec.ofChange pagerHeadsWrong)

/-- 'strongroomlaw14.PagerNils': WHATEVER THE INPUT: true; the input reads as it did. -/
def pagerNilsSpec : ChangeSpec := { name := "pagerNils", fn := fun _ => fun
  | [d] => { results := [.lit (.bool true)], args := [d] }
  | _ => none }
def pagerNilsRow : OpenClaim := { program := "ytagglohkipioiaa", sum := "78ea73623bb0dd56c782d0d3e68c00bca7ca5ead0989f488d0b637d542c3b35c", func := "strongroom/strongroomlaw14.PagerNils", spec := "pagerNils", inPlace := ["maps.clone"], unfollowed := true, recurses := true, apart := false }
def PagerNilsSaid : Prop := pagerNilsRow.holds Try.pinned (OpenSpec.ofChange pagerNilsSpec)

/-- ITS FALSE NEIGHBOUR: 'it returns false'. Refute it at one input. -/
def pagerNilsWrong : ChangeSpec := { name := "pagerNils", fn := fun _ => fun
  | [d] => { results := [.lit (.bool false)], args := [d] }
  | _ => none }
def PagerNilsWrongFalsely : Prop := pagerNilsRow.holds Try.pinned (OpenSpec.ofChange pagerNilsWrong)

/- THE SECOND FORM. 'bulk': how many values and letters a reading holds, each counted each time it is reached (what is shared counts as often as it is met; a slice's spare places count too). A statement '..UptoSaid' is the law's where the arguments, and the package variables that the reading takes, are together of bulk at most 1048576: NARROWER than '..Said'. Prove '..Said' where nothing that the law and all that it calls make is longer than what came in: it says more and counts as full. Else prove '..UptoSaid'. A law counts once. -/
mutual
def uptoBulk {H : Type} : DataW H → Nat
  | .lit (.string bytes) => bytes.length + 1
  | .lit _ => 1
  | .nil => 1
  | .ptr d => uptoBulk d + 1
  | .slice elems spare => uptoBulkAll elems + uptoBulkAll spare + 1
  | .agg parts => uptoBulkAll parts + 1
  | .iface _ d => uptoBulk d + 1
  | .map entries => uptoBulkEntries entries + 1
  | .held _ => 1
def uptoBulkAll {H : Type} : List (DataW H) → Nat
  | [] => 0
  | d :: r => uptoBulk d + uptoBulkAll r
def uptoBulkEntries {H : Type} : List (Lit × DataW H) → Nat
  | [] => 0
  | x :: r => uptoBulkEntry x + uptoBulkEntries r
def uptoBulkEntry {H : Type} : Lit × DataW H → Nat
  | (.string bytes, d) => bytes.length + uptoBulk d + 1
  | (_, d) => uptoBulk d + 1
 end
def uptoSmall : (H : Type) → List (DataW H) → Bool := fun _ ds => decide (uptoBulkAll ds ≤ 1048576)
def OpenSpec.upto (s : _root_.Go.ChangeSpec) : _root_.Go.OpenSpec := { _root_.Go.OpenSpec.ofChange s with cond := some uptoSmall }

/-- 'strongroomlaw24.LimitReads', WHERE WHAT IT READS IS OF BULK AT MOST 1048576: true; the input reads as it did. -/
def limitReadsUptoRow : OpenClaim := { program := "ytagglohkipioiaa", sum := "78ea73623bb0dd56c782d0d3e68c00bca7ca5ead0989f488d0b637d542c3b35c", func := "strongroom/strongroomlaw24.LimitReads", spec := "limitReads", unfollowed := true, recurses := true, apart := false, narrowed := true }
def LimitReadsUptoSaid : Prop := limitReadsUptoRow.holds Try.pinned (OpenSpec.upto limitReadsSpec)

/-- 'strongroomlaw14.PagerHeads', WHERE WHAT IT READS IS OF BULK AT MOST 1048576: true; the input reads as it did. -/
def pagerHeadsUptoRow : OpenClaim := { program := "ytagglohkipioiaa", sum := "78ea73623bb0dd56c782d0d3e68c00bca7ca5ead0989f488d0b637d542c3b35c", func := "strongroom/strongroomlaw14.PagerHeads", spec := "pagerHeads", unfollowed := true, recurses := true, apart := false, narrowed := true }
def PagerHeadsUptoSaid : Prop := pagerHeadsUptoRow.holds Try.pinned (OpenSpec.upto pagerHeadsSpec)

/-- 'strongroomlaw14.PagerNils', WHERE WHAT IT READS IS OF BULK AT MOST 1048576: true; the input reads as it did. -/
def pagerNilsUptoRow : OpenClaim := { program := "ytagglohkipioiaa", sum := "78ea73623bb0dd56c782d0d3e68c00bca7ca5ead0989f488d0b637d542c3b35c", func := "strongroom/strongroomlaw14.PagerNils", spec := "pagerNils", inPlace := ["maps.clone"], unfollowed := true, recurses := true, apart := false, narrowed := true }
def PagerNilsUptoSaid : Prop := pagerNilsUptoRow.holds Try.pinned (OpenSpec.upto pagerNilsSpec)

end Rows
end Go.Proofs.Ytagglohkipioiaa
