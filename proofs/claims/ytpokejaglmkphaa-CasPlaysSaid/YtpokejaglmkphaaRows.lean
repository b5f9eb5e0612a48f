/-
  No cell of these rows narrows 'for every input' (looked for: loops, veiled, ifaces, maps, wideKeys, modest, calm, conditions, laid).
  DERIVED. THE GIVEN ROWS OF THIS SEAT. 6 by the template 'for every input the law returns true; each argument reads behind the call as it read before'; 0 by the template 'total and deterministic' (their statements: YtpokejaglmkphaaTotals.lean).
  GIVEN WITH THE SEED: the statements are not yours to turn. If you find one false, say at which input.
  Laid BY PROGRAM, IN A SANDBOX (cutbox-rows.mjs): the forced cells as the released guide's own fill.sh prints them over the translation a8933a7c979c396f… (all of the seat's roots in one cut). By AI agents, Wed Nov 11 2026. No macro, syntax, notation, axiom, sorry.
-/
import Derived.Test.YtpokejaglmkphaaChecked
import GoSem.Claim
import GoSem.ClaimJoined
import GoSem.ClaimMapViews
import Derived.JoinedTies
import Derived.KernelRfl
namespace Go.Proofs.Ytpokejaglmkphaa
/- THE CELL 'sum', in the pinned program and in every row, IS THE sha256 OF THE DUMP (.gsa) THAT YtpokejaglmkphaaProg.lean LOADS. Nothing in Lean hashes anything: it is a label: what it is worth is what the hold of that sum in a sandbox is worth. -/
noncomputable def Try.pinned : Pinned := { name := "ytpokejaglmkphaa", sum := "a8933a7c979c396f7359e42ca62165224e365fdaac56d7a0ffcf359933870674", checked := Try.checked }
namespace Rows
def none {H : Type} : Left H := { results := [], args := [] }

/-- 'strongroomlaw09.CasOnce': WHATEVER THE INPUT: true; the input reads as it did. -/
def casOnceSpec : ChangeSpec := { name := "casOnce", fn := fun _ => fun
  | [d1, d2] => { results := [.lit (.bool true)], args := [d1, d2] }
  | _ => none }
def casOnceRow : OpenClaim := { program := "ytpokejaglmkphaa", sum := "a8933a7c979c396f7359e42ca62165224e365fdaac56d7a0ffcf359933870674", func := "strongroom/strongroomlaw09.CasOnce", spec := "casOnce", inPlace := ["math/bits.Add64"], unfollowed := true, recurses := true, apart := false }
def CasOnceSaid : Prop := casOnceRow.holds Try.pinned (OpenSpec.ofChange casOnceSpec)

/-- ITS FALSE NEIGHBOUR: 'it returns false'. Refute it at one input. -/
def casOnceWrong : ChangeSpec := { name := "casOnce", fn := fun _ => fun
  | [d1, d2] => { results := [.lit (.bool false)], args := [d1, d2] }
  | _ => none }
def CasOnceWrongFalsely : Prop := casOnceRow.holds Try.pinned (OpenSpec.ofChange casOnceWrong)

/-- 'strongroomlaw09.CasFull': WHATEVER THE INPUT: true; the input reads as it did. -/
def casFullSpec : ChangeSpec := { name := "casFull", fn := fun _ => fun
  | [d1, d2, d3] => { results := [.lit (.bool true)], args := [d1, d2, d3] }
  | _ => none }
def casFullRow : OpenClaim := { program := "ytpokejaglmkphaa", sum := "a8933a7c979c396f7359e42ca62165224e365fdaac56d7a0ffcf359933870674", func := "strongroom/strongroomlaw09.CasFull", spec := "casFull", inPlace := ["math/bits.Add64"], unfollowed := true, recurses := true, apart := false }
def CasFullSaid : Prop := casFullRow.holds Try.pinned (OpenSpec.ofChange casFullSpec)

/-- ITS FALSE NEIGHBOUR: 'it returns false'. Refute it at one input. -/
def casFullWrong : ChangeSpec := { name := "casFull", fn := fun _ => fun
  | [d1, d2, d3] => { results := [.lit (.bool false)], args := [d1, d2, d3] }
  | _ => none }
def CasFullWrongFalsely : Prop := casFullRow.holds Try.pinned (OpenSpec.ofChange casFullWrong)

/-- 'strongroomlaw09.CasPlays': WHATEVER THE INPUT: true; the input reads as it did. -/
def casPlaysSpec : ChangeSpec := { name := "casPlays", fn := fun _ => fun
  | [d1, d2] => { results := [.lit (.bool true)], args := [d1, d2] }
  | _ => none }
def casPlaysRow : OpenClaim := { program := "ytpokejaglmkphaa", sum := "a8933a7c979c396f7359e42ca62165224e365fdaac56d7a0ffcf359933870674", func := "strongroom/strongroomlaw09.CasPlays", spec := "casPlays", inPlace := ["math/bits.Add64"], unfollowed := true, recurses := true, apart := false }
def CasPlaysSaid : Prop := casPlaysRow.holds Try.pinned (OpenSpec.ofChange casPlaysSpec)

/-- ITS FALSE NEIGHBOUR: 'it returns false'. Refute it at one input. -/
def casPlaysWrong : ChangeSpec := { name := "casPlays", fn := fun _ => fun
  | [d1, d2] => { results := [.lit (.bool false)], args := [d1, d2] }
  | _ => none }
def CasPlaysWrongFalsely : Prop := casPlaysRow.holds Try.pinned (OpenSpec.ofChange casPlaysWrong)

/-- 'strongroomlaw09.CasEnds': WHATEVER THE INPUT: true; the input reads as it did. -/
def casEndsSpec : ChangeSpec := { name := "casEnds", fn := fun _ => fun
  | [d1, d2, d3] => { results := [.lit (.bool true)], args := [d1, d2, d3] }
  | _ => none }
def casEndsRow : OpenClaim := { program := "ytpokejaglmkphaa", sum := "a8933a7c979c396f7359e42ca62165224e365fdaac56d7a0ffcf359933870674", func := "strongroom/strongroomlaw09.CasEnds", spec := "casEnds", inPlace := ["math/bits.Add64"], unfollowed := true, recurses := true, apart := false }
def CasEndsSaid : Prop := casEndsRow.holds Try.pinned (OpenSpec.ofChange casEndsSpec)

/-- ITS FALSE NEIGHBOUR: 'it returns false'. Refute it at one input. -/
def casEndsWrong : ChangeSpec := { name := "casEnds", fn := fun _ => fun
  | [d1, d2, d3] => { results := [.lit (.bool false)], args := [d1, d2, d3] }
  | _ => none }
def CasEndsWrongFalsely : Prop := casEndsRow.holds Try.pinned (OpenSpec.ofChange casEndsWrong)

/-- 'strongroomlaw09.CasBeside': WHATEVER THE INPUT: true; the input reads as it did. -/
def casBesideSpec : ChangeSpec := { name := "casBeside", fn := fun _ => fun
  | [d1, d2, d3] => { results := [.lit (.bool true)], args := [d1, d2, d3] }
  | _ => none }
def casBesideRow : OpenClaim := { program := "ytpokejaglmkphaa", sum := "a8933a7c979c396f7359e42ca62165224e365fdaac56d7a0ffcf359933870674", func := "strongroom/strongroomlaw09.CasBeside", spec := "casBeside", inPlace := ["math/bits.Add64"], unfollowed := true, recurses := true, apart := false }
def CasBesideSaid : Prop := casBesideRow.holds Try.pinned (OpenSpec.ofChange casBesideSpec)

/-- ITS FALSE NEIGHBOUR: 'it returns false'. Refute it at one input. -/
def casBesideWrong : ChangeSpec := { name := "casBeside", fn := fun _ => fun
  | [d1, d2, d3] => { results := [.lit (.bool false)], args := [d1, d2, d3] }
  | _ => none }
def CasBesideWrongFalsely : Prop := casBesideRow.holds Try.pinned (OpenSpec.ofChange casBesideWrong)

/-- 'strongroomlaw09.CasNils': WHATEVER THE INPUT: true; the input reads as it did. -/
def casNilsSpec : ChangeSpec := { name := "casNils", fn := fun _ => fun
  | [d1, d2, d3] => { results := [.lit (.bool true)], args := [d1, d2, d3] }
  | _ => none }
def casNilsRow : OpenClaim := { program := "ytpokejaglmkphaa", sum := "a8933a7c979c396f7359e42ca62165224e365fdaac56d7a0ffcf359933870674", func := "strongroom/strongroomlaw09.CasNils", spec := "casNils", inPlace := ["math/bits.Add64"], unfollowed := true, recurses := true, apart := false }
def CasNilsSaid : Prop := casNilsRow.holds Try.pinned (OpenSpec.ofChange casNilsSpec)

/-- ITS FALSE NEIGHBOUR: 'it returns false'. Refute it at one input. -/
def casNilsWrong : ChangeSpec := { name := "casNils", fn := fun _ => fun
  | [d1, d2, d3] => { results := [.lit (.bool false)], args := [d1, d2, d3] }
  | _ => none }
def CasNilsWrongFalsely : Prop := casNilsRow.holds Try.pinned (OpenSpec.ofChange casNilsWrong)

/- THE SECOND FORM. 'bulk': how many values and letters a reading holds, each counted each time it is reached (what is shared counts as often as it is met; a slice's spare places count too). A statement '..UptoSaid' is the law's where the arguments, and the package variables that the reading takes, are together of bulk at most 1048576: NARROWER than '..Said'. Prove '..Said' where nothing that the law and all that it calls make is longer than what came in: it says more and counts as full. Else prove '..UptoSaid'. A law counts once. -/
mutual
def uptoBulk {H : Type} : DataW H → Nat
  | .lit (.string bytes) => bytes.length + 1
  | .lit _ => 1
  | .nil => 1
  | .ptr d => uptoBulk d + 1
  | .slice elems spare => uptoBulkAll elems + uptoBulkAll spare + 1
  | .agg parts => uptoBulkAll parts + 1
  | .iface _ d => uptoBulk d + 1
  | .map entries => uptoBulkEntries entries + 1
  | .held _ => 1
def uptoBulkAll {H : Type} : List (DataW H) → Nat
  | [] => 0
  | d :: r => uptoBulk d + uptoBulkAll r
def uptoBulkEntries {H : Type} : List (Lit × DataW H) → Nat
  | [] => 0
  | x :: r => uptoBulkEntry x + uptoBulkEntries r
def uptoBulkEntry {H : Type} : Lit × DataW H → Nat
  | (.string bytes, d) => bytes.length + uptoBulk d + 1
  | (_, d) => uptoBulk d + 1
 end
def uptoSmall : (H : Type) → List (DataW H) → Bool := fun _ ds => decide (uptoBulkAll ds ≤ 1048576)
def OpenSpec.upto (s : _root_.Go.ChangeSpec) : _root_.Go.OpenSpec := { _root_.Go.OpenSpec.ofChange s with cond := some uptoSmall }

/-- 'strongroomlaw09.CasOnce', WHERE WHAT IT READS IS OF BULK AT MOST 1048576: true; the input reads as it did. -/
def casOnceUptoRow : OpenClaim := { program := "ytpokejaglmkphaa", sum := "a8933a7c979c396f7359e42ca62165224e365fdaac56d7a0ffcf359933870674", func := "strongroom/strongroomlaw09.CasOnce", spec := "casOnce", inPlace := ["math/bits.Add64"], unfollowed := true, recurses := true, apart := false, narrowed := true }
def CasOnceUptoSaid : Prop := casOnceUptoRow.holds Try.pinned (OpenSpec.upto casOnceSpec)

/-- 'strongroomlaw09.CasFull', WHERE WHAT IT READS IS OF BULK AT MOST 1048576: true; the input reads as it did. -/
def casFullUptoRow : OpenClaim := { program := "ytpokejaglmkphaa", sum := "a8933a7c979c396f7359e42ca62165224e365fdaac56d7a0ffcf359933870674", func := "strongroom/strongroomlaw09.CasFull", spec := "casFull", inPlace := ["math/bits.Add64"], unfollowed := true, recurses := true, apart := false, narrowed := true }
def CasFullUptoSaid : Prop := casFullUptoRow.holds Try.pinned (OpenSpec.upto casFullSpec)

/-- 'strongroomlaw09.CasPlays', WHERE WHAT IT READS IS OF BULK AT MOST 1048576: true; the input reads as it did. -/
def casPlaysUptoRow : OpenClaim := { program := "ytpokejaglmkphaa", sum := "a8933a7c979c396f7359e42ca62165224e365fdaac56d7a0ffcf359933870674", func := "strongroom/strongroomlaw09.CasPlays", spec := "casPlays", inPlace := ["math/bits.Add64"], unfollowed := true, recurses := true, apart := false, narrowed := true }
def CasPlaysUptoSaid : Prop := casPlaysUptoRow.holds Try.pinned (OpenSpec.upto casPlaysSpec)

/-- 'strongroomlaw09.CasEnds', WHERE WHAT IT READS IS OF BULK AT MOST 1048576: true; the input reads as it did. -/
def casEndsUptoRow : OpenClaim := { program := "ytpokejaglmkphaa", sum := "a8933a7c979c396f7359e42ca62165224e365fdaac56d7a0ffcf359933870674", func := "strongroom/strongroomlaw09.CasEnds", spec := "casEnds", inPlace := ["math/bits.Add64"], unfollowed := true, recurses := true, apart := false, narrowed := true }
def CasEndsUptoSaid : Prop := casEndsUptoRow.holds Try.pinned (OpenSpec.upto casEndsSpec)

/-- 'strongroomlaw09.CasBeside', WHERE WHAT IT READS IS OF BULK AT MOST 1048576: true; the input reads as it did. -/
def casBesideUptoRow : OpenClaim := { program := "ytpokejaglmkphaa", sum := "a8933a7c979c396f7359e42ca62165224e365fdaac56d7a0ffcf359933870674", func := "strongroom/strongroomlaw09.CasBeside", spec := "casBeside", inPlace := ["math/bits.Add64"], unfollowed := true, recurses := true, apart := false, narrowed := true }
def CasBesideUptoSaid : Prop := casBesideUptoRow.holds Try.pinned (OpenSpec.upto casBesideSpec)

/-- 'strongroomlaw09.CasNils', WHERE WHAT IT READS IS OF BULK AT MOST 1048576: true; the input reads as it did. -/
def casNilsUptoRow : OpenClaim := { program := "ytpokejaglmkphaa", sum := "a8933a7c979c396f7359e42ca62165224e365fdaac56d7a0ffcf359933870674", func := "strongroom/strongroomlaw09.CasNils", spec := "casNils", inPlace := ["math/bits.Add64"], unfollowed := true, recurses := true, apart := false, narrowed := true }
def CasNilsUptoSaid : Prop := casNilsUptoRow.holds Try.pinned (OpenSpec.upto casNilsSpec)

end Rows
end Go.Proofs.Ytpokejaglmkphaa
