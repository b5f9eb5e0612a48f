/-
  No cell of these rows narrows 'for every input' (looked for: loops, veiled, ifaces, maps, wideKeys, modest, calm, conditions, laid).
  DERIVED. THE GIVEN ROWS OF THIS SEAT. 4 by the template 'for every input the law returns true; each argument reads behind the call as it read before'; 0 by the template 'total and deterministic' (their statements: YtiohianbhjjolaaTotals.lean).
  GIVEN WITH THE SEED: the statements are not yours to turn. If you find one false, say at which input.
  Laid BY PROGRAM, IN A SANDBOX (cutbox-rows.mjs): the forced cells as the released guide's own fill.sh prints them over the translation 70d9440721565da1… (all of the seat's roots in one cut). By AI agents, Wed Nov 11 2026. No macro, syntax, notation, axiom, sorry.
-/
import Derived.Test.YtiohianbhjjolaaChecked
import GoSem.Claim
import GoSem.ClaimJoined
import GoSem.ClaimMapViews
import Derived.JoinedTies
import Derived.KernelRfl
namespace Go.Proofs.Ytiohianbhjjolaa
/- THE CELL 'sum', in the pinned program and in every row, IS THE sha256 OF THE DUMP (.gsa) THAT YtiohianbhjjolaaProg.lean LOADS. Nothing in Lean hashes anything: it is a label: what it is worth is what the hold of that sum in a sandbox is worth. -/
noncomputable def Try.pinned : Pinned := { name := "ytiohianbhjjolaa", sum := "70d9440721565da165905e84abee8e982d758770727d55a6aade61b25a4f6fb9", checked := Try.checked }
namespace Rows
def none {H : Type} : Left H := { results := [], args := [] }

/-- 'strongroomlaw24.LimitNever': WHATEVER THE INPUT: true; the input reads as it did. -/
def limitNeverSpec : ChangeSpec := { name := "limitNever", fn := fun _ => fun
  | [d1, d2, d3] => { results := [.lit (.bool true)], args := [d1, d2, d3] }
  | _ => none }
def limitNeverRow : OpenClaim := { program := "ytiohianbhjjolaa", sum := "70d9440721565da165905e84abee8e982d758770727d55a6aade61b25a4f6fb9", func := "strongroom/strongroomlaw24.LimitNever", spec := "limitNever", apart := false }
def LimitNeverSaid : Prop := limitNeverRow.holds Try.pinned (OpenSpec.ofChange limitNeverSpec)

/-- ITS FALSE NEIGHBOUR: 'it returns false'. Refute it at one input. -/
def limitNeverWrong : ChangeSpec := { name := "limitNever", fn := fun _ => fun
  | [d1, d2, d3] => { results := [.lit (.bool false)], args := [d1, d2, d3] }
  | _ => none }
def LimitNeverWrongFalsely : Prop := limitNeverRow.holds Try.pinned (OpenSpec.ofChange limitNeverWrong)

/-- 'strongroomlaw24.LimitNews': WHATEVER THE INPUT: true; the input reads as it did. -/
def limitNewsSpec : ChangeSpec := { name := "limitNews", fn := fun _ => fun
  | [d] => { results := [.lit (.bool true)], args := [d] }
  | _ => none }
def limitNewsRow : OpenClaim := { program := "ytiohianbhjjolaa", sum := "70d9440721565da165905e84abee8e982d758770727d55a6aade61b25a4f6fb9", func := "strongroom/strongroomlaw24.LimitNews", spec := "limitNews", apart := false }
def LimitNewsSaid : Prop := limitNewsRow.holds Try.pinned (OpenSpec.ofChange limitNewsSpec)

/-- ITS FALSE NEIGHBOUR: 'it returns false'. Refute it at one input. -/
def limitNewsWrong : ChangeSpec := { name := "limitNews", fn := fun _ => fun
  | [d] => { results := [.lit (.bool false)], args := [d] }
  | _ => none }
def LimitNewsWrongFalsely : Prop := limitNewsRow.holds Try.pinned (OpenSpec.ofChange limitNewsWrong)

/-- 'strongroomlaw24.LimitTakes': WHATEVER THE INPUT: true; the input reads as it did. -/
def limitTakesSpec : ChangeSpec := { name := "limitTakes", fn := fun _ => fun
  | [d1, d2, d3] => { results := [.lit (.bool true)], args := [d1, d2, d3] }
  | _ => none }
def limitTakesRow : OpenClaim := { program := "ytiohianbhjjolaa", sum := "70d9440721565da165905e84abee8e982d758770727d55a6aade61b25a4f6fb9", func := "strongroom/strongroomlaw24.LimitTakes", spec := "limitTakes", apart := false }
def LimitTakesSaid : Prop := limitTakesRow.holds Try.pinned (OpenSpec.ofChange limitTakesSpec)

/-- ITS FALSE NEIGHBOUR: 'it returns false'. Refute it at one input. -/
def limitTakesWrong : ChangeSpec := { name := "limitTakes", fn := fun _ => fun
  | [d1, d2, d3] => { results := [.lit (.bool false)], args := [d1, d2, d3] }
  | _ => none }
def LimitTakesWrongFalsely : Prop := limitTakesRow.holds Try.pinned (OpenSpec.ofChange limitTakesWrong)

/-- 'strongroomlaw24.LimitWaits': WHATEVER THE INPUT: true; the input reads as it did. -/
def limitWaitsSpec : ChangeSpec := { name := "limitWaits", fn := fun _ => fun
  | [d1, d2, d3] => { results := [.lit (.bool true)], args := [d1, d2, d3] }
  | _ => none }
def limitWaitsRow : OpenClaim := { program := "ytiohianbhjjolaa", sum := "70d9440721565da165905e84abee8e982d758770727d55a6aade61b25a4f6fb9", func := "strongroom/strongroomlaw24.LimitWaits", spec := "limitWaits", apart := false }
def LimitWaitsSaid : Prop := limitWaitsRow.holds Try.pinned (OpenSpec.ofChange limitWaitsSpec)

/-- ITS FALSE NEIGHBOUR: 'it returns false'. Refute it at one input. -/
def limitWaitsWrong : ChangeSpec := { name := "limitWaits", fn := fun _ => fun
  | [d1, d2, d3] => { results := [.lit (.bool false)], args := [d1, d2, d3] }
  | _ => none }
def LimitWaitsWrongFalsely : Prop := limitWaitsRow.holds Try.pinned (OpenSpec.ofChange limitWaitsWrong)

/- THE SECOND FORM. 'bulk': how many values and letters a reading holds, each counted each time it is reached (what is shared counts as often as it is met; a slice's spare places count too). A statement '..UptoSaid' is the law's where the arguments, and the package variables that the reading takes, are together of bulk at most 1048576: NARROWER than '..Said'. Prove '..Said' where nothing that the law and all that it calls make is longer than what came in: it says more and counts as full. Else prove '..UptoSaid'. A law counts once. -/
mutual
def uptoBulk {H : Type} : DataW H → Nat
  | .lit (.string bytes) => bytes.length + 1
  | .lit _ => 1
  | .nil => 1
  | .ptr d => uptoBulk d + 1
  | .slice elems spare => uptoBulkAll elems + uptoBulkAll spare + 1
  | .agg parts => uptoBulkAll parts + 1
  | .iface _ d => uptoBulk d + 1
  | .map entries => uptoBulkEntries entries + 1
  | .held _ => 1
def uptoBulkAll {H : Type} : List (DataW H) → Nat
  | [] => 0
  | d :: r => uptoBulk d + uptoBulkAll r
def uptoBulkEntries {H : Type} : List (Lit × DataW H) → Nat
  | [] => 0
  | x :: r => uptoBulkEntry x + uptoBulkEntries r
def uptoBulkEntry {H : Type} : Lit × DataW H → Nat
  | (.string bytes, d) => bytes.length + uptoBulk d + 1
  | (_, d) => uptoBulk d + 1
 end
def uptoSmall : (H : Type) → List (DataW H) → Bool := fun _ ds => decide (uptoBulkAll ds ≤ 1048576)
def OpenSpec.upto (s : _root_.Go.ChangeSpec) : _root_.Go.OpenSpec := { _root_.Go.OpenSpec.ofChange s with cond := some uptoSmall }

/-- 'strongroomlaw24.LimitNever', WHERE WHAT IT READS IS OF BULK AT MOST 1048576: true; the input reads as it did. -/
def limitNeverUptoRow : OpenClaim := { program := "ytiohianbhjjolaa", sum := "70d9440721565da165905e84abee8e982d758770727d55a6aade61b25a4f6fb9", func := "strongroom/strongroomlaw24.LimitNever", spec := "limitNever", apart := false, narrowed := true }
def LimitNeverUptoSaid : Prop := limitNeverUptoRow.holds Try.pinned (OpenSpec.upto limitNeverSpec)

/-- 'strongroomlaw24.LimitNews', WHERE WHAT IT READS IS OF BULK AT MOST 1048576: true; the input reads as it did. -/
def limitNewsUptoRow : OpenClaim := { program := "ytiohianbhjjolaa", sum := "70d9440721565da165905e84abee8e982d758770727d55a6aade61b25a4f6fb9", func := "strongroom/strongroomlaw24.LimitNews", spec := "limitNews", apart := false, narrowed := true }
def LimitNewsUptoSaid : Prop := limitNewsUptoRow.holds Try.pinned (OpenSpec.upto limitNewsSpec)

/-- 'strongroomlaw24.LimitTakes', WHERE WHAT IT READS IS OF BULK AT MOST 1048576: true; the input reads as it did. -/
def limitTakesUptoRow : OpenClaim := { program := "ytiohianbhjjolaa", sum := "70d9440721565da165905e84abee8e982d758770727d55a6aade61b25a4f6fb9", func := "strongroom/strongroomlaw24.LimitTakes", spec := "limitTakes", apart := false, narrowed := true }
def LimitTakesUptoSaid : Prop := limitTakesUptoRow.holds Try.pinned (OpenSpec.upto limitTakesSpec)

/-- 'strongroomlaw24.LimitWaits', WHERE WHAT IT READS IS OF BULK AT MOST 1048576: true; the input reads as it did. -/
def limitWaitsUptoRow : OpenClaim := { program := "ytiohianbhjjolaa", sum := "70d9440721565da165905e84abee8e982d758770727d55a6aade61b25a4f6fb9", func := "strongroom/strongroomlaw24.LimitWaits", spec := "limitWaits", apart := false, narrowed := true }
def LimitWaitsUptoSaid : Prop := limitWaitsUptoRow.holds Try.pinned (OpenSpec.upto limitWaitsSpec)

end Rows
end Go.Proofs.Ytiohianbhjjolaa
