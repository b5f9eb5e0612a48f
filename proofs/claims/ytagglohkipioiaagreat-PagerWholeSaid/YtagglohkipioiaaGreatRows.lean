/-
  No cell of these rows narrows 'for every input' (looked for: loops, veiled, ifaces, maps, wideKeys, modest, calm, conditions, laid).
  DERIVED. THE GIVEN ROWS OF THIS SEAT. 3 by the template 'for every input the law returns true; each argument reads behind the call as it read before'; 0 by the template 'total and deterministic' (their statements: YtagglohkipioiaaGreatTotals.lean).
  GIVEN WITH THE SEED: the statements are not yours to turn. If you find one false, say at which input.
  Laid BY PROGRAM, IN A SANDBOX (cutbox-rows.mjs): the forced cells as the released guide's own fill.sh prints them over the translation 25fae2e79b10cbe1… (all of the seat's roots in one cut). By AI agents, Wed Nov 11 2026. No macro, syntax, notation, axiom, sorry.
-/
import Derived.Test.YtagglohkipioiaaGreatChecked
import GoSem.Claim
import GoSem.ClaimJoined
import GoSem.ClaimMapViews
import Derived.JoinedTies
import Derived.KernelRfl
namespace Go.Proofs.YtagglohkipioiaaGreat
/- THE CELL 'sum', in the pinned program and in every row, IS THE sha256 OF THE DUMP (.gsa) THAT YtagglohkipioiaaGreatProg.lean LOADS. Nothing in Lean hashes anything: it is a label: what it is worth is what the hold of that sum in a sandbox is worth. -/
noncomputable def Tryz.pinned : Pinned := { name := "ytagglohkipioiaagreat", sum := "25fae2e79b10cbe17bb0d3edecadd0ccf913a0bb962d91f376af9e04bd3792d3", checked := Tryz.checked }
namespace Rows
def none {H : Type} : Left H := { results := [], args := [] }

/-- 'strongroomlaw14.PagerCounts': WHATEVER THE INPUT: true; the input reads as it did. -/
def pagerCountsSpec : ChangeSpec := { name := "pagerCounts", fn := fun _ => fun
  | [d1, d2] => { results := [.lit (.bool true)], args := [d1, d2] }
  | _ => none }
def pagerCountsRow : OpenClaim := { program := "ytagglohkipioiaagreat", sum := "25fae2e79b10cbe17bb0d3edecadd0ccf913a0bb962d91f376af9e04bd3792d3", func := "strongroom/strongroomlaw14.PagerCounts", spec := "pagerCounts", inPlace := ["maps.clone"], unfollowed := true, recurses := true, apart := false }
def PagerCountsSaid : Prop := pagerCountsRow.holds Tryz.pinned (OpenSpec.ofChange pagerCountsSpec)

/-- ITS FALSE NEIGHBOUR: 'it returns false'. Refute it at one input. -/
def pagerCountsWrong : ChangeSpec := { name := "pagerCounts", fn := fun _ => fun
  | [d1, d2] => { results := [.lit (.bool false)], args := [d1, d2] }
  | _ => none }
def PagerCountsWrongFalsely : Prop := pagerCountsRow.holds Tryz.pinned (OpenSpec.ofChange pagerCountsWrong)

/-- 'strongroomlaw14.PagerBack': WHATEVER THE INPUT: true; the input reads as it did. -/
def pagerBackSpec : ChangeSpec := { name := "pagerBack", fn := fun _ => fun
  | [d1, d2, d3] => { results := [.lit (.bool true)], args := [d1, d2, d3] }
  | _ => none }
def pagerBackRow : OpenClaim := { program := "ytagglohkipioiaagreat", sum := "25fae2e79b10cbe17bb0d3edecadd0ccf913a0bb962d91f376af9e04bd3792d3", func := "strongroom/strongroomlaw14.PagerBack", spec := "pagerBack", inPlace := ["maps.clone"], unfollowed := true, recurses := true, apart := false }
def PagerBackSaid : Prop := pagerBackRow.holds Tryz.pinned (OpenSpec.ofChange pagerBackSpec)

/-- ITS FALSE NEIGHBOUR: 'it returns false'. Refute it at one input. -/
def pagerBackWrong : ChangeSpec := { name := "pagerBack", fn := fun _ => fun
  | [d1, d2, d3] => { results := [.lit (.bool false)], args := [d1, d2, d3] }
  | _ => none }
def PagerBackWrongFalsely : Prop := pagerBackRow.holds Tryz.pinned (OpenSpec.ofChange pagerBackWrong)

/-- 'strongroomlaw14.PagerWhole': WHATEVER THE INPUT: true; the input reads as it did. -/
def pagerWholeSpec : ChangeSpec := { name := "pagerWhole", fn := fun _ => fun
  | [d] => { results := [.lit (.bool true)], args := [d] }
  | _ => none }
def pagerWholeRow : OpenClaim := { program := "ytagglohkipioiaagreat", sum := "25fae2e79b10cbe17bb0d3edecadd0ccf913a0bb962d91f376af9e04bd3792d3", func := "strongroom/strongroomlaw14.PagerWhole", spec := "pagerWhole", inPlace := ["maps.clone"], unfollowed := true, recurses := true, apart := false }
def PagerWholeSaid : Prop := pagerWholeRow.holds Tryz.pinned (OpenSpec.ofChange pagerWholeSpec)

/-- ITS FALSE NEIGHBOUR: 'it returns false'. Refute it at one input. -/
def pagerWholeWrong : ChangeSpec := { name := "pagerWhole", fn := fun _ => fun
  | [d] => { results := [.lit (.bool false)], args := [d] }
  | _ => none }
def PagerWholeWrongFalsely : Prop := pagerWholeRow.holds Tryz.pinned (OpenSpec.ofChange pagerWholeWrong)

/- THE SECOND FORM. 'bulk': how many values and letters a reading holds, each counted each time it is reached (what is shared counts as often as it is met; a slice's spare places count too). A statement '..UptoSaid' is the law's where the arguments, and the package variables that the reading takes, are together of bulk at most 1048576: NARROWER than '..Said'. Prove '..Said' where nothing that the law and all that it calls make is longer than what came in: it says more and counts as full. Else prove '..UptoSaid'. A law counts once. -/
mutual
def uptoBulk {H : Type} : DataW H → Nat
  | .lit (.string bytes) => bytes.length + 1
  | .lit _ => 1
  | .nil => 1
  | .ptr d => uptoBulk d + 1
  | .slice elems spare => uptoBulkAll elems + uptoBulkAll spare + 1
  | .agg parts => uptoBulkAll parts + 1
  | .iface _ d => uptoBulk d + 1
  | .map entries => uptoBulkEntries entries + 1
  | .held _ => 1
def uptoBulkAll {H : Type} : List (DataW H) → Nat
  | [] => 0
  | d :: r => uptoBulk d + uptoBulkAll r
def uptoBulkEntries {H : Type} : List (Lit × DataW H) → Nat
  | [] => 0
  | x :: r => uptoBulkEntry x + uptoBulkEntries r
def uptoBulkEntry {H : Type} : Lit × DataW H → Nat
  | (.string bytes, d) => bytes.length + uptoBulk d + 1
  | (_, d) => uptoBulk d + 1
 end
def uptoSmall : (H : Type) → List (DataW H) → Bool := fun _ ds => decide (uptoBulkAll ds ≤ 1048576)
def OpenSpec.upto (s : _root_.Go.ChangeSpec) : _root_.Go.OpenSpec := { _root_.Go.OpenSpec.ofChange s with cond := some uptoSmall }

/-- 'strongroomlaw14.PagerCounts', WHERE WHAT IT READS IS OF BULK AT MOST 1048576: true; the input reads as it did. -/
def pagerCountsUptoRow : OpenClaim := { program := "ytagglohkipioiaagreat", sum := "25fae2e79b10cbe17bb0d3edecadd0ccf913a0bb962d91f376af9e04bd3792d3", func := "strongroom/strongroomlaw14.PagerCounts", spec := "pagerCounts", inPlace := ["maps.clone"], unfollowed := true, recurses := true, apart := false, narrowed := true }
def PagerCountsUptoSaid : Prop := pagerCountsUptoRow.holds Tryz.pinned (OpenSpec.upto pagerCountsSpec)

/-- 'strongroomlaw14.PagerBack', WHERE WHAT IT READS IS OF BULK AT MOST 1048576: true; the input reads as it did. -/
def pagerBackUptoRow : OpenClaim := { program := "ytagglohkipioiaagreat", sum := "25fae2e79b10cbe17bb0d3edecadd0ccf913a0bb962d91f376af9e04bd3792d3", func := "strongroom/strongroomlaw14.PagerBack", spec := "pagerBack", inPlace := ["maps.clone"], unfollowed := true, recurses := true, apart := false, narrowed := true }
def PagerBackUptoSaid : Prop := pagerBackUptoRow.holds Tryz.pinned (OpenSpec.upto pagerBackSpec)

/-- 'strongroomlaw14.PagerWhole', WHERE WHAT IT READS IS OF BULK AT MOST 1048576: true; the input reads as it did. -/
def pagerWholeUptoRow : OpenClaim := { program := "ytagglohkipioiaagreat", sum := "25fae2e79b10cbe17bb0d3edecadd0ccf913a0bb962d91f376af9e04bd3792d3", func := "strongroom/strongroomlaw14.PagerWhole", spec := "pagerWhole", inPlace := ["maps.clone"], unfollowed := true, recurses := true, apart := false, narrowed := true }
def PagerWholeUptoSaid : Prop := pagerWholeUptoRow.holds Tryz.pinned (OpenSpec.upto pagerWholeSpec)

end Rows
end Go.Proofs.YtagglohkipioiaaGreat
