/-
  No cell of these rows narrows 'for every input' (looked for: loops, veiled, ifaces, maps, wideKeys, modest, calm, conditions, laid).
  DERIVED. THE GIVEN ROWS OF THIS SEAT. 6 by the template 'for every input the law returns true; each argument reads behind the call as it read before'; 0 by the template 'total and deterministic' (their statements: YtlklpdedppgkfaaTotals.lean).
  GIVEN WITH THE SEED: the statements are not yours to turn. If you find one false, say at which input.
  Laid BY PROGRAM, IN A SANDBOX (cutbox-rows.mjs): the forced cells as the released guide's own fill.sh prints them over the translation 56f3065d8c2fade4… (all of the seat's roots in one cut). By AI agents, Wed Nov 11 2026. No macro, syntax, notation, axiom, sorry.
-/
import Derived.Test.YtlklpdedppgkfaaChecked
import GoSem.Claim
import GoSem.ClaimJoined
import GoSem.ClaimMapViews
import Derived.JoinedTies
import Derived.KernelRfl
namespace Go.Proofs.Ytlklpdedppgkfaa
/- THE CELL 'sum', in the pinned program and in every row, IS THE sha256 OF THE DUMP (.gsa) THAT YtlklpdedppgkfaaProg.lean LOADS. Nothing in Lean hashes anything: it is a label: what it is worth is what the hold of that sum in a sandbox is worth. -/
noncomputable def Try.pinned : Pinned := { name := "ytlklpdedppgkfaa", sum := "56f3065d8c2fade476a2609bd637ebaf3b4c7581aade7e8371d9c02a7c621835", checked := Try.checked }
namespace Rows
def none {H : Type} : Left H := { results := [], args := [] }

/-- 'strongroomlaw22.LedgerCharges': WHATEVER THE INPUT: true; the input reads as it did. -/
def ledgerChargesSpec : ChangeSpec := { name := "ledgerCharges", fn := fun _ => fun
  | [d1, d2] => { results := [.lit (.bool true)], args := [d1, d2] }
  | _ => none }
def ledgerChargesRow : OpenClaim := { program := "ytlklpdedppgkfaa", sum := "56f3065d8c2fade476a2609bd637ebaf3b4c7581aade7e8371d9c02a7c621835", func := "strongroom/strongroomlaw22.LedgerCharges", spec := "ledgerCharges", unfollowed := true, recurses := true, plainKeys := false, apart := false }
def LedgerChargesSaid : Prop := ledgerChargesRow.holds Try.pinned (OpenSpec.ofChange ledgerChargesSpec)

/-- ITS FALSE NEIGHBOUR: 'it returns false'. Refute it at one input. -/
def ledgerChargesWrong : ChangeSpec := { name := "ledgerCharges", fn := fun _ => fun
  | [d1, d2] => { results := [.lit (.bool false)], args := [d1, d2] }
  | _ => none }
def LedgerChargesWrongFalsely : Prop := ledgerChargesRow.holds Try.pinned (OpenSpec.ofChange ledgerChargesWrong)

/-- 'strongroomlaw22.LedgerPlays': WHATEVER THE INPUT: true; the input reads as it did. -/
def ledgerPlaysSpec : ChangeSpec := { name := "ledgerPlays", fn := fun _ => fun
  | [d1, d2] => { results := [.lit (.bool true)], args := [d1, d2] }
  | _ => none }
def ledgerPlaysRow : OpenClaim := { program := "ytlklpdedppgkfaa", sum := "56f3065d8c2fade476a2609bd637ebaf3b4c7581aade7e8371d9c02a7c621835", func := "strongroom/strongroomlaw22.LedgerPlays", spec := "ledgerPlays", unfollowed := true, recurses := true, plainKeys := false, apart := false }
def LedgerPlaysSaid : Prop := ledgerPlaysRow.holds Try.pinned (OpenSpec.ofChange ledgerPlaysSpec)

/-- ITS FALSE NEIGHBOUR: 'it returns false'. Refute it at one input. -/
def ledgerPlaysWrong : ChangeSpec := { name := "ledgerPlays", fn := fun _ => fun
  | [d1, d2] => { results := [.lit (.bool false)], args := [d1, d2] }
  | _ => none }
def LedgerPlaysWrongFalsely : Prop := ledgerPlaysRow.holds Try.pinned (OpenSpec.ofChange ledgerPlaysWrong)

/-- 'strongroomlaw22.LedgerApart': WHATEVER THE INPUT: true; the input reads as it did. -/
def ledgerApartSpec : ChangeSpec := { name := "ledgerApart", fn := fun _ => fun
  | [d] => { results := [.lit (.bool true)], args := [d] }
  | _ => none }
def ledgerApartRow : OpenClaim := { program := "ytlklpdedppgkfaa", sum := "56f3065d8c2fade476a2609bd637ebaf3b4c7581aade7e8371d9c02a7c621835", func := "strongroom/strongroomlaw22.LedgerApart", spec := "ledgerApart", unfollowed := true, recurses := true, plainKeys := false, apart := false }
def LedgerApartSaid : Prop := ledgerApartRow.holds Try.pinned (OpenSpec.ofChange ledgerApartSpec)

/-- ITS FALSE NEIGHBOUR: 'it returns false'. Refute it at one input. -/
def ledgerApartWrong : ChangeSpec := { name := "ledgerApart", fn := fun _ => fun
  | [d] => { results := [.lit (.bool false)], args := [d] }
  | _ => none }
def LedgerApartWrongFalsely : Prop := ledgerApartRow.holds Try.pinned (OpenSpec.ofChange ledgerApartWrong)

/-- 'strongroomlaw22.LedgerFull': WHATEVER THE INPUT: true; the input reads as it did. -/
def ledgerFullSpec : ChangeSpec := { name := "ledgerFull", fn := fun _ => fun
  | [d1, d2] => { results := [.lit (.bool true)], args := [d1, d2] }
  | _ => none }
def ledgerFullRow : OpenClaim := { program := "ytlklpdedppgkfaa", sum := "56f3065d8c2fade476a2609bd637ebaf3b4c7581aade7e8371d9c02a7c621835", func := "strongroom/strongroomlaw22.LedgerFull", spec := "ledgerFull", unfollowed := true, recurses := true, plainKeys := false, apart := false }
def LedgerFullSaid : Prop := ledgerFullRow.holds Try.pinned (OpenSpec.ofChange ledgerFullSpec)

/-- ITS FALSE NEIGHBOUR: 'it returns false'. Refute it at one input. -/
def ledgerFullWrong : ChangeSpec := { name := "ledgerFull", fn := fun _ => fun
  | [d1, d2] => { results := [.lit (.bool false)], args := [d1, d2] }
  | _ => none }
def LedgerFullWrongFalsely : Prop := ledgerFullRow.holds Try.pinned (OpenSpec.ofChange ledgerFullWrong)

/-- 'strongroomlaw22.LedgerCosts': WHATEVER THE INPUT: true; the input reads as it did. -/
def ledgerCostsSpec : ChangeSpec := { name := "ledgerCosts", fn := fun _ => fun
  | [d1, d2] => { results := [.lit (.bool true)], args := [d1, d2] }
  | _ => none }
def ledgerCostsRow : OpenClaim := { program := "ytlklpdedppgkfaa", sum := "56f3065d8c2fade476a2609bd637ebaf3b4c7581aade7e8371d9c02a7c621835", func := "strongroom/strongroomlaw22.LedgerCosts", spec := "ledgerCosts", unfollowed := true, recurses := true, plainKeys := false, apart := false }
def LedgerCostsSaid : Prop := ledgerCostsRow.holds Try.pinned (OpenSpec.ofChange ledgerCostsSpec)

/-- ITS FALSE NEIGHBOUR: 'it returns false'. Refute it at one input. -/
def ledgerCostsWrong : ChangeSpec := { name := "ledgerCosts", fn := fun _ => fun
  | [d1, d2] => { results := [.lit (.bool false)], args := [d1, d2] }
  | _ => none }
def LedgerCostsWrongFalsely : Prop := ledgerCostsRow.holds Try.pinned (OpenSpec.ofChange ledgerCostsWrong)

/-- 'strongroomlaw22.LedgerNils': WHATEVER THE INPUT: true; the input reads as it did. -/
def ledgerNilsSpec : ChangeSpec := { name := "ledgerNils", fn := fun _ => fun
  | [d1, d2] => { results := [.lit (.bool true)], args := [d1, d2] }
  | _ => none }
def ledgerNilsRow : OpenClaim := { program := "ytlklpdedppgkfaa", sum := "56f3065d8c2fade476a2609bd637ebaf3b4c7581aade7e8371d9c02a7c621835", func := "strongroom/strongroomlaw22.LedgerNils", spec := "ledgerNils", unfollowed := true, recurses := true, plainKeys := false, apart := false }
def LedgerNilsSaid : Prop := ledgerNilsRow.holds Try.pinned (OpenSpec.ofChange ledgerNilsSpec)

/-- ITS FALSE NEIGHBOUR: 'it returns false'. Refute it at one input. -/
def ledgerNilsWrong : ChangeSpec := { name := "ledgerNils", fn := fun _ => fun
  | [d1, d2] => { results := [.lit (.bool false)], args := [d1, d2] }
  | _ => none }
def LedgerNilsWrongFalsely : Prop := ledgerNilsRow.holds Try.pinned (OpenSpec.ofChange ledgerNilsWrong)

/- THE SECOND FORM. 'bulk': how many values and letters a reading holds, each counted each time it is reached (what is shared counts as often as it is met; a slice's spare places count too). A statement '..UptoSaid' is the law's where the arguments, and the package variables that the reading takes, are together of bulk at most 1048576: NARROWER than '..Said'. Prove '..Said' where nothing that the law and all that it calls make is longer than what came in: it says more and counts as full. Else prove '..UptoSaid'. A law counts once. -/
mutual
def uptoBulk {H : Type} : DataW H → Nat
  | .lit (.string bytes) => bytes.length + 1
  | .lit _ => 1
  | .nil => 1
  | .ptr d => uptoBulk d + 1
  | .slice elems spare => uptoBulkAll elems + uptoBulkAll spare + 1
  | .agg parts => uptoBulkAll parts + 1
  | .iface _ d => uptoBulk d + 1
  | .map entries => uptoBulkEntries entries + 1
  | .held _ => 1
def uptoBulkAll {H : Type} : List (DataW H) → Nat
  | [] => 0
  | d :: r => uptoBulk d + uptoBulkAll r
def uptoBulkEntries {H : Type} : List (Lit × DataW H) → Nat
  | [] => 0
  | x :: r => uptoBulkEntry x + uptoBulkEntries r
def uptoBulkEntry {H : Type} : Lit × DataW H → Nat
  | (.string bytes, d) => bytes.length + uptoBulk d + 1
  | (_, d) => uptoBulk d + 1
 end
def uptoSmall : (H : Type) → List (DataW H) → Bool := fun _ ds => decide (uptoBulkAll ds ≤ 1048576)
def OpenSpec.upto (s : _root_.Go.ChangeSpec) : _root_.Go.OpenSpec := { _root_.Go.OpenSpec.ofChange s with cond := some uptoSmall }

/-- 'strongroomlaw22.LedgerCharges', WHERE WHAT IT READS IS OF BULK AT MOST 1048576: true; the input reads as it did. -/
def ledgerChargesUptoRow : OpenClaim := { program := "ytlklpdedppgkfaa", sum := "56f3065d8c2fade476a2609bd637ebaf3b4c7581aade7e8371d9c02a7c621835", func := "strongroom/strongroomlaw22.LedgerCharges", spec := "ledgerCharges", unfollowed := true, recurses := true, plainKeys := false, apart := false, narrowed := true }
def LedgerChargesUptoSaid : Prop := ledgerChargesUptoRow.holds Try.pinned (OpenSpec.upto ledgerChargesSpec)

/-- 'strongroomlaw22.LedgerPlays', WHERE WHAT IT READS IS OF BULK AT MOST 1048576: true; the input reads as it did. -/
def ledgerPlaysUptoRow : OpenClaim := { program := "ytlklpdedppgkfaa", sum := "56f3065d8c2fade476a2609bd637ebaf3b4c7581aade7e8371d9c02a7c621835", func := "strongroom/strongroomlaw22.LedgerPlays", spec := "ledgerPlays", unfollowed := true, recurses := true, plainKeys := false, apart := false, narrowed := true }
def LedgerPlaysUptoSaid : Prop := ledgerPlaysUptoRow.holds Try.pinned (OpenSpec.upto ledgerPlaysSpec)

/-- 'strongroomlaw22.LedgerApart', WHERE WHAT IT READS IS OF BULK AT MOST 1048576: true; the input reads as it did. -/
def ledgerApartUptoRow : OpenClaim := { program := "ytlklpdedppgkfaa", sum := "56f3065d8c2fade476a2609bd637ebaf3b4c7581aade7e8371d9c02a7c621835", func := "strongroom/strongroomlaw22.LedgerApart", spec := "ledgerApart", unfollowed := true, recurses := true, plainKeys := false, apart := false, narrowed := true }
def LedgerApartUptoSaid : Prop := ledgerApartUptoRow.holds Try.pinned (OpenSpec.upto ledgerApartSpec)

/-- 'strongroomlaw22.LedgerFull', WHERE WHAT IT READS IS OF BULK AT MOST 1048576: true; the input reads as it did. -/
def ledgerFullUptoRow : OpenClaim := { program := "ytlklpdedppgkfaa", sum := "56f3065d8c2fade476a2609bd637ebaf3b4c7581aade7e8371d9c02a7c621835", func := "strongroom/strongroomlaw22.LedgerFull", spec := "ledgerFull", unfollowed := true, recurses := true, plainKeys := false, apart := false, narrowed := true }
def LedgerFullUptoSaid : Prop := ledgerFullUptoRow.holds Try.pinned (OpenSpec.upto ledgerFullSpec)

/-- 'strongroomlaw22.LedgerCosts', WHERE WHAT IT READS IS OF BULK AT MOST 1048576: true; the input reads as it did. -/
def ledgerCostsUptoRow : OpenClaim := { program := "ytlklpdedppgkfaa", sum := "56f3065d8c2fade476a2609bd637ebaf3b4c7581aade7e8371d9c02a7c621835", func := "strongroom/strongroomlaw22.LedgerCosts", spec := "ledgerCosts", unfollowed := true, recurses := true, plainKeys := false, apart := false, narrowed := true }
def LedgerCostsUptoSaid : Prop := ledgerCostsUptoRow.holds Try.pinned (OpenSpec.upto ledgerCostsSpec)

/-- 'strongroomlaw22.LedgerNils', WHERE WHAT IT READS IS OF BULK AT MOST 1048576: true; the input reads as it did. -/
def ledgerNilsUptoRow : OpenClaim := { program := "ytlklpdedppgkfaa", sum := "56f3065d8c2fade476a2609bd637ebaf3b4c7581aade7e8371d9c02a7c621835", func := "strongroom/strongroomlaw22.LedgerNils", spec := "ledgerNils", unfollowed := true, recurses := true, plainKeys := false, apart := false, narrowed := true }
def LedgerNilsUptoSaid : Prop := ledgerNilsUptoRow.holds Try.pinned (OpenSpec.upto ledgerNilsSpec)

end Rows
end Go.Proofs.Ytlklpdedppgkfaa
