/- PagerWhole over rows that are handed in. Condition: none beyond the reading. -/
import Derived.Test.YtagglohkipioiaaGreatW6
import Derived.Test.YtagglohkipioiaaGreatCRow
namespace Go.Proofs.YtagglohkipioiaaGreat
open Go.Gx
set_option maxRecDepth 100000
set_option linter.unusedVariables false

theorem bool_row {W : World} {a : Option Addr} {l : Nat} (hr : RowOk Tryz.prog W 4 a l) : ∃ os : List Bool, os.length = l ∧ RowAt boolC 1 (heapOf W) a os ∧ ∀ o ∈ os, True := by
  have ek : kds Tryz.prog 4 = [.bool] := by kernel_rfl
  have es : Tryz.prog.cellsOf 4 = 1 := by kernel_rfl
  exact hr.row (f := boolC) (sz := 1) (p := fun _ => True) boolC_len (by decide) es fun cs hk => by
    rw [ek] at hk
    obtain ⟨_, _, rfl, ⟨b, rfl⟩, k1⟩ := hk.cons_eq
    obtain rfl := k1.nil_eq
    exact ⟨b, rfl, trivial⟩
theorem whole_all (W : World) (pages : Int) (a : Option Addr) (l c : Nat) (a2 : Option Addr) (l2 c2 : Nat) (cut : Int) (a4 : Option Addr) (l4 c4 : Nat) {p1 : Prop} (_ : p1) (hcut : (Lit.int IntKind.i64 cut).wf = true)
    (hr : RowOk Tryz.prog W 28 a l ∧ l ≤ c ∧ c ≤ maxLen ∧ (a = none → l = 0 ∧ c = 0)) (hr2 : RowOk Tryz.prog W 28 a2 l2 ∧ l2 ≤ c2 ∧ c2 ≤ maxLen ∧ (a2 = none → l2 = 0 ∧ c2 = 0)) (hr4 : RowOk Tryz.prog W 4 a4 l4 ∧ l4 ≤ c4 ∧ c4 ≤ maxLen ∧ (a4 = none → l4 = 0 ∧ c4 = 0)) :
    CallsH Tryz.prog law14_PagerWhole.id #[.agg #[.int .i64 pages, .slice a l c, .slice a2 l2 c2, .int .i64 cut, .slice a4 l4 c4]] (heapOf W) fun v h' => v = .bool true ∧ Sub (heapOf W) h' := by
  obtain ⟨os, rfl, ho, hk⟩ := op_row hr.1
  obtain ⟨os2, rfl, ho2, hk2⟩ := op_row hr2.1
  obtain ⟨ps, rfl, hps, _⟩ := bool_row hr4.1
  have h2 := (Bool.and_eq_true_iff.1 (show (decide (IntKind.i64.min ≤ cut) && decide (cut ≤ IntKind.i64.max)) = true from hcut))
  have h4 := of_decide_eq_true h2.2
  have e4 : IntKind.i64.max = 9223372036854775807 := by decide
  exact whole_core pages a c os ho hk a2 c2 os2 ho2 hk2 cut (by omega) a4 c4 ps hps
end Go.Proofs.YtagglohkipioiaaGreat
