/- PagerBack over rows of steps that are handed in. Condition: none beyond the reading. -/
import Derived.Test.YtagglohkipioiaaGreatP22
import Derived.Test.YtagglohkipioiaaGreatCRow
namespace Go.Proofs.YtagglohkipioiaaGreat
open Go.Gx
set_option maxRecDepth 100000
set_option linter.unusedVariables false

theorem back_all (W : World) (pages : Int) {p1 : Prop} (_ : p1) (a : Option Addr) (l c : Nat) (hr : RowOk Tryz.prog W 28 a l ∧ l ≤ c ∧ c ≤ maxLen ∧ (a = none → l = 0 ∧ c = 0)) (a2 : Option Addr) (l2 c2 : Nat) (hr2 : RowOk Tryz.prog W 28 a2 l2 ∧ l2 ≤ c2 ∧ c2 ≤ maxLen ∧ (a2 = none → l2 = 0 ∧ c2 = 0)) :
    CallsH Tryz.prog law14_PagerBack.id #[.int .i64 pages, .slice a l c, .slice a2 l2 c2] (heapOf W) fun v h' => v = .bool true ∧ Sub (heapOf W) h' := by
  obtain ⟨os, rfl, ho, hk⟩ := op_row hr.1
  obtain ⟨os2, rfl, ho2, hk2⟩ := op_row hr2.1
  exact back_core pages a c os ho hk a2 c2 os2 ho2 hk2
end Go.Proofs.YtagglohkipioiaaGreat
