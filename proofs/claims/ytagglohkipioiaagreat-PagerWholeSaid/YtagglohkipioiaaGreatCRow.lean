/- The row of steps as it is handed in; PagerCounts over it. Condition: none beyond the reading. -/
import Derived.Test.YtagglohkipioiaaGreatP21
import Derived.Test.YtagglohkipioiaaGreatGxM
namespace Go.Proofs.YtagglohkipioiaaGreat
open Go.Gx
set_option maxRecDepth 100000
set_option linter.unusedVariables false

theorem op_row {W : World} {a : Option Addr} {l : Nat} (hr : RowOk Tryz.prog W 28 a l) : ∃ os : List Op5, os.length = l ∧ RowAt opC 5 (heapOf W) a os ∧ ∀ o ∈ os, o.ok := by
  have ek : kds Tryz.prog 28 = [.int .i64, .int .i64, .int .i64, .int .i64, .int .u8] := by kernel_rfl
  have es : Tryz.prog.cellsOf 28 = 5 := by kernel_rfl
  exact hr.row (f := opC) (sz := 5) (p := Op5.ok) opC_len (by decide) es fun cs hk => by
    rw [ek] at hk
    obtain ⟨_, _, rfl, ⟨u, rfl, _⟩, k1⟩ := hk.cons_eq
    obtain ⟨_, _, rfl, ⟨n, rfl, _⟩, k2⟩ := k1.cons_eq
    obtain ⟨_, _, rfl, ⟨w, rfl, _⟩, k3⟩ := k2.cons_eq
    obtain ⟨_, _, rfl, ⟨s, rfl, _⟩, k4⟩ := k3.cons_eq
    obtain ⟨_, _, rfl, ⟨i, rfl, wi⟩, k5⟩ := k4.cons_eq
    obtain rfl := k5.nil_eq
    refine ⟨⟨u, n, w, s, i⟩, rfl, ?_⟩
    have h2 := (Bool.and_eq_true_iff.1 (show (decide (IntKind.u8.min ≤ i) && decide (i ≤ IntKind.u8.max)) = true from wi))
    have h3 := of_decide_eq_true h2.1
    have h4 := of_decide_eq_true h2.2
    have e3 : IntKind.u8.min = 0 := by decide
    have e4 : IntKind.u8.max = 255 := by decide
    exact ⟨by show 0 ≤ i; omega, by show i < 256; omega⟩
theorem counts_all (W : World) (pages : Int) {p1 : Prop} (_ : p1) (a : Option Addr) (l c : Nat) (hr : RowOk Tryz.prog W 28 a l ∧ l ≤ c ∧ c ≤ maxLen ∧ (a = none → l = 0 ∧ c = 0)) :
    CallsH Tryz.prog law14_PagerCounts.id #[.int .i64 pages, .slice a l c] (heapOf W) fun v h' => v = .bool true ∧ Sub (heapOf W) h' := by
  obtain ⟨os, rfl, ho, hk⟩ := op_row hr.1
  exact counts_core pages a c os ho hk
end Go.Proofs.YtagglohkipioiaaGreat
