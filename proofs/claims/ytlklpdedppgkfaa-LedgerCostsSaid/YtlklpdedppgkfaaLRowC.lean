/- LedgerCosts over any memory that reads as its arguments. Condition: none beyond the reading. -/
import Derived.Test.YtlklpdedppgkfaaLA
import Derived.Test.YtlklpdedppgkfaaLRows
namespace Go.Proofs.Ytlklpdedppgkfaa
open Go.Gx
set_option maxRecDepth 100000
set_option linter.unusedVariables false
theorem held_row {W : World} {a : Option Addr} {l : Nat} (hr : RowOk Try.prog W 54 a l) : ∃ os : List Rh, os.length = l ∧ RowAt rhC 4 (heapOf W) a os ∧ ∀ o ∈ os, True := by
  have ek : kds Try.prog 54 = [.str, .int .i64, .int .i64, .int .i64] := by kernel_rfl
  have es : Try.prog.cellsOf 54 = 4 := by kernel_rfl
  exact hr.row (f := rhC) (sz := 4) (p := fun _ => True) rhC_len (by decide) es fun cs hk => by
    rw [ek] at hk
    obtain ⟨_, _, rfl, ⟨s, rfl, _⟩, k1⟩ := hk.cons_eq
    obtain ⟨_, _, rfl, ⟨n, rfl, _⟩, k2⟩ := k1.cons_eq
    obtain ⟨_, _, rfl, ⟨w, rfl, _⟩, k3⟩ := k2.cons_eq
    obtain ⟨_, _, rfl, ⟨i, rfl, _⟩, k4⟩ := k3.cons_eq
    obtain rfl := k4.nil_eq
    exact ⟨⟨s, n, w, i⟩, rfl, trivial⟩
theorem costs_all (W : World) (a : Option Addr) (l c : Nat) (hr : RowOk Try.prog W 40 a l ∧ l ≤ c ∧ c ≤ maxLen ∧ (a = none → l = 0 ∧ c = 0)) (a2 : Option Addr) (l2 c2 : Nat) (hr2 : RowOk Try.prog W 54 a2 l2 ∧ l2 ≤ c2 ∧ c2 ≤ maxLen ∧ (a2 = none → l2 = 0 ∧ c2 = 0)) :
    CallsH Try.prog 7 #[.slice a l c, .slice a2 l2 c2] (heapOf W) fun v h' => v = .bool true ∧ Sub (heapOf W) h' := by
  obtain ⟨os, rfl, ho, hk⟩ := op_row hr.1
  obtain ⟨hs, rfl, hh, _⟩ := held_row hr2.1
  exact costs_core a c os ho hk a2 c2 hs hh
end Go.Proofs.Ytlklpdedppgkfaa
