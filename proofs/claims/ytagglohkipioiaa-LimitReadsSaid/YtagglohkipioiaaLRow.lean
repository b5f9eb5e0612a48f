/- LimitReads over any memory that reads as its argument. Condition: none beyond the reading. -/
import Derived.Test.YtagglohkipioiaaL5
import Derived.Test.YtagglohkipioiaaGxM
namespace Go.Proofs.Ytagglohkipioiaa
open Go.Gx
set_option maxRecDepth 100000
set_option linter.unusedVariables false
theorem byte_row {W : World} {a : Option Addr} {l : Nat} (hr : RowOk Try.prog W 5 a l) : ∃ os : List UInt8, os.length = l ∧ RowAt byteC 1 (heapOf W) a os ∧ ∀ o ∈ os, True := by
  have ek : kds Try.prog 5 = [.int .u8] := by kernel_rfl
  have es : Try.prog.cellsOf 5 = 1 := by kernel_rfl
  exact hr.row (f := byteC) (sz := 1) (p := fun _ => True) byteC_len (by decide) es fun cs hk => by
    rw [ek] at hk
    obtain ⟨_, _, rfl, ⟨n, rfl, hw⟩, k1⟩ := hk.cons_eq
    obtain rfl := k1.nil_eq
    have hn : 0 ≤ n ∧ n < 256 := by
      have h2 := (Bool.and_eq_true_iff.1 (show (decide (IntKind.u8.min ≤ n) && decide (n ≤ IntKind.u8.max)) = true from hw))
      have h3 := of_decide_eq_true h2.1
      have h4 := of_decide_eq_true h2.2
      have e3 : IntKind.u8.min = 0 := by decide
      have e4 : IntKind.u8.max = 255 := by decide
      omega
    refine ⟨UInt8.ofNat n.toNat, ?_, trivial⟩
    rw [byteV _ (by omega)]
    congr 2
    omega
theorem reads_all (W : World) (a : Option Addr) (l c : Nat) (hr : RowOk Try.prog W 5 a l ∧ l ≤ c ∧ c ≤ maxLen ∧ (a = none → l = 0 ∧ c = 0)) : CallsH Try.prog 3 #[.slice a l c] (heapOf W) fun v h' => v = .bool true ∧ Sub (heapOf W) h' := by
  obtain ⟨os, rfl, ho, _⟩ := byte_row hr.1
  exact reads_core os ho hr.2.1
end Go.Proofs.Ytagglohkipioiaa
