/- LedgerPlays, LedgerCharges, LedgerFull, LedgerApart over any memory that reads as their arguments. Condition: none beyond the reading. -/
import Derived.Test.YtlklpdedppgkfaaL8
import Derived.Test.YtlklpdedppgkfaaGxM
namespace Go.Proofs.Ytlklpdedppgkfaa
open Go.Gx
set_option maxRecDepth 100000
set_option linter.unusedVariables false
theorem op_row {W : World} {a : Option Addr} {l : Nat} (hr : RowOk Try.prog W 40 a l) : ∃ os : List Op5, os.length = l ∧ RowAt opC 5 (heapOf W) a os ∧ ∀ o ∈ os, o.ok := by
  have ek : kds Try.prog 40 = [.int .i64, .int .i64, .int .i64, .str, .int .i64] := by kernel_rfl
  have es : Try.prog.cellsOf 40 = 5 := by kernel_rfl
  exact hr.row (f := opC) (sz := 5) (p := Op5.ok) opC_len (by decide) es fun cs hk => by
    rw [ek] at hk
    obtain ⟨_, _, rfl, ⟨u, rfl, _⟩, k1⟩ := hk.cons_eq
    obtain ⟨_, _, rfl, ⟨n, rfl, wn⟩, k2⟩ := k1.cons_eq
    obtain ⟨_, _, rfl, ⟨w, rfl, _⟩, k3⟩ := k2.cons_eq
    obtain ⟨_, _, rfl, ⟨s, rfl, _⟩, k4⟩ := k3.cons_eq
    obtain ⟨_, _, rfl, ⟨i, rfl, _⟩, k5⟩ := k4.cons_eq
    obtain rfl := k5.nil_eq
    refine ⟨⟨u, n, w, s, i⟩, rfl, ?_⟩
    have wn : (decide (IntKind.i64.min ≤ n) && decide (n ≤ IntKind.i64.max)) = true := wn
    rw [Bool.and_eq_true, decide_eq_true_eq, decide_eq_true_eq] at wn
    exact wn
theorem charges_all (W : World) (quota : Int) {p1 : Prop} (_ : p1) (a : Option Addr) (l c : Nat) (hr : RowOk Try.prog W 40 a l ∧ l ≤ c ∧ c ≤ maxLen ∧ (a = none → l = 0 ∧ c = 0)) :
    CallsH Try.prog 3 #[.int .i64 quota, .slice a l c] (heapOf W) fun v h' => v = .bool true ∧ Sub (heapOf W) h' := by
  obtain ⟨os, rfl, ho, hk⟩ := op_row hr.1
  exact charges_core quota a c os ho hk
theorem plays_all (W : World) (tenant : Int) {p1 : Prop} (_ : p1) (a : Option Addr) (l c : Nat) (hr : RowOk Try.prog W 40 a l ∧ l ≤ c ∧ c ≤ maxLen ∧ (a = none → l = 0 ∧ c = 0)) :
    CallsH Try.prog 4 #[.int .i64 tenant, .slice a l c] (heapOf W) fun v h' => v = .bool true ∧ Sub (heapOf W) h' := by
  obtain ⟨os, rfl, ho, hk⟩ := op_row hr.1
  exact plays_core tenant a c os ho hk
theorem apart_all (W : World) (a : Option Addr) (l c : Nat) (hr : RowOk Try.prog W 40 a l ∧ l ≤ c ∧ c ≤ maxLen ∧ (a = none → l = 0 ∧ c = 0)) :
    CallsH Try.prog 5 #[.slice a l c] (heapOf W) fun v h' => v = .bool true ∧ Sub (heapOf W) h' := by
  obtain ⟨os, rfl, ho, hk⟩ := op_row hr.1
  exact apart_core a c os ho hk
theorem full_all (W : World) (full : Int) {p1 : Prop} (_ : p1) (a : Option Addr) (l c : Nat) (hr : RowOk Try.prog W 40 a l ∧ l ≤ c ∧ c ≤ maxLen ∧ (a = none → l = 0 ∧ c = 0)) :
    CallsH Try.prog 6 #[.int .i64 full, .slice a l c] (heapOf W) fun v h' => v = .bool true ∧ Sub (heapOf W) h' := by
  obtain ⟨os, rfl, ho, hk⟩ := op_row hr.1
  exact full_core full a c os ho hk
end Go.Proofs.Ytlklpdedppgkfaa
