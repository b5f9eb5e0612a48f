/- CasPlays over any memory that reads as its arguments. Condition: texts of at most 2^47 bytes, as every input's are. -/
import Derived.Test.YtpokejaglmkphaaD3
import Derived.Test.YtpokejaglmkphaaGxB
namespace Go.Proofs.Ytpokejaglmkphaa
open Go.Gx
set_option maxRecDepth 100000
set_option linter.unusedVariables false
theorem opP_row {W : World} {a : Option Addr} {l : Nat} (hr : RowOkB Try.prog W 48 140737488351232 a l) : ∃ os : List OpP, os.length = l ∧ RowAt opPC 5 (heapOf W) a os ∧ ∀ o ∈ os, o.ok := by
  have ek : kds Try.prog 48 = [.int .i64, .int .i64, .str, .str, .int .i64] := by kernel_rfl
  have es : Try.prog.cellsOf 48 = 5 := by kernel_rfl
  exact hr.row (f := opPC) (sz := 5) (p := OpP.ok) opPC_len (by decide) es fun cs hk hs => by
    rw [ek] at hk
    obtain ⟨_, _, rfl, ⟨u, rfl, _⟩, k1⟩ := hk.cons_eq
    obtain ⟨_, _, rfl, ⟨n, rfl, _⟩, k2⟩ := k1.cons_eq
    obtain ⟨_, _, rfl, ⟨w, rfl, _⟩, k3⟩ := k2.cons_eq
    obtain ⟨_, _, rfl, ⟨s, rfl, _⟩, k4⟩ := k3.cons_eq
    obtain ⟨_, _, rfl, ⟨i, rfl, _⟩, k5⟩ := k4.cons_eq
    obtain rfl := k5.nil_eq
    exact ⟨⟨u, n, w, s, i⟩, rfl, hs w (by simp), hs s (by simp)⟩
theorem plays_all (W : World) (width : Int) {p1 : Prop} (_ : p1) (a : Option Addr) (l c : Nat) (_ : RowOk Try.prog W 48 a l ∧ l ≤ c ∧ c ≤ maxLen ∧ (a = none → l = 0 ∧ c = 0)) (hz : RowOkB Try.prog W 48 140737488351232 a l) :
    CallsH Try.prog 5 #[.int .i64 width, .slice a l c] (heapOf W) fun v h' => v = .bool true ∧ Sub (heapOf W) h' := by
  obtain ⟨os, rfl, ho, hk⟩ := opP_row hz
  exact plays_core width a c os ho hk
end Go.Proofs.Ytpokejaglmkphaa
