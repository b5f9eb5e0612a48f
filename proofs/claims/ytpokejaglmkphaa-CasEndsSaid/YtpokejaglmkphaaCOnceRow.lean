/- CasOnce over any memory that reads as its arguments. Condition: none beyond the reading. -/
import Derived.Test.YtpokejaglmkphaaC5
import Derived.Test.YtpokejaglmkphaaGxM
import Derived.KernelRfl
namespace Go.Proofs.Ytpokejaglmkphaa
open Go.Gx
set_option maxRecDepth 100000
theorem str_row {W : World} {a : Option Addr} {l : Nat} (hr : RowOk Try.prog W 9 a l) : ∃ ds : List ByteArray, ds.length = l ∧ RowAt strC 1 (heapOf W) a ds := by
  have ek : kds Try.prog 9 = [.str] := by kernel_rfl
  have es : Try.prog.cellsOf 9 = 1 := by kernel_rfl
  obtain ⟨L, h1, h2, _⟩ := hr.row (f := strC) (sz := 1) (p := fun _ => True) strC_len (by decide) es fun cs hk => by
    rw [ek] at hk
    obtain ⟨_, _, rfl, ⟨x, rfl, _⟩, k1⟩ := hk.cons_eq
    obtain rfl := k1.nil_eq
    exact ⟨x, rfl, trivial⟩
  exact ⟨L, h1, h2⟩
theorem once_all (W : World) (width : Int) (_ : (Lit.int .i64 width).wf = true) (a : Option Addr) (l c : Nat) (hr : RowOk Try.prog W 9 a l ∧ l ≤ c ∧ c ≤ maxLen ∧ (a = none → l = 0 ∧ c = 0)) :
    CallsH Try.prog 3 #[.int .i64 width, .slice a l c] (heapOf W) fun v h' => v = .bool true ∧ Sub (heapOf W) h' := by
  obtain ⟨ds, rfl, hd⟩ := str_row hr.1
  exact once_core width a c ds hd
end Go.Proofs.Ytpokejaglmkphaa
