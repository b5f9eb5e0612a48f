/- LimitNever over any memory that reads as its arguments. Condition: none beyond the reading. -/
import Derived.Test.YtiohianbhjjolaaLNever
import Derived.Test.YtiohianbhjjolaaGxL
import Derived.KernelRfl
namespace Go.Proofs.Ytiohianbhjjolaa
open Go.Gx
theorem never_all (W : World) (m0 m1 m2 : Int) (_ : (Lit.int .i64 m0).wf = true) (_ : (Lit.int .i64 m1).wf = true) (_ : (Lit.int .i64 m2).wf = true) (a : Option Addr) (l c : Nat) (hr : RowOk Try.prog W 33 a l ∧ l ≤ c ∧ c ≤ maxLen ∧ (a = none → l = 0 ∧ c = 0)) (fr : Int) (_ : (Lit.int .i64 fr).wf = true) :
    CallsH Try.prog 3 #[.agg #[.int .i64 m0, .int .i64 m1, .int .i64 m2], .slice a l c, .int .i64 fr] (heapOf W) fun v h' => v = .bool true ∧ Sub (heapOf W) h' := by
  refine (never_core m0 m1 m2 a l c fr (heapOf W) fun i hi => ?_).mono fun v h' ⟨e1, e2⟩ => ⟨e1, by rw [e2]; exact fun _ _ h => h⟩
  obtain ⟨b, o, ha, cs, hk, hc⟩ := hr.1 i hi
  have ek : kds Try.prog 33 = [.int .i64, .int .i64, .int .i64, .str] := by kernel_rfl
  have es : Try.prog.cellsOf 33 = 4 := by kernel_rfl
  rw [ek] at hk
  rw [es] at hc
  obtain ⟨_, _, rfl, ⟨x, rfl, _⟩, k1⟩ := hk.cons_eq
  obtain ⟨_, _, rfl, ⟨y, rfl, _⟩, k2⟩ := k1.cons_eq
  obtain ⟨_, _, rfl, ⟨z, rfl, _⟩, k3⟩ := k2.cons_eq
  obtain ⟨_, _, rfl, ⟨s, rfl, _⟩, k4⟩ := k3.cons_eq
  obtain rfl := k4.nil_eq
  exact ⟨b, o, ha, x, y, z, s, hc 0 (by simp), hc 1 (by simp), hc 2 (by simp), hc 3 (by simp)⟩
end Go.Proofs.Ytiohianbhjjolaa
