/- LimitTakes over any memory that reads as its arguments. Condition: none beyond the reading. -/
import Derived.Test.YtiohianbhjjolaaLTakes
import Derived.Test.YtiohianbhjjolaaGxL
namespace Go.Proofs.Ytiohianbhjjolaa
open Go.Gx
theorem takes_all (W : World) (r : Int) (p : Int) (u : Int) (c : Int) (t : Int) (_ : (Lit.int .i64 r).wf = true) (_ : (Lit.int .i64 p).wf = true) (_ : (Lit.int .i64 u).wf = true) (_ : (Lit.int .i64 c).wf = true) (_ : (Lit.int .i64 t).wf = true) (n : Int) (_ : (Lit.int .i64 n).wf = true) (now : Int) (_ : (Lit.int .i64 now).wf = true) : CallsH Try.prog 5 #[.agg #[.int .i64 r, .int .i64 p, .int .i64 u, .int .i64 c, .int .i64 t], .int .i64 n, .int .i64 now] (heapOf W) fun v h' => v = .bool true ∧ Sub (heapOf W) h' :=
  (takes_core r p u c t n now (heapOf W)).mono fun v h' ⟨e1, e2⟩ => ⟨e1, by rw [e2]; exact fun _ _ h => h⟩
end Go.Proofs.Ytiohianbhjjolaa
