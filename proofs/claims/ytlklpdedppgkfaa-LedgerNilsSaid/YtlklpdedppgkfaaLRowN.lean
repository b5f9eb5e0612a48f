/- LedgerNils over any memory. Condition: none. -/
import Derived.Test.YtlklpdedppgkfaaLB
import Derived.Test.YtlklpdedppgkfaaGxM
namespace Go.Proofs.Ytlklpdedppgkfaa
open Go.Gx
theorem nils_all (W : World) (tenant : Int) {p : Prop} (_ : p) (o0 o1 o2 : Int) (o3 : ByteArray) (o4 : Int) {p0 p1 p2 p3 p4 : Prop} (_ : p0) (_ : p1) (_ : p2) (_ : p3) (_ : p4) :
    CallsH Try.prog 8 #[.int .i64 tenant, .agg #[.int .i64 o0, .int .i64 o1, .int .i64 o2, .string o3, .int .i64 o4]] (heapOf W) fun v h' => v = .bool true ∧ Sub (heapOf W) h' := nils_core tenant o0 o1 o2 o3 o4
end Go.Proofs.Ytlklpdedppgkfaa
