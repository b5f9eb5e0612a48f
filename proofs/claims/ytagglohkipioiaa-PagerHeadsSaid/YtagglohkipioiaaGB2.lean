/- The formulas of functions of the program, as the executor computes them, and that a call does what its formula says. Printed by a tool of ours (wip/tool). -/
import Derived.Test.YtagglohkipioiaaGB
import Derived.Test.YtagglohkipioiaaProg
import Derived.KernelRfl
namespace Go.Proofs.Ytagglohkipioiaa
open Go.Gx
set_option maxRecDepth 100000
set_option linter.unusedVariables false

/-! ### 15 pager_Open_n -/
def pager_Open_n.H : Hints := { N := 34, loc := (fun _ => false), join := (fun _ => none), loop := (fun _ => none), ifc := 0, order := (fun _ => none) }
def pager_Open_n.W  (h : Hp) (Q : Value → Hp → Prop) : Prop :=
  (CallsH Try.prog 62 (#[Value.pointer none]) (h) (fun (v1 : Value) (h2 : Hp) => (∃ (n3 : Int), ((v1 = Value.int IntKind.i64 n3) ∧ (bif hb (decide (n3 < 2)) then (Q (Value.tuple #[Value.pointer none, Value.int IntKind.i64 1]) h2) else (CallsH Try.prog 63 (#[Value.pointer none, Value.int IntKind.i64 0]) (h2) (fun (v4 : Value) (h5 : Hp) => (∃ (s6 : ByteArray), (∃ (n7 : Int), ((v4 = Value.tuple #[Value.string s6, Value.int IntKind.i64 n7]) ∧ (bif hb (n7 != 0) then (Q (Value.tuple #[Value.pointer none, Value.int IntKind.i64 n7]) h5) else (CallsH Try.prog 62 (#[Value.pointer none]) (h5) (fun (v8 : Value) (h9 : Hp) => (∃ (n10 : Int), ((v8 = Value.int IntKind.i64 n10) ∧ (CallsH Try.prog 64 (#[Value.string s6, Value.int IntKind.i64 n10]) (h9) (fun (v11 : Value) (h12 : Hp) => (∃ (xs13 : List Value), ((xs13.length = 133) ∧ (∃ (b14 : Bool), ((v11 = Value.tuple #[Value.agg xs13.toArray, Value.bool b14]) ∧ (∀ (k15 : Nat), (((h12 k15 = none)) → ((xs13.length = 133) ∧ ((plainP xs13) ∧ ((StoreOk (h12.upd k15 (Obj.cells (zeroL Try.prog 114).toArray 114 (0, 0))) k15 0 xs13.length) ∧ (bif !b14 then (Q (Value.tuple #[Value.pointer none, Value.int IntKind.i64 4]) ((h12.upd k15 (Obj.cells (zeroL Try.prog 114).toArray 114 (0, 0))).put k15 0 xs13)) else (∃ (xs16 : List Value), ((xs16.length = 133) ∧ ((CellsAt ((h12.upd k15 (Obj.cells (zeroL Try.prog 114).toArray 114 (0, 0))).put k15 0 xs13) k15 0 xs16) ∧ (∃ (xs17 : List Value), ((xs17.length = 133) ∧ ((CellsAt ((h12.upd k15 (Obj.cells (zeroL Try.prog 114).toArray 114 (0, 0))).put k15 0 xs13) k15 0 xs17) ∧ (∀ (k18 : Nat), ((((h12.upd k15 (Obj.cells (zeroL Try.prog 114).toArray 114 (0, 0))).put k15 0 xs13 k18 = none)) → (∀ (x19 : Obj), (((MapObj Try.prog 3 x19 [])) → ((1 = 1) ∧ ((xs16.length = 133) ∧ ((xs17.length = 133) ∧ ((1 = 1) ∧ (∀ (k20 : Nat), (((((h12.upd k15 (Obj.cells (zeroL Try.prog 114).toArray 114 (0, 0))).put k15 0 xs13).upd k18 x19 k20 = none)) → (Q (Value.tuple #[Value.pointer (some { block := k20, off := 0 }), Value.int IntKind.i64 0]) ((((h12.upd k15 (Obj.cells (zeroL Try.prog 114).toArray 114 (0, 0))).put k15 0 xs13).upd k18 x19).upd k20 (Obj.cells (setL (setL (setL (setL (zeroL Try.prog 120) 0 [Value.pointer none]) 1 xs16) 134 xs17) 267 [Value.map (some k18)]).toArray 120 (0, 0)))))))))))))))))))))))))))))))))))))))))))))))
theorem pager_Open_n.calls  {h : Hp} {Q : Value → Hp → Prop} (hW : pager_Open_n.W  h Q) : CallsH Try.prog 15 #[.pointer none] h Q := by
  have hE_ : bodyW Try.prog pager_Open_n.H Try.f15 [.val (.pointer none)] h Q = pager_Open_n.W  h Q := by kernel_rfl
  rw [← hE_] at hW
  exact calls_of_body (H := pager_Open_n.H) (args := [.val (.pointer none)]) Try.func15 Try.ntmps15 rfl rfl hW

/-! ### 62 journal_Journal_Pages_n -/
def journal_Journal_Pages_n.H : Hints := { N := 9, loc := (fun _ => false), join := (fun _ => none), loop := (fun _ => none), ifc := 0, order := (fun _ => none) }
def journal_Journal_Pages_n.W  (h : Hp) (Q : Value → Hp → Prop) : Prop :=
  (Q (Value.int IntKind.i64 0) h)
theorem journal_Journal_Pages_n.calls  {h : Hp} {Q : Value → Hp → Prop} (hW : journal_Journal_Pages_n.W  h Q) : CallsH Try.prog 62 #[.pointer none] h Q := by
  have hE_ : bodyW Try.prog journal_Journal_Pages_n.H Try.f62 [.val (.pointer none)] h Q = journal_Journal_Pages_n.W  h Q := by kernel_rfl
  rw [← hE_] at hW
  exact calls_of_body (H := journal_Journal_Pages_n.H) (args := [.val (.pointer none)]) Try.func62 Try.ntmps62 rfl rfl hW

end Go.Proofs.Ytagglohkipioiaa
