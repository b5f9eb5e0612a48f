/- The formulas of functions of the program, as the executor computes them, and that a call does what its formula says. Printed by a tool of ours (wip/tool). -/
import Derived.Test.YtagglohkipioiaaGreatGC
import Derived.Test.YtagglohkipioiaaGreatProg
import Derived.KernelRfl
namespace Go.Proofs.YtagglohkipioiaaGreat
open Go.Gx
set_option maxRecDepth 100000
set_option linter.unusedVariables false

/-! ### 52 disk_Disk_Fail_1 -/
def disk_Disk_Fail_1.H : Hints := { N := 14, loc := (fun _ => false), join := (fun _ => none), loop := (fun _ => none), ifc := 0, order := (fun _ => none) }
def disk_Disk_Fail_1.W (i : Int) (p1_b p1_o : Nat) (h : Hp) (Q : Value → Hp → Prop) : Prop :=
  (∃ (a1 : Option Addr), (∃ (k2 : Nat), (∃ (k3 : Nat), ((h.cell p1_b p1_o = some (Value.slice a1 k2 k3)) ∧ (bif hb (decide (i < Int.ofNat k2)) then (∃ (a4 : Option Addr), (∃ (k5 : Nat), (∃ (k6 : Nat), ((h.cell p1_b p1_o = some (Value.slice a4 k5 k6)) ∧ ((0 ≤ i) ∧ ((i < Int.ofNat k5) ∧ (∃ (k7 : Nat), (∃ (k8 : Nat), ((a4 = some { block := k7, off := k8 }) ∧ (∃ (b9 : Bool), ((h.cell k7 (k8 + i.toNat * 1) = some (Value.bool b9)) ∧ (Q (Value.bool b9) h)))))))))))) else (Q (Value.bool false) h))))))
theorem disk_Disk_Fail_1.calls (i : Int) (p1_b p1_o : Nat) {h : Hp} {Q : Value → Hp → Prop} (hW : disk_Disk_Fail_1.W i p1_b p1_o h Q) : CallsH Tryz.prog 52 #[.int .i64 i, .pointer (some ⟨p1_b, p1_o, none⟩)] h Q := by
  have hE_ : bodyW Tryz.prog disk_Disk_Fail_1.H Tryz.f52 [.val (.int .i64 i), .ptr p1_b p1_o] h Q = disk_Disk_Fail_1.W i p1_b p1_o h Q := by kernel_rfl
  rw [← hE_] at hW
  exact calls_of_body (H := disk_Disk_Fail_1.H) (args := [.val (.int .i64 i), .ptr p1_b p1_o]) Tryz.func52 Tryz.ntmps52 rfl rfl hW

end Go.Proofs.YtagglohkipioiaaGreat
