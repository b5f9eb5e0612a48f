/- The formulas of functions of the program, as the executor computes them, and that a call does what its formula says. Printed by a tool of ours (wip/tool). -/
import Derived.Test.YtlklpdedppgkfaaFC
import Derived.Test.YtlklpdedppgkfaaProg
import Derived.KernelRfl
namespace Go.Proofs.Ytlklpdedppgkfaa
open Go.Gx
set_option maxRecDepth 100000
set_option linter.unusedVariables false

/-! ### 51 num_Put -/
def num_Put.H : Hints := { N := 9, loc := (fun _ => false), join := (fun _ => none), loop := (fun _ => none), ifc := 27, order := (fun _ => none) }
def num_Put.W (ba : Option Addr) (bl bc : Nat) (n : Int) (h : Hp) (Q : Value → Hp → Prop) : Prop :=
  (CallsH Try.prog 54 (#[Value.slice ba bl bc]) (h) (fun (v1 : Value) (h2 : Hp) => (∃ (a3 : Option Addr), (∃ (k4 : Nat), (∃ (k5 : Nat), ((v1 = Value.slice a3 k4 k5) ∧ (CallsH Try.prog 53 (#[Value.slice a3 k4 k5, Value.int IntKind.u64 n]) (h2) (fun (v6 : Value) (h7 : Hp) => (∃ (a8 : Option Addr), (∃ (k9 : Nat), (∃ (k10 : Nat), ((v6 = Value.slice a8 k9 k10) ∧ (Q (Value.slice a8 k9 k10) h7)))))))))))))
theorem num_Put.calls (ba : Option Addr) (bl bc : Nat) (n : Int) {h : Hp} {Q : Value → Hp → Prop} (hW : num_Put.W ba bl bc n h Q) : CallsH Try.prog 51 #[.slice ba bl bc, .int .u64 n] h Q := by
  have e : bodyW Try.prog num_Put.H Try.f51 [.val (.slice ba bl bc), .val (.int .u64 n)] h Q = num_Put.W ba bl bc n h Q := by kernel_rfl
  rw [← e] at hW
  exact calls_of_body (H := num_Put.H) (args := [.val (.slice ba bl bc), .val (.int .u64 n)]) Try.func51 Try.ntmps51 rfl rfl hW

/-! ### 52 num_Get -/
def num_Get.H : Hints := { N := 69, loc := (fun _ => false), join := (fun i => bif Nat.beq i 13 then some [] else none), loop := (fun i => bif Nat.beq i 5 then some [.slot 7 (.int .u64), .slot 18 (.int .i64)] else none), ifc := 27, order := (fun _ => none) }
def num_Get.W (ba : Option Addr) (bl bc : Nat) (p1 : Int) (h : Hp) (Q : Value → Hp → Prop) : Prop :=
  (bif hb (decide (p1 < 0)) then (Q (Value.tuple #[Value.int IntKind.u64 0, Value.int IntKind.i64 0, Value.int IntKind.i64 9]) h) else (bif hb (decide (p1 > Int.ofNat bl)) then (Q (Value.tuple #[Value.int IntKind.u64 0, Value.int IntKind.i64 0, Value.int IntKind.i64 9]) h) else (∃ (J1 : Int → Int → Hp → Nat → Prop), ((∃ (k2 : Nat), (J1 0 0 h k2)) ∧ (∀ (n3 : Int), (∀ (n4 : Int), (∀ (x5 : Hp), (∀ (k6 : Nat), (((J1 n3 n4 x5 k6)) → (bif hb (decide (n4 < 10)) then (bif hb (IntKind.i64.wrap (p1 + n4) == Int.ofNat bl) then (Q (Value.tuple #[Value.int IntKind.u64 0, Value.int IntKind.i64 0, Value.int IntKind.i64 3]) x5) else ((0 ≤ IntKind.i64.wrap (p1 + n4)) ∧ ((IntKind.i64.wrap (p1 + n4) < Int.ofNat bl) ∧ (∃ (k7 : Nat), (∃ (k8 : Nat), ((ba = some { block := k7, off := k8 }) ∧ (∃ (n9 : Int), ((x5.cell k7 (k8 + (IntKind.i64.wrap (p1 + n4)).toNat * 1) = some (Value.int IntKind.u8 n9)) ∧ (bif hb (decide (n9 < 128)) then (∃ (J10 : Hp → Prop), ((∀ (x11 : Hp), (((J10 x11)) → ((0 ≤ IntKind.i64.wrap (7 * n4)) ∧ (Q (Value.tuple #[Value.int IntKind.u64 (IntKind.u64.wrap (ior IntKind.u64 n3 (IntKind.u64.wrap (ishl IntKind.u64 (IntKind.u64.wrap n9) (IntKind.i64.wrap (7 * n4)))))), Value.int IntKind.i64 (IntKind.i64.wrap (IntKind.i64.wrap (p1 + n4) + 1)), Value.int IntKind.i64 0]) x11)))) ∧ (bif hb (n9 == 0) then (bif hb (decide (n4 > 0)) then (Q (Value.tuple #[Value.int IntKind.u64 0, Value.int IntKind.i64 0, Value.int IntKind.i64 4]) x5) else (bif hb (n4 == 9) then (bif hb (decide (n9 > 1)) then (Q (Value.tuple #[Value.int IntKind.u64 0, Value.int IntKind.i64 0, Value.int IntKind.i64 4]) x5) else (J10 x5)) else (J10 x5))) else (bif hb (n4 == 9) then (bif hb (decide (n9 > 1)) then (Q (Value.tuple #[Value.int IntKind.u64 0, Value.int IntKind.i64 0, Value.int IntKind.i64 4]) x5) else (J10 x5)) else (J10 x5))))) else ((0 ≤ IntKind.i64.wrap (7 * n4)) ∧ (∃ (k12 : Nat), ((k12 < k6) ∧ (J1 (IntKind.u64.wrap (ior IntKind.u64 n3 (IntKind.u64.wrap (ishl IntKind.u64 (IntKind.u64.wrap (IntKind.u8.wrap (iand IntKind.u8 n9 127))) (IntKind.i64.wrap (7 * n4)))))) (IntKind.i64.wrap (n4 + 1)) x5 k12))))))))))))) else (Q (Value.tuple #[Value.int IntKind.u64 0, Value.int IntKind.i64 0, Value.int IntKind.i64 4]) x5)))))))))))
theorem num_Get.calls (ba : Option Addr) (bl bc : Nat) (p1 : Int) {h : Hp} {Q : Value → Hp → Prop} (hW : num_Get.W ba bl bc p1 h Q) : CallsH Try.prog 52 #[.slice ba bl bc, .int .i64 p1] h Q := by
  have e : bodyW Try.prog num_Get.H Try.f52 [.val (.slice ba bl bc), .val (.int .i64 p1)] h Q = num_Get.W ba bl bc p1 h Q := by kernel_rfl
  rw [← e] at hW
  exact calls_of_body (H := num_Get.H) (args := [.val (.slice ba bl bc), .val (.int .i64 p1)]) Try.func52 Try.ntmps52 rfl rfl hW

/-! ### 53 num_lay -/
def num_lay.H : Hints := { N := 20, loc := (fun _ => false), join := (fun _ => none), loop := (fun i => bif Nat.beq i 1 then some [.slot 0 (.slice), .slot 1 (.int .u64)] else none), ifc := 27, order := (fun _ => none) }
def num_lay.W (ba : Option Addr) (bl bc : Nat) (n : Int) (h : Hp) (Q : Value → Hp → Prop) : Prop :=
  (∃ (J1 : Option Addr → Nat → Nat → Int → Hp → Nat → Prop), ((∃ (k2 : Nat), (J1 ba bl bc n h k2)) ∧ (∀ (a3 : Option Addr), (∀ (k4 : Nat), (∀ (k5 : Nat), (∀ (n6 : Int), (∀ (x7 : Hp), (∀ (k8 : Nat), (((J1 a3 k4 k5 n6 x7 k8)) → (bif hb (decide (n6 ≥ 128)) then (∀ (k9 : Nat), (((x7 k9 = none)) → (∃ (xs10 : List Value), ((SliceAt (x7.upd k9 (Obj.cells #[Value.int IntKind.u8 (IntKind.u8.wrap (ior IntKind.u8 (IntKind.u8.wrap n6) 128))] 5 (0, 0))) (some { block := k9, off := 0 }) (1) (xs10)) ∧ (∃ (J11 : Option Addr → Nat → Hp → Prop), ((∀ (a12 : Option Addr), (∀ (k13 : Nat), (∀ (x14 : Hp), (((J11 a12 k13 x14)) → ((Int.ofNat 0 ≤ 7) ∧ (∃ (k15 : Nat), ((k15 < k8) ∧ (J1 a12 (k4 + 1) k13 (ishr IntKind.u64 n6 7) x14 k15)))))))) ∧ (appendC Try.prog 5 a3 k4 k5 (x7.upd k9 (Obj.cells #[Value.int IntKind.u8 (IntKind.u8.wrap (ior IntKind.u8 (IntKind.u8.wrap n6) 128))] 5 (0, 0))) xs10 1 J11))))))) else (∀ (k16 : Nat), (((x7 k16 = none)) → (∃ (xs17 : List Value), ((SliceAt (x7.upd k16 (Obj.cells #[Value.int IntKind.u8 (IntKind.u8.wrap n6)] 5 (0, 0))) (some { block := k16, off := 0 }) (1) (xs17)) ∧ (∃ (J18 : Option Addr → Nat → Hp → Prop), ((∀ (a19 : Option Addr), (∀ (k20 : Nat), (∀ (x21 : Hp), (((J18 a19 k20 x21)) → (Q (Value.slice a19 (k4 + 1) k20) x21))))) ∧ (appendC Try.prog 5 a3 k4 k5 (x7.upd k16 (Obj.cells #[Value.int IntKind.u8 (IntKind.u8.wrap n6)] 5 (0, 0))) xs17 1 J18)))))))))))))))))
theorem num_lay.calls (ba : Option Addr) (bl bc : Nat) (n : Int) {h : Hp} {Q : Value → Hp → Prop} (hW : num_lay.W ba bl bc n h Q) : CallsH Try.prog 53 #[.slice ba bl bc, .int .u64 n] h Q := by
  have e : bodyW Try.prog num_lay.H Try.f53 [.val (.slice ba bl bc), .val (.int .u64 n)] h Q = num_lay.W ba bl bc n h Q := by kernel_rfl
  rw [← e] at hW
  exact calls_of_body (H := num_lay.H) (args := [.val (.slice ba bl bc), .val (.int .u64 n)]) Try.func53 Try.ntmps53 rfl rfl hW

/-! ### 54 num_own -/
def num_own.H : Hints := { N := 6, loc := (fun _ => false), join := (fun _ => none), loop := (fun _ => none), ifc := 27, order := (fun _ => none) }
def num_own.W (ba : Option Addr) (bl bc : Nat) (h : Hp) (Q : Value → Hp → Prop) : Prop :=
  (∀ (k1 : Nat), (((h k1 = none)) → (∃ (xs2 : List Value), ((SliceAt (h.upd k1 (Obj.cells #[] 5 (0, 0))) (ba) (bl * 1) (xs2)) ∧ (∃ (J3 : Option Addr → Nat → Hp → Prop), ((∀ (a4 : Option Addr), (∀ (k5 : Nat), (∀ (x6 : Hp), (((J3 a4 k5 x6)) → (Q (Value.slice a4 (0 + bl) k5) x6))))) ∧ (appendC Try.prog 5 (some { block := k1, off := 0 }) 0 0 (h.upd k1 (Obj.cells #[] 5 (0, 0))) xs2 bl J3)))))))
theorem num_own.calls (ba : Option Addr) (bl bc : Nat) {h : Hp} {Q : Value → Hp → Prop} (hW : num_own.W ba bl bc h Q) : CallsH Try.prog 54 #[.slice ba bl bc] h Q := by
  have e : bodyW Try.prog num_own.H Try.f54 [.val (.slice ba bl bc)] h Q = num_own.W ba bl bc h Q := by kernel_rfl
  rw [← e] at hW
  exact calls_of_body (H := num_own.H) (args := [.val (.slice ba bl bc)]) Try.func54 Try.ntmps54 rfl rfl hW

/-! ### 47 ledger_text -/
def ledger_text.H : Hints := { N := 19, loc := (fun _ => false), join := (fun _ => none), loop := (fun i => bif Nat.beq i 3 then some [.slot 3 (.slice), .slot 8 (.int .i64)] else none), ifc := 27, order := (fun _ => none) }
def ledger_text.W (la : Option Addr) (ll lc : Nat) (h : Hp) (Q : Value → Hp → Prop) : Prop :=
  (∃ (J1 : Option Addr → Nat → Nat → Int → Hp → Nat → Prop), ((∃ (k2 : Nat), (J1 none 0 0 0 h k2)) ∧ (∀ (a3 : Option Addr), (∀ (k4 : Nat), (∀ (k5 : Nat), (∀ (n6 : Int), (∀ (x7 : Hp), (∀ (k8 : Nat), (((J1 a3 k4 k5 n6 x7 k8)) → (bif hb (decide (n6 < Int.ofNat ll)) then ((0 ≤ n6) ∧ ((n6 < Int.ofNat ll) ∧ (∃ (k9 : Nat), (∃ (k10 : Nat), ((la = some { block := k9, off := k10 }) ∧ (∃ (n11 : Int), ((x7.cell k9 (k10 + n6.toNat * 1) = some (Value.int IntKind.i64 n11)) ∧ (CallsH Try.prog 51 (#[Value.slice a3 k4 k5, Value.int IntKind.u64 (IntKind.u64.wrap n11)]) (x7) (fun (v12 : Value) (h13 : Hp) => (∃ (a14 : Option Addr), (∃ (k15 : Nat), (∃ (k16 : Nat), ((v12 = Value.slice a14 k15 k16) ∧ (∃ (k17 : Nat), ((k17 < k8) ∧ (J1 a14 k15 k16 (IntKind.i64.wrap (n6 + 1)) h13 k17)))))))))))))))) else (∃ (s18 : ByteArray), ((SliceAt (x7) (a3) (k4) (bytesV s18)) ∧ (Q (Value.string s18) x7)))))))))))))
theorem ledger_text.calls (la : Option Addr) (ll lc : Nat) {h : Hp} {Q : Value → Hp → Prop} (hW : ledger_text.W la ll lc h Q) : CallsH Try.prog 47 #[.slice la ll lc] h Q := by
  have e : bodyW Try.prog ledger_text.H Try.f47 [.val (.slice la ll lc)] h Q = ledger_text.W la ll lc h Q := by kernel_rfl
  rw [← e] at hW
  exact calls_of_body (H := ledger_text.H) (args := [.val (.slice la ll lc)]) Try.func47 Try.ntmps47 rfl rfl hW

/-! ### 48 ledger_numbers -/
def ledger_numbers.H : Hints := { N := 29, loc := (fun _ => false), join := (fun _ => none), loop := (fun i => bif Nat.beq i 4 then some [.slot 5 (.slice), .slot 6 (.int .i64), .slot 11 (.int .i64)] else none), ifc := 27, order := (fun _ => none) }
def ledger_numbers.W (s : ByteArray) (n : Int) (h : Hp) (Q : Value → Hp → Prop) : Prop :=
  (∃ (J1 : Option Addr → Nat → Nat → Int → Int → Hp → Nat → Prop), ((∃ (k2 : Nat), (J1 none 0 0 0 0 h k2)) ∧ (∀ (a3 : Option Addr), (∀ (k4 : Nat), (∀ (k5 : Nat), (∀ (n6 : Int), (∀ (n7 : Int), (∀ (x8 : Hp), (∀ (k9 : Nat), (((J1 a3 k4 k5 n6 n7 x8 k9)) → (bif hb (decide (n7 < n)) then (∀ (k10 : Nat), (((s.size ≤ k10)) → (∀ (k11 : Nat), (((x8 k11 = none)) → (CallsH Try.prog 52 (#[Value.slice (some { block := k11, off := 0 }) s.size k10, Value.int IntKind.i64 n6]) (x8.upd k11 (Obj.cells (grown (bytesV s) [] [Value.int IntKind.u8 0] (k10 - s.size)) 5 (k10, k10 + 1))) (fun (v12 : Value) (h13 : Hp) => (∃ (n14 : Int), (∃ (n15 : Int), (∃ (n16 : Int), ((v12 = Value.tuple #[Value.int IntKind.u64 n14, Value.int IntKind.i64 n15, Value.int IntKind.i64 n16]) ∧ (∀ (k17 : Nat), (((h13 k17 = none)) → (∃ (xs18 : List Value), ((SliceAt (h13.upd k17 (Obj.cells #[Value.int IntKind.i64 (IntKind.i64.wrap n14)] 3 (0, 0))) (some { block := k17, off := 0 }) (1) (xs18)) ∧ (∃ (J19 : Option Addr → Nat → Hp → Prop), ((∀ (a20 : Option Addr), (∀ (k21 : Nat), (∀ (x22 : Hp), (((J19 a20 k21 x22)) → (∃ (k23 : Nat), ((k23 < k9) ∧ (J1 a20 (k4 + 1) k21 n15 (IntKind.i64.wrap (n7 + 1)) x22 k23))))))) ∧ (appendC Try.prog 3 a3 k4 k5 (h13.upd k17 (Obj.cells #[Value.int IntKind.i64 (IntKind.i64.wrap n14)] 3 (0, 0))) xs18 1 J19))))))))))))))))) else (Q (Value.slice a3 k4 k5) x8))))))))))))
theorem ledger_numbers.calls (s : ByteArray) (n : Int) {h : Hp} {Q : Value → Hp → Prop} (hW : ledger_numbers.W s n h Q) : CallsH Try.prog 48 #[.string s, .int .i64 n] h Q := by
  have e : bodyW Try.prog ledger_numbers.H Try.f48 [.val (.string s), .val (.int .i64 n)] h Q = ledger_numbers.W s n h Q := by kernel_rfl
  rw [← e] at hW
  exact calls_of_body (H := ledger_numbers.H) (args := [.val (.string s), .val (.int .i64 n)]) Try.func48 Try.ntmps48 rfl rfl hW

end Go.Proofs.Ytlklpdedppgkfaa
