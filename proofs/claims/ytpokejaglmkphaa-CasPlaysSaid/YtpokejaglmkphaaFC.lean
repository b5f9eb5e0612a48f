/- The formulas of functions of the program, as the executor computes them, and that a call does what its formula says. Printed by a tool of ours (wip/tool). -/
import Derived.Test.YtpokejaglmkphaaFA
import Derived.Test.YtpokejaglmkphaaProg
import Derived.KernelRfl
namespace Go.Proofs.Ytpokejaglmkphaa
open Go.Gx
set_option maxRecDepth 100000
set_option linter.unusedVariables false

/-! ### 49 ref08_Find -/
def ref08_Find.H : Hints := { N := 30, loc := (fun _ => false), join := (fun _ => none), loop := (fun i => bif Nat.beq i 2 then some [.slot 6 (.int .i64)] else none), ifc := 27, order := (fun i => bif Nat.beq i 5 then some (none, false, [0, 1, 2, 3, 4, 5, 6, 7, 8, 9], .q 0 (.q 1 (.q 2 (.q 3 (.q 4 (.q 5 (.q 6 (.q 7 (.q 8 (.q 9 .done)))))))))) else none) }
def ref08_Find.W (la : Option Addr) (ll lc : Nat) (key : ByteArray) (h : Hp) (Q : Value → Hp → Prop) : Prop :=
  (∃ (J1 : Int → Hp → Nat → Prop), ((∃ (k2 : Nat), (J1 0 h k2)) ∧ (∀ (n3 : Int), (∀ (x4 : Hp), (∀ (k5 : Nat), (((J1 n3 x4 k5)) → (bif hb (decide (n3 < Int.ofNat ll)) then ((0 ≤ n3) ∧ ((n3 < Int.ofNat ll) ∧ (∃ (k6 : Nat), (∃ (k7 : Nat), ((la = some { block := k6, off := k7 }) ∧ (∃ (s8 : ByteArray), ((x4.cell k6 (k7 + n3.toNat * 2) = some (Value.string s8)) ∧ (bif !bltS s8 key then ((0 ≤ n3) ∧ ((n3 < Int.ofNat ll) ∧ (∃ (k9 : Nat), (∃ (k10 : Nat), ((la = some { block := k9, off := k10 }) ∧ (∃ (s11 : ByteArray), ((x4.cell k9 (k10 + n3.toNat * 2) = some (Value.string s11)) ∧ (Q (Value.tuple #[Value.int IntKind.i64 n3, Value.bool (beqS s11 key)]) x4)))))))) else (∃ (k12 : Nat), ((k12 < k5) ∧ (J1 (IntKind.i64.wrap (n3 + 1)) x4 k12))))))))))) else (Q (Value.tuple #[Value.int IntKind.i64 (Int.ofNat ll), Value.bool false]) x4))))))))
theorem ref08_Find.calls (la : Option Addr) (ll lc : Nat) (key : ByteArray) {h : Hp} {Q : Value → Hp → Prop} (hW : ref08_Find.W la ll lc key h Q) : CallsH Try.prog 49 #[.slice la ll lc, .string key] h Q := by
  have e : bodyW Try.prog ref08_Find.H Try.f49 [.val (.slice la ll lc), .val (.string key)] h Q = ref08_Find.W la ll lc key h Q := by kernel_rfl
  rw [← e] at hW
  exact calls_of_body (H := ref08_Find.H) (args := [.val (.slice la ll lc), .val (.string key)]) Try.func49 Try.ntmps49 rfl rfl hW

/-! ### 37 ref08_Get -/
def ref08_Get.H : Hints := { N := 21, loc := (fun _ => false), join := (fun _ => none), loop := (fun _ => none), ifc := 27, order := (fun _ => none) }
def ref08_Get.W (la : Option Addr) (ll lc : Nat) (key : ByteArray) (h : Hp) (Q : Value → Hp → Prop) : Prop :=
  (CallsH Try.prog 49 (#[Value.slice la ll lc, Value.string key]) (h) (fun (v1 : Value) (h2 : Hp) => (∃ (n3 : Int), (∃ (b4 : Bool), ((v1 = Value.tuple #[Value.int IntKind.i64 n3, Value.bool b4]) ∧ (bif !b4 then (Q (Value.tuple #[Value.string (bytesL []), Value.bool false]) h2) else ((0 ≤ n3) ∧ ((n3 < Int.ofNat ll) ∧ (∃ (k5 : Nat), (∃ (k6 : Nat), ((la = some { block := k5, off := k6 }) ∧ (∃ (s7 : ByteArray), ((h2.cell k5 (k6 + n3.toNat * 2 + 1) = some (Value.string s7)) ∧ (Q (Value.tuple #[Value.string s7, Value.bool true]) h2))))))))))))))
theorem ref08_Get.calls (la : Option Addr) (ll lc : Nat) (key : ByteArray) {h : Hp} {Q : Value → Hp → Prop} (hW : ref08_Get.W la ll lc key h Q) : CallsH Try.prog 37 #[.slice la ll lc, .string key] h Q := by
  have e : bodyW Try.prog ref08_Get.H Try.f37 [.val (.slice la ll lc), .val (.string key)] h Q = ref08_Get.W la ll lc key h Q := by kernel_rfl
  rw [← e] at hW
  exact calls_of_body (H := ref08_Get.H) (args := [.val (.slice la ll lc), .val (.string key)]) Try.func37 Try.ntmps37 rfl rfl hW

/-! ### 38 ref08_Put -/
def ref08_Put.H : Hints := { N := 35, loc := (fun _ => false), join := (fun _ => none), loop := (fun _ => none), ifc := 27, order := (fun _ => none) }
def ref08_Put.W (la : Option Addr) (ll lc : Nat) (key : ByteArray) (value : ByteArray) (h : Hp) (Q : Value → Hp → Prop) : Prop :=
  (CallsH Try.prog 49 (#[Value.slice la ll lc, Value.string key]) (h) (fun (v1 : Value) (h2 : Hp) => (∃ (n3 : Int), (∃ (b4 : Bool), ((v1 = Value.tuple #[Value.int IntKind.i64 n3, Value.bool b4]) ∧ ((0 ≤ n3) ∧ ((n3 ≤ Int.ofNat lc) ∧ (∃ (xs5 : List Value), ((SliceAt (h2) (slA lc 0 2 la) (n3.toNat * 2) (xs5)) ∧ (∃ (J6 : Option Addr → Nat → Hp → Prop), ((∀ (a7 : Option Addr), (∀ (k8 : Nat), (∀ (x9 : Hp), (((J6 a7 k8 x9)) → (∀ (k10 : Nat), (((x9 k10 = none)) → (∃ (xs11 : List Value), ((SliceAt (x9.upd k10 (Obj.cells #[Value.string key, Value.string value] 63 (0, 0))) (some { block := k10, off := 0 }) (2) (xs11)) ∧ (∃ (J12 : Option Addr → Nat → Hp → Prop), ((∀ (a13 : Option Addr), (∀ (k14 : Nat), (∀ (x15 : Hp), (((J12 a13 k14 x15)) → (bif b4 then ((0 ≤ IntKind.i64.wrap (n3 + 1)) ∧ ((IntKind.i64.wrap (n3 + 1) ≤ Int.ofNat ll) ∧ (∃ (xs16 : List Value), ((SliceAt (x15) (slA lc (IntKind.i64.wrap (n3 + 1)).toNat 2 la) ((ll - (IntKind.i64.wrap (n3 + 1)).toNat) * 2) (xs16)) ∧ (∃ (J17 : Option Addr → Nat → Hp → Prop), ((∀ (a18 : Option Addr), (∀ (k19 : Nat), (∀ (x20 : Hp), (((J17 a18 k19 x20)) → (Q (Value.slice a18 (0 + n3.toNat + 1 + (ll - (IntKind.i64.wrap (n3 + 1)).toNat)) k19) x20))))) ∧ (appendC Try.prog 63 a13 (0 + n3.toNat + 1) k14 x15 xs16 (ll - (IntKind.i64.wrap (n3 + 1)).toNat) J17))))))) else ((0 ≤ n3) ∧ ((n3 ≤ Int.ofNat ll) ∧ (∃ (xs21 : List Value), ((SliceAt (x15) (slA lc n3.toNat 2 la) ((ll - n3.toNat) * 2) (xs21)) ∧ (∃ (J22 : Option Addr → Nat → Hp → Prop), ((∀ (a23 : Option Addr), (∀ (k24 : Nat), (∀ (x25 : Hp), (((J22 a23 k24 x25)) → (Q (Value.slice a23 (0 + n3.toNat + 1 + (ll - n3.toNat)) k24) x25))))) ∧ (appendC Try.prog 63 a13 (0 + n3.toNat + 1) k14 x15 xs21 (ll - n3.toNat) J22)))))))))))) ∧ (appendC Try.prog 63 a7 (0 + n3.toNat) k8 (x9.upd k10 (Obj.cells #[Value.string key, Value.string value] 63 (0, 0))) xs11 1 J12))))))))))) ∧ (appendC Try.prog 63 none 0 0 h2 xs5 n3.toNat J6))))))))))))
theorem ref08_Put.calls (la : Option Addr) (ll lc : Nat) (key : ByteArray) (value : ByteArray) {h : Hp} {Q : Value → Hp → Prop} (hW : ref08_Put.W la ll lc key value h Q) : CallsH Try.prog 38 #[.slice la ll lc, .string key, .string value] h Q := by
  have e : bodyW Try.prog ref08_Put.H Try.f38 [.val (.slice la ll lc), .val (.string key), .val (.string value)] h Q = ref08_Put.W la ll lc key value h Q := by kernel_rfl
  rw [← e] at hW
  exact calls_of_body (H := ref08_Put.H) (args := [.val (.slice la ll lc), .val (.string key), .val (.string value)]) Try.func38 Try.ntmps38 rfl rfl hW

/-! ### 83 ref08_Drop -/
def ref08_Drop.H : Hints := { N := 29, loc := (fun _ => false), join := (fun _ => none), loop := (fun _ => none), ifc := 27, order := (fun _ => none) }
def ref08_Drop.W (la : Option Addr) (ll lc : Nat) (key : ByteArray) (h : Hp) (Q : Value → Hp → Prop) : Prop :=
  (CallsH Try.prog 49 (#[Value.slice la ll lc, Value.string key]) (h) (fun (v1 : Value) (h2 : Hp) => (∃ (n3 : Int), (∃ (b4 : Bool), ((v1 = Value.tuple #[Value.int IntKind.i64 n3, Value.bool b4]) ∧ (bif !b4 then (Q (Value.tuple #[Value.slice la ll lc, Value.bool false]) h2) else ((0 ≤ n3) ∧ ((n3 ≤ Int.ofNat lc) ∧ (∃ (xs5 : List Value), ((SliceAt (h2) (slA lc 0 2 la) (n3.toNat * 2) (xs5)) ∧ (∃ (J6 : Option Addr → Nat → Hp → Prop), ((∀ (a7 : Option Addr), (∀ (k8 : Nat), (∀ (x9 : Hp), (((J6 a7 k8 x9)) → ((0 ≤ IntKind.i64.wrap (n3 + 1)) ∧ ((IntKind.i64.wrap (n3 + 1) ≤ Int.ofNat ll) ∧ (∃ (xs10 : List Value), ((SliceAt (x9) (slA lc (IntKind.i64.wrap (n3 + 1)).toNat 2 la) ((ll - (IntKind.i64.wrap (n3 + 1)).toNat) * 2) (xs10)) ∧ (∃ (J11 : Option Addr → Nat → Hp → Prop), ((∀ (a12 : Option Addr), (∀ (k13 : Nat), (∀ (x14 : Hp), (((J11 a12 k13 x14)) → (Q (Value.tuple #[Value.slice a12 (0 + n3.toNat + (ll - (IntKind.i64.wrap (n3 + 1)).toNat)) k13, Value.bool true]) x14))))) ∧ (appendC Try.prog 63 a7 (0 + n3.toNat) k8 x9 xs10 (ll - (IntKind.i64.wrap (n3 + 1)).toNat) J11))))))))))) ∧ (appendC Try.prog 63 none 0 0 h2 xs5 n3.toNat J6)))))))))))))
theorem ref08_Drop.calls (la : Option Addr) (ll lc : Nat) (key : ByteArray) {h : Hp} {Q : Value → Hp → Prop} (hW : ref08_Drop.W la ll lc key h Q) : CallsH Try.prog 83 #[.slice la ll lc, .string key] h Q := by
  have e : bodyW Try.prog ref08_Drop.H Try.f83 [.val (.slice la ll lc), .val (.string key)] h Q = ref08_Drop.W la ll lc key h Q := by kernel_rfl
  rw [← e] at hW
  exact calls_of_body (H := ref08_Drop.H) (args := [.val (.slice la ll lc), .val (.string key)]) Try.func83 Try.ntmps83 rfl rfl hW

/-! ### 84 ref08_Range -/
def ref08_Range.H : Hints := { N := 47, loc := (fun _ => false), join := (fun _ => none), loop := (fun i => bif Nat.beq i 3 then some [.slot 9 (.slice), .slot 10 (.int .i64)] else none), ifc := 27, order := (fun _ => none) }
def ref08_Range.W (la : Option Addr) (ll lc : Nat) (p1 : ByteArray) (to : ByteArray) (most : Int) (h : Hp) (Q : Value → Hp → Prop) : Prop :=
  (∃ (J1 : Option Addr → Nat → Nat → Int → Hp → Nat → Prop), ((∃ (k2 : Nat), (J1 none 0 0 0 h k2)) ∧ (∀ (a3 : Option Addr), (∀ (k4 : Nat), (∀ (k5 : Nat), (∀ (n6 : Int), (∀ (x7 : Hp), (∀ (k8 : Nat), (((J1 a3 k4 k5 n6 x7 k8)) → (bif hb (decide (n6 < Int.ofNat ll)) then ((0 ≤ n6) ∧ ((n6 < Int.ofNat ll) ∧ (∃ (k9 : Nat), (∃ (k10 : Nat), ((la = some { block := k9, off := k10 }) ∧ (∃ (s11 : ByteArray), ((x7.cell k9 (k10 + n6.toNat * 2) = some (Value.string s11)) ∧ (bif !bltS s11 p1 then ((0 ≤ n6) ∧ ((n6 < Int.ofNat ll) ∧ (∃ (k12 : Nat), (∃ (k13 : Nat), ((la = some { block := k12, off := k13 }) ∧ (∃ (s14 : ByteArray), ((x7.cell k12 (k13 + n6.toNat * 2) = some (Value.string s14)) ∧ (bif bltS s14 to || beqS s14 to then (bif hb (decide (Int.ofNat k4 < most)) then ((0 ≤ n6) ∧ ((n6 < Int.ofNat ll) ∧ (∃ (k15 : Nat), (∃ (k16 : Nat), ((la = some { block := k15, off := k16 }) ∧ (∃ (s17 : ByteArray), ((x7.cell k15 (k16 + n6.toNat * 2) = some (Value.string s17)) ∧ (∃ (s18 : ByteArray), ((x7.cell k15 (k16 + n6.toNat * 2 + 1) = some (Value.string s18)) ∧ (∀ (k19 : Nat), (((x7 k19 = none)) → (∃ (xs20 : List Value), ((SliceAt (x7.upd k19 (Obj.cells #[Value.string s17, Value.string s18] 63 (0, 0))) (some { block := k19, off := 0 }) (2) (xs20)) ∧ (∃ (J21 : Option Addr → Nat → Hp → Prop), ((∀ (a22 : Option Addr), (∀ (k23 : Nat), (∀ (x24 : Hp), (((J21 a22 k23 x24)) → (∃ (k25 : Nat), ((k25 < k8) ∧ (J1 a22 (k4 + 1) k23 (IntKind.i64.wrap (n6 + 1)) x24 k25))))))) ∧ (appendC Try.prog 63 a3 k4 k5 (x7.upd k19 (Obj.cells #[Value.string s17, Value.string s18] 63 (0, 0))) xs20 1 J21)))))))))))))))) else (∃ (k26 : Nat), ((k26 < k8) ∧ (J1 a3 k4 k5 (IntKind.i64.wrap (n6 + 1)) x7 k26)))) else (∃ (k27 : Nat), ((k27 < k8) ∧ (J1 a3 k4 k5 (IntKind.i64.wrap (n6 + 1)) x7 k27))))))))))) else (∃ (k28 : Nat), ((k28 < k8) ∧ (J1 a3 k4 k5 (IntKind.i64.wrap (n6 + 1)) x7 k28))))))))))) else (Q (Value.slice a3 k4 k5) x7)))))))))))
theorem ref08_Range.calls (la : Option Addr) (ll lc : Nat) (p1 : ByteArray) (to : ByteArray) (most : Int) {h : Hp} {Q : Value → Hp → Prop} (hW : ref08_Range.W la ll lc p1 to most h Q) : CallsH Try.prog 84 #[.slice la ll lc, .string p1, .string to, .int .i64 most] h Q := by
  have e : bodyW Try.prog ref08_Range.H Try.f84 [.val (.slice la ll lc), .val (.string p1), .val (.string to), .val (.int .i64 most)] h Q = ref08_Range.W la ll lc p1 to most h Q := by kernel_rfl
  rw [← e] at hW
  exact calls_of_body (H := ref08_Range.H) (args := [.val (.slice la ll lc), .val (.string p1), .val (.string to), .val (.int .i64 most)]) Try.func84 Try.ntmps84 rfl rfl hW

/-! ### 25 law09_table_Put -/
def law09_table_Put.H : Hints := { N := 49, loc := (fun _ => false), join := (fun i => bif Nat.beq i 4 then some [] else none), loop := (fun _ => none), ifc := 27, order := (fun i => bif Nat.beq i 2 then some (none, false, [0, 1, 2, 3, 4, 5, 6, 7, 8, 9, 10, 11, 12, 13, 14, 15, 16, 17, 18, 19, 20], .q 0 (.q 1 (.q 2 (.q 3 (.q 4 (.q 5 (.q 6 (.q 7 (.q 8 (.q 9 (.q 10 (.q 11 (.q 12 (.q 13 (.q 14 (.q 15 (.q 16 (.q 17 (.q 18 (.q 19 (.q 20 .done))))))))))))))))))))) else none) }
def law09_table_Put.W (t_b t_o : Nat) (key : ByteArray) (value : ByteArray) (h : Hp) (Q : Value → Hp → Prop) : Prop :=
  (∃ (a1 : Option Addr), (∃ (k2 : Nat), (∃ (k3 : Nat), ((h.cell t_b t_o = some (Value.slice a1 k2 k3)) ∧ (CallsH Try.prog 37 (#[Value.slice a1 k2 k3, Value.string key]) (h) (fun (v4 : Value) (h5 : Hp) => (∃ (s6 : ByteArray), (∃ (b7 : Bool), ((v4 = Value.tuple #[Value.string s6, Value.bool b7]) ∧ (∃ (J8 : Hp → Prop), ((∀ (x9 : Hp), (((J8 x9)) → (∃ (a10 : Option Addr), (∃ (k11 : Nat), (∃ (k12 : Nat), ((x9.cell t_b t_o = some (Value.slice a10 k11 k12)) ∧ (CallsH Try.prog 38 (#[Value.slice a10 k11 k12, Value.string key, Value.string value]) (x9) (fun (v13 : Value) (h14 : Hp) => (∃ (a15 : Option Addr), (∃ (k16 : Nat), (∃ (k17 : Nat), ((v13 = Value.slice a15 k16 k17) ∧ ((StoreOk h14 t_b t_o 1) ∧ (Q (Value.int IntKind.i64 0) (h14.put t_b t_o [Value.slice a15 k16 k17]))))))))))))))) ∧ (bif !b7 then (∃ (n18 : Int), ((h5.cell t_b (t_o + 1) = some (Value.int IntKind.i64 n18)) ∧ (bif hb (decide (n18 ≥ 0)) then (∃ (a19 : Option Addr), (∃ (k20 : Nat), (∃ (k21 : Nat), ((h5.cell t_b t_o = some (Value.slice a19 k20 k21)) ∧ (∃ (n22 : Int), ((h5.cell t_b (t_o + 1) = some (Value.int IntKind.i64 n22)) ∧ (bif hb (decide (Int.ofNat k20 ≥ n22)) then (Q (Value.int IntKind.i64 5) h5) else (J8 h5)))))))) else (J8 h5)))) else (J8 h5)))))))))))))
theorem law09_table_Put.calls (t_b t_o : Nat) (key : ByteArray) (value : ByteArray) {h : Hp} {Q : Value → Hp → Prop} (hW : law09_table_Put.W t_b t_o key value h Q) : CallsH Try.prog 25 #[.pointer (some ⟨t_b, t_o, none⟩), .string key, .string value] h Q := by
  have e : bodyW Try.prog law09_table_Put.H Try.f25 [.ptr t_b t_o, .val (.string key), .val (.string value)] h Q = law09_table_Put.W t_b t_o key value h Q := by kernel_rfl
  rw [← e] at hW
  exact calls_of_body (H := law09_table_Put.H) (args := [.ptr t_b t_o, .val (.string key), .val (.string value)]) Try.func25 Try.ntmps25 rfl rfl hW

/-! ### 26 law09_table_Get -/
def law09_table_Get.H : Hints := { N := 14, loc := (fun _ => false), join := (fun _ => none), loop := (fun _ => none), ifc := 27, order := (fun _ => none) }
def law09_table_Get.W (t_b t_o : Nat) (key : ByteArray) (h : Hp) (Q : Value → Hp → Prop) : Prop :=
  (∃ (a1 : Option Addr), (∃ (k2 : Nat), (∃ (k3 : Nat), ((h.cell t_b t_o = some (Value.slice a1 k2 k3)) ∧ (CallsH Try.prog 37 (#[Value.slice a1 k2 k3, Value.string key]) (h) (fun (v4 : Value) (h5 : Hp) => (∃ (s6 : ByteArray), (∃ (b7 : Bool), ((v4 = Value.tuple #[Value.string s6, Value.bool b7]) ∧ (Q (Value.tuple #[Value.string s6, Value.bool b7]) h5))))))))))
theorem law09_table_Get.calls (t_b t_o : Nat) (key : ByteArray) {h : Hp} {Q : Value → Hp → Prop} (hW : law09_table_Get.W t_b t_o key h Q) : CallsH Try.prog 26 #[.pointer (some ⟨t_b, t_o, none⟩), .string key] h Q := by
  have e : bodyW Try.prog law09_table_Get.H Try.f26 [.ptr t_b t_o, .val (.string key)] h Q = law09_table_Get.W t_b t_o key h Q := by kernel_rfl
  rw [← e] at hW
  exact calls_of_body (H := law09_table_Get.H) (args := [.ptr t_b t_o, .val (.string key)]) Try.func26 Try.ntmps26 rfl rfl hW

/-! ### 81 law09_table_Drop -/
def law09_table_Drop.H : Hints := { N := 21, loc := (fun _ => false), join := (fun _ => none), loop := (fun _ => none), ifc := 27, order := (fun _ => none) }
def law09_table_Drop.W (t_b t_o : Nat) (key : ByteArray) (h : Hp) (Q : Value → Hp → Prop) : Prop :=
  (∃ (a1 : Option Addr), (∃ (k2 : Nat), (∃ (k3 : Nat), ((h.cell t_b t_o = some (Value.slice a1 k2 k3)) ∧ (CallsH Try.prog 83 (#[Value.slice a1 k2 k3, Value.string key]) (h) (fun (v4 : Value) (h5 : Hp) => (∃ (a6 : Option Addr), (∃ (k7 : Nat), (∃ (k8 : Nat), (∃ (b9 : Bool), ((v4 = Value.tuple #[Value.slice a6 k7 k8, Value.bool b9]) ∧ ((StoreOk h5 t_b t_o 1) ∧ (Q (Value.bool b9) (h5.put t_b t_o [Value.slice a6 k7 k8]))))))))))))))
theorem law09_table_Drop.calls (t_b t_o : Nat) (key : ByteArray) {h : Hp} {Q : Value → Hp → Prop} (hW : law09_table_Drop.W t_b t_o key h Q) : CallsH Try.prog 81 #[.pointer (some ⟨t_b, t_o, none⟩), .string key] h Q := by
  have e : bodyW Try.prog law09_table_Drop.H Try.f81 [.ptr t_b t_o, .val (.string key)] h Q = law09_table_Drop.W t_b t_o key h Q := by kernel_rfl
  rw [← e] at hW
  exact calls_of_body (H := law09_table_Drop.H) (args := [.ptr t_b t_o, .val (.string key)]) Try.func81 Try.ntmps81 rfl rfl hW

/-! ### 82 law09_table_Range -/
def law09_table_Range.H : Hints := { N := 17, loc := (fun _ => false), join := (fun _ => none), loop := (fun _ => none), ifc := 27, order := (fun _ => none) }
def law09_table_Range.W (t_b t_o : Nat) (p1 : ByteArray) (to : ByteArray) (most : Int) (h : Hp) (Q : Value → Hp → Prop) : Prop :=
  (∃ (a1 : Option Addr), (∃ (k2 : Nat), (∃ (k3 : Nat), ((h.cell t_b t_o = some (Value.slice a1 k2 k3)) ∧ (CallsH Try.prog 84 (#[Value.slice a1 k2 k3, Value.string p1, Value.string to, Value.int IntKind.i64 most]) (h) (fun (v4 : Value) (h5 : Hp) => (∃ (a6 : Option Addr), (∃ (k7 : Nat), (∃ (k8 : Nat), ((v4 = Value.slice a6 k7 k8) ∧ (Q (Value.slice a6 k7 k8) h5)))))))))))
theorem law09_table_Range.calls (t_b t_o : Nat) (p1 : ByteArray) (to : ByteArray) (most : Int) {h : Hp} {Q : Value → Hp → Prop} (hW : law09_table_Range.W t_b t_o p1 to most h Q) : CallsH Try.prog 82 #[.pointer (some ⟨t_b, t_o, none⟩), .string p1, .string to, .int .i64 most] h Q := by
  have e : bodyW Try.prog law09_table_Range.H Try.f82 [.ptr t_b t_o, .val (.string p1), .val (.string to), .val (.int .i64 most)] h Q = law09_table_Range.W t_b t_o p1 to most h Q := by kernel_rfl
  rw [← e] at hW
  exact calls_of_body (H := law09_table_Range.H) (args := [.ptr t_b t_o, .val (.string p1), .val (.string to), .val (.int .i64 most)]) Try.func82 Try.ntmps82 rfl rfl hW

end Go.Proofs.Ytpokejaglmkphaa
