/- The formulas of functions of the program, as the executor computes them, and that a call does what its formula says. Printed by a tool of ours (wip/tool). -/
import Derived.Test.YtpokejaglmkphaaFC
import Derived.Test.YtpokejaglmkphaaProg
import Derived.KernelRfl
namespace Go.Proofs.Ytpokejaglmkphaa
open Go.Gx
set_option maxRecDepth 100000
set_option linter.unusedVariables false

/-! ### 9 cas_New_i -/
def cas_New_i.H : Hints := { N := 20, loc := (fun _ => false), join := (fun _ => none), loop := (fun _ => none), ifc := 27, order := (fun _ => none) }
def cas_New_i.W (tp : Option Addr) (width : Int) (h : Hp) (Q : Value → Hp → Prop) : Prop :=
  (bif hb (decide (width < 1)) then (Q (Value.tuple #[Value.pointer none, Value.int IntKind.i64 1]) h) else (bif hb (decide (width > 32)) then (Q (Value.tuple #[Value.pointer none, Value.int IntKind.i64 1]) h) else (∀ (k1 : Nat), (((h k1 = none)) → (Q (Value.tuple #[Value.pointer (some { block := k1, off := 0 }), Value.int IntKind.i64 0]) (h.upd k1 (Obj.cells #[Value.iface 27 (Value.pointer tp), Value.int IntKind.i64 width] 71 (0, 0))))))))
theorem cas_New_i.calls (tp : Option Addr) (width : Int) {h : Hp} {Q : Value → Hp → Prop} (hW : cas_New_i.W tp width h Q) : CallsH Try.prog 9 #[.iface 27 (.pointer tp), .int .i64 width] h Q := by
  have e : bodyW Try.prog cas_New_i.H Try.f9 [.val (.iface 27 (.pointer tp)), .val (.int .i64 width)] h Q = cas_New_i.W tp width h Q := by kernel_rfl
  rw [← e] at hW
  exact calls_of_body (H := cas_New_i.H) (args := [.val (.iface 27 (.pointer tp)), .val (.int .i64 width)]) Try.func9 Try.ntmps9 rfl rfl hW

/-! ### 9 cas_New_z -/
def cas_New_z.H : Hints := { N := 20, loc := (fun _ => false), join := (fun _ => none), loop := (fun _ => none), ifc := 27, order := (fun _ => none) }
def cas_New_z.W (width : Int) (h : Hp) (Q : Value → Hp → Prop) : Prop :=
  (Q (Value.tuple #[Value.pointer none, Value.int IntKind.i64 1]) h)
theorem cas_New_z.calls (width : Int) {h : Hp} {Q : Value → Hp → Prop} (hW : cas_New_z.W width h Q) : CallsH Try.prog 9 #[.nilIface, .int .i64 width] h Q := by
  have e : bodyW Try.prog cas_New_z.H Try.f9 [.val .nilIface, .val (.int .i64 width)] h Q = cas_New_z.W width h Q := by kernel_rfl
  rw [← e] at hW
  exact calls_of_body (H := cas_New_z.H) (args := [.val .nilIface, .val (.int .i64 width)]) Try.func9 Try.ntmps9 rfl rfl hW

/-! ### 11 cas_Store_Put -/
def cas_Store_Put.H : Hints := { N := 83, loc := (fun i => Nat.beq i 9 || Nat.beq i 6 || Nat.beq i 4 || false), join := (fun _ => none), loop := (fun i => bif Nat.beq i 8 then some [.slot 7 (.int .i64), .slot 30 (.int .i64), .blk 4 [.str, .int .i64]] else none), ifc := 27, order := (fun i => bif Nat.beq i 22 then some (some 10, false, [0, 1, 2, 3, 4, 6, 8, 9, 5, 7, 10, 11], .q 0 (.q 1 (.q 2 (.q 3 (.q 4 (.q 6 (.q 8 (.q 9 (.f 5 (.f 7 (.f 10 (.q 11 .done) .e) .e) .e))))))))) else none) }
def cas_Store_Put.W (s_b s_o : Nat) (data : ByteArray) (h : Hp) (Q : Value → Hp → Prop) : Prop :=
  (bif hb (decide (Int.ofNat data.size > 128)) then (Q (Value.tuple #[Value.agg #[Value.string (bytesL []), Value.int IntKind.i64 0], Value.int IntKind.i64 2]) h) else (CallsH Try.prog 16 (#[Value.pointer (some { block := s_b, off := s_o }), Value.string data]) (h) (fun (v1 : Value) (h2 : Hp) => (∃ (s3 : ByteArray), ((v1 = Value.string s3) ∧ (CallsH Try.prog 15 (#[Value.pointer (some { block := s_b, off := s_o }), Value.string s3]) (h2) (fun (v4 : Value) (h5 : Hp) => (∃ (a6 : Option Addr), (∃ (k7 : Nat), (∃ (k8 : Nat), ((v4 = Value.slice a6 k7 k8) ∧ (∃ (J9 : Int → Int → ByteArray → Int → Hp → Nat → Prop), ((∃ (k10 : Nat), (J9 0 0 (bytesL []) 0 h5 k10)) ∧ (∀ (n11 : Int), (∀ (n12 : Int), (∀ (s13 : ByteArray), (∀ (n14 : Int), (∀ (x15 : Hp), (∀ (k16 : Nat), (((J9 n11 n12 s13 n14 x15 k16)) → (bif hb (decide (n12 < Int.ofNat k7)) then ((0 ≤ n12) ∧ ((n12 < Int.ofNat k7) ∧ (∃ (k17 : Nat), (∃ (k18 : Nat), ((a6 = some { block := k17, off := k18 }) ∧ (∃ (s19 : ByteArray), ((x15.cell k17 (k18 + n12.toNat * 2) = some (Value.string s19)) ∧ (∃ (n20 : Int), ((x15.cell k17 (k18 + n12.toNat * 2 + 1) = some (Value.int IntKind.i64 n20)) ∧ (CallsH Try.prog 27 (#[Value.pointer (some { block := s_b, off := s_o }), Value.agg #[Value.string s19, Value.int IntKind.i64 n20]]) (x15) (fun (v21 : Value) (h22 : Hp) => (∃ (n23 : Int), (∃ (s24 : ByteArray), ((v21 = Value.tuple #[Value.int IntKind.i64 n23, Value.string s24]) ∧ (bif hb (decide (n23 > 0)) then (bif beqS s24 data then (CallsH Try.prog 21 (#[Value.pointer (some { block := s_b, off := s_o }), Value.agg #[Value.string s19, Value.int IntKind.i64 n20]]) (h22) (fun (v25 : Value) (h26 : Hp) => (∃ (n27 : Int), ((v25 = Value.int IntKind.i64 n27) ∧ (bif hb (n27 != 0) then (Q (Value.tuple #[Value.agg #[Value.string (bytesL []), Value.int IntKind.i64 0], Value.int IntKind.i64 n27]) h26) else (Q (Value.tuple #[Value.agg #[Value.string s19, Value.int IntKind.i64 n20], Value.int IntKind.i64 0]) h26)))))) else (bif hb (n20 == n11) then (∃ (k28 : Nat), ((k28 < k16) ∧ (J9 (IntKind.i64.wrap (n11 + 1)) (IntKind.i64.wrap (n12 + 1)) s13 n14 h22 k28))) else (∃ (k29 : Nat), ((k29 < k16) ∧ (J9 n11 (IntKind.i64.wrap (n12 + 1)) s13 n14 h22 k29))))) else (bif hb (n20 == n11) then (∃ (k30 : Nat), ((k30 < k16) ∧ (J9 (IntKind.i64.wrap (n11 + 1)) (IntKind.i64.wrap (n12 + 1)) s13 n14 h22 k30))) else (∃ (k31 : Nat), ((k31 < k16) ∧ (J9 n11 (IntKind.i64.wrap (n12 + 1)) s13 n14 h22 k31))))))))))))))))))) else (bif hb (decide (n11 > 255)) then (Q (Value.tuple #[Value.agg #[Value.string (bytesL []), Value.int IntKind.i64 0], Value.int IntKind.i64 5]) x15) else (∃ (a32 : Option Addr), ((x15.cell s_b s_o = some (Value.iface 27 (Value.pointer a32))) ∧ (CallsH Try.prog 28 (#[Value.agg #[Value.string s3, Value.int IntKind.i64 n11]]) (x15) (fun (v33 : Value) (h34 : Hp) => (∃ (s35 : ByteArray), ((v33 = Value.string s35) ∧ ((Gx.Sub x15 h34) ∧ (CallsH Try.prog 29 (#[Value.int IntKind.i64 1, Value.string data]) (h34) (fun (v36 : Value) (h37 : Hp) => (∃ (s38 : ByteArray), ((v36 = Value.string s38) ∧ ((Gx.Sub x15 h37) ∧ (∃ (a39 : Option Addr), ((Value.iface 27 (Value.pointer a32) = Value.iface 27 (Value.pointer a39)) ∧ (CallsH Try.prog 25 (#[Value.pointer a39, Value.string s35, Value.string s38]) (h37) (fun (v40 : Value) (h41 : Hp) => (∃ (n42 : Int), ((v40 = Value.int IntKind.i64 n42) ∧ (bif hb (n42 != 0) then (Q (Value.tuple #[Value.agg #[Value.string (bytesL []), Value.int IntKind.i64 0], Value.int IntKind.i64 n42]) h41) else (Q (Value.tuple #[Value.agg #[Value.string s3, Value.int IntKind.i64 n11], Value.int IntKind.i64 0]) h41))))))))))))))))))))))))))))))))))))))))))
theorem cas_Store_Put.calls (s_b s_o : Nat) (data : ByteArray) {h : Hp} {Q : Value → Hp → Prop} (hW : cas_Store_Put.W s_b s_o data h Q) : CallsH Try.prog 11 #[.pointer (some ⟨s_b, s_o, none⟩), .string data] h Q := by
  have e : bodyW Try.prog cas_Store_Put.H Try.f11 [.ptr s_b s_o, .val (.string data)] h Q = cas_Store_Put.W s_b s_o data h Q := by kernel_rfl
  rw [← e] at hW
  exact calls_of_body (H := cas_Store_Put.H) (args := [.ptr s_b s_o, .val (.string data)]) Try.func11 Try.ntmps11 rfl rfl hW

/-! ### 12 cas_Store_Get -/
def cas_Store_Get.H : Hints := { N := 17, loc := (fun i => Nat.beq i 3 || false), join := (fun _ => none), loop := (fun _ => none), ifc := 27, order := (fun _ => none) }
def cas_Store_Get.W (s_b s_o : Nat) (id_0 : ByteArray) (id_1 : Int) (h : Hp) (Q : Value → Hp → Prop) : Prop :=
  (CallsH Try.prog 27 (#[Value.pointer (some { block := s_b, off := s_o }), Value.agg #[Value.string id_0, Value.int IntKind.i64 id_1]]) (h) (fun (v1 : Value) (h2 : Hp) => (∃ (n3 : Int), (∃ (s4 : ByteArray), ((v1 = Value.tuple #[Value.int IntKind.i64 n3, Value.string s4]) ∧ (Q (Value.tuple #[Value.string s4, Value.bool (hb (decide (n3 > 0)))]) h2))))))
theorem cas_Store_Get.calls (s_b s_o : Nat) (id_0 : ByteArray) (id_1 : Int) {h : Hp} {Q : Value → Hp → Prop} (hW : cas_Store_Get.W s_b s_o id_0 id_1 h Q) : CallsH Try.prog 12 #[.pointer (some ⟨s_b, s_o, none⟩), .agg #[.string id_0, .int .i64 id_1]] h Q := by
  have e : bodyW Try.prog cas_Store_Get.H Try.f12 [.ptr s_b s_o, .val (.agg #[.string id_0, .int .i64 id_1])] h Q = cas_Store_Get.W s_b s_o id_0 id_1 h Q := by kernel_rfl
  rw [← e] at hW
  exact calls_of_body (H := cas_Store_Get.H) (args := [.ptr s_b s_o, .val (.agg #[.string id_0, .int .i64 id_1])]) Try.func12 Try.ntmps12 rfl rfl hW

/-! ### 13 cas_Store_Refs -/
def cas_Store_Refs.H : Hints := { N := 14, loc := (fun i => Nat.beq i 3 || false), join := (fun _ => none), loop := (fun _ => none), ifc := 27, order := (fun _ => none) }
def cas_Store_Refs.W (s_b s_o : Nat) (id_0 : ByteArray) (id_1 : Int) (h : Hp) (Q : Value → Hp → Prop) : Prop :=
  (CallsH Try.prog 27 (#[Value.pointer (some { block := s_b, off := s_o }), Value.agg #[Value.string id_0, Value.int IntKind.i64 id_1]]) (h) (fun (v1 : Value) (h2 : Hp) => (∃ (n3 : Int), (∃ (s4 : ByteArray), ((v1 = Value.tuple #[Value.int IntKind.i64 n3, Value.string s4]) ∧ (Q (Value.int IntKind.i64 n3) h2))))))
theorem cas_Store_Refs.calls (s_b s_o : Nat) (id_0 : ByteArray) (id_1 : Int) {h : Hp} {Q : Value → Hp → Prop} (hW : cas_Store_Refs.W s_b s_o id_0 id_1 h Q) : CallsH Try.prog 13 #[.pointer (some ⟨s_b, s_o, none⟩), .agg #[.string id_0, .int .i64 id_1]] h Q := by
  have e : bodyW Try.prog cas_Store_Refs.H Try.f13 [.ptr s_b s_o, .val (.agg #[.string id_0, .int .i64 id_1])] h Q = cas_Store_Refs.W s_b s_o id_0 id_1 h Q := by kernel_rfl
  rw [← e] at hW
  exact calls_of_body (H := cas_Store_Refs.H) (args := [.ptr s_b s_o, .val (.agg #[.string id_0, .int .i64 id_1])]) Try.func13 Try.ntmps13 rfl rfl hW

/-! ### 14 cas_Store_Count -/
def cas_Store_Count.H : Hints := { N := 32, loc := (fun i => Nat.beq i 5 || false), join := (fun _ => none), loop := (fun i => bif Nat.beq i 4 then some [.slot 2 (.int .i64), .slot 3 (.int .i64), .slot 14 (.int .i64)] else none), ifc := 27, order := (fun _ => none) }
def cas_Store_Count.W (s_b s_o : Nat) (h : Hp) (Q : Value → Hp → Prop) : Prop :=
  (∃ (a1 : Option Addr), ((h.cell s_b s_o = some (Value.iface 27 (Value.pointer a1))) ∧ (∃ (a2 : Option Addr), ((Value.iface 27 (Value.pointer a1) = Value.iface 27 (Value.pointer a2)) ∧ (CallsH Try.prog 82 (#[Value.pointer a2, Value.string (bytesL [99]), Value.string (bytesL [100]), Value.int IntKind.i64 1073741824]) (h) (fun (v3 : Value) (h4 : Hp) => (∃ (a5 : Option Addr), (∃ (k6 : Nat), (∃ (k7 : Nat), ((v3 = Value.slice a5 k6 k7) ∧ (∃ (J8 : Int → Int → Int → Hp → Nat → Prop), ((∃ (k9 : Nat), (J8 0 0 0 h4 k9)) ∧ (∀ (n10 : Int), (∀ (n11 : Int), (∀ (n12 : Int), (∀ (x13 : Hp), (∀ (k14 : Nat), (((J8 n10 n11 n12 x13 k14)) → (bif hb (decide (n12 < Int.ofNat k6)) then ((0 ≤ n12) ∧ ((n12 < Int.ofNat k6) ∧ (∃ (k15 : Nat), (∃ (k16 : Nat), ((a5 = some { block := k15, off := k16 }) ∧ (∃ (s17 : ByteArray), ((x13.cell k15 (k16 + n12.toNat * 2) = some (Value.string s17)) ∧ (∃ (s18 : ByteArray), ((x13.cell k15 (k16 + n12.toNat * 2 + 1) = some (Value.string s18)) ∧ (bif !beqS s17 (bytesL [100]) then (∃ (k19 : Nat), ((k19 < k14) ∧ (J8 (IntKind.i64.wrap (n10 + 1)) (IntKind.i64.wrap (n11 + IntKind.i64.wrap (Int.ofNat s18.size - 4))) (IntKind.i64.wrap (n12 + 1)) x13 k19))) else (∃ (k20 : Nat), ((k20 < k14) ∧ (J8 n10 n11 (IntKind.i64.wrap (n12 + 1)) x13 k20))))))))))))) else (Q (Value.tuple #[Value.int IntKind.i64 n10, Value.int IntKind.i64 n11]) x13))))))))))))))))))))
theorem cas_Store_Count.calls (s_b s_o : Nat) {h : Hp} {Q : Value → Hp → Prop} (hW : cas_Store_Count.W s_b s_o h Q) : CallsH Try.prog 14 #[.pointer (some ⟨s_b, s_o, none⟩)] h Q := by
  have e : bodyW Try.prog cas_Store_Count.H Try.f14 [.ptr s_b s_o] h Q = cas_Store_Count.W s_b s_o h Q := by kernel_rfl
  rw [← e] at hW
  exact calls_of_body (H := cas_Store_Count.H) (args := [.ptr s_b s_o]) Try.func14 Try.ntmps14 rfl rfl hW

/-! ### 15 cas_Store_Find -/
def cas_Store_Find.H : Hints := { N := 53, loc := (fun i => Nat.beq i 7 || false), join := (fun _ => none), loop := (fun i => bif Nat.beq i 5 then some [.slot 5 (.slice), .slot 34 (.int .i64)] else none), ifc := 27, order := (fun i => bif Nat.beq i 4 then some (some 12, false, [0, 1, 2, 3, 4, 5, 7, 8, 10, 11, 14, 6, 9, 12, 13], .q 0 (.q 1 (.q 2 (.q 3 (.q 4 (.q 5 (.q 7 (.q 8 (.q 10 (.q 11 (.q 14 (.f 6 (.f 9 (.f 12 (.q 13 .done) .e) .e) .e)))))))))))) else none) }
def cas_Store_Find.W (s_b s_o : Nat) (sum : ByteArray) (h : Hp) (Q : Value → Hp → Prop) : Prop :=
  (∃ (n1 : Int), ((h.cell s_b (s_o + 1) = some (Value.int IntKind.i64 n1)) ∧ (bif hb (Int.ofNat sum.size != n1) then (Q (Value.slice none 0 0) h) else (∃ (a2 : Option Addr), ((h.cell s_b s_o = some (Value.iface 27 (Value.pointer a2))) ∧ (CallsH Try.prog 28 (#[Value.agg #[Value.string sum, Value.int IntKind.i64 0]]) (h) (fun (v3 : Value) (h4 : Hp) => (∃ (s5 : ByteArray), ((v3 = Value.string s5) ∧ ((Gx.Sub h h4) ∧ (CallsH Try.prog 28 (#[Value.agg #[Value.string sum, Value.int IntKind.i64 255]]) (h4) (fun (v6 : Value) (h7 : Hp) => (∃ (s8 : ByteArray), ((v6 = Value.string s8) ∧ ((Gx.Sub h h7) ∧ (∃ (a9 : Option Addr), ((Value.iface 27 (Value.pointer a2) = Value.iface 27 (Value.pointer a9)) ∧ (CallsH Try.prog 82 (#[Value.pointer a9, Value.string s5, Value.string s8, Value.int IntKind.i64 256]) (h7) (fun (v10 : Value) (h11 : Hp) => (∃ (a12 : Option Addr), (∃ (k13 : Nat), (∃ (k14 : Nat), ((v10 = Value.slice a12 k13 k14) ∧ (∃ (J15 : Option Addr → Nat → Nat → Int → Hp → Nat → Prop), ((∃ (k16 : Nat), (J15 none 0 0 0 h11 k16)) ∧ (∀ (a17 : Option Addr), (∀ (k18 : Nat), (∀ (k19 : Nat), (∀ (n20 : Int), (∀ (x21 : Hp), (∀ (k22 : Nat), (((J15 a17 k18 k19 n20 x21 k22)) → (bif hb (decide (n20 < Int.ofNat k13)) then ((0 ≤ n20) ∧ ((n20 < Int.ofNat k13) ∧ (∃ (k23 : Nat), (∃ (k24 : Nat), ((a12 = some { block := k23, off := k24 }) ∧ (∃ (s25 : ByteArray), ((x21.cell k23 (k24 + n20.toNat * 2) = some (Value.string s25)) ∧ (∃ (s26 : ByteArray), ((x21.cell k23 (k24 + n20.toNat * 2 + 1) = some (Value.string s26)) ∧ ((0 ≤ IntKind.i64.wrap (Int.ofNat s25.size - 1)) ∧ ((IntKind.i64.wrap (Int.ofNat s25.size - 1) < Int.ofNat s25.size) ∧ (∀ (k27 : Nat), (((x21 k27 = none)) → (∃ (xs28 : List Value), ((SliceAt (x21.upd k27 (Obj.cells #[Value.string sum, Value.int IntKind.i64 (IntKind.i64.wrap (byteAt s25 (IntKind.i64.wrap (Int.ofNat s25.size - 1)).toNat))] 34 (0, 0))) (some { block := k27, off := 0 }) (2) (xs28)) ∧ (∃ (J29 : Option Addr → Nat → Hp → Prop), ((∀ (a30 : Option Addr), (∀ (k31 : Nat), (∀ (x32 : Hp), (((J29 a30 k31 x32)) → (∃ (k33 : Nat), ((k33 < k22) ∧ (J15 a30 (k18 + 1) k31 (IntKind.i64.wrap (n20 + 1)) x32 k33))))))) ∧ (appendC Try.prog 34 a17 k18 k19 (x21.upd k27 (Obj.cells #[Value.string sum, Value.int IntKind.i64 (IntKind.i64.wrap (byteAt s25 (IntKind.i64.wrap (Int.ofNat s25.size - 1)).toNat))] 34 (0, 0))) xs28 1 J29)))))))))))))))))) else (Q (Value.slice a17 k18 k19) x21))))))))))))))))))))))))))))))))))
theorem cas_Store_Find.calls (s_b s_o : Nat) (sum : ByteArray) {h : Hp} {Q : Value → Hp → Prop} (hW : cas_Store_Find.W s_b s_o sum h Q) : CallsH Try.prog 15 #[.pointer (some ⟨s_b, s_o, none⟩), .string sum] h Q := by
  have e : bodyW Try.prog cas_Store_Find.H Try.f15 [.ptr s_b s_o, .val (.string sum)] h Q = cas_Store_Find.W s_b s_o sum h Q := by kernel_rfl
  rw [← e] at hW
  exact calls_of_body (H := cas_Store_Find.H) (args := [.ptr s_b s_o, .val (.string sum)]) Try.func15 Try.ntmps15 rfl rfl hW

/-! ### 16 cas_Store_Digest -/
def cas_Store_Digest.H : Hints := { N := 15, loc := (fun _ => false), join := (fun _ => none), loop := (fun _ => none), ifc := 27, order := (fun i => bif Nat.beq i 3 then some (none, false, [0, 3, 4, 5, 6, 1, 2, 7, 8], .q 0 (.q 3 (.q 4 (.q 5 (.q 6 (.f 1 (.f 2 (.q 7 (.q 8 .done)) .e) .e)))))) else none) }
def cas_Store_Digest.W (s_b s_o : Nat) (data : ByteArray) (h : Hp) (Q : Value → Hp → Prop) : Prop :=
  (∃ (n1 : Int), ((h.cell s_b (s_o + 1) = some (Value.int IntKind.i64 n1)) ∧ (∀ (k2 : Nat), (((data.size ≤ k2)) → (∀ (k3 : Nat), (((h k3 = none)) → ((Gx.Sub h (h.upd k3 (Obj.cells (grown (bytesV data) [] [Value.int IntKind.u8 0] (k2 - data.size)) 5 (k2, k2 + 1)))) ∧ (CallsH Try.prog 30 (#[Value.slice (some { block := k3, off := 0 }) data.size k2]) (h.upd k3 (Obj.cells (grown (bytesV data) [] [Value.int IntKind.u8 0] (k2 - data.size)) 5 (k2, k2 + 1))) (fun (v4 : Value) (h5 : Hp) => (∃ (s6 : ByteArray), ((v4 = Value.string s6) ∧ ((Gx.Sub h h5) ∧ ((0 ≤ n1) ∧ ((n1 ≤ Int.ofNat s6.size) ∧ (Q (Value.string (s6.extract 0 n1.toNat)) h5)))))))))))))))
theorem cas_Store_Digest.calls (s_b s_o : Nat) (data : ByteArray) {h : Hp} {Q : Value → Hp → Prop} (hW : cas_Store_Digest.W s_b s_o data h Q) : CallsH Try.prog 16 #[.pointer (some ⟨s_b, s_o, none⟩), .string data] h Q := by
  have e : bodyW Try.prog cas_Store_Digest.H Try.f16 [.ptr s_b s_o, .val (.string data)] h Q = cas_Store_Digest.W s_b s_o data h Q := by kernel_rfl
  rw [← e] at hW
  exact calls_of_body (H := cas_Store_Digest.H) (args := [.ptr s_b s_o, .val (.string data)]) Try.func16 Try.ntmps16 rfl rfl hW

/-! ### 21 cas_Store_Again -/
def cas_Store_Again.H : Hints := { N := 33, loc := (fun i => Nat.beq i 3 || false), join := (fun _ => none), loop := (fun _ => none), ifc := 27, order := (fun i => bif Nat.beq i 9 then some (some 12, false, [0, 1, 2, 3, 4, 6, 7, 8, 10, 11, 5, 9, 12, 13], .q 0 (.q 1 (.q 2 (.q 3 (.q 4 (.q 6 (.q 7 (.q 8 (.q 10 (.q 11 (.f 5 (.f 9 (.f 12 (.q 13 .done) .e) .e) .e))))))))))) else none) }
def cas_Store_Again.W (s_b s_o : Nat) (id_0 : ByteArray) (id_1 : Int) (h : Hp) (Q : Value → Hp → Prop) : Prop :=
  (CallsH Try.prog 27 (#[Value.pointer (some { block := s_b, off := s_o }), Value.agg #[Value.string id_0, Value.int IntKind.i64 id_1]]) (h) (fun (v1 : Value) (h2 : Hp) => (∃ (n3 : Int), (∃ (s4 : ByteArray), ((v1 = Value.tuple #[Value.int IntKind.i64 n3, Value.string s4]) ∧ (bif hb (n3 == 0) then (Q (Value.int IntKind.i64 6) h2) else (bif hb (n3 == 4294967295) then (Q (Value.int IntKind.i64 5) h2) else (∃ (a5 : Option Addr), ((h2.cell s_b s_o = some (Value.iface 27 (Value.pointer a5))) ∧ (CallsH Try.prog 28 (#[Value.agg #[Value.string id_0, Value.int IntKind.i64 id_1]]) (h2) (fun (v6 : Value) (h7 : Hp) => (∃ (s8 : ByteArray), ((v6 = Value.string s8) ∧ ((Gx.Sub h2 h7) ∧ (CallsH Try.prog 29 (#[Value.int IntKind.i64 (IntKind.i64.wrap (n3 + 1)), Value.string s4]) (h7) (fun (v9 : Value) (h10 : Hp) => (∃ (s11 : ByteArray), ((v9 = Value.string s11) ∧ ((Gx.Sub h2 h10) ∧ (∃ (a12 : Option Addr), ((Value.iface 27 (Value.pointer a5) = Value.iface 27 (Value.pointer a12)) ∧ (CallsH Try.prog 25 (#[Value.pointer a12, Value.string s8, Value.string s11]) (h10) (fun (v13 : Value) (h14 : Hp) => (∃ (n15 : Int), ((v13 = Value.int IntKind.i64 n15) ∧ (Q (Value.int IntKind.i64 n15) h14))))))))))))))))))))))))))
theorem cas_Store_Again.calls (s_b s_o : Nat) (id_0 : ByteArray) (id_1 : Int) {h : Hp} {Q : Value → Hp → Prop} (hW : cas_Store_Again.W s_b s_o id_0 id_1 h Q) : CallsH Try.prog 21 #[.pointer (some ⟨s_b, s_o, none⟩), .agg #[.string id_0, .int .i64 id_1]] h Q := by
  have e : bodyW Try.prog cas_Store_Again.H Try.f21 [.ptr s_b s_o, .val (.agg #[.string id_0, .int .i64 id_1])] h Q = cas_Store_Again.W s_b s_o id_0 id_1 h Q := by kernel_rfl
  rw [← e] at hW
  exact calls_of_body (H := cas_Store_Again.H) (args := [.ptr s_b s_o, .val (.agg #[.string id_0, .int .i64 id_1])]) Try.func21 Try.ntmps21 rfl rfl hW

/-! ### 22 cas_Store_Take -/
def cas_Store_Take.H : Hints := { N := 42, loc := (fun i => Nat.beq i 3 || false), join := (fun _ => none), loop := (fun _ => none), ifc := 27, order := (fun i => bif Nat.beq i 8 then some (some 8, false, [0, 1, 2, 3, 4, 6, 7, 5, 8], .q 0 (.q 1 (.q 2 (.q 3 (.q 4 (.q 6 (.q 7 (.f 5 (.f 8 (.done) .e) .e)))))))) else bif Nat.beq i 10 then some (some 12, false, [0, 1, 2, 3, 4, 6, 7, 8, 10, 11, 5, 9, 12, 13], .q 0 (.q 1 (.q 2 (.q 3 (.q 4 (.q 6 (.q 7 (.q 8 (.q 10 (.q 11 (.f 5 (.f 9 (.f 12 (.q 13 .done) .e) .e) .e))))))))))) else none) }
def cas_Store_Take.W (s_b s_o : Nat) (id_0 : ByteArray) (id_1 : Int) (h : Hp) (Q : Value → Hp → Prop) : Prop :=
  (CallsH Try.prog 27 (#[Value.pointer (some { block := s_b, off := s_o }), Value.agg #[Value.string id_0, Value.int IntKind.i64 id_1]]) (h) (fun (v1 : Value) (h2 : Hp) => (∃ (n3 : Int), (∃ (s4 : ByteArray), ((v1 = Value.tuple #[Value.int IntKind.i64 n3, Value.string s4]) ∧ (bif hb (n3 == 0) then (Q (Value.int IntKind.i64 6) h2) else (bif hb (n3 == 1) then (∃ (a5 : Option Addr), ((h2.cell s_b s_o = some (Value.iface 27 (Value.pointer a5))) ∧ (CallsH Try.prog 28 (#[Value.agg #[Value.string id_0, Value.int IntKind.i64 id_1]]) (h2) (fun (v6 : Value) (h7 : Hp) => (∃ (s8 : ByteArray), ((v6 = Value.string s8) ∧ ((Gx.Sub h2 h7) ∧ (∃ (a9 : Option Addr), ((Value.iface 27 (Value.pointer a5) = Value.iface 27 (Value.pointer a9)) ∧ (CallsH Try.prog 81 (#[Value.pointer a9, Value.string s8]) (h7) (fun (v10 : Value) (h11 : Hp) => (∃ (b12 : Bool), ((v10 = Value.bool b12) ∧ (Q (Value.int IntKind.i64 0) h11)))))))))))))) else (∃ (a13 : Option Addr), ((h2.cell s_b s_o = some (Value.iface 27 (Value.pointer a13))) ∧ (CallsH Try.prog 28 (#[Value.agg #[Value.string id_0, Value.int IntKind.i64 id_1]]) (h2) (fun (v14 : Value) (h15 : Hp) => (∃ (s16 : ByteArray), ((v14 = Value.string s16) ∧ ((Gx.Sub h2 h15) ∧ (CallsH Try.prog 29 (#[Value.int IntKind.i64 (IntKind.i64.wrap (n3 - 1)), Value.string s4]) (h15) (fun (v17 : Value) (h18 : Hp) => (∃ (s19 : ByteArray), ((v17 = Value.string s19) ∧ ((Gx.Sub h2 h18) ∧ (∃ (a20 : Option Addr), ((Value.iface 27 (Value.pointer a13) = Value.iface 27 (Value.pointer a20)) ∧ (CallsH Try.prog 25 (#[Value.pointer a20, Value.string s16, Value.string s19]) (h18) (fun (v21 : Value) (h22 : Hp) => (∃ (n23 : Int), ((v21 = Value.int IntKind.i64 n23) ∧ (Q (Value.int IntKind.i64 n23) h22))))))))))))))))))))))))))
theorem cas_Store_Take.calls (s_b s_o : Nat) (id_0 : ByteArray) (id_1 : Int) {h : Hp} {Q : Value → Hp → Prop} (hW : cas_Store_Take.W s_b s_o id_0 id_1 h Q) : CallsH Try.prog 22 #[.pointer (some ⟨s_b, s_o, none⟩), .agg #[.string id_0, .int .i64 id_1]] h Q := by
  have e : bodyW Try.prog cas_Store_Take.H Try.f22 [.ptr s_b s_o, .val (.agg #[.string id_0, .int .i64 id_1])] h Q = cas_Store_Take.W s_b s_o id_0 id_1 h Q := by kernel_rfl
  rw [← e] at hW
  exact calls_of_body (H := cas_Store_Take.H) (args := [.ptr s_b s_o, .val (.agg #[.string id_0, .int .i64 id_1])]) Try.func22 Try.ntmps22 rfl rfl hW

/-! ### 27 cas_Store_look -/
def cas_Store_look.H : Hints := { N := 35, loc := (fun i => Nat.beq i 3 || false), join := (fun _ => none), loop := (fun _ => none), ifc := 27, order := (fun i => bif Nat.beq i 3 then some (some 8, false, [0, 1, 2, 3, 4, 6, 7, 5, 8, 9, 10, 11, 12, 13], .q 0 (.q 1 (.q 2 (.q 3 (.q 4 (.q 6 (.q 7 (.f 5 (.f 8 (.q 9 (.q 10 (.q 11 (.q 12 (.q 13 .done))))) .e) .e)))))))) else bif Nat.beq i 6 then some (some 1, false, [0, 2, 3, 1, 4, 5], .q 0 (.q 2 (.q 3 (.f 1 (.q 4 (.q 5 .done)) .e)))) else none) }
def cas_Store_look.W (s_b s_o : Nat) (id_0 : ByteArray) (id_1 : Int) (h : Hp) (Q : Value → Hp → Prop) : Prop :=
  (CallsH Try.prog 39 (#[Value.pointer (some { block := s_b, off := s_o }), Value.agg #[Value.string id_0, Value.int IntKind.i64 id_1]]) (h) (fun (v1 : Value) (h2 : Hp) => (∃ (b3 : Bool), ((v1 = Value.bool b3) ∧ (bif !b3 then (Q (Value.tuple #[Value.int IntKind.i64 0, Value.string (bytesL [])]) h2) else (∃ (a4 : Option Addr), ((h2.cell s_b s_o = some (Value.iface 27 (Value.pointer a4))) ∧ (CallsH Try.prog 28 (#[Value.agg #[Value.string id_0, Value.int IntKind.i64 id_1]]) (h2) (fun (v5 : Value) (h6 : Hp) => (∃ (s7 : ByteArray), ((v5 = Value.string s7) ∧ ((Gx.Sub h2 h6) ∧ (∃ (a8 : Option Addr), ((Value.iface 27 (Value.pointer a4) = Value.iface 27 (Value.pointer a8)) ∧ (CallsH Try.prog 26 (#[Value.pointer a8, Value.string s7]) (h6) (fun (v9 : Value) (h10 : Hp) => (∃ (s11 : ByteArray), (∃ (b12 : Bool), ((v9 = Value.tuple #[Value.string s11, Value.bool b12]) ∧ (bif !b12 then (Q (Value.tuple #[Value.int IntKind.i64 0, Value.string (bytesL [])]) h10) else (bif hb (decide (Int.ofNat s11.size < 4)) then (Q (Value.tuple #[Value.int IntKind.i64 0, Value.string (bytesL [])]) h10) else ((Int.ofNat 0 ≤ 4) ∧ ((4 ≤ Int.ofNat s11.size) ∧ (CallsH Try.prog 40 (#[Value.string s11]) (h10) (fun (v13 : Value) (h14 : Hp) => (∃ (n15 : Int), ((v13 = Value.int IntKind.i64 n15) ∧ (Q (Value.tuple #[Value.int IntKind.i64 n15, Value.string (s11.extract (Int.toNat 4) s11.size)]) h14))))))))))))))))))))))))))))
theorem cas_Store_look.calls (s_b s_o : Nat) (id_0 : ByteArray) (id_1 : Int) {h : Hp} {Q : Value → Hp → Prop} (hW : cas_Store_look.W s_b s_o id_0 id_1 h Q) : CallsH Try.prog 27 #[.pointer (some ⟨s_b, s_o, none⟩), .agg #[.string id_0, .int .i64 id_1]] h Q := by
  have e : bodyW Try.prog cas_Store_look.H Try.f27 [.ptr s_b s_o, .val (.agg #[.string id_0, .int .i64 id_1])] h Q = cas_Store_look.W s_b s_o id_0 id_1 h Q := by kernel_rfl
  rw [← e] at hW
  exact calls_of_body (H := cas_Store_look.H) (args := [.ptr s_b s_o, .val (.agg #[.string id_0, .int .i64 id_1])]) Try.func27 Try.ntmps27 rfl rfl hW

/-! ### 28 cas_key -/
def cas_key.H : Hints := { N := 12, loc := (fun i => Nat.beq i 1 || false), join := (fun _ => none), loop := (fun _ => none), ifc := 27, order := (fun _ => none) }
def cas_key.W (id_0 : ByteArray) (id_1 : Int) (h : Hp) (Q : Value → Hp → Prop) : Prop :=
  (((bytesL [99]).size + id_0.size ≤ 9223372036854775807) ∧ (∀ (k1 : Nat), (((h k1 = none)) → (∃ (s2 : ByteArray), ((SliceAt (h.upd k1 (Obj.cells #[Value.int IntKind.u8 (IntKind.u8.wrap id_1)] 5 (0, 0))) (some { block := k1, off := 0 }) (1) (bytesV s2)) ∧ (((bytesL [99] ++ id_0).size + s2.size ≤ 9223372036854775807) ∧ (Q (Value.string (bytesL [99] ++ id_0 ++ s2)) (h.upd k1 (Obj.cells #[Value.int IntKind.u8 (IntKind.u8.wrap id_1)] 5 (0, 0))))))))))
theorem cas_key.calls (id_0 : ByteArray) (id_1 : Int) {h : Hp} {Q : Value → Hp → Prop} (hW : cas_key.W id_0 id_1 h Q) : CallsH Try.prog 28 #[.agg #[.string id_0, .int .i64 id_1]] h Q := by
  have e : bodyW Try.prog cas_key.H Try.f28 [.val (.agg #[.string id_0, .int .i64 id_1])] h Q = cas_key.W id_0 id_1 h Q := by kernel_rfl
  rw [← e] at hW
  exact calls_of_body (H := cas_key.H) (args := [.val (.agg #[.string id_0, .int .i64 id_1])]) Try.func28 Try.ntmps28 rfl rfl hW

/-! ### 29 cas_value -/
def cas_value.H : Hints := { N := 20, loc := (fun _ => false), join := (fun _ => none), loop := (fun _ => none), ifc := 27, order := (fun _ => none) }
def cas_value.W (refs : Int) (data : ByteArray) (h : Hp) (Q : Value → Hp → Prop) : Prop :=
  ((Int.ofNat 0 ≤ 24) ∧ ((Int.ofNat 0 ≤ 16) ∧ ((Int.ofNat 0 ≤ 8) ∧ (∀ (k1 : Nat), (((h k1 = none)) → (∃ (s2 : ByteArray), ((SliceAt (h.upd k1 (Obj.cells #[Value.int IntKind.u8 (IntKind.u8.wrap (ishr IntKind.i64 refs 24)), Value.int IntKind.u8 (IntKind.u8.wrap (ishr IntKind.i64 refs 16)), Value.int IntKind.u8 (IntKind.u8.wrap (ishr IntKind.i64 refs 8)), Value.int IntKind.u8 (IntKind.u8.wrap refs)] 5 (0, 0))) (some { block := k1, off := 0 }) (4) (bytesV s2)) ∧ ((s2.size + data.size ≤ 9223372036854775807) ∧ (Q (Value.string (s2 ++ data)) (h.upd k1 (Obj.cells #[Value.int IntKind.u8 (IntKind.u8.wrap (ishr IntKind.i64 refs 24)), Value.int IntKind.u8 (IntKind.u8.wrap (ishr IntKind.i64 refs 16)), Value.int IntKind.u8 (IntKind.u8.wrap (ishr IntKind.i64 refs 8)), Value.int IntKind.u8 (IntKind.u8.wrap refs)] 5 (0, 0))))))))))))
theorem cas_value.calls (refs : Int) (data : ByteArray) {h : Hp} {Q : Value → Hp → Prop} (hW : cas_value.W refs data h Q) : CallsH Try.prog 29 #[.int .i64 refs, .string data] h Q := by
  have e : bodyW Try.prog cas_value.H Try.f29 [.val (.int .i64 refs), .val (.string data)] h Q = cas_value.W refs data h Q := by kernel_rfl
  rw [← e] at hW
  exact calls_of_body (H := cas_value.H) (args := [.val (.int .i64 refs), .val (.string data)]) Try.func29 Try.ntmps29 rfl rfl hW

/-! ### 39 cas_Store_known -/
def cas_Store_known.H : Hints := { N := 27, loc := (fun i => Nat.beq i 3 || false), join := (fun _ => none), loop := (fun _ => none), ifc := 27, order := (fun i => bif Nat.beq i 1 then some (none, false, [0, 1, 2, 3, 4, 5, 6, 7, 8, 9, 10, 11, 12, 13, 14, 15, 16, 17, 18, 19, 20, 21, 22], .q 0 (.q 1 (.q 2 (.q 3 (.q 4 (.q 5 (.q 6 (.q 7 (.q 8 (.q 9 (.q 10 (.q 11 (.q 12 (.q 13 (.q 14 (.q 15 (.q 16 (.q 17 (.q 18 (.q 19 (.q 20 (.q 21 (.q 22 .done))))))))))))))))))))))) else none) }
def cas_Store_known.W (s_b s_o : Nat) (id_0 : ByteArray) (id_1 : Int) (h : Hp) (Q : Value → Hp → Prop) : Prop :=
  (∃ (n1 : Int), ((h.cell s_b (s_o + 1) = some (Value.int IntKind.i64 n1)) ∧ (bif hb (Int.ofNat id_0.size == n1) then (bif hb (decide (id_1 ≥ 0)) then (Q (Value.bool (hb (decide (id_1 < 256)))) h) else (Q (Value.bool false) h)) else (Q (Value.bool false) h))))
theorem cas_Store_known.calls (s_b s_o : Nat) (id_0 : ByteArray) (id_1 : Int) {h : Hp} {Q : Value → Hp → Prop} (hW : cas_Store_known.W s_b s_o id_0 id_1 h Q) : CallsH Try.prog 39 #[.pointer (some ⟨s_b, s_o, none⟩), .agg #[.string id_0, .int .i64 id_1]] h Q := by
  have e : bodyW Try.prog cas_Store_known.H Try.f39 [.ptr s_b s_o, .val (.agg #[.string id_0, .int .i64 id_1])] h Q = cas_Store_known.W s_b s_o id_0 id_1 h Q := by kernel_rfl
  rw [← e] at hW
  exact calls_of_body (H := cas_Store_known.H) (args := [.ptr s_b s_o, .val (.agg #[.string id_0, .int .i64 id_1])]) Try.func39 Try.ntmps39 rfl rfl hW

/-! ### 40 cas_refs -/
def cas_refs.H : Hints := { N := 17, loc := (fun _ => false), join := (fun _ => none), loop := (fun i => bif Nat.beq i 3 then some [.slot 3 (.int .i64), .slot 5 (.int .i64)] else none), ifc := 27, order := (fun _ => none) }
def cas_refs.W (v : ByteArray) (h : Hp) (Q : Value → Hp → Prop) : Prop :=
  (∃ (J1 : Int → Int → Hp → Nat → Prop), ((∃ (k2 : Nat), (J1 0 0 h k2)) ∧ (∀ (n3 : Int), (∀ (n4 : Int), (∀ (x5 : Hp), (∀ (k6 : Nat), (((J1 n3 n4 x5 k6)) → (bif hb (decide (n4 < 4)) then ((Int.ofNat 0 ≤ 8) ∧ ((0 ≤ n4) ∧ ((n4 < Int.ofNat v.size) ∧ (∃ (k7 : Nat), ((k7 < k6) ∧ (J1 (IntKind.i64.wrap (ior IntKind.i64 (IntKind.i64.wrap (ishl IntKind.i64 n3 8)) (IntKind.i64.wrap (byteAt v n4.toNat)))) (IntKind.i64.wrap (n4 + 1)) x5 k7)))))) else (Q (Value.int IntKind.i64 n3) x5)))))))))
theorem cas_refs.calls (v : ByteArray) {h : Hp} {Q : Value → Hp → Prop} (hW : cas_refs.W v h Q) : CallsH Try.prog 40 #[.string v] h Q := by
  have e : bodyW Try.prog cas_refs.H Try.f40 [.val (.string v)] h Q = cas_refs.W v h Q := by kernel_rfl
  rw [← e] at hW
  exact calls_of_body (H := cas_refs.H) (args := [.val (.string v)]) Try.func40 Try.ntmps40 rfl rfl hW

/-! ### 39 cas_Store_known_n -/
def cas_Store_known_n.H : Hints := { N := 27, loc := (fun i => Nat.beq i 3 || false), join := (fun _ => none), loop := (fun _ => none), ifc := 27, order := (fun i => bif Nat.beq i 1 then some (none, false, [0, 1, 2, 3, 4, 5, 6, 7, 8, 9, 10, 11, 12, 13, 14, 15, 16, 17, 18, 19, 20, 21, 22], .q 0 (.q 1 (.q 2 (.q 3 (.q 4 (.q 5 (.q 6 (.q 7 (.q 8 (.q 9 (.q 10 (.q 11 (.q 12 (.q 13 (.q 14 (.q 15 (.q 16 (.q 17 (.q 18 (.q 19 (.q 20 (.q 21 (.q 22 .done))))))))))))))))))))))) else none) }
def cas_Store_known_n.W (id_0 : ByteArray) (id_1 : Int) (h : Hp) (Q : Value → Hp → Prop) : Prop :=
  (Q (Value.bool false) h)
theorem cas_Store_known_n.calls (id_0 : ByteArray) (id_1 : Int) {h : Hp} {Q : Value → Hp → Prop} (hW : cas_Store_known_n.W id_0 id_1 h Q) : CallsH Try.prog 39 #[.pointer none, .agg #[.string id_0, .int .i64 id_1]] h Q := by
  have e : bodyW Try.prog cas_Store_known_n.H Try.f39 [.val (.pointer none), .val (.agg #[.string id_0, .int .i64 id_1])] h Q = cas_Store_known_n.W id_0 id_1 h Q := by kernel_rfl
  rw [← e] at hW
  exact calls_of_body (H := cas_Store_known_n.H) (args := [.val (.pointer none), .val (.agg #[.string id_0, .int .i64 id_1])]) Try.func39 Try.ntmps39 rfl rfl hW

/-! ### 11 cas_Store_Put_n -/
def cas_Store_Put_n.H : Hints := { N := 83, loc := (fun i => Nat.beq i 9 || Nat.beq i 6 || Nat.beq i 4 || false), join := (fun _ => none), loop := (fun i => bif Nat.beq i 8 then some [.slot 7 (.int .i64), .slot 30 (.int .i64), .blk 4 [.str, .int .i64]] else none), ifc := 27, order := (fun i => bif Nat.beq i 22 then some (some 10, false, [0, 1, 2, 3, 4, 6, 8, 9, 5, 7, 10, 11], .q 0 (.q 1 (.q 2 (.q 3 (.q 4 (.q 6 (.q 8 (.q 9 (.f 5 (.f 7 (.f 10 (.q 11 .done) .e) .e) .e))))))))) else none) }
def cas_Store_Put_n.W (data : ByteArray) (h : Hp) (Q : Value → Hp → Prop) : Prop :=
  (Q (Value.tuple #[Value.agg #[Value.string (bytesL []), Value.int IntKind.i64 0], Value.int IntKind.i64 1]) h)
theorem cas_Store_Put_n.calls (data : ByteArray) {h : Hp} {Q : Value → Hp → Prop} (hW : cas_Store_Put_n.W data h Q) : CallsH Try.prog 11 #[.pointer none, .string data] h Q := by
  have e : bodyW Try.prog cas_Store_Put_n.H Try.f11 [.val (.pointer none), .val (.string data)] h Q = cas_Store_Put_n.W data h Q := by kernel_rfl
  rw [← e] at hW
  exact calls_of_body (H := cas_Store_Put_n.H) (args := [.val (.pointer none), .val (.string data)]) Try.func11 Try.ntmps11 rfl rfl hW

/-! ### 12 cas_Store_Get_n -/
def cas_Store_Get_n.H : Hints := { N := 17, loc := (fun i => Nat.beq i 3 || false), join := (fun _ => none), loop := (fun _ => none), ifc := 27, order := (fun _ => none) }
def cas_Store_Get_n.W (id_0 : ByteArray) (id_1 : Int) (h : Hp) (Q : Value → Hp → Prop) : Prop :=
  (CallsH Try.prog 27 (#[Value.pointer none, Value.agg #[Value.string id_0, Value.int IntKind.i64 id_1]]) (h) (fun (v1 : Value) (h2 : Hp) => (∃ (n3 : Int), (∃ (s4 : ByteArray), ((v1 = Value.tuple #[Value.int IntKind.i64 n3, Value.string s4]) ∧ (Q (Value.tuple #[Value.string s4, Value.bool (hb (decide (n3 > 0)))]) h2))))))
theorem cas_Store_Get_n.calls (id_0 : ByteArray) (id_1 : Int) {h : Hp} {Q : Value → Hp → Prop} (hW : cas_Store_Get_n.W id_0 id_1 h Q) : CallsH Try.prog 12 #[.pointer none, .agg #[.string id_0, .int .i64 id_1]] h Q := by
  have e : bodyW Try.prog cas_Store_Get_n.H Try.f12 [.val (.pointer none), .val (.agg #[.string id_0, .int .i64 id_1])] h Q = cas_Store_Get_n.W id_0 id_1 h Q := by kernel_rfl
  rw [← e] at hW
  exact calls_of_body (H := cas_Store_Get_n.H) (args := [.val (.pointer none), .val (.agg #[.string id_0, .int .i64 id_1])]) Try.func12 Try.ntmps12 rfl rfl hW

/-! ### 13 cas_Store_Refs_n -/
def cas_Store_Refs_n.H : Hints := { N := 14, loc := (fun i => Nat.beq i 3 || false), join := (fun _ => none), loop := (fun _ => none), ifc := 27, order := (fun _ => none) }
def cas_Store_Refs_n.W (id_0 : ByteArray) (id_1 : Int) (h : Hp) (Q : Value → Hp → Prop) : Prop :=
  (CallsH Try.prog 27 (#[Value.pointer none, Value.agg #[Value.string id_0, Value.int IntKind.i64 id_1]]) (h) (fun (v1 : Value) (h2 : Hp) => (∃ (n3 : Int), (∃ (s4 : ByteArray), ((v1 = Value.tuple #[Value.int IntKind.i64 n3, Value.string s4]) ∧ (Q (Value.int IntKind.i64 n3) h2))))))
theorem cas_Store_Refs_n.calls (id_0 : ByteArray) (id_1 : Int) {h : Hp} {Q : Value → Hp → Prop} (hW : cas_Store_Refs_n.W id_0 id_1 h Q) : CallsH Try.prog 13 #[.pointer none, .agg #[.string id_0, .int .i64 id_1]] h Q := by
  have e : bodyW Try.prog cas_Store_Refs_n.H Try.f13 [.val (.pointer none), .val (.agg #[.string id_0, .int .i64 id_1])] h Q = cas_Store_Refs_n.W id_0 id_1 h Q := by kernel_rfl
  rw [← e] at hW
  exact calls_of_body (H := cas_Store_Refs_n.H) (args := [.val (.pointer none), .val (.agg #[.string id_0, .int .i64 id_1])]) Try.func13 Try.ntmps13 rfl rfl hW

/-! ### 14 cas_Store_Count_n -/
def cas_Store_Count_n.H : Hints := { N := 32, loc := (fun i => Nat.beq i 5 || false), join := (fun _ => none), loop := (fun i => bif Nat.beq i 4 then some [.slot 2 (.int .i64), .slot 3 (.int .i64), .slot 14 (.int .i64)] else none), ifc := 27, order := (fun _ => none) }
def cas_Store_Count_n.W  (h : Hp) (Q : Value → Hp → Prop) : Prop :=
  (Q (Value.tuple #[Value.int IntKind.i64 0, Value.int IntKind.i64 0]) h)
theorem cas_Store_Count_n.calls  {h : Hp} {Q : Value → Hp → Prop} (hW : cas_Store_Count_n.W  h Q) : CallsH Try.prog 14 #[.pointer none] h Q := by
  have e : bodyW Try.prog cas_Store_Count_n.H Try.f14 [.val (.pointer none)] h Q = cas_Store_Count_n.W  h Q := by kernel_rfl
  rw [← e] at hW
  exact calls_of_body (H := cas_Store_Count_n.H) (args := [.val (.pointer none)]) Try.func14 Try.ntmps14 rfl rfl hW

/-! ### 15 cas_Store_Find_n -/
def cas_Store_Find_n.H : Hints := { N := 53, loc := (fun i => Nat.beq i 7 || false), join := (fun _ => none), loop := (fun i => bif Nat.beq i 5 then some [.slot 5 (.slice), .slot 34 (.int .i64)] else none), ifc := 27, order := (fun i => bif Nat.beq i 4 then some (some 12, false, [0, 1, 2, 3, 4, 5, 7, 8, 10, 11, 14, 6, 9, 12, 13], .q 0 (.q 1 (.q 2 (.q 3 (.q 4 (.q 5 (.q 7 (.q 8 (.q 10 (.q 11 (.q 14 (.f 6 (.f 9 (.f 12 (.q 13 .done) .e) .e) .e)))))))))))) else none) }
def cas_Store_Find_n.W (sum : ByteArray) (h : Hp) (Q : Value → Hp → Prop) : Prop :=
  (Q (Value.slice none 0 0) h)
theorem cas_Store_Find_n.calls (sum : ByteArray) {h : Hp} {Q : Value → Hp → Prop} (hW : cas_Store_Find_n.W sum h Q) : CallsH Try.prog 15 #[.pointer none, .string sum] h Q := by
  have e : bodyW Try.prog cas_Store_Find_n.H Try.f15 [.val (.pointer none), .val (.string sum)] h Q = cas_Store_Find_n.W sum h Q := by kernel_rfl
  rw [← e] at hW
  exact calls_of_body (H := cas_Store_Find_n.H) (args := [.val (.pointer none), .val (.string sum)]) Try.func15 Try.ntmps15 rfl rfl hW

/-! ### 16 cas_Store_Digest_n -/
def cas_Store_Digest_n.H : Hints := { N := 15, loc := (fun _ => false), join := (fun _ => none), loop := (fun _ => none), ifc := 27, order := (fun i => bif Nat.beq i 3 then some (none, false, [0, 3, 4, 5, 6, 1, 2, 7, 8], .q 0 (.q 3 (.q 4 (.q 5 (.q 6 (.f 1 (.f 2 (.q 7 (.q 8 .done)) .e) .e)))))) else none) }
def cas_Store_Digest_n.W (data : ByteArray) (h : Hp) (Q : Value → Hp → Prop) : Prop :=
  (Q (Value.string (bytesL [])) h)
theorem cas_Store_Digest_n.calls (data : ByteArray) {h : Hp} {Q : Value → Hp → Prop} (hW : cas_Store_Digest_n.W data h Q) : CallsH Try.prog 16 #[.pointer none, .string data] h Q := by
  have e : bodyW Try.prog cas_Store_Digest_n.H Try.f16 [.val (.pointer none), .val (.string data)] h Q = cas_Store_Digest_n.W data h Q := by kernel_rfl
  rw [← e] at hW
  exact calls_of_body (H := cas_Store_Digest_n.H) (args := [.val (.pointer none), .val (.string data)]) Try.func16 Try.ntmps16 rfl rfl hW

/-! ### 21 cas_Store_Again_n -/
def cas_Store_Again_n.H : Hints := { N := 33, loc := (fun i => Nat.beq i 3 || false), join := (fun _ => none), loop := (fun _ => none), ifc := 27, order := (fun i => bif Nat.beq i 9 then some (some 12, false, [0, 1, 2, 3, 4, 6, 7, 8, 10, 11, 5, 9, 12, 13], .q 0 (.q 1 (.q 2 (.q 3 (.q 4 (.q 6 (.q 7 (.q 8 (.q 10 (.q 11 (.f 5 (.f 9 (.f 12 (.q 13 .done) .e) .e) .e))))))))))) else none) }
def cas_Store_Again_n.W (id_0 : ByteArray) (id_1 : Int) (h : Hp) (Q : Value → Hp → Prop) : Prop :=
  (Q (Value.int IntKind.i64 1) h)
theorem cas_Store_Again_n.calls (id_0 : ByteArray) (id_1 : Int) {h : Hp} {Q : Value → Hp → Prop} (hW : cas_Store_Again_n.W id_0 id_1 h Q) : CallsH Try.prog 21 #[.pointer none, .agg #[.string id_0, .int .i64 id_1]] h Q := by
  have e : bodyW Try.prog cas_Store_Again_n.H Try.f21 [.val (.pointer none), .val (.agg #[.string id_0, .int .i64 id_1])] h Q = cas_Store_Again_n.W id_0 id_1 h Q := by kernel_rfl
  rw [← e] at hW
  exact calls_of_body (H := cas_Store_Again_n.H) (args := [.val (.pointer none), .val (.agg #[.string id_0, .int .i64 id_1])]) Try.func21 Try.ntmps21 rfl rfl hW

/-! ### 22 cas_Store_Take_n -/
def cas_Store_Take_n.H : Hints := { N := 42, loc := (fun i => Nat.beq i 3 || false), join := (fun _ => none), loop := (fun _ => none), ifc := 27, order := (fun i => bif Nat.beq i 8 then some (some 8, false, [0, 1, 2, 3, 4, 6, 7, 5, 8], .q 0 (.q 1 (.q 2 (.q 3 (.q 4 (.q 6 (.q 7 (.f 5 (.f 8 (.done) .e) .e)))))))) else bif Nat.beq i 10 then some (some 12, false, [0, 1, 2, 3, 4, 6, 7, 8, 10, 11, 5, 9, 12, 13], .q 0 (.q 1 (.q 2 (.q 3 (.q 4 (.q 6 (.q 7 (.q 8 (.q 10 (.q 11 (.f 5 (.f 9 (.f 12 (.q 13 .done) .e) .e) .e))))))))))) else none) }
def cas_Store_Take_n.W (id_0 : ByteArray) (id_1 : Int) (h : Hp) (Q : Value → Hp → Prop) : Prop :=
  (Q (Value.int IntKind.i64 1) h)
theorem cas_Store_Take_n.calls (id_0 : ByteArray) (id_1 : Int) {h : Hp} {Q : Value → Hp → Prop} (hW : cas_Store_Take_n.W id_0 id_1 h Q) : CallsH Try.prog 22 #[.pointer none, .agg #[.string id_0, .int .i64 id_1]] h Q := by
  have e : bodyW Try.prog cas_Store_Take_n.H Try.f22 [.val (.pointer none), .val (.agg #[.string id_0, .int .i64 id_1])] h Q = cas_Store_Take_n.W id_0 id_1 h Q := by kernel_rfl
  rw [← e] at hW
  exact calls_of_body (H := cas_Store_Take_n.H) (args := [.val (.pointer none), .val (.agg #[.string id_0, .int .i64 id_1])]) Try.func22 Try.ntmps22 rfl rfl hW

/-! ### 27 cas_Store_look_n -/
def cas_Store_look_n.H : Hints := { N := 35, loc := (fun i => Nat.beq i 3 || false), join := (fun _ => none), loop := (fun _ => none), ifc := 27, order := (fun i => bif Nat.beq i 3 then some (some 8, false, [0, 1, 2, 3, 4, 6, 7, 5, 8, 9, 10, 11, 12, 13], .q 0 (.q 1 (.q 2 (.q 3 (.q 4 (.q 6 (.q 7 (.f 5 (.f 8 (.q 9 (.q 10 (.q 11 (.q 12 (.q 13 .done))))) .e) .e)))))))) else bif Nat.beq i 6 then some (some 1, false, [0, 2, 3, 1, 4, 5], .q 0 (.q 2 (.q 3 (.f 1 (.q 4 (.q 5 .done)) .e)))) else none) }
def cas_Store_look_n.W (id_0 : ByteArray) (id_1 : Int) (h : Hp) (Q : Value → Hp → Prop) : Prop :=
  (CallsH Try.prog 39 (#[Value.pointer none, Value.agg #[Value.string id_0, Value.int IntKind.i64 id_1]]) (h) (fun (v1 : Value) (h2 : Hp) => (∃ (b3 : Bool), ((v1 = Value.bool b3) ∧ (bif !b3 then (Q (Value.tuple #[Value.int IntKind.i64 0, Value.string (bytesL [])]) h2) else (∃ (k4 : Nat), (∃ (k5 : Nat), (((none : Option Addr) = some { block := k4, off := k5 }) ∧ (∃ (a6 : Option Addr), ((h2.cell k4 k5 = some (Value.iface 27 (Value.pointer a6))) ∧ (CallsH Try.prog 28 (#[Value.agg #[Value.string id_0, Value.int IntKind.i64 id_1]]) (h2) (fun (v7 : Value) (h8 : Hp) => (∃ (s9 : ByteArray), ((v7 = Value.string s9) ∧ ((Gx.Sub h2 h8) ∧ (∃ (a10 : Option Addr), ((Value.iface 27 (Value.pointer a6) = Value.iface 27 (Value.pointer a10)) ∧ (CallsH Try.prog 26 (#[Value.pointer a10, Value.string s9]) (h8) (fun (v11 : Value) (h12 : Hp) => (∃ (s13 : ByteArray), (∃ (b14 : Bool), ((v11 = Value.tuple #[Value.string s13, Value.bool b14]) ∧ (bif !b14 then (Q (Value.tuple #[Value.int IntKind.i64 0, Value.string (bytesL [])]) h12) else (bif hb (decide (Int.ofNat s13.size < 4)) then (Q (Value.tuple #[Value.int IntKind.i64 0, Value.string (bytesL [])]) h12) else ((Int.ofNat 0 ≤ 4) ∧ ((4 ≤ Int.ofNat s13.size) ∧ (CallsH Try.prog 40 (#[Value.string s13]) (h12) (fun (v15 : Value) (h16 : Hp) => (∃ (n17 : Int), ((v15 = Value.int IntKind.i64 n17) ∧ (Q (Value.tuple #[Value.int IntKind.i64 n17, Value.string (s13.extract (Int.toNat 4) s13.size)]) h16)))))))))))))))))))))))))))))))
theorem cas_Store_look_n.calls (id_0 : ByteArray) (id_1 : Int) {h : Hp} {Q : Value → Hp → Prop} (hW : cas_Store_look_n.W id_0 id_1 h Q) : CallsH Try.prog 27 #[.pointer none, .agg #[.string id_0, .int .i64 id_1]] h Q := by
  have e : bodyW Try.prog cas_Store_look_n.H Try.f27 [.val (.pointer none), .val (.agg #[.string id_0, .int .i64 id_1])] h Q = cas_Store_look_n.W id_0 id_1 h Q := by kernel_rfl
  rw [← e] at hW
  exact calls_of_body (H := cas_Store_look_n.H) (args := [.val (.pointer none), .val (.agg #[.string id_0, .int .i64 id_1])]) Try.func27 Try.ntmps27 rfl rfl hW

end Go.Proofs.Ytpokejaglmkphaa
