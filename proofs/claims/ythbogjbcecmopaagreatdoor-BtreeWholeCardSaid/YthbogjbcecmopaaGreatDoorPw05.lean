/- The formulas of functions of the program, as the executor computes them, and that a call does what its formula says. Printed by a tool of ours (wip/tool). The formulas of functions of the program, as the executor computes them, and that a call does what its formula says. Printed by a tool of ours (wip/tool). The formulas of functions of the program, as the executor computes them, and that a call does what its formula says. Printed by a tool of ours (wip/tool). The formulas of functions of the program, as the executor computes them, and that a call does what its formula says. Printed by a tool of ours (wip/tool). A failure is set, happens, and is over. Conditions: the disk stands as it is named. Plain laws of entries in a list in the order of their keys. Conditions: those that each lemma names. A page as a node: words, the search, what a node tells. Conditions: those that each contract names. The bytes of a page as a node. Conditions: 5 to 4096 bytes. A page read as a node. Conditions: 1024 bytes. Trees of nodes: plain laws. Conditions: those that each lemma names. What Check tells. Conditions: the pager stands as it is named. Trees: opened, checked, their height, what they have of a key. Conditions: the pager stands as it is named. What a tree has of a key; how many entries it has. Conditions: the pager stands as it is named. The entries of a tree from one key to another one. Conditions: the pager stands as it is named. strings.Repeat as the library's shelf has it, laid at this program; the entry behind a key; all entries. Conditions: the pager stands as it is named. The entries beside a key; all entries. Conditions: the pager stands as it is named. The entry ahead of a key; all entries. Conditions: the pager stands as it is named. A node's bytes, and that they are read as it. Conditions: it fits into a page. A node's bytes, made; stored. Conditions: it fits into a page. Trees in cells: maps in parts, nodes in parts. Conditions: those that each lemma names. Nodes in parts, and put together. Conditions: those that each lemma names. -/
import Derived.Test.YthbogjbcecmopaaGreatDoorPw04
import Derived.Test.YthbogjbcecmopaaGreatDoorProg
import Derived.KernelRfl
import Derived.Shelf.Strings.Repeat
namespace Go.Proofs.YthbogjbcecmopaaGreatDoor
open Go.Gx
set_option maxRecDepth 100000
set_option linter.unusedVariables false

end Go.Proofs.YthbogjbcecmopaaGreatDoor
namespace Go.Proofs.YthbogjbcecmopaaGreatDoor
open Go.Gx
set_option maxRecDepth 100000
set_option linter.unusedVariables false

end Go.Proofs.YthbogjbcecmopaaGreatDoor
namespace Go.Proofs.YthbogjbcecmopaaGreatDoor
open Go.Gx
set_option maxRecDepth 100000
set_option linter.unusedVariables false

def law15_BtreeWhole.H : Hints := { N := 138, loc := (fun i => Nat.beq i 14 || false), join := (fun i => bif Nat.beq i 4 then some [] else bif Nat.beq i 17 then some [] else none), loop := (fun i => bif Nat.beq i 6 then some [.slot 10 (.slice), .slot 12 (.int .i64)] else bif Nat.beq i 9 then some [.slot 13 (.int .i64)] else none), ifc := 0, order := (fun i => bif Nat.beq i 16 then some (some 5, false, [0, 1, 2, 3, 4, 5], .q 0 (.q 1 (.q 2 (.q 3 (.f 4 (.f 5 (.done) .e) .e))))) else none) }
def law15_BtreeWhole.W (ops_0a : Option Addr) (ops_0l ops_0c : Nat) (ops_1a : Option Addr) (ops_1l ops_1c : Nat) (cut : Int) (picksa : Option Addr) (picksl picksc : Nat) (h : Hp) (Q : Value → Hp → Prop) : Prop :=
  (∀ (k1 : Nat), ((h k1 = none) → (CallsH Tryz.prog 7 (#[.int .i64 24]) (h.upd k1 (.cells #[.slice ops_0a ops_0l ops_0c, .slice ops_1a ops_1l ops_1c] 58 (0, 0))) (fun v2 h3 => ∃ a4, ∃ a5, ∃ a6, (v2 = .tuple #[.pointer a4, .pointer a5, .pointer a6]) ∧ ∃ (J7 : Hp → Prop), (∀ (x8 : Hp), (J7 x8) → (∃ (J9 : Option Addr → Nat → Nat → Int → Hp → Nat → Prop), (∃ k10, J9 none 0 0 0 x8 k10) ∧ ∀ (a11 : Option Addr), ∀ (k12 : Nat), ∀ (k13 : Nat), ∀ (n14 : Int), ∀ (x15 : Hp), ∀ (k16 : Nat), (J9 a11 k12 k13 n14 x15 k16) → (bif hb (decide (n14 < 2)) then (∃ (J17 : Hp → Prop), (∀ (x18 : Hp), (J17 x18) → (bif hb (n14 == 0) then (CallsH Tryz.prog 28 (#[.pointer a5]) (x18) (fun v19 h20 => ∃ n21, (v19 = .int .i64 n21) ∧ bif hb (n21 != 0) then (Q (.bool false) h20) else (CallsH Tryz.prog 13 (#[.pointer a6]) (h20) (fun v22 h23 => ∃ a24, ∃ k25, ∃ k26, (v22 = .slice a24 k25 k26) ∧ ∃ k27, (k27 < k16) ∧ J9 a24 k25 k26 (IntKind.i64.wrap (n14 + 1)) h23 k27)))) else (∃ k28, (k28 < k16) ∧ J9 a11 k12 k13 (IntKind.i64.wrap (n14 + 1)) x18 k28))) ∧ ∃ (J29 : Int → Hp → Nat → Prop), (∃ k30, J29 0 x15 k30) ∧ ∀ (n31 : Int), ∀ (x32 : Hp), ∀ (k33 : Nat), (J29 n31 x32 k33) → ((0 ≤ n14) ∧ (n14 < 2) ∧ ∃ a34, ∃ k35, ∃ k36, (x32.cell k1 (0 + n14.toNat * 1) = some (.slice a34 k35 k36)) ∧ bif hb (decide (n31 < Int.ofNat k35)) then (bif hb (decide (n31 < 40)) then ((0 ≤ n14) ∧ (n14 < 2) ∧ ∃ a37, ∃ k38, ∃ k39, (x32.cell k1 (0 + n14.toNat * 1) = some (.slice a37 k38 k39)) ∧ (0 ≤ n31) ∧ (n31 < Int.ofNat k38) ∧ ∃ k40, ∃ k41, (a37 = some ⟨k40, k41, none⟩) ∧ ∃ n42, (x32.cell k40 (k41 + n31.toNat * 6) = some (.int .i64 n42)) ∧ ∃ n43, (x32.cell k40 (k41 + n31.toNat * 6 + 1) = some (.int .i64 n43)) ∧ ∃ n44, (x32.cell k40 (k41 + n31.toNat * 6 + 1 + 1) = some (.int .i64 n44)) ∧ ∃ s45, (x32.cell k40 (k41 + n31.toNat * 6 + 1 + 1 + 1) = some (.string s45)) ∧ ∃ s46, (x32.cell k40 (k41 + n31.toNat * 6 + 1 + 1 + 1 + 1) = some (.string s46)) ∧ ∃ s47, (x32.cell k40 (k41 + n31.toNat * 6 + 1 + 1 + 1 + 1 + 1) = some (.string s47)) ∧ CallsH Tryz.prog 18 (#[.agg #[.int .i64 n42, .int .i64 n43, .int .i64 n44, .string s45, .string s46, .string s47]]) (x32) (fun v48 h49 => ∃ b50, (v48 = .bool b50) ∧ bif !b50 then (CallsH Tryz.prog 8 (#[]) (h49) (fun v51 h52 => ∃ b53, (v51 = .bool b53) ∧ Q (.bool b53) h52)) else (bif hb (n42 == 1) then (CallsH Tryz.prog 23 (#[.pointer a6, .string s45]) (h49) (fun v54 h55 => ∃ b56, (v54 = .bool b56) ∧ ∃ k57, (k57 < k33) ∧ J29 (IntKind.i64.wrap (n31 + 1)) h55 k57)) else (CallsH Tryz.prog 27 (#[.agg #[.int .i64 n42, .int .i64 n43, .int .i64 n44, .string s45, .string s46, .string s47]]) (h49) (fun v58 h59 => ∃ s60, (v58 = .string s60) ∧ (Gx.Sub h49 h59) ∧ CallsH Tryz.prog 22 (#[.pointer a6, .string s45, .string s60]) (h59) (fun v61 h62 => ∃ n63, (v61 = .int .i64 n63) ∧ ∃ k64, (k64 < k33) ∧ J29 (IntKind.i64.wrap (n31 + 1)) h62 k64)))))) else (J17 x32)) else (J17 x32))) else (CallsH Tryz.prog 13 (#[.pointer a6]) (x15) (fun v65 h66 => ∃ a67, ∃ k68, ∃ k69, (v65 = .slice a67 k68 k69) ∧ CallsH Tryz.prog 29 (#[.pointer a4, .int .i64 cut]) (h66) (fun v70 h71 => ∃ n72, (v70 = .int .i64 n72) ∧ bif hb (n72 != 0) then (Q (.bool false) h71) else (CallsH Tryz.prog 28 (#[.pointer a5]) (h71) (fun v73 h74 => ∃ n75, (v73 = .int .i64 n75) ∧ CallsH Tryz.prog 30 (#[.pointer a4, .slice picksa picksl picksc]) (h74) (fun v76 h77 => (v76 = .tuple #[]) ∧ CallsH Tryz.prog 31 (#[.pointer a4]) (h77) (fun v78 h79 => ∃ n80, (v78 = .int .i64 n80) ∧ bif hb (n80 != 0) then (Q (.bool false) h79) else (CallsH Tryz.prog 32 (#[.pointer a4, .int .i64 24]) (h79) (fun v81 h82 => ∃ a83, ∃ n84, (v81 = .tuple #[.pointer a83, .int .i64 n84]) ∧ CallsH Tryz.prog 33 (#[.pointer a83]) (h82) (fun v85 h86 => ∃ a87, ∃ n88, (v85 = .tuple #[.pointer a87, .int .i64 n88]) ∧ CallsH Tryz.prog 12 (#[.pointer a87, .int .i64 1]) (h86) (fun v89 h90 => ∃ a91, ∃ n92, (v89 = .tuple #[.pointer a91, .int .i64 n92]) ∧ bif hb (n92 != 0) then (Q (.bool false) h90) else (CallsH Tryz.prog 13 (#[.pointer a91]) (h90) (fun v93 h94 => ∃ a95, ∃ k96, ∃ k97, (v93 = .slice a95 k96 k97) ∧ CallsH Tryz.prog 34 (#[.slice a95 k96 k97, .slice a67 k68 k69]) (h94) (fun v98 h99 => ∃ b100, (v98 = .bool b100) ∧ bif b100 then (CallsH Tryz.prog 8 (#[]) (h99) (fun v101 h102 => ∃ b103, (v101 = .bool b103) ∧ Q (.bool b103) h102)) else (bif hb (n75 != 0) then (CallsH Tryz.prog 34 (#[.slice a95 k96 k97, .slice a11 k12 k13]) (h99) (fun v104 h105 => ∃ b106, (v104 = .bool b106) ∧ bif b106 then (CallsH Tryz.prog 8 (#[]) (h105) (fun v107 h108 => ∃ b109, (v107 = .bool b109) ∧ Q (.bool b109) h108)) else (Q (.bool false) h105))) else (Q (.bool false) h99))))))))))))))))))) ∧ bif a6.isNone then (bif !a6.isNone then (CallsH Tryz.prog 8 (#[]) (h3) (fun v110 h111 => ∃ b112, (v110 = .bool b112) ∧ Q (.bool b112) h111)) else (Q (.bool false) h3)) else (bif hb (decide (Int.ofNat picksl > 300)) then (bif !a6.isNone then (CallsH Tryz.prog 8 (#[]) (h3) (fun v113 h114 => ∃ b115, (v113 = .bool b115) ∧ Q (.bool b115) h114)) else (Q (.bool false) h3)) else (bif hb (decide (cut < 0)) then (bif !a6.isNone then (CallsH Tryz.prog 8 (#[]) (h3) (fun v116 h117 => ∃ b118, (v116 = .bool b118) ∧ Q (.bool b118) h117)) else (Q (.bool false) h3)) else (J7 h3)))))))
theorem law15_BtreeWhole.calls (ops_0a : Option Addr) (ops_0l ops_0c : Nat) (ops_1a : Option Addr) (ops_1l ops_1c : Nat) (cut : Int) (picksa : Option Addr) (picksl picksc : Nat) {h : Hp} {Q : Value → Hp → Prop} (hW : law15_BtreeWhole.W ops_0a ops_0l ops_0c ops_1a ops_1l ops_1c cut picksa picksl picksc h Q) : CallsH Tryz.prog 5 #[.agg #[.slice ops_0a ops_0l ops_0c, .slice ops_1a ops_1l ops_1c], .int .i64 cut, .slice picksa picksl picksc] h Q := by
  have hE_ : bodyW Tryz.prog law15_BtreeWhole.H Tryz.f5 [.val (.agg #[.slice ops_0a ops_0l ops_0c, .slice ops_1a ops_1l ops_1c]), .val (.int .i64 cut), .val (.slice picksa picksl picksc)] h Q = law15_BtreeWhole.W ops_0a ops_0l ops_0c ops_1a ops_1l ops_1c cut picksa picksl picksc h Q := by kernel_rfl
  rw [← hE_] at hW
  exact calls_of_body (H := law15_BtreeWhole.H) (args := [.val (.agg #[.slice ops_0a ops_0l ops_0c, .slice ops_1a ops_1l ops_1c]), .val (.int .i64 cut), .val (.slice picksa picksl picksc)]) Tryz.func5 Tryz.ntmps5 rfl rfl hW

def disk_Disk_Fuse.H : Hints := { N := 17, loc := (fun _ => false), join := (fun _ => none), loop := (fun _ => none), ifc := 0, order := (fun _ => none) }
def disk_Disk_Fuse.W (d_b d_o : Nat) (n : Int) (h : Hp) (Q : Value → Hp → Prop) : Prop :=
  (CallsH Tryz.prog 71 (#[.pointer (some ⟨d_b, d_o, none⟩), .int .i64 0]) (h) (fun v1 h2 => ∃ n3, (v1 = .int .i64 n3) ∧ bif hb (n3 != 0) then (Q (.int .i64 n3) h2) else (bif hb (decide (n < 0)) then (Q (.int .i64 9) h2) else ((StoreOk h2 d_b (d_o + 2) 1) ∧ Q (.int .i64 0) (h2.put d_b (d_o + 2) [.int .i64 n])))))
theorem disk_Disk_Fuse.calls (d_b d_o : Nat) (n : Int) {h : Hp} {Q : Value → Hp → Prop} (hW : disk_Disk_Fuse.W d_b d_o n h Q) : CallsH Tryz.prog 29 #[.pointer (some ⟨d_b, d_o, none⟩), .int .i64 n] h Q := by
  have hE_ : bodyW Tryz.prog disk_Disk_Fuse.H Tryz.f29 [.ptr d_b d_o, .val (.int .i64 n)] h Q = disk_Disk_Fuse.W d_b d_o n h Q := by kernel_rfl
  rw [← hE_] at hW
  exact calls_of_body (H := disk_Disk_Fuse.H) (args := [.ptr d_b d_o, .val (.int .i64 n)]) Tryz.func29 Tryz.ntmps29 rfl rfl hW

def disk_Disk_Fail.H : Hints := { N := 15, loc := (fun _ => false), join := (fun _ => none), loop := (fun _ => none), ifc := 0, order := (fun _ => none) }
def disk_Disk_Fail.W (d_b d_o : Nat) (picksa : Option Addr) (picksl picksc : Nat) (h : Hp) (Q : Value → Hp → Prop) : Prop :=
  (∀ (k1 : Nat), ((h k1 = none) → (CallsH Tryz.prog 72 (#[.pointer (some ⟨d_b, d_o, none⟩), .func (Fn.func 73) #[] #[.pointer (some ⟨k1, 0, none⟩)]]) (h.upd k1 (.cells #[.slice picksa picksl picksc] 59 (0, 0))) (fun v2 h3 => (v2 = .tuple #[]) ∧ (StoreOk h3 d_b (d_o + 4) 1) ∧ (StoreOk (h3.put d_b (d_o + 4) [.bool true]) d_b (d_o + 2) 1) ∧ Q (.tuple #[]) ((h3.put d_b (d_o + 4) [.bool true]).put d_b (d_o + 2) [.int .i64 0])))))
theorem disk_Disk_Fail.calls (d_b d_o : Nat) (picksa : Option Addr) (picksl picksc : Nat) {h : Hp} {Q : Value → Hp → Prop} (hW : disk_Disk_Fail.W d_b d_o picksa picksl picksc h Q) : CallsH Tryz.prog 30 #[.pointer (some ⟨d_b, d_o, none⟩), .slice picksa picksl picksc] h Q := by
  have hE_ : bodyW Tryz.prog disk_Disk_Fail.H Tryz.f30 [.ptr d_b d_o, .val (.slice picksa picksl picksc)] h Q = disk_Disk_Fail.W d_b d_o picksa picksl picksc h Q := by kernel_rfl
  rw [← hE_] at hW
  exact calls_of_body (H := disk_Disk_Fail.H) (args := [.ptr d_b d_o, .val (.slice picksa picksl picksc)]) Tryz.func30 Tryz.ntmps30 rfl rfl hW

def disk_Disk_Start.H : Hints := { N := 21, loc := (fun _ => false), join := (fun _ => none), loop := (fun _ => none), ifc := 0, order := (fun _ => none) }
def disk_Disk_Start.W (d_b d_o : Nat) (h : Hp) (Q : Value → Hp → Prop) : Prop :=
  (∃ b1, (h.cell d_b (d_o + 4) = some (.bool b1)) ∧ bif !b1 then (Q (.int .i64 8) h) else (∃ a2, ∃ k3, ∃ k4, (h.cell d_b (d_o + 1) = some (.slice a2 k3 k4)) ∧ bif hb (decide (Int.ofNat k3 > 0)) then (Q (.int .i64 8) h) else ((StoreOk h d_b (d_o + 4) 1) ∧ Q (.int .i64 0) (h.put d_b (d_o + 4) [.bool false]))))
theorem disk_Disk_Start.calls (d_b d_o : Nat) {h : Hp} {Q : Value → Hp → Prop} (hW : disk_Disk_Start.W d_b d_o h Q) : CallsH Tryz.prog 31 #[.pointer (some ⟨d_b, d_o, none⟩)] h Q := by
  have hE_ : bodyW Tryz.prog disk_Disk_Start.H Tryz.f31 [.ptr d_b d_o] h Q = disk_Disk_Start.W d_b d_o h Q := by kernel_rfl
  rw [← hE_] at hW
  exact calls_of_body (H := disk_Disk_Start.H) (args := [.ptr d_b d_o]) Tryz.func31 Tryz.ntmps31 rfl rfl hW

def disk_Disk_settle_1f73.H : Hints := { N := 32, loc := (fun i => Nat.beq i 5 || false), join := (fun _ => none), loop := (fun i => bif Nat.beq i 1 then some [.slot 11 (.int .i64)] else none), ifc := 0, order := (fun i => bif Nat.beq i 4 then some (some 9, false, [0, 1, 2, 3, 4, 5, 6, 7, 8, 9], .q 0 (.q 1 (.q 2 (.q 3 (.q 4 (.q 5 (.q 6 (.q 7 (.q 8 (.f 9 (.done) .e)))))))))) else none) }
def disk_Disk_settle_1f73.W (d_b d_o : Nat) (picked_0_b picked_0_o : Nat) (h : Hp) (Q : Value → Hp → Prop) : Prop :=
  (∃ a1, ∃ k2, ∃ k3, (h.cell d_b (d_o + 1) = some (.slice a1 k2 k3)) ∧ ∃ (J4 : Int → Hp → Nat → Prop), (∃ k5, J4 0 h k5) ∧ ∀ (n6 : Int), ∀ (x7 : Hp), ∀ (k8 : Nat), (J4 n6 x7 k8) → (bif hb (decide (n6 < Int.ofNat k2)) then ((0 ≤ n6) ∧ (n6 < Int.ofNat k2) ∧ ∃ k9, ∃ k10, (a1 = some ⟨k9, k10, none⟩) ∧ ∃ n11, (x7.cell k9 (k10 + n6.toNat * 2) = some (.int .i64 n11)) ∧ ∃ s12, (x7.cell k9 (k10 + n6.toNat * 2 + 1) = some (.string s12)) ∧ CallsH Tryz.prog 73 (#[.int .i64 n6, .pointer (some ⟨picked_0_b, picked_0_o, none⟩)]) (x7) (fun v13 h14 => ∃ b15, (v13 = .bool b15) ∧ bif b15 then (∃ a16, ∃ k17, ∃ k18, (h14.cell d_b d_o = some (.slice a16 k17 k18)) ∧ (0 ≤ n11) ∧ (n11 < Int.ofNat k17) ∧ ∃ k19, ∃ k20, (a16 = some ⟨k19, k20, none⟩) ∧ (StoreOk h14 k19 (k20 + n11.toNat * 1) 1) ∧ ∃ k21, (k21 < k8) ∧ J4 (IntKind.i64.wrap (n6 + 1)) (h14.put k19 (k20 + n11.toNat * 1) [.string s12]) k21) else (∃ k22, (k22 < k8) ∧ J4 (IntKind.i64.wrap (n6 + 1)) h14 k22))) else ((StoreOk x7 d_b (d_o + 1) 1) ∧ Q (.tuple #[]) (x7.put d_b (d_o + 1) [.slice none 0 0]))))
theorem disk_Disk_settle_1f73.calls (d_b d_o : Nat) (picked_0_b picked_0_o : Nat) {h : Hp} {Q : Value → Hp → Prop} (hW : disk_Disk_settle_1f73.W d_b d_o picked_0_b picked_0_o h Q) : CallsH Tryz.prog 72 #[.pointer (some ⟨d_b, d_o, none⟩), .func (.func 73) #[] #[.pointer (some ⟨picked_0_b, picked_0_o, none⟩)]] h Q := by
  have hE_ : bodyW Tryz.prog disk_Disk_settle_1f73.H Tryz.f72 [.ptr d_b d_o, .val (.func (.func 73) #[] #[.pointer (some ⟨picked_0_b, picked_0_o, none⟩)])] h Q = disk_Disk_settle_1f73.W d_b d_o picked_0_b picked_0_o h Q := by kernel_rfl
  rw [← hE_] at hW
  exact calls_of_body (H := disk_Disk_settle_1f73.H) (args := [.ptr d_b d_o, .val (.func (.func 73) #[] #[.pointer (some ⟨picked_0_b, picked_0_o, none⟩)])]) Tryz.func72 Tryz.ntmps72 rfl rfl hW

end Go.Proofs.YthbogjbcecmopaaGreatDoor
namespace Go.Proofs.YthbogjbcecmopaaGreatDoor
open Go.Gx
set_option maxRecDepth 100000
set_option linter.unusedVariables false

def disk_Disk_Fail_1.H : Hints := { N := 14, loc := (fun _ => false), join := (fun _ => none), loop := (fun _ => none), ifc := 0, order := (fun _ => none) }
def disk_Disk_Fail_1.W (i : Int) (p1_b p1_o : Nat) (h : Hp) (Q : Value → Hp → Prop) : Prop :=
  (∃ a1, ∃ k2, ∃ k3, (h.cell p1_b p1_o = some (.slice a1 k2 k3)) ∧ bif hb (decide (i < Int.ofNat k2)) then (∃ a4, ∃ k5, ∃ k6, (h.cell p1_b p1_o = some (.slice a4 k5 k6)) ∧ (0 ≤ i) ∧ (i < Int.ofNat k5) ∧ ∃ k7, ∃ k8, (a4 = some ⟨k7, k8, none⟩) ∧ ∃ b9, (h.cell k7 (k8 + i.toNat * 1) = some (.bool b9)) ∧ Q (.bool b9) h) else (Q (.bool false) h))
theorem disk_Disk_Fail_1.calls (i : Int) (p1_b p1_o : Nat) {h : Hp} {Q : Value → Hp → Prop} (hW : disk_Disk_Fail_1.W i p1_b p1_o h Q) : CallsH Tryz.prog 73 #[.int .i64 i, .pointer (some ⟨p1_b, p1_o, none⟩)] h Q := by
  have hE_ : bodyW Tryz.prog disk_Disk_Fail_1.H Tryz.f73 [.val (.int .i64 i), .ptr p1_b p1_o] h Q = disk_Disk_Fail_1.W i p1_b p1_o h Q := by kernel_rfl
  rw [← hE_] at hW
  exact calls_of_body (H := disk_Disk_Fail_1.H) (args := [.val (.int .i64 i), .ptr p1_b p1_o]) Tryz.func73 Tryz.ntmps73 rfl rfl hW

end Go.Proofs.YthbogjbcecmopaaGreatDoor
namespace Go.Proofs.YthbogjbcecmopaaGreatDoor
open Go.Gx
set_option maxRecDepth 100000
set_option linter.unusedVariables false

variable {h : Hp} {db : Nat} {S : Nat → Prop} {D : Dk} {K : Value → Hp → Prop}
theorem fuse_spec (H : DkAt h db S D) (hd : D.down = false) (hl : 0 < D.l.length) (c : Nat) (hc : c < 9223372036854775808) (hK : ∀ h', DkAt h' db S { D with fuse := c } → Step S h S h' → K (.int .i64 0) h') :
    CallsH Tryz.prog disk_Disk_Fuse.id #[.pointer (some ⟨db, 0, none⟩), .int .i64 (c : Nat)] h K := by
  apply disk_Disk_Fuse.calls
  unfold disk_Disk_Fuse.W
  refine use_spec H 0 ⟨_, rfl, split_ne (fun e => absurd (Dk.use_ok (i := 0) hd hl) e) fun _ => split_dec (fun e => by omega) fun _ => ?_⟩
  obtain ⟨la, lc, wa, wc, n, h1, h2, h3, h4, h5, h6⟩ := H.at_
  have kd : Keep (fun c => c = db) h (h.put db (0 + 2) [.int .i64 (c : Nat)]) := Keep.put _ _ _ _ rfl
  have B : Blk (h.put db (0 + 2) [.int .i64 (c : Nat)]) db 128 [.slice la D.l.length lc, .slice wa D.ws.length wc, .int .i64 (c : Nat), .int .i64 n, .bool D.down] := h1.put 2 _
  exact ⟨h1.store (by show 2 + 1 ≤ 5; omega), hK _ ⟨⟨la, lc, wa, wc, n, B, h2.keep kd fun c hc e => (h4 c hc).1 e, h3.keep kd fun c hc e => h5 c hc e, h4, h5, h6⟩, H.idx, H.len, H.lsz, H.wlen, hc⟩ ⟨kd.mono fun c hc => (h6 c).2 (.inl hc), fun c hc => .inl hc⟩⟩
theorem start_spec (H : DkAt h db S D) (hd : D.down = true) (hw : D.ws = []) (hK : ∀ h', DkAt h' db S { D with down := false } → Step S h S h' → K (.int .i64 0) h') : CallsH Tryz.prog disk_Disk_Start.id #[.pointer (some ⟨db, 0, none⟩)] h K := by
  apply disk_Disk_Start.calls
  unfold disk_Disk_Start.W
  obtain ⟨la, lc, wa, wc, n, h1, h2, h3, h4, h5, h6⟩ := H.at_
  have kd : Keep (fun c => c = db) h (h.put db (0 + 4) [.bool false]) := Keep.put _ _ _ _ rfl
  have B : Blk (h.put db (0 + 4) [.bool false]) db 128 [.slice la D.l.length lc, .slice wa D.ws.length wc, .int .i64 (D.fuse : Nat), .int .i64 n, .bool false] := h1.put 4 _
  refine ⟨_, h1.cell' 4 rfl, split_not (fun e => by rw [hd] at e; cases e) fun _ => ⟨_, _, _, h1.cell' 1 rfl, split_dec (fun e => by
    have e : (D.ws.length : Int) > 0 := e
    rw [hw] at e; exact absurd e (by decide)) fun _ => ⟨h1.store (by show 4 + 1 ≤ 5; omega), hK _ ⟨⟨la, lc, wa, wc, n, B, h2.keep kd fun c hc e => (h4 c hc).1 e, h3.keep kd fun c hc e => h5 c hc e, h4, h5, h6⟩, H.idx, H.len, H.lsz, H.wlen, H.fuse⟩ ⟨kd.mono fun c hc => (h6 c).2 (.inl hc), fun c hc => .inl hc⟩⟩⟩⟩
theorem picked_spec {k : Nat} {pa : Option Addr} {pc : Nat} {ps : List Bool} {i : Nat} (B : h.cell k 0 = some (.slice pa ps.length pc)) (R : RowAt boolC 1 h pa ps) (hK : ∀ b, K (.bool b) h) : CallsH Tryz.prog disk_Disk_Fail_1.id #[.int .i64 (i : Nat), .pointer (some ⟨k, 0, none⟩)] h K := by
  apply disk_Disk_Fail_1.calls
  unfold disk_Disk_Fail_1.W
  refine ⟨_, _, _, B, split_dec (fun g => ?_) fun _ => hK _⟩
  have g : i < ps.length := by have : (i : Int) < (ps.length : Int) := g; omega
  obtain ⟨b, o, ea, hc⟩ := R.get boolC_len (by decide) (List.getElem?_eq_getElem g)
  exact ⟨_, _, _, B, by omega, by show (i : Int) < (ps.length : Int); omega, b, o, ea, _, by rw [Int.toNat_natCast]; exact hc 0 _ rfl, hK _⟩
set_option maxHeartbeats 1000000 in
theorem fail_spec (H : DkAt h db S D) {pa : Option Addr} {pc : Nat} {ps : List Bool} (R : RowAt boolC 1 h pa ps) (hpa : ps = [] ∨ ∀ c, blkOf pa c → ¬ S c)
    (hK : ∀ h' S' W, W.Sublist D.ws → DkAt h' db S' ⟨settleL D.l W, [], 0, true⟩ → Step S h S' h' → K (.tuple #[]) h') : CallsH Tryz.prog disk_Disk_Fail.id #[.pointer (some ⟨db, 0, none⟩), .slice pa ps.length pc] h K := by
  apply disk_Disk_Fail.calls
  unfold disk_Disk_Fail.W
  intro k1 hk1
  have s1 := Sub.upd hk1 (.cells #[.slice pa ps.length pc] 59 (0, 0))
  have Bk : Blk (h.upd k1 (.cells #[.slice pa ps.length pc] 59 (0, 0))) k1 59 [.slice pa ps.length pc] := Blk.new _ _ _ _
  have R1 := R.sub s1
  obtain ⟨la, lc, wa, wc, n, h1, h2, h3, h4, h5, h6⟩ := H.at_
  have nla : ∀ c, blkOf la c → c ≠ k1 := fun c hc e => Own.in_heap h2 hc (e ▸ hk1)
  have h1' := h1.sub s1
  have h2' := h2.sub s1
  have h3' := h3.sub s1
  generalize h.upd k1 (.cells #[.slice pa ps.length pc] 59 (0, 0)) = y at s1 Bk R1 h1' h2' h3'
  have hw := H.wlen
  refine disk_Disk_settle_1f73.calls db 0 k1 0 ?_
  unfold disk_Disk_settle_1f73.W
  refine ⟨_, _, _, h1'.cell' 1 rfl, fun k x m => ∃ (j : Nat) (W : List (Nat × ByteArray)), k = (j : Int) ∧ j ≤ D.ws.length ∧ m = D.ws.length - j ∧ W.Sublist (D.ws.take j) ∧ Keep (blkOf la) y x ∧ OwnR strC 1 x 9 la lc (settleL D.l W), ⟨_, 0, [], rfl, Nat.zero_le _, rfl, List.nil_sublist _, Keep.refl _ _, h2'⟩, ?_⟩
  rintro k x m ⟨j, W, rfl, hj, rfl, hW, kx, ox⟩
  have Bx := h1'.keep kx fun hc => (h4 _ hc).1 rfl
  have wx := h3'.keep kx fun c hc hc' => (h4 c hc').2 hc
  have Bkx := Bk.keep kx fun hc => nla _ hc rfl
  have Rx : RowAt boolC 1 x pa ps := by
    rcases hpa with e | hpa
    · rw [e]; exact RowAt.nil _ _
    · exact R1.keep kx fun c hc hc2 => hpa c hc ((h6 c).2 (.inr (.inl hc2)))
  have hsl := settleL_len W D.l
  have hmem : ∀ w ∈ W, w ∈ D.ws := fun w hw => List.mem_of_mem_take (hW.subset hw)
  refine split_dec (fun g => ?_) fun g => ?_
  · have g : j < D.ws.length := by have : (j : Int) < (D.ws.length : Int) := g; omega
    have hw2 : D.ws[j]? = some D.ws[j] := List.getElem?_eq_getElem g
    have hwi := (H.idx D.ws[j] (List.getElem_mem g)).1
    generalize D.ws[j] = w at hw2 hwi
    obtain ⟨b2, o2, ea2, hc2⟩ := wx.row.get wrC_len (by decide) hw2
    have htk : D.ws.take (j + 1) = D.ws.take j ++ [w] := by rw [List.take_add_one, hw2]; rfl
    have next : IntKind.i64.wrap ((j : Int) + 1) = ((j + 1 : Nat) : Int) := by rw [wid (by omega) (by omega)]; omega
    have e : 0 + w.1 * 1 + 0 = 0 + (w.1 : Int).toNat * 1 := by rw [Int.toNat_natCast]; omega
    refine ⟨by omega, by show (j : Int) < (D.ws.length : Int); omega, b2, o2, ea2, _, hc2 0 _ rfl, _, hc2 1 _ rfl, picked_spec (Bkx.cell' 0 rfl) Rx fun b => ⟨_, rfl, split_cond (fun _ => ?_) fun _ => ?_⟩⟩
    · obtain ⟨b, eb, so, op⟩ := ox.put strC_len (i := w.1) (j := 0) (x := (settleL D.l W)[w.1]'(by omega)) (y := w.2) (vs := [.string w.2]) (List.getElem?_eq_getElem (by omega)) (by decide) (Nat.le_refl 1) rfl
      refine ⟨_, _, _, Bx.cell' 0 rfl, by omega, by show (w.1 : Int) < (D.l.length : Int); omega, b, 0, eb, by rw [← e]; exact so, ?_⟩
      rw [← e]
      refine ⟨D.ws.length - (j + 1), by omega, j + 1, W ++ [w], next, by omega, rfl, ?_, kx.trans (Keep.put _ _ _ _ ⟨0, none, eb⟩), ?_⟩
      · rw [htk]; exact hW.append (List.Sublist.refl _)
      · rw [settle_append]; exact op
    · refine ⟨D.ws.length - (j + 1), by omega, j + 1, W, next, by omega, rfl, ?_, kx, ox⟩
      rw [htk]; exact hW.trans (List.sublist_append_left _ _)
  · have hW2 : W.Sublist D.ws := hW.trans (List.take_sublist _ _)
    have B2 : Blk (x.put db (0 + 1) [.slice none 0 0]) db 128 [.slice la D.l.length lc, .slice none 0 0, .int .i64 (D.fuse : Nat), .int .i64 n, .bool D.down] := Bx.put 1 _
    have B3 : Blk ((x.put db (0 + 1) [.slice none 0 0]).put db (0 + 4) [.bool true]) db 128 [.slice la D.l.length lc, .slice none 0 0, .int .i64 (D.fuse : Nat), .int .i64 n, .bool true] := B2.put 4 _
    have B4 : Blk (((x.put db (0 + 1) [.slice none 0 0]).put db (0 + 4) [.bool true]).put db (0 + 2) [.int .i64 0]) db 128 [.slice la D.l.length lc, .slice none 0 0, .int .i64 ((0 : Nat) : Int), .int .i64 n, .bool true] := B3.put 2 _
    have kp : ∀ (z : Hp) (o : Nat) (vs : List Value), Keep (fun c => c = db) z (z.put db o vs) := fun z o vs => Keep.put _ z o vs rfl
    have kd := ((kp x (0 + 1) [.slice none 0 0]).trans (kp _ (0 + 4) [.bool true])).trans (kp _ (0 + 2) [.int .i64 0])
    refine ⟨Bx.store (by show 1 + 1 ≤ 5; omega), rfl, B2.store (by show 4 + 1 ≤ 5; omega), B3.store (by show 2 + 1 ≤ 5; omega), hK _ (fun c => c = db ∨ blkOf la c) W hW2 ⟨⟨la, lc, none, 0, n, ?_, ox.keep kd fun c hc e => (h4 c hc).1 e, OwnR.nil _ _, fun c hc => ⟨(h4 c hc).1, fun ⟨o, s, e⟩ => by cases e⟩, (fun c ⟨o, s, e⟩ => by cases e), fun c => ⟨fun hc => hc.imp id .inl, fun hc => hc.imp id fun hc => hc.elim id fun ⟨o, s, e⟩ => by cases e⟩⟩, (fun w hw => by cases hw), ?_, settleL_sz _ _ H.lsz (fun w hw => (H.idx w (hmem w hw)).2), Nat.zero_le _, by show (0 : Nat) < _; decide⟩ ⟨?_, fun c hc => .inl ((h6 c).2 (hc.imp id .inl))⟩⟩
    · show Blk _ db 128 [.slice la (settleL D.l W).length lc, .slice none 0 0, .int .i64 ((0 : Nat) : Int), .int .i64 n, .bool true]
      rw [hsl]; exact B4
    · show (settleL D.l W).length ≤ 2048
      rw [hsl]; exact H.len
    · exact ((s1.keep S).trans (kx.mono fun c hc => (h6 c).2 (.inr (.inl hc)))).trans (kd.mono fun c hc => (h6 c).2 (.inl hc))
end Go.Proofs.YthbogjbcecmopaaGreatDoor
namespace Go.Gx

theorem bl_irrefl : ∀ x : List UInt8, Op.bytesLess x x = false
  | [] => rfl
  | a :: x => by
    have h1 : ¬ a < a := UInt8.lt_irrefl a
    simp only [Op.bytesLess, bl_irrefl x]
    simp [h1]
theorem bl_trans : ∀ {x y z : List UInt8}, Op.bytesLess x y = true → Op.bytesLess y z = true → Op.bytesLess x z = true
  | [], [], _, h, _ => by cases h
  | _ :: _, [], _, h, _ => by cases h
  | _, _ :: _, [], _, h => by cases h
  | [], _ :: _, _ :: _, _, _ => rfl
  | a :: x, b :: y, c :: z, h1, h2 => by
    simp only [Op.bytesLess, Bool.or_eq_true, Bool.and_eq_true, decide_eq_true_eq, beq_iff_eq] at *
    rcases h1 with h1 | ⟨e1, h1⟩
    · rcases h2 with h2 | ⟨e2, h2⟩
      · exact .inl (UInt8.lt_trans h1 h2)
      · subst e2; exact .inl h1
    · subst e1
      rcases h2 with h2 | ⟨e2, h2⟩
      · exact .inl h2
      · exact .inr ⟨e2, bl_trans h1 h2⟩
theorem bl_total : ∀ {x y : List UInt8}, Op.bytesLess x y = false → Op.bytesLess y x = false → x = y
  | [], [], _, _ => rfl
  | [], _ :: _, h, _ => by cases h
  | _ :: _, [], _, h => by cases h
  | a :: x, b :: y, h1, h2 => by
    simp only [Op.bytesLess, Bool.or_eq_false_iff, Bool.and_eq_false_iff, decide_eq_false_iff_not] at *
    have e : a = b := by
      have h3 := UInt8.not_lt.1 h1.1
      have h4 := UInt8.not_lt.1 h2.1
      exact UInt8.le_antisymm h4 h3
    subst e
    have h3 := h1.2
    have h4 := h2.2
    simp at h3 h4
    rw [bl_total h3 h4]
def blt (s t : ByteArray) : Bool := Op.bytesLess s.data.toList t.data.toList
theorem bltS_val (s t : ByteArray) : bltS s t = blt s t := by unfold bltS blt; rw [hb_eq, toList_eq_data, toList_eq_data]
theorem blt_irrefl (s : ByteArray) : blt s s = false := bl_irrefl _
theorem blt_trans {s t u : ByteArray} (h1 : blt s t = true) (h2 : blt t u = true) : blt s u = true := bl_trans h1 h2
theorem blt_total {s t : ByteArray} (h1 : blt s t = false) (h2 : blt t s = false) : s = t := bytes_ext (bl_total h1 h2)
theorem blt_ne {s t : ByteArray} (h : blt s t = true) : s ≠ t := fun e => by rw [e, blt_irrefl] at h; cases h
theorem blt_asymm {s t : ByteArray} (h : blt s t = true) : blt t s = false := by
  cases e : blt t s with
  | false => rfl
  | true => have := blt_trans h e; rw [blt_irrefl] at this; cases this

abbrev KV := ByteArray × ByteArray
def kvCells (L : List KV) : List Value := L.flatMap fun p => [.string p.1, .string p.2]
theorem kvCells_cons (p : KV) (L : List KV) : kvCells (p :: L) = .string p.1 :: .string p.2 :: kvCells L := rfl
theorem kvCells_length : ∀ L : List KV, (kvCells L).length = L.length * 2
  | [] => rfl
  | p :: L => by rw [kvCells_cons, List.length_cons, List.length_cons, kvCells_length L, List.length_cons]; omega
theorem kvCells_get : ∀ (L : List KV) (i : Nat) (p : KV), L[i]? = some p → (kvCells L)[i * 2]? = some (.string p.1) ∧ (kvCells L)[i * 2 + 1]? = some (.string p.2)
  | [], _, _, h => by simp at h
  | q :: L, 0, p, h => by
    simp at h; subst h; exact ⟨rfl, rfl⟩
  | q :: L, i + 1, p, h => by
    have := kvCells_get L i p (by simpa using h)
    rw [kvCells_cons, show (i + 1) * 2 = i * 2 + 1 + 1 by omega]
    exact ⟨by simpa using this.1, by simpa using this.2⟩
def kvAt (k : ByteArray) : List KV → Nat
  | [] => 0
  | p :: L => if blt p.1 k = true then kvAt k L + 1 else 0
def kvIs (k : ByteArray) (L : List KV) : Bool :=
  match L[kvAt k L]? with
  | some p => decide (p.1 = k)
  | none => false
theorem kvAt_le (k : ByteArray) : ∀ L : List KV, kvAt k L ≤ L.length
  | [] => Nat.le_refl _
  | p :: L => by unfold kvAt; split <;> simp [kvAt_le k L]
theorem kvAt_lt {k : ByteArray} {L : List KV} (h : kvIs k L = true) : kvAt k L < L.length := by
  unfold kvIs at h
  split at h
  · rename_i p hp; exact (List.getElem?_eq_some_iff.1 hp).1
  · cases h
theorem kvAt_before (k : ByteArray) : ∀ (L : List KV) (i : Nat) (p : KV), L[i]? = some p → i < kvAt k L → blt p.1 k = true
  | [], _, _, h, _ => by simp at h
  | q :: L, i, p, h, hi => by
    unfold kvAt at hi
    split at hi
    · rename_i hq
      cases i with
      | zero => simp at h; subst h; exact hq
      | succ i => exact kvAt_before k L i p (by simpa using h) (by omega)
    · omega
theorem kvAt_at (k : ByteArray) : ∀ (L : List KV) (p : KV), L[kvAt k L]? = some p → blt p.1 k = false
  | [], _, h => by simp at h
  | q :: L, p, h => by
    unfold kvAt at h
    split at h
    · exact kvAt_at k L p (by simpa using h)
    · rename_i hq
      simp at h; subst h; simpa using hq
def kvGet (k : ByteArray) (L : List KV) : Option ByteArray := if kvIs k L then (L[kvAt k L]?).map (·.2) else none
def kvPut (k v : ByteArray) (L : List KV) : List KV := L.take (kvAt k L) ++ (k, v) :: L.drop (if kvIs k L then kvAt k L + 1 else kvAt k L)
def kvDrop (k : ByteArray) (L : List KV) : List KV := if kvIs k L then L.take (kvAt k L) ++ L.drop (kvAt k L + 1) else L
def kvIn (from_ upto : ByteArray) (p : KV) : Bool := !blt p.1 from_ && (blt p.1 upto || decide (p.1 = upto))
def kvRange (from_ upto : ByteArray) (most : Nat) (L : List KV) : List KV := (L.filter (kvIn from_ upto)).take most
def kvSorted (L : List KV) : Prop := L.Pairwise fun p q => blt p.1 q.1 = true
theorem kvIs_split {k : ByteArray} {L : List KV} (h : kvIs k L = true) : ∃ w, L = L.take (kvAt k L) ++ (k, w) :: L.drop (kvAt k L + 1) ∧ L[kvAt k L]? = some (k, w) := by
  have hl := kvAt_lt h
  unfold kvIs at h
  rw [List.getElem?_eq_getElem hl] at h
  have hk : L[kvAt k L].1 = k := of_decide_eq_true h
  have hp : L[kvAt k L] = (k, L[kvAt k L].2) := Prod.ext hk rfl
  refine ⟨L[kvAt k L].2, ?_, ?_⟩
  · conv => lhs; rw [← List.take_append_drop (kvAt k L) L, List.drop_eq_getElem_cons hl]
    rw [← hp]
  · rw [List.getElem?_eq_getElem hl, ← hp]
theorem kvSorted_inj {L : List KV} (hs : kvSorted L) {p q : KV} (hp : p ∈ L) (hq : q ∈ L) (h : p.1 = q.1) : p = q := by
  induction L with
  | nil => cases hp
  | cons r L ih =>
    obtain ⟨h1, h2⟩ := List.pairwise_cons.1 hs
    rcases List.mem_cons.1 hp with rfl | hp
    · rcases List.mem_cons.1 hq with rfl | hq
      · rfl
      · exact absurd h (blt_ne (h1 q hq))
    · rcases List.mem_cons.1 hq with rfl | hq
      · exact absurd h.symm (blt_ne (h1 p (by assumption)))
      · exact ih h2 hp hq
theorem kvIs_iff {L : List KV} (hs : kvSorted L) (k : ByteArray) : kvIs k L = true ↔ ∃ v, (k, v) ∈ L := by
  constructor
  · intro h
    obtain ⟨w, _, h2⟩ := kvIs_split h
    exact ⟨w, List.mem_of_getElem? h2⟩
  · rintro ⟨v, hv⟩
    induction L with
    | nil => cases hv
    | cons r L ih =>
      obtain ⟨h1, h2⟩ := List.pairwise_cons.1 hs
      rcases List.mem_cons.1 hv with rfl | hv
      · unfold kvIs kvAt
        rw [if_neg (by rw [blt_irrefl]; decide)]
        simp
      · have := ih h2 hv
        unfold kvIs kvAt
        rw [if_pos (h1 _ hv)]
        unfold kvIs at this
        simpa using this
theorem kvGet_iff {L : List KV} (hs : kvSorted L) (k v : ByteArray) : kvGet k L = some v ↔ (k, v) ∈ L := by
  unfold kvGet
  constructor
  · intro h
    split at h
    · rename_i hk
      obtain ⟨w, _, h2⟩ := kvIs_split hk
      rw [h2] at h
      simp at h; subst h
      exact List.mem_of_getElem? h2
    · cases h
  · intro h
    have hk := (kvIs_iff hs k).2 ⟨v, h⟩
    obtain ⟨w, _, h2⟩ := kvIs_split hk
    rw [if_pos hk, h2]
    have := kvSorted_inj hs h (List.mem_of_getElem? h2) rfl
    simp at this
    simp [this]
theorem kvAt_after {L : List KV} (hs : kvSorted L) (k : ByteArray) {p : KV} (hp : p ∈ L.drop (if kvIs k L then kvAt k L + 1 else kvAt k L)) : blt k p.1 = true := by
  have key : ∀ {i : Nat} {q : KV}, L[i]? = some q → kvAt k L < i → blt k q.1 = true := by
    intro i q hq hi
    have hl : kvAt k L < L.length := by have := (List.getElem?_eq_some_iff.1 hq).1; omega
    have h0 := kvAt_at k L _ (List.getElem?_eq_getElem hl)
    have h1 : blt L[kvAt k L].1 q.1 = true := by
      obtain ⟨h2, h3⟩ := List.getElem?_eq_some_iff.1 hq
      rw [← h3]
      exact List.pairwise_iff_getElem.1 hs _ _ hl h2 hi
    cases e : blt k L[kvAt k L].1 with
    | true => exact blt_trans e h1
    | false => rw [blt_total e h0]; exact h1
  obtain ⟨j, hj⟩ := List.mem_iff_getElem?.1 hp
  rw [List.getElem?_drop] at hj
  split at hj
  · exact key hj (by omega)
  · rename_i hk
    by_cases e : j = 0
    · subst e
      rw [Nat.add_zero] at hj
      have h0 := kvAt_at k L _ hj
      cases e2 : blt k p.1 with
      | true => rfl
      | false =>
        exfalso; apply hk
        unfold kvIs; rw [hj]
        exact decide_eq_true (blt_total e2 h0).symm
    · exact key hj (by omega)
theorem kvPut_sorted {L : List KV} (hs : kvSorted L) (k v : ByteArray) : kvSorted (kvPut k v L) := by
  unfold kvPut kvSorted
  rw [List.pairwise_append]
  refine ⟨List.Pairwise.sublist (List.take_sublist _ _) hs, ?_, ?_⟩
  · rw [List.pairwise_cons]
    exact ⟨fun p hp => kvAt_after hs k hp, List.Pairwise.sublist (List.drop_sublist _ _) hs⟩
  · intro p hp q hq
    have hpk : blt p.1 k = true := by
      obtain ⟨j, hj⟩ := List.mem_iff_getElem?.1 hp
      rw [List.getElem?_take] at hj
      split at hj
      · rename_i hlt; exact kvAt_before k L j p hj hlt
      · cases hj
    rcases List.mem_cons.1 hq with rfl | hq
    · exact hpk
    · exact blt_trans hpk (kvAt_after hs k hq)
theorem kvDrop_sorted {L : List KV} (hs : kvSorted L) (k : ByteArray) : kvSorted (kvDrop k L) := by
  unfold kvDrop
  split
  · rename_i hk
    obtain ⟨w, h1, _⟩ := kvIs_split hk
    have : (L.take (kvAt k L) ++ L.drop (kvAt k L + 1)).Sublist L := by
      conv => rhs; rw [h1]
      exact List.Sublist.append (List.Sublist.refl _) (List.sublist_cons_self _ _)
    exact List.Pairwise.sublist this hs
  · exact hs
end Go.Gx
namespace Go.Proofs.YthbogjbcecmopaaGreatDoor
open Go.Gx
set_option maxRecDepth 100000
set_option linter.unusedVariables false

theorem fnI {P : Program} {g : Nat} {cap args : List Value} {h : Hp} {Q : Value → Hp → Prop} (ok : funcOk P g = true) (H : CallsH P g (args ++ cap).toArray h Q) : FnH P (.func (.func g) #[] cap.toArray) args h Q := ⟨g, [], cap, rfl, ok, H⟩
variable {h : Hp} {K : Value → Hp → Prop}
structure En where
  key : ByteArray
  val : ByteArray
  kid : Nat
def En.kv (e : En) : KV := (e.key, e.val)
def enC (e : En) : List Value := [.string e.key, .string e.val, .int .i64 (e.kid : Nat)]
theorem enC_len (e : En) : (enC e).length = 3 := rfl
theorem enC_plain (e : En) : plainP (enC e) := plainP_of rfl
theorem appTEn : AppT Tryz.prog 100 3 40 := AppT.of (by kernel_rfl)
structure Nd where
  leaf : Bool
  first : Nat
  l : List En
def Nd.kind (n : Nd) : Nat := if n.leaf then 1 else 2
def Nd.kv (n : Nd) : List KV := n.l.map En.kv
def Nd.kids (n : Nd) : List Nat := n.first :: n.l.map En.kid
def ndC (nd : Nd) (a : Option Addr) (c : Nat) : List Value := [.int .i64 (nd.kind : Nat), .int .i64 (nd.first : Nat), .slice a nd.l.length c]
structure NdEx (h : Hp) (k : Nat) (a : Option Addr) (c : Nat) (nd : Nd) : Prop where
  blk : Blk h k 97 (ndC nd a c)
  row : RowAt enC 3 h a nd.l
  le : nd.l.length ≤ c
  ne : ∀ b, blkOf a b → b ≠ k
theorem NdEx.sub {h' : Hp} {k : Nat} {a : Option Addr} {c : Nat} {nd : Nd} (N : NdEx h k a c nd) (s : Sub h h') : NdEx h' k a c nd := ⟨N.blk.sub s, N.row.sub s, N.le, N.ne⟩
theorem NdEx.out {S' : Nat → Prop} {h' : Hp} {k : Nat} {a : Option Addr} {c : Nat} {nd : Nd} (N : NdEx h k a c nd) (s : Keep S' h h') (h1 : ¬ S' k) (h2 : ∀ b, blkOf a b → ¬ S' b) : NdEx h' k a c nd := ⟨N.blk.keep s h1, N.row.keep s h2, N.le, N.ne⟩
structure NdOw (h : Hp) (k : Nat) (a : Option Addr) (c : Nat) (nd : Nd) : Prop where
  ex : NdEx h k a c nd
  own : OwnR enC 3 h 100 a c nd.l
theorem NdOw.mk' {k : Nat} {a : Option Addr} {c : Nat} {nd : Nd} (B : Blk h k 97 (ndC nd a c)) (O : OwnR enC 3 h 100 a c nd.l) (ne : ∀ b, blkOf a b → b ≠ k) : NdOw h k a c nd := ⟨⟨B, O.row, O.le, ne⟩, O⟩
theorem NdOw.sub {h' : Hp} {k : Nat} {a : Option Addr} {c : Nat} {nd : Nd} (N : NdOw h k a c nd) (s : Sub h h') : NdOw h' k a c nd := ⟨N.ex.sub s, N.own.sub s⟩
theorem NdOw.out {S' : Nat → Prop} {h' : Hp} {k : Nat} {a : Option Addr} {c : Nat} {nd : Nd} (N : NdOw h k a c nd) (s : Keep S' h h') (h1 : ¬ S' k) (h2 : ∀ b, blkOf a b → ¬ S' b) : NdOw h' k a c nd := ⟨N.ex.out s h1 h2, N.own.keep s h2⟩
structure NdNew (h h' : Hp) (k : Nat) (nd : Nd) : Prop where
  sub : Sub h h'
  k0 : h k = none
  ow : ∃ a c, NdOw h' k a c nd ∧ ∀ b, blkOf a b → h b = none
theorem NdNew.ex {h h' : Hp} {k : Nat} {nd : Nd} (N : NdNew h h' k nd) : ∃ a c, NdEx h' k a c nd ∧ ∀ b, blkOf a b → h b = none := by
  obtain ⟨a, c, e, f⟩ := N.ow
  exact ⟨a, c, e.ex, f⟩
theorem NdNew.mono {h1 h' h2 : Hp} {k : Nat} {nd : Nd} (N : NdNew h1 h' k nd) (s : Sub h h1) (s2 : Sub h' h2) : NdNew h h2 k nd := by
  obtain ⟨a, c, e, f⟩ := N.ow
  exact ⟨s.trans (N.sub.trans s2), s.none N.k0, a, c, e.sub s2, fun b hb => s.none (f b hb)⟩
section
variable {k : Nat} {a : Option Addr} {c : Nat} {nd : Nd} (N : NdEx h k a c nd)
include N
theorem NdEx.c0 : h.cell k 0 = some (.int .i64 (nd.kind : Nat)) := N.blk.cell' 0 rfl
theorem NdEx.c1 : h.cell k 1 = some (.int .i64 (nd.first : Nat)) := N.blk.cell' 1 rfl
theorem NdEx.c2 : h.cell k 2 = some (.slice a nd.l.length c) := N.blk.cell' 2 rfl
theorem NdEx.get {i : Nat} {e : En} (he : nd.l[i]? = some e) : ∃ b o, a = some ⟨b, o, none⟩ ∧ h.cell b (o + i * 3) = some (.string e.key) ∧ h.cell b (o + i * 3 + 1) = some (.string e.val) ∧ h.cell b (o + i * 3 + 2) = some (.int .i64 (e.kid : Nat)) := by
  obtain ⟨b, o, ea, hc⟩ := RowAt.get enC_len (by decide) N.row he
  exact ⟨b, o, ea, hc 0 _ rfl, by have := hc 1 (.string e.val) rfl; exact this, by have := hc 2 (.int .i64 (e.kid : Nat)) rfl; exact this⟩
end
def twoN (b : ByteArray) (i : Nat) : Nat := byteN b (i + 1) + byteN b i * 2 ^ 8
theorem twoN_lt (b : ByteArray) (i : Nat) : twoN b i < 65536 := by
  have := byteN_lt b i
  have := byteN_lt b (i + 1)
  unfold twoN
  omega
theorem two_spec {b : ByteArray} {i : Nat} (hb : b.size < 2147483648) (hi : i + 1 < b.size) (hK : K (.int .i64 (twoN b i : Nat)) h) : CallsH Tryz.prog btree_two.id #[.string b, .int .i64 (i : Nat)] h K := by
  apply btree_two.calls
  unfold btree_two.W
  have e1 : IntKind.i64.wrap ((i : Int) + 1) = ((i + 1 : Nat) : Int) := by rw [wid (by omega) (by omega)]; omega
  have b0 := byteN_lt b i
  have b1 := byteN_lt b (i + 1)
  have sz : Int.ofNat b.size = (b.size : Int) := rfl
  rw [e1, sz]
  refine ⟨by omega, by omega, by decide, by omega, by omega, ?_⟩
  rw [Int.toNat_natCast, Int.toNat_natCast, byteAt_N, byteAt_N, widN (byteN b i) (by omega), widN (byteN b (i + 1)) (by omega), show ((8 : Int)) = ((8 : Nat) : Int) from rfl, shlN _ _ _ (by decide), widN (byteN b i * 2 ^ 8) (by omega), orN' _ _ _ _ (by omega) (by show _ < 2 ^ 64; omega), widN (byteN b (i + 1) + byteN b i * 2 ^ 8) (by omega)]
  exact hK
def may (k v : ByteArray) : Bool := decide (1 ≤ k.size ∧ k.size ≤ 64 ∧ v.size ≤ 400)
theorem may_spec (k v : ByteArray) (hK : K (.bool (may k v)) h) : CallsH Tryz.prog btree_may.id #[.string k, .string v] h K := by
  apply btree_may.calls
  unfold btree_may.W
  unfold may at hK
  refine split_dec (fun e1 => split_dec (fun e2 => ?_) fun e2 => ?_) fun e1 => ?_
  · have e1 : (k.size : Int) ≥ 1 := e1
    have e2 : (k.size : Int) ≤ 64 := e2
    rw [hb_eq]
    have : decide (Int.ofNat v.size ≤ 400) = decide (1 ≤ k.size ∧ k.size ≤ 64 ∧ v.size ≤ 400) := decide_eq_decide.2 ⟨fun h => by have h : (v.size : Int) ≤ 400 := h; omega, fun h => by show (v.size : Int) ≤ 400; omega⟩
    rw [this]; exact hK
  · have e2 : ¬ (k.size : Int) ≤ 64 := e2
    rw [decide_eq_false (by omega)] at hK; exact hK
  · have e1 : ¬ (k.size : Int) ≥ 1 := e1
    rw [decide_eq_false (by omega)] at hK; exact hK
theorem search_spec {n m : Nat} {f : Value} {p : Nat → Bool} (hn : n < 2147483648) (hm : m ≤ n) (h1 : ∀ i, i < m → p i = false) (h2 : ∀ i, m ≤ i → i < n → p i = true)
    (hf : ∀ i : Nat, i < n → ∀ K' : Value → Hp → Prop, K' (.bool (p i)) h → FnH Tryz.prog f [.int .i64 (i : Nat)] h K') (hK : K (.int .i64 (m : Nat)) h) : CallsH Tryz.prog sort_Search.id #[.int .i64 (n : Nat), f] h K := by
  apply sort_Search.calls
  unfold sort_Search.W
  refine ⟨fun i j x k => ∃ a b : Nat, i = (a : Int) ∧ j = (b : Int) ∧ a ≤ m ∧ m ≤ b ∧ b ≤ n ∧ k = b - a ∧ x = h, ⟨_, 0, n, rfl, rfl, by omega, hm, Nat.le_refl _, rfl, rfl⟩, ?_⟩
  rintro i j x k ⟨a, b, rfl, rfl, ha, hb, hbn, rfl, rfl⟩
  have e1 : IntKind.i64.wrap (ishr IntKind.u64 (IntKind.u64.wrap (IntKind.i64.wrap ((a : Int) + (b : Int)))) 1) = (((a + b) / 2 : Nat) : Int) := by
    rw [show (a : Int) + (b : Int) = ((a + b : Nat) : Int) by omega, widN _ (by omega), wrap64s _ (by omega), show (1 : Int) = ((1 : Nat) : Int) from rfl, shrN _ _ _ (by decide), widN _ (by omega)]
  rw [e1]
  refine split_dec (fun g => ⟨by decide, hf _ (by omega) _ ⟨_, rfl, split_not (fun e => ?_) fun e => ?_⟩⟩) fun g => ?_
  · have hlt : (a + b) / 2 < m := by
      rcases Nat.lt_or_ge ((a + b) / 2) m with h' | h'
      · exact h'
      · rw [h2 _ h' (by omega)] at e; cases e
    exact ⟨b - ((a + b) / 2 + 1), by omega, (a + b) / 2 + 1, b, by rw [wid (by omega) (by omega)]; omega, rfl, by omega, by omega, hbn, rfl, rfl⟩
  · have hle : m ≤ (a + b) / 2 := by
      rcases Nat.lt_or_ge ((a + b) / 2) m with h' | h'
      · rw [h1 _ h'] at e; cases e
      · exact h'
    exact ⟨(a + b) / 2 - a, by omega, a, (a + b) / 2, rfl, rfl, ha, hle, by omega, rfl, rfl⟩
  · have : a = m := by omega
    subst this; exact hK
def kvBe (k : ByteArray) : List KV → Nat
  | [] => 0
  | p :: L => if blt k p.1 = true then 0 else kvBe k L + 1
theorem kvBe_le (k : ByteArray) : ∀ L : List KV, kvBe k L ≤ L.length
  | [] => Nat.le_refl _
  | p :: L => by unfold kvBe; split <;> simp [kvBe_le k L]
theorem kvBe_before (k : ByteArray) : ∀ (L : List KV) (i : Nat) (p : KV), L[i]? = some p → i < kvBe k L → blt k p.1 = false
  | [], _, _, h, _ => by simp at h
  | q :: L, i, p, h, hi => by
    unfold kvBe at hi
    split at hi
    · omega
    · rename_i hq
      cases i with
      | zero => simp at h; subst h; simpa using hq
      | succ i => exact kvBe_before k L i p (by simpa using h) (by omega)
theorem kvBe_at (k : ByteArray) : ∀ (L : List KV) (p : KV), L[kvBe k L]? = some p → blt k p.1 = true
  | [], _, h => by simp at h
  | q :: L, p, h => by
    unfold kvBe at h
    split at h
    · rename_i hq
      simp at h; subst h; exact hq
    · exact kvBe_at k L p (by simpa using h)
theorem sorted_lt {L : List KV} (hs : kvSorted L) {i j : Nat} {p q : KV} (hp : L[i]? = some p) (hq : L[j]? = some q) (hij : i < j) : blt p.1 q.1 = true := by
  obtain ⟨h1, e1⟩ := List.getElem?_eq_some_iff.1 hp
  obtain ⟨h2, e2⟩ := List.getElem?_eq_some_iff.1 hq
  subst e1; subst e2
  exact (List.pairwise_iff_getElem.1 hs) i j h1 h2 hij
theorem kvAt_after {k : ByteArray} {L : List KV} (hs : kvSorted L) {i : Nat} {p : KV} (hp : L[i]? = some p) (hi : kvAt k L ≤ i) : blt p.1 k = false := by
  have hl := (List.getElem?_eq_some_iff.1 hp).1
  have hq : L[kvAt k L]? = some L[kvAt k L] := List.getElem?_eq_getElem (by omega)
  have h0 := kvAt_at k L _ hq
  rcases Nat.lt_or_ge (kvAt k L) i with h' | h'
  · have h2 := sorted_lt hs hq hp h'
    cases e : blt p.1 k with
    | false => rfl
    | true => rw [blt_trans h2 e] at h0; cases h0
  · have : i = kvAt k L := by omega
    subst this
    rw [hq] at hp
    rw [Option.some.inj hp] at h0; exact h0
theorem kvBe_after {k : ByteArray} {L : List KV} (hs : kvSorted L) {i : Nat} {p : KV} (hp : L[i]? = some p) (hi : kvBe k L ≤ i) : blt k p.1 = true := by
  have hl := (List.getElem?_eq_some_iff.1 hp).1
  have hq : L[kvBe k L]? = some L[kvBe k L] := List.getElem?_eq_getElem (by omega)
  have h0 := kvBe_at k L _ hq
  rcases Nat.lt_or_ge (kvBe k L) i with h' | h'
  · exact blt_trans h0 (sorted_lt hs hq hp h')
  · have : i = kvBe k L := by omega
    subst this
    rw [hq] at hp
    rw [Option.some.inj hp] at h0; exact h0
theorem ble_not (s t : ByteArray) : (!(blt s t || beqS s t)) = blt t s := by
  rw [beqS_val]
  cases e : blt t s with
  | true => rw [blt_asymm e, decide_eq_false (fun e2 => by rw [e2, blt_irrefl] at e; cases e)]; rfl
  | false =>
    cases e2 : blt s t with
    | true => rfl
    | false => rw [decide_eq_true (blt_total e2 e)]; rfl
theorem Nd.kv_len (nd : Nd) : nd.kv.length = nd.l.length := by unfold Nd.kv; simp
theorem Nd.kv_get {nd : Nd} {i : Nat} {e : En} (he : nd.l[i]? = some e) : nd.kv[i]? = some e.kv := by unfold Nd.kv; rw [List.getElem?_map, he]; rfl
section
variable {k : Nat} {a : Option Addr} {c : Nat} {nd : Nd} (N : NdEx h k a c nd) (hs : kvSorted nd.kv) (hl : nd.l.length < 65536)
include N hs hl
theorem place_spec (key : ByteArray) (hK : ∀ h', Sub h h' → K (.int .i64 (kvAt key nd.kv : Nat)) h') : CallsH Tryz.prog btree_node_place.id #[.pointer (some ⟨k, 0, none⟩), .string key] h K := by
  apply btree_node_place.calls
  unfold btree_node_place.W
  intro k1 hk1 k2 hk2
  have B1 := Blk.new h k1 92 [.pointer (some ⟨k, 0, none⟩)]
  have s1 : Sub h (h.upd k1 (.cells [Value.pointer (some ⟨k, 0, none⟩)].toArray 92 (0, 0))) := Sub.upd hk1 _
  have B2 := Blk.new (h.upd k1 (.cells [Value.pointer (some ⟨k, 0, none⟩)].toArray 92 (0, 0))) k2 9 [.string key]
  have s2 := Sub.upd hk2 (.cells [Value.string key].toArray 9 (0, 0))
  have B1' := B1.upd hk2 (.cells [Value.string key].toArray 9 (0, 0))
  have s := s1.trans s2
  generalize ((h.upd k1 (.cells [Value.pointer (some ⟨k, 0, none⟩)].toArray 92 (0, 0))).upd k2 (.cells [Value.string key].toArray 9 (0, 0))) = x at B2 B1' s
  have Nx := N.sub s
  refine ⟨_, B1'.cell' 0 rfl, k, 0, rfl, a, nd.l.length, c, Nx.c2, ?_⟩
  refine search_spec (p := fun i => match nd.l[i]? with | some e => !blt e.key key | none => true) (m := kvAt key nd.kv) (by omega) (by rw [← nd.kv_len]; exact kvAt_le _ _) (fun i hi => ?_) (fun i hi hn => ?_) (fun i hi K' hK' => ?_) ⟨_, rfl, hK x s⟩
  · have hn : i < nd.l.length := by have := kvAt_le key nd.kv; rw [nd.kv_len] at this; omega
    have he : nd.l[i]? = some nd.l[i] := List.getElem?_eq_getElem hn
    have := kvAt_before key nd.kv i _ (Nd.kv_get he) hi
    simp only [he]
    rw [show blt nd.l[i].key key = true from this]; rfl
  · have he : nd.l[i]? = some nd.l[i] := List.getElem?_eq_getElem hn
    have := kvAt_after hs (Nd.kv_get he) hi
    simp only [he]
    rw [show blt nd.l[i].key key = false from this]; rfl
  · have he : nd.l[i]? = some nd.l[i] := List.getElem?_eq_getElem hi
    simp only [he] at hK'
    obtain ⟨b, o, ea, g0, g1, g2⟩ := Nx.get he
    refine fnI (cap := [_, _]) (by kernel_rfl) ?_
    apply btree_node_place_1.calls
    unfold btree_node_place_1.W
    refine ⟨_, B1'.cell' 0 rfl, k, 0, rfl, a, nd.l.length, c, Nx.c2, by omega, by show (i : Int) < (nd.l.length : Int); omega, b, o, ea, _, by rw [Int.toNat_natCast]; exact g0, _, B2.cell' 0 rfl, ?_⟩
    rw [bltS_val]
    exact hK'
theorem below_spec (key : ByteArray) (hK : ∀ h', Sub h h' → K (.int .i64 ((kvBe key nd.kv : Nat) - 1 : Int)) h') : CallsH Tryz.prog btree_node_below.id #[.pointer (some ⟨k, 0, none⟩), .string key] h K := by
  apply btree_node_below.calls
  unfold btree_node_below.W
  intro k1 hk1 k2 hk2
  have B1 := Blk.new h k1 92 [.pointer (some ⟨k, 0, none⟩)]
  have s1 : Sub h (h.upd k1 (.cells [Value.pointer (some ⟨k, 0, none⟩)].toArray 92 (0, 0))) := Sub.upd hk1 _
  have B2 := Blk.new (h.upd k1 (.cells [Value.pointer (some ⟨k, 0, none⟩)].toArray 92 (0, 0))) k2 9 [.string key]
  have s2 := Sub.upd hk2 (.cells [Value.string key].toArray 9 (0, 0))
  have B1' := B1.upd hk2 (.cells [Value.string key].toArray 9 (0, 0))
  have s := s1.trans s2
  generalize ((h.upd k1 (.cells [Value.pointer (some ⟨k, 0, none⟩)].toArray 92 (0, 0))).upd k2 (.cells [Value.string key].toArray 9 (0, 0))) = x at B2 B1' s
  have Nx := N.sub s
  have hbe := kvBe_le key nd.kv
  rw [nd.kv_len] at hbe
  refine ⟨_, B1'.cell' 0 rfl, k, 0, rfl, a, nd.l.length, c, Nx.c2, ?_⟩
  refine search_spec (p := fun i => match nd.l[i]? with | some e => blt key e.key | none => true) (m := kvBe key nd.kv) (by omega) hbe (fun i hi => ?_) (fun i hi hn => ?_) (fun i hi K' hK' => ?_) ⟨_, rfl, ?_⟩
  · have he : nd.l[i]? = some nd.l[i] := List.getElem?_eq_getElem (by omega)
    have := kvBe_before key nd.kv i _ (Nd.kv_get he) hi
    simp only [he]
    exact this
  · have he : nd.l[i]? = some nd.l[i] := List.getElem?_eq_getElem hn
    have := kvBe_after hs (Nd.kv_get he) hi
    simp only [he]
    exact this
  · have he : nd.l[i]? = some nd.l[i] := List.getElem?_eq_getElem hi
    simp only [he] at hK'
    obtain ⟨b, o, ea, g0, g1, g2⟩ := Nx.get he
    refine fnI (cap := [_, _]) (by kernel_rfl) ?_
    apply btree_node_below_1.calls
    unfold btree_node_below_1.W
    refine ⟨_, B1'.cell' 0 rfl, k, 0, rfl, a, nd.l.length, c, Nx.c2, by omega, by show (i : Int) < (nd.l.length : Int); omega, b, o, ea, _, by rw [Int.toNat_natCast]; exact g0, _, B2.cell' 0 rfl, ?_⟩
    rw [bltS_val, ble_not]
    exact hK'
  · rw [wid (by omega) (by omega)]; exact hK x s
end
section
variable {k : Nat} {a : Option Addr} {c : Nat} {nd : Nd} (N : NdEx h k a c nd)
include N
theorem kid_spec {j id : Nat} (hj : nd.kids[j]? = some id) (hK : K (.int .i64 (id : Nat)) h) : CallsH Tryz.prog btree_node_kid.id #[.pointer (some ⟨k, 0, none⟩), .int .i64 ((j : Int) - 1)] h K := by
  apply btree_node_kid.calls
  unfold btree_node_kid.W
  cases j with
  | zero =>
    have : nd.first = id := by simpa [Nd.kids] using hj
    subst this
    exact split_dec (fun _ => ⟨_, N.c1, hK⟩) fun e => by omega
  | succ i =>
    obtain ⟨e, he, rfl⟩ : ∃ e, nd.l[i]? = some e ∧ e.kid = id := by simpa [Nd.kids, Option.map_eq_some_iff] using hj
    have hi := (List.getElem?_eq_some_iff.1 he).1
    obtain ⟨b, o, ea, g0, g1, g2⟩ := N.get he
    have e1 : ((i + 1 : Nat) : Int) - 1 = ((i : Nat) : Int) := by omega
    rw [e1]
    exact split_dec (fun e => by omega) fun _ => ⟨_, _, _, N.c2, by omega, by show (i : Int) < (nd.l.length : Int); omega, b, o, ea, _, by rw [Int.toNat_natCast]; exact g2, hK⟩
def Nd.lo (nd : Nd) (f : ByteArray) (j : Nat) : ByteArray := match j with
  | 0 => f
  | i + 1 => match nd.l[i]? with
    | some e => e.key
    | none => f
def Nd.hi (nd : Nd) (t : ByteArray) (j : Nat) : ByteArray := match nd.l[j]? with
  | some e => e.key
  | none => t
theorem keys_spec {j : Nat} (hj : j ≤ nd.l.length) (hl : nd.l.length < 65536) (f t : ByteArray) (hK : K (.tuple #[.string (nd.lo f j), .string (nd.hi t j)]) h) : CallsH Tryz.prog btree_node_keys.id #[.pointer (some ⟨k, 0, none⟩), .int .i64 ((j : Int) - 1), .string f, .string t] h K := by
  apply btree_node_keys.calls
  unfold btree_node_keys.W
  have e1 : IntKind.i64.wrap ((j : Int) - 1 + 1) = ((j : Nat) : Int) := by rw [wid (by omega) (by omega)]; omega
  rw [e1]
  refine ⟨fun s x => s = nd.lo f j ∧ x = h, ?_, ?_⟩
  · rintro s x ⟨rfl, rfl⟩
    refine ⟨_, _, _, N.c2, split_dec (fun g => ?_) fun g => ?_⟩
    · have g : (j : Int) < (nd.l.length : Int) := g
      have he : nd.l[j]? = some nd.l[j] := List.getElem?_eq_getElem (by omega)
      obtain ⟨b, o, ea, g0, g1, g2⟩ := N.get he
      refine ⟨_, _, _, N.c2, by omega, g, b, o, ea, _, by rw [Int.toNat_natCast]; exact g0, ?_⟩
      unfold Nd.hi at hK
      simp only [he] at hK
      exact hK
    · have g : ¬ (j : Int) < (nd.l.length : Int) := g
      have he : nd.l[j]? = none := List.getElem?_eq_none (by omega)
      unfold Nd.hi at hK
      simp only [he] at hK
      exact hK
  · cases j with
    | zero => exact split_dec (fun e => by omega) fun _ => ⟨rfl, rfl⟩
    | succ i =>
      have he : nd.l[i]? = some nd.l[i] := List.getElem?_eq_getElem (by omega)
      obtain ⟨b, o, ea, g0, g1, g2⟩ := N.get he
      have e1 : ((i + 1 : Nat) : Int) - 1 = ((i : Nat) : Int) := by omega
      rw [e1]
      exact split_dec (fun _ => ⟨_, _, _, N.c2, by omega, by show (i : Int) < (nd.l.length : Int); omega, b, o, ea, _, by rw [Int.toNat_natCast]; exact g0, by unfold Nd.lo; simp only [he], rfl⟩) fun e => by omega
end
def Nd.esz (lf : Bool) (e : En) : Nat := 3 + e.key.size + (if lf then e.val.size else 0)
def eszs (lf : Bool) (l : List En) : Nat := (l.map (Nd.esz lf)).sum
def Nd.base (lf : Bool) : Nat := if lf then 3 else 5
def Nd.size (nd : Nd) : Nat := Nd.base nd.leaf + eszs nd.leaf nd.l
theorem eszs_cons (lf : Bool) (e : En) (l : List En) : eszs lf (e :: l) = Nd.esz lf e + eszs lf l := by unfold eszs; simp
theorem eszs_append (lf : Bool) (l m : List En) : eszs lf (l ++ m) = eszs lf l + eszs lf m := by unfold eszs; simp
theorem eszs_take_le (lf : Bool) (l : List En) (i : Nat) : eszs lf (l.take i) ≤ eszs lf l := by
  conv => rhs; rw [← List.take_append_drop i l, eszs_append]
  omega
theorem nsize_spec {k : Nat} {a : Option Addr} {c : Nat} {nd : Nd} (N : NdEx h k a c nd) (hb : nd.size < 2147483648) (hl : nd.l.length < 2147483648) (hK : K (.int .i64 (nd.size : Nat)) h) : CallsH Tryz.prog btree_node_size.id #[.pointer (some ⟨k, 0, none⟩)] h K := by
  apply btree_node_size.calls
  unfold btree_node_size.W
  have kd : ((nd.kind : Nat) : Int) = if nd.leaf = true then 1 else 2 := by unfold Nd.kind; split <;> rfl
  refine ⟨fun i x => i = (Nd.base nd.leaf : Nat) ∧ h = x, ?_, ?_⟩
  · rintro i x ⟨rfl, rfl⟩
    refine ⟨_, _, _, N.c2, fun i j x m => ∃ q : Nat, j = (q : Int) ∧ i = ((Nd.base nd.leaf + eszs nd.leaf (nd.l.take q) : Nat) : Int) ∧ q ≤ nd.l.length ∧ m = nd.l.length - q ∧ x = h, ⟨_, 0, rfl, rfl, Nat.zero_le _, rfl, rfl⟩, ?_⟩
    rintro i j x m ⟨q, rfl, rfl, hq, rfl, rfl⟩
    refine split_dec (fun g => ?_) fun g => ?_
    · have g : (q : Int) < (nd.l.length : Int) := g
      have hq' : q < nd.l.length := by omega
      have he : nd.l[q]? = some nd.l[q] := List.getElem?_eq_getElem hq'
      obtain ⟨b, o, ea, g0, g1, g2⟩ := N.get he
      have tk : nd.l.take (q + 1) = nd.l.take q ++ [nd.l[q]] := by rw [List.take_add_one, he]; rfl
      have e2 : eszs nd.leaf (nd.l.take (q + 1)) = eszs nd.leaf (nd.l.take q) + Nd.esz nd.leaf nd.l[q] := by rw [tk, eszs_append]; unfold eszs; simp
      have e3 := eszs_take_le nd.leaf nd.l (q + 1)
      unfold Nd.size at hb
      have e4 : IntKind.i64.wrap ((q : Int) + 1) = ((q + 1 : Nat) : Int) := by rw [wid (by omega) (by omega)]; omega
      have e5 : Nd.esz nd.leaf nd.l[q] = 3 + nd.l[q].key.size + (if nd.leaf = true then nd.l[q].val.size else 0) := rfl
      refine ⟨by omega, g, b, o, ea, _, by rw [Int.toNat_natCast]; exact g0, _, by rw [Int.toNat_natCast]; exact g1, _, by rw [Int.toNat_natCast]; exact g2, _, N.c0, ?_⟩
      have z1 : Int.ofNat nd.l[q].key.size = ((nd.l[q].key.size : Nat) : Int) := rfl
      have z2 : Int.ofNat nd.l[q].val.size = ((nd.l[q].val.size : Nat) : Int) := rfl
      rw [e4, kd, z1, z2]
      cases hlf : nd.leaf with
      | true =>
        rw [hlf] at e2 e3 e5 hb
        refine split_eq (fun _ => ⟨_, ?_, q + 1, rfl, ?_, hq', rfl, rfl⟩) fun e => absurd (if_pos rfl) e
        · omega
        · rw [if_pos rfl] at e5
          rw [e2, e5, wid (x := 3 + _) (by omega) (by omega), wid (x := ((Nd.base true + eszs true (nd.l.take q) : Nat) : Int) + _) (by omega) (by omega), wid (by omega) (by omega)]
          omega
      | false =>
        rw [hlf] at e2 e3 e5 hb
        refine split_eq (fun e => by cases e) fun e => ⟨_, ?_, q + 1, rfl, ?_, hq', rfl, rfl⟩
        · omega
        · rw [if_neg (by decide)] at e5
          rw [e2, e5, wid (x := 3 + _) (by omega) (by omega), wid (by omega) (by omega)]
          omega
    · have g : ¬ (q : Int) < (nd.l.length : Int) := g
      have : q = nd.l.length := by omega
      subst this
      rw [List.take_length]
      exact hK
  · refine ⟨_, N.c0, ?_⟩
    rw [kd]
    cases hlf : nd.leaf with
    | true => exact split_eq (fun e => by cases e) fun e => ⟨rfl, rfl⟩
    | false => exact split_eq (fun e => ⟨by decide, rfl⟩) fun e => absurd (if_neg (by decide)) e
end Go.Proofs.YthbogjbcecmopaaGreatDoor
namespace Go.Proofs.YthbogjbcecmopaaGreatDoor
open Go.Gx
set_option maxRecDepth 100000
set_option linter.unusedVariables false
variable {h : Hp} {K : Value → Hp → Prop}
theorem ext_list (s : ByteArray) (a b : Nat) : (s.extract a b).data.toList = (s.data.toList.drop a).take (b - a) := by
  rw [ByteArray.data_extract, Array.toList_extract, List.extract_eq_take_drop]
theorem ext_size (s : ByteArray) {a b : Nat} (hb : b ≤ s.size) : (s.extract a b).size = b - a := by
  rw [← size_len, ext_list, List.length_take, List.length_drop, size_len]; omega
theorem byteN_ext (s : ByteArray) (a b j : Nat) : byteN (s.extract a b) j = if j < b - a then byteN s (a + j) else 0 := by
  unfold byteN
  rw [ext_list, List.getElem?_take]
  split
  · rw [List.getElem?_drop]
  · rfl
theorem byteN_out {s : ByteArray} {j : Nat} (hj : s.size ≤ j) : byteN s j = 0 := by
  unfold byteN
  rw [List.getElem?_eq_none (by rw [size_len]; exact hj)]; rfl
theorem ext_ext (s : ByteArray) {a b c d : Nat} (hd : a + d ≤ b) : (s.extract a b).extract c d = s.extract (a + c) (a + d) := by
  apply bytes_ext
  rw [ext_list, ext_list, ext_list, List.drop_take, List.take_take, List.drop_drop]
  congr 1; omega
theorem ext_all (s : ByteArray) : s.extract 0 s.size = s := by
  apply bytes_ext
  rw [ext_list, List.drop_zero, Nat.sub_zero, ← size_len, List.take_length]
def zerosB (s : ByteArray) (i : Nat) : Bool := (s.data.toList.drop i).all fun b => b == 0
theorem zerosB_iff {s : ByteArray} {i : Nat} : zerosB s i = true ↔ ∀ j, i ≤ j → byteN s j = 0 := by
  unfold zerosB
  rw [List.all_eq_true]
  constructor
  · intro H j hj
    unfold byteN
    cases e : s.data.toList[j]? with
    | none => rfl
    | some b =>
      have : b ∈ s.data.toList.drop i := by
        rw [List.mem_iff_getElem?]
        exact ⟨j - i, by rw [List.getElem?_drop, show i + (j - i) = j by omega, e]⟩
      have := H b this
      simp at this
      subst this; rfl
  · intro H b hb
    obtain ⟨j, hj⟩ := List.mem_iff_getElem?.1 hb
    rw [List.getElem?_drop] at hj
    have := H (i + j) (by omega)
    unfold byteN at this
    rw [hj] at this
    have h2 : b.toNat = 0 := this
    have : b = 0 := UInt8.toNat_inj.1 h2
    rw [this]; rfl
theorem trimR_spec (s : ByteArray) (hs : s.size < 2147483648) (hK : ∀ m, m ≤ s.size → (∀ j, m ≤ j → byteN s j = 0) → (m = 0 ∨ byteN s (m - 1) ≠ 0) → K (.string (s.extract 0 m)) h) : CallsH Tryz.prog strings_trimRightByte.id #[.string s, .int .u8 0] h K := by
  apply strings_trimRightByte.calls
  unfold strings_trimRightByte.W
  refine ⟨fun t x k => ∃ m : Nat, t = s.extract 0 m ∧ m ≤ s.size ∧ (∀ j, m ≤ j → byteN s j = 0) ∧ k = m ∧ h = x, ⟨_, s.size, (ext_all s).symm, Nat.le_refl _, fun j hj => byteN_out hj, rfl, rfl⟩, ?_⟩
  rintro t x k ⟨m, rfl, hm, hz, rfl, rfl⟩
  have sz : (s.extract 0 k).size = k := by rw [ext_size s hm]; rfl
  have szI : Int.ofNat (s.extract 0 k).size = ((k : Nat) : Int) := by rw [sz]; rfl
  rw [szI]
  refine split_dec (fun g => ?_) fun g => ?_
  · have g : 0 < k := by have g : (k : Int) > 0 := g; omega
    have e1 : IntKind.i64.wrap ((k : Int) - 1) = ((k - 1 : Nat) : Int) := by rw [wid (by omega) (by omega)]; omega
    rw [e1, Int.toNat_natCast]
    have eb : byteAt (s.extract 0 k) (k - 1) = ((byteN s (k - 1) : Nat) : Int) := by rw [byteAt_N, byteN_ext, if_pos (by omega), Nat.zero_add]
    refine ⟨by omega, by omega, ?_⟩
    rw [eb]
    refine split_eq (fun e => ⟨by omega, by omega, k - 1, by omega, k - 1, ext_ext s (by omega) |>.trans (by rw [Nat.zero_add, Nat.zero_add]), by omega, fun j hj => ?_, rfl, rfl⟩) fun e => hK k hm hz (.inr fun e2 => e (by rw [e2]; rfl))
    by_cases ej : j = k - 1
    · rw [ej]; omega
    · exact hz j (by omega)
  · have g : k = 0 := by
      have g : ¬ (k : Int) > 0 := g
      omega
    exact hK k hm hz (.inl g)
theorem trimL_spec (s : ByteArray) (hs : s.size < 2147483648) (hK : ∀ m, m ≤ s.size → (∀ j, j < m → byteN s j = 0) → K (.string (s.extract m s.size)) h) : CallsH Tryz.prog strings_trimLeftByte.id #[.string s, .int .u8 0] h K := by
  apply strings_trimLeftByte.calls
  unfold strings_trimLeftByte.W
  refine ⟨fun t x k => ∃ m : Nat, t = s.extract m s.size ∧ m ≤ s.size ∧ (∀ j, j < m → byteN s j = 0) ∧ k = s.size - m ∧ h = x, ⟨_, 0, (ext_all s).symm, Nat.zero_le _, (fun j hj => by omega), rfl, rfl⟩, ?_⟩
  rintro t x k ⟨m, rfl, hm, hz, rfl, rfl⟩
  have sz : (s.extract m s.size).size = s.size - m := ext_size s (Nat.le_refl _)
  have szI : Int.ofNat (s.extract m s.size).size = ((s.size - m : Nat) : Int) := by rw [sz]; rfl
  rw [szI]
  refine split_dec (fun g => ?_) fun g => hK m hm hz
  have g : 0 < s.size - m := by have g : ((s.size - m : Nat) : Int) > 0 := g; omega
  have eb : byteAt (s.extract m s.size) 0 = ((byteN s m : Nat) : Int) := by rw [byteAt_N, byteN_ext, if_pos (by omega), Nat.add_zero]
  rw [eb, sz]
  refine split_cond (fun _ => split_eq (fun e => ⟨by decide, by omega, s.size - (m + 1), by omega, m + 1, (ext_ext s (by omega)).trans (by rw [show m + Int.toNat 1 = m + 1 from rfl, show m + (s.size - m) = s.size by omega]), by omega, fun j hj => ?_, rfl, rfl⟩) fun e => hK m hm hz) fun e => ?_
  · by_cases ej : j = m
    · rw [ej]; omega
    · exact hz j (by omega)
  · have : Nat.blt 0 (s.size - m) = true := Nat.blt_eq.mpr g
    rw [this] at e; cases e
theorem trim_spec (s : ByteArray) (hs : s.size < 2147483648) (hK : ∀ t : ByteArray, (t = bytesL [] ↔ ∀ j, byteN s j = 0) → K (.string t) h) : CallsH Tryz.prog strings_Trim.id #[.string s, .string (bytesL [0])] h K := by
  apply strings_Trim.calls
  unfold strings_Trim.W
  refine split_beqS (fun e => hK s ?_) fun e => split_beqS (fun e2 => ?_) fun e2 => split_eq (fun _ => split_cond (fun _ => split_dec (fun _ => split_cond (fun _ => split_cond (fun _ => ?_) fun e => by cases e) fun e => by cases e) fun e => absurd (show ((0 : Int) < 128) by decide) e) fun e => by cases e) fun e => absurd rfl e
  · subst e; exact ⟨fun _ j => byteN_out (Nat.zero_le _), fun _ => rfl⟩
  · have := congrArg ByteArray.size e2; cases this
  · have e0 : byteAt (bytesL [0]) 0 = 0 := rfl
    rw [e0]
    refine trimR_spec s hs fun m hm hz hc => ⟨_, rfl, ?_⟩
    have s1 : (s.extract 0 m).size = m := by rw [ext_size s hm]; rfl
    refine trimL_spec _ (by omega) fun m2 hm2 hz2 => ⟨_, rfl, hK _ ?_⟩
    rw [s1] at hm2 ⊢
    have s2 : ((s.extract 0 m).extract m2 m).size = m - m2 := ext_size _ (by omega)
    constructor
    · intro e j
      have : m = m2 := by
        rw [e] at s2
        have : (bytesL []).size = 0 := rfl
        omega
      subst this
      rcases Nat.lt_or_ge j m with h' | h'
      · have := hz2 j h'
        rw [byteN_ext, if_pos (by omega), Nat.zero_add] at this
        exact this
      · exact hz j h'
    · intro e
      rcases hc with rfl | hc
      · apply bytes_ext
        rw [ext_list, Nat.zero_sub, List.take_zero]; rfl
      · exact absurd (e _) hc
def vN (lf : Bool) (x : Nat) : Nat := if lf then x else 0
def kN (lf : Bool) (x : Nat) : Nat := if lf then 0 else x
def parseN (b : ByteArray) (lf : Bool) : Nat → Nat → Option (List En × Nat)
  | 0, i => some ([], i)
  | m + 1, i =>
    if i + 3 > b.size then none
    else if byteN b i + vN lf (twoN b (i + 1)) > b.size - (i + 3) then none
    else if may (b.extract (i + 3) (i + 3 + byteN b i)) (b.extract (i + 3 + byteN b i) (i + 3 + byteN b i + vN lf (twoN b (i + 1)))) = false then none
    else (parseN b lf m (i + 3 + byteN b i + vN lf (twoN b (i + 1)))).map fun p => (⟨b.extract (i + 3) (i + 3 + byteN b i), b.extract (i + 3 + byteN b i) (i + 3 + byteN b i + vN lf (twoN b (i + 1))), kN lf (twoN b (i + 1))⟩ :: p.1, p.2)
theorem parseN_succ (b : ByteArray) (lf : Bool) (m i : Nat) : parseN b lf (m + 1) i = if i + 3 > b.size then none
    else if byteN b i + vN lf (twoN b (i + 1)) > b.size - (i + 3) then none
    else if may (b.extract (i + 3) (i + 3 + byteN b i)) (b.extract (i + 3 + byteN b i) (i + 3 + byteN b i + vN lf (twoN b (i + 1)))) = false then none
    else (parseN b lf m (i + 3 + byteN b i + vN lf (twoN b (i + 1)))).map fun p => (⟨b.extract (i + 3) (i + 3 + byteN b i), b.extract (i + 3 + byteN b i) (i + 3 + byteN b i + vN lf (twoN b (i + 1))), kN lf (twoN b (i + 1))⟩ :: p.1, p.2) := rfl
def parseB (b : ByteArray) : Option Nd :=
  if byteN b 0 = 1 ∨ byteN b 0 = 2 then
    match parseN b (byteN b 0 == 1) (twoN b 1) (Nd.base (byteN b 0 == 1)) with
    | none => none
    | some p => if zerosB b p.2 then some ⟨byteN b 0 == 1, kN (byteN b 0 == 1) (twoN b 3), p.1⟩ else none
  else none
def EnOk (lf : Bool) (e : En) : Prop := may e.key e.val = true ∧ e.kid < 65536 ∧ (if lf then e.kid = 0 else e.val = bytesL [])
theorem parseN_ok {b : ByteArray} {lf : Bool} : ∀ (m i : Nat) (p : List En × Nat), parseN b lf m i = some p → i ≤ b.size → p.1.length = m ∧ (∀ e ∈ p.1, EnOk lf e) ∧ p.2 = i + eszs lf p.1 ∧ p.2 ≤ b.size
  | 0, i, p, e, hi => by
    cases e
    exact ⟨rfl, (fun e h => by cases h), rfl, hi⟩
  | m + 1, i, p, e, hi => by
    unfold parseN at e
    split at e
    · cases e
    · split at e
      · cases e
      · rename_i g1 g2
        split at e
        · cases e
        · rename_i g3
          obtain ⟨q, hq, rfl⟩ := Option.map_eq_some_iff.1 e
          obtain ⟨h1, h2, h3, h4⟩ := parseN_ok m _ q hq (by omega)
          refine ⟨by simp [h1], ?_, ?_, h4⟩
          · intro e he
            rcases List.mem_cons.1 he with rfl | he
            · refine ⟨by simpa using g3, ?_, ?_⟩
              · show kN lf (twoN b (i + 1)) < 65536
                unfold kN
                have := twoN_lt b (i + 1)
                split <;> omega
              · cases lf with
                | true => rfl
                | false =>
                  apply bytes_ext
                  show (b.extract _ (_ + vN false _)).data.toList = []
                  rw [ext_list, show ∀ x, vN false x = 0 from fun _ => rfl, Nat.add_zero, Nat.sub_self, List.take_zero]
            · exact h2 e he
          · rw [h3, eszs_cons]
            unfold Nd.esz
            simp only []
            rw [ext_size b (by omega), ext_size b (by omega)]
            cases lf with
            | true => simp only [vN, if_true] at *; omega
            | false => simp only [vN, Bool.false_eq_true, if_false] at *; omega
structure NdOk (nd : Nd) : Prop where
  en : ∀ e ∈ nd.l, EnOk nd.leaf e
  first : nd.first < 65536
  size : nd.size ≤ 1024
  z : nd.leaf = true → nd.first = 0
theorem parseB_ok {b : ByteArray} (hb : b.size = 1024) {nd : Nd} (e : parseB b = some nd) : NdOk nd := by
  unfold parseB at e
  split at e
  · split at e
    · cases e
    · rename_i p hp
      split at e
      · cases e
        obtain ⟨h1, h2, h3, h4⟩ := parseN_ok _ _ _ hp (by rw [hb]; unfold Nd.base; split <;> decide)
        refine ⟨h2, ?_, ?_, fun e => by show (if _ then _ else _) = 0; rw [if_pos e]⟩
        · show kN _ (twoN b 3) < 65536
          unfold kN
          have := twoN_lt b 3
          split <;> omega
        · show Nd.base _ + eszs _ p.1 ≤ 1024
          rw [← hb, ← h3]; exact h4
      · cases e
  · cases e
theorem NdOk.len {nd : Nd} (o : NdOk nd) : 4 * nd.l.length ≤ 1024 := by
  have h1 : ∀ l : List En, (∀ e ∈ l, EnOk nd.leaf e) → 4 * l.length ≤ eszs nd.leaf l := by
    intro l hl
    induction l with
    | nil => exact Nat.zero_le _
    | cons e l ih =>
      have := ih fun e he => hl e (List.mem_cons_of_mem _ he)
      have h2 := (hl e List.mem_cons_self).1
      unfold may at h2
      have h2 := of_decide_eq_true h2
      rw [eszs_cons, List.length_cons]
      unfold Nd.esz
      omega
  have := h1 nd.l o.en
  have := o.size
  unfold Nd.size at this
  omega
end Go.Proofs.YthbogjbcecmopaaGreatDoor
namespace Go.Proofs.YthbogjbcecmopaaGreatDoor
open Go.Gx
set_option maxRecDepth 100000
set_option linter.unusedVariables false
variable {h : Hp} {K : Value → Hp → Prop}
theorem NdOw.app {k : Nat} {a : Option Addr} {c : Nat} {lf : Bool} {fi : Nat} {L : List En} {e : En} (N : NdOw h k a c ⟨lf, fi, L⟩) {h' : Hp} {a' : Option Addr} {c' n : Nat} (hn : n = L.length) (O : OwnR enC 3 h' 100 a' c' (L ++ [e])) (kp : Keep (blkOf a) h h') (nb : ∀ b, blkOf a' b → blkOf a b ∨ h b = none) :
    StoreOk h' k 2 1 ∧ NdOw (h'.put k 2 [.slice a' (n + 1) c']) k a' c' ⟨lf, fi, L ++ [e]⟩ := by
  subst hn
  have B : Blk h' k 97 _ := N.ex.blk.keep kp fun hb => N.ex.ne k hb rfl
  have ne' : ∀ b, blkOf a' b → b ≠ k := fun b hb e => by
    subst e
    rcases nb b hb with h1 | h1
    · exact N.ex.ne b h1 rfl
    · have := N.ex.blk; unfold Blk at this; rw [this] at h1; cases h1
  refine ⟨B.store (by show 2 + 1 ≤ 3; decide), NdOw.mk' ?_ (O.keep (Keep.put (fun c => c = k) _ _ _ rfl) ne') ne'⟩
  have := B.put 2 [.slice a' (L.length + 1) c']
  unfold ndC
  rw [List.length_append]
  exact this
set_option maxHeartbeats 2000000 in
theorem parse_spec (b : ByteArray) (hb : b.size = 1024) (hN : parseB b = none → ∀ h' a, Sub h h' → K (.tuple #[.pointer a, .bool false]) h') (hG : ∀ nd, parseB b = some nd → ∀ h' k, NdNew h h' k nd → K (.tuple #[.pointer (some ⟨k, 0, none⟩), .bool true]) h') :
    CallsH Tryz.prog btree_parse.id #[.string b] h K := by
  apply btree_parse.calls
  unfold btree_parse.W
  have szI : Int.ofNat b.size = ((1024 : Nat) : Int) := by rw [hb]; rfl
  refine split_cond (fun _ => ?_) fun e => by rw [hb] at e; cases e
  intro k1 hk1
  have b0 := byteN_lt b 0
  have ew : IntKind.i64.wrap (byteAt b 0) = ((byteN b 0 : Nat) : Int) := by rw [byteAt_N]; exact widN _ (by omega)
  rw [ew, szI]
  have hx : setL [Value.int .i64 0, .int .i64 0, .slice none 0 0] 0 [.int .i64 (byteN b 0 : Nat)] = [.int .i64 (byteN b 0 : Nat), .int .i64 0, .slice none 0 0] := rfl
  rw [hx]
  have B := Blk.new h k1 97 [.int .i64 (byteN b 0 : Nat), .int .i64 0, .slice none 0 0]
  have s := Sub.upd hk1 (.cells [Value.int .i64 (byteN b 0 : Nat), .int .i64 0, .slice none 0 0].toArray 97 (0, 0))
  generalize h.upd k1 (.cells [Value.int .i64 (byteN b 0 : Nat), .int .i64 0, .slice none 0 0].toArray 97 (0, 0)) = y at B s ⊢
  have bad : ¬ (byteN b 0 = 1 ∨ byteN b 0 = 2) → parseB b = none := fun hn => by unfold parseB; rw [if_neg hn]
  refine ⟨_, B.cell' 0 rfl, split_ne (fun ne1 => ⟨_, B.cell' 0 rfl, split_ne (fun ne2 => hN (bad fun e => ?_) _ _ s) ?g1⟩) ?g2⟩
  · omega
  all_goals
    intro e0
    obtain ⟨lf, hlf, ek⟩ : ∃ lf : Bool, (byteN b 0 == 1) = lf ∧ byteN b 0 = if lf then 1 else 2 := ⟨_, rfl, by
      by_cases e : byteN b 0 = 1
      · rw [e]; rfl
      · have e2 : byteN b 0 = 2 := by omega
        rw [e2]; rfl⟩
    have pe : parseB b = match parseN b lf (twoN b 1) (Nd.base lf) with
        | none => none
        | some p => if zerosB b p.2 then some ⟨lf, kN lf (twoN b 3), p.1⟩ else none := by
      unfold parseB
      rw [if_pos (by cases lf with | true => left; exact ek | false => right; exact ek), hlf]
      all_goals rfl
    have kd : ∀ fi L, ((byteN b 0 : Nat) : Int) = ((Nd.kind ⟨lf, fi, L⟩ : Nat) : Int) := fun fi L => by rw [ek]; rfl
    have t1 := twoN_lt b 1
    refine ⟨fun i x => ∃ a c, i = (Nd.base lf : Nat) ∧ Sub h x ∧ NdOw x k1 a c ⟨lf, kN lf (twoN b 3), []⟩ ∧ ∀ c', blkOf a c' → h c' = none, ?_, ?_⟩
    · rintro i x ⟨a, c, rfl, sx, N, fr⟩
      refine two_spec (i := 1) (by omega) (by omega) ⟨_, rfl, ?_⟩
      refine ⟨fun i j x m => ∃ (p q : Nat) (L : List En) (a : Option Addr) (c : Nat), i = (p : Int) ∧ j = (q : Int) ∧ m = twoN b 1 - q ∧ q ≤ twoN b 1 ∧ p ≤ 1024 ∧ L.length = q ∧ Sub h x ∧ NdOw x k1 a c ⟨lf, kN lf (twoN b 3), L⟩ ∧ (∀ c', blkOf a c' → h c' = none) ∧
        parseN b lf (twoN b 1) (Nd.base lf) = (parseN b lf (twoN b 1 - q) p).map fun r => (L ++ r.1, r.2), ⟨_, Nd.base lf, 0, [], a, c, rfl, rfl, rfl, Nat.zero_le _, by unfold Nd.base; split <;> decide, rfl, sx, N, fr, ?_⟩, ?_⟩
      · rw [Nat.sub_zero]; cases parseN b lf (twoN b 1) (Nd.base lf) <;> rfl
      rintro i j x m ⟨p, q, L, a, c, rfl, rfl, rfl, hq, hp, hL, sx, N, fr, hpe⟩
      refine split_dec (fun g => ?_) fun g => ?_
      · obtain ⟨r, hr⟩ : ∃ r, twoN b 1 - q = r + 1 := ⟨twoN b 1 - q - 1, by omega⟩
        rw [hr] at hpe
        have e3 : IntKind.i64.wrap ((p : Int) + 3) = ((p + 3 : Nat) : Int) := by rw [wid (by omega) (by omega)]; omega
        rw [e3]
        refine split_dec (fun g2 => hN ?_ _ _ sx) fun g2 => ?_
        · rw [pe, hpe, parseN_succ]
          rw [if_pos (by rw [hb]; omega)]; rfl
        have e4 : IntKind.i64.wrap ((p : Int) + 1) = ((p + 1 : Nat) : Int) := by rw [wid (by omega) (by omega)]; omega
        rw [e4]
        refine ⟨by omega, by omega, two_spec (by omega) (by omega) ⟨_, rfl, ?_⟩⟩
        have t2 := twoN_lt b (p + 1)
        have bp := byteN_lt b p
        have vle : vN lf (twoN b (p + 1)) ≤ twoN b (p + 1) := by unfold vN; split <;> omega
        refine ⟨fun v s t kd x' => v = (vN lf (twoN b (p + 1)) : Nat) ∧ kd = (kN lf (twoN b (p + 1)) : Nat) ∧ x = x', ?_, ⟨_, N.ex.c0, ?_⟩⟩
        · rintro v s t kd x' ⟨rfl, rfl, rfl⟩
          have e5 : IntKind.i64.wrap (byteAt b ((p : Nat) : Int).toNat) = ((byteN b p : Nat) : Int) := by rw [Int.toNat_natCast, byteAt_N]; exact widN _ (by omega)
          have e6 : IntKind.i64.wrap (((byteN b p : Nat) : Int) + ((vN lf (twoN b (p + 1)) : Nat) : Int)) = ((byteN b p + vN lf (twoN b (p + 1)) : Nat) : Int) := by rw [wid (by omega) (by omega)]; omega
          have e7 : IntKind.i64.wrap (((1024 : Nat) : Int) - ((p + 3 : Nat) : Int)) = ((1024 - (p + 3) : Nat) : Int) := by rw [wid (by omega) (by omega)]; omega
          have e8 : IntKind.i64.wrap (((p + 3 : Nat) : Int) + ((byteN b p : Nat) : Int)) = ((p + 3 + byteN b p : Nat) : Int) := by rw [wid (by omega) (by omega)]; omega
          have e9 : IntKind.i64.wrap (((p + 3 + byteN b p : Nat) : Int) + ((vN lf (twoN b (p + 1)) : Nat) : Int)) = ((p + 3 + byteN b p + vN lf (twoN b (p + 1)) : Nat) : Int) := by rw [wid (by omega) (by omega)]; omega
          have e10 : IntKind.i64.wrap (((p + 3 : Nat) : Int) + ((byteN b p + vN lf (twoN b (p + 1)) : Nat) : Int)) = ((p + 3 + byteN b p + vN lf (twoN b (p + 1)) : Nat) : Int) := by rw [wid (by omega) (by omega)]; omega
          have e11 : IntKind.i64.wrap ((q : Int) + 1) = ((q + 1 : Nat) : Int) := by rw [wid (by omega) (by omega)]; omega
          rw [e5, e6, e7, e8, e9, e10, e11]
          refine split_dec (fun g3 => hN ?_ _ _ sx) fun g3 => ?_
          · rw [pe, hpe, parseN_succ]
            rw [if_neg (by rw [hb]; omega), if_pos (by rw [hb]; omega)]; rfl
          rw [Int.toNat_natCast, Int.toNat_natCast, Int.toNat_natCast]
          refine ⟨by omega, by omega, by omega, by show ((p + 3 : Nat) : Int) ≤ ((p + 3 + byteN b p : Nat) : Int); omega, by omega, by omega, by omega, by show ((p + 3 + byteN b p : Nat) : Int) ≤ ((p + 3 + byteN b p + vN lf (twoN b (p + 1)) : Nat) : Int); omega, may_spec _ _ ⟨_, rfl, split_not (fun em => hN ?_ _ _ sx) fun em => ?_⟩⟩
          · rw [pe, hpe, parseN_succ]
            rw [if_neg (by rw [hb]; omega), if_neg (by rw [hb]; omega), if_pos em]; rfl
          refine ⟨a, L.length, c, N.ex.c2, fun k31 hk31 => ⟨Sub.upd hk31 _, enC ⟨b.extract (p + 3) (p + 3 + byteN b p), b.extract (p + 3 + byteN b p) (p + 3 + byteN b p + vN lf (twoN b (p + 1))), kN lf (twoN b (p + 1))⟩, (Blk.new x k31 100 (enC ⟨b.extract (p + 3) (p + 3 + byteN b p), b.extract (p + 3 + byteN b p) (p + 3 + byteN b p + vN lf (twoN b (p + 1))), kN lf (twoN b (p + 1))⟩)).slice rfl, ?_⟩⟩
          have s31 := Sub.upd hk31 (.cells (enC ⟨b.extract (p + 3) (p + 3 + byteN b p), b.extract (p + 3 + byteN b p) (p + 3 + byteN b p + vN lf (twoN b (p + 1))), kN lf (twoN b (p + 1))⟩).toArray 100 (0, 0))
          have N31 := N.sub s31
          refine ⟨fun a' c' x' => StoreOk x' k1 2 1 ∧ Sub h x' ∧ NdOw (x'.put k1 2 [.slice a' (L.length + 1) c']) k1 a' c' ⟨lf, kN lf (twoN b 3), L ++ [⟨b.extract (p + 3) (p + 3 + byteN b p), b.extract (p + 3 + byteN b p) (p + 3 + byteN b p + vN lf (twoN b (p + 1))), kN lf (twoN b (p + 1))⟩]⟩ ∧ ∀ c', blkOf a' c' → h c' = none, ?_, ?_⟩
          · rintro a' c' x' ⟨so, sx', N', fr'⟩
            refine ⟨so, twoN b 1 - (q + 1), by omega, p + 3 + byteN b p + vN lf (twoN b (p + 1)), q + 1, _, a', c', rfl, rfl, rfl, by omega, by omega, by rw [List.length_append, hL]; rfl, (Keep.put (fun c => c = k1) _ _ _ rfl).sub sx' fun c e => by rw [e]; exact hk1, N', fr', ?_⟩
            rw [hpe, parseN_succ]
            rw [if_neg (by rw [hb]; omega), if_neg (by rw [hb]; omega), if_neg (by rw [em]; decide), Option.map_map, show twoN b 1 - (q + 1) = r by omega]
            congr 1
            funext z
            simp
          · refine append_ownR appTEn enC_len enC_plain (M := [_]) N31.own rfl rfl (rowC_one _).symm ?_ fun a' c' x' O kp nb => ?_
            · show (2 * (L.length + 1) + 768) * 40 ≤ _
              omega
            · obtain ⟨so, N'⟩ := N31.app rfl O kp nb
              exact ⟨so, kp.sub (sx.trans s31) fr, N', fun c' hc' => (nb c' hc').elim (fr c') fun h' => (sx.trans s31).none h'⟩
        · refine split_eq (fun e => ?_) fun e => ?_
          · cases lf with
            | true => exact ⟨rfl, rfl, rfl⟩
            | false => cases e
          · cases lf with
            | true => exact absurd rfl e
            | false => exact ⟨rfl, rfl, rfl⟩
      · have : q = twoN b 1 := by omega
        subst this
        rw [Nat.sub_self] at hpe
        have hpe : parseN b lf (twoN b 1) (Nd.base lf) = some (L, p) := by rw [hpe]; unfold parseN; simp
        have sz2 : (b.extract p b.size).size = 1024 - p := by rw [ext_size b (Nat.le_refl _), hb]
        rw [Int.toNat_natCast]
        refine ⟨by omega, by omega, trim_spec _ (by omega) fun t ht => ⟨_, rfl, ?_⟩⟩
        have zi : zerosB b p = true ↔ t = bytesL [] := by
          rw [ht, zerosB_iff]
          constructor
          · intro H j
            rw [byteN_ext]
            split
            · exact H _ (by omega)
            · rfl
          · intro H j hj
            have := H (j - p)
            rw [byteN_ext] at this
            rcases Nat.lt_or_ge j b.size with h' | h'
            · rw [if_pos (by omega), show p + (j - p) = j by omega] at this
              exact this
            · exact byteN_out h'
        rw [beqS_val]
        by_cases et : t = bytesL []
        · rw [decide_eq_true et]
          exact hG _ (by rw [pe, hpe]; simp only [zi.2 et, if_true]) _ _ ⟨sx, hk1, a, c, N, fr⟩
        · rw [decide_eq_false et]
          exact hN (by rw [pe, hpe]; simp only [show zerosB b p = false by cases e : zerosB b p with | false => rfl | true => exact absurd (zi.1 e) et, Bool.false_eq_true, if_false]) _ _ sx
    · refine ⟨_, B.cell' 0 rfl, split_eq (fun e => ?_) fun e => ?_⟩
      · have lff : lf = false := by cases lf with | true => rw [ek] at e; cases e | false => rfl
        subst lff
        refine two_spec (i := 3) (by omega) (by omega) ⟨_, rfl, B.store (by show 2 ≤ 3; decide), none, 0, by decide, ?_, NdOw.mk' ?_ (OwnR.nil _ _) (fun b ⟨o, s, e⟩ => by cases e), fun b ⟨o, s, e⟩ => by cases e⟩
        · exact (Keep.put (fun c => c = k1) _ _ _ rfl).sub s fun c e => by rw [e]; exact hk1
        · have := B.put 1 [.int .i64 (twoN b 3 : Nat)]
          unfold ndC
          rw [← kd]
          exact this
      · have lff : lf = true := by
          cases lf with
          | true => rfl
          | false => exact absurd (by rw [ek]; rfl) e
        subst lff
        refine ⟨none, 0, rfl, s, NdOw.mk' ?_ (OwnR.nil _ _) (fun b ⟨o, s, e⟩ => by cases e), fun b ⟨o, s, e⟩ => by cases e⟩
        unfold ndC
        rw [← kd]
        exact B
variable {pb jb db n : Nat} {S : Nat → Prop} {D : Dk} {P : Pg}
def Pg.node (P : Pg) (D : Dk) (n : Nat) (i : Int) : Option Nd := if P.why n i = 0 then parseB (P.page D n i.toNat) else none
theorem page_sz (E : PgAt h pb jb db S n D P) {i : Nat} (hi : i < n) : (P.page D n i).size = 1024 := by
  obtain ⟨S0, mb, pa, pc, Q, e⟩ := E.ex
  unfold Pg.page
  cases hd : dget P.d i with
  | some s => exact (E.ok.d.mem _ (dget_mem hd)).2
  | none => exact page_size e.j hi
theorem node_ok (E : PgAt h pb jb db S n D P) {i : Int} {nd : Nd} (e : P.node D n i = some nd) : NdOk nd := by
  unfold Pg.node at e
  split at e
  · rename_i hw
    obtain ⟨k, rfl, h1, h2, h3⟩ := why_ok hw
    exact parseB_ok (by rw [Int.toNat_natCast]; exact page_sz E h2) e
  · cases e
def TrAt (h : Hp) (tb pb k : Nat) : Prop := Blk h tb 89 [.pointer (some ⟨pb, 0, none⟩), .int .i64 (k : Nat)]
theorem load_spec (E : PgAt h pb jb db S n D P) {tb k : Nat} (T : TrAt h tb pb k) (i : Int) (hN : P.node D n i = none → ∀ h' e, e ≠ 0 → (P.why n i = 0 → e = 4) → Sub h h' → K (.tuple #[.pointer none, .int .i64 e]) h')
    (hG : ∀ nd, P.node D n i = some nd → ∀ h' k', NdNew h h' k' nd → K (.tuple #[.pointer (some ⟨k', 0, none⟩), .int .i64 0]) h') : CallsH Tryz.prog btree_Tree_load.id #[.pointer (some ⟨tb, 0, none⟩), .int .i64 i] h K := by
  apply btree_Tree_load.calls
  unfold btree_Tree_load.W
  refine ⟨_, T.cell' 0 rfl, ?_⟩
  unfold Pg.node at hN hG
  by_cases hw : P.why n i = 0
  · obtain ⟨j, rfl, h1, h2, h3⟩ := why_ok hw
    rw [if_pos hw, Int.toNat_natCast] at hN hG
    refine pgread_spec E hw fun h' s => ⟨_, _, rfl, split_ne (fun e => absurd rfl e) fun _ => ?_⟩
    refine parse_spec _ (page_sz E h2) (fun e h2 a s2 => ⟨_, _, rfl, split_not (fun _ => hN e _ _ (by decide) (fun _ => rfl) (s.trans s2)) fun e => by cases e⟩) fun nd e h2 k' N => ⟨_, _, rfl, split_not (fun e => by cases e) fun _ => hG nd e _ _ (N.mono s (Sub.refl _))⟩
  · rw [if_neg hw] at hN
    exact pgread_bad E i hw ⟨_, _, rfl, split_ne (fun e => hN rfl _ _ hw (fun e => absurd e hw) (Sub.refl h)) fun e => absurd e hw⟩
end Go.Proofs.YthbogjbcecmopaaGreatDoor
namespace Go.Proofs.YthbogjbcecmopaaGreatDoor
open Go.Gx
set_option maxRecDepth 100000
set_option linter.unusedVariables false
abbrev eB : ByteArray := bytesL []
def chain1 (t : ByteArray) : ByteArray → List En → Prop
  | _, [] => True
  | x, e :: l => blt x e.key = true ∧ (t ≠ eB → blt e.key t = true) ∧ chain1 t e.key l
def keysOk (f t : ByteArray) : List En → Prop
  | [] => True
  | e :: l => blt e.key f = false ∧ (t ≠ eB → blt e.key t = true) ∧ chain1 t e.key l
def below (t k : ByteArray) : Prop := t ≠ eB → blt k t = true
theorem chain1_ok {t : ByteArray} : ∀ {l : List En} {x : ByteArray}, chain1 t x l ↔ ((∀ e ∈ l, blt x e.key = true ∧ below t e.key) ∧ kvSorted (l.map En.kv))
  | [], x => ⟨fun _ => ⟨(fun e h => by cases h), List.Pairwise.nil⟩, fun _ => trivial⟩
  | e :: l, x => by
    unfold chain1
    rw [chain1_ok (l := l)]
    constructor
    · rintro ⟨h1, h2, h3, h4⟩
      refine ⟨fun e' he => ?_, List.pairwise_cons.2 ⟨fun p hp => ?_, h4⟩⟩
      · rcases List.mem_cons.1 he with rfl | he
        · exact ⟨h1, h2⟩
        · exact ⟨blt_trans h1 (h3 e' he).1, (h3 e' he).2⟩
      · obtain ⟨e', he, rfl⟩ := List.mem_map.1 hp
        exact (h3 e' he).1
    · rintro ⟨h1, h2⟩
      obtain ⟨h3, h4⟩ := List.pairwise_cons.1 h2
      exact ⟨(h1 e List.mem_cons_self).1, (h1 e List.mem_cons_self).2, fun e' he => ⟨h3 _ (List.mem_map_of_mem he), (h1 e' (List.mem_cons_of_mem _ he)).2⟩, h4⟩
theorem keysOk_iff {f t : ByteArray} {l : List En} : keysOk f t l ↔ ((∀ e ∈ l, blt e.key f = false ∧ below t e.key) ∧ kvSorted (l.map En.kv)) := by
  cases l with
  | nil => exact ⟨fun _ => ⟨(fun e h => by cases h), List.Pairwise.nil⟩, fun _ => trivial⟩
  | cons e l =>
    show (blt e.key f = false ∧ (t ≠ eB → blt e.key t = true) ∧ chain1 t e.key l) ↔ _
    rw [chain1_ok]
    constructor
    · rintro ⟨h1, h2, h3, h4⟩
      refine ⟨fun e' he => ?_, List.pairwise_cons.2 ⟨fun p hp => ?_, h4⟩⟩
      · rcases List.mem_cons.1 he with rfl | he
        · exact ⟨h1, h2⟩
        · refine ⟨?_, (h3 e' he).2⟩
          cases e2 : blt e'.key f with
          | false => rfl
          | true => rw [blt_trans (h3 e' he).1 e2] at h1; cases h1
      · obtain ⟨e', he, rfl⟩ := List.mem_map.1 hp
        exact (h3 e' he).1
    · rintro ⟨h1, h2⟩
      obtain ⟨h3, h4⟩ := List.pairwise_cons.1 h2
      exact ⟨(h1 e List.mem_cons_self).1, (h1 e List.mem_cons_self).2, fun e' he => ⟨h3 _ (List.mem_map_of_mem he), (h1 e' (List.mem_cons_of_mem _ he)).2⟩, h4⟩
section
variable (pg : Nat → Option Nd)
def Tr : Nat → Nat → ByteArray → ByteArray → Prop
  | 0, id, f, t => ∃ nd, pg id = some nd ∧ nd.leaf = true ∧ keysOk f t nd.l
  | m + 1, id, f, t => ∃ nd, pg id = some nd ∧ nd.leaf = false ∧ keysOk f t nd.l ∧ ∀ j c, nd.kids[j]? = some c → Tr m c (nd.lo f j) (nd.hi t j)
def kvs (id : Nat) : List KV := match pg id with
  | some nd => nd.kv
  | none => []
def kidsOf (id : Nat) : List Nat := match pg id with
  | some nd => nd.kids
  | none => []
def ents : Nat → Nat → List KV
  | 0, id => kvs pg id
  | m + 1, id => (kidsOf pg id).flatMap (ents m)
def ids : Nat → Nat → List Nat
  | 0, id => [id]
  | m + 1, id => id :: (kidsOf pg id).flatMap (ids m)
end
variable {pg : Nat → Option Nd}
theorem kvs_eq {id : Nat} {nd : Nd} (h : pg id = some nd) : kvs pg id = nd.kv := by unfold kvs; rw [h]
theorem kidsOf_eq {id : Nat} {nd : Nd} (h : pg id = some nd) : kidsOf pg id = nd.kids := by unfold kidsOf; rw [h]
theorem ids_self {m id : Nat} : id ∈ ids pg m id := by cases m <;> exact List.mem_cons_self
theorem Tr.node {m id : Nat} {f t : ByteArray} (T : Tr pg m id f t) : ∃ nd, pg id = some nd ∧ keysOk f t nd.l ∧ (nd.leaf = true ↔ m = 0) := by
  cases m with
  | zero => obtain ⟨nd, h1, h2, h3⟩ := T; exact ⟨nd, h1, h3, fun _ => rfl, fun _ => h2⟩
  | succ m => obtain ⟨nd, h1, h2, h3, h4⟩ := T; exact ⟨nd, h1, h3, (fun h => by rw [h2] at h; cases h), fun h => by cases h⟩
theorem Tr.in_pg : ∀ {m id : Nat} {f t : ByteArray}, Tr pg m id f t → ∀ i ∈ ids pg m id, (pg i).isSome = true
  | 0, id, f, t, T, i, hi => by
    obtain ⟨nd, h1, h2, h3⟩ := T
    rcases List.mem_cons.1 hi with rfl | hi
    · rw [h1]; rfl
    · cases hi
  | m + 1, id, f, t, T, i, hi => by
    obtain ⟨nd, h1, h2, h3, h4⟩ := T
    rcases List.mem_cons.1 hi with rfl | hi
    · rw [h1]; rfl
    · rw [kidsOf_eq h1] at hi
      obtain ⟨c, hc, hi⟩ := List.mem_flatMap.1 hi
      obtain ⟨j, hj⟩ := List.mem_iff_getElem?.1 hc
      exact Tr.in_pg (h4 j c hj) i hi
theorem Nd.kids_len (nd : Nd) : nd.kids.length = nd.l.length + 1 := by unfold Nd.kids; simp
theorem Tr.inj : ∀ {m m' id : Nat} {f t f' t' : ByteArray}, Tr pg m id f t → Tr pg m' id f' t' → m = m'
  | 0, 0, _, _, _, _, _, _, _ => rfl
  | 0, m' + 1, _, _, _, _, _, T, T' => by
    obtain ⟨nd, h1, h2, _⟩ := T
    obtain ⟨nd', h1', h2', _⟩ := T'
    rw [h1] at h1'; cases h1'; rw [h2] at h2'; cases h2'
  | m + 1, 0, _, _, _, _, _, T, T' => by
    obtain ⟨nd, h1, h2, _⟩ := T
    obtain ⟨nd', h1', h2', _⟩ := T'
    rw [h1] at h1'; cases h1'; rw [h2] at h2'; cases h2'
  | m + 1, m' + 1, _, _, _, _, _, T, T' => by
    obtain ⟨nd, h1, h2, _, h4⟩ := T
    obtain ⟨nd', h1', h2', _, h4'⟩ := T'
    rw [h1] at h1'; cases h1'
    have e : nd.kids[0]? = some nd.first := rfl
    rw [Tr.inj (h4 0 _ e) (h4' 0 _ e)]
theorem Tr.frame {pg' : Nat → Option Nd} : ∀ {m id : Nat} {f t : ByteArray}, Tr pg m id f t → (∀ i ∈ ids pg m id, pg' i = pg i) → Tr pg' m id f t ∧ ents pg' m id = ents pg m id ∧ ids pg' m id = ids pg m id
  | 0, id, f, t, T, H => by
    have h0 := H id ids_self
    obtain ⟨nd, h1, h2, h3⟩ := T
    rw [h1] at h0
    exact ⟨⟨nd, h0, h2, h3⟩, (kvs_eq h0).trans (kvs_eq h1).symm, rfl⟩
  | m + 1, id, f, t, T, H => by
    have h0 := H id ids_self
    obtain ⟨nd, h1, h2, h3, h4⟩ := T
    rw [h1] at h0
    have ek : kidsOf pg id = nd.kids := kidsOf_eq h1
    have sub : ∀ j c, nd.kids[j]? = some c → Tr pg' m c (nd.lo f j) (nd.hi t j) ∧ ents pg' m c = ents pg m c ∧ ids pg' m c = ids pg m c := fun j c hj => (h4 j c hj).frame fun i hi => H i (List.mem_cons_of_mem _ (by rw [ek]; exact List.mem_flatMap.2 ⟨c, List.mem_of_getElem? hj, hi⟩))
    refine ⟨⟨nd, h0, h2, h3, fun j c hj => (sub j c hj).1⟩, ?_, ?_⟩
    · unfold ents
      rw [kidsOf_eq h0, ek]
      have : ∀ L : List Nat, (∀ c ∈ L, c ∈ nd.kids) → L.flatMap (ents pg' m) = L.flatMap (ents pg m) := by
        intro L hL
        induction L with
        | nil => rfl
        | cons c L ih =>
          obtain ⟨j, hj⟩ := List.mem_iff_getElem?.1 (hL c List.mem_cons_self)
          rw [List.flatMap_cons, List.flatMap_cons, (sub j c hj).2.1, ih fun c hc => hL c (List.mem_cons_of_mem _ hc)]
      exact this _ fun c hc => hc
    · unfold ids
      rw [kidsOf_eq h0, ek]
      have : ∀ L : List Nat, (∀ c ∈ L, c ∈ nd.kids) → L.flatMap (ids pg' m) = L.flatMap (ids pg m) := by
        intro L hL
        induction L with
        | nil => rfl
        | cons c L ih =>
          obtain ⟨j, hj⟩ := List.mem_iff_getElem?.1 (hL c List.mem_cons_self)
          rw [List.flatMap_cons, List.flatMap_cons, (sub j c hj).2.2, ih fun c hc => hL c (List.mem_cons_of_mem _ hc)]
      rw [this _ fun c hc => hc]
def PgOk (pg : Nat → Option Nd) : Prop := ∀ i nd, pg i = some nd → NdOk nd
theorem may_key {k v : ByteArray} (h : may k v = true) : k ≠ eB := fun e => by
  unfold may at h
  have := (of_decide_eq_true h).1
  rw [e] at this
  exact absurd this (by decide)
theorem NdOk.key_ne {nd : Nd} (o : NdOk nd) {e : En} (he : e ∈ nd.l) : e.key ≠ eB := may_key (o.en e he).1
theorem Nd.lo_succ {nd : Nd} {f : ByteArray} {i : Nat} {e : En} (he : nd.l[i]? = some e) : nd.lo f (i + 1) = e.key := by unfold Nd.lo; simp only [he]
theorem Nd.hi_some {nd : Nd} {t : ByteArray} {i : Nat} {e : En} (he : nd.l[i]? = some e) : nd.hi t i = e.key := by unfold Nd.hi; simp only [he]
theorem Nd.hi_none {nd : Nd} {t : ByteArray} {i : Nat} (he : nd.l.length ≤ i) : nd.hi t i = t := by unfold Nd.hi; simp only [List.getElem?_eq_none he]
theorem blt_le_trans {a b c : ByteArray} (h1 : blt a b = true) (h2 : blt c b = false) : blt a c = true := by
  cases e : blt b c with
  | true => exact blt_trans h1 e
  | false => rw [← blt_total e h2]; exact h1
theorem le_trans_blt {a b c : ByteArray} (h1 : blt b a = false) (h2 : blt c b = false) : blt c a = false := by
  cases e : blt c a with
  | false => rfl
  | true =>
    cases e2 : blt a b with
    | true => rw [blt_trans e e2] at h2; cases h2
    | false => rw [← blt_total e2 h1] at h2; rw [e] at h2; cases h2
section
variable {nd : Nd} {f t : ByteArray} (o : NdOk nd) (H : keysOk f t nd.l)
include H
theorem lo_ge {j : Nat} (hj : j ≤ nd.l.length) : blt (nd.lo f j) f = false := by
  cases j with
  | zero => exact blt_irrefl f
  | succ i =>
    have he : nd.l[i]? = some nd.l[i] := List.getElem?_eq_getElem (by omega)
    rw [Nd.lo_succ he]
    exact ((keysOk_iff.1 H).1 _ (List.mem_of_getElem? he)).1
include o
theorem hi_le {j : Nat} {k : ByteArray} (hk : below (nd.hi t j) k) : below t k := by
  intro ht
  cases he : nd.l[j]? with
  | some e =>
    rw [Nd.hi_some he] at hk
    exact blt_trans (hk (o.key_ne (List.mem_of_getElem? he))) (((keysOk_iff.1 H).1 e (List.mem_of_getElem? he)).2 ht)
  | none =>
    rw [Nd.hi_none (List.getElem?_eq_none_iff.1 he)] at hk
    exact hk ht
theorem hi_lo {i j : Nat} (hij : i < j) (hj : j ≤ nd.l.length) {p q : ByteArray} (hp : below (nd.hi t i) p) (hq : blt q (nd.lo f j) = false) : blt p q = true := by
  obtain ⟨j', rfl⟩ : ∃ j', j = j' + 1 := ⟨j - 1, by omega⟩
  have he : nd.l[i]? = some nd.l[i] := List.getElem?_eq_getElem (by omega)
  have he' : nd.l[j']? = some nd.l[j'] := List.getElem?_eq_getElem (by omega)
  rw [Nd.hi_some he] at hp
  rw [Nd.lo_succ he'] at hq
  have h1 := hp (o.key_ne (List.mem_of_getElem? he))
  rcases Nat.lt_or_ge i j' with h' | h'
  · have h2 : blt nd.l[i].key nd.l[j'].key = true := sorted_lt (keysOk_iff.1 H).2 (Nd.kv_get he) (Nd.kv_get he') h'
    exact blt_le_trans (blt_trans h1 h2) hq
  · have : i = j' := by omega
    subst this
    exact blt_le_trans h1 hq
end
theorem pairwise_flat {α β : Type} {R : β → β → Prop} {g : α → List β} : ∀ {l : List α}, (∀ x ∈ l, (g x).Pairwise R) → (∀ (i j : Nat) (x y : α), i < j → l[i]? = some x → l[j]? = some y → ∀ p ∈ g x, ∀ q ∈ g y, R p q) → (l.flatMap g).Pairwise R
  | [], _, _ => List.Pairwise.nil
  | x :: l, h1, h2 => by
    rw [List.flatMap_cons, List.pairwise_append]
    refine ⟨h1 x List.mem_cons_self, pairwise_flat (fun y hy => h1 y (List.mem_cons_of_mem _ hy)) fun i j y z hij hi hj => h2 (i + 1) (j + 1) y z (by omega) hi hj, fun p hp q hq => ?_⟩
    obtain ⟨y, hy, hq⟩ := List.mem_flatMap.1 hq
    obtain ⟨j, hj⟩ := List.mem_iff_getElem?.1 hy
    exact h2 0 (j + 1) x y (by omega) rfl hj p hp q hq
theorem Tr.ents_ok (O : PgOk pg) : ∀ {m id : Nat} {f t : ByteArray}, Tr pg m id f t → (∀ p ∈ ents pg m id, blt p.1 f = false ∧ below t p.1 ∧ may p.1 p.2 = true) ∧ kvSorted (ents pg m id)
  | 0, id, f, t, T => by
    obtain ⟨nd, h1, h2, h3⟩ := T
    obtain ⟨g1, g2⟩ := keysOk_iff.1 h3
    unfold ents
    rw [kvs_eq h1]
    refine ⟨fun p hp => ?_, g2⟩
    obtain ⟨e, he, rfl⟩ := List.mem_map.1 hp
    exact ⟨(g1 e he).1, (g1 e he).2, ((O id nd h1).en e he).1⟩
  | m + 1, id, f, t, T => by
    obtain ⟨nd, h1, h2, h3, h4⟩ := T
    have o := O id nd h1
    have sub := fun j c hj => (h4 j c hj).ents_ok O
    have jl : ∀ {j c}, nd.kids[j]? = some c → j ≤ nd.l.length := fun {j c} hj => by
      have := (List.getElem?_eq_some_iff.1 hj).1
      rw [nd.kids_len] at this; omega
    unfold ents
    rw [kidsOf_eq h1]
    refine ⟨fun p hp => ?_, pairwise_flat (fun c hc => ?_) fun i j x y hij hi hj p hp q hq => ?_⟩
    · obtain ⟨c, hc, hp⟩ := List.mem_flatMap.1 hp
      obtain ⟨j, hj⟩ := List.mem_iff_getElem?.1 hc
      obtain ⟨a, b, c'⟩ := (sub j c hj).1 p hp
      exact ⟨le_trans_blt (lo_ge h3 (jl hj)) a, hi_le o h3 b, c'⟩
    · obtain ⟨j, hj⟩ := List.mem_iff_getElem?.1 hc
      exact (sub j c hj).2
    · exact hi_lo o h3 hij (jl hj) ((sub i x hi).1 p hp).2.1 ((sub j y hj).1 q hq).1
end Go.Proofs.YthbogjbcecmopaaGreatDoor
namespace Go.Proofs.YthbogjbcecmopaaGreatDoor
open Go.Gx
set_option maxRecDepth 100000
set_option linter.unusedVariables false
variable {h : Hp} {K : Value → Hp → Prop} {pb jb db n : Nat} {S : Nat → Prop} {D : Dk} {P : Pg}
def Pg.pgs (P : Pg) (D : Dk) (n : Nat) (i : Nat) : Option Nd := P.node D n (i : Nat)
theorem pgs_ok (E : PgAt h pb jb db S n D P) : PgOk (P.pgs D n) := fun i nd e => node_ok E e
theorem why_iff {P : Pg} {n i : Nat} : P.why n (i : Nat) = 0 ↔ P.used n (i : Nat) = true ∧ i ≠ 0 := by
  unfold Pg.why Pg.used
  constructor
  · intro e
    split at e
    · cases e
    · rename_i h1
      rw [Int.toNat_natCast] at e ⊢
      split at e
      · rename_i h2
        rw [decide_eq_true (by omega), decide_eq_true (by omega), h2]
        exact ⟨rfl, by omega⟩
      · cases e
  · rintro ⟨e, h0⟩
    rw [Bool.and_eq_true_iff, Bool.and_eq_true_iff, decide_eq_true_iff, decide_eq_true_iff] at e
    rw [if_neg (by omega), if_pos e.2.2]
theorem pgs_why {i : Nat} (e : (P.pgs D n i).isSome = true) : P.why n (i : Nat) = 0 := by
  unfold Pg.pgs Pg.node at e
  split at e
  · assumption
  · cases e
theorem pgs_lt {i : Nat} (e : (P.pgs D n i).isSome = true) : 1 ≤ i ∧ i < n := by
  obtain ⟨k, ek, h1, h2, h3⟩ := why_ok (pgs_why e)
  omega
structure CkAt (h : Hp) (tb kt km kb kh kw : Nat) (s : List Nat) (H : Nat) : Prop where
  t : Blk h kt 25 [.pointer (some ⟨tb, 0, none⟩)]
  m : ∃ o xs, h km = some o ∧ MapObj Tryz.prog 3 o xs ∧ ∀ i : Nat, mget xs (.int .i64 (i : Nat)) = if i ∈ s then some (.bool true) else none
  b : Blk h kb 113 [.map (some km)]
  hh : Blk h kh 3 [.int .i64 (H : Nat)]
  w : Blk h kw 114 [.func (.func 64) #[] #[.pointer (some ⟨kb, 0, none⟩), .pointer (some ⟨kt, 0, none⟩), .pointer (some ⟨kh, 0, none⟩), .pointer (some ⟨kw, 0, none⟩)]]
variable {tb k kt km kb kh kw : Nat}
theorem CkAt.ne_m {s : List Nat} {H : Nat} (C : CkAt h tb kt km kb kh kw s H) {c : Nat} {t : TypeId} {vs : List Value} (B : Blk h c t vs) : c ≠ km := by
  rintro rfl
  obtain ⟨o, xs, h1, ⟨es, cl, rfl, _⟩, _⟩ := C.m
  unfold Blk at B
  rw [B] at h1; cases h1
theorem CkAt.sub {s : List Nat} {H : Nat} {h' : Hp} (C : CkAt h tb kt km kb kh kw s H) (g : Sub h h') : CkAt h' tb kt km kb kh kw s H := by
  obtain ⟨o, xs, h1, h2⟩ := C.m
  exact ⟨C.t.sub g, ⟨o, xs, g _ _ h1, h2⟩, C.b.sub g, C.hh.sub g, C.w.sub g⟩
theorem CkAt.add {s : List Nat} {H : Nat} (C : CkAt h tb kt km kb kh kw s H) {o' : Obj} {xs : List (Value × Value)} {id : Nat} (hx : ∀ i : Nat, mget xs (.int .i64 (i : Nat)) = if i ∈ s then some (.bool true) else none) (ho : MapObj Tryz.prog 3 o' (mset xs (.int .i64 (id : Nat)) (.bool true))) :
    CkAt (h.upd km o') tb kt km kb kh kw (s ++ [id]) H := by
  have kp : Keep (fun c => c = km) h (h.upd km o') := Keep.upd _ (.inl rfl)
  refine ⟨C.t.keep kp (C.ne_m C.t), ⟨o', _, Hp.upd_same _ _ _, ho, fun i => ?_⟩, C.b.keep kp (C.ne_m C.b), C.hh.keep kp (C.ne_m C.hh), C.w.keep kp (C.ne_m C.w)⟩
  have h1 := mget_mset xs (.int .i64 (id : Nat)) (.bool true) (.int .i64 (i : Nat))
  by_cases e : i = id
  · rw [h1.1 (key_eq.2 e), if_pos (by rw [e]; exact List.mem_append_right _ (List.mem_singleton.2 rfl))]
  · rw [h1.2 (fun h => e (key_eq.1 h)), hx]
    by_cases e2 : i ∈ s
    · rw [if_pos e2, if_pos (List.mem_append_left _ e2)]
    · rw [if_neg e2, if_neg (fun h => (List.mem_append.1 h).elim e2 fun h => e (List.mem_singleton.1 h))]
theorem CkAt.high {s : List Nat} {H H' : Nat} (C : CkAt h tb kt km kb kh kw s H) : CkAt (h.put kh 0 [.int .i64 (H' : Nat)]) tb kt km kb kh kw s H' := by
  have ne : ∀ {c t vs}, Blk h c t vs → t ≠ 3 → c ≠ kh := fun {c t vs} B ht e => by subst e; exact ht (B.inj C.hh).1
  have mne : km ≠ kh := (C.ne_m C.hh).symm
  obtain ⟨o, xs, h1, h2⟩ := C.m
  exact ⟨C.t.put_ne _ _ (ne C.t (by decide)), ⟨o, xs, (put_ne _ _ _ mne).trans h1, h2⟩, C.b.put_ne _ _ (ne C.b (by decide)), C.hh.put 0 _, C.w.put_ne _ _ (ne C.w (by decide))⟩
theorem flat_take {α β : Type} {g : α → List β} {L : List α} {j : Nat} {c : α} (hc : L[j]? = some c) : (L.take (j + 1)).flatMap g = (L.take j).flatMap g ++ g c := by
  rw [List.take_add_one, hc, List.flatMap_append]; simp
theorem flat_sub {α β : Type} {g : α → List β} (L : List α) (j : Nat) : ((L.take j).flatMap g).Sublist (L.flatMap g) := by
  conv => rhs; rw [← List.take_append_drop j L, List.flatMap_append]
  exact List.sublist_append_left _ _
set_option maxHeartbeats 4000000 in
theorem check_walk (N : Nat) : ∀ {h : Hp} {K : Value → Hp → Prop} {s : List Nat} {H id depth : Nat} {f t : ByteArray}, n - s.length = N → PgAt h pb jb db S n D P → TrAt h tb pb k → ¬ S km → ¬ S kh → CkAt h tb kt km kb kh kw s H → s.Nodup → (∀ i ∈ s, i < n) → 1 ≤ depth → depth ≤ s.length + 1 →
    (∀ m h', Tr (P.pgs D n) m id f t → (s ++ ids (P.pgs D n) m id).Nodup → (H = 0 ∨ H = depth + m) → CkAt h' tb kt km kb kh kw (s ++ ids (P.pgs D n) m id) (depth + m) → Keep (fun c => c = km ∨ c = kh) h h' → K (.int .i64 0) h') →
    (∀ h', (¬ ∃ m, Tr (P.pgs D n) m id f t ∧ (s ++ ids (P.pgs D n) m id).Nodup ∧ (H = 0 ∨ H = depth + m)) → Keep (fun c => c = km ∨ c = kh) h h' → K (.int .i64 4) h') →
    CallsH Tryz.prog 64 #[.int .i64 (id : Nat), .int .i64 (depth : Nat), .string f, .string t, .pointer (some ⟨kb, 0, none⟩), .pointer (some ⟨kt, 0, none⟩), .pointer (some ⟨kh, 0, none⟩), .pointer (some ⟨kw, 0, none⟩)] h K := by
  induction N using Nat.strongRecOn with
  | ind N ih =>
  intro h K s H id depth f t hN E T nm nh C hs hsn hd1 hd h0 h4
  have hn := E.n2
  have hsl := nodup_below n s hs hsn
  have hpk := pgs_ok E
  apply btree_Tree_Check_1.calls
  unfold btree_Tree_Check_1.W
  refine ⟨fun x => h = x ∧ id ∉ s ∧ P.why n (id : Nat) = 0, ?_, ?_⟩
  · rintro x ⟨rfl, his, hw⟩
    obtain ⟨j, ej, j1, j2, j3⟩ := why_ok hw
    have : id = j := by omega
    subst this
    clear ej
    obtain ⟨o, xs, ho, hm, hx⟩ := C.m
    refine ⟨_, C.b.cell' 0 rfl, km, o, xs, rfl, ho, hm, fun o' hm' => ?_⟩
    have C1 := C.add hx hm'
    have kp1 : Keep (fun c => c = km ∨ c = kh) h (h.upd km o') := Keep.upd _ (.inl (.inl rfl))
    have s1 : (s ++ [id]).Nodup := by
      rw [List.nodup_append]
      exact ⟨hs, List.nodup_cons.2 ⟨List.not_mem_nil, List.nodup_nil⟩, fun a ha b hb e => his (by rw [List.mem_singleton.1 hb] at e; rw [← e]; exact ha)⟩
    have s1n : ∀ i ∈ s ++ [id], i < n := fun i hi => (List.mem_append.1 hi).elim (hsn i) fun h => by rw [List.mem_singleton.1 h]; exact j2
    have hsl1 := nodup_below n _ s1 s1n
    rw [List.length_append] at hsl1
    change s.length + 1 ≤ n at hsl1
    have E1 : PgAt (h.upd km o') pb jb db S n D P := E.out kp1 fun c hc h => h.elim (fun e => nm (e ▸ hc)) fun e => nh (e ▸ hc)
    have tne : tb ≠ km ∧ tb ≠ kh := ⟨C.ne_m T, fun e => by subst e; exact absurd (T.inj C.hh).1 (by decide)⟩
    have T1 : TrAt (h.upd km o') tb pb k := Blk.keep T kp1 fun h => h.elim tne.1 tne.2
    generalize h.upd km o' = y at C1 kp1 E1 T1 ⊢
    refine ⟨_, C1.t.cell' 0 rfl, fnI (cap := []) (by kernel_rfl) (load_spec E1 T1 _ (fun e y2 v hv hv4 g2 => ⟨_, _, rfl, split_ne (fun _ => ?_) fun e => absurd e hv⟩) fun nd end_ y2 k' N2 => ⟨_, _, rfl, split_ne (fun e => absurd rfl e) fun _ => ?_⟩)⟩
    · rw [hv4 hw]
      refine h4 y2 ?_ (kp1.trans (g2.keep _))
      rintro ⟨m, Tm, _⟩
      obtain ⟨nd, g1, _⟩ := Tm.node
      rw [show P.pgs D n id = none from e] at g1; cases g1
    have end2 : P.pgs D n id = some nd := end_
    have ok := hpk id nd end2
    have ll := ok.len
    obtain ⟨a, c, N2e, _⟩ := N2.ex
    have C2 := C1.sub N2.sub
    have E2 := E1.sub N2.sub
    have T2 : TrAt y2 tb pb k := Blk.sub T1 N2.sub
    have kp2 : Keep (fun c => c = km ∨ c = kh) h y2 := kp1.trans (N2.sub.keep _)
    have knm : k' ≠ km ∧ k' ≠ kh := by
      obtain ⟨o, _, h1, _⟩ := C1.m
      exact ⟨(fun e => by rw [← e, N2.k0] at h1; cases h1), fun e => by have h2 := C1.hh; unfold Blk at h2; rw [← e, N2.k0] at h2; cases h2⟩
    have anm : ∀ b, blkOf a b → ¬ (b = km ∨ b = kh) := fun b hb e => by
      obtain ⟨a', c', N2', fr⟩ := N2.ex
      have : a = a' := by
        have := N2e.c2.symm.trans N2'.c2
        cases this; rfl
      subst this
      have h1 := fr b hb
      rcases e with rfl | rfl
      · obtain ⟨o, _, h2, _⟩ := C1.m
        rw [h1] at h2; cases h2
      · have h2 := C1.hh; unfold Blk at h2; rw [h1] at h2; cases h2
    clear C1 E1 T1 N2 kp1 C E T ho hm hx hm'
    have bad : ¬ keysOk f t nd.l → ∀ x, y2 = x → K (.int .i64 4) x := fun hb x ex => by
      subst ex
      refine h4 _ ?_ kp2
      rintro ⟨m, Tm, _⟩
      obtain ⟨nd', g1, g2, _⟩ := Tm.node
      rw [end2] at g1; cases g1
      exact hb g2
    refine ⟨k', 0, rfl, _, _, _, N2e.c2, fun la i x m => ∃ j : Nat, i = (j : Int) ∧ m = nd.l.length - j ∧ j ≤ nd.l.length ∧ y2 = x ∧ ((j = 0 ∧ la = f) ∨ (0 < j ∧ (keysOk f t nd.l ↔ chain1 t la (nd.l.drop j)))), ⟨_, 0, rfl, rfl, Nat.zero_le _, rfl, .inl ⟨rfl, rfl⟩⟩, ?_⟩
    rintro la i x m ⟨j, rfl, rfl, hj, rfl, hla⟩
    refine split_dec (fun g => ?_) fun g => ?_
    · have g : (j : Int) < (nd.l.length : Int) := g
      have hj' : j < nd.l.length := by omega
      have he : nd.l[j]? = some nd.l[j] := List.getElem?_eq_getElem hj'
      have hdr : nd.l.drop j = nd.l[j] :: nd.l.drop (j + 1) := List.drop_eq_getElem_cons hj'
      obtain ⟨b, o, ea, g0, g1, g2⟩ := N2e.get he
      have e11 : IntKind.i64.wrap ((j : Int) + 1) = ((j + 1 : Nat) : Int) := by rw [wid (by omega) (by omega)]; omega
      refine ⟨by omega, g, b, o, ea, _, by rw [Int.toNat_natCast]; exact g0, _, by rw [Int.toNat_natCast]; exact g1, _, by rw [Int.toNat_natCast]; exact g2, ?_⟩
      rw [e11, bltS_val, bltS_val]
      have fin : (j = 0 → blt nd.l[j].key f = false) → (0 < j → blt la nd.l[j].key = true) → below t nd.l[j].key → (keysOk f t nd.l ↔ chain1 t nd.l[j].key (nd.l.drop (j + 1))) := fun q1 q2 q3 => by
        rcases hla with ⟨rfl, rfl⟩ | ⟨hj0, hk⟩
        · have e0 : nd.l = nd.l[0] :: nd.l.drop 1 := by rw [← hdr]; rfl
          conv => lhs; rw [e0]
          exact ⟨fun h => h.2.2, fun h => ⟨q1 rfl, q3, h⟩⟩
        · rw [hk, hdr]
          exact ⟨fun h => h.2.2, fun h => ⟨q2 hj0, q3, h⟩⟩
      refine split_dec (fun gp => ?_) fun gp => ?_
      · have hj0 : 0 < j := by have gp : (j : Int) > 0 := gp; omega
        obtain ⟨_, hk⟩ := hla.resolve_left fun h => by omega
        refine split_cond (fun e => bad (fun hb => ?_) _ rfl) fun e => split_cond (fun e2 => ?_) fun e2 => ?_
        · have := hk.1 hb
          rw [hdr] at this
          have h1 := this.1
          rw [beqS_val] at e
          rw [Bool.or_eq_true] at e
          rcases e with e | e
          · rw [blt_asymm h1] at e; cases e
          · rw [of_decide_eq_true e, blt_irrefl] at h1; cases h1
        · rw [e2] at e; cases e
        · have hlt : blt la nd.l[j].key = true := by
            have := ble_not nd.l[j].key la
            rw [e] at this; exact this.symm
          refine split_not (fun e3 => split_not (fun e4 => bad (fun hb => ?_) _ rfl) fun e4 => ?_) fun e3 => ?_
          · have := hk.1 hb
            rw [hdr] at this
            rw [this.2.1 (fun et => by rw [beqS_val, decide_eq_true et] at e3; cases e3)] at e4; cases e4
          · exact ⟨_, by omega, j + 1, rfl, rfl, hj', rfl, .inr ⟨by omega, fin (fun e => by omega) (fun _ => hlt) fun _ => e4⟩⟩
          · exact ⟨_, by omega, j + 1, rfl, rfl, hj', rfl, .inr ⟨by omega, fin (fun e => by omega) (fun _ => hlt) fun ht => by rw [beqS_val] at e3; exact absurd (of_decide_eq_true e3) ht⟩⟩
      · have hj0 : j = 0 := by have gp : ¬ (j : Int) > 0 := gp; omega
        obtain ⟨_, rfl⟩ := hla.resolve_right fun h => by omega
        subst hj0
        have e0 : nd.l = nd.l[0] :: nd.l.drop 1 := by rw [← hdr]; rfl
        refine split_cond (fun e => bad (fun hb => ?_) _ rfl) fun e => ?_
        · rw [e0] at hb
          rw [hb.1] at e; cases e
        · refine split_not (fun e3 => split_not (fun e4 => bad (fun hb => ?_) _ rfl) fun e4 => ?_) fun e3 => ?_
          · rw [e0] at hb
            rw [hb.2.1 (fun et => by rw [beqS_val, decide_eq_true et] at e3; cases e3)] at e4; cases e4
          · exact ⟨_, by omega, 1, rfl, rfl, hj', rfl, .inr ⟨by omega, fin (fun _ => e) (fun e => by omega) fun _ => e4⟩⟩
          · exact ⟨_, by omega, 1, rfl, rfl, hj', rfl, .inr ⟨by omega, fin (fun _ => e) (fun e => by omega) fun ht => by rw [beqS_val] at e3; exact absurd (of_decide_eq_true e3) ht⟩⟩
    · have hjl : j = nd.l.length := by have g : ¬ (j : Int) < (nd.l.length : Int) := g; omega
      have kok : keysOk f t nd.l := by
        rcases hla with ⟨h1, _⟩ | ⟨_, h2⟩
        · have : nd.l = [] := List.length_eq_zero_iff.1 (by omega)
          rw [this]; trivial
        · rw [h2, hjl, List.drop_length]; trivial
      clear hla bad g
      refine ⟨k', 0, rfl, _, N2e.c0, ?_⟩
      cases hlf : nd.leaf with
      | true =>
        have ek : ((nd.kind : Nat) : Int) = 1 := by unfold Nd.kind; rw [hlf]; rfl
        rw [ek]
        have T0 : Tr (P.pgs D n) 0 id f t := ⟨nd, end2, hlf, kok⟩
        refine split_eq (fun _ => ⟨_, C2.hh.cell' 0 rfl, split_eq (fun e0 => ⟨C2.hh.store (by show 1 ≤ 1; decide), _, (C2.hh.put 0 _).cell' 0 rfl, split_ne (fun e => absurd rfl e) fun _ => ?_⟩) fun e0 => ⟨_, C2.hh.cell' 0 rfl, split_ne (fun e1 => h4 _ ?_ kp2) fun e1 => ?_⟩⟩) fun e => absurd rfl e
        · exact h0 0 _ T0 s1 (.inl (by omega)) C2.high (kp2.trans (Keep.put _ _ _ _ (.inr rfl)))
        · rintro ⟨m, Tm, _, hH⟩
          have := Tm.inj T0
          omega
        · have : H = depth := by omega
          subst this
          exact h0 0 _ T0 s1 (.inr rfl) C2 kp2
      | false =>
        have ek : ((nd.kind : Nat) : Int) = 2 := by unfold Nd.kind; rw [hlf]; rfl
        rw [ek]
        refine split_eq (fun e => by cases e) fun _ => ?_
        have kl := nd.kids_len
        refine ⟨fun i x M => ∃ (j m : Nat), i = (j : Int) - 1 ∧ M = nd.kids.length - j ∧ j ≤ nd.kids.length ∧ CkAt x tb kt km kb kh kw (s ++ [id] ++ (nd.kids.take j).flatMap (ids (P.pgs D n) m)) (if j = 0 then H else depth + 1 + m) ∧
          (∀ i, i < j → ∀ c, nd.kids[i]? = some c → Tr (P.pgs D n) m c (nd.lo f i) (nd.hi t i)) ∧ (j ≠ 0 → H = 0 ∨ H = depth + 1 + m) ∧ (s ++ [id] ++ (nd.kids.take j).flatMap (ids (P.pgs D n) m)).Nodup ∧ Keep (fun c => c = km ∨ c = kh) y2 x, ⟨_, 0, 0, by decide, rfl, Nat.zero_le _, ?_, (fun i hi => by omega), (fun e => absurd rfl e), ?_, Keep.refl _ _⟩, ?_⟩
        · rw [List.take_zero, List.flatMap_nil, List.append_nil, if_pos rfl]; exact C2
        · rw [List.take_zero, List.flatMap_nil, List.append_nil]; exact s1
        rintro i x M ⟨j, m, rfl, rfl, hj, Cx, hT, hH, hnd, kpx⟩
        have outx : ∀ c, S c → ¬ (c = km ∨ c = kh) := fun c hc h => h.elim (fun e => nm (e ▸ hc)) fun e => nh (e ▸ hc)
        have Ex := E2.out kpx outx
        have Tx : TrAt x tb pb k := Blk.keep T2 kpx fun h => h.elim tne.1 tne.2
        have Nx := N2e.out kpx (fun h => h.elim knm.1 knm.2) anm
        refine ⟨k', 0, rfl, _, _, _, Nx.c2, split_dec (fun g => ?_) fun g => ?_⟩
        · have g : (j : Int) - 1 < (nd.l.length : Int) := g
          have hj' : j < nd.kids.length := by omega
          obtain ⟨c', hc'⟩ : ∃ c', nd.kids[j]? = some c' := ⟨_, List.getElem?_eq_getElem hj'⟩
          have e12 : IntKind.i64.wrap ((j : Int) - 1 + 1) = ((j + 1 : Nat) : Int) - 1 := by rw [wid (by omega) (by omega)]; omega
          have e13 : IntKind.i64.wrap ((depth : Int) + 1) = ((depth + 1 : Nat) : Int) := by rw [wid (by omega) (by omega)]; omega
          have sub : ∀ i ∈ s ++ [id] ++ (nd.kids.take j).flatMap (ids (P.pgs D n) m), i < n := fun i hi => by
            rcases List.mem_append.1 hi with hi | hi
            · exact s1n i hi
            · obtain ⟨c, hc, hi⟩ := List.mem_flatMap.1 hi
              obtain ⟨q, hq⟩ := List.mem_iff_getElem?.1 hc
              rw [List.getElem?_take] at hq
              split at hq
              · rename_i hqj
                exact (pgs_lt ((hT q hqj c hq).in_pg i hi)).2
              · cases hq
          have hl2 : (s ++ [id] ++ (nd.kids.take j).flatMap (ids (P.pgs D n) m)).length = s.length + 1 + ((nd.kids.take j).flatMap (ids (P.pgs D n) m)).length := by rw [List.length_append, List.length_append]; rfl
          have hl3 := nodup_below n _ hnd sub
          refine fnI (cap := []) (by kernel_rfl) (keys_spec Nx (by omega) (by omega) _ _ ⟨_, _, rfl, _, Cx.w.cell' 0 rfl, fnI (cap := []) (by kernel_rfl) (kid_spec Nx hc' ⟨_, rfl, Sub.refl _, fnI (cap := [_, _, _, _]) (by kernel_rfl) ?_⟩)⟩)
          rw [e12, e13]
          refine ih (n - (s ++ [id] ++ (nd.kids.take j).flatMap (ids (P.pgs D n) m)).length) (by omega) rfl Ex Tx nm nh Cx hnd sub (by omega) (by omega) (fun mc h' Tc ndc Hc Cc kpc => ⟨_, rfl, split_ne (fun e => absurd rfl e) fun _ => ⟨nd.kids.length - (j + 1), by omega, ?_⟩⟩) fun h' no kpc => ⟨_, rfl, split_ne (fun _ => h4 h' ?_ (kp2.trans (kpx.trans kpc))) fun e => by cases e⟩
          · have ec : j ≠ 0 → mc = m := fun hj0 => by
              rw [if_neg hj0] at Hc; omega
            have et : (nd.kids.take j).flatMap (ids (P.pgs D n) m) ++ ids (P.pgs D n) mc c' = (nd.kids.take (j + 1)).flatMap (ids (P.pgs D n) mc) := by
              rw [flat_take hc']
              by_cases hj0 : j = 0
              · subst hj0; rfl
              · rw [ec hj0]
            rw [List.append_assoc, et] at Cc ndc
            refine ⟨j + 1, mc, rfl, rfl, by omega, by rw [if_neg (by omega)]; exact Cc, fun i hi c hc => ?_, fun _ => ?_, ndc, kpx.trans kpc⟩
            · by_cases ei : i = j
              · subst ei
                rw [hc'] at hc; cases hc
                exact Tc
              · rw [ec (by omega)]
                exact hT i (by omega) c hc
            · by_cases hj0 : j = 0
              · rw [if_pos hj0] at Hc; exact Hc
              · rw [ec hj0]; exact hH hj0
          · rintro ⟨m2, Tm, ndm, Hm⟩
            cases m2 with
            | zero =>
              obtain ⟨nd', q1, q2, _⟩ := Tm
              rw [end2] at q1; cases q1; rw [hlf] at q2; cases q2
            | succ m2 =>
              obtain ⟨nd', q1, q2, q3, q4⟩ := Tm
              rw [end2] at q1; cases q1
              have em : j ≠ 0 → m2 = m := fun hj0 => (q4 0 nd.first rfl).inj (hT 0 (by omega) nd.first rfl)
              have et : (nd.kids.take j).flatMap (ids (P.pgs D n) m) = (nd.kids.take j).flatMap (ids (P.pgs D n) m2) := by
                by_cases hj0 : j = 0
                · subst hj0; rfl
                · rw [em hj0]
              refine no ⟨m2, q4 j c' hc', ?_, ?_⟩
              · rw [et, List.append_assoc, ← flat_take hc', List.append_assoc]
                refine ndm.sublist (List.Sublist.append_left ?_ s)
                show List.Sublist (id :: (nd.kids.take (j + 1)).flatMap (ids (P.pgs D n) m2)) _
                unfold ids
                rw [kidsOf_eq end2]
                exact List.Sublist.cons_cons _ (flat_sub _ _)
              · by_cases hj0 : j = 0
                · rw [if_pos hj0]; omega
                · rw [if_neg hj0, em hj0]; right; rfl
        · have hjl : j = nd.kids.length := by have g : ¬ (j : Int) - 1 < (nd.l.length : Int) := g; omega
          have hj0 : j ≠ 0 := by omega
          rw [if_neg hj0] at Cx
          rw [hjl, List.take_length] at Cx hnd
          have ei : s ++ [id] ++ nd.kids.flatMap (ids (P.pgs D n) m) = s ++ ids (P.pgs D n) (m + 1) id := by
            rw [List.append_assoc]
            congr 1
            unfold ids
            rw [kidsOf_eq end2]
            cases m <;> rfl
          rw [ei] at Cx hnd
          refine h0 (m + 1) x ⟨nd, end2, hlf, kok, fun i c hc => hT i (by have := (List.getElem?_eq_some_iff.1 hc).1; omega) c hc⟩ hnd ?_ ?_ (kp2.trans kpx)
          · have := hH hj0; omega
          · rw [show depth + (m + 1) = depth + 1 + m by omega]; exact Cx
  · obtain ⟨o, xs, ho, hm, hx⟩ := C.m
    have no : ∀ (q : ∀ m, Tr (P.pgs D n) m id f t → (s ++ ids (P.pgs D n) m id).Nodup → False), ¬ ∃ m, Tr (P.pgs D n) m id f t ∧ (s ++ ids (P.pgs D n) m id).Nodup ∧ (H = 0 ∨ H = depth + m) := fun q ⟨m, a, b, _⟩ => q m a b
    refine ⟨_, C.b.cell' 0 rfl, km, o, xs, rfl, ho, hm, ?_⟩
    have hxi := hx id
    by_cases his : id ∈ s
    · rw [if_pos his] at hxi
      refine ⟨true, true, .inl ⟨rfl, hxi⟩, split_cond (fun _ => h4 h (no fun m Tm ndm => ?_) (Keep.refl _ _)) fun e => by cases e⟩
      exact (List.nodup_append.1 ndm).2.2 id his id ids_self rfl
    · rw [if_neg his] at hxi
      refine ⟨false, false, .inr ⟨rfl, hxi, rfl⟩, split_cond (fun e => by cases e) fun _ => ⟨_, C.t.cell' 0 rfl, tb, 0, rfl, _, T.cell' 0 rfl, fnI (cap := []) (by kernel_rfl) (used_spec E _ ⟨_, rfl, split_not (fun eu => h4 h (no fun m Tm ndm => ?_) (Keep.refl _ _)) fun eu => split_eq (fun e0 => h4 h (no fun m Tm ndm => ?_) (Keep.refl _ _)) fun e0 => ⟨rfl, his, ?_⟩⟩)⟩⟩
      · have := why_iff.1 (pgs_why (Tm.in_pg id ids_self))
        rw [this.1] at eu; cases eu
      · exact (why_iff.1 (pgs_why (Tm.in_pg id ids_self))).2 (by omega)
      · exact why_iff.2 ⟨eu, by omega⟩
end Go.Proofs.YthbogjbcecmopaaGreatDoor
namespace Go.Proofs.YthbogjbcecmopaaGreatDoor
open Go.Gx
set_option maxRecDepth 100000
set_option linter.unusedVariables false
variable {h : Hp} {K : Value → Hp → Prop} {pb jb db n : Nat} {S : Nat → Prop} {D : Dk} {P : Pg} {tb k : Nat}
def Tree (pg : Nat → Option Nd) (root : Nat) (hg : Nat) (L : List KV) (I : List Nat) : Prop := match hg with
  | 0 => root = 0 ∧ L = [] ∧ I = []
  | m + 1 => root ≠ 0 ∧ Tr pg m root eB eB ∧ L = ents pg m root ∧ I = ids pg m root ∧ I.Nodup
theorem Tree.inj {pg : Nat → Option Nd} {root hg hg' : Nat} {L L' : List KV} {I I' : List Nat} (T : Tree pg root hg L I) (T' : Tree pg root hg' L' I') : hg = hg' ∧ L = L' ∧ I = I' := by
  cases hg with
  | zero =>
    cases hg' with
    | zero => exact ⟨rfl, T.2.1.trans T'.2.1.symm, T.2.2.trans T'.2.2.symm⟩
    | succ m' => exact absurd T.1 T'.1
  | succ m =>
    cases hg' with
    | zero => exact absurd T'.1 T.1
    | succ m' =>
      have := T.2.1.inj T'.2.1
      subst this
      exact ⟨rfl, T.2.2.1.trans T'.2.2.1.symm, T.2.2.2.1.trans T'.2.2.2.1.symm⟩
theorem fresh_put {h : Hp} {b : Nat} {t : TypeId} {vs us : List Value} (hb : h b = none) : Sub h ((h.upd b (.cells vs.toArray t (0, 0))).put b 0 us) ∧ Blk ((h.upd b (.cells vs.toArray t (0, 0))).put b 0 us) b t (setL vs 0 us) :=
  ⟨(Keep.put (fun c => c = b) _ _ _ rfl).sub (Sub.upd hb _) fun c e => by rw [e]; exact hb, (Blk.new h b t vs).put 0 us⟩
theorem S_out (E : PgAt h pb jb db S n D P) {c : Nat} (hc : h c = none) : ¬ S c := fun hs => E.in_heap hs hc
set_option maxHeartbeats 1000000 in
theorem check_spec (E : PgAt h pb jb db S n D P) (T : TrAt h tb pb k) (hk : k < 4) (hK : ∀ h' v, Sub h h' → ((v = 0 ∧ ∃ hg L I, Tree (P.pgs D n) (P.now.r k) hg L I) ∨ (v = 4 ∧ ¬ ∃ hg L I, Tree (P.pgs D n) (P.now.r k) hg L I)) → K (.int .i64 v) h') :
    CallsH Tryz.prog btree_Tree_Check.id #[.pointer (some ⟨tb, 0, none⟩)] h K := by
  have hn := E.n2
  apply btree_Tree_Check.calls
  unfold btree_Tree_Check.W
  intro k1 hk1
  have B1 := Blk.new h k1 25 [.pointer (some ⟨tb, 0, none⟩)]
  have s1 := Sub.upd hk1 (.cells [Value.pointer (some ⟨tb, 0, none⟩)].toArray 25 (0, 0))
  generalize h.upd k1 (.cells [Value.pointer (some ⟨tb, 0, none⟩)].toArray 25 (0, 0)) = y1 at B1 s1 ⊢
  refine ⟨_, B1.cell' 0 rfl, split_cond (fun e => by cases e) fun _ => ?_⟩
  intro k3 hk3 x4 hm k5 hk5
  have g3 := Hp.upd_same y1 k3 x4
  have s3 := Sub.upd hk3 x4
  generalize y1.upd k3 x4 = y2 at hk5 g3 s3 ⊢
  obtain ⟨s5, B5⟩ := fresh_put (t := 113) (vs := [.map none]) (us := [.map (some k3)]) hk5
  refine ⟨(Blk.new y2 k5 113 [.map none]).store (by show 1 ≤ 1; decide), fun k6 hk6 => ?_⟩
  generalize (y2.upd k5 (.cells [Value.map none].toArray 113 (0, 0))).put k5 0 [.map (some k3)] = y4 at s5 B5 hk6 ⊢
  obtain ⟨s6, B6⟩ := fresh_put (t := 3) (vs := [.int .i64 0]) (us := [.int .i64 0]) hk6
  refine ⟨(Blk.new y4 k6 3 [.int .i64 0]).store (by show 1 ≤ 1; decide), fun k7 hk7 => ?_⟩
  generalize (y4.upd k6 (.cells [Value.int .i64 0].toArray 3 (0, 0))).put k6 0 [.int .i64 0] = y6 at s6 B6 hk7 ⊢
  obtain ⟨s7, B7⟩ := fresh_put (t := 114) (vs := [.nilFunc]) (us := [.func (.func 64) #[] #[.pointer (some ⟨k5, 0, none⟩), .pointer (some ⟨k1, 0, none⟩), .pointer (some ⟨k6, 0, none⟩), .pointer (some ⟨k7, 0, none⟩)]]) hk7
  refine ⟨(Blk.new y6 k7 114 [.nilFunc]).store (by show 1 ≤ 1; decide), ?_⟩
  generalize (y6.upd k7 (.cells [Value.nilFunc].toArray 114 (0, 0))).put k7 0 [.func (.func 64) #[] #[.pointer (some ⟨k5, 0, none⟩), .pointer (some ⟨k1, 0, none⟩), .pointer (some ⟨k6, 0, none⟩), .pointer (some ⟨k7, 0, none⟩)]] = y8 at s7 B7 ⊢
  have s13 := s1.trans s3
  have s68 := s6.trans s7
  have s8 : Sub h y8 := (s13.trans s5).trans s68
  have C : CkAt y8 tb k1 k3 k5 k6 k7 [] 0 := ⟨B1.sub ((s3.trans s5).trans s68), ⟨x4, [], (s5.trans s68) _ _ g3, hm, fun i => rfl⟩, B5.sub s68, B6.sub s7, B7⟩
  have E8 := E.sub s8
  have T8 : TrAt y8 tb pb k := Blk.sub T s8
  refine ⟨_, C.t.cell' 0 rfl, tb, 0, rfl, _, T8.cell' 0 rfl, _, C.t.cell' 0 rfl, tb, 0, rfl, _, T8.cell' 1 rfl, fnI (cap := []) (by kernel_rfl) (root_spec E8 hk ⟨_, rfl, split_ne (fun e => ?_) fun e => ?_⟩)⟩
  · refine ⟨_, C.w.cell' 0 rfl, fnI (cap := [_, _, _, _]) (by kernel_rfl) (check_walk _ (id := P.now.r k) (depth := 1) rfl E8 T8 (S_out E (s1.none hk3)) (S_out E ((s13.trans s5).none hk6)) C List.nodup_nil (fun i hi => by cases hi) (by decide) (by decide) (fun m h' Tm nd _ _ kp => ⟨_, rfl, hK h' _ ?_ (.inl ⟨rfl, m + 1, _, _, ?_, Tm, rfl, rfl, by simpa using nd⟩)⟩) fun h' no kp => ⟨_, rfl, hK h' _ ?_ (.inr ⟨rfl, ?_⟩)⟩)⟩
    · exact kp.sub s8 fun c hc => hc.elim (fun e => by rw [e]; exact s1.none hk3) fun e => by rw [e]; exact (s13.trans s5).none hk6
    · omega
    · exact kp.sub s8 fun c hc => hc.elim (fun e => by rw [e]; exact s1.none hk3) fun e => by rw [e]; exact (s13.trans s5).none hk6
    · rintro ⟨hg, L, I, TT⟩
      cases hg with
      | zero => exact e (by rw [TT.1]; rfl)
      | succ m => exact no ⟨m, TT.2.1, by rw [List.nil_append, ← TT.2.2.2.1]; exact TT.2.2.2.2, .inl rfl⟩
  · exact hK y8 0 s8 (.inl ⟨rfl, 0, [], [], by omega, rfl, rfl⟩)
theorem open_spec (E : PgAt h pb jb db S n D P) (hk : k < 4) (hG : ∀ h' tb, Sub h h' → h tb = none → TrAt h' tb pb k → (∃ hg L I, Tree (P.pgs D n) (P.now.r k) hg L I) → K (.tuple #[.pointer (some ⟨tb, 0, none⟩), .int .i64 0]) h')
    (hB : (¬ ∃ hg L I, Tree (P.pgs D n) (P.now.r k) hg L I) → ∀ h', Sub h h' → K (.tuple #[.pointer none, .int .i64 4]) h') : CallsH Tryz.prog btree_Open.id #[.pointer (some ⟨pb, 0, none⟩), .int .i64 (k : Nat)] h K := by
  apply btree_Open.calls
  unfold btree_Open.W
  refine ⟨fun x => h = x, ?_, split_dec (fun e => by omega) fun _ => split_dec (fun e => by omega) fun _ => rfl⟩
  rintro x rfl k3 hk3
  have s3 := Sub.upd hk3 (.cells [Value.pointer (some ⟨pb, 0, none⟩), .int .i64 (k : Nat)].toArray 89 (0, 0))
  have T : TrAt _ k3 pb k := Blk.new h k3 89 [.pointer (some ⟨pb, 0, none⟩), .int .i64 (k : Nat)]
  refine check_spec (E.sub s3) T hk fun h' v s4 hv => ⟨_, rfl, ?_⟩
  rcases hv with ⟨rfl, hv⟩ | ⟨rfl, hv⟩
  · exact split_ne (fun e => absurd rfl e) fun _ => hG h' k3 (s3.trans s4) hk3 (Blk.sub T s4) hv
  · exact split_ne (fun _ => hB hv h' (s3.trans s4)) fun e => by cases e
theorem opened_spec (q : Nat) (h1 : 2 ≤ q) (h2 : q ≤ 24) (hK : ∀ h' tb pb jb db S, Sub h h' → PgAt h' pb jb db S q (Dk.new (8 * q + 1)) newPg → (∀ c, S c → h c = none) → TrAt h' tb pb 1 → h tb = none → ¬ S tb → K (.tuple #[.pointer (some ⟨db, 0, none⟩), .pointer (some ⟨pb, 0, none⟩), .pointer (some ⟨tb, 0, none⟩)]) h') :
    CallsH Tryz.prog law15_opened.id #[.int .i64 (q : Nat)] h K := by
  apply law15_opened.calls
  unfold law15_opened.W
  refine split_dec (fun e => by omega) fun _ => split_dec (fun e => by omega) fun _ => ?_
  have e1 : IntKind.i64.wrap (IntKind.i64.wrap (8 * (q : Int)) + 1) = ((8 * q + 1 : Nat) : Int) := by rw [wid (x := 8 * (q : Int)) (by omega) (by omega), wid (by omega) (by omega)]; omega
  rw [e1]
  refine dnew_spec (8 * q + 1) (by omega) (by omega) fun h3 db S3 D3 s3 f3 => ⟨_, _, rfl, ?_⟩
  refine jopen_spec D3 rfl q (by omega) (by omega) (by show _ ≤ (List.replicate _ _).length; rw [List.length_replicate]; exact Nat.le_refl _) (new_read _ (by omega)) fun h4 jb S4 J4 s4 f4 => ⟨_, _, rfl, ?_⟩
  have hz := new_own (8 * q + 1) q 0 (by omega)
  refine popen_spec J4 rfl h1 (fun e => absurd hz e) fun H hH h5 pb S5 n5 st5 E => ⟨_, _, rfl, ?_⟩
  rcases hH with ⟨_, rfl⟩ | ⟨e, _⟩
  · have fr : ∀ c, S5 c → h c = none := fun c hc => by
      rcases st5.2 c hc with h' | h'
      · rcases f4 c h' with h' | h'
        · exact f3 c h'
        · exact s3.none h'
      · exact s3.none (s4.none h')
    have s5 : Sub h h5 := st5.1.sub (s3.trans s4) fun c hc => by
      rcases f4 c hc with h' | h'
      · exact f3 c h'
      · exact s3.none h'
    refine open_spec E (k := 1) (by decide) (fun h6 tb s6 n6 T _ => ⟨_, _, rfl, hK h6 tb pb jb db S5 (s5.trans s6) (E.sub s6) fr T (s5.none n6) (S_out E n6)⟩) fun no => absurd ⟨0, [], [], rfl, rfl, rfl⟩ no
  · exact absurd hz e
theorem height_spec (E : PgAt h pb jb db S n D P) (T : TrAt h tb pb k) (hk : k < 4) {hg : Nat} {L : List KV} {I : List Nat} (TT : Tree (P.pgs D n) (P.now.r k) hg L I) (hhg : hg ≤ 1000) (hK : ∀ h', Sub h h' → K (.int .i64 (hg : Nat)) h') :
    CallsH Tryz.prog btree_Tree_Height.id #[.pointer (some ⟨tb, 0, none⟩)] h K := by
  have hpk := pgs_ok E
  apply btree_Tree_Height.calls
  unfold btree_Tree_Height.W
  refine ⟨_, T.cell' 0 rfl, _, T.cell' 1 rfl, root_spec E hk ⟨_, rfl, ?_⟩⟩
  refine ⟨fun i id x m => ∃ a c : Nat, i = (a : Int) ∧ id = (c : Int) ∧ a + m = hg ∧ Sub h x ∧ (m = 0 → c = 0) ∧ ∀ m', m = m' + 1 → c ≠ 0 ∧ ∃ f t, Tr (P.pgs D n) m' c f t, ⟨hg, 0, P.now.r k, rfl, rfl, Nat.zero_add _, Sub.refl h, ?_, ?_⟩, ?_⟩
  · intro e; subst e; exact TT.1
  · rintro m' rfl; exact ⟨TT.1, _, _, TT.2.1⟩
  rintro i id x m ⟨a, c, rfl, rfl, ham, sx, hz, hs⟩
  refine split_ne (fun e => ?_) fun e => ?_
  · obtain ⟨m', rfl⟩ : ∃ m', m = m' + 1 := by
      cases m with
      | zero => exact absurd (by rw [hz rfl]; rfl) e
      | succ m' => exact ⟨m', rfl⟩
    obtain ⟨c0, f, t, Tm⟩ := hs m' rfl
    have e1 : IntKind.i64.wrap ((a : Int) + 1) = ((a + 1 : Nat) : Int) := by rw [wid (by omega) (by omega)]; omega
    rw [e1]
    refine load_spec (E.sub sx) (Blk.sub T sx) _ (fun e => ?_) fun nd e y k' N => ⟨_, _, rfl, split_ne (fun e => absurd rfl e) fun _ => ?_⟩
    · obtain ⟨nd, g1, _⟩ := Tm.node
      rw [show P.pgs D n c = none from e] at g1; cases g1
    · obtain ⟨al, cl, Ne, _⟩ := N.ex
      have sy := sx.trans N.sub
      refine ⟨k', 0, rfl, _, Ne.c0, split_eq (fun ek => ?_) fun ek => ?_⟩
      · obtain ⟨nd', g1, g2, g3⟩ := Tm.node
        rw [show P.pgs D n c = some nd from e] at g1; cases g1
        have : m' = 0 := g3.1 (by
          cases hlf : nd.leaf with
          | true => rfl
          | false => unfold Nd.kind at ek; rw [hlf] at ek; cases ek)
        subst this
        have : a + 1 = hg := by omega
        rw [this]; exact hK y sy
      · cases m' with
        | zero =>
          obtain ⟨nd', g1, g2, g3⟩ := Tm
          rw [show P.pgs D n c = some nd from e] at g1; cases g1
          unfold Nd.kind at ek; rw [g2] at ek; exact absurd rfl ek
        | succ m2 =>
          obtain ⟨nd', g1, g2, g3, g4⟩ := Tm
          rw [show P.pgs D n c = some nd from e] at g1; cases g1
          have T0 := g4 0 nd.first rfl
          refine ⟨k', 0, rfl, _, Ne.c1, m2 + 1, by omega, a + 1, nd.first, rfl, rfl, by omega, sy, (fun h => by cases h), fun m3 h3 => ?_⟩
          cases h3
          refine ⟨?_, _, _, T0⟩
          have := pgs_lt (T0.in_pg _ ids_self)
          omega
  · cases m with
    | zero => rw [show a = hg by omega]; exact hK x sx
    | succ m' => exact absurd (by omega) (hs m' rfl).1
end Go.Proofs.YthbogjbcecmopaaGreatDoor
namespace Go.Proofs.YthbogjbcecmopaaGreatDoor
open Go.Gx
set_option maxRecDepth 100000
set_option linter.unusedVariables false
variable {h : Hp} {K : Value → Hp → Prop} {pb jb db n : Nat} {S : Nat → Prop} {D : Dk} {P : Pg} {tb k : Nat}
theorem get_kid {pg : Nat → Option Nd} (O : PgOk pg) {m id c : Nat} {f t key : ByteArray} {nd : Nd} (e : pg id = some nd) (T : Tr pg (m + 1) id f t) (hc : nd.kids[kvBe key nd.kv]? = some c) : kvGet key (ents pg (m + 1) id) = kvGet key (ents pg m c) := by
  have s1 := (T.ents_ok O).2
  obtain ⟨nd', g1, g2, g3, g4⟩ := T
  rw [e] at g1; cases g1
  have sub := fun j c hj => (g4 j c hj).ents_ok O
  have s2 := (sub _ c hc).2
  have hbe := kvBe_le key nd.kv
  rw [nd.kv_len] at hbe
  apply Option.ext
  intro v
  show kvGet key _ = some v ↔ kvGet key _ = some v
  rw [kvGet_iff s1, kvGet_iff s2]
  unfold ents
  rw [kidsOf_eq e]
  constructor
  · intro hm
    obtain ⟨c', hc', hm⟩ := List.mem_flatMap.1 hm
    obtain ⟨j, hj⟩ := List.mem_iff_getElem?.1 hc'
    obtain ⟨q1, q2, q3⟩ := (sub j c' hj).1 _ hm
    have jl : j ≤ nd.l.length := by
      have := (List.getElem?_eq_some_iff.1 hj).1
      rw [nd.kids_len] at this; omega
    rcases Nat.lt_trichotomy j (kvBe key nd.kv) with h' | h' | h'
    · have he : nd.l[j]? = some nd.l[j] := List.getElem?_eq_getElem (by omega)
      have := kvBe_before key nd.kv j _ (Nd.kv_get he) h'
      rw [Nd.hi_some he] at q2
      have q2 : blt key nd.l[j].key = true := q2 ((O id nd e).key_ne (List.mem_of_getElem? he))
      rw [show blt key nd.l[j].key = false from this] at q2; cases q2
    · subst h'
      rw [hc] at hj; cases hj
      cases m <;> exact hm
    · obtain ⟨i, rfl⟩ : ∃ i, j = i + 1 := ⟨j - 1, by omega⟩
      have he : nd.l[i]? = some nd.l[i] := List.getElem?_eq_getElem (by omega)
      have := kvBe_after (keysOk_iff.1 g3).2 (Nd.kv_get he) (by omega : kvBe key nd.kv ≤ i)
      rw [Nd.lo_succ he] at q1
      rw [show blt key nd.l[i].key = true from this] at q1; cases q1
  · intro hm
    exact List.mem_flatMap.2 ⟨c, List.mem_of_getElem? hc, by cases m <;> exact hm⟩
theorem get_spec (E : PgAt h pb jb db S n D P) (T : TrAt h tb pb k) (hk : k < 4) {hg : Nat} {L : List KV} {I : List Nat} (TT : Tree (P.pgs D n) (P.now.r k) hg L I) (key : ByteArray) (hK : ∀ h', Sub h h' → K (.tuple #[.string ((kvGet key L).getD eB), .bool (kvGet key L).isSome]) h') :
    CallsH Tryz.prog btree_Tree_Get.id #[.pointer (some ⟨tb, 0, none⟩), .string key] h K := by
  have hpk := pgs_ok E
  apply btree_Tree_Get.calls
  unfold btree_Tree_Get.W
  refine ⟨_, T.cell' 0 rfl, _, T.cell' 1 rfl, root_spec E hk ⟨_, rfl, ?_⟩⟩
  refine ⟨fun id x m => ∃ c : Nat, id = (c : Int) ∧ Sub h x ∧ (m = 0 → c = 0 ∧ kvGet key L = none) ∧ ∀ m', m = m' + 1 → c ≠ 0 ∧ (∃ f t, Tr (P.pgs D n) m' c f t) ∧ kvGet key L = kvGet key (ents (P.pgs D n) m' c), ⟨hg, P.now.r k, rfl, Sub.refl h, ?_, ?_⟩, ?_⟩
  · intro e; subst e; exact ⟨TT.1, by rw [TT.2.1]; rfl⟩
  · rintro m' rfl; exact ⟨TT.1, ⟨_, _, TT.2.1⟩, by rw [TT.2.2.1]⟩
  rintro id x m ⟨c, rfl, sx, hz, hs⟩
  refine split_ne (fun e => ?_) fun e => ?_
  · obtain ⟨m', rfl⟩ : ∃ m', m = m' + 1 := by
      cases m with
      | zero => exact absurd (by rw [(hz rfl).1]; rfl) e
      | succ m' => exact ⟨m', rfl⟩
    obtain ⟨c0, ⟨f, t, Tm⟩, hget⟩ := hs m' rfl
    refine load_spec (E.sub sx) (Blk.sub T sx) _ (fun e => ?_) fun nd e y k' N => ⟨_, _, rfl, split_ne (fun e => absurd rfl e) fun _ => ?_⟩
    · obtain ⟨nd, g1, _⟩ := Tm.node
      rw [show P.pgs D n c = none from e] at g1; cases g1
    have e : P.pgs D n c = some nd := e
    have ok := hpk c nd e
    have ll := ok.len
    obtain ⟨al, cl, Ne, _⟩ := N.ex
    have sy := sx.trans N.sub
    have srt : kvSorted nd.kv := by
      obtain ⟨nd', g1, g2, _⟩ := Tm.node
      rw [e] at g1; cases g1
      exact (keysOk_iff.1 g2).2
    refine ⟨k', 0, rfl, _, Ne.c0, split_eq (fun ek => ?_) fun ek => ?_⟩
    · have : m' = 0 := by
        obtain ⟨nd', g1, g2, g3⟩ := Tm.node
        rw [e] at g1; cases g1
        refine g3.1 ?_
        cases hlf : nd.leaf with
        | true => rfl
        | false => unfold Nd.kind at ek; rw [hlf] at ek; cases ek
      subst this
      have hL : kvGet key L = kvGet key nd.kv := by rw [hget]; unfold ents; rw [kvs_eq e]
      refine place_spec Ne srt (by omega) key fun z sz => ⟨_, rfl, ?_⟩
      have Nz := Ne.sub sz
      have syz := sy.trans sz
      have hat := kvAt_le key nd.kv
      rw [nd.kv_len] at hat
      refine ⟨k', 0, rfl, _, _, _, Nz.c2, split_eq (fun e2 => ?_) fun e2 => ?_⟩
      · have e2 : ((kvAt key nd.kv : Nat) : Int) = ((nd.l.length : Nat) : Int) := e2
        have : kvGet key L = none := by
          rw [hL]
          unfold kvGet kvIs
          rw [List.getElem?_eq_none (by rw [nd.kv_len]; omega)]; rfl
        rw [this] at hK
        exact hK z syz
      · have e2 : ((kvAt key nd.kv : Nat) : Int) ≠ ((nd.l.length : Nat) : Int) := e2
        have he : nd.l[kvAt key nd.kv]? = some (nd.l[kvAt key nd.kv]'(by omega)) := List.getElem?_eq_getElem (by omega)
        generalize nd.l[kvAt key nd.kv]'(by omega) = en at he
        obtain ⟨b, o, ea, g0, g1, g2⟩ := Nz.get he
        have hkv := Nd.kv_get he
        refine ⟨k', 0, rfl, _, _, _, Nz.c2, by omega, by show ((kvAt key nd.kv : Nat) : Int) < ((nd.l.length : Nat) : Int); omega, b, o, ea, _, by rw [Int.toNat_natCast]; exact g0, ?_⟩
        refine split_not (fun e3 => ?_) fun e3 => ?_
        · rw [beqS_val] at e3
          have : kvGet key L = none := by
            rw [hL]
            unfold kvGet kvIs
            rw [hkv]
            show (if decide (en.key = key) = true then _ else _) = _
            rw [e3]; rfl
          rw [this] at hK
          exact hK z syz
        · rw [beqS_val] at e3
          have : kvGet key L = some en.val := by
            rw [hL]
            unfold kvGet kvIs
            rw [hkv]
            show (if decide (en.key = key) = true then _ else _) = _
            rw [e3]; rfl
          rw [this] at hK
          exact ⟨k', 0, rfl, _, _, _, Nz.c2, by omega, by show ((kvAt key nd.kv : Nat) : Int) < ((nd.l.length : Nat) : Int); omega, b, o, ea, _, by rw [Int.toNat_natCast]; exact g1, hK z syz⟩
    · cases m' with
      | zero =>
        obtain ⟨nd', g1, g2, g3⟩ := Tm
        rw [e] at g1; cases g1
        unfold Nd.kind at ek; rw [g2] at ek; exact absurd rfl ek
      | succ m2 =>
        have hbe := kvBe_le key nd.kv
        rw [nd.kv_len] at hbe
        obtain ⟨c', hc'⟩ : ∃ c', nd.kids[kvBe key nd.kv]? = some c' := ⟨_, List.getElem?_eq_getElem (by rw [nd.kids_len]; omega)⟩
        have gk := get_kid hpk e Tm hc'
        obtain ⟨nd', g1, g2, g3, g4⟩ := Tm
        rw [e] at g1; cases g1
        refine below_spec Ne srt (by omega) key fun z sz => ⟨_, rfl, kid_spec (Ne.sub sz) hc' ⟨_, rfl, m2 + 1, by omega, c', rfl, sy.trans sz, (fun h => by cases h), fun m3 h3 => ?_⟩⟩
        cases h3
        have T0 := g4 _ c' hc'
        refine ⟨?_, ⟨_, _, T0⟩, hget.trans gk⟩
        have := pgs_lt (T0.in_pg _ ids_self)
        omega
  · cases m with
    | zero =>
      rw [(hz rfl).2] at hK
      exact hK x sx
    | succ m' => exact absurd (by omega) (hs m' rfl).1
def idsP (pg : Nat → Option Nd) : Nat → Nat → List Nat
  | 0, id => [id]
  | m + 1, id => (kidsOf pg id).flatMap (idsP pg m) ++ [id]
theorem idsP_mem {pg : Nat → Option Nd} : ∀ {m id : Nat}, (idsP pg m id).Perm (ids pg m id)
  | 0, id => List.Perm.refl _
  | m + 1, id => by
    unfold idsP ids
    refine List.perm_append_comm.trans (List.Perm.cons _ ?_)
    induction kidsOf pg id with
    | nil => exact List.Perm.refl _
    | cons c l ih => rw [List.flatMap_cons, List.flatMap_cons]; exact idsP_mem.append ih
structure EwAt (h : Hp) (tb k1 k2 k3 : Nat) (f : Value) : Prop where
  t : Blk h k1 25 [.pointer (some ⟨tb, 0, none⟩)]
  f : Blk h k2 104 [f]
  w : Blk h k3 112 [.func (.func 92) #[] #[.pointer (some ⟨k1, 0, none⟩), .pointer (some ⟨k3, 0, none⟩), .pointer (some ⟨k2, 0, none⟩)]]
theorem EwAt.sub {h' : Hp} {k1 k2 k3 : Nat} {f : Value} (C : EwAt h tb k1 k2 k3 f) (s : Sub h h') : EwAt h' tb k1 k2 k3 f := ⟨C.t.sub s, C.f.sub s, C.w.sub s⟩
theorem EwAt.keep {S' : Nat → Prop} {h' : Hp} {k1 k2 k3 : Nat} {f : Value} (C : EwAt h tb k1 k2 k3 f) (s : Keep S' h h') (h1 : ¬ S' k1) (h2 : ¬ S' k2) (h3 : ¬ S' k3) : EwAt h' tb k1 k2 k3 f := ⟨C.t.keep s h1, C.f.keep s h2, C.w.keep s h3⟩
def lfN (pg : Nat → Option Nd) (i : Nat) : Nat := match pg i with
  | some nd => if nd.leaf then nd.l.length else 0
  | none => 0
theorem lfN_ents {pg : Nat → Option Nd} : ∀ {m id : Nat} {f t : ByteArray}, Tr pg m id f t → ((idsP pg m id).map (lfN pg)).sum = (ents pg m id).length
  | 0, id, f, t, T => by
    obtain ⟨nd, g1, g2, g3⟩ := T
    unfold idsP ents lfN
    rw [kvs_eq g1, nd.kv_len]
    simp [g1, g2]
  | m + 1, id, f, t, T => by
    obtain ⟨nd, g1, g2, g3, g4⟩ := T
    unfold idsP ents
    rw [kidsOf_eq g1, List.map_append, List.sum_append]
    have e0 : ([id].map (lfN pg)).sum = 0 := by simp [lfN, g1, g2]
    rw [e0, Nat.add_zero]
    have : ∀ l : List Nat, (∀ c ∈ l, c ∈ nd.kids) → ((l.flatMap (idsP pg m)).map (lfN pg)).sum = (l.flatMap (ents pg m)).length := by
      intro l hl
      induction l with
      | nil => rfl
      | cons c l ih =>
        obtain ⟨j, hj⟩ := List.mem_iff_getElem?.1 (hl c List.mem_cons_self)
        rw [List.flatMap_cons, List.flatMap_cons, List.map_append, List.sum_append, List.length_append, ih fun c hc => hl c (List.mem_cons_of_mem _ hc), lfN_ents (g4 j c hj)]
    exact this _ fun c hc => hc
theorem lfN_le {pg : Nat → Option Nd} (O : PgOk pg) (i : Nat) : lfN pg i ≤ 256 := by
  unfold lfN
  cases e : pg i with
  | none => exact Nat.zero_le _
  | some nd =>
    have := (O i nd e).len
    simp only []
    split <;> omega
theorem sum_le {α : Type} {f : α → Nat} {b : Nat} (hf : ∀ x, f x ≤ b) : ∀ l : List α, (l.map f).sum ≤ l.length * b
  | [] => Nat.zero_le _
  | x :: l => by
    rw [List.map_cons, List.sum_cons, List.length_cons, Nat.add_mul]
    have := sum_le hf l
    have := hf x
    omega
theorem Tree.few {pg : Nat → Option Nd} (O : PgOk pg) (lt : ∀ i, (pg i).isSome = true → i < n) {root hg : Nat} {L : List KV} {I : List Nat} (T : Tree pg root hg L I) : L.length ≤ n * 256 := by
  cases hg with
  | zero => rw [T.2.1]; exact Nat.zero_le _
  | succ m =>
    obtain ⟨h0, h1, h2, h3, h4⟩ := T
    rw [h2, ← lfN_ents h1]
    refine Nat.le_trans (sum_le (lfN_le O) _) ?_
    rw [idsP_mem.length_eq, ← h3]
    exact Nat.mul_le_mul_right _ (nodup_below n I h4 fun i hi => lt i (h1.in_pg i (by rw [← h3]; exact hi)))
end Go.Proofs.YthbogjbcecmopaaGreatDoor
namespace Go.Proofs.YthbogjbcecmopaaGreatDoor
open Go.Gx
set_option maxRecDepth 100000
set_option linter.unusedVariables false
variable {h : Hp} {K : Value → Hp → Prop} {pb jb db n : Nat} {S : Nat → Prop} {D : Dk} {P : Pg} {tb k : Nat}
def kvC (p : KV) : List Value := [.string p.1, .string p.2]
theorem kvC_len (p : KV) : (kvC p).length = 2 := rfl
theorem kvC_plain (p : KV) : plainP (kvC p) := plainP_of rfl
theorem appTKV : AppT Tryz.prog 42 2 32 := AppT.of (by kernel_rfl)
structure OutAt (h : Hp) (k5 : Nat) (M : Nat → Prop) (L : List KV) : Prop where
  ex : ∃ a c, Blk h k5 37 [.slice a L.length c] ∧ OwnR kvC 2 h 42 a c L ∧ (∀ b, blkOf a b → b ≠ k5) ∧ ∀ b, M b ↔ (b = k5 ∨ blkOf a b)
theorem OutAt.sub {h' : Hp} {k5 : Nat} {M : Nat → Prop} {L : List KV} (O : OutAt h k5 M L) (s : Sub h h') : OutAt h' k5 M L := by
  obtain ⟨a, c, h1, h2, h3, h4⟩ := O.ex
  exact ⟨a, c, h1.sub s, h2.sub s, h3, h4⟩
theorem OutAt.in_heap {k5 : Nat} {M : Nat → Prop} {L : List KV} (O : OutAt h k5 M L) {c : Nat} (hc : M c) : h c ≠ none := by
  obtain ⟨a, c', h1, h2, h3, h4⟩ := O.ex
  rcases (h4 c).1 hc with rfl | hc
  · intro e; unfold Blk at h1; rw [h1] at e; cases e
  · exact Own.in_heap h2 hc
def rg (mx : Nat) (out R : List KV) : List KV := out ++ R.take (mx - out.length)
theorem rg_nil (mx : Nat) (out : List KV) : rg mx out [] = out := by unfold rg; simp
theorem rg_full {mx : Nat} {out : List KV} (h : mx ≤ out.length) (R : List KV) : rg mx out R = out := by
  unfold rg; rw [Nat.sub_eq_zero_of_le h, List.take_zero, List.append_nil]
theorem rg_append (mx : Nat) (out A B : List KV) : rg mx out (A ++ B) = rg mx (rg mx out A) B := by
  unfold rg
  rw [List.take_append, List.append_assoc]
  congr 3
  rw [List.length_append, List.length_take]
  omega
theorem rg_one {mx : Nat} {out : List KV} (h : out.length < mx) (p : KV) : rg mx out [p] = out ++ [p] := by
  unfold rg
  obtain ⟨r, hr⟩ : ∃ r, mx - out.length = r + 1 := ⟨mx - out.length - 1, by omega⟩
  rw [hr, List.take_succ_cons, List.take_nil]
theorem rg_len (mx : Nat) (out R : List KV) : (rg mx out R).length ≤ out.length + R.length := by
  unfold rg; rw [List.length_append, List.length_take]; omega
structure RwAt (h : Hp) (tb k1 k2 k3 k4 k5 k6 : Nat) (f t : ByteArray) (mo : Int) : Prop where
  tt : Blk h k1 25 [.pointer (some ⟨tb, 0, none⟩)]
  ff : Blk h k2 9 [.string f]
  tn : Blk h k3 9 [.string t]
  mo : Blk h k4 3 [.int .i64 mo]
  w : Blk h k6 112 [.func (.func 63) #[] #[.pointer (some ⟨k1, 0, none⟩), .pointer (some ⟨k2, 0, none⟩), .pointer (some ⟨k5, 0, none⟩), .pointer (some ⟨k4, 0, none⟩), .pointer (some ⟨k3, 0, none⟩), .pointer (some ⟨k6, 0, none⟩)]]
section
variable {k1 k2 k3 k4 k5 k6 : Nat} {f t : ByteArray} {mo : Int}
theorem RwAt.sub {h' : Hp} (C : RwAt h tb k1 k2 k3 k4 k5 k6 f t mo) (s : Sub h h') : RwAt h' tb k1 k2 k3 k4 k5 k6 f t mo := ⟨C.tt.sub s, C.ff.sub s, C.tn.sub s, C.mo.sub s, C.w.sub s⟩
theorem RwAt.keep {S' : Nat → Prop} {h' : Hp} (C : RwAt h tb k1 k2 k3 k4 k5 k6 f t mo) (s : Keep S' h h') (hn : ∀ c, c = k1 ∨ c = k2 ∨ c = k3 ∨ c = k4 ∨ c = k6 → ¬ S' c) : RwAt h' tb k1 k2 k3 k4 k5 k6 f t mo :=
  ⟨C.tt.keep s (hn _ (.inl rfl)), C.ff.keep s (hn _ (.inr (.inl rfl))), C.tn.keep s (hn _ (.inr (.inr (.inl rfl)))), C.mo.keep s (hn _ (.inr (.inr (.inr (.inl rfl))))), C.w.keep s (hn _ (.inr (.inr (.inr (.inr rfl)))))⟩
theorem RwAt.in_heap (C : RwAt h tb k1 k2 k3 k4 k5 k6 f t mo) {c : Nat} (hc : c = k1 ∨ c = k2 ∨ c = k3 ∨ c = k4 ∨ c = k6) : ∃ o, h c = some o := by
  rcases hc with rfl | rfl | rfl | rfl | rfl
  · exact ⟨_, C.tt⟩
  · exact ⟨_, C.ff⟩
  · exact ⟨_, C.tn⟩
  · exact ⟨_, C.mo⟩
  · exact ⟨_, C.w⟩
end
theorem not_in_lo {f t : ByteArray} {p : KV} (h : blt p.1 f = true) : kvIn f t p = false := by unfold kvIn; rw [h]; rfl
theorem not_in_hi {f t : ByteArray} {p : KV} (h : blt t p.1 = true) : kvIn f t p = false := by
  unfold kvIn
  rw [blt_asymm h, decide_eq_false (fun e => blt_ne h e.symm)]
  simp
theorem filter_none {L : List KV} {q : KV → Bool} (h : ∀ p ∈ L, q p = false) : L.filter q = [] := List.filter_eq_nil_iff.2 fun p hp e => by rw [h p hp] at e; cases e
set_option maxHeartbeats 4000000 in
theorem range_walk {k1 k2 k3 k4 k5 k6 : Nat} {f t : ByteArray} {mo : Int} : ∀ (m : Nat) {h : Hp} {K : Value → Hp → Prop} {id : Nat} {lo hi : ByteArray} {M : Nat → Prop} {out : List KV}, Tr (P.pgs D n) m id lo hi → OutAt h k5 M out → PgAt h pb jb db S n D P → TrAt h tb pb k → RwAt h tb k1 k2 k3 k4 k5 k6 f t mo →
      (∀ c, S c → ¬ M c) → ¬ M tb → (∀ c, c = k1 ∨ c = k2 ∨ c = k3 ∨ c = k4 ∨ c = k6 → ¬ M c) → out.length + (ents (P.pgs D n) m id).length ≤ 1000000 →
      (∀ h' M', OutAt h' k5 M' (rg mo.toNat out ((ents (P.pgs D n) m id).filter (kvIn f t))) → Step M h M' h' → K (.tuple #[]) h') →
      CallsH Tryz.prog 63 #[.int .i64 (id : Nat), .pointer (some ⟨k1, 0, none⟩), .pointer (some ⟨k2, 0, none⟩), .pointer (some ⟨k5, 0, none⟩), .pointer (some ⟨k4, 0, none⟩), .pointer (some ⟨k3, 0, none⟩), .pointer (some ⟨k6, 0, none⟩)] h K := by
  intro m
  induction m with
  | zero =>
    intro h K id lo hi M out Tm O E T W nS nt nW hB hK
    have hpk := pgs_ok E
    apply btree_Tree_Range_1.calls
    unfold btree_Tree_Range_1.W
    obtain ⟨nd, g1, g2, g3⟩ := Tm
    refine ⟨_, W.tt.cell' 0 rfl, fnI (cap := []) (by kernel_rfl) (load_spec E T _ (fun e => ?_) fun nd' e y k' N => ⟨_, _, rfl, split_ne (fun e => absurd rfl e) fun _ => ?_⟩)⟩
    · rw [show P.pgs D n id = none from e] at g1; cases g1
    have e : P.pgs D n id = some nd' := e
    rw [e] at g1; cases g1
    obtain ⟨a, c, Ne, fr⟩ := N.ex
    have ll := (hpk id nd e).len
    refine ⟨k', 0, rfl, _, Ne.c0, split_eq (fun ek => ?_) fun ek => ?_⟩
    · unfold Nd.kind at ek; rw [g2] at ek; cases ek
    have srt : kvSorted nd.kv := (keysOk_iff.1 g3).2
    have Wy := W.sub N.sub
    have eent : ents (P.pgs D n) 0 id = nd.kv := kvs_eq e
    rw [eent] at hB hK
    refine ⟨k', 0, rfl, _, _, _, Ne.c2, _, Wy.ff.cell' 0 rfl, fnI (cap := []) (by kernel_rfl) (place_spec Ne srt (by omega) f fun z sz => ⟨_, rfl, sz, by omega, ?_, ?_⟩)⟩
    · have := kvAt_le f nd.kv
      rw [nd.kv_len] at this
      show ((kvAt f nd.kv : Nat) : Int) ≤ ((nd.l.length : Nat) : Int)
      omega
    have hat := kvAt_le f nd.kv
    rw [nd.kv_len] at hat
    rw [Int.toNat_natCast]
    have Nz := Ne.sub sz
    have sxz := N.sub.trans sz
    have Oz := O.sub sxz
    have Wz := W.sub sxz
    have nk : ¬ M k' := fun hm => O.in_heap hm N.k0
    have na : ∀ b, blkOf a b → ¬ M b := fun b hb hm => O.in_heap hm (fr b hb)
    -- what the entries ahead of the place are
    have e1 : nd.kv.filter (kvIn f t) = (nd.kv.drop (kvAt f nd.kv)).filter (kvIn f t) := by
      conv => lhs; rw [← List.take_append_drop (kvAt f nd.kv) nd.kv, List.filter_append]
      rw [filter_none, List.nil_append]
      intro p hp
      obtain ⟨i, hi⟩ := List.mem_iff_getElem?.1 hp
      rw [List.getElem?_take] at hi
      split at hi
      · exact not_in_lo (kvAt_before f nd.kv i p hi (by assumption))
      · cases hi
    rw [e1] at hK
    have Rz : RowAt enC 3 z (slA c (kvAt f nd.kv) 3 a) (nd.l.drop (kvAt f nd.kv)) := by
      have := RowAt.part enC_len Nz.row (c := c) (i := kvAt f nd.kv) (n := nd.l.length - kvAt f nd.kv) Nz.le (by omega)
      rw [List.take_of_length_le (by rw [List.length_drop]; omega)] at this
      exact this
    have hsl : ∀ b, blkOf (slA c (kvAt f nd.kv) 3 a) b → blkOf a b := by
      intro b hb
      obtain ⟨o, s, hb⟩ := hb
      unfold slA at hb
      split at hb
      · exact ⟨o, s, hb⟩
      · cases a with
        | none => cases hb
        | some a0 =>
          have hb : some (a0.add _) = some _ := hb
          have h2 : ∀ q, (a0.add q).block = a0.block := fun q => by unfold Addr.add; split <;> rfl
          have h1 : (a0.add _).block = b := congrArg Addr.block (Option.some.inj hb)
          rw [h2] at h1
          subst h1
          exact ⟨a0.off, a0.spot, rfl⟩
    refine ⟨fun i x m0 => ∃ (q : Nat) (Mx : Nat → Prop), i = (q : Int) ∧ q ≤ nd.l.length - kvAt f nd.kv ∧ m0 = nd.l.length - kvAt f nd.kv - q ∧ OutAt x k5 Mx (rg mo.toNat out (((nd.kv.drop (kvAt f nd.kv)).take q).filter (kvIn f t))) ∧ Step M z Mx x, ⟨_, 0, M, rfl, Nat.zero_le _, rfl, by rw [List.take_zero, List.filter_nil, rg_nil]; exact Oz, Step.refl _ _⟩, ?_⟩
    rintro i x m0 ⟨q, Mx, rfl, hq, rfl, Ox, st⟩
    have Rx := Rz.keep st.1 fun b hb => na b (hsl b hb)
    have Wx := Wz.keep st.1 nW
    have done : ∀ {R : List KV}, (nd.kv.drop (kvAt f nd.kv)).filter (kvIn f t) = ((nd.kv.drop (kvAt f nd.kv)).take q).filter (kvIn f t) ++ R → rg mo.toNat (rg mo.toNat out (((nd.kv.drop (kvAt f nd.kv)).take q).filter (kvIn f t))) R = rg mo.toNat out (((nd.kv.drop (kvAt f nd.kv)).take q).filter (kvIn f t)) → K (.tuple #[]) x := fun {R} h1 h2 => by
      refine hK x Mx ?_ ((Step.sub sxz).trans st)
      rw [h1, rg_append, h2]; exact Ox
    have spl : (nd.kv.drop (kvAt f nd.kv)).filter (kvIn f t) = ((nd.kv.drop (kvAt f nd.kv)).take q).filter (kvIn f t) ++ ((nd.kv.drop (kvAt f nd.kv)).drop q).filter (kvIn f t) := by
      rw [← List.filter_append, List.take_append_drop]
    refine split_dec (fun g => ?_) fun g => ?_
    · have g : (q : Int) < ((nd.l.length - kvAt f nd.kv : Nat) : Int) := g
      have hlt : kvAt f nd.kv + q < nd.l.length := by omega
      have he : nd.l[kvAt f nd.kv + q]? = some nd.l[kvAt f nd.kv + q] := List.getElem?_eq_getElem hlt
      have hed : (nd.l.drop (kvAt f nd.kv))[q]? = some nd.l[kvAt f nd.kv + q] := by rw [List.getElem?_drop]; exact he
      generalize nd.l[kvAt f nd.kv + q] = en at he hed
      have hkv := Nd.kv_get he
      have hkd : (nd.kv.drop (kvAt f nd.kv))[q]? = some en.kv := by rw [List.getElem?_drop]; exact hkv
      obtain ⟨b, o, ea, hc⟩ := RowAt.get enC_len (by decide) Rx hed
      have e11 : IntKind.i64.wrap ((q : Int) + 1) = ((q + 1 : Nat) : Int) := by rw [wid (by omega) (by omega)]; omega
      rw [e11]
      have gef : blt en.key f = false := Go.Proofs.YthbogjbcecmopaaGreatDoor.kvAt_after srt hkv (by omega)
      refine ⟨by omega, g, b, o, ea, _, by rw [Int.toNat_natCast]; exact hc 0 _ rfl, _, by rw [Int.toNat_natCast]; exact hc 1 (.string en.val) rfl, _, by rw [Int.toNat_natCast]; exact hc 2 (.int .i64 (en.kid : Nat)) rfl, _, Wx.tn.cell' 0 rfl, ?_⟩
      rw [bltS_val]
      refine split_not (fun e3 => done spl ?_) fun e3 => ?_
      · have hno : ((nd.kv.drop (kvAt f nd.kv)).drop q).filter (kvIn f t) = [] := filter_none ?_
        · rw [hno, rg_nil]
        intro p hp
        have gt : blt t en.key = true := by rw [← ble_not, e3]; rfl
        obtain ⟨j, hj⟩ := List.mem_iff_getElem?.1 hp
        rw [List.getElem?_drop, List.getElem?_drop] at hj
        refine not_in_hi ?_
        rcases Nat.eq_zero_or_pos j with rfl | hj0
        · rw [Nat.add_zero, hkv] at hj; cases hj; exact gt
        · exact blt_trans gt (sorted_lt srt hkv hj (by omega))
      · obtain ⟨oa, oc, o1, o2, o3, o4⟩ := Ox.ex
        refine ⟨_, _, _, o1.cell' 0 rfl, _, Wx.mo.cell' 0 rfl, split_dec (fun gm => done spl ?_) fun gm => ?_⟩
        · have gm : (((rg mo.toNat out (((nd.kv.drop (kvAt f nd.kv)).take q).filter (kvIn f t))).length : Nat) : Int) ≥ mo := gm
          exact rg_full (by omega) _
        · have gm : ¬ (((rg mo.toNat out (((nd.kv.drop (kvAt f nd.kv)).take q).filter (kvIn f t))).length : Nat) : Int) ≥ mo := gm
          have isin : kvIn f t en.kv = true := by
            unfold kvIn
            rw [beqS_val] at e3
            show (!blt en.key f && (blt en.key t || decide (en.key = t))) = true
            rw [gef, e3]; rfl
          have nx : rg mo.toNat out (((nd.kv.drop (kvAt f nd.kv)).take (q + 1)).filter (kvIn f t)) = rg mo.toNat out (((nd.kv.drop (kvAt f nd.kv)).take q).filter (kvIn f t)) ++ [en.kv] := by
            rw [List.take_add_one, hkd, List.filter_append, rg_append]
            have : ([en.kv]).filter (kvIn f t) = [en.kv] := by rw [List.filter_cons_of_pos isin]; rfl
            show rg _ _ (([en.kv]).filter (kvIn f t)) = _
            rw [this, rg_one (by omega)]
          have rl := rg_len mo.toNat out (((nd.kv.drop (kvAt f nd.kv)).take q).filter (kvIn f t))
          have fl := (((nd.kv.drop (kvAt f nd.kv)).take q).filter_sublist (p := kvIn f t)).length_le
          rw [List.length_take, List.length_drop, nd.kv_len] at fl
          rw [nd.kv_len] at hB
          refine ⟨_, _, _, o1.cell' 0 rfl, fun k72 hk72 => ⟨kvC en.kv, (Blk.new x k72 42 (kvC en.kv)).slice rfl, ?_⟩⟩
          have s72 := Sub.upd hk72 (.cells (kvC en.kv).toArray 42 (0, 0))
          refine ⟨fun a' c' x' => ∃ Mx', StoreOk x' k5 0 1 ∧ OutAt (x'.put k5 0 [.slice a' ((rg mo.toNat out (((nd.kv.drop (kvAt f nd.kv)).take q).filter (kvIn f t))).length + 1) c']) k5 Mx' (rg mo.toNat out (((nd.kv.drop (kvAt f nd.kv)).take q).filter (kvIn f t)) ++ [en.kv]) ∧ Step Mx x Mx' (x'.put k5 0 [.slice a' ((rg mo.toNat out (((nd.kv.drop (kvAt f nd.kv)).take q).filter (kvIn f t))).length + 1) c']), ?_, ?_⟩
          · rintro a' c' x' ⟨Mx', so, O', st'⟩
            exact ⟨so, nd.l.length - kvAt f nd.kv - (q + 1), by omega, q + 1, Mx', rfl, by omega, rfl, by rw [nx]; exact O', st.trans st'⟩
          · generalize rg mo.toNat out (((nd.kv.drop (kvAt f nd.kv)).take q).filter (kvIn f t)) = ou at o1 o2 rl ⊢
            refine append_ownR appTKV kvC_len kvC_plain (M := [en.kv]) (o2.sub s72) rfl rfl (rowC_one _).symm ?_ fun a' c' x' O' kp nb => ?_
            · show (2 * (ou.length + 1) + 768) * 32 ≤ _
              omega
            · have Bx : Blk x' k5 37 _ := (o1.sub s72).keep kp fun hb => o3 _ hb rfl
              have nb' : ∀ b, blkOf a' b → blkOf oa b ∨ x b = none := fun b hb => (nb b hb).imp (fun h => h) s72.none
              have ne' : ∀ b, blkOf a' b → b ≠ k5 := fun b hb e => by
                subst e
                rcases nb' b hb with h1 | h1
                · exact o3 b h1 rfl
                · unfold Blk at o1; rw [o1] at h1; cases h1
              refine ⟨fun c => c = k5 ∨ blkOf a' c, Bx.store (by show 1 ≤ 1; decide), ⟨a', c', ?_, O'.keep (Keep.put (fun c => c = k5) _ _ _ rfl) ne', ne', fun b => Iff.rfl⟩, ?_, ?_⟩
              · rw [List.length_append]; exact Bx.put 0 _
              · exact ((s72.keep _).trans (kp.mono fun c hc => (o4 c).2 (.inr hc))).trans (Keep.put _ _ _ _ ((o4 k5).2 (.inl rfl)))
              · rintro c (rfl | hc)
                · exact .inl ((o4 _).2 (.inl rfl))
                · exact (nb' c hc).imp (fun hb => (o4 c).2 (.inr hb)) fun h => h
    · have g : ¬ (q : Int) < ((nd.l.length - kvAt f nd.kv : Nat) : Int) := g
      refine done spl ?_
      have hno : (nd.kv.drop (kvAt f nd.kv)).drop q = [] := List.drop_eq_nil_of_le (by rw [List.length_drop, nd.kv_len]; omega)
      rw [hno, List.filter_nil, rg_nil]
  | succ m ih =>
    intro h K id lo hi M out Tm O E T W nS nt nW hB hK
    have hpk := pgs_ok E
    apply btree_Tree_Range_1.calls
    unfold btree_Tree_Range_1.W
    obtain ⟨nd, g1, g2, g3, g4⟩ := Tm
    refine ⟨_, W.tt.cell' 0 rfl, fnI (cap := []) (by kernel_rfl) (load_spec E T _ (fun e => ?_) fun nd' e y k' N => ⟨_, _, rfl, split_ne (fun e => absurd rfl e) fun _ => ?_⟩)⟩
    · rw [show P.pgs D n id = none from e] at g1; cases g1
    have e : P.pgs D n id = some nd' := e
    rw [e] at g1; cases g1
    obtain ⟨a, c, Ne, fr⟩ := N.ex
    have ll := (hpk id nd e).len
    have kl := nd.kids_len
    refine ⟨k', 0, rfl, _, Ne.c0, split_eq (fun ek => ?_) fun ek => ?_⟩
    rotate_left
    · unfold Nd.kind at ek; rw [g2] at ek; exact absurd rfl ek
    have srt : kvSorted nd.kv := (keysOk_iff.1 g3).2
    have Wy := W.sub N.sub
    have hbe := kvBe_le f nd.kv
    rw [nd.kv_len] at hbe
    have eent : ents (P.pgs D n) (m + 1) id = nd.kids.flatMap (ents (P.pgs D n) m) := by
      rw [← kidsOf_eq e]; cases m <;> rfl
    rw [eent] at hB hK
    have sub := fun j c hj => (g4 j c hj).ents_ok hpk
    refine ⟨_, Wy.ff.cell' 0 rfl, fnI (cap := []) (by kernel_rfl) (below_spec Ne srt (by omega) f fun z sz => ⟨_, rfl, ?_⟩)⟩
    have Nz := Ne.sub sz
    have sxz := N.sub.trans sz
    have Oz := O.sub sxz
    have Wz := W.sub sxz
    have Ez := E.sub sxz
    have Tz : TrAt z tb pb k := Blk.sub T sxz
    have nk : ¬ M k' := fun hm => O.in_heap hm N.k0
    have na : ∀ b, blkOf a b → ¬ M b := fun b hb hm => O.in_heap hm (fr b hb)
    have mem_take : ∀ {j : Nat} {p : KV}, p ∈ (nd.kids.take j).flatMap (ents (P.pgs D n) m) → ∃ i c, i < j ∧ nd.kids[i]? = some c ∧ p ∈ ents (P.pgs D n) m c := fun {j p} hp => by
      obtain ⟨c, hc, hp⟩ := List.mem_flatMap.1 hp
      obtain ⟨i, hi⟩ := List.mem_iff_getElem?.1 hc
      rw [List.getElem?_take] at hi
      split at hi
      · exact ⟨i, c, by assumption, hi, hp⟩
      · cases hi
    have mem_drop : ∀ {j : Nat} {p : KV}, p ∈ (nd.kids.drop j).flatMap (ents (P.pgs D n) m) → ∃ i c, j ≤ i ∧ nd.kids[i]? = some c ∧ p ∈ ents (P.pgs D n) m c := fun {j p} hp => by
      obtain ⟨c, hc, hp⟩ := List.mem_flatMap.1 hp
      obtain ⟨i, hi⟩ := List.mem_iff_getElem?.1 hc
      rw [List.getElem?_drop] at hi
      exact ⟨j + i, c, by omega, hi, hp⟩
    have e1 : ((nd.kids.take (kvBe f nd.kv)).flatMap (ents (P.pgs D n) m)).filter (kvIn f t) = [] := by
      refine filter_none fun p hp => ?_
      obtain ⟨i, c, hi, hc, hp⟩ := mem_take hp
      have he : nd.l[i]? = some nd.l[i] := List.getElem?_eq_getElem (by omega)
      have h1 := kvBe_before f nd.kv i _ (Nd.kv_get he) hi
      have h2 := ((sub i c hc).1 p hp).2.1
      rw [Nd.hi_some he] at h2
      exact not_in_lo (blt_le_trans (h2 ((hpk id nd e).key_ne (List.mem_of_getElem? he))) h1)
    refine ⟨fun i x m0 => ∃ (j : Nat) (Mx : Nat → Prop), i = (j : Int) - 1 ∧ kvBe f nd.kv ≤ j ∧ j ≤ nd.kids.length ∧ m0 = nd.kids.length - j ∧ OutAt x k5 Mx (rg mo.toNat out (((nd.kids.take j).flatMap (ents (P.pgs D n) m)).filter (kvIn f t))) ∧ Step M z Mx x, ⟨_, kvBe f nd.kv, M, rfl, Nat.le_refl _, by omega, rfl, by rw [e1, rg_nil]; exact Oz, Step.refl _ _⟩, ?_⟩
    rintro i x m0 ⟨j, Mx, rfl, hjb, hj, rfl, Ox, st⟩
    have keepB : ∀ {c o}, z c = some o → ¬ M c → ¬ Mx c := fun {c o} hc hn => (st.out hc hn).2
    have Ex := Ez.out st.1 nS
    have Tx : TrAt x tb pb k := Blk.keep Tz st.1 nt
    have Wx := Wz.keep st.1 nW
    have Nx := Nz.out st.1 nk na
    have spl : (nd.kids.flatMap (ents (P.pgs D n) m)).filter (kvIn f t) = ((nd.kids.take j).flatMap (ents (P.pgs D n) m)).filter (kvIn f t) ++ ((nd.kids.drop j).flatMap (ents (P.pgs D n) m)).filter (kvIn f t) := by
      rw [← List.filter_append, ← List.flatMap_append, List.take_append_drop]
    have done : rg mo.toNat (rg mo.toNat out (((nd.kids.take j).flatMap (ents (P.pgs D n) m)).filter (kvIn f t))) (((nd.kids.drop j).flatMap (ents (P.pgs D n) m)).filter (kvIn f t)) = rg mo.toNat out (((nd.kids.take j).flatMap (ents (P.pgs D n) m)).filter (kvIn f t)) → K (.tuple #[]) x := fun h2 => by
      refine hK x Mx ?_ ((Step.sub sxz).trans st)
      rw [spl, rg_append, h2]; exact Ox
    have e12 : IntKind.i64.wrap ((j : Int) - 1 + 1) = ((j + 1 : Nat) : Int) - 1 := by rw [wid (by omega) (by omega)]; omega
    rw [e12]
    obtain ⟨oa, oc, o1, o2, o3, o4⟩ := Ox.ex
    refine ⟨fun x' => x = x' ∧ j < nd.kids.length, ?_, k', 0, rfl, _, _, _, Nx.c2, split_dec (fun g => ⟨_, _, _, o1.cell' 0 rfl, _, Wx.mo.cell' 0 rfl, split_dec (fun gm => split_dec (fun g0 => ⟨rfl, ?_⟩) fun g0 => ?_) fun gm => done ?_⟩) fun g => done ?_⟩
    · rintro x' ⟨rfl, hjl⟩
      obtain ⟨c', hc'⟩ : ∃ c', nd.kids[j]? = some c' := ⟨_, List.getElem?_eq_getElem hjl⟩
      refine ⟨_, Wx.w.cell' 0 rfl, fnI (cap := []) (by kernel_rfl) (kid_spec Nx hc' ⟨_, rfl, Sub.refl _, fnI (cap := [_, _, _, _, _, _]) (by kernel_rfl) ?_⟩)⟩
      refine ih (g4 j c' hc') Ox Ex Tx Wx (fun c hc => ?_) (keepB Tz nt) (fun c hc => ?_) ?_ fun h' M' O' st' => ⟨rfl, nd.kids.length - (j + 1), by omega, j + 1, M', rfl, by omega, by omega, rfl, ?_, st.trans st'⟩
      · obtain ⟨o, ho⟩ := Option.ne_none_iff_exists'.1 (Ez.in_heap hc)
        exact keepB ho (nS c hc)
      · obtain ⟨o, ho⟩ := Wz.in_heap hc
        exact keepB ho (nW c hc)
      · have h1 := rg_len mo.toNat out (((nd.kids.take j).flatMap (ents (P.pgs D n) m)).filter (kvIn f t))
        have h2 := (((nd.kids.take j).flatMap (ents (P.pgs D n) m)).filter_sublist (p := kvIn f t)).length_le
        have h3 := (flat_sub (g := ents (P.pgs D n) m) nd.kids (j + 1)).length_le
        rw [flat_take hc', List.length_append] at h3
        omega
      · rw [flat_take hc', List.filter_append, rg_append]; exact O'
    · omega
    · obtain ⟨q, rfl⟩ : ∃ q, j = q + 1 := ⟨j - 1, by omega⟩
      have e13 : ((q + 1 : Nat) : Int) - 1 = ((q : Nat) : Int) := by omega
      rw [e13] at g ⊢
      have g : (q : Int) < (nd.l.length : Int) := g
      have he : nd.l[q]? = some nd.l[q] := List.getElem?_eq_getElem (by omega)
      obtain ⟨b, o, ea, c0, c1, c2⟩ := Nx.get he
      refine ⟨k', 0, rfl, _, _, _, Nx.c2, by omega, g, b, o, ea, _, by rw [Int.toNat_natCast]; exact c0, _, Wx.tn.cell' 0 rfl, ?_⟩
      rw [bltS_val]
      refine split_cond (fun _ => ⟨rfl, by omega⟩) fun e3 => done ?_
      have gt : blt t nd.l[q].key = true := by rw [← ble_not, e3]; rfl
      have hno : ((nd.kids.drop (q + 1)).flatMap (ents (P.pgs D n) m)).filter (kvIn f t) = [] := filter_none fun p hp => by
        obtain ⟨i, c, hi, hc, hp⟩ := mem_drop hp
        have h2 := ((sub i c hc).1 p hp).1
        have hil : i ≤ nd.l.length := by
          have := (List.getElem?_eq_some_iff.1 hc).1
          omega
        obtain ⟨i', rfl⟩ : ∃ i', i = i' + 1 := ⟨i - 1, by omega⟩
        have he' : nd.l[i']? = some nd.l[i'] := List.getElem?_eq_getElem (by omega)
        rw [Nd.lo_succ he'] at h2
        refine not_in_hi ?_
        rcases Nat.lt_or_ge q i' with h' | h'
        · exact blt_le_trans (blt_trans gt (sorted_lt srt (Nd.kv_get he) (Nd.kv_get he') h')) h2
        · have : i' = q := by omega
          subst this
          exact blt_le_trans gt h2
      rw [hno, rg_nil]
    · have gm : ¬ (((rg mo.toNat out (((nd.kids.take j).flatMap (ents (P.pgs D n) m)).filter (kvIn f t))).length : Nat) : Int) < mo := gm
      exact rg_full (by omega) _
    · have g : ¬ (j : Int) - 1 < (nd.l.length : Int) := g
      have hno : nd.kids.drop j = [] := List.drop_eq_nil_of_le (by omega)
      rw [hno, List.flatMap_nil, List.filter_nil, rg_nil]
set_option maxHeartbeats 1000000 in
theorem range_spec (E : PgAt h pb jb db S n D P) (T : TrAt h tb pb k) (hk : k < 4) {hg : Nat} {L : List KV} {I : List Nat} (TT : Tree (P.pgs D n) (P.now.r k) hg L I) (f t : ByteArray) (mo : Int) (hK : ∀ h' a c, NewR kvC 2 42 h h' a c (kvRange f t mo.toNat L) → K (.slice a (kvRange f t mo.toNat L).length c) h') :
    CallsH Tryz.prog btree_Tree_Range.id #[.pointer (some ⟨tb, 0, none⟩), .string f, .string t, .int .i64 mo] h K := by
  have hn := E.n2
  have hpk := pgs_ok E
  have few := TT.few hpk fun i hi => (pgs_lt hi).2
  have few2 : n * 256 ≤ 128 * 256 := Nat.mul_le_mul_right _ hn
  apply btree_Tree_Range.calls
  unfold btree_Tree_Range.W
  intro k1 hk1
  have B1 := Blk.new h k1 25 [.pointer (some ⟨tb, 0, none⟩)]
  have s1 := Sub.upd hk1 (.cells [Value.pointer (some ⟨tb, 0, none⟩)].toArray 25 (0, 0))
  generalize h.upd k1 (.cells [Value.pointer (some ⟨tb, 0, none⟩)].toArray 25 (0, 0)) = y1 at B1 s1 ⊢
  intro k2 hk2
  have B2 := Blk.new y1 k2 9 [.string f]
  have s2 := Sub.upd hk2 (.cells [Value.string f].toArray 9 (0, 0))
  generalize y1.upd k2 (.cells [Value.string f].toArray 9 (0, 0)) = y2 at B2 s2 ⊢
  intro k3 hk3
  have B3 := Blk.new y2 k3 9 [.string t]
  have s3 := Sub.upd hk3 (.cells [Value.string t].toArray 9 (0, 0))
  generalize y2.upd k3 (.cells [Value.string t].toArray 9 (0, 0)) = y3 at B3 s3 ⊢
  intro k4 hk4
  have B4 := Blk.new y3 k4 3 [.int .i64 mo]
  have s4 := Sub.upd hk4 (.cells [Value.int .i64 mo].toArray 3 (0, 0))
  generalize y3.upd k4 (.cells [Value.int .i64 mo].toArray 3 (0, 0)) = y4 at B4 s4 ⊢
  intro k5 hk5
  have B5 := Blk.new y4 k5 37 [.slice none 0 0]
  have s5 := Sub.upd hk5 (.cells [Value.slice none 0 0].toArray 37 (0, 0))
  generalize y4.upd k5 (.cells [Value.slice none 0 0].toArray 37 (0, 0)) = y5 at B5 s5 ⊢
  have s15 : Sub h y5 := s1.trans (s2.trans (s3.trans (s4.trans s5)))
  refine ⟨_, (B1.sub (s2.trans (s3.trans (s4.trans s5)))).cell' 0 rfl, split_cond (fun e => by cases e) fun _ => ?_⟩
  intro k6 hk6
  obtain ⟨s6, B6⟩ := fresh_put (t := 112) (vs := [.nilFunc]) (us := [.func (.func 63) #[] #[.pointer (some ⟨k1, 0, none⟩), .pointer (some ⟨k2, 0, none⟩), .pointer (some ⟨k5, 0, none⟩), .pointer (some ⟨k4, 0, none⟩), .pointer (some ⟨k3, 0, none⟩), .pointer (some ⟨k6, 0, none⟩)]]) hk6
  refine ⟨(Blk.new y5 k6 112 [.nilFunc]).store (by show 1 ≤ 1; decide), ?_⟩
  generalize (y5.upd k6 (.cells [Value.nilFunc].toArray 112 (0, 0))).put k6 0 [.func (.func 63) #[] #[.pointer (some ⟨k1, 0, none⟩), .pointer (some ⟨k2, 0, none⟩), .pointer (some ⟨k5, 0, none⟩), .pointer (some ⟨k4, 0, none⟩), .pointer (some ⟨k3, 0, none⟩), .pointer (some ⟨k6, 0, none⟩)]] = y8 at s6 B6 ⊢
  have W : RwAt y8 tb k1 k2 k3 k4 k5 k6 f t mo := ⟨B1.sub (s2.trans (s3.trans (s4.trans (s5.trans s6)))), B2.sub (s3.trans (s4.trans (s5.trans s6))), B3.sub (s4.trans (s5.trans s6)), B4.sub (s5.trans s6), B6⟩
  have s8 := s15.trans s6
  have E8 := E.sub s8
  have T8 : TrAt y8 tb pb k := Blk.sub T s8
  have O8 : OutAt y8 k5 (fun c => c = k5) [] := ⟨none, 0, B5.sub s6, OwnR.nil _ _, (fun b ⟨o, s, e⟩ => by cases e), fun b => ⟨.inl, fun h => h.elim (fun h => h) fun ⟨o, s, e⟩ => by cases e⟩⟩
  have h5 : h k5 = none := (s1.trans (s2.trans (s3.trans s4))).none hk5
  refine ⟨_, W.tt.cell' 0 rfl, tb, 0, rfl, _, T8.cell' 0 rfl, _, W.tt.cell' 0 rfl, tb, 0, rfl, _, T8.cell' 1 rfl, fnI (cap := []) (by kernel_rfl) (root_spec E8 hk ⟨_, rfl, split_ne (fun e => ?_) fun e => ?_⟩)⟩
  · cases hg with
    | zero => exact absurd (by rw [TT.1]; rfl) e
    | succ m =>
      refine ⟨_, W.w.cell' 0 rfl, fnI (cap := [_, _, _, _, _, _]) (by kernel_rfl) ?_⟩
      rw [TT.2.2.1] at few
      refine range_walk m TT.2.1 O8 E8 T8 W (fun c hc e => S_out E h5 (e ▸ hc)) (fun e => by subst e; unfold TrAt Blk at T; rw [T] at h5; cases h5) ?_ (by rw [List.length_nil]; omega) fun h' M' O' st => ⟨rfl, ?_⟩
      · have n5 : ∀ {c o}, y4 c = some o → c ≠ k5 := fun {c o} hc e => by rw [e, hk5] at hc; cases hc
        rintro c (rfl | rfl | rfl | rfl | rfl)
        · exact n5 (B1.sub (s2.trans (s3.trans s4)))
        · exact n5 (B2.sub (s3.trans s4))
        · exact n5 (B3.sub s4)
        · exact n5 B4
        · exact fun e => by rw [e] at hk6; unfold Blk at B5; rw [B5] at hk6; cases hk6
      · obtain ⟨a, c, o1, o2, o3, o4⟩ := O'.ex
        have er : rg mo.toNat [] ((ents (P.pgs D n) m (P.now.r k)).filter (kvIn f t)) = kvRange f t mo.toNat L := by
          rw [TT.2.2.1]; rfl
        rw [er] at o1 o2
        refine ⟨_, _, _, o1.cell' 0 rfl, hK h' a c ⟨st.1.sub s8 fun c hc => by rw [hc]; exact h5, fun b hb => ?_, o2⟩⟩
        rcases st.2 b ((o4 b).2 (.inr hb)) with h1 | h1
        · rw [h1]; exact h5
        · exact s8.none h1
  · cases hg with
    | zero =>
      have er : kvRange f t mo.toNat L = [] := by rw [TT.2.1]; unfold kvRange; simp
      have := hK y8 none 0 (by rw [er]; exact ⟨s8, (fun b ⟨o, s, e⟩ => by cases e), OwnR.nil _ _⟩)
      rw [er] at this
      exact ⟨_, _, _, (B5.sub s6).cell' 0 rfl, this⟩
    | succ m => exact absurd (by omega) TT.1
end Go.Proofs.YthbogjbcecmopaaGreatDoor
namespace Go.Proofs.YthbogjbcecmopaaGreatDoor
open Go.Gx Go.Shelf Go.RowKit
set_option maxRecDepth 100000
set_option linter.unusedVariables false
variable {h : Hp} {K : Value → Hp → Prop} {pb jb db n : Nat} {S : Nat → Prop} {D : Dk} {P : Pg} {tb k : Nat}
end Go.Proofs.YthbogjbcecmopaaGreatDoor
namespace Go.Proofs.YthbogjbcecmopaaGreatDoor
open Go.Gx
set_option maxRecDepth 100000
set_option linter.unusedVariables false
variable {h : Hp} {K : Value → Hp → Prop} {pb jb db n : Nat} {S : Nat → Prop} {D : Dk} {P : Pg} {tb k : Nat}
theorem bl_top : ∀ {n : Nat} {x : List UInt8}, x.length ≤ n → Op.bytesLess (List.replicate n 255) x = false
  | 0, [], _ => rfl
  | n + 1, [], _ => rfl
  | n + 1, a :: x, h => by
    rw [List.replicate_succ]
    show (decide ((255 : UInt8) < a) || ((255 : UInt8) == a && Op.bytesLess (List.replicate n 255) x)) = false
    have : ¬ (255 : UInt8) < a := by
      rw [UInt8.lt_iff_toNat_lt]
      have := UInt8.toNat_lt a
      show ¬ 255 < a.toNat
      omega
    rw [bl_top (by simpa using h), Bool.and_false, decide_eq_false this]; rfl
def rep255 (n : Nat) : ByteArray := ⟨(List.replicate n 255).toArray⟩
theorem top_ge {n : Nat} {x : ByteArray} (h : x.size ≤ n) : blt (rep255 n) x = false := by
  unfold blt rep255
  exact bl_top (by rw [size_len]; exact h)
theorem in_all {L : List KV} {n : Nat} (h : ∀ p ∈ L, p.1.size ≤ n) : L.filter (kvIn eB (rep255 n)) = L := by
  rw [List.filter_eq_self]
  intro p hp
  unfold kvIn
  have h1 : blt p.1 eB = false := by unfold blt; show Op.bytesLess _ [] = false; cases p.1.data.toList <;> rfl
  have h2 := top_ge (h p hp)
  rw [h1]
  cases e : blt p.1 (rep255 n) with
  | true => rfl
  | false => rw [decide_eq_true (blt_total e h2)]; rfl
theorem Tree.small {pg : Nat → Option Nd} (O : PgOk pg) {root hg : Nat} {L : List KV} {I : List Nat} (T : Tree pg root hg L I) : (∀ p ∈ L, may p.1 p.2 = true) ∧ kvSorted L := by
  cases hg with
  | zero => rw [T.2.1]; exact ⟨(fun p hp => by cases hp), List.Pairwise.nil⟩
  | succ m =>
    have := T.2.1.ents_ok O
    rw [T.2.2.1]
    exact ⟨fun p hp => (this.1 p hp).2.2, this.2⟩
theorem may_size {k v : ByteArray} (h : may k v = true) : 1 ≤ k.size ∧ k.size ≤ 64 ∧ v.size ≤ 400 := by
  unfold may at h; exact of_decide_eq_true h
end Go.Proofs.YthbogjbcecmopaaGreatDoor
namespace Go.Proofs.YthbogjbcecmopaaGreatDoor
open Go.Gx
set_option maxRecDepth 100000
set_option linter.unusedVariables false
variable {h : Hp} {K : Value → Hp → Prop} {pb jb db n : Nat} {S : Nat → Prop} {D : Dk} {P : Pg} {tb k : Nat}
structure PwAt (h : Hp) (tb k1 k2 k3 : Nat) (key : ByteArray) : Prop where
  t : Blk h k1 25 [.pointer (some ⟨tb, 0, none⟩)]
  f : Blk h k2 9 [.string key]
  w : Blk h k3 106 [.func (.func 56) #[] #[.pointer (some ⟨k1, 0, none⟩), .pointer (some ⟨k2, 0, none⟩), .pointer (some ⟨k3, 0, none⟩)]]
theorem PwAt.sub {h' : Hp} {k1 k2 k3 : Nat} {key : ByteArray} (C : PwAt h tb k1 k2 k3 key) (s : Sub h h') : PwAt h' tb k1 k2 k3 key := ⟨C.t.sub s, C.f.sub s, C.w.sub s⟩
theorem top_spec (hK : K (.string (rep255 65)) h) : CallsH Tryz.prog law15_top.id #[] h K := by
  apply law15_top.calls
  unfold law15_top.W
  have st : ∀ q : Nat, (rep255 q ++ bytesL [255]) = rep255 (q + 1) := fun q => by
    apply bytes_ext
    rw [ByteArray.data_append, Array.toList_append]
    show List.replicate q 255 ++ [255] = List.replicate (q + 1) 255
    rw [List.replicate_succ']
  have sz : ∀ q : Nat, (rep255 q).size = q := fun q => by rw [← size_len]; show (List.replicate q (255 : UInt8)).length = q; simp
  refine ⟨fun s x m => ∃ q : Nat, s = rep255 q ∧ q ≤ 65 ∧ m = 65 - q ∧ h = x, ⟨_, 1, rfl, by decide, rfl, rfl⟩, ?_⟩
  rintro s x m ⟨q, rfl, hq, rfl, rfl⟩
  have e1 : Int.ofNat (rep255 q).size = (q : Int) := by rw [sz]; rfl
  rw [e1, st, sz]
  refine split_dec (fun g => ⟨?_, 65 - (q + 1), by omega, q + 1, rfl, by omega, rfl, rfl⟩) fun g => ?_
  · show q + 1 ≤ _
    omega
  · have : q = 65 := by omega
    subst this; exact hK
theorem all_spec (E : PgAt h pb jb db S n D P) (T : TrAt h tb pb k) (hk : k < 4) {hg : Nat} {L : List KV} {I : List Nat} (TT : Tree (P.pgs D n) (P.now.r k) hg L I) (hK : ∀ h' a c, NewR kvC 2 42 h h' a c L → K (.slice a L.length c) h') :
    CallsH Tryz.prog law15_all.id #[.pointer (some ⟨tb, 0, none⟩)] h K := by
  have hpk := pgs_ok E
  have sm := TT.small hpk
  have hn := E.n2
  have few := TT.few hpk fun i hi => (pgs_lt hi).2
  have few2 : n * 256 ≤ 128 * 256 := Nat.mul_le_mul_right _ hn
  apply law15_all.calls
  unfold law15_all.W
  have er : kvRange eB (rep255 65) (1000000 : Int).toNat L = L := by
    unfold kvRange
    rw [in_all fun p hp => Nat.le_trans (may_size (sm.1 p hp)).2.1 (by decide)]
    exact List.take_of_length_le (by show L.length ≤ 1000000; omega)
  refine top_spec ⟨_, rfl, range_spec E T hk TT eB (rep255 65) 1000000 fun h' a c N => ⟨_, _, _, rfl, ?_⟩⟩
  rw [er] at N ⊢
  exact hK h' a c N
end Go.Proofs.YthbogjbcecmopaaGreatDoor
namespace Go.Proofs.YthbogjbcecmopaaGreatDoor
open Go.Gx
set_option maxRecDepth 100000
set_option linter.unusedVariables false
variable {h : Hp} {K : Value → Hp → Prop}
def xN (lf : Bool) (e : En) : Nat := if lf then e.val.size else e.kid
def enE (lf : Bool) (e : En) : List UInt8 := [UInt8.ofNat e.key.size, UInt8.ofNat (xN lf e / 256), UInt8.ofNat (xN lf e)] ++ e.key.data.toList ++ e.val.data.toList
def headE (nd : Nd) : List UInt8 := [UInt8.ofNat nd.kind, UInt8.ofNat (nd.l.length / 256), UInt8.ofNat nd.l.length] ++ (if nd.leaf then [] else [UInt8.ofNat (nd.first / 256), UInt8.ofNat nd.first])
def encL (nd : Nd) : List UInt8 := headE nd ++ nd.l.flatMap (enE nd.leaf)
def pageB (nd : Nd) : ByteArray := ⟨(encL nd ++ List.replicate (1024 - nd.size) 0).toArray⟩
theorem u8N (n : Nat) : (UInt8.ofNat n).toNat = n % 256 := UInt8.toNat_ofNat'
theorem enE_len {lf : Bool} {e : En} (h : EnOk lf e) : (enE lf e).length = Nd.esz lf e := by
  unfold enE Nd.esz
  rw [List.length_append, List.length_append, size_len, size_len]
  cases lf with
  | true => rfl
  | false =>
    have : e.val = bytesL [] := h.2.2
    rw [this]; rfl
theorem flatE_len {lf : Bool} : ∀ {l : List En}, (∀ e ∈ l, EnOk lf e) → (l.flatMap (enE lf)).length = eszs lf l
  | [], _ => rfl
  | e :: l, h => by
    rw [List.flatMap_cons, List.length_append, eszs_cons, enE_len (h e List.mem_cons_self), flatE_len fun e' he => h e' (List.mem_cons_of_mem _ he)]
theorem headE_len (nd : Nd) : (headE nd).length = Nd.base nd.leaf := by
  unfold headE Nd.base
  cases nd.leaf <;> rfl
theorem encL_len {nd : Nd} (o : NdOk nd) : (encL nd).length = nd.size := by
  unfold encL Nd.size
  rw [List.length_append, headE_len, flatE_len o.en]
theorem pageB_size {nd : Nd} (o : NdOk nd) : (pageB nd).size = 1024 := by
  rw [← size_len]
  show (encL nd ++ List.replicate (1024 - nd.size) 0).length = 1024
  rw [List.length_append, encL_len o, List.length_replicate]
  have := o.size
  omega
theorem byteN_at {b : ByteArray} {pre rest : List UInt8} {x : UInt8} (h : b.data.toList = pre ++ x :: rest) : byteN b pre.length = x.toNat := by
  unfold byteN
  rw [h, List.getElem?_append_right (Nat.le_refl _), Nat.sub_self]; rfl
theorem ext_at {b s : ByteArray} {pre rest : List UInt8} (h : b.data.toList = pre ++ (s.data.toList ++ rest)) : b.extract pre.length (pre.length + s.size) = s := by
  apply bytes_ext
  rw [ext_list, h, List.drop_left, Nat.add_sub_cancel_left, ← size_len, List.take_left]
theorem parseN_enc {b : ByteArray} {lf : Bool} : ∀ (l : List En) (pre rest : List UInt8), (∀ e ∈ l, EnOk lf e) → b.data.toList = pre ++ (l.flatMap (enE lf) ++ rest) → parseN b lf l.length pre.length = some (l, pre.length + eszs lf l)
  | [], pre, rest, _, _ => rfl
  | e :: l, pre, rest, ok, hb => by
    have oe := ok e List.mem_cons_self
    have ms := may_size oe.1
    have hk : e.kid < 65536 := oe.2.1
    have hx : xN lf e < 65536 := by
      unfold xN
      split
      · omega
      · exact hk
    rw [List.flatMap_cons] at hb
    have hb0 : b.data.toList = pre ++ UInt8.ofNat e.key.size :: (UInt8.ofNat (xN lf e / 256) :: UInt8.ofNat (xN lf e) :: (e.key.data.toList ++ (e.val.data.toList ++ (l.flatMap (enE lf) ++ rest)))) := by
      rw [hb]; unfold enE; simp
    have hb1 : b.data.toList = (pre ++ [UInt8.ofNat e.key.size]) ++ UInt8.ofNat (xN lf e / 256) :: (UInt8.ofNat (xN lf e) :: (e.key.data.toList ++ (e.val.data.toList ++ (l.flatMap (enE lf) ++ rest)))) := by rw [hb0]; simp
    have hb2 : b.data.toList = (pre ++ [UInt8.ofNat e.key.size, UInt8.ofNat (xN lf e / 256)]) ++ UInt8.ofNat (xN lf e) :: (e.key.data.toList ++ (e.val.data.toList ++ (l.flatMap (enE lf) ++ rest))) := by rw [hb0]; simp
    have hb3 : b.data.toList = (pre ++ [UInt8.ofNat e.key.size, UInt8.ofNat (xN lf e / 256), UInt8.ofNat (xN lf e)]) ++ (e.key.data.toList ++ (e.val.data.toList ++ (l.flatMap (enE lf) ++ rest))) := by rw [hb0]; simp
    have hb4 : b.data.toList = (pre ++ [UInt8.ofNat e.key.size, UInt8.ofNat (xN lf e / 256), UInt8.ofNat (xN lf e)] ++ e.key.data.toList) ++ (e.val.data.toList ++ (l.flatMap (enE lf) ++ rest)) := by rw [hb0]; simp
    have hb5 : b.data.toList = (pre ++ [UInt8.ofNat e.key.size, UInt8.ofNat (xN lf e / 256), UInt8.ofNat (xN lf e)] ++ e.key.data.toList ++ e.val.data.toList) ++ (l.flatMap (enE lf) ++ rest) := by rw [hb0]; simp
    have n0 : byteN b pre.length = e.key.size := by rw [byteN_at hb0, u8N]; omega
    have n1 : byteN b (pre.length + 1) = xN lf e / 256 := by
      have := byteN_at hb1
      rw [List.length_append] at this
      rw [show pre.length + 1 = pre.length + [UInt8.ofNat e.key.size].length from rfl, this, u8N]; omega
    have n2 : byteN b (pre.length + 1 + 1) = xN lf e % 256 := by
      have := byteN_at hb2
      rw [List.length_append] at this
      rw [show pre.length + 1 + 1 = pre.length + [UInt8.ofNat e.key.size, UInt8.ofNat (xN lf e / 256)].length from rfl, this, u8N]
    have n3 : twoN b (pre.length + 1) = xN lf e := by
      unfold twoN
      rw [n1, n2]; omega
    have l3 : (pre ++ [UInt8.ofNat e.key.size, UInt8.ofNat (xN lf e / 256), UInt8.ofNat (xN lf e)]).length = pre.length + 3 := by rw [List.length_append]; rfl
    have l4 : (pre ++ [UInt8.ofNat e.key.size, UInt8.ofNat (xN lf e / 256), UInt8.ofNat (xN lf e)] ++ e.key.data.toList).length = pre.length + 3 + e.key.size := by rw [List.length_append, l3, size_len]
    have l5 : (pre ++ [UInt8.ofNat e.key.size, UInt8.ofNat (xN lf e / 256), UInt8.ofNat (xN lf e)] ++ e.key.data.toList ++ e.val.data.toList).length = pre.length + 3 + e.key.size + e.val.size := by rw [List.length_append, l4, size_len]
    have x1 : b.extract (pre.length + 3) (pre.length + 3 + e.key.size) = e.key := by rw [← l3]; exact ext_at hb3
    have x2 : b.extract (pre.length + 3 + e.key.size) (pre.length + 3 + e.key.size + e.val.size) = e.val := by rw [← l4]; exact ext_at hb4
    have ev : vN lf (xN lf e) = e.val.size := by
      cases lf with
      | true => rfl
      | false =>
        have : e.val = bytesL [] := oe.2.2
        rw [this]; rfl
    have ek : kN lf (xN lf e) = e.kid := by
      cases lf with
      | true => exact (show e.kid = 0 from oe.2.2).symm
      | false => rfl
    have sz : pre.length + 3 + e.key.size + e.val.size ≤ b.size := by
      have hs := congrArg List.length hb5
      rw [size_len, List.length_append, l5] at hs
      omega
    have ih := parseN_enc l _ rest (fun e' he => ok e' (List.mem_cons_of_mem _ he)) hb5
    rw [l5] at ih
    rw [List.length_cons, parseN_succ, n0, n3, ev, ek, x1, x2, if_neg (by omega), if_neg (by omega), if_neg (by rw [oe.1]; decide), ih, eszs_cons]
    have hz : pre.length + 3 + e.key.size + e.val.size + eszs lf l = pre.length + (Nd.esz lf e + eszs lf l) := by
      have := enE_len oe
      unfold enE at this
      rw [List.length_append, List.length_append, size_len, size_len] at this
      have l0 : ([UInt8.ofNat e.key.size, UInt8.ofNat (xN lf e / 256), UInt8.ofNat (xN lf e)]).length = 3 := rfl
      omega
    show some (e :: l, pre.length + 3 + e.key.size + e.val.size + eszs lf l) = _
    rw [hz]
theorem parse_page {nd : Nd} (o : NdOk nd) : parseB (pageB nd) = some nd := by
  have sz := o.size
  have ll := o.len
  have hl : (pageB nd).data.toList = headE nd ++ (nd.l.flatMap (enE nd.leaf) ++ List.replicate (1024 - nd.size) 0) := by
    show encL nd ++ _ = _
    unfold encL
    rw [List.append_assoc]
  have hkd : nd.kind = if nd.leaf then 1 else 2 := rfl
  have hf := o.first
  have g : ∀ j, j < (headE nd).length → byteN (pageB nd) j = ((headE nd)[j]?.getD 0).toNat := fun j hj => by
    unfold byteN
    rw [hl, List.getElem?_append_left hj]
  have g0 : byteN (pageB nd) 0 = nd.kind := by
    rw [g 0 (by rw [headE_len]; unfold Nd.base; split <;> decide)]
    show (UInt8.ofNat nd.kind).toNat = _
    rw [u8N, hkd]; split <;> rfl
  have g1 : byteN (pageB nd) 1 = nd.l.length / 256 := by
    rw [g 1 (by rw [headE_len]; unfold Nd.base; split <;> decide)]
    show (UInt8.ofNat (nd.l.length / 256)).toNat = _
    rw [u8N]; omega
  have g2 : byteN (pageB nd) 2 = nd.l.length % 256 := by
    rw [g 2 (by rw [headE_len]; unfold Nd.base; split <;> decide)]
    show (UInt8.ofNat nd.l.length).toNat = _
    rw [u8N]
  have t1 : twoN (pageB nd) 1 = nd.l.length := by
    unfold twoN
    rw [g1, g2]; omega
  have lfe : (byteN (pageB nd) 0 == 1) = nd.leaf := by
    rw [g0, hkd]
    cases nd.leaf <;> rfl
  have t3 : kN nd.leaf (twoN (pageB nd) 3) = nd.first := by
    cases hlf : nd.leaf with
    | true => exact (o.z hlf).symm
    | false =>
      show twoN (pageB nd) 3 = nd.first
      have g3 : byteN (pageB nd) 3 = nd.first / 256 := by
        rw [g 3 (by rw [headE_len, hlf]; decide)]
        unfold headE
        rw [hlf]
        show (UInt8.ofNat (nd.first / 256)).toNat = _
        rw [u8N]; omega
      have g4 : byteN (pageB nd) 4 = nd.first % 256 := by
        rw [g 4 (by rw [headE_len, hlf]; decide)]
        unfold headE
        rw [hlf]
        show (UInt8.ofNat nd.first).toNat = _
        rw [u8N]
      unfold twoN
      rw [g3, g4]; omega
  have hp := parseN_enc nd.l (headE nd) _ o.en hl
  rw [headE_len] at hp
  unfold parseB
  rw [if_pos (by rw [g0, hkd]; cases nd.leaf <;> simp), lfe, t1, hp]
  have hz : zerosB (pageB nd) (Nd.base nd.leaf + eszs nd.leaf nd.l) = true := by
    unfold zerosB
    have : (pageB nd).data.toList.drop (Nd.base nd.leaf + eszs nd.leaf nd.l) = List.replicate (1024 - nd.size) 0 := by
      show (encL nd ++ List.replicate (1024 - nd.size) 0).drop nd.size = _
      rw [← encL_len o, List.drop_left]
    rw [this]
    simp
  simp only [hz, if_true, t3]
end Go.Proofs.YthbogjbcecmopaaGreatDoor
namespace Go.Proofs.YthbogjbcecmopaaGreatDoor
open Go.Gx
set_option maxRecDepth 100000
set_option linter.unusedVariables false
variable {h : Hp} {K : Value → Hp → Prop}
theorem w8N (n : Nat) : IntKind.u8.wrap (n : Int) = (((UInt8.ofNat n).toNat : Nat) : Int) := by rw [u8c, u8N]
theorem w8sh (n : Nat) : IntKind.u8.wrap (ishr IntKind.i64 (n : Int) 8) = (((UInt8.ofNat (n / 256)).toNat : Nat) : Int) := by
  rw [show (8 : Int) = ((8 : Nat) : Int) from rfl, shrN _ _ _ (by decide), w8N]
theorem rowC_zeros (n : Nat) : rowC byteC (List.replicate n 0) = repV n [.int .u8 0] := by
  unfold rowC repV
  rw [List.flatMap_replicate]; rfl
set_option maxHeartbeats 4000000 in
theorem nbytes_spec {k : Nat} {a : Option Addr} {c : Nat} {nd : Nd} (N : NdEx h k a c nd) (o : NdOk nd) (hK : ∀ h', Sub h h' → K (.string (pageB nd)) h') : CallsH Tryz.prog btree_node_bytes.id #[.pointer (some ⟨k, 0, none⟩)] h K := by
  have ll := o.len
  have sz := o.size
  have hf := o.first
  apply btree_node_bytes.calls
  unfold btree_node_bytes.W
  refine ⟨_, N.c0, _, _, _, N.c2, by decide, _, _, _, N.c2, fun k8 hk8 => ?_⟩
  have eln : Int.ofNat nd.l.length = ((nd.l.length : Nat) : Int) := rfl
  rw [eln, w8N, w8sh, w8N]
  have hx : setL (setL (setL [Value.int .u8 0, .int .u8 0, .int .u8 0] 0 [.int .u8 ((UInt8.ofNat nd.kind).toNat : Nat)]) 1 [.int .u8 ((UInt8.ofNat (nd.l.length / 256)).toNat : Nat)]) 2 [.int .u8 ((UInt8.ofNat nd.l.length).toNat : Nat)] = rowC byteC [UInt8.ofNat nd.kind, UInt8.ofNat (nd.l.length / 256), UInt8.ofNat nd.l.length] := rfl
  rw [hx]
  have hx2 : #[Value.int .u8 ((UInt8.ofNat nd.kind).toNat : Nat), .int .u8 ((UInt8.ofNat (nd.l.length / 256)).toNat : Nat), .int .u8 ((UInt8.ofNat nd.l.length).toNat : Nat)] = (rowC byteC [UInt8.ofNat nd.kind, UInt8.ofNat (nd.l.length / 256), UInt8.ofNat nd.l.length]).toArray := rfl
  rw [hx2]
  have B8 := Blk.new h k8 5 (rowC byteC [UInt8.ofNat nd.kind, UInt8.ofNat (nd.l.length / 256), UInt8.ofNat nd.l.length])
  have s8 := Sub.upd hk8 (.cells (rowC byteC [UInt8.ofNat nd.kind, UInt8.ofNat (nd.l.length / 256), UInt8.ofNat nd.l.length]).toArray 5 (0, 0))
  generalize h.upd k8 (.cells (rowC byteC [UInt8.ofNat nd.kind, UInt8.ofNat (nd.l.length / 256), UInt8.ofNat nd.l.length]).toArray 5 (0, 0)) = y at B8 s8 ⊢
  have N8 : NewR byteC 1 5 h y (some ⟨k8, 0, none⟩) 3 [UInt8.ofNat nd.kind, UInt8.ofNat (nd.l.length / 256), UInt8.ofNat nd.l.length] :=
    ⟨s8, (fun b ⟨o, s, e⟩ => by cases e; exact hk8), rfl, Nat.le_refl _, .inr ⟨k8, [], rfl, by rw [List.append_nil]; exact B8, rfl⟩⟩
  have Ny := N.sub s8
  have kd : ((nd.kind : Nat) : Int) = if nd.leaf = true then 1 else 2 := by unfold Nd.kind; split <;> rfl
  refine ⟨fun a1 l1 c1 x => NewR byteC 1 5 h x a1 c1 (headE nd) ∧ l1 = (headE nd).length, ?_, ?_⟩
  · rintro a1 l1 c1 x ⟨R, rfl⟩
    have Nx := N.sub R.sub
    refine ⟨_, _, _, Nx.c2, fun a2 l2 c2 i x m => ∃ q : Nat, i = (q : Int) ∧ q ≤ nd.l.length ∧ m = nd.l.length - q ∧ NewR byteC 1 5 h x a2 c2 (headE nd ++ (nd.l.take q).flatMap (enE nd.leaf)) ∧ l2 = (headE nd ++ (nd.l.take q).flatMap (enE nd.leaf)).length, ⟨_, 0, rfl, Nat.zero_le _, rfl, by rw [List.take_zero, List.flatMap_nil, List.append_nil]; exact R, by rw [List.take_zero, List.flatMap_nil, List.append_nil]⟩, ?_⟩
    rintro a2 l2 c2 i x m ⟨q, rfl, hq, rfl, Rx, rfl⟩
    have Nx := N.sub Rx.sub
    have okt : ∀ e ∈ nd.l.take q, EnOk nd.leaf e := fun e he => o.en e (List.mem_of_mem_take he)
    have lnE : (headE nd ++ (nd.l.take q).flatMap (enE nd.leaf)).length = Nd.base nd.leaf + eszs nd.leaf (nd.l.take q) := by rw [List.length_append, headE_len, flatE_len okt]
    have le1 := eszs_take_le nd.leaf nd.l q
    unfold Nd.size at sz
    refine split_dec (fun g => ?_) fun g => ?_
    · have g : (q : Int) < (nd.l.length : Int) := g
      have hq' : q < nd.l.length := by omega
      have he : nd.l[q]? = some nd.l[q] := List.getElem?_eq_getElem hq'
      generalize nd.l[q] = en at he
      have oe := o.en en (List.mem_of_getElem? he)
      have ms := may_size oe.1
      obtain ⟨b, o', ea, g0, g1, g2⟩ := Nx.get he
      have e4 : IntKind.i64.wrap ((q : Int) + 1) = ((q + 1 : Nat) : Int) := by rw [wid (by omega) (by omega)]; omega
      have z1 : Int.ofNat en.key.size = ((en.key.size : Nat) : Int) := rfl
      have z2 : Int.ofNat en.val.size = ((en.val.size : Nat) : Int) := rfl
      rw [e4]
      have fl : (nd.l.take (q + 1)).flatMap (enE nd.leaf) = (nd.l.take q).flatMap (enE nd.leaf) ++ enE nd.leaf en := flat_take he
      have bnd : ∀ {L : List UInt8} {M : List UInt8}, L.length ≤ 3000 → M.length ≤ 3000 → (2 * (L.length + M.length) + 768) * 1 ≤ 281474976710656 := fun {L M} h1 h2 => by omega
      have hl0 : (headE nd ++ (nd.l.take q).flatMap (enE nd.leaf)).length ≤ 2000 := by rw [lnE]; omega
      refine ⟨by omega, g, b, o', ea, _, by rw [Int.toNat_natCast]; exact g0, _, by rw [Int.toNat_natCast]; exact g1, _, by rw [Int.toNat_natCast]; exact g2, fun n x' => n = ((xN nd.leaf en : Nat) : Int) ∧ x = x', ?_, ?_⟩
      · rintro n x' ⟨rfl, rfl⟩
        rw [z1, w8N, w8sh, w8N]
        refine ⟨by decide, fun k33 hk33 => ⟨rowC byteC [UInt8.ofNat en.key.size, UInt8.ofNat (xN nd.leaf en / 256), UInt8.ofNat (xN nd.leaf en)], (Blk.new x k33 5 (rowC byteC [UInt8.ofNat en.key.size, UInt8.ofNat (xN nd.leaf en / 256), UInt8.ofNat (xN nd.leaf en)])).slice rfl, ?_⟩⟩
        have R33 := Rx.upd (Sub.upd hk33 (.cells (rowC byteC [UInt8.ofNat en.key.size, UInt8.ofNat (xN nd.leaf en / 256), UInt8.ofNat (xN nd.leaf en)]).toArray 5 (0, 0)))
        refine ⟨fun a3 c3 x3 => NewR byteC 1 5 h x3 a3 c3 ((headE nd ++ (nd.l.take q).flatMap (enE nd.leaf)) ++ [UInt8.ofNat en.key.size, UInt8.ofNat (xN nd.leaf en / 256), UInt8.ofNat (xN nd.leaf en)]), ?_, append_row appTByte byteC_len byteC_plain (M := [UInt8.ofNat en.key.size, UInt8.ofNat (xN nd.leaf en / 256), UInt8.ofNat (xN nd.leaf en)]) R33 rfl rfl rfl (bnd (by omega) (by show 3 ≤ 3000; decide)) fun a3 c3 x3 R3 => R3⟩
        intro a3 c3 x3 R3
        generalize eL3 : (headE nd ++ (nd.l.take q).flatMap (enE nd.leaf)) ++ [UInt8.ofNat en.key.size, UInt8.ofNat (xN nd.leaf en / 256), UInt8.ofNat (xN nd.leaf en)] = L3 at R3
        have hl3 : L3.length = (headE nd ++ (nd.l.take q).flatMap (enE nd.leaf)).length + 3 := by rw [← eL3, List.length_append]; rfl
        refine ⟨fun _ => none, (fun b o e => by cases e), fun a4 c4 x4 => NewR byteC 1 5 h x4 a4 c4 (L3 ++ en.key.data.toList), ?_, ?_⟩
        · intro a4 c4 x4 R4
          refine ⟨(fun b o e => by cases e), fun a5 c5 x5 => NewR byteC 1 5 h x5 a5 c5 ((L3 ++ en.key.data.toList) ++ en.val.data.toList), ?_, ?_⟩
          · intro a5 c5 x5 R5
            have eR : (L3 ++ en.key.data.toList) ++ en.val.data.toList = headE nd ++ (nd.l.take (q + 1)).flatMap (enE nd.leaf) := by
              rw [fl, ← eL3]; unfold enE; simp
            refine ⟨nd.l.length - (q + 1), by omega, q + 1, rfl, by omega, rfl, by rw [← eR]; exact R5, ?_⟩
            have e := hl3
            rw [← eR]
            simp only [List.length_append, size_len] at e ⊢
            omega
          · exact append_row appTByte byteC_len byteC_plain (M := en.val.data.toList) R4 (by have e := hl3; simp only [List.length_append, size_len] at e ⊢; omega) (size_len _).symm (rowC_bytes _).symm (bnd (by rw [List.length_append, hl3, size_len]; omega) (by rw [size_len]; omega)) fun a5 c5 x5 R5 => R5
        · exact append_row appTByte byteC_len byteC_plain (M := en.key.data.toList) R3 hl3.symm (size_len _).symm (rowC_bytes _).symm (bnd (by omega) (by rw [size_len]; omega)) fun a5 c5 x5 R5 => R5
      · refine ⟨_, Nx.c0, ?_⟩
        rw [kd]
        unfold xN
        cases nd.leaf with
        | true => exact split_eq (fun _ => ⟨rfl, rfl⟩) fun e => absurd rfl e
        | false => exact split_eq (fun e => by cases e) fun _ => ⟨rfl, rfl⟩
    · have g : ¬ (q : Int) < (nd.l.length : Int) := g
      have : q = nd.l.length := by omega
      subst this
      rw [List.take_length] at lnE Rx ⊢
      have eL : headE nd ++ nd.l.flatMap (enE nd.leaf) = encL nd := rfl
      rw [eL] at lnE Rx ⊢
      have e5 : IntKind.i64.wrap (IntKind.i64.wrap (1024 - Int.ofNat (encL nd).length)) = ((1024 - nd.size : Nat) : Int) := by
        rw [lnE, show Int.ofNat (Nd.base nd.leaf + eszs nd.leaf nd.l) = ((Nd.base nd.leaf + eszs nd.leaf nd.l : Nat) : Int) from rfl]
        unfold Nd.size
        rw [wid (x := 1024 - _) (by omega) (by omega), wid (by omega) (by omega)]; omega
      rw [e5, Int.toNat_natCast]
      refine ⟨by omega, by omega, fun a3 c3 x3 => NewR byteC 1 5 h x3 a3 c3 (encL nd ++ List.replicate (1024 - nd.size) 0), ?_, append_row appTByte byteC_len byteC_plain (M := List.replicate (1024 - nd.size) 0) Rx rfl (by rw [List.length_replicate]) (rowC_zeros _).symm (by rw [List.length_replicate, lnE]; omega) fun a5 c5 x5 R5 => R5⟩
      intro a3 c3 x3 R3
      refine ⟨pageB nd, ?_, hK x3 R3.sub⟩
      have := R3.own.row
      unfold RowAt at this
      rw [List.length_append, List.length_replicate, Nat.mul_one] at this
      rw [← rowC_bytes]
      exact this
  · refine ⟨_, Ny.c0, ?_⟩
    rw [kd]
    cases hlf : nd.leaf with
    | true =>
      refine split_eq (fun e => by cases e) fun _ => ?_
      unfold headE
      rw [hlf]
      exact ⟨N8, rfl⟩
    | false =>
      refine split_eq (fun _ => ⟨_, Ny.c1, by decide, _, Ny.c1, fun k52 hk52 => ?_⟩) fun e => absurd rfl e
      rw [w8sh, w8N]
      refine ⟨rowC byteC [UInt8.ofNat (nd.first / 256), UInt8.ofNat nd.first], (Blk.new y k52 5 (rowC byteC [UInt8.ofNat (nd.first / 256), UInt8.ofNat nd.first])).slice rfl, fun a3 c3 x3 => NewR byteC 1 5 h x3 a3 c3 (headE nd), fun a3 c3 x3 R3 => ⟨R3, by rw [headE_len, hlf]; rfl⟩, ?_⟩
      refine append_row appTByte byteC_len byteC_plain (M := [UInt8.ofNat (nd.first / 256), UInt8.ofNat nd.first]) (N8.upd (Sub.upd hk52 (.cells (rowC byteC [UInt8.ofNat (nd.first / 256), UInt8.ofNat nd.first]).toArray 5 (0, 0)))) rfl rfl rfl (by show (2 * (3 + 2) + 768) * 1 ≤ 281474976710656; decide) fun a5 c5 x5 R5 => ?_
      unfold headE
      rw [hlf]
      exact R5
end Go.Proofs.YthbogjbcecmopaaGreatDoor
namespace Go.Proofs.YthbogjbcecmopaaGreatDoor
open Go.Gx
set_option maxRecDepth 100000
set_option linter.unusedVariables false
section
variable {k : ByteArray}
theorem kvAt_right : ∀ {A : List KV} (L : List KV), (∀ p ∈ A, blt p.1 k = true) → kvAt k (A ++ L) = A.length + kvAt k L
  | [], L, _ => by simp
  | p :: A, L, h => by
    rw [List.cons_append, List.length_cons]
    show (if blt p.1 k = true then kvAt k (A ++ L) + 1 else 0) = _
    rw [if_pos (h p List.mem_cons_self), kvAt_right L fun q hq => h q (List.mem_cons_of_mem _ hq)]; omega
theorem kvAt_left : ∀ (L : List KV) {B : List KV}, (∀ p ∈ B, blt k p.1 = true) → kvAt k (L ++ B) = kvAt k L
  | [], [], _ => rfl
  | [], p :: B, h => by
    show (if blt p.1 k = true then kvAt k B + 1 else 0) = 0
    rw [if_neg (by rw [blt_asymm (h p List.mem_cons_self)]; decide)]
  | p :: L, B, h => by
    rw [List.cons_append]
    show (if blt p.1 k = true then kvAt k (L ++ B) + 1 else 0) = if blt p.1 k = true then kvAt k L + 1 else 0
    rw [kvAt_left L h]
theorem kvIs_right {A : List KV} (L : List KV) (h : ∀ p ∈ A, blt p.1 k = true) : kvIs k (A ++ L) = kvIs k L := by
  unfold kvIs
  rw [kvAt_right L h, List.getElem?_append_right (by omega), Nat.add_sub_cancel_left]
theorem kvIs_left (L : List KV) {B : List KV} (h : ∀ p ∈ B, blt k p.1 = true) : kvIs k (L ++ B) = kvIs k L := by
  unfold kvIs
  rw [kvAt_left L h]
  have hl := kvAt_le k L
  by_cases e : kvAt k L < L.length
  · rw [List.getElem?_append_left e]
  · have e2 : kvAt k L = L.length := by omega
    rw [e2, List.getElem?_append_right (Nat.le_refl _), Nat.sub_self, List.getElem?_eq_none (Nat.le_refl L.length)]
    cases B with
    | nil => rfl
    | cons p B => exact decide_eq_false (blt_ne (h p List.mem_cons_self)).symm
theorem kvPut_right {A : List KV} (L : List KV) (v : ByteArray) (h : ∀ p ∈ A, blt p.1 k = true) : kvPut k v (A ++ L) = A ++ kvPut k v L := by
  unfold kvPut
  rw [kvAt_right L h, kvIs_right L h, List.take_length_add_append, List.append_assoc]
  congr 2
  cases kvIs k L with
  | true => rw [if_pos rfl, if_pos rfl, Nat.add_assoc, List.drop_length_add_append]
  | false => rw [if_neg (by decide), if_neg (by decide), List.drop_length_add_append]
theorem kvPut_left (L : List KV) (v : ByteArray) {B : List KV} (h : ∀ p ∈ B, blt k p.1 = true) : kvPut k v (L ++ B) = kvPut k v L ++ B := by
  unfold kvPut
  have hl := kvAt_le k L
  rw [kvAt_left L h, kvIs_left L h, List.take_append_of_le_length hl, List.append_assoc, List.cons_append]
  congr 2
  cases e : kvIs k L with
  | true => rw [if_pos rfl, List.drop_append_of_le_length (kvAt_lt e)]
  | false => rw [if_neg (by decide), List.drop_append_of_le_length hl]
theorem kvDrop_right {A : List KV} (L : List KV) (h : ∀ p ∈ A, blt p.1 k = true) : kvDrop k (A ++ L) = A ++ kvDrop k L := by
  unfold kvDrop
  rw [kvAt_right L h, kvIs_right L h, List.take_length_add_append, Nat.add_assoc, List.drop_length_add_append, List.append_assoc]
  split <;> rfl
theorem kvDrop_left (L : List KV) {B : List KV} (h : ∀ p ∈ B, blt k p.1 = true) : kvDrop k (L ++ B) = kvDrop k L ++ B := by
  unfold kvDrop
  have hl := kvAt_le k L
  rw [kvAt_left L h, kvIs_left L h]
  cases e : kvIs k L with
  | true => rw [if_pos rfl, if_pos rfl, List.take_append_of_le_length hl, List.drop_append_of_le_length (kvAt_lt e), List.append_assoc]
  | false => rw [if_neg (by decide), if_neg (by decide)]
theorem kvPut_ne (L : List KV) (v : ByteArray) : kvPut k v L ≠ [] := by
  unfold kvPut
  intro e
  have := congrArg List.length e
  simp at this
end
def NA : List (List KV) → Prop
  | x :: y :: l => ¬ (x = [] ∧ y = []) ∧ NA (y :: l)
  | _ => True
theorem NA_tail {x : List KV} {l : List (List KV)} (h : NA (x :: l)) : NA l := by
  cases l with
  | nil => trivial
  | cons y l => exact h.2
theorem NA_right : ∀ {A : List (List KV)} {B : List (List KV)}, NA (A ++ B) → NA B
  | [], _, h => h
  | _ :: A, _, h => NA_right (A := A) (NA_tail h)
theorem NA_left : ∀ {A : List (List KV)} {B : List (List KV)}, NA (A ++ B) → NA A
  | [], _, _ => trivial
  | [_], _, _ => trivial
  | _ :: y :: A, _, h => ⟨h.1, NA_left (A := y :: A) h.2⟩
theorem NA_cat : ∀ {A B : List (List KV)} {w z : List KV}, NA (A ++ [w]) → NA (z :: B) → ¬ (w = [] ∧ z = []) → NA (A ++ w :: z :: B)
  | [], _, _, _, _, h2, h3 => ⟨h3, h2⟩
  | [x], B, w, z, h1, h2, h3 => ⟨h1.1, NA_cat (A := []) trivial h2 h3⟩
  | x :: y :: A, B, w, z, h1, h2, h3 => ⟨h1.1, NA_cat (A := y :: A) h1.2 h2 h3⟩
theorem NA_cons {x : List KV} {B : List (List KV)} (h : NA B) (hx : x ≠ []) : NA (x :: B) := by
  cases B with
  | nil => trivial
  | cons y B => exact ⟨fun e => hx e.1, h⟩
theorem NA_mid : ∀ {A B : List (List KV)} {x : List KV}, NA A → NA B → x ≠ [] → NA (A ++ x :: B)
  | [], _, _, _, h2, h3 => NA_cons h2 h3
  | [a], _, _, _, h2, h3 => ⟨fun e => h3 e.2, NA_cons h2 h3⟩
  | a :: b :: A, _, _, h1, h2, h3 => ⟨h1.1, NA_mid (A := b :: A) h1.2 h2 h3⟩
theorem NA_join1 {B : List (List KV)} {w z : List KV} (h : NA (z :: B)) : NA ((w ++ z) :: B) := by
  cases B with
  | nil => trivial
  | cons y B => exact ⟨fun e => h.1 ⟨(List.append_eq_nil_iff.1 e.1).2, e.2⟩, h.2⟩
theorem NA_join : ∀ {A B : List (List KV)} {w z : List KV}, NA (A ++ [w]) → NA (z :: B) → NA (A ++ (w ++ z) :: B)
  | [], _, _, _, _, h2 => NA_join1 h2
  | [x], B, w, z, h1, h2 => ⟨fun e => h1.1 ⟨e.1, (List.append_eq_nil_iff.1 e.2).1⟩, NA_join1 h2⟩
  | x :: y :: A, B, w, z, h1, h2 => ⟨h1.1, NA_join (A := y :: A) h1.2 h2⟩
theorem NA_ne {A : List (List KV)} (h : NA A) (hl : 2 ≤ A.length) : A.flatten ≠ [] := by
  intro e
  match A, hl with
  | x :: y :: l, _ =>
    rw [List.flatten_cons, List.flatten_cons, List.append_eq_nil_iff, List.append_eq_nil_iff] at e
    exact h.1 ⟨e.1, e.2.1⟩
abbrev Cl := ByteArray × Nat
def hdK (t : ByteArray) : List Cl → ByteArray
  | [] => t
  | c :: _ => c.1
def ChP (Q : Nat → ByteArray → ByteArray → Prop) (t : ByteArray) : List Cl → Prop
  | [] => True
  | c :: K => Q c.2 c.1 (hdK t K) ∧ ChP Q t K
theorem hdK_append (t : ByteArray) (K1 K2 : List Cl) : hdK t (K1 ++ K2) = hdK (hdK t K2) K1 := by cases K1 <;> rfl
theorem ChP_append {Q : Nat → ByteArray → ByteArray → Prop} {t : ByteArray} : ∀ {K1 K2 : List Cl}, ChP Q t (K1 ++ K2) ↔ ChP Q (hdK t K2) K1 ∧ ChP Q t K2
  | [], K2 => ⟨fun h => ⟨trivial, h⟩, fun h => h.2⟩
  | c :: K1, K2 => by
    show Q c.2 c.1 (hdK t (K1 ++ K2)) ∧ ChP Q t (K1 ++ K2) ↔ (Q c.2 c.1 (hdK (hdK t K2) K1) ∧ ChP Q (hdK t K2) K1) ∧ ChP Q t K2
    rw [ChP_append (K1 := K1), hdK_append, and_assoc]
theorem ChP_mono {Q Q' : Nat → ByteArray → ByteArray → Prop} {t : ByteArray} : ∀ {K : List Cl}, ChP Q t K → (∀ c ∈ K, ∀ f t, Q c.2 f t → Q' c.2 f t) → ChP Q' t K
  | [], _, _ => trivial
  | c :: K, h, H => ⟨H c List.mem_cons_self _ _ h.1, ChP_mono h.2 fun c' hc => H c' (List.mem_cons_of_mem _ hc)⟩
theorem ChP_at {Q : Nat → ByteArray → ByteArray → Prop} {t : ByteArray} {K : List Cl} (h : ChP Q t K) {c : Cl} (hc : c ∈ K) : ∃ f t, Q c.2 f t := by
  obtain ⟨A, B, rfl⟩ := List.append_of_mem hc
  exact ⟨_, _, (ChP_append.1 h).2.1⟩
def clE (e : En) : Cl := (e.key, e.kid)
def Nd.cl (nd : Nd) (f : ByteArray) : List Cl := (f, nd.first) :: nd.l.map clE
theorem Nd.kids_cl (nd : Nd) (f : ByteArray) : nd.kids = (nd.cl f).map (·.2) := by
  unfold Nd.kids Nd.cl clE; simp
theorem cl_iff {Q : Nat → ByteArray → ByteArray → Prop} {t : ByteArray} {lf : Bool} : ∀ {l : List En} {f : ByteArray} {fi : Nat}, ChP Q t (Nd.cl ⟨lf, fi, l⟩ f) ↔ ∀ j c, (Nd.kids ⟨lf, fi, l⟩)[j]? = some c → Q c (Nd.lo ⟨lf, fi, l⟩ f j) (Nd.hi ⟨lf, fi, l⟩ t j)
  | [], f, fi => by
    constructor
    · rintro ⟨h, _⟩ j c hc
      cases j with
      | zero => cases hc; exact h
      | succ j => cases hc
    · intro H
      exact ⟨H 0 fi rfl, trivial⟩
  | e :: l, f, fi => by
    have ih := cl_iff (Q := Q) (t := t) (lf := lf) (l := l) (f := e.key) (fi := e.kid)
    constructor
    · rintro ⟨h, h2⟩ j c hc
      cases j with
      | zero => cases hc; exact h
      | succ j =>
        have := ih.1 h2 j c hc
        have e1 : Nd.lo ⟨lf, fi, e :: l⟩ f (j + 1) = Nd.lo ⟨lf, e.kid, l⟩ e.key j := by
          cases j with
          | zero => rfl
          | succ i =>
            unfold Nd.lo
            simp only [List.getElem?_cons_succ]
            cases hl : l[i]? with
            | some x => rfl
            | none =>
              have h1 := (List.getElem?_eq_some_iff.1 hc).1
              rw [Nd.kids_len] at h1
              have h1 : i + 1 + 1 < l.length + 1 + 1 := h1
              rw [List.getElem?_eq_none_iff] at hl
              omega
        rw [e1]; exact this
    · intro H
      refine ⟨H 0 fi rfl, ih.2 fun j c hc => ?_⟩
      have := H (j + 1) c hc
      have e1 : Nd.lo ⟨lf, fi, e :: l⟩ f (j + 1) = Nd.lo ⟨lf, e.kid, l⟩ e.key j := by
        cases j with
        | zero => rfl
        | succ i =>
          unfold Nd.lo
          simp only [List.getElem?_cons_succ]
          cases hl : l[i]? with
          | some x => rfl
          | none =>
            have h1 := (List.getElem?_eq_some_iff.1 hc).1
            rw [Nd.kids_len] at h1
            have h1 : i + 1 < l.length + 1 := h1
            rw [List.getElem?_eq_none_iff] at hl
            omega
      rw [e1] at this; exact this
def keysS (f t : ByteArray) (l : List En) : Prop := keysOk f t l ∧ ∀ e ∈ l, blt f e.key = true
section
variable (pg : Nat → Option Nd)
def entsK (m : Nat) (K : List Cl) : List (List KV) := K.map fun c => ents pg m c.2
def idsK (m : Nat) (K : List Cl) : List Nat := K.flatMap fun c => ids pg m c.2
def TrS : Nat → Nat → ByteArray → ByteArray → Prop
  | 0, id, f, t => ∃ nd, pg id = some nd ∧ nd.leaf = true ∧ keysOk f t nd.l
  | m + 1, id, f, t => ∃ nd, pg id = some nd ∧ nd.leaf = false ∧ keysS f t nd.l ∧ ChP (TrS m) t (nd.cl f) ∧ NA (entsK pg m (nd.cl f))
def Fw : Nat → Nd → ByteArray → ByteArray → Prop
  | 0, nd, f, t => nd.leaf = true ∧ keysOk f t nd.l
  | m + 1, nd, f, t => nd.leaf = false ∧ keysS f t nd.l ∧ ChP (TrS pg m) t (nd.cl f)
def Fn : Nat → Nd → Prop
  | 0, _ => True
  | m + 1, nd => NA (entsK pg m (nd.cl eB))
def entsN : Nat → Nd → List KV
  | 0, nd => nd.kv
  | m + 1, nd => (entsK pg m (nd.cl eB)).flatten
def idsN : Nat → Nd → List Nat
  | 0, _ => []
  | m + 1, nd => idsK pg m (nd.cl eB)
end
variable {pg pg' : Nat → Option Nd}
theorem TrS_iff {m id : Nat} {f t : ByteArray} : TrS pg m id f t ↔ ∃ nd, pg id = some nd ∧ Fw pg m nd f t ∧ Fn pg m nd := by
  cases m with
  | zero => exact ⟨fun ⟨nd, h1, h2⟩ => ⟨nd, h1, h2, trivial⟩, fun ⟨nd, h1, h2, _⟩ => ⟨nd, h1, h2⟩⟩
  | succ m => exact ⟨fun ⟨nd, h1, h2, h3, h4, h5⟩ => ⟨nd, h1, ⟨h2, h3, h4⟩, h5⟩, fun ⟨nd, h1, ⟨h2, h3, h4⟩, h5⟩ => ⟨nd, h1, h2, h3, h4, h5⟩⟩
theorem TrS.tr : ∀ {m id : Nat} {f t : ByteArray}, TrS pg m id f t → Tr pg m id f t
  | 0, _, _, _, h => h
  | m + 1, id, f, t, ⟨nd, h1, h2, h3, h4, h5⟩ => ⟨nd, h1, h2, h3.1, cl_iff.1 (ChP_mono h4 fun c _ f t h => TrS.tr h)⟩
theorem ents_N {m id : Nat} {nd : Nd} (h : pg id = some nd) : ents pg m id = entsN pg m nd := by
  cases m with
  | zero => exact kvs_eq h
  | succ m =>
    show (kidsOf pg id).flatMap (ents pg m) = _
    rw [kidsOf_eq h, nd.kids_cl eB]
    unfold entsN entsK
    rw [List.flatMap_def, List.map_map]; rfl
theorem ids_N {m id : Nat} {nd : Nd} (h : pg id = some nd) : ids pg m id = id :: idsN pg m nd := by
  cases m with
  | zero => rfl
  | succ m =>
    show id :: (kidsOf pg id).flatMap (ids pg m) = _
    rw [kidsOf_eq h, nd.kids_cl eB]
    unfold idsN idsK
    rw [List.flatMap_map]
theorem TrS.frame : ∀ {m id : Nat} {f t : ByteArray}, TrS pg m id f t → (∀ i ∈ ids pg m id, pg' i = pg i) → TrS pg' m id f t
  | 0, id, f, t, ⟨nd, h1, h2⟩, H => ⟨nd, (H id ids_self).trans h1, h2⟩
  | m + 1, id, f, t, ⟨nd, h1, h2, h3, h4, h5⟩, H => by
    rw [ids_N h1] at H
    have sub : ∀ c ∈ nd.cl f, ∀ i ∈ ids pg m c.2, pg' i = pg i := fun c hc i hi => H i (List.mem_cons_of_mem _ (List.mem_flatMap.2 (by
      rcases List.mem_cons.1 hc with rfl | hc
      · exact ⟨(eB, nd.first), List.mem_cons_self, hi⟩
      · exact ⟨c, List.mem_cons_of_mem _ hc, hi⟩)))
    refine ⟨nd, (H id List.mem_cons_self).trans h1, h2, h3, ChP_mono h4 fun c hc f t T => T.frame (sub c hc), ?_⟩
    have : entsK pg' m (nd.cl f) = entsK pg m (nd.cl f) := by
      unfold entsK
      refine List.map_congr_left fun c hc => ?_
      obtain ⟨f', t', T⟩ := ChP_at h4 hc
      exact (T.tr.frame (sub c hc)).2.1
    rw [this]; exact h5
theorem ChS.frame {m : Nat} {t : ByteArray} {K : List Cl} (h : ChP (TrS pg m) t K) (H : ∀ i ∈ idsK pg m K, pg' i = pg i) : ChP (TrS pg' m) t K ∧ entsK pg' m K = entsK pg m K ∧ idsK pg' m K = idsK pg m K := by
  have sub : ∀ c ∈ K, ∀ i ∈ ids pg m c.2, pg' i = pg i := fun c hc i hi => H i (List.mem_flatMap.2 ⟨c, hc, hi⟩)
  refine ⟨ChP_mono h fun c hc f t T => T.frame (sub c hc), List.map_congr_left fun c hc => ?_, ?_⟩
  · obtain ⟨f', t', T⟩ := ChP_at h hc
    exact (T.tr.frame (sub c hc)).2.1
  · unfold idsK
    rw [List.flatMap_def, List.flatMap_def]
    congr 1
    refine List.map_congr_left fun c hc => ?_
    obtain ⟨f', t', T⟩ := ChP_at h hc
    exact (T.tr.frame (sub c hc)).2.2
theorem Fw.frame {m : Nat} {nd : Nd} {f t : ByteArray} (h : Fw pg m nd f t) (H : ∀ i ∈ idsN pg m nd, pg' i = pg i) : Fw pg' m nd f t ∧ (Fn pg m nd → Fn pg' m nd) ∧ entsN pg' m nd = entsN pg m nd ∧ idsN pg' m nd = idsN pg m nd := by
  cases m with
  | zero => exact ⟨h, fun h => h, rfl, rfl⟩
  | succ m =>
    obtain ⟨h1, h2, h3⟩ := h
    obtain ⟨g1, g2, g3⟩ := ChS.frame h3 H
    refine ⟨⟨h1, h2, g1⟩, fun h5 => ?_, ?_, g3⟩
    · show NA (entsK pg' m (nd.cl f))
      rw [g2]; exact h5
    · show (entsK pg' m (nd.cl f)).flatten = _
      rw [g2]; rfl
theorem TrS.put {m id : Nat} {nd : Nd} {f t : ByteArray} (h : Fw pg m nd f t) (hn : Fn pg m nd) (e : pg' id = some nd) (H : ∀ i ∈ idsN pg m nd, pg' i = pg i) : TrS pg' m id f t ∧ ents pg' m id = entsN pg m nd ∧ ids pg' m id = id :: idsN pg m nd := by
  obtain ⟨g1, g2, g3, g4⟩ := h.frame H
  exact ⟨TrS_iff.2 ⟨nd, e, g1, g2 hn⟩, (ents_N e).trans g3, by rw [ids_N e, g4]⟩
end Go.Proofs.YthbogjbcecmopaaGreatDoor
namespace Go.Proofs.YthbogjbcecmopaaGreatDoor
open Go.Gx
set_option maxRecDepth 100000
set_option linter.unusedVariables false
variable {pg pg' : Nat → Option Nd}
theorem blt_eB (x : ByteArray) : blt x eB = false := by
  unfold blt
  show Op.bytesLess x.data.toList [] = false
  cases x.data.toList <;> rfl
theorem blt_neB {x y : ByteArray} (h : blt x y = true) : y ≠ eB := fun e => by rw [e, blt_eB] at h; cases h
theorem keysOk_part {f t : ByteArray} {l1 l2 : List En} {e : En} (h : keysOk f t (l1 ++ e :: l2)) : keysOk f e.key l1 ∧ keysOk e.key t (e :: l2) ∧ keysS e.key t l2 := by
  obtain ⟨h1, h2⟩ := keysOk_iff.1 h
  rw [List.map_append, List.map_cons] at h2
  obtain ⟨s1, s2, s3⟩ := List.pairwise_append.1 h2
  have s4 := List.pairwise_cons.1 s2
  have he : ∀ e' ∈ l2, blt e.key e'.key = true := fun e' he => s4.1 _ (List.mem_map_of_mem he)
  refine ⟨keysOk_iff.2 ⟨fun e' he' => ⟨(h1 e' (List.mem_append_left _ he')).1, fun _ => s3 _ (List.mem_map_of_mem he') _ List.mem_cons_self⟩, s1⟩, keysOk_iff.2 ⟨fun e' he' => ⟨?_, (h1 e' (List.mem_append_right _ he')).2⟩, s2⟩, keysOk_iff.2 ⟨fun e' he' => ⟨blt_asymm (he e' he'), (h1 e' (List.mem_append_right _ (List.mem_cons_of_mem _ he'))).2⟩, s4.2⟩, he⟩
  rcases List.mem_cons.1 he' with rfl | he'
  · exact blt_irrefl _
  · exact blt_asymm (he e' he')
theorem keysOk_cat {f s t : ByteArray} {l1 l2 : List En} (h1 : keysOk f s l1) (h2 : keysOk s t l2) (hs : blt f s = true) (ht : below t s) : keysOk f t (l1 ++ l2) := by
  obtain ⟨a1, a2⟩ := keysOk_iff.1 h1
  obtain ⟨b1, b2⟩ := keysOk_iff.1 h2
  have s0 := blt_neB hs
  refine keysOk_iff.2 ⟨fun e he => ?_, ?_⟩
  · rcases List.mem_append.1 he with he | he
    · exact ⟨(a1 e he).1, fun h => blt_trans ((a1 e he).2 s0) (ht h)⟩
    · exact ⟨blt_asymm (blt_le_trans hs (b1 e he).1), (b1 e he).2⟩
  · rw [List.map_append]
    refine List.pairwise_append.2 ⟨a2, b2, fun p hp q hq => ?_⟩
    obtain ⟨e, he, rfl⟩ := List.mem_map.1 hp
    obtain ⟨e', he', rfl⟩ := List.mem_map.1 hq
    exact blt_le_trans ((a1 e he).2 s0) (b1 e' he').1
theorem keysOk_mid {f s t : ByteArray} {l1 l2 : List En} {e : En} (h1 : keysOk f e.key l1) (h2 : keysS e.key t l2) (hs : blt e.key f = false) (ht : below t e.key) (h0 : e.key ≠ eB) : keysOk f t (l1 ++ e :: l2) := by
  obtain ⟨a1, a2⟩ := keysOk_iff.1 h1
  obtain ⟨b1, b2⟩ := keysOk_iff.1 h2.1
  refine keysOk_iff.2 ⟨fun e' he => ?_, ?_⟩
  · rcases List.mem_append.1 he with he | he
    · exact ⟨(a1 e' he).1, fun h => blt_trans ((a1 e' he).2 h0) (ht h)⟩
    · rcases List.mem_cons.1 he with rfl | he
      · exact ⟨hs, ht⟩
      · exact ⟨le_trans_blt hs (b1 e' he).1, (b1 e' he).2⟩
  · rw [List.map_append, List.map_cons]
    refine List.pairwise_append.2 ⟨a2, List.pairwise_cons.2 ⟨fun q hq => ?_, b2⟩, fun p hp q hq => ?_⟩
    · obtain ⟨e', he', rfl⟩ := List.mem_map.1 hq
      exact h2.2 e' he'
    · obtain ⟨e1, he1, rfl⟩ := List.mem_map.1 hp
      rcases List.mem_cons.1 hq with rfl | hq
      · exact (a1 e1 he1).2 h0
      · obtain ⟨e', he', rfl⟩ := List.mem_map.1 hq
        exact blt_trans ((a1 e1 he1).2 h0) (h2.2 e' he')
def rightN (lf : Bool) (e : En) (l : List En) : Nd := if lf then ⟨true, 0, e :: l⟩ else ⟨false, e.kid, l⟩
theorem cl_app (lf : Bool) (fi : Nat) (l1 : List En) (e : En) (l2 : List En) (f : ByteArray) : Nd.cl ⟨lf, fi, l1 ++ e :: l2⟩ f = Nd.cl ⟨lf, fi, l1⟩ f ++ Nd.cl ⟨lf, e.kid, l2⟩ e.key := by
  unfold Nd.cl
  rw [List.map_append, List.map_cons]; rfl
theorem entsK_append (pg : Nat → Option Nd) (m : Nat) (A B : List Cl) : entsK pg m (A ++ B) = entsK pg m A ++ entsK pg m B := List.map_append
theorem idsK_append (pg : Nat → Option Nd) (m : Nat) (A B : List Cl) : idsK pg m (A ++ B) = idsK pg m A ++ idsK pg m B := List.flatMap_append
theorem Fw.part {m : Nat} {lf : Bool} {fi : Nat} {l1 l2 : List En} {e : En} {f t : ByteArray} (h : Fw pg m ⟨lf, fi, l1 ++ e :: l2⟩ f t) :
    Fw pg m ⟨lf, fi, l1⟩ f e.key ∧ Fw pg m (rightN lf e l2) e.key t ∧ entsN pg m ⟨lf, fi, l1 ++ e :: l2⟩ = entsN pg m ⟨lf, fi, l1⟩ ++ entsN pg m (rightN lf e l2) ∧ idsN pg m ⟨lf, fi, l1 ++ e :: l2⟩ = idsN pg m ⟨lf, fi, l1⟩ ++ idsN pg m (rightN lf e l2) ∧
    (Fn pg m ⟨lf, fi, l1 ++ e :: l2⟩ → Fn pg m ⟨lf, fi, l1⟩ ∧ Fn pg m (rightN lf e l2)) := by
  cases m with
  | zero =>
    obtain ⟨h1, h2⟩ := h
    have h1 : lf = true := h1
    subst h1
    obtain ⟨g1, g2, g3⟩ := keysOk_part h2
    refine ⟨⟨rfl, g1⟩, ⟨rfl, g2⟩, ?_, rfl, fun _ => ⟨trivial, trivial⟩⟩
    show List.map En.kv (l1 ++ e :: l2) = List.map En.kv l1 ++ List.map En.kv (e :: l2)
    rw [List.map_append]
  | succ m =>
    obtain ⟨h1, h2, h3⟩ := h
    have h1 : lf = false := h1
    subst h1
    obtain ⟨g1, g2, g3⟩ := keysOk_part h2.1
    rw [cl_app] at h3
    obtain ⟨c1, c2⟩ := ChP_append.1 h3
    have e1 : entsK pg m (Nd.cl ⟨false, fi, l1 ++ e :: l2⟩ eB) = entsK pg m (Nd.cl ⟨false, fi, l1⟩ eB) ++ entsK pg m (Nd.cl ⟨false, e.kid, l2⟩ eB) := by rw [cl_app, entsK_append]; rfl
    refine ⟨⟨rfl, ⟨g1, fun e' he => h2.2 e' (List.mem_append_left _ he)⟩, c1⟩, ⟨rfl, g3, c2⟩, ?_, ?_, fun hn => ?_⟩
    · show (entsK pg m _).flatten = (entsK pg m _).flatten ++ (entsK pg m _).flatten
      rw [e1, List.flatten_append]; rfl
    · show idsK pg m _ = idsK pg m _ ++ idsK pg m _
      rw [cl_app, idsK_append]; rfl
    · have hn : NA (entsK pg m (Nd.cl ⟨false, fi, l1 ++ e :: l2⟩ eB)) := hn
      rw [e1] at hn
      exact ⟨NA_left hn, NA_right hn⟩
def mergeN (a : Nd) (s : ByteArray) (b : Nd) : Nd := ⟨a.leaf, a.first, if a.leaf then a.l ++ b.l else a.l ++ ⟨s, eB, b.first⟩ :: b.l⟩
theorem Fw.merge {m : Nat} {a b : Nd} {f s t : ByteArray} (ha : Fw pg m a f s) (hb : Fw pg m b s t) (hs : blt f s = true) (ht : below t s) :
    Fw pg m (mergeN a s b) f t ∧ entsN pg m (mergeN a s b) = entsN pg m a ++ entsN pg m b ∧ idsN pg m (mergeN a s b) = idsN pg m a ++ idsN pg m b := by
  obtain ⟨al, af, ax⟩ := a
  obtain ⟨bl, bf, bs⟩ := b
  cases m with
  | zero =>
    have e1 : al = true := ha.1
    subst e1
    refine ⟨⟨rfl, keysOk_cat ha.2 hb.2 hs ht⟩, ?_, rfl⟩
    show List.map En.kv (ax ++ bs) = _
    rw [List.map_append]; rfl
  | succ m =>
    obtain ⟨h1, h2, h3⟩ := ha
    obtain ⟨g1, g2, g3⟩ := hb
    have e1 : al = false := h1
    subst e1
    have ec : Nd.cl (mergeN ⟨false, af, ax⟩ s ⟨bl, bf, bs⟩) = fun f => Nd.cl ⟨false, af, ax⟩ f ++ Nd.cl ⟨bl, bf, bs⟩ s := by
      funext f
      show Nd.cl ⟨false, af, ax ++ ⟨s, eB, bf⟩ :: bs⟩ f = _
      rw [cl_app]; rfl
    refine ⟨⟨rfl, ⟨keysOk_mid (s := f) (e := ⟨s, eB, bf⟩) h2.1 g2 (blt_asymm hs) ht (blt_neB hs), fun e he => ?_⟩, ?_⟩, ?_, ?_⟩
    · rcases List.mem_append.1 he with he | he
      · exact h2.2 e he
      · rcases List.mem_cons.1 he with rfl | he
        · exact hs
        · exact blt_trans hs (g2.2 e he)
    · rw [ec]
      exact ChP_append.2 ⟨h3, g3⟩
    · show (entsK pg m _).flatten = (entsK pg m _).flatten ++ (entsK pg m _).flatten
      rw [ec, entsK_append, List.flatten_append]; rfl
    · show idsK pg m _ = idsK pg m _ ++ idsK pg m _
      rw [ec, idsK_append]; rfl
theorem cl_split (lf : Bool) (fi : Nat) (l1 : List En) (f : ByteArray) : ∃ K1 c, (∀ l2, Nd.cl ⟨lf, fi, l1 ++ l2⟩ f = K1 ++ c :: l2.map clE) ∧ K1.length = l1.length ∧ (∀ l2, (Nd.kids ⟨lf, fi, l1 ++ l2⟩)[l1.length]? = some c.2) ∧ ((l1 = [] ∧ c = (f, fi)) ∨ ∃ l0 e, l1 = l0 ++ [e] ∧ c = clE e) := by
  rcases List.eq_nil_or_concat l1 with rfl | ⟨l0, e, rfl⟩
  · exact ⟨[], (f, fi), fun l2 => rfl, rfl, fun l2 => rfl, .inl ⟨rfl, rfl⟩⟩
  · rw [List.concat_eq_append]
    refine ⟨Nd.cl ⟨lf, fi, l0⟩ f, clE e, fun l2 => ?_, ?_, fun l2 => ?_, .inr ⟨l0, e, rfl, rfl⟩⟩
    · rw [List.append_assoc, List.singleton_append, cl_app]; rfl
    · unfold Nd.cl; simp
    · unfold Nd.kids
      rw [List.length_append]
      show (fi :: List.map En.kid (l0 ++ [e] ++ l2))[l0.length + 1]? = _
      rw [List.getElem?_cons_succ, List.map_append, List.map_append, List.append_assoc, List.getElem?_append_right (by rw [List.length_map]; exact Nat.le_refl _), List.length_map, Nat.sub_self]; rfl
theorem cl_sorted {lf : Bool} {fi : Nat} {l : List En} {f t : ByteArray} (h : keysS f t l) : (Nd.cl ⟨lf, fi, l⟩ f).Pairwise fun a b => blt a.1 b.1 = true := by
  unfold Nd.cl
  refine List.pairwise_cons.2 ⟨fun c hc => ?_, ?_⟩
  · obtain ⟨e, he, rfl⟩ := List.mem_map.1 hc
    exact h.2 e he
  · have := (keysOk_iff.1 h.1).2
    unfold kvSorted at this
    rw [List.pairwise_map] at this ⊢
    exact this
theorem K_below (O : PgOk pg) {m : Nat} {s : ByteArray} : ∀ {K : List Cl}, ChP (TrS pg m) s K → (∀ c ∈ K, blt c.1 s = true) → K.Pairwise (fun a b => blt a.1 b.1 = true) → ∀ p ∈ (entsK pg m K).flatten, blt p.1 s = true
  | [], _, _, _, p, hp => by cases hp
  | c :: K, h, h1, h2, p, hp => by
    have hp : p ∈ ents pg m c.2 ++ (entsK pg m K).flatten := hp
    rcases List.mem_append.1 hp with hp | hp
    · have := ((h.1.tr.ents_ok O).1 p hp).2.1
      cases K with
      | nil => exact this (blt_neB (h1 c List.mem_cons_self))
      | cons d K =>
        have hd : blt c.1 d.1 = true := (List.pairwise_cons.1 h2).1 d List.mem_cons_self
        exact blt_trans (this (blt_neB hd)) (h1 d (List.mem_cons_of_mem _ List.mem_cons_self))
    · exact K_below O h.2 (fun d hd => h1 d (List.mem_cons_of_mem _ hd)) (List.pairwise_cons.1 h2).2 p hp
theorem K_above (O : PgOk pg) {m : Nat} {s t : ByteArray} : ∀ {K : List Cl}, ChP (TrS pg m) t K → (∀ c ∈ K, blt s c.1 = true) → ∀ p ∈ (entsK pg m K).flatten, blt s p.1 = true
  | [], _, _, p, hp => by cases hp
  | c :: K, h, h1, p, hp => by
    have hp : p ∈ ents pg m c.2 ++ (entsK pg m K).flatten := hp
    rcases List.mem_append.1 hp with hp | hp
    · exact blt_le_trans (h1 c List.mem_cons_self) ((h.1.tr.ents_ok O).1 p hp).1
    · exact K_above O h.2 (fun d hd => h1 d (List.mem_cons_of_mem _ hd)) p hp
theorem kid_at (O : PgOk pg) {m : Nat} {nd : Nd} {f t k : ByteArray} (h : Fw pg (m + 1) nd f t) (hf : blt k f = false) (ht : below t k) : ∃ l1 l2 K1 c, nd.l = l1 ++ l2 ∧ l1.length = kvBe k nd.kv ∧ nd.cl f = K1 ++ c :: l2.map clE ∧ (∀ l, Nd.cl ⟨nd.leaf, nd.first, l1 ++ l⟩ f = K1 ++ c :: l.map clE) ∧ K1.length = l1.length ∧ nd.kids[l1.length]? = some c.2 ∧
    TrS pg m c.2 c.1 (hdK t (l2.map clE)) ∧ blt k c.1 = false ∧ below (hdK t (l2.map clE)) k ∧ (∀ p ∈ (entsK pg m K1).flatten, blt p.1 k = true) ∧ (∀ p ∈ (entsK pg m (l2.map clE)).flatten, blt k p.1 = true) ∧ blt c.1 f = false ∧ (∀ x, below (hdK t (l2.map clE)) x → below t x) := by
  obtain ⟨lf, fi, l⟩ := nd
  obtain ⟨h1, h2, h3⟩ := h
  have h1 : lf = false := h1
  subst h1
  have hbe := kvBe_le k (Nd.kv ⟨false, fi, l⟩)
  rw [Nd.kv_len] at hbe
  have hbe : kvBe k (Nd.kv ⟨false, fi, l⟩) ≤ l.length := hbe
  generalize hq : kvBe k (Nd.kv ⟨false, fi, l⟩) = q at hbe
  have hl : l = l.take q ++ l.drop q := (List.take_append_drop q l).symm
  have hln : (l.take q).length = q := by rw [List.length_take]; omega
  have hlow : ∀ e ∈ l.take q, blt k e.key = false := fun e he => by
    obtain ⟨i, hi⟩ := List.mem_iff_getElem?.1 he
    have hi2 := (List.getElem?_eq_some_iff.1 hi).1
    rw [hln] at hi2
    rw [List.getElem?_take, if_pos hi2] at hi
    exact kvBe_before k (Nd.kv ⟨false, fi, l⟩) i e.kv (Nd.kv_get (nd := ⟨false, fi, l⟩) hi) (by rw [hq]; exact hi2)
  have hhigh : ∀ e ∈ l.drop q, blt k e.key = true := fun e he => by
    obtain ⟨i, hi⟩ := List.mem_iff_getElem?.1 he
    rw [List.getElem?_drop] at hi
    exact kvBe_after (L := Nd.kv ⟨false, fi, l⟩) (keysOk_iff.1 h2.1).2 (p := e.kv) (Nd.kv_get (nd := ⟨false, fi, l⟩) hi) (by rw [hq]; omega)
  have hlt : ∀ e ∈ l, below t e.key := fun e he => ((keysOk_iff.1 h2.1).1 e he).2
  have hsl := cl_sorted (lf := false) (fi := fi) h2
  obtain ⟨K1, c, k1, k2, k3, k4⟩ := cl_split false fi (l.take q) f
  have hcl := k1 (l.drop q)
  have hk3 := k3 (l.drop q)
  rw [← hl] at hcl hk3
  rw [hcl] at h3 hsl
  obtain ⟨c1, c2, c3⟩ := ChP_append.1 h3
  have s1 := List.pairwise_append.1 hsl
  have hc : blt k c.1 = false := by
    rcases k4 with ⟨_, rfl⟩ | ⟨l0, e, e1, rfl⟩
    · exact hf
    · exact hlow e (by rw [e1]; exact List.mem_append_right _ List.mem_cons_self)
  have hcf : blt c.1 f = false := by
    rcases k4 with ⟨_, rfl⟩ | ⟨l0, e, e1, rfl⟩
    · exact blt_irrefl _
    · exact blt_asymm (h2.2 e (by rw [hl]; exact List.mem_append_left _ (by rw [e1]; exact List.mem_append_right _ List.mem_cons_self)))
  refine ⟨l.take q, l.drop q, K1, c, hl, hln, hcl, k1, k2, hk3, c2, hc, ?_, fun p hp => ?_, fun p hp => ?_, hcf, ?_⟩
  · cases hd : l.drop q with
    | nil => exact ht
    | cons e r => exact fun _ => hhigh e (by rw [hd]; exact List.mem_cons_self)
  · exact blt_le_trans (K_below O c1 (fun d hd => s1.2.2 d hd c List.mem_cons_self) s1.1 p hp) hc
  · exact K_above O c3 (fun d hd => by
      obtain ⟨e, he, rfl⟩ := List.mem_map.1 hd
      exact hhigh e he) p hp
  · cases hd : l.drop q with
    | nil => exact fun x hx => hx
    | cons e r => exact fun x hx ht0 => blt_trans (hx (blt_neB (hhigh e (by rw [hd]; exact List.mem_cons_self)))) (hlt e (by rw [hl, hd]; exact List.mem_append_right _ List.mem_cons_self) ht0)
end Go.Proofs.YthbogjbcecmopaaGreatDoor
