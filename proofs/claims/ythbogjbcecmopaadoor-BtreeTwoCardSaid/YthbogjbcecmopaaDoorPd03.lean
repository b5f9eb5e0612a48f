/- The formulas of functions of the program, as the executor computes them, and that a call does what its formula says. Printed by a tool of ours (wip/tool). The formulas of functions of the program, as the executor computes them, and that a call does what its formula says. Printed by a tool of ours (wip/tool). The formulas of functions of the program, as the executor computes them, and that a call does what its formula says. Printed by a tool of ours (wip/tool). Plain laws of maps as lists of entries. Conditions: those that each lemma names. A disk in memory, and what its functions do to it. Conditions: it stands as it is named; the power is on where it says so. A journal on a disk: what its reading and laying do. Conditions: it stands as it is named, with room. A journal on a disk: what its writing does. Conditions: it stands as it is named, with room. What a mark on a disk tells, one page after another; a journal that is opened. Conditions: they stand as they are named. What slices.Collect makes of slices.Values of changes. Conditions: not too many. Why changes can be committed. Conditions: they are right. DERIVED: THE SHELF's CONTRACTS AT THIS DUMP, IN PLAIN WORDS (tools/lay-plain.mjs out of 'YthbogjbcecmopaaDoorShelf2.lean', which tools/lay-shelf.mjs wrote): THE SAME DECLARATIONS UNDER THE SAME NAMES: 'import', 'namespace', 'open', 'def', 'theorem' AND NOTHING ELSE: no command of the shelf's: FOR A HAND-IN. Each laying: the table of numbers ('.._ren') and one theorem, a field a fact of the dump's own or the kernel's comparison; each contract: ONE APPLICATION. What the comparison of two changes by their pages gives, in whatever world. Condition: pages below 256. slices.SortedFunc of slices.Values at changes, by their pages. Conditions: small pages. What a commit does to a disk, failures and all. Conditions: right changes, one of a page; nothing waits ahead of it. -/
import Derived.Test.YthbogjbcecmopaaDoorPd02
import Derived.Test.YthbogjbcecmopaaDoorProg
import Derived.KernelRfl
import Derived.Shelf.SlSortCmp.WholeK
import Derived.Shelf.SlSortCmp.NoneTotal
import Derived.Shelf.SlMaps.Clone
import Derived.Shelf.SlIterI.Nil
import Derived.Shelf.SortM.Plain
import Derived.Shelf.SortM.SortNone
import Derived.Ground.GgzProg
import Derived.Ground.SlgmProg
import Derived.Ground.SlsfProg
import Derived.Ground.SlmcProg
import Derived.WalkKit
namespace Go.Proofs.YthbogjbcecmopaaDoor
open Go.Gx
set_option maxRecDepth 100000
set_option linter.unusedVariables false

def law15_opened.H : Hints := { N := 45, loc := (fun _ => false), join := (fun _ => none), loop := (fun _ => none), ifc := 0, order := (fun _ => none) }
def law15_opened.W (pages : Int) (h : Hp) (Q : Value → Hp → Prop) : Prop :=
  (bif hb (decide (pages < 2)) then (Q (.tuple #[.pointer none, .pointer none, .pointer none]) h) else (bif hb (decide (pages > 24)) then (Q (.tuple #[.pointer none, .pointer none, .pointer none]) h) else (CallsH Tryd.prog 22 (#[.int .i64 (IntKind.i64.wrap (IntKind.i64.wrap (8 * pages) + 1))]) (h) (fun v1 h2 => ∃ a3, ∃ n4, (v1 = .tuple #[.pointer a3, .int .i64 n4]) ∧ CallsH Tryd.prog 23 (#[.pointer a3, .int .i64 pages]) (h2) (fun v5 h6 => ∃ a7, ∃ n8, (v5 = .tuple #[.pointer a7, .int .i64 n8]) ∧ CallsH Tryd.prog 24 (#[.pointer a7]) (h6) (fun v9 h10 => ∃ a11, ∃ n12, (v9 = .tuple #[.pointer a11, .int .i64 n12]) ∧ CallsH Tryd.prog 17 (#[.pointer a11, .int .i64 1]) (h10) (fun v13 h14 => ∃ a15, ∃ n16, (v13 = .tuple #[.pointer a15, .int .i64 n16]) ∧ Q (.tuple #[.pointer a3, .pointer a11, .pointer a15]) h14)))))))
theorem law15_opened.calls (pages : Int) {h : Hp} {Q : Value → Hp → Prop} (hW : law15_opened.W pages h Q) : CallsH Tryd.prog 5 #[.int .i64 pages] h Q := by
  have hE_ : bodyW Tryd.prog law15_opened.H Tryd.f5 [.val (.int .i64 pages)] h Q = law15_opened.W pages h Q := by kernel_rfl
  rw [← hE_] at hW
  exact calls_of_body (H := law15_opened.H) (args := [.val (.int .i64 pages)]) Tryd.func5 Tryd.ntmps5 rfl rfl hW

def law15_lives.H : Hints := { N := 52, loc := (fun _ => false), join := (fun i => bif Nat.beq i 4 then some [] else none), loop := (fun _ => none), ifc := 0, order := (fun _ => none) }
def law15_lives.W  (h : Hp) (Q : Value → Hp → Prop) : Prop :=
  (CallsH Tryd.prog 5 (#[.int .i64 4]) (h) (fun v1 h2 => ∃ a3, ∃ a4, ∃ a5, (v1 = .tuple #[.pointer a3, .pointer a4, .pointer a5]) ∧ ∃ (J6 : Hp → Prop), (∀ (x7 : Hp), (J6 x7) → (CallsH Tryd.prog 25 (#[.pointer a5, .string (bytesL [97])]) (x7) (fun v8 h9 => ∃ s10, ∃ b11, (v8 = .tuple #[.string s10, .bool b11]) ∧ bif beqS s10 (bytesL [120]) then (bif b11 then (CallsH Tryd.prog 8 (#[.pointer a5, .string (bytesL [97])]) (h9) (fun v12 h13 => ∃ b14, (v12 = .bool b14) ∧ bif b14 then (CallsH Tryd.prog 15 (#[.pointer a5]) (h13) (fun v15 h16 => ∃ n17, (v15 = .int .i64 n17) ∧ bif hb (n17 == 0) then (CallsH Tryd.prog 12 (#[.pointer a4]) (h16) (fun v18 h19 => ∃ n20, (v18 = .int .i64 n20) ∧ Q (.bool (hb (n20 == 3))) h19)) else (Q (.bool false) h16))) else (Q (.bool false) h13))) else (Q (.bool false) h9)) else (Q (.bool false) h9)))) ∧ bif a5.isNone then (Q (.bool false) h2) else (CallsH Tryd.prog 9 (#[.pointer a5, .string (bytesL [97]), .string (bytesL [120])]) (h2) (fun v21 h22 => ∃ n23, (v21 = .int .i64 n23) ∧ bif hb (n23 != 0) then (Q (.bool false) h22) else (CallsH Tryd.prog 15 (#[.pointer a5]) (h22) (fun v24 h25 => ∃ n26, (v24 = .int .i64 n26) ∧ bif hb (n26 != 1) then (Q (.bool false) h25) else (CallsH Tryd.prog 12 (#[.pointer a4]) (h25) (fun v27 h28 => ∃ n29, (v27 = .int .i64 n29) ∧ bif hb (n29 != 2) then (Q (.bool false) h28) else (J6 h28)))))))))
theorem law15_lives.calls  {h : Hp} {Q : Value → Hp → Prop} (hW : law15_lives.W  h Q) : CallsH Tryd.prog 7 #[] h Q := by
  have hE_ : bodyW Tryd.prog law15_lives.H Tryd.f7 [] h Q = law15_lives.W  h Q := by kernel_rfl
  rw [← hE_] at hW
  exact calls_of_body (H := law15_lives.H) (args := []) Tryd.func7 Tryd.ntmps7 rfl rfl hW

def btree_Open.H : Hints := { N := 28, loc := (fun _ => false), join := (fun i => bif Nat.beq i 3 then some [] else none), loop := (fun _ => none), ifc := 0, order := (fun _ => none) }
def btree_Open.W (p_b p_o : Nat) (k : Int) (h : Hp) (Q : Value → Hp → Prop) : Prop :=
  (∃ (J1 : Hp → Prop), (∀ (x2 : Hp), (J1 x2) → (∀ (k3 : Nat), (x2 k3 = none) → (CallsH Tryd.prog 14 (#[.pointer (some ⟨k3, 0, none⟩)]) (x2.upd k3 (.cells #[.pointer (some ⟨p_b, p_o, none⟩), .int .i64 k] 62 (0, 0))) (fun v4 h5 => ∃ n6, (v4 = .int .i64 n6) ∧ bif hb (n6 != 0) then (Q (.tuple #[.pointer none, .int .i64 n6]) h5) else (Q (.tuple #[.pointer (some ⟨k3, 0, none⟩), .int .i64 0]) h5))))) ∧ bif hb (decide (k < 0)) then (Q (.tuple #[.pointer none, .int .i64 1]) h) else (bif hb (decide (k ≥ 4)) then (Q (.tuple #[.pointer none, .int .i64 1]) h) else (J1 h)))
theorem btree_Open.calls (p_b p_o : Nat) (k : Int) {h : Hp} {Q : Value → Hp → Prop} (hW : btree_Open.W p_b p_o k h Q) : CallsH Tryd.prog 17 #[.pointer (some ⟨p_b, p_o, none⟩), .int .i64 k] h Q := by
  have hE_ : bodyW Tryd.prog btree_Open.H Tryd.f17 [.ptr p_b p_o, .val (.int .i64 k)] h Q = btree_Open.W p_b p_o k h Q := by kernel_rfl
  rw [← hE_] at hW
  exact calls_of_body (H := btree_Open.H) (args := [.ptr p_b p_o, .val (.int .i64 k)]) Tryd.func17 Tryd.ntmps17 rfl rfl hW

def law15_all.H : Hints := { N := 6, loc := (fun _ => false), join := (fun _ => none), loop := (fun _ => none), ifc := 0, order := (fun _ => none) }
def law15_all.W (t_b t_o : Nat) (h : Hp) (Q : Value → Hp → Prop) : Prop :=
  (CallsH Tryd.prog 38 (#[]) (h) (fun v1 h2 => ∃ s3, (v1 = .string s3) ∧ CallsH Tryd.prog 37 (#[.pointer (some ⟨t_b, t_o, none⟩), .string (bytesL []), .string s3, .int .i64 1000000]) (h2) (fun v4 h5 => ∃ a6, ∃ k7, ∃ k8, (v4 = .slice a6 k7 k8) ∧ Q (.slice a6 k7 k8) h5)))
theorem law15_all.calls (t_b t_o : Nat) {h : Hp} {Q : Value → Hp → Prop} (hW : law15_all.W t_b t_o h Q) : CallsH Tryd.prog 13 #[.pointer (some ⟨t_b, t_o, none⟩)] h Q := by
  have hE_ : bodyW Tryd.prog law15_all.H Tryd.f13 [.ptr t_b t_o] h Q = law15_all.W t_b t_o h Q := by kernel_rfl
  rw [← hE_] at hW
  exact calls_of_body (H := law15_all.H) (args := [.ptr t_b t_o]) Tryd.func13 Tryd.ntmps13 rfl rfl hW

def btree_Tree_Get.H : Hints := { N := 71, loc := (fun _ => false), join := (fun _ => none), loop := (fun i => bif Nat.beq i 4 then some [.slot 6 (.int .i64)] else none), ifc := 0, order := (fun i => bif Nat.beq i 3 then some (some 8, false, [0, 1, 2, 3, 4, 5, 6, 7, 8, 9], .q 0 (.q 1 (.q 2 (.q 3 (.q 4 (.q 5 (.q 6 (.q 7 (.f 8 (.q 9 .done) .e))))))))) else none) }
def btree_Tree_Get.W (t_b t_o : Nat) (key : ByteArray) (h : Hp) (Q : Value → Hp → Prop) : Prop :=
  (∃ a1, (h.cell t_b t_o = some (.pointer a1)) ∧ ∃ n2, (h.cell t_b (t_o + 1) = some (.int .i64 n2)) ∧ CallsH Tryd.prog 16 (#[.pointer a1, .int .i64 n2]) (h) (fun v3 h4 => ∃ n5, (v3 = .int .i64 n5) ∧ ∃ (J6 : Int → Hp → Nat → Prop), (∃ k7, J6 n5 h4 k7) ∧ ∀ (n8 : Int), ∀ (x9 : Hp), ∀ (k10 : Nat), (J6 n8 x9 k10) → (bif hb (n8 != 0) then (CallsH Tryd.prog 27 (#[.pointer (some ⟨t_b, t_o, none⟩), .int .i64 n8]) (x9) (fun v11 h12 => ∃ a13, ∃ n14, (v11 = .tuple #[.pointer a13, .int .i64 n14]) ∧ bif hb (n14 != 0) then (Q (.tuple #[.string (bytesL []), .bool false]) h12) else (∃ k15, ∃ k16, (a13 = some ⟨k15, k16, none⟩) ∧ ∃ n17, (h12.cell k15 k16 = some (.int .i64 n17)) ∧ bif hb (n17 == 1) then (CallsH Tryd.prog 59 (#[.pointer a13, .string key]) (h12) (fun v18 h19 => ∃ n20, (v18 = .int .i64 n20) ∧ ∃ k21, ∃ k22, (a13 = some ⟨k21, k22, none⟩) ∧ ∃ a23, ∃ k24, ∃ k25, (h19.cell k21 (k22 + 2) = some (.slice a23 k24 k25)) ∧ bif hb (n20 == Int.ofNat k24) then (Q (.tuple #[.string (bytesL []), .bool false]) h19) else (∃ k26, ∃ k27, (a13 = some ⟨k26, k27, none⟩) ∧ ∃ a28, ∃ k29, ∃ k30, (h19.cell k26 (k27 + 2) = some (.slice a28 k29 k30)) ∧ (0 ≤ n20) ∧ (n20 < Int.ofNat k29) ∧ ∃ k31, ∃ k32, (a28 = some ⟨k31, k32, none⟩) ∧ ∃ s33, (h19.cell k31 (k32 + n20.toNat * 3) = some (.string s33)) ∧ bif !beqS s33 key then (Q (.tuple #[.string (bytesL []), .bool false]) h19) else (∃ k34, ∃ k35, (a13 = some ⟨k34, k35, none⟩) ∧ ∃ a36, ∃ k37, ∃ k38, (h19.cell k34 (k35 + 2) = some (.slice a36 k37 k38)) ∧ (0 ≤ n20) ∧ (n20 < Int.ofNat k37) ∧ ∃ k39, ∃ k40, (a36 = some ⟨k39, k40, none⟩) ∧ ∃ s41, (h19.cell k39 (k40 + n20.toNat * 3 + 1) = some (.string s41)) ∧ Q (.tuple #[.string s41, .bool true]) h19)))) else (CallsH Tryd.prog 60 (#[.pointer a13, .string key]) (h12) (fun v42 h43 => ∃ n44, (v42 = .int .i64 n44) ∧ CallsH Tryd.prog 42 (#[.pointer a13, .int .i64 n44]) (h43) (fun v45 h46 => ∃ n47, (v45 = .int .i64 n47) ∧ ∃ k48, (k48 < k10) ∧ J6 n47 h46 k48)))))) else (Q (.tuple #[.string (bytesL []), .bool false]) x9))))
theorem btree_Tree_Get.calls (t_b t_o : Nat) (key : ByteArray) {h : Hp} {Q : Value → Hp → Prop} (hW : btree_Tree_Get.W t_b t_o key h Q) : CallsH Tryd.prog 25 #[.pointer (some ⟨t_b, t_o, none⟩), .string key] h Q := by
  have hE_ : bodyW Tryd.prog btree_Tree_Get.H Tryd.f25 [.ptr t_b t_o, .val (.string key)] h Q = btree_Tree_Get.W t_b t_o key h Q := by kernel_rfl
  rw [← hE_] at hW
  exact calls_of_body (H := btree_Tree_Get.H) (args := [.ptr t_b t_o, .val (.string key)]) Tryd.func25 Tryd.ntmps25 rfl rfl hW

def ref08_May.H : Hints := { N := 18, loc := (fun _ => false), join := (fun _ => none), loop := (fun _ => none), ifc := 0, order := (fun _ => none) }
def ref08_May.W (key : ByteArray) (value : ByteArray) (h : Hp) (Q : Value → Hp → Prop) : Prop :=
  (bif hb (decide (Int.ofNat key.size ≥ 1)) then (bif hb (decide (Int.ofNat key.size ≤ 64)) then (Q (.bool (hb (decide (Int.ofNat value.size ≤ 400)))) h) else (Q (.bool false) h)) else (Q (.bool false) h))
theorem ref08_May.calls (key : ByteArray) (value : ByteArray) {h : Hp} {Q : Value → Hp → Prop} (hW : ref08_May.W key value h Q) : CallsH Tryd.prog 44 #[.string key, .string value] h Q := by
  have hE_ : bodyW Tryd.prog ref08_May.H Tryd.f44 [.val (.string key), .val (.string value)] h Q = ref08_May.W key value h Q := by kernel_rfl
  rw [← hE_] at hW
  exact calls_of_body (H := ref08_May.H) (args := [.val (.string key), .val (.string value)]) Tryd.func44 Tryd.ntmps44 rfl rfl hW

def btree_Tree_Len.H : Hints := { N := 8, loc := (fun _ => false), join := (fun _ => none), loop := (fun _ => none), ifc := 0, order := (fun _ => none) }
def btree_Tree_Len.W (t_b t_o : Nat) (h : Hp) (Q : Value → Hp → Prop) : Prop :=
  (∀ (k1 : Nat), ((h k1 = none) → ((StoreOk (h.upd k1 (.cells #[.int .i64 0] 3 (0, 0))) k1 0 1) ∧ CallsH Tryd.prog 34 (#[.pointer (some ⟨t_b, t_o, none⟩), .func (Fn.func 35) #[] #[.pointer (some ⟨k1, 0, none⟩)]]) ((h.upd k1 (.cells #[.int .i64 0] 3 (0, 0))).put k1 0 [.int .i64 0]) (fun v2 h3 => (v2 = .tuple #[]) ∧ ∃ n4, (h3.cell k1 0 = some (.int .i64 n4)) ∧ Q (.int .i64 n4) h3))))
theorem btree_Tree_Len.calls (t_b t_o : Nat) {h : Hp} {Q : Value → Hp → Prop} (hW : btree_Tree_Len.W t_b t_o h Q) : CallsH Tryd.prog 11 #[.pointer (some ⟨t_b, t_o, none⟩)] h Q := by
  have hE_ : bodyW Tryd.prog btree_Tree_Len.H Tryd.f11 [.ptr t_b t_o] h Q = btree_Tree_Len.W t_b t_o h Q := by kernel_rfl
  rw [← hE_] at hW
  exact calls_of_body (H := btree_Tree_Len.H) (args := [.ptr t_b t_o]) Tryd.func11 Tryd.ntmps11 rfl rfl hW

def law15_light.H : Hints := { N := 19, loc := (fun i => Nat.beq i 1 || false), join := (fun _ => none), loop := (fun _ => none), ifc := 0, order := (fun _ => none) }
def law15_light.W (o_0 : Int) (o_1 : Int) (o_2 : Int) (o_3 : ByteArray) (o_4 : ByteArray) (o_5 : ByteArray) (h : Hp) (Q : Value → Hp → Prop) : Prop :=
  (bif hb (decide (Int.ofNat o_3.size ≤ 500)) then (bif hb (decide (Int.ofNat o_4.size ≤ 500)) then (Q (.bool (hb (decide (Int.ofNat o_5.size ≤ 1000)))) h) else (Q (.bool false) h)) else (Q (.bool false) h))
theorem law15_light.calls (o_0 : Int) (o_1 : Int) (o_2 : Int) (o_3 : ByteArray) (o_4 : ByteArray) (o_5 : ByteArray) {h : Hp} {Q : Value → Hp → Prop} (hW : law15_light.W o_0 o_1 o_2 o_3 o_4 o_5 h Q) : CallsH Tryd.prog 6 #[.agg #[.int .i64 o_0, .int .i64 o_1, .int .i64 o_2, .string o_3, .string o_4, .string o_5]] h Q := by
  have hE_ : bodyW Tryd.prog law15_light.H Tryd.f6 [.val (.agg #[.int .i64 o_0, .int .i64 o_1, .int .i64 o_2, .string o_3, .string o_4, .string o_5])] h Q = law15_light.W o_0 o_1 o_2 o_3 o_4 o_5 h Q := by kernel_rfl
  rw [← hE_] at hW
  exact calls_of_body (H := law15_light.H) (args := [.val (.agg #[.int .i64 o_0, .int .i64 o_1, .int .i64 o_2, .string o_3, .string o_4, .string o_5])]) Tryd.func6 Tryd.ntmps6 rfl rfl hW

def btree_Tree_Clear.H : Hints := { N := 32, loc := (fun _ => false), join := (fun _ => none), loop := (fun i => bif Nat.beq i 5 then some [.slot 21 (.int .i64)] else none), ifc := 0, order := (fun i => bif Nat.beq i 3 then some (some 8, false, [0, 1, 2, 3, 4, 5, 6, 7, 8], .q 0 (.q 1 (.q 2 (.q 3 (.q 4 (.q 5 (.q 6 (.q 7 (.f 8 (.done) .e))))))))) else none) }
def btree_Tree_Clear.W (t_b t_o : Nat) (h : Hp) (Q : Value → Hp → Prop) : Prop :=
  (∀ (k1 : Nat), ((h k1 = none) → (CallsH Tryd.prog 34 (#[.pointer (some ⟨t_b, t_o, none⟩), .func (Fn.func 46) #[] #[.pointer (some ⟨k1, 0, none⟩)]]) (h.upd k1 (.cells #[.slice none 0 0] 23 (0, 0))) (fun v2 h3 => (v2 = .tuple #[]) ∧ ∃ a4, (h3.cell t_b t_o = some (.pointer a4)) ∧ ∃ n5, (h3.cell t_b (t_o + 1) = some (.int .i64 n5)) ∧ CallsH Tryd.prog 28 (#[.pointer a4, .int .i64 n5, .int .i64 0]) (h3) (fun v6 h7 => ∃ n8, (v6 = .int .i64 n8) ∧ ∃ a9, ∃ k10, ∃ k11, (h7.cell k1 0 = some (.slice a9 k10 k11)) ∧ ∃ (J12 : Int → Hp → Nat → Prop), (∃ k13, J12 0 h7 k13) ∧ ∀ (n14 : Int), ∀ (x15 : Hp), ∀ (k16 : Nat), (J12 n14 x15 k16) → (bif hb (decide (n14 < Int.ofNat k10)) then ((0 ≤ n14) ∧ (n14 < Int.ofNat k10) ∧ ∃ k17, ∃ k18, (a9 = some ⟨k17, k18, none⟩) ∧ ∃ n19, (x15.cell k17 (k18 + n14.toNat * 1) = some (.int .i64 n19)) ∧ ∃ a20, (x15.cell t_b t_o = some (.pointer a20)) ∧ CallsH Tryd.prog 29 (#[.pointer a20, .int .i64 n19]) (x15) (fun v21 h22 => ∃ n23, (v21 = .int .i64 n23) ∧ ∃ k24, (k24 < k16) ∧ J12 (IntKind.i64.wrap (n14 + 1)) h22 k24)) else (Q (.tuple #[]) x15)))))))
theorem btree_Tree_Clear.calls (t_b t_o : Nat) {h : Hp} {Q : Value → Hp → Prop} (hW : btree_Tree_Clear.W t_b t_o h Q) : CallsH Tryd.prog 21 #[.pointer (some ⟨t_b, t_o, none⟩)] h Q := by
  have hE_ : bodyW Tryd.prog btree_Tree_Clear.H Tryd.f21 [.ptr t_b t_o] h Q = btree_Tree_Clear.W t_b t_o h Q := by kernel_rfl
  rw [← hE_] at hW
  exact calls_of_body (H := btree_Tree_Clear.H) (args := [.ptr t_b t_o]) Tryd.func21 Tryd.ntmps21 rfl rfl hW

def btree_Tree_Put.H : Hints := { N := 118, loc := (fun _ => false), join := (fun _ => none), loop := (fun _ => none), ifc := 0, order := (fun i => bif Nat.beq i 5 then some (some 8, false, [0, 1, 2, 3, 4, 5, 6, 7, 8, 9], .q 0 (.q 1 (.q 2 (.q 3 (.q 4 (.q 5 (.q 6 (.q 7 (.f 8 (.q 9 .done) .e))))))))) else bif Nat.beq i 11 then some (some 9, false, [0, 1, 2, 3, 4, 5, 6, 7, 8, 9, 10], .q 0 (.q 1 (.q 2 (.q 3 (.q 4 (.q 5 (.q 6 (.q 7 (.q 8 (.f 9 (.q 10 .done) .e)))))))))) else bif Nat.beq i 19 then some (some 9, false, [0, 1, 2, 3, 4, 5, 6, 7, 8, 9, 10], .q 0 (.q 1 (.q 2 (.q 3 (.q 4 (.q 5 (.q 6 (.q 7 (.q 8 (.f 9 (.q 10 .done) .e)))))))))) else none) }
def btree_Tree_Put.W (t_b t_o : Nat) (key : ByteArray) (value : ByteArray) (h : Hp) (Q : Value → Hp → Prop) : Prop :=
  (CallsH Tryd.prog 30 (#[.string key, .string value]) (h) (fun v1 h2 => ∃ b3, (v1 = .bool b3) ∧ bif !b3 then (Q (.int .i64 1) h2) else (∃ a4, (h2.cell t_b t_o = some (.pointer a4)) ∧ CallsH Tryd.prog 12 (#[.pointer a4]) (h2) (fun v5 h6 => ∃ n7, (v5 = .int .i64 n7) ∧ CallsH Tryd.prog 15 (#[.pointer (some ⟨t_b, t_o, none⟩)]) (h6) (fun v8 h9 => ∃ n10, (v8 = .int .i64 n10) ∧ bif hb (decide (n7 < IntKind.i64.wrap (n10 + 1))) then (Q (.int .i64 5) h9) else (∃ a11, (h9.cell t_b t_o = some (.pointer a11)) ∧ ∃ n12, (h9.cell t_b (t_o + 1) = some (.int .i64 n12)) ∧ CallsH Tryd.prog 16 (#[.pointer a11, .int .i64 n12]) (h9) (fun v13 h14 => ∃ n15, (v13 = .int .i64 n15) ∧ bif hb (n15 == 0) then (∃ a16, (h14.cell t_b t_o = some (.pointer a16)) ∧ CallsH Tryd.prog 31 (#[.pointer a16]) (h14) (fun v17 h18 => ∃ n19, ∃ n20, (v17 = .tuple #[.int .i64 n19, .int .i64 n20]) ∧ bif hb (n20 != 0) then (Q (.int .i64 n20) h18) else (∀ (k21 : Nat), (h18 k21 = none) → (∀ (k22 : Nat), (h18.upd k21 (.cells (setL [.string (bytesL []), .string (bytesL []), .int .i64 0] 0 (setL (setL [.string (bytesL []), .string (bytesL []), .int .i64 0] 0 [.string key]) 1 [.string value])).toArray 77 (0, 0)) k22 = none) → (CallsH Tryd.prog 32 (#[.pointer (some ⟨t_b, t_o, none⟩), .int .i64 n19, .pointer (some ⟨k22, 0, none⟩)]) ((h18.upd k21 (.cells #[.string key, .string value, .int .i64 0] 77 (0, 0))).upd k22 (.cells #[.int .i64 1, .int .i64 0, .slice (some ⟨k21, 0, none⟩) 1 1] 69 (0, 0))) (fun v23 h24 => (v23 = .tuple #[]) ∧ ∃ a25, (h24.cell t_b t_o = some (.pointer a25)) ∧ ∃ n26, (h24.cell t_b (t_o + 1) = some (.int .i64 n26)) ∧ CallsH Tryd.prog 28 (#[.pointer a25, .int .i64 n26, .int .i64 n19]) (h24) (fun v27 h28 => ∃ n29, (v27 = .int .i64 n29) ∧ Q (.int .i64 n29) h28))))))) else (CallsH Tryd.prog 33 (#[.pointer (some ⟨t_b, t_o, none⟩), .int .i64 n15, .agg #[.string key, .string value, .int .i64 0]]) (h14) (fun v30 h31 => ∃ a32, ∃ n33, (v30 = .tuple #[.pointer a32, .int .i64 n33]) ∧ bif hb (n33 != 0) then (Q (.int .i64 n33) h31) else (bif a32.isNone then (Q (.int .i64 n33) h31) else (∃ a34, (h31.cell t_b t_o = some (.pointer a34)) ∧ CallsH Tryd.prog 31 (#[.pointer a34]) (h31) (fun v35 h36 => ∃ n37, ∃ n38, (v35 = .tuple #[.int .i64 n37, .int .i64 n38]) ∧ bif hb (n38 != 0) then (Q (.int .i64 n38) h36) else (∃ k39, ∃ k40, (a32 = some ⟨k39, k40, none⟩) ∧ ∃ s41, (h36.cell k39 k40 = some (.string s41)) ∧ ∃ s42, (h36.cell k39 (k40 + 1) = some (.string s42)) ∧ ∃ n43, (h36.cell k39 (k40 + 1 + 1) = some (.int .i64 n43)) ∧ ∀ (k44 : Nat), (h36 k44 = none) → (∀ (k45 : Nat), (h36.upd k44 (.cells (setL [.string (bytesL []), .string (bytesL []), .int .i64 0] 0 [.string s41, .string s42, .int .i64 n43]).toArray 77 (0, 0)) k45 = none) → (CallsH Tryd.prog 32 (#[.pointer (some ⟨t_b, t_o, none⟩), .int .i64 n37, .pointer (some ⟨k45, 0, none⟩)]) ((h36.upd k44 (.cells #[.string s41, .string s42, .int .i64 n43] 77 (0, 0))).upd k45 (.cells #[.int .i64 2, .int .i64 n15, .slice (some ⟨k44, 0, none⟩) 1 1] 69 (0, 0))) (fun v46 h47 => (v46 = .tuple #[]) ∧ ∃ a48, (h47.cell t_b t_o = some (.pointer a48)) ∧ ∃ n49, (h47.cell t_b (t_o + 1) = some (.int .i64 n49)) ∧ CallsH Tryd.prog 28 (#[.pointer a48, .int .i64 n49, .int .i64 n37]) (h47) (fun v50 h51 => ∃ n52, (v50 = .int .i64 n52) ∧ Q (.int .i64 n52) h51)))))))))))))))))
theorem btree_Tree_Put.calls (t_b t_o : Nat) (key : ByteArray) (value : ByteArray) {h : Hp} {Q : Value → Hp → Prop} (hW : btree_Tree_Put.W t_b t_o key value h Q) : CallsH Tryd.prog 9 #[.pointer (some ⟨t_b, t_o, none⟩), .string key, .string value] h Q := by
  have hE_ : bodyW Tryd.prog btree_Tree_Put.H Tryd.f9 [.ptr t_b t_o, .val (.string key), .val (.string value)] h Q = btree_Tree_Put.W t_b t_o key value h Q := by kernel_rfl
  rw [← hE_] at hW
  exact calls_of_body (H := btree_Tree_Put.H) (args := [.ptr t_b t_o, .val (.string key), .val (.string value)]) Tryd.func9 Tryd.ntmps9 rfl rfl hW

def btree_Tree_Drop.H : Hints := { N := 86, loc := (fun _ => false), join := (fun i => bif Nat.beq i 3 then some [] else none), loop := (fun i => bif Nat.beq i 3 then some [] else none), ifc := 0, order := (fun i => bif Nat.beq i 1 then some (some 24, false, [0, 1, 2, 3, 4, 5, 6, 7, 8, 9, 10, 11, 12, 13, 14, 15, 16, 17, 18, 19, 20, 21, 22, 23, 25, 24, 26, 27, 28], .q 0 (.q 1 (.q 2 (.q 3 (.q 4 (.q 5 (.q 6 (.q 7 (.q 8 (.q 9 (.q 10 (.f 11 (.q 12 (.q 13 (.q 14 (.q 15 (.q 16 (.q 17 (.q 18 (.q 19 (.q 20 (.q 21 (.q 22 (.q 23 (.q 25 (.f 24 (.f 26 (.q 27 (.q 28 .done)) .e) .e)))))))))))))) .e)))))))))))) else bif Nat.beq i 3 then some (some 8, false, [0, 1, 2, 3, 4, 5, 6, 7, 8, 9], .q 0 (.q 1 (.q 2 (.q 3 (.q 4 (.q 5 (.q 6 (.q 7 (.f 8 (.q 9 .done) .e))))))))) else bif Nat.beq i 7 then some (some 12, false, [0, 1, 2, 3, 4, 5, 6, 7, 8, 9, 10, 11, 12], .q 0 (.q 1 (.q 2 (.q 3 (.q 4 (.q 5 (.q 6 (.q 7 (.q 8 (.q 9 (.q 10 (.q 11 (.f 12 (.done) .e))))))))))))) else none) }
def btree_Tree_Drop.W (t_b t_o : Nat) (key : ByteArray) (h : Hp) (Q : Value → Hp → Prop) : Prop :=
  (∃ (J1 : Hp → Prop), (∀ (x2 : Hp), (J1 x2) → (∃ (J3 : Hp → Nat → Prop), (∃ k4, J3 x2 k4) ∧ ∀ (x5 : Hp), ∀ (k6 : Nat), (J3 x5 k6) → (∃ a7, (x5.cell t_b t_o = some (.pointer a7)) ∧ ∃ n8, (x5.cell t_b (t_o + 1) = some (.int .i64 n8)) ∧ CallsH Tryd.prog 16 (#[.pointer a7, .int .i64 n8]) (x5) (fun v9 h10 => ∃ n11, (v9 = .int .i64 n11) ∧ CallsH Tryd.prog 27 (#[.pointer (some ⟨t_b, t_o, none⟩), .int .i64 n11]) (h10) (fun v12 h13 => ∃ a14, ∃ n15, (v12 = .tuple #[.pointer a14, .int .i64 n15]) ∧ bif hb (n15 != 0) then (Q (.bool true) h13) else (∃ k16, ∃ k17, (a14 = some ⟨k16, k17, none⟩) ∧ ∃ a18, ∃ k19, ∃ k20, (h13.cell k16 (k17 + 2) = some (.slice a18 k19 k20)) ∧ bif hb (decide (Int.ofNat k19 > 0)) then (Q (.bool true) h13) else (∃ a21, (h13.cell t_b t_o = some (.pointer a21)) ∧ ∃ n22, (h13.cell t_b (t_o + 1) = some (.int .i64 n22)) ∧ ∃ k23, ∃ k24, (a14 = some ⟨k23, k24, none⟩) ∧ ∃ n25, (h13.cell k23 (k24 + 1) = some (.int .i64 n25)) ∧ CallsH Tryd.prog 28 (#[.pointer a21, .int .i64 n22, .int .i64 n25]) (h13) (fun v26 h27 => ∃ n28, (v26 = .int .i64 n28) ∧ ∃ a29, (h27.cell t_b t_o = some (.pointer a29)) ∧ CallsH Tryd.prog 29 (#[.pointer a29, .int .i64 n11]) (h27) (fun v30 h31 => ∃ n32, (v30 = .int .i64 n32) ∧ ∃ k33, ∃ k34, (a14 = some ⟨k33, k34, none⟩) ∧ ∃ n35, (h31.cell k33 k34 = some (.int .i64 n35)) ∧ bif hb (n35 == 1) then (Q (.bool true) h31) else (∃ k36, (k36 < k6) ∧ J3 h31 k36)))))))))) ∧ ∃ a37, (h.cell t_b t_o = some (.pointer a37)) ∧ ∃ n38, (h.cell t_b (t_o + 1) = some (.int .i64 n38)) ∧ CallsH Tryd.prog 16 (#[.pointer a37, .int .i64 n38]) (h) (fun v39 h40 => ∃ n41, (v39 = .int .i64 n41) ∧ (Gx.Sub h h40) ∧ bif hb (n41 == 0) then (Q (.bool false) h40) else (∃ a42, (h.cell t_b t_o = some (.pointer a42)) ∧ ∃ n43, (h.cell t_b (t_o + 1) = some (.int .i64 n43)) ∧ CallsH Tryd.prog 16 (#[.pointer a42, .int .i64 n43]) (h40) (fun v44 h45 => ∃ n46, (v44 = .int .i64 n46) ∧ CallsH Tryd.prog 26 (#[.pointer (some ⟨t_b, t_o, none⟩), .int .i64 n46, .string key]) (h45) (fun v47 h48 => ∃ b49, (v47 = .bool b49) ∧ bif !b49 then (Q (.bool false) h48) else (J1 h48))))))
theorem btree_Tree_Drop.calls (t_b t_o : Nat) (key : ByteArray) {h : Hp} {Q : Value → Hp → Prop} (hW : btree_Tree_Drop.W t_b t_o key h Q) : CallsH Tryd.prog 8 #[.pointer (some ⟨t_b, t_o, none⟩), .string key] h Q := by
  have hE_ : bodyW Tryd.prog btree_Tree_Drop.H Tryd.f8 [.ptr t_b t_o, .val (.string key)] h Q = btree_Tree_Drop.W t_b t_o key h Q := by kernel_rfl
  rw [← hE_] at hW
  exact calls_of_body (H := btree_Tree_Drop.H) (args := [.ptr t_b t_o, .val (.string key)]) Tryd.func8 Tryd.ntmps8 rfl rfl hW

def btree_Tree_Height.H : Hints := { N := 45, loc := (fun _ => false), join := (fun _ => none), loop := (fun i => bif Nat.beq i 5 then some [.slot 3 (.int .i64), .slot 4 (.int .i64)] else none), ifc := 0, order := (fun i => bif Nat.beq i 4 then some (some 8, false, [0, 1, 2, 3, 4, 5, 6, 7, 8, 9], .q 0 (.q 1 (.q 2 (.q 3 (.q 4 (.q 5 (.q 6 (.q 7 (.f 8 (.q 9 .done) .e))))))))) else none) }
def btree_Tree_Height.W (t_b t_o : Nat) (h : Hp) (Q : Value → Hp → Prop) : Prop :=
  (∃ a1, (h.cell t_b t_o = some (.pointer a1)) ∧ ∃ n2, (h.cell t_b (t_o + 1) = some (.int .i64 n2)) ∧ CallsH Tryd.prog 16 (#[.pointer a1, .int .i64 n2]) (h) (fun v3 h4 => ∃ n5, (v3 = .int .i64 n5) ∧ ∃ (J6 : Int → Int → Hp → Nat → Prop), (∃ k7, J6 0 n5 h4 k7) ∧ ∀ (n8 : Int), ∀ (n9 : Int), ∀ (x10 : Hp), ∀ (k11 : Nat), (J6 n8 n9 x10 k11) → (bif hb (n9 != 0) then (CallsH Tryd.prog 27 (#[.pointer (some ⟨t_b, t_o, none⟩), .int .i64 n9]) (x10) (fun v12 h13 => ∃ a14, ∃ n15, (v12 = .tuple #[.pointer a14, .int .i64 n15]) ∧ bif hb (n15 != 0) then (Q (.int .i64 (IntKind.i64.wrap (n8 + 1))) h13) else (∃ k16, ∃ k17, (a14 = some ⟨k16, k17, none⟩) ∧ ∃ n18, (h13.cell k16 k17 = some (.int .i64 n18)) ∧ bif hb (n18 == 1) then (Q (.int .i64 (IntKind.i64.wrap (n8 + 1))) h13) else (∃ k19, ∃ k20, (a14 = some ⟨k19, k20, none⟩) ∧ ∃ n21, (h13.cell k19 (k20 + 1) = some (.int .i64 n21)) ∧ ∃ k22, (k22 < k11) ∧ J6 (IntKind.i64.wrap (n8 + 1)) n21 h13 k22)))) else (Q (.int .i64 n8) x10))))
theorem btree_Tree_Height.calls (t_b t_o : Nat) {h : Hp} {Q : Value → Hp → Prop} (hW : btree_Tree_Height.W t_b t_o h Q) : CallsH Tryd.prog 15 #[.pointer (some ⟨t_b, t_o, none⟩)] h Q := by
  have hE_ : bodyW Tryd.prog btree_Tree_Height.H Tryd.f15 [.ptr t_b t_o] h Q = btree_Tree_Height.W t_b t_o h Q := by kernel_rfl
  rw [← hE_] at hW
  exact calls_of_body (H := btree_Tree_Height.H) (args := [.ptr t_b t_o]) Tryd.func15 Tryd.ntmps15 rfl rfl hW

def law15_value.H : Hints := { N := 39, loc := (fun i => Nat.beq i 1 || false), join := (fun _ => none), loop := (fun i => bif Nat.beq i 5 then some [.slot 4 (.int .i64)] else none), ifc := 0, order := (fun _ => none) }
def law15_value.W (o_0 : Int) (o_1 : Int) (o_2 : Int) (o_3 : ByteArray) (o_4 : ByteArray) (o_5 : ByteArray) (h : Hp) (Q : Value → Hp → Prop) : Prop :=
  (bif hb (decide (o_2 < 0)) then (Q (.string o_5) h) else (bif hb (decide (o_2 > 1000)) then (Q (.string o_5) h) else ((0 ≤ o_2) ∧ (o_2 ≤ o_2) ∧ (1 * o_2 ≤ 281474976710656) ∧ (o_2 ≤ 9223372036854775807) ∧ ∀ (k1 : Nat), ((h k1 = none) → (∃ (J2 : Int → Hp → Nat → Prop), (∃ k3, J2 0 (h.upd k1 (.cells (repV o_2.toNat [.int .u8 0]).toArray 5 (0, 0))) k3) ∧ ∀ (n4 : Int), ∀ (x5 : Hp), ∀ (k6 : Nat), (J2 n4 x5 k6) → (bif hb (decide (n4 < Int.ofNat o_2.toNat)) then ((0 ≤ n4) ∧ (n4 < Int.ofNat o_2.toNat) ∧ ∃ k7, ∃ k8, ((some ⟨k1, 0, none⟩ : Option Addr) = some ⟨k7, k8, none⟩) ∧ (StoreOk x5 k7 (k8 + n4.toNat * 1) 1) ∧ bif hb (decide (Int.ofNat o_5.size > 0)) then (bif true && Nat.blt 0 o_5.size then ((0 ≤ n4) ∧ (n4 < Int.ofNat o_2.toNat) ∧ ∃ k9, ∃ k10, ((some ⟨k1, 0, none⟩ : Option Addr) = some ⟨k9, k10, none⟩) ∧ (StoreOk (x5.put k7 (k8 + n4.toNat * 1) [.int .u8 118]) k9 (k10 + n4.toNat * 1) 1) ∧ ∃ k11, (k11 < k6) ∧ J2 (IntKind.i64.wrap (n4 + 1)) ((x5.put k7 (k8 + n4.toNat * 1) [.int .u8 118]).put k9 (k10 + n4.toNat * 1) [.int .u8 (byteAt o_5 0)]) k11) else False) else (∃ k12, (k12 < k6) ∧ J2 (IntKind.i64.wrap (n4 + 1)) (x5.put k7 (k8 + n4.toNat * 1) [.int .u8 118]) k12)) else (∃ s13, (SliceAt (x5) (some ⟨k1, 0, none⟩) (o_2.toNat) (bytesV s13)) ∧ Q (.string s13) x5)))))))
theorem law15_value.calls (o_0 : Int) (o_1 : Int) (o_2 : Int) (o_3 : ByteArray) (o_4 : ByteArray) (o_5 : ByteArray) {h : Hp} {Q : Value → Hp → Prop} (hW : law15_value.W o_0 o_1 o_2 o_3 o_4 o_5 h Q) : CallsH Tryd.prog 10 #[.agg #[.int .i64 o_0, .int .i64 o_1, .int .i64 o_2, .string o_3, .string o_4, .string o_5]] h Q := by
  have hE_ : bodyW Tryd.prog law15_value.H Tryd.f10 [.val (.agg #[.int .i64 o_0, .int .i64 o_1, .int .i64 o_2, .string o_3, .string o_4, .string o_5])] h Q = law15_value.W o_0 o_1 o_2 o_3 o_4 o_5 h Q := by kernel_rfl
  rw [← hE_] at hW
  exact calls_of_body (H := law15_value.H) (args := [.val (.agg #[.int .i64 o_0, .int .i64 o_1, .int .i64 o_2, .string o_3, .string o_4, .string o_5])]) Tryd.func10 Tryd.ntmps10 rfl rfl hW

def ref08_Same.H : Hints := { N := 26, loc := (fun _ => false), join := (fun _ => none), loop := (fun i => bif Nat.beq i 4 then some [.slot 5 (.int .i64)] else none), ifc := 0, order := (fun i => bif Nat.beq i 6 then some (none, false, [0, 1, 2, 3, 4, 5, 6, 7, 8], .q 0 (.q 1 (.q 2 (.q 3 (.q 4 (.q 5 (.q 6 (.q 7 (.q 8 .done))))))))) else none) }
def ref08_Same.W (aa : Option Addr) (al ac : Nat) (ba : Option Addr) (bl bc : Nat) (h : Hp) (Q : Value → Hp → Prop) : Prop :=
  (bif hb (Int.ofNat al != Int.ofNat bl) then (Q (.bool false) h) else (∃ (J1 : Int → Hp → Nat → Prop), (∃ k2, J1 0 h k2) ∧ ∀ (n3 : Int), ∀ (x4 : Hp), ∀ (k5 : Nat), (J1 n3 x4 k5) → (bif hb (decide (n3 < Int.ofNat al)) then ((0 ≤ n3) ∧ (n3 < Int.ofNat al) ∧ ∃ k6, ∃ k7, (aa = some ⟨k6, k7, none⟩) ∧ ∃ s8, (x4.cell k6 (k7 + n3.toNat * 2) = some (.string s8)) ∧ ∃ s9, (x4.cell k6 (k7 + n3.toNat * 2 + 1) = some (.string s9)) ∧ (0 ≤ n3) ∧ (n3 < Int.ofNat bl) ∧ ∃ k10, ∃ k11, (ba = some ⟨k10, k11, none⟩) ∧ ∃ s12, (x4.cell k10 (k11 + n3.toNat * 2) = some (.string s12)) ∧ ∃ s13, (x4.cell k10 (k11 + n3.toNat * 2 + 1) = some (.string s13)) ∧ bif !(beqS s8 s12 && (beqS s9 s13 && true)) then (Q (.bool false) x4) else (∃ k14, (k14 < k5) ∧ J1 (IntKind.i64.wrap (n3 + 1)) x4 k14)) else (Q (.bool true) x4))))
theorem ref08_Same.calls (aa : Option Addr) (al ac : Nat) (ba : Option Addr) (bl bc : Nat) {h : Hp} {Q : Value → Hp → Prop} (hW : ref08_Same.W aa al ac ba bl bc h Q) : CallsH Tryd.prog 20 #[.slice aa al ac, .slice ba bl bc] h Q := by
  have hE_ : bodyW Tryd.prog ref08_Same.H Tryd.f20 [.val (.slice aa al ac), .val (.slice ba bl bc)] h Q = ref08_Same.W aa al ac ba bl bc h Q := by kernel_rfl
  rw [← hE_] at hW
  exact calls_of_body (H := ref08_Same.H) (args := [.val (.slice aa al ac), .val (.slice ba bl bc)]) Tryd.func20 Tryd.ntmps20 rfl rfl hW

def law15_put.H : Hints := { N := 56, loc := (fun _ => false), join := (fun _ => none), loop := (fun _ => none), ifc := 0, order := (fun _ => none) }
def law15_put.W (p_b p_o : Nat) (t_b t_o : Nat) (la : Option Addr) (ll lc : Nat) (key : ByteArray) (v : ByteArray) (h : Hp) (Q : Value → Hp → Prop) : Prop :=
  (CallsH Tryd.prog 12 (#[.pointer (some ⟨p_b, p_o, none⟩)]) (h) (fun v1 h2 => ∃ n3, (v1 = .int .i64 n3) ∧ CallsH Tryd.prog 15 (#[.pointer (some ⟨t_b, t_o, none⟩)]) (h2) (fun v4 h5 => ∃ n6, (v4 = .int .i64 n6) ∧ CallsH Tryd.prog 12 (#[.pointer (some ⟨p_b, p_o, none⟩)]) (h5) (fun v7 h8 => ∃ n9, (v7 = .int .i64 n9) ∧ CallsH Tryd.prog 15 (#[.pointer (some ⟨t_b, t_o, none⟩)]) (h8) (fun v10 h11 => ∃ n12, (v10 = .int .i64 n12) ∧ CallsH Tryd.prog 9 (#[.pointer (some ⟨t_b, t_o, none⟩), .string key, .string v]) (h11) (fun v13 h14 => ∃ n15, (v13 = .int .i64 n15) ∧ CallsH Tryd.prog 44 (#[.string key, .string v]) (h14) (fun v16 h17 => ∃ b18, (v16 = .bool b18) ∧ bif !b18 then (Q (.tuple #[.slice la ll lc, .bool (hb (n15 == 1))]) h17) else (bif !hb (decide (n3 > n6)) then (Q (.tuple #[.slice la ll lc, .bool (hb (n15 == 5))]) h17) else (CallsH Tryd.prog 45 (#[.slice la ll lc, .string key, .string v]) (h17) (fun v19 h20 => ∃ a21, ∃ k22, ∃ k23, (v19 = .slice a21 k22 k23) ∧ bif hb (n15 == 0) then (CallsH Tryd.prog 12 (#[.pointer (some ⟨p_b, p_o, none⟩)]) (h20) (fun v24 h25 => ∃ n26, (v24 = .int .i64 n26) ∧ Q (.tuple #[.slice a21 k22 k23, .bool (hb (decide (n26 ≥ IntKind.i64.wrap (IntKind.i64.wrap (n9 - n12) - 1))))]) h25)) else (Q (.tuple #[.slice a21 k22 k23, .bool false]) h20)))))))))))
theorem law15_put.calls (p_b p_o : Nat) (t_b t_o : Nat) (la : Option Addr) (ll lc : Nat) (key : ByteArray) (v : ByteArray) {h : Hp} {Q : Value → Hp → Prop} (hW : law15_put.W p_b p_o t_b t_o la ll lc key v h Q) : CallsH Tryd.prog 19 #[.pointer (some ⟨p_b, p_o, none⟩), .pointer (some ⟨t_b, t_o, none⟩), .slice la ll lc, .string key, .string v] h Q := by
  have hE_ : bodyW Tryd.prog law15_put.H Tryd.f19 [.ptr p_b p_o, .ptr t_b t_o, .val (.slice la ll lc), .val (.string key), .val (.string v)] h Q = law15_put.W p_b p_o t_b t_o la ll lc key v h Q := by kernel_rfl
  rw [← hE_] at hW
  exact calls_of_body (H := law15_put.H) (args := [.ptr p_b p_o, .ptr t_b t_o, .val (.slice la ll lc), .val (.string key), .val (.string v)]) Tryd.func19 Tryd.ntmps19 rfl rfl hW

def ref08_Drop.H : Hints := { N := 29, loc := (fun _ => false), join := (fun _ => none), loop := (fun _ => none), ifc := 0, order := (fun _ => none) }
def ref08_Drop.W (la : Option Addr) (ll lc : Nat) (key : ByteArray) (h : Hp) (Q : Value → Hp → Prop) : Prop :=
  (CallsH Tryd.prog 43 (#[.slice la ll lc, .string key]) (h) (fun v1 h2 => ∃ n3, ∃ b4, (v1 = .tuple #[.int .i64 n3, .bool b4]) ∧ bif !b4 then (Q (.tuple #[.slice la ll lc, .bool false]) h2) else ((0 ≤ n3) ∧ (n3 ≤ Int.ofNat lc) ∧ ∃ (xs5 : List Value), (SliceAt (h2) (slA lc 0 2 la) (n3.toNat * 2) (xs5)) ∧ ∃ (J6 : Option Addr → Nat → Hp → Prop), (∀ (a7 : Option Addr), ∀ (k8 : Nat), ∀ (x9 : Hp), (J6 a7 k8 x9) → ((0 ≤ IntKind.i64.wrap (n3 + 1)) ∧ (IntKind.i64.wrap (n3 + 1) ≤ Int.ofNat ll) ∧ ∃ (xs10 : List Value), (SliceAt (x9) (slA lc (IntKind.i64.wrap (n3 + 1)).toNat 2 la) ((ll - (IntKind.i64.wrap (n3 + 1)).toNat) * 2) (xs10)) ∧ ∃ (J11 : Option Addr → Nat → Hp → Prop), (∀ (a12 : Option Addr), ∀ (k13 : Nat), ∀ (x14 : Hp), (J11 a12 k13 x14) → (Q (.tuple #[.slice a12 (0 + n3.toNat + (ll - (IntKind.i64.wrap (n3 + 1)).toNat)) k13, .bool true]) x14)) ∧ appendC Tryd.prog 41 a7 (0 + n3.toNat) k8 x9 xs10 (ll - (IntKind.i64.wrap (n3 + 1)).toNat) J11)) ∧ appendC Tryd.prog 41 none 0 0 h2 xs5 n3.toNat J6)))
theorem ref08_Drop.calls (la : Option Addr) (ll lc : Nat) (key : ByteArray) {h : Hp} {Q : Value → Hp → Prop} (hW : ref08_Drop.W la ll lc key h Q) : CallsH Tryd.prog 18 #[.slice la ll lc, .string key] h Q := by
  have hE_ : bodyW Tryd.prog ref08_Drop.H Tryd.f18 [.val (.slice la ll lc), .val (.string key)] h Q = ref08_Drop.W la ll lc key h Q := by kernel_rfl
  rw [← hE_] at hW
  exact calls_of_body (H := ref08_Drop.H) (args := [.val (.slice la ll lc), .val (.string key)]) Tryd.func18 Tryd.ntmps18 rfl rfl hW

def law15_top.H : Hints := { N := 8, loc := (fun _ => false), join := (fun _ => none), loop := (fun i => bif Nat.beq i 2 then some [.slot 1 (.str)] else none), ifc := 0, order := (fun _ => none) }
def law15_top.W  (h : Hp) (Q : Value → Hp → Prop) : Prop :=
  (∃ (J1 : ByteArray → Hp → Nat → Prop), (∃ k2, J1 (bytesL [255]) h k2) ∧ ∀ (s3 : ByteArray), ∀ (x4 : Hp), ∀ (k5 : Nat), (J1 s3 x4 k5) → (bif hb (decide (Int.ofNat s3.size < 65)) then ((s3.size + (bytesL [255]).size ≤ 9223372036854775807) ∧ ∃ k6, (k6 < k5) ∧ J1 (s3 ++ bytesL [255]) x4 k6) else (Q (.string s3) x4)))
theorem law15_top.calls  {h : Hp} {Q : Value → Hp → Prop} (hW : law15_top.W  h Q) : CallsH Tryd.prog 38 #[] h Q := by
  have hE_ : bodyW Tryd.prog law15_top.H Tryd.f38 [] h Q = law15_top.W  h Q := by kernel_rfl
  rw [← hE_] at hW
  exact calls_of_body (H := law15_top.H) (args := []) Tryd.func38 Tryd.ntmps38 rfl rfl hW

def btree_Tree_load.H : Hints := { N := 30, loc := (fun _ => false), join := (fun _ => none), loop := (fun _ => none), ifc := 0, order := (fun _ => none) }
def btree_Tree_load.W (t_b t_o : Nat) (id : Int) (h : Hp) (Q : Value → Hp → Prop) : Prop :=
  (∃ a1, (h.cell t_b t_o = some (.pointer a1)) ∧ CallsH Tryd.prog 62 (#[.pointer a1, .int .i64 id]) (h) (fun v2 h3 => ∃ s4, ∃ n5, (v2 = .tuple #[.string s4, .int .i64 n5]) ∧ bif hb (n5 != 0) then (Q (.tuple #[.pointer none, .int .i64 n5]) h3) else (CallsH Tryd.prog 63 (#[.string s4]) (h3) (fun v6 h7 => ∃ a8, ∃ b9, (v6 = .tuple #[.pointer a8, .bool b9]) ∧ bif !b9 then (Q (.tuple #[.pointer none, .int .i64 4]) h7) else (Q (.tuple #[.pointer a8, .int .i64 0]) h7)))))
theorem btree_Tree_load.calls (t_b t_o : Nat) (id : Int) {h : Hp} {Q : Value → Hp → Prop} (hW : btree_Tree_load.W t_b t_o id h Q) : CallsH Tryd.prog 27 #[.pointer (some ⟨t_b, t_o, none⟩), .int .i64 id] h Q := by
  have hE_ : bodyW Tryd.prog btree_Tree_load.H Tryd.f27 [.ptr t_b t_o, .val (.int .i64 id)] h Q = btree_Tree_load.W t_b t_o id h Q := by kernel_rfl
  rw [← hE_] at hW
  exact calls_of_body (H := btree_Tree_load.H) (args := [.ptr t_b t_o, .val (.int .i64 id)]) Tryd.func27 Tryd.ntmps27 rfl rfl hW

def btree_node_place.H : Hints := { N := 12, loc := (fun _ => false), join := (fun _ => none), loop := (fun _ => none), ifc := 0, order := (fun _ => none) }
def btree_node_place.W (n_b n_o : Nat) (key : ByteArray) (h : Hp) (Q : Value → Hp → Prop) : Prop :=
  (∀ (k1 : Nat), ((h k1 = none) → (∀ (k2 : Nat), ((h.upd k1 (.cells #[.pointer (some ⟨n_b, n_o, none⟩)] 64 (0, 0)) k2 = none) → (∃ a3, (((h.upd k1 (.cells #[.pointer (some ⟨n_b, n_o, none⟩)] 64 (0, 0))).upd k2 (.cells #[.string key] 9 (0, 0))).cell k1 0 = some (.pointer a3)) ∧ ∃ k4, ∃ k5, (a3 = some ⟨k4, k5, none⟩) ∧ ∃ a6, ∃ k7, ∃ k8, (((h.upd k1 (.cells #[.pointer (some ⟨n_b, n_o, none⟩)] 64 (0, 0))).upd k2 (.cells #[.string key] 9 (0, 0))).cell k4 (k5 + 2) = some (.slice a6 k7 k8)) ∧ CallsH Tryd.prog 77 (#[.int .i64 (Int.ofNat k7), .func (Fn.func 78) #[] #[.pointer (some ⟨k1, 0, none⟩), .pointer (some ⟨k2, 0, none⟩)]]) ((h.upd k1 (.cells #[.pointer (some ⟨n_b, n_o, none⟩)] 64 (0, 0))).upd k2 (.cells #[.string key] 9 (0, 0))) (fun v9 h10 => ∃ n11, (v9 = .int .i64 n11) ∧ Q (.int .i64 n11) h10))))))
theorem btree_node_place.calls (n_b n_o : Nat) (key : ByteArray) {h : Hp} {Q : Value → Hp → Prop} (hW : btree_node_place.W n_b n_o key h Q) : CallsH Tryd.prog 59 #[.pointer (some ⟨n_b, n_o, none⟩), .string key] h Q := by
  have hE_ : bodyW Tryd.prog btree_node_place.H Tryd.f59 [.ptr n_b n_o, .val (.string key)] h Q = btree_node_place.W n_b n_o key h Q := by kernel_rfl
  rw [← hE_] at hW
  exact calls_of_body (H := btree_node_place.H) (args := [.ptr n_b n_o, .val (.string key)]) Tryd.func59 Tryd.ntmps59 rfl rfl hW

def btree_node_kid.H : Hints := { N := 19, loc := (fun _ => false), join := (fun _ => none), loop := (fun _ => none), ifc := 0, order := (fun _ => none) }
def btree_node_kid.W (n_b n_o : Nat) (i : Int) (h : Hp) (Q : Value → Hp → Prop) : Prop :=
  (bif hb (decide (i < 0)) then (∃ n1, (h.cell n_b (n_o + 1) = some (.int .i64 n1)) ∧ Q (.int .i64 n1) h) else (∃ a2, ∃ k3, ∃ k4, (h.cell n_b (n_o + 2) = some (.slice a2 k3 k4)) ∧ (0 ≤ i) ∧ (i < Int.ofNat k3) ∧ ∃ k5, ∃ k6, (a2 = some ⟨k5, k6, none⟩) ∧ ∃ n7, (h.cell k5 (k6 + i.toNat * 3 + 2) = some (.int .i64 n7)) ∧ Q (.int .i64 n7) h))
theorem btree_node_kid.calls (n_b n_o : Nat) (i : Int) {h : Hp} {Q : Value → Hp → Prop} (hW : btree_node_kid.W n_b n_o i h Q) : CallsH Tryd.prog 42 #[.pointer (some ⟨n_b, n_o, none⟩), .int .i64 i] h Q := by
  have hE_ : bodyW Tryd.prog btree_node_kid.H Tryd.f42 [.ptr n_b n_o, .val (.int .i64 i)] h Q = btree_node_kid.W n_b n_o i h Q := by kernel_rfl
  rw [← hE_] at hW
  exact calls_of_body (H := btree_node_kid.H) (args := [.ptr n_b n_o, .val (.int .i64 i)]) Tryd.func42 Tryd.ntmps42 rfl rfl hW

def btree_node_below.H : Hints := { N := 13, loc := (fun _ => false), join := (fun _ => none), loop := (fun _ => none), ifc := 0, order := (fun _ => none) }
def btree_node_below.W (n_b n_o : Nat) (key : ByteArray) (h : Hp) (Q : Value → Hp → Prop) : Prop :=
  (∀ (k1 : Nat), ((h k1 = none) → (∀ (k2 : Nat), ((h.upd k1 (.cells #[.pointer (some ⟨n_b, n_o, none⟩)] 64 (0, 0)) k2 = none) → (∃ a3, (((h.upd k1 (.cells #[.pointer (some ⟨n_b, n_o, none⟩)] 64 (0, 0))).upd k2 (.cells #[.string key] 9 (0, 0))).cell k1 0 = some (.pointer a3)) ∧ ∃ k4, ∃ k5, (a3 = some ⟨k4, k5, none⟩) ∧ ∃ a6, ∃ k7, ∃ k8, (((h.upd k1 (.cells #[.pointer (some ⟨n_b, n_o, none⟩)] 64 (0, 0))).upd k2 (.cells #[.string key] 9 (0, 0))).cell k4 (k5 + 2) = some (.slice a6 k7 k8)) ∧ CallsH Tryd.prog 77 (#[.int .i64 (Int.ofNat k7), .func (Fn.func 79) #[] #[.pointer (some ⟨k1, 0, none⟩), .pointer (some ⟨k2, 0, none⟩)]]) ((h.upd k1 (.cells #[.pointer (some ⟨n_b, n_o, none⟩)] 64 (0, 0))).upd k2 (.cells #[.string key] 9 (0, 0))) (fun v9 h10 => ∃ n11, (v9 = .int .i64 n11) ∧ Q (.int .i64 (IntKind.i64.wrap (n11 - 1))) h10))))))
theorem btree_node_below.calls (n_b n_o : Nat) (key : ByteArray) {h : Hp} {Q : Value → Hp → Prop} (hW : btree_node_below.W n_b n_o key h Q) : CallsH Tryd.prog 60 #[.pointer (some ⟨n_b, n_o, none⟩), .string key] h Q := by
  have hE_ : bodyW Tryd.prog btree_node_below.H Tryd.f60 [.ptr n_b n_o, .val (.string key)] h Q = btree_node_below.W n_b n_o key h Q := by kernel_rfl
  rw [← hE_] at hW
  exact calls_of_body (H := btree_node_below.H) (args := [.ptr n_b n_o, .val (.string key)]) Tryd.func60 Tryd.ntmps60 rfl rfl hW

def ref08_Find.H : Hints := { N := 30, loc := (fun _ => false), join := (fun _ => none), loop := (fun i => bif Nat.beq i 2 then some [.slot 6 (.int .i64)] else none), ifc := 0, order := (fun i => bif Nat.beq i 5 then some (none, false, [0, 1, 2, 3, 4, 5, 6, 7, 8, 9], .q 0 (.q 1 (.q 2 (.q 3 (.q 4 (.q 5 (.q 6 (.q 7 (.q 8 (.q 9 .done)))))))))) else none) }
def ref08_Find.W (la : Option Addr) (ll lc : Nat) (key : ByteArray) (h : Hp) (Q : Value → Hp → Prop) : Prop :=
  (∃ (J1 : Int → Hp → Nat → Prop), (∃ k2, J1 0 h k2) ∧ ∀ (n3 : Int), ∀ (x4 : Hp), ∀ (k5 : Nat), (J1 n3 x4 k5) → (bif hb (decide (n3 < Int.ofNat ll)) then ((0 ≤ n3) ∧ (n3 < Int.ofNat ll) ∧ ∃ k6, ∃ k7, (la = some ⟨k6, k7, none⟩) ∧ ∃ s8, (x4.cell k6 (k7 + n3.toNat * 2) = some (.string s8)) ∧ bif !bltS s8 key then ((0 ≤ n3) ∧ (n3 < Int.ofNat ll) ∧ ∃ k9, ∃ k10, (la = some ⟨k9, k10, none⟩) ∧ ∃ s11, (x4.cell k9 (k10 + n3.toNat * 2) = some (.string s11)) ∧ Q (.tuple #[.int .i64 n3, .bool (beqS s11 key)]) x4) else (∃ k12, (k12 < k5) ∧ J1 (IntKind.i64.wrap (n3 + 1)) x4 k12)) else (Q (.tuple #[.int .i64 (Int.ofNat ll), .bool false]) x4)))
theorem ref08_Find.calls (la : Option Addr) (ll lc : Nat) (key : ByteArray) {h : Hp} {Q : Value → Hp → Prop} (hW : ref08_Find.W la ll lc key h Q) : CallsH Tryd.prog 43 #[.slice la ll lc, .string key] h Q := by
  have hE_ : bodyW Tryd.prog ref08_Find.H Tryd.f43 [.val (.slice la ll lc), .val (.string key)] h Q = ref08_Find.W la ll lc key h Q := by kernel_rfl
  rw [← hE_] at hW
  exact calls_of_body (H := ref08_Find.H) (args := [.val (.slice la ll lc), .val (.string key)]) Tryd.func43 Tryd.ntmps43 rfl rfl hW

def btree_Tree_Len_1.H : Hints := { N := 17, loc := (fun _ => false), join := (fun _ => none), loop := (fun _ => none), ifc := 0, order := (fun i => bif Nat.beq i 1 then some (some 7, false, [0, 1, 2, 3, 4, 5, 6, 7], .q 0 (.q 1 (.q 2 (.q 3 (.q 4 (.q 5 (.q 6 (.f 7 (.done) .e)))))))) else none) }
def btree_Tree_Len_1.W (p0 : Int) (n_b n_o : Nat) (p2_b p2_o : Nat) (h : Hp) (Q : Value → Hp → Prop) : Prop :=
  (∃ n1, (h.cell n_b n_o = some (.int .i64 n1)) ∧ bif hb (n1 == 1) then (∃ n2, (h.cell p2_b p2_o = some (.int .i64 n2)) ∧ ∃ a3, ∃ k4, ∃ k5, (h.cell n_b (n_o + 2) = some (.slice a3 k4 k5)) ∧ (StoreOk h p2_b p2_o 1) ∧ Q (.tuple #[]) (h.put p2_b p2_o [.int .i64 (IntKind.i64.wrap (n2 + Int.ofNat k4))])) else (Q (.tuple #[]) h))
theorem btree_Tree_Len_1.calls (p0 : Int) (n_b n_o : Nat) (p2_b p2_o : Nat) {h : Hp} {Q : Value → Hp → Prop} (hW : btree_Tree_Len_1.W p0 n_b n_o p2_b p2_o h Q) : CallsH Tryd.prog 35 #[.int .i64 p0, .pointer (some ⟨n_b, n_o, none⟩), .pointer (some ⟨p2_b, p2_o, none⟩)] h Q := by
  have hE_ : bodyW Tryd.prog btree_Tree_Len_1.H Tryd.f35 [.val (.int .i64 p0), .ptr n_b n_o, .ptr p2_b p2_o] h Q = btree_Tree_Len_1.W p0 n_b n_o p2_b p2_o h Q := by kernel_rfl
  rw [← hE_] at hW
  exact calls_of_body (H := btree_Tree_Len_1.H) (args := [.val (.int .i64 p0), .ptr n_b n_o, .ptr p2_b p2_o]) Tryd.func35 Tryd.ntmps35 rfl rfl hW

def btree_Tree_Clear_1.H : Hints := { N := 9, loc := (fun _ => false), join := (fun _ => none), loop := (fun _ => none), ifc := 0, order := (fun _ => none) }
def btree_Tree_Clear_1.W (id : Int) (p1_b p1_o : Nat) (p2_b p2_o : Nat) (h : Hp) (Q : Value → Hp → Prop) : Prop :=
  (∃ a1, ∃ k2, ∃ k3, (h.cell p2_b p2_o = some (.slice a1 k2 k3)) ∧ ∀ (k4 : Nat), (h k4 = none) → (∃ (xs5 : List Value), (SliceAt (h.upd k4 (.cells #[.int .i64 id] 3 (0, 0))) (some ⟨k4, 0, none⟩) (1) (xs5)) ∧ ∃ (J6 : Option Addr → Nat → Hp → Prop), (∀ (a7 : Option Addr), ∀ (k8 : Nat), ∀ (x9 : Hp), (J6 a7 k8 x9) → ((StoreOk x9 p2_b p2_o 1) ∧ Q (.tuple #[]) (x9.put p2_b p2_o [.slice a7 (k2 + 1) k8]))) ∧ appendC Tryd.prog 3 a1 k2 k3 (h.upd k4 (.cells #[.int .i64 id] 3 (0, 0))) xs5 1 J6))
theorem btree_Tree_Clear_1.calls (id : Int) (p1_b p1_o : Nat) (p2_b p2_o : Nat) {h : Hp} {Q : Value → Hp → Prop} (hW : btree_Tree_Clear_1.W id p1_b p1_o p2_b p2_o h Q) : CallsH Tryd.prog 46 #[.int .i64 id, .pointer (some ⟨p1_b, p1_o, none⟩), .pointer (some ⟨p2_b, p2_o, none⟩)] h Q := by
  have hE_ : bodyW Tryd.prog btree_Tree_Clear_1.H Tryd.f46 [.val (.int .i64 id), .ptr p1_b p1_o, .ptr p2_b p2_o] h Q = btree_Tree_Clear_1.W id p1_b p1_o p2_b p2_o h Q := by kernel_rfl
  rw [← hE_] at hW
  exact calls_of_body (H := btree_Tree_Clear_1.H) (args := [.val (.int .i64 id), .ptr p1_b p1_o, .ptr p2_b p2_o]) Tryd.func46 Tryd.ntmps46 rfl rfl hW

def btree_may.H : Hints := { N := 18, loc := (fun _ => false), join := (fun _ => none), loop := (fun _ => none), ifc := 0, order := (fun _ => none) }
def btree_may.W (key : ByteArray) (value : ByteArray) (h : Hp) (Q : Value → Hp → Prop) : Prop :=
  (bif hb (decide (Int.ofNat key.size ≥ 1)) then (bif hb (decide (Int.ofNat key.size ≤ 64)) then (Q (.bool (hb (decide (Int.ofNat value.size ≤ 400)))) h) else (Q (.bool false) h)) else (Q (.bool false) h))
theorem btree_may.calls (key : ByteArray) (value : ByteArray) {h : Hp} {Q : Value → Hp → Prop} (hW : btree_may.W key value h Q) : CallsH Tryd.prog 30 #[.string key, .string value] h Q := by
  have hE_ : bodyW Tryd.prog btree_may.H Tryd.f30 [.val (.string key), .val (.string value)] h Q = btree_may.W key value h Q := by kernel_rfl
  rw [← hE_] at hW
  exact calls_of_body (H := btree_may.H) (args := [.val (.string key), .val (.string value)]) Tryd.func30 Tryd.ntmps30 rfl rfl hW

def btree_Tree_store.H : Hints := { N := 14, loc := (fun _ => false), join := (fun _ => none), loop := (fun _ => none), ifc := 0, order := (fun i => bif Nat.beq i 0 then some (some 7, false, [0, 1, 2, 3, 4, 5, 6, 7], .q 0 (.q 1 (.q 2 (.q 3 (.q 4 (.q 5 (.f 6 (.f 7 (.done) .e) .e))))))) else none) }
def btree_Tree_store.W (t_b t_o : Nat) (id : Int) (n_b n_o : Nat) (h : Hp) (Q : Value → Hp → Prop) : Prop :=
  (∃ a1, (h.cell t_b t_o = some (.pointer a1)) ∧ CallsH Tryd.prog 67 (#[.pointer (some ⟨n_b, n_o, none⟩)]) (h) (fun v2 h3 => ∃ s4, (v2 = .string s4) ∧ (Gx.Sub h h3) ∧ CallsH Tryd.prog 66 (#[.pointer a1, .int .i64 id, .string s4]) (h3) (fun v5 h6 => ∃ n7, (v5 = .int .i64 n7) ∧ Q (.tuple #[]) h6)))
theorem btree_Tree_store.calls (t_b t_o : Nat) (id : Int) (n_b n_o : Nat) {h : Hp} {Q : Value → Hp → Prop} (hW : btree_Tree_store.W t_b t_o id n_b n_o h Q) : CallsH Tryd.prog 32 #[.pointer (some ⟨t_b, t_o, none⟩), .int .i64 id, .pointer (some ⟨n_b, n_o, none⟩)] h Q := by
  have hE_ : bodyW Tryd.prog btree_Tree_store.H Tryd.f32 [.ptr t_b t_o, .val (.int .i64 id), .ptr n_b n_o] h Q = btree_Tree_store.W t_b t_o id n_b n_o h Q := by kernel_rfl
  rw [← hE_] at hW
  exact calls_of_body (H := btree_Tree_store.H) (args := [.ptr t_b t_o, .val (.int .i64 id), .ptr n_b n_o]) Tryd.func32 Tryd.ntmps32 rfl rfl hW

def btree_Tree_insert.H : Hints := { N := 103, loc := (fun i => Nat.beq i 5 || false), join := (fun i => bif Nat.beq i 14 then some [] else none), loop := (fun _ => none), ifc := 0, order := (fun i => bif Nat.beq i 6 then some (none, false, [0, 1, 2, 3, 4, 5, 6, 7, 8, 9, 10, 11, 12, 13, 14, 15, 16, 17, 18, 19], .q 0 (.q 1 (.q 2 (.q 3 (.q 4 (.q 5 (.q 6 (.q 7 (.q 8 (.q 9 (.q 10 (.q 11 (.q 12 (.q 13 (.q 14 (.q 15 (.q 16 (.q 17 (.q 18 (.q 19 .done)))))))))))))))))))) else bif Nat.beq i 7 then some (some 7, false, [0, 1, 2, 3, 4, 5, 6, 7], .q 0 (.q 1 (.q 2 (.q 3 (.q 4 (.q 5 (.q 6 (.f 7 (.done) .e)))))))) else bif Nat.beq i 10 then some (some 5, false, [0, 1, 2, 4, 3, 5, 6, 7, 8, 9, 10], .q 0 (.q 1 (.q 2 (.q 4 (.f 3 (.f 5 (.q 6 (.q 7 (.q 8 (.q 9 (.q 10 .done))))) .e) .e))))) else none) }
def btree_Tree_insert.W (t_b t_o : Nat) (id : Int) (x_0 : ByteArray) (x_1 : ByteArray) (x_2 : Int) (h : Hp) (Q : Value → Hp → Prop) : Prop :=
  (CallsH Tryd.prog 27 (#[.pointer (some ⟨t_b, t_o, none⟩), .int .i64 id]) (h) (fun v1 h2 => ∃ a3, ∃ n4, (v1 = .tuple #[.pointer a3, .int .i64 n4]) ∧ bif hb (n4 != 0) then (Q (.tuple #[.pointer none, .int .i64 n4]) h2) else (∃ (J5 : Hp → Prop), (∀ (x6 : Hp), (J5 x6) → (CallsH Tryd.prog 69 (#[.pointer a3]) (x6) (fun v7 h8 => ∃ n9, (v7 = .int .i64 n9) ∧ bif hb (decide (n9 ≤ 1024)) then (CallsH Tryd.prog 32 (#[.pointer (some ⟨t_b, t_o, none⟩), .int .i64 id, .pointer a3]) (h8) (fun v10 h11 => (v10 = .tuple #[]) ∧ Q (.tuple #[.pointer none, .int .i64 0]) h11)) else (CallsH Tryd.prog 70 (#[.pointer (some ⟨t_b, t_o, none⟩), .int .i64 id, .pointer a3]) (h8) (fun v12 h13 => ∃ a14, ∃ n15, (v12 = .tuple #[.pointer a14, .int .i64 n15]) ∧ Q (.tuple #[.pointer a14, .int .i64 n15]) h13))))) ∧ ∃ k16, ∃ k17, (a3 = some ⟨k16, k17, none⟩) ∧ ∃ n18, (h2.cell k16 k17 = some (.int .i64 n18)) ∧ bif hb (n18 == 1) then (CallsH Tryd.prog 59 (#[.pointer a3, .string x_0]) (h2) (fun v19 h20 => ∃ n21, (v19 = .int .i64 n21) ∧ ∃ k22, ∃ k23, (a3 = some ⟨k22, k23, none⟩) ∧ ∃ a24, ∃ k25, ∃ k26, (h20.cell k22 (k23 + 2) = some (.slice a24 k25 k26)) ∧ bif hb (decide (n21 < Int.ofNat k25)) then (∃ k27, ∃ k28, (a3 = some ⟨k27, k28, none⟩) ∧ ∃ a29, ∃ k30, ∃ k31, (h20.cell k27 (k28 + 2) = some (.slice a29 k30 k31)) ∧ (0 ≤ n21) ∧ (n21 < Int.ofNat k30) ∧ ∃ k32, ∃ k33, (a29 = some ⟨k32, k33, none⟩) ∧ ∃ s34, (h20.cell k32 (k33 + n21.toNat * 3) = some (.string s34)) ∧ bif beqS s34 x_0 then (∃ k35, ∃ k36, (a3 = some ⟨k35, k36, none⟩) ∧ ∃ a37, ∃ k38, ∃ k39, (h20.cell k35 (k36 + 2) = some (.slice a37 k38 k39)) ∧ (0 ≤ n21) ∧ (n21 < Int.ofNat k38) ∧ ∃ k40, ∃ k41, (a37 = some ⟨k40, k41, none⟩) ∧ (StoreOk h20 k40 (k41 + n21.toNat * 3) 3) ∧ J5 (h20.put k40 (k41 + n21.toNat * 3) [.string x_0, .string x_1, .int .i64 x_2])) else (CallsH Tryd.prog 68 (#[.pointer a3, .int .i64 n21, .agg #[.string x_0, .string x_1, .int .i64 x_2]]) (h20) (fun v42 h43 => (v42 = .tuple #[]) ∧ J5 h43))) else (CallsH Tryd.prog 68 (#[.pointer a3, .int .i64 n21, .agg #[.string x_0, .string x_1, .int .i64 x_2]]) (h20) (fun v44 h45 => (v44 = .tuple #[]) ∧ J5 h45)))) else (CallsH Tryd.prog 60 (#[.pointer a3, .string x_0]) (h2) (fun v46 h47 => ∃ n48, (v46 = .int .i64 n48) ∧ CallsH Tryd.prog 42 (#[.pointer a3, .int .i64 n48]) (h47) (fun v49 h50 => ∃ n51, (v49 = .int .i64 n51) ∧ (Gx.Sub h47 h50) ∧ CallsH Tryd.prog 33 (#[.pointer (some ⟨t_b, t_o, none⟩), .int .i64 n51, .agg #[.string x_0, .string x_1, .int .i64 x_2]]) (h50) (fun v52 h53 => ∃ a54, ∃ n55, (v52 = .tuple #[.pointer a54, .int .i64 n55]) ∧ bif hb (n55 != 0) then (Q (.tuple #[.pointer none, .int .i64 n55]) h53) else (bif a54.isNone then (Q (.tuple #[.pointer none, .int .i64 n55]) h53) else (∃ k56, ∃ k57, (a54 = some ⟨k56, k57, none⟩) ∧ ∃ s58, (h53.cell k56 k57 = some (.string s58)) ∧ ∃ s59, (h53.cell k56 (k57 + 1) = some (.string s59)) ∧ ∃ n60, (h53.cell k56 (k57 + 1 + 1) = some (.int .i64 n60)) ∧ CallsH Tryd.prog 68 (#[.pointer a3, .int .i64 (IntKind.i64.wrap (n48 + 1)), .agg #[.string s58, .string s59, .int .i64 n60]]) (h53) (fun v61 h62 => (v61 = .tuple #[]) ∧ J5 h62))))))))))
theorem btree_Tree_insert.calls (t_b t_o : Nat) (id : Int) (x_0 : ByteArray) (x_1 : ByteArray) (x_2 : Int) {h : Hp} {Q : Value → Hp → Prop} (hW : btree_Tree_insert.W t_b t_o id x_0 x_1 x_2 h Q) : CallsH Tryd.prog 33 #[.pointer (some ⟨t_b, t_o, none⟩), .int .i64 id, .agg #[.string x_0, .string x_1, .int .i64 x_2]] h Q := by
  have hE_ : bodyW Tryd.prog btree_Tree_insert.H Tryd.f33 [.ptr t_b t_o, .val (.int .i64 id), .val (.agg #[.string x_0, .string x_1, .int .i64 x_2])] h Q = btree_Tree_insert.W t_b t_o id x_0 x_1 x_2 h Q := by kernel_rfl
  rw [← hE_] at hW
  exact calls_of_body (H := btree_Tree_insert.H) (args := [.ptr t_b t_o, .val (.int .i64 id), .val (.agg #[.string x_0, .string x_1, .int .i64 x_2])]) Tryd.func33 Tryd.ntmps33 rfl rfl hW

def btree_Tree_remove.H : Hints := { N := 97, loc := (fun _ => false), join := (fun _ => none), loop := (fun _ => none), ifc := 0, order := (fun i => bif Nat.beq i 8 then some (some 15, false, [0, 1, 2, 3, 4, 5, 6, 7, 8, 9, 10, 11, 12, 13, 14, 15, 16, 17, 18], .q 0 (.q 1 (.q 2 (.q 3 (.q 4 (.q 5 (.q 6 (.q 7 (.q 8 (.q 9 (.q 10 (.q 11 (.q 12 (.q 13 (.q 14 (.f 15 (.q 16 (.q 17 (.f 18 (.done) .e))) .e)))))))))))))))) else none) }
def btree_Tree_remove.W (t_b t_o : Nat) (id : Int) (key : ByteArray) (h : Hp) (Q : Value → Hp → Prop) : Prop :=
  (CallsH Tryd.prog 27 (#[.pointer (some ⟨t_b, t_o, none⟩), .int .i64 id]) (h) (fun v1 h2 => ∃ a3, ∃ n4, (v1 = .tuple #[.pointer a3, .int .i64 n4]) ∧ bif hb (n4 != 0) then (Q (.bool false) h2) else (∃ k5, ∃ k6, (a3 = some ⟨k5, k6, none⟩) ∧ ∃ n7, (h2.cell k5 k6 = some (.int .i64 n7)) ∧ bif hb (n7 == 1) then (CallsH Tryd.prog 59 (#[.pointer a3, .string key]) (h2) (fun v8 h9 => ∃ n10, (v8 = .int .i64 n10) ∧ ∃ k11, ∃ k12, (a3 = some ⟨k11, k12, none⟩) ∧ ∃ a13, ∃ k14, ∃ k15, (h9.cell k11 (k12 + 2) = some (.slice a13 k14 k15)) ∧ bif hb (n10 == Int.ofNat k14) then (Q (.bool false) h9) else (∃ k16, ∃ k17, (a3 = some ⟨k16, k17, none⟩) ∧ ∃ a18, ∃ k19, ∃ k20, (h9.cell k16 (k17 + 2) = some (.slice a18 k19 k20)) ∧ (0 ≤ n10) ∧ (n10 < Int.ofNat k19) ∧ ∃ k21, ∃ k22, (a18 = some ⟨k21, k22, none⟩) ∧ ∃ s23, (h9.cell k21 (k22 + n10.toNat * 3) = some (.string s23)) ∧ bif !beqS s23 key then (Q (.bool false) h9) else (∃ k24, ∃ k25, (a3 = some ⟨k24, k25, none⟩) ∧ ∃ a26, ∃ k27, ∃ k28, (h9.cell k24 (k25 + 2) = some (.slice a26 k27 k28)) ∧ (0 ≤ n10) ∧ (n10 ≤ Int.ofNat k28) ∧ (0 ≤ n10) ∧ (n10 ≤ Int.ofNat n10.toNat) ∧ ∃ k29, ∃ k30, (a3 = some ⟨k29, k30, none⟩) ∧ ∃ a31, ∃ k32, ∃ k33, (h9.cell k29 (k30 + 2) = some (.slice a31 k32 k33)) ∧ (0 ≤ IntKind.i64.wrap (n10 + 1)) ∧ (IntKind.i64.wrap (n10 + 1) ≤ Int.ofNat k32) ∧ ∃ (xs34 : List Value), (SliceAt (h9) (slA k33 (IntKind.i64.wrap (n10 + 1)).toNat 3 a31) ((k32 - (IntKind.i64.wrap (n10 + 1)).toNat) * 3) (xs34)) ∧ ∃ (J35 : Option Addr → Nat → Hp → Prop), (∀ (a36 : Option Addr), ∀ (k37 : Nat), ∀ (x38 : Hp), (J35 a36 k37 x38) → (∃ k39, ∃ k40, (a3 = some ⟨k39, k40, none⟩) ∧ (StoreOk x38 k39 (k40 + 2) 1) ∧ CallsH Tryd.prog 32 (#[.pointer (some ⟨t_b, t_o, none⟩), .int .i64 id, .pointer a3]) (x38.put k39 (k40 + 2) [.slice a36 (n10.toNat + (k32 - (IntKind.i64.wrap (n10 + 1)).toNat)) k37]) (fun v41 h42 => (v41 = .tuple #[]) ∧ Q (.bool true) h42))) ∧ appendC Tryd.prog 77 (slA n10.toNat 0 3 a26) n10.toNat n10.toNat h9 xs34 (k32 - (IntKind.i64.wrap (n10 + 1)).toNat) J35)))) else (CallsH Tryd.prog 60 (#[.pointer a3, .string key]) (h2) (fun v43 h44 => ∃ n45, (v43 = .int .i64 n45) ∧ CallsH Tryd.prog 42 (#[.pointer a3, .int .i64 n45]) (h44) (fun v46 h47 => ∃ n48, (v46 = .int .i64 n48) ∧ CallsH Tryd.prog 26 (#[.pointer (some ⟨t_b, t_o, none⟩), .int .i64 n48, .string key]) (h47) (fun v49 h50 => ∃ b51, (v49 = .bool b51) ∧ bif !b51 then (Q (.bool false) h50) else (CallsH Tryd.prog 61 (#[.pointer (some ⟨t_b, t_o, none⟩), .pointer a3, .int .i64 n45]) (h50) (fun v52 h53 => ∃ b54, (v52 = .bool b54) ∧ CallsH Tryd.prog 61 (#[.pointer (some ⟨t_b, t_o, none⟩), .pointer a3, .int .i64 (IntKind.i64.wrap (n45 - 1))]) (h53) (fun v55 h56 => ∃ b57, (v55 = .bool b57) ∧ bif b54 then (CallsH Tryd.prog 32 (#[.pointer (some ⟨t_b, t_o, none⟩), .int .i64 id, .pointer a3]) (h56) (fun v58 h59 => (v58 = .tuple #[]) ∧ Q (.bool true) h59)) else (bif b57 then (CallsH Tryd.prog 32 (#[.pointer (some ⟨t_b, t_o, none⟩), .int .i64 id, .pointer a3]) (h56) (fun v60 h61 => (v60 = .tuple #[]) ∧ Q (.bool true) h61)) else (Q (.bool true) h56))))))))))))
theorem btree_Tree_remove.calls (t_b t_o : Nat) (id : Int) (key : ByteArray) {h : Hp} {Q : Value → Hp → Prop} (hW : btree_Tree_remove.W t_b t_o id key h Q) : CallsH Tryd.prog 26 #[.pointer (some ⟨t_b, t_o, none⟩), .int .i64 id, .string key] h Q := by
  have hE_ : bodyW Tryd.prog btree_Tree_remove.H Tryd.f26 [.ptr t_b t_o, .val (.int .i64 id), .val (.string key)] h Q = btree_Tree_remove.W t_b t_o id key h Q := by kernel_rfl
  rw [← hE_] at hW
  exact calls_of_body (H := btree_Tree_remove.H) (args := [.ptr t_b t_o, .val (.int .i64 id), .val (.string key)]) Tryd.func26 Tryd.ntmps26 rfl rfl hW

def btree_node_keys.H : Hints := { N := 39, loc := (fun _ => false), join := (fun i => bif Nat.beq i 3 then some [.slot 2 (.str)] else none), loop := (fun _ => none), ifc := 0, order := (fun _ => none) }
def btree_node_keys.W (n_b n_o : Nat) (i : Int) (p2 : ByteArray) (to : ByteArray) (h : Hp) (Q : Value → Hp → Prop) : Prop :=
  (∃ (J1 : ByteArray → Hp → Prop), (∀ (s2 : ByteArray), ∀ (x3 : Hp), (J1 s2 x3) → (∃ a4, ∃ k5, ∃ k6, (x3.cell n_b (n_o + 2) = some (.slice a4 k5 k6)) ∧ bif hb (decide (IntKind.i64.wrap (i + 1) < Int.ofNat k5)) then (∃ a7, ∃ k8, ∃ k9, (x3.cell n_b (n_o + 2) = some (.slice a7 k8 k9)) ∧ (0 ≤ IntKind.i64.wrap (i + 1)) ∧ (IntKind.i64.wrap (i + 1) < Int.ofNat k8) ∧ ∃ k10, ∃ k11, (a7 = some ⟨k10, k11, none⟩) ∧ ∃ s12, (x3.cell k10 (k11 + (IntKind.i64.wrap (i + 1)).toNat * 3) = some (.string s12)) ∧ Q (.tuple #[.string s2, .string s12]) x3) else (Q (.tuple #[.string s2, .string to]) x3))) ∧ bif hb (decide (i ≥ 0)) then (∃ a13, ∃ k14, ∃ k15, (h.cell n_b (n_o + 2) = some (.slice a13 k14 k15)) ∧ (0 ≤ i) ∧ (i < Int.ofNat k14) ∧ ∃ k16, ∃ k17, (a13 = some ⟨k16, k17, none⟩) ∧ ∃ s18, (h.cell k16 (k17 + i.toNat * 3) = some (.string s18)) ∧ J1 s18 h) else (J1 p2 h))
theorem btree_node_keys.calls (n_b n_o : Nat) (i : Int) (p2 : ByteArray) (to : ByteArray) {h : Hp} {Q : Value → Hp → Prop} (hW : btree_node_keys.W n_b n_o i p2 to h Q) : CallsH Tryd.prog 41 #[.pointer (some ⟨n_b, n_o, none⟩), .int .i64 i, .string p2, .string to] h Q := by
  have hE_ : bodyW Tryd.prog btree_node_keys.H Tryd.f41 [.ptr n_b n_o, .val (.int .i64 i), .val (.string p2), .val (.string to)] h Q = btree_node_keys.W n_b n_o i p2 to h Q := by kernel_rfl
  rw [← hE_] at hW
  exact calls_of_body (H := btree_node_keys.H) (args := [.ptr n_b n_o, .val (.int .i64 i), .val (.string p2), .val (.string to)]) Tryd.func41 Tryd.ntmps41 rfl rfl hW

def ref08_Put.H : Hints := { N := 35, loc := (fun _ => false), join := (fun _ => none), loop := (fun _ => none), ifc := 0, order := (fun _ => none) }
def ref08_Put.W (la : Option Addr) (ll lc : Nat) (key : ByteArray) (value : ByteArray) (h : Hp) (Q : Value → Hp → Prop) : Prop :=
  (CallsH Tryd.prog 43 (#[.slice la ll lc, .string key]) (h) (fun v1 h2 => ∃ n3, ∃ b4, (v1 = .tuple #[.int .i64 n3, .bool b4]) ∧ (0 ≤ n3) ∧ (n3 ≤ Int.ofNat lc) ∧ ∃ (xs5 : List Value), (SliceAt (h2) (slA lc 0 2 la) (n3.toNat * 2) (xs5)) ∧ ∃ (J6 : Option Addr → Nat → Hp → Prop), (∀ (a7 : Option Addr), ∀ (k8 : Nat), ∀ (x9 : Hp), (J6 a7 k8 x9) → (∀ (k10 : Nat), (x9 k10 = none) → (∃ (xs11 : List Value), (SliceAt (x9.upd k10 (.cells #[.string key, .string value] 41 (0, 0))) (some ⟨k10, 0, none⟩) (2) (xs11)) ∧ ∃ (J12 : Option Addr → Nat → Hp → Prop), (∀ (a13 : Option Addr), ∀ (k14 : Nat), ∀ (x15 : Hp), (J12 a13 k14 x15) → (bif b4 then ((0 ≤ IntKind.i64.wrap (n3 + 1)) ∧ (IntKind.i64.wrap (n3 + 1) ≤ Int.ofNat ll) ∧ ∃ (xs16 : List Value), (SliceAt (x15) (slA lc (IntKind.i64.wrap (n3 + 1)).toNat 2 la) ((ll - (IntKind.i64.wrap (n3 + 1)).toNat) * 2) (xs16)) ∧ ∃ (J17 : Option Addr → Nat → Hp → Prop), (∀ (a18 : Option Addr), ∀ (k19 : Nat), ∀ (x20 : Hp), (J17 a18 k19 x20) → (Q (.slice a18 (0 + n3.toNat + 1 + (ll - (IntKind.i64.wrap (n3 + 1)).toNat)) k19) x20)) ∧ appendC Tryd.prog 41 a13 (0 + n3.toNat + 1) k14 x15 xs16 (ll - (IntKind.i64.wrap (n3 + 1)).toNat) J17) else ((0 ≤ n3) ∧ (n3 ≤ Int.ofNat ll) ∧ ∃ (xs21 : List Value), (SliceAt (x15) (slA lc n3.toNat 2 la) ((ll - n3.toNat) * 2) (xs21)) ∧ ∃ (J22 : Option Addr → Nat → Hp → Prop), (∀ (a23 : Option Addr), ∀ (k24 : Nat), ∀ (x25 : Hp), (J22 a23 k24 x25) → (Q (.slice a23 (0 + n3.toNat + 1 + (ll - n3.toNat)) k24) x25)) ∧ appendC Tryd.prog 41 a13 (0 + n3.toNat + 1) k14 x15 xs21 (ll - n3.toNat) J22))) ∧ appendC Tryd.prog 41 a7 (0 + n3.toNat) k8 (x9.upd k10 (.cells #[.string key, .string value] 41 (0, 0))) xs11 1 J12))) ∧ appendC Tryd.prog 41 none 0 0 h2 xs5 n3.toNat J6))
theorem ref08_Put.calls (la : Option Addr) (ll lc : Nat) (key : ByteArray) (value : ByteArray) {h : Hp} {Q : Value → Hp → Prop} (hW : ref08_Put.W la ll lc key value h Q) : CallsH Tryd.prog 45 #[.slice la ll lc, .string key, .string value] h Q := by
  have hE_ : bodyW Tryd.prog ref08_Put.H Tryd.f45 [.val (.slice la ll lc), .val (.string key), .val (.string value)] h Q = ref08_Put.W la ll lc key value h Q := by kernel_rfl
  rw [← hE_] at hW
  exact calls_of_body (H := ref08_Put.H) (args := [.val (.slice la ll lc), .val (.string key), .val (.string value)]) Tryd.func45 Tryd.ntmps45 rfl rfl hW

def btree_parse.H : Hints := { N := 122, loc := (fun i => Nat.beq i 8 || false), join := (fun i => bif Nat.beq i 8 then some [.slot 5 (.int .i64)] else bif Nat.beq i 18 then some [.slot 9 (.int .i64), .blk 8 [.str, .str, .int .i64]] else none), loop := (fun i => bif Nat.beq i 9 then some [.slot 5 (.int .i64), .slot 42 (.int .i64)] else none), ifc := 0, order := (fun i => bif Nat.beq i 12 then some (some 7, false, [0, 1, 2, 3, 4, 5, 6, 7, 8, 9], .q 0 (.q 1 (.q 2 (.q 3 (.q 4 (.q 5 (.q 6 (.f 7 (.q 8 (.q 9 .done)) .e)))))))) else bif Nat.beq i 20 then some (some 17, false, [0, 1, 2, 3, 4, 5, 6, 7, 8, 9, 10, 11, 12, 13, 14, 15, 16, 17, 18, 19], .q 0 (.q 1 (.q 2 (.q 3 (.q 4 (.q 5 (.q 6 (.q 7 (.q 8 (.q 9 (.q 10 (.q 11 (.q 12 (.q 13 (.q 14 (.q 15 (.q 16 (.f 17 (.q 18 (.f 19 (.done) .e)) .e)))))))))))))))))) else bif Nat.beq i 24 then some (some 7, false, [0, 1, 2, 3, 4, 5, 6, 7, 8, 9, 10], .q 0 (.q 1 (.q 2 (.q 3 (.q 4 (.q 5 (.f 6 (.f 7 (.q 8 (.q 9 (.f 10 (.done) .e))) .e) .e))))))) else none) }
def btree_parse.W (b : ByteArray) (h : Hp) (Q : Value → Hp → Prop) : Prop :=
  (bif true && Nat.blt 0 b.size then (∀ (k1 : Nat), ((h k1 = none) → (∃ n2, ((h.upd k1 (.cells (setL [.int .i64 0, .int .i64 0, .slice none 0 0] 0 [.int .i64 (IntKind.i64.wrap (byteAt b 0))]).toArray 69 (0, 0))).cell k1 0 = some (.int .i64 n2)) ∧ bif hb (n2 != 1) then (∃ n3, ((h.upd k1 (.cells (setL [.int .i64 0, .int .i64 0, .slice none 0 0] 0 [.int .i64 (IntKind.i64.wrap (byteAt b 0))]).toArray 69 (0, 0))).cell k1 0 = some (.int .i64 n3)) ∧ bif hb (n3 != 2) then (Q (.tuple #[.pointer none, .bool false]) (h.upd k1 (.cells #[.int .i64 (IntKind.i64.wrap (byteAt b 0)), .int .i64 0, .slice none 0 0] 69 (0, 0)))) else (∃ (J4 : Int → Hp → Prop), (∀ (n5 : Int), ∀ (x6 : Hp), (J4 n5 x6) → (CallsH Tryd.prog 80 (#[.string b, .int .i64 1]) (x6) (fun v7 h8 => ∃ n9, (v7 = .int .i64 n9) ∧ ∃ (J10 : Int → Int → Hp → Nat → Prop), (∃ k11, J10 n5 0 h8 k11) ∧ ∀ (n12 : Int), ∀ (n13 : Int), ∀ (x14 : Hp), ∀ (k15 : Nat), (J10 n12 n13 x14 k15) → (bif hb (decide (n13 < n9)) then (bif hb (decide (IntKind.i64.wrap (n12 + 3) > Int.ofNat b.size)) then (Q (.tuple #[.pointer none, .bool false]) x14) else ((0 ≤ n12) ∧ (n12 < Int.ofNat b.size) ∧ CallsH Tryd.prog 80 (#[.string b, .int .i64 (IntKind.i64.wrap (n12 + 1))]) (x14) (fun v16 h17 => ∃ n18, (v16 = .int .i64 n18) ∧ ∃ (J19 : Int → ByteArray → ByteArray → Int → Hp → Prop), (∀ (n20 : Int), ∀ (s21 : ByteArray), ∀ (s22 : ByteArray), ∀ (n23 : Int), ∀ (x24 : Hp), (J19 n20 s21 s22 n23 x24) → (bif hb (decide (IntKind.i64.wrap (IntKind.i64.wrap (byteAt b n12.toNat) + n20) > IntKind.i64.wrap (Int.ofNat b.size - IntKind.i64.wrap (n12 + 3)))) then (Q (.tuple #[.pointer none, .bool false]) x24) else ((0 ≤ IntKind.i64.wrap (IntKind.i64.wrap (n12 + 3) + IntKind.i64.wrap (byteAt b n12.toNat))) ∧ (IntKind.i64.wrap (IntKind.i64.wrap (n12 + 3) + IntKind.i64.wrap (byteAt b n12.toNat)) ≤ Int.ofNat b.size) ∧ (0 ≤ IntKind.i64.wrap (n12 + 3)) ∧ (IntKind.i64.wrap (n12 + 3) ≤ Int.ofNat (IntKind.i64.wrap (IntKind.i64.wrap (n12 + 3) + IntKind.i64.wrap (byteAt b n12.toNat))).toNat) ∧ (0 ≤ IntKind.i64.wrap (IntKind.i64.wrap (IntKind.i64.wrap (n12 + 3) + IntKind.i64.wrap (byteAt b n12.toNat)) + n20)) ∧ (IntKind.i64.wrap (IntKind.i64.wrap (IntKind.i64.wrap (n12 + 3) + IntKind.i64.wrap (byteAt b n12.toNat)) + n20) ≤ Int.ofNat b.size) ∧ (0 ≤ IntKind.i64.wrap (IntKind.i64.wrap (n12 + 3) + IntKind.i64.wrap (byteAt b n12.toNat))) ∧ (IntKind.i64.wrap (IntKind.i64.wrap (n12 + 3) + IntKind.i64.wrap (byteAt b n12.toNat)) ≤ Int.ofNat (IntKind.i64.wrap (IntKind.i64.wrap (IntKind.i64.wrap (n12 + 3) + IntKind.i64.wrap (byteAt b n12.toNat)) + n20)).toNat) ∧ CallsH Tryd.prog 30 (#[.string (b.extract (IntKind.i64.wrap (n12 + 3)).toNat (IntKind.i64.wrap (IntKind.i64.wrap (n12 + 3) + IntKind.i64.wrap (byteAt b n12.toNat))).toNat), .string (b.extract (IntKind.i64.wrap (IntKind.i64.wrap (n12 + 3) + IntKind.i64.wrap (byteAt b n12.toNat))).toNat (IntKind.i64.wrap (IntKind.i64.wrap (IntKind.i64.wrap (n12 + 3) + IntKind.i64.wrap (byteAt b n12.toNat)) + n20)).toNat)]) (x24) (fun v25 h26 => ∃ b27, (v25 = .bool b27) ∧ bif !b27 then (Q (.tuple #[.pointer none, .bool false]) h26) else (∃ a28, ∃ k29, ∃ k30, (h26.cell k1 2 = some (.slice a28 k29 k30)) ∧ ∀ (k31 : Nat), (h26 k31 = none) → ((Gx.Sub h26 (h26.upd k31 (.cells #[.string (b.extract (IntKind.i64.wrap (n12 + 3)).toNat (IntKind.i64.wrap (IntKind.i64.wrap (n12 + 3) + IntKind.i64.wrap (byteAt b n12.toNat))).toNat), .string (b.extract (IntKind.i64.wrap (IntKind.i64.wrap (n12 + 3) + IntKind.i64.wrap (byteAt b n12.toNat))).toNat (IntKind.i64.wrap (IntKind.i64.wrap (IntKind.i64.wrap (n12 + 3) + IntKind.i64.wrap (byteAt b n12.toNat)) + n20)).toNat), .int .i64 n23] 77 (0, 0)))) ∧ ∃ (xs32 : List Value), (SliceAt (h26.upd k31 (.cells #[.string (b.extract (IntKind.i64.wrap (n12 + 3)).toNat (IntKind.i64.wrap (IntKind.i64.wrap (n12 + 3) + IntKind.i64.wrap (byteAt b n12.toNat))).toNat), .string (b.extract (IntKind.i64.wrap (IntKind.i64.wrap (n12 + 3) + IntKind.i64.wrap (byteAt b n12.toNat))).toNat (IntKind.i64.wrap (IntKind.i64.wrap (IntKind.i64.wrap (n12 + 3) + IntKind.i64.wrap (byteAt b n12.toNat)) + n20)).toNat), .int .i64 n23] 77 (0, 0))) (some ⟨k31, 0, none⟩) (3) (xs32)) ∧ ∃ (J33 : Option Addr → Nat → Hp → Prop), (∀ (a34 : Option Addr), ∀ (k35 : Nat), ∀ (x36 : Hp), (J33 a34 k35 x36) → ((StoreOk x36 k1 2 1) ∧ ∃ k37, (k37 < k15) ∧ J10 (IntKind.i64.wrap (IntKind.i64.wrap (n12 + 3) + IntKind.i64.wrap (IntKind.i64.wrap (byteAt b n12.toNat) + n20))) (IntKind.i64.wrap (n13 + 1)) (x36.put k1 2 [.slice a34 (k29 + 1) k35]) k37)) ∧ appendC Tryd.prog 77 a28 k29 k30 (h26.upd k31 (.cells #[.string (b.extract (IntKind.i64.wrap (n12 + 3)).toNat (IntKind.i64.wrap (IntKind.i64.wrap (n12 + 3) + IntKind.i64.wrap (byteAt b n12.toNat))).toNat), .string (b.extract (IntKind.i64.wrap (IntKind.i64.wrap (n12 + 3) + IntKind.i64.wrap (byteAt b n12.toNat))).toNat (IntKind.i64.wrap (IntKind.i64.wrap (IntKind.i64.wrap (n12 + 3) + IntKind.i64.wrap (byteAt b n12.toNat)) + n20)).toNat), .int .i64 n23] 77 (0, 0))) xs32 1 J33)))))) ∧ ∃ n38, (h17.cell k1 0 = some (.int .i64 n38)) ∧ bif hb (n38 == 1) then (J19 n18 (bytesL []) (bytesL []) 0 h17) else (J19 0 (bytesL []) (bytesL []) n18 h17)))) else ((0 ≤ n12) ∧ (n12 ≤ Int.ofNat b.size) ∧ CallsH Tryd.prog 81 (#[.string (b.extract n12.toNat b.size), .string (bytesL [0])]) (x14) (fun v39 h40 => ∃ s41, (v39 = .string s41) ∧ Q (.tuple #[.pointer (some ⟨k1, 0, none⟩), .bool (beqS s41 (bytesL []))]) h40)))))) ∧ ∃ n42, ((h.upd k1 (.cells (setL [.int .i64 0, .int .i64 0, .slice none 0 0] 0 [.int .i64 (IntKind.i64.wrap (byteAt b 0))]).toArray 69 (0, 0))).cell k1 0 = some (.int .i64 n42)) ∧ bif hb (n42 == 2) then (CallsH Tryd.prog 80 (#[.string b, .int .i64 3]) (h.upd k1 (.cells #[.int .i64 (IntKind.i64.wrap (byteAt b 0)), .int .i64 0, .slice none 0 0] 69 (0, 0))) (fun v43 h44 => ∃ n45, (v43 = .int .i64 n45) ∧ (StoreOk h44 k1 1 1) ∧ J4 (IntKind.i64.wrap (Int.ofNat 3 + 2)) (h44.put k1 1 [.int .i64 n45]))) else (J4 3 (h.upd k1 (.cells #[.int .i64 (IntKind.i64.wrap (byteAt b 0)), .int .i64 0, .slice none 0 0] 69 (0, 0)))))) else (∃ (J46 : Int → Hp → Prop), (∀ (n47 : Int), ∀ (x48 : Hp), (J46 n47 x48) → (CallsH Tryd.prog 80 (#[.string b, .int .i64 1]) (x48) (fun v49 h50 => ∃ n51, (v49 = .int .i64 n51) ∧ ∃ (J52 : Int → Int → Hp → Nat → Prop), (∃ k53, J52 n47 0 h50 k53) ∧ ∀ (n54 : Int), ∀ (n55 : Int), ∀ (x56 : Hp), ∀ (k57 : Nat), (J52 n54 n55 x56 k57) → (bif hb (decide (n55 < n51)) then (bif hb (decide (IntKind.i64.wrap (n54 + 3) > Int.ofNat b.size)) then (Q (.tuple #[.pointer none, .bool false]) x56) else ((0 ≤ n54) ∧ (n54 < Int.ofNat b.size) ∧ CallsH Tryd.prog 80 (#[.string b, .int .i64 (IntKind.i64.wrap (n54 + 1))]) (x56) (fun v58 h59 => ∃ n60, (v58 = .int .i64 n60) ∧ ∃ (J61 : Int → ByteArray → ByteArray → Int → Hp → Prop), (∀ (n62 : Int), ∀ (s63 : ByteArray), ∀ (s64 : ByteArray), ∀ (n65 : Int), ∀ (x66 : Hp), (J61 n62 s63 s64 n65 x66) → (bif hb (decide (IntKind.i64.wrap (IntKind.i64.wrap (byteAt b n54.toNat) + n62) > IntKind.i64.wrap (Int.ofNat b.size - IntKind.i64.wrap (n54 + 3)))) then (Q (.tuple #[.pointer none, .bool false]) x66) else ((0 ≤ IntKind.i64.wrap (IntKind.i64.wrap (n54 + 3) + IntKind.i64.wrap (byteAt b n54.toNat))) ∧ (IntKind.i64.wrap (IntKind.i64.wrap (n54 + 3) + IntKind.i64.wrap (byteAt b n54.toNat)) ≤ Int.ofNat b.size) ∧ (0 ≤ IntKind.i64.wrap (n54 + 3)) ∧ (IntKind.i64.wrap (n54 + 3) ≤ Int.ofNat (IntKind.i64.wrap (IntKind.i64.wrap (n54 + 3) + IntKind.i64.wrap (byteAt b n54.toNat))).toNat) ∧ (0 ≤ IntKind.i64.wrap (IntKind.i64.wrap (IntKind.i64.wrap (n54 + 3) + IntKind.i64.wrap (byteAt b n54.toNat)) + n62)) ∧ (IntKind.i64.wrap (IntKind.i64.wrap (IntKind.i64.wrap (n54 + 3) + IntKind.i64.wrap (byteAt b n54.toNat)) + n62) ≤ Int.ofNat b.size) ∧ (0 ≤ IntKind.i64.wrap (IntKind.i64.wrap (n54 + 3) + IntKind.i64.wrap (byteAt b n54.toNat))) ∧ (IntKind.i64.wrap (IntKind.i64.wrap (n54 + 3) + IntKind.i64.wrap (byteAt b n54.toNat)) ≤ Int.ofNat (IntKind.i64.wrap (IntKind.i64.wrap (IntKind.i64.wrap (n54 + 3) + IntKind.i64.wrap (byteAt b n54.toNat)) + n62)).toNat) ∧ CallsH Tryd.prog 30 (#[.string (b.extract (IntKind.i64.wrap (n54 + 3)).toNat (IntKind.i64.wrap (IntKind.i64.wrap (n54 + 3) + IntKind.i64.wrap (byteAt b n54.toNat))).toNat), .string (b.extract (IntKind.i64.wrap (IntKind.i64.wrap (n54 + 3) + IntKind.i64.wrap (byteAt b n54.toNat))).toNat (IntKind.i64.wrap (IntKind.i64.wrap (IntKind.i64.wrap (n54 + 3) + IntKind.i64.wrap (byteAt b n54.toNat)) + n62)).toNat)]) (x66) (fun v67 h68 => ∃ b69, (v67 = .bool b69) ∧ bif !b69 then (Q (.tuple #[.pointer none, .bool false]) h68) else (∃ a70, ∃ k71, ∃ k72, (h68.cell k1 2 = some (.slice a70 k71 k72)) ∧ ∀ (k73 : Nat), (h68 k73 = none) → ((Gx.Sub h68 (h68.upd k73 (.cells #[.string (b.extract (IntKind.i64.wrap (n54 + 3)).toNat (IntKind.i64.wrap (IntKind.i64.wrap (n54 + 3) + IntKind.i64.wrap (byteAt b n54.toNat))).toNat), .string (b.extract (IntKind.i64.wrap (IntKind.i64.wrap (n54 + 3) + IntKind.i64.wrap (byteAt b n54.toNat))).toNat (IntKind.i64.wrap (IntKind.i64.wrap (IntKind.i64.wrap (n54 + 3) + IntKind.i64.wrap (byteAt b n54.toNat)) + n62)).toNat), .int .i64 n65] 77 (0, 0)))) ∧ ∃ (xs74 : List Value), (SliceAt (h68.upd k73 (.cells #[.string (b.extract (IntKind.i64.wrap (n54 + 3)).toNat (IntKind.i64.wrap (IntKind.i64.wrap (n54 + 3) + IntKind.i64.wrap (byteAt b n54.toNat))).toNat), .string (b.extract (IntKind.i64.wrap (IntKind.i64.wrap (n54 + 3) + IntKind.i64.wrap (byteAt b n54.toNat))).toNat (IntKind.i64.wrap (IntKind.i64.wrap (IntKind.i64.wrap (n54 + 3) + IntKind.i64.wrap (byteAt b n54.toNat)) + n62)).toNat), .int .i64 n65] 77 (0, 0))) (some ⟨k73, 0, none⟩) (3) (xs74)) ∧ ∃ (J75 : Option Addr → Nat → Hp → Prop), (∀ (a76 : Option Addr), ∀ (k77 : Nat), ∀ (x78 : Hp), (J75 a76 k77 x78) → ((StoreOk x78 k1 2 1) ∧ ∃ k79, (k79 < k57) ∧ J52 (IntKind.i64.wrap (IntKind.i64.wrap (n54 + 3) + IntKind.i64.wrap (IntKind.i64.wrap (byteAt b n54.toNat) + n62))) (IntKind.i64.wrap (n55 + 1)) (x78.put k1 2 [.slice a76 (k71 + 1) k77]) k79)) ∧ appendC Tryd.prog 77 a70 k71 k72 (h68.upd k73 (.cells #[.string (b.extract (IntKind.i64.wrap (n54 + 3)).toNat (IntKind.i64.wrap (IntKind.i64.wrap (n54 + 3) + IntKind.i64.wrap (byteAt b n54.toNat))).toNat), .string (b.extract (IntKind.i64.wrap (IntKind.i64.wrap (n54 + 3) + IntKind.i64.wrap (byteAt b n54.toNat))).toNat (IntKind.i64.wrap (IntKind.i64.wrap (IntKind.i64.wrap (n54 + 3) + IntKind.i64.wrap (byteAt b n54.toNat)) + n62)).toNat), .int .i64 n65] 77 (0, 0))) xs74 1 J75)))))) ∧ ∃ n80, (h59.cell k1 0 = some (.int .i64 n80)) ∧ bif hb (n80 == 1) then (J61 n60 (bytesL []) (bytesL []) 0 h59) else (J61 0 (bytesL []) (bytesL []) n60 h59)))) else ((0 ≤ n54) ∧ (n54 ≤ Int.ofNat b.size) ∧ CallsH Tryd.prog 81 (#[.string (b.extract n54.toNat b.size), .string (bytesL [0])]) (x56) (fun v81 h82 => ∃ s83, (v81 = .string s83) ∧ Q (.tuple #[.pointer (some ⟨k1, 0, none⟩), .bool (beqS s83 (bytesL []))]) h82)))))) ∧ ∃ n84, ((h.upd k1 (.cells (setL [.int .i64 0, .int .i64 0, .slice none 0 0] 0 [.int .i64 (IntKind.i64.wrap (byteAt b 0))]).toArray 69 (0, 0))).cell k1 0 = some (.int .i64 n84)) ∧ bif hb (n84 == 2) then (CallsH Tryd.prog 80 (#[.string b, .int .i64 3]) (h.upd k1 (.cells #[.int .i64 (IntKind.i64.wrap (byteAt b 0)), .int .i64 0, .slice none 0 0] 69 (0, 0))) (fun v85 h86 => ∃ n87, (v85 = .int .i64 n87) ∧ (StoreOk h86 k1 1 1) ∧ J46 (IntKind.i64.wrap (Int.ofNat 3 + 2)) (h86.put k1 1 [.int .i64 n87]))) else (J46 3 (h.upd k1 (.cells #[.int .i64 (IntKind.i64.wrap (byteAt b 0)), .int .i64 0, .slice none 0 0] 69 (0, 0)))))))) else False)
theorem btree_parse.calls (b : ByteArray) {h : Hp} {Q : Value → Hp → Prop} (hW : btree_parse.W b h Q) : CallsH Tryd.prog 63 #[.string b] h Q := by
  have hE_ : bodyW Tryd.prog btree_parse.H Tryd.f63 [.val (.string b)] h Q = btree_parse.W b h Q := by kernel_rfl
  rw [← hE_] at hW
  exact calls_of_body (H := btree_parse.H) (args := [.val (.string b)]) Tryd.func63 Tryd.ntmps63 rfl rfl hW

def btree_node_place_1.H : Hints := { N := 15, loc := (fun _ => false), join := (fun _ => none), loop := (fun _ => none), ifc := 0, order := (fun i => bif Nat.beq i 1 then some (none, false, [0, 1, 2, 3, 4, 5, 6, 7, 8, 9, 10], .q 0 (.q 1 (.q 2 (.q 3 (.q 4 (.q 5 (.q 6 (.q 7 (.q 8 (.q 9 (.q 10 .done))))))))))) else none) }
def btree_node_place_1.W (i : Int) (p11_b p11_o : Nat) (p22_b p22_o : Nat) (h : Hp) (Q : Value → Hp → Prop) : Prop :=
  (∃ a1, (h.cell p11_b p11_o = some (.pointer a1)) ∧ ∃ k2, ∃ k3, (a1 = some ⟨k2, k3, none⟩) ∧ ∃ a4, ∃ k5, ∃ k6, (h.cell k2 (k3 + 2) = some (.slice a4 k5 k6)) ∧ (0 ≤ i) ∧ (i < Int.ofNat k5) ∧ ∃ k7, ∃ k8, (a4 = some ⟨k7, k8, none⟩) ∧ ∃ s9, (h.cell k7 (k8 + i.toNat * 3) = some (.string s9)) ∧ ∃ s10, (h.cell p22_b p22_o = some (.string s10)) ∧ Q (.bool !bltS s9 s10) h)
theorem btree_node_place_1.calls (i : Int) (p11_b p11_o : Nat) (p22_b p22_o : Nat) {h : Hp} {Q : Value → Hp → Prop} (hW : btree_node_place_1.W i p11_b p11_o p22_b p22_o h Q) : CallsH Tryd.prog 78 #[.int .i64 i, .pointer (some ⟨p11_b, p11_o, none⟩), .pointer (some ⟨p22_b, p22_o, none⟩)] h Q := by
  have hE_ : bodyW Tryd.prog btree_node_place_1.H Tryd.f78 [.val (.int .i64 i), .ptr p11_b p11_o, .ptr p22_b p22_o] h Q = btree_node_place_1.W i p11_b p11_o p22_b p22_o h Q := by kernel_rfl
  rw [← hE_] at hW
  exact calls_of_body (H := btree_node_place_1.H) (args := [.val (.int .i64 i), .ptr p11_b p11_o, .ptr p22_b p22_o]) Tryd.func78 Tryd.ntmps78 rfl rfl hW

def btree_node_below_1.H : Hints := { N := 15, loc := (fun _ => false), join := (fun _ => none), loop := (fun _ => none), ifc := 0, order := (fun i => bif Nat.beq i 1 then some (none, false, [0, 1, 2, 3, 4, 5, 6, 7, 8, 9, 10], .q 0 (.q 1 (.q 2 (.q 3 (.q 4 (.q 5 (.q 6 (.q 7 (.q 8 (.q 9 (.q 10 .done))))))))))) else none) }
def btree_node_below_1.W (i : Int) (p11_b p11_o : Nat) (p22_b p22_o : Nat) (h : Hp) (Q : Value → Hp → Prop) : Prop :=
  (∃ a1, (h.cell p11_b p11_o = some (.pointer a1)) ∧ ∃ k2, ∃ k3, (a1 = some ⟨k2, k3, none⟩) ∧ ∃ a4, ∃ k5, ∃ k6, (h.cell k2 (k3 + 2) = some (.slice a4 k5 k6)) ∧ (0 ≤ i) ∧ (i < Int.ofNat k5) ∧ ∃ k7, ∃ k8, (a4 = some ⟨k7, k8, none⟩) ∧ ∃ s9, (h.cell k7 (k8 + i.toNat * 3) = some (.string s9)) ∧ ∃ s10, (h.cell p22_b p22_o = some (.string s10)) ∧ Q (.bool !(bltS s9 s10 || beqS s9 s10)) h)
theorem btree_node_below_1.calls (i : Int) (p11_b p11_o : Nat) (p22_b p22_o : Nat) {h : Hp} {Q : Value → Hp → Prop} (hW : btree_node_below_1.W i p11_b p11_o p22_b p22_o h Q) : CallsH Tryd.prog 79 #[.int .i64 i, .pointer (some ⟨p11_b, p11_o, none⟩), .pointer (some ⟨p22_b, p22_o, none⟩)] h Q := by
  have hE_ : bodyW Tryd.prog btree_node_below_1.H Tryd.f79 [.val (.int .i64 i), .ptr p11_b p11_o, .ptr p22_b p22_o] h Q = btree_node_below_1.W i p11_b p11_o p22_b p22_o h Q := by kernel_rfl
  rw [← hE_] at hW
  exact calls_of_body (H := btree_node_below_1.H) (args := [.val (.int .i64 i), .ptr p11_b p11_o, .ptr p22_b p22_o]) Tryd.func79 Tryd.ntmps79 rfl rfl hW

def btree_node_bytes.H : Hints := { N := 90, loc := (fun i => Nat.beq i 5 || false), join := (fun i => bif Nat.beq i 4 then some [.slot 3 (.slice)] else bif Nat.beq i 10 then some [.slot 6 (.int .i64)] else none), loop := (fun i => bif Nat.beq i 5 then some [.slot 3 (.slice), .slot 50 (.int .i64)] else none), ifc := 0, order := (fun i => bif Nat.beq i 1 then some (some 18, false, [0, 1, 2, 3, 4, 5, 6, 7, 8, 9, 10, 11, 12, 13, 14, 15, 16, 17, 18, 19], .q 0 (.q 1 (.q 2 (.q 3 (.q 4 (.q 5 (.q 6 (.q 7 (.q 8 (.q 9 (.q 10 (.q 11 (.q 12 (.q 13 (.q 14 (.q 15 (.q 16 (.q 17 (.f 18 (.q 19 .done) .e))))))))))))))))))) else bif Nat.beq i 3 then some (some 12, false, [0, 1, 2, 3, 4, 5, 6, 7, 8, 9, 10, 11, 12, 13, 14], .q 0 (.q 1 (.q 2 (.q 3 (.q 4 (.q 5 (.q 6 (.q 7 (.q 8 (.q 9 (.q 10 (.q 11 (.f 12 (.f 13 (.q 14 .done) .e) .e))))))))))))) else bif Nat.beq i 11 then some (some 6, true, [0, 1, 2, 4, 5, 3, 6, 7], .q 0 (.q 1 (.q 2 (.q 4 (.q 5 (.f 3 (.f 6 (.q 7 .done) .e) .e)))))) else none) }
def btree_node_bytes.W (n_b n_o : Nat) (h : Hp) (Q : Value → Hp → Prop) : Prop :=
  (∃ n1, (h.cell n_b n_o = some (.int .i64 n1)) ∧ ∃ a2, ∃ k3, ∃ k4, (h.cell n_b (n_o + 2) = some (.slice a2 k3 k4)) ∧ (Int.ofNat 0 ≤ 8) ∧ ∃ a5, ∃ k6, ∃ k7, (h.cell n_b (n_o + 2) = some (.slice a5 k6 k7)) ∧ ∀ (k8 : Nat), (h k8 = none) → (∃ (J9 : Option Addr → Nat → Nat → Hp → Prop), (∀ (a10 : Option Addr), ∀ (k11 : Nat), ∀ (k12 : Nat), ∀ (x13 : Hp), (J9 a10 k11 k12 x13) → (∃ a14, ∃ k15, ∃ k16, (x13.cell n_b (n_o + 2) = some (.slice a14 k15 k16)) ∧ ∃ (J17 : Option Addr → Nat → Nat → Int → Hp → Nat → Prop), (∃ k18, J17 a10 k11 k12 0 x13 k18) ∧ ∀ (a19 : Option Addr), ∀ (k20 : Nat), ∀ (k21 : Nat), ∀ (n22 : Int), ∀ (x23 : Hp), ∀ (k24 : Nat), (J17 a19 k20 k21 n22 x23 k24) → (bif hb (decide (n22 < Int.ofNat k15)) then ((0 ≤ n22) ∧ (n22 < Int.ofNat k15) ∧ ∃ k25, ∃ k26, (a14 = some ⟨k25, k26, none⟩) ∧ ∃ s27, (x23.cell k25 (k26 + n22.toNat * 3) = some (.string s27)) ∧ ∃ s28, (x23.cell k25 (k26 + n22.toNat * 3 + 1) = some (.string s28)) ∧ ∃ n29, (x23.cell k25 (k26 + n22.toNat * 3 + 1 + 1) = some (.int .i64 n29)) ∧ ∃ (J30 : Int → Hp → Prop), (∀ (n31 : Int), ∀ (x32 : Hp), (J30 n31 x32) → ((Int.ofNat 0 ≤ 8) ∧ ∀ (k33 : Nat), (x32 k33 = none) → (∃ (xs34 : List Value), (SliceAt (x32.upd k33 (.cells #[.int .u8 (IntKind.u8.wrap (Int.ofNat s27.size)), .int .u8 (IntKind.u8.wrap (ishr IntKind.i64 n31 8)), .int .u8 (IntKind.u8.wrap n31)] 5 (0, 0))) (some ⟨k33, 0, none⟩) (3) (xs34)) ∧ ∃ (J35 : Option Addr → Nat → Hp → Prop), (∀ (a36 : Option Addr), ∀ (k37 : Nat), ∀ (x38 : Hp), (J35 a36 k37 x38) → (∃ (J39 : Hp), (Gx.Sub J39 x38) ∧ ∃ (J40 : Option Addr → Nat → Hp → Prop), (∀ (a41 : Option Addr), ∀ (k42 : Nat), ∀ (x43 : Hp), (J40 a41 k42 x43) → ((Gx.Sub J39 x43) ∧ ∃ (J44 : Option Addr → Nat → Hp → Prop), (∀ (a45 : Option Addr), ∀ (k46 : Nat), ∀ (x47 : Hp), (J44 a45 k46 x47) → (∃ k48, (k48 < k24) ∧ J17 a45 (k20 + 3 + s27.size + s28.size) k46 (IntKind.i64.wrap (n22 + 1)) x47 k48)) ∧ appendC Tryd.prog 5 a41 (k20 + 3 + s27.size) k42 x43 (bytesV s28) s28.size J44)) ∧ appendC Tryd.prog 5 a36 (k20 + 3) k37 x38 (bytesV s27) s27.size J40)) ∧ appendC Tryd.prog 5 a19 k20 k21 (x32.upd k33 (.cells #[.int .u8 (IntKind.u8.wrap (Int.ofNat s27.size)), .int .u8 (IntKind.u8.wrap (ishr IntKind.i64 n31 8)), .int .u8 (IntKind.u8.wrap n31)] 5 (0, 0))) xs34 3 J35))) ∧ ∃ n49, (x23.cell n_b n_o = some (.int .i64 n49)) ∧ bif hb (n49 == 1) then (J30 (Int.ofNat s28.size) x23) else (J30 n29 x23)) else ((0 ≤ IntKind.i64.wrap (IntKind.i64.wrap (1024 - Int.ofNat k20))) ∧ (IntKind.i64.wrap (IntKind.i64.wrap (1024 - Int.ofNat k20)) * 1 ≤ 281474976710656) ∧ ∃ (J50 : Option Addr → Nat → Hp → Prop), (∀ (a51 : Option Addr), ∀ (k52 : Nat), ∀ (x53 : Hp), (J50 a51 k52 x53) → (∃ s54, (SliceAt (x53) (a51) (k20 + (IntKind.i64.wrap (IntKind.i64.wrap (1024 - Int.ofNat k20))).toNat) (bytesV s54)) ∧ Q (.string s54) x53)) ∧ appendC Tryd.prog 5 a19 k20 k21 x23 (repV (IntKind.i64.wrap (IntKind.i64.wrap (1024 - Int.ofNat k20))).toNat [.int .u8 0]) (IntKind.i64.wrap (IntKind.i64.wrap (1024 - Int.ofNat k20))).toNat J50)))) ∧ ∃ n55, ((h.upd k8 (.cells (setL (setL (setL [.int .u8 0, .int .u8 0, .int .u8 0] 0 [.int .u8 (IntKind.u8.wrap n1)]) 1 [.int .u8 (IntKind.u8.wrap (ishr IntKind.i64 (Int.ofNat k3) 8))]) 2 [.int .u8 (IntKind.u8.wrap (Int.ofNat k6))]).toArray 5 (0, 0))).cell n_b n_o = some (.int .i64 n55)) ∧ bif hb (n55 == 2) then (∃ n56, ((h.upd k8 (.cells (setL (setL (setL [.int .u8 0, .int .u8 0, .int .u8 0] 0 [.int .u8 (IntKind.u8.wrap n1)]) 1 [.int .u8 (IntKind.u8.wrap (ishr IntKind.i64 (Int.ofNat k3) 8))]) 2 [.int .u8 (IntKind.u8.wrap (Int.ofNat k6))]).toArray 5 (0, 0))).cell n_b (n_o + 1) = some (.int .i64 n56)) ∧ (Int.ofNat 0 ≤ 8) ∧ ∃ n57, ((h.upd k8 (.cells (setL (setL (setL [.int .u8 0, .int .u8 0, .int .u8 0] 0 [.int .u8 (IntKind.u8.wrap n1)]) 1 [.int .u8 (IntKind.u8.wrap (ishr IntKind.i64 (Int.ofNat k3) 8))]) 2 [.int .u8 (IntKind.u8.wrap (Int.ofNat k6))]).toArray 5 (0, 0))).cell n_b (n_o + 1) = some (.int .i64 n57)) ∧ ∀ (k58 : Nat), (h.upd k8 (.cells (setL (setL (setL [.int .u8 0, .int .u8 0, .int .u8 0] 0 [.int .u8 (IntKind.u8.wrap n1)]) 1 [.int .u8 (IntKind.u8.wrap (ishr IntKind.i64 (Int.ofNat k3) 8))]) 2 [.int .u8 (IntKind.u8.wrap (Int.ofNat k6))]).toArray 5 (0, 0)) k58 = none) → (∃ (xs59 : List Value), (SliceAt ((h.upd k8 (.cells #[.int .u8 (IntKind.u8.wrap n1), .int .u8 (IntKind.u8.wrap (ishr IntKind.i64 (Int.ofNat k3) 8)), .int .u8 (IntKind.u8.wrap (Int.ofNat k6))] 5 (0, 0))).upd k58 (.cells #[.int .u8 (IntKind.u8.wrap (ishr IntKind.i64 n56 8)), .int .u8 (IntKind.u8.wrap n57)] 5 (0, 0))) (some ⟨k58, 0, none⟩) (2) (xs59)) ∧ ∃ (J60 : Option Addr → Nat → Hp → Prop), (∀ (a61 : Option Addr), ∀ (k62 : Nat), ∀ (x63 : Hp), (J60 a61 k62 x63) → (J9 a61 5 k62 x63)) ∧ appendC Tryd.prog 5 (some ⟨k8, 0, none⟩) 3 3 ((h.upd k8 (.cells #[.int .u8 (IntKind.u8.wrap n1), .int .u8 (IntKind.u8.wrap (ishr IntKind.i64 (Int.ofNat k3) 8)), .int .u8 (IntKind.u8.wrap (Int.ofNat k6))] 5 (0, 0))).upd k58 (.cells #[.int .u8 (IntKind.u8.wrap (ishr IntKind.i64 n56 8)), .int .u8 (IntKind.u8.wrap n57)] 5 (0, 0))) xs59 2 J60)) else (J9 (some ⟨k8, 0, none⟩) 3 3 (h.upd k8 (.cells #[.int .u8 (IntKind.u8.wrap n1), .int .u8 (IntKind.u8.wrap (ishr IntKind.i64 (Int.ofNat k3) 8)), .int .u8 (IntKind.u8.wrap (Int.ofNat k6))] 5 (0, 0))))))
theorem btree_node_bytes.calls (n_b n_o : Nat) {h : Hp} {Q : Value → Hp → Prop} (hW : btree_node_bytes.W n_b n_o h Q) : CallsH Tryd.prog 67 #[.pointer (some ⟨n_b, n_o, none⟩)] h Q := by
  have hE_ : bodyW Tryd.prog btree_node_bytes.H Tryd.f67 [.ptr n_b n_o] h Q = btree_node_bytes.W n_b n_o h Q := by kernel_rfl
  rw [← hE_] at hW
  exact calls_of_body (H := btree_node_bytes.H) (args := [.ptr n_b n_o]) Tryd.func67 Tryd.ntmps67 rfl rfl hW

def btree_node_put.H : Hints := { N := 26, loc := (fun i => Nat.beq i 5 || false), join := (fun _ => none), loop := (fun _ => none), ifc := 0, order := (fun i => bif Nat.beq i 1 then some (some 17, false, [0, 1, 2, 3, 4, 5, 6, 7, 8, 11, 12, 13, 14, 15, 16, 9, 10, 17, 18, 19, 20], .q 0 (.q 1 (.q 2 (.q 3 (.q 4 (.q 5 (.q 6 (.q 7 (.q 8 (.q 11 (.q 12 (.q 13 (.q 14 (.q 15 (.q 16 (.f 9 (.f 10 (.f 17 (.q 18 (.q 19 (.f 20 (.done) .e))) .e) .e) .e)))))))))))))))) else none) }
def btree_node_put.W (n_b n_o : Nat) (i : Int) (x_0 : ByteArray) (x_1 : ByteArray) (x_2 : Int) (h : Hp) (Q : Value → Hp → Prop) : Prop :=
  (∃ a1, ∃ k2, ∃ k3, (h.cell n_b (n_o + 2) = some (.slice a1 k2 k3)) ∧ (0 ≤ i) ∧ (i ≤ Int.ofNat k3) ∧ (0 ≤ i) ∧ (i ≤ Int.ofNat i.toNat) ∧ ∃ a4, ∃ k5, ∃ k6, (h.cell n_b (n_o + 2) = some (.slice a4 k5 k6)) ∧ (0 ≤ i) ∧ (i ≤ Int.ofNat k5) ∧ ∀ (k7 : Nat), (h k7 = none) → ((Gx.Sub h (h.upd k7 (.cells #[.string x_0, .string x_1, .int .i64 x_2] 77 (0, 0)))) ∧ ∃ (xs8 : List Value), (SliceAt (h.upd k7 (.cells #[.string x_0, .string x_1, .int .i64 x_2] 77 (0, 0))) (some ⟨k7, 0, none⟩) (3) (xs8)) ∧ ∃ (J9 : Option Addr → Nat → Hp → Prop), (∀ (a10 : Option Addr), ∀ (k11 : Nat), ∀ (x12 : Hp), (J9 a10 k11 x12) → ((Gx.Sub h x12) ∧ ∃ (xs13 : List Value), (SliceAt (x12) (slA k6 i.toNat 3 a4) ((k5 - i.toNat) * 3) (xs13)) ∧ ∃ (J14 : Option Addr → Nat → Hp → Prop), (∀ (a15 : Option Addr), ∀ (k16 : Nat), ∀ (x17 : Hp), (J14 a15 k16 x17) → ((StoreOk x17 n_b (n_o + 2) 1) ∧ Q (.tuple #[]) (x17.put n_b (n_o + 2) [.slice a15 (i.toNat + 1 + (k5 - i.toNat)) k16]))) ∧ appendC Tryd.prog 77 a10 (i.toNat + 1) k11 x12 xs13 (k5 - i.toNat) J14)) ∧ appendC Tryd.prog 77 (slA i.toNat 0 3 a1) i.toNat i.toNat (h.upd k7 (.cells #[.string x_0, .string x_1, .int .i64 x_2] 77 (0, 0))) xs8 1 J9))
theorem btree_node_put.calls (n_b n_o : Nat) (i : Int) (x_0 : ByteArray) (x_1 : ByteArray) (x_2 : Int) {h : Hp} {Q : Value → Hp → Prop} (hW : btree_node_put.W n_b n_o i x_0 x_1 x_2 h Q) : CallsH Tryd.prog 68 #[.pointer (some ⟨n_b, n_o, none⟩), .int .i64 i, .agg #[.string x_0, .string x_1, .int .i64 x_2]] h Q := by
  have hE_ : bodyW Tryd.prog btree_node_put.H Tryd.f68 [.ptr n_b n_o, .val (.int .i64 i), .val (.agg #[.string x_0, .string x_1, .int .i64 x_2])] h Q = btree_node_put.W n_b n_o i x_0 x_1 x_2 h Q := by kernel_rfl
  rw [← hE_] at hW
  exact calls_of_body (H := btree_node_put.H) (args := [.ptr n_b n_o, .val (.int .i64 i), .val (.agg #[.string x_0, .string x_1, .int .i64 x_2])]) Tryd.func68 Tryd.ntmps68 rfl rfl hW

def btree_node_size.H : Hints := { N := 40, loc := (fun i => Nat.beq i 5 || false), join := (fun i => bif Nat.beq i 4 then some [.slot 3 (.int .i64)] else none), loop := (fun i => bif Nat.beq i 5 then some [.slot 3 (.int .i64), .slot 18 (.int .i64)] else none), ifc := 0, order := (fun _ => none) }
def btree_node_size.W (n_b n_o : Nat) (h : Hp) (Q : Value → Hp → Prop) : Prop :=
  (∃ (J1 : Int → Hp → Prop), (∀ (n2 : Int), ∀ (x3 : Hp), (J1 n2 x3) → (∃ a4, ∃ k5, ∃ k6, (x3.cell n_b (n_o + 2) = some (.slice a4 k5 k6)) ∧ ∃ (J7 : Int → Int → Hp → Nat → Prop), (∃ k8, J7 n2 0 x3 k8) ∧ ∀ (n9 : Int), ∀ (n10 : Int), ∀ (x11 : Hp), ∀ (k12 : Nat), (J7 n9 n10 x11 k12) → (bif hb (decide (n10 < Int.ofNat k5)) then ((0 ≤ n10) ∧ (n10 < Int.ofNat k5) ∧ ∃ k13, ∃ k14, (a4 = some ⟨k13, k14, none⟩) ∧ ∃ s15, (x11.cell k13 (k14 + n10.toNat * 3) = some (.string s15)) ∧ ∃ s16, (x11.cell k13 (k14 + n10.toNat * 3 + 1) = some (.string s16)) ∧ ∃ n17, (x11.cell k13 (k14 + n10.toNat * 3 + 1 + 1) = some (.int .i64 n17)) ∧ ∃ n18, (x11.cell n_b n_o = some (.int .i64 n18)) ∧ bif hb (n18 == 1) then (∃ k19, (k19 < k12) ∧ J7 (IntKind.i64.wrap (IntKind.i64.wrap (n9 + IntKind.i64.wrap (3 + Int.ofNat s15.size)) + Int.ofNat s16.size)) (IntKind.i64.wrap (n10 + 1)) x11 k19) else (∃ k20, (k20 < k12) ∧ J7 (IntKind.i64.wrap (n9 + IntKind.i64.wrap (3 + Int.ofNat s15.size))) (IntKind.i64.wrap (n10 + 1)) x11 k20)) else (Q (.int .i64 n9) x11)))) ∧ ∃ n21, (h.cell n_b n_o = some (.int .i64 n21)) ∧ bif hb (n21 == 2) then (J1 (IntKind.i64.wrap (Int.ofNat 3 + 2)) h) else (J1 3 h))
theorem btree_node_size.calls (n_b n_o : Nat) {h : Hp} {Q : Value → Hp → Prop} (hW : btree_node_size.W n_b n_o h Q) : CallsH Tryd.prog 69 #[.pointer (some ⟨n_b, n_o, none⟩)] h Q := by
  have hE_ : bodyW Tryd.prog btree_node_size.H Tryd.f69 [.ptr n_b n_o] h Q = btree_node_size.W n_b n_o h Q := by kernel_rfl
  rw [← hE_] at hW
  exact calls_of_body (H := btree_node_size.H) (args := [.ptr n_b n_o]) Tryd.func69 Tryd.ntmps69 rfl rfl hW

def btree_Tree_part.H : Hints := { N := 131, loc := (fun _ => false), join := (fun i => bif Nat.beq i 12 then some [.slot 10 (.int .i64)] else bif Nat.beq i 17 then some [] else none), loop := (fun i => bif Nat.beq i 6 then some [.slot 10 (.int .i64)] else none), ifc := 0, order := (fun i => bif Nat.beq i 5 then some (some 9, false, [0, 1, 2, 3, 4, 5, 6, 7, 8, 9, 10], .q 0 (.q 1 (.q 2 (.q 3 (.q 4 (.q 5 (.q 6 (.q 7 (.q 8 (.f 9 (.q 10 .done) .e)))))))))) else bif Nat.beq i 12 then some (some 11, false, [0, 1, 2, 3, 4, 5, 6, 7, 8, 9, 10, 11, 12], .q 0 (.q 1 (.q 2 (.q 3 (.q 4 (.q 5 (.q 6 (.q 7 (.q 8 (.q 9 (.q 10 (.f 11 (.q 12 .done) .e)))))))))))) else none) }
def btree_Tree_part.W (t_b t_o : Nat) (id : Int) (n_b n_o : Nat) (h : Hp) (Q : Value → Hp → Prop) : Prop :=
  (∃ a1, (h.cell t_b t_o = some (.pointer a1)) ∧ CallsH Tryd.prog 31 (#[.pointer a1]) (h) (fun v2 h3 => ∃ n4, ∃ n5, (v2 = .tuple #[.int .i64 n4, .int .i64 n5]) ∧ bif hb (n5 != 0) then (Q (.tuple #[.pointer none, .int .i64 n5]) h3) else (CallsH Tryd.prog 69 (#[.pointer (some ⟨n_b, n_o, none⟩)]) (h3) (fun v6 h7 => ∃ n8, (v6 = .int .i64 n8) ∧ (((2 : Int) = 0) → False) ∧ ∃ n9, (h7.cell n_b n_o = some (.int .i64 n9)) ∧ ∃ n10, (h7.cell n_b (n_o + 1) = some (.int .i64 n10)) ∧ ∀ (k11 : Nat), (h7 k11 = none) → (∃ (J12 : Int → Hp → Nat → Prop), (∃ k13, J12 0 (h7.upd k11 (.cells #[.int .i64 n9, .int .i64 n10, .slice none 0 0] 69 (0, 0))) k13) ∧ ∀ (n14 : Int), ∀ (x15 : Hp), ∀ (k16 : Nat), (J12 n14 x15 k16) → (CallsH Tryd.prog 69 (#[.pointer (some ⟨k11, 0, none⟩)]) (x15) (fun v17 h18 => ∃ n19, (v17 = .int .i64 n19) ∧ bif hb (decide (n19 < IntKind.i64.wrap (n8.tdiv 2))) then (∃ a20, ∃ k21, ∃ k22, (h18.cell n_b (n_o + 2) = some (.slice a20 k21 k22)) ∧ (0 ≤ IntKind.i64.wrap (n14 + 1)) ∧ (IntKind.i64.wrap (n14 + 1) ≤ Int.ofNat k22) ∧ (0 ≤ IntKind.i64.wrap (n14 + 1)) ∧ (IntKind.i64.wrap (n14 + 1) ≤ Int.ofNat (IntKind.i64.wrap (n14 + 1)).toNat) ∧ (StoreOk h18 k11 2 1) ∧ ∃ k23, (k23 < k16) ∧ J12 (IntKind.i64.wrap (n14 + 1)) (h18.put k11 2 [.slice (slA (IntKind.i64.wrap (n14 + 1)).toNat 0 3 a20) (IntKind.i64.wrap (n14 + 1)).toNat (IntKind.i64.wrap (n14 + 1)).toNat]) k23) else (∃ (J24 : Int → Hp → Prop), (∀ (n25 : Int), ∀ (x26 : Hp), (J24 n25 x26) → (∃ n27, (x26.cell n_b n_o = some (.int .i64 n27)) ∧ ∃ a28, ∃ k29, ∃ k30, (x26.cell n_b (n_o + 2) = some (.slice a28 k29 k30)) ∧ (0 ≤ n25) ∧ (n25 ≤ Int.ofNat k29) ∧ ∀ (k31 : Nat), (x26 k31 = none) → (∃ a32, ∃ k33, ∃ k34, ((x26.upd k31 (.cells (setL (setL [.int .i64 0, .int .i64 0, .slice none 0 0] 0 [.int .i64 n27]) 2 [.slice (slA k30 n25.toNat 3 a28) (k29 - n25.toNat) (k30 - n25.toNat)]).toArray 69 (0, 0))).cell k31 2 = some (.slice a32 k33 k34)) ∧ bif true && Nat.blt 0 k33 then (∃ k35, ∃ k36, (a32 = some ⟨k35, k36, none⟩) ∧ ∃ s37, ((x26.upd k31 (.cells (setL (setL [.int .i64 0, .int .i64 0, .slice none 0 0] 0 [.int .i64 n27]) 2 [.slice (slA k30 n25.toNat 3 a28) (k29 - n25.toNat) (k30 - n25.toNat)]).toArray 69 (0, 0))).cell k35 k36 = some (.string s37)) ∧ ∀ (k38 : Nat), (x26.upd k31 (.cells (setL (setL [.int .i64 0, .int .i64 0, .slice none 0 0] 0 [.int .i64 n27]) 2 [.slice (slA k30 n25.toNat 3 a28) (k29 - n25.toNat) (k30 - n25.toNat)]).toArray 69 (0, 0)) k38 = none) → (∃ (J39 : Hp → Prop), (∀ (x40 : Hp), (J39 x40) → (CallsH Tryd.prog 32 (#[.pointer (some ⟨t_b, t_o, none⟩), .int .i64 id, .pointer (some ⟨k11, 0, none⟩)]) (x40) (fun v41 h42 => (v41 = .tuple #[]) ∧ CallsH Tryd.prog 32 (#[.pointer (some ⟨t_b, t_o, none⟩), .int .i64 n4, .pointer (some ⟨k31, 0, none⟩)]) (h42) (fun v43 h44 => (v43 = .tuple #[]) ∧ Q (.tuple #[.pointer (some ⟨k38, 0, none⟩), .int .i64 0]) h44)))) ∧ ∃ n45, (((x26.upd k31 (.cells (setL (setL [.int .i64 0, .int .i64 0, .slice none 0 0] 0 [.int .i64 n27]) 2 [.slice (slA k30 n25.toNat 3 a28) (k29 - n25.toNat) (k30 - n25.toNat)]).toArray 69 (0, 0))).upd k38 (.cells (setL (setL [.string (bytesL []), .string (bytesL []), .int .i64 0] 0 [.string s37]) 2 [.int .i64 n4]).toArray 77 (0, 0))).cell n_b n_o = some (.int .i64 n45)) ∧ bif hb (n45 == 2) then (∃ a46, ∃ k47, ∃ k48, (((x26.upd k31 (.cells (setL (setL [.int .i64 0, .int .i64 0, .slice none 0 0] 0 [.int .i64 n27]) 2 [.slice (slA k30 n25.toNat 3 a28) (k29 - n25.toNat) (k30 - n25.toNat)]).toArray 69 (0, 0))).upd k38 (.cells (setL (setL [.string (bytesL []), .string (bytesL []), .int .i64 0] 0 [.string s37]) 2 [.int .i64 n4]).toArray 77 (0, 0))).cell k31 2 = some (.slice a46 k47 k48)) ∧ bif true && Nat.blt 0 k47 then (∃ k49, ∃ k50, (a46 = some ⟨k49, k50, none⟩) ∧ ∃ n51, (((x26.upd k31 (.cells (setL (setL [.int .i64 0, .int .i64 0, .slice none 0 0] 0 [.int .i64 n27]) 2 [.slice (slA k30 n25.toNat 3 a28) (k29 - n25.toNat) (k30 - n25.toNat)]).toArray 69 (0, 0))).upd k38 (.cells (setL (setL [.string (bytesL []), .string (bytesL []), .int .i64 0] 0 [.string s37]) 2 [.int .i64 n4]).toArray 77 (0, 0))).cell k49 (k50 + 2) = some (.int .i64 n51)) ∧ (StoreOk ((x26.upd k31 (.cells #[.int .i64 n27, .int .i64 0, .slice (slA k30 n25.toNat 3 a28) (k29 - n25.toNat) (k30 - n25.toNat)] 69 (0, 0))).upd k38 (.cells #[.string s37, .string (bytesL []), .int .i64 n4] 77 (0, 0))) k31 1 1) ∧ ∃ a52, ∃ k53, ∃ k54, ((((x26.upd k31 (.cells (setL (setL [.int .i64 0, .int .i64 0, .slice none 0 0] 0 [.int .i64 n27]) 2 [.slice (slA k30 n25.toNat 3 a28) (k29 - n25.toNat) (k30 - n25.toNat)]).toArray 69 (0, 0))).upd k38 (.cells (setL (setL [.string (bytesL []), .string (bytesL []), .int .i64 0] 0 [.string s37]) 2 [.int .i64 n4]).toArray 77 (0, 0))).put k31 1 [.int .i64 n51]).cell k31 2 = some (.slice a52 k53 k54)) ∧ (Int.ofNat 0 ≤ 1) ∧ (1 ≤ Int.ofNat k53) ∧ (StoreOk (((x26.upd k31 (.cells #[.int .i64 n27, .int .i64 0, .slice (slA k30 n25.toNat 3 a28) (k29 - n25.toNat) (k30 - n25.toNat)] 69 (0, 0))).upd k38 (.cells #[.string s37, .string (bytesL []), .int .i64 n4] 77 (0, 0))).put k31 1 [.int .i64 n51]) k31 2 1) ∧ J39 ((((x26.upd k31 (.cells #[.int .i64 n27, .int .i64 0, .slice (slA k30 n25.toNat 3 a28) (k29 - n25.toNat) (k30 - n25.toNat)] 69 (0, 0))).upd k38 (.cells #[.string s37, .string (bytesL []), .int .i64 n4] 77 (0, 0))).put k31 1 [.int .i64 n51]).put k31 2 [.slice (slA k54 (Int.toNat 1) 3 a52) (k53 - Int.toNat 1) (k54 - Int.toNat 1)])) else False) else (J39 ((x26.upd k31 (.cells #[.int .i64 n27, .int .i64 0, .slice (slA k30 n25.toNat 3 a28) (k29 - n25.toNat) (k30 - n25.toNat)] 69 (0, 0))).upd k38 (.cells #[.string s37, .string (bytesL []), .int .i64 n4] 77 (0, 0)))))) else False))) ∧ ∃ n55, (h18.cell n_b n_o = some (.int .i64 n55)) ∧ bif hb (n55 == 1) then (CallsH Tryd.prog 69 (#[.pointer (some ⟨k11, 0, none⟩)]) (h18) (fun v56 h57 => ∃ n58, (v56 = .int .i64 n58) ∧ bif hb (decide (n58 > 1024)) then (∃ a59, ∃ k60, ∃ k61, (h57.cell n_b (n_o + 2) = some (.slice a59 k60 k61)) ∧ (0 ≤ IntKind.i64.wrap (n14 - 1)) ∧ (IntKind.i64.wrap (n14 - 1) ≤ Int.ofNat k61) ∧ (0 ≤ IntKind.i64.wrap (n14 - 1)) ∧ (IntKind.i64.wrap (n14 - 1) ≤ Int.ofNat (IntKind.i64.wrap (n14 - 1)).toNat) ∧ (StoreOk h57 k11 2 1) ∧ J24 (IntKind.i64.wrap (n14 - 1)) (h57.put k11 2 [.slice (slA (IntKind.i64.wrap (n14 - 1)).toNat 0 3 a59) (IntKind.i64.wrap (n14 - 1)).toNat (IntKind.i64.wrap (n14 - 1)).toNat])) else (J24 n14 h57))) else (J24 n14 h18)))))))))
theorem btree_Tree_part.calls (t_b t_o : Nat) (id : Int) (n_b n_o : Nat) {h : Hp} {Q : Value → Hp → Prop} (hW : btree_Tree_part.W t_b t_o id n_b n_o h Q) : CallsH Tryd.prog 70 #[.pointer (some ⟨t_b, t_o, none⟩), .int .i64 id, .pointer (some ⟨n_b, n_o, none⟩)] h Q := by
  have hE_ : bodyW Tryd.prog btree_Tree_part.H Tryd.f70 [.ptr t_b t_o, .val (.int .i64 id), .ptr n_b n_o] h Q = btree_Tree_part.W t_b t_o id n_b n_o h Q := by kernel_rfl
  rw [← hE_] at hW
  exact calls_of_body (H := btree_Tree_part.H) (args := [.ptr t_b t_o, .val (.int .i64 id), .ptr n_b n_o]) Tryd.func70 Tryd.ntmps70 rfl rfl hW

def btree_Tree_join.H : Hints := { N := 149, loc := (fun _ => false), join := (fun i => bif Nat.beq i 10 then some [] else bif Nat.beq i 15 then some [] else none), loop := (fun _ => none), ifc := 0, order := (fun i => bif Nat.beq i 9 then some (some 20, false, [0, 1, 2, 3, 4, 5, 6, 7, 8, 9, 10, 11, 12, 13, 14, 15, 16, 17, 18, 19, 20], .q 0 (.q 1 (.q 2 (.q 3 (.q 4 (.q 5 (.q 6 (.q 7 (.q 8 (.q 9 (.q 10 (.q 11 (.q 12 (.q 13 (.q 14 (.q 15 (.q 16 (.q 17 (.q 18 (.q 19 (.f 20 (.done) .e))))))))))))))))))))) else bif Nat.beq i 10 then some (some 20, false, [0, 1, 2, 3, 4, 5, 6, 7, 8, 9, 10, 11, 12, 13, 14, 15, 16, 17, 18, 19, 20, 21, 22, 23], .q 0 (.q 1 (.q 2 (.q 3 (.q 4 (.q 5 (.q 6 (.q 7 (.q 8 (.q 9 (.q 10 (.q 11 (.q 12 (.q 13 (.q 14 (.q 15 (.q 16 (.q 17 (.q 18 (.q 19 (.f 20 (.q 21 (.q 22 (.f 23 (.done) .e))) .e))))))))))))))))))))) else bif Nat.beq i 16 then some (some 8, false, [0, 1, 2, 3, 4, 5, 6, 7, 8], .q 0 (.q 1 (.q 2 (.q 3 (.q 4 (.q 5 (.q 6 (.f 7 (.f 8 (.done) .e) .e)))))))) else bif Nat.beq i 17 then some (some 17, false, [0, 1, 2, 3, 4, 5, 6, 7, 8, 9, 10, 11, 12, 13, 14, 15, 16, 17, 18, 19, 20], .q 0 (.q 1 (.q 2 (.q 3 (.q 4 (.q 5 (.q 6 (.q 7 (.q 8 (.q 9 (.q 10 (.q 11 (.q 12 (.q 13 (.q 14 (.q 15 (.q 16 (.f 17 (.q 18 (.q 19 (.f 20 (.done) .e))) .e)))))))))))))))))) else none) }
def btree_Tree_join.W (t_b t_o : Nat) (n_b n_o : Nat) (i : Int) (h : Hp) (Q : Value → Hp → Prop) : Prop :=
  (bif hb (decide (i < -1)) then (Q (.bool false) h) else (∃ a1, ∃ k2, ∃ k3, (h.cell n_b (n_o + 2) = some (.slice a1 k2 k3)) ∧ bif hb (decide (IntKind.i64.wrap (i + 1) ≥ Int.ofNat k2)) then (Q (.bool false) h) else (CallsH Tryd.prog 42 (#[.pointer (some ⟨n_b, n_o, none⟩), .int .i64 i]) (h) (fun v4 h5 => ∃ n6, (v4 = .int .i64 n6) ∧ CallsH Tryd.prog 27 (#[.pointer (some ⟨t_b, t_o, none⟩), .int .i64 n6]) (h5) (fun v7 h8 => ∃ a9, ∃ n10, (v7 = .tuple #[.pointer a9, .int .i64 n10]) ∧ CallsH Tryd.prog 42 (#[.pointer (some ⟨n_b, n_o, none⟩), .int .i64 (IntKind.i64.wrap (i + 1))]) (h8) (fun v11 h12 => ∃ n13, (v11 = .int .i64 n13) ∧ CallsH Tryd.prog 27 (#[.pointer (some ⟨t_b, t_o, none⟩), .int .i64 n13]) (h12) (fun v14 h15 => ∃ a16, ∃ n17, (v14 = .tuple #[.pointer a16, .int .i64 n17]) ∧ bif hb (n10 != 0) then (Q (.bool false) h15) else (bif hb (n17 != 0) then (Q (.bool false) h15) else (∃ k18, ∃ k19, (a9 = some ⟨k18, k19, none⟩) ∧ ∃ a20, ∃ k21, ∃ k22, (h15.cell k18 (k19 + 2) = some (.slice a20 k21 k22)) ∧ ∃ (J23 : Hp → Prop), (∀ (x24 : Hp), (J23 x24) → (∃ k25, ∃ k26, (a9 = some ⟨k25, k26, none⟩) ∧ ∃ a27, ∃ k28, ∃ k29, (x24.cell k25 (k26 + 2) = some (.slice a27 k28 k29)) ∧ ∃ k30, ∃ k31, (a9 = some ⟨k30, k31, none⟩) ∧ ∃ a32, ∃ k33, ∃ k34, (x24.cell k30 (k31 + 2) = some (.slice a32 k33 k34)) ∧ ∃ k35, ∃ k36, (a9 = some ⟨k35, k36, none⟩) ∧ ∃ a37, ∃ k38, ∃ k39, (x24.cell k35 (k36 + 2) = some (.slice a37 k38 k39)) ∧ (0 ≤ Int.ofNat k38) ∧ (Int.ofNat k38 ≤ Int.ofNat k29) ∧ (0 ≤ Int.ofNat k33) ∧ (Int.ofNat k33 ≤ Int.ofNat (Int.ofNat k38).toNat) ∧ ∃ k40, ∃ k41, (a16 = some ⟨k40, k41, none⟩) ∧ ∃ a42, ∃ k43, ∃ k44, (x24.cell k40 (k41 + 2) = some (.slice a42 k43 k44)) ∧ ∃ (xs45 : List Value), (SliceAt (x24) (a42) (k43 * 3) (xs45)) ∧ ∃ (J46 : Option Addr → Nat → Hp → Prop), (∀ (a47 : Option Addr), ∀ (k48 : Nat), ∀ (x49 : Hp), (J46 a47 k48 x49) → (∃ k50, ∃ k51, (a9 = some ⟨k50, k51, none⟩) ∧ (StoreOk x49 k50 (k51 + 2) 1) ∧ CallsH Tryd.prog 69 (#[.pointer a9]) (x49.put k50 (k51 + 2) [.slice a47 ((Int.ofNat k33).toNat + k43) k48]) (fun v52 h53 => ∃ n54, (v52 = .int .i64 n54) ∧ bif hb (decide (n54 > 1024)) then (Q (.bool false) h53) else (∃ (J55 : Hp → Prop), (∀ (x56 : Hp), (J55 x56) → (CallsH Tryd.prog 42 (#[.pointer (some ⟨n_b, n_o, none⟩), .int .i64 i]) (x56) (fun v57 h58 => ∃ n59, (v57 = .int .i64 n59) ∧ CallsH Tryd.prog 32 (#[.pointer (some ⟨t_b, t_o, none⟩), .int .i64 n59, .pointer a9]) (h58) (fun v60 h61 => (v60 = .tuple #[]) ∧ ∃ a62, (h61.cell t_b t_o = some (.pointer a62)) ∧ CallsH Tryd.prog 42 (#[.pointer (some ⟨n_b, n_o, none⟩), .int .i64 (IntKind.i64.wrap (i + 1))]) (h61) (fun v63 h64 => ∃ n65, (v63 = .int .i64 n65) ∧ (Gx.Sub h61 h64) ∧ CallsH Tryd.prog 29 (#[.pointer a62, .int .i64 n65]) (h64) (fun v66 h67 => ∃ n68, (v66 = .int .i64 n68) ∧ ∃ a69, ∃ k70, ∃ k71, (h67.cell n_b (n_o + 2) = some (.slice a69 k70 k71)) ∧ (0 ≤ IntKind.i64.wrap (i + 1)) ∧ (IntKind.i64.wrap (i + 1) ≤ Int.ofNat k71) ∧ (0 ≤ IntKind.i64.wrap (i + 1)) ∧ (IntKind.i64.wrap (i + 1) ≤ Int.ofNat (IntKind.i64.wrap (i + 1)).toNat) ∧ ∃ a72, ∃ k73, ∃ k74, (h67.cell n_b (n_o + 2) = some (.slice a72 k73 k74)) ∧ (0 ≤ IntKind.i64.wrap (i + 2)) ∧ (IntKind.i64.wrap (i + 2) ≤ Int.ofNat k73) ∧ ∃ (xs75 : List Value), (SliceAt (h67) (slA k74 (IntKind.i64.wrap (i + 2)).toNat 3 a72) ((k73 - (IntKind.i64.wrap (i + 2)).toNat) * 3) (xs75)) ∧ ∃ (J76 : Option Addr → Nat → Hp → Prop), (∀ (a77 : Option Addr), ∀ (k78 : Nat), ∀ (x79 : Hp), (J76 a77 k78 x79) → ((StoreOk x79 n_b (n_o + 2) 1) ∧ Q (.bool true) (x79.put n_b (n_o + 2) [.slice a77 ((IntKind.i64.wrap (i + 1)).toNat + (k73 - (IntKind.i64.wrap (i + 2)).toNat)) k78]))) ∧ appendC Tryd.prog 77 (slA (IntKind.i64.wrap (i + 1)).toNat 0 3 a69) (IntKind.i64.wrap (i + 1)).toNat (IntKind.i64.wrap (i + 1)).toNat h67 xs75 (k73 - (IntKind.i64.wrap (i + 2)).toNat) J76)))))) ∧ ∃ k80, ∃ k81, (a9 = some ⟨k80, k81, none⟩) ∧ ∃ n82, (h53.cell k80 k81 = some (.int .i64 n82)) ∧ bif hb (n82 == 2) then (CallsH Tryd.prog 61 (#[.pointer (some ⟨t_b, t_o, none⟩), .pointer a9, .int .i64 (IntKind.i64.wrap (Int.ofNat k21 - 1))]) (h53) (fun v83 h84 => ∃ b85, (v83 = .bool b85) ∧ J55 h84)) else (J55 h53))))) ∧ appendC Tryd.prog 77 (slA (Int.ofNat k38).toNat 0 3 a27) (Int.ofNat k33).toNat (Int.ofNat k38).toNat x24 xs45 k43 J46)) ∧ ∃ k86, ∃ k87, (a9 = some ⟨k86, k87, none⟩) ∧ ∃ n88, (h15.cell k86 k87 = some (.int .i64 n88)) ∧ bif hb (n88 == 2) then (∃ k89, ∃ k90, (a9 = some ⟨k89, k90, none⟩) ∧ ∃ a91, ∃ k92, ∃ k93, (h15.cell k89 (k90 + 2) = some (.slice a91 k92 k93)) ∧ ∃ a94, ∃ k95, ∃ k96, (h15.cell n_b (n_o + 2) = some (.slice a94 k95 k96)) ∧ (0 ≤ IntKind.i64.wrap (i + 1)) ∧ (IntKind.i64.wrap (i + 1) < Int.ofNat k95) ∧ ∃ k97, ∃ k98, (a94 = some ⟨k97, k98, none⟩) ∧ ∃ s99, (h15.cell k97 (k98 + (IntKind.i64.wrap (i + 1)).toNat * 3) = some (.string s99)) ∧ ∃ k100, ∃ k101, (a16 = some ⟨k100, k101, none⟩) ∧ ∃ n102, (h15.cell k100 (k101 + 1) = some (.int .i64 n102)) ∧ CallsH Tryd.prog 68 (#[.pointer a9, .int .i64 (Int.ofNat k92), .agg #[.string s99, .string (bytesL []), .int .i64 n102]]) (h15) (fun v103 h104 => (v103 = .tuple #[]) ∧ J23 h104)) else (J23 h15))))))))))
theorem btree_Tree_join.calls (t_b t_o : Nat) (n_b n_o : Nat) (i : Int) {h : Hp} {Q : Value → Hp → Prop} (hW : btree_Tree_join.W t_b t_o n_b n_o i h Q) : CallsH Tryd.prog 61 #[.pointer (some ⟨t_b, t_o, none⟩), .pointer (some ⟨n_b, n_o, none⟩), .int .i64 i] h Q := by
  have hE_ : bodyW Tryd.prog btree_Tree_join.H Tryd.f61 [.ptr t_b t_o, .ptr n_b n_o, .val (.int .i64 i)] h Q = btree_Tree_join.W t_b t_o n_b n_o i h Q := by kernel_rfl
  rw [← hE_] at hW
  exact calls_of_body (H := btree_Tree_join.H) (args := [.ptr t_b t_o, .ptr n_b n_o, .val (.int .i64 i)]) Tryd.func61 Tryd.ntmps61 rfl rfl hW

def btree_two.H : Hints := { N := 16, loc := (fun _ => false), join := (fun _ => none), loop := (fun _ => none), ifc := 0, order := (fun i => bif Nat.beq i 1 then some (none, false, [0, 1, 2, 3, 4, 5, 6, 7, 8, 9, 10, 11], .q 0 (.q 1 (.q 2 (.q 3 (.q 4 (.q 5 (.q 6 (.q 7 (.q 8 (.q 9 (.q 10 (.q 11 .done)))))))))))) else none) }
def btree_two.W (b : ByteArray) (p1 : Int) (h : Hp) (Q : Value → Hp → Prop) : Prop :=
  ((0 ≤ p1) ∧ (p1 < Int.ofNat b.size) ∧ (Int.ofNat 0 ≤ 8) ∧ (0 ≤ IntKind.i64.wrap (p1 + 1)) ∧ (IntKind.i64.wrap (p1 + 1) < Int.ofNat b.size) ∧ Q (.int .i64 (IntKind.i64.wrap (ior IntKind.i64 (IntKind.i64.wrap (ishl IntKind.i64 (IntKind.i64.wrap (byteAt b p1.toNat)) 8)) (IntKind.i64.wrap (byteAt b (IntKind.i64.wrap (p1 + 1)).toNat))))) h)
theorem btree_two.calls (b : ByteArray) (p1 : Int) {h : Hp} {Q : Value → Hp → Prop} (hW : btree_two.W b p1 h Q) : CallsH Tryd.prog 80 #[.string b, .int .i64 p1] h Q := by
  have hE_ : bodyW Tryd.prog btree_two.H Tryd.f80 [.val (.string b), .val (.int .i64 p1)] h Q = btree_two.W b p1 h Q := by kernel_rfl
  rw [← hE_] at hW
  exact calls_of_body (H := btree_two.H) (args := [.val (.string b), .val (.int .i64 p1)]) Tryd.func80 Tryd.ntmps80 rfl rfl hW

def strings_Trim.H : Hints := { N := 43, loc := (fun _ => false), join := (fun _ => none), loop := (fun _ => none), ifc := 0, order := (fun i => bif Nat.beq i 4 then some (some 3, false, [0, 1, 2, 4, 5, 3, 6, 7], .q 0 (.q 1 (.q 2 (.q 4 (.q 5 (.f 3 (.f 6 (.q 7 .done) .e) .e)))))) else none) }
def strings_Trim.W (s : ByteArray) (cutset : ByteArray) (h : Hp) (Q : Value → Hp → Prop) : Prop :=
  (bif beqS s (bytesL []) then (Q (.string s) h) else (bif beqS cutset (bytesL []) then (Q (.string s) h) else (bif hb (Int.ofNat cutset.size == 1) then (bif true && Nat.blt 0 cutset.size then (bif hb (decide (byteAt cutset 0 < 128)) then (bif true && Nat.blt 0 cutset.size then (bif true && Nat.blt 0 cutset.size then (CallsH Tryd.prog 86 (#[.string s, .int .u8 (byteAt cutset 0)]) (h) (fun v1 h2 => ∃ s3, (v1 = .string s3) ∧ CallsH Tryd.prog 85 (#[.string s3, .int .u8 (byteAt cutset 0)]) (h2) (fun v4 h5 => ∃ s6, (v4 = .string s6) ∧ Q (.string s6) h5))) else False) else False) else (CallsH Tryd.prog 87 (#[.string cutset]) (h) (fun v7 h8 => ∃ (xs9 : List Value), (xs9.length = 256) ∧ ∃ b10, (v7 = .tuple #[.agg xs9.toArray, .bool b10]) ∧ ∀ (k11 : Nat), (h8 k11 = none) → ((xs9.length = 256) ∧ (plainP xs9) ∧ (StoreOk (h8.upd k11 (.cells (zeroL Tryd.prog 134).toArray 134 (0, 0))) k11 0 xs9.length) ∧ bif b10 then (CallsH Tryd.prog 89 (#[.string s, .pointer (some ⟨k11, 0, none⟩)]) ((h8.upd k11 (.cells (zeroL Tryd.prog 134).toArray 134 (0, 0))).put k11 0 xs9) (fun v12 h13 => ∃ s14, (v12 = .string s14) ∧ CallsH Tryd.prog 88 (#[.string s14, .pointer (some ⟨k11, 0, none⟩)]) (h13) (fun v15 h16 => ∃ s17, (v15 = .string s17) ∧ Q (.string s17) h16))) else (CallsH Tryd.prog 91 (#[.string s, .string cutset]) ((h8.upd k11 (.cells (zeroL Tryd.prog 134).toArray 134 (0, 0))).put k11 0 xs9) (fun v18 h19 => ∃ s20, (v18 = .string s20) ∧ CallsH Tryd.prog 90 (#[.string s20, .string cutset]) (h19) (fun v21 h22 => ∃ s23, (v21 = .string s23) ∧ Q (.string s23) h22))))))) else False) else (CallsH Tryd.prog 87 (#[.string cutset]) (h) (fun v24 h25 => ∃ (xs26 : List Value), (xs26.length = 256) ∧ ∃ b27, (v24 = .tuple #[.agg xs26.toArray, .bool b27]) ∧ ∀ (k28 : Nat), (h25 k28 = none) → ((xs26.length = 256) ∧ (plainP xs26) ∧ (StoreOk (h25.upd k28 (.cells (zeroL Tryd.prog 134).toArray 134 (0, 0))) k28 0 xs26.length) ∧ bif b27 then (CallsH Tryd.prog 89 (#[.string s, .pointer (some ⟨k28, 0, none⟩)]) ((h25.upd k28 (.cells (zeroL Tryd.prog 134).toArray 134 (0, 0))).put k28 0 xs26) (fun v29 h30 => ∃ s31, (v29 = .string s31) ∧ CallsH Tryd.prog 88 (#[.string s31, .pointer (some ⟨k28, 0, none⟩)]) (h30) (fun v32 h33 => ∃ s34, (v32 = .string s34) ∧ Q (.string s34) h33))) else (CallsH Tryd.prog 91 (#[.string s, .string cutset]) ((h25.upd k28 (.cells (zeroL Tryd.prog 134).toArray 134 (0, 0))).put k28 0 xs26) (fun v35 h36 => ∃ s37, (v35 = .string s37) ∧ CallsH Tryd.prog 90 (#[.string s37, .string cutset]) (h36) (fun v38 h39 => ∃ s40, (v38 = .string s40) ∧ Q (.string s40) h39)))))))))
theorem strings_Trim.calls (s : ByteArray) (cutset : ByteArray) {h : Hp} {Q : Value → Hp → Prop} (hW : strings_Trim.W s cutset h Q) : CallsH Tryd.prog 81 #[.string s, .string cutset] h Q := by
  have hE_ : bodyW Tryd.prog strings_Trim.H Tryd.f81 [.val (.string s), .val (.string cutset)] h Q = strings_Trim.W s cutset h Q := by kernel_rfl
  rw [← hE_] at hW
  exact calls_of_body (H := strings_Trim.H) (args := [.val (.string s), .val (.string cutset)]) Tryd.func81 Tryd.ntmps81 rfl rfl hW

def strings_trimLeftByte.H : Hints := { N := 17, loc := (fun _ => false), join := (fun _ => none), loop := (fun i => bif Nat.beq i 1 then some [.slot 0 (.str)] else none), ifc := 0, order := (fun _ => none) }
def strings_trimLeftByte.W (s : ByteArray) (c : Int) (h : Hp) (Q : Value → Hp → Prop) : Prop :=
  (∃ (J1 : ByteArray → Hp → Nat → Prop), (∃ k2, J1 s h k2) ∧ ∀ (s3 : ByteArray), ∀ (x4 : Hp), ∀ (k5 : Nat), (J1 s3 x4 k5) → (bif hb (decide (Int.ofNat s3.size > 0)) then (bif true && Nat.blt 0 s3.size then (bif hb (byteAt s3 0 == c) then ((Int.ofNat 0 ≤ 1) ∧ (1 ≤ Int.ofNat s3.size) ∧ ∃ k6, (k6 < k5) ∧ J1 (s3.extract (Int.toNat 1) s3.size) x4 k6) else (Q (.string s3) x4)) else False) else (Q (.string s3) x4)))
theorem strings_trimLeftByte.calls (s : ByteArray) (c : Int) {h : Hp} {Q : Value → Hp → Prop} (hW : strings_trimLeftByte.W s c h Q) : CallsH Tryd.prog 85 #[.string s, .int .u8 c] h Q := by
  have hE_ : bodyW Tryd.prog strings_trimLeftByte.H Tryd.f85 [.val (.string s), .val (.int .u8 c)] h Q = strings_trimLeftByte.W s c h Q := by kernel_rfl
  rw [← hE_] at hW
  exact calls_of_body (H := strings_trimLeftByte.H) (args := [.val (.string s), .val (.int .u8 c)]) Tryd.func85 Tryd.ntmps85 rfl rfl hW

def strings_trimRightByte.H : Hints := { N := 23, loc := (fun _ => false), join := (fun _ => none), loop := (fun i => bif Nat.beq i 1 then some [.slot 0 (.str)] else none), ifc := 0, order := (fun _ => none) }
def strings_trimRightByte.W (s : ByteArray) (c : Int) (h : Hp) (Q : Value → Hp → Prop) : Prop :=
  (∃ (J1 : ByteArray → Hp → Nat → Prop), (∃ k2, J1 s h k2) ∧ ∀ (s3 : ByteArray), ∀ (x4 : Hp), ∀ (k5 : Nat), (J1 s3 x4 k5) → (bif hb (decide (Int.ofNat s3.size > 0)) then ((0 ≤ IntKind.i64.wrap (Int.ofNat s3.size - 1)) ∧ (IntKind.i64.wrap (Int.ofNat s3.size - 1) < Int.ofNat s3.size) ∧ bif hb (byteAt s3 (IntKind.i64.wrap (Int.ofNat s3.size - 1)).toNat == c) then ((0 ≤ IntKind.i64.wrap (Int.ofNat s3.size - 1)) ∧ (IntKind.i64.wrap (Int.ofNat s3.size - 1) ≤ Int.ofNat s3.size) ∧ ∃ k6, (k6 < k5) ∧ J1 (s3.extract 0 (IntKind.i64.wrap (Int.ofNat s3.size - 1)).toNat) x4 k6) else (Q (.string s3) x4)) else (Q (.string s3) x4)))
theorem strings_trimRightByte.calls (s : ByteArray) (c : Int) {h : Hp} {Q : Value → Hp → Prop} (hW : strings_trimRightByte.W s c h Q) : CallsH Tryd.prog 86 #[.string s, .int .u8 c] h Q := by
  have hE_ : bodyW Tryd.prog strings_trimRightByte.H Tryd.f86 [.val (.string s), .val (.int .u8 c)] h Q = strings_trimRightByte.W s c h Q := by kernel_rfl
  rw [← hE_] at hW
  exact calls_of_body (H := strings_trimRightByte.H) (args := [.val (.string s), .val (.int .u8 c)]) Tryd.func86 Tryd.ntmps86 rfl rfl hW

end Go.Proofs.YthbogjbcecmopaaDoor
namespace Go.Proofs.YthbogjbcecmopaaDoor
open Go.Gx
set_option maxRecDepth 100000
set_option linter.unusedVariables false

def btree_Tree_Range.H : Hints := { N := 31, loc := (fun _ => false), join := (fun _ => none), loop := (fun _ => none), ifc := 0, order := (fun i => bif Nat.beq i 6 then some (some 8, false, [0, 1, 2, 3, 4, 5, 6, 7, 8, 9], .q 0 (.q 1 (.q 2 (.q 3 (.q 4 (.q 5 (.q 6 (.q 7 (.f 8 (.q 9 .done) .e))))))))) else none), clo := true }
def btree_Tree_Range.W (t_b t_o : Nat) (p1 : ByteArray) (to : ByteArray) (most : Int) (h : Hp) (Q : Value → Hp → Prop) : Prop :=
  (∀ (k1 : Nat), ((h k1 = none) → (∀ (k2 : Nat), ((h.upd k1 (.cells #[.pointer (some ⟨t_b, t_o, none⟩)] 26 (0, 0)) k2 = none) → (∀ (k3 : Nat), (((h.upd k1 (.cells #[.pointer (some ⟨t_b, t_o, none⟩)] 26 (0, 0))).upd k2 (.cells #[.string p1] 9 (0, 0)) k3 = none) → (∀ (k4 : Nat), ((((h.upd k1 (.cells #[.pointer (some ⟨t_b, t_o, none⟩)] 26 (0, 0))).upd k2 (.cells #[.string p1] 9 (0, 0))).upd k3 (.cells #[.string to] 9 (0, 0)) k4 = none) → (∀ (k5 : Nat), (((((h.upd k1 (.cells #[.pointer (some ⟨t_b, t_o, none⟩)] 26 (0, 0))).upd k2 (.cells #[.string p1] 9 (0, 0))).upd k3 (.cells #[.string to] 9 (0, 0))).upd k4 (.cells #[.int .i64 most] 3 (0, 0)) k5 = none) → (∃ a6, ((((((h.upd k1 (.cells #[.pointer (some ⟨t_b, t_o, none⟩)] 26 (0, 0))).upd k2 (.cells #[.string p1] 9 (0, 0))).upd k3 (.cells #[.string to] 9 (0, 0))).upd k4 (.cells #[.int .i64 most] 3 (0, 0))).upd k5 (.cells #[.slice none 0 0] 38 (0, 0))).cell k1 0 = some (.pointer a6)) ∧ bif a6.isNone then (∃ a7, ∃ k8, ∃ k9, ((((((h.upd k1 (.cells #[.pointer (some ⟨t_b, t_o, none⟩)] 26 (0, 0))).upd k2 (.cells #[.string p1] 9 (0, 0))).upd k3 (.cells #[.string to] 9 (0, 0))).upd k4 (.cells #[.int .i64 most] 3 (0, 0))).upd k5 (.cells #[.slice none 0 0] 38 (0, 0))).cell k5 0 = some (.slice a7 k8 k9)) ∧ Q (.slice a7 k8 k9) (((((h.upd k1 (.cells #[.pointer (some ⟨t_b, t_o, none⟩)] 26 (0, 0))).upd k2 (.cells #[.string p1] 9 (0, 0))).upd k3 (.cells #[.string to] 9 (0, 0))).upd k4 (.cells #[.int .i64 most] 3 (0, 0))).upd k5 (.cells #[.slice none 0 0] 38 (0, 0)))) else (∀ (k10 : Nat), (((((h.upd k1 (.cells #[.pointer (some ⟨t_b, t_o, none⟩)] 26 (0, 0))).upd k2 (.cells #[.string p1] 9 (0, 0))).upd k3 (.cells #[.string to] 9 (0, 0))).upd k4 (.cells #[.int .i64 most] 3 (0, 0))).upd k5 (.cells #[.slice none 0 0] 38 (0, 0)) k10 = none) → ((StoreOk ((((((h.upd k1 (.cells #[.pointer (some ⟨t_b, t_o, none⟩)] 26 (0, 0))).upd k2 (.cells #[.string p1] 9 (0, 0))).upd k3 (.cells #[.string to] 9 (0, 0))).upd k4 (.cells #[.int .i64 most] 3 (0, 0))).upd k5 (.cells #[.slice none 0 0] 38 (0, 0))).upd k10 (.cells #[.nilFunc] 123 (0, 0))) k10 0 1) ∧ ∃ a11, ((((((((h.upd k1 (.cells #[.pointer (some ⟨t_b, t_o, none⟩)] 26 (0, 0))).upd k2 (.cells #[.string p1] 9 (0, 0))).upd k3 (.cells #[.string to] 9 (0, 0))).upd k4 (.cells #[.int .i64 most] 3 (0, 0))).upd k5 (.cells #[.slice none 0 0] 38 (0, 0))).upd k10 (.cells #[.nilFunc] 123 (0, 0))).put k10 0 [.func (Fn.func 72) #[] #[.pointer (some ⟨k1, 0, none⟩), .pointer (some ⟨k2, 0, none⟩), .pointer (some ⟨k5, 0, none⟩), .pointer (some ⟨k4, 0, none⟩), .pointer (some ⟨k3, 0, none⟩), .pointer (some ⟨k10, 0, none⟩)]]).cell k1 0 = some (.pointer a11)) ∧ ∃ k12, ∃ k13, (a11 = some ⟨k12, k13, none⟩) ∧ ∃ a14, ((((((((h.upd k1 (.cells #[.pointer (some ⟨t_b, t_o, none⟩)] 26 (0, 0))).upd k2 (.cells #[.string p1] 9 (0, 0))).upd k3 (.cells #[.string to] 9 (0, 0))).upd k4 (.cells #[.int .i64 most] 3 (0, 0))).upd k5 (.cells #[.slice none 0 0] 38 (0, 0))).upd k10 (.cells #[.nilFunc] 123 (0, 0))).put k10 0 [.func (Fn.func 72) #[] #[.pointer (some ⟨k1, 0, none⟩), .pointer (some ⟨k2, 0, none⟩), .pointer (some ⟨k5, 0, none⟩), .pointer (some ⟨k4, 0, none⟩), .pointer (some ⟨k3, 0, none⟩), .pointer (some ⟨k10, 0, none⟩)]]).cell k12 k13 = some (.pointer a14)) ∧ ∃ a15, ((((((((h.upd k1 (.cells #[.pointer (some ⟨t_b, t_o, none⟩)] 26 (0, 0))).upd k2 (.cells #[.string p1] 9 (0, 0))).upd k3 (.cells #[.string to] 9 (0, 0))).upd k4 (.cells #[.int .i64 most] 3 (0, 0))).upd k5 (.cells #[.slice none 0 0] 38 (0, 0))).upd k10 (.cells #[.nilFunc] 123 (0, 0))).put k10 0 [.func (Fn.func 72) #[] #[.pointer (some ⟨k1, 0, none⟩), .pointer (some ⟨k2, 0, none⟩), .pointer (some ⟨k5, 0, none⟩), .pointer (some ⟨k4, 0, none⟩), .pointer (some ⟨k3, 0, none⟩), .pointer (some ⟨k10, 0, none⟩)]]).cell k1 0 = some (.pointer a15)) ∧ ∃ k16, ∃ k17, (a15 = some ⟨k16, k17, none⟩) ∧ ∃ n18, ((((((((h.upd k1 (.cells #[.pointer (some ⟨t_b, t_o, none⟩)] 26 (0, 0))).upd k2 (.cells #[.string p1] 9 (0, 0))).upd k3 (.cells #[.string to] 9 (0, 0))).upd k4 (.cells #[.int .i64 most] 3 (0, 0))).upd k5 (.cells #[.slice none 0 0] 38 (0, 0))).upd k10 (.cells #[.nilFunc] 123 (0, 0))).put k10 0 [.func (Fn.func 72) #[] #[.pointer (some ⟨k1, 0, none⟩), .pointer (some ⟨k2, 0, none⟩), .pointer (some ⟨k5, 0, none⟩), .pointer (some ⟨k4, 0, none⟩), .pointer (some ⟨k3, 0, none⟩), .pointer (some ⟨k10, 0, none⟩)]]).cell k16 (k17 + 1) = some (.int .i64 n18)) ∧ FnH Tryd.prog (.func (Fn.func 16) #[] #[]) ([.pointer a14, .int .i64 n18]) (((((((h.upd k1 (.cells #[.pointer (some ⟨t_b, t_o, none⟩)] 26 (0, 0))).upd k2 (.cells #[.string p1] 9 (0, 0))).upd k3 (.cells #[.string to] 9 (0, 0))).upd k4 (.cells #[.int .i64 most] 3 (0, 0))).upd k5 (.cells #[.slice none 0 0] 38 (0, 0))).upd k10 (.cells #[.nilFunc] 123 (0, 0))).put k10 0 [.func (Fn.func 72) #[] #[.pointer (some ⟨k1, 0, none⟩), .pointer (some ⟨k2, 0, none⟩), .pointer (some ⟨k5, 0, none⟩), .pointer (some ⟨k4, 0, none⟩), .pointer (some ⟨k3, 0, none⟩), .pointer (some ⟨k10, 0, none⟩)]]) (fun v19 h20 => ∃ n21, (v19 = .int .i64 n21) ∧ bif hb (n21 != 0) then (∃ (v22 : Value), (h20.cell k10 0 = some v22) ∧ FnH Tryd.prog (v22) ([.int .i64 n21]) (h20) (fun v23 h24 => (v23 = .tuple #[]) ∧ ∃ a25, ∃ k26, ∃ k27, (h24.cell k5 0 = some (.slice a25 k26 k27)) ∧ Q (.slice a25 k26 k27) h24)) else (∃ a28, ∃ k29, ∃ k30, (h20.cell k5 0 = some (.slice a28 k29 k30)) ∧ Q (.slice a28 k29 k30) h20)))))))))))))))
theorem btree_Tree_Range.calls (t_b t_o : Nat) (p1 : ByteArray) (to : ByteArray) (most : Int) {h : Hp} {Q : Value → Hp → Prop} (hW : btree_Tree_Range.W t_b t_o p1 to most h Q) : CallsH Tryd.prog 37 #[.pointer (some ⟨t_b, t_o, none⟩), .string p1, .string to, .int .i64 most] h Q := by
  have hE_ : bodyW Tryd.prog btree_Tree_Range.H Tryd.f37 [.ptr t_b t_o, .val (.string p1), .val (.string to), .val (.int .i64 most)] h Q = btree_Tree_Range.W t_b t_o p1 to most h Q := by kernel_rfl
  rw [← hE_] at hW
  exact calls_of_body (H := btree_Tree_Range.H) (args := [.ptr t_b t_o, .val (.string p1), .val (.string to), .val (.int .i64 most)]) Tryd.func37 Tryd.ntmps37 rfl rfl hW

def btree_Tree_Check.H : Hints := { N := 25, loc := (fun _ => false), join := (fun _ => none), loop := (fun _ => none), ifc := 0, order := (fun i => bif Nat.beq i 7 then some (some 8, false, [0, 1, 2, 3, 4, 5, 6, 7, 8, 9], .q 0 (.q 1 (.q 2 (.q 3 (.q 4 (.q 5 (.q 6 (.q 7 (.f 8 (.q 9 .done) .e))))))))) else none), clo := true }
def btree_Tree_Check.W (t_b t_o : Nat) (h : Hp) (Q : Value → Hp → Prop) : Prop :=
  (∀ (k1 : Nat), ((h k1 = none) → (∃ a2, ((h.upd k1 (.cells #[.pointer (some ⟨t_b, t_o, none⟩)] 26 (0, 0))).cell k1 0 = some (.pointer a2)) ∧ bif a2.isNone then (Q (.int .i64 1) (h.upd k1 (.cells #[.pointer (some ⟨t_b, t_o, none⟩)] 26 (0, 0)))) else (∀ (k3 : Nat), (h.upd k1 (.cells #[.pointer (some ⟨t_b, t_o, none⟩)] 26 (0, 0)) k3 = none) → (∀ (x4 : Obj), (MapObj Tryd.prog 3 x4 []) → (∀ (k5 : Nat), ((h.upd k1 (.cells #[.pointer (some ⟨t_b, t_o, none⟩)] 26 (0, 0))).upd k3 x4 k5 = none) → ((StoreOk (((h.upd k1 (.cells #[.pointer (some ⟨t_b, t_o, none⟩)] 26 (0, 0))).upd k3 x4).upd k5 (.cells #[.map none] 94 (0, 0))) k5 0 1) ∧ ∀ (k6 : Nat), ((((h.upd k1 (.cells #[.pointer (some ⟨t_b, t_o, none⟩)] 26 (0, 0))).upd k3 x4).upd k5 (.cells #[.map none] 94 (0, 0))).put k5 0 [.map (some k3)] k6 = none) → ((StoreOk (((((h.upd k1 (.cells #[.pointer (some ⟨t_b, t_o, none⟩)] 26 (0, 0))).upd k3 x4).upd k5 (.cells #[.map none] 94 (0, 0))).put k5 0 [.map (some k3)]).upd k6 (.cells #[.int .i64 0] 3 (0, 0))) k6 0 1) ∧ ∀ (k7 : Nat), ((((((h.upd k1 (.cells #[.pointer (some ⟨t_b, t_o, none⟩)] 26 (0, 0))).upd k3 x4).upd k5 (.cells #[.map none] 94 (0, 0))).put k5 0 [.map (some k3)]).upd k6 (.cells #[.int .i64 0] 3 (0, 0))).put k6 0 [.int .i64 0] k7 = none) → ((StoreOk (((((((h.upd k1 (.cells #[.pointer (some ⟨t_b, t_o, none⟩)] 26 (0, 0))).upd k3 x4).upd k5 (.cells #[.map none] 94 (0, 0))).put k5 0 [.map (some k3)]).upd k6 (.cells #[.int .i64 0] 3 (0, 0))).put k6 0 [.int .i64 0]).upd k7 (.cells #[.nilFunc] 95 (0, 0))) k7 0 1) ∧ ∃ a8, (((((((((h.upd k1 (.cells #[.pointer (some ⟨t_b, t_o, none⟩)] 26 (0, 0))).upd k3 x4).upd k5 (.cells #[.map none] 94 (0, 0))).put k5 0 [.map (some k3)]).upd k6 (.cells #[.int .i64 0] 3 (0, 0))).put k6 0 [.int .i64 0]).upd k7 (.cells #[.nilFunc] 95 (0, 0))).put k7 0 [.func (Fn.func 39) #[] #[.pointer (some ⟨k5, 0, none⟩), .pointer (some ⟨k1, 0, none⟩), .pointer (some ⟨k6, 0, none⟩), .pointer (some ⟨k7, 0, none⟩)]]).cell k1 0 = some (.pointer a8)) ∧ ∃ k9, ∃ k10, (a8 = some ⟨k9, k10, none⟩) ∧ ∃ a11, (((((((((h.upd k1 (.cells #[.pointer (some ⟨t_b, t_o, none⟩)] 26 (0, 0))).upd k3 x4).upd k5 (.cells #[.map none] 94 (0, 0))).put k5 0 [.map (some k3)]).upd k6 (.cells #[.int .i64 0] 3 (0, 0))).put k6 0 [.int .i64 0]).upd k7 (.cells #[.nilFunc] 95 (0, 0))).put k7 0 [.func (Fn.func 39) #[] #[.pointer (some ⟨k5, 0, none⟩), .pointer (some ⟨k1, 0, none⟩), .pointer (some ⟨k6, 0, none⟩), .pointer (some ⟨k7, 0, none⟩)]]).cell k9 k10 = some (.pointer a11)) ∧ ∃ a12, (((((((((h.upd k1 (.cells #[.pointer (some ⟨t_b, t_o, none⟩)] 26 (0, 0))).upd k3 x4).upd k5 (.cells #[.map none] 94 (0, 0))).put k5 0 [.map (some k3)]).upd k6 (.cells #[.int .i64 0] 3 (0, 0))).put k6 0 [.int .i64 0]).upd k7 (.cells #[.nilFunc] 95 (0, 0))).put k7 0 [.func (Fn.func 39) #[] #[.pointer (some ⟨k5, 0, none⟩), .pointer (some ⟨k1, 0, none⟩), .pointer (some ⟨k6, 0, none⟩), .pointer (some ⟨k7, 0, none⟩)]]).cell k1 0 = some (.pointer a12)) ∧ ∃ k13, ∃ k14, (a12 = some ⟨k13, k14, none⟩) ∧ ∃ n15, (((((((((h.upd k1 (.cells #[.pointer (some ⟨t_b, t_o, none⟩)] 26 (0, 0))).upd k3 x4).upd k5 (.cells #[.map none] 94 (0, 0))).put k5 0 [.map (some k3)]).upd k6 (.cells #[.int .i64 0] 3 (0, 0))).put k6 0 [.int .i64 0]).upd k7 (.cells #[.nilFunc] 95 (0, 0))).put k7 0 [.func (Fn.func 39) #[] #[.pointer (some ⟨k5, 0, none⟩), .pointer (some ⟨k1, 0, none⟩), .pointer (some ⟨k6, 0, none⟩), .pointer (some ⟨k7, 0, none⟩)]]).cell k13 (k14 + 1) = some (.int .i64 n15)) ∧ FnH Tryd.prog (.func (Fn.func 16) #[] #[]) ([.pointer a11, .int .i64 n15]) ((((((((h.upd k1 (.cells #[.pointer (some ⟨t_b, t_o, none⟩)] 26 (0, 0))).upd k3 x4).upd k5 (.cells #[.map none] 94 (0, 0))).put k5 0 [.map (some k3)]).upd k6 (.cells #[.int .i64 0] 3 (0, 0))).put k6 0 [.int .i64 0]).upd k7 (.cells #[.nilFunc] 95 (0, 0))).put k7 0 [.func (Fn.func 39) #[] #[.pointer (some ⟨k5, 0, none⟩), .pointer (some ⟨k1, 0, none⟩), .pointer (some ⟨k6, 0, none⟩), .pointer (some ⟨k7, 0, none⟩)]]) (fun v16 h17 => ∃ n18, (v16 = .int .i64 n18) ∧ bif hb (n18 != 0) then (∃ (v19 : Value), (h17.cell k7 0 = some v19) ∧ FnH Tryd.prog (v19) ([.int .i64 n18, .int .i64 1, .string (bytesL []), .string (bytesL [])]) (h17) (fun v20 h21 => ∃ n22, (v20 = .int .i64 n22) ∧ Q (.int .i64 n22) h21)) else (Q (.int .i64 0) h17)))))))))))
theorem btree_Tree_Check.calls (t_b t_o : Nat) {h : Hp} {Q : Value → Hp → Prop} (hW : btree_Tree_Check.W t_b t_o h Q) : CallsH Tryd.prog 14 #[.pointer (some ⟨t_b, t_o, none⟩)] h Q := by
  have hE_ : bodyW Tryd.prog btree_Tree_Check.H Tryd.f14 [.ptr t_b t_o] h Q = btree_Tree_Check.W t_b t_o h Q := by kernel_rfl
  rw [← hE_] at hW
  exact calls_of_body (H := btree_Tree_Check.H) (args := [.ptr t_b t_o]) Tryd.func14 Tryd.ntmps14 rfl rfl hW

def btree_Tree_each.H : Hints := { N := 31, loc := (fun _ => false), join := (fun _ => none), loop := (fun _ => none), ifc := 0, order := (fun i => bif Nat.beq i 3 then some (some 11, false, [0, 1, 2, 3, 4, 5, 6, 7, 8, 9, 10, 11, 12, 13], .q 0 (.q 1 (.q 2 (.q 3 (.q 4 (.q 5 (.q 6 (.q 7 (.q 8 (.q 9 (.q 10 (.f 11 (.q 12 (.q 13 .done)) .e)))))))))))) else bif Nat.beq i 4 then some (some 10, false, [0, 1, 2, 3, 4, 5, 6, 7, 8, 9, 10], .q 0 (.q 1 (.q 2 (.q 3 (.q 4 (.q 5 (.q 6 (.q 7 (.q 8 (.f 9 (.f 10 (.done) .e) .e)))))))))) else none), clo := true }
def btree_Tree_each.W (t_b t_o : Nat) (p1 : Value) (h : Hp) (Q : Value → Hp → Prop) : Prop :=
  (∀ (k1 : Nat), ((h k1 = none) → (∀ (k2 : Nat), ((h.upd k1 (.cells #[.pointer (some ⟨t_b, t_o, none⟩)] 26 (0, 0)) k2 = none) → (∀ (k3 : Nat), (((h.upd k1 (.cells #[.pointer (some ⟨t_b, t_o, none⟩)] 26 (0, 0))).upd k2 (.cells (cellsOfV p1).toArray 75 (0, 0)) k3 = none) → ((StoreOk (((h.upd k1 (.cells #[.pointer (some ⟨t_b, t_o, none⟩)] 26 (0, 0))).upd k2 (.cells (cellsOfV p1).toArray 75 (0, 0))).upd k3 (.cells #[.nilFunc] 123 (0, 0))) k3 0 1) ∧ ∃ a4, (((((h.upd k1 (.cells #[.pointer (some ⟨t_b, t_o, none⟩)] 26 (0, 0))).upd k2 (.cells (cellsOfV p1).toArray 75 (0, 0))).upd k3 (.cells #[.nilFunc] 123 (0, 0))).put k3 0 [.func (Fn.func 71) #[] #[.pointer (some ⟨k1, 0, none⟩), .pointer (some ⟨k3, 0, none⟩), .pointer (some ⟨k2, 0, none⟩)]]).cell k1 0 = some (.pointer a4)) ∧ bif !a4.isNone then (∃ a5, (((((h.upd k1 (.cells #[.pointer (some ⟨t_b, t_o, none⟩)] 26 (0, 0))).upd k2 (.cells (cellsOfV p1).toArray 75 (0, 0))).upd k3 (.cells #[.nilFunc] 123 (0, 0))).put k3 0 [.func (Fn.func 71) #[] #[.pointer (some ⟨k1, 0, none⟩), .pointer (some ⟨k3, 0, none⟩), .pointer (some ⟨k2, 0, none⟩)]]).cell k1 0 = some (.pointer a5)) ∧ ∃ k6, ∃ k7, (a5 = some ⟨k6, k7, none⟩) ∧ ∃ a8, (((((h.upd k1 (.cells #[.pointer (some ⟨t_b, t_o, none⟩)] 26 (0, 0))).upd k2 (.cells (cellsOfV p1).toArray 75 (0, 0))).upd k3 (.cells #[.nilFunc] 123 (0, 0))).put k3 0 [.func (Fn.func 71) #[] #[.pointer (some ⟨k1, 0, none⟩), .pointer (some ⟨k3, 0, none⟩), .pointer (some ⟨k2, 0, none⟩)]]).cell k6 k7 = some (.pointer a8)) ∧ ∃ a9, (((((h.upd k1 (.cells #[.pointer (some ⟨t_b, t_o, none⟩)] 26 (0, 0))).upd k2 (.cells (cellsOfV p1).toArray 75 (0, 0))).upd k3 (.cells #[.nilFunc] 123 (0, 0))).put k3 0 [.func (Fn.func 71) #[] #[.pointer (some ⟨k1, 0, none⟩), .pointer (some ⟨k3, 0, none⟩), .pointer (some ⟨k2, 0, none⟩)]]).cell k1 0 = some (.pointer a9)) ∧ ∃ k10, ∃ k11, (a9 = some ⟨k10, k11, none⟩) ∧ ∃ n12, (((((h.upd k1 (.cells #[.pointer (some ⟨t_b, t_o, none⟩)] 26 (0, 0))).upd k2 (.cells (cellsOfV p1).toArray 75 (0, 0))).upd k3 (.cells #[.nilFunc] 123 (0, 0))).put k3 0 [.func (Fn.func 71) #[] #[.pointer (some ⟨k1, 0, none⟩), .pointer (some ⟨k3, 0, none⟩), .pointer (some ⟨k2, 0, none⟩)]]).cell k10 (k11 + 1) = some (.int .i64 n12)) ∧ FnH Tryd.prog (.func (Fn.func 16) #[] #[]) ([.pointer a8, .int .i64 n12]) ((((h.upd k1 (.cells #[.pointer (some ⟨t_b, t_o, none⟩)] 26 (0, 0))).upd k2 (.cells (cellsOfV p1).toArray 75 (0, 0))).upd k3 (.cells #[.nilFunc] 123 (0, 0))).put k3 0 [.func (Fn.func 71) #[] #[.pointer (some ⟨k1, 0, none⟩), .pointer (some ⟨k3, 0, none⟩), .pointer (some ⟨k2, 0, none⟩)]]) (fun v13 h14 => ∃ n15, (v13 = .int .i64 n15) ∧ bif hb (n15 != 0) then (∃ (v16 : Value), (h14.cell k3 0 = some v16) ∧ ∃ a17, (h14.cell k1 0 = some (.pointer a17)) ∧ ∃ k18, ∃ k19, (a17 = some ⟨k18, k19, none⟩) ∧ ∃ a20, (h14.cell k18 k19 = some (.pointer a20)) ∧ ∃ a21, (h14.cell k1 0 = some (.pointer a21)) ∧ ∃ k22, ∃ k23, (a21 = some ⟨k22, k23, none⟩) ∧ ∃ n24, (h14.cell k22 (k23 + 1) = some (.int .i64 n24)) ∧ FnH Tryd.prog (.func (Fn.func 16) #[] #[]) ([.pointer a20, .int .i64 n24]) (h14) (fun v25 h26 => ∃ n27, (v25 = .int .i64 n27) ∧ (Gx.Sub h14 h26) ∧ FnH Tryd.prog (v16) ([.int .i64 n27]) (h26) (fun v28 h29 => (v28 = .tuple #[]) ∧ Q (.tuple #[]) h29))) else (Q (.tuple #[]) h14))) else (Q (.tuple #[]) ((((h.upd k1 (.cells #[.pointer (some ⟨t_b, t_o, none⟩)] 26 (0, 0))).upd k2 (.cells (cellsOfV p1).toArray 75 (0, 0))).upd k3 (.cells #[.nilFunc] 123 (0, 0))).put k3 0 [.func (Fn.func 71) #[] #[.pointer (some ⟨k1, 0, none⟩), .pointer (some ⟨k3, 0, none⟩), .pointer (some ⟨k2, 0, none⟩)]])))))))))
theorem btree_Tree_each.calls (t_b t_o : Nat) (p1 : Value) {h : Hp} {Q : Value → Hp → Prop} (hW : btree_Tree_each.W t_b t_o p1 h Q) : CallsH Tryd.prog 34 #[.pointer (some ⟨t_b, t_o, none⟩), p1] h Q := by
  have hE_ : bodyW Tryd.prog btree_Tree_each.H Tryd.f34 [.ptr t_b t_o, .val (p1)] h Q = btree_Tree_each.W t_b t_o p1 h Q := by kernel_rfl
  rw [← hE_] at hW
  exact calls_of_body (H := btree_Tree_each.H) (args := [.ptr t_b t_o, .val (p1)]) Tryd.func34 Tryd.ntmps34 rfl rfl hW

def btree_Tree_Range_1.H : Hints := { N := 97, loc := (fun i => Nat.beq i 12 || false), join := (fun i => bif Nat.beq i 6 then some [] else none), loop := (fun i => bif Nat.beq i 4 then some [.slot 10 (.int .i64)] else bif Nat.beq i 8 then some [.slot 74 (.int .i64)] else none), ifc := 0, order := (fun i => bif Nat.beq i 4 then some (none, false, [0, 1, 2, 3, 4, 5, 6, 7, 8, 9, 10, 11, 12, 13, 14, 15, 16, 17, 18, 19, 20, 21, 22, 23, 24, 25, 26, 27, 28], .q 0 (.q 1 (.q 2 (.q 3 (.q 4 (.q 5 (.q 6 (.q 7 (.q 8 (.q 9 (.q 10 (.q 11 (.q 12 (.q 13 (.q 14 (.q 15 (.q 16 (.q 17 (.q 18 (.q 19 (.q 20 (.q 21 (.q 22 (.q 23 (.q 24 (.q 25 (.q 26 (.q 27 (.q 28 .done))))))))))))))))))))))))))))) else bif Nat.beq i 6 then some (some 4, false, [0, 1, 2, 3, 4], .q 0 (.q 1 (.q 2 (.f 3 (.f 4 (.done) .e) .e)))) else bif Nat.beq i 7 then some (none, false, [0, 1, 2, 3, 4, 5, 9, 6, 7, 8], .q 0 (.q 1 (.q 2 (.q 3 (.q 4 (.q 5 (.q 9 (.f 6 (.q 7 (.q 8 .done)) .e)))))))) else none), clo := true }
def btree_Tree_Range_1.W (id : Int) (p11_b p11_o : Nat) (p22_b p22_o : Nat) (p33_b p33_o : Nat) (p44_b p44_o : Nat) (p55_b p55_o : Nat) (p66_b p66_o : Nat) (h : Hp) (Q : Value → Hp → Prop) : Prop :=
  (∃ a1, (h.cell p11_b p11_o = some (.pointer a1)) ∧ FnH Tryd.prog (.func (Fn.func 27) #[] #[]) ([.pointer a1, .int .i64 id]) (h) (fun v2 h3 => ∃ a4, ∃ n5, (v2 = .tuple #[.pointer a4, .int .i64 n5]) ∧ bif hb (n5 != 0) then (Q (.tuple #[]) h3) else (∃ k6, ∃ k7, (a4 = some ⟨k6, k7, none⟩) ∧ ∃ n8, (h3.cell k6 k7 = some (.int .i64 n8)) ∧ bif hb (n8 == 2) then (∃ s9, (h3.cell p22_b p22_o = some (.string s9)) ∧ FnH Tryd.prog (.func (Fn.func 60) #[] #[]) ([.pointer a4, .string s9]) (h3) (fun v10 h11 => ∃ n12, (v10 = .int .i64 n12) ∧ ∃ (J13 : Int → Hp → Nat → Prop), (∃ k14, J13 n12 h11 k14) ∧ ∀ (n15 : Int), ∀ (x16 : Hp), ∀ (k17 : Nat), (J13 n15 x16 k17) → (∃ (J18 : Hp → Prop), (∀ (x19 : Hp), (J18 x19) → (∃ (v20 : Value), (x19.cell p66_b p66_o = some v20) ∧ FnH Tryd.prog (.func (Fn.func 42) #[] #[]) ([.pointer a4, .int .i64 n15]) (x19) (fun v21 h22 => ∃ n23, (v21 = .int .i64 n23) ∧ (Gx.Sub x19 h22) ∧ FnH Tryd.prog (v20) ([.int .i64 n23]) (h22) (fun v24 h25 => (v24 = .tuple #[]) ∧ ∃ k26, (k26 < k17) ∧ J13 (IntKind.i64.wrap (n15 + 1)) h25 k26)))) ∧ ∃ k27, ∃ k28, (a4 = some ⟨k27, k28, none⟩) ∧ ∃ a29, ∃ k30, ∃ k31, (x16.cell k27 (k28 + 2) = some (.slice a29 k30 k31)) ∧ bif hb (decide (n15 < Int.ofNat k30)) then (∃ a32, ∃ k33, ∃ k34, (x16.cell p33_b p33_o = some (.slice a32 k33 k34)) ∧ ∃ n35, (x16.cell p44_b p44_o = some (.int .i64 n35)) ∧ bif hb (decide (Int.ofNat k33 < n35)) then (bif hb (decide (n15 < 0)) then (J18 x16) else (∃ k36, ∃ k37, (a4 = some ⟨k36, k37, none⟩) ∧ ∃ a38, ∃ k39, ∃ k40, (x16.cell k36 (k37 + 2) = some (.slice a38 k39 k40)) ∧ (0 ≤ n15) ∧ (n15 < Int.ofNat k39) ∧ ∃ k41, ∃ k42, (a38 = some ⟨k41, k42, none⟩) ∧ ∃ s43, (x16.cell k41 (k42 + n15.toNat * 3) = some (.string s43)) ∧ ∃ s44, (x16.cell p55_b p55_o = some (.string s44)) ∧ bif bltS s43 s44 || beqS s43 s44 then (J18 x16) else (Q (.tuple #[]) x16))) else (Q (.tuple #[]) x16)) else (Q (.tuple #[]) x16)))) else (∃ k45, ∃ k46, (a4 = some ⟨k45, k46, none⟩) ∧ ∃ a47, ∃ k48, ∃ k49, (h3.cell k45 (k46 + 2) = some (.slice a47 k48 k49)) ∧ ∃ s50, (h3.cell p22_b p22_o = some (.string s50)) ∧ FnH Tryd.prog (.func (Fn.func 59) #[] #[]) ([.pointer a4, .string s50]) (h3) (fun v51 h52 => ∃ n53, (v51 = .int .i64 n53) ∧ (Gx.Sub h3 h52) ∧ (0 ≤ n53) ∧ (n53 ≤ Int.ofNat k48) ∧ ∃ (J54 : Int → Hp → Nat → Prop), (∃ k55, J54 0 h52 k55) ∧ ∀ (n56 : Int), ∀ (x57 : Hp), ∀ (k58 : Nat), (J54 n56 x57 k58) → (bif hb (decide (n56 < Int.ofNat (k48 - n53.toNat))) then ((0 ≤ n56) ∧ (n56 < Int.ofNat (k48 - n53.toNat)) ∧ ∃ k59, ∃ k60, (slA k49 n53.toNat 3 a47 = some ⟨k59, k60, none⟩) ∧ ∃ s61, (x57.cell k59 (k60 + n56.toNat * 3) = some (.string s61)) ∧ ∃ s62, (x57.cell k59 (k60 + n56.toNat * 3 + 1) = some (.string s62)) ∧ ∃ n63, (x57.cell k59 (k60 + n56.toNat * 3 + 1 + 1) = some (.int .i64 n63)) ∧ ∃ s64, (x57.cell p55_b p55_o = some (.string s64)) ∧ bif !(bltS s61 s64 || beqS s61 s64) then (Q (.tuple #[]) x57) else (∃ a65, ∃ k66, ∃ k67, (x57.cell p33_b p33_o = some (.slice a65 k66 k67)) ∧ ∃ n68, (x57.cell p44_b p44_o = some (.int .i64 n68)) ∧ bif hb (decide (Int.ofNat k66 ≥ n68)) then (Q (.tuple #[]) x57) else (∃ a69, ∃ k70, ∃ k71, (x57.cell p33_b p33_o = some (.slice a69 k70 k71)) ∧ ∀ (k72 : Nat), (x57 k72 = none) → (∃ (xs73 : List Value), (SliceAt (x57.upd k72 (.cells #[.string s61, .string s62] 41 (0, 0))) (some ⟨k72, 0, none⟩) (2) (xs73)) ∧ ∃ (J74 : Option Addr → Nat → Hp → Prop), (∀ (a75 : Option Addr), ∀ (k76 : Nat), ∀ (x77 : Hp), (J74 a75 k76 x77) → ((StoreOk x77 p33_b p33_o 1) ∧ ∃ k78, (k78 < k58) ∧ J54 (IntKind.i64.wrap (n56 + 1)) (x77.put p33_b p33_o [.slice a75 (k70 + 1) k76]) k78)) ∧ appendC Tryd.prog 41 a69 k70 k71 (x57.upd k72 (.cells #[.string s61, .string s62] 41 (0, 0))) xs73 1 J74)))) else (Q (.tuple #[]) x57)))))))
theorem btree_Tree_Range_1.calls (id : Int) (p11_b p11_o : Nat) (p22_b p22_o : Nat) (p33_b p33_o : Nat) (p44_b p44_o : Nat) (p55_b p55_o : Nat) (p66_b p66_o : Nat) {h : Hp} {Q : Value → Hp → Prop} (hW : btree_Tree_Range_1.W id p11_b p11_o p22_b p22_o p33_b p33_o p44_b p44_o p55_b p55_o p66_b p66_o h Q) : CallsH Tryd.prog 72 #[.int .i64 id, .pointer (some ⟨p11_b, p11_o, none⟩), .pointer (some ⟨p22_b, p22_o, none⟩), .pointer (some ⟨p33_b, p33_o, none⟩), .pointer (some ⟨p44_b, p44_o, none⟩), .pointer (some ⟨p55_b, p55_o, none⟩), .pointer (some ⟨p66_b, p66_o, none⟩)] h Q := by
  have hE_ : bodyW Tryd.prog btree_Tree_Range_1.H Tryd.f72 [.val (.int .i64 id), .ptr p11_b p11_o, .ptr p22_b p22_o, .ptr p33_b p33_o, .ptr p44_b p44_o, .ptr p55_b p55_o, .ptr p66_b p66_o] h Q = btree_Tree_Range_1.W id p11_b p11_o p22_b p22_o p33_b p33_o p44_b p44_o p55_b p55_o p66_b p66_o h Q := by kernel_rfl
  rw [← hE_] at hW
  exact calls_of_body (H := btree_Tree_Range_1.H) (args := [.val (.int .i64 id), .ptr p11_b p11_o, .ptr p22_b p22_o, .ptr p33_b p33_o, .ptr p44_b p44_o, .ptr p55_b p55_o, .ptr p66_b p66_o]) Tryd.func72 Tryd.ntmps72 rfl rfl hW

def btree_Tree_Check_1.H : Hints := { N := 127, loc := (fun i => Nat.beq i 17 || false), join := (fun i => bif Nat.beq i 3 then some [] else none), loop := (fun i => bif Nat.beq i 9 then some [.slot 15 (.str), .slot 55 (.int .i64)] else bif Nat.beq i 22 then some [.slot 18 (.int .i64)] else none), ifc := 0, order := (fun i => bif Nat.beq i 25 then some (some 8, false, [0, 1, 2, 4, 5, 6, 7, 3, 8, 9], .q 0 (.q 1 (.q 2 (.q 4 (.q 5 (.q 6 (.q 7 (.f 3 (.f 8 (.q 9 .done) .e) .e)))))))) else none), clo := true }
def btree_Tree_Check_1.W (id : Int) (depth : Int) (p2 : ByteArray) (to : ByteArray) (p44_b p44_o : Nat) (p55_b p55_o : Nat) (p66_b p66_o : Nat) (p77_b p77_o : Nat) (h : Hp) (Q : Value → Hp → Prop) : Prop :=
  (∃ (J1 : Hp → Prop), (∀ (x2 : Hp), (J1 x2) → (∃ (a3 : Option Nat), (x2.cell p44_b p44_o = some (.map a3)) ∧ ∃ k4, ∃ (x5 : Obj), ∃ (xs6 : List (Value × Value)), (a3 = some k4) ∧ (x2 k4 = some x5) ∧ (MapObj Tryd.prog 3 x5 xs6) ∧ ∀ (x7 : Obj), (MapObj Tryd.prog 3 x7 (mset xs6 (.int .i64 id) (.bool true))) → (∃ a8, ((x2.upd k4 x7).cell p55_b p55_o = some (.pointer a8)) ∧ FnH Tryd.prog (.func (Fn.func 27) #[] #[]) ([.pointer a8, .int .i64 id]) (x2.upd k4 x7) (fun v9 h10 => ∃ a11, ∃ n12, (v9 = .tuple #[.pointer a11, .int .i64 n12]) ∧ bif hb (n12 != 0) then (Q (.int .i64 n12) h10) else (∃ k13, ∃ k14, (a11 = some ⟨k13, k14, none⟩) ∧ ∃ a15, ∃ k16, ∃ k17, (h10.cell k13 (k14 + 2) = some (.slice a15 k16 k17)) ∧ ∃ (J18 : ByteArray → Int → Hp → Nat → Prop), (∃ k19, J18 p2 0 h10 k19) ∧ ∀ (s20 : ByteArray), ∀ (n21 : Int), ∀ (x22 : Hp), ∀ (k23 : Nat), (J18 s20 n21 x22 k23) → (bif hb (decide (n21 < Int.ofNat k16)) then ((0 ≤ n21) ∧ (n21 < Int.ofNat k16) ∧ ∃ k24, ∃ k25, (a15 = some ⟨k24, k25, none⟩) ∧ ∃ s26, (x22.cell k24 (k25 + n21.toNat * 3) = some (.string s26)) ∧ ∃ s27, (x22.cell k24 (k25 + n21.toNat * 3 + 1) = some (.string s27)) ∧ ∃ n28, (x22.cell k24 (k25 + n21.toNat * 3 + 1 + 1) = some (.int .i64 n28)) ∧ bif hb (decide (n21 > 0)) then (bif bltS s26 s20 || beqS s26 s20 then (Q (.int .i64 4) x22) else (bif bltS s26 s20 then (Q (.int .i64 4) x22) else (bif !beqS to (bytesL []) then (bif !bltS s26 to then (Q (.int .i64 4) x22) else (∃ k29, (k29 < k23) ∧ J18 s26 (IntKind.i64.wrap (n21 + 1)) x22 k29)) else (∃ k30, (k30 < k23) ∧ J18 s26 (IntKind.i64.wrap (n21 + 1)) x22 k30)))) else (bif bltS s26 s20 then (Q (.int .i64 4) x22) else (bif !beqS to (bytesL []) then (bif !bltS s26 to then (Q (.int .i64 4) x22) else (∃ k31, (k31 < k23) ∧ J18 s26 (IntKind.i64.wrap (n21 + 1)) x22 k31)) else (∃ k32, (k32 < k23) ∧ J18 s26 (IntKind.i64.wrap (n21 + 1)) x22 k32)))) else (∃ k33, ∃ k34, (a11 = some ⟨k33, k34, none⟩) ∧ ∃ n35, (x22.cell k33 k34 = some (.int .i64 n35)) ∧ bif hb (n35 == 1) then (∃ n36, (x22.cell p66_b p66_o = some (.int .i64 n36)) ∧ bif hb (n36 == 0) then ((StoreOk x22 p66_b p66_o 1) ∧ ∃ n37, ((x22.put p66_b p66_o [.int .i64 depth]).cell p66_b p66_o = some (.int .i64 n37)) ∧ bif hb (n37 != depth) then (Q (.int .i64 4) (x22.put p66_b p66_o [.int .i64 depth])) else (Q (.int .i64 0) (x22.put p66_b p66_o [.int .i64 depth]))) else (∃ n38, (x22.cell p66_b p66_o = some (.int .i64 n38)) ∧ bif hb (n38 != depth) then (Q (.int .i64 4) x22) else (Q (.int .i64 0) x22))) else (∃ (J39 : Int → Hp → Nat → Prop), (∃ k40, J39 (-1) x22 k40) ∧ ∀ (n41 : Int), ∀ (x42 : Hp), ∀ (k43 : Nat), (J39 n41 x42 k43) → (∃ k44, ∃ k45, (a11 = some ⟨k44, k45, none⟩) ∧ ∃ a46, ∃ k47, ∃ k48, (x42.cell k44 (k45 + 2) = some (.slice a46 k47 k48)) ∧ bif hb (decide (n41 < Int.ofNat k47)) then (FnH Tryd.prog (.func (Fn.func 41) #[] #[]) ([.pointer a11, .int .i64 n41, .string p2, .string to]) (x42) (fun v49 h50 => ∃ s51, ∃ s52, (v49 = .tuple #[.string s51, .string s52]) ∧ ∃ (v53 : Value), (h50.cell p77_b p77_o = some v53) ∧ FnH Tryd.prog (.func (Fn.func 42) #[] #[]) ([.pointer a11, .int .i64 n41]) (h50) (fun v54 h55 => ∃ n56, (v54 = .int .i64 n56) ∧ (Gx.Sub h50 h55) ∧ FnH Tryd.prog (v53) ([.int .i64 n56, .int .i64 (IntKind.i64.wrap (depth + 1)), .string s51, .string s52]) (h55) (fun v57 h58 => ∃ n59, (v57 = .int .i64 n59) ∧ bif hb (n59 != 0) then (Q (.int .i64 n59) h58) else (∃ k60, (k60 < k43) ∧ J39 (IntKind.i64.wrap (n41 + 1)) h58 k60))))) else (Q (.int .i64 0) x42)))))))))) ∧ ∃ (a61 : Option Nat), (h.cell p44_b p44_o = some (.map a61)) ∧ ∃ k62, ∃ (x63 : Obj), ∃ (xs64 : List (Value × Value)), (a61 = some k62) ∧ (h k62 = some x63) ∧ (MapObj Tryd.prog 3 x63 xs64) ∧ ∃ b65, ∃ b66, (LookOk xs64 (.int .i64 id) (.bool false) (.bool b65) b66) ∧ bif b65 then (Q (.int .i64 4) h) else (∃ a67, (h.cell p55_b p55_o = some (.pointer a67)) ∧ ∃ k68, ∃ k69, (a67 = some ⟨k68, k69, none⟩) ∧ ∃ a70, (h.cell k68 k69 = some (.pointer a70)) ∧ FnH Tryd.prog (.func (Fn.func 40) #[] #[]) ([.pointer a70, .int .i64 id]) (h) (fun v71 h72 => ∃ b73, (v71 = .bool b73) ∧ bif !b73 then (Q (.int .i64 4) h72) else (bif hb (id == 0) then (Q (.int .i64 4) h72) else (J1 h72)))))
theorem btree_Tree_Check_1.calls (id : Int) (depth : Int) (p2 : ByteArray) (to : ByteArray) (p44_b p44_o : Nat) (p55_b p55_o : Nat) (p66_b p66_o : Nat) (p77_b p77_o : Nat) {h : Hp} {Q : Value → Hp → Prop} (hW : btree_Tree_Check_1.W id depth p2 to p44_b p44_o p55_b p55_o p66_b p66_o p77_b p77_o h Q) : CallsH Tryd.prog 39 #[.int .i64 id, .int .i64 depth, .string p2, .string to, .pointer (some ⟨p44_b, p44_o, none⟩), .pointer (some ⟨p55_b, p55_o, none⟩), .pointer (some ⟨p66_b, p66_o, none⟩), .pointer (some ⟨p77_b, p77_o, none⟩)] h Q := by
  have hE_ : bodyW Tryd.prog btree_Tree_Check_1.H Tryd.f39 [.val (.int .i64 id), .val (.int .i64 depth), .val (.string p2), .val (.string to), .ptr p44_b p44_o, .ptr p55_b p55_o, .ptr p66_b p66_o, .ptr p77_b p77_o] h Q = btree_Tree_Check_1.W id depth p2 to p44_b p44_o p55_b p55_o p66_b p66_o p77_b p77_o h Q := by kernel_rfl
  rw [← hE_] at hW
  exact calls_of_body (H := btree_Tree_Check_1.H) (args := [.val (.int .i64 id), .val (.int .i64 depth), .val (.string p2), .val (.string to), .ptr p44_b p44_o, .ptr p55_b p55_o, .ptr p66_b p66_o, .ptr p77_b p77_o]) Tryd.func39 Tryd.ntmps39 rfl rfl hW

def btree_Tree_each_1.H : Hints := { N := 39, loc := (fun _ => false), join := (fun _ => none), loop := (fun i => bif Nat.beq i 4 then some [.slot 7 (.int .i64)] else none), ifc := 0, order := (fun i => bif Nat.beq i 6 then some (some 4, false, [0, 1, 2, 3, 4], .q 0 (.q 1 (.q 2 (.f 3 (.f 4 (.done) .e) .e)))) else none), clo := true }
def btree_Tree_each_1.W (id : Int) (p11_b p11_o : Nat) (p22_b p22_o : Nat) (p33_b p33_o : Nat) (h : Hp) (Q : Value → Hp → Prop) : Prop :=
  (∃ a1, (h.cell p11_b p11_o = some (.pointer a1)) ∧ FnH Tryd.prog (.func (Fn.func 27) #[] #[]) ([.pointer a1, .int .i64 id]) (h) (fun v2 h3 => ∃ a4, ∃ n5, (v2 = .tuple #[.pointer a4, .int .i64 n5]) ∧ bif hb (n5 != 0) then (Q (.tuple #[]) h3) else (∃ k6, ∃ k7, (a4 = some ⟨k6, k7, none⟩) ∧ ∃ n8, (h3.cell k6 k7 = some (.int .i64 n8)) ∧ bif hb (n8 == 2) then (∃ (J9 : Int → Hp → Nat → Prop), (∃ k10, J9 (-1) h3 k10) ∧ ∀ (n11 : Int), ∀ (x12 : Hp), ∀ (k13 : Nat), (J9 n11 x12 k13) → (∃ k14, ∃ k15, (a4 = some ⟨k14, k15, none⟩) ∧ ∃ a16, ∃ k17, ∃ k18, (x12.cell k14 (k15 + 2) = some (.slice a16 k17 k18)) ∧ bif hb (decide (n11 < Int.ofNat k17)) then (∃ (v19 : Value), (x12.cell p22_b p22_o = some v19) ∧ FnH Tryd.prog (.func (Fn.func 42) #[] #[]) ([.pointer a4, .int .i64 n11]) (x12) (fun v20 h21 => ∃ n22, (v20 = .int .i64 n22) ∧ (Gx.Sub x12 h21) ∧ FnH Tryd.prog (v19) ([.int .i64 n22]) (h21) (fun v23 h24 => (v23 = .tuple #[]) ∧ ∃ k25, (k25 < k13) ∧ J9 (IntKind.i64.wrap (n11 + 1)) h24 k25))) else (∃ (v26 : Value), (x12.cell p33_b p33_o = some v26) ∧ FnH Tryd.prog (v26) ([.int .i64 id, .pointer a4]) (x12) (fun v27 h28 => (v27 = .tuple #[]) ∧ Q (.tuple #[]) h28)))) else (∃ (v29 : Value), (h3.cell p33_b p33_o = some v29) ∧ FnH Tryd.prog (v29) ([.int .i64 id, .pointer a4]) (h3) (fun v30 h31 => (v30 = .tuple #[]) ∧ Q (.tuple #[]) h31)))))
theorem btree_Tree_each_1.calls (id : Int) (p11_b p11_o : Nat) (p22_b p22_o : Nat) (p33_b p33_o : Nat) {h : Hp} {Q : Value → Hp → Prop} (hW : btree_Tree_each_1.W id p11_b p11_o p22_b p22_o p33_b p33_o h Q) : CallsH Tryd.prog 71 #[.int .i64 id, .pointer (some ⟨p11_b, p11_o, none⟩), .pointer (some ⟨p22_b, p22_o, none⟩), .pointer (some ⟨p33_b, p33_o, none⟩)] h Q := by
  have hE_ : bodyW Tryd.prog btree_Tree_each_1.H Tryd.f71 [.val (.int .i64 id), .ptr p11_b p11_o, .ptr p22_b p22_o, .ptr p33_b p33_o] h Q = btree_Tree_each_1.W id p11_b p11_o p22_b p22_o p33_b p33_o h Q := by kernel_rfl
  rw [← hE_] at hW
  exact calls_of_body (H := btree_Tree_each_1.H) (args := [.val (.int .i64 id), .ptr p11_b p11_o, .ptr p22_b p22_o, .ptr p33_b p33_o]) Tryd.func71 Tryd.ntmps71 rfl rfl hW

def sort_Search.H : Hints := { N := 26, loc := (fun _ => false), join := (fun _ => none), loop := (fun i => bif Nat.beq i 2 then some [.slot 5 (.int .i64), .slot 6 (.int .i64)] else none), ifc := 0, order := (fun _ => none), clo := true }
def sort_Search.W (n : Int) (f : Value) (h : Hp) (Q : Value → Hp → Prop) : Prop :=
  (∃ (J1 : Int → Int → Hp → Nat → Prop), (∃ k2, J1 0 n h k2) ∧ ∀ (n3 : Int), ∀ (n4 : Int), ∀ (x5 : Hp), ∀ (k6 : Nat), (J1 n3 n4 x5 k6) → (bif hb (decide (n3 < n4)) then ((Int.ofNat 0 ≤ 1) ∧ FnH Tryd.prog (f) ([.int .i64 (IntKind.i64.wrap (ishr IntKind.u64 (IntKind.u64.wrap (IntKind.i64.wrap (n3 + n4))) 1))]) (x5) (fun v7 h8 => ∃ b9, (v7 = .bool b9) ∧ bif !b9 then (∃ k10, (k10 < k6) ∧ J1 (IntKind.i64.wrap (IntKind.i64.wrap (ishr IntKind.u64 (IntKind.u64.wrap (IntKind.i64.wrap (n3 + n4))) 1) + 1)) n4 h8 k10) else (∃ k11, (k11 < k6) ∧ J1 n3 (IntKind.i64.wrap (ishr IntKind.u64 (IntKind.u64.wrap (IntKind.i64.wrap (n3 + n4))) 1)) h8 k11))) else (Q (.int .i64 n3) x5)))
theorem sort_Search.calls (n : Int) (f : Value) {h : Hp} {Q : Value → Hp → Prop} (hW : sort_Search.W n f h Q) : CallsH Tryd.prog 77 #[.int .i64 n, f] h Q := by
  have hE_ : bodyW Tryd.prog sort_Search.H Tryd.f77 [.val (.int .i64 n), .val (f)] h Q = sort_Search.W n f h Q := by kernel_rfl
  rw [← hE_] at hW
  exact calls_of_body (H := sort_Search.H) (args := [.val (.int .i64 n), .val (f)]) Tryd.func77 Tryd.ntmps77 rfl rfl hW

end Go.Proofs.YthbogjbcecmopaaDoor
namespace Go.Proofs.YthbogjbcecmopaaDoor
open Go.Gx
set_option maxRecDepth 100000
set_option linter.unusedVariables false

def law15_BtreeEmpty.H : Hints := { N := 136, loc := (fun _ => false), join := (fun i => bif Nat.beq i 12 then some [] else bif Nat.beq i 14 then some [] else bif Nat.beq i 21 then some [.slot 11 (.int .i64)] else none), loop := (fun i => bif Nat.beq i 5 then some [.slot 8 (.int .i64)] else bif Nat.beq i 16 then some [.slot 9 (.slice), .slot 10 (.int .i64)] else none), ifc := 0, order := (fun i => bif Nat.beq i 11 then some (some 11, false, [0, 1, 2, 3, 4, 5, 6, 7, 8, 9, 10, 11], .q 0 (.q 1 (.q 2 (.q 3 (.q 4 (.q 5 (.q 6 (.q 7 (.q 8 (.q 9 (.f 10 (.f 11 (.done) .e) .e))))))))))) else bif Nat.beq i 23 then some (some 8, false, [0, 1, 2, 3, 4, 5, 6, 7, 8, 9], .q 0 (.q 1 (.q 2 (.q 3 (.q 4 (.q 5 (.q 6 (.q 7 (.f 8 (.q 9 .done) .e))))))))) else none) }
def law15_BtreeEmpty.W (opsa : Option Addr) (opsl opsc : Nat) (ordera : Option Addr) (orderl orderc : Nat) (h : Hp) (Q : Value → Hp → Prop) : Prop :=
  (CallsH Tryd.prog 5 (#[.int .i64 24]) (h) (fun v1 h2 => ∃ a3, ∃ a4, ∃ a5, (v1 = .tuple #[.pointer a3, .pointer a4, .pointer a5]) ∧ bif a5.isNone then (Q (.bool false) h2) else (∃ (J6 : Hp → Prop), (∀ (x7 : Hp), (J6 x7) → (CallsH Tryd.prog 13 (#[.pointer a5]) (x7) (fun v8 h9 => ∃ a10, ∃ k11, ∃ k12, (v8 = .slice a10 k11 k12) ∧ ∃ (J13 : Option Addr → Nat → Nat → Int → Hp → Nat → Prop), (∃ k14, J13 a10 k11 k12 0 h9 k14) ∧ ∀ (a15 : Option Addr), ∀ (k16 : Nat), ∀ (k17 : Nat), ∀ (n18 : Int), ∀ (x19 : Hp), ∀ (k20 : Nat), (J13 a15 k16 k17 n18 x19 k20) → (bif hb (decide (Int.ofNat k16 > 0)) then (∃ (J21 : Int → Hp → Prop), (∀ (n22 : Int), ∀ (x23 : Hp), (J21 n22 x23) → ((0 ≤ n22) ∧ (n22 < Int.ofNat k16) ∧ ∃ k24, ∃ k25, (a15 = some ⟨k24, k25, none⟩) ∧ ∃ s26, (x23.cell k24 (k25 + n22.toNat * 2) = some (.string s26)) ∧ CallsH Tryd.prog 8 (#[.pointer a5, .string s26]) (x23) (fun v27 h28 => ∃ b29, (v27 = .bool b29) ∧ bif !b29 then (Q (.bool false) h28) else (CallsH Tryd.prog 14 (#[.pointer a5]) (h28) (fun v30 h31 => ∃ n32, (v30 = .int .i64 n32) ∧ bif hb (n32 != 0) then (Q (.bool false) h31) else ((0 ≤ n22) ∧ (n22 ≤ Int.ofNat k17) ∧ (0 ≤ n22) ∧ (n22 ≤ Int.ofNat n22.toNat) ∧ (0 ≤ IntKind.i64.wrap (n22 + 1)) ∧ (IntKind.i64.wrap (n22 + 1) ≤ Int.ofNat k16) ∧ ∃ (xs33 : List Value), (SliceAt (h31) (slA k17 (IntKind.i64.wrap (n22 + 1)).toNat 2 a15) ((k16 - (IntKind.i64.wrap (n22 + 1)).toNat) * 2) (xs33)) ∧ ∃ (J34 : Option Addr → Nat → Hp → Prop), (∀ (a35 : Option Addr), ∀ (k36 : Nat), ∀ (x37 : Hp), (J34 a35 k36 x37) → (∃ k38, (k38 < k20) ∧ J13 a35 (n22.toNat + (k16 - (IntKind.i64.wrap (n22 + 1)).toNat)) k36 (IntKind.i64.wrap (n18 + 1)) x37 k38)) ∧ appendC Tryd.prog 41 (slA n22.toNat 0 2 a15) n22.toNat n22.toNat h31 xs33 (k16 - (IntKind.i64.wrap (n22 + 1)).toNat) J34)))))) ∧ bif hb (decide (n18 < Int.ofNat orderl)) then ((0 ≤ n18) ∧ (n18 < Int.ofNat orderl) ∧ ∃ k39, ∃ k40, (ordera = some ⟨k39, k40, none⟩) ∧ ∃ n41, (x19.cell k39 (k40 + n18.toNat * 1) = some (.int .i64 n41)) ∧ bif hb (decide (n41 > 0)) then ((0 ≤ n18) ∧ (n18 < Int.ofNat orderl) ∧ ∃ k42, ∃ k43, (ordera = some ⟨k42, k43, none⟩) ∧ ∃ n44, (x19.cell k42 (k43 + n18.toNat * 1) = some (.int .i64 n44)) ∧ ((Int.ofNat k16 = 0) → False) ∧ J21 (n44.tmod (Int.ofNat k16)) x19) else (J21 0 x19)) else (J21 0 x19)) else (CallsH Tryd.prog 15 (#[.pointer a5]) (x19) (fun v45 h46 => ∃ n47, (v45 = .int .i64 n47) ∧ bif hb (n47 == 0) then (CallsH Tryd.prog 11 (#[.pointer a5]) (h46) (fun v48 h49 => ∃ n50, (v48 = .int .i64 n50) ∧ bif hb (n50 == 0) then (CallsH Tryd.prog 12 (#[.pointer a4]) (h49) (fun v51 h52 => ∃ n53, (v51 = .int .i64 n53) ∧ bif hb (n53 == 23) then (CallsH Tryd.prog 16 (#[.pointer a4, .int .i64 1]) (h52) (fun v54 h55 => ∃ n56, (v54 = .int .i64 n56) ∧ bif hb (n56 == 0) then (CallsH Tryd.prog 7 (#[]) (h55) (fun v57 h58 => ∃ b59, (v57 = .bool b59) ∧ Q (.bool b59) h58)) else (Q (.bool false) h55))) else (Q (.bool false) h52))) else (Q (.bool false) h49))) else (Q (.bool false) h46))))))) ∧ ∃ (J60 : Int → Hp → Nat → Prop), (∃ k61, J60 0 h2 k61) ∧ ∀ (n62 : Int), ∀ (x63 : Hp), ∀ (k64 : Nat), (J60 n62 x63 k64) → (bif hb (decide (n62 < Int.ofNat opsl)) then (bif hb (decide (n62 < 80)) then ((0 ≤ n62) ∧ (n62 < Int.ofNat opsl) ∧ ∃ k65, ∃ k66, (opsa = some ⟨k65, k66, none⟩) ∧ ∃ n67, (x63.cell k65 (k66 + n62.toNat * 6) = some (.int .i64 n67)) ∧ ∃ n68, (x63.cell k65 (k66 + n62.toNat * 6 + 1) = some (.int .i64 n68)) ∧ ∃ n69, (x63.cell k65 (k66 + n62.toNat * 6 + 1 + 1) = some (.int .i64 n69)) ∧ ∃ s70, (x63.cell k65 (k66 + n62.toNat * 6 + 1 + 1 + 1) = some (.string s70)) ∧ ∃ s71, (x63.cell k65 (k66 + n62.toNat * 6 + 1 + 1 + 1 + 1) = some (.string s71)) ∧ ∃ s72, (x63.cell k65 (k66 + n62.toNat * 6 + 1 + 1 + 1 + 1 + 1) = some (.string s72)) ∧ CallsH Tryd.prog 6 (#[.agg #[.int .i64 n67, .int .i64 n68, .int .i64 n69, .string s70, .string s71, .string s72]]) (x63) (fun v73 h74 => ∃ b75, (v73 = .bool b75) ∧ bif !b75 then (CallsH Tryd.prog 7 (#[]) (h74) (fun v76 h77 => ∃ b78, (v76 = .bool b78) ∧ Q (.bool b78) h77)) else (∃ (J79 : Hp → Prop), (∀ (x80 : Hp), (J79 x80) → (CallsH Tryd.prog 11 (#[.pointer a5]) (x80) (fun v81 h82 => ∃ n83, (v81 = .int .i64 n83) ∧ CallsH Tryd.prog 12 (#[.pointer a4]) (h82) (fun v84 h85 => ∃ n86, (v84 = .int .i64 n86) ∧ bif !hb (n83 == 0) == hb (n86 == 23) then (Q (.bool false) h85) else (∃ k87, (k87 < k64) ∧ J60 (IntKind.i64.wrap (n62 + 1)) h85 k87))))) ∧ (0 ≤ n62) ∧ (n62 < Int.ofNat opsl) ∧ ∃ k88, ∃ k89, (opsa = some ⟨k88, k89, none⟩) ∧ ∃ n90, (h74.cell k88 (k89 + n62.toNat * 6) = some (.int .i64 n90)) ∧ bif hb (n90 == 1) then ((0 ≤ n62) ∧ (n62 < Int.ofNat opsl) ∧ ∃ k91, ∃ k92, (opsa = some ⟨k91, k92, none⟩) ∧ ∃ s93, (h74.cell k91 (k92 + n62.toNat * 6 + 3) = some (.string s93)) ∧ CallsH Tryd.prog 8 (#[.pointer a5, .string s93]) (h74) (fun v94 h95 => ∃ b96, (v94 = .bool b96) ∧ J79 h95)) else ((0 ≤ n62) ∧ (n62 < Int.ofNat opsl) ∧ ∃ k97, ∃ k98, (opsa = some ⟨k97, k98, none⟩) ∧ ∃ s99, (h74.cell k97 (k98 + n62.toNat * 6 + 3) = some (.string s99)) ∧ (0 ≤ n62) ∧ (n62 < Int.ofNat opsl) ∧ ∃ k100, ∃ k101, (opsa = some ⟨k100, k101, none⟩) ∧ ∃ n102, (h74.cell k100 (k101 + n62.toNat * 6) = some (.int .i64 n102)) ∧ ∃ n103, (h74.cell k100 (k101 + n62.toNat * 6 + 1) = some (.int .i64 n103)) ∧ ∃ n104, (h74.cell k100 (k101 + n62.toNat * 6 + 1 + 1) = some (.int .i64 n104)) ∧ ∃ s105, (h74.cell k100 (k101 + n62.toNat * 6 + 1 + 1 + 1) = some (.string s105)) ∧ ∃ s106, (h74.cell k100 (k101 + n62.toNat * 6 + 1 + 1 + 1 + 1) = some (.string s106)) ∧ ∃ s107, (h74.cell k100 (k101 + n62.toNat * 6 + 1 + 1 + 1 + 1 + 1) = some (.string s107)) ∧ CallsH Tryd.prog 10 (#[.agg #[.int .i64 n102, .int .i64 n103, .int .i64 n104, .string s105, .string s106, .string s107]]) (h74) (fun v108 h109 => ∃ s110, (v108 = .string s110) ∧ (Gx.Sub h74 h109) ∧ CallsH Tryd.prog 9 (#[.pointer a5, .string s99, .string s110]) (h109) (fun v111 h112 => ∃ n113, (v111 = .int .i64 n113) ∧ J79 h112)))))) else (J6 x63)) else (J6 x63)))))
theorem law15_BtreeEmpty.calls (opsa : Option Addr) (opsl opsc : Nat) (ordera : Option Addr) (orderl orderc : Nat) {h : Hp} {Q : Value → Hp → Prop} (hW : law15_BtreeEmpty.W opsa opsl opsc ordera orderl orderc h Q) : CallsH Tryd.prog 3 #[.slice opsa opsl opsc, .slice ordera orderl orderc] h Q := by
  have hE_ : bodyW Tryd.prog law15_BtreeEmpty.H Tryd.f3 [.val (.slice opsa opsl opsc), .val (.slice ordera orderl orderc)] h Q = law15_BtreeEmpty.W opsa opsl opsc ordera orderl orderc h Q := by kernel_rfl
  rw [← hE_] at hW
  exact calls_of_body (H := law15_BtreeEmpty.H) (args := [.val (.slice opsa opsl opsc), .val (.slice ordera orderl orderc)]) Tryd.func3 Tryd.ntmps3 rfl rfl hW

def law15_BtreeTwo.H : Hints := { N := 184, loc := (fun _ => false), join := (fun i => bif Nat.beq i 9 then some [] else bif Nat.beq i 17 then some [.slot 10 (.slice), .slot 13 (.bool)] else bif Nat.beq i 24 then some [.slot 11 (.slice), .slot 14 (.bool)] else bif Nat.beq i 26 then some [.slot 11 (.slice)] else none), loop := (fun i => bif Nat.beq i 7 then some [.slot 10 (.slice), .slot 11 (.slice), .slot 12 (.int .i64)] else none), ifc := 0, order := (fun i => bif Nat.beq i 16 then some (some 13, false, [0, 1, 2, 3, 4, 5, 6, 7, 8, 9, 10, 11, 12, 13, 14, 15, 16, 17, 18], .q 0 (.q 1 (.q 2 (.q 3 (.q 4 (.q 5 (.q 6 (.q 7 (.q 8 (.q 9 (.q 10 (.q 11 (.f 12 (.f 13 (.q 14 (.q 15 (.q 16 (.q 17 (.q 18 .done))))) .e) .e))))))))))))) else bif Nat.beq i 23 then some (some 13, false, [0, 1, 2, 3, 4, 5, 6, 7, 8, 9, 10, 11, 12, 13, 14, 15, 16, 17, 18], .q 0 (.q 1 (.q 2 (.q 3 (.q 4 (.q 5 (.q 6 (.q 7 (.q 8 (.q 9 (.q 10 (.q 11 (.f 12 (.f 13 (.q 14 (.q 15 (.q 16 (.q 17 (.q 18 .done))))) .e) .e))))))))))))) else none) }
def law15_BtreeTwo.W (opsa : Option Addr) (opsl opsc : Nat) (morea : Option Addr) (morel morec : Nat) (h : Hp) (Q : Value → Hp → Prop) : Prop :=
  (CallsH Tryd.prog 5 (#[.int .i64 24]) (h) (fun v1 h2 => ∃ a3, ∃ a4, ∃ a5, (v1 = .tuple #[.pointer a3, .pointer a4, .pointer a5]) ∧ CallsH Tryd.prog 17 (#[.pointer a4, .int .i64 3]) (h2) (fun v6 h7 => ∃ a8, ∃ n9, (v6 = .tuple #[.pointer a8, .int .i64 n9]) ∧ bif a5.isNone then (Q (.bool false) h7) else (bif hb (n9 != 0) then (Q (.bool false) h7) else (∃ (J10 : Option Addr → Nat → Nat → Hp → Prop), (∀ (a11 : Option Addr), ∀ (k12 : Nat), ∀ (k13 : Nat), ∀ (x14 : Hp), (J10 a11 k12 k13 x14) → (CallsH Tryd.prog 21 (#[.pointer a5]) (x14) (fun v15 h16 => (v15 = .tuple #[]) ∧ CallsH Tryd.prog 13 (#[.pointer a8]) (h16) (fun v17 h18 => ∃ a19, ∃ k20, ∃ k21, (v17 = .slice a19 k20 k21) ∧ CallsH Tryd.prog 20 (#[.slice a19 k20 k21, .slice a11 k12 k13]) (h18) (fun v22 h23 => ∃ b24, (v22 = .bool b24) ∧ bif !b24 then (Q (.bool false) h23) else (CallsH Tryd.prog 21 (#[.pointer a8]) (h23) (fun v25 h26 => (v25 = .tuple #[]) ∧ CallsH Tryd.prog 12 (#[.pointer a4]) (h26) (fun v27 h28 => ∃ n29, (v27 = .int .i64 n29) ∧ bif hb (n29 == 23) then (CallsH Tryd.prog 7 (#[]) (h28) (fun v30 h31 => ∃ b32, (v30 = .bool b32) ∧ Q (.bool b32) h31)) else (Q (.bool false) h28))))))))) ∧ ∃ (J33 : Option Addr → Nat → Nat → Option Addr → Nat → Nat → Int → Hp → Nat → Prop), (∃ k34, J33 none 0 0 none 0 0 0 h7 k34) ∧ ∀ (a35 : Option Addr), ∀ (k36 : Nat), ∀ (k37 : Nat), ∀ (a38 : Option Addr), ∀ (k39 : Nat), ∀ (k40 : Nat), ∀ (n41 : Int), ∀ (x42 : Hp), ∀ (k43 : Nat), (J33 a35 k36 k37 a38 k39 k40 n41 x42 k43) → (∃ (J44 : Hp → Prop), (∀ (x45 : Hp), (J44 x45) → (∃ (J46 : Option Addr → Nat → Nat → Bool → Hp → Prop), (∀ (a47 : Option Addr), ∀ (k48 : Nat), ∀ (k49 : Nat), ∀ (b50 : Bool), ∀ (x51 : Hp), (J46 a47 k48 k49 b50 x51) → (∃ (J52 : Option Addr → Nat → Nat → Bool → Hp → Prop), (∀ (a53 : Option Addr), ∀ (k54 : Nat), ∀ (k55 : Nat), ∀ (b56 : Bool), ∀ (x57 : Hp), (J52 a53 k54 k55 b56 x57) → (bif !b50 then (Q (.bool false) x57) else (bif !b56 then (Q (.bool false) x57) else (CallsH Tryd.prog 13 (#[.pointer a5]) (x57) (fun v58 h59 => ∃ a60, ∃ k61, ∃ k62, (v58 = .slice a60 k61 k62) ∧ CallsH Tryd.prog 20 (#[.slice a60 k61 k62, .slice a47 k48 k49]) (h59) (fun v63 h64 => ∃ b65, (v63 = .bool b65) ∧ bif !b65 then (Q (.bool false) h64) else (CallsH Tryd.prog 13 (#[.pointer a8]) (h64) (fun v66 h67 => ∃ a68, ∃ k69, ∃ k70, (v66 = .slice a68 k69 k70) ∧ CallsH Tryd.prog 20 (#[.slice a68 k69 k70, .slice a53 k54 k55]) (h67) (fun v71 h72 => ∃ b73, (v71 = .bool b73) ∧ bif !b73 then (Q (.bool false) h72) else (∃ k74, (k74 < k43) ∧ J33 a47 k48 k49 a53 k54 k55 (IntKind.i64.wrap (n41 + 1)) h72 k74)))))))))) ∧ bif hb (decide (n41 < Int.ofNat morel)) then ((0 ≤ n41) ∧ (n41 < Int.ofNat morel) ∧ ∃ k75, ∃ k76, (morea = some ⟨k75, k76, none⟩) ∧ ∃ n77, (x51.cell k75 (k76 + n41.toNat * 6) = some (.int .i64 n77)) ∧ ∃ n78, (x51.cell k75 (k76 + n41.toNat * 6 + 1) = some (.int .i64 n78)) ∧ ∃ n79, (x51.cell k75 (k76 + n41.toNat * 6 + 1 + 1) = some (.int .i64 n79)) ∧ ∃ s80, (x51.cell k75 (k76 + n41.toNat * 6 + 1 + 1 + 1) = some (.string s80)) ∧ ∃ s81, (x51.cell k75 (k76 + n41.toNat * 6 + 1 + 1 + 1 + 1) = some (.string s81)) ∧ ∃ s82, (x51.cell k75 (k76 + n41.toNat * 6 + 1 + 1 + 1 + 1 + 1) = some (.string s82)) ∧ CallsH Tryd.prog 6 (#[.agg #[.int .i64 n77, .int .i64 n78, .int .i64 n79, .string s80, .string s81, .string s82]]) (x51) (fun v83 h84 => ∃ b85, (v83 = .bool b85) ∧ bif !b85 then (CallsH Tryd.prog 7 (#[]) (h84) (fun v86 h87 => ∃ b88, (v86 = .bool b88) ∧ Q (.bool b88) h87)) else ((0 ≤ n41) ∧ (n41 < Int.ofNat morel) ∧ ∃ k89, ∃ k90, (morea = some ⟨k89, k90, none⟩) ∧ ∃ n91, (h84.cell k89 (k90 + n41.toNat * 6) = some (.int .i64 n91)) ∧ bif hb (n91 == 1) then ((0 ≤ n41) ∧ (n41 < Int.ofNat morel) ∧ ∃ k92, ∃ k93, (morea = some ⟨k92, k93, none⟩) ∧ ∃ s94, (h84.cell k92 (k93 + n41.toNat * 6 + 3) = some (.string s94)) ∧ CallsH Tryd.prog 8 (#[.pointer a8, .string s94]) (h84) (fun v95 h96 => ∃ b97, (v95 = .bool b97) ∧ (0 ≤ n41) ∧ (n41 < Int.ofNat morel) ∧ ∃ k98, ∃ k99, (morea = some ⟨k98, k99, none⟩) ∧ ∃ s100, (h96.cell k98 (k99 + n41.toNat * 6 + 3) = some (.string s100)) ∧ CallsH Tryd.prog 18 (#[.slice a38 k39 k40, .string s100]) (h96) (fun v101 h102 => ∃ a103, ∃ k104, ∃ k105, ∃ b106, (v101 = .tuple #[.slice a103 k104 k105, .bool b106]) ∧ J52 a103 k104 k105 true h102))) else ((0 ≤ n41) ∧ (n41 < Int.ofNat morel) ∧ ∃ k107, ∃ k108, (morea = some ⟨k107, k108, none⟩) ∧ ∃ s109, (h84.cell k107 (k108 + n41.toNat * 6 + 3) = some (.string s109)) ∧ (0 ≤ n41) ∧ (n41 < Int.ofNat morel) ∧ ∃ k110, ∃ k111, (morea = some ⟨k110, k111, none⟩) ∧ ∃ n112, (h84.cell k110 (k111 + n41.toNat * 6) = some (.int .i64 n112)) ∧ ∃ n113, (h84.cell k110 (k111 + n41.toNat * 6 + 1) = some (.int .i64 n113)) ∧ ∃ n114, (h84.cell k110 (k111 + n41.toNat * 6 + 1 + 1) = some (.int .i64 n114)) ∧ ∃ s115, (h84.cell k110 (k111 + n41.toNat * 6 + 1 + 1 + 1) = some (.string s115)) ∧ ∃ s116, (h84.cell k110 (k111 + n41.toNat * 6 + 1 + 1 + 1 + 1) = some (.string s116)) ∧ ∃ s117, (h84.cell k110 (k111 + n41.toNat * 6 + 1 + 1 + 1 + 1 + 1) = some (.string s117)) ∧ CallsH Tryd.prog 10 (#[.agg #[.int .i64 n112, .int .i64 n113, .int .i64 n114, .string s115, .string s116, .string s117]]) (h84) (fun v118 h119 => ∃ s120, (v118 = .string s120) ∧ (Gx.Sub h84 h119) ∧ CallsH Tryd.prog 19 (#[.pointer a4, .pointer a8, .slice a38 k39 k40, .string s109, .string s120]) (h119) (fun v121 h122 => ∃ a123, ∃ k124, ∃ k125, ∃ b126, (v121 = .tuple #[.slice a123 k124 k125, .bool b126]) ∧ J52 a123 k124 k125 b126 h122)))))) else (J52 a38 k39 k40 true x51))) ∧ bif hb (decide (n41 < Int.ofNat opsl)) then ((0 ≤ n41) ∧ (n41 < Int.ofNat opsl) ∧ ∃ k127, ∃ k128, (opsa = some ⟨k127, k128, none⟩) ∧ ∃ n129, (x45.cell k127 (k128 + n41.toNat * 6) = some (.int .i64 n129)) ∧ ∃ n130, (x45.cell k127 (k128 + n41.toNat * 6 + 1) = some (.int .i64 n130)) ∧ ∃ n131, (x45.cell k127 (k128 + n41.toNat * 6 + 1 + 1) = some (.int .i64 n131)) ∧ ∃ s132, (x45.cell k127 (k128 + n41.toNat * 6 + 1 + 1 + 1) = some (.string s132)) ∧ ∃ s133, (x45.cell k127 (k128 + n41.toNat * 6 + 1 + 1 + 1 + 1) = some (.string s133)) ∧ ∃ s134, (x45.cell k127 (k128 + n41.toNat * 6 + 1 + 1 + 1 + 1 + 1) = some (.string s134)) ∧ CallsH Tryd.prog 6 (#[.agg #[.int .i64 n129, .int .i64 n130, .int .i64 n131, .string s132, .string s133, .string s134]]) (x45) (fun v135 h136 => ∃ b137, (v135 = .bool b137) ∧ bif !b137 then (CallsH Tryd.prog 7 (#[]) (h136) (fun v138 h139 => ∃ b140, (v138 = .bool b140) ∧ Q (.bool b140) h139)) else ((0 ≤ n41) ∧ (n41 < Int.ofNat opsl) ∧ ∃ k141, ∃ k142, (opsa = some ⟨k141, k142, none⟩) ∧ ∃ n143, (h136.cell k141 (k142 + n41.toNat * 6) = some (.int .i64 n143)) ∧ bif hb (n143 == 1) then ((0 ≤ n41) ∧ (n41 < Int.ofNat opsl) ∧ ∃ k144, ∃ k145, (opsa = some ⟨k144, k145, none⟩) ∧ ∃ s146, (h136.cell k144 (k145 + n41.toNat * 6 + 3) = some (.string s146)) ∧ CallsH Tryd.prog 8 (#[.pointer a5, .string s146]) (h136) (fun v147 h148 => ∃ b149, (v147 = .bool b149) ∧ (0 ≤ n41) ∧ (n41 < Int.ofNat opsl) ∧ ∃ k150, ∃ k151, (opsa = some ⟨k150, k151, none⟩) ∧ ∃ s152, (h148.cell k150 (k151 + n41.toNat * 6 + 3) = some (.string s152)) ∧ CallsH Tryd.prog 18 (#[.slice a35 k36 k37, .string s152]) (h148) (fun v153 h154 => ∃ a155, ∃ k156, ∃ k157, ∃ b158, (v153 = .tuple #[.slice a155 k156 k157, .bool b158]) ∧ J46 a155 k156 k157 true h154))) else ((0 ≤ n41) ∧ (n41 < Int.ofNat opsl) ∧ ∃ k159, ∃ k160, (opsa = some ⟨k159, k160, none⟩) ∧ ∃ s161, (h136.cell k159 (k160 + n41.toNat * 6 + 3) = some (.string s161)) ∧ (0 ≤ n41) ∧ (n41 < Int.ofNat opsl) ∧ ∃ k162, ∃ k163, (opsa = some ⟨k162, k163, none⟩) ∧ ∃ n164, (h136.cell k162 (k163 + n41.toNat * 6) = some (.int .i64 n164)) ∧ ∃ n165, (h136.cell k162 (k163 + n41.toNat * 6 + 1) = some (.int .i64 n165)) ∧ ∃ n166, (h136.cell k162 (k163 + n41.toNat * 6 + 1 + 1) = some (.int .i64 n166)) ∧ ∃ s167, (h136.cell k162 (k163 + n41.toNat * 6 + 1 + 1 + 1) = some (.string s167)) ∧ ∃ s168, (h136.cell k162 (k163 + n41.toNat * 6 + 1 + 1 + 1 + 1) = some (.string s168)) ∧ ∃ s169, (h136.cell k162 (k163 + n41.toNat * 6 + 1 + 1 + 1 + 1 + 1) = some (.string s169)) ∧ CallsH Tryd.prog 10 (#[.agg #[.int .i64 n164, .int .i64 n165, .int .i64 n166, .string s167, .string s168, .string s169]]) (h136) (fun v170 h171 => ∃ s172, (v170 = .string s172) ∧ (Gx.Sub h136 h171) ∧ CallsH Tryd.prog 19 (#[.pointer a4, .pointer a5, .slice a35 k36 k37, .string s161, .string s172]) (h171) (fun v173 h174 => ∃ a175, ∃ k176, ∃ k177, ∃ b178, (v173 = .tuple #[.slice a175 k176 k177, .bool b178]) ∧ J46 a175 k176 k177 b178 h174)))))) else (J46 a35 k36 k37 true x45))) ∧ bif hb (decide (n41 < 60)) then (bif hb (decide (n41 < Int.ofNat opsl)) then (J44 x42) else (bif hb (decide (n41 < Int.ofNat morel)) then (J44 x42) else (J10 a38 k39 k40 x42))) else (J10 a38 k39 k40 x42)))))))
theorem law15_BtreeTwo.calls (opsa : Option Addr) (opsl opsc : Nat) (morea : Option Addr) (morel morec : Nat) {h : Hp} {Q : Value → Hp → Prop} (hW : law15_BtreeTwo.W opsa opsl opsc morea morel morec h Q) : CallsH Tryd.prog 4 #[.slice opsa opsl opsc, .slice morea morel morec] h Q := by
  have hE_ : bodyW Tryd.prog law15_BtreeTwo.H Tryd.f4 [.val (.slice opsa opsl opsc), .val (.slice morea morel morec)] h Q = law15_BtreeTwo.W opsa opsl opsc morea morel morec h Q := by kernel_rfl
  rw [← hE_] at hW
  exact calls_of_body (H := law15_BtreeTwo.H) (args := [.val (.slice opsa opsl opsc), .val (.slice morea morel morec)]) Tryd.func4 Tryd.ntmps4 rfl rfl hW

end Go.Proofs.YthbogjbcecmopaaDoor
namespace Go.Gx
theorem mget_mset (m : List (Value × Value)) (k v k' : Value) : (k' = k → mget (mset m k v) k' = some v) ∧ (k' ≠ k → mget (mset m k v) k' = mget m k') := by
  unfold mset
  cases h : mget m k with
  | some u =>
    simp only []
    constructor
    · rintro rfl
      unfold mget at h ⊢
      induction m with
      | nil => simp at h
      | cons e m ih =>
        rw [List.map_cons]
        by_cases he : e.1 = k'
        · rw [if_pos he, List.find?_cons_of_pos (by simp)]; rfl
        · rw [if_neg he, List.find?_cons_of_neg (by simpa using he)]
          rw [List.find?_cons_of_neg (by simpa using he)] at h
          exact ih h
    · intro hn
      clear h
      unfold mget
      congr 1
      have : ∀ m : List (Value × Value), (m.map fun e => @ite _ (e.1 = k) (Classical.propDecidable _) (k, v) e).find? (fun e => @decide (e.1 = k') (Classical.propDecidable _)) = m.find? (fun e => @decide (e.1 = k') (Classical.propDecidable _)) := by
        intro m
        induction m with
        | nil => rfl
        | cons e m ih =>
          rw [List.map_cons]
          by_cases he : e.1 = k
          · rw [if_pos he, List.find?_cons_of_neg (by simpa using fun h => hn h.symm), List.find?_cons_of_neg (by simpa using fun h => hn (h.symm.trans he)), ih]
          · rw [if_neg he]
            by_cases hk : e.1 = k'
            · rw [List.find?_cons_of_pos (by simpa using hk), List.find?_cons_of_pos (by simpa using hk)]
            · rw [List.find?_cons_of_neg (by simpa using hk), List.find?_cons_of_neg (by simpa using hk), ih]
      rw [this]
  | none =>
    simp only []
    constructor
    · rintro rfl
      unfold mget at h ⊢
      rw [Option.map_eq_none_iff] at h
      rw [List.find?_append, h]
      simp
    · intro hn
      unfold mget
      rw [List.find?_append]
      have : [(k, v)].find? (fun e => @decide (e.1 = k') (Classical.propDecidable _)) = none := by
        rw [List.find?_cons_of_neg (by simpa using fun h => hn h.symm)]; rfl
      rw [this]; simp
theorem YieldH.mono {P : Program} {l : Nat} {args : List Value} {h : Hp} {Q Q' : Value → Hp → Prop} (H : YieldH P l args h Q) (hq : ∀ v h', Q v h' → Q' v h') : YieldH P l args h Q' := fun w hw =>
  let ⟨fn, t, a, b, h1, h2⟩ := H w hw
  ⟨fn, t, a, b, h1, RoundIn.mono h2 fun _ _ ⟨v, h', e, q, r, s⟩ => ⟨v, h', e, hq v h' q, r, s⟩⟩
theorem Sub.own {h x : Hp} (s : Sub h x) {b : Nat} (hb : h b = Option.none) (o : Obj) : Sub h (x.upd b o) := fun c y e => by
  rw [Hp.upd_ne _ _ (fun e' => by rw [e', hb] at e; cases e)]
  exact s c y e
end Go.Gx
namespace Go.Proofs.YthbogjbcecmopaaDoor
open Go.Gx
set_option maxRecDepth 100000
set_option linter.unusedVariables false

def Step (S : Nat → Prop) (h : Hp) (S' : Nat → Prop) (h' : Hp) : Prop := Keep S h h' ∧ ∀ c, S' c → S c ∨ h c = none
theorem Step.refl (S : Nat → Prop) (h : Hp) : Step S h S h := ⟨Keep.refl S h, fun _ h => .inl h⟩
theorem Step.trans {S S1 S2 : Nat → Prop} {h h1 h2 : Hp} (a : Step S h S1 h1) (b : Step S1 h1 S2 h2) : Step S h S2 h2 := by
  refine ⟨fun c o hc hn => b.1 c o (a.1 c o hc hn) fun h1 => ?_, fun c hc => ?_⟩
  · rcases a.2 c h1 with h | h
    · exact hn h
    · rw [h] at hc; cases hc
  · rcases b.2 c hc with h | h
    · exact a.2 c h
    · by_cases hS : S c
      · exact .inl hS
      · exact .inr (Option.eq_none_iff_forall_ne_some.2 fun o e4 => by rw [a.1 c o e4 hS] at h; cases h)
theorem Step.sub {S : Nat → Prop} {h h' : Hp} (s : Sub h h') : Step S h S h' := ⟨s.keep S, fun _ h => .inl h⟩
theorem Step.out {S S' : Nat → Prop} {h h' : Hp} (s : Step S h S' h') {c : Nat} {o : Obj} (hc : h c = some o) (hn : ¬ S c) : h' c = some o ∧ ¬ S' c := ⟨s.1 c o hc hn, fun h => by
  rcases s.2 c h with h | h
  · exact hn h
  · rw [h] at hc; cases hc⟩
def strC (s : ByteArray) : List Value := [.string s]
theorem strC_len (s : ByteArray) : (strC s).length = 1 := rfl
theorem strC_plain (s : ByteArray) : plainP (strC s) := plainP_of rfl
def wrC (w : Nat × ByteArray) : List Value := [.int .i64 (w.1 : Nat), .string w.2]
theorem wrC_len (w : Nat × ByteArray) : (wrC w).length = 2 := rfl
theorem appTStr : AppT Tryd.prog 9 1 16 := AppT.of (by kernel_rfl)
theorem appTByte : AppT Tryd.prog 5 1 1 := AppT.of (by kernel_rfl)
def byteC (b : UInt8) : List Value := [.int .u8 (b.toNat : Nat)]
theorem byteC_len (b : UInt8) : (byteC b).length = 1 := rfl
theorem byteC_plain (b : UInt8) : plainP (byteC b) := plainP_of rfl
theorem rowC_bytes (s : ByteArray) : rowC byteC s.data.toList = bytesV s := by
  unfold rowC bytesV byteC
  generalize s.data.toList = l
  induction l with
  | nil => rfl
  | cons b l ih => rw [List.flatMap_cons, ih]; rfl
theorem size_len (s : ByteArray) : s.data.toList.length = s.size := by rw [Array.length_toList]; rfl
structure Dk where
  l : List ByteArray
  ws : List (Nat × ByteArray)
  fuse : Nat
  down : Bool
def Dk.use (D : Dk) (at_ : Int) : Int := if D.down then 10 else if at_ < 0 then 9 else if at_ ≥ (D.l.length : Int) then 9 else 0
theorem Dk.use_ok {D : Dk} {i : Nat} (hd : D.down = false) (hi : i < D.l.length) : D.use (i : Nat) = 0 := by
  unfold Dk.use
  rw [hd, if_neg (by simp), if_neg (by omega), if_neg (by omega)]
def pick (i : Nat) (s : ByteArray) (w : Nat × ByteArray) : ByteArray := if w.1 = i then w.2 else s
def Dk.read (D : Dk) (i : Nat) : ByteArray := D.ws.foldl (pick i) (D.l.getD i (bytesL []))
def Dk.write (D : Dk) (i : Nat) (s : ByteArray) : Dk := { D with ws := D.ws ++ [(i, s)], fuse := D.fuse - 1, down := if D.fuse > 0 then decide (D.fuse = 1) else D.down }
def settleL (l : List ByteArray) (ws : List (Nat × ByteArray)) : List ByteArray := ws.foldl (fun l w => l.set w.1 w.2) l
theorem settleL_len : ∀ (ws : List (Nat × ByteArray)) (l : List ByteArray), (settleL l ws).length = l.length
  | [], _ => rfl
  | w :: ws, l => by
    show (settleL (l.set w.1 w.2) ws).length = _
    rw [settleL_len ws, List.length_set]
theorem settleL_sz : ∀ (ws : List (Nat × ByteArray)) (l : List ByteArray), (∀ s ∈ l, s.size = 256) → (∀ w ∈ ws, w.2.size = 256) → ∀ s ∈ settleL l ws, s.size = 256
  | [], _, h, _ => h
  | w :: ws, l, h, hw => settleL_sz ws (l.set w.1 w.2) (fun s hs => by
    rcases List.mem_or_eq_of_mem_set hs with h' | h'
    · exact h s h'
    · rw [h']; exact hw w List.mem_cons_self) fun w' hw' => hw w' (List.mem_cons_of_mem _ hw')
def Dk.flush (D : Dk) : Dk := { D with l := settleL D.l D.ws, ws := [] }
structure DkAt (h : Hp) (db : Nat) (S : Nat → Prop) (D : Dk) : Prop where
  at_ : ∃ la lc wa wc, ∃ n : Int, Blk h db 105 [.slice la D.l.length lc, .slice wa D.ws.length wc, .int .i64 (D.fuse : Nat), .int .i64 n, .bool D.down] ∧ OwnR strC 1 h 9 la lc D.l ∧ OwnR wrC 2 h 125 wa wc D.ws ∧
    (∀ c, blkOf la c → c ≠ db ∧ ¬ blkOf wa c) ∧ (∀ c, blkOf wa c → c ≠ db) ∧ ∀ c, S c ↔ (c = db ∨ blkOf la c ∨ blkOf wa c)
  idx : ∀ w ∈ D.ws, w.1 < D.l.length ∧ w.2.size = 256
  len : D.l.length ≤ 2048
  lsz : ∀ s ∈ D.l, s.size = 256
  wlen : D.ws.length ≤ 4096
  fuse : D.fuse < 9223372036854775808
variable {h : Hp} {db : Nat} {S : Nat → Prop} {D : Dk} {K : Value → Hp → Prop}
theorem DkAt.out {S' : Nat → Prop} {h' : Hp} (H : DkAt h db S D) (s : Keep S' h h') (hn : ∀ c, S c → ¬ S' c) : DkAt h' db S D := by
  obtain ⟨la, lc, wa, wc, n, h1, h2, h3, h4, h5, h6⟩ := H.at_
  exact ⟨⟨la, lc, wa, wc, n, h1.keep s (hn _ ((h6 _).2 (.inl rfl))), h2.keep s fun c hc => hn c ((h6 c).2 (.inr (.inl hc))), h3.keep s fun c hc => hn c ((h6 c).2 (.inr (.inr hc))), h4, h5, h6⟩, H.idx, H.len, H.lsz, H.wlen, H.fuse⟩
theorem DkAt.sub {h' : Hp} (H : DkAt h db S D) (s : Sub h h') : DkAt h' db S D := H.out (S' := fun _ => False) (s.keep _) fun _ _ h => h
theorem DkAt.in_heap (H : DkAt h db S D) {c : Nat} (hc : S c) : h c ≠ none := by
  obtain ⟨la, lc, wa, wc, n, h1, h2, h3, h4, h5, h6⟩ := H.at_
  rcases (h6 c).1 hc with rfl | hc | hc
  · intro e; unfold Blk at h1; rw [h1] at e; cases e
  · exact Own.in_heap h2 hc
  · exact Own.in_heap h3 hc
theorem DkAt.read_sz (H : DkAt h db S D) {i : Nat} (hi : i < D.l.length) : (D.read i).size = 256 := by
  unfold Dk.read
  have : ∀ (ws : List (Nat × ByteArray)) (s : ByteArray), s.size = 256 → (∀ w ∈ ws, w.2.size = 256) → (ws.foldl (pick i) s).size = 256 := by
    intro ws
    induction ws with
    | nil => intro s h _; exact h
    | cons w ws ih =>
      intro s h hw
      refine ih _ ?_ fun w' h' => hw w' (List.mem_cons_of_mem _ h')
      unfold pick
      split
      · exact hw w List.mem_cons_self
      · exact h
  refine this _ _ ?_ fun w hw => (H.idx w hw).2
  rw [List.getD_eq_getElem?_getD, List.getElem?_eq_getElem hi]
  exact H.lsz _ (List.getElem_mem hi)
theorem use_spec (H : DkAt h db S D) (at_ : Int) (hK : K (.int .i64 (D.use at_)) h) : CallsH Tryd.prog disk_Disk_use.id #[.pointer (some ⟨db, 0, none⟩), .int .i64 at_] h K := by
  obtain ⟨la, lc, wa, wc, n, h1, h2, h3, h4, h5, h6⟩ := H.at_
  apply disk_Disk_use.calls
  unfold disk_Disk_use.W
  unfold Dk.use at hK
  refine ⟨_, h1.cell' 4 rfl, split_cond (fun e1 => ?_) fun e1 => split_dec (fun e2 => ?_) fun e2 => ⟨_, _, _, h1.cell' 0 rfl, split_dec (fun e3 => ?_) fun e3 => ?_⟩⟩
  · rw [e1, if_pos rfl] at hK; exact hK
  · rw [e1, if_neg (by simp), if_pos e2] at hK; exact hK
  · have e3 : at_ ≥ (D.l.length : Int) := e3
    rw [e1, if_neg (by simp), if_neg e2, if_pos e3] at hK; exact hK
  · have e3 : ¬ at_ ≥ (D.l.length : Int) := e3
    rw [e1, if_neg (by simp), if_neg e2, if_neg e3] at hK; exact hK
theorem size_spec (H : DkAt h db S D) (hK : K (.int .i64 (D.l.length : Nat)) h) : CallsH Tryd.prog disk_Disk_Size.id #[.pointer (some ⟨db, 0, none⟩)] h K := by
  obtain ⟨la, lc, wa, wc, n, h1, h2, h3, h4, h5, h6⟩ := H.at_
  apply disk_Disk_Size.calls
  unfold disk_Disk_Size.W
  exact ⟨_, _, _, h1.cell' 0 rfl, hK⟩
theorem read_spec (H : DkAt h db S D) {i : Nat} (hi : i < D.l.length) (hd : D.down = false) (hK : K (.tuple #[.string (D.read i), .int .i64 0]) h) : CallsH Tryd.prog disk_Disk_Read.id #[.pointer (some ⟨db, 0, none⟩), .int .i64 (i : Nat)] h K := by
  apply disk_Disk_Read.calls
  unfold disk_Disk_Read.W
  have hw := H.wlen
  have hll := H.len
  refine use_spec H _ ⟨_, rfl, split_ne (fun e => absurd (Dk.use_ok hd hi) e) fun _ => ?_⟩
  obtain ⟨la, lc, wa, wc, n, h1, h2, h3, h4, h5, h6⟩ := H.at_
  have hq : D.l[i]? = some D.l[i] := List.getElem?_eq_getElem hi
  obtain ⟨b, o, ea, hc⟩ := h2.row.get strC_len (by decide) hq
  refine ⟨_, _, _, h1.cell' 0 rfl, by omega, by show (i : Int) < (D.l.length : Int); omega, b, o, ea, _, hc 0 _ rfl, _, _, _, h1.cell' 1 rfl, ?_⟩
  refine ⟨fun s k x m => ∃ j : Nat, k = (j : Int) ∧ j ≤ D.ws.length ∧ m = D.ws.length - j ∧ x = h ∧ s = (D.ws.take j).foldl (pick i) (D.l.getD i (bytesL [])), ⟨_, 0, rfl, Nat.zero_le _, rfl, rfl, ?_⟩, ?_⟩
  · rw [List.take_zero, List.foldl_nil, List.getD_eq_getElem?_getD, hq]; rfl
  · rintro s k x m ⟨j, rfl, hj, rfl, rfl, rfl⟩
    refine split_dec (fun g => ?_) fun g => ?_
    · have g : j < D.ws.length := by have : (j : Int) < (D.ws.length : Int) := g; omega
      have hw2 : D.ws[j]? = some D.ws[j] := List.getElem?_eq_getElem g
      generalize D.ws[j] = w at hw2
      obtain ⟨b2, o2, ea2, hc2⟩ := h3.row.get wrC_len (by decide) hw2
      have ht : (D.ws.take (j + 1)).foldl (pick i) (D.l.getD i (bytesL [])) = pick i ((D.ws.take j).foldl (pick i) (D.l.getD i (bytesL []))) w := by
        rw [List.take_add_one, hw2, List.foldl_append]; rfl
      refine ⟨by omega, by show (j : Int) < (D.ws.length : Int); omega, b2, o2, ea2, _, hc2 0 _ rfl, _, hc2 1 _ rfl, ?_⟩
      have hb : beqS w.2 w.2 = true := by rw [beqS_val]; simp
      rw [hb, hb_eq]
      refine split_cond (fun e => ?_) fun e => ?_
      · have e : (w.1 : Int) = (i : Int) := by simpa using e
        refine ⟨D.ws.length - (j + 1), by omega, j + 1, by rw [wid (by omega) (by omega)]; omega, by omega, rfl, rfl, ?_⟩
        rw [ht]; unfold pick; rw [if_pos (by omega)]
      · have e : ¬ (w.1 : Int) = (i : Int) := by simpa using e
        refine ⟨D.ws.length - (j + 1), by omega, j + 1, by rw [wid (by omega) (by omega)]; omega, by omega, rfl, rfl, ?_⟩
        rw [ht]; unfold pick; rw [if_neg (by omega)]
    · have : j = D.ws.length := by
        have : ¬ (j : Int) < (D.ws.length : Int) := g
        omega
      subst this
      rw [List.take_length]
      exact hK
theorem settle_spec (H : DkAt h db S D) (hK : ∀ h' S', DkAt h' db S' D.flush → Step S h S' h' → K (.tuple #[]) h') : CallsH Tryd.prog disk_Disk_settle.id #[.pointer (some ⟨db, 0, none⟩), .func (.func 84) #[] #[]] h K := by
  apply disk_Disk_settle_1f84.calls
  unfold disk_Disk_settle_1f84.W
  have hw := H.wlen
  obtain ⟨la, lc, wa, wc, n, h1, h2, h3, h4, h5, h6⟩ := H.at_
  refine ⟨_, _, _, h1.cell' 1 rfl, fun k x m => ∃ j : Nat, k = (j : Int) ∧ j ≤ D.ws.length ∧ m = D.ws.length - j ∧ Keep (blkOf la) h x ∧ OwnR strC 1 x 9 la lc (settleL D.l (D.ws.take j)), ⟨_, 0, rfl, Nat.zero_le _, rfl, Keep.refl _ _, h2⟩, ?_⟩
  rintro k x m ⟨j, rfl, hj, rfl, kx, ox⟩
  have Bx := h1.keep kx fun hc => (h4 _ hc).1 rfl
  have wx := h3.keep kx fun c hc hc' => (h4 c hc').2 hc
  refine split_dec (fun g => ?_) fun g => ?_
  · have g : j < D.ws.length := by have : (j : Int) < (D.ws.length : Int) := g; omega
    have hw2 : D.ws[j]? = some D.ws[j] := List.getElem?_eq_getElem g
    have hwi := (H.idx D.ws[j] (List.getElem_mem g)).1
    generalize D.ws[j] = w at hw2 hwi
    obtain ⟨b2, o2, ea2, hc2⟩ := wx.row.get wrC_len (by decide) hw2
    have ht : settleL D.l (D.ws.take (j + 1)) = (settleL D.l (D.ws.take j)).set w.1 w.2 := by
      unfold settleL
      rw [List.take_add_one, hw2, List.foldl_append]; rfl
    have hsl := settleL_len (D.ws.take j) D.l
    obtain ⟨b, eb, so, op⟩ := ox.put strC_len (i := w.1) (j := 0) (x := (settleL D.l (D.ws.take j))[w.1]'(by omega)) (y := w.2) (vs := [.string w.2]) (List.getElem?_eq_getElem (by omega)) (by decide) (Nat.le_refl 1) rfl
    refine ⟨by omega, by show (j : Int) < (D.ws.length : Int); omega, b2, o2, ea2, _, hc2 0 _ rfl, _, hc2 1 _ rfl, disk_Disk_Flush_1.calls _ ⟨_, rfl, ?_⟩⟩
    refine ⟨_, _, _, Bx.cell' 0 rfl, by omega, by show (w.1 : Int) < (D.l.length : Int); omega, b, 0, eb, ?_, ?_⟩
    · have e : 0 + w.1 * 1 + 0 = 0 + (w.1 : Int).toNat * 1 := by rw [Int.toNat_natCast]; omega
      rw [← e]; exact so
    · have e : 0 + w.1 * 1 + 0 = 0 + (w.1 : Int).toNat * 1 := by rw [Int.toNat_natCast]; omega
      rw [← e]
      refine ⟨D.ws.length - (j + 1), by omega, j + 1, by rw [wid (by omega) (by omega)]; omega, by omega, rfl, kx.trans (Keep.put _ _ _ _ ⟨0, none, eb⟩), ?_⟩
      rw [ht]; exact op
  · have : j = D.ws.length := by
      have : ¬ (j : Int) < (D.ws.length : Int) := g
      omega
    subst this
    rw [List.take_length] at ox
    have hl := settleL_len D.ws D.l
    have B2 : Blk (x.put db (0 + 1) [.slice none 0 0]) db 105 [.slice la D.l.length lc, .slice none 0 0, .int .i64 (D.fuse : Nat), .int .i64 n, .bool D.down] := Bx.put 1 _
    have kd : Keep (fun c => c = db) x (x.put db (0 + 1) [.slice none 0 0]) := Keep.put _ x _ _ rfl
    refine ⟨Bx.store (by show 1 + 1 ≤ 5; omega), hK _ (fun c => c = db ∨ blkOf la c) ⟨⟨la, lc, none, 0, n, ?_, ox.keep kd fun c hc e => (h4 c hc).1 e, OwnR.nil _ _, fun c hc => ⟨(h4 c hc).1, fun ⟨o, s, e⟩ => by cases e⟩, (fun c ⟨o, s, e⟩ => by cases e), fun c => ⟨fun hc => hc.imp id .inl, fun hc => hc.imp id fun hc => hc.elim id fun ⟨o, s, e⟩ => by cases e⟩⟩, (fun w hw => by cases hw), ?_, settleL_sz _ _ H.lsz (fun w hw => (H.idx w hw).2), Nat.zero_le _, H.fuse⟩ ⟨?_, fun c hc => .inl ((h6 c).2 (hc.imp id .inl))⟩⟩
    · show Blk _ db 105 [.slice la (settleL D.l D.ws).length lc, .slice none 0 0, .int .i64 (D.fuse : Nat), .int .i64 n, .bool D.down]
      rw [hl]; exact B2
    · show (settleL D.l D.ws).length ≤ 2048
      rw [hl]; exact H.len
    · exact (kx.mono fun c hc => (h6 c).2 (.inr (.inl hc))).trans (kd.mono fun c hc => (h6 c).2 (.inl hc))
def zeroB (n : Nat) : ByteArray := ⟨(List.replicate n 0).toArray⟩
theorem zeroB_size (n : Nat) : (zeroB n).size = n := by show (List.replicate n (0 : UInt8)).toArray.size = n; simp
theorem zeroB_bytes (n : Nat) : bytesV (zeroB n) = repV n [.int .u8 0] := by
  unfold bytesV repV
  show (List.replicate n (0 : UInt8)).map _ = _
  induction n with
  | zero => rfl
  | succ n ih => rw [List.replicate_succ, List.map_cons, ih, List.replicate_succ, List.flatten_cons]; rfl
theorem zero_slice {h : Hp} {k : Nat} {t : TypeId} {n : Nat} (H : h k = some (.cells (repV n [.int .u8 0]).toArray t (0, 0))) : SliceAt h (some ⟨k, 0, none⟩) n (bytesV (zeroB n)) := by
  rw [zeroB_bytes]
  refine Blk.slice (t := t) H ?_
  unfold repV; simp
def Dk.new (n : Nat) : Dk := ⟨List.replicate n (zeroB 256), [], 0, false⟩
theorem dnew_spec (n : Nat) (h1 : 1 ≤ n) (h2 : n ≤ 2048) (hK : ∀ h' db S, DkAt h' db S (Dk.new n) → Sub h h' → (∀ c, S c → h c = none) → K (.tuple #[.pointer (some ⟨db, 0, none⟩), .int .i64 0]) h') : CallsH Tryd.prog disk_New.id #[.int .i64 (n : Nat)] h K := by
  apply disk_New.calls
  unfold disk_New.W
  refine split_dec (fun e => by have e : (n : Int) < 1 := e; omega) fun _ => split_dec (fun e => by have e : (n : Int) > 2048 := e; omega) fun _ => ?_
  intro k1 hk1
  refine ⟨by decide, by decide, by decide, by decide, fun k2 hk2 => ⟨zeroB 256, zero_slice (Hp.upd_same _ _ _), ?_⟩⟩
  have hne : k2 ≠ k1 := fun e => by rw [e, Hp.upd_same] at hk2; cases hk2
  rw [Hp.upd_ne _ _ hne] at hk2
  have B0 : Blk ((h.upd k1 (.cells #[.slice none 0 0, .slice none 0 0, .int .i64 0, .int .i64 0, .bool false] 105 (0, 0))).upd k2 (.cells (repV 256 [.int .u8 0]).toArray 5 (0, 0))) k1 105 [.slice none 0 0, .slice none 0 0, .int .i64 0, .int .i64 0, .bool false] :=
    (Blk.new h k1 105 _).upd (by rw [Hp.upd_ne _ _ hne]; exact hk2) _
  have s0 : Sub h ((h.upd k1 (.cells #[.slice none 0 0, .slice none 0 0, .int .i64 0, .int .i64 0, .bool false] 105 (0, 0))).upd k2 (.cells (repV 256 [.int .u8 0]).toArray 5 (0, 0))) :=
    (Sub.upd hk1 _).trans (Sub.upd (by rw [Hp.upd_ne _ _ hne]; exact hk2) _)
  generalize (h.upd k1 (.cells #[.slice none 0 0, .slice none 0 0, .int .i64 0, .int .i64 0, .bool false] 105 (0, 0))).upd k2 (.cells (repV 256 [.int .u8 0]).toArray 5 (0, 0)) = h1' at B0 s0
  refine ⟨fun i x m => ∃ (j : Nat) (la : Option Addr) (lc : Nat), i = (j : Int) ∧ j ≤ n ∧ m = n - j ∧ Sub h x ∧ Blk x k1 105 [.slice la j lc, .slice none 0 0, .int .i64 0, .int .i64 0, .bool false] ∧ OwnR strC 1 x 9 la lc (List.replicate j (zeroB 256)) ∧ ∀ c, blkOf la c → c ≠ k1 ∧ h c = none,
    ⟨_, 0, none, 0, rfl, Nat.zero_le _, rfl, s0, B0, OwnR.nil _ _, fun c ⟨o, s, e⟩ => by cases e⟩, ?_⟩
  rintro i x m ⟨j, la, lc, rfl, hj, rfl, sx, Bx, ox, nx⟩
  refine split_dec (fun g => ?_) fun g => ?_
  · have g : j < n := by have : (j : Int) < (n : Int) := g; omega
    refine ⟨_, _, _, Bx.cell' 0 rfl, fun k hk => ⟨_, (Blk.new x k 9 (strC (zeroB 256))).slice rfl, fun a' c' y => OwnR strC 1 y 9 a' c' (List.replicate (j + 1) (zeroB 256)) ∧ Keep (blkOf la) x y ∧ ∀ b, blkOf a' b → blkOf la b ∨ x b = none, ?_, ?_⟩⟩
    · rintro a' c' y ⟨o1, o2, o3⟩
      have By := Bx.keep o2 fun hc => (nx _ hc).1 rfl
      have sy : Sub h y := o2.sub sx fun c hc => (nx c hc).2
      have hk1' : ∀ c, blkOf a' c → c ≠ k1 ∧ h c = none := fun c hc => by
        rcases o3 c hc with h' | h'
        · exact nx c h'
        · exact ⟨(fun e => by rw [e] at h'; unfold Blk at Bx; rw [Bx] at h'; cases h'), sx.none h'⟩
      have kp : Keep (fun c => c = k1) y (y.put k1 0 [.slice a' (j + 1) c']) := Keep.put _ y _ _ rfl
      exact ⟨By.store (by show 0 + 1 ≤ 5; omega), n - (j + 1), by omega, j + 1, a', c', by rw [wid (by omega) (by omega)]; omega, by omega, rfl, kp.sub sy (fun c e => by rw [e]; exact hk1), By.put 0 _, o1.keep kp fun c hc e => (hk1' c hc).1 e, hk1'⟩
    · refine append_ownR appTStr strC_len strC_plain (M := [zeroB 256]) (ox.sub (Sub.upd hk _)) (by simp) rfl (rowC_one _).symm (by simp; omega) fun a' c' y o k' nw => ⟨by rw [List.replicate_succ']; exact o, fun c o' hc hn => k' c o' (Sub.upd hk _ c o' hc) hn, fun b hb => ?_⟩
      rcases nw b hb with h | h
      · exact .inl h
      · exact .inr ((Sub.upd hk _).none h)
  · have : j = n := by
      have : ¬ (j : Int) < (n : Int) := g
      omega
    subst this
    refine hK x k1 (fun c => c = k1 ∨ blkOf la c) ⟨⟨la, lc, none, 0, 0, ?_, ox, OwnR.nil _ _, fun c hc => ⟨(nx c hc).1, fun ⟨o, s, e⟩ => by cases e⟩, (fun c ⟨o, s, e⟩ => by cases e), fun c => ⟨fun hc => hc.imp id .inl, fun hc => hc.imp id fun hc => hc.elim id fun ⟨o, s, e⟩ => by cases e⟩⟩, (fun w hw => by cases hw), ?_, (fun s hs => by rw [(List.mem_replicate.1 hs).2]; exact zeroB_size 256), Nat.zero_le _, (by show 0 < 9223372036854775808; omega)⟩ sx fun c hc => ?_
    · show Blk x k1 105 [.slice la (List.replicate j (zeroB 256)).length lc, .slice none 0 0, .int .i64 0, .int .i64 0, .bool false]
      rw [List.length_replicate]; exact Bx
    · show (List.replicate j (zeroB 256)).length ≤ 2048
      rw [List.length_replicate]; exact h2
    · rcases hc with rfl | hc
      · exact hk1
      · exact (nx c hc).2
end Go.Proofs.YthbogjbcecmopaaDoor
namespace Go.Proofs.YthbogjbcecmopaaDoor
open Go.Gx
set_option maxRecDepth 100000
set_option linter.unusedVariables false

structure JAt (h : Hp) (jb db : Nat) (S : Nat → Prop) (n : Nat) (D : Dk) : Prop where
  ex : ∃ S0, Blk h jb 109 [.pointer (some ⟨db, 0, none⟩), .int .i64 (n : Nat)] ∧ DkAt h db S0 D ∧ ¬ S0 jb ∧ ∀ c, S c ↔ (c = jb ∨ S0 c)
  n1 : 1 ≤ n
  n2 : n ≤ 128
  len : 8 * n + 1 ≤ D.l.length
variable {h : Hp} {jb db n : Nat} {S : Nat → Prop} {D : Dk} {K : Value → Hp → Prop}
theorem JAt.out {S' : Nat → Prop} {h' : Hp} (J : JAt h jb db S n D) (s : Keep S' h h') (hn : ∀ c, S c → ¬ S' c) : JAt h' jb db S n D := by
  obtain ⟨S0, h1, h2, h3, h4⟩ := J.ex
  exact ⟨⟨S0, h1.keep s (hn _ ((h4 _).2 (.inl rfl))), h2.out s fun c hc => hn c ((h4 c).2 (.inr hc)), h3, h4⟩, J.n1, J.n2, J.len⟩
theorem JAt.sub {h' : Hp} (J : JAt h jb db S n D) (s : Sub h h') : JAt h' jb db S n D := J.out (S' := fun _ => False) (s.keep _) fun _ _ h => h
theorem JAt.in_heap (J : JAt h jb db S n D) {c : Nat} (hc : S c) : h c ≠ none := by
  obtain ⟨S0, h1, h2, h3, h4⟩ := J.ex
  rcases (h4 c).1 hc with rfl | hc
  · intro e; unfold Blk at h1; rw [h1] at e; cases e
  · exact h2.in_heap hc
theorem JAt.step (J : JAt h jb db S n D) : ∃ S0, DkAt h db S0 D ∧ Blk h jb 109 [.pointer (some ⟨db, 0, none⟩), .int .i64 (n : Nat)] ∧
    ∀ h' S1 D', DkAt h' db S1 D' → Step S0 h S1 h' → D'.l.length = D.l.length → ∃ S', JAt h' jb db S' n D' ∧ Step S h S' h' := by
  obtain ⟨S0, h1, h2, h3, h4⟩ := J.ex
  refine ⟨S0, h2, h1, fun h' S1 D' H' st hl => ⟨fun c => c = jb ∨ S1 c, ⟨⟨S1, h1.keep st.1 h3, H', ?_, fun c => Iff.rfl⟩, J.n1, J.n2, by rw [hl]; exact J.len⟩, ⟨st.1.mono fun c hc => (h4 c).2 (.inr hc), ?_⟩⟩⟩
  · exact (st.out h1 h3).2
  · rintro c (rfl | hc)
    · exact .inl ((h4 _).2 (.inl rfl))
    · rcases st.2 c hc with h | h
      · exact .inl ((h4 _).2 (.inr h))
      · exact .inr h
theorem jown_spec (J : JAt h jb db S n D) (i : Nat) (hi : i < 1000) (hK : K (.int .i64 ((1 + 4 * (n + i) : Nat) : Int)) h) : CallsH Tryd.prog journal_Journal_own.id #[.pointer (some ⟨jb, 0, none⟩), .int .i64 (i : Nat)] h K := by
  obtain ⟨S0, h1, h2, h3, h4⟩ := J.ex
  have := J.n2
  apply journal_Journal_own.calls
  unfold journal_Journal_own.W
  refine ⟨_, h1.cell' 1 rfl, ?_⟩
  have e : IntKind.i64.wrap (1 + IntKind.i64.wrap (4 * IntKind.i64.wrap ((n : Int) + (i : Int)))) = ((1 + 4 * (n + i) : Nat) : Int) := by
    rw [wid (x := (n : Int) + (i : Int)) (by omega) (by omega), wid (x := 4 * ((n : Int) + (i : Int))) (by omega) (by omega), wid (by omega) (by omega)]; omega
  rw [e]; exact hK
def Dk.look (D : Dk) (at_ : Nat) : Nat → List UInt8
  | 0 => []
  | i + 1 => D.look at_ i ++ (D.read (at_ + i)).data.toList
def Dk.page (D : Dk) (at_ : Nat) : ByteArray := ⟨(D.look at_ 4).toArray⟩
theorem look_len (H : DkAt h db S D) {at_ : Nat} : ∀ i, at_ + i ≤ D.l.length → (D.look at_ i).length = 256 * i
  | 0, _ => rfl
  | i + 1, hi => by
    unfold Dk.look
    rw [List.length_append, look_len H i (by omega), size_len, H.read_sz (by omega)]; omega
theorem look_spec (J : JAt h jb db S n D) (at_ : Nat) (hat : at_ + 4 ≤ D.l.length) (hd : D.down = false) (hK : ∀ h', Sub h h' → K (.tuple #[.string (D.page at_), .int .i64 0]) h') :
    CallsH Tryd.prog journal_Journal_look.id #[.pointer (some ⟨jb, 0, none⟩), .int .i64 (at_ : Nat)] h K := by
  obtain ⟨S0, h1, h2, h3, h4⟩ := J.ex
  have hll := h2.len
  apply journal_Journal_look.calls
  unfold journal_Journal_look.W
  refine ⟨fun a l c i x m => ∃ j : Nat, i = (j : Int) ∧ j ≤ 4 ∧ m = 4 - j ∧ l = (D.look at_ j).length ∧ NewR byteC 1 5 h x a c (D.look at_ j), ⟨_, 0, rfl, by decide, rfl, rfl, NewR.nil _ _⟩, ?_⟩
  rintro a l c i x m ⟨j, rfl, hj, rfl, rfl, N⟩
  refine split_dec (fun g => ?_) fun g => ?_
  · have g : j < 4 := by have : (j : Int) < 4 := g; omega
    have ew : IntKind.i64.wrap ((at_ : Int) + (j : Int)) = ((at_ + j : Nat) : Int) := by rw [wid (by omega) (by omega)]; omega
    rw [ew]
    have hsz := h2.read_sz (i := at_ + j) (by omega)
    have hlk := look_len h2 (at_ := at_) j (by omega)
    refine ⟨_, (h1.sub N.sub).cell' 0 rfl, read_spec (h2.sub N.sub) (by omega) hd ⟨_, _, rfl, split_ne (fun e => absurd rfl e) fun _ => ⟨fun a' c' y => NewR byteC 1 5 h y a' c' (D.look at_ (j + 1)), fun a' c' y hy => ⟨4 - (j + 1), by omega, j + 1, by rw [wid (by omega) (by omega)]; omega, by omega, rfl, ?_, hy⟩, ?_⟩⟩⟩
    · show (D.look at_ j).length + _ = (D.look at_ j ++ (D.read (at_ + j)).data.toList).length
      rw [List.length_append, size_len]
    · exact append_row appTByte byteC_len byteC_plain (M := (D.read (at_ + j)).data.toList) N rfl (size_len _).symm (rowC_bytes _).symm (by rw [size_len, hsz, hlk]; omega) fun a' c' y hy => hy
  · have : j = 4 := by
      have : ¬ (j : Int) < 4 := g
      omega
    subst this
    refine ⟨D.page at_, ?_, hK x N.sub⟩
    have := N.own.row
    unfold RowAt at this
    rw [Nat.mul_one] at this
    rw [← rowC_bytes]; exact this
def Dk.own (D : Dk) (n i : Nat) : ByteArray := D.page (1 + 4 * (n + i))
theorem jread_spec (J : JAt h jb db S n D) {i : Nat} (hi : i < n) (hd : D.down = false) (hK : ∀ h', Sub h h' → K (.tuple #[.string (D.own n i), .int .i64 0]) h') : CallsH Tryd.prog journal_Journal_Read.id #[.pointer (some ⟨jb, 0, none⟩), .int .i64 (i : Nat)] h K := by
  obtain ⟨S0, h1, h2, h3, h4⟩ := J.ex
  have := J.n2
  have := J.len
  apply journal_Journal_Read.calls
  unfold journal_Journal_Read.W
  refine split_dec (fun e => by have e : (i : Int) < 0 := e; omega) fun _ => ⟨_, h1.cell' 1 rfl, split_dec (fun e => by have e : (i : Int) ≥ (n : Int) := e; omega) fun _ => ?_⟩
  exact jown_spec J i (by omega) ⟨_, rfl, look_spec J _ (by omega) hd fun h' s => ⟨_, _, rfl, hK h' s⟩⟩
theorem jpages_spec (J : JAt h jb db S n D) (hK : K (.int .i64 (n : Nat)) h) : CallsH Tryd.prog journal_Journal_Pages.id #[.pointer (some ⟨jb, 0, none⟩)] h K := by
  obtain ⟨S0, h1, h2, h3, h4⟩ := J.ex
  apply journal_Journal_Pages.calls
  unfold journal_Journal_Pages.W
  exact ⟨_, h1.cell' 1 rfl, hK⟩
end Go.Proofs.YthbogjbcecmopaaDoor
namespace Go.Proofs.YthbogjbcecmopaaDoor
open Go.Gx
set_option maxRecDepth 100000
set_option linter.unusedVariables false

def parts (at_ : Nat) (s : ByteArray) : List (Nat × ByteArray) := (List.range 4).map fun i => (at_ + i, s.extract (i * 256) ((i + 1) * 256))
variable {h : Hp} {jb db n : Nat} {S : Nat → Prop} {D : Dk} {K : Value → Hp → Prop}
end Go.Proofs.YthbogjbcecmopaaDoor
namespace Go.Proofs.YthbogjbcecmopaaDoor
open Go.Gx
set_option maxRecDepth 100000
set_option linter.unusedVariables false

def bitT (s : ByteArray) (i : Nat) : Bool := IntKind.u8.wrap (iand IntKind.u8 (ishr IntKind.u8 (byteAt s (i / 8)) ((i % 8 : Nat) : Int)) 1) == 1
def bitsOf (s : ByteArray) : List Nat := (List.range 128).filter (bitT s)
theorem cell_sub {h h' : Hp} (s : Sub h h') {b o : Nat} {v : Value} (hc : h.cell b o = some v) : h'.cell b o = some v := by
  unfold Hp.cell at hc ⊢
  cases e : h b with
  | none => rw [e] at hc; cases hc
  | some x => rw [e] at hc; rw [s b x e]; exact hc
theorem filter_get {p : Nat → Bool} {i n : Nat} (hi : i < n) (hp : p i = true) : ((List.range n).filter p)[((List.range i).filter p).length]? = some i := by
  have e : List.range n = List.range i ++ (i :: List.range' (i + 1) (n - (i + 1))) := by
    rw [List.range_eq_range', List.range_eq_range']
    have : n = i + (1 + (n - (i + 1))) := by omega
    conv => lhs; rw [this, ← List.range'_append_1, Nat.zero_add, ← List.range'_append_1]
    rfl
  rw [e, List.filter_append, List.filter_cons_of_pos hp, List.getElem?_append_right (Nat.le_refl _), Nat.sub_self]; rfl
theorem told_iter (mark : ByteArray) (hm : 16 ≤ mark.size) (pb : Nat) : IterH Tryd.prog 74 [.pointer (some ⟨pb, 0, none⟩)] (fun k vs => ∃ i : Nat, (bitsOf mark)[k]? = some i ∧ vs = [.int .i64 (i : Nat)]) (fun k => k = (bitsOf mark).length) (fun h => h.cell pb 0 = some (.string mark)) := by
  intro l J Jx hJP hY h hJ
  refine journal_told_1_0y.calls l pb 0 ?_
  unfold journal_told_1_0y.W
  refine ⟨fun n x m => ∃ i : Nat, n = (i : Int) ∧ i ≤ 128 ∧ m = 128 - i ∧ J ((List.range i).filter (bitT mark)).length x, ⟨_, 0, rfl, by decide, rfl, hJ⟩, ?_⟩
  rintro n x m ⟨i, rfl, hi, rfl, hJi⟩
  refine split_dec (fun g => ?_) fun g => ?_
  · have g : i < 128 := by have : (i : Int) < 128 := g; omega
    have hsucc : (List.range (i + 1)).filter (bitT mark) = (List.range i).filter (bitT mark) ++ if bitT mark i then [i] else [] := by
      rw [List.range_succ, List.filter_append]
      rw [List.filter_cons, List.filter_nil]
    have e1 : (i : Int).tdiv 8 = ((i / 8 : Nat) : Int) := by rw [Int.tdiv_eq_ediv_of_nonneg (by omega)]; omega
    have e2 : (i : Int).tmod 8 = ((i % 8 : Nat) : Int) := by rw [Int.tmod_eq_emod_of_nonneg (by omega)]; omega
    have e3 : IntKind.i64.wrap ((i / 8 : Nat) : Int) = ((i / 8 : Nat) : Int) := wid (by omega) (by omega)
    rw [e1, e2, e3, Int.toNat_natCast]
    have e4 : IntKind.i64.wrap ((i : Int) + 1) = ((i + 1 : Nat) : Int) := by rw [wid (by omega) (by omega)]; omega
    refine ⟨mark, hJP _ _ hJi, by decide, by omega, by show ((i / 8 : Nat) : Int) < (mark.size : Int); omega, by decide, by omega, ?_⟩
    rw [hb_eq]
    refine split_cond (fun eb => ?_) fun eb => ?_
    · have eb : bitT mark i = true := eb
      refine YieldH.mono (hY _ _ x hJi ⟨i, filter_get g eb, rfl⟩) fun v h' hq => ?_
      rcases hq with ⟨rfl, hj⟩ | ⟨rfl, hj⟩
      · refine ⟨true, rfl, 128 - (i + 1), by omega, i + 1, e4, by omega, rfl, ?_⟩
        rw [hsucc, if_pos eb, List.length_append]; exact hj
      · exact ⟨false, rfl, .inr hj⟩
    · have eb : bitT mark i = false := eb
      refine ⟨128 - (i + 1), by omega, i + 1, e4, by omega, rfl, ?_⟩
      rw [hsucc, if_neg (by simp [eb]), List.append_nil]; exact hJi
  · have : i = 128 := by
      have : ¬ (i : Int) < 128 := g
      omega
    subst this
    exact .inl ⟨_, rfl, hJi⟩
theorem need_spec {h : Hp} {K : Value → Hp → Prop} (n : Nat) (h1 : 1 ≤ n) (h2 : n ≤ 128) (hK : K (.int .i64 ((8 * n + 1 : Nat) : Int)) h) : CallsH Tryd.prog journal_Need.id #[.int .i64 (n : Nat)] h K := by
  apply journal_Need.calls
  unfold journal_Need.W
  refine split_dec (fun e => by have e : (n : Int) < 1 := e; omega) fun _ => split_dec (fun e => by have e : (n : Int) > 128 := e; omega) fun _ => ?_
  have e : IntKind.i64.wrap (IntKind.i64.wrap (8 * (n : Int)) + 1) = ((8 * n + 1 : Nat) : Int) := by
    rw [wid (x := 8 * (n : Int)) (by omega) (by omega), wid (by omega) (by omega)]; omega
  rw [e]; exact hK
theorem bits_zero : bitsOf (zeroB 256) = [] := by decide +kernel
theorem jopen_spec {h : Hp} {db : Nat} {S : Nat → Prop} {D : Dk} {K : Value → Hp → Prop} (H : DkAt h db S D) (hd : D.down = false) (n : Nat) (h1 : 1 ≤ n) (h2 : n ≤ 128) (hl : 8 * n + 1 ≤ D.l.length) (hm : D.read 0 = zeroB 256)
    (hK : ∀ h' jb S', JAt h' jb db S' n D → Sub h h' → (∀ c, S' c → S c ∨ h c = none) → K (.tuple #[.pointer (some ⟨jb, 0, none⟩), .int .i64 0]) h') : CallsH Tryd.prog journal_Open.id #[.pointer (some ⟨db, 0, none⟩), .int .i64 (n : Nat)] h K := by
  have hll := H.len
  apply journal_Open.calls
  unfold journal_Open.W
  intro k1 hk1 k2 hk2 k3 hk3
  have d21 : k2 ≠ k1 := fun e => by rw [e, Hp.upd_same] at hk2; cases hk2
  have B1 : Blk (((h.upd k1 (.cells #[.int .i64 (n : Nat)] 3 (0, 0))).upd k2 (.cells #[.pointer none] 54 (0, 0))).upd k3 (.cells #[.int .i64 0] 34 (0, 0))) k1 3 [.int .i64 (n : Nat)] := ((Blk.new h k1 3 _).upd hk2 _).upd hk3 _
  have B2 : Blk (((h.upd k1 (.cells #[.int .i64 (n : Nat)] 3 (0, 0))).upd k2 (.cells #[.pointer none] 54 (0, 0))).upd k3 (.cells #[.int .i64 0] 34 (0, 0))) k2 54 [.pointer none] := (Blk.new _ k2 54 _).upd hk3 _
  have B3 : Blk (((h.upd k1 (.cells #[.int .i64 (n : Nat)] 3 (0, 0))).upd k2 (.cells #[.pointer none] 54 (0, 0))).upd k3 (.cells #[.int .i64 0] 34 (0, 0))) k3 34 [.int .i64 0] := Blk.new _ k3 34 _
  have s3 : Sub h (((h.upd k1 (.cells #[.int .i64 (n : Nat)] 3 (0, 0))).upd k2 (.cells #[.pointer none] 54 (0, 0))).upd k3 (.cells #[.int .i64 0] 34 (0, 0))) := ((Sub.upd hk1 _).trans (Sub.upd hk2 _)).trans (Sub.upd hk3 _)
  have n2 : h k2 = none := (Sub.upd hk1 _).none hk2
  have n3 : h k3 = none := ((Sub.upd hk1 _).trans (Sub.upd hk2 _)).none hk3
  have d32 : k3 ≠ k2 := fun e => by rw [e, Hp.upd_same] at hk3; cases hk3
  generalize ((h.upd k1 (.cells #[.int .i64 (n : Nat)] 3 (0, 0))).upd k2 (.cells #[.pointer none] 54 (0, 0))).upd k3 (.cells #[.int .i64 0] 34 (0, 0)) = h3 at B1 B2 B3 s3
  have H3 := H.sub s3
  refine ⟨_, B1.cell' 0 rfl, need_spec n h1 h2 ⟨_, rfl, Sub.refl _, split_eq (fun e => by have e : ((8 * n + 1 : Nat) : Int) = 0 := e; omega) fun _ => ⟨_, B1.cell' 0 rfl, size_spec H3 ⟨_, rfl, Sub.refl _, need_spec n h1 h2 ⟨_, rfl, split_dec (fun e => by have e : (D.l.length : Int) < ((8 * n + 1 : Nat) : Int) := e; omega) fun _ => ?_⟩⟩⟩⟩⟩
  refine read_spec (i := 0) H3 (by omega) hd ⟨_, _, rfl, split_ne (fun e => absurd rfl e) fun _ => ?_⟩
  rw [hm]
  refine ⟨_, B1.cell' 0 rfl, fun k26 hk26 k27 hk27 => ?_⟩
  have hk27' : (h3.upd k26 (.cells #[.pointer (some ⟨db, 0, none⟩), .int .i64 (n : Nat)] 109 (0, 0))) k27 = none := hk27
  have d27 : k27 ≠ k26 := fun e => by rw [e, Hp.upd_same] at hk27'; cases hk27'
  have n27 : h3 k27 = none := by rw [Hp.upd_ne _ _ d27] at hk27'; exact hk27'
  have C26 : Blk (h3.upd k26 (.cells #[.pointer (some ⟨db, 0, none⟩), .int .i64 (n : Nat)] 109 (0, 0))) k26 109 [.pointer (some ⟨db, 0, none⟩), .int .i64 (n : Nat)] := Blk.new h3 k26 109 _
  have C27 := (Blk.new (h3.upd k26 (.cells #[.pointer (some ⟨db, 0, none⟩), .int .i64 (n : Nat)] 109 (0, 0))) k27 54 [.pointer none])
  have lift1 : ∀ {b t vs}, Blk (h3.upd k26 (.cells #[.pointer (some ⟨db, 0, none⟩), .int .i64 (n : Nat)] 109 (0, 0))) b t vs → Blk (((h3.upd k26 (.cells #[.pointer (some ⟨db, 0, none⟩), .int .i64 (n : Nat)] 109 (0, 0))).upd k27 (.cells #[.pointer none] 54 (0, 0))).put k27 0 [.pointer (some ⟨k26, 0, none⟩)]) b t vs :=
    fun H => (H.upd hk27' _).put_ne 0 _ (H.ne hk27')
  refine ⟨C27.store (Nat.le_refl 1), fun k28 hk28 => ⟨(Blk.new _ k28 4 [.bool false]).store (Nat.le_refl 1), journal_told.calls _ fun k hk => ⟨_, rfl, [.pointer (some ⟨k, 0, none⟩)], rfl, ?_⟩⟩⟩
  have hk28' : (((h3.upd k26 (.cells #[.pointer (some ⟨db, 0, none⟩), .int .i64 (n : Nat)] 109 (0, 0))).upd k27 (.cells #[.pointer none] 54 (0, 0))).put k27 0 [.pointer (some ⟨k26, 0, none⟩)]) k28 = none := hk28
  have hk' : ((((((h3.upd k26 (.cells #[.pointer (some ⟨db, 0, none⟩), .int .i64 (n : Nat)] 109 (0, 0))).upd k27 (.cells #[.pointer none] 54 (0, 0))).put k27 0 [.pointer (some ⟨k26, 0, none⟩)])).upd k28 (.cells #[.bool false] 4 (0, 0))).put k28 0 [.bool false]) k = none := hk
  have C27p := C27.put 0 [.pointer (some ⟨k26, 0, none⟩)]
  have C28 := (Blk.new (((h3.upd k26 (.cells #[.pointer (some ⟨db, 0, none⟩), .int .i64 (n : Nat)] 109 (0, 0))).upd k27 (.cells #[.pointer none] 54 (0, 0))).put k27 0 [.pointer (some ⟨k26, 0, none⟩)]) k28 4 [.bool false]).put 0 [.bool false]
  have lift2 : ∀ {b t vs}, Blk (((h3.upd k26 (.cells #[.pointer (some ⟨db, 0, none⟩), .int .i64 (n : Nat)] 109 (0, 0))).upd k27 (.cells #[.pointer none] 54 (0, 0))).put k27 0 [.pointer (some ⟨k26, 0, none⟩)]) b t vs →
      Blk ((((((h3.upd k26 (.cells #[.pointer (some ⟨db, 0, none⟩), .int .i64 (n : Nat)] 109 (0, 0))).upd k27 (.cells #[.pointer none] 54 (0, 0))).put k27 0 [.pointer (some ⟨k26, 0, none⟩)])).upd k28 (.cells #[.bool false] 4 (0, 0))).put k28 0 [.bool false]) b t vs := fun H => (H.upd hk28' _).put_ne 0 _ (H.ne hk28')
  have E27 := lift2 C27p
  have E26 := lift2 (lift1 C26)
  have E2 := lift2 (lift1 (B2.upd hk26 _))
  have E3 := lift2 (lift1 (B3.upd hk26 _))
  have sA : ∀ c o, h c = some o → c ≠ k26 ∧ c ≠ k27 ∧ c ≠ k28 ∧ c ≠ k2 ∧ c ≠ k3 := fun c o hc => by
    have hc3 := s3 c o hc
    refine ⟨fun e => ?_, fun e => ?_, fun e => ?_, fun e => ?_, fun e => ?_⟩
    · rw [e, hk26] at hc3; cases hc3
    · rw [e, n27] at hc3; cases hc3
    · have h27 : k28 ≠ k27 := fun e2 => by rw [e2] at hk28'; unfold Blk at C27p; rw [C27p] at hk28'; cases hk28'
      have h26 : k28 ≠ k26 := fun e2 => by rw [e2] at hk28'; have := lift1 C26; unfold Blk at this; rw [this] at hk28'; cases hk28'
      rw [Gx.put_ne _ _ _ h27, Hp.upd_ne _ _ h27, Hp.upd_ne _ _ h26, ← e, hc3] at hk28'
      cases hk28'
    · rw [e, n2] at hc; cases hc
    · rw [e, n3] at hc; cases hc
  have sX : Sub h ((((((h3.upd k26 (.cells #[.pointer (some ⟨db, 0, none⟩), .int .i64 (n : Nat)] 109 (0, 0))).upd k27 (.cells #[.pointer none] 54 (0, 0))).put k27 0 [.pointer (some ⟨k26, 0, none⟩)])).upd k28 (.cells #[.bool false] 4 (0, 0))).put k28 0 [.bool false]) := fun c o hc => by
    obtain ⟨a1, a2, a3, _⟩ := sA c o hc
    rw [Gx.put_ne _ _ _ a3, Hp.upd_ne _ _ a3, Gx.put_ne _ _ _ a2, Hp.upd_ne _ _ a2, Hp.upd_ne _ _ a1]
    exact s3 c o hc
  have n26 : h k26 = none := s3.none hk26
  refine ⟨_, _, _, fun k x => k = 0 ∧ x = _, fun _ _ => False, told_iter (zeroB 256) (by rw [zeroB_size]; omega) k, ?_, ?_, ⟨rfl, rfl⟩, ?_, ?_, ?_, ?_, ?_, trivial⟩
  · intro h0 b o hb hp
    exact cell_sub (Sub.upd hb o) hp
  · rintro _ x ⟨_, rfl⟩
    exact (Blk.new _ k 9 [.string (zeroB 256)]).cell' 0 rfl
  · rintro _ vs ⟨i, hi, rfl⟩
    exact ⟨_, rfl⟩
  · rintro _ _ ⟨i, hi, _⟩
    rw [bits_zero] at hi; cases hi
  · rintro _ x ⟨rfl, rfl⟩ _ D' hD
    have U := fun {b t vs} (H : Blk ((((((h3.upd k26 (.cells #[.pointer (some ⟨db, 0, none⟩), .int .i64 (n : Nat)] 109 (0, 0))).upd k27 (.cells #[.pointer none] 54 (0, 0))).put k27 0 [.pointer (some ⟨k26, 0, none⟩)])).upd k28 (.cells #[.bool false] 4 (0, 0))).put k28 0 [.bool false]) b t vs) => (H.upd hk' (.cells #[.string (zeroB 256)] 9 (0, 0))).upd hD (.deferred (some []))
    have dD : ∀ {b t vs}, Blk ((((((h3.upd k26 (.cells #[.pointer (some ⟨db, 0, none⟩), .int .i64 (n : Nat)] 109 (0, 0))).upd k27 (.cells #[.pointer none] 54 (0, 0))).put k27 0 [.pointer (some ⟨k26, 0, none⟩)])).upd k28 (.cells #[.bool false] 4 (0, 0))).put k28 0 [.bool false]) b t vs → b ≠ D' := fun H => (H.upd hk' _).ne hD
    have d2 := dD E2
    have d3 := dD E3
    have F2 := (U E2).put 0 [.pointer (some ⟨k26, 0, none⟩)]
    have F3 := (U E3).put_ne 0 [.pointer (some ⟨k26, 0, none⟩)] d32
    have G2 := F2.put_ne 0 [.int .i64 0] (Ne.symm d32)
    have G3 := F3.put 0 [.int .i64 0]
    have del : ∀ {y : Hp} {b : Nat} {t : TypeId} {vs : List Value}, Blk y b t vs → b ≠ D' → Blk (y.del D') b t vs := fun H e => by
      unfold Blk Hp.del
      rw [if_neg e]; exact H
    have d26 : k26 ≠ k2 ∧ k26 ≠ k3 := ⟨(B2.ne hk26).symm, (B3.ne hk26).symm⟩
    have hD' := hD
    refine ⟨false, (U C28).cell' 0 rfl, _, (U E27).cell' 0 rfl, (U E2).store (Nat.le_refl 1), F3.store (Nat.le_refl 1), ?_, _, (del G2 d2).cell' 0 rfl, _, (del G3 d3).cell' 0 rfl, ?_⟩
    · rw [Gx.put_ne _ _ _ (Ne.symm d3), Gx.put_ne _ _ _ (Ne.symm d2), Hp.upd_same]
    · have sY : Gx.Sub h ((((((((((h3.upd k26 (.cells #[.pointer (some ⟨db, 0, none⟩), .int .i64 (n : Nat)] 109 (0, 0))).upd k27 (.cells #[.pointer none] 54 (0, 0))).put k27 0 [.pointer (some ⟨k26, 0, none⟩)]).upd k28 (.cells #[.bool false] 4 (0, 0))).put k28 0 [.bool false]).upd k (.cells #[.string (zeroB 256)] 9 (0, 0))).upd D' (.deferred (some []))).put k2 0 [.pointer (some ⟨k26, 0, none⟩)]).put k3 0 [.int .i64 0]).del D') := fun c o hc => by
        obtain ⟨_, _, _, a4, a5⟩ := sA c o hc
        have hx := sX c o hc
        have ck : c ≠ k := fun e => by rw [e, hk'] at hx; cases hx
        have hx2 := Sub.upd hk' (.cells #[.string (zeroB 256)] 9 (0, 0)) c o hx
        have cD : c ≠ D' := fun e => by rw [e] at hx2; rw [hx2] at hD; cases hD
        unfold Hp.del
        rw [if_neg cD, Gx.put_ne _ _ _ a5, Gx.put_ne _ _ _ a4, Hp.upd_ne _ _ cD]
        exact hx2
      refine hK _ k26 (fun c => c = k26 ∨ S c) ⟨⟨S, del (((U E26).put_ne 0 _ d26.1).put_ne 0 _ d26.2) (dD E26), H.sub sY, fun hc => H.in_heap hc n26, fun c => Iff.rfl⟩, h1, h2, hl⟩ sY ?_
      rintro c (rfl | hc)
      · exact .inr n26
      · exact .inl hc
  · rintro x hf; exact hf.elim
  · rintro x hf; exact hf.elim
end Go.Proofs.YthbogjbcecmopaaDoor
namespace Go.Proofs.YthbogjbcecmopaaDoor
open Go.Gx
set_option maxRecDepth 100000
set_option linter.unusedVariables false

abbrev Ch := Nat × ByteArray
variable {h : Hp} {K : Value → Hp → Prop}
end Go.Proofs.YthbogjbcecmopaaDoor
namespace Go.Proofs.YthbogjbcecmopaaDoor
open Go.Gx
set_option maxRecDepth 100000
set_option linter.unusedVariables false

variable {h : Hp} {jb db n : Nat} {S : Nat → Prop} {D : Dk} {K : Value → Hp → Prop}
end Go.Proofs.YthbogjbcecmopaaDoor
namespace Go.Proofs
open Go.Shelf
end Go.Proofs
namespace Go.Proofs
open Go.Shelf Go.RowKit Go.Lib Go.Sort
end Go.Proofs
namespace Go.Proofs.YthbogjbcecmopaaDoor
open Go.Gx
open Go.Sort (flatK get_flatK size_flatK HoldsK putRowK grow SortedIn PermIn)
open Go.Proofs (sortWorldK)
set_option linter.unusedVariables false
end Go.Proofs.YthbogjbcecmopaaDoor
namespace Go.Proofs.YthbogjbcecmopaaDoor
open Go.Gx
set_option maxRecDepth 100000
set_option linter.unusedVariables false

variable {h : Hp} {jb db n : Nat} {S : Nat → Prop} {D : Dk} {K : Value → Hp → Prop}
end Go.Proofs.YthbogjbcecmopaaDoor
