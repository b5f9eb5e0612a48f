/- The formulas of functions of the program, as the executor computes them, and that a call does what its formula says. Printed by a tool of ours (wip/tool). What a mark on a disk tells, one page after another; a journal that is opened. Conditions: they stand as they are named. What slices.Collect makes of slices.Values of changes. Conditions: not too many. Why changes can be committed. Conditions: they are right. DERIVED: THE SHELF's CONTRACTS AT THIS DUMP, IN PLAIN WORDS (tools/lay-plain.mjs out of 'YthbogjbcecmopaaGreatDoorShelf2.lean', which tools/lay-shelf.mjs wrote): THE SAME DECLARATIONS UNDER THE SAME NAMES: 'import', 'namespace', 'open', 'def', 'theorem' AND NOTHING ELSE: no command of the shelf's: FOR A HAND-IN. Each laying: the table of numbers ('.._ren') and one theorem, a field a fact of the dump's own or the kernel's comparison; each contract: ONE APPLICATION. What the comparison of two changes by their pages gives, in whatever world. Condition: pages below 256. slices.SortedFunc of slices.Values at changes, by their pages. Conditions: small pages. The formulas of functions of the program, as the executor computes them, and that a call does what its formula says. Printed by a tool of ours (wip/tool). What a commit does to a disk, failures and all. Conditions: right changes, one of a page; nothing waits ahead of it. A pager's head as plain data: its bytes, and what bytes tell. Conditions: none beyond each law's own. The bytes of a pager's head. Conditions: the head lies in cells; roots below 65536. Reading a pager's head. Conditions: 1024 bytes, at most 128 pages. States in cells; a page of noughts. Conditions: none beyond each law's own. What a commit leaves where nothing fails: its pages. Conditions: the power is on, no failure is set, nothing waits. Maps from pages to texts, as lists. Conditions: none beyond each law's own. A pager in memory, and what it tells. Conditions: it stands as it is named; the power is on where it reads. -/
import Derived.Test.YthbogjbcecmopaaGreatDoorPw02
import Derived.Test.YthbogjbcecmopaaGreatDoorProg
import Derived.KernelRfl
import Derived.Shelf.SlSortCmp.WholeK
import Derived.Shelf.SlSortCmp.NoneTotal
import Derived.Shelf.SlMaps.Clone
import Derived.Shelf.SlIterI.Nil
import Derived.Shelf.SortM.Plain
import Derived.Shelf.SortM.SortNone
import Derived.Ground.GgzProg
import Derived.Ground.SlgmProg
import Derived.Ground.SlsfProg
import Derived.Ground.SlmcProg
import Derived.WalkKit
namespace Go.Proofs.YthbogjbcecmopaaGreatDoor
open Go.Gx
set_option maxRecDepth 100000
set_option linter.unusedVariables false

def journal_Open.H : Hints := { N := 78, loc := (fun _ => false), join := (fun _ => none), loop := (fun _ => none), ifc := 0, order := (fun i => bif Nat.beq i 1 then some (some 7, false, [0, 1, 2, 3, 4, 6, 5, 7, 8, 9], .q 0 (.f 1 (.q 2 (.q 3 (.q 4 (.q 6 (.f 5 (.f 7 (.q 8 (.q 9 .done)) .e) .e))))) .e)) else bif Nat.beq i 14 then some (some 5, false, [0, 1, 2, 4, 3, 5, 6], .q 0 (.q 1 (.q 2 (.q 4 (.f 3 (.f 5 (.q 6 .done) .e) .e))))) else bif Nat.beq i 21 then some (some 5, true, [0, 1, 2, 3, 4, 5, 6], .q 0 (.q 1 (.f 2 (.f 3 (.f 4 (.f 5 (.q 6 .done) .e) .e) .e) .e))) else none), iter := 114 }
def journal_Open.W (d_b d_o : Nat) (pages : Int) (h : Hp) (Q : Value → Hp → Prop) : Prop :=
  (∀ (k1 : Nat), ((h k1 = none) → (∀ (k2 : Nat), ((h.upd k1 (.cells #[.int .i64 pages] 3 (0, 0)) k2 = none) → (∀ (k3 : Nat), (((h.upd k1 (.cells #[.int .i64 pages] 3 (0, 0))).upd k2 (.cells #[.pointer none] 63 (0, 0)) k3 = none) → (∃ n4, ((((h.upd k1 (.cells #[.int .i64 pages] 3 (0, 0))).upd k2 (.cells #[.pointer none] 63 (0, 0))).upd k3 (.cells #[.int .i64 0] 29 (0, 0))).cell k1 0 = some (.int .i64 n4)) ∧ CallsH Tryz.prog 74 (#[.int .i64 n4]) (((h.upd k1 (.cells #[.int .i64 pages] 3 (0, 0))).upd k2 (.cells #[.pointer none] 63 (0, 0))).upd k3 (.cells #[.int .i64 0] 29 (0, 0))) (fun v5 h6 => ∃ n7, (v5 = .int .i64 n7) ∧ (Gx.Sub (((h.upd k1 (.cells #[.int .i64 pages] 3 (0, 0))).upd k2 (.cells #[.pointer none] 63 (0, 0))).upd k3 (.cells #[.int .i64 0] 29 (0, 0))) h6) ∧ bif hb (n7 == 0) then ((Gx.Sub (((h.upd k1 (.cells #[.int .i64 pages] 3 (0, 0))).upd k2 (.cells #[.pointer none] 63 (0, 0))).upd k3 (.cells #[.int .i64 0] 29 (0, 0))) h6) ∧ (StoreOk h6 k2 0 1) ∧ (StoreOk (h6.put k2 0 [.pointer none]) k3 0 1) ∧ ∃ a8, (((h6.put k2 0 [.pointer none]).put k3 0 [.int .i64 1]).cell k2 0 = some (.pointer a8)) ∧ ∃ n9, (((h6.put k2 0 [.pointer none]).put k3 0 [.int .i64 1]).cell k3 0 = some (.int .i64 n9)) ∧ Q (.tuple #[.pointer a8, .int .i64 n9]) ((h6.put k2 0 [.pointer none]).put k3 0 [.int .i64 1])) else (∃ n10, ((((h.upd k1 (.cells #[.int .i64 pages] 3 (0, 0))).upd k2 (.cells #[.pointer none] 63 (0, 0))).upd k3 (.cells #[.int .i64 0] 29 (0, 0))).cell k1 0 = some (.int .i64 n10)) ∧ CallsH Tryz.prog 75 (#[.pointer (some ⟨d_b, d_o, none⟩)]) (h6) (fun v11 h12 => ∃ n13, (v11 = .int .i64 n13) ∧ (Gx.Sub (((h.upd k1 (.cells #[.int .i64 pages] 3 (0, 0))).upd k2 (.cells #[.pointer none] 63 (0, 0))).upd k3 (.cells #[.int .i64 0] 29 (0, 0))) h12) ∧ CallsH Tryz.prog 74 (#[.int .i64 n10]) (h12) (fun v14 h15 => ∃ n16, (v14 = .int .i64 n16) ∧ bif hb (decide (n13 < n16)) then ((StoreOk h15 k2 0 1) ∧ (StoreOk (h15.put k2 0 [.pointer none]) k3 0 1) ∧ ∃ a17, (((h15.put k2 0 [.pointer none]).put k3 0 [.int .i64 1]).cell k2 0 = some (.pointer a17)) ∧ ∃ n18, (((h15.put k2 0 [.pointer none]).put k3 0 [.int .i64 1]).cell k3 0 = some (.int .i64 n18)) ∧ Q (.tuple #[.pointer a17, .int .i64 n18]) ((h15.put k2 0 [.pointer none]).put k3 0 [.int .i64 1])) else (CallsH Tryz.prog 76 (#[.pointer (some ⟨d_b, d_o, none⟩), .int .i64 0]) (h15) (fun v19 h20 => ∃ s21, ∃ n22, (v19 = .tuple #[.string s21, .int .i64 n22]) ∧ bif hb (n22 != 0) then ((StoreOk h20 k2 0 1) ∧ (StoreOk (h20.put k2 0 [.pointer none]) k3 0 1) ∧ ∃ a23, (((h20.put k2 0 [.pointer none]).put k3 0 [.int .i64 n22]).cell k2 0 = some (.pointer a23)) ∧ ∃ n24, (((h20.put k2 0 [.pointer none]).put k3 0 [.int .i64 n22]).cell k3 0 = some (.int .i64 n24)) ∧ Q (.tuple #[.pointer a23, .int .i64 n24]) ((h20.put k2 0 [.pointer none]).put k3 0 [.int .i64 n22])) else (∃ n25, (h20.cell k1 0 = some (.int .i64 n25)) ∧ ∀ (k26 : Nat), (h20 k26 = none) → (∀ (k27 : Nat), (h20.upd k26 (.cells (setL (setL [.pointer none, .int .i64 0] 0 [.pointer (some ⟨d_b, d_o, none⟩)]) 1 [.int .i64 n25]).toArray 131 (0, 0)) k27 = none) → ((StoreOk ((h20.upd k26 (.cells #[.pointer (some ⟨d_b, d_o, none⟩), .int .i64 n25] 131 (0, 0))).upd k27 (.cells #[.pointer none] 63 (0, 0))) k27 0 1) ∧ ∀ (k28 : Nat), (((h20.upd k26 (.cells (setL (setL [.pointer none, .int .i64 0] 0 [.pointer (some ⟨d_b, d_o, none⟩)]) 1 [.int .i64 n25]).toArray 131 (0, 0))).upd k27 (.cells #[.pointer none] 63 (0, 0))).put k27 0 [.pointer (some ⟨k26, 0, none⟩)] k28 = none) → ((StoreOk ((((h20.upd k26 (.cells #[.pointer (some ⟨d_b, d_o, none⟩), .int .i64 n25] 131 (0, 0))).upd k27 (.cells #[.pointer none] 63 (0, 0))).put k27 0 [.pointer (some ⟨k26, 0, none⟩)]).upd k28 (.cells #[.bool false] 4 (0, 0))) k28 0 1) ∧ CallsH Tryz.prog 77 (#[.string s21]) (((((h20.upd k26 (.cells #[.pointer (some ⟨d_b, d_o, none⟩), .int .i64 n25] 131 (0, 0))).upd k27 (.cells #[.pointer none] 63 (0, 0))).put k27 0 [.pointer (some ⟨k26, 0, none⟩)]).upd k28 (.cells #[.bool false] 4 (0, 0))).put k28 0 [.bool false]) (fun v29 h30 => ∃ (v31 : Value), (v29 = v31) ∧ ∃ (xs32 : List Value), (v31 = .func (Fn.func 114) #[] xs32.toArray) ∧ ∃ (J33 : Nat → List Value → Prop), ∃ (J34 : Nat → Prop), ∃ (J35 : Hp → Prop), ∃ (J36 : Nat → Hp → Prop), ∃ (J37 : Nat → Hp → Prop), (IterH Tryz.prog 114 xs32 J33 J34 J35) ∧ (∀ (x38 : Hp), ∀ (k39 : Nat), ∀ (x40 : Obj), (x38 k39 = none) → ((J35 x38) → (J35 (x38.upd k39 x40)))) ∧ (∀ (k41 : Nat), ∀ (x42 : Hp), (J36 k41 x42) → (J35 x42)) ∧ (J36 0 h30) ∧ (∀ (k43 : Nat), ∀ (xs44 : List Value), (J33 k43 xs44) → (∃ n45, xs44 = [.int .i64 n45])) ∧ (∀ (k46 : Nat), ∀ (n47 : Int), (J33 k46 [.int .i64 n47]) → (∀ (x48 : Hp), (J36 k46 x48) → (∃ n49, (x48.cell k1 0 = some (.int .i64 n49)) ∧ bif hb (decide (n47 ≥ n49)) then (J36 (k46 + 1) x48) else ((StoreOk x48 k28 0 1) ∧ ∃ a50, ((x48.put k28 0 [.bool true]).cell k27 0 = some (.pointer a50)) ∧ CallsH Tryz.prog 78 (#[.pointer a50, .int .i64 (IntKind.i64.wrap (1 + IntKind.i64.wrap (4 * n47)))]) (x48.put k28 0 [.bool true]) (fun v51 h52 => ∃ s53, ∃ n54, (v51 = .tuple #[.string s53, .int .i64 n54]) ∧ bif hb (n54 == 0) then (∃ a55, (h52.cell k27 0 = some (.pointer a55)) ∧ ∃ a56, (h52.cell k27 0 = some (.pointer a56)) ∧ CallsH Tryz.prog 80 (#[.pointer a56, .int .i64 n47]) (h52) (fun v57 h58 => ∃ n59, (v57 = .int .i64 n59) ∧ (Gx.Sub h52 h58) ∧ CallsH Tryz.prog 79 (#[.pointer a55, .int .i64 n59, .string s53]) (h58) (fun v60 h61 => ∃ n62, (v60 = .int .i64 n62) ∧ bif hb (n62 != 0) then ((StoreOk h61 k2 0 1) ∧ (StoreOk (h61.put k2 0 [.pointer none]) k3 0 1) ∧ J37 0 ((h61.put k2 0 [.pointer none]).put k3 0 [.int .i64 n62])) else (J36 (k46 + 1) h61)))) else (bif hb (n54 != 0) then ((StoreOk h52 k2 0 1) ∧ (StoreOk (h52.put k2 0 [.pointer none]) k3 0 1) ∧ J37 0 ((h52.put k2 0 [.pointer none]).put k3 0 [.int .i64 n54])) else (J36 (k46 + 1) h52))))))) ∧ (∀ (k63 : Nat), ∀ (x64 : Hp), (J36 k63 x64) → ((J34 k63) → (∀ (k65 : Nat), (x64 k65 = none) → (∃ b66, ((x64.upd k65 (Obj.deferred (some []))).cell k28 0 = some (.bool b66)) ∧ bif b66 then (∃ a67, ((x64.upd k65 (Obj.deferred (some []))).cell k27 0 = some (.pointer a67)) ∧ CallsH Tryz.prog 81 (#[.pointer a67, .int .i64 0]) (x64.upd k65 (Obj.deferred (some []))) (fun v68 h69 => ∃ n70, (v68 = .int .i64 n70) ∧ bif hb (n70 != 0) then ((StoreOk h69 k2 0 1) ∧ (StoreOk (h69.put k2 0 [.pointer none]) k3 0 1) ∧ ((h69.put k2 0 [.pointer none]).put k3 0 [.int .i64 n70] k65 = some (Obj.deferred (some []))) ∧ ∃ a71, ((((h69.put k2 0 [.pointer none]).put k3 0 [.int .i64 n70]).del k65).cell k2 0 = some (.pointer a71)) ∧ ∃ n72, ((((h69.put k2 0 [.pointer none]).put k3 0 [.int .i64 n70]).del k65).cell k3 0 = some (.int .i64 n72)) ∧ Q (.tuple #[.pointer a71, .int .i64 n72]) (((h69.put k2 0 [.pointer none]).put k3 0 [.int .i64 n70]).del k65)) else (∃ (J73 : Hp), (Gx.Sub J73 h69) ∧ ∃ a74, (J73.cell k27 0 = some (.pointer a74)) ∧ (Int.ofNat 0 ≤ 256) ∧ (Int.ofNat 256 ≤ 256) ∧ (Int.ofNat 1 * 256 ≤ 281474976710656) ∧ (Int.ofNat 256 ≤ 9223372036854775807) ∧ ∀ (k75 : Nat), (h69 k75 = none) → ((Gx.Sub J73 (h69.upd k75 (.cells (repV 256 [.int .u8 0]).toArray 5 (0, 0)))) ∧ ∃ s76, (SliceAt (h69.upd k75 (.cells (repV 256 [.int .u8 0]).toArray 5 (0, 0))) (some ⟨k75, 0, none⟩) (256) (bytesV s76)) ∧ (Gx.Sub J73 (h69.upd k75 (.cells (repV 256 [.int .u8 0]).toArray 5 (0, 0)))) ∧ CallsH Tryz.prog 82 (#[.pointer (some ⟨d_b, d_o, none⟩), .int .i64 0, .string s76]) (h69.upd k75 (.cells (repV 256 [.int .u8 0]).toArray 5 (0, 0))) (fun v77 h78 => ∃ n79, (v77 = .int .i64 n79) ∧ (Gx.Sub J73 h78) ∧ CallsH Tryz.prog 81 (#[.pointer a74, .int .i64 n79]) (h78) (fun v80 h81 => ∃ n82, (v80 = .int .i64 n82) ∧ bif hb (n82 != 0) then ((StoreOk h81 k2 0 1) ∧ (StoreOk (h81.put k2 0 [.pointer none]) k3 0 1) ∧ ((h81.put k2 0 [.pointer none]).put k3 0 [.int .i64 n82] k65 = some (Obj.deferred (some []))) ∧ ∃ a83, ((((h81.put k2 0 [.pointer none]).put k3 0 [.int .i64 n82]).del k65).cell k2 0 = some (.pointer a83)) ∧ ∃ n84, ((((h81.put k2 0 [.pointer none]).put k3 0 [.int .i64 n82]).del k65).cell k3 0 = some (.int .i64 n84)) ∧ Q (.tuple #[.pointer a83, .int .i64 n84]) (((h81.put k2 0 [.pointer none]).put k3 0 [.int .i64 n82]).del k65)) else (∃ a85, (h81.cell k27 0 = some (.pointer a85)) ∧ (StoreOk h81 k2 0 1) ∧ (StoreOk (h81.put k2 0 [.pointer a85]) k3 0 1) ∧ ((h81.put k2 0 [.pointer a85]).put k3 0 [.int .i64 0] k65 = some (Obj.deferred (some []))) ∧ ∃ a86, ((((h81.put k2 0 [.pointer a85]).put k3 0 [.int .i64 0]).del k65).cell k2 0 = some (.pointer a86)) ∧ ∃ n87, ((((h81.put k2 0 [.pointer a85]).put k3 0 [.int .i64 0]).del k65).cell k3 0 = some (.int .i64 n87)) ∧ Q (.tuple #[.pointer a86, .int .i64 n87]) (((h81.put k2 0 [.pointer a85]).put k3 0 [.int .i64 0]).del k65)))))))) else (∃ a88, ((x64.upd k65 (Obj.deferred (some []))).cell k27 0 = some (.pointer a88)) ∧ (StoreOk (x64.upd k65 (Obj.deferred (some []))) k2 0 1) ∧ (StoreOk ((x64.upd k65 (Obj.deferred (some []))).put k2 0 [.pointer a88]) k3 0 1) ∧ (((x64.upd k65 (Obj.deferred (some []))).put k2 0 [.pointer a88]).put k3 0 [.int .i64 0] k65 = some (Obj.deferred (some []))) ∧ ∃ a89, (((((x64.upd k65 (Obj.deferred (some []))).put k2 0 [.pointer a88]).put k3 0 [.int .i64 0]).del k65).cell k2 0 = some (.pointer a89)) ∧ ∃ n90, (((((x64.upd k65 (Obj.deferred (some []))).put k2 0 [.pointer a88]).put k3 0 [.int .i64 0]).del k65).cell k3 0 = some (.int .i64 n90)) ∧ Q (.tuple #[.pointer a89, .int .i64 n90]) ((((x64.upd k65 (Obj.deferred (some []))).put k2 0 [.pointer a88]).put k3 0 [.int .i64 0]).del k65)))))) ∧ (∀ (x91 : Hp), (J37 0 x91) → (∀ (k92 : Nat), (x91 k92 = none) → ((x91.upd k92 (Obj.deferred (some [])) k92 = some (Obj.deferred (some []))) ∧ ∃ a93, (((x91.upd k92 (Obj.deferred (some []))).del k92).cell k2 0 = some (.pointer a93)) ∧ ∃ n94, (((x91.upd k92 (Obj.deferred (some []))).del k92).cell k3 0 = some (.int .i64 n94)) ∧ Q (.tuple #[.pointer a93, .int .i64 n94]) ((x91.upd k92 (Obj.deferred (some []))).del k92)))) ∧ (∀ (x95 : Hp), (J37 2 x95) → (∀ (k96 : Nat), (x95 k96 = none) → False)) ∧ True))))))))))))))))))
theorem journal_Open.calls (d_b d_o : Nat) (pages : Int) {h : Hp} {Q : Value → Hp → Prop} (hW : journal_Open.W d_b d_o pages h Q) : CallsH Tryz.prog 32 #[.pointer (some ⟨d_b, d_o, none⟩), .int .i64 pages] h Q := by
  have hE_ : bodyW Tryz.prog journal_Open.H Tryz.f32 [.ptr d_b d_o, .val (.int .i64 pages)] h Q = journal_Open.W d_b d_o pages h Q := by kernel_rfl
  rw [← hE_] at hW
  exact calls_of_body (H := journal_Open.H) (args := [.ptr d_b d_o, .val (.int .i64 pages)]) Tryz.func32 Tryz.ntmps32 rfl rfl hW

def journal_told_1_0y.H : Hints := { N := 23, loc := (fun _ => false), join := (fun _ => none), loop := (fun i => bif Nat.beq i 1 then some [.slot 4 (.int .i64)] else none), ifc := 0, order := (fun _ => none) }
def journal_told_1_0y.W (yield_l : Nat) (p1_b p1_o : Nat) (h : Hp) (Q : Value → Hp → Prop) : Prop :=
  (∃ (J1 : Int → Hp → Nat → Prop), (∃ k2, J1 0 h k2) ∧ ∀ (n3 : Int), ∀ (x4 : Hp), ∀ (k5 : Nat), (J1 n3 x4 k5) → (bif hb (decide (n3 < 128)) then (∃ s6, (x4.cell p1_b p1_o = some (.string s6)) ∧ (((8 : Int) = 0) → False) ∧ (0 ≤ IntKind.i64.wrap (n3.tdiv 8)) ∧ (IntKind.i64.wrap (n3.tdiv 8) < Int.ofNat s6.size) ∧ (((8 : Int) = 0) → False) ∧ (0 ≤ n3.tmod 8) ∧ bif hb (IntKind.u8.wrap (iand IntKind.u8 (ishr IntKind.u8 (byteAt s6 (IntKind.i64.wrap (n3.tdiv 8)).toNat) (n3.tmod 8)) 1) == 1) then (YieldH Tryz.prog yield_l ([.int .i64 n3]) (x4) (fun v7 h8 => ∃ b9, (v7 = .bool b9) ∧ bif !b9 then (Q (.tuple #[]) h8) else (∃ k10, (k10 < k5) ∧ J1 (IntKind.i64.wrap (n3 + 1)) h8 k10))) else (∃ k11, (k11 < k5) ∧ J1 (IntKind.i64.wrap (n3 + 1)) x4 k11)) else (Q (.tuple #[]) x4)))
theorem journal_told_1_0y.calls (yield_l : Nat) (p1_b p1_o : Nat) {h : Hp} {Q : Value → Hp → Prop} (hW : journal_told_1_0y.W yield_l p1_b p1_o h Q) : CallsH Tryz.prog 114 #[.func (.yield yield_l) #[] #[], .pointer (some ⟨p1_b, p1_o, none⟩)] h Q := by
  have hE_ : bodyW Tryz.prog journal_told_1_0y.H Tryz.f114 [.val (.func (.yield yield_l) #[] #[]), .ptr p1_b p1_o] h Q = journal_told_1_0y.W yield_l p1_b p1_o h Q := by kernel_rfl
  rw [← hE_] at hW
  exact calls_of_body (H := journal_told_1_0y.H) (args := [.val (.func (.yield yield_l) #[] #[]), .ptr p1_b p1_o]) Tryz.func114 Tryz.ntmps114 rfl rfl hW

def slices_Values_journal_Change_journal_Change_.H : Hints := { N := 4, loc := (fun _ => false), join := (fun _ => none), loop := (fun _ => none), ifc := 0, order := (fun _ => none) }
def slices_Values_journal_Change_journal_Change_.W (sa : Option Addr) (sl sc : Nat) (h : Hp) (Q : Value → Hp → Prop) : Prop :=
  (∀ (k1 : Nat), ((h k1 = none) → (Q (.func (Fn.func 130) #[] #[.pointer (some ⟨k1, 0, none⟩)]) (h.upd k1 (.cells #[.slice sa sl sc] 123 (0, 0))))))
theorem slices_Values_journal_Change_journal_Change_.calls (sa : Option Addr) (sl sc : Nat) {h : Hp} {Q : Value → Hp → Prop} (hW : slices_Values_journal_Change_journal_Change_.W sa sl sc h Q) : CallsH Tryz.prog 110 #[.slice sa sl sc] h Q := by
  have hE_ : bodyW Tryz.prog slices_Values_journal_Change_journal_Change_.H Tryz.f110 [.val (.slice sa sl sc)] h Q = slices_Values_journal_Change_journal_Change_.W sa sl sc h Q := by kernel_rfl
  rw [← hE_] at hW
  exact calls_of_body (H := slices_Values_journal_Change_journal_Change_.H) (args := [.val (.slice sa sl sc)]) Tryz.func110 Tryz.ntmps110 rfl rfl hW

def slices_Values_journal_Change_journal_Change_1_0y.H : Hints := { N := 16, loc := (fun i => Nat.beq i 4 || false), join := (fun _ => none), loop := (fun i => bif Nat.beq i 1 then some [.slot 7 (.int .i64)] else none), ifc := 0, order := (fun _ => none) }
def slices_Values_journal_Change_journal_Change_1_0y.W (yield_l : Nat) (p1_b p1_o : Nat) (h : Hp) (Q : Value → Hp → Prop) : Prop :=
  (∃ a1, ∃ k2, ∃ k3, (h.cell p1_b p1_o = some (.slice a1 k2 k3)) ∧ ∃ (J4 : Int → Hp → Nat → Prop), (∃ k5, J4 0 h k5) ∧ ∀ (n6 : Int), ∀ (x7 : Hp), ∀ (k8 : Nat), (J4 n6 x7 k8) → (bif hb (decide (n6 < Int.ofNat k2)) then ((0 ≤ n6) ∧ (n6 < Int.ofNat k2) ∧ ∃ k9, ∃ k10, (a1 = some ⟨k9, k10, none⟩) ∧ ∃ n11, (x7.cell k9 (k10 + n6.toNat * 2) = some (.int .i64 n11)) ∧ ∃ s12, (x7.cell k9 (k10 + n6.toNat * 2 + 1) = some (.string s12)) ∧ YieldH Tryz.prog yield_l ([.agg #[.int .i64 n11, .string s12]]) (x7) (fun v13 h14 => ∃ b15, (v13 = .bool b15) ∧ bif !b15 then (Q (.tuple #[]) h14) else (∃ k16, (k16 < k8) ∧ J4 (IntKind.i64.wrap (n6 + 1)) h14 k16))) else (Q (.tuple #[]) x7)))
theorem slices_Values_journal_Change_journal_Change_1_0y.calls (yield_l : Nat) (p1_b p1_o : Nat) {h : Hp} {Q : Value → Hp → Prop} (hW : slices_Values_journal_Change_journal_Change_1_0y.W yield_l p1_b p1_o h Q) : CallsH Tryz.prog 130 #[.func (.yield yield_l) #[] #[], .pointer (some ⟨p1_b, p1_o, none⟩)] h Q := by
  have hE_ : bodyW Tryz.prog slices_Values_journal_Change_journal_Change_1_0y.H Tryz.f130 [.val (.func (.yield yield_l) #[] #[]), .ptr p1_b p1_o] h Q = slices_Values_journal_Change_journal_Change_1_0y.W yield_l p1_b p1_o h Q := by kernel_rfl
  rw [← hE_] at hW
  exact calls_of_body (H := slices_Values_journal_Change_journal_Change_1_0y.H) (args := [.val (.func (.yield yield_l) #[] #[]), .ptr p1_b p1_o]) Tryz.func130 Tryz.ntmps130 rfl rfl hW

def slices_AppendSeq_journal_Change_journal_Change__1f130.H : Hints := { N := 13, loc := (fun _ => false), join := (fun _ => none), loop := (fun _ => none), ifc := 0, order := (fun _ => none) }
def slices_AppendSeq_journal_Change_journal_Change__1f130.W (sa : Option Addr) (sl sc : Nat) (seq_0_b seq_0_o : Nat) (h : Hp) (Q : Value → Hp → Prop) : Prop :=
  (∀ (k1 : Nat), ((h k1 = none) → (∃ (J2 : Nat → List Value → Prop), ∃ (J3 : Nat → Prop), ∃ (J4 : Hp → Prop), ∃ (J5 : Nat → Hp → Prop), ∃ (J6 : Nat → Hp → Prop), (IterH Tryz.prog 130 [.pointer (some ⟨seq_0_b, seq_0_o, none⟩)] J2 J3 J4) ∧ (∀ (x7 : Hp), ∀ (k8 : Nat), ∀ (x9 : Obj), (x7 k8 = none) → ((J4 x7) → (J4 (x7.upd k8 x9)))) ∧ (∀ (k10 : Nat), ∀ (x11 : Hp), (J5 k10 x11) → (J4 x11)) ∧ (J5 0 (h.upd k1 (.cells #[.slice sa sl sc] 123 (0, 0)))) ∧ (∀ (k12 : Nat), ∀ (xs13 : List Value), (J2 k12 xs13) → (∃ n14, ∃ s15, xs13 = [.agg #[.int .i64 n14, .string s15]])) ∧ (∀ (k16 : Nat), ∀ (n17 : Int), ∀ (s18 : ByteArray), (J2 k16 [.agg #[.int .i64 n17, .string s18]]) → (∀ (x19 : Hp), (J5 k16 x19) → (∀ (k20 : Nat), (x19 k20 = none) → ((StoreOk (x19.upd k20 (.cells #[.int .i64 0, .string (bytesL [])] 122 (0, 0))) k20 0 2) ∧ ∃ a21, ∃ k22, ∃ k23, (((x19.upd k20 (.cells #[.int .i64 0, .string (bytesL [])] 122 (0, 0))).put k20 0 [.int .i64 n17, .string s18]).cell k1 0 = some (.slice a21 k22 k23)) ∧ ∃ n24, (((x19.upd k20 (.cells #[.int .i64 0, .string (bytesL [])] 122 (0, 0))).put k20 0 [.int .i64 n17, .string s18]).cell k20 0 = some (.int .i64 n24)) ∧ ∃ s25, (((x19.upd k20 (.cells #[.int .i64 0, .string (bytesL [])] 122 (0, 0))).put k20 0 [.int .i64 n17, .string s18]).cell k20 1 = some (.string s25)) ∧ ∀ (k26 : Nat), ((x19.upd k20 (.cells #[.int .i64 0, .string (bytesL [])] 122 (0, 0))).put k20 0 [.int .i64 n17, .string s18] k26 = none) → (∃ (xs27 : List Value), (SliceAt (((x19.upd k20 (.cells #[.int .i64 0, .string (bytesL [])] 122 (0, 0))).put k20 0 [.int .i64 n17, .string s18]).upd k26 (.cells #[.int .i64 n24, .string s25] 122 (0, 0))) (some ⟨k26, 0, none⟩) (2) (xs27)) ∧ ∃ (J28 : Option Addr → Nat → Hp → Prop), (∀ (a29 : Option Addr), ∀ (k30 : Nat), ∀ (x31 : Hp), (J28 a29 k30 x31) → ((StoreOk x31 k1 0 1) ∧ J5 (k16 + 1) (x31.put k1 0 [.slice a29 (k22 + 1) k30]))) ∧ appendC Tryz.prog 122 a21 k22 k23 (((x19.upd k20 (.cells #[.int .i64 0, .string (bytesL [])] 122 (0, 0))).put k20 0 [.int .i64 n17, .string s18]).upd k26 (.cells #[.int .i64 n24, .string s25] 122 (0, 0))) xs27 1 J28))))) ∧ (∀ (k32 : Nat), ∀ (x33 : Hp), (J5 k32 x33) → ((J3 k32) → (∀ (k34 : Nat), (x33 k34 = none) → (∃ a35, ∃ k36, ∃ k37, ((x33.upd k34 (Obj.deferred (some []))).cell k1 0 = some (.slice a35 k36 k37)) ∧ (x33.upd k34 (Obj.deferred (some [])) k34 = some (Obj.deferred (some []))) ∧ Q (.slice a35 k36 k37) ((x33.upd k34 (Obj.deferred (some []))).del k34))))) ∧ (∀ (x38 : Hp), (J6 0 x38) → (∀ (k39 : Nat), (x38 k39 = none) → ((x38.upd k39 (Obj.deferred (some [])) k39 = some (Obj.deferred (some []))) ∧ Q (.slice none 0 0) ((x38.upd k39 (Obj.deferred (some []))).del k39)))) ∧ True)))
theorem slices_AppendSeq_journal_Change_journal_Change__1f130.calls (sa : Option Addr) (sl sc : Nat) (seq_0_b seq_0_o : Nat) {h : Hp} {Q : Value → Hp → Prop} (hW : slices_AppendSeq_journal_Change_journal_Change__1f130.W sa sl sc seq_0_b seq_0_o h Q) : CallsH Tryz.prog 144 #[.slice sa sl sc, .func (.func 130) #[] #[.pointer (some ⟨seq_0_b, seq_0_o, none⟩)]] h Q := by
  have hE_ : bodyW Tryz.prog slices_AppendSeq_journal_Change_journal_Change__1f130.H Tryz.f144 [.val (.slice sa sl sc), .val (.func (.func 130) #[] #[.pointer (some ⟨seq_0_b, seq_0_o, none⟩)])] h Q = slices_AppendSeq_journal_Change_journal_Change__1f130.W sa sl sc seq_0_b seq_0_o h Q := by kernel_rfl
  rw [← hE_] at hW
  exact calls_of_body (H := slices_AppendSeq_journal_Change_journal_Change__1f130.H) (args := [.val (.slice sa sl sc), .val (.func (.func 130) #[] #[.pointer (some ⟨seq_0_b, seq_0_o, none⟩)])]) Tryz.func144 Tryz.ntmps144 rfl rfl hW

def slices_Collect_journal_Change__0f130.H : Hints := { N := 5, loc := (fun _ => false), join := (fun _ => none), loop := (fun _ => none), ifc := 0, order := (fun _ => none) }
def slices_Collect_journal_Change__0f130.W (seq_0_b seq_0_o : Nat) (h : Hp) (Q : Value → Hp → Prop) : Prop :=
  (CallsH Tryz.prog 144 (#[.slice none 0 0, .func (Fn.func 130) #[] #[.pointer (some ⟨seq_0_b, seq_0_o, none⟩)]]) (h) (fun v1 h2 => ∃ a3, ∃ k4, ∃ k5, (v1 = .slice a3 k4 k5) ∧ Q (.slice a3 k4 k5) h2))
theorem slices_Collect_journal_Change__0f130.calls (seq_0_b seq_0_o : Nat) {h : Hp} {Q : Value → Hp → Prop} (hW : slices_Collect_journal_Change__0f130.W seq_0_b seq_0_o h Q) : CallsH Tryz.prog 128 #[.func (.func 130) #[] #[.pointer (some ⟨seq_0_b, seq_0_o, none⟩)]] h Q := by
  have hE_ : bodyW Tryz.prog slices_Collect_journal_Change__0f130.H Tryz.f128 [.val (.func (.func 130) #[] #[.pointer (some ⟨seq_0_b, seq_0_o, none⟩)])] h Q = slices_Collect_journal_Change__0f130.W seq_0_b seq_0_o h Q := by kernel_rfl
  rw [← hE_] at hW
  exact calls_of_body (H := slices_Collect_journal_Change__0f130.H) (args := [.val (.func (.func 130) #[] #[.pointer (some ⟨seq_0_b, seq_0_o, none⟩)])]) Tryz.func128 Tryz.ntmps128 rfl rfl hW

def slices_SortedFunc_journal_Change__0f130_1f111.H : Hints := { N := 12, loc := (fun _ => false), join := (fun _ => none), loop := (fun _ => none), ifc := 0, order := (fun _ => none) }
def slices_SortedFunc_journal_Change__0f130_1f111.W (seq_0_b seq_0_o : Nat) (h : Hp) (Q : Value → Hp → Prop) : Prop :=
  (CallsH Tryz.prog 128 (#[.func (Fn.func 130) #[] #[.pointer (some ⟨seq_0_b, seq_0_o, none⟩)]]) (h) (fun v1 h2 => ∃ a3, ∃ k4, ∃ k5, (v1 = .slice a3 k4 k5) ∧ CallsH Tryz.prog 129 (#[.slice a3 k4 k5, .func (Fn.func 111) #[] #[]]) (h2) (fun v6 h7 => (v6 = .tuple #[]) ∧ Q (.slice a3 k4 k5) h7)))
theorem slices_SortedFunc_journal_Change__0f130_1f111.calls (seq_0_b seq_0_o : Nat) {h : Hp} {Q : Value → Hp → Prop} (hW : slices_SortedFunc_journal_Change__0f130_1f111.W seq_0_b seq_0_o h Q) : CallsH Tryz.prog 109 #[.func (.func 130) #[] #[.pointer (some ⟨seq_0_b, seq_0_o, none⟩)], .func (.func 111) #[] #[]] h Q := by
  have hE_ : bodyW Tryz.prog slices_SortedFunc_journal_Change__0f130_1f111.H Tryz.f109 [.val (.func (.func 130) #[] #[.pointer (some ⟨seq_0_b, seq_0_o, none⟩)]), .val (.func (.func 111) #[] #[])] h Q = slices_SortedFunc_journal_Change__0f130_1f111.W seq_0_b seq_0_o h Q := by kernel_rfl
  rw [← hE_] at hW
  exact calls_of_body (H := slices_SortedFunc_journal_Change__0f130_1f111.H) (args := [.val (.func (.func 130) #[] #[.pointer (some ⟨seq_0_b, seq_0_o, none⟩)]), .val (.func (.func 111) #[] #[])]) Tryz.func109 Tryz.ntmps109 rfl rfl hW

end Go.Proofs.YthbogjbcecmopaaGreatDoor
namespace Go.Proofs.YthbogjbcecmopaaGreatDoor
open Go.Gx
set_option maxRecDepth 100000
set_option linter.unusedVariables false

def bitT (s : ByteArray) (i : Nat) : Bool := IntKind.u8.wrap (iand IntKind.u8 (ishr IntKind.u8 (byteAt s (i / 8)) ((i % 8 : Nat) : Int)) 1) == 1
def bitsOf (s : ByteArray) : List Nat := (List.range 128).filter (bitT s)
theorem cell_sub {h h' : Hp} (s : Sub h h') {b o : Nat} {v : Value} (hc : h.cell b o = some v) : h'.cell b o = some v := by
  unfold Hp.cell at hc ⊢
  cases e : h b with
  | none => rw [e] at hc; cases hc
  | some x => rw [e] at hc; rw [s b x e]; exact hc
theorem filter_get {p : Nat → Bool} {i n : Nat} (hi : i < n) (hp : p i = true) : ((List.range n).filter p)[((List.range i).filter p).length]? = some i := by
  have e : List.range n = List.range i ++ (i :: List.range' (i + 1) (n - (i + 1))) := by
    rw [List.range_eq_range', List.range_eq_range']
    have : n = i + (1 + (n - (i + 1))) := by omega
    conv => lhs; rw [this, ← List.range'_append_1, Nat.zero_add, ← List.range'_append_1]
    rfl
  rw [e, List.filter_append, List.filter_cons_of_pos hp, List.getElem?_append_right (Nat.le_refl _), Nat.sub_self]; rfl
theorem told_iter (mark : ByteArray) (hm : 16 ≤ mark.size) (pb : Nat) : IterH Tryz.prog 114 [.pointer (some ⟨pb, 0, none⟩)] (fun k vs => ∃ i : Nat, (bitsOf mark)[k]? = some i ∧ vs = [.int .i64 (i : Nat)]) (fun k => k = (bitsOf mark).length) (fun h => h.cell pb 0 = some (.string mark)) := by
  intro l J Jx hJP hY h hJ
  refine journal_told_1_0y.calls l pb 0 ?_
  unfold journal_told_1_0y.W
  refine ⟨fun n x m => ∃ i : Nat, n = (i : Int) ∧ i ≤ 128 ∧ m = 128 - i ∧ J ((List.range i).filter (bitT mark)).length x, ⟨_, 0, rfl, by decide, rfl, hJ⟩, ?_⟩
  rintro n x m ⟨i, rfl, hi, rfl, hJi⟩
  refine split_dec (fun g => ?_) fun g => ?_
  · have g : i < 128 := by have : (i : Int) < 128 := g; omega
    have hsucc : (List.range (i + 1)).filter (bitT mark) = (List.range i).filter (bitT mark) ++ if bitT mark i then [i] else [] := by
      rw [List.range_succ, List.filter_append]
      rw [List.filter_cons, List.filter_nil]
    have e1 : (i : Int).tdiv 8 = ((i / 8 : Nat) : Int) := by rw [Int.tdiv_eq_ediv_of_nonneg (by omega)]; omega
    have e2 : (i : Int).tmod 8 = ((i % 8 : Nat) : Int) := by rw [Int.tmod_eq_emod_of_nonneg (by omega)]; omega
    have e3 : IntKind.i64.wrap ((i / 8 : Nat) : Int) = ((i / 8 : Nat) : Int) := wid (by omega) (by omega)
    rw [e1, e2, e3, Int.toNat_natCast]
    have e4 : IntKind.i64.wrap ((i : Int) + 1) = ((i + 1 : Nat) : Int) := by rw [wid (by omega) (by omega)]; omega
    refine ⟨mark, hJP _ _ hJi, by decide, by omega, by show ((i / 8 : Nat) : Int) < (mark.size : Int); omega, by decide, by omega, ?_⟩
    rw [hb_eq]
    refine split_cond (fun eb => ?_) fun eb => ?_
    · have eb : bitT mark i = true := eb
      refine YieldH.mono (hY _ _ x hJi ⟨i, filter_get g eb, rfl⟩) fun v h' hq => ?_
      rcases hq with ⟨rfl, hj⟩ | ⟨rfl, hj⟩
      · refine ⟨true, rfl, 128 - (i + 1), by omega, i + 1, e4, by omega, rfl, ?_⟩
        rw [hsucc, if_pos eb, List.length_append]; exact hj
      · exact ⟨false, rfl, .inr hj⟩
    · have eb : bitT mark i = false := eb
      refine ⟨128 - (i + 1), by omega, i + 1, e4, by omega, rfl, ?_⟩
      rw [hsucc, if_neg (by simp [eb]), List.append_nil]; exact hJi
  · have : i = 128 := by
      have : ¬ (i : Int) < 128 := g
      omega
    subst this
    exact .inl ⟨_, rfl, hJi⟩
theorem need_spec {h : Hp} {K : Value → Hp → Prop} (n : Nat) (h1 : 1 ≤ n) (h2 : n ≤ 128) (hK : K (.int .i64 ((8 * n + 1 : Nat) : Int)) h) : CallsH Tryz.prog journal_Need.id #[.int .i64 (n : Nat)] h K := by
  apply journal_Need.calls
  unfold journal_Need.W
  refine split_dec (fun e => by have e : (n : Int) < 1 := e; omega) fun _ => split_dec (fun e => by have e : (n : Int) > 128 := e; omega) fun _ => ?_
  have e : IntKind.i64.wrap (IntKind.i64.wrap (8 * (n : Int)) + 1) = ((8 * n + 1 : Nat) : Int) := by
    rw [wid (x := 8 * (n : Int)) (by omega) (by omega), wid (by omega) (by omega)]; omega
  rw [e]; exact hK
theorem bits_zero : bitsOf (zeroB 256) = [] := by decide +kernel
theorem jopen_spec {h : Hp} {db : Nat} {S : Nat → Prop} {D : Dk} {K : Value → Hp → Prop} (H : DkAt h db S D) (hd : D.down = false) (n : Nat) (h1 : 1 ≤ n) (h2 : n ≤ 128) (hl : 8 * n + 1 ≤ D.l.length) (hm : D.read 0 = zeroB 256)
    (hK : ∀ h' jb S', JAt h' jb db S' n D → Sub h h' → (∀ c, S' c → S c ∨ h c = none) → K (.tuple #[.pointer (some ⟨jb, 0, none⟩), .int .i64 0]) h') : CallsH Tryz.prog journal_Open.id #[.pointer (some ⟨db, 0, none⟩), .int .i64 (n : Nat)] h K := by
  have hll := H.len
  apply journal_Open.calls
  unfold journal_Open.W
  intro k1 hk1 k2 hk2 k3 hk3
  have d21 : k2 ≠ k1 := fun e => by rw [e, Hp.upd_same] at hk2; cases hk2
  have B1 : Blk (((h.upd k1 (.cells #[.int .i64 (n : Nat)] 3 (0, 0))).upd k2 (.cells #[.pointer none] 63 (0, 0))).upd k3 (.cells #[.int .i64 0] 29 (0, 0))) k1 3 [.int .i64 (n : Nat)] := ((Blk.new h k1 3 _).upd hk2 _).upd hk3 _
  have B2 : Blk (((h.upd k1 (.cells #[.int .i64 (n : Nat)] 3 (0, 0))).upd k2 (.cells #[.pointer none] 63 (0, 0))).upd k3 (.cells #[.int .i64 0] 29 (0, 0))) k2 63 [.pointer none] := (Blk.new _ k2 63 _).upd hk3 _
  have B3 : Blk (((h.upd k1 (.cells #[.int .i64 (n : Nat)] 3 (0, 0))).upd k2 (.cells #[.pointer none] 63 (0, 0))).upd k3 (.cells #[.int .i64 0] 29 (0, 0))) k3 29 [.int .i64 0] := Blk.new _ k3 29 _
  have s3 : Sub h (((h.upd k1 (.cells #[.int .i64 (n : Nat)] 3 (0, 0))).upd k2 (.cells #[.pointer none] 63 (0, 0))).upd k3 (.cells #[.int .i64 0] 29 (0, 0))) := ((Sub.upd hk1 _).trans (Sub.upd hk2 _)).trans (Sub.upd hk3 _)
  have n2 : h k2 = none := (Sub.upd hk1 _).none hk2
  have n3 : h k3 = none := ((Sub.upd hk1 _).trans (Sub.upd hk2 _)).none hk3
  have d32 : k3 ≠ k2 := fun e => by rw [e, Hp.upd_same] at hk3; cases hk3
  generalize ((h.upd k1 (.cells #[.int .i64 (n : Nat)] 3 (0, 0))).upd k2 (.cells #[.pointer none] 63 (0, 0))).upd k3 (.cells #[.int .i64 0] 29 (0, 0)) = h3 at B1 B2 B3 s3
  have H3 := H.sub s3
  refine ⟨_, B1.cell' 0 rfl, need_spec n h1 h2 ⟨_, rfl, Sub.refl _, split_eq (fun e => by have e : ((8 * n + 1 : Nat) : Int) = 0 := e; omega) fun _ => ⟨_, B1.cell' 0 rfl, size_spec H3 ⟨_, rfl, Sub.refl _, need_spec n h1 h2 ⟨_, rfl, split_dec (fun e => by have e : (D.l.length : Int) < ((8 * n + 1 : Nat) : Int) := e; omega) fun _ => ?_⟩⟩⟩⟩⟩
  refine read_spec (i := 0) H3 (by omega) hd ⟨_, _, rfl, split_ne (fun e => absurd rfl e) fun _ => ?_⟩
  rw [hm]
  refine ⟨_, B1.cell' 0 rfl, fun k26 hk26 k27 hk27 => ?_⟩
  have hk27' : (h3.upd k26 (.cells #[.pointer (some ⟨db, 0, none⟩), .int .i64 (n : Nat)] 131 (0, 0))) k27 = none := hk27
  have d27 : k27 ≠ k26 := fun e => by rw [e, Hp.upd_same] at hk27'; cases hk27'
  have n27 : h3 k27 = none := by rw [Hp.upd_ne _ _ d27] at hk27'; exact hk27'
  have C26 : Blk (h3.upd k26 (.cells #[.pointer (some ⟨db, 0, none⟩), .int .i64 (n : Nat)] 131 (0, 0))) k26 131 [.pointer (some ⟨db, 0, none⟩), .int .i64 (n : Nat)] := Blk.new h3 k26 131 _
  have C27 := (Blk.new (h3.upd k26 (.cells #[.pointer (some ⟨db, 0, none⟩), .int .i64 (n : Nat)] 131 (0, 0))) k27 63 [.pointer none])
  have lift1 : ∀ {b t vs}, Blk (h3.upd k26 (.cells #[.pointer (some ⟨db, 0, none⟩), .int .i64 (n : Nat)] 131 (0, 0))) b t vs → Blk (((h3.upd k26 (.cells #[.pointer (some ⟨db, 0, none⟩), .int .i64 (n : Nat)] 131 (0, 0))).upd k27 (.cells #[.pointer none] 63 (0, 0))).put k27 0 [.pointer (some ⟨k26, 0, none⟩)]) b t vs :=
    fun H => (H.upd hk27' _).put_ne 0 _ (H.ne hk27')
  refine ⟨C27.store (Nat.le_refl 1), fun k28 hk28 => ⟨(Blk.new _ k28 4 [.bool false]).store (Nat.le_refl 1), journal_told.calls _ fun k hk => ⟨_, rfl, [.pointer (some ⟨k, 0, none⟩)], rfl, ?_⟩⟩⟩
  have hk28' : (((h3.upd k26 (.cells #[.pointer (some ⟨db, 0, none⟩), .int .i64 (n : Nat)] 131 (0, 0))).upd k27 (.cells #[.pointer none] 63 (0, 0))).put k27 0 [.pointer (some ⟨k26, 0, none⟩)]) k28 = none := hk28
  have hk' : ((((((h3.upd k26 (.cells #[.pointer (some ⟨db, 0, none⟩), .int .i64 (n : Nat)] 131 (0, 0))).upd k27 (.cells #[.pointer none] 63 (0, 0))).put k27 0 [.pointer (some ⟨k26, 0, none⟩)])).upd k28 (.cells #[.bool false] 4 (0, 0))).put k28 0 [.bool false]) k = none := hk
  have C27p := C27.put 0 [.pointer (some ⟨k26, 0, none⟩)]
  have C28 := (Blk.new (((h3.upd k26 (.cells #[.pointer (some ⟨db, 0, none⟩), .int .i64 (n : Nat)] 131 (0, 0))).upd k27 (.cells #[.pointer none] 63 (0, 0))).put k27 0 [.pointer (some ⟨k26, 0, none⟩)]) k28 4 [.bool false]).put 0 [.bool false]
  have lift2 : ∀ {b t vs}, Blk (((h3.upd k26 (.cells #[.pointer (some ⟨db, 0, none⟩), .int .i64 (n : Nat)] 131 (0, 0))).upd k27 (.cells #[.pointer none] 63 (0, 0))).put k27 0 [.pointer (some ⟨k26, 0, none⟩)]) b t vs →
      Blk ((((((h3.upd k26 (.cells #[.pointer (some ⟨db, 0, none⟩), .int .i64 (n : Nat)] 131 (0, 0))).upd k27 (.cells #[.pointer none] 63 (0, 0))).put k27 0 [.pointer (some ⟨k26, 0, none⟩)])).upd k28 (.cells #[.bool false] 4 (0, 0))).put k28 0 [.bool false]) b t vs := fun H => (H.upd hk28' _).put_ne 0 _ (H.ne hk28')
  have E27 := lift2 C27p
  have E26 := lift2 (lift1 C26)
  have E2 := lift2 (lift1 (B2.upd hk26 _))
  have E3 := lift2 (lift1 (B3.upd hk26 _))
  have sA : ∀ c o, h c = some o → c ≠ k26 ∧ c ≠ k27 ∧ c ≠ k28 ∧ c ≠ k2 ∧ c ≠ k3 := fun c o hc => by
    have hc3 := s3 c o hc
    refine ⟨fun e => ?_, fun e => ?_, fun e => ?_, fun e => ?_, fun e => ?_⟩
    · rw [e, hk26] at hc3; cases hc3
    · rw [e, n27] at hc3; cases hc3
    · have h27 : k28 ≠ k27 := fun e2 => by rw [e2] at hk28'; unfold Blk at C27p; rw [C27p] at hk28'; cases hk28'
      have h26 : k28 ≠ k26 := fun e2 => by rw [e2] at hk28'; have := lift1 C26; unfold Blk at this; rw [this] at hk28'; cases hk28'
      rw [Gx.put_ne _ _ _ h27, Hp.upd_ne _ _ h27, Hp.upd_ne _ _ h26, ← e, hc3] at hk28'
      cases hk28'
    · rw [e, n2] at hc; cases hc
    · rw [e, n3] at hc; cases hc
  have sX : Sub h ((((((h3.upd k26 (.cells #[.pointer (some ⟨db, 0, none⟩), .int .i64 (n : Nat)] 131 (0, 0))).upd k27 (.cells #[.pointer none] 63 (0, 0))).put k27 0 [.pointer (some ⟨k26, 0, none⟩)])).upd k28 (.cells #[.bool false] 4 (0, 0))).put k28 0 [.bool false]) := fun c o hc => by
    obtain ⟨a1, a2, a3, _⟩ := sA c o hc
    rw [Gx.put_ne _ _ _ a3, Hp.upd_ne _ _ a3, Gx.put_ne _ _ _ a2, Hp.upd_ne _ _ a2, Hp.upd_ne _ _ a1]
    exact s3 c o hc
  have n26 : h k26 = none := s3.none hk26
  refine ⟨_, _, _, fun k x => k = 0 ∧ x = _, fun _ _ => False, told_iter (zeroB 256) (by rw [zeroB_size]; omega) k, ?_, ?_, ⟨rfl, rfl⟩, ?_, ?_, ?_, ?_, ?_, trivial⟩
  · intro h0 b o hb hp
    exact cell_sub (Sub.upd hb o) hp
  · rintro _ x ⟨_, rfl⟩
    exact (Blk.new _ k 9 [.string (zeroB 256)]).cell' 0 rfl
  · rintro _ vs ⟨i, hi, rfl⟩
    exact ⟨_, rfl⟩
  · rintro _ _ ⟨i, hi, _⟩
    rw [bits_zero] at hi; cases hi
  · rintro _ x ⟨rfl, rfl⟩ _ D' hD
    have U := fun {b t vs} (H : Blk ((((((h3.upd k26 (.cells #[.pointer (some ⟨db, 0, none⟩), .int .i64 (n : Nat)] 131 (0, 0))).upd k27 (.cells #[.pointer none] 63 (0, 0))).put k27 0 [.pointer (some ⟨k26, 0, none⟩)])).upd k28 (.cells #[.bool false] 4 (0, 0))).put k28 0 [.bool false]) b t vs) => (H.upd hk' (.cells #[.string (zeroB 256)] 9 (0, 0))).upd hD (.deferred (some []))
    have dD : ∀ {b t vs}, Blk ((((((h3.upd k26 (.cells #[.pointer (some ⟨db, 0, none⟩), .int .i64 (n : Nat)] 131 (0, 0))).upd k27 (.cells #[.pointer none] 63 (0, 0))).put k27 0 [.pointer (some ⟨k26, 0, none⟩)])).upd k28 (.cells #[.bool false] 4 (0, 0))).put k28 0 [.bool false]) b t vs → b ≠ D' := fun H => (H.upd hk' _).ne hD
    have d2 := dD E2
    have d3 := dD E3
    have F2 := (U E2).put 0 [.pointer (some ⟨k26, 0, none⟩)]
    have F3 := (U E3).put_ne 0 [.pointer (some ⟨k26, 0, none⟩)] d32
    have G2 := F2.put_ne 0 [.int .i64 0] (Ne.symm d32)
    have G3 := F3.put 0 [.int .i64 0]
    have del : ∀ {y : Hp} {b : Nat} {t : TypeId} {vs : List Value}, Blk y b t vs → b ≠ D' → Blk (y.del D') b t vs := fun H e => by
      unfold Blk Hp.del
      rw [if_neg e]; exact H
    have d26 : k26 ≠ k2 ∧ k26 ≠ k3 := ⟨(B2.ne hk26).symm, (B3.ne hk26).symm⟩
    have hD' := hD
    refine ⟨false, (U C28).cell' 0 rfl, _, (U E27).cell' 0 rfl, (U E2).store (Nat.le_refl 1), F3.store (Nat.le_refl 1), ?_, _, (del G2 d2).cell' 0 rfl, _, (del G3 d3).cell' 0 rfl, ?_⟩
    · rw [Gx.put_ne _ _ _ (Ne.symm d3), Gx.put_ne _ _ _ (Ne.symm d2), Hp.upd_same]
    · have sY : Gx.Sub h ((((((((((h3.upd k26 (.cells #[.pointer (some ⟨db, 0, none⟩), .int .i64 (n : Nat)] 131 (0, 0))).upd k27 (.cells #[.pointer none] 63 (0, 0))).put k27 0 [.pointer (some ⟨k26, 0, none⟩)]).upd k28 (.cells #[.bool false] 4 (0, 0))).put k28 0 [.bool false]).upd k (.cells #[.string (zeroB 256)] 9 (0, 0))).upd D' (.deferred (some []))).put k2 0 [.pointer (some ⟨k26, 0, none⟩)]).put k3 0 [.int .i64 0]).del D') := fun c o hc => by
        obtain ⟨_, _, _, a4, a5⟩ := sA c o hc
        have hx := sX c o hc
        have ck : c ≠ k := fun e => by rw [e, hk'] at hx; cases hx
        have hx2 := Sub.upd hk' (.cells #[.string (zeroB 256)] 9 (0, 0)) c o hx
        have cD : c ≠ D' := fun e => by rw [e] at hx2; rw [hx2] at hD; cases hD
        unfold Hp.del
        rw [if_neg cD, Gx.put_ne _ _ _ a5, Gx.put_ne _ _ _ a4, Hp.upd_ne _ _ cD]
        exact hx2
      refine hK _ k26 (fun c => c = k26 ∨ S c) ⟨⟨S, del (((U E26).put_ne 0 _ d26.1).put_ne 0 _ d26.2) (dD E26), H.sub sY, fun hc => H.in_heap hc n26, fun c => Iff.rfl⟩, h1, h2, hl⟩ sY ?_
      rintro c (rfl | hc)
      · exact .inr n26
      · exact .inl hc
  · rintro x hf; exact hf.elim
  · rintro x hf; exact hf.elim
end Go.Proofs.YthbogjbcecmopaaGreatDoor
namespace Go.Proofs.YthbogjbcecmopaaGreatDoor
open Go.Gx
set_option maxRecDepth 100000
set_option linter.unusedVariables false

abbrev Ch := Nat × ByteArray
theorem appTCh : AppT Tryz.prog 122 2 24 := AppT.of (by kernel_rfl)
theorem upd_del {h : Hp} {D : Nat} (o : Obj) (hD : h D = none) : (h.upd D o).del D = h := by
  funext c
  unfold Hp.del
  by_cases e : c = D
  · rw [if_pos e, e, hD]
  · rw [if_neg e, Hp.upd_ne _ _ e]
theorem values_iter (la : Option Addr) (lc : Nat) (cs : List Ch) (hl : cs.length < 1000000) (pb : Nat) : IterH Tryz.prog 130 [.pointer (some ⟨pb, 0, none⟩)] (fun k vs => ∃ c, cs[k]? = some c ∧ vs = [.agg (wrC c).toArray]) (fun k => k = cs.length)
    (fun h => h.cell pb 0 = some (.slice la cs.length lc) ∧ RowAt wrC 2 h la cs) := by
  intro l J Jx hJP hY h hJ
  refine slices_Values_journal_Change_journal_Change_1_0y.calls l pb 0 ?_
  unfold slices_Values_journal_Change_journal_Change_1_0y.W
  refine ⟨_, _, _, (hJP _ _ hJ).1, fun n x m => ∃ i : Nat, n = (i : Int) ∧ i ≤ cs.length ∧ m = cs.length - i ∧ J i x, ⟨_, 0, rfl, Nat.zero_le _, rfl, hJ⟩, ?_⟩
  rintro n x m ⟨i, rfl, hi, rfl, hJi⟩
  refine split_dec (fun g => ?_) fun g => ?_
  · have g : i < cs.length := by have : (i : Int) < (cs.length : Int) := g; omega
    have hq : cs[i]? = some cs[i] := List.getElem?_eq_getElem g
    generalize cs[i] = c at hq
    obtain ⟨b, o, ea, hc⟩ := (hJP _ _ hJi).2.get wrC_len (by decide) hq
    have e4 : IntKind.i64.wrap ((i : Int) + 1) = ((i + 1 : Nat) : Int) := by rw [wid (by omega) (by omega)]; omega
    refine ⟨by omega, by show (i : Int) < (cs.length : Int); omega, b, o, ea, _, hc 0 _ rfl, _, hc 1 _ rfl, ?_⟩
    refine YieldH.mono (hY i _ x hJi ⟨c, hq, rfl⟩) fun v h' hq => ?_
    rcases hq with ⟨rfl, hj⟩ | ⟨rfl, hj⟩
    · exact ⟨true, rfl, cs.length - (i + 1), by omega, i + 1, e4, by omega, rfl, hj⟩
    · exact ⟨false, rfl, .inr hj⟩
  · have : i = cs.length := by
      have : ¬ (i : Int) < (cs.length : Int) := g
      omega
    exact .inl ⟨i, this, hJi⟩
variable {h : Hp} {K : Value → Hp → Prop}
theorem collect_spec (la : Option Addr) (lc : Nat) (cs : List Ch) (hl : cs.length < 1000000) (pb : Nat) (hp : h.cell pb 0 = some (.slice la cs.length lc)) (R : RowAt wrC 2 h la cs)
    (hK : ∀ y a c, NewR wrC 2 122 h y a c cs → K (.slice a cs.length c) y) : CallsH Tryz.prog 128 #[.func (.func 130) #[] #[.pointer (some ⟨pb, 0, none⟩)]] h K := by
  refine slices_Collect_journal_Change__0f130.calls pb 0 ?_
  unfold slices_Collect_journal_Change__0f130.W
  refine slices_AppendSeq_journal_Change_journal_Change__1f130.calls none 0 0 pb 0 ?_
  unfold slices_AppendSeq_journal_Change_journal_Change__1f130.W
  intro k1 hk1
  refine ⟨_, _, _, fun k x => k ≤ cs.length ∧ Sub h x ∧ ∃ a c, Blk x k1 123 [.slice a k c] ∧ OwnR wrC 2 x 122 a c (cs.take k) ∧ ∀ b, blkOf a b → b ≠ k1 ∧ h b = none, fun _ _ => False, values_iter la lc cs hl pb, ?_, ?_, ?_, ?_, ?_, ?_, ?_, trivial⟩
  · rintro h0 b o hb ⟨p1, p2⟩
    exact ⟨cell_sub (Sub.upd hb o) p1, p2.sub (Sub.upd hb o)⟩
  · rintro k x ⟨_, s, _⟩
    exact ⟨cell_sub s hp, R.sub s⟩
  · exact ⟨Nat.zero_le _, Sub.upd hk1 _, none, 0, Blk.new h k1 123 _, OwnR.nil _ _, fun b ⟨o, s, e⟩ => by cases e⟩
  · rintro _ vs ⟨c, hc, rfl⟩
    exact ⟨_, _, rfl⟩
  · rintro k n s ⟨c, hc, e⟩ x ⟨hk, sx, a, cc, Bx, ox, nx⟩ k20 hk20
    have e : n = (c.1 : Int) ∧ s = c.2 := by
      have := (List.cons.inj e).1
      injection this with this
      have := congrArg Array.toList this
      injection this with e1 e2
      injection e1 with _ e1
      injection e2 with e2 _
      injection e2 with e2
      exact ⟨e1, e2⟩
    obtain ⟨rfl, rfl⟩ := e
    have hlt := (List.getElem?_eq_some_iff.1 hc).1
    have C20 := (Blk.new x k20 122 [.int .i64 0, .string (bytesL [])])
    have P20 := C20.put 0 [.int .i64 (c.1 : Nat), .string c.2]
    have d20 : k1 ≠ k20 := Bx.ne hk20
    have By := (Bx.upd hk20 (.cells #[.int .i64 0, .string (bytesL [])] 122 (0, 0))).put_ne 0 [.int .i64 (c.1 : Nat), .string c.2] d20
    have ky : Sub x ((x.upd k20 (.cells #[.int .i64 0, .string (bytesL [])] 122 (0, 0))).put k20 0 [.int .i64 (c.1 : Nat), .string c.2]) := fun b o hb => by
      have hne : b ≠ k20 := fun e => by rw [e, hk20] at hb; cases hb
      rw [Gx.put_ne _ _ _ hne, Hp.upd_ne _ _ hne]; exact hb
    refine ⟨C20.store (Nat.le_refl 2), _, _, _, By.cell' 0 rfl, _, P20.cell' 0 rfl, _, P20.cell' 1 rfl, fun k26 hk26 => ⟨_, (Blk.new _ k26 122 (wrC c)).slice rfl, fun a' c' y => OwnR wrC 2 y 122 a' c' (cs.take (k + 1)) ∧ Keep (blkOf a) x y ∧ ∀ b, blkOf a' b → blkOf a b ∨ x b = none, ?_, ?_⟩⟩
    · rintro a' c' y ⟨o1, o2, o3⟩
      have By := Bx.keep o2 fun hc => (nx _ hc).1 rfl
      have sy : Sub h y := o2.sub sx fun b hb => (nx b hb).2
      have hk1' : ∀ b, blkOf a' b → b ≠ k1 ∧ h b = none := fun b hb => by
        rcases o3 b hb with h' | h'
        · exact nx b h'
        · exact ⟨(fun e => by rw [e] at h'; unfold Blk at Bx; rw [Bx] at h'; cases h'), sx.none h'⟩
      have kp : Keep (fun c => c = k1) y (y.put k1 0 [.slice a' (k + 1) c']) := Keep.put _ y _ _ rfl
      exact ⟨By.store (Nat.le_refl 1), by omega, kp.sub sy (fun c e => by rw [e]; exact hk1), a', c', By.put 0 _, o1.keep kp fun c hc e => (hk1' c hc).1 e, hk1'⟩
    · have s26 := ky.trans (Sub.upd hk26 (.cells (wrC c).toArray 122 (0, 0)))
      refine append_ownR appTCh wrC_len wrC_plain (M := [c]) (ox.sub s26) (by rw [List.length_take]; omega) rfl (rowC_one _).symm (by simp; omega) fun a' c' y o k' nw => ⟨?_, fun b o' hb hn => k' b o' (s26 b o' hb) hn, fun b hb => ?_⟩
      · rw [List.take_add_one, hc]; exact o
      · rcases nw b hb with h | h
        · exact .inl h
        · exact .inr (s26.none h)
  · rintro _ x ⟨_, sx, a, cc, Bx, ox, nx⟩ rfl D' hD
    have hne := Bx.ne hD
    refine ⟨_, _, _, (Bx.upd hD _).cell' 0 rfl, Hp.upd_same _ _ _, ?_⟩
    rw [upd_del _ hD]
    rw [List.take_length] at ox
    exact ⟨_, _, _, rfl, hK x a cc ⟨sx, fun b hb => (nx b hb).2, ox⟩⟩
  · rintro x hf; exact hf.elim
end Go.Proofs.YthbogjbcecmopaaGreatDoor
namespace Go.Proofs.YthbogjbcecmopaaGreatDoor
open Go.Gx
set_option maxRecDepth 100000
set_option linter.unusedVariables false

theorem zero112 : zeroL Tryz.prog 81 = List.replicate 128 (.bool false) := by kernel_rfl
def seenC (l : List Ch) : List Value := (List.range 128).map fun i => .bool (l.any fun c => c.1 == i)
theorem seenC_len (l : List Ch) : (seenC l).length = 128 := by unfold seenC; simp
theorem seenC_get {l : List Ch} {i : Nat} (hi : i < 128) : (seenC l)[i]? = some (.bool (l.any fun c => c.1 == i)) := by
  unfold seenC
  rw [List.getElem?_map, List.getElem?_range hi]; rfl
theorem seenC_nil : seenC [] = List.replicate 128 (.bool false) := by kernel_rfl
theorem seenC_snoc (l : List Ch) (c : Ch) (hc : c.1 < 128) : setL (seenC l) c.1 [.bool true] = seenC (l ++ [c]) := by
  refine List.ext_getElem? fun i => ?_
  rw [setL_get]
  by_cases hi : i < 128
  · have hr := seenC_get (l := l ++ [c]) hi
    rw [hr, List.any_append]
    by_cases e : i = c.1
    · rw [if_pos ⟨e, by rw [seenC_len]; exact hc⟩, e]; simp
    · rw [if_neg (fun h => e h.1), seenC_get hi]
      have : (c.1 == i) = false := by simpa using Ne.symm e
      simp [this]
  · rw [if_neg (fun h => by omega), List.getElem?_eq_none (by rw [seenC_len]; omega), List.getElem?_eq_none (by rw [seenC_len]; omega)]
variable {h : Hp} {jb db n : Nat} {S : Nat → Prop} {D : Dk} {K : Value → Hp → Prop}
theorem check_ok (J : JAt h jb db S n D) {la : Option Addr} {lc : Nat} {cs : List Ch} (R : RowAt wrC 2 h la cs) (hl : cs.length < 1000000) (hc : ∀ c ∈ cs, c.1 < n ∧ c.2.size = 1024) (hd : (cs.map (·.1)).Nodup)
    (hK : ∀ y, Sub h y → K (.int .i64 0) y) : CallsH Tryz.prog journal_Journal_check.id #[.pointer (some ⟨jb, 0, none⟩), .slice la cs.length lc] h K := by
  have hn2 := J.n2
  obtain ⟨S0, j1, _⟩ := J.ex
  apply journal_Journal_check.calls
  unfold journal_Journal_check.W
  intro k1 hk1
  rw [zero112]
  have B0 : Blk (h.upd k1 (.cells (List.replicate 128 (.bool false)).toArray 81 (0, 0))) k1 81 (seenC []) := by rw [seenC_nil]; exact Blk.new h k1 81 _
  have hlen : (List.replicate 128 (Value.bool false)).length = 128 := List.length_replicate
  refine ⟨hlen, (fun v hv => by rw [(List.mem_replicate.1 hv).2]; exact ⟨(fun c h => by cases h), (fun c h => by cases h)⟩), B0.store (by rw [hlen, seenC_len]; exact Nat.le_refl _), ?_⟩
  have e0 : (h.upd k1 (.cells (List.replicate 128 (.bool false)).toArray 81 (0, 0))).put k1 0 (List.replicate 128 (.bool false)) = h.upd k1 (.cells (List.replicate 128 (.bool false)).toArray 81 (0, 0)) := by
    have B0' : Blk (h.upd k1 (.cells (List.replicate 128 (.bool false)).toArray 81 (0, 0))) k1 81 (List.replicate 128 (.bool false)) := Blk.new h k1 81 _
    rw [put_get B0']
    have e1 : setL (List.replicate 128 (Value.bool false)) 0 (List.replicate 128 (.bool false)) = List.replicate 128 (.bool false) := by kernel_rfl
    rw [e1]
    funext c
    by_cases e : c = k1
    · rw [e, Hp.upd_same, Hp.upd_same]
    · rw [Hp.upd_ne _ _ e]
  rw [e0]
  have s0 : Sub h (h.upd k1 (.cells (List.replicate 128 (.bool false)).toArray 81 (0, 0))) := Sub.upd hk1 _
  generalize h.upd k1 (.cells (List.replicate 128 (.bool false)).toArray 81 (0, 0)) = h1 at B0 s0
  have get : ∀ {x : Hp} {j : Nat}, Sub h x → j < cs.length → ∃ c b o, cs[j]? = some c ∧ c ∈ cs ∧ la = some ⟨b, o, none⟩ ∧ x.cell b (o + j * 2) = some (.int .i64 (c.1 : Nat)) ∧ x.cell b (o + j * 2 + 1) = some (.string c.2) := by
    intro x j sx hj
    have hq : cs[j]? = some cs[j] := List.getElem?_eq_getElem hj
    obtain ⟨b, o, ea, hcell⟩ := (R.sub sx).get wrC_len (by decide) hq
    exact ⟨_, b, o, hq, List.getElem_mem hj, ea, hcell 0 _ rfl, hcell 1 _ rfl⟩
  refine ⟨fun i x m => ∃ j : Nat, i = (j : Int) ∧ j ≤ cs.length ∧ m = cs.length - j ∧ x = h1, ⟨_, 0, rfl, Nat.zero_le _, rfl, rfl⟩, ?_⟩
  rintro i x m ⟨j, rfl, hj, rfl, rfl⟩
  have e4 : ∀ j : Nat, j < cs.length → IntKind.i64.wrap ((j : Int) + 1) = ((j + 1 : Nat) : Int) := fun j hj => by rw [wid (by omega) (by omega)]; omega
  refine split_dec (fun g => ?_) fun _ => ?_
  · have g : j < cs.length := by have : (j : Int) < (cs.length : Int) := g; omega
    obtain ⟨c, b, o, hq, hm, ea, c0, c1⟩ := get s0 g
    have hcn := (hc c hm).1
    exact ⟨by omega, by show (j : Int) < (cs.length : Int); omega, b, o, ea, _, c0, _, c1, split_dec (fun e => by have e : (c.1 : Int) < 0 := e; omega) fun _ => ⟨_, (j1.sub s0).cell' 1 rfl, split_dec (fun e => by have e : (c.1 : Int) ≥ (n : Int) := e; omega) fun _ => ⟨cs.length - (j + 1), by omega, j + 1, e4 j g, by omega, rfl, rfl⟩⟩⟩
  refine ⟨fun i x m => ∃ j : Nat, i = (j : Int) ∧ j ≤ cs.length ∧ m = cs.length - j ∧ Sub h x ∧ Blk x k1 81 (seenC (cs.take j)), ⟨_, 0, rfl, Nat.zero_le _, rfl, s0, B0⟩, ?_⟩
  rintro i x m ⟨j, rfl, hj, rfl, sx, Bx⟩
  refine split_dec (fun g => ?_) fun _ => ?_
  · have g : j < cs.length := by have : (j : Int) < (cs.length : Int) := g; omega
    obtain ⟨c, b, o, hq, hm, ea, c0, c1⟩ := get sx g
    have hcn := (hc c hm).1
    have hnot : ((cs.take j).any fun d => d.1 == c.1) = false := by
      rw [List.any_eq_false]
      intro d hd' e
      have e : d.1 = c.1 := by simpa using e
      obtain ⟨i, hi⟩ := List.mem_iff_getElem?.1 hd'
      have hij : i < j := by
        have := (List.getElem?_eq_some_iff.1 hi).1
        rw [List.length_take] at this; omega
      rw [List.getElem?_take_of_lt hij] at hi
      have h1 : (cs.map (·.1))[i]? = some d.1 := by rw [List.getElem?_map, hi]; rfl
      have h2 : (cs.map (·.1))[j]? = some d.1 := by rw [List.getElem?_map, hq, e]; rfl
      have := (List.getElem?_inj (by rw [List.length_map]; omega) hd).1 (h1.trans h2.symm)
      omega
    have eidx : 0 + (c.1 : Int).toNat * 1 = c.1 := by rw [Int.toNat_natCast]; omega
    refine ⟨by omega, by show (j : Int) < (cs.length : Int); omega, b, o, ea, _, c0, _, c1, by omega, by omega, false, ?_, by omega, by omega, ?_, cs.length - (j + 1), by omega, j + 1, e4 j g, by omega, rfl, ?_, ?_⟩
    · rw [eidx, Bx.cell, seenC_get (by omega), hnot]
    · rw [eidx]; exact Bx.store (by rw [seenC_len]; omega)
    · exact (Keep.put (fun c => c = k1) x _ _ rfl).sub sx fun c e => by rw [e]; exact hk1
    · rw [eidx]
      have := Bx.put c.1 [.bool true]
      rw [seenC_snoc _ _ (by omega)] at this
      rw [List.take_add_one, hq]; exact this
  refine ⟨fun i y m => ∃ j : Nat, i = (j : Int) ∧ j ≤ cs.length ∧ m = cs.length - j ∧ y = x, ⟨_, 0, rfl, Nat.zero_le _, rfl, rfl⟩, ?_⟩
  rintro i y m ⟨j, rfl, hj, rfl, rfl⟩
  refine split_dec (fun g => ?_) fun _ => hK y sx
  have g : j < cs.length := by have : (j : Int) < (cs.length : Int) := g; omega
  obtain ⟨c, b, o, hq, hm, ea, c0, c1⟩ := get sx g
  have hcn := (hc c hm).2
  exact ⟨by omega, by show (j : Int) < (cs.length : Int); omega, b, o, ea, _, c0, _, c1, split_ne (fun e => absurd (by show (c.2.size : Int) = 1024; omega) e) fun _ => ⟨cs.length - (j + 1), by omega, j + 1, e4 j g, by omega, rfl, rfl⟩⟩
end Go.Proofs.YthbogjbcecmopaaGreatDoor
namespace Go.Proofs
open Go.Shelf
def Tryz.sort88_ren : Go.Shelf.Ren := ⟨fun | 6 => 129 | 15 => 143 | 14 => 145 | 28 => 159 | 29 => 160 | 20 => 161 | 21 => 162 | 22 => 163 | 23 => 164 | 24 => 165 | 25 => 166 | 26 => 167 | 27 => 168 | 46 => 178 | 47 => 173 | 48 => 174 | 49 => 179 | 50 => 180 | 57 => 186 | n => n, fun | 22 => 123 | 24 => 122 | 25 => 165 | 3 => 3 | 39 => 143 | 0 => 0 | 53 => 172 | 55 => 79 | 4 => 4 | 46 => 204 | 45 => 203 | 50 => 101 | 5 => 5 | 9 => 9 | 66 => 218 | 70 => 222 | 76 => 233 | 77 => 234 | n => n, fun | n => n⟩
theorem Tryz.sort88 : Go.Proofs.SlLaysF0.n6 Tryz.prog Tryz.sort88_ren := {
  mixed := by kernel_rfl
  f6 := ⟨Tryz.f129.name, by decide, Tryz.func129.trans (congrArg some (by kernel_rfl))⟩
  f14 := ⟨Tryz.f145.name, by decide, Tryz.func145.trans (congrArg some (by kernel_rfl))⟩
  f15 := Tryz.func143.trans (congrArg some (by kernel_rfl))
  f20 := ⟨Tryz.f161.name, by decide, Tryz.func161.trans (congrArg some (by kernel_rfl))⟩
  f21 := ⟨Tryz.f162.name, by decide, Tryz.func162.trans (congrArg some (by kernel_rfl))⟩
  f22 := ⟨Tryz.f163.name, by decide, Tryz.func163.trans (congrArg some (by kernel_rfl))⟩
  f23 := ⟨Tryz.f164.name, by decide, Tryz.func164.trans (congrArg some (by kernel_rfl))⟩
  f24 := ⟨Tryz.f165.name, by decide, Tryz.func165.trans (congrArg some (by kernel_rfl))⟩
  f25 := ⟨Tryz.f166.name, by decide, Tryz.func166.trans (congrArg some (by kernel_rfl))⟩
  f26 := ⟨Tryz.f167.name, by decide, Tryz.func167.trans (congrArg some (by kernel_rfl))⟩
  f27 := ⟨Tryz.f168.name, by decide, Tryz.func168.trans (congrArg some (by kernel_rfl))⟩
  f28 := Tryz.func159.trans (congrArg some (by kernel_rfl))
  f29 := Tryz.func160.trans (congrArg some (by kernel_rfl))
  f46 := ⟨Tryz.f178.name, by decide, Tryz.func178.trans (congrArg some (by kernel_rfl))⟩
  f47 := Tryz.func173.trans (congrArg some (by kernel_rfl))
  f48 := Tryz.func174.trans (congrArg some (by kernel_rfl))
  f49 := ⟨Tryz.f179.name, by decide, Tryz.func179.trans (congrArg some (by kernel_rfl))⟩
  f50 := ⟨Tryz.f180.name, by decide, Tryz.func180.trans (congrArg some (by kernel_rfl))⟩
  f57 := ⟨Tryz.f186.name, by decide, Tryz.func186.trans (congrArg some (by kernel_rfl))⟩
  t0 := Tryz.underlying0
  a0 := Tryz.isAgg0
  z0 := Tryz.sizeOf0
  v0 := Tryz.zeroValue0
  t3 := Tryz.underlying3
  a3 := Tryz.isAgg3
  z3 := Tryz.sizeOf3
  v3 := Tryz.zeroValue3
  t4 := Tryz.underlying4
  a4 := Tryz.isAgg4
  z4 := Tryz.sizeOf4
  v4 := Tryz.zeroValue4
  t5 := Tryz.underlying5
  a5 := Tryz.isAgg5
  z5 := Tryz.sizeOf5
  v5 := Tryz.zeroValue5
  t9 := Tryz.underlying9
  a9 := Tryz.isAgg9
  z9 := Tryz.sizeOf9
  v9 := Tryz.zeroValue9
  t22 := Tryz.underlying123
  a22 := Tryz.isAgg123
  z22 := Tryz.sizeOf123
  v22 := Tryz.zeroValue123
  t25 := Tryz.underlying165
  a25 := Tryz.isAgg165
  z25 := Tryz.sizeOf165
  v25 := Tryz.zeroValue165
  t39 := Tryz.underlying143
  a39 := Tryz.isAgg143
  z39 := Tryz.sizeOf143
  v39 := Tryz.zeroValue143
  t45 := Tryz.underlying203
  a45 := Tryz.isAgg203
  z45 := Tryz.sizeOf203
  v45 := Tryz.zeroValue203
  t46 := Tryz.underlying204
  a46 := Tryz.isAgg204
  z46 := Tryz.sizeOf204
  v46 := Tryz.zeroValue204
  t50 := Tryz.underlying101
  a50 := Tryz.isAgg101
  z50 := Tryz.sizeOf101
  v50 := Tryz.zeroValue101
  t53 := Tryz.underlying172
  a53 := Tryz.isAgg172
  z53 := Tryz.sizeOf172
  v53 := Tryz.zeroValue172
  t55 := Tryz.underlying79
  a55 := Tryz.isAgg79
  z55 := Tryz.sizeOf79
  v55 := Tryz.zeroValue79
  t66 := Tryz.underlying218
  a66 := Tryz.isAgg218
  z66 := Tryz.sizeOf218
  v66 := Tryz.zeroValue218
  t70 := Tryz.underlying222
  a70 := Tryz.isAgg222
  z70 := Tryz.sizeOf222
  v70 := Tryz.zeroValue222
  t76 := Tryz.underlying233
  a76 := Tryz.isAgg233
  z76 := Tryz.sizeOf233
  v76 := Tryz.zeroValue233
  t77 := Tryz.underlying234
  a77 := Tryz.isAgg234
  z77 := Tryz.sizeOf234
  v77 := Tryz.zeroValue234 }
def Tryz.clone67_ren : Go.Shelf.Ren := ⟨fun | 5 => 86 | 7 => 116 | n => n, fun | 23 => 84 | 25 => 3 | 3 => 9 | 4 => 4 | 20 => 20 | n => n, fun | n => n⟩
theorem Tryz.clone67 : Go.Proofs.SlLaysW.n5 Tryz.prog Tryz.clone67_ren := {
  mixed := by kernel_rfl
  f5 := ⟨Tryz.f86.name, by decide, Tryz.func86.trans (congrArg some (by kernel_rfl))⟩
  f7 := Tryz.func116.trans (congrArg some (by kernel_rfl))
  t4 := Tryz.underlying4
  a4 := Tryz.isAgg4
  z4 := Tryz.sizeOf4
  v4 := Tryz.zeroValue4
  t20 := Tryz.underlying20
  a20 := Tryz.isAgg20
  z20 := Tryz.sizeOf20
  v20 := Tryz.zeroValue20
  t23 := Tryz.underlying84
  a23 := Tryz.isAgg84
  z23 := Tryz.sizeOf84
  v23 := Tryz.zeroValue84 }
def Tryz.keys69_ren : Go.Shelf.Ren := ⟨fun | 7 => 106 | 10 => 127 | n => n, fun | 23 => 84 | 26 => 3 | 3 => 9 | 28 => 158 | 0 => 0 | 27 => 129 | 33 => 115 | 4 => 4 | n => n, fun | n => n⟩
theorem Tryz.keys69 : Go.Proofs.SlLaysZI.n7 Tryz.prog Tryz.keys69_ren := {
  mixed := by kernel_rfl
  f7 := ⟨Tryz.f106.name, by decide, Tryz.func106.trans (congrArg some (by kernel_rfl))⟩
  f10 := ⟨Tryz.f127.name, by decide, Tryz.func127.trans (congrArg some (by kernel_rfl))⟩
  t0 := Tryz.underlying0
  a0 := Tryz.isAgg0
  z0 := Tryz.sizeOf0
  v0 := Tryz.zeroValue0
  t4 := Tryz.underlying4
  a4 := Tryz.isAgg4
  z4 := Tryz.sizeOf4
  v4 := Tryz.zeroValue4
  t23 := Tryz.underlying84
  a23 := Tryz.isAgg84
  z23 := Tryz.sizeOf84
  v23 := Tryz.zeroValue84
  t26 := Tryz.underlying3
  a26 := Tryz.isAgg3
  z26 := Tryz.sizeOf3
  v26 := Tryz.zeroValue3
  t27 := Tryz.underlying129
  a27 := Tryz.isAgg129
  z27 := Tryz.sizeOf129
  v27 := Tryz.zeroValue129
  t28 := Tryz.underlying158
  a28 := Tryz.isAgg158
  z28 := Tryz.sizeOf158
  v28 := Tryz.zeroValue158
  t33 := Tryz.underlying115
  a33 := Tryz.isAgg115
  z33 := Tryz.sizeOf115
  v33 := Tryz.zeroValue115 }
def Tryz.sorted68_ren : Go.Shelf.Ren := ⟨fun | 6 => 105 | 8 => 125 | 9 => 126 | 11 => 141 | 13 => 143 | 12 => 142 | 23 => 159 | 24 => 160 | 14 => 150 | 15 => 151 | 16 => 152 | 17 => 153 | 18 => 154 | 19 => 155 | 20 => 156 | 21 => 157 | 22 => 158 | 25 => 172 | 26 => 173 | 27 => 174 | 28 => 175 | 29 => 176 | 30 => 177 | 31 => 185 | n => n, fun | 26 => 3 | 28 => 158 | 24 => 107 | 0 => 0 | 3 => 3 | 37 => 143 | 48 => 172 | 50 => 79 | 4 => 4 | 40 => 204 | 39 => 203 | 45 => 101 | 5 => 5 | 9 => 9 | 51 => 218 | 55 => 222 | 57 => 233 | 58 => 234 | 33 => 115 | n => n, fun | n => n⟩
theorem Tryz.sorted68 : Go.Proofs.SlLaysZI.n6 Tryz.prog Tryz.sorted68_ren := {
  mixed := by kernel_rfl
  f6 := ⟨Tryz.f105.name, by decide, Tryz.func105.trans (congrArg some (by kernel_rfl))⟩
  f8 := ⟨Tryz.f125.name, by decide, Tryz.func125.trans (congrArg some (by kernel_rfl))⟩
  f11 := ⟨Tryz.f141.name, by decide, Tryz.func141.trans (congrArg some (by kernel_rfl))⟩
  t0 := Tryz.underlying0
  a0 := Tryz.isAgg0
  z0 := Tryz.sizeOf0
  v0 := Tryz.zeroValue0
  t24 := Tryz.underlying107
  a24 := Tryz.isAgg107
  z24 := Tryz.sizeOf107
  v24 := Tryz.zeroValue107
  t26 := Tryz.underlying3
  a26 := Tryz.isAgg3
  z26 := Tryz.sizeOf3
  v26 := Tryz.zeroValue3
  t28 := Tryz.underlying158
  a28 := Tryz.isAgg158
  z28 := Tryz.sizeOf158
  v28 := Tryz.zeroValue158
  i26 := by kernel_rfl }
def Tryz.sort94_ren : Go.Shelf.Ren := ⟨fun | 5 => 126 | 8 => 143 | 7 => 142 | 19 => 159 | 20 => 160 | 10 => 150 | 11 => 151 | 12 => 152 | 13 => 153 | 14 => 154 | 15 => 155 | 16 => 156 | 17 => 157 | 18 => 158 | 30 => 172 | 31 => 173 | 32 => 174 | 33 => 175 | 34 => 176 | 35 => 177 | 40 => 185 | n => n, fun | 23 => 107 | 25 => 3 | 3 => 3 | 32 => 143 | 22 => 107 | 0 => 0 | 44 => 172 | 46 => 79 | 4 => 4 | 36 => 204 | 35 => 203 | 41 => 101 | 5 => 5 | 9 => 9 | 53 => 218 | 57 => 222 | 63 => 233 | 64 => 234 | n => n, fun | n => n⟩
theorem Tryz.sort94 : Go.Proofs.SlLaysM.n5 Tryz.prog Tryz.sort94_ren := {
  mixed := by kernel_rfl
  f5 := ⟨Tryz.f126.name, by decide, Tryz.func126.trans (congrArg some (by kernel_rfl))⟩
  f7 := ⟨Tryz.f142.name, by decide, Tryz.func142.trans (congrArg some (by kernel_rfl))⟩
  f8 := Tryz.func143.trans (congrArg some (by kernel_rfl))
  f10 := ⟨Tryz.f150.name, by decide, Tryz.func150.trans (congrArg some (by kernel_rfl))⟩
  f11 := ⟨Tryz.f151.name, by decide, Tryz.func151.trans (congrArg some (by kernel_rfl))⟩
  f12 := ⟨Tryz.f152.name, by decide, Tryz.func152.trans (congrArg some (by kernel_rfl))⟩
  f13 := ⟨Tryz.f153.name, by decide, Tryz.func153.trans (congrArg some (by kernel_rfl))⟩
  f14 := ⟨Tryz.f154.name, by decide, Tryz.func154.trans (congrArg some (by kernel_rfl))⟩
  f15 := ⟨Tryz.f155.name, by decide, Tryz.func155.trans (congrArg some (by kernel_rfl))⟩
  f16 := ⟨Tryz.f156.name, by decide, Tryz.func156.trans (congrArg some (by kernel_rfl))⟩
  f17 := ⟨Tryz.f157.name, by decide, Tryz.func157.trans (congrArg some (by kernel_rfl))⟩
  f18 := ⟨Tryz.f158.name, by decide, Tryz.func158.trans (congrArg some (by kernel_rfl))⟩
  f19 := Tryz.func159.trans (congrArg some (by kernel_rfl))
  f20 := Tryz.func160.trans (congrArg some (by kernel_rfl))
  f30 := ⟨Tryz.f172.name, by decide, Tryz.func172.trans (congrArg some (by kernel_rfl))⟩
  f31 := Tryz.func173.trans (congrArg some (by kernel_rfl))
  f32 := Tryz.func174.trans (congrArg some (by kernel_rfl))
  f33 := ⟨Tryz.f175.name, by decide, Tryz.func175.trans (congrArg some (by kernel_rfl))⟩
  f34 := ⟨Tryz.f176.name, by decide, Tryz.func176.trans (congrArg some (by kernel_rfl))⟩
  f35 := ⟨Tryz.f177.name, by decide, Tryz.func177.trans (congrArg some (by kernel_rfl))⟩
  f40 := ⟨Tryz.f185.name, by decide, Tryz.func185.trans (congrArg some (by kernel_rfl))⟩
  t0 := Tryz.underlying0
  a0 := Tryz.isAgg0
  z0 := Tryz.sizeOf0
  v0 := Tryz.zeroValue0
  t3 := Tryz.underlying3
  a3 := Tryz.isAgg3
  z3 := Tryz.sizeOf3
  v3 := Tryz.zeroValue3
  t4 := Tryz.underlying4
  a4 := Tryz.isAgg4
  z4 := Tryz.sizeOf4
  v4 := Tryz.zeroValue4
  t5 := Tryz.underlying5
  a5 := Tryz.isAgg5
  z5 := Tryz.sizeOf5
  v5 := Tryz.zeroValue5
  t9 := Tryz.underlying9
  a9 := Tryz.isAgg9
  z9 := Tryz.sizeOf9
  v9 := Tryz.zeroValue9
  t22 := Tryz.underlying107
  a22 := Tryz.isAgg107
  z22 := Tryz.sizeOf107
  v22 := Tryz.zeroValue107
  t23 := Tryz.underlying107
  a23 := Tryz.isAgg107
  z23 := Tryz.sizeOf107
  v23 := Tryz.zeroValue107
  t25 := Tryz.underlying3
  a25 := Tryz.isAgg3
  z25 := Tryz.sizeOf3
  v25 := Tryz.zeroValue3
  t32 := Tryz.underlying143
  a32 := Tryz.isAgg143
  z32 := Tryz.sizeOf143
  v32 := Tryz.zeroValue143
  t35 := Tryz.underlying203
  a35 := Tryz.isAgg203
  z35 := Tryz.sizeOf203
  v35 := Tryz.zeroValue203
  t36 := Tryz.underlying204
  a36 := Tryz.isAgg204
  z36 := Tryz.sizeOf204
  v36 := Tryz.zeroValue204
  t41 := Tryz.underlying101
  a41 := Tryz.isAgg101
  z41 := Tryz.sizeOf101
  v41 := Tryz.zeroValue101
  t44 := Tryz.underlying172
  a44 := Tryz.isAgg172
  z44 := Tryz.sizeOf172
  v44 := Tryz.zeroValue172
  t46 := Tryz.underlying79
  a46 := Tryz.isAgg79
  z46 := Tryz.sizeOf79
  v46 := Tryz.zeroValue79
  t53 := Tryz.underlying218
  a53 := Tryz.isAgg218
  z53 := Tryz.sizeOf218
  v53 := Tryz.zeroValue218
  t57 := Tryz.underlying222
  a57 := Tryz.isAgg222
  z57 := Tryz.sizeOf222
  v57 := Tryz.zeroValue222
  t63 := Tryz.underlying233
  a63 := Tryz.isAgg233
  z63 := Tryz.sizeOf233
  v63 := Tryz.zeroValue233
  t64 := Tryz.underlying234
  a64 := Tryz.isAgg234
  z64 := Tryz.sizeOf234
  v64 := Tryz.zeroValue234 }
end Go.Proofs
namespace Go.Proofs
open Go.Shelf Go.RowKit Go.Lib Go.Sort
def Tryz.encCh (x : Fin 256 × ByteArray) : List Value := [.int .i64 (x.1.val : Nat), .string x.2]
def Tryz.cfCh (x y : Fin 256 × ByteArray) : Int := ((x.1.val : Nat) : Int) - ((y.1.val : Nat) : Int)
theorem Tryz.wrapCh (x y : Fin 256 × ByteArray) : IntKind.i64.wrap (((x.1.val : Nat) : Int) - ((y.1.val : Nat) : Int)) = Tryz.cfCh x y := by
  have h1 := x.1.isLt
  have h2 := y.1.isLt
  unfold Tryz.cfCh IntKind.wrap
  simp only [IntKind.signed, IntKind.bits, Bool.true_and]
  split <;> simp_all <;> omega
set_option maxHeartbeats 1000000 in
theorem Tryz.closure56 (x y : Fin 256 × ByteArray) (W : World) : Calls Tryz.prog 111 #[.agg #[.int .i64 (x.1.val : Nat), .string x.2], .agg #[.int .i64 (y.1.val : Nat), .string y.2]] W fun e w' => e = .returned (.int .i64 (Tryz.cfCh x y)) ∧ ∃ q os', w' = grow (W.drewN q) os' := by
  have hw := Tryz.wrapCh x y
  generalize Tryz.cfCh x y = r at hw ⊢
  go_enter Tryz.func111, Tryz.ntmps111
  go_wp2
  go_ret
  exact ⟨rfl, 0, _, by rw [alloc_eq_grow, alloc_eq_grow, grow_grow]; rfl⟩
theorem Tryz.ltCh (x y : Fin 256 × ByteArray) : ltOf Tryz.cfCh x y = decide (x.1.val < y.1.val) := by
  unfold ltOf Tryz.cfCh
  by_cases h : x.1.val < y.1.val
  · rw [decide_eq_true h]; exact decide_eq_true (by omega)
  · rw [decide_eq_false h]; exact decide_eq_false (by omega)
theorem Tryz.swoCh : SWO (ltOf Tryz.cfCh) where
  irrefl x := by rw [Tryz.ltCh]; simp
  trans x y z h1 h2 := by rw [Tryz.ltCh] at *; simp at *; omega
  ntrans x y z h1 h2 := by rw [Tryz.ltCh] at *; simp at *; omega
theorem Tryz.sort88_at (blk off cap : Nat) (d : Array (Fin 256 × ByteArray)) (w : World) (hH : HoldsK Tryz.encCh 2 w blk off d) (hblk : blk < w.heap.size) (hsz : d.size < 4611686018427387904) :
    Calls Tryz.prog 129 #[.slice (some ⟨blk, off, none⟩) d.size cap, .func (.func 111) #[] #[]] w fun e w' => e = .returned (.tuple #[]) ∧ ∃ d' n os, PermIn 0 d.size d d' ∧ SortedIn (ltOf Tryz.cfCh) 0 d.size d' ∧ w' = sortWorldK Tryz.encCh 2 w blk off n d' os :=
  AnyQ.slices_SortFunc Tryz.sort88 2 Tryz.isAgg122 Tryz.sizeOf122 Tryz.encCh (fun _ => rfl) (fun x v hv => by simp [Tryz.encCh] at hv; rcases hv with rfl | rfl <;> rfl) Tryz.cfCh Tryz.swoCh 111 #[] blk off cap d w (enters_of Tryz.func111 (by kernel_rfl) rfl) (fun _ _ _ _ x y => Tryz.closure56 x y _) hH hblk hsz
theorem Tryz.sort88_none (p : Option Addr) (cap : Nat) (w : World) : Calls Tryz.prog 129 #[.slice p 0 cap, .func (.func 111) #[] #[]] w fun e w' => e = .returned (.tuple #[]) ∧ w' = w :=
  AnyF.slices_SortFunc_none { Tryz.sort88 with } p cap _ w
end Go.Proofs
namespace Go.Proofs.YthbogjbcecmopaaGreatDoor
open Go.Gx
open Go.Sort (flatK get_flatK size_flatK HoldsK putRowK grow SortedIn PermIn)
open Go.Proofs (sortWorldK)
set_option linter.unusedVariables false
abbrev Cf := Fin 256 × ByteArray
def ofCf (x : Cf) : Ch := (x.1.val, x.2)
theorem enc_wr (x : Cf) : Tryz.encCh x = wrC (ofCf x) := rfl
theorem lift_cs : ∀ (cs : List Ch), (∀ c ∈ cs, c.1 < 256) → ∃ d : List Cf, d.map ofCf = cs
  | [], _ => ⟨[], rfl⟩
  | c :: cs, h => by
    obtain ⟨d, rfl⟩ := lift_cs cs fun x hx => h x (List.mem_cons_of_mem _ hx)
    exact ⟨(⟨c.1, h c List.mem_cons_self⟩, c.2) :: d, rfl⟩
theorem flat_get_ (d : Array Cf) (t : Nat) (ht : t < d.size * 2) : (rowC wrC (d.toList.map ofCf))[t]? = some ((flatK Tryz.encCh 2 d)[t]!) := by
  have hi : t / 2 < d.size := by omega
  have h1 : (d.toList.map ofCf)[t / 2]? = some (ofCf d[t / 2]!) := by
    rw [List.getElem?_map, Array.getElem?_toList, getElem!_pos d (t / 2) hi, Array.getElem?_eq_getElem hi]; rfl
  have h2 := rowC_get wrC_len _ _ _ h1 (t % 2) (by omega)
  rw [show t / 2 * 2 + t % 2 = t by omega] at h2
  rw [h2, get_flatK _ _ _ _ ht, enc_wr]
  have h3 : t % 2 < (wrC (ofCf d[t / 2]!)).length := by rw [wrC_len]; omega
  rw [List.getElem?_eq_getElem h3, getElem!_pos (wrC (ofCf d[t / 2]!)) (t % 2) h3]
theorem put_flat (d : Array Cf) (A rest : List Value) (hA : A.length = d.size * 2) : Go.Sort.putCells id 0 (flatK Tryz.encCh 2 d) (A ++ rest).toArray = (rowC wrC (d.toList.map ofCf) ++ rest).toArray := by
  have hl : (rowC wrC (d.toList.map ofCf)).length = d.size * 2 := by rw [rowC_length wrC_len, List.length_map, Array.length_toList]
  apply Array.ext_getElem?
  intro t
  unfold Go.Sort.putCells
  rw [Array.getElem?_mapIdx]
  simp only [List.getElem?_toArray, size_flatK, Nat.zero_le, Nat.zero_add, true_and, id]
  by_cases ht : t < d.size * 2
  · rw [List.getElem?_append_left (by omega), List.getElem?_append_left (by omega), flat_get_ d t ht, List.getElem?_eq_getElem (by omega)]
    simp [ht]
  · rw [List.getElem?_append_right (by omega), List.getElem?_append_right (by omega), hA, hl]
    cases rest[t - d.size * 2]? <;> simp [ht]
theorem sortfunc_spec {h y : Hp} {K : Value → Hp → Prop} {a : Option Addr} {c : Nat} {cs : List Ch} (N : NewR wrC 2 122 h y a c cs) (hl : cs.length < 1000000) (hs : ∀ c ∈ cs, c.1 < 256)
    (hK : ∀ y ds, ds.Perm cs → ds.Pairwise (fun a b => a.1 ≤ b.1) → NewR wrC 2 122 h y a c ds → K (.tuple #[]) y) : CallsH Tryz.prog 129 #[.slice a cs.length c, .func (.func 111) #[] #[]] y K := by
  intro W hW
  obtain ⟨o1, o2, ⟨rfl, rfl⟩ | ⟨b, rest, rfl, hb, hr⟩⟩ := id N.own
  · have : cs = [] := List.eq_nil_of_length_eq_zero (by omega)
    subst this
    exact (Tryz.sort88_none none 0 W).mono fun e w' ⟨he, hw⟩ => ⟨_, y, he, hK y [] (List.Perm.refl _) List.Pairwise.nil N, by rw [hw]; exact hW, by rw [hw]; exact Kept.refl _ _⟩
  · obtain ⟨d, rfl⟩ := lift_cs cs hs
    have hWb := hW b _ hb
    have hlt := (Array.getElem?_eq_some_iff.1 hWb).1
    have hA : (rowC wrC (d.map ofCf)).length = d.toArray.size * 2 := by rw [rowC_length wrC_len, List.length_map]; rfl
    have hH : HoldsK Tryz.encCh 2 W b 0 d.toArray := by
      intro j hj
      rw [size_flatK] at hj
      have h1 := flat_get_ d.toArray j hj
      rw [Nat.zero_add]
      refine ⟨?_, ?_⟩
      · unfold World.cell?
        rw [show W.heap[(⟨b, j, none⟩ : Addr).block]? = _ from hWb]
        simp only [List.getElem?_toArray]
        rw [List.getElem?_append_left (by omega)]
        exact h1
      · unfold World.frozen?
        rw [show W.heap[(⟨b, j, none⟩ : Addr).block]? = _ from hWb]
        simp
    have hcall := Tryz.sort88_at b 0 c d.toArray W hH hlt (by simp at hl ⊢; omega)
    rw [show (d.map ofCf).length = d.toArray.size by simp]
    refine hcall.mono fun e w' ⟨he, d', nn, os, hp, hsd, hw⟩ => ?_
    have hsz : d'.size = d.toArray.size := hp.1
    have hperm : d'.toList.Perm d := by
      have := hp.2.2
      rw [Array.extract_eq_self_of_le (by omega), Array.extract_eq_self_of_le (Nat.le_refl _)] at this
      exact this
    have hds : (d'.toList.map ofCf).length = (d.map ofCf).length := by rw [List.length_map, List.length_map, Array.length_toList, hsz]; rfl
    have hheap : ∀ k, k < W.heap.size → w'.heap[k]? = (if k = b then some (.cells (rowC wrC (d'.toList.map ofCf) ++ rest).toArray 122 (0, 0)) else W.heap[k]?) := by
      intro k hk
      rw [hw]
      unfold sortWorldK grow putRowK Go.Sort.putRow Go.Sort.mapBlock Go.Sort.ahead
      show ((W.heap.modify b _) ++ os)[k]? = _
      rw [Array.getElem?_append_left (by simpa using hk), Array.getElem?_modify]
      by_cases e : b = k
      · subst e
        rw [if_pos rfl, if_pos rfl, hWb]
        show some (Obj.cells (Go.Sort.putCells id 0 (flatK Tryz.encCh 2 d') (rowC wrC (d.map ofCf) ++ rest).toArray) 122 (0, 0)) = _
        rw [put_flat d' _ _ (by rw [hA, hsz])]
      · rw [if_neg e, if_neg (Ne.symm e)]
    have hsize : W.heap.size ≤ w'.heap.size := by
      rw [hw]
      unfold sortWorldK grow putRowK Go.Sort.putRow Go.Sort.mapBlock Go.Sort.ahead
      simp
    refine ⟨_, y.upd b (.cells (rowC wrC (d'.toList.map ofCf) ++ rest).toArray 122 (0, 0)), he, hK _ (d'.toList.map ofCf) (hperm.map _) ?_ ⟨?_, N.new, ?_⟩, fun c' o hc => ?_, ⟨by rw [hw]; rfl, by rw [hw]; rfl, by rw [hw]; rfl, hsize, fun c' o hc hn => ?_⟩⟩
    · rw [List.pairwise_iff_getElem]
      intro i j hi hj hij
      simp only [List.length_map, Array.length_toList] at hi hj
      have := hsd i j (Nat.zero_le _) hij (by omega)
      rw [Tryz.ltCh, getElem!_pos d' j hj, getElem!_pos d' i hi] at this
      have := of_decide_eq_false this
      simp only [List.getElem_map, Array.getElem_toList, ofCf]
      omega
    · intro c' o hc
      have hne : c' ≠ b := fun e => by have := N.new b ⟨0, none, rfl⟩; rw [e, this] at hc; cases hc
      rw [Hp.upd_ne _ _ hne]; exact N.sub c' o hc
    · refine ⟨by rw [rowC_length wrC_len], by rw [hds]; exact o2, .inr ⟨b, rest, rfl, Hp.upd_same _ _ _, by rw [hds]; exact hr⟩⟩
    · by_cases e : c' = b
      · rw [e, Hp.upd_same] at hc
        cases hc
        rw [e, hheap b hlt, if_pos rfl]
      · rw [Hp.upd_ne _ _ e] at hc
        have := hW c' o hc
        rw [hheap c' (Array.getElem?_eq_some_iff.1 this).1, if_neg e]; exact this
    · have hne : c' ≠ b := fun e => by rw [e, show y b = _ from hb] at hn; cases hn
      rw [hheap c' (Array.getElem?_eq_some_iff.1 hc).1, if_neg hne, Hp.upd_ne _ _ hne]
      exact ⟨hc, hn⟩
theorem sortedfunc_spec {h : Hp} {K : Value → Hp → Prop} (la : Option Addr) (lc : Nat) (cs : List Ch) (hl : cs.length < 1000000) (pb : Nat) (hp : h.cell pb 0 = some (.slice la cs.length lc)) (R : RowAt wrC 2 h la cs) (hs : ∀ c ∈ cs, c.1 < 256)
    (hK : ∀ y a c ds, ds.Perm cs → ds.Pairwise (fun a b => a.1 ≤ b.1) → NewR wrC 2 122 h y a c ds → K (.slice a ds.length c) y) : CallsH Tryz.prog 109 #[.func (.func 130) #[] #[.pointer (some ⟨pb, 0, none⟩)], .func (.func 111) #[] #[]] h K := by
  refine slices_SortedFunc_journal_Change__0f130_1f111.calls pb 0 ?_
  unfold slices_SortedFunc_journal_Change__0f130_1f111.W
  refine collect_spec la lc cs hl pb hp R fun y a c N => ⟨_, _, _, rfl, sortfunc_spec N hl hs fun y2 ds hpm hsd N2 => ⟨rfl, ?_⟩⟩
  rw [← hpm.length_eq]
  exact hK y2 a c ds hpm hsd N2
end Go.Proofs.YthbogjbcecmopaaGreatDoor
namespace Go.Proofs.YthbogjbcecmopaaGreatDoor
open Go.Gx
set_option maxRecDepth 100000
set_option linter.unusedVariables false

def journal_Journal_Commit.H : Hints := { N := 92, loc := (fun i => Nat.beq i 9 || false), join := (fun _ => none), loop := (fun i => bif Nat.beq i 13 then some [.slot 36 (.int .i64)] else none), ifc := 0, order := (fun i => bif Nat.beq i 15 then some (some 12, false, [0, 1, 2, 3, 4, 5, 6, 7, 8, 9, 10, 11, 12], .q 0 (.q 1 (.q 2 (.q 3 (.q 4 (.q 5 (.q 6 (.q 7 (.q 8 (.q 9 (.q 10 (.q 11 (.f 12 (.done) .e))))))))))))) else bif Nat.beq i 20 then some (some 7, false, [0, 1, 2, 3, 4, 5, 6, 7, 8, 9], .q 0 (.q 1 (.q 2 (.q 3 (.q 4 (.q 5 (.f 6 (.f 7 (.f 8 (.q 9 .done) .e) .e) .e))))))) else bif Nat.beq i 26 then some (some 7, false, [0, 1, 2, 3, 4, 5, 6, 7, 8, 9], .q 0 (.q 1 (.q 2 (.q 3 (.q 4 (.f 5 (.f 6 (.f 7 (.f 8 (.q 9 .done) .e) .e) .e) .e)))))) else none) }
def journal_Journal_Commit.W (j_b j_o : Nat) (la : Option Addr) (ll lc : Nat) (h : Hp) (Q : Value → Hp → Prop) : Prop :=
  (CallsH Tryz.prog 107 (#[.pointer (some ⟨j_b, j_o, none⟩), .slice la ll lc]) (h) (fun v1 h2 => ∃ n3, (v1 = .int .i64 n3) ∧ bif hb (n3 != 0) then (Q (.int .i64 n3) h2) else (∃ a4, (h2.cell j_b j_o = some (.pointer a4)) ∧ CallsH Tryz.prog 108 (#[.pointer a4]) (h2) (fun v5 h6 => ∃ b7, (v5 = .bool b7) ∧ bif !b7 then (Q (.int .i64 10) h6) else (bif hb (Int.ofNat ll == 0) then (Q (.int .i64 0) h6) else (CallsH Tryz.prog 110 (#[.slice la ll lc]) (h6) (fun v8 h9 => ∃ (v10 : Value), (v8 = v10) ∧ CallsH Tryz.prog 109 (#[v10, .func (Fn.func 111) #[] #[]]) (h9) (fun v11 h12 => ∃ a13, ∃ k14, ∃ k15, (v11 = .slice a13 k14 k15) ∧ (Int.ofNat 0 ≤ 256) ∧ (Int.ofNat 256 ≤ 256) ∧ (Int.ofNat 1 * 256 ≤ 281474976710656) ∧ (Int.ofNat 256 ≤ 9223372036854775807) ∧ ∀ (k16 : Nat), (h12 k16 = none) → (∃ (J17 : Int → Hp → Nat → Prop), (∃ k18, J17 0 (h12.upd k16 (.cells (repV 256 [.int .u8 0]).toArray 5 (0, 0))) k18) ∧ ∀ (n19 : Int), ∀ (x20 : Hp), ∀ (k21 : Nat), (J17 n19 x20 k21) → (bif hb (decide (n19 < Int.ofNat k14)) then ((0 ≤ n19) ∧ (n19 < Int.ofNat k14) ∧ ∃ k22, ∃ k23, (a13 = some ⟨k22, k23, none⟩) ∧ ∃ n24, (x20.cell k22 (k23 + n19.toNat * 2) = some (.int .i64 n24)) ∧ ∃ s25, (x20.cell k22 (k23 + n19.toNat * 2 + 1) = some (.string s25)) ∧ (((8 : Int) = 0) → False) ∧ (0 ≤ IntKind.i64.wrap (n24.tdiv 8)) ∧ (IntKind.i64.wrap (n24.tdiv 8) < 256) ∧ ∃ k26, ∃ k27, ((some ⟨k16, 0, none⟩ : Option Addr) = some ⟨k26, k27, none⟩) ∧ ∃ n28, (x20.cell k26 (k27 + (IntKind.i64.wrap (n24.tdiv 8)).toNat * 1) = some (.int .u8 n28)) ∧ (((8 : Int) = 0) → False) ∧ (0 ≤ n24.tmod 8) ∧ (0 ≤ IntKind.i64.wrap (n24.tdiv 8)) ∧ (IntKind.i64.wrap (n24.tdiv 8) < 256) ∧ ∃ k29, ∃ k30, ((some ⟨k16, 0, none⟩ : Option Addr) = some ⟨k29, k30, none⟩) ∧ (StoreOk x20 k29 (k30 + (IntKind.i64.wrap (n24.tdiv 8)).toNat * 1) 1) ∧ ∃ k31, (k31 < k21) ∧ J17 (IntKind.i64.wrap (n19 + 1)) (x20.put k29 (k30 + (IntKind.i64.wrap (n24.tdiv 8)).toNat * 1) [.int .u8 (IntKind.u8.wrap (ior IntKind.u8 n28 (IntKind.u8.wrap (ishl IntKind.u8 1 (n24.tmod 8)))))]) k31) else (CallsH Tryz.prog 112 (#[.pointer (some ⟨j_b, j_o, none⟩), .slice a13 k14 k15, .func (Fn.func 113) #[] #[]]) (x20) (fun v32 h33 => ∃ n34, (v32 = .int .i64 n34) ∧ CallsH Tryz.prog 81 (#[.pointer (some ⟨j_b, j_o, none⟩), .int .i64 n34]) (h33) (fun v35 h36 => ∃ n37, (v35 = .int .i64 n37) ∧ bif hb (n37 != 0) then (Q (.int .i64 n37) h36) else (∃ a38, (h36.cell j_b j_o = some (.pointer a38)) ∧ ∃ s39, (SliceAt (h36) (some ⟨k16, 0, none⟩) (256) (bytesV s39)) ∧ (Gx.Sub h36 h36) ∧ CallsH Tryz.prog 82 (#[.pointer a38, .int .i64 0, .string s39]) (h36) (fun v40 h41 => ∃ n42, (v40 = .int .i64 n42) ∧ CallsH Tryz.prog 81 (#[.pointer (some ⟨j_b, j_o, none⟩), .int .i64 n42]) (h41) (fun v43 h44 => ∃ n45, (v43 = .int .i64 n45) ∧ bif hb (n45 != 0) then (Q (.int .i64 n45) h44) else (CallsH Tryz.prog 112 (#[.pointer (some ⟨j_b, j_o, none⟩), .slice a13 k14 k15, .func (Fn.func 80) #[.pointer (some ⟨j_b, j_o, none⟩)] #[]]) (h44) (fun v46 h47 => ∃ n48, (v46 = .int .i64 n48) ∧ CallsH Tryz.prog 81 (#[.pointer (some ⟨j_b, j_o, none⟩), .int .i64 n48]) (h47) (fun v49 h50 => ∃ n51, (v49 = .int .i64 n51) ∧ bif hb (n51 != 0) then (Q (.int .i64 n51) h50) else (∃ a52, (h50.cell j_b j_o = some (.pointer a52)) ∧ (Int.ofNat 0 ≤ 256) ∧ (Int.ofNat 256 ≤ 256) ∧ (Int.ofNat 1 * 256 ≤ 281474976710656) ∧ (Int.ofNat 256 ≤ 9223372036854775807) ∧ ∀ (k53 : Nat), (h50 k53 = none) → ((Gx.Sub h50 (h50.upd k53 (.cells (repV 256 [.int .u8 0]).toArray 5 (0, 0)))) ∧ ∃ s54, (SliceAt (h50.upd k53 (.cells (repV 256 [.int .u8 0]).toArray 5 (0, 0))) (some ⟨k53, 0, none⟩) (256) (bytesV s54)) ∧ (Gx.Sub h50 (h50.upd k53 (.cells (repV 256 [.int .u8 0]).toArray 5 (0, 0)))) ∧ CallsH Tryz.prog 82 (#[.pointer a52, .int .i64 0, .string s54]) (h50.upd k53 (.cells (repV 256 [.int .u8 0]).toArray 5 (0, 0))) (fun v55 h56 => ∃ n57, (v55 = .int .i64 n57) ∧ CallsH Tryz.prog 81 (#[.pointer (some ⟨j_b, j_o, none⟩), .int .i64 n57]) (h56) (fun v58 h59 => ∃ n60, (v58 = .int .i64 n60) ∧ Q (.int .i64 n60) h59)))))))))))))))))))))))
theorem journal_Journal_Commit.calls (j_b j_o : Nat) (la : Option Addr) (ll lc : Nat) {h : Hp} {Q : Value → Hp → Prop} (hW : journal_Journal_Commit.W j_b j_o la ll lc h Q) : CallsH Tryz.prog 70 #[.pointer (some ⟨j_b, j_o, none⟩), .slice la ll lc] h Q := by
  have hE_ : bodyW Tryz.prog journal_Journal_Commit.H Tryz.f70 [.ptr j_b j_o, .val (.slice la ll lc)] h Q = journal_Journal_Commit.W j_b j_o la ll lc h Q := by kernel_rfl
  rw [← hE_] at hW
  exact calls_of_body (H := journal_Journal_Commit.H) (args := [.ptr j_b j_o, .val (.slice la ll lc)]) Tryz.func70 Tryz.ntmps70 rfl rfl hW

def pager_Open.H : Hints := { N := 34, loc := (fun _ => false), join := (fun _ => none), loop := (fun _ => none), ifc := 0, order := (fun _ => none) }
def pager_Open.W (j_b j_o : Nat) (h : Hp) (Q : Value → Hp → Prop) : Prop :=
  (CallsH Tryz.prog 83 (#[.pointer (some ⟨j_b, j_o, none⟩)]) (h) (fun v1 h2 => ∃ n3, (v1 = .int .i64 n3) ∧ bif hb (decide (n3 < 2)) then (Q (.tuple #[.pointer none, .int .i64 1]) h2) else (CallsH Tryz.prog 67 (#[.pointer (some ⟨j_b, j_o, none⟩), .int .i64 0]) (h2) (fun v4 h5 => ∃ s6, ∃ n7, (v4 = .tuple #[.string s6, .int .i64 n7]) ∧ bif hb (n7 != 0) then (Q (.tuple #[.pointer none, .int .i64 n7]) h5) else (CallsH Tryz.prog 83 (#[.pointer (some ⟨j_b, j_o, none⟩)]) (h5) (fun v8 h9 => ∃ n10, (v8 = .int .i64 n10) ∧ CallsH Tryz.prog 84 (#[.string s6, .int .i64 n10]) (h9) (fun v11 h12 => ∃ (xs13 : List Value), (xs13.length = 133) ∧ ∃ b14, (v11 = .tuple #[.agg xs13.toArray, .bool b14]) ∧ ∀ (k15 : Nat), (h12 k15 = none) → ((xs13.length = 133) ∧ (plainP xs13) ∧ (StoreOk (h12.upd k15 (.cells (zeroL Tryz.prog 83).toArray 83 (0, 0))) k15 0 xs13.length) ∧ bif !b14 then (Q (.tuple #[.pointer none, .int .i64 4]) ((h12.upd k15 (.cells (zeroL Tryz.prog 83).toArray 83 (0, 0))).put k15 0 xs13)) else (∃ (xs16 : List Value), (xs16.length = 133) ∧ (CellsAt ((h12.upd k15 (.cells (zeroL Tryz.prog 83).toArray 83 (0, 0))).put k15 0 xs13) k15 0 xs16) ∧ ∃ (xs17 : List Value), (xs17.length = 133) ∧ (CellsAt ((h12.upd k15 (.cells (zeroL Tryz.prog 83).toArray 83 (0, 0))).put k15 0 xs13) k15 0 xs17) ∧ ∀ (k18 : Nat), ((h12.upd k15 (.cells (zeroL Tryz.prog 83).toArray 83 (0, 0))).put k15 0 xs13 k18 = none) → (∀ (x19 : Obj), (MapObj Tryz.prog 3 x19 []) → ((1 = 1) ∧ (xs16.length = 133) ∧ (xs17.length = 133) ∧ (1 = 1) ∧ ∀ (k20 : Nat), (((h12.upd k15 (.cells (zeroL Tryz.prog 83).toArray 83 (0, 0))).put k15 0 xs13).upd k18 x19 k20 = none) → (Q (.tuple #[.pointer (some ⟨k20, 0, none⟩), .int .i64 0]) ((((h12.upd k15 (.cells (zeroL Tryz.prog 83).toArray 83 (0, 0))).put k15 0 xs13).upd k18 x19).upd k20 (.cells (setL (setL (setL (setL (zeroL Tryz.prog 87) 0 [.pointer (some ⟨j_b, j_o, none⟩)]) 1 xs16) 134 xs17) 267 [.map (some k18)]).toArray 87 (0, 0)))))))))))))))
theorem pager_Open.calls (j_b j_o : Nat) {h : Hp} {Q : Value → Hp → Prop} (hW : pager_Open.W j_b j_o h Q) : CallsH Tryz.prog 33 #[.pointer (some ⟨j_b, j_o, none⟩)] h Q := by
  have hE_ : bodyW Tryz.prog pager_Open.H Tryz.f33 [.ptr j_b j_o] h Q = pager_Open.W j_b j_o h Q := by kernel_rfl
  rw [← hE_] at hW
  exact calls_of_body (H := pager_Open.H) (args := [.ptr j_b j_o]) Tryz.func33 Tryz.ntmps33 rfl rfl hW

def pager_Pager_Read.H : Hints := { N := 34, loc := (fun _ => false), join := (fun _ => none), loop := (fun _ => none), ifc := 0, order := (fun _ => none) }
def pager_Pager_Read.W (p_b p_o : Nat) (id : Int) (h : Hp) (Q : Value → Hp → Prop) : Prop :=
  (CallsH Tryz.prog 45 (#[.pointer (some ⟨p_b, p_o, none⟩), .int .i64 id]) (h) (fun v1 h2 => ∃ n3, (v1 = .int .i64 n3) ∧ bif hb (n3 != 0) then (Q (.tuple #[.string (bytesL []), .int .i64 n3]) h2) else (∃ (a4 : Option Nat), (h2.cell p_b (p_o + 267) = some (.map a4)) ∧ ∃ k5, ∃ (x6 : Obj), ∃ (xs7 : List (Value × Value)), (a4 = some k5) ∧ (h2 k5 = some x6) ∧ (MapObj Tryz.prog 3 x6 xs7) ∧ ∃ s8, ∃ b9, (LookOk xs7 (.int .i64 id) (.string (bytesL [])) (.string s8) b9) ∧ bif b9 then (Q (.tuple #[.string s8, .int .i64 0]) h2) else (∃ a10, (h2.cell p_b p_o = some (.pointer a10)) ∧ CallsH Tryz.prog 67 (#[.pointer a10, .int .i64 id]) (h2) (fun v11 h12 => ∃ s13, ∃ n14, (v11 = .tuple #[.string s13, .int .i64 n14]) ∧ Q (.tuple #[.string s13, .int .i64 n14]) h12)))))
theorem pager_Pager_Read.calls (p_b p_o : Nat) (id : Int) {h : Hp} {Q : Value → Hp → Prop} (hW : pager_Pager_Read.W p_b p_o id h Q) : CallsH Tryz.prog 87 #[.pointer (some ⟨p_b, p_o, none⟩), .int .i64 id] h Q := by
  have hE_ : bodyW Tryz.prog pager_Pager_Read.H Tryz.f87 [.ptr p_b p_o, .val (.int .i64 id)] h Q = pager_Pager_Read.W p_b p_o id h Q := by kernel_rfl
  rw [← hE_] at hW
  exact calls_of_body (H := pager_Pager_Read.H) (args := [.ptr p_b p_o, .val (.int .i64 id)]) Tryz.func87 Tryz.ntmps87 rfl rfl hW

def pager_Pager_Alloc.H : Hints := { N := 35, loc := (fun _ => false), join := (fun _ => none), loop := (fun i => bif Nat.beq i 4 then some [.slot 4 (.int .i64)] else none), ifc := 0, order := (fun i => bif Nat.beq i 8 then some (some 7, false, [0, 1, 2, 3, 4, 5, 6, 7], .q 0 (.q 1 (.q 2 (.q 3 (.q 4 (.f 5 (.f 6 (.f 7 (.done) .e) .e) .e)))))) else none) }
def pager_Pager_Alloc.W (p_b p_o : Nat) (h : Hp) (Q : Value → Hp → Prop) : Prop :=
  (∃ (J1 : Int → Hp → Nat → Prop), (∃ k2, J1 1 h k2) ∧ ∀ (n3 : Int), ∀ (x4 : Hp), ∀ (k5 : Nat), (J1 n3 x4 k5) → (CallsH Tryz.prog 44 (#[.pointer (some ⟨p_b, p_o, none⟩)]) (x4) (fun v6 h7 => ∃ n8, (v6 = .int .i64 n8) ∧ bif hb (decide (n3 < n8)) then ((0 ≤ n3) ∧ (n3 < 128) ∧ ∃ b9, (h7.cell p_b (p_o + 134 + 5 + n3.toNat * 1) = some (.bool b9)) ∧ bif !b9 then ((0 ≤ n3) ∧ (n3 < 128) ∧ (StoreOk h7 p_b (p_o + 134 + 5 + n3.toNat * 1) 1) ∧ ∃ (a10 : Option Nat), ((h7.put p_b (p_o + 134 + 5 + n3.toNat * 1) [.bool true]).cell p_b (p_o + 267) = some (.map a10)) ∧ (Int.ofNat 0 ≤ 1024) ∧ (Int.ofNat 1024 ≤ 1024) ∧ (Int.ofNat 1 * 1024 ≤ 281474976710656) ∧ (Int.ofNat 1024 ≤ 9223372036854775807) ∧ ∀ (k11 : Nat), (h7.put p_b (p_o + 134 + 5 + n3.toNat * 1) [.bool true] k11 = none) → ((Gx.Sub (h7.put p_b (p_o + 134 + 5 + n3.toNat * 1) [.bool true]) ((h7.put p_b (p_o + 134 + 5 + n3.toNat * 1) [.bool true]).upd k11 (.cells (repV 1024 [.int .u8 0]).toArray 5 (0, 0)))) ∧ ∃ s12, (SliceAt ((h7.put p_b (p_o + 134 + 5 + n3.toNat * 1) [.bool true]).upd k11 (.cells (repV 1024 [.int .u8 0]).toArray 5 (0, 0))) (some ⟨k11, 0, none⟩) (1024) (bytesV s12)) ∧ (Gx.Sub (h7.put p_b (p_o + 134 + 5 + n3.toNat * 1) [.bool true]) ((h7.put p_b (p_o + 134 + 5 + n3.toNat * 1) [.bool true]).upd k11 (.cells (repV 1024 [.int .u8 0]).toArray 5 (0, 0)))) ∧ ∃ k13, ∃ (x14 : Obj), ∃ (xs15 : List (Value × Value)), (a10 = some k13) ∧ ((h7.put p_b (p_o + 134 + 5 + n3.toNat * 1) [.bool true]).upd k11 (.cells (repV 1024 [.int .u8 0]).toArray 5 (0, 0)) k13 = some x14) ∧ (MapObj Tryz.prog 3 x14 xs15) ∧ ∀ (x16 : Obj), (MapObj Tryz.prog 3 x16 (mset xs15 (.int .i64 n3) (.string s12))) → (Q (.tuple #[.int .i64 n3, .int .i64 0]) (((h7.put p_b (p_o + 134 + 5 + n3.toNat * 1) [.bool true]).upd k11 (.cells (repV 1024 [.int .u8 0]).toArray 5 (0, 0))).upd k13 x16)))) else (∃ k17, (k17 < k5) ∧ J1 (IntKind.i64.wrap (n3 + 1)) h7 k17)) else (Q (.tuple #[.int .i64 0, .int .i64 5]) h7))))
theorem pager_Pager_Alloc.calls (p_b p_o : Nat) {h : Hp} {Q : Value → Hp → Prop} (hW : pager_Pager_Alloc.W p_b p_o h Q) : CallsH Tryz.prog 9 #[.pointer (some ⟨p_b, p_o, none⟩)] h Q := by
  have hE_ : bodyW Tryz.prog pager_Pager_Alloc.H Tryz.f9 [.ptr p_b p_o] h Q = pager_Pager_Alloc.W p_b p_o h Q := by kernel_rfl
  rw [← hE_] at hW
  exact calls_of_body (H := pager_Pager_Alloc.H) (args := [.ptr p_b p_o]) Tryz.func9 Tryz.ntmps9 rfl rfl hW

def pager_Pager_Pages.H : Hints := { N := 10, loc := (fun _ => false), join := (fun _ => none), loop := (fun _ => none), ifc := 0, order := (fun _ => none) }
def pager_Pager_Pages.W (p_b p_o : Nat) (h : Hp) (Q : Value → Hp → Prop) : Prop :=
  (∃ a1, (h.cell p_b p_o = some (.pointer a1)) ∧ CallsH Tryz.prog 83 (#[.pointer a1]) (h) (fun v2 h3 => ∃ n4, (v2 = .int .i64 n4) ∧ Q (.int .i64 n4) h3))
theorem pager_Pager_Pages.calls (p_b p_o : Nat) {h : Hp} {Q : Value → Hp → Prop} (hW : pager_Pager_Pages.W p_b p_o h Q) : CallsH Tryz.prog 44 #[.pointer (some ⟨p_b, p_o, none⟩)] h Q := by
  have hE_ : bodyW Tryz.prog pager_Pager_Pages.H Tryz.f44 [.ptr p_b p_o] h Q = pager_Pager_Pages.W p_b p_o h Q := by kernel_rfl
  rw [← hE_] at hW
  exact calls_of_body (H := pager_Pager_Pages.H) (args := [.ptr p_b p_o]) Tryz.func44 Tryz.ntmps44 rfl rfl hW

def pager_Pager_Free.H : Hints := { N := 22, loc := (fun _ => false), join := (fun _ => none), loop := (fun i => bif Nat.beq i 3 then some [.slot 3 (.int .i64), .slot 7 (.int .i64)] else none), ifc := 0, order := (fun _ => none) }
def pager_Pager_Free.W (p_b p_o : Nat) (h : Hp) (Q : Value → Hp → Prop) : Prop :=
  (CallsH Tryz.prog 44 (#[.pointer (some ⟨p_b, p_o, none⟩)]) (h) (fun v1 h2 => ∃ n3, (v1 = .int .i64 n3) ∧ ∃ (J4 : Int → Int → Hp → Nat → Prop), (∃ k5, J4 0 0 h2 k5) ∧ ∀ (n6 : Int), ∀ (n7 : Int), ∀ (x8 : Hp), ∀ (k9 : Nat), (J4 n6 n7 x8 k9) → (bif hb (decide (n7 < n3)) then ((0 ≤ n7) ∧ (n7 < 128) ∧ ∃ b10, (x8.cell p_b (p_o + 134 + 5 + n7.toNat * 1) = some (.bool b10)) ∧ bif !b10 then (∃ k11, (k11 < k9) ∧ J4 (IntKind.i64.wrap (n6 + 1)) (IntKind.i64.wrap (n7 + 1)) x8 k11) else (∃ k12, (k12 < k9) ∧ J4 n6 (IntKind.i64.wrap (n7 + 1)) x8 k12)) else (Q (.int .i64 n6) x8))))
theorem pager_Pager_Free.calls (p_b p_o : Nat) {h : Hp} {Q : Value → Hp → Prop} (hW : pager_Pager_Free.W p_b p_o h Q) : CallsH Tryz.prog 36 #[.pointer (some ⟨p_b, p_o, none⟩)] h Q := by
  have hE_ : bodyW Tryz.prog pager_Pager_Free.H Tryz.f36 [.ptr p_b p_o] h Q = pager_Pager_Free.W p_b p_o h Q := by kernel_rfl
  rw [← hE_] at hW
  exact calls_of_body (H := pager_Pager_Free.H) (args := [.ptr p_b p_o]) Tryz.func36 Tryz.ntmps36 rfl rfl hW

def pager_Pager_Root.H : Hints := { N := 22, loc := (fun _ => false), join := (fun i => bif Nat.beq i 3 then some [] else none), loop := (fun _ => none), ifc := 0, order := (fun _ => none) }
def pager_Pager_Root.W (p_b p_o : Nat) (k : Int) (h : Hp) (Q : Value → Hp → Prop) : Prop :=
  (∃ (J1 : Hp → Prop), (∀ (x2 : Hp), (J1 x2) → ((0 ≤ k) ∧ (k < 4) ∧ ∃ n3, (x2.cell p_b (p_o + 134 + 1 + k.toNat * 1) = some (.int .i64 n3)) ∧ Q (.int .i64 n3) x2)) ∧ bif hb (decide (k < 0)) then (Q (.int .i64 0) h) else (bif hb (decide (k ≥ 4)) then (Q (.int .i64 0) h) else (J1 h)))
theorem pager_Pager_Root.calls (p_b p_o : Nat) (k : Int) {h : Hp} {Q : Value → Hp → Prop} (hW : pager_Pager_Root.W p_b p_o k h Q) : CallsH Tryz.prog 47 #[.pointer (some ⟨p_b, p_o, none⟩), .int .i64 k] h Q := by
  have hE_ : bodyW Tryz.prog pager_Pager_Root.H Tryz.f47 [.ptr p_b p_o, .val (.int .i64 k)] h Q = pager_Pager_Root.W p_b p_o k h Q := by kernel_rfl
  rw [← hE_] at hW
  exact calls_of_body (H := pager_Pager_Root.H) (args := [.ptr p_b p_o, .val (.int .i64 k)]) Tryz.func47 Tryz.ntmps47 rfl rfl hW

def pager_Pager_Changed.H : Hints := { N := 61, loc := (fun _ => false), join := (fun i => bif Nat.beq i 6 then some [.slot 3 (.slice)] else none), loop := (fun i => bif Nat.beq i 7 then some [.slot 3 (.slice), .slot 30 (.int .i64)] else none), ifc := 0, order := (fun i => bif Nat.beq i 4 then some (none, false, [0, 1, 2, 3, 4, 5, 6, 7, 8], .q 0 (.q 1 (.q 2 (.q 3 (.q 4 (.q 5 (.q 6 (.q 7 (.q 8 .done))))))))) else none) }
def pager_Pager_Changed.W (p_b p_o : Nat) (h : Hp) (Q : Value → Hp → Prop) : Prop :=
  (∃ (J1 : Option Addr → Nat → Nat → Hp → Prop), (∀ (a2 : Option Addr), ∀ (k3 : Nat), ∀ (k4 : Nat), ∀ (x5 : Hp), (J1 a2 k3 k4 x5) → (∃ (a6 : Option Nat), (x5.cell p_b (p_o + 267) = some (.map a6)) ∧ CallsH Tryz.prog 106 (#[.map a6]) (x5) (fun v7 h8 => ∃ (v9 : Value), (v7 = v9) ∧ CallsH Tryz.prog 105 (#[v9]) (h8) (fun v10 h11 => ∃ a12, ∃ k13, ∃ k14, (v10 = .slice a12 k13 k14) ∧ ∃ (J15 : Option Addr → Nat → Nat → Int → Hp → Nat → Prop), (∃ k16, J15 a2 k3 k4 0 h11 k16) ∧ ∀ (a17 : Option Addr), ∀ (k18 : Nat), ∀ (k19 : Nat), ∀ (n20 : Int), ∀ (x21 : Hp), ∀ (k22 : Nat), (J15 a17 k18 k19 n20 x21 k22) → (bif hb (decide (n20 < Int.ofNat k13)) then ((0 ≤ n20) ∧ (n20 < Int.ofNat k13) ∧ ∃ k23, ∃ k24, (a12 = some ⟨k23, k24, none⟩) ∧ ∃ n25, (x21.cell k23 (k24 + n20.toNat * 1) = some (.int .i64 n25)) ∧ ∃ a26, (x21.cell p_b p_o = some (.pointer a26)) ∧ CallsH Tryz.prog 67 (#[.pointer a26, .int .i64 n25]) (x21) (fun v27 h28 => ∃ s29, ∃ n30, (v27 = .tuple #[.string s29, .int .i64 n30]) ∧ bif hb (n30 != 0) then (∀ (k31 : Nat), (h28 k31 = none) → (∃ (xs32 : List Value), (SliceAt (h28.upd k31 (.cells #[.int .i64 n25] 3 (0, 0))) (some ⟨k31, 0, none⟩) (1) (xs32)) ∧ ∃ (J33 : Option Addr → Nat → Hp → Prop), (∀ (a34 : Option Addr), ∀ (k35 : Nat), ∀ (x36 : Hp), (J33 a34 k35 x36) → (∃ k37, (k37 < k22) ∧ J15 a34 (k18 + 1) k35 (IntKind.i64.wrap (n20 + 1)) x36 k37)) ∧ appendC Tryz.prog 3 a17 k18 k19 (h28.upd k31 (.cells #[.int .i64 n25] 3 (0, 0))) xs32 1 J33)) else (∃ (a38 : Option Nat), (h28.cell p_b (p_o + 267) = some (.map a38)) ∧ ∃ k39, ∃ (x40 : Obj), ∃ (xs41 : List (Value × Value)), (a38 = some k39) ∧ (h28 k39 = some x40) ∧ (MapObj Tryz.prog 3 x40 xs41) ∧ ∃ s42, ∃ b43, (LookOk xs41 (.int .i64 n25) (.string (bytesL [])) (.string s42) b43) ∧ bif !beqS s29 s42 then (∀ (k44 : Nat), (h28 k44 = none) → (∃ (xs45 : List Value), (SliceAt (h28.upd k44 (.cells #[.int .i64 n25] 3 (0, 0))) (some ⟨k44, 0, none⟩) (1) (xs45)) ∧ ∃ (J46 : Option Addr → Nat → Hp → Prop), (∀ (a47 : Option Addr), ∀ (k48 : Nat), ∀ (x49 : Hp), (J46 a47 k48 x49) → (∃ k50, (k50 < k22) ∧ J15 a47 (k18 + 1) k48 (IntKind.i64.wrap (n20 + 1)) x49 k50)) ∧ appendC Tryz.prog 3 a17 k18 k19 (h28.upd k44 (.cells #[.int .i64 n25] 3 (0, 0))) xs45 1 J46)) else (∃ k51, (k51 < k22) ∧ J15 a17 k18 k19 (IntKind.i64.wrap (n20 + 1)) h28 k51)))) else (Q (.slice a17 k18 k19) x21)))))) ∧ ∃ (xs52 : List Value), (xs52.length = 133) ∧ (CellsAt h p_b (p_o + 134) xs52) ∧ ∃ (xs53 : List Value), (xs53.length = 133) ∧ (CellsAt h p_b (p_o + 1) xs53) ∧ ∃ (xs54 : List Lit), ∃ (xs55 : List Lit), (LitsAre Tryz.prog 83 xs52 xs54) ∧ (LitsAre Tryz.prog 83 xs53 xs55) ∧ bif !leqL xs54 xs55 then (∀ (k56 : Nat), (h k56 = none) → (∃ (xs57 : List Value), (SliceAt (h.upd k56 (.cells #[.int .i64 0] 3 (0, 0))) (some ⟨k56, 0, none⟩) (1) (xs57)) ∧ ∃ (J58 : Option Addr → Nat → Hp → Prop), (∀ (a59 : Option Addr), ∀ (k60 : Nat), ∀ (x61 : Hp), (J58 a59 k60 x61) → (J1 a59 1 k60 x61)) ∧ appendC Tryz.prog 3 none 0 0 (h.upd k56 (.cells #[.int .i64 0] 3 (0, 0))) xs57 1 J58)) else (J1 none 0 0 h))
theorem pager_Pager_Changed.calls (p_b p_o : Nat) {h : Hp} {Q : Value → Hp → Prop} (hW : pager_Pager_Changed.W p_b p_o h Q) : CallsH Tryz.prog 68 #[.pointer (some ⟨p_b, p_o, none⟩)] h Q := by
  have hE_ : bodyW Tryz.prog pager_Pager_Changed.H Tryz.f68 [.ptr p_b p_o] h Q = pager_Pager_Changed.W p_b p_o h Q := by kernel_rfl
  rw [← hE_] at hW
  exact calls_of_body (H := pager_Pager_Changed.H) (args := [.ptr p_b p_o]) Tryz.func68 Tryz.ntmps68 rfl rfl hW

def pager_Pager_Used.H : Hints := { N := 22, loc := (fun _ => false), join := (fun _ => none), loop := (fun _ => none), ifc := 0, order := (fun _ => none) }
def pager_Pager_Used.W (p_b p_o : Nat) (id : Int) (h : Hp) (Q : Value → Hp → Prop) : Prop :=
  (bif hb (decide (id ≥ 0)) then (CallsH Tryz.prog 44 (#[.pointer (some ⟨p_b, p_o, none⟩)]) (h) (fun v1 h2 => ∃ n3, (v1 = .int .i64 n3) ∧ bif hb (decide (id < n3)) then ((0 ≤ id) ∧ (id < 128) ∧ ∃ b4, (h2.cell p_b (p_o + 134 + 5 + id.toNat * 1) = some (.bool b4)) ∧ Q (.bool b4) h2) else (Q (.bool false) h2))) else (Q (.bool false) h))
theorem pager_Pager_Used.calls (p_b p_o : Nat) (id : Int) {h : Hp} {Q : Value → Hp → Prop} (hW : pager_Pager_Used.W p_b p_o id h Q) : CallsH Tryz.prog 65 #[.pointer (some ⟨p_b, p_o, none⟩), .int .i64 id] h Q := by
  have hE_ : bodyW Tryz.prog pager_Pager_Used.H Tryz.f65 [.ptr p_b p_o, .val (.int .i64 id)] h Q = pager_Pager_Used.W p_b p_o id h Q := by kernel_rfl
  rw [← hE_] at hW
  exact calls_of_body (H := pager_Pager_Used.H) (args := [.ptr p_b p_o, .val (.int .i64 id)]) Tryz.func65 Tryz.ntmps65 rfl rfl hW

def pager_Pager_Write.H : Hints := { N := 23, loc := (fun _ => false), join := (fun _ => none), loop := (fun _ => none), ifc := 0, order := (fun _ => none) }
def pager_Pager_Write.W (p_b p_o : Nat) (id : Int) (s : ByteArray) (h : Hp) (Q : Value → Hp → Prop) : Prop :=
  (CallsH Tryz.prog 45 (#[.pointer (some ⟨p_b, p_o, none⟩), .int .i64 id]) (h) (fun v1 h2 => ∃ n3, (v1 = .int .i64 n3) ∧ bif hb (n3 != 0) then (Q (.int .i64 n3) h2) else (bif hb (Int.ofNat s.size != 1024) then (Q (.int .i64 1) h2) else (∃ (a4 : Option Nat), (h2.cell p_b (p_o + 267) = some (.map a4)) ∧ ∃ k5, ∃ (x6 : Obj), ∃ (xs7 : List (Value × Value)), (a4 = some k5) ∧ (h2 k5 = some x6) ∧ (MapObj Tryz.prog 3 x6 xs7) ∧ ∀ (x8 : Obj), (MapObj Tryz.prog 3 x8 (mset xs7 (.int .i64 id) (.string s))) → (Q (.int .i64 0) (h2.upd k5 x8))))))
theorem pager_Pager_Write.calls (p_b p_o : Nat) (id : Int) (s : ByteArray) {h : Hp} {Q : Value → Hp → Prop} (hW : pager_Pager_Write.W p_b p_o id s h Q) : CallsH Tryz.prog 10 #[.pointer (some ⟨p_b, p_o, none⟩), .int .i64 id, .string s] h Q := by
  have hE_ : bodyW Tryz.prog pager_Pager_Write.H Tryz.f10 [.ptr p_b p_o, .val (.int .i64 id), .val (.string s)] h Q = pager_Pager_Write.W p_b p_o id s h Q := by kernel_rfl
  rw [← hE_] at hW
  exact calls_of_body (H := pager_Pager_Write.H) (args := [.ptr p_b p_o, .val (.int .i64 id), .val (.string s)]) Tryz.func10 Tryz.ntmps10 rfl rfl hW

def pager_Pager_Give.H : Hints := { N := 30, loc := (fun _ => false), join := (fun _ => none), loop := (fun _ => none), ifc := 0, order := (fun _ => none) }
def pager_Pager_Give.W (p_b p_o : Nat) (id : Int) (h : Hp) (Q : Value → Hp → Prop) : Prop :=
  (CallsH Tryz.prog 45 (#[.pointer (some ⟨p_b, p_o, none⟩), .int .i64 id]) (h) (fun v1 h2 => ∃ n3, (v1 = .int .i64 n3) ∧ bif hb (n3 != 0) then (Q (.int .i64 n3) h2) else (∃ k4, ∃ k5, ((some ⟨p_b, p_o + 134 + 1, none⟩ : Option Addr) = some ⟨k4, k5, none⟩) ∧ CallsH Tryz.prog 99 (#[.slice (slA 4 0 1 (some ⟨k4, k5, none⟩)) 4 4, .int .i64 id]) (h2) (fun v6 h7 => ∃ b8, (v6 = .bool b8) ∧ bif b8 then (Q (.int .i64 8) h7) else ((0 ≤ id) ∧ (id < 128) ∧ (StoreOk h7 p_b (p_o + 134 + 5 + id.toNat * 1) 1) ∧ ∃ (a9 : Option Nat), ((h7.put p_b (p_o + 134 + 5 + id.toNat * 1) [.bool false]).cell p_b (p_o + 267) = some (.map a9)) ∧ ∃ k10, ∃ (x11 : Obj), ∃ (xs12 : List (Value × Value)), (a9 = some k10) ∧ (h7.put p_b (p_o + 134 + 5 + id.toNat * 1) [.bool false] k10 = some x11) ∧ (MapObj Tryz.prog 3 x11 xs12) ∧ ∀ (x13 : Obj), (MapObj Tryz.prog 3 x13 (mdel xs12 (.int .i64 id))) → (Q (.int .i64 0) ((h7.put p_b (p_o + 134 + 5 + id.toNat * 1) [.bool false]).upd k10 x13)))))))
theorem pager_Pager_Give.calls (p_b p_o : Nat) (id : Int) {h : Hp} {Q : Value → Hp → Prop} (hW : pager_Pager_Give.W p_b p_o id h Q) : CallsH Tryz.prog 58 #[.pointer (some ⟨p_b, p_o, none⟩), .int .i64 id] h Q := by
  have hE_ : bodyW Tryz.prog pager_Pager_Give.H Tryz.f58 [.ptr p_b p_o, .val (.int .i64 id)] h Q = pager_Pager_Give.W p_b p_o id h Q := by kernel_rfl
  rw [← hE_] at hW
  exact calls_of_body (H := pager_Pager_Give.H) (args := [.ptr p_b p_o, .val (.int .i64 id)]) Tryz.func58 Tryz.ntmps58 rfl rfl hW

def pager_Pager_Point.H : Hints := { N := 31, loc := (fun _ => false), join := (fun i => bif Nat.beq i 9 then some [] else none), loop := (fun _ => none), ifc := 0, order := (fun _ => none) }
def pager_Pager_Point.W (p_b p_o : Nat) (k : Int) (id : Int) (h : Hp) (Q : Value → Hp → Prop) : Prop :=
  (bif hb (decide (k < 0)) then (Q (.int .i64 9) h) else (bif hb (decide (k ≥ 4)) then (Q (.int .i64 9) h) else (∃ (J1 : Hp → Prop), (∀ (x2 : Hp), (J1 x2) → ((0 ≤ k) ∧ (k < 4) ∧ (StoreOk x2 p_b (p_o + 134 + 1 + k.toNat * 1) 1) ∧ Q (.int .i64 0) (x2.put p_b (p_o + 134 + 1 + k.toNat * 1) [.int .i64 id]))) ∧ bif hb (id != 0) then (CallsH Tryz.prog 45 (#[.pointer (some ⟨p_b, p_o, none⟩), .int .i64 id]) (h) (fun v3 h4 => ∃ n5, (v3 = .int .i64 n5) ∧ bif hb (n5 != 0) then (Q (.int .i64 n5) h4) else (J1 h4))) else (J1 h))))
theorem pager_Pager_Point.calls (p_b p_o : Nat) (k : Int) (id : Int) {h : Hp} {Q : Value → Hp → Prop} (hW : pager_Pager_Point.W p_b p_o k id h Q) : CallsH Tryz.prog 11 #[.pointer (some ⟨p_b, p_o, none⟩), .int .i64 k, .int .i64 id] h Q := by
  have hE_ : bodyW Tryz.prog pager_Pager_Point.H Tryz.f11 [.ptr p_b p_o, .val (.int .i64 k), .val (.int .i64 id)] h Q = pager_Pager_Point.W p_b p_o k id h Q := by kernel_rfl
  rw [← hE_] at hW
  exact calls_of_body (H := pager_Pager_Point.H) (args := [.ptr p_b p_o, .val (.int .i64 k), .val (.int .i64 id)]) Tryz.func11 Tryz.ntmps11 rfl rfl hW

def pager_Pager_Commit.H : Hints := { N := 93, loc := (fun _ => false), join := (fun i => bif Nat.beq i 23 then some [] else none), loop := (fun i => bif Nat.beq i 14 then some [.slot 7 (.slice), .slot 48 (.int .i64)] else none), ifc := 0, order := (fun _ => none) }
def pager_Pager_Commit.W (p_b p_o : Nat) (h : Hp) (Q : Value → Hp → Prop) : Prop :=
  (∃ a1, (h.cell p_b p_o = some (.pointer a1)) ∧ CallsH Tryz.prog 67 (#[.pointer a1, .int .i64 0]) (h) (fun v2 h3 => ∃ s4, ∃ n5, (v2 = .tuple #[.string s4, .int .i64 n5]) ∧ bif hb (n5 != 0) then (Q (.int .i64 n5) h3) else (CallsH Tryz.prog 68 (#[.pointer (some ⟨p_b, p_o, none⟩)]) (h3) (fun v6 h7 => ∃ a8, ∃ k9, ∃ k10, (v6 = .slice a8 k9 k10) ∧ ∃ (J11 : Hp → Prop), (∀ (x12 : Hp), (J11 x12) → (∃ (xs13 : List Value), (xs13.length = 133) ∧ (CellsAt x12 p_b (p_o + 134) xs13) ∧ ∀ (k14 : Nat), (x12 k14 = none) → (∀ (x15 : Obj), (MapObj Tryz.prog 3 x15 []) → ((xs13.length = 133) ∧ (plainP xs13) ∧ (StoreOk (x12.upd k14 x15) p_b (p_o + 1) xs13.length) ∧ (StoreOk ((x12.upd k14 x15).put p_b (p_o + 1) xs13) p_b (p_o + 267) 1) ∧ (StoreOk (((x12.upd k14 x15).put p_b (p_o + 1) xs13).put p_b (p_o + 267) [.map (some k14)]) p_b (p_o + 268) 1) ∧ Q (.int .i64 0) ((((x12.upd k14 x15).put p_b (p_o + 1) xs13).put p_b (p_o + 267) [.map (some k14)]).put p_b (p_o + 268) [.slice none 0 0]))))) ∧ bif hb (decide (Int.ofNat k9 > 0)) then (∃ n16, (h7.cell p_b (p_o + 134) = some (.int .u64 n16)) ∧ bif hb (n16 == 9223372036854775807) then (Q (.int .i64 5) h7) else (∃ (xs17 : List Value), (xs17.length = 133) ∧ (CellsAt h7 p_b (p_o + 134) xs17) ∧ ∀ (k18 : Nat), (h7 k18 = none) → ((xs17.length = 133) ∧ (plainP xs17) ∧ (StoreOk (h7.upd k18 (.cells (zeroL Tryz.prog 83).toArray 83 (0, 0))) k18 0 xs17.length) ∧ ∃ n19, (((h7.upd k18 (.cells (zeroL Tryz.prog 83).toArray 83 (0, 0))).put k18 0 xs17).cell k18 0 = some (.int .u64 n19)) ∧ (StoreOk ((h7.upd k18 (.cells (zeroL Tryz.prog 83).toArray 83 (0, 0))).put k18 0 xs17) k18 0 1) ∧ CallsH Tryz.prog 69 (#[.pointer (some ⟨k18, 0, none⟩)]) (((h7.upd k18 (.cells (zeroL Tryz.prog 83).toArray 83 (0, 0))).put k18 0 xs17).put k18 0 [.int .u64 (IntKind.u64.wrap (n19 + 1))]) (fun v20 h21 => ∃ s22, (v20 = .string s22) ∧ ∀ (k23 : Nat), (h21 k23 = none) → (∃ (J24 : Option Addr → Nat → Nat → Int → Hp → Nat → Prop), (∃ k25, J24 (some ⟨k23, 0, none⟩) 1 1 0 (h21.upd k23 (.cells #[.int .i64 0, .string s22] 122 (0, 0))) k25) ∧ ∀ (a26 : Option Addr), ∀ (k27 : Nat), ∀ (k28 : Nat), ∀ (n29 : Int), ∀ (x30 : Hp), ∀ (k31 : Nat), (J24 a26 k27 k28 n29 x30 k31) → (bif hb (decide (n29 < Int.ofNat k9)) then ((0 ≤ n29) ∧ (n29 < Int.ofNat k9) ∧ ∃ k32, ∃ k33, (a8 = some ⟨k32, k33, none⟩) ∧ ∃ n34, (x30.cell k32 (k33 + n29.toNat * 1) = some (.int .i64 n34)) ∧ bif hb (n34 != 0) then (∃ (a35 : Option Nat), (x30.cell p_b (p_o + 267) = some (.map a35)) ∧ ∃ k36, ∃ (x37 : Obj), ∃ (xs38 : List (Value × Value)), (a35 = some k36) ∧ (x30 k36 = some x37) ∧ (MapObj Tryz.prog 3 x37 xs38) ∧ ∃ s39, ∃ b40, (LookOk xs38 (.int .i64 n34) (.string (bytesL [])) (.string s39) b40) ∧ ∀ (k41 : Nat), (x30 k41 = none) → (∃ (xs42 : List Value), (SliceAt (x30.upd k41 (.cells #[.int .i64 n34, .string s39] 122 (0, 0))) (some ⟨k41, 0, none⟩) (2) (xs42)) ∧ ∃ (J43 : Option Addr → Nat → Hp → Prop), (∀ (a44 : Option Addr), ∀ (k45 : Nat), ∀ (x46 : Hp), (J43 a44 k45 x46) → (∃ k47, (k47 < k31) ∧ J24 a44 (k27 + 1) k45 (IntKind.i64.wrap (n29 + 1)) x46 k47)) ∧ appendC Tryz.prog 122 a26 k27 k28 (x30.upd k41 (.cells #[.int .i64 n34, .string s39] 122 (0, 0))) xs42 1 J43)) else (∃ k48, (k48 < k31) ∧ J24 a26 k27 k28 (IntKind.i64.wrap (n29 + 1)) x30 k48)) else (∃ a49, (x30.cell p_b p_o = some (.pointer a49)) ∧ CallsH Tryz.prog 70 (#[.pointer a49, .slice a26 k27 k28]) (x30) (fun v50 h51 => ∃ n52, (v50 = .int .i64 n52) ∧ bif hb (n52 != 0) then (Q (.int .i64 n52) h51) else (∃ (xs53 : List Value), (xs53.length = 133) ∧ (CellsAt h51 k18 0 xs53) ∧ (xs53.length = 133) ∧ (plainP xs53) ∧ (StoreOk h51 p_b (p_o + 134) xs53.length) ∧ J11 (h51.put p_b (p_o + 134) xs53)))))))))) else (J11 h7)))))
theorem pager_Pager_Commit.calls (p_b p_o : Nat) {h : Hp} {Q : Value → Hp → Prop} (hW : pager_Pager_Commit.W p_b p_o h Q) : CallsH Tryz.prog 28 #[.pointer (some ⟨p_b, p_o, none⟩)] h Q := by
  have hE_ : bodyW Tryz.prog pager_Pager_Commit.H Tryz.f28 [.ptr p_b p_o] h Q = pager_Pager_Commit.W p_b p_o h Q := by kernel_rfl
  rw [← hE_] at hW
  exact calls_of_body (H := pager_Pager_Commit.H) (args := [.ptr p_b p_o]) Tryz.func28 Tryz.ntmps28 rfl rfl hW

def pager_read.H : Hints := { N := 126, loc := (fun _ => false), join := (fun _ => none), loop := (fun i => bif Nat.beq i 7 then some [.slot 21 (.int .i64)] else bif Nat.beq i 13 then some [.slot 38 (.int .i64)] else bif Nat.beq i 19 then some [.slot 64 (.int .i64)] else bif Nat.beq i 26 then some [.slot 94 (.int .i64)] else none), ifc := 0, order := (fun i => bif Nat.beq i 9 then some (some 11, false, [0, 1, 2, 3, 4, 5, 6, 7, 8, 9, 10, 11], .q 0 (.q 1 (.q 2 (.q 3 (.q 4 (.q 5 (.q 6 (.q 7 (.q 8 (.q 9 (.q 10 (.f 11 (.done) .e)))))))))))) else bif Nat.beq i 15 then some (some 20, false, [0, 1, 2, 3, 4, 5, 6, 7, 8, 9, 10, 11, 12, 13, 14, 15, 16, 17, 18, 19, 20], .q 0 (.q 1 (.q 2 (.q 3 (.q 4 (.q 5 (.q 6 (.q 7 (.q 8 (.q 9 (.q 10 (.q 11 (.q 12 (.q 13 (.q 14 (.q 15 (.q 16 (.q 17 (.q 18 (.q 19 (.f 20 (.done) .e))))))))))))))))))))) else bif Nat.beq i 31 then some (some 14, false, [0, 1, 2, 3, 4, 5, 6, 7, 8, 9, 11, 10, 12, 13, 14, 15], .q 0 (.q 1 (.q 2 (.q 3 (.q 4 (.q 5 (.q 6 (.q 7 (.q 8 (.q 9 (.q 11 (.f 10 (.q 12 (.q 13 (.f 14 (.q 15 .done) .e))) .e)))))))))))) else none) }
def pager_read.W (b : ByteArray) (pages : Int) (h : Hp) (Q : Value → Hp → Prop) : Prop :=
  (∀ (k1 : Nat), ((h k1 = none) → (∀ (k2 : Nat), ((h.upd k1 (.cells (zeroL Tryz.prog 83).toArray 83 (0, 0)) k2 = none) → (((zeroL Tryz.prog 83).length = 133) ∧ (plainP (zeroL Tryz.prog 83)) ∧ (StoreOk ((h.upd k1 (.cells (zeroL Tryz.prog 83).toArray 83 (0, 0))).upd k2 (.cells (zeroL Tryz.prog 83).toArray 83 (0, 0))) k2 0 (zeroL Tryz.prog 83).length) ∧ (StoreOk (((h.upd k1 (.cells (zeroL Tryz.prog 83).toArray 83 (0, 0))).upd k2 (.cells (zeroL Tryz.prog 83).toArray 83 (0, 0))).put k2 0 (zeroL Tryz.prog 83)) k2 5 1) ∧ (Int.ofNat 0 ≤ 1024) ∧ (Int.ofNat 1024 ≤ 1024) ∧ (Int.ofNat 1 * 1024 ≤ 281474976710656) ∧ (Int.ofNat 1024 ≤ 9223372036854775807) ∧ ∀ (k3 : Nat), (((((h.upd k1 (.cells (zeroL Tryz.prog 83).toArray 83 (0, 0))).upd k2 (.cells (zeroL Tryz.prog 83).toArray 83 (0, 0))).put k2 0 (zeroL Tryz.prog 83)).put k2 5 [.bool true] k3 = none) → (∃ s4, (SliceAt (((((h.upd k1 (.cells (zeroL Tryz.prog 83).toArray 83 (0, 0))).upd k2 (.cells (zeroL Tryz.prog 83).toArray 83 (0, 0))).put k2 0 (zeroL Tryz.prog 83)).put k2 5 [.bool true]).upd k3 (.cells (repV 1024 [.int .u8 0]).toArray 5 (0, 0))) (some ⟨k3, 0, none⟩) (1024) (bytesV s4)) ∧ bif beqS b s4 then (∃ (xs5 : List Value), (xs5.length = 133) ∧ (CellsAt (((((h.upd k1 (.cells (zeroL Tryz.prog 83).toArray 83 (0, 0))).upd k2 (.cells (zeroL Tryz.prog 83).toArray 83 (0, 0))).put k2 0 (zeroL Tryz.prog 83)).put k2 5 [.bool true]).upd k3 (.cells (repV 1024 [.int .u8 0]).toArray 5 (0, 0))) k2 0 xs5) ∧ (xs5.length = 133) ∧ (plainP xs5) ∧ (StoreOk (((((h.upd k1 (.cells (zeroL Tryz.prog 83).toArray 83 (0, 0))).upd k2 (.cells (zeroL Tryz.prog 83).toArray 83 (0, 0))).put k2 0 (zeroL Tryz.prog 83)).put k2 5 [.bool true]).upd k3 (.cells (repV 1024 [.int .u8 0]).toArray 5 (0, 0))) k1 0 xs5.length) ∧ ∃ (xs6 : List Value), (xs6.length = 133) ∧ (CellsAt ((((((h.upd k1 (.cells (zeroL Tryz.prog 83).toArray 83 (0, 0))).upd k2 (.cells (zeroL Tryz.prog 83).toArray 83 (0, 0))).put k2 0 (zeroL Tryz.prog 83)).put k2 5 [.bool true]).upd k3 (.cells (repV 1024 [.int .u8 0]).toArray 5 (0, 0))).put k1 0 xs5) k1 0 xs6) ∧ Q (.tuple #[.agg xs6.toArray, .bool true]) ((((((h.upd k1 (.cells (zeroL Tryz.prog 83).toArray 83 (0, 0))).upd k2 (.cells (zeroL Tryz.prog 83).toArray 83 (0, 0))).put k2 0 (zeroL Tryz.prog 83)).put k2 5 [.bool true]).upd k3 (.cells (repV 1024 [.int .u8 0]).toArray 5 (0, 0))).put k1 0 xs5)) else (∃ (J7 : Int → Hp → Nat → Prop), (∃ k8, J7 0 (((((h.upd k1 (.cells (zeroL Tryz.prog 83).toArray 83 (0, 0))).upd k2 (.cells (zeroL Tryz.prog 83).toArray 83 (0, 0))).put k2 0 (zeroL Tryz.prog 83)).put k2 5 [.bool true]).upd k3 (.cells (repV 1024 [.int .u8 0]).toArray 5 (0, 0))) k8) ∧ ∀ (n9 : Int), ∀ (x10 : Hp), ∀ (k11 : Nat), (J7 n9 x10 k11) → (bif hb (decide (n9 < 8)) then (∃ n12, (x10.cell k2 0 = some (.int .u64 n12)) ∧ (Int.ofNat 0 ≤ 8) ∧ (0 ≤ IntKind.i64.wrap (10 + n9)) ∧ (IntKind.i64.wrap (10 + n9) < Int.ofNat b.size) ∧ (StoreOk x10 k2 0 1) ∧ ∃ k13, (k13 < k11) ∧ J7 (IntKind.i64.wrap (n9 + 1)) (x10.put k2 0 [.int .u64 (IntKind.u64.wrap (ior IntKind.u64 (IntKind.u64.wrap (ishl IntKind.u64 n12 8)) (IntKind.u64.wrap (byteAt b (IntKind.i64.wrap (10 + n9)).toNat))))]) k13) else (∃ (J14 : Int → Hp → Nat → Prop), (∃ k15, J14 0 x10 k15) ∧ ∀ (n16 : Int), ∀ (x17 : Hp), ∀ (k18 : Nat), (J14 n16 x17 k18) → (bif hb (decide (n16 < 4)) then ((0 ≤ IntKind.i64.wrap (IntKind.i64.wrap (Int.ofNat 10 + 8) + IntKind.i64.wrap (2 * n16))) ∧ (IntKind.i64.wrap (IntKind.i64.wrap (Int.ofNat 10 + 8) + IntKind.i64.wrap (2 * n16)) < Int.ofNat b.size) ∧ (Int.ofNat 0 ≤ 8) ∧ (0 ≤ IntKind.i64.wrap (IntKind.i64.wrap (IntKind.i64.wrap (Int.ofNat 10 + 8) + IntKind.i64.wrap (2 * n16)) + 1)) ∧ (IntKind.i64.wrap (IntKind.i64.wrap (IntKind.i64.wrap (Int.ofNat 10 + 8) + IntKind.i64.wrap (2 * n16)) + 1) < Int.ofNat b.size) ∧ (0 ≤ n16) ∧ (n16 < 4) ∧ (StoreOk x17 k2 (1 + n16.toNat * 1) 1) ∧ ∃ k19, (k19 < k18) ∧ J14 (IntKind.i64.wrap (n16 + 1)) (x17.put k2 (1 + n16.toNat * 1) [.int .i64 (IntKind.i64.wrap (ior IntKind.i64 (IntKind.i64.wrap (ishl IntKind.i64 (IntKind.i64.wrap (byteAt b (IntKind.i64.wrap (IntKind.i64.wrap (Int.ofNat 10 + 8) + IntKind.i64.wrap (2 * n16))).toNat)) 8)) (IntKind.i64.wrap (byteAt b (IntKind.i64.wrap (IntKind.i64.wrap (IntKind.i64.wrap (Int.ofNat 10 + 8) + IntKind.i64.wrap (2 * n16)) + 1)).toNat))))]) k19) else (∃ (J20 : Int → Hp → Nat → Prop), (∃ k21, J20 0 x17 k21) ∧ ∀ (n22 : Int), ∀ (x23 : Hp), ∀ (k24 : Nat), (J20 n22 x23 k24) → (bif hb (decide (n22 < 128)) then ((((8 : Int) = 0) → False) ∧ (0 ≤ IntKind.i64.wrap (IntKind.i64.wrap (IntKind.i64.wrap (Int.ofNat 10 + 8) + 8) + IntKind.i64.wrap (n22.tdiv 8))) ∧ (IntKind.i64.wrap (IntKind.i64.wrap (IntKind.i64.wrap (Int.ofNat 10 + 8) + 8) + IntKind.i64.wrap (n22.tdiv 8)) < Int.ofNat b.size) ∧ (((8 : Int) = 0) → False) ∧ (0 ≤ n22.tmod 8) ∧ (0 ≤ n22) ∧ (n22 < 128) ∧ (StoreOk x23 k2 (5 + n22.toNat * 1) 1) ∧ (0 ≤ n22) ∧ (n22 < 128) ∧ ∃ b25, ((x23.put k2 (5 + n22.toNat * 1) [.bool (hb (IntKind.u8.wrap (iand IntKind.u8 (ishr IntKind.u8 (byteAt b (IntKind.i64.wrap (IntKind.i64.wrap (IntKind.i64.wrap (Int.ofNat 10 + 8) + 8) + IntKind.i64.wrap (n22.tdiv 8))).toNat) (n22.tmod 8)) 1) == 1))]).cell k2 (5 + n22.toNat * 1) = some (.bool b25)) ∧ bif b25 then (bif hb (decide (n22 ≥ pages)) then (((zeroL Tryz.prog 83).length = 133) ∧ (plainP (zeroL Tryz.prog 83)) ∧ (StoreOk (x23.put k2 (5 + n22.toNat * 1) [.bool (hb (IntKind.u8.wrap (iand IntKind.u8 (ishr IntKind.u8 (byteAt b (IntKind.i64.wrap (IntKind.i64.wrap (IntKind.i64.wrap (Int.ofNat 10 + 8) + 8) + IntKind.i64.wrap (n22.tdiv 8))).toNat) (n22.tmod 8)) 1) == 1))]) k1 0 (zeroL Tryz.prog 83).length) ∧ ∃ (xs26 : List Value), (xs26.length = 133) ∧ (CellsAt ((x23.put k2 (5 + n22.toNat * 1) [.bool (hb (IntKind.u8.wrap (iand IntKind.u8 (ishr IntKind.u8 (byteAt b (IntKind.i64.wrap (IntKind.i64.wrap (IntKind.i64.wrap (Int.ofNat 10 + 8) + 8) + IntKind.i64.wrap (n22.tdiv 8))).toNat) (n22.tmod 8)) 1) == 1))]).put k1 0 (zeroL Tryz.prog 83)) k1 0 xs26) ∧ Q (.tuple #[.agg xs26.toArray, .bool false]) ((x23.put k2 (5 + n22.toNat * 1) [.bool (hb (IntKind.u8.wrap (iand IntKind.u8 (ishr IntKind.u8 (byteAt b (IntKind.i64.wrap (IntKind.i64.wrap (IntKind.i64.wrap (Int.ofNat 10 + 8) + 8) + IntKind.i64.wrap (n22.tdiv 8))).toNat) (n22.tmod 8)) 1) == 1))]).put k1 0 (zeroL Tryz.prog 83))) else (∃ k27, (k27 < k24) ∧ J20 (IntKind.i64.wrap (n22 + 1)) (x23.put k2 (5 + n22.toNat * 1) [.bool (hb (IntKind.u8.wrap (iand IntKind.u8 (ishr IntKind.u8 (byteAt b (IntKind.i64.wrap (IntKind.i64.wrap (IntKind.i64.wrap (Int.ofNat 10 + 8) + 8) + IntKind.i64.wrap (n22.tdiv 8))).toNat) (n22.tmod 8)) 1) == 1))]) k27)) else (∃ k28, (k28 < k24) ∧ J20 (IntKind.i64.wrap (n22 + 1)) (x23.put k2 (5 + n22.toNat * 1) [.bool (hb (IntKind.u8.wrap (iand IntKind.u8 (ishr IntKind.u8 (byteAt b (IntKind.i64.wrap (IntKind.i64.wrap (IntKind.i64.wrap (Int.ofNat 10 + 8) + 8) + IntKind.i64.wrap (n22.tdiv 8))).toNat) (n22.tmod 8)) 1) == 1))]) k28)) else (∃ n29, (x23.cell k2 1 = some (.int .i64 n29)) ∧ ∃ n30, (x23.cell k2 2 = some (.int .i64 n30)) ∧ ∃ n31, (x23.cell k2 3 = some (.int .i64 n31)) ∧ ∃ n32, (x23.cell k2 4 = some (.int .i64 n32)) ∧ ∃ (J33 : Int → Hp → Nat → Prop), (∃ k34, J33 0 x23 k34) ∧ ∀ (n35 : Int), ∀ (x36 : Hp), ∀ (k37 : Nat), (J33 n35 x36 k37) → (bif hb (decide (n35 < 4)) then ((0 ≤ n35) ∧ (n35 < 4) ∧ ∃ n38, (lget [.int .i64 n29, .int .i64 n30, .int .i64 n31, .int .i64 n32] (n35.toNat * 1) = some (.int .i64 n38)) ∧ bif hb (decide (n38 ≥ 128)) then (((zeroL Tryz.prog 83).length = 133) ∧ (plainP (zeroL Tryz.prog 83)) ∧ (StoreOk x36 k1 0 (zeroL Tryz.prog 83).length) ∧ ∃ (xs39 : List Value), (xs39.length = 133) ∧ (CellsAt (x36.put k1 0 (zeroL Tryz.prog 83)) k1 0 xs39) ∧ Q (.tuple #[.agg xs39.toArray, .bool false]) (x36.put k1 0 (zeroL Tryz.prog 83))) else (bif hb (n38 != 0) then ((0 ≤ n38) ∧ (n38 < 128) ∧ ∃ b40, (x36.cell k2 (5 + n38.toNat * 1) = some (.bool b40)) ∧ bif !b40 then (((zeroL Tryz.prog 83).length = 133) ∧ (plainP (zeroL Tryz.prog 83)) ∧ (StoreOk x36 k1 0 (zeroL Tryz.prog 83).length) ∧ ∃ (xs41 : List Value), (xs41.length = 133) ∧ (CellsAt (x36.put k1 0 (zeroL Tryz.prog 83)) k1 0 xs41) ∧ Q (.tuple #[.agg xs41.toArray, .bool false]) (x36.put k1 0 (zeroL Tryz.prog 83))) else (∃ k42, (k42 < k37) ∧ J33 (IntKind.i64.wrap (n35 + 1)) x36 k42)) else (∃ k43, (k43 < k37) ∧ J33 (IntKind.i64.wrap (n35 + 1)) x36 k43))) else (∃ (xs44 : List Value), (xs44.length = 133) ∧ (CellsAt x36 k2 0 xs44) ∧ ∃ b45, (x36.cell k2 5 = some (.bool b45)) ∧ bif b45 then (∃ n46, (x36.cell k2 0 = some (.int .u64 n46)) ∧ bif hb (decide (n46 ≤ 9223372036854775807)) then (CallsH Tryz.prog 69 (#[.pointer (some ⟨k2, 0, none⟩)]) (x36) (fun v47 h48 => ∃ s49, (v47 = .string s49) ∧ (Gx.Sub x36 h48) ∧ (xs44.length = 133) ∧ (plainP xs44) ∧ (StoreOk h48 k1 0 xs44.length) ∧ ∃ (xs50 : List Value), (xs50.length = 133) ∧ (CellsAt (h48.put k1 0 xs44) k1 0 xs50) ∧ Q (.tuple #[.agg xs50.toArray, .bool (beqS s49 b)]) (h48.put k1 0 xs44))) else ((Gx.Sub x36 x36) ∧ (xs44.length = 133) ∧ (plainP xs44) ∧ (StoreOk x36 k1 0 xs44.length) ∧ ∃ (xs51 : List Value), (xs51.length = 133) ∧ (CellsAt (x36.put k1 0 xs44) k1 0 xs51) ∧ Q (.tuple #[.agg xs51.toArray, .bool false]) (x36.put k1 0 xs44))) else ((Gx.Sub x36 x36) ∧ (xs44.length = 133) ∧ (plainP xs44) ∧ (StoreOk x36 k1 0 xs44.length) ∧ ∃ (xs52 : List Value), (xs52.length = 133) ∧ (CellsAt (x36.put k1 0 xs44) k1 0 xs52) ∧ Q (.tuple #[.agg xs52.toArray, .bool false]) (x36.put k1 0 xs44))))))))))))))))))
theorem pager_read.calls (b : ByteArray) (pages : Int) {h : Hp} {Q : Value → Hp → Prop} (hW : pager_read.W b pages h Q) : CallsH Tryz.prog 84 #[.string b, .int .i64 pages] h Q := by
  have hE_ : bodyW Tryz.prog pager_read.H Tryz.f84 [.val (.string b), .val (.int .i64 pages)] h Q = pager_read.W b pages h Q := by kernel_rfl
  rw [← hE_] at hW
  exact calls_of_body (H := pager_read.H) (args := [.val (.string b), .val (.int .i64 pages)]) Tryz.func84 Tryz.ntmps84 rfl rfl hW

def pager_Pager_use.H : Hints := { N := 26, loc := (fun _ => false), join := (fun _ => none), loop := (fun _ => none), ifc := 0, order := (fun _ => none) }
def pager_Pager_use.W (p_b p_o : Nat) (id : Int) (h : Hp) (Q : Value → Hp → Prop) : Prop :=
  (bif hb (decide (id < 1)) then (Q (.int .i64 9) h) else (CallsH Tryz.prog 44 (#[.pointer (some ⟨p_b, p_o, none⟩)]) (h) (fun v1 h2 => ∃ n3, (v1 = .int .i64 n3) ∧ bif hb (decide (id ≥ n3)) then (Q (.int .i64 9) h2) else ((0 ≤ id) ∧ (id < 128) ∧ ∃ b4, (h2.cell p_b (p_o + 134 + 5 + id.toNat * 1) = some (.bool b4)) ∧ bif !b4 then (Q (.int .i64 6) h2) else (Q (.int .i64 0) h2)))))
theorem pager_Pager_use.calls (p_b p_o : Nat) (id : Int) {h : Hp} {Q : Value → Hp → Prop} (hW : pager_Pager_use.W p_b p_o id h Q) : CallsH Tryz.prog 45 #[.pointer (some ⟨p_b, p_o, none⟩), .int .i64 id] h Q := by
  have hE_ : bodyW Tryz.prog pager_Pager_use.H Tryz.f45 [.ptr p_b p_o, .val (.int .i64 id)] h Q = pager_Pager_use.W p_b p_o id h Q := by kernel_rfl
  rw [← hE_] at hW
  exact calls_of_body (H := pager_Pager_use.H) (args := [.ptr p_b p_o, .val (.int .i64 id)]) Tryz.func45 Tryz.ntmps45 rfl rfl hW

def pager_head_bytes.H : Hints := { N := 86, loc := (fun _ => false), join := (fun _ => none), loop := (fun i => bif Nat.beq i 4 then some [.slot 13 (.int .i64)] else bif Nat.beq i 10 then some [.slot 37 (.int .i64)] else bif Nat.beq i 16 then some [.slot 66 (.int .i64)] else none), ifc := 0, order := (fun i => bif Nat.beq i 19 then some (some 12, false, [0, 1, 2, 3, 4, 5, 6, 7, 8, 9, 10, 11, 12], .q 0 (.q 1 (.q 2 (.q 3 (.q 4 (.q 5 (.q 6 (.q 7 (.q 8 (.q 9 (.q 10 (.q 11 (.f 12 (.done) .e))))))))))))) else none) }
def pager_head_bytes.W (p0_b p0_o : Nat) (h : Hp) (Q : Value → Hp → Prop) : Prop :=
  ((Int.ofNat 0 ≤ 1024) ∧ (Int.ofNat 1024 ≤ 1024) ∧ (Int.ofNat 1 * 1024 ≤ 281474976710656) ∧ (Int.ofNat 1024 ≤ 9223372036854775807) ∧ ∀ (k1 : Nat), ((h k1 = none) → (∃ (J2 : Hp → Prop), (∀ (x3 : Hp), (J2 x3) → (∃ (J4 : Int → Hp → Nat → Prop), (∃ k5, J4 0 x3 k5) ∧ ∀ (n6 : Int), ∀ (x7 : Hp), ∀ (k8 : Nat), (J4 n6 x7 k8) → (bif hb (decide (n6 < 8)) then (∃ n9, (x7.cell p0_b p0_o = some (.int .u64 n9)) ∧ (0 ≤ IntKind.i64.wrap (56 - IntKind.i64.wrap (8 * n6))) ∧ (0 ≤ IntKind.i64.wrap (cpyN (bytesL [115, 116, 114, 111, 110, 103, 114, 111, 111, 109]) 1024 + n6)) ∧ (IntKind.i64.wrap (cpyN (bytesL [115, 116, 114, 111, 110, 103, 114, 111, 111, 109]) 1024 + n6) < 1024) ∧ ∃ k10, ∃ k11, ((some ⟨k1, 0, none⟩ : Option Addr) = some ⟨k10, k11, none⟩) ∧ (StoreOk x7 k10 (k11 + (IntKind.i64.wrap (cpyN (bytesL [115, 116, 114, 111, 110, 103, 114, 111, 111, 109]) 1024 + n6)).toNat * 1) 1) ∧ ∃ k12, (k12 < k8) ∧ J4 (IntKind.i64.wrap (n6 + 1)) (x7.put k10 (k11 + (IntKind.i64.wrap (cpyN (bytesL [115, 116, 114, 111, 110, 103, 114, 111, 111, 109]) 1024 + n6)).toNat * 1) [.int .u8 (IntKind.u8.wrap (ishr IntKind.u64 n9 (IntKind.i64.wrap (56 - IntKind.i64.wrap (8 * n6)))))]) k12) else (∃ n13, (x7.cell p0_b (p0_o + 1) = some (.int .i64 n13)) ∧ ∃ n14, (x7.cell p0_b (p0_o + 1 + 1) = some (.int .i64 n14)) ∧ ∃ n15, (x7.cell p0_b (p0_o + 1 + 1 + 1) = some (.int .i64 n15)) ∧ ∃ n16, (x7.cell p0_b (p0_o + 1 + 1 + 1 + 1) = some (.int .i64 n16)) ∧ ∃ (J17 : Int → Hp → Nat → Prop), (∃ k18, J17 0 x7 k18) ∧ ∀ (n19 : Int), ∀ (x20 : Hp), ∀ (k21 : Nat), (J17 n19 x20 k21) → (bif hb (decide (n19 < 4)) then ((0 ≤ n19) ∧ (n19 < 4) ∧ ∃ n22, (lget [.int .i64 n13, .int .i64 n14, .int .i64 n15, .int .i64 n16] (n19.toNat * 1) = some (.int .i64 n22)) ∧ (Int.ofNat 0 ≤ 8) ∧ (0 ≤ IntKind.i64.wrap (IntKind.i64.wrap (cpyN (bytesL [115, 116, 114, 111, 110, 103, 114, 111, 111, 109]) 1024 + 8) + IntKind.i64.wrap (2 * n19))) ∧ (IntKind.i64.wrap (IntKind.i64.wrap (cpyN (bytesL [115, 116, 114, 111, 110, 103, 114, 111, 111, 109]) 1024 + 8) + IntKind.i64.wrap (2 * n19)) < 1024) ∧ ∃ k23, ∃ k24, ((some ⟨k1, 0, none⟩ : Option Addr) = some ⟨k23, k24, none⟩) ∧ (StoreOk x20 k23 (k24 + (IntKind.i64.wrap (IntKind.i64.wrap (cpyN (bytesL [115, 116, 114, 111, 110, 103, 114, 111, 111, 109]) 1024 + 8) + IntKind.i64.wrap (2 * n19))).toNat * 1) 1) ∧ (0 ≤ IntKind.i64.wrap (IntKind.i64.wrap (IntKind.i64.wrap (cpyN (bytesL [115, 116, 114, 111, 110, 103, 114, 111, 111, 109]) 1024 + 8) + IntKind.i64.wrap (2 * n19)) + 1)) ∧ (IntKind.i64.wrap (IntKind.i64.wrap (IntKind.i64.wrap (cpyN (bytesL [115, 116, 114, 111, 110, 103, 114, 111, 111, 109]) 1024 + 8) + IntKind.i64.wrap (2 * n19)) + 1) < 1024) ∧ ∃ k25, ∃ k26, ((some ⟨k1, 0, none⟩ : Option Addr) = some ⟨k25, k26, none⟩) ∧ (StoreOk (x20.put k23 (k24 + (IntKind.i64.wrap (IntKind.i64.wrap (cpyN (bytesL [115, 116, 114, 111, 110, 103, 114, 111, 111, 109]) 1024 + 8) + IntKind.i64.wrap (2 * n19))).toNat * 1) [.int .u8 (IntKind.u8.wrap (ishr IntKind.i64 n22 8))]) k25 (k26 + (IntKind.i64.wrap (IntKind.i64.wrap (IntKind.i64.wrap (cpyN (bytesL [115, 116, 114, 111, 110, 103, 114, 111, 111, 109]) 1024 + 8) + IntKind.i64.wrap (2 * n19)) + 1)).toNat * 1) 1) ∧ ∃ k27, (k27 < k21) ∧ J17 (IntKind.i64.wrap (n19 + 1)) ((x20.put k23 (k24 + (IntKind.i64.wrap (IntKind.i64.wrap (cpyN (bytesL [115, 116, 114, 111, 110, 103, 114, 111, 111, 109]) 1024 + 8) + IntKind.i64.wrap (2 * n19))).toNat * 1) [.int .u8 (IntKind.u8.wrap (ishr IntKind.i64 n22 8))]).put k25 (k26 + (IntKind.i64.wrap (IntKind.i64.wrap (IntKind.i64.wrap (cpyN (bytesL [115, 116, 114, 111, 110, 103, 114, 111, 111, 109]) 1024 + 8) + IntKind.i64.wrap (2 * n19)) + 1)).toNat * 1) [.int .u8 (IntKind.u8.wrap n22)]) k27) else (∃ (xs28 : List Value), (xs28.length = 128) ∧ (CellsAt x20 p0_b (p0_o + 5) xs28) ∧ ∃ (J29 : Int → Hp → Nat → Prop), (∃ k30, J29 0 x20 k30) ∧ ∀ (n31 : Int), ∀ (x32 : Hp), ∀ (k33 : Nat), (J29 n31 x32 k33) → (bif hb (decide (n31 < 128)) then ((0 ≤ n31) ∧ (n31 < 128) ∧ ∃ b34, (lget xs28 (n31.toNat * 1) = some (.bool b34)) ∧ bif b34 then ((((8 : Int) = 0) → False) ∧ (0 ≤ IntKind.i64.wrap (IntKind.i64.wrap (IntKind.i64.wrap (cpyN (bytesL [115, 116, 114, 111, 110, 103, 114, 111, 111, 109]) 1024 + 8) + 8) + IntKind.i64.wrap (n31.tdiv 8))) ∧ (IntKind.i64.wrap (IntKind.i64.wrap (IntKind.i64.wrap (cpyN (bytesL [115, 116, 114, 111, 110, 103, 114, 111, 111, 109]) 1024 + 8) + 8) + IntKind.i64.wrap (n31.tdiv 8)) < 1024) ∧ ∃ k35, ∃ k36, ((some ⟨k1, 0, none⟩ : Option Addr) = some ⟨k35, k36, none⟩) ∧ ∃ n37, (x32.cell k35 (k36 + (IntKind.i64.wrap (IntKind.i64.wrap (IntKind.i64.wrap (cpyN (bytesL [115, 116, 114, 111, 110, 103, 114, 111, 111, 109]) 1024 + 8) + 8) + IntKind.i64.wrap (n31.tdiv 8))).toNat * 1) = some (.int .u8 n37)) ∧ (((8 : Int) = 0) → False) ∧ (0 ≤ n31.tmod 8) ∧ (0 ≤ IntKind.i64.wrap (IntKind.i64.wrap (IntKind.i64.wrap (cpyN (bytesL [115, 116, 114, 111, 110, 103, 114, 111, 111, 109]) 1024 + 8) + 8) + IntKind.i64.wrap (n31.tdiv 8))) ∧ (IntKind.i64.wrap (IntKind.i64.wrap (IntKind.i64.wrap (cpyN (bytesL [115, 116, 114, 111, 110, 103, 114, 111, 111, 109]) 1024 + 8) + 8) + IntKind.i64.wrap (n31.tdiv 8)) < 1024) ∧ ∃ k38, ∃ k39, ((some ⟨k1, 0, none⟩ : Option Addr) = some ⟨k38, k39, none⟩) ∧ (StoreOk x32 k38 (k39 + (IntKind.i64.wrap (IntKind.i64.wrap (IntKind.i64.wrap (cpyN (bytesL [115, 116, 114, 111, 110, 103, 114, 111, 111, 109]) 1024 + 8) + 8) + IntKind.i64.wrap (n31.tdiv 8))).toNat * 1) 1) ∧ ∃ k40, (k40 < k33) ∧ J29 (IntKind.i64.wrap (n31 + 1)) (x32.put k38 (k39 + (IntKind.i64.wrap (IntKind.i64.wrap (IntKind.i64.wrap (cpyN (bytesL [115, 116, 114, 111, 110, 103, 114, 111, 111, 109]) 1024 + 8) + 8) + IntKind.i64.wrap (n31.tdiv 8))).toNat * 1) [.int .u8 (IntKind.u8.wrap (ior IntKind.u8 n37 (IntKind.u8.wrap (ishl IntKind.u8 1 (n31.tmod 8)))))]) k40) else (∃ k41, (k41 < k33) ∧ J29 (IntKind.i64.wrap (n31 + 1)) x32 k41)) else (∃ s42, (SliceAt (x32) (some ⟨k1, 0, none⟩) (1024) (bytesV s42)) ∧ Q (.string s42) x32)))))))) ∧ copyC (h.upd k1 (.cells (repV 1024 [.int .u8 0]).toArray 5 (0, 0))) (some ⟨k1, 0, none⟩) (cpyV (bytesL [115, 116, 114, 111, 110, 103, 114, 111, 111, 109]) 1024) J2)))
theorem pager_head_bytes.calls (p0_b p0_o : Nat) {h : Hp} {Q : Value → Hp → Prop} (hW : pager_head_bytes.W p0_b p0_o h Q) : CallsH Tryz.prog 69 #[.pointer (some ⟨p0_b, p0_o, none⟩)] h Q := by
  have hE_ : bodyW Tryz.prog pager_head_bytes.H Tryz.f69 [.ptr p0_b p0_o] h Q = pager_head_bytes.W p0_b p0_o h Q := by kernel_rfl
  rw [← hE_] at hW
  exact calls_of_body (H := pager_head_bytes.H) (args := [.ptr p0_b p0_o]) Tryz.func69 Tryz.ntmps69 rfl rfl hW

def slices_Contains_int_int_.H : Hints := { N := 9, loc := (fun _ => false), join := (fun _ => none), loop := (fun _ => none), ifc := 0, order := (fun _ => none) }
def slices_Contains_int_int_.W (sa : Option Addr) (sl sc : Nat) (v : Int) (h : Hp) (Q : Value → Hp → Prop) : Prop :=
  (CallsH Tryz.prog 124 (#[.slice sa sl sc, .int .i64 v]) (h) (fun v1 h2 => ∃ n3, (v1 = .int .i64 n3) ∧ Q (.bool (hb (decide (n3 ≥ 0)))) h2))
theorem slices_Contains_int_int_.calls (sa : Option Addr) (sl sc : Nat) (v : Int) {h : Hp} {Q : Value → Hp → Prop} (hW : slices_Contains_int_int_.W sa sl sc v h Q) : CallsH Tryz.prog 99 #[.slice sa sl sc, .int .i64 v] h Q := by
  have hE_ : bodyW Tryz.prog slices_Contains_int_int_.H Tryz.f99 [.val (.slice sa sl sc), .val (.int .i64 v)] h Q = slices_Contains_int_int_.W sa sl sc v h Q := by kernel_rfl
  rw [← hE_] at hW
  exact calls_of_body (H := slices_Contains_int_int_.H) (args := [.val (.slice sa sl sc), .val (.int .i64 v)]) Tryz.func99 Tryz.ntmps99 rfl rfl hW

def slices_Index_int_int_.H : Hints := { N := 19, loc := (fun _ => false), join := (fun _ => none), loop := (fun i => bif Nat.beq i 2 then some [.slot 8 (.int .i64)] else none), ifc := 0, order := (fun _ => none) }
def slices_Index_int_int_.W (sa : Option Addr) (sl sc : Nat) (v : Int) (h : Hp) (Q : Value → Hp → Prop) : Prop :=
  (∃ (J1 : Int → Hp → Nat → Prop), (∃ k2, J1 0 h k2) ∧ ∀ (n3 : Int), ∀ (x4 : Hp), ∀ (k5 : Nat), (J1 n3 x4 k5) → (bif hb (decide (n3 < Int.ofNat sl)) then ((0 ≤ n3) ∧ (n3 < Int.ofNat sl) ∧ ∃ k6, ∃ k7, (sa = some ⟨k6, k7, none⟩) ∧ ∃ n8, (x4.cell k6 (k7 + n3.toNat * 1) = some (.int .i64 n8)) ∧ bif hb (v == n8) then (Q (.int .i64 n3) x4) else (∃ k9, (k9 < k5) ∧ J1 (IntKind.i64.wrap (n3 + 1)) x4 k9)) else (Q (.int .i64 (-1)) x4)))
theorem slices_Index_int_int_.calls (sa : Option Addr) (sl sc : Nat) (v : Int) {h : Hp} {Q : Value → Hp → Prop} (hW : slices_Index_int_int_.W sa sl sc v h Q) : CallsH Tryz.prog 124 #[.slice sa sl sc, .int .i64 v] h Q := by
  have hE_ : bodyW Tryz.prog slices_Index_int_int_.H Tryz.f124 [.val (.slice sa sl sc), .val (.int .i64 v)] h Q = slices_Index_int_int_.W sa sl sc v h Q := by kernel_rfl
  rw [← hE_] at hW
  exact calls_of_body (H := slices_Index_int_int_.H) (args := [.val (.slice sa sl sc), .val (.int .i64 v)]) Tryz.func124 Tryz.ntmps124 rfl rfl hW

end Go.Proofs.YthbogjbcecmopaaGreatDoor
namespace Go.Proofs.YthbogjbcecmopaaGreatDoor
open Go.Gx
set_option maxRecDepth 100000
set_option linter.unusedVariables false

theorem byteV (m : Nat) (h : m < 256) : byteC (UInt8.ofNat m) = [.int .u8 (m : Nat)] := by
  unfold byteC
  have : (UInt8.ofNat m).toNat = m := by simp; omega
  rw [this]
def orBit (b : UInt8) (k : Nat) : UInt8 := UInt8.ofNat (IntKind.u8.wrap (ior IntKind.u8 ((b.toNat : Nat) : Int) (IntKind.u8.wrap (ishl IntKind.u8 1 ((k : Nat) : Int))))).toNat
theorem orBit_C (b : UInt8) (k : Nat) : byteC (orBit b k) = [.int .u8 (IntKind.u8.wrap (ior IntKind.u8 ((b.toNat : Nat) : Int) (IntKind.u8.wrap (ishl IntKind.u8 1 ((k : Nat) : Int)))))] := by
  unfold orBit
  generalize ior IntKind.u8 ((b.toNat : Nat) : Int) (IntKind.u8.wrap (ishl IntKind.u8 1 ((k : Nat) : Int))) = x
  have h := wrap8 x
  rw [byteV _ (by omega)]
  congr 2; omega
def setBit (L : List UInt8) (p : Nat) : List UInt8 := L.set (p / 8) (orBit (L.getD (p / 8) 0) (p % 8))
theorem setBit_len (L : List UInt8) (p : Nat) : (setBit L p).length = L.length := List.length_set ..
def markL (ds : List Ch) : List UInt8 := ds.foldl (fun L c => setBit L c.1) (List.replicate 256 0)
theorem markL_len : ∀ (ds : List Ch), (markL ds).length = 256 := by
  intro ds
  unfold markL
  have : ∀ (ds : List Ch) (L : List UInt8), (ds.foldl (fun L c => setBit L c.1) L).length = L.length := by
    intro ds
    induction ds with
    | nil => intro L; rfl
    | cons d ds ih => intro L; rw [List.foldl_cons, ih, setBit_len]
  rw [this, List.length_replicate]
theorem markL_snoc (l : List Ch) (c : Ch) : markL (l ++ [c]) = setBit (markL l) c.1 := by unfold markL; rw [List.foldl_append]; rfl
def markB (ds : List Ch) : ByteArray := ⟨(markL ds).toArray⟩
theorem markB_size (ds : List Ch) : (markB ds).size = 256 := by rw [← size_len]; exact markL_len ds
def andD (r : Dk × Int) (f : Dk → Dk × Int) : Dk × Int := if r.2 = 0 then f r.1 else r
def commitD (n : Nat) (D : Dk) (ds : List Ch) : Dk × Int :=
  andD (flD (wrs D (logW ds))) fun D1 => andD (flD (wrs D1 [(0, markB ds)])) fun D2 => andD (flD (wrs D2 (ownW n ds))) fun D3 => flD (wrs D3 [(0, zeroB 256)])
theorem flD_ok {r : Dk × Int} (h : (flD r).2 = 0) : (flD r).1.ws = [] ∧ (flD r).1.l.length = r.1.l.length := by
  unfold flD at h ⊢
  by_cases h1 : r.2 ≠ 0
  · rw [if_pos h1] at h; exact absurd h h1
  · rw [if_neg h1] at h ⊢
    by_cases h2 : r.1.down = true
    · rw [if_pos h2] at h; cases h
    · rw [if_neg h2]; exact ⟨rfl, settleL_len _ _⟩
variable {h : Hp} {jb db n : Nat} {S : Nat → Prop} {D : Dk} {K : Value → Hp → Prop}
theorem jcommit_spec (J : JAt h jb db S n D) (hup : D.down = false) (hws : D.ws = []) {la : Option Addr} {lc : Nat} {cs : List Ch} (R : RowAt wrC 2 h la cs) (hl : cs.length ≤ 128) (hne : cs ≠ []) (hla : ∀ c, blkOf la c → ¬ S c)
    (hc : ∀ c ∈ cs, c.1 < n ∧ c.2.size = 1024) (hd : (cs.map (·.1)).Nodup)
    (hK : ∀ h' S' ds, ds.Perm cs → ds.Pairwise (fun a b => a.1 ≤ b.1) → JAt h' jb db S' n (commitD n D ds).1 → Step S h S' h' → K (.int .i64 (commitD n D ds).2) h') :
    CallsH Tryz.prog journal_Journal_Commit.id #[.pointer (some ⟨jb, 0, none⟩), .slice la cs.length lc] h K := by
  have hn2 := J.n2
  have hln := J.len
  apply journal_Journal_Commit.calls
  unfold journal_Journal_Commit.W
  refine check_ok J R (by omega) hc hd fun h1 s1 => ⟨_, rfl, split_ne (fun e => absurd rfl e) fun _ => ?_⟩
  have J1 := J.sub s1
  obtain ⟨S0, k1, k2, k3⟩ := J1.step
  refine ⟨_, k2.cell' 0 rfl, up_spec k1 ⟨_, rfl, ?_⟩⟩
  rw [hup]
  refine split_eq (fun e => by
    have e : (cs.length : Int) = 0 := e
    exact absurd (List.eq_nil_of_length_eq_zero (by omega)) hne) fun _ => ?_
  refine slices_Values_journal_Change_journal_Change_.calls la cs.length lc fun kv hkv => ⟨_, rfl, ?_⟩
  have sv := Sub.upd hkv (.cells #[.slice la cs.length lc] 123 (0, 0))
  refine sortedfunc_spec la lc cs (by omega) kv ((Blk.new h1 kv 123 [.slice la cs.length lc]).cell' 0 rfl) ((R.sub s1).sub sv) (fun c hm => by have := (hc c hm).1; omega) fun h2 a13 c15 ds hp hs N2 => ⟨_, _, _, rfl, ?_⟩
  have hdl : ds.length = cs.length := hp.length_eq
  have hdc : ∀ c ∈ ds, c.1 < n ∧ c.2.size = 1024 := fun c hm => hc c (hp.mem_iff.1 hm)
  have J2 := (J1.sub sv).sub N2.sub
  have s2 : Sub h h2 := (s1.trans sv).trans N2.sub
  have ha13 : ∀ c, blkOf a13 c → h c = none := fun c hcb => (s1.trans sv).none (N2.new c hcb)
  refine ⟨by decide, by decide, by decide, by decide, fun k16 hk16 => ?_⟩
  have n16 : h k16 = none := s2.none hk16
  have O16 : OwnR byteC 1 (h2.upd k16 (.cells (repV 256 [.int .u8 0]).toArray 5 (0, 0))) 5 (some ⟨k16, 0, none⟩) 256 (markL []) := by
    have e : rowC byteC (List.replicate 256 0) = repV 256 [.int .u8 0] := by
      have := rowC_bytes (zeroB 256)
      rw [zeroB_bytes] at this; exact this
    refine ⟨by show (rowC byteC (List.replicate 256 0)).length = 256 * 1; rw [e]; rfl, Nat.le_refl _, .inr ⟨k16, [], rfl, ?_, rfl⟩⟩
    show Blk _ k16 5 (rowC byteC (List.replicate 256 0) ++ [])
    rw [e, List.append_nil]; exact Blk.new _ _ _ _
  refine ⟨fun i x m => ∃ j : Nat, i = (j : Int) ∧ j ≤ ds.length ∧ m = ds.length - j ∧ Sub h2 x ∧ OwnR byteC 1 x 5 (some ⟨k16, 0, none⟩) 256 (markL (ds.take j)), ⟨_, 0, rfl, Nat.zero_le _, rfl, Sub.upd hk16 _, O16⟩, ?_⟩
  rintro i x m ⟨j, rfl, hj, rfl, sx, ox⟩
  refine split_dec (fun g => ?_) fun g => ?_
  · have g : j < ds.length := by have : (j : Int) < (ds.length : Int) := g; omega
    have hq : ds[j]? = some ds[j] := List.getElem?_eq_getElem g
    have hcm := (hdc ds[j] (List.getElem_mem g)).1
    generalize ds[j] = c at hq hcm
    obtain ⟨b, o, ea, hcell⟩ := (N2.own.sub sx).row.get wrC_len (by decide) hq
    have hml := markL_len (ds.take j)
    have e1 : (c.1 : Int).tdiv 8 = ((c.1 / 8 : Nat) : Int) := by rw [Int.tdiv_eq_ediv_of_nonneg (by omega)]; omega
    have e2 : (c.1 : Int).tmod 8 = ((c.1 % 8 : Nat) : Int) := by rw [Int.tmod_eq_emod_of_nonneg (by omega)]; omega
    have e3 : IntKind.i64.wrap ((c.1 / 8 : Nat) : Int) = ((c.1 / 8 : Nat) : Int) := wid (by omega) (by omega)
    have hx : (markL (ds.take j))[c.1 / 8]? = some ((markL (ds.take j)).getD (c.1 / 8) 0) := by
      rw [List.getD_eq_getElem?_getD, List.getElem?_eq_getElem (by omega)]; rfl
    obtain ⟨b2, eb2, hcell2⟩ := RowAt.own_get byteC_len (by decide) ox hx
    obtain ⟨b3, eb3, so, op⟩ := ox.put byteC_len (j := 0) (y := orBit ((markL (ds.take j)).getD (c.1 / 8) 0) (c.1 % 8)) (vs := [.int .u8 (IntKind.u8.wrap (ior IntKind.u8 ((((markL (ds.take j)).getD (c.1 / 8) 0).toNat : Nat) : Int) (IntKind.u8.wrap (ishl IntKind.u8 1 ((c.1 % 8 : Nat) : Int)))))]) hx (by decide) (Nat.le_refl 1) (orBit_C _ _).symm
    cases eb2; cases eb3
    have eidx : (((c.1 / 8 : Nat) : Int)).toNat = c.1 / 8 := Int.toNat_natCast _
    refine ⟨by omega, by show (j : Int) < (ds.length : Int); omega, b, o, ea, _, hcell 0 _ rfl, _, hcell 1 _ rfl, ?_⟩
    rw [e1, e2, e3, eidx]
    refine ⟨by decide, by omega, by omega, k16, 0, rfl, _, hcell2 0 _ rfl, by decide, by omega, by omega, by omega, k16, 0, rfl, so, ds.length - (j + 1), by omega, j + 1, by rw [wid (by omega) (by omega)]; omega, by omega, rfl, ?_, ?_⟩
    · exact (Keep.put (fun c => c = k16) x _ _ rfl).sub sx fun c e => by rw [e]; exact hk16
    · rw [List.take_add_one, hq]
      show OwnR _ _ _ _ _ _ (markL (_ ++ [c]))
      rw [markL_snoc]; exact op
  have hje : j = ds.length := by
    have : ¬ (j : Int) < (ds.length : Int) := g
    omega
  subst hje
  rw [List.take_length] at ox
  have J3 := J2.sub sx
  have notS : ∀ {S1 : Nat → Prop} {y : Hp} (st : Step S x S1 y) (c : Nat), h c = none → x c ≠ none → ¬ S1 c := by
    intro S1 y st c hcn hx hS1
    rcases st.2 c hS1 with h' | h'
    · exact J.in_heap h' hcn
    · exact hx h'
  have hx13 : ∀ c, blkOf a13 c → x c ≠ none := fun c hcb => Own.in_heap (N2.own.sub sx) hcb
  have hx16 : x k16 ≠ none := Own.in_heap ox ⟨0, none, rfl⟩
  have base : Step S h S x := Step.sub (s2.trans sx)
  have hds : ∀ {S1 : Nat → Prop} {y : Hp}, Step S x S1 y → RowAt wrC 2 y a13 ds ∧ ∀ c, blkOf a13 c → ¬ S1 c := fun st =>
    ⟨(N2.own.sub sx).row.keep st.1 fun c hcb hS => J.in_heap hS (ha13 c hcb), fun c hcb => notS st c (ha13 c hcb) (hx13 c hcb)⟩
  have hmk : ∀ {S1 : Nat → Prop} {y : Hp}, Step S x S1 y → SliceAt y (some ⟨k16, 0, none⟩) 256 (bytesV (markB ds)) := fun st => by
    have := (ox.keep st.1 fun c hcb hS => by obtain ⟨o, s, e⟩ := hcb; cases e; exact J.in_heap hS n16).row
    unfold RowAt at this
    rw [markL_len] at this
    rw [← rowC_bytes]; exact this
  have hcd := hK
  unfold commitD andD at hcd
  refine layAll_log J3 (hds (Step.refl _ _)).1 (hds (Step.refl _ _)).2 hdc (by omega) (by rw [hws]; exact Nat.zero_le _) fun h33 S3 J33 st3 => ⟨_, rfl, ?_⟩
  refine flushed_spec J33 _ fun h36 S4 J36 st4 => ⟨_, rfl, ?_⟩
  have e4 : flD ((wrs D (logW ds)).1, (wrs D (logW ds)).2) = flD (wrs D (logW ds)) := rfl
  rw [e4] at J36 ⊢
  have st34 := st3.trans st4
  refine split_ne (fun e => ?_) fun e => ?_
  · have := hcd h36 S4 ds hp hs
    rw [if_neg e] at this
    exact this J36 (base.trans st34)
  have ok1 := flD_ok e
  have hcd1 := fun (h' : Hp) (S' : Nat → Prop) => hcd h' S' ds hp hs
  simp only [if_pos e] at hcd1
  generalize flD (wrs D (logW ds)) = r1 at J36 hcd1 ok1 e
  have hl1 : r1.1.l.length = D.l.length := ok1.2.trans (by rw [wrs_l])
  obtain ⟨S5, q1, q2, q3⟩ := J36.step
  refine ⟨_, q2.cell' 0 rfl, markB ds, hmk st34, Sub.refl _, ?_⟩
  refine jwrite_spec (i := 0) J36 (by omega) (markB ds) (markB_size ds) (by rw [ok1.1]; decide) fun h41 S6 J41 st6 => ⟨_, rfl, ?_⟩
  refine flushed_spec J41 _ fun h44 S7 J44 st7 => ⟨_, rfl, ?_⟩
  have e5 : flD ((wrs r1.1 [(0, markB ds)]).1, (wrs r1.1 [(0, markB ds)]).2) = flD (wrs r1.1 [(0, markB ds)]) := rfl
  rw [e5] at J44 ⊢
  have st37 := st34.trans (st6.trans st7)
  refine split_ne (fun e => ?_) fun e => ?_
  · have := hcd1 h44 S7
    rw [if_neg e] at this
    exact this J44 (base.trans st37)
  have ok2 := flD_ok e
  simp only [if_pos e] at hcd1
  generalize flD (wrs r1.1 [(0, markB ds)]) = r2 at J44 hcd1 ok2 e
  have hl2 : r2.1.l.length = D.l.length := ok2.2.trans (by rw [wrs_l, hl1])
  refine layAll_own J44 (hds st37).1 (hds st37).2 hdc (by omega) (by rw [ok2.1]; exact Nat.zero_le _) fun h47 S8 J47 st8 => ⟨_, rfl, ?_⟩
  refine flushed_spec J47 _ fun h50 S9 J50 st9 => ⟨_, rfl, ?_⟩
  have e6 : flD ((wrs r2.1 (ownW n ds)).1, (wrs r2.1 (ownW n ds)).2) = flD (wrs r2.1 (ownW n ds)) := rfl
  rw [e6] at J50 ⊢
  have st39 := st37.trans (st8.trans st9)
  refine split_ne (fun e => ?_) fun e => ?_
  · have := hcd1 h50 S9
    rw [if_neg e] at this
    exact this J50 (base.trans st39)
  have ok3 := flD_ok e
  simp only [if_pos e] at hcd1
  generalize flD (wrs r2.1 (ownW n ds)) = r3 at J50 hcd1 ok3 e
  have hl3 : r3.1.l.length = D.l.length := ok3.2.trans (by rw [wrs_l, hl2])
  obtain ⟨SA, q4, q5, q6⟩ := J50.step
  refine ⟨_, q5.cell' 0 rfl, by decide, by decide, by decide, by decide, fun k53 hk53 => ?_⟩
  have s53 := Sub.upd hk53 (.cells (repV 256 [.int .u8 0]).toArray 5 (0, 0))
  refine ⟨s53, zeroB 256, zero_slice (Hp.upd_same _ _ _), s53, ?_⟩
  refine jwrite_spec (i := 0) (J50.sub s53) (by omega) (zeroB 256) (zeroB_size 256) (by rw [ok3.1]; decide) fun h56 SB J56 stB => ⟨_, rfl, ?_⟩
  refine flushed_spec J56 _ fun h59 SC J59 stC => ⟨_, rfl, ?_⟩
  have e7 : flD ((wrs r3.1 [(0, zeroB 256)]).1, (wrs r3.1 [(0, zeroB 256)]).2) = flD (wrs r3.1 [(0, zeroB 256)]) := rfl
  rw [e7] at J59 ⊢
  exact hcd1 h59 SC J59 (base.trans (st39.trans ((Step.sub s53).trans (stB.trans stC))))
end Go.Proofs.YthbogjbcecmopaaGreatDoor
namespace Go.Proofs.YthbogjbcecmopaaGreatDoor
open Go.Gx
set_option maxRecDepth 100000
set_option linter.unusedVariables false

theorem shrN (k : IntKind) (n b : Nat) (hb : b ≤ k.bits) : ishr k (n : Int) ((b : Nat) : Int) = ((n / 2 ^ b : Nat) : Int) := by
  show ((n : Int)).fdiv (2 ^ min ((b : Nat) : Int).toNat k.bits) = _
  rw [Int.toNat_natCast, Nat.min_eq_left hb, Int.fdiv_eq_ediv_of_nonneg _ (by exact Int.le_of_lt (Int.pow_pos (by decide))), Int.natCast_ediv, Int.natCast_pow]; rfl
theorem shlN (k : IntKind) (n b : Nat) (hb : b ≤ k.bits) : ishl k (n : Int) ((b : Nat) : Int) = ((n * 2 ^ b : Nat) : Int) := by
  show (n : Int) * 2 ^ min ((b : Nat) : Int).toNat k.bits = _
  rw [Int.toNat_natCast, Nat.min_eq_left hb, Int.natCast_mul, Int.natCast_pow]; rfl
theorem orN (k : IntKind) (x y t : Nat) (hx : x < 2 ^ t) (h : x + y * 2 ^ t < 2 ^ k.bits) : ior k (x : Int) ((y * 2 ^ t : Nat) : Int) = ((x + y * 2 ^ t : Nat) : Int) := by
  show (((BitVec.ofInt k.bits (x : Int) ||| BitVec.ofInt k.bits ((y * 2 ^ t : Nat) : Int)).toNat : Nat) : Int) = _
  rw [BitVec.ofInt_natCast, BitVec.ofInt_natCast, BitVec.toNat_or, BitVec.toNat_ofNat, BitVec.toNat_ofNat, Nat.mod_eq_of_lt (by omega), Nat.mod_eq_of_lt (by omega)]
  have := Nat.two_pow_add_eq_or_of_lt hx y
  rw [Nat.or_comm, Nat.mul_comm y, ← this, Nat.add_comm]
theorem orN' (k : IntKind) (x y t : Nat) (hx : x < 2 ^ t) (h : x + y * 2 ^ t < 2 ^ k.bits) : ior k ((y * 2 ^ t : Nat) : Int) (x : Int) = ((x + y * 2 ^ t : Nat) : Int) := by
  rw [← orN k x y t hx h]
  show (((BitVec.ofInt k.bits _ ||| BitVec.ofInt k.bits _).toNat : Nat) : Int) = (((BitVec.ofInt k.bits _ ||| BitVec.ofInt k.bits _).toNat : Nat) : Int)
  rw [BitVec.or_comm]
theorem and1 (x : Nat) (hx : x < 256) : iand IntKind.u8 (x : Int) 1 = ((x % 2 : Nat) : Int) := by
  show (((BitVec.ofInt 8 (x : Int) &&& BitVec.ofInt 8 1).toNat : Nat) : Int) = _
  rw [BitVec.ofInt_natCast, BitVec.toNat_and, BitVec.toNat_ofNat, Nat.mod_eq_of_lt (by omega)]
  have : (BitVec.ofInt 8 1).toNat = 1 := by decide
  rw [this, Nat.and_one_is_mod]
theorem u8c (n : Nat) : IntKind.u8.wrap (n : Int) = ((n % 256 : Nat) : Int) := by rw [wrap8]; omega
theorem wrap64s (x : Nat) (h : x < 18446744073709551616) : IntKind.u64.wrap (x : Int) = (x : Int) := by rw [wrap64]; omega
theorem widN (x : Nat) (h : x ≤ 9223372036854775807) : IntKind.i64.wrap (x : Int) = (x : Int) := wid (by omega) (by omega)

def tabV (f : Nat → Nat) : List Value := (List.range 1024).map fun j => .int .u8 (f j : Nat)
theorem tabV_len (f : Nat → Nat) : (tabV f).length = 1024 := by unfold tabV; simp
theorem tabV_get {f : Nat → Nat} {j : Nat} (hj : j < 1024) : (tabV f)[j]? = some (.int .u8 (f j : Nat)) := by
  unfold tabV
  rw [List.getElem?_map, List.getElem?_range hj]; rfl
theorem tabV_congr {f g : Nat → Nat} (h : ∀ j, j < 1024 → f j = g j) : tabV f = tabV g := by
  unfold tabV
  exact List.map_congr_left fun j hj => by rw [h j (List.mem_range.1 hj)]
theorem tabV_set {f : Nat → Nat} {j v : Nat} : setL (tabV f) j [.int .u8 ((v : Nat) : Int)] = tabV fun i => if i = j then v else f i := by
  refine List.ext_getElem? fun i => ?_
  rw [setL_get]
  by_cases hi : i < 1024
  · rw [tabV_get hi, tabV_get hi]
    by_cases e : i = j
    · rw [if_pos ⟨e, by rw [tabV_len]; omega⟩, if_pos e]
    · rw [if_neg fun h => e h.1, if_neg e]
  · rw [if_neg (fun h => by have := h.2; rw [tabV_len] at this; omega), List.getElem?_eq_none (by rw [tabV_len]; omega), List.getElem?_eq_none (by rw [tabV_len]; omega)]
def tabL (f : Nat → Nat) : List UInt8 := (List.range 1024).map fun j => UInt8.ofNat (f j)
def tabB (f : Nat → Nat) : ByteArray := ⟨(tabL f).toArray⟩
theorem tabB_size (f : Nat → Nat) : (tabB f).size = 1024 := by rw [← size_len]; show (tabL f).length = 1024; unfold tabL; simp
theorem tabB_bytes {f : Nat → Nat} (h : ∀ j, j < 1024 → f j < 256) : bytesV (tabB f) = tabV f := by
  unfold bytesV tabB tabL tabV
  rw [List.map_map]
  refine List.map_congr_left fun j hj => ?_
  have := h j (List.mem_range.1 hj)
  have : (UInt8.ofNat (f j)).toNat = f j := by simp; omega
  show Value.int .u8 (((UInt8.ofNat (f j)).toNat : Nat) : Int) = _
  rw [this]
theorem tabB_congr {f g : Nat → Nat} (h : ∀ j, j < 1024 → f j = g j) : tabB f = tabB g := by
  unfold tabB tabL
  rw [List.map_congr_left fun j hj => by rw [h j (List.mem_range.1 hj)]]
def byteN (b : ByteArray) (j : Nat) : Nat := ((b.data.toList[j]?).getD 0).toNat
theorem byteN_lt (b : ByteArray) (j : Nat) : byteN b j < 256 := UInt8.toNat_lt _
theorem byteAt_N (b : ByteArray) (j : Nat) : byteAt b j = ((byteN b j : Nat) : Int) := rfl
theorem byteN_tab {f : Nat → Nat} {j : Nat} (h : f j < 256) (hj : j < 1024) : byteN (tabB f) j = f j := by
  unfold byteN tabB tabL
  rw [show ((⟨((List.range 1024).map fun j => UInt8.ofNat (f j)).toArray⟩ : ByteArray).data.toList) = (List.range 1024).map fun j => UInt8.ofNat (f j) from rfl, List.getElem?_map, List.getElem?_range hj]
  simp; omega

def bitAt (u : Nat → Bool) (n c t : Nat) : Nat := if 8 * c + t < n then (u (8 * c + t)).toNat else 0
def bitsU (u : Nat → Bool) (n c : Nat) : Nat := bitAt u n c 0 + 2 * bitAt u n c 1 + 4 * bitAt u n c 2 + 8 * bitAt u n c 3 + 16 * bitAt u n c 4 + 32 * bitAt u n c 5 + 64 * bitAt u n c 6 + 128 * bitAt u n c 7
theorem toNat_le (b : Bool) : b.toNat ≤ 1 := by cases b <;> decide
theorem bitAt_le (u : Nat → Bool) (n c t : Nat) : bitAt u n c t ≤ 1 := by
  unfold bitAt
  split
  · exact toNat_le _
  · decide
theorem bitAt_hi {u : Nat → Bool} {n c t : Nat} (h : n ≤ 8 * c + t) : bitAt u n c t = 0 := if_neg (by omega)
theorem bitAt_lo {u : Nat → Bool} {n c t : Nat} (h : 8 * c + t < n) : bitAt u n c t = (u (8 * c + t)).toNat := if_pos h
theorem bitAt_ne {u : Nat → Bool} {n c t : Nat} (h : 8 * c + t ≠ n) : bitAt u (n + 1) c t = bitAt u n c t := by
  by_cases e : 8 * c + t < n
  · rw [bitAt_lo e, bitAt_lo (by omega)]
  · rw [bitAt_hi (by omega), bitAt_hi (by omega)]
theorem eight {t : Nat} (ht : t < 8) : t = 0 ∨ t = 1 ∨ t = 2 ∨ t = 3 ∨ t = 4 ∨ t = 5 ∨ t = 6 ∨ t = 7 := by omega
theorem bitsU_lt (u : Nat → Bool) (n c : Nat) : bitsU u n c < 256 := by
  have h := bitAt_le u n c
  have h0 := h 0; have h1 := h 1; have h2 := h 2; have h3 := h 3; have h4 := h 4; have h5 := h 5; have h6 := h 6; have h7 := h 7
  unfold bitsU; omega
theorem bitsU_dec (u : Nat → Bool) (n c : Nat) {t : Nat} (ht : t < 8) : bitsU u n c / 2 ^ t % 2 = bitAt u n c t := by
  have h := bitAt_le u n c
  have h0 := h 0; have h1 := h 1; have h2 := h 2; have h3 := h 3; have h4 := h 4; have h5 := h 5; have h6 := h 6; have h7 := h 7
  unfold bitsU
  rcases eight ht with rfl | rfl | rfl | rfl | rfl | rfl | rfl | rfl <;> omega
theorem bitsU_low (u : Nat → Bool) (c : Nat) {t : Nat} (ht : t < 8) : bitsU u (8 * c + t) c < 2 ^ t := by
  have h := bitAt_le u (8 * c + t) c
  have z : ∀ s, t ≤ s → bitAt u (8 * c + t) c s = 0 := fun s hs => bitAt_hi (by omega)
  have h0 := h 0; have h1 := h 1; have h2 := h 2; have h3 := h 3; have h4 := h 4; have h5 := h 5; have h6 := h 6; have h7 := h 7
  have z0 := z 0; have z1 := z 1; have z2 := z 2; have z3 := z 3; have z4 := z 4; have z5 := z 5; have z6 := z 6; have z7 := z 7
  unfold bitsU
  rcases eight ht with rfl | rfl | rfl | rfl | rfl | rfl | rfl | rfl <;> omega
theorem bitsU_set (u : Nat → Bool) (c : Nat) {t : Nat} (ht : t < 8) : bitsU u (8 * c + t + 1) c = bitsU u (8 * c + t) c + (u (8 * c + t)).toNat * 2 ^ t := by
  have z : ∀ s, s ≠ t → bitAt u (8 * c + t + 1) c s = bitAt u (8 * c + t) c s := fun s hs => bitAt_ne (by omega)
  have y : bitAt u (8 * c + t) c t = 0 := bitAt_hi (Nat.le_refl _)
  have x : bitAt u (8 * c + t + 1) c t = (u (8 * c + t)).toNat := bitAt_lo (Nat.lt_succ_self _)
  have z0 := z 0; have z1 := z 1; have z2 := z 2; have z3 := z 3; have z4 := z 4; have z5 := z 5; have z6 := z 6; have z7 := z 7
  unfold bitsU
  rcases eight ht with rfl | rfl | rfl | rfl | rfl | rfl | rfl | rfl <;> omega
theorem bitsU_other {u : Nat → Bool} {n c : Nat} (h : n / 8 ≠ c) : bitsU u (n + 1) c = bitsU u n c := by
  unfold bitsU
  rw [bitAt_ne (by omega), bitAt_ne (by omega), bitAt_ne (by omega), bitAt_ne (by omega), bitAt_ne (by omega), bitAt_ne (by omega), bitAt_ne (by omega), bitAt_ne (by omega)]
theorem bitsU_congr {u v : Nat → Bool} {n m c : Nat} (h : ∀ i, bitAt u n c i = bitAt v m c i) : bitsU u n c = bitsU v m c := by
  unfold bitsU
  rw [h, h, h, h, h, h, h, h]

def magicN (j : Nat) : Nat := [115, 116, 114, 111, 110, 103, 114, 111, 111, 109].getD j 0
theorem magicN_lt (j : Nat) : magicN j < 256 := by
  by_cases h : j < 10
  · have : ∀ j : Fin 10, magicN j.val < 256 := by decide
    exact this ⟨j, h⟩
  · unfold magicN
    rw [List.getD_eq_getElem?_getD, List.getElem?_eq_none (by show 10 ≤ j; omega)]; decide
def stg1 (s n j : Nat) : Nat := if j < 10 then magicN j else if j < 10 + n then s / 256 ^ (17 - j) % 256 else 0
def rootB (r : Nat → Nat) (i : Nat) : Nat := (if i % 2 = 0 then r (i / 2) / 256 else r (i / 2)) % 256
def stg2 (s : Nat) (r : Nat → Nat) (n j : Nat) : Nat := if j < 18 then stg1 s 8 j else if j < 18 + 2 * n then rootB r (j - 18) else 0
def encN (s : Nat) (r : Nat → Nat) (u : Nat → Bool) (n j : Nat) : Nat := if j < 26 then stg2 s r 4 j else if j < 42 then bitsU u n (j - 26) else 0
theorem stg1_lt (s n j : Nat) : stg1 s n j < 256 := by
  unfold stg1
  split
  · exact magicN_lt j
  · split
    · exact Nat.mod_lt _ (by decide)
    · decide
theorem stg2_lt (s : Nat) (r : Nat → Nat) (n j : Nat) : stg2 s r n j < 256 := by
  unfold stg2
  split
  · exact stg1_lt _ _ _
  · split
    · exact Nat.mod_lt _ (by decide)
    · decide
theorem encN_lt (s : Nat) (r : Nat → Nat) (u : Nat → Bool) (n j : Nat) : encN s r u n j < 256 := by
  unfold encN
  split
  · exact stg2_lt _ _ _ _
  · split
    · exact bitsU_lt _ _ _
    · decide
theorem stg1_zero (s j : Nat) : stg1 s 0 j = if j < 10 then magicN j else 0 := by
  unfold stg1
  by_cases h : j < 10
  · rw [if_pos h, if_pos h]
  · rw [if_neg h, if_neg h, if_neg (by omega)]
theorem stg1_step (s n j : Nat) (hn : n < 8) : stg1 s (n + 1) j = if j = 10 + n then s / 2 ^ (56 - 8 * n) % 256 else stg1 s n j := by
  unfold stg1
  by_cases e : j = 10 + n
  · subst e
    rw [if_neg (by omega), if_pos (by omega), if_pos rfl, show 17 - (10 + n) = 7 - n by omega, show 56 - 8 * n = 8 * (7 - n) by omega, Nat.pow_mul]
  · rw [if_neg e]
    by_cases h1 : j < 10
    · rw [if_pos h1, if_pos h1]
    · rw [if_neg h1, if_neg h1]
      by_cases h2 : j < 10 + n
      · rw [if_pos h2, if_pos (by omega)]
      · rw [if_neg h2, if_neg (by omega)]
theorem stg2_zero (s : Nat) (r : Nat → Nat) (j : Nat) : stg2 s r 0 j = stg1 s 8 j := by
  unfold stg2
  by_cases h : j < 18
  · rw [if_pos h]
  · rw [if_neg h, if_neg (by omega)]
    unfold stg1
    rw [if_neg (by omega), if_neg (by omega)]
theorem stg2_step (s : Nat) (r : Nat → Nat) (n j : Nat) : stg2 s r (n + 1) j = if j = 19 + 2 * n then r n % 256 else if j = 18 + 2 * n then r n / 256 % 256 else stg2 s r n j := by
  unfold stg2 rootB
  by_cases e : j = 19 + 2 * n
  · subst e
    rw [if_neg (by omega), if_pos (by omega), if_pos rfl, if_neg (by omega), show (19 + 2 * n - 18) / 2 = n by omega]
  · rw [if_neg e]
    by_cases e2 : j = 18 + 2 * n
    · subst e2
      rw [if_neg (by omega), if_pos (by omega), if_pos rfl, if_pos (by omega), show (18 + 2 * n - 18) / 2 = n by omega]
    · rw [if_neg e2]
      by_cases h1 : j < 18
      · rw [if_pos h1, if_pos h1]
      · rw [if_neg h1, if_neg h1]
        by_cases h2 : j < 18 + 2 * n
        · rw [if_pos h2, if_pos (by omega)]
        · rw [if_neg h2, if_neg (by omega)]
theorem bitsU_zero (u : Nat → Bool) (c : Nat) : bitsU u 0 c = 0 := by
  unfold bitsU
  simp [bitAt]
theorem encN_zero (s : Nat) (r : Nat → Nat) (u : Nat → Bool) (j : Nat) : encN s r u 0 j = stg2 s r 4 j := by
  unfold encN
  by_cases h : j < 26
  · rw [if_pos h]
  · rw [if_neg h, bitsU_zero]
    have : stg2 s r 4 j = 0 := by unfold stg2; rw [if_neg (by omega), if_neg (by omega)]
    rw [this]; split <;> rfl
theorem encN_no (s : Nat) (r : Nat → Nat) (u : Nat → Bool) {n : Nat} (hu : u n = false) (j : Nat) : encN s r u (n + 1) j = encN s r u n j := by
  unfold encN
  by_cases h : j < 26
  · rw [if_pos h, if_pos h]
  · rw [if_neg h, if_neg h]
    have : bitsU u (n + 1) (j - 26) = bitsU u n (j - 26) := by
      by_cases e : n / 8 = j - 26
      · have := bitsU_set u (j - 26) (t := n % 8) (Nat.mod_lt _ (by decide))
        rw [show 8 * (j - 26) + n % 8 = n by omega, hu] at this
        simpa using this
      · exact bitsU_other e
    rw [this]
theorem encN_yes (s : Nat) (r : Nat → Nat) (u : Nat → Bool) {n : Nat} (hn : n < 128) (hu : u n = true) (j : Nat) : encN s r u (n + 1) j = if j = 26 + n / 8 then encN s r u n (26 + n / 8) + 2 ^ (n % 8) else encN s r u n j := by
  unfold encN
  by_cases e : j = 26 + n / 8
  · subst e
    rw [if_neg (by omega), if_pos (by omega), if_pos rfl, if_neg (by omega), if_pos (by omega), show 26 + n / 8 - 26 = n / 8 by omega]
    have := bitsU_set u (n / 8) (t := n % 8) (Nat.mod_lt _ (by decide))
    rw [show 8 * (n / 8) + n % 8 = n by omega, hu] at this
    simpa using this
  · rw [if_neg e]
    by_cases h : j < 26
    · rw [if_pos h, if_pos h]
    · rw [if_neg h, if_neg h, bitsU_other (by omega)]
theorem encN_low (s : Nat) (r : Nat → Nat) (u : Nat → Bool) {n : Nat} (hn : n < 128) : encN s r u n (26 + n / 8) < 2 ^ (n % 8) := by
  unfold encN
  rw [if_neg (by omega), if_pos (by omega), show 26 + n / 8 - 26 = n / 8 by omega]
  have := bitsU_low u (n / 8) (t := n % 8) (Nat.mod_lt _ (by decide))
  rw [show 8 * (n / 8) + n % 8 = n by omega] at this
  exact this
def dser (b : ByteArray) : Nat → Nat
  | 0 => 0
  | n + 1 => dser b n * 256 + byteN b (10 + n)
theorem dser_lt (b : ByteArray) : ∀ n, dser b n < 256 ^ n
  | 0 => by show 0 < 1; decide
  | n + 1 => by
    have h1 := dser_lt b n
    have h2 := byteN_lt b (10 + n)
    unfold dser
    rw [Nat.pow_succ]; omega
def droot (b : ByteArray) (k : Nat) : Nat := byteN b (18 + 2 * k) * 256 + byteN b (19 + 2 * k)
def dbit (b : ByteArray) (i : Nat) : Bool := byteN b (26 + i / 8) / 2 ^ (i % 8) % 2 == 1
theorem dbit_enc {s : Nat} {r : Nat → Nat} {u : Nat → Bool} {n i : Nat} (hi : i < 128) : dbit (tabB (encN s r u n)) i = (decide (i < n) && u i) := by
  unfold dbit
  rw [byteN_tab (encN_lt _ _ _ _ _) (by omega)]
  have : encN s r u n (26 + i / 8) = bitsU u n (i / 8) := by
    unfold encN
    rw [if_neg (by omega), if_pos (by omega), show 26 + i / 8 - 26 = i / 8 by omega]
  rw [this, bitsU_dec u n (i / 8) (Nat.mod_lt _ (by decide))]
  unfold bitAt
  rw [show 8 * (i / 8) + i % 8 = i by omega]
  by_cases h : i < n
  · rw [if_pos h, decide_eq_true h]; cases u i <;> rfl
  · rw [if_neg h, decide_eq_false h]; rfl
structure OkHead (b : ByteArray) (n : Nat) : Prop where
  below : ∀ i, i < 128 → dbit b i = true → i < n
  roots : ∀ k, k < 4 → droot b k < 128 ∧ (droot b k ≠ 0 → dbit b (droot b k) = true)
  zero : dbit b 0 = true
  ser : dser b 8 ≤ 9223372036854775807
  bytes : tabB (encN (dser b 8) (droot b) (dbit b) 128) = b
end Go.Proofs.YthbogjbcecmopaaGreatDoor
namespace Go.Proofs.YthbogjbcecmopaaGreatDoor
open Go.Gx
set_option maxRecDepth 100000
set_option linter.unusedVariables false

def rootV (r : Nat → Nat) : List Value := (List.range 4).map fun k => .int .i64 (r k : Nat)
def usedV (u : Nat → Bool) : List Value := (List.range 128).map fun i => .bool (u i)
def headC (s : Nat) (r : Nat → Nat) (u : Nat → Bool) : List Value := .int .u64 (s : Nat) :: (rootV r ++ usedV u)
theorem rootV_len (r : Nat → Nat) : (rootV r).length = 4 := by unfold rootV; simp
theorem usedV_len (u : Nat → Bool) : (usedV u).length = 128 := by unfold usedV; simp
theorem headC_len (s : Nat) (r : Nat → Nat) (u : Nat → Bool) : (headC s r u).length = 133 := by
  unfold headC
  rw [List.length_cons, List.length_append, rootV_len, usedV_len]
theorem rootV_get {r : Nat → Nat} {k : Nat} (hk : k < 4) : (rootV r)[k]? = some (.int .i64 (r k : Nat)) := by
  unfold rootV
  rw [List.getElem?_map, List.getElem?_range hk]; rfl
theorem usedV_get {u : Nat → Bool} {i : Nat} (hi : i < 128) : (usedV u)[i]? = some (.bool (u i)) := by
  unfold usedV
  rw [List.getElem?_map, List.getElem?_range hi]; rfl
theorem headC_0 (s : Nat) (r : Nat → Nat) (u : Nat → Bool) : (headC s r u)[0]? = some (.int .u64 (s : Nat)) := rfl
theorem headC_root (s : Nat) (r : Nat → Nat) (u : Nat → Bool) {k : Nat} (hk : k < 4) : (headC s r u)[1 + k]? = some (.int .i64 (r k : Nat)) := by
  unfold headC
  rw [Nat.add_comm, List.getElem?_cons_succ, List.getElem?_append_left (by rw [rootV_len]; exact hk), rootV_get hk]
theorem headC_used (s : Nat) (r : Nat → Nat) (u : Nat → Bool) {i : Nat} (hi : i < 128) : (headC s r u)[5 + i]? = some (.bool (u i)) := by
  unfold headC
  rw [show 5 + i = (4 + i) + 1 by omega, List.getElem?_cons_succ, List.getElem?_append_right (by rw [rootV_len]; omega), rootV_len, show 4 + i - 4 = i by omega, usedV_get hi]
theorem headC_plain (s : Nat) (r : Nat → Nat) (u : Nat → Bool) : plainP (headC s r u) := by
  intro v hv
  unfold headC rootV usedV at hv
  rcases List.mem_cons.1 hv with rfl | hv
  · exact ⟨(fun c h => by cases h), fun c h => by cases h⟩
  · rcases List.mem_append.1 hv with hv | hv
    · obtain ⟨k, _, rfl⟩ := List.mem_map.1 hv
      exact ⟨(fun c h => by cases h), fun c h => by cases h⟩
    · obtain ⟨k, _, rfl⟩ := List.mem_map.1 hv
      exact ⟨(fun c h => by cases h), fun c h => by cases h⟩
theorem _root_.Go.Gx.CellsAt.get {h : Hp} {b o : Nat} {xs : List Value} (H : CellsAt h b o xs) {i : Nat} {v : Value} (e : xs[i]? = some v) : h.cell b (o + i) = some v := by
  obtain ⟨hi, e⟩ := List.getElem?_eq_some_iff.1 e
  rw [H i hi, e]
theorem cpy10 : cpyN (bytesL [115, 116, 114, 111, 110, 103, 114, 111, 111, 109]) 1024 = 10 := by kernel_rfl
theorem cpyV10 : setL (repV 1024 [.int .u8 0]) 0 (cpyV (bytesL [115, 116, 114, 111, 110, 103, 114, 111, 111, 109]) 1024) = tabV fun j => if j < 10 then magicN j else 0 := by kernel_rfl
theorem cpyV10_plain : plainP (cpyV (bytesL [115, 116, 114, 111, 110, 103, 114, 111, 111, 109]) 1024) := plainP_of (by kernel_rfl)
theorem cpyV10_len : (cpyV (bytesL [115, 116, 114, 111, 110, 103, 114, 111, 111, 109]) 1024).length = 10 := by kernel_rfl
theorem rep1024_len : (repV 1024 [Value.int .u8 0]).length = 1024 := by kernel_rfl
theorem lget4 {r : Nat → Nat} {n : Nat} (hn : n < 4) : lget [.int .i64 (r 0 : Nat), .int .i64 (r 1 : Nat), .int .i64 (r 2 : Nat), .int .i64 (r 3 : Nat)] ((n : Int).toNat * 1) = some (.int .i64 (r n : Nat)) := by
  rw [Int.toNat_natCast, Nat.mul_one]
  rcases (by omega : n = 0 ∨ n = 1 ∨ n = 2 ∨ n = 3) with rfl | rfl | rfl | rfl <;> rfl
theorem shl1 : ∀ k : Fin 8, IntKind.u8.wrap (ishl IntKind.u8 1 ((k.val : Nat) : Int)) = ((2 ^ k.val : Nat) : Int) := by decide
theorem pow_lt8 {k : Nat} (hk : k < 8) : 2 ^ k ≤ 128 := by
  rcases eight hk with rfl | rfl | rfl | rfl | rfl | rfl | rfl | rfl <;> decide
theorem orBitN {x k : Nat} (hk : k < 8) (hx : x < 2 ^ k) : IntKind.u8.wrap (ior IntKind.u8 (x : Int) (IntKind.u8.wrap (ishl IntKind.u8 1 ((k : Nat) : Int)))) = ((x + 2 ^ k : Nat) : Int) := by
  have h1 := pow_lt8 hk
  have h2 := orN IntKind.u8 x 1 k hx (by show _ < 256; omega)
  rw [Nat.one_mul] at h2
  rw [shl1 ⟨k, hk⟩]
  show IntKind.u8.wrap (ior IntKind.u8 (x : Int) ((2 ^ k : Nat) : Int)) = _
  rw [h2, u8c, Nat.mod_eq_of_lt (by omega)]
theorem tdiv8 (n : Nat) : ((n : Nat) : Int).tdiv 8 = ((n / 8 : Nat) : Int) := by rw [Int.tdiv_eq_ediv_of_nonneg (by omega)]; omega
theorem tmod8 (n : Nat) : ((n : Nat) : Int).tmod 8 = ((n % 8 : Nat) : Int) := by rw [Int.tmod_eq_emod_of_nonneg (by omega)]; omega

set_option maxHeartbeats 1000000 in
theorem bytes_spec {h : Hp} {b o s : Nat} {r : Nat → Nat} {u : Nat → Bool} {K : Value → Hp → Prop} (H : CellsAt h b o (headC s r u)) (hK : ∀ h', Sub h h' → K (.string (tabB (encN s r u 128))) h') :
    CallsH Tryz.prog pager_head_bytes.id #[.pointer (some ⟨b, o, none⟩)] h K := by
  apply pager_head_bytes.calls
  unfold pager_head_bytes.W
  refine ⟨by decide, by decide, by decide, by decide, fun k1 hk1 => ?_⟩
  simp only [cpy10, show IntKind.i64.wrap (10 + 8) = 18 from by decide, show IntKind.i64.wrap (18 + 8) = 26 from by decide]
  have B0 : Blk (h.upd k1 (.cells (repV 1024 [.int .u8 0]).toArray 5 (0, 0))) k1 5 (repV 1024 [.int .u8 0]) := Blk.new h k1 5 _
  have s0 : Sub h (h.upd k1 (.cells (repV 1024 [.int .u8 0]).toArray 5 (0, 0))) := Sub.upd hk1 _
  have new : ∀ {x : Hp} (sx : Sub h x) (o' : Nat) (us : List Value), Sub h (x.put k1 o' us) := fun {x} sx o' us => (Keep.put (fun c => c = k1) x o' us rfl).sub sx fun c e => by rw [e]; exact hk1
  refine ⟨fun x => Sub h x ∧ Blk x k1 5 (tabV (stg1 s 0)), ?_, .inr ⟨k1, 0, rfl, cpyV10_plain, B0.store (by rw [cpyV10_len, rep1024_len]; decide), new s0 _ _, ?_⟩⟩
  rotate_left
  · have := B0.put 0 (cpyV (bytesL [115, 116, 114, 111, 110, 103, 114, 111, 111, 109]) 1024)
    rw [cpyV10, ← tabV_congr fun j _ => stg1_zero s j] at this
    exact this
  rintro x3 ⟨s3, B3⟩
  refine ⟨fun i x m => ∃ n : Nat, i = (n : Int) ∧ n ≤ 8 ∧ m = 8 - n ∧ Sub h x ∧ Blk x k1 5 (tabV (stg1 s n)), ⟨_, 0, rfl, by decide, rfl, s3, B3⟩, ?_⟩
  rintro i x m ⟨n, rfl, hn, rfl, sx, Bx⟩
  refine split_dec (fun g => ?_) fun g => ?_
  · have g : n < 8 := by have : (n : Int) < 8 := g; omega
    have e1 : IntKind.i64.wrap (8 * (n : Int)) = ((8 * n : Nat) : Int) := by rw [wid (by omega) (by omega)]; omega
    have e2 : IntKind.i64.wrap (56 - ((8 * n : Nat) : Int)) = ((56 - 8 * n : Nat) : Int) := by rw [wid (by omega) (by omega)]; omega
    have e3 : IntKind.i64.wrap (10 + (n : Int)) = ((10 + n : Nat) : Int) := by rw [wid (by omega) (by omega)]; omega
    have idx : 0 + ((10 + n : Nat) : Int).toNat * 1 = 10 + n := by rw [Int.toNat_natCast]; omega
    rw [e1, e2, e3]
    refine ⟨_, cell_sub sx (H.get (headC_0 s r u)), by omega, by omega, by omega, k1, 0, rfl, ?_, 8 - (n + 1), by omega, n + 1, by rw [wid (by omega) (by omega)]; omega, by omega, rfl, new sx _ _, ?_⟩
    · rw [idx]; exact Bx.store (by rw [tabV_len]; omega)
    · rw [idx, shrN _ _ _ (by show 56 - 8 * n ≤ 64; omega), u8c]
      have := Bx.put (10 + n) [.int .u8 ((s / 2 ^ (56 - 8 * n) % 256 : Nat) : Int)]
      rw [tabV_set, ← tabV_congr fun j _ => stg1_step s n j g] at this
      exact this
  have : n = 8 := by
    have : ¬ (n : Int) < 8 := g
    omega
  subst this
  clear s3 B3 g
  have hh := H.sub sx
  refine ⟨_, hh.get (headC_root s r u (k := 0) (by decide)), _, hh.get (headC_root s r u (k := 1) (by decide)), _, hh.get (headC_root s r u (k := 2) (by decide)), _, hh.get (headC_root s r u (k := 3) (by decide)), ?_⟩
  refine ⟨fun i x m => ∃ n : Nat, i = (n : Int) ∧ n ≤ 4 ∧ m = 4 - n ∧ Sub h x ∧ Blk x k1 5 (tabV (stg2 s r n)), ⟨_, 0, rfl, by decide, rfl, sx, ?_⟩, ?_⟩
  · rw [tabV_congr fun j _ => stg2_zero s r j]; exact Bx
  clear hh Bx sx
  rintro i x m ⟨n, rfl, hn, rfl, sx, Bx⟩
  refine split_dec (fun g => ?_) fun g => ?_
  · have g : n < 4 := by have : (n : Int) < 4 := g; omega
    have e1 : IntKind.i64.wrap (2 * (n : Int)) = ((2 * n : Nat) : Int) := by rw [wid (by omega) (by omega)]; omega
    have e2 : IntKind.i64.wrap (18 + ((2 * n : Nat) : Int)) = ((18 + 2 * n : Nat) : Int) := by rw [wid (by omega) (by omega)]; omega
    have e3 : IntKind.i64.wrap (((18 + 2 * n : Nat) : Int) + 1) = ((19 + 2 * n : Nat) : Int) := by rw [wid (by omega) (by omega)]; omega
    have idx : 0 + ((18 + 2 * n : Nat) : Int).toNat * 1 = 18 + 2 * n := by rw [Int.toNat_natCast]; omega
    have idx2 : 0 + ((19 + 2 * n : Nat) : Int).toNat * 1 = 19 + 2 * n := by rw [Int.toNat_natCast]; omega
    rw [e1, e2, e3]
    have B2 := Bx.put (18 + 2 * n) [.int .u8 ((r n / 256 % 256 : Nat) : Int)]
    rw [tabV_set] at B2
    refine ⟨by omega, by omega, _, lget4 g, by decide, by omega, by omega, k1, 0, rfl, ?_, by omega, by omega, k1, 0, rfl, ?_, 4 - (n + 1), by omega, n + 1, by rw [wid (by omega) (by omega)]; omega, by omega, rfl, new (new sx _ _) _ _, ?_⟩
    · rw [idx]; exact Bx.store (by rw [tabV_len]; omega)
    · rw [idx, idx2, show (8 : Int) = ((8 : Nat) : Int) from rfl, shrN _ _ _ (by decide), u8c]
      exact B2.store (by rw [tabV_len]; omega)
    · rw [idx, idx2, show (8 : Int) = ((8 : Nat) : Int) from rfl, shrN _ _ _ (by decide), u8c, u8c]
      have := B2.put (19 + 2 * n) [.int .u8 ((r n % 256 : Nat) : Int)]
      rw [tabV_set, ← tabV_congr fun j _ => stg2_step s r n j] at this
      exact this
  have : n = 4 := by
    have : ¬ (n : Int) < 4 := g
    omega
  subst this
  clear g
  refine ⟨usedV u, usedV_len u, ?_, ?_⟩
  · intro i hi
    rw [usedV_len] at hi
    rw [Nat.add_assoc, (H.sub sx).get (headC_used s r u hi)]
    rw [← usedV_get hi, List.getElem?_eq_getElem]
  refine ⟨fun i x m => ∃ n : Nat, i = (n : Int) ∧ n ≤ 128 ∧ m = 128 - n ∧ Sub h x ∧ Blk x k1 5 (tabV (encN s r u n)), ⟨_, 0, rfl, by decide, rfl, sx, ?_⟩, ?_⟩
  · rw [tabV_congr fun j _ => encN_zero s r u j]; exact Bx
  clear Bx sx
  rintro i x m ⟨n, rfl, hn, rfl, sx, Bx⟩
  refine split_dec (fun g => ?_) fun g => ?_
  · have g : n < 128 := by have : (n : Int) < 128 := g; omega
    have gl : lget (usedV u) ((n : Int).toNat * 1) = some (.bool (u n)) := by
      rw [Int.toNat_natCast, Nat.mul_one]; exact usedV_get g
    have e4 : IntKind.i64.wrap ((n : Int) + 1) = ((n + 1 : Nat) : Int) := by rw [wid (by omega) (by omega)]; omega
    refine ⟨by omega, by omega, _, gl, split_cond (fun eu => ?_) fun eu => ⟨128 - (n + 1), by omega, n + 1, e4, by omega, rfl, sx, ?_⟩⟩
    · have e1 : IntKind.i64.wrap (26 + IntKind.i64.wrap ((n : Int).tdiv 8)) = ((26 + n / 8 : Nat) : Int) := by
        rw [tdiv8, widN _ (by omega), wid (by omega) (by omega)]; omega
      have idx : 0 + ((26 + n / 8 : Nat) : Int).toNat * 1 = 26 + n / 8 := by rw [Int.toNat_natCast]; omega
      rw [e1, tmod8]
      refine ⟨by decide, by omega, by omega, k1, 0, rfl, ((encN s r u n (26 + n / 8) : Nat) : Int), ?_, by decide, by omega, by omega, by omega, k1, 0, rfl, ?_, 128 - (n + 1), by omega, n + 1, e4, by omega, rfl, new sx _ _, ?_⟩
      · rw [idx]; exact Bx.cell' _ (tabV_get (by omega))
      · rw [idx]; exact Bx.store (by rw [tabV_len]; omega)
      · rw [idx, orBitN (Nat.mod_lt _ (by decide)) (encN_low s r u g)]
        have := Bx.put (26 + n / 8) [.int .u8 ((encN s r u n (26 + n / 8) + 2 ^ (n % 8) : Nat) : Int)]
        rw [tabV_set, ← tabV_congr fun j _ => encN_yes s r u g eu j] at this
        exact this
    · rw [tabV_congr fun j _ => encN_no s r u eu j]; exact Bx
  have : n = 128 := by
    have : ¬ (n : Int) < 128 := g
    omega
  subst this
  exact ⟨_, by rw [tabB_bytes fun j _ => encN_lt s r u 128 j]; exact Bx.slice (tabV_len _), hK x sx⟩
end Go.Proofs.YthbogjbcecmopaaGreatDoor
namespace Go.Proofs.YthbogjbcecmopaaGreatDoor
open Go.Gx
set_option maxRecDepth 100000
set_option linter.unusedVariables false

theorem setL_all {vs us : List Value} (h : us.length = vs.length) : setL vs 0 us = us := by
  have := @setL_append [] vs us 0 rfl (by omega)
  rw [List.nil_append, List.nil_append, List.drop_eq_nil_of_le (by omega), List.append_nil] at this
  exact this
def upR (r : Nat → Nat) (k v : Nat) : Nat → Nat := fun i => if i = k then v else r i
def upU (u : Nat → Bool) (k : Nat) (v : Bool) : Nat → Bool := fun i => if i = k then v else u i
theorem rootV_set {r : Nat → Nat} {k v : Nat} : setL (rootV r) k [.int .i64 ((v : Nat) : Int)] = rootV (upR r k v) := by
  refine List.ext_getElem? fun i => ?_
  rw [setL_get]
  by_cases hi : i < 4
  · rw [rootV_get hi, rootV_get hi]
    unfold upR
    by_cases e : i = k
    · rw [if_pos ⟨e, by rw [rootV_len]; omega⟩, if_pos e]
    · rw [if_neg fun h => e h.1, if_neg e]
  · rw [if_neg (fun h => by have := h.2; rw [rootV_len] at this; omega), List.getElem?_eq_none (by rw [rootV_len]; omega), List.getElem?_eq_none (by rw [rootV_len]; omega)]
theorem usedV_set {u : Nat → Bool} {k : Nat} {v : Bool} : setL (usedV u) k [.bool v] = usedV (upU u k v) := by
  refine List.ext_getElem? fun i => ?_
  rw [setL_get]
  by_cases hi : i < 128
  · rw [usedV_get hi, usedV_get hi]
    unfold upU
    by_cases e : i = k
    · rw [if_pos ⟨e, by rw [usedV_len]; omega⟩, if_pos e]
    · rw [if_neg fun h => e h.1, if_neg e]
  · rw [if_neg (fun h => by have := h.2; rw [usedV_len] at this; omega), List.getElem?_eq_none (by rw [usedV_len]; omega), List.getElem?_eq_none (by rw [usedV_len]; omega)]
theorem headC_setS (s s' : Nat) (r : Nat → Nat) (u : Nat → Bool) : setL (headC s r u) 0 [.int .u64 (s' : Nat)] = headC s' r u := rfl
theorem headC_setR (s : Nat) (r : Nat → Nat) (u : Nat → Bool) {k : Nat} (v : Nat) (hk : k < 4) : setL (headC s r u) (1 + k) [.int .i64 (v : Nat)] = headC s (upR r k v) u := by
  show setL ([.int .u64 (s : Nat)] ++ (rootV r ++ usedV u)) ([Value.int .u64 (s : Nat)].length + k) _ = [.int .u64 (s : Nat)] ++ (rootV (upR r k v) ++ usedV u)
  rw [setL_right, setL_left _ _ _ _ (by rw [rootV_len]; show k + 1 ≤ 4; omega), rootV_set]
theorem headC_setU (s : Nat) (r : Nat → Nat) (u : Nat → Bool) (k : Nat) (v : Bool) : setL (headC s r u) (5 + k) [.bool v] = headC s r (upU u k v) := by
  show setL ([.int .u64 (s : Nat)] ++ (rootV r ++ usedV u)) (5 + k) _ = [.int .u64 (s : Nat)] ++ (rootV r ++ usedV (upU u k v))
  have e : 5 + k = ([Value.int .u64 (s : Nat)] ++ rootV r).length + k := by rw [List.length_append, rootV_len]; rfl
  rw [e, ← List.append_assoc, setL_right, usedV_set, List.append_assoc]
theorem headC_congr {s : Nat} {r r' : Nat → Nat} {u u' : Nat → Bool} (h1 : ∀ k, k < 4 → r k = r' k) (h2 : ∀ i, i < 128 → u i = u' i) : headC s r u = headC s r' u' := by
  unfold headC rootV usedV
  rw [List.map_congr_left fun k hk => by rw [h1 k (List.mem_range.1 hk)], List.map_congr_left (l := List.range 128) fun k hk => by rw [h2 k (List.mem_range.1 hk)]]
theorem z114 : zeroL Tryz.prog 83 = headC 0 (fun _ => 0) fun _ => false := by kernel_rfl
theorem shiftIn (y x : Nat) (hx : x < 256) (hy : y < 256 ^ 7) : IntKind.u64.wrap (ior IntKind.u64 (IntKind.u64.wrap (ishl IntKind.u64 (y : Int) 8)) (IntKind.u64.wrap ((x : Nat) : Int))) = ((y * 256 + x : Nat) : Int) := by
  have hy : y < 72057594037927936 := hy
  rw [show (8 : Int) = ((8 : Nat) : Int) from rfl, shlN _ y 8 (by decide), wrap64s (y * 2 ^ 8) (by omega), wrap64s x (by omega), orN' _ x y 8 (by omega) (by show _ < 18446744073709551616; omega), wrap64s _ (by omega)]
  omega
theorem shiftIn2 (y x : Nat) (hx : x < 256) (hy : y < 256) : IntKind.i64.wrap (ior IntKind.i64 (IntKind.i64.wrap (ishl IntKind.i64 (IntKind.i64.wrap ((y : Nat) : Int)) 8)) (IntKind.i64.wrap ((x : Nat) : Int))) = ((y * 256 + x : Nat) : Int) := by
  rw [widN y (by omega), widN x (by omega), show (8 : Int) = ((8 : Nat) : Int) from rfl, shlN _ y 8 (by decide), widN (y * 2 ^ 8) (by omega), orN' _ x y 8 (by omega) (by show _ < 18446744073709551616; omega), widN _ (by omega)]
  omega
theorem bitRead (x k : Nat) (hx : x < 256) (hk : k < 8) : hb (IntKind.u8.wrap (iand IntKind.u8 (ishr IntKind.u8 ((x : Nat) : Int) ((k : Nat) : Int)) 1) == 1) = (x / 2 ^ k % 2 == 1) := by
  have h1 : x / 2 ^ k ≤ x := Nat.div_le_self ..
  rw [shrN _ _ _ (by show k ≤ 8; omega), and1 _ (by omega), u8c]
  generalize x / 2 ^ k = y
  have : y % 2 % 256 = y % 2 := Nat.mod_eq_of_lt (by omega)
  rw [this]
  have : y % 2 = 0 ∨ y % 2 = 1 := by omega
  rw [hb_eq]
  rcases this with e | e <;> rw [e] <;> decide

set_option maxHeartbeats 2000000 in
theorem pread_spec {h : Hp} {b : ByteArray} {n : Nat} {K : Value → Hp → Prop} (hb : b.size = 1024) (h1 : 1 ≤ n) (hn : n ≤ 128)
    (hZ : b = zeroB 1024 → ∀ h', Sub h h' → K (.tuple #[.agg (headC 0 (fun _ => 0) fun i => i == 0).toArray, .bool true]) h')
    (hO : b ≠ zeroB 1024 → OkHead b n → ∀ h', Sub h h' → K (.tuple #[.agg (headC (dser b 8) (droot b) (dbit b)).toArray, .bool true]) h')
    (hN : b ≠ zeroB 1024 → ¬ OkHead b n → ∀ h' xs, xs.length = 133 → plainP xs → Sub h h' → K (.tuple #[.agg xs.toArray, .bool false]) h') :
    CallsH Tryz.prog pager_read.id #[.string b, .int .i64 (n : Nat)] h K := by
  apply pager_read.calls
  unfold pager_read.W
  intro k1 hk1 k2 hk2
  rw [z114] at hk2 ⊢
  have B1 : Blk (h.upd k1 (.cells (headC 0 (fun _ => 0) fun _ => false).toArray 83 (0, 0))) k1 83 (headC 0 (fun _ => 0) fun _ => false) := Blk.new _ _ _ _
  have s1 : Sub h (h.upd k1 (.cells (headC 0 (fun _ => 0) fun _ => false).toArray 83 (0, 0))) := Sub.upd hk1 _
  generalize h.upd k1 (.cells (headC 0 (fun _ => 0) fun _ => false).toArray 83 (0, 0)) = y1 at B1 s1 hk2
  have hne : k1 ≠ k2 := B1.ne hk2
  have hk2h : h k2 = none := s1.none hk2
  have B2 : Blk (y1.upd k2 (.cells (headC 0 (fun _ => 0) fun _ => false).toArray 83 (0, 0))) k2 83 (headC 0 (fun _ => 0) fun _ => false) := Blk.new _ _ _ _
  have B1' := B1.sub (Sub.upd hk2 (.cells (headC 0 (fun _ => 0) fun _ => false).toArray 83 (0, 0)))
  have s2 := s1.trans (Sub.upd hk2 (.cells (headC 0 (fun _ => 0) fun _ => false).toArray 83 (0, 0)))
  clear B1 s1
  generalize y1.upd k2 (.cells (headC 0 (fun _ => 0) fun _ => false).toArray 83 (0, 0)) = y2 at B1' B2 s2
  have new2 : ∀ {x : Hp} (sx : Sub h x) (o' : Nat) (us : List Value), Sub h (x.put k2 o' us) := fun {x} sx o' us => (Keep.put (fun c => c = k2) x o' us rfl).sub sx fun c e => by rw [e]; exact hk2h
  have new1 : ∀ {x : Hp} (sx : Sub h x) (o' : Nat) (us : List Value), Sub h (x.put k1 o' us) := fun {x} sx o' us => (Keep.put (fun c => c = k1) x o' us rfl).sub sx fun c e => by rw [e]; exact hk1
  have hl := headC_len 0 (fun _ => 0) fun _ => false
  have B3 := B2.put 0 (headC 0 (fun _ => 0) fun _ => false)
  rw [setL_all rfl] at B3
  have B4 := B3.put (5 + 0) [.bool true]
  rw [headC_setU] at B4
  have B14 := (B1'.put_ne 0 (headC 0 (fun _ => 0) fun _ => false) hne).put_ne (5 + 0) [.bool true] hne
  have s4 := new2 (new2 s2 0 (headC 0 (fun _ => 0) fun _ => false)) (5 + 0) [.bool true]
  refine ⟨hl, headC_plain _ _ _, B2.store (by rw [hl]; decide), B3.store (by rw [hl]; decide), by decide, by decide, by decide, by decide, fun k3 hk3 => ?_⟩
  have hu0 : headC 0 (fun _ => 0) (upU (fun _ => false) 0 true) = headC 0 (fun _ => 0) fun i => i == 0 := headC_congr (fun _ _ => rfl) fun i _ => by
    unfold upU
    by_cases e : i = 0
    · rw [if_pos e, e]; rfl
    · rw [if_neg e]; symm; simpa using e
  rw [hu0] at B4
  have B5 := B4.sub (Sub.upd hk3 (.cells (repV 1024 [.int .u8 0]).toArray 5 (0, 0)))
  have B15 := B14.sub (Sub.upd hk3 (.cells (repV 1024 [.int .u8 0]).toArray 5 (0, 0)))
  have s5 := s4.trans (Sub.upd hk3 (.cells (repV 1024 [.int .u8 0]).toArray 5 (0, 0)))
  refine ⟨zeroB 1024, zero_slice (Hp.upd_same _ _ _), ?_⟩
  clear B3 B4 B14 s4 B2 B1' s2
  show cond (beqS b (zeroB 1024)) _ _
  generalize Hp.upd _ k3 _ = y5 at B5 B15 s5 ⊢
  -- what is told at the end
  have fin : ∀ {x : Hp} {t : Nat → Nat} {v : Nat → Bool} {w : Bool} {s : Nat} {L : List Value} (sx : Sub h x) (Bx : Blk x k1 83 (headC 0 (fun _ => 0) fun _ => false)) (hL : L.length = 133) (pL : plainP L), (∀ h', Sub h h' → K (.tuple #[.agg L.toArray, .bool w]) h') →
      L.length = 133 ∧ plainP L ∧ StoreOk x k1 0 L.length ∧ ∃ xs : List Value, xs.length = 133 ∧ CellsAt (x.put k1 0 L) k1 0 xs ∧ K (.tuple #[.agg xs.toArray, .bool w]) (x.put k1 0 L) := by
    intro x t v w s L sx Bx hL pL hK
    refine ⟨hL, pL, Bx.store (by rw [hL, hl]; decide), L, hL, ?_, hK _ (new1 sx _ _)⟩
    have := Bx.put 0 L
    rw [setL_all (by rw [hL, hl])] at this
    exact this.cellsAt fun i hi => by rw [Nat.zero_add]
  have z0 : ∀ {x : Hp} (Bx : Blk x k2 83 (headC 0 (fun _ => 0) fun _ => false)), True := fun _ => trivial
  refine split_beqS (fun e => ?_) fun hne0 => ?_
  · refine ⟨headC 0 (fun _ => 0) fun i => i == 0, headC_len _ _ _, B5.cellsAt fun i hi => by rw [Nat.zero_add], ?_⟩
    exact fin (t := fun _ => 0) (v := fun _ => false) (s := 0) s5 B15 (headC_len _ _ _) (headC_plain _ _ _) (hZ e)
  have bad : ¬ OkHead b n → ∀ {x : Hp}, Sub h x → Blk x k1 83 (headC 0 (fun _ => 0) fun _ => false) → (headC 0 (fun _ => 0) fun _ => false).length = 133 ∧ plainP (headC 0 (fun _ => 0) fun _ => false) ∧ StoreOk x k1 0 (headC 0 (fun _ => 0) fun _ => false).length ∧
      ∃ xs : List Value, xs.length = 133 ∧ CellsAt (x.put k1 0 (headC 0 (fun _ => 0) fun _ => false)) k1 0 xs ∧ K (.tuple #[.agg xs.toArray, .bool false]) (x.put k1 0 (headC 0 (fun _ => 0) fun _ => false)) := fun no {x} sx Bx =>
    fin (t := fun _ => 0) (v := fun _ => false) (s := 0) sx Bx hl (headC_plain _ _ _) fun h' s' => hN hne0 no h' _ hl (headC_plain _ _ _) s'
  have e18 : IntKind.i64.wrap (Int.ofNat 10 + 8) = 18 := by decide
  have e26 : IntKind.i64.wrap (18 + 8) = 26 := by decide
  have esz : Int.ofNat b.size = 1024 := by rw [hb]; rfl
  simp only [e18, e26, esz]
  have stp : ∀ {m j : Nat}, j < m → m ≤ 1000 → IntKind.i64.wrap ((j : Int) + 1) = ((j + 1 : Nat) : Int) := fun {m j} _ _ => by rw [wid (by omega) (by omega)]; omega
  refine ⟨fun i x m => ∃ j : Nat, i = (j : Int) ∧ j ≤ 8 ∧ m = 8 - j ∧ Sub h x ∧ Blk x k1 83 (headC 0 (fun _ => 0) fun _ => false) ∧ Blk x k2 83 (headC (dser b j) (fun _ => 0) fun i => i == 0), ⟨_, 0, rfl, by decide, rfl, s5, B15, B5⟩, ?_⟩
  rintro i x m ⟨j, rfl, hj, rfl, sx, A, B⟩
  refine split_dec (fun g => ?_) fun g => ?_
  · have g : j < 8 := by have : (j : Int) < 8 := g; omega
    have e1 : IntKind.i64.wrap (10 + (j : Int)) = ((10 + j : Nat) : Int) := by rw [wid (by omega) (by omega)]; omega
    have hd := dser_lt b j
    have hd7 : dser b j < 256 ^ 7 := Nat.lt_of_lt_of_le hd (Nat.pow_le_pow_right (by decide) (by omega))
    refine ⟨_, B.cell' 0 rfl, by decide, by rw [e1]; omega, by rw [e1]; omega, B.store (by rw [headC_len]; decide), 8 - (j + 1), by omega, j + 1, stp g (by decide), by omega, rfl, new2 sx _ _, A.put_ne _ _ hne, ?_⟩
    rw [e1, Int.toNat_natCast, byteAt_N, shiftIn _ _ (byteN_lt _ _) hd7]
    have := B.put 0 [.int .u64 ((dser b j * 256 + byteN b (10 + j) : Nat) : Int)]
    rw [headC_setS] at this
    exact this
  have : j = 8 := by
    have : ¬ (j : Int) < 8 := g
    omega
  subst this
  clear g B5 B15 s5
  refine ⟨fun i x m => ∃ j : Nat, i = (j : Int) ∧ j ≤ 4 ∧ m = 4 - j ∧ Sub h x ∧ Blk x k1 83 (headC 0 (fun _ => 0) fun _ => false) ∧ Blk x k2 83 (headC (dser b 8) (fun k => if k < j then droot b k else 0) fun i => i == 0), ⟨_, 0, rfl, by decide, rfl, sx, A, ?_⟩, ?_⟩
  · rw [headC_congr (r' := fun _ => 0) (u' := fun i => i == 0) (fun k _ => if_neg (Nat.not_lt_zero _)) fun _ _ => rfl]; exact B
  clear A B sx
  rintro i x m ⟨j, rfl, hj, rfl, sx, A, B⟩
  refine split_dec (fun g => ?_) fun g => ?_
  · have g : j < 4 := by have : (j : Int) < 4 := g; omega
    have e1 : IntKind.i64.wrap (2 * (j : Int)) = ((2 * j : Nat) : Int) := by rw [wid (by omega) (by omega)]; omega
    have e2 : IntKind.i64.wrap (18 + ((2 * j : Nat) : Int)) = ((18 + 2 * j : Nat) : Int) := by rw [wid (by omega) (by omega)]; omega
    have e3 : IntKind.i64.wrap (((18 + 2 * j : Nat) : Int) + 1) = ((19 + 2 * j : Nat) : Int) := by rw [wid (by omega) (by omega)]; omega
    have idx : 1 + (j : Int).toNat * 1 = 1 + j := by rw [Int.toNat_natCast]; omega
    rw [e1, e2, e3, idx]
    refine ⟨by omega, by omega, by decide, by omega, by omega, by omega, by omega, B.store (by rw [headC_len]; omega), 4 - (j + 1), by omega, j + 1, stp g (by decide), by omega, rfl, new2 sx _ _, A.put_ne _ _ hne, ?_⟩
    rw [Int.toNat_natCast, Int.toNat_natCast, byteAt_N, byteAt_N, shiftIn2 _ _ (byteN_lt _ _) (byteN_lt _ _)]
    have := B.put (1 + j) [.int .i64 ((droot b j : Nat) : Int)]
    rw [headC_setR _ _ _ _ g] at this
    rw [headC_congr (r' := upR (fun k => if k < j then droot b k else 0) j (droot b j)) (u' := fun i => i == 0) (fun k _ => ?_) fun _ _ => rfl]
    · exact this
    · show (if k < j + 1 then droot b k else 0) = if k = j then droot b j else if k < j then droot b k else 0
      by_cases e : k = j
      · rw [if_pos e, if_pos (by omega), e]
      · rw [if_neg e]
        by_cases e2 : k < j
        · rw [if_pos e2, if_pos (by omega)]
        · rw [if_neg e2, if_neg (by omega)]
  have : j = 4 := by
    have : ¬ (j : Int) < 4 := g
    omega
  subst this
  clear g
  rw [headC_congr (r' := droot b) (u' := fun i => i == 0) (fun k hk => if_pos hk) fun _ _ => rfl] at B
  refine ⟨fun i x m => ∃ j : Nat, i = (j : Int) ∧ j ≤ 128 ∧ m = 128 - j ∧ Sub h x ∧ Blk x k1 83 (headC 0 (fun _ => 0) fun _ => false) ∧ Blk x k2 83 (headC (dser b 8) (droot b) fun i => if i < j then dbit b i else i == 0) ∧ ∀ i, i < j → dbit b i = true → i < n, ⟨_, 0, rfl, by decide, rfl, sx, A, ?_, fun i hi => absurd hi (Nat.not_lt_zero _)⟩, ?_⟩
  · rw [headC_congr (r' := droot b) (u' := fun i => i == 0) (fun _ _ => rfl) fun k _ => if_neg (Nat.not_lt_zero _)]; exact B
  clear A B sx
  rintro i x m ⟨j, rfl, hj, rfl, sx, A, B, hbel⟩
  refine split_dec (fun g => ?_) fun g => ?_
  · have g : j < 128 := by have : (j : Int) < 128 := g; omega
    have e1 : IntKind.i64.wrap (26 + IntKind.i64.wrap ((j : Int).tdiv 8)) = ((26 + j / 8 : Nat) : Int) := by
      rw [tdiv8, widN _ (by omega), wid (by omega) (by omega)]; omega
    have idx : 5 + (j : Int).toNat * 1 = 5 + j := by rw [Int.toNat_natCast]; omega
    have val : Go.Gx.hb (IntKind.u8.wrap (iand IntKind.u8 (ishr IntKind.u8 (byteAt b (26 + j / 8)) ((j % 8 : Nat) : Int)) 1) == 1) = dbit b j := by
      rw [byteAt_N, bitRead _ _ (byteN_lt _ _) (Nat.mod_lt _ (by decide))]; rfl
    rw [e1, idx, tmod8, Int.toNat_natCast, val]
    have B' := B.put (5 + j) [.bool (dbit b j)]
    rw [headC_setU, headC_congr (r' := droot b) (u' := fun i => if i < j + 1 then dbit b i else i == 0) (fun _ _ => rfl) fun k _ => ?_] at B'
    rotate_left
    · show upU (fun i => if i < j then dbit b i else i == 0) j (dbit b j) k = if k < j + 1 then dbit b k else k == 0
      unfold upU
      by_cases e : k = j
      · rw [if_pos e, if_pos (by omega), e]
      · rw [if_neg e]
        show (if k < j then dbit b k else k == 0) = _
        by_cases e2 : k < j
        · rw [if_pos e2, if_pos (by omega)]
        · rw [if_neg e2, if_neg (by omega)]
    refine ⟨by decide, by omega, by omega, by decide, by omega, by omega, by omega, B.store (by rw [headC_len]; show 5 + j + 1 ≤ 133; omega), by omega, by omega, dbit b j, ?_, split_cond (fun eb => split_dec (fun e => ?_) fun e => ?_) fun eb => ?_⟩
    · exact B'.cell' _ (by rw [headC_used _ _ _ g, if_pos (Nat.lt_succ_self _)])
    · have e : ((j : Nat) : Int) ≥ (n : Int) := e
      exact bad (fun H => by have := H.below j g eb; omega) (new2 sx _ _) (A.put_ne _ _ hne)
    · have e : ¬ ((j : Nat) : Int) ≥ (n : Int) := e
      refine ⟨128 - (j + 1), by omega, j + 1, stp g (by decide), by omega, rfl, new2 sx _ _, A.put_ne _ _ hne, B', fun i hi hbi => ?_⟩
      by_cases e2 : i = j
      · omega
      · exact hbel i (by omega) hbi
    · refine ⟨128 - (j + 1), by omega, j + 1, stp g (by decide), by omega, rfl, new2 sx _ _, A.put_ne _ _ hne, B', fun i hi hbi => ?_⟩
      by_cases e2 : i = j
      · rw [e2, eb] at hbi; cases hbi
      · exact hbel i (by omega) hbi
  have : j = 128 := by
    have : ¬ (j : Int) < 128 := g
    omega
  subst this
  clear g
  rw [headC_congr (r' := droot b) (u' := dbit b) (fun _ _ => rfl) fun k hk => if_pos hk] at B
  refine ⟨_, B.cell' _ (headC_root _ _ _ (k := 0) (by decide)), _, B.cell' _ (headC_root _ _ _ (k := 1) (by decide)), _, B.cell' _ (headC_root _ _ _ (k := 2) (by decide)), _, B.cell' _ (headC_root _ _ _ (k := 3) (by decide)), ?_⟩
  refine ⟨fun i y m => ∃ j : Nat, i = (j : Int) ∧ j ≤ 4 ∧ m = 4 - j ∧ y = x ∧ ∀ k, k < j → droot b k < 128 ∧ (droot b k ≠ 0 → dbit b (droot b k) = true), ⟨_, 0, rfl, by decide, rfl, rfl, fun k hk => absurd hk (Nat.not_lt_zero _)⟩, ?_⟩
  rintro i y m ⟨j, rfl, hj, rfl, rfl, hroots⟩
  refine split_dec (fun g => ?_) fun g => ?_
  · have g : j < 4 := by have : (j : Int) < 4 := g; omega
    refine ⟨by omega, by omega, _, lget4 g, split_dec (fun e => ?_) fun e => split_ne (fun e2 => ?_) fun e2 => ?_⟩
    · have e : ((droot b j : Nat) : Int) ≥ 128 := e
      exact bad (fun H => by have := (H.roots j g).1; omega) sx A
    · have e : ¬ ((droot b j : Nat) : Int) ≥ 128 := e
      have idx : 5 + ((droot b j : Nat) : Int).toNat * 1 = 5 + droot b j := by rw [Int.toNat_natCast]; omega
      refine ⟨by omega, by omega, dbit b (droot b j), ?_, split_not (fun e3 => bad (fun H => ?_) sx A) fun e3 => ⟨4 - (j + 1), by omega, j + 1, stp g (by decide), by omega, rfl, rfl, fun k hk => ?_⟩⟩
      · rw [idx]; exact B.cell' _ (headC_used _ _ _ (by omega))
      · have := (H.roots j g).2 (fun e4 => e2 (by rw [e4]; rfl))
        rw [this] at e3; cases e3
      · by_cases ek : k = j
        · rw [ek]; exact ⟨by omega, fun _ => e3⟩
        · exact hroots k (by omega)
    · have e2 : ((droot b j : Nat) : Int) = 0 := e2
      refine ⟨4 - (j + 1), by omega, j + 1, stp g (by decide), by omega, rfl, rfl, fun k hk => ?_⟩
      by_cases ek : k = j
      · rw [ek]; exact ⟨by omega, fun h => by omega⟩
      · exact hroots k (by omega)
  have : j = 4 := by
    have : ¬ (j : Int) < 4 := g
    omega
  subst this
  have notOk : ¬ OkHead b n → ∀ {z : Hp}, Sub h z → Blk z k1 83 (headC 0 (fun _ => 0) fun _ => false) → _ := fun no {z} sz Bz =>
    fin (x := z) (w := false) (t := fun _ => 0) (v := fun _ => false) (s := 0) (L := headC (dser b 8) (droot b) (dbit b)) sz Bz (headC_len _ _ _) (headC_plain _ _ _) fun h' s' => hN hne0 no h' _ (headC_len _ _ _) (headC_plain _ _ _) s'
  refine ⟨headC (dser b 8) (droot b) (dbit b), headC_len _ _ _, B.cellsAt fun i hi => by rw [Nat.zero_add], _, B.cell' 5 (headC_used _ _ _ (i := 0) (by decide)), split_cond (fun e0 => ?_) fun e0 => ⟨Sub.refl _, notOk (fun H => by rw [H.zero] at e0; cases e0) sx A⟩⟩
  refine ⟨_, B.cell' 0 rfl, split_dec (fun e => ?_) fun e => ⟨Sub.refl _, notOk (fun H => e (by have := H.ser; omega)) sx A⟩⟩
  refine bytes_spec (B.cellsAt fun i hi => by rw [Nat.zero_add]) fun z sz => ⟨_, rfl, sz, ?_⟩
  rw [beqS_val]
  by_cases eb : tabB (encN (dser b 8) (droot b) (dbit b) 128) = b
  · rw [decide_eq_true eb]
    exact fin (t := fun _ => 0) (v := fun _ => false) (s := 0) (sx.trans sz) (A.sub sz) (headC_len _ _ _) (headC_plain _ _ _) (hO hne0 ⟨hbel, hroots, e0, by have e : ((dser b 8 : Nat) : Int) ≤ 9223372036854775807 := e; omega, eb⟩)
  · rw [decide_eq_false eb]
    exact notOk (fun H => eb H.bytes) (sx.trans sz) (A.sub sz)
end Go.Proofs.YthbogjbcecmopaaGreatDoor
namespace Go.Proofs.YthbogjbcecmopaaGreatDoor
open Go.Gx
set_option maxRecDepth 100000
set_option linter.unusedVariables false

def boolC (b : Bool) : List Value := [.bool b]
theorem boolC_len (b : Bool) : (boolC b).length = 1 := rfl
def stC (ua : Option Addr) (ul uc : Nat) (da : Option Addr) (dl dc : Nat) (r : Nat → Nat) (s : Nat) : List Value :=
  [.slice ua ul uc, .slice da dl dc, .int .i64 (r 0 : Nat), .int .i64 (r 1 : Nat), .int .i64 (r 2 : Nat), .int .i64 (r 3 : Nat), .int .u64 (s : Nat)]
end Go.Proofs.YthbogjbcecmopaaGreatDoor
namespace Go.Proofs.YthbogjbcecmopaaGreatDoor
open Go.Gx
set_option maxRecDepth 100000
set_option linter.unusedVariables false

theorem wrs_on : ∀ (W : List (Nat × ByteArray)) (D : Dk), D.down = false → D.fuse = 0 → wrs D W = ({ D with ws := D.ws ++ W }, 0)
  | [], D, _, _ => by show (D, (0 : Int)) = _; rw [List.append_nil]
  | w :: W, D, hd, hf => by
    have e : D.write w.1 w.2 = { D with ws := D.ws ++ [w] } := by
      unfold Dk.write
      rw [hf, if_neg (by decide)]
    rw [wrs_cons, if_neg (by rw [hd]; decide), e, wrs_on W { D with ws := D.ws ++ [w] } (by exact hd) (by exact hf)]
    simp only [List.append_assoc, List.singleton_append]
theorem flD_on {D : Dk} (hd : D.down = false) : flD (D, 0) = (D.flush, 0) := by
  unfold flD
  rw [if_neg (fun h => h rfl)]
  show (if D.down = true then (D, (10 : Int)) else (D.flush, 0)) = _
  rw [hd, if_neg (by decide)]
theorem step_on {D : Dk} (hd : D.down = false) (hf : D.fuse = 0) (hw : D.ws = []) (W : List (Nat × ByteArray)) : flD (wrs D W) = (⟨settleL D.l W, [], 0, false⟩, 0) := by
  rw [wrs_on W D hd hf, flD_on (by exact hd)]
  unfold Dk.flush
  simp only [hw, hf, hd, List.nil_append]
theorem commit_on {D : Dk} (hd : D.down = false) (hf : D.fuse = 0) (hw : D.ws = []) (n : Nat) (ds : List Ch) :
    commitD n D ds = (⟨settleL (settleL (settleL (settleL D.l (logW ds)) [(0, markB ds)]) (ownW n ds)) [(0, zeroB 256)], [], 0, false⟩, 0) := by
  have st : ∀ (l : List ByteArray) (W : List (Nat × ByteArray)), flD (wrs ⟨l, [], 0, false⟩ W) = (⟨settleL l W, [], 0, false⟩, 0) := fun l W => step_on rfl rfl rfl W
  unfold commitD andD
  rw [step_on hd hf hw]
  simp only [st, if_true]
def secs (l : List ByteArray) (at_ : Nat) : List UInt8 := (l.getD at_ (bytesL [])).data.toList ++ (l.getD (at_ + 1) (bytesL [])).data.toList ++ (l.getD (at_ + 2) (bytesL [])).data.toList ++ (l.getD (at_ + 3) (bytesL [])).data.toList
def pageL (l : List ByteArray) (at_ : Nat) : ByteArray := ⟨(secs l at_).toArray⟩
theorem page_L {D : Dk} (hw : D.ws = []) (at_ : Nat) : D.page at_ = pageL D.l at_ := by
  unfold Dk.page pageL secs
  unfold Dk.look Dk.look Dk.look Dk.look Dk.look Dk.read
  rw [hw, List.nil_append]; rfl
theorem settle_other : ∀ (W : List (Nat × ByteArray)) (l : List ByteArray) (i : Nat), (∀ w ∈ W, w.1 ≠ i) → (settleL l W)[i]? = l[i]?
  | [], _, _, _ => rfl
  | w :: W, l, i, h => by
    show (settleL (l.set w.1 w.2) W)[i]? = _
    rw [settle_other W _ i fun w' hw' => h w' (List.mem_cons_of_mem _ hw'), List.getElem?_set_ne (h w List.mem_cons_self)]
theorem settle_append (l : List ByteArray) (A B : List (Nat × ByteArray)) : settleL l (A ++ B) = settleL (settleL l A) B := List.foldl_append ..
theorem parts_eq (at_ : Nat) (s : ByteArray) : parts at_ s = [(at_ + 0, s.extract 0 256), (at_ + 1, s.extract 256 512), (at_ + 2, s.extract 512 768), (at_ + 3, s.extract 768 1024)] := rfl
theorem getD_of {l : List ByteArray} {i : Nat} {s : ByteArray} (h : l[i]? = some s) : l.getD i (bytesL []) = s := by rw [List.getD_eq_getElem?_getD, h]; rfl
theorem getD_eq {l m : List ByteArray} {i : Nat} (h : l[i]? = m[i]?) : l.getD i (bytesL []) = m.getD i (bytesL []) := by rw [List.getD_eq_getElem?_getD, List.getD_eq_getElem?_getD, h]
theorem four_parts {s : ByteArray} (hs : s.size = 1024) : (s.extract 0 256).data.toList ++ (s.extract 256 512).data.toList ++ (s.extract 512 768).data.toList ++ (s.extract 768 1024).data.toList = s.data.toList := by
  have hl : s.data.toList.length = 1024 := by rw [size_len, hs]
  simp only [ByteArray.data_extract, Array.toList_extract, List.extract_eq_take_drop]
  generalize s.data.toList = L at hl
  rw [List.drop_zero]
  have e : ∀ a : Nat, (L.drop a).take 256 ++ L.drop (a + 256) = L.drop a := fun a => by
    rw [← List.drop_drop, List.take_append_drop]
  have e3 : (L.drop 768).take 256 = L.drop 768 := List.take_of_length_le (by rw [List.length_drop]; omega)
  show L.take 256 ++ (L.drop 256).take 256 ++ (L.drop 512).take 256 ++ (L.drop 768).take 256 = L
  rw [e3, List.append_assoc, e 512, List.append_assoc, e 256, List.take_append_drop]
theorem page_parts {l : List ByteArray} {at_ : Nat} {s : ByteArray} (hs : s.size = 1024) (hat : at_ + 4 ≤ l.length) : pageL (settleL l (parts at_ s)) at_ = s := by
  unfold pageL secs
  rw [parts_eq]
  have g : ∀ (k : Nat) (t : ByteArray), (settleL l [(at_ + 0, s.extract 0 256), (at_ + 1, s.extract 256 512), (at_ + 2, s.extract 512 768), (at_ + 3, s.extract 768 1024)])[at_ + k]? = some t → (settleL l [(at_ + 0, s.extract 0 256), (at_ + 1, s.extract 256 512), (at_ + 2, s.extract 512 768), (at_ + 3, s.extract 768 1024)]).getD (at_ + k) (bytesL []) = t := fun k t h => getD_of h
  have w : settleL l [(at_ + 0, s.extract 0 256), (at_ + 1, s.extract 256 512), (at_ + 2, s.extract 512 768), (at_ + 3, s.extract 768 1024)] = (((l.set (at_ + 0) (s.extract 0 256)).set (at_ + 1) (s.extract 256 512)).set (at_ + 2) (s.extract 512 768)).set (at_ + 3) (s.extract 768 1024) := rfl
  rw [w] at g ⊢
  have g0 := g 0 (s.extract 0 256) (by rw [List.getElem?_set_ne (by omega), List.getElem?_set_ne (by omega), List.getElem?_set_ne (by omega), List.getElem?_set_self (by omega)])
  have g1 := g 1 (s.extract 256 512) (by rw [List.getElem?_set_ne (by omega), List.getElem?_set_ne (by omega), List.getElem?_set_self (by rw [List.length_set]; omega)])
  have g2 := g 2 (s.extract 512 768) (by rw [List.getElem?_set_ne (by omega), List.getElem?_set_self (by rw [List.length_set, List.length_set]; omega)])
  have g3 := g 3 (s.extract 768 1024) (by rw [List.getElem?_set_self (by rw [List.length_set, List.length_set, List.length_set]; omega)])
  rw [Nat.add_zero] at g0
  rw [show at_ + 0 = at_ from rfl] at *
  rw [g0, g1, g2, g3, four_parts hs]
theorem page_other {l : List ByteArray} {W : List (Nat × ByteArray)} {at_ : Nat} (h : ∀ w ∈ W, w.1 < at_ ∨ at_ + 4 ≤ w.1) : pageL (settleL l W) at_ = pageL l at_ := by
  unfold pageL secs
  rw [getD_eq (settle_other W l at_ fun w hw => by have := h w hw; omega), getD_eq (settle_other W l (at_ + 1) fun w hw => by have := h w hw; omega),
    getD_eq (settle_other W l (at_ + 2) fun w hw => by have := h w hw; omega), getD_eq (settle_other W l (at_ + 3) fun w hw => by have := h w hw; omega)]
theorem parts_mem {at_ : Nat} {s : ByteArray} {w : Nat × ByteArray} (h : w ∈ parts at_ s) : at_ ≤ w.1 ∧ w.1 < at_ + 4 := by
  unfold parts at h
  obtain ⟨i, hi, rfl⟩ := List.mem_map.1 h
  have := List.mem_range.1 hi
  constructor
  · show at_ ≤ at_ + i; omega
  · show at_ + i < at_ + 4; omega
def updP (ds : List Ch) (p : Nat) (x : ByteArray) : ByteArray := ds.foldl (fun a c => if c.1 = p then c.2 else a) x
theorem page_own (n p : Nat) : ∀ (ds : List Ch) (l : List ByteArray), (∀ c ∈ ds, c.2.size = 1024 ∧ c.1 < n) → 8 * n + 1 ≤ l.length → pageL (settleL l (ownW n ds)) (1 + 4 * (n + p)) = updP ds p (pageL l (1 + 4 * (n + p)))
  | [], _, _, _ => rfl
  | c :: ds, l, h, hl => by
    obtain ⟨hc1, hc2⟩ := h c List.mem_cons_self
    have e : settleL l (ownW n (c :: ds)) = settleL (settleL l (parts (1 + 4 * (n + c.1)) c.2)) (ownW n ds) := by
      show settleL l (parts (1 + 4 * (n + c.1)) c.2 ++ ownW n ds) = _
      exact settle_append _ _ _
    rw [e, page_own n p ds _ (fun d hd => h d (List.mem_cons_of_mem _ hd)) (by rw [settleL_len]; exact hl)]
    show updP ds p _ = updP ds p (if c.1 = p then c.2 else _)
    by_cases ec : c.1 = p
    · rw [if_pos ec, ← ec, page_parts hc1 (by omega)]
    · rw [if_neg ec, page_other fun w hw => by have := parts_mem hw; omega]
theorem log_mem {ds : List Ch} {n : Nat} (h : ∀ c ∈ ds, c.1 < n) {w : Nat × ByteArray} (hw : w ∈ logW ds) : 1 ≤ w.1 ∧ w.1 < 1 + 4 * n := by
  unfold logW at hw
  obtain ⟨c, hc, hw⟩ := List.mem_flatMap.1 hw
  have := parts_mem hw
  have := h c hc
  omega
theorem own_mem {ds : List Ch} {n : Nat} {w : Nat × ByteArray} (hw : w ∈ ownW n ds) : 1 + 4 * n ≤ w.1 := by
  unfold ownW at hw
  obtain ⟨c, hc, hw⟩ := List.mem_flatMap.1 hw
  have := parts_mem hw
  omega
theorem commit_own {D : Dk} (hd : D.down = false) (hf : D.fuse = 0) (hw : D.ws = []) {n : Nat} {ds : List Ch} (hds : ∀ c ∈ ds, c.2.size = 1024 ∧ c.1 < n) (hl : 8 * n + 1 ≤ D.l.length) :
    (commitD n D ds).2 = 0 ∧ (commitD n D ds).1.down = false ∧ (commitD n D ds).1.fuse = 0 ∧ (commitD n D ds).1.ws = [] ∧ (commitD n D ds).1.l.length = D.l.length ∧ (1 ≤ D.l.length → (commitD n D ds).1.read 0 = zeroB 256) ∧ ∀ p, (commitD n D ds).1.own n p = updP ds p (D.own n p) := by
  rw [commit_on hd hf hw]
  refine ⟨rfl, rfl, rfl, rfl, ?_, fun h1 => ?_, fun p => ?_⟩
  · simp only [settleL_len]
  · unfold Dk.read
    simp only [List.foldl_nil]
    apply getD_of
    show (List.set _ 0 _)[0]? = _
    rw [List.getElem?_set_self]
    simp only [settleL_len]; omega
  · unfold Dk.own
    rw [page_L rfl, page_L hw]
    show pageL (settleL (settleL (settleL (settleL D.l (logW ds)) [(0, markB ds)]) (ownW n ds)) [(0, zeroB 256)]) _ = _
    rw [page_other fun w hw => by rw [List.mem_singleton.1 hw]; show 0 < _ ∨ _; omega, page_own n p ds _ hds (by simp only [settleL_len]; exact hl),
      page_other fun w hw => by rw [List.mem_singleton.1 hw]; show 0 < _ ∨ _; omega, page_other fun w hw => by have := log_mem (fun c hc => (hds c hc).2) hw; omega]
theorem updP_none : ∀ {ds : List Ch} {p : Nat} {x : ByteArray}, (∀ c ∈ ds, c.1 ≠ p) → updP ds p x = x
  | [], _, _, _ => rfl
  | c :: ds, p, x, h => by
    show updP ds p (if c.1 = p then c.2 else x) = x
    rw [if_neg (h c List.mem_cons_self)]
    exact updP_none fun d hd => h d (List.mem_cons_of_mem _ hd)
theorem updP_mem : ∀ {ds : List Ch} {p : Nat} {s x : ByteArray}, (p, s) ∈ ds → (ds.map (·.1)).Nodup → updP ds p x = s
  | c :: ds, p, s, x, h, hn => by
    rw [List.map_cons, List.nodup_cons] at hn
    show updP ds p (if c.1 = p then c.2 else x) = s
    rcases List.mem_cons.1 h with rfl | h
    · rw [if_pos rfl]
      exact updP_none fun d hd e => hn.1 (List.mem_map.2 ⟨d, hd, e⟩)
    · exact updP_mem h hn.2
end Go.Proofs.YthbogjbcecmopaaGreatDoor
namespace Go.Proofs.YthbogjbcecmopaaGreatDoor
open Go.Gx
set_option maxRecDepth 100000
set_option linter.unusedVariables false

def mapD (L : List Ch) : List (Value × Value) := L.map fun e => (.int .i64 (e.1 : Nat), .string e.2)
def dget (L : List Ch) (i : Nat) : Option ByteArray := (L.find? fun e => e.1 == i).map (·.2)
def dset (L : List Ch) (i : Nat) (s : ByteArray) : List Ch :=
  match dget L i with
  | some _ => L.map fun e => if e.1 = i then (i, s) else e
  | none => L ++ [(i, s)]
def ddel (L : List Ch) (i : Nat) : List Ch := L.filter fun e => e.1 != i
theorem key_eq {a b : Nat} : (Value.int .i64 (a : Nat) = Value.int .i64 (b : Nat)) ↔ a = b := by
  constructor
  · intro h; cases h with
    | refl => rfl
  · rintro rfl; rfl
theorem mapD_get (L : List Ch) (i : Nat) : mget (mapD L) (.int .i64 (i : Nat)) = (dget L i).map .string := by
  unfold mget mapD dget
  induction L with
  | nil => rfl
  | cons e L ih =>
    rw [List.map_cons]
    by_cases h : e.1 = i
    · rw [List.find?_cons_of_pos (by simpa using congrArg (fun n : Nat => (n : Int)) h), List.find?_cons_of_pos (by simpa using h)]; rfl
    · rw [List.find?_cons_of_neg (by simpa using fun e' => h (by omega)), List.find?_cons_of_neg (by simpa using h)]; exact ih
theorem mapD_set (L : List Ch) (i : Nat) (s : ByteArray) : mset (mapD L) (.int .i64 (i : Nat)) (.string s) = mapD (dset L i s) := by
  unfold mset dset
  rw [mapD_get]
  cases h : dget L i with
  | none =>
    show mapD L ++ _ = mapD (L ++ _)
    unfold mapD
    rw [List.map_append]; rfl
  | some t =>
    show (mapD L).map _ = mapD (L.map _)
    unfold mapD
    rw [List.map_map, List.map_map]
    refine List.map_congr_left fun e _ => ?_
    simp only [Function.comp]
    by_cases he : e.1 = i
    · rw [if_pos (by rw [he]), if_pos he]
    · rw [if_neg (fun h => he (key_eq.1 h)), if_neg he]
theorem mapD_del (L : List Ch) (i : Nat) : mdel (mapD L) (.int .i64 (i : Nat)) = mapD (ddel L i) := by
  unfold mdel mapD ddel
  rw [List.filter_map]
  congr 1
  refine List.filter_congr fun e _ => ?_
  simp only [Function.comp]
  by_cases he : e.1 = i
  · have h1 : (e.1 != i) = false := by simpa using he
    rw [h1]
    simpa using congrArg (fun n : Nat => (n : Int)) he
  · have h1 : (e.1 != i) = true := by simpa using he
    rw [h1]
    simpa using fun e' => he (by omega)
theorem dget_set (L : List Ch) (i j : Nat) (s : ByteArray) : dget (dset L i s) j = if j = i then some s else dget L j := by
  have h1 := mget_mset (mapD L) (.int .i64 (i : Nat)) (.string s) (.int .i64 (j : Nat))
  rw [mapD_set, mapD_get, mapD_get] at h1
  by_cases e : j = i
  · rw [if_pos e]
    have := h1.1 (key_eq.2 e)
    cases hd : dget (dset L i s) j with
    | none => rw [hd] at this; cases this
    | some t => rw [hd] at this; cases this; rfl
  · rw [if_neg e]
    have := h1.2 fun h => e (key_eq.1 h)
    cases hd : dget (dset L i s) j with
    | none =>
      rw [hd] at this
      cases hd2 : dget L j with
      | none => rfl
      | some t => rw [hd2] at this; cases this
    | some t =>
      rw [hd] at this
      cases hd2 : dget L j with
      | none => rw [hd2] at this; cases this
      | some t2 => rw [hd2] at this; cases this; rfl
theorem dget_del (L : List Ch) (i j : Nat) : dget (ddel L i) j = if j = i then none else dget L j := by
  unfold dget ddel
  induction L with
  | nil => split <;> rfl
  | cons e L ih =>
    by_cases h : e.1 = i
    · rw [List.filter_cons_of_neg (by simpa using h), ih]
      by_cases hj : j = i
      · rw [if_pos hj, if_pos hj]
      · rw [if_neg hj, if_neg hj, List.find?_cons_of_neg (by simpa using fun e' => hj (by omega))]
    · rw [List.filter_cons_of_pos (by simpa using h)]
      by_cases hj : e.1 = j
      · rw [List.find?_cons_of_pos (by simpa using hj), List.find?_cons_of_pos (by simpa using hj), if_neg (by omega)]
      · rw [List.find?_cons_of_neg (by simpa using hj), List.find?_cons_of_neg (by simpa using hj)]; exact ih
structure DOk (n : Nat) (L : List Ch) : Prop where
  nd : (L.map (·.1)).Nodup
  mem : ∀ e ∈ L, e.1 < n ∧ e.2.size = 1024
  pos : ∀ e ∈ L, 1 ≤ e.1
theorem DOk.nil (n : Nat) : DOk n [] := ⟨List.nodup_nil, (fun e h => by cases h), fun e h => by cases h⟩
theorem dget_mem {L : List Ch} {i : Nat} {s : ByteArray} (h : dget L i = some s) : (i, s) ∈ L := by
  unfold dget at h
  obtain ⟨e, he, hs⟩ := Option.map_eq_some_iff.1 h
  have h1 := List.mem_of_find?_eq_some he
  have h2 : e.1 = i := by simpa using List.find?_some he
  obtain ⟨a, b⟩ := e
  cases hs; cases h2; exact h1
theorem dget_none {L : List Ch} {i : Nat} (h : dget L i = none) : ∀ e ∈ L, e.1 ≠ i := fun e he h2 => by
  unfold dget at h
  rw [Option.map_eq_none_iff, List.find?_eq_none] at h
  exact h e he (by simpa using h2)
theorem mem_dget {L : List Ch} (hn : (L.map (·.1)).Nodup) {i : Nat} {s : ByteArray} (h : (i, s) ∈ L) : dget L i = some s := by
  induction L with
  | nil => cases h
  | cons e L ih =>
    rw [List.map_cons, List.nodup_cons] at hn
    unfold dget
    rcases List.mem_cons.1 h with rfl | h
    · rw [List.find?_cons_of_pos (by simp)]; rfl
    · rw [List.find?_cons_of_neg (by
        have : e.1 ≠ i := fun e' => hn.1 (List.mem_map.2 ⟨_, h, e'.symm⟩)
        simpa using this)]
      exact ih hn.2 h
theorem DOk.set {n : Nat} {L : List Ch} (H : DOk n L) {i : Nat} {s : ByteArray} (h1 : 1 ≤ i) (hi : i < n) (hs : s.size = 1024) : DOk n (dset L i s) := by
  unfold dset
  cases h : dget L i with
  | none =>
    refine ⟨?_, fun e he => ?_, fun e he => ?_⟩
    rotate_left 2
    · rcases List.mem_append.1 he with he | he
      · exact H.pos e he
      · rw [List.mem_singleton.1 he]; exact h1
    · rw [List.map_append, List.nodup_append]
      refine ⟨H.nd, by simp, fun a ha b hb => ?_⟩
      obtain ⟨e, he, rfl⟩ := List.mem_map.1 ha
      have : b = i := by simpa using hb
      rw [this]; exact dget_none h e he
    · rcases List.mem_append.1 he with he | he
      · exact H.mem e he
      · rw [List.mem_singleton.1 he]; exact ⟨hi, hs⟩
  | some t =>
    refine ⟨?_, fun e he => ?_, fun e he => ?_⟩
    rotate_left 2
    · obtain ⟨e', he', rfl⟩ := List.mem_map.1 he
      by_cases h2 : e'.1 = i
      · rw [if_pos h2]; exact h1
      · rw [if_neg h2]; exact H.pos e' he'
    · show ((L.map _).map _).Nodup
      rw [List.map_map]
      have : (L.map ((fun x : Ch => x.1) ∘ fun e => if e.1 = i then (i, s) else e)) = L.map (·.1) := List.map_congr_left fun e _ => by
        simp only [Function.comp]
        by_cases he : e.1 = i
        · rw [if_pos he, he]
        · rw [if_neg he]
      rw [this]; exact H.nd
    · obtain ⟨e', he', rfl⟩ := List.mem_map.1 he
      by_cases h2 : e'.1 = i
      · rw [if_pos h2]; exact ⟨hi, hs⟩
      · rw [if_neg h2]; exact H.mem e' he'
theorem DOk.del {n : Nat} {L : List Ch} (H : DOk n L) (i : Nat) : DOk n (ddel L i) :=
  ⟨H.nd.sublist (List.filter_sublist.map _), (fun e he => H.mem e (List.mem_filter.1 he).1), fun e he => H.pos e (List.mem_filter.1 he).1⟩
theorem nodup_below : ∀ (n : Nat) (l : List Nat), l.Nodup → (∀ x ∈ l, x < n) → l.length ≤ n
  | 0, l, _, h => by
    cases l with
    | nil => exact Nat.le_refl _
    | cons x l => exact absurd (h x List.mem_cons_self) (Nat.not_lt_zero _)
  | n + 1, l, hn, h => by
    by_cases hm : n ∈ l
    · have h1 := nodup_below n (l.erase n) (hn.erase n) fun x hx => by
        have h2 := h x (List.mem_of_mem_erase hx)
        have h3 : x ≠ n := fun e => by rw [e] at hx; exact (List.Nodup.not_mem_erase hn) hx
        omega
      rw [List.length_erase_of_mem hm] at h1
      omega
    · have := nodup_below n l hn fun x hx => by
        have h2 := h x hx
        have h3 : x ≠ n := fun e => hm (e ▸ hx)
        omega
      omega
theorem DOk.len {n : Nat} {L : List Ch} (H : DOk n L) : L.length ≤ n := by
  have := nodup_below n (L.map (·.1)) H.nd fun x hx => by
    obtain ⟨e, he, rfl⟩ := List.mem_map.1 hx
    exact (H.mem e he).1
  rw [List.length_map] at this; exact this
end Go.Proofs.YthbogjbcecmopaaGreatDoor
namespace Go.Proofs.YthbogjbcecmopaaGreatDoor
open Go.Gx
set_option maxRecDepth 100000
set_option linter.unusedVariables false

structure Hd where
  s : Nat
  r : Nat → Nat
  u : Nat → Bool
def Hd.c (H : Hd) : List Value := headC H.s H.r H.u
theorem Hd.len (H : Hd) : H.c.length = 133 := headC_len _ _ _
theorem Hd.plain (H : Hd) : plainP H.c := headC_plain _ _ _
structure Pt where
  h : Hd
  m : Nat
  d : List Ch
def ptC (q : Pt) : List Value := q.h.c ++ [.map (some q.m)]
structure Pg where
  good : Hd
  now : Hd
  d : List Ch
  pts : List (Hd × List Ch)
def pgC (jb : Nat) (g n : Hd) (mb : Nat) (pa : Option Addr) (pl pc : Nat) : List Value := [.pointer (some ⟨jb, 0, none⟩)] ++ (g.c ++ (n.c ++ [.map (some mb), .slice pa pl pc]))
section
variable {jb mb pl pc : Nat} {g n : Hd} {pa : Option Addr}
theorem pgC_len : (pgC jb g n mb pa pl pc).length = 269 := by
  unfold pgC
  rw [List.length_append, List.length_append, List.length_append, Hd.len, Hd.len]; rfl
theorem pgC_0 : (pgC jb g n mb pa pl pc)[0]? = some (.pointer (some ⟨jb, 0, none⟩)) := rfl
theorem pgC_good {i : Nat} (hi : i < 133) : (pgC jb g n mb pa pl pc)[1 + i]? = g.c[i]? := by
  unfold pgC
  rw [List.getElem?_append_right (by show 1 ≤ 1 + i; omega), show 1 + i - [Value.pointer (some ⟨jb, 0, none⟩)].length = i by show 1 + i - 1 = i; omega, List.getElem?_append_left (by rw [Hd.len]; exact hi)]
theorem pgC_now {i : Nat} (hi : i < 133) : (pgC jb g n mb pa pl pc)[134 + i]? = n.c[i]? := by
  unfold pgC
  rw [List.getElem?_append_right (by show 1 ≤ 134 + i; omega), show 134 + i - [Value.pointer (some ⟨jb, 0, none⟩)].length = 133 + i by show 134 + i - 1 = 133 + i; omega, List.getElem?_append_right (by rw [Hd.len]; omega), Hd.len,
    show 133 + i - 133 = i by omega, List.getElem?_append_left (by rw [Hd.len]; exact hi)]
theorem pgC_map : (pgC jb g n mb pa pl pc)[267]? = some (.map (some mb)) := by
  unfold pgC
  rw [List.getElem?_append_right (by show 1 ≤ 267; decide), show 267 - [Value.pointer (some ⟨jb, 0, none⟩)].length = 266 from rfl, List.getElem?_append_right (by rw [Hd.len]; decide), Hd.len, List.getElem?_append_right (by rw [Hd.len]; decide), Hd.len]; rfl
theorem pgC_used {i : Nat} (hi : i < 128) : (pgC jb g n mb pa pl pc)[134 + 5 + i]? = some (.bool (n.u i)) := by
  rw [Nat.add_assoc, pgC_now (by omega)]; exact headC_used _ _ _ hi
theorem pgC_root {k : Nat} (hk : k < 4) : (pgC jb g n mb pa pl pc)[134 + 1 + k]? = some (.int .i64 (n.r k : Nat)) := by
  rw [Nat.add_assoc, pgC_now (by omega)]; exact headC_root _ _ _ hk
theorem pgC_ser : (pgC jb g n mb pa pl pc)[134]? = some (.int .u64 (n.s : Nat)) := by
  have := pgC_now (jb := jb) (g := g) (n := n) (mb := mb) (pa := pa) (pl := pl) (pc := pc) (i := 0) (by decide)
  exact this.trans (headC_0 _ _ _)
theorem pgC_set134 (L : List Value) (hL : L.length = 133) (o : Nat) (vs : List Value) (ho : o + vs.length ≤ 133) (h' : setL n.c o vs = L) : setL (pgC jb g n mb pa pl pc) (134 + o) vs = [.pointer (some ⟨jb, 0, none⟩)] ++ (g.c ++ (L ++ [.map (some mb), .slice pa pl pc])) := by
  unfold pgC
  rw [show 134 + o = [Value.pointer (some ⟨jb, 0, none⟩)].length + (133 + o) by show _ = 1 + (133 + o); omega, setL_right, show 133 + o = g.c.length + o by rw [Hd.len], setL_right, setL_left _ _ _ _ (by rw [Hd.len]; exact ho), h']
theorem pgC_setU (i : Nat) (v : Bool) (hi : i < 128) : setL (pgC jb g n mb pa pl pc) (134 + 5 + i) [.bool v] = pgC jb g { n with u := upU n.u i v } mb pa pl pc := by
  rw [Nat.add_assoc]
  exact pgC_set134 _ (Hd.len _) (5 + i) _ (by show 5 + i + 1 ≤ 133; omega) (headC_setU _ _ _ _ _)
theorem pgC_setR (k v : Nat) (hk : k < 4) : setL (pgC jb g n mb pa pl pc) (134 + 1 + k) [.int .i64 (v : Nat)] = pgC jb g { n with r := upR n.r k v } mb pa pl pc := by
  rw [Nat.add_assoc]
  exact pgC_set134 _ (Hd.len _) (1 + k) _ (by show 1 + k + 1 ≤ 133; omega) (headC_setR _ _ _ _ hk)
theorem pgC_setNow (n' : Hd) : setL (pgC jb g n mb pa pl pc) 134 n'.c = pgC jb g n' mb pa pl pc :=
  pgC_set134 _ (Hd.len _) 0 _ (by rw [Hd.len]; decide) (setL_all (by rw [Hd.len, Hd.len]))
theorem pgC_setGood (g' : Hd) : setL (pgC jb g n mb pa pl pc) 1 g'.c = pgC jb g' n mb pa pl pc := by
  unfold pgC
  rw [show (1 : Nat) = [Value.pointer (some ⟨jb, 0, none⟩)].length + 0 from rfl, setL_right, setL_left _ _ _ _ (by rw [Hd.len, Hd.len]; decide), setL_all (by rw [Hd.len, Hd.len])]
theorem pgC_tail (o : Nat) (vs : List Value) : setL (pgC jb g n mb pa pl pc) (267 + o) vs = [.pointer (some ⟨jb, 0, none⟩)] ++ (g.c ++ (n.c ++ setL [.map (some mb), .slice pa pl pc] o vs)) := by
  unfold pgC
  rw [show 267 + o = [Value.pointer (some ⟨jb, 0, none⟩)].length + (266 + o) by show _ = 1 + (266 + o); omega, setL_right, show 266 + o = g.c.length + (133 + o) by rw [Hd.len]; omega, setL_right, show 133 + o = n.c.length + o by rw [Hd.len], setL_right]
theorem pgC_setMap (mb' : Nat) : setL (pgC jb g n mb pa pl pc) 267 [.map (some mb')] = pgC jb g n mb' pa pl pc := pgC_tail 0 _
theorem pgC_setPts (pa' : Option Addr) (pl' pc' : Nat) : setL (pgC jb g n mb pa pl pc) 268 [.slice pa' pl' pc'] = pgC jb g n mb pa' pl' pc' := pgC_tail 1 _
end
theorem z120 : zeroL Tryz.prog 87 = [.pointer none] ++ (headC 0 (fun _ => 0) (fun _ => false) ++ (headC 0 (fun _ => 0) (fun _ => false) ++ [.map none, .slice none 0 0])) := by kernel_rfl
theorem pg_setA {p0 : Value} {A B T us : List Value} (hA : A.length = 133) (hu : us.length = 133) : setL ([p0] ++ (A ++ (B ++ T))) 1 us = [p0] ++ (us ++ (B ++ T)) := by
  rw [show (1 : Nat) = [p0].length + 0 from rfl, setL_right, setL_left _ _ _ _ (by omega), setL_all (by omega)]
theorem pg_setB {p0 : Value} {A B T us : List Value} (hA : A.length = 133) (hB : B.length = 133) (hu : us.length = 133) : setL ([p0] ++ (A ++ (B ++ T))) 134 us = [p0] ++ (A ++ (us ++ T)) := by
  rw [show (134 : Nat) = [p0].length + (133 + 0) from rfl, setL_right, show 133 + 0 = A.length + 0 by omega, setL_right, setL_left _ _ _ _ (by omega), setL_all (by omega)]
theorem pg_setT {p0 : Value} {A B T us : List Value} (hA : A.length = 133) (hB : B.length = 133) : setL ([p0] ++ (A ++ (B ++ T))) 267 us = [p0] ++ (A ++ (B ++ setL T 0 us)) := by
  rw [show (267 : Nat) = [p0].length + (266 + 0) from rfl, setL_right, show 266 + 0 = A.length + (133 + 0) by omega, setL_right, show 133 + 0 = B.length + 0 by omega, setL_right]
theorem newC (jb : Nat) (g n : Hd) (mb : Nat) : setL (setL (setL (setL (zeroL Tryz.prog 87) 0 [.pointer (some ⟨jb, 0, none⟩)]) 1 g.c) 134 n.c) 267 [.map (some mb)] = pgC jb g n mb none 0 0 := by
  have e0 : setL (zeroL Tryz.prog 87) 0 [.pointer (some ⟨jb, 0, none⟩)] = [.pointer (some ⟨jb, 0, none⟩)] ++ (headC 0 (fun _ => 0) (fun _ => false) ++ (headC 0 (fun _ => 0) (fun _ => false) ++ [.map none, .slice none 0 0])) := by
    rw [z120]; rfl
  have l0 := headC_len 0 (fun _ => 0) (fun _ => false)
  rw [e0, pg_setA l0 g.len, pg_setB g.len l0 n.len, pg_setT g.len n.len]
  rfl
def DAt (h : Hp) (b : Nat) (L : List Ch) : Prop := ∃ o, h b = some o ∧ MapObj Tryz.prog 3 o (mapD L)
theorem DAt.keep {S : Nat → Prop} {h h' : Hp} {b : Nat} {L : List Ch} (H : DAt h b L) (s : Keep S h h') (hn : ¬ S b) : DAt h' b L := by
  obtain ⟨o, h1, h2⟩ := H
  exact ⟨o, s _ _ h1 hn, h2⟩
theorem DAt.sub {h h' : Hp} {b : Nat} {L : List Ch} (H : DAt h b L) (s : Sub h h') : DAt h' b L := H.keep (S := fun _ => False) (s.keep _) fun h => h
theorem DAt.ne {h : Hp} {b c : Nat} {L : List Ch} {t : TypeId} {vs : List Value} (H : DAt h b L) (B : Blk h c t vs) : b ≠ c := by
  rintro rfl
  obtain ⟨o, h1, es, cl, rfl, _⟩ := H
  unfold Blk at B
  rw [B] at h1; cases h1
theorem DAt.ne_own {h : Hp} {b c : Nat} {L : List Ch} {a : Option Addr} {e : TypeId} {pc sz : Nat} {α : Type} {f : α → List Value} {Q : List α} (H : DAt h b L) (O : OwnR f sz h e a pc Q) (hc : blkOf a c) : b ≠ c := by
  rintro rfl
  obtain ⟨_, _, ⟨rfl, _⟩ | ⟨c', rest, rfl, hb, _⟩⟩ := O
  · obtain ⟨o, s, e⟩ := hc; cases e
  · obtain ⟨o, s, e⟩ := hc
    cases e
    exact H.ne (t := e) (vs := _) hb rfl
structure HdOk (n : Nat) (H : Hd) : Prop where
  below : ∀ i, i < 128 → H.u i = true → i < n
  roots : ∀ k, k < 4 → H.r k < 128 ∧ (H.r k ≠ 0 → H.u (H.r k) = true)
  zero : H.u 0 = true
  ser : H.s ≤ 9223372036854775807
structure POk (n : Nat) (P : Pg) : Prop where
  good : HdOk n P.good
  now : HdOk n P.now
  d : DOk n P.d
  pts : ∀ q ∈ P.pts, HdOk n q.1 ∧ DOk n q.2
  few : P.pts.length ≤ 16
structure PgEx (h : Hp) (pb jb db : Nat) (S S0 : Nat → Prop) (n : Nat) (D : Dk) (P : Pg) (mb : Nat) (pa : Option Addr) (pc : Nat) (Q : List Pt) : Prop where
  blk : Blk h pb 87 (pgC jb P.good P.now mb pa Q.length pc)
  j : JAt h jb db S0 n D
  d : DAt h mb P.d
  own : OwnR ptC 134 h 139 pa pc Q
  ds : ∀ q ∈ Q, DAt h q.m q.d
  pts : Q.map (fun q => (q.h, q.d)) = P.pts
  n1 : ¬ S0 pb
  n2 : ¬ S0 mb
  n3 : ∀ q ∈ Q, ¬ S0 q.m
  n4 : ∀ c, blkOf pa c → ¬ S0 c ∧ c ≠ pb
  n5 : (mb :: Q.map (·.m)).Nodup
  s : ∀ c, S c ↔ (c = pb ∨ c = mb ∨ S0 c ∨ blkOf pa c ∨ ∃ q ∈ Q, q.m = c)
structure PgAt (h : Hp) (pb jb db : Nat) (S : Nat → Prop) (n : Nat) (D : Dk) (P : Pg) : Prop where
  ex : ∃ S0 mb pa pc Q, PgEx h pb jb db S S0 n D P mb pa pc Q
  ok : POk n P
  up : D.down = false
variable {h : Hp} {pb jb db n : Nat} {S : Nat → Prop} {D : Dk} {P : Pg} {K : Value → Hp → Prop}
theorem PgEx.out {S' S0 : Nat → Prop} {h' : Hp} {mb : Nat} {pa : Option Addr} {pc : Nat} {Q : List Pt} (E : PgEx h pb jb db S S0 n D P mb pa pc Q) (s : Keep S' h h') (hn : ∀ c, S c → ¬ S' c) : PgEx h' pb jb db S S0 n D P mb pa pc Q :=
  ⟨E.blk.keep s (hn _ ((E.s _).2 (.inl rfl))), E.j.out s fun c hc => hn c ((E.s c).2 (.inr (.inr (.inl hc)))), E.d.keep s (hn _ ((E.s _).2 (.inr (.inl rfl)))), E.own.keep s fun c hc => hn c ((E.s c).2 (.inr (.inr (.inr (.inl hc))))),
    fun q hq => (E.ds q hq).keep s (hn _ ((E.s _).2 (.inr (.inr (.inr (.inr ⟨q, hq, rfl⟩)))))), E.pts, E.n1, E.n2, E.n3, E.n4, E.n5, E.s⟩
theorem PgEx.sub {S0 : Nat → Prop} {h' : Hp} {mb : Nat} {pa : Option Addr} {pc : Nat} {Q : List Pt} (E : PgEx h pb jb db S S0 n D P mb pa pc Q) (s : Sub h h') : PgEx h' pb jb db S S0 n D P mb pa pc Q := E.out (S' := fun _ => False) (s.keep _) fun _ _ h => h
theorem PgAt.out {S' : Nat → Prop} {h' : Hp} (E : PgAt h pb jb db S n D P) (s : Keep S' h h') (hn : ∀ c, S c → ¬ S' c) : PgAt h' pb jb db S n D P := by
  obtain ⟨S0, mb, pa, pc, Q, e⟩ := E.ex
  exact ⟨⟨S0, mb, pa, pc, Q, e.out s hn⟩, E.ok, E.up⟩
theorem PgAt.sub {h' : Hp} (E : PgAt h pb jb db S n D P) (s : Sub h h') : PgAt h' pb jb db S n D P := E.out (S' := fun _ => False) (s.keep _) fun _ _ h => h
theorem PgEx.in_heap {S0 : Nat → Prop} {mb : Nat} {pa : Option Addr} {pc : Nat} {Q : List Pt} (E : PgEx h pb jb db S S0 n D P mb pa pc Q) {c : Nat} (hc : S c) : h c ≠ none := by
  rcases (E.s c).1 hc with rfl | rfl | hc | hc | ⟨q, hq, rfl⟩
  · intro e; have := E.blk; unfold Blk at this; rw [this] at e; cases e
  · obtain ⟨o, h1, _⟩ := E.d; rw [h1]; simp
  · exact E.j.in_heap hc
  · exact Own.in_heap E.own hc
  · obtain ⟨o, h1, _⟩ := E.ds q hq; rw [h1]; simp
theorem PgAt.in_heap (E : PgAt h pb jb db S n D P) {c : Nat} (hc : S c) : h c ≠ none := by
  obtain ⟨S0, mb, pa, pc, Q, e⟩ := E.ex
  exact e.in_heap hc
theorem PgAt.n2 (E : PgAt h pb jb db S n D P) : n ≤ 128 := by
  obtain ⟨S0, mb, pa, pc, Q, e⟩ := E.ex
  exact e.j.n2
theorem pages_spec (E : PgAt h pb jb db S n D P) (hK : K (.int .i64 (n : Nat)) h) : CallsH Tryz.prog pager_Pager_Pages.id #[.pointer (some ⟨pb, 0, none⟩)] h K := by
  obtain ⟨S0, mb, pa, pc, Q, e⟩ := E.ex
  apply pager_Pager_Pages.calls
  unfold pager_Pager_Pages.W
  exact ⟨_, e.blk.cell' 0 pgC_0, jpages_spec e.j ⟨_, rfl, hK⟩⟩
theorem root_spec (E : PgAt h pb jb db S n D P) {k : Nat} (hk : k < 4) (hK : K (.int .i64 (P.now.r k : Nat)) h) : CallsH Tryz.prog pager_Pager_Root.id #[.pointer (some ⟨pb, 0, none⟩), .int .i64 (k : Nat)] h K := by
  obtain ⟨S0, mb, pa, pc, Q, e⟩ := E.ex
  apply pager_Pager_Root.calls
  unfold pager_Pager_Root.W
  refine ⟨fun x => x = h, ?_, split_dec (fun e => by omega) fun _ => split_dec (fun e => by omega) fun _ => rfl⟩
  rintro x rfl
  exact ⟨by omega, by omega, _, by rw [Int.toNat_natCast, Nat.mul_one, Nat.zero_add]; exact e.blk.cell' _ (pgC_root hk), hK⟩
def Pg.used (P : Pg) (n : Nat) (i : Int) : Bool := decide (0 ≤ i) && (decide (i < n) && P.now.u i.toNat)
theorem used_spec (E : PgAt h pb jb db S n D P) (i : Int) (hK : K (.bool (P.used n i)) h) : CallsH Tryz.prog pager_Pager_Used.id #[.pointer (some ⟨pb, 0, none⟩), .int .i64 i] h K := by
  have hn := E.n2
  apply pager_Pager_Used.calls
  unfold pager_Pager_Used.W
  unfold Pg.used at hK
  refine split_dec (fun e1 => pages_spec E ⟨_, rfl, split_dec (fun e2 => ?_) fun e2 => ?_⟩) fun e1 => ?_
  · obtain ⟨S0, mb, pa, pc, Q, e⟩ := E.ex
    obtain ⟨k, rfl⟩ : ∃ k : Nat, i = (k : Int) := ⟨i.toNat, by omega⟩
    refine ⟨by omega, by omega, P.now.u k, by rw [Int.toNat_natCast, Nat.mul_one, Nat.zero_add]; exact e.blk.cell' _ (pgC_used (by omega)), ?_⟩
    rw [decide_eq_true (show 0 ≤ (k : Int) by omega), decide_eq_true e2, Int.toNat_natCast] at hK
    exact hK
  · rw [decide_eq_false e2, Bool.false_and, Bool.and_false] at hK; exact hK
  · rw [decide_eq_false (show ¬ 0 ≤ i by omega), Bool.false_and] at hK; exact hK
def Pg.why (P : Pg) (n : Nat) (i : Int) : Int := if i < 1 ∨ i ≥ (n : Int) then 9 else if P.now.u i.toNat then 0 else 6
theorem puse_spec (E : PgAt h pb jb db S n D P) (i : Int) (hK : K (.int .i64 (P.why n i)) h) : CallsH Tryz.prog pager_Pager_use.id #[.pointer (some ⟨pb, 0, none⟩), .int .i64 i] h K := by
  have hn := E.n2
  apply pager_Pager_use.calls
  unfold pager_Pager_use.W
  unfold Pg.why at hK
  refine split_dec (fun e1 => ?_) fun e1 => pages_spec E ⟨_, rfl, split_dec (fun e2 => ?_) fun e2 => ?_⟩
  · rw [if_pos (.inl e1)] at hK; exact hK
  · rw [if_pos (.inr e2)] at hK; exact hK
  · rw [if_neg (by omega)] at hK
    obtain ⟨S0, mb, pa, pc, Q, e⟩ := E.ex
    obtain ⟨k, rfl⟩ : ∃ k : Nat, i = (k : Int) := ⟨i.toNat, by omega⟩
    rw [Int.toNat_natCast] at hK
    refine ⟨by omega, by omega, P.now.u k, by rw [Int.toNat_natCast, Nat.mul_one, Nat.zero_add]; exact e.blk.cell' _ (pgC_used (by omega)), split_not (fun eu => ?_) fun eu => ?_⟩
    · rw [eu] at hK; exact hK
    · rw [eu] at hK; exact hK
theorem why_ok {i : Int} (h : P.why n i = 0) : ∃ k : Nat, i = (k : Int) ∧ 1 ≤ k ∧ k < n ∧ P.now.u k = true := by
  unfold Pg.why at h
  by_cases e : i < 1 ∨ i ≥ (n : Int)
  · rw [if_pos e] at h; cases h
  · rw [if_neg e] at h
    cases eu : P.now.u i.toNat with
    | false => rw [eu] at h; cases h
    | true => exact ⟨i.toNat, by omega, by omega, by omega, eu⟩
def Pg.page (P : Pg) (D : Dk) (n i : Nat) : ByteArray := (dget P.d i).getD (D.own n i)
theorem pgread_bad (E : PgAt h pb jb db S n D P) (i : Int) (hw : P.why n i ≠ 0) (hK : K (.tuple #[.string (bytesL []), .int .i64 (P.why n i)]) h) : CallsH Tryz.prog pager_Pager_Read.id #[.pointer (some ⟨pb, 0, none⟩), .int .i64 i] h K := by
  apply pager_Pager_Read.calls
  unfold pager_Pager_Read.W
  exact puse_spec E i ⟨_, rfl, split_ne (fun _ => hK) fun e => absurd e hw⟩
theorem pgread_spec (E : PgAt h pb jb db S n D P) {i : Nat} (hw : P.why n (i : Nat) = 0) (hK : ∀ h', Sub h h' → K (.tuple #[.string (P.page D n i), .int .i64 0]) h') : CallsH Tryz.prog pager_Pager_Read.id #[.pointer (some ⟨pb, 0, none⟩), .int .i64 (i : Nat)] h K := by
  apply pager_Pager_Read.calls
  unfold pager_Pager_Read.W
  refine puse_spec E i ⟨_, rfl, split_ne (fun e => absurd hw e) fun _ => ?_⟩
  obtain ⟨S0, mb, pa, pc, Q, e⟩ := E.ex
  obtain ⟨o, ho, hm⟩ := e.d
  obtain ⟨k, ek, h1, h2, h3⟩ := why_ok hw
  have : i = k := by omega
  subst this
  unfold Pg.page at hK
  have hg := mapD_get P.d i
  refine ⟨_, by rw [Nat.zero_add]; exact e.blk.cell' _ pgC_map, mb, o, _, rfl, ho, hm, ?_⟩
  cases hd : dget P.d i with
  | some s =>
    rw [hd] at hg hK
    exact ⟨s, true, .inl ⟨rfl, hg⟩, hK h (Sub.refl h)⟩
  | none =>
    rw [hd] at hg hK
    exact ⟨bytesL [], false, .inr ⟨rfl, hg, rfl⟩, _, e.blk.cell' 0 pgC_0, jread_spec e.j h2 E.up fun h' s => ⟨_, _, rfl, hK h' s⟩⟩
theorem callsK {P : Program} {f : FuncId} {args : Array Value} {h : Hp} {K : Value → Hp → Prop} (X : ∀ K' : Value → Hp → Prop, (∀ v h, K v h → K' v h) → CallsH P f args h K') : CallsH P f args h K := X K fun _ _ x => x
def zeroHd : Hd := ⟨0, fun _ => 0, fun i => i == 0⟩
def headOf (b : ByteArray) : Hd := ⟨dser b 8, droot b, dbit b⟩
theorem page_size {S0 : Nat → Prop} (J : JAt h jb db S0 n D) {i : Nat} (hi : i < n) : (D.own n i).size = 1024 := by
  obtain ⟨S1, h1, h2, h3, h4⟩ := J.ex
  have := J.len
  unfold Dk.own Dk.page
  rw [← size_len]
  exact look_len h2 4 (by omega)
theorem zeroOk {n : Nat} (h1 : 1 ≤ n) : HdOk n zeroHd :=
  ⟨fun i _ h => by have : i = 0 := by simpa [zeroHd] using h
                   omega, fun k _ => ⟨by show 0 < 128; decide, fun h => absurd rfl h⟩, rfl, by show 0 ≤ _; decide⟩
theorem headOk {b : ByteArray} {n : Nat} (H : OkHead b n) : HdOk n (headOf b) := ⟨H.below, H.roots, H.zero, H.ser⟩
theorem popen_spec {S0 : Nat → Prop} (J : JAt h jb db S0 n D) (hd : D.down = false) (hn : 2 ≤ n)
    (hB : D.own n 0 ≠ zeroB 1024 → ¬ OkHead (D.own n 0) n → ∀ h', Sub h h' → K (.tuple #[.pointer none, .int .i64 4]) h')
    (hG : ∀ H : Hd, (D.own n 0 = zeroB 1024 ∧ H = zeroHd) ∨ (D.own n 0 ≠ zeroB 1024 ∧ OkHead (D.own n 0) n ∧ H = headOf (D.own n 0)) → ∀ h' pb S, h pb = none → Step S0 h S h' → PgAt h' pb jb db S n D ⟨H, H, [], []⟩ → K (.tuple #[.pointer (some ⟨pb, 0, none⟩), .int .i64 0]) h') :
    CallsH Tryz.prog pager_Open.id #[.pointer (some ⟨jb, 0, none⟩)] h K := by
  have hn2 := J.n2
  apply pager_Open.calls
  unfold pager_Open.W
  refine jpages_spec J ⟨_, rfl, split_dec (fun e => by have e : (n : Int) < 2 := e; omega) fun _ => ?_⟩
  refine jread_spec (i := 0) J (by omega) hd fun h5 s5 => ⟨_, _, rfl, split_ne (fun e => absurd rfl e) fun _ => ?_⟩
  have J5 := J.sub s5
  refine jpages_spec J5 ⟨_, rfl, callsK fun K' hK' => ?_⟩
  have hsz := page_size J5 (i := 0) (by omega)
  have good : ∀ H : Hd, HdOk n H → (D.own n 0 = zeroB 1024 ∧ H = zeroHd) ∨ (D.own n 0 ≠ zeroB 1024 ∧ OkHead (D.own n 0) n ∧ H = headOf (D.own n 0)) → ∀ h12, Sub h5 h12 → K' (.tuple #[.agg H.c.toArray, .bool true]) h12 := fun H ok hH h12 s12 => hK' _ _ ⟨H.c, H.len, true, rfl, fun k15 hk15 => by
    have B := Blk.new h12 k15 83 (headC 0 (fun _ => 0) fun _ => false)
    rw [← z114] at B
    have s15 : Sub h12 ((h12.upd k15 (.cells (zeroL Tryz.prog 83).toArray 83 (0, 0)))) := Sub.upd hk15 _
    have l0 : (zeroL Tryz.prog 83).length = 133 := by rw [z114]; exact headC_len _ _ _
    have B2 := B.put 0 H.c
    rw [setL_all (by rw [H.len, l0])] at B2
    have s16 : Sub h ((h12.upd k15 (.cells (zeroL Tryz.prog 83).toArray 83 (0, 0))).put k15 0 H.c) := (Keep.put (fun c => c = k15) _ _ _ rfl).sub (s5.trans (s12.trans s15)) fun c e => by rw [e]; exact s5.none (s12.none hk15)
    refine ⟨H.len, H.plain, B.store (by rw [H.len, l0]; decide), split_not (fun e => by cases e) fun _ => ⟨H.c, H.len, B2.cellsAt fun i hi => by rw [Nat.zero_add], H.c, H.len, B2.cellsAt fun i hi => by rw [Nat.zero_add], ?_⟩⟩
    intro k18 hk18 o19 m19
    refine ⟨rfl, H.len, H.len, rfl, fun k20 hk20 => ?_⟩
    generalize (h12.upd k15 (.cells (zeroL Tryz.prog 83).toArray 83 (0, 0))).put k15 0 H.c = x at s16 hk18 hk20 ⊢
    have hne : k20 ≠ k18 := fun e => by rw [e, Hp.upd_same] at hk20; cases hk20
    have hk20x : x k20 = none := by rw [Hp.upd_ne _ _ hne] at hk20; exact hk20
    have J2 := J.sub s16
    have s18 : Sub x (x.upd k18 o19) := Sub.upd hk18 _
    have s20 : Sub (x.upd k18 o19) ((x.upd k18 o19).upd k20 (.cells (setL (setL (setL (setL (zeroL Tryz.prog 87) 0 [.pointer (some ⟨jb, 0, none⟩)]) 1 H.c) 134 H.c) 267 [.map (some k18)]).toArray 87 (0, 0))) := Sub.upd hk20 _
    have hs : Sub h ((x.upd k18 o19).upd k20 (.cells (setL (setL (setL (setL (zeroL Tryz.prog 87) 0 [.pointer (some ⟨jb, 0, none⟩)]) 1 H.c) 134 H.c) 267 [.map (some k18)]).toArray 87 (0, 0))) := s16.trans (s18.trans s20)
    refine hG H hH _ k20 (fun c => c = k20 ∨ c = k18 ∨ S0 c) (s16.none hk20x) ⟨hs.keep _, ?_⟩ ⟨⟨S0, k18, none, 0, [], ?_⟩, ⟨ok, ok, DOk.nil n, (fun q hq => by cases hq), Nat.zero_le _⟩, hd⟩
    · rintro c (rfl | rfl | hc)
      · exact .inr (s16.none hk20x)
      · exact .inr (s16.none hk18)
      · exact .inl hc
    · refine ⟨?_, J.sub hs, ⟨o19, s20 _ _ (Hp.upd_same _ _ _), m19⟩, OwnR.nil _ _, (fun q hq => by cases hq), rfl, fun hc => J2.in_heap hc hk20x, fun hc => J2.in_heap hc hk18, (fun q hq => by cases hq), (fun c hc => by obtain ⟨o, s, e⟩ := hc; cases e), by simp, fun c => ⟨?_, ?_⟩⟩
      · have := Blk.new (x.upd k18 o19) k20 87 (setL (setL (setL (setL (zeroL Tryz.prog 87) 0 [.pointer (some ⟨jb, 0, none⟩)]) 1 H.c) 134 H.c) 267 [.map (some k18)])
        rw [newC] at this ⊢
        exact this
      · rintro (h' | h' | h')
        · exact .inl h'
        · exact .inr (.inl h')
        · exact .inr (.inr (.inl h'))
      · rintro (h' | h' | h' | ⟨o, s, e⟩ | ⟨q, hq, _⟩)
        · exact .inl h'
        · exact .inr (.inl h')
        · exact .inr (.inr h')
        · cases e
        · cases hq⟩
  refine pread_spec hsz (by omega) hn2 (fun e h12 s12 => good zeroHd (zeroOk (by omega)) (.inl ⟨e, rfl⟩) h12 s12) (fun e ok h12 s12 => good (headOf (D.own n 0)) (headOk ok) (.inr ⟨e, ok, rfl⟩) h12 s12) fun e no h12 xs hl hp s12 => ?_
  refine hK' _ _ ⟨xs, hl, false, rfl, fun k15 hk15 => ?_⟩
  have B := Blk.new h12 k15 83 (zeroL Tryz.prog 83)
  have l0 : (zeroL Tryz.prog 83).length = 133 := by rw [z114]; exact headC_len _ _ _
  refine ⟨hl, hp, B.store (by rw [hl, l0]; decide), split_not (fun _ => hB e no _ ?_) fun e => by cases e⟩
  exact (Keep.put (fun c => c = k15) _ _ _ rfl).sub (s5.trans (s12.trans (Sub.upd hk15 _))) fun c e => by rw [e]; exact s5.none (s12.none hk15)
end Go.Proofs.YthbogjbcecmopaaGreatDoor
