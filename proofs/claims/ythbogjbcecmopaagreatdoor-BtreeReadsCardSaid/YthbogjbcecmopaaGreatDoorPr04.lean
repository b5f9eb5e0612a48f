/- The formulas of functions of the program, as the executor computes them, and that a call does what its formula says. Printed by a tool of ours (wip/tool). The formulas of functions of the program, as the executor computes them, and that a call does what its formula says. Printed by a tool of ours (wip/tool). A disk in memory, and what its functions do to it. Conditions: it stands as it is named; the power is on where it says so. A journal on a disk: what its reading and laying do. Conditions: it stands as it is named, with room. A journal on a disk: what its writing does. Conditions: it stands as it is named, with room. What a mark on a disk tells, one page after another; a journal that is opened. Conditions: they stand as they are named. What slices.Collect makes of slices.Values of changes. Conditions: not too many. Why changes can be committed. Conditions: they are right. DERIVED: THE SHELF's CONTRACTS AT THIS DUMP, IN PLAIN WORDS (tools/lay-plain.mjs out of 'YthbogjbcecmopaaGreatDoorShelf2.lean', which tools/lay-shelf.mjs wrote): THE SAME DECLARATIONS UNDER THE SAME NAMES: 'import', 'namespace', 'open', 'def', 'theorem' AND NOTHING ELSE: no command of the shelf's: FOR A HAND-IN. Each laying: the table of numbers ('.._ren') and one theorem, a field a fact of the dump's own or the kernel's comparison; each contract: ONE APPLICATION. What the comparison of two changes by their pages gives, in whatever world. Condition: pages below 256. slices.SortedFunc of slices.Values at changes, by their pages. Conditions: small pages. What a commit does to a disk, failures and all. Conditions: right changes, one of a page; nothing waits ahead of it. A pager's head as plain data: its bytes, and what bytes tell. Conditions: none beyond each law's own. The bytes of a pager's head. Conditions: the head lies in cells; roots below 65536. Reading a pager's head. Conditions: 1024 bytes, at most 128 pages. States in cells; a page of noughts. Conditions: none beyond each law's own. What a commit leaves where nothing fails: its pages. Conditions: the power is on, no failure is set, nothing waits. Maps from pages to texts, as lists. Conditions: none beyond each law's own. A pager in memory, and what it tells. Conditions: it stands as it is named; the power is on where it reads. Pages are allocated and given back; a new disk. Conditions: the pager stands as it is named. -/
import Derived.Test.YthbogjbcecmopaaGreatDoorPr03
import Derived.Test.YthbogjbcecmopaaGreatDoorProg
import Derived.KernelRfl
import Derived.Shelf.SlSortCmp.WholeK
import Derived.Shelf.SlSortCmp.NoneTotal
import Derived.Shelf.SlMaps.Clone
import Derived.Shelf.SlIterI.Nil
import Derived.Shelf.SortM.Plain
import Derived.Shelf.SortM.SortNone
import Derived.Ground.GgzProg
import Derived.Ground.SlgmProg
import Derived.Ground.SlsfProg
import Derived.Ground.SlmcProg
import Derived.WalkKit
namespace Go.Proofs.YthbogjbcecmopaaGreatDoor
open Go.Gx
set_option maxRecDepth 100000
set_option linter.unusedVariables false

def law15_BtreeReads.H : Hints := { N := 164, loc := (fun _ => false), join := (fun _ => none), loop := (fun i => bif Nat.beq i 5 then some [.slot 8 (.int .i64)] else bif Nat.beq i 19 then some [.slot 15 (.int .i64)] else none), ifc := 0, order := (fun i => bif Nat.beq i 22 then some (some 40, false, [0, 1, 2, 3, 4, 5, 6, 7, 8, 9, 10, 11, 12, 13, 14, 15, 16, 17, 18, 19, 20, 21, 22, 23, 24, 25, 26, 27, 28, 29, 30, 31, 32, 33, 34, 35, 36, 37, 38, 39, 40, 41, 42, 43, 44, 45, 46, 47, 48, 49, 50, 51, 52, 53], .q 0 (.q 1 (.q 2 (.q 3 (.q 4 (.q 5 (.q 6 (.q 7 (.q 8 (.q 9 (.q 10 (.q 11 (.q 12 (.q 13 (.q 14 (.q 15 (.q 16 (.q 17 (.q 18 (.q 19 (.q 20 (.q 21 (.q 22 (.q 23 (.q 24 (.q 25 (.q 26 (.q 27 (.q 28 (.q 29 (.q 30 (.q 31 (.q 32 (.q 33 (.q 34 (.q 35 (.q 36 (.q 37 (.q 38 (.q 39 (.f 40 (.q 41 (.q 42 (.q 43 (.q 44 (.q 45 (.q 46 (.q 47 (.q 48 (.q 49 (.f 50 (.f 51 (.q 52 (.q 53 .done)) .e) .e)))))))))) .e))))))))))))))))))))))))))))))))))))))))) else none) }
def law15_BtreeReads.W (la : Option Addr) (ll lc : Nat) (root : Int) (h : Hp) (Q : Value → Hp → Prop) : Prop :=
  (CallsH Tryz.prog 7 (#[.int .i64 12]) (h) (fun v1 h2 => ∃ a3, ∃ a4, ∃ a5, (v1 = .tuple #[.pointer a3, .pointer a4, .pointer a5]) ∧ bif a5.isNone then (bif !a5.isNone then (CallsH Tryz.prog 8 (#[]) (h2) (fun v6 h7 => ∃ b8, (v6 = .bool b8) ∧ Q (.bool b8) h7)) else (Q (.bool false) h2)) else (bif hb (decide (Int.ofNat ll > 11)) then (bif !a5.isNone then (CallsH Tryz.prog 8 (#[]) (h2) (fun v9 h10 => ∃ b11, (v9 = .bool b11) ∧ Q (.bool b11) h10)) else (Q (.bool false) h2)) else (∃ (J12 : Int → Hp → Nat → Prop), (∃ k13, J12 0 h2 k13) ∧ ∀ (n14 : Int), ∀ (x15 : Hp), ∀ (k16 : Nat), (J12 n14 x15 k16) → (bif hb (decide (n14 < Int.ofNat ll)) then (CallsH Tryz.prog 9 (#[.pointer a4]) (x15) (fun v17 h18 => ∃ n19, ∃ n20, (v17 = .tuple #[.int .i64 n19, .int .i64 n20]) ∧ (Int.ofNat 0 ≤ 1024) ∧ (Int.ofNat 1024 ≤ 1024) ∧ (Int.ofNat 1 * 1024 ≤ 281474976710656) ∧ (Int.ofNat 1024 ≤ 9223372036854775807) ∧ ∀ (k21 : Nat), (h18 k21 = none) → ((0 ≤ n14) ∧ (n14 < Int.ofNat ll) ∧ ∃ k22, ∃ k23, (la = some ⟨k22, k23, none⟩) ∧ ∃ a24, ∃ k25, ∃ k26, ((h18.upd k21 (.cells (repV 1024 [.int .u8 0]).toArray 5 (0, 0))).cell k22 (k23 + n14.toNat * 1) = some (.slice a24 k25 k26)) ∧ ∃ (xs27 : List Value), (SliceAt (h18.upd k21 (.cells (repV 1024 [.int .u8 0]).toArray 5 (0, 0))) (a24) (cpyM k25 1024) (xs27)) ∧ ∃ (J28 : Hp → Prop), (∀ (x29 : Hp), (J28 x29) → (bif hb (n20 != 0) then (Q (.bool false) x29) else (∃ s30, (SliceAt (x29) (some ⟨k21, 0, none⟩) (1024) (bytesV s30)) ∧ CallsH Tryz.prog 10 (#[.pointer a4, .int .i64 n19, .string s30]) (x29) (fun v31 h32 => ∃ n33, (v31 = .int .i64 n33) ∧ bif hb (n33 != 0) then (Q (.bool false) h32) else (∃ k34, (k34 < k16) ∧ J12 (IntKind.i64.wrap (n14 + 1)) h32 k34))))) ∧ copyC (h18.upd k21 (.cells (repV 1024 [.int .u8 0]).toArray 5 (0, 0))) (some ⟨k21, 0, none⟩) xs27 J28))) else (CallsH Tryz.prog 11 (#[.pointer a4, .int .i64 2, .int .i64 root]) (x15) (fun v35 h36 => ∃ n37, (v35 = .int .i64 n37) ∧ bif hb (n37 != 0) then (CallsH Tryz.prog 8 (#[]) (h36) (fun v38 h39 => ∃ b40, (v38 = .bool b40) ∧ Q (.bool b40) h39)) else (CallsH Tryz.prog 12 (#[.pointer a4, .int .i64 2]) (h36) (fun v41 h42 => ∃ a43, ∃ n44, (v41 = .tuple #[.pointer a43, .int .i64 n44]) ∧ bif hb (n44 != 0) then (bif a43.isNone then (bif hb (n44 == 4) then (CallsH Tryz.prog 8 (#[]) (h42) (fun v45 h46 => ∃ b47, (v45 = .bool b47) ∧ Q (.bool b47) h46)) else (Q (.bool false) h42)) else (Q (.bool false) h42)) else (CallsH Tryz.prog 13 (#[.pointer a43]) (h42) (fun v48 h49 => ∃ a50, ∃ k51, ∃ k52, (v48 = .slice a50 k51 k52) ∧ ∃ (J53 : Int → Hp → Nat → Prop), (∃ k54, J53 0 h49 k54) ∧ ∀ (n55 : Int), ∀ (x56 : Hp), ∀ (k57 : Nat), (J53 n55 x56 k57) → (bif hb (decide (n55 < Int.ofNat k51)) then ((0 ≤ n55) ∧ (n55 < Int.ofNat k51) ∧ ∃ k58, ∃ k59, (a50 = some ⟨k58, k59, none⟩) ∧ ∃ s60, (x56.cell k58 (k59 + n55.toNat * 2) = some (.string s60)) ∧ CallsH Tryz.prog 14 (#[.pointer a43, .string s60]) (x56) (fun v61 h62 => ∃ s63, ∃ b64, (v61 = .tuple #[.string s63, .bool b64]) ∧ bif !b64 then (Q (.bool false) h62) else ((0 ≤ n55) ∧ (n55 < Int.ofNat k51) ∧ ∃ k65, ∃ k66, (a50 = some ⟨k65, k66, none⟩) ∧ ∃ s67, (h62.cell k65 (k66 + n55.toNat * 2 + 1) = some (.string s67)) ∧ bif !beqS s63 s67 then (Q (.bool false) h62) else (bif hb (decide (n55 > 0)) then ((0 ≤ IntKind.i64.wrap (n55 - 1)) ∧ (IntKind.i64.wrap (n55 - 1) < Int.ofNat k51) ∧ ∃ k68, ∃ k69, (a50 = some ⟨k68, k69, none⟩) ∧ ∃ s70, (h62.cell k68 (k69 + (IntKind.i64.wrap (n55 - 1)).toNat * 2) = some (.string s70)) ∧ (0 ≤ n55) ∧ (n55 < Int.ofNat k51) ∧ ∃ k71, ∃ k72, (a50 = some ⟨k71, k72, none⟩) ∧ ∃ s73, (h62.cell k71 (k72 + n55.toNat * 2) = some (.string s73)) ∧ bif !bltS s70 s73 then (Q (.bool false) h62) else ((0 ≤ n55) ∧ (n55 < Int.ofNat k51) ∧ ∃ k74, ∃ k75, (a50 = some ⟨k74, k75, none⟩) ∧ ∃ s76, (h62.cell k74 (k75 + n55.toNat * 2) = some (.string s76)) ∧ (0 ≤ n55) ∧ (n55 < Int.ofNat k51) ∧ ∃ k77, ∃ k78, (a50 = some ⟨k77, k78, none⟩) ∧ ∃ s79, (h62.cell k77 (k78 + n55.toNat * 2 + 1) = some (.string s79)) ∧ CallsH Tryz.prog 15 (#[.string s76, .string s79]) (h62) (fun v80 h81 => ∃ b82, (v80 = .bool b82) ∧ bif !b82 then (Q (.bool false) h81) else ((0 ≤ n55) ∧ (n55 < Int.ofNat k51) ∧ ∃ k83, ∃ k84, (a50 = some ⟨k83, k84, none⟩) ∧ ∃ s85, (h81.cell k83 (k84 + n55.toNat * 2) = some (.string s85)) ∧ CallsH Tryz.prog 16 (#[.pointer a43, .slice a50 k51 k52, .string s85]) (h81) (fun v86 h87 => ∃ b88, (v86 = .bool b88) ∧ bif !b88 then (Q (.bool false) h87) else (∃ k89, (k89 < k57) ∧ J53 (IntKind.i64.wrap (n55 + 1)) h87 k89)))))) else ((0 ≤ n55) ∧ (n55 < Int.ofNat k51) ∧ ∃ k90, ∃ k91, (a50 = some ⟨k90, k91, none⟩) ∧ ∃ s92, (h62.cell k90 (k91 + n55.toNat * 2) = some (.string s92)) ∧ (0 ≤ n55) ∧ (n55 < Int.ofNat k51) ∧ ∃ k93, ∃ k94, (a50 = some ⟨k93, k94, none⟩) ∧ ∃ s95, (h62.cell k93 (k94 + n55.toNat * 2 + 1) = some (.string s95)) ∧ CallsH Tryz.prog 15 (#[.string s92, .string s95]) (h62) (fun v96 h97 => ∃ b98, (v96 = .bool b98) ∧ bif !b98 then (Q (.bool false) h97) else ((0 ≤ n55) ∧ (n55 < Int.ofNat k51) ∧ ∃ k99, ∃ k100, (a50 = some ⟨k99, k100, none⟩) ∧ ∃ s101, (h97.cell k99 (k100 + n55.toNat * 2) = some (.string s101)) ∧ CallsH Tryz.prog 16 (#[.pointer a43, .slice a50 k51 k52, .string s101]) (h97) (fun v102 h103 => ∃ b104, (v102 = .bool b104) ∧ bif !b104 then (Q (.bool false) h103) else (∃ k105, (k105 < k57) ∧ J53 (IntKind.i64.wrap (n55 + 1)) h103 k105))))))))) else (CallsH Tryz.prog 17 (#[.pointer a43]) (x56) (fun v106 h107 => ∃ n108, (v106 = .int .i64 n108) ∧ bif hb (n108 == Int.ofNat k51) then (CallsH Tryz.prog 8 (#[]) (h107) (fun v109 h110 => ∃ b111, (v109 = .bool b111) ∧ Q (.bool b111) h110)) else (Q (.bool false) h107)))))))))))))))
theorem law15_BtreeReads.calls (la : Option Addr) (ll lc : Nat) (root : Int) {h : Hp} {Q : Value → Hp → Prop} (hW : law15_BtreeReads.W la ll lc root h Q) : CallsH Tryz.prog 3 #[.slice la ll lc, .int .i64 root] h Q := by
  have hE_ : bodyW Tryz.prog law15_BtreeReads.H Tryz.f3 [.val (.slice la ll lc), .val (.int .i64 root)] h Q = law15_BtreeReads.W la ll lc root h Q := by kernel_rfl
  rw [← hE_] at hW
  exact calls_of_body (H := law15_BtreeReads.H) (args := [.val (.slice la ll lc), .val (.int .i64 root)]) Tryz.func3 Tryz.ntmps3 rfl rfl hW

end Go.Proofs.YthbogjbcecmopaaGreatDoor
namespace Go.Proofs.YthbogjbcecmopaaGreatDoor
open Go.Gx
set_option maxRecDepth 100000
set_option linter.unusedVariables false

def law15_BtreePlays.H : Hints := { N := 241, loc := (fun i => Nat.beq i 12 || false), join := (fun i => bif Nat.beq i 53 then some [.slot 7 (.ptr), .slot 8 (.slice), .slot 9 (.slice), .slot 10 (.slice), .slot 13 (.bool)] else none), loop := (fun i => bif Nat.beq i 7 then some [.slot 7 (.ptr), .slot 8 (.slice), .slot 9 (.slice), .slot 10 (.slice), .slot 11 (.int .i64)] else none), ifc := 0, order := (fun i => bif Nat.beq i 15 then some (some 7, false, [0, 1, 2, 3, 4, 5, 6, 7, 8, 9, 10, 11, 12], .q 0 (.q 1 (.q 2 (.q 3 (.q 4 (.q 5 (.f 6 (.f 7 (.q 8 (.q 9 (.q 10 (.q 11 (.q 12 .done))))) .e) .e))))))) else bif Nat.beq i 26 then some (some 15, false, [0, 1, 2, 3, 4, 5, 6, 8, 9, 10, 11, 12, 13, 14, 7, 15, 16, 17], .q 0 (.q 1 (.q 2 (.q 3 (.q 4 (.q 5 (.q 6 (.q 8 (.q 9 (.q 10 (.q 11 (.q 12 (.q 13 (.q 14 (.f 7 (.f 15 (.f 16 (.q 17 .done) .e) .e) .e))))))))))))))) else none) }
def law15_BtreePlays.W (pages : Int) (opsa : Option Addr) (opsl opsc : Nat) (h : Hp) (Q : Value → Hp → Prop) : Prop :=
  (CallsH Tryz.prog 7 (#[.int .i64 pages]) (h) (fun v1 h2 => ∃ a3, ∃ a4, ∃ a5, (v1 = .tuple #[.pointer a3, .pointer a4, .pointer a5]) ∧ bif a5.isNone then (bif hb (decide (pages < 2)) then (CallsH Tryz.prog 8 (#[]) (h2) (fun v6 h7 => ∃ b8, (v6 = .bool b8) ∧ Q (.bool b8) h7)) else (bif hb (decide (pages > 24)) then (CallsH Tryz.prog 8 (#[]) (h2) (fun v9 h10 => ∃ b11, (v9 = .bool b11) ∧ Q (.bool b11) h10)) else (Q (.bool false) h2))) else (∃ (J12 : Option Addr → Option Addr → Nat → Nat → Option Addr → Nat → Nat → Option Addr → Nat → Nat → Int → Hp → Nat → Prop), (∃ k13, J12 a5 none 0 0 none 0 0 none 0 0 0 h2 k13) ∧ ∀ (a14 : Option Addr), ∀ (a15 : Option Addr), ∀ (k16 : Nat), ∀ (k17 : Nat), ∀ (a18 : Option Addr), ∀ (k19 : Nat), ∀ (k20 : Nat), ∀ (a21 : Option Addr), ∀ (k22 : Nat), ∀ (k23 : Nat), ∀ (n24 : Int), ∀ (x25 : Hp), ∀ (k26 : Nat), (J12 a14 a15 k16 k17 a18 k19 k20 a21 k22 k23 n24 x25 k26) → (bif hb (decide (n24 < Int.ofNat opsl)) then (bif hb (decide (n24 < 70)) then ((0 ≤ n24) ∧ (n24 < Int.ofNat opsl) ∧ ∃ k27, ∃ k28, (opsa = some ⟨k27, k28, none⟩) ∧ ∃ n29, (x25.cell k27 (k28 + n24.toNat * 6) = some (.int .i64 n29)) ∧ ∃ n30, (x25.cell k27 (k28 + n24.toNat * 6 + 1) = some (.int .i64 n30)) ∧ ∃ n31, (x25.cell k27 (k28 + n24.toNat * 6 + 1 + 1) = some (.int .i64 n31)) ∧ ∃ s32, (x25.cell k27 (k28 + n24.toNat * 6 + 1 + 1 + 1) = some (.string s32)) ∧ ∃ s33, (x25.cell k27 (k28 + n24.toNat * 6 + 1 + 1 + 1 + 1) = some (.string s33)) ∧ ∃ s34, (x25.cell k27 (k28 + n24.toNat * 6 + 1 + 1 + 1 + 1 + 1) = some (.string s34)) ∧ CallsH Tryz.prog 18 (#[.agg #[.int .i64 n29, .int .i64 n30, .int .i64 n31, .string s32, .string s33, .string s34]]) (x25) (fun v35 h36 => ∃ b37, (v35 = .bool b37) ∧ bif !b37 then (CallsH Tryz.prog 8 (#[]) (h36) (fun v38 h39 => ∃ b40, (v38 = .bool b40) ∧ Q (.bool b40) h39)) else (∃ (J41 : Option Addr → Option Addr → Nat → Nat → Option Addr → Nat → Nat → Option Addr → Nat → Nat → Bool → Hp → Prop), (∀ (a42 : Option Addr), ∀ (a43 : Option Addr), ∀ (k44 : Nat), ∀ (k45 : Nat), ∀ (a46 : Option Addr), ∀ (k47 : Nat), ∀ (k48 : Nat), ∀ (a49 : Option Addr), ∀ (k50 : Nat), ∀ (k51 : Nat), ∀ (b52 : Bool), ∀ (x53 : Hp), (J41 a42 a43 k44 k45 a46 k47 k48 a49 k50 k51 b52 x53) → (bif !b52 then (Q (.bool false) x53) else (CallsH Tryz.prog 26 (#[.pointer a42]) (x53) (fun v54 h55 => ∃ n56, (v54 = .int .i64 n56) ∧ bif hb (n56 != 0) then (Q (.bool false) h55) else (CallsH Tryz.prog 17 (#[.pointer a42]) (h55) (fun v57 h58 => ∃ n59, (v57 = .int .i64 n59) ∧ bif hb (n59 != Int.ofNat k44) then (Q (.bool false) h58) else (CallsH Tryz.prog 13 (#[.pointer a42]) (h58) (fun v60 h61 => ∃ a62, ∃ k63, ∃ k64, (v60 = .slice a62 k63 k64) ∧ CallsH Tryz.prog 34 (#[.slice a62 k63 k64, .slice a43 k44 k45]) (h61) (fun v65 h66 => ∃ b67, (v65 = .bool b67) ∧ bif !b67 then (Q (.bool false) h66) else (∃ k68, (k68 < k26) ∧ J12 a42 a43 k44 k45 a46 k47 k48 a49 k50 k51 (IntKind.i64.wrap (n24 + 1)) h66 k68)))))))))) ∧ bif hb (n29 == 0) then (CallsH Tryz.prog 27 (#[.agg #[.int .i64 n29, .int .i64 n30, .int .i64 n31, .string s32, .string s33, .string s34]]) (h36) (fun v69 h70 => ∃ s71, (v69 = .string s71) ∧ (Gx.Sub h36 h70) ∧ CallsH Tryz.prog 35 (#[.pointer a4, .pointer a14, .slice a15 k16 k17, .string s32, .string s71]) (h70) (fun v72 h73 => ∃ a74, ∃ k75, ∃ k76, ∃ b77, (v72 = .tuple #[.slice a74 k75 k76, .bool b77]) ∧ J41 a14 a74 k75 k76 a18 k19 k20 a21 k22 k23 b77 h73))) else (bif hb (n29 == 1) then (CallsH Tryz.prog 36 (#[.pointer a4]) (h36) (fun v78 h79 => ∃ n80, (v78 = .int .i64 n80) ∧ CallsH Tryz.prog 37 (#[.slice a15 k16 k17, .string s32]) (h79) (fun v81 h82 => ∃ a83, ∃ k84, ∃ k85, ∃ b86, (v81 = .tuple #[.slice a83 k84 k85, .bool b86]) ∧ CallsH Tryz.prog 23 (#[.pointer a14, .string s32]) (h82) (fun v87 h88 => ∃ b89, (v87 = .bool b89) ∧ bif b89 == b86 then (CallsH Tryz.prog 36 (#[.pointer a4]) (h88) (fun v90 h91 => ∃ n92, (v90 = .int .i64 n92) ∧ J41 a14 a83 k84 k85 a18 k19 k20 a21 k22 k23 (hb (decide (n92 ≥ n80))) h91)) else (J41 a14 a83 k84 k85 a18 k19 k20 a21 k22 k23 false h88))))) else (bif hb (n29 == 2) then (CallsH Tryz.prog 14 (#[.pointer a14, .string s32]) (h36) (fun v93 h94 => ∃ s95, ∃ b96, (v93 = .tuple #[.string s95, .bool b96]) ∧ CallsH Tryz.prog 38 (#[.slice a15 k16 k17, .string s32]) (h94) (fun v97 h98 => ∃ s99, ∃ b100, (v97 = .tuple #[.string s99, .bool b100]) ∧ bif beqS s95 s99 then (J41 a14 a15 k16 k17 a18 k19 k20 a21 k22 k23 (b96 == b100) h98) else (J41 a14 a15 k16 k17 a18 k19 k20 a21 k22 k23 false h98)))) else (bif hb (n29 == 3) then (CallsH Tryz.prog 24 (#[.pointer a14, .string s32, .string s33, .int .i64 n30]) (h36) (fun v101 h102 => ∃ a103, ∃ k104, ∃ k105, (v101 = .slice a103 k104 k105) ∧ (Gx.Sub h36 h102) ∧ CallsH Tryz.prog 39 (#[.slice a15 k16 k17, .string s32, .string s33, .int .i64 n30]) (h102) (fun v106 h107 => ∃ a108, ∃ k109, ∃ k110, (v106 = .slice a108 k109 k110) ∧ CallsH Tryz.prog 34 (#[.slice a103 k104 k105, .slice a108 k109 k110]) (h107) (fun v111 h112 => ∃ b113, (v111 = .bool b113) ∧ J41 a14 a15 k16 k17 a18 k19 k20 a21 k22 k23 b113 h112)))) else (bif hb (n29 == 4) then (CallsH Tryz.prog 16 (#[.pointer a14, .slice a15 k16 k17, .string s32]) (h36) (fun v114 h115 => ∃ b116, (v114 = .bool b116) ∧ J41 a14 a15 k16 k17 a18 k19 k20 a21 k22 k23 b116 h115)) else (bif hb (n29 == 5) then (CallsH Tryz.prog 40 (#[.pointer a4]) (h36) (fun v117 h118 => ∃ n119, ∃ n120, (v117 = .tuple #[.int .i64 n119, .int .i64 n120]) ∧ bif hb (n120 == 0) then (∀ (k121 : Nat), (h118 k121 = none) → (∃ (xs122 : List Value), (SliceAt (h118.upd k121 (.cells #[.slice a15 k16 k17] 37 (0, 0))) (some ⟨k121, 0, none⟩) (1) (xs122)) ∧ ∃ (J123 : Option Addr → Nat → Hp → Prop), (∀ (a124 : Option Addr), ∀ (k125 : Nat), ∀ (x126 : Hp), (J123 a124 k125 x126) → (J41 a14 a15 k16 k17 a18 k19 k20 a124 (k22 + 1) k125 true x126)) ∧ appendC Tryz.prog 37 a21 k22 k23 (h118.upd k121 (.cells #[.slice a15 k16 k17] 37 (0, 0))) xs122 1 J123)) else (J41 a14 a15 k16 k17 a18 k19 k20 a21 k22 k23 true h118))) else (bif hb (n29 == 6) then (CallsH Tryz.prog 41 (#[.pointer a4, .int .i64 n30]) (h36) (fun v127 h128 => ∃ n129, (v127 = .int .i64 n129) ∧ bif hb (n129 == 0) then (bif hb (decide (n30 < Int.ofNat k22)) then ((0 ≤ n30) ∧ (n30 < Int.ofNat k22) ∧ ∃ k130, ∃ k131, (a21 = some ⟨k130, k131, none⟩) ∧ ∃ a132, ∃ k133, ∃ k134, (h128.cell k130 (k131 + n30.toNat * 1) = some (.slice a132 k133 k134)) ∧ (0 ≤ n30) ∧ (n30 ≤ Int.ofNat k23) ∧ J41 a14 a132 k133 k134 a18 k19 k20 (slA k23 0 1 a21) n30.toNat k23 true h128) else (J41 a14 a15 k16 k17 a18 k19 k20 a21 k22 k23 true h128)) else (J41 a14 a15 k16 k17 a18 k19 k20 a21 k22 k23 true h128))) else (bif hb (n29 == 7) then (CallsH Tryz.prog 28 (#[.pointer a4]) (h36) (fun v135 h136 => ∃ n137, (v135 = .int .i64 n137) ∧ J41 a14 a15 k16 k17 a15 k16 k17 none 0 0 (hb (n137 == 0)) h136)) else (bif hb (n29 == 8) then (CallsH Tryz.prog 42 (#[.pointer a4]) (h36) (fun v138 h139 => (v138 = .tuple #[]) ∧ J41 a14 a18 k19 k20 a18 k19 k20 none 0 0 true h139)) else (bif hb (n29 == 9) then (CallsH Tryz.prog 21 (#[.pointer a14]) (h36) (fun v140 h141 => (v140 = .tuple #[]) ∧ CallsH Tryz.prog 25 (#[.pointer a14]) (h141) (fun v142 h143 => ∃ n144, (v142 = .int .i64 n144) ∧ J41 a14 none 0 0 a18 k19 k20 a21 k22 k23 (hb (n144 == 0)) h143))) else (bif hb (n29 == 10) then (CallsH Tryz.prog 12 (#[.pointer a4, .int .i64 1]) (h36) (fun v145 h146 => ∃ a147, ∃ n148, (v145 = .tuple #[.pointer a147, .int .i64 n148]) ∧ bif a147.isNone then (Q (.bool false) h146) else (bif hb (n148 != 0) then (Q (.bool false) h146) else (J41 a147 a15 k16 k17 a18 k19 k20 a21 k22 k23 true h146)))) else (J41 a14 a15 k16 k17 a18 k19 k20 a21 k22 k23 true h36)))))))))))))) else (CallsH Tryz.prog 8 (#[]) (x25) (fun v149 h150 => ∃ b151, (v149 = .bool b151) ∧ Q (.bool b151) h150))) else (CallsH Tryz.prog 8 (#[]) (x25) (fun v152 h153 => ∃ b154, (v152 = .bool b154) ∧ Q (.bool b154) h153))))))
theorem law15_BtreePlays.calls (pages : Int) (opsa : Option Addr) (opsl opsc : Nat) {h : Hp} {Q : Value → Hp → Prop} (hW : law15_BtreePlays.W pages opsa opsl opsc h Q) : CallsH Tryz.prog 6 #[.int .i64 pages, .slice opsa opsl opsc] h Q := by
  have hE_ : bodyW Tryz.prog law15_BtreePlays.H Tryz.f6 [.val (.int .i64 pages), .val (.slice opsa opsl opsc)] h Q = law15_BtreePlays.W pages opsa opsl opsc h Q := by kernel_rfl
  rw [← hE_] at hW
  exact calls_of_body (H := law15_BtreePlays.H) (args := [.val (.int .i64 pages), .val (.slice opsa opsl opsc)]) Tryz.func6 Tryz.ntmps6 rfl rfl hW

end Go.Proofs.YthbogjbcecmopaaGreatDoor
namespace Go.Proofs.YthbogjbcecmopaaGreatDoor
open Go.Gx
set_option maxRecDepth 100000
set_option linter.unusedVariables false

def Step (S : Nat → Prop) (h : Hp) (S' : Nat → Prop) (h' : Hp) : Prop := Keep S h h' ∧ ∀ c, S' c → S c ∨ h c = none
theorem Step.refl (S : Nat → Prop) (h : Hp) : Step S h S h := ⟨Keep.refl S h, fun _ h => .inl h⟩
theorem Step.trans {S S1 S2 : Nat → Prop} {h h1 h2 : Hp} (a : Step S h S1 h1) (b : Step S1 h1 S2 h2) : Step S h S2 h2 := by
  refine ⟨fun c o hc hn => b.1 c o (a.1 c o hc hn) fun h1 => ?_, fun c hc => ?_⟩
  · rcases a.2 c h1 with h | h
    · exact hn h
    · rw [h] at hc; cases hc
  · rcases b.2 c hc with h | h
    · exact a.2 c h
    · by_cases hS : S c
      · exact .inl hS
      · exact .inr (Option.eq_none_iff_forall_ne_some.2 fun o e4 => by rw [a.1 c o e4 hS] at h; cases h)
theorem Step.sub {S : Nat → Prop} {h h' : Hp} (s : Sub h h') : Step S h S h' := ⟨s.keep S, fun _ h => .inl h⟩
theorem Step.out {S S' : Nat → Prop} {h h' : Hp} (s : Step S h S' h') {c : Nat} {o : Obj} (hc : h c = some o) (hn : ¬ S c) : h' c = some o ∧ ¬ S' c := ⟨s.1 c o hc hn, fun h => by
  rcases s.2 c h with h | h
  · exact hn h
  · rw [h] at hc; cases hc⟩
def strC (s : ByteArray) : List Value := [.string s]
theorem strC_len (s : ByteArray) : (strC s).length = 1 := rfl
theorem strC_plain (s : ByteArray) : plainP (strC s) := plainP_of rfl
def wrC (w : Nat × ByteArray) : List Value := [.int .i64 (w.1 : Nat), .string w.2]
theorem wrC_len (w : Nat × ByteArray) : (wrC w).length = 2 := rfl
theorem wrC_plain (w : Nat × ByteArray) : plainP (wrC w) := plainP_of rfl
theorem appTStr : AppT Tryz.prog 9 1 16 := AppT.of (by kernel_rfl)
theorem appTWr : AppT Tryz.prog 168 2 24 := AppT.of (by kernel_rfl)
theorem appTByte : AppT Tryz.prog 5 1 1 := AppT.of (by kernel_rfl)
def byteC (b : UInt8) : List Value := [.int .u8 (b.toNat : Nat)]
theorem byteC_len (b : UInt8) : (byteC b).length = 1 := rfl
theorem byteC_plain (b : UInt8) : plainP (byteC b) := plainP_of rfl
theorem rowC_bytes (s : ByteArray) : rowC byteC s.data.toList = bytesV s := by
  unfold rowC bytesV byteC
  generalize s.data.toList = l
  induction l with
  | nil => rfl
  | cons b l ih => rw [List.flatMap_cons, ih]; rfl
theorem size_len (s : ByteArray) : s.data.toList.length = s.size := by rw [Array.length_toList]; rfl
structure Dk where
  l : List ByteArray
  ws : List (Nat × ByteArray)
  fuse : Nat
  down : Bool
def Dk.use (D : Dk) (at_ : Int) : Int := if D.down then 10 else if at_ < 0 then 9 else if at_ ≥ (D.l.length : Int) then 9 else 0
theorem Dk.use_ok {D : Dk} {i : Nat} (hd : D.down = false) (hi : i < D.l.length) : D.use (i : Nat) = 0 := by
  unfold Dk.use
  rw [hd, if_neg (by simp), if_neg (by omega), if_neg (by omega)]
def pick (i : Nat) (s : ByteArray) (w : Nat × ByteArray) : ByteArray := if w.1 = i then w.2 else s
def Dk.read (D : Dk) (i : Nat) : ByteArray := D.ws.foldl (pick i) (D.l.getD i (bytesL []))
def Dk.write (D : Dk) (i : Nat) (s : ByteArray) : Dk := { D with ws := D.ws ++ [(i, s)], fuse := D.fuse - 1, down := if D.fuse > 0 then decide (D.fuse = 1) else D.down }
def settleL (l : List ByteArray) (ws : List (Nat × ByteArray)) : List ByteArray := ws.foldl (fun l w => l.set w.1 w.2) l
theorem settleL_len : ∀ (ws : List (Nat × ByteArray)) (l : List ByteArray), (settleL l ws).length = l.length
  | [], _ => rfl
  | w :: ws, l => by
    show (settleL (l.set w.1 w.2) ws).length = _
    rw [settleL_len ws, List.length_set]
theorem settleL_sz : ∀ (ws : List (Nat × ByteArray)) (l : List ByteArray), (∀ s ∈ l, s.size = 256) → (∀ w ∈ ws, w.2.size = 256) → ∀ s ∈ settleL l ws, s.size = 256
  | [], _, h, _ => h
  | w :: ws, l, h, hw => settleL_sz ws (l.set w.1 w.2) (fun s hs => by
    rcases List.mem_or_eq_of_mem_set hs with h' | h'
    · exact h s h'
    · rw [h']; exact hw w List.mem_cons_self) fun w' hw' => hw w' (List.mem_cons_of_mem _ hw')
def Dk.flush (D : Dk) : Dk := { D with l := settleL D.l D.ws, ws := [] }
structure DkAt (h : Hp) (db : Nat) (S : Nat → Prop) (D : Dk) : Prop where
  at_ : ∃ la lc wa wc, ∃ n : Int, Blk h db 128 [.slice la D.l.length lc, .slice wa D.ws.length wc, .int .i64 (D.fuse : Nat), .int .i64 n, .bool D.down] ∧ OwnR strC 1 h 9 la lc D.l ∧ OwnR wrC 2 h 168 wa wc D.ws ∧
    (∀ c, blkOf la c → c ≠ db ∧ ¬ blkOf wa c) ∧ (∀ c, blkOf wa c → c ≠ db) ∧ ∀ c, S c ↔ (c = db ∨ blkOf la c ∨ blkOf wa c)
  idx : ∀ w ∈ D.ws, w.1 < D.l.length ∧ w.2.size = 256
  len : D.l.length ≤ 2048
  lsz : ∀ s ∈ D.l, s.size = 256
  wlen : D.ws.length ≤ 4096
  fuse : D.fuse < 9223372036854775808
variable {h : Hp} {db : Nat} {S : Nat → Prop} {D : Dk} {K : Value → Hp → Prop}
theorem DkAt.out {S' : Nat → Prop} {h' : Hp} (H : DkAt h db S D) (s : Keep S' h h') (hn : ∀ c, S c → ¬ S' c) : DkAt h' db S D := by
  obtain ⟨la, lc, wa, wc, n, h1, h2, h3, h4, h5, h6⟩ := H.at_
  exact ⟨⟨la, lc, wa, wc, n, h1.keep s (hn _ ((h6 _).2 (.inl rfl))), h2.keep s fun c hc => hn c ((h6 c).2 (.inr (.inl hc))), h3.keep s fun c hc => hn c ((h6 c).2 (.inr (.inr hc))), h4, h5, h6⟩, H.idx, H.len, H.lsz, H.wlen, H.fuse⟩
theorem DkAt.sub {h' : Hp} (H : DkAt h db S D) (s : Sub h h') : DkAt h' db S D := H.out (S' := fun _ => False) (s.keep _) fun _ _ h => h
theorem DkAt.in_heap (H : DkAt h db S D) {c : Nat} (hc : S c) : h c ≠ none := by
  obtain ⟨la, lc, wa, wc, n, h1, h2, h3, h4, h5, h6⟩ := H.at_
  rcases (h6 c).1 hc with rfl | hc | hc
  · intro e; unfold Blk at h1; rw [h1] at e; cases e
  · exact Own.in_heap h2 hc
  · exact Own.in_heap h3 hc
theorem DkAt.read_sz (H : DkAt h db S D) {i : Nat} (hi : i < D.l.length) : (D.read i).size = 256 := by
  unfold Dk.read
  have : ∀ (ws : List (Nat × ByteArray)) (s : ByteArray), s.size = 256 → (∀ w ∈ ws, w.2.size = 256) → (ws.foldl (pick i) s).size = 256 := by
    intro ws
    induction ws with
    | nil => intro s h _; exact h
    | cons w ws ih =>
      intro s h hw
      refine ih _ ?_ fun w' h' => hw w' (List.mem_cons_of_mem _ h')
      unfold pick
      split
      · exact hw w List.mem_cons_self
      · exact h
  refine this _ _ ?_ fun w hw => (H.idx w hw).2
  rw [List.getD_eq_getElem?_getD, List.getElem?_eq_getElem hi]
  exact H.lsz _ (List.getElem_mem hi)
theorem use_spec (H : DkAt h db S D) (at_ : Int) (hK : K (.int .i64 (D.use at_)) h) : CallsH Tryz.prog disk_Disk_use.id #[.pointer (some ⟨db, 0, none⟩), .int .i64 at_] h K := by
  obtain ⟨la, lc, wa, wc, n, h1, h2, h3, h4, h5, h6⟩ := H.at_
  apply disk_Disk_use.calls
  unfold disk_Disk_use.W
  unfold Dk.use at hK
  refine ⟨_, h1.cell' 4 rfl, split_cond (fun e1 => ?_) fun e1 => split_dec (fun e2 => ?_) fun e2 => ⟨_, _, _, h1.cell' 0 rfl, split_dec (fun e3 => ?_) fun e3 => ?_⟩⟩
  · rw [e1, if_pos rfl] at hK; exact hK
  · rw [e1, if_neg (by simp), if_pos e2] at hK; exact hK
  · have e3 : at_ ≥ (D.l.length : Int) := e3
    rw [e1, if_neg (by simp), if_neg e2, if_pos e3] at hK; exact hK
  · have e3 : ¬ at_ ≥ (D.l.length : Int) := e3
    rw [e1, if_neg (by simp), if_neg e2, if_neg e3] at hK; exact hK
theorem size_spec (H : DkAt h db S D) (hK : K (.int .i64 (D.l.length : Nat)) h) : CallsH Tryz.prog disk_Disk_Size.id #[.pointer (some ⟨db, 0, none⟩)] h K := by
  obtain ⟨la, lc, wa, wc, n, h1, h2, h3, h4, h5, h6⟩ := H.at_
  apply disk_Disk_Size.calls
  unfold disk_Disk_Size.W
  exact ⟨_, _, _, h1.cell' 0 rfl, hK⟩
theorem up_spec (H : DkAt h db S D) (hK : K (.bool !D.down) h) : CallsH Tryz.prog disk_Disk_Up.id #[.pointer (some ⟨db, 0, none⟩)] h K := by
  obtain ⟨la, lc, wa, wc, n, h1, h2, h3, h4, h5, h6⟩ := H.at_
  apply disk_Disk_Up.calls
  unfold disk_Disk_Up.W
  exact ⟨_, h1.cell' 4 rfl, hK⟩
theorem read_spec (H : DkAt h db S D) {i : Nat} (hi : i < D.l.length) (hd : D.down = false) (hK : K (.tuple #[.string (D.read i), .int .i64 0]) h) : CallsH Tryz.prog disk_Disk_Read.id #[.pointer (some ⟨db, 0, none⟩), .int .i64 (i : Nat)] h K := by
  apply disk_Disk_Read.calls
  unfold disk_Disk_Read.W
  have hw := H.wlen
  have hll := H.len
  refine use_spec H _ ⟨_, rfl, split_ne (fun e => absurd (Dk.use_ok hd hi) e) fun _ => ?_⟩
  obtain ⟨la, lc, wa, wc, n, h1, h2, h3, h4, h5, h6⟩ := H.at_
  have hq : D.l[i]? = some D.l[i] := List.getElem?_eq_getElem hi
  obtain ⟨b, o, ea, hc⟩ := h2.row.get strC_len (by decide) hq
  refine ⟨_, _, _, h1.cell' 0 rfl, by omega, by show (i : Int) < (D.l.length : Int); omega, b, o, ea, _, hc 0 _ rfl, _, _, _, h1.cell' 1 rfl, ?_⟩
  refine ⟨fun s k x m => ∃ j : Nat, k = (j : Int) ∧ j ≤ D.ws.length ∧ m = D.ws.length - j ∧ x = h ∧ s = (D.ws.take j).foldl (pick i) (D.l.getD i (bytesL [])), ⟨_, 0, rfl, Nat.zero_le _, rfl, rfl, ?_⟩, ?_⟩
  · rw [List.take_zero, List.foldl_nil, List.getD_eq_getElem?_getD, hq]; rfl
  · rintro s k x m ⟨j, rfl, hj, rfl, rfl, rfl⟩
    refine split_dec (fun g => ?_) fun g => ?_
    · have g : j < D.ws.length := by have : (j : Int) < (D.ws.length : Int) := g; omega
      have hw2 : D.ws[j]? = some D.ws[j] := List.getElem?_eq_getElem g
      generalize D.ws[j] = w at hw2
      obtain ⟨b2, o2, ea2, hc2⟩ := h3.row.get wrC_len (by decide) hw2
      have ht : (D.ws.take (j + 1)).foldl (pick i) (D.l.getD i (bytesL [])) = pick i ((D.ws.take j).foldl (pick i) (D.l.getD i (bytesL []))) w := by
        rw [List.take_add_one, hw2, List.foldl_append]; rfl
      refine ⟨by omega, by show (j : Int) < (D.ws.length : Int); omega, b2, o2, ea2, _, hc2 0 _ rfl, _, hc2 1 _ rfl, ?_⟩
      have hb : beqS w.2 w.2 = true := by rw [beqS_val]; simp
      rw [hb, hb_eq]
      refine split_cond (fun e => ?_) fun e => ?_
      · have e : (w.1 : Int) = (i : Int) := by simpa using e
        refine ⟨D.ws.length - (j + 1), by omega, j + 1, by rw [wid (by omega) (by omega)]; omega, by omega, rfl, rfl, ?_⟩
        rw [ht]; unfold pick; rw [if_pos (by omega)]
      · have e : ¬ (w.1 : Int) = (i : Int) := by simpa using e
        refine ⟨D.ws.length - (j + 1), by omega, j + 1, by rw [wid (by omega) (by omega)]; omega, by omega, rfl, rfl, ?_⟩
        rw [ht]; unfold pick; rw [if_neg (by omega)]
    · have : j = D.ws.length := by
        have : ¬ (j : Int) < (D.ws.length : Int) := g
        omega
      subst this
      rw [List.take_length]
      exact hK
theorem write_bad (H : DkAt h db S D) (at_ : Int) (s : ByteArray) (hu : D.use at_ ≠ 0) (hK : K (.int .i64 (D.use at_)) h) : CallsH Tryz.prog disk_Disk_Write.id #[.pointer (some ⟨db, 0, none⟩), .int .i64 at_, .string s] h K := by
  apply disk_Disk_Write.calls
  unfold disk_Disk_Write.W
  exact use_spec H at_ ⟨_, rfl, split_ne (fun _ => hK) fun e => absurd e hu⟩
theorem write_spec (H : DkAt h db S D) {i : Nat} (hi : i < D.l.length) (hd : D.down = false) (s : ByteArray) (hs : s.size = 256) (hw : D.ws.length < 4096)
    (hK : ∀ h' S', DkAt h' db S' (D.write i s) → Step S h S' h' → K (.int .i64 0) h') : CallsH Tryz.prog disk_Disk_Write.id #[.pointer (some ⟨db, 0, none⟩), .int .i64 (i : Nat), .string s] h K := by
  apply disk_Disk_Write.calls
  unfold disk_Disk_Write.W
  have hll := H.len
  refine use_spec H _ ⟨_, rfl, split_ne (fun e => absurd (Dk.use_ok hd hi) e) fun _ => split_ne (fun e => absurd (by show (s.size : Int) = 256; omega) e) fun _ => ?_⟩
  obtain ⟨la, lc, wa, wc, n, h1, h2, h3, h4, h5, h6⟩ := H.at_
  refine ⟨_, _, _, h1.cell' 1 rfl, fun k7 hk7 => ?_⟩
  have s7 := Sub.upd hk7 (.cells #[.int .i64 (i : Nat), .string s] 168 (0, 0))
  have hx : SliceAt (h.upd k7 (.cells #[.int .i64 (i : Nat), .string s] 168 (0, 0))) (some ⟨k7, 0, none⟩) 2 (wrC (i, s)) := (Blk.new h k7 168 (wrC (i, s))).slice rfl
  refine ⟨_, hx, fun a' c' y => OwnR wrC 2 y 168 a' c' (D.ws ++ [(i, s)]) ∧ Keep (blkOf wa) h y ∧ ∀ b, blkOf a' b → blkOf wa b ∨ h b = none, ?_, ?_⟩
  · rintro a' c' y ⟨o1, o2, o3⟩
    have B0 := h1.keep o2 fun hc => h5 _ hc rfl
    have L0 := h2.keep o2 fun c hc => (h4 c hc).2
    have hdb : ∀ b, blkOf a' b → b ≠ db := fun b hb e => by
      rcases o3 b hb with h | h
      · exact h5 b h e
      · rw [e] at h; unfold Blk at h1; rw [h1] at h; cases h
    have hla : ∀ b, blkOf la b → ¬ blkOf a' b := fun b hb hb' => by
      rcases o3 b hb' with h | h
      · exact (h4 b hb).2 h
      · exact Own.in_heap h2 hb h
    have B1 : Blk (y.put db (0 + 1) [.slice a' (D.ws.length + 1) c']) db 128 [.slice la D.l.length lc, .slice a' (D.ws.length + 1) c', .int .i64 (D.fuse : Nat), .int .i64 n, .bool D.down] := B0.put 1 _
    have B2 : Blk ((y.put db (0 + 1) [.slice a' (D.ws.length + 1) c']).put db (0 + 3) [.int .i64 (IntKind.i64.wrap (n + 1))]) db 128 [.slice la D.l.length lc, .slice a' (D.ws.length + 1) c', .int .i64 (D.fuse : Nat), .int .i64 (IntKind.i64.wrap (n + 1)), .bool D.down] := B1.put 3 _
    have fin : ∀ (z : Hp) (f : Nat) (d : Bool), Keep (fun c => c = db) y z → Blk z db 128 [.slice la D.l.length lc, .slice a' (D.ws.length + 1) c', .int .i64 (f : Nat), .int .i64 (IntKind.i64.wrap (n + 1)), .bool d] → f = (D.write i s).fuse → d = (D.write i s).down → K (.int .i64 0) z := by
      intro z f d kz Bz ef ed
      have hlen : (D.ws ++ [(i, s)]).length = D.ws.length + 1 := by simp
      refine hK z (fun c => c = db ∨ blkOf la c ∨ blkOf a' c) ⟨⟨la, lc, a', c', _, by subst ef; subst ed; rw [show (D.write i s).ws.length = D.ws.length + 1 from hlen]; exact Bz, L0.keep kz fun c hc e => (h4 c hc).1 e, o1.keep kz fun c hc e => hdb c hc e, fun c hc => ⟨(h4 c hc).1, hla c hc⟩, hdb, fun c => Iff.rfl⟩, ?_, hll, H.lsz, by rw [show (D.write i s).ws.length = D.ws.length + 1 from hlen]; omega, ?_⟩ ⟨?_, ?_⟩
      · intro w hw'
        rcases List.mem_append.1 hw' with h | h
        · exact H.idx w h
        · rw [List.mem_singleton] at h; rw [h]; exact ⟨hi, hs⟩
      · have := H.fuse
        show D.fuse - 1 < _
        omega
      · exact ((o2.mono fun c hc => (h6 c).2 (.inr (.inr hc))).trans (kz.mono fun c hc => (h6 c).2 (.inl hc)))
      · rintro c (rfl | hc | hc)
        · exact .inl ((h6 _).2 (.inl rfl))
        · exact .inl ((h6 _).2 (.inr (.inl hc)))
        · rcases o3 c hc with h | h
          · exact .inl ((h6 _).2 (.inr (.inr h)))
          · exact .inr h
    have kp : ∀ (z : Hp) (o : Nat) (vs : List Value), Keep (fun c => c = db) z (z.put db o vs) := fun z o vs => Keep.put _ z o vs rfl
    have hf := H.fuse
    refine ⟨B0.store (by show 1 + 1 ≤ 5; omega), _, B1.cell' 3 rfl, B1.store (by show 3 + 1 ≤ 5; omega), _, B2.cell' 2 rfl, split_dec (fun g => ?_) fun g => ?_⟩
    · have g : 0 < D.fuse := by have : (D.fuse : Int) > 0 := g; omega
      have ew : IntKind.i64.wrap ((D.fuse : Int) - 1) = ((D.fuse - 1 : Nat) : Int) := by rw [wid (by omega) (by omega)]; omega
      refine ⟨_, B2.cell' 2 rfl, B2.store (by show 2 + 1 ≤ 5; omega), ?_⟩
      rw [ew]
      have B3 : Blk (((y.put db (0 + 1) [.slice a' (D.ws.length + 1) c']).put db (0 + 3) [.int .i64 (IntKind.i64.wrap (n + 1))]).put db (0 + 2) [.int .i64 ((D.fuse - 1 : Nat) : Int)]) db 128 [.slice la D.l.length lc, .slice a' (D.ws.length + 1) c', .int .i64 ((D.fuse - 1 : Nat) : Int), .int .i64 (IntKind.i64.wrap (n + 1)), .bool D.down] := B2.put 2 _
      refine ⟨_, B3.cell' 2 rfl, B3.store (by show 4 + 1 ≤ 5; omega), fin _ (D.fuse - 1) (hb (((D.fuse - 1 : Nat) : Int) == 0)) ((((kp _ _ _).trans (kp _ _ _)).trans (kp _ _ _)).trans (kp _ _ _)) (B3.put 4 _) rfl ?_⟩
      rw [hb_eq]
      show _ = if D.fuse > 0 then decide (D.fuse = 1) else D.down
      rw [if_pos g]
      by_cases e : D.fuse = 1
      · rw [e]; rfl
      · have h0 : ¬ ((D.fuse - 1 : Nat) : Int) = 0 := by omega
        rw [decide_eq_false e]
        exact beq_false_of_ne h0
    · have g : D.fuse = 0 := by have : ¬ (D.fuse : Int) > 0 := g; omega
      refine fin _ D.fuse D.down ((kp _ _ _).trans (kp _ _ _)) B2 ?_ ?_
      · show D.fuse = D.fuse - 1
        omega
      · show _ = if D.fuse > 0 then decide (D.fuse = 1) else D.down
        rw [if_neg (by omega)]
  · refine append_ownR appTWr wrC_len wrC_plain (M := [(i, s)]) (h3.sub s7) rfl rfl (rowC_one _).symm (by simp; omega) fun a' c' y o k nw => ⟨o, fun c o' hc hn => k c o' (s7 c o' hc) hn, fun b hb => ?_⟩
    rcases nw b hb with h | h
    · exact .inl h
    · exact .inr (s7.none h)
theorem settle_spec (H : DkAt h db S D) (hK : ∀ h' S', DkAt h' db S' D.flush → Step S h S' h' → K (.tuple #[]) h') : CallsH Tryz.prog disk_Disk_settle.id #[.pointer (some ⟨db, 0, none⟩), .func (.func 131) #[] #[]] h K := by
  apply disk_Disk_settle_1f131.calls
  unfold disk_Disk_settle_1f131.W
  have hw := H.wlen
  obtain ⟨la, lc, wa, wc, n, h1, h2, h3, h4, h5, h6⟩ := H.at_
  refine ⟨_, _, _, h1.cell' 1 rfl, fun k x m => ∃ j : Nat, k = (j : Int) ∧ j ≤ D.ws.length ∧ m = D.ws.length - j ∧ Keep (blkOf la) h x ∧ OwnR strC 1 x 9 la lc (settleL D.l (D.ws.take j)), ⟨_, 0, rfl, Nat.zero_le _, rfl, Keep.refl _ _, h2⟩, ?_⟩
  rintro k x m ⟨j, rfl, hj, rfl, kx, ox⟩
  have Bx := h1.keep kx fun hc => (h4 _ hc).1 rfl
  have wx := h3.keep kx fun c hc hc' => (h4 c hc').2 hc
  refine split_dec (fun g => ?_) fun g => ?_
  · have g : j < D.ws.length := by have : (j : Int) < (D.ws.length : Int) := g; omega
    have hw2 : D.ws[j]? = some D.ws[j] := List.getElem?_eq_getElem g
    have hwi := (H.idx D.ws[j] (List.getElem_mem g)).1
    generalize D.ws[j] = w at hw2 hwi
    obtain ⟨b2, o2, ea2, hc2⟩ := wx.row.get wrC_len (by decide) hw2
    have ht : settleL D.l (D.ws.take (j + 1)) = (settleL D.l (D.ws.take j)).set w.1 w.2 := by
      unfold settleL
      rw [List.take_add_one, hw2, List.foldl_append]; rfl
    have hsl := settleL_len (D.ws.take j) D.l
    obtain ⟨b, eb, so, op⟩ := ox.put strC_len (i := w.1) (j := 0) (x := (settleL D.l (D.ws.take j))[w.1]'(by omega)) (y := w.2) (vs := [.string w.2]) (List.getElem?_eq_getElem (by omega)) (by decide) (Nat.le_refl 1) rfl
    refine ⟨by omega, by show (j : Int) < (D.ws.length : Int); omega, b2, o2, ea2, _, hc2 0 _ rfl, _, hc2 1 _ rfl, disk_Disk_Flush_1.calls _ ⟨_, rfl, ?_⟩⟩
    refine ⟨_, _, _, Bx.cell' 0 rfl, by omega, by show (w.1 : Int) < (D.l.length : Int); omega, b, 0, eb, ?_, ?_⟩
    · have e : 0 + w.1 * 1 + 0 = 0 + (w.1 : Int).toNat * 1 := by rw [Int.toNat_natCast]; omega
      rw [← e]; exact so
    · have e : 0 + w.1 * 1 + 0 = 0 + (w.1 : Int).toNat * 1 := by rw [Int.toNat_natCast]; omega
      rw [← e]
      refine ⟨D.ws.length - (j + 1), by omega, j + 1, by rw [wid (by omega) (by omega)]; omega, by omega, rfl, kx.trans (Keep.put _ _ _ _ ⟨0, none, eb⟩), ?_⟩
      rw [ht]; exact op
  · have : j = D.ws.length := by
      have : ¬ (j : Int) < (D.ws.length : Int) := g
      omega
    subst this
    rw [List.take_length] at ox
    have hl := settleL_len D.ws D.l
    have B2 : Blk (x.put db (0 + 1) [.slice none 0 0]) db 128 [.slice la D.l.length lc, .slice none 0 0, .int .i64 (D.fuse : Nat), .int .i64 n, .bool D.down] := Bx.put 1 _
    have kd : Keep (fun c => c = db) x (x.put db (0 + 1) [.slice none 0 0]) := Keep.put _ x _ _ rfl
    refine ⟨Bx.store (by show 1 + 1 ≤ 5; omega), hK _ (fun c => c = db ∨ blkOf la c) ⟨⟨la, lc, none, 0, n, ?_, ox.keep kd fun c hc e => (h4 c hc).1 e, OwnR.nil _ _, fun c hc => ⟨(h4 c hc).1, fun ⟨o, s, e⟩ => by cases e⟩, (fun c ⟨o, s, e⟩ => by cases e), fun c => ⟨fun hc => hc.imp id .inl, fun hc => hc.imp id fun hc => hc.elim id fun ⟨o, s, e⟩ => by cases e⟩⟩, (fun w hw => by cases hw), ?_, settleL_sz _ _ H.lsz (fun w hw => (H.idx w hw).2), Nat.zero_le _, H.fuse⟩ ⟨?_, fun c hc => .inl ((h6 c).2 (hc.imp id .inl))⟩⟩
    · show Blk _ db 128 [.slice la (settleL D.l D.ws).length lc, .slice none 0 0, .int .i64 (D.fuse : Nat), .int .i64 n, .bool D.down]
      rw [hl]; exact B2
    · show (settleL D.l D.ws).length ≤ 2048
      rw [hl]; exact H.len
    · exact (kx.mono fun c hc => (h6 c).2 (.inr (.inl hc))).trans (kd.mono fun c hc => (h6 c).2 (.inl hc))
theorem flush_bad (H : DkAt h db S D) (hu : D.use 0 ≠ 0) (hK : K (.int .i64 (D.use 0)) h) : CallsH Tryz.prog disk_Disk_Flush.id #[.pointer (some ⟨db, 0, none⟩)] h K := by
  apply disk_Disk_Flush.calls
  unfold disk_Disk_Flush.W
  exact use_spec H 0 ⟨_, rfl, split_ne (fun _ => hK) fun e => absurd e hu⟩
theorem flush_spec (H : DkAt h db S D) (hl : 0 < D.l.length) (hd : D.down = false) (hK : ∀ h' S', DkAt h' db S' D.flush → Step S h S' h' → K (.int .i64 0) h') : CallsH Tryz.prog disk_Disk_Flush.id #[.pointer (some ⟨db, 0, none⟩)] h K := by
  apply disk_Disk_Flush.calls
  unfold disk_Disk_Flush.W
  have hu : D.use 0 = 0 := Dk.use_ok (i := 0) hd hl
  exact use_spec H 0 ⟨_, rfl, split_ne (fun e => absurd hu e) fun _ => settle_spec H fun h' S' H' st => ⟨rfl, hK h' S' H' st⟩⟩
def zeroB (n : Nat) : ByteArray := ⟨(List.replicate n 0).toArray⟩
theorem zeroB_size (n : Nat) : (zeroB n).size = n := by show (List.replicate n (0 : UInt8)).toArray.size = n; simp
theorem zeroB_bytes (n : Nat) : bytesV (zeroB n) = repV n [.int .u8 0] := by
  unfold bytesV repV
  show (List.replicate n (0 : UInt8)).map _ = _
  induction n with
  | zero => rfl
  | succ n ih => rw [List.replicate_succ, List.map_cons, ih, List.replicate_succ, List.flatten_cons]; rfl
theorem zero_slice {h : Hp} {k : Nat} {t : TypeId} {n : Nat} (H : h k = some (.cells (repV n [.int .u8 0]).toArray t (0, 0))) : SliceAt h (some ⟨k, 0, none⟩) n (bytesV (zeroB n)) := by
  rw [zeroB_bytes]
  refine Blk.slice (t := t) H ?_
  unfold repV; simp
def Dk.new (n : Nat) : Dk := ⟨List.replicate n (zeroB 256), [], 0, false⟩
theorem dnew_spec (n : Nat) (h1 : 1 ≤ n) (h2 : n ≤ 2048) (hK : ∀ h' db S, DkAt h' db S (Dk.new n) → Sub h h' → (∀ c, S c → h c = none) → K (.tuple #[.pointer (some ⟨db, 0, none⟩), .int .i64 0]) h') : CallsH Tryz.prog disk_New.id #[.int .i64 (n : Nat)] h K := by
  apply disk_New.calls
  unfold disk_New.W
  refine split_dec (fun e => by have e : (n : Int) < 1 := e; omega) fun _ => split_dec (fun e => by have e : (n : Int) > 2048 := e; omega) fun _ => ?_
  intro k1 hk1
  refine ⟨by decide, by decide, by decide, by decide, fun k2 hk2 => ⟨zeroB 256, zero_slice (Hp.upd_same _ _ _), ?_⟩⟩
  have hne : k2 ≠ k1 := fun e => by rw [e, Hp.upd_same] at hk2; cases hk2
  rw [Hp.upd_ne _ _ hne] at hk2
  have B0 : Blk ((h.upd k1 (.cells #[.slice none 0 0, .slice none 0 0, .int .i64 0, .int .i64 0, .bool false] 128 (0, 0))).upd k2 (.cells (repV 256 [.int .u8 0]).toArray 5 (0, 0))) k1 128 [.slice none 0 0, .slice none 0 0, .int .i64 0, .int .i64 0, .bool false] :=
    (Blk.new h k1 128 _).upd (by rw [Hp.upd_ne _ _ hne]; exact hk2) _
  have s0 : Sub h ((h.upd k1 (.cells #[.slice none 0 0, .slice none 0 0, .int .i64 0, .int .i64 0, .bool false] 128 (0, 0))).upd k2 (.cells (repV 256 [.int .u8 0]).toArray 5 (0, 0))) :=
    (Sub.upd hk1 _).trans (Sub.upd (by rw [Hp.upd_ne _ _ hne]; exact hk2) _)
  generalize (h.upd k1 (.cells #[.slice none 0 0, .slice none 0 0, .int .i64 0, .int .i64 0, .bool false] 128 (0, 0))).upd k2 (.cells (repV 256 [.int .u8 0]).toArray 5 (0, 0)) = h1' at B0 s0
  refine ⟨fun i x m => ∃ (j : Nat) (la : Option Addr) (lc : Nat), i = (j : Int) ∧ j ≤ n ∧ m = n - j ∧ Sub h x ∧ Blk x k1 128 [.slice la j lc, .slice none 0 0, .int .i64 0, .int .i64 0, .bool false] ∧ OwnR strC 1 x 9 la lc (List.replicate j (zeroB 256)) ∧ ∀ c, blkOf la c → c ≠ k1 ∧ h c = none,
    ⟨_, 0, none, 0, rfl, Nat.zero_le _, rfl, s0, B0, OwnR.nil _ _, fun c ⟨o, s, e⟩ => by cases e⟩, ?_⟩
  rintro i x m ⟨j, la, lc, rfl, hj, rfl, sx, Bx, ox, nx⟩
  refine split_dec (fun g => ?_) fun g => ?_
  · have g : j < n := by have : (j : Int) < (n : Int) := g; omega
    refine ⟨_, _, _, Bx.cell' 0 rfl, fun k hk => ⟨_, (Blk.new x k 9 (strC (zeroB 256))).slice rfl, fun a' c' y => OwnR strC 1 y 9 a' c' (List.replicate (j + 1) (zeroB 256)) ∧ Keep (blkOf la) x y ∧ ∀ b, blkOf a' b → blkOf la b ∨ x b = none, ?_, ?_⟩⟩
    · rintro a' c' y ⟨o1, o2, o3⟩
      have By := Bx.keep o2 fun hc => (nx _ hc).1 rfl
      have sy : Sub h y := o2.sub sx fun c hc => (nx c hc).2
      have hk1' : ∀ c, blkOf a' c → c ≠ k1 ∧ h c = none := fun c hc => by
        rcases o3 c hc with h' | h'
        · exact nx c h'
        · exact ⟨(fun e => by rw [e] at h'; unfold Blk at Bx; rw [Bx] at h'; cases h'), sx.none h'⟩
      have kp : Keep (fun c => c = k1) y (y.put k1 0 [.slice a' (j + 1) c']) := Keep.put _ y _ _ rfl
      exact ⟨By.store (by show 0 + 1 ≤ 5; omega), n - (j + 1), by omega, j + 1, a', c', by rw [wid (by omega) (by omega)]; omega, by omega, rfl, kp.sub sy (fun c e => by rw [e]; exact hk1), By.put 0 _, o1.keep kp fun c hc e => (hk1' c hc).1 e, hk1'⟩
    · refine append_ownR appTStr strC_len strC_plain (M := [zeroB 256]) (ox.sub (Sub.upd hk _)) (by simp) rfl (rowC_one _).symm (by simp; omega) fun a' c' y o k' nw => ⟨by rw [List.replicate_succ']; exact o, fun c o' hc hn => k' c o' (Sub.upd hk _ c o' hc) hn, fun b hb => ?_⟩
      rcases nw b hb with h | h
      · exact .inl h
      · exact .inr ((Sub.upd hk _).none h)
  · have : j = n := by
      have : ¬ (j : Int) < (n : Int) := g
      omega
    subst this
    refine hK x k1 (fun c => c = k1 ∨ blkOf la c) ⟨⟨la, lc, none, 0, 0, ?_, ox, OwnR.nil _ _, fun c hc => ⟨(nx c hc).1, fun ⟨o, s, e⟩ => by cases e⟩, (fun c ⟨o, s, e⟩ => by cases e), fun c => ⟨fun hc => hc.imp id .inl, fun hc => hc.imp id fun hc => hc.elim id fun ⟨o, s, e⟩ => by cases e⟩⟩, (fun w hw => by cases hw), ?_, (fun s hs => by rw [(List.mem_replicate.1 hs).2]; exact zeroB_size 256), Nat.zero_le _, (by show 0 < 9223372036854775808; omega)⟩ sx fun c hc => ?_
    · show Blk x k1 128 [.slice la (List.replicate j (zeroB 256)).length lc, .slice none 0 0, .int .i64 0, .int .i64 0, .bool false]
      rw [List.length_replicate]; exact Bx
    · show (List.replicate j (zeroB 256)).length ≤ 2048
      rw [List.length_replicate]; exact h2
    · rcases hc with rfl | hc
      · exact hk1
      · exact (nx c hc).2
end Go.Proofs.YthbogjbcecmopaaGreatDoor
namespace Go.Proofs.YthbogjbcecmopaaGreatDoor
open Go.Gx
set_option maxRecDepth 100000
set_option linter.unusedVariables false

structure JAt (h : Hp) (jb db : Nat) (S : Nat → Prop) (n : Nat) (D : Dk) : Prop where
  ex : ∃ S0, Blk h jb 131 [.pointer (some ⟨db, 0, none⟩), .int .i64 (n : Nat)] ∧ DkAt h db S0 D ∧ ¬ S0 jb ∧ ∀ c, S c ↔ (c = jb ∨ S0 c)
  n1 : 1 ≤ n
  n2 : n ≤ 128
  len : 8 * n + 1 ≤ D.l.length
variable {h : Hp} {jb db n : Nat} {S : Nat → Prop} {D : Dk} {K : Value → Hp → Prop}
theorem JAt.out {S' : Nat → Prop} {h' : Hp} (J : JAt h jb db S n D) (s : Keep S' h h') (hn : ∀ c, S c → ¬ S' c) : JAt h' jb db S n D := by
  obtain ⟨S0, h1, h2, h3, h4⟩ := J.ex
  exact ⟨⟨S0, h1.keep s (hn _ ((h4 _).2 (.inl rfl))), h2.out s fun c hc => hn c ((h4 c).2 (.inr hc)), h3, h4⟩, J.n1, J.n2, J.len⟩
theorem JAt.sub {h' : Hp} (J : JAt h jb db S n D) (s : Sub h h') : JAt h' jb db S n D := J.out (S' := fun _ => False) (s.keep _) fun _ _ h => h
theorem JAt.in_heap (J : JAt h jb db S n D) {c : Nat} (hc : S c) : h c ≠ none := by
  obtain ⟨S0, h1, h2, h3, h4⟩ := J.ex
  rcases (h4 c).1 hc with rfl | hc
  · intro e; unfold Blk at h1; rw [h1] at e; cases e
  · exact h2.in_heap hc
theorem JAt.step (J : JAt h jb db S n D) : ∃ S0, DkAt h db S0 D ∧ Blk h jb 131 [.pointer (some ⟨db, 0, none⟩), .int .i64 (n : Nat)] ∧
    ∀ h' S1 D', DkAt h' db S1 D' → Step S0 h S1 h' → D'.l.length = D.l.length → ∃ S', JAt h' jb db S' n D' ∧ Step S h S' h' := by
  obtain ⟨S0, h1, h2, h3, h4⟩ := J.ex
  refine ⟨S0, h2, h1, fun h' S1 D' H' st hl => ⟨fun c => c = jb ∨ S1 c, ⟨⟨S1, h1.keep st.1 h3, H', ?_, fun c => Iff.rfl⟩, J.n1, J.n2, by rw [hl]; exact J.len⟩, ⟨st.1.mono fun c hc => (h4 c).2 (.inr hc), ?_⟩⟩⟩
  · exact (st.out h1 h3).2
  · rintro c (rfl | hc)
    · exact .inl ((h4 _).2 (.inl rfl))
    · rcases st.2 c hc with h | h
      · exact .inl ((h4 _).2 (.inr h))
      · exact .inr h
theorem jown_spec (J : JAt h jb db S n D) (i : Nat) (hi : i < 1000) (hK : K (.int .i64 ((1 + 4 * (n + i) : Nat) : Int)) h) : CallsH Tryz.prog journal_Journal_own.id #[.pointer (some ⟨jb, 0, none⟩), .int .i64 (i : Nat)] h K := by
  obtain ⟨S0, h1, h2, h3, h4⟩ := J.ex
  have := J.n2
  apply journal_Journal_own.calls
  unfold journal_Journal_own.W
  refine ⟨_, h1.cell' 1 rfl, ?_⟩
  have e : IntKind.i64.wrap (1 + IntKind.i64.wrap (4 * IntKind.i64.wrap ((n : Int) + (i : Int)))) = ((1 + 4 * (n + i) : Nat) : Int) := by
    rw [wid (x := (n : Int) + (i : Int)) (by omega) (by omega), wid (x := 4 * ((n : Int) + (i : Int))) (by omega) (by omega), wid (by omega) (by omega)]; omega
  rw [e]; exact hK
def Dk.look (D : Dk) (at_ : Nat) : Nat → List UInt8
  | 0 => []
  | i + 1 => D.look at_ i ++ (D.read (at_ + i)).data.toList
def Dk.page (D : Dk) (at_ : Nat) : ByteArray := ⟨(D.look at_ 4).toArray⟩
theorem look_len (H : DkAt h db S D) {at_ : Nat} : ∀ i, at_ + i ≤ D.l.length → (D.look at_ i).length = 256 * i
  | 0, _ => rfl
  | i + 1, hi => by
    unfold Dk.look
    rw [List.length_append, look_len H i (by omega), size_len, H.read_sz (by omega)]; omega
theorem look_spec (J : JAt h jb db S n D) (at_ : Nat) (hat : at_ + 4 ≤ D.l.length) (hd : D.down = false) (hK : ∀ h', Sub h h' → K (.tuple #[.string (D.page at_), .int .i64 0]) h') :
    CallsH Tryz.prog journal_Journal_look.id #[.pointer (some ⟨jb, 0, none⟩), .int .i64 (at_ : Nat)] h K := by
  obtain ⟨S0, h1, h2, h3, h4⟩ := J.ex
  have hll := h2.len
  apply journal_Journal_look.calls
  unfold journal_Journal_look.W
  refine ⟨fun a l c i x m => ∃ j : Nat, i = (j : Int) ∧ j ≤ 4 ∧ m = 4 - j ∧ l = (D.look at_ j).length ∧ NewR byteC 1 5 h x a c (D.look at_ j), ⟨_, 0, rfl, by decide, rfl, rfl, NewR.nil _ _⟩, ?_⟩
  rintro a l c i x m ⟨j, rfl, hj, rfl, rfl, N⟩
  refine split_dec (fun g => ?_) fun g => ?_
  · have g : j < 4 := by have : (j : Int) < 4 := g; omega
    have ew : IntKind.i64.wrap ((at_ : Int) + (j : Int)) = ((at_ + j : Nat) : Int) := by rw [wid (by omega) (by omega)]; omega
    rw [ew]
    have hsz := h2.read_sz (i := at_ + j) (by omega)
    have hlk := look_len h2 (at_ := at_) j (by omega)
    refine ⟨_, (h1.sub N.sub).cell' 0 rfl, read_spec (h2.sub N.sub) (by omega) hd ⟨_, _, rfl, split_ne (fun e => absurd rfl e) fun _ => ⟨fun a' c' y => NewR byteC 1 5 h y a' c' (D.look at_ (j + 1)), fun a' c' y hy => ⟨4 - (j + 1), by omega, j + 1, by rw [wid (by omega) (by omega)]; omega, by omega, rfl, ?_, hy⟩, ?_⟩⟩⟩
    · show (D.look at_ j).length + _ = (D.look at_ j ++ (D.read (at_ + j)).data.toList).length
      rw [List.length_append, size_len]
    · exact append_row appTByte byteC_len byteC_plain (M := (D.read (at_ + j)).data.toList) N rfl (size_len _).symm (rowC_bytes _).symm (by rw [size_len, hsz, hlk]; omega) fun a' c' y hy => hy
  · have : j = 4 := by
      have : ¬ (j : Int) < 4 := g
      omega
    subst this
    refine ⟨D.page at_, ?_, hK x N.sub⟩
    have := N.own.row
    unfold RowAt at this
    rw [Nat.mul_one] at this
    rw [← rowC_bytes]; exact this
def Dk.own (D : Dk) (n i : Nat) : ByteArray := D.page (1 + 4 * (n + i))
theorem jread_spec (J : JAt h jb db S n D) {i : Nat} (hi : i < n) (hd : D.down = false) (hK : ∀ h', Sub h h' → K (.tuple #[.string (D.own n i), .int .i64 0]) h') : CallsH Tryz.prog journal_Journal_Read.id #[.pointer (some ⟨jb, 0, none⟩), .int .i64 (i : Nat)] h K := by
  obtain ⟨S0, h1, h2, h3, h4⟩ := J.ex
  have := J.n2
  have := J.len
  apply journal_Journal_Read.calls
  unfold journal_Journal_Read.W
  refine split_dec (fun e => by have e : (i : Int) < 0 := e; omega) fun _ => ⟨_, h1.cell' 1 rfl, split_dec (fun e => by have e : (i : Int) ≥ (n : Int) := e; omega) fun _ => ?_⟩
  exact jown_spec J i (by omega) ⟨_, rfl, look_spec J _ (by omega) hd fun h' s => ⟨_, _, rfl, hK h' s⟩⟩
theorem jpages_spec (J : JAt h jb db S n D) (hK : K (.int .i64 (n : Nat)) h) : CallsH Tryz.prog journal_Journal_Pages.id #[.pointer (some ⟨jb, 0, none⟩)] h K := by
  obtain ⟨S0, h1, h2, h3, h4⟩ := J.ex
  apply journal_Journal_Pages.calls
  unfold journal_Journal_Pages.W
  exact ⟨_, h1.cell' 1 rfl, hK⟩
end Go.Proofs.YthbogjbcecmopaaGreatDoor
namespace Go.Proofs.YthbogjbcecmopaaGreatDoor
open Go.Gx
set_option maxRecDepth 100000
set_option linter.unusedVariables false

def wrs : Dk → List (Nat × ByteArray) → Dk × Int
  | D, [] => (D, 0)
  | D, w :: l => if D.down then (D, 10) else wrs (D.write w.1 w.2) l
theorem wrs_cons (D : Dk) (w : Nat × ByteArray) (l : List (Nat × ByteArray)) : wrs D (w :: l) = if D.down then (D, 10) else wrs (D.write w.1 w.2) l := rfl
theorem wrs_append : ∀ (a b : List (Nat × ByteArray)) (D : Dk), wrs D (a ++ b) = if (wrs D a).2 = 0 then wrs (wrs D a).1 b else wrs D a
  | [], b, D => by simp [wrs]
  | w :: a, b, D => by
    rw [List.cons_append, wrs_cons, wrs_cons]
    cases hd : D.down with
    | true => simp
    | false => simp only [Bool.false_eq_true, if_false]; exact wrs_append a b _
theorem wrs_l : ∀ (a : List (Nat × ByteArray)) (D : Dk), (wrs D a).1.l = D.l
  | [], D => rfl
  | w :: a, D => by
    unfold wrs
    cases hd : D.down with
    | true => rfl
    | false => simp only [Bool.false_eq_true, if_false]; exact wrs_l a _
theorem wrs_ws : ∀ (a : List (Nat × ByteArray)) (D : Dk), (wrs D a).1.ws.length ≤ D.ws.length + a.length
  | [], D => by simp [wrs]
  | w :: a, D => by
    unfold wrs
    cases hd : D.down with
    | true => simp
    | false =>
      simp only [Bool.false_eq_true, if_false]
      have := wrs_ws a (D.write w.1 w.2)
      have e : (D.write w.1 w.2).ws.length = D.ws.length + 1 := by show (D.ws ++ [_]).length = _; simp
      simp only [List.length_cons]; omega
def parts (at_ : Nat) (s : ByteArray) : List (Nat × ByteArray) := (List.range 4).map fun i => (at_ + i, s.extract (i * 256) ((i + 1) * 256))
theorem parts_len (at_ : Nat) (s : ByteArray) : (parts at_ s).length = 4 := by unfold parts; simp
theorem parts_get {at_ : Nat} {s : ByteArray} {j : Nat} (hj : j < 4) : (parts at_ s)[j]? = some (at_ + j, s.extract (j * 256) ((j + 1) * 256)) := by
  unfold parts
  rw [List.getElem?_map, List.getElem?_range hj]; rfl
def flD (r : Dk × Int) : Dk × Int := if r.2 ≠ 0 then r else if r.1.down then (r.1, 10) else (r.1.flush, 0)
variable {h : Hp} {jb db n : Nat} {S : Nat → Prop} {D : Dk} {K : Value → Hp → Prop}
theorem use_down {i : Nat} (hd : D.down = true) : D.use (i : Nat) = 10 := by unfold Dk.use; rw [hd, if_pos rfl]
theorem jwrite_spec (J : JAt h jb db S n D) {i : Nat} (hi : i < D.l.length) (s : ByteArray) (hs : s.size = 256) (hw : D.ws.length < 4096)
    (hK : ∀ h' S', JAt h' jb db S' n (wrs D [(i, s)]).1 → Step S h S' h' → K (.int .i64 (wrs D [(i, s)]).2) h') : CallsH Tryz.prog disk_Disk_Write.id #[.pointer (some ⟨db, 0, none⟩), .int .i64 (i : Nat), .string s] h K := by
  obtain ⟨S0, h1, h2, h3⟩ := J.step
  cases hd : D.down with
  | true =>
    have e : wrs D [(i, s)] = (D, 10) := by unfold wrs; rw [hd, if_pos rfl]
    rw [e] at hK
    refine write_bad h1 _ _ (by rw [use_down hd]; decide) ?_
    rw [use_down hd]
    exact hK h S J (Step.refl _ _)
  | false =>
    have e : wrs D [(i, s)] = (D.write i s, 0) := by unfold wrs; rw [hd]; rfl
    rw [e] at hK
    refine write_spec h1 hi hd s hs hw fun h' S' H' st => ?_
    obtain ⟨S2, J2, st2⟩ := h3 h' S' _ H' st rfl
    exact hK h' S2 J2 st2
theorem lay_spec (J : JAt h jb db S n D) {at_ : Nat} (hat : at_ + 4 ≤ D.l.length) (s : ByteArray) (hs : s.size = 1024) (hw : D.ws.length + 4 ≤ 4096)
    (hK : ∀ h' S', JAt h' jb db S' n (wrs D (parts at_ s)).1 → Step S h S' h' → K (.int .i64 (wrs D (parts at_ s)).2) h') : CallsH Tryz.prog journal_Journal_lay.id #[.pointer (some ⟨jb, 0, none⟩), .int .i64 (at_ : Nat), .string s] h K := by
  apply journal_Journal_lay.calls
  unfold journal_Journal_lay.W
  have hll : D.l.length ≤ 2048 := by obtain ⟨S0, h1, h2, h3⟩ := J.step; exact h1.len
  refine ⟨fun i x m => ∃ (j : Nat) (S' : Nat → Prop), i = (j : Int) ∧ j ≤ 4 ∧ m = 4 - j ∧ JAt x jb db S' n (wrs D ((parts at_ s).take j)).1 ∧ Step S h S' x ∧ (wrs D ((parts at_ s).take j)).2 = 0, ⟨_, 0, S, rfl, by decide, rfl, J, Step.refl _ _, rfl⟩, ?_⟩
  rintro i x m ⟨j, S', rfl, hj, rfl, Jx, st, e0⟩
  refine split_dec (fun g => ?_) fun g => ?_
  · have g : j < 4 := by have : (j : Int) < 4 := g; omega
    have hp := parts_get (at_ := at_) (s := s) g
    have ht : (parts at_ s).take (j + 1) = (parts at_ s).take j ++ [(at_ + j, s.extract (j * 256) ((j + 1) * 256))] := by rw [List.take_add_one, hp]; rfl
    have hw1 : wrs D ((parts at_ s).take (j + 1)) = wrs (wrs D ((parts at_ s).take j)).1 [(at_ + j, s.extract (j * 256) ((j + 1) * 256))] := by rw [ht, wrs_append, if_pos e0]
    have hall : (parts at_ s) = (parts at_ s).take (j + 1) ++ (parts at_ s).drop (j + 1) := (List.take_append_drop _ _).symm
    obtain ⟨S0, h1, h2, h3⟩ := Jx.step
    have hl := wrs_l ((parts at_ s).take j) D
    have hws := wrs_ws ((parts at_ s).take j) D
    have hpl : ((parts at_ s).take j).length = j := by rw [List.length_take, parts_len]; omega
    have e1 : IntKind.i64.wrap ((j : Int) * 256) = ((j * 256 : Nat) : Int) := by rw [wid (by omega) (by omega)]; omega
    have e2 : IntKind.i64.wrap (IntKind.i64.wrap ((j : Int) + 1) * 256) = (((j + 1) * 256 : Nat) : Int) := by
      rw [wid (x := (j : Int) + 1) (by omega) (by omega), wid (by omega) (by omega)]; omega
    have e3 : IntKind.i64.wrap ((at_ : Int) + (j : Int)) = ((at_ + j : Nat) : Int) := by rw [wid (by omega) (by omega)]; omega
    rw [e1, e2, e3]
    refine ⟨_, h2.cell' 0 rfl, by omega, by show (((j + 1) * 256 : Nat) : Int) ≤ (s.size : Int); omega, by omega, by show ((j * 256 : Nat) : Int) ≤ ((((j + 1) * 256 : Nat) : Int).toNat : Int); omega, ?_⟩
    rw [Int.toNat_natCast, Int.toNat_natCast]
    refine jwrite_spec Jx (by rw [hl]; omega) _ (by rw [ByteArray.size_extract]; omega) (by omega) fun h' S2 J2 st2 => ⟨_, rfl, ?_⟩
    rw [← hw1] at J2 ⊢
    refine split_ne (fun e => ?_) fun e => ⟨4 - (j + 1), by omega, j + 1, S2, by rw [wid (by omega) (by omega)]; omega, by omega, rfl, J2, st.trans st2, e⟩
    have e' : wrs D (parts at_ s) = wrs D ((parts at_ s).take (j + 1)) := by
      conv => lhs; rw [hall, wrs_append, if_neg e]
    have := hK h' S2
    rw [e'] at this
    exact this J2 (st.trans st2)
  · have : j = 4 := by
      have : ¬ (j : Int) < 4 := g
      omega
    subst this
    rw [List.take_of_length_le (by rw [parts_len]; exact Nat.le_refl _)] at Jx e0
    have := hK x S' Jx st
    rw [e0] at this
    exact this
theorem flushed_spec (J : JAt h jb db S n D) (e : Int) (hK : ∀ h' S', JAt h' jb db S' n (flD (D, e)).1 → Step S h S' h' → K (.int .i64 (flD (D, e)).2) h') : CallsH Tryz.prog journal_Journal_flushed.id #[.pointer (some ⟨jb, 0, none⟩), .int .i64 e] h K := by
  obtain ⟨S0, h1, h2, h3⟩ := J.step
  have := J.len
  apply journal_Journal_flushed.calls
  unfold journal_Journal_flushed.W
  refine split_ne (fun he => ?_) fun he => ⟨_, h2.cell' 0 rfl, ?_⟩
  · have e1 : flD (D, e) = (D, e) := if_pos he
    rw [e1] at hK
    exact hK h S J (Step.refl _ _)
  · subst he
    cases hd : D.down with
    | true =>
      have e1 : flD (D, 0) = (D, 10) := by unfold flD; rw [if_neg (by simp), if_pos hd]
      rw [e1] at hK
      have h0 : D.use 0 = 10 := use_down (i := 0) hd
      refine flush_bad h1 (by rw [h0]; decide) ⟨_, rfl, ?_⟩
      rw [h0]
      exact hK h S J (Step.refl _ _)
    | false =>
      have e1 : flD (D, 0) = (D.flush, 0) := by unfold flD; rw [if_neg (by simp), if_neg (by simp [hd])]
      rw [e1] at hK
      refine flush_spec h1 (by omega) hd fun h' S' H' st => ⟨_, rfl, ?_⟩
      obtain ⟨S2, J2, st2⟩ := h3 h' S' _ H' st (settleL_len _ _)
      exact hK h' S2 J2 st2
def logW (cs : List (Nat × ByteArray)) : List (Nat × ByteArray) := cs.flatMap fun c => parts (1 + 4 * c.1) c.2
def ownW (n : Nat) (cs : List (Nat × ByteArray)) : List (Nat × ByteArray) := cs.flatMap fun c => parts (1 + 4 * (n + c.1)) c.2
theorem flatW_len (f : Nat × ByteArray → List (Nat × ByteArray)) (hf : ∀ c, (f c).length = 4) : ∀ cs : List (Nat × ByteArray), (cs.flatMap f).length = 4 * cs.length
  | [] => rfl
  | c :: cs => by rw [List.flatMap_cons, List.length_append, hf, flatW_len f hf cs, List.length_cons]; omega
theorem layAll_log (J : JAt h jb db S n D) {la : Option Addr} {lc : Nat} {cs : List (Nat × ByteArray)} (R : RowAt wrC 2 h la cs) (hla : ∀ c, blkOf la c → ¬ S c) (hc : ∀ c ∈ cs, c.1 < n ∧ c.2.size = 1024) (hcl : cs.length ≤ 128) (hw : D.ws.length ≤ 2048)
    (hK : ∀ h' S', JAt h' jb db S' n (wrs D (logW cs)).1 → Step S h S' h' → K (.int .i64 (wrs D (logW cs)).2) h') :
    CallsH Tryz.prog journal_Journal_layAll.id #[.pointer (some ⟨jb, 0, none⟩), .slice la cs.length lc, .func (.func 113) #[] #[]] h K := by
  apply journal_Journal_layAll_2f113.calls
  unfold journal_Journal_layAll_2f113.W
  have hn2 := J.n2
  have hln := J.len
  refine ⟨fun i x m => ∃ (j : Nat) (S' : Nat → Prop), i = (j : Int) ∧ j ≤ cs.length ∧ m = cs.length - j ∧ JAt x jb db S' n (wrs D (logW (cs.take j))).1 ∧ Step S h S' x ∧ (wrs D (logW (cs.take j))).2 = 0, ⟨_, 0, S, rfl, Nat.zero_le _, rfl, J, Step.refl _ _, rfl⟩, ?_⟩
  rintro i x m ⟨j, S', rfl, hj, rfl, Jx, st, e0⟩
  refine split_dec (fun g => ?_) fun g => ?_
  · have g : j < cs.length := by have : (j : Int) < (cs.length : Int) := g; omega
    have hq : cs[j]? = some cs[j] := List.getElem?_eq_getElem g
    have hcj := hc cs[j] (List.getElem_mem g)
    have hdr : cs = cs.take (j + 1) ++ cs.drop (j + 1) := (List.take_append_drop _ _).symm
    generalize cs[j] = c at hq hcj
    obtain ⟨b, o, ea, hcell⟩ := (R.keep st.1 hla).get wrC_len (by decide) hq
    have ht : logW (cs.take (j + 1)) = logW (cs.take j) ++ parts (1 + 4 * c.1) c.2 := by
      unfold logW
      rw [List.take_add_one, hq, List.flatMap_append]; simp
    have hw1 : wrs D (logW (cs.take (j + 1))) = wrs (wrs D (logW (cs.take j))).1 (parts (1 + 4 * c.1) c.2) := by rw [ht, wrs_append, if_pos e0]
    have hl := wrs_l (logW (cs.take j)) D
    have hws := wrs_ws (logW (cs.take j)) D
    have hpl : (logW (cs.take j)).length = 4 * j := by
      unfold logW
      rw [flatW_len _ (fun c => parts_len _ _), List.length_take]; omega
    have e1 : IntKind.i64.wrap (1 + IntKind.i64.wrap (4 * (c.1 : Int))) = ((1 + 4 * c.1 : Nat) : Int) := by
      rw [wid (x := 4 * (c.1 : Int)) (by omega) (by omega), wid (by omega) (by omega)]; omega
    refine ⟨by omega, by show (j : Int) < (cs.length : Int); omega, b, o, ea, _, hcell 0 _ rfl, _, hcell 1 _ rfl, journal_Journal_Commit_2.calls _ ⟨_, rfl, Sub.refl _, ?_⟩⟩
    rw [e1]
    refine lay_spec Jx (by rw [hl]; omega) c.2 hcj.2 (by omega) fun h' S2 J2 st2 => ⟨_, rfl, ?_⟩
    rw [← hw1] at J2 ⊢
    refine split_ne (fun e => ?_) fun e => ⟨cs.length - (j + 1), by omega, j + 1, S2, by rw [wid (by omega) (by omega)]; omega, by omega, rfl, J2, st.trans st2, e⟩
    have e' : wrs D (logW cs) = wrs D (logW (cs.take (j + 1))) := by
      have e2 : logW cs = logW (cs.take (j + 1)) ++ logW (cs.drop (j + 1)) := by
        conv => lhs; rw [hdr]
        unfold logW; rw [List.flatMap_append]
      rw [e2, wrs_append, if_neg e]
    have := hK h' S2
    rw [e'] at this
    exact this J2 (st.trans st2)
  · have : j = cs.length := by
      have : ¬ (j : Int) < (cs.length : Int) := g
      omega
    subst this
    rw [List.take_length] at Jx e0
    have := hK x S' Jx st
    rw [e0] at this
    exact this
theorem layAll_own (J : JAt h jb db S n D) {la : Option Addr} {lc : Nat} {cs : List (Nat × ByteArray)} (R : RowAt wrC 2 h la cs) (hla : ∀ c, blkOf la c → ¬ S c) (hc : ∀ c ∈ cs, c.1 < n ∧ c.2.size = 1024) (hcl : cs.length ≤ 128) (hw : D.ws.length ≤ 2048)
    (hK : ∀ h' S', JAt h' jb db S' n (wrs D (ownW n cs)).1 → Step S h S' h' → K (.int .i64 (wrs D (ownW n cs)).2) h') :
    CallsH Tryz.prog journal_Journal_layAll.id #[.pointer (some ⟨jb, 0, none⟩), .slice la cs.length lc, .func (.func 80) #[.pointer (some ⟨jb, 0, none⟩)] #[]] h K := by
  apply journal_Journal_layAll_2m80.calls
  unfold journal_Journal_layAll_2m80.W
  have hn2 := J.n2
  have hln := J.len
  refine ⟨fun i x m => ∃ (j : Nat) (S' : Nat → Prop), i = (j : Int) ∧ j ≤ cs.length ∧ m = cs.length - j ∧ JAt x jb db S' n (wrs D (ownW n (cs.take j))).1 ∧ Step S h S' x ∧ (wrs D (ownW n (cs.take j))).2 = 0, ⟨_, 0, S, rfl, Nat.zero_le _, rfl, J, Step.refl _ _, rfl⟩, ?_⟩
  rintro i x m ⟨j, S', rfl, hj, rfl, Jx, st, e0⟩
  refine split_dec (fun g => ?_) fun g => ?_
  · have g : j < cs.length := by have : (j : Int) < (cs.length : Int) := g; omega
    have hq : cs[j]? = some cs[j] := List.getElem?_eq_getElem g
    have hcj := hc cs[j] (List.getElem_mem g)
    have hdr : cs = cs.take (j + 1) ++ cs.drop (j + 1) := (List.take_append_drop _ _).symm
    generalize cs[j] = c at hq hcj
    obtain ⟨b, o, ea, hcell⟩ := (R.keep st.1 hla).get wrC_len (by decide) hq
    have ht : ownW n (cs.take (j + 1)) = ownW n (cs.take j) ++ parts (1 + 4 * (n + c.1)) c.2 := by
      unfold ownW
      rw [List.take_add_one, hq, List.flatMap_append]; simp
    have hw1 : wrs D (ownW n (cs.take (j + 1))) = wrs (wrs D (ownW n (cs.take j))).1 (parts (1 + 4 * (n + c.1)) c.2) := by rw [ht, wrs_append, if_pos e0]
    have hl := wrs_l (ownW n (cs.take j)) D
    have hws := wrs_ws (ownW n (cs.take j)) D
    have hpl : (ownW n (cs.take j)).length = 4 * j := by
      unfold ownW
      rw [flatW_len _ (fun c => parts_len _ _), List.length_take]; omega
    refine ⟨by omega, by show (j : Int) < (cs.length : Int); omega, b, o, ea, _, hcell 0 _ rfl, _, hcell 1 _ rfl, jown_spec Jx c.1 (by omega) ⟨_, rfl, Sub.refl _, ?_⟩⟩
    refine lay_spec Jx (by rw [hl]; omega) c.2 hcj.2 (by omega) fun h' S2 J2 st2 => ⟨_, rfl, ?_⟩
    rw [← hw1] at J2 ⊢
    refine split_ne (fun e => ?_) fun e => ⟨cs.length - (j + 1), by omega, j + 1, S2, by rw [wid (by omega) (by omega)]; omega, by omega, rfl, J2, st.trans st2, e⟩
    have e' : wrs D (ownW n cs) = wrs D (ownW n (cs.take (j + 1))) := by
      have e2 : ownW n cs = ownW n (cs.take (j + 1)) ++ ownW n (cs.drop (j + 1)) := by
        conv => lhs; rw [hdr]
        unfold ownW; rw [List.flatMap_append]
      rw [e2, wrs_append, if_neg e]
    have := hK h' S2
    rw [e'] at this
    exact this J2 (st.trans st2)
  · have : j = cs.length := by
      have : ¬ (j : Int) < (cs.length : Int) := g
      omega
    subst this
    rw [List.take_length] at Jx e0
    have := hK x S' Jx st
    rw [e0] at this
    exact this
end Go.Proofs.YthbogjbcecmopaaGreatDoor
namespace Go.Proofs.YthbogjbcecmopaaGreatDoor
open Go.Gx
set_option maxRecDepth 100000
set_option linter.unusedVariables false

def bitT (s : ByteArray) (i : Nat) : Bool := IntKind.u8.wrap (iand IntKind.u8 (ishr IntKind.u8 (byteAt s (i / 8)) ((i % 8 : Nat) : Int)) 1) == 1
def bitsOf (s : ByteArray) : List Nat := (List.range 128).filter (bitT s)
theorem cell_sub {h h' : Hp} (s : Sub h h') {b o : Nat} {v : Value} (hc : h.cell b o = some v) : h'.cell b o = some v := by
  unfold Hp.cell at hc ⊢
  cases e : h b with
  | none => rw [e] at hc; cases hc
  | some x => rw [e] at hc; rw [s b x e]; exact hc
theorem filter_get {p : Nat → Bool} {i n : Nat} (hi : i < n) (hp : p i = true) : ((List.range n).filter p)[((List.range i).filter p).length]? = some i := by
  have e : List.range n = List.range i ++ (i :: List.range' (i + 1) (n - (i + 1))) := by
    rw [List.range_eq_range', List.range_eq_range']
    have : n = i + (1 + (n - (i + 1))) := by omega
    conv => lhs; rw [this, ← List.range'_append_1, Nat.zero_add, ← List.range'_append_1]
    rfl
  rw [e, List.filter_append, List.filter_cons_of_pos hp, List.getElem?_append_right (Nat.le_refl _), Nat.sub_self]; rfl
theorem told_iter (mark : ByteArray) (hm : 16 ≤ mark.size) (pb : Nat) : IterH Tryz.prog 114 [.pointer (some ⟨pb, 0, none⟩)] (fun k vs => ∃ i : Nat, (bitsOf mark)[k]? = some i ∧ vs = [.int .i64 (i : Nat)]) (fun k => k = (bitsOf mark).length) (fun h => h.cell pb 0 = some (.string mark)) := by
  intro l J Jx hJP hY h hJ
  refine journal_told_1_0y.calls l pb 0 ?_
  unfold journal_told_1_0y.W
  refine ⟨fun n x m => ∃ i : Nat, n = (i : Int) ∧ i ≤ 128 ∧ m = 128 - i ∧ J ((List.range i).filter (bitT mark)).length x, ⟨_, 0, rfl, by decide, rfl, hJ⟩, ?_⟩
  rintro n x m ⟨i, rfl, hi, rfl, hJi⟩
  refine split_dec (fun g => ?_) fun g => ?_
  · have g : i < 128 := by have : (i : Int) < 128 := g; omega
    have hsucc : (List.range (i + 1)).filter (bitT mark) = (List.range i).filter (bitT mark) ++ if bitT mark i then [i] else [] := by
      rw [List.range_succ, List.filter_append]
      rw [List.filter_cons, List.filter_nil]
    have e1 : (i : Int).tdiv 8 = ((i / 8 : Nat) : Int) := by rw [Int.tdiv_eq_ediv_of_nonneg (by omega)]; omega
    have e2 : (i : Int).tmod 8 = ((i % 8 : Nat) : Int) := by rw [Int.tmod_eq_emod_of_nonneg (by omega)]; omega
    have e3 : IntKind.i64.wrap ((i / 8 : Nat) : Int) = ((i / 8 : Nat) : Int) := wid (by omega) (by omega)
    rw [e1, e2, e3, Int.toNat_natCast]
    have e4 : IntKind.i64.wrap ((i : Int) + 1) = ((i + 1 : Nat) : Int) := by rw [wid (by omega) (by omega)]; omega
    refine ⟨mark, hJP _ _ hJi, by decide, by omega, by show ((i / 8 : Nat) : Int) < (mark.size : Int); omega, by decide, by omega, ?_⟩
    rw [hb_eq]
    refine split_cond (fun eb => ?_) fun eb => ?_
    · have eb : bitT mark i = true := eb
      refine YieldH.mono (hY _ _ x hJi ⟨i, filter_get g eb, rfl⟩) fun v h' hq => ?_
      rcases hq with ⟨rfl, hj⟩ | ⟨rfl, hj⟩
      · refine ⟨true, rfl, 128 - (i + 1), by omega, i + 1, e4, by omega, rfl, ?_⟩
        rw [hsucc, if_pos eb, List.length_append]; exact hj
      · exact ⟨false, rfl, .inr hj⟩
    · have eb : bitT mark i = false := eb
      refine ⟨128 - (i + 1), by omega, i + 1, e4, by omega, rfl, ?_⟩
      rw [hsucc, if_neg (by simp [eb]), List.append_nil]; exact hJi
  · have : i = 128 := by
      have : ¬ (i : Int) < 128 := g
      omega
    subst this
    exact .inl ⟨_, rfl, hJi⟩
theorem need_spec {h : Hp} {K : Value → Hp → Prop} (n : Nat) (h1 : 1 ≤ n) (h2 : n ≤ 128) (hK : K (.int .i64 ((8 * n + 1 : Nat) : Int)) h) : CallsH Tryz.prog journal_Need.id #[.int .i64 (n : Nat)] h K := by
  apply journal_Need.calls
  unfold journal_Need.W
  refine split_dec (fun e => by have e : (n : Int) < 1 := e; omega) fun _ => split_dec (fun e => by have e : (n : Int) > 128 := e; omega) fun _ => ?_
  have e : IntKind.i64.wrap (IntKind.i64.wrap (8 * (n : Int)) + 1) = ((8 * n + 1 : Nat) : Int) := by
    rw [wid (x := 8 * (n : Int)) (by omega) (by omega), wid (by omega) (by omega)]; omega
  rw [e]; exact hK
theorem bits_zero : bitsOf (zeroB 256) = [] := by decide +kernel
theorem jopen_spec {h : Hp} {db : Nat} {S : Nat → Prop} {D : Dk} {K : Value → Hp → Prop} (H : DkAt h db S D) (hd : D.down = false) (n : Nat) (h1 : 1 ≤ n) (h2 : n ≤ 128) (hl : 8 * n + 1 ≤ D.l.length) (hm : D.read 0 = zeroB 256)
    (hK : ∀ h' jb S', JAt h' jb db S' n D → Sub h h' → (∀ c, S' c → S c ∨ h c = none) → K (.tuple #[.pointer (some ⟨jb, 0, none⟩), .int .i64 0]) h') : CallsH Tryz.prog journal_Open.id #[.pointer (some ⟨db, 0, none⟩), .int .i64 (n : Nat)] h K := by
  have hll := H.len
  apply journal_Open.calls
  unfold journal_Open.W
  intro k1 hk1 k2 hk2 k3 hk3
  have d21 : k2 ≠ k1 := fun e => by rw [e, Hp.upd_same] at hk2; cases hk2
  have B1 : Blk (((h.upd k1 (.cells #[.int .i64 (n : Nat)] 3 (0, 0))).upd k2 (.cells #[.pointer none] 63 (0, 0))).upd k3 (.cells #[.int .i64 0] 29 (0, 0))) k1 3 [.int .i64 (n : Nat)] := ((Blk.new h k1 3 _).upd hk2 _).upd hk3 _
  have B2 : Blk (((h.upd k1 (.cells #[.int .i64 (n : Nat)] 3 (0, 0))).upd k2 (.cells #[.pointer none] 63 (0, 0))).upd k3 (.cells #[.int .i64 0] 29 (0, 0))) k2 63 [.pointer none] := (Blk.new _ k2 63 _).upd hk3 _
  have B3 : Blk (((h.upd k1 (.cells #[.int .i64 (n : Nat)] 3 (0, 0))).upd k2 (.cells #[.pointer none] 63 (0, 0))).upd k3 (.cells #[.int .i64 0] 29 (0, 0))) k3 29 [.int .i64 0] := Blk.new _ k3 29 _
  have s3 : Sub h (((h.upd k1 (.cells #[.int .i64 (n : Nat)] 3 (0, 0))).upd k2 (.cells #[.pointer none] 63 (0, 0))).upd k3 (.cells #[.int .i64 0] 29 (0, 0))) := ((Sub.upd hk1 _).trans (Sub.upd hk2 _)).trans (Sub.upd hk3 _)
  have n2 : h k2 = none := (Sub.upd hk1 _).none hk2
  have n3 : h k3 = none := ((Sub.upd hk1 _).trans (Sub.upd hk2 _)).none hk3
  have d32 : k3 ≠ k2 := fun e => by rw [e, Hp.upd_same] at hk3; cases hk3
  generalize ((h.upd k1 (.cells #[.int .i64 (n : Nat)] 3 (0, 0))).upd k2 (.cells #[.pointer none] 63 (0, 0))).upd k3 (.cells #[.int .i64 0] 29 (0, 0)) = h3 at B1 B2 B3 s3
  have H3 := H.sub s3
  refine ⟨_, B1.cell' 0 rfl, need_spec n h1 h2 ⟨_, rfl, Sub.refl _, split_eq (fun e => by have e : ((8 * n + 1 : Nat) : Int) = 0 := e; omega) fun _ => ⟨_, B1.cell' 0 rfl, size_spec H3 ⟨_, rfl, Sub.refl _, need_spec n h1 h2 ⟨_, rfl, split_dec (fun e => by have e : (D.l.length : Int) < ((8 * n + 1 : Nat) : Int) := e; omega) fun _ => ?_⟩⟩⟩⟩⟩
  refine read_spec (i := 0) H3 (by omega) hd ⟨_, _, rfl, split_ne (fun e => absurd rfl e) fun _ => ?_⟩
  rw [hm]
  refine ⟨_, B1.cell' 0 rfl, fun k26 hk26 k27 hk27 => ?_⟩
  have hk27' : (h3.upd k26 (.cells #[.pointer (some ⟨db, 0, none⟩), .int .i64 (n : Nat)] 131 (0, 0))) k27 = none := hk27
  have d27 : k27 ≠ k26 := fun e => by rw [e, Hp.upd_same] at hk27'; cases hk27'
  have n27 : h3 k27 = none := by rw [Hp.upd_ne _ _ d27] at hk27'; exact hk27'
  have C26 : Blk (h3.upd k26 (.cells #[.pointer (some ⟨db, 0, none⟩), .int .i64 (n : Nat)] 131 (0, 0))) k26 131 [.pointer (some ⟨db, 0, none⟩), .int .i64 (n : Nat)] := Blk.new h3 k26 131 _
  have C27 := (Blk.new (h3.upd k26 (.cells #[.pointer (some ⟨db, 0, none⟩), .int .i64 (n : Nat)] 131 (0, 0))) k27 63 [.pointer none])
  have lift1 : ∀ {b t vs}, Blk (h3.upd k26 (.cells #[.pointer (some ⟨db, 0, none⟩), .int .i64 (n : Nat)] 131 (0, 0))) b t vs → Blk (((h3.upd k26 (.cells #[.pointer (some ⟨db, 0, none⟩), .int .i64 (n : Nat)] 131 (0, 0))).upd k27 (.cells #[.pointer none] 63 (0, 0))).put k27 0 [.pointer (some ⟨k26, 0, none⟩)]) b t vs :=
    fun H => (H.upd hk27' _).put_ne 0 _ (H.ne hk27')
  refine ⟨C27.store (Nat.le_refl 1), fun k28 hk28 => ⟨(Blk.new _ k28 4 [.bool false]).store (Nat.le_refl 1), journal_told.calls _ fun k hk => ⟨_, rfl, [.pointer (some ⟨k, 0, none⟩)], rfl, ?_⟩⟩⟩
  have hk28' : (((h3.upd k26 (.cells #[.pointer (some ⟨db, 0, none⟩), .int .i64 (n : Nat)] 131 (0, 0))).upd k27 (.cells #[.pointer none] 63 (0, 0))).put k27 0 [.pointer (some ⟨k26, 0, none⟩)]) k28 = none := hk28
  have hk' : ((((((h3.upd k26 (.cells #[.pointer (some ⟨db, 0, none⟩), .int .i64 (n : Nat)] 131 (0, 0))).upd k27 (.cells #[.pointer none] 63 (0, 0))).put k27 0 [.pointer (some ⟨k26, 0, none⟩)])).upd k28 (.cells #[.bool false] 4 (0, 0))).put k28 0 [.bool false]) k = none := hk
  have C27p := C27.put 0 [.pointer (some ⟨k26, 0, none⟩)]
  have C28 := (Blk.new (((h3.upd k26 (.cells #[.pointer (some ⟨db, 0, none⟩), .int .i64 (n : Nat)] 131 (0, 0))).upd k27 (.cells #[.pointer none] 63 (0, 0))).put k27 0 [.pointer (some ⟨k26, 0, none⟩)]) k28 4 [.bool false]).put 0 [.bool false]
  have lift2 : ∀ {b t vs}, Blk (((h3.upd k26 (.cells #[.pointer (some ⟨db, 0, none⟩), .int .i64 (n : Nat)] 131 (0, 0))).upd k27 (.cells #[.pointer none] 63 (0, 0))).put k27 0 [.pointer (some ⟨k26, 0, none⟩)]) b t vs →
      Blk ((((((h3.upd k26 (.cells #[.pointer (some ⟨db, 0, none⟩), .int .i64 (n : Nat)] 131 (0, 0))).upd k27 (.cells #[.pointer none] 63 (0, 0))).put k27 0 [.pointer (some ⟨k26, 0, none⟩)])).upd k28 (.cells #[.bool false] 4 (0, 0))).put k28 0 [.bool false]) b t vs := fun H => (H.upd hk28' _).put_ne 0 _ (H.ne hk28')
  have E27 := lift2 C27p
  have E26 := lift2 (lift1 C26)
  have E2 := lift2 (lift1 (B2.upd hk26 _))
  have E3 := lift2 (lift1 (B3.upd hk26 _))
  have sA : ∀ c o, h c = some o → c ≠ k26 ∧ c ≠ k27 ∧ c ≠ k28 ∧ c ≠ k2 ∧ c ≠ k3 := fun c o hc => by
    have hc3 := s3 c o hc
    refine ⟨fun e => ?_, fun e => ?_, fun e => ?_, fun e => ?_, fun e => ?_⟩
    · rw [e, hk26] at hc3; cases hc3
    · rw [e, n27] at hc3; cases hc3
    · have h27 : k28 ≠ k27 := fun e2 => by rw [e2] at hk28'; unfold Blk at C27p; rw [C27p] at hk28'; cases hk28'
      have h26 : k28 ≠ k26 := fun e2 => by rw [e2] at hk28'; have := lift1 C26; unfold Blk at this; rw [this] at hk28'; cases hk28'
      rw [Gx.put_ne _ _ _ h27, Hp.upd_ne _ _ h27, Hp.upd_ne _ _ h26, ← e, hc3] at hk28'
      cases hk28'
    · rw [e, n2] at hc; cases hc
    · rw [e, n3] at hc; cases hc
  have sX : Sub h ((((((h3.upd k26 (.cells #[.pointer (some ⟨db, 0, none⟩), .int .i64 (n : Nat)] 131 (0, 0))).upd k27 (.cells #[.pointer none] 63 (0, 0))).put k27 0 [.pointer (some ⟨k26, 0, none⟩)])).upd k28 (.cells #[.bool false] 4 (0, 0))).put k28 0 [.bool false]) := fun c o hc => by
    obtain ⟨a1, a2, a3, _⟩ := sA c o hc
    rw [Gx.put_ne _ _ _ a3, Hp.upd_ne _ _ a3, Gx.put_ne _ _ _ a2, Hp.upd_ne _ _ a2, Hp.upd_ne _ _ a1]
    exact s3 c o hc
  have n26 : h k26 = none := s3.none hk26
  refine ⟨_, _, _, fun k x => k = 0 ∧ x = _, fun _ _ => False, told_iter (zeroB 256) (by rw [zeroB_size]; omega) k, ?_, ?_, ⟨rfl, rfl⟩, ?_, ?_, ?_, ?_, ?_, trivial⟩
  · intro h0 b o hb hp
    exact cell_sub (Sub.upd hb o) hp
  · rintro _ x ⟨_, rfl⟩
    exact (Blk.new _ k 9 [.string (zeroB 256)]).cell' 0 rfl
  · rintro _ vs ⟨i, hi, rfl⟩
    exact ⟨_, rfl⟩
  · rintro _ _ ⟨i, hi, _⟩
    rw [bits_zero] at hi; cases hi
  · rintro _ x ⟨rfl, rfl⟩ _ D' hD
    have U := fun {b t vs} (H : Blk ((((((h3.upd k26 (.cells #[.pointer (some ⟨db, 0, none⟩), .int .i64 (n : Nat)] 131 (0, 0))).upd k27 (.cells #[.pointer none] 63 (0, 0))).put k27 0 [.pointer (some ⟨k26, 0, none⟩)])).upd k28 (.cells #[.bool false] 4 (0, 0))).put k28 0 [.bool false]) b t vs) => (H.upd hk' (.cells #[.string (zeroB 256)] 9 (0, 0))).upd hD (.deferred (some []))
    have dD : ∀ {b t vs}, Blk ((((((h3.upd k26 (.cells #[.pointer (some ⟨db, 0, none⟩), .int .i64 (n : Nat)] 131 (0, 0))).upd k27 (.cells #[.pointer none] 63 (0, 0))).put k27 0 [.pointer (some ⟨k26, 0, none⟩)])).upd k28 (.cells #[.bool false] 4 (0, 0))).put k28 0 [.bool false]) b t vs → b ≠ D' := fun H => (H.upd hk' _).ne hD
    have d2 := dD E2
    have d3 := dD E3
    have F2 := (U E2).put 0 [.pointer (some ⟨k26, 0, none⟩)]
    have F3 := (U E3).put_ne 0 [.pointer (some ⟨k26, 0, none⟩)] d32
    have G2 := F2.put_ne 0 [.int .i64 0] (Ne.symm d32)
    have G3 := F3.put 0 [.int .i64 0]
    have del : ∀ {y : Hp} {b : Nat} {t : TypeId} {vs : List Value}, Blk y b t vs → b ≠ D' → Blk (y.del D') b t vs := fun H e => by
      unfold Blk Hp.del
      rw [if_neg e]; exact H
    have d26 : k26 ≠ k2 ∧ k26 ≠ k3 := ⟨(B2.ne hk26).symm, (B3.ne hk26).symm⟩
    have hD' := hD
    refine ⟨false, (U C28).cell' 0 rfl, _, (U E27).cell' 0 rfl, (U E2).store (Nat.le_refl 1), F3.store (Nat.le_refl 1), ?_, _, (del G2 d2).cell' 0 rfl, _, (del G3 d3).cell' 0 rfl, ?_⟩
    · rw [Gx.put_ne _ _ _ (Ne.symm d3), Gx.put_ne _ _ _ (Ne.symm d2), Hp.upd_same]
    · have sY : Gx.Sub h ((((((((((h3.upd k26 (.cells #[.pointer (some ⟨db, 0, none⟩), .int .i64 (n : Nat)] 131 (0, 0))).upd k27 (.cells #[.pointer none] 63 (0, 0))).put k27 0 [.pointer (some ⟨k26, 0, none⟩)]).upd k28 (.cells #[.bool false] 4 (0, 0))).put k28 0 [.bool false]).upd k (.cells #[.string (zeroB 256)] 9 (0, 0))).upd D' (.deferred (some []))).put k2 0 [.pointer (some ⟨k26, 0, none⟩)]).put k3 0 [.int .i64 0]).del D') := fun c o hc => by
        obtain ⟨_, _, _, a4, a5⟩ := sA c o hc
        have hx := sX c o hc
        have ck : c ≠ k := fun e => by rw [e, hk'] at hx; cases hx
        have hx2 := Sub.upd hk' (.cells #[.string (zeroB 256)] 9 (0, 0)) c o hx
        have cD : c ≠ D' := fun e => by rw [e] at hx2; rw [hx2] at hD; cases hD
        unfold Hp.del
        rw [if_neg cD, Gx.put_ne _ _ _ a5, Gx.put_ne _ _ _ a4, Hp.upd_ne _ _ cD]
        exact hx2
      refine hK _ k26 (fun c => c = k26 ∨ S c) ⟨⟨S, del (((U E26).put_ne 0 _ d26.1).put_ne 0 _ d26.2) (dD E26), H.sub sY, fun hc => H.in_heap hc n26, fun c => Iff.rfl⟩, h1, h2, hl⟩ sY ?_
      rintro c (rfl | hc)
      · exact .inr n26
      · exact .inl hc
  · rintro x hf; exact hf.elim
  · rintro x hf; exact hf.elim
end Go.Proofs.YthbogjbcecmopaaGreatDoor
namespace Go.Proofs.YthbogjbcecmopaaGreatDoor
open Go.Gx
set_option maxRecDepth 100000
set_option linter.unusedVariables false

abbrev Ch := Nat × ByteArray
theorem appTCh : AppT Tryz.prog 122 2 24 := AppT.of (by kernel_rfl)
theorem upd_del {h : Hp} {D : Nat} (o : Obj) (hD : h D = none) : (h.upd D o).del D = h := by
  funext c
  unfold Hp.del
  by_cases e : c = D
  · rw [if_pos e, e, hD]
  · rw [if_neg e, Hp.upd_ne _ _ e]
theorem values_iter (la : Option Addr) (lc : Nat) (cs : List Ch) (hl : cs.length < 1000000) (pb : Nat) : IterH Tryz.prog 130 [.pointer (some ⟨pb, 0, none⟩)] (fun k vs => ∃ c, cs[k]? = some c ∧ vs = [.agg (wrC c).toArray]) (fun k => k = cs.length)
    (fun h => h.cell pb 0 = some (.slice la cs.length lc) ∧ RowAt wrC 2 h la cs) := by
  intro l J Jx hJP hY h hJ
  refine slices_Values_journal_Change_journal_Change_1_0y.calls l pb 0 ?_
  unfold slices_Values_journal_Change_journal_Change_1_0y.W
  refine ⟨_, _, _, (hJP _ _ hJ).1, fun n x m => ∃ i : Nat, n = (i : Int) ∧ i ≤ cs.length ∧ m = cs.length - i ∧ J i x, ⟨_, 0, rfl, Nat.zero_le _, rfl, hJ⟩, ?_⟩
  rintro n x m ⟨i, rfl, hi, rfl, hJi⟩
  refine split_dec (fun g => ?_) fun g => ?_
  · have g : i < cs.length := by have : (i : Int) < (cs.length : Int) := g; omega
    have hq : cs[i]? = some cs[i] := List.getElem?_eq_getElem g
    generalize cs[i] = c at hq
    obtain ⟨b, o, ea, hc⟩ := (hJP _ _ hJi).2.get wrC_len (by decide) hq
    have e4 : IntKind.i64.wrap ((i : Int) + 1) = ((i + 1 : Nat) : Int) := by rw [wid (by omega) (by omega)]; omega
    refine ⟨by omega, by show (i : Int) < (cs.length : Int); omega, b, o, ea, _, hc 0 _ rfl, _, hc 1 _ rfl, ?_⟩
    refine YieldH.mono (hY i _ x hJi ⟨c, hq, rfl⟩) fun v h' hq => ?_
    rcases hq with ⟨rfl, hj⟩ | ⟨rfl, hj⟩
    · exact ⟨true, rfl, cs.length - (i + 1), by omega, i + 1, e4, by omega, rfl, hj⟩
    · exact ⟨false, rfl, .inr hj⟩
  · have : i = cs.length := by
      have : ¬ (i : Int) < (cs.length : Int) := g
      omega
    exact .inl ⟨i, this, hJi⟩
variable {h : Hp} {K : Value → Hp → Prop}
theorem collect_spec (la : Option Addr) (lc : Nat) (cs : List Ch) (hl : cs.length < 1000000) (pb : Nat) (hp : h.cell pb 0 = some (.slice la cs.length lc)) (R : RowAt wrC 2 h la cs)
    (hK : ∀ y a c, NewR wrC 2 122 h y a c cs → K (.slice a cs.length c) y) : CallsH Tryz.prog 128 #[.func (.func 130) #[] #[.pointer (some ⟨pb, 0, none⟩)]] h K := by
  refine slices_Collect_journal_Change__0f130.calls pb 0 ?_
  unfold slices_Collect_journal_Change__0f130.W
  refine slices_AppendSeq_journal_Change_journal_Change__1f130.calls none 0 0 pb 0 ?_
  unfold slices_AppendSeq_journal_Change_journal_Change__1f130.W
  intro k1 hk1
  refine ⟨_, _, _, fun k x => k ≤ cs.length ∧ Sub h x ∧ ∃ a c, Blk x k1 123 [.slice a k c] ∧ OwnR wrC 2 x 122 a c (cs.take k) ∧ ∀ b, blkOf a b → b ≠ k1 ∧ h b = none, fun _ _ => False, values_iter la lc cs hl pb, ?_, ?_, ?_, ?_, ?_, ?_, ?_, trivial⟩
  · rintro h0 b o hb ⟨p1, p2⟩
    exact ⟨cell_sub (Sub.upd hb o) p1, p2.sub (Sub.upd hb o)⟩
  · rintro k x ⟨_, s, _⟩
    exact ⟨cell_sub s hp, R.sub s⟩
  · exact ⟨Nat.zero_le _, Sub.upd hk1 _, none, 0, Blk.new h k1 123 _, OwnR.nil _ _, fun b ⟨o, s, e⟩ => by cases e⟩
  · rintro _ vs ⟨c, hc, rfl⟩
    exact ⟨_, _, rfl⟩
  · rintro k n s ⟨c, hc, e⟩ x ⟨hk, sx, a, cc, Bx, ox, nx⟩ k20 hk20
    have e : n = (c.1 : Int) ∧ s = c.2 := by
      have := (List.cons.inj e).1
      injection this with this
      have := congrArg Array.toList this
      injection this with e1 e2
      injection e1 with _ e1
      injection e2 with e2 _
      injection e2 with e2
      exact ⟨e1, e2⟩
    obtain ⟨rfl, rfl⟩ := e
    have hlt := (List.getElem?_eq_some_iff.1 hc).1
    have C20 := (Blk.new x k20 122 [.int .i64 0, .string (bytesL [])])
    have P20 := C20.put 0 [.int .i64 (c.1 : Nat), .string c.2]
    have d20 : k1 ≠ k20 := Bx.ne hk20
    have By := (Bx.upd hk20 (.cells #[.int .i64 0, .string (bytesL [])] 122 (0, 0))).put_ne 0 [.int .i64 (c.1 : Nat), .string c.2] d20
    have ky : Sub x ((x.upd k20 (.cells #[.int .i64 0, .string (bytesL [])] 122 (0, 0))).put k20 0 [.int .i64 (c.1 : Nat), .string c.2]) := fun b o hb => by
      have hne : b ≠ k20 := fun e => by rw [e, hk20] at hb; cases hb
      rw [Gx.put_ne _ _ _ hne, Hp.upd_ne _ _ hne]; exact hb
    refine ⟨C20.store (Nat.le_refl 2), _, _, _, By.cell' 0 rfl, _, P20.cell' 0 rfl, _, P20.cell' 1 rfl, fun k26 hk26 => ⟨_, (Blk.new _ k26 122 (wrC c)).slice rfl, fun a' c' y => OwnR wrC 2 y 122 a' c' (cs.take (k + 1)) ∧ Keep (blkOf a) x y ∧ ∀ b, blkOf a' b → blkOf a b ∨ x b = none, ?_, ?_⟩⟩
    · rintro a' c' y ⟨o1, o2, o3⟩
      have By := Bx.keep o2 fun hc => (nx _ hc).1 rfl
      have sy : Sub h y := o2.sub sx fun b hb => (nx b hb).2
      have hk1' : ∀ b, blkOf a' b → b ≠ k1 ∧ h b = none := fun b hb => by
        rcases o3 b hb with h' | h'
        · exact nx b h'
        · exact ⟨(fun e => by rw [e] at h'; unfold Blk at Bx; rw [Bx] at h'; cases h'), sx.none h'⟩
      have kp : Keep (fun c => c = k1) y (y.put k1 0 [.slice a' (k + 1) c']) := Keep.put _ y _ _ rfl
      exact ⟨By.store (Nat.le_refl 1), by omega, kp.sub sy (fun c e => by rw [e]; exact hk1), a', c', By.put 0 _, o1.keep kp fun c hc e => (hk1' c hc).1 e, hk1'⟩
    · have s26 := ky.trans (Sub.upd hk26 (.cells (wrC c).toArray 122 (0, 0)))
      refine append_ownR appTCh wrC_len wrC_plain (M := [c]) (ox.sub s26) (by rw [List.length_take]; omega) rfl (rowC_one _).symm (by simp; omega) fun a' c' y o k' nw => ⟨?_, fun b o' hb hn => k' b o' (s26 b o' hb) hn, fun b hb => ?_⟩
      · rw [List.take_add_one, hc]; exact o
      · rcases nw b hb with h | h
        · exact .inl h
        · exact .inr (s26.none h)
  · rintro _ x ⟨_, sx, a, cc, Bx, ox, nx⟩ rfl D' hD
    have hne := Bx.ne hD
    refine ⟨_, _, _, (Bx.upd hD _).cell' 0 rfl, Hp.upd_same _ _ _, ?_⟩
    rw [upd_del _ hD]
    rw [List.take_length] at ox
    exact ⟨_, _, _, rfl, hK x a cc ⟨sx, fun b hb => (nx b hb).2, ox⟩⟩
  · rintro x hf; exact hf.elim
end Go.Proofs.YthbogjbcecmopaaGreatDoor
namespace Go.Proofs.YthbogjbcecmopaaGreatDoor
open Go.Gx
set_option maxRecDepth 100000
set_option linter.unusedVariables false

theorem zero112 : zeroL Tryz.prog 81 = List.replicate 128 (.bool false) := by kernel_rfl
def seenC (l : List Ch) : List Value := (List.range 128).map fun i => .bool (l.any fun c => c.1 == i)
theorem seenC_len (l : List Ch) : (seenC l).length = 128 := by unfold seenC; simp
theorem seenC_get {l : List Ch} {i : Nat} (hi : i < 128) : (seenC l)[i]? = some (.bool (l.any fun c => c.1 == i)) := by
  unfold seenC
  rw [List.getElem?_map, List.getElem?_range hi]; rfl
theorem seenC_nil : seenC [] = List.replicate 128 (.bool false) := by kernel_rfl
theorem seenC_snoc (l : List Ch) (c : Ch) (hc : c.1 < 128) : setL (seenC l) c.1 [.bool true] = seenC (l ++ [c]) := by
  refine List.ext_getElem? fun i => ?_
  rw [setL_get]
  by_cases hi : i < 128
  · have hr := seenC_get (l := l ++ [c]) hi
    rw [hr, List.any_append]
    by_cases e : i = c.1
    · rw [if_pos ⟨e, by rw [seenC_len]; exact hc⟩, e]; simp
    · rw [if_neg (fun h => e h.1), seenC_get hi]
      have : (c.1 == i) = false := by simpa using Ne.symm e
      simp [this]
  · rw [if_neg (fun h => by omega), List.getElem?_eq_none (by rw [seenC_len]; omega), List.getElem?_eq_none (by rw [seenC_len]; omega)]
variable {h : Hp} {jb db n : Nat} {S : Nat → Prop} {D : Dk} {K : Value → Hp → Prop}
theorem check_ok (J : JAt h jb db S n D) {la : Option Addr} {lc : Nat} {cs : List Ch} (R : RowAt wrC 2 h la cs) (hl : cs.length < 1000000) (hc : ∀ c ∈ cs, c.1 < n ∧ c.2.size = 1024) (hd : (cs.map (·.1)).Nodup)
    (hK : ∀ y, Sub h y → K (.int .i64 0) y) : CallsH Tryz.prog journal_Journal_check.id #[.pointer (some ⟨jb, 0, none⟩), .slice la cs.length lc] h K := by
  have hn2 := J.n2
  obtain ⟨S0, j1, _⟩ := J.ex
  apply journal_Journal_check.calls
  unfold journal_Journal_check.W
  intro k1 hk1
  rw [zero112]
  have B0 : Blk (h.upd k1 (.cells (List.replicate 128 (.bool false)).toArray 81 (0, 0))) k1 81 (seenC []) := by rw [seenC_nil]; exact Blk.new h k1 81 _
  have hlen : (List.replicate 128 (Value.bool false)).length = 128 := List.length_replicate
  refine ⟨hlen, (fun v hv => by rw [(List.mem_replicate.1 hv).2]; exact ⟨(fun c h => by cases h), (fun c h => by cases h)⟩), B0.store (by rw [hlen, seenC_len]; exact Nat.le_refl _), ?_⟩
  have e0 : (h.upd k1 (.cells (List.replicate 128 (.bool false)).toArray 81 (0, 0))).put k1 0 (List.replicate 128 (.bool false)) = h.upd k1 (.cells (List.replicate 128 (.bool false)).toArray 81 (0, 0)) := by
    have B0' : Blk (h.upd k1 (.cells (List.replicate 128 (.bool false)).toArray 81 (0, 0))) k1 81 (List.replicate 128 (.bool false)) := Blk.new h k1 81 _
    rw [put_get B0']
    have e1 : setL (List.replicate 128 (Value.bool false)) 0 (List.replicate 128 (.bool false)) = List.replicate 128 (.bool false) := by kernel_rfl
    rw [e1]
    funext c
    by_cases e : c = k1
    · rw [e, Hp.upd_same, Hp.upd_same]
    · rw [Hp.upd_ne _ _ e]
  rw [e0]
  have s0 : Sub h (h.upd k1 (.cells (List.replicate 128 (.bool false)).toArray 81 (0, 0))) := Sub.upd hk1 _
  generalize h.upd k1 (.cells (List.replicate 128 (.bool false)).toArray 81 (0, 0)) = h1 at B0 s0
  have get : ∀ {x : Hp} {j : Nat}, Sub h x → j < cs.length → ∃ c b o, cs[j]? = some c ∧ c ∈ cs ∧ la = some ⟨b, o, none⟩ ∧ x.cell b (o + j * 2) = some (.int .i64 (c.1 : Nat)) ∧ x.cell b (o + j * 2 + 1) = some (.string c.2) := by
    intro x j sx hj
    have hq : cs[j]? = some cs[j] := List.getElem?_eq_getElem hj
    obtain ⟨b, o, ea, hcell⟩ := (R.sub sx).get wrC_len (by decide) hq
    exact ⟨_, b, o, hq, List.getElem_mem hj, ea, hcell 0 _ rfl, hcell 1 _ rfl⟩
  refine ⟨fun i x m => ∃ j : Nat, i = (j : Int) ∧ j ≤ cs.length ∧ m = cs.length - j ∧ x = h1, ⟨_, 0, rfl, Nat.zero_le _, rfl, rfl⟩, ?_⟩
  rintro i x m ⟨j, rfl, hj, rfl, rfl⟩
  have e4 : ∀ j : Nat, j < cs.length → IntKind.i64.wrap ((j : Int) + 1) = ((j + 1 : Nat) : Int) := fun j hj => by rw [wid (by omega) (by omega)]; omega
  refine split_dec (fun g => ?_) fun _ => ?_
  · have g : j < cs.length := by have : (j : Int) < (cs.length : Int) := g; omega
    obtain ⟨c, b, o, hq, hm, ea, c0, c1⟩ := get s0 g
    have hcn := (hc c hm).1
    exact ⟨by omega, by show (j : Int) < (cs.length : Int); omega, b, o, ea, _, c0, _, c1, split_dec (fun e => by have e : (c.1 : Int) < 0 := e; omega) fun _ => ⟨_, (j1.sub s0).cell' 1 rfl, split_dec (fun e => by have e : (c.1 : Int) ≥ (n : Int) := e; omega) fun _ => ⟨cs.length - (j + 1), by omega, j + 1, e4 j g, by omega, rfl, rfl⟩⟩⟩
  refine ⟨fun i x m => ∃ j : Nat, i = (j : Int) ∧ j ≤ cs.length ∧ m = cs.length - j ∧ Sub h x ∧ Blk x k1 81 (seenC (cs.take j)), ⟨_, 0, rfl, Nat.zero_le _, rfl, s0, B0⟩, ?_⟩
  rintro i x m ⟨j, rfl, hj, rfl, sx, Bx⟩
  refine split_dec (fun g => ?_) fun _ => ?_
  · have g : j < cs.length := by have : (j : Int) < (cs.length : Int) := g; omega
    obtain ⟨c, b, o, hq, hm, ea, c0, c1⟩ := get sx g
    have hcn := (hc c hm).1
    have hnot : ((cs.take j).any fun d => d.1 == c.1) = false := by
      rw [List.any_eq_false]
      intro d hd' e
      have e : d.1 = c.1 := by simpa using e
      obtain ⟨i, hi⟩ := List.mem_iff_getElem?.1 hd'
      have hij : i < j := by
        have := (List.getElem?_eq_some_iff.1 hi).1
        rw [List.length_take] at this; omega
      rw [List.getElem?_take_of_lt hij] at hi
      have h1 : (cs.map (·.1))[i]? = some d.1 := by rw [List.getElem?_map, hi]; rfl
      have h2 : (cs.map (·.1))[j]? = some d.1 := by rw [List.getElem?_map, hq, e]; rfl
      have := (List.getElem?_inj (by rw [List.length_map]; omega) hd).1 (h1.trans h2.symm)
      omega
    have eidx : 0 + (c.1 : Int).toNat * 1 = c.1 := by rw [Int.toNat_natCast]; omega
    refine ⟨by omega, by show (j : Int) < (cs.length : Int); omega, b, o, ea, _, c0, _, c1, by omega, by omega, false, ?_, by omega, by omega, ?_, cs.length - (j + 1), by omega, j + 1, e4 j g, by omega, rfl, ?_, ?_⟩
    · rw [eidx, Bx.cell, seenC_get (by omega), hnot]
    · rw [eidx]; exact Bx.store (by rw [seenC_len]; omega)
    · exact (Keep.put (fun c => c = k1) x _ _ rfl).sub sx fun c e => by rw [e]; exact hk1
    · rw [eidx]
      have := Bx.put c.1 [.bool true]
      rw [seenC_snoc _ _ (by omega)] at this
      rw [List.take_add_one, hq]; exact this
  refine ⟨fun i y m => ∃ j : Nat, i = (j : Int) ∧ j ≤ cs.length ∧ m = cs.length - j ∧ y = x, ⟨_, 0, rfl, Nat.zero_le _, rfl, rfl⟩, ?_⟩
  rintro i y m ⟨j, rfl, hj, rfl, rfl⟩
  refine split_dec (fun g => ?_) fun _ => hK y sx
  have g : j < cs.length := by have : (j : Int) < (cs.length : Int) := g; omega
  obtain ⟨c, b, o, hq, hm, ea, c0, c1⟩ := get sx g
  have hcn := (hc c hm).2
  exact ⟨by omega, by show (j : Int) < (cs.length : Int); omega, b, o, ea, _, c0, _, c1, split_ne (fun e => absurd (by show (c.2.size : Int) = 1024; omega) e) fun _ => ⟨cs.length - (j + 1), by omega, j + 1, e4 j g, by omega, rfl, rfl⟩⟩
end Go.Proofs.YthbogjbcecmopaaGreatDoor
namespace Go.Proofs
open Go.Shelf
def Tryz.sort88_ren : Go.Shelf.Ren := ⟨fun | 6 => 129 | 15 => 143 | 14 => 145 | 28 => 159 | 29 => 160 | 20 => 161 | 21 => 162 | 22 => 163 | 23 => 164 | 24 => 165 | 25 => 166 | 26 => 167 | 27 => 168 | 46 => 178 | 47 => 173 | 48 => 174 | 49 => 179 | 50 => 180 | 57 => 186 | n => n, fun | 22 => 123 | 24 => 122 | 25 => 165 | 3 => 3 | 39 => 143 | 0 => 0 | 53 => 172 | 55 => 79 | 4 => 4 | 46 => 204 | 45 => 203 | 50 => 101 | 5 => 5 | 9 => 9 | 66 => 218 | 70 => 222 | 76 => 233 | 77 => 234 | n => n, fun | n => n⟩
theorem Tryz.sort88 : Go.Proofs.SlLaysF0.n6 Tryz.prog Tryz.sort88_ren := {
  mixed := by kernel_rfl
  f6 := ⟨Tryz.f129.name, by decide, Tryz.func129.trans (congrArg some (by kernel_rfl))⟩
  f14 := ⟨Tryz.f145.name, by decide, Tryz.func145.trans (congrArg some (by kernel_rfl))⟩
  f15 := Tryz.func143.trans (congrArg some (by kernel_rfl))
  f20 := ⟨Tryz.f161.name, by decide, Tryz.func161.trans (congrArg some (by kernel_rfl))⟩
  f21 := ⟨Tryz.f162.name, by decide, Tryz.func162.trans (congrArg some (by kernel_rfl))⟩
  f22 := ⟨Tryz.f163.name, by decide, Tryz.func163.trans (congrArg some (by kernel_rfl))⟩
  f23 := ⟨Tryz.f164.name, by decide, Tryz.func164.trans (congrArg some (by kernel_rfl))⟩
  f24 := ⟨Tryz.f165.name, by decide, Tryz.func165.trans (congrArg some (by kernel_rfl))⟩
  f25 := ⟨Tryz.f166.name, by decide, Tryz.func166.trans (congrArg some (by kernel_rfl))⟩
  f26 := ⟨Tryz.f167.name, by decide, Tryz.func167.trans (congrArg some (by kernel_rfl))⟩
  f27 := ⟨Tryz.f168.name, by decide, Tryz.func168.trans (congrArg some (by kernel_rfl))⟩
  f28 := Tryz.func159.trans (congrArg some (by kernel_rfl))
  f29 := Tryz.func160.trans (congrArg some (by kernel_rfl))
  f46 := ⟨Tryz.f178.name, by decide, Tryz.func178.trans (congrArg some (by kernel_rfl))⟩
  f47 := Tryz.func173.trans (congrArg some (by kernel_rfl))
  f48 := Tryz.func174.trans (congrArg some (by kernel_rfl))
  f49 := ⟨Tryz.f179.name, by decide, Tryz.func179.trans (congrArg some (by kernel_rfl))⟩
  f50 := ⟨Tryz.f180.name, by decide, Tryz.func180.trans (congrArg some (by kernel_rfl))⟩
  f57 := ⟨Tryz.f186.name, by decide, Tryz.func186.trans (congrArg some (by kernel_rfl))⟩
  t0 := Tryz.underlying0
  a0 := Tryz.isAgg0
  z0 := Tryz.sizeOf0
  v0 := Tryz.zeroValue0
  t3 := Tryz.underlying3
  a3 := Tryz.isAgg3
  z3 := Tryz.sizeOf3
  v3 := Tryz.zeroValue3
  t4 := Tryz.underlying4
  a4 := Tryz.isAgg4
  z4 := Tryz.sizeOf4
  v4 := Tryz.zeroValue4
  t5 := Tryz.underlying5
  a5 := Tryz.isAgg5
  z5 := Tryz.sizeOf5
  v5 := Tryz.zeroValue5
  t9 := Tryz.underlying9
  a9 := Tryz.isAgg9
  z9 := Tryz.sizeOf9
  v9 := Tryz.zeroValue9
  t22 := Tryz.underlying123
  a22 := Tryz.isAgg123
  z22 := Tryz.sizeOf123
  v22 := Tryz.zeroValue123
  t25 := Tryz.underlying165
  a25 := Tryz.isAgg165
  z25 := Tryz.sizeOf165
  v25 := Tryz.zeroValue165
  t39 := Tryz.underlying143
  a39 := Tryz.isAgg143
  z39 := Tryz.sizeOf143
  v39 := Tryz.zeroValue143
  t45 := Tryz.underlying203
  a45 := Tryz.isAgg203
  z45 := Tryz.sizeOf203
  v45 := Tryz.zeroValue203
  t46 := Tryz.underlying204
  a46 := Tryz.isAgg204
  z46 := Tryz.sizeOf204
  v46 := Tryz.zeroValue204
  t50 := Tryz.underlying101
  a50 := Tryz.isAgg101
  z50 := Tryz.sizeOf101
  v50 := Tryz.zeroValue101
  t53 := Tryz.underlying172
  a53 := Tryz.isAgg172
  z53 := Tryz.sizeOf172
  v53 := Tryz.zeroValue172
  t55 := Tryz.underlying79
  a55 := Tryz.isAgg79
  z55 := Tryz.sizeOf79
  v55 := Tryz.zeroValue79
  t66 := Tryz.underlying218
  a66 := Tryz.isAgg218
  z66 := Tryz.sizeOf218
  v66 := Tryz.zeroValue218
  t70 := Tryz.underlying222
  a70 := Tryz.isAgg222
  z70 := Tryz.sizeOf222
  v70 := Tryz.zeroValue222
  t76 := Tryz.underlying233
  a76 := Tryz.isAgg233
  z76 := Tryz.sizeOf233
  v76 := Tryz.zeroValue233
  t77 := Tryz.underlying234
  a77 := Tryz.isAgg234
  z77 := Tryz.sizeOf234
  v77 := Tryz.zeroValue234 }
def Tryz.clone67_ren : Go.Shelf.Ren := ⟨fun | 5 => 86 | 7 => 116 | n => n, fun | 23 => 84 | 25 => 3 | 3 => 9 | 4 => 4 | 20 => 20 | n => n, fun | n => n⟩
theorem Tryz.clone67 : Go.Proofs.SlLaysW.n5 Tryz.prog Tryz.clone67_ren := {
  mixed := by kernel_rfl
  f5 := ⟨Tryz.f86.name, by decide, Tryz.func86.trans (congrArg some (by kernel_rfl))⟩
  f7 := Tryz.func116.trans (congrArg some (by kernel_rfl))
  t4 := Tryz.underlying4
  a4 := Tryz.isAgg4
  z4 := Tryz.sizeOf4
  v4 := Tryz.zeroValue4
  t20 := Tryz.underlying20
  a20 := Tryz.isAgg20
  z20 := Tryz.sizeOf20
  v20 := Tryz.zeroValue20
  t23 := Tryz.underlying84
  a23 := Tryz.isAgg84
  z23 := Tryz.sizeOf84
  v23 := Tryz.zeroValue84 }
def Tryz.keys69_ren : Go.Shelf.Ren := ⟨fun | 7 => 106 | 10 => 127 | n => n, fun | 23 => 84 | 26 => 3 | 3 => 9 | 28 => 158 | 0 => 0 | 27 => 129 | 33 => 115 | 4 => 4 | n => n, fun | n => n⟩
theorem Tryz.keys69 : Go.Proofs.SlLaysZI.n7 Tryz.prog Tryz.keys69_ren := {
  mixed := by kernel_rfl
  f7 := ⟨Tryz.f106.name, by decide, Tryz.func106.trans (congrArg some (by kernel_rfl))⟩
  f10 := ⟨Tryz.f127.name, by decide, Tryz.func127.trans (congrArg some (by kernel_rfl))⟩
  t0 := Tryz.underlying0
  a0 := Tryz.isAgg0
  z0 := Tryz.sizeOf0
  v0 := Tryz.zeroValue0
  t4 := Tryz.underlying4
  a4 := Tryz.isAgg4
  z4 := Tryz.sizeOf4
  v4 := Tryz.zeroValue4
  t23 := Tryz.underlying84
  a23 := Tryz.isAgg84
  z23 := Tryz.sizeOf84
  v23 := Tryz.zeroValue84
  t26 := Tryz.underlying3
  a26 := Tryz.isAgg3
  z26 := Tryz.sizeOf3
  v26 := Tryz.zeroValue3
  t27 := Tryz.underlying129
  a27 := Tryz.isAgg129
  z27 := Tryz.sizeOf129
  v27 := Tryz.zeroValue129
  t28 := Tryz.underlying158
  a28 := Tryz.isAgg158
  z28 := Tryz.sizeOf158
  v28 := Tryz.zeroValue158
  t33 := Tryz.underlying115
  a33 := Tryz.isAgg115
  z33 := Tryz.sizeOf115
  v33 := Tryz.zeroValue115 }
def Tryz.sorted68_ren : Go.Shelf.Ren := ⟨fun | 6 => 105 | 8 => 125 | 9 => 126 | 11 => 141 | 13 => 143 | 12 => 142 | 23 => 159 | 24 => 160 | 14 => 150 | 15 => 151 | 16 => 152 | 17 => 153 | 18 => 154 | 19 => 155 | 20 => 156 | 21 => 157 | 22 => 158 | 25 => 172 | 26 => 173 | 27 => 174 | 28 => 175 | 29 => 176 | 30 => 177 | 31 => 185 | n => n, fun | 26 => 3 | 28 => 158 | 24 => 107 | 0 => 0 | 3 => 3 | 37 => 143 | 48 => 172 | 50 => 79 | 4 => 4 | 40 => 204 | 39 => 203 | 45 => 101 | 5 => 5 | 9 => 9 | 51 => 218 | 55 => 222 | 57 => 233 | 58 => 234 | 33 => 115 | n => n, fun | n => n⟩
theorem Tryz.sorted68 : Go.Proofs.SlLaysZI.n6 Tryz.prog Tryz.sorted68_ren := {
  mixed := by kernel_rfl
  f6 := ⟨Tryz.f105.name, by decide, Tryz.func105.trans (congrArg some (by kernel_rfl))⟩
  f8 := ⟨Tryz.f125.name, by decide, Tryz.func125.trans (congrArg some (by kernel_rfl))⟩
  f11 := ⟨Tryz.f141.name, by decide, Tryz.func141.trans (congrArg some (by kernel_rfl))⟩
  t0 := Tryz.underlying0
  a0 := Tryz.isAgg0
  z0 := Tryz.sizeOf0
  v0 := Tryz.zeroValue0
  t24 := Tryz.underlying107
  a24 := Tryz.isAgg107
  z24 := Tryz.sizeOf107
  v24 := Tryz.zeroValue107
  t26 := Tryz.underlying3
  a26 := Tryz.isAgg3
  z26 := Tryz.sizeOf3
  v26 := Tryz.zeroValue3
  t28 := Tryz.underlying158
  a28 := Tryz.isAgg158
  z28 := Tryz.sizeOf158
  v28 := Tryz.zeroValue158
  i26 := by kernel_rfl }
def Tryz.sort94_ren : Go.Shelf.Ren := ⟨fun | 5 => 126 | 8 => 143 | 7 => 142 | 19 => 159 | 20 => 160 | 10 => 150 | 11 => 151 | 12 => 152 | 13 => 153 | 14 => 154 | 15 => 155 | 16 => 156 | 17 => 157 | 18 => 158 | 30 => 172 | 31 => 173 | 32 => 174 | 33 => 175 | 34 => 176 | 35 => 177 | 40 => 185 | n => n, fun | 23 => 107 | 25 => 3 | 3 => 3 | 32 => 143 | 22 => 107 | 0 => 0 | 44 => 172 | 46 => 79 | 4 => 4 | 36 => 204 | 35 => 203 | 41 => 101 | 5 => 5 | 9 => 9 | 53 => 218 | 57 => 222 | 63 => 233 | 64 => 234 | n => n, fun | n => n⟩
theorem Tryz.sort94 : Go.Proofs.SlLaysM.n5 Tryz.prog Tryz.sort94_ren := {
  mixed := by kernel_rfl
  f5 := ⟨Tryz.f126.name, by decide, Tryz.func126.trans (congrArg some (by kernel_rfl))⟩
  f7 := ⟨Tryz.f142.name, by decide, Tryz.func142.trans (congrArg some (by kernel_rfl))⟩
  f8 := Tryz.func143.trans (congrArg some (by kernel_rfl))
  f10 := ⟨Tryz.f150.name, by decide, Tryz.func150.trans (congrArg some (by kernel_rfl))⟩
  f11 := ⟨Tryz.f151.name, by decide, Tryz.func151.trans (congrArg some (by kernel_rfl))⟩
  f12 := ⟨Tryz.f152.name, by decide, Tryz.func152.trans (congrArg some (by kernel_rfl))⟩
  f13 := ⟨Tryz.f153.name, by decide, Tryz.func153.trans (congrArg some (by kernel_rfl))⟩
  f14 := ⟨Tryz.f154.name, by decide, Tryz.func154.trans (congrArg some (by kernel_rfl))⟩
  f15 := ⟨Tryz.f155.name, by decide, Tryz.func155.trans (congrArg some (by kernel_rfl))⟩
  f16 := ⟨Tryz.f156.name, by decide, Tryz.func156.trans (congrArg some (by kernel_rfl))⟩
  f17 := ⟨Tryz.f157.name, by decide, Tryz.func157.trans (congrArg some (by kernel_rfl))⟩
  f18 := ⟨Tryz.f158.name, by decide, Tryz.func158.trans (congrArg some (by kernel_rfl))⟩
  f19 := Tryz.func159.trans (congrArg some (by kernel_rfl))
  f20 := Tryz.func160.trans (congrArg some (by kernel_rfl))
  f30 := ⟨Tryz.f172.name, by decide, Tryz.func172.trans (congrArg some (by kernel_rfl))⟩
  f31 := Tryz.func173.trans (congrArg some (by kernel_rfl))
  f32 := Tryz.func174.trans (congrArg some (by kernel_rfl))
  f33 := ⟨Tryz.f175.name, by decide, Tryz.func175.trans (congrArg some (by kernel_rfl))⟩
  f34 := ⟨Tryz.f176.name, by decide, Tryz.func176.trans (congrArg some (by kernel_rfl))⟩
  f35 := ⟨Tryz.f177.name, by decide, Tryz.func177.trans (congrArg some (by kernel_rfl))⟩
  f40 := ⟨Tryz.f185.name, by decide, Tryz.func185.trans (congrArg some (by kernel_rfl))⟩
  t0 := Tryz.underlying0
  a0 := Tryz.isAgg0
  z0 := Tryz.sizeOf0
  v0 := Tryz.zeroValue0
  t3 := Tryz.underlying3
  a3 := Tryz.isAgg3
  z3 := Tryz.sizeOf3
  v3 := Tryz.zeroValue3
  t4 := Tryz.underlying4
  a4 := Tryz.isAgg4
  z4 := Tryz.sizeOf4
  v4 := Tryz.zeroValue4
  t5 := Tryz.underlying5
  a5 := Tryz.isAgg5
  z5 := Tryz.sizeOf5
  v5 := Tryz.zeroValue5
  t9 := Tryz.underlying9
  a9 := Tryz.isAgg9
  z9 := Tryz.sizeOf9
  v9 := Tryz.zeroValue9
  t22 := Tryz.underlying107
  a22 := Tryz.isAgg107
  z22 := Tryz.sizeOf107
  v22 := Tryz.zeroValue107
  t23 := Tryz.underlying107
  a23 := Tryz.isAgg107
  z23 := Tryz.sizeOf107
  v23 := Tryz.zeroValue107
  t25 := Tryz.underlying3
  a25 := Tryz.isAgg3
  z25 := Tryz.sizeOf3
  v25 := Tryz.zeroValue3
  t32 := Tryz.underlying143
  a32 := Tryz.isAgg143
  z32 := Tryz.sizeOf143
  v32 := Tryz.zeroValue143
  t35 := Tryz.underlying203
  a35 := Tryz.isAgg203
  z35 := Tryz.sizeOf203
  v35 := Tryz.zeroValue203
  t36 := Tryz.underlying204
  a36 := Tryz.isAgg204
  z36 := Tryz.sizeOf204
  v36 := Tryz.zeroValue204
  t41 := Tryz.underlying101
  a41 := Tryz.isAgg101
  z41 := Tryz.sizeOf101
  v41 := Tryz.zeroValue101
  t44 := Tryz.underlying172
  a44 := Tryz.isAgg172
  z44 := Tryz.sizeOf172
  v44 := Tryz.zeroValue172
  t46 := Tryz.underlying79
  a46 := Tryz.isAgg79
  z46 := Tryz.sizeOf79
  v46 := Tryz.zeroValue79
  t53 := Tryz.underlying218
  a53 := Tryz.isAgg218
  z53 := Tryz.sizeOf218
  v53 := Tryz.zeroValue218
  t57 := Tryz.underlying222
  a57 := Tryz.isAgg222
  z57 := Tryz.sizeOf222
  v57 := Tryz.zeroValue222
  t63 := Tryz.underlying233
  a63 := Tryz.isAgg233
  z63 := Tryz.sizeOf233
  v63 := Tryz.zeroValue233
  t64 := Tryz.underlying234
  a64 := Tryz.isAgg234
  z64 := Tryz.sizeOf234
  v64 := Tryz.zeroValue234 }
end Go.Proofs
namespace Go.Proofs
open Go.Shelf Go.RowKit Go.Lib Go.Sort
def Tryz.encCh (x : Fin 256 × ByteArray) : List Value := [.int .i64 (x.1.val : Nat), .string x.2]
def Tryz.cfCh (x y : Fin 256 × ByteArray) : Int := ((x.1.val : Nat) : Int) - ((y.1.val : Nat) : Int)
theorem Tryz.wrapCh (x y : Fin 256 × ByteArray) : IntKind.i64.wrap (((x.1.val : Nat) : Int) - ((y.1.val : Nat) : Int)) = Tryz.cfCh x y := by
  have h1 := x.1.isLt
  have h2 := y.1.isLt
  unfold Tryz.cfCh IntKind.wrap
  simp only [IntKind.signed, IntKind.bits, Bool.true_and]
  split <;> simp_all <;> omega
set_option maxHeartbeats 1000000 in
theorem Tryz.closure56 (x y : Fin 256 × ByteArray) (W : World) : Calls Tryz.prog 111 #[.agg #[.int .i64 (x.1.val : Nat), .string x.2], .agg #[.int .i64 (y.1.val : Nat), .string y.2]] W fun e w' => e = .returned (.int .i64 (Tryz.cfCh x y)) ∧ ∃ q os', w' = grow (W.drewN q) os' := by
  have hw := Tryz.wrapCh x y
  generalize Tryz.cfCh x y = r at hw ⊢
  go_enter Tryz.func111, Tryz.ntmps111
  go_wp2
  go_ret
  exact ⟨rfl, 0, _, by rw [alloc_eq_grow, alloc_eq_grow, grow_grow]; rfl⟩
theorem Tryz.ltCh (x y : Fin 256 × ByteArray) : ltOf Tryz.cfCh x y = decide (x.1.val < y.1.val) := by
  unfold ltOf Tryz.cfCh
  by_cases h : x.1.val < y.1.val
  · rw [decide_eq_true h]; exact decide_eq_true (by omega)
  · rw [decide_eq_false h]; exact decide_eq_false (by omega)
theorem Tryz.swoCh : SWO (ltOf Tryz.cfCh) where
  irrefl x := by rw [Tryz.ltCh]; simp
  trans x y z h1 h2 := by rw [Tryz.ltCh] at *; simp at *; omega
  ntrans x y z h1 h2 := by rw [Tryz.ltCh] at *; simp at *; omega
theorem Tryz.sort88_at (blk off cap : Nat) (d : Array (Fin 256 × ByteArray)) (w : World) (hH : HoldsK Tryz.encCh 2 w blk off d) (hblk : blk < w.heap.size) (hsz : d.size < 4611686018427387904) :
    Calls Tryz.prog 129 #[.slice (some ⟨blk, off, none⟩) d.size cap, .func (.func 111) #[] #[]] w fun e w' => e = .returned (.tuple #[]) ∧ ∃ d' n os, PermIn 0 d.size d d' ∧ SortedIn (ltOf Tryz.cfCh) 0 d.size d' ∧ w' = sortWorldK Tryz.encCh 2 w blk off n d' os :=
  AnyQ.slices_SortFunc Tryz.sort88 2 Tryz.isAgg122 Tryz.sizeOf122 Tryz.encCh (fun _ => rfl) (fun x v hv => by simp [Tryz.encCh] at hv; rcases hv with rfl | rfl <;> rfl) Tryz.cfCh Tryz.swoCh 111 #[] blk off cap d w (enters_of Tryz.func111 (by kernel_rfl) rfl) (fun _ _ _ _ x y => Tryz.closure56 x y _) hH hblk hsz
theorem Tryz.sort88_none (p : Option Addr) (cap : Nat) (w : World) : Calls Tryz.prog 129 #[.slice p 0 cap, .func (.func 111) #[] #[]] w fun e w' => e = .returned (.tuple #[]) ∧ w' = w :=
  AnyF.slices_SortFunc_none { Tryz.sort88 with } p cap _ w
end Go.Proofs
namespace Go.Proofs.YthbogjbcecmopaaGreatDoor
open Go.Gx
open Go.Sort (flatK get_flatK size_flatK HoldsK putRowK grow SortedIn PermIn)
open Go.Proofs (sortWorldK)
set_option linter.unusedVariables false
abbrev Cf := Fin 256 × ByteArray
def ofCf (x : Cf) : Ch := (x.1.val, x.2)
theorem enc_wr (x : Cf) : Tryz.encCh x = wrC (ofCf x) := rfl
theorem lift_cs : ∀ (cs : List Ch), (∀ c ∈ cs, c.1 < 256) → ∃ d : List Cf, d.map ofCf = cs
  | [], _ => ⟨[], rfl⟩
  | c :: cs, h => by
    obtain ⟨d, rfl⟩ := lift_cs cs fun x hx => h x (List.mem_cons_of_mem _ hx)
    exact ⟨(⟨c.1, h c List.mem_cons_self⟩, c.2) :: d, rfl⟩
theorem flat_get_ (d : Array Cf) (t : Nat) (ht : t < d.size * 2) : (rowC wrC (d.toList.map ofCf))[t]? = some ((flatK Tryz.encCh 2 d)[t]!) := by
  have hi : t / 2 < d.size := by omega
  have h1 : (d.toList.map ofCf)[t / 2]? = some (ofCf d[t / 2]!) := by
    rw [List.getElem?_map, Array.getElem?_toList, getElem!_pos d (t / 2) hi, Array.getElem?_eq_getElem hi]; rfl
  have h2 := rowC_get wrC_len _ _ _ h1 (t % 2) (by omega)
  rw [show t / 2 * 2 + t % 2 = t by omega] at h2
  rw [h2, get_flatK _ _ _ _ ht, enc_wr]
  have h3 : t % 2 < (wrC (ofCf d[t / 2]!)).length := by rw [wrC_len]; omega
  rw [List.getElem?_eq_getElem h3, getElem!_pos (wrC (ofCf d[t / 2]!)) (t % 2) h3]
theorem put_flat (d : Array Cf) (A rest : List Value) (hA : A.length = d.size * 2) : Go.Sort.putCells id 0 (flatK Tryz.encCh 2 d) (A ++ rest).toArray = (rowC wrC (d.toList.map ofCf) ++ rest).toArray := by
  have hl : (rowC wrC (d.toList.map ofCf)).length = d.size * 2 := by rw [rowC_length wrC_len, List.length_map, Array.length_toList]
  apply Array.ext_getElem?
  intro t
  unfold Go.Sort.putCells
  rw [Array.getElem?_mapIdx]
  simp only [List.getElem?_toArray, size_flatK, Nat.zero_le, Nat.zero_add, true_and, id]
  by_cases ht : t < d.size * 2
  · rw [List.getElem?_append_left (by omega), List.getElem?_append_left (by omega), flat_get_ d t ht, List.getElem?_eq_getElem (by omega)]
    simp [ht]
  · rw [List.getElem?_append_right (by omega), List.getElem?_append_right (by omega), hA, hl]
    cases rest[t - d.size * 2]? <;> simp [ht]
theorem sortfunc_spec {h y : Hp} {K : Value → Hp → Prop} {a : Option Addr} {c : Nat} {cs : List Ch} (N : NewR wrC 2 122 h y a c cs) (hl : cs.length < 1000000) (hs : ∀ c ∈ cs, c.1 < 256)
    (hK : ∀ y ds, ds.Perm cs → ds.Pairwise (fun a b => a.1 ≤ b.1) → NewR wrC 2 122 h y a c ds → K (.tuple #[]) y) : CallsH Tryz.prog 129 #[.slice a cs.length c, .func (.func 111) #[] #[]] y K := by
  intro W hW
  obtain ⟨o1, o2, ⟨rfl, rfl⟩ | ⟨b, rest, rfl, hb, hr⟩⟩ := id N.own
  · have : cs = [] := List.eq_nil_of_length_eq_zero (by omega)
    subst this
    exact (Tryz.sort88_none none 0 W).mono fun e w' ⟨he, hw⟩ => ⟨_, y, he, hK y [] (List.Perm.refl _) List.Pairwise.nil N, by rw [hw]; exact hW, by rw [hw]; exact Kept.refl _ _⟩
  · obtain ⟨d, rfl⟩ := lift_cs cs hs
    have hWb := hW b _ hb
    have hlt := (Array.getElem?_eq_some_iff.1 hWb).1
    have hA : (rowC wrC (d.map ofCf)).length = d.toArray.size * 2 := by rw [rowC_length wrC_len, List.length_map]; rfl
    have hH : HoldsK Tryz.encCh 2 W b 0 d.toArray := by
      intro j hj
      rw [size_flatK] at hj
      have h1 := flat_get_ d.toArray j hj
      rw [Nat.zero_add]
      refine ⟨?_, ?_⟩
      · unfold World.cell?
        rw [show W.heap[(⟨b, j, none⟩ : Addr).block]? = _ from hWb]
        simp only [List.getElem?_toArray]
        rw [List.getElem?_append_left (by omega)]
        exact h1
      · unfold World.frozen?
        rw [show W.heap[(⟨b, j, none⟩ : Addr).block]? = _ from hWb]
        simp
    have hcall := Tryz.sort88_at b 0 c d.toArray W hH hlt (by simp at hl ⊢; omega)
    rw [show (d.map ofCf).length = d.toArray.size by simp]
    refine hcall.mono fun e w' ⟨he, d', nn, os, hp, hsd, hw⟩ => ?_
    have hsz : d'.size = d.toArray.size := hp.1
    have hperm : d'.toList.Perm d := by
      have := hp.2.2
      rw [Array.extract_eq_self_of_le (by omega), Array.extract_eq_self_of_le (Nat.le_refl _)] at this
      exact this
    have hds : (d'.toList.map ofCf).length = (d.map ofCf).length := by rw [List.length_map, List.length_map, Array.length_toList, hsz]; rfl
    have hheap : ∀ k, k < W.heap.size → w'.heap[k]? = (if k = b then some (.cells (rowC wrC (d'.toList.map ofCf) ++ rest).toArray 122 (0, 0)) else W.heap[k]?) := by
      intro k hk
      rw [hw]
      unfold sortWorldK grow putRowK Go.Sort.putRow Go.Sort.mapBlock Go.Sort.ahead
      show ((W.heap.modify b _) ++ os)[k]? = _
      rw [Array.getElem?_append_left (by simpa using hk), Array.getElem?_modify]
      by_cases e : b = k
      · subst e
        rw [if_pos rfl, if_pos rfl, hWb]
        show some (Obj.cells (Go.Sort.putCells id 0 (flatK Tryz.encCh 2 d') (rowC wrC (d.map ofCf) ++ rest).toArray) 122 (0, 0)) = _
        rw [put_flat d' _ _ (by rw [hA, hsz])]
      · rw [if_neg e, if_neg (Ne.symm e)]
    have hsize : W.heap.size ≤ w'.heap.size := by
      rw [hw]
      unfold sortWorldK grow putRowK Go.Sort.putRow Go.Sort.mapBlock Go.Sort.ahead
      simp
    refine ⟨_, y.upd b (.cells (rowC wrC (d'.toList.map ofCf) ++ rest).toArray 122 (0, 0)), he, hK _ (d'.toList.map ofCf) (hperm.map _) ?_ ⟨?_, N.new, ?_⟩, fun c' o hc => ?_, ⟨by rw [hw]; rfl, by rw [hw]; rfl, by rw [hw]; rfl, hsize, fun c' o hc hn => ?_⟩⟩
    · rw [List.pairwise_iff_getElem]
      intro i j hi hj hij
      simp only [List.length_map, Array.length_toList] at hi hj
      have := hsd i j (Nat.zero_le _) hij (by omega)
      rw [Tryz.ltCh, getElem!_pos d' j hj, getElem!_pos d' i hi] at this
      have := of_decide_eq_false this
      simp only [List.getElem_map, Array.getElem_toList, ofCf]
      omega
    · intro c' o hc
      have hne : c' ≠ b := fun e => by have := N.new b ⟨0, none, rfl⟩; rw [e, this] at hc; cases hc
      rw [Hp.upd_ne _ _ hne]; exact N.sub c' o hc
    · refine ⟨by rw [rowC_length wrC_len], by rw [hds]; exact o2, .inr ⟨b, rest, rfl, Hp.upd_same _ _ _, by rw [hds]; exact hr⟩⟩
    · by_cases e : c' = b
      · rw [e, Hp.upd_same] at hc
        cases hc
        rw [e, hheap b hlt, if_pos rfl]
      · rw [Hp.upd_ne _ _ e] at hc
        have := hW c' o hc
        rw [hheap c' (Array.getElem?_eq_some_iff.1 this).1, if_neg e]; exact this
    · have hne : c' ≠ b := fun e => by rw [e, show y b = _ from hb] at hn; cases hn
      rw [hheap c' (Array.getElem?_eq_some_iff.1 hc).1, if_neg hne, Hp.upd_ne _ _ hne]
      exact ⟨hc, hn⟩
theorem sortedfunc_spec {h : Hp} {K : Value → Hp → Prop} (la : Option Addr) (lc : Nat) (cs : List Ch) (hl : cs.length < 1000000) (pb : Nat) (hp : h.cell pb 0 = some (.slice la cs.length lc)) (R : RowAt wrC 2 h la cs) (hs : ∀ c ∈ cs, c.1 < 256)
    (hK : ∀ y a c ds, ds.Perm cs → ds.Pairwise (fun a b => a.1 ≤ b.1) → NewR wrC 2 122 h y a c ds → K (.slice a ds.length c) y) : CallsH Tryz.prog 109 #[.func (.func 130) #[] #[.pointer (some ⟨pb, 0, none⟩)], .func (.func 111) #[] #[]] h K := by
  refine slices_SortedFunc_journal_Change__0f130_1f111.calls pb 0 ?_
  unfold slices_SortedFunc_journal_Change__0f130_1f111.W
  refine collect_spec la lc cs hl pb hp R fun y a c N => ⟨_, _, _, rfl, sortfunc_spec N hl hs fun y2 ds hpm hsd N2 => ⟨rfl, ?_⟩⟩
  rw [← hpm.length_eq]
  exact hK y2 a c ds hpm hsd N2
end Go.Proofs.YthbogjbcecmopaaGreatDoor
namespace Go.Proofs.YthbogjbcecmopaaGreatDoor
open Go.Gx
set_option maxRecDepth 100000
set_option linter.unusedVariables false

theorem byteV (m : Nat) (h : m < 256) : byteC (UInt8.ofNat m) = [.int .u8 (m : Nat)] := by
  unfold byteC
  have : (UInt8.ofNat m).toNat = m := by simp; omega
  rw [this]
def orBit (b : UInt8) (k : Nat) : UInt8 := UInt8.ofNat (IntKind.u8.wrap (ior IntKind.u8 ((b.toNat : Nat) : Int) (IntKind.u8.wrap (ishl IntKind.u8 1 ((k : Nat) : Int))))).toNat
theorem orBit_C (b : UInt8) (k : Nat) : byteC (orBit b k) = [.int .u8 (IntKind.u8.wrap (ior IntKind.u8 ((b.toNat : Nat) : Int) (IntKind.u8.wrap (ishl IntKind.u8 1 ((k : Nat) : Int)))))] := by
  unfold orBit
  generalize ior IntKind.u8 ((b.toNat : Nat) : Int) (IntKind.u8.wrap (ishl IntKind.u8 1 ((k : Nat) : Int))) = x
  have h := wrap8 x
  rw [byteV _ (by omega)]
  congr 2; omega
def setBit (L : List UInt8) (p : Nat) : List UInt8 := L.set (p / 8) (orBit (L.getD (p / 8) 0) (p % 8))
theorem setBit_len (L : List UInt8) (p : Nat) : (setBit L p).length = L.length := List.length_set ..
def markL (ds : List Ch) : List UInt8 := ds.foldl (fun L c => setBit L c.1) (List.replicate 256 0)
theorem markL_len : ∀ (ds : List Ch), (markL ds).length = 256 := by
  intro ds
  unfold markL
  have : ∀ (ds : List Ch) (L : List UInt8), (ds.foldl (fun L c => setBit L c.1) L).length = L.length := by
    intro ds
    induction ds with
    | nil => intro L; rfl
    | cons d ds ih => intro L; rw [List.foldl_cons, ih, setBit_len]
  rw [this, List.length_replicate]
theorem markL_snoc (l : List Ch) (c : Ch) : markL (l ++ [c]) = setBit (markL l) c.1 := by unfold markL; rw [List.foldl_append]; rfl
def markB (ds : List Ch) : ByteArray := ⟨(markL ds).toArray⟩
theorem markB_size (ds : List Ch) : (markB ds).size = 256 := by rw [← size_len]; exact markL_len ds
def andD (r : Dk × Int) (f : Dk → Dk × Int) : Dk × Int := if r.2 = 0 then f r.1 else r
def commitD (n : Nat) (D : Dk) (ds : List Ch) : Dk × Int :=
  andD (flD (wrs D (logW ds))) fun D1 => andD (flD (wrs D1 [(0, markB ds)])) fun D2 => andD (flD (wrs D2 (ownW n ds))) fun D3 => flD (wrs D3 [(0, zeroB 256)])
theorem flD_ok {r : Dk × Int} (h : (flD r).2 = 0) : (flD r).1.ws = [] ∧ (flD r).1.l.length = r.1.l.length := by
  unfold flD at h ⊢
  by_cases h1 : r.2 ≠ 0
  · rw [if_pos h1] at h; exact absurd h h1
  · rw [if_neg h1] at h ⊢
    by_cases h2 : r.1.down = true
    · rw [if_pos h2] at h; cases h
    · rw [if_neg h2]; exact ⟨rfl, settleL_len _ _⟩
variable {h : Hp} {jb db n : Nat} {S : Nat → Prop} {D : Dk} {K : Value → Hp → Prop}
theorem jcommit_spec (J : JAt h jb db S n D) (hup : D.down = false) (hws : D.ws = []) {la : Option Addr} {lc : Nat} {cs : List Ch} (R : RowAt wrC 2 h la cs) (hl : cs.length ≤ 128) (hne : cs ≠ []) (hla : ∀ c, blkOf la c → ¬ S c)
    (hc : ∀ c ∈ cs, c.1 < n ∧ c.2.size = 1024) (hd : (cs.map (·.1)).Nodup)
    (hK : ∀ h' S' ds, ds.Perm cs → ds.Pairwise (fun a b => a.1 ≤ b.1) → JAt h' jb db S' n (commitD n D ds).1 → Step S h S' h' → K (.int .i64 (commitD n D ds).2) h') :
    CallsH Tryz.prog journal_Journal_Commit.id #[.pointer (some ⟨jb, 0, none⟩), .slice la cs.length lc] h K := by
  have hn2 := J.n2
  have hln := J.len
  apply journal_Journal_Commit.calls
  unfold journal_Journal_Commit.W
  refine check_ok J R (by omega) hc hd fun h1 s1 => ⟨_, rfl, split_ne (fun e => absurd rfl e) fun _ => ?_⟩
  have J1 := J.sub s1
  obtain ⟨S0, k1, k2, k3⟩ := J1.step
  refine ⟨_, k2.cell' 0 rfl, up_spec k1 ⟨_, rfl, ?_⟩⟩
  rw [hup]
  refine split_eq (fun e => by
    have e : (cs.length : Int) = 0 := e
    exact absurd (List.eq_nil_of_length_eq_zero (by omega)) hne) fun _ => ?_
  refine slices_Values_journal_Change_journal_Change_.calls la cs.length lc fun kv hkv => ⟨_, rfl, ?_⟩
  have sv := Sub.upd hkv (.cells #[.slice la cs.length lc] 123 (0, 0))
  refine sortedfunc_spec la lc cs (by omega) kv ((Blk.new h1 kv 123 [.slice la cs.length lc]).cell' 0 rfl) ((R.sub s1).sub sv) (fun c hm => by have := (hc c hm).1; omega) fun h2 a13 c15 ds hp hs N2 => ⟨_, _, _, rfl, ?_⟩
  have hdl : ds.length = cs.length := hp.length_eq
  have hdc : ∀ c ∈ ds, c.1 < n ∧ c.2.size = 1024 := fun c hm => hc c (hp.mem_iff.1 hm)
  have J2 := (J1.sub sv).sub N2.sub
  have s2 : Sub h h2 := (s1.trans sv).trans N2.sub
  have ha13 : ∀ c, blkOf a13 c → h c = none := fun c hcb => (s1.trans sv).none (N2.new c hcb)
  refine ⟨by decide, by decide, by decide, by decide, fun k16 hk16 => ?_⟩
  have n16 : h k16 = none := s2.none hk16
  have O16 : OwnR byteC 1 (h2.upd k16 (.cells (repV 256 [.int .u8 0]).toArray 5 (0, 0))) 5 (some ⟨k16, 0, none⟩) 256 (markL []) := by
    have e : rowC byteC (List.replicate 256 0) = repV 256 [.int .u8 0] := by
      have := rowC_bytes (zeroB 256)
      rw [zeroB_bytes] at this; exact this
    refine ⟨by show (rowC byteC (List.replicate 256 0)).length = 256 * 1; rw [e]; rfl, Nat.le_refl _, .inr ⟨k16, [], rfl, ?_, rfl⟩⟩
    show Blk _ k16 5 (rowC byteC (List.replicate 256 0) ++ [])
    rw [e, List.append_nil]; exact Blk.new _ _ _ _
  refine ⟨fun i x m => ∃ j : Nat, i = (j : Int) ∧ j ≤ ds.length ∧ m = ds.length - j ∧ Sub h2 x ∧ OwnR byteC 1 x 5 (some ⟨k16, 0, none⟩) 256 (markL (ds.take j)), ⟨_, 0, rfl, Nat.zero_le _, rfl, Sub.upd hk16 _, O16⟩, ?_⟩
  rintro i x m ⟨j, rfl, hj, rfl, sx, ox⟩
  refine split_dec (fun g => ?_) fun g => ?_
  · have g : j < ds.length := by have : (j : Int) < (ds.length : Int) := g; omega
    have hq : ds[j]? = some ds[j] := List.getElem?_eq_getElem g
    have hcm := (hdc ds[j] (List.getElem_mem g)).1
    generalize ds[j] = c at hq hcm
    obtain ⟨b, o, ea, hcell⟩ := (N2.own.sub sx).row.get wrC_len (by decide) hq
    have hml := markL_len (ds.take j)
    have e1 : (c.1 : Int).tdiv 8 = ((c.1 / 8 : Nat) : Int) := by rw [Int.tdiv_eq_ediv_of_nonneg (by omega)]; omega
    have e2 : (c.1 : Int).tmod 8 = ((c.1 % 8 : Nat) : Int) := by rw [Int.tmod_eq_emod_of_nonneg (by omega)]; omega
    have e3 : IntKind.i64.wrap ((c.1 / 8 : Nat) : Int) = ((c.1 / 8 : Nat) : Int) := wid (by omega) (by omega)
    have hx : (markL (ds.take j))[c.1 / 8]? = some ((markL (ds.take j)).getD (c.1 / 8) 0) := by
      rw [List.getD_eq_getElem?_getD, List.getElem?_eq_getElem (by omega)]; rfl
    obtain ⟨b2, eb2, hcell2⟩ := RowAt.own_get byteC_len (by decide) ox hx
    obtain ⟨b3, eb3, so, op⟩ := ox.put byteC_len (j := 0) (y := orBit ((markL (ds.take j)).getD (c.1 / 8) 0) (c.1 % 8)) (vs := [.int .u8 (IntKind.u8.wrap (ior IntKind.u8 ((((markL (ds.take j)).getD (c.1 / 8) 0).toNat : Nat) : Int) (IntKind.u8.wrap (ishl IntKind.u8 1 ((c.1 % 8 : Nat) : Int)))))]) hx (by decide) (Nat.le_refl 1) (orBit_C _ _).symm
    cases eb2; cases eb3
    have eidx : (((c.1 / 8 : Nat) : Int)).toNat = c.1 / 8 := Int.toNat_natCast _
    refine ⟨by omega, by show (j : Int) < (ds.length : Int); omega, b, o, ea, _, hcell 0 _ rfl, _, hcell 1 _ rfl, ?_⟩
    rw [e1, e2, e3, eidx]
    refine ⟨by decide, by omega, by omega, k16, 0, rfl, _, hcell2 0 _ rfl, by decide, by omega, by omega, by omega, k16, 0, rfl, so, ds.length - (j + 1), by omega, j + 1, by rw [wid (by omega) (by omega)]; omega, by omega, rfl, ?_, ?_⟩
    · exact (Keep.put (fun c => c = k16) x _ _ rfl).sub sx fun c e => by rw [e]; exact hk16
    · rw [List.take_add_one, hq]
      show OwnR _ _ _ _ _ _ (markL (_ ++ [c]))
      rw [markL_snoc]; exact op
  have hje : j = ds.length := by
    have : ¬ (j : Int) < (ds.length : Int) := g
    omega
  subst hje
  rw [List.take_length] at ox
  have J3 := J2.sub sx
  have notS : ∀ {S1 : Nat → Prop} {y : Hp} (st : Step S x S1 y) (c : Nat), h c = none → x c ≠ none → ¬ S1 c := by
    intro S1 y st c hcn hx hS1
    rcases st.2 c hS1 with h' | h'
    · exact J.in_heap h' hcn
    · exact hx h'
  have hx13 : ∀ c, blkOf a13 c → x c ≠ none := fun c hcb => Own.in_heap (N2.own.sub sx) hcb
  have hx16 : x k16 ≠ none := Own.in_heap ox ⟨0, none, rfl⟩
  have base : Step S h S x := Step.sub (s2.trans sx)
  have hds : ∀ {S1 : Nat → Prop} {y : Hp}, Step S x S1 y → RowAt wrC 2 y a13 ds ∧ ∀ c, blkOf a13 c → ¬ S1 c := fun st =>
    ⟨(N2.own.sub sx).row.keep st.1 fun c hcb hS => J.in_heap hS (ha13 c hcb), fun c hcb => notS st c (ha13 c hcb) (hx13 c hcb)⟩
  have hmk : ∀ {S1 : Nat → Prop} {y : Hp}, Step S x S1 y → SliceAt y (some ⟨k16, 0, none⟩) 256 (bytesV (markB ds)) := fun st => by
    have := (ox.keep st.1 fun c hcb hS => by obtain ⟨o, s, e⟩ := hcb; cases e; exact J.in_heap hS n16).row
    unfold RowAt at this
    rw [markL_len] at this
    rw [← rowC_bytes]; exact this
  have hcd := hK
  unfold commitD andD at hcd
  refine layAll_log J3 (hds (Step.refl _ _)).1 (hds (Step.refl _ _)).2 hdc (by omega) (by rw [hws]; exact Nat.zero_le _) fun h33 S3 J33 st3 => ⟨_, rfl, ?_⟩
  refine flushed_spec J33 _ fun h36 S4 J36 st4 => ⟨_, rfl, ?_⟩
  have e4 : flD ((wrs D (logW ds)).1, (wrs D (logW ds)).2) = flD (wrs D (logW ds)) := rfl
  rw [e4] at J36 ⊢
  have st34 := st3.trans st4
  refine split_ne (fun e => ?_) fun e => ?_
  · have := hcd h36 S4 ds hp hs
    rw [if_neg e] at this
    exact this J36 (base.trans st34)
  have ok1 := flD_ok e
  have hcd1 := fun (h' : Hp) (S' : Nat → Prop) => hcd h' S' ds hp hs
  simp only [if_pos e] at hcd1
  generalize flD (wrs D (logW ds)) = r1 at J36 hcd1 ok1 e
  have hl1 : r1.1.l.length = D.l.length := ok1.2.trans (by rw [wrs_l])
  obtain ⟨S5, q1, q2, q3⟩ := J36.step
  refine ⟨_, q2.cell' 0 rfl, markB ds, hmk st34, Sub.refl _, ?_⟩
  refine jwrite_spec (i := 0) J36 (by omega) (markB ds) (markB_size ds) (by rw [ok1.1]; decide) fun h41 S6 J41 st6 => ⟨_, rfl, ?_⟩
  refine flushed_spec J41 _ fun h44 S7 J44 st7 => ⟨_, rfl, ?_⟩
  have e5 : flD ((wrs r1.1 [(0, markB ds)]).1, (wrs r1.1 [(0, markB ds)]).2) = flD (wrs r1.1 [(0, markB ds)]) := rfl
  rw [e5] at J44 ⊢
  have st37 := st34.trans (st6.trans st7)
  refine split_ne (fun e => ?_) fun e => ?_
  · have := hcd1 h44 S7
    rw [if_neg e] at this
    exact this J44 (base.trans st37)
  have ok2 := flD_ok e
  simp only [if_pos e] at hcd1
  generalize flD (wrs r1.1 [(0, markB ds)]) = r2 at J44 hcd1 ok2 e
  have hl2 : r2.1.l.length = D.l.length := ok2.2.trans (by rw [wrs_l, hl1])
  refine layAll_own J44 (hds st37).1 (hds st37).2 hdc (by omega) (by rw [ok2.1]; exact Nat.zero_le _) fun h47 S8 J47 st8 => ⟨_, rfl, ?_⟩
  refine flushed_spec J47 _ fun h50 S9 J50 st9 => ⟨_, rfl, ?_⟩
  have e6 : flD ((wrs r2.1 (ownW n ds)).1, (wrs r2.1 (ownW n ds)).2) = flD (wrs r2.1 (ownW n ds)) := rfl
  rw [e6] at J50 ⊢
  have st39 := st37.trans (st8.trans st9)
  refine split_ne (fun e => ?_) fun e => ?_
  · have := hcd1 h50 S9
    rw [if_neg e] at this
    exact this J50 (base.trans st39)
  have ok3 := flD_ok e
  simp only [if_pos e] at hcd1
  generalize flD (wrs r2.1 (ownW n ds)) = r3 at J50 hcd1 ok3 e
  have hl3 : r3.1.l.length = D.l.length := ok3.2.trans (by rw [wrs_l, hl2])
  obtain ⟨SA, q4, q5, q6⟩ := J50.step
  refine ⟨_, q5.cell' 0 rfl, by decide, by decide, by decide, by decide, fun k53 hk53 => ?_⟩
  have s53 := Sub.upd hk53 (.cells (repV 256 [.int .u8 0]).toArray 5 (0, 0))
  refine ⟨s53, zeroB 256, zero_slice (Hp.upd_same _ _ _), s53, ?_⟩
  refine jwrite_spec (i := 0) (J50.sub s53) (by omega) (zeroB 256) (zeroB_size 256) (by rw [ok3.1]; decide) fun h56 SB J56 stB => ⟨_, rfl, ?_⟩
  refine flushed_spec J56 _ fun h59 SC J59 stC => ⟨_, rfl, ?_⟩
  have e7 : flD ((wrs r3.1 [(0, zeroB 256)]).1, (wrs r3.1 [(0, zeroB 256)]).2) = flD (wrs r3.1 [(0, zeroB 256)]) := rfl
  rw [e7] at J59 ⊢
  exact hcd1 h59 SC J59 (base.trans (st39.trans ((Step.sub s53).trans (stB.trans stC))))
end Go.Proofs.YthbogjbcecmopaaGreatDoor
namespace Go.Proofs.YthbogjbcecmopaaGreatDoor
open Go.Gx
set_option maxRecDepth 100000
set_option linter.unusedVariables false

theorem shrN (k : IntKind) (n b : Nat) (hb : b ≤ k.bits) : ishr k (n : Int) ((b : Nat) : Int) = ((n / 2 ^ b : Nat) : Int) := by
  show ((n : Int)).fdiv (2 ^ min ((b : Nat) : Int).toNat k.bits) = _
  rw [Int.toNat_natCast, Nat.min_eq_left hb, Int.fdiv_eq_ediv_of_nonneg _ (by exact Int.le_of_lt (Int.pow_pos (by decide))), Int.natCast_ediv, Int.natCast_pow]; rfl
theorem shlN (k : IntKind) (n b : Nat) (hb : b ≤ k.bits) : ishl k (n : Int) ((b : Nat) : Int) = ((n * 2 ^ b : Nat) : Int) := by
  show (n : Int) * 2 ^ min ((b : Nat) : Int).toNat k.bits = _
  rw [Int.toNat_natCast, Nat.min_eq_left hb, Int.natCast_mul, Int.natCast_pow]; rfl
theorem orN (k : IntKind) (x y t : Nat) (hx : x < 2 ^ t) (h : x + y * 2 ^ t < 2 ^ k.bits) : ior k (x : Int) ((y * 2 ^ t : Nat) : Int) = ((x + y * 2 ^ t : Nat) : Int) := by
  show (((BitVec.ofInt k.bits (x : Int) ||| BitVec.ofInt k.bits ((y * 2 ^ t : Nat) : Int)).toNat : Nat) : Int) = _
  rw [BitVec.ofInt_natCast, BitVec.ofInt_natCast, BitVec.toNat_or, BitVec.toNat_ofNat, BitVec.toNat_ofNat, Nat.mod_eq_of_lt (by omega), Nat.mod_eq_of_lt (by omega)]
  have := Nat.two_pow_add_eq_or_of_lt hx y
  rw [Nat.or_comm, Nat.mul_comm y, ← this, Nat.add_comm]
theorem orN' (k : IntKind) (x y t : Nat) (hx : x < 2 ^ t) (h : x + y * 2 ^ t < 2 ^ k.bits) : ior k ((y * 2 ^ t : Nat) : Int) (x : Int) = ((x + y * 2 ^ t : Nat) : Int) := by
  rw [← orN k x y t hx h]
  show (((BitVec.ofInt k.bits _ ||| BitVec.ofInt k.bits _).toNat : Nat) : Int) = (((BitVec.ofInt k.bits _ ||| BitVec.ofInt k.bits _).toNat : Nat) : Int)
  rw [BitVec.or_comm]
theorem and1 (x : Nat) (hx : x < 256) : iand IntKind.u8 (x : Int) 1 = ((x % 2 : Nat) : Int) := by
  show (((BitVec.ofInt 8 (x : Int) &&& BitVec.ofInt 8 1).toNat : Nat) : Int) = _
  rw [BitVec.ofInt_natCast, BitVec.toNat_and, BitVec.toNat_ofNat, Nat.mod_eq_of_lt (by omega)]
  have : (BitVec.ofInt 8 1).toNat = 1 := by decide
  rw [this, Nat.and_one_is_mod]
theorem u8c (n : Nat) : IntKind.u8.wrap (n : Int) = ((n % 256 : Nat) : Int) := by rw [wrap8]; omega
theorem wrap64s (x : Nat) (h : x < 18446744073709551616) : IntKind.u64.wrap (x : Int) = (x : Int) := by rw [wrap64]; omega
theorem widN (x : Nat) (h : x ≤ 9223372036854775807) : IntKind.i64.wrap (x : Int) = (x : Int) := wid (by omega) (by omega)

def tabV (f : Nat → Nat) : List Value := (List.range 1024).map fun j => .int .u8 (f j : Nat)
theorem tabV_len (f : Nat → Nat) : (tabV f).length = 1024 := by unfold tabV; simp
theorem tabV_get {f : Nat → Nat} {j : Nat} (hj : j < 1024) : (tabV f)[j]? = some (.int .u8 (f j : Nat)) := by
  unfold tabV
  rw [List.getElem?_map, List.getElem?_range hj]; rfl
theorem tabV_congr {f g : Nat → Nat} (h : ∀ j, j < 1024 → f j = g j) : tabV f = tabV g := by
  unfold tabV
  exact List.map_congr_left fun j hj => by rw [h j (List.mem_range.1 hj)]
theorem tabV_set {f : Nat → Nat} {j v : Nat} : setL (tabV f) j [.int .u8 ((v : Nat) : Int)] = tabV fun i => if i = j then v else f i := by
  refine List.ext_getElem? fun i => ?_
  rw [setL_get]
  by_cases hi : i < 1024
  · rw [tabV_get hi, tabV_get hi]
    by_cases e : i = j
    · rw [if_pos ⟨e, by rw [tabV_len]; omega⟩, if_pos e]
    · rw [if_neg fun h => e h.1, if_neg e]
  · rw [if_neg (fun h => by have := h.2; rw [tabV_len] at this; omega), List.getElem?_eq_none (by rw [tabV_len]; omega), List.getElem?_eq_none (by rw [tabV_len]; omega)]
def tabL (f : Nat → Nat) : List UInt8 := (List.range 1024).map fun j => UInt8.ofNat (f j)
def tabB (f : Nat → Nat) : ByteArray := ⟨(tabL f).toArray⟩
theorem tabB_size (f : Nat → Nat) : (tabB f).size = 1024 := by rw [← size_len]; show (tabL f).length = 1024; unfold tabL; simp
theorem tabB_bytes {f : Nat → Nat} (h : ∀ j, j < 1024 → f j < 256) : bytesV (tabB f) = tabV f := by
  unfold bytesV tabB tabL tabV
  rw [List.map_map]
  refine List.map_congr_left fun j hj => ?_
  have := h j (List.mem_range.1 hj)
  have : (UInt8.ofNat (f j)).toNat = f j := by simp; omega
  show Value.int .u8 (((UInt8.ofNat (f j)).toNat : Nat) : Int) = _
  rw [this]
def byteN (b : ByteArray) (j : Nat) : Nat := ((b.data.toList[j]?).getD 0).toNat
theorem byteN_lt (b : ByteArray) (j : Nat) : byteN b j < 256 := UInt8.toNat_lt _
theorem byteAt_N (b : ByteArray) (j : Nat) : byteAt b j = ((byteN b j : Nat) : Int) := rfl
def bitAt (u : Nat → Bool) (n c t : Nat) : Nat := if 8 * c + t < n then (u (8 * c + t)).toNat else 0
def bitsU (u : Nat → Bool) (n c : Nat) : Nat := bitAt u n c 0 + 2 * bitAt u n c 1 + 4 * bitAt u n c 2 + 8 * bitAt u n c 3 + 16 * bitAt u n c 4 + 32 * bitAt u n c 5 + 64 * bitAt u n c 6 + 128 * bitAt u n c 7
theorem toNat_le (b : Bool) : b.toNat ≤ 1 := by cases b <;> decide
theorem bitAt_le (u : Nat → Bool) (n c t : Nat) : bitAt u n c t ≤ 1 := by
  unfold bitAt
  split
  · exact toNat_le _
  · decide
theorem bitAt_hi {u : Nat → Bool} {n c t : Nat} (h : n ≤ 8 * c + t) : bitAt u n c t = 0 := if_neg (by omega)
theorem bitAt_lo {u : Nat → Bool} {n c t : Nat} (h : 8 * c + t < n) : bitAt u n c t = (u (8 * c + t)).toNat := if_pos h
theorem bitAt_ne {u : Nat → Bool} {n c t : Nat} (h : 8 * c + t ≠ n) : bitAt u (n + 1) c t = bitAt u n c t := by
  by_cases e : 8 * c + t < n
  · rw [bitAt_lo e, bitAt_lo (by omega)]
  · rw [bitAt_hi (by omega), bitAt_hi (by omega)]
theorem eight {t : Nat} (ht : t < 8) : t = 0 ∨ t = 1 ∨ t = 2 ∨ t = 3 ∨ t = 4 ∨ t = 5 ∨ t = 6 ∨ t = 7 := by omega
theorem bitsU_lt (u : Nat → Bool) (n c : Nat) : bitsU u n c < 256 := by
  have h := bitAt_le u n c
  have h0 := h 0; have h1 := h 1; have h2 := h 2; have h3 := h 3; have h4 := h 4; have h5 := h 5; have h6 := h 6; have h7 := h 7
  unfold bitsU; omega
theorem bitsU_low (u : Nat → Bool) (c : Nat) {t : Nat} (ht : t < 8) : bitsU u (8 * c + t) c < 2 ^ t := by
  have h := bitAt_le u (8 * c + t) c
  have z : ∀ s, t ≤ s → bitAt u (8 * c + t) c s = 0 := fun s hs => bitAt_hi (by omega)
  have h0 := h 0; have h1 := h 1; have h2 := h 2; have h3 := h 3; have h4 := h 4; have h5 := h 5; have h6 := h 6; have h7 := h 7
  have z0 := z 0; have z1 := z 1; have z2 := z 2; have z3 := z 3; have z4 := z 4; have z5 := z 5; have z6 := z 6; have z7 := z 7
  unfold bitsU
  rcases eight ht with rfl | rfl | rfl | rfl | rfl | rfl | rfl | rfl <;> omega
theorem bitsU_set (u : Nat → Bool) (c : Nat) {t : Nat} (ht : t < 8) : bitsU u (8 * c + t + 1) c = bitsU u (8 * c + t) c + (u (8 * c + t)).toNat * 2 ^ t := by
  have z : ∀ s, s ≠ t → bitAt u (8 * c + t + 1) c s = bitAt u (8 * c + t) c s := fun s hs => bitAt_ne (by omega)
  have y : bitAt u (8 * c + t) c t = 0 := bitAt_hi (Nat.le_refl _)
  have x : bitAt u (8 * c + t + 1) c t = (u (8 * c + t)).toNat := bitAt_lo (Nat.lt_succ_self _)
  have z0 := z 0; have z1 := z 1; have z2 := z 2; have z3 := z 3; have z4 := z 4; have z5 := z 5; have z6 := z 6; have z7 := z 7
  unfold bitsU
  rcases eight ht with rfl | rfl | rfl | rfl | rfl | rfl | rfl | rfl <;> omega
theorem bitsU_other {u : Nat → Bool} {n c : Nat} (h : n / 8 ≠ c) : bitsU u (n + 1) c = bitsU u n c := by
  unfold bitsU
  rw [bitAt_ne (by omega), bitAt_ne (by omega), bitAt_ne (by omega), bitAt_ne (by omega), bitAt_ne (by omega), bitAt_ne (by omega), bitAt_ne (by omega), bitAt_ne (by omega)]
def magicN (j : Nat) : Nat := [115, 116, 114, 111, 110, 103, 114, 111, 111, 109].getD j 0
theorem magicN_lt (j : Nat) : magicN j < 256 := by
  by_cases h : j < 10
  · have : ∀ j : Fin 10, magicN j.val < 256 := by decide
    exact this ⟨j, h⟩
  · unfold magicN
    rw [List.getD_eq_getElem?_getD, List.getElem?_eq_none (by show 10 ≤ j; omega)]; decide
def stg1 (s n j : Nat) : Nat := if j < 10 then magicN j else if j < 10 + n then s / 256 ^ (17 - j) % 256 else 0
def rootB (r : Nat → Nat) (i : Nat) : Nat := (if i % 2 = 0 then r (i / 2) / 256 else r (i / 2)) % 256
def stg2 (s : Nat) (r : Nat → Nat) (n j : Nat) : Nat := if j < 18 then stg1 s 8 j else if j < 18 + 2 * n then rootB r (j - 18) else 0
def encN (s : Nat) (r : Nat → Nat) (u : Nat → Bool) (n j : Nat) : Nat := if j < 26 then stg2 s r 4 j else if j < 42 then bitsU u n (j - 26) else 0
theorem stg1_lt (s n j : Nat) : stg1 s n j < 256 := by
  unfold stg1
  split
  · exact magicN_lt j
  · split
    · exact Nat.mod_lt _ (by decide)
    · decide
theorem stg2_lt (s : Nat) (r : Nat → Nat) (n j : Nat) : stg2 s r n j < 256 := by
  unfold stg2
  split
  · exact stg1_lt _ _ _
  · split
    · exact Nat.mod_lt _ (by decide)
    · decide
theorem encN_lt (s : Nat) (r : Nat → Nat) (u : Nat → Bool) (n j : Nat) : encN s r u n j < 256 := by
  unfold encN
  split
  · exact stg2_lt _ _ _ _
  · split
    · exact bitsU_lt _ _ _
    · decide
theorem stg1_zero (s j : Nat) : stg1 s 0 j = if j < 10 then magicN j else 0 := by
  unfold stg1
  by_cases h : j < 10
  · rw [if_pos h, if_pos h]
  · rw [if_neg h, if_neg h, if_neg (by omega)]
theorem stg1_step (s n j : Nat) (hn : n < 8) : stg1 s (n + 1) j = if j = 10 + n then s / 2 ^ (56 - 8 * n) % 256 else stg1 s n j := by
  unfold stg1
  by_cases e : j = 10 + n
  · subst e
    rw [if_neg (by omega), if_pos (by omega), if_pos rfl, show 17 - (10 + n) = 7 - n by omega, show 56 - 8 * n = 8 * (7 - n) by omega, Nat.pow_mul]
  · rw [if_neg e]
    by_cases h1 : j < 10
    · rw [if_pos h1, if_pos h1]
    · rw [if_neg h1, if_neg h1]
      by_cases h2 : j < 10 + n
      · rw [if_pos h2, if_pos (by omega)]
      · rw [if_neg h2, if_neg (by omega)]
theorem stg2_zero (s : Nat) (r : Nat → Nat) (j : Nat) : stg2 s r 0 j = stg1 s 8 j := by
  unfold stg2
  by_cases h : j < 18
  · rw [if_pos h]
  · rw [if_neg h, if_neg (by omega)]
    unfold stg1
    rw [if_neg (by omega), if_neg (by omega)]
theorem stg2_step (s : Nat) (r : Nat → Nat) (n j : Nat) : stg2 s r (n + 1) j = if j = 19 + 2 * n then r n % 256 else if j = 18 + 2 * n then r n / 256 % 256 else stg2 s r n j := by
  unfold stg2 rootB
  by_cases e : j = 19 + 2 * n
  · subst e
    rw [if_neg (by omega), if_pos (by omega), if_pos rfl, if_neg (by omega), show (19 + 2 * n - 18) / 2 = n by omega]
  · rw [if_neg e]
    by_cases e2 : j = 18 + 2 * n
    · subst e2
      rw [if_neg (by omega), if_pos (by omega), if_pos rfl, if_pos (by omega), show (18 + 2 * n - 18) / 2 = n by omega]
    · rw [if_neg e2]
      by_cases h1 : j < 18
      · rw [if_pos h1, if_pos h1]
      · rw [if_neg h1, if_neg h1]
        by_cases h2 : j < 18 + 2 * n
        · rw [if_pos h2, if_pos (by omega)]
        · rw [if_neg h2, if_neg (by omega)]
theorem bitsU_zero (u : Nat → Bool) (c : Nat) : bitsU u 0 c = 0 := by
  unfold bitsU
  simp [bitAt]
theorem encN_zero (s : Nat) (r : Nat → Nat) (u : Nat → Bool) (j : Nat) : encN s r u 0 j = stg2 s r 4 j := by
  unfold encN
  by_cases h : j < 26
  · rw [if_pos h]
  · rw [if_neg h, bitsU_zero]
    have : stg2 s r 4 j = 0 := by unfold stg2; rw [if_neg (by omega), if_neg (by omega)]
    rw [this]; split <;> rfl
theorem encN_no (s : Nat) (r : Nat → Nat) (u : Nat → Bool) {n : Nat} (hu : u n = false) (j : Nat) : encN s r u (n + 1) j = encN s r u n j := by
  unfold encN
  by_cases h : j < 26
  · rw [if_pos h, if_pos h]
  · rw [if_neg h, if_neg h]
    have : bitsU u (n + 1) (j - 26) = bitsU u n (j - 26) := by
      by_cases e : n / 8 = j - 26
      · have := bitsU_set u (j - 26) (t := n % 8) (Nat.mod_lt _ (by decide))
        rw [show 8 * (j - 26) + n % 8 = n by omega, hu] at this
        simpa using this
      · exact bitsU_other e
    rw [this]
theorem encN_yes (s : Nat) (r : Nat → Nat) (u : Nat → Bool) {n : Nat} (hn : n < 128) (hu : u n = true) (j : Nat) : encN s r u (n + 1) j = if j = 26 + n / 8 then encN s r u n (26 + n / 8) + 2 ^ (n % 8) else encN s r u n j := by
  unfold encN
  by_cases e : j = 26 + n / 8
  · subst e
    rw [if_neg (by omega), if_pos (by omega), if_pos rfl, if_neg (by omega), if_pos (by omega), show 26 + n / 8 - 26 = n / 8 by omega]
    have := bitsU_set u (n / 8) (t := n % 8) (Nat.mod_lt _ (by decide))
    rw [show 8 * (n / 8) + n % 8 = n by omega, hu] at this
    simpa using this
  · rw [if_neg e]
    by_cases h : j < 26
    · rw [if_pos h, if_pos h]
    · rw [if_neg h, if_neg h, bitsU_other (by omega)]
theorem encN_low (s : Nat) (r : Nat → Nat) (u : Nat → Bool) {n : Nat} (hn : n < 128) : encN s r u n (26 + n / 8) < 2 ^ (n % 8) := by
  unfold encN
  rw [if_neg (by omega), if_pos (by omega), show 26 + n / 8 - 26 = n / 8 by omega]
  have := bitsU_low u (n / 8) (t := n % 8) (Nat.mod_lt _ (by decide))
  rw [show 8 * (n / 8) + n % 8 = n by omega] at this
  exact this
def dser (b : ByteArray) : Nat → Nat
  | 0 => 0
  | n + 1 => dser b n * 256 + byteN b (10 + n)
theorem dser_lt (b : ByteArray) : ∀ n, dser b n < 256 ^ n
  | 0 => by show 0 < 1; decide
  | n + 1 => by
    have h1 := dser_lt b n
    have h2 := byteN_lt b (10 + n)
    unfold dser
    rw [Nat.pow_succ]; omega
def droot (b : ByteArray) (k : Nat) : Nat := byteN b (18 + 2 * k) * 256 + byteN b (19 + 2 * k)
def dbit (b : ByteArray) (i : Nat) : Bool := byteN b (26 + i / 8) / 2 ^ (i % 8) % 2 == 1
structure OkHead (b : ByteArray) (n : Nat) : Prop where
  below : ∀ i, i < 128 → dbit b i = true → i < n
  roots : ∀ k, k < 4 → droot b k < 128 ∧ (droot b k ≠ 0 → dbit b (droot b k) = true)
  zero : dbit b 0 = true
  ser : dser b 8 ≤ 9223372036854775807
  bytes : tabB (encN (dser b 8) (droot b) (dbit b) 128) = b
end Go.Proofs.YthbogjbcecmopaaGreatDoor
namespace Go.Proofs.YthbogjbcecmopaaGreatDoor
open Go.Gx
set_option maxRecDepth 100000
set_option linter.unusedVariables false

def rootV (r : Nat → Nat) : List Value := (List.range 4).map fun k => .int .i64 (r k : Nat)
def usedV (u : Nat → Bool) : List Value := (List.range 128).map fun i => .bool (u i)
def headC (s : Nat) (r : Nat → Nat) (u : Nat → Bool) : List Value := .int .u64 (s : Nat) :: (rootV r ++ usedV u)
theorem rootV_len (r : Nat → Nat) : (rootV r).length = 4 := by unfold rootV; simp
theorem usedV_len (u : Nat → Bool) : (usedV u).length = 128 := by unfold usedV; simp
theorem headC_len (s : Nat) (r : Nat → Nat) (u : Nat → Bool) : (headC s r u).length = 133 := by
  unfold headC
  rw [List.length_cons, List.length_append, rootV_len, usedV_len]
theorem rootV_get {r : Nat → Nat} {k : Nat} (hk : k < 4) : (rootV r)[k]? = some (.int .i64 (r k : Nat)) := by
  unfold rootV
  rw [List.getElem?_map, List.getElem?_range hk]; rfl
theorem usedV_get {u : Nat → Bool} {i : Nat} (hi : i < 128) : (usedV u)[i]? = some (.bool (u i)) := by
  unfold usedV
  rw [List.getElem?_map, List.getElem?_range hi]; rfl
theorem headC_0 (s : Nat) (r : Nat → Nat) (u : Nat → Bool) : (headC s r u)[0]? = some (.int .u64 (s : Nat)) := rfl
theorem headC_root (s : Nat) (r : Nat → Nat) (u : Nat → Bool) {k : Nat} (hk : k < 4) : (headC s r u)[1 + k]? = some (.int .i64 (r k : Nat)) := by
  unfold headC
  rw [Nat.add_comm, List.getElem?_cons_succ, List.getElem?_append_left (by rw [rootV_len]; exact hk), rootV_get hk]
theorem headC_used (s : Nat) (r : Nat → Nat) (u : Nat → Bool) {i : Nat} (hi : i < 128) : (headC s r u)[5 + i]? = some (.bool (u i)) := by
  unfold headC
  rw [show 5 + i = (4 + i) + 1 by omega, List.getElem?_cons_succ, List.getElem?_append_right (by rw [rootV_len]; omega), rootV_len, show 4 + i - 4 = i by omega, usedV_get hi]
theorem headC_plain (s : Nat) (r : Nat → Nat) (u : Nat → Bool) : plainP (headC s r u) := by
  intro v hv
  unfold headC rootV usedV at hv
  rcases List.mem_cons.1 hv with rfl | hv
  · exact ⟨(fun c h => by cases h), fun c h => by cases h⟩
  · rcases List.mem_append.1 hv with hv | hv
    · obtain ⟨k, _, rfl⟩ := List.mem_map.1 hv
      exact ⟨(fun c h => by cases h), fun c h => by cases h⟩
    · obtain ⟨k, _, rfl⟩ := List.mem_map.1 hv
      exact ⟨(fun c h => by cases h), fun c h => by cases h⟩
theorem _root_.Go.Gx.CellsAt.get {h : Hp} {b o : Nat} {xs : List Value} (H : CellsAt h b o xs) {i : Nat} {v : Value} (e : xs[i]? = some v) : h.cell b (o + i) = some v := by
  obtain ⟨hi, e⟩ := List.getElem?_eq_some_iff.1 e
  rw [H i hi, e]
theorem cpy10 : cpyN (bytesL [115, 116, 114, 111, 110, 103, 114, 111, 111, 109]) 1024 = 10 := by kernel_rfl
theorem cpyV10 : setL (repV 1024 [.int .u8 0]) 0 (cpyV (bytesL [115, 116, 114, 111, 110, 103, 114, 111, 111, 109]) 1024) = tabV fun j => if j < 10 then magicN j else 0 := by kernel_rfl
theorem cpyV10_plain : plainP (cpyV (bytesL [115, 116, 114, 111, 110, 103, 114, 111, 111, 109]) 1024) := plainP_of (by kernel_rfl)
theorem cpyV10_len : (cpyV (bytesL [115, 116, 114, 111, 110, 103, 114, 111, 111, 109]) 1024).length = 10 := by kernel_rfl
theorem rep1024_len : (repV 1024 [Value.int .u8 0]).length = 1024 := by kernel_rfl
theorem lget4 {r : Nat → Nat} {n : Nat} (hn : n < 4) : lget [.int .i64 (r 0 : Nat), .int .i64 (r 1 : Nat), .int .i64 (r 2 : Nat), .int .i64 (r 3 : Nat)] ((n : Int).toNat * 1) = some (.int .i64 (r n : Nat)) := by
  rw [Int.toNat_natCast, Nat.mul_one]
  rcases (by omega : n = 0 ∨ n = 1 ∨ n = 2 ∨ n = 3) with rfl | rfl | rfl | rfl <;> rfl
theorem shl1 : ∀ k : Fin 8, IntKind.u8.wrap (ishl IntKind.u8 1 ((k.val : Nat) : Int)) = ((2 ^ k.val : Nat) : Int) := by decide
theorem pow_lt8 {k : Nat} (hk : k < 8) : 2 ^ k ≤ 128 := by
  rcases eight hk with rfl | rfl | rfl | rfl | rfl | rfl | rfl | rfl <;> decide
theorem orBitN {x k : Nat} (hk : k < 8) (hx : x < 2 ^ k) : IntKind.u8.wrap (ior IntKind.u8 (x : Int) (IntKind.u8.wrap (ishl IntKind.u8 1 ((k : Nat) : Int)))) = ((x + 2 ^ k : Nat) : Int) := by
  have h1 := pow_lt8 hk
  have h2 := orN IntKind.u8 x 1 k hx (by show _ < 256; omega)
  rw [Nat.one_mul] at h2
  rw [shl1 ⟨k, hk⟩]
  show IntKind.u8.wrap (ior IntKind.u8 (x : Int) ((2 ^ k : Nat) : Int)) = _
  rw [h2, u8c, Nat.mod_eq_of_lt (by omega)]
theorem tdiv8 (n : Nat) : ((n : Nat) : Int).tdiv 8 = ((n / 8 : Nat) : Int) := by rw [Int.tdiv_eq_ediv_of_nonneg (by omega)]; omega
theorem tmod8 (n : Nat) : ((n : Nat) : Int).tmod 8 = ((n % 8 : Nat) : Int) := by rw [Int.tmod_eq_emod_of_nonneg (by omega)]; omega

set_option maxHeartbeats 1000000 in
theorem bytes_spec {h : Hp} {b o s : Nat} {r : Nat → Nat} {u : Nat → Bool} {K : Value → Hp → Prop} (H : CellsAt h b o (headC s r u)) (hK : ∀ h', Sub h h' → K (.string (tabB (encN s r u 128))) h') :
    CallsH Tryz.prog pager_head_bytes.id #[.pointer (some ⟨b, o, none⟩)] h K := by
  apply pager_head_bytes.calls
  unfold pager_head_bytes.W
  refine ⟨by decide, by decide, by decide, by decide, fun k1 hk1 => ?_⟩
  simp only [cpy10, show IntKind.i64.wrap (10 + 8) = 18 from by decide, show IntKind.i64.wrap (18 + 8) = 26 from by decide]
  have B0 : Blk (h.upd k1 (.cells (repV 1024 [.int .u8 0]).toArray 5 (0, 0))) k1 5 (repV 1024 [.int .u8 0]) := Blk.new h k1 5 _
  have s0 : Sub h (h.upd k1 (.cells (repV 1024 [.int .u8 0]).toArray 5 (0, 0))) := Sub.upd hk1 _
  have new : ∀ {x : Hp} (sx : Sub h x) (o' : Nat) (us : List Value), Sub h (x.put k1 o' us) := fun {x} sx o' us => (Keep.put (fun c => c = k1) x o' us rfl).sub sx fun c e => by rw [e]; exact hk1
  refine ⟨fun x => Sub h x ∧ Blk x k1 5 (tabV (stg1 s 0)), ?_, .inr ⟨k1, 0, rfl, cpyV10_plain, B0.store (by rw [cpyV10_len, rep1024_len]; decide), new s0 _ _, ?_⟩⟩
  rotate_left
  · have := B0.put 0 (cpyV (bytesL [115, 116, 114, 111, 110, 103, 114, 111, 111, 109]) 1024)
    rw [cpyV10, ← tabV_congr fun j _ => stg1_zero s j] at this
    exact this
  rintro x3 ⟨s3, B3⟩
  refine ⟨fun i x m => ∃ n : Nat, i = (n : Int) ∧ n ≤ 8 ∧ m = 8 - n ∧ Sub h x ∧ Blk x k1 5 (tabV (stg1 s n)), ⟨_, 0, rfl, by decide, rfl, s3, B3⟩, ?_⟩
  rintro i x m ⟨n, rfl, hn, rfl, sx, Bx⟩
  refine split_dec (fun g => ?_) fun g => ?_
  · have g : n < 8 := by have : (n : Int) < 8 := g; omega
    have e1 : IntKind.i64.wrap (8 * (n : Int)) = ((8 * n : Nat) : Int) := by rw [wid (by omega) (by omega)]; omega
    have e2 : IntKind.i64.wrap (56 - ((8 * n : Nat) : Int)) = ((56 - 8 * n : Nat) : Int) := by rw [wid (by omega) (by omega)]; omega
    have e3 : IntKind.i64.wrap (10 + (n : Int)) = ((10 + n : Nat) : Int) := by rw [wid (by omega) (by omega)]; omega
    have idx : 0 + ((10 + n : Nat) : Int).toNat * 1 = 10 + n := by rw [Int.toNat_natCast]; omega
    rw [e1, e2, e3]
    refine ⟨_, cell_sub sx (H.get (headC_0 s r u)), by omega, by omega, by omega, k1, 0, rfl, ?_, 8 - (n + 1), by omega, n + 1, by rw [wid (by omega) (by omega)]; omega, by omega, rfl, new sx _ _, ?_⟩
    · rw [idx]; exact Bx.store (by rw [tabV_len]; omega)
    · rw [idx, shrN _ _ _ (by show 56 - 8 * n ≤ 64; omega), u8c]
      have := Bx.put (10 + n) [.int .u8 ((s / 2 ^ (56 - 8 * n) % 256 : Nat) : Int)]
      rw [tabV_set, ← tabV_congr fun j _ => stg1_step s n j g] at this
      exact this
  have : n = 8 := by
    have : ¬ (n : Int) < 8 := g
    omega
  subst this
  clear s3 B3 g
  have hh := H.sub sx
  refine ⟨_, hh.get (headC_root s r u (k := 0) (by decide)), _, hh.get (headC_root s r u (k := 1) (by decide)), _, hh.get (headC_root s r u (k := 2) (by decide)), _, hh.get (headC_root s r u (k := 3) (by decide)), ?_⟩
  refine ⟨fun i x m => ∃ n : Nat, i = (n : Int) ∧ n ≤ 4 ∧ m = 4 - n ∧ Sub h x ∧ Blk x k1 5 (tabV (stg2 s r n)), ⟨_, 0, rfl, by decide, rfl, sx, ?_⟩, ?_⟩
  · rw [tabV_congr fun j _ => stg2_zero s r j]; exact Bx
  clear hh Bx sx
  rintro i x m ⟨n, rfl, hn, rfl, sx, Bx⟩
  refine split_dec (fun g => ?_) fun g => ?_
  · have g : n < 4 := by have : (n : Int) < 4 := g; omega
    have e1 : IntKind.i64.wrap (2 * (n : Int)) = ((2 * n : Nat) : Int) := by rw [wid (by omega) (by omega)]; omega
    have e2 : IntKind.i64.wrap (18 + ((2 * n : Nat) : Int)) = ((18 + 2 * n : Nat) : Int) := by rw [wid (by omega) (by omega)]; omega
    have e3 : IntKind.i64.wrap (((18 + 2 * n : Nat) : Int) + 1) = ((19 + 2 * n : Nat) : Int) := by rw [wid (by omega) (by omega)]; omega
    have idx : 0 + ((18 + 2 * n : Nat) : Int).toNat * 1 = 18 + 2 * n := by rw [Int.toNat_natCast]; omega
    have idx2 : 0 + ((19 + 2 * n : Nat) : Int).toNat * 1 = 19 + 2 * n := by rw [Int.toNat_natCast]; omega
    rw [e1, e2, e3]
    have B2 := Bx.put (18 + 2 * n) [.int .u8 ((r n / 256 % 256 : Nat) : Int)]
    rw [tabV_set] at B2
    refine ⟨by omega, by omega, _, lget4 g, by decide, by omega, by omega, k1, 0, rfl, ?_, by omega, by omega, k1, 0, rfl, ?_, 4 - (n + 1), by omega, n + 1, by rw [wid (by omega) (by omega)]; omega, by omega, rfl, new (new sx _ _) _ _, ?_⟩
    · rw [idx]; exact Bx.store (by rw [tabV_len]; omega)
    · rw [idx, idx2, show (8 : Int) = ((8 : Nat) : Int) from rfl, shrN _ _ _ (by decide), u8c]
      exact B2.store (by rw [tabV_len]; omega)
    · rw [idx, idx2, show (8 : Int) = ((8 : Nat) : Int) from rfl, shrN _ _ _ (by decide), u8c, u8c]
      have := B2.put (19 + 2 * n) [.int .u8 ((r n % 256 : Nat) : Int)]
      rw [tabV_set, ← tabV_congr fun j _ => stg2_step s r n j] at this
      exact this
  have : n = 4 := by
    have : ¬ (n : Int) < 4 := g
    omega
  subst this
  clear g
  refine ⟨usedV u, usedV_len u, ?_, ?_⟩
  · intro i hi
    rw [usedV_len] at hi
    rw [Nat.add_assoc, (H.sub sx).get (headC_used s r u hi)]
    rw [← usedV_get hi, List.getElem?_eq_getElem]
  refine ⟨fun i x m => ∃ n : Nat, i = (n : Int) ∧ n ≤ 128 ∧ m = 128 - n ∧ Sub h x ∧ Blk x k1 5 (tabV (encN s r u n)), ⟨_, 0, rfl, by decide, rfl, sx, ?_⟩, ?_⟩
  · rw [tabV_congr fun j _ => encN_zero s r u j]; exact Bx
  clear Bx sx
  rintro i x m ⟨n, rfl, hn, rfl, sx, Bx⟩
  refine split_dec (fun g => ?_) fun g => ?_
  · have g : n < 128 := by have : (n : Int) < 128 := g; omega
    have gl : lget (usedV u) ((n : Int).toNat * 1) = some (.bool (u n)) := by
      rw [Int.toNat_natCast, Nat.mul_one]; exact usedV_get g
    have e4 : IntKind.i64.wrap ((n : Int) + 1) = ((n + 1 : Nat) : Int) := by rw [wid (by omega) (by omega)]; omega
    refine ⟨by omega, by omega, _, gl, split_cond (fun eu => ?_) fun eu => ⟨128 - (n + 1), by omega, n + 1, e4, by omega, rfl, sx, ?_⟩⟩
    · have e1 : IntKind.i64.wrap (26 + IntKind.i64.wrap ((n : Int).tdiv 8)) = ((26 + n / 8 : Nat) : Int) := by
        rw [tdiv8, widN _ (by omega), wid (by omega) (by omega)]; omega
      have idx : 0 + ((26 + n / 8 : Nat) : Int).toNat * 1 = 26 + n / 8 := by rw [Int.toNat_natCast]; omega
      rw [e1, tmod8]
      refine ⟨by decide, by omega, by omega, k1, 0, rfl, ((encN s r u n (26 + n / 8) : Nat) : Int), ?_, by decide, by omega, by omega, by omega, k1, 0, rfl, ?_, 128 - (n + 1), by omega, n + 1, e4, by omega, rfl, new sx _ _, ?_⟩
      · rw [idx]; exact Bx.cell' _ (tabV_get (by omega))
      · rw [idx]; exact Bx.store (by rw [tabV_len]; omega)
      · rw [idx, orBitN (Nat.mod_lt _ (by decide)) (encN_low s r u g)]
        have := Bx.put (26 + n / 8) [.int .u8 ((encN s r u n (26 + n / 8) + 2 ^ (n % 8) : Nat) : Int)]
        rw [tabV_set, ← tabV_congr fun j _ => encN_yes s r u g eu j] at this
        exact this
    · rw [tabV_congr fun j _ => encN_no s r u eu j]; exact Bx
  have : n = 128 := by
    have : ¬ (n : Int) < 128 := g
    omega
  subst this
  exact ⟨_, by rw [tabB_bytes fun j _ => encN_lt s r u 128 j]; exact Bx.slice (tabV_len _), hK x sx⟩
end Go.Proofs.YthbogjbcecmopaaGreatDoor
namespace Go.Proofs.YthbogjbcecmopaaGreatDoor
open Go.Gx
set_option maxRecDepth 100000
set_option linter.unusedVariables false

theorem setL_all {vs us : List Value} (h : us.length = vs.length) : setL vs 0 us = us := by
  have := @setL_append [] vs us 0 rfl (by omega)
  rw [List.nil_append, List.nil_append, List.drop_eq_nil_of_le (by omega), List.append_nil] at this
  exact this
def upR (r : Nat → Nat) (k v : Nat) : Nat → Nat := fun i => if i = k then v else r i
def upU (u : Nat → Bool) (k : Nat) (v : Bool) : Nat → Bool := fun i => if i = k then v else u i
theorem rootV_set {r : Nat → Nat} {k v : Nat} : setL (rootV r) k [.int .i64 ((v : Nat) : Int)] = rootV (upR r k v) := by
  refine List.ext_getElem? fun i => ?_
  rw [setL_get]
  by_cases hi : i < 4
  · rw [rootV_get hi, rootV_get hi]
    unfold upR
    by_cases e : i = k
    · rw [if_pos ⟨e, by rw [rootV_len]; omega⟩, if_pos e]
    · rw [if_neg fun h => e h.1, if_neg e]
  · rw [if_neg (fun h => by have := h.2; rw [rootV_len] at this; omega), List.getElem?_eq_none (by rw [rootV_len]; omega), List.getElem?_eq_none (by rw [rootV_len]; omega)]
theorem usedV_set {u : Nat → Bool} {k : Nat} {v : Bool} : setL (usedV u) k [.bool v] = usedV (upU u k v) := by
  refine List.ext_getElem? fun i => ?_
  rw [setL_get]
  by_cases hi : i < 128
  · rw [usedV_get hi, usedV_get hi]
    unfold upU
    by_cases e : i = k
    · rw [if_pos ⟨e, by rw [usedV_len]; omega⟩, if_pos e]
    · rw [if_neg fun h => e h.1, if_neg e]
  · rw [if_neg (fun h => by have := h.2; rw [usedV_len] at this; omega), List.getElem?_eq_none (by rw [usedV_len]; omega), List.getElem?_eq_none (by rw [usedV_len]; omega)]
theorem headC_setS (s s' : Nat) (r : Nat → Nat) (u : Nat → Bool) : setL (headC s r u) 0 [.int .u64 (s' : Nat)] = headC s' r u := rfl
theorem headC_setR (s : Nat) (r : Nat → Nat) (u : Nat → Bool) {k : Nat} (v : Nat) (hk : k < 4) : setL (headC s r u) (1 + k) [.int .i64 (v : Nat)] = headC s (upR r k v) u := by
  show setL ([.int .u64 (s : Nat)] ++ (rootV r ++ usedV u)) ([Value.int .u64 (s : Nat)].length + k) _ = [.int .u64 (s : Nat)] ++ (rootV (upR r k v) ++ usedV u)
  rw [setL_right, setL_left _ _ _ _ (by rw [rootV_len]; show k + 1 ≤ 4; omega), rootV_set]
theorem headC_setU (s : Nat) (r : Nat → Nat) (u : Nat → Bool) (k : Nat) (v : Bool) : setL (headC s r u) (5 + k) [.bool v] = headC s r (upU u k v) := by
  show setL ([.int .u64 (s : Nat)] ++ (rootV r ++ usedV u)) (5 + k) _ = [.int .u64 (s : Nat)] ++ (rootV r ++ usedV (upU u k v))
  have e : 5 + k = ([Value.int .u64 (s : Nat)] ++ rootV r).length + k := by rw [List.length_append, rootV_len]; rfl
  rw [e, ← List.append_assoc, setL_right, usedV_set, List.append_assoc]
theorem headC_congr {s : Nat} {r r' : Nat → Nat} {u u' : Nat → Bool} (h1 : ∀ k, k < 4 → r k = r' k) (h2 : ∀ i, i < 128 → u i = u' i) : headC s r u = headC s r' u' := by
  unfold headC rootV usedV
  rw [List.map_congr_left fun k hk => by rw [h1 k (List.mem_range.1 hk)], List.map_congr_left (l := List.range 128) fun k hk => by rw [h2 k (List.mem_range.1 hk)]]
theorem z114 : zeroL Tryz.prog 83 = headC 0 (fun _ => 0) fun _ => false := by kernel_rfl
theorem shiftIn (y x : Nat) (hx : x < 256) (hy : y < 256 ^ 7) : IntKind.u64.wrap (ior IntKind.u64 (IntKind.u64.wrap (ishl IntKind.u64 (y : Int) 8)) (IntKind.u64.wrap ((x : Nat) : Int))) = ((y * 256 + x : Nat) : Int) := by
  have hy : y < 72057594037927936 := hy
  rw [show (8 : Int) = ((8 : Nat) : Int) from rfl, shlN _ y 8 (by decide), wrap64s (y * 2 ^ 8) (by omega), wrap64s x (by omega), orN' _ x y 8 (by omega) (by show _ < 18446744073709551616; omega), wrap64s _ (by omega)]
  omega
theorem shiftIn2 (y x : Nat) (hx : x < 256) (hy : y < 256) : IntKind.i64.wrap (ior IntKind.i64 (IntKind.i64.wrap (ishl IntKind.i64 (IntKind.i64.wrap ((y : Nat) : Int)) 8)) (IntKind.i64.wrap ((x : Nat) : Int))) = ((y * 256 + x : Nat) : Int) := by
  rw [widN y (by omega), widN x (by omega), show (8 : Int) = ((8 : Nat) : Int) from rfl, shlN _ y 8 (by decide), widN (y * 2 ^ 8) (by omega), orN' _ x y 8 (by omega) (by show _ < 18446744073709551616; omega), widN _ (by omega)]
  omega
theorem bitRead (x k : Nat) (hx : x < 256) (hk : k < 8) : hb (IntKind.u8.wrap (iand IntKind.u8 (ishr IntKind.u8 ((x : Nat) : Int) ((k : Nat) : Int)) 1) == 1) = (x / 2 ^ k % 2 == 1) := by
  have h1 : x / 2 ^ k ≤ x := Nat.div_le_self ..
  rw [shrN _ _ _ (by show k ≤ 8; omega), and1 _ (by omega), u8c]
  generalize x / 2 ^ k = y
  have : y % 2 % 256 = y % 2 := Nat.mod_eq_of_lt (by omega)
  rw [this]
  have : y % 2 = 0 ∨ y % 2 = 1 := by omega
  rw [hb_eq]
  rcases this with e | e <;> rw [e] <;> decide

set_option maxHeartbeats 2000000 in
theorem pread_spec {h : Hp} {b : ByteArray} {n : Nat} {K : Value → Hp → Prop} (hb : b.size = 1024) (h1 : 1 ≤ n) (hn : n ≤ 128)
    (hZ : b = zeroB 1024 → ∀ h', Sub h h' → K (.tuple #[.agg (headC 0 (fun _ => 0) fun i => i == 0).toArray, .bool true]) h')
    (hO : b ≠ zeroB 1024 → OkHead b n → ∀ h', Sub h h' → K (.tuple #[.agg (headC (dser b 8) (droot b) (dbit b)).toArray, .bool true]) h')
    (hN : b ≠ zeroB 1024 → ¬ OkHead b n → ∀ h' xs, xs.length = 133 → plainP xs → Sub h h' → K (.tuple #[.agg xs.toArray, .bool false]) h') :
    CallsH Tryz.prog pager_read.id #[.string b, .int .i64 (n : Nat)] h K := by
  apply pager_read.calls
  unfold pager_read.W
  intro k1 hk1 k2 hk2
  rw [z114] at hk2 ⊢
  have B1 : Blk (h.upd k1 (.cells (headC 0 (fun _ => 0) fun _ => false).toArray 83 (0, 0))) k1 83 (headC 0 (fun _ => 0) fun _ => false) := Blk.new _ _ _ _
  have s1 : Sub h (h.upd k1 (.cells (headC 0 (fun _ => 0) fun _ => false).toArray 83 (0, 0))) := Sub.upd hk1 _
  generalize h.upd k1 (.cells (headC 0 (fun _ => 0) fun _ => false).toArray 83 (0, 0)) = y1 at B1 s1 hk2
  have hne : k1 ≠ k2 := B1.ne hk2
  have hk2h : h k2 = none := s1.none hk2
  have B2 : Blk (y1.upd k2 (.cells (headC 0 (fun _ => 0) fun _ => false).toArray 83 (0, 0))) k2 83 (headC 0 (fun _ => 0) fun _ => false) := Blk.new _ _ _ _
  have B1' := B1.sub (Sub.upd hk2 (.cells (headC 0 (fun _ => 0) fun _ => false).toArray 83 (0, 0)))
  have s2 := s1.trans (Sub.upd hk2 (.cells (headC 0 (fun _ => 0) fun _ => false).toArray 83 (0, 0)))
  clear B1 s1
  generalize y1.upd k2 (.cells (headC 0 (fun _ => 0) fun _ => false).toArray 83 (0, 0)) = y2 at B1' B2 s2
  have new2 : ∀ {x : Hp} (sx : Sub h x) (o' : Nat) (us : List Value), Sub h (x.put k2 o' us) := fun {x} sx o' us => (Keep.put (fun c => c = k2) x o' us rfl).sub sx fun c e => by rw [e]; exact hk2h
  have new1 : ∀ {x : Hp} (sx : Sub h x) (o' : Nat) (us : List Value), Sub h (x.put k1 o' us) := fun {x} sx o' us => (Keep.put (fun c => c = k1) x o' us rfl).sub sx fun c e => by rw [e]; exact hk1
  have hl := headC_len 0 (fun _ => 0) fun _ => false
  have B3 := B2.put 0 (headC 0 (fun _ => 0) fun _ => false)
  rw [setL_all rfl] at B3
  have B4 := B3.put (5 + 0) [.bool true]
  rw [headC_setU] at B4
  have B14 := (B1'.put_ne 0 (headC 0 (fun _ => 0) fun _ => false) hne).put_ne (5 + 0) [.bool true] hne
  have s4 := new2 (new2 s2 0 (headC 0 (fun _ => 0) fun _ => false)) (5 + 0) [.bool true]
  refine ⟨hl, headC_plain _ _ _, B2.store (by rw [hl]; decide), B3.store (by rw [hl]; decide), by decide, by decide, by decide, by decide, fun k3 hk3 => ?_⟩
  have hu0 : headC 0 (fun _ => 0) (upU (fun _ => false) 0 true) = headC 0 (fun _ => 0) fun i => i == 0 := headC_congr (fun _ _ => rfl) fun i _ => by
    unfold upU
    by_cases e : i = 0
    · rw [if_pos e, e]; rfl
    · rw [if_neg e]; symm; simpa using e
  rw [hu0] at B4
  have B5 := B4.sub (Sub.upd hk3 (.cells (repV 1024 [.int .u8 0]).toArray 5 (0, 0)))
  have B15 := B14.sub (Sub.upd hk3 (.cells (repV 1024 [.int .u8 0]).toArray 5 (0, 0)))
  have s5 := s4.trans (Sub.upd hk3 (.cells (repV 1024 [.int .u8 0]).toArray 5 (0, 0)))
  refine ⟨zeroB 1024, zero_slice (Hp.upd_same _ _ _), ?_⟩
  clear B3 B4 B14 s4 B2 B1' s2
  show cond (beqS b (zeroB 1024)) _ _
  generalize Hp.upd _ k3 _ = y5 at B5 B15 s5 ⊢
  -- what is told at the end
  have fin : ∀ {x : Hp} {t : Nat → Nat} {v : Nat → Bool} {w : Bool} {s : Nat} {L : List Value} (sx : Sub h x) (Bx : Blk x k1 83 (headC 0 (fun _ => 0) fun _ => false)) (hL : L.length = 133) (pL : plainP L), (∀ h', Sub h h' → K (.tuple #[.agg L.toArray, .bool w]) h') →
      L.length = 133 ∧ plainP L ∧ StoreOk x k1 0 L.length ∧ ∃ xs : List Value, xs.length = 133 ∧ CellsAt (x.put k1 0 L) k1 0 xs ∧ K (.tuple #[.agg xs.toArray, .bool w]) (x.put k1 0 L) := by
    intro x t v w s L sx Bx hL pL hK
    refine ⟨hL, pL, Bx.store (by rw [hL, hl]; decide), L, hL, ?_, hK _ (new1 sx _ _)⟩
    have := Bx.put 0 L
    rw [setL_all (by rw [hL, hl])] at this
    exact this.cellsAt fun i hi => by rw [Nat.zero_add]
  have z0 : ∀ {x : Hp} (Bx : Blk x k2 83 (headC 0 (fun _ => 0) fun _ => false)), True := fun _ => trivial
  refine split_beqS (fun e => ?_) fun hne0 => ?_
  · refine ⟨headC 0 (fun _ => 0) fun i => i == 0, headC_len _ _ _, B5.cellsAt fun i hi => by rw [Nat.zero_add], ?_⟩
    exact fin (t := fun _ => 0) (v := fun _ => false) (s := 0) s5 B15 (headC_len _ _ _) (headC_plain _ _ _) (hZ e)
  have bad : ¬ OkHead b n → ∀ {x : Hp}, Sub h x → Blk x k1 83 (headC 0 (fun _ => 0) fun _ => false) → (headC 0 (fun _ => 0) fun _ => false).length = 133 ∧ plainP (headC 0 (fun _ => 0) fun _ => false) ∧ StoreOk x k1 0 (headC 0 (fun _ => 0) fun _ => false).length ∧
      ∃ xs : List Value, xs.length = 133 ∧ CellsAt (x.put k1 0 (headC 0 (fun _ => 0) fun _ => false)) k1 0 xs ∧ K (.tuple #[.agg xs.toArray, .bool false]) (x.put k1 0 (headC 0 (fun _ => 0) fun _ => false)) := fun no {x} sx Bx =>
    fin (t := fun _ => 0) (v := fun _ => false) (s := 0) sx Bx hl (headC_plain _ _ _) fun h' s' => hN hne0 no h' _ hl (headC_plain _ _ _) s'
  have e18 : IntKind.i64.wrap (Int.ofNat 10 + 8) = 18 := by decide
  have e26 : IntKind.i64.wrap (18 + 8) = 26 := by decide
  have esz : Int.ofNat b.size = 1024 := by rw [hb]; rfl
  simp only [e18, e26, esz]
  have stp : ∀ {m j : Nat}, j < m → m ≤ 1000 → IntKind.i64.wrap ((j : Int) + 1) = ((j + 1 : Nat) : Int) := fun {m j} _ _ => by rw [wid (by omega) (by omega)]; omega
  refine ⟨fun i x m => ∃ j : Nat, i = (j : Int) ∧ j ≤ 8 ∧ m = 8 - j ∧ Sub h x ∧ Blk x k1 83 (headC 0 (fun _ => 0) fun _ => false) ∧ Blk x k2 83 (headC (dser b j) (fun _ => 0) fun i => i == 0), ⟨_, 0, rfl, by decide, rfl, s5, B15, B5⟩, ?_⟩
  rintro i x m ⟨j, rfl, hj, rfl, sx, A, B⟩
  refine split_dec (fun g => ?_) fun g => ?_
  · have g : j < 8 := by have : (j : Int) < 8 := g; omega
    have e1 : IntKind.i64.wrap (10 + (j : Int)) = ((10 + j : Nat) : Int) := by rw [wid (by omega) (by omega)]; omega
    have hd := dser_lt b j
    have hd7 : dser b j < 256 ^ 7 := Nat.lt_of_lt_of_le hd (Nat.pow_le_pow_right (by decide) (by omega))
    refine ⟨_, B.cell' 0 rfl, by decide, by rw [e1]; omega, by rw [e1]; omega, B.store (by rw [headC_len]; decide), 8 - (j + 1), by omega, j + 1, stp g (by decide), by omega, rfl, new2 sx _ _, A.put_ne _ _ hne, ?_⟩
    rw [e1, Int.toNat_natCast, byteAt_N, shiftIn _ _ (byteN_lt _ _) hd7]
    have := B.put 0 [.int .u64 ((dser b j * 256 + byteN b (10 + j) : Nat) : Int)]
    rw [headC_setS] at this
    exact this
  have : j = 8 := by
    have : ¬ (j : Int) < 8 := g
    omega
  subst this
  clear g B5 B15 s5
  refine ⟨fun i x m => ∃ j : Nat, i = (j : Int) ∧ j ≤ 4 ∧ m = 4 - j ∧ Sub h x ∧ Blk x k1 83 (headC 0 (fun _ => 0) fun _ => false) ∧ Blk x k2 83 (headC (dser b 8) (fun k => if k < j then droot b k else 0) fun i => i == 0), ⟨_, 0, rfl, by decide, rfl, sx, A, ?_⟩, ?_⟩
  · rw [headC_congr (r' := fun _ => 0) (u' := fun i => i == 0) (fun k _ => if_neg (Nat.not_lt_zero _)) fun _ _ => rfl]; exact B
  clear A B sx
  rintro i x m ⟨j, rfl, hj, rfl, sx, A, B⟩
  refine split_dec (fun g => ?_) fun g => ?_
  · have g : j < 4 := by have : (j : Int) < 4 := g; omega
    have e1 : IntKind.i64.wrap (2 * (j : Int)) = ((2 * j : Nat) : Int) := by rw [wid (by omega) (by omega)]; omega
    have e2 : IntKind.i64.wrap (18 + ((2 * j : Nat) : Int)) = ((18 + 2 * j : Nat) : Int) := by rw [wid (by omega) (by omega)]; omega
    have e3 : IntKind.i64.wrap (((18 + 2 * j : Nat) : Int) + 1) = ((19 + 2 * j : Nat) : Int) := by rw [wid (by omega) (by omega)]; omega
    have idx : 1 + (j : Int).toNat * 1 = 1 + j := by rw [Int.toNat_natCast]; omega
    rw [e1, e2, e3, idx]
    refine ⟨by omega, by omega, by decide, by omega, by omega, by omega, by omega, B.store (by rw [headC_len]; omega), 4 - (j + 1), by omega, j + 1, stp g (by decide), by omega, rfl, new2 sx _ _, A.put_ne _ _ hne, ?_⟩
    rw [Int.toNat_natCast, Int.toNat_natCast, byteAt_N, byteAt_N, shiftIn2 _ _ (byteN_lt _ _) (byteN_lt _ _)]
    have := B.put (1 + j) [.int .i64 ((droot b j : Nat) : Int)]
    rw [headC_setR _ _ _ _ g] at this
    rw [headC_congr (r' := upR (fun k => if k < j then droot b k else 0) j (droot b j)) (u' := fun i => i == 0) (fun k _ => ?_) fun _ _ => rfl]
    · exact this
    · show (if k < j + 1 then droot b k else 0) = if k = j then droot b j else if k < j then droot b k else 0
      by_cases e : k = j
      · rw [if_pos e, if_pos (by omega), e]
      · rw [if_neg e]
        by_cases e2 : k < j
        · rw [if_pos e2, if_pos (by omega)]
        · rw [if_neg e2, if_neg (by omega)]
  have : j = 4 := by
    have : ¬ (j : Int) < 4 := g
    omega
  subst this
  clear g
  rw [headC_congr (r' := droot b) (u' := fun i => i == 0) (fun k hk => if_pos hk) fun _ _ => rfl] at B
  refine ⟨fun i x m => ∃ j : Nat, i = (j : Int) ∧ j ≤ 128 ∧ m = 128 - j ∧ Sub h x ∧ Blk x k1 83 (headC 0 (fun _ => 0) fun _ => false) ∧ Blk x k2 83 (headC (dser b 8) (droot b) fun i => if i < j then dbit b i else i == 0) ∧ ∀ i, i < j → dbit b i = true → i < n, ⟨_, 0, rfl, by decide, rfl, sx, A, ?_, fun i hi => absurd hi (Nat.not_lt_zero _)⟩, ?_⟩
  · rw [headC_congr (r' := droot b) (u' := fun i => i == 0) (fun _ _ => rfl) fun k _ => if_neg (Nat.not_lt_zero _)]; exact B
  clear A B sx
  rintro i x m ⟨j, rfl, hj, rfl, sx, A, B, hbel⟩
  refine split_dec (fun g => ?_) fun g => ?_
  · have g : j < 128 := by have : (j : Int) < 128 := g; omega
    have e1 : IntKind.i64.wrap (26 + IntKind.i64.wrap ((j : Int).tdiv 8)) = ((26 + j / 8 : Nat) : Int) := by
      rw [tdiv8, widN _ (by omega), wid (by omega) (by omega)]; omega
    have idx : 5 + (j : Int).toNat * 1 = 5 + j := by rw [Int.toNat_natCast]; omega
    have val : Go.Gx.hb (IntKind.u8.wrap (iand IntKind.u8 (ishr IntKind.u8 (byteAt b (26 + j / 8)) ((j % 8 : Nat) : Int)) 1) == 1) = dbit b j := by
      rw [byteAt_N, bitRead _ _ (byteN_lt _ _) (Nat.mod_lt _ (by decide))]; rfl
    rw [e1, idx, tmod8, Int.toNat_natCast, val]
    have B' := B.put (5 + j) [.bool (dbit b j)]
    rw [headC_setU, headC_congr (r' := droot b) (u' := fun i => if i < j + 1 then dbit b i else i == 0) (fun _ _ => rfl) fun k _ => ?_] at B'
    rotate_left
    · show upU (fun i => if i < j then dbit b i else i == 0) j (dbit b j) k = if k < j + 1 then dbit b k else k == 0
      unfold upU
      by_cases e : k = j
      · rw [if_pos e, if_pos (by omega), e]
      · rw [if_neg e]
        show (if k < j then dbit b k else k == 0) = _
        by_cases e2 : k < j
        · rw [if_pos e2, if_pos (by omega)]
        · rw [if_neg e2, if_neg (by omega)]
    refine ⟨by decide, by omega, by omega, by decide, by omega, by omega, by omega, B.store (by rw [headC_len]; show 5 + j + 1 ≤ 133; omega), by omega, by omega, dbit b j, ?_, split_cond (fun eb => split_dec (fun e => ?_) fun e => ?_) fun eb => ?_⟩
    · exact B'.cell' _ (by rw [headC_used _ _ _ g, if_pos (Nat.lt_succ_self _)])
    · have e : ((j : Nat) : Int) ≥ (n : Int) := e
      exact bad (fun H => by have := H.below j g eb; omega) (new2 sx _ _) (A.put_ne _ _ hne)
    · have e : ¬ ((j : Nat) : Int) ≥ (n : Int) := e
      refine ⟨128 - (j + 1), by omega, j + 1, stp g (by decide), by omega, rfl, new2 sx _ _, A.put_ne _ _ hne, B', fun i hi hbi => ?_⟩
      by_cases e2 : i = j
      · omega
      · exact hbel i (by omega) hbi
    · refine ⟨128 - (j + 1), by omega, j + 1, stp g (by decide), by omega, rfl, new2 sx _ _, A.put_ne _ _ hne, B', fun i hi hbi => ?_⟩
      by_cases e2 : i = j
      · rw [e2, eb] at hbi; cases hbi
      · exact hbel i (by omega) hbi
  have : j = 128 := by
    have : ¬ (j : Int) < 128 := g
    omega
  subst this
  clear g
  rw [headC_congr (r' := droot b) (u' := dbit b) (fun _ _ => rfl) fun k hk => if_pos hk] at B
  refine ⟨_, B.cell' _ (headC_root _ _ _ (k := 0) (by decide)), _, B.cell' _ (headC_root _ _ _ (k := 1) (by decide)), _, B.cell' _ (headC_root _ _ _ (k := 2) (by decide)), _, B.cell' _ (headC_root _ _ _ (k := 3) (by decide)), ?_⟩
  refine ⟨fun i y m => ∃ j : Nat, i = (j : Int) ∧ j ≤ 4 ∧ m = 4 - j ∧ y = x ∧ ∀ k, k < j → droot b k < 128 ∧ (droot b k ≠ 0 → dbit b (droot b k) = true), ⟨_, 0, rfl, by decide, rfl, rfl, fun k hk => absurd hk (Nat.not_lt_zero _)⟩, ?_⟩
  rintro i y m ⟨j, rfl, hj, rfl, rfl, hroots⟩
  refine split_dec (fun g => ?_) fun g => ?_
  · have g : j < 4 := by have : (j : Int) < 4 := g; omega
    refine ⟨by omega, by omega, _, lget4 g, split_dec (fun e => ?_) fun e => split_ne (fun e2 => ?_) fun e2 => ?_⟩
    · have e : ((droot b j : Nat) : Int) ≥ 128 := e
      exact bad (fun H => by have := (H.roots j g).1; omega) sx A
    · have e : ¬ ((droot b j : Nat) : Int) ≥ 128 := e
      have idx : 5 + ((droot b j : Nat) : Int).toNat * 1 = 5 + droot b j := by rw [Int.toNat_natCast]; omega
      refine ⟨by omega, by omega, dbit b (droot b j), ?_, split_not (fun e3 => bad (fun H => ?_) sx A) fun e3 => ⟨4 - (j + 1), by omega, j + 1, stp g (by decide), by omega, rfl, rfl, fun k hk => ?_⟩⟩
      · rw [idx]; exact B.cell' _ (headC_used _ _ _ (by omega))
      · have := (H.roots j g).2 (fun e4 => e2 (by rw [e4]; rfl))
        rw [this] at e3; cases e3
      · by_cases ek : k = j
        · rw [ek]; exact ⟨by omega, fun _ => e3⟩
        · exact hroots k (by omega)
    · have e2 : ((droot b j : Nat) : Int) = 0 := e2
      refine ⟨4 - (j + 1), by omega, j + 1, stp g (by decide), by omega, rfl, rfl, fun k hk => ?_⟩
      by_cases ek : k = j
      · rw [ek]; exact ⟨by omega, fun h => by omega⟩
      · exact hroots k (by omega)
  have : j = 4 := by
    have : ¬ (j : Int) < 4 := g
    omega
  subst this
  have notOk : ¬ OkHead b n → ∀ {z : Hp}, Sub h z → Blk z k1 83 (headC 0 (fun _ => 0) fun _ => false) → _ := fun no {z} sz Bz =>
    fin (x := z) (w := false) (t := fun _ => 0) (v := fun _ => false) (s := 0) (L := headC (dser b 8) (droot b) (dbit b)) sz Bz (headC_len _ _ _) (headC_plain _ _ _) fun h' s' => hN hne0 no h' _ (headC_len _ _ _) (headC_plain _ _ _) s'
  refine ⟨headC (dser b 8) (droot b) (dbit b), headC_len _ _ _, B.cellsAt fun i hi => by rw [Nat.zero_add], _, B.cell' 5 (headC_used _ _ _ (i := 0) (by decide)), split_cond (fun e0 => ?_) fun e0 => ⟨Sub.refl _, notOk (fun H => by rw [H.zero] at e0; cases e0) sx A⟩⟩
  refine ⟨_, B.cell' 0 rfl, split_dec (fun e => ?_) fun e => ⟨Sub.refl _, notOk (fun H => e (by have := H.ser; omega)) sx A⟩⟩
  refine bytes_spec (B.cellsAt fun i hi => by rw [Nat.zero_add]) fun z sz => ⟨_, rfl, sz, ?_⟩
  rw [beqS_val]
  by_cases eb : tabB (encN (dser b 8) (droot b) (dbit b) 128) = b
  · rw [decide_eq_true eb]
    exact fin (t := fun _ => 0) (v := fun _ => false) (s := 0) (sx.trans sz) (A.sub sz) (headC_len _ _ _) (headC_plain _ _ _) (hO hne0 ⟨hbel, hroots, e0, by have e : ((dser b 8 : Nat) : Int) ≤ 9223372036854775807 := e; omega, eb⟩)
  · rw [decide_eq_false eb]
    exact notOk (fun H => eb H.bytes) (sx.trans sz) (A.sub sz)
end Go.Proofs.YthbogjbcecmopaaGreatDoor
namespace Go.Proofs.YthbogjbcecmopaaGreatDoor
open Go.Gx
set_option maxRecDepth 100000
set_option linter.unusedVariables false

def stC (ua : Option Addr) (ul uc : Nat) (da : Option Addr) (dl dc : Nat) (r : Nat → Nat) (s : Nat) : List Value :=
  [.slice ua ul uc, .slice da dl dc, .int .i64 (r 0 : Nat), .int .i64 (r 1 : Nat), .int .i64 (r 2 : Nat), .int .i64 (r 3 : Nat), .int .u64 (s : Nat)]
end Go.Proofs.YthbogjbcecmopaaGreatDoor
namespace Go.Proofs.YthbogjbcecmopaaGreatDoor
open Go.Gx
set_option maxRecDepth 100000
set_option linter.unusedVariables false

theorem wrs_on : ∀ (W : List (Nat × ByteArray)) (D : Dk), D.down = false → D.fuse = 0 → wrs D W = ({ D with ws := D.ws ++ W }, 0)
  | [], D, _, _ => by show (D, (0 : Int)) = _; rw [List.append_nil]
  | w :: W, D, hd, hf => by
    have e : D.write w.1 w.2 = { D with ws := D.ws ++ [w] } := by
      unfold Dk.write
      rw [hf, if_neg (by decide)]
    rw [wrs_cons, if_neg (by rw [hd]; decide), e, wrs_on W { D with ws := D.ws ++ [w] } (by exact hd) (by exact hf)]
    simp only [List.append_assoc, List.singleton_append]
theorem flD_on {D : Dk} (hd : D.down = false) : flD (D, 0) = (D.flush, 0) := by
  unfold flD
  rw [if_neg (fun h => h rfl)]
  show (if D.down = true then (D, (10 : Int)) else (D.flush, 0)) = _
  rw [hd, if_neg (by decide)]
theorem step_on {D : Dk} (hd : D.down = false) (hf : D.fuse = 0) (hw : D.ws = []) (W : List (Nat × ByteArray)) : flD (wrs D W) = (⟨settleL D.l W, [], 0, false⟩, 0) := by
  rw [wrs_on W D hd hf, flD_on (by exact hd)]
  unfold Dk.flush
  simp only [hw, hf, hd, List.nil_append]
theorem commit_on {D : Dk} (hd : D.down = false) (hf : D.fuse = 0) (hw : D.ws = []) (n : Nat) (ds : List Ch) :
    commitD n D ds = (⟨settleL (settleL (settleL (settleL D.l (logW ds)) [(0, markB ds)]) (ownW n ds)) [(0, zeroB 256)], [], 0, false⟩, 0) := by
  have st : ∀ (l : List ByteArray) (W : List (Nat × ByteArray)), flD (wrs ⟨l, [], 0, false⟩ W) = (⟨settleL l W, [], 0, false⟩, 0) := fun l W => step_on rfl rfl rfl W
  unfold commitD andD
  rw [step_on hd hf hw]
  simp only [st, if_true]
def secs (l : List ByteArray) (at_ : Nat) : List UInt8 := (l.getD at_ (bytesL [])).data.toList ++ (l.getD (at_ + 1) (bytesL [])).data.toList ++ (l.getD (at_ + 2) (bytesL [])).data.toList ++ (l.getD (at_ + 3) (bytesL [])).data.toList
def pageL (l : List ByteArray) (at_ : Nat) : ByteArray := ⟨(secs l at_).toArray⟩
theorem page_L {D : Dk} (hw : D.ws = []) (at_ : Nat) : D.page at_ = pageL D.l at_ := by
  unfold Dk.page pageL secs
  unfold Dk.look Dk.look Dk.look Dk.look Dk.look Dk.read
  rw [hw, List.nil_append]; rfl
theorem settle_other : ∀ (W : List (Nat × ByteArray)) (l : List ByteArray) (i : Nat), (∀ w ∈ W, w.1 ≠ i) → (settleL l W)[i]? = l[i]?
  | [], _, _, _ => rfl
  | w :: W, l, i, h => by
    show (settleL (l.set w.1 w.2) W)[i]? = _
    rw [settle_other W _ i fun w' hw' => h w' (List.mem_cons_of_mem _ hw'), List.getElem?_set_ne (h w List.mem_cons_self)]
theorem settle_append (l : List ByteArray) (A B : List (Nat × ByteArray)) : settleL l (A ++ B) = settleL (settleL l A) B := List.foldl_append ..
theorem parts_eq (at_ : Nat) (s : ByteArray) : parts at_ s = [(at_ + 0, s.extract 0 256), (at_ + 1, s.extract 256 512), (at_ + 2, s.extract 512 768), (at_ + 3, s.extract 768 1024)] := rfl
theorem getD_of {l : List ByteArray} {i : Nat} {s : ByteArray} (h : l[i]? = some s) : l.getD i (bytesL []) = s := by rw [List.getD_eq_getElem?_getD, h]; rfl
theorem getD_eq {l m : List ByteArray} {i : Nat} (h : l[i]? = m[i]?) : l.getD i (bytesL []) = m.getD i (bytesL []) := by rw [List.getD_eq_getElem?_getD, List.getD_eq_getElem?_getD, h]
theorem four_parts {s : ByteArray} (hs : s.size = 1024) : (s.extract 0 256).data.toList ++ (s.extract 256 512).data.toList ++ (s.extract 512 768).data.toList ++ (s.extract 768 1024).data.toList = s.data.toList := by
  have hl : s.data.toList.length = 1024 := by rw [size_len, hs]
  simp only [ByteArray.data_extract, Array.toList_extract, List.extract_eq_take_drop]
  generalize s.data.toList = L at hl
  rw [List.drop_zero]
  have e : ∀ a : Nat, (L.drop a).take 256 ++ L.drop (a + 256) = L.drop a := fun a => by
    rw [← List.drop_drop, List.take_append_drop]
  have e3 : (L.drop 768).take 256 = L.drop 768 := List.take_of_length_le (by rw [List.length_drop]; omega)
  show L.take 256 ++ (L.drop 256).take 256 ++ (L.drop 512).take 256 ++ (L.drop 768).take 256 = L
  rw [e3, List.append_assoc, e 512, List.append_assoc, e 256, List.take_append_drop]
theorem page_parts {l : List ByteArray} {at_ : Nat} {s : ByteArray} (hs : s.size = 1024) (hat : at_ + 4 ≤ l.length) : pageL (settleL l (parts at_ s)) at_ = s := by
  unfold pageL secs
  rw [parts_eq]
  have g : ∀ (k : Nat) (t : ByteArray), (settleL l [(at_ + 0, s.extract 0 256), (at_ + 1, s.extract 256 512), (at_ + 2, s.extract 512 768), (at_ + 3, s.extract 768 1024)])[at_ + k]? = some t → (settleL l [(at_ + 0, s.extract 0 256), (at_ + 1, s.extract 256 512), (at_ + 2, s.extract 512 768), (at_ + 3, s.extract 768 1024)]).getD (at_ + k) (bytesL []) = t := fun k t h => getD_of h
  have w : settleL l [(at_ + 0, s.extract 0 256), (at_ + 1, s.extract 256 512), (at_ + 2, s.extract 512 768), (at_ + 3, s.extract 768 1024)] = (((l.set (at_ + 0) (s.extract 0 256)).set (at_ + 1) (s.extract 256 512)).set (at_ + 2) (s.extract 512 768)).set (at_ + 3) (s.extract 768 1024) := rfl
  rw [w] at g ⊢
  have g0 := g 0 (s.extract 0 256) (by rw [List.getElem?_set_ne (by omega), List.getElem?_set_ne (by omega), List.getElem?_set_ne (by omega), List.getElem?_set_self (by omega)])
  have g1 := g 1 (s.extract 256 512) (by rw [List.getElem?_set_ne (by omega), List.getElem?_set_ne (by omega), List.getElem?_set_self (by rw [List.length_set]; omega)])
  have g2 := g 2 (s.extract 512 768) (by rw [List.getElem?_set_ne (by omega), List.getElem?_set_self (by rw [List.length_set, List.length_set]; omega)])
  have g3 := g 3 (s.extract 768 1024) (by rw [List.getElem?_set_self (by rw [List.length_set, List.length_set, List.length_set]; omega)])
  rw [Nat.add_zero] at g0
  rw [show at_ + 0 = at_ from rfl] at *
  rw [g0, g1, g2, g3, four_parts hs]
theorem page_other {l : List ByteArray} {W : List (Nat × ByteArray)} {at_ : Nat} (h : ∀ w ∈ W, w.1 < at_ ∨ at_ + 4 ≤ w.1) : pageL (settleL l W) at_ = pageL l at_ := by
  unfold pageL secs
  rw [getD_eq (settle_other W l at_ fun w hw => by have := h w hw; omega), getD_eq (settle_other W l (at_ + 1) fun w hw => by have := h w hw; omega),
    getD_eq (settle_other W l (at_ + 2) fun w hw => by have := h w hw; omega), getD_eq (settle_other W l (at_ + 3) fun w hw => by have := h w hw; omega)]
theorem parts_mem {at_ : Nat} {s : ByteArray} {w : Nat × ByteArray} (h : w ∈ parts at_ s) : at_ ≤ w.1 ∧ w.1 < at_ + 4 := by
  unfold parts at h
  obtain ⟨i, hi, rfl⟩ := List.mem_map.1 h
  have := List.mem_range.1 hi
  constructor
  · show at_ ≤ at_ + i; omega
  · show at_ + i < at_ + 4; omega
def updP (ds : List Ch) (p : Nat) (x : ByteArray) : ByteArray := ds.foldl (fun a c => if c.1 = p then c.2 else a) x
theorem page_own (n p : Nat) : ∀ (ds : List Ch) (l : List ByteArray), (∀ c ∈ ds, c.2.size = 1024 ∧ c.1 < n) → 8 * n + 1 ≤ l.length → pageL (settleL l (ownW n ds)) (1 + 4 * (n + p)) = updP ds p (pageL l (1 + 4 * (n + p)))
  | [], _, _, _ => rfl
  | c :: ds, l, h, hl => by
    obtain ⟨hc1, hc2⟩ := h c List.mem_cons_self
    have e : settleL l (ownW n (c :: ds)) = settleL (settleL l (parts (1 + 4 * (n + c.1)) c.2)) (ownW n ds) := by
      show settleL l (parts (1 + 4 * (n + c.1)) c.2 ++ ownW n ds) = _
      exact settle_append _ _ _
    rw [e, page_own n p ds _ (fun d hd => h d (List.mem_cons_of_mem _ hd)) (by rw [settleL_len]; exact hl)]
    show updP ds p _ = updP ds p (if c.1 = p then c.2 else _)
    by_cases ec : c.1 = p
    · rw [if_pos ec, ← ec, page_parts hc1 (by omega)]
    · rw [if_neg ec, page_other fun w hw => by have := parts_mem hw; omega]
theorem log_mem {ds : List Ch} {n : Nat} (h : ∀ c ∈ ds, c.1 < n) {w : Nat × ByteArray} (hw : w ∈ logW ds) : 1 ≤ w.1 ∧ w.1 < 1 + 4 * n := by
  unfold logW at hw
  obtain ⟨c, hc, hw⟩ := List.mem_flatMap.1 hw
  have := parts_mem hw
  have := h c hc
  omega
theorem commit_own {D : Dk} (hd : D.down = false) (hf : D.fuse = 0) (hw : D.ws = []) {n : Nat} {ds : List Ch} (hds : ∀ c ∈ ds, c.2.size = 1024 ∧ c.1 < n) (hl : 8 * n + 1 ≤ D.l.length) :
    (commitD n D ds).2 = 0 ∧ (commitD n D ds).1.down = false ∧ (commitD n D ds).1.fuse = 0 ∧ (commitD n D ds).1.ws = [] ∧ (commitD n D ds).1.l.length = D.l.length ∧ (1 ≤ D.l.length → (commitD n D ds).1.read 0 = zeroB 256) ∧ ∀ p, (commitD n D ds).1.own n p = updP ds p (D.own n p) := by
  rw [commit_on hd hf hw]
  refine ⟨rfl, rfl, rfl, rfl, ?_, fun h1 => ?_, fun p => ?_⟩
  · simp only [settleL_len]
  · unfold Dk.read
    simp only [List.foldl_nil]
    apply getD_of
    show (List.set _ 0 _)[0]? = _
    rw [List.getElem?_set_self]
    simp only [settleL_len]; omega
  · unfold Dk.own
    rw [page_L rfl, page_L hw]
    show pageL (settleL (settleL (settleL (settleL D.l (logW ds)) [(0, markB ds)]) (ownW n ds)) [(0, zeroB 256)]) _ = _
    rw [page_other fun w hw => by rw [List.mem_singleton.1 hw]; show 0 < _ ∨ _; omega, page_own n p ds _ hds (by simp only [settleL_len]; exact hl),
      page_other fun w hw => by rw [List.mem_singleton.1 hw]; show 0 < _ ∨ _; omega, page_other fun w hw => by have := log_mem (fun c hc => (hds c hc).2) hw; omega]
theorem updP_none : ∀ {ds : List Ch} {p : Nat} {x : ByteArray}, (∀ c ∈ ds, c.1 ≠ p) → updP ds p x = x
  | [], _, _, _ => rfl
  | c :: ds, p, x, h => by
    show updP ds p (if c.1 = p then c.2 else x) = x
    rw [if_neg (h c List.mem_cons_self)]
    exact updP_none fun d hd => h d (List.mem_cons_of_mem _ hd)
theorem updP_mem : ∀ {ds : List Ch} {p : Nat} {s x : ByteArray}, (p, s) ∈ ds → (ds.map (·.1)).Nodup → updP ds p x = s
  | c :: ds, p, s, x, h, hn => by
    rw [List.map_cons, List.nodup_cons] at hn
    show updP ds p (if c.1 = p then c.2 else x) = s
    rcases List.mem_cons.1 h with rfl | h
    · rw [if_pos rfl]
      exact updP_none fun d hd e => hn.1 (List.mem_map.2 ⟨d, hd, e⟩)
    · exact updP_mem h hn.2
end Go.Proofs.YthbogjbcecmopaaGreatDoor
namespace Go.Proofs.YthbogjbcecmopaaGreatDoor
open Go.Gx
set_option maxRecDepth 100000
set_option linter.unusedVariables false

def mapD (L : List Ch) : List (Value × Value) := L.map fun e => (.int .i64 (e.1 : Nat), .string e.2)
def dget (L : List Ch) (i : Nat) : Option ByteArray := (L.find? fun e => e.1 == i).map (·.2)
def dset (L : List Ch) (i : Nat) (s : ByteArray) : List Ch :=
  match dget L i with
  | some _ => L.map fun e => if e.1 = i then (i, s) else e
  | none => L ++ [(i, s)]
def ddel (L : List Ch) (i : Nat) : List Ch := L.filter fun e => e.1 != i
theorem key_eq {a b : Nat} : (Value.int .i64 (a : Nat) = Value.int .i64 (b : Nat)) ↔ a = b := by
  constructor
  · intro h; cases h with
    | refl => rfl
  · rintro rfl; rfl
theorem mapD_get (L : List Ch) (i : Nat) : mget (mapD L) (.int .i64 (i : Nat)) = (dget L i).map .string := by
  unfold mget mapD dget
  induction L with
  | nil => rfl
  | cons e L ih =>
    rw [List.map_cons]
    by_cases h : e.1 = i
    · rw [List.find?_cons_of_pos (by simpa using congrArg (fun n : Nat => (n : Int)) h), List.find?_cons_of_pos (by simpa using h)]; rfl
    · rw [List.find?_cons_of_neg (by simpa using fun e' => h (by omega)), List.find?_cons_of_neg (by simpa using h)]; exact ih
theorem mapD_set (L : List Ch) (i : Nat) (s : ByteArray) : mset (mapD L) (.int .i64 (i : Nat)) (.string s) = mapD (dset L i s) := by
  unfold mset dset
  rw [mapD_get]
  cases h : dget L i with
  | none =>
    show mapD L ++ _ = mapD (L ++ _)
    unfold mapD
    rw [List.map_append]; rfl
  | some t =>
    show (mapD L).map _ = mapD (L.map _)
    unfold mapD
    rw [List.map_map, List.map_map]
    refine List.map_congr_left fun e _ => ?_
    simp only [Function.comp]
    by_cases he : e.1 = i
    · rw [if_pos (by rw [he]), if_pos he]
    · rw [if_neg (fun h => he (key_eq.1 h)), if_neg he]
theorem mapD_del (L : List Ch) (i : Nat) : mdel (mapD L) (.int .i64 (i : Nat)) = mapD (ddel L i) := by
  unfold mdel mapD ddel
  rw [List.filter_map]
  congr 1
  refine List.filter_congr fun e _ => ?_
  simp only [Function.comp]
  by_cases he : e.1 = i
  · have h1 : (e.1 != i) = false := by simpa using he
    rw [h1]
    simpa using congrArg (fun n : Nat => (n : Int)) he
  · have h1 : (e.1 != i) = true := by simpa using he
    rw [h1]
    simpa using fun e' => he (by omega)
theorem dget_set (L : List Ch) (i j : Nat) (s : ByteArray) : dget (dset L i s) j = if j = i then some s else dget L j := by
  have h1 := mget_mset (mapD L) (.int .i64 (i : Nat)) (.string s) (.int .i64 (j : Nat))
  rw [mapD_set, mapD_get, mapD_get] at h1
  by_cases e : j = i
  · rw [if_pos e]
    have := h1.1 (key_eq.2 e)
    cases hd : dget (dset L i s) j with
    | none => rw [hd] at this; cases this
    | some t => rw [hd] at this; cases this; rfl
  · rw [if_neg e]
    have := h1.2 fun h => e (key_eq.1 h)
    cases hd : dget (dset L i s) j with
    | none =>
      rw [hd] at this
      cases hd2 : dget L j with
      | none => rfl
      | some t => rw [hd2] at this; cases this
    | some t =>
      rw [hd] at this
      cases hd2 : dget L j with
      | none => rw [hd2] at this; cases this
      | some t2 => rw [hd2] at this; cases this; rfl
theorem dget_del (L : List Ch) (i j : Nat) : dget (ddel L i) j = if j = i then none else dget L j := by
  unfold dget ddel
  induction L with
  | nil => split <;> rfl
  | cons e L ih =>
    by_cases h : e.1 = i
    · rw [List.filter_cons_of_neg (by simpa using h), ih]
      by_cases hj : j = i
      · rw [if_pos hj, if_pos hj]
      · rw [if_neg hj, if_neg hj, List.find?_cons_of_neg (by simpa using fun e' => hj (by omega))]
    · rw [List.filter_cons_of_pos (by simpa using h)]
      by_cases hj : e.1 = j
      · rw [List.find?_cons_of_pos (by simpa using hj), List.find?_cons_of_pos (by simpa using hj), if_neg (by omega)]
      · rw [List.find?_cons_of_neg (by simpa using hj), List.find?_cons_of_neg (by simpa using hj)]; exact ih
structure DOk (n : Nat) (L : List Ch) : Prop where
  nd : (L.map (·.1)).Nodup
  mem : ∀ e ∈ L, e.1 < n ∧ e.2.size = 1024
  pos : ∀ e ∈ L, 1 ≤ e.1
theorem DOk.nil (n : Nat) : DOk n [] := ⟨List.nodup_nil, (fun e h => by cases h), fun e h => by cases h⟩
theorem dget_mem {L : List Ch} {i : Nat} {s : ByteArray} (h : dget L i = some s) : (i, s) ∈ L := by
  unfold dget at h
  obtain ⟨e, he, hs⟩ := Option.map_eq_some_iff.1 h
  have h1 := List.mem_of_find?_eq_some he
  have h2 : e.1 = i := by simpa using List.find?_some he
  obtain ⟨a, b⟩ := e
  cases hs; cases h2; exact h1
theorem dget_none {L : List Ch} {i : Nat} (h : dget L i = none) : ∀ e ∈ L, e.1 ≠ i := fun e he h2 => by
  unfold dget at h
  rw [Option.map_eq_none_iff, List.find?_eq_none] at h
  exact h e he (by simpa using h2)
theorem mem_dget {L : List Ch} (hn : (L.map (·.1)).Nodup) {i : Nat} {s : ByteArray} (h : (i, s) ∈ L) : dget L i = some s := by
  induction L with
  | nil => cases h
  | cons e L ih =>
    rw [List.map_cons, List.nodup_cons] at hn
    unfold dget
    rcases List.mem_cons.1 h with rfl | h
    · rw [List.find?_cons_of_pos (by simp)]; rfl
    · rw [List.find?_cons_of_neg (by
        have : e.1 ≠ i := fun e' => hn.1 (List.mem_map.2 ⟨_, h, e'.symm⟩)
        simpa using this)]
      exact ih hn.2 h
theorem DOk.set {n : Nat} {L : List Ch} (H : DOk n L) {i : Nat} {s : ByteArray} (h1 : 1 ≤ i) (hi : i < n) (hs : s.size = 1024) : DOk n (dset L i s) := by
  unfold dset
  cases h : dget L i with
  | none =>
    refine ⟨?_, fun e he => ?_, fun e he => ?_⟩
    rotate_left 2
    · rcases List.mem_append.1 he with he | he
      · exact H.pos e he
      · rw [List.mem_singleton.1 he]; exact h1
    · rw [List.map_append, List.nodup_append]
      refine ⟨H.nd, by simp, fun a ha b hb => ?_⟩
      obtain ⟨e, he, rfl⟩ := List.mem_map.1 ha
      have : b = i := by simpa using hb
      rw [this]; exact dget_none h e he
    · rcases List.mem_append.1 he with he | he
      · exact H.mem e he
      · rw [List.mem_singleton.1 he]; exact ⟨hi, hs⟩
  | some t =>
    refine ⟨?_, fun e he => ?_, fun e he => ?_⟩
    rotate_left 2
    · obtain ⟨e', he', rfl⟩ := List.mem_map.1 he
      by_cases h2 : e'.1 = i
      · rw [if_pos h2]; exact h1
      · rw [if_neg h2]; exact H.pos e' he'
    · show ((L.map _).map _).Nodup
      rw [List.map_map]
      have : (L.map ((fun x : Ch => x.1) ∘ fun e => if e.1 = i then (i, s) else e)) = L.map (·.1) := List.map_congr_left fun e _ => by
        simp only [Function.comp]
        by_cases he : e.1 = i
        · rw [if_pos he, he]
        · rw [if_neg he]
      rw [this]; exact H.nd
    · obtain ⟨e', he', rfl⟩ := List.mem_map.1 he
      by_cases h2 : e'.1 = i
      · rw [if_pos h2]; exact ⟨hi, hs⟩
      · rw [if_neg h2]; exact H.mem e' he'
theorem DOk.del {n : Nat} {L : List Ch} (H : DOk n L) (i : Nat) : DOk n (ddel L i) :=
  ⟨H.nd.sublist (List.filter_sublist.map _), (fun e he => H.mem e (List.mem_filter.1 he).1), fun e he => H.pos e (List.mem_filter.1 he).1⟩
theorem nodup_below : ∀ (n : Nat) (l : List Nat), l.Nodup → (∀ x ∈ l, x < n) → l.length ≤ n
  | 0, l, _, h => by
    cases l with
    | nil => exact Nat.le_refl _
    | cons x l => exact absurd (h x List.mem_cons_self) (Nat.not_lt_zero _)
  | n + 1, l, hn, h => by
    by_cases hm : n ∈ l
    · have h1 := nodup_below n (l.erase n) (hn.erase n) fun x hx => by
        have h2 := h x (List.mem_of_mem_erase hx)
        have h3 : x ≠ n := fun e => by rw [e] at hx; exact (List.Nodup.not_mem_erase hn) hx
        omega
      rw [List.length_erase_of_mem hm] at h1
      omega
    · have := nodup_below n l hn fun x hx => by
        have h2 := h x hx
        have h3 : x ≠ n := fun e => hm (e ▸ hx)
        omega
      omega
theorem DOk.len {n : Nat} {L : List Ch} (H : DOk n L) : L.length ≤ n := by
  have := nodup_below n (L.map (·.1)) H.nd fun x hx => by
    obtain ⟨e, he, rfl⟩ := List.mem_map.1 hx
    exact (H.mem e he).1
  rw [List.length_map] at this; exact this
end Go.Proofs.YthbogjbcecmopaaGreatDoor
namespace Go.Proofs.YthbogjbcecmopaaGreatDoor
open Go.Gx
set_option maxRecDepth 100000
set_option linter.unusedVariables false

structure Hd where
  s : Nat
  r : Nat → Nat
  u : Nat → Bool
def Hd.c (H : Hd) : List Value := headC H.s H.r H.u
theorem Hd.len (H : Hd) : H.c.length = 133 := headC_len _ _ _
theorem Hd.plain (H : Hd) : plainP H.c := headC_plain _ _ _
structure Pt where
  h : Hd
  m : Nat
  d : List Ch
def ptC (q : Pt) : List Value := q.h.c ++ [.map (some q.m)]
theorem ptC_len (q : Pt) : (ptC q).length = 134 := by unfold ptC; rw [List.length_append, Hd.len]; rfl
theorem ptC_plain (q : Pt) : plainP (ptC q) := by
  intro v hv
  rcases List.mem_append.1 hv with hv | hv
  · exact Hd.plain _ v hv
  · rw [List.mem_singleton.1 hv]; exact ⟨(fun c h => by cases h), fun c h => by cases h⟩
structure Pg where
  good : Hd
  now : Hd
  d : List Ch
  pts : List (Hd × List Ch)
def pgC (jb : Nat) (g n : Hd) (mb : Nat) (pa : Option Addr) (pl pc : Nat) : List Value := [.pointer (some ⟨jb, 0, none⟩)] ++ (g.c ++ (n.c ++ [.map (some mb), .slice pa pl pc]))
section
variable {jb mb pl pc : Nat} {g n : Hd} {pa : Option Addr}
theorem pgC_len : (pgC jb g n mb pa pl pc).length = 269 := by
  unfold pgC
  rw [List.length_append, List.length_append, List.length_append, Hd.len, Hd.len]; rfl
theorem pgC_0 : (pgC jb g n mb pa pl pc)[0]? = some (.pointer (some ⟨jb, 0, none⟩)) := rfl
theorem pgC_good {i : Nat} (hi : i < 133) : (pgC jb g n mb pa pl pc)[1 + i]? = g.c[i]? := by
  unfold pgC
  rw [List.getElem?_append_right (by show 1 ≤ 1 + i; omega), show 1 + i - [Value.pointer (some ⟨jb, 0, none⟩)].length = i by show 1 + i - 1 = i; omega, List.getElem?_append_left (by rw [Hd.len]; exact hi)]
theorem pgC_now {i : Nat} (hi : i < 133) : (pgC jb g n mb pa pl pc)[134 + i]? = n.c[i]? := by
  unfold pgC
  rw [List.getElem?_append_right (by show 1 ≤ 134 + i; omega), show 134 + i - [Value.pointer (some ⟨jb, 0, none⟩)].length = 133 + i by show 134 + i - 1 = 133 + i; omega, List.getElem?_append_right (by rw [Hd.len]; omega), Hd.len,
    show 133 + i - 133 = i by omega, List.getElem?_append_left (by rw [Hd.len]; exact hi)]
theorem pgC_map : (pgC jb g n mb pa pl pc)[267]? = some (.map (some mb)) := by
  unfold pgC
  rw [List.getElem?_append_right (by show 1 ≤ 267; decide), show 267 - [Value.pointer (some ⟨jb, 0, none⟩)].length = 266 from rfl, List.getElem?_append_right (by rw [Hd.len]; decide), Hd.len, List.getElem?_append_right (by rw [Hd.len]; decide), Hd.len]; rfl
theorem pgC_pts : (pgC jb g n mb pa pl pc)[268]? = some (.slice pa pl pc) := by
  unfold pgC
  rw [List.getElem?_append_right (by show 1 ≤ 268; decide), show 268 - [Value.pointer (some ⟨jb, 0, none⟩)].length = 267 from rfl, List.getElem?_append_right (by rw [Hd.len]; decide), Hd.len, List.getElem?_append_right (by rw [Hd.len]; decide), Hd.len]; rfl
theorem pgC_used {i : Nat} (hi : i < 128) : (pgC jb g n mb pa pl pc)[134 + 5 + i]? = some (.bool (n.u i)) := by
  rw [Nat.add_assoc, pgC_now (by omega)]; exact headC_used _ _ _ hi
theorem pgC_root {k : Nat} (hk : k < 4) : (pgC jb g n mb pa pl pc)[134 + 1 + k]? = some (.int .i64 (n.r k : Nat)) := by
  rw [Nat.add_assoc, pgC_now (by omega)]; exact headC_root _ _ _ hk
theorem pgC_ser : (pgC jb g n mb pa pl pc)[134]? = some (.int .u64 (n.s : Nat)) := by
  have := pgC_now (jb := jb) (g := g) (n := n) (mb := mb) (pa := pa) (pl := pl) (pc := pc) (i := 0) (by decide)
  exact this.trans (headC_0 _ _ _)
theorem pgC_set134 (L : List Value) (hL : L.length = 133) (o : Nat) (vs : List Value) (ho : o + vs.length ≤ 133) (h' : setL n.c o vs = L) : setL (pgC jb g n mb pa pl pc) (134 + o) vs = [.pointer (some ⟨jb, 0, none⟩)] ++ (g.c ++ (L ++ [.map (some mb), .slice pa pl pc])) := by
  unfold pgC
  rw [show 134 + o = [Value.pointer (some ⟨jb, 0, none⟩)].length + (133 + o) by show _ = 1 + (133 + o); omega, setL_right, show 133 + o = g.c.length + o by rw [Hd.len], setL_right, setL_left _ _ _ _ (by rw [Hd.len]; exact ho), h']
theorem pgC_setU (i : Nat) (v : Bool) (hi : i < 128) : setL (pgC jb g n mb pa pl pc) (134 + 5 + i) [.bool v] = pgC jb g { n with u := upU n.u i v } mb pa pl pc := by
  rw [Nat.add_assoc]
  exact pgC_set134 _ (Hd.len _) (5 + i) _ (by show 5 + i + 1 ≤ 133; omega) (headC_setU _ _ _ _ _)
theorem pgC_setR (k v : Nat) (hk : k < 4) : setL (pgC jb g n mb pa pl pc) (134 + 1 + k) [.int .i64 (v : Nat)] = pgC jb g { n with r := upR n.r k v } mb pa pl pc := by
  rw [Nat.add_assoc]
  exact pgC_set134 _ (Hd.len _) (1 + k) _ (by show 1 + k + 1 ≤ 133; omega) (headC_setR _ _ _ _ hk)
theorem pgC_setNow (n' : Hd) : setL (pgC jb g n mb pa pl pc) 134 n'.c = pgC jb g n' mb pa pl pc :=
  pgC_set134 _ (Hd.len _) 0 _ (by rw [Hd.len]; decide) (setL_all (by rw [Hd.len, Hd.len]))
theorem pgC_setGood (g' : Hd) : setL (pgC jb g n mb pa pl pc) 1 g'.c = pgC jb g' n mb pa pl pc := by
  unfold pgC
  rw [show (1 : Nat) = [Value.pointer (some ⟨jb, 0, none⟩)].length + 0 from rfl, setL_right, setL_left _ _ _ _ (by rw [Hd.len, Hd.len]; decide), setL_all (by rw [Hd.len, Hd.len])]
theorem pgC_tail (o : Nat) (vs : List Value) : setL (pgC jb g n mb pa pl pc) (267 + o) vs = [.pointer (some ⟨jb, 0, none⟩)] ++ (g.c ++ (n.c ++ setL [.map (some mb), .slice pa pl pc] o vs)) := by
  unfold pgC
  rw [show 267 + o = [Value.pointer (some ⟨jb, 0, none⟩)].length + (266 + o) by show _ = 1 + (266 + o); omega, setL_right, show 266 + o = g.c.length + (133 + o) by rw [Hd.len]; omega, setL_right, show 133 + o = n.c.length + o by rw [Hd.len], setL_right]
theorem pgC_setMap (mb' : Nat) : setL (pgC jb g n mb pa pl pc) 267 [.map (some mb')] = pgC jb g n mb' pa pl pc := pgC_tail 0 _
theorem pgC_setPts (pa' : Option Addr) (pl' pc' : Nat) : setL (pgC jb g n mb pa pl pc) 268 [.slice pa' pl' pc'] = pgC jb g n mb pa' pl' pc' := pgC_tail 1 _
end
theorem z120 : zeroL Tryz.prog 87 = [.pointer none] ++ (headC 0 (fun _ => 0) (fun _ => false) ++ (headC 0 (fun _ => 0) (fun _ => false) ++ [.map none, .slice none 0 0])) := by kernel_rfl
theorem pg_setA {p0 : Value} {A B T us : List Value} (hA : A.length = 133) (hu : us.length = 133) : setL ([p0] ++ (A ++ (B ++ T))) 1 us = [p0] ++ (us ++ (B ++ T)) := by
  rw [show (1 : Nat) = [p0].length + 0 from rfl, setL_right, setL_left _ _ _ _ (by omega), setL_all (by omega)]
theorem pg_setB {p0 : Value} {A B T us : List Value} (hA : A.length = 133) (hB : B.length = 133) (hu : us.length = 133) : setL ([p0] ++ (A ++ (B ++ T))) 134 us = [p0] ++ (A ++ (us ++ T)) := by
  rw [show (134 : Nat) = [p0].length + (133 + 0) from rfl, setL_right, show 133 + 0 = A.length + 0 by omega, setL_right, setL_left _ _ _ _ (by omega), setL_all (by omega)]
theorem pg_setT {p0 : Value} {A B T us : List Value} (hA : A.length = 133) (hB : B.length = 133) : setL ([p0] ++ (A ++ (B ++ T))) 267 us = [p0] ++ (A ++ (B ++ setL T 0 us)) := by
  rw [show (267 : Nat) = [p0].length + (266 + 0) from rfl, setL_right, show 266 + 0 = A.length + (133 + 0) by omega, setL_right, show 133 + 0 = B.length + 0 by omega, setL_right]
theorem newC (jb : Nat) (g n : Hd) (mb : Nat) : setL (setL (setL (setL (zeroL Tryz.prog 87) 0 [.pointer (some ⟨jb, 0, none⟩)]) 1 g.c) 134 n.c) 267 [.map (some mb)] = pgC jb g n mb none 0 0 := by
  have e0 : setL (zeroL Tryz.prog 87) 0 [.pointer (some ⟨jb, 0, none⟩)] = [.pointer (some ⟨jb, 0, none⟩)] ++ (headC 0 (fun _ => 0) (fun _ => false) ++ (headC 0 (fun _ => 0) (fun _ => false) ++ [.map none, .slice none 0 0])) := by
    rw [z120]; rfl
  have l0 := headC_len 0 (fun _ => 0) (fun _ => false)
  rw [e0, pg_setA l0 g.len, pg_setB g.len l0 n.len, pg_setT g.len n.len]
  rfl
def DAt (h : Hp) (b : Nat) (L : List Ch) : Prop := ∃ o, h b = some o ∧ MapObj Tryz.prog 3 o (mapD L)
theorem DAt.keep {S : Nat → Prop} {h h' : Hp} {b : Nat} {L : List Ch} (H : DAt h b L) (s : Keep S h h') (hn : ¬ S b) : DAt h' b L := by
  obtain ⟨o, h1, h2⟩ := H
  exact ⟨o, s _ _ h1 hn, h2⟩
theorem DAt.sub {h h' : Hp} {b : Nat} {L : List Ch} (H : DAt h b L) (s : Sub h h') : DAt h' b L := H.keep (S := fun _ => False) (s.keep _) fun h => h
theorem DAt.ne {h : Hp} {b c : Nat} {L : List Ch} {t : TypeId} {vs : List Value} (H : DAt h b L) (B : Blk h c t vs) : b ≠ c := by
  rintro rfl
  obtain ⟨o, h1, es, cl, rfl, _⟩ := H
  unfold Blk at B
  rw [B] at h1; cases h1
theorem DAt.ne_own {h : Hp} {b c : Nat} {L : List Ch} {a : Option Addr} {e : TypeId} {pc sz : Nat} {α : Type} {f : α → List Value} {Q : List α} (H : DAt h b L) (O : OwnR f sz h e a pc Q) (hc : blkOf a c) : b ≠ c := by
  rintro rfl
  obtain ⟨_, _, ⟨rfl, _⟩ | ⟨c', rest, rfl, hb, _⟩⟩ := O
  · obtain ⟨o, s, e⟩ := hc; cases e
  · obtain ⟨o, s, e⟩ := hc
    cases e
    exact H.ne (t := e) (vs := _) hb rfl
structure HdOk (n : Nat) (H : Hd) : Prop where
  below : ∀ i, i < 128 → H.u i = true → i < n
  roots : ∀ k, k < 4 → H.r k < 128 ∧ (H.r k ≠ 0 → H.u (H.r k) = true)
  zero : H.u 0 = true
  ser : H.s ≤ 9223372036854775807
structure POk (n : Nat) (P : Pg) : Prop where
  good : HdOk n P.good
  now : HdOk n P.now
  d : DOk n P.d
  pts : ∀ q ∈ P.pts, HdOk n q.1 ∧ DOk n q.2
  few : P.pts.length ≤ 16
structure PgEx (h : Hp) (pb jb db : Nat) (S S0 : Nat → Prop) (n : Nat) (D : Dk) (P : Pg) (mb : Nat) (pa : Option Addr) (pc : Nat) (Q : List Pt) : Prop where
  blk : Blk h pb 87 (pgC jb P.good P.now mb pa Q.length pc)
  j : JAt h jb db S0 n D
  d : DAt h mb P.d
  own : OwnR ptC 134 h 139 pa pc Q
  ds : ∀ q ∈ Q, DAt h q.m q.d
  pts : Q.map (fun q => (q.h, q.d)) = P.pts
  n1 : ¬ S0 pb
  n2 : ¬ S0 mb
  n3 : ∀ q ∈ Q, ¬ S0 q.m
  n4 : ∀ c, blkOf pa c → ¬ S0 c ∧ c ≠ pb
  n5 : (mb :: Q.map (·.m)).Nodup
  s : ∀ c, S c ↔ (c = pb ∨ c = mb ∨ S0 c ∨ blkOf pa c ∨ ∃ q ∈ Q, q.m = c)
structure PgAt (h : Hp) (pb jb db : Nat) (S : Nat → Prop) (n : Nat) (D : Dk) (P : Pg) : Prop where
  ex : ∃ S0 mb pa pc Q, PgEx h pb jb db S S0 n D P mb pa pc Q
  ok : POk n P
  up : D.down = false
variable {h : Hp} {pb jb db n : Nat} {S : Nat → Prop} {D : Dk} {P : Pg} {K : Value → Hp → Prop}
theorem PgEx.out {S' S0 : Nat → Prop} {h' : Hp} {mb : Nat} {pa : Option Addr} {pc : Nat} {Q : List Pt} (E : PgEx h pb jb db S S0 n D P mb pa pc Q) (s : Keep S' h h') (hn : ∀ c, S c → ¬ S' c) : PgEx h' pb jb db S S0 n D P mb pa pc Q :=
  ⟨E.blk.keep s (hn _ ((E.s _).2 (.inl rfl))), E.j.out s fun c hc => hn c ((E.s c).2 (.inr (.inr (.inl hc)))), E.d.keep s (hn _ ((E.s _).2 (.inr (.inl rfl)))), E.own.keep s fun c hc => hn c ((E.s c).2 (.inr (.inr (.inr (.inl hc))))),
    fun q hq => (E.ds q hq).keep s (hn _ ((E.s _).2 (.inr (.inr (.inr (.inr ⟨q, hq, rfl⟩)))))), E.pts, E.n1, E.n2, E.n3, E.n4, E.n5, E.s⟩
theorem PgEx.sub {S0 : Nat → Prop} {h' : Hp} {mb : Nat} {pa : Option Addr} {pc : Nat} {Q : List Pt} (E : PgEx h pb jb db S S0 n D P mb pa pc Q) (s : Sub h h') : PgEx h' pb jb db S S0 n D P mb pa pc Q := E.out (S' := fun _ => False) (s.keep _) fun _ _ h => h
theorem PgAt.out {S' : Nat → Prop} {h' : Hp} (E : PgAt h pb jb db S n D P) (s : Keep S' h h') (hn : ∀ c, S c → ¬ S' c) : PgAt h' pb jb db S n D P := by
  obtain ⟨S0, mb, pa, pc, Q, e⟩ := E.ex
  exact ⟨⟨S0, mb, pa, pc, Q, e.out s hn⟩, E.ok, E.up⟩
theorem PgAt.sub {h' : Hp} (E : PgAt h pb jb db S n D P) (s : Sub h h') : PgAt h' pb jb db S n D P := E.out (S' := fun _ => False) (s.keep _) fun _ _ h => h
theorem PgEx.in_heap {S0 : Nat → Prop} {mb : Nat} {pa : Option Addr} {pc : Nat} {Q : List Pt} (E : PgEx h pb jb db S S0 n D P mb pa pc Q) {c : Nat} (hc : S c) : h c ≠ none := by
  rcases (E.s c).1 hc with rfl | rfl | hc | hc | ⟨q, hq, rfl⟩
  · intro e; have := E.blk; unfold Blk at this; rw [this] at e; cases e
  · obtain ⟨o, h1, _⟩ := E.d; rw [h1]; simp
  · exact E.j.in_heap hc
  · exact Own.in_heap E.own hc
  · obtain ⟨o, h1, _⟩ := E.ds q hq; rw [h1]; simp
theorem PgAt.in_heap (E : PgAt h pb jb db S n D P) {c : Nat} (hc : S c) : h c ≠ none := by
  obtain ⟨S0, mb, pa, pc, Q, e⟩ := E.ex
  exact e.in_heap hc
theorem PgAt.n2 (E : PgAt h pb jb db S n D P) : n ≤ 128 := by
  obtain ⟨S0, mb, pa, pc, Q, e⟩ := E.ex
  exact e.j.n2
theorem pages_spec (E : PgAt h pb jb db S n D P) (hK : K (.int .i64 (n : Nat)) h) : CallsH Tryz.prog pager_Pager_Pages.id #[.pointer (some ⟨pb, 0, none⟩)] h K := by
  obtain ⟨S0, mb, pa, pc, Q, e⟩ := E.ex
  apply pager_Pager_Pages.calls
  unfold pager_Pager_Pages.W
  exact ⟨_, e.blk.cell' 0 pgC_0, jpages_spec e.j ⟨_, rfl, hK⟩⟩
theorem root_spec (E : PgAt h pb jb db S n D P) {k : Nat} (hk : k < 4) (hK : K (.int .i64 (P.now.r k : Nat)) h) : CallsH Tryz.prog pager_Pager_Root.id #[.pointer (some ⟨pb, 0, none⟩), .int .i64 (k : Nat)] h K := by
  obtain ⟨S0, mb, pa, pc, Q, e⟩ := E.ex
  apply pager_Pager_Root.calls
  unfold pager_Pager_Root.W
  refine ⟨fun x => x = h, ?_, split_dec (fun e => by omega) fun _ => split_dec (fun e => by omega) fun _ => rfl⟩
  rintro x rfl
  exact ⟨by omega, by omega, _, by rw [Int.toNat_natCast, Nat.mul_one, Nat.zero_add]; exact e.blk.cell' _ (pgC_root hk), hK⟩
def Pg.used (P : Pg) (n : Nat) (i : Int) : Bool := decide (0 ≤ i) && (decide (i < n) && P.now.u i.toNat)
theorem used_spec (E : PgAt h pb jb db S n D P) (i : Int) (hK : K (.bool (P.used n i)) h) : CallsH Tryz.prog pager_Pager_Used.id #[.pointer (some ⟨pb, 0, none⟩), .int .i64 i] h K := by
  have hn := E.n2
  apply pager_Pager_Used.calls
  unfold pager_Pager_Used.W
  unfold Pg.used at hK
  refine split_dec (fun e1 => pages_spec E ⟨_, rfl, split_dec (fun e2 => ?_) fun e2 => ?_⟩) fun e1 => ?_
  · obtain ⟨S0, mb, pa, pc, Q, e⟩ := E.ex
    obtain ⟨k, rfl⟩ : ∃ k : Nat, i = (k : Int) := ⟨i.toNat, by omega⟩
    refine ⟨by omega, by omega, P.now.u k, by rw [Int.toNat_natCast, Nat.mul_one, Nat.zero_add]; exact e.blk.cell' _ (pgC_used (by omega)), ?_⟩
    rw [decide_eq_true (show 0 ≤ (k : Int) by omega), decide_eq_true e2, Int.toNat_natCast] at hK
    exact hK
  · rw [decide_eq_false e2, Bool.false_and, Bool.and_false] at hK; exact hK
  · rw [decide_eq_false (show ¬ 0 ≤ i by omega), Bool.false_and] at hK; exact hK
def Pg.why (P : Pg) (n : Nat) (i : Int) : Int := if i < 1 ∨ i ≥ (n : Int) then 9 else if P.now.u i.toNat then 0 else 6
theorem puse_spec (E : PgAt h pb jb db S n D P) (i : Int) (hK : K (.int .i64 (P.why n i)) h) : CallsH Tryz.prog pager_Pager_use.id #[.pointer (some ⟨pb, 0, none⟩), .int .i64 i] h K := by
  have hn := E.n2
  apply pager_Pager_use.calls
  unfold pager_Pager_use.W
  unfold Pg.why at hK
  refine split_dec (fun e1 => ?_) fun e1 => pages_spec E ⟨_, rfl, split_dec (fun e2 => ?_) fun e2 => ?_⟩
  · rw [if_pos (.inl e1)] at hK; exact hK
  · rw [if_pos (.inr e2)] at hK; exact hK
  · rw [if_neg (by omega)] at hK
    obtain ⟨S0, mb, pa, pc, Q, e⟩ := E.ex
    obtain ⟨k, rfl⟩ : ∃ k : Nat, i = (k : Int) := ⟨i.toNat, by omega⟩
    rw [Int.toNat_natCast] at hK
    refine ⟨by omega, by omega, P.now.u k, by rw [Int.toNat_natCast, Nat.mul_one, Nat.zero_add]; exact e.blk.cell' _ (pgC_used (by omega)), split_not (fun eu => ?_) fun eu => ?_⟩
    · rw [eu] at hK; exact hK
    · rw [eu] at hK; exact hK
theorem why_ok {i : Int} (h : P.why n i = 0) : ∃ k : Nat, i = (k : Int) ∧ 1 ≤ k ∧ k < n ∧ P.now.u k = true := by
  unfold Pg.why at h
  by_cases e : i < 1 ∨ i ≥ (n : Int)
  · rw [if_pos e] at h; cases h
  · rw [if_neg e] at h
    cases eu : P.now.u i.toNat with
    | false => rw [eu] at h; cases h
    | true => exact ⟨i.toNat, by omega, by omega, by omega, eu⟩
def Pg.page (P : Pg) (D : Dk) (n i : Nat) : ByteArray := (dget P.d i).getD (D.own n i)
theorem pgread_bad (E : PgAt h pb jb db S n D P) (i : Int) (hw : P.why n i ≠ 0) (hK : K (.tuple #[.string (bytesL []), .int .i64 (P.why n i)]) h) : CallsH Tryz.prog pager_Pager_Read.id #[.pointer (some ⟨pb, 0, none⟩), .int .i64 i] h K := by
  apply pager_Pager_Read.calls
  unfold pager_Pager_Read.W
  exact puse_spec E i ⟨_, rfl, split_ne (fun _ => hK) fun e => absurd e hw⟩
theorem pgread_spec (E : PgAt h pb jb db S n D P) {i : Nat} (hw : P.why n (i : Nat) = 0) (hK : ∀ h', Sub h h' → K (.tuple #[.string (P.page D n i), .int .i64 0]) h') : CallsH Tryz.prog pager_Pager_Read.id #[.pointer (some ⟨pb, 0, none⟩), .int .i64 (i : Nat)] h K := by
  apply pager_Pager_Read.calls
  unfold pager_Pager_Read.W
  refine puse_spec E i ⟨_, rfl, split_ne (fun e => absurd hw e) fun _ => ?_⟩
  obtain ⟨S0, mb, pa, pc, Q, e⟩ := E.ex
  obtain ⟨o, ho, hm⟩ := e.d
  obtain ⟨k, ek, h1, h2, h3⟩ := why_ok hw
  have : i = k := by omega
  subst this
  unfold Pg.page at hK
  have hg := mapD_get P.d i
  refine ⟨_, by rw [Nat.zero_add]; exact e.blk.cell' _ pgC_map, mb, o, _, rfl, ho, hm, ?_⟩
  cases hd : dget P.d i with
  | some s =>
    rw [hd] at hg hK
    exact ⟨s, true, .inl ⟨rfl, hg⟩, hK h (Sub.refl h)⟩
  | none =>
    rw [hd] at hg hK
    exact ⟨bytesL [], false, .inr ⟨rfl, hg, rfl⟩, _, e.blk.cell' 0 pgC_0, jread_spec e.j h2 E.up fun h' s => ⟨_, _, rfl, hK h' s⟩⟩
theorem callsK {P : Program} {f : FuncId} {args : Array Value} {h : Hp} {K : Value → Hp → Prop} (X : ∀ K' : Value → Hp → Prop, (∀ v h, K v h → K' v h) → CallsH P f args h K') : CallsH P f args h K := X K fun _ _ x => x
def zeroHd : Hd := ⟨0, fun _ => 0, fun i => i == 0⟩
def headOf (b : ByteArray) : Hd := ⟨dser b 8, droot b, dbit b⟩
theorem page_size {S0 : Nat → Prop} (J : JAt h jb db S0 n D) {i : Nat} (hi : i < n) : (D.own n i).size = 1024 := by
  obtain ⟨S1, h1, h2, h3, h4⟩ := J.ex
  have := J.len
  unfold Dk.own Dk.page
  rw [← size_len]
  exact look_len h2 4 (by omega)
theorem zeroOk {n : Nat} (h1 : 1 ≤ n) : HdOk n zeroHd :=
  ⟨fun i _ h => by have : i = 0 := by simpa [zeroHd] using h
                   omega, fun k _ => ⟨by show 0 < 128; decide, fun h => absurd rfl h⟩, rfl, by show 0 ≤ _; decide⟩
theorem headOk {b : ByteArray} {n : Nat} (H : OkHead b n) : HdOk n (headOf b) := ⟨H.below, H.roots, H.zero, H.ser⟩
theorem popen_spec {S0 : Nat → Prop} (J : JAt h jb db S0 n D) (hd : D.down = false) (hn : 2 ≤ n)
    (hB : D.own n 0 ≠ zeroB 1024 → ¬ OkHead (D.own n 0) n → ∀ h', Sub h h' → K (.tuple #[.pointer none, .int .i64 4]) h')
    (hG : ∀ H : Hd, (D.own n 0 = zeroB 1024 ∧ H = zeroHd) ∨ (D.own n 0 ≠ zeroB 1024 ∧ OkHead (D.own n 0) n ∧ H = headOf (D.own n 0)) → ∀ h' pb S, h pb = none → Step S0 h S h' → PgAt h' pb jb db S n D ⟨H, H, [], []⟩ → K (.tuple #[.pointer (some ⟨pb, 0, none⟩), .int .i64 0]) h') :
    CallsH Tryz.prog pager_Open.id #[.pointer (some ⟨jb, 0, none⟩)] h K := by
  have hn2 := J.n2
  apply pager_Open.calls
  unfold pager_Open.W
  refine jpages_spec J ⟨_, rfl, split_dec (fun e => by have e : (n : Int) < 2 := e; omega) fun _ => ?_⟩
  refine jread_spec (i := 0) J (by omega) hd fun h5 s5 => ⟨_, _, rfl, split_ne (fun e => absurd rfl e) fun _ => ?_⟩
  have J5 := J.sub s5
  refine jpages_spec J5 ⟨_, rfl, callsK fun K' hK' => ?_⟩
  have hsz := page_size J5 (i := 0) (by omega)
  have good : ∀ H : Hd, HdOk n H → (D.own n 0 = zeroB 1024 ∧ H = zeroHd) ∨ (D.own n 0 ≠ zeroB 1024 ∧ OkHead (D.own n 0) n ∧ H = headOf (D.own n 0)) → ∀ h12, Sub h5 h12 → K' (.tuple #[.agg H.c.toArray, .bool true]) h12 := fun H ok hH h12 s12 => hK' _ _ ⟨H.c, H.len, true, rfl, fun k15 hk15 => by
    have B := Blk.new h12 k15 83 (headC 0 (fun _ => 0) fun _ => false)
    rw [← z114] at B
    have s15 : Sub h12 ((h12.upd k15 (.cells (zeroL Tryz.prog 83).toArray 83 (0, 0)))) := Sub.upd hk15 _
    have l0 : (zeroL Tryz.prog 83).length = 133 := by rw [z114]; exact headC_len _ _ _
    have B2 := B.put 0 H.c
    rw [setL_all (by rw [H.len, l0])] at B2
    have s16 : Sub h ((h12.upd k15 (.cells (zeroL Tryz.prog 83).toArray 83 (0, 0))).put k15 0 H.c) := (Keep.put (fun c => c = k15) _ _ _ rfl).sub (s5.trans (s12.trans s15)) fun c e => by rw [e]; exact s5.none (s12.none hk15)
    refine ⟨H.len, H.plain, B.store (by rw [H.len, l0]; decide), split_not (fun e => by cases e) fun _ => ⟨H.c, H.len, B2.cellsAt fun i hi => by rw [Nat.zero_add], H.c, H.len, B2.cellsAt fun i hi => by rw [Nat.zero_add], ?_⟩⟩
    intro k18 hk18 o19 m19
    refine ⟨rfl, H.len, H.len, rfl, fun k20 hk20 => ?_⟩
    generalize (h12.upd k15 (.cells (zeroL Tryz.prog 83).toArray 83 (0, 0))).put k15 0 H.c = x at s16 hk18 hk20 ⊢
    have hne : k20 ≠ k18 := fun e => by rw [e, Hp.upd_same] at hk20; cases hk20
    have hk20x : x k20 = none := by rw [Hp.upd_ne _ _ hne] at hk20; exact hk20
    have J2 := J.sub s16
    have s18 : Sub x (x.upd k18 o19) := Sub.upd hk18 _
    have s20 : Sub (x.upd k18 o19) ((x.upd k18 o19).upd k20 (.cells (setL (setL (setL (setL (zeroL Tryz.prog 87) 0 [.pointer (some ⟨jb, 0, none⟩)]) 1 H.c) 134 H.c) 267 [.map (some k18)]).toArray 87 (0, 0))) := Sub.upd hk20 _
    have hs : Sub h ((x.upd k18 o19).upd k20 (.cells (setL (setL (setL (setL (zeroL Tryz.prog 87) 0 [.pointer (some ⟨jb, 0, none⟩)]) 1 H.c) 134 H.c) 267 [.map (some k18)]).toArray 87 (0, 0))) := s16.trans (s18.trans s20)
    refine hG H hH _ k20 (fun c => c = k20 ∨ c = k18 ∨ S0 c) (s16.none hk20x) ⟨hs.keep _, ?_⟩ ⟨⟨S0, k18, none, 0, [], ?_⟩, ⟨ok, ok, DOk.nil n, (fun q hq => by cases hq), Nat.zero_le _⟩, hd⟩
    · rintro c (rfl | rfl | hc)
      · exact .inr (s16.none hk20x)
      · exact .inr (s16.none hk18)
      · exact .inl hc
    · refine ⟨?_, J.sub hs, ⟨o19, s20 _ _ (Hp.upd_same _ _ _), m19⟩, OwnR.nil _ _, (fun q hq => by cases hq), rfl, fun hc => J2.in_heap hc hk20x, fun hc => J2.in_heap hc hk18, (fun q hq => by cases hq), (fun c hc => by obtain ⟨o, s, e⟩ := hc; cases e), by simp, fun c => ⟨?_, ?_⟩⟩
      · have := Blk.new (x.upd k18 o19) k20 87 (setL (setL (setL (setL (zeroL Tryz.prog 87) 0 [.pointer (some ⟨jb, 0, none⟩)]) 1 H.c) 134 H.c) 267 [.map (some k18)])
        rw [newC] at this ⊢
        exact this
      · rintro (h' | h' | h')
        · exact .inl h'
        · exact .inr (.inl h')
        · exact .inr (.inr (.inl h'))
      · rintro (h' | h' | h' | ⟨o, s, e⟩ | ⟨q, hq, _⟩)
        · exact .inl h'
        · exact .inr (.inl h')
        · exact .inr (.inr h')
        · cases e
        · cases hq⟩
  refine pread_spec hsz (by omega) hn2 (fun e h12 s12 => good zeroHd (zeroOk (by omega)) (.inl ⟨e, rfl⟩) h12 s12) (fun e ok h12 s12 => good (headOf (D.own n 0)) (headOk ok) (.inr ⟨e, ok, rfl⟩) h12 s12) fun e no h12 xs hl hp s12 => ?_
  refine hK' _ _ ⟨xs, hl, false, rfl, fun k15 hk15 => ?_⟩
  have B := Blk.new h12 k15 83 (zeroL Tryz.prog 83)
  have l0 : (zeroL Tryz.prog 83).length = 133 := by rw [z114]; exact headC_len _ _ _
  refine ⟨hl, hp, B.store (by rw [hl, l0]; decide), split_not (fun _ => hB e no _ ?_) fun e => by cases e⟩
  exact (Keep.put (fun c => c = k15) _ _ _ rfl).sub (s5.trans (s12.trans (Sub.upd hk15 _))) fun c e => by rw [e]; exact s5.none (s12.none hk15)
end Go.Proofs.YthbogjbcecmopaaGreatDoor
namespace Go.Proofs.YthbogjbcecmopaaGreatDoor
open Go.Gx
set_option maxRecDepth 100000
set_option linter.unusedVariables false

variable {h : Hp} {pb jb db n : Nat} {S : Nat → Prop} {D : Dk} {P : Pg} {K : Value → Hp → Prop}
theorem PgEx.put {S0 : Nat → Prop} {mb : Nat} {pa : Option Addr} {pc : Nat} {Q : List Pt} (E : PgEx h pb jb db S S0 n D P mb pa pc Q) {h' : Hp} {now' : Hd} {d' : List Ch} (kp : Keep (fun c => c = pb ∨ c = mb) h h')
    (B : Blk h' pb 87 (pgC jb P.good now' mb pa Q.length pc)) (Dm : DAt h' mb d') : PgEx h' pb jb db S S0 n D { P with now := now', d := d' } mb pa pc Q ∧ Step S h S h' := by
  refine ⟨⟨B, E.j.out kp ?_, Dm, E.own.keep kp ?_, fun q hq => (E.ds q hq).keep kp ?_, E.pts, E.n1, E.n2, E.n3, E.n4, E.n5, E.s⟩, kp.mono ?_, fun c hc => .inl hc⟩
  · rintro c hc (rfl | rfl)
    · exact E.n1 hc
    · exact E.n2 hc
  · rintro c hc (rfl | rfl)
    · exact (E.n4 c hc).2 rfl
    · exact E.d.ne_own E.own hc rfl
  · rintro (e | e)
    · exact (E.ds q hq).ne E.blk e
    · have := E.n5
      rw [List.nodup_cons] at this
      exact this.1 (e ▸ List.mem_map.2 ⟨q, hq, rfl⟩)
  · rintro c (rfl | rfl)
    · exact (E.s _).2 (.inl rfl)
    · exact (E.s _).2 (.inr (.inl rfl))
def Pg.alloc (P : Pg) (i : Nat) : Pg := { P with now := { P.now with u := upU P.now.u i true }, d := dset P.d i (zeroB 1024) }
def Pg.give (P : Pg) (i : Nat) : Pg := { P with now := { P.now with u := upU P.now.u i false }, d := ddel P.d i }
theorem upU_same (u : Nat → Bool) (i : Nat) (v : Bool) : upU u i v i = v := if_pos rfl
theorem upU_ne (u : Nat → Bool) {i j : Nat} (v : Bool) (h : j ≠ i) : upU u i v j = u j := if_neg h
theorem HdOk.use {n : Nat} {H : Hd} (O : HdOk n H) {i : Nat} (hi : i < n) : HdOk n { H with u := upU H.u i true } := by
  refine ⟨fun j hj hu => ?_, fun k hk => ⟨(O.roots k hk).1, fun h0 => ?_⟩, ?_, O.ser⟩
  · by_cases e : j = i
    · omega
    · have hu : upU H.u i true j = true := hu
      rw [upU_ne _ _ e] at hu; exact O.below j hj hu
  · show upU H.u i true (H.r k) = true
    by_cases e : H.r k = i
    · rw [e, upU_same]
    · rw [upU_ne _ _ e]; exact (O.roots k hk).2 h0
  · show upU H.u i true 0 = true
    by_cases e : 0 = i
    · rw [← e, upU_same]
    · rw [upU_ne _ _ e]; exact O.zero
theorem HdOk.free {n : Nat} {H : Hd} (O : HdOk n H) {i : Nat} (hi : 1 ≤ i) (hr : ∀ k, k < 4 → H.r k ≠ i) : HdOk n { H with u := upU H.u i false } := by
  refine ⟨fun j hj hu => ?_, fun k hk => ⟨(O.roots k hk).1, fun h0 => ?_⟩, ?_, O.ser⟩
  · have hu : upU H.u i false j = true := hu
    by_cases e : j = i
    · rw [e, upU_same] at hu; cases hu
    · rw [upU_ne _ _ e] at hu; exact O.below j hj hu
  · show upU H.u i false (H.r k) = true
    rw [upU_ne _ _ (hr k hk)]; exact (O.roots k hk).2 h0
  · show upU H.u i false 0 = true
    rw [upU_ne _ _ (by omega)]; exact O.zero
theorem POk.put {P : Pg} (O : POk n P) {now' : Hd} {d' : List Ch} (h1 : HdOk n now') (h2 : DOk n d') : POk n { P with now := now', d := d' } := ⟨O.good, h1, h2, O.pts, O.few⟩
theorem alloc_spec (E : PgAt h pb jb db S n D P) (hF : (∀ j, 1 ≤ j → j < n → P.now.u j = true) → K (.tuple #[.int .i64 0, .int .i64 5]) h)
    (hG : ∀ i, 1 ≤ i → i < n → P.now.u i = false → (∀ j, 1 ≤ j → j < i → P.now.u j = true) → ∀ h', PgAt h' pb jb db S n D (P.alloc i) → Step S h S h' → K (.tuple #[.int .i64 (i : Nat), .int .i64 0]) h') :
    CallsH Tryz.prog pager_Pager_Alloc.id #[.pointer (some ⟨pb, 0, none⟩)] h K := by
  have hn := E.n2
  apply pager_Pager_Alloc.calls
  unfold pager_Pager_Alloc.W
  refine ⟨fun i x m => ∃ j : Nat, i = (j : Int) ∧ 1 ≤ j ∧ (j ≤ n ∨ j = 1) ∧ m = n + 1 - j ∧ x = h ∧ ∀ k, 1 ≤ k → k < j → P.now.u k = true, ⟨_, 1, rfl, Nat.le_refl _, .inr rfl, rfl, rfl, fun k h1 h2 => by omega⟩, ?_⟩
  rintro i x m ⟨j, rfl, hj1, hj2, rfl, rfl, hall⟩
  refine pages_spec E ⟨_, rfl, split_dec (fun g => ?_) fun g => ?_⟩
  · have g : j < n := by have : (j : Int) < (n : Int) := g; omega
    obtain ⟨S0, mb, pa, pc, Q, e⟩ := E.ex
    have idx : 0 + 134 + 5 + (j : Int).toNat * 1 = 134 + 5 + j := by rw [Int.toNat_natCast]; omega
    rw [idx]
    refine ⟨by omega, by omega, _, e.blk.cell' _ (pgC_used (by omega)), split_not (fun eu => ?_) fun eu => ⟨n + 1 - (j + 1), by omega, j + 1, by rw [wid (by omega) (by omega)]; omega, by omega, by omega, rfl, rfl, fun k h1 h2 => ?_⟩⟩
    · have B2 := e.blk.put (134 + 5 + j) [.bool true]
      rw [pgC_setU _ _ (by omega)] at B2
      have k2 : Keep (fun c => c = pb ∨ c = mb) x (x.put pb (134 + 5 + j) [.bool true]) := Keep.put _ x _ _ (.inl rfl)
      refine ⟨by omega, by omega, e.blk.store (by rw [pgC_len]; show 134 + 5 + j + 1 ≤ 269; omega), _, by rw [Nat.zero_add]; exact B2.cell' _ pgC_map, by decide, by decide, by decide, by decide, fun k11 hk11 => ?_⟩
      have s11 : Sub (x.put pb (134 + 5 + j) [.bool true]) ((x.put pb (134 + 5 + j) [.bool true]).upd k11 (.cells (repV 1024 [.int .u8 0]).toArray 5 (0, 0))) := Sub.upd hk11 _
      obtain ⟨o, ho, hm⟩ := e.d
      have hmpb : mb ≠ pb := e.d.ne e.blk
      have ho2 : (x.put pb (134 + 5 + j) [.bool true]) mb = some o := by rw [put_ne _ _ _ hmpb]; exact ho
      refine ⟨s11, zeroB 1024, zero_slice (Hp.upd_same _ _ _), s11, mb, o, mapD P.d, rfl, s11 _ _ ho2, hm, fun o' hm' => ?_⟩
      rw [mapD_set] at hm'
      have kp : Keep (fun c => c = pb ∨ c = mb) x (((x.put pb (134 + 5 + j) [.bool true]).upd k11 (.cells (repV 1024 [.int .u8 0]).toArray 5 (0, 0))).upd mb o') := (k2.trans (s11.keep _)).trans (Keep.upd o' (.inl (.inr rfl)))
      obtain ⟨e', st⟩ := e.put (now' := { P.now with u := upU P.now.u j true }) (d' := dset P.d j (zeroB 1024)) kp (by
        have := B2.sub s11
        unfold Blk at this ⊢
        rw [Hp.upd_ne _ _ (Ne.symm hmpb)]; exact this) ⟨o', Hp.upd_same _ _ _, hm'⟩
      exact hG j hj1 g eu hall _ ⟨⟨S0, mb, pa, pc, Q, e'⟩, E.ok.put (E.ok.now.use g) (E.ok.d.set hj1 g (zeroB_size _)), E.up⟩ st
    · by_cases ek : k = j
      · rw [ek]; exact eu
      · exact hall k h1 (by omega)
  · have g : ¬ j < n := by have : ¬ (j : Int) < (n : Int) := g; omega
    exact hF fun k h1 h2 => hall k h1 (by omega)
theorem contains_spec {a : Option Addr} {r : Nat → Nat} (hr : SliceAt h a 4 (rootV r)) (v : Nat) (hK : ∀ b : Bool, (b = true → ∃ k, k < 4 ∧ r k = v) → (b = false → ∀ k, k < 4 → r k ≠ v) → K (.bool b) h) :
    CallsH Tryz.prog slices_Contains_int_int_.id #[.slice a 4 4, .int .i64 (v : Nat)] h K := by
  apply slices_Contains_int_int_.calls
  unfold slices_Contains_int_int_.W
  apply slices_Index_int_int_.calls
  unfold slices_Index_int_int_.W
  refine ⟨fun i x m => ∃ j : Nat, i = (j : Int) ∧ j ≤ 4 ∧ m = 4 - j ∧ x = h ∧ ∀ k, k < j → r k ≠ v, ⟨_, 0, rfl, by decide, rfl, rfl, fun k hk => absurd hk (Nat.not_lt_zero _)⟩, ?_⟩
  rintro i x m ⟨j, rfl, hj, rfl, rfl, hall⟩
  refine split_dec (fun g => ?_) fun g => ?_
  · have g : j < 4 := by have : (j : Int) < 4 := g; omega
    obtain ⟨b, o, ea, w, hw, hc⟩ := hr.cell (i := j) g
    rw [rootV_get g] at hw
    cases hw
    refine ⟨by omega, by show (j : Int) < 4; omega, b, o, ea, _, by rw [Int.toNat_natCast, Nat.mul_one]; exact hc, split_eq (fun e => ?_) fun e => ⟨4 - (j + 1), by omega, j + 1, by rw [wid (by omega) (by omega)]; omega, by omega, rfl, rfl, fun k hk => ?_⟩⟩
    · refine ⟨_, rfl, ?_⟩
      rw [hb_eq, decide_eq_true (by omega)]
      exact hK true (fun _ => ⟨j, g, by omega⟩) fun h => by cases h
    · by_cases ek : k = j
      · rw [ek]; omega
      · exact hall k (by omega)
  · have : j = 4 := by
      have : ¬ (j : Int) < 4 := g
      omega
    subst this
    refine ⟨_, rfl, ?_⟩
    rw [hb_eq, decide_eq_false (by decide)]
    exact hK false (fun h => by cases h) fun _ => hall
theorem give_spec (E : PgAt h pb jb db S n D P) (i : Int) (hF : P.why n i ≠ 0 → K (.int .i64 (P.why n i)) h) (hR : ∀ k : Nat, i = (k : Int) → P.why n i = 0 → (∃ t, t < 4 ∧ P.now.r t = k) → K (.int .i64 8) h)
    (hG : ∀ k : Nat, i = (k : Int) → P.why n i = 0 → (∀ t, t < 4 → P.now.r t ≠ k) → ∀ h', PgAt h' pb jb db S n D (P.give k) → Step S h S h' → K (.int .i64 0) h') :
    CallsH Tryz.prog pager_Pager_Give.id #[.pointer (some ⟨pb, 0, none⟩), .int .i64 i] h K := by
  have hn := E.n2
  apply pager_Pager_Give.calls
  unfold pager_Pager_Give.W
  refine puse_spec E i ⟨_, rfl, split_ne (fun e => hF e) fun e0 => ?_⟩
  have e0 : P.why n i = 0 := e0
  obtain ⟨j, rfl, h1, h2, h3⟩ := why_ok e0
  obtain ⟨S0, mb, pa, pc, Q, e⟩ := E.ex
  refine ⟨pb, 135, rfl, ?_⟩
  have hr : SliceAt h (some ⟨pb, 135, none⟩) 4 (rootV P.now.r) := ⟨rootV_len _, .inr ⟨pb, 135, rfl, e.blk.cellsAt fun t ht => by
    rw [rootV_len] at ht
    rw [show 135 + t = 134 + 1 + t by omega, pgC_root ht, rootV_get ht]⟩⟩
  refine contains_spec (a := some ⟨pb, 135, none⟩) hr j fun b ht hf => ⟨b, rfl, split_cond (fun eb => hR j rfl e0 (ht eb)) fun eb => ?_⟩
  have idx : 0 + 134 + 5 + (j : Int).toNat * 1 = 134 + 5 + j := by rw [Int.toNat_natCast]; omega
  rw [idx]
  have B2 := e.blk.put (134 + 5 + j) [.bool false]
  rw [pgC_setU _ _ (by omega)] at B2
  obtain ⟨o, ho, hm⟩ := e.d
  have hmpb : mb ≠ pb := e.d.ne e.blk
  have ho2 : (h.put pb (134 + 5 + j) [.bool false]) mb = some o := by rw [put_ne _ _ _ hmpb]; exact ho
  refine ⟨by omega, by omega, e.blk.store (by rw [pgC_len]; show 134 + 5 + j + 1 ≤ 269; omega), _, by rw [Nat.zero_add]; exact B2.cell' _ pgC_map, mb, o, mapD P.d, rfl, ho2, hm, fun o' hm' => ?_⟩
  rw [mapD_del] at hm'
  have kp : Keep (fun c => c = pb ∨ c = mb) h ((h.put pb (134 + 5 + j) [.bool false]).upd mb o') := (Keep.put _ h _ _ (.inl rfl)).trans (Keep.upd o' (.inl (.inr rfl)))
  obtain ⟨e', st⟩ := e.put (now' := { P.now with u := upU P.now.u j false }) (d' := ddel P.d j) kp (by
    unfold Blk at B2 ⊢
    rw [Hp.upd_ne _ _ (Ne.symm hmpb)]; exact B2) ⟨o', Hp.upd_same _ _ _, hm'⟩
  exact hG j rfl e0 (hf eb) _ ⟨⟨S0, mb, pa, pc, Q, e'⟩, E.ok.put (E.ok.now.free h1 (hf eb)) (E.ok.d.del j), E.up⟩ st
theorem new_own (m n i : Nat) (h : 1 + 4 * (n + i) + 4 ≤ m) : (Dk.new m).own n i = zeroB 1024 := by
  unfold Dk.own
  rw [page_L rfl]
  unfold pageL secs
  have g : ∀ k, k < 4 → (Dk.new m).l.getD (1 + 4 * (n + i) + k) (bytesL []) = zeroB 256 := fun k hk => getD_of (by
    show (List.replicate m (zeroB 256))[1 + 4 * (n + i) + k]? = _
    rw [List.getElem?_replicate, if_pos (by omega)])
  have g0 := g 0 (by decide)
  rw [Nat.add_zero] at g0
  rw [g0, g 1 (by decide), g 2 (by decide), g 3 (by decide)]
  rfl
theorem new_read (m : Nat) (h : 1 ≤ m) : (Dk.new m).read 0 = zeroB 256 := by
  unfold Dk.read
  exact getD_of (by show (List.replicate m (zeroB 256))[0]? = _; rw [List.getElem?_replicate, if_pos (by omega)])
def newPg : Pg := ⟨zeroHd, zeroHd, [], []⟩
theorem why_i {P : Pg} {n i : Nat} (h1 : 1 ≤ i) (h2 : i < n) (hu : P.now.u i = true) : P.why n (i : Nat) = 0 := by
  unfold Pg.why
  rw [if_neg (by omega), Int.toNat_natCast, if_pos hu]
end Go.Proofs.YthbogjbcecmopaaGreatDoor
