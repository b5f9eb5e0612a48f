/- The formulas of functions of the program, as the executor computes them, and that a call does what its formula says. Printed by a tool of ours (wip/tool). -/
import Derived.Test.YtagglohkipioiaaGreatGxSB
import Derived.Test.YtagglohkipioiaaGreatProg
import Derived.KernelRfl
namespace Go.Proofs.YtagglohkipioiaaGreat
open Go.Gx
set_option maxRecDepth 100000
set_option linter.unusedVariables false

abbrev main_main.id : FuncId := 0
abbrev gosem_cut.id : FuncId := 1
abbrev gosem_cut_init.id : FuncId := 2
abbrev law14_PagerCounts.id : FuncId := 3
abbrev law14_PagerBack.id : FuncId := 4
abbrev law14_PagerWhole.id : FuncId := 5
abbrev law14_begun.id : FuncId := 6
abbrev law14_lives.id : FuncId := 7
abbrev law14_pair_step.id : FuncId := 8
abbrev pager_Pager_Free.id : FuncId := 9
abbrev pager_Pager_Alloc.id : FuncId := 10
abbrev pager_Pager_Read.id : FuncId := 11
abbrev pager_Pager_Used.id : FuncId := 12
abbrev pager_Pager_Give.id : FuncId := 13
abbrev law14_state.id : FuncId := 14
abbrev pager_Pager_Changed.id : FuncId := 15
abbrev pager_Pager_Save.id : FuncId := 16
abbrev pager_Pager_Back.id : FuncId := 17
abbrev ref14_Same.id : FuncId := 18
abbrev ref14_SameInts.id : FuncId := 19
abbrev law14_opened.id : FuncId := 20
abbrev pager_Pager_Commit.id : FuncId := 21
abbrev disk_Disk_Fuse.id : FuncId := 22
abbrev disk_Disk_Fail.id : FuncId := 23
abbrev disk_Disk_Start.id : FuncId := 24
abbrev journal_Open.id : FuncId := 25
abbrev pager_Open.id : FuncId := 26
abbrev ref14_New.id : FuncId := 27
abbrev ref14_Alloc.id : FuncId := 28
abbrev ref14_Give.id : FuncId := 29
abbrev ref14_Write.id : FuncId := 30
abbrev law14_filled.id : FuncId := 31
abbrev pager_Pager_Write.id : FuncId := 32
abbrev ref14_Point.id : FuncId := 33
abbrev pager_Pager_Point.id : FuncId := 34
abbrev law14_pair_committed.id : FuncId := 35
abbrev pager_Pager_Abort.id : FuncId := 36
abbrev ref14_Read.id : FuncId := 37
abbrev pager_Pager_Pages.id : FuncId := 38
abbrev pager_Pager_use.id : FuncId := 39
abbrev journal_Journal_Read.id : FuncId := 40
abbrev slices_Contains_int_int_.id : FuncId := 41
abbrev pager_Pager_Serial.id : FuncId := 42
abbrev pager_Pager_Root.id : FuncId := 43
abbrev slices_Sorted_int_.id : FuncId := 44
abbrev maps_Keys_map_int_string_int_string_.id : FuncId := 45
abbrev maps_Clone_map_int_string_int_string_.id : FuncId := 46
abbrev disk_New.id : FuncId := 47
abbrev pager_head_bytes.id : FuncId := 48
abbrev journal_Journal_Commit.id : FuncId := 49
abbrev disk_Disk_use.id : FuncId := 50
abbrev disk_Disk_settle.id : FuncId := 51
abbrev disk_Disk_Fail_1.id : FuncId := 52
abbrev journal_Need.id : FuncId := 53
abbrev disk_Disk_Size.id : FuncId := 54
abbrev disk_Disk_Read.id : FuncId := 55
abbrev journal_told.id : FuncId := 56
abbrev journal_Journal_look.id : FuncId := 57
abbrev journal_Journal_lay.id : FuncId := 58
abbrev journal_Journal_own.id : FuncId := 59
abbrev journal_Journal_flushed.id : FuncId := 60
abbrev disk_Disk_Write.id : FuncId := 61
abbrev journal_Journal_Pages.id : FuncId := 62
abbrev pager_read.id : FuncId := 63
abbrev ref14_blank.id : FuncId := 64
abbrev ref14_with.id : FuncId := 65
abbrev ref14_why.id : FuncId := 66
abbrev ref14_Changed.id : FuncId := 67
abbrev slices_Index_int_int_.id : FuncId := 68
abbrev slices_Collect_int_.id : FuncId := 69
abbrev slices_Sort_int_int_.id : FuncId := 70
abbrev maps_Keys_map_int_string_int_string_1.id : FuncId := 71
abbrev maps_clone.id : FuncId := 72
abbrev journal_Journal_check.id : FuncId := 73
abbrev disk_Disk_Up.id : FuncId := 74
abbrev slices_SortedFunc_journal_Change_.id : FuncId := 75
abbrev slices_Values_journal_Change_journal_Change_.id : FuncId := 76
abbrev journal_Journal_Commit_1.id : FuncId := 77
abbrev journal_Journal_layAll.id : FuncId := 78
abbrev journal_Journal_Commit_2.id : FuncId := 79
abbrev journal_told_1.id : FuncId := 80
abbrev disk_Disk_Flush.id : FuncId := 81
abbrev slices_AppendSeq_int_int_.id : FuncId := 82
abbrev slices_pdqsortOrdered_int_.id : FuncId := 83
abbrev math_bits_Len.id : FuncId := 84
abbrev slices_Collect_journal_Change_.id : FuncId := 85
abbrev slices_SortFunc_journal_Change_journal_Change_.id : FuncId := 86
abbrev slices_Values_journal_Change_journal_Change_1.id : FuncId := 87
abbrev disk_Disk_Flush_1.id : FuncId := 88
abbrev slices_insertionSortOrdered_int_.id : FuncId := 89
abbrev slices_heapSortOrdered_int_.id : FuncId := 90
abbrev slices_breakPatternsOrdered_int_.id : FuncId := 91
abbrev slices_choosePivotOrdered_int_.id : FuncId := 92
abbrev slices_reverseRangeOrdered_int_.id : FuncId := 93
abbrev slices_partialInsertionSortOrdered_int_.id : FuncId := 94
abbrev cmp_Less_int_.id : FuncId := 95
abbrev slices_partitionEqualOrdered_int_.id : FuncId := 96
abbrev slices_partitionOrdered_int_.id : FuncId := 97
abbrev math_bits_Len32.id : FuncId := 98
abbrev math_bits_Len64.id : FuncId := 99
abbrev slices_AppendSeq_journal_Change_journal_Change_.id : FuncId := 100
abbrev slices_pdqsortCmpFunc_journal_Change_.id : FuncId := 101
abbrev slices_siftDownOrdered_int_.id : FuncId := 102
abbrev slices_nextPowerOfTwo.id : FuncId := 103
abbrev slices_xorshift_Next.id : FuncId := 104
abbrev slices_medianAdjacentOrdered_int_.id : FuncId := 105
abbrev slices_medianOrdered_int_.id : FuncId := 106
abbrev cmp_isNaN_int_.id : FuncId := 107
abbrev slices_insertionSortCmpFunc_journal_Change_.id : FuncId := 108
abbrev slices_heapSortCmpFunc_journal_Change_.id : FuncId := 109
abbrev slices_breakPatternsCmpFunc_journal_Change_.id : FuncId := 110
abbrev slices_choosePivotCmpFunc_journal_Change_.id : FuncId := 111
abbrev slices_reverseRangeCmpFunc_journal_Change_.id : FuncId := 112
abbrev slices_partialInsertionSortCmpFunc_journal_Change_.id : FuncId := 113
abbrev slices_partitionEqualCmpFunc_journal_Change_.id : FuncId := 114
abbrev slices_partitionCmpFunc_journal_Change_.id : FuncId := 115
abbrev slices_order2Ordered_int_.id : FuncId := 116
abbrev slices_siftDownCmpFunc_journal_Change_.id : FuncId := 117
abbrev slices_medianAdjacentCmpFunc_journal_Change_.id : FuncId := 118
abbrev slices_medianCmpFunc_journal_Change_.id : FuncId := 119
abbrev slices_order2CmpFunc_journal_Change_.id : FuncId := 120
abbrev runtime_boundsError_Error.id : FuncId := 121
abbrev runtime_boundsError_RuntimeError.id : FuncId := 122
abbrev runtime_errorString_Error.id : FuncId := 123
abbrev runtime_errorString_RuntimeError.id : FuncId := 124
abbrev runtime_plainError_Error.id : FuncId := 125
abbrev runtime_plainError_RuntimeError.id : FuncId := 126
abbrev runtime_errorAddressString_Error.id : FuncId := 127
abbrev runtime_errorAddressString_RuntimeError.id : FuncId := 128
abbrev runtime_TypeAssertionError_Error.id : FuncId := 129
abbrev runtime_TypeAssertionError_RuntimeError.id : FuncId := 130
abbrev runtime_PanicNilError_Error.id : FuncId := 131
abbrev runtime_PanicNilError_RuntimeError.id : FuncId := 132
abbrev internal_abi_Type_Align.id : FuncId := 133
abbrev internal_runtime_maps_unhashableTypeError_Error.id : FuncId := 134
abbrev internal_runtime_maps_unhashableTypeError_RuntimeError.id : FuncId := 135
abbrev internal_abi_Kind_String.id : FuncId := 136

/-! ### 47 disk_New -/
def disk_New.H : Hints := { N := 31, loc := (fun _ => false), join := (fun _ => none), loop := (fun i => bif Nat.beq i 6 then some [.slot 17 (.int .i64)] else none), ifc := 0, order := (fun _ => none) }
def disk_New.W (sectors : Int) (h : Hp) (Q : Value → Hp → Prop) : Prop :=
  (bif hb (decide (sectors < 1)) then (Q (Value.tuple #[Value.pointer none, Value.int IntKind.i64 1]) h) else (bif hb (decide (sectors > 2048)) then (Q (Value.tuple #[Value.pointer none, Value.int IntKind.i64 1]) h) else (∀ (k1 : Nat), (((h k1 = none)) → ((Int.ofNat 0 ≤ 256) ∧ ((Int.ofNat 256 ≤ 256) ∧ ((Int.ofNat 1 * 256 ≤ 281474976710656) ∧ ((Int.ofNat 256 ≤ 9223372036854775807) ∧ (∀ (k2 : Nat), (((h.upd k1 (Obj.cells #[Value.slice none 0 0, Value.slice none 0 0, Value.int IntKind.i64 0, Value.int IntKind.i64 0, Value.bool false] 108 (0, 0)) k2 = none)) → (∃ (s3 : ByteArray), ((SliceAt ((h.upd k1 (Obj.cells #[Value.slice none 0 0, Value.slice none 0 0, Value.int IntKind.i64 0, Value.int IntKind.i64 0, Value.bool false] 108 (0, 0))).upd k2 (Obj.cells (repV 256 [Value.int IntKind.u8 0]).toArray 5 (0, 0))) (some { block := k2, off := 0 }) (256) (bytesV s3)) ∧ (∃ (J4 : Int → Hp → Nat → Prop), ((∃ (k5 : Nat), (J4 0 ((h.upd k1 (Obj.cells #[Value.slice none 0 0, Value.slice none 0 0, Value.int IntKind.i64 0, Value.int IntKind.i64 0, Value.bool false] 108 (0, 0))).upd k2 (Obj.cells (repV 256 [Value.int IntKind.u8 0]).toArray 5 (0, 0))) k5)) ∧ (∀ (n6 : Int), (∀ (x7 : Hp), (∀ (k8 : Nat), (((J4 n6 x7 k8)) → (bif hb (decide (n6 < sectors)) then (∃ (a9 : Option Addr), (∃ (k10 : Nat), (∃ (k11 : Nat), ((x7.cell k1 0 = some (Value.slice a9 k10 k11)) ∧ (∀ (k12 : Nat), (((x7 k12 = none)) → (∃ (xs13 : List Value), ((SliceAt (x7.upd k12 (Obj.cells #[Value.string s3] 9 (0, 0))) (some { block := k12, off := 0 }) (1) (xs13)) ∧ (∃ (J14 : Option Addr → Nat → Hp → Prop), ((∀ (a15 : Option Addr), (∀ (k16 : Nat), (∀ (x17 : Hp), (((J14 a15 k16 x17)) → ((StoreOk x17 k1 0 1) ∧ (∃ (k18 : Nat), ((k18 < k8) ∧ (J4 (IntKind.i64.wrap (n6 + 1)) (x17.put k1 0 [Value.slice a15 (k10 + 1) k16]) k18)))))))) ∧ (appendC Tryz.prog 9 a9 k10 k11 (x7.upd k12 (Obj.cells #[Value.string s3] 9 (0, 0))) xs13 1 J14))))))))))) else (Q (Value.tuple #[Value.pointer (some { block := k1, off := 0 }), Value.int IntKind.i64 0]) x7))))))))))))))))))))
theorem disk_New.calls (sectors : Int) {h : Hp} {Q : Value → Hp → Prop} (hW : disk_New.W sectors h Q) : CallsH Tryz.prog 47 #[.int .i64 sectors] h Q := by
  have hE_ : bodyW Tryz.prog disk_New.H Tryz.f47 [.val (.int .i64 sectors)] h Q = disk_New.W sectors h Q := by kernel_rfl
  rw [← hE_] at hW
  exact calls_of_body (H := disk_New.H) (args := [.val (.int .i64 sectors)]) Tryz.func47 Tryz.ntmps47 rfl rfl hW

/-! ### 54 disk_Disk_Size -/
def disk_Disk_Size.H : Hints := { N := 10, loc := (fun _ => false), join := (fun _ => none), loop := (fun _ => none), ifc := 0, order := (fun _ => none) }
def disk_Disk_Size.W (d_b d_o : Nat) (h : Hp) (Q : Value → Hp → Prop) : Prop :=
  (∃ (a1 : Option Addr), (∃ (k2 : Nat), (∃ (k3 : Nat), ((h.cell d_b d_o = some (Value.slice a1 k2 k3)) ∧ (Q (Value.int IntKind.i64 (Int.ofNat k2)) h)))))
theorem disk_Disk_Size.calls (d_b d_o : Nat) {h : Hp} {Q : Value → Hp → Prop} (hW : disk_Disk_Size.W d_b d_o h Q) : CallsH Tryz.prog 54 #[.pointer (some ⟨d_b, d_o, none⟩)] h Q := by
  have hE_ : bodyW Tryz.prog disk_Disk_Size.H Tryz.f54 [.ptr d_b d_o] h Q = disk_Disk_Size.W d_b d_o h Q := by kernel_rfl
  rw [← hE_] at hW
  exact calls_of_body (H := disk_Disk_Size.H) (args := [.ptr d_b d_o]) Tryz.func54 Tryz.ntmps54 rfl rfl hW

/-! ### 50 disk_Disk_use -/
def disk_Disk_use.H : Hints := { N := 25, loc := (fun _ => false), join := (fun _ => none), loop := (fun _ => none), ifc := 0, order := (fun _ => none) }
def disk_Disk_use.W (d_b d_o : Nat) (p1 : Int) (h : Hp) (Q : Value → Hp → Prop) : Prop :=
  (∃ (b1 : Bool), ((h.cell d_b (d_o + 4) = some (Value.bool b1)) ∧ (bif b1 then (Q (Value.int IntKind.i64 10) h) else (bif hb (decide (p1 < 0)) then (Q (Value.int IntKind.i64 9) h) else (∃ (a2 : Option Addr), (∃ (k3 : Nat), (∃ (k4 : Nat), ((h.cell d_b d_o = some (Value.slice a2 k3 k4)) ∧ (bif hb (decide (p1 ≥ Int.ofNat k3)) then (Q (Value.int IntKind.i64 9) h) else (Q (Value.int IntKind.i64 0) h))))))))))
theorem disk_Disk_use.calls (d_b d_o : Nat) (p1 : Int) {h : Hp} {Q : Value → Hp → Prop} (hW : disk_Disk_use.W d_b d_o p1 h Q) : CallsH Tryz.prog 50 #[.pointer (some ⟨d_b, d_o, none⟩), .int .i64 p1] h Q := by
  have hE_ : bodyW Tryz.prog disk_Disk_use.H Tryz.f50 [.ptr d_b d_o, .val (.int .i64 p1)] h Q = disk_Disk_use.W d_b d_o p1 h Q := by kernel_rfl
  rw [← hE_] at hW
  exact calls_of_body (H := disk_Disk_use.H) (args := [.ptr d_b d_o, .val (.int .i64 p1)]) Tryz.func50 Tryz.ntmps50 rfl rfl hW

/-! ### 55 disk_Disk_Read -/
def disk_Disk_Read.H : Hints := { N := 42, loc := (fun i => Nat.beq i 9 || false), join := (fun _ => none), loop := (fun i => bif Nat.beq i 6 then some [.slot 7 (.str), .slot 28 (.int .i64)] else none), ifc := 0, order := (fun _ => none) }
def disk_Disk_Read.W (d_b d_o : Nat) (p1 : Int) (h : Hp) (Q : Value → Hp → Prop) : Prop :=
  (CallsH Tryz.prog 50 (#[Value.pointer (some { block := d_b, off := d_o }), Value.int IntKind.i64 p1]) (h) (fun (v1 : Value) (h2 : Hp) => (∃ (n3 : Int), ((v1 = Value.int IntKind.i64 n3) ∧ (bif hb (n3 != 0) then (Q (Value.tuple #[Value.string (bytesL []), Value.int IntKind.i64 n3]) h2) else (∃ (a4 : Option Addr), (∃ (k5 : Nat), (∃ (k6 : Nat), ((h2.cell d_b d_o = some (Value.slice a4 k5 k6)) ∧ ((0 ≤ p1) ∧ ((p1 < Int.ofNat k5) ∧ (∃ (k7 : Nat), (∃ (k8 : Nat), ((a4 = some { block := k7, off := k8 }) ∧ (∃ (s9 : ByteArray), ((h2.cell k7 (k8 + p1.toNat * 1) = some (Value.string s9)) ∧ (∃ (a10 : Option Addr), (∃ (k11 : Nat), (∃ (k12 : Nat), ((h2.cell d_b (d_o + 1) = some (Value.slice a10 k11 k12)) ∧ (∃ (J13 : ByteArray → Int → Hp → Nat → Prop), ((∃ (k14 : Nat), (J13 s9 0 h2 k14)) ∧ (∀ (s15 : ByteArray), (∀ (n16 : Int), (∀ (x17 : Hp), (∀ (k18 : Nat), (((J13 s15 n16 x17 k18)) → (bif hb (decide (n16 < Int.ofNat k11)) then ((0 ≤ n16) ∧ ((n16 < Int.ofNat k11) ∧ (∃ (k19 : Nat), (∃ (k20 : Nat), ((a10 = some { block := k19, off := k20 }) ∧ (∃ (n21 : Int), ((x17.cell k19 (k20 + n16.toNat * 2) = some (Value.int IntKind.i64 n21)) ∧ (∃ (s22 : ByteArray), ((x17.cell k19 (k20 + n16.toNat * 2 + 1) = some (Value.string s22)) ∧ (bif hb (n21 == p1) && (beqS s22 s22 && true) then (∃ (k23 : Nat), ((k23 < k18) ∧ (J13 s22 (IntKind.i64.wrap (n16 + 1)) x17 k23))) else (∃ (k24 : Nat), ((k24 < k18) ∧ (J13 s15 (IntKind.i64.wrap (n16 + 1)) x17 k24))))))))))))) else (Q (Value.tuple #[Value.string s15, Value.int IntKind.i64 0]) x17)))))))))))))))))))))))))))))
theorem disk_Disk_Read.calls (d_b d_o : Nat) (p1 : Int) {h : Hp} {Q : Value → Hp → Prop} (hW : disk_Disk_Read.W d_b d_o p1 h Q) : CallsH Tryz.prog 55 #[.pointer (some ⟨d_b, d_o, none⟩), .int .i64 p1] h Q := by
  have hE_ : bodyW Tryz.prog disk_Disk_Read.H Tryz.f55 [.ptr d_b d_o, .val (.int .i64 p1)] h Q = disk_Disk_Read.W d_b d_o p1 h Q := by kernel_rfl
  rw [← hE_] at hW
  exact calls_of_body (H := disk_Disk_Read.H) (args := [.ptr d_b d_o, .val (.int .i64 p1)]) Tryz.func55 Tryz.ntmps55 rfl rfl hW

/-! ### 61 disk_Disk_Write -/
def disk_Disk_Write.H : Hints := { N := 56, loc := (fun _ => false), join := (fun _ => none), loop := (fun _ => none), ifc := 0, order := (fun _ => none) }
def disk_Disk_Write.W (d_b d_o : Nat) (p1 : Int) (s : ByteArray) (h : Hp) (Q : Value → Hp → Prop) : Prop :=
  (CallsH Tryz.prog 50 (#[Value.pointer (some { block := d_b, off := d_o }), Value.int IntKind.i64 p1]) (h) (fun (v1 : Value) (h2 : Hp) => (∃ (n3 : Int), ((v1 = Value.int IntKind.i64 n3) ∧ (bif hb (n3 != 0) then (Q (Value.int IntKind.i64 n3) h2) else (bif hb (Int.ofNat s.size != 256) then (Q (Value.int IntKind.i64 1) h2) else (∃ (a4 : Option Addr), (∃ (k5 : Nat), (∃ (k6 : Nat), ((h2.cell d_b (d_o + 1) = some (Value.slice a4 k5 k6)) ∧ (∀ (k7 : Nat), (((h2 k7 = none)) → (∃ (xs8 : List Value), ((SliceAt (h2.upd k7 (Obj.cells #[Value.int IntKind.i64 p1, Value.string s] 130 (0, 0))) (some { block := k7, off := 0 }) (2) (xs8)) ∧ (∃ (J9 : Option Addr → Nat → Hp → Prop), ((∀ (a10 : Option Addr), (∀ (k11 : Nat), (∀ (x12 : Hp), (((J9 a10 k11 x12)) → ((StoreOk x12 d_b (d_o + 1) 1) ∧ (∃ (n13 : Int), (((x12.put d_b (d_o + 1) [Value.slice a10 (k5 + 1) k11]).cell d_b (d_o + 3) = some (Value.int IntKind.i64 n13)) ∧ ((StoreOk (x12.put d_b (d_o + 1) [Value.slice a10 (k5 + 1) k11]) d_b (d_o + 3) 1) ∧ (∃ (n14 : Int), ((((x12.put d_b (d_o + 1) [Value.slice a10 (k5 + 1) k11]).put d_b (d_o + 3) [Value.int IntKind.i64 (IntKind.i64.wrap (n13 + 1))]).cell d_b (d_o + 2) = some (Value.int IntKind.i64 n14)) ∧ (bif hb (decide (n14 > 0)) then (∃ (n15 : Int), ((((x12.put d_b (d_o + 1) [Value.slice a10 (k5 + 1) k11]).put d_b (d_o + 3) [Value.int IntKind.i64 (IntKind.i64.wrap (n13 + 1))]).cell d_b (d_o + 2) = some (Value.int IntKind.i64 n15)) ∧ ((StoreOk ((x12.put d_b (d_o + 1) [Value.slice a10 (k5 + 1) k11]).put d_b (d_o + 3) [Value.int IntKind.i64 (IntKind.i64.wrap (n13 + 1))]) d_b (d_o + 2) 1) ∧ (∃ (n16 : Int), (((((x12.put d_b (d_o + 1) [Value.slice a10 (k5 + 1) k11]).put d_b (d_o + 3) [Value.int IntKind.i64 (IntKind.i64.wrap (n13 + 1))]).put d_b (d_o + 2) [Value.int IntKind.i64 (IntKind.i64.wrap (n15 - 1))]).cell d_b (d_o + 2) = some (Value.int IntKind.i64 n16)) ∧ ((StoreOk (((x12.put d_b (d_o + 1) [Value.slice a10 (k5 + 1) k11]).put d_b (d_o + 3) [Value.int IntKind.i64 (IntKind.i64.wrap (n13 + 1))]).put d_b (d_o + 2) [Value.int IntKind.i64 (IntKind.i64.wrap (n15 - 1))]) d_b (d_o + 4) 1) ∧ (Q (Value.int IntKind.i64 0) ((((x12.put d_b (d_o + 1) [Value.slice a10 (k5 + 1) k11]).put d_b (d_o + 3) [Value.int IntKind.i64 (IntKind.i64.wrap (n13 + 1))]).put d_b (d_o + 2) [Value.int IntKind.i64 (IntKind.i64.wrap (n15 - 1))]).put d_b (d_o + 4) [Value.bool (hb (n16 == 0))])))))))) else (Q (Value.int IntKind.i64 0) ((x12.put d_b (d_o + 1) [Value.slice a10 (k5 + 1) k11]).put d_b (d_o + 3) [Value.int IntKind.i64 (IntKind.i64.wrap (n13 + 1))]))))))))))))) ∧ (appendC Tryz.prog 130 a4 k5 k6 (h2.upd k7 (Obj.cells #[Value.int IntKind.i64 p1, Value.string s] 130 (0, 0))) xs8 1 J9)))))))))))))))))
theorem disk_Disk_Write.calls (d_b d_o : Nat) (p1 : Int) (s : ByteArray) {h : Hp} {Q : Value → Hp → Prop} (hW : disk_Disk_Write.W d_b d_o p1 s h Q) : CallsH Tryz.prog 61 #[.pointer (some ⟨d_b, d_o, none⟩), .int .i64 p1, .string s] h Q := by
  have hE_ : bodyW Tryz.prog disk_Disk_Write.H Tryz.f61 [.ptr d_b d_o, .val (.int .i64 p1), .val (.string s)] h Q = disk_Disk_Write.W d_b d_o p1 s h Q := by kernel_rfl
  rw [← hE_] at hW
  exact calls_of_body (H := disk_Disk_Write.H) (args := [.ptr d_b d_o, .val (.int .i64 p1), .val (.string s)]) Tryz.func61 Tryz.ntmps61 rfl rfl hW

/-! ### 74 disk_Disk_Up -/
def disk_Disk_Up.H : Hints := { N := 12, loc := (fun _ => false), join := (fun _ => none), loop := (fun _ => none), ifc := 0, order := (fun _ => none) }
def disk_Disk_Up.W (d_b d_o : Nat) (h : Hp) (Q : Value → Hp → Prop) : Prop :=
  (∃ (b1 : Bool), ((h.cell d_b (d_o + 4) = some (Value.bool b1)) ∧ (Q (Value.bool !b1) h)))
theorem disk_Disk_Up.calls (d_b d_o : Nat) {h : Hp} {Q : Value → Hp → Prop} (hW : disk_Disk_Up.W d_b d_o h Q) : CallsH Tryz.prog 74 #[.pointer (some ⟨d_b, d_o, none⟩)] h Q := by
  have hE_ : bodyW Tryz.prog disk_Disk_Up.H Tryz.f74 [.ptr d_b d_o] h Q = disk_Disk_Up.W d_b d_o h Q := by kernel_rfl
  rw [← hE_] at hW
  exact calls_of_body (H := disk_Disk_Up.H) (args := [.ptr d_b d_o]) Tryz.func74 Tryz.ntmps74 rfl rfl hW

/-! ### 81 disk_Disk_Flush -/
def disk_Disk_Flush.H : Hints := { N := 11, loc := (fun _ => false), join := (fun _ => none), loop := (fun _ => none), ifc := 0, order := (fun _ => none) }
def disk_Disk_Flush.W (d_b d_o : Nat) (h : Hp) (Q : Value → Hp → Prop) : Prop :=
  (CallsH Tryz.prog 50 (#[Value.pointer (some { block := d_b, off := d_o }), Value.int IntKind.i64 0]) (h) (fun (v1 : Value) (h2 : Hp) => (∃ (n3 : Int), ((v1 = Value.int IntKind.i64 n3) ∧ (bif hb (n3 != 0) then (Q (Value.int IntKind.i64 n3) h2) else (CallsH Tryz.prog 51 (#[Value.pointer (some { block := d_b, off := d_o }), Value.func (Fn.func 88) #[] #[]]) (h2) (fun (v4 : Value) (h5 : Hp) => ((v4 = Value.tuple #[]) ∧ (Q (Value.int IntKind.i64 0) h5)))))))))
theorem disk_Disk_Flush.calls (d_b d_o : Nat) {h : Hp} {Q : Value → Hp → Prop} (hW : disk_Disk_Flush.W d_b d_o h Q) : CallsH Tryz.prog 81 #[.pointer (some ⟨d_b, d_o, none⟩)] h Q := by
  have hE_ : bodyW Tryz.prog disk_Disk_Flush.H Tryz.f81 [.ptr d_b d_o] h Q = disk_Disk_Flush.W d_b d_o h Q := by kernel_rfl
  rw [← hE_] at hW
  exact calls_of_body (H := disk_Disk_Flush.H) (args := [.ptr d_b d_o]) Tryz.func81 Tryz.ntmps81 rfl rfl hW

/-! ### 88 disk_Disk_Flush_1 -/
def disk_Disk_Flush_1.H : Hints := { N := 3, loc := (fun _ => false), join := (fun _ => none), loop := (fun _ => none), ifc := 0, order := (fun _ => none) }
def disk_Disk_Flush_1.W (p0 : Int) (h : Hp) (Q : Value → Hp → Prop) : Prop :=
  (Q (Value.bool true) h)
theorem disk_Disk_Flush_1.calls (p0 : Int) {h : Hp} {Q : Value → Hp → Prop} (hW : disk_Disk_Flush_1.W p0 h Q) : CallsH Tryz.prog 88 #[.int .i64 p0] h Q := by
  have hE_ : bodyW Tryz.prog disk_Disk_Flush_1.H Tryz.f88 [.val (.int .i64 p0)] h Q = disk_Disk_Flush_1.W p0 h Q := by kernel_rfl
  rw [← hE_] at hW
  exact calls_of_body (H := disk_Disk_Flush_1.H) (args := [.val (.int .i64 p0)]) Tryz.func88 Tryz.ntmps88 rfl rfl hW

/-! ### 51 disk_Disk_settle_1f88 -/
def disk_Disk_settle_1f88.H : Hints := { N := 32, loc := (fun i => Nat.beq i 5 || false), join := (fun _ => none), loop := (fun i => bif Nat.beq i 1 then some [.slot 11 (.int .i64)] else none), ifc := 0, order := (fun i => bif Nat.beq i 4 then some (some 9, false, [0, 1, 2, 3, 4, 5, 6, 7, 8, 9], .q 0 (.q 1 (.q 2 (.q 3 (.q 4 (.q 5 (.q 6 (.q 7 (.q 8 (.f 9 (.done) .e)))))))))) else none) }
def disk_Disk_settle_1f88.W (d_b d_o : Nat) (h : Hp) (Q : Value → Hp → Prop) : Prop :=
  (∃ (a1 : Option Addr), (∃ (k2 : Nat), (∃ (k3 : Nat), ((h.cell d_b (d_o + 1) = some (Value.slice a1 k2 k3)) ∧ (∃ (J4 : Int → Hp → Nat → Prop), ((∃ (k5 : Nat), (J4 0 h k5)) ∧ (∀ (n6 : Int), (∀ (x7 : Hp), (∀ (k8 : Nat), (((J4 n6 x7 k8)) → (bif hb (decide (n6 < Int.ofNat k2)) then ((0 ≤ n6) ∧ ((n6 < Int.ofNat k2) ∧ (∃ (k9 : Nat), (∃ (k10 : Nat), ((a1 = some { block := k9, off := k10 }) ∧ (∃ (n11 : Int), ((x7.cell k9 (k10 + n6.toNat * 2) = some (Value.int IntKind.i64 n11)) ∧ (∃ (s12 : ByteArray), ((x7.cell k9 (k10 + n6.toNat * 2 + 1) = some (Value.string s12)) ∧ (CallsH Tryz.prog 88 (#[Value.int IntKind.i64 n6]) (x7) (fun (v13 : Value) (h14 : Hp) => (∃ (b15 : Bool), ((v13 = Value.bool b15) ∧ (bif b15 then (∃ (a16 : Option Addr), (∃ (k17 : Nat), (∃ (k18 : Nat), ((h14.cell d_b d_o = some (Value.slice a16 k17 k18)) ∧ ((0 ≤ n11) ∧ ((n11 < Int.ofNat k17) ∧ (∃ (k19 : Nat), (∃ (k20 : Nat), ((a16 = some { block := k19, off := k20 }) ∧ ((StoreOk h14 k19 (k20 + n11.toNat * 1) 1) ∧ (∃ (k21 : Nat), ((k21 < k8) ∧ (J4 (IntKind.i64.wrap (n6 + 1)) (h14.put k19 (k20 + n11.toNat * 1) [Value.string s12]) k21))))))))))))) else (∃ (k22 : Nat), ((k22 < k8) ∧ (J4 (IntKind.i64.wrap (n6 + 1)) h14 k22))))))))))))))))) else ((StoreOk x7 d_b (d_o + 1) 1) ∧ (Q (Value.tuple #[]) (x7.put d_b (d_o + 1) [Value.slice none 0 0]))))))))))))))
theorem disk_Disk_settle_1f88.calls (d_b d_o : Nat) {h : Hp} {Q : Value → Hp → Prop} (hW : disk_Disk_settle_1f88.W d_b d_o h Q) : CallsH Tryz.prog 51 #[.pointer (some ⟨d_b, d_o, none⟩), .func (.func 88) #[] #[]] h Q := by
  have hE_ : bodyW Tryz.prog disk_Disk_settle_1f88.H Tryz.f51 [.ptr d_b d_o, .val (.func (.func 88) #[] #[])] h Q = disk_Disk_settle_1f88.W d_b d_o h Q := by kernel_rfl
  rw [← hE_] at hW
  exact calls_of_body (H := disk_Disk_settle_1f88.H) (args := [.ptr d_b d_o, .val (.func (.func 88) #[] #[])]) Tryz.func51 Tryz.ntmps51 rfl rfl hW

/-! ### 53 journal_Need -/
def journal_Need.H : Hints := { N := 12, loc := (fun _ => false), join := (fun _ => none), loop := (fun _ => none), ifc := 0, order := (fun _ => none) }
def journal_Need.W (pages : Int) (h : Hp) (Q : Value → Hp → Prop) : Prop :=
  (bif hb (decide (pages < 1)) then (Q (Value.int IntKind.i64 0) h) else (bif hb (decide (pages > 128)) then (Q (Value.int IntKind.i64 0) h) else (Q (Value.int IntKind.i64 (IntKind.i64.wrap (IntKind.i64.wrap (8 * pages) + 1))) h)))
theorem journal_Need.calls (pages : Int) {h : Hp} {Q : Value → Hp → Prop} (hW : journal_Need.W pages h Q) : CallsH Tryz.prog 53 #[.int .i64 pages] h Q := by
  have hE_ : bodyW Tryz.prog journal_Need.H Tryz.f53 [.val (.int .i64 pages)] h Q = journal_Need.W pages h Q := by kernel_rfl
  rw [← hE_] at hW
  exact calls_of_body (H := journal_Need.H) (args := [.val (.int .i64 pages)]) Tryz.func53 Tryz.ntmps53 rfl rfl hW

/-! ### 59 journal_Journal_own -/
def journal_Journal_own.H : Hints := { N := 13, loc := (fun _ => false), join := (fun _ => none), loop := (fun _ => none), ifc := 0, order := (fun _ => none) }
def journal_Journal_own.W (j_b j_o : Nat) (i : Int) (h : Hp) (Q : Value → Hp → Prop) : Prop :=
  (∃ (n1 : Int), ((h.cell j_b (j_o + 1) = some (Value.int IntKind.i64 n1)) ∧ (Q (Value.int IntKind.i64 (IntKind.i64.wrap (1 + IntKind.i64.wrap (4 * IntKind.i64.wrap (n1 + i))))) h)))
theorem journal_Journal_own.calls (j_b j_o : Nat) (i : Int) {h : Hp} {Q : Value → Hp → Prop} (hW : journal_Journal_own.W j_b j_o i h Q) : CallsH Tryz.prog 59 #[.pointer (some ⟨j_b, j_o, none⟩), .int .i64 i] h Q := by
  have hE_ : bodyW Tryz.prog journal_Journal_own.H Tryz.f59 [.ptr j_b j_o, .val (.int .i64 i)] h Q = journal_Journal_own.W j_b j_o i h Q := by kernel_rfl
  rw [← hE_] at hW
  exact calls_of_body (H := journal_Journal_own.H) (args := [.ptr j_b j_o, .val (.int .i64 i)]) Tryz.func59 Tryz.ntmps59 rfl rfl hW

/-! ### 62 journal_Journal_Pages -/
def journal_Journal_Pages.H : Hints := { N := 9, loc := (fun _ => false), join := (fun _ => none), loop := (fun _ => none), ifc := 0, order := (fun _ => none) }
def journal_Journal_Pages.W (j_b j_o : Nat) (h : Hp) (Q : Value → Hp → Prop) : Prop :=
  (∃ (n1 : Int), ((h.cell j_b (j_o + 1) = some (Value.int IntKind.i64 n1)) ∧ (Q (Value.int IntKind.i64 n1) h)))
theorem journal_Journal_Pages.calls (j_b j_o : Nat) {h : Hp} {Q : Value → Hp → Prop} (hW : journal_Journal_Pages.W j_b j_o h Q) : CallsH Tryz.prog 62 #[.pointer (some ⟨j_b, j_o, none⟩)] h Q := by
  have hE_ : bodyW Tryz.prog journal_Journal_Pages.H Tryz.f62 [.ptr j_b j_o] h Q = journal_Journal_Pages.W j_b j_o h Q := by kernel_rfl
  rw [← hE_] at hW
  exact calls_of_body (H := journal_Journal_Pages.H) (args := [.ptr j_b j_o]) Tryz.func62 Tryz.ntmps62 rfl rfl hW

/-! ### 40 journal_Journal_Read -/
def journal_Journal_Read.H : Hints := { N := 25, loc := (fun _ => false), join := (fun _ => none), loop := (fun _ => none), ifc := 0, order := (fun _ => none) }
def journal_Journal_Read.W (j_b j_o : Nat) (page : Int) (h : Hp) (Q : Value → Hp → Prop) : Prop :=
  (bif hb (decide (page < 0)) then (Q (Value.tuple #[Value.string (bytesL []), Value.int IntKind.i64 9]) h) else (∃ (n1 : Int), ((h.cell j_b (j_o + 1) = some (Value.int IntKind.i64 n1)) ∧ (bif hb (decide (page ≥ n1)) then (Q (Value.tuple #[Value.string (bytesL []), Value.int IntKind.i64 9]) h) else (CallsH Tryz.prog 59 (#[Value.pointer (some { block := j_b, off := j_o }), Value.int IntKind.i64 page]) (h) (fun (v2 : Value) (h3 : Hp) => (∃ (n4 : Int), ((v2 = Value.int IntKind.i64 n4) ∧ (CallsH Tryz.prog 57 (#[Value.pointer (some { block := j_b, off := j_o }), Value.int IntKind.i64 n4]) (h3) (fun (v5 : Value) (h6 : Hp) => (∃ (s7 : ByteArray), (∃ (n8 : Int), ((v5 = Value.tuple #[Value.string s7, Value.int IntKind.i64 n8]) ∧ (Q (Value.tuple #[Value.string s7, Value.int IntKind.i64 n8]) h6))))))))))))))
theorem journal_Journal_Read.calls (j_b j_o : Nat) (page : Int) {h : Hp} {Q : Value → Hp → Prop} (hW : journal_Journal_Read.W j_b j_o page h Q) : CallsH Tryz.prog 40 #[.pointer (some ⟨j_b, j_o, none⟩), .int .i64 page] h Q := by
  have hE_ : bodyW Tryz.prog journal_Journal_Read.H Tryz.f40 [.ptr j_b j_o, .val (.int .i64 page)] h Q = journal_Journal_Read.W j_b j_o page h Q := by kernel_rfl
  rw [← hE_] at hW
  exact calls_of_body (H := journal_Journal_Read.H) (args := [.ptr j_b j_o, .val (.int .i64 page)]) Tryz.func40 Tryz.ntmps40 rfl rfl hW

/-! ### 57 journal_Journal_look -/
def journal_Journal_look.H : Hints := { N := 33, loc := (fun _ => false), join := (fun _ => none), loop := (fun i => bif Nat.beq i 3 then some [.slot 6 (.slice), .slot 10 (.int .i64)] else none), ifc := 0, order := (fun _ => none) }
def journal_Journal_look.W (j_b j_o : Nat) (p1 : Int) (h : Hp) (Q : Value → Hp → Prop) : Prop :=
  (∃ (J1 : Option Addr → Nat → Nat → Int → Hp → Nat → Prop), ((∃ (k2 : Nat), (J1 none 0 0 0 h k2)) ∧ (∀ (a3 : Option Addr), (∀ (k4 : Nat), (∀ (k5 : Nat), (∀ (n6 : Int), (∀ (x7 : Hp), (∀ (k8 : Nat), (((J1 a3 k4 k5 n6 x7 k8)) → (bif hb (decide (n6 < 4)) then (∃ (a9 : Option Addr), ((x7.cell j_b j_o = some (Value.pointer a9)) ∧ (CallsH Tryz.prog 55 (#[Value.pointer a9, Value.int IntKind.i64 (IntKind.i64.wrap (p1 + n6))]) (x7) (fun (v10 : Value) (h11 : Hp) => (∃ (s12 : ByteArray), (∃ (n13 : Int), ((v10 = Value.tuple #[Value.string s12, Value.int IntKind.i64 n13]) ∧ (bif hb (n13 != 0) then (Q (Value.tuple #[Value.string (bytesL []), Value.int IntKind.i64 n13]) h11) else (∃ (J14 : Option Addr → Nat → Hp → Prop), ((∀ (a15 : Option Addr), (∀ (k16 : Nat), (∀ (x17 : Hp), (((J14 a15 k16 x17)) → (∃ (k18 : Nat), ((k18 < k8) ∧ (J1 a15 (k4 + s12.size) k16 (IntKind.i64.wrap (n6 + 1)) x17 k18))))))) ∧ (appendC Tryz.prog 5 a3 k4 k5 h11 (bytesV s12) s12.size J14))))))))))) else (∃ (s19 : ByteArray), ((SliceAt (x7) (a3) (k4) (bytesV s19)) ∧ (Q (Value.tuple #[Value.string s19, Value.int IntKind.i64 0]) x7)))))))))))))
theorem journal_Journal_look.calls (j_b j_o : Nat) (p1 : Int) {h : Hp} {Q : Value → Hp → Prop} (hW : journal_Journal_look.W j_b j_o p1 h Q) : CallsH Tryz.prog 57 #[.pointer (some ⟨j_b, j_o, none⟩), .int .i64 p1] h Q := by
  have hE_ : bodyW Tryz.prog journal_Journal_look.H Tryz.f57 [.ptr j_b j_o, .val (.int .i64 p1)] h Q = journal_Journal_look.W j_b j_o p1 h Q := by kernel_rfl
  rw [← hE_] at hW
  exact calls_of_body (H := journal_Journal_look.H) (args := [.ptr j_b j_o, .val (.int .i64 p1)]) Tryz.func57 Tryz.ntmps57 rfl rfl hW

/-! ### 58 journal_Journal_lay -/
def journal_Journal_lay.H : Hints := { N := 31, loc := (fun _ => false), join := (fun _ => none), loop := (fun i => bif Nat.beq i 2 then some [.slot 9 (.int .i64)] else none), ifc := 0, order := (fun i => bif Nat.beq i 4 then some (some 14, false, [0, 1, 2, 3, 4, 5, 6, 7, 8, 9, 10, 11, 12, 13, 14, 15], .q 0 (.q 1 (.q 2 (.q 3 (.q 4 (.q 5 (.q 6 (.q 7 (.q 8 (.q 9 (.q 10 (.q 11 (.q 12 (.q 13 (.f 14 (.q 15 .done) .e))))))))))))))) else none) }
def journal_Journal_lay.W (j_b j_o : Nat) (p1 : Int) (s : ByteArray) (h : Hp) (Q : Value → Hp → Prop) : Prop :=
  (∃ (J1 : Int → Hp → Nat → Prop), ((∃ (k2 : Nat), (J1 0 h k2)) ∧ (∀ (n3 : Int), (∀ (x4 : Hp), (∀ (k5 : Nat), (((J1 n3 x4 k5)) → (bif hb (decide (n3 < 4)) then (∃ (a6 : Option Addr), ((x4.cell j_b j_o = some (Value.pointer a6)) ∧ ((0 ≤ IntKind.i64.wrap (IntKind.i64.wrap (n3 + 1) * 256)) ∧ ((IntKind.i64.wrap (IntKind.i64.wrap (n3 + 1) * 256) ≤ Int.ofNat s.size) ∧ ((0 ≤ IntKind.i64.wrap (n3 * 256)) ∧ ((IntKind.i64.wrap (n3 * 256) ≤ Int.ofNat (IntKind.i64.wrap (IntKind.i64.wrap (n3 + 1) * 256)).toNat) ∧ (CallsH Tryz.prog 61 (#[Value.pointer a6, Value.int IntKind.i64 (IntKind.i64.wrap (p1 + n3)), Value.string (s.extract (IntKind.i64.wrap (n3 * 256)).toNat (IntKind.i64.wrap (IntKind.i64.wrap (n3 + 1) * 256)).toNat)]) (x4) (fun (v7 : Value) (h8 : Hp) => (∃ (n9 : Int), ((v7 = Value.int IntKind.i64 n9) ∧ (bif hb (n9 != 0) then (Q (Value.int IntKind.i64 n9) h8) else (∃ (k10 : Nat), ((k10 < k5) ∧ (J1 (IntKind.i64.wrap (n3 + 1)) h8 k10)))))))))))))) else (Q (Value.int IntKind.i64 0) x4))))))))
theorem journal_Journal_lay.calls (j_b j_o : Nat) (p1 : Int) (s : ByteArray) {h : Hp} {Q : Value → Hp → Prop} (hW : journal_Journal_lay.W j_b j_o p1 s h Q) : CallsH Tryz.prog 58 #[.pointer (some ⟨j_b, j_o, none⟩), .int .i64 p1, .string s] h Q := by
  have hE_ : bodyW Tryz.prog journal_Journal_lay.H Tryz.f58 [.ptr j_b j_o, .val (.int .i64 p1), .val (.string s)] h Q = journal_Journal_lay.W j_b j_o p1 s h Q := by kernel_rfl
  rw [← hE_] at hW
  exact calls_of_body (H := journal_Journal_lay.H) (args := [.ptr j_b j_o, .val (.int .i64 p1), .val (.string s)]) Tryz.func58 Tryz.ntmps58 rfl rfl hW

/-! ### 60 journal_Journal_flushed -/
def journal_Journal_flushed.H : Hints := { N := 13, loc := (fun _ => false), join := (fun _ => none), loop := (fun _ => none), ifc := 0, order := (fun _ => none) }
def journal_Journal_flushed.W (j_b j_o : Nat) (e : Int) (h : Hp) (Q : Value → Hp → Prop) : Prop :=
  (bif hb (e != 0) then (Q (Value.int IntKind.i64 e) h) else (∃ (a1 : Option Addr), ((h.cell j_b j_o = some (Value.pointer a1)) ∧ (CallsH Tryz.prog 81 (#[Value.pointer a1]) (h) (fun (v2 : Value) (h3 : Hp) => (∃ (n4 : Int), ((v2 = Value.int IntKind.i64 n4) ∧ (Q (Value.int IntKind.i64 n4) h3))))))))
theorem journal_Journal_flushed.calls (j_b j_o : Nat) (e : Int) {h : Hp} {Q : Value → Hp → Prop} (hW : journal_Journal_flushed.W j_b j_o e h Q) : CallsH Tryz.prog 60 #[.pointer (some ⟨j_b, j_o, none⟩), .int .i64 e] h Q := by
  have hE_ : bodyW Tryz.prog journal_Journal_flushed.H Tryz.f60 [.ptr j_b j_o, .val (.int .i64 e)] h Q = journal_Journal_flushed.W j_b j_o e h Q := by kernel_rfl
  rw [← hE_] at hW
  exact calls_of_body (H := journal_Journal_flushed.H) (args := [.ptr j_b j_o, .val (.int .i64 e)]) Tryz.func60 Tryz.ntmps60 rfl rfl hW

/-! ### 73 journal_Journal_check -/
def journal_Journal_check.H : Hints := { N := 57, loc := (fun i => Nat.beq i 11 || Nat.beq i 9 || Nat.beq i 7 || false), join := (fun _ => none), loop := (fun i => bif Nat.beq i 3 then some [.slot 15 (.int .i64)] else bif Nat.beq i 9 then some [.slot 34 (.int .i64)] else bif Nat.beq i 16 then some [.slot 48 (.int .i64)] else none), ifc := 0, order := (fun i => bif Nat.beq i 5 then some (none, false, [0, 1, 2, 3, 4, 5, 6, 7, 8, 9, 10, 11], .q 0 (.q 1 (.q 2 (.q 3 (.q 4 (.q 5 (.q 6 (.q 7 (.q 8 (.q 9 (.q 10 (.q 11 .done)))))))))))) else none) }
def journal_Journal_check.W (j_b j_o : Nat) (la : Option Addr) (ll lc : Nat) (h : Hp) (Q : Value → Hp → Prop) : Prop :=
  (∀ (k1 : Nat), (((h k1 = none)) → (((zeroL Tryz.prog 81).length = 128) ∧ ((plainP (zeroL Tryz.prog 81)) ∧ ((StoreOk (h.upd k1 (Obj.cells (zeroL Tryz.prog 81).toArray 81 (0, 0))) k1 0 (zeroL Tryz.prog 81).length) ∧ (∃ (J2 : Int → Hp → Nat → Prop), ((∃ (k3 : Nat), (J2 0 ((h.upd k1 (Obj.cells (zeroL Tryz.prog 81).toArray 81 (0, 0))).put k1 0 (zeroL Tryz.prog 81)) k3)) ∧ (∀ (n4 : Int), (∀ (x5 : Hp), (∀ (k6 : Nat), (((J2 n4 x5 k6)) → (bif hb (decide (n4 < Int.ofNat ll)) then ((0 ≤ n4) ∧ ((n4 < Int.ofNat ll) ∧ (∃ (k7 : Nat), (∃ (k8 : Nat), ((la = some { block := k7, off := k8 }) ∧ (∃ (n9 : Int), ((x5.cell k7 (k8 + n4.toNat * 2) = some (Value.int IntKind.i64 n9)) ∧ (∃ (s10 : ByteArray), ((x5.cell k7 (k8 + n4.toNat * 2 + 1) = some (Value.string s10)) ∧ (bif hb (decide (n9 < 0)) then (Q (Value.int IntKind.i64 9) x5) else (∃ (n11 : Int), ((x5.cell j_b (j_o + 1) = some (Value.int IntKind.i64 n11)) ∧ (bif hb (decide (n9 ≥ n11)) then (Q (Value.int IntKind.i64 9) x5) else (∃ (k12 : Nat), ((k12 < k6) ∧ (J2 (IntKind.i64.wrap (n4 + 1)) x5 k12)))))))))))))))) else (∃ (J13 : Int → Hp → Nat → Prop), ((∃ (k14 : Nat), (J13 0 x5 k14)) ∧ (∀ (n15 : Int), (∀ (x16 : Hp), (∀ (k17 : Nat), (((J13 n15 x16 k17)) → (bif hb (decide (n15 < Int.ofNat ll)) then ((0 ≤ n15) ∧ ((n15 < Int.ofNat ll) ∧ (∃ (k18 : Nat), (∃ (k19 : Nat), ((la = some { block := k18, off := k19 }) ∧ (∃ (n20 : Int), ((x16.cell k18 (k19 + n15.toNat * 2) = some (Value.int IntKind.i64 n20)) ∧ (∃ (s21 : ByteArray), ((x16.cell k18 (k19 + n15.toNat * 2 + 1) = some (Value.string s21)) ∧ ((0 ≤ n20) ∧ ((n20 < 128) ∧ (∃ (b22 : Bool), ((x16.cell k1 (0 + n20.toNat * 1) = some (Value.bool b22)) ∧ (bif b22 then (Q (Value.int IntKind.i64 7) x16) else ((0 ≤ n20) ∧ ((n20 < 128) ∧ ((StoreOk x16 k1 (0 + n20.toNat * 1) 1) ∧ (∃ (k23 : Nat), ((k23 < k17) ∧ (J13 (IntKind.i64.wrap (n15 + 1)) (x16.put k1 (0 + n20.toNat * 1) [Value.bool true]) k23)))))))))))))))))))) else (∃ (J24 : Int → Hp → Nat → Prop), ((∃ (k25 : Nat), (J24 0 x16 k25)) ∧ (∀ (n26 : Int), (∀ (x27 : Hp), (∀ (k28 : Nat), (((J24 n26 x27 k28)) → (bif hb (decide (n26 < Int.ofNat ll)) then ((0 ≤ n26) ∧ ((n26 < Int.ofNat ll) ∧ (∃ (k29 : Nat), (∃ (k30 : Nat), ((la = some { block := k29, off := k30 }) ∧ (∃ (n31 : Int), ((x27.cell k29 (k30 + n26.toNat * 2) = some (Value.int IntKind.i64 n31)) ∧ (∃ (s32 : ByteArray), ((x27.cell k29 (k30 + n26.toNat * 2 + 1) = some (Value.string s32)) ∧ (bif hb (Int.ofNat s32.size != 1024) then (Q (Value.int IntKind.i64 1) x27) else (∃ (k33 : Nat), ((k33 < k28) ∧ (J24 (IntKind.i64.wrap (n26 + 1)) x27 k33))))))))))))) else (Q (Value.int IntKind.i64 0) x27)))))))))))))))))))))))))))
theorem journal_Journal_check.calls (j_b j_o : Nat) (la : Option Addr) (ll lc : Nat) {h : Hp} {Q : Value → Hp → Prop} (hW : journal_Journal_check.W j_b j_o la ll lc h Q) : CallsH Tryz.prog 73 #[.pointer (some ⟨j_b, j_o, none⟩), .slice la ll lc] h Q := by
  have hE_ : bodyW Tryz.prog journal_Journal_check.H Tryz.f73 [.ptr j_b j_o, .val (.slice la ll lc)] h Q = journal_Journal_check.W j_b j_o la ll lc h Q := by kernel_rfl
  rw [← hE_] at hW
  exact calls_of_body (H := journal_Journal_check.H) (args := [.ptr j_b j_o, .val (.slice la ll lc)]) Tryz.func73 Tryz.ntmps73 rfl rfl hW

/-! ### 77 journal_Journal_Commit_1 -/
def journal_Journal_Commit_1.H : Hints := { N := 10, loc := (fun i => Nat.beq i 3 || Nat.beq i 2 || false), join := (fun _ => none), loop := (fun _ => none), ifc := 0, order := (fun _ => none) }
def journal_Journal_Commit_1.W (a_0 : Int) (a_1 : ByteArray) (b_0 : Int) (b_1 : ByteArray) (h : Hp) (Q : Value → Hp → Prop) : Prop :=
  (Q (Value.int IntKind.i64 (IntKind.i64.wrap (a_0 - b_0))) h)
theorem journal_Journal_Commit_1.calls (a_0 : Int) (a_1 : ByteArray) (b_0 : Int) (b_1 : ByteArray) {h : Hp} {Q : Value → Hp → Prop} (hW : journal_Journal_Commit_1.W a_0 a_1 b_0 b_1 h Q) : CallsH Tryz.prog 77 #[.agg #[.int .i64 a_0, .string a_1], .agg #[.int .i64 b_0, .string b_1]] h Q := by
  have hE_ : bodyW Tryz.prog journal_Journal_Commit_1.H Tryz.f77 [.val (.agg #[.int .i64 a_0, .string a_1]), .val (.agg #[.int .i64 b_0, .string b_1])] h Q = journal_Journal_Commit_1.W a_0 a_1 b_0 b_1 h Q := by kernel_rfl
  rw [← hE_] at hW
  exact calls_of_body (H := journal_Journal_Commit_1.H) (args := [.val (.agg #[.int .i64 a_0, .string a_1]), .val (.agg #[.int .i64 b_0, .string b_1])]) Tryz.func77 Tryz.ntmps77 rfl rfl hW

/-! ### 79 journal_Journal_Commit_2 -/
def journal_Journal_Commit_2.H : Hints := { N := 6, loc := (fun _ => false), join := (fun _ => none), loop := (fun _ => none), ifc := 0, order := (fun _ => none) }
def journal_Journal_Commit_2.W (i : Int) (h : Hp) (Q : Value → Hp → Prop) : Prop :=
  (Q (Value.int IntKind.i64 (IntKind.i64.wrap (1 + IntKind.i64.wrap (4 * i)))) h)
theorem journal_Journal_Commit_2.calls (i : Int) {h : Hp} {Q : Value → Hp → Prop} (hW : journal_Journal_Commit_2.W i h Q) : CallsH Tryz.prog 79 #[.int .i64 i] h Q := by
  have hE_ : bodyW Tryz.prog journal_Journal_Commit_2.H Tryz.f79 [.val (.int .i64 i)] h Q = journal_Journal_Commit_2.W i h Q := by kernel_rfl
  rw [← hE_] at hW
  exact calls_of_body (H := journal_Journal_Commit_2.H) (args := [.val (.int .i64 i)]) Tryz.func79 Tryz.ntmps79 rfl rfl hW

/-! ### 78 journal_Journal_layAll_2f79 -/
def journal_Journal_layAll_2f79.H : Hints := { N := 28, loc := (fun i => Nat.beq i 8 || false), join := (fun _ => none), loop := (fun i => bif Nat.beq i 2 then some [.slot 12 (.int .i64)] else none), ifc := 0, order := (fun i => bif Nat.beq i 4 then some (some 7, false, [0, 1, 2, 3, 5, 6, 4, 7, 8], .q 0 (.q 1 (.q 2 (.q 3 (.q 5 (.q 6 (.f 4 (.f 7 (.q 8 .done) .e) .e))))))) else none) }
def journal_Journal_layAll_2f79.W (j_b j_o : Nat) (la : Option Addr) (ll lc : Nat) (h : Hp) (Q : Value → Hp → Prop) : Prop :=
  (∃ (J1 : Int → Hp → Nat → Prop), ((∃ (k2 : Nat), (J1 0 h k2)) ∧ (∀ (n3 : Int), (∀ (x4 : Hp), (∀ (k5 : Nat), (((J1 n3 x4 k5)) → (bif hb (decide (n3 < Int.ofNat ll)) then ((0 ≤ n3) ∧ ((n3 < Int.ofNat ll) ∧ (∃ (k6 : Nat), (∃ (k7 : Nat), ((la = some { block := k6, off := k7 }) ∧ (∃ (n8 : Int), ((x4.cell k6 (k7 + n3.toNat * 2) = some (Value.int IntKind.i64 n8)) ∧ (∃ (s9 : ByteArray), ((x4.cell k6 (k7 + n3.toNat * 2 + 1) = some (Value.string s9)) ∧ (CallsH Tryz.prog 79 (#[Value.int IntKind.i64 n8]) (x4) (fun (v10 : Value) (h11 : Hp) => (∃ (n12 : Int), ((v10 = Value.int IntKind.i64 n12) ∧ ((Gx.Sub x4 h11) ∧ (CallsH Tryz.prog 58 (#[Value.pointer (some { block := j_b, off := j_o }), Value.int IntKind.i64 n12, Value.string s9]) (h11) (fun (v13 : Value) (h14 : Hp) => (∃ (n15 : Int), ((v13 = Value.int IntKind.i64 n15) ∧ (bif hb (n15 != 0) then (Q (Value.int IntKind.i64 n15) h14) else (∃ (k16 : Nat), ((k16 < k5) ∧ (J1 (IntKind.i64.wrap (n3 + 1)) h14 k16)))))))))))))))))))))) else (Q (Value.int IntKind.i64 0) x4))))))))
theorem journal_Journal_layAll_2f79.calls (j_b j_o : Nat) (la : Option Addr) (ll lc : Nat) {h : Hp} {Q : Value → Hp → Prop} (hW : journal_Journal_layAll_2f79.W j_b j_o la ll lc h Q) : CallsH Tryz.prog 78 #[.pointer (some ⟨j_b, j_o, none⟩), .slice la ll lc, .func (.func 79) #[] #[]] h Q := by
  have hE_ : bodyW Tryz.prog journal_Journal_layAll_2f79.H Tryz.f78 [.ptr j_b j_o, .val (.slice la ll lc), .val (.func (.func 79) #[] #[])] h Q = journal_Journal_layAll_2f79.W j_b j_o la ll lc h Q := by kernel_rfl
  rw [← hE_] at hW
  exact calls_of_body (H := journal_Journal_layAll_2f79.H) (args := [.ptr j_b j_o, .val (.slice la ll lc), .val (.func (.func 79) #[] #[])]) Tryz.func78 Tryz.ntmps78 rfl rfl hW

/-! ### 78 journal_Journal_layAll_2m59 -/
def journal_Journal_layAll_2m59.H : Hints := { N := 28, loc := (fun i => Nat.beq i 8 || false), join := (fun _ => none), loop := (fun i => bif Nat.beq i 2 then some [.slot 12 (.int .i64)] else none), ifc := 0, order := (fun i => bif Nat.beq i 4 then some (some 7, false, [0, 1, 2, 3, 5, 6, 4, 7, 8], .q 0 (.q 1 (.q 2 (.q 3 (.q 5 (.q 6 (.f 4 (.f 7 (.q 8 .done) .e) .e))))))) else none) }
def journal_Journal_layAll_2m59.W (j_b j_o : Nat) (la : Option Addr) (ll lc : Nat) (place_0_b place_0_o : Nat) (h : Hp) (Q : Value → Hp → Prop) : Prop :=
  (∃ (J1 : Int → Hp → Nat → Prop), ((∃ (k2 : Nat), (J1 0 h k2)) ∧ (∀ (n3 : Int), (∀ (x4 : Hp), (∀ (k5 : Nat), (((J1 n3 x4 k5)) → (bif hb (decide (n3 < Int.ofNat ll)) then ((0 ≤ n3) ∧ ((n3 < Int.ofNat ll) ∧ (∃ (k6 : Nat), (∃ (k7 : Nat), ((la = some { block := k6, off := k7 }) ∧ (∃ (n8 : Int), ((x4.cell k6 (k7 + n3.toNat * 2) = some (Value.int IntKind.i64 n8)) ∧ (∃ (s9 : ByteArray), ((x4.cell k6 (k7 + n3.toNat * 2 + 1) = some (Value.string s9)) ∧ (CallsH Tryz.prog 59 (#[Value.pointer (some { block := place_0_b, off := place_0_o }), Value.int IntKind.i64 n8]) (x4) (fun (v10 : Value) (h11 : Hp) => (∃ (n12 : Int), ((v10 = Value.int IntKind.i64 n12) ∧ ((Gx.Sub x4 h11) ∧ (CallsH Tryz.prog 58 (#[Value.pointer (some { block := j_b, off := j_o }), Value.int IntKind.i64 n12, Value.string s9]) (h11) (fun (v13 : Value) (h14 : Hp) => (∃ (n15 : Int), ((v13 = Value.int IntKind.i64 n15) ∧ (bif hb (n15 != 0) then (Q (Value.int IntKind.i64 n15) h14) else (∃ (k16 : Nat), ((k16 < k5) ∧ (J1 (IntKind.i64.wrap (n3 + 1)) h14 k16)))))))))))))))))))))) else (Q (Value.int IntKind.i64 0) x4))))))))
theorem journal_Journal_layAll_2m59.calls (j_b j_o : Nat) (la : Option Addr) (ll lc : Nat) (place_0_b place_0_o : Nat) {h : Hp} {Q : Value → Hp → Prop} (hW : journal_Journal_layAll_2m59.W j_b j_o la ll lc place_0_b place_0_o h Q) : CallsH Tryz.prog 78 #[.pointer (some ⟨j_b, j_o, none⟩), .slice la ll lc, .func (.func 59) #[.pointer (some ⟨place_0_b, place_0_o, none⟩)] #[]] h Q := by
  have hE_ : bodyW Tryz.prog journal_Journal_layAll_2m59.H Tryz.f78 [.ptr j_b j_o, .val (.slice la ll lc), .val (.func (.func 59) #[.pointer (some ⟨place_0_b, place_0_o, none⟩)] #[])] h Q = journal_Journal_layAll_2m59.W j_b j_o la ll lc place_0_b place_0_o h Q := by kernel_rfl
  rw [← hE_] at hW
  exact calls_of_body (H := journal_Journal_layAll_2m59.H) (args := [.ptr j_b j_o, .val (.slice la ll lc), .val (.func (.func 59) #[.pointer (some ⟨place_0_b, place_0_o, none⟩)] #[])]) Tryz.func78 Tryz.ntmps78 rfl rfl hW

/-! ### 56 journal_told -/
def journal_told.H : Hints := { N := 4, loc := (fun _ => false), join := (fun _ => none), loop := (fun _ => none), ifc := 0, order := (fun _ => none) }
def journal_told.W (mark : ByteArray) (h : Hp) (Q : Value → Hp → Prop) : Prop :=
  (∀ (k1 : Nat), (((h k1 = none)) → (Q (Value.func (Fn.func 80) #[] #[Value.pointer (some { block := k1, off := 0 })]) (h.upd k1 (Obj.cells #[Value.string mark] 9 (0, 0))))))
theorem journal_told.calls (mark : ByteArray) {h : Hp} {Q : Value → Hp → Prop} (hW : journal_told.W mark h Q) : CallsH Tryz.prog 56 #[.string mark] h Q := by
  have hE_ : bodyW Tryz.prog journal_told.H Tryz.f56 [.val (.string mark)] h Q = journal_told.W mark h Q := by kernel_rfl
  rw [← hE_] at hW
  exact calls_of_body (H := journal_told.H) (args := [.val (.string mark)]) Tryz.func56 Tryz.ntmps56 rfl rfl hW

end Go.Proofs.YtagglohkipioiaaGreat
