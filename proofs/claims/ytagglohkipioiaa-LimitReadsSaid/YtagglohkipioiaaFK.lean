/- The formulas of functions of the program, as the executor computes them, and that a call does what its formula says. Printed by a tool of ours (wip/tool). -/
import Derived.Test.YtagglohkipioiaaGxSB
import Derived.Test.YtagglohkipioiaaProg
import Derived.KernelRfl
namespace Go.Proofs.Ytagglohkipioiaa
open Go.Gx
set_option maxRecDepth 100000
set_option linter.unusedVariables false

abbrev main_main.id : FuncId := 0
abbrev gosem_cut.id : FuncId := 1
abbrev gosem_cut_init.id : FuncId := 2
abbrev law24_LimitReads.id : FuncId := 3
abbrev law14_PagerHeads.id : FuncId := 4
abbrev law14_PagerNils.id : FuncId := 5
abbrev law24_lives.id : FuncId := 6
abbrev limit_Decode.id : FuncId := 7
abbrev limit_Limiter_Take.id : FuncId := 8
abbrev limit_Limiter_Units.id : FuncId := 9
abbrev limit_Limiter_Names.id : FuncId := 10
abbrev limit_Limiter_Encode.id : FuncId := 11
abbrev law14_opened.id : FuncId := 12
abbrev law14_lives.id : FuncId := 13
abbrev journal_Journal_Commit.id : FuncId := 14
abbrev pager_Open.id : FuncId := 15
abbrev ref14_Right.id : FuncId := 16
abbrev law14_state.id : FuncId := 17
abbrev ref14_Bytes.id : FuncId := 18
abbrev pager_Pager_Read.id : FuncId := 19
abbrev pager_Pager_Alloc.id : FuncId := 20
abbrev pager_Pager_Save.id : FuncId := 21
abbrev pager_Pager_Abort.id : FuncId := 22
abbrev pager_Pager_Pages.id : FuncId := 23
abbrev pager_Pager_Free.id : FuncId := 24
abbrev pager_Pager_Root.id : FuncId := 25
abbrev pager_Pager_Changed.id : FuncId := 26
abbrev pager_Pager_Serial.id : FuncId := 27
abbrev pager_Pager_Used.id : FuncId := 28
abbrev pager_Pager_Write.id : FuncId := 29
abbrev law14_filled.id : FuncId := 30
abbrev pager_Pager_Give.id : FuncId := 31
abbrev pager_Pager_Point.id : FuncId := 32
abbrev pager_Pager_Back.id : FuncId := 33
abbrev pager_Pager_Commit.id : FuncId := 34
abbrev disk_New.id : FuncId := 35
abbrev journal_Open.id : FuncId := 36
abbrev limit_New.id : FuncId := 37
abbrev limit_Take.id : FuncId := 38
abbrev limit_Decode_1.id : FuncId := 39
abbrev num_Get.id : FuncId := 40
abbrev limit_Keep.id : FuncId := 41
abbrev num_GetText.id : FuncId := 42
abbrev limit_May.id : FuncId := 43
abbrev limit_tick.id : FuncId := 44
abbrev limit_Limiter_bucket.id : FuncId := 45
abbrev limit_Limiter_shrink.id : FuncId := 46
abbrev limit_Units.id : FuncId := 47
abbrev slices_Sorted_string_.id : FuncId := 48
abbrev maps_Keys_map_string_limit_Bucket_string_limit_Bucket_.id : FuncId := 49
abbrev num_Put.id : FuncId := 50
abbrev num_PutText.id : FuncId := 51
abbrev journal_Journal_check.id : FuncId := 52
abbrev disk_Disk_Up.id : FuncId := 53
abbrev slices_SortedFunc_journal_Change_.id : FuncId := 54
abbrev slices_Values_journal_Change_journal_Change_.id : FuncId := 55
abbrev journal_Journal_Commit_1.id : FuncId := 56
abbrev journal_Journal_flushed.id : FuncId := 57
abbrev journal_Journal_layAll.id : FuncId := 58
abbrev journal_Journal_Commit_2.id : FuncId := 59
abbrev disk_Disk_Write.id : FuncId := 60
abbrev journal_Journal_own.id : FuncId := 61
abbrev journal_Journal_Pages.id : FuncId := 62
abbrev journal_Journal_Read.id : FuncId := 63
abbrev pager_read.id : FuncId := 64
abbrev ref14_blank.id : FuncId := 65
abbrev pager_Pager_use.id : FuncId := 66
abbrev maps_Clone_map_int_string_int_string_.id : FuncId := 67
abbrev slices_Sorted_int_.id : FuncId := 68
abbrev maps_Keys_map_int_string_int_string_.id : FuncId := 69
abbrev slices_Contains_int_int_.id : FuncId := 70
abbrev pager_head_bytes.id : FuncId := 71
abbrev journal_Need.id : FuncId := 72
abbrev disk_Disk_Size.id : FuncId := 73
abbrev disk_Disk_Read.id : FuncId := 74
abbrev journal_told.id : FuncId := 75
abbrev journal_Journal_look.id : FuncId := 76
abbrev journal_Journal_lay.id : FuncId := 77
abbrev limit_Measure_may.id : FuncId := 78
abbrev limit_check.id : FuncId := 79
abbrev limit_on.id : FuncId := 80
abbrev limit_within.id : FuncId := 81
abbrev slices_Collect_string_.id : FuncId := 82
abbrev slices_Sort_string_string_.id : FuncId := 83
abbrev maps_Keys_map_string_limit_Bucket_string_limit_Bucket_1.id : FuncId := 84
abbrev num_lay.id : FuncId := 85
abbrev num_own.id : FuncId := 86
abbrev slices_Collect_journal_Change_.id : FuncId := 87
abbrev slices_SortFunc_journal_Change_journal_Change_.id : FuncId := 88
abbrev slices_Values_journal_Change_journal_Change_1.id : FuncId := 89
abbrev disk_Disk_Flush.id : FuncId := 90
abbrev disk_Disk_use.id : FuncId := 91
abbrev maps_clone.id : FuncId := 92
abbrev slices_Collect_int_.id : FuncId := 93
abbrev slices_Sort_int_int_.id : FuncId := 94
abbrev maps_Keys_map_int_string_int_string_1.id : FuncId := 95
abbrev slices_Index_int_int_.id : FuncId := 96
abbrev journal_told_1.id : FuncId := 97
abbrev slices_AppendSeq_string_string_.id : FuncId := 98
abbrev slices_pdqsortOrdered_string_.id : FuncId := 99
abbrev math_bits_Len.id : FuncId := 100
abbrev slices_AppendSeq_journal_Change_journal_Change_.id : FuncId := 101
abbrev slices_pdqsortCmpFunc_journal_Change_.id : FuncId := 102
abbrev disk_Disk_settle.id : FuncId := 103
abbrev disk_Disk_Flush_1.id : FuncId := 104
abbrev slices_AppendSeq_int_int_.id : FuncId := 105
abbrev slices_pdqsortOrdered_int_.id : FuncId := 106
abbrev slices_insertionSortOrdered_string_.id : FuncId := 107
abbrev slices_heapSortOrdered_string_.id : FuncId := 108
abbrev slices_breakPatternsOrdered_string_.id : FuncId := 109
abbrev slices_choosePivotOrdered_string_.id : FuncId := 110
abbrev slices_reverseRangeOrdered_string_.id : FuncId := 111
abbrev slices_partialInsertionSortOrdered_string_.id : FuncId := 112
abbrev cmp_Less_string_.id : FuncId := 113
abbrev slices_partitionEqualOrdered_string_.id : FuncId := 114
abbrev slices_partitionOrdered_string_.id : FuncId := 115
abbrev math_bits_Len32.id : FuncId := 116
abbrev math_bits_Len64.id : FuncId := 117
abbrev slices_insertionSortCmpFunc_journal_Change_.id : FuncId := 118
abbrev slices_heapSortCmpFunc_journal_Change_.id : FuncId := 119
abbrev slices_breakPatternsCmpFunc_journal_Change_.id : FuncId := 120
abbrev slices_choosePivotCmpFunc_journal_Change_.id : FuncId := 121
abbrev slices_reverseRangeCmpFunc_journal_Change_.id : FuncId := 122
abbrev slices_partialInsertionSortCmpFunc_journal_Change_.id : FuncId := 123
abbrev slices_partitionEqualCmpFunc_journal_Change_.id : FuncId := 124
abbrev slices_partitionCmpFunc_journal_Change_.id : FuncId := 125
abbrev slices_insertionSortOrdered_int_.id : FuncId := 126
abbrev slices_heapSortOrdered_int_.id : FuncId := 127
abbrev slices_breakPatternsOrdered_int_.id : FuncId := 128
abbrev slices_choosePivotOrdered_int_.id : FuncId := 129
abbrev slices_reverseRangeOrdered_int_.id : FuncId := 130
abbrev slices_partialInsertionSortOrdered_int_.id : FuncId := 131
abbrev cmp_Less_int_.id : FuncId := 132
abbrev slices_partitionEqualOrdered_int_.id : FuncId := 133
abbrev slices_partitionOrdered_int_.id : FuncId := 134
abbrev slices_siftDownOrdered_string_.id : FuncId := 135
abbrev slices_nextPowerOfTwo.id : FuncId := 136
abbrev slices_xorshift_Next.id : FuncId := 137
abbrev slices_medianAdjacentOrdered_string_.id : FuncId := 138
abbrev slices_medianOrdered_string_.id : FuncId := 139
abbrev cmp_isNaN_string_.id : FuncId := 140
abbrev slices_siftDownCmpFunc_journal_Change_.id : FuncId := 141
abbrev slices_medianAdjacentCmpFunc_journal_Change_.id : FuncId := 142
abbrev slices_medianCmpFunc_journal_Change_.id : FuncId := 143
abbrev slices_siftDownOrdered_int_.id : FuncId := 144
abbrev slices_medianAdjacentOrdered_int_.id : FuncId := 145
abbrev slices_medianOrdered_int_.id : FuncId := 146
abbrev cmp_isNaN_int_.id : FuncId := 147
abbrev slices_order2Ordered_string_.id : FuncId := 148
abbrev slices_order2CmpFunc_journal_Change_.id : FuncId := 149
abbrev slices_order2Ordered_int_.id : FuncId := 150
abbrev runtime_boundsError_Error.id : FuncId := 151
abbrev runtime_boundsError_RuntimeError.id : FuncId := 152
abbrev runtime_errorString_Error.id : FuncId := 153
abbrev runtime_errorString_RuntimeError.id : FuncId := 154
abbrev runtime_plainError_Error.id : FuncId := 155
abbrev runtime_plainError_RuntimeError.id : FuncId := 156
abbrev runtime_errorAddressString_Error.id : FuncId := 157
abbrev runtime_errorAddressString_RuntimeError.id : FuncId := 158
abbrev runtime_TypeAssertionError_Error.id : FuncId := 159
abbrev runtime_TypeAssertionError_RuntimeError.id : FuncId := 160
abbrev runtime_PanicNilError_Error.id : FuncId := 161
abbrev runtime_PanicNilError_RuntimeError.id : FuncId := 162
abbrev internal_abi_Type_Align.id : FuncId := 163
abbrev internal_runtime_maps_unhashableTypeError_Error.id : FuncId := 164
abbrev internal_runtime_maps_unhashableTypeError_RuntimeError.id : FuncId := 165
abbrev internal_abi_Kind_String.id : FuncId := 166

/-! ### 39 limit_Decode_1 -/
def limit_Decode_1.H : Hints := { N := 23, loc := (fun _ => false), join := (fun _ => none), loop := (fun _ => none), ifc := 0, order := (fun _ => none) }
def limit_Decode_1.W (p00_b p00_o : Nat) (p11_b p11_o : Nat) (p22_b p22_o : Nat) (h : Hp) (Q : Value → Hp → Prop) : Prop :=
  (∃ (a1 : Option Addr), (∃ (k2 : Nat), (∃ (k3 : Nat), ((h.cell p00_b p00_o = some (Value.slice a1 k2 k3)) ∧ (∃ (n4 : Int), ((h.cell p11_b p11_o = some (Value.int IntKind.i64 n4)) ∧ (CallsH Try.prog 40 (#[Value.slice a1 k2 k3, Value.int IntKind.i64 n4]) (h) (fun (v5 : Value) (h6 : Hp) => (∃ (n7 : Int), (∃ (n8 : Int), (∃ (n9 : Int), ((v5 = Value.tuple #[Value.int IntKind.u64 n7, Value.int IntKind.i64 n8, Value.int IntKind.i64 n9]) ∧ (∃ (b10 : Bool), ((h6.cell p22_b p22_o = some (Value.bool b10)) ∧ (bif b10 then ((StoreOk h6 p22_b p22_o 1) ∧ (Q (Value.int IntKind.i64 0) (h6.put p22_b p22_o [Value.bool true]))) else (bif hb (n9 != 0) then ((StoreOk h6 p22_b p22_o 1) ∧ (Q (Value.int IntKind.i64 0) (h6.put p22_b p22_o [Value.bool true]))) else ((StoreOk h6 p11_b p11_o 1) ∧ (Q (Value.int IntKind.i64 (IntKind.i64.wrap (if 4611686018427387904 < n7 then 4611686018427387904 else n7))) (h6.put p11_b p11_o [Value.int IntKind.i64 n8])))))))))))))))))))
theorem limit_Decode_1.calls (p00_b p00_o : Nat) (p11_b p11_o : Nat) (p22_b p22_o : Nat) {h : Hp} {Q : Value → Hp → Prop} (hW : limit_Decode_1.W p00_b p00_o p11_b p11_o p22_b p22_o h Q) : CallsH Try.prog 39 #[.pointer (some ⟨p00_b, p00_o, none⟩), .pointer (some ⟨p11_b, p11_o, none⟩), .pointer (some ⟨p22_b, p22_o, none⟩)] h Q := by
  have e : bodyW Try.prog limit_Decode_1.H Try.f39 [.ptr p00_b p00_o, .ptr p11_b p11_o, .ptr p22_b p22_o] h Q = limit_Decode_1.W p00_b p00_o p11_b p11_o p22_b p22_o h Q := by kernel_rfl
  rw [← e] at hW
  exact calls_of_body (H := limit_Decode_1.H) (args := [.ptr p00_b p00_o, .ptr p11_b p11_o, .ptr p22_b p22_o]) Try.func39 Try.ntmps39 rfl rfl hW

/-! ### 78 limit_Measure_may -/
def limit_Measure_may.H : Hints := { N := 16, loc := (fun i => Nat.beq i 1 || false), join := (fun _ => none), loop := (fun _ => none), ifc := 0, order := (fun _ => none) }
def limit_Measure_may.W (m_0 : Int) (m_1 : Int) (m_2 : Int) (h : Hp) (Q : Value → Hp → Prop) : Prop :=
  (CallsH Try.prog 81 (#[Value.int IntKind.i64 m_0, Value.int IntKind.i64 1, Value.int IntKind.i64 1048576]) (h) (fun (v1 : Value) (h2 : Hp) => (∃ (b3 : Bool), ((v1 = Value.bool b3) ∧ (bif b3 then (CallsH Try.prog 81 (#[Value.int IntKind.i64 m_1, Value.int IntKind.i64 1, Value.int IntKind.i64 1048576]) (h2) (fun (v4 : Value) (h5 : Hp) => (∃ (b6 : Bool), ((v4 = Value.bool b6) ∧ (bif b6 then (CallsH Try.prog 81 (#[Value.int IntKind.i64 m_2, Value.int IntKind.i64 1, Value.int IntKind.i64 1048576]) (h5) (fun (v7 : Value) (h8 : Hp) => (∃ (b9 : Bool), ((v7 = Value.bool b9) ∧ (Q (Value.bool b9) h8))))) else (Q (Value.bool false) h5)))))) else (Q (Value.bool false) h2))))))
theorem limit_Measure_may.calls (m_0 : Int) (m_1 : Int) (m_2 : Int) {h : Hp} {Q : Value → Hp → Prop} (hW : limit_Measure_may.W m_0 m_1 m_2 h Q) : CallsH Try.prog 78 #[.agg #[.int .i64 m_0, .int .i64 m_1, .int .i64 m_2]] h Q := by
  have e : bodyW Try.prog limit_Measure_may.H Try.f78 [.val (.agg #[.int .i64 m_0, .int .i64 m_1, .int .i64 m_2])] h Q = limit_Measure_may.W m_0 m_1 m_2 h Q := by kernel_rfl
  rw [← e] at hW
  exact calls_of_body (H := limit_Measure_may.H) (args := [.val (.agg #[.int .i64 m_0, .int .i64 m_1, .int .i64 m_2])]) Try.func78 Try.ntmps78 rfl rfl hW

/-! ### 43 limit_May -/
def limit_May.H : Hints := { N := 23, loc := (fun i => Nat.beq i 1 || false), join := (fun _ => none), loop := (fun _ => none), ifc := 0, order := (fun _ => none) }
def limit_May.W (b_0 : Int) (b_1 : Int) (b_2 : Int) (b_3 : Int) (b_4 : Int) (h : Hp) (Q : Value → Hp → Prop) : Prop :=
  (CallsH Try.prog 78 (#[Value.agg #[Value.int IntKind.i64 b_0, Value.int IntKind.i64 b_1, Value.int IntKind.i64 b_2]]) (h) (fun (v1 : Value) (h2 : Hp) => (∃ (b3 : Bool), ((v1 = Value.bool b3) ∧ (bif b3 then (CallsH Try.prog 44 (#[Value.int IntKind.i64 b_4]) (h2) (fun (v4 : Value) (h5 : Hp) => (∃ (b6 : Bool), ((v4 = Value.bool b6) ∧ (bif b6 then (CallsH Try.prog 81 (#[Value.int IntKind.i64 b_3, Value.int IntKind.i64 0, Value.int IntKind.i64 (IntKind.i64.wrap (b_2 * b_1))]) (h5) (fun (v7 : Value) (h8 : Hp) => (∃ (b9 : Bool), ((v7 = Value.bool b9) ∧ (Q (Value.bool b9) h8))))) else (Q (Value.bool false) h5)))))) else (Q (Value.bool false) h2))))))
theorem limit_May.calls (b_0 : Int) (b_1 : Int) (b_2 : Int) (b_3 : Int) (b_4 : Int) {h : Hp} {Q : Value → Hp → Prop} (hW : limit_May.W b_0 b_1 b_2 b_3 b_4 h Q) : CallsH Try.prog 43 #[.agg #[.int .i64 b_0, .int .i64 b_1, .int .i64 b_2, .int .i64 b_3, .int .i64 b_4]] h Q := by
  have e : bodyW Try.prog limit_May.H Try.f43 [.val (.agg #[.int .i64 b_0, .int .i64 b_1, .int .i64 b_2, .int .i64 b_3, .int .i64 b_4])] h Q = limit_May.W b_0 b_1 b_2 b_3 b_4 h Q := by kernel_rfl
  rw [← e] at hW
  exact calls_of_body (H := limit_May.H) (args := [.val (.agg #[.int .i64 b_0, .int .i64 b_1, .int .i64 b_2, .int .i64 b_3, .int .i64 b_4])]) Try.func43 Try.ntmps43 rfl rfl hW

/-! ### 44 limit_tick -/
def limit_tick.H : Hints := { N := 5, loc := (fun _ => false), join := (fun _ => none), loop := (fun _ => none), ifc := 0, order := (fun _ => none) }
def limit_tick.W (now : Int) (h : Hp) (Q : Value → Hp → Prop) : Prop :=
  (CallsH Try.prog 81 (#[Value.int IntKind.i64 now, Value.int IntKind.i64 0, Value.int IntKind.i64 1099511627776]) (h) (fun (v1 : Value) (h2 : Hp) => (∃ (b3 : Bool), ((v1 = Value.bool b3) ∧ (Q (Value.bool b3) h2)))))
theorem limit_tick.calls (now : Int) {h : Hp} {Q : Value → Hp → Prop} (hW : limit_tick.W now h Q) : CallsH Try.prog 44 #[.int .i64 now] h Q := by
  have e : bodyW Try.prog limit_tick.H Try.f44 [.val (.int .i64 now)] h Q = limit_tick.W now h Q := by kernel_rfl
  rw [← e] at hW
  exact calls_of_body (H := limit_tick.H) (args := [.val (.int .i64 now)]) Try.func44 Try.ntmps44 rfl rfl hW

/-! ### 81 limit_within -/
def limit_within.H : Hints := { N := 15, loc := (fun _ => false), join := (fun _ => none), loop := (fun _ => none), ifc := 0, order := (fun _ => none) }
def limit_within.W (n : Int) (p1 : Int) (to : Int) (h : Hp) (Q : Value → Hp → Prop) : Prop :=
  (bif hb (decide (n ≥ p1)) then (Q (Value.bool (hb (decide (n ≤ to)))) h) else (Q (Value.bool false) h))
theorem limit_within.calls (n : Int) (p1 : Int) (to : Int) {h : Hp} {Q : Value → Hp → Prop} (hW : limit_within.W n p1 to h Q) : CallsH Try.prog 81 #[.int .i64 n, .int .i64 p1, .int .i64 to] h Q := by
  have e : bodyW Try.prog limit_within.H Try.f81 [.val (.int .i64 n), .val (.int .i64 p1), .val (.int .i64 to)] h Q = limit_within.W n p1 to h Q := by kernel_rfl
  rw [← e] at hW
  exact calls_of_body (H := limit_within.H) (args := [.val (.int .i64 n), .val (.int .i64 p1), .val (.int .i64 to)]) Try.func81 Try.ntmps81 rfl rfl hW

/-! ### 41 limit_Keep -/
def limit_Keep.H : Hints := { N := 19, loc := (fun i => Nat.beq i 2 || false), join := (fun _ => none), loop := (fun _ => none), ifc := 0, order := (fun _ => none) }
def limit_Keep.W (m_0 : Int) (m_1 : Int) (m_2 : Int) (n : Int) (h : Hp) (Q : Value → Hp → Prop) : Prop :=
  (CallsH Try.prog 78 (#[Value.agg #[Value.int IntKind.i64 m_0, Value.int IntKind.i64 m_1, Value.int IntKind.i64 m_2]]) (h) (fun (v1 : Value) (h2 : Hp) => (∃ (b3 : Bool), ((v1 = Value.bool b3) ∧ (bif !b3 then (Q (Value.tuple #[Value.pointer none, Value.int IntKind.i64 1]) h2) else (CallsH Try.prog 81 (#[Value.int IntKind.i64 n, Value.int IntKind.i64 1, Value.int IntKind.i64 32]) (h2) (fun (v4 : Value) (h5 : Hp) => (∃ (b6 : Bool), ((v4 = Value.bool b6) ∧ (bif !b6 then (Q (Value.tuple #[Value.pointer none, Value.int IntKind.i64 1]) h5) else (∀ (k7 : Nat), (((h5 k7 = none)) → (∀ (x8 : Obj), (((MapObj Try.prog 9 x8 [])) → (∀ (k9 : Nat), (((h5.upd k7 x8 k9 = none)) → (Q (Value.tuple #[Value.pointer (some { block := k9, off := 0 }), Value.int IntKind.i64 0]) ((h5.upd k7 x8).upd k9 (Obj.cells #[Value.int IntKind.i64 m_0, Value.int IntKind.i64 m_1, Value.int IntKind.i64 m_2, Value.int IntKind.i64 n, Value.map (some k7)] 91 (0, 0))))))))))))))))))))
theorem limit_Keep.calls (m_0 : Int) (m_1 : Int) (m_2 : Int) (n : Int) {h : Hp} {Q : Value → Hp → Prop} (hW : limit_Keep.W m_0 m_1 m_2 n h Q) : CallsH Try.prog 41 #[.agg #[.int .i64 m_0, .int .i64 m_1, .int .i64 m_2], .int .i64 n] h Q := by
  have e : bodyW Try.prog limit_Keep.H Try.f41 [.val (.agg #[.int .i64 m_0, .int .i64 m_1, .int .i64 m_2]), .val (.int .i64 n)] h Q = limit_Keep.W m_0 m_1 m_2 n h Q := by kernel_rfl
  rw [← e] at hW
  exact calls_of_body (H := limit_Keep.H) (args := [.val (.agg #[.int .i64 m_0, .int .i64 m_1, .int .i64 m_2]), .val (.int .i64 n)]) Try.func41 Try.ntmps41 rfl rfl hW

/-! ### 40 num_Get -/
def num_Get.H : Hints := { N := 69, loc := (fun _ => false), join := (fun i => bif Nat.beq i 13 then some [] else none), loop := (fun i => bif Nat.beq i 5 then some [.slot 7 (.int .u64), .slot 18 (.int .i64)] else none), ifc := 0, order := (fun _ => none) }
def num_Get.W (ba : Option Addr) (bl bc : Nat) (p1 : Int) (h : Hp) (Q : Value → Hp → Prop) : Prop :=
  (bif hb (decide (p1 < 0)) then (Q (Value.tuple #[Value.int IntKind.u64 0, Value.int IntKind.i64 0, Value.int IntKind.i64 9]) h) else (bif hb (decide (p1 > Int.ofNat bl)) then (Q (Value.tuple #[Value.int IntKind.u64 0, Value.int IntKind.i64 0, Value.int IntKind.i64 9]) h) else (∃ (J1 : Int → Int → Hp → Nat → Prop), ((∃ (k2 : Nat), (J1 0 0 h k2)) ∧ (∀ (n3 : Int), (∀ (n4 : Int), (∀ (x5 : Hp), (∀ (k6 : Nat), (((J1 n3 n4 x5 k6)) → (bif hb (decide (n4 < 10)) then (bif hb (IntKind.i64.wrap (p1 + n4) == Int.ofNat bl) then (Q (Value.tuple #[Value.int IntKind.u64 0, Value.int IntKind.i64 0, Value.int IntKind.i64 3]) x5) else ((0 ≤ IntKind.i64.wrap (p1 + n4)) ∧ ((IntKind.i64.wrap (p1 + n4) < Int.ofNat bl) ∧ (∃ (k7 : Nat), (∃ (k8 : Nat), ((ba = some { block := k7, off := k8 }) ∧ (∃ (n9 : Int), ((x5.cell k7 (k8 + (IntKind.i64.wrap (p1 + n4)).toNat * 1) = some (Value.int IntKind.u8 n9)) ∧ (bif hb (decide (n9 < 128)) then (∃ (J10 : Hp → Prop), ((∀ (x11 : Hp), (((J10 x11)) → ((0 ≤ IntKind.i64.wrap (7 * n4)) ∧ (Q (Value.tuple #[Value.int IntKind.u64 (IntKind.u64.wrap (ior IntKind.u64 n3 (IntKind.u64.wrap (ishl IntKind.u64 (IntKind.u64.wrap n9) (IntKind.i64.wrap (7 * n4)))))), Value.int IntKind.i64 (IntKind.i64.wrap (IntKind.i64.wrap (p1 + n4) + 1)), Value.int IntKind.i64 0]) x11)))) ∧ (bif hb (n9 == 0) then (bif hb (decide (n4 > 0)) then (Q (Value.tuple #[Value.int IntKind.u64 0, Value.int IntKind.i64 0, Value.int IntKind.i64 4]) x5) else (bif hb (n4 == 9) then (bif hb (decide (n9 > 1)) then (Q (Value.tuple #[Value.int IntKind.u64 0, Value.int IntKind.i64 0, Value.int IntKind.i64 4]) x5) else (J10 x5)) else (J10 x5))) else (bif hb (n4 == 9) then (bif hb (decide (n9 > 1)) then (Q (Value.tuple #[Value.int IntKind.u64 0, Value.int IntKind.i64 0, Value.int IntKind.i64 4]) x5) else (J10 x5)) else (J10 x5))))) else ((0 ≤ IntKind.i64.wrap (7 * n4)) ∧ (∃ (k12 : Nat), ((k12 < k6) ∧ (J1 (IntKind.u64.wrap (ior IntKind.u64 n3 (IntKind.u64.wrap (ishl IntKind.u64 (IntKind.u64.wrap (IntKind.u8.wrap (iand IntKind.u8 n9 127))) (IntKind.i64.wrap (7 * n4)))))) (IntKind.i64.wrap (n4 + 1)) x5 k12))))))))))))) else (Q (Value.tuple #[Value.int IntKind.u64 0, Value.int IntKind.i64 0, Value.int IntKind.i64 4]) x5)))))))))))
theorem num_Get.calls (ba : Option Addr) (bl bc : Nat) (p1 : Int) {h : Hp} {Q : Value → Hp → Prop} (hW : num_Get.W ba bl bc p1 h Q) : CallsH Try.prog 40 #[.slice ba bl bc, .int .i64 p1] h Q := by
  have e : bodyW Try.prog num_Get.H Try.f40 [.val (.slice ba bl bc), .val (.int .i64 p1)] h Q = num_Get.W ba bl bc p1 h Q := by kernel_rfl
  rw [← e] at hW
  exact calls_of_body (H := num_Get.H) (args := [.val (.slice ba bl bc), .val (.int .i64 p1)]) Try.func40 Try.ntmps40 rfl rfl hW

/-! ### 42 num_GetText -/
def num_GetText.H : Hints := { N := 45, loc := (fun _ => false), join := (fun _ => none), loop := (fun _ => none), ifc := 0, order := (fun _ => none) }
def num_GetText.W (ba : Option Addr) (bl bc : Nat) (p1 : Int) (most : Int) (h : Hp) (Q : Value → Hp → Prop) : Prop :=
  (CallsH Try.prog 40 (#[Value.slice ba bl bc, Value.int IntKind.i64 p1]) (h) (fun (v1 : Value) (h2 : Hp) => (∃ (n3 : Int), (∃ (n4 : Int), (∃ (n5 : Int), ((v1 = Value.tuple #[Value.int IntKind.u64 n3, Value.int IntKind.i64 n4, Value.int IntKind.i64 n5]) ∧ (bif hb (n5 != 0) then (Q (Value.tuple #[Value.string (bytesL []), Value.int IntKind.i64 0, Value.int IntKind.i64 n5]) h2) else (bif hb (decide (n3 > IntKind.u64.wrap (if 0 > most then 0 else most))) then (Q (Value.tuple #[Value.string (bytesL []), Value.int IntKind.i64 0, Value.int IntKind.i64 2]) h2) else (bif hb (decide (n3 > IntKind.u64.wrap (IntKind.i64.wrap (Int.ofNat bl - n4)))) then (Q (Value.tuple #[Value.string (bytesL []), Value.int IntKind.i64 0, Value.int IntKind.i64 3]) h2) else ((0 ≤ IntKind.i64.wrap (n4 + IntKind.i64.wrap n3)) ∧ ((IntKind.i64.wrap (n4 + IntKind.i64.wrap n3) ≤ Int.ofNat bc) ∧ ((0 ≤ n4) ∧ ((n4 ≤ Int.ofNat (IntKind.i64.wrap (n4 + IntKind.i64.wrap n3)).toNat) ∧ (∃ (s6 : ByteArray), ((SliceAt (h2) (slA bc n4.toNat 1 ba) ((IntKind.i64.wrap (n4 + IntKind.i64.wrap n3)).toNat - n4.toNat) (bytesV s6)) ∧ (Q (Value.tuple #[Value.string s6, Value.int IntKind.i64 (IntKind.i64.wrap (n4 + IntKind.i64.wrap n3)), Value.int IntKind.i64 0]) h2))))))))))))))))
theorem num_GetText.calls (ba : Option Addr) (bl bc : Nat) (p1 : Int) (most : Int) {h : Hp} {Q : Value → Hp → Prop} (hW : num_GetText.W ba bl bc p1 most h Q) : CallsH Try.prog 42 #[.slice ba bl bc, .int .i64 p1, .int .i64 most] h Q := by
  have e : bodyW Try.prog num_GetText.H Try.f42 [.val (.slice ba bl bc), .val (.int .i64 p1), .val (.int .i64 most)] h Q = num_GetText.W ba bl bc p1 most h Q := by kernel_rfl
  rw [← e] at hW
  exact calls_of_body (H := num_GetText.H) (args := [.val (.slice ba bl bc), .val (.int .i64 p1), .val (.int .i64 most)]) Try.func42 Try.ntmps42 rfl rfl hW

/-! ### 85 num_lay -/
def num_lay.H : Hints := { N := 20, loc := (fun _ => false), join := (fun _ => none), loop := (fun i => bif Nat.beq i 1 then some [.slot 0 (.slice), .slot 1 (.int .u64)] else none), ifc := 0, order := (fun _ => none) }
def num_lay.W (ba : Option Addr) (bl bc : Nat) (n : Int) (h : Hp) (Q : Value → Hp → Prop) : Prop :=
  (∃ (J1 : Option Addr → Nat → Nat → Int → Hp → Nat → Prop), ((∃ (k2 : Nat), (J1 ba bl bc n h k2)) ∧ (∀ (a3 : Option Addr), (∀ (k4 : Nat), (∀ (k5 : Nat), (∀ (n6 : Int), (∀ (x7 : Hp), (∀ (k8 : Nat), (((J1 a3 k4 k5 n6 x7 k8)) → (bif hb (decide (n6 ≥ 128)) then (∀ (k9 : Nat), (((x7 k9 = none)) → (∃ (xs10 : List Value), ((SliceAt (x7.upd k9 (Obj.cells #[Value.int IntKind.u8 (IntKind.u8.wrap (ior IntKind.u8 (IntKind.u8.wrap n6) 128))] 5 (0, 0))) (some { block := k9, off := 0 }) (1) (xs10)) ∧ (∃ (J11 : Option Addr → Nat → Hp → Prop), ((∀ (a12 : Option Addr), (∀ (k13 : Nat), (∀ (x14 : Hp), (((J11 a12 k13 x14)) → ((Int.ofNat 0 ≤ 7) ∧ (∃ (k15 : Nat), ((k15 < k8) ∧ (J1 a12 (k4 + 1) k13 (ishr IntKind.u64 n6 7) x14 k15)))))))) ∧ (appendC Try.prog 5 a3 k4 k5 (x7.upd k9 (Obj.cells #[Value.int IntKind.u8 (IntKind.u8.wrap (ior IntKind.u8 (IntKind.u8.wrap n6) 128))] 5 (0, 0))) xs10 1 J11))))))) else (∀ (k16 : Nat), (((x7 k16 = none)) → (∃ (xs17 : List Value), ((SliceAt (x7.upd k16 (Obj.cells #[Value.int IntKind.u8 (IntKind.u8.wrap n6)] 5 (0, 0))) (some { block := k16, off := 0 }) (1) (xs17)) ∧ (∃ (J18 : Option Addr → Nat → Hp → Prop), ((∀ (a19 : Option Addr), (∀ (k20 : Nat), (∀ (x21 : Hp), (((J18 a19 k20 x21)) → (Q (Value.slice a19 (k4 + 1) k20) x21))))) ∧ (appendC Try.prog 5 a3 k4 k5 (x7.upd k16 (Obj.cells #[Value.int IntKind.u8 (IntKind.u8.wrap n6)] 5 (0, 0))) xs17 1 J18)))))))))))))))))
theorem num_lay.calls (ba : Option Addr) (bl bc : Nat) (n : Int) {h : Hp} {Q : Value → Hp → Prop} (hW : num_lay.W ba bl bc n h Q) : CallsH Try.prog 85 #[.slice ba bl bc, .int .u64 n] h Q := by
  have e : bodyW Try.prog num_lay.H Try.f85 [.val (.slice ba bl bc), .val (.int .u64 n)] h Q = num_lay.W ba bl bc n h Q := by kernel_rfl
  rw [← e] at hW
  exact calls_of_body (H := num_lay.H) (args := [.val (.slice ba bl bc), .val (.int .u64 n)]) Try.func85 Try.ntmps85 rfl rfl hW

/-! ### 86 num_own -/
def num_own.H : Hints := { N := 6, loc := (fun _ => false), join := (fun _ => none), loop := (fun _ => none), ifc := 0, order := (fun _ => none) }
def num_own.W (ba : Option Addr) (bl bc : Nat) (h : Hp) (Q : Value → Hp → Prop) : Prop :=
  (∀ (k1 : Nat), (((h k1 = none)) → (∃ (xs2 : List Value), ((SliceAt (h.upd k1 (Obj.cells #[] 5 (0, 0))) (ba) (bl * 1) (xs2)) ∧ (∃ (J3 : Option Addr → Nat → Hp → Prop), ((∀ (a4 : Option Addr), (∀ (k5 : Nat), (∀ (x6 : Hp), (((J3 a4 k5 x6)) → (Q (Value.slice a4 (0 + bl) k5) x6))))) ∧ (appendC Try.prog 5 (some { block := k1, off := 0 }) 0 0 (h.upd k1 (Obj.cells #[] 5 (0, 0))) xs2 bl J3)))))))
theorem num_own.calls (ba : Option Addr) (bl bc : Nat) {h : Hp} {Q : Value → Hp → Prop} (hW : num_own.W ba bl bc h Q) : CallsH Try.prog 86 #[.slice ba bl bc] h Q := by
  have e : bodyW Try.prog num_own.H Try.f86 [.val (.slice ba bl bc)] h Q = num_own.W ba bl bc h Q := by kernel_rfl
  rw [← e] at hW
  exact calls_of_body (H := num_own.H) (args := [.val (.slice ba bl bc)]) Try.func86 Try.ntmps86 rfl rfl hW

/-! ### 50 num_Put -/
def num_Put.H : Hints := { N := 9, loc := (fun _ => false), join := (fun _ => none), loop := (fun _ => none), ifc := 0, order := (fun _ => none) }
def num_Put.W (ba : Option Addr) (bl bc : Nat) (n : Int) (h : Hp) (Q : Value → Hp → Prop) : Prop :=
  (CallsH Try.prog 86 (#[Value.slice ba bl bc]) (h) (fun (v1 : Value) (h2 : Hp) => (∃ (a3 : Option Addr), (∃ (k4 : Nat), (∃ (k5 : Nat), ((v1 = Value.slice a3 k4 k5) ∧ (CallsH Try.prog 85 (#[Value.slice a3 k4 k5, Value.int IntKind.u64 n]) (h2) (fun (v6 : Value) (h7 : Hp) => (∃ (a8 : Option Addr), (∃ (k9 : Nat), (∃ (k10 : Nat), ((v6 = Value.slice a8 k9 k10) ∧ (Q (Value.slice a8 k9 k10) h7)))))))))))))
theorem num_Put.calls (ba : Option Addr) (bl bc : Nat) (n : Int) {h : Hp} {Q : Value → Hp → Prop} (hW : num_Put.W ba bl bc n h Q) : CallsH Try.prog 50 #[.slice ba bl bc, .int .u64 n] h Q := by
  have e : bodyW Try.prog num_Put.H Try.f50 [.val (.slice ba bl bc), .val (.int .u64 n)] h Q = num_Put.W ba bl bc n h Q := by kernel_rfl
  rw [← e] at hW
  exact calls_of_body (H := num_Put.H) (args := [.val (.slice ba bl bc), .val (.int .u64 n)]) Try.func50 Try.ntmps50 rfl rfl hW

/-! ### 51 num_PutText -/
def num_PutText.H : Hints := { N := 13, loc := (fun _ => false), join := (fun _ => none), loop := (fun _ => none), ifc := 0, order := (fun _ => none) }
def num_PutText.W (ba : Option Addr) (bl bc : Nat) (s : ByteArray) (h : Hp) (Q : Value → Hp → Prop) : Prop :=
  (CallsH Try.prog 86 (#[Value.slice ba bl bc]) (h) (fun (v1 : Value) (h2 : Hp) => (∃ (a3 : Option Addr), (∃ (k4 : Nat), (∃ (k5 : Nat), ((v1 = Value.slice a3 k4 k5) ∧ (CallsH Try.prog 85 (#[Value.slice a3 k4 k5, Value.int IntKind.u64 (IntKind.u64.wrap (Int.ofNat s.size))]) (h2) (fun (v6 : Value) (h7 : Hp) => (∃ (a8 : Option Addr), (∃ (k9 : Nat), (∃ (k10 : Nat), ((v6 = Value.slice a8 k9 k10) ∧ (∃ (J11 : Option Addr → Nat → Hp → Prop), ((∀ (a12 : Option Addr), (∀ (k13 : Nat), (∀ (x14 : Hp), (((J11 a12 k13 x14)) → (Q (Value.slice a12 (k9 + s.size) k13) x14))))) ∧ (appendC Try.prog 5 a8 k9 k10 h7 (bytesV s) s.size J11)))))))))))))))
theorem num_PutText.calls (ba : Option Addr) (bl bc : Nat) (s : ByteArray) {h : Hp} {Q : Value → Hp → Prop} (hW : num_PutText.W ba bl bc s h Q) : CallsH Try.prog 51 #[.slice ba bl bc, .string s] h Q := by
  have e : bodyW Try.prog num_PutText.H Try.f51 [.val (.slice ba bl bc), .val (.string s)] h Q = num_PutText.W ba bl bc s h Q := by kernel_rfl
  rw [← e] at hW
  exact calls_of_body (H := num_PutText.H) (args := [.val (.slice ba bl bc), .val (.string s)]) Try.func51 Try.ntmps51 rfl rfl hW

end Go.Proofs.Ytagglohkipioiaa
