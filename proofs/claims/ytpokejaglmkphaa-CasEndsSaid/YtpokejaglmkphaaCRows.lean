/- CasFull, CasEnds, CasBeside, CasNils over any memory that reads as their arguments. Condition: none beyond the reading. -/
import Derived.Test.YtpokejaglmkphaaC7
import Derived.Test.YtpokejaglmkphaaCOnceRow
namespace Go.Proofs.Ytpokejaglmkphaa
open Go.Gx
set_option maxRecDepth 100000
set_option linter.unusedVariables false
theorem int_row {W : World} {a : Option Addr} {l : Nat} (hr : RowOk Try.prog W 3 a l) : ∃ ds : List Int, ds.length = l ∧ RowAt intC 1 (heapOf W) a ds := by
  have ek : kds Try.prog 3 = [.int .i64] := by kernel_rfl
  have es : Try.prog.cellsOf 3 = 1 := by kernel_rfl
  obtain ⟨L, h1, h2, _⟩ := hr.row (f := intC) (sz := 1) (p := fun _ => True) intC_len (by decide) es fun cs hk => by
    rw [ek] at hk
    obtain ⟨_, _, rfl, ⟨x, rfl, _⟩, k1⟩ := hk.cons_eq
    obtain rfl := k1.nil_eq
    exact ⟨x, rfl, trivial⟩
  exact ⟨L, h1, h2⟩
theorem full_all (W : World) (width : Int) {p1 : Prop} (_ : p1) (full : Int) {p2 : Prop} (_ : p2) (a : Option Addr) (l c : Nat) (hr : RowOk Try.prog W 9 a l ∧ l ≤ c ∧ c ≤ maxLen ∧ (a = none → l = 0 ∧ c = 0)) :
    CallsH Try.prog 4 #[.int .i64 width, .int .i64 full, .slice a l c] (heapOf W) fun v h' => v = .bool true ∧ Sub (heapOf W) h' := by
  obtain ⟨ds, rfl, hd⟩ := str_row hr.1
  exact full_core width full a c ds hd
theorem ends_all (W : World) (width : Int) {p3 : Prop} (_ : p3) (a : Option Addr) (l c : Nat) (hr : RowOk Try.prog W 9 a l ∧ l ≤ c ∧ c ≤ maxLen ∧ (a = none → l = 0 ∧ c = 0)) (a2 : Option Addr) (l2 c2 : Nat) (hr2 : RowOk Try.prog W 3 a2 l2 ∧ l2 ≤ c2 ∧ c2 ≤ maxLen ∧ (a2 = none → l2 = 0 ∧ c2 = 0)) :
    CallsH Try.prog 6 #[.int .i64 width, .slice a l c, .slice a2 l2 c2] (heapOf W) fun v h' => v = .bool true ∧ Sub (heapOf W) h' := by
  obtain ⟨ds, rfl, hd⟩ := str_row hr.1
  obtain ⟨os, rfl, ho⟩ := int_row hr2.1
  exact ends_core width a c ds hd a2 c2 os ho
theorem beside_all (W : World) (width : Int) {p4 : Prop} (_ : p4) (a : Option Addr) (l c : Nat) (hr : RowOk Try.prog W 9 a l ∧ l ≤ c ∧ c ≤ maxLen ∧ (a = none → l = 0 ∧ c = 0)) (key v : ByteArray) {p5 : Prop} (_ : p5) {p6 : Prop} (_ : p6) :
    CallsH Try.prog 7 #[.int .i64 width, .slice a l c, .agg #[.string key, .string v]] (heapOf W) fun v h' => v = .bool true ∧ Sub (heapOf W) h' := by
  obtain ⟨ds, rfl, hd⟩ := str_row hr.1
  exact beside_core width a c ds hd key v
theorem nils_all (W : World) (width : Int) {p7 : Prop} (_ : p7) (sum : ByteArray) (n : Int) {p8 : Prop} (_ : p8) {p9 : Prop} (_ : p9) (data : ByteArray) {p10 : Prop} (_ : p10) :
    CallsH Try.prog 8 #[.int .i64 width, .agg #[.string sum, .int .i64 n], .string data] (heapOf W) fun v h' => v = .bool true ∧ Sub (heapOf W) h' :=
  nils_core width sum n data
end Go.Proofs.Ytpokejaglmkphaa
