/- The statement LedgerNils: for every input the law returns true and leaves its arguments as they were. Conditions: none beyond the statement's own. -/
import Derived.Test.YtlklpdedppgkfaaRows
import Derived.Test.YtlklpdedppgkfaaLRowN
import Derived.Test.YtlklpdedppgkfaaGxL
import Derived.WalkKit
import Derived.ProofKit
import Derived.OpenShut
import Derived.ShutString
import Derived.ChangeOld
import Derived.Below
import Derived.SizedLaws
namespace Go.Proofs.Ytlklpdedppgkfaa.ledgerNils
open Go.ChangeShapes Go.WideShapes Go.ChangeAt Go.RowKit Go.Gx
open Go.ChangeMaps (open_string shut_string)
set_option linter.unusedVariables false
theorem own : ownKnob Try.prog.godebug = none := by kernel_rfl
theorem laidOut : laidOutB Try.prog = true := by kernel_rfl
set_option maxRecDepth 100000 in
theorem lifted (os : Os) (started : os.Started) (H : Type) (enc : TypeId × Value → H) :
    ReturnsInHanded {} Try.checked os 8 .any (Rows.ledgerNilsSpec.pre6 enc Try.prog Try.f8 Rows.ledgerNilsRow.domain false) (Rows.ledgerNilsSpec.post enc Try.prog Try.f8 false true false false) := by
  refine returnsInHanded_of_change (C := Try.checked) own started (by kernel_rfl) Try.func8
    (ChangeSpec.witness6 (enc := enc) (C := Try.checked) false ⟨#[], #[.int .i64 0, .agg #[.int .i64 0, .int .i64 0, .int .i64 0, .string ByteArray.empty, .int .i64 0]], []⟩ 8 (by kernel_rfl) (by kernel_rfl) (by kernel_rfl) (by kernel_rfl)) ?_
  intro W base args ds gs before hval0 hW hcnd _
  have hval : ∀ (j : Nat) t v, Try.f8.params[j]? = some t → args[j]? = some v → Value.okWide Try.prog W .any base t v := hval0
  have hW' := hW
  obtain ⟨p, q, hA0, hV, rfl, hfz, hnd⟩ := hW
  have hA : DataW.TrodAll enc Try.prog W 0 (fun _ => true) true Try.f8.params.toList args.toList ds p := hA0
  rw [Try.params8] at hA hval
  obtain ⟨v0, vs0, d0, ds0, p0, q0, hargs, rfl, rfl, h0, r0⟩ := trodAll_cons hA
  obtain ⟨v1, vs1, d1, ds1, p1, q1, rfl, rfl, rfl, h1, r1⟩ := trodAll_cons r0
  obtain ⟨rfl, rfl, rfl⟩ := trodAll_nil r1
  obtain rfl : args = #[v0, v1] := by cases args; simp_all
  obtain ⟨rfl, rfl⟩ := trodVars_none hV
  have k0 := h0
  have lt0 : ∀ x ∈ p0, x.block < W.heap.size := by obtain ⟨m, hm⟩ := k0; exact DataW.trod_lt m _ _ _ hm
  obtain ⟨a0, rfl, rfl, rfl, w0⟩ := open_int Try.underlying3 (hval 0 3 v0 rfl rfl) h0
  have k1 := h1
  have lt1 : ∀ x ∈ p1, x.block < W.heap.size := by obtain ⟨m, hm⟩ := k1; exact DataW.trod_lt m _ _ _ hm
  obtain ⟨cs1, rfl, w1⟩ := agg_ok (by kernel_rfl) (by kernel_rfl) (hval 1 40 v1 rfl rfl) h1
  have w1 : KdsOk [.int .i64, .int .i64, .int .i64, .str, .int .i64] cs1.toList := w1
  generalize hcs1 : cs1.toList = l1 at w1
  obtain ⟨_, _, rfl, ⟨a1_0, rfl, u1_0⟩, w1_0⟩ := KdsOk.cons_eq w1
  obtain ⟨_, _, rfl, ⟨a1_1, rfl, u1_1⟩, w1_1⟩ := KdsOk.cons_eq w1_0
  obtain ⟨_, _, rfl, ⟨a1_2, rfl, u1_2⟩, w1_2⟩ := KdsOk.cons_eq w1_1
  obtain ⟨_, _, rfl, ⟨a1_3, rfl, u1_3⟩, w1_3⟩ := KdsOk.cons_eq w1_2
  obtain ⟨_, _, rfl, ⟨a1_4, rfl, u1_4⟩, w1_4⟩ := KdsOk.cons_eq w1_3
  obtain rfl := KdsOk.nil_eq w1_4
  obtain rfl : cs1 = #[.int .i64 a1_0, .int .i64 a1_1, .int .i64 a1_2, .string a1_3, .int .i64 a1_4] := by cases cs1; simp_all
  clear hA0 hval0
  refine (calls_below (nils_all W a0 w0 a1_0 a1_1 a1_2 a1_3 a1_4 u1_0 u1_1 u1_2 u1_3 u1_4)).mono fun e W' ⟨he, bel⟩ => ?_
  subst he
  exact ⟨_, rfl, _, _, _, [], _, [], hW', trodAll_mk1 (shut_bool Try.underlying4 _), (trodAll_cons_mk (Below.trod laidOut (by kernel_rfl) (of_decide_eq_true (by kernel_rfl)) k0 bel lt0) (trodAll_cons_mk (Below.trod laidOut (by kernel_rfl) (of_decide_eq_true (by kernel_rfl)) k1 bel lt1) trodAll_mk0)), rfl, bel.frame _, fun h => by cases h⟩
theorem over : Rows.ledgerNilsRow.holds Try.pinned (OpenSpec.ofChange Rows.ledgerNilsSpec) :=
  OpenClaim.holds_of_wide 8 Try.f8 rfl rfl rfl rfl rfl rfl rfl ⟨rfl, rfl, rfl, rfl, rfl⟩ rfl rfl rfl rfl rfl (by kernel_rfl) Try.func8 (by kernel_rfl)
    (of_decide_eq_true (by kernel_rfl)) (by unfold Func.isWrapper; first | (rw [if_pos (by decide +kernel)]; kernel_rfl) | (rw [if_neg (by decide +kernel)]; exact ⟨rfl, rfl⟩))
    (fun os started H enc _ => lifted os started H enc)
theorem proved : Rows.LedgerNilsSaid := over
end Go.Proofs.Ytlklpdedppgkfaa.ledgerNils
namespace Go.Proofs.Ytlklpdedppgkfaa
theorem ledgerNils_holds : Rows.LedgerNilsSaid := ledgerNils.proved
#print axioms ledgerNils_holds
end Go.Proofs.Ytlklpdedppgkfaa
