/- The statement PagerWhole: for every input the law returns true and leaves its arguments as they were. Conditions: none beyond the statement's own. -/
import Derived.Test.YtagglohkipioiaaGreatRows
import Derived.Test.YtagglohkipioiaaGreatWRow
import Derived.Test.YtagglohkipioiaaGreatGxN
import Derived.Test.YtagglohkipioiaaGreatGxL
import Derived.WalkKit
import Derived.ProofKit
import Derived.OpenShut
import Derived.ShutString
import Derived.ChangeOld
import Derived.Below
import Derived.SizedLaws
namespace Go.Proofs.YtagglohkipioiaaGreat.pagerWhole
open Go.ChangeShapes Go.WideShapes Go.ChangeAt Go.RowKit Go.Gx
open Go.ChangeMaps (open_string shut_string)
set_option linter.unusedVariables false
theorem own : ownKnob Tryz.prog.godebug = none := by kernel_rfl
theorem laidOut : laidOutB Tryz.prog = true := by kernel_rfl
set_option maxRecDepth 100000 in
theorem lifted (os : Os) (started : os.Started) (H : Type) (enc : TypeId × Value → H) :
    ReturnsInHanded {} Tryz.checked os 5 .any (Rows.pagerWholeSpec.pre6 enc Tryz.prog Tryz.f5 Rows.pagerWholeRow.domain false) (Rows.pagerWholeSpec.post enc Tryz.prog Tryz.f5 false true false false) := by
  refine returnsInHanded_of_change (C := Tryz.checked) own started (by kernel_rfl) Tryz.func5
    (ChangeSpec.witness6 (enc := enc) (C := Tryz.checked) false ⟨#[], #[.agg #[.int .i64 0, .slice none 0 0, .slice none 0 0, .int .i64 0, .slice none 0 0]], []⟩ 8 (by kernel_rfl) (by kernel_rfl) (by kernel_rfl) (by kernel_rfl)) ?_
  intro W base args ds gs before hval0 hW hcnd _
  have hval : ∀ (j : Nat) t v, Tryz.f5.params[j]? = some t → args[j]? = some v → Value.okWide Tryz.prog W .any base t v := hval0
  have hW' := hW
  obtain ⟨p, q, hA0, hV, rfl, hfz, hnd⟩ := hW
  have hA : DataW.TrodAll enc Tryz.prog W 0 (fun _ => true) true Tryz.f5.params.toList args.toList ds p := hA0
  rw [Tryz.params5] at hA hval
  obtain ⟨v0, vs0, d0, ds0, p0, q0, hargs, rfl, rfl, h0, r0⟩ := trodAll_cons hA
  obtain ⟨rfl, rfl, rfl⟩ := trodAll_nil r0
  obtain rfl : args = #[v0] := by cases args; simp_all
  obtain ⟨rfl, rfl⟩ := trodVars_none hV
  have k0 := h0
  have lt0 : ∀ x ∈ p0, x.block < W.heap.size := by obtain ⟨m, hm⟩ := k0; exact DataW.trod_lt m _ _ _ hm
  obtain ⟨cs0, rfl, w0⟩ := agg_ok (by kernel_rfl) (by kernel_rfl) (hval 0 59 v0 rfl rfl) h0
  have w0 : KdsOk [.int .i64, .slice, .slice, .int .i64, .slice] cs0.toList := w0
  generalize hcs0 : cs0.toList = l0 at w0
  obtain ⟨_, _, rfl, ⟨a0_0, rfl, u0_0⟩, w0_0⟩ := KdsOk.cons_eq w0
  obtain ⟨_, _, rfl, ⟨a0_1, l0_1, c0_1, rfl, u0_1⟩, w0_1⟩ := KdsOk.cons_eq w0_0
  obtain ⟨_, _, rfl, ⟨a0_2, l0_2, c0_2, rfl, u0_2⟩, w0_2⟩ := KdsOk.cons_eq w0_1
  obtain ⟨_, _, rfl, ⟨a0_3, rfl, u0_3⟩, w0_3⟩ := KdsOk.cons_eq w0_2
  obtain ⟨_, _, rfl, ⟨a0_4, l0_4, c0_4, rfl, u0_4⟩, w0_4⟩ := KdsOk.cons_eq w0_3
  obtain rfl := KdsOk.nil_eq w0_4
  obtain rfl : cs0 = #[.int .i64 a0_0, .slice a0_1 l0_1 c0_1, .slice a0_2 l0_2 c0_2, .int .i64 a0_3, .slice a0_4 l0_4 c0_4] := by cases cs0; simp_all
  have r0_1 := field_row Tryz.underlying59 h0 (j := 1) (o := 1) (by kernel_rfl) Tryz.underlying22 (by kernel_rfl) (by kernel_rfl) (by kernel_rfl) rfl
  have r0_2 := field_row Tryz.underlying59 h0 (j := 2) (o := 2) (by kernel_rfl) Tryz.underlying22 (by kernel_rfl) (by kernel_rfl) (by kernel_rfl) rfl
  have r0_4 := field_row Tryz.underlying59 h0 (j := 4) (o := 4) (by kernel_rfl) Tryz.underlying31 (by kernel_rfl) (by kernel_rfl) (by kernel_rfl) rfl
  clear hA0 hval0
  refine (calls_below (whole_all W a0_0 a0_1 l0_1 c0_1 a0_2 l0_2 c0_2 a0_3 a0_4 l0_4 c0_4 u0_0 u0_3 r0_1 r0_2 r0_4)).mono fun e W' ⟨he, bel⟩ => ?_
  subst he
  exact ⟨_, rfl, _, _, _, [], _, [], hW', trodAll_mk1 (shut_bool Tryz.underlying4 _), (trodAll_cons_mk (Below.trod laidOut (by kernel_rfl) (of_decide_eq_true (by kernel_rfl)) k0 bel lt0) trodAll_mk0), rfl, bel.frame _, fun h => by cases h⟩
theorem over : Rows.pagerWholeRow.holds Tryz.pinned (OpenSpec.ofChange Rows.pagerWholeSpec) :=
  OpenClaim.holds_of_wide 5 Tryz.f5 rfl rfl rfl rfl rfl rfl rfl ⟨rfl, rfl, rfl, rfl, rfl⟩ rfl rfl rfl rfl rfl (by kernel_rfl) Tryz.func5 (by kernel_rfl)
    (of_decide_eq_true (by kernel_rfl)) (by unfold Func.isWrapper; first | (rw [if_pos (by decide +kernel)]; kernel_rfl) | (rw [if_neg (by decide +kernel)]; exact ⟨rfl, rfl⟩))
    (fun os started H enc _ => lifted os started H enc)
theorem proved : Rows.PagerWholeSaid := over
end Go.Proofs.YtagglohkipioiaaGreat.pagerWhole
namespace Go.Proofs.YtagglohkipioiaaGreat
theorem pagerWhole_holds : Rows.PagerWholeSaid := pagerWhole.proved
#print axioms pagerWhole_holds
end Go.Proofs.YtagglohkipioiaaGreat
