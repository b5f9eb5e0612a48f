/- The row of operations as it is handed in; BtreePlays over it. Condition: none beyond the reading. BtreeWhole over rows that are handed in. Condition: none beyond the reading. The statement BtreeWhole: for every input the law returns true and leaves its arguments as they were. Conditions: none beyond the statement's own. -/
import Derived.Test.YthbogjbcecmopaaGreatDoorPw06
import Derived.Test.YthbogjbcecmopaaGreatDoorRows
import Derived.WalkKit
import Derived.ProofKit
import Derived.OpenShut
import Derived.ShutString
import Derived.ChangeOld
import Derived.Below
import Derived.SizedLaws
import Derived.Test.YthbogjbcecmopaaGreatDoorTie
import Derived.Test.YthbogjbcecmopaaGreatDoorCards
import Derived.LaidMore
import Derived.Lay
import Derived.SevenTiedAt
import Derived.Stop.Joined
namespace Go.Proofs.YthbogjbcecmopaaGreatDoor
open Go.Gx
set_option maxRecDepth 100000
set_option linter.unusedVariables false
theorem op6_row {W : World} {a : Option Addr} {l : Nat} (hr : RowOk Tryz.prog W 48 a l) : ∃ os : List Op6, os.length = l ∧ RowAt op6C 6 (heapOf W) a os := by
  have ek : kds Tryz.prog 48 = [.int .i64, .int .i64, .int .i64, .str, .str, .str] := by kernel_rfl
  have es : Tryz.prog.cellsOf 48 = 6 := by kernel_rfl
  obtain ⟨os, h1, h2, _⟩ := hr.row (f := op6C) (sz := 6) (p := fun _ => True) op6C_len (by decide) es fun cs hk => by
    rw [ek] at hk
    obtain ⟨_, _, rfl, ⟨u, rfl, _⟩, k1⟩ := hk.cons_eq
    obtain ⟨_, _, rfl, ⟨n, rfl, _⟩, k2⟩ := k1.cons_eq
    obtain ⟨_, _, rfl, ⟨w, rfl, _⟩, k3⟩ := k2.cons_eq
    obtain ⟨_, _, rfl, ⟨x, rfl, _⟩, k4⟩ := k3.cons_eq
    obtain ⟨_, _, rfl, ⟨y, rfl, _⟩, k5⟩ := k4.cons_eq
    obtain ⟨_, _, rfl, ⟨z, rfl, _⟩, k6⟩ := k5.cons_eq
    obtain rfl := k6.nil_eq
    exact ⟨⟨u, n, w, x, y, z⟩, rfl, trivial⟩
  exact ⟨os, h1, h2⟩
end Go.Proofs.YthbogjbcecmopaaGreatDoor
namespace Go.Proofs.YthbogjbcecmopaaGreatDoor
open Go.Gx Go.RowKit
set_option maxRecDepth 100000
set_option linter.unusedVariables false
theorem elem_row {H : Type} {enc : TypeId × Value → H} {P : Program} {w : World} {sp : Nat → Bool} {t et e : TypeId} {n j : Nat} {cs : Array Value} {d : DataW H} {ps : List MemPlace} {a : Option Addr} {l c : Nat} (hu : P.underlying t = some (.array n et)) (h : DataW.Trod enc P w 0 sp true t (.agg cs) d ps)
    (hj : j < n) (hft : P.underlying et = some (.slice e)) (hlay : layOk P 8 e = true) (hpos : Nat.blt 0 (P.cellsOf e) = true) (hz : P.cellsOf et = 1) (hc : (cs.toList.drop j).take 1 = [.slice a l c]) :
    RowOk P w e a l ∧ l ≤ c ∧ c ≤ maxLen ∧ (a = none → l = 0 ∧ c = 0) := by
  obtain ⟨fuel, hF⟩ := h
  obtain ⟨xs, m, rfl, _, _, hn, hel⟩ := DataW.trod_array hu hF
  have h1 := hel j hj
  have hc' : ((Value.agg cs).cells.toList.drop j).take 1 = [.slice a l c] := hc
  rw [hz, Nat.mul_one, hc', List.getElem?_eq_getElem (by omega)] at h1
  exact row_ok (d := xs[j].1) (ps := xs[j].2) hft hlay hpos rfl ⟨m, h1⟩
theorem bool_row {W : World} {a : Option Addr} {l : Nat} (hr : RowOk Tryz.prog W 4 a l) : ∃ os : List Bool, os.length = l ∧ RowAt boolC 1 (heapOf W) a os ∧ ∀ o ∈ os, True := by
  have ek : kds Tryz.prog 4 = [.bool] := by kernel_rfl
  have es : Tryz.prog.cellsOf 4 = 1 := by kernel_rfl
  exact hr.row (f := boolC) (sz := 1) (p := fun _ => True) boolC_len (by decide) es fun cs hk => by
    rw [ek] at hk
    obtain ⟨_, _, rfl, ⟨b, rfl⟩, k1⟩ := hk.cons_eq
    obtain rfl := k1.nil_eq
    exact ⟨b, rfl, trivial⟩
theorem bwhole_all (W : World) (cut : Int) (hcut : (Lit.int IntKind.i64 cut).wf = true) (a4 : Option Addr) (l4 c4 : Nat) (hr4 : RowOk Tryz.prog W 4 a4 l4 ∧ l4 ≤ c4 ∧ c4 ≤ maxLen ∧ (a4 = none → l4 = 0 ∧ c4 = 0))
    (a : Option Addr) (l c : Nat) (a2 : Option Addr) (l2 c2 : Nat) (hr : RowOk Tryz.prog W 48 a l ∧ l ≤ c ∧ c ≤ maxLen ∧ (a = none → l = 0 ∧ c = 0)) (hr2 : RowOk Tryz.prog W 48 a2 l2 ∧ l2 ≤ c2 ∧ c2 ≤ maxLen ∧ (a2 = none → l2 = 0 ∧ c2 = 0)) :
    CallsH Tryz.prog law15_BtreeWhole.id #[.agg #[.slice a l c, .slice a2 l2 c2], .int .i64 cut, .slice a4 l4 c4] (heapOf W) fun v h' => v = .bool true ∧ Sub (heapOf W) h' := by
  obtain ⟨os, rfl, ho⟩ := op6_row hr.1
  obtain ⟨os2, rfl, ho2⟩ := op6_row hr2.1
  obtain ⟨ps, rfl, hps, _⟩ := bool_row hr4.1
  have h2 := (Bool.and_eq_true_iff.1 (show (decide (IntKind.i64.min ≤ cut) && decide (cut ≤ IntKind.i64.max)) = true from hcut))
  have h4 := of_decide_eq_true h2.2
  have e4 : IntKind.i64.max = 9223372036854775807 := by decide
  exact bwhole_core a c os ho a2 c2 os2 ho2 cut (by omega) a4 c4 ps hps
end Go.Proofs.YthbogjbcecmopaaGreatDoor
namespace Go.Proofs.YthbogjbcecmopaaGreatDoor.btreeWhole
open Go.ChangeShapes Go.WideShapes Go.ChangeAt Go.RowKit Go.Gx
open Go.ChangeMaps (open_string shut_string)
set_option linter.unusedVariables false
theorem own : ownKnob Tryz.prog.godebug = none := by kernel_rfl
theorem laidOut : laidOutB Tryz.prog = true := by kernel_rfl
set_option maxRecDepth 100000 in
theorem lifted (os : Os) (started : os.Started) (H : Type) (enc : TypeId × Value → H) :
    ReturnsInHanded {} Tryz.checked os 5 .any (fun w args => (Rows.btreeWholeSpec.pre enc Tryz.prog Tryz.f5 Rows.btreeWholeRow.domain false w args ∧ laidMetH Tryz.prog Rows.btreeWholeRow.laid w) ∧ sizedMet enc Tryz.prog Tryz.f5 (OpenSpec.ofChange Rows.btreeWholeSpec) false w args) (Rows.btreeWholeSpec.post enc Tryz.prog Tryz.f5 false true false false) := by
  refine returnsInHanded_of_change_and (C := Tryz.checked) (X := fun w _ => laidMetH Tryz.prog Rows.btreeWholeRow.laid w) (fun _ _ _ hh h => h.of_heap hh) own started (by kernel_rfl) Tryz.func5
    (ChangeSpec.witness_shaped (enc := enc) (C := Tryz.checked) (os := os) (X := fun w _ => laidMetH Tryz.prog Rows.btreeWholeRow.laid w) false (World.laidAll Tryz.prog os Rows.btreeWholeRow.laid) #[.agg #[.slice none 0 0, .slice none 0 0], .int .i64 0, .slice none 0 0] 8 (World.laidAll_os _ _ _)
      (World.shaped_of_ZipB (by kernel_rfl) (by kernel_rfl)) (by kernel_rfl) (by kernel_rfl) (by kernel_rfl)
      (by rw [MakeChecks.laidMetH_plain _ _ _ (by kernel_rfl)]; exact laidMet_laidAll _ (by kernel_rfl) (by kernel_rfl))) ?_
  intro W base args ds gs before hval0 hW hcnd hz _ _
  have hval : ∀ (j : Nat) t v, Tryz.f5.params[j]? = some t → args[j]? = some v → Value.okWide Tryz.prog W .any base t v := hval0
  have hW' := hW
  obtain ⟨p, q, hA0, hV, rfl, hfz, hnd⟩ := hW
  have hA : DataW.TrodAll enc Tryz.prog W 0 (fun _ => true) true Tryz.f5.params.toList args.toList ds p := hA0
  rw [Tryz.params5] at hA hval
  obtain ⟨v0, vs0, d0, ds0, p0, q0, hargs, rfl, rfl, h0, r0⟩ := trodAll_cons hA
  obtain ⟨v1, vs1, d1, ds1, p1, q1, rfl, rfl, rfl, h1, r1⟩ := trodAll_cons r0
  obtain ⟨v2, vs2, d2, ds2, p2, q2, rfl, rfl, rfl, h2, r2⟩ := trodAll_cons r1
  obtain ⟨rfl, rfl, rfl⟩ := trodAll_nil r2
  obtain rfl : args = #[v0, v1, v2] := by cases args; simp_all
  obtain ⟨rfl, rfl⟩ := trodVars_none hV
  have k0 := h0
  have lt0 : ∀ x ∈ p0, x.block < W.heap.size := by obtain ⟨m, hm⟩ := k0; exact DataW.trod_lt m _ _ _ hm
  have k1 := h1
  have lt1 : ∀ x ∈ p1, x.block < W.heap.size := by obtain ⟨m, hm⟩ := k1; exact DataW.trod_lt m _ _ _ hm
  obtain ⟨a1, rfl, rfl, rfl, w1⟩ := open_int Tryz.underlying3 (hval 1 3 v1 rfl rfl) h1
  have k2 := h2
  have lt2 : ∀ x ∈ p2, x.block < W.heap.size := by obtain ⟨m, hm⟩ := k2; exact DataW.trod_lt m _ _ _ hm
  obtain ⟨a2, l2, c2, rfl⟩ := okWide_slice Tryz.underlying59 (hval 2 59 v2 rfl rfl)
  have w2 := row_ok Tryz.underlying59 (by kernel_rfl) (by kernel_rfl) rfl h2
  obtain ⟨cs0, rfl, w0⟩ := agg_ok (by kernel_rfl) (by kernel_rfl) (hval 0 58 v0 rfl rfl) h0
  have w0 : KdsOk [.slice, .slice] cs0.toList := w0
  generalize hcs0 : cs0.toList = l0 at w0
  obtain ⟨_, _, rfl, ⟨a0_0, l0_0, c0_0, rfl, u0_0⟩, w0_0⟩ := KdsOk.cons_eq w0
  obtain ⟨_, _, rfl, ⟨a0_1, l0_1, c0_1, rfl, u0_1⟩, w0_1⟩ := KdsOk.cons_eq w0_0
  obtain rfl := KdsOk.nil_eq w0_1
  obtain rfl : cs0 = #[.slice a0_0 l0_0 c0_0, .slice a0_1 l0_1 c0_1] := by cases cs0; simp_all
  have r0_0 := elem_row Tryz.underlying58 h0 (j := 0) (by decide) Tryz.underlying57 (by kernel_rfl) (by kernel_rfl) (by kernel_rfl) rfl
  have r0_1 := elem_row Tryz.underlying58 h0 (j := 1) (by decide) Tryz.underlying57 (by kernel_rfl) (by kernel_rfl) (by kernel_rfl) rfl
  clear hA0 hval0
  refine (calls_below (bwhole_all W a1 w1 a2 l2 c2 w2 a0_0 l0_0 c0_0 a0_1 l0_1 c0_1  r0_0 r0_1)).mono fun e W' ⟨he, bel⟩ => ?_
  subst he
  exact ⟨_, rfl, _, _, _, [], _, [], hW', trodAll_mk1 (shut_bool Tryz.underlying4 _), (trodAll_cons_mk (Below.trod laidOut (by kernel_rfl) (of_decide_eq_true (by kernel_rfl)) k0 bel lt0) (trodAll_cons_mk (Below.trod laidOut (by kernel_rfl) (of_decide_eq_true (by kernel_rfl)) k1 bel lt1) (trodAll_cons_mk (Below.trod laidOut (by kernel_rfl) (of_decide_eq_true (by kernel_rfl)) k2 bel lt2) trodAll_mk0))), rfl, bel.frame _, fun h => by cases h⟩
theorem over : Rows.btreeWholeRow.holds Tryz.pinned (OpenSpec.ofChange Rows.btreeWholeSpec) :=
  OpenClaim.holds_of_wide 5 Tryz.f5 rfl rfl rfl rfl rfl rfl rfl ⟨rfl, rfl, rfl, rfl, rfl⟩ rfl rfl rfl rfl rfl (by kernel_rfl) Tryz.func5 (by kernel_rfl)
    (of_decide_eq_true (by kernel_rfl)) (by unfold Func.isWrapper; first | (rw [if_pos (by decide +kernel)]; kernel_rfl) | (rw [if_neg (by decide +kernel)]; exact ⟨rfl, rfl⟩))
    (fun os started H enc _ => lifted os started H enc)
theorem proved : Rows.BtreeWholeSaid := over
end Go.Proofs.YthbogjbcecmopaaGreatDoor.btreeWhole
namespace Go.Proofs.YthbogjbcecmopaaGreatDoor
theorem btreeWhole_holds : Rows.BtreeWholeCardSaid :=
  Claim7.holds_tied_plain_at .later [] [.data, .pinned] true (true, "88b840c6857e141b8992512d7463ed0858dbf39f2fe20160b127cdf65cb1e027") true
    btreeWhole.proved (fun _ h => by cases h) (by kernel_rfl) (fun _ h => by cases h) btreeWhole_row_tie rfl ⟨rfl, rfl⟩ (by kernel_rfl) rfl
    (fun f fn hf hfn => by
      obtain rfl : f = 5 := Option.some.inj ((show Tryz.prog.funcNamed Rows.btreeWholeRow.func = some 5 by kernel_rfl).symm.trans hf) |>.symm
      obtain rfl : fn = Tryz.f5 := (Option.some.inj (Tryz.func5.symm.trans hfn)).symm
      exact ⟨by kernel_rfl, fun j t ht => by
        rw [Tryz.params5] at ht
        have hm : t ∈ [58, 3, 59] := by simpa using Array.mem_of_getElem? ht
        have hall : ([58, 3, 59].all fun u => !Tryz.prog.wantsStandIn u) = true := by kernel_rfl
        exact (show Tryz.prog.wantsStandIn t = false by simpa using List.all_eq_true.1 hall t hm)⟩)
    (by kernel_rfl)
#print axioms btreeWhole_holds
end Go.Proofs.YthbogjbcecmopaaGreatDoor
