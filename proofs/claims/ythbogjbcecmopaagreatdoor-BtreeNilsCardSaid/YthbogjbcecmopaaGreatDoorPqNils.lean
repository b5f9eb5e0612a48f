/- Nil trees; the core of BtreeNils. Conditions: none. BtreeNils at a world. Conditions: none. The statement BtreeNils: for every input the law returns true and leaves its arguments as they were. Conditions: none beyond the statement's own. -/
import Derived.Test.YthbogjbcecmopaaGreatDoorPq07
import Derived.Test.YthbogjbcecmopaaGreatDoorRows
import Derived.WalkKit
import Derived.ProofKit
import Derived.OpenShut
import Derived.ShutString
import Derived.ChangeOld
import Derived.Below
import Derived.SizedLaws
import Derived.Test.YthbogjbcecmopaaGreatDoorTie
import Derived.Test.YthbogjbcecmopaaGreatDoorCards
import Derived.LaidMore
import Derived.Lay
import Derived.SevenTiedAt
import Derived.Stop.Joined
namespace Go.Proofs.YthbogjbcecmopaaGreatDoor
open Go.Gx
set_option maxRecDepth 100000
set_option linter.unusedVariables false
variable {h : Hp} {K : Value → Hp → Prop}
theorem get_nil (key : ByteArray) (hK : K (.tuple #[.string eB, .bool false]) h) : CallsH Tryz.prog btree_Tree_Get.id #[.pointer none, .string key] h K := by
  apply btree_Tree_Get_n.calls
  unfold btree_Tree_Get_n.W
  exact hK
theorem range_nil (f t : ByteArray) (m : Int) (hK : ∀ h', Sub h h' → K (.slice none 0 0) h') : CallsH Tryz.prog btree_Tree_Range.id #[.pointer none, .string f, .string t, .int .i64 m] h K := by
  apply btree_Tree_Range_n.calls
  unfold btree_Tree_Range_n.W
  intro k1 hk1 k2 hk2 k3 hk3 k4 hk4 k5 hk5
  have s1 := Sub.upd hk1 (.cells #[Value.pointer none] 25 (0, 0))
  have B1 := Blk.new h k1 25 [.pointer none]
  have s2 := Sub.upd hk2 (.cells #[Value.string f] 9 (0, 0))
  have s3 := Sub.upd hk3 (.cells #[Value.string t] 9 (0, 0))
  have s4 := Sub.upd hk4 (.cells #[Value.int .i64 m] 3 (0, 0))
  have s5 := Sub.upd hk5 (.cells #[Value.slice none 0 0] 37 (0, 0))
  have B5 := Blk.new ((((h.upd k1 (.cells #[Value.pointer none] 25 (0, 0))).upd k2 (.cells #[Value.string f] 9 (0, 0))).upd k3 (.cells #[Value.string t] 9 (0, 0))).upd k4 (.cells #[Value.int .i64 m] 3 (0, 0))) k5 37 [.slice none 0 0]
  have s25 := s2.trans (s3.trans (s4.trans s5))
  exact ⟨_, (B1.sub s25).cell' 0 rfl, split_cond (fun _ => ⟨_, _, _, B5.cell' 0 rfl, hK _ (s1.trans s25)⟩) fun e => by cases e⟩
theorem next_nil (key : ByteArray) (hkey : key.size ≤ 100000) (hK : ∀ h', Sub h h' → K (pairV none) h') : CallsH Tryz.prog btree_Tree_Next.id #[.pointer none, .string key] h K := by
  apply btree_Tree_Next_n.calls
  unfold btree_Tree_Next_n.W
  refine ⟨?_, repeat_spec ⟨_, rfl, range_nil _ _ _ fun h' s => ⟨_, _, _, rfl, split_eq (fun _ => hK h' s) fun e => absurd rfl e⟩⟩⟩
  show key.size + 1 ≤ _
  omega
theorem prev_nil (key : ByteArray) (hK : ∀ h', Sub h h' → K (pairV none) h') : CallsH Tryz.prog btree_Tree_Prev.id #[.pointer none, .string key] h K := by
  apply btree_Tree_Prev_n.calls
  unfold btree_Tree_Prev_n.W
  intro k1 hk1 k2 hk2
  have s1 := Sub.upd hk1 (.cells #[Value.pointer none] 25 (0, 0))
  have B1 := Blk.new h k1 25 [.pointer none]
  have s2 := Sub.upd hk2 (.cells #[Value.string key] 9 (0, 0))
  exact ⟨_, (B1.sub s2).cell' 0 rfl, split_cond (fun _ => hK _ (s1.trans s2)) fun e => by cases e⟩
theorem clear_nil (hK : K (.tuple #[]) h) : CallsH Tryz.prog btree_Tree_Clear.id #[.pointer none] h K := by
  apply btree_Tree_Clear_n.calls
  unfold btree_Tree_Clear_n.W
  exact hK
theorem put_nil' (key v : ByteArray) (hK : K (.int .i64 1) h) : CallsH Tryz.prog btree_Tree_Put.id #[.pointer none, .string key, .string v] h K := by
  apply btree_Tree_Put_n.calls
  unfold btree_Tree_Put_n.W
  exact hK
theorem drop_nil (key : ByteArray) (hK : K (.bool false) h) : CallsH Tryz.prog btree_Tree_Drop.id #[.pointer none, .string key] h K := by
  apply btree_Tree_Drop_n.calls
  unfold btree_Tree_Drop_n.W
  exact ⟨fun _ => False, fun x hx => hx.elim, Sub.refl _, hK⟩
theorem height_nil (hK : K (.int .i64 0) h) : CallsH Tryz.prog btree_Tree_Height.id #[.pointer none] h K := by
  apply btree_Tree_Height_n.calls
  unfold btree_Tree_Height_n.W
  exact hK
theorem check_nil (hK : ∀ h', Sub h h' → K (.int .i64 1) h') : CallsH Tryz.prog btree_Tree_Check.id #[.pointer none] h K := by
  apply btree_Tree_Check_n.calls
  unfold btree_Tree_Check_n.W
  intro k1 hk1
  have s1 := Sub.upd hk1 (.cells #[Value.pointer none] 25 (0, 0))
  have B1 := Blk.new h k1 25 [.pointer none]
  exact ⟨_, B1.cell' 0 rfl, split_cond (fun _ => hK _ s1) fun e => by cases e⟩
theorem each_nil (fv : Value) (hfv : cellsOfV fv = [fv]) (hK : ∀ h', Sub h h' → K (.tuple #[]) h') : CallsH Tryz.prog btree_Tree_each.id #[.pointer none, fv] h K := by
  apply btree_Tree_each_n.calls
  unfold btree_Tree_each_n.W
  intro k1 hk1
  have s1 := Sub.upd hk1 (.cells #[Value.pointer none] 25 (0, 0))
  have B1 := Blk.new h k1 25 [.pointer none]
  generalize h.upd k1 (.cells #[Value.pointer none] 25 (0, 0)) = y1 at s1 B1 ⊢
  intro k2 hk2
  rw [hfv]
  have s2 := Sub.upd hk2 (.cells [fv].toArray 104 (0, 0))
  generalize y1.upd k2 (.cells [fv].toArray 104 (0, 0)) = y2 at s2 ⊢
  intro k3 hk3
  obtain ⟨s3, B3⟩ := fresh_put (t := 112) (vs := [.nilFunc]) (us := [.func (.func 92) #[] #[.pointer (some ⟨k1, 0, none⟩), .pointer (some ⟨k3, 0, none⟩), .pointer (some ⟨k2, 0, none⟩)]]) hk3
  refine ⟨(Blk.new y2 k3 112 [.nilFunc]).store (by show 1 ≤ 1; decide), ?_⟩
  exact ⟨_, (B1.sub (s2.trans s3)).cell' 0 rfl, split_not (fun e => by cases e) fun _ => hK _ (s1.trans (s2.trans s3))⟩
theorem len_nil (hK : ∀ h', Sub h h' → K (.int .i64 0) h') : CallsH Tryz.prog btree_Tree_Len.id #[.pointer none] h K := by
  apply btree_Tree_Len_n.calls
  unfold btree_Tree_Len_n.W
  intro k1 hk1
  obtain ⟨s1, B1⟩ := fresh_put (t := 3) (vs := [.int .i64 0]) (us := [.int .i64 0]) hk1
  refine ⟨(Blk.new h k1 3 [.int .i64 0]).store (by show 1 ≤ 1; decide), ?_⟩
  exact each_nil _ rfl fun h' s => ⟨rfl, _, (B1.sub s).cell' 0 rfl, hK h' (s1.trans s)⟩
theorem open_nil (k : Int) (hK : K (.tuple #[.pointer none, .int .i64 1]) h) : CallsH Tryz.prog btree_Open.id #[.pointer none, .int .i64 k] h K := by
  apply btree_Open_n.calls
  unfold btree_Open_n.W
  exact ⟨fun _ => False, fun x hx => hx.elim, hK⟩
set_option maxHeartbeats 2000000 in
theorem nils_core {h : Hp} (k a b c : Int) (x y z : ByteArray) : CallsH Tryz.prog law15_BtreeNils.id #[.int .i64 k, .agg #[.int .i64 a, .int .i64 b, .int .i64 c, .string x, .string y, .string z]] h fun v h' => v = .bool true ∧ Sub h h' := by
  apply law15_BtreeNils.calls
  unfold law15_BtreeNils.W
  have hh : ∀ s : ByteArray, beqS s s = true := fun s => by rw [beqS_val]; exact decide_eq_true rfl
  refine light_spec a b c x y z ⟨_, rfl, split_not (fun _ => lives_spec fun h' s => ⟨_, rfl, rfl, s⟩) fun e => by cases e⟩ fun hx hy hz => ⟨_, rfl, split_not (fun e => by cases e) fun _ => ?_⟩
  refine get_nil x ⟨_, _, rfl, next_nil x (by omega) fun h12 s12 => ⟨_, _, _, rfl, prev_nil x fun h17 s17 => ⟨_, _, _, rfl, clear_nil ⟨rfl, fun x => Sub h x, ?_, ?_⟩⟩⟩⟩
  · intro x sx
    refine opened_spec 5 (by decide) (by decide) fun h26 tb pb jb db S s26 E fr T n2 nt => ⟨_, _, _, rfl, open_nil k ⟨_, _, rfl, ?_⟩⟩
    have s26 := sx.trans s26
    by_cases hk : 0 ≤ k ∧ k < 4
    · obtain ⟨q, rfl⟩ : ∃ q : Nat, k = (q : Int) := ⟨k.toNat, by omega⟩
      have hq : q < 4 := by omega
      refine open_spec E hq (fun h35 tb2 s35 n35 T35 _ => ⟨_, _, rfl, fun b x => b = true ∧ Sub h x, ?_, ?_⟩) fun no => absurd ⟨0, [], [], rfl, rfl, rfl⟩ no
      · rintro b x ⟨rfl, sx⟩
        exact split_cond (fun _ => split_eq (fun _ => split_cond (fun _ => split_cond (fun _ => split_cond (fun _ => lives_spec fun h' s => ⟨_, rfl, rfl, sx.trans s⟩) fun e => absurd e (by rw [hb_eq]; decide)) fun e => absurd e (by rw [hb_eq]; decide)) fun e => by cases e) fun e => absurd rfl e) fun e => by cases e
      · have ev : hb (decide (((q : Nat) : Int) ≤ 3)) = true := by rw [hb_eq]; exact decide_eq_true (by omega)
        rw [ev]
        exact split_dec (fun _ => ⟨rfl, s26.trans s35⟩) fun e => by omega
    · refine open_bad k (by omega) ⟨_, _, rfl, fun b x => b = false ∧ Sub h x, ?_, ?_⟩
      · rintro b x ⟨rfl, sx⟩
        exact split_cond (fun _ => split_eq (fun _ => split_cond (fun _ => split_cond (fun _ => split_cond (fun _ => lives_spec fun h' s => ⟨_, rfl, rfl, sx.trans s⟩) fun e => absurd e (by rw [hb_eq]; decide)) fun e => absurd e (by rw [hb_eq]; decide)) fun e => by cases e) fun e => absurd rfl e) fun e => by cases e
      · refine split_dec (fun e => ⟨?_, s26⟩) fun _ => ⟨rfl, s26⟩
        rw [hb_eq]; exact decide_eq_false (by omega)
  · have e1 : beqS eB (bytesL []) = true := hh _
    rw [e1]
    refine split_not (fun e => by cases e) fun _ => split_cond (fun e => by cases e) fun _ => split_cond (fun e => by cases e) fun _ => split_cond (fun e => by cases e) fun _ => ?_
    show bif !(beqS eB eB && (beqS eB eB && true)) then _ else bif !(beqS eB eB && (beqS eB eB && true)) then _ else _
    rw [hh]
    refine split_not (fun e => by cases e) fun _ => split_not (fun e => by cases e) fun _ => ?_
    refine put_nil' _ _ ⟨_, rfl, split_ne (fun e => absurd rfl e) fun _ => drop_nil _ ⟨_, rfl, split_cond (fun e => by cases e) fun _ => range_nil _ _ _ fun h51 s51 => ⟨_, _, _, rfl, split_ne (fun e => absurd rfl e) fun _ => len_nil fun h56 s56 => ⟨_, rfl, height_nil ⟨_, rfl, split_ne (fun e => absurd rfl e) fun _ => check_nil fun h62 s62 => ⟨_, rfl, split_ne (fun e => absurd rfl e) fun _ => ?_⟩⟩⟩⟩⟩⟩
    exact s12.trans (s17.trans (s51.trans (s56.trans s62)))
end Go.Proofs.YthbogjbcecmopaaGreatDoor
namespace Go.Proofs.YthbogjbcecmopaaGreatDoor
open Go.Gx
theorem nils_all (W : World) (k : Int) {p : Prop} (_ : p) (a b c : Int) (x y z : ByteArray) {p1 p2 p3 p4 p5 p6 : Prop} (_ : p1) (_ : p2) (_ : p3) (_ : p4) (_ : p5) (_ : p6) :
    CallsH Tryz.prog law15_BtreeNils.id #[.int .i64 k, .agg #[.int .i64 a, .int .i64 b, .int .i64 c, .string x, .string y, .string z]] (heapOf W) fun v h' => v = .bool true ∧ Sub (heapOf W) h' := nils_core k a b c x y z
end Go.Proofs.YthbogjbcecmopaaGreatDoor
namespace Go.Proofs.YthbogjbcecmopaaGreatDoor.btreeNils
open Go.ChangeShapes Go.WideShapes Go.ChangeAt Go.RowKit Go.Gx
open Go.ChangeMaps (open_string shut_string)
set_option linter.unusedVariables false
theorem own : ownKnob Tryz.prog.godebug = none := by kernel_rfl
theorem laidOut : laidOutB Tryz.prog = true := by kernel_rfl
set_option maxRecDepth 100000 in
theorem lifted (os : Os) (started : os.Started) (H : Type) (enc : TypeId × Value → H) :
    ReturnsInHanded {} Tryz.checked os 4 .any (fun w args => (Rows.btreeNilsSpec.pre enc Tryz.prog Tryz.f4 Rows.btreeNilsRow.domain false w args ∧ laidMetH Tryz.prog Rows.btreeNilsRow.laid w) ∧ sizedMet enc Tryz.prog Tryz.f4 (OpenSpec.ofChange Rows.btreeNilsSpec) false w args) (Rows.btreeNilsSpec.post enc Tryz.prog Tryz.f4 false true false false) := by
  refine returnsInHanded_of_change_and (C := Tryz.checked) (X := fun w _ => laidMetH Tryz.prog Rows.btreeNilsRow.laid w) (fun _ _ _ hh h => h.of_heap hh) own started (by kernel_rfl) Tryz.func4
    (ChangeSpec.witness_shaped (enc := enc) (C := Tryz.checked) (os := os) (X := fun w _ => laidMetH Tryz.prog Rows.btreeNilsRow.laid w) false (World.laidAll Tryz.prog os Rows.btreeNilsRow.laid) #[.int .i64 0, .agg #[.int .i64 0, .int .i64 0, .int .i64 0, .string ByteArray.empty, .string ByteArray.empty, .string ByteArray.empty]] 8 (World.laidAll_os _ _ _)
      (World.shaped_of_ZipB (by kernel_rfl) (by kernel_rfl)) (by kernel_rfl) (by kernel_rfl) (by kernel_rfl)
      (by rw [MakeChecks.laidMetH_plain _ _ _ (by kernel_rfl)]; exact laidMet_laidAll _ (by kernel_rfl) (by kernel_rfl))) ?_
  intro W base args ds gs before hval0 hW hcnd hz _ _
  have hval : ∀ (j : Nat) t v, Tryz.f4.params[j]? = some t → args[j]? = some v → Value.okWide Tryz.prog W .any base t v := hval0
  have hW' := hW
  obtain ⟨p, q, hA0, hV, rfl, hfz, hnd⟩ := hW
  have hA : DataW.TrodAll enc Tryz.prog W 0 (fun _ => true) true Tryz.f4.params.toList args.toList ds p := hA0
  rw [Tryz.params4] at hA hval
  obtain ⟨v0, vs0, d0, ds0, p0, q0, hargs, rfl, rfl, h0, r0⟩ := trodAll_cons hA
  obtain ⟨v1, vs1, d1, ds1, p1, q1, rfl, rfl, rfl, h1, r1⟩ := trodAll_cons r0
  obtain ⟨rfl, rfl, rfl⟩ := trodAll_nil r1
  obtain rfl : args = #[v0, v1] := by cases args; simp_all
  obtain ⟨rfl, rfl⟩ := trodVars_none hV
  have k0 := h0
  have lt0 : ∀ x ∈ p0, x.block < W.heap.size := by obtain ⟨m, hm⟩ := k0; exact DataW.trod_lt m _ _ _ hm
  obtain ⟨a0, rfl, rfl, rfl, w0⟩ := open_int Tryz.underlying3 (hval 0 3 v0 rfl rfl) h0
  have k1 := h1
  have lt1 : ∀ x ∈ p1, x.block < W.heap.size := by obtain ⟨m, hm⟩ := k1; exact DataW.trod_lt m _ _ _ hm
  obtain ⟨cs1, rfl, w1⟩ := agg_ok (by kernel_rfl) (by kernel_rfl) (hval 1 48 v1 rfl rfl) h1
  have w1 : KdsOk [.int .i64, .int .i64, .int .i64, .str, .str, .str] cs1.toList := w1
  generalize hcs1 : cs1.toList = l1 at w1
  obtain ⟨_, _, rfl, ⟨a1_0, rfl, u1_0⟩, w1_0⟩ := KdsOk.cons_eq w1
  obtain ⟨_, _, rfl, ⟨a1_1, rfl, u1_1⟩, w1_1⟩ := KdsOk.cons_eq w1_0
  obtain ⟨_, _, rfl, ⟨a1_2, rfl, u1_2⟩, w1_2⟩ := KdsOk.cons_eq w1_1
  obtain ⟨_, _, rfl, ⟨a1_3, rfl, u1_3⟩, w1_3⟩ := KdsOk.cons_eq w1_2
  obtain ⟨_, _, rfl, ⟨a1_4, rfl, u1_4⟩, w1_4⟩ := KdsOk.cons_eq w1_3
  obtain ⟨_, _, rfl, ⟨a1_5, rfl, u1_5⟩, w1_5⟩ := KdsOk.cons_eq w1_4
  obtain rfl := KdsOk.nil_eq w1_5
  obtain rfl : cs1 = #[.int .i64 a1_0, .int .i64 a1_1, .int .i64 a1_2, .string a1_3, .string a1_4, .string a1_5] := by cases cs1; simp_all
  clear hA0 hval0
  refine (calls_below (nils_all W a0 w0 a1_0 a1_1 a1_2 a1_3 a1_4 a1_5 u1_0 u1_1 u1_2 u1_3 u1_4 u1_5)).mono fun e W' ⟨he, bel⟩ => ?_
  subst he
  exact ⟨_, rfl, _, _, _, [], _, [], hW', trodAll_mk1 (shut_bool Tryz.underlying4 _), (trodAll_cons_mk (Below.trod laidOut (by kernel_rfl) (of_decide_eq_true (by kernel_rfl)) k0 bel lt0) (trodAll_cons_mk (Below.trod laidOut (by kernel_rfl) (of_decide_eq_true (by kernel_rfl)) k1 bel lt1) trodAll_mk0)), rfl, bel.frame _, fun h => by cases h⟩
theorem over : Rows.btreeNilsRow.holds Tryz.pinned (OpenSpec.ofChange Rows.btreeNilsSpec) :=
  OpenClaim.holds_of_wide 4 Tryz.f4 rfl rfl rfl rfl rfl rfl rfl ⟨rfl, rfl, rfl, rfl, rfl⟩ rfl rfl rfl rfl rfl (by kernel_rfl) Tryz.func4 (by kernel_rfl)
    (of_decide_eq_true (by kernel_rfl)) (by unfold Func.isWrapper; first | (rw [if_pos (by decide +kernel)]; kernel_rfl) | (rw [if_neg (by decide +kernel)]; exact ⟨rfl, rfl⟩))
    (fun os started H enc _ => lifted os started H enc)
theorem proved : Rows.BtreeNilsSaid := over
end Go.Proofs.YthbogjbcecmopaaGreatDoor.btreeNils
namespace Go.Proofs.YthbogjbcecmopaaGreatDoor
theorem btreeNils_holds : Rows.BtreeNilsCardSaid :=
  Claim7.holds_tied_plain_at .later [] [.data, .pinned] true (true, "88b840c6857e141b8992512d7463ed0858dbf39f2fe20160b127cdf65cb1e027") true
    btreeNils.proved (fun _ h => by cases h) (by kernel_rfl) (fun _ h => by cases h) btreeNils_row_tie rfl ⟨rfl, rfl⟩ (by kernel_rfl) rfl
    (fun f fn hf hfn => by
      obtain rfl : f = 4 := Option.some.inj ((show Tryz.prog.funcNamed Rows.btreeNilsRow.func = some 4 by kernel_rfl).symm.trans hf) |>.symm
      obtain rfl : fn = Tryz.f4 := (Option.some.inj (Tryz.func4.symm.trans hfn)).symm
      exact ⟨by kernel_rfl, fun j t ht => by
        rw [Tryz.params4] at ht
        have hm : t ∈ [3, 48] := by simpa using Array.mem_of_getElem? ht
        have hall : ([3, 48].all fun u => !Tryz.prog.wantsStandIn u) = true := by kernel_rfl
        exact (show Tryz.prog.wantsStandIn t = false by simpa using List.all_eq_true.1 hall t hm)⟩)
    (by kernel_rfl)
#print axioms btreeNils_holds
end Go.Proofs.YthbogjbcecmopaaGreatDoor
