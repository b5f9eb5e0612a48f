/- The document's own digest: primes and the roots' words. Conditions: the ranges that each contract names. -/
import Derived.Test.YtpokejaglmkphaaR2
import Derived.KernelRfl
namespace Go.Proofs.Ytpokejaglmkphaa
open Go.Gx
set_option maxRecDepth 100000
set_option linter.unusedVariables false
theorem turnR_spec (x : BitVec 32) (n : Int) (h1 : 1 ≤ n) (h2 : n ≤ 31) {h : Hp} {K : Value → Hp → Prop} (hK : K (.int .u32 (u32 (turnV x n.toNat))) h) :
    CallsH Try.prog ref02_turn.id #[.int .u32 (u32 x), .int .u64 n] h K := by
  apply ref02_turn.calls
  unfold ref02_turn.W
  have w : IntKind.u64.wrap (32 - n) = 32 - n := by rw [wrap64]; omega
  rw [w]
  refine ⟨by omega, by omega, ?_⟩
  rw [u32_shl x _ (by omega) (by omega), u32_shr x _ (by omega) (by omega), u32_or]
  have e : (32 - n).toNat = 32 - n.toNat := by omega
  rw [e, BitVec.or_comm]
  exact hK
def wh (p n : Nat) : Bool := (List.range n).all fun d => decide (d < 2) || decide (p % d ≠ 0)
theorem wh_succ (p n : Nat) (h : 2 ≤ n) : wh p (n + 1) = (wh p n && decide (p % n ≠ 0)) := by
  unfold wh
  rw [List.range_succ, List.all_append]
  simp only [List.all_cons, List.all_nil, Bool.and_true]
  rw [decide_eq_false (by omega : ¬ n < 2), Bool.false_or]
theorem wh_prT : ∀ p : Fin 313, wh p.val p.val = prT p.val := by decide +kernel
theorem whole_spec (p : Nat) (h2 : 2 ≤ p) (h3 : p < 313) {h : Hp} {K : Value → Hp → Prop} (hK : K (.bool (prT p)) h) : CallsH Try.prog ref02_whole.id #[.int .u32 p] h K := by
  apply ref02_whole.calls
  unfold ref02_whole.W
  have e := wh_prT ⟨p, h3⟩
  rw [← show wh p p = prT p from e] at hK
  refine ⟨fun d x m => x = h ∧ ∃ n : Nat, d = (n : Int) ∧ 2 ≤ n ∧ n ≤ p ∧ m = p - n ∧ wh p n = true, ⟨_, rfl, 2, rfl, by decide, h2, rfl, rfl⟩, ?_⟩
  rintro d x m ⟨rfl, n, rfl, hn2, hn, rfl, hw⟩
  refine split_dec (fun g => ⟨by omega, ?_⟩) fun g => ?_
  · rw [show ((p : Nat) : Int).tmod (n : Int) = ((p % n : Nat) : Int) from tmodN p n]
    refine split_eq (fun e => ?_) fun e => ⟨_, ?_, rfl, n + 1, by rw [wrap32]; omega, by omega, by omega, rfl, ?_⟩
    · have : wh p p = false := by
        unfold wh
        rw [List.all_eq_false]
        refine ⟨n, by rw [List.mem_range]; omega, ?_⟩
        rw [decide_eq_false (by omega : ¬ n < 2), decide_eq_false (by omega : ¬ p % n ≠ 0)]
        decide
      rw [this] at hK; exact hK
    · omega
    · rw [wh_succ p n hn2, hw, Bool.true_and]
      exact decide_eq_true (by omega)
  · have : n = p := by omega
    rw [this] at hw
    rw [hw] at hK; exact hK
theorem primeR_spec (i : Nat) (hi : i < 64) {h : Hp} {K : Value → Hp → Prop} (hK : K (.int .u32 (((prs 310).getD i 0 : Nat) : Int)) h) : CallsH Try.prog ref02_Prime.id #[.int .i64 i] h K := by
  apply ref02_Prime.calls
  unfold ref02_Prime.W
  refine split_dec (fun h1 => by omega) fun _ => split_dec (fun h1 => by omega) fun _ => ?_
  refine ⟨fun p n x m => x = h ∧ ∃ j : Nat, p = ((j + 1 : Nat) : Int) ∧ n + 1 = ((prs j).length : Nat) ∧ j ≤ 310 ∧ n ≤ (i : Int) ∧ m = 310 - j ∧ (n = (i : Int) → (prs j)[i]? = some (j + 1)), ⟨_, rfl, 0, rfl, rfl, by decide, by omega, rfl, fun e => by omega⟩, ?_⟩
  rintro p n x m ⟨rfl, j, rfl, hn, hj, hni, rfl, hlast⟩
  refine split_dec (fun g => ?_) fun g => ?_
  · have hj2 : j < 310 := by
      by_cases e : j = 310
      · subst e; rw [prs_310] at hn; omega
      · omega
    have w1 : IntKind.u32.wrap (((j + 1 : Nat) : Int) + 1) = ((j + 2 : Nat) : Int) := by rw [wrap32]; omega
    rw [w1]
    have hlen := prs_succ j
    refine whole_spec (j + 2) (by omega) (by omega) ⟨_, rfl, split_cond (fun hb => ?_) fun hb => ?_⟩
    · rw [hb, if_pos rfl] at hlen
      refine ⟨_, ?_, rfl, j + 1, rfl, ?_, by omega, ?_, rfl, fun e => ?_⟩
      · omega
      · rw [hlen, List.length_append, wid (by omega) (by omega)]; simp; omega
      · rw [wid (by omega) (by omega)]; omega
      · rw [wid (by omega) (by omega)] at e
        have : (prs j).length = i := by omega
        rw [hlen, List.getElem?_append_right (by omega), this, Nat.sub_self]; rfl
    · rw [hb] at hlen
      have hlen : prs (j + 1) = prs j := by simpa using hlen
      refine ⟨_, ?_, rfl, j + 1, rfl, by rw [hlen]; exact hn, by omega, hni, rfl, fun e => by omega⟩
      omega
  · have e := hlast (by omega)
    obtain ⟨hlt, hv⟩ := List.getElem?_eq_some_iff.1 e
    have hp := (prs_prefix hj).getElem (i := i) hlt
    have : (prs 310).getD i 0 = j + 1 := by
      rw [List.getD_eq_getElem?_getD, List.getElem?_eq_getElem (by rw [prs_310]; exact hi), ← hp, hv]; rfl
    rw [this] at hK; exact hK
theorem words_spec {h : Hp} {K : Value → Hp → Prop} (hK : ∀ h', Sub h h' → K (.agg (bigV .u32 (wI kW)).toArray) h') : CallsH Try.prog ref02_Words.id #[] h K := by
  apply ref02_Words.calls
  unfold ref02_Words.W
  intro k1 hk1 k2 hk2
  have hne : k2 ≠ k1 := by
    intro e; subst e; rw [Hp.upd_same] at hk2; cases hk2
  have hk2' : h k2 = none := by rw [Hp.upd_ne _ _ hne] at hk2; exact hk2
  refine ⟨fun n p x m => ∃ j : Nat, p = ((j + 2 : Nat) : Int) ∧ n = ((prs j).length : Nat) ∧ j ≤ 310 ∧ (prs j).length ≤ 64 ∧ m = 310 - j ∧ Sub h x ∧ Blk x k1 97 (bigV .u32 (List.replicate 64 0)) ∧ Blk x k2 97 (bigV .u32 (pad64 (kP j))), ?_, ?_⟩
  · refine ⟨310, 0, rfl, rfl, by omega, by simp [prs], rfl, (Sub.upd hk1 _).trans (Sub.upd hk2 _), ?_, ?_⟩
    · exact (Blk.new _ _ _ _).upd hk2 _
    · exact Blk.new _ _ _ (bigV .u32 (List.replicate 64 0))
  rintro n p x m ⟨j, rfl, rfl, hj, hn, rfl, hs, hb1, hb2⟩
  have hkl : (kP j).length = (prs j).length := List.length_map _
  refine split_dec (fun h1 => ?_) (fun h1 => ?_)
  · have hj2 : j < 310 := by
      by_cases e : j = 310
      · subst e; rw [prs_310] at h1; omega
      · omega
    have w1 : IntKind.u32.wrap (((j + 2 : Nat) : Int) + 1) = ((j + 1 + 2 : Nat) : Int) := by rw [wrap32]; omega
    have hlen := prs_succ j
    refine whole_spec (j + 2) (by omega) (by omega) ⟨_, rfl, split_cond (fun h2 => ?_) (fun h2 => ?_)⟩
    · refine rootR_spec (j + 2) (by omega) true ⟨_, rfl, by omega, by omega, ?_⟩
      rw [h2, if_pos rfl] at hlen
      have hl1 : (pad64 (kP j)).length = 64 := pad64_length (by omega)
      have e1 : 0 + (((prs j).length : Nat) : Int).toNat * 1 = (kP j).length := by omega
      have e2 : ((rootN (j + 2) true 49 % 4294967296 : Nat) : Int) = u32 (BitVec.ofNat 32 (rootN (j + 2) true 49)) := by
        unfold u32; rw [BitVec.toNat_ofNat]
      rw [e1, e2, w1]
      refine ⟨hb2.store (by rw [bigV_length]; omega), _, ?_, j + 1, rfl, ?_, by omega, ?_, rfl, ?_, ?_, ?_⟩
      · omega
      · rw [hlen, List.length_append, wid (by omega) (by omega)]; simp
      · rw [hlen, List.length_append]; simp; omega
      · exact (Keep.put (fun c => c = k2) _ _ _ rfl).sub hs fun c hc => by rw [hc]; exact hk2'
      · exact hb1.put_ne _ _ (Ne.symm hne)
      · have := hb2.put (kP j).length [.int .u32 (u32 (BitVec.ofNat 32 (rootN (j + 2) true 49)))]
        rw [bigV_set, pad64_set _ (by omega)] at this
        have e3 : kP (j + 1) = kP j ++ [BitVec.ofNat 32 (rootN (j + 2) true 49)] := by
          unfold kP; rw [hlen, List.map_append]; rfl
        rw [e3]; exact this
    · rw [w1]
      rw [h2] at hlen
      have hlen : prs (j + 1) = prs j := by simpa using hlen
      have e3 : kP (j + 1) = kP j := by unfold kP; rw [hlen]
      exact ⟨_, by omega, j + 1, rfl, by rw [hlen], by omega, by rw [hlen]; exact hn, rfl, hs, hb1, by rw [e3]; exact hb2⟩
  · have hl : (prs j).length = 64 := by omega
    have e : prs j = prs 310 := (prs_prefix hj).eq_of_length (by rw [hl, prs_310])
    have ek : kP j = kW := by unfold kP kW; rw [e]
    have ep : pad64 (kP j) = wI kW := by unfold pad64; rw [ek, kW_length]; simp
    rw [ep] at hb2
    have hw : (wI kW).length = 64 := by rw [wI_length, kW_length]
    have hx : x.put k1 0 (bigV .u32 (wI kW)) = x.upd k1 (.cells (bigV .u32 (wI kW)).toArray 97 (0, 0)) := by
      rw [put_get hb1, setL_all (by rw [bigV_length, bigV_length, hw]; rfl)]
    have hb3 : Blk (x.put k1 0 (bigV .u32 (wI kW))) k1 97 (bigV .u32 (wI kW)) := by rw [hx]; exact Blk.new _ _ _ _
    refine ⟨wI kW, hw, hb2.cellsAt (fun i _ => by rw [Nat.zero_add]), by rw [bigV_length]; exact hw, bigV_plain _ _, hb1.store (by rw [bigV_length, bigV_length, hw]; decide), wI kW, hw, hb3.cellsAt (fun i _ => by rw [Nat.zero_add]), hK _ ?_⟩
    exact (Keep.put (fun c => c = k1) _ _ _ rfl).sub hs fun c hc => by rw [hc]; exact hk1
end Go.Proofs.Ytpokejaglmkphaa
