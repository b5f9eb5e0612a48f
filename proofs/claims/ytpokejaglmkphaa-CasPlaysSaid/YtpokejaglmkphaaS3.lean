/- The table of the roots' words that package sha makes; how it mixes a block into a state. Conditions: what the blocks hold that are read. -/
import Derived.Test.YtpokejaglmkphaaS2
namespace Go.Proofs.Ytpokejaglmkphaa
open Go.Gx

/-- Root's words of the first 64 primes. -/
def kW : List (BitVec 32) := (prs 310).map fun p => BitVec.ofNat 32 (rootN p true 49)
def kP (j : Nat) : List (BitVec 32) := (prs j).map fun p => BitVec.ofNat 32 (rootN p true 49)
def wI (l : List (BitVec 32)) : List Int := l.map u32
theorem wI_length (l : List (BitVec 32)) : (wI l).length = l.length := List.length_map _
theorem kW_length : kW.length = 64 := by unfold kW; rw [List.length_map, prs_310]
theorem bigV_length (k : IntKind) (l : List Int) : (bigV k l).length = l.length := List.length_map _
theorem bigV_get (k : IntKind) (l : List Int) (i : Nat) : (bigV k l)[i]? = l[i]?.map (Value.int k) := by unfold bigV; rw [List.getElem?_map]
theorem bigV_set (k : IntKind) (l : List Int) (i : Nat) (v : Int) : setL (bigV k l) i [.int k v] = bigV k (l.set i v) := by
  simp only [setL, bigV, List.map_set]
theorem bigV_plain (k : IntKind) (l : List Int) : plainP (bigV k l) := fun v hv => by
  obtain ⟨n, _, rfl⟩ := List.mem_map.1 hv
  exact ⟨fun c h => (by cases h), fun c h => (by cases h)⟩
theorem setL_all {vs us : List Value} (h : us.length = vs.length) : setL vs 0 us = us := by
  have := @setL_append [] vs us 0 rfl (by omega)
  simpa [h] using this
/-- What a table holds of which some words are found. -/
def pad64 (l : List (BitVec 32)) : List Int := wI l ++ List.replicate (64 - l.length) 0
theorem pad64_length {l : List (BitVec 32)} (h : l.length ≤ 64) : (pad64 l).length = 64 := by unfold pad64; simp [wI_length]; omega
theorem pad64_set {l : List (BitVec 32)} (x : BitVec 32) (h : l.length < 64) : (pad64 l).set l.length (u32 x) = pad64 (l ++ [x]) := by
  unfold pad64
  rw [List.set_append_right _ _ (by rw [wI_length]; exact Nat.le_refl _), wI_length, Nat.sub_self]
  have : 64 - l.length = (64 - (l ++ [x]).length) + 1 := by simp; omega
  rw [this, List.replicate_succ, List.set_cons_zero]
  simp [wI]
theorem roots_spec {h : Hp} {K : Value → Hp → Prop} (hK : ∀ h', Sub h h' → K (.agg (bigV .u32 (wI kW)).toArray) h') : CallsH Try.prog sha_roots.id #[] h K := by
  apply sha_roots.calls
  unfold sha_roots.W
  intro k1 hk1 k2 hk2
  have hne : k2 ≠ k1 := by
    intro e; subst e; rw [Hp.upd_same] at hk2; cases hk2
  have hk2' : h k2 = none := by rw [Hp.upd_ne _ _ hne] at hk2; exact hk2
  refine ⟨fun n p x m => ∃ j : Nat, p = ((j + 2 : Nat) : Int) ∧ n = ((prs j).length : Nat) ∧ j ≤ 310 ∧ (prs j).length ≤ 64 ∧ m = 310 - j ∧ Sub h x ∧ Blk x k1 97 (bigV .u32 (List.replicate 64 0)) ∧ Blk x k2 97 (bigV .u32 (pad64 (kP j))), ?_, ?_⟩
  · refine ⟨310, 0, rfl, rfl, by omega, by simp [prs], rfl, (Sub.upd hk1 _).trans (Sub.upd hk2 _), ?_, ?_⟩
    · exact (Blk.new _ _ _ _).upd hk2 _
    · exact Blk.new _ _ _ (bigV .u32 (List.replicate 64 0))
  rintro n p x m ⟨j, rfl, rfl, hj, hn, rfl, hs, hb1, hb2⟩
  have hkl : (kP j).length = (prs j).length := List.length_map _
  refine split_dec (fun h1 => ?_) (fun h1 => ?_)
  · have hj2 : j < 310 := by
      by_cases e : j = 310
      · subst e; rw [prs_310] at h1; omega
      · omega
    refine ⟨fun b d y m => y = x ∧ InnerOk (j + 2) b d ∧ m = (65535 - d).toNat, ⟨_, rfl, inner_start _, rfl⟩, ?_⟩
    rintro b d y m ⟨rfl, hI, rfl⟩
    refine split_dec (fun h1 => ?_) (fun h1 => ?_)
    · obtain ⟨n1, n2, n3, n4, n5⟩ := inner_next hI (by omega) h1
      refine split_cond (fun hb => ⟨fun e => n4 e, ?_⟩) (fun hb => ?_)
      · rw [hb, Bool.true_and] at n1
        rw [hb_eq]
        exact ⟨_, by rw [n2]; omega, rfl, n1, rfl⟩
      · rw [hb, Bool.false_and] at n1
        exact ⟨_, by rw [n2]; omega, rfl, n1, rfl⟩
    · have hb := inner_end hI (by omega) h1
      have w1 : IntKind.u32.wrap (((j + 2 : Nat) : Int) + 1) = ((j + 1 + 2 : Nat) : Int) := by rw [wrap32]; omega
      have hlen := prs_succ j
      refine split_cond (fun h2 => ?_) (fun h2 => ?_)
      · refine root_spec (j + 2) (by omega) true ⟨_, rfl, by omega, by omega, ?_⟩
        rw [← hb, h2, if_pos rfl] at hlen
        have hl1 : (pad64 (kP j)).length = 64 := pad64_length (by omega)
        have e1 : 0 + (((prs j).length : Nat) : Int).toNat * 1 = (kP j).length := by omega
        have e2 : ((rootN (j + 2) true 49 % 4294967296 : Nat) : Int) = u32 (BitVec.ofNat 32 (rootN (j + 2) true 49)) := by
          unfold u32; rw [BitVec.toNat_ofNat]
        rw [e1, e2, w1]
        refine ⟨hb2.store (by rw [bigV_length]; omega), _, ?_, j + 1, rfl, ?_, by omega, ?_, rfl, ?_, ?_, ?_⟩
        · omega
        · rw [hlen, List.length_append, wid (by omega) (by omega)]; simp
        · rw [hlen, List.length_append]; simp; omega
        · exact (Keep.put (fun c => c = k2) _ _ _ rfl).sub hs fun c hc => by rw [hc]; exact hk2'
        · exact hb1.put_ne _ _ (Ne.symm hne)
        · have := hb2.put (kP j).length [.int .u32 (u32 (BitVec.ofNat 32 (rootN (j + 2) true 49)))]
          rw [bigV_set, pad64_set _ (by omega)] at this
          have e3 : kP (j + 1) = kP j ++ [BitVec.ofNat 32 (rootN (j + 2) true 49)] := by
            unfold kP; rw [hlen, List.map_append]; rfl
          rw [e3]; exact this
      · rw [w1]
        rw [← hb, h2] at hlen
        have hlen : prs (j + 1) = prs j := by simpa using hlen
        have e3 : kP (j + 1) = kP j := by unfold kP; rw [hlen]
        exact ⟨_, by omega, j + 1, rfl, by rw [hlen], by omega, by rw [hlen]; exact hn, rfl, hs, hb1, by rw [e3]; exact hb2⟩
  · have hl : (prs j).length = 64 := by omega
    have e : prs j = prs 310 := (prs_prefix hj).eq_of_length (by rw [hl, prs_310])
    have ek : kP j = kW := by unfold kP kW; rw [e]
    have ep : pad64 (kP j) = wI kW := by unfold pad64; rw [ek, kW_length]; simp
    rw [ep] at hb2
    have hw : (wI kW).length = 64 := by rw [wI_length, kW_length]
    have hx : x.put k1 0 (bigV .u32 (wI kW)) = x.upd k1 (.cells (bigV .u32 (wI kW)).toArray 97 (0, 0)) := by
      rw [put_get hb1, setL_all (by rw [bigV_length, bigV_length, hw]; rfl)]
    have hb3 : Blk (x.put k1 0 (bigV .u32 (wI kW))) k1 97 (bigV .u32 (wI kW)) := by rw [hx]; exact Blk.new _ _ _ _
    refine ⟨wI kW, hw, hb2.cellsAt (fun i _ => by rw [Nat.zero_add]), by rw [bigV_length]; exact hw, bigV_plain _ _, hb1.store (by rw [bigV_length, bigV_length, hw]; decide), wI kW, hw, hb3.cellsAt (fun i _ => by rw [Nat.zero_add]), hK _ ?_⟩
    exact (Keep.put (fun c => c = k1) _ _ _ rfl).sub hs fun c hc => by rw [hc]; exact hk1
end Go.Proofs.Ytpokejaglmkphaa
