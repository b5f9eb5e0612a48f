/- The roots' words and the primes, as package sha finds them. Conditions: the ranges that each contract names. -/
import Derived.Test.YtpokejaglmkphaaS1
import Derived.KernelRfl
namespace Go.Proofs.Ytpokejaglmkphaa
open Go.Gx

/-! ### roots -/
def rootOk (p : Nat) (cube : Bool) (y : Nat) : Bool := bif cube then decide (y < 17592186044416) && decide (y * y * y ≤ p * 79228162514264337593543950336) else decide (y * y ≤ p * 18446744073709551616)
def rootN (p : Nat) (cube : Bool) : Nat → Nat
  | 0 => 0
  | i + 1 => bif rootOk p cube (rootN p cube i + 2 ^ (48 - i)) then rootN p cube i + 2 ^ (48 - i) else rootN p cube i
theorem rootN_law (p : Nat) (cube : Bool) : ∀ i, i ≤ 49 → rootN p cube i % 2 ^ (49 - i) = 0 ∧ rootN p cube i + 2 ^ (49 - i) ≤ 2 ^ 49
  | 0, _ => by simp [rootN]
  | i + 1, hi => by
    obtain ⟨h1, h2⟩ := rootN_law p cube i (by omega)
    have e : 2 ^ (49 - i) = 2 * 2 ^ (49 - (i + 1)) := by rw [← Nat.pow_succ']; congr 1; omega
    have e2 : 48 - i = 49 - (i + 1) := by omega
    unfold rootN
    rw [e2]
    rw [e] at h1 h2
    generalize 2 ^ (49 - (i + 1)) = q at *
    have h3 : rootN p cube i % q = 0 := Nat.mod_eq_zero_of_dvd (Nat.dvd_trans (Nat.dvd_mul_left q 2) (Nat.dvd_of_mod_eq_zero h1))
    cases rootOk p cube (rootN p cube i + q)
    · exact ⟨h3, by simp only [cond_false]; omega⟩
    · exact ⟨by simp only [cond_true, Nat.add_mod_right]; exact h3, by simp only [cond_true]; omega⟩
theorem or_step (i x : Nat) (hi : i < 49) (hx : x % 2 ^ (49 - i) = 0) (hx2 : x + 2 ^ (49 - i) ≤ 2 ^ 49) :
    IntKind.u64.wrap (ior IntKind.u64 (x : Int) (IntKind.u64.wrap (ishl IntKind.u64 1 (48 - (i : Int))))) = ((x + 2 ^ (48 - i) : Nat) : Int) := by
  have e1 : IntKind.u64.wrap (ishl IntKind.u64 1 (48 - (i : Int))) = ((2 ^ (48 - i) : Nat) : Int) := by
    show IntKind.u64.wrap (1 * 2 ^ min (48 - (i : Int)).toNat 64) = _
    have e : min (48 - (i : Int)).toNat 64 = 48 - i := by omega
    rw [e, Int.one_mul, ← wrapN (x := 2 ^ (48 - i)) (Nat.lt_of_le_of_lt (Nat.pow_le_pow_right (by omega) (by omega : 48 - i ≤ 48)) (by decide))]
    simp
  have hp : 0 < 2 ^ (48 - i) := Nat.pow_pos (by omega)
  have e : 2 ^ (49 - i) = 2 * 2 ^ (48 - i) := by rw [← Nat.pow_succ']; congr 1; omega
  have hlt : x + 2 ^ (48 - i) < 18446744073709551616 := by omega
  rw [e1]
  have e2 : ior IntKind.u64 (x : Int) ((2 ^ (48 - i) : Nat) : Int) = ((x + 2 ^ (48 - i) : Nat) : Int) := by
    show (((BitVec.ofInt 64 (x : Int) ||| BitVec.ofInt 64 ((2 ^ (48 - i) : Nat) : Int)).toNat : Nat) : Int) = _
    rw [BitVec.ofInt_natCast, BitVec.ofInt_natCast, BitVec.toNat_or, BitVec.toNat_ofNat, BitVec.toNat_ofNat, Nat.mod_eq_of_lt (by omega : x < 2 ^ 64), Nat.mod_eq_of_lt (by omega : 2 ^ (48 - i) < 2 ^ 64)]
    obtain ⟨q, hq⟩ := Nat.dvd_of_mod_eq_zero hx
    rw [hq, ← Nat.two_pow_add_eq_or_of_lt (by omega)]
  rw [e2, wrapN hlt]
theorem root_spec (p : Nat) (hp : p < 4294967296) (cube : Bool) {h : Hp} {K : Value → Hp → Prop} (hK : K (.int .u32 ((rootN p cube 49 % 4294967296 : Nat) : Int)) h) :
    CallsH Try.prog sha_Root.id #[.int .u32 p, .bool cube] h K := by
  apply sha_Root.calls
  unfold sha_Root.W
  refine ⟨fun x i h' m => h' = h ∧ 0 ≤ i ∧ i ≤ 49 ∧ x = ((rootN p cube i.toNat : Nat) : Int) ∧ m = (49 - i).toNat, ⟨49, rfl, by decide, by decide, rfl, rfl⟩, ?_⟩
  rintro x i h' m ⟨rfl, hi0, hi1, rfl, rfl⟩
  have wi : IntKind.i64.wrap (i + 1) = i + 1 := wid (by omega) (by omega)
  have wp : IntKind.u64.wrap (p : Int) = (p : Int) := wrapN (by omega)
  refine split_dec (fun h1 => ?_) (fun h1 => ?_)
  · obtain ⟨l1, l2⟩ := rootN_law p cube i.toNat (by omega)
    have w48 : IntKind.i64.wrap (48 - i) = 48 - ((i.toNat : Nat) : Int) := by rw [wid (by omega) (by omega)]; omega
    have ey := or_step i.toNat _ (by omega) l1 l2
    have eN : ∀ j, j = i + 1 → rootN p cube j.toNat = bif rootOk p cube (rootN p cube i.toNat + 2 ^ (48 - i.toNat)) then rootN p cube i.toNat + 2 ^ (48 - i.toNat) else rootN p cube i.toNat := by
      intro j hj
      subst hj
      rw [show (i + 1).toNat = i.toNat + 1 by omega]; rfl
    have hy : rootN p cube i.toNat + 2 ^ (48 - i.toNat) < 18446744073709551616 := by
      have e : 2 ^ (49 - i.toNat) = 2 * 2 ^ (48 - i.toNat) := by rw [← Nat.pow_succ']; congr 1; omega
      omega
    rw [w48, ey, wi, wp]
    refine ⟨by omega, ?_⟩
    have no : ∀ {x}, x = h' → rootOk p cube (rootN p cube i.toNat + 2 ^ (48 - i.toNat)) = false → ∃ k, k < (49 - i).toNat ∧ (x = h' ∧ 0 ≤ i + 1 ∧ i + 1 ≤ 49 ∧ ((rootN p cube i.toNat : Nat) : Int) = ((rootN p cube (i + 1).toNat : Nat) : Int) ∧ k = (49 - (i + 1)).toNat) := by
      intro x hx hr
      refine ⟨_, by omega, hx, by omega, by omega, ?_, rfl⟩
      rw [eN _ rfl, hr]; rfl
    have yes : ∀ {x}, x = h' → rootOk p cube (rootN p cube i.toNat + 2 ^ (48 - i.toNat)) = true → ∃ k, k < (49 - i).toNat ∧ (x = h' ∧ 0 ≤ i + 1 ∧ i + 1 ≤ 49 ∧ ((rootN p cube i.toNat + 2 ^ (48 - i.toNat) : Nat) : Int) = ((rootN p cube (i + 1).toNat : Nat) : Int) ∧ k = (49 - (i + 1)).toNat) := by
      intro x hx hr
      refine ⟨_, by omega, hx, by omega, by omega, ?_, rfl⟩
      rw [eN _ rfl, hr]; rfl
    clear eN
    cases cube with
    | true =>
      refine split_dec (fun h2 => ?_) (fun h2 => ?_)
      · have h2 : rootN p true i.toNat + 2 ^ (48 - i.toNat) < 17592186044416 := by omega
        refine aboveCube_spec _ p h2 hp ⟨_, rfl, split_not (fun h3 => yes rfl ?_) (fun h3 => no rfl ?_)⟩
        · have h3 := of_decide_eq_false h3
          simp only [rootOk, cond_true, decide_eq_true h2, Bool.true_and]
          rw [decide_eq_true_iff]; omega
        · have h3 := of_decide_eq_true h3
          simp only [rootOk, cond_true, decide_eq_true h2, Bool.true_and]
          rw [decide_eq_false_iff_not]; omega
      · refine no rfl ?_
        have h2 : ¬ rootN p true i.toNat + 2 ^ (48 - i.toNat) < 17592186044416 := by omega
        simp only [rootOk, cond_true, decide_eq_false h2, Bool.false_and]
    | false =>
      refine above_spec _ p hy ⟨_, rfl, split_not (fun h3 => yes rfl ?_) (fun h3 => no rfl ?_)⟩
      · have h3 := of_decide_eq_false h3
        simp only [rootOk, cond_false]
        rw [decide_eq_true_iff]; omega
      · have h3 := of_decide_eq_true h3
        simp only [rootOk, cond_false]
        rw [decide_eq_false_iff_not]; omega
  · have e : i.toNat = 49 := by omega
    rw [e]
    have : IntKind.u32.wrap ((rootN p cube 49 : Nat) : Int) = ((rootN p cube 49 % 4294967296 : Nat) : Int) := by rw [wrap32]; omega
    rw [this]; exact hK

/-! ### primes -/
/-- Is p divided by none whose square isn't above it? -/
def prT (p : Nat) : Bool := (List.range p).all fun d => decide (d < 2) || decide (p < d * d) || decide (p % d ≠ 0)
/-- As far as d. -/
def prD (p d : Nat) : Bool := (List.range d).all fun e => decide (e < 2) || decide (p < e * e) || decide (p % e ≠ 0)
theorem prD_succ (p d : Nat) (h2 : 2 ≤ d) (hd : d * d ≤ p) : prD p (d + 1) = (prD p d && decide (p % d ≠ 0)) := by
  unfold prD
  rw [List.range_succ, List.all_append]
  simp only [List.all_cons, List.all_nil, Bool.and_true]
  rw [decide_eq_false (by omega : ¬ d < 2), decide_eq_false (by omega : ¬ p < d * d)]
  simp
theorem prD_end (p d : Nat) (hd : p < d * d) (hdp : d ≤ p) : prT p = prD p d := by
  unfold prT prD
  rw [Bool.eq_iff_iff, List.all_eq_true, List.all_eq_true]
  refine ⟨fun h x hx => h x (by rw [List.mem_range] at *; omega), fun h x hx => ?_⟩
  by_cases hxd : x < d
  · exact h x (by rw [List.mem_range]; exact hxd)
  · have : d * d ≤ x * x := Nat.mul_le_mul (by omega) (by omega)
    rw [decide_eq_true (by omega : p < x * x)]; simp
theorem prD_two (p : Nat) : prD p 2 = true := rfl
/-- The primes found among the first n numbers from 2 on. -/
def prs (n : Nat) : List Nat := ((List.range n).map (· + 2)).filter prT
theorem prs_succ (n : Nat) : prs (n + 1) = prs n ++ (if prT (n + 2) then [n + 2] else []) := by
  unfold prs
  rw [List.range_succ, List.map_append, List.filter_append]
  congr 1
  show List.filter prT [n + 2] = _
  by_cases h : prT (n + 2) = true
  · rw [if_pos h, List.filter_cons_of_pos h]; rfl
  · rw [if_neg h, List.filter_cons_of_neg h]; rfl
theorem prs_prefix {m n : Nat} (h : m ≤ n) : prs m <+: prs n := by
  obtain ⟨k, rfl⟩ := Nat.exists_eq_add_of_le h
  induction k with
  | zero => exact List.prefix_refl _
  | succ k ih => rw [← Nat.add_assoc, prs_succ]; exact (ih (by omega)).trans (List.prefix_append _ _)
theorem prs_310 : (prs 310).length = 64 := by decide +kernel
/-- What the inner loop has found when it is done. -/
theorem whole_end {p d : Nat} (h2 : 2 ≤ d) (hd : p < d * d) (hp : 2 ≤ p) (hw : (d - 1) * (d - 1) ≤ p ∨ d = 2) : prT p = prD p d := by
  refine prD_end p d hd ?_
  rcases hw with hw | hw
  · by_cases h3 : d ≤ p
    · exact h3
    · have : d * (d - 1) ≤ p := by
        have : (d - 1) * (d - 1) ≤ p := hw
        by_cases h4 : d = p + 1
        · subst h4
          simp only [Nat.add_sub_cancel] at *
          have : 2 * p ≤ p * p := Nat.mul_le_mul_right _ hp
          omega
        · have : p * (d - 1) ≤ (d - 1) * (d - 1) := Nat.mul_le_mul_right _ (by omega)
          have : p * 2 ≤ p * (d - 1) := Nat.mul_le_mul_left _ (by omega)
          omega
      have : d * 1 ≤ d * (d - 1) := Nat.mul_le_mul_left _ (by omega)
      omega
  · omega
/-- The state of the inner loop. -/
def InnerOk (p : Nat) (b : Bool) (d : Int) : Prop := 2 ≤ d ∧ d ≤ 65535 ∧ b = prD p d.toNat ∧ ((d.toNat - 1) * (d.toNat - 1) ≤ p ∨ d = 2)
theorem inner_next {p : Nat} {b : Bool} {d : Int} (H : InnerOk p b d) (hp : p < 4294836225) (hd : IntKind.u32.wrap (d * d) ≤ (p : Int)) :
    InnerOk p (b && ((p : Int).tmod d != 0)) (IntKind.u32.wrap (d + 1)) ∧ IntKind.u32.wrap (d + 1) = d + 1 ∧ d.toNat * d.toNat ≤ p ∧ d ≠ 0 ∧ d < 65535 := by
  obtain ⟨h1, h2, h3, h4⟩ := H
  have hdd : d * d ≤ 65535 * 65535 := Int.mul_le_mul h2 h2 (by omega) (by omega)
  have hd0 : 0 ≤ d * d := Int.mul_nonneg (by omega) (by omega)
  have w1 : IntKind.u32.wrap (d * d) = d * d := by rw [wrap32]; omega
  rw [w1] at hd
  have hN : ((d.toNat * d.toNat : Nat) : Int) = d * d := by rw [Int.natCast_mul]; congr 1 <;> omega
  have hdN : d.toNat * d.toNat ≤ p := by omega
  have hlt : d < 65535 := by
    by_cases e : d = 65535
    · subst e; omega
    · omega
  have w2 : IntKind.u32.wrap (d + 1) = d + 1 := by rw [wrap32]; omega
  rw [w2]
  refine ⟨⟨by omega, by omega, ?_, .inl ?_⟩, rfl, hdN, by omega, hlt⟩
  · rw [show (d + 1).toNat = d.toNat + 1 by omega, prD_succ p d.toNat (by omega) hdN, h3]
    congr 1
    have e : (p : Int).tmod d = ((p % d.toNat : Nat) : Int) := by
      rw [Int.tmod_eq_emod_of_nonneg (by omega), Int.natCast_emod]
      congr 1; omega
    rw [e]
    generalize p % d.toNat = r
    by_cases hz : r = 0
    · subst hz; rfl
    · have hz' : ((r : Nat) : Int) ≠ 0 := by omega
      simp [hz]
  · rw [show (d + 1).toNat - 1 = d.toNat by omega]; exact hdN
theorem inner_end {p : Nat} {b : Bool} {d : Int} (H : InnerOk p b d) (hp2 : 2 ≤ p) (hd : ¬ IntKind.u32.wrap (d * d) ≤ (p : Int)) : b = prT p := by
  obtain ⟨h1, h2, h3, h4⟩ := H
  have hdd : d * d ≤ 65535 * 65535 := Int.mul_le_mul h2 h2 (by omega) (by omega)
  have hd0 : 0 ≤ d * d := Int.mul_nonneg (by omega) (by omega)
  have w1 : IntKind.u32.wrap (d * d) = d * d := by rw [wrap32]; omega
  rw [w1] at hd
  have hN : ((d.toNat * d.toNat : Nat) : Int) = d * d := by rw [Int.natCast_mul]; congr 1 <;> omega
  rw [h3]
  refine (whole_end (by omega) (by omega) hp2 ?_).symm
  rcases h4 with h4 | h4
  · exact .inl h4
  · exact .inr (by omega)
theorem inner_start (p : Nat) : InnerOk p true 2 := ⟨by decide, by decide, rfl, .inr rfl⟩
theorem prime_spec (i : Nat) (hi : i < 64) {h : Hp} {K : Value → Hp → Prop} (hK : K (.int .u32 (((prs 310)[i]'(by rw [prs_310]; exact hi) : Nat) : Int)) h) : CallsH Try.prog sha_Prime.id #[.int .i64 i] h K := by
  apply sha_Prime.calls
  unfold sha_Prime.W
  refine split_dec (fun h1 => by omega) (fun _ => split_dec (fun h1 => by omega) (fun _ => ?_))
  refine ⟨fun p n h' m => h' = h ∧ ∃ j : Nat, p = ((j + 2 : Nat) : Int) ∧ n = ((prs j).length : Nat) ∧ j ≤ 310 ∧ (prs j).length ≤ i ∧ m = 310 - j, ⟨310, rfl, 0, rfl, rfl, by omega, by simp [prs], rfl⟩, ?_⟩
  rintro p n h' m ⟨rfl, j, rfl, rfl, hj, hn, rfl⟩
  have hj2 : j < 310 := by
    by_cases e : j = 310
    · subst e; rw [prs_310] at hn; omega
    · omega
  refine ⟨fun b d x m => x = h' ∧ InnerOk (j + 2) b d ∧ m = (65535 - d).toNat, ⟨_, rfl, inner_start _, rfl⟩, ?_⟩
  rintro b d x m ⟨rfl, hI, rfl⟩
  refine split_dec (fun h1 => ?_) (fun h1 => ?_)
  · obtain ⟨n1, n2, n3, n4, n5⟩ := inner_next hI (by omega) h1
    refine split_cond (fun hb => ⟨fun e => n4 e, ?_⟩) (fun hb => ?_)
    · rw [hb, Bool.true_and] at n1
      rw [hb_eq]
      exact ⟨_, by rw [n2]; omega, rfl, n1, rfl⟩
    · rw [hb, Bool.false_and] at n1
      exact ⟨_, by rw [n2]; omega, rfl, n1, rfl⟩
  · have hb := inner_end hI (by omega) h1
    have w1 : IntKind.u32.wrap (((j + 2 : Nat) : Int) + 1) = ((j + 1 + 2 : Nat) : Int) := by rw [wrap32]; omega
    have hlen := prs_succ j
    refine split_cond (fun h2 => split_eq (fun h3 => ?_) (fun h3 => ?_)) (fun h2 => ?_)
    · have h3 : (prs j).length = i := by omega
      have : (prs 310)[i]'(by rw [prs_310]; exact hi) = j + 2 := by
        have hp := prs_prefix (show j + 1 ≤ 310 by omega)
        rw [hlen, ← hb, h2, if_pos rfl] at hp
        have := hp.getElem (i := i) (by simp; omega)
        rw [← this]
        rw [List.getElem_append_right (by omega)]
        simp [h3]
      rw [this] at hK
      exact hK
    · rw [w1]
      rw [← hb, h2, if_pos rfl] at hlen
      refine ⟨_, ?_, rfl, j + 1, rfl, ?_, by omega, ?_, rfl⟩
      · omega
      · rw [hlen, List.length_append, wid (by omega) (by omega)]; simp
      · rw [hlen, List.length_append]; simp; omega
    · rw [w1]
      rw [← hb, h2] at hlen
      have hlen : prs (j + 1) = prs j := by simpa using hlen
      exact ⟨_, by omega, rfl, j + 1, rfl, by rw [hlen], by omega, by rw [hlen]; exact hn, rfl⟩
end Go.Proofs.Ytpokejaglmkphaa
