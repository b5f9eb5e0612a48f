/- The document's own digest: roots, primes, words. Conditions: the ranges that each contract names. -/
import Derived.Test.YtpokejaglmkphaaR1
import Derived.KernelRfl
namespace Go.Proofs.Ytpokejaglmkphaa
open Go.Gx
set_option maxRecDepth 100000
set_option linter.unusedVariables false
theorem below_spec (x p : Nat) (hx : x < 18446744073709551616) {h : Hp} {K : Value → Hp → Prop} (hK : K (.bool (decide (x * x ≤ p * 18446744073709551616))) h) :
    CallsH Try.prog ref02_below.id #[.int .u64 x, .int .u64 p] h K := by
  apply ref02_below.calls
  unfold ref02_below.W
  refine product_spec x x hx hx ⟨_, _, rfl, split_dec (fun h1 => ?_) (fun h1 => split_eq (fun h2 => ?_) (fun h2 => ?_))⟩
  · have : decide (x * x ≤ p * 18446744073709551616) = true := by rw [decide_eq_true_iff]; omega
    rw [this] at hK; exact hK
  · rw [hb_eq]
    have : (((x * x % 18446744073709551616 : Nat) : Int) == 0) = decide (x * x ≤ p * 18446744073709551616) := by
      rw [Bool.eq_iff_iff, beq_iff_eq, decide_eq_true_iff]; omega
    rw [this]; exact hK
  · have : decide (x * x ≤ p * 18446744073709551616) = false := by rw [decide_eq_false_iff_not]; omega
    rw [this] at hK; exact hK
theorem cubeBelow_spec (x p : Nat) (hx : x < 17592186044416) (hp : p < 4294967296) {h : Hp} {K : Value → Hp → Prop} (hK : K (.bool (decide (x * x * x ≤ p * 79228162514264337593543950336))) h) :
    CallsH Try.prog ref02_cubeBelow.id #[.int .u64 x, .int .u64 p] h K := by
  apply ref02_cubeBelow.calls
  unfold ref02_cubeBelow.W
  have hx2 : x * x < 17592186044416 * 17592186044416 := Nat.mul_lt_mul_of_lt_of_le hx (Nat.le_of_lt hx) (by omega)
  have hhi : x * x / 18446744073709551616 < 16777216 := by omega
  have hlo : x * x % 18446744073709551616 < 18446744073709551616 := by omega
  have e : x * x * x = (x * x / 18446744073709551616) * x * 18446744073709551616 + (x * x % 18446744073709551616) * x := by
    have := Nat.div_add_mod' (x * x) 18446744073709551616
    have h2 : (x * x / 18446744073709551616) * x * 18446744073709551616 = (x * x / 18446744073709551616) * 18446744073709551616 * x := Nat.mul_right_comm _ _ _
    rw [h2, ← Nat.add_mul, this]
  rw [e] at hK
  refine product_spec x x (by omega) (by omega) ⟨_, _, rfl, product_spec _ x hlo (by omega) ⟨_, _, rfl, product_spec _ x (by omega) (by omega) ⟨_, _, rfl, ?_⟩⟩⟩
  generalize x * x / 18446744073709551616 = hi at *
  generalize x * x % 18446744073709551616 = lo at *
  have b1 : hi * x < 16777216 * 17592186044416 := Nat.mul_lt_mul_of_lt_of_le hhi (Nat.le_of_lt hx) (by omega)
  have b2 : lo * x < 18446744073709551616 * 17592186044416 := Nat.mul_lt_mul_of_lt_of_le hlo (Nat.le_of_lt hx) (by omega)
  clear e hx2
  generalize hi * x = T at *
  generalize lo * x = L at *
  have w1 : IntKind.u64.wrap (18446744073709551615 - ((L / 18446744073709551616 : Nat) : Int)) = 18446744073709551615 - ((L / 18446744073709551616 : Nat) : Int) := by rw [wrap64]; omega
  have w2 : IntKind.u64.wrap ((p : Int) * 4294967296) = ((p * 4294967296 : Nat) : Int) := by rw [wrap64]; omega
  rw [w1, w2]
  have no : ¬ (T * 18446744073709551616 + L ≤ p * 79228162514264337593543950336) → K (.bool false) h := fun g => by rw [decide_eq_false g] at hK; exact hK
  have yes : T * 18446744073709551616 + L ≤ p * 79228162514264337593543950336 → K (.bool true) h := fun g => by rw [decide_eq_true g] at hK; exact hK
  refine split_dec (fun h1 => no (by omega)) fun h1 => split_dec (fun h2 => no (by omega)) fun h2 => ?_
  have w3 : IntKind.u64.wrap (((T % 18446744073709551616 : Nat) : Int) + ((L / 18446744073709551616 : Nat) : Int)) = ((T + L / 18446744073709551616 : Nat) : Int) := by rw [wrap64]; omega
  rw [w3]
  refine split_dec (fun h3 => yes (by omega)) fun h3 => split_eq (fun h4 => ?_) fun h4 => no (by omega)
  rw [hb_eq]
  have : (((L % 18446744073709551616 : Nat) : Int) == 0) = decide (T * 18446744073709551616 + L ≤ p * 79228162514264337593543950336) := by
    rw [Bool.eq_iff_iff, beq_iff_eq, decide_eq_true_iff]; omega
  rw [this]; exact hK
theorem root_six (p : Nat) (hp : p < 4294967296) : rootN p true 6 = 0 := by
  have no : ∀ y, 8796093022208 ≤ y → rootOk p true y = false := fun y hy => by
    simp only [rootOk, cond_true]
    have h1 : 8796093022208 * 8796093022208 ≤ y * y := Nat.mul_le_mul hy hy
    have h2 : 8796093022208 * 8796093022208 * 8796093022208 ≤ y * y * y := Nat.mul_le_mul h1 hy
    rw [decide_eq_false (by omega : ¬ y * y * y ≤ p * 79228162514264337593543950336), Bool.and_false]
  have e1 : rootN p true 1 = 0 := by show cond (rootOk p true (0 + 281474976710656)) _ _ = _; rw [no _ (by decide)]; rfl
  have e2 : rootN p true 2 = 0 := by show cond (rootOk p true (rootN p true 1 + 140737488355328)) _ _ = _; rw [e1, no _ (by decide)]; rfl
  have e3 : rootN p true 3 = 0 := by show cond (rootOk p true (rootN p true 2 + 70368744177664)) _ _ = _; rw [e2, no _ (by decide)]; rfl
  have e4 : rootN p true 4 = 0 := by show cond (rootOk p true (rootN p true 3 + 35184372088832)) _ _ = _; rw [e3, no _ (by decide)]; rfl
  have e5 : rootN p true 5 = 0 := by show cond (rootOk p true (rootN p true 4 + 17592186044416)) _ _ = _; rw [e4, no _ (by decide)]; rfl
  show cond (rootOk p true (rootN p true 5 + 8796093022208)) _ _ = _
  rw [e5, no _ (by decide)]; rfl
def bitN (i : Nat) : Nat := 2 ^ 48 / 2 ^ i
theorem bitN_low {i : Nat} (h : i < 49) : bitN i = 2 ^ (48 - i) := Nat.pow_div (by omega) (by decide)
theorem bitN_half (i : Nat) : bitN i / 2 = bitN (i + 1) := by unfold bitN; rw [Nat.div_div_eq_div_mul]; exact congrArg (2 ^ 48 / ·) (Nat.pow_succ ..).symm
theorem bitN_end {i : Nat} (h : bitN i = 0) (hi : i ≤ 49) : i = 49 := by
  by_cases h2 : i < 49
  · rw [bitN_low h2] at h
    have : 0 < 2 ^ (48 - i) := Nat.pow_pos (by omega)
    omega
  · omega
theorem bitN_pos {i : Nat} (h : 0 < bitN i) : i < 49 := by
  rcases Nat.lt_or_ge i 49 with h2 | h2
  · exact h2
  · exfalso
    unfold bitN at h
    rw [Nat.div_eq_of_lt (Nat.pow_lt_pow_right (by decide) (by omega))] at h
    omega
theorem rootR_spec (p : Nat) (hp : p < 4294967296) (cube : Bool) {h : Hp} {K : Value → Hp → Prop} (hK : K (.int .u32 ((rootN p cube 49 % 4294967296 : Nat) : Int)) h) :
    CallsH Try.prog ref02_Root.id #[.int .u32 p, .bool cube] h K := by
  apply ref02_Root.calls
  unfold ref02_Root.W
  have wp : IntKind.u64.wrap (p : Int) = (p : Int) := wrapN (by omega)
  refine ⟨fun b x => x = h ∧ ∃ i, i ≤ 6 ∧ b = ((bitN i : Nat) : Int) ∧ rootN p cube i = 0 ∧ (cube = true → 6 ≤ i), ?_, ?_⟩
  · rintro b x ⟨rfl, i, hi, rfl, h0, hc⟩
    refine ⟨fun r b y m => y = x ∧ ∃ j, j ≤ 49 ∧ (cube = true → 6 ≤ j) ∧ r = ((rootN p cube j : Nat) : Int) ∧ b = ((bitN j : Nat) : Int) ∧ m = 49 - j, ⟨_, rfl, i, by omega, hc, by rw [h0]; rfl, rfl, rfl⟩, ?_⟩
    rintro r b y m ⟨rfl, j, hj, hc, rfl, rfl, rfl⟩
    refine split_dec (fun g => ?_) fun g => ?_
    · have hj2 := bitN_pos (i := j) (by omega)
      obtain ⟨l1, l2⟩ := rootN_law p cube j hj
      have e0 : 2 ^ (49 - j) = 2 * 2 ^ (48 - j) := by rw [← Nat.pow_succ']; congr 1; omega
      have hbl := bitN_low hj2
      have hy : rootN p cube j + bitN j < 562949953421312 := by
        have : 0 < 2 ^ (48 - j) := Nat.pow_pos (by omega)
        rw [hbl]; omega
      have hbit : bitN j ≤ 281474976710656 := Nat.div_le_self _ _
      have w0 : IntKind.u64.wrap (((rootN p cube j : Nat) : Int) + ((bitN j : Nat) : Int)) = ((rootN p cube j + bitN j : Nat) : Int) := by rw [wrap64]; omega
      have w1 : IntKind.u64.wrap (((bitN j : Nat) : Int).tdiv 2) = ((bitN (j + 1) : Nat) : Int) := by
        rw [← bitN_half, show ((bitN j : Nat) : Int).tdiv 2 = ((bitN j / 2 : Nat) : Int) from tdivN _ 2, wrapN (by omega)]
      have er : rootN p cube (j + 1) = bif rootOk p cube (rootN p cube j + bitN j) then rootN p cube j + bitN j else rootN p cube j := by rw [hbl]; rfl
      rw [w0, w1, wp]
      have fin : ∀ b, b = rootOk p cube (rootN p cube j + bitN j) → cond b ((((2 : Int) = 0) → False) ∧ ∃ k, k < 49 - j ∧ (y = y ∧ ∃ j', j' ≤ 49 ∧ (cube = true → 6 ≤ j') ∧ ((rootN p cube j + bitN j : Nat) : Int) = ((rootN p cube j' : Nat) : Int) ∧ ((bitN (j + 1) : Nat) : Int) = ((bitN j' : Nat) : Int) ∧ k = 49 - j'))
          ((((2 : Int) = 0) → False) ∧ ∃ k, k < 49 - j ∧ (y = y ∧ ∃ j', j' ≤ 49 ∧ (cube = true → 6 ≤ j') ∧ ((rootN p cube j : Nat) : Int) = ((rootN p cube j' : Nat) : Int) ∧ ((bitN (j + 1) : Nat) : Int) = ((bitN j' : Nat) : Int) ∧ k = 49 - j')) := by
        intro b hb
        subst hb
        refine split_cond (fun e => ⟨by decide, _, ?_, rfl, j + 1, by omega, fun h => by have := hc h; omega, by rw [er, e]; rfl, rfl, rfl⟩) fun e => ⟨by decide, _, ?_, rfl, j + 1, by omega, fun h => by have := hc h; omega, by rw [er, e]; rfl, rfl, rfl⟩
        · omega
        · omega
      cases cube with
      | true =>
        have h6 := hc rfl
        have hsm : rootN p true j + bitN j < 17592186044416 := by
          have h2 : 2 ^ (49 - j) ∣ 2 ^ 43 := Nat.pow_dvd_pow 2 (by omega)
          have hb43 : bitN j ≤ 4398046511104 := by rw [hbl]; exact (Nat.pow_le_pow_right (by decide) (by omega : 48 - j ≤ 42) : 2 ^ (48 - j) ≤ 2 ^ 42)
          have hr : rootN p true j < 8796093022208 := by
            have : ∀ d, 6 + d ≤ 49 → rootN p true (6 + d) + 2 ^ (49 - (6 + d)) ≤ 2 ^ 43 := by
              intro d
              induction d with
              | zero => intro _; rw [root_six p hp]; decide
              | succ d ih =>
                intro hk2
                have ih := ih (by omega)
                have e0 : 2 ^ (49 - (6 + d)) = 2 * 2 ^ (49 - (6 + (d + 1))) := by rw [← Nat.pow_succ']; congr 1; omega
                have e1 : 48 - (6 + d) = 49 - (6 + (d + 1)) := by omega
                have e2 : rootN p true (6 + (d + 1)) = bif rootOk p true (rootN p true (6 + d) + 2 ^ (48 - (6 + d))) then rootN p true (6 + d) + 2 ^ (48 - (6 + d)) else rootN p true (6 + d) := rfl
                rw [e2, e1]
                rw [e0] at ih
                generalize 2 ^ (49 - (6 + (d + 1))) = q at *
                cases rootOk p true (rootN p true (6 + d) + q)
                · show rootN p true (6 + d) + q ≤ _; omega
                · show rootN p true (6 + d) + q + q ≤ _; omega
            have h3 := this (j - 6) (by omega)
            rw [show 6 + (j - 6) = j by omega] at h3
            have : 0 < 2 ^ (49 - j) := Nat.pow_pos (by omega)
            omega
          omega
        refine cubeBelow_spec _ p hsm hp ⟨_, rfl, fin _ ?_⟩
        simp only [rootOk, cond_true, decide_eq_true hsm, Bool.true_and]
      | false => exact below_spec _ p (by omega) ⟨_, rfl, fin _ rfl⟩
    · have e := bitN_end (i := j) (by omega) hj
      subst e
      obtain ⟨l1, l2⟩ := rootN_law p cube 49 hj
      have : IntKind.u32.wrap (((rootN p cube 49 : Nat) : Int).tmod 4294967296) = ((rootN p cube 49 % 4294967296 : Nat) : Int) := by
        rw [show ((rootN p cube 49 : Nat) : Int).tmod 4294967296 = ((rootN p cube 49 % 4294967296 : Nat) : Int) from tmodN _ 4294967296, wrap32]; omega
      rw [this]
      exact ⟨by decide, hK⟩
  · refine split_cond (fun e => ⟨rfl, 6, by decide, by decide, by subst e; exact root_six p hp, fun _ => by decide⟩) fun e => ⟨rfl, 0, by decide, by decide, rfl, fun h => by rw [e] at h; cases h⟩
end Go.Proofs.Ytpokejaglmkphaa
