/- Words of 32 bits as numbers, and what the small functions of package sha and math/bits compute. Conditions: the ranges that each contract names. -/
import Derived.Test.YtpokejaglmkphaaFA
import Derived.Test.YtpokejaglmkphaaGxH
import Derived.Lib.Mul64
namespace Go.Proofs.Ytpokejaglmkphaa
open Go.Gx

/-- A word as a number. -/
def u32 (x : BitVec 32) : Int := (x.toNat : Int)
theorem u32_lt (x : BitVec 32) : u32 x < 4294967296 := by unfold u32; have := x.isLt; omega
theorem u32_nonneg (x : BitVec 32) : 0 ≤ u32 x := by unfold u32; omega
theorem ofInt_u32 (x : BitVec 32) : BitVec.ofInt 32 (u32 x) = x := by
  unfold u32; simp
theorem wrap_u32 (x : BitVec 32) : IntKind.u32.wrap (u32 x) = u32 x := by
  rw [wrap32]; exact Int.emod_eq_of_lt (u32_nonneg x) (u32_lt x)
theorem u32_add (x y : BitVec 32) : IntKind.u32.wrap (u32 x + u32 y) = u32 (x + y) := by
  rw [wrap32]; unfold u32; rw [BitVec.toNat_add]; omega
theorem u32_and (x y : BitVec 32) : IntKind.u32.wrap (iand IntKind.u32 (u32 x) (u32 y)) = u32 (x &&& y) := by
  have : iand IntKind.u32 (u32 x) (u32 y) = u32 (x &&& y) := by
    show (((BitVec.ofInt 32 (u32 x) &&& BitVec.ofInt 32 (u32 y)).toNat : Nat) : Int) = _
    rw [ofInt_u32, ofInt_u32]; rfl
  rw [this, wrap_u32]
theorem u32_or (x y : BitVec 32) : IntKind.u32.wrap (ior IntKind.u32 (u32 x) (u32 y)) = u32 (x ||| y) := by
  have : ior IntKind.u32 (u32 x) (u32 y) = u32 (x ||| y) := by
    show (((BitVec.ofInt 32 (u32 x) ||| BitVec.ofInt 32 (u32 y)).toNat : Nat) : Int) = _
    rw [ofInt_u32, ofInt_u32]; rfl
  rw [this, wrap_u32]
theorem u32_xor (x y : BitVec 32) : IntKind.u32.wrap (ixor IntKind.u32 (u32 x) (u32 y)) = u32 (x ^^^ y) := by
  have : ixor IntKind.u32 (u32 x) (u32 y) = u32 (x ^^^ y) := by
    show (((BitVec.ofInt 32 (u32 x) ^^^ BitVec.ofInt 32 (u32 y)).toNat : Nat) : Int) = _
    rw [ofInt_u32, ofInt_u32]; rfl
  rw [this, wrap_u32]
theorem u32_not (x : BitVec 32) : IntKind.u32.wrap (ixor IntKind.u32 4294967295 (u32 x)) = u32 (~~~ x) := by
  have : (4294967295 : Int) = u32 (BitVec.allOnes 32) := by decide
  rw [this, u32_xor]; congr 1
theorem u32_shr (x : BitVec 32) (k : Int) (h0 : 0 ≤ k) (h : k ≤ 32) : ishr IntKind.u32 (u32 x) k = u32 (x >>> k.toNat) := by
  show (u32 x).fdiv (2 ^ min k.toNat 32) = _
  have e : min k.toNat 32 = k.toNat := by omega
  rw [e]
  unfold u32
  rw [BitVec.toNat_ushiftRight, Nat.shiftRight_eq_div_pow, Int.fdiv_eq_ediv_of_nonneg _ (by exact Int.pow_nonneg (by omega))]
  push_cast
  rfl
theorem u32_shl (x : BitVec 32) (k : Int) (h0 : 0 ≤ k) (h : k ≤ 32) : IntKind.u32.wrap (ishl IntKind.u32 (u32 x) k) = u32 (x <<< k.toNat) := by
  show IntKind.u32.wrap (u32 x * 2 ^ min k.toNat 32) = _
  have e : min k.toNat 32 = k.toNat := by omega
  rw [e, wrap32]
  unfold u32
  rw [BitVec.toNat_shiftLeft, Nat.shiftLeft_eq]
  show ((x.toNat : Nat) : Int) * 2 ^ k.toNat % 4294967296 = ((x.toNat * 2 ^ k.toNat % 4294967296 : Nat) : Int)
  rw [Int.natCast_emod, Int.natCast_mul, Int.natCast_pow]
  rfl

/-! ### turning -/
def turnV (x : BitVec 32) (n : Nat) : BitVec 32 := x <<< (32 - n) ||| x >>> n
theorem turn_amount : ∀ n : Fin 32, n.val = 0 ∨ IntKind.u64.wrap (iand IntKind.u64 (IntKind.u64.wrap (IntKind.i64.wrap (0 - (n.val : Int)))) 31) = 32 - (n.val : Int) := by decide
theorem turn_spec (x : BitVec 32) (n : Int) (h1 : 1 ≤ n) (h2 : n ≤ 31) {h : Hp} {K : Value → Hp → Prop} (hK : K (.int .u32 (u32 (turnV x n.toNat))) h) :
    CallsH Try.prog sha_turn.id #[.int .u32 (u32 x), .int .i64 n] h K := by
  apply sha_turn.calls
  unfold sha_turn.W
  apply math_bits_RotateLeft32.calls
  unfold math_bits_RotateLeft32.W
  have hs : IntKind.u64.wrap (iand IntKind.u64 (IntKind.u64.wrap (IntKind.i64.wrap (0 - n))) 31) = 32 - n := by
    have := turn_amount ⟨n.toNat, by omega⟩
    simp only [] at this
    have e : ((n.toNat : Nat) : Int) = n := by omega
    rw [e] at this
    rcases this with h0 | h0
    · omega
    · exact h0
  rw [hs]
  have hs2 : IntKind.u64.wrap (32 - (32 - n)) = n := by rw [wrap64]; omega
  rw [hs2]
  refine ⟨by omega, by omega, _, rfl, ?_⟩
  rw [u32_shl x _ (by omega) (by omega), u32_shr x _ (by omega) (by omega), u32_or]
  have e : (32 - n).toNat = 32 - n.toNat := by omega
  rw [e]
  exact hK

/-! ### products -/
theorem iand_low {x : Nat} (hx : x < 18446744073709551616) : IntKind.u64.wrap (iand IntKind.u64 (x : Int) 4294967295) = ((x % 4294967296 : Nat) : Int) := by
  have : iand IntKind.u64 (x : Int) 4294967295 = ((x % 4294967296 : Nat) : Int) := by
    show (((BitVec.ofInt 64 (x : Int) &&& BitVec.ofInt 64 4294967295).toNat : Nat) : Int) = _
    have e1 : BitVec.ofInt 64 (x : Int) = BitVec.ofNat 64 x := by simp
    have e2 : BitVec.ofInt 64 4294967295 = BitVec.ofNat 64 4294967295 := by decide
    rw [e1, e2, BitVec.toNat_and, BitVec.toNat_ofNat, BitVec.toNat_ofNat]
    have e3 : 4294967295 % 2 ^ 64 = 2 ^ 32 - 1 := by decide
    rw [e3, Nat.and_two_pow_sub_one_eq_mod, Nat.mod_eq_of_lt (by omega : x < 2 ^ 64)]
  rw [this, wrap64]; omega
theorem ishr_64 {x : Nat} : ishr IntKind.u64 (x : Int) 32 = ((x / 4294967296 : Nat) : Int) := by
  show (x : Int).fdiv (2 ^ 32) = _
  rw [Int.fdiv_eq_ediv_of_nonneg _ (by decide)]
  rfl
theorem wrapN {x : Nat} (hx : x < 18446744073709551616) : IntKind.u64.wrap (x : Int) = (x : Int) := by rw [wrap64]; omega
theorem mul64_spec (x y : Nat) (hx : x < 18446744073709551616) (hy : y < 18446744073709551616) {h : Hp} {K : Value → Hp → Prop}
    (hK : K (.tuple #[.int .u64 ((x * y / 18446744073709551616 : Nat) : Int), .int .u64 ((x * y % 18446744073709551616 : Nat) : Int)]) h) :
    CallsH Try.prog math_bits_Mul64.id #[.int .u64 x, .int .u64 y] h K := by
  apply math_bits_Mul64.calls
  unfold math_bits_Mul64.W
  obtain ⟨b1, b2, b3, b4⟩ := Go.Lib.mul64_hi x y hx hy
  refine ⟨by decide, by decide, by decide, by decide, by decide, ?_⟩
  rw [iand_low hx, iand_low hy, ishr_64, ishr_64]
  have a1 := Go.Lib.half_mul_le (a := x / 4294967296) (b := y % 4294967296) (by omega) (by omega)
  have a2 := Go.Lib.half_mul_le (a := x % 4294967296) (b := y / 4294967296) (by omega) (by omega)
  have a3 := Go.Lib.half_mul_le (a := x / 4294967296) (b := y / 4294967296) (by omega) (by omega)
  simp only [← Int.natCast_mul]
  rw [wrapN b1, ishr_64, wrapN (by omega : x / 4294967296 * (y % 4294967296) < _), ← Int.natCast_add, wrapN b2, ishr_64, iand_low b2, wrapN (by omega : x % 4294967296 * (y / 4294967296) < _), ← Int.natCast_add, wrapN b3, ishr_64, wrapN (by omega : x / 4294967296 * (y / 4294967296) < _)]
  rw [← Int.natCast_add]
  have hlt : x * y / 18446744073709551616 < 18446744073709551616 := by
    rw [Nat.div_lt_iff_lt_mul (by omega)]
    exact Nat.mul_lt_mul_of_lt_of_le hx (Nat.le_of_lt hy) (by omega)
  rw [wrapN (x := x / 4294967296 * (y / 4294967296) + _) (by omega), ← Int.natCast_add, b4, wrapN hlt]
  have : IntKind.u64.wrap ((x * y : Nat) : Int) = ((x * y % 18446744073709551616 : Nat) : Int) := by rw [wrap64]; omega
  rw [this]
  exact hK

/-! ### roots -/
theorem above_spec (x p : Nat) (hx : x < 18446744073709551616) {h : Hp} {K : Value → Hp → Prop} (hK : K (.bool (decide (p * 18446744073709551616 < x * x))) h) :
    CallsH Try.prog sha_above.id #[.int .u64 x, .int .u64 p] h K := by
  apply sha_above.calls
  unfold sha_above.W
  refine mul64_spec x x hx hx ⟨_, _, rfl, split_dec (fun h1 => ?_) (fun h1 => split_eq (fun h2 => ?_) (fun h2 => ?_))⟩
  · have : decide (p * 18446744073709551616 < x * x) = true := by rw [decide_eq_true_iff]; omega
    rw [this] at hK; exact hK
  · rw [hb_eq]
    have : decide (((x * x % 18446744073709551616 : Nat) : Int) > 0) = decide (p * 18446744073709551616 < x * x) := by
      rw [decide_eq_decide]; omega
    rw [this]; exact hK
  · have : decide (p * 18446744073709551616 < x * x) = false := by rw [decide_eq_false_iff_not]; omega
    rw [this] at hK; exact hK
theorem aboveCube_spec (x p : Nat) (hx : x < 17592186044416) (hp : p < 4294967296) {h : Hp} {K : Value → Hp → Prop} (hK : K (.bool (decide (p * 79228162514264337593543950336 < x * x * x))) h) :
    CallsH Try.prog sha_aboveCube.id #[.int .u64 x, .int .u64 p] h K := by
  apply sha_aboveCube.calls
  unfold sha_aboveCube.W
  have hx2 : x * x < 17592186044416 * 17592186044416 := Nat.mul_lt_mul_of_lt_of_le hx (Nat.le_of_lt hx) (by omega)
  have hhi : x * x / 18446744073709551616 < 16777216 := by omega
  have hlo : x * x % 18446744073709551616 < 18446744073709551616 := by omega
  have e : x * x * x = (x * x / 18446744073709551616) * x * 18446744073709551616 + (x * x % 18446744073709551616) * x := by
    have := Nat.div_add_mod' (x * x) 18446744073709551616
    have h2 : (x * x / 18446744073709551616) * x * 18446744073709551616 = (x * x / 18446744073709551616) * 18446744073709551616 * x := Nat.mul_right_comm _ _ _
    rw [h2, ← Nat.add_mul, this]
  rw [e] at hK
  refine mul64_spec x x (by omega) (by omega) ⟨_, _, rfl, mul64_spec _ x (by omega) (by omega) ⟨_, _, rfl, mul64_spec _ x hlo (by omega) ⟨_, _, rfl, ?_⟩⟩⟩
  generalize x * x / 18446744073709551616 = hi at *
  generalize x * x % 18446744073709551616 = lo at *
  have b1 : hi * x < 16777216 * 17592186044416 := Nat.mul_lt_mul_of_lt_of_le hhi (Nat.le_of_lt hx) (by omega)
  have b2 : lo * x < 18446744073709551616 * 17592186044416 := Nat.mul_lt_mul_of_lt_of_le hlo (Nat.le_of_lt hx) (by omega)
  generalize hi * x = T at *
  generalize lo * x = L at *
  have t1 : T / 18446744073709551616 < 16 := by omega
  refine ⟨by omega, by omega, by decide, by decide, by decide, ?_⟩
  have e1 : (((T % 18446744073709551616 : Nat) : Int) + ((L / 18446744073709551616 : Nat) : Int) + 0).tdiv 18446744073709551616 = (((T % 18446744073709551616 + L / 18446744073709551616) / 18446744073709551616 : Nat) : Int) := by
    rw [Int.tdiv_eq_ediv_of_nonneg (by omega)]; omega
  have e2 : (((T % 18446744073709551616 : Nat) : Int) + ((L / 18446744073709551616 : Nat) : Int) + 0).tmod 18446744073709551616 = (((T % 18446744073709551616 + L / 18446744073709551616) % 18446744073709551616 : Nat) : Int) := by
    rw [Int.tmod_eq_emod_of_nonneg (by omega)]; omega
  have e3 : ishr IntKind.u64 (p : Int) 32 = 0 := by rw [ishr_64]; omega
  have e4 : IntKind.u64.wrap (ishl IntKind.u64 (p : Int) 32) = ((p * 4294967296 : Nat) : Int) := by
    show IntKind.u64.wrap ((p : Int) * 2 ^ 32) = _
    rw [wrap64]; omega
  rw [e1, e2, e3, e4, ← Int.natCast_add, wrapN (by omega)]
  refine split_dec (fun h1 => ?_) (fun h1 => ⟨by decide, split_eq (fun h2 => ⟨by decide, split_dec (fun h3 => ?_) (fun h3 => ⟨by decide, split_eq (fun h4 => ?_) (fun h4 => ?_)⟩)⟩) (fun h2 => ?_)⟩)
  · have : decide (p * 79228162514264337593543950336 < T * 18446744073709551616 + L) = true := by rw [decide_eq_true_iff]; omega
    rw [this] at hK; exact hK
  · have : decide (p * 79228162514264337593543950336 < T * 18446744073709551616 + L) = true := by rw [decide_eq_true_iff]; omega
    rw [this] at hK; exact hK
  · rw [hb_eq]
    have : decide (((L % 18446744073709551616 : Nat) : Int) > 0) = decide (p * 79228162514264337593543950336 < T * 18446744073709551616 + L) := by rw [decide_eq_decide]; omega
    rw [this]; exact hK
  · have : decide (p * 79228162514264337593543950336 < T * 18446744073709551616 + L) = false := by rw [decide_eq_false_iff_not]; omega
    rw [this] at hK; exact hK
  · omega
end Go.Proofs.Ytpokejaglmkphaa
