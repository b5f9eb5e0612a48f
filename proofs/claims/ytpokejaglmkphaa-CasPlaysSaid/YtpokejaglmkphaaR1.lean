/- The document's own digest: its roots' words and primes are package sha's. Conditions: the ranges that each contract names. -/
import Derived.Test.YtpokejaglmkphaaS7
import Derived.Test.YtpokejaglmkphaaFS
namespace Go.Proofs.Ytpokejaglmkphaa
open Go.Gx
set_option maxRecDepth 100000
set_option linter.unusedVariables false
theorem tdivN (x : Nat) (d : Nat) : ((x : Nat) : Int).tdiv (d : Int) = ((x / d : Nat) : Int) := by
  rw [Int.tdiv_eq_ediv_of_nonneg (by omega)]; rfl
theorem tmodN (x : Nat) (d : Nat) : ((x : Nat) : Int).tmod (d : Int) = ((x % d : Nat) : Int) := by
  rw [Int.tmod_eq_emod_of_nonneg (by omega)]; rfl
theorem wrapM (x : Nat) : IntKind.u64.wrap (x : Int) = ((x % 18446744073709551616 : Nat) : Int) := by rw [wrap64]; omega
theorem product_law (a b : Nat) (ha : a < 18446744073709551616) (hb : b < 18446744073709551616) (c d e : Nat) (hc : c = a % 4294967296 * (b % 4294967296))
    (hd : d = a / 4294967296 * (b % 4294967296) + c / 4294967296) (he : e = a % 4294967296 * (b / 4294967296) + d % 4294967296) :
    c < 18446744073709551616 ∧ d < 18446744073709551616 ∧ e < 18446744073709551616 ∧ a / 4294967296 * (b / 4294967296) + d / 4294967296 + e / 4294967296 = a * b / 18446744073709551616 ∧ e % 4294967296 * 4294967296 + c % 4294967296 = a * b % 18446744073709551616 := by
  have e1 : a * b = (a / 4294967296 * (b / 4294967296)) * 18446744073709551616 + (a / 4294967296 * (b % 4294967296) + a % 4294967296 * (b / 4294967296)) * 4294967296 + a % 4294967296 * (b % 4294967296) := by
    have h1 := Nat.div_add_mod' a 4294967296
    have h2 := Nat.div_add_mod' b 4294967296
    generalize a / 4294967296 = ah at *
    generalize a % 4294967296 = al at *
    generalize b / 4294967296 = bh at *
    generalize b % 4294967296 = bl at *
    rw [← h1, ← h2, Nat.add_mul, Nat.mul_add, Nat.mul_add]
    have x1 : ah * 4294967296 * (bh * 4294967296) = ah * bh * 18446744073709551616 := by
      rw [Nat.mul_mul_mul_comm]
    have x2 : ah * 4294967296 * bl = ah * bl * 4294967296 := Nat.mul_right_comm _ _ _
    have x3 : al * (bh * 4294967296) = al * bh * 4294967296 := (Nat.mul_assoc _ _ _).symm
    rw [x1, x2, x3]
    clear x1 x2 x3 h1 h2
    generalize ah * bh = q1
    generalize ah * bl = q2
    generalize al * bh = q3
    generalize al * bl = q4
    omega
  have hl : ∀ {x y : Nat}, x < 4294967296 → y < 4294967296 → x * y ≤ 18446744065119617025 := fun hx hy => Nat.mul_le_mul (Nat.le_sub_one_of_lt hx) (Nat.le_sub_one_of_lt hy)
  have m1 : c ≤ 18446744065119617025 := by rw [hc]; exact hl (by omega) (by omega)
  have m2 := hl (x := a / 4294967296) (y := b % 4294967296) (by omega) (by omega)
  have m3 := hl (x := a % 4294967296) (y := b / 4294967296) (by omega) (by omega)
  have m4 := hl (x := a / 4294967296) (y := b / 4294967296) (by omega) (by omega)
  rw [← hc] at e1
  rw [e1]
  generalize a / 4294967296 * (b / 4294967296) = p4 at *
  generalize a / 4294967296 * (b % 4294967296) = p2 at *
  generalize a % 4294967296 * (b / 4294967296) = p3 at *
  clear e1 hc
  refine ⟨by omega, by omega, by omega, by omega, by omega⟩
theorem product_spec (x y : Nat) (hx : x < 18446744073709551616) (hy : y < 18446744073709551616) {h : Hp} {K : Value → Hp → Prop}
    (hK : K (.tuple #[.int .u64 ((x * y / 18446744073709551616 : Nat) : Int), .int .u64 ((x * y % 18446744073709551616 : Nat) : Int)]) h) :
    CallsH Try.prog ref02_product.id #[.int .u64 x, .int .u64 y] h K := by
  apply ref02_product.calls
  unfold ref02_product.W
  obtain ⟨l1, l2, l3, l4, l5⟩ := product_law x y hx hy _ _ _ rfl rfl rfl
  have hlt : x * y / 18446744073709551616 < 18446744073709551616 := by
    rw [Nat.div_lt_iff_lt_mul (by omega)]
    exact Nat.mul_lt_mul_of_lt_of_le hx (Nat.le_of_lt hy) (by omega)
  refine ⟨by decide, by decide, by decide, by decide, by decide, by decide, by decide, by decide, by decide, by decide, by decide, by decide, by decide, by decide, ?_⟩
  have t1 : ∀ z : Nat, (z : Int).tdiv 4294967296 = ((z / 4294967296 : Nat) : Int) := fun z => tdivN z 4294967296
  have t2 : ∀ z : Nat, (z : Int).tmod 4294967296 = ((z % 4294967296 : Nat) : Int) := fun z => tmodN z 4294967296
  have w : ∀ z : Nat, z < 18446744073709551616 → IntKind.u64.wrap (z : Int) = (z : Int) := fun z hz => wrapN hz
  simp only [t1, t2, ← Int.natCast_mul]
  rw [w (x / 4294967296) (by omega), w (y / 4294967296) (by omega)]
  simp only [← Int.natCast_mul]
  rw [w _ l1]
  simp only [t1, t2]
  rw [w (x / 4294967296 * (y % 4294967296)) (by omega), w (x % 4294967296 * (y % 4294967296) / 4294967296) (by omega), ← Int.natCast_add, w _ l2]
  simp only [t1, t2]
  rw [w (x % 4294967296 * (y / 4294967296)) (by omega), ← Int.natCast_add, w _ l3]
  simp only [t1, t2]
  have l4' := l4
  rw [w (x / 4294967296 * (y / 4294967296)) (by omega)]
  rw [w ((x / 4294967296 * (y % 4294967296) + x % 4294967296 * (y % 4294967296) / 4294967296) / 4294967296) (by omega)]
  rw [w ((x % 4294967296 * (y / 4294967296) + (x / 4294967296 * (y % 4294967296) + x % 4294967296 * (y % 4294967296) / 4294967296) % 4294967296) / 4294967296) (by omega)]
  rw [← Int.natCast_add, w _ (by omega), ← Int.natCast_add, l4, w _ hlt]
  have e5 : ∀ z : Nat, ((z : Nat) : Int) * 4294967296 = ((z * 4294967296 : Nat) : Int) := fun z => by omega
  rw [e5, w _ (by omega), ← Int.natCast_add, l5, w _ (by omega)]
  exact hK
end Go.Proofs.Ytpokejaglmkphaa
