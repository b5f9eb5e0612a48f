/- States in cells; a page of noughts. Conditions: none beyond each law's own. -/
import Derived.Test.YtagglohkipioiaaGreatP3
namespace Go.Proofs.YtagglohkipioiaaGreat
open Go.Gx
set_option maxRecDepth 100000
set_option linter.unusedVariables false

def boolC (b : Bool) : List Value := [.bool b]
theorem boolC_len (b : Bool) : (boolC b).length = 1 := rfl
theorem boolC_plain (b : Bool) : plainP (boolC b) := plainP_of rfl
theorem appTBool : AppT Tryz.prog 4 1 1 := AppT.of (by kernel_rfl)
def stC (ua : Option Addr) (ul uc : Nat) (da : Option Addr) (dl dc : Nat) (r : Nat → Nat) (s : Nat) : List Value :=
  [.slice ua ul uc, .slice da dl dc, .int .i64 (r 0 : Nat), .int .i64 (r 1 : Nat), .int .i64 (r 2 : Nat), .int .i64 (r 3 : Nat), .int .u64 (s : Nat)]
theorem stC_len {ua : Option Addr} {ul uc : Nat} {da : Option Addr} {dl dc : Nat} {r : Nat → Nat} {s : Nat} : (stC ua ul uc da dl dc r s).length = 7 := rfl
theorem stC_root {ua : Option Addr} {ul uc : Nat} {da : Option Addr} {dl dc : Nat} {r : Nat → Nat} {s k : Nat} (hk : k < 4) : (stC ua ul uc da dl dc r s)[2 + k]? = some (.int .i64 (r k : Nat)) := by
  rcases (by omega : k = 0 ∨ k = 1 ∨ k = 2 ∨ k = 3) with rfl | rfl | rfl | rfl <;> rfl
theorem stC_setR {ua : Option Addr} {ul uc : Nat} {da : Option Addr} {dl dc : Nat} {r : Nat → Nat} {s k : Nat} (v : Nat) (hk : k < 4) : setL (stC ua ul uc da dl dc r s) (2 + k) [.int .i64 (v : Nat)] = stC ua ul uc da dl dc (upR r k v) s := by
  rcases (by omega : k = 0 ∨ k = 1 ∨ k = 2 ∨ k = 3) with rfl | rfl | rfl | rfl <;> rfl
theorem stC_congr {ua : Option Addr} {ul uc : Nat} {da : Option Addr} {dl dc : Nat} {r r' : Nat → Nat} {s : Nat} (h : ∀ k, k < 4 → r k = r' k) : stC ua ul uc da dl dc r s = stC ua ul uc da dl dc r' s := by
  unfold stC
  rw [h 0 (by decide), h 1 (by decide), h 2 (by decide), h 3 (by decide)]
/-- The serial's bytes, from behind. -/
def stgR (s k j : Nat) : Nat := if j < 10 then magicN j else if j < 18 ∧ 18 - k ≤ j then s / 256 ^ (17 - j) % 256 else 0
theorem stgR_zero (s j : Nat) : stgR s 0 j = if j < 10 then magicN j else 0 := by
  unfold stgR
  by_cases h : j < 10
  · rw [if_pos h, if_pos h]
  · rw [if_neg h, if_neg h, if_neg (by omega)]
theorem stgR_full (s j : Nat) : stgR s 8 j = stg1 s 8 j := by
  unfold stgR stg1
  by_cases h : j < 10
  · rw [if_pos h, if_pos h]
  · rw [if_neg h, if_neg h]
    by_cases h2 : j < 18
    · rw [if_pos (by omega), if_pos (by omega)]
    · rw [if_neg (by omega), if_neg (by omega)]
theorem stgR_step (s k j : Nat) (hk : k < 8) : stgR s (k + 1) j = if j = 17 - k then s / 256 ^ k % 256 else stgR s k j := by
  unfold stgR
  by_cases e : j = 17 - k
  · subst e
    rw [if_neg (by omega), if_pos (by omega), if_pos rfl, show 17 - (17 - k) = k by omega]
  · rw [if_neg e]
    by_cases h : j < 10
    · rw [if_pos h, if_pos h]
    · rw [if_neg h, if_neg h]
      by_cases h2 : j < 18 ∧ 18 - k ≤ j
      · rw [if_pos h2, if_pos (by omega)]
      · rw [if_neg h2, if_neg (by omega)]
theorem tdivN (n m : Nat) : ((n : Nat) : Int).tdiv ((m : Nat) : Int) = ((n / m : Nat) : Int) := by rw [Int.tdiv_eq_ediv_of_nonneg (by omega), Int.natCast_ediv]
theorem tmodN (n m : Nat) : ((n : Nat) : Int).tmod ((m : Nat) : Int) = ((n % m : Nat) : Int) := by rw [Int.tmod_eq_emod_of_nonneg (by omega), Int.natCast_emod]

theorem blank_spec {h : Hp} {K : Value → Hp → Prop} (hK : ∀ h', Sub h h' → K (.string (zeroB 1024)) h') : CallsH Tryz.prog ref14_blank.id #[] h K := by
  apply ref14_blank.calls
  unfold ref14_blank.W
  exact ⟨by decide, by decide, by decide, by decide, fun k hk => ⟨zeroB 1024, zero_slice (Hp.upd_same _ _ _), hK _ (Sub.upd hk _)⟩⟩

end Go.Proofs.YtagglohkipioiaaGreat
