/- The reference's heads: their bytes, and which are right. Conditions: 1024 bytes, at most 128 pages. -/
import Derived.Test.YtagglohkipioiaaP3
namespace Go.Proofs.Ytagglohkipioiaa
open Go.Gx
set_option maxRecDepth 100000
set_option linter.unusedVariables false

def boolC (b : Bool) : List Value := [.bool b]
theorem boolC_len (b : Bool) : (boolC b).length = 1 := rfl
theorem boolC_plain (b : Bool) : plainP (boolC b) := plainP_of rfl
theorem appTBool : AppT Try.prog 4 1 1 := AppT.of (by kernel_rfl)
def stC (ua : Option Addr) (ul uc : Nat) (da : Option Addr) (dl dc : Nat) (r : Nat → Nat) (s : Nat) : List Value :=
  [.slice ua ul uc, .slice da dl dc, .int .i64 (r 0 : Nat), .int .i64 (r 1 : Nat), .int .i64 (r 2 : Nat), .int .i64 (r 3 : Nat), .int .u64 (s : Nat)]
theorem stC_len {ua : Option Addr} {ul uc : Nat} {da : Option Addr} {dl dc : Nat} {r : Nat → Nat} {s : Nat} : (stC ua ul uc da dl dc r s).length = 7 := rfl
theorem stC_root {ua : Option Addr} {ul uc : Nat} {da : Option Addr} {dl dc : Nat} {r : Nat → Nat} {s k : Nat} (hk : k < 4) : (stC ua ul uc da dl dc r s)[2 + k]? = some (.int .i64 (r k : Nat)) := by
  rcases (by omega : k = 0 ∨ k = 1 ∨ k = 2 ∨ k = 3) with rfl | rfl | rfl | rfl <;> rfl
theorem stC_setR {ua : Option Addr} {ul uc : Nat} {da : Option Addr} {dl dc : Nat} {r : Nat → Nat} {s k : Nat} (v : Nat) (hk : k < 4) : setL (stC ua ul uc da dl dc r s) (2 + k) [.int .i64 (v : Nat)] = stC ua ul uc da dl dc (upR r k v) s := by
  rcases (by omega : k = 0 ∨ k = 1 ∨ k = 2 ∨ k = 3) with rfl | rfl | rfl | rfl <;> rfl
theorem stC_congr {ua : Option Addr} {ul uc : Nat} {da : Option Addr} {dl dc : Nat} {r r' : Nat → Nat} {s : Nat} (h : ∀ k, k < 4 → r k = r' k) : stC ua ul uc da dl dc r s = stC ua ul uc da dl dc r' s := by
  unfold stC
  rw [h 0 (by decide), h 1 (by decide), h 2 (by decide), h 3 (by decide)]
/-- The serial's bytes, from behind. -/
def stgR (s k j : Nat) : Nat := if j < 10 then magicN j else if j < 18 ∧ 18 - k ≤ j then s / 256 ^ (17 - j) % 256 else 0
theorem stgR_zero (s j : Nat) : stgR s 0 j = if j < 10 then magicN j else 0 := by
  unfold stgR
  by_cases h : j < 10
  · rw [if_pos h, if_pos h]
  · rw [if_neg h, if_neg h, if_neg (by omega)]
theorem stgR_full (s j : Nat) : stgR s 8 j = stg1 s 8 j := by
  unfold stgR stg1
  by_cases h : j < 10
  · rw [if_pos h, if_pos h]
  · rw [if_neg h, if_neg h]
    by_cases h2 : j < 18
    · rw [if_pos (by omega), if_pos (by omega)]
    · rw [if_neg (by omega), if_neg (by omega)]
theorem stgR_step (s k j : Nat) (hk : k < 8) : stgR s (k + 1) j = if j = 17 - k then s / 256 ^ k % 256 else stgR s k j := by
  unfold stgR
  by_cases e : j = 17 - k
  · subst e
    rw [if_neg (by omega), if_pos (by omega), if_pos rfl, show 17 - (17 - k) = k by omega]
  · rw [if_neg e]
    by_cases h : j < 10
    · rw [if_pos h, if_pos h]
    · rw [if_neg h, if_neg h]
      by_cases h2 : j < 18 ∧ 18 - k ≤ j
      · rw [if_pos h2, if_pos (by omega)]
      · rw [if_neg h2, if_neg (by omega)]
theorem tdivN (n m : Nat) : ((n : Nat) : Int).tdiv ((m : Nat) : Int) = ((n / m : Nat) : Int) := by rw [Int.tdiv_eq_ediv_of_nonneg (by omega), Int.natCast_ediv]
theorem tmodN (n m : Nat) : ((n : Nat) : Int).tmod ((m : Nat) : Int) = ((n % m : Nat) : Int) := by rw [Int.tmod_eq_emod_of_nonneg (by omega), Int.natCast_emod]

set_option maxHeartbeats 2000000 in
theorem rbytes_spec {h : Hp} {K : Value → Hp → Prop} {ua : Option Addr} {uc : Nat} {da : Option Addr} {dl dc : Nat} {r : Nat → Nat} {s n : Nat} {u : Nat → Bool} (U : RowAt boolC 1 h ua ((List.range n).map u)) (hn : n ≤ 128) (hs : s < 18446744073709551616)
    (hr : ∀ k, k < 4 → r k < 65536) (hK : ∀ h', Sub h h' → K (.string (tabB (encN s r u n))) h') : CallsH Try.prog ref14_Bytes.id #[.agg (stC ua n uc da dl dc r s).toArray] h K := by
  have h0 := hr 0 (by decide)
  have h1 := hr 1 (by decide)
  have h2 := hr 2 (by decide)
  have h3 := hr 3 (by decide)
  apply ref14_Bytes.calls
  unfold ref14_Bytes.W
  intro k1 hk1
  have C0 : Blk (h.upd k1 (.cells (stC ua n uc da dl dc r s).toArray 50 (0, 0))) k1 50 (stC ua n uc da dl dc r s) := Blk.new _ _ _ _
  have t0 : Sub h (h.upd k1 (.cells (stC ua n uc da dl dc r s).toArray 50 (0, 0))) := Sub.upd hk1 _
  refine ⟨by decide, by decide, by decide, by decide, fun k2 hk2 => ?_⟩
  have hk2 : (h.upd k1 (.cells (stC ua n uc da dl dc r s).toArray 50 (0, 0))) k2 = none := hk2
  show ∃ J3 : Hp → Prop, _ ∧ copyC ((h.upd k1 (.cells (stC ua n uc da dl dc r s).toArray 50 (0, 0))).upd k2 _) _ _ _
  generalize h.upd k1 (.cells (stC ua n uc da dl dc r s).toArray 50 (0, 0)) = h1' at C0 t0 hk2 ⊢
  have B0 : Blk (h1'.upd k2 (.cells (repV 1024 [.int .u8 0]).toArray 5 (0, 0))) k2 5 (repV 1024 [.int .u8 0]) := Blk.new _ k2 5 _
  have s0 : Sub h1' (h1'.upd k2 (.cells (repV 1024 [.int .u8 0]).toArray 5 (0, 0))) := Sub.upd hk2 _
  have new : ∀ {x : Hp} (sx : Sub h1' x) (o' : Nat) (us : List Value), Sub h1' (x.put k2 o' us) := fun {x} sx o' us => (Keep.put (fun c => c = k2) x o' us rfl).sub sx fun c e => by rw [e]; exact hk2
  refine ⟨fun x => Sub h1' x ∧ Blk x k2 5 (tabV (stgR s 0)), ?_, .inr ⟨k2, 0, rfl, cpyV10_plain, B0.store (by rw [cpyV10_len, rep1024_len]; decide), new s0 _ _, ?_⟩⟩
  rotate_left
  · have := B0.put 0 (cpyV (bytesL [115, 116, 114, 111, 110, 103, 114, 111, 111, 109]) 1024)
    rw [cpyV10, ← tabV_congr fun j _ => stgR_zero s j] at this
    exact this
  rintro x3 ⟨s3, B3⟩
  refine ⟨_, (C0.sub s3).cell' 6 rfl, ?_⟩
  refine ⟨fun v i x m => ∃ k : Nat, v = ((s / 256 ^ k : Nat) : Int) ∧ i = 7 - (k : Int) ∧ k ≤ 8 ∧ m = 8 - k ∧ Sub h1' x ∧ Blk x k2 5 (tabV (stgR s k)), ⟨_, 0, by rw [Nat.pow_zero, Nat.div_one], rfl, by decide, rfl, s3, B3⟩, ?_⟩
  rintro v i x m ⟨k, rfl, rfl, hk, rfl, sx, Bx⟩
  refine split_dec (fun g => ?_) fun g => ?_
  · have g : k < 8 := by have : 7 - (k : Int) ≥ 0 := g; omega
    have e1 : IntKind.i64.wrap (10 + (7 - (k : Int))) = ((17 - k : Nat) : Int) := by rw [wid (by omega) (by omega)]; omega
    have idx : 0 + ((17 - k : Nat) : Int).toNat * 1 = 17 - k := by rw [Int.toNat_natCast]; omega
    have hle : s / 256 ^ k ≤ s := Nat.div_le_self ..
    rw [e1]
    refine ⟨by decide, by omega, by omega, k2, 0, rfl, ?_, by decide, 8 - (k + 1), by omega, k + 1, ?_, ?_, by omega, rfl, new sx _ _, ?_⟩
    · rw [idx]; exact Bx.store (by rw [tabV_len]; omega)
    · rw [show (256 : Int) = ((256 : Nat) : Int) from rfl, tdivN, wrap64s _ (by omega), Nat.pow_succ, Nat.div_div_eq_div_mul]
    · rw [wid (by omega) (by omega)]; omega
    · rw [show (256 : Int) = ((256 : Nat) : Int) from rfl, tmodN, u8c, Nat.mod_mod, idx]
      have := Bx.put (17 - k) [.int .u8 ((s / 256 ^ k % 256 : Nat) : Int)]
      rw [tabV_set, ← tabV_congr fun j _ => stgR_step s k j g] at this
      exact this
  have : k = 8 := by
    have : ¬ 7 - (k : Int) ≥ 0 := g
    omega
  subst this
  clear s3 B3 g
  rw [tabV_congr fun j _ => stgR_full s j, ← tabV_congr fun j _ => stg2_zero s r j] at Bx
  refine ⟨fun i x m => ∃ n : Nat, i = (n : Int) ∧ n ≤ 4 ∧ m = 4 - n ∧ Sub h1' x ∧ Blk x k2 5 (tabV (stg2 s r n)), ⟨_, 0, rfl, by decide, rfl, sx, Bx⟩, ?_⟩
  clear Bx sx
  rintro i x m ⟨j, rfl, hj, rfl, sx, Bx⟩
  refine split_dec (fun g => ?_) fun g => ?_
  · have g : j < 4 := by have : (j : Int) < 4 := g; omega
    have e1 : IntKind.i64.wrap (2 * (j : Int)) = ((2 * j : Nat) : Int) := by rw [wid (by omega) (by omega)]; omega
    have e2 : IntKind.i64.wrap (18 + ((2 * j : Nat) : Int)) = ((18 + 2 * j : Nat) : Int) := by rw [wid (by omega) (by omega)]; omega
    have e3 : IntKind.i64.wrap (19 + ((2 * j : Nat) : Int)) = ((19 + 2 * j : Nat) : Int) := by rw [wid (by omega) (by omega)]; omega
    have idx : 0 + ((18 + 2 * j : Nat) : Int).toNat * 1 = 18 + 2 * j := by rw [Int.toNat_natCast]; omega
    have idx2 : 0 + ((19 + 2 * j : Nat) : Int).toNat * 1 = 19 + 2 * j := by rw [Int.toNat_natCast]; omega
    have idx3 : 2 + (j : Int).toNat * 1 = 2 + j := by rw [Int.toNat_natCast]; omega
    have hrj := hr j g
    have v1 : IntKind.u8.wrap (IntKind.i64.wrap (((r j : Nat) : Int).tdiv 256)) = ((r j / 256 % 256 : Nat) : Int) := by
      rw [show (256 : Int) = ((256 : Nat) : Int) from rfl, tdivN, widN _ (by omega), u8c]
    have v2 : IntKind.u8.wrap (((r j : Nat) : Int).tmod 256) = ((r j % 256 : Nat) : Int) := by
      rw [show (256 : Int) = ((256 : Nat) : Int) from rfl, tmodN, u8c, Nat.mod_mod]
    rw [e1, e2, e3, idx3]
    have B2 := Bx.put (18 + 2 * j) [.int .u8 ((r j / 256 % 256 : Nat) : Int)]
    rw [tabV_set] at B2
    have sx2 := new sx (18 + 2 * j) [.int .u8 ((r j / 256 % 256 : Nat) : Int)]
    refine ⟨by omega, by omega, ((r j : Nat) : Int), (C0.sub sx).cell' _ (stC_root g), by decide, by omega, by omega, k2, 0, rfl, ?_, by omega, by omega, ((r j : Nat) : Int), ?_, ?_⟩
    · rw [idx]; exact Bx.store (by rw [tabV_len]; omega)
    · rw [idx, v1]; exact (C0.sub sx2).cell' _ (stC_root g)
    rw [idx, v1, v2]
    refine ⟨by decide, by omega, by omega, k2, 0, rfl, ?_, 4 - (j + 1), by omega, j + 1, by rw [wid (by omega) (by omega)]; omega, by omega, rfl, new sx2 _ _, ?_⟩
    · rw [idx2]; exact B2.store (by rw [tabV_len]; omega)
    · rw [idx2]
      have := B2.put (19 + 2 * j) [.int .u8 ((r j % 256 : Nat) : Int)]
      rw [tabV_set, ← tabV_congr fun i _ => stg2_step s r j i] at this
      exact this
  have : j = 4 := by
    have : ¬ (j : Int) < 4 := g
    omega
  subst this
  clear g
  rw [← tabV_congr fun j _ => encN_zero s r u j] at Bx
  refine ⟨fun i x m => ∃ j : Nat, i = (j : Int) ∧ j ≤ n ∧ m = n - j ∧ Sub h1' x ∧ Blk x k2 5 (tabV (encN s r u j)), ⟨_, 0, rfl, Nat.zero_le _, rfl, sx, Bx⟩, ?_⟩
  clear Bx sx
  rintro i x m ⟨j, rfl, hj, rfl, sx, Bx⟩
  refine ⟨_, _, _, (C0.sub sx).cell' 0 rfl, split_dec (fun g => ?_) fun g => ?_⟩
  · have g : j < n := by have : (j : Int) < (n : Int) := g; omega
    refine ⟨fun v i y m => ∃ t : Nat, v = ((2 ^ t : Nat) : Int) ∧ i = (t : Int) ∧ t ≤ j % 8 ∧ m = 8 - t ∧ y = x, ⟨_, 0, rfl, rfl, Nat.zero_le _, rfl, rfl⟩, ?_⟩
    rintro v i y m ⟨t, rfl, rfl, ht, rfl, rfl⟩
    have hm : j % 8 < 8 := Nat.mod_lt _ (by decide)
    rw [tmod8]
    refine ⟨by decide, split_dec (fun gt => ?_) fun gt => ?_⟩
    · have gt : t < j % 8 := by omega
      have hp := pow_lt8 (k := t + 1) (by omega)
      refine ⟨8 - (t + 1), by omega, t + 1, ?_, by rw [wid (by omega) (by omega)]; omega, by omega, rfl, rfl⟩
      rw [show ((2 ^ t : Nat) : Int) * 2 = ((2 ^ (t + 1) : Nat) : Int) by rw [Nat.pow_succ]; omega, u8c, Nat.mod_eq_of_lt (by omega)]
    have : t = j % 8 := by omega
    subst this
    have hq : ((List.range n).map u)[j]? = some (u j) := by rw [List.getElem?_map, List.getElem?_range g]; rfl
    obtain ⟨b, o, ea, hcell⟩ := ((U.sub t0).sub sx).get boolC_len (by decide) hq
    have e4 : IntKind.i64.wrap ((j : Int) + 1) = ((j + 1 : Nat) : Int) := by rw [wid (by omega) (by omega)]; omega
    refine ⟨_, _, _, (C0.sub sx).cell' 0 rfl, by omega, by show (j : Int) < (n : Int); omega, b, o, ea, u j, by rw [Int.toNat_natCast]; exact hcell 0 _ rfl, split_cond (fun eu => ?_) fun eu => ⟨n - (j + 1), by omega, j + 1, e4, by omega, rfl, sx, ?_⟩⟩
    · have e1 : IntKind.i64.wrap (26 + IntKind.i64.wrap ((j : Int).tdiv 8)) = ((26 + j / 8 : Nat) : Int) := by
        rw [tdiv8, widN _ (by omega), wid (by omega) (by omega)]; omega
      have idx : 0 + ((26 + j / 8 : Nat) : Int).toNat * 1 = 26 + j / 8 := by rw [Int.toNat_natCast]; omega
      have hlow := encN_low s r u (n := j) (by omega)
      have hp := pow_lt8 hm
      rw [e1]
      refine ⟨by decide, by decide, by omega, by omega, k2, 0, rfl, ((encN s r u j (26 + j / 8) : Nat) : Int), ?_, by omega, by omega, k2, 0, rfl, ?_, n - (j + 1), by omega, j + 1, e4, by omega, rfl, new sx _ _, ?_⟩
      · rw [idx]; exact Bx.cell' _ (tabV_get (by omega))
      · rw [idx]; exact Bx.store (by rw [tabV_len]; omega)
      · rw [idx, show ((encN s r u j (26 + j / 8) : Nat) : Int) + ((2 ^ (j % 8) : Nat) : Int) = ((encN s r u j (26 + j / 8) + 2 ^ (j % 8) : Nat) : Int) from (Int.natCast_add _ _).symm, u8c, Nat.mod_eq_of_lt (by omega)]
        have := Bx.put (26 + j / 8) [.int .u8 ((encN s r u j (26 + j / 8) + 2 ^ (j % 8) : Nat) : Int)]
        rw [tabV_set, ← tabV_congr fun i _ => encN_yes s r u (by omega) eu i] at this
        exact this
    · rw [tabV_congr fun i _ => encN_no s r u eu i]; exact Bx
  have : j = n := by
    have : ¬ (j : Int) < (n : Int) := g
    omega
  subst this
  exact ⟨_, by rw [tabB_bytes fun i _ => encN_lt s r u j i]; exact Bx.slice (tabV_len _), hK x (t0.trans sx)⟩
end Go.Proofs.Ytagglohkipioiaa
