/- A pager's head as plain data: its bytes, and what bytes tell. Conditions: none beyond each law's own. The bytes of a pager's head. Conditions: the head lies in cells; roots below 65536. -/
import Derived.Test.YtagglohkipioiaaGreatJ6
namespace Go.Proofs.YtagglohkipioiaaGreat
open Go.Gx
set_option maxRecDepth 100000
set_option linter.unusedVariables false

/-! ### words -/
theorem shrN (k : IntKind) (n b : Nat) (hb : b ≤ k.bits) : ishr k (n : Int) ((b : Nat) : Int) = ((n / 2 ^ b : Nat) : Int) := by
  show ((n : Int)).fdiv (2 ^ min ((b : Nat) : Int).toNat k.bits) = _
  rw [Int.toNat_natCast, Nat.min_eq_left hb, Int.fdiv_eq_ediv_of_nonneg _ (by exact Int.le_of_lt (Int.pow_pos (by decide))), Int.natCast_ediv, Int.natCast_pow]; rfl
theorem shlN (k : IntKind) (n b : Nat) (hb : b ≤ k.bits) : ishl k (n : Int) ((b : Nat) : Int) = ((n * 2 ^ b : Nat) : Int) := by
  show (n : Int) * 2 ^ min ((b : Nat) : Int).toNat k.bits = _
  rw [Int.toNat_natCast, Nat.min_eq_left hb, Int.natCast_mul, Int.natCast_pow]; rfl
theorem orN (k : IntKind) (x y t : Nat) (hx : x < 2 ^ t) (h : x + y * 2 ^ t < 2 ^ k.bits) : ior k (x : Int) ((y * 2 ^ t : Nat) : Int) = ((x + y * 2 ^ t : Nat) : Int) := by
  show (((BitVec.ofInt k.bits (x : Int) ||| BitVec.ofInt k.bits ((y * 2 ^ t : Nat) : Int)).toNat : Nat) : Int) = _
  rw [BitVec.ofInt_natCast, BitVec.ofInt_natCast, BitVec.toNat_or, BitVec.toNat_ofNat, BitVec.toNat_ofNat, Nat.mod_eq_of_lt (by omega), Nat.mod_eq_of_lt (by omega)]
  have := Nat.two_pow_add_eq_or_of_lt hx y
  rw [Nat.or_comm, Nat.mul_comm y, ← this, Nat.add_comm]
theorem orN' (k : IntKind) (x y t : Nat) (hx : x < 2 ^ t) (h : x + y * 2 ^ t < 2 ^ k.bits) : ior k ((y * 2 ^ t : Nat) : Int) (x : Int) = ((x + y * 2 ^ t : Nat) : Int) := by
  rw [← orN k x y t hx h]
  show (((BitVec.ofInt k.bits _ ||| BitVec.ofInt k.bits _).toNat : Nat) : Int) = (((BitVec.ofInt k.bits _ ||| BitVec.ofInt k.bits _).toNat : Nat) : Int)
  rw [BitVec.or_comm]
theorem and1 (x : Nat) (hx : x < 256) : iand IntKind.u8 (x : Int) 1 = ((x % 2 : Nat) : Int) := by
  show (((BitVec.ofInt 8 (x : Int) &&& BitVec.ofInt 8 1).toNat : Nat) : Int) = _
  rw [BitVec.ofInt_natCast, BitVec.toNat_and, BitVec.toNat_ofNat, Nat.mod_eq_of_lt (by omega)]
  have : (BitVec.ofInt 8 1).toNat = 1 := by decide
  rw [this, Nat.and_one_is_mod]
theorem u8c (n : Nat) : IntKind.u8.wrap (n : Int) = ((n % 256 : Nat) : Int) := by rw [wrap8]; omega
theorem wrap64s (x : Nat) (h : x < 18446744073709551616) : IntKind.u64.wrap (x : Int) = (x : Int) := by rw [wrap64]; omega
theorem widN (x : Nat) (h : x ≤ 9223372036854775807) : IntKind.i64.wrap (x : Int) = (x : Int) := wid (by omega) (by omega)

/-! ### rows of 1024 bytes -/
def tabV (f : Nat → Nat) : List Value := (List.range 1024).map fun j => .int .u8 (f j : Nat)
theorem tabV_len (f : Nat → Nat) : (tabV f).length = 1024 := by unfold tabV; simp
theorem tabV_get {f : Nat → Nat} {j : Nat} (hj : j < 1024) : (tabV f)[j]? = some (.int .u8 (f j : Nat)) := by
  unfold tabV
  rw [List.getElem?_map, List.getElem?_range hj]; rfl
theorem tabV_congr {f g : Nat → Nat} (h : ∀ j, j < 1024 → f j = g j) : tabV f = tabV g := by
  unfold tabV
  exact List.map_congr_left fun j hj => by rw [h j (List.mem_range.1 hj)]
theorem tabV_set {f : Nat → Nat} {j v : Nat} : setL (tabV f) j [.int .u8 ((v : Nat) : Int)] = tabV fun i => if i = j then v else f i := by
  refine List.ext_getElem? fun i => ?_
  rw [setL_get]
  by_cases hi : i < 1024
  · rw [tabV_get hi, tabV_get hi]
    by_cases e : i = j
    · rw [if_pos ⟨e, by rw [tabV_len]; omega⟩, if_pos e]
    · rw [if_neg fun h => e h.1, if_neg e]
  · rw [if_neg (fun h => by have := h.2; rw [tabV_len] at this; omega), List.getElem?_eq_none (by rw [tabV_len]; omega), List.getElem?_eq_none (by rw [tabV_len]; omega)]
def tabL (f : Nat → Nat) : List UInt8 := (List.range 1024).map fun j => UInt8.ofNat (f j)
def tabB (f : Nat → Nat) : ByteArray := ⟨(tabL f).toArray⟩
theorem tabB_size (f : Nat → Nat) : (tabB f).size = 1024 := by rw [← size_len]; show (tabL f).length = 1024; unfold tabL; simp
theorem tabB_bytes {f : Nat → Nat} (h : ∀ j, j < 1024 → f j < 256) : bytesV (tabB f) = tabV f := by
  unfold bytesV tabB tabL tabV
  rw [List.map_map]
  refine List.map_congr_left fun j hj => ?_
  have := h j (List.mem_range.1 hj)
  have : (UInt8.ofNat (f j)).toNat = f j := by simp; omega
  show Value.int .u8 (((UInt8.ofNat (f j)).toNat : Nat) : Int) = _
  rw [this]
theorem tabB_congr {f g : Nat → Nat} (h : ∀ j, j < 1024 → f j = g j) : tabB f = tabB g := by
  unfold tabB tabL
  rw [List.map_congr_left fun j hj => by rw [h j (List.mem_range.1 hj)]]
def byteN (b : ByteArray) (j : Nat) : Nat := ((b.data.toList[j]?).getD 0).toNat
theorem byteN_lt (b : ByteArray) (j : Nat) : byteN b j < 256 := UInt8.toNat_lt _
theorem byteAt_N (b : ByteArray) (j : Nat) : byteAt b j = ((byteN b j : Nat) : Int) := rfl
theorem byteN_tab {f : Nat → Nat} {j : Nat} (h : f j < 256) (hj : j < 1024) : byteN (tabB f) j = f j := by
  unfold byteN tabB tabL
  rw [show ((⟨((List.range 1024).map fun j => UInt8.ofNat (f j)).toArray⟩ : ByteArray).data.toList) = (List.range 1024).map fun j => UInt8.ofNat (f j) from rfl, List.getElem?_map, List.getElem?_range hj]
  simp; omega

/-! ### the bits of the pages in use -/
def bitAt (u : Nat → Bool) (n c t : Nat) : Nat := if 8 * c + t < n then (u (8 * c + t)).toNat else 0
def bitsU (u : Nat → Bool) (n c : Nat) : Nat := bitAt u n c 0 + 2 * bitAt u n c 1 + 4 * bitAt u n c 2 + 8 * bitAt u n c 3 + 16 * bitAt u n c 4 + 32 * bitAt u n c 5 + 64 * bitAt u n c 6 + 128 * bitAt u n c 7
theorem toNat_le (b : Bool) : b.toNat ≤ 1 := by cases b <;> decide
theorem bitAt_le (u : Nat → Bool) (n c t : Nat) : bitAt u n c t ≤ 1 := by
  unfold bitAt
  split
  · exact toNat_le _
  · decide
theorem bitAt_hi {u : Nat → Bool} {n c t : Nat} (h : n ≤ 8 * c + t) : bitAt u n c t = 0 := if_neg (by omega)
theorem bitAt_lo {u : Nat → Bool} {n c t : Nat} (h : 8 * c + t < n) : bitAt u n c t = (u (8 * c + t)).toNat := if_pos h
theorem bitAt_ne {u : Nat → Bool} {n c t : Nat} (h : 8 * c + t ≠ n) : bitAt u (n + 1) c t = bitAt u n c t := by
  by_cases e : 8 * c + t < n
  · rw [bitAt_lo e, bitAt_lo (by omega)]
  · rw [bitAt_hi (by omega), bitAt_hi (by omega)]
theorem eight {t : Nat} (ht : t < 8) : t = 0 ∨ t = 1 ∨ t = 2 ∨ t = 3 ∨ t = 4 ∨ t = 5 ∨ t = 6 ∨ t = 7 := by omega
theorem bitsU_lt (u : Nat → Bool) (n c : Nat) : bitsU u n c < 256 := by
  have h := bitAt_le u n c
  have h0 := h 0; have h1 := h 1; have h2 := h 2; have h3 := h 3; have h4 := h 4; have h5 := h 5; have h6 := h 6; have h7 := h 7
  unfold bitsU; omega
theorem bitsU_dec (u : Nat → Bool) (n c : Nat) {t : Nat} (ht : t < 8) : bitsU u n c / 2 ^ t % 2 = bitAt u n c t := by
  have h := bitAt_le u n c
  have h0 := h 0; have h1 := h 1; have h2 := h 2; have h3 := h 3; have h4 := h 4; have h5 := h 5; have h6 := h 6; have h7 := h 7
  unfold bitsU
  rcases eight ht with rfl | rfl | rfl | rfl | rfl | rfl | rfl | rfl <;> omega
theorem bitsU_low (u : Nat → Bool) (c : Nat) {t : Nat} (ht : t < 8) : bitsU u (8 * c + t) c < 2 ^ t := by
  have h := bitAt_le u (8 * c + t) c
  have z : ∀ s, t ≤ s → bitAt u (8 * c + t) c s = 0 := fun s hs => bitAt_hi (by omega)
  have h0 := h 0; have h1 := h 1; have h2 := h 2; have h3 := h 3; have h4 := h 4; have h5 := h 5; have h6 := h 6; have h7 := h 7
  have z0 := z 0; have z1 := z 1; have z2 := z 2; have z3 := z 3; have z4 := z 4; have z5 := z 5; have z6 := z 6; have z7 := z 7
  unfold bitsU
  rcases eight ht with rfl | rfl | rfl | rfl | rfl | rfl | rfl | rfl <;> omega
theorem bitsU_set (u : Nat → Bool) (c : Nat) {t : Nat} (ht : t < 8) : bitsU u (8 * c + t + 1) c = bitsU u (8 * c + t) c + (u (8 * c + t)).toNat * 2 ^ t := by
  have z : ∀ s, s ≠ t → bitAt u (8 * c + t + 1) c s = bitAt u (8 * c + t) c s := fun s hs => bitAt_ne (by omega)
  have y : bitAt u (8 * c + t) c t = 0 := bitAt_hi (Nat.le_refl _)
  have x : bitAt u (8 * c + t + 1) c t = (u (8 * c + t)).toNat := bitAt_lo (Nat.lt_succ_self _)
  have z0 := z 0; have z1 := z 1; have z2 := z 2; have z3 := z 3; have z4 := z 4; have z5 := z 5; have z6 := z 6; have z7 := z 7
  unfold bitsU
  rcases eight ht with rfl | rfl | rfl | rfl | rfl | rfl | rfl | rfl <;> omega
theorem bitsU_other {u : Nat → Bool} {n c : Nat} (h : n / 8 ≠ c) : bitsU u (n + 1) c = bitsU u n c := by
  unfold bitsU
  rw [bitAt_ne (by omega), bitAt_ne (by omega), bitAt_ne (by omega), bitAt_ne (by omega), bitAt_ne (by omega), bitAt_ne (by omega), bitAt_ne (by omega), bitAt_ne (by omega)]
theorem bitsU_congr {u v : Nat → Bool} {n m c : Nat} (h : ∀ i, bitAt u n c i = bitAt v m c i) : bitsU u n c = bitsU v m c := by
  unfold bitsU
  rw [h, h, h, h, h, h, h, h]

/-! ### a head's bytes -/
def magicN (j : Nat) : Nat := [115, 116, 114, 111, 110, 103, 114, 111, 111, 109].getD j 0
theorem magicN_lt (j : Nat) : magicN j < 256 := by
  by_cases h : j < 10
  · have : ∀ j : Fin 10, magicN j.val < 256 := by decide
    exact this ⟨j, h⟩
  · unfold magicN
    rw [List.getD_eq_getElem?_getD, List.getElem?_eq_none (by show 10 ≤ j; omega)]; decide
def stg1 (s n j : Nat) : Nat := if j < 10 then magicN j else if j < 10 + n then s / 256 ^ (17 - j) % 256 else 0
def rootB (r : Nat → Nat) (i : Nat) : Nat := (if i % 2 = 0 then r (i / 2) / 256 else r (i / 2)) % 256
def stg2 (s : Nat) (r : Nat → Nat) (n j : Nat) : Nat := if j < 18 then stg1 s 8 j else if j < 18 + 2 * n then rootB r (j - 18) else 0
def encN (s : Nat) (r : Nat → Nat) (u : Nat → Bool) (n j : Nat) : Nat := if j < 26 then stg2 s r 4 j else if j < 42 then bitsU u n (j - 26) else 0
theorem stg1_lt (s n j : Nat) : stg1 s n j < 256 := by
  unfold stg1
  split
  · exact magicN_lt j
  · split
    · exact Nat.mod_lt _ (by decide)
    · decide
theorem stg2_lt (s : Nat) (r : Nat → Nat) (n j : Nat) : stg2 s r n j < 256 := by
  unfold stg2
  split
  · exact stg1_lt _ _ _
  · split
    · exact Nat.mod_lt _ (by decide)
    · decide
theorem encN_lt (s : Nat) (r : Nat → Nat) (u : Nat → Bool) (n j : Nat) : encN s r u n j < 256 := by
  unfold encN
  split
  · exact stg2_lt _ _ _ _
  · split
    · exact bitsU_lt _ _ _
    · decide
theorem stg1_zero (s j : Nat) : stg1 s 0 j = if j < 10 then magicN j else 0 := by
  unfold stg1
  by_cases h : j < 10
  · rw [if_pos h, if_pos h]
  · rw [if_neg h, if_neg h, if_neg (by omega)]
theorem stg1_step (s n j : Nat) (hn : n < 8) : stg1 s (n + 1) j = if j = 10 + n then s / 2 ^ (56 - 8 * n) % 256 else stg1 s n j := by
  unfold stg1
  by_cases e : j = 10 + n
  · subst e
    rw [if_neg (by omega), if_pos (by omega), if_pos rfl, show 17 - (10 + n) = 7 - n by omega, show 56 - 8 * n = 8 * (7 - n) by omega, Nat.pow_mul]
  · rw [if_neg e]
    by_cases h1 : j < 10
    · rw [if_pos h1, if_pos h1]
    · rw [if_neg h1, if_neg h1]
      by_cases h2 : j < 10 + n
      · rw [if_pos h2, if_pos (by omega)]
      · rw [if_neg h2, if_neg (by omega)]
theorem stg2_zero (s : Nat) (r : Nat → Nat) (j : Nat) : stg2 s r 0 j = stg1 s 8 j := by
  unfold stg2
  by_cases h : j < 18
  · rw [if_pos h]
  · rw [if_neg h, if_neg (by omega)]
    unfold stg1
    rw [if_neg (by omega), if_neg (by omega)]
theorem stg2_step (s : Nat) (r : Nat → Nat) (n j : Nat) : stg2 s r (n + 1) j = if j = 19 + 2 * n then r n % 256 else if j = 18 + 2 * n then r n / 256 % 256 else stg2 s r n j := by
  unfold stg2 rootB
  by_cases e : j = 19 + 2 * n
  · subst e
    rw [if_neg (by omega), if_pos (by omega), if_pos rfl, if_neg (by omega), show (19 + 2 * n - 18) / 2 = n by omega]
  · rw [if_neg e]
    by_cases e2 : j = 18 + 2 * n
    · subst e2
      rw [if_neg (by omega), if_pos (by omega), if_pos rfl, if_pos (by omega), show (18 + 2 * n - 18) / 2 = n by omega]
    · rw [if_neg e2]
      by_cases h1 : j < 18
      · rw [if_pos h1, if_pos h1]
      · rw [if_neg h1, if_neg h1]
        by_cases h2 : j < 18 + 2 * n
        · rw [if_pos h2, if_pos (by omega)]
        · rw [if_neg h2, if_neg (by omega)]
theorem bitsU_zero (u : Nat → Bool) (c : Nat) : bitsU u 0 c = 0 := by
  unfold bitsU
  simp [bitAt]
theorem encN_zero (s : Nat) (r : Nat → Nat) (u : Nat → Bool) (j : Nat) : encN s r u 0 j = stg2 s r 4 j := by
  unfold encN
  by_cases h : j < 26
  · rw [if_pos h]
  · rw [if_neg h, bitsU_zero]
    have : stg2 s r 4 j = 0 := by unfold stg2; rw [if_neg (by omega), if_neg (by omega)]
    rw [this]; split <;> rfl
theorem encN_no (s : Nat) (r : Nat → Nat) (u : Nat → Bool) {n : Nat} (hu : u n = false) (j : Nat) : encN s r u (n + 1) j = encN s r u n j := by
  unfold encN
  by_cases h : j < 26
  · rw [if_pos h, if_pos h]
  · rw [if_neg h, if_neg h]
    have : bitsU u (n + 1) (j - 26) = bitsU u n (j - 26) := by
      by_cases e : n / 8 = j - 26
      · have := bitsU_set u (j - 26) (t := n % 8) (Nat.mod_lt _ (by decide))
        rw [show 8 * (j - 26) + n % 8 = n by omega, hu] at this
        simpa using this
      · exact bitsU_other e
    rw [this]
theorem encN_yes (s : Nat) (r : Nat → Nat) (u : Nat → Bool) {n : Nat} (hn : n < 128) (hu : u n = true) (j : Nat) : encN s r u (n + 1) j = if j = 26 + n / 8 then encN s r u n (26 + n / 8) + 2 ^ (n % 8) else encN s r u n j := by
  unfold encN
  by_cases e : j = 26 + n / 8
  · subst e
    rw [if_neg (by omega), if_pos (by omega), if_pos rfl, if_neg (by omega), if_pos (by omega), show 26 + n / 8 - 26 = n / 8 by omega]
    have := bitsU_set u (n / 8) (t := n % 8) (Nat.mod_lt _ (by decide))
    rw [show 8 * (n / 8) + n % 8 = n by omega, hu] at this
    simpa using this
  · rw [if_neg e]
    by_cases h : j < 26
    · rw [if_pos h, if_pos h]
    · rw [if_neg h, if_neg h, bitsU_other (by omega)]
theorem encN_low (s : Nat) (r : Nat → Nat) (u : Nat → Bool) {n : Nat} (hn : n < 128) : encN s r u n (26 + n / 8) < 2 ^ (n % 8) := by
  unfold encN
  rw [if_neg (by omega), if_pos (by omega), show 26 + n / 8 - 26 = n / 8 by omega]
  have := bitsU_low u (n / 8) (t := n % 8) (Nat.mod_lt _ (by decide))
  rw [show 8 * (n / 8) + n % 8 = n by omega] at this
  exact this
/-! ### what bytes tell -/
def dser (b : ByteArray) : Nat → Nat
  | 0 => 0
  | n + 1 => dser b n * 256 + byteN b (10 + n)
theorem dser_lt (b : ByteArray) : ∀ n, dser b n < 256 ^ n
  | 0 => by show 0 < 1; decide
  | n + 1 => by
    have h1 := dser_lt b n
    have h2 := byteN_lt b (10 + n)
    unfold dser
    rw [Nat.pow_succ]; omega
def droot (b : ByteArray) (k : Nat) : Nat := byteN b (18 + 2 * k) * 256 + byteN b (19 + 2 * k)
theorem droot_lt (b : ByteArray) (k : Nat) : droot b k < 65536 := by
  have h1 := byteN_lt b (18 + 2 * k)
  have h2 := byteN_lt b (19 + 2 * k)
  unfold droot; omega
def dbit (b : ByteArray) (i : Nat) : Bool := byteN b (26 + i / 8) / 2 ^ (i % 8) % 2 == 1
theorem dbit_enc {s : Nat} {r : Nat → Nat} {u : Nat → Bool} {n i : Nat} (hi : i < 128) : dbit (tabB (encN s r u n)) i = (decide (i < n) && u i) := by
  unfold dbit
  rw [byteN_tab (encN_lt _ _ _ _ _) (by omega)]
  have : encN s r u n (26 + i / 8) = bitsU u n (i / 8) := by
    unfold encN
    rw [if_neg (by omega), if_pos (by omega), show 26 + i / 8 - 26 = i / 8 by omega]
  rw [this, bitsU_dec u n (i / 8) (Nat.mod_lt _ (by decide))]
  unfold bitAt
  rw [show 8 * (i / 8) + i % 8 = i by omega]
  by_cases h : i < n
  · rw [if_pos h, decide_eq_true h]; cases u i <;> rfl
  · rw [if_neg h, decide_eq_false h]; rfl
/-- A right head, as the code looks for it. -/
structure OkHead (b : ByteArray) (n : Nat) : Prop where
  below : ∀ i, i < 128 → dbit b i = true → i < n
  roots : ∀ k, k < 4 → droot b k < 128 ∧ (droot b k ≠ 0 → dbit b (droot b k) = true)
  zero : dbit b 0 = true
  ser : dser b 8 ≤ 9223372036854775807
  bytes : tabB (encN (dser b 8) (droot b) (dbit b) 128) = b
/-- As the document has it. -/
structure RightHead (b : ByteArray) (n : Nat) : Prop where
  ser : dser b 8 ≤ 9223372036854775807
  zero : dbit b 0 = true
  bytes : tabB (encN (dser b 8) (droot b) (dbit b) n) = b
  roots : ∀ k, k < 4 → droot b k ≠ 0 → droot b k < n ∧ dbit b (droot b k) = true
theorem enc_past {s : Nat} {r : Nat → Nat} {u : Nat → Bool} {n m : Nat} (hnm : n ≤ m) (hu : ∀ i, n ≤ i → i < m → u i = false) : tabB (encN s r u m) = tabB (encN s r u n) := by
  refine tabB_congr fun j _ => ?_
  unfold encN
  by_cases h : j < 26
  · rw [if_pos h, if_pos h]
  · rw [if_neg h, if_neg h]
    have : bitsU u m (j - 26) = bitsU u n (j - 26) := bitsU_congr fun i => by
      unfold bitAt
      by_cases h1 : 8 * (j - 26) + i < n
      · rw [if_pos h1, if_pos (by omega)]
      · rw [if_neg h1]
        by_cases h2 : 8 * (j - 26) + i < m
        · rw [if_pos h2, hu _ (by omega) h2]; rfl
        · rw [if_neg h2]
    rw [this]
theorem okHead_iff {b : ByteArray} {n : Nat} (h0 : 1 ≤ n) (hn : n ≤ 128) : OkHead b n ↔ RightHead b n := by
  constructor
  · intro H
    refine ⟨H.ser, H.zero, ?_, fun k hk h => ⟨H.below _ (H.roots k hk).1 ((H.roots k hk).2 h), (H.roots k hk).2 h⟩⟩
    rw [← enc_past hn fun i h1 h2 => by
      cases e : dbit b i with
      | false => rfl
      | true => have := H.below i h2 e; omega]
    exact H.bytes
  · intro H
    have past : ∀ i, n ≤ i → i < 128 → dbit b i = false := fun i h1 h2 => by
      have := dbit_enc (s := dser b 8) (r := droot b) (u := dbit b) (n := n) h2
      rw [H.bytes] at this
      rw [this, decide_eq_false (by omega)]; rfl
    refine ⟨fun i hi h => ?_, fun k hk => ?_, H.zero, H.ser, ?_⟩
    · by_cases hin : i < n
      · exact hin
      · rw [past i (by omega) hi] at h; cases h
    · by_cases e : droot b k = 0
      · exact ⟨by omega, fun h => absurd e h⟩
      · have := H.roots k hk e
        exact ⟨by omega, fun _ => this.2⟩
    · rw [enc_past hn past]; exact H.bytes
end Go.Proofs.YtagglohkipioiaaGreat
namespace Go.Proofs.YtagglohkipioiaaGreat
open Go.Gx
set_option maxRecDepth 100000
set_option linter.unusedVariables false

def rootV (r : Nat → Nat) : List Value := (List.range 4).map fun k => .int .i64 (r k : Nat)
def usedV (u : Nat → Bool) : List Value := (List.range 128).map fun i => .bool (u i)
def headC (s : Nat) (r : Nat → Nat) (u : Nat → Bool) : List Value := .int .u64 (s : Nat) :: (rootV r ++ usedV u)
theorem rootV_len (r : Nat → Nat) : (rootV r).length = 4 := by unfold rootV; simp
theorem usedV_len (u : Nat → Bool) : (usedV u).length = 128 := by unfold usedV; simp
theorem headC_len (s : Nat) (r : Nat → Nat) (u : Nat → Bool) : (headC s r u).length = 133 := by
  unfold headC
  rw [List.length_cons, List.length_append, rootV_len, usedV_len]
theorem rootV_get {r : Nat → Nat} {k : Nat} (hk : k < 4) : (rootV r)[k]? = some (.int .i64 (r k : Nat)) := by
  unfold rootV
  rw [List.getElem?_map, List.getElem?_range hk]; rfl
theorem usedV_get {u : Nat → Bool} {i : Nat} (hi : i < 128) : (usedV u)[i]? = some (.bool (u i)) := by
  unfold usedV
  rw [List.getElem?_map, List.getElem?_range hi]; rfl
theorem headC_0 (s : Nat) (r : Nat → Nat) (u : Nat → Bool) : (headC s r u)[0]? = some (.int .u64 (s : Nat)) := rfl
theorem headC_root (s : Nat) (r : Nat → Nat) (u : Nat → Bool) {k : Nat} (hk : k < 4) : (headC s r u)[1 + k]? = some (.int .i64 (r k : Nat)) := by
  unfold headC
  rw [Nat.add_comm, List.getElem?_cons_succ, List.getElem?_append_left (by rw [rootV_len]; exact hk), rootV_get hk]
theorem headC_used (s : Nat) (r : Nat → Nat) (u : Nat → Bool) {i : Nat} (hi : i < 128) : (headC s r u)[5 + i]? = some (.bool (u i)) := by
  unfold headC
  rw [show 5 + i = (4 + i) + 1 by omega, List.getElem?_cons_succ, List.getElem?_append_right (by rw [rootV_len]; omega), rootV_len, show 4 + i - 4 = i by omega, usedV_get hi]
theorem headC_plain (s : Nat) (r : Nat → Nat) (u : Nat → Bool) : plainP (headC s r u) := by
  intro v hv
  unfold headC rootV usedV at hv
  rcases List.mem_cons.1 hv with rfl | hv
  · exact ⟨(fun c h => by cases h), fun c h => by cases h⟩
  · rcases List.mem_append.1 hv with hv | hv
    · obtain ⟨k, _, rfl⟩ := List.mem_map.1 hv
      exact ⟨(fun c h => by cases h), fun c h => by cases h⟩
    · obtain ⟨k, _, rfl⟩ := List.mem_map.1 hv
      exact ⟨(fun c h => by cases h), fun c h => by cases h⟩
theorem _root_.Go.Gx.CellsAt.get {h : Hp} {b o : Nat} {xs : List Value} (H : CellsAt h b o xs) {i : Nat} {v : Value} (e : xs[i]? = some v) : h.cell b (o + i) = some v := by
  obtain ⟨hi, e⟩ := List.getElem?_eq_some_iff.1 e
  rw [H i hi, e]
theorem cpy10 : cpyN (bytesL [115, 116, 114, 111, 110, 103, 114, 111, 111, 109]) 1024 = 10 := by kernel_rfl
theorem cpyV10 : setL (repV 1024 [.int .u8 0]) 0 (cpyV (bytesL [115, 116, 114, 111, 110, 103, 114, 111, 111, 109]) 1024) = tabV fun j => if j < 10 then magicN j else 0 := by kernel_rfl
theorem cpyV10_plain : plainP (cpyV (bytesL [115, 116, 114, 111, 110, 103, 114, 111, 111, 109]) 1024) := plainP_of (by kernel_rfl)
theorem cpyV10_len : (cpyV (bytesL [115, 116, 114, 111, 110, 103, 114, 111, 111, 109]) 1024).length = 10 := by kernel_rfl
theorem rep1024_len : (repV 1024 [Value.int .u8 0]).length = 1024 := by kernel_rfl
theorem lget4 {r : Nat → Nat} {n : Nat} (hn : n < 4) : lget [.int .i64 (r 0 : Nat), .int .i64 (r 1 : Nat), .int .i64 (r 2 : Nat), .int .i64 (r 3 : Nat)] ((n : Int).toNat * 1) = some (.int .i64 (r n : Nat)) := by
  rw [Int.toNat_natCast, Nat.mul_one]
  rcases (by omega : n = 0 ∨ n = 1 ∨ n = 2 ∨ n = 3) with rfl | rfl | rfl | rfl <;> rfl
theorem shl1 : ∀ k : Fin 8, IntKind.u8.wrap (ishl IntKind.u8 1 ((k.val : Nat) : Int)) = ((2 ^ k.val : Nat) : Int) := by decide
theorem pow_lt8 {k : Nat} (hk : k < 8) : 2 ^ k ≤ 128 := by
  rcases eight hk with rfl | rfl | rfl | rfl | rfl | rfl | rfl | rfl <;> decide
theorem orBitN {x k : Nat} (hk : k < 8) (hx : x < 2 ^ k) : IntKind.u8.wrap (ior IntKind.u8 (x : Int) (IntKind.u8.wrap (ishl IntKind.u8 1 ((k : Nat) : Int)))) = ((x + 2 ^ k : Nat) : Int) := by
  have h1 := pow_lt8 hk
  have h2 := orN IntKind.u8 x 1 k hx (by show _ < 256; omega)
  rw [Nat.one_mul] at h2
  rw [shl1 ⟨k, hk⟩]
  show IntKind.u8.wrap (ior IntKind.u8 (x : Int) ((2 ^ k : Nat) : Int)) = _
  rw [h2, u8c, Nat.mod_eq_of_lt (by omega)]
theorem tdiv8 (n : Nat) : ((n : Nat) : Int).tdiv 8 = ((n / 8 : Nat) : Int) := by rw [Int.tdiv_eq_ediv_of_nonneg (by omega)]; omega
theorem tmod8 (n : Nat) : ((n : Nat) : Int).tmod 8 = ((n % 8 : Nat) : Int) := by rw [Int.tmod_eq_emod_of_nonneg (by omega)]; omega

set_option maxHeartbeats 1000000 in
theorem bytes_spec {h : Hp} {b o s : Nat} {r : Nat → Nat} {u : Nat → Bool} {K : Value → Hp → Prop} (H : CellsAt h b o (headC s r u)) (hK : ∀ h', Sub h h' → K (.string (tabB (encN s r u 128))) h') :
    CallsH Tryz.prog pager_head_bytes.id #[.pointer (some ⟨b, o, none⟩)] h K := by
  apply pager_head_bytes.calls
  unfold pager_head_bytes.W
  refine ⟨by decide, by decide, by decide, by decide, fun k1 hk1 => ?_⟩
  simp only [cpy10, show IntKind.i64.wrap (10 + 8) = 18 from by decide, show IntKind.i64.wrap (18 + 8) = 26 from by decide]
  have B0 : Blk (h.upd k1 (.cells (repV 1024 [.int .u8 0]).toArray 5 (0, 0))) k1 5 (repV 1024 [.int .u8 0]) := Blk.new h k1 5 _
  have s0 : Sub h (h.upd k1 (.cells (repV 1024 [.int .u8 0]).toArray 5 (0, 0))) := Sub.upd hk1 _
  have new : ∀ {x : Hp} (sx : Sub h x) (o' : Nat) (us : List Value), Sub h (x.put k1 o' us) := fun {x} sx o' us => (Keep.put (fun c => c = k1) x o' us rfl).sub sx fun c e => by rw [e]; exact hk1
  refine ⟨fun x => Sub h x ∧ Blk x k1 5 (tabV (stg1 s 0)), ?_, .inr ⟨k1, 0, rfl, cpyV10_plain, B0.store (by rw [cpyV10_len, rep1024_len]; decide), new s0 _ _, ?_⟩⟩
  rotate_left
  · have := B0.put 0 (cpyV (bytesL [115, 116, 114, 111, 110, 103, 114, 111, 111, 109]) 1024)
    rw [cpyV10, ← tabV_congr fun j _ => stg1_zero s j] at this
    exact this
  rintro x3 ⟨s3, B3⟩
  refine ⟨fun i x m => ∃ n : Nat, i = (n : Int) ∧ n ≤ 8 ∧ m = 8 - n ∧ Sub h x ∧ Blk x k1 5 (tabV (stg1 s n)), ⟨_, 0, rfl, by decide, rfl, s3, B3⟩, ?_⟩
  rintro i x m ⟨n, rfl, hn, rfl, sx, Bx⟩
  refine split_dec (fun g => ?_) fun g => ?_
  · have g : n < 8 := by have : (n : Int) < 8 := g; omega
    have e1 : IntKind.i64.wrap (8 * (n : Int)) = ((8 * n : Nat) : Int) := by rw [wid (by omega) (by omega)]; omega
    have e2 : IntKind.i64.wrap (56 - ((8 * n : Nat) : Int)) = ((56 - 8 * n : Nat) : Int) := by rw [wid (by omega) (by omega)]; omega
    have e3 : IntKind.i64.wrap (10 + (n : Int)) = ((10 + n : Nat) : Int) := by rw [wid (by omega) (by omega)]; omega
    have idx : 0 + ((10 + n : Nat) : Int).toNat * 1 = 10 + n := by rw [Int.toNat_natCast]; omega
    rw [e1, e2, e3]
    refine ⟨_, cell_sub sx (H.get (headC_0 s r u)), by omega, by omega, by omega, k1, 0, rfl, ?_, 8 - (n + 1), by omega, n + 1, by rw [wid (by omega) (by omega)]; omega, by omega, rfl, new sx _ _, ?_⟩
    · rw [idx]; exact Bx.store (by rw [tabV_len]; omega)
    · rw [idx, shrN _ _ _ (by show 56 - 8 * n ≤ 64; omega), u8c]
      have := Bx.put (10 + n) [.int .u8 ((s / 2 ^ (56 - 8 * n) % 256 : Nat) : Int)]
      rw [tabV_set, ← tabV_congr fun j _ => stg1_step s n j g] at this
      exact this
  have : n = 8 := by
    have : ¬ (n : Int) < 8 := g
    omega
  subst this
  clear s3 B3 g
  have hh := H.sub sx
  refine ⟨_, hh.get (headC_root s r u (k := 0) (by decide)), _, hh.get (headC_root s r u (k := 1) (by decide)), _, hh.get (headC_root s r u (k := 2) (by decide)), _, hh.get (headC_root s r u (k := 3) (by decide)), ?_⟩
  refine ⟨fun i x m => ∃ n : Nat, i = (n : Int) ∧ n ≤ 4 ∧ m = 4 - n ∧ Sub h x ∧ Blk x k1 5 (tabV (stg2 s r n)), ⟨_, 0, rfl, by decide, rfl, sx, ?_⟩, ?_⟩
  · rw [tabV_congr fun j _ => stg2_zero s r j]; exact Bx
  clear hh Bx sx
  rintro i x m ⟨n, rfl, hn, rfl, sx, Bx⟩
  refine split_dec (fun g => ?_) fun g => ?_
  · have g : n < 4 := by have : (n : Int) < 4 := g; omega
    have e1 : IntKind.i64.wrap (2 * (n : Int)) = ((2 * n : Nat) : Int) := by rw [wid (by omega) (by omega)]; omega
    have e2 : IntKind.i64.wrap (18 + ((2 * n : Nat) : Int)) = ((18 + 2 * n : Nat) : Int) := by rw [wid (by omega) (by omega)]; omega
    have e3 : IntKind.i64.wrap (((18 + 2 * n : Nat) : Int) + 1) = ((19 + 2 * n : Nat) : Int) := by rw [wid (by omega) (by omega)]; omega
    have idx : 0 + ((18 + 2 * n : Nat) : Int).toNat * 1 = 18 + 2 * n := by rw [Int.toNat_natCast]; omega
    have idx2 : 0 + ((19 + 2 * n : Nat) : Int).toNat * 1 = 19 + 2 * n := by rw [Int.toNat_natCast]; omega
    rw [e1, e2, e3]
    have B2 := Bx.put (18 + 2 * n) [.int .u8 ((r n / 256 % 256 : Nat) : Int)]
    rw [tabV_set] at B2
    refine ⟨by omega, by omega, _, lget4 g, by decide, by omega, by omega, k1, 0, rfl, ?_, by omega, by omega, k1, 0, rfl, ?_, 4 - (n + 1), by omega, n + 1, by rw [wid (by omega) (by omega)]; omega, by omega, rfl, new (new sx _ _) _ _, ?_⟩
    · rw [idx]; exact Bx.store (by rw [tabV_len]; omega)
    · rw [idx, idx2, show (8 : Int) = ((8 : Nat) : Int) from rfl, shrN _ _ _ (by decide), u8c]
      exact B2.store (by rw [tabV_len]; omega)
    · rw [idx, idx2, show (8 : Int) = ((8 : Nat) : Int) from rfl, shrN _ _ _ (by decide), u8c, u8c]
      have := B2.put (19 + 2 * n) [.int .u8 ((r n % 256 : Nat) : Int)]
      rw [tabV_set, ← tabV_congr fun j _ => stg2_step s r n j] at this
      exact this
  have : n = 4 := by
    have : ¬ (n : Int) < 4 := g
    omega
  subst this
  clear g
  refine ⟨usedV u, usedV_len u, ?_, ?_⟩
  · intro i hi
    rw [usedV_len] at hi
    rw [Nat.add_assoc, (H.sub sx).get (headC_used s r u hi)]
    rw [← usedV_get hi, List.getElem?_eq_getElem]
  refine ⟨fun i x m => ∃ n : Nat, i = (n : Int) ∧ n ≤ 128 ∧ m = 128 - n ∧ Sub h x ∧ Blk x k1 5 (tabV (encN s r u n)), ⟨_, 0, rfl, by decide, rfl, sx, ?_⟩, ?_⟩
  · rw [tabV_congr fun j _ => encN_zero s r u j]; exact Bx
  clear Bx sx
  rintro i x m ⟨n, rfl, hn, rfl, sx, Bx⟩
  refine split_dec (fun g => ?_) fun g => ?_
  · have g : n < 128 := by have : (n : Int) < 128 := g; omega
    have gl : lget (usedV u) ((n : Int).toNat * 1) = some (.bool (u n)) := by
      rw [Int.toNat_natCast, Nat.mul_one]; exact usedV_get g
    have e4 : IntKind.i64.wrap ((n : Int) + 1) = ((n + 1 : Nat) : Int) := by rw [wid (by omega) (by omega)]; omega
    refine ⟨by omega, by omega, _, gl, split_cond (fun eu => ?_) fun eu => ⟨128 - (n + 1), by omega, n + 1, e4, by omega, rfl, sx, ?_⟩⟩
    · have e1 : IntKind.i64.wrap (26 + IntKind.i64.wrap ((n : Int).tdiv 8)) = ((26 + n / 8 : Nat) : Int) := by
        rw [tdiv8, widN _ (by omega), wid (by omega) (by omega)]; omega
      have idx : 0 + ((26 + n / 8 : Nat) : Int).toNat * 1 = 26 + n / 8 := by rw [Int.toNat_natCast]; omega
      rw [e1, tmod8]
      refine ⟨by decide, by omega, by omega, k1, 0, rfl, ((encN s r u n (26 + n / 8) : Nat) : Int), ?_, by decide, by omega, by omega, by omega, k1, 0, rfl, ?_, 128 - (n + 1), by omega, n + 1, e4, by omega, rfl, new sx _ _, ?_⟩
      · rw [idx]; exact Bx.cell' _ (tabV_get (by omega))
      · rw [idx]; exact Bx.store (by rw [tabV_len]; omega)
      · rw [idx, orBitN (Nat.mod_lt _ (by decide)) (encN_low s r u g)]
        have := Bx.put (26 + n / 8) [.int .u8 ((encN s r u n (26 + n / 8) + 2 ^ (n % 8) : Nat) : Int)]
        rw [tabV_set, ← tabV_congr fun j _ => encN_yes s r u g eu j] at this
        exact this
    · rw [tabV_congr fun j _ => encN_no s r u eu j]; exact Bx
  have : n = 128 := by
    have : ¬ (n : Int) < 128 := g
    omega
  subst this
  exact ⟨_, by rw [tabB_bytes fun j _ => encN_lt s r u 128 j]; exact Bx.slice (tabV_len _), hK x sx⟩
end Go.Proofs.YtagglohkipioiaaGreat
