/- A pager's head as plain data: its bytes, and what bytes tell. Conditions: none beyond each law's own. The bytes of a pager's head. Conditions: the head lies in cells; roots below 65536. Reading a pager's head. Conditions: 1024 bytes, at most 128 pages. States in cells; a page of noughts. Conditions: none beyond each law's own. What a commit leaves where nothing fails: its pages. Conditions: the power is on, no failure is set, nothing waits. Maps from pages to texts, as lists. Conditions: none beyond each law's own. A pager in memory, and what it tells. Conditions: it stands as it is named; the power is on where it reads. Pages are allocated and given back; a new disk. Conditions: the pager stands as it is named. A map's copy, and its keys in order, over heaps. Conditions: the map's pages are few. When two heads are one; which pages are others. Conditions: numbers that fit. Free pages, writing, pointing, savepoints, going back, aborting. Conditions: the pager stands as it is named. Which pages a commit would change. Conditions: the pager stands as it is named. A commit of a pager. Conditions: the pager stands as it is named, nothing waits on the disk. Plain laws of entries in a list in the order of their keys. Conditions: those that each lemma names. A page as a node: words, the search, what a node tells. Conditions: those that each contract names. The bytes of a page as a node. Conditions: 5 to 4096 bytes. A page read as a node. Conditions: 1024 bytes. Trees of nodes: plain laws. Conditions: those that each lemma names. What Check tells. Conditions: the pager stands as it is named. Trees: opened, checked, their height, what they have of a key. Conditions: the pager stands as it is named. What a tree has of a key; how many entries it has. Conditions: the pager stands as it is named. -/
import Derived.Test.YthbogjbcecmopaaDoorPd03
namespace Go.Proofs.YthbogjbcecmopaaDoor
open Go.Gx
set_option maxRecDepth 100000
set_option linter.unusedVariables false

theorem shrN (k : IntKind) (n b : Nat) (hb : b ≤ k.bits) : ishr k (n : Int) ((b : Nat) : Int) = ((n / 2 ^ b : Nat) : Int) := by
  show ((n : Int)).fdiv (2 ^ min ((b : Nat) : Int).toNat k.bits) = _
  rw [Int.toNat_natCast, Nat.min_eq_left hb, Int.fdiv_eq_ediv_of_nonneg _ (by exact Int.le_of_lt (Int.pow_pos (by decide))), Int.natCast_ediv, Int.natCast_pow]; rfl
theorem shlN (k : IntKind) (n b : Nat) (hb : b ≤ k.bits) : ishl k (n : Int) ((b : Nat) : Int) = ((n * 2 ^ b : Nat) : Int) := by
  show (n : Int) * 2 ^ min ((b : Nat) : Int).toNat k.bits = _
  rw [Int.toNat_natCast, Nat.min_eq_left hb, Int.natCast_mul, Int.natCast_pow]; rfl
theorem orN (k : IntKind) (x y t : Nat) (hx : x < 2 ^ t) (h : x + y * 2 ^ t < 2 ^ k.bits) : ior k (x : Int) ((y * 2 ^ t : Nat) : Int) = ((x + y * 2 ^ t : Nat) : Int) := by
  show (((BitVec.ofInt k.bits (x : Int) ||| BitVec.ofInt k.bits ((y * 2 ^ t : Nat) : Int)).toNat : Nat) : Int) = _
  rw [BitVec.ofInt_natCast, BitVec.ofInt_natCast, BitVec.toNat_or, BitVec.toNat_ofNat, BitVec.toNat_ofNat, Nat.mod_eq_of_lt (by omega), Nat.mod_eq_of_lt (by omega)]
  have := Nat.two_pow_add_eq_or_of_lt hx y
  rw [Nat.or_comm, Nat.mul_comm y, ← this, Nat.add_comm]
theorem orN' (k : IntKind) (x y t : Nat) (hx : x < 2 ^ t) (h : x + y * 2 ^ t < 2 ^ k.bits) : ior k ((y * 2 ^ t : Nat) : Int) (x : Int) = ((x + y * 2 ^ t : Nat) : Int) := by
  rw [← orN k x y t hx h]
  show (((BitVec.ofInt k.bits _ ||| BitVec.ofInt k.bits _).toNat : Nat) : Int) = (((BitVec.ofInt k.bits _ ||| BitVec.ofInt k.bits _).toNat : Nat) : Int)
  rw [BitVec.or_comm]
theorem and1 (x : Nat) (hx : x < 256) : iand IntKind.u8 (x : Int) 1 = ((x % 2 : Nat) : Int) := by
  show (((BitVec.ofInt 8 (x : Int) &&& BitVec.ofInt 8 1).toNat : Nat) : Int) = _
  rw [BitVec.ofInt_natCast, BitVec.toNat_and, BitVec.toNat_ofNat, Nat.mod_eq_of_lt (by omega)]
  have : (BitVec.ofInt 8 1).toNat = 1 := by decide
  rw [this, Nat.and_one_is_mod]
theorem u8c (n : Nat) : IntKind.u8.wrap (n : Int) = ((n % 256 : Nat) : Int) := by rw [wrap8]; omega
theorem wrap64s (x : Nat) (h : x < 18446744073709551616) : IntKind.u64.wrap (x : Int) = (x : Int) := by rw [wrap64]; omega
theorem widN (x : Nat) (h : x ≤ 9223372036854775807) : IntKind.i64.wrap (x : Int) = (x : Int) := wid (by omega) (by omega)

def tabV (f : Nat → Nat) : List Value := (List.range 1024).map fun j => .int .u8 (f j : Nat)
theorem tabV_len (f : Nat → Nat) : (tabV f).length = 1024 := by unfold tabV; simp
theorem tabV_get {f : Nat → Nat} {j : Nat} (hj : j < 1024) : (tabV f)[j]? = some (.int .u8 (f j : Nat)) := by
  unfold tabV
  rw [List.getElem?_map, List.getElem?_range hj]; rfl
theorem tabV_congr {f g : Nat → Nat} (h : ∀ j, j < 1024 → f j = g j) : tabV f = tabV g := by
  unfold tabV
  exact List.map_congr_left fun j hj => by rw [h j (List.mem_range.1 hj)]
theorem tabV_set {f : Nat → Nat} {j v : Nat} : setL (tabV f) j [.int .u8 ((v : Nat) : Int)] = tabV fun i => if i = j then v else f i := by
  refine List.ext_getElem? fun i => ?_
  rw [setL_get]
  by_cases hi : i < 1024
  · rw [tabV_get hi, tabV_get hi]
    by_cases e : i = j
    · rw [if_pos ⟨e, by rw [tabV_len]; omega⟩, if_pos e]
    · rw [if_neg fun h => e h.1, if_neg e]
  · rw [if_neg (fun h => by have := h.2; rw [tabV_len] at this; omega), List.getElem?_eq_none (by rw [tabV_len]; omega), List.getElem?_eq_none (by rw [tabV_len]; omega)]
def tabL (f : Nat → Nat) : List UInt8 := (List.range 1024).map fun j => UInt8.ofNat (f j)
def tabB (f : Nat → Nat) : ByteArray := ⟨(tabL f).toArray⟩
theorem tabB_bytes {f : Nat → Nat} (h : ∀ j, j < 1024 → f j < 256) : bytesV (tabB f) = tabV f := by
  unfold bytesV tabB tabL tabV
  rw [List.map_map]
  refine List.map_congr_left fun j hj => ?_
  have := h j (List.mem_range.1 hj)
  have : (UInt8.ofNat (f j)).toNat = f j := by simp; omega
  show Value.int .u8 (((UInt8.ofNat (f j)).toNat : Nat) : Int) = _
  rw [this]
def byteN (b : ByteArray) (j : Nat) : Nat := ((b.data.toList[j]?).getD 0).toNat
theorem byteN_lt (b : ByteArray) (j : Nat) : byteN b j < 256 := UInt8.toNat_lt _
theorem byteAt_N (b : ByteArray) (j : Nat) : byteAt b j = ((byteN b j : Nat) : Int) := rfl
def bitAt (u : Nat → Bool) (n c t : Nat) : Nat := if 8 * c + t < n then (u (8 * c + t)).toNat else 0
def bitsU (u : Nat → Bool) (n c : Nat) : Nat := bitAt u n c 0 + 2 * bitAt u n c 1 + 4 * bitAt u n c 2 + 8 * bitAt u n c 3 + 16 * bitAt u n c 4 + 32 * bitAt u n c 5 + 64 * bitAt u n c 6 + 128 * bitAt u n c 7
theorem toNat_le (b : Bool) : b.toNat ≤ 1 := by cases b <;> decide
theorem bitAt_le (u : Nat → Bool) (n c t : Nat) : bitAt u n c t ≤ 1 := by
  unfold bitAt
  split
  · exact toNat_le _
  · decide
theorem bitAt_hi {u : Nat → Bool} {n c t : Nat} (h : n ≤ 8 * c + t) : bitAt u n c t = 0 := if_neg (by omega)
theorem bitAt_lo {u : Nat → Bool} {n c t : Nat} (h : 8 * c + t < n) : bitAt u n c t = (u (8 * c + t)).toNat := if_pos h
theorem bitAt_ne {u : Nat → Bool} {n c t : Nat} (h : 8 * c + t ≠ n) : bitAt u (n + 1) c t = bitAt u n c t := by
  by_cases e : 8 * c + t < n
  · rw [bitAt_lo e, bitAt_lo (by omega)]
  · rw [bitAt_hi (by omega), bitAt_hi (by omega)]
theorem eight {t : Nat} (ht : t < 8) : t = 0 ∨ t = 1 ∨ t = 2 ∨ t = 3 ∨ t = 4 ∨ t = 5 ∨ t = 6 ∨ t = 7 := by omega
theorem bitsU_lt (u : Nat → Bool) (n c : Nat) : bitsU u n c < 256 := by
  have h := bitAt_le u n c
  have h0 := h 0; have h1 := h 1; have h2 := h 2; have h3 := h 3; have h4 := h 4; have h5 := h 5; have h6 := h 6; have h7 := h 7
  unfold bitsU; omega
theorem bitsU_low (u : Nat → Bool) (c : Nat) {t : Nat} (ht : t < 8) : bitsU u (8 * c + t) c < 2 ^ t := by
  have h := bitAt_le u (8 * c + t) c
  have z : ∀ s, t ≤ s → bitAt u (8 * c + t) c s = 0 := fun s hs => bitAt_hi (by omega)
  have h0 := h 0; have h1 := h 1; have h2 := h 2; have h3 := h 3; have h4 := h 4; have h5 := h 5; have h6 := h 6; have h7 := h 7
  have z0 := z 0; have z1 := z 1; have z2 := z 2; have z3 := z 3; have z4 := z 4; have z5 := z 5; have z6 := z 6; have z7 := z 7
  unfold bitsU
  rcases eight ht with rfl | rfl | rfl | rfl | rfl | rfl | rfl | rfl <;> omega
theorem bitsU_set (u : Nat → Bool) (c : Nat) {t : Nat} (ht : t < 8) : bitsU u (8 * c + t + 1) c = bitsU u (8 * c + t) c + (u (8 * c + t)).toNat * 2 ^ t := by
  have z : ∀ s, s ≠ t → bitAt u (8 * c + t + 1) c s = bitAt u (8 * c + t) c s := fun s hs => bitAt_ne (by omega)
  have y : bitAt u (8 * c + t) c t = 0 := bitAt_hi (Nat.le_refl _)
  have x : bitAt u (8 * c + t + 1) c t = (u (8 * c + t)).toNat := bitAt_lo (Nat.lt_succ_self _)
  have z0 := z 0; have z1 := z 1; have z2 := z 2; have z3 := z 3; have z4 := z 4; have z5 := z 5; have z6 := z 6; have z7 := z 7
  unfold bitsU
  rcases eight ht with rfl | rfl | rfl | rfl | rfl | rfl | rfl | rfl <;> omega
theorem bitsU_other {u : Nat → Bool} {n c : Nat} (h : n / 8 ≠ c) : bitsU u (n + 1) c = bitsU u n c := by
  unfold bitsU
  rw [bitAt_ne (by omega), bitAt_ne (by omega), bitAt_ne (by omega), bitAt_ne (by omega), bitAt_ne (by omega), bitAt_ne (by omega), bitAt_ne (by omega), bitAt_ne (by omega)]
def magicN (j : Nat) : Nat := [115, 116, 114, 111, 110, 103, 114, 111, 111, 109].getD j 0
theorem magicN_lt (j : Nat) : magicN j < 256 := by
  by_cases h : j < 10
  · have : ∀ j : Fin 10, magicN j.val < 256 := by decide
    exact this ⟨j, h⟩
  · unfold magicN
    rw [List.getD_eq_getElem?_getD, List.getElem?_eq_none (by show 10 ≤ j; omega)]; decide
def stg1 (s n j : Nat) : Nat := if j < 10 then magicN j else if j < 10 + n then s / 256 ^ (17 - j) % 256 else 0
def rootB (r : Nat → Nat) (i : Nat) : Nat := (if i % 2 = 0 then r (i / 2) / 256 else r (i / 2)) % 256
def stg2 (s : Nat) (r : Nat → Nat) (n j : Nat) : Nat := if j < 18 then stg1 s 8 j else if j < 18 + 2 * n then rootB r (j - 18) else 0
def encN (s : Nat) (r : Nat → Nat) (u : Nat → Bool) (n j : Nat) : Nat := if j < 26 then stg2 s r 4 j else if j < 42 then bitsU u n (j - 26) else 0
theorem stg1_lt (s n j : Nat) : stg1 s n j < 256 := by
  unfold stg1
  split
  · exact magicN_lt j
  · split
    · exact Nat.mod_lt _ (by decide)
    · decide
theorem stg2_lt (s : Nat) (r : Nat → Nat) (n j : Nat) : stg2 s r n j < 256 := by
  unfold stg2
  split
  · exact stg1_lt _ _ _
  · split
    · exact Nat.mod_lt _ (by decide)
    · decide
theorem encN_lt (s : Nat) (r : Nat → Nat) (u : Nat → Bool) (n j : Nat) : encN s r u n j < 256 := by
  unfold encN
  split
  · exact stg2_lt _ _ _ _
  · split
    · exact bitsU_lt _ _ _
    · decide
theorem stg1_zero (s j : Nat) : stg1 s 0 j = if j < 10 then magicN j else 0 := by
  unfold stg1
  by_cases h : j < 10
  · rw [if_pos h, if_pos h]
  · rw [if_neg h, if_neg h, if_neg (by omega)]
theorem stg1_step (s n j : Nat) (hn : n < 8) : stg1 s (n + 1) j = if j = 10 + n then s / 2 ^ (56 - 8 * n) % 256 else stg1 s n j := by
  unfold stg1
  by_cases e : j = 10 + n
  · subst e
    rw [if_neg (by omega), if_pos (by omega), if_pos rfl, show 17 - (10 + n) = 7 - n by omega, show 56 - 8 * n = 8 * (7 - n) by omega, Nat.pow_mul]
  · rw [if_neg e]
    by_cases h1 : j < 10
    · rw [if_pos h1, if_pos h1]
    · rw [if_neg h1, if_neg h1]
      by_cases h2 : j < 10 + n
      · rw [if_pos h2, if_pos (by omega)]
      · rw [if_neg h2, if_neg (by omega)]
theorem stg2_zero (s : Nat) (r : Nat → Nat) (j : Nat) : stg2 s r 0 j = stg1 s 8 j := by
  unfold stg2
  by_cases h : j < 18
  · rw [if_pos h]
  · rw [if_neg h, if_neg (by omega)]
    unfold stg1
    rw [if_neg (by omega), if_neg (by omega)]
theorem stg2_step (s : Nat) (r : Nat → Nat) (n j : Nat) : stg2 s r (n + 1) j = if j = 19 + 2 * n then r n % 256 else if j = 18 + 2 * n then r n / 256 % 256 else stg2 s r n j := by
  unfold stg2 rootB
  by_cases e : j = 19 + 2 * n
  · subst e
    rw [if_neg (by omega), if_pos (by omega), if_pos rfl, if_neg (by omega), show (19 + 2 * n - 18) / 2 = n by omega]
  · rw [if_neg e]
    by_cases e2 : j = 18 + 2 * n
    · subst e2
      rw [if_neg (by omega), if_pos (by omega), if_pos rfl, if_pos (by omega), show (18 + 2 * n - 18) / 2 = n by omega]
    · rw [if_neg e2]
      by_cases h1 : j < 18
      · rw [if_pos h1, if_pos h1]
      · rw [if_neg h1, if_neg h1]
        by_cases h2 : j < 18 + 2 * n
        · rw [if_pos h2, if_pos (by omega)]
        · rw [if_neg h2, if_neg (by omega)]
theorem bitsU_zero (u : Nat → Bool) (c : Nat) : bitsU u 0 c = 0 := by
  unfold bitsU
  simp [bitAt]
theorem encN_zero (s : Nat) (r : Nat → Nat) (u : Nat → Bool) (j : Nat) : encN s r u 0 j = stg2 s r 4 j := by
  unfold encN
  by_cases h : j < 26
  · rw [if_pos h]
  · rw [if_neg h, bitsU_zero]
    have : stg2 s r 4 j = 0 := by unfold stg2; rw [if_neg (by omega), if_neg (by omega)]
    rw [this]; split <;> rfl
theorem encN_no (s : Nat) (r : Nat → Nat) (u : Nat → Bool) {n : Nat} (hu : u n = false) (j : Nat) : encN s r u (n + 1) j = encN s r u n j := by
  unfold encN
  by_cases h : j < 26
  · rw [if_pos h, if_pos h]
  · rw [if_neg h, if_neg h]
    have : bitsU u (n + 1) (j - 26) = bitsU u n (j - 26) := by
      by_cases e : n / 8 = j - 26
      · have := bitsU_set u (j - 26) (t := n % 8) (Nat.mod_lt _ (by decide))
        rw [show 8 * (j - 26) + n % 8 = n by omega, hu] at this
        simpa using this
      · exact bitsU_other e
    rw [this]
theorem encN_yes (s : Nat) (r : Nat → Nat) (u : Nat → Bool) {n : Nat} (hn : n < 128) (hu : u n = true) (j : Nat) : encN s r u (n + 1) j = if j = 26 + n / 8 then encN s r u n (26 + n / 8) + 2 ^ (n % 8) else encN s r u n j := by
  unfold encN
  by_cases e : j = 26 + n / 8
  · subst e
    rw [if_neg (by omega), if_pos (by omega), if_pos rfl, if_neg (by omega), if_pos (by omega), show 26 + n / 8 - 26 = n / 8 by omega]
    have := bitsU_set u (n / 8) (t := n % 8) (Nat.mod_lt _ (by decide))
    rw [show 8 * (n / 8) + n % 8 = n by omega, hu] at this
    simpa using this
  · rw [if_neg e]
    by_cases h : j < 26
    · rw [if_pos h, if_pos h]
    · rw [if_neg h, if_neg h, bitsU_other (by omega)]
theorem encN_low (s : Nat) (r : Nat → Nat) (u : Nat → Bool) {n : Nat} (hn : n < 128) : encN s r u n (26 + n / 8) < 2 ^ (n % 8) := by
  unfold encN
  rw [if_neg (by omega), if_pos (by omega), show 26 + n / 8 - 26 = n / 8 by omega]
  have := bitsU_low u (n / 8) (t := n % 8) (Nat.mod_lt _ (by decide))
  rw [show 8 * (n / 8) + n % 8 = n by omega] at this
  exact this
def dser (b : ByteArray) : Nat → Nat
  | 0 => 0
  | n + 1 => dser b n * 256 + byteN b (10 + n)
theorem dser_lt (b : ByteArray) : ∀ n, dser b n < 256 ^ n
  | 0 => by show 0 < 1; decide
  | n + 1 => by
    have h1 := dser_lt b n
    have h2 := byteN_lt b (10 + n)
    unfold dser
    rw [Nat.pow_succ]; omega
def droot (b : ByteArray) (k : Nat) : Nat := byteN b (18 + 2 * k) * 256 + byteN b (19 + 2 * k)
def dbit (b : ByteArray) (i : Nat) : Bool := byteN b (26 + i / 8) / 2 ^ (i % 8) % 2 == 1
structure OkHead (b : ByteArray) (n : Nat) : Prop where
  below : ∀ i, i < 128 → dbit b i = true → i < n
  roots : ∀ k, k < 4 → droot b k < 128 ∧ (droot b k ≠ 0 → dbit b (droot b k) = true)
  zero : dbit b 0 = true
  ser : dser b 8 ≤ 9223372036854775807
  bytes : tabB (encN (dser b 8) (droot b) (dbit b) 128) = b
end Go.Proofs.YthbogjbcecmopaaDoor
namespace Go.Proofs.YthbogjbcecmopaaDoor
open Go.Gx
set_option maxRecDepth 100000
set_option linter.unusedVariables false

def rootV (r : Nat → Nat) : List Value := (List.range 4).map fun k => .int .i64 (r k : Nat)
def usedV (u : Nat → Bool) : List Value := (List.range 128).map fun i => .bool (u i)
def headC (s : Nat) (r : Nat → Nat) (u : Nat → Bool) : List Value := .int .u64 (s : Nat) :: (rootV r ++ usedV u)
theorem rootV_len (r : Nat → Nat) : (rootV r).length = 4 := by unfold rootV; simp
theorem usedV_len (u : Nat → Bool) : (usedV u).length = 128 := by unfold usedV; simp
theorem headC_len (s : Nat) (r : Nat → Nat) (u : Nat → Bool) : (headC s r u).length = 133 := by
  unfold headC
  rw [List.length_cons, List.length_append, rootV_len, usedV_len]
theorem rootV_get {r : Nat → Nat} {k : Nat} (hk : k < 4) : (rootV r)[k]? = some (.int .i64 (r k : Nat)) := by
  unfold rootV
  rw [List.getElem?_map, List.getElem?_range hk]; rfl
theorem usedV_get {u : Nat → Bool} {i : Nat} (hi : i < 128) : (usedV u)[i]? = some (.bool (u i)) := by
  unfold usedV
  rw [List.getElem?_map, List.getElem?_range hi]; rfl
theorem headC_0 (s : Nat) (r : Nat → Nat) (u : Nat → Bool) : (headC s r u)[0]? = some (.int .u64 (s : Nat)) := rfl
theorem headC_root (s : Nat) (r : Nat → Nat) (u : Nat → Bool) {k : Nat} (hk : k < 4) : (headC s r u)[1 + k]? = some (.int .i64 (r k : Nat)) := by
  unfold headC
  rw [Nat.add_comm, List.getElem?_cons_succ, List.getElem?_append_left (by rw [rootV_len]; exact hk), rootV_get hk]
theorem headC_used (s : Nat) (r : Nat → Nat) (u : Nat → Bool) {i : Nat} (hi : i < 128) : (headC s r u)[5 + i]? = some (.bool (u i)) := by
  unfold headC
  rw [show 5 + i = (4 + i) + 1 by omega, List.getElem?_cons_succ, List.getElem?_append_right (by rw [rootV_len]; omega), rootV_len, show 4 + i - 4 = i by omega, usedV_get hi]
theorem headC_plain (s : Nat) (r : Nat → Nat) (u : Nat → Bool) : plainP (headC s r u) := by
  intro v hv
  unfold headC rootV usedV at hv
  rcases List.mem_cons.1 hv with rfl | hv
  · exact ⟨(fun c h => by cases h), fun c h => by cases h⟩
  · rcases List.mem_append.1 hv with hv | hv
    · obtain ⟨k, _, rfl⟩ := List.mem_map.1 hv
      exact ⟨(fun c h => by cases h), fun c h => by cases h⟩
    · obtain ⟨k, _, rfl⟩ := List.mem_map.1 hv
      exact ⟨(fun c h => by cases h), fun c h => by cases h⟩
theorem _root_.Go.Gx.CellsAt.get {h : Hp} {b o : Nat} {xs : List Value} (H : CellsAt h b o xs) {i : Nat} {v : Value} (e : xs[i]? = some v) : h.cell b (o + i) = some v := by
  obtain ⟨hi, e⟩ := List.getElem?_eq_some_iff.1 e
  rw [H i hi, e]
theorem cpy10 : cpyN (bytesL [115, 116, 114, 111, 110, 103, 114, 111, 111, 109]) 1024 = 10 := by kernel_rfl
theorem cpyV10 : setL (repV 1024 [.int .u8 0]) 0 (cpyV (bytesL [115, 116, 114, 111, 110, 103, 114, 111, 111, 109]) 1024) = tabV fun j => if j < 10 then magicN j else 0 := by kernel_rfl
theorem cpyV10_plain : plainP (cpyV (bytesL [115, 116, 114, 111, 110, 103, 114, 111, 111, 109]) 1024) := plainP_of (by kernel_rfl)
theorem cpyV10_len : (cpyV (bytesL [115, 116, 114, 111, 110, 103, 114, 111, 111, 109]) 1024).length = 10 := by kernel_rfl
theorem rep1024_len : (repV 1024 [Value.int .u8 0]).length = 1024 := by kernel_rfl
theorem lget4 {r : Nat → Nat} {n : Nat} (hn : n < 4) : lget [.int .i64 (r 0 : Nat), .int .i64 (r 1 : Nat), .int .i64 (r 2 : Nat), .int .i64 (r 3 : Nat)] ((n : Int).toNat * 1) = some (.int .i64 (r n : Nat)) := by
  rw [Int.toNat_natCast, Nat.mul_one]
  rcases (by omega : n = 0 ∨ n = 1 ∨ n = 2 ∨ n = 3) with rfl | rfl | rfl | rfl <;> rfl
theorem shl1 : ∀ k : Fin 8, IntKind.u8.wrap (ishl IntKind.u8 1 ((k.val : Nat) : Int)) = ((2 ^ k.val : Nat) : Int) := by decide
theorem pow_lt8 {k : Nat} (hk : k < 8) : 2 ^ k ≤ 128 := by
  rcases eight hk with rfl | rfl | rfl | rfl | rfl | rfl | rfl | rfl <;> decide
theorem orBitN {x k : Nat} (hk : k < 8) (hx : x < 2 ^ k) : IntKind.u8.wrap (ior IntKind.u8 (x : Int) (IntKind.u8.wrap (ishl IntKind.u8 1 ((k : Nat) : Int)))) = ((x + 2 ^ k : Nat) : Int) := by
  have h1 := pow_lt8 hk
  have h2 := orN IntKind.u8 x 1 k hx (by show _ < 256; omega)
  rw [Nat.one_mul] at h2
  rw [shl1 ⟨k, hk⟩]
  show IntKind.u8.wrap (ior IntKind.u8 (x : Int) ((2 ^ k : Nat) : Int)) = _
  rw [h2, u8c, Nat.mod_eq_of_lt (by omega)]
theorem tdiv8 (n : Nat) : ((n : Nat) : Int).tdiv 8 = ((n / 8 : Nat) : Int) := by rw [Int.tdiv_eq_ediv_of_nonneg (by omega)]; omega
theorem tmod8 (n : Nat) : ((n : Nat) : Int).tmod 8 = ((n % 8 : Nat) : Int) := by rw [Int.tmod_eq_emod_of_nonneg (by omega)]; omega

set_option maxHeartbeats 1000000 in
theorem bytes_spec {h : Hp} {b o s : Nat} {r : Nat → Nat} {u : Nat → Bool} {K : Value → Hp → Prop} (H : CellsAt h b o (headC s r u)) (hK : ∀ h', Sub h h' → K (.string (tabB (encN s r u 128))) h') :
    CallsH Tryd.prog pager_head_bytes.id #[.pointer (some ⟨b, o, none⟩)] h K := by
  apply pager_head_bytes.calls
  unfold pager_head_bytes.W
  refine ⟨by decide, by decide, by decide, by decide, fun k1 hk1 => ?_⟩
  simp only [cpy10, show IntKind.i64.wrap (10 + 8) = 18 from by decide, show IntKind.i64.wrap (18 + 8) = 26 from by decide]
  have B0 : Blk (h.upd k1 (.cells (repV 1024 [.int .u8 0]).toArray 5 (0, 0))) k1 5 (repV 1024 [.int .u8 0]) := Blk.new h k1 5 _
  have s0 : Sub h (h.upd k1 (.cells (repV 1024 [.int .u8 0]).toArray 5 (0, 0))) := Sub.upd hk1 _
  have new : ∀ {x : Hp} (sx : Sub h x) (o' : Nat) (us : List Value), Sub h (x.put k1 o' us) := fun {x} sx o' us => (Keep.put (fun c => c = k1) x o' us rfl).sub sx fun c e => by rw [e]; exact hk1
  refine ⟨fun x => Sub h x ∧ Blk x k1 5 (tabV (stg1 s 0)), ?_, .inr ⟨k1, 0, rfl, cpyV10_plain, B0.store (by rw [cpyV10_len, rep1024_len]; decide), new s0 _ _, ?_⟩⟩
  rotate_left
  · have := B0.put 0 (cpyV (bytesL [115, 116, 114, 111, 110, 103, 114, 111, 111, 109]) 1024)
    rw [cpyV10, ← tabV_congr fun j _ => stg1_zero s j] at this
    exact this
  rintro x3 ⟨s3, B3⟩
  refine ⟨fun i x m => ∃ n : Nat, i = (n : Int) ∧ n ≤ 8 ∧ m = 8 - n ∧ Sub h x ∧ Blk x k1 5 (tabV (stg1 s n)), ⟨_, 0, rfl, by decide, rfl, s3, B3⟩, ?_⟩
  rintro i x m ⟨n, rfl, hn, rfl, sx, Bx⟩
  refine split_dec (fun g => ?_) fun g => ?_
  · have g : n < 8 := by have : (n : Int) < 8 := g; omega
    have e1 : IntKind.i64.wrap (8 * (n : Int)) = ((8 * n : Nat) : Int) := by rw [wid (by omega) (by omega)]; omega
    have e2 : IntKind.i64.wrap (56 - ((8 * n : Nat) : Int)) = ((56 - 8 * n : Nat) : Int) := by rw [wid (by omega) (by omega)]; omega
    have e3 : IntKind.i64.wrap (10 + (n : Int)) = ((10 + n : Nat) : Int) := by rw [wid (by omega) (by omega)]; omega
    have idx : 0 + ((10 + n : Nat) : Int).toNat * 1 = 10 + n := by rw [Int.toNat_natCast]; omega
    rw [e1, e2, e3]
    refine ⟨_, cell_sub sx (H.get (headC_0 s r u)), by omega, by omega, by omega, k1, 0, rfl, ?_, 8 - (n + 1), by omega, n + 1, by rw [wid (by omega) (by omega)]; omega, by omega, rfl, new sx _ _, ?_⟩
    · rw [idx]; exact Bx.store (by rw [tabV_len]; omega)
    · rw [idx, shrN _ _ _ (by show 56 - 8 * n ≤ 64; omega), u8c]
      have := Bx.put (10 + n) [.int .u8 ((s / 2 ^ (56 - 8 * n) % 256 : Nat) : Int)]
      rw [tabV_set, ← tabV_congr fun j _ => stg1_step s n j g] at this
      exact this
  have : n = 8 := by
    have : ¬ (n : Int) < 8 := g
    omega
  subst this
  clear s3 B3 g
  have hh := H.sub sx
  refine ⟨_, hh.get (headC_root s r u (k := 0) (by decide)), _, hh.get (headC_root s r u (k := 1) (by decide)), _, hh.get (headC_root s r u (k := 2) (by decide)), _, hh.get (headC_root s r u (k := 3) (by decide)), ?_⟩
  refine ⟨fun i x m => ∃ n : Nat, i = (n : Int) ∧ n ≤ 4 ∧ m = 4 - n ∧ Sub h x ∧ Blk x k1 5 (tabV (stg2 s r n)), ⟨_, 0, rfl, by decide, rfl, sx, ?_⟩, ?_⟩
  · rw [tabV_congr fun j _ => stg2_zero s r j]; exact Bx
  clear hh Bx sx
  rintro i x m ⟨n, rfl, hn, rfl, sx, Bx⟩
  refine split_dec (fun g => ?_) fun g => ?_
  · have g : n < 4 := by have : (n : Int) < 4 := g; omega
    have e1 : IntKind.i64.wrap (2 * (n : Int)) = ((2 * n : Nat) : Int) := by rw [wid (by omega) (by omega)]; omega
    have e2 : IntKind.i64.wrap (18 + ((2 * n : Nat) : Int)) = ((18 + 2 * n : Nat) : Int) := by rw [wid (by omega) (by omega)]; omega
    have e3 : IntKind.i64.wrap (((18 + 2 * n : Nat) : Int) + 1) = ((19 + 2 * n : Nat) : Int) := by rw [wid (by omega) (by omega)]; omega
    have idx : 0 + ((18 + 2 * n : Nat) : Int).toNat * 1 = 18 + 2 * n := by rw [Int.toNat_natCast]; omega
    have idx2 : 0 + ((19 + 2 * n : Nat) : Int).toNat * 1 = 19 + 2 * n := by rw [Int.toNat_natCast]; omega
    rw [e1, e2, e3]
    have B2 := Bx.put (18 + 2 * n) [.int .u8 ((r n / 256 % 256 : Nat) : Int)]
    rw [tabV_set] at B2
    refine ⟨by omega, by omega, _, lget4 g, by decide, by omega, by omega, k1, 0, rfl, ?_, by omega, by omega, k1, 0, rfl, ?_, 4 - (n + 1), by omega, n + 1, by rw [wid (by omega) (by omega)]; omega, by omega, rfl, new (new sx _ _) _ _, ?_⟩
    · rw [idx]; exact Bx.store (by rw [tabV_len]; omega)
    · rw [idx, idx2, show (8 : Int) = ((8 : Nat) : Int) from rfl, shrN _ _ _ (by decide), u8c]
      exact B2.store (by rw [tabV_len]; omega)
    · rw [idx, idx2, show (8 : Int) = ((8 : Nat) : Int) from rfl, shrN _ _ _ (by decide), u8c, u8c]
      have := B2.put (19 + 2 * n) [.int .u8 ((r n % 256 : Nat) : Int)]
      rw [tabV_set, ← tabV_congr fun j _ => stg2_step s r n j] at this
      exact this
  have : n = 4 := by
    have : ¬ (n : Int) < 4 := g
    omega
  subst this
  clear g
  refine ⟨usedV u, usedV_len u, ?_, ?_⟩
  · intro i hi
    rw [usedV_len] at hi
    rw [Nat.add_assoc, (H.sub sx).get (headC_used s r u hi)]
    rw [← usedV_get hi, List.getElem?_eq_getElem]
  refine ⟨fun i x m => ∃ n : Nat, i = (n : Int) ∧ n ≤ 128 ∧ m = 128 - n ∧ Sub h x ∧ Blk x k1 5 (tabV (encN s r u n)), ⟨_, 0, rfl, by decide, rfl, sx, ?_⟩, ?_⟩
  · rw [tabV_congr fun j _ => encN_zero s r u j]; exact Bx
  clear Bx sx
  rintro i x m ⟨n, rfl, hn, rfl, sx, Bx⟩
  refine split_dec (fun g => ?_) fun g => ?_
  · have g : n < 128 := by have : (n : Int) < 128 := g; omega
    have gl : lget (usedV u) ((n : Int).toNat * 1) = some (.bool (u n)) := by
      rw [Int.toNat_natCast, Nat.mul_one]; exact usedV_get g
    have e4 : IntKind.i64.wrap ((n : Int) + 1) = ((n + 1 : Nat) : Int) := by rw [wid (by omega) (by omega)]; omega
    refine ⟨by omega, by omega, _, gl, split_cond (fun eu => ?_) fun eu => ⟨128 - (n + 1), by omega, n + 1, e4, by omega, rfl, sx, ?_⟩⟩
    · have e1 : IntKind.i64.wrap (26 + IntKind.i64.wrap ((n : Int).tdiv 8)) = ((26 + n / 8 : Nat) : Int) := by
        rw [tdiv8, widN _ (by omega), wid (by omega) (by omega)]; omega
      have idx : 0 + ((26 + n / 8 : Nat) : Int).toNat * 1 = 26 + n / 8 := by rw [Int.toNat_natCast]; omega
      rw [e1, tmod8]
      refine ⟨by decide, by omega, by omega, k1, 0, rfl, ((encN s r u n (26 + n / 8) : Nat) : Int), ?_, by decide, by omega, by omega, by omega, k1, 0, rfl, ?_, 128 - (n + 1), by omega, n + 1, e4, by omega, rfl, new sx _ _, ?_⟩
      · rw [idx]; exact Bx.cell' _ (tabV_get (by omega))
      · rw [idx]; exact Bx.store (by rw [tabV_len]; omega)
      · rw [idx, orBitN (Nat.mod_lt _ (by decide)) (encN_low s r u g)]
        have := Bx.put (26 + n / 8) [.int .u8 ((encN s r u n (26 + n / 8) + 2 ^ (n % 8) : Nat) : Int)]
        rw [tabV_set, ← tabV_congr fun j _ => encN_yes s r u g eu j] at this
        exact this
    · rw [tabV_congr fun j _ => encN_no s r u eu j]; exact Bx
  have : n = 128 := by
    have : ¬ (n : Int) < 128 := g
    omega
  subst this
  exact ⟨_, by rw [tabB_bytes fun j _ => encN_lt s r u 128 j]; exact Bx.slice (tabV_len _), hK x sx⟩
end Go.Proofs.YthbogjbcecmopaaDoor
namespace Go.Proofs.YthbogjbcecmopaaDoor
open Go.Gx
set_option maxRecDepth 100000
set_option linter.unusedVariables false

theorem setL_all {vs us : List Value} (h : us.length = vs.length) : setL vs 0 us = us := by
  have := @setL_append [] vs us 0 rfl (by omega)
  rw [List.nil_append, List.nil_append, List.drop_eq_nil_of_le (by omega), List.append_nil] at this
  exact this
def upR (r : Nat → Nat) (k v : Nat) : Nat → Nat := fun i => if i = k then v else r i
def upU (u : Nat → Bool) (k : Nat) (v : Bool) : Nat → Bool := fun i => if i = k then v else u i
theorem rootV_set {r : Nat → Nat} {k v : Nat} : setL (rootV r) k [.int .i64 ((v : Nat) : Int)] = rootV (upR r k v) := by
  refine List.ext_getElem? fun i => ?_
  rw [setL_get]
  by_cases hi : i < 4
  · rw [rootV_get hi, rootV_get hi]
    unfold upR
    by_cases e : i = k
    · rw [if_pos ⟨e, by rw [rootV_len]; omega⟩, if_pos e]
    · rw [if_neg fun h => e h.1, if_neg e]
  · rw [if_neg (fun h => by have := h.2; rw [rootV_len] at this; omega), List.getElem?_eq_none (by rw [rootV_len]; omega), List.getElem?_eq_none (by rw [rootV_len]; omega)]
theorem usedV_set {u : Nat → Bool} {k : Nat} {v : Bool} : setL (usedV u) k [.bool v] = usedV (upU u k v) := by
  refine List.ext_getElem? fun i => ?_
  rw [setL_get]
  by_cases hi : i < 128
  · rw [usedV_get hi, usedV_get hi]
    unfold upU
    by_cases e : i = k
    · rw [if_pos ⟨e, by rw [usedV_len]; omega⟩, if_pos e]
    · rw [if_neg fun h => e h.1, if_neg e]
  · rw [if_neg (fun h => by have := h.2; rw [usedV_len] at this; omega), List.getElem?_eq_none (by rw [usedV_len]; omega), List.getElem?_eq_none (by rw [usedV_len]; omega)]
theorem headC_setS (s s' : Nat) (r : Nat → Nat) (u : Nat → Bool) : setL (headC s r u) 0 [.int .u64 (s' : Nat)] = headC s' r u := rfl
theorem headC_setR (s : Nat) (r : Nat → Nat) (u : Nat → Bool) {k : Nat} (v : Nat) (hk : k < 4) : setL (headC s r u) (1 + k) [.int .i64 (v : Nat)] = headC s (upR r k v) u := by
  show setL ([.int .u64 (s : Nat)] ++ (rootV r ++ usedV u)) ([Value.int .u64 (s : Nat)].length + k) _ = [.int .u64 (s : Nat)] ++ (rootV (upR r k v) ++ usedV u)
  rw [setL_right, setL_left _ _ _ _ (by rw [rootV_len]; show k + 1 ≤ 4; omega), rootV_set]
theorem headC_setU (s : Nat) (r : Nat → Nat) (u : Nat → Bool) (k : Nat) (v : Bool) : setL (headC s r u) (5 + k) [.bool v] = headC s r (upU u k v) := by
  show setL ([.int .u64 (s : Nat)] ++ (rootV r ++ usedV u)) (5 + k) _ = [.int .u64 (s : Nat)] ++ (rootV r ++ usedV (upU u k v))
  have e : 5 + k = ([Value.int .u64 (s : Nat)] ++ rootV r).length + k := by rw [List.length_append, rootV_len]; rfl
  rw [e, ← List.append_assoc, setL_right, usedV_set, List.append_assoc]
theorem headC_congr {s : Nat} {r r' : Nat → Nat} {u u' : Nat → Bool} (h1 : ∀ k, k < 4 → r k = r' k) (h2 : ∀ i, i < 128 → u i = u' i) : headC s r u = headC s r' u' := by
  unfold headC rootV usedV
  rw [List.map_congr_left fun k hk => by rw [h1 k (List.mem_range.1 hk)], List.map_congr_left (l := List.range 128) fun k hk => by rw [h2 k (List.mem_range.1 hk)]]
theorem z114 : zeroL Tryd.prog 87 = headC 0 (fun _ => 0) fun _ => false := by kernel_rfl
theorem shiftIn (y x : Nat) (hx : x < 256) (hy : y < 256 ^ 7) : IntKind.u64.wrap (ior IntKind.u64 (IntKind.u64.wrap (ishl IntKind.u64 (y : Int) 8)) (IntKind.u64.wrap ((x : Nat) : Int))) = ((y * 256 + x : Nat) : Int) := by
  have hy : y < 72057594037927936 := hy
  rw [show (8 : Int) = ((8 : Nat) : Int) from rfl, shlN _ y 8 (by decide), wrap64s (y * 2 ^ 8) (by omega), wrap64s x (by omega), orN' _ x y 8 (by omega) (by show _ < 18446744073709551616; omega), wrap64s _ (by omega)]
  omega
theorem shiftIn2 (y x : Nat) (hx : x < 256) (hy : y < 256) : IntKind.i64.wrap (ior IntKind.i64 (IntKind.i64.wrap (ishl IntKind.i64 (IntKind.i64.wrap ((y : Nat) : Int)) 8)) (IntKind.i64.wrap ((x : Nat) : Int))) = ((y * 256 + x : Nat) : Int) := by
  rw [widN y (by omega), widN x (by omega), show (8 : Int) = ((8 : Nat) : Int) from rfl, shlN _ y 8 (by decide), widN (y * 2 ^ 8) (by omega), orN' _ x y 8 (by omega) (by show _ < 18446744073709551616; omega), widN _ (by omega)]
  omega
theorem bitRead (x k : Nat) (hx : x < 256) (hk : k < 8) : hb (IntKind.u8.wrap (iand IntKind.u8 (ishr IntKind.u8 ((x : Nat) : Int) ((k : Nat) : Int)) 1) == 1) = (x / 2 ^ k % 2 == 1) := by
  have h1 : x / 2 ^ k ≤ x := Nat.div_le_self ..
  rw [shrN _ _ _ (by show k ≤ 8; omega), and1 _ (by omega), u8c]
  generalize x / 2 ^ k = y
  have : y % 2 % 256 = y % 2 := Nat.mod_eq_of_lt (by omega)
  rw [this]
  have : y % 2 = 0 ∨ y % 2 = 1 := by omega
  rw [hb_eq]
  rcases this with e | e <;> rw [e] <;> decide

set_option maxHeartbeats 2000000 in
theorem pread_spec {h : Hp} {b : ByteArray} {n : Nat} {K : Value → Hp → Prop} (hb : b.size = 1024) (h1 : 1 ≤ n) (hn : n ≤ 128)
    (hZ : b = zeroB 1024 → ∀ h', Sub h h' → K (.tuple #[.agg (headC 0 (fun _ => 0) fun i => i == 0).toArray, .bool true]) h')
    (hO : b ≠ zeroB 1024 → OkHead b n → ∀ h', Sub h h' → K (.tuple #[.agg (headC (dser b 8) (droot b) (dbit b)).toArray, .bool true]) h')
    (hN : b ≠ zeroB 1024 → ¬ OkHead b n → ∀ h' xs, xs.length = 133 → plainP xs → Sub h h' → K (.tuple #[.agg xs.toArray, .bool false]) h') :
    CallsH Tryd.prog pager_read.id #[.string b, .int .i64 (n : Nat)] h K := by
  apply pager_read.calls
  unfold pager_read.W
  intro k1 hk1 k2 hk2
  rw [z114] at hk2 ⊢
  have B1 : Blk (h.upd k1 (.cells (headC 0 (fun _ => 0) fun _ => false).toArray 87 (0, 0))) k1 87 (headC 0 (fun _ => 0) fun _ => false) := Blk.new _ _ _ _
  have s1 : Sub h (h.upd k1 (.cells (headC 0 (fun _ => 0) fun _ => false).toArray 87 (0, 0))) := Sub.upd hk1 _
  generalize h.upd k1 (.cells (headC 0 (fun _ => 0) fun _ => false).toArray 87 (0, 0)) = y1 at B1 s1 hk2
  have hne : k1 ≠ k2 := B1.ne hk2
  have hk2h : h k2 = none := s1.none hk2
  have B2 : Blk (y1.upd k2 (.cells (headC 0 (fun _ => 0) fun _ => false).toArray 87 (0, 0))) k2 87 (headC 0 (fun _ => 0) fun _ => false) := Blk.new _ _ _ _
  have B1' := B1.sub (Sub.upd hk2 (.cells (headC 0 (fun _ => 0) fun _ => false).toArray 87 (0, 0)))
  have s2 := s1.trans (Sub.upd hk2 (.cells (headC 0 (fun _ => 0) fun _ => false).toArray 87 (0, 0)))
  clear B1 s1
  generalize y1.upd k2 (.cells (headC 0 (fun _ => 0) fun _ => false).toArray 87 (0, 0)) = y2 at B1' B2 s2
  have new2 : ∀ {x : Hp} (sx : Sub h x) (o' : Nat) (us : List Value), Sub h (x.put k2 o' us) := fun {x} sx o' us => (Keep.put (fun c => c = k2) x o' us rfl).sub sx fun c e => by rw [e]; exact hk2h
  have new1 : ∀ {x : Hp} (sx : Sub h x) (o' : Nat) (us : List Value), Sub h (x.put k1 o' us) := fun {x} sx o' us => (Keep.put (fun c => c = k1) x o' us rfl).sub sx fun c e => by rw [e]; exact hk1
  have hl := headC_len 0 (fun _ => 0) fun _ => false
  have B3 := B2.put 0 (headC 0 (fun _ => 0) fun _ => false)
  rw [setL_all rfl] at B3
  have B4 := B3.put (5 + 0) [.bool true]
  rw [headC_setU] at B4
  have B14 := (B1'.put_ne 0 (headC 0 (fun _ => 0) fun _ => false) hne).put_ne (5 + 0) [.bool true] hne
  have s4 := new2 (new2 s2 0 (headC 0 (fun _ => 0) fun _ => false)) (5 + 0) [.bool true]
  refine ⟨hl, headC_plain _ _ _, B2.store (by rw [hl]; decide), B3.store (by rw [hl]; decide), by decide, by decide, by decide, by decide, fun k3 hk3 => ?_⟩
  have hu0 : headC 0 (fun _ => 0) (upU (fun _ => false) 0 true) = headC 0 (fun _ => 0) fun i => i == 0 := headC_congr (fun _ _ => rfl) fun i _ => by
    unfold upU
    by_cases e : i = 0
    · rw [if_pos e, e]; rfl
    · rw [if_neg e]; symm; simpa using e
  rw [hu0] at B4
  have B5 := B4.sub (Sub.upd hk3 (.cells (repV 1024 [.int .u8 0]).toArray 5 (0, 0)))
  have B15 := B14.sub (Sub.upd hk3 (.cells (repV 1024 [.int .u8 0]).toArray 5 (0, 0)))
  have s5 := s4.trans (Sub.upd hk3 (.cells (repV 1024 [.int .u8 0]).toArray 5 (0, 0)))
  refine ⟨zeroB 1024, zero_slice (Hp.upd_same _ _ _), ?_⟩
  clear B3 B4 B14 s4 B2 B1' s2
  show cond (beqS b (zeroB 1024)) _ _
  generalize Hp.upd _ k3 _ = y5 at B5 B15 s5 ⊢
  -- what is told at the end
  have fin : ∀ {x : Hp} {t : Nat → Nat} {v : Nat → Bool} {w : Bool} {s : Nat} {L : List Value} (sx : Sub h x) (Bx : Blk x k1 87 (headC 0 (fun _ => 0) fun _ => false)) (hL : L.length = 133) (pL : plainP L), (∀ h', Sub h h' → K (.tuple #[.agg L.toArray, .bool w]) h') →
      L.length = 133 ∧ plainP L ∧ StoreOk x k1 0 L.length ∧ ∃ xs : List Value, xs.length = 133 ∧ CellsAt (x.put k1 0 L) k1 0 xs ∧ K (.tuple #[.agg xs.toArray, .bool w]) (x.put k1 0 L) := by
    intro x t v w s L sx Bx hL pL hK
    refine ⟨hL, pL, Bx.store (by rw [hL, hl]; decide), L, hL, ?_, hK _ (new1 sx _ _)⟩
    have := Bx.put 0 L
    rw [setL_all (by rw [hL, hl])] at this
    exact this.cellsAt fun i hi => by rw [Nat.zero_add]
  have z0 : ∀ {x : Hp} (Bx : Blk x k2 87 (headC 0 (fun _ => 0) fun _ => false)), True := fun _ => trivial
  refine split_beqS (fun e => ?_) fun hne0 => ?_
  · refine ⟨headC 0 (fun _ => 0) fun i => i == 0, headC_len _ _ _, B5.cellsAt fun i hi => by rw [Nat.zero_add], ?_⟩
    exact fin (t := fun _ => 0) (v := fun _ => false) (s := 0) s5 B15 (headC_len _ _ _) (headC_plain _ _ _) (hZ e)
  have bad : ¬ OkHead b n → ∀ {x : Hp}, Sub h x → Blk x k1 87 (headC 0 (fun _ => 0) fun _ => false) → (headC 0 (fun _ => 0) fun _ => false).length = 133 ∧ plainP (headC 0 (fun _ => 0) fun _ => false) ∧ StoreOk x k1 0 (headC 0 (fun _ => 0) fun _ => false).length ∧
      ∃ xs : List Value, xs.length = 133 ∧ CellsAt (x.put k1 0 (headC 0 (fun _ => 0) fun _ => false)) k1 0 xs ∧ K (.tuple #[.agg xs.toArray, .bool false]) (x.put k1 0 (headC 0 (fun _ => 0) fun _ => false)) := fun no {x} sx Bx =>
    fin (t := fun _ => 0) (v := fun _ => false) (s := 0) sx Bx hl (headC_plain _ _ _) fun h' s' => hN hne0 no h' _ hl (headC_plain _ _ _) s'
  have e18 : IntKind.i64.wrap (Int.ofNat 10 + 8) = 18 := by decide
  have e26 : IntKind.i64.wrap (18 + 8) = 26 := by decide
  have esz : Int.ofNat b.size = 1024 := by rw [hb]; rfl
  simp only [e18, e26, esz]
  have stp : ∀ {m j : Nat}, j < m → m ≤ 1000 → IntKind.i64.wrap ((j : Int) + 1) = ((j + 1 : Nat) : Int) := fun {m j} _ _ => by rw [wid (by omega) (by omega)]; omega
  refine ⟨fun i x m => ∃ j : Nat, i = (j : Int) ∧ j ≤ 8 ∧ m = 8 - j ∧ Sub h x ∧ Blk x k1 87 (headC 0 (fun _ => 0) fun _ => false) ∧ Blk x k2 87 (headC (dser b j) (fun _ => 0) fun i => i == 0), ⟨_, 0, rfl, by decide, rfl, s5, B15, B5⟩, ?_⟩
  rintro i x m ⟨j, rfl, hj, rfl, sx, A, B⟩
  refine split_dec (fun g => ?_) fun g => ?_
  · have g : j < 8 := by have : (j : Int) < 8 := g; omega
    have e1 : IntKind.i64.wrap (10 + (j : Int)) = ((10 + j : Nat) : Int) := by rw [wid (by omega) (by omega)]; omega
    have hd := dser_lt b j
    have hd7 : dser b j < 256 ^ 7 := Nat.lt_of_lt_of_le hd (Nat.pow_le_pow_right (by decide) (by omega))
    refine ⟨_, B.cell' 0 rfl, by decide, by rw [e1]; omega, by rw [e1]; omega, B.store (by rw [headC_len]; decide), 8 - (j + 1), by omega, j + 1, stp g (by decide), by omega, rfl, new2 sx _ _, A.put_ne _ _ hne, ?_⟩
    rw [e1, Int.toNat_natCast, byteAt_N, shiftIn _ _ (byteN_lt _ _) hd7]
    have := B.put 0 [.int .u64 ((dser b j * 256 + byteN b (10 + j) : Nat) : Int)]
    rw [headC_setS] at this
    exact this
  have : j = 8 := by
    have : ¬ (j : Int) < 8 := g
    omega
  subst this
  clear g B5 B15 s5
  refine ⟨fun i x m => ∃ j : Nat, i = (j : Int) ∧ j ≤ 4 ∧ m = 4 - j ∧ Sub h x ∧ Blk x k1 87 (headC 0 (fun _ => 0) fun _ => false) ∧ Blk x k2 87 (headC (dser b 8) (fun k => if k < j then droot b k else 0) fun i => i == 0), ⟨_, 0, rfl, by decide, rfl, sx, A, ?_⟩, ?_⟩
  · rw [headC_congr (r' := fun _ => 0) (u' := fun i => i == 0) (fun k _ => if_neg (Nat.not_lt_zero _)) fun _ _ => rfl]; exact B
  clear A B sx
  rintro i x m ⟨j, rfl, hj, rfl, sx, A, B⟩
  refine split_dec (fun g => ?_) fun g => ?_
  · have g : j < 4 := by have : (j : Int) < 4 := g; omega
    have e1 : IntKind.i64.wrap (2 * (j : Int)) = ((2 * j : Nat) : Int) := by rw [wid (by omega) (by omega)]; omega
    have e2 : IntKind.i64.wrap (18 + ((2 * j : Nat) : Int)) = ((18 + 2 * j : Nat) : Int) := by rw [wid (by omega) (by omega)]; omega
    have e3 : IntKind.i64.wrap (((18 + 2 * j : Nat) : Int) + 1) = ((19 + 2 * j : Nat) : Int) := by rw [wid (by omega) (by omega)]; omega
    have idx : 1 + (j : Int).toNat * 1 = 1 + j := by rw [Int.toNat_natCast]; omega
    rw [e1, e2, e3, idx]
    refine ⟨by omega, by omega, by decide, by omega, by omega, by omega, by omega, B.store (by rw [headC_len]; omega), 4 - (j + 1), by omega, j + 1, stp g (by decide), by omega, rfl, new2 sx _ _, A.put_ne _ _ hne, ?_⟩
    rw [Int.toNat_natCast, Int.toNat_natCast, byteAt_N, byteAt_N, shiftIn2 _ _ (byteN_lt _ _) (byteN_lt _ _)]
    have := B.put (1 + j) [.int .i64 ((droot b j : Nat) : Int)]
    rw [headC_setR _ _ _ _ g] at this
    rw [headC_congr (r' := upR (fun k => if k < j then droot b k else 0) j (droot b j)) (u' := fun i => i == 0) (fun k _ => ?_) fun _ _ => rfl]
    · exact this
    · show (if k < j + 1 then droot b k else 0) = if k = j then droot b j else if k < j then droot b k else 0
      by_cases e : k = j
      · rw [if_pos e, if_pos (by omega), e]
      · rw [if_neg e]
        by_cases e2 : k < j
        · rw [if_pos e2, if_pos (by omega)]
        · rw [if_neg e2, if_neg (by omega)]
  have : j = 4 := by
    have : ¬ (j : Int) < 4 := g
    omega
  subst this
  clear g
  rw [headC_congr (r' := droot b) (u' := fun i => i == 0) (fun k hk => if_pos hk) fun _ _ => rfl] at B
  refine ⟨fun i x m => ∃ j : Nat, i = (j : Int) ∧ j ≤ 128 ∧ m = 128 - j ∧ Sub h x ∧ Blk x k1 87 (headC 0 (fun _ => 0) fun _ => false) ∧ Blk x k2 87 (headC (dser b 8) (droot b) fun i => if i < j then dbit b i else i == 0) ∧ ∀ i, i < j → dbit b i = true → i < n, ⟨_, 0, rfl, by decide, rfl, sx, A, ?_, fun i hi => absurd hi (Nat.not_lt_zero _)⟩, ?_⟩
  · rw [headC_congr (r' := droot b) (u' := fun i => i == 0) (fun _ _ => rfl) fun k _ => if_neg (Nat.not_lt_zero _)]; exact B
  clear A B sx
  rintro i x m ⟨j, rfl, hj, rfl, sx, A, B, hbel⟩
  refine split_dec (fun g => ?_) fun g => ?_
  · have g : j < 128 := by have : (j : Int) < 128 := g; omega
    have e1 : IntKind.i64.wrap (26 + IntKind.i64.wrap ((j : Int).tdiv 8)) = ((26 + j / 8 : Nat) : Int) := by
      rw [tdiv8, widN _ (by omega), wid (by omega) (by omega)]; omega
    have idx : 5 + (j : Int).toNat * 1 = 5 + j := by rw [Int.toNat_natCast]; omega
    have val : Go.Gx.hb (IntKind.u8.wrap (iand IntKind.u8 (ishr IntKind.u8 (byteAt b (26 + j / 8)) ((j % 8 : Nat) : Int)) 1) == 1) = dbit b j := by
      rw [byteAt_N, bitRead _ _ (byteN_lt _ _) (Nat.mod_lt _ (by decide))]; rfl
    rw [e1, idx, tmod8, Int.toNat_natCast, val]
    have B' := B.put (5 + j) [.bool (dbit b j)]
    rw [headC_setU, headC_congr (r' := droot b) (u' := fun i => if i < j + 1 then dbit b i else i == 0) (fun _ _ => rfl) fun k _ => ?_] at B'
    rotate_left
    · show upU (fun i => if i < j then dbit b i else i == 0) j (dbit b j) k = if k < j + 1 then dbit b k else k == 0
      unfold upU
      by_cases e : k = j
      · rw [if_pos e, if_pos (by omega), e]
      · rw [if_neg e]
        show (if k < j then dbit b k else k == 0) = _
        by_cases e2 : k < j
        · rw [if_pos e2, if_pos (by omega)]
        · rw [if_neg e2, if_neg (by omega)]
    refine ⟨by decide, by omega, by omega, by decide, by omega, by omega, by omega, B.store (by rw [headC_len]; show 5 + j + 1 ≤ 133; omega), by omega, by omega, dbit b j, ?_, split_cond (fun eb => split_dec (fun e => ?_) fun e => ?_) fun eb => ?_⟩
    · exact B'.cell' _ (by rw [headC_used _ _ _ g, if_pos (Nat.lt_succ_self _)])
    · have e : ((j : Nat) : Int) ≥ (n : Int) := e
      exact bad (fun H => by have := H.below j g eb; omega) (new2 sx _ _) (A.put_ne _ _ hne)
    · have e : ¬ ((j : Nat) : Int) ≥ (n : Int) := e
      refine ⟨128 - (j + 1), by omega, j + 1, stp g (by decide), by omega, rfl, new2 sx _ _, A.put_ne _ _ hne, B', fun i hi hbi => ?_⟩
      by_cases e2 : i = j
      · omega
      · exact hbel i (by omega) hbi
    · refine ⟨128 - (j + 1), by omega, j + 1, stp g (by decide), by omega, rfl, new2 sx _ _, A.put_ne _ _ hne, B', fun i hi hbi => ?_⟩
      by_cases e2 : i = j
      · rw [e2, eb] at hbi; cases hbi
      · exact hbel i (by omega) hbi
  have : j = 128 := by
    have : ¬ (j : Int) < 128 := g
    omega
  subst this
  clear g
  rw [headC_congr (r' := droot b) (u' := dbit b) (fun _ _ => rfl) fun k hk => if_pos hk] at B
  refine ⟨_, B.cell' _ (headC_root _ _ _ (k := 0) (by decide)), _, B.cell' _ (headC_root _ _ _ (k := 1) (by decide)), _, B.cell' _ (headC_root _ _ _ (k := 2) (by decide)), _, B.cell' _ (headC_root _ _ _ (k := 3) (by decide)), ?_⟩
  refine ⟨fun i y m => ∃ j : Nat, i = (j : Int) ∧ j ≤ 4 ∧ m = 4 - j ∧ y = x ∧ ∀ k, k < j → droot b k < 128 ∧ (droot b k ≠ 0 → dbit b (droot b k) = true), ⟨_, 0, rfl, by decide, rfl, rfl, fun k hk => absurd hk (Nat.not_lt_zero _)⟩, ?_⟩
  rintro i y m ⟨j, rfl, hj, rfl, rfl, hroots⟩
  refine split_dec (fun g => ?_) fun g => ?_
  · have g : j < 4 := by have : (j : Int) < 4 := g; omega
    refine ⟨by omega, by omega, _, lget4 g, split_dec (fun e => ?_) fun e => split_ne (fun e2 => ?_) fun e2 => ?_⟩
    · have e : ((droot b j : Nat) : Int) ≥ 128 := e
      exact bad (fun H => by have := (H.roots j g).1; omega) sx A
    · have e : ¬ ((droot b j : Nat) : Int) ≥ 128 := e
      have idx : 5 + ((droot b j : Nat) : Int).toNat * 1 = 5 + droot b j := by rw [Int.toNat_natCast]; omega
      refine ⟨by omega, by omega, dbit b (droot b j), ?_, split_not (fun e3 => bad (fun H => ?_) sx A) fun e3 => ⟨4 - (j + 1), by omega, j + 1, stp g (by decide), by omega, rfl, rfl, fun k hk => ?_⟩⟩
      · rw [idx]; exact B.cell' _ (headC_used _ _ _ (by omega))
      · have := (H.roots j g).2 (fun e4 => e2 (by rw [e4]; rfl))
        rw [this] at e3; cases e3
      · by_cases ek : k = j
        · rw [ek]; exact ⟨by omega, fun _ => e3⟩
        · exact hroots k (by omega)
    · have e2 : ((droot b j : Nat) : Int) = 0 := e2
      refine ⟨4 - (j + 1), by omega, j + 1, stp g (by decide), by omega, rfl, rfl, fun k hk => ?_⟩
      by_cases ek : k = j
      · rw [ek]; exact ⟨by omega, fun h => by omega⟩
      · exact hroots k (by omega)
  have : j = 4 := by
    have : ¬ (j : Int) < 4 := g
    omega
  subst this
  have notOk : ¬ OkHead b n → ∀ {z : Hp}, Sub h z → Blk z k1 87 (headC 0 (fun _ => 0) fun _ => false) → _ := fun no {z} sz Bz =>
    fin (x := z) (w := false) (t := fun _ => 0) (v := fun _ => false) (s := 0) (L := headC (dser b 8) (droot b) (dbit b)) sz Bz (headC_len _ _ _) (headC_plain _ _ _) fun h' s' => hN hne0 no h' _ (headC_len _ _ _) (headC_plain _ _ _) s'
  refine ⟨headC (dser b 8) (droot b) (dbit b), headC_len _ _ _, B.cellsAt fun i hi => by rw [Nat.zero_add], _, B.cell' 5 (headC_used _ _ _ (i := 0) (by decide)), split_cond (fun e0 => ?_) fun e0 => ⟨Sub.refl _, notOk (fun H => by rw [H.zero] at e0; cases e0) sx A⟩⟩
  refine ⟨_, B.cell' 0 rfl, split_dec (fun e => ?_) fun e => ⟨Sub.refl _, notOk (fun H => e (by have := H.ser; omega)) sx A⟩⟩
  refine bytes_spec (B.cellsAt fun i hi => by rw [Nat.zero_add]) fun z sz => ⟨_, rfl, sz, ?_⟩
  rw [beqS_val]
  by_cases eb : tabB (encN (dser b 8) (droot b) (dbit b) 128) = b
  · rw [decide_eq_true eb]
    exact fin (t := fun _ => 0) (v := fun _ => false) (s := 0) (sx.trans sz) (A.sub sz) (headC_len _ _ _) (headC_plain _ _ _) (hO hne0 ⟨hbel, hroots, e0, by have e : ((dser b 8 : Nat) : Int) ≤ 9223372036854775807 := e; omega, eb⟩)
  · rw [decide_eq_false eb]
    exact notOk (fun H => eb H.bytes) (sx.trans sz) (A.sub sz)
end Go.Proofs.YthbogjbcecmopaaDoor
namespace Go.Proofs.YthbogjbcecmopaaDoor
open Go.Gx
set_option maxRecDepth 100000
set_option linter.unusedVariables false

end Go.Proofs.YthbogjbcecmopaaDoor
namespace Go.Proofs.YthbogjbcecmopaaDoor
open Go.Gx
set_option maxRecDepth 100000
set_option linter.unusedVariables false

def secs (l : List ByteArray) (at_ : Nat) : List UInt8 := (l.getD at_ (bytesL [])).data.toList ++ (l.getD (at_ + 1) (bytesL [])).data.toList ++ (l.getD (at_ + 2) (bytesL [])).data.toList ++ (l.getD (at_ + 3) (bytesL [])).data.toList
def pageL (l : List ByteArray) (at_ : Nat) : ByteArray := ⟨(secs l at_).toArray⟩
theorem page_L {D : Dk} (hw : D.ws = []) (at_ : Nat) : D.page at_ = pageL D.l at_ := by
  unfold Dk.page pageL secs
  unfold Dk.look Dk.look Dk.look Dk.look Dk.look Dk.read
  rw [hw, List.nil_append]; rfl
theorem getD_of {l : List ByteArray} {i : Nat} {s : ByteArray} (h : l[i]? = some s) : l.getD i (bytesL []) = s := by rw [List.getD_eq_getElem?_getD, h]; rfl
end Go.Proofs.YthbogjbcecmopaaDoor
namespace Go.Proofs.YthbogjbcecmopaaDoor
open Go.Gx
set_option maxRecDepth 100000
set_option linter.unusedVariables false

def mapD (L : List Ch) : List (Value × Value) := L.map fun e => (.int .i64 (e.1 : Nat), .string e.2)
def dget (L : List Ch) (i : Nat) : Option ByteArray := (L.find? fun e => e.1 == i).map (·.2)
def dset (L : List Ch) (i : Nat) (s : ByteArray) : List Ch :=
  match dget L i with
  | some _ => L.map fun e => if e.1 = i then (i, s) else e
  | none => L ++ [(i, s)]
def ddel (L : List Ch) (i : Nat) : List Ch := L.filter fun e => e.1 != i
theorem key_eq {a b : Nat} : (Value.int .i64 (a : Nat) = Value.int .i64 (b : Nat)) ↔ a = b := by
  constructor
  · intro h; cases h with
    | refl => rfl
  · rintro rfl; rfl
theorem mapD_get (L : List Ch) (i : Nat) : mget (mapD L) (.int .i64 (i : Nat)) = (dget L i).map .string := by
  unfold mget mapD dget
  induction L with
  | nil => rfl
  | cons e L ih =>
    rw [List.map_cons]
    by_cases h : e.1 = i
    · rw [List.find?_cons_of_pos (by simpa using congrArg (fun n : Nat => (n : Int)) h), List.find?_cons_of_pos (by simpa using h)]; rfl
    · rw [List.find?_cons_of_neg (by simpa using fun e' => h (by omega)), List.find?_cons_of_neg (by simpa using h)]; exact ih
theorem mapD_set (L : List Ch) (i : Nat) (s : ByteArray) : mset (mapD L) (.int .i64 (i : Nat)) (.string s) = mapD (dset L i s) := by
  unfold mset dset
  rw [mapD_get]
  cases h : dget L i with
  | none =>
    show mapD L ++ _ = mapD (L ++ _)
    unfold mapD
    rw [List.map_append]; rfl
  | some t =>
    show (mapD L).map _ = mapD (L.map _)
    unfold mapD
    rw [List.map_map, List.map_map]
    refine List.map_congr_left fun e _ => ?_
    simp only [Function.comp]
    by_cases he : e.1 = i
    · rw [if_pos (by rw [he]), if_pos he]
    · rw [if_neg (fun h => he (key_eq.1 h)), if_neg he]
theorem mapD_del (L : List Ch) (i : Nat) : mdel (mapD L) (.int .i64 (i : Nat)) = mapD (ddel L i) := by
  unfold mdel mapD ddel
  rw [List.filter_map]
  congr 1
  refine List.filter_congr fun e _ => ?_
  simp only [Function.comp]
  by_cases he : e.1 = i
  · have h1 : (e.1 != i) = false := by simpa using he
    rw [h1]
    simpa using congrArg (fun n : Nat => (n : Int)) he
  · have h1 : (e.1 != i) = true := by simpa using he
    rw [h1]
    simpa using fun e' => he (by omega)
theorem dget_set (L : List Ch) (i j : Nat) (s : ByteArray) : dget (dset L i s) j = if j = i then some s else dget L j := by
  have h1 := mget_mset (mapD L) (.int .i64 (i : Nat)) (.string s) (.int .i64 (j : Nat))
  rw [mapD_set, mapD_get, mapD_get] at h1
  by_cases e : j = i
  · rw [if_pos e]
    have := h1.1 (key_eq.2 e)
    cases hd : dget (dset L i s) j with
    | none => rw [hd] at this; cases this
    | some t => rw [hd] at this; cases this; rfl
  · rw [if_neg e]
    have := h1.2 fun h => e (key_eq.1 h)
    cases hd : dget (dset L i s) j with
    | none =>
      rw [hd] at this
      cases hd2 : dget L j with
      | none => rfl
      | some t => rw [hd2] at this; cases this
    | some t =>
      rw [hd] at this
      cases hd2 : dget L j with
      | none => rw [hd2] at this; cases this
      | some t2 => rw [hd2] at this; cases this; rfl
theorem dget_del (L : List Ch) (i j : Nat) : dget (ddel L i) j = if j = i then none else dget L j := by
  unfold dget ddel
  induction L with
  | nil => split <;> rfl
  | cons e L ih =>
    by_cases h : e.1 = i
    · rw [List.filter_cons_of_neg (by simpa using h), ih]
      by_cases hj : j = i
      · rw [if_pos hj, if_pos hj]
      · rw [if_neg hj, if_neg hj, List.find?_cons_of_neg (by simpa using fun e' => hj (by omega))]
    · rw [List.filter_cons_of_pos (by simpa using h)]
      by_cases hj : e.1 = j
      · rw [List.find?_cons_of_pos (by simpa using hj), List.find?_cons_of_pos (by simpa using hj), if_neg (by omega)]
      · rw [List.find?_cons_of_neg (by simpa using hj), List.find?_cons_of_neg (by simpa using hj)]; exact ih
structure DOk (n : Nat) (L : List Ch) : Prop where
  nd : (L.map (·.1)).Nodup
  mem : ∀ e ∈ L, e.1 < n ∧ e.2.size = 1024
  pos : ∀ e ∈ L, 1 ≤ e.1
theorem DOk.nil (n : Nat) : DOk n [] := ⟨List.nodup_nil, (fun e h => by cases h), fun e h => by cases h⟩
theorem dget_mem {L : List Ch} {i : Nat} {s : ByteArray} (h : dget L i = some s) : (i, s) ∈ L := by
  unfold dget at h
  obtain ⟨e, he, hs⟩ := Option.map_eq_some_iff.1 h
  have h1 := List.mem_of_find?_eq_some he
  have h2 : e.1 = i := by simpa using List.find?_some he
  obtain ⟨a, b⟩ := e
  cases hs; cases h2; exact h1
theorem dget_none {L : List Ch} {i : Nat} (h : dget L i = none) : ∀ e ∈ L, e.1 ≠ i := fun e he h2 => by
  unfold dget at h
  rw [Option.map_eq_none_iff, List.find?_eq_none] at h
  exact h e he (by simpa using h2)
theorem DOk.set {n : Nat} {L : List Ch} (H : DOk n L) {i : Nat} {s : ByteArray} (h1 : 1 ≤ i) (hi : i < n) (hs : s.size = 1024) : DOk n (dset L i s) := by
  unfold dset
  cases h : dget L i with
  | none =>
    refine ⟨?_, fun e he => ?_, fun e he => ?_⟩
    rotate_left 2
    · rcases List.mem_append.1 he with he | he
      · exact H.pos e he
      · rw [List.mem_singleton.1 he]; exact h1
    · rw [List.map_append, List.nodup_append]
      refine ⟨H.nd, by simp, fun a ha b hb => ?_⟩
      obtain ⟨e, he, rfl⟩ := List.mem_map.1 ha
      have : b = i := by simpa using hb
      rw [this]; exact dget_none h e he
    · rcases List.mem_append.1 he with he | he
      · exact H.mem e he
      · rw [List.mem_singleton.1 he]; exact ⟨hi, hs⟩
  | some t =>
    refine ⟨?_, fun e he => ?_, fun e he => ?_⟩
    rotate_left 2
    · obtain ⟨e', he', rfl⟩ := List.mem_map.1 he
      by_cases h2 : e'.1 = i
      · rw [if_pos h2]; exact h1
      · rw [if_neg h2]; exact H.pos e' he'
    · show ((L.map _).map _).Nodup
      rw [List.map_map]
      have : (L.map ((fun x : Ch => x.1) ∘ fun e => if e.1 = i then (i, s) else e)) = L.map (·.1) := List.map_congr_left fun e _ => by
        simp only [Function.comp]
        by_cases he : e.1 = i
        · rw [if_pos he, he]
        · rw [if_neg he]
      rw [this]; exact H.nd
    · obtain ⟨e', he', rfl⟩ := List.mem_map.1 he
      by_cases h2 : e'.1 = i
      · rw [if_pos h2]; exact ⟨hi, hs⟩
      · rw [if_neg h2]; exact H.mem e' he'
theorem DOk.del {n : Nat} {L : List Ch} (H : DOk n L) (i : Nat) : DOk n (ddel L i) :=
  ⟨H.nd.sublist (List.filter_sublist.map _), (fun e he => H.mem e (List.mem_filter.1 he).1), fun e he => H.pos e (List.mem_filter.1 he).1⟩
theorem nodup_below : ∀ (n : Nat) (l : List Nat), l.Nodup → (∀ x ∈ l, x < n) → l.length ≤ n
  | 0, l, _, h => by
    cases l with
    | nil => exact Nat.le_refl _
    | cons x l => exact absurd (h x List.mem_cons_self) (Nat.not_lt_zero _)
  | n + 1, l, hn, h => by
    by_cases hm : n ∈ l
    · have h1 := nodup_below n (l.erase n) (hn.erase n) fun x hx => by
        have h2 := h x (List.mem_of_mem_erase hx)
        have h3 : x ≠ n := fun e => by rw [e] at hx; exact (List.Nodup.not_mem_erase hn) hx
        omega
      rw [List.length_erase_of_mem hm] at h1
      omega
    · have := nodup_below n l hn fun x hx => by
        have h2 := h x hx
        have h3 : x ≠ n := fun e => hm (e ▸ hx)
        omega
      omega
theorem DOk.len {n : Nat} {L : List Ch} (H : DOk n L) : L.length ≤ n := by
  have := nodup_below n (L.map (·.1)) H.nd fun x hx => by
    obtain ⟨e, he, rfl⟩ := List.mem_map.1 hx
    exact (H.mem e he).1
  rw [List.length_map] at this; exact this
end Go.Proofs.YthbogjbcecmopaaDoor
namespace Go.Proofs.YthbogjbcecmopaaDoor
open Go.Gx
set_option maxRecDepth 100000
set_option linter.unusedVariables false

structure Hd where
  s : Nat
  r : Nat → Nat
  u : Nat → Bool
def Hd.c (H : Hd) : List Value := headC H.s H.r H.u
theorem Hd.len (H : Hd) : H.c.length = 133 := headC_len _ _ _
theorem Hd.plain (H : Hd) : plainP H.c := headC_plain _ _ _
structure Pt where
  h : Hd
  m : Nat
  d : List Ch
def ptC (q : Pt) : List Value := q.h.c ++ [.map (some q.m)]
structure Pg where
  good : Hd
  now : Hd
  d : List Ch
  pts : List (Hd × List Ch)
def pgC (jb : Nat) (g n : Hd) (mb : Nat) (pa : Option Addr) (pl pc : Nat) : List Value := [.pointer (some ⟨jb, 0, none⟩)] ++ (g.c ++ (n.c ++ [.map (some mb), .slice pa pl pc]))
section
variable {jb mb pl pc : Nat} {g n : Hd} {pa : Option Addr}
theorem pgC_len : (pgC jb g n mb pa pl pc).length = 269 := by
  unfold pgC
  rw [List.length_append, List.length_append, List.length_append, Hd.len, Hd.len]; rfl
theorem pgC_0 : (pgC jb g n mb pa pl pc)[0]? = some (.pointer (some ⟨jb, 0, none⟩)) := rfl
theorem pgC_now {i : Nat} (hi : i < 133) : (pgC jb g n mb pa pl pc)[134 + i]? = n.c[i]? := by
  unfold pgC
  rw [List.getElem?_append_right (by show 1 ≤ 134 + i; omega), show 134 + i - [Value.pointer (some ⟨jb, 0, none⟩)].length = 133 + i by show 134 + i - 1 = 133 + i; omega, List.getElem?_append_right (by rw [Hd.len]; omega), Hd.len,
    show 133 + i - 133 = i by omega, List.getElem?_append_left (by rw [Hd.len]; exact hi)]
theorem pgC_map : (pgC jb g n mb pa pl pc)[267]? = some (.map (some mb)) := by
  unfold pgC
  rw [List.getElem?_append_right (by show 1 ≤ 267; decide), show 267 - [Value.pointer (some ⟨jb, 0, none⟩)].length = 266 from rfl, List.getElem?_append_right (by rw [Hd.len]; decide), Hd.len, List.getElem?_append_right (by rw [Hd.len]; decide), Hd.len]; rfl
theorem pgC_used {i : Nat} (hi : i < 128) : (pgC jb g n mb pa pl pc)[134 + 5 + i]? = some (.bool (n.u i)) := by
  rw [Nat.add_assoc, pgC_now (by omega)]; exact headC_used _ _ _ hi
theorem pgC_root {k : Nat} (hk : k < 4) : (pgC jb g n mb pa pl pc)[134 + 1 + k]? = some (.int .i64 (n.r k : Nat)) := by
  rw [Nat.add_assoc, pgC_now (by omega)]; exact headC_root _ _ _ hk
theorem pgC_set134 (L : List Value) (hL : L.length = 133) (o : Nat) (vs : List Value) (ho : o + vs.length ≤ 133) (h' : setL n.c o vs = L) : setL (pgC jb g n mb pa pl pc) (134 + o) vs = [.pointer (some ⟨jb, 0, none⟩)] ++ (g.c ++ (L ++ [.map (some mb), .slice pa pl pc])) := by
  unfold pgC
  rw [show 134 + o = [Value.pointer (some ⟨jb, 0, none⟩)].length + (133 + o) by show _ = 1 + (133 + o); omega, setL_right, show 133 + o = g.c.length + o by rw [Hd.len], setL_right, setL_left _ _ _ _ (by rw [Hd.len]; exact ho), h']
theorem pgC_setU (i : Nat) (v : Bool) (hi : i < 128) : setL (pgC jb g n mb pa pl pc) (134 + 5 + i) [.bool v] = pgC jb g { n with u := upU n.u i v } mb pa pl pc := by
  rw [Nat.add_assoc]
  exact pgC_set134 _ (Hd.len _) (5 + i) _ (by show 5 + i + 1 ≤ 133; omega) (headC_setU _ _ _ _ _)
theorem pgC_setR (k v : Nat) (hk : k < 4) : setL (pgC jb g n mb pa pl pc) (134 + 1 + k) [.int .i64 (v : Nat)] = pgC jb g { n with r := upR n.r k v } mb pa pl pc := by
  rw [Nat.add_assoc]
  exact pgC_set134 _ (Hd.len _) (1 + k) _ (by show 1 + k + 1 ≤ 133; omega) (headC_setR _ _ _ _ hk)
end
theorem z120 : zeroL Tryd.prog 91 = [.pointer none] ++ (headC 0 (fun _ => 0) (fun _ => false) ++ (headC 0 (fun _ => 0) (fun _ => false) ++ [.map none, .slice none 0 0])) := by kernel_rfl
theorem pg_setA {p0 : Value} {A B T us : List Value} (hA : A.length = 133) (hu : us.length = 133) : setL ([p0] ++ (A ++ (B ++ T))) 1 us = [p0] ++ (us ++ (B ++ T)) := by
  rw [show (1 : Nat) = [p0].length + 0 from rfl, setL_right, setL_left _ _ _ _ (by omega), setL_all (by omega)]
theorem pg_setB {p0 : Value} {A B T us : List Value} (hA : A.length = 133) (hB : B.length = 133) (hu : us.length = 133) : setL ([p0] ++ (A ++ (B ++ T))) 134 us = [p0] ++ (A ++ (us ++ T)) := by
  rw [show (134 : Nat) = [p0].length + (133 + 0) from rfl, setL_right, show 133 + 0 = A.length + 0 by omega, setL_right, setL_left _ _ _ _ (by omega), setL_all (by omega)]
theorem pg_setT {p0 : Value} {A B T us : List Value} (hA : A.length = 133) (hB : B.length = 133) : setL ([p0] ++ (A ++ (B ++ T))) 267 us = [p0] ++ (A ++ (B ++ setL T 0 us)) := by
  rw [show (267 : Nat) = [p0].length + (266 + 0) from rfl, setL_right, show 266 + 0 = A.length + (133 + 0) by omega, setL_right, show 133 + 0 = B.length + 0 by omega, setL_right]
theorem newC (jb : Nat) (g n : Hd) (mb : Nat) : setL (setL (setL (setL (zeroL Tryd.prog 91) 0 [.pointer (some ⟨jb, 0, none⟩)]) 1 g.c) 134 n.c) 267 [.map (some mb)] = pgC jb g n mb none 0 0 := by
  have e0 : setL (zeroL Tryd.prog 91) 0 [.pointer (some ⟨jb, 0, none⟩)] = [.pointer (some ⟨jb, 0, none⟩)] ++ (headC 0 (fun _ => 0) (fun _ => false) ++ (headC 0 (fun _ => 0) (fun _ => false) ++ [.map none, .slice none 0 0])) := by
    rw [z120]; rfl
  have l0 := headC_len 0 (fun _ => 0) (fun _ => false)
  rw [e0, pg_setA l0 g.len, pg_setB g.len l0 n.len, pg_setT g.len n.len]
  rfl
def DAt (h : Hp) (b : Nat) (L : List Ch) : Prop := ∃ o, h b = some o ∧ MapObj Tryd.prog 3 o (mapD L)
theorem DAt.keep {S : Nat → Prop} {h h' : Hp} {b : Nat} {L : List Ch} (H : DAt h b L) (s : Keep S h h') (hn : ¬ S b) : DAt h' b L := by
  obtain ⟨o, h1, h2⟩ := H
  exact ⟨o, s _ _ h1 hn, h2⟩
theorem DAt.sub {h h' : Hp} {b : Nat} {L : List Ch} (H : DAt h b L) (s : Sub h h') : DAt h' b L := H.keep (S := fun _ => False) (s.keep _) fun h => h
theorem DAt.ne {h : Hp} {b c : Nat} {L : List Ch} {t : TypeId} {vs : List Value} (H : DAt h b L) (B : Blk h c t vs) : b ≠ c := by
  rintro rfl
  obtain ⟨o, h1, es, cl, rfl, _⟩ := H
  unfold Blk at B
  rw [B] at h1; cases h1
theorem DAt.ne_own {h : Hp} {b c : Nat} {L : List Ch} {a : Option Addr} {e : TypeId} {pc sz : Nat} {α : Type} {f : α → List Value} {Q : List α} (H : DAt h b L) (O : OwnR f sz h e a pc Q) (hc : blkOf a c) : b ≠ c := by
  rintro rfl
  obtain ⟨_, _, ⟨rfl, _⟩ | ⟨c', rest, rfl, hb, _⟩⟩ := O
  · obtain ⟨o, s, e⟩ := hc; cases e
  · obtain ⟨o, s, e⟩ := hc
    cases e
    exact H.ne (t := e) (vs := _) hb rfl
structure HdOk (n : Nat) (H : Hd) : Prop where
  below : ∀ i, i < 128 → H.u i = true → i < n
  roots : ∀ k, k < 4 → H.r k < 128 ∧ (H.r k ≠ 0 → H.u (H.r k) = true)
  zero : H.u 0 = true
  ser : H.s ≤ 9223372036854775807
structure POk (n : Nat) (P : Pg) : Prop where
  good : HdOk n P.good
  now : HdOk n P.now
  d : DOk n P.d
  pts : ∀ q ∈ P.pts, HdOk n q.1 ∧ DOk n q.2
  few : P.pts.length ≤ 16
structure PgEx (h : Hp) (pb jb db : Nat) (S S0 : Nat → Prop) (n : Nat) (D : Dk) (P : Pg) (mb : Nat) (pa : Option Addr) (pc : Nat) (Q : List Pt) : Prop where
  blk : Blk h pb 91 (pgC jb P.good P.now mb pa Q.length pc)
  j : JAt h jb db S0 n D
  d : DAt h mb P.d
  own : OwnR ptC 134 h 166 pa pc Q
  ds : ∀ q ∈ Q, DAt h q.m q.d
  pts : Q.map (fun q => (q.h, q.d)) = P.pts
  n1 : ¬ S0 pb
  n2 : ¬ S0 mb
  n3 : ∀ q ∈ Q, ¬ S0 q.m
  n4 : ∀ c, blkOf pa c → ¬ S0 c ∧ c ≠ pb
  n5 : (mb :: Q.map (·.m)).Nodup
  s : ∀ c, S c ↔ (c = pb ∨ c = mb ∨ S0 c ∨ blkOf pa c ∨ ∃ q ∈ Q, q.m = c)
structure PgAt (h : Hp) (pb jb db : Nat) (S : Nat → Prop) (n : Nat) (D : Dk) (P : Pg) : Prop where
  ex : ∃ S0 mb pa pc Q, PgEx h pb jb db S S0 n D P mb pa pc Q
  ok : POk n P
  up : D.down = false
variable {h : Hp} {pb jb db n : Nat} {S : Nat → Prop} {D : Dk} {P : Pg} {K : Value → Hp → Prop}
theorem PgEx.out {S' S0 : Nat → Prop} {h' : Hp} {mb : Nat} {pa : Option Addr} {pc : Nat} {Q : List Pt} (E : PgEx h pb jb db S S0 n D P mb pa pc Q) (s : Keep S' h h') (hn : ∀ c, S c → ¬ S' c) : PgEx h' pb jb db S S0 n D P mb pa pc Q :=
  ⟨E.blk.keep s (hn _ ((E.s _).2 (.inl rfl))), E.j.out s fun c hc => hn c ((E.s c).2 (.inr (.inr (.inl hc)))), E.d.keep s (hn _ ((E.s _).2 (.inr (.inl rfl)))), E.own.keep s fun c hc => hn c ((E.s c).2 (.inr (.inr (.inr (.inl hc))))),
    fun q hq => (E.ds q hq).keep s (hn _ ((E.s _).2 (.inr (.inr (.inr (.inr ⟨q, hq, rfl⟩)))))), E.pts, E.n1, E.n2, E.n3, E.n4, E.n5, E.s⟩
theorem PgEx.sub {S0 : Nat → Prop} {h' : Hp} {mb : Nat} {pa : Option Addr} {pc : Nat} {Q : List Pt} (E : PgEx h pb jb db S S0 n D P mb pa pc Q) (s : Sub h h') : PgEx h' pb jb db S S0 n D P mb pa pc Q := E.out (S' := fun _ => False) (s.keep _) fun _ _ h => h
theorem PgAt.out {S' : Nat → Prop} {h' : Hp} (E : PgAt h pb jb db S n D P) (s : Keep S' h h') (hn : ∀ c, S c → ¬ S' c) : PgAt h' pb jb db S n D P := by
  obtain ⟨S0, mb, pa, pc, Q, e⟩ := E.ex
  exact ⟨⟨S0, mb, pa, pc, Q, e.out s hn⟩, E.ok, E.up⟩
theorem PgAt.sub {h' : Hp} (E : PgAt h pb jb db S n D P) (s : Sub h h') : PgAt h' pb jb db S n D P := E.out (S' := fun _ => False) (s.keep _) fun _ _ h => h
theorem PgEx.in_heap {S0 : Nat → Prop} {mb : Nat} {pa : Option Addr} {pc : Nat} {Q : List Pt} (E : PgEx h pb jb db S S0 n D P mb pa pc Q) {c : Nat} (hc : S c) : h c ≠ none := by
  rcases (E.s c).1 hc with rfl | rfl | hc | hc | ⟨q, hq, rfl⟩
  · intro e; have := E.blk; unfold Blk at this; rw [this] at e; cases e
  · obtain ⟨o, h1, _⟩ := E.d; rw [h1]; simp
  · exact E.j.in_heap hc
  · exact Own.in_heap E.own hc
  · obtain ⟨o, h1, _⟩ := E.ds q hq; rw [h1]; simp
theorem PgAt.in_heap (E : PgAt h pb jb db S n D P) {c : Nat} (hc : S c) : h c ≠ none := by
  obtain ⟨S0, mb, pa, pc, Q, e⟩ := E.ex
  exact e.in_heap hc
theorem PgAt.n2 (E : PgAt h pb jb db S n D P) : n ≤ 128 := by
  obtain ⟨S0, mb, pa, pc, Q, e⟩ := E.ex
  exact e.j.n2
theorem pages_spec (E : PgAt h pb jb db S n D P) (hK : K (.int .i64 (n : Nat)) h) : CallsH Tryd.prog pager_Pager_Pages.id #[.pointer (some ⟨pb, 0, none⟩)] h K := by
  obtain ⟨S0, mb, pa, pc, Q, e⟩ := E.ex
  apply pager_Pager_Pages.calls
  unfold pager_Pager_Pages.W
  exact ⟨_, e.blk.cell' 0 pgC_0, jpages_spec e.j ⟨_, rfl, hK⟩⟩
theorem root_spec (E : PgAt h pb jb db S n D P) {k : Nat} (hk : k < 4) (hK : K (.int .i64 (P.now.r k : Nat)) h) : CallsH Tryd.prog pager_Pager_Root.id #[.pointer (some ⟨pb, 0, none⟩), .int .i64 (k : Nat)] h K := by
  obtain ⟨S0, mb, pa, pc, Q, e⟩ := E.ex
  apply pager_Pager_Root.calls
  unfold pager_Pager_Root.W
  refine ⟨fun x => x = h, ?_, split_dec (fun e => by omega) fun _ => split_dec (fun e => by omega) fun _ => rfl⟩
  rintro x rfl
  exact ⟨by omega, by omega, _, by rw [Int.toNat_natCast, Nat.mul_one, Nat.zero_add]; exact e.blk.cell' _ (pgC_root hk), hK⟩
def Pg.used (P : Pg) (n : Nat) (i : Int) : Bool := decide (0 ≤ i) && (decide (i < n) && P.now.u i.toNat)
theorem used_spec (E : PgAt h pb jb db S n D P) (i : Int) (hK : K (.bool (P.used n i)) h) : CallsH Tryd.prog pager_Pager_Used.id #[.pointer (some ⟨pb, 0, none⟩), .int .i64 i] h K := by
  have hn := E.n2
  apply pager_Pager_Used.calls
  unfold pager_Pager_Used.W
  unfold Pg.used at hK
  refine split_dec (fun e1 => pages_spec E ⟨_, rfl, split_dec (fun e2 => ?_) fun e2 => ?_⟩) fun e1 => ?_
  · obtain ⟨S0, mb, pa, pc, Q, e⟩ := E.ex
    obtain ⟨k, rfl⟩ : ∃ k : Nat, i = (k : Int) := ⟨i.toNat, by omega⟩
    refine ⟨by omega, by omega, P.now.u k, by rw [Int.toNat_natCast, Nat.mul_one, Nat.zero_add]; exact e.blk.cell' _ (pgC_used (by omega)), ?_⟩
    rw [decide_eq_true (show 0 ≤ (k : Int) by omega), decide_eq_true e2, Int.toNat_natCast] at hK
    exact hK
  · rw [decide_eq_false e2, Bool.false_and, Bool.and_false] at hK; exact hK
  · rw [decide_eq_false (show ¬ 0 ≤ i by omega), Bool.false_and] at hK; exact hK
def Pg.why (P : Pg) (n : Nat) (i : Int) : Int := if i < 1 ∨ i ≥ (n : Int) then 9 else if P.now.u i.toNat then 0 else 6
theorem puse_spec (E : PgAt h pb jb db S n D P) (i : Int) (hK : K (.int .i64 (P.why n i)) h) : CallsH Tryd.prog pager_Pager_use.id #[.pointer (some ⟨pb, 0, none⟩), .int .i64 i] h K := by
  have hn := E.n2
  apply pager_Pager_use.calls
  unfold pager_Pager_use.W
  unfold Pg.why at hK
  refine split_dec (fun e1 => ?_) fun e1 => pages_spec E ⟨_, rfl, split_dec (fun e2 => ?_) fun e2 => ?_⟩
  · rw [if_pos (.inl e1)] at hK; exact hK
  · rw [if_pos (.inr e2)] at hK; exact hK
  · rw [if_neg (by omega)] at hK
    obtain ⟨S0, mb, pa, pc, Q, e⟩ := E.ex
    obtain ⟨k, rfl⟩ : ∃ k : Nat, i = (k : Int) := ⟨i.toNat, by omega⟩
    rw [Int.toNat_natCast] at hK
    refine ⟨by omega, by omega, P.now.u k, by rw [Int.toNat_natCast, Nat.mul_one, Nat.zero_add]; exact e.blk.cell' _ (pgC_used (by omega)), split_not (fun eu => ?_) fun eu => ?_⟩
    · rw [eu] at hK; exact hK
    · rw [eu] at hK; exact hK
theorem why_ok {i : Int} (h : P.why n i = 0) : ∃ k : Nat, i = (k : Int) ∧ 1 ≤ k ∧ k < n ∧ P.now.u k = true := by
  unfold Pg.why at h
  by_cases e : i < 1 ∨ i ≥ (n : Int)
  · rw [if_pos e] at h; cases h
  · rw [if_neg e] at h
    cases eu : P.now.u i.toNat with
    | false => rw [eu] at h; cases h
    | true => exact ⟨i.toNat, by omega, by omega, by omega, eu⟩
def Pg.page (P : Pg) (D : Dk) (n i : Nat) : ByteArray := (dget P.d i).getD (D.own n i)
theorem pgread_bad (E : PgAt h pb jb db S n D P) (i : Int) (hw : P.why n i ≠ 0) (hK : K (.tuple #[.string (bytesL []), .int .i64 (P.why n i)]) h) : CallsH Tryd.prog pager_Pager_Read.id #[.pointer (some ⟨pb, 0, none⟩), .int .i64 i] h K := by
  apply pager_Pager_Read.calls
  unfold pager_Pager_Read.W
  exact puse_spec E i ⟨_, rfl, split_ne (fun _ => hK) fun e => absurd e hw⟩
theorem pgread_spec (E : PgAt h pb jb db S n D P) {i : Nat} (hw : P.why n (i : Nat) = 0) (hK : ∀ h', Sub h h' → K (.tuple #[.string (P.page D n i), .int .i64 0]) h') : CallsH Tryd.prog pager_Pager_Read.id #[.pointer (some ⟨pb, 0, none⟩), .int .i64 (i : Nat)] h K := by
  apply pager_Pager_Read.calls
  unfold pager_Pager_Read.W
  refine puse_spec E i ⟨_, rfl, split_ne (fun e => absurd hw e) fun _ => ?_⟩
  obtain ⟨S0, mb, pa, pc, Q, e⟩ := E.ex
  obtain ⟨o, ho, hm⟩ := e.d
  obtain ⟨k, ek, h1, h2, h3⟩ := why_ok hw
  have : i = k := by omega
  subst this
  unfold Pg.page at hK
  have hg := mapD_get P.d i
  refine ⟨_, by rw [Nat.zero_add]; exact e.blk.cell' _ pgC_map, mb, o, _, rfl, ho, hm, ?_⟩
  cases hd : dget P.d i with
  | some s =>
    rw [hd] at hg hK
    exact ⟨s, true, .inl ⟨rfl, hg⟩, hK h (Sub.refl h)⟩
  | none =>
    rw [hd] at hg hK
    exact ⟨bytesL [], false, .inr ⟨rfl, hg, rfl⟩, _, e.blk.cell' 0 pgC_0, jread_spec e.j h2 E.up fun h' s => ⟨_, _, rfl, hK h' s⟩⟩
theorem callsK {P : Program} {f : FuncId} {args : Array Value} {h : Hp} {K : Value → Hp → Prop} (X : ∀ K' : Value → Hp → Prop, (∀ v h, K v h → K' v h) → CallsH P f args h K') : CallsH P f args h K := X K fun _ _ x => x
def zeroHd : Hd := ⟨0, fun _ => 0, fun i => i == 0⟩
def headOf (b : ByteArray) : Hd := ⟨dser b 8, droot b, dbit b⟩
theorem page_size {S0 : Nat → Prop} (J : JAt h jb db S0 n D) {i : Nat} (hi : i < n) : (D.own n i).size = 1024 := by
  obtain ⟨S1, h1, h2, h3, h4⟩ := J.ex
  have := J.len
  unfold Dk.own Dk.page
  rw [← size_len]
  exact look_len h2 4 (by omega)
theorem zeroOk {n : Nat} (h1 : 1 ≤ n) : HdOk n zeroHd :=
  ⟨fun i _ h => by have : i = 0 := by simpa [zeroHd] using h
                   omega, fun k _ => ⟨by show 0 < 128; decide, fun h => absurd rfl h⟩, rfl, by show 0 ≤ _; decide⟩
theorem headOk {b : ByteArray} {n : Nat} (H : OkHead b n) : HdOk n (headOf b) := ⟨H.below, H.roots, H.zero, H.ser⟩
theorem popen_spec {S0 : Nat → Prop} (J : JAt h jb db S0 n D) (hd : D.down = false) (hn : 2 ≤ n)
    (hB : D.own n 0 ≠ zeroB 1024 → ¬ OkHead (D.own n 0) n → ∀ h', Sub h h' → K (.tuple #[.pointer none, .int .i64 4]) h')
    (hG : ∀ H : Hd, (D.own n 0 = zeroB 1024 ∧ H = zeroHd) ∨ (D.own n 0 ≠ zeroB 1024 ∧ OkHead (D.own n 0) n ∧ H = headOf (D.own n 0)) → ∀ h' pb S, h pb = none → Step S0 h S h' → PgAt h' pb jb db S n D ⟨H, H, [], []⟩ → K (.tuple #[.pointer (some ⟨pb, 0, none⟩), .int .i64 0]) h') :
    CallsH Tryd.prog pager_Open.id #[.pointer (some ⟨jb, 0, none⟩)] h K := by
  have hn2 := J.n2
  apply pager_Open.calls
  unfold pager_Open.W
  refine jpages_spec J ⟨_, rfl, split_dec (fun e => by have e : (n : Int) < 2 := e; omega) fun _ => ?_⟩
  refine jread_spec (i := 0) J (by omega) hd fun h5 s5 => ⟨_, _, rfl, split_ne (fun e => absurd rfl e) fun _ => ?_⟩
  have J5 := J.sub s5
  refine jpages_spec J5 ⟨_, rfl, callsK fun K' hK' => ?_⟩
  have hsz := page_size J5 (i := 0) (by omega)
  have good : ∀ H : Hd, HdOk n H → (D.own n 0 = zeroB 1024 ∧ H = zeroHd) ∨ (D.own n 0 ≠ zeroB 1024 ∧ OkHead (D.own n 0) n ∧ H = headOf (D.own n 0)) → ∀ h12, Sub h5 h12 → K' (.tuple #[.agg H.c.toArray, .bool true]) h12 := fun H ok hH h12 s12 => hK' _ _ ⟨H.c, H.len, true, rfl, fun k15 hk15 => by
    have B := Blk.new h12 k15 87 (headC 0 (fun _ => 0) fun _ => false)
    rw [← z114] at B
    have s15 : Sub h12 ((h12.upd k15 (.cells (zeroL Tryd.prog 87).toArray 87 (0, 0)))) := Sub.upd hk15 _
    have l0 : (zeroL Tryd.prog 87).length = 133 := by rw [z114]; exact headC_len _ _ _
    have B2 := B.put 0 H.c
    rw [setL_all (by rw [H.len, l0])] at B2
    have s16 : Sub h ((h12.upd k15 (.cells (zeroL Tryd.prog 87).toArray 87 (0, 0))).put k15 0 H.c) := (Keep.put (fun c => c = k15) _ _ _ rfl).sub (s5.trans (s12.trans s15)) fun c e => by rw [e]; exact s5.none (s12.none hk15)
    refine ⟨H.len, H.plain, B.store (by rw [H.len, l0]; decide), split_not (fun e => by cases e) fun _ => ⟨H.c, H.len, B2.cellsAt fun i hi => by rw [Nat.zero_add], H.c, H.len, B2.cellsAt fun i hi => by rw [Nat.zero_add], ?_⟩⟩
    intro k18 hk18 o19 m19
    refine ⟨rfl, H.len, H.len, rfl, fun k20 hk20 => ?_⟩
    generalize (h12.upd k15 (.cells (zeroL Tryd.prog 87).toArray 87 (0, 0))).put k15 0 H.c = x at s16 hk18 hk20 ⊢
    have hne : k20 ≠ k18 := fun e => by rw [e, Hp.upd_same] at hk20; cases hk20
    have hk20x : x k20 = none := by rw [Hp.upd_ne _ _ hne] at hk20; exact hk20
    have J2 := J.sub s16
    have s18 : Sub x (x.upd k18 o19) := Sub.upd hk18 _
    have s20 : Sub (x.upd k18 o19) ((x.upd k18 o19).upd k20 (.cells (setL (setL (setL (setL (zeroL Tryd.prog 91) 0 [.pointer (some ⟨jb, 0, none⟩)]) 1 H.c) 134 H.c) 267 [.map (some k18)]).toArray 91 (0, 0))) := Sub.upd hk20 _
    have hs : Sub h ((x.upd k18 o19).upd k20 (.cells (setL (setL (setL (setL (zeroL Tryd.prog 91) 0 [.pointer (some ⟨jb, 0, none⟩)]) 1 H.c) 134 H.c) 267 [.map (some k18)]).toArray 91 (0, 0))) := s16.trans (s18.trans s20)
    refine hG H hH _ k20 (fun c => c = k20 ∨ c = k18 ∨ S0 c) (s16.none hk20x) ⟨hs.keep _, ?_⟩ ⟨⟨S0, k18, none, 0, [], ?_⟩, ⟨ok, ok, DOk.nil n, (fun q hq => by cases hq), Nat.zero_le _⟩, hd⟩
    · rintro c (rfl | rfl | hc)
      · exact .inr (s16.none hk20x)
      · exact .inr (s16.none hk18)
      · exact .inl hc
    · refine ⟨?_, J.sub hs, ⟨o19, s20 _ _ (Hp.upd_same _ _ _), m19⟩, OwnR.nil _ _, (fun q hq => by cases hq), rfl, fun hc => J2.in_heap hc hk20x, fun hc => J2.in_heap hc hk18, (fun q hq => by cases hq), (fun c hc => by obtain ⟨o, s, e⟩ := hc; cases e), by simp, fun c => ⟨?_, ?_⟩⟩
      · have := Blk.new (x.upd k18 o19) k20 91 (setL (setL (setL (setL (zeroL Tryd.prog 91) 0 [.pointer (some ⟨jb, 0, none⟩)]) 1 H.c) 134 H.c) 267 [.map (some k18)])
        rw [newC] at this ⊢
        exact this
      · rintro (h' | h' | h')
        · exact .inl h'
        · exact .inr (.inl h')
        · exact .inr (.inr (.inl h'))
      · rintro (h' | h' | h' | ⟨o, s, e⟩ | ⟨q, hq, _⟩)
        · exact .inl h'
        · exact .inr (.inl h')
        · exact .inr (.inr h')
        · cases e
        · cases hq⟩
  refine pread_spec hsz (by omega) hn2 (fun e h12 s12 => good zeroHd (zeroOk (by omega)) (.inl ⟨e, rfl⟩) h12 s12) (fun e ok h12 s12 => good (headOf (D.own n 0)) (headOk ok) (.inr ⟨e, ok, rfl⟩) h12 s12) fun e no h12 xs hl hp s12 => ?_
  refine hK' _ _ ⟨xs, hl, false, rfl, fun k15 hk15 => ?_⟩
  have B := Blk.new h12 k15 87 (zeroL Tryd.prog 87)
  have l0 : (zeroL Tryd.prog 87).length = 133 := by rw [z114]; exact headC_len _ _ _
  refine ⟨hl, hp, B.store (by rw [hl, l0]; decide), split_not (fun _ => hB e no _ ?_) fun e => by cases e⟩
  exact (Keep.put (fun c => c = k15) _ _ _ rfl).sub (s5.trans (s12.trans (Sub.upd hk15 _))) fun c e => by rw [e]; exact s5.none (s12.none hk15)
end Go.Proofs.YthbogjbcecmopaaDoor
namespace Go.Proofs.YthbogjbcecmopaaDoor
open Go.Gx
set_option maxRecDepth 100000
set_option linter.unusedVariables false

variable {h : Hp} {pb jb db n : Nat} {S : Nat → Prop} {D : Dk} {P : Pg} {K : Value → Hp → Prop}
theorem PgEx.put {S0 : Nat → Prop} {mb : Nat} {pa : Option Addr} {pc : Nat} {Q : List Pt} (E : PgEx h pb jb db S S0 n D P mb pa pc Q) {h' : Hp} {now' : Hd} {d' : List Ch} (kp : Keep (fun c => c = pb ∨ c = mb) h h')
    (B : Blk h' pb 91 (pgC jb P.good now' mb pa Q.length pc)) (Dm : DAt h' mb d') : PgEx h' pb jb db S S0 n D { P with now := now', d := d' } mb pa pc Q ∧ Step S h S h' := by
  refine ⟨⟨B, E.j.out kp ?_, Dm, E.own.keep kp ?_, fun q hq => (E.ds q hq).keep kp ?_, E.pts, E.n1, E.n2, E.n3, E.n4, E.n5, E.s⟩, kp.mono ?_, fun c hc => .inl hc⟩
  · rintro c hc (rfl | rfl)
    · exact E.n1 hc
    · exact E.n2 hc
  · rintro c hc (rfl | rfl)
    · exact (E.n4 c hc).2 rfl
    · exact E.d.ne_own E.own hc rfl
  · rintro (e | e)
    · exact (E.ds q hq).ne E.blk e
    · have := E.n5
      rw [List.nodup_cons] at this
      exact this.1 (e ▸ List.mem_map.2 ⟨q, hq, rfl⟩)
  · rintro c (rfl | rfl)
    · exact (E.s _).2 (.inl rfl)
    · exact (E.s _).2 (.inr (.inl rfl))
def Pg.alloc (P : Pg) (i : Nat) : Pg := { P with now := { P.now with u := upU P.now.u i true }, d := dset P.d i (zeroB 1024) }
def Pg.give (P : Pg) (i : Nat) : Pg := { P with now := { P.now with u := upU P.now.u i false }, d := ddel P.d i }
theorem upU_same (u : Nat → Bool) (i : Nat) (v : Bool) : upU u i v i = v := if_pos rfl
theorem upU_ne (u : Nat → Bool) {i j : Nat} (v : Bool) (h : j ≠ i) : upU u i v j = u j := if_neg h
theorem HdOk.use {n : Nat} {H : Hd} (O : HdOk n H) {i : Nat} (hi : i < n) : HdOk n { H with u := upU H.u i true } := by
  refine ⟨fun j hj hu => ?_, fun k hk => ⟨(O.roots k hk).1, fun h0 => ?_⟩, ?_, O.ser⟩
  · by_cases e : j = i
    · omega
    · have hu : upU H.u i true j = true := hu
      rw [upU_ne _ _ e] at hu; exact O.below j hj hu
  · show upU H.u i true (H.r k) = true
    by_cases e : H.r k = i
    · rw [e, upU_same]
    · rw [upU_ne _ _ e]; exact (O.roots k hk).2 h0
  · show upU H.u i true 0 = true
    by_cases e : 0 = i
    · rw [← e, upU_same]
    · rw [upU_ne _ _ e]; exact O.zero
theorem HdOk.free {n : Nat} {H : Hd} (O : HdOk n H) {i : Nat} (hi : 1 ≤ i) (hr : ∀ k, k < 4 → H.r k ≠ i) : HdOk n { H with u := upU H.u i false } := by
  refine ⟨fun j hj hu => ?_, fun k hk => ⟨(O.roots k hk).1, fun h0 => ?_⟩, ?_, O.ser⟩
  · have hu : upU H.u i false j = true := hu
    by_cases e : j = i
    · rw [e, upU_same] at hu; cases hu
    · rw [upU_ne _ _ e] at hu; exact O.below j hj hu
  · show upU H.u i false (H.r k) = true
    rw [upU_ne _ _ (hr k hk)]; exact (O.roots k hk).2 h0
  · show upU H.u i false 0 = true
    rw [upU_ne _ _ (by omega)]; exact O.zero
theorem POk.put {P : Pg} (O : POk n P) {now' : Hd} {d' : List Ch} (h1 : HdOk n now') (h2 : DOk n d') : POk n { P with now := now', d := d' } := ⟨O.good, h1, h2, O.pts, O.few⟩
theorem alloc_spec (E : PgAt h pb jb db S n D P) (hF : (∀ j, 1 ≤ j → j < n → P.now.u j = true) → K (.tuple #[.int .i64 0, .int .i64 5]) h)
    (hG : ∀ i, 1 ≤ i → i < n → P.now.u i = false → (∀ j, 1 ≤ j → j < i → P.now.u j = true) → ∀ h', PgAt h' pb jb db S n D (P.alloc i) → Step S h S h' → K (.tuple #[.int .i64 (i : Nat), .int .i64 0]) h') :
    CallsH Tryd.prog pager_Pager_Alloc.id #[.pointer (some ⟨pb, 0, none⟩)] h K := by
  have hn := E.n2
  apply pager_Pager_Alloc.calls
  unfold pager_Pager_Alloc.W
  refine ⟨fun i x m => ∃ j : Nat, i = (j : Int) ∧ 1 ≤ j ∧ (j ≤ n ∨ j = 1) ∧ m = n + 1 - j ∧ x = h ∧ ∀ k, 1 ≤ k → k < j → P.now.u k = true, ⟨_, 1, rfl, Nat.le_refl _, .inr rfl, rfl, rfl, fun k h1 h2 => by omega⟩, ?_⟩
  rintro i x m ⟨j, rfl, hj1, hj2, rfl, rfl, hall⟩
  refine pages_spec E ⟨_, rfl, split_dec (fun g => ?_) fun g => ?_⟩
  · have g : j < n := by have : (j : Int) < (n : Int) := g; omega
    obtain ⟨S0, mb, pa, pc, Q, e⟩ := E.ex
    have idx : 0 + 134 + 5 + (j : Int).toNat * 1 = 134 + 5 + j := by rw [Int.toNat_natCast]; omega
    rw [idx]
    refine ⟨by omega, by omega, _, e.blk.cell' _ (pgC_used (by omega)), split_not (fun eu => ?_) fun eu => ⟨n + 1 - (j + 1), by omega, j + 1, by rw [wid (by omega) (by omega)]; omega, by omega, by omega, rfl, rfl, fun k h1 h2 => ?_⟩⟩
    · have B2 := e.blk.put (134 + 5 + j) [.bool true]
      rw [pgC_setU _ _ (by omega)] at B2
      have k2 : Keep (fun c => c = pb ∨ c = mb) x (x.put pb (134 + 5 + j) [.bool true]) := Keep.put _ x _ _ (.inl rfl)
      refine ⟨by omega, by omega, e.blk.store (by rw [pgC_len]; show 134 + 5 + j + 1 ≤ 269; omega), _, by rw [Nat.zero_add]; exact B2.cell' _ pgC_map, by decide, by decide, by decide, by decide, fun k11 hk11 => ?_⟩
      have s11 : Sub (x.put pb (134 + 5 + j) [.bool true]) ((x.put pb (134 + 5 + j) [.bool true]).upd k11 (.cells (repV 1024 [.int .u8 0]).toArray 5 (0, 0))) := Sub.upd hk11 _
      obtain ⟨o, ho, hm⟩ := e.d
      have hmpb : mb ≠ pb := e.d.ne e.blk
      have ho2 : (x.put pb (134 + 5 + j) [.bool true]) mb = some o := by rw [put_ne _ _ _ hmpb]; exact ho
      refine ⟨s11, zeroB 1024, zero_slice (Hp.upd_same _ _ _), s11, mb, o, mapD P.d, rfl, s11 _ _ ho2, hm, fun o' hm' => ?_⟩
      rw [mapD_set] at hm'
      have kp : Keep (fun c => c = pb ∨ c = mb) x (((x.put pb (134 + 5 + j) [.bool true]).upd k11 (.cells (repV 1024 [.int .u8 0]).toArray 5 (0, 0))).upd mb o') := (k2.trans (s11.keep _)).trans (Keep.upd o' (.inl (.inr rfl)))
      obtain ⟨e', st⟩ := e.put (now' := { P.now with u := upU P.now.u j true }) (d' := dset P.d j (zeroB 1024)) kp (by
        have := B2.sub s11
        unfold Blk at this ⊢
        rw [Hp.upd_ne _ _ (Ne.symm hmpb)]; exact this) ⟨o', Hp.upd_same _ _ _, hm'⟩
      exact hG j hj1 g eu hall _ ⟨⟨S0, mb, pa, pc, Q, e'⟩, E.ok.put (E.ok.now.use g) (E.ok.d.set hj1 g (zeroB_size _)), E.up⟩ st
    · by_cases ek : k = j
      · rw [ek]; exact eu
      · exact hall k h1 (by omega)
  · have g : ¬ j < n := by have : ¬ (j : Int) < (n : Int) := g; omega
    exact hF fun k h1 h2 => hall k h1 (by omega)
theorem contains_spec {a : Option Addr} {r : Nat → Nat} (hr : SliceAt h a 4 (rootV r)) (v : Nat) (hK : ∀ b : Bool, (b = true → ∃ k, k < 4 ∧ r k = v) → (b = false → ∀ k, k < 4 → r k ≠ v) → K (.bool b) h) :
    CallsH Tryd.prog slices_Contains_int_int_.id #[.slice a 4 4, .int .i64 (v : Nat)] h K := by
  apply slices_Contains_int_int_.calls
  unfold slices_Contains_int_int_.W
  apply slices_Index_int_int_.calls
  unfold slices_Index_int_int_.W
  refine ⟨fun i x m => ∃ j : Nat, i = (j : Int) ∧ j ≤ 4 ∧ m = 4 - j ∧ x = h ∧ ∀ k, k < j → r k ≠ v, ⟨_, 0, rfl, by decide, rfl, rfl, fun k hk => absurd hk (Nat.not_lt_zero _)⟩, ?_⟩
  rintro i x m ⟨j, rfl, hj, rfl, rfl, hall⟩
  refine split_dec (fun g => ?_) fun g => ?_
  · have g : j < 4 := by have : (j : Int) < 4 := g; omega
    obtain ⟨b, o, ea, w, hw, hc⟩ := hr.cell (i := j) g
    rw [rootV_get g] at hw
    cases hw
    refine ⟨by omega, by show (j : Int) < 4; omega, b, o, ea, _, by rw [Int.toNat_natCast, Nat.mul_one]; exact hc, split_eq (fun e => ?_) fun e => ⟨4 - (j + 1), by omega, j + 1, by rw [wid (by omega) (by omega)]; omega, by omega, rfl, rfl, fun k hk => ?_⟩⟩
    · refine ⟨_, rfl, ?_⟩
      rw [hb_eq, decide_eq_true (by omega)]
      exact hK true (fun _ => ⟨j, g, by omega⟩) fun h => by cases h
    · by_cases ek : k = j
      · rw [ek]; omega
      · exact hall k (by omega)
  · have : j = 4 := by
      have : ¬ (j : Int) < 4 := g
      omega
    subst this
    refine ⟨_, rfl, ?_⟩
    rw [hb_eq, decide_eq_false (by decide)]
    exact hK false (fun h => by cases h) fun _ => hall
theorem give_spec (E : PgAt h pb jb db S n D P) (i : Int) (hF : P.why n i ≠ 0 → K (.int .i64 (P.why n i)) h) (hR : ∀ k : Nat, i = (k : Int) → P.why n i = 0 → (∃ t, t < 4 ∧ P.now.r t = k) → K (.int .i64 8) h)
    (hG : ∀ k : Nat, i = (k : Int) → P.why n i = 0 → (∀ t, t < 4 → P.now.r t ≠ k) → ∀ h', PgAt h' pb jb db S n D (P.give k) → Step S h S h' → K (.int .i64 0) h') :
    CallsH Tryd.prog pager_Pager_Give.id #[.pointer (some ⟨pb, 0, none⟩), .int .i64 i] h K := by
  have hn := E.n2
  apply pager_Pager_Give.calls
  unfold pager_Pager_Give.W
  refine puse_spec E i ⟨_, rfl, split_ne (fun e => hF e) fun e0 => ?_⟩
  have e0 : P.why n i = 0 := e0
  obtain ⟨j, rfl, h1, h2, h3⟩ := why_ok e0
  obtain ⟨S0, mb, pa, pc, Q, e⟩ := E.ex
  refine ⟨pb, 135, rfl, ?_⟩
  have hr : SliceAt h (some ⟨pb, 135, none⟩) 4 (rootV P.now.r) := ⟨rootV_len _, .inr ⟨pb, 135, rfl, e.blk.cellsAt fun t ht => by
    rw [rootV_len] at ht
    rw [show 135 + t = 134 + 1 + t by omega, pgC_root ht, rootV_get ht]⟩⟩
  refine contains_spec (a := some ⟨pb, 135, none⟩) hr j fun b ht hf => ⟨b, rfl, split_cond (fun eb => hR j rfl e0 (ht eb)) fun eb => ?_⟩
  have idx : 0 + 134 + 5 + (j : Int).toNat * 1 = 134 + 5 + j := by rw [Int.toNat_natCast]; omega
  rw [idx]
  have B2 := e.blk.put (134 + 5 + j) [.bool false]
  rw [pgC_setU _ _ (by omega)] at B2
  obtain ⟨o, ho, hm⟩ := e.d
  have hmpb : mb ≠ pb := e.d.ne e.blk
  have ho2 : (h.put pb (134 + 5 + j) [.bool false]) mb = some o := by rw [put_ne _ _ _ hmpb]; exact ho
  refine ⟨by omega, by omega, e.blk.store (by rw [pgC_len]; show 134 + 5 + j + 1 ≤ 269; omega), _, by rw [Nat.zero_add]; exact B2.cell' _ pgC_map, mb, o, mapD P.d, rfl, ho2, hm, fun o' hm' => ?_⟩
  rw [mapD_del] at hm'
  have kp : Keep (fun c => c = pb ∨ c = mb) h ((h.put pb (134 + 5 + j) [.bool false]).upd mb o') := (Keep.put _ h _ _ (.inl rfl)).trans (Keep.upd o' (.inl (.inr rfl)))
  obtain ⟨e', st⟩ := e.put (now' := { P.now with u := upU P.now.u j false }) (d' := ddel P.d j) kp (by
    unfold Blk at B2 ⊢
    rw [Hp.upd_ne _ _ (Ne.symm hmpb)]; exact B2) ⟨o', Hp.upd_same _ _ _, hm'⟩
  exact hG j rfl e0 (hf eb) _ ⟨⟨S0, mb, pa, pc, Q, e'⟩, E.ok.put (E.ok.now.free h1 (hf eb)) (E.ok.d.del j), E.up⟩ st
theorem new_own (m n i : Nat) (h : 1 + 4 * (n + i) + 4 ≤ m) : (Dk.new m).own n i = zeroB 1024 := by
  unfold Dk.own
  rw [page_L rfl]
  unfold pageL secs
  have g : ∀ k, k < 4 → (Dk.new m).l.getD (1 + 4 * (n + i) + k) (bytesL []) = zeroB 256 := fun k hk => getD_of (by
    show (List.replicate m (zeroB 256))[1 + 4 * (n + i) + k]? = _
    rw [List.getElem?_replicate, if_pos (by omega)])
  have g0 := g 0 (by decide)
  rw [Nat.add_zero] at g0
  rw [g0, g 1 (by decide), g 2 (by decide), g 3 (by decide)]
  rfl
theorem new_read (m : Nat) (h : 1 ≤ m) : (Dk.new m).read 0 = zeroB 256 := by
  unfold Dk.read
  exact getD_of (by show (List.replicate m (zeroB 256))[0]? = _; rw [List.getElem?_replicate, if_pos (by omega)])
def newPg : Pg := ⟨zeroHd, zeroHd, [], []⟩
theorem why_i {P : Pg} {n i : Nat} (h1 : 1 ≤ i) (h2 : i < n) (hu : P.now.u i = true) : P.why n (i : Nat) = 0 := by
  unfold Pg.why
  rw [if_neg (by omega), Int.toNat_natCast, if_pos hu]
end Go.Proofs.YthbogjbcecmopaaDoor
namespace Go.Proofs.YthbogjbcecmopaaDoor
open Go.Gx Go.Proofs Go.RowKit Go.Maps Go.Sort Go.Shelf
set_option maxRecDepth 100000
set_option linter.unusedVariables false

def keyC (i : Nat) : List Value := [.int .i64 (i : Nat)]
theorem keyC_len (i : Nat) : (keyC i).length = 1 := rfl
theorem keyC_plain (i : Nat) : plainP (keyC i) := plainP_of rfl
end Go.Proofs.YthbogjbcecmopaaDoor
namespace Go.Proofs.YthbogjbcecmopaaDoor
open Go.Gx
set_option maxRecDepth 100000
set_option linter.unusedVariables false

end Go.Proofs.YthbogjbcecmopaaDoor
namespace Go.Proofs.YthbogjbcecmopaaDoor
open Go.Gx
set_option maxRecDepth 100000
set_option linter.unusedVariables false

variable {h : Hp} {pb jb db n : Nat} {S : Nat → Prop} {D : Dk} {P : Pg} {K : Value → Hp → Prop}
def Pg.write (P : Pg) (i : Nat) (s : ByteArray) : Pg := { P with d := dset P.d i s }
def Pg.point (P : Pg) (k i : Nat) : Pg := { P with now := { P.now with r := upR P.now.r k i } }
def Pg.back (P : Pg) (k : Nat) (q : Hd × List Ch) : Pg := { P with now := q.1, d := q.2, pts := P.pts.take k }
def Pg.freeN (P : Pg) (j : Nat) : Nat := ((List.range j).filter fun i => !P.now.u i).length
theorem freeN_step (P : Pg) (j : Nat) : P.freeN (j + 1) = P.freeN j + (if P.now.u j then 0 else 1) := by
  unfold Pg.freeN
  rw [List.range_succ, List.filter_append, List.length_append]
  cases h : P.now.u j
  · rw [List.filter_cons_of_pos (by rw [h]; rfl)]; rfl
  · rw [List.filter_cons_of_neg (by rw [h]; simp)]; rfl
theorem freeN_le (P : Pg) (j : Nat) : P.freeN j ≤ j := by
  unfold Pg.freeN
  exact Nat.le_trans (List.length_filter_le _ _) (by rw [List.length_range]; exact Nat.le_refl _)
theorem free_spec (E : PgAt h pb jb db S n D P) (hK : K (.int .i64 (P.freeN n : Nat)) h) : CallsH Tryd.prog pager_Pager_Free.id #[.pointer (some ⟨pb, 0, none⟩)] h K := by
  have hn := E.n2
  apply pager_Pager_Free.calls
  unfold pager_Pager_Free.W
  refine pages_spec E ⟨_, rfl, fun c i x m => ∃ j : Nat, i = (j : Int) ∧ j ≤ n ∧ m = n - j ∧ x = h ∧ c = (P.freeN j : Nat), ⟨_, 0, rfl, Nat.zero_le _, rfl, rfl, rfl⟩, ?_⟩
  rintro c i x m ⟨j, rfl, hj, rfl, rfl, rfl⟩
  have hle := freeN_le P j
  refine split_dec (fun g => ?_) fun g => ?_
  · have g : j < n := by have : (j : Int) < (n : Int) := g; omega
    have idx : 0 + 134 + 5 + (j : Int).toNat * 1 = 134 + 5 + j := by rw [Int.toNat_natCast]; omega
    obtain ⟨S0, mb, pa, pc, Q, e⟩ := E.ex
    have hs := freeN_step P j
    refine ⟨by omega, by omega, _, by rw [idx]; exact e.blk.cell' _ (pgC_used (by omega)), split_not (fun eu => ⟨n - (j + 1), by omega, j + 1, ?_, by omega, rfl, rfl, ?_⟩) fun eu => ⟨n - (j + 1), by omega, j + 1, ?_, by omega, rfl, rfl, ?_⟩⟩
    · rw [wid (by omega) (by omega)]; omega
    · rw [hs, eu, wid (by omega) (by omega)]
      show ((P.freeN j : Nat) : Int) + 1 = ((P.freeN j + 1 : Nat) : Int)
      omega
    · rw [wid (by omega) (by omega)]; omega
    · rw [hs, eu]; rfl
  · have : j = n := by
      have : ¬ (j : Int) < (n : Int) := g
      omega
    subst this
    exact hK
theorem pwrite_spec (E : PgAt h pb jb db S n D P) (i : Int) (s : ByteArray) (hF : P.why n i ≠ 0 → K (.int .i64 (P.why n i)) h) (hL : P.why n i = 0 → s.size ≠ 1024 → K (.int .i64 1) h)
    (hG : ∀ k : Nat, i = (k : Int) → P.why n i = 0 → s.size = 1024 → ∀ h', PgAt h' pb jb db S n D (P.write k s) → Step S h S h' → K (.int .i64 0) h') :
    CallsH Tryd.prog pager_Pager_Write.id #[.pointer (some ⟨pb, 0, none⟩), .int .i64 i, .string s] h K := by
  apply pager_Pager_Write.calls
  unfold pager_Pager_Write.W
  refine puse_spec E i ⟨_, rfl, split_ne (fun e => hF e) fun e0 => split_ne (fun e => hL e0 fun e' => e (by show (s.size : Int) = 1024; omega)) fun e => ?_⟩
  have hs : s.size = 1024 := by
    have : (s.size : Int) = 1024 := e
    omega
  obtain ⟨j, rfl, h1, h2, h3⟩ := why_ok e0
  obtain ⟨S0, mb, pa, pc, Q, e⟩ := E.ex
  obtain ⟨o, ho, hm⟩ := e.d
  have hmpb : mb ≠ pb := e.d.ne e.blk
  refine ⟨_, by rw [Nat.zero_add]; exact e.blk.cell' _ pgC_map, mb, o, mapD P.d, rfl, ho, hm, fun o' hm' => ?_⟩
  rw [mapD_set] at hm'
  obtain ⟨e', st⟩ := e.put (now' := P.now) (d' := dset P.d j s) (Keep.upd o' (.inl (.inr rfl))) (by
    have := e.blk
    unfold Blk at this ⊢
    rw [Hp.upd_ne _ _ (Ne.symm hmpb)]; exact this) ⟨o', Hp.upd_same _ _ _, hm'⟩
  exact hG j rfl e0 hs _ ⟨⟨S0, mb, pa, pc, Q, e'⟩, E.ok.put E.ok.now (E.ok.d.set h1 h2 hs), E.up⟩ st
theorem HdOk.point {n : Nat} {H : Hd} (O : HdOk n H) {k i : Nat} (hi : i < 128) (hu : i ≠ 0 → H.u i = true) : HdOk n { H with r := upR H.r k i } := by
  refine ⟨O.below, fun t ht => ?_, O.zero, O.ser⟩
  show upR H.r k i t < 128 ∧ (upR H.r k i t ≠ 0 → H.u (upR H.r k i t) = true)
  unfold upR
  by_cases e : t = k
  · rw [if_pos e]; exact ⟨hi, hu⟩
  · rw [if_neg e]; exact O.roots t ht
theorem slA_zero (m s : Nat) (a : Option Addr) : slA m 0 s a = a := by
  unfold slA
  split
  · rfl
  · cases a with
    | none => rfl
    | some a => obtain ⟨b, o, sp⟩ := a; rw [Nat.zero_mul]; rfl
end Go.Proofs.YthbogjbcecmopaaDoor
namespace Go.Proofs.YthbogjbcecmopaaDoor
open Go.Gx
set_option maxRecDepth 100000
set_option linter.unusedVariables false

variable {h : Hp} {pb jb db n : Nat} {S : Nat → Prop} {D : Dk} {P : Pg} {K : Value → Hp → Prop}
theorem appTInt : AppT Tryd.prog 3 1 8 := AppT.of (by kernel_rfl)
end Go.Proofs.YthbogjbcecmopaaDoor
namespace Go.Proofs.YthbogjbcecmopaaDoor
open Go.Gx
set_option maxRecDepth 100000
set_option linter.unusedVariables false

variable {h : Hp} {pb jb db n : Nat} {S : Nat → Prop} {D : Dk} {P : Pg} {K : Value → Hp → Prop}
def Hd.up (H : Hd) : Hd := { H with s := H.s + 1 }
def Hd.bytes (H : Hd) : ByteArray := tabB (encN H.s H.r H.u 128)
theorem HdOk.up {n : Nat} {H : Hd} (O : HdOk n H) (h : H.s < 9223372036854775807) : HdOk n H.up := ⟨O.below, O.roots, O.zero, by show H.s + 1 ≤ _; omega⟩
end Go.Proofs.YthbogjbcecmopaaDoor
namespace Go.Gx

theorem bl_irrefl : ∀ x : List UInt8, Op.bytesLess x x = false
  | [] => rfl
  | a :: x => by
    have h1 : ¬ a < a := UInt8.lt_irrefl a
    simp only [Op.bytesLess, bl_irrefl x]
    simp [h1]
theorem bl_trans : ∀ {x y z : List UInt8}, Op.bytesLess x y = true → Op.bytesLess y z = true → Op.bytesLess x z = true
  | [], [], _, h, _ => by cases h
  | _ :: _, [], _, h, _ => by cases h
  | _, _ :: _, [], _, h => by cases h
  | [], _ :: _, _ :: _, _, _ => rfl
  | a :: x, b :: y, c :: z, h1, h2 => by
    simp only [Op.bytesLess, Bool.or_eq_true, Bool.and_eq_true, decide_eq_true_eq, beq_iff_eq] at *
    rcases h1 with h1 | ⟨e1, h1⟩
    · rcases h2 with h2 | ⟨e2, h2⟩
      · exact .inl (UInt8.lt_trans h1 h2)
      · subst e2; exact .inl h1
    · subst e1
      rcases h2 with h2 | ⟨e2, h2⟩
      · exact .inl h2
      · exact .inr ⟨e2, bl_trans h1 h2⟩
theorem bl_total : ∀ {x y : List UInt8}, Op.bytesLess x y = false → Op.bytesLess y x = false → x = y
  | [], [], _, _ => rfl
  | [], _ :: _, h, _ => by cases h
  | _ :: _, [], _, h => by cases h
  | a :: x, b :: y, h1, h2 => by
    simp only [Op.bytesLess, Bool.or_eq_false_iff, Bool.and_eq_false_iff, decide_eq_false_iff_not] at *
    have e : a = b := by
      have h3 := UInt8.not_lt.1 h1.1
      have h4 := UInt8.not_lt.1 h2.1
      exact UInt8.le_antisymm h4 h3
    subst e
    have h3 := h1.2
    have h4 := h2.2
    simp at h3 h4
    rw [bl_total h3 h4]
def blt (s t : ByteArray) : Bool := Op.bytesLess s.data.toList t.data.toList
theorem bltS_val (s t : ByteArray) : bltS s t = blt s t := by unfold bltS blt; rw [hb_eq, toList_eq_data, toList_eq_data]
theorem blt_irrefl (s : ByteArray) : blt s s = false := bl_irrefl _
theorem blt_trans {s t u : ByteArray} (h1 : blt s t = true) (h2 : blt t u = true) : blt s u = true := bl_trans h1 h2
theorem blt_total {s t : ByteArray} (h1 : blt s t = false) (h2 : blt t s = false) : s = t := bytes_ext (bl_total h1 h2)
theorem blt_ne {s t : ByteArray} (h : blt s t = true) : s ≠ t := fun e => by rw [e, blt_irrefl] at h; cases h
theorem blt_asymm {s t : ByteArray} (h : blt s t = true) : blt t s = false := by
  cases e : blt t s with
  | false => rfl
  | true => have := blt_trans h e; rw [blt_irrefl] at this; cases this

abbrev KV := ByteArray × ByteArray
def kvCells (L : List KV) : List Value := L.flatMap fun p => [.string p.1, .string p.2]
theorem kvCells_cons (p : KV) (L : List KV) : kvCells (p :: L) = .string p.1 :: .string p.2 :: kvCells L := rfl
theorem kvCells_append (L M : List KV) : kvCells (L ++ M) = kvCells L ++ kvCells M := List.flatMap_append
theorem kvCells_length : ∀ L : List KV, (kvCells L).length = L.length * 2
  | [] => rfl
  | p :: L => by rw [kvCells_cons, List.length_cons, List.length_cons, kvCells_length L, List.length_cons]; omega
theorem kvCells_plain (L : List KV) : plainP (kvCells L) := fun v hv => by
  unfold kvCells at hv
  rw [List.mem_flatMap] at hv
  obtain ⟨p, _, hv⟩ := hv
  simp at hv
  rcases hv with rfl | rfl
  · exact ⟨fun c h => (by cases h), fun c h => (by cases h)⟩
  · exact ⟨fun c h => (by cases h), fun c h => (by cases h)⟩
theorem kvCells_get : ∀ (L : List KV) (i : Nat) (p : KV), L[i]? = some p → (kvCells L)[i * 2]? = some (.string p.1) ∧ (kvCells L)[i * 2 + 1]? = some (.string p.2)
  | [], _, _, h => by simp at h
  | q :: L, 0, p, h => by
    simp at h; subst h; exact ⟨rfl, rfl⟩
  | q :: L, i + 1, p, h => by
    have := kvCells_get L i p (by simpa using h)
    rw [kvCells_cons, show (i + 1) * 2 = i * 2 + 1 + 1 by omega]
    exact ⟨by simpa using this.1, by simpa using this.2⟩
theorem kvCells_drop : ∀ (L : List KV) (i : Nat), (kvCells L).drop (i * 2) = kvCells (L.drop i)
  | L, 0 => by simp
  | [], i + 1 => by simp [kvCells]
  | q :: L, i + 1 => by rw [kvCells_cons, show (i + 1) * 2 = i * 2 + 1 + 1 by omega]; simpa using kvCells_drop L i
theorem kvCells_take : ∀ (L : List KV) (i : Nat), (kvCells L).take (i * 2) = kvCells (L.take i)
  | L, 0 => by simp [kvCells]
  | [], i + 1 => by simp [kvCells]
  | q :: L, i + 1 => by rw [kvCells_cons, show (i + 1) * 2 = i * 2 + 1 + 1 by omega, List.take_succ_cons, List.take_succ_cons, List.take_succ_cons, kvCells_cons, kvCells_take L i]
def kvAt (k : ByteArray) : List KV → Nat
  | [] => 0
  | p :: L => if blt p.1 k = true then kvAt k L + 1 else 0
def kvIs (k : ByteArray) (L : List KV) : Bool :=
  match L[kvAt k L]? with
  | some p => decide (p.1 = k)
  | none => false
theorem kvAt_le (k : ByteArray) : ∀ L : List KV, kvAt k L ≤ L.length
  | [] => Nat.le_refl _
  | p :: L => by unfold kvAt; split <;> simp [kvAt_le k L]
theorem kvAt_lt {k : ByteArray} {L : List KV} (h : kvIs k L = true) : kvAt k L < L.length := by
  unfold kvIs at h
  split at h
  · rename_i p hp; exact (List.getElem?_eq_some_iff.1 hp).1
  · cases h
theorem kvAt_before (k : ByteArray) : ∀ (L : List KV) (i : Nat) (p : KV), L[i]? = some p → i < kvAt k L → blt p.1 k = true
  | [], _, _, h, _ => by simp at h
  | q :: L, i, p, h, hi => by
    unfold kvAt at hi
    split at hi
    · rename_i hq
      cases i with
      | zero => simp at h; subst h; exact hq
      | succ i => exact kvAt_before k L i p (by simpa using h) (by omega)
    · omega
theorem kvAt_at (k : ByteArray) : ∀ (L : List KV) (p : KV), L[kvAt k L]? = some p → blt p.1 k = false
  | [], _, h => by simp at h
  | q :: L, p, h => by
    unfold kvAt at h
    split at h
    · exact kvAt_at k L p (by simpa using h)
    · rename_i hq
      simp at h; subst h; simpa using hq
def kvGet (k : ByteArray) (L : List KV) : Option ByteArray := if kvIs k L then (L[kvAt k L]?).map (·.2) else none
def kvPut (k v : ByteArray) (L : List KV) : List KV := L.take (kvAt k L) ++ (k, v) :: L.drop (if kvIs k L then kvAt k L + 1 else kvAt k L)
def kvDrop (k : ByteArray) (L : List KV) : List KV := if kvIs k L then L.take (kvAt k L) ++ L.drop (kvAt k L + 1) else L
def kvIn (from_ upto : ByteArray) (p : KV) : Bool := !blt p.1 from_ && (blt p.1 upto || decide (p.1 = upto))
def kvRange (from_ upto : ByteArray) (most : Nat) (L : List KV) : List KV := (L.filter (kvIn from_ upto)).take most
def kvSorted (L : List KV) : Prop := L.Pairwise fun p q => blt p.1 q.1 = true
theorem kvIs_split {k : ByteArray} {L : List KV} (h : kvIs k L = true) : ∃ w, L = L.take (kvAt k L) ++ (k, w) :: L.drop (kvAt k L + 1) ∧ L[kvAt k L]? = some (k, w) := by
  have hl := kvAt_lt h
  unfold kvIs at h
  rw [List.getElem?_eq_getElem hl] at h
  have hk : L[kvAt k L].1 = k := of_decide_eq_true h
  have hp : L[kvAt k L] = (k, L[kvAt k L].2) := Prod.ext hk rfl
  refine ⟨L[kvAt k L].2, ?_, ?_⟩
  · conv => lhs; rw [← List.take_append_drop (kvAt k L) L, List.drop_eq_getElem_cons hl]
    rw [← hp]
  · rw [List.getElem?_eq_getElem hl, ← hp]
theorem kvSorted_inj {L : List KV} (hs : kvSorted L) {p q : KV} (hp : p ∈ L) (hq : q ∈ L) (h : p.1 = q.1) : p = q := by
  induction L with
  | nil => cases hp
  | cons r L ih =>
    obtain ⟨h1, h2⟩ := List.pairwise_cons.1 hs
    rcases List.mem_cons.1 hp with rfl | hp
    · rcases List.mem_cons.1 hq with rfl | hq
      · rfl
      · exact absurd h (blt_ne (h1 q hq))
    · rcases List.mem_cons.1 hq with rfl | hq
      · exact absurd h.symm (blt_ne (h1 p (by assumption)))
      · exact ih h2 hp hq
theorem kvIs_iff {L : List KV} (hs : kvSorted L) (k : ByteArray) : kvIs k L = true ↔ ∃ v, (k, v) ∈ L := by
  constructor
  · intro h
    obtain ⟨w, _, h2⟩ := kvIs_split h
    exact ⟨w, List.mem_of_getElem? h2⟩
  · rintro ⟨v, hv⟩
    induction L with
    | nil => cases hv
    | cons r L ih =>
      obtain ⟨h1, h2⟩ := List.pairwise_cons.1 hs
      rcases List.mem_cons.1 hv with rfl | hv
      · unfold kvIs kvAt
        rw [if_neg (by rw [blt_irrefl]; decide)]
        simp
      · have := ih h2 hv
        unfold kvIs kvAt
        rw [if_pos (h1 _ hv)]
        unfold kvIs at this
        simpa using this
theorem kvGet_iff {L : List KV} (hs : kvSorted L) (k v : ByteArray) : kvGet k L = some v ↔ (k, v) ∈ L := by
  unfold kvGet
  constructor
  · intro h
    split at h
    · rename_i hk
      obtain ⟨w, _, h2⟩ := kvIs_split hk
      rw [h2] at h
      simp at h; subst h
      exact List.mem_of_getElem? h2
    · cases h
  · intro h
    have hk := (kvIs_iff hs k).2 ⟨v, h⟩
    obtain ⟨w, _, h2⟩ := kvIs_split hk
    rw [if_pos hk, h2]
    have := kvSorted_inj hs h (List.mem_of_getElem? h2) rfl
    simp at this
    simp [this]
theorem kvAt_after {L : List KV} (hs : kvSorted L) (k : ByteArray) {p : KV} (hp : p ∈ L.drop (if kvIs k L then kvAt k L + 1 else kvAt k L)) : blt k p.1 = true := by
  have key : ∀ {i : Nat} {q : KV}, L[i]? = some q → kvAt k L < i → blt k q.1 = true := by
    intro i q hq hi
    have hl : kvAt k L < L.length := by have := (List.getElem?_eq_some_iff.1 hq).1; omega
    have h0 := kvAt_at k L _ (List.getElem?_eq_getElem hl)
    have h1 : blt L[kvAt k L].1 q.1 = true := by
      obtain ⟨h2, h3⟩ := List.getElem?_eq_some_iff.1 hq
      rw [← h3]
      exact List.pairwise_iff_getElem.1 hs _ _ hl h2 hi
    cases e : blt k L[kvAt k L].1 with
    | true => exact blt_trans e h1
    | false => rw [blt_total e h0]; exact h1
  obtain ⟨j, hj⟩ := List.mem_iff_getElem?.1 hp
  rw [List.getElem?_drop] at hj
  split at hj
  · exact key hj (by omega)
  · rename_i hk
    by_cases e : j = 0
    · subst e
      rw [Nat.add_zero] at hj
      have h0 := kvAt_at k L _ hj
      cases e2 : blt k p.1 with
      | true => rfl
      | false =>
        exfalso; apply hk
        unfold kvIs; rw [hj]
        exact decide_eq_true (blt_total e2 h0).symm
    · exact key hj (by omega)
theorem kvPut_sorted {L : List KV} (hs : kvSorted L) (k v : ByteArray) : kvSorted (kvPut k v L) := by
  unfold kvPut kvSorted
  rw [List.pairwise_append]
  refine ⟨List.Pairwise.sublist (List.take_sublist _ _) hs, ?_, ?_⟩
  · rw [List.pairwise_cons]
    exact ⟨fun p hp => kvAt_after hs k hp, List.Pairwise.sublist (List.drop_sublist _ _) hs⟩
  · intro p hp q hq
    have hpk : blt p.1 k = true := by
      obtain ⟨j, hj⟩ := List.mem_iff_getElem?.1 hp
      rw [List.getElem?_take] at hj
      split at hj
      · rename_i hlt; exact kvAt_before k L j p hj hlt
      · cases hj
    rcases List.mem_cons.1 hq with rfl | hq
    · exact hpk
    · exact blt_trans hpk (kvAt_after hs k hq)
theorem kvDrop_sorted {L : List KV} (hs : kvSorted L) (k : ByteArray) : kvSorted (kvDrop k L) := by
  unfold kvDrop
  split
  · rename_i hk
    obtain ⟨w, h1, _⟩ := kvIs_split hk
    have : (L.take (kvAt k L) ++ L.drop (kvAt k L + 1)).Sublist L := by
      conv => rhs; rw [h1]
      exact List.Sublist.append (List.Sublist.refl _) (List.sublist_cons_self _ _)
    exact List.Pairwise.sublist this hs
  · exact hs
end Go.Gx
namespace Go.Proofs.YthbogjbcecmopaaDoor
open Go.Gx
set_option maxRecDepth 100000
set_option linter.unusedVariables false

theorem fnI {P : Program} {g : Nat} {cap args : List Value} {h : Hp} {Q : Value → Hp → Prop} (ok : funcOk P g = true) (H : CallsH P g (args ++ cap).toArray h Q) : FnH P (.func (.func g) #[] cap.toArray) args h Q := ⟨g, [], cap, rfl, ok, H⟩
variable {h : Hp} {K : Value → Hp → Prop}
structure En where
  key : ByteArray
  val : ByteArray
  kid : Nat
def En.kv (e : En) : KV := (e.key, e.val)
def enC (e : En) : List Value := [.string e.key, .string e.val, .int .i64 (e.kid : Nat)]
theorem enC_len (e : En) : (enC e).length = 3 := rfl
theorem enC_plain (e : En) : plainP (enC e) := plainP_of rfl
theorem appTEn : AppT Tryd.prog 77 3 40 := AppT.of (by kernel_rfl)
structure Nd where
  leaf : Bool
  first : Nat
  l : List En
def Nd.kind (n : Nd) : Nat := if n.leaf then 1 else 2
def Nd.kv (n : Nd) : List KV := n.l.map En.kv
def Nd.kids (n : Nd) : List Nat := n.first :: n.l.map En.kid
def ndC (nd : Nd) (a : Option Addr) (c : Nat) : List Value := [.int .i64 (nd.kind : Nat), .int .i64 (nd.first : Nat), .slice a nd.l.length c]
structure NdEx (h : Hp) (k : Nat) (a : Option Addr) (c : Nat) (nd : Nd) : Prop where
  blk : Blk h k 69 (ndC nd a c)
  row : RowAt enC 3 h a nd.l
  le : nd.l.length ≤ c
  ne : ∀ b, blkOf a b → b ≠ k
theorem NdEx.sub {h' : Hp} {k : Nat} {a : Option Addr} {c : Nat} {nd : Nd} (N : NdEx h k a c nd) (s : Sub h h') : NdEx h' k a c nd := ⟨N.blk.sub s, N.row.sub s, N.le, N.ne⟩
theorem NdEx.out {S' : Nat → Prop} {h' : Hp} {k : Nat} {a : Option Addr} {c : Nat} {nd : Nd} (N : NdEx h k a c nd) (s : Keep S' h h') (h1 : ¬ S' k) (h2 : ∀ b, blkOf a b → ¬ S' b) : NdEx h' k a c nd := ⟨N.blk.keep s h1, N.row.keep s h2, N.le, N.ne⟩
structure NdOw (h : Hp) (k : Nat) (a : Option Addr) (c : Nat) (nd : Nd) : Prop where
  ex : NdEx h k a c nd
  own : OwnR enC 3 h 77 a c nd.l
theorem NdOw.mk' {k : Nat} {a : Option Addr} {c : Nat} {nd : Nd} (B : Blk h k 69 (ndC nd a c)) (O : OwnR enC 3 h 77 a c nd.l) (ne : ∀ b, blkOf a b → b ≠ k) : NdOw h k a c nd := ⟨⟨B, O.row, O.le, ne⟩, O⟩
theorem NdOw.sub {h' : Hp} {k : Nat} {a : Option Addr} {c : Nat} {nd : Nd} (N : NdOw h k a c nd) (s : Sub h h') : NdOw h' k a c nd := ⟨N.ex.sub s, N.own.sub s⟩
theorem NdOw.out {S' : Nat → Prop} {h' : Hp} {k : Nat} {a : Option Addr} {c : Nat} {nd : Nd} (N : NdOw h k a c nd) (s : Keep S' h h') (h1 : ¬ S' k) (h2 : ∀ b, blkOf a b → ¬ S' b) : NdOw h' k a c nd := ⟨N.ex.out s h1 h2, N.own.keep s h2⟩
structure NdNew (h h' : Hp) (k : Nat) (nd : Nd) : Prop where
  sub : Sub h h'
  k0 : h k = none
  ow : ∃ a c, NdOw h' k a c nd ∧ ∀ b, blkOf a b → h b = none
theorem NdNew.ex {h h' : Hp} {k : Nat} {nd : Nd} (N : NdNew h h' k nd) : ∃ a c, NdEx h' k a c nd ∧ ∀ b, blkOf a b → h b = none := by
  obtain ⟨a, c, e, f⟩ := N.ow
  exact ⟨a, c, e.ex, f⟩
theorem NdNew.mono {h1 h' h2 : Hp} {k : Nat} {nd : Nd} (N : NdNew h1 h' k nd) (s : Sub h h1) (s2 : Sub h' h2) : NdNew h h2 k nd := by
  obtain ⟨a, c, e, f⟩ := N.ow
  exact ⟨s.trans (N.sub.trans s2), s.none N.k0, a, c, e.sub s2, fun b hb => s.none (f b hb)⟩
section
variable {k : Nat} {a : Option Addr} {c : Nat} {nd : Nd} (N : NdEx h k a c nd)
include N
theorem NdEx.c0 : h.cell k 0 = some (.int .i64 (nd.kind : Nat)) := N.blk.cell' 0 rfl
theorem NdEx.c1 : h.cell k 1 = some (.int .i64 (nd.first : Nat)) := N.blk.cell' 1 rfl
theorem NdEx.c2 : h.cell k 2 = some (.slice a nd.l.length c) := N.blk.cell' 2 rfl
theorem NdEx.get {i : Nat} {e : En} (he : nd.l[i]? = some e) : ∃ b o, a = some ⟨b, o, none⟩ ∧ h.cell b (o + i * 3) = some (.string e.key) ∧ h.cell b (o + i * 3 + 1) = some (.string e.val) ∧ h.cell b (o + i * 3 + 2) = some (.int .i64 (e.kid : Nat)) := by
  obtain ⟨b, o, ea, hc⟩ := RowAt.get enC_len (by decide) N.row he
  exact ⟨b, o, ea, hc 0 _ rfl, by have := hc 1 (.string e.val) rfl; exact this, by have := hc 2 (.int .i64 (e.kid : Nat)) rfl; exact this⟩
end
def twoN (b : ByteArray) (i : Nat) : Nat := byteN b (i + 1) + byteN b i * 2 ^ 8
theorem twoN_lt (b : ByteArray) (i : Nat) : twoN b i < 65536 := by
  have := byteN_lt b i
  have := byteN_lt b (i + 1)
  unfold twoN
  omega
theorem two_spec {b : ByteArray} {i : Nat} (hb : b.size < 2147483648) (hi : i + 1 < b.size) (hK : K (.int .i64 (twoN b i : Nat)) h) : CallsH Tryd.prog btree_two.id #[.string b, .int .i64 (i : Nat)] h K := by
  apply btree_two.calls
  unfold btree_two.W
  have e1 : IntKind.i64.wrap ((i : Int) + 1) = ((i + 1 : Nat) : Int) := by rw [wid (by omega) (by omega)]; omega
  have b0 := byteN_lt b i
  have b1 := byteN_lt b (i + 1)
  have sz : Int.ofNat b.size = (b.size : Int) := rfl
  rw [e1, sz]
  refine ⟨by omega, by omega, by decide, by omega, by omega, ?_⟩
  rw [Int.toNat_natCast, Int.toNat_natCast, byteAt_N, byteAt_N, widN (byteN b i) (by omega), widN (byteN b (i + 1)) (by omega), show ((8 : Int)) = ((8 : Nat) : Int) from rfl, shlN _ _ _ (by decide), widN (byteN b i * 2 ^ 8) (by omega), orN' _ _ _ _ (by omega) (by show _ < 2 ^ 64; omega), widN (byteN b (i + 1) + byteN b i * 2 ^ 8) (by omega)]
  exact hK
def may (k v : ByteArray) : Bool := decide (1 ≤ k.size ∧ k.size ≤ 64 ∧ v.size ≤ 400)
theorem may_spec (k v : ByteArray) (hK : K (.bool (may k v)) h) : CallsH Tryd.prog btree_may.id #[.string k, .string v] h K := by
  apply btree_may.calls
  unfold btree_may.W
  unfold may at hK
  refine split_dec (fun e1 => split_dec (fun e2 => ?_) fun e2 => ?_) fun e1 => ?_
  · have e1 : (k.size : Int) ≥ 1 := e1
    have e2 : (k.size : Int) ≤ 64 := e2
    rw [hb_eq]
    have : decide (Int.ofNat v.size ≤ 400) = decide (1 ≤ k.size ∧ k.size ≤ 64 ∧ v.size ≤ 400) := decide_eq_decide.2 ⟨fun h => by have h : (v.size : Int) ≤ 400 := h; omega, fun h => by show (v.size : Int) ≤ 400; omega⟩
    rw [this]; exact hK
  · have e2 : ¬ (k.size : Int) ≤ 64 := e2
    rw [decide_eq_false (by omega)] at hK; exact hK
  · have e1 : ¬ (k.size : Int) ≥ 1 := e1
    rw [decide_eq_false (by omega)] at hK; exact hK
theorem search_spec {n m : Nat} {f : Value} {p : Nat → Bool} (hn : n < 2147483648) (hm : m ≤ n) (h1 : ∀ i, i < m → p i = false) (h2 : ∀ i, m ≤ i → i < n → p i = true)
    (hf : ∀ i : Nat, i < n → ∀ K' : Value → Hp → Prop, K' (.bool (p i)) h → FnH Tryd.prog f [.int .i64 (i : Nat)] h K') (hK : K (.int .i64 (m : Nat)) h) : CallsH Tryd.prog sort_Search.id #[.int .i64 (n : Nat), f] h K := by
  apply sort_Search.calls
  unfold sort_Search.W
  refine ⟨fun i j x k => ∃ a b : Nat, i = (a : Int) ∧ j = (b : Int) ∧ a ≤ m ∧ m ≤ b ∧ b ≤ n ∧ k = b - a ∧ x = h, ⟨_, 0, n, rfl, rfl, by omega, hm, Nat.le_refl _, rfl, rfl⟩, ?_⟩
  rintro i j x k ⟨a, b, rfl, rfl, ha, hb, hbn, rfl, rfl⟩
  have e1 : IntKind.i64.wrap (ishr IntKind.u64 (IntKind.u64.wrap (IntKind.i64.wrap ((a : Int) + (b : Int)))) 1) = (((a + b) / 2 : Nat) : Int) := by
    rw [show (a : Int) + (b : Int) = ((a + b : Nat) : Int) by omega, widN _ (by omega), wrap64s _ (by omega), show (1 : Int) = ((1 : Nat) : Int) from rfl, shrN _ _ _ (by decide), widN _ (by omega)]
  rw [e1]
  refine split_dec (fun g => ⟨by decide, hf _ (by omega) _ ⟨_, rfl, split_not (fun e => ?_) fun e => ?_⟩⟩) fun g => ?_
  · have hlt : (a + b) / 2 < m := by
      rcases Nat.lt_or_ge ((a + b) / 2) m with h' | h'
      · exact h'
      · rw [h2 _ h' (by omega)] at e; cases e
    exact ⟨b - ((a + b) / 2 + 1), by omega, (a + b) / 2 + 1, b, by rw [wid (by omega) (by omega)]; omega, rfl, by omega, by omega, hbn, rfl, rfl⟩
  · have hle : m ≤ (a + b) / 2 := by
      rcases Nat.lt_or_ge ((a + b) / 2) m with h' | h'
      · rw [h1 _ h'] at e; cases e
      · exact h'
    exact ⟨(a + b) / 2 - a, by omega, a, (a + b) / 2, rfl, rfl, ha, hle, by omega, rfl, rfl⟩
  · have : a = m := by omega
    subst this; exact hK
def kvBe (k : ByteArray) : List KV → Nat
  | [] => 0
  | p :: L => if blt k p.1 = true then 0 else kvBe k L + 1
theorem kvBe_le (k : ByteArray) : ∀ L : List KV, kvBe k L ≤ L.length
  | [] => Nat.le_refl _
  | p :: L => by unfold kvBe; split <;> simp [kvBe_le k L]
theorem kvBe_before (k : ByteArray) : ∀ (L : List KV) (i : Nat) (p : KV), L[i]? = some p → i < kvBe k L → blt k p.1 = false
  | [], _, _, h, _ => by simp at h
  | q :: L, i, p, h, hi => by
    unfold kvBe at hi
    split at hi
    · omega
    · rename_i hq
      cases i with
      | zero => simp at h; subst h; simpa using hq
      | succ i => exact kvBe_before k L i p (by simpa using h) (by omega)
theorem kvBe_at (k : ByteArray) : ∀ (L : List KV) (p : KV), L[kvBe k L]? = some p → blt k p.1 = true
  | [], _, h => by simp at h
  | q :: L, p, h => by
    unfold kvBe at h
    split at h
    · rename_i hq
      simp at h; subst h; exact hq
    · exact kvBe_at k L p (by simpa using h)
theorem sorted_lt {L : List KV} (hs : kvSorted L) {i j : Nat} {p q : KV} (hp : L[i]? = some p) (hq : L[j]? = some q) (hij : i < j) : blt p.1 q.1 = true := by
  obtain ⟨h1, e1⟩ := List.getElem?_eq_some_iff.1 hp
  obtain ⟨h2, e2⟩ := List.getElem?_eq_some_iff.1 hq
  subst e1; subst e2
  exact (List.pairwise_iff_getElem.1 hs) i j h1 h2 hij
theorem kvAt_after {k : ByteArray} {L : List KV} (hs : kvSorted L) {i : Nat} {p : KV} (hp : L[i]? = some p) (hi : kvAt k L ≤ i) : blt p.1 k = false := by
  have hl := (List.getElem?_eq_some_iff.1 hp).1
  have hq : L[kvAt k L]? = some L[kvAt k L] := List.getElem?_eq_getElem (by omega)
  have h0 := kvAt_at k L _ hq
  rcases Nat.lt_or_ge (kvAt k L) i with h' | h'
  · have h2 := sorted_lt hs hq hp h'
    cases e : blt p.1 k with
    | false => rfl
    | true => rw [blt_trans h2 e] at h0; cases h0
  · have : i = kvAt k L := by omega
    subst this
    rw [hq] at hp
    rw [Option.some.inj hp] at h0; exact h0
theorem kvBe_after {k : ByteArray} {L : List KV} (hs : kvSorted L) {i : Nat} {p : KV} (hp : L[i]? = some p) (hi : kvBe k L ≤ i) : blt k p.1 = true := by
  have hl := (List.getElem?_eq_some_iff.1 hp).1
  have hq : L[kvBe k L]? = some L[kvBe k L] := List.getElem?_eq_getElem (by omega)
  have h0 := kvBe_at k L _ hq
  rcases Nat.lt_or_ge (kvBe k L) i with h' | h'
  · exact blt_trans h0 (sorted_lt hs hq hp h')
  · have : i = kvBe k L := by omega
    subst this
    rw [hq] at hp
    rw [Option.some.inj hp] at h0; exact h0
theorem ble_not (s t : ByteArray) : (!(blt s t || beqS s t)) = blt t s := by
  rw [beqS_val]
  cases e : blt t s with
  | true => rw [blt_asymm e, decide_eq_false (fun e2 => by rw [e2, blt_irrefl] at e; cases e)]; rfl
  | false =>
    cases e2 : blt s t with
    | true => rfl
    | false => rw [decide_eq_true (blt_total e2 e)]; rfl
theorem Nd.kv_len (nd : Nd) : nd.kv.length = nd.l.length := by unfold Nd.kv; simp
theorem Nd.kv_get {nd : Nd} {i : Nat} {e : En} (he : nd.l[i]? = some e) : nd.kv[i]? = some e.kv := by unfold Nd.kv; rw [List.getElem?_map, he]; rfl
section
variable {k : Nat} {a : Option Addr} {c : Nat} {nd : Nd} (N : NdEx h k a c nd) (hs : kvSorted nd.kv) (hl : nd.l.length < 65536)
include N hs hl
theorem place_spec (key : ByteArray) (hK : ∀ h', Sub h h' → K (.int .i64 (kvAt key nd.kv : Nat)) h') : CallsH Tryd.prog btree_node_place.id #[.pointer (some ⟨k, 0, none⟩), .string key] h K := by
  apply btree_node_place.calls
  unfold btree_node_place.W
  intro k1 hk1 k2 hk2
  have B1 := Blk.new h k1 64 [.pointer (some ⟨k, 0, none⟩)]
  have s1 : Sub h (h.upd k1 (.cells [Value.pointer (some ⟨k, 0, none⟩)].toArray 64 (0, 0))) := Sub.upd hk1 _
  have B2 := Blk.new (h.upd k1 (.cells [Value.pointer (some ⟨k, 0, none⟩)].toArray 64 (0, 0))) k2 9 [.string key]
  have s2 := Sub.upd hk2 (.cells [Value.string key].toArray 9 (0, 0))
  have B1' := B1.upd hk2 (.cells [Value.string key].toArray 9 (0, 0))
  have s := s1.trans s2
  generalize ((h.upd k1 (.cells [Value.pointer (some ⟨k, 0, none⟩)].toArray 64 (0, 0))).upd k2 (.cells [Value.string key].toArray 9 (0, 0))) = x at B2 B1' s
  have Nx := N.sub s
  refine ⟨_, B1'.cell' 0 rfl, k, 0, rfl, a, nd.l.length, c, Nx.c2, ?_⟩
  refine search_spec (p := fun i => match nd.l[i]? with | some e => !blt e.key key | none => true) (m := kvAt key nd.kv) (by omega) (by rw [← nd.kv_len]; exact kvAt_le _ _) (fun i hi => ?_) (fun i hi hn => ?_) (fun i hi K' hK' => ?_) ⟨_, rfl, hK x s⟩
  · have hn : i < nd.l.length := by have := kvAt_le key nd.kv; rw [nd.kv_len] at this; omega
    have he : nd.l[i]? = some nd.l[i] := List.getElem?_eq_getElem hn
    have := kvAt_before key nd.kv i _ (Nd.kv_get he) hi
    simp only [he]
    rw [show blt nd.l[i].key key = true from this]; rfl
  · have he : nd.l[i]? = some nd.l[i] := List.getElem?_eq_getElem hn
    have := kvAt_after hs (Nd.kv_get he) hi
    simp only [he]
    rw [show blt nd.l[i].key key = false from this]; rfl
  · have he : nd.l[i]? = some nd.l[i] := List.getElem?_eq_getElem hi
    simp only [he] at hK'
    obtain ⟨b, o, ea, g0, g1, g2⟩ := Nx.get he
    refine fnI (cap := [_, _]) (by kernel_rfl) ?_
    apply btree_node_place_1.calls
    unfold btree_node_place_1.W
    refine ⟨_, B1'.cell' 0 rfl, k, 0, rfl, a, nd.l.length, c, Nx.c2, by omega, by show (i : Int) < (nd.l.length : Int); omega, b, o, ea, _, by rw [Int.toNat_natCast]; exact g0, _, B2.cell' 0 rfl, ?_⟩
    rw [bltS_val]
    exact hK'
theorem below_spec (key : ByteArray) (hK : ∀ h', Sub h h' → K (.int .i64 ((kvBe key nd.kv : Nat) - 1 : Int)) h') : CallsH Tryd.prog btree_node_below.id #[.pointer (some ⟨k, 0, none⟩), .string key] h K := by
  apply btree_node_below.calls
  unfold btree_node_below.W
  intro k1 hk1 k2 hk2
  have B1 := Blk.new h k1 64 [.pointer (some ⟨k, 0, none⟩)]
  have s1 : Sub h (h.upd k1 (.cells [Value.pointer (some ⟨k, 0, none⟩)].toArray 64 (0, 0))) := Sub.upd hk1 _
  have B2 := Blk.new (h.upd k1 (.cells [Value.pointer (some ⟨k, 0, none⟩)].toArray 64 (0, 0))) k2 9 [.string key]
  have s2 := Sub.upd hk2 (.cells [Value.string key].toArray 9 (0, 0))
  have B1' := B1.upd hk2 (.cells [Value.string key].toArray 9 (0, 0))
  have s := s1.trans s2
  generalize ((h.upd k1 (.cells [Value.pointer (some ⟨k, 0, none⟩)].toArray 64 (0, 0))).upd k2 (.cells [Value.string key].toArray 9 (0, 0))) = x at B2 B1' s
  have Nx := N.sub s
  have hbe := kvBe_le key nd.kv
  rw [nd.kv_len] at hbe
  refine ⟨_, B1'.cell' 0 rfl, k, 0, rfl, a, nd.l.length, c, Nx.c2, ?_⟩
  refine search_spec (p := fun i => match nd.l[i]? with | some e => blt key e.key | none => true) (m := kvBe key nd.kv) (by omega) hbe (fun i hi => ?_) (fun i hi hn => ?_) (fun i hi K' hK' => ?_) ⟨_, rfl, ?_⟩
  · have he : nd.l[i]? = some nd.l[i] := List.getElem?_eq_getElem (by omega)
    have := kvBe_before key nd.kv i _ (Nd.kv_get he) hi
    simp only [he]
    exact this
  · have he : nd.l[i]? = some nd.l[i] := List.getElem?_eq_getElem hn
    have := kvBe_after hs (Nd.kv_get he) hi
    simp only [he]
    exact this
  · have he : nd.l[i]? = some nd.l[i] := List.getElem?_eq_getElem hi
    simp only [he] at hK'
    obtain ⟨b, o, ea, g0, g1, g2⟩ := Nx.get he
    refine fnI (cap := [_, _]) (by kernel_rfl) ?_
    apply btree_node_below_1.calls
    unfold btree_node_below_1.W
    refine ⟨_, B1'.cell' 0 rfl, k, 0, rfl, a, nd.l.length, c, Nx.c2, by omega, by show (i : Int) < (nd.l.length : Int); omega, b, o, ea, _, by rw [Int.toNat_natCast]; exact g0, _, B2.cell' 0 rfl, ?_⟩
    rw [bltS_val, ble_not]
    exact hK'
  · rw [wid (by omega) (by omega)]; exact hK x s
end
section
variable {k : Nat} {a : Option Addr} {c : Nat} {nd : Nd} (N : NdEx h k a c nd)
include N
theorem kid_spec {j id : Nat} (hj : nd.kids[j]? = some id) (hK : K (.int .i64 (id : Nat)) h) : CallsH Tryd.prog btree_node_kid.id #[.pointer (some ⟨k, 0, none⟩), .int .i64 ((j : Int) - 1)] h K := by
  apply btree_node_kid.calls
  unfold btree_node_kid.W
  cases j with
  | zero =>
    have : nd.first = id := by simpa [Nd.kids] using hj
    subst this
    exact split_dec (fun _ => ⟨_, N.c1, hK⟩) fun e => by omega
  | succ i =>
    obtain ⟨e, he, rfl⟩ : ∃ e, nd.l[i]? = some e ∧ e.kid = id := by simpa [Nd.kids, Option.map_eq_some_iff] using hj
    have hi := (List.getElem?_eq_some_iff.1 he).1
    obtain ⟨b, o, ea, g0, g1, g2⟩ := N.get he
    have e1 : ((i + 1 : Nat) : Int) - 1 = ((i : Nat) : Int) := by omega
    rw [e1]
    exact split_dec (fun e => by omega) fun _ => ⟨_, _, _, N.c2, by omega, by show (i : Int) < (nd.l.length : Int); omega, b, o, ea, _, by rw [Int.toNat_natCast]; exact g2, hK⟩
def Nd.lo (nd : Nd) (f : ByteArray) (j : Nat) : ByteArray := match j with
  | 0 => f
  | i + 1 => match nd.l[i]? with
    | some e => e.key
    | none => f
def Nd.hi (nd : Nd) (t : ByteArray) (j : Nat) : ByteArray := match nd.l[j]? with
  | some e => e.key
  | none => t
theorem keys_spec {j : Nat} (hj : j ≤ nd.l.length) (hl : nd.l.length < 65536) (f t : ByteArray) (hK : K (.tuple #[.string (nd.lo f j), .string (nd.hi t j)]) h) : CallsH Tryd.prog btree_node_keys.id #[.pointer (some ⟨k, 0, none⟩), .int .i64 ((j : Int) - 1), .string f, .string t] h K := by
  apply btree_node_keys.calls
  unfold btree_node_keys.W
  have e1 : IntKind.i64.wrap ((j : Int) - 1 + 1) = ((j : Nat) : Int) := by rw [wid (by omega) (by omega)]; omega
  rw [e1]
  refine ⟨fun s x => s = nd.lo f j ∧ x = h, ?_, ?_⟩
  · rintro s x ⟨rfl, rfl⟩
    refine ⟨_, _, _, N.c2, split_dec (fun g => ?_) fun g => ?_⟩
    · have g : (j : Int) < (nd.l.length : Int) := g
      have he : nd.l[j]? = some nd.l[j] := List.getElem?_eq_getElem (by omega)
      obtain ⟨b, o, ea, g0, g1, g2⟩ := N.get he
      refine ⟨_, _, _, N.c2, by omega, g, b, o, ea, _, by rw [Int.toNat_natCast]; exact g0, ?_⟩
      unfold Nd.hi at hK
      simp only [he] at hK
      exact hK
    · have g : ¬ (j : Int) < (nd.l.length : Int) := g
      have he : nd.l[j]? = none := List.getElem?_eq_none (by omega)
      unfold Nd.hi at hK
      simp only [he] at hK
      exact hK
  · cases j with
    | zero => exact split_dec (fun e => by omega) fun _ => ⟨rfl, rfl⟩
    | succ i =>
      have he : nd.l[i]? = some nd.l[i] := List.getElem?_eq_getElem (by omega)
      obtain ⟨b, o, ea, g0, g1, g2⟩ := N.get he
      have e1 : ((i + 1 : Nat) : Int) - 1 = ((i : Nat) : Int) := by omega
      rw [e1]
      exact split_dec (fun _ => ⟨_, _, _, N.c2, by omega, by show (i : Int) < (nd.l.length : Int); omega, b, o, ea, _, by rw [Int.toNat_natCast]; exact g0, by unfold Nd.lo; simp only [he], rfl⟩) fun e => by omega
end
def Nd.esz (lf : Bool) (e : En) : Nat := 3 + e.key.size + (if lf then e.val.size else 0)
def eszs (lf : Bool) (l : List En) : Nat := (l.map (Nd.esz lf)).sum
def Nd.base (lf : Bool) : Nat := if lf then 3 else 5
def Nd.size (nd : Nd) : Nat := Nd.base nd.leaf + eszs nd.leaf nd.l
theorem eszs_cons (lf : Bool) (e : En) (l : List En) : eszs lf (e :: l) = Nd.esz lf e + eszs lf l := by unfold eszs; simp
theorem eszs_append (lf : Bool) (l m : List En) : eszs lf (l ++ m) = eszs lf l + eszs lf m := by unfold eszs; simp
theorem eszs_take_le (lf : Bool) (l : List En) (i : Nat) : eszs lf (l.take i) ≤ eszs lf l := by
  conv => rhs; rw [← List.take_append_drop i l, eszs_append]
  omega
theorem nsize_spec {k : Nat} {a : Option Addr} {c : Nat} {nd : Nd} (N : NdEx h k a c nd) (hb : nd.size < 2147483648) (hl : nd.l.length < 2147483648) (hK : K (.int .i64 (nd.size : Nat)) h) : CallsH Tryd.prog btree_node_size.id #[.pointer (some ⟨k, 0, none⟩)] h K := by
  apply btree_node_size.calls
  unfold btree_node_size.W
  have kd : ((nd.kind : Nat) : Int) = if nd.leaf = true then 1 else 2 := by unfold Nd.kind; split <;> rfl
  refine ⟨fun i x => i = (Nd.base nd.leaf : Nat) ∧ h = x, ?_, ?_⟩
  · rintro i x ⟨rfl, rfl⟩
    refine ⟨_, _, _, N.c2, fun i j x m => ∃ q : Nat, j = (q : Int) ∧ i = ((Nd.base nd.leaf + eszs nd.leaf (nd.l.take q) : Nat) : Int) ∧ q ≤ nd.l.length ∧ m = nd.l.length - q ∧ x = h, ⟨_, 0, rfl, rfl, Nat.zero_le _, rfl, rfl⟩, ?_⟩
    rintro i j x m ⟨q, rfl, rfl, hq, rfl, rfl⟩
    refine split_dec (fun g => ?_) fun g => ?_
    · have g : (q : Int) < (nd.l.length : Int) := g
      have hq' : q < nd.l.length := by omega
      have he : nd.l[q]? = some nd.l[q] := List.getElem?_eq_getElem hq'
      obtain ⟨b, o, ea, g0, g1, g2⟩ := N.get he
      have tk : nd.l.take (q + 1) = nd.l.take q ++ [nd.l[q]] := by rw [List.take_add_one, he]; rfl
      have e2 : eszs nd.leaf (nd.l.take (q + 1)) = eszs nd.leaf (nd.l.take q) + Nd.esz nd.leaf nd.l[q] := by rw [tk, eszs_append]; unfold eszs; simp
      have e3 := eszs_take_le nd.leaf nd.l (q + 1)
      unfold Nd.size at hb
      have e4 : IntKind.i64.wrap ((q : Int) + 1) = ((q + 1 : Nat) : Int) := by rw [wid (by omega) (by omega)]; omega
      have e5 : Nd.esz nd.leaf nd.l[q] = 3 + nd.l[q].key.size + (if nd.leaf = true then nd.l[q].val.size else 0) := rfl
      refine ⟨by omega, g, b, o, ea, _, by rw [Int.toNat_natCast]; exact g0, _, by rw [Int.toNat_natCast]; exact g1, _, by rw [Int.toNat_natCast]; exact g2, _, N.c0, ?_⟩
      have z1 : Int.ofNat nd.l[q].key.size = ((nd.l[q].key.size : Nat) : Int) := rfl
      have z2 : Int.ofNat nd.l[q].val.size = ((nd.l[q].val.size : Nat) : Int) := rfl
      rw [e4, kd, z1, z2]
      cases hlf : nd.leaf with
      | true =>
        rw [hlf] at e2 e3 e5 hb
        refine split_eq (fun _ => ⟨_, ?_, q + 1, rfl, ?_, hq', rfl, rfl⟩) fun e => absurd (if_pos rfl) e
        · omega
        · rw [if_pos rfl] at e5
          rw [e2, e5, wid (x := 3 + _) (by omega) (by omega), wid (x := ((Nd.base true + eszs true (nd.l.take q) : Nat) : Int) + _) (by omega) (by omega), wid (by omega) (by omega)]
          omega
      | false =>
        rw [hlf] at e2 e3 e5 hb
        refine split_eq (fun e => by cases e) fun e => ⟨_, ?_, q + 1, rfl, ?_, hq', rfl, rfl⟩
        · omega
        · rw [if_neg (by decide)] at e5
          rw [e2, e5, wid (x := 3 + _) (by omega) (by omega), wid (by omega) (by omega)]
          omega
    · have g : ¬ (q : Int) < (nd.l.length : Int) := g
      have : q = nd.l.length := by omega
      subst this
      rw [List.take_length]
      exact hK
  · refine ⟨_, N.c0, ?_⟩
    rw [kd]
    cases hlf : nd.leaf with
    | true => exact split_eq (fun e => by cases e) fun e => ⟨rfl, rfl⟩
    | false => exact split_eq (fun e => ⟨by decide, rfl⟩) fun e => absurd (if_neg (by decide)) e
end Go.Proofs.YthbogjbcecmopaaDoor
namespace Go.Proofs.YthbogjbcecmopaaDoor
open Go.Gx
set_option maxRecDepth 100000
set_option linter.unusedVariables false
variable {h : Hp} {K : Value → Hp → Prop}
theorem ext_list (s : ByteArray) (a b : Nat) : (s.extract a b).data.toList = (s.data.toList.drop a).take (b - a) := by
  rw [ByteArray.data_extract, Array.toList_extract, List.extract_eq_take_drop]
theorem ext_size (s : ByteArray) {a b : Nat} (hb : b ≤ s.size) : (s.extract a b).size = b - a := by
  rw [← size_len, ext_list, List.length_take, List.length_drop, size_len]; omega
theorem byteN_ext (s : ByteArray) (a b j : Nat) : byteN (s.extract a b) j = if j < b - a then byteN s (a + j) else 0 := by
  unfold byteN
  rw [ext_list, List.getElem?_take]
  split
  · rw [List.getElem?_drop]
  · rfl
theorem byteN_out {s : ByteArray} {j : Nat} (hj : s.size ≤ j) : byteN s j = 0 := by
  unfold byteN
  rw [List.getElem?_eq_none (by rw [size_len]; exact hj)]; rfl
theorem ext_ext (s : ByteArray) {a b c d : Nat} (hd : a + d ≤ b) : (s.extract a b).extract c d = s.extract (a + c) (a + d) := by
  apply bytes_ext
  rw [ext_list, ext_list, ext_list, List.drop_take, List.take_take, List.drop_drop]
  congr 1; omega
theorem ext_all (s : ByteArray) : s.extract 0 s.size = s := by
  apply bytes_ext
  rw [ext_list, List.drop_zero, Nat.sub_zero, ← size_len, List.take_length]
def zerosB (s : ByteArray) (i : Nat) : Bool := (s.data.toList.drop i).all fun b => b == 0
theorem zerosB_iff {s : ByteArray} {i : Nat} : zerosB s i = true ↔ ∀ j, i ≤ j → byteN s j = 0 := by
  unfold zerosB
  rw [List.all_eq_true]
  constructor
  · intro H j hj
    unfold byteN
    cases e : s.data.toList[j]? with
    | none => rfl
    | some b =>
      have : b ∈ s.data.toList.drop i := by
        rw [List.mem_iff_getElem?]
        exact ⟨j - i, by rw [List.getElem?_drop, show i + (j - i) = j by omega, e]⟩
      have := H b this
      simp at this
      subst this; rfl
  · intro H b hb
    obtain ⟨j, hj⟩ := List.mem_iff_getElem?.1 hb
    rw [List.getElem?_drop] at hj
    have := H (i + j) (by omega)
    unfold byteN at this
    rw [hj] at this
    have h2 : b.toNat = 0 := this
    have : b = 0 := UInt8.toNat_inj.1 h2
    rw [this]; rfl
theorem trimR_spec (s : ByteArray) (hs : s.size < 2147483648) (hK : ∀ m, m ≤ s.size → (∀ j, m ≤ j → byteN s j = 0) → (m = 0 ∨ byteN s (m - 1) ≠ 0) → K (.string (s.extract 0 m)) h) : CallsH Tryd.prog strings_trimRightByte.id #[.string s, .int .u8 0] h K := by
  apply strings_trimRightByte.calls
  unfold strings_trimRightByte.W
  refine ⟨fun t x k => ∃ m : Nat, t = s.extract 0 m ∧ m ≤ s.size ∧ (∀ j, m ≤ j → byteN s j = 0) ∧ k = m ∧ h = x, ⟨_, s.size, (ext_all s).symm, Nat.le_refl _, fun j hj => byteN_out hj, rfl, rfl⟩, ?_⟩
  rintro t x k ⟨m, rfl, hm, hz, rfl, rfl⟩
  have sz : (s.extract 0 k).size = k := by rw [ext_size s hm]; rfl
  have szI : Int.ofNat (s.extract 0 k).size = ((k : Nat) : Int) := by rw [sz]; rfl
  rw [szI]
  refine split_dec (fun g => ?_) fun g => ?_
  · have g : 0 < k := by have g : (k : Int) > 0 := g; omega
    have e1 : IntKind.i64.wrap ((k : Int) - 1) = ((k - 1 : Nat) : Int) := by rw [wid (by omega) (by omega)]; omega
    rw [e1, Int.toNat_natCast]
    have eb : byteAt (s.extract 0 k) (k - 1) = ((byteN s (k - 1) : Nat) : Int) := by rw [byteAt_N, byteN_ext, if_pos (by omega), Nat.zero_add]
    refine ⟨by omega, by omega, ?_⟩
    rw [eb]
    refine split_eq (fun e => ⟨by omega, by omega, k - 1, by omega, k - 1, ext_ext s (by omega) |>.trans (by rw [Nat.zero_add, Nat.zero_add]), by omega, fun j hj => ?_, rfl, rfl⟩) fun e => hK k hm hz (.inr fun e2 => e (by rw [e2]; rfl))
    by_cases ej : j = k - 1
    · rw [ej]; omega
    · exact hz j (by omega)
  · have g : k = 0 := by
      have g : ¬ (k : Int) > 0 := g
      omega
    exact hK k hm hz (.inl g)
theorem trimL_spec (s : ByteArray) (hs : s.size < 2147483648) (hK : ∀ m, m ≤ s.size → (∀ j, j < m → byteN s j = 0) → K (.string (s.extract m s.size)) h) : CallsH Tryd.prog strings_trimLeftByte.id #[.string s, .int .u8 0] h K := by
  apply strings_trimLeftByte.calls
  unfold strings_trimLeftByte.W
  refine ⟨fun t x k => ∃ m : Nat, t = s.extract m s.size ∧ m ≤ s.size ∧ (∀ j, j < m → byteN s j = 0) ∧ k = s.size - m ∧ h = x, ⟨_, 0, (ext_all s).symm, Nat.zero_le _, (fun j hj => by omega), rfl, rfl⟩, ?_⟩
  rintro t x k ⟨m, rfl, hm, hz, rfl, rfl⟩
  have sz : (s.extract m s.size).size = s.size - m := ext_size s (Nat.le_refl _)
  have szI : Int.ofNat (s.extract m s.size).size = ((s.size - m : Nat) : Int) := by rw [sz]; rfl
  rw [szI]
  refine split_dec (fun g => ?_) fun g => hK m hm hz
  have g : 0 < s.size - m := by have g : ((s.size - m : Nat) : Int) > 0 := g; omega
  have eb : byteAt (s.extract m s.size) 0 = ((byteN s m : Nat) : Int) := by rw [byteAt_N, byteN_ext, if_pos (by omega), Nat.add_zero]
  rw [eb, sz]
  refine split_cond (fun _ => split_eq (fun e => ⟨by decide, by omega, s.size - (m + 1), by omega, m + 1, (ext_ext s (by omega)).trans (by rw [show m + Int.toNat 1 = m + 1 from rfl, show m + (s.size - m) = s.size by omega]), by omega, fun j hj => ?_, rfl, rfl⟩) fun e => hK m hm hz) fun e => ?_
  · by_cases ej : j = m
    · rw [ej]; omega
    · exact hz j (by omega)
  · have : Nat.blt 0 (s.size - m) = true := Nat.blt_eq.mpr g
    rw [this] at e; cases e
theorem trim_spec (s : ByteArray) (hs : s.size < 2147483648) (hK : ∀ t : ByteArray, (t = bytesL [] ↔ ∀ j, byteN s j = 0) → K (.string t) h) : CallsH Tryd.prog strings_Trim.id #[.string s, .string (bytesL [0])] h K := by
  apply strings_Trim.calls
  unfold strings_Trim.W
  refine split_beqS (fun e => hK s ?_) fun e => split_beqS (fun e2 => ?_) fun e2 => split_eq (fun _ => split_cond (fun _ => split_dec (fun _ => split_cond (fun _ => split_cond (fun _ => ?_) fun e => by cases e) fun e => by cases e) fun e => absurd (show ((0 : Int) < 128) by decide) e) fun e => by cases e) fun e => absurd rfl e
  · subst e; exact ⟨fun _ j => byteN_out (Nat.zero_le _), fun _ => rfl⟩
  · have := congrArg ByteArray.size e2; cases this
  · have e0 : byteAt (bytesL [0]) 0 = 0 := rfl
    rw [e0]
    refine trimR_spec s hs fun m hm hz hc => ⟨_, rfl, ?_⟩
    have s1 : (s.extract 0 m).size = m := by rw [ext_size s hm]; rfl
    refine trimL_spec _ (by omega) fun m2 hm2 hz2 => ⟨_, rfl, hK _ ?_⟩
    rw [s1] at hm2 ⊢
    have s2 : ((s.extract 0 m).extract m2 m).size = m - m2 := ext_size _ (by omega)
    constructor
    · intro e j
      have : m = m2 := by
        rw [e] at s2
        have : (bytesL []).size = 0 := rfl
        omega
      subst this
      rcases Nat.lt_or_ge j m with h' | h'
      · have := hz2 j h'
        rw [byteN_ext, if_pos (by omega), Nat.zero_add] at this
        exact this
      · exact hz j h'
    · intro e
      rcases hc with rfl | hc
      · apply bytes_ext
        rw [ext_list, Nat.zero_sub, List.take_zero]; rfl
      · exact absurd (e _) hc
def vN (lf : Bool) (x : Nat) : Nat := if lf then x else 0
def kN (lf : Bool) (x : Nat) : Nat := if lf then 0 else x
def parseN (b : ByteArray) (lf : Bool) : Nat → Nat → Option (List En × Nat)
  | 0, i => some ([], i)
  | m + 1, i =>
    if i + 3 > b.size then none
    else if byteN b i + vN lf (twoN b (i + 1)) > b.size - (i + 3) then none
    else if may (b.extract (i + 3) (i + 3 + byteN b i)) (b.extract (i + 3 + byteN b i) (i + 3 + byteN b i + vN lf (twoN b (i + 1)))) = false then none
    else (parseN b lf m (i + 3 + byteN b i + vN lf (twoN b (i + 1)))).map fun p => (⟨b.extract (i + 3) (i + 3 + byteN b i), b.extract (i + 3 + byteN b i) (i + 3 + byteN b i + vN lf (twoN b (i + 1))), kN lf (twoN b (i + 1))⟩ :: p.1, p.2)
theorem parseN_succ (b : ByteArray) (lf : Bool) (m i : Nat) : parseN b lf (m + 1) i = if i + 3 > b.size then none
    else if byteN b i + vN lf (twoN b (i + 1)) > b.size - (i + 3) then none
    else if may (b.extract (i + 3) (i + 3 + byteN b i)) (b.extract (i + 3 + byteN b i) (i + 3 + byteN b i + vN lf (twoN b (i + 1)))) = false then none
    else (parseN b lf m (i + 3 + byteN b i + vN lf (twoN b (i + 1)))).map fun p => (⟨b.extract (i + 3) (i + 3 + byteN b i), b.extract (i + 3 + byteN b i) (i + 3 + byteN b i + vN lf (twoN b (i + 1))), kN lf (twoN b (i + 1))⟩ :: p.1, p.2) := rfl
def parseB (b : ByteArray) : Option Nd :=
  if byteN b 0 = 1 ∨ byteN b 0 = 2 then
    match parseN b (byteN b 0 == 1) (twoN b 1) (Nd.base (byteN b 0 == 1)) with
    | none => none
    | some p => if zerosB b p.2 then some ⟨byteN b 0 == 1, kN (byteN b 0 == 1) (twoN b 3), p.1⟩ else none
  else none
def EnOk (lf : Bool) (e : En) : Prop := may e.key e.val = true ∧ e.kid < 65536 ∧ (if lf then e.kid = 0 else e.val = bytesL [])
theorem parseN_ok {b : ByteArray} {lf : Bool} : ∀ (m i : Nat) (p : List En × Nat), parseN b lf m i = some p → i ≤ b.size → p.1.length = m ∧ (∀ e ∈ p.1, EnOk lf e) ∧ p.2 = i + eszs lf p.1 ∧ p.2 ≤ b.size
  | 0, i, p, e, hi => by
    cases e
    exact ⟨rfl, (fun e h => by cases h), rfl, hi⟩
  | m + 1, i, p, e, hi => by
    unfold parseN at e
    split at e
    · cases e
    · split at e
      · cases e
      · rename_i g1 g2
        split at e
        · cases e
        · rename_i g3
          obtain ⟨q, hq, rfl⟩ := Option.map_eq_some_iff.1 e
          obtain ⟨h1, h2, h3, h4⟩ := parseN_ok m _ q hq (by omega)
          refine ⟨by simp [h1], ?_, ?_, h4⟩
          · intro e he
            rcases List.mem_cons.1 he with rfl | he
            · refine ⟨by simpa using g3, ?_, ?_⟩
              · show kN lf (twoN b (i + 1)) < 65536
                unfold kN
                have := twoN_lt b (i + 1)
                split <;> omega
              · cases lf with
                | true => rfl
                | false =>
                  apply bytes_ext
                  show (b.extract _ (_ + vN false _)).data.toList = []
                  rw [ext_list, show ∀ x, vN false x = 0 from fun _ => rfl, Nat.add_zero, Nat.sub_self, List.take_zero]
            · exact h2 e he
          · rw [h3, eszs_cons]
            unfold Nd.esz
            simp only []
            rw [ext_size b (by omega), ext_size b (by omega)]
            cases lf with
            | true => simp only [vN, if_true] at *; omega
            | false => simp only [vN, Bool.false_eq_true, if_false] at *; omega
structure NdOk (nd : Nd) : Prop where
  en : ∀ e ∈ nd.l, EnOk nd.leaf e
  first : nd.first < 65536
  size : nd.size ≤ 1024
  z : nd.leaf = true → nd.first = 0
theorem parseB_ok {b : ByteArray} (hb : b.size = 1024) {nd : Nd} (e : parseB b = some nd) : NdOk nd := by
  unfold parseB at e
  split at e
  · split at e
    · cases e
    · rename_i p hp
      split at e
      · cases e
        obtain ⟨h1, h2, h3, h4⟩ := parseN_ok _ _ _ hp (by rw [hb]; unfold Nd.base; split <;> decide)
        refine ⟨h2, ?_, ?_, fun e => by show (if _ then _ else _) = 0; rw [if_pos e]⟩
        · show kN _ (twoN b 3) < 65536
          unfold kN
          have := twoN_lt b 3
          split <;> omega
        · show Nd.base _ + eszs _ p.1 ≤ 1024
          rw [← hb, ← h3]; exact h4
      · cases e
  · cases e
theorem NdOk.len {nd : Nd} (o : NdOk nd) : 4 * nd.l.length ≤ 1024 := by
  have h1 : ∀ l : List En, (∀ e ∈ l, EnOk nd.leaf e) → 4 * l.length ≤ eszs nd.leaf l := by
    intro l hl
    induction l with
    | nil => exact Nat.zero_le _
    | cons e l ih =>
      have := ih fun e he => hl e (List.mem_cons_of_mem _ he)
      have h2 := (hl e List.mem_cons_self).1
      unfold may at h2
      have h2 := of_decide_eq_true h2
      rw [eszs_cons, List.length_cons]
      unfold Nd.esz
      omega
  have := h1 nd.l o.en
  have := o.size
  unfold Nd.size at this
  omega
end Go.Proofs.YthbogjbcecmopaaDoor
namespace Go.Proofs.YthbogjbcecmopaaDoor
open Go.Gx
set_option maxRecDepth 100000
set_option linter.unusedVariables false
variable {h : Hp} {K : Value → Hp → Prop}
theorem NdOw.app {k : Nat} {a : Option Addr} {c : Nat} {lf : Bool} {fi : Nat} {L : List En} {e : En} (N : NdOw h k a c ⟨lf, fi, L⟩) {h' : Hp} {a' : Option Addr} {c' n : Nat} (hn : n = L.length) (O : OwnR enC 3 h' 77 a' c' (L ++ [e])) (kp : Keep (blkOf a) h h') (nb : ∀ b, blkOf a' b → blkOf a b ∨ h b = none) :
    StoreOk h' k 2 1 ∧ NdOw (h'.put k 2 [.slice a' (n + 1) c']) k a' c' ⟨lf, fi, L ++ [e]⟩ := by
  subst hn
  have B : Blk h' k 69 _ := N.ex.blk.keep kp fun hb => N.ex.ne k hb rfl
  have ne' : ∀ b, blkOf a' b → b ≠ k := fun b hb e => by
    subst e
    rcases nb b hb with h1 | h1
    · exact N.ex.ne b h1 rfl
    · have := N.ex.blk; unfold Blk at this; rw [this] at h1; cases h1
  refine ⟨B.store (by show 2 + 1 ≤ 3; decide), NdOw.mk' ?_ (O.keep (Keep.put (fun c => c = k) _ _ _ rfl) ne') ne'⟩
  have := B.put 2 [.slice a' (L.length + 1) c']
  unfold ndC
  rw [List.length_append]
  exact this
set_option maxHeartbeats 2000000 in
theorem parse_spec (b : ByteArray) (hb : b.size = 1024) (hN : parseB b = none → ∀ h' a, Sub h h' → K (.tuple #[.pointer a, .bool false]) h') (hG : ∀ nd, parseB b = some nd → ∀ h' k, NdNew h h' k nd → K (.tuple #[.pointer (some ⟨k, 0, none⟩), .bool true]) h') :
    CallsH Tryd.prog btree_parse.id #[.string b] h K := by
  apply btree_parse.calls
  unfold btree_parse.W
  have szI : Int.ofNat b.size = ((1024 : Nat) : Int) := by rw [hb]; rfl
  refine split_cond (fun _ => ?_) fun e => by rw [hb] at e; cases e
  intro k1 hk1
  have b0 := byteN_lt b 0
  have ew : IntKind.i64.wrap (byteAt b 0) = ((byteN b 0 : Nat) : Int) := by rw [byteAt_N]; exact widN _ (by omega)
  rw [ew, szI]
  have hx : setL [Value.int .i64 0, .int .i64 0, .slice none 0 0] 0 [.int .i64 (byteN b 0 : Nat)] = [.int .i64 (byteN b 0 : Nat), .int .i64 0, .slice none 0 0] := rfl
  rw [hx]
  have B := Blk.new h k1 69 [.int .i64 (byteN b 0 : Nat), .int .i64 0, .slice none 0 0]
  have s := Sub.upd hk1 (.cells [Value.int .i64 (byteN b 0 : Nat), .int .i64 0, .slice none 0 0].toArray 69 (0, 0))
  generalize h.upd k1 (.cells [Value.int .i64 (byteN b 0 : Nat), .int .i64 0, .slice none 0 0].toArray 69 (0, 0)) = y at B s ⊢
  have bad : ¬ (byteN b 0 = 1 ∨ byteN b 0 = 2) → parseB b = none := fun hn => by unfold parseB; rw [if_neg hn]
  refine ⟨_, B.cell' 0 rfl, split_ne (fun ne1 => ⟨_, B.cell' 0 rfl, split_ne (fun ne2 => hN (bad fun e => ?_) _ _ s) ?g1⟩) ?g2⟩
  · omega
  all_goals
    intro e0
    obtain ⟨lf, hlf, ek⟩ : ∃ lf : Bool, (byteN b 0 == 1) = lf ∧ byteN b 0 = if lf then 1 else 2 := ⟨_, rfl, by
      by_cases e : byteN b 0 = 1
      · rw [e]; rfl
      · have e2 : byteN b 0 = 2 := by omega
        rw [e2]; rfl⟩
    have pe : parseB b = match parseN b lf (twoN b 1) (Nd.base lf) with
        | none => none
        | some p => if zerosB b p.2 then some ⟨lf, kN lf (twoN b 3), p.1⟩ else none := by
      unfold parseB
      rw [if_pos (by cases lf with | true => left; exact ek | false => right; exact ek), hlf]
      all_goals rfl
    have kd : ∀ fi L, ((byteN b 0 : Nat) : Int) = ((Nd.kind ⟨lf, fi, L⟩ : Nat) : Int) := fun fi L => by rw [ek]; rfl
    have t1 := twoN_lt b 1
    refine ⟨fun i x => ∃ a c, i = (Nd.base lf : Nat) ∧ Sub h x ∧ NdOw x k1 a c ⟨lf, kN lf (twoN b 3), []⟩ ∧ ∀ c', blkOf a c' → h c' = none, ?_, ?_⟩
    · rintro i x ⟨a, c, rfl, sx, N, fr⟩
      refine two_spec (i := 1) (by omega) (by omega) ⟨_, rfl, ?_⟩
      refine ⟨fun i j x m => ∃ (p q : Nat) (L : List En) (a : Option Addr) (c : Nat), i = (p : Int) ∧ j = (q : Int) ∧ m = twoN b 1 - q ∧ q ≤ twoN b 1 ∧ p ≤ 1024 ∧ L.length = q ∧ Sub h x ∧ NdOw x k1 a c ⟨lf, kN lf (twoN b 3), L⟩ ∧ (∀ c', blkOf a c' → h c' = none) ∧
        parseN b lf (twoN b 1) (Nd.base lf) = (parseN b lf (twoN b 1 - q) p).map fun r => (L ++ r.1, r.2), ⟨_, Nd.base lf, 0, [], a, c, rfl, rfl, rfl, Nat.zero_le _, by unfold Nd.base; split <;> decide, rfl, sx, N, fr, ?_⟩, ?_⟩
      · rw [Nat.sub_zero]; cases parseN b lf (twoN b 1) (Nd.base lf) <;> rfl
      rintro i j x m ⟨p, q, L, a, c, rfl, rfl, rfl, hq, hp, hL, sx, N, fr, hpe⟩
      refine split_dec (fun g => ?_) fun g => ?_
      · obtain ⟨r, hr⟩ : ∃ r, twoN b 1 - q = r + 1 := ⟨twoN b 1 - q - 1, by omega⟩
        rw [hr] at hpe
        have e3 : IntKind.i64.wrap ((p : Int) + 3) = ((p + 3 : Nat) : Int) := by rw [wid (by omega) (by omega)]; omega
        rw [e3]
        refine split_dec (fun g2 => hN ?_ _ _ sx) fun g2 => ?_
        · rw [pe, hpe, parseN_succ]
          rw [if_pos (by rw [hb]; omega)]; rfl
        have e4 : IntKind.i64.wrap ((p : Int) + 1) = ((p + 1 : Nat) : Int) := by rw [wid (by omega) (by omega)]; omega
        rw [e4]
        refine ⟨by omega, by omega, two_spec (by omega) (by omega) ⟨_, rfl, ?_⟩⟩
        have t2 := twoN_lt b (p + 1)
        have bp := byteN_lt b p
        have vle : vN lf (twoN b (p + 1)) ≤ twoN b (p + 1) := by unfold vN; split <;> omega
        refine ⟨fun v s t kd x' => v = (vN lf (twoN b (p + 1)) : Nat) ∧ kd = (kN lf (twoN b (p + 1)) : Nat) ∧ x = x', ?_, ⟨_, N.ex.c0, ?_⟩⟩
        · rintro v s t kd x' ⟨rfl, rfl, rfl⟩
          have e5 : IntKind.i64.wrap (byteAt b ((p : Nat) : Int).toNat) = ((byteN b p : Nat) : Int) := by rw [Int.toNat_natCast, byteAt_N]; exact widN _ (by omega)
          have e6 : IntKind.i64.wrap (((byteN b p : Nat) : Int) + ((vN lf (twoN b (p + 1)) : Nat) : Int)) = ((byteN b p + vN lf (twoN b (p + 1)) : Nat) : Int) := by rw [wid (by omega) (by omega)]; omega
          have e7 : IntKind.i64.wrap (((1024 : Nat) : Int) - ((p + 3 : Nat) : Int)) = ((1024 - (p + 3) : Nat) : Int) := by rw [wid (by omega) (by omega)]; omega
          have e8 : IntKind.i64.wrap (((p + 3 : Nat) : Int) + ((byteN b p : Nat) : Int)) = ((p + 3 + byteN b p : Nat) : Int) := by rw [wid (by omega) (by omega)]; omega
          have e9 : IntKind.i64.wrap (((p + 3 + byteN b p : Nat) : Int) + ((vN lf (twoN b (p + 1)) : Nat) : Int)) = ((p + 3 + byteN b p + vN lf (twoN b (p + 1)) : Nat) : Int) := by rw [wid (by omega) (by omega)]; omega
          have e10 : IntKind.i64.wrap (((p + 3 : Nat) : Int) + ((byteN b p + vN lf (twoN b (p + 1)) : Nat) : Int)) = ((p + 3 + byteN b p + vN lf (twoN b (p + 1)) : Nat) : Int) := by rw [wid (by omega) (by omega)]; omega
          have e11 : IntKind.i64.wrap ((q : Int) + 1) = ((q + 1 : Nat) : Int) := by rw [wid (by omega) (by omega)]; omega
          rw [e5, e6, e7, e8, e9, e10, e11]
          refine split_dec (fun g3 => hN ?_ _ _ sx) fun g3 => ?_
          · rw [pe, hpe, parseN_succ]
            rw [if_neg (by rw [hb]; omega), if_pos (by rw [hb]; omega)]; rfl
          rw [Int.toNat_natCast, Int.toNat_natCast, Int.toNat_natCast]
          refine ⟨by omega, by omega, by omega, by show ((p + 3 : Nat) : Int) ≤ ((p + 3 + byteN b p : Nat) : Int); omega, by omega, by omega, by omega, by show ((p + 3 + byteN b p : Nat) : Int) ≤ ((p + 3 + byteN b p + vN lf (twoN b (p + 1)) : Nat) : Int); omega, may_spec _ _ ⟨_, rfl, split_not (fun em => hN ?_ _ _ sx) fun em => ?_⟩⟩
          · rw [pe, hpe, parseN_succ]
            rw [if_neg (by rw [hb]; omega), if_neg (by rw [hb]; omega), if_pos em]; rfl
          refine ⟨a, L.length, c, N.ex.c2, fun k31 hk31 => ⟨Sub.upd hk31 _, enC ⟨b.extract (p + 3) (p + 3 + byteN b p), b.extract (p + 3 + byteN b p) (p + 3 + byteN b p + vN lf (twoN b (p + 1))), kN lf (twoN b (p + 1))⟩, (Blk.new x k31 77 (enC ⟨b.extract (p + 3) (p + 3 + byteN b p), b.extract (p + 3 + byteN b p) (p + 3 + byteN b p + vN lf (twoN b (p + 1))), kN lf (twoN b (p + 1))⟩)).slice rfl, ?_⟩⟩
          have s31 := Sub.upd hk31 (.cells (enC ⟨b.extract (p + 3) (p + 3 + byteN b p), b.extract (p + 3 + byteN b p) (p + 3 + byteN b p + vN lf (twoN b (p + 1))), kN lf (twoN b (p + 1))⟩).toArray 77 (0, 0))
          have N31 := N.sub s31
          refine ⟨fun a' c' x' => StoreOk x' k1 2 1 ∧ Sub h x' ∧ NdOw (x'.put k1 2 [.slice a' (L.length + 1) c']) k1 a' c' ⟨lf, kN lf (twoN b 3), L ++ [⟨b.extract (p + 3) (p + 3 + byteN b p), b.extract (p + 3 + byteN b p) (p + 3 + byteN b p + vN lf (twoN b (p + 1))), kN lf (twoN b (p + 1))⟩]⟩ ∧ ∀ c', blkOf a' c' → h c' = none, ?_, ?_⟩
          · rintro a' c' x' ⟨so, sx', N', fr'⟩
            refine ⟨so, twoN b 1 - (q + 1), by omega, p + 3 + byteN b p + vN lf (twoN b (p + 1)), q + 1, _, a', c', rfl, rfl, rfl, by omega, by omega, by rw [List.length_append, hL]; rfl, (Keep.put (fun c => c = k1) _ _ _ rfl).sub sx' fun c e => by rw [e]; exact hk1, N', fr', ?_⟩
            rw [hpe, parseN_succ]
            rw [if_neg (by rw [hb]; omega), if_neg (by rw [hb]; omega), if_neg (by rw [em]; decide), Option.map_map, show twoN b 1 - (q + 1) = r by omega]
            congr 1
            funext z
            simp
          · refine append_ownR appTEn enC_len enC_plain (M := [_]) N31.own rfl rfl (rowC_one _).symm ?_ fun a' c' x' O kp nb => ?_
            · show (2 * (L.length + 1) + 768) * 40 ≤ _
              omega
            · obtain ⟨so, N'⟩ := N31.app rfl O kp nb
              exact ⟨so, kp.sub (sx.trans s31) fr, N', fun c' hc' => (nb c' hc').elim (fr c') fun h' => (sx.trans s31).none h'⟩
        · refine split_eq (fun e => ?_) fun e => ?_
          · cases lf with
            | true => exact ⟨rfl, rfl, rfl⟩
            | false => cases e
          · cases lf with
            | true => exact absurd rfl e
            | false => exact ⟨rfl, rfl, rfl⟩
      · have : q = twoN b 1 := by omega
        subst this
        rw [Nat.sub_self] at hpe
        have hpe : parseN b lf (twoN b 1) (Nd.base lf) = some (L, p) := by rw [hpe]; unfold parseN; simp
        have sz2 : (b.extract p b.size).size = 1024 - p := by rw [ext_size b (Nat.le_refl _), hb]
        rw [Int.toNat_natCast]
        refine ⟨by omega, by omega, trim_spec _ (by omega) fun t ht => ⟨_, rfl, ?_⟩⟩
        have zi : zerosB b p = true ↔ t = bytesL [] := by
          rw [ht, zerosB_iff]
          constructor
          · intro H j
            rw [byteN_ext]
            split
            · exact H _ (by omega)
            · rfl
          · intro H j hj
            have := H (j - p)
            rw [byteN_ext] at this
            rcases Nat.lt_or_ge j b.size with h' | h'
            · rw [if_pos (by omega), show p + (j - p) = j by omega] at this
              exact this
            · exact byteN_out h'
        rw [beqS_val]
        by_cases et : t = bytesL []
        · rw [decide_eq_true et]
          exact hG _ (by rw [pe, hpe]; simp only [zi.2 et, if_true]) _ _ ⟨sx, hk1, a, c, N, fr⟩
        · rw [decide_eq_false et]
          exact hN (by rw [pe, hpe]; simp only [show zerosB b p = false by cases e : zerosB b p with | false => rfl | true => exact absurd (zi.1 e) et, Bool.false_eq_true, if_false]) _ _ sx
    · refine ⟨_, B.cell' 0 rfl, split_eq (fun e => ?_) fun e => ?_⟩
      · have lff : lf = false := by cases lf with | true => rw [ek] at e; cases e | false => rfl
        subst lff
        refine two_spec (i := 3) (by omega) (by omega) ⟨_, rfl, B.store (by show 2 ≤ 3; decide), none, 0, by decide, ?_, NdOw.mk' ?_ (OwnR.nil _ _) (fun b ⟨o, s, e⟩ => by cases e), fun b ⟨o, s, e⟩ => by cases e⟩
        · exact (Keep.put (fun c => c = k1) _ _ _ rfl).sub s fun c e => by rw [e]; exact hk1
        · have := B.put 1 [.int .i64 (twoN b 3 : Nat)]
          unfold ndC
          rw [← kd]
          exact this
      · have lff : lf = true := by
          cases lf with
          | true => rfl
          | false => exact absurd (by rw [ek]; rfl) e
        subst lff
        refine ⟨none, 0, rfl, s, NdOw.mk' ?_ (OwnR.nil _ _) (fun b ⟨o, s, e⟩ => by cases e), fun b ⟨o, s, e⟩ => by cases e⟩
        unfold ndC
        rw [← kd]
        exact B
variable {pb jb db n : Nat} {S : Nat → Prop} {D : Dk} {P : Pg}
def Pg.node (P : Pg) (D : Dk) (n : Nat) (i : Int) : Option Nd := if P.why n i = 0 then parseB (P.page D n i.toNat) else none
theorem page_sz (E : PgAt h pb jb db S n D P) {i : Nat} (hi : i < n) : (P.page D n i).size = 1024 := by
  obtain ⟨S0, mb, pa, pc, Q, e⟩ := E.ex
  unfold Pg.page
  cases hd : dget P.d i with
  | some s => exact (E.ok.d.mem _ (dget_mem hd)).2
  | none => exact page_size e.j hi
theorem node_ok (E : PgAt h pb jb db S n D P) {i : Int} {nd : Nd} (e : P.node D n i = some nd) : NdOk nd := by
  unfold Pg.node at e
  split at e
  · rename_i hw
    obtain ⟨k, rfl, h1, h2, h3⟩ := why_ok hw
    exact parseB_ok (by rw [Int.toNat_natCast]; exact page_sz E h2) e
  · cases e
def TrAt (h : Hp) (tb pb k : Nat) : Prop := Blk h tb 62 [.pointer (some ⟨pb, 0, none⟩), .int .i64 (k : Nat)]
theorem load_spec (E : PgAt h pb jb db S n D P) {tb k : Nat} (T : TrAt h tb pb k) (i : Int) (hN : P.node D n i = none → ∀ h' e, e ≠ 0 → (P.why n i = 0 → e = 4) → Sub h h' → K (.tuple #[.pointer none, .int .i64 e]) h')
    (hG : ∀ nd, P.node D n i = some nd → ∀ h' k', NdNew h h' k' nd → K (.tuple #[.pointer (some ⟨k', 0, none⟩), .int .i64 0]) h') : CallsH Tryd.prog btree_Tree_load.id #[.pointer (some ⟨tb, 0, none⟩), .int .i64 i] h K := by
  apply btree_Tree_load.calls
  unfold btree_Tree_load.W
  refine ⟨_, T.cell' 0 rfl, ?_⟩
  unfold Pg.node at hN hG
  by_cases hw : P.why n i = 0
  · obtain ⟨j, rfl, h1, h2, h3⟩ := why_ok hw
    rw [if_pos hw, Int.toNat_natCast] at hN hG
    refine pgread_spec E hw fun h' s => ⟨_, _, rfl, split_ne (fun e => absurd rfl e) fun _ => ?_⟩
    refine parse_spec _ (page_sz E h2) (fun e h2 a s2 => ⟨_, _, rfl, split_not (fun _ => hN e _ _ (by decide) (fun _ => rfl) (s.trans s2)) fun e => by cases e⟩) fun nd e h2 k' N => ⟨_, _, rfl, split_not (fun e => by cases e) fun _ => hG nd e _ _ (N.mono s (Sub.refl _))⟩
  · rw [if_neg hw] at hN
    exact pgread_bad E i hw ⟨_, _, rfl, split_ne (fun e => hN rfl _ _ hw (fun e => absurd e hw) (Sub.refl h)) fun e => absurd e hw⟩
end Go.Proofs.YthbogjbcecmopaaDoor
namespace Go.Proofs.YthbogjbcecmopaaDoor
open Go.Gx
set_option maxRecDepth 100000
set_option linter.unusedVariables false
abbrev eB : ByteArray := bytesL []
def chain1 (t : ByteArray) : ByteArray → List En → Prop
  | _, [] => True
  | x, e :: l => blt x e.key = true ∧ (t ≠ eB → blt e.key t = true) ∧ chain1 t e.key l
def keysOk (f t : ByteArray) : List En → Prop
  | [] => True
  | e :: l => blt e.key f = false ∧ (t ≠ eB → blt e.key t = true) ∧ chain1 t e.key l
def below (t k : ByteArray) : Prop := t ≠ eB → blt k t = true
theorem chain1_ok {t : ByteArray} : ∀ {l : List En} {x : ByteArray}, chain1 t x l ↔ ((∀ e ∈ l, blt x e.key = true ∧ below t e.key) ∧ kvSorted (l.map En.kv))
  | [], x => ⟨fun _ => ⟨(fun e h => by cases h), List.Pairwise.nil⟩, fun _ => trivial⟩
  | e :: l, x => by
    unfold chain1
    rw [chain1_ok (l := l)]
    constructor
    · rintro ⟨h1, h2, h3, h4⟩
      refine ⟨fun e' he => ?_, List.pairwise_cons.2 ⟨fun p hp => ?_, h4⟩⟩
      · rcases List.mem_cons.1 he with rfl | he
        · exact ⟨h1, h2⟩
        · exact ⟨blt_trans h1 (h3 e' he).1, (h3 e' he).2⟩
      · obtain ⟨e', he, rfl⟩ := List.mem_map.1 hp
        exact (h3 e' he).1
    · rintro ⟨h1, h2⟩
      obtain ⟨h3, h4⟩ := List.pairwise_cons.1 h2
      exact ⟨(h1 e List.mem_cons_self).1, (h1 e List.mem_cons_self).2, fun e' he => ⟨h3 _ (List.mem_map_of_mem he), (h1 e' (List.mem_cons_of_mem _ he)).2⟩, h4⟩
theorem keysOk_iff {f t : ByteArray} {l : List En} : keysOk f t l ↔ ((∀ e ∈ l, blt e.key f = false ∧ below t e.key) ∧ kvSorted (l.map En.kv)) := by
  cases l with
  | nil => exact ⟨fun _ => ⟨(fun e h => by cases h), List.Pairwise.nil⟩, fun _ => trivial⟩
  | cons e l =>
    show (blt e.key f = false ∧ (t ≠ eB → blt e.key t = true) ∧ chain1 t e.key l) ↔ _
    rw [chain1_ok]
    constructor
    · rintro ⟨h1, h2, h3, h4⟩
      refine ⟨fun e' he => ?_, List.pairwise_cons.2 ⟨fun p hp => ?_, h4⟩⟩
      · rcases List.mem_cons.1 he with rfl | he
        · exact ⟨h1, h2⟩
        · refine ⟨?_, (h3 e' he).2⟩
          cases e2 : blt e'.key f with
          | false => rfl
          | true => rw [blt_trans (h3 e' he).1 e2] at h1; cases h1
      · obtain ⟨e', he, rfl⟩ := List.mem_map.1 hp
        exact (h3 e' he).1
    · rintro ⟨h1, h2⟩
      obtain ⟨h3, h4⟩ := List.pairwise_cons.1 h2
      exact ⟨(h1 e List.mem_cons_self).1, (h1 e List.mem_cons_self).2, fun e' he => ⟨h3 _ (List.mem_map_of_mem he), (h1 e' (List.mem_cons_of_mem _ he)).2⟩, h4⟩
section
variable (pg : Nat → Option Nd)
def Tr : Nat → Nat → ByteArray → ByteArray → Prop
  | 0, id, f, t => ∃ nd, pg id = some nd ∧ nd.leaf = true ∧ keysOk f t nd.l
  | m + 1, id, f, t => ∃ nd, pg id = some nd ∧ nd.leaf = false ∧ keysOk f t nd.l ∧ ∀ j c, nd.kids[j]? = some c → Tr m c (nd.lo f j) (nd.hi t j)
def kvs (id : Nat) : List KV := match pg id with
  | some nd => nd.kv
  | none => []
def kidsOf (id : Nat) : List Nat := match pg id with
  | some nd => nd.kids
  | none => []
def ents : Nat → Nat → List KV
  | 0, id => kvs pg id
  | m + 1, id => (kidsOf pg id).flatMap (ents m)
def ids : Nat → Nat → List Nat
  | 0, id => [id]
  | m + 1, id => id :: (kidsOf pg id).flatMap (ids m)
end
variable {pg : Nat → Option Nd}
theorem kvs_eq {id : Nat} {nd : Nd} (h : pg id = some nd) : kvs pg id = nd.kv := by unfold kvs; rw [h]
theorem kidsOf_eq {id : Nat} {nd : Nd} (h : pg id = some nd) : kidsOf pg id = nd.kids := by unfold kidsOf; rw [h]
theorem ids_self {m id : Nat} : id ∈ ids pg m id := by cases m <;> exact List.mem_cons_self
theorem Tr.node {m id : Nat} {f t : ByteArray} (T : Tr pg m id f t) : ∃ nd, pg id = some nd ∧ keysOk f t nd.l ∧ (nd.leaf = true ↔ m = 0) := by
  cases m with
  | zero => obtain ⟨nd, h1, h2, h3⟩ := T; exact ⟨nd, h1, h3, fun _ => rfl, fun _ => h2⟩
  | succ m => obtain ⟨nd, h1, h2, h3, h4⟩ := T; exact ⟨nd, h1, h3, (fun h => by rw [h2] at h; cases h), fun h => by cases h⟩
theorem Tr.in_pg : ∀ {m id : Nat} {f t : ByteArray}, Tr pg m id f t → ∀ i ∈ ids pg m id, (pg i).isSome = true
  | 0, id, f, t, T, i, hi => by
    obtain ⟨nd, h1, h2, h3⟩ := T
    rcases List.mem_cons.1 hi with rfl | hi
    · rw [h1]; rfl
    · cases hi
  | m + 1, id, f, t, T, i, hi => by
    obtain ⟨nd, h1, h2, h3, h4⟩ := T
    rcases List.mem_cons.1 hi with rfl | hi
    · rw [h1]; rfl
    · rw [kidsOf_eq h1] at hi
      obtain ⟨c, hc, hi⟩ := List.mem_flatMap.1 hi
      obtain ⟨j, hj⟩ := List.mem_iff_getElem?.1 hc
      exact Tr.in_pg (h4 j c hj) i hi
theorem Nd.kids_len (nd : Nd) : nd.kids.length = nd.l.length + 1 := by unfold Nd.kids; simp
theorem Tr.inj : ∀ {m m' id : Nat} {f t f' t' : ByteArray}, Tr pg m id f t → Tr pg m' id f' t' → m = m'
  | 0, 0, _, _, _, _, _, _, _ => rfl
  | 0, m' + 1, _, _, _, _, _, T, T' => by
    obtain ⟨nd, h1, h2, _⟩ := T
    obtain ⟨nd', h1', h2', _⟩ := T'
    rw [h1] at h1'; cases h1'; rw [h2] at h2'; cases h2'
  | m + 1, 0, _, _, _, _, _, T, T' => by
    obtain ⟨nd, h1, h2, _⟩ := T
    obtain ⟨nd', h1', h2', _⟩ := T'
    rw [h1] at h1'; cases h1'; rw [h2] at h2'; cases h2'
  | m + 1, m' + 1, _, _, _, _, _, T, T' => by
    obtain ⟨nd, h1, h2, _, h4⟩ := T
    obtain ⟨nd', h1', h2', _, h4'⟩ := T'
    rw [h1] at h1'; cases h1'
    have e : nd.kids[0]? = some nd.first := rfl
    rw [Tr.inj (h4 0 _ e) (h4' 0 _ e)]
theorem Tr.frame {pg' : Nat → Option Nd} : ∀ {m id : Nat} {f t : ByteArray}, Tr pg m id f t → (∀ i ∈ ids pg m id, pg' i = pg i) → Tr pg' m id f t ∧ ents pg' m id = ents pg m id ∧ ids pg' m id = ids pg m id
  | 0, id, f, t, T, H => by
    have h0 := H id ids_self
    obtain ⟨nd, h1, h2, h3⟩ := T
    rw [h1] at h0
    exact ⟨⟨nd, h0, h2, h3⟩, (kvs_eq h0).trans (kvs_eq h1).symm, rfl⟩
  | m + 1, id, f, t, T, H => by
    have h0 := H id ids_self
    obtain ⟨nd, h1, h2, h3, h4⟩ := T
    rw [h1] at h0
    have ek : kidsOf pg id = nd.kids := kidsOf_eq h1
    have sub : ∀ j c, nd.kids[j]? = some c → Tr pg' m c (nd.lo f j) (nd.hi t j) ∧ ents pg' m c = ents pg m c ∧ ids pg' m c = ids pg m c := fun j c hj => (h4 j c hj).frame fun i hi => H i (List.mem_cons_of_mem _ (by rw [ek]; exact List.mem_flatMap.2 ⟨c, List.mem_of_getElem? hj, hi⟩))
    refine ⟨⟨nd, h0, h2, h3, fun j c hj => (sub j c hj).1⟩, ?_, ?_⟩
    · unfold ents
      rw [kidsOf_eq h0, ek]
      have : ∀ L : List Nat, (∀ c ∈ L, c ∈ nd.kids) → L.flatMap (ents pg' m) = L.flatMap (ents pg m) := by
        intro L hL
        induction L with
        | nil => rfl
        | cons c L ih =>
          obtain ⟨j, hj⟩ := List.mem_iff_getElem?.1 (hL c List.mem_cons_self)
          rw [List.flatMap_cons, List.flatMap_cons, (sub j c hj).2.1, ih fun c hc => hL c (List.mem_cons_of_mem _ hc)]
      exact this _ fun c hc => hc
    · unfold ids
      rw [kidsOf_eq h0, ek]
      have : ∀ L : List Nat, (∀ c ∈ L, c ∈ nd.kids) → L.flatMap (ids pg' m) = L.flatMap (ids pg m) := by
        intro L hL
        induction L with
        | nil => rfl
        | cons c L ih =>
          obtain ⟨j, hj⟩ := List.mem_iff_getElem?.1 (hL c List.mem_cons_self)
          rw [List.flatMap_cons, List.flatMap_cons, (sub j c hj).2.2, ih fun c hc => hL c (List.mem_cons_of_mem _ hc)]
      rw [this _ fun c hc => hc]
def PgOk (pg : Nat → Option Nd) : Prop := ∀ i nd, pg i = some nd → NdOk nd
theorem may_key {k v : ByteArray} (h : may k v = true) : k ≠ eB := fun e => by
  unfold may at h
  have := (of_decide_eq_true h).1
  rw [e] at this
  exact absurd this (by decide)
theorem NdOk.key_ne {nd : Nd} (o : NdOk nd) {e : En} (he : e ∈ nd.l) : e.key ≠ eB := may_key (o.en e he).1
theorem Nd.lo_succ {nd : Nd} {f : ByteArray} {i : Nat} {e : En} (he : nd.l[i]? = some e) : nd.lo f (i + 1) = e.key := by unfold Nd.lo; simp only [he]
theorem Nd.hi_some {nd : Nd} {t : ByteArray} {i : Nat} {e : En} (he : nd.l[i]? = some e) : nd.hi t i = e.key := by unfold Nd.hi; simp only [he]
theorem Nd.hi_none {nd : Nd} {t : ByteArray} {i : Nat} (he : nd.l.length ≤ i) : nd.hi t i = t := by unfold Nd.hi; simp only [List.getElem?_eq_none he]
theorem blt_le_trans {a b c : ByteArray} (h1 : blt a b = true) (h2 : blt c b = false) : blt a c = true := by
  cases e : blt b c with
  | true => exact blt_trans h1 e
  | false => rw [← blt_total e h2]; exact h1
theorem le_trans_blt {a b c : ByteArray} (h1 : blt b a = false) (h2 : blt c b = false) : blt c a = false := by
  cases e : blt c a with
  | false => rfl
  | true =>
    cases e2 : blt a b with
    | true => rw [blt_trans e e2] at h2; cases h2
    | false => rw [← blt_total e2 h1] at h2; rw [e] at h2; cases h2
section
variable {nd : Nd} {f t : ByteArray} (o : NdOk nd) (H : keysOk f t nd.l)
include H
theorem lo_ge {j : Nat} (hj : j ≤ nd.l.length) : blt (nd.lo f j) f = false := by
  cases j with
  | zero => exact blt_irrefl f
  | succ i =>
    have he : nd.l[i]? = some nd.l[i] := List.getElem?_eq_getElem (by omega)
    rw [Nd.lo_succ he]
    exact ((keysOk_iff.1 H).1 _ (List.mem_of_getElem? he)).1
include o
theorem hi_le {j : Nat} {k : ByteArray} (hk : below (nd.hi t j) k) : below t k := by
  intro ht
  cases he : nd.l[j]? with
  | some e =>
    rw [Nd.hi_some he] at hk
    exact blt_trans (hk (o.key_ne (List.mem_of_getElem? he))) (((keysOk_iff.1 H).1 e (List.mem_of_getElem? he)).2 ht)
  | none =>
    rw [Nd.hi_none (List.getElem?_eq_none_iff.1 he)] at hk
    exact hk ht
theorem hi_lo {i j : Nat} (hij : i < j) (hj : j ≤ nd.l.length) {p q : ByteArray} (hp : below (nd.hi t i) p) (hq : blt q (nd.lo f j) = false) : blt p q = true := by
  obtain ⟨j', rfl⟩ : ∃ j', j = j' + 1 := ⟨j - 1, by omega⟩
  have he : nd.l[i]? = some nd.l[i] := List.getElem?_eq_getElem (by omega)
  have he' : nd.l[j']? = some nd.l[j'] := List.getElem?_eq_getElem (by omega)
  rw [Nd.hi_some he] at hp
  rw [Nd.lo_succ he'] at hq
  have h1 := hp (o.key_ne (List.mem_of_getElem? he))
  rcases Nat.lt_or_ge i j' with h' | h'
  · have h2 : blt nd.l[i].key nd.l[j'].key = true := sorted_lt (keysOk_iff.1 H).2 (Nd.kv_get he) (Nd.kv_get he') h'
    exact blt_le_trans (blt_trans h1 h2) hq
  · have : i = j' := by omega
    subst this
    exact blt_le_trans h1 hq
end
theorem pairwise_flat {α β : Type} {R : β → β → Prop} {g : α → List β} : ∀ {l : List α}, (∀ x ∈ l, (g x).Pairwise R) → (∀ (i j : Nat) (x y : α), i < j → l[i]? = some x → l[j]? = some y → ∀ p ∈ g x, ∀ q ∈ g y, R p q) → (l.flatMap g).Pairwise R
  | [], _, _ => List.Pairwise.nil
  | x :: l, h1, h2 => by
    rw [List.flatMap_cons, List.pairwise_append]
    refine ⟨h1 x List.mem_cons_self, pairwise_flat (fun y hy => h1 y (List.mem_cons_of_mem _ hy)) fun i j y z hij hi hj => h2 (i + 1) (j + 1) y z (by omega) hi hj, fun p hp q hq => ?_⟩
    obtain ⟨y, hy, hq⟩ := List.mem_flatMap.1 hq
    obtain ⟨j, hj⟩ := List.mem_iff_getElem?.1 hy
    exact h2 0 (j + 1) x y (by omega) rfl hj p hp q hq
theorem Tr.ents_ok (O : PgOk pg) : ∀ {m id : Nat} {f t : ByteArray}, Tr pg m id f t → (∀ p ∈ ents pg m id, blt p.1 f = false ∧ below t p.1 ∧ may p.1 p.2 = true) ∧ kvSorted (ents pg m id)
  | 0, id, f, t, T => by
    obtain ⟨nd, h1, h2, h3⟩ := T
    obtain ⟨g1, g2⟩ := keysOk_iff.1 h3
    unfold ents
    rw [kvs_eq h1]
    refine ⟨fun p hp => ?_, g2⟩
    obtain ⟨e, he, rfl⟩ := List.mem_map.1 hp
    exact ⟨(g1 e he).1, (g1 e he).2, ((O id nd h1).en e he).1⟩
  | m + 1, id, f, t, T => by
    obtain ⟨nd, h1, h2, h3, h4⟩ := T
    have o := O id nd h1
    have sub := fun j c hj => (h4 j c hj).ents_ok O
    have jl : ∀ {j c}, nd.kids[j]? = some c → j ≤ nd.l.length := fun {j c} hj => by
      have := (List.getElem?_eq_some_iff.1 hj).1
      rw [nd.kids_len] at this; omega
    unfold ents
    rw [kidsOf_eq h1]
    refine ⟨fun p hp => ?_, pairwise_flat (fun c hc => ?_) fun i j x y hij hi hj p hp q hq => ?_⟩
    · obtain ⟨c, hc, hp⟩ := List.mem_flatMap.1 hp
      obtain ⟨j, hj⟩ := List.mem_iff_getElem?.1 hc
      obtain ⟨a, b, c'⟩ := (sub j c hj).1 p hp
      exact ⟨le_trans_blt (lo_ge h3 (jl hj)) a, hi_le o h3 b, c'⟩
    · obtain ⟨j, hj⟩ := List.mem_iff_getElem?.1 hc
      exact (sub j c hj).2
    · exact hi_lo o h3 hij (jl hj) ((sub i x hi).1 p hp).2.1 ((sub j y hj).1 q hq).1
end Go.Proofs.YthbogjbcecmopaaDoor
namespace Go.Proofs.YthbogjbcecmopaaDoor
open Go.Gx
set_option maxRecDepth 100000
set_option linter.unusedVariables false
variable {h : Hp} {K : Value → Hp → Prop} {pb jb db n : Nat} {S : Nat → Prop} {D : Dk} {P : Pg}
def Pg.pgs (P : Pg) (D : Dk) (n : Nat) (i : Nat) : Option Nd := P.node D n (i : Nat)
theorem pgs_ok (E : PgAt h pb jb db S n D P) : PgOk (P.pgs D n) := fun i nd e => node_ok E e
theorem why_iff {P : Pg} {n i : Nat} : P.why n (i : Nat) = 0 ↔ P.used n (i : Nat) = true ∧ i ≠ 0 := by
  unfold Pg.why Pg.used
  constructor
  · intro e
    split at e
    · cases e
    · rename_i h1
      rw [Int.toNat_natCast] at e ⊢
      split at e
      · rename_i h2
        rw [decide_eq_true (by omega), decide_eq_true (by omega), h2]
        exact ⟨rfl, by omega⟩
      · cases e
  · rintro ⟨e, h0⟩
    rw [Bool.and_eq_true_iff, Bool.and_eq_true_iff, decide_eq_true_iff, decide_eq_true_iff] at e
    rw [if_neg (by omega), if_pos e.2.2]
theorem pgs_why {i : Nat} (e : (P.pgs D n i).isSome = true) : P.why n (i : Nat) = 0 := by
  unfold Pg.pgs Pg.node at e
  split at e
  · assumption
  · cases e
theorem pgs_lt {i : Nat} (e : (P.pgs D n i).isSome = true) : 1 ≤ i ∧ i < n := by
  obtain ⟨k, ek, h1, h2, h3⟩ := why_ok (pgs_why e)
  omega
structure CkAt (h : Hp) (tb kt km kb kh kw : Nat) (s : List Nat) (H : Nat) : Prop where
  t : Blk h kt 26 [.pointer (some ⟨tb, 0, none⟩)]
  m : ∃ o xs, h km = some o ∧ MapObj Tryd.prog 3 o xs ∧ ∀ i : Nat, mget xs (.int .i64 (i : Nat)) = if i ∈ s then some (.bool true) else none
  b : Blk h kb 94 [.map (some km)]
  hh : Blk h kh 3 [.int .i64 (H : Nat)]
  w : Blk h kw 95 [.func (.func 39) #[] #[.pointer (some ⟨kb, 0, none⟩), .pointer (some ⟨kt, 0, none⟩), .pointer (some ⟨kh, 0, none⟩), .pointer (some ⟨kw, 0, none⟩)]]
variable {tb k kt km kb kh kw : Nat}
theorem CkAt.ne_m {s : List Nat} {H : Nat} (C : CkAt h tb kt km kb kh kw s H) {c : Nat} {t : TypeId} {vs : List Value} (B : Blk h c t vs) : c ≠ km := by
  rintro rfl
  obtain ⟨o, xs, h1, ⟨es, cl, rfl, _⟩, _⟩ := C.m
  unfold Blk at B
  rw [B] at h1; cases h1
theorem CkAt.sub {s : List Nat} {H : Nat} {h' : Hp} (C : CkAt h tb kt km kb kh kw s H) (g : Sub h h') : CkAt h' tb kt km kb kh kw s H := by
  obtain ⟨o, xs, h1, h2⟩ := C.m
  exact ⟨C.t.sub g, ⟨o, xs, g _ _ h1, h2⟩, C.b.sub g, C.hh.sub g, C.w.sub g⟩
theorem CkAt.add {s : List Nat} {H : Nat} (C : CkAt h tb kt km kb kh kw s H) {o' : Obj} {xs : List (Value × Value)} {id : Nat} (hx : ∀ i : Nat, mget xs (.int .i64 (i : Nat)) = if i ∈ s then some (.bool true) else none) (ho : MapObj Tryd.prog 3 o' (mset xs (.int .i64 (id : Nat)) (.bool true))) :
    CkAt (h.upd km o') tb kt km kb kh kw (s ++ [id]) H := by
  have kp : Keep (fun c => c = km) h (h.upd km o') := Keep.upd _ (.inl rfl)
  refine ⟨C.t.keep kp (C.ne_m C.t), ⟨o', _, Hp.upd_same _ _ _, ho, fun i => ?_⟩, C.b.keep kp (C.ne_m C.b), C.hh.keep kp (C.ne_m C.hh), C.w.keep kp (C.ne_m C.w)⟩
  have h1 := mget_mset xs (.int .i64 (id : Nat)) (.bool true) (.int .i64 (i : Nat))
  by_cases e : i = id
  · rw [h1.1 (key_eq.2 e), if_pos (by rw [e]; exact List.mem_append_right _ (List.mem_singleton.2 rfl))]
  · rw [h1.2 (fun h => e (key_eq.1 h)), hx]
    by_cases e2 : i ∈ s
    · rw [if_pos e2, if_pos (List.mem_append_left _ e2)]
    · rw [if_neg e2, if_neg (fun h => (List.mem_append.1 h).elim e2 fun h => e (List.mem_singleton.1 h))]
theorem CkAt.high {s : List Nat} {H H' : Nat} (C : CkAt h tb kt km kb kh kw s H) : CkAt (h.put kh 0 [.int .i64 (H' : Nat)]) tb kt km kb kh kw s H' := by
  have ne : ∀ {c t vs}, Blk h c t vs → t ≠ 3 → c ≠ kh := fun {c t vs} B ht e => by subst e; exact ht (B.inj C.hh).1
  have mne : km ≠ kh := (C.ne_m C.hh).symm
  obtain ⟨o, xs, h1, h2⟩ := C.m
  exact ⟨C.t.put_ne _ _ (ne C.t (by decide)), ⟨o, xs, (put_ne _ _ _ mne).trans h1, h2⟩, C.b.put_ne _ _ (ne C.b (by decide)), C.hh.put 0 _, C.w.put_ne _ _ (ne C.w (by decide))⟩
theorem flat_take {α β : Type} {g : α → List β} {L : List α} {j : Nat} {c : α} (hc : L[j]? = some c) : (L.take (j + 1)).flatMap g = (L.take j).flatMap g ++ g c := by
  rw [List.take_add_one, hc, List.flatMap_append]; simp
theorem flat_sub {α β : Type} {g : α → List β} (L : List α) (j : Nat) : ((L.take j).flatMap g).Sublist (L.flatMap g) := by
  conv => rhs; rw [← List.take_append_drop j L, List.flatMap_append]
  exact List.sublist_append_left _ _
set_option maxHeartbeats 4000000 in
theorem check_walk (N : Nat) : ∀ {h : Hp} {K : Value → Hp → Prop} {s : List Nat} {H id depth : Nat} {f t : ByteArray}, n - s.length = N → PgAt h pb jb db S n D P → TrAt h tb pb k → ¬ S km → ¬ S kh → CkAt h tb kt km kb kh kw s H → s.Nodup → (∀ i ∈ s, i < n) → 1 ≤ depth → depth ≤ s.length + 1 →
    (∀ m h', Tr (P.pgs D n) m id f t → (s ++ ids (P.pgs D n) m id).Nodup → (H = 0 ∨ H = depth + m) → CkAt h' tb kt km kb kh kw (s ++ ids (P.pgs D n) m id) (depth + m) → Keep (fun c => c = km ∨ c = kh) h h' → K (.int .i64 0) h') →
    (∀ h', (¬ ∃ m, Tr (P.pgs D n) m id f t ∧ (s ++ ids (P.pgs D n) m id).Nodup ∧ (H = 0 ∨ H = depth + m)) → Keep (fun c => c = km ∨ c = kh) h h' → K (.int .i64 4) h') →
    CallsH Tryd.prog 39 #[.int .i64 (id : Nat), .int .i64 (depth : Nat), .string f, .string t, .pointer (some ⟨kb, 0, none⟩), .pointer (some ⟨kt, 0, none⟩), .pointer (some ⟨kh, 0, none⟩), .pointer (some ⟨kw, 0, none⟩)] h K := by
  induction N using Nat.strongRecOn with
  | ind N ih =>
  intro h K s H id depth f t hN E T nm nh C hs hsn hd1 hd h0 h4
  have hn := E.n2
  have hsl := nodup_below n s hs hsn
  have hpk := pgs_ok E
  apply btree_Tree_Check_1.calls
  unfold btree_Tree_Check_1.W
  refine ⟨fun x => h = x ∧ id ∉ s ∧ P.why n (id : Nat) = 0, ?_, ?_⟩
  · rintro x ⟨rfl, his, hw⟩
    obtain ⟨j, ej, j1, j2, j3⟩ := why_ok hw
    have : id = j := by omega
    subst this
    clear ej
    obtain ⟨o, xs, ho, hm, hx⟩ := C.m
    refine ⟨_, C.b.cell' 0 rfl, km, o, xs, rfl, ho, hm, fun o' hm' => ?_⟩
    have C1 := C.add hx hm'
    have kp1 : Keep (fun c => c = km ∨ c = kh) h (h.upd km o') := Keep.upd _ (.inl (.inl rfl))
    have s1 : (s ++ [id]).Nodup := by
      rw [List.nodup_append]
      exact ⟨hs, List.nodup_cons.2 ⟨List.not_mem_nil, List.nodup_nil⟩, fun a ha b hb e => his (by rw [List.mem_singleton.1 hb] at e; rw [← e]; exact ha)⟩
    have s1n : ∀ i ∈ s ++ [id], i < n := fun i hi => (List.mem_append.1 hi).elim (hsn i) fun h => by rw [List.mem_singleton.1 h]; exact j2
    have hsl1 := nodup_below n _ s1 s1n
    rw [List.length_append] at hsl1
    change s.length + 1 ≤ n at hsl1
    have E1 : PgAt (h.upd km o') pb jb db S n D P := E.out kp1 fun c hc h => h.elim (fun e => nm (e ▸ hc)) fun e => nh (e ▸ hc)
    have tne : tb ≠ km ∧ tb ≠ kh := ⟨C.ne_m T, fun e => by subst e; exact absurd (T.inj C.hh).1 (by decide)⟩
    have T1 : TrAt (h.upd km o') tb pb k := Blk.keep T kp1 fun h => h.elim tne.1 tne.2
    generalize h.upd km o' = y at C1 kp1 E1 T1 ⊢
    refine ⟨_, C1.t.cell' 0 rfl, fnI (cap := []) (by kernel_rfl) (load_spec E1 T1 _ (fun e y2 v hv hv4 g2 => ⟨_, _, rfl, split_ne (fun _ => ?_) fun e => absurd e hv⟩) fun nd end_ y2 k' N2 => ⟨_, _, rfl, split_ne (fun e => absurd rfl e) fun _ => ?_⟩)⟩
    · rw [hv4 hw]
      refine h4 y2 ?_ (kp1.trans (g2.keep _))
      rintro ⟨m, Tm, _⟩
      obtain ⟨nd, g1, _⟩ := Tm.node
      rw [show P.pgs D n id = none from e] at g1; cases g1
    have end2 : P.pgs D n id = some nd := end_
    have ok := hpk id nd end2
    have ll := ok.len
    obtain ⟨a, c, N2e, _⟩ := N2.ex
    have C2 := C1.sub N2.sub
    have E2 := E1.sub N2.sub
    have T2 : TrAt y2 tb pb k := Blk.sub T1 N2.sub
    have kp2 : Keep (fun c => c = km ∨ c = kh) h y2 := kp1.trans (N2.sub.keep _)
    have knm : k' ≠ km ∧ k' ≠ kh := by
      obtain ⟨o, _, h1, _⟩ := C1.m
      exact ⟨(fun e => by rw [← e, N2.k0] at h1; cases h1), fun e => by have h2 := C1.hh; unfold Blk at h2; rw [← e, N2.k0] at h2; cases h2⟩
    have anm : ∀ b, blkOf a b → ¬ (b = km ∨ b = kh) := fun b hb e => by
      obtain ⟨a', c', N2', fr⟩ := N2.ex
      have : a = a' := by
        have := N2e.c2.symm.trans N2'.c2
        cases this; rfl
      subst this
      have h1 := fr b hb
      rcases e with rfl | rfl
      · obtain ⟨o, _, h2, _⟩ := C1.m
        rw [h1] at h2; cases h2
      · have h2 := C1.hh; unfold Blk at h2; rw [h1] at h2; cases h2
    clear C1 E1 T1 N2 kp1 C E T ho hm hx hm'
    have bad : ¬ keysOk f t nd.l → ∀ x, y2 = x → K (.int .i64 4) x := fun hb x ex => by
      subst ex
      refine h4 _ ?_ kp2
      rintro ⟨m, Tm, _⟩
      obtain ⟨nd', g1, g2, _⟩ := Tm.node
      rw [end2] at g1; cases g1
      exact hb g2
    refine ⟨k', 0, rfl, _, _, _, N2e.c2, fun la i x m => ∃ j : Nat, i = (j : Int) ∧ m = nd.l.length - j ∧ j ≤ nd.l.length ∧ y2 = x ∧ ((j = 0 ∧ la = f) ∨ (0 < j ∧ (keysOk f t nd.l ↔ chain1 t la (nd.l.drop j)))), ⟨_, 0, rfl, rfl, Nat.zero_le _, rfl, .inl ⟨rfl, rfl⟩⟩, ?_⟩
    rintro la i x m ⟨j, rfl, rfl, hj, rfl, hla⟩
    refine split_dec (fun g => ?_) fun g => ?_
    · have g : (j : Int) < (nd.l.length : Int) := g
      have hj' : j < nd.l.length := by omega
      have he : nd.l[j]? = some nd.l[j] := List.getElem?_eq_getElem hj'
      have hdr : nd.l.drop j = nd.l[j] :: nd.l.drop (j + 1) := List.drop_eq_getElem_cons hj'
      obtain ⟨b, o, ea, g0, g1, g2⟩ := N2e.get he
      have e11 : IntKind.i64.wrap ((j : Int) + 1) = ((j + 1 : Nat) : Int) := by rw [wid (by omega) (by omega)]; omega
      refine ⟨by omega, g, b, o, ea, _, by rw [Int.toNat_natCast]; exact g0, _, by rw [Int.toNat_natCast]; exact g1, _, by rw [Int.toNat_natCast]; exact g2, ?_⟩
      rw [e11, bltS_val, bltS_val]
      have fin : (j = 0 → blt nd.l[j].key f = false) → (0 < j → blt la nd.l[j].key = true) → below t nd.l[j].key → (keysOk f t nd.l ↔ chain1 t nd.l[j].key (nd.l.drop (j + 1))) := fun q1 q2 q3 => by
        rcases hla with ⟨rfl, rfl⟩ | ⟨hj0, hk⟩
        · have e0 : nd.l = nd.l[0] :: nd.l.drop 1 := by rw [← hdr]; rfl
          conv => lhs; rw [e0]
          exact ⟨fun h => h.2.2, fun h => ⟨q1 rfl, q3, h⟩⟩
        · rw [hk, hdr]
          exact ⟨fun h => h.2.2, fun h => ⟨q2 hj0, q3, h⟩⟩
      refine split_dec (fun gp => ?_) fun gp => ?_
      · have hj0 : 0 < j := by have gp : (j : Int) > 0 := gp; omega
        obtain ⟨_, hk⟩ := hla.resolve_left fun h => by omega
        refine split_cond (fun e => bad (fun hb => ?_) _ rfl) fun e => split_cond (fun e2 => ?_) fun e2 => ?_
        · have := hk.1 hb
          rw [hdr] at this
          have h1 := this.1
          rw [beqS_val] at e
          rw [Bool.or_eq_true] at e
          rcases e with e | e
          · rw [blt_asymm h1] at e; cases e
          · rw [of_decide_eq_true e, blt_irrefl] at h1; cases h1
        · rw [e2] at e; cases e
        · have hlt : blt la nd.l[j].key = true := by
            have := ble_not nd.l[j].key la
            rw [e] at this; exact this.symm
          refine split_not (fun e3 => split_not (fun e4 => bad (fun hb => ?_) _ rfl) fun e4 => ?_) fun e3 => ?_
          · have := hk.1 hb
            rw [hdr] at this
            rw [this.2.1 (fun et => by rw [beqS_val, decide_eq_true et] at e3; cases e3)] at e4; cases e4
          · exact ⟨_, by omega, j + 1, rfl, rfl, hj', rfl, .inr ⟨by omega, fin (fun e => by omega) (fun _ => hlt) fun _ => e4⟩⟩
          · exact ⟨_, by omega, j + 1, rfl, rfl, hj', rfl, .inr ⟨by omega, fin (fun e => by omega) (fun _ => hlt) fun ht => by rw [beqS_val] at e3; exact absurd (of_decide_eq_true e3) ht⟩⟩
      · have hj0 : j = 0 := by have gp : ¬ (j : Int) > 0 := gp; omega
        obtain ⟨_, rfl⟩ := hla.resolve_right fun h => by omega
        subst hj0
        have e0 : nd.l = nd.l[0] :: nd.l.drop 1 := by rw [← hdr]; rfl
        refine split_cond (fun e => bad (fun hb => ?_) _ rfl) fun e => ?_
        · rw [e0] at hb
          rw [hb.1] at e; cases e
        · refine split_not (fun e3 => split_not (fun e4 => bad (fun hb => ?_) _ rfl) fun e4 => ?_) fun e3 => ?_
          · rw [e0] at hb
            rw [hb.2.1 (fun et => by rw [beqS_val, decide_eq_true et] at e3; cases e3)] at e4; cases e4
          · exact ⟨_, by omega, 1, rfl, rfl, hj', rfl, .inr ⟨by omega, fin (fun _ => e) (fun e => by omega) fun _ => e4⟩⟩
          · exact ⟨_, by omega, 1, rfl, rfl, hj', rfl, .inr ⟨by omega, fin (fun _ => e) (fun e => by omega) fun ht => by rw [beqS_val] at e3; exact absurd (of_decide_eq_true e3) ht⟩⟩
    · have hjl : j = nd.l.length := by have g : ¬ (j : Int) < (nd.l.length : Int) := g; omega
      have kok : keysOk f t nd.l := by
        rcases hla with ⟨h1, _⟩ | ⟨_, h2⟩
        · have : nd.l = [] := List.length_eq_zero_iff.1 (by omega)
          rw [this]; trivial
        · rw [h2, hjl, List.drop_length]; trivial
      clear hla bad g
      refine ⟨k', 0, rfl, _, N2e.c0, ?_⟩
      cases hlf : nd.leaf with
      | true =>
        have ek : ((nd.kind : Nat) : Int) = 1 := by unfold Nd.kind; rw [hlf]; rfl
        rw [ek]
        have T0 : Tr (P.pgs D n) 0 id f t := ⟨nd, end2, hlf, kok⟩
        refine split_eq (fun _ => ⟨_, C2.hh.cell' 0 rfl, split_eq (fun e0 => ⟨C2.hh.store (by show 1 ≤ 1; decide), _, (C2.hh.put 0 _).cell' 0 rfl, split_ne (fun e => absurd rfl e) fun _ => ?_⟩) fun e0 => ⟨_, C2.hh.cell' 0 rfl, split_ne (fun e1 => h4 _ ?_ kp2) fun e1 => ?_⟩⟩) fun e => absurd rfl e
        · exact h0 0 _ T0 s1 (.inl (by omega)) C2.high (kp2.trans (Keep.put _ _ _ _ (.inr rfl)))
        · rintro ⟨m, Tm, _, hH⟩
          have := Tm.inj T0
          omega
        · have : H = depth := by omega
          subst this
          exact h0 0 _ T0 s1 (.inr rfl) C2 kp2
      | false =>
        have ek : ((nd.kind : Nat) : Int) = 2 := by unfold Nd.kind; rw [hlf]; rfl
        rw [ek]
        refine split_eq (fun e => by cases e) fun _ => ?_
        have kl := nd.kids_len
        refine ⟨fun i x M => ∃ (j m : Nat), i = (j : Int) - 1 ∧ M = nd.kids.length - j ∧ j ≤ nd.kids.length ∧ CkAt x tb kt km kb kh kw (s ++ [id] ++ (nd.kids.take j).flatMap (ids (P.pgs D n) m)) (if j = 0 then H else depth + 1 + m) ∧
          (∀ i, i < j → ∀ c, nd.kids[i]? = some c → Tr (P.pgs D n) m c (nd.lo f i) (nd.hi t i)) ∧ (j ≠ 0 → H = 0 ∨ H = depth + 1 + m) ∧ (s ++ [id] ++ (nd.kids.take j).flatMap (ids (P.pgs D n) m)).Nodup ∧ Keep (fun c => c = km ∨ c = kh) y2 x, ⟨_, 0, 0, by decide, rfl, Nat.zero_le _, ?_, (fun i hi => by omega), (fun e => absurd rfl e), ?_, Keep.refl _ _⟩, ?_⟩
        · rw [List.take_zero, List.flatMap_nil, List.append_nil, if_pos rfl]; exact C2
        · rw [List.take_zero, List.flatMap_nil, List.append_nil]; exact s1
        rintro i x M ⟨j, m, rfl, rfl, hj, Cx, hT, hH, hnd, kpx⟩
        have outx : ∀ c, S c → ¬ (c = km ∨ c = kh) := fun c hc h => h.elim (fun e => nm (e ▸ hc)) fun e => nh (e ▸ hc)
        have Ex := E2.out kpx outx
        have Tx : TrAt x tb pb k := Blk.keep T2 kpx fun h => h.elim tne.1 tne.2
        have Nx := N2e.out kpx (fun h => h.elim knm.1 knm.2) anm
        refine ⟨k', 0, rfl, _, _, _, Nx.c2, split_dec (fun g => ?_) fun g => ?_⟩
        · have g : (j : Int) - 1 < (nd.l.length : Int) := g
          have hj' : j < nd.kids.length := by omega
          obtain ⟨c', hc'⟩ : ∃ c', nd.kids[j]? = some c' := ⟨_, List.getElem?_eq_getElem hj'⟩
          have e12 : IntKind.i64.wrap ((j : Int) - 1 + 1) = ((j + 1 : Nat) : Int) - 1 := by rw [wid (by omega) (by omega)]; omega
          have e13 : IntKind.i64.wrap ((depth : Int) + 1) = ((depth + 1 : Nat) : Int) := by rw [wid (by omega) (by omega)]; omega
          have sub : ∀ i ∈ s ++ [id] ++ (nd.kids.take j).flatMap (ids (P.pgs D n) m), i < n := fun i hi => by
            rcases List.mem_append.1 hi with hi | hi
            · exact s1n i hi
            · obtain ⟨c, hc, hi⟩ := List.mem_flatMap.1 hi
              obtain ⟨q, hq⟩ := List.mem_iff_getElem?.1 hc
              rw [List.getElem?_take] at hq
              split at hq
              · rename_i hqj
                exact (pgs_lt ((hT q hqj c hq).in_pg i hi)).2
              · cases hq
          have hl2 : (s ++ [id] ++ (nd.kids.take j).flatMap (ids (P.pgs D n) m)).length = s.length + 1 + ((nd.kids.take j).flatMap (ids (P.pgs D n) m)).length := by rw [List.length_append, List.length_append]; rfl
          have hl3 := nodup_below n _ hnd sub
          refine fnI (cap := []) (by kernel_rfl) (keys_spec Nx (by omega) (by omega) _ _ ⟨_, _, rfl, _, Cx.w.cell' 0 rfl, fnI (cap := []) (by kernel_rfl) (kid_spec Nx hc' ⟨_, rfl, Sub.refl _, fnI (cap := [_, _, _, _]) (by kernel_rfl) ?_⟩)⟩)
          rw [e12, e13]
          refine ih (n - (s ++ [id] ++ (nd.kids.take j).flatMap (ids (P.pgs D n) m)).length) (by omega) rfl Ex Tx nm nh Cx hnd sub (by omega) (by omega) (fun mc h' Tc ndc Hc Cc kpc => ⟨_, rfl, split_ne (fun e => absurd rfl e) fun _ => ⟨nd.kids.length - (j + 1), by omega, ?_⟩⟩) fun h' no kpc => ⟨_, rfl, split_ne (fun _ => h4 h' ?_ (kp2.trans (kpx.trans kpc))) fun e => by cases e⟩
          · have ec : j ≠ 0 → mc = m := fun hj0 => by
              rw [if_neg hj0] at Hc; omega
            have et : (nd.kids.take j).flatMap (ids (P.pgs D n) m) ++ ids (P.pgs D n) mc c' = (nd.kids.take (j + 1)).flatMap (ids (P.pgs D n) mc) := by
              rw [flat_take hc']
              by_cases hj0 : j = 0
              · subst hj0; rfl
              · rw [ec hj0]
            rw [List.append_assoc, et] at Cc ndc
            refine ⟨j + 1, mc, rfl, rfl, by omega, by rw [if_neg (by omega)]; exact Cc, fun i hi c hc => ?_, fun _ => ?_, ndc, kpx.trans kpc⟩
            · by_cases ei : i = j
              · subst ei
                rw [hc'] at hc; cases hc
                exact Tc
              · rw [ec (by omega)]
                exact hT i (by omega) c hc
            · by_cases hj0 : j = 0
              · rw [if_pos hj0] at Hc; exact Hc
              · rw [ec hj0]; exact hH hj0
          · rintro ⟨m2, Tm, ndm, Hm⟩
            cases m2 with
            | zero =>
              obtain ⟨nd', q1, q2, _⟩ := Tm
              rw [end2] at q1; cases q1; rw [hlf] at q2; cases q2
            | succ m2 =>
              obtain ⟨nd', q1, q2, q3, q4⟩ := Tm
              rw [end2] at q1; cases q1
              have em : j ≠ 0 → m2 = m := fun hj0 => (q4 0 nd.first rfl).inj (hT 0 (by omega) nd.first rfl)
              have et : (nd.kids.take j).flatMap (ids (P.pgs D n) m) = (nd.kids.take j).flatMap (ids (P.pgs D n) m2) := by
                by_cases hj0 : j = 0
                · subst hj0; rfl
                · rw [em hj0]
              refine no ⟨m2, q4 j c' hc', ?_, ?_⟩
              · rw [et, List.append_assoc, ← flat_take hc', List.append_assoc]
                refine ndm.sublist (List.Sublist.append_left ?_ s)
                show List.Sublist (id :: (nd.kids.take (j + 1)).flatMap (ids (P.pgs D n) m2)) _
                unfold ids
                rw [kidsOf_eq end2]
                exact List.Sublist.cons_cons _ (flat_sub _ _)
              · by_cases hj0 : j = 0
                · rw [if_pos hj0]; omega
                · rw [if_neg hj0, em hj0]; right; rfl
        · have hjl : j = nd.kids.length := by have g : ¬ (j : Int) - 1 < (nd.l.length : Int) := g; omega
          have hj0 : j ≠ 0 := by omega
          rw [if_neg hj0] at Cx
          rw [hjl, List.take_length] at Cx hnd
          have ei : s ++ [id] ++ nd.kids.flatMap (ids (P.pgs D n) m) = s ++ ids (P.pgs D n) (m + 1) id := by
            rw [List.append_assoc]
            congr 1
            unfold ids
            rw [kidsOf_eq end2]
            cases m <;> rfl
          rw [ei] at Cx hnd
          refine h0 (m + 1) x ⟨nd, end2, hlf, kok, fun i c hc => hT i (by have := (List.getElem?_eq_some_iff.1 hc).1; omega) c hc⟩ hnd ?_ ?_ (kp2.trans kpx)
          · have := hH hj0; omega
          · rw [show depth + (m + 1) = depth + 1 + m by omega]; exact Cx
  · obtain ⟨o, xs, ho, hm, hx⟩ := C.m
    have no : ∀ (q : ∀ m, Tr (P.pgs D n) m id f t → (s ++ ids (P.pgs D n) m id).Nodup → False), ¬ ∃ m, Tr (P.pgs D n) m id f t ∧ (s ++ ids (P.pgs D n) m id).Nodup ∧ (H = 0 ∨ H = depth + m) := fun q ⟨m, a, b, _⟩ => q m a b
    refine ⟨_, C.b.cell' 0 rfl, km, o, xs, rfl, ho, hm, ?_⟩
    have hxi := hx id
    by_cases his : id ∈ s
    · rw [if_pos his] at hxi
      refine ⟨true, true, .inl ⟨rfl, hxi⟩, split_cond (fun _ => h4 h (no fun m Tm ndm => ?_) (Keep.refl _ _)) fun e => by cases e⟩
      exact (List.nodup_append.1 ndm).2.2 id his id ids_self rfl
    · rw [if_neg his] at hxi
      refine ⟨false, false, .inr ⟨rfl, hxi, rfl⟩, split_cond (fun e => by cases e) fun _ => ⟨_, C.t.cell' 0 rfl, tb, 0, rfl, _, T.cell' 0 rfl, fnI (cap := []) (by kernel_rfl) (used_spec E _ ⟨_, rfl, split_not (fun eu => h4 h (no fun m Tm ndm => ?_) (Keep.refl _ _)) fun eu => split_eq (fun e0 => h4 h (no fun m Tm ndm => ?_) (Keep.refl _ _)) fun e0 => ⟨rfl, his, ?_⟩⟩)⟩⟩
      · have := why_iff.1 (pgs_why (Tm.in_pg id ids_self))
        rw [this.1] at eu; cases eu
      · exact (why_iff.1 (pgs_why (Tm.in_pg id ids_self))).2 (by omega)
      · exact why_iff.2 ⟨eu, by omega⟩
end Go.Proofs.YthbogjbcecmopaaDoor
namespace Go.Proofs.YthbogjbcecmopaaDoor
open Go.Gx
set_option maxRecDepth 100000
set_option linter.unusedVariables false
variable {h : Hp} {K : Value → Hp → Prop} {pb jb db n : Nat} {S : Nat → Prop} {D : Dk} {P : Pg} {tb k : Nat}
def Tree (pg : Nat → Option Nd) (root : Nat) (hg : Nat) (L : List KV) (I : List Nat) : Prop := match hg with
  | 0 => root = 0 ∧ L = [] ∧ I = []
  | m + 1 => root ≠ 0 ∧ Tr pg m root eB eB ∧ L = ents pg m root ∧ I = ids pg m root ∧ I.Nodup
theorem Tree.inj {pg : Nat → Option Nd} {root hg hg' : Nat} {L L' : List KV} {I I' : List Nat} (T : Tree pg root hg L I) (T' : Tree pg root hg' L' I') : hg = hg' ∧ L = L' ∧ I = I' := by
  cases hg with
  | zero =>
    cases hg' with
    | zero => exact ⟨rfl, T.2.1.trans T'.2.1.symm, T.2.2.trans T'.2.2.symm⟩
    | succ m' => exact absurd T.1 T'.1
  | succ m =>
    cases hg' with
    | zero => exact absurd T'.1 T.1
    | succ m' =>
      have := T.2.1.inj T'.2.1
      subst this
      exact ⟨rfl, T.2.2.1.trans T'.2.2.1.symm, T.2.2.2.1.trans T'.2.2.2.1.symm⟩
theorem fresh_put {h : Hp} {b : Nat} {t : TypeId} {vs us : List Value} (hb : h b = none) : Sub h ((h.upd b (.cells vs.toArray t (0, 0))).put b 0 us) ∧ Blk ((h.upd b (.cells vs.toArray t (0, 0))).put b 0 us) b t (setL vs 0 us) :=
  ⟨(Keep.put (fun c => c = b) _ _ _ rfl).sub (Sub.upd hb _) fun c e => by rw [e]; exact hb, (Blk.new h b t vs).put 0 us⟩
theorem S_out (E : PgAt h pb jb db S n D P) {c : Nat} (hc : h c = none) : ¬ S c := fun hs => E.in_heap hs hc
set_option maxHeartbeats 1000000 in
theorem check_spec (E : PgAt h pb jb db S n D P) (T : TrAt h tb pb k) (hk : k < 4) (hK : ∀ h' v, Sub h h' → ((v = 0 ∧ ∃ hg L I, Tree (P.pgs D n) (P.now.r k) hg L I) ∨ (v = 4 ∧ ¬ ∃ hg L I, Tree (P.pgs D n) (P.now.r k) hg L I)) → K (.int .i64 v) h') :
    CallsH Tryd.prog btree_Tree_Check.id #[.pointer (some ⟨tb, 0, none⟩)] h K := by
  have hn := E.n2
  apply btree_Tree_Check.calls
  unfold btree_Tree_Check.W
  intro k1 hk1
  have B1 := Blk.new h k1 26 [.pointer (some ⟨tb, 0, none⟩)]
  have s1 := Sub.upd hk1 (.cells [Value.pointer (some ⟨tb, 0, none⟩)].toArray 26 (0, 0))
  generalize h.upd k1 (.cells [Value.pointer (some ⟨tb, 0, none⟩)].toArray 26 (0, 0)) = y1 at B1 s1 ⊢
  refine ⟨_, B1.cell' 0 rfl, split_cond (fun e => by cases e) fun _ => ?_⟩
  intro k3 hk3 x4 hm k5 hk5
  have g3 := Hp.upd_same y1 k3 x4
  have s3 := Sub.upd hk3 x4
  generalize y1.upd k3 x4 = y2 at hk5 g3 s3 ⊢
  obtain ⟨s5, B5⟩ := fresh_put (t := 94) (vs := [.map none]) (us := [.map (some k3)]) hk5
  refine ⟨(Blk.new y2 k5 94 [.map none]).store (by show 1 ≤ 1; decide), fun k6 hk6 => ?_⟩
  generalize (y2.upd k5 (.cells [Value.map none].toArray 94 (0, 0))).put k5 0 [.map (some k3)] = y4 at s5 B5 hk6 ⊢
  obtain ⟨s6, B6⟩ := fresh_put (t := 3) (vs := [.int .i64 0]) (us := [.int .i64 0]) hk6
  refine ⟨(Blk.new y4 k6 3 [.int .i64 0]).store (by show 1 ≤ 1; decide), fun k7 hk7 => ?_⟩
  generalize (y4.upd k6 (.cells [Value.int .i64 0].toArray 3 (0, 0))).put k6 0 [.int .i64 0] = y6 at s6 B6 hk7 ⊢
  obtain ⟨s7, B7⟩ := fresh_put (t := 95) (vs := [.nilFunc]) (us := [.func (.func 39) #[] #[.pointer (some ⟨k5, 0, none⟩), .pointer (some ⟨k1, 0, none⟩), .pointer (some ⟨k6, 0, none⟩), .pointer (some ⟨k7, 0, none⟩)]]) hk7
  refine ⟨(Blk.new y6 k7 95 [.nilFunc]).store (by show 1 ≤ 1; decide), ?_⟩
  generalize (y6.upd k7 (.cells [Value.nilFunc].toArray 95 (0, 0))).put k7 0 [.func (.func 39) #[] #[.pointer (some ⟨k5, 0, none⟩), .pointer (some ⟨k1, 0, none⟩), .pointer (some ⟨k6, 0, none⟩), .pointer (some ⟨k7, 0, none⟩)]] = y8 at s7 B7 ⊢
  have s13 := s1.trans s3
  have s68 := s6.trans s7
  have s8 : Sub h y8 := (s13.trans s5).trans s68
  have C : CkAt y8 tb k1 k3 k5 k6 k7 [] 0 := ⟨B1.sub ((s3.trans s5).trans s68), ⟨x4, [], (s5.trans s68) _ _ g3, hm, fun i => rfl⟩, B5.sub s68, B6.sub s7, B7⟩
  have E8 := E.sub s8
  have T8 : TrAt y8 tb pb k := Blk.sub T s8
  refine ⟨_, C.t.cell' 0 rfl, tb, 0, rfl, _, T8.cell' 0 rfl, _, C.t.cell' 0 rfl, tb, 0, rfl, _, T8.cell' 1 rfl, fnI (cap := []) (by kernel_rfl) (root_spec E8 hk ⟨_, rfl, split_ne (fun e => ?_) fun e => ?_⟩)⟩
  · refine ⟨_, C.w.cell' 0 rfl, fnI (cap := [_, _, _, _]) (by kernel_rfl) (check_walk _ (id := P.now.r k) (depth := 1) rfl E8 T8 (S_out E (s1.none hk3)) (S_out E ((s13.trans s5).none hk6)) C List.nodup_nil (fun i hi => by cases hi) (by decide) (by decide) (fun m h' Tm nd _ _ kp => ⟨_, rfl, hK h' _ ?_ (.inl ⟨rfl, m + 1, _, _, ?_, Tm, rfl, rfl, by simpa using nd⟩)⟩) fun h' no kp => ⟨_, rfl, hK h' _ ?_ (.inr ⟨rfl, ?_⟩)⟩)⟩
    · exact kp.sub s8 fun c hc => hc.elim (fun e => by rw [e]; exact s1.none hk3) fun e => by rw [e]; exact (s13.trans s5).none hk6
    · omega
    · exact kp.sub s8 fun c hc => hc.elim (fun e => by rw [e]; exact s1.none hk3) fun e => by rw [e]; exact (s13.trans s5).none hk6
    · rintro ⟨hg, L, I, TT⟩
      cases hg with
      | zero => exact e (by rw [TT.1]; rfl)
      | succ m => exact no ⟨m, TT.2.1, by rw [List.nil_append, ← TT.2.2.2.1]; exact TT.2.2.2.2, .inl rfl⟩
  · exact hK y8 0 s8 (.inl ⟨rfl, 0, [], [], by omega, rfl, rfl⟩)
theorem open_spec (E : PgAt h pb jb db S n D P) (hk : k < 4) (hG : ∀ h' tb, Sub h h' → h tb = none → TrAt h' tb pb k → (∃ hg L I, Tree (P.pgs D n) (P.now.r k) hg L I) → K (.tuple #[.pointer (some ⟨tb, 0, none⟩), .int .i64 0]) h')
    (hB : (¬ ∃ hg L I, Tree (P.pgs D n) (P.now.r k) hg L I) → ∀ h', Sub h h' → K (.tuple #[.pointer none, .int .i64 4]) h') : CallsH Tryd.prog btree_Open.id #[.pointer (some ⟨pb, 0, none⟩), .int .i64 (k : Nat)] h K := by
  apply btree_Open.calls
  unfold btree_Open.W
  refine ⟨fun x => h = x, ?_, split_dec (fun e => by omega) fun _ => split_dec (fun e => by omega) fun _ => rfl⟩
  rintro x rfl k3 hk3
  have s3 := Sub.upd hk3 (.cells [Value.pointer (some ⟨pb, 0, none⟩), .int .i64 (k : Nat)].toArray 62 (0, 0))
  have T : TrAt _ k3 pb k := Blk.new h k3 62 [.pointer (some ⟨pb, 0, none⟩), .int .i64 (k : Nat)]
  refine check_spec (E.sub s3) T hk fun h' v s4 hv => ⟨_, rfl, ?_⟩
  rcases hv with ⟨rfl, hv⟩ | ⟨rfl, hv⟩
  · exact split_ne (fun e => absurd rfl e) fun _ => hG h' k3 (s3.trans s4) hk3 (Blk.sub T s4) hv
  · exact split_ne (fun _ => hB hv h' (s3.trans s4)) fun e => by cases e
theorem opened_spec (q : Nat) (h1 : 2 ≤ q) (h2 : q ≤ 24) (hK : ∀ h' tb pb jb db S, Sub h h' → PgAt h' pb jb db S q (Dk.new (8 * q + 1)) newPg → (∀ c, S c → h c = none) → TrAt h' tb pb 1 → h tb = none → ¬ S tb → K (.tuple #[.pointer (some ⟨db, 0, none⟩), .pointer (some ⟨pb, 0, none⟩), .pointer (some ⟨tb, 0, none⟩)]) h') :
    CallsH Tryd.prog law15_opened.id #[.int .i64 (q : Nat)] h K := by
  apply law15_opened.calls
  unfold law15_opened.W
  refine split_dec (fun e => by omega) fun _ => split_dec (fun e => by omega) fun _ => ?_
  have e1 : IntKind.i64.wrap (IntKind.i64.wrap (8 * (q : Int)) + 1) = ((8 * q + 1 : Nat) : Int) := by rw [wid (x := 8 * (q : Int)) (by omega) (by omega), wid (by omega) (by omega)]; omega
  rw [e1]
  refine dnew_spec (8 * q + 1) (by omega) (by omega) fun h3 db S3 D3 s3 f3 => ⟨_, _, rfl, ?_⟩
  refine jopen_spec D3 rfl q (by omega) (by omega) (by show _ ≤ (List.replicate _ _).length; rw [List.length_replicate]; exact Nat.le_refl _) (new_read _ (by omega)) fun h4 jb S4 J4 s4 f4 => ⟨_, _, rfl, ?_⟩
  have hz := new_own (8 * q + 1) q 0 (by omega)
  refine popen_spec J4 rfl h1 (fun e => absurd hz e) fun H hH h5 pb S5 n5 st5 E => ⟨_, _, rfl, ?_⟩
  rcases hH with ⟨_, rfl⟩ | ⟨e, _⟩
  · have fr : ∀ c, S5 c → h c = none := fun c hc => by
      rcases st5.2 c hc with h' | h'
      · rcases f4 c h' with h' | h'
        · exact f3 c h'
        · exact s3.none h'
      · exact s3.none (s4.none h')
    have s5 : Sub h h5 := st5.1.sub (s3.trans s4) fun c hc => by
      rcases f4 c hc with h' | h'
      · exact f3 c h'
      · exact s3.none h'
    refine open_spec E (k := 1) (by decide) (fun h6 tb s6 n6 T _ => ⟨_, _, rfl, hK h6 tb pb jb db S5 (s5.trans s6) (E.sub s6) fr T (s5.none n6) (S_out E n6)⟩) fun no => absurd ⟨0, [], [], rfl, rfl, rfl⟩ no
  · exact absurd hz e
theorem height_spec (E : PgAt h pb jb db S n D P) (T : TrAt h tb pb k) (hk : k < 4) {hg : Nat} {L : List KV} {I : List Nat} (TT : Tree (P.pgs D n) (P.now.r k) hg L I) (hhg : hg ≤ 1000) (hK : ∀ h', Sub h h' → K (.int .i64 (hg : Nat)) h') :
    CallsH Tryd.prog btree_Tree_Height.id #[.pointer (some ⟨tb, 0, none⟩)] h K := by
  have hpk := pgs_ok E
  apply btree_Tree_Height.calls
  unfold btree_Tree_Height.W
  refine ⟨_, T.cell' 0 rfl, _, T.cell' 1 rfl, root_spec E hk ⟨_, rfl, ?_⟩⟩
  refine ⟨fun i id x m => ∃ a c : Nat, i = (a : Int) ∧ id = (c : Int) ∧ a + m = hg ∧ Sub h x ∧ (m = 0 → c = 0) ∧ ∀ m', m = m' + 1 → c ≠ 0 ∧ ∃ f t, Tr (P.pgs D n) m' c f t, ⟨hg, 0, P.now.r k, rfl, rfl, Nat.zero_add _, Sub.refl h, ?_, ?_⟩, ?_⟩
  · intro e; subst e; exact TT.1
  · rintro m' rfl; exact ⟨TT.1, _, _, TT.2.1⟩
  rintro i id x m ⟨a, c, rfl, rfl, ham, sx, hz, hs⟩
  refine split_ne (fun e => ?_) fun e => ?_
  · obtain ⟨m', rfl⟩ : ∃ m', m = m' + 1 := by
      cases m with
      | zero => exact absurd (by rw [hz rfl]; rfl) e
      | succ m' => exact ⟨m', rfl⟩
    obtain ⟨c0, f, t, Tm⟩ := hs m' rfl
    have e1 : IntKind.i64.wrap ((a : Int) + 1) = ((a + 1 : Nat) : Int) := by rw [wid (by omega) (by omega)]; omega
    rw [e1]
    refine load_spec (E.sub sx) (Blk.sub T sx) _ (fun e => ?_) fun nd e y k' N => ⟨_, _, rfl, split_ne (fun e => absurd rfl e) fun _ => ?_⟩
    · obtain ⟨nd, g1, _⟩ := Tm.node
      rw [show P.pgs D n c = none from e] at g1; cases g1
    · obtain ⟨al, cl, Ne, _⟩ := N.ex
      have sy := sx.trans N.sub
      refine ⟨k', 0, rfl, _, Ne.c0, split_eq (fun ek => ?_) fun ek => ?_⟩
      · obtain ⟨nd', g1, g2, g3⟩ := Tm.node
        rw [show P.pgs D n c = some nd from e] at g1; cases g1
        have : m' = 0 := g3.1 (by
          cases hlf : nd.leaf with
          | true => rfl
          | false => unfold Nd.kind at ek; rw [hlf] at ek; cases ek)
        subst this
        have : a + 1 = hg := by omega
        rw [this]; exact hK y sy
      · cases m' with
        | zero =>
          obtain ⟨nd', g1, g2, g3⟩ := Tm
          rw [show P.pgs D n c = some nd from e] at g1; cases g1
          unfold Nd.kind at ek; rw [g2] at ek; exact absurd rfl ek
        | succ m2 =>
          obtain ⟨nd', g1, g2, g3, g4⟩ := Tm
          rw [show P.pgs D n c = some nd from e] at g1; cases g1
          have T0 := g4 0 nd.first rfl
          refine ⟨k', 0, rfl, _, Ne.c1, m2 + 1, by omega, a + 1, nd.first, rfl, rfl, by omega, sy, (fun h => by cases h), fun m3 h3 => ?_⟩
          cases h3
          refine ⟨?_, _, _, T0⟩
          have := pgs_lt (T0.in_pg _ ids_self)
          omega
  · cases m with
    | zero => rw [show a = hg by omega]; exact hK x sx
    | succ m' => exact absurd (by omega) (hs m' rfl).1
end Go.Proofs.YthbogjbcecmopaaDoor
namespace Go.Proofs.YthbogjbcecmopaaDoor
open Go.Gx
set_option maxRecDepth 100000
set_option linter.unusedVariables false
variable {h : Hp} {K : Value → Hp → Prop} {pb jb db n : Nat} {S : Nat → Prop} {D : Dk} {P : Pg} {tb k : Nat}
theorem get_kid {pg : Nat → Option Nd} (O : PgOk pg) {m id c : Nat} {f t key : ByteArray} {nd : Nd} (e : pg id = some nd) (T : Tr pg (m + 1) id f t) (hc : nd.kids[kvBe key nd.kv]? = some c) : kvGet key (ents pg (m + 1) id) = kvGet key (ents pg m c) := by
  have s1 := (T.ents_ok O).2
  obtain ⟨nd', g1, g2, g3, g4⟩ := T
  rw [e] at g1; cases g1
  have sub := fun j c hj => (g4 j c hj).ents_ok O
  have s2 := (sub _ c hc).2
  have hbe := kvBe_le key nd.kv
  rw [nd.kv_len] at hbe
  apply Option.ext
  intro v
  show kvGet key _ = some v ↔ kvGet key _ = some v
  rw [kvGet_iff s1, kvGet_iff s2]
  unfold ents
  rw [kidsOf_eq e]
  constructor
  · intro hm
    obtain ⟨c', hc', hm⟩ := List.mem_flatMap.1 hm
    obtain ⟨j, hj⟩ := List.mem_iff_getElem?.1 hc'
    obtain ⟨q1, q2, q3⟩ := (sub j c' hj).1 _ hm
    have jl : j ≤ nd.l.length := by
      have := (List.getElem?_eq_some_iff.1 hj).1
      rw [nd.kids_len] at this; omega
    rcases Nat.lt_trichotomy j (kvBe key nd.kv) with h' | h' | h'
    · have he : nd.l[j]? = some nd.l[j] := List.getElem?_eq_getElem (by omega)
      have := kvBe_before key nd.kv j _ (Nd.kv_get he) h'
      rw [Nd.hi_some he] at q2
      have q2 : blt key nd.l[j].key = true := q2 ((O id nd e).key_ne (List.mem_of_getElem? he))
      rw [show blt key nd.l[j].key = false from this] at q2; cases q2
    · subst h'
      rw [hc] at hj; cases hj
      cases m <;> exact hm
    · obtain ⟨i, rfl⟩ : ∃ i, j = i + 1 := ⟨j - 1, by omega⟩
      have he : nd.l[i]? = some nd.l[i] := List.getElem?_eq_getElem (by omega)
      have := kvBe_after (keysOk_iff.1 g3).2 (Nd.kv_get he) (by omega : kvBe key nd.kv ≤ i)
      rw [Nd.lo_succ he] at q1
      rw [show blt key nd.l[i].key = true from this] at q1; cases q1
  · intro hm
    exact List.mem_flatMap.2 ⟨c, List.mem_of_getElem? hc, by cases m <;> exact hm⟩
theorem get_spec (E : PgAt h pb jb db S n D P) (T : TrAt h tb pb k) (hk : k < 4) {hg : Nat} {L : List KV} {I : List Nat} (TT : Tree (P.pgs D n) (P.now.r k) hg L I) (key : ByteArray) (hK : ∀ h', Sub h h' → K (.tuple #[.string ((kvGet key L).getD eB), .bool (kvGet key L).isSome]) h') :
    CallsH Tryd.prog btree_Tree_Get.id #[.pointer (some ⟨tb, 0, none⟩), .string key] h K := by
  have hpk := pgs_ok E
  apply btree_Tree_Get.calls
  unfold btree_Tree_Get.W
  refine ⟨_, T.cell' 0 rfl, _, T.cell' 1 rfl, root_spec E hk ⟨_, rfl, ?_⟩⟩
  refine ⟨fun id x m => ∃ c : Nat, id = (c : Int) ∧ Sub h x ∧ (m = 0 → c = 0 ∧ kvGet key L = none) ∧ ∀ m', m = m' + 1 → c ≠ 0 ∧ (∃ f t, Tr (P.pgs D n) m' c f t) ∧ kvGet key L = kvGet key (ents (P.pgs D n) m' c), ⟨hg, P.now.r k, rfl, Sub.refl h, ?_, ?_⟩, ?_⟩
  · intro e; subst e; exact ⟨TT.1, by rw [TT.2.1]; rfl⟩
  · rintro m' rfl; exact ⟨TT.1, ⟨_, _, TT.2.1⟩, by rw [TT.2.2.1]⟩
  rintro id x m ⟨c, rfl, sx, hz, hs⟩
  refine split_ne (fun e => ?_) fun e => ?_
  · obtain ⟨m', rfl⟩ : ∃ m', m = m' + 1 := by
      cases m with
      | zero => exact absurd (by rw [(hz rfl).1]; rfl) e
      | succ m' => exact ⟨m', rfl⟩
    obtain ⟨c0, ⟨f, t, Tm⟩, hget⟩ := hs m' rfl
    refine load_spec (E.sub sx) (Blk.sub T sx) _ (fun e => ?_) fun nd e y k' N => ⟨_, _, rfl, split_ne (fun e => absurd rfl e) fun _ => ?_⟩
    · obtain ⟨nd, g1, _⟩ := Tm.node
      rw [show P.pgs D n c = none from e] at g1; cases g1
    have e : P.pgs D n c = some nd := e
    have ok := hpk c nd e
    have ll := ok.len
    obtain ⟨al, cl, Ne, _⟩ := N.ex
    have sy := sx.trans N.sub
    have srt : kvSorted nd.kv := by
      obtain ⟨nd', g1, g2, _⟩ := Tm.node
      rw [e] at g1; cases g1
      exact (keysOk_iff.1 g2).2
    refine ⟨k', 0, rfl, _, Ne.c0, split_eq (fun ek => ?_) fun ek => ?_⟩
    · have : m' = 0 := by
        obtain ⟨nd', g1, g2, g3⟩ := Tm.node
        rw [e] at g1; cases g1
        refine g3.1 ?_
        cases hlf : nd.leaf with
        | true => rfl
        | false => unfold Nd.kind at ek; rw [hlf] at ek; cases ek
      subst this
      have hL : kvGet key L = kvGet key nd.kv := by rw [hget]; unfold ents; rw [kvs_eq e]
      refine place_spec Ne srt (by omega) key fun z sz => ⟨_, rfl, ?_⟩
      have Nz := Ne.sub sz
      have syz := sy.trans sz
      have hat := kvAt_le key nd.kv
      rw [nd.kv_len] at hat
      refine ⟨k', 0, rfl, _, _, _, Nz.c2, split_eq (fun e2 => ?_) fun e2 => ?_⟩
      · have e2 : ((kvAt key nd.kv : Nat) : Int) = ((nd.l.length : Nat) : Int) := e2
        have : kvGet key L = none := by
          rw [hL]
          unfold kvGet kvIs
          rw [List.getElem?_eq_none (by rw [nd.kv_len]; omega)]; rfl
        rw [this] at hK
        exact hK z syz
      · have e2 : ((kvAt key nd.kv : Nat) : Int) ≠ ((nd.l.length : Nat) : Int) := e2
        have he : nd.l[kvAt key nd.kv]? = some (nd.l[kvAt key nd.kv]'(by omega)) := List.getElem?_eq_getElem (by omega)
        generalize nd.l[kvAt key nd.kv]'(by omega) = en at he
        obtain ⟨b, o, ea, g0, g1, g2⟩ := Nz.get he
        have hkv := Nd.kv_get he
        refine ⟨k', 0, rfl, _, _, _, Nz.c2, by omega, by show ((kvAt key nd.kv : Nat) : Int) < ((nd.l.length : Nat) : Int); omega, b, o, ea, _, by rw [Int.toNat_natCast]; exact g0, ?_⟩
        refine split_not (fun e3 => ?_) fun e3 => ?_
        · rw [beqS_val] at e3
          have : kvGet key L = none := by
            rw [hL]
            unfold kvGet kvIs
            rw [hkv]
            show (if decide (en.key = key) = true then _ else _) = _
            rw [e3]; rfl
          rw [this] at hK
          exact hK z syz
        · rw [beqS_val] at e3
          have : kvGet key L = some en.val := by
            rw [hL]
            unfold kvGet kvIs
            rw [hkv]
            show (if decide (en.key = key) = true then _ else _) = _
            rw [e3]; rfl
          rw [this] at hK
          exact ⟨k', 0, rfl, _, _, _, Nz.c2, by omega, by show ((kvAt key nd.kv : Nat) : Int) < ((nd.l.length : Nat) : Int); omega, b, o, ea, _, by rw [Int.toNat_natCast]; exact g1, hK z syz⟩
    · cases m' with
      | zero =>
        obtain ⟨nd', g1, g2, g3⟩ := Tm
        rw [e] at g1; cases g1
        unfold Nd.kind at ek; rw [g2] at ek; exact absurd rfl ek
      | succ m2 =>
        have hbe := kvBe_le key nd.kv
        rw [nd.kv_len] at hbe
        obtain ⟨c', hc'⟩ : ∃ c', nd.kids[kvBe key nd.kv]? = some c' := ⟨_, List.getElem?_eq_getElem (by rw [nd.kids_len]; omega)⟩
        have gk := get_kid hpk e Tm hc'
        obtain ⟨nd', g1, g2, g3, g4⟩ := Tm
        rw [e] at g1; cases g1
        refine below_spec Ne srt (by omega) key fun z sz => ⟨_, rfl, kid_spec (Ne.sub sz) hc' ⟨_, rfl, m2 + 1, by omega, c', rfl, sy.trans sz, (fun h => by cases h), fun m3 h3 => ?_⟩⟩
        cases h3
        have T0 := g4 _ c' hc'
        refine ⟨?_, ⟨_, _, T0⟩, hget.trans gk⟩
        have := pgs_lt (T0.in_pg _ ids_self)
        omega
  · cases m with
    | zero =>
      rw [(hz rfl).2] at hK
      exact hK x sx
    | succ m' => exact absurd (by omega) (hs m' rfl).1
def idsP (pg : Nat → Option Nd) : Nat → Nat → List Nat
  | 0, id => [id]
  | m + 1, id => (kidsOf pg id).flatMap (idsP pg m) ++ [id]
theorem idsP_mem {pg : Nat → Option Nd} : ∀ {m id : Nat}, (idsP pg m id).Perm (ids pg m id)
  | 0, id => List.Perm.refl _
  | m + 1, id => by
    unfold idsP ids
    refine List.perm_append_comm.trans (List.Perm.cons _ ?_)
    induction kidsOf pg id with
    | nil => exact List.Perm.refl _
    | cons c l ih => rw [List.flatMap_cons, List.flatMap_cons]; exact idsP_mem.append ih
def visit (pg : Nat → Option Nd) : Nat → Nat → List Nat
  | 0, _ => []
  | m + 1, root => idsP pg m root
theorem visit_perm {pg : Nat → Option Nd} {root hg : Nat} {L : List KV} {I : List Nat} (T : Tree pg root hg L I) : (visit pg hg root).Perm I := by
  cases hg with
  | zero => rw [T.2.2]; exact List.Perm.refl _
  | succ m => rw [T.2.2.2.1]; exact idsP_mem
structure EwAt (h : Hp) (tb k1 k2 k3 : Nat) (f : Value) : Prop where
  t : Blk h k1 26 [.pointer (some ⟨tb, 0, none⟩)]
  f : Blk h k2 75 [f]
  w : Blk h k3 123 [.func (.func 71) #[] #[.pointer (some ⟨k1, 0, none⟩), .pointer (some ⟨k3, 0, none⟩), .pointer (some ⟨k2, 0, none⟩)]]
theorem EwAt.sub {h' : Hp} {k1 k2 k3 : Nat} {f : Value} (C : EwAt h tb k1 k2 k3 f) (s : Sub h h') : EwAt h' tb k1 k2 k3 f := ⟨C.t.sub s, C.f.sub s, C.w.sub s⟩
theorem EwAt.keep {S' : Nat → Prop} {h' : Hp} {k1 k2 k3 : Nat} {f : Value} (C : EwAt h tb k1 k2 k3 f) (s : Keep S' h h') (h1 : ¬ S' k1) (h2 : ¬ S' k2) (h3 : ¬ S' k3) : EwAt h' tb k1 k2 k3 f := ⟨C.t.keep s h1, C.f.keep s h2, C.w.keep s h3⟩
set_option maxHeartbeats 1000000 in
theorem each_walk {B k1 k2 k3 : Nat} {fv : Value} {I : List Nat → (Nat → Prop) → Hp → Prop} (hsub : ∀ {L M x y}, I L M x → Sub x y → I L M y) (hin : ∀ {L M x c}, I L M x → M c → x c ≠ none)
    (hdo : ∀ {L M x id nd k' a c}, L.length < B → I L M x → P.pgs D n id = some nd → NdEx x k' a c nd → ∀ K' : Value → Hp → Prop, (∀ x' M', I (L ++ [id]) M' x' → Step M x M' x' → K' (.tuple #[]) x') → FnH Tryd.prog fv [.int .i64 (id : Nat), .pointer (some ⟨k', 0, none⟩)] x K') :
    ∀ (m : Nat) {h : Hp} {K : Value → Hp → Prop} {id : Nat} {f t : ByteArray} {L : List Nat} {M : Nat → Prop}, Tr (P.pgs D n) m id f t → I L M h → PgAt h pb jb db S n D P → TrAt h tb pb k → EwAt h tb k1 k2 k3 fv → (∀ c, S c → ¬ M c) → ¬ M tb → ¬ M k1 → ¬ M k2 → ¬ M k3 → L.length + (idsP (P.pgs D n) m id).length ≤ B →
      (∀ h' M', I (L ++ idsP (P.pgs D n) m id) M' h' → Step M h M' h' → K (.tuple #[]) h') → CallsH Tryd.prog 71 #[.int .i64 (id : Nat), .pointer (some ⟨k1, 0, none⟩), .pointer (some ⟨k3, 0, none⟩), .pointer (some ⟨k2, 0, none⟩)] h K := by
  intro m
  induction m with
  | zero =>
    intro h K id f t L M Tm Ih E T W nS nt n1 n2 n3 hB hK
    apply btree_Tree_each_1.calls
    unfold btree_Tree_each_1.W
    obtain ⟨nd, g1, g2, g3⟩ := Tm
    refine ⟨_, W.t.cell' 0 rfl, fnI (cap := []) (by kernel_rfl) (load_spec E T _ (fun e => ?_) fun nd' e y k' N => ⟨_, _, rfl, split_ne (fun e => absurd rfl e) fun _ => ?_⟩)⟩
    · rw [show P.pgs D n id = none from e] at g1; cases g1
    · rw [show P.pgs D n id = some nd' from e] at g1; cases g1
      obtain ⟨a, c, Ne, _⟩ := N.ex
      refine ⟨k', 0, rfl, _, Ne.c0, split_eq (fun ek => ?_) fun ek => ?_⟩
      · unfold Nd.kind at ek; rw [g2] at ek; cases ek
      · exact ⟨_, (W.sub N.sub).f.cell' 0 rfl, hdo hB (hsub Ih N.sub) e Ne _ fun x' M' I' st => ⟨rfl, hK x' M' I' ((Step.sub N.sub).trans st)⟩⟩
  | succ m ih =>
    intro h K id f t L M Tm Ih E T W nS nt n1 n2 n3 hB hK
    have hpk := pgs_ok E
    apply btree_Tree_each_1.calls
    unfold btree_Tree_each_1.W
    obtain ⟨nd, g1, g2, g3, g4⟩ := Tm
    refine ⟨_, W.t.cell' 0 rfl, fnI (cap := []) (by kernel_rfl) (load_spec E T _ (fun e => ?_) fun nd' e y k' N => ⟨_, _, rfl, split_ne (fun e => absurd rfl e) fun _ => ?_⟩)⟩
    · rw [show P.pgs D n id = none from e] at g1; cases g1
    have e : P.pgs D n id = some nd' := e
    rw [e] at g1; cases g1
    obtain ⟨a, c, Ne, fr⟩ := N.ex
    have ll := (hpk id nd e).len
    have kl := nd.kids_len
    have el : (idsP (P.pgs D n) (m + 1) id) = nd.kids.flatMap (idsP (P.pgs D n) m) ++ [id] := by
      rw [← kidsOf_eq e]
      cases m <;> rfl
    rw [el, List.length_append] at hB
    refine ⟨k', 0, rfl, _, Ne.c0, split_eq (fun ek => ?_) fun ek => ?_⟩
    · have Iy := hsub Ih N.sub
      have Ey := E.sub N.sub
      have Ty : TrAt y tb pb k := Blk.sub T N.sub
      have Wy := W.sub N.sub
      have nk : ¬ M k' := fun hm => hin Ih hm N.k0
      have na : ∀ b, blkOf a b → ¬ M b := fun b hb hm => hin Ih hm (fr b hb)
      refine ⟨fun i x M0 => ∃ (j : Nat) (Mx : Nat → Prop), i = (j : Int) - 1 ∧ M0 = nd.kids.length - j ∧ j ≤ nd.kids.length ∧ I (L ++ (nd.kids.take j).flatMap (idsP (P.pgs D n) m)) Mx x ∧ Step M y Mx x, ⟨_, 0, M, by decide, rfl, Nat.zero_le _, by rw [List.take_zero, List.flatMap_nil, List.append_nil]; exact Iy, Step.refl _ _⟩, ?_⟩
      rintro i x M0 ⟨j, Mx, rfl, rfl, hj, Ix, st⟩
      have keepB : ∀ {c o}, y c = some o → ¬ M c → ¬ Mx c := fun {c o} hc hn => (st.out hc hn).2
      have Ex := Ey.out st.1 nS
      have Tx : TrAt x tb pb k := Blk.keep Ty st.1 nt
      have Wx := Wy.keep st.1 n1 n2 n3
      have Nx := Ne.out st.1 nk na
      have e12 : IntKind.i64.wrap ((j : Int) - 1 + 1) = ((j + 1 : Nat) : Int) - 1 := by rw [wid (by omega) (by omega)]; omega
      rw [e12]
      refine ⟨k', 0, rfl, _, _, _, Nx.c2, split_dec (fun g => ?_) fun g => ?_⟩
      · have g : (j : Int) - 1 < (nd.l.length : Int) := g
        obtain ⟨c', hc'⟩ : ∃ c', nd.kids[j]? = some c' := ⟨_, List.getElem?_eq_getElem (by omega)⟩
        refine ⟨_, Wx.w.cell' 0 rfl, fnI (cap := []) (by kernel_rfl) (kid_spec Nx hc' ⟨_, rfl, Sub.refl _, fnI (cap := [_, _, _]) (by kernel_rfl) ?_⟩)⟩
        refine ih (g4 j c' hc') Ix Ex Tx Wx (fun c hc => ?_) (keepB Ty nt) (keepB Wy.t n1) (keepB Wy.f n2) (keepB Wy.w n3) ?_ fun h' M' I' st' => ⟨rfl, nd.kids.length - (j + 1), by omega, j + 1, M', rfl, rfl, by omega, ?_, st.trans st'⟩
        · obtain ⟨o, ho⟩ := Option.ne_none_iff_exists'.1 (Ey.in_heap hc)
          exact keepB ho (nS c hc)
        · have h1 := (flat_sub (g := idsP (P.pgs D n) m) nd.kids (j + 1)).length_le
          rw [flat_take hc', List.length_append] at h1
          rw [List.length_append]
          omega
        · rw [flat_take hc', ← List.append_assoc]; exact I'
      · have hjl : j = nd.kids.length := by have g : ¬ (j : Int) - 1 < (nd.l.length : Int) := g; omega
        rw [hjl, List.take_length] at Ix
        refine ⟨_, Wx.f.cell' 0 rfl, hdo (by rw [List.length_append]; have : [id].length = 1 := rfl; omega) Ix e Nx _ fun x' M' I' st' => ⟨rfl, hK x' M' ?_ ((Step.sub N.sub).trans (st.trans st'))⟩⟩
        unfold idsP
        rw [kidsOf_eq e, ← List.append_assoc]
        cases m <;> exact I'
    · unfold Nd.kind at ek; rw [g2] at ek; exact absurd rfl ek
set_option maxHeartbeats 1000000 in
theorem each_spec {B : Nat} {fv : Value} {I : List Nat → (Nat → Prop) → Hp → Prop} (hsub : ∀ {L M x y}, I L M x → Sub x y → I L M y) (hin : ∀ {L M x c}, I L M x → M c → x c ≠ none)
    (hdo : ∀ {L M x id nd k' a c}, L.length < B → I L M x → P.pgs D n id = some nd → NdEx x k' a c nd → ∀ K' : Value → Hp → Prop, (∀ x' M', I (L ++ [id]) M' x' → Step M x M' x' → K' (.tuple #[]) x') → FnH Tryd.prog fv [.int .i64 (id : Nat), .pointer (some ⟨k', 0, none⟩)] x K')
    (hfv : cellsOfV fv = [fv]) {M : Nat → Prop} (I0 : I [] M h) (E : PgAt h pb jb db S n D P) (T : TrAt h tb pb k) (hk : k < 4) (nS : ∀ c, S c → ¬ M c) (nt : ¬ M tb) {hg : Nat} {L : List KV} {ix : List Nat} (TT : Tree (P.pgs D n) (P.now.r k) hg L ix)
    (hB : (visit (P.pgs D n) hg (P.now.r k)).length ≤ B) (hK : ∀ h' M', I (visit (P.pgs D n) hg (P.now.r k)) M' h' → Step M h M' h' → K (.tuple #[]) h') : CallsH Tryd.prog btree_Tree_each.id #[.pointer (some ⟨tb, 0, none⟩), fv] h K := by
  apply btree_Tree_each.calls
  unfold btree_Tree_each.W
  intro k1 hk1
  have B1 := Blk.new h k1 26 [.pointer (some ⟨tb, 0, none⟩)]
  have s1 := Sub.upd hk1 (.cells [Value.pointer (some ⟨tb, 0, none⟩)].toArray 26 (0, 0))
  generalize h.upd k1 (.cells [Value.pointer (some ⟨tb, 0, none⟩)].toArray 26 (0, 0)) = y1 at B1 s1 ⊢
  intro k2 hk2
  rw [hfv]
  have B2 := Blk.new y1 k2 75 [fv]
  have s2 := Sub.upd hk2 (.cells [fv].toArray 75 (0, 0))
  generalize y1.upd k2 (.cells [fv].toArray 75 (0, 0)) = y2 at B2 s2 ⊢
  intro k3 hk3
  obtain ⟨s3, B3⟩ := fresh_put (t := 123) (vs := [.nilFunc]) (us := [.func (.func 71) #[] #[.pointer (some ⟨k1, 0, none⟩), .pointer (some ⟨k3, 0, none⟩), .pointer (some ⟨k2, 0, none⟩)]]) hk3
  refine ⟨(Blk.new y2 k3 123 [.nilFunc]).store (by show 1 ≤ 1; decide), ?_⟩
  generalize (y2.upd k3 (.cells [Value.nilFunc].toArray 123 (0, 0))).put k3 0 [.func (.func 71) #[] #[.pointer (some ⟨k1, 0, none⟩), .pointer (some ⟨k3, 0, none⟩), .pointer (some ⟨k2, 0, none⟩)]] = y8 at s3 B3 ⊢
  have s12 := s1.trans s2
  have s8 := s12.trans s3
  have W : EwAt y8 tb k1 k2 k3 fv := ⟨B1.sub (s2.trans s3), B2.sub s3, B3⟩
  have I8 := hsub I0 s8
  have E8 := E.sub s8
  have T8 : TrAt y8 tb pb k := Blk.sub T s8
  have fr : ∀ {c}, h c = none → ¬ M c := fun {c} hc hm => hin I0 hm hc
  refine ⟨_, W.t.cell' 0 rfl, split_not (fun _ => ?_) fun e => by cases e⟩
  refine ⟨_, W.t.cell' 0 rfl, tb, 0, rfl, _, T8.cell' 0 rfl, _, W.t.cell' 0 rfl, tb, 0, rfl, _, T8.cell' 1 rfl, fnI (cap := []) (by kernel_rfl) (root_spec E8 hk ⟨_, rfl, split_ne (fun e => ?_) fun e => ?_⟩)⟩
  · cases hg with
    | zero => exact absurd (by rw [TT.1]; rfl) e
    | succ m =>
      refine ⟨_, W.w.cell' 0 rfl, _, W.t.cell' 0 rfl, tb, 0, rfl, _, T8.cell' 0 rfl, _, W.t.cell' 0 rfl, tb, 0, rfl, _, T8.cell' 1 rfl, fnI (cap := []) (by kernel_rfl) (root_spec E8 hk ⟨_, rfl, Sub.refl _, fnI (cap := [_, _, _]) (by kernel_rfl) ?_⟩)⟩
      exact each_walk (I := I) hsub hin hdo m (L := []) TT.2.1 I8 E8 T8 W nS nt (fr hk1) (fr (s1.none hk2)) (fr (s12.none hk3)) (by rw [List.length_nil, Nat.zero_add]; exact hB) fun h' M' I' st => ⟨rfl, hK h' M' I' ((Step.sub s8).trans st)⟩
  · cases hg with
    | zero => exact hK y8 M I8 (Step.sub s8)
    | succ m => exact absurd (by omega) TT.1
def lfN (pg : Nat → Option Nd) (i : Nat) : Nat := match pg i with
  | some nd => if nd.leaf then nd.l.length else 0
  | none => 0
theorem lfN_ents {pg : Nat → Option Nd} : ∀ {m id : Nat} {f t : ByteArray}, Tr pg m id f t → ((idsP pg m id).map (lfN pg)).sum = (ents pg m id).length
  | 0, id, f, t, T => by
    obtain ⟨nd, g1, g2, g3⟩ := T
    unfold idsP ents lfN
    rw [kvs_eq g1, nd.kv_len]
    simp [g1, g2]
  | m + 1, id, f, t, T => by
    obtain ⟨nd, g1, g2, g3, g4⟩ := T
    unfold idsP ents
    rw [kidsOf_eq g1, List.map_append, List.sum_append]
    have e0 : ([id].map (lfN pg)).sum = 0 := by simp [lfN, g1, g2]
    rw [e0, Nat.add_zero]
    have : ∀ l : List Nat, (∀ c ∈ l, c ∈ nd.kids) → ((l.flatMap (idsP pg m)).map (lfN pg)).sum = (l.flatMap (ents pg m)).length := by
      intro l hl
      induction l with
      | nil => rfl
      | cons c l ih =>
        obtain ⟨j, hj⟩ := List.mem_iff_getElem?.1 (hl c List.mem_cons_self)
        rw [List.flatMap_cons, List.flatMap_cons, List.map_append, List.sum_append, List.length_append, ih fun c hc => hl c (List.mem_cons_of_mem _ hc), lfN_ents (g4 j c hj)]
    exact this _ fun c hc => hc
theorem lfN_le {pg : Nat → Option Nd} (O : PgOk pg) (i : Nat) : lfN pg i ≤ 256 := by
  unfold lfN
  cases e : pg i with
  | none => exact Nat.zero_le _
  | some nd =>
    have := (O i nd e).len
    simp only []
    split <;> omega
theorem sum_le {α : Type} {f : α → Nat} {b : Nat} (hf : ∀ x, f x ≤ b) : ∀ l : List α, (l.map f).sum ≤ l.length * b
  | [] => Nat.zero_le _
  | x :: l => by
    rw [List.map_cons, List.sum_cons, List.length_cons, Nat.add_mul]
    have := sum_le hf l
    have := hf x
    omega
theorem Tree.pages {pg : Nat → Option Nd} (lt : ∀ i, (pg i).isSome = true → i < n) {root hg : Nat} {L : List KV} {I : List Nat} (T : Tree pg root hg L I) : I.length ≤ n := by
  cases hg with
  | zero => rw [T.2.2]; exact Nat.zero_le _
  | succ m =>
    obtain ⟨h0, h1, h2, h3, h4⟩ := T
    exact nodup_below n I h4 fun i hi => lt i (h1.in_pg i (by rw [← h3]; exact hi))
theorem Tree.few {pg : Nat → Option Nd} (O : PgOk pg) (lt : ∀ i, (pg i).isSome = true → i < n) {root hg : Nat} {L : List KV} {I : List Nat} (T : Tree pg root hg L I) : L.length ≤ n * 256 := by
  cases hg with
  | zero => rw [T.2.1]; exact Nat.zero_le _
  | succ m =>
    obtain ⟨h0, h1, h2, h3, h4⟩ := T
    rw [h2, ← lfN_ents h1]
    refine Nat.le_trans (sum_le (lfN_le O) _) ?_
    rw [idsP_mem.length_eq, ← h3]
    exact Nat.mul_le_mul_right _ (nodup_below n I h4 fun i hi => lt i (h1.in_pg i (by rw [← h3]; exact hi)))
theorem len_spec (E : PgAt h pb jb db S n D P) (T : TrAt h tb pb k) (hk : k < 4) {hg : Nat} {L : List KV} {I : List Nat} (TT : Tree (P.pgs D n) (P.now.r k) hg L I) (hK : ∀ h', Sub h h' → K (.int .i64 (L.length : Nat)) h') :
    CallsH Tryd.prog btree_Tree_Len.id #[.pointer (some ⟨tb, 0, none⟩)] h K := by
  have hn := E.n2
  have hpk := pgs_ok E
  have few := TT.few hpk fun i hi => (pgs_lt hi).2
  apply btree_Tree_Len.calls
  unfold btree_Tree_Len.W
  intro k1 hk1
  obtain ⟨s1, B1⟩ := fresh_put (t := 3) (vs := [.int .i64 0]) (us := [.int .i64 0]) hk1
  refine ⟨(Blk.new h k1 3 [.int .i64 0]).store (by show 1 ≤ 1; decide), ?_⟩
  generalize (h.upd k1 (.cells [Value.int .i64 0].toArray 3 (0, 0))).put k1 0 [.int .i64 0] = y at s1 B1 ⊢
  have hv : (visit (P.pgs D n) hg (P.now.r k)).length ≤ n := by
    rw [(visit_perm TT).length_eq]
    exact TT.pages fun i hi => (pgs_lt hi).2
  refine each_spec (B := n) (I := fun l M x => (∀ c, M c ↔ c = k1) ∧ Blk x k1 3 [.int .i64 ((l.map (lfN (P.pgs D n))).sum : Nat)]) ?_ ?_ ?_ rfl (M := fun c => c = k1) ⟨fun c => Iff.rfl, B1⟩ (E.sub s1) (Blk.sub T s1) hk (fun c hc e => S_out E hk1 (e ▸ hc)) (fun e => by subst e; unfold TrAt Blk at T; rw [T] at hk1; cases hk1) TT hv fun h' M' I' st => ⟨rfl, _, I'.2.cell' 0 rfl, ?_⟩
  · exact fun {L M x y} H s => ⟨H.1, H.2.sub s⟩
  · exact fun {L M x c} H hc e => by
      have := H.2
      unfold Blk at this
      rw [(H.1 c).1 hc] at e
      rw [this] at e; cases e
  · intro l M x id nd k' a c hl H e Ne K' hK'
    refine fnI (cap := [_]) (by kernel_rfl) ?_
    apply btree_Tree_Len_1.calls
    unfold btree_Tree_Len_1.W
    have hs := sum_le (lfN_le hpk) l
    have hsl : l.length * 256 ≤ 128 * 256 := Nat.mul_le_mul_right _ (by omega)
    have ll := (hpk id nd e).len
    have es : ((l ++ [id]).map (lfN (P.pgs D n))).sum = (l.map (lfN (P.pgs D n))).sum + (if nd.leaf = true then nd.l.length else 0) := by
      rw [List.map_append, List.sum_append]
      congr 1
      simp [lfN, e]
    refine ⟨_, Ne.c0, split_eq (fun ek => ?_) fun ek => ?_⟩
    · have hlf : nd.leaf = true := by
        cases hlf : nd.leaf with
        | true => rfl
        | false => unfold Nd.kind at ek; rw [hlf] at ek; cases ek
      rw [if_pos hlf] at es
      refine ⟨_, H.2.cell' 0 rfl, _, _, _, Ne.c2, H.2.store (by show 1 ≤ 1; decide), hK' _ M ⟨H.1, ?_⟩ ⟨Keep.put _ _ _ _ ((H.1 _).2 rfl), fun c h => .inl h⟩⟩
      have := H.2.put 0 [.int .i64 (IntKind.i64.wrap (((l.map (lfN (P.pgs D n))).sum : Nat) + Int.ofNat nd.l.length))]
      rw [es]
      have e3 : IntKind.i64.wrap (((l.map (lfN (P.pgs D n))).sum : Nat) + Int.ofNat nd.l.length) = (((l.map (lfN (P.pgs D n))).sum + nd.l.length : Nat) : Int) := by
        rw [show Int.ofNat nd.l.length = ((nd.l.length : Nat) : Int) from rfl, wid (by omega) (by omega)]; omega
      rw [e3] at this ⊢
      exact this
    · have hlf : nd.leaf = false := by
        cases hlf : nd.leaf with
        | false => rfl
        | true => unfold Nd.kind at ek; rw [hlf] at ek; exact absurd rfl ek
      rw [hlf, if_neg (by decide), Nat.add_zero] at es
      exact hK' _ M ⟨H.1, by rw [es]; exact H.2⟩ (Step.refl _ _)
  · have : ((visit (P.pgs D n) hg (P.now.r k)).map (lfN (P.pgs D n))).sum = L.length := by
      cases hg with
      | zero => rw [TT.2.1]; rfl
      | succ m =>
        rw [TT.2.2.1]
        exact lfN_ents TT.2.1
    rw [this]
    exact hK h' (st.1.sub s1 fun c hc => by rw [hc]; exact hk1)
end Go.Proofs.YthbogjbcecmopaaDoor
