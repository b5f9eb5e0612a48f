/- Numbers as bytes: what package num writes and reads again. Conditions: numbers below 2^64, texts of ordinary length. -/
import Derived.Test.YtagglohkipioiaaFK
import Derived.Test.YtagglohkipioiaaGxR
import Derived.KernelRfl
namespace Go.Proofs.Ytagglohkipioiaa
open Go.Gx
set_option maxRecDepth 100000
set_option linter.unusedVariables false

abbrev tByte : TypeId := 5
abbrev tInt : TypeId := 3
theorem appTByte : AppT Try.prog tByte 1 1 := AppT.of (by kernel_rfl)
theorem appTInt : AppT Try.prog tInt 1 8 := AppT.of (by kernel_rfl)
def byteC (b : UInt8) : List Value := [.int .u8 (b.toNat : Nat)]
theorem byteC_len (b : UInt8) : (byteC b).length = 1 := rfl
theorem byteC_plain (b : UInt8) : plainP (byteC b) := plainP_of rfl
def intC (n : Int) : List Value := [.int .i64 n]
theorem intC_len (n : Int) : (intC n).length = 1 := rfl
theorem intC_plain (n : Int) : plainP (intC n) := plainP_of rfl
theorem rowC_bytes (s : ByteArray) : rowC byteC s.data.toList = bytesV s := by
  unfold rowC bytesV byteC
  generalize s.data.toList = l
  induction l with
  | nil => rfl
  | cons b l ih => rw [List.flatMap_cons, ih]; rfl
theorem size_len (s : ByteArray) : s.data.toList.length = s.size := by rw [Array.length_toList]; rfl

/-! ### a number's bytes -/
def numE (n : Nat) : List UInt8 := if n < 128 then [UInt8.ofNat n] else UInt8.ofNat (n % 128 + 128) :: numE (n / 128)
termination_by n
decreasing_by omega
theorem numE_small {n : Nat} (h : n < 128) : numE n = [UInt8.ofNat n] := by rw [numE, if_pos h]
theorem numE_big {n : Nat} (h : ¬ n < 128) : numE n = UInt8.ofNat (n % 128 + 128) :: numE (n / 128) := by rw [numE, if_neg h]
theorem numE_length : ∀ (k n : Nat), n < 128 ^ (k + 1) → (numE n).length ≤ k + 1
  | 0, n, h => by rw [numE_small (by omega)]; exact Nat.le_refl _
  | k + 1, n, h => by
    by_cases hn : n < 128
    · rw [numE_small hn]; simp
    · rw [numE_big hn]
      have := numE_length k (n / 128) (Nat.div_lt_of_lt_mul (by rw [Nat.pow_succ, Nat.mul_comm] at h; exact h))
      simp; omega
theorem numE_pos (n : Nat) : 0 < (numE n).length := by
  by_cases hn : n < 128
  · rw [numE_small hn]; simp
  · rw [numE_big hn]; simp
theorem numE_le {n : Nat} (h : n < 18446744073709551616) : (numE n).length ≤ 10 := numE_length 9 n (by omega)
theorem shr7 (n : Nat) : ishr IntKind.u64 (n : Int) 7 = ((n / 128 : Nat) : Int) := by
  show ((n : Int)).fdiv (2 ^ min (7 : Int).toNat 64) = _
  rw [show min (7 : Int).toNat 64 = 7 from rfl, Int.fdiv_eq_ediv_of_nonneg _ (by decide)]
  rfl
theorem or128 : ∀ n : Fin 256, IntKind.u8.wrap (ior IntKind.u8 (n.val : Int) 128) = ((n.val % 128 + 128 : Nat) : Int) := by decide +kernel
theorem and127 : ∀ n : Fin 256, IntKind.u8.wrap (iand IntKind.u8 (n.val : Int) 127) = ((n.val % 128 : Nat) : Int) := by decide +kernel
theorem u8c (n : Nat) : IntKind.u8.wrap (n : Int) = ((n % 256 : Nat) : Int) := by rw [wrap8]; omega
theorem orB (n : Nat) : IntKind.u8.wrap (ior IntKind.u8 (IntKind.u8.wrap (n : Int)) 128) = ((n % 128 + 128 : Nat) : Int) := by
  rw [u8c n]
  have := or128 ⟨n % 256, Nat.mod_lt _ (by decide)⟩
  simp only at this
  rw [this]; omega
theorem byteV (m : Nat) (h : m < 256) : byteC (UInt8.ofNat m) = [.int .u8 (m : Nat)] := by
  unfold byteC
  have : (UInt8.ofNat m).toNat = m := by simp; omega
  rw [this]

theorem lay_spec {h0 h : Hp} {a : Option Addr} {c : Nat} {l : List UInt8} (N : NewR byteC 1 tByte h0 h a c l) (hl : l.length < 1099511627776) (n : Nat) (hn : n < 18446744073709551616) {K : Value → Hp → Prop}
    (hK : ∀ h' a' c', NewR byteC 1 tByte h0 h' a' c' (l ++ numE n) → K (.slice a' (l ++ numE n).length c') h') : CallsH Try.prog num_lay.id #[.slice a l.length c, .int .u64 n] h K := by
  apply num_lay.calls
  unfold num_lay.W
  have hle := numE_le hn
  refine ⟨fun a' l' c' m x k => ∃ (L : List UInt8) (q : Nat), l' = L.length ∧ m = (q : Int) ∧ q < 18446744073709551616 ∧ k = q ∧ NewR byteC 1 tByte h0 x a' c' L ∧ L ++ numE q = l ++ numE n, ⟨_, l, n, rfl, rfl, hn, rfl, N, rfl⟩, ?_⟩
  rintro a' l' c' m x k ⟨L, q, rfl, rfl, hq, rfl, N', hL⟩
  have hlen := congrArg List.length hL
  rw [List.length_append, List.length_append] at hlen
  refine split_dec (fun g => ?_) (fun g => ?_)
  · have g : ¬ k < 128 := by have : (k : Int) ≥ 128 := g; omega
    intro b hb
    refine ⟨byteC (UInt8.ofNat (k % 128 + 128)), ?_, fun a2 c2 y => NewR byteC 1 tByte h0 y a2 c2 (L ++ [UInt8.ofNat (k % 128 + 128)]), fun a2 c2 y hy => ⟨by decide, k / 128, by omega, L ++ [UInt8.ofNat (k % 128 + 128)], k / 128, by simp, shr7 k, by omega, rfl, hy, ?_⟩, ?_⟩
    · rw [byteV _ (by omega), orB]
      exact (Blk.new _ _ _ [_]).slice rfl
    · rw [List.append_assoc, List.singleton_append, ← numE_big g]; exact hL
    · exact append_row appTByte byteC_len byteC_plain (M := [UInt8.ofNat (k % 128 + 128)]) (N'.upd (Sub.upd hb _)) rfl rfl (rowC_one _).symm (by simp; omega) fun a2 c2 y hy => hy
  · have g : k < 128 := by have : ¬ (k : Int) ≥ 128 := g; omega
    rw [numE_small g] at hL
    intro b hb
    refine ⟨byteC (UInt8.ofNat k), ?_, fun a2 c2 y => NewR byteC 1 tByte h0 y a2 c2 (L ++ [UInt8.ofNat k]), fun a2 c2 y hy => ?_, ?_⟩
    · rw [byteV _ (by omega), u8c, Nat.mod_eq_of_lt (by omega)]
      exact (Blk.new _ _ _ [_]).slice rfl
    · have e : L.length + 1 = (l ++ numE n).length := by rw [← hL]; simp
      rw [hL] at hy
      rw [e]; exact hK y a2 c2 hy
    · exact append_row appTByte byteC_len byteC_plain (M := [UInt8.ofNat k]) (N'.upd (Sub.upd hb _)) rfl rfl (rowC_one _).symm (by simp; omega) fun a2 c2 y hy => hy
theorem own_spec {h : Hp} {a : Option Addr} {c : Nat} {l : List UInt8} (H : RowAt byteC 1 h a l) (hl : l.length < 1099511627776) {K : Value → Hp → Prop}
    (hK : ∀ h' a' c', NewR byteC 1 tByte h h' a' c' l → K (.slice a' l.length c') h') : CallsH Try.prog num_own.id #[.slice a l.length c] h K := by
  apply num_own.calls
  unfold num_own.W
  intro k hk
  have N0 : NewR byteC 1 tByte h (h.upd k (.cells #[] 5 (0, 0))) (some ⟨k, 0, none⟩) 0 [] :=
    ⟨Sub.upd hk _, (by rintro b ⟨o, s, e⟩; cases e; exact hk), ⟨rfl, Nat.le_refl _, .inr ⟨k, [], rfl, Blk.new _ _ _ [], rfl⟩⟩⟩
  refine ⟨rowC byteC l, H.sub (Sub.upd hk _), fun a' c' y => NewR byteC 1 tByte h y a' c' l, fun a' c' y hy => by rw [Nat.zero_add]; exact hK y a' c' hy, ?_⟩
  exact append_row appTByte byteC_len byteC_plain (M := l) N0 rfl rfl rfl (by simp; omega) fun a' c' y hy => hy
theorem put_num_spec {h : Hp} {a : Option Addr} {c : Nat} {l : List UInt8} (H : RowAt byteC 1 h a l) (hl : l.length < 1099511627776) (n : Nat) (hn : n < 18446744073709551616) {K : Value → Hp → Prop}
    (hK : ∀ h' a' c', NewR byteC 1 tByte h h' a' c' (l ++ numE n) → K (.slice a' (l ++ numE n).length c') h') : CallsH Try.prog num_Put.id #[.slice a l.length c, .int .u64 n] h K := by
  apply num_Put.calls
  unfold num_Put.W
  exact own_spec H hl fun h' a' c' N => ⟨_, _, _, rfl, lay_spec N hl n hn fun h2 a2 c2 N2 => ⟨_, _, _, rfl, hK h2 a2 c2 N2⟩⟩

/-! ### reading -/
theorem wrap64n (x : Nat) : IntKind.u64.wrap (x : Int) = ((x % 18446744073709551616 : Nat) : Int) := by rw [wrap64]; omega
theorem wrap64s (x : Nat) (h : x < 18446744073709551616) : IntKind.u64.wrap (x : Int) = (x : Int) := by rw [wrap64]; omega
theorem shl7 (m i : Nat) (hi : i < 10) (h : m * 128 ^ i < 18446744073709551616) : IntKind.u64.wrap (ishl IntKind.u64 (m : Int) (IntKind.i64.wrap (7 * (i : Int)))) = ((m * 128 ^ i : Nat) : Int) := by
  rw [wid (by omega) (by omega)]
  have e : ishl IntKind.u64 (m : Int) (7 * (i : Int)) = ((m * 128 ^ i : Nat) : Int) := by
    show (m : Int) * 2 ^ min (7 * (i : Int)).toNat 64 = _
    have e1 : min (7 * (i : Int)).toNat 64 = 7 * i := by omega
    rw [e1, Int.natCast_mul, Int.natCast_pow, Int.pow_mul]; rfl
  rw [e, wrap64n, Nat.mod_eq_of_lt h]
theorem or7 (a m i : Nat) (ha : a < 128 ^ i) (h : a + m * 128 ^ i < 18446744073709551616) : IntKind.u64.wrap (ior IntKind.u64 (a : Int) ((m * 128 ^ i : Nat) : Int)) = ((a + m * 128 ^ i : Nat) : Int) := by
  have e : ior IntKind.u64 (a : Int) ((m * 128 ^ i : Nat) : Int) = ((a + m * 128 ^ i : Nat) : Int) := by
    show (((BitVec.ofInt 64 (a : Int) ||| BitVec.ofInt 64 ((m * 128 ^ i : Nat) : Int)).toNat : Nat) : Int) = _
    rw [BitVec.ofInt_natCast, BitVec.ofInt_natCast, BitVec.toNat_or, BitVec.toNat_ofNat, BitVec.toNat_ofNat, Nat.mod_eq_of_lt (by omega), Nat.mod_eq_of_lt (by omega)]
    have hp : 128 ^ i = 2 ^ (7 * i) := by rw [Nat.pow_mul]
    rw [hp] at ha ⊢
    have := Nat.two_pow_add_eq_or_of_lt ha m
    rw [Nat.or_comm, Nat.mul_comm m, ← this, Nat.add_comm]
  rw [e, wrap64n, Nat.mod_eq_of_lt h]
/-- What has been read of a number: bytes `E` of `j` places, `acc` in all; a further part `q` stands behind. -/
def Part (acc j : Nat) (E : List UInt8) : Prop := E.length = j ∧ acc < 128 ^ j ∧ ∀ q, (j = 0 ∨ 0 < q) → numE (acc + q * 128 ^ j) = E ++ numE q
theorem Part.nil : Part 0 0 [] := ⟨rfl, by simp, fun q _ => by simp⟩
theorem Part.step {acc j : Nat} {E : List UInt8} (H : Part acc j E) (b : UInt8) (hb : 128 ≤ b.toNat) : Part (acc + b.toNat % 128 * 128 ^ j) (j + 1) (E ++ [b]) := by
  obtain ⟨h1, h2, h3⟩ := H
  have hm : b.toNat % 128 < 128 := Nat.mod_lt _ (by decide)
  refine ⟨by simp [h1], ?_, fun q hq => ?_⟩
  · have : (b.toNat % 128 + 1) * 128 ^ j ≤ 128 * 128 ^ j := Nat.mul_le_mul_right _ hm
    rw [Nat.add_mul, Nat.one_mul] at this
    rw [Nat.pow_succ, Nat.mul_comm (128 ^ j)]; omega
  · have hq : 0 < q := by omega
    have e : acc + b.toNat % 128 * 128 ^ j + q * 128 ^ (j + 1) = acc + (b.toNat % 128 + q * 128) * 128 ^ j := by
      rw [Nat.add_mul, Nat.pow_succ, Nat.mul_assoc q 128, Nat.mul_comm 128]; omega
    rw [e, h3 _ (.inr (by omega)), numE_big (n := b.toNat % 128 + q * 128) (by omega)]
    have e1 : (b.toNat % 128 + q * 128) % 128 = b.toNat % 128 := by omega
    have e2 : (b.toNat % 128 + q * 128) / 128 = q := by omega
    have hlt := b.toNat_lt
    have e3 : UInt8.ofNat (b.toNat % 128 + 128) = b := by
      have : b.toNat % 128 + 128 = b.toNat := by omega
      rw [this]; exact UInt8.ofNat_toNat
    rw [e1, e2, e3, List.append_assoc]; rfl
theorem Part.last {acc j : Nat} {E : List UInt8} (H : Part acc j E) (b : UInt8) (hb : b.toNat < 128) (h0 : j = 0 ∨ 0 < b.toNat) : numE (acc + b.toNat * 128 ^ j) = E ++ [b] := by
  rw [H.2.2 _ h0, numE_small hb, UInt8.ofNat_toNat]
/-- Get, at any bytes: what it reads stands there. -/
theorem get_spec {h : Hp} {a : Option Addr} {c p : Nat} {l : List UInt8} (H : RowAt byteC 1 h a l) (hp : p ≤ l.length) (hl : l.length < 1099511627776) {K : Value → Hp → Prop}
    (hOk : ∀ n post, l.drop p = numE n ++ post → n < 18446744073709551616 → K (.tuple #[.int .u64 n, .int .i64 ((p + (numE n).length : Nat) : Int), .int .i64 0]) h)
    (hBad : ∀ e : Int, e ≠ 0 → K (.tuple #[.int .u64 0, .int .i64 0, .int .i64 e]) h) : CallsH Try.prog num_Get.id #[.slice a l.length c, .int .i64 (p : Nat)] h K := by
  apply num_Get.calls
  unfold num_Get.W
  refine split_dec (fun e => by have e : (p : Int) < 0 := e; omega) fun _ => split_dec (fun e => by have e : (p : Int) > (l.length : Int) := e; omega) fun _ => ?_
  refine ⟨fun r i x m => x = h ∧ ∃ j : Nat, i = (j : Int) ∧ j ≤ 10 ∧ m = 10 - j ∧ (j < 10 → ∃ (acc : Nat) (E rest : List UInt8), r = (acc : Int) ∧ l.drop p = E ++ rest ∧ Part acc j E), ⟨_, rfl, 0, rfl, by decide, rfl, fun _ => ⟨0, [], _, rfl, rfl, Part.nil⟩⟩, ?_⟩
  rintro r i x m ⟨rfl, j, rfl, hj, rfl, hI⟩
  refine split_dec (fun g => ?_) (fun _ => hBad 4 (by decide))
  have hj10 : j < 10 := by have : (j : Int) < 10 := g; omega
  obtain ⟨acc, E, rest, rfl, hE, P⟩ := hI hj10
  have hle := congrArg List.length hE
  rw [List.length_drop, List.length_append, P.1] at hle
  have w1 : IntKind.i64.wrap ((p : Int) + (j : Int)) = ((p + j : Nat) : Int) := by rw [wid (by omega) (by omega)]; omega
  rw [w1]
  refine split_eq (fun _ => hBad 3 (by decide)) fun g2 => ?_
  have g2 : ¬ ((p + j : Nat) : Int) = (l.length : Int) := g2
  obtain ⟨b, post, rfl⟩ : ∃ b post, rest = b :: post := by
    cases rest with
    | nil => simp at hle; omega
    | cons b post => exact ⟨b, post, rfl⟩
  have hbt : l[p + j]? = some b := by
    rw [← List.getElem?_drop, hE, ← P.1, List.getElem?_append_right (Nat.le_refl _), Nat.sub_self]; rfl
  obtain ⟨k, o, ea, hc⟩ := H.get byteC_len (by decide) hbt
  have hc := hc 0 _ rfl
  have hbl := b.toNat_lt
  have hmod := P.2.1
  have hpow : 128 ^ (j + 1) = 128 ^ j * 128 := Nat.pow_succ ..
  have w7 : IntKind.i64.wrap (7 * (j : Int)) = 7 * (j : Int) := wid (by omega) (by omega)
  have hp9 : 128 ^ j ≤ 128 ^ 9 := Nat.pow_le_pow_right (by decide) (by omega)
  refine ⟨by omega, by show ((p + j : Nat) : Int) < (l.length : Int); omega, k, o, ea, _, hc, split_dec (fun g3 => ?_) (fun g3 => ?_)⟩
  · have g3 : b.toNat < 128 := by have : ((b.toNat : Nat) : Int) < 128 := g3; omega
    have fin : (j = 0 ∨ 0 < b.toNat) → (j = 9 → b.toNat ≤ 1) → (0 ≤ IntKind.i64.wrap (7 * (j : Int))) ∧ K (.tuple #[.int .u64 (IntKind.u64.wrap (ior IntKind.u64 (acc : Int) (IntKind.u64.wrap (ishl IntKind.u64 (IntKind.u64.wrap ((b.toNat : Nat) : Int)) (IntKind.i64.wrap (7 * (j : Int))))))), .int .i64 (IntKind.i64.wrap (((p + j : Nat) : Int) + 1)), .int .i64 0]) x := by
      intro h0 h9
      have hs : acc + b.toNat * 128 ^ j < 18446744073709551616 := by
        rcases Nat.lt_or_ge j 9 with hj9 | hj9
        · have h1 : 128 ^ (j + 1) ≤ 128 ^ 9 := Nat.pow_le_pow_right (by decide) (by omega)
          have h2 : (b.toNat + 1) * 128 ^ j ≤ 128 * 128 ^ j := Nat.mul_le_mul_right _ g3
          rw [Nat.add_mul, Nat.one_mul] at h2
          omega
        · have hj9 : j = 9 := by omega
          subst hj9
          have h2 : b.toNat * 128 ^ 9 ≤ 1 * 128 ^ 9 := Nat.mul_le_mul_right _ (h9 rfl)
          omega
      have hn := P.last b g3 h0
      have e := hOk (acc + b.toNat * 128 ^ j) post (by rw [hn, hE, List.append_assoc]; rfl) hs
      have e2 : p + (numE (acc + b.toNat * 128 ^ j)).length = p + j + 1 := by rw [hn, List.length_append, P.1]; rfl
      rw [e2] at e
      refine ⟨by rw [w7]; omega, ?_⟩
      rw [wrap64s b.toNat (by omega), shl7 _ j hj10 (by omega), or7 _ _ _ hmod hs, wid (by omega) (by omega)]
      exact e
    refine ⟨fun y => y = x ∧ (j = 0 ∨ 0 < b.toNat) ∧ (j = 9 → b.toNat ≤ 1), ?_, ?_⟩
    · rintro y ⟨rfl, h0, h9⟩
      exact fin h0 h9
    · have fin : (j = 0 ∨ 0 < b.toNat) → cond (hb ((j : Int) == 9)) (cond (hb (decide (((b.toNat : Nat) : Int) > 1))) (K (.tuple #[.int .u64 0, .int .i64 0, .int .i64 4]) x) (x = x ∧ (j = 0 ∨ 0 < b.toNat) ∧ (j = 9 → b.toNat ≤ 1))) (x = x ∧ (j = 0 ∨ 0 < b.toNat) ∧ (j = 9 → b.toNat ≤ 1)) := by
        intro h0
        refine split_eq (fun e => split_dec (fun _ => hBad 4 (by decide)) fun e2 => ⟨rfl, h0, fun _ => ?_⟩) fun e => ⟨rfl, h0, fun e2 => ?_⟩
        · have e2 : ¬ ((b.toNat : Nat) : Int) > 1 := e2
          omega
        · have e : ¬ (j : Int) = 9 := e
          omega
      refine split_eq (fun e => split_dec (fun _ => hBad 4 (by decide)) fun e2 => fin (.inl ?_)) fun e => fin (.inr ?_)
      · have e2 : ¬ (j : Int) > 0 := e2
        omega
      · have e : ¬ ((b.toNat : Nat) : Int) = 0 := e
        omega
  · have g3 : 128 ≤ b.toNat := by have : ¬ ((b.toNat : Nat) : Int) < 128 := g3; omega
    have hs2 : acc + b.toNat % 128 * 128 ^ j < 128 ^ (j + 1) := (P.step b g3).2.1
    have hp10 : 128 ^ (j + 1) ≤ 128 ^ 10 := Nat.pow_le_pow_right (by decide) (by omega)
    have ha := and127 ⟨b.toNat, by omega⟩
    simp only at ha
    refine ⟨by rw [w7]; omega, 10 - (j + 1), by omega, rfl, j + 1, by rw [wid (by omega) (by omega)]; omega, by omega, rfl, fun hj9 => ⟨acc + b.toNat % 128 * 128 ^ j, E ++ [b], post, ?_, by rw [hE, List.append_assoc]; rfl, P.step b g3⟩⟩
    have hp9' : 128 ^ (j + 1) ≤ 128 ^ 9 := Nat.pow_le_pow_right (by decide) (by omega)
    rw [ha, wrap64s (b.toNat % 128) (by omega), shl7 _ j hj10 (by omega), or7 _ _ _ hmod (by omega)]
theorem numE_append {n : Nat} {l post : List UInt8} {p : Nat} (h : l.drop p = numE n ++ post) : l.drop (p + (numE n).length) = post := by
  rw [← List.drop_drop, h, List.drop_left]
/-- GetText, at any bytes. -/
theorem gettext_spec {h : Hp} {a : Option Addr} {c p : Nat} {l : List UInt8} {m : Nat} (H : RowAt byteC 1 h a l) (hlc : l.length ≤ c) (hp : p ≤ l.length) (hl : l.length < 1099511627776) (hm : m < 1000000) {K : Value → Hp → Prop}
    (hOk : ∀ (s : ByteArray) post, l.drop p = numE s.size ++ s.data.toList ++ post → s.size ≤ m → K (.tuple #[.string s, .int .i64 ((p + (numE s.size).length + s.size : Nat) : Int), .int .i64 0]) h)
    (hBad : ∀ e : Int, e ≠ 0 → K (.tuple #[.string (bytesL []), .int .i64 0, .int .i64 e]) h) : CallsH Try.prog num_GetText.id #[.slice a l.length c, .int .i64 (p : Nat), .int .i64 (m : Nat)] h K := by
  apply num_GetText.calls
  unfold num_GetText.W
  refine get_spec H hp hl (fun n post hd hn => ⟨_, _, _, rfl, split_ne (fun e => absurd rfl e) fun _ => ?_⟩) (fun e he => ⟨_, _, _, rfl, split_ne (fun _ => hBad e he) fun e2 => absurd e2 he⟩)
  have hmax : IntKind.u64.wrap (if (0 : Int) > (m : Int) then 0 else (m : Int)) = (m : Int) := by
    rw [if_neg (by omega), wrap64s m (by omega)]
  rw [hmax]
  refine split_dec (fun _ => hBad 2 (by decide)) fun g1 => ?_
  have g1 : n ≤ m := by have : ¬ (n : Int) > (m : Int) := g1; omega
  have hle := congrArg List.length hd
  rw [List.length_drop, List.length_append] at hle
  have hk : p + (numE n).length ≤ l.length := by have := numE_pos n; omega
  have w1 : IntKind.u64.wrap (IntKind.i64.wrap (Int.ofNat l.length - ((p + (numE n).length : Nat) : Int))) = ((l.length - (p + (numE n).length) : Nat) : Int) := by
    have : Int.ofNat l.length - ((p + (numE n).length : Nat) : Int) = ((l.length - (p + (numE n).length) : Nat) : Int) := by show (l.length : Int) - _ = _; omega
    rw [this, wid (by omega) (by omega), wrap64s _ (by omega)]
  rw [w1]
  refine split_dec (fun _ => hBad 3 (by decide)) fun g2 => ?_
  have g2 : p + (numE n).length + n ≤ l.length := by have : ¬ (n : Int) > ((l.length - (p + (numE n).length) : Nat) : Int) := g2; omega
  have w2 : IntKind.i64.wrap (n : Int) = (n : Int) := wid (by omega) (by omega)
  have w3 : IntKind.i64.wrap (((p + (numE n).length : Nat) : Int) + (n : Int)) = ((p + (numE n).length + n : Nat) : Int) := by rw [wid (by omega) (by omega)]; omega
  rw [w2, w3]
  have hsz : ((⟨(post.take n).toArray⟩ : ByteArray)).size = n := by
    show (post.take n).toArray.size = n
    rw [List.size_toArray, List.length_take]; omega
  refine ⟨by omega, by show ((p + (numE n).length + n : Nat) : Int) ≤ (c : Int); omega, by omega, by show ((p + (numE n).length : Nat) : Int) ≤ (((p + (numE n).length + n : Nat) : Int).toNat : Int); omega, ⟨(post.take n).toArray⟩, ?_, ?_⟩
  · have e1 : (((p + (numE n).length : Nat) : Int)).toNat = p + (numE n).length := Int.toNat_natCast _
    have e2 : (((p + (numE n).length + n : Nat) : Int)).toNat = p + (numE n).length + n := Int.toNat_natCast _
    rw [e1, e2, Nat.add_sub_cancel_left, ← rowC_bytes]
    show SliceAt h _ n (rowC byteC (post.take n))
    have hpost := numE_append hd
    have := RowAt.part byteC_len H hlc (i := p + (numE n).length) (n := n) g2
    unfold RowAt at this
    rw [hpost, List.length_take, Nat.mul_one, show min n post.length = n by omega] at this
    exact this
  · have := hOk ⟨(post.take n).toArray⟩ (post.drop n) ?_ (by rw [hsz]; exact g1)
    · rw [hsz] at this; exact this
    · rw [hsz, hd, List.append_assoc]
      show numE n ++ post = numE n ++ (post.take n ++ post.drop n)
      rw [List.take_append_drop]
theorem puttext_spec {h : Hp} {a : Option Addr} {c : Nat} {l : List UInt8} (H : RowAt byteC 1 h a l) (hl : l.length < 1099511627776) (s : ByteArray) (hs : s.size < 1099511627776) {K : Value → Hp → Prop}
    (hK : ∀ h' a' c', NewR byteC 1 tByte h h' a' c' (l ++ numE s.size ++ s.data.toList) → K (.slice a' (l ++ numE s.size ++ s.data.toList).length c') h') : CallsH Try.prog num_PutText.id #[.slice a l.length c, .string s] h K := by
  apply num_PutText.calls
  unfold num_PutText.W
  refine own_spec H hl fun h1 a1 c1 N1 => ⟨_, _, _, rfl, ?_⟩
  have e : IntKind.u64.wrap (Int.ofNat s.size) = ((s.size : Nat) : Int) := wrap64s s.size (by omega)
  rw [e]
  have hle := numE_le (n := s.size) (by omega)
  refine lay_spec N1 hl s.size (by omega) fun h2 a2 c2 N2 => ⟨_, _, _, rfl, fun a' c' y => NewR byteC 1 tByte h y a' c' (l ++ numE s.size ++ s.data.toList), fun a' c' y hy => ?_, ?_⟩
  · have := hK y a' c' hy
    have e3 : (l ++ numE s.size ++ s.data.toList).length = (l ++ numE s.size).length + s.size := by rw [List.length_append, size_len]
    rw [e3] at this
    exact this
  · refine append_row appTByte byteC_len byteC_plain (M := s.data.toList) N2 rfl (by rw [size_len]) (rowC_bytes s).symm (by rw [size_len, List.length_append]; omega) fun a' c' y hy => hy
end Go.Proofs.Ytagglohkipioiaa
