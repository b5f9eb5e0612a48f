/- Numbers as bytes: what package num writes and reads again. Conditions: numbers below 2^64, texts of ordinary length. -/
import Derived.Test.YtlklpdedppgkfaaFN
import Derived.Test.YtlklpdedppgkfaaGxR
import Derived.KernelRfl
namespace Go.Proofs.Ytlklpdedppgkfaa
open Go.Gx
set_option maxRecDepth 100000
set_option linter.unusedVariables false

abbrev tByte : TypeId := 5
abbrev tInt : TypeId := 3
theorem appTByte : AppT Try.prog tByte 1 1 := AppT.of (by kernel_rfl)
theorem appTInt : AppT Try.prog tInt 1 8 := AppT.of (by kernel_rfl)
def byteC (b : UInt8) : List Value := [.int .u8 (b.toNat : Nat)]
theorem byteC_len (b : UInt8) : (byteC b).length = 1 := rfl
theorem byteC_plain (b : UInt8) : plainP (byteC b) := plainP_of rfl
def intC (n : Int) : List Value := [.int .i64 n]
theorem intC_len (n : Int) : (intC n).length = 1 := rfl
theorem intC_plain (n : Int) : plainP (intC n) := plainP_of rfl
theorem rowC_bytes (s : ByteArray) : rowC byteC s.data.toList = bytesV s := by
  unfold rowC bytesV byteC
  generalize s.data.toList = l
  induction l with
  | nil => rfl
  | cons b l ih => rw [List.flatMap_cons, ih]; rfl
theorem size_len (s : ByteArray) : s.data.toList.length = s.size := by rw [Array.length_toList]; rfl

/-! ### a number's bytes -/
def numE (n : Nat) : List UInt8 := if n < 128 then [UInt8.ofNat n] else UInt8.ofNat (n % 128 + 128) :: numE (n / 128)
termination_by n
decreasing_by omega
theorem numE_small {n : Nat} (h : n < 128) : numE n = [UInt8.ofNat n] := by rw [numE, if_pos h]
theorem numE_big {n : Nat} (h : ¬ n < 128) : numE n = UInt8.ofNat (n % 128 + 128) :: numE (n / 128) := by rw [numE, if_neg h]
theorem numE_length : ∀ (k n : Nat), n < 128 ^ (k + 1) → (numE n).length ≤ k + 1
  | 0, n, h => by rw [numE_small (by omega)]; exact Nat.le_refl _
  | k + 1, n, h => by
    by_cases hn : n < 128
    · rw [numE_small hn]; simp
    · rw [numE_big hn]
      have := numE_length k (n / 128) (Nat.div_lt_of_lt_mul (by rw [Nat.pow_succ, Nat.mul_comm] at h; exact h))
      simp; omega
theorem numE_pos (n : Nat) : 0 < (numE n).length := by
  by_cases hn : n < 128
  · rw [numE_small hn]; simp
  · rw [numE_big hn]; simp
theorem numE_le {n : Nat} (h : n < 18446744073709551616) : (numE n).length ≤ 10 := numE_length 9 n (by omega)
theorem shr7 (n : Nat) : ishr IntKind.u64 (n : Int) 7 = ((n / 128 : Nat) : Int) := by
  show ((n : Int)).fdiv (2 ^ min (7 : Int).toNat 64) = _
  rw [show min (7 : Int).toNat 64 = 7 from rfl, Int.fdiv_eq_ediv_of_nonneg _ (by decide)]
  rfl
theorem or128 : ∀ n : Fin 256, IntKind.u8.wrap (ior IntKind.u8 (n.val : Int) 128) = ((n.val % 128 + 128 : Nat) : Int) := by decide +kernel
theorem and127 : ∀ n : Fin 256, IntKind.u8.wrap (iand IntKind.u8 (n.val : Int) 127) = ((n.val % 128 : Nat) : Int) := by decide +kernel
theorem u8c (n : Nat) : IntKind.u8.wrap (n : Int) = ((n % 256 : Nat) : Int) := by rw [wrap8]; omega
theorem orB (n : Nat) : IntKind.u8.wrap (ior IntKind.u8 (IntKind.u8.wrap (n : Int)) 128) = ((n % 128 + 128 : Nat) : Int) := by
  rw [u8c n]
  have := or128 ⟨n % 256, Nat.mod_lt _ (by decide)⟩
  simp only at this
  rw [this]; omega
theorem byteV (m : Nat) (h : m < 256) : byteC (UInt8.ofNat m) = [.int .u8 (m : Nat)] := by
  unfold byteC
  have : (UInt8.ofNat m).toNat = m := by simp; omega
  rw [this]

theorem lay_spec {h0 h : Hp} {a : Option Addr} {c : Nat} {l : List UInt8} (N : NewR byteC 1 tByte h0 h a c l) (hl : l.length < 1099511627776) (n : Nat) (hn : n < 18446744073709551616) {K : Value → Hp → Prop}
    (hK : ∀ h' a' c', NewR byteC 1 tByte h0 h' a' c' (l ++ numE n) → K (.slice a' (l ++ numE n).length c') h') : CallsH Try.prog num_lay.id #[.slice a l.length c, .int .u64 n] h K := by
  apply num_lay.calls
  unfold num_lay.W
  have hle := numE_le hn
  refine ⟨fun a' l' c' m x k => ∃ (L : List UInt8) (q : Nat), l' = L.length ∧ m = (q : Int) ∧ q < 18446744073709551616 ∧ k = q ∧ NewR byteC 1 tByte h0 x a' c' L ∧ L ++ numE q = l ++ numE n, ⟨_, l, n, rfl, rfl, hn, rfl, N, rfl⟩, ?_⟩
  rintro a' l' c' m x k ⟨L, q, rfl, rfl, hq, rfl, N', hL⟩
  have hlen := congrArg List.length hL
  rw [List.length_append, List.length_append] at hlen
  refine split_dec (fun g => ?_) (fun g => ?_)
  · have g : ¬ k < 128 := by have : (k : Int) ≥ 128 := g; omega
    intro b hb
    refine ⟨byteC (UInt8.ofNat (k % 128 + 128)), ?_, fun a2 c2 y => NewR byteC 1 tByte h0 y a2 c2 (L ++ [UInt8.ofNat (k % 128 + 128)]), fun a2 c2 y hy => ⟨by decide, k / 128, by omega, L ++ [UInt8.ofNat (k % 128 + 128)], k / 128, by simp, shr7 k, by omega, rfl, hy, ?_⟩, ?_⟩
    · rw [byteV _ (by omega), orB]
      exact (Blk.new _ _ _ [_]).slice rfl
    · rw [List.append_assoc, List.singleton_append, ← numE_big g]; exact hL
    · exact append_row appTByte byteC_len byteC_plain (M := [UInt8.ofNat (k % 128 + 128)]) (N'.upd (Sub.upd hb _)) rfl rfl (rowC_one _).symm (by simp; omega) fun a2 c2 y hy => hy
  · have g : k < 128 := by have : ¬ (k : Int) ≥ 128 := g; omega
    rw [numE_small g] at hL
    intro b hb
    refine ⟨byteC (UInt8.ofNat k), ?_, fun a2 c2 y => NewR byteC 1 tByte h0 y a2 c2 (L ++ [UInt8.ofNat k]), fun a2 c2 y hy => ?_, ?_⟩
    · rw [byteV _ (by omega), u8c, Nat.mod_eq_of_lt (by omega)]
      exact (Blk.new _ _ _ [_]).slice rfl
    · have e : L.length + 1 = (l ++ numE n).length := by rw [← hL]; simp
      rw [hL] at hy
      rw [e]; exact hK y a2 c2 hy
    · exact append_row appTByte byteC_len byteC_plain (M := [UInt8.ofNat k]) (N'.upd (Sub.upd hb _)) rfl rfl (rowC_one _).symm (by simp; omega) fun a2 c2 y hy => hy
theorem own_spec {h : Hp} {a : Option Addr} {c : Nat} {l : List UInt8} (H : RowAt byteC 1 h a l) (hl : l.length < 1099511627776) {K : Value → Hp → Prop}
    (hK : ∀ h' a' c', NewR byteC 1 tByte h h' a' c' l → K (.slice a' l.length c') h') : CallsH Try.prog num_own.id #[.slice a l.length c] h K := by
  apply num_own.calls
  unfold num_own.W
  intro k hk
  have N0 : NewR byteC 1 tByte h (h.upd k (.cells #[] 5 (0, 0))) (some ⟨k, 0, none⟩) 0 [] :=
    ⟨Sub.upd hk _, (by rintro b ⟨o, s, e⟩; cases e; exact hk), ⟨rfl, Nat.le_refl _, .inr ⟨k, [], rfl, Blk.new _ _ _ [], rfl⟩⟩⟩
  refine ⟨rowC byteC l, H.sub (Sub.upd hk _), fun a' c' y => NewR byteC 1 tByte h y a' c' l, fun a' c' y hy => by rw [Nat.zero_add]; exact hK y a' c' hy, ?_⟩
  exact append_row appTByte byteC_len byteC_plain (M := l) N0 rfl rfl rfl (by simp; omega) fun a' c' y hy => hy
theorem put_num_spec {h : Hp} {a : Option Addr} {c : Nat} {l : List UInt8} (H : RowAt byteC 1 h a l) (hl : l.length < 1099511627776) (n : Nat) (hn : n < 18446744073709551616) {K : Value → Hp → Prop}
    (hK : ∀ h' a' c', NewR byteC 1 tByte h h' a' c' (l ++ numE n) → K (.slice a' (l ++ numE n).length c') h') : CallsH Try.prog num_Put.id #[.slice a l.length c, .int .u64 n] h K := by
  apply num_Put.calls
  unfold num_Put.W
  exact own_spec H hl fun h' a' c' N => ⟨_, _, _, rfl, lay_spec N hl n hn fun h2 a2 c2 N2 => ⟨_, _, _, rfl, hK h2 a2 c2 N2⟩⟩

/-! ### reading -/
theorem wrap64n (x : Nat) : IntKind.u64.wrap (x : Int) = ((x % 18446744073709551616 : Nat) : Int) := by rw [wrap64]; omega
theorem wrap64s (x : Nat) (h : x < 18446744073709551616) : IntKind.u64.wrap (x : Int) = (x : Int) := by rw [wrap64]; omega
theorem shl7 (m i : Nat) (hi : i < 10) (h : m * 128 ^ i < 18446744073709551616) : IntKind.u64.wrap (ishl IntKind.u64 (m : Int) (IntKind.i64.wrap (7 * (i : Int)))) = ((m * 128 ^ i : Nat) : Int) := by
  rw [wid (by omega) (by omega)]
  have e : ishl IntKind.u64 (m : Int) (7 * (i : Int)) = ((m * 128 ^ i : Nat) : Int) := by
    show (m : Int) * 2 ^ min (7 * (i : Int)).toNat 64 = _
    have e1 : min (7 * (i : Int)).toNat 64 = 7 * i := by omega
    rw [e1, Int.natCast_mul, Int.natCast_pow, Int.pow_mul]; rfl
  rw [e, wrap64n, Nat.mod_eq_of_lt h]
theorem or7 (a m i : Nat) (ha : a < 128 ^ i) (h : a + m * 128 ^ i < 18446744073709551616) : IntKind.u64.wrap (ior IntKind.u64 (a : Int) ((m * 128 ^ i : Nat) : Int)) = ((a + m * 128 ^ i : Nat) : Int) := by
  have e : ior IntKind.u64 (a : Int) ((m * 128 ^ i : Nat) : Int) = ((a + m * 128 ^ i : Nat) : Int) := by
    show (((BitVec.ofInt 64 (a : Int) ||| BitVec.ofInt 64 ((m * 128 ^ i : Nat) : Int)).toNat : Nat) : Int) = _
    rw [BitVec.ofInt_natCast, BitVec.ofInt_natCast, BitVec.toNat_or, BitVec.toNat_ofNat, BitVec.toNat_ofNat, Nat.mod_eq_of_lt (by omega), Nat.mod_eq_of_lt (by omega)]
    have hp : 128 ^ i = 2 ^ (7 * i) := by rw [Nat.pow_mul]
    rw [hp] at ha ⊢
    have := Nat.two_pow_add_eq_or_of_lt ha m
    rw [Nat.or_comm, Nat.mul_comm m, ← this, Nat.add_comm]
  rw [e, wrap64n, Nat.mod_eq_of_lt h]
theorem get_num_spec {h : Hp} {a : Option Addr} {c : Nat} {pre post : List UInt8} {n : Nat} (H : RowAt byteC 1 h a (pre ++ numE n ++ post)) (hn : n < 18446744073709551616) (hl : (pre ++ numE n ++ post).length < 1099511627776) {K : Value → Hp → Prop}
    (hK : K (.tuple #[.int .u64 n, .int .i64 ((pre.length + (numE n).length : Nat) : Int), .int .i64 0]) h) : CallsH Try.prog num_Get.id #[.slice a (pre ++ numE n ++ post).length c, .int .i64 (pre.length : Nat)] h K := by
  apply num_Get.calls
  unfold num_Get.W
  have hlen : (pre ++ numE n ++ post).length = pre.length + (numE n).length + post.length := by rw [List.length_append, List.length_append]
  refine split_dec (fun e => by have e : (pre.length : Int) < 0 := e; omega) fun _ => split_dec (fun e => by have e : (pre.length : Int) > ((pre ++ numE n ++ post).length : Int) := e; omega) fun _ => ?_
  refine ⟨fun r i x m => x = h ∧ ∃ j : Nat, i = (j : Int) ∧ j ≤ 10 ∧ m = 10 - j ∧ r = ((n % 128 ^ j : Nat) : Int) ∧ (j = 0 ∨ 0 < n / 128 ^ j) ∧ ∃ E : List UInt8, E.length = j ∧ numE n = E ++ numE (n / 128 ^ j), ⟨_, rfl, 0, rfl, by decide, rfl, by simp [Nat.mod_one], .inl rfl, [], rfl, by simp⟩, ?_⟩
  rintro r i x m ⟨rfl, j, rfl, hj, rfl, rfl, hpos, E, hE, hnE⟩
  have hj9 : j < 10 := by
    rcases Nat.lt_or_ge j 10 with h | h
    · exact h
    · have : j = 10 := by omega
      subst this
      rw [Nat.div_eq_of_lt (by omega)] at hpos
      omega
  have hEn := congrArg List.length hnE
  rw [List.length_append, hE] at hEn
  have hp := numE_pos (n / 128 ^ j)
  have w1 : IntKind.i64.wrap ((pre.length : Int) + (j : Int)) = ((pre.length + j : Nat) : Int) := by rw [wid (by omega) (by omega)]; omega
  have hnn : n = n % 128 ^ j + (n / 128 ^ j) * 128 ^ j := by rw [Nat.mul_comm]; exact (Nat.mod_add_div n (128 ^ j)).symm
  refine split_dec (fun _ => ?_) (fun e => by exfalso; apply e; show (j : Int) < 10; omega)
  have hw : Nat.cast (R := Int) pre.length + (j : Int) = (pre.length : Int) + (j : Int) := rfl
  rw [w1]
  refine split_eq (fun e => by have e : ((pre.length + j : Nat) : Int) = ((pre ++ numE n ++ post).length : Int) := e; omega) fun _ => ?_
  have hmod : n % 128 ^ j < 128 ^ j := Nat.mod_lt _ (Nat.pow_pos (by decide))
  have hat : ∀ b bs, numE (n / 128 ^ j) = b :: bs → (pre ++ numE n ++ post)[pre.length + j]? = some b := by
    intro b bs e
    rw [hnE, e, List.append_assoc, List.getElem?_append_right (by omega), Nat.add_sub_cancel_left, List.append_assoc, List.getElem?_append_right (by omega), hE, Nat.sub_self]; rfl
  refine ⟨by omega, by show ((pre.length + j : Nat) : Int) < ((pre ++ numE n ++ post).length : Int); omega, ?_⟩
  by_cases hs : n / 128 ^ j < 128
  · have e1 := numE_small hs
    obtain ⟨b, o, ea, hc⟩ := H.get byteC_len (by decide) (hat _ _ e1)
    have hc := hc 0 _ rfl
    have e2 : (UInt8.ofNat (n / 128 ^ j)).toNat = n / 128 ^ j := by simp; omega
    rw [e2] at hc
    refine ⟨b, o, ea, _, hc, split_dec (fun _ => ?_) (fun e => by exfalso; apply e; show ((n / 128 ^ j : Nat) : Int) < 128; omega)⟩
    have hlast : j = 9 → n / 128 ^ j ≤ 1 := by
      rintro rfl
      have : n / 128 ^ 9 < 2 := Nat.div_lt_of_lt_mul (by omega)
      omega
    refine ⟨fun y => y = x, ?_, ?_⟩
    · rintro y rfl
      have w7 : IntKind.i64.wrap (7 * (j : Int)) = 7 * (j : Int) := wid (by omega) (by omega)
      refine ⟨by rw [w7]; omega, ?_⟩
      rw [wrap64s (n / 128 ^ j) (by omega), shl7 _ j hj9 (by omega), or7 _ _ _ hmod (by omega), wid (by omega) (by omega), ← hnn]
      have e3 : ((pre.length + j : Nat) : Int) + 1 = ((pre.length + (numE n).length : Nat) : Int) := by
        rw [e1] at hEn
        simp at hEn
        omega
      rw [e3]; exact hK
    · have fin : cond (hb ((j : Int) == 9)) (cond (hb (decide (((n / 128 ^ j : Nat) : Int) > 1))) (K (.tuple #[.int .u64 0, .int .i64 0, .int .i64 4]) x) (x = x)) (x = x) := by
        refine split_eq (fun e => split_dec (fun e2 => ?_) fun _ => rfl) fun _ => rfl
        have e : (j : Int) = 9 := e
        have e2 : ((n / 128 ^ j : Nat) : Int) > 1 := e2
        have := hlast (by omega)
        omega
      refine split_eq (fun e => split_dec (fun e2 => ?_) fun _ => fin) fun _ => fin
      have e : ((n / 128 ^ j : Nat) : Int) = 0 := e
      have e2 : (j : Int) > 0 := e2
      omega
  · have e1 := numE_big hs
    obtain ⟨b, o, ea, hc⟩ := H.get byteC_len (by decide) (hat _ _ e1)
    have hc := hc 0 _ rfl
    have e2 : (UInt8.ofNat (n / 128 ^ j % 128 + 128)).toNat = n / 128 ^ j % 128 + 128 := by simp; omega
    rw [e2] at hc
    have hm := Nat.mod_mul (a := 128 ^ j) (b := 128) (x := n)
    rw [← Nat.pow_succ, Nat.mul_comm (128 ^ j)] at hm
    have hlt : n % 128 ^ (j + 1) ≤ n := Nat.mod_le _ _
    have hs1 : n % 128 ^ j + n / 128 ^ j % 128 * 128 ^ j < 18446744073709551616 := by rw [← hm]; exact Nat.lt_of_le_of_lt hlt hn
    have hs2 : n / 128 ^ j % 128 * 128 ^ j < 18446744073709551616 := Nat.lt_of_le_of_lt (Nat.le_add_left _ _) hs1
    refine ⟨b, o, ea, _, hc, split_dec (fun e => by have e : ((n / 128 ^ j % 128 + 128 : Nat) : Int) < 128 := e; omega) (fun _ => ?_)⟩
    have w7 : IntKind.i64.wrap (7 * (j : Int)) = 7 * (j : Int) := wid (by omega) (by omega)
    refine ⟨by rw [w7]; omega, 10 - (j + 1), by omega, rfl, j + 1, by rw [wid (by omega) (by omega)]; omega, by omega, rfl, ?_, .inr ?_, E ++ [UInt8.ofNat (n / 128 ^ j % 128 + 128)], by simp [hE], ?_⟩
    · have ha := and127 ⟨n / 128 ^ j % 128 + 128, by omega⟩
      simp only at ha
      have e5 : (n / 128 ^ j % 128 + 128) % 128 = n / 128 ^ j % 128 := by omega
      rw [ha, e5, wrap64s (n / 128 ^ j % 128) (by omega), shl7 _ j hj9 hs2, or7 _ _ _ hmod hs1, ← hm]
    · rw [Nat.pow_succ, ← Nat.div_div_eq_div_mul]; omega
    · rw [hnE, e1, Nat.pow_succ, ← Nat.div_div_eq_div_mul, List.append_assoc]; rfl

/-! ### several numbers -/
def textL (ns : List Nat) : List UInt8 := ns.flatMap numE
def textB (ns : List Nat) : ByteArray := ⟨(textL ns).toArray⟩
theorem textB_list (ns : List Nat) : (textB ns).data.toList = textL ns := rfl
theorem textB_bytes (ns : List Nat) : rowC byteC (textL ns) = bytesV (textB ns) := by rw [← rowC_bytes, textB_list]
theorem textL_len : ∀ ns : List Nat, (∀ n ∈ ns, n < 18446744073709551616) → (textL ns).length ≤ ns.length * 10
  | [], _ => by simp [textL]
  | n :: ns, h => by
    have h1 := textL_len ns fun m hm => h m (List.mem_cons_of_mem _ hm)
    have h2 := numE_le (h n (List.mem_cons_self))
    unfold textL at h1 ⊢
    rw [List.flatMap_cons, List.length_append, List.length_cons]; omega
theorem textL_append (a b : List Nat) : textL (a ++ b) = textL a ++ textL b := List.flatMap_append
theorem textL_one (a : Nat) : textL [a] = numE a := by unfold textL; simp
abbrev natI (ns : List Nat) : List Int := ns.map fun (n : Nat) => (n : Int)
theorem natI_get {ns : List Nat} {i n : Nat} (h : ns[i]? = some n) : (natI ns)[i]? = some (n : Int) := by rw [List.getElem?_map, h]; rfl
theorem text_spec {h : Hp} {a : Option Addr} {c : Nat} {ns : List Nat} (H : RowAt intC 1 h a (natI ns)) (hn : ∀ n ∈ ns, n < 9223372036854775808) (hl : ns.length < 1000000) {K : Value → Hp → Prop}
    (hK : ∀ h', Sub h h' → K (.string (textB ns)) h') : CallsH Try.prog ledger_text.id #[.slice a ns.length c] h K := by
  apply ledger_text.calls
  unfold ledger_text.W
  have hn' : ∀ n ∈ ns, n < 18446744073709551616 := fun n h => Nat.lt_trans (hn n h) (by decide)
  refine ⟨fun a' l' c' i x m => ∃ j : Nat, i = (j : Int) ∧ j ≤ ns.length ∧ m = ns.length - j ∧ l' = (textL (ns.take j)).length ∧ NewR byteC 1 tByte h x a' c' (textL (ns.take j)), ⟨_, 0, rfl, by omega, rfl, rfl, NewR.nil _ _⟩, ?_⟩
  rintro a' l' c' i x m ⟨j, rfl, hj, rfl, rfl, N⟩
  have hb := textL_len (ns.take j) fun n hm => hn' n (List.mem_of_mem_take hm)
  rw [List.length_take] at hb
  refine split_dec (fun g => ?_) (fun g => ?_)
  · have g : j < ns.length := by have : (j : Int) < (ns.length : Int) := g; omega
    have hq : ns[j]? = some ns[j] := List.getElem?_eq_getElem g
    generalize ns[j] = q at hq
    have hqn := hn q (List.mem_of_getElem? hq)
    obtain ⟨b, o, ea, hc⟩ := (H.sub N.sub).get intC_len (by decide) (natI_get hq)
    have ht : ns.take (j + 1) = ns.take j ++ [q] := by rw [List.take_add_one, hq]; rfl
    refine ⟨by omega, by show (j : Int) < (ns.length : Int); omega, b, o, ea, _, hc 0 _ rfl, ?_⟩
    rw [wrap64s q (by omega)]
    refine put_num_spec N.own.row (by omega) q (by omega) fun x2 a2 c2 N2 => ⟨_, _, _, rfl, _, ?_, j + 1, by rw [wid (by omega) (by omega)]; omega, by omega, rfl, ?_, ?_⟩
    · omega
    · rw [ht, textL_append, textL_one]
    · rw [ht, textL_append, textL_one]; exact N2.back N.sub
  · have : j = ns.length := by
      have : ¬ (j : Int) < (ns.length : Int) := g
      omega
    subst this
    rw [List.take_length] at N ⊢
    refine ⟨textB ns, ?_, hK x N.sub⟩
    have := N.own.row
    unfold RowAt at this
    rw [textB_bytes, Nat.mul_one] at this
    exact this
theorem bytes_row {h : Hp} {k : Nat} (hk : h k = none) (s : ByteArray) (m : Nat) (f : Nat × Nat) (t : TypeId) : RowAt byteC 1 (h.upd k (.cells (grown (bytesV s) [] [Value.int .u8 0] m) t f)) (some ⟨k, 0, none⟩) s.data.toList := by
  unfold RowAt
  rw [rowC_bytes, size_len, Nat.mul_one]
  refine ⟨by unfold bytesV; rw [List.length_map, size_len], .inr ⟨k, 0, rfl, fun i hi => ?_⟩⟩
  unfold Hp.cell
  rw [Hp.upd_same]
  unfold grown
  simp only [Nat.zero_add]
  rw [List.getElem?_toArray, List.append_assoc, List.getElem?_append_left hi]
  exact List.getElem?_eq_getElem hi
theorem numbers_spec {h : Hp} {ns : List Nat} (hn : ∀ n ∈ ns, n < 9223372036854775808) (hl : ns.length < 1000000) {K : Value → Hp → Prop}
    (hK : ∀ h' a c, NewR intC 1 tInt h h' a c (natI ns) → K (.slice a ns.length c) h') : CallsH Try.prog ledger_numbers.id #[.string (textB ns), .int .i64 ns.length] h K := by
  apply ledger_numbers.calls
  unfold ledger_numbers.W
  have hn' : ∀ n ∈ ns, n < 18446744073709551616 := fun n h => Nat.lt_trans (hn n h) (by decide)
  have hbt := textL_len ns hn'
  refine ⟨fun a' l' c' at_ i x m => ∃ j : Nat, i = (j : Int) ∧ j ≤ ns.length ∧ m = ns.length - j ∧ j = l' ∧ at_ = ((textL (ns.take j)).length : Nat) ∧ NewR intC 1 tInt h x a' c' (natI (ns.take j)), ⟨_, 0, rfl, by omega, rfl, rfl, rfl, NewR.nil _ _⟩, ?_⟩
  rintro a' l' c' at_ i x m ⟨j, rfl, hj, rfl, rfl, rfl, N⟩
  refine split_dec (fun g => ?_) (fun g => ?_)
  · have g : j < ns.length := by have : (j : Int) < (ns.length : Int) := g; omega
    have hq : ns[j]? = some ns[j] := List.getElem?_eq_getElem g
    have hdr := List.drop_eq_getElem_cons g
    generalize ns[j] = q at hq hdr
    have hqn := hn q (List.mem_of_getElem? hq)
    have ht : ns.take (j + 1) = ns.take j ++ [q] := by rw [List.take_add_one, hq]; rfl
    have hsp : textL ns = textL (ns.take j) ++ numE q ++ textL (ns.drop (j + 1)) := by
      conv => lhs; rw [← List.take_append_drop j ns, hdr]
      rw [textL_append, show q :: ns.drop (j + 1) = [q] ++ ns.drop (j + 1) from rfl, textL_append, textL_one, List.append_assoc]
    intro cap hcap k hk
    have hrow := bytes_row hk (textB ns) (cap - (textB ns).size) (cap, cap + 1) 5
    have hsz : (textB ns).size = (textL (ns.take j) ++ numE q ++ textL (ns.drop (j + 1))).length := by rw [← hsp]; rfl
    rw [textB_list, hsp] at hrow
    rw [hsz] at hrow ⊢
    refine get_num_spec hrow (by omega) (by rw [← hsp]; omega) ⟨_, _, _, rfl, fun k2 hk2 => ⟨intC (q : Int), ?_, fun a2 c2 y => NewR intC 1 tInt h y a2 c2 (natI (ns.take (j + 1))), fun a2 c2 y hy => ⟨_, ?_, j + 1, by rw [wid (by omega) (by omega)]; omega, by omega, rfl, rfl, ?_, hy⟩, ?_⟩⟩
    · have : IntKind.i64.wrap ((q : Nat) : Int) = (q : Int) := wid (by omega) (by omega)
      rw [this]
      exact (Blk.new _ _ _ [_]).slice rfl
    · omega
    · rw [ht, textL_append, textL_one, List.length_append]
    · refine append_row appTInt intC_len intC_plain (L := natI (ns.take j)) (M := [(q : Int)]) ((N.upd (Sub.upd hk _)).upd (Sub.upd hk2 _)) ?_ rfl (rowC_one _).symm ?_ fun a2 c2 y hy => ?_
      · rw [List.length_map, List.length_take]; omega
      · rw [List.length_map, List.length_take]; simp; omega
      · rw [ht]; unfold natI; rw [List.map_append]; exact hy
  · have : j = ns.length := by
      have : ¬ (j : Int) < (ns.length : Int) := g
      omega
    subst this
    rw [List.take_length] at N
    exact hK x a' c' N
end Go.Proofs.Ytlklpdedppgkfaa
