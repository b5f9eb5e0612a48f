/- A new state of package sha, and the padding. Conditions: the ranges that each contract names. -/
import Derived.Test.YtpokejaglmkphaaS4
namespace Go.Proofs.Ytpokejaglmkphaa
open Go.Gx

set_option maxRecDepth 100000
abbrev tHash : TypeId := 107
abbrev tB : TypeId := 5
theorem appT8 : AppT Try.prog tB 1 1 := AppT.of (by kernel_rfl)

/-! ### a new state -/
def iv (i : Nat) : BitVec 32 := BitVec.ofNat 32 (rootN ((prs 310).getD i 0) false 49)
def S0 : S8 := ⟨iv 0, iv 1, iv 2, iv 3, iv 4, iv 5, iv 6, iv 7⟩
/-- What a state's block holds. -/
def hashC (l : List (BitVec 32)) (a : Option Addr) (len c : Nat) (n : Int) : List Value := bigV .u32 (wI kW) ++ bigV .u32 (wI l) ++ [.slice a len c, .int .i64 n]
theorem hashC_length {l : List (BitVec 32)} (hl : l.length = 8) (a : Option Addr) (len c : Nat) (n : Int) : (hashC l a len c n).length = 74 := by
  unfold hashC
  simp [bigV_length, wI_length, kW_length, hl]
theorem hashC_k {l : List (BitVec 32)} (a : Option Addr) (len c : Nat) (n : Int) (i : Nat) (hi : i < 64) : (hashC l a len c n)[i]? = (bigV .u32 (wI kW))[i]? := by
  unfold hashC
  rw [List.append_assoc, List.getElem?_append_left (by rw [bigV_length, wI_length, kW_length]; exact hi)]
theorem hashC_s {l : List (BitVec 32)} (hl : l.length = 8) (a : Option Addr) (len c : Nat) (n : Int) (i : Nat) (hi : i < 8) : (hashC l a len c n)[64 + i]? = some (.int .u32 (u32 (l.getD i 0))) := by
  unfold hashC
  rw [List.append_assoc, List.getElem?_append_right (by rw [bigV_length, wI_length, kW_length]; omega), bigV_length, wI_length, kW_length, Nat.add_sub_cancel_left,
    List.getElem?_append_left (by rw [bigV_length, wI_length]; omega), bigV_get, wI_get, getD_get (by omega)]
  rfl
theorem hashC_r {l : List (BitVec 32)} (hl : l.length = 8) (a : Option Addr) (len c : Nat) (n : Int) : (hashC l a len c n)[72]? = some (.slice a len c) ∧ (hashC l a len c n)[73]? = some (.int .i64 n) := by
  have h : (bigV .u32 (wI kW) ++ bigV .u32 (wI l)).length = 72 := by simp [bigV_length, wI_length, kW_length, hl]
  unfold hashC
  constructor
  · rw [List.getElem?_append_right (by omega), h]; rfl
  · rw [List.getElem?_append_right (by omega), h]; rfl
theorem hashC_set_s {l : List (BitVec 32)} (hl : l.length = 8) (a : Option Addr) (len c : Nat) (n : Int) (i : Nat) (hi : i < 8) (x : BitVec 32) : setL (hashC l a len c n) (64 + i) [.int .u32 (u32 x)] = hashC (l.set i x) a len c n := by
  unfold hashC
  simp only [setL]
  rw [List.append_assoc, List.set_append_right _ _ (by rw [bigV_length, wI_length, kW_length]; omega), bigV_length, wI_length, kW_length, Nat.add_sub_cancel_left,
    List.set_append_left _ _ (by rw [bigV_length, wI_length]; omega), List.append_assoc]
  congr 2
  unfold bigV wI
  rw [List.map_set, List.map_set]
theorem hashC_set_r {l : List (BitVec 32)} (hl : l.length = 8) (a : Option Addr) (len c : Nat) (n : Int) (a' : Option Addr) (len' c' : Nat) : setL (hashC l a len c n) 72 [.slice a' len' c'] = hashC l a' len' c' n := by
  have h : (bigV .u32 (wI kW) ++ bigV .u32 (wI l)).length = 72 := by simp [bigV_length, wI_length, kW_length, hl]
  unfold hashC
  simp only [setL]
  rw [List.set_append_right _ _ (by omega), h]; rfl
theorem hashC_set_n {l : List (BitVec 32)} (hl : l.length = 8) (a : Option Addr) (len c : Nat) (n n' : Int) : setL (hashC l a len c n) 73 [.int .i64 n'] = hashC l a len c n' := by
  have h : (bigV .u32 (wI kW) ++ bigV .u32 (wI l)).length = 72 := by simp [bigV_length, wI_length, kW_length, hl]
  unfold hashC
  simp only [setL]
  rw [List.set_append_right _ _ (by omega), h]; rfl
theorem hashC_set8 {l l' : List (BitVec 32)} (hl : l.length = 8) (hl' : l'.length = 8) (a : Option Addr) (len c : Nat) (n : Int) : setL (hashC l a len c n) 64 (bigV .u32 (wI l')) = hashC l' a len c n := by
  unfold hashC
  rw [List.append_assoc, setL_append (by rw [bigV_length, wI_length, kW_length]) (by simp [bigV_length, wI_length, hl, hl']), bigV_length, wI_length, hl']
  congr 1
  rw [List.drop_append_of_le_length (by rw [bigV_length, wI_length]; omega), List.drop_of_length_le (by rw [bigV_length, wI_length]; omega)]
  rfl
theorem S8.list_len (s : S8) : s.list.length = 8 := rfl
theorem iv_list : S0.list = (List.range 8).map iv := rfl
theorem new_spec {h : Hp} {K : Value → Hp → Prop} (hK : ∀ h' b, Sub h h' → h b = none → Blk h' b tHash (hashC S0.list none 0 0 0) → K (.pointer (some ⟨b, 0, none⟩)) h') : CallsH Try.prog sha_New.id #[] h K := by
  apply sha_New.calls
  unfold sha_New.W
  refine roots_spec fun h2 hs2 => ⟨wI kW, by rw [wI_length, kW_length], rfl, split_cond (fun _ => ?_) (fun e => ?_)⟩
  · intro k hk
    have hk' : h k = none := hs2.none hk
    generalize hz : ([Value.int IntKind.u32 0, Value.int IntKind.u32 0, Value.int IntKind.u32 0, Value.int IntKind.u32 0, Value.int IntKind.u32 0, Value.int IntKind.u32 0, Value.int IntKind.u32 0, Value.int IntKind.u32 0, Value.int IntKind.u32 0, Value.int IntKind.u32 0, Value.int IntKind.u32 0, Value.int IntKind.u32 0, Value.int IntKind.u32 0, Value.int IntKind.u32 0, Value.int IntKind.u32 0, Value.int IntKind.u32 0, Value.int IntKind.u32 0, Value.int IntKind.u32 0, Value.int IntKind.u32 0, Value.int IntKind.u32 0, Value.int IntKind.u32 0, Value.int IntKind.u32 0, Value.int IntKind.u32 0, Value.int IntKind.u32 0, Value.int IntKind.u32 0, Value.int IntKind.u32 0, Value.int IntKind.u32 0, Value.int IntKind.u32 0, Value.int IntKind.u32 0, Value.int IntKind.u32 0, Value.int IntKind.u32 0, Value.int IntKind.u32 0, Value.int IntKind.u32 0, Value.int IntKind.u32 0, Value.int IntKind.u32 0, Value.int IntKind.u32 0, Value.int IntKind.u32 0, Value.int IntKind.u32 0, Value.int IntKind.u32 0, Value.int IntKind.u32 0, Value.int IntKind.u32 0, Value.int IntKind.u32 0, Value.int IntKind.u32 0, Value.int IntKind.u32 0, Value.int IntKind.u32 0, Value.int IntKind.u32 0, Value.int IntKind.u32 0, Value.int IntKind.u32 0, Value.int IntKind.u32 0, Value.int IntKind.u32 0, Value.int IntKind.u32 0, Value.int IntKind.u32 0, Value.int IntKind.u32 0, Value.int IntKind.u32 0, Value.int IntKind.u32 0, Value.int IntKind.u32 0, Value.int IntKind.u32 0, Value.int IntKind.u32 0, Value.int IntKind.u32 0, Value.int IntKind.u32 0, Value.int IntKind.u32 0, Value.int IntKind.u32 0, Value.int IntKind.u32 0, Value.int IntKind.u32 0, Value.int IntKind.u32 0, Value.int IntKind.u32 0, Value.int IntKind.u32 0, Value.int IntKind.u32 0, Value.int IntKind.u32 0, Value.int IntKind.u32 0, Value.int IntKind.u32 0, Value.int IntKind.u32 0, Value.slice none 0 0, Value.int IntKind.i64 0] : List Value) = zs
    have hzs : setL zs 0 (bigV .u32 (wI kW)) = hashC (List.replicate 8 0) none 0 0 0 := by
      have := @setL_append [] zs (bigV .u32 (wI kW)) 0 rfl (by rw [bigV_length, wI_length, kW_length, ← hz]; decide)
      rw [List.nil_append, List.nil_append, bigV_length, wI_length, kW_length] at this
      rw [this, ← hz]
      unfold hashC
      rw [List.append_assoc]; rfl
    rw [hzs]
    clear hz hzs
    refine ⟨fun n x m => ∃ j : Nat, n = (j : Int) ∧ j ≤ 8 ∧ m = 8 - j ∧ Sub h x ∧ Blk x k tHash (hashC (S0.list.take j ++ (List.replicate 8 0).drop j) none 0 0 0), ⟨8, 0, rfl, by omega, rfl, hs2.trans (Sub.upd hk _), ?_⟩, ?_⟩
    · exact Blk.new _ _ _ (hashC (List.replicate 8 0) none 0 0 0)
    rintro n x m ⟨j, rfl, hj, rfl, hs, hb⟩
    refine split_dec (fun h1 => ?_) (fun h1 => ?_)
    · have hj8 : j < 8 := by omega
      refine prime_spec j (by omega) ⟨_, rfl, ?_⟩
      have hp : (prs 310)[j]'(by rw [prs_310]; omega) < 4294967296 := by
        have hm := List.getElem_mem (l := prs 310) (n := j) (by rw [prs_310]; omega)
        generalize (prs 310)[j]'(by rw [prs_310]; omega) = q at hm
        unfold prs at hm
        rw [List.mem_filter, List.mem_map] at hm
        obtain ⟨⟨y, hy, e⟩, _⟩ := hm
        rw [List.mem_range] at hy
        omega
      refine root_spec _ hp false ⟨_, rfl, by omega, by omega, ?_⟩
      have e1 : 64 + ((j : Nat) : Int).toNat * 1 = 64 + j := by omega
      have e2 : ∀ q : Nat, ((q % 4294967296 : Nat) : Int) = u32 (BitVec.ofNat 32 q) := fun q => by unfold u32; rw [BitVec.toNat_ofNat]
      have hl : (S0.list.take j ++ (List.replicate 8 0).drop j).length = 8 := by simp [S8.list]; omega
      rw [e1, e2, wid (by omega) (by omega)]
      refine ⟨hb.store (by rw [hashC_length hl]; omega), 8 - (j + 1), by omega, j + 1, by omega, by omega, rfl, ?_, ?_⟩
      · exact (Keep.put (fun c => c = k) _ _ _ rfl).sub hs fun c hc => by rw [hc]; exact hk'
      · have := hb.put (64 + j) [.int .u32 (u32 (BitVec.ofNat 32 (rootN ((prs 310)[j]'(by rw [prs_310]; omega)) false 49)))]
        rw [hashC_set_s hl _ _ _ _ _ hj8] at this
        have hv : S0.list[j]? = some (BitVec.ofNat 32 (rootN ((prs 310)[j]'(by rw [prs_310]; omega)) false 49)) := by
          rw [iv_list, List.getElem?_map, List.getElem?_range hj8]
          simp only [Option.map_some, iv]
          rw [List.getD_eq_getElem?_getD, List.getElem?_eq_getElem (by rw [prs_310]; omega)]
          rfl
        have es : ∀ {zw sl : List (BitVec 32)} {v}, sl.length = zw.length → j < zw.length → zw[j]? = some v → (zw.take j ++ sl.drop j).set j v = zw.take (j + 1) ++ sl.drop (j + 1) := by
          intro zw sl v hl h hv
          rw [List.set_append_right _ _ (by simp; omega)]
          simp only [List.length_take]
          rw [Nat.min_eq_left (by omega), Nat.sub_self, List.drop_eq_getElem_cons (by omega : j < sl.length), List.set_cons_zero, List.take_add_one, hv]
          simp
        rw [es (zw := S0.list) (sl := List.replicate 8 0) (by rfl) hj8 hv] at this
        exact this
    · have hj : j = 8 := by omega
      subst hj
      exact hK x k hs hk' hb
  · have : (Nat.beq (bigV .u32 (wI kW)).length 64 && true) = true := by rw [bigV_length, wI_length, kW_length]; rfl
    rw [this] at e; cases e

/-! ### padding -/
def be8 (m i : Nat) : List UInt8 := (List.range i).map fun j => UInt8.ofNat (m / 2 ^ (56 - 8 * j))
def padZ (n : Nat) : Nat := (119 - n % 64) % 64
def padB (n : Nat) : List UInt8 := (128 :: List.replicate (padZ n) 0) ++ be8 (n * 8) 8
theorem padB_length (n : Nat) : (padB n).length = 9 + padZ n := by simp [padB, be8]; omega
theorem padB_all (n : Nat) : (n + (padB n).length) % 64 = 0 := by rw [padB_length]; unfold padZ; omega
theorem cells8_append (l m : List UInt8) : cells8 (l ++ m) = cells8 l ++ cells8 m := List.map_append
theorem cells8_plain (l : List UInt8) : plainP (cells8 l) := fun v hv => by
  obtain ⟨n, _, rfl⟩ := List.mem_map.1 hv
  exact ⟨fun c h => (by cases h), fun c h => (by cases h)⟩
theorem u8_ofNat (x : Nat) : ((UInt8.ofNat x).toNat : Int) = ((x % 256 : Nat) : Int) := by simp
theorem pad_spec (n : Nat) (hn : n < 1152921504606846976) {h : Hp} {K : Value → Hp → Prop}
    (hK : ∀ h' a l c, Sub h h' → (∀ b, blkOf a b → h b = none) → Own h' tB 1 a l c (cells8 (padB n)) → K (.slice a l c) h') : CallsH Try.prog sha_Pad.id #[.int .i64 n] h K := by
  apply sha_Pad.calls
  unfold sha_Pad.W
  refine split_dec (fun h1 => by omega) (fun _ => ?_)
  intro k1 hk1
  refine ⟨fun a l c x m => ∃ j : Nat, j ≤ padZ n ∧ l = 1 + j ∧ m = padZ n - j ∧ Sub h x ∧ (∀ b, blkOf a b → h b = none) ∧ Own x tB 1 a l c (cells8 (128 :: List.replicate j 0)), ?_, ?_⟩
  · refine ⟨padZ n, 0, by omega, rfl, rfl, Sub.upd hk1 _, ?_, rfl, Nat.le_refl _, .inr ⟨k1, [], rfl, Blk.new _ _ _ (cells8 [128]), rfl⟩⟩
    rintro b ⟨o, s, e⟩; cases e; exact hk1
  rintro a l c x m ⟨j, hj, rfl, rfl, hs, hf, ho⟩
  have hz : padZ n < 64 := by unfold padZ; omega
  refine ⟨fun e => (by cases e), fun e => (by cases e), ?_⟩
  have e64 : ((n : Nat) : Int).tmod 64 = ((n % 64 : Nat) : Int) := by rw [Int.tmod_eq_emod_of_nonneg (by omega)]; omega
  have eo : Int.ofNat (1 + j) = ((1 + j : Nat) : Int) := rfl
  rw [e64, eo, wid (x := ((n % 64 : Nat) : Int) + ((1 + j : Nat) : Int)) (by omega) (by omega), wid (by omega) (by omega)]
  have e64' : (((n % 64 : Nat) : Int) + ((1 + j : Nat) : Int) + 8).tmod 64 = (((n % 64 + (1 + j) + 8) % 64 : Nat) : Int) := by rw [Int.tmod_eq_emod_of_nonneg (by omega)]; omega
  rw [e64']
  refine split_ne (fun h1 => ?_) (fun h1 => ?_)
  · have hjz : j ≠ padZ n := by unfold padZ at *; omega
    intro k9 hk9
    refine ⟨cells8 [0], (Blk.new _ _ _ (cells8 [0])).slice rfl, fun a' c' h' => Sub h h' ∧ (∀ b, blkOf a' b → h b = none) ∧ Own h' tB 1 a' (1 + j + 1) c' (cells8 (128 :: List.replicate j 0) ++ cells8 [0]), ?_, ?_⟩
    · rintro a' c' h' ⟨g1, g2, g3⟩
      refine ⟨padZ n - (j + 1), by omega, j + 1, by omega, by omega, rfl, g1, g2, ?_⟩
      have : cells8 (128 :: List.replicate j 0) ++ cells8 [0] = cells8 (128 :: List.replicate (j + 1) 0) := by
        rw [← cells8_append, List.replicate_succ']; rfl
      rw [← this]; exact g3
    · exact append_new appT8 (hs.trans (Sub.upd hk9 _)) hf (ho.sub (Sub.upd hk9 _)) rfl (cells8_plain _) (by omega) fun a' c' h' g1 g2 g3 => ⟨g1, g2, g3⟩
  · have hjz : j = padZ n := by unfold padZ at *; omega
    subst hjz
    have hlz : (128 :: List.replicate (padZ n) (0 : UInt8)).length = 1 + padZ n := by simp; omega
    refine ⟨fun a l c i x m => ∃ t : Nat, i = (t : Int) ∧ t ≤ 8 ∧ l = 1 + padZ n + t ∧ m = 8 - t ∧ Sub h x ∧ (∀ b, blkOf a b → h b = none) ∧ Own x tB 1 a l c (cells8 ((128 :: List.replicate (padZ n) 0) ++ be8 (n * 8) t)), ⟨8, 0, rfl, by omega, rfl, rfl, hs, hf, by simpa [be8] using ho⟩, ?_⟩
    rintro a l c i y m ⟨t, rfl, ht, rfl, rfl, hs', hf', ho'⟩
    refine split_dec (fun h2 => ?_) (fun h2 => ?_)
    · have w1 : IntKind.i64.wrap (8 * (t : Int)) = 8 * (t : Int) := wid (by omega) (by omega)
      have w2 : IntKind.i64.wrap (56 - 8 * (t : Int)) = 56 - 8 * (t : Int) := wid (by omega) (by omega)
      rw [w1, w2]
      refine ⟨by omega, fun k24 hk24 => ?_⟩
      have hv : IntKind.u8.wrap (ishr IntKind.u64 (IntKind.u64.wrap (IntKind.u64.wrap ((n : Nat) : Int) * 8)) (56 - 8 * (t : Int))) = (((UInt8.ofNat (n * 8 / 2 ^ (56 - 8 * t))).toNat : Nat) : Int) := by
        rw [wrapN (by omega), u8_ofNat, wrap8]
        have : IntKind.u64.wrap (((n : Nat) : Int) * 8) = ((n * 8 : Nat) : Int) := by rw [wrap64]; omega
        rw [this]
        show (((n * 8 : Nat) : Int).fdiv (2 ^ min (56 - 8 * (t : Int)).toNat 64)) % 256 = _
        have e : min (56 - 8 * (t : Int)).toNat 64 = 56 - 8 * t := by omega
        rw [e, Int.fdiv_eq_ediv_of_nonneg _ (Int.pow_nonneg (by omega))]
        rw [Int.natCast_emod, Int.natCast_ediv, Int.natCast_pow]
        rfl
      rw [hv]
      refine ⟨cells8 [UInt8.ofNat (n * 8 / 2 ^ (56 - 8 * t))], (Blk.new _ _ _ (cells8 [_])).slice rfl, fun a' c' h' => Sub h h' ∧ (∀ b, blkOf a' b → h b = none) ∧ Own h' tB 1 a' (1 + padZ n + t + 1) c' (cells8 ((128 :: List.replicate (padZ n) 0) ++ be8 (n * 8) t) ++ cells8 [UInt8.ofNat (n * 8 / 2 ^ (56 - 8 * t))]), ?_, ?_⟩
      · rintro a' c' h' ⟨g1, g2, g3⟩
        refine ⟨8 - (t + 1), by omega, t + 1, by rw [wid (by omega) (by omega)]; omega, by omega, by omega, rfl, g1, g2, ?_⟩
        have : cells8 ((128 :: List.replicate (padZ n) 0) ++ be8 (n * 8) t) ++ cells8 [UInt8.ofNat (n * 8 / 2 ^ (56 - 8 * t))] = cells8 ((128 :: List.replicate (padZ n) 0) ++ be8 (n * 8) (t + 1)) := by
          rw [← cells8_append, List.append_assoc]
          congr 2
          unfold be8
          rw [List.range_succ, List.map_append]; rfl
        rw [← this]; exact g3
      · exact append_new appT8 (hs'.trans (Sub.upd hk24 _)) hf' (ho'.sub (Sub.upd hk24 _)) rfl (cells8_plain _) (by omega) fun a' c' h' g1 g2 g3 => ⟨g1, g2, g3⟩
    · have ht : t = 8 := by omega
      subst ht
      exact hK _ _ _ _ hs' hf' ho'
end Go.Proofs.Ytpokejaglmkphaa
