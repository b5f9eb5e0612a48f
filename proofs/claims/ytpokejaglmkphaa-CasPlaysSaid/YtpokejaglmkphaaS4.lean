/- How package sha mixes a block of 64 bytes into a state. Conditions: the table and the block lie in memory as they are named. -/
import Derived.Test.YtpokejaglmkphaaS3
namespace Go.Proofs.Ytpokejaglmkphaa
open Go.Gx

/-- Eight words. -/
structure S8 where
  a : BitVec 32
  b : BitVec 32
  c : BitVec 32
  d : BitVec 32
  e : BitVec 32
  f : BitVec 32
  g : BitVec 32
  h : BitVec 32
def S8.list (s : S8) : List (BitVec 32) := [s.a, s.b, s.c, s.d, s.e, s.f, s.g, s.h]
def S8.val (s : S8) : Value := .agg #[.int .u32 (u32 s.a), .int .u32 (u32 s.b), .int .u32 (u32 s.c), .int .u32 (u32 s.d), .int .u32 (u32 s.e), .int .u32 (u32 s.f), .int .u32 (u32 s.g), .int .u32 (u32 s.h)]
/-- Bytes as cells. -/
def cells8 (l : List UInt8) : List Value := l.map fun b => .int .u8 (b.toNat : Nat)
theorem cells8_length (l : List UInt8) : (cells8 l).length = l.length := List.length_map _
theorem cells8_get (l : List UInt8) (i : Nat) : (cells8 l)[i]? = l[i]?.map fun b => .int .u8 (b.toNat : Nat) := by unfold cells8; rw [List.getElem?_map]
theorem bytesV_cells (s : ByteArray) : bytesV s = cells8 s.data.toList := rfl
/-- A word of bytes, the first one highest. -/
def be (l : List UInt8) : BitVec 32 := l.foldl (fun w x => (w <<< 8) ||| BitVec.ofNat 32 x.toNat) 0
def wNext (w : List (BitVec 32)) (block : List UInt8) (t : Nat) : BitVec 32 :=
  if t < 16 then be ((block.drop (4 * t)).take 4) else
    w.getD (t - 16) 0 + w.getD (t - 7) 0 + (turnV (w.getD (t - 15) 0) 7 ^^^ turnV (w.getD (t - 15) 0) 18 ^^^ w.getD (t - 15) 0 >>> 3) + (turnV (w.getD (t - 2) 0) 17 ^^^ turnV (w.getD (t - 2) 0) 19 ^^^ w.getD (t - 2) 0 >>> 10)
theorem wNext_hi {w : List (BitVec 32)} {block : List UInt8} {t : Nat} (h : ¬ t < 16) : wNext w block t =
    w.getD (t - 16) 0 + w.getD (t - 7) 0 + (turnV (w.getD (t - 15) 0) 7 ^^^ turnV (w.getD (t - 15) 0) 18 ^^^ w.getD (t - 15) 0 >>> 3) + (turnV (w.getD (t - 2) 0) 17 ^^^ turnV (w.getD (t - 2) 0) 19 ^^^ w.getD (t - 2) 0 >>> 10) := if_neg h
def wL (block : List UInt8) : Nat → List (BitVec 32)
  | 0 => []
  | t + 1 => wL block t ++ [wNext (wL block t) block t]
theorem wL_length (block : List UInt8) : ∀ t, (wL block t).length = t
  | 0 => rfl
  | t + 1 => by rw [wL, List.length_append, wL_length block t]; rfl
def rnd (k w : BitVec 32) (s : S8) : S8 :=
  let u := s.h + (turnV s.e 6 ^^^ turnV s.e 11 ^^^ turnV s.e 25) + (s.e &&& s.f ^^^ ~~~ s.e &&& s.g) + k + w
  let v := (turnV s.a 2 ^^^ turnV s.a 13 ^^^ turnV s.a 22) + (s.a &&& s.b ^^^ s.a &&& s.c ^^^ s.b &&& s.c)
  ⟨u + v, s.a, s.b, s.c, s.d + u, s.e, s.f, s.g⟩
def rounds (k w : List (BitVec 32)) (s : S8) : Nat → S8
  | 0 => s
  | t + 1 => rnd (k.getD t 0) (w.getD t 0) (rounds k w s t)
def S8.add (s z : S8) : S8 := ⟨s.a + z.a, s.b + z.b, s.c + z.c, s.d + z.d, s.e + z.e, s.f + z.f, s.g + z.g, s.h + z.h⟩
def mixF (k : List (BitVec 32)) (s : S8) (block : List UInt8) : S8 := s.add (rounds k (wL block 64) s 64)

theorem wI_get (l : List (BitVec 32)) (i : Nat) : (wI l)[i]? = l[i]?.map u32 := by unfold wI; rw [List.getElem?_map]
theorem getD_get {l : List (BitVec 32)} {i : Nat} (h : i < l.length) : l[i]? = some (l.getD i 0) := by
  rw [List.getD_eq_getElem?_getD, List.getElem?_eq_getElem h]; rfl
theorem pad64_get {l : List (BitVec 32)} {i : Nat} (h : i < l.length) : (pad64 l)[i]? = some (u32 (l.getD i 0)) := by
  unfold pad64
  rw [List.getElem?_append_left (by rw [wI_length]; exact h), wI_get, getD_get h]; rfl
theorem pad64_zero {l : List (BitVec 32)} {i : Nat} (h : l.length ≤ i) (h2 : i < 64) : (pad64 l)[i]? = some 0 := by
  unfold pad64
  rw [List.getElem?_append_right (by rw [wI_length]; exact h), wI_length, List.getElem?_replicate_of_lt (by omega)]
theorem be_snoc (l : List UInt8) (x : UInt8) : be (l ++ [x]) = (be l <<< 8) ||| BitVec.ofNat 32 x.toNat := by
  unfold be; rw [List.foldl_append]; rfl
theorem u8_u32 (x : UInt8) : IntKind.u32.wrap ((x.toNat : Nat) : Int) = u32 (BitVec.ofNat 32 x.toNat) := by
  rw [wrap32]; unfold u32; rw [BitVec.toNat_ofNat]; omega
theorem step_set {sl zw : List (BitVec 32)} {i : Nat} (hl : sl.length = zw.length) (h : i < zw.length) {v : BitVec 32} (hv : zw[i]? = some v) :
    (wI (zw.take i ++ sl.drop i)).set i (u32 v) = wI (zw.take (i + 1) ++ sl.drop (i + 1)) := by
  unfold wI
  rw [← List.map_set]
  congr 1
  rw [List.set_append_right _ _ (by simp; omega)]
  simp only [List.length_take]
  rw [Nat.min_eq_left (by omega), Nat.sub_self, List.drop_eq_getElem_cons (by omega : i < sl.length), List.set_cons_zero, List.take_add_one, hv]
  simp
theorem mix_spec {k : List (BitVec 32)} (hk : k.length = 64) {s : S8} {block : List UInt8} (hbl : block.length = 64) {kb ko : Nat} {a : Option Addr} {c : Nat} (hc : 64 ≤ c) {h : Hp} {K : Value → Hp → Prop}
    (hkc : CellsAt h kb ko (bigV .u32 (wI k))) (ha : SliceAt h a 64 (cells8 block)) (hK : ∀ h', Sub h h' → K (mixF k s block).val h') :
    CallsH Try.prog sha_mix.id #[.pointer (some ⟨kb, ko, none⟩), s.val, .slice a 64 c] h K := by
  apply sha_mix.calls
  unfold sha_mix.W
  intro k1 hk1 k2 hk2
  have hne : k2 ≠ k1 := by
    intro e; subst e; rw [Hp.upd_same] at hk2; cases hk2
  have hk2' : h k2 = none := by rw [Hp.upd_ne _ _ hne] at hk2; exact hk2
  have kS : ∀ {x : Hp} {o us}, Sub h x → Sub h (x.put k2 o us) := fun hs => (Keep.put (fun c => c = k2) _ _ _ rfl).sub hs fun c hc => by rw [hc]; exact hk2'
  have kS1 : ∀ {x : Hp} {o us}, Sub h x → Sub h (x.put k1 o us) := fun hs => (Keep.put (fun c => c = k1) _ _ _ rfl).sub hs fun c hc => by rw [hc]; exact hk1
  refine ⟨fun n x m => ∃ t : Nat, n = (t : Int) ∧ t ≤ 64 ∧ m = 64 - t ∧ Sub h x ∧ Blk x k1 99 (bigV .u32 (wI s.list)) ∧ Blk x k2 97 (bigV .u32 (pad64 (wL block t))), ?_, ?_⟩
  · refine ⟨64, 0, rfl, by omega, rfl, (Sub.upd hk1 _).trans (Sub.upd hk2 _), ?_, ?_⟩
    · exact (Blk.new _ _ _ (bigV .u32 (wI s.list))).upd hk2 _
    · exact Blk.new _ _ _ (bigV .u32 (pad64 []))
  rintro n x m ⟨t, rfl, ht, rfl, hs, hb1, hb2⟩
  have hwl := wL_length block t
  refine split_dec (fun h1 => split_dec (fun h2 => ?_) (fun h2 => ?_)) (fun h1 => ?_)
  · -- the first sixteen words
    have w4 : IntKind.i64.wrap (4 * (t : Int)) = 4 * (t : Int) := wid (by omega) (by omega)
    have w44 : IntKind.i64.wrap (4 * (t : Int) + 4) = 4 * (t : Int) + 4 := wid (by omega) (by omega)
    rw [w4, w44]
    refine ⟨by omega, by show _ ≤ (c : Int); omega, by omega, by show _ ≤ (((4 * (t : Int) + 4).toNat : Nat) : Int); omega, ?_⟩
    refine ⟨fun n x m => ∃ i : Nat, n = (i : Int) ∧ i ≤ 4 ∧ m = 4 - i ∧ Sub h x ∧ Blk x k1 99 (bigV .u32 (wI s.list)) ∧ Blk x k2 97 (bigV .u32 ((pad64 (wL block t)).set t (u32 (be ((block.drop (4 * t)).take i))))), ?_, ?_⟩
    · refine ⟨4, 0, rfl, by omega, rfl, hs, hb1, ?_⟩
      have : (pad64 (wL block t)).set t (u32 (be ((block.drop (4 * t)).take 0))) = pad64 (wL block t) := by
        have h0 := pad64_zero (l := wL block t) (i := t) (by omega) (by omega)
        apply List.ext_getElem?
        intro i
        rw [List.getElem?_set]
        split
        · rename_i e
          subst e
          rw [h0, pad64_length (by omega), if_pos (by omega)]; rfl
        · rfl
      rw [this]; exact hb2
    rintro n y m ⟨i, rfl, hi, rfl, hs', hb1', hb2'⟩
    have hlen4 : (4 * (t : Int) + 4).toNat - (4 * (t : Int)).toNat = 4 := by omega
    rw [hlen4]
    refine split_dec (fun h3 => ?_) (fun h3 => ?_)
    · have h3 : i < 4 := by have : (i : Int) < ((4 : Nat) : Int) := h3; omega
      have hpos : 4 * t + i < 64 := by omega
      obtain ⟨b, o, eb, v, hv, hcell⟩ := (ha.sub hs').cell hpos
      obtain ⟨x8, hx8⟩ : ∃ x8, block[4 * t + i]? = some x8 := ⟨_, List.getElem?_eq_getElem (by omega)⟩
      rw [cells8_get, hx8] at hv
      obtain rfl : Value.int .u8 ((x8.toNat : Nat) : Int) = v := Option.some.inj hv
      refine ⟨by omega, by show _ < ((4 : Nat) : Int); omega, b, o + 4 * t, ?_, ((x8.toNat : Nat) : Int), ?_, by omega, by omega, u32 (be ((block.drop (4 * t)).take i)), ?_, by decide, by omega, by omega, ?_, 4 - (i + 1), by omega, i + 1, ?_, by omega, rfl, kS hs', hb1'.put_ne _ _ (Ne.symm hne), ?_⟩
      · have : (4 * (t : Int)).toNat = 4 * t := by omega
        unfold slA
        rw [if_neg (by omega), eb, Option.map_some, add_mk, this]; simp
      · have : ((i : Nat) : Int).toNat = i := by omega
        rw [this, Nat.mul_one, Nat.add_assoc]; exact hcell
      · have : 0 + ((t : Nat) : Int).toNat * 1 = t := by omega
        rw [this]
        refine hb2'.cell' t ?_
        rw [bigV_get, List.getElem?_set, if_pos rfl, pad64_length (by omega), if_pos (by omega)]; rfl
      · have : 0 + ((t : Nat) : Int).toNat * 1 = t := by omega
        rw [this]
        exact hb2'.store (by rw [bigV_length, List.length_set, pad64_length (by omega)]; omega)
      · rw [wid (by omega) (by omega)]; omega
      · have e : 0 + ((t : Nat) : Int).toNat * 1 = t := by omega
        rw [e, u8_u32, u32_shl _ _ (by decide) (by decide), u32_or]
        have e8 : (8 : Int).toNat = 8 := rfl
        rw [e8]
        have := hb2'.put t [.int .u32 (u32 (be ((block.drop (4 * t)).take i) <<< 8 ||| BitVec.ofNat 32 x8.toNat))]
        rw [bigV_set, List.set_set] at this
        have e2 : (block.drop (4 * t)).take i ++ [x8] = (block.drop (4 * t)).take (i + 1) := by
          rw [List.take_add_one, List.getElem?_drop, hx8]; rfl
        rw [← e2, be_snoc]
        exact this
    · have h3 : i = 4 := by
        have : ¬ (i : Int) < ((4 : Nat) : Int) := h3
        omega
      subst h3
      refine ⟨64 - (t + 1), by omega, t + 1, by rw [wid (by omega) (by omega)]; omega, by omega, rfl, hs', hb1', ?_⟩
      have hp := pad64_set (l := wL block t) (be ((block.drop (4 * t)).take 4)) (by omega)
      rw [hwl] at hp
      rw [hp] at hb2'
      have : wL block (t + 1) = wL block t ++ [be ((block.drop (4 * t)).take 4)] := by
        rw [wL, wNext, if_pos (by omega)]
      rw [this]; exact hb2'
  · -- the other words
    have w15 : IntKind.i64.wrap ((t : Int) - 15) = ((t - 15 : Nat) : Int) := by rw [wid (by omega) (by omega)]; omega
    have w2 : IntKind.i64.wrap ((t : Int) - 2) = ((t - 2 : Nat) : Int) := by rw [wid (by omega) (by omega)]; omega
    have w16 : IntKind.i64.wrap ((t : Int) - 16) = ((t - 16 : Nat) : Int) := by rw [wid (by omega) (by omega)]; omega
    have w7 : IntKind.i64.wrap ((t : Int) - 7) = ((t - 7 : Nat) : Int) := by rw [wid (by omega) (by omega)]; omega
    have rd : ∀ j : Nat, j < t → x.cell k2 (0 + ((j : Nat) : Int).toNat * 1) = some (.int .u32 (u32 ((wL block t).getD j 0))) := by
      intro j hj
      have : 0 + ((j : Nat) : Int).toNat * 1 = j := by omega
      rw [this]
      refine hb2.cell' j ?_
      rw [bigV_get, pad64_get (by omega)]; rfl
    have w1 : IntKind.i64.wrap ((t : Int) + 1) = ((t + 1 : Nat) : Int) := by rw [wid (by omega) (by omega)]; omega
    rw [w15, w2, w16, w7, w1]
    refine ⟨by omega, by omega, _, rd _ (by omega), by omega, by omega, _, rd _ (by omega), by omega, by omega, _, rd _ (by omega), by decide, ?_⟩
    refine turn_spec _ _ (by decide) (by decide) ⟨_, rfl, Sub.refl _, turn_spec _ _ (by decide) (by decide) ⟨_, rfl, Sub.refl _, ?_⟩⟩
    refine ⟨by omega, by omega, _, rd _ (by omega), by omega, by omega, _, rd _ (by omega), by omega, by omega, _, rd _ (by omega), by decide, ?_⟩
    refine turn_spec _ _ (by decide) (by decide) ⟨_, rfl, Sub.refl _, turn_spec _ _ (by decide) (by decide) ⟨_, rfl, Sub.refl _, ?_⟩⟩
    refine ⟨by omega, by omega, _, rd _ (by omega), by omega, by omega, _, rd _ (by omega), by omega, by omega, ?_⟩
    have e : 0 + ((t : Nat) : Int).toNat * 1 = t := by omega
    rw [e]
    refine ⟨hb2.store (by rw [bigV_length, pad64_length (by omega)]; omega), 64 - (t + 1), by omega, t + 1, rfl, by omega, rfl, kS hs, hb1.put_ne _ _ (Ne.symm hne), ?_⟩
    rw [u32_xor, u32_shr _ _ (by decide) (by decide), u32_xor, u32_xor, u32_shr _ _ (by decide) (by decide), u32_xor, u32_add, u32_add, u32_add]
    have := hb2.put t [.int .u32 (u32 (wNext (wL block t) block t))]
    rw [bigV_set] at this
    have hp := pad64_set (l := wL block t) (wNext (wL block t) block t) (by omega)
    rw [hwl] at hp
    rw [hp] at this
    rw [wL]
    have en := wNext_hi (w := wL block t) (block := block) (t := t) (by omega)
    rw [en] at this ⊢
    exact this
  · -- the rounds
    have ht : t = 64 := by omega
    subst ht
    refine ⟨u32 s.a, hb1.cell' 0 rfl, u32 s.b, hb1.cell' 1 rfl, u32 s.c, hb1.cell' 2 rfl, u32 s.d, hb1.cell' 3 rfl, u32 s.e, hb1.cell' 4 rfl, u32 s.f, hb1.cell' 5 rfl, u32 s.g, hb1.cell' 6 rfl, u32 s.h, hb1.cell' 7 rfl, ?_⟩
    refine ⟨fun a b c d e f g hh n y m => ∃ i : Nat, n = (i : Int) ∧ i ≤ 64 ∧ m = 64 - i ∧ y = x ∧ ∃ z : S8, z = rounds k (wL block 64) s i ∧ a = u32 z.a ∧ b = u32 z.b ∧ c = u32 z.c ∧ d = u32 z.d ∧ e = u32 z.e ∧ f = u32 z.f ∧ g = u32 z.g ∧ hh = u32 z.h,
      ⟨64, 0, rfl, by omega, rfl, rfl, s, rfl, rfl, rfl, rfl, rfl, rfl, rfl, rfl, rfl⟩, ?_⟩
    rintro _ _ _ _ _ _ _ _ n y m ⟨i, rfl, hi, rfl, rfl, z, hz, rfl, rfl, rfl, rfl, rfl, rfl, rfl, rfl⟩
    refine split_dec (fun h2 => ?_) (fun h2 => ?_)
    · have e : ((i : Nat) : Int).toNat * 1 = i := by omega
      rw [e, Nat.zero_add]
      have ck : y.cell kb (ko + i) = some (.int .u32 (u32 (k.getD i 0))) := by
        have := (hkc.sub hs) i (by rw [bigV_length, wI_length]; omega)
        rw [this, ← List.getElem?_eq_getElem, bigV_get, wI_get, getD_get (by omega)]; rfl
      have cw : y.cell k2 i = some (.int .u32 (u32 ((wL block 64).getD i 0))) := by
        refine hb2.cell' i ?_
        rw [bigV_get, pad64_get (by omega)]; rfl
      refine ⟨by omega, by omega, _, ck, by omega, by omega, _, cw, ?_⟩
      refine turn_spec _ _ (by decide) (by decide) ⟨_, rfl, Sub.refl _, turn_spec _ _ (by decide) (by decide) ⟨_, rfl, Sub.refl _, turn_spec _ _ (by decide) (by decide) ⟨_, rfl, Sub.refl _, ?_⟩⟩⟩
      refine turn_spec _ _ (by decide) (by decide) ⟨_, rfl, turn_spec _ _ (by decide) (by decide) ⟨_, rfl, turn_spec _ _ (by decide) (by decide) ⟨_, rfl, ?_⟩⟩⟩
      have w1 : IntKind.i64.wrap ((i : Int) + 1) = ((i + 1 : Nat) : Int) := by rw [wid (by omega) (by omega)]; omega
      simp only [u32_xor, u32_and, u32_not, u32_add, w1]
      refine ⟨64 - (i + 1), by omega, i + 1, rfl, by omega, rfl, trivial, rnd (k.getD i 0) ((wL block 64).getD i 0) z, by rw [hz]; rfl, rfl, rfl, rfl, rfl, rfl, rfl, rfl, rfl⟩
    · have hi : i = 64 := by omega
      subst hi
      have hzl : ∀ j, j < 8 → (S8.list (s.add z))[j]? = some ((s.add z).list.getD j 0) := fun j hj => getD_get hj
      refine ⟨fun n y m => ∃ j : Nat, n = (j : Int) ∧ j ≤ 8 ∧ m = 8 - j ∧ Sub h y ∧ Blk y k1 99 (bigV .u32 (wI ((s.add z).list.take j ++ s.list.drop j))), ⟨8, 0, rfl, by omega, rfl, hs, hb1⟩, ?_⟩
      rintro n w m ⟨j, rfl, hj, rfl, hsw, hbw⟩
      refine split_dec (fun h3 => ?_) (fun h3 => ?_)
      · have hj8 : j < 8 := by omega
        have e : ((j : Nat) : Int).toNat * 1 = j := by omega
        rw [e, Nat.zero_add]
        have w1 : IntKind.i64.wrap ((j : Int) + 1) = ((j + 1 : Nat) : Int) := by rw [wid (by omega) (by omega)]; omega
        have z1 : (bigV .u32 (wI z.list))[j]? = some (.int .u32 (u32 (z.list.getD j 0))) := by rw [bigV_get, wI_get, getD_get hj8]; rfl
        have s1 : w.cell k1 j = some (.int .u32 (u32 (s.list.getD j 0))) := by
          refine hbw.cell' j ?_
          rw [bigV_get, wI_get, List.getElem?_append_right (by simp; omega)]
          have : ((s.add z).list.take j).length = j := by simp [S8.list]; omega
          rw [this, Nat.sub_self, List.getElem?_drop, Nat.add_zero, getD_get hj8]; rfl
        rw [w1]
        refine ⟨by omega, by omega, _, z1, by omega, by omega, _, s1, by omega, by omega, ?_, 8 - (j + 1), by omega, j + 1, rfl, by omega, rfl, kS1 hsw, ?_⟩
        · refine hbw.store ?_
          rw [bigV_length, wI_length]
          simp [S8.list]; omega
        · have := hbw.put j [.int .u32 (u32 ((s.add z).list.getD j 0))]
          rw [bigV_set, step_set (by rfl) hj8 (hzl j hj8)] at this
          have ea : (s.add z).list.getD j 0 = s.list.getD j 0 + z.list.getD j 0 := by
            have : j = 0 ∨ j = 1 ∨ j = 2 ∨ j = 3 ∨ j = 4 ∨ j = 5 ∨ j = 6 ∨ j = 7 := by omega
            rcases this with rfl | rfl | rfl | rfl | rfl | rfl | rfl | rfl <;> rfl
          rw [u32_add, ← ea]
          exact this
      · have hj : j = 8 := by omega
        subst hj
        have hbw : Blk w k1 99 (bigV .u32 (wI (s.add z).list)) := hbw
        refine ⟨_, hbw.cell' 0 rfl, _, hbw.cell' 1 rfl, _, hbw.cell' 2 rfl, _, hbw.cell' 3 rfl, _, hbw.cell' 4 rfl, _, hbw.cell' 5 rfl, _, hbw.cell' 6 rfl, _, hbw.cell' 7 rfl, ?_⟩
        have := hK w hsw
        unfold mixF at this
        rw [← hz] at this
        exact this
end Go.Proofs.Ytpokejaglmkphaa
