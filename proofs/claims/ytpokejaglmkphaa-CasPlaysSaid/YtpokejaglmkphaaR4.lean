/- The document's own digest: padding and mixing. Conditions: the lengths that each contract names. -/
import Derived.Test.YtpokejaglmkphaaR3
import Derived.KernelRfl
namespace Go.Proofs.Ytpokejaglmkphaa
open Go.Gx
set_option maxRecDepth 100000
set_option linter.unusedVariables false
def ofL (l : List UInt8) : ByteArray := ⟨l.toArray⟩
theorem ofL_append (l m : List UInt8) : ofL l ++ ofL m = ofL (l ++ m) := by
  apply ByteArray.ext
  rw [ByteArray.data_append]
  simp [ofL]
theorem ofL_size (l : List UInt8) : (ofL l).size = l.length := by show l.toArray.size = _; simp
theorem ofL_data (b : ByteArray) : ofL b.data.toList = b := by apply ByteArray.ext; simp [ofL]
theorem padR_spec (n : Nat) (hn : n < 1152921504606846976) {h : Hp} {K : Value → Hp → Prop} (hK : ∀ h', Sub h h' → K (.string (ofL (padB n))) h') : CallsH Try.prog ref02_Pad.id #[.int .i64 n] h K := by
  apply ref02_Pad.calls
  unfold ref02_Pad.W
  refine split_dec (fun h1 => by omega) (fun _ => ?_)
  have hz : padZ n < 64 := by unfold padZ; omega
  refine ⟨fun s x m => x = h ∧ ∃ j : Nat, j ≤ padZ n ∧ m = padZ n - j ∧ s = ofL (128 :: List.replicate j 0), ⟨_, rfl, 0, by omega, rfl, rfl⟩, ?_⟩
  rintro s x m ⟨rfl, j, hj, rfl, rfl⟩
  have hsz : (ofL (128 :: List.replicate j 0)).size = j + 1 := by rw [ofL_size]; simp
  have e64 : ((n : Nat) : Int).tmod 64 = ((n % 64 : Nat) : Int) := tmodN n 64
  have eo : Int.ofNat (ofL (128 :: List.replicate j 0)).size = ((j + 1 : Nat) : Int) := by rw [hsz]; rfl
  have ez : (bytesL [0]).size = 1 := by rfl
  rw [e64, eo, hsz, ez, wid (x := ((n % 64 : Nat) : Int) + ((j + 1 : Nat) : Int)) (by omega) (by omega)]
  have e64' : (((n % 64 : Nat) : Int) + ((j + 1 : Nat) : Int)).tmod 64 = (((n % 64 + (j + 1)) % 64 : Nat) : Int) := by rw [← Int.natCast_add]; exact tmodN _ 64
  rw [e64']
  refine ⟨by decide, by decide, split_ne (fun h1 => ?_) (fun h1 => ?_)⟩
  · have hjz : j ≠ padZ n := by unfold padZ at *; omega
    refine ⟨by omega, padZ n - (j + 1), by omega, rfl, j + 1, by omega, rfl, ?_⟩
    rw [show bytesL [0] = ofL [0] from rfl, ofL_append, List.replicate_succ']; rfl
  · have hjz : j = padZ n := by unfold padZ at *; omega
    subst hjz
    have hm0 : IntKind.u64.wrap (IntKind.u64.wrap (n : Int) * 8) = ((n * 8 : Nat) : Int) := by
      rw [wrapN (by omega), wrap64]; omega
    have hbl : (be8 (n * 8) 8).length = 8 := by simp [be8]
    refine ⟨fun v s i y m => ∃ t : Nat, i = (t : Int) ∧ t ≤ 8 ∧ m = 8 - t ∧ Sub x y ∧ v = ((n * 8 / 2 ^ (8 * t) : Nat) : Int) ∧ s = ofL ((be8 (n * 8) 8).drop (8 - t)), ⟨8, 0, rfl, by omega, rfl, Sub.refl _, ?_, ?_⟩, ?_⟩
    · rw [hm0]; simp
    · rw [List.drop_eq_nil_of_le (by rw [hbl]; decide)]; rfl
    rintro v s i y m ⟨t, rfl, ht, rfl, sy, rfl, rfl⟩
    have hds : (ofL ((be8 (n * 8) 8).drop (8 - t))).size = t := by rw [ofL_size, List.length_drop, hbl]; omega
    refine split_dec (fun h2 => ?_) (fun h2 => ?_)
    · have ht8 : t < 8 := by omega
      refine ⟨by decide, fun k hk => ⟨ofL [UInt8.ofNat (n * 8 / 2 ^ (8 * t))], ?_, ?_, by decide, 8 - (t + 1), by omega, t + 1, by rw [wid (by omega) (by omega)]; omega, by omega, rfl, sy.trans (Sub.upd hk _), ?_, ?_⟩⟩
      · have hv : IntKind.u8.wrap (((n * 8 / 2 ^ (8 * t) : Nat) : Int).tmod 256) = (((UInt8.ofNat (n * 8 / 2 ^ (8 * t))).toNat : Nat) : Int) := by
          rw [u8_ofNat, show ((n * 8 / 2 ^ (8 * t) : Nat) : Int).tmod 256 = ((n * 8 / 2 ^ (8 * t) % 256 : Nat) : Int) from tmodN _ 256, wrap8]; omega
        rw [hv]
        exact (Blk.new _ _ _ (cells8 [UInt8.ofNat (n * 8 / 2 ^ (8 * t))])).slice rfl
      · rw [hds, ofL_size]
        show 1 + t ≤ _
        omega
      · rw [show ((n * 8 / 2 ^ (8 * t) : Nat) : Int).tdiv 256 = ((n * 8 / 2 ^ (8 * t) / 256 : Nat) : Int) from tdivN _ 256, Nat.div_div_eq_div_mul]
        have e : 2 ^ (8 * t) * 256 = 2 ^ (8 * (t + 1)) := by rw [Nat.mul_add, Nat.pow_add]
        have hle : n * 8 / 2 ^ (8 * (t + 1)) ≤ n * 8 := Nat.div_le_self _ _
        rw [e, wrapN (by omega)]
      · rw [ofL_append]
        have e : 8 - t = 8 - (t + 1) + 1 := by omega
        rw [e, List.drop_eq_getElem_cons (i := 8 - (t + 1)) (by rw [hbl]; omega)]
        congr 1
        rw [List.singleton_append]
        congr 1
        unfold be8
        rw [List.getElem_map, List.getElem_range]
        congr 3; omega
    · have ht : t = 8 := by omega
      subst ht
      rw [hds]
      refine ⟨by omega, ?_⟩
      rw [ofL_append]
      exact hK y sy

/-! ### mixing -/
theorem be_step (l : List UInt8) (x : UInt8) (hl : (be l).toNat < 16777216) : (be (l ++ [x])).toNat = (be l).toNat * 256 + x.toNat := by
  rw [be_snoc, BitVec.toNat_or, BitVec.toNat_shiftLeft, BitVec.toNat_ofNat, Nat.shiftLeft_eq]
  have hx := x.toNat_lt
  have e1 : (be l).toNat * 2 ^ 8 % 2 ^ 32 = 2 ^ 8 * (be l).toNat := by rw [Nat.mod_eq_of_lt (by omega), Nat.mul_comm]
  have e2 : x.toNat % 2 ^ 32 = x.toNat := Nat.mod_eq_of_lt (by omega)
  rw [e1, e2, ← Nat.two_pow_add_eq_or_of_lt (by omega)]; omega
theorem be_four (a b c d : UInt8) : u32 (be [a, b, c, d]) = (a.toNat : Int) * 16777216 + (b.toNat : Int) * 65536 + (c.toNat : Int) * 256 + (d.toNat : Int) := by
  have ha := a.toNat_lt
  have hb := b.toNat_lt
  have hc := c.toNat_lt
  have e1 := be_step [] a (by decide)
  have e0 : (be []).toNat = 0 := rfl
  have e2 := be_step [a] b (by rw [List.nil_append] at e1; omega)
  rw [List.nil_append] at e1
  have e3 := be_step [a, b] c (by rw [show [a] ++ [b] = [a, b] from rfl] at e2; omega)
  rw [show [a] ++ [b] = [a, b] from rfl] at e2
  have e4 := be_step [a, b, c] d (by rw [show [a, b] ++ [c] = [a, b, c] from rfl] at e3; omega)
  rw [show [a, b] ++ [c] = [a, b, c] from rfl] at e3
  rw [show [a, b, c] ++ [d] = [a, b, c, d] from rfl] at e4
  unfold u32
  omega
theorem u32_sub (x : BitVec 32) : IntKind.u32.wrap (4294967295 - u32 x) = u32 (~~~ x) := by
  have := u32_lt x
  have h0 := u32_nonneg x
  rw [wrap32]
  unfold u32 at *
  rw [BitVec.toNat_not]; omega
structure MixI (h y : Hp) (k1 k2 k3 : Nat) (k : List (BitVec 32)) (s : S8) (w : List Int) : Prop where
  sub : Sub h y
  b1 : Blk y k1 97 (bigV .u32 (wI k))
  b2 : Blk y k2 99 (bigV .u32 (wI s.list))
  b3 : Blk y k3 97 (bigV .u32 w)
theorem byteAt_get {b : ByteArray} {i : Nat} {x : UInt8} (h : b.data.toList[i]? = some x) : byteAt b i = (x.toNat : Int) := by unfold byteAt; rw [h]; rfl
theorem mixR_spec {k : List (BitVec 32)} (hk : k.length = 64) {s : S8} {block : ByteArray} (hbl : block.data.toList.length = 64) {h : Hp} {K : Value → Hp → Prop}
    (hK : ∀ h', Sub h h' → K (mixF k s block.data.toList).val h') :
    CallsH Try.prog ref02_Mix.id #[.agg (bigV .u32 (wI k)).toArray, s.val, .string block] h K := by
  apply ref02_Mix.calls
  unfold ref02_Mix.W
  intro k1 hk1 k2 hk2 k3 hk3
  have hbs : block.size = 64 := by rw [← hbl, Array.length_toList]; rfl
  have n21 : k2 ≠ k1 := fun e => by subst e; rw [Hp.upd_same] at hk2; cases hk2
  have n32 : k3 ≠ k2 := fun e => by subst e; rw [Hp.upd_same] at hk3; cases hk3
  have n31 : k3 ≠ k1 := fun e => by subst e; rw [Hp.upd_ne _ _ n21.symm, Hp.upd_same] at hk3; cases hk3
  have s1 := Sub.upd hk1 (.cells (bigV .u32 (wI k)).toArray 97 (0, 0))
  have s2 := Sub.upd hk2 (.cells #[.int .u32 (u32 s.a), .int .u32 (u32 s.b), .int .u32 (u32 s.c), .int .u32 (u32 s.d), .int .u32 (u32 s.e), .int .u32 (u32 s.f), .int .u32 (u32 s.g), .int .u32 (u32 s.h)] 99 (0, 0))
  have f2 : h k2 = none := s1.none hk2
  have f3 : h k3 = none := (s1.trans s2).none hk3
  have I0 : MixI h (((h.upd k1 (.cells (bigV .u32 (wI k)).toArray 97 (0, 0))).upd k2 (.cells #[.int .u32 (u32 s.a), .int .u32 (u32 s.b), .int .u32 (u32 s.c), .int .u32 (u32 s.d), .int .u32 (u32 s.e), .int .u32 (u32 s.f), .int .u32 (u32 s.g), .int .u32 (u32 s.h)] 99 (0, 0))).upd k3 (.cells (bigV .u32 (pad64 [])).toArray 97 (0, 0))) k1 k2 k3 k s (pad64 []) :=
    ⟨(s1.trans s2).trans (Sub.upd hk3 _), ((Blk.new _ _ _ _).upd hk2 _).upd hk3 _, (Blk.new _ _ _ (bigV .u32 (wI s.list))).upd hk3 _, Blk.new _ _ _ _⟩
  -- a word that is written
  have put : ∀ {x : Hp} {t : Nat}, t < 64 → MixI h x k1 k2 k3 k s (pad64 (wL block.data.toList t)) → ∀ v, v = wNext (wL block.data.toList t) block.data.toList t → MixI h (x.put k3 (0 + ((t : Nat) : Int).toNat * 1) [.int .u32 (u32 v)]) k1 k2 k3 k s (pad64 (wL block.data.toList (t + 1))) := by
    intro x t ht I v hv
    have e : 0 + ((t : Nat) : Int).toNat * 1 = t := by omega
    have hwl := wL_length block.data.toList t
    rw [e]
    refine ⟨(Keep.put (fun c => c = k3) _ _ _ rfl).sub I.sub fun c hc => by rw [hc]; exact f3, I.b1.put_ne _ _ n31.symm, I.b2.put_ne _ _ n32.symm, ?_⟩
    have := I.b3.put t [.int .u32 (u32 v)]
    rw [bigV_set] at this
    have hp := pad64_set (l := wL block.data.toList t) v (by omega)
    rw [hwl] at hp
    rw [hp] at this
    rw [wL, ← hv]; exact this
  have st3 : ∀ {x : Hp} {t : Nat}, t < 64 → MixI h x k1 k2 k3 k s (pad64 (wL block.data.toList t)) → StoreOk x k3 (0 + ((t : Nat) : Int).toNat * 1) 1 := by
    intro x t ht I
    have e : 0 + ((t : Nat) : Int).toNat * 1 = t := by omega
    rw [e]
    exact I.b3.store (by rw [bigV_length, pad64_length (by rw [wL_length]; omega)]; omega)
  refine ⟨fun n x m => ∃ t : Nat, n = (t : Int) ∧ t ≤ 16 ∧ m = 16 - t ∧ MixI h x k1 k2 k3 k s (pad64 (wL block.data.toList t)), ⟨16, 0, rfl, by omega, rfl, I0⟩, ?_⟩
  rintro n x m ⟨t, rfl, ht, rfl, I⟩
  refine split_dec (fun h1 => ?_) (fun h1 => ?_)
  · have ht : t < 16 := by omega
    have w4 : IntKind.i64.wrap (4 * (t : Int)) = 4 * (t : Int) := wid (by omega) (by omega)
    have w41 : IntKind.i64.wrap (4 * (t : Int) + 1) = 4 * (t : Int) + 1 := wid (by omega) (by omega)
    have w42 : IntKind.i64.wrap (4 * (t : Int) + 2) = 4 * (t : Int) + 2 := wid (by omega) (by omega)
    have w43 : IntKind.i64.wrap (4 * (t : Int) + 3) = 4 * (t : Int) + 3 := wid (by omega) (by omega)
    rw [w4, w41, w42, w43, hbs]
    have hb64 : Int.ofNat 64 = 64 := rfl
    rw [hb64]
    obtain ⟨x0, hx0⟩ : ∃ q, block.data.toList[4 * t]? = some q := ⟨_, List.getElem?_eq_getElem (by omega)⟩
    obtain ⟨x1, hx1⟩ : ∃ q, block.data.toList[4 * t + 1]? = some q := ⟨_, List.getElem?_eq_getElem (by omega)⟩
    obtain ⟨x2, hx2⟩ : ∃ q, block.data.toList[4 * t + 2]? = some q := ⟨_, List.getElem?_eq_getElem (by omega)⟩
    obtain ⟨x3, hx3⟩ : ∃ q, block.data.toList[4 * t + 3]? = some q := ⟨_, List.getElem?_eq_getElem (by omega)⟩
    have e0 : (4 * (t : Int)).toNat = 4 * t := by omega
    have e1 : (4 * (t : Int) + 1).toNat = 4 * t + 1 := by omega
    have e2 : (4 * (t : Int) + 2).toNat = 4 * t + 2 := by omega
    have e3 : (4 * (t : Int) + 3).toNat = 4 * t + 3 := by omega
    rw [e0, e1, e2, e3, byteAt_get hx0, byteAt_get hx1, byteAt_get hx2, byteAt_get hx3]
    have hd : (block.data.toList.drop (4 * t)).take 4 = [x0, x1, x2, x3] := by
      apply List.ext_getElem?
      intro i
      rw [List.getElem?_take]
      by_cases hi : i < 4
      · rw [if_pos hi, List.getElem?_drop]
        have : i = 0 ∨ i = 1 ∨ i = 2 ∨ i = 3 := by omega
        rcases this with rfl | rfl | rfl | rfl
        · exact hx0
        · exact hx1
        · exact hx2
        · exact hx3
      · rw [if_neg hi, List.getElem?_eq_none (by simp; omega)]
    have hv : wNext (wL block.data.toList t) block.data.toList t = be [x0, x1, x2, x3] := by rw [wNext, if_pos ht, hd]
    have l0 := x0.toNat_lt
    have l1 := x1.toNat_lt
    have l2 := x2.toNat_lt
    have l3 := x3.toNat_lt
    have hval : IntKind.u32.wrap (IntKind.u32.wrap (IntKind.u32.wrap (IntKind.u32.wrap (IntKind.u32.wrap (x0.toNat : Int) * 16777216) + IntKind.u32.wrap (IntKind.u32.wrap (x1.toNat : Int) * 65536)) + IntKind.u32.wrap (IntKind.u32.wrap (x2.toNat : Int) * 256)) + IntKind.u32.wrap (x3.toNat : Int)) = u32 (be [x0, x1, x2, x3]) := by
      rw [be_four]
      simp only [wrap32]
      omega
    rw [hval]
    refine ⟨by omega, by omega, by omega, by omega, by omega, by omega, by omega, by omega, by omega, by omega, st3 (by omega) I, 16 - (t + 1), by omega, t + 1, by rw [wid (by omega) (by omega)]; omega, by omega, rfl, put (by omega) I _ hv.symm⟩
  · have ht : t = 16 := by omega
    subst ht
    refine ⟨fun n x m => ∃ t : Nat, n = (t : Int) ∧ 16 ≤ t ∧ t ≤ 64 ∧ m = 64 - t ∧ MixI h x k1 k2 k3 k s (pad64 (wL block.data.toList t)), ⟨_, 16, rfl, by omega, by omega, rfl, I⟩, ?_⟩
    clear I
    rintro n x m ⟨t, rfl, ht16, ht, rfl, I⟩
    have hwl := wL_length block.data.toList t
    refine split_dec (fun h2 => ?_) (fun h2 => ?_)
    · have w15 : IntKind.i64.wrap ((t : Int) - 15) = ((t - 15 : Nat) : Int) := by rw [wid (by omega) (by omega)]; omega
      have w2 : IntKind.i64.wrap ((t : Int) - 2) = ((t - 2 : Nat) : Int) := by rw [wid (by omega) (by omega)]; omega
      have w16 : IntKind.i64.wrap ((t : Int) - 16) = ((t - 16 : Nat) : Int) := by rw [wid (by omega) (by omega)]; omega
      have w7 : IntKind.i64.wrap ((t : Int) - 7) = ((t - 7 : Nat) : Int) := by rw [wid (by omega) (by omega)]; omega
      have rd : ∀ j : Nat, j < t → x.cell k3 (0 + ((j : Nat) : Int).toNat * 1) = some (.int .u32 (u32 ((wL block.data.toList t).getD j 0))) := by
        intro j hj
        have : 0 + ((j : Nat) : Int).toNat * 1 = j := by omega
        rw [this]
        refine I.b3.cell' j ?_
        rw [bigV_get, pad64_get (by omega)]; rfl
      have w1 : IntKind.i64.wrap ((t : Int) + 1) = ((t + 1 : Nat) : Int) := by rw [wid (by omega) (by omega)]; omega
      rw [w15, w2, w16, w7, w1]
      refine ⟨by omega, by omega, _, rd _ (by omega), by omega, by omega, _, rd _ (by omega), by omega, by omega, _, rd _ (by omega), by decide, ?_⟩
      refine turnR_spec _ _ (by decide) (by decide) ⟨_, rfl, Sub.refl _, turnR_spec _ _ (by decide) (by decide) ⟨_, rfl, Sub.refl _, ?_⟩⟩
      refine ⟨by omega, by omega, _, rd _ (by omega), by omega, by omega, _, rd _ (by omega), by omega, by omega, _, rd _ (by omega), by decide, ?_⟩
      refine turnR_spec _ _ (by decide) (by decide) ⟨_, rfl, Sub.refl _, turnR_spec _ _ (by decide) (by decide) ⟨_, rfl, Sub.refl _, ?_⟩⟩
      refine ⟨by omega, by omega, _, rd _ (by omega), by omega, by omega, _, rd _ (by omega), by omega, by omega, st3 (by omega) I, 64 - (t + 1), by omega, t + 1, rfl, by omega, by omega, rfl, ?_⟩
      rw [u32_xor, u32_shr _ _ (by decide) (by decide), u32_xor, u32_xor, u32_shr _ _ (by decide) (by decide), u32_xor, u32_add, u32_add, u32_add]
      exact put (by omega) I _ (wNext_hi (by omega)).symm
    · have ht : t = 64 := by omega
      subst ht
      refine ⟨_, I.b2.cell' 0 rfl, _, I.b2.cell' 1 rfl, _, I.b2.cell' 2 rfl, _, I.b2.cell' 3 rfl, _, I.b2.cell' 4 rfl, _, I.b2.cell' 5 rfl, _, I.b2.cell' 6 rfl, _, I.b2.cell' 7 rfl, fun k4 hk4 => ?_⟩
      have N4 : Blk (x.upd k4 (.cells #[.int .u32 0, .int .u32 0, .int .u32 0, .int .u32 0, .int .u32 0, .int .u32 0, .int .u32 0, .int .u32 0] 99 (0, 0))) k4 99 (bigV .u32 (List.replicate 8 0)) := Blk.new _ _ _ _
      have f4 : h k4 = none := I.sub.none hk4
      have n41 : k4 ≠ k1 := fun e => by rw [e, I.b1.get] at hk4; cases hk4
      have n42 : k4 ≠ k2 := fun e => by rw [e, I.b2.get] at hk4; cases hk4
      have n43 : k4 ≠ k3 := fun e => by rw [e, I.b3.get] at hk4; cases hk4
      generalize hw : pad64 (wL block.data.toList 64) = w at I
      refine ⟨N4.store (by rw [bigV_length]; decide), fun n y m => ∃ i : Nat, n = (i : Int) ∧ i ≤ 64 ∧ m = 64 - i ∧ MixI h y k1 k2 k3 k s w ∧ Blk y k4 99 (bigV .u32 (wI (rounds k (wL block.data.toList 64) s i).list)), ⟨64, 0, rfl, by omega, rfl, ?_, ?_⟩, ?_⟩
      · exact ⟨(Keep.put (fun c => c = k4) _ _ _ rfl).sub (I.sub.trans (Sub.upd hk4 _)) fun c hc => by rw [hc]; exact f4, (I.b1.upd hk4 _).put_ne _ _ n41.symm, (I.b2.upd hk4 _).put_ne _ _ n42.symm, (I.b3.upd hk4 _).put_ne _ _ n43.symm⟩
      · have := N4.put 0 (bigV .u32 (wI s.list))
        rw [setL_all (by rw [bigV_length, bigV_length]; rfl)] at this
        exact this
      rintro n y m ⟨i, rfl, hi, rfl, Iy, B4⟩
      generalize hz : rounds k (wL block.data.toList 64) s i = z at B4
      refine split_dec (fun h3 => ?_) (fun h3 => ?_)
      · have hi : i < 64 := by omega
        have e : 0 + ((i : Nat) : Int).toNat * 1 = i := by omega
        rw [e]
        have ck : y.cell k1 i = some (.int .u32 (u32 (k.getD i 0))) := by
          refine Iy.b1.cell' i ?_
          rw [bigV_get, wI_get, getD_get (by omega)]; rfl
        have cw : y.cell k3 i = some (.int .u32 (u32 ((wL block.data.toList 64).getD i 0))) := by
          refine Iy.b3.cell' i ?_
          rw [← hw, bigV_get, pad64_get (by rw [wL_length]; exact hi)]; rfl
        refine ⟨_, B4.cell' 7 rfl, _, B4.cell' 4 rfl, _, B4.cell' 4 rfl, _, B4.cell' 4 rfl, _, B4.cell' 4 rfl, _, B4.cell' 5 rfl, _, B4.cell' 4 rfl, _, B4.cell' 6 rfl, by omega, by omega, _, ck, by omega, by omega, _, cw, ?_⟩
        refine turnR_spec _ _ (by decide) (by decide) ⟨_, rfl, Sub.refl _, turnR_spec _ _ (by decide) (by decide) ⟨_, rfl, Sub.refl _, turnR_spec _ _ (by decide) (by decide) ⟨_, rfl, Sub.refl _, ?_⟩⟩⟩
        refine ⟨_, B4.cell' 0 rfl, _, B4.cell' 0 rfl, _, B4.cell' 0 rfl, _, B4.cell' 0 rfl, _, B4.cell' 1 rfl, _, B4.cell' 0 rfl, _, B4.cell' 2 rfl, _, B4.cell' 1 rfl, _, B4.cell' 2 rfl, ?_⟩
        refine turnR_spec _ _ (by decide) (by decide) ⟨_, rfl, Sub.refl _, turnR_spec _ _ (by decide) (by decide) ⟨_, rfl, Sub.refl _, turnR_spec _ _ (by decide) (by decide) ⟨_, rfl, Sub.refl _, ?_⟩⟩⟩
        have w1 : IntKind.i64.wrap ((i : Int) + 1) = ((i + 1 : Nat) : Int) := by rw [wid (by omega) (by omega)]; omega
        simp only [u32_xor, u32_and, u32_sub, u32_add, w1]
        refine ⟨_, B4.cell' 0 rfl, _, B4.cell' 1 rfl, _, B4.cell' 2 rfl, _, B4.cell' 3 rfl, _, B4.cell' 4 rfl, _, B4.cell' 5 rfl, _, B4.cell' 6 rfl, B4.store (by rw [bigV_length, wI_length, S8.list_len]; decide), 64 - (i + 1), by omega, i + 1, rfl, by omega, rfl, ?_, ?_⟩
        · exact ⟨(Keep.put (fun c => c = k4) _ _ _ rfl).sub Iy.sub fun c hc => by rw [hc]; exact f4, Iy.b1.put_ne _ _ n41.symm, Iy.b2.put_ne _ _ n42.symm, Iy.b3.put_ne _ _ n43.symm⟩
        · have := B4.put 0 (bigV .u32 (wI (rnd (k.getD i 0) ((wL block.data.toList 64).getD i 0) z).list))
          rw [setL_all (by rw [bigV_length, bigV_length, wI_length, wI_length, S8.list_len, S8.list_len])] at this
          simp only [u32_add]
          rw [rounds, hz]
          exact this
      · have hi : i = 64 := by omega
        subst hi
        have hzl : ∀ j, j < 8 → (S8.list (s.add z))[j]? = some ((s.add z).list.getD j 0) := fun j hj => getD_get hj
        refine ⟨fun n u m => ∃ j : Nat, n = (j : Int) ∧ j ≤ 8 ∧ m = 8 - j ∧ Sub h u ∧ Blk u k4 99 (bigV .u32 (wI z.list)) ∧ Blk u k2 99 (bigV .u32 (wI ((s.add z).list.take j ++ s.list.drop j))), ⟨8, 0, rfl, by omega, rfl, Iy.sub, B4, Iy.b2⟩, ?_⟩
        rintro n u m ⟨j, rfl, hj, rfl, hsu, b4, b2⟩
        refine split_dec (fun h5 => ?_) (fun h5 => ?_)
        · have hj8 : j < 8 := by omega
          have e : 0 + ((j : Nat) : Int).toNat * 1 = j := by omega
          rw [e]
          have w1 : IntKind.i64.wrap ((j : Int) + 1) = ((j + 1 : Nat) : Int) := by rw [wid (by omega) (by omega)]; omega
          have z1 : u.cell k4 j = some (.int .u32 (u32 (z.list.getD j 0))) := by
            refine b4.cell' j ?_
            rw [bigV_get, wI_get, getD_get hj8]; rfl
          have c1 : u.cell k2 j = some (.int .u32 (u32 (s.list.getD j 0))) := by
            refine b2.cell' j ?_
            rw [bigV_get, wI_get, List.getElem?_append_right (by simp; omega)]
            have : ((s.add z).list.take j).length = j := by simp [S8.list]; omega
            rw [this, Nat.sub_self, List.getElem?_drop, Nat.add_zero, getD_get hj8]; rfl
          rw [w1]
          refine ⟨by omega, by omega, _, c1, by omega, by omega, _, z1, by omega, by omega, ?_, 8 - (j + 1), by omega, j + 1, rfl, by omega, rfl, ?_, b4.put_ne _ _ n42, ?_⟩
          · refine b2.store ?_
            rw [bigV_length, wI_length]
            simp [S8.list]; omega
          · exact (Keep.put (fun c => c = k2) _ _ _ rfl).sub hsu fun c hc => by rw [hc]; exact f2
          · have := b2.put j [.int .u32 (u32 ((s.add z).list.getD j 0))]
            rw [bigV_set, step_set (by rfl) hj8 (hzl j hj8)] at this
            have ea : (s.add z).list.getD j 0 = s.list.getD j 0 + z.list.getD j 0 := by
              have : j = 0 ∨ j = 1 ∨ j = 2 ∨ j = 3 ∨ j = 4 ∨ j = 5 ∨ j = 6 ∨ j = 7 := by omega
              rcases this with rfl | rfl | rfl | rfl | rfl | rfl | rfl | rfl <;> rfl
            rw [u32_add, ← ea]
            exact this
        · have hj : j = 8 := by omega
          subst hj
          have b2 : Blk u k2 99 (bigV .u32 (wI (s.add z).list)) := b2
          refine ⟨_, b2.cell' 0 rfl, _, b2.cell' 1 rfl, _, b2.cell' 2 rfl, _, b2.cell' 3 rfl, _, b2.cell' 4 rfl, _, b2.cell' 5 rfl, _, b2.cell' 6 rfl, _, b2.cell' 7 rfl, ?_⟩
          have := hK u hsu
          unfold mixF at this
          rw [hz] at this
          exact this
end Go.Proofs.Ytpokejaglmkphaa
