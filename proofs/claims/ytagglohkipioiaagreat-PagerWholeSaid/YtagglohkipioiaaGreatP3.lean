/- Reading a pager's head. Conditions: 1024 bytes, at most 128 pages. -/
import Derived.Test.YtagglohkipioiaaGreatP1
namespace Go.Proofs.YtagglohkipioiaaGreat
open Go.Gx
set_option maxRecDepth 100000
set_option linter.unusedVariables false

theorem setL_all {vs us : List Value} (h : us.length = vs.length) : setL vs 0 us = us := by
  have := @setL_append [] vs us 0 rfl (by omega)
  rw [List.nil_append, List.nil_append, List.drop_eq_nil_of_le (by omega), List.append_nil] at this
  exact this
def upR (r : Nat → Nat) (k v : Nat) : Nat → Nat := fun i => if i = k then v else r i
def upU (u : Nat → Bool) (k : Nat) (v : Bool) : Nat → Bool := fun i => if i = k then v else u i
theorem rootV_set {r : Nat → Nat} {k v : Nat} : setL (rootV r) k [.int .i64 ((v : Nat) : Int)] = rootV (upR r k v) := by
  refine List.ext_getElem? fun i => ?_
  rw [setL_get]
  by_cases hi : i < 4
  · rw [rootV_get hi, rootV_get hi]
    unfold upR
    by_cases e : i = k
    · rw [if_pos ⟨e, by rw [rootV_len]; omega⟩, if_pos e]
    · rw [if_neg fun h => e h.1, if_neg e]
  · rw [if_neg (fun h => by have := h.2; rw [rootV_len] at this; omega), List.getElem?_eq_none (by rw [rootV_len]; omega), List.getElem?_eq_none (by rw [rootV_len]; omega)]
theorem usedV_set {u : Nat → Bool} {k : Nat} {v : Bool} : setL (usedV u) k [.bool v] = usedV (upU u k v) := by
  refine List.ext_getElem? fun i => ?_
  rw [setL_get]
  by_cases hi : i < 128
  · rw [usedV_get hi, usedV_get hi]
    unfold upU
    by_cases e : i = k
    · rw [if_pos ⟨e, by rw [usedV_len]; omega⟩, if_pos e]
    · rw [if_neg fun h => e h.1, if_neg e]
  · rw [if_neg (fun h => by have := h.2; rw [usedV_len] at this; omega), List.getElem?_eq_none (by rw [usedV_len]; omega), List.getElem?_eq_none (by rw [usedV_len]; omega)]
theorem headC_setS (s s' : Nat) (r : Nat → Nat) (u : Nat → Bool) : setL (headC s r u) 0 [.int .u64 (s' : Nat)] = headC s' r u := rfl
theorem headC_setR (s : Nat) (r : Nat → Nat) (u : Nat → Bool) {k : Nat} (v : Nat) (hk : k < 4) : setL (headC s r u) (1 + k) [.int .i64 (v : Nat)] = headC s (upR r k v) u := by
  show setL ([.int .u64 (s : Nat)] ++ (rootV r ++ usedV u)) ([Value.int .u64 (s : Nat)].length + k) _ = [.int .u64 (s : Nat)] ++ (rootV (upR r k v) ++ usedV u)
  rw [setL_right, setL_left _ _ _ _ (by rw [rootV_len]; show k + 1 ≤ 4; omega), rootV_set]
theorem headC_setU (s : Nat) (r : Nat → Nat) (u : Nat → Bool) (k : Nat) (v : Bool) : setL (headC s r u) (5 + k) [.bool v] = headC s r (upU u k v) := by
  show setL ([.int .u64 (s : Nat)] ++ (rootV r ++ usedV u)) (5 + k) _ = [.int .u64 (s : Nat)] ++ (rootV r ++ usedV (upU u k v))
  have e : 5 + k = ([Value.int .u64 (s : Nat)] ++ rootV r).length + k := by rw [List.length_append, rootV_len]; rfl
  rw [e, ← List.append_assoc, setL_right, usedV_set, List.append_assoc]
theorem headC_congr {s : Nat} {r r' : Nat → Nat} {u u' : Nat → Bool} (h1 : ∀ k, k < 4 → r k = r' k) (h2 : ∀ i, i < 128 → u i = u' i) : headC s r u = headC s r' u' := by
  unfold headC rootV usedV
  rw [List.map_congr_left fun k hk => by rw [h1 k (List.mem_range.1 hk)], List.map_congr_left (l := List.range 128) fun k hk => by rw [h2 k (List.mem_range.1 hk)]]
theorem z114 : zeroL Tryz.prog 83 = headC 0 (fun _ => 0) fun _ => false := by kernel_rfl
theorem shiftIn (y x : Nat) (hx : x < 256) (hy : y < 256 ^ 7) : IntKind.u64.wrap (ior IntKind.u64 (IntKind.u64.wrap (ishl IntKind.u64 (y : Int) 8)) (IntKind.u64.wrap ((x : Nat) : Int))) = ((y * 256 + x : Nat) : Int) := by
  have hy : y < 72057594037927936 := hy
  rw [show (8 : Int) = ((8 : Nat) : Int) from rfl, shlN _ y 8 (by decide), wrap64s (y * 2 ^ 8) (by omega), wrap64s x (by omega), orN' _ x y 8 (by omega) (by show _ < 18446744073709551616; omega), wrap64s _ (by omega)]
  omega
theorem shiftIn2 (y x : Nat) (hx : x < 256) (hy : y < 256) : IntKind.i64.wrap (ior IntKind.i64 (IntKind.i64.wrap (ishl IntKind.i64 (IntKind.i64.wrap ((y : Nat) : Int)) 8)) (IntKind.i64.wrap ((x : Nat) : Int))) = ((y * 256 + x : Nat) : Int) := by
  rw [widN y (by omega), widN x (by omega), show (8 : Int) = ((8 : Nat) : Int) from rfl, shlN _ y 8 (by decide), widN (y * 2 ^ 8) (by omega), orN' _ x y 8 (by omega) (by show _ < 18446744073709551616; omega), widN _ (by omega)]
  omega
theorem bitRead (x k : Nat) (hx : x < 256) (hk : k < 8) : hb (IntKind.u8.wrap (iand IntKind.u8 (ishr IntKind.u8 ((x : Nat) : Int) ((k : Nat) : Int)) 1) == 1) = (x / 2 ^ k % 2 == 1) := by
  have h1 : x / 2 ^ k ≤ x := Nat.div_le_self ..
  rw [shrN _ _ _ (by show k ≤ 8; omega), and1 _ (by omega), u8c]
  generalize x / 2 ^ k = y
  have : y % 2 % 256 = y % 2 := Nat.mod_eq_of_lt (by omega)
  rw [this]
  have : y % 2 = 0 ∨ y % 2 = 1 := by omega
  rw [hb_eq]
  rcases this with e | e <;> rw [e] <;> decide

set_option maxHeartbeats 2000000 in
theorem pread_spec {h : Hp} {b : ByteArray} {n : Nat} {K : Value → Hp → Prop} (hb : b.size = 1024) (h1 : 1 ≤ n) (hn : n ≤ 128)
    (hZ : b = zeroB 1024 → ∀ h', Sub h h' → K (.tuple #[.agg (headC 0 (fun _ => 0) fun i => i == 0).toArray, .bool true]) h')
    (hO : b ≠ zeroB 1024 → OkHead b n → ∀ h', Sub h h' → K (.tuple #[.agg (headC (dser b 8) (droot b) (dbit b)).toArray, .bool true]) h')
    (hN : b ≠ zeroB 1024 → ¬ OkHead b n → ∀ h' xs, xs.length = 133 → plainP xs → Sub h h' → K (.tuple #[.agg xs.toArray, .bool false]) h') :
    CallsH Tryz.prog pager_read.id #[.string b, .int .i64 (n : Nat)] h K := by
  apply pager_read.calls
  unfold pager_read.W
  intro k1 hk1 k2 hk2
  rw [z114] at hk2 ⊢
  have B1 : Blk (h.upd k1 (.cells (headC 0 (fun _ => 0) fun _ => false).toArray 83 (0, 0))) k1 83 (headC 0 (fun _ => 0) fun _ => false) := Blk.new _ _ _ _
  have s1 : Sub h (h.upd k1 (.cells (headC 0 (fun _ => 0) fun _ => false).toArray 83 (0, 0))) := Sub.upd hk1 _
  generalize h.upd k1 (.cells (headC 0 (fun _ => 0) fun _ => false).toArray 83 (0, 0)) = y1 at B1 s1 hk2
  have hne : k1 ≠ k2 := B1.ne hk2
  have hk2h : h k2 = none := s1.none hk2
  have B2 : Blk (y1.upd k2 (.cells (headC 0 (fun _ => 0) fun _ => false).toArray 83 (0, 0))) k2 83 (headC 0 (fun _ => 0) fun _ => false) := Blk.new _ _ _ _
  have B1' := B1.sub (Sub.upd hk2 (.cells (headC 0 (fun _ => 0) fun _ => false).toArray 83 (0, 0)))
  have s2 := s1.trans (Sub.upd hk2 (.cells (headC 0 (fun _ => 0) fun _ => false).toArray 83 (0, 0)))
  clear B1 s1
  generalize y1.upd k2 (.cells (headC 0 (fun _ => 0) fun _ => false).toArray 83 (0, 0)) = y2 at B1' B2 s2
  have new2 : ∀ {x : Hp} (sx : Sub h x) (o' : Nat) (us : List Value), Sub h (x.put k2 o' us) := fun {x} sx o' us => (Keep.put (fun c => c = k2) x o' us rfl).sub sx fun c e => by rw [e]; exact hk2h
  have new1 : ∀ {x : Hp} (sx : Sub h x) (o' : Nat) (us : List Value), Sub h (x.put k1 o' us) := fun {x} sx o' us => (Keep.put (fun c => c = k1) x o' us rfl).sub sx fun c e => by rw [e]; exact hk1
  have hl := headC_len 0 (fun _ => 0) fun _ => false
  have B3 := B2.put 0 (headC 0 (fun _ => 0) fun _ => false)
  rw [setL_all rfl] at B3
  have B4 := B3.put (5 + 0) [.bool true]
  rw [headC_setU] at B4
  have B14 := (B1'.put_ne 0 (headC 0 (fun _ => 0) fun _ => false) hne).put_ne (5 + 0) [.bool true] hne
  have s4 := new2 (new2 s2 0 (headC 0 (fun _ => 0) fun _ => false)) (5 + 0) [.bool true]
  refine ⟨hl, headC_plain _ _ _, B2.store (by rw [hl]; decide), B3.store (by rw [hl]; decide), by decide, by decide, by decide, by decide, fun k3 hk3 => ?_⟩
  have hu0 : headC 0 (fun _ => 0) (upU (fun _ => false) 0 true) = headC 0 (fun _ => 0) fun i => i == 0 := headC_congr (fun _ _ => rfl) fun i _ => by
    unfold upU
    by_cases e : i = 0
    · rw [if_pos e, e]; rfl
    · rw [if_neg e]; symm; simpa using e
  rw [hu0] at B4
  have B5 := B4.sub (Sub.upd hk3 (.cells (repV 1024 [.int .u8 0]).toArray 5 (0, 0)))
  have B15 := B14.sub (Sub.upd hk3 (.cells (repV 1024 [.int .u8 0]).toArray 5 (0, 0)))
  have s5 := s4.trans (Sub.upd hk3 (.cells (repV 1024 [.int .u8 0]).toArray 5 (0, 0)))
  refine ⟨zeroB 1024, zero_slice (Hp.upd_same _ _ _), ?_⟩
  clear B3 B4 B14 s4 B2 B1' s2
  show cond (beqS b (zeroB 1024)) _ _
  generalize Hp.upd _ k3 _ = y5 at B5 B15 s5 ⊢
  -- what is told at the end
  have fin : ∀ {x : Hp} {t : Nat → Nat} {v : Nat → Bool} {w : Bool} {s : Nat} {L : List Value} (sx : Sub h x) (Bx : Blk x k1 83 (headC 0 (fun _ => 0) fun _ => false)) (hL : L.length = 133) (pL : plainP L), (∀ h', Sub h h' → K (.tuple #[.agg L.toArray, .bool w]) h') →
      L.length = 133 ∧ plainP L ∧ StoreOk x k1 0 L.length ∧ ∃ xs : List Value, xs.length = 133 ∧ CellsAt (x.put k1 0 L) k1 0 xs ∧ K (.tuple #[.agg xs.toArray, .bool w]) (x.put k1 0 L) := by
    intro x t v w s L sx Bx hL pL hK
    refine ⟨hL, pL, Bx.store (by rw [hL, hl]; decide), L, hL, ?_, hK _ (new1 sx _ _)⟩
    have := Bx.put 0 L
    rw [setL_all (by rw [hL, hl])] at this
    exact this.cellsAt fun i hi => by rw [Nat.zero_add]
  have z0 : ∀ {x : Hp} (Bx : Blk x k2 83 (headC 0 (fun _ => 0) fun _ => false)), True := fun _ => trivial
  refine split_beqS (fun e => ?_) fun hne0 => ?_
  · refine ⟨headC 0 (fun _ => 0) fun i => i == 0, headC_len _ _ _, B5.cellsAt fun i hi => by rw [Nat.zero_add], ?_⟩
    exact fin (t := fun _ => 0) (v := fun _ => false) (s := 0) s5 B15 (headC_len _ _ _) (headC_plain _ _ _) (hZ e)
  have bad : ¬ OkHead b n → ∀ {x : Hp}, Sub h x → Blk x k1 83 (headC 0 (fun _ => 0) fun _ => false) → (headC 0 (fun _ => 0) fun _ => false).length = 133 ∧ plainP (headC 0 (fun _ => 0) fun _ => false) ∧ StoreOk x k1 0 (headC 0 (fun _ => 0) fun _ => false).length ∧
      ∃ xs : List Value, xs.length = 133 ∧ CellsAt (x.put k1 0 (headC 0 (fun _ => 0) fun _ => false)) k1 0 xs ∧ K (.tuple #[.agg xs.toArray, .bool false]) (x.put k1 0 (headC 0 (fun _ => 0) fun _ => false)) := fun no {x} sx Bx =>
    fin (t := fun _ => 0) (v := fun _ => false) (s := 0) sx Bx hl (headC_plain _ _ _) fun h' s' => hN hne0 no h' _ hl (headC_plain _ _ _) s'
  have e18 : IntKind.i64.wrap (Int.ofNat 10 + 8) = 18 := by decide
  have e26 : IntKind.i64.wrap (18 + 8) = 26 := by decide
  have esz : Int.ofNat b.size = 1024 := by rw [hb]; rfl
  simp only [e18, e26, esz]
  have stp : ∀ {m j : Nat}, j < m → m ≤ 1000 → IntKind.i64.wrap ((j : Int) + 1) = ((j + 1 : Nat) : Int) := fun {m j} _ _ => by rw [wid (by omega) (by omega)]; omega
  refine ⟨fun i x m => ∃ j : Nat, i = (j : Int) ∧ j ≤ 8 ∧ m = 8 - j ∧ Sub h x ∧ Blk x k1 83 (headC 0 (fun _ => 0) fun _ => false) ∧ Blk x k2 83 (headC (dser b j) (fun _ => 0) fun i => i == 0), ⟨_, 0, rfl, by decide, rfl, s5, B15, B5⟩, ?_⟩
  rintro i x m ⟨j, rfl, hj, rfl, sx, A, B⟩
  refine split_dec (fun g => ?_) fun g => ?_
  · have g : j < 8 := by have : (j : Int) < 8 := g; omega
    have e1 : IntKind.i64.wrap (10 + (j : Int)) = ((10 + j : Nat) : Int) := by rw [wid (by omega) (by omega)]; omega
    have hd := dser_lt b j
    have hd7 : dser b j < 256 ^ 7 := Nat.lt_of_lt_of_le hd (Nat.pow_le_pow_right (by decide) (by omega))
    refine ⟨_, B.cell' 0 rfl, by decide, by rw [e1]; omega, by rw [e1]; omega, B.store (by rw [headC_len]; decide), 8 - (j + 1), by omega, j + 1, stp g (by decide), by omega, rfl, new2 sx _ _, A.put_ne _ _ hne, ?_⟩
    rw [e1, Int.toNat_natCast, byteAt_N, shiftIn _ _ (byteN_lt _ _) hd7]
    have := B.put 0 [.int .u64 ((dser b j * 256 + byteN b (10 + j) : Nat) : Int)]
    rw [headC_setS] at this
    exact this
  have : j = 8 := by
    have : ¬ (j : Int) < 8 := g
    omega
  subst this
  clear g B5 B15 s5
  refine ⟨fun i x m => ∃ j : Nat, i = (j : Int) ∧ j ≤ 4 ∧ m = 4 - j ∧ Sub h x ∧ Blk x k1 83 (headC 0 (fun _ => 0) fun _ => false) ∧ Blk x k2 83 (headC (dser b 8) (fun k => if k < j then droot b k else 0) fun i => i == 0), ⟨_, 0, rfl, by decide, rfl, sx, A, ?_⟩, ?_⟩
  · rw [headC_congr (r' := fun _ => 0) (u' := fun i => i == 0) (fun k _ => if_neg (Nat.not_lt_zero _)) fun _ _ => rfl]; exact B
  clear A B sx
  rintro i x m ⟨j, rfl, hj, rfl, sx, A, B⟩
  refine split_dec (fun g => ?_) fun g => ?_
  · have g : j < 4 := by have : (j : Int) < 4 := g; omega
    have e1 : IntKind.i64.wrap (2 * (j : Int)) = ((2 * j : Nat) : Int) := by rw [wid (by omega) (by omega)]; omega
    have e2 : IntKind.i64.wrap (18 + ((2 * j : Nat) : Int)) = ((18 + 2 * j : Nat) : Int) := by rw [wid (by omega) (by omega)]; omega
    have e3 : IntKind.i64.wrap (((18 + 2 * j : Nat) : Int) + 1) = ((19 + 2 * j : Nat) : Int) := by rw [wid (by omega) (by omega)]; omega
    have idx : 1 + (j : Int).toNat * 1 = 1 + j := by rw [Int.toNat_natCast]; omega
    rw [e1, e2, e3, idx]
    refine ⟨by omega, by omega, by decide, by omega, by omega, by omega, by omega, B.store (by rw [headC_len]; omega), 4 - (j + 1), by omega, j + 1, stp g (by decide), by omega, rfl, new2 sx _ _, A.put_ne _ _ hne, ?_⟩
    rw [Int.toNat_natCast, Int.toNat_natCast, byteAt_N, byteAt_N, shiftIn2 _ _ (byteN_lt _ _) (byteN_lt _ _)]
    have := B.put (1 + j) [.int .i64 ((droot b j : Nat) : Int)]
    rw [headC_setR _ _ _ _ g] at this
    rw [headC_congr (r' := upR (fun k => if k < j then droot b k else 0) j (droot b j)) (u' := fun i => i == 0) (fun k _ => ?_) fun _ _ => rfl]
    · exact this
    · show (if k < j + 1 then droot b k else 0) = if k = j then droot b j else if k < j then droot b k else 0
      by_cases e : k = j
      · rw [if_pos e, if_pos (by omega), e]
      · rw [if_neg e]
        by_cases e2 : k < j
        · rw [if_pos e2, if_pos (by omega)]
        · rw [if_neg e2, if_neg (by omega)]
  have : j = 4 := by
    have : ¬ (j : Int) < 4 := g
    omega
  subst this
  clear g
  rw [headC_congr (r' := droot b) (u' := fun i => i == 0) (fun k hk => if_pos hk) fun _ _ => rfl] at B
  refine ⟨fun i x m => ∃ j : Nat, i = (j : Int) ∧ j ≤ 128 ∧ m = 128 - j ∧ Sub h x ∧ Blk x k1 83 (headC 0 (fun _ => 0) fun _ => false) ∧ Blk x k2 83 (headC (dser b 8) (droot b) fun i => if i < j then dbit b i else i == 0) ∧ ∀ i, i < j → dbit b i = true → i < n, ⟨_, 0, rfl, by decide, rfl, sx, A, ?_, fun i hi => absurd hi (Nat.not_lt_zero _)⟩, ?_⟩
  · rw [headC_congr (r' := droot b) (u' := fun i => i == 0) (fun _ _ => rfl) fun k _ => if_neg (Nat.not_lt_zero _)]; exact B
  clear A B sx
  rintro i x m ⟨j, rfl, hj, rfl, sx, A, B, hbel⟩
  refine split_dec (fun g => ?_) fun g => ?_
  · have g : j < 128 := by have : (j : Int) < 128 := g; omega
    have e1 : IntKind.i64.wrap (26 + IntKind.i64.wrap ((j : Int).tdiv 8)) = ((26 + j / 8 : Nat) : Int) := by
      rw [tdiv8, widN _ (by omega), wid (by omega) (by omega)]; omega
    have idx : 5 + (j : Int).toNat * 1 = 5 + j := by rw [Int.toNat_natCast]; omega
    have val : Go.Gx.hb (IntKind.u8.wrap (iand IntKind.u8 (ishr IntKind.u8 (byteAt b (26 + j / 8)) ((j % 8 : Nat) : Int)) 1) == 1) = dbit b j := by
      rw [byteAt_N, bitRead _ _ (byteN_lt _ _) (Nat.mod_lt _ (by decide))]; rfl
    rw [e1, idx, tmod8, Int.toNat_natCast, val]
    have B' := B.put (5 + j) [.bool (dbit b j)]
    rw [headC_setU, headC_congr (r' := droot b) (u' := fun i => if i < j + 1 then dbit b i else i == 0) (fun _ _ => rfl) fun k _ => ?_] at B'
    rotate_left
    · show upU (fun i => if i < j then dbit b i else i == 0) j (dbit b j) k = if k < j + 1 then dbit b k else k == 0
      unfold upU
      by_cases e : k = j
      · rw [if_pos e, if_pos (by omega), e]
      · rw [if_neg e]
        show (if k < j then dbit b k else k == 0) = _
        by_cases e2 : k < j
        · rw [if_pos e2, if_pos (by omega)]
        · rw [if_neg e2, if_neg (by omega)]
    refine ⟨by decide, by omega, by omega, by decide, by omega, by omega, by omega, B.store (by rw [headC_len]; show 5 + j + 1 ≤ 133; omega), by omega, by omega, dbit b j, ?_, split_cond (fun eb => split_dec (fun e => ?_) fun e => ?_) fun eb => ?_⟩
    · exact B'.cell' _ (by rw [headC_used _ _ _ g, if_pos (Nat.lt_succ_self _)])
    · have e : ((j : Nat) : Int) ≥ (n : Int) := e
      exact bad (fun H => by have := H.below j g eb; omega) (new2 sx _ _) (A.put_ne _ _ hne)
    · have e : ¬ ((j : Nat) : Int) ≥ (n : Int) := e
      refine ⟨128 - (j + 1), by omega, j + 1, stp g (by decide), by omega, rfl, new2 sx _ _, A.put_ne _ _ hne, B', fun i hi hbi => ?_⟩
      by_cases e2 : i = j
      · omega
      · exact hbel i (by omega) hbi
    · refine ⟨128 - (j + 1), by omega, j + 1, stp g (by decide), by omega, rfl, new2 sx _ _, A.put_ne _ _ hne, B', fun i hi hbi => ?_⟩
      by_cases e2 : i = j
      · rw [e2, eb] at hbi; cases hbi
      · exact hbel i (by omega) hbi
  have : j = 128 := by
    have : ¬ (j : Int) < 128 := g
    omega
  subst this
  clear g
  rw [headC_congr (r' := droot b) (u' := dbit b) (fun _ _ => rfl) fun k hk => if_pos hk] at B
  refine ⟨_, B.cell' _ (headC_root _ _ _ (k := 0) (by decide)), _, B.cell' _ (headC_root _ _ _ (k := 1) (by decide)), _, B.cell' _ (headC_root _ _ _ (k := 2) (by decide)), _, B.cell' _ (headC_root _ _ _ (k := 3) (by decide)), ?_⟩
  refine ⟨fun i y m => ∃ j : Nat, i = (j : Int) ∧ j ≤ 4 ∧ m = 4 - j ∧ y = x ∧ ∀ k, k < j → droot b k < 128 ∧ (droot b k ≠ 0 → dbit b (droot b k) = true), ⟨_, 0, rfl, by decide, rfl, rfl, fun k hk => absurd hk (Nat.not_lt_zero _)⟩, ?_⟩
  rintro i y m ⟨j, rfl, hj, rfl, rfl, hroots⟩
  refine split_dec (fun g => ?_) fun g => ?_
  · have g : j < 4 := by have : (j : Int) < 4 := g; omega
    refine ⟨by omega, by omega, _, lget4 g, split_dec (fun e => ?_) fun e => split_ne (fun e2 => ?_) fun e2 => ?_⟩
    · have e : ((droot b j : Nat) : Int) ≥ 128 := e
      exact bad (fun H => by have := (H.roots j g).1; omega) sx A
    · have e : ¬ ((droot b j : Nat) : Int) ≥ 128 := e
      have idx : 5 + ((droot b j : Nat) : Int).toNat * 1 = 5 + droot b j := by rw [Int.toNat_natCast]; omega
      refine ⟨by omega, by omega, dbit b (droot b j), ?_, split_not (fun e3 => bad (fun H => ?_) sx A) fun e3 => ⟨4 - (j + 1), by omega, j + 1, stp g (by decide), by omega, rfl, rfl, fun k hk => ?_⟩⟩
      · rw [idx]; exact B.cell' _ (headC_used _ _ _ (by omega))
      · have := (H.roots j g).2 (fun e4 => e2 (by rw [e4]; rfl))
        rw [this] at e3; cases e3
      · by_cases ek : k = j
        · rw [ek]; exact ⟨by omega, fun _ => e3⟩
        · exact hroots k (by omega)
    · have e2 : ((droot b j : Nat) : Int) = 0 := e2
      refine ⟨4 - (j + 1), by omega, j + 1, stp g (by decide), by omega, rfl, rfl, fun k hk => ?_⟩
      by_cases ek : k = j
      · rw [ek]; exact ⟨by omega, fun h => by omega⟩
      · exact hroots k (by omega)
  have : j = 4 := by
    have : ¬ (j : Int) < 4 := g
    omega
  subst this
  have notOk : ¬ OkHead b n → ∀ {z : Hp}, Sub h z → Blk z k1 83 (headC 0 (fun _ => 0) fun _ => false) → _ := fun no {z} sz Bz =>
    fin (x := z) (w := false) (t := fun _ => 0) (v := fun _ => false) (s := 0) (L := headC (dser b 8) (droot b) (dbit b)) sz Bz (headC_len _ _ _) (headC_plain _ _ _) fun h' s' => hN hne0 no h' _ (headC_len _ _ _) (headC_plain _ _ _) s'
  refine ⟨headC (dser b 8) (droot b) (dbit b), headC_len _ _ _, B.cellsAt fun i hi => by rw [Nat.zero_add], _, B.cell' 5 (headC_used _ _ _ (i := 0) (by decide)), split_cond (fun e0 => ?_) fun e0 => ⟨Sub.refl _, notOk (fun H => by rw [H.zero] at e0; cases e0) sx A⟩⟩
  refine ⟨_, B.cell' 0 rfl, split_dec (fun e => ?_) fun e => ⟨Sub.refl _, notOk (fun H => e (by have := H.ser; omega)) sx A⟩⟩
  refine bytes_spec (B.cellsAt fun i hi => by rw [Nat.zero_add]) fun z sz => ⟨_, rfl, sz, ?_⟩
  rw [beqS_val]
  by_cases eb : tabB (encN (dser b 8) (droot b) (dbit b) 128) = b
  · rw [decide_eq_true eb]
    exact fin (t := fun _ => 0) (v := fun _ => false) (s := 0) (sx.trans sz) (A.sub sz) (headC_len _ _ _) (headC_plain _ _ _) (hO hne0 ⟨hbel, hroots, e0, by have e : ((dser b 8 : Nat) : Int) ≤ 9223372036854775807 := e; omega, eb⟩)
  · rw [decide_eq_false eb]
    exact notOk (fun H => eb H.bytes) (sx.trans sz) (A.sub sz)
end Go.Proofs.YtagglohkipioiaaGreat
