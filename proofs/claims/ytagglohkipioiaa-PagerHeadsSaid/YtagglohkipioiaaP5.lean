/- Which heads are right, as the reference has it. Conditions: 1024 bytes, 1 to 128 pages. -/
import Derived.Test.YtagglohkipioiaaP4
namespace Go.Proofs.Ytagglohkipioiaa
open Go.Gx
set_option maxRecDepth 100000
set_option linter.unusedVariables false

theorem blank_spec {h : Hp} {K : Value → Hp → Prop} (hK : ∀ h', Sub h h' → K (.string (zeroB 1024)) h') : CallsH Try.prog ref14_blank.id #[] h K := by
  apply ref14_blank.calls
  unfold ref14_blank.W
  exact ⟨by decide, by decide, by decide, by decide, fun k hk => ⟨zeroB 1024, zero_slice (Hp.upd_same _ _ _), hK _ (Sub.upd hk _)⟩⟩

set_option maxHeartbeats 2000000 in
theorem right_spec {h : Hp} {b : ByteArray} {n : Nat} {K : Value → Hp → Prop} (hb : b.size = 1024) (h1 : 1 ≤ n) (hn : n ≤ 128)
    (hT : b = zeroB 1024 ∨ RightHead b n → ∀ h', Sub h h' → K (.bool true) h') (hF : b ≠ zeroB 1024 → ¬ RightHead b n → ∀ h', Sub h h' → K (.bool false) h') :
    CallsH Try.prog ref14_Right.id #[.string b, .int .i64 (n : Nat)] h K := by
  apply ref14_Right.calls
  unfold ref14_Right.W
  refine blank_spec fun h2 s2 => ⟨_, rfl, split_beqS (fun e => hT (.inl e) h2 s2) fun hne => ?_⟩
  intro k4 hk4
  have hk4h : h k4 = none := s2.none hk4
  have no : ¬ RightHead b n → ∀ x, Sub h x → K (.bool false) x := hF hne
  have C0 : Blk (h2.upd k4 (.cells (stC none 0 0 none 0 0 (fun _ => 0) 0).toArray 50 (0, 0))) k4 50 (stC none 0 0 none 0 0 (fun _ => 0) 0) := Blk.new _ _ _ _
  have C1 := C0.put 0 (stC none 0 0 none 0 0 (fun _ => 0) 0)
  rw [setL_all rfl] at C1
  have new : ∀ {x : Hp} (sx : Sub h x) (o' : Nat) (us : List Value), Sub h (x.put k4 o' us) := fun {x} sx o' us => (Keep.put (fun c => c = k4) x o' us rfl).sub sx fun c e => by rw [e]; exact hk4h
  have t1 := new (s2.trans (Sub.upd hk4 (.cells (stC none 0 0 none 0 0 (fun _ => 0) 0).toArray 50 (0, 0)))) 0 (stC none 0 0 none 0 0 (fun _ => 0) 0)
  refine ⟨C0.store (by decide), ?_⟩
  have esz : Int.ofNat b.size = 1024 := by rw [hb]; rfl
  have stp : ∀ {m j : Nat}, j < m → m ≤ 1000 → IntKind.i64.wrap ((j : Int) + 1) = ((j + 1 : Nat) : Int) := fun {m j} _ _ => by rw [wid (by omega) (by omega)]; omega
  refine ⟨fun i x m => ∃ j : Nat, i = (j : Int) ∧ j ≤ 8 ∧ m = 8 - j ∧ Sub h x ∧ Blk x k4 50 (stC none 0 0 none 0 0 (fun _ => 0) (dser b j)), ⟨_, 0, rfl, by decide, rfl, t1, C1⟩, ?_⟩
  clear C0 C1 t1
  rintro i x m ⟨j, rfl, hj, rfl, sx, B⟩
  refine split_dec (fun g => ?_) fun g => ?_
  · have g : j < 8 := by have : (j : Int) < 8 := g; omega
    have e1 : IntKind.i64.wrap (10 + (j : Int)) = ((10 + j : Nat) : Int) := by rw [wid (by omega) (by omega)]; omega
    have hd := dser_lt b j
    have hd7 : dser b j < 256 ^ 7 := Nat.lt_of_lt_of_le hd (Nat.pow_le_pow_right (by decide) (by omega))
    have hd7 : dser b j < 72057594037927936 := hd7
    have hbl := byteN_lt b (10 + j)
    rw [e1, esz, Int.toNat_natCast, byteAt_N]
    refine ⟨_, B.cell' 6 rfl, by omega, by omega, B.store (by rw [stC_len]; decide), 8 - (j + 1), by omega, j + 1, stp g (by decide), by omega, rfl, new sx _ _, ?_⟩
    rw [show ((dser b j : Nat) : Int) * 256 = ((dser b j * 256 : Nat) : Int) by omega, wrap64s (dser b j * 256) (by omega), wrap64s (byteN b (10 + j)) (by omega),
      show ((dser b j * 256 : Nat) : Int) + ((byteN b (10 + j) : Nat) : Int) = ((dser b j * 256 + byteN b (10 + j) : Nat) : Int) from (Int.natCast_add _ _).symm, wrap64s _ (by omega)]
    exact B.put 6 [.int .u64 ((dser b j * 256 + byteN b (10 + j) : Nat) : Int)]
  have : j = 8 := by
    have : ¬ (j : Int) < 8 := g
    omega
  subst this
  clear g
  refine ⟨fun i x m => ∃ j : Nat, i = (j : Int) ∧ j ≤ 4 ∧ m = 4 - j ∧ Sub h x ∧ Blk x k4 50 (stC none 0 0 none 0 0 (fun k => if k < j then droot b k else 0) (dser b 8)), ⟨_, 0, rfl, by decide, rfl, sx, B⟩, ?_⟩
  clear B sx
  rintro i x m ⟨j, rfl, hj, rfl, sx, B⟩
  refine split_dec (fun g => ?_) fun g => ?_
  · have g : j < 4 := by have : (j : Int) < 4 := g; omega
    have e1 : IntKind.i64.wrap (2 * (j : Int)) = ((2 * j : Nat) : Int) := by rw [wid (by omega) (by omega)]; omega
    have e2 : IntKind.i64.wrap (18 + ((2 * j : Nat) : Int)) = ((18 + 2 * j : Nat) : Int) := by rw [wid (by omega) (by omega)]; omega
    have e3 : IntKind.i64.wrap (19 + ((2 * j : Nat) : Int)) = ((19 + 2 * j : Nat) : Int) := by rw [wid (by omega) (by omega)]; omega
    have idx : 2 + (j : Int).toNat * 1 = 2 + j := by rw [Int.toNat_natCast]; omega
    have hb1 := byteN_lt b (18 + 2 * j)
    have hb2 := byteN_lt b (19 + 2 * j)
    rw [e1, e2, e3, idx, esz, Int.toNat_natCast, Int.toNat_natCast, byteAt_N, byteAt_N]
    refine ⟨by omega, by omega, by omega, by omega, by omega, by omega, B.store (by rw [stC_len]; omega), 4 - (j + 1), by omega, j + 1, stp g (by decide), by omega, rfl, new sx _ _, ?_⟩
    have v : IntKind.i64.wrap (IntKind.i64.wrap (IntKind.i64.wrap ((byteN b (18 + 2 * j) : Nat) : Int) * 256) + IntKind.i64.wrap ((byteN b (19 + 2 * j) : Nat) : Int)) = ((droot b j : Nat) : Int) := by
      unfold droot
      rw [widN (byteN b (18 + 2 * j)) (by omega), widN (byteN b (19 + 2 * j)) (by omega), wid (x := ((byteN b (18 + 2 * j) : Nat) : Int) * 256) (by omega) (by omega), wid (by omega) (by omega)]; omega
    rw [v]
    have := B.put (2 + j) [.int .i64 ((droot b j : Nat) : Int)]
    rw [stC_setR _ g] at this
    rw [stC_congr (r' := upR (fun k => if k < j then droot b k else 0) j (droot b j)) fun k _ => ?_]
    · exact this
    · show (if k < j + 1 then droot b k else 0) = if k = j then droot b j else if k < j then droot b k else 0
      by_cases e : k = j
      · rw [if_pos e, if_pos (by omega), e]
      · rw [if_neg e]
        by_cases e2 : k < j
        · rw [if_pos e2, if_pos (by omega)]
        · rw [if_neg e2, if_neg (by omega)]
  have : j = 4 := by
    have : ¬ (j : Int) < 4 := g
    omega
  subst this
  clear g
  rw [stC_congr (r' := droot b) fun k hk => if_pos hk] at B
  refine ⟨fun i x m => ∃ (j : Nat) (ua : Option Addr) (uc : Nat), i = (j : Int) ∧ j ≤ n ∧ m = n - j ∧ Sub h x ∧ Blk x k4 50 (stC ua j uc none 0 0 (droot b) (dser b 8)) ∧ OwnR boolC 1 x 4 ua uc ((List.range j).map (dbit b)) ∧ ∀ c, blkOf ua c → c ≠ k4 ∧ h c = none, ⟨_, 0, none, 0, rfl, Nat.zero_le _, rfl, sx, B, OwnR.nil _ _, by rintro c ⟨o, s, e⟩; cases e⟩, ?_⟩
  clear B sx
  rintro i x m ⟨j, ua, uc, rfl, hj, rfl, sx, B, O, hua⟩
  refine split_dec (fun g => ?_) fun g => ?_
  · have g : j < n := by have : (j : Int) < (n : Int) := g; omega
    have e1 : IntKind.i64.wrap (26 + IntKind.i64.wrap ((j : Int).tdiv 8)) = ((26 + j / 8 : Nat) : Int) := by
      rw [tdiv8, widN _ (by omega), wid (by omega) (by omega)]; omega
    have hm : j % 8 < 8 := Nat.mod_lt _ (by decide)
    rw [e1, esz, Int.toNat_natCast, byteAt_N, tmod8]
    refine ⟨by decide, by omega, by omega, fun v i y m => ∃ t : Nat, v = ((byteN b (26 + j / 8) / 2 ^ t : Nat) : Int) ∧ i = (t : Int) ∧ t ≤ j % 8 ∧ m = 8 - t ∧ y = x, ⟨_, 0, by rw [Nat.pow_zero, Nat.div_one], rfl, Nat.zero_le _, rfl, rfl⟩, ?_⟩
    rintro v i y m ⟨t, rfl, rfl, ht, rfl, rfl⟩
    have hbl := byteN_lt b (26 + j / 8)
    have hdl : byteN b (26 + j / 8) / 2 ^ t ≤ byteN b (26 + j / 8) := Nat.div_le_self ..
    refine ⟨by decide, split_dec (fun gt => ?_) fun gt => ?_⟩
    · have gt : t < j % 8 := by omega
      refine ⟨by decide, 8 - (t + 1), by omega, t + 1, ?_, by rw [wid (by omega) (by omega)]; omega, by omega, rfl, rfl⟩
      rw [show (2 : Int) = ((2 : Nat) : Int) from rfl, tdivN, Nat.pow_succ, ← Nat.div_div_eq_div_mul]
      generalize byteN b (26 + j / 8) / 2 ^ t = q at hdl ⊢
      rw [u8c, Nat.mod_eq_of_lt (by omega)]
    have : t = j % 8 := by omega
    subst this
    have val : Go.Gx.hb ((((byteN b (26 + j / 8) / 2 ^ (j % 8) : Nat) : Int)).tmod 2 == 1) = dbit b j := by
      rw [show (2 : Int) = ((2 : Nat) : Int) from rfl, tmodN, hb_eq]
      unfold dbit
      generalize byteN b (26 + j / 8) / 2 ^ (j % 8) = q
      have : q % 2 = 0 ∨ q % 2 = 1 := by omega
      rcases this with e | e <;> rw [e] <;> decide
    rw [val]
    refine ⟨_, _, _, B.cell' 0 rfl, by decide, fun k33 hk33 => ⟨_, (Blk.new y k33 4 (boolC (dbit b j))).slice rfl, fun a' c' z => OwnR boolC 1 z 4 a' c' ((List.range (j + 1)).map (dbit b)) ∧ Keep (blkOf ua) y z ∧ ∀ c, blkOf a' c → blkOf ua c ∨ y c = none, ?_, ?_⟩⟩
    · rintro a' c' z ⟨o, kz, nz⟩
      have Bz := B.keep kz fun hc => (hua _ hc).1 rfl
      have sz : Sub h z := kz.sub sx fun c hc => (hua c hc).2
      refine ⟨Bz.store (by rw [stC_len]; decide), n - (j + 1), by omega, j + 1, a', c', stp g (by omega), by omega, rfl, new sz _ _, Bz.put 0 [.slice a' (j + 1) c'], ?_, ?_⟩
      · refine o.keep (Keep.put (fun c => c = k4) z _ _ rfl) fun c hc e => ?_
        rcases nz c hc with h' | h'
        · exact (hua c h').1 e
        · rw [e] at h'; exact B.ne h' rfl
      · intro c hc
        rcases nz c hc with h' | h'
        · exact hua c h'
        · exact ⟨fun e => by rw [e] at h'; exact B.ne h' rfl, sx.none h'⟩
    · refine append_ownR appTBool boolC_len boolC_plain (M := [dbit b j]) (O.sub (Sub.upd hk33 _)) (by simp) rfl (rowC_one _).symm (by simp; omega) fun a' c' z o k' nw => ⟨?_, fun c o' hc hn => k' c o' (Sub.upd hk33 _ c o' hc) hn, fun c hc => ?_⟩
      · rw [List.range_succ, List.map_append]; exact o
      · rcases nw c hc with h' | h'
        · exact .inl h'
        · exact .inr ((Sub.upd hk33 _).none h')
  have : j = n := by
    have : ¬ (j : Int) < (n : Int) := g
    omega
  subst this
  clear g
  have U := O.row
  have hget : ∀ {i : Nat}, i < j → ∃ c o, ua = some ⟨c, o, none⟩ ∧ x.cell c (o + i) = some (.bool (dbit b i)) := fun {i} hi => by
    have hq : ((List.range j).map (dbit b))[i]? = some (dbit b i) := by rw [List.getElem?_map, List.getElem?_range hi]; rfl
    obtain ⟨c, o, ea, hc⟩ := U.get boolC_len (by decide) hq
    exact ⟨c, o, ea, by have := hc 0 _ rfl; rw [Nat.mul_one] at this; exact this⟩
  refine ⟨fun z => Sub x z ∧ (dser b 8 ≤ 9223372036854775807 ∧ dbit b 0 = true ∧ tabB (encN (dser b 8) (droot b) (dbit b) j) = b), ?_, ?_⟩
  · rintro z ⟨sz, q1, q2, q3⟩
    have Bz := B.sub sz
    refine ⟨fun i y m => ∃ t : Nat, i = (t : Int) ∧ t ≤ 4 ∧ m = 4 - t ∧ y = z ∧ ∀ k, k < t → droot b k ≠ 0 → droot b k < j ∧ dbit b (droot b k) = true, ⟨_, 0, rfl, by decide, rfl, rfl, fun k hk => absurd hk (Nat.not_lt_zero _)⟩, ?_⟩
    rintro i y m ⟨t, rfl, ht, rfl, rfl, hroots⟩
    refine split_dec (fun g => ?_) fun g => ?_
    · have g : t < 4 := by have : (t : Int) < 4 := g; omega
      have idx : 2 + (t : Int).toNat * 1 = 2 + t := by rw [Int.toNat_natCast]; omega
      rw [idx]
      have hc := Bz.cell' _ (stC_root (ua := ua) (ul := j) (uc := uc) (da := none) (dl := 0) (dc := 0) (r := droot b) (s := dser b 8) g)
      refine ⟨by omega, by omega, _, hc, split_ne (fun e => ?_) fun e => ?_⟩
      · refine ⟨by omega, by omega, _, hc, split_dec (fun e2 => ?_) fun e2 => ?_⟩
        · have e2 : ((droot b t : Nat) : Int) ≥ (j : Int) := e2
          exact no (fun H => by have := (H.roots t g (fun h => e (by rw [h]; rfl))).1; omega) _ (sx.trans sz)
        · have e2 : ¬ ((droot b t : Nat) : Int) ≥ (j : Int) := e2
          obtain ⟨c, o, ea, hcell⟩ := hget (i := droot b t) (by omega)
          refine ⟨_, _, _, Bz.cell' 0 rfl, by omega, by omega, _, hc, by omega, by show ((droot b t : Nat) : Int) < (j : Int); omega, c, o, ea, dbit b (droot b t), ?_, split_not (fun e3 => ?_) fun e3 => ?_⟩
          · rw [Int.toNat_natCast, Nat.mul_one]; exact cell_sub sz hcell
          · exact no (fun H => by have := (H.roots t g (fun h => e (by rw [h]; rfl))).2; rw [this] at e3; cases e3) _ (sx.trans sz)
          · refine ⟨4 - (t + 1), by omega, t + 1, stp g (by decide), by omega, rfl, rfl, fun k hk hk0 => ?_⟩
            by_cases ek : k = t
            · rw [ek]; exact ⟨by omega, e3⟩
            · exact hroots k (by omega) hk0
      · have e : ((droot b t : Nat) : Int) = 0 := e
        refine ⟨4 - (t + 1), by omega, t + 1, stp g (by decide), by omega, rfl, rfl, fun k hk hk0 => ?_⟩
        by_cases ek : k = t
        · rw [ek] at hk0; omega
        · exact hroots k (by omega) hk0
    · have : t = 4 := by
        have : ¬ (t : Int) < 4 := g
        omega
      subst this
      exact hT (.inr ⟨q1, q2, q3, hroots⟩) _ (sx.trans sz)
  · refine ⟨_, B.cell' 6 rfl, split_dec (fun e => ?_) fun e => ?_⟩
    · have e : ((dser b 8 : Nat) : Int) > 9223372036854775807 := e
      exact no (fun H => by have := H.ser; omega) _ sx
    have e : ¬ ((dser b 8 : Nat) : Int) > 9223372036854775807 := e
    obtain ⟨c, o, ea, hcell⟩ := hget (i := 0) (by omega)
    refine ⟨_, _, _, B.cell' 0 rfl, split_cond (fun e5 => ⟨c, o, ea, _, hcell, split_not (fun e3 => no (fun H => by rw [H.zero] at e3; cases e3) _ sx) fun e3 => ?_⟩) fun e5 => ?_⟩
    · refine ⟨_, _, _, B.cell' 0 rfl, _, _, _, B.cell' 1 rfl, _, B.cell' 2 rfl, _, B.cell' 3 rfl, _, B.cell' 4 rfl, _, B.cell' 5 rfl, _, B.cell' 6 rfl, ?_⟩
      have hs : dser b 8 < 18446744073709551616 := dser_lt b 8
      refine rbytes_spec (da := none) (dl := 0) (dc := 0) (r := droot b) (s := dser b 8) U hn hs (fun k _ => by have := droot_lt b k; omega) fun y sy => ⟨_, rfl, ?_⟩
      refine split_not (fun eq => ?_) fun eq => ?_
      · exact no (fun H => by rw [H.bytes, beqS_val, decide_eq_true rfl] at eq; cases eq) _ (sx.trans sy)
      · rw [beqS_val] at eq
        exact ⟨sy, by omega, e3, of_decide_eq_true eq⟩
    · rw [Bool.true_and] at e5
      have : Nat.blt 0 j = true := Nat.ble_eq_true_of_le h1
      rw [this] at e5; cases e5
end Go.Proofs.Ytagglohkipioiaa
