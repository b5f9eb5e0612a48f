/- Writing bytes into a state of package sha, its digest, and the digest of some bytes. Conditions: what the blocks hold that are read; fewer than 2^60 bytes. -/
import Derived.Test.YtpokejaglmkphaaS5
namespace Go.Proofs.Ytpokejaglmkphaa
open Go.Gx
set_option maxRecDepth 100000

/-! ### the plain law -/
def blocksN (s : S8) (all : List UInt8) : Nat → S8
  | 0 => s
  | j + 1 => mixF kW (blocksN s all j) ((all.drop (64 * j)).take 64)
theorem blocksN_append (s : S8) (m t : List UInt8) : ∀ j, 64 * j ≤ m.length → blocksN s (m ++ t) j = blocksN s m j
  | 0, _ => rfl
  | j + 1, h => by
    rw [blocksN, blocksN, blocksN_append s m t j (by omega), List.drop_append_of_le_length (by omega), List.take_append_of_le_length (by simp; omega)]
theorem blocksN_add (s : S8) (m : List UInt8) (i : Nat) : ∀ j, blocksN s m (i + j) = blocksN (blocksN s m i) (m.drop (64 * i)) j
  | 0 => rfl
  | j + 1 => by
    rw [← Nat.add_assoc, blocksN, blocksN, blocksN_add s m i j, List.drop_drop]
    congr 4; omega
def stF (m : List UInt8) : S8 := blocksN S0 m (m.length / 64)
def rsF (m : List UInt8) : List UInt8 := m.drop (64 * (m.length / 64))
theorem rsF_length (m : List UInt8) : (rsF m).length = m.length % 64 := by unfold rsF; rw [List.length_drop]; omega
theorem fed_less {m t : List UInt8} (h : (rsF m).length + t.length < 64) : stF (m ++ t) = stF m ∧ rsF (m ++ t) = rsF m ++ t := by
  rw [rsF_length] at h
  have e : (m ++ t).length / 64 = m.length / 64 := by rw [List.length_append]; omega
  unfold stF rsF
  rw [e]
  exact ⟨blocksN_append _ _ _ _ (by omega), List.drop_append_of_le_length (by omega)⟩
theorem fed_full {m t : List UInt8} (h : (rsF m).length + t.length = 64) : stF (m ++ t) = mixF kW (stF m) (rsF m ++ t) ∧ rsF (m ++ t) = [] := by
  rw [rsF_length] at h
  have e : (m ++ t).length / 64 = m.length / 64 + 1 := by rw [List.length_append]; omega
  unfold stF rsF
  rw [e]
  refine ⟨?_, List.drop_eq_nil_of_le (by rw [List.length_append]; omega)⟩
  rw [blocksN, blocksN_append _ _ _ _ (by omega), List.drop_append_of_le_length (by omega), List.take_of_length_le (by simp; omega)]
def word4 (w : BitVec 32) : List UInt8 := [UInt8.ofNat (w.toNat / 16777216), UInt8.ofNat (w.toNat / 65536), UInt8.ofNat (w.toNat / 256), UInt8.ofNat w.toNat]
def endF (m : List UInt8) : S8 := blocksN (stF m) (rsF m ++ padB m.length) ((rsF m ++ padB m.length).length / 64)
def dg (m : List UInt8) : List UInt8 := (endF m).list.flatMap word4
theorem dg_length (m : List UInt8) : (dg m).length = 32 := rfl
/-- The digest of some bytes. -/
def shaF (b : ByteArray) : ByteArray := ⟨(dg b.data.toList).toArray⟩
theorem shaF_size (b : ByteArray) : (shaF b).size = 32 := rfl

/-! ### Write -/
theorem blk_ne {h : Hp} {b c : Nat} {t u : TypeId} {vs ws : List Value} (H : Blk h b t vs) (H' : Blk h c u ws) (hn : t ≠ u) : b ≠ c := fun e => by
  subst e; exact hn (H.inj H').1
theorem own_ne {h : Hp} {hb : Nat} {vs : List Value} (H : Blk h hb tHash vs) {a : Option Addr} {l c : Nat} {xs : List Value} (o : Own h tB 1 a l c xs) {b : Nat} (hb' : blkOf a b) : b ≠ hb := by
  obtain ⟨o', s, e⟩ := hb'
  rcases o.2.2 with ⟨e1, _⟩ | ⟨b', rest, e1, h3, _⟩
  · rw [e1] at e; cases e
  · rw [e1] at e; cases e
    exact blk_ne h3 H (by decide)
theorem write_spec {h : Hp} {hb : Nat} {m bs : List UInt8} {a : Option Addr} {l c : Nat} {ba : Option Addr} {bc : Nat} (H : Blk h hb tHash (hashC (stF m).list a l c (m.length : Nat))) (ho : Own h tB 1 a l c (cells8 (rsF m)))
    (hs : SliceAt h ba bs.length (cells8 bs)) (hc : bs.length ≤ bc) (hal : ∀ b, blkOf ba b → h b ≠ none ∧ b ≠ hb ∧ ¬ blkOf a b) (hn : m.length + bs.length < 1152921504606846976) {K : Value → Hp → Prop}
    (hK : ∀ h' a' l' c', Keep (fun b => b = hb ∨ blkOf a b) h h' → (∀ b, h' b = none → h b = none) → Blk h' hb tHash (hashC (stF (m ++ bs)).list a' l' c' ((m ++ bs).length : Nat)) → Own h' tB 1 a' l' c' (cells8 (rsF (m ++ bs))) →
      (∀ b, blkOf a' b → blkOf a b ∨ h b = none) → K (.tuple #[]) h') : CallsH Try.prog sha_Hash_Write.id #[.pointer (some ⟨hb, 0, none⟩), .slice ba bs.length bc] h K := by
  apply sha_Hash_Write.calls
  unfold sha_Hash_Write.W
  refine ⟨_, H.cell' (0 + 73) (hashC_r rfl _ _ _ _).2, H.store (by rw [hashC_length rfl]; decide), ?_⟩
  have hH := H.put 73 [.int .i64 ((m ++ bs).length : Nat)]
  rw [hashC_set_n rfl] at hH
  have wn : IntKind.i64.wrap (((m.length : Nat) : Int) + Int.ofNat bs.length) = ((m ++ bs).length : Nat) := by
    show IntKind.i64.wrap (((m.length : Nat) : Int) + ((bs.length : Nat) : Int)) = _
    rw [wid (by omega) (by omega), List.length_append]; omega
  rw [wn]
  have kp : Keep (fun b => b = hb ∨ blkOf a b) h (h.put hb 73 [.int .i64 ((m ++ bs).length : Nat)]) := Keep.put _ _ _ _ (.inl rfl)
  refine ⟨fun a4 k5 k6 x mm => ∃ i, i ≤ bs.length ∧ k5 = bs.length - i ∧ k5 ≤ k6 ∧ mm = k5 ∧ SliceAt x a4 k5 (cells8 (bs.drop i)) ∧ (∀ b, blkOf a4 b → blkOf ba b) ∧
    Keep (fun b => b = hb ∨ blkOf a b) h x ∧ (∀ b, x b = none → h b = none) ∧ ∃ a' l' c', Blk x hb tHash (hashC (stF (m ++ bs.take i)).list a' l' c' ((m ++ bs).length : Nat)) ∧ Own x tB 1 a' l' c' (cells8 (rsF (m ++ bs.take i))) ∧ (∀ b, blkOf a' b → blkOf a b ∨ h b = none), ?_, ?_⟩
  · refine ⟨bs.length, 0, by omega, rfl, hc, rfl, hs.keep kp (fun b hb' hx => ?_), fun b hb' => hb', kp, fun b hb' => ?_, a, l, c, by simpa using hH, ?_, fun b hb' => .inl hb'⟩
    · rcases hx with hx | hx
      · exact (hal b hb').2.1 hx
      · exact (hal b hb').2.2 hx
    · by_cases e : b = hb
      · subst e; rw [hH.get] at hb'; cases hb'
      · rw [put_ne _ _ _ e] at hb'; exact hb'
    · have : Own (h.put hb 73 [.int .i64 ((m ++ bs).length : Nat)]) tB 1 a l c (cells8 (rsF m)) := ho.keep (S := fun b => b = hb) (Keep.put _ _ _ _ rfl) fun b hb' e => own_ne H ho hb' e
      simpa using this
  clear hs hH wn kp
  rintro a4 k5 k6 x mm ⟨i, hi, rfl, h56, rfl, hs, hab, kp, hdom, a', l', c', hB, hO, hnew⟩
  have hl' : l' = (m ++ bs.take i).length % 64 := by
    have := hO.1
    rw [cells8_length, rsF_length] at this; omega
  refine split_dec (fun h1 => ?_) (fun h1 => ?_)
  · have h1 : 0 < bs.length - i := by
      have : ((bs.length - i : Nat) : Int) > 0 := h1
      omega
    refine ⟨_, _, _, hB.cell' (0 + 72) (hashC_r rfl _ _ _ _).1, _, _, _, hB.cell' (0 + 72) (hashC_r rfl _ _ _ _).1, ?_⟩
    have hkk : (if ((bs.length - i : Nat) : Int) < IntKind.i64.wrap (64 - ((l' : Nat) : Int)) then Int.ofNat (bs.length - i) else IntKind.i64.wrap (64 - Int.ofNat l')) = ((min (bs.length - i) (64 - l') : Nat) : Int) := by
      have e : Int.ofNat l' = ((l' : Nat) : Int) := rfl
      have e2 : Int.ofNat (bs.length - i) = ((bs.length - i : Nat) : Int) := rfl
      rw [e, e2, wid (by omega) (by omega)]
      split <;> omega
    rw [hkk]
    generalize hk : min (bs.length - i) (64 - l') = kk
    have hk0 : 0 < kk := by omega
    have hkt : ((kk : Nat) : Int).toNat = kk := rfl
    rw [hkt]
    have htk : SliceAt x (slA k6 0 1 a4) (kk * 1) (cells8 ((bs.drop i).take kk)) := by
      have := hs.part (m := k6) (l := 0) (k := kk) (sz := 1) (by omega) (by omega)
      rw [Nat.mul_one]
      have e : cells8 ((bs.drop i).take kk) = ((cells8 (bs.drop i)).drop (0 * 1)).take kk := by
        rw [Nat.zero_mul, List.drop_zero]; unfold cells8; rw [List.map_take]
      rw [e]; exact this
    refine ⟨by omega, by show ((kk : Nat) : Int) ≤ ((k6 : Nat) : Int); omega, _, htk, ?_⟩
    have htake : bs.take i ++ (bs.drop i).take kk = bs.take (i + kk) := by rw [List.take_add]
    have hma : m ++ bs.take i ++ (bs.drop i).take kk = m ++ bs.take (i + kk) := by rw [List.append_assoc, htake]
    have htl : ((bs.drop i).take kk).length = kk := by simp; omega
    -- what the append leaves
    refine ⟨fun a'' c'' y => Own y tB 1 a'' (l' + kk) c'' (cells8 (rsF (m ++ bs.take i) ++ (bs.drop i).take kk)) ∧ Keep (blkOf a') x y ∧ (∀ b, blkOf a'' b → blkOf a' b ∨ x b = none) ∧ (∀ b, y b = none → x b = none), ?_, ?_⟩
    · rintro a'' c'' y ⟨hOy, hky, hny, hdy⟩
      have hBy : Blk y hb tHash (hashC (stF (m ++ bs.take i)).list a' l' c' ((m ++ bs).length : Nat)) := hB.keep hky fun e => own_ne hB hO e rfl
      refine ⟨hBy.store (by rw [hashC_length rfl]; decide), by omega, by show ((kk : Nat) : Int) ≤ ((bs.length - i : Nat) : Int); omega, ?_⟩
      have hBz := hBy.put 72 [.slice a'' (l' + kk) c'']
      rw [hashC_set_r rfl] at hBz
      have hOz : Own (y.put hb 72 [.slice a'' (l' + kk) c'']) tB 1 a'' (l' + kk) c'' (cells8 (rsF (m ++ bs.take i) ++ (bs.drop i).take kk)) := hOy.keep (S := fun b => b = hb) (Keep.put _ _ _ _ rfl) fun b hb' e => own_ne hBy hOy hb' e
      have kz : Keep (fun b => b = hb ∨ blkOf a b) h (y.put hb 72 [.slice a'' (l' + kk) c'']) := by
        refine fun b o e hnS => ?_
        rw [put_ne _ _ _ (fun e' => hnS (.inl e'))]
        refine hky b o (kp b o e hnS) fun e' => ?_
        rcases hnew b e' with e2 | e2
        · exact hnS (.inr e2)
        · rw [e2] at e; cases e
      have hnz : ∀ b, blkOf a'' b → blkOf a b ∨ h b = none := fun b e => by
        rcases hny b e with e2 | e2
        · exact hnew b e2
        · exact .inr (hdom b e2)
      have hdz : ∀ b, (y.put hb 72 [.slice a'' (l' + kk) c'']) b = none → h b = none := fun b e => by
        by_cases e' : b = hb
        · subst e'; rw [hBz.get] at e; cases e
        · rw [put_ne _ _ _ e'] at e; exact hdom b (hdy b e)
      have hs3 : SliceAt x (slA k6 kk 1 a4) (bs.length - i - kk) (cells8 (bs.drop (i + kk))) := by
        have := hs.part (m := k6) (l := kk) (k := bs.length - i - kk) (sz := 1) (by omega) (by omega)
        have e : cells8 (bs.drop (i + kk)) = ((cells8 (bs.drop i)).drop (kk * 1)).take (bs.length - i - kk) := by
          rw [Nat.mul_one]; unfold cells8
          rw [← List.map_drop, List.drop_drop, List.take_of_length_le (by simp; omega)]
        rw [e]; exact this
      have hab3 : ∀ b, blkOf (slA k6 kk 1 a4) b → blkOf ba b := by
        rintro b ⟨o, s, e⟩
        refine hab b ?_
        unfold slA at e
        split at e
        · exact ⟨o, s, e⟩
        · cases a4 with
          | none => cases e
          | some ad =>
            obtain ⟨b4, o4, s4⟩ := ad
            refine ⟨o4, s4, ?_⟩
            rw [Option.map_some] at e
            have e := Option.some.inj e
            have : b4 = b := by
              have := congrArg Addr.block e
              unfold Addr.add at this
              split at this <;> simpa using this
            rw [this]
      have hs4 : SliceAt (y.put hb 72 [.slice a'' (l' + kk) c'']) (slA k6 kk 1 a4) (bs.length - i - kk) (cells8 (bs.drop (i + kk))) := by
        refine SliceAt.keep (S := fun b => b = hb ∨ blkOf a' b) hs3 (fun b o e hn => ?_) fun b e hx => ?_
        · rw [put_ne _ _ _ (fun e' => hn (.inl e'))]
          exact hky b o e fun e' => hn (.inr e')
        · have hb3 := hal b (hab3 b e)
          rcases hx with hx | hx
          · exact hb3.2.1 hx
          · rcases hnew b hx with e2 | e2
            · exact hb3.2.2 e2
            · exact hb3.1 e2
      refine ⟨_, _, _, hBz.cell' (0 + 72) (hashC_r rfl _ _ _ _).1, split_eq (fun h2 => ?_) (fun h2 => ?_)⟩
      · -- the block is full
        have h2 : l' + kk = 64 := by
          have : ((l' + kk : Nat) : Int) = 64 := h2
          omega
        obtain ⟨f1, f2⟩ := fed_full (m := m ++ bs.take i) (t := (bs.drop i).take kk) (by rw [rsF_length, htl]; omega)
        rw [hma] at f1 f2
        have hcel : ∀ j, j < 8 → (y.put hb 72 [.slice a'' (l' + kk) c'']).cell hb (64 + j) = some (.int .u32 (u32 ((stF (m ++ bs.take i)).list.getD j 0))) := fun j hj => hBz.cell' _ (hashC_s rfl _ _ _ _ j hj)
        refine ⟨u32 (stF (m ++ bs.take i)).a, hcel 0 (by decide), u32 (stF (m ++ bs.take i)).b, hcel 1 (by decide), u32 (stF (m ++ bs.take i)).c, hcel 2 (by decide), u32 (stF (m ++ bs.take i)).d, hcel 3 (by decide), u32 (stF (m ++ bs.take i)).e, hcel 4 (by decide), u32 (stF (m ++ bs.take i)).f, hcel 5 (by decide), u32 (stF (m ++ bs.take i)).g, hcel 6 (by decide), u32 (stF (m ++ bs.take i)).h, hcel 7 (by decide), _, _, _, hBz.cell' (0 + 72) (hashC_r rfl _ _ _ _).1, ?_⟩
        have hsl := hOz.slice
        rw [h2, Nat.mul_one] at hsl
        have hcc : 64 ≤ c'' := by have := hOy.2.1; omega
        rw [h2]
        rw [h2] at hBz hOz kz hdz hs4
        · refine mix_spec (s := stF (m ++ bs.take i)) (block := rsF (m ++ bs.take i) ++ (bs.drop i).take kk) kW_length (by rw [List.length_append, rsF_length, htl, ← hl']; exact h2) hcc (hBz.cellsAt fun j hj => by rw [Nat.zero_add]; exact hashC_k _ _ _ _ _ (by rw [bigV_length, wI_length, kW_length] at hj; exact hj)) hsl fun h35 hs35 => ?_
          rw [← f1]
          have hB35 := hBz.sub hs35
          have hO35 := hOz.sub hs35
          refine ⟨_, _, _, _, _, _, _, _, rfl, hB35.store (by rw [hashC_length rfl]; exact by decide), ?_⟩
          have hB36 := hB35.put 64 (bigV .u32 (wI (stF (m ++ bs.take (i + kk))).list))
          rw [hashC_set8 rfl rfl] at hB36
          refine ⟨_, _, _, hB36.cell' (0 + 72) (hashC_r rfl _ _ _ _).1, by decide, by show (0 : Int) ≤ ((c'' : Nat) : Int); omega, hB36.store (by rw [hashC_length rfl]; decide), bs.length - i - kk, by omega, i + kk, by omega, by omega, by omega, rfl, ?_⟩
          have hB37 := hB36.put 72 [.slice (slA c'' 0 1 a'') 0 c'']
          rw [hashC_set_r rfl] at hB37
          have hsa : slA c'' 0 1 a'' = a'' := by
            unfold slA
            split
            · rfl
            · cases a'' with
              | none => rfl
              | some ad =>
                rcases hO35.2.2 with ⟨e1, _⟩ | ⟨b, _, e1, _, _⟩
                · cases e1
                · rw [e1, Option.map_some, add_mk]
          have kk2 : Keep (fun b => b = hb) h35 ((h35.put hb 64 (bigV .u32 (wI (stF (m ++ bs.take (i + kk))).list))).put hb 72 [.slice (slA c'' 0 1 a'') 0 c'']) := (Keep.put (fun b => b = hb) _ _ _ rfl).trans (Keep.put (fun b => b = hb) _ _ _ rfl)
          refine ⟨(hs4.sub hs35).keep kk2 fun b e e' => (hal b (hab3 b e)).2.1 e', hab3, ?_, ?_, a'', 0, c'', ?_, ?_, hnz⟩
          · exact fun b o e hnS => kk2 b o (hs35 b o (kz b o e hnS)) fun e' => hnS (.inl e')
          · intro b e
            by_cases e' : b = hb
            · subst e'
              have := hB37.get
              rw [show ((h35.put b 64 (bigV .u32 (wI (stF (m ++ bs.take (i + kk))).list))).put b 72 [.slice (slA c'' 0 1 a'') 0 c'']) b = none from e] at this
              cases this
            · have e2 : h35 b = none := by
                have : ((h35.put hb 64 (bigV .u32 (wI (stF (m ++ bs.take (i + kk))).list))).put hb 72 [.slice (slA c'' 0 1 a'') 0 c'']) b = none := e
                rw [put_ne _ _ _ e', put_ne _ _ _ e'] at this; exact this
              exact hdz b (hs35.none e2)
          · rw [hsa] at hB37 ⊢; exact hB37
          · rw [f2]
            have := (hO35.take (k := 0) (by omega)).keep kk2 fun b hb' e => own_ne hB35 hO35 hb' e
            rw [Nat.zero_mul, List.take_zero] at this
            exact this
      · have h2 : l' + kk ≠ 64 := fun e => h2 (by rw [e]; rfl)
        obtain ⟨f1, f2⟩ := fed_less (m := m ++ bs.take i) (t := (bs.drop i).take kk) (by rw [rsF_length, htl]; omega)
        rw [hma] at f1 f2
        rw [← f1] at hBz
        rw [← f2] at hOz
        exact ⟨bs.length - i - kk, by omega, i + kk, by omega, by omega, by omega, rfl, hs4, hab3, kz, hdz, a'', l' + kk, c'', hBz, hOz, hnz⟩
    · have := append_own (P := Try.prog) (J := fun a'' c'' y => Own y tB 1 a'' (l' + kk) c'' (cells8 (rsF (m ++ bs.take i) ++ (bs.drop i).take kk)) ∧ Keep (blkOf a') x y ∧ (∀ b, blkOf a'' b → blkOf a' b ∨ x b = none) ∧ (∀ b, y b = none → x b = none)) appT8 hO (ys := cells8 ((bs.drop i).take kk)) (n := kk) (by rw [cells8_length, htl]; omega) (cells8_plain _) (by omega) (fun a'' c'' y g1 g2 g3 g4 => ⟨by rw [cells8_append]; exact g1, g2, g3, g4⟩)
      exact this
  · have hi : i = bs.length := by
      have : ¬ Int.ofNat (bs.length - i) > 0 := h1
      have e : Int.ofNat (bs.length - i) = ((bs.length - i : Nat) : Int) := rfl
      omega
    subst hi
    rw [List.take_length] at hB hO
    exact hK x a' l' c' kp hdom hB hO hnew
end Go.Proofs.Ytpokejaglmkphaa
