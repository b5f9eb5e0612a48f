/- What the plain table's functions make of entries in a list. Conditions: the entries lie in memory as they are named; fewer than 2^32 of them. -/
import Derived.Test.YtpokejaglmkphaaFC
import Derived.Test.YtpokejaglmkphaaKV
import Derived.KernelRfl
namespace Go.Proofs.Ytpokejaglmkphaa
open Go.Gx
set_option maxRecDepth 100000
set_option linter.unusedVariables false

abbrev tPair : TypeId := 63
abbrev tTable : TypeId := 30
theorem appTP : AppT Try.prog tPair 2 32 := AppT.of (by kernel_rfl)
abbrev noB : ByteArray := bytesL []

theorem kv_cell {h : Hp} {a : Option Addr} {L : List KV} (H : SliceAt h a (L.length * 2) (kvCells L)) {i : Nat} {p : KV} (hp : L[i]? = some p) :
    ∃ b o, a = some ⟨b, o, none⟩ ∧ h.cell b (o + i * 2) = some (.string p.1) ∧ h.cell b (o + i * 2 + 1) = some (.string p.2) := by
  have hi := (List.getElem?_eq_some_iff.1 hp).1
  obtain ⟨c1, c2⟩ := kvCells_get L i p hp
  obtain ⟨b, o, e, v, hv, hc⟩ := H.cell (i := i * 2) (by omega)
  obtain ⟨b', o', e', v', hv', hc'⟩ := H.cell (i := i * 2 + 1) (by omega)
  rw [e] at e'
  cases e'
  rw [c1] at hv; cases hv
  rw [c2] at hv'; cases hv'
  exact ⟨b, o, e, hc, by rw [Nat.add_assoc]; exact hc'⟩
theorem kvFind_spec {L : List KV} {a : Option Addr} {c : Nat} {h : Hp} (H : SliceAt h a (L.length * 2) (kvCells L)) (hL : L.length < 4294967296) (k : ByteArray) {K : Value → Hp → Prop}
    (hK : K (.tuple #[.int .i64 (kvAt k L : Nat), .bool (kvIs k L)]) h) : CallsH Try.prog ref08_Find.id #[.slice a L.length c, .string k] h K := by
  apply ref08_Find.calls
  unfold ref08_Find.W
  refine ⟨fun n x m => x = h ∧ ∃ i : Nat, n = (i : Int) ∧ i ≤ kvAt k L ∧ m = L.length - i, ⟨_, rfl, 0, rfl, by omega, rfl⟩, ?_⟩
  rintro n x m ⟨rfl, i, rfl, hi, rfl⟩
  have hle := kvAt_le k L
  refine split_dec (fun h1 => ?_) (fun h1 => ?_)
  · have h1' : i < L.length := by have : (i : Int) < ((L.length : Nat) : Int) := h1; omega
    have hp : L[i]? = some L[i] := List.getElem?_eq_getElem h1'
    obtain ⟨b, o, e, c1, c2⟩ := kv_cell H hp
    have ei : ((i : Nat) : Int).toNat = i := rfl
    rw [ei]
    refine ⟨by omega, h1, b, o, e, L[i].1, c1, ?_⟩
    rw [bltS_val]
    refine split_not (fun h2 => ⟨by omega, h1, b, o, e, L[i].1, c1, ?_⟩) (fun h2 => ?_)
    · have : i = kvAt k L := by
        by_cases hc : i < kvAt k L
        · rw [kvAt_before k L i _ hp hc] at h2; cases h2
        · omega
      rw [beqS_val]
      have e2 : decide (L[i].1 = k) = kvIs k L := by
        unfold kvIs
        rw [← this, hp]
      rw [e2, this]
      exact hK
    · refine ⟨L.length - (i + 1), by omega, rfl, i + 1, by rw [wid (by omega) (by omega)]; omega, ?_, rfl⟩
      by_cases hc : i = kvAt k L
      · have := kvAt_at k L L[i] (by rw [← hc]; exact hp)
        rw [this] at h2; cases h2
      · omega
  · have h1 : ¬ i < L.length := by
      intro hc
      apply h1
      show (i : Int) < ((L.length : Nat) : Int)
      omega
    have e : kvAt k L = L.length := by omega
    have e2 : kvIs k L = false := by
      unfold kvIs
      rw [e, List.getElem?_eq_none (Nat.le_refl _)]
    rw [e, e2] at hK
    exact hK
theorem kvGet_spec {L : List KV} {a : Option Addr} {c : Nat} {h : Hp} (H : SliceAt h a (L.length * 2) (kvCells L)) (hL : L.length < 4294967296) (k : ByteArray) {K : Value → Hp → Prop}
    (hK : K (.tuple #[.string ((kvGet k L).getD noB), .bool (kvIs k L)]) h) : CallsH Try.prog ref08_Get.id #[.slice a L.length c, .string k] h K := by
  apply ref08_Get.calls
  unfold ref08_Get.W
  refine kvFind_spec H hL k ⟨_, _, rfl, split_not (fun h1 => ?_) (fun h1 => ?_)⟩
  · have : kvGet k L = none := by unfold kvGet; rw [h1]; rfl
    rw [this, h1] at hK; exact hK
  · obtain ⟨w, _, hp⟩ := kvIs_split h1
    obtain ⟨b, o, e, c1, c2⟩ := kv_cell H hp
    have hlt := kvAt_lt h1
    refine ⟨by omega, by show ((kvAt k L : Nat) : Int) < ((L.length : Nat) : Int); omega, b, o, e, w, c2, ?_⟩
    have : kvGet k L = some w := by unfold kvGet; rw [if_pos h1, hp]; rfl
    rw [this, h1] at hK; exact hK
theorem kv_part {h : Hp} {a : Option Addr} {L : List KV} (H : SliceAt h a (L.length * 2) (kvCells L)) {c i n : Nat} (hc : L.length ≤ c) (hi : i + n ≤ L.length) : SliceAt h (slA c i 2 a) (n * 2) (kvCells ((L.drop i).take n)) := by
  have := H.part (m := c) (l := i) (k := n * 2) (sz := 2) (by omega) (by omega)
  rw [kvCells_drop, kvCells_take] at this
  exact this
theorem kvPut_len (k v : ByteArray) (L : List KV) : (kvPut k v L).length = kvAt k L + 1 + (L.length - (if kvIs k L then kvAt k L + 1 else kvAt k L)) := by
  unfold kvPut
  have := kvAt_le k L
  rw [List.length_append, List.length_take, List.length_cons, List.length_drop]; omega
/-- A list of entries that was made behind the heap h. -/
def NewKV (h h' : Hp) (a : Option Addr) (c : Nat) (L : List KV) : Prop := Sub h h' ∧ (∀ b, blkOf a b → h b = none) ∧ Own h' tPair 2 a L.length c (kvCells L)
theorem kvPut_spec {L : List KV} {a : Option Addr} {c : Nat} {h : Hp} (H : SliceAt h a (L.length * 2) (kvCells L)) (hc : L.length ≤ c) (hL : L.length < 4294967296) (k v : ByteArray) {K : Value → Hp → Prop}
    (hK : ∀ h' a' c', NewKV h h' a' c' (kvPut k v L) → K (.slice a' (kvPut k v L).length c') h') : CallsH Try.prog ref08_Put.id #[.slice a L.length c, .string k, .string v] h K := by
  apply ref08_Put.calls
  unfold ref08_Put.W
  have hle := kvAt_le k L
  have ei : ((kvAt k L : Nat) : Int).toNat = kvAt k L := rfl
  refine kvFind_spec H hL k ⟨_, _, rfl, by omega, by show ((kvAt k L : Nat) : Int) ≤ ((c : Nat) : Int); omega, kvCells (L.take (kvAt k L)), ?_, ?_⟩
  · have := kv_part H (c := c) (i := 0) (n := kvAt k L) hc (by omega)
    rw [List.drop_zero] at this; exact this
  have hl1 : (L.take (kvAt k L)).length = kvAt k L := by rw [List.length_take]; omega
  rw [ei]
  refine ⟨fun a' c' x => Sub h x ∧ (∀ b, blkOf a' b → h b = none) ∧ Own x tPair 2 a' (0 + kvAt k L) c' ([] ++ kvCells (L.take (kvAt k L))), ?_,
    append_new appTP (Sub.refl h) (by rintro b ⟨o, s, e⟩; cases e) (Own.nil _ _ _) (by rw [kvCells_length, hl1]) (kvCells_plain _) (by omega) fun a' c' x g1 g2 g3 => ⟨g1, g2, g3⟩⟩
  rintro a1 c1 x1 ⟨hs1, hf1, ho1⟩ k10 hk10
  refine ⟨kvCells [(k, v)], (Blk.new _ _ _ (kvCells [(k, v)])).slice rfl, fun a' c' x => Sub h x ∧ (∀ b, blkOf a' b → h b = none) ∧ Own x tPair 2 a' (0 + kvAt k L + 1) c' ([] ++ kvCells (L.take (kvAt k L)) ++ kvCells [(k, v)]), ?_,
    append_new appTP (hs1.trans (Sub.upd hk10 _)) hf1 (ho1.sub (Sub.upd hk10 _)) rfl (kvCells_plain _) (by omega) fun a' c' x g1 g2 g3 => ⟨g1, g2, g3⟩⟩
  rintro a2 c2 x2 ⟨hs2, hf2, ho2⟩
  have hlen := kvPut_len k v L
  have fin : ∀ (i : Nat), i ≤ L.length → i = (if kvIs k L then kvAt k L + 1 else kvAt k L) → ∀ (n : Int), n = (i : Int) → (0 ≤ n ∧ n ≤ Int.ofNat L.length ∧ ∃ xs, SliceAt x2 (slA c n.toNat 2 a) ((L.length - n.toNat) * 2) xs ∧ ∃ J : Option Addr → Nat → Hp → Prop, (∀ a' c' x, J a' c' x → K (.slice a' (0 + kvAt k L + 1 + (L.length - n.toNat)) c') x) ∧ appendC Try.prog tPair a2 (0 + kvAt k L + 1) c2 x2 xs (L.length - n.toNat) J) := by
    intro i hi hie n hn
    subst hn
    have en : ((i : Nat) : Int).toNat = i := rfl
    rw [en]
    refine ⟨by omega, by show ((i : Nat) : Int) ≤ ((L.length : Nat) : Int); omega, kvCells (L.drop i), ?_, fun a' c' x => NewKV h x a' c' (kvPut k v L), ?_, ?_⟩
    · have := kv_part (H.sub hs2) (c := c) (i := i) (n := L.length - i) hc (by omega)
      rw [List.take_of_length_le (by simp)] at this
      exact this
    · intro a' c' x hx
      have e : 0 + kvAt k L + 1 + (L.length - i) = (kvPut k v L).length := by rw [hlen, ← hie]; omega
      rw [e]
      exact hK x a' c' hx
    · refine append_new appTP hs2 hf2 ho2 (by rw [kvCells_length, List.length_drop]) (kvCells_plain _) (by omega) fun a' c' x g1 g2 g3 => ⟨g1, g2, ?_⟩
      have e : 0 + kvAt k L + 1 + (L.length - i) = (kvPut k v L).length := by rw [hlen, ← hie]; omega
      rw [e] at g3
      have e2 : [] ++ kvCells (L.take (kvAt k L)) ++ kvCells [(k, v)] ++ kvCells (L.drop i) = kvCells (kvPut k v L) := by
        unfold kvPut
        rw [← hie, List.nil_append, ← kvCells_append, ← kvCells_append, List.append_assoc]; rfl
      rw [e2] at g3
      exact g3
  refine split_cond (fun h1 => ?_) (fun h1 => ?_)
  · have hlt := kvAt_lt h1
    exact fin (kvAt k L + 1) (by omega) (by rw [if_pos h1]) _ (by rw [wid (by omega) (by omega)]; omega)
  · exact fin (kvAt k L) (by omega) (by rw [if_neg (by rw [h1]; decide)]) _ rfl
theorem kvDrop_spec {L : List KV} {a : Option Addr} {c : Nat} {h : Hp} (H : SliceAt h a (L.length * 2) (kvCells L)) (hc : L.length ≤ c) (hL : L.length < 4294967296) (k : ByteArray) {K : Value → Hp → Prop}
    (h1 : kvIs k L = false → K (.tuple #[.slice a L.length c, .bool false]) h)
    (h2 : kvIs k L = true → ∀ h' a' c', NewKV h h' a' c' (kvDrop k L) → K (.tuple #[.slice a' (kvDrop k L).length c', .bool true]) h') : CallsH Try.prog ref08_Drop.id #[.slice a L.length c, .string k] h K := by
  apply ref08_Drop.calls
  unfold ref08_Drop.W
  have hle := kvAt_le k L
  have ei : ((kvAt k L : Nat) : Int).toNat = kvAt k L := rfl
  refine kvFind_spec H hL k ⟨_, _, rfl, split_not (fun g => h1 g) (fun g => ?_)⟩
  have hlt := kvAt_lt g
  have hl1 : (L.take (kvAt k L)).length = kvAt k L := by rw [List.length_take]; omega
  have w1 : IntKind.i64.wrap (((kvAt k L : Nat) : Int) + 1) = ((kvAt k L + 1 : Nat) : Int) := by rw [wid (by omega) (by omega)]; omega
  have ei1 : ((kvAt k L + 1 : Nat) : Int).toNat = kvAt k L + 1 := rfl
  rw [ei, w1, ei1]
  refine ⟨by omega, by show ((kvAt k L : Nat) : Int) ≤ ((c : Nat) : Int); omega, kvCells (L.take (kvAt k L)), ?_, ?_⟩
  · have := kv_part H (c := c) (i := 0) (n := kvAt k L) hc (by omega)
    rw [List.drop_zero] at this; exact this
  refine ⟨fun a' c' x => Sub h x ∧ (∀ b, blkOf a' b → h b = none) ∧ Own x tPair 2 a' (0 + kvAt k L) c' ([] ++ kvCells (L.take (kvAt k L))), ?_,
    append_new appTP (Sub.refl h) (by rintro b ⟨o, s, e⟩; cases e) (Own.nil _ _ _) (by rw [kvCells_length, hl1]) (kvCells_plain _) (by omega) fun a' c' x g1 g2 g3 => ⟨g1, g2, g3⟩⟩
  rintro a1 c1 x1 ⟨hs1, hf1, ho1⟩
  have hd : kvDrop k L = L.take (kvAt k L) ++ L.drop (kvAt k L + 1) := by unfold kvDrop; rw [if_pos g]
  have e : 0 + kvAt k L + (L.length - (kvAt k L + 1)) = (kvDrop k L).length := by rw [hd, List.length_append, List.length_drop, hl1]; omega
  refine ⟨by omega, by show ((kvAt k L + 1 : Nat) : Int) ≤ ((L.length : Nat) : Int); omega, kvCells (L.drop (kvAt k L + 1)), ?_, fun a' c' x => NewKV h x a' c' (kvDrop k L), ?_, ?_⟩
  · have := kv_part (H.sub hs1) (c := c) (i := kvAt k L + 1) (n := L.length - (kvAt k L + 1)) hc (by omega)
    rw [List.take_of_length_le (by simp)] at this
    exact this
  · intro a' c' x hx
    rw [e]
    exact h2 g x a' c' hx
  · refine append_new appTP hs1 hf1 ho1 (by rw [kvCells_length, List.length_drop]) (kvCells_plain _) (by omega) fun a' c' x g1 g2 g3 => ⟨g1, g2, ?_⟩
    rw [e] at g3
    have e2 : [] ++ kvCells (L.take (kvAt k L)) ++ kvCells (L.drop (kvAt k L + 1)) = kvCells (kvDrop k L) := by
      rw [hd, List.nil_append, ← kvCells_append]
    rw [e2] at g3
    exact g3
theorem kvRange_spec {L : List KV} {a : Option Addr} {c : Nat} {h : Hp} (H : SliceAt h a (L.length * 2) (kvCells L)) (hL : L.length < 4294967296) (k1 k2 : ByteArray) (most : Nat) {K : Value → Hp → Prop}
    (hK : ∀ h' a' c', NewKV h h' a' c' (kvRange k1 k2 most L) → K (.slice a' (kvRange k1 k2 most L).length c') h') : CallsH Try.prog ref08_Range.id #[.slice a L.length c, .string k1, .string k2, .int .i64 most] h K := by
  apply ref08_Range.calls
  unfold ref08_Range.W
  refine ⟨fun a' l' c' n x m => ∃ i : Nat, n = (i : Int) ∧ i ≤ L.length ∧ m = L.length - i ∧ l' = (kvRange k1 k2 most (L.take i)).length ∧ NewKV h x a' c' (kvRange k1 k2 most (L.take i)),
    ⟨_, 0, rfl, by omega, rfl, by simp [kvRange], Sub.refl _, (by rintro b ⟨o, s, e⟩; cases e), ?_⟩, ?_⟩
  · have : kvRange k1 k2 most (L.take 0) = [] := by simp [kvRange]
    rw [this]; exact Own.nil _ _ _
  rintro a' l' c' n x m ⟨i, rfl, hi, rfl, rfl, hs, hf, ho⟩
  refine split_dec (fun g1 => ?_) (fun g1 => ?_)
  · have g1' : i < L.length := by have : (i : Int) < ((L.length : Nat) : Int) := g1; omega
    have hp : L[i]? = some L[i] := List.getElem?_eq_getElem g1'
    obtain ⟨b, o, e, d1, d2⟩ := kv_cell (H.sub hs) hp
    have ei : ((i : Nat) : Int).toNat = i := rfl
    have w1 : IntKind.i64.wrap ((i : Int) + 1) = ((i + 1 : Nat) : Int) := by rw [wid (by omega) (by omega)]; omega
    have ht : L.take (i + 1) = L.take i ++ [L[i]] := by rw [List.take_add_one, hp]; rfl
    have hll : (kvRange k1 k2 most (L.take i)).length ≤ i := by
      unfold kvRange
      rw [List.length_take]
      have := List.length_filter_le (kvIn k1 k2) (L.take i)
      rw [List.length_take] at this; omega
    have stay : (kvIn k1 k2 L[i] = false ∨ most ≤ (kvRange k1 k2 most (L.take i)).length) → kvRange k1 k2 most (L.take (i + 1)) = kvRange k1 k2 most (L.take i) := by
      intro hh
      unfold kvRange at hh ⊢
      rw [ht, List.filter_append]
      rcases hh with hh | hh
      · rw [List.filter_cons_of_neg (by rw [hh]; decide), List.filter_nil, List.append_nil]
      · rw [List.length_take] at hh
        rw [List.take_append_of_le_length (by omega)]
    have go : kvIn k1 k2 L[i] = true → (kvRange k1 k2 most (L.take i)).length < most → kvRange k1 k2 most (L.take (i + 1)) = kvRange k1 k2 most (L.take i) ++ [L[i]] := by
      intro hh hm
      unfold kvRange at hm ⊢
      rw [ht, List.filter_append, List.filter_cons_of_pos hh, List.filter_nil]
      rw [List.length_take] at hm
      rw [List.take_of_length_le (l := (L.take i).filter (kvIn k1 k2) ++ [L[i]]) (by rw [List.length_append, List.length_cons, List.length_nil]; omega), List.take_of_length_le (l := (L.take i).filter (kvIn k1 k2)) (by omega)]
    rw [ei, w1]
    have skip : (kvIn k1 k2 L[i] = false ∨ most ≤ (kvRange k1 k2 most (L.take i)).length) → ∃ k, k < L.length - i ∧ (∃ j : Nat, ((i + 1 : Nat) : Int) = (j : Int) ∧ j ≤ L.length ∧ k = L.length - j ∧ (kvRange k1 k2 most (L.take i)).length = (kvRange k1 k2 most (L.take j)).length ∧ NewKV h x a' c' (kvRange k1 k2 most (L.take j))) := by
      intro hh
      refine ⟨_, ?_, i + 1, rfl, by omega, rfl, by rw [stay hh], by rw [stay hh]; exact ⟨hs, hf, ho⟩⟩
      omega
    refine ⟨by omega, g1, b, o, e, _, d1, ?_⟩
    rw [bltS_val]
    refine split_not (fun g2 => ⟨by omega, g1, b, o, e, _, d1, ?_⟩) (fun g2 => skip (.inl (by unfold kvIn; rw [g2]; rfl)))
    rw [bltS_val, beqS_val]
    refine split_cond (fun g3 => ?_) (fun g3 => skip (.inl (by unfold kvIn; rw [g2, g3]; rfl)))
    refine split_dec (fun g4 => ?_) (fun g4 => skip (.inr ?_))
    · have g4 : (kvRange k1 k2 most (L.take i)).length < most := by
        have : (((kvRange k1 k2 most (L.take i)).length : Nat) : Int) < (most : Int) := g4
        omega
      refine ⟨by omega, g1, b, o, e, _, d1, _, d2, fun k hk => ?_⟩
      have hgo := go (by unfold kvIn; rw [g2, g3]; rfl) g4
      refine ⟨kvCells [L[i]], (Blk.new _ _ _ (kvCells [L[i]])).slice rfl, fun a2 c2 y => NewKV h y a2 c2 (kvRange k1 k2 most (L.take (i + 1))), ?_, ?_⟩
      · intro a2 c2 y hy
        refine ⟨_, ?_, i + 1, rfl, by omega, rfl, by rw [hgo, List.length_append]; rfl, hy⟩
        omega
      · refine append_new appTP (hs.trans (Sub.upd hk _)) hf (ho.sub (Sub.upd hk _)) rfl (kvCells_plain _) (by omega) fun a2 c2 y u1 u2 u3 => ⟨u1, u2, ?_⟩
        rw [hgo, List.length_append, kvCells_append]
        exact u3
    · have : ¬ (((kvRange k1 k2 most (L.take i)).length : Nat) : Int) < (most : Int) := g4
      omega
  · have hie : i = L.length := by
      have : ¬ (i : Int) < ((L.length : Nat) : Int) := g1
      omega
    subst hie
    rw [List.take_length] at ho ⊢
    exact hK x a' c' ⟨hs, hf, ho⟩

/-! ### the table -/
def TableAt (h : Hp) (tb : Nat) (full : Int) (L : List KV) : Prop :=
  ∃ a c, Blk h tb tTable [.slice a L.length c, .int .i64 full] ∧ Own h tPair 2 a L.length c (kvCells L)
theorem own_blk {h : Hp} {e : TypeId} {sz : Nat} {a : Option Addr} {l c : Nat} {xs : List Value} (H : Own h e sz a l c xs) {b : Nat} (hb : blkOf a b) : ∃ vs, Blk h b e vs := by
  obtain ⟨o, s, hb⟩ := hb
  rcases H.2.2 with ⟨e1, _⟩ | ⟨b', rest, e1, h3, h4⟩
  · rw [e1] at hb; cases hb
  · rw [e1] at hb; cases hb
    exact ⟨_, h3⟩
theorem TableAt.ne {h : Hp} {tb : Nat} {full : Int} {a : Option Addr} {l c : Nat} {xs : List Value} (h1 : Blk h tb tTable [.slice a l c, .int .i64 full]) (o : Own h tPair 2 a l c xs) {b : Nat} (hb : blkOf a b) : b ≠ tb := fun e => by
  obtain ⟨vs, hv⟩ := own_blk o hb
  rw [e] at hv
  exact absurd (hv.inj h1).1 (by decide)
/-- A table stands where none of its blocks' types is written. -/
theorem TableAt.keep {S : Nat → Prop} {h h' : Hp} {tb : Nat} {full : Int} {L : List KV} (H : TableAt h tb full L) (s : Keep S h h') (hS : ∀ c t vs, S c → Blk h c t vs → t ≠ tTable ∧ t ≠ tPair) : TableAt h' tb full L := by
  obtain ⟨a, c, h1, h2⟩ := H
  exact ⟨a, c, h1.keep s fun hc => (hS _ _ _ hc h1).1 rfl, h2.keep s fun b hb hc => by obtain ⟨vs, hv⟩ := own_blk h2 hb; exact (hS _ _ _ hc hv).2 rfl⟩
theorem TableAt.sub {h h' : Hp} {tb : Nat} {full : Int} {L : List KV} (H : TableAt h tb full L) (s : Sub h h') : TableAt h' tb full L := by
  obtain ⟨a, c, h1, h2⟩ := H
  exact ⟨a, c, h1.sub s, h2.sub s⟩
theorem tableGet_spec {h : Hp} {tb : Nat} {full : Int} {L : List KV} (H : TableAt h tb full L) (hL : L.length < 4294967296) (k : ByteArray) {K : Value → Hp → Prop}
    (hK : K (.tuple #[.string ((kvGet k L).getD noB), .bool (kvIs k L)]) h) : CallsH Try.prog law09_table_Get.id #[.pointer (some ⟨tb, 0, none⟩), .string k] h K := by
  obtain ⟨a, c, h1, ho⟩ := H
  have h2 := ho.2.1
  have h3 := ho.slice
  apply law09_table_Get.calls
  unfold law09_table_Get.W
  exact ⟨_, _, _, h1.cell' 0 rfl, kvGet_spec h3 hL k ⟨_, _, rfl, hK⟩⟩
theorem tableRange_spec {h : Hp} {tb : Nat} {full : Int} {L : List KV} (H : TableAt h tb full L) (hL : L.length < 4294967296) (k1 k2 : ByteArray) (most : Nat) {K : Value → Hp → Prop}
    (hK : ∀ h' a' c', NewKV h h' a' c' (kvRange k1 k2 most L) → K (.slice a' (kvRange k1 k2 most L).length c') h') : CallsH Try.prog law09_table_Range.id #[.pointer (some ⟨tb, 0, none⟩), .string k1, .string k2, .int .i64 most] h K := by
  obtain ⟨a, c, h1, ho⟩ := H
  have h2 := ho.2.1
  have h3 := ho.slice
  apply law09_table_Range.calls
  unfold law09_table_Range.W
  exact ⟨_, _, _, h1.cell' 0 rfl, kvRange_spec h3 hL k1 k2 most fun h' a' c' g => ⟨_, _, _, rfl, hK h' a' c' g⟩⟩
/-- The table's list is another one now. -/
theorem table_set {h h' : Hp} {tb : Nat} {full : Int} {a a' : Option Addr} {l c c' : Nat} {L : List KV} (h1 : Blk h tb tTable [.slice a l c, .int .i64 full]) (N : NewKV h h' a' c' L) :
    StoreOk h' tb 0 1 ∧ TableAt (h'.put tb 0 [.slice a' L.length c']) tb full L ∧ Keep (fun b => b = tb) h (h'.put tb 0 [.slice a' L.length c']) := by
  obtain ⟨hs, hf, ho⟩ := N
  have hb := h1.sub hs
  have hp := hb.put 0 [.slice a' L.length c']
  refine ⟨hb.store (by simp), ⟨a', c', hp, ?_⟩, ?_⟩
  · refine ho.keep (S := fun b => b = tb) (Keep.put _ _ _ _ rfl) fun b hb' e => ?_
    rw [e] at hb'
    have := hf tb hb'
    rw [h1.get] at this; cases this
  · exact (hs.keep _).trans (Keep.put _ _ _ _ rfl)
theorem tablePut_spec {h : Hp} {tb : Nat} {full : Int} {L : List KV} (H : TableAt h tb full L) (hL : L.length < 4294967296) (k v : ByteArray) {K : Value → Hp → Prop}
    (h1 : kvIs k L = false → 0 ≤ full → full ≤ (L.length : Nat) → K (.int .i64 5) h)
    (h2 : (kvIs k L = true ∨ full < 0 ∨ ((L.length : Nat) : Int) < full) → ∀ h', Keep (fun b => b = tb) h h' → TableAt h' tb full (kvPut k v L) → K (.int .i64 0) h') :
    CallsH Try.prog law09_table_Put.id #[.pointer (some ⟨tb, 0, none⟩), .string k, .string v] h K := by
  obtain ⟨a, c, g1, ho⟩ := H
  have g2 := ho.2.1
  have g3 := ho.slice
  apply law09_table_Put.calls
  unfold law09_table_Put.W
  refine ⟨_, _, _, g1.cell' 0 rfl, kvGet_spec g3 hL k ⟨_, _, rfl, fun x => x = h ∧ (kvIs k L = true ∨ full < 0 ∨ ((L.length : Nat) : Int) < full), ?_, ?_⟩⟩
  · rintro x ⟨rfl, hx⟩
    refine ⟨_, _, _, g1.cell' 0 rfl, kvPut_spec g3 g2 hL k v fun h' a' c' N => ⟨_, _, _, rfl, ?_⟩⟩
    obtain ⟨s1, s2, s3⟩ := table_set g1 N
    exact ⟨s1, h2 hx _ s3 s2⟩
  · refine split_not (fun e1 => ⟨_, g1.cell' 1 rfl, split_dec (fun e2 => ⟨_, _, _, g1.cell' 0 rfl, _, g1.cell' 1 rfl, split_dec (fun e3 => h1 e1 e2 e3) (fun e3 => ⟨rfl, .inr (.inr ?_)⟩)⟩) (fun e2 => ⟨rfl, .inr (.inl (by omega))⟩)⟩) (fun e1 => ⟨rfl, .inl e1⟩)
    have : ¬ ((L.length : Nat) : Int) ≥ full := e3
    omega
theorem tableDrop_spec {h : Hp} {tb : Nat} {full : Int} {L : List KV} (H : TableAt h tb full L) (hL : L.length < 4294967296) (k : ByteArray) {K : Value → Hp → Prop}
    (hK : ∀ h', Keep (fun b => b = tb) h h' → TableAt h' tb full (kvDrop k L) → K (.bool (kvIs k L)) h') :
    CallsH Try.prog law09_table_Drop.id #[.pointer (some ⟨tb, 0, none⟩), .string k] h K := by
  obtain ⟨a, c, g1, ho⟩ := H
  have g2 := ho.2.1
  have g3 := ho.slice
  apply law09_table_Drop.calls
  unfold law09_table_Drop.W
  refine ⟨_, _, _, g1.cell' 0 rfl, kvDrop_spec g3 g2 hL k (fun e => ⟨_, _, _, _, rfl, g1.store (by simp), ?_⟩) (fun e h' a' c' N => ⟨_, _, _, _, rfl, ?_⟩)⟩
  · have hd : kvDrop k L = L := by unfold kvDrop; rw [e]; rfl
    have hp := g1.put 0 [.slice a L.length c]
    rw [e, hd] at hK
    refine hK _ (Keep.put _ _ _ _ rfl) ⟨a, c, hp, ?_⟩
    exact ho.keep (S := fun b => b = tb) (Keep.put _ _ _ _ rfl) fun b hb' e => TableAt.ne g1 ho hb' e
  · obtain ⟨s1, s2, s3⟩ := table_set g1 N
    rw [e] at hK
    exact ⟨s1, hK _ s3 s2⟩
end Go.Proofs.Ytpokejaglmkphaa
