/- Heaps as partial maps: blocks that are known whole, slices that are owned, what an append leaves; tests. Conditions: those that each lemma names. -/
import Derived.Test.YtagglohkipioiaaGreatGxSB
namespace Go.Gx

/-! ### tests -/
theorem split_cond {b : Bool} {A B : Prop} (h1 : b = true → A) (h2 : b = false → B) : cond b A B := by
  cases b
  · exact h2 rfl
  · exact h1 rfl
theorem split_hb {b : Bool} {A B : Prop} (h1 : b = true → A) (h2 : b = false → B) : cond (hb b) A B := by
  rw [hb_eq]; exact split_cond h1 h2
theorem split_dec {p : Prop} [Decidable p] {A B : Prop} (h1 : p → A) (h2 : ¬ p → B) : cond (hb (decide p)) A B :=
  split_hb (fun h => h1 (of_decide_eq_true h)) (fun h => h2 (of_decide_eq_false h))
theorem split_eq {a b : Int} {A B : Prop} (h1 : a = b → A) (h2 : a ≠ b → B) : cond (hb (a == b)) A B :=
  split_hb (fun h => h1 (by simpa using h)) (fun h => h2 (by simpa using h))
theorem split_ne {a b : Int} {A B : Prop} (h1 : a ≠ b → A) (h2 : a = b → B) : cond (hb (a != b)) A B :=
  split_hb (fun h => h1 (by simpa using h)) (fun h => h2 (by simpa using h))
theorem bytes_ext {s t : ByteArray} (h : s.data.toList = t.data.toList) : s = t := by
  cases s; cases t; congr 1; exact Array.ext' h
theorem toList_eq_data (s : ByteArray) : s.toList = s.data.toList := by
  have key : ∀ (n i : Nat) (r : List UInt8), s.size - i = n → ByteArray.toList.loop s i r = r.reverse ++ s.data.toList.drop i := by
    intro n
    induction n with
    | zero =>
      intro i r h
      rw [ByteArray.toList.loop.eq_def, if_neg (by omega)]
      have : s.data.toList.drop i = [] := List.drop_eq_nil_of_le (by show s.data.toList.length ≤ i; rw [Array.length_toList]; show s.size ≤ i; omega)
      rw [this, List.append_nil]
    | succ n ih =>
      intro i r h
      rw [ByteArray.toList.loop.eq_def, if_pos (by omega)]
      have hi : i < s.data.toList.length := by rw [Array.length_toList]; show i < s.size; omega
      rw [ih (i + 1) (s.get! i :: r) (by omega), List.drop_eq_getElem_cons hi]
      have e : s.get! i = s.data.toList[i] := by
        unfold ByteArray.get!
        have : i < s.data.size := by simpa using hi
        rw [Array.getElem_toList]
        exact getElem!_pos s.data i this
      rw [e]; simp
  unfold ByteArray.toList
  rw [key _ 0 [] rfl]; simp
theorem beqS_iff {s t : ByteArray} : (s.toList == t.toList) = true ↔ s = t := by
  rw [toList_eq_data, toList_eq_data, beq_iff_eq]
  exact ⟨bytes_ext, fun h => by rw [h]⟩
theorem split_beqS {s t : ByteArray} {A B : Prop} (h1 : s = t → A) (h2 : s ≠ t → B) : cond (beqS s t) A B :=
  split_hb (fun h => h1 (beqS_iff.1 h)) (fun h => h2 fun e => by rw [beqS_iff.2 e] at h; cases h)
theorem split_not {b : Bool} {A B : Prop} (h1 : b = false → A) (h2 : b = true → B) : cond (!b) A B := by
  cases b
  · exact h1 rfl
  · exact h2 rfl
theorem beqS_val (s t : ByteArray) : beqS s t = decide (s = t) := by
  unfold beqS
  rw [hb_eq]
  by_cases h : s = t
  · rw [beqS_iff.2 h, decide_eq_true h]
  · rw [decide_eq_false h]
    cases e : (s.toList == t.toList) with
    | false => rfl
    | true => exact absurd (beqS_iff.1 e) h

/-! ### numbers -/
theorem wid {x : Int} (h1 : -9223372036854775808 ≤ x) (h2 : x ≤ 9223372036854775807) : IntKind.i64.wrap x = x := by
  unfold IntKind.wrap IntKind.signed IntKind.bits
  simp only [Bool.true_and]
  by_cases h : 0 ≤ x
  · have e : x % 2 ^ 64 = x := Int.emod_eq_of_lt h (by omega)
    rw [e, if_neg (by simp; omega)]
  · have e : x % 2 ^ 64 = x + 2 ^ 64 := by omega
    rw [e, if_pos (by simp; omega)]; omega
theorem wrap8 (x : Int) : IntKind.u8.wrap x = x % 256 := by unfold IntKind.wrap; simp [IntKind.signed, IntKind.bits]
theorem wrap32 (x : Int) : IntKind.u32.wrap x = x % 4294967296 := by unfold IntKind.wrap; simp [IntKind.signed, IntKind.bits]
theorem wrap64 (x : Int) : IntKind.u64.wrap x = x % 18446744073709551616 := by unfold IntKind.wrap; simp [IntKind.signed, IntKind.bits]

/-! ### blocks -/
/-- A block that may be written, known whole. -/
def Blk (h : Hp) (b : Nat) (t : TypeId) (vs : List Value) : Prop := h b = some (.cells vs.toArray t (0, 0))
/-- All blocks stand, but those of S. -/
def Keep (S : Nat → Prop) (h h' : Hp) : Prop := ∀ c o, h c = some o → ¬ S c → h' c = some o
theorem Sub.refl (h : Hp) : Sub h h := fun _ _ e => e
theorem Sub.trans {a b c : Hp} (x : Sub a b) (y : Sub b c) : Sub a c := fun _ _ e => y _ _ (x _ _ e)
theorem Keep.refl (S : Nat → Prop) (h : Hp) : Keep S h h := fun _ _ e _ => e
theorem Keep.trans {S : Nat → Prop} {a b c : Hp} (x : Keep S a b) (y : Keep S b c) : Keep S a c := fun _ _ e n => y _ _ (x _ _ e n) n
theorem Keep.mono {S T : Nat → Prop} {a b : Hp} (x : Keep S a b) (st : ∀ c, S c → T c) : Keep T a b := fun c o e n => x c o e fun s => n (st c s)
theorem Keep.sub {S : Nat → Prop} {h0 a b : Hp} (x : Keep S a b) (s : Sub h0 a) (hS : ∀ c, S c → h0 c = none) : Sub h0 b :=
  fun c o e => x c o (s c o e) fun sc => by rw [hS c sc] at e; cases e
theorem Sub.keep {a b : Hp} (x : Sub a b) (S : Nat → Prop) : Keep S a b := fun _ _ e _ => x _ _ e
theorem Keep.toSub {S : Nat → Prop} {a b : Hp} (x : Keep S a b) (hS : ∀ c, S c → a c = none) : Sub a b := x.sub (Sub.refl a) hS
theorem Sub.upd {h : Hp} {k : Nat} (hk : h k = none) (o : Obj) : Sub h (h.upd k o) := fun c x e => by
  rw [Hp.upd_ne _ _ (fun e' => by rw [e', hk] at e; cases e)]; exact e
theorem Sub.none {h h' : Hp} (s : Sub h h') {k : Nat} (hk : h' k = none) : h k = none := by
  cases e : h k with
  | none => rfl
  | some o => rw [s _ _ e] at hk; cases hk
theorem Keep.upd {S : Nat → Prop} {h : Hp} {k : Nat} (o : Obj) (hk : S k ∨ h k = none) : Keep S h (h.upd k o) := fun c x e n => by
  rw [Hp.upd_ne _ _ (fun e' => by
    subst e'
    rcases hk with hk | hk
    · exact n hk
    · rw [hk] at e; cases e)]
  exact e
theorem Blk.get {h : Hp} {b : Nat} {t : TypeId} {vs : List Value} (H : Blk h b t vs) : h b = some (.cells vs.toArray t (0, 0)) := H
theorem Blk.sub {h h' : Hp} {b : Nat} {t : TypeId} {vs : List Value} (H : Blk h b t vs) (s : Sub h h') : Blk h' b t vs := s _ _ H
theorem Blk.keep {S : Nat → Prop} {h h' : Hp} {b : Nat} {t : TypeId} {vs : List Value} (H : Blk h b t vs) (s : Keep S h h') (n : ¬ S b) : Blk h' b t vs := s _ _ H n
theorem Blk.cell {h : Hp} {b : Nat} {t : TypeId} {vs : List Value} (H : Blk h b t vs) (i : Nat) : h.cell b i = vs[i]? := by
  unfold Hp.cell
  rw [H.get]; simp
theorem Blk.cell' {h : Hp} {b : Nat} {t : TypeId} {vs : List Value} (H : Blk h b t vs) (i : Nat) {v : Value} (e : vs[i]? = some v) : h.cell b i = some v := (H.cell i).trans e
theorem Blk.ne {h : Hp} {b k : Nat} {t : TypeId} {vs : List Value} (H : Blk h b t vs) (hk : h k = none) : b ≠ k := fun e => by
  have := H.get
  rw [e, hk] at this; cases this
theorem Blk.new (h : Hp) (b : Nat) (t : TypeId) (vs : List Value) : Blk (h.upd b (.cells vs.toArray t (0, 0))) b t vs := Hp.upd_same _ _ _
theorem Blk.upd {h : Hp} {b k : Nat} {t : TypeId} {vs : List Value} (H : Blk h b t vs) (hk : h k = none) (o : Obj) : Blk (h.upd k o) b t vs := H.sub (Sub.upd hk o)
theorem Blk.store {h : Hp} {b o n : Nat} {t : TypeId} {vs : List Value} (H : Blk h b t vs) (hn : o + n ≤ vs.length) : StoreOk h b o n :=
  ⟨_, _, _, _, H.get, by simpa using hn, .inl (Nat.zero_le _)⟩
theorem put_get {h : Hp} {b o : Nat} {t : TypeId} {vs us : List Value} (H : Blk h b t vs) : h.put b o us = h.upd b (.cells (setL vs o us).toArray t (0, 0)) := by
  unfold Hp.put
  rw [H.get]
  simp only []
  rw [setL_eq]
theorem Blk.put {h : Hp} {b : Nat} {t : TypeId} {vs : List Value} (H : Blk h b t vs) (o : Nat) (us : List Value) : Blk (h.put b o us) b t (setL vs o us) := by
  rw [put_get H]; exact Blk.new _ _ _ _
theorem put_ne (h : Hp) {b c : Nat} (o : Nat) (us : List Value) (e : c ≠ b) : h.put b o us c = h c := by
  unfold Hp.put
  cases h b with
  | none => rfl
  | some x => cases x <;> first | rfl | exact Hp.upd_ne _ _ e
theorem Keep.put (S : Nat → Prop) (h : Hp) {b : Nat} (o : Nat) (us : List Value) (hb : S b) : Keep S h (h.put b o us) := fun c x e n => by
  rw [put_ne _ _ _ fun e' => n (by rw [e']; exact hb)]; exact e
theorem Blk.put_ne {h : Hp} {b c : Nat} {t : TypeId} {vs : List Value} (H : Blk h b t vs) (o : Nat) (us : List Value) (e : b ≠ c) : Blk (h.put c o us) b t vs :=
  (Go.Gx.put_ne h o us e).trans H
theorem Blk.inj {h : Hp} {b : Nat} {t t' : TypeId} {vs vs' : List Value} (H : Blk h b t vs) (H' : Blk h b t' vs') : t = t' ∧ vs = vs' := by
  have := H.get.symm.trans H'.get
  simpa [and_comm] using this
theorem setL_get {vs : List Value} {o : Nat} {v : Value} (i : Nat) : (setL vs o [v])[i]? = if i = o ∧ o < vs.length then some v else vs[i]? := by
  simp only [setL, List.getElem?_set]
  by_cases e : o = i
  · subst e
    by_cases hl : o < vs.length
    · simp [hl]
    · simp [hl]
  · rw [if_neg e, if_neg (fun h => e h.1.symm)]
theorem setL_append {as bs us : List Value} {n : Nat} (hn : as.length = n) (hl : us.length ≤ bs.length) : setL (as ++ bs) n us = as ++ us ++ bs.drop us.length := by
  induction us generalizing as bs n with
  | nil => simp [setL]
  | cons u us ih =>
    cases bs with
    | nil => simp at hl
    | cons b bs =>
      simp only [setL]
      have : (as ++ b :: bs).set n u = (as ++ [u]) ++ bs := by
        subst hn
        rw [List.set_append_right _ _ (Nat.le_refl _)]; simp
      rw [this, ih (by simp [hn]) (by simpa using hl)]
      simp

/-! ### slices -/
theorem CellsAt.sub {h h' : Hp} {b o : Nat} {xs : List Value} (H : CellsAt h b o xs) (s : Sub h h') : CellsAt h' b o xs := fun i hi => by
  have := H i hi
  unfold Hp.cell at this ⊢
  split at this
  · rename_i hb; rw [s _ _ hb]; exact this
  · cases this
theorem CellsAt.keep {S : Nat → Prop} {h h' : Hp} {b o : Nat} {xs : List Value} (H : CellsAt h b o xs) (s : Keep S h h') (n : ¬ S b) : CellsAt h' b o xs := fun i hi => by
  have := H i hi
  unfold Hp.cell at this ⊢
  split at this
  · rename_i hb; rw [s _ _ hb n]; exact this
  · cases this
theorem SliceAt.sub {h h' : Hp} {a : Option Addr} {n : Nat} {xs : List Value} (H : SliceAt h a n xs) (s : Sub h h') : SliceAt h' a n xs := by
  obtain ⟨h1, h2⟩ := H
  refine ⟨h1, ?_⟩
  rcases h2 with h2 | ⟨b, o, e, h2⟩
  · exact .inl h2
  · exact .inr ⟨b, o, e, h2.sub s⟩
def blkOf (a : Option Addr) (c : Nat) : Prop := ∃ o s, a = some ⟨c, o, s⟩
theorem SliceAt.keep {S : Nat → Prop} {h h' : Hp} {a : Option Addr} {n : Nat} {xs : List Value} (H : SliceAt h a n xs) (s : Keep S h h') (hn : ∀ c, blkOf a c → ¬ S c) : SliceAt h' a n xs := by
  obtain ⟨h1, h2⟩ := H
  refine ⟨h1, ?_⟩
  rcases h2 with h2 | ⟨b, o, e, h2⟩
  · exact .inl h2
  · exact .inr ⟨b, o, e, h2.keep s (hn b ⟨o, none, e⟩)⟩
theorem Blk.cellsAt {h : Hp} {b : Nat} {t : TypeId} {vs : List Value} (H : Blk h b t vs) {o : Nat} {xs : List Value} (hx : ∀ i, i < xs.length → vs[o + i]? = xs[i]?) : CellsAt h b o xs := fun i hi => by
  rw [H.cell, hx i hi]; exact List.getElem?_eq_getElem hi
theorem Blk.slice {h : Hp} {b : Nat} {t : TypeId} {vs : List Value} (H : Blk h b t vs) {n : Nat} (hn : vs.length = n) : SliceAt h (some ⟨b, 0, none⟩) n vs :=
  ⟨hn, .inr ⟨b, 0, rfl, H.cellsAt fun i _ => by rw [Nat.zero_add]⟩⟩
theorem slice_nil (h : Hp) (a : Option Addr) : SliceAt h a 0 [] := ⟨rfl, .inl rfl⟩
theorem SliceAt.cell {h : Hp} {a : Option Addr} {n : Nat} {xs : List Value} (H : SliceAt h a n xs) {i : Nat} (hi : i < n) : ∃ b o, a = some ⟨b, o, none⟩ ∧ ∃ v, xs[i]? = some v ∧ h.cell b (o + i) = some v := by
  obtain ⟨h1, h2⟩ := H
  rcases h2 with h2 | ⟨b, o, e, h2⟩
  · omega
  · exact ⟨b, o, e, xs[i], List.getElem?_eq_getElem (by omega), h2 i (by omega)⟩
/-- A part of a slice. -/
theorem SliceAt.part {h : Hp} {a : Option Addr} {n : Nat} {xs : List Value} (H : SliceAt h a n xs) {m l k sz : Nat} (hk : l * sz + k ≤ n) (hm : m = l → k = 0) : SliceAt h (slA m l sz a) k ((xs.drop (l * sz)).take k) := by
  obtain ⟨h1, h2⟩ := H
  refine ⟨by simp; omega, ?_⟩
  by_cases k0 : k = 0
  · exact .inl k0
  · rcases h2 with h2 | ⟨b, o, e, h2⟩
    · omega
    · refine .inr ⟨b, o + l * sz, ?_, fun i hi => ?_⟩
      · unfold slA
        rw [if_neg (fun e' => k0 (hm e')), e, Option.map_some, add_mk]
      · simp only [List.length_take, List.length_drop] at hi
        have := h2 (l * sz + i) (by omega)
        rw [Nat.add_assoc, this]
        simp

/-! ### slices that are owned -/
structure AppT (P : Program) (e : TypeId) (z b : Nat) : Prop where
  ok : okT P e = true
  sz : szT P e = z
  by_ : byT P e = b
  pos : 0 < z
  bpos : 0 < b
  zero : ∃ v, zeroT P e = some v ∧ (cellsOfV v).length = z
def appB (P : Program) (e : TypeId) (sz b : Nat) : Bool :=
  okT P e && Nat.beq (szT P e) sz && Nat.beq (byT P e) b && Nat.blt 0 sz && Nat.blt 0 b && (match zeroT P e with
    | some v => Nat.beq (cellsOfV v).length sz
    | none => false)
theorem AppT.of {P : Program} {e : TypeId} {sz b : Nat} (h : appB P e sz b = true) : AppT P e sz b := by
  unfold appB at h
  simp only [Bool.and_eq_true] at h
  obtain ⟨⟨⟨⟨⟨h1, h2⟩, h3⟩, h4⟩, h5⟩, h6⟩ := h
  refine ⟨h1, Nat.eq_of_beq_eq_true h2, Nat.eq_of_beq_eq_true h3, Nat.le_of_ble_eq_true h4, Nat.le_of_ble_eq_true h5, ?_⟩
  split at h6
  · rename_i v hv; exact ⟨v, hv, Nat.eq_of_beq_eq_true h6⟩
  · cases h6
/-- A slice from the head of a block that holds nothing else, with what its first elements' cells hold. -/
def Own (h : Hp) (e : TypeId) (sz : Nat) (a : Option Addr) (l c : Nat) (xs : List Value) : Prop :=
  xs.length = l * sz ∧ l ≤ c ∧ ((a = none ∧ c = 0) ∨ ∃ b rest, a = some ⟨b, 0, none⟩ ∧ Blk h b e (xs ++ rest) ∧ rest.length = (c - l) * sz)
theorem Own.nil (h : Hp) (e : TypeId) (sz : Nat) : Own h e sz none 0 0 [] := ⟨by simp, Nat.le_refl _, .inl ⟨rfl, rfl⟩⟩
theorem Own.keep {S : Nat → Prop} {h h' : Hp} {e : TypeId} {sz : Nat} {a : Option Addr} {l c : Nat} {xs : List Value} (H : Own h e sz a l c xs) (s : Keep S h h') (hn : ∀ c, blkOf a c → ¬ S c) : Own h' e sz a l c xs := by
  obtain ⟨h1, h2, h3⟩ := H
  refine ⟨h1, h2, ?_⟩
  rcases h3 with h3 | ⟨b, rest, e1, h3, h4⟩
  · exact .inl h3
  · exact .inr ⟨b, rest, e1, h3.keep s (hn b ⟨0, none, e1⟩), h4⟩
theorem Own.sub {h h' : Hp} {e : TypeId} {sz : Nat} {a : Option Addr} {l c : Nat} {xs : List Value} (H : Own h e sz a l c xs) (s : Sub h h') : Own h' e sz a l c xs :=
  H.keep (S := fun _ => False) (s.keep _) fun _ _ h => h
theorem Own.slice {h : Hp} {e : TypeId} {sz : Nat} {a : Option Addr} {l c : Nat} {xs : List Value} (H : Own h e sz a l c xs) : SliceAt h a (l * sz) xs := by
  obtain ⟨h1, h2, h3⟩ := H
  refine ⟨h1, ?_⟩
  rcases h3 with ⟨_, rfl⟩ | ⟨b, rest, e1, h3, h4⟩
  · left
    have : l = 0 := by omega
    subst this; simp
  · exact .inr ⟨b, 0, e1, h3.cellsAt fun i hi => by rw [Nat.zero_add, List.getElem?_append_left hi]⟩
/-- Fewer elements of it. -/
theorem Own.take {h : Hp} {e : TypeId} {sz : Nat} {a : Option Addr} {l c : Nat} {xs : List Value} (H : Own h e sz a l c xs) {k : Nat} (hk : k ≤ l) : Own h e sz a k c (xs.take (k * sz)) := by
  obtain ⟨h1, h2, h3⟩ := H
  have hks : k * sz ≤ l * sz := Nat.mul_le_mul_right _ hk
  refine ⟨by simp; omega, by omega, ?_⟩
  rcases h3 with h3 | ⟨b, rest, e1, h3, h4⟩
  · exact .inl h3
  · refine .inr ⟨b, xs.drop (k * sz) ++ rest, e1, by rw [← List.append_assoc, List.take_append_drop]; exact h3, ?_⟩
    simp only [List.length_append, List.length_drop, h1, h4, Nat.sub_mul]
    have : l * sz ≤ c * sz := Nat.mul_le_mul_right _ h2
    omega
theorem Own.in_heap {h : Hp} {e : TypeId} {sz : Nat} {a : Option Addr} {l c : Nat} {xs : List Value} (H : Own h e sz a l c xs) {b : Nat} (hb : blkOf a b) : h b ≠ none := by
  obtain ⟨o, s, hb⟩ := hb
  rcases H.2.2 with ⟨e1, _⟩ | ⟨b', rest, e1, h3, h4⟩
  · rw [e1] at hb; cases hb
  · rw [e1] at hb; cases hb
    rw [h3.get]; simp
theorem plain_plainW : ∀ {vs : List Value} {F : Prop}, plainP vs → F → plainW vs F
  | [], _, _, hF => hF
  | v :: vs, F, hp, hF => by
    have h1 := hp v (by simp)
    have h2 := plain_plainW (vs := vs) (fun u hu => hp u (by simp [hu])) hF
    unfold plainW
    cases v <;> first | exact h2 | exact absurd rfl (h1.1 _) | exact absurd rfl (h1.2 _)
theorem append_own {P : Program} {e : TypeId} {sz by_ : Nat} (T : AppT P e sz by_) {h : Hp} {a : Option Addr} {l c n : Nat} {xs ys : List Value} {J : Option Addr → Nat → Hp → Prop} (H : Own h e sz a l c xs) (hy : ys.length = n * sz)
    (hp : plainP ys) (hb : (2 * (l + n) + 768) * by_ ≤ 281474976710656)
    (hJ : ∀ a' c' h', Own h' e sz a' (l + n) c' (xs ++ ys) → Keep (blkOf a) h h' → (∀ b, blkOf a' b → blkOf a b ∨ h b = none) → (∀ b, h' b = none → h b = none) → J a' c' h') : appendC P e a l c h ys n J := by
  unfold appendC appendI
  have hok : (okT P e && Nat.blt 0 (byT P e)) = true := by
    rw [T.ok, T.by_]
    have := T.bpos
    simp [Nat.blt, Nat.ble_eq]; omega
  rw [hok]
  simp only [Bool.not_true, cond_false, T.sz, T.by_, leN, ltN, nadd, nmul, nsub]
  have hnone : ∀ {h h' : Hp}, (∀ b, h b ≠ none → h' b ≠ none) → ∀ b, h' b = none → h b = none := fun hx b hb' => Classical.byContradiction fun hc => hx b hc hb'
  obtain ⟨h1, h2, h3⟩ := H
  refine ⟨fun hc => ?_, fun hc => ⟨hb, xs, (Own.slice ⟨h1, h2, h3⟩), fun nc hnc => ?_⟩⟩
  · rcases h3 with ⟨rfl, rfl⟩ | ⟨b, rest, e1, h3, h4⟩
    · have hl : l = 0 := by omega
      have hn : n = 0 := by omega
      subst hl; subst hn
      have hy : ys = [] := List.length_eq_zero_iff.1 (by simpa using hy)
      have hx : xs = [] := List.length_eq_zero_iff.1 (by simpa using h1)
      subst hy; subst hx
      exact .inl ⟨rfl, rfl, _, _, rfl, hJ _ _ _ (Own.nil _ _ _) (Keep.refl _ _) (fun b hb => .inl hb) (fun b hb => hb)⟩
    · refine .inr ⟨b, 0, e1, plain_plainW hp ?_⟩
      have hle : n * sz ≤ (c - l) * sz := Nat.mul_le_mul_right _ (by omega)
      unfold storeH
      rw [Nat.zero_add]
      refine ⟨h3.store (by simp only [List.length_append, h1, hy]; omega), _, _, rfl, ?_⟩
      have hset : setL (xs ++ rest) (l * sz) ys = xs ++ ys ++ rest.drop ys.length := setL_append h1 (by omega)
      have hb2 := h3.put (l * sz) ys
      rw [hset] at hb2
      refine hJ _ _ _ ⟨by simp [h1, hy, Nat.add_mul], hc, .inr ⟨b, _, rfl, hb2, ?_⟩⟩ ?_ ?_ ?_
      · simp only [List.length_drop, h4, hy, Nat.sub_mul, Nat.add_mul]; omega
      · exact Keep.put _ _ _ _ ⟨0, none, e1⟩
      · rintro b' ⟨o, s, e2⟩; cases e2; exact .inl ⟨0, none, e1⟩
      · intro b' hb'
        by_cases e2 : b' = b
        · subst e2; rw [hb2.get] at hb'; cases hb'
        · rw [put_ne _ _ _ e2] at hb'; exact hb'
  · unfold zeroCs
    obtain ⟨z, hz, hzl⟩ := T.zero
    rw [hz]
    simp only []
    have : Nat.beq (cellsOfV z).length (szT P e) = true := by rw [hzl, T.sz]; exact Nat.beq_refl _
    rw [this]
    simp only [cond_true]
    intro k hk
    refine ⟨_, _, rfl, ?_⟩
    have hblk := Blk.new h k e (xs ++ ys ++ (List.replicate (nc - (l + n)) (cellsOfV z)).flatten)
    refine hJ _ _ _ ⟨by simp [h1, hy, Nat.add_mul], hnc, .inr ⟨k, _, rfl, hblk, by simp [hzl]⟩⟩ (Keep.upd _ (.inr hk)) (fun b ⟨o, s, e2⟩ => ?_) (fun b hb' => ?_)
    · cases e2; exact .inr hk
    · exact (Sub.upd hk _).none hb'
/-- An append to a slice that was made behind the heap 'h0'. -/
theorem append_new {P : Program} {e : TypeId} {sz by_ : Nat} (T : AppT P e sz by_) {h0 h : Hp} {a : Option Addr} {l c n : Nat} {xs ys : List Value} {J : Option Addr → Nat → Hp → Prop} (hs : Sub h0 h) (hf : ∀ b, blkOf a b → h0 b = none) (H : Own h e sz a l c xs) (hy : ys.length = n * sz)
    (hp : plainP ys) (hb : (2 * (l + n) + 768) * by_ ≤ 281474976710656)
    (hJ : ∀ a' c' h', Sub h0 h' → (∀ b, blkOf a' b → h0 b = none) → Own h' e sz a' (l + n) c' (xs ++ ys) → J a' c' h') : appendC P e a l c h ys n J :=
  append_own T H hy hp hb fun a' c' h' o k n _ => hJ a' c' h' (k.sub hs hf) (fun b hb => (n b hb).elim (hf b) fun x => hs.none x) o
end Go.Gx
