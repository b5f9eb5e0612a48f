/- Rows of elements of several cells in memory. Conditions: those that each lemma names. -/
import Derived.Test.YtagglohkipioiaaGreatGxH
namespace Go.Gx
set_option linter.unusedVariables false
variable {α : Type} {f : α → List Value} {sz : Nat}
/-- The cells of a row of elements. -/
def rowC (f : α → List Value) (L : List α) : List Value := L.flatMap f
theorem rowC_nil : rowC f [] = [] := rfl
theorem rowC_cons (x : α) (L : List α) : rowC f (x :: L) = f x ++ rowC f L := rfl
theorem rowC_append (L M : List α) : rowC f (L ++ M) = rowC f L ++ rowC f M := List.flatMap_append
theorem rowC_one (x : α) : rowC f [x] = f x := by rw [rowC_cons, rowC_nil, List.append_nil]
theorem rowC_length (hf : ∀ x, (f x).length = sz) : ∀ L : List α, (rowC f L).length = L.length * sz
  | [] => by simp [rowC]
  | x :: L => by rw [rowC_cons, List.length_append, hf, rowC_length hf L, List.length_cons, Nat.add_mul]; omega
theorem rowC_get (hf : ∀ x, (f x).length = sz) : ∀ (L : List α) (i : Nat) (x : α), L[i]? = some x → ∀ j, j < sz → (rowC f L)[i * sz + j]? = (f x)[j]?
  | [], _, _, h, _, _ => by simp at h
  | y :: L, 0, x, h, j, hj => by
    simp at h; subst h
    rw [rowC_cons, Nat.zero_mul, Nat.zero_add, List.getElem?_append_left (by rw [hf]; exact hj)]
  | y :: L, i + 1, x, h, j, hj => by
    have := rowC_get hf L i x (by simpa using h) j hj
    rw [rowC_cons, List.getElem?_append_right (by rw [hf, Nat.add_mul]; omega), hf, ← this]
    congr 1
    rw [Nat.add_mul]; omega
theorem rowC_plain (hp : ∀ x, plainP (f x)) (L : List α) : plainP (rowC f L) := fun v hv => by
  unfold rowC at hv
  rw [List.mem_flatMap] at hv
  obtain ⟨x, _, hv⟩ := hv
  exact hp x v hv
theorem rowC_drop (hf : ∀ x, (f x).length = sz) : ∀ (L : List α) (i : Nat), (rowC f L).drop (i * sz) = rowC f (L.drop i)
  | L, 0 => by simp
  | [], i + 1 => by simp [rowC]
  | x :: L, i + 1 => by
    rw [rowC_cons, show (i + 1) * sz = (f x).length + i * sz by rw [hf, Nat.add_mul]; omega, List.drop_append, List.drop_eq_nil_of_le (by omega), Nat.add_sub_cancel_left, List.nil_append]
    exact rowC_drop hf L i
theorem rowC_take (hf : ∀ x, (f x).length = sz) (L : List α) (i : Nat) : (rowC f L).take (i * sz) = rowC f (L.take i) := by
  by_cases h : i ≤ L.length
  · have : rowC f L = rowC f (L.take i) ++ rowC f (L.drop i) := by rw [← rowC_append, List.take_append_drop]
    rw [this, List.take_append_of_le_length (by rw [rowC_length hf, List.length_take, Nat.min_eq_left h]; exact Nat.le_refl _), List.take_of_length_le]
    rw [rowC_length hf, List.length_take, Nat.min_eq_left h]; exact Nat.le_refl _
  · rw [List.take_of_length_le, List.take_of_length_le (by omega)]
    rw [rowC_length hf]; exact Nat.mul_le_mul_right _ (by omega)
/-- A slice shows a row of elements. -/
def RowAt (f : α → List Value) (sz : Nat) (h : Hp) (a : Option Addr) (L : List α) : Prop := SliceAt h a (L.length * sz) (rowC f L)
theorem RowAt.nil (h : Hp) (a : Option Addr) : RowAt f sz h a [] := by unfold RowAt; simp; exact slice_nil h a
theorem RowAt.sub {h h' : Hp} {a : Option Addr} {L : List α} (H : RowAt f sz h a L) (s : Sub h h') : RowAt f sz h' a L := SliceAt.sub H s
theorem RowAt.keep {S : Nat → Prop} {h h' : Hp} {a : Option Addr} {L : List α} (H : RowAt f sz h a L) (s : Keep S h h') (hn : ∀ c, blkOf a c → ¬ S c) : RowAt f sz h' a L := SliceAt.keep H s hn
theorem RowAt.get (hf : ∀ x, (f x).length = sz) (hz : 0 < sz) {h : Hp} {a : Option Addr} {L : List α} (H : RowAt f sz h a L) {i : Nat} {x : α} (hx : L[i]? = some x) :
    ∃ b o, a = some ⟨b, o, none⟩ ∧ ∀ j v, (f x)[j]? = some v → h.cell b (o + i * sz + j) = some v := by
  have hi := (List.getElem?_eq_some_iff.1 hx).1
  have hle : i * sz + sz ≤ L.length * sz := by have := Nat.mul_le_mul_right sz (show i + 1 ≤ L.length by omega); rw [Nat.add_mul] at this; omega
  obtain ⟨b, o, e, _⟩ := SliceAt.cell H (i := i * sz) (by omega)
  refine ⟨b, o, e, fun j v hv => ?_⟩
  have hj : j < sz := by have := (List.getElem?_eq_some_iff.1 hv).1; rw [hf] at this; exact this
  obtain ⟨b', o', e', v', hv', hc⟩ := SliceAt.cell H (i := i * sz + j) (by omega)
  rw [e] at e'
  cases e'
  rw [rowC_get hf L i x hx j hj, hv] at hv'
  cases hv'
  rw [Nat.add_assoc]; exact hc
theorem RowAt.part (hf : ∀ x, (f x).length = sz) {h : Hp} {a : Option Addr} {L : List α} (H : RowAt f sz h a L) {c i n : Nat} (hc : L.length ≤ c) (hi : i + n ≤ L.length) : RowAt f sz h (slA c i sz a) ((L.drop i).take n) := by
  have hle : i * sz + n * sz ≤ L.length * sz := by have := Nat.mul_le_mul_right sz hi; rw [Nat.add_mul] at this; exact this
  have := SliceAt.part H (m := c) (l := i) (k := n * sz) (sz := sz) hle (fun e => by
    have : n = 0 := by omega
    rw [this, Nat.zero_mul])
  rw [rowC_drop hf, rowC_take hf] at this
  unfold RowAt
  rw [List.length_take, List.length_drop, Nat.min_eq_left (by omega)]
  exact this
theorem RowAt.blk {h : Hp} {b : Nat} {t : TypeId} {L : List α} (H : Blk h b t (rowC f L)) (hf : ∀ x, (f x).length = sz) : RowAt f sz h (some ⟨b, 0, none⟩) L := H.slice (rowC_length hf L)
/-- A row that is owned. -/
def OwnR (f : α → List Value) (sz : Nat) (h : Hp) (e : TypeId) (a : Option Addr) (c : Nat) (L : List α) : Prop := Own h e sz a L.length c (rowC f L)
theorem OwnR.nil (h : Hp) (e : TypeId) : OwnR f sz h e none 0 [] := Own.nil _ _ _
theorem OwnR.row {h : Hp} {e : TypeId} {a : Option Addr} {c : Nat} {L : List α} (H : OwnR f sz h e a c L) : RowAt f sz h a L := Own.slice H
theorem OwnR.le {h : Hp} {e : TypeId} {a : Option Addr} {c : Nat} {L : List α} (H : OwnR f sz h e a c L) : L.length ≤ c := H.2.1
theorem OwnR.sub {h h' : Hp} {e : TypeId} {a : Option Addr} {c : Nat} {L : List α} (H : OwnR f sz h e a c L) (s : Sub h h') : OwnR f sz h' e a c L := Own.sub H s
theorem OwnR.keep {S : Nat → Prop} {h h' : Hp} {e : TypeId} {a : Option Addr} {c : Nat} {L : List α} (H : OwnR f sz h e a c L) (s : Keep S h h') (hn : ∀ c, blkOf a c → ¬ S c) : OwnR f sz h' e a c L := Own.keep H s hn
/-- A row that was made behind the heap h. -/
structure NewR (f : α → List Value) (sz : Nat) (e : TypeId) (h h' : Hp) (a : Option Addr) (c : Nat) (L : List α) : Prop where
  sub : Sub h h'
  new : ∀ b, blkOf a b → h b = none
  own : OwnR f sz h' e a c L
theorem NewR.nil (e : TypeId) (h : Hp) : NewR f sz e h h none 0 [] := ⟨Sub.refl h, (by rintro b ⟨o, s, e⟩; cases e), OwnR.nil h e⟩
theorem NewR.upd {e : TypeId} {h h' : Hp} {a : Option Addr} {c : Nat} {L : List α} (N : NewR f sz e h h' a c L) {h2 : Hp} (s : Sub h' h2) : NewR f sz e h h2 a c L := ⟨N.sub.trans s, N.new, N.own.sub s⟩
theorem NewR.back {e : TypeId} {h h0 h' : Hp} {a : Option Addr} {c : Nat} {L : List α} (N : NewR f sz e h h' a c L) (s : Sub h0 h) : NewR f sz e h0 h' a c L := ⟨s.trans N.sub, fun b hb => s.none (N.new b hb), N.own⟩
theorem append_row {P : Program} {e : TypeId} {by_ : Nat} (T : AppT P e sz by_) (hf : ∀ x, (f x).length = sz) (hp : ∀ x, plainP (f x)) {h0 h : Hp} {a : Option Addr} {c : Nat} {L M : List α} {l n : Nat} {ys : List Value} {J : Option Addr → Nat → Hp → Prop} (N : NewR f sz e h0 h a c L)
    (hl : l = L.length) (hn : n = M.length) (hy : ys = rowC f M) (hb : (2 * (L.length + M.length) + 768) * by_ ≤ 281474976710656)
    (hJ : ∀ a' c' h', NewR f sz e h0 h' a' c' (L ++ M) → J a' c' h') : appendC P e a l c h ys n J := by
  subst hl; subst hn; subst hy
  refine append_new T N.sub N.new N.own (rowC_length hf M) (rowC_plain hp M) hb fun a' c' h' g1 g2 g3 => hJ a' c' h' ⟨g1, g2, ?_⟩
  unfold OwnR
  rw [List.length_append, rowC_append]
  exact g3
/-- An append to a row that is owned. -/
theorem append_ownR {P : Program} {e : TypeId} {by_ : Nat} (T : AppT P e sz by_) (hf : ∀ x, (f x).length = sz) (hp : ∀ x, plainP (f x)) {h : Hp} {a : Option Addr} {c : Nat} {L M : List α} {l n : Nat} {ys : List Value} {J : Option Addr → Nat → Hp → Prop} (N : OwnR f sz h e a c L)
    (hl : l = L.length) (hn : n = M.length) (hy : ys = rowC f M) (hb : (2 * (L.length + M.length) + 768) * by_ ≤ 281474976710656)
    (hJ : ∀ a' c' h', OwnR f sz h' e a' c' (L ++ M) → Keep (blkOf a) h h' → (∀ b, blkOf a' b → blkOf a b ∨ h b = none) → J a' c' h') : appendC P e a l c h ys n J := by
  subst hl; subst hn; subst hy
  refine append_own T N (rowC_length hf M) (rowC_plain hp M) hb fun a' c' h' g1 g2 g3 _ => hJ a' c' h' ?_ g2 g3
  unfold OwnR
  rw [List.length_append, rowC_append]
  exact g1
theorem setL_len : ∀ (us vs : List Value) (o : Nat), (setL vs o us).length = vs.length
  | [], _, _ => rfl
  | u :: us, vs, o => by unfold setL; rw [setL_len us]; simp
theorem setL_left : ∀ (us : List Value) (A B : List Value) (j : Nat), j + us.length ≤ A.length → setL (A ++ B) j us = setL A j us ++ B
  | [], _, _, _, _ => rfl
  | u :: us, A, B, j, h => by
    simp only [List.length_cons] at h
    unfold setL
    rw [List.set_append_left _ _ (by omega), setL_left us _ B (j + 1) (by rw [List.length_set]; omega)]
theorem setL_right : ∀ (us : List Value) (A B : List Value) (j : Nat), setL (A ++ B) (A.length + j) us = A ++ setL B j us
  | [], _, _, _ => rfl
  | u :: us, A, B, j => by
    unfold setL
    rw [List.set_append_right _ _ (by omega), Nat.add_sub_cancel_left, Nat.add_assoc, setL_right us A _ (j + 1)]
theorem setL_row (hf : ∀ x, (f x).length = sz) {L : List α} {i j : Nat} {x y : α} {vs rest : List Value} (hx : L[i]? = some x) (hj : j + vs.length ≤ sz) (hy : setL (f x) j vs = f y) : setL (rowC f L ++ rest) (i * sz + j) vs = rowC f (L.set i y) ++ rest := by
  obtain ⟨h1, h2⟩ := List.getElem?_eq_some_iff.1 hx
  have hl : L = L.take i ++ x :: L.drop (i + 1) := by
    conv => lhs; rw [← List.take_append_drop i L, List.drop_eq_getElem_cons h1, h2]
  have hs : L.set i y = L.take i ++ y :: L.drop (i + 1) := List.set_eq_take_append_cons_drop ▸ if_pos h1
  have e : (rowC f (L.take i)).length = i * sz := by rw [rowC_length hf, List.length_take, Nat.min_eq_left (by omega)]
  rw [hs]
  conv => lhs; rw [hl]
  rw [rowC_append, rowC_append, rowC_cons, rowC_cons, List.append_assoc, List.append_assoc, ← e, setL_right, List.append_assoc, setL_left _ _ _ _ (by rw [hf]; exact hj), hy, List.append_assoc]
/-- A part of an element is written. -/
theorem OwnR.put (hf : ∀ x, (f x).length = sz) {h : Hp} {e : TypeId} {a : Option Addr} {c : Nat} {L : List α} (O : OwnR f sz h e a c L) {i j : Nat} {x y : α} {vs : List Value} (hx : L[i]? = some x) (hz : 0 < sz) (hj : j + vs.length ≤ sz) (hy : setL (f x) j vs = f y) :
    ∃ b, a = some ⟨b, 0, none⟩ ∧ StoreOk h b (0 + i * sz + j) vs.length ∧ OwnR f sz (h.put b (0 + i * sz + j) vs) e a c (L.set i y) := by
  have h1 := (List.getElem?_eq_some_iff.1 hx).1
  obtain ⟨g1, g2, g3⟩ := O
  rcases g3 with ⟨rfl, rfl⟩ | ⟨b, rest, rfl, g3, g4⟩
  · omega
  · have hle : i * sz + sz ≤ L.length * sz := by have := Nat.mul_le_mul_right sz (show i + 1 ≤ L.length by omega); rw [Nat.add_mul] at this; omega
    rw [Nat.zero_add]
    refine ⟨b, rfl, g3.store (by rw [List.length_append, rowC_length hf]; omega), ⟨by rw [rowC_length hf], by rw [List.length_set]; exact g2, .inr ⟨b, rest, rfl, ?_, by rw [List.length_set]; exact g4⟩⟩⟩
    have := g3.put (i * sz + j) vs
    rw [setL_row hf hx hj hy] at this
    exact this
theorem NewR.put (hf : ∀ x, (f x).length = sz) {e : TypeId} {h0 h : Hp} {a : Option Addr} {c : Nat} {L : List α} (N : NewR f sz e h0 h a c L) {i j : Nat} {x y : α} {vs : List Value} (hx : L[i]? = some x) (hz : 0 < sz) (hj : j + vs.length ≤ sz) (hy : setL (f x) j vs = f y) :
    ∃ b, a = some ⟨b, 0, none⟩ ∧ StoreOk h b (0 + i * sz + j) vs.length ∧ NewR f sz e h0 (h.put b (0 + i * sz + j) vs) a c (L.set i y) := by
  obtain ⟨b, h1, h2, h3⟩ := N.own.put hf hx hz hj hy
  refine ⟨b, h1, h2, ⟨?_, N.new, h3⟩⟩
  exact (Keep.put (fun c => c = b) h _ vs rfl).sub N.sub fun c hc => N.new c (by rw [hc]; exact ⟨0, none, h1⟩)
theorem RowAt.own_get (hf : ∀ x, (f x).length = sz) (hz : 0 < sz) {h : Hp} {e : TypeId} {a : Option Addr} {c : Nat} {L : List α} (H : OwnR f sz h e a c L) {i : Nat} {x : α} (hx : L[i]? = some x) :
    ∃ b, a = some ⟨b, 0, none⟩ ∧ ∀ j v, (f x)[j]? = some v → h.cell b (0 + i * sz + j) = some v := by
  obtain ⟨b, o, e1, h1⟩ := H.row.get hf hz hx
  rcases H.2.2 with ⟨e2, _⟩ | ⟨b', r, e2, _⟩
  · rw [e1] at e2; cases e2
  · rw [e1] at e2; cases e2; exact ⟨b, e1, h1⟩
theorem plainP_of {vs : List Value} (h : vs.all (fun v => match v with | .agg _ => false | .tuple _ => false | _ => true) = true) : plainP vs := fun v hv => by
  have := List.all_eq_true.1 h v hv
  constructor
  · intro c e; subst e; cases this
  · intro c e; subst e; cases this
end Go.Gx
