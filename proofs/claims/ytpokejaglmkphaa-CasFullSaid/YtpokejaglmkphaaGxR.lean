/- Rows of elements of several cells in memory. Conditions: those that each lemma names. -/
import Derived.Test.YtpokejaglmkphaaGxH
namespace Go.Gx
variable {α : Type} {f : α → List Value} {sz : Nat}
/-- The cells of a row of elements. -/
def rowC (f : α → List Value) (L : List α) : List Value := L.flatMap f
theorem rowC_nil : rowC f [] = [] := rfl
theorem rowC_cons (x : α) (L : List α) : rowC f (x :: L) = f x ++ rowC f L := rfl
theorem rowC_append (L M : List α) : rowC f (L ++ M) = rowC f L ++ rowC f M := List.flatMap_append
theorem rowC_one (x : α) : rowC f [x] = f x := by rw [rowC_cons, rowC_nil, List.append_nil]
theorem rowC_length (hf : ∀ x, (f x).length = sz) : ∀ L : List α, (rowC f L).length = L.length * sz
  | [] => by simp [rowC]
  | x :: L => by rw [rowC_cons, List.length_append, hf, rowC_length hf L, List.length_cons, Nat.add_mul]; omega
theorem rowC_get (hf : ∀ x, (f x).length = sz) : ∀ (L : List α) (i : Nat) (x : α), L[i]? = some x → ∀ j, j < sz → (rowC f L)[i * sz + j]? = (f x)[j]?
  | [], _, _, h, _, _ => by simp at h
  | y :: L, 0, x, h, j, hj => by
    simp at h; subst h
    rw [rowC_cons, Nat.zero_mul, Nat.zero_add, List.getElem?_append_left (by rw [hf]; exact hj)]
  | y :: L, i + 1, x, h, j, hj => by
    have := rowC_get hf L i x (by simpa using h) j hj
    rw [rowC_cons, List.getElem?_append_right (by rw [hf, Nat.add_mul]; omega), hf, ← this]
    congr 1
    rw [Nat.add_mul]; omega
theorem rowC_plain (hp : ∀ x, plainP (f x)) (L : List α) : plainP (rowC f L) := fun v hv => by
  unfold rowC at hv
  rw [List.mem_flatMap] at hv
  obtain ⟨x, _, hv⟩ := hv
  exact hp x v hv
theorem rowC_drop (hf : ∀ x, (f x).length = sz) : ∀ (L : List α) (i : Nat), (rowC f L).drop (i * sz) = rowC f (L.drop i)
  | L, 0 => by simp
  | [], i + 1 => by simp [rowC]
  | x :: L, i + 1 => by
    rw [rowC_cons, show (i + 1) * sz = (f x).length + i * sz by rw [hf, Nat.add_mul]; omega, List.drop_append, List.drop_eq_nil_of_le (by omega), Nat.add_sub_cancel_left, List.nil_append]
    exact rowC_drop hf L i
theorem rowC_take (hf : ∀ x, (f x).length = sz) (L : List α) (i : Nat) : (rowC f L).take (i * sz) = rowC f (L.take i) := by
  by_cases h : i ≤ L.length
  · have : rowC f L = rowC f (L.take i) ++ rowC f (L.drop i) := by rw [← rowC_append, List.take_append_drop]
    rw [this, List.take_append_of_le_length (by rw [rowC_length hf, List.length_take, Nat.min_eq_left h]; exact Nat.le_refl _), List.take_of_length_le]
    rw [rowC_length hf, List.length_take, Nat.min_eq_left h]; exact Nat.le_refl _
  · rw [List.take_of_length_le, List.take_of_length_le (by omega)]
    rw [rowC_length hf]; exact Nat.mul_le_mul_right _ (by omega)
/-- A slice shows a row of elements. -/
def RowAt (f : α → List Value) (sz : Nat) (h : Hp) (a : Option Addr) (L : List α) : Prop := SliceAt h a (L.length * sz) (rowC f L)
theorem RowAt.nil (h : Hp) (a : Option Addr) : RowAt f sz h a [] := by unfold RowAt; simp; exact slice_nil h a
theorem RowAt.sub {h h' : Hp} {a : Option Addr} {L : List α} (H : RowAt f sz h a L) (s : Sub h h') : RowAt f sz h' a L := SliceAt.sub H s
theorem RowAt.keep {S : Nat → Prop} {h h' : Hp} {a : Option Addr} {L : List α} (H : RowAt f sz h a L) (s : Keep S h h') (hn : ∀ c, blkOf a c → ¬ S c) : RowAt f sz h' a L := SliceAt.keep H s hn
theorem RowAt.get (hf : ∀ x, (f x).length = sz) (hz : 0 < sz) {h : Hp} {a : Option Addr} {L : List α} (H : RowAt f sz h a L) {i : Nat} {x : α} (hx : L[i]? = some x) :
    ∃ b o, a = some ⟨b, o, none⟩ ∧ ∀ j v, (f x)[j]? = some v → h.cell b (o + i * sz + j) = some v := by
  have hi := (List.getElem?_eq_some_iff.1 hx).1
  have hle : i * sz + sz ≤ L.length * sz := by have := Nat.mul_le_mul_right sz (show i + 1 ≤ L.length by omega); rw [Nat.add_mul] at this; omega
  obtain ⟨b, o, e, _⟩ := SliceAt.cell H (i := i * sz) (by omega)
  refine ⟨b, o, e, fun j v hv => ?_⟩
  have hj : j < sz := by have := (List.getElem?_eq_some_iff.1 hv).1; rw [hf] at this; exact this
  obtain ⟨b', o', e', v', hv', hc⟩ := SliceAt.cell H (i := i * sz + j) (by omega)
  rw [e] at e'
  cases e'
  rw [rowC_get hf L i x hx j hj, hv] at hv'
  cases hv'
  rw [Nat.add_assoc]; exact hc
theorem RowAt.part (hf : ∀ x, (f x).length = sz) {h : Hp} {a : Option Addr} {L : List α} (H : RowAt f sz h a L) {c i n : Nat} (hc : L.length ≤ c) (hi : i + n ≤ L.length) : RowAt f sz h (slA c i sz a) ((L.drop i).take n) := by
  have hle : i * sz + n * sz ≤ L.length * sz := by have := Nat.mul_le_mul_right sz hi; rw [Nat.add_mul] at this; exact this
  have := SliceAt.part H (m := c) (l := i) (k := n * sz) (sz := sz) hle (fun e => by
    have : n = 0 := by omega
    rw [this, Nat.zero_mul])
  rw [rowC_drop hf, rowC_take hf] at this
  unfold RowAt
  rw [List.length_take, List.length_drop, Nat.min_eq_left (by omega)]
  exact this
theorem RowAt.blk {h : Hp} {b : Nat} {t : TypeId} {L : List α} (H : Blk h b t (rowC f L)) (hf : ∀ x, (f x).length = sz) : RowAt f sz h (some ⟨b, 0, none⟩) L := H.slice (rowC_length hf L)
/-- A row that is owned. -/
def OwnR (f : α → List Value) (sz : Nat) (h : Hp) (e : TypeId) (a : Option Addr) (c : Nat) (L : List α) : Prop := Own h e sz a L.length c (rowC f L)
theorem OwnR.nil (h : Hp) (e : TypeId) : OwnR f sz h e none 0 [] := Own.nil _ _ _
theorem OwnR.row {h : Hp} {e : TypeId} {a : Option Addr} {c : Nat} {L : List α} (H : OwnR f sz h e a c L) : RowAt f sz h a L := Own.slice H
theorem OwnR.le {h : Hp} {e : TypeId} {a : Option Addr} {c : Nat} {L : List α} (H : OwnR f sz h e a c L) : L.length ≤ c := H.2.1
theorem OwnR.sub {h h' : Hp} {e : TypeId} {a : Option Addr} {c : Nat} {L : List α} (H : OwnR f sz h e a c L) (s : Sub h h') : OwnR f sz h' e a c L := Own.sub H s
theorem OwnR.keep {S : Nat → Prop} {h h' : Hp} {e : TypeId} {a : Option Addr} {c : Nat} {L : List α} (H : OwnR f sz h e a c L) (s : Keep S h h') (hn : ∀ c, blkOf a c → ¬ S c) : OwnR f sz h' e a c L := Own.keep H s hn
/-- A row that was made behind the heap h. -/
structure NewR (f : α → List Value) (sz : Nat) (e : TypeId) (h h' : Hp) (a : Option Addr) (c : Nat) (L : List α) : Prop where
  sub : Sub h h'
  new : ∀ b, blkOf a b → h b = none
  own : OwnR f sz h' e a c L
theorem NewR.nil (e : TypeId) (h : Hp) : NewR f sz e h h none 0 [] := ⟨Sub.refl h, (by rintro b ⟨o, s, e⟩; cases e), OwnR.nil h e⟩
theorem NewR.upd {e : TypeId} {h h' : Hp} {a : Option Addr} {c : Nat} {L : List α} (N : NewR f sz e h h' a c L) {h2 : Hp} (s : Sub h' h2) : NewR f sz e h h2 a c L := ⟨N.sub.trans s, N.new, N.own.sub s⟩
theorem NewR.back {e : TypeId} {h h0 h' : Hp} {a : Option Addr} {c : Nat} {L : List α} (N : NewR f sz e h h' a c L) (s : Sub h0 h) : NewR f sz e h0 h' a c L := ⟨s.trans N.sub, fun b hb => s.none (N.new b hb), N.own⟩
theorem append_row {P : Program} {e : TypeId} {by_ : Nat} (T : AppT P e sz by_) (hf : ∀ x, (f x).length = sz) (hp : ∀ x, plainP (f x)) {h0 h : Hp} {a : Option Addr} {c : Nat} {L M : List α} {l n : Nat} {ys : List Value} {J : Option Addr → Nat → Hp → Prop} (N : NewR f sz e h0 h a c L)
    (hl : l = L.length) (hn : n = M.length) (hy : ys = rowC f M) (hb : (2 * (L.length + M.length) + 768) * by_ ≤ 281474976710656)
    (hJ : ∀ a' c' h', NewR f sz e h0 h' a' c' (L ++ M) → J a' c' h') : appendC P e a l c h ys n J := by
  subst hl; subst hn; subst hy
  refine append_new T N.sub N.new N.own (rowC_length hf M) (rowC_plain hp M) hb fun a' c' h' g1 g2 g3 => hJ a' c' h' ⟨g1, g2, ?_⟩
  unfold OwnR
  rw [List.length_append, rowC_append]
  exact g3
/-- An append to a row that is owned. -/
theorem append_ownR {P : Program} {e : TypeId} {by_ : Nat} (T : AppT P e sz by_) (hf : ∀ x, (f x).length = sz) (hp : ∀ x, plainP (f x)) {h : Hp} {a : Option Addr} {c : Nat} {L M : List α} {l n : Nat} {ys : List Value} {J : Option Addr → Nat → Hp → Prop} (N : OwnR f sz h e a c L)
    (hl : l = L.length) (hn : n = M.length) (hy : ys = rowC f M) (hb : (2 * (L.length + M.length) + 768) * by_ ≤ 281474976710656)
    (hJ : ∀ a' c' h', OwnR f sz h' e a' c' (L ++ M) → Keep (blkOf a) h h' → (∀ b, blkOf a' b → blkOf a b ∨ h b = none) → J a' c' h') : appendC P e a l c h ys n J := by
  subst hl; subst hn; subst hy
  refine append_own T N (rowC_length hf M) (rowC_plain hp M) hb fun a' c' h' g1 g2 g3 _ => hJ a' c' h' ?_ g2 g3
  unfold OwnR
  rw [List.length_append, rowC_append]
  exact g1
theorem plainP_of {vs : List Value} (h : vs.all (fun v => match v with | .agg _ => false | .tuple _ => false | _ => true) = true) : plainP vs := fun v hv => by
  have := List.all_eq_true.1 h v hv
  constructor
  · intro c e; subst e; cases this
  · intro c e; subst e; cases this
end Go.Gx
