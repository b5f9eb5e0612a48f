/- From a slice that a law is given to a row of elements. Conditions: the elements are of a type of numbers, bools, texts. -/
import Derived.Test.YtagglohkipioiaaGreatGxL
import Derived.Test.YtagglohkipioiaaGreatGxR
namespace Go.Gx
theorem RowOk.row {α : Type} {f : α → List Value} {sz : Nat} {p : α → Prop} {P : Program} {w : World} {e : TypeId} {a : Option Addr} {l : Nat} (H : RowOk P w e a l) (hf : ∀ x, (f x).length = sz) (hz : 0 < sz) (es : P.cellsOf e = sz)
    (hd : ∀ cs, KdsOk (kds P e) cs → ∃ x, cs = f x ∧ p x) : ∃ L : List α, L.length = l ∧ RowAt f sz (heapOf w) a L ∧ ∀ x ∈ L, p x := by
  by_cases hl : l = 0
  · subst hl
    exact ⟨[], rfl, RowAt.nil _ _, fun x hx => by cases hx⟩
  have ex : ∀ i, i < l → ∃ x : α, p x ∧ ∃ b o, a = some ⟨b, o, none⟩ ∧ ∀ j (hj : j < (f x).length), (heapOf w).cell b (o + i * sz + j) = some (f x)[j] := by
    intro i hi
    obtain ⟨b, o, ea, cs, hk, hc⟩ := H i hi
    obtain ⟨x, rfl, hp⟩ := hd cs hk
    rw [es] at hc
    exact ⟨x, hp, b, o, ea, hc⟩
  obtain ⟨_, _, b, o, ea, _⟩ := ex 0 (by omega)
  have all : ∀ n, n ≤ l → ∃ L : List α, L.length = n ∧ CellsAt (heapOf w) b o (rowC f L) ∧ ∀ x ∈ L, p x := by
    intro n
    induction n with
    | zero => exact fun _ => ⟨[], rfl, fun i hi => by simp [rowC] at hi, fun x hx => by cases hx⟩
    | succ n ih =>
      intro hn
      obtain ⟨L, h1, h2, h3⟩ := ih (by omega)
      obtain ⟨x, hp, b', o', ea', hc⟩ := ex n (by omega)
      rw [ea] at ea'; cases ea'
      refine ⟨L ++ [x], by simp [h1], fun i hi => ?_, fun y hy => ?_⟩
      · have hlen := rowC_length hf L
        have hg : (rowC f (L ++ [x]))[i]? = some (rowC f (L ++ [x]))[i] := List.getElem?_eq_getElem hi
        rw [← hg]
        rw [rowC_length hf, List.length_append, List.length_singleton, h1, Nat.add_mul] at hi
        rw [rowC_append, rowC_one]
        by_cases hc' : i < (rowC f L).length
        · rw [List.getElem?_append_left hc', List.getElem?_eq_getElem hc']; exact h2 i hc'
        · rw [List.getElem?_append_right (by omega)]
          have hj : i - (rowC f L).length < (f x).length := by rw [hf]; rw [hlen, h1]; omega
          have := hc _ hj
          rw [List.getElem?_eq_getElem hj, ← this]
          congr 1
          rw [hlen, h1] at hc' ⊢; omega
      · rcases List.mem_append.1 hy with hy | hy
        · exact h3 y hy
        · rw [List.mem_singleton.1 hy]; exact hp
  obtain ⟨L, h1, h2, h3⟩ := all l (Nat.le_refl _)
  exact ⟨L, h1, ⟨rowC_length hf L, .inr ⟨b, o, ea, h2⟩⟩, h3⟩
end Go.Gx
