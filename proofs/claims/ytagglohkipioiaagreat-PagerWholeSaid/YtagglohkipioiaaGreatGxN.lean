/- Rows that lie in the fields of an argument. Conditions: the argument is readable as its type. -/
import Derived.Test.YtagglohkipioiaaGreatGxL
namespace Go.Gx
open Go.RowKit
set_option linter.unusedVariables false
variable {H : Type} {enc : TypeId × Value → H} {P : Program} {w : World} {sp : Nat → Bool}
theorem mapM_mem {α β : Type} {F : α → Option β} : ∀ {l : List α} {ys : List β}, l.mapM F = some ys → ∀ {x : α}, x ∈ l → ∃ y, F x = some y
  | [], _, _, _, hx => by cases hx
  | a :: l, ys, h, x, hx => by
    rw [List.mapM_cons] at h
    cases h1 : F a with
    | none => simp [h1] at h
    | some v =>
      cases h2 : l.mapM F with
      | none => simp [h1, h2] at h
      | some vs =>
        rcases List.mem_cons.1 hx with rfl | hx
        · exact ⟨v, h1⟩
        · exact mapM_mem h2 hx
theorem field_row {t ft e : TypeId} {fs : Array Field} {cs : Array Value} {d : DataW H} {ps : List MemPlace} {o j : Nat} {a : Option Addr} {l c : Nat} (hu : P.underlying t = some (.struct fs)) (h : DataW.Trod enc P w 0 sp true t (.agg cs) d ps)
    (hf : (fs.toList[j]?).map (fun f => (f.offset, f.type)) = some (o, ft)) (hft : P.underlying ft = some (.slice e)) (hlay : layOk P 8 e = true) (hpos : Nat.blt 0 (P.cellsOf e) = true) (hz : P.cellsOf ft = 1) (hc : (cs.toList.drop o).take 1 = [.slice a l c]) :
    RowOk P w e a l ∧ l ≤ c ∧ c ≤ maxLen ∧ (a = none → l = 0 ∧ c = 0) := by
  obtain ⟨fuel, hF⟩ := h
  obtain ⟨f, hf1, hf2⟩ := Option.map_eq_some_iff.1 hf
  cases hf2
  have hm : f ∈ fs.toList := List.mem_of_getElem? hf1
  cases fuel with
  | zero => cases hF
  | succ fuel =>
    unfold DataW.trod at hF
    rw [hu] at hF
    simp only [] at hF
    split at hF
    · obtain ⟨ys, hy, _⟩ := Option.map_eq_some_iff.1 hF
      obtain ⟨y, hy2⟩ := mapM_mem hy hm
      have hc' : ((Value.agg cs).cells.toList.drop f.offset).take 1 = [.slice a l c] := hc
      rw [hz, hc'] at hy2
      exact row_ok (d := y.1) (ps := y.2) hft hlay hpos rfl ⟨fuel, hy2⟩
    · cases hF
end Go.Gx
