/- Maps from pages to texts, as lists. Conditions: none beyond each law's own. -/
import Derived.Test.YtagglohkipioiaaP6
namespace Go.Proofs.Ytagglohkipioiaa
open Go.Gx
set_option maxRecDepth 100000
set_option linter.unusedVariables false

def mapD (L : List Ch) : List (Value × Value) := L.map fun e => (.int .i64 (e.1 : Nat), .string e.2)
def dget (L : List Ch) (i : Nat) : Option ByteArray := (L.find? fun e => e.1 == i).map (·.2)
def dset (L : List Ch) (i : Nat) (s : ByteArray) : List Ch :=
  match dget L i with
  | some _ => L.map fun e => if e.1 = i then (i, s) else e
  | none => L ++ [(i, s)]
def ddel (L : List Ch) (i : Nat) : List Ch := L.filter fun e => e.1 != i
theorem key_eq {a b : Nat} : (Value.int .i64 (a : Nat) = Value.int .i64 (b : Nat)) ↔ a = b := by
  constructor
  · intro h; cases h with
    | refl => rfl
  · rintro rfl; rfl
theorem mapD_get (L : List Ch) (i : Nat) : mget (mapD L) (.int .i64 (i : Nat)) = (dget L i).map .string := by
  unfold mget mapD dget
  induction L with
  | nil => rfl
  | cons e L ih =>
    rw [List.map_cons]
    by_cases h : e.1 = i
    · rw [List.find?_cons_of_pos (by simpa using congrArg (fun n : Nat => (n : Int)) h), List.find?_cons_of_pos (by simpa using h)]; rfl
    · rw [List.find?_cons_of_neg (by simpa using fun e' => h (by omega)), List.find?_cons_of_neg (by simpa using h)]; exact ih
theorem mapD_set (L : List Ch) (i : Nat) (s : ByteArray) : mset (mapD L) (.int .i64 (i : Nat)) (.string s) = mapD (dset L i s) := by
  unfold mset dset
  rw [mapD_get]
  cases h : dget L i with
  | none =>
    show mapD L ++ _ = mapD (L ++ _)
    unfold mapD
    rw [List.map_append]; rfl
  | some t =>
    show (mapD L).map _ = mapD (L.map _)
    unfold mapD
    rw [List.map_map, List.map_map]
    refine List.map_congr_left fun e _ => ?_
    simp only [Function.comp]
    by_cases he : e.1 = i
    · rw [if_pos (by rw [he]), if_pos he]
    · rw [if_neg (fun h => he (key_eq.1 h)), if_neg he]
theorem mapD_del (L : List Ch) (i : Nat) : mdel (mapD L) (.int .i64 (i : Nat)) = mapD (ddel L i) := by
  unfold mdel mapD ddel
  rw [List.filter_map]
  congr 1
  refine List.filter_congr fun e _ => ?_
  simp only [Function.comp]
  by_cases he : e.1 = i
  · have h1 : (e.1 != i) = false := by simpa using he
    rw [h1]
    simpa using congrArg (fun n : Nat => (n : Int)) he
  · have h1 : (e.1 != i) = true := by simpa using he
    rw [h1]
    simpa using fun e' => he (by omega)
theorem dget_set (L : List Ch) (i j : Nat) (s : ByteArray) : dget (dset L i s) j = if j = i then some s else dget L j := by
  have h1 := mget_mset (mapD L) (.int .i64 (i : Nat)) (.string s) (.int .i64 (j : Nat))
  rw [mapD_set, mapD_get, mapD_get] at h1
  by_cases e : j = i
  · rw [if_pos e]
    have := h1.1 (key_eq.2 e)
    cases hd : dget (dset L i s) j with
    | none => rw [hd] at this; cases this
    | some t => rw [hd] at this; cases this; rfl
  · rw [if_neg e]
    have := h1.2 fun h => e (key_eq.1 h)
    cases hd : dget (dset L i s) j with
    | none =>
      rw [hd] at this
      cases hd2 : dget L j with
      | none => rfl
      | some t => rw [hd2] at this; cases this
    | some t =>
      rw [hd] at this
      cases hd2 : dget L j with
      | none => rw [hd2] at this; cases this
      | some t2 => rw [hd2] at this; cases this; rfl
theorem dget_del (L : List Ch) (i j : Nat) : dget (ddel L i) j = if j = i then none else dget L j := by
  unfold dget ddel
  induction L with
  | nil => split <;> rfl
  | cons e L ih =>
    by_cases h : e.1 = i
    · rw [List.filter_cons_of_neg (by simpa using h), ih]
      by_cases hj : j = i
      · rw [if_pos hj, if_pos hj]
      · rw [if_neg hj, if_neg hj, List.find?_cons_of_neg (by simpa using fun e' => hj (by omega))]
    · rw [List.filter_cons_of_pos (by simpa using h)]
      by_cases hj : e.1 = j
      · rw [List.find?_cons_of_pos (by simpa using hj), List.find?_cons_of_pos (by simpa using hj), if_neg (by omega)]
      · rw [List.find?_cons_of_neg (by simpa using hj), List.find?_cons_of_neg (by simpa using hj)]; exact ih
/-- Keys once each, small pages, whole pages. -/
structure DOk (n : Nat) (L : List Ch) : Prop where
  nd : (L.map (·.1)).Nodup
  mem : ∀ e ∈ L, e.1 < n ∧ e.2.size = 1024
theorem DOk.nil (n : Nat) : DOk n [] := ⟨List.nodup_nil, fun e h => by cases h⟩
theorem dget_mem {L : List Ch} {i : Nat} {s : ByteArray} (h : dget L i = some s) : (i, s) ∈ L := by
  unfold dget at h
  obtain ⟨e, he, hs⟩ := Option.map_eq_some_iff.1 h
  have h1 := List.mem_of_find?_eq_some he
  have h2 : e.1 = i := by simpa using List.find?_some he
  obtain ⟨a, b⟩ := e
  cases hs; cases h2; exact h1
theorem dget_none {L : List Ch} {i : Nat} (h : dget L i = none) : ∀ e ∈ L, e.1 ≠ i := fun e he h2 => by
  unfold dget at h
  rw [Option.map_eq_none_iff, List.find?_eq_none] at h
  exact h e he (by simpa using h2)
theorem mem_dget {L : List Ch} (hn : (L.map (·.1)).Nodup) {i : Nat} {s : ByteArray} (h : (i, s) ∈ L) : dget L i = some s := by
  induction L with
  | nil => cases h
  | cons e L ih =>
    rw [List.map_cons, List.nodup_cons] at hn
    unfold dget
    rcases List.mem_cons.1 h with rfl | h
    · rw [List.find?_cons_of_pos (by simp)]; rfl
    · rw [List.find?_cons_of_neg (by
        have : e.1 ≠ i := fun e' => hn.1 (List.mem_map.2 ⟨_, h, e'.symm⟩)
        simpa using this)]
      exact ih hn.2 h
theorem DOk.set {n : Nat} {L : List Ch} (H : DOk n L) {i : Nat} {s : ByteArray} (hi : i < n) (hs : s.size = 1024) : DOk n (dset L i s) := by
  unfold dset
  cases h : dget L i with
  | none =>
    refine ⟨?_, fun e he => ?_⟩
    · rw [List.map_append, List.nodup_append]
      refine ⟨H.nd, by simp, fun a ha b hb => ?_⟩
      obtain ⟨e, he, rfl⟩ := List.mem_map.1 ha
      have : b = i := by simpa using hb
      rw [this]; exact dget_none h e he
    · rcases List.mem_append.1 he with he | he
      · exact H.mem e he
      · rw [List.mem_singleton.1 he]; exact ⟨hi, hs⟩
  | some t =>
    refine ⟨?_, fun e he => ?_⟩
    · show ((L.map _).map _).Nodup
      rw [List.map_map]
      have : (L.map ((fun x : Ch => x.1) ∘ fun e => if e.1 = i then (i, s) else e)) = L.map (·.1) := List.map_congr_left fun e _ => by
        simp only [Function.comp]
        by_cases he : e.1 = i
        · rw [if_pos he, he]
        · rw [if_neg he]
      rw [this]; exact H.nd
    · obtain ⟨e', he', rfl⟩ := List.mem_map.1 he
      by_cases h2 : e'.1 = i
      · rw [if_pos h2]; exact ⟨hi, hs⟩
      · rw [if_neg h2]; exact H.mem e' he'
theorem DOk.del {n : Nat} {L : List Ch} (H : DOk n L) (i : Nat) : DOk n (ddel L i) :=
  ⟨H.nd.sublist (List.filter_sublist.map _), fun e he => H.mem e (List.mem_filter.1 he).1⟩
theorem nodup_below : ∀ (n : Nat) (l : List Nat), l.Nodup → (∀ x ∈ l, x < n) → l.length ≤ n
  | 0, l, _, h => by
    cases l with
    | nil => exact Nat.le_refl _
    | cons x l => exact absurd (h x List.mem_cons_self) (Nat.not_lt_zero _)
  | n + 1, l, hn, h => by
    by_cases hm : n ∈ l
    · have h1 := nodup_below n (l.erase n) (hn.erase n) fun x hx => by
        have h2 := h x (List.mem_of_mem_erase hx)
        have h3 : x ≠ n := fun e => by rw [e] at hx; exact (List.Nodup.not_mem_erase hn) hx
        omega
      rw [List.length_erase_of_mem hm] at h1
      omega
    · have := nodup_below n l hn fun x hx => by
        have h2 := h x hx
        have h3 : x ≠ n := fun e => hm (e ▸ hx)
        omega
      omega
theorem DOk.len {n : Nat} {L : List Ch} (H : DOk n L) : L.length ≤ n := by
  have := nodup_below n (L.map (·.1)) H.nd fun x hx => by
    obtain ⟨e, he, rfl⟩ := List.mem_map.1 hx
    exact (H.mem e he).1
  rw [List.length_map] at this; exact this
end Go.Proofs.Ytagglohkipioiaa
