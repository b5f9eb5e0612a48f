/- From a contract over heaps to a law's row: what a reading of arguments says of their cells, and what a call that keeps the old heap leaves. -/
import Derived.Test.YtagglohkipioiaaGreatGxSB
import Derived.ProofKit
import Derived.OpenShut
import Derived.ChangeOld
import Derived.Below
import Derived.Carry
import Derived.Deep.Slices
namespace Go.Gx
open Go.RowKit

/-- The heap of a world, whole. -/
def heapOf (W : World) : Hp := fun b => W.heap[b]?
theorem heapOf_holds (W : World) : Holds (heapOf W) W := fun _ _ h => h
theorem heapOf_cell {W : World} {b o : Nat} {v : Value} (h : W.cell? ⟨b, o, none⟩ = some v) : (heapOf W).cell b o = some v := by
  unfold World.cell? at h
  unfold Hp.cell heapOf
  split at h
  · rename_i c t f hb
    simp only [Option.isSome_none, Bool.false_eq_true, if_false] at h
    rw [hb]; exact h
  · cases h
theorem calls_below {P : Program} {f : FuncId} {args : Array Value} {W : World} (H : CallsH P f args (heapOf W) fun v h' => v = .bool true ∧ Sub (heapOf W) h') :
    Calls P f args W fun e W' => e = .returned (.bool true) ∧ Below W.heap.size W W' := by
  refine Calls.mono (H W (heapOf_holds W)) fun e W' ⟨v, h', he, ⟨hv, hs⟩, hh, hk⟩ => ⟨by rw [he, hv], ⟨hk.os, hk.tape, hk.output, hk.size, fun k hlt => ?_⟩⟩
  have h1 : W.heap[k]? = some W.heap[k] := Array.getElem?_eq_getElem hlt
  rw [h1]
  exact hh k _ (hs k _ h1)

/-! ### what a reading says of cells -/
def KdOk : Kd → Value → Prop
  | .int k, v => ∃ n, v = .int k n ∧ (Lit.int k n).wf = true
  | .bool, v => ∃ b, v = .bool b
  | .str, v => ∃ s, v = .string s ∧ s.size ≤ maxLen
  | .slice, v => ∃ a l c, v = .slice a l c ∧ l ≤ c
  | .ptr, v => ∃ a, v = .pointer a
  | .map, v => ∃ r, v = .map r
  | .any, _ => True
def KdsOk : List Kd → List Value → Prop
  | [], [] => True
  | k :: ks, v :: vs => KdOk k v ∧ KdsOk ks vs
  | _, _ => False
theorem KdsOk.append : ∀ {ks ks' : List Kd} {vs vs' : List Value}, KdsOk ks vs → KdsOk ks' vs' → KdsOk (ks ++ ks') (vs ++ vs')
  | [], _, [], _, _, h' => h'
  | [], _, _ :: _, _, h, _ => h.elim
  | _ :: _, _, [], _, h, _ => h.elim
  | _ :: _, _, _ :: _, _, h, h' => ⟨h.1, KdsOk.append h.2 h'⟩
/-- Pieces lie one behind the other. -/
def laySegs (P : Program) (d : Nat) (lay : TypeId → Bool) : List (Nat × TypeId) → Nat → Bool
  | [], _ => true
  | (o, t) :: l, n => Nat.beq o n && Nat.beq (kdsIn P d t).length (P.cellsOf t) && lay t && laySegs P d lay l (n + P.cellsOf t)
def segsOf (P : Program) : TypeDesc → List (Nat × TypeId)
  | .struct fs => fs.toList.map fun f => (f.offset, f.type)
  | .array n e => (List.range n).map fun i => (i * P.cellsOf e, e)
  | _ => []
def layOk (P : Program) : Nat → TypeId → Bool
  | 0, _ => false
  | d + 1, t => laySegs P d (layOk P d) (segsOf P (tdesc P t)) 0 && Nat.beq (P.cellsOf t) (kdsIn P (d + 1) t).length
theorem kdsIn_succ (P : Program) (d : Nat) (t : TypeId) : kdsIn P (d + 1) t = match tdesc P t with
    | .struct fs => fs.toList.flatMap fun f => kdsIn P d f.type
    | .array n e => (List.replicate n (kdsIn P d e)).flatten
    | u => [kd1 u] := rfl
theorem kdsIn_segs {P : Program} {d : Nat} {t : TypeId} (h : aggT P t = true) : kdsIn P (d + 1) t = (segsOf P (tdesc P t)).flatMap fun x => kdsIn P d x.2 := by
  rw [kdsIn_succ]
  unfold aggT at h
  split at h
  · rename_i fs e
    rw [e]
    simp only [segsOf]
    rw [List.flatMap_map]
  · rename_i n e' e
    rw [e]
    simp only [segsOf]
    rw [List.flatMap_map]
    clear e h
    change (List.replicate n (kdsIn P d e')).flatten = (List.range n).flatMap fun _ => kdsIn P d e'
    generalize kdsIn P d e' = ks
    induction n with
    | zero => rfl
    | succ n ih => rw [List.replicate_succ', List.flatten_append, List.range_succ, List.flatMap_append, ih]; simp
  · cases h
section
variable {H : Type} {enc : TypeId × Value → H} {P : Program} {w : World} {sp : Nat → Bool}
theorem segs_ok {d fuel : Nat} (ih : ∀ t cs x, DataW.trod enc P w 0 sp true fuel t cs = some x → layOk P d t = true → KdsOk (kdsIn P d t) cs) (cs : List Value) :
    ∀ (l : List (Nat × TypeId)) (n : Nat) (xs), laySegs P d (layOk P d) l n = true → l.mapM (fun x => DataW.trod enc P w 0 sp true fuel x.2 ((cs.drop x.1).take (P.cellsOf x.2))) = some xs →
      cs.length = n + (l.flatMap fun x => kdsIn P d x.2).length → KdsOk (l.flatMap fun x => kdsIn P d x.2) (cs.drop n)
  | [], n, xs, _, _, hl => by
    have : cs.drop n = [] := List.drop_eq_nil_of_le (by simp at hl; omega)
    rw [this]; exact trivial
  | (o, t) :: l, n, xs, hlay, hm, hl => by
    unfold laySegs at hlay
    obtain ⟨h1, h2⟩ := Bool.and_eq_true_iff.1 hlay
    obtain ⟨h3, h4⟩ := Bool.and_eq_true_iff.1 h1
    obtain ⟨h5, h6⟩ := Bool.and_eq_true_iff.1 h3
    have h5 := Nat.eq_of_beq_eq_true h5
    have h6 := Nat.eq_of_beq_eq_true h6
    subst h5
    rw [List.mapM_cons] at hm
    cases hx : DataW.trod enc P w 0 sp true fuel t ((cs.drop o).take (P.cellsOf t)) with
    | none => simp [hx] at hm
    | some x =>
      simp only [hx] at hm
      cases hr : l.mapM (fun x => DataW.trod enc P w 0 sp true fuel x.2 ((cs.drop x.1).take (P.cellsOf x.2))) with
      | none => simp [hr] at hm
      | some ys =>
        rw [List.flatMap_cons, List.length_append] at hl
        have hl : cs.length = o + ((kdsIn P d t).length + (l.flatMap fun x => kdsIn P d x.2).length) := hl
        have g := segs_ok ih cs l (o + P.cellsOf t) ys h2 hr (by omega)
        have e : cs.drop o = (cs.drop o).take (P.cellsOf t) ++ cs.drop (o + P.cellsOf t) := by
          rw [← List.drop_drop]; exact (List.take_append_drop _ _).symm
        rw [List.flatMap_cons, e]
        exact (ih t _ x hx h4).append g
theorem bind_isSome {α β : Type} {x : Option α} {f : α → Option β} {y : β} (h : x.bind f = some y) : ∃ a, x = some a ∧ f a = some y := by
  cases x with
  | none => cases h
  | some a => exact ⟨a, rfl, h⟩
theorem trod_kds : ∀ (d fuel : Nat) (t : TypeId) (cs : List Value) (x : DataW H × List MemPlace), DataW.trod enc P w 0 sp true fuel t cs = some x → layOk P d t = true → KdsOk (kdsIn P d t) cs
  | 0, _, _, _, _, _, h => by cases h
  | d + 1, 0, _, _, _, h, _ => by cases h
  | d + 1, fuel + 1, t, cs, x, h, hlay => by
    unfold layOk at hlay
    obtain ⟨h1, h2⟩ := Bool.and_eq_true_iff.1 hlay
    have h2 := Nat.eq_of_beq_eq_true h2
    have ih := trod_kds d fuel
    cases ha : aggT P t with
    | true =>
      have ek := kdsIn_segs (P := P) (d := d) ha
      rw [ek] at h2 ⊢
      unfold aggT at ha
      unfold DataW.trod at h
      split at ha
      · rename_i fs e
        rw [tdesc_some e (by simp)] at h
        simp only [] at h
        split at h
        · rename_i hlen
          obtain ⟨ys, hm, _⟩ := Option.map_eq_some_iff.1 h
          have hm' : (segsOf P (tdesc P t)).mapM (fun x => DataW.trod enc P w 0 sp true fuel x.2 ((cs.drop x.1).take (P.cellsOf x.2))) = some ys := by
            rw [e]; simp only [segsOf]; rw [List.mapM_map]; exact hm
          have := segs_ok ih cs _ 0 ys h1 hm' (by omega)
          simpa using this
        · cases h
      · rename_i n e' e
        rw [tdesc_some e (by simp)] at h
        simp only [] at h
        split at h
        · rename_i hlen
          obtain ⟨ys, hm, _⟩ := Option.map_eq_some_iff.1 h
          have hm' : (segsOf P (tdesc P t)).mapM (fun x => DataW.trod enc P w 0 sp true fuel x.2 ((cs.drop x.1).take (P.cellsOf x.2))) = some ys := by
            rw [e]; simp only [segsOf]; rw [List.mapM_map]; exact hm
          have := segs_ok ih cs _ 0 ys h1 hm' (by omega)
          simpa using this
        · cases h
      · cases ha
    | false =>
      have ek : kdsIn P (d + 1) t = [kd1 (tdesc P t)] := by
        rw [kdsIn_succ]
        unfold aggT at ha
        split <;> first | rfl | (rename_i e; rw [e] at ha; cases ha)
      rw [ek]
      unfold aggT at ha
      simp only [DataW.trod] at h
      cases hu : P.underlying t with
      | none => rw [hu] at h; cases h
      | some u =>
        have et : tdesc P t = u := by unfold tdesc; rw [hu]; rfl
        rw [hu] at h
        rw [et] at ha ⊢
        match cs, h with
        | [], h => cases u <;> first | (cases ha; done) | (simp at h)
        | c :: c' :: cs, h => cases u <;> first | (cases ha; done) | (simp at h)
        | [c], h =>
          refine ⟨?_, trivial⟩
          cases u <;> first
            | (cases ha; done)
            | exact trivial
            | skip
          all_goals (cases c <;> first | (simp at h; done) | skip)
          · exact ⟨_, rfl⟩
          · rename_i k k' n
            simp only [] at h
            split at h
            · rename_i hk; obtain ⟨rfl, hw⟩ := hk; exact ⟨_, rfl, hw⟩
            · cases h
          · rename_i s
            simp only [] at h
            split at h
            · rename_i hk; exact ⟨_, rfl, hk⟩
            · cases h
          · exact ⟨_, rfl⟩
          · rename_i a l c
            cases a with
            | none =>
              match l, c, h with
              | 0, 0, _ => exact ⟨_, _, _, rfl, Nat.le_refl _⟩
              | 0, c + 1, h => simp at h
              | l + 1, c, h => simp at h
            | some ad =>
              simp only [] at h
              split at h
              · rename_i hk; exact ⟨_, _, _, rfl, hk.2.1⟩
              · cases h
          · exact ⟨_, rfl⟩
theorem cells?_get {base : Nat} {a : Addr} {n : Nat} {cs : List Value} (h : w.cells? base a n = some cs) : cs.length = n ∧ ∀ j (hj : j < cs.length), w.cell? (a.add j) = some cs[j] := by
  unfold World.cells? at h
  split at h
  · have key : ∀ (l : List Nat) (cs : List Value), l.mapM (fun i => w.cell? (a.add i)) = some cs → cs.length = l.length ∧ ∀ j (hj : j < cs.length) (hl : j < l.length), w.cell? (a.add l[j]) = some cs[j] := by
      intro l
      induction l with
      | nil => intro cs h; simp at h; subst h; exact ⟨rfl, fun j hj => by simp at hj⟩
      | cons i l ih =>
        intro cs h
        rw [List.mapM_cons] at h
        cases h1 : w.cell? (a.add i) with
        | none => simp [h1] at h
        | some v =>
          cases h2 : l.mapM (fun i => w.cell? (a.add i)) with
          | none => simp [h1, h2] at h
          | some vs =>
            simp [h1, h2] at h
            subst h
            obtain ⟨g1, g2⟩ := ih vs h2
            refine ⟨by simp [g1], fun j hj hl => ?_⟩
            cases j with
            | zero => exact h1
            | succ j => exact g2 j (by simpa using hj) (by simpa using hl)
    obtain ⟨g1, g2⟩ := key _ _ h
    rw [List.length_range] at g1
    refine ⟨g1, fun j hj => ?_⟩
    have := g2 j hj (by rw [List.length_range]; omega)
    rw [List.getElem_range] at this; exact this
  · cases h
theorem spot_none {a : Addr} {j : Nat} {v : Value} (h : w.cell? (a.add j) = some v) : (a.add j).spot = none := by
  unfold World.cell? at h
  split at h
  · cases e : (a.add j).spot with
    | none => rfl
    | some s => rw [e] at h; simp at h
  · cases h
/-- A slice of elements of a layable type: what its first elements' cells hold. -/
def RowOk (P : Program) (w : World) (e : TypeId) (a : Option Addr) (l : Nat) : Prop :=
  ∀ i, i < l → ∃ b o, a = some ⟨b, o, none⟩ ∧ ∃ cs, KdsOk (kds P e) cs ∧ ∀ j (hj : j < cs.length), (heapOf w).cell b (o + i * P.cellsOf e + j) = some cs[j]
theorem row_ok {t e : TypeId} {v : Value} {d : DataW H} {ps : List MemPlace} {a : Option Addr} {l c : Nat} (ht : P.underlying t = some (.slice e)) (hlay : layOk P 8 e = true) (hpos : Nat.blt 0 (P.cellsOf e) = true) (hv : v = .slice a l c)
    (h : DataW.Trod enc P w 0 sp true t v d ps) : RowOk P w e a l ∧ l ≤ c ∧ c ≤ maxLen ∧ (a = none → l = 0 ∧ c = 0) := by
  subst hv
  obtain ⟨fuel, hf⟩ := h
  rcases Deep.open_slice ht hf with ⟨hcs, _⟩ | ⟨ad, len, cap, m, n, D, Pl, hcs, _, hl, hm, hmm, _, hel⟩
  · simp [Value.cells] at hcs
    obtain ⟨rfl, rfl, rfl⟩ := hcs
    exact ⟨fun i hi => by omega, Nat.le_refl _, Nat.zero_le _, fun _ => ⟨rfl, rfl⟩⟩
  · simp [Value.cells] at hcs
    obtain ⟨rfl, rfl, rfl⟩ := hcs
    refine ⟨fun i hi => ?_, hl, hm, fun h => by cases h⟩
    have him : i < m := by
      have : l ≤ m := by rw [hmm]; split <;> omega
      omega
    obtain ⟨cs, h1, h2⟩ := hel i him
    obtain ⟨g1, g2⟩ := cells?_get h1
    have hk := trod_kds 8 n e cs _ h2 hlay
    have hp : 0 < P.cellsOf e := Nat.le_of_ble_eq_true hpos
    have h0 := g2 0 (by omega)
    have hs : ad.spot = none := by
      obtain ⟨cs0, k1, k2⟩ := hel 0 (by omega)
      have := (cells?_get k1)
      have g3 := this.2 0 (by omega)
      have := spot_none g3
      simpa [Addr.add] using this
    obtain ⟨b, o, s⟩ := ad
    simp only at hs
    subst hs
    refine ⟨b, o, rfl, cs, hk, fun j hj => ?_⟩
    have := g2 j hj
    rw [add_mk, add_mk] at this
    exact heapOf_cell this
theorem agg_ok {t : TypeId} {v : Value} {r : Reach} {base : Nat} {d : DataW H} {ps : List MemPlace} (ha : aggT P t = true) (hlay : layOk P 8 t = true) (hv : Value.okWide P w r base t v) (h : DataW.Trod enc P w 0 sp true t v d ps) :
    ∃ cs, v = .agg cs ∧ KdsOk (kds P t) cs.toList := by
  obtain ⟨fuel, hf⟩ := h
  have hk := trod_kds 8 fuel t _ _ hf hlay
  unfold aggT at ha
  unfold Value.okWide at hv
  split at ha
  · rename_i e
    rw [tdesc_some e (by simp)] at hv
    obtain ⟨cs, rfl, _⟩ := hv
    exact ⟨cs, rfl, hk⟩
  · rename_i e
    rw [tdesc_some e (by simp)] at hv
    obtain ⟨cs, rfl, _⟩ := hv
    exact ⟨cs, rfl, hk⟩
  · cases ha
theorem KdsOk.nil_eq {vs : List Value} (h : KdsOk [] vs) : vs = [] := by cases vs with | nil => rfl | cons _ _ => exact h.elim
theorem KdsOk.cons_eq {k : Kd} {ks : List Kd} {vs : List Value} (h : KdsOk (k :: ks) vs) : ∃ v us, vs = v :: us ∧ KdOk k v ∧ KdsOk ks us := by
  cases vs with
  | nil => exact h.elim
  | cons v us => exact ⟨v, us, rfl, h.1, h.2⟩
end
end Go.Gx
