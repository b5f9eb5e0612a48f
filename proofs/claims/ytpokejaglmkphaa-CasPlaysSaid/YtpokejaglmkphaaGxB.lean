/- The lengths of the texts in a slice that a law is given: at most what one machine can hold. Conditions: those that each lemma names. -/
import Derived.Test.YtpokejaglmkphaaGxM
import Derived.SizedLaws
namespace Go.Gx
section
variable {H : Type} {enc : TypeId × Value → H} {P : Program} {w : World} {sp : Nat → Bool}
theorem weightsAll_mem {e : TypeId} {d : DataW H} {n : Nat} : ∀ {ds : List (DataW H)}, d ∈ ds → n ∈ d.weights P e → n ∈ DataW.weightsAll P e ds
  | [], h, _ => by cases h
  | d' :: ds, h, hn => by
    unfold DataW.weightsAll
    rw [List.mem_append]
    rcases List.mem_cons.1 h with rfl | h
    · exact .inl hn
    · exact .inr (weightsAll_mem h hn)
theorem each_all {e : TypeId} {n : Nat} : ∀ {ts : List TypeId} {ds : List (DataW H)}, (∀ t ∈ ts, t = e) → n ∈ DataW.weightsEach P ts ds → n ∈ DataW.weightsAll P e ds
  | t :: ts, d :: ds, h, hn => by
    unfold DataW.weightsEach at hn
    unfold DataW.weightsAll
    rw [List.mem_append] at hn ⊢
    rcases hn with hn | hn
    · rw [h t List.mem_cons_self] at hn; exact .inl hn
    · exact .inr (each_all (fun t ht => h t (List.mem_cons_of_mem _ ht)) hn)
  | [], [], _, hn => by simp [DataW.weightsEach] at hn
  | [], _ :: _, _, hn => by simp [DataW.weightsEach] at hn
  | _ :: _, [], _, hn => by simp [DataW.weightsEach] at hn
theorem segs_str {d fuel : Nat} (ih : ∀ t cs x, DataW.trod enc P w 0 sp true fuel t cs = some x → layOk P d t = true → ∀ s, Value.string s ∈ cs → s.size ∈ x.1.weights P t) (cs : List Value) (s : ByteArray) :
    ∀ (l : List (Nat × TypeId)) (n : Nat) (xs), laySegs P d (layOk P d) l n = true → l.mapM (fun x => DataW.trod enc P w 0 sp true fuel x.2 ((cs.drop x.1).take (P.cellsOf x.2))) = some xs →
      cs.length = n + (l.flatMap fun x => kdsIn P d x.2).length → Value.string s ∈ cs.drop n → s.size ∈ DataW.weightsEach P (l.map (·.2)) (xs.map (·.1))
  | [], n, xs, _, _, hl, hs => by
    have : cs.drop n = [] := List.drop_eq_nil_of_le (by simp at hl; omega)
    rw [this] at hs; cases hs
  | (o, t) :: l, n, xs, hlay, hm, hl, hs => by
    unfold laySegs at hlay
    obtain ⟨h1, h2⟩ := Bool.and_eq_true_iff.1 hlay
    obtain ⟨h3, h4⟩ := Bool.and_eq_true_iff.1 h1
    obtain ⟨h5, h6⟩ := Bool.and_eq_true_iff.1 h3
    have h5 := Nat.eq_of_beq_eq_true h5
    have h6 := Nat.eq_of_beq_eq_true h6
    subst h5
    rw [List.mapM_cons] at hm
    cases hx : DataW.trod enc P w 0 sp true fuel t ((cs.drop o).take (P.cellsOf t)) with
    | none => simp [hx] at hm
    | some x =>
      simp only [hx] at hm
      cases hr : l.mapM (fun x => DataW.trod enc P w 0 sp true fuel x.2 ((cs.drop x.1).take (P.cellsOf x.2))) with
      | none => simp [hr] at hm
      | some ys =>
        have hxs : xs = x :: ys := by simpa [hr, eq_comm] using hm
        subst hxs
        rw [List.flatMap_cons, List.length_append] at hl
        have hl : cs.length = o + ((kdsIn P d t).length + (l.flatMap fun x => kdsIn P d x.2).length) := hl
        rw [List.map_cons, List.map_cons]
        unfold DataW.weightsEach
        rw [List.mem_append]
        have e : cs.drop o = (cs.drop o).take (P.cellsOf t) ++ cs.drop (o + P.cellsOf t) := by
          rw [← List.drop_drop]; exact (List.take_append_drop _ _).symm
        rw [e] at hs
        rcases List.mem_append.1 hs with hs | hs
        · exact .inl (ih t _ x hx h4 s hs)
        · exact .inr (segs_str ih cs s l (o + P.cellsOf t) ys h2 hr (by omega) hs)
theorem trod_str : ∀ (d fuel : Nat) (t : TypeId) (cs : List Value) (x : DataW H × List MemPlace), DataW.trod enc P w 0 sp true fuel t cs = some x → layOk P d t = true → ∀ s, Value.string s ∈ cs → s.size ∈ x.1.weights P t
  | 0, _, _, _, _, _, h => by cases h
  | d + 1, 0, _, _, _, h, _ => by cases h
  | d + 1, fuel + 1, t, cs, x, h, hlay => by
    intro s hs
    unfold layOk at hlay
    obtain ⟨h1, h2⟩ := Bool.and_eq_true_iff.1 hlay
    have h2 := Nat.eq_of_beq_eq_true h2
    have ih := trod_str d fuel
    cases ha : aggT P t with
    | true =>
      have ek := kdsIn_segs (P := P) (d := d) ha
      rw [ek] at h2
      unfold aggT at ha
      unfold DataW.trod at h
      split at ha
      · rename_i fs e
        have eu := tdesc_some e (by simp)
        rw [eu] at h
        simp only [] at h
        split at h
        · rename_i hlen
          obtain ⟨ys, hm, rfl⟩ := Option.map_eq_some_iff.1 h
          have hm' : (segsOf P (tdesc P t)).mapM (fun x => DataW.trod enc P w 0 sp true fuel x.2 ((cs.drop x.1).take (P.cellsOf x.2))) = some ys := by
            rw [e]; simp only [segsOf]; rw [List.mapM_map]; exact hm
          have := segs_str ih cs s _ 0 ys h1 hm' (by omega) (by simpa using hs)
          rw [e] at this
          simp only [segsOf, List.map_map] at this
          simp only [DataW.weights, eu]
          exact this
        · cases h
      · rename_i n e' e
        have eu := tdesc_some e (by simp)
        rw [eu] at h
        simp only [] at h
        split at h
        · rename_i hlen
          obtain ⟨ys, hm, rfl⟩ := Option.map_eq_some_iff.1 h
          have hm' : (segsOf P (tdesc P t)).mapM (fun x => DataW.trod enc P w 0 sp true fuel x.2 ((cs.drop x.1).take (P.cellsOf x.2))) = some ys := by
            rw [e]; simp only [segsOf]; rw [List.mapM_map]; exact hm
          have := segs_str ih cs s _ 0 ys h1 hm' (by omega) (by simpa using hs)
          simp only [DataW.weights, eu]
          refine each_all (fun u hu => ?_) this
          rw [e] at hu
          simp only [segsOf, List.map_map] at hu
          obtain ⟨i, _, rfl⟩ := List.mem_map.1 hu
          rfl
        · cases h
      · cases ha
    | false =>
      unfold aggT at ha
      simp only [DataW.trod] at h
      cases hu : P.underlying t with
      | none => rw [hu] at h; cases h
      | some u =>
        have et : tdesc P t = u := by unfold tdesc; rw [hu]; rfl
        rw [hu] at h
        rw [et] at ha
        match cs, h, hs with
        | [], h, hs => cases hs
        | c :: c' :: cs, h, _ => cases u <;> first | (cases ha; done) | (simp at h)
        | [c], h, hs =>
          have ec := List.mem_singleton.1 hs
          subst ec
          cases u <;> first | (cases ha; done) | (simp at h; done) | skip
          simp only [] at h
          split at h
          · cases h
            simp [DataW.weights]
          · cases h
/-- A slice of elements, and how long the texts in them are. -/
def RowOkB (P : Program) (w : World) (e : TypeId) (N : Nat) (a : Option Addr) (l : Nat) : Prop :=
  ∀ i, i < l → ∃ b o, a = some ⟨b, o, none⟩ ∧ ∃ cs, KdsOk (kds P e) cs ∧ (∀ s, Value.string s ∈ cs → s.size ≤ N) ∧ ∀ j (hj : j < cs.length), (heapOf w).cell b (o + i * P.cellsOf e + j) = some cs[j]
theorem row_okB {t e : TypeId} {v : Value} {d : DataW H} {ps : List MemPlace} {a : Option Addr} {l c N : Nat} (ht : P.underlying t = some (.slice e)) (hlay : layOk P 8 e = true) (hpos : Nat.blt 0 (P.cellsOf e) = true) (hv : v = .slice a l c)
    (h : DataW.Trod enc P w 0 sp true t v d ps) (hN : ∀ n ∈ d.weights P t, n ≤ N) : RowOkB P w e N a l := by
  subst hv
  obtain ⟨fuel, hf⟩ := h
  rcases Deep.open_slice ht hf with ⟨hcs, _⟩ | ⟨ad, len, cap, m, n, D, Pl, hcs, _, hl, hm, hmm, hd, hel⟩
  · simp [Value.cells] at hcs
    obtain ⟨rfl, rfl, rfl⟩ := hcs
    exact fun i hi => by omega
  · simp [Value.cells] at hcs
    obtain ⟨rfl, rfl, rfl⟩ := hcs
    intro i hi
    have him : i < m := by
      have : l ≤ m := by rw [hmm]; split <;> omega
      omega
    obtain ⟨cs, h1, h2⟩ := hel i him
    obtain ⟨g1, g2⟩ := cells?_get h1
    have hk := trod_kds 8 n e cs _ h2 hlay
    have hst := trod_str 8 n e cs _ h2 hlay
    have hp : 0 < P.cellsOf e := Nat.le_of_ble_eq_true hpos
    have h0 := g2 0 (by omega)
    have hs : ad.spot = none := by
      obtain ⟨cs0, k1, k2⟩ := hel 0 (by omega)
      have := (cells?_get k1)
      have g3 := this.2 0 (by omega)
      have := spot_none g3
      simpa [Addr.add] using this
    obtain ⟨b, o, s⟩ := ad
    simp only at hs
    subst hs
    refine ⟨b, o, rfl, cs, hk, fun s hs => hN _ ?_, fun j hj => ?_⟩
    · have e1 : d = .slice ((List.range l).map D) ((List.range (m - l)).map fun j => D (l + j)) := congrArg Prod.fst hd
      rw [e1]
      simp only [DataW.weights, ht]
      refine List.mem_cons_of_mem _ (List.mem_append_left _ (weightsAll_mem (d := D i) (List.mem_map.2 ⟨i, List.mem_range.2 hi, rfl⟩) (hst s hs)))
    · have := g2 j hj
      rw [add_mk, add_mk] at this
      exact heapOf_cell this
theorem RowOkB.row {α : Type} {f : α → List Value} {sz N : Nat} {p : α → Prop} {e : TypeId} {a : Option Addr} {l : Nat} (B : RowOkB P w e N a l) (hf : ∀ x, (f x).length = sz) (hz : 0 < sz) (es : P.cellsOf e = sz)
    (hd : ∀ cs, KdsOk (kds P e) cs → (∀ s, Value.string s ∈ cs → s.size ≤ N) → ∃ x, cs = f x ∧ p x) : ∃ L : List α, L.length = l ∧ RowAt f sz (heapOf w) a L ∧ ∀ x ∈ L, p x := by
  by_cases hl : l = 0
  · subst hl
    exact ⟨[], rfl, RowAt.nil _ _, fun x hx => by cases hx⟩
  have ex : ∀ i, i < l → ∃ x : α, p x ∧ ∃ b o, a = some ⟨b, o, none⟩ ∧ ∀ j (hj : j < (f x).length), (heapOf w).cell b (o + i * sz + j) = some (f x)[j] := by
    intro i hi
    obtain ⟨b, o, ea, cs, hk, hs, hc⟩ := B i hi
    obtain ⟨x, rfl, hp⟩ := hd cs hk hs
    rw [es] at hc
    exact ⟨x, hp, b, o, ea, hc⟩
  obtain ⟨_, _, b, o, ea, _⟩ := ex 0 (by omega)
  have all : ∀ n, n ≤ l → ∃ L : List α, L.length = n ∧ CellsAt (heapOf w) b o (rowC f L) ∧ ∀ x ∈ L, p x := by
    intro n
    induction n with
    | zero => exact fun _ => ⟨[], rfl, fun i hi => by simp [rowC] at hi, fun x hx => by cases hx⟩
    | succ n ih =>
      intro hn
      obtain ⟨L, h1, h2, h3⟩ := ih (by omega)
      obtain ⟨x, hp, b', o', ea', hc⟩ := ex n (by omega)
      rw [ea] at ea'; cases ea'
      refine ⟨L ++ [x], by simp [h1], fun i hi => ?_, fun y hy => ?_⟩
      · have hlen := rowC_length hf L
        have hg : (rowC f (L ++ [x]))[i]? = some (rowC f (L ++ [x]))[i] := List.getElem?_eq_getElem hi
        rw [← hg]
        rw [rowC_length hf, List.length_append, List.length_singleton, h1, Nat.add_mul] at hi
        rw [rowC_append, rowC_one]
        by_cases hc' : i < (rowC f L).length
        · rw [List.getElem?_append_left hc', List.getElem?_eq_getElem hc']; exact h2 i hc'
        · rw [List.getElem?_append_right (by omega)]
          have hj : i - (rowC f L).length < (f x).length := by rw [hf]; rw [hlen, h1]; omega
          have := hc _ hj
          rw [List.getElem?_eq_getElem hj, ← this]
          congr 1
          rw [hlen, h1] at hc' ⊢; omega
      · rcases List.mem_append.1 hy with hy | hy
        · exact h3 y hy
        · rw [List.mem_singleton.1 hy]; exact hp
  obtain ⟨L, h1, h2, h3⟩ := all l (Nat.le_refl _)
  exact ⟨L, h1, ⟨rowC_length hf L, .inr ⟨b, o, ea, h2⟩⟩, h3⟩
end
end Go.Gx
