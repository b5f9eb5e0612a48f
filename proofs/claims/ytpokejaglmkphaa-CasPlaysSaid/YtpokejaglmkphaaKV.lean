/- Plain laws of entries in a list in the order of their keys. Conditions: those that each lemma names. -/
import Derived.Test.YtpokejaglmkphaaGxH
namespace Go.Gx

/-! ### the order of texts -/
theorem bl_irrefl : ∀ x : List UInt8, Op.bytesLess x x = false
  | [] => rfl
  | a :: x => by
    have h1 : ¬ a < a := UInt8.lt_irrefl a
    simp only [Op.bytesLess, bl_irrefl x]
    simp [h1]
theorem bl_trans : ∀ {x y z : List UInt8}, Op.bytesLess x y = true → Op.bytesLess y z = true → Op.bytesLess x z = true
  | [], [], _, h, _ => by cases h
  | _ :: _, [], _, h, _ => by cases h
  | _, _ :: _, [], _, h => by cases h
  | [], _ :: _, _ :: _, _, _ => rfl
  | a :: x, b :: y, c :: z, h1, h2 => by
    simp only [Op.bytesLess, Bool.or_eq_true, Bool.and_eq_true, decide_eq_true_eq, beq_iff_eq] at *
    rcases h1 with h1 | ⟨e1, h1⟩
    · rcases h2 with h2 | ⟨e2, h2⟩
      · exact .inl (UInt8.lt_trans h1 h2)
      · subst e2; exact .inl h1
    · subst e1
      rcases h2 with h2 | ⟨e2, h2⟩
      · exact .inl h2
      · exact .inr ⟨e2, bl_trans h1 h2⟩
theorem bl_total : ∀ {x y : List UInt8}, Op.bytesLess x y = false → Op.bytesLess y x = false → x = y
  | [], [], _, _ => rfl
  | [], _ :: _, h, _ => by cases h
  | _ :: _, [], _, h => by cases h
  | a :: x, b :: y, h1, h2 => by
    simp only [Op.bytesLess, Bool.or_eq_false_iff, Bool.and_eq_false_iff, decide_eq_false_iff_not] at *
    have e : a = b := by
      have h3 := UInt8.not_lt.1 h1.1
      have h4 := UInt8.not_lt.1 h2.1
      exact UInt8.le_antisymm h4 h3
    subst e
    have h3 := h1.2
    have h4 := h2.2
    simp at h3 h4
    rw [bl_total h3 h4]
def blt (s t : ByteArray) : Bool := Op.bytesLess s.data.toList t.data.toList
theorem bltS_val (s t : ByteArray) : bltS s t = blt s t := by unfold bltS blt; rw [hb_eq, toList_eq_data, toList_eq_data]
theorem blt_irrefl (s : ByteArray) : blt s s = false := bl_irrefl _
theorem blt_trans {s t u : ByteArray} (h1 : blt s t = true) (h2 : blt t u = true) : blt s u = true := bl_trans h1 h2
theorem blt_total {s t : ByteArray} (h1 : blt s t = false) (h2 : blt t s = false) : s = t := bytes_ext (bl_total h1 h2)
theorem blt_ne {s t : ByteArray} (h : blt s t = true) : s ≠ t := fun e => by rw [e, blt_irrefl] at h; cases h
theorem blt_asymm {s t : ByteArray} (h : blt s t = true) : blt t s = false := by
  cases e : blt t s with
  | false => rfl
  | true => have := blt_trans h e; rw [blt_irrefl] at this; cases this

/-! ### entries -/
abbrev KV := ByteArray × ByteArray
def kvCells (L : List KV) : List Value := L.flatMap fun p => [.string p.1, .string p.2]
theorem kvCells_nil : kvCells [] = [] := rfl
theorem kvCells_cons (p : KV) (L : List KV) : kvCells (p :: L) = .string p.1 :: .string p.2 :: kvCells L := rfl
theorem kvCells_append (L M : List KV) : kvCells (L ++ M) = kvCells L ++ kvCells M := List.flatMap_append
theorem kvCells_length : ∀ L : List KV, (kvCells L).length = L.length * 2
  | [] => rfl
  | p :: L => by rw [kvCells_cons, List.length_cons, List.length_cons, kvCells_length L, List.length_cons]; omega
theorem kvCells_plain (L : List KV) : plainP (kvCells L) := fun v hv => by
  unfold kvCells at hv
  rw [List.mem_flatMap] at hv
  obtain ⟨p, _, hv⟩ := hv
  simp at hv
  rcases hv with rfl | rfl
  · exact ⟨fun c h => (by cases h), fun c h => (by cases h)⟩
  · exact ⟨fun c h => (by cases h), fun c h => (by cases h)⟩
theorem kvCells_get : ∀ (L : List KV) (i : Nat) (p : KV), L[i]? = some p → (kvCells L)[i * 2]? = some (.string p.1) ∧ (kvCells L)[i * 2 + 1]? = some (.string p.2)
  | [], _, _, h => by simp at h
  | q :: L, 0, p, h => by
    simp at h; subst h; exact ⟨rfl, rfl⟩
  | q :: L, i + 1, p, h => by
    have := kvCells_get L i p (by simpa using h)
    rw [kvCells_cons, show (i + 1) * 2 = i * 2 + 1 + 1 by omega]
    exact ⟨by simpa using this.1, by simpa using this.2⟩
theorem kvCells_drop : ∀ (L : List KV) (i : Nat), (kvCells L).drop (i * 2) = kvCells (L.drop i)
  | L, 0 => by simp
  | [], i + 1 => by simp [kvCells]
  | q :: L, i + 1 => by rw [kvCells_cons, show (i + 1) * 2 = i * 2 + 1 + 1 by omega]; simpa using kvCells_drop L i
theorem kvCells_take : ∀ (L : List KV) (i : Nat), (kvCells L).take (i * 2) = kvCells (L.take i)
  | L, 0 => by simp [kvCells]
  | [], i + 1 => by simp [kvCells]
  | q :: L, i + 1 => by rw [kvCells_cons, show (i + 1) * 2 = i * 2 + 1 + 1 by omega, List.take_succ_cons, List.take_succ_cons, List.take_succ_cons, kvCells_cons, kvCells_take L i]
/-- Where a key stands, or would. -/
def kvAt (k : ByteArray) : List KV → Nat
  | [] => 0
  | p :: L => if blt p.1 k = true then kvAt k L + 1 else 0
def kvIs (k : ByteArray) (L : List KV) : Bool :=
  match L[kvAt k L]? with
  | some p => decide (p.1 = k)
  | none => false
theorem kvAt_le (k : ByteArray) : ∀ L : List KV, kvAt k L ≤ L.length
  | [] => Nat.le_refl _
  | p :: L => by unfold kvAt; split <;> simp [kvAt_le k L]
theorem kvAt_lt {k : ByteArray} {L : List KV} (h : kvIs k L = true) : kvAt k L < L.length := by
  unfold kvIs at h
  split at h
  · rename_i p hp; exact (List.getElem?_eq_some_iff.1 hp).1
  · cases h
theorem kvAt_before (k : ByteArray) : ∀ (L : List KV) (i : Nat) (p : KV), L[i]? = some p → i < kvAt k L → blt p.1 k = true
  | [], _, _, h, _ => by simp at h
  | q :: L, i, p, h, hi => by
    unfold kvAt at hi
    split at hi
    · rename_i hq
      cases i with
      | zero => simp at h; subst h; exact hq
      | succ i => exact kvAt_before k L i p (by simpa using h) (by omega)
    · omega
theorem kvAt_at (k : ByteArray) : ∀ (L : List KV) (p : KV), L[kvAt k L]? = some p → blt p.1 k = false
  | [], _, h => by simp at h
  | q :: L, p, h => by
    unfold kvAt at h
    split at h
    · exact kvAt_at k L p (by simpa using h)
    · rename_i hq
      simp at h; subst h; simpa using hq
def kvGet (k : ByteArray) (L : List KV) : Option ByteArray := if kvIs k L then (L[kvAt k L]?).map (·.2) else none
def kvPut (k v : ByteArray) (L : List KV) : List KV := L.take (kvAt k L) ++ (k, v) :: L.drop (if kvIs k L then kvAt k L + 1 else kvAt k L)
def kvDrop (k : ByteArray) (L : List KV) : List KV := if kvIs k L then L.take (kvAt k L) ++ L.drop (kvAt k L + 1) else L
def kvIn (from_ to : ByteArray) (p : KV) : Bool := !blt p.1 from_ && (blt p.1 to || decide (p.1 = to))
def kvRange (from_ to : ByteArray) (most : Nat) (L : List KV) : List KV := (L.filter (kvIn from_ to)).take most
/-- In the order of the keys, each once. -/
def kvSorted (L : List KV) : Prop := L.Pairwise fun p q => blt p.1 q.1 = true
theorem kvIs_split {k : ByteArray} {L : List KV} (h : kvIs k L = true) : ∃ w, L = L.take (kvAt k L) ++ (k, w) :: L.drop (kvAt k L + 1) ∧ L[kvAt k L]? = some (k, w) := by
  have hl := kvAt_lt h
  unfold kvIs at h
  rw [List.getElem?_eq_getElem hl] at h
  have hk : L[kvAt k L].1 = k := of_decide_eq_true h
  have hp : L[kvAt k L] = (k, L[kvAt k L].2) := Prod.ext hk rfl
  refine ⟨L[kvAt k L].2, ?_, ?_⟩
  · conv => lhs; rw [← List.take_append_drop (kvAt k L) L, List.drop_eq_getElem_cons hl]
    rw [← hp]
  · rw [List.getElem?_eq_getElem hl, ← hp]
theorem kvSorted_inj {L : List KV} (hs : kvSorted L) {p q : KV} (hp : p ∈ L) (hq : q ∈ L) (h : p.1 = q.1) : p = q := by
  induction L with
  | nil => cases hp
  | cons r L ih =>
    obtain ⟨h1, h2⟩ := List.pairwise_cons.1 hs
    rcases List.mem_cons.1 hp with rfl | hp
    · rcases List.mem_cons.1 hq with rfl | hq
      · rfl
      · exact absurd h (blt_ne (h1 q hq))
    · rcases List.mem_cons.1 hq with rfl | hq
      · exact absurd h.symm (blt_ne (h1 p (by assumption)))
      · exact ih h2 hp hq
theorem kvIs_iff {L : List KV} (hs : kvSorted L) (k : ByteArray) : kvIs k L = true ↔ ∃ v, (k, v) ∈ L := by
  constructor
  · intro h
    obtain ⟨w, _, h2⟩ := kvIs_split h
    exact ⟨w, List.mem_of_getElem? h2⟩
  · rintro ⟨v, hv⟩
    induction L with
    | nil => cases hv
    | cons r L ih =>
      obtain ⟨h1, h2⟩ := List.pairwise_cons.1 hs
      rcases List.mem_cons.1 hv with rfl | hv
      · unfold kvIs kvAt
        rw [if_neg (by rw [blt_irrefl]; decide)]
        simp
      · have := ih h2 hv
        unfold kvIs kvAt
        rw [if_pos (h1 _ hv)]
        unfold kvIs at this
        simpa using this
theorem kvGet_iff {L : List KV} (hs : kvSorted L) (k v : ByteArray) : kvGet k L = some v ↔ (k, v) ∈ L := by
  unfold kvGet
  constructor
  · intro h
    split at h
    · rename_i hk
      obtain ⟨w, _, h2⟩ := kvIs_split hk
      rw [h2] at h
      simp at h; subst h
      exact List.mem_of_getElem? h2
    · cases h
  · intro h
    have hk := (kvIs_iff hs k).2 ⟨v, h⟩
    obtain ⟨w, _, h2⟩ := kvIs_split hk
    rw [if_pos hk, h2]
    have := kvSorted_inj hs h (List.mem_of_getElem? h2) rfl
    simp at this
    simp [this]
theorem kvGet_none {L : List KV} (hs : kvSorted L) (k : ByteArray) : kvGet k L = none ↔ ∀ v, (k, v) ∉ L := by
  constructor
  · intro h v hv
    rw [(kvGet_iff hs k v).2 hv] at h; cases h
  · intro h
    cases e : kvGet k L with
    | none => rfl
    | some v => exact absurd ((kvGet_iff hs k v).1 e) (h v)
theorem kvIs_get {L : List KV} (k : ByteArray) : kvIs k L = (kvGet k L).isSome := by
  unfold kvGet
  cases h : kvIs k L with
  | false => simp
  | true =>
    obtain ⟨w, _, h2⟩ := kvIs_split h
    rw [if_pos rfl, h2]; rfl
theorem kvPut_new {L : List KV} (k v : ByteArray) (h : kvIs k L = false) : (kvPut k v L).Perm ((k, v) :: L) := by
  unfold kvPut
  rw [h]
  simp only [Bool.false_eq_true, if_false]
  have := List.perm_middle (a := (k, v)) (l₁ := L.take (kvAt k L)) (l₂ := L.drop (kvAt k L))
  rwa [List.take_append_drop] at this
theorem kvPut_old {L : List KV} (hs : kvSorted L) {k w : ByteArray} (v : ByteArray) (h : (k, w) ∈ L) : ∃ M, L.Perm ((k, w) :: M) ∧ (kvPut k v L).Perm ((k, v) :: M) ∧ (kvDrop k L).Perm M := by
  have hk := (kvIs_iff hs k).2 ⟨w, h⟩
  obtain ⟨u, h1, h2⟩ := kvIs_split hk
  have e := kvSorted_inj hs h (List.mem_of_getElem? h2) rfl
  simp at e; subst e
  refine ⟨L.take (kvAt k L) ++ L.drop (kvAt k L + 1), ?_, ?_, ?_⟩
  · conv => lhs; rw [h1]
    exact List.perm_middle
  · unfold kvPut; rw [if_pos hk]; exact List.perm_middle
  · unfold kvDrop; rw [if_pos hk]
theorem kvAt_after {L : List KV} (hs : kvSorted L) (k : ByteArray) {p : KV} (hp : p ∈ L.drop (if kvIs k L then kvAt k L + 1 else kvAt k L)) : blt k p.1 = true := by
  have key : ∀ {i : Nat} {q : KV}, L[i]? = some q → kvAt k L < i → blt k q.1 = true := by
    intro i q hq hi
    have hl : kvAt k L < L.length := by have := (List.getElem?_eq_some_iff.1 hq).1; omega
    have h0 := kvAt_at k L _ (List.getElem?_eq_getElem hl)
    have h1 : blt L[kvAt k L].1 q.1 = true := by
      obtain ⟨h2, h3⟩ := List.getElem?_eq_some_iff.1 hq
      rw [← h3]
      exact List.pairwise_iff_getElem.1 hs _ _ hl h2 hi
    cases e : blt k L[kvAt k L].1 with
    | true => exact blt_trans e h1
    | false => rw [blt_total e h0]; exact h1
  obtain ⟨j, hj⟩ := List.mem_iff_getElem?.1 hp
  rw [List.getElem?_drop] at hj
  split at hj
  · exact key hj (by omega)
  · rename_i hk
    by_cases e : j = 0
    · subst e
      rw [Nat.add_zero] at hj
      have h0 := kvAt_at k L _ hj
      cases e2 : blt k p.1 with
      | true => rfl
      | false =>
        exfalso; apply hk
        unfold kvIs; rw [hj]
        exact decide_eq_true (blt_total e2 h0).symm
    · exact key hj (by omega)
theorem kvPut_sorted {L : List KV} (hs : kvSorted L) (k v : ByteArray) : kvSorted (kvPut k v L) := by
  unfold kvPut kvSorted
  rw [List.pairwise_append]
  refine ⟨List.Pairwise.sublist (List.take_sublist _ _) hs, ?_, ?_⟩
  · rw [List.pairwise_cons]
    exact ⟨fun p hp => kvAt_after hs k hp, List.Pairwise.sublist (List.drop_sublist _ _) hs⟩
  · intro p hp q hq
    have hpk : blt p.1 k = true := by
      obtain ⟨j, hj⟩ := List.mem_iff_getElem?.1 hp
      rw [List.getElem?_take] at hj
      split at hj
      · rename_i hlt; exact kvAt_before k L j p hj hlt
      · cases hj
    rcases List.mem_cons.1 hq with rfl | hq
    · exact hpk
    · exact blt_trans hpk (kvAt_after hs k hq)
theorem kvDrop_sorted {L : List KV} (hs : kvSorted L) (k : ByteArray) : kvSorted (kvDrop k L) := by
  unfold kvDrop
  split
  · rename_i hk
    obtain ⟨w, h1, _⟩ := kvIs_split hk
    have : (L.take (kvAt k L) ++ L.drop (kvAt k L + 1)).Sublist L := by
      conv => rhs; rw [h1]
      exact List.Sublist.append (List.Sublist.refl _) (List.sublist_cons_self _ _)
    exact List.Pairwise.sublist this hs
  · exact hs
theorem kvSorted_nodup {L : List KV} (hs : kvSorted L) : L.Nodup := hs.imp fun h e => by
  subst e; rw [blt_irrefl] at h; cases h
/-- Two sorted lists with the same entries are one. -/
theorem kvSorted_eq {L M : List KV} (hl : kvSorted L) (hm : kvSorted M) (h : ∀ p, p ∈ L ↔ p ∈ M) : L = M :=
  List.Perm.eq_of_pairwise (le := fun p q => blt p.1 q.1 = true) (fun a b _ _ h1 h2 => by have := blt_trans h1 h2; rw [blt_irrefl] at this; cases this) (show List.Pairwise (fun p q => blt p.1 q.1 = true) L from hl) (show List.Pairwise (fun p q => blt p.1 q.1 = true) M from hm) ((List.perm_ext_iff_of_nodup (kvSorted_nodup hl) (kvSorted_nodup hm)).2 h)
theorem kvRange_mem {L : List KV} {from_ to : ByteArray} {most : Nat} (hm : L.length ≤ most) {p : KV} : p ∈ kvRange from_ to most L ↔ p ∈ L ∧ kvIn from_ to p = true := by
  unfold kvRange
  rw [List.take_of_length_le (Nat.le_trans (List.length_filter_le _ _) hm), List.mem_filter]
theorem kvRange_sorted {L : List KV} (hs : kvSorted L) (from_ to : ByteArray) (most : Nat) : kvSorted (kvRange from_ to most L) :=
  List.Pairwise.sublist ((List.take_sublist _ _).trans List.filter_sublist) hs
end Go.Gx
