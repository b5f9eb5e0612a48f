/- The quick check of a region's order is the plain one's. -/
import Derived.Test.YtagglohkipioiaaGreatGxSA
import Derived.Orders
namespace Go.Gx
theorem bitM_eq (l j : Nat) : bitM l j = l.testBit j := by
  unfold bitM Nat.testBit
  show Nat.beq ((l >>> j) &&& 1) 1 = _
  rw [Nat.and_comm]
  have h : 1 &&& (l >>> j) = 0 ∨ 1 &&& (l >>> j) = 1 := by
    have : 1 &&& (l >>> j) ≤ 1 := Nat.and_le_left
    omega
  rcases h with h | h <;> rw [h] <;> rfl
theorem subM_bits {a b : Nat} (h : subM a b = true) (i : Nat) (hi : a.testBit i = true) : b.testBit i = true := by
  have h : a &&& b = a := Nat.eq_of_beq_eq_true h
  rw [← h, Nat.testBit_and] at hi
  exact (Bool.and_eq_true_iff.1 hi).2
theorem subM_of {a b : Nat} (h : ∀ i, a.testBit i = true → b.testBit i = true) : subM a b = true := by
  have : a &&& b = a := Nat.eq_of_testBit_eq fun i => by
    rw [Nat.testBit_and]
    cases ha : a.testBit i with
    | false => rfl
    | true => rw [h i ha]; rfl
  unfold subM
  show Nat.beq (a &&& b) a = true
  rw [this]
  exact Nat.beq_refl a
theorem bit_lor (a i k : Nat) : (Nat.lor a (Nat.shiftLeft 1 i)).testBit k = (a.testBit k || decide (k = i)) := by
  show (a ||| (1 <<< i)).testBit k = _
  rw [Nat.testBit_or, Nat.one_shiftLeft, Nat.testBit_two_pow]
  congr 1
  exact decide_eq_decide.2 ⟨fun h => h.symm, fun h => h.symm⟩
theorem bit_rol (a i k : Nat) : (Nat.lor (Nat.shiftLeft 1 i) a).testBit k = (decide (k = i) || a.testBit k) := by
  show ((1 <<< i) ||| a).testBit k = _
  rw [Nat.testBit_or, Nat.one_shiftLeft, Nat.testBit_two_pow]
  congr 1
  exact decide_eq_decide.2 ⟨fun h => h.symm, fun h => h.symm⟩
theorem maskOf_bit (f : Nat → Bool) (i : Nat) : ∀ n, (maskOf f n).testBit i = (decide (i < n) && f i)
  | 0 => by simp [maskOf]
  | n + 1 => by
    have ih := maskOf_bit f i n
    unfold maskOf
    cases hf : f n with
    | true =>
      rw [cond_true, bit_rol, ih]
      by_cases h : i = n
      · subst h; simp [hf]
      · simp only [h, decide_false, Bool.false_or]
        congr 1
        exact decide_eq_decide.2 ⟨fun h' => by omega, fun h' => by omega⟩
    | false =>
      rw [cond_false, ih]
      by_cases h : i = n
      · subst h; simp [hf]
      · congr 1
        exact decide_eq_decide.2 ⟨fun h' => by omega, fun h' => by omega⟩
theorem depL_bit (k : Nat) : ∀ es : List Edge, (depL es).testBit k = true ↔ ∃ e ∈ es, Region.binds .any e = true ∧ e.on = k
  | [] => by simp [depL]
  | e :: es => by
    have ih := depL_bit k es
    unfold depL
    cases hb : Region.binds .any e with
    | true =>
      rw [cond_true, bit_rol, Bool.or_eq_true, decide_eq_true_eq, ih]
      constructor
      · rintro (rfl | ⟨e', h1, h2⟩)
        · exact ⟨e, List.mem_cons_self, hb, rfl⟩
        · exact ⟨e', List.mem_cons_of_mem _ h1, h2⟩
      · rintro ⟨e', h1, h2, h3⟩
        rcases List.mem_cons.1 h1 with rfl | h1
        · exact .inl h3.symm
        · exact .inr ⟨e', h1, h2, h3⟩
    | false =>
      rw [cond_false, ih]
      constructor
      · rintro ⟨e', h1, h2⟩
        exact ⟨e', List.mem_cons_of_mem _ h1, h2⟩
      · rintro ⟨e', h1, h2, h3⟩
        rcases List.mem_cons.1 h1 with rfl | h1
        · rw [hb] at h2; cases h2
        · exact ⟨e', h1, h2, h3⟩
/-- The bits of a number say what is listed. -/
def Bits (n : Nat) (L : Array Bool) (l : Nat) : Prop := L.size = n ∧ ∀ i, L.getD i false = l.testBit i
theorem Bits.start (n : Nat) : Bits n (Array.replicate n false) 0 := ⟨Array.size_replicate, fun i => by
  rw [Array.getD_eq_getD_getElem?, Array.getElem?_replicate, Nat.zero_testBit]
  split <;> rfl⟩
variable {ops : Array Oper} {L : Array Bool} {l : Nat}
theorem Bits.get (B : Bits ops.size L l) {i : Nat} (hi : i < ops.size) : L.getD i true = l.testBit i := by
  rw [← B.2 i, Array.getD_eq_getD_getElem?, Array.getD_eq_getD_getElem?, Array.getElem?_eq_getElem (by rw [B.1]; exact hi)]; rfl
theorem Bits.set (B : Bits ops.size L l) {i : Nat} (hi : i < ops.size) : Bits ops.size (L.setIfInBounds i true) (Nat.lor l (Nat.shiftLeft 1 i)) := ⟨by rw [Array.size_setIfInBounds]; exact B.1, fun k => by
  rw [bit_lor, ← B.2 k, Array.getD_eq_getD_getElem?, Array.getD_eq_getD_getElem?]
  by_cases h : k = i
  · subst h
    rw [Array.getElem?_setIfInBounds_self_of_lt (by rw [B.1]; exact hi)]; simp
  · rw [Array.getElem?_setIfInBounds_ne (fun e => h e.symm)]
    simp [h]⟩
theorem rdy_mem (B : Bits ops.size L l) {i : Nat} (h : rdyM ops l i = true) : i ∈ Region.ready .any ops L := by
  unfold rdyM at h
  cases ho : ops[i]? with
  | none => rw [ho] at h; cases h
  | some o =>
    rw [ho] at h
    obtain ⟨h1, h2⟩ := Bool.and_eq_true_iff.1 h
    have hi : i < ops.size := (Array.getElem?_eq_some_iff.1 ho).1
    unfold Region.ready
    rw [List.mem_filter, List.mem_range]
    refine ⟨hi, ?_⟩
    rw [B.get hi, ← bitM_eq, h1, Bool.true_and, ho, Option.map_some, Option.getD_some, Array.all_eq_true_iff_forall_mem]
    intro e he
    cases hb : Region.binds .any e with
    | false => rfl
    | true =>
      have := subM_bits h2 e.on ((depL_bit _ _).2 ⟨e, Array.mem_toList_iff.2 he, hb, rfl⟩)
      rw [B.2, this]; rfl
theorem mem_rdy (B : Bits ops.size L l) {i : Nat} (h : i ∈ Region.ready .any ops L) : ∃ o, ops[i]? = some o ∧ l.testBit i = false ∧ subM (depM o) l = true := by
  unfold Region.ready at h
  rw [List.mem_filter, List.mem_range] at h
  obtain ⟨hi, h⟩ := h
  rw [Bool.and_eq_true, B.get hi] at h
  obtain ⟨h1, h2⟩ := h
  have ho : ops[i]? = some ops[i] := Array.getElem?_eq_getElem hi
  rw [ho, Option.map_some, Option.getD_some, Array.all_eq_true_iff_forall_mem] at h2
  refine ⟨_, ho, by simpa using h1, subM_of fun k hk => ?_⟩
  obtain ⟨e, he, hb, rfl⟩ := (depL_bit k _).1 hk
  have := h2 e (Array.mem_toList_iff.1 he)
  rw [hb, B.2] at this
  simpa using this
theorem noOther_spec {al : List Nat} : ∀ (os : List Oper) (j : Nat), noOther l al os j = true → ∀ k o, os[k]? = some o → l.testBit (j + k) = false → subM (depM o) l = true → al.any (Nat.beq (j + k)) = true
  | [], _, _, k, o, h, _, _ => by simp at h
  | o :: os, j, h, k, o', hk, h1, h2 => by
    unfold noOther at h
    obtain ⟨h3, h4⟩ := Bool.and_eq_true_iff.1 h
    cases k with
    | zero =>
      have : o = o' := by simpa using hk
      subst this
      rw [Nat.add_zero] at h1 ⊢
      rw [bitM_eq, h1, h2] at h3
      simpa using h3
    | succ k =>
      have := noOther_spec os (j + 1) h4 k o' (by simpa using hk) (by rw [show j + 1 + k = j + (k + 1) by omega]; exact h1) h2
      rw [show j + 1 + k = j + (k + 1) by omega] at this; exact this
theorem noOther_ready (B : Bits ops.size L l) {al : List Nat} (h : noOther l al ops.toList 0 = true) {i : Nat} (hi : i ∈ Region.ready .any ops L) : al.any (Nat.beq i) = true := by
  obtain ⟨o, ho, h1, h2⟩ := mem_rdy B hi
  have := noOther_spec _ 0 h i o (by rw [Array.getElem?_toList]; exact ho) (by rw [Nat.zero_add]; exact h1) h2
  rwa [Nat.zero_add] at this
theorem beqN (a b : Nat) : (a == b) = Nat.beq a b := by
  by_cases h : a = b
  · subst h; rw [beq_self_eq_true, Nat.beq_refl]
  · rw [beq_eq_false_iff_ne.2 h]
    exact (Bool.eq_false_iff.2 fun e => h (Nat.eq_of_beq_eq_true e)).symm
theorem free_of (B : Bits ops.size L l) {i : Nat} {o : Oper} (ho : ops[i]? = some o) (h : subM (confM ops i o) l = true) : Region.free .any ops L i = true := by
  unfold Region.free
  rw [ho]
  rw [List.all_eq_true]
  intro j hj
  have hj := List.mem_range.1 hj
  cases hc : (confM ops i o).testBit j with
  | true =>
    have := subM_bits h j hc
    rw [B.get hj, this]; simp
  | false =>
    unfold confM at hc
    rw [maskOf_bit, decide_eq_true hj, Bool.true_and, Bool.not_eq_false'] at hc
    have e1 : (j == i) = Nat.beq j i := beqN j i
    have oj : ops[j]? = some ops[j] := Array.getElem?_eq_getElem hj
    rw [oj] at hc ⊢
    simp only [] at hc ⊢
    have e2 : ∀ e : Edge, (e.on == i) = Nat.beq e.on i := fun _ => beqN _ _
    simp only [e1, e2]
    cases hb : Nat.beq j i with
    | true => rfl
    | false =>
      rw [hb, Bool.false_or] at hc
      rw [hc]; simp
theorem fastOk_spec {P : Program} {x : Option Nat} {m : List Nat} : ∀ (t : Tr) {hd : Bool} {n : Nat} {L : Array Bool} {l : Nat}, Bits ops.size L l → fastOk P ops x m hd t n l = true → orderOk P ops x m hd t n L = true := by
  intro t
  induction t with
  | done =>
    intro hd n L l B h
    unfold fastOk at h
    unfold orderOk
    obtain ⟨h1, h2⟩ := Bool.and_eq_true_iff.1 h
    rw [h1, Bool.true_and, List.isEmpty_iff]
    cases hr : Region.ready .any ops L with
    | nil => rfl
    | cons i r =>
      have := noOther_ready B h2 (i := i) (by rw [hr]; exact List.mem_cons_self)
      cases this
  | e => intro hd n L l B h; unfold fastOk at h; unfold orderOk; exact h
  | q i t ih =>
    intro hd n L l B h
    cases n with
    | zero => unfold fastOk at h; cases h
    | succ n =>
    unfold fastOk at h
    unfold orderOk
    obtain ⟨h, h2⟩ := Bool.and_eq_true_iff.1 h
    obtain ⟨h1, h⟩ := Bool.and_eq_true_iff.1 h
    cases ho : ops[i]? with
    | none => rw [ho] at h; cases h
    | some o =>
      rw [ho] at h
      simp only [] at h ⊢
      obtain ⟨h, h5⟩ := Bool.and_eq_true_iff.1 h
      obtain ⟨h3, h4⟩ := Bool.and_eq_true_iff.1 h
      have hm := rdy_mem B h4
      have hany : (Region.ready .any ops L).any (Nat.beq i) = true := List.any_eq_true.2 ⟨i, hm, Nat.beq_refl i⟩
      have hi : i < ops.size := (Array.getElem?_eq_some_iff.1 ho).1
      rw [h1, h3, hany, free_of B ho h5, ih (B.set hi) h2]; rfl
  | f i t u iht ihu =>
    intro hd n L l B h
    cases n with
    | zero => unfold fastOk at h; cases h
    | succ n =>
    unfold fastOk at h
    unfold orderOk
    obtain ⟨h, h2⟩ := Bool.and_eq_true_iff.1 h
    obtain ⟨h, h3⟩ := Bool.and_eq_true_iff.1 h
    obtain ⟨h0, h1⟩ := Bool.and_eq_true_iff.1 h
    have hm := rdy_mem B h0
    have hi : i < ops.size := by
      unfold Region.ready at hm
      exact List.mem_range.1 (List.mem_filter.1 hm).1
    rw [iht (B.set hi) h3, ihu B h2, Bool.and_true, Bool.and_true]
    cases hd with
    | false => rfl
    | true =>
      have h1 : noOther l (i :: u.alts) ops.toList 0 = true := h1
      have hany : (Region.ready .any ops L).any (Nat.beq i) = true := List.any_eq_true.2 ⟨i, hm, Nat.beq_refl i⟩
      rw [hany, Bool.true_and, Bool.not_true, Bool.false_or, List.all_eq_true]
      intro j hj
      have := noOther_ready B h1 hj
      rw [List.any_cons] at this
      rcases Bool.or_eq_true_iff.1 this with e | e
      · rw [Nat.eq_of_beq_eq_true e, Nat.beq_refl]; rfl
      · have : (u.alts.any fun k => Nat.beq k j) = true := by
          obtain ⟨k, hk, hb⟩ := List.any_eq_true.1 e
          exact List.any_eq_true.2 ⟨k, hk, by rw [Nat.eq_of_beq_eq_true hb]; exact Nat.beq_refl k⟩
        rw [this, Bool.or_true]
end Go.Gx
