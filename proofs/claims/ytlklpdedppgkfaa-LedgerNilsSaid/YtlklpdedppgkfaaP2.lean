/- What each call makes of a tenant's ledger, and of its entries. Conditions: those that each lemma names. -/
import Derived.Test.YtlklpdedppgkfaaP1
namespace Go.Proofs.Ytlklpdedppgkfaa
open Go.Gx
set_option maxRecDepth 100000
set_option linter.unusedVariables false
variable {t : Nat} {x : Led} {L : List KV}

theorem ents_mem {p : KV} : p ∈ x.ents t ↔ (∃ d ∈ x.l, d.ent t = p) ∨ (x.is = true ∧ p = (quotaKey t, textB x.acc)) := by
  unfold Led.ents
  rw [List.mem_append, List.mem_map]
  refine or_congr Iff.rfl ?_
  split
  · rename_i h; rw [List.mem_singleton]; exact ⟨fun e => ⟨h, e⟩, fun e => e.2⟩
  · rename_i h; exact ⟨fun e => (by cases e), fun e => absurd e.1 h⟩
theorem held_ne_quota (t : Nat) (sum : ByteArray) (n : Nat) : heldKey t sum n ≠ quotaKey t := fun e => by
  have := blt_quota t sum n
  rw [e, blt_irrefl] at this; cases this
def dropH (l : List Hd) (i : Nat) : List Hd := l.take i ++ l.drop (i + 1)
theorem at_splitH {l : List Hd} {d : Hd} {i : Nat} (h : l[i]? = some d) : l = l.take i ++ d :: l.drop (i + 1) := by
  obtain ⟨h1, h2⟩ := List.getElem?_eq_some_iff.1 h
  conv => lhs; rw [← List.take_append_drop i l, List.drop_eq_getElem_cons h1, h2]
theorem setH_is {l : List Hd} {i : Nat} {d : Hd} (h : l[i]? = some d) (c : Nat) : setH l i c = l.take i ++ { d with count := c } :: l.drop (i + 1) := by
  unfold setH; rw [h]
theorem rest_mem {l : List Hd} (hs : hdSorted l) {i : Nat} {d : Hd} (h : l[i]? = some d) (e : Hd) : e ∈ dropH l i ↔ e ∈ l ∧ e.id ≠ d.id := by
  have hl := at_splitH h
  have hs' := hs
  unfold hdSorted at hs'
  rw [hl, List.pairwise_append, List.pairwise_cons] at hs'
  unfold dropH
  rw [List.mem_append]
  constructor
  · rintro (h1 | h1)
    · exact ⟨List.mem_of_mem_take h1, fun e2 => by have := hs'.2.2 e h1 d (List.mem_cons_self); rw [e2, bef_irrefl] at this; cases this⟩
    · exact ⟨List.mem_of_mem_drop h1, fun e2 => by have := hs'.2.1.1 e h1; rw [e2, bef_irrefl] at this; cases this⟩
  · rintro ⟨h1, h2⟩
    rw [hl] at h1
    rcases List.mem_append.1 h1 with h1 | h1
    · exact .inl h1
    · rcases List.mem_cons.1 h1 with h1 | h1
      · exact absurd (by rw [h1]) h2
      · exact .inr h1
theorem setH_mem {l : List Hd} (hs : hdSorted l) {i : Nat} {d : Hd} (h : l[i]? = some d) (c : Nat) (e : Hd) : e ∈ setH l i c ↔ e = { d with count := c } ∨ (e ∈ l ∧ e.id ≠ d.id) := by
  rw [setH_is h, ← rest_mem hs h]
  unfold dropH
  rw [List.mem_append, List.mem_cons, List.mem_append]
  constructor
  · rintro (h | h | h)
    · exact .inr (.inl h)
    · exact .inl h
    · exact .inr (.inr h)
  · rintro (h | h | h)
    · exact .inr (.inl h)
    · exact .inl h
    · exact .inr (.inr h)
theorem dropH_sorted {l : List Hd} (hs : hdSorted l) {i : Nat} {d : Hd} (h : l[i]? = some d) : hdSorted (dropH l i) := by
  have hl := at_splitH h
  have : (dropH l i).Sublist l := by
    conv => rhs; rw [hl]
    exact List.Sublist.append (List.Sublist.refl _) (List.sublist_cons_self _ _)
  exact List.Pairwise.sublist this hs
theorem setH_sorted {l : List Hd} (hs : hdSorted l) {i : Nat} {d : Hd} (h : l[i]? = some d) (c : Nat) : hdSorted (setH l i c) := by
  have hl := at_splitH h
  unfold hdSorted at hs ⊢
  rw [setH_is h]
  rw [hl, List.pairwise_append, List.pairwise_cons] at hs
  rw [List.pairwise_append, List.pairwise_cons]
  refine ⟨hs.1, ⟨fun e he => hs.2.1.1 e he, hs.2.1.2⟩, fun a ha b hb => ?_⟩
  rcases List.mem_cons.1 hb with rfl | hb
  · exact hs.2.2 a ha d (List.mem_cons_self)
  · exact hs.2.2 a ha b (List.mem_cons_of_mem _ hb)
theorem setH_sizes {l : List Hd} {i : Nat} {d : Hd} (h : l[i]? = some d) (c : Nat) : sizesH (setH l i c) = sizesH l ∧ (setH l i c).length = l.length := by
  have hl := at_splitH h
  rw [setH_is h]
  constructor
  · conv => rhs; rw [hl]
    simp [sizesH]
  · conv => rhs; rw [hl]
    simp
theorem dropH_sizes {l : List Hd} {i : Nat} {d : Hd} (h : l[i]? = some d) : sizesH (dropH l i) + d.size = sizesH l ∧ (dropH l i).length + 1 = l.length := by
  have hl := at_splitH h
  unfold dropH
  constructor
  · conv => rhs; rw [hl]
    simp [sizesH]; omega
  · conv => rhs; rw [hl]
    simp; omega

/-! ### the calls -/
def Led.set (x : Led) (i c : Nat) : Led := { x with l := setH x.l i c }
def Led.ins (x : Led) (d : Hd) : Led := { x with l := insH d x.l }
def Led.del (x : Led) (i : Nat) : Led := { x with l := dropH x.l i }
theorem is_of {x : Led} (ok : LedOk x) {d : Hd} (hd : d ∈ x.l) : x.is = true := by
  cases h : x.is with
  | true => rfl
  | false => rw [(ok.not h).1] at hd; cases hd
theorem LedOk.set (ok : LedOk x) {i : Nat} {d : Hd} (h : x.l[i]? = some d) {c : Nat} (hc : 1 ≤ c) : LedOk (x.set i c) := by
  have hm := List.mem_of_getElem? h
  have hs := setH_sizes h c
  refine ⟨setH_sorted ok.sorted h c, fun e he => ?_, fun e he => ?_, fun e he => ?_, ok.quota, ?_, fun e => ?_⟩
  · rcases (setH_mem ok.sorted h c e).1 he with rfl | ⟨h1, _⟩
    · exact ok.may d hm
    · exact ok.may e h1
  · rcases (setH_mem ok.sorted h c e).1 he with rfl | ⟨h1, _⟩
    · exact hc
    · exact ok.count e h1
  · rcases (setH_mem ok.sorted h c e).1 he with rfl | ⟨h1, _⟩
    · exact ok.size d hm
    · exact ok.size e h1
  · show sizesH (setH x.l i c) + 64 * x.records ≤ x.quota
    rw [hs.1]; exact ok.used
  · have := is_of ok hm
    rw [show (x.set i c).is = x.is from rfl, this] at e; cases e
theorem LedOk.del (ok : LedOk x) {i : Nat} {d : Hd} (h : x.l[i]? = some d) : LedOk (x.del i) := by
  have hm := List.mem_of_getElem? h
  have hs := dropH_sizes h
  have hmem := rest_mem ok.sorted h
  refine ⟨dropH_sorted ok.sorted h, fun e he => ok.may e ((hmem e).1 he).1, fun e he => ok.count e ((hmem e).1 he).1, fun e he => ok.size e ((hmem e).1 he).1, ok.quota, ?_, fun e => ?_⟩
  · show sizesH (dropH x.l i) + 64 * x.records ≤ x.quota
    have : sizesH x.l + 64 * x.records ≤ x.quota := ok.used
    omega
  · have := is_of ok hm
    rw [show (x.del i).is = x.is from rfl, this] at e; cases e
theorem LedOk.ins (ok : LedOk x) (his : x.is = true) {d : Hd} (hn : ∀ e ∈ x.l, e.id ≠ d.id) (hm : 1 ≤ d.sum.size ∧ d.sum.size ≤ 32 ∧ d.n < 256) (hc : 1 ≤ d.count) (hs : d.size ≤ 128) (hu : x.used + d.size ≤ x.quota) : LedOk (x.ins d) := by
  have hmem := insH_mem d x.l
  refine ⟨insH_sorted ok.sorted hn, fun e he => ?_, fun e he => ?_, fun e he => ?_, ok.quota, ?_, fun e => ?_⟩
  · rcases (hmem e).1 he with rfl | h1
    · exact hm
    · exact ok.may e h1
  · rcases (hmem e).1 he with rfl | h1
    · exact hc
    · exact ok.count e h1
  · rcases (hmem e).1 he with rfl | h1
    · exact hs
    · exact ok.size e h1
  · show sizesH (insH d x.l) + 64 * x.records ≤ x.quota
    rw [insH_sizes]
    have : sizesH x.l + 64 * x.records + d.size ≤ x.quota := hu
    omega
  · rw [show (x.ins d).is = x.is from rfl, his] at e; cases e
theorem ents_set (ok : LedOk x) {i : Nat} {d : Hd} (h : x.l[i]? = some d) {c : Nat} (hc : 1 ≤ c) : kvPut (heldKey t d.sum d.n) (textB [c, d.size]) (x.ents t) = (x.set i c).ents t := by
  have hm := List.mem_of_getElem? h
  refine kvSorted_eq (kvPut_sorted (ents_sorted ok) _ _) (ents_sorted (ok.set h hc)) fun p => ?_
  rw [kvPut_mem (ents_sorted ok), ents_mem, ents_mem]
  have hacc : (x.set i c).acc = x.acc := by
    show [x.quota, sizesH (setH x.l i c), x.records] = _
    rw [(setH_sizes h c).1]; rfl
  rw [hacc]
  constructor
  · rintro (e | ⟨⟨e, he, rfl⟩ | ⟨e1, e2⟩, h2⟩)
    · exact .inl ⟨{ d with count := c }, (setH_mem ok.sorted h c _).2 (.inl rfl), e.symm⟩
    · refine .inl ⟨e, (setH_mem ok.sorted h c _).2 (.inr ⟨he, fun e3 => h2 ?_⟩), rfl⟩
      show heldKey t e.sum e.n = _
      rw [show e.sum = d.sum from congrArg Prod.fst e3, show e.n = d.n from congrArg Prod.snd e3]
    · exact .inr ⟨e1, e2⟩
  · rintro (⟨e, he, rfl⟩ | ⟨e1, e2⟩)
    · rcases (setH_mem ok.sorted h c e).1 he with rfl | ⟨h1, h2⟩
      · exact .inl rfl
      · refine .inr ⟨.inl ⟨e, h1, rfl⟩, fun e3 => h2 ?_⟩
        exact heldKey_inj (a := e.id) (b := d.id) (ok.id h1).1 (ok.id hm).1 (ok.id h1).2 (ok.id hm).2 e3
    · exact .inr ⟨.inr ⟨e1, e2⟩, fun e3 => by rw [e2] at e3; exact held_ne_quota _ _ _ e3.symm⟩
theorem ents_del (ok : LedOk x) {i : Nat} {d : Hd} (h : x.l[i]? = some d) : kvPut (quotaKey t) (textB (x.del i).acc) (kvDrop (heldKey t d.sum d.n) (x.ents t)) = (x.del i).ents t := by
  have hm := List.mem_of_getElem? h
  have hs1 := kvDrop_sorted (ents_sorted (t := t) ok) (heldKey t d.sum d.n)
  refine kvSorted_eq (kvPut_sorted hs1 _ _) (ents_sorted (ok.del h)) fun p => ?_
  rw [kvPut_mem hs1, kvDrop_mem (ents_sorted ok), ents_mem, ents_mem]
  have his := is_of ok hm
  constructor
  · rintro (e | ⟨⟨⟨e, he, rfl⟩ | ⟨e1, e2⟩, h1⟩, h2⟩)
    · exact .inr ⟨his, e⟩
    · refine .inl ⟨e, (rest_mem ok.sorted h e).2 ⟨he, fun e3 => h1 ?_⟩, rfl⟩
      show heldKey t e.sum e.n = _
      rw [show e.sum = d.sum from congrArg Prod.fst e3, show e.n = d.n from congrArg Prod.snd e3]
    · exact absurd (by rw [e2]) h2
  · rintro (⟨e, he, rfl⟩ | ⟨e1, e2⟩)
    · obtain ⟨h1, h2⟩ := (rest_mem ok.sorted h e).1 he
      refine .inr ⟨⟨.inl ⟨e, h1, rfl⟩, fun e3 => h2 ?_⟩, fun e3 => held_ne_quota _ _ _ e3⟩
      exact heldKey_inj (a := e.id) (b := d.id) (ok.id h1).1 (ok.id hm).1 (ok.id h1).2 (ok.id hm).2 e3
    · exact .inl e2
theorem ents_ins (ok : LedOk x) {d : Hd} (ok' : LedOk (x.ins d)) (his : x.is = true) (hn : ∀ e ∈ x.l, e.id ≠ d.id) : kvPut (quotaKey t) (textB (x.ins d).acc) (kvPut (heldKey t d.sum d.n) (textB [d.count, d.size]) (x.ents t)) = (x.ins d).ents t := by
  have hs1 := kvPut_sorted (ents_sorted (t := t) ok) (heldKey t d.sum d.n) (textB [d.count, d.size])
  refine kvSorted_eq (kvPut_sorted hs1 _ _) (ents_sorted ok') fun p => ?_
  rw [kvPut_mem hs1, kvPut_mem (ents_sorted ok), ents_mem, ents_mem]
  have hd := ok'.id ((insH_mem d x.l d).2 (.inl rfl))
  constructor
  · rintro (e | ⟨e | ⟨⟨e, he, rfl⟩ | ⟨e1, e2⟩, h1⟩, h2⟩)
    · exact .inr ⟨his, e⟩
    · exact .inl ⟨d, (insH_mem d x.l d).2 (.inl rfl), e.symm⟩
    · exact .inl ⟨e, (insH_mem d x.l e).2 (.inr he), rfl⟩
    · exact absurd (by rw [e2]) h2
  · rintro (⟨e, he, rfl⟩ | ⟨e1, e2⟩)
    · rcases (insH_mem d x.l e).1 he with rfl | h1
      · exact .inr ⟨.inl rfl, fun e3 => held_ne_quota _ _ _ e3⟩
      · refine .inr ⟨.inr ⟨.inl ⟨e, h1, rfl⟩, fun e3 => hn e h1 ?_⟩, fun e3 => held_ne_quota _ _ _ e3⟩
        exact heldKey_inj (a := e.id) (b := d.id) (ok.id h1).1 hd.1 (ok.id h1).2 hd.2 e3
    · exact .inl e2
/-- Another account, the same contents. -/
theorem ents_acc (ok : LedOk x) {y : Led} (ok' : LedOk y) (hl : y.l = x.l) (his : y.is = true) : kvPut (quotaKey t) (textB y.acc) (x.ents t) = y.ents t := by
  refine kvSorted_eq (kvPut_sorted (ents_sorted ok) _ _) (ents_sorted ok') fun p => ?_
  rw [kvPut_mem (ents_sorted ok), ents_mem, ents_mem, hl]
  constructor
  · rintro (e | ⟨⟨e, he, rfl⟩ | ⟨e1, e2⟩, h2⟩)
    · exact .inr ⟨his, e⟩
    · exact .inl ⟨e, he, rfl⟩
    · exact absurd (by rw [e2]) h2
  · rintro (⟨e, he, rfl⟩ | ⟨e1, e2⟩)
    · exact .inr ⟨.inl ⟨e, he, rfl⟩, fun e3 => held_ne_quota _ _ _ e3⟩
    · exact .inl e2
/-- A table that has a tenant's ledger. -/
structure Has (t : Nat) (x : Led) (L : List KV) : Prop where
  sorted : kvSorted L
  part : kvPart (own t) L = x.ents t
  ok : LedOk x
/-- Nothing but the tenant's own is changed. -/
structure Own1 (t : Nat) (L L' : List KV) : Prop where
  sorted : kvSorted L'
  same : ∀ p : KV, own t p.1 = false → (p ∈ L' ↔ p ∈ L)
theorem Own1.refl (hs : kvSorted L) : Own1 t L L := ⟨hs, fun _ _ => Iff.rfl⟩
theorem Own1.put {L' : List KV} (O : Own1 t L L') {k : ByteArray} (v : ByteArray) (hk : own t k = true) : Own1 t L (kvPut k v L') :=
  ⟨kvPut_sorted O.sorted k v, fun p hp => by
    rw [kvPut_mem O.sorted, ← O.same p hp]
    refine ⟨fun h => h.elim (fun e => ?_) fun h => h.1, fun h => .inr ⟨h, fun e => ?_⟩⟩
    · rw [e, hk] at hp; cases hp
    · rw [e, hk] at hp; cases hp⟩
theorem Own1.drop {L' : List KV} (O : Own1 t L L') {k : ByteArray} (hk : own t k = true) : Own1 t L (kvDrop k L') :=
  ⟨kvDrop_sorted O.sorted k, fun p hp => by
    rw [kvDrop_mem O.sorted, ← O.same p hp]
    refine ⟨fun h => h.1, fun h => ⟨h, fun e => ?_⟩⟩
    rw [e, hk] at hp; cases hp⟩
theorem Own1.part {L' : List KV} (O : Own1 t L L') (hs : kvSorted L) {q : ByteArray → Bool} (hq : ∀ k, q k = true → own t k = false) : kvPart q L' = kvPart q L :=
  kvSorted_eq (part_sorted O.sorted q) (part_sorted hs q) fun p => by
    rw [part_mem, part_mem]
    exact ⟨fun h => ⟨(O.same p (hq _ h.2)).1 h.1, h.2⟩, fun h => ⟨(O.same p (hq _ h.2)).2 h.1, h.2⟩⟩
theorem own_other {s t : Nat} (hs : s < 256) (ht : t < 256) (hn : s ≠ t) (k : ByteArray) (h : own s k = true) : own t k = false := by
  unfold own ownL at *
  split at h
  · rename_i a b r e
    rw [Bool.and_eq_true] at h
    have h1 := of_decide_eq_true h.1
    rw [Bool.and_eq_false_iff]
    left
    rw [decide_eq_false_iff_not, h1]
    intro e
    have := congrArg UInt8.toNat e
    simp at this; omega
  · cases h
theorem Has.other {s : Nat} {y : Led} {L' : List KV} (H : Has s y L) (O : Own1 t L L') (hs : s < 256) (ht : t < 256) (hn : s ≠ t) : Has s y L' :=
  ⟨O.sorted, by rw [O.part H.sorted fun k hk => own_other hs ht hn k hk]; exact H.part, H.ok⟩
theorem Has.held (H : Has t x L) (ht : t < 256) {sum : ByteArray} {n : Nat} (hs : sum.size < 256) (hn : n < 256) : kvGet (heldKey t sum n) L = (atH x.l sum n).map fun d => textB [d.count, d.size] := by
  rw [part_get H.sorted (own t) _ (by rw [own_held _ _ _ _ ht ht]; exact decide_eq_true rfl), H.part, ents_held H.ok hs hn]
theorem Has.quota (H : Has t x L) (ht : t < 256) : kvGet (quotaKey t) L = if x.is then some (textB x.acc) else none := by
  rw [part_get H.sorted (own t) _ (by rw [own_quota _ _ ht ht]; exact decide_eq_true rfl), H.part, ents_quota H.ok]
end Go.Proofs.Ytlklpdedppgkfaa
