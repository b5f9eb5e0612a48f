/- Plain laws of entries in the order of their keys: membership, parts of a table. Conditions: those that each lemma names. -/
import Derived.Test.YtlklpdedppgkfaaKV
namespace Go.Gx
set_option linter.unusedVariables false
theorem bl_app : ∀ (p x y : List UInt8), Op.bytesLess (p ++ x) (p ++ y) = Op.bytesLess x y
  | [], _, _ => rfl
  | a :: p, x, y => by
    show (decide (a < a) || (a == a && Op.bytesLess (p ++ x) (p ++ y))) = _
    rw [bl_app p x y, decide_eq_false (UInt8.lt_irrefl a)]; simp
theorem bl_one (a b : UInt8) : Op.bytesLess [a] [b] = decide (a < b) := by simp [Op.bytesLess]
theorem bl_cons (a b : UInt8) (x y : List UInt8) : Op.bytesLess (a :: x) (b :: y) = (decide (a < b) || (a == b && Op.bytesLess x y)) := rfl
theorem bl_app_ne : ∀ {x y : List UInt8} (u v : List UInt8), x.length = y.length → x ≠ y → Op.bytesLess (x ++ u) (y ++ v) = Op.bytesLess x y
  | [], [], _, _, _, h => absurd rfl h
  | [], _ :: _, _, _, h, _ => by simp at h
  | _ :: _, [], _, _, h, _ => by simp at h
  | a :: x, b :: y, u, v, hl, hn => by
    show (decide (a < b) || (a == b && Op.bytesLess (x ++ u) (y ++ v))) = (decide (a < b) || (a == b && Op.bytesLess x y))
    by_cases e : a = b
    · subst e
      rw [bl_app_ne u v (by simpa using hl) (fun h => hn (by rw [h]))]
    · have : (a == b) = false := by simpa using e
      rw [this]; rfl
theorem app_list (s t : ByteArray) : (s ++ t).data.toList = s.data.toList ++ t.data.toList := by
  rw [ByteArray.data_append, Array.toList_append]
theorem app_size (s t : ByteArray) : (s ++ t).size = s.size + t.size := ByteArray.size_append
theorem kvPut_mem {L : List KV} (hs : kvSorted L) (k v : ByteArray) (p : KV) : p ∈ kvPut k v L ↔ p = (k, v) ∨ (p ∈ L ∧ p.1 ≠ k) := by
  cases hk : kvIs k L with
  | false =>
    rw [(kvPut_new k v hk).mem_iff, List.mem_cons]
    refine ⟨fun h => h.elim .inl fun h => .inr ⟨h, fun e => ?_⟩, fun h => h.elim .inl fun h => .inr h.1⟩
    have := (kvIs_iff hs k).2 ⟨p.2, by rw [← e]; exact h⟩
    rw [hk] at this; cases this
  | true =>
    obtain ⟨w, hw⟩ := (kvIs_iff hs k).1 hk
    obtain ⟨M, p1, p2, _⟩ := kvPut_old hs v hw
    rw [p2.mem_iff, List.mem_cons]
    have hnd := p1.nodup_iff.1 (kvSorted_nodup hs)
    refine ⟨fun h => h.elim .inl fun h => .inr ⟨p1.mem_iff.2 (List.mem_cons_of_mem _ h), fun e => ?_⟩, fun h => h.elim .inl fun h => .inr ?_⟩
    · have := kvSorted_inj hs (p1.mem_iff.2 (List.mem_cons_of_mem _ h)) hw e
      rw [this] at h
      exact (List.nodup_cons.1 hnd).1 h
    · rcases List.mem_cons.1 (p1.mem_iff.1 h.1) with e | h'
      · exact absurd (by rw [e]) h.2
      · exact h'
theorem kvDrop_mem {L : List KV} (hs : kvSorted L) (k : ByteArray) (p : KV) : p ∈ kvDrop k L ↔ p ∈ L ∧ p.1 ≠ k := by
  cases hk : kvIs k L with
  | false =>
    unfold kvDrop
    rw [hk]
    refine ⟨fun h => ⟨h, fun e => ?_⟩, fun h => h.1⟩
    have := (kvIs_iff hs k).2 ⟨p.2, by rw [← e]; exact h⟩
    rw [hk] at this; cases this
  | true =>
    obtain ⟨w, hw⟩ := (kvIs_iff hs k).1 hk
    obtain ⟨M, p1, _, p3⟩ := kvPut_old hs w hw
    rw [p3.mem_iff]
    have hnd := p1.nodup_iff.1 (kvSorted_nodup hs)
    refine ⟨fun h => ⟨p1.mem_iff.2 (List.mem_cons_of_mem _ h), fun e => ?_⟩, fun h => ?_⟩
    · have := kvSorted_inj hs (p1.mem_iff.2 (List.mem_cons_of_mem _ h)) hw e
      rw [this] at h
      exact (List.nodup_cons.1 hnd).1 h
    · rcases List.mem_cons.1 (p1.mem_iff.1 h.1) with e | h'
      · exact absurd (by rw [e]) h.2
      · exact h'
/-- The part of a table whose keys are such. -/
def kvPart (q : ByteArray → Bool) (L : List KV) : List KV := L.filter fun p => q p.1
theorem part_sorted {L : List KV} (hs : kvSorted L) (q : ByteArray → Bool) : kvSorted (kvPart q L) := List.Pairwise.sublist List.filter_sublist hs
theorem part_mem {L : List KV} {q : ByteArray → Bool} {p : KV} : p ∈ kvPart q L ↔ p ∈ L ∧ q p.1 = true := List.mem_filter
theorem part_put {L : List KV} (hs : kvSorted L) (q : ByteArray → Bool) (k v : ByteArray) (h : q k = true) : kvPart q (kvPut k v L) = kvPut k v (kvPart q L) := by
  refine kvSorted_eq (part_sorted (kvPut_sorted hs k v) q) (kvPut_sorted (part_sorted hs q) k v) fun p => ?_
  rw [part_mem, kvPut_mem hs, kvPut_mem (part_sorted hs q), part_mem]
  constructor
  · rintro ⟨h1 | h1, h2⟩
    · exact .inl h1
    · exact .inr ⟨⟨h1.1, h2⟩, h1.2⟩
  · rintro (h1 | h1)
    · exact ⟨.inl h1, by rw [h1]; exact h⟩
    · exact ⟨.inr ⟨h1.1.1, h1.2⟩, h1.1.2⟩
theorem part_put_ne {L : List KV} (hs : kvSorted L) (q : ByteArray → Bool) (k v : ByteArray) (h : q k = false) : kvPart q (kvPut k v L) = kvPart q L := by
  refine kvSorted_eq (part_sorted (kvPut_sorted hs k v) q) (part_sorted hs q) fun p => ?_
  rw [part_mem, kvPut_mem hs, part_mem]
  constructor
  · rintro ⟨h1 | h1, h2⟩
    · rw [h1, h] at h2; cases h2
    · exact ⟨h1.1, h2⟩
  · rintro ⟨h1, h2⟩
    exact ⟨.inr ⟨h1, fun e => by rw [e, h] at h2; cases h2⟩, h2⟩
theorem part_drop {L : List KV} (hs : kvSorted L) (q : ByteArray → Bool) (k : ByteArray) (h : q k = true) : kvPart q (kvDrop k L) = kvDrop k (kvPart q L) := by
  refine kvSorted_eq (part_sorted (kvDrop_sorted hs k) q) (kvDrop_sorted (part_sorted hs q) k) fun p => ?_
  rw [part_mem, kvDrop_mem hs, kvDrop_mem (part_sorted hs q), part_mem]
  exact ⟨fun h => ⟨⟨h.1.1, h.2⟩, h.1.2⟩, fun h => ⟨⟨h.1.1, h.2⟩, h.1.2⟩⟩
theorem part_drop_ne {L : List KV} (hs : kvSorted L) (q : ByteArray → Bool) (k : ByteArray) (h : q k = false) : kvPart q (kvDrop k L) = kvPart q L := by
  refine kvSorted_eq (part_sorted (kvDrop_sorted hs k) q) (part_sorted hs q) fun p => ?_
  rw [part_mem, kvDrop_mem hs, part_mem]
  exact ⟨fun h => ⟨h.1.1, h.2⟩, fun h2 => ⟨⟨h2.1, fun e => by rw [e, h] at h2; cases h2.2⟩, h2.2⟩⟩
theorem part_get {L : List KV} (hs : kvSorted L) (q : ByteArray → Bool) (k : ByteArray) (h : q k = true) : kvGet k L = kvGet k (kvPart q L) := by
  have key : ∀ v, kvGet k L = some v ↔ kvGet k (kvPart q L) = some v := fun v => by
    rw [kvGet_iff hs, kvGet_iff (part_sorted hs q), part_mem]
    exact ⟨fun g => ⟨g, h⟩, fun g => g.1⟩
  cases e : kvGet k L with
  | some v => exact ((key v).1 e).symm
  | none =>
    cases e2 : kvGet k (kvPart q L) with
    | none => rfl
    | some v => rw [(key v).2 e2] at e; cases e
theorem part_is {L : List KV} (hs : kvSorted L) (q : ByteArray → Bool) (k : ByteArray) (h : q k = true) : kvIs k L = kvIs k (kvPart q L) := by
  rw [kvIs_get, kvIs_get, part_get hs q k h]
theorem kvPut_length {L : List KV} (k v : ByteArray) : (kvPut k v L).length = if kvIs k L then L.length else L.length + 1 := by
  have hle := kvAt_le k L
  unfold kvPut
  rw [List.length_append, List.length_take, List.length_cons, List.length_drop]
  cases hk : kvIs k L with
  | true =>
    have := kvAt_lt hk
    simp; omega
  | false => simp; omega
theorem kvDrop_length {L : List KV} (k : ByteArray) : (kvDrop k L).length = if kvIs k L then L.length - 1 else L.length := by
  unfold kvDrop
  cases hk : kvIs k L with
  | true =>
    have := kvAt_lt hk
    simp; omega
  | false => simp
end Go.Gx
