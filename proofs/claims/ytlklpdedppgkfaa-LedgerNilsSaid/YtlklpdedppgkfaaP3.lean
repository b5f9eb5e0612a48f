/- The calls of a ledger, as functions on what is held; the table behind them. Conditions: those that each lemma names. -/
import Derived.Test.YtlklpdedppgkfaaP2
namespace Go.Proofs.Ytlklpdedppgkfaa
open Go.Gx
set_option maxRecDepth 100000
set_option linter.unusedVariables false
variable {t : Nat} {x : Led} {L : List KV}
theorem own_h (ht : t < 256) (sum : ByteArray) (n : Nat) : own t (heldKey t sum n) = true := by rw [own_held _ _ _ _ ht ht]; exact decide_eq_true rfl
theorem own_q (ht : t < 256) : own t (quotaKey t) = true := by rw [own_quota _ _ ht ht]; exact decide_eq_true rfl
theorem Has.set (H : Has t x L) (ht : t < 256) {i : Nat} {d : Hd} (h : x.l[i]? = some d) {c : Nat} (hc : 1 ≤ c) : Has t (x.set i c) (kvPut (heldKey t d.sum d.n) (textB [c, d.size]) L) :=
  ⟨kvPut_sorted H.sorted _ _, by rw [part_put H.sorted _ _ _ (own_h ht _ _), H.part, ents_set H.ok h hc], H.ok.set h hc⟩
theorem Has.del (H : Has t x L) (ht : t < 256) {i : Nat} {d : Hd} (h : x.l[i]? = some d) : Has t (x.del i) (kvPut (quotaKey t) (textB (x.del i).acc) (kvDrop (heldKey t d.sum d.n) L)) :=
  ⟨kvPut_sorted (kvDrop_sorted H.sorted _) _ _, by rw [part_put (kvDrop_sorted H.sorted _) _ _ _ (own_q ht), part_drop H.sorted _ _ (own_h ht _ _), H.part, ents_del H.ok h], H.ok.del h⟩
theorem Has.ins (H : Has t x L) (ht : t < 256) {d : Hd} (ok' : LedOk (x.ins d)) (his : x.is = true) (hn : ∀ e ∈ x.l, e.id ≠ d.id) : Has t (x.ins d) (kvPut (quotaKey t) (textB (x.ins d).acc) (kvPut (heldKey t d.sum d.n) (textB [d.count, d.size]) L)) :=
  ⟨kvPut_sorted (kvPut_sorted H.sorted _ _) _ _, by rw [part_put (kvPut_sorted H.sorted _ _) _ _ _ (own_q ht), part_put H.sorted _ _ _ (own_h ht _ _), H.part, ents_ins H.ok ok' his hn], ok'⟩
theorem Has.acc (H : Has t x L) (ht : t < 256) {y : Led} (ok' : LedOk y) (hl : y.l = x.l) (his : y.is = true) : Has t y (kvPut (quotaKey t) (textB y.acc) L) :=
  ⟨kvPut_sorted H.sorted _ _, by rw [part_put H.sorted _ _ _ (own_q ht), H.part, ents_acc H.ok ok' hl his], ok'⟩
theorem put_len (k v : ByteArray) : (kvPut k v L).length ≤ L.length + 1 := by rw [kvPut_length]; split <;> omega
theorem drop_len (k : ByteArray) : (kvDrop k L).length ≤ L.length := by rw [kvDrop_length]; split <;> omega

/-! ### the calls -/
def okQ (q : Int) : Bool := decide (0 ≤ q ∧ q ≤ 1048576)
def Led.create (x : Led) (q : Int) (room : Bool) : Led × Int :=
  if okQ q = false then (x, 1) else if x.is = true then (x, 7) else if room = true then (⟨true, q.toNat, 0, []⟩, 0) else (x, 5)
def Led.resize (x : Led) (q : Int) : Led × Int :=
  if x.is = false then (x, 6) else if okQ q = false then (x, 1) else if (x.used : Int) > q then (x, 5) else ({ x with quota := q.toNat }, 0)
def Led.add (x : Led) (sum : ByteArray) (n size : Int) (room : Bool) : Led × Int :=
  if x.is = false then (x, 6) else if mayI sum n = false ∨ size < 0 ∨ size > 128 then (x, 1) else
    match atH x.l sum n with
    | some d => if (d.size : Int) ≠ size then (x, 8) else (x.set (ixH x.l sum n) (d.count + 1), 0)
    | none => if (x.used : Int) + size > x.quota then (x, 5) else if room = true then (x.ins ⟨sum, n.toNat, 1, size.toNat⟩, 0) else (x, 5)
def Led.drop (x : Led) (sum : ByteArray) (n : Int) : Led × Int :=
  match atH x.l sum n with
  | none => (x, 6)
  | some d => if d.count = 1 then (x.del (ixH x.l sum n), 0) else (x.set (ixH x.l sum n) (d.count - 1), 0)
def Led.record (x : Led) (n : Int) : Led × Int :=
  if x.is = false then (x, 6) else if n < -(x.records : Int) then (x, 8) else if n > 0 ∧ (n > 1048576 ∨ (x.used : Int) + 64 * n > x.quota) then (x, 5) else ({ x with records := (x.records + n).toNat }, 0)
theorem LedOk.resize (ok : LedOk x) (his : x.is = true) {q : Int} (hq : okQ q = true) (hu : ¬ (x.used : Int) > q) : LedOk { x with quota := q.toNat } := by
  have hq := of_decide_eq_true hq
  refine ⟨ok.sorted, ok.may, ok.count, ok.size, by show q.toNat ≤ 1048576; omega, ?_, fun e => ?_⟩
  · show x.used ≤ q.toNat
    omega
  · have e : x.is = false := e
    rw [his] at e; cases e
theorem LedOk.record (ok : LedOk x) (his : x.is = true) {n : Int} (h1 : ¬ n < -(x.records : Int)) (h2 : ¬ (n > 0 ∧ (n > 1048576 ∨ (x.used : Int) + 64 * n > x.quota))) : LedOk { x with records := (x.records + n).toNat } := by
  have hu := ok.used
  unfold Led.used at hu h2
  refine ⟨ok.sorted, ok.may, ok.count, ok.size, ok.quota, ?_, fun e => ?_⟩
  · show sizesH x.l + 64 * (x.records + n).toNat ≤ x.quota
    omega
  · have e : x.is = false := e
    rw [his] at e; cases e
theorem LedOk.create {q : Int} (hq : okQ q = true) : LedOk ⟨true, q.toNat, 0, []⟩ := by
  have hq := of_decide_eq_true hq
  refine ⟨List.Pairwise.nil, fun d hd => (by cases hd), fun d hd => (by cases hd), fun d hd => (by cases hd), by show q.toNat ≤ 1048576; omega, by show 0 ≤ q.toNat; omega, fun e => by cases e⟩
theorem atH_ix {l : List Hd} {sum : ByteArray} {n : Int} {d : Hd} (h : atH l sum n = some d) : l[ixH l sum n]? = some d := h
theorem counts_create {m : Nat} (hc : ∀ d ∈ x.l, d.count < m) (q : Int) (room : Bool) : ∀ d ∈ (x.create q room).1.l, d.count < m := by
  unfold Led.create
  split
  · exact hc
  split
  · exact hc
  split
  · intro d hd; cases hd
  · exact hc
theorem counts_resize {m : Nat} (hc : ∀ d ∈ x.l, d.count < m) (q : Int) : ∀ d ∈ (x.resize q).1.l, d.count < m := by
  unfold Led.resize
  split
  · exact hc
  split
  · exact hc
  split
  · exact hc
  · exact hc
theorem counts_record {m : Nat} (hc : ∀ d ∈ x.l, d.count < m) (q : Int) : ∀ d ∈ (x.record q).1.l, d.count < m := by
  unfold Led.record
  split
  · exact hc
  split
  · exact hc
  split
  · exact hc
  · exact hc
theorem counts_set (ok : LedOk x) {m i c : Nat} (hc : ∀ d ∈ x.l, d.count < m) (h : c < m) : ∀ d ∈ (x.set i c).l, d.count < m := by
  intro d hd
  have hd : d ∈ setH x.l i c := hd
  cases he : x.l[i]? with
  | none =>
    unfold setH at hd
    rw [he] at hd
    exact hc d hd
  | some e =>
    rcases (setH_mem ok.sorted he c d).1 hd with rfl | ⟨h1, _⟩
    · exact h
    · exact hc d h1
theorem counts_add (ok : LedOk x) {m : Nat} (hc : ∀ d ∈ x.l, d.count < m) (h1 : 1 ≤ m) (sum : ByteArray) (n size : Int) (room : Bool) : ∀ d ∈ (x.add sum n size room).1.l, d.count < m + 1 := by
  have hc' : ∀ d ∈ x.l, d.count < m + 1 := fun d hd => Nat.lt_succ_of_lt (hc d hd)
  unfold Led.add
  split
  · exact hc'
  split
  · exact hc'
  split
  · rename_i d hd
    split
    · exact hc'
    · exact counts_set ok hc' (by have := hc d (atH_mem hd).1; omega)
  · split
    · exact hc'
    split
    · intro d hd
      rcases (insH_mem _ x.l d).1 hd with rfl | hd
      · show 1 < m + 1; omega
      · exact hc' d hd
    · exact hc'
theorem counts_drop (ok : LedOk x) {m : Nat} (hc : ∀ d ∈ x.l, d.count < m) (sum : ByteArray) (n : Int) : ∀ d ∈ (x.drop sum n).1.l, d.count < m := by
  unfold Led.drop
  split
  · exact hc
  · rename_i d hd
    split
    · intro e he
      exact hc e ((rest_mem ok.sorted (atH_ix hd) e).1 he).1
    · exact counts_set ok hc (by have := hc d (atH_mem hd).1; omega)
theorem len_set (i c : Nat) : (x.set i c).l.length = x.l.length := by
  show (setH x.l i c).length = _
  cases he : x.l[i]? with
  | none => unfold setH; rw [he]
  | some e => exact (setH_sizes he c).2
theorem len_add (sum : ByteArray) (n size : Int) (room : Bool) : (x.add sum n size room).1.l.length ≤ x.l.length + 1 := by
  unfold Led.add
  split
  · exact Nat.le_succ _
  split
  · exact Nat.le_succ _
  split
  · split
    · exact Nat.le_succ _
    · rw [len_set]; exact Nat.le_succ _
  · split
    · exact Nat.le_succ _
    split
    · show (insH _ x.l).length ≤ _
      rw [insH_length]; exact Nat.le_refl _
    · exact Nat.le_succ _
theorem len_drop (sum : ByteArray) (n : Int) : (x.drop sum n).1.l.length ≤ x.l.length := by
  unfold Led.drop
  split
  · exact Nat.le_refl _
  · rename_i d hd
    split
    · have := (dropH_sizes (atH_ix hd)).2
      show (dropH x.l _).length ≤ _
      omega
    · rw [len_set]; exact Nat.le_refl _
end Go.Proofs.Ytlklpdedppgkfaa
