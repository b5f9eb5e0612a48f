/- Plain laws of a tenant's ledger: what is held, its entries in a table, what each call makes of it. Conditions: those that each lemma names. -/
import Derived.Test.YtlklpdedppgkfaaN1
import Derived.Test.YtlklpdedppgkfaaKV2
namespace Go.Proofs.Ytlklpdedppgkfaa
open Go.Gx
set_option maxRecDepth 100000
set_option linter.unusedVariables false

/-! ### what is held -/
structure Hd where
  sum : ByteArray
  n : Nat
  count : Nat
  size : Nat
structure Led where
  is : Bool
  quota : Nat
  records : Nat
  l : List Hd
def mayI (sum : ByteArray) (n : Int) : Bool := decide (1 ≤ sum.size ∧ sum.size ≤ 32 ∧ 0 ≤ n ∧ n ≤ 255)
def bef (a b : ByteArray × Nat) : Bool := if a.1.size ≠ b.1.size then decide (a.1.size < b.1.size) else blt a.1 b.1 || (decide (a.1 = b.1) && decide (a.2 < b.2))
def Hd.id (d : Hd) : ByteArray × Nat := (d.sum, d.n)
theorem bef_irrefl (a : ByteArray × Nat) : bef a a = false := by unfold bef; simp [blt_irrefl]
theorem bef_trans {a b c : ByteArray × Nat} (h1 : bef a b = true) (h2 : bef b c = true) : bef a c = true := by
  unfold bef at *
  split at h1
  · have h1 := of_decide_eq_true h1
    split at h2
    · have h2 := of_decide_eq_true h2
      rw [if_pos (by omega)]; exact decide_eq_true (by omega)
    · rw [if_pos (by omega)]; exact decide_eq_true (by omega)
  · split at h2
    · have h2 := of_decide_eq_true h2
      rw [if_pos (by omega)]; exact decide_eq_true (by omega)
    · rw [if_neg (by omega)]
      simp only [Bool.or_eq_true, Bool.and_eq_true, decide_eq_true_eq] at *
      rcases h1 with h1 | ⟨e1, h1⟩
      · rcases h2 with h2 | ⟨e2, h2⟩
        · exact .inl (blt_trans h1 h2)
        · rw [← e2]; exact .inl h1
      · rw [e1]
        rcases h2 with h2 | ⟨e2, h2⟩
        · exact .inl h2
        · exact .inr ⟨e2, by omega⟩
theorem bef_total {a b : ByteArray × Nat} (h1 : bef a b = false) (h2 : bef b a = false) : a = b := by
  unfold bef at *
  split at h1
  · have h1 := of_decide_eq_false h1
    rw [if_pos (by omega)] at h2
    have h2 := of_decide_eq_false h2
    omega
  · rw [if_neg (by omega)] at h2
    simp only [Bool.or_eq_false_iff, Bool.and_eq_false_iff, decide_eq_false_iff_not] at *
    have e := blt_total h1.1 h2.1
    have h3 := h1.2
    have h4 := h2.2
    rw [e] at h3 h4
    simp at h3 h4
    exact Prod.ext e (by omega)
theorem bef_asymm {a b : ByteArray × Nat} (h : bef a b = true) : bef b a = false := by
  cases e : bef b a with
  | false => rfl
  | true => have := bef_trans h e; rw [bef_irrefl] at this; cases this
def hdSorted (l : List Hd) : Prop := l.Pairwise fun a b => bef a.id b.id = true
/-- Where an ID stands. -/
def isH (sum : ByteArray) (n : Int) (d : Hd) : Bool := decide (d.sum = sum ∧ (d.n : Int) = n)
def ixH (l : List Hd) (sum : ByteArray) (n : Int) : Nat := l.findIdx (isH sum n)
def atH (l : List Hd) (sum : ByteArray) (n : Int) : Option Hd := l[ixH l sum n]?
theorem atH_mem {l : List Hd} {sum : ByteArray} {n : Int} {d : Hd} (h : atH l sum n = some d) : d ∈ l ∧ d.sum = sum ∧ (d.n : Int) = n := by
  unfold atH at h
  obtain ⟨h1, h2⟩ := List.getElem?_eq_some_iff.1 h
  have h3 := List.findIdx_getElem (xs := l) (p := isH sum n) (w := h1)
  have e : l[ixH l sum n] = l[List.findIdx (isH sum n) l] := rfl
  rw [← e, h2] at h3
  exact ⟨List.mem_of_getElem? h, of_decide_eq_true h3⟩
theorem atH_no {l : List Hd} {sum : ByteArray} {n : Int} (h : atH l sum n = none) : ∀ d ∈ l, isH sum n d = false := by
  unfold atH at h
  have h1 := List.getElem?_eq_none_iff.1 h
  have h2 : l.findIdx (isH sum n) = l.length := Nat.le_antisymm List.findIdx_le_length h1
  exact List.findIdx_eq_length.1 h2
theorem hd_unique {l : List Hd} (hs : hdSorted l) {c d : Hd} (hc : c ∈ l) (hd : d ∈ l) (h : c.id = d.id) : c = d := by
  induction l with
  | nil => cases hc
  | cons a l ih =>
    obtain ⟨p1, p2⟩ := List.pairwise_cons.1 hs
    rcases List.mem_cons.1 hc with rfl | hc
    · rcases List.mem_cons.1 hd with rfl | hd
      · rfl
      · have := p1 d hd; rw [h, bef_irrefl] at this; cases this
    · rcases List.mem_cons.1 hd with rfl | hd
      · have := p1 c (by assumption); rw [h, bef_irrefl] at this; cases this
      · exact ih p2 hc hd
theorem atH_some {l : List Hd} (hs : hdSorted l) {d : Hd} (hd : d ∈ l) : atH l d.sum d.n = some d := by
  cases h : atH l d.sum d.n with
  | none =>
    have := atH_no h d hd
    simp [isH] at this
  | some c =>
    obtain ⟨h1, h2, h3⟩ := atH_mem h
    rw [hd_unique hs h1 hd (Prod.ext h2 (by show c.n = d.n; omega))]
theorem atH_none {l : List Hd} {sum : ByteArray} {n : Nat} (h : atH l sum n = none) : ∀ d ∈ l, d.id ≠ (sum, n) := fun d hd e => by
  have h1 := atH_no h d hd
  unfold isH at h1
  have h2 := of_decide_eq_false h1
  exact h2 ⟨congrArg Prod.fst e, by have := congrArg Prod.snd e; unfold Hd.id at this; simp at this; omega⟩
def insH (x : Hd) : List Hd → List Hd
  | [] => [x]
  | d :: l => if bef x.id d.id = true then x :: d :: l else d :: insH x l
theorem insH_mem (x : Hd) : ∀ (l : List Hd) (d : Hd), d ∈ insH x l ↔ d = x ∨ d ∈ l
  | [], d => by simp [insH]
  | e :: l, d => by
    unfold insH
    split
    · rw [List.mem_cons]
    · rw [List.mem_cons, insH_mem x l d, List.mem_cons]
      constructor
      · rintro (h | h | h)
        · exact .inr (.inl h)
        · exact .inl h
        · exact .inr (.inr h)
      · rintro (h | h | h)
        · exact .inr (.inl h)
        · exact .inl h
        · exact .inr (.inr h)
theorem insH_length (x : Hd) : ∀ l : List Hd, (insH x l).length = l.length + 1
  | [] => rfl
  | d :: l => by unfold insH; split <;> simp [insH_length x l]
theorem insH_sorted {x : Hd} : ∀ {l : List Hd}, hdSorted l → (∀ d ∈ l, d.id ≠ x.id) → hdSorted (insH x l)
  | [], _, _ => List.pairwise_singleton _ _
  | d :: l, hs, hn => by
    obtain ⟨p1, p2⟩ := List.pairwise_cons.1 hs
    unfold insH
    split
    · rename_i hb
      refine List.pairwise_cons.2 ⟨fun e he => ?_, hs⟩
      rcases List.mem_cons.1 he with rfl | he
      · exact hb
      · exact bef_trans hb (p1 e he)
    · rename_i hb
      have hb : bef x.id d.id = false := by simpa using hb
      refine List.pairwise_cons.2 ⟨fun e he => ?_, insH_sorted p2 fun e he => hn e (List.mem_cons_of_mem _ he)⟩
      rcases (insH_mem x l e).1 he with rfl | he
      · cases h2 : bef d.id e.id with
        | true => rfl
        | false => exact absurd (bef_total h2 hb) (hn d (List.mem_cons_self))
      · exact p1 e he
theorem insH_split {x : Hd} : ∀ {A B : List Hd}, hdSorted (A ++ B) → (∀ a ∈ A, bef x.id a.id = false) → (∀ b ∈ B, bef x.id b.id = true) → insH x (A ++ B) = A ++ x :: B
  | [], [], _, _, _ => rfl
  | [], b :: B, _, _, h => by
    show (if bef x.id b.id = true then x :: b :: B else b :: insH x B) = _
    rw [if_pos (h b (List.mem_cons_self))]; rfl
  | a :: A, B, hs, h1, h2 => by
    show (if bef x.id a.id = true then x :: a :: (A ++ B) else a :: insH x (A ++ B)) = _
    rw [if_neg (by rw [h1 a (List.mem_cons_self)]; decide), insH_split (List.pairwise_cons.1 hs).2 (fun c hc => h1 c (List.mem_cons_of_mem _ hc)) h2]; rfl
def setH (l : List Hd) (i : Nat) (c : Nat) : List Hd := match l[i]? with
  | some d => l.take i ++ { d with count := c } :: l.drop (i + 1)
  | none => l
def sizesH (l : List Hd) : Nat := (l.map Hd.size).sum
def Led.used (x : Led) : Nat := sizesH x.l + 64 * x.records
theorem insH_sizes (x : Hd) : ∀ l : List Hd, sizesH (insH x l) = sizesH l + x.size
  | [] => by simp [insH, sizesH]
  | d :: l => by
    unfold insH
    split
    · simp [sizesH]; omega
    · have := insH_sizes x l
      unfold sizesH at this ⊢
      simp [this]; omega

/-! ### entries -/
def heldKey (t : Nat) (sum : ByteArray) (n : Nat) : ByteArray := bytesL [108] ++ bytesL [t, sum.size] ++ sum ++ bytesL [n]
def quotaKey (t : Nat) : ByteArray := bytesL [113] ++ bytesL [t]
theorem heldKey_list (t : Nat) (sum : ByteArray) (n : Nat) : (heldKey t sum n).data.toList = 108 :: UInt8.ofNat t :: UInt8.ofNat sum.size :: (sum.data.toList ++ [UInt8.ofNat n]) := by
  unfold heldKey
  rw [app_list, app_list, app_list]; rfl
theorem quotaKey_list (t : Nat) : (quotaKey t).data.toList = [113, UInt8.ofNat t] := by
  unfold quotaKey
  rw [app_list]; rfl
/-- Is a key a tenant's? -/
def ownL (t : Nat) : List UInt8 → Bool
  | a :: b :: r => decide (b = UInt8.ofNat t) && (decide (a = 108) || decide (a = 113 ∧ r = []))
  | _ => false
def own (t : Nat) (k : ByteArray) : Bool := ownL t k.data.toList
theorem own_held (t s : Nat) (sum : ByteArray) (n : Nat) (ht : t < 256) (hs : s < 256) : own t (heldKey s sum n) = decide (t = s) := by
  unfold own
  rw [heldKey_list]
  show (decide (UInt8.ofNat s = UInt8.ofNat t) && (decide ((108 : UInt8) = 108) || _)) = _
  rw [decide_eq_true rfl, Bool.true_or, Bool.and_true, decide_eq_decide]
  exact ⟨fun h => by have := congrArg UInt8.toNat h; simp at this; omega, fun h => by rw [h]⟩
theorem own_quota (t s : Nat) (ht : t < 256) (hs : s < 256) : own t (quotaKey s) = decide (t = s) := by
  unfold own
  rw [quotaKey_list]
  show (decide (UInt8.ofNat s = UInt8.ofNat t) && (decide ((113 : UInt8) = 108) || decide ((113 : UInt8) = 113 ∧ ([] : List UInt8) = []))) = _
  rw [decide_eq_true (⟨rfl, rfl⟩ : (113 : UInt8) = 113 ∧ ([] : List UInt8) = []), Bool.or_true, Bool.and_true, decide_eq_decide]
  exact ⟨fun h => by have := congrArg UInt8.toNat h; simp at this; omega, fun h => by rw [h]⟩
theorem u8lt {m n : Nat} (hm : m < 256) (hn : n < 256) : decide (UInt8.ofNat m < UInt8.ofNat n) = decide (m < n) := by
  rw [decide_eq_decide, UInt8.lt_iff_toNat_lt]; simp
  rw [Nat.mod_eq_of_lt hm, Nat.mod_eq_of_lt hn]
theorem u8eq {m n : Nat} (hm : m < 256) (hn : n < 256) : (UInt8.ofNat m == UInt8.ofNat n) = decide (m = n) := by
  by_cases e : m = n
  · subst e; simp
  · rw [decide_eq_false e]
    have : UInt8.ofNat m ≠ UInt8.ofNat n := fun h => e (by have := congrArg UInt8.toNat h; simp at this; omega)
    simpa using this
theorem blt_held (t : Nat) {a b : ByteArray × Nat} (ha : a.1.size < 256) (hb : b.1.size < 256) (ha2 : a.2 < 256) (hb2 : b.2 < 256) : blt (heldKey t a.1 a.2) (heldKey t b.1 b.2) = bef a b := by
  unfold blt
  rw [heldKey_list, heldKey_list]
  have e : ∀ x y : List UInt8, Op.bytesLess (108 :: UInt8.ofNat t :: x) (108 :: UInt8.ofNat t :: y) = Op.bytesLess x y := fun x y => bl_app [108, UInt8.ofNat t] x y
  rw [e, bl_cons, u8lt ha hb, u8eq ha hb]
  unfold bef
  split
  · rename_i h
    rw [decide_eq_false h, Bool.false_and, Bool.or_false]
  · rename_i h
    have h : a.1.size = b.1.size := by omega
    rw [decide_eq_true h, decide_eq_false (by omega), Bool.false_or, Bool.true_and]
    by_cases e2 : a.1 = b.1
    · rw [e2, blt_irrefl, bl_app, bl_one, u8lt ha2 hb2, decide_eq_true rfl, Bool.false_or, Bool.true_and]
    · rw [decide_eq_false e2, Bool.false_and, Bool.or_false, bl_app_ne _ _ (by rw [size_len, size_len]; exact h) fun h2 => e2 (bytes_ext h2)]; rfl
theorem blt_quota (t : Nat) (sum : ByteArray) (n : Nat) : blt (heldKey t sum n) (quotaKey t) = true := by
  unfold blt
  rw [heldKey_list, quotaKey_list]; rfl
theorem heldKey_inj {t : Nat} {a b : ByteArray × Nat} (ha : a.1.size < 256) (hb : b.1.size < 256) (ha2 : a.2 < 256) (hb2 : b.2 < 256) (h : heldKey t a.1 a.2 = heldKey t b.1 b.2) : a = b := by
  refine bef_total ?_ ?_
  · rw [← blt_held t ha hb ha2 hb2, h, blt_irrefl]
  · rw [← blt_held t hb ha hb2 ha2, h, blt_irrefl]
def Hd.ent (t : Nat) (d : Hd) : KV := (heldKey t d.sum d.n, textB [d.count, d.size])
def Led.acc (x : Led) : List Nat := [x.quota, sizesH x.l, x.records]
def Led.ents (t : Nat) (x : Led) : List KV := x.l.map (Hd.ent t) ++ if x.is then [(quotaKey t, textB x.acc)] else []
structure LedOk (x : Led) : Prop where
  sorted : hdSorted x.l
  may : ∀ d ∈ x.l, 1 ≤ d.sum.size ∧ d.sum.size ≤ 32 ∧ d.n < 256
  count : ∀ d ∈ x.l, 1 ≤ d.count
  size : ∀ d ∈ x.l, d.size ≤ 128
  quota : x.quota ≤ 1048576
  used : x.used ≤ x.quota
  not : x.is = false → x.l = [] ∧ x.quota = 0 ∧ x.records = 0
theorem LedOk.id {x : Led} (ok : LedOk x) {d : Hd} (hd : d ∈ x.l) : d.id.1.size < 256 ∧ d.id.2 < 256 := by
  have := ok.may d hd
  exact ⟨by show d.sum.size < 256; omega, this.2.2⟩
theorem ents_sorted {t : Nat} {x : Led} (ok : LedOk x) : kvSorted (x.ents t) := by
  unfold Led.ents kvSorted
  rw [List.pairwise_append]
  refine ⟨?_, ?_, ?_⟩
  · rw [List.pairwise_map]
    refine List.Pairwise.imp_of_mem (fun {a b} ha hb hab => ?_) ok.sorted
    have h1 := ok.id ha
    have h2 := ok.id hb
    have := blt_held t (a := a.id) (b := b.id) h1.1 h2.1 h1.2 h2.2
    exact this.trans hab
  · split
    · exact List.pairwise_singleton _ _
    · exact List.Pairwise.nil
  · intro p hp q hq
    obtain ⟨d, hd, rfl⟩ := List.mem_map.1 hp
    split at hq
    · rw [List.mem_singleton.1 hq]; exact blt_quota _ _ _
    · cases hq
theorem ents_held {t : Nat} {x : Led} (ok : LedOk x) {sum : ByteArray} {n : Nat} (hs : sum.size < 256) (hn : n < 256) : kvGet (heldKey t sum n) (x.ents t) = (atH x.l sum n).map fun d => textB [d.count, d.size] := by
  cases h : atH x.l sum n with
  | some d =>
    obtain ⟨h1, h2, h3⟩ := atH_mem h
    rw [Option.map_some, kvGet_iff (ents_sorted ok)]
    refine List.mem_append_left _ (List.mem_map.2 ⟨d, h1, ?_⟩)
    unfold Hd.ent
    rw [h2, show d.n = n by omega]
  | none =>
    rw [Option.map_none, kvGet_none (ents_sorted ok)]
    intro v hv
    rcases List.mem_append.1 hv with hv | hv
    · obtain ⟨d, hd, e⟩ := List.mem_map.1 hv
      have e1 : heldKey t d.sum d.n = heldKey t sum n := congrArg Prod.fst e
      have := heldKey_inj (a := d.id) (b := (sum, n)) (ok.id hd).1 hs (ok.id hd).2 hn e1
      exact atH_none h d hd this
    · split at hv
      · have e := List.mem_singleton.1 hv
        have e1 : heldKey t sum n = quotaKey t := congrArg Prod.fst e
        have := blt_quota t sum n
        rw [e1, blt_irrefl] at this; cases this
      · cases hv
theorem ents_quota {t : Nat} {x : Led} (ok : LedOk x) : kvGet (quotaKey t) (x.ents t) = if x.is then some (textB x.acc) else none := by
  split
  · rename_i h
    rw [kvGet_iff (ents_sorted ok)]
    unfold Led.ents
    rw [if_pos h]
    exact List.mem_append_right _ (List.mem_singleton.2 rfl)
  · rename_i h
    rw [kvGet_none (ents_sorted ok)]
    intro v hv
    unfold Led.ents at hv
    rw [if_neg h, List.append_nil] at hv
    obtain ⟨d, hd, e⟩ := List.mem_map.1 hv
    have e1 : heldKey t d.sum d.n = quotaKey t := congrArg Prod.fst e
    have := blt_quota t d.sum d.n
    rw [e1, blt_irrefl] at this; cases this
end Go.Proofs.Ytlklpdedppgkfaa
