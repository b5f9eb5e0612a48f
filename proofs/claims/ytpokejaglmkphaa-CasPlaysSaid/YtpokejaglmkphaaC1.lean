/- Plain laws of contents: how they stand in a table of entries. Conditions: those that each lemma names. -/
import Derived.Test.YtpokejaglmkphaaS7
import Derived.Test.YtpokejaglmkphaaKV
namespace Go.Proofs.Ytpokejaglmkphaa
open Go.Gx
set_option maxRecDepth 100000

/-! ### keys and values -/
def byteB (n : Nat) : ByteArray := ⟨#[UInt8.ofNat n]⟩
def keyB (sum : ByteArray) (n : Nat) : ByteArray := bytesL [99] ++ sum ++ byteB n
def be4B (r : Nat) : ByteArray := ⟨#[UInt8.ofNat (r / 16777216), UInt8.ofNat (r / 65536), UInt8.ofNat (r / 256), UInt8.ofNat r]⟩
def valB (r : Nat) (data : ByteArray) : ByteArray := be4B r ++ data
theorem app_list (s t : ByteArray) : (s ++ t).data.toList = s.data.toList ++ t.data.toList := by
  rw [ByteArray.data_append, Array.toList_append]
theorem app_size (s t : ByteArray) : (s ++ t).size = s.size + t.size := ByteArray.size_append
theorem keyB_list (sum : ByteArray) (n : Nat) : (keyB sum n).data.toList = 99 :: (sum.data.toList ++ [UInt8.ofNat n]) := by
  unfold keyB
  rw [app_list, app_list]; rfl
theorem u8_inj {m n : Nat} (hm : m < 256) (hn : n < 256) (h : UInt8.ofNat m = UInt8.ofNat n) : m = n := by
  have := congrArg UInt8.toNat h
  simp at this; omega
theorem keyB_inj {s t : ByteArray} {m n : Nat} (hm : m < 256) (hn : n < 256) (h : keyB s m = keyB t n) : s = t ∧ m = n := by
  have h := congrArg (fun b => b.data.toList) h
  simp only [keyB_list] at h
  have h := (List.cons.inj h).2
  have h1 := List.append_inj' h rfl
  exact ⟨bytes_ext h1.1, u8_inj hm hn (by simpa using h1.2)⟩
theorem valB_size (r : Nat) (d : ByteArray) : (valB r d).size = 4 + d.size := by unfold valB; rw [app_size]; rfl
theorem valB_data (r : Nat) (d : ByteArray) : (valB r d).extract 4 (valB r d).size = d := by
  apply bytes_ext
  rw [valB_size, ByteArray.data_extract, Array.toList_extract]
  unfold valB
  rw [app_list]
  show ((be4B r).data.toList ++ d.data.toList).extract 4 (4 + d.size) = _
  rw [List.extract_eq_take_drop]
  show (d.data.toList).take (4 + d.size - 4) = _
  rw [Nat.add_sub_cancel_left]
  exact List.take_of_length_le (by rw [Array.length_toList]; exact Nat.le_refl _)
theorem valB_inj {r s : Nat} {d e : ByteArray} (hr : r < 4294967296) (hs : s < 4294967296) (h : valB r d = valB s e) : r = s ∧ d = e := by
  have hd : d = e := by
    have h1 := valB_data r d
    rw [h, valB_data] at h1; exact h1.symm
  subst hd
  have h := congrArg (fun b => b.data.toList) h
  unfold valB at h
  simp only [app_list] at h
  have h := (List.append_inj' h rfl).1
  have h : [UInt8.ofNat (r / 16777216), UInt8.ofNat (r / 65536), UInt8.ofNat (r / 256), UInt8.ofNat r] = [UInt8.ofNat (s / 16777216), UInt8.ofNat (s / 65536), UInt8.ofNat (s / 256), UInt8.ofNat s] := h
  simp only [List.cons.injEq, and_true] at h
  obtain ⟨h1, h2, h3, h4⟩ := h
  have h1 := congrArg UInt8.toNat h1
  have h2 := congrArg UInt8.toNat h2
  have h3 := congrArg UInt8.toNat h3
  have h4 := congrArg UInt8.toNat h4
  simp at h1 h2 h3 h4
  exact ⟨by omega, rfl⟩

/-! ### contents -/
structure Ct where
  sum : ByteArray
  n : Nat
  refs : Nat
  data : ByteArray
def Ct.entry (c : Ct) : KV := (keyB c.sum c.n, valB c.refs c.data)
def Ct.has (sum : ByteArray) (n : Int) (c : Ct) : Bool := decide (c.sum = sum ∧ (c.n : Int) = n)
def digest (data : ByteArray) (width : Nat) : ByteArray := (shaF data).extract 0 width
theorem digest_size (data : ByteArray) {width : Nat} (h : width ≤ 32) : (digest data width).size = width := by
  unfold digest
  rw [ByteArray.size_extract, shaF_size]; omega
/-- Where an ID stands. -/
def atC (l : List Ct) (sum : ByteArray) (n : Int) : Nat := l.findIdx (Ct.has sum n)
def findC (l : List Ct) (sum : ByteArray) (n : Int) : Option Ct := l.find? (Ct.has sum n)
def withC (l : List Ct) (i r : Nat) : List Ct := l.take i ++ (match l[i]? with
  | some c => if r > 0 then [{ c with refs := r }] else []
  | none => []) ++ l.drop (i + 1)
/-- What contents must be, of digests of a width. -/
structure CtsOk (width : Nat) (l : List Ct) : Prop where
  sum : ∀ c ∈ l, c.sum = digest c.data width
  n : ∀ c ∈ l, c.n < 256
  refs : ∀ c ∈ l, 1 ≤ c.refs ∧ c.refs < 4294967296
  size : ∀ c ∈ l, c.data.size ≤ 128
  data : l.Pairwise fun c d => c.data ≠ d.data
  id : l.Pairwise fun c d => ¬ (c.sum = d.sum ∧ c.n = d.n)
/-- How they stand in a table, beside other entries. -/
structure Rel (width : Nat) (X : List KV) (l : List Ct) (L : List KV) : Prop where
  ok : CtsOk width l
  sorted : kvSorted L
  perm : L.Perm (l.map Ct.entry ++ X)
  other : ∀ p ∈ X, p.1.data.toList.head? ≠ some 99 ∧ p.1.data.toList ≠ []
variable {width : Nat} {X : List KV} {l : List Ct} {L : List KV}
theorem Rel.length (R : Rel width X l L) : L.length = l.length + X.length := by
  have := R.perm.length_eq
  simpa using this
theorem Rel.mem (R : Rel width X l L) {sum : ByteArray} {n : Nat} {v : ByteArray} : (keyB sum n, v) ∈ L ↔ ∃ c ∈ l, keyB c.sum c.n = keyB sum n ∧ valB c.refs c.data = v := by
  rw [R.perm.mem_iff, List.mem_append, List.mem_map]
  constructor
  · rintro (⟨c, hc, e⟩ | h)
    · have e : (keyB c.sum c.n, valB c.refs c.data) = (keyB sum n, v) := e
      exact ⟨c, hc, congrArg Prod.fst e, congrArg Prod.snd e⟩
    · have := (R.other _ h).1
      rw [keyB_list] at this
      exact absurd rfl this
  · rintro ⟨c, hc, e1, e2⟩
    exact .inl ⟨c, hc, by unfold Ct.entry; rw [e1, e2]⟩
theorem findC_mem {sum : ByteArray} {n : Int} {c : Ct} (h : findC l sum n = some c) : c ∈ l ∧ c.sum = sum ∧ (c.n : Int) = n := by
  unfold findC at h
  have h1 := List.find?_some h
  exact ⟨List.mem_of_find?_eq_some h, of_decide_eq_true h1⟩
theorem id_unique (ok : CtsOk width l) {c d : Ct} (hc : c ∈ l) (hd : d ∈ l) (h : c.sum = d.sum ∧ c.n = d.n) : c = d := by
  have := ok.id
  clear ok
  induction l with
  | nil => cases hc
  | cons a l ih =>
    obtain ⟨p1, p2⟩ := List.pairwise_cons.1 this
    rcases List.mem_cons.1 hc with rfl | hc
    · rcases List.mem_cons.1 hd with rfl | hd
      · rfl
      · exact absurd h (p1 d hd)
    · rcases List.mem_cons.1 hd with rfl | hd
      · exact absurd ⟨h.1.symm, h.2.symm⟩ (p1 c (by assumption))
      · exact ih hc hd p2
theorem findC_some (ok : CtsOk width l) {c : Ct} (hc : c ∈ l) : findC l c.sum c.n = some c := by
  cases h : findC l c.sum c.n with
  | none =>
    unfold findC at h
    have := List.find?_eq_none.1 h c hc
    simp [Ct.has] at this
  | some d =>
    obtain ⟨h1, h2, h3⟩ := findC_mem h
    rw [id_unique ok h1 hc ⟨h2, by omega⟩]
theorem Rel.get (R : Rel width X l L) {sum : ByteArray} {n : Nat} (hn : n < 256) : kvGet (keyB sum n) L = (findC l sum n).map fun c => valB c.refs c.data := by
  cases h : findC l sum n with
  | none =>
    rw [Option.map_none, kvGet_none R.sorted]
    intro v hv
    obtain ⟨c, hc, e1, _⟩ := R.mem.1 hv
    obtain ⟨e3, e4⟩ := keyB_inj (R.ok.n c hc) hn e1
    have := findC_some R.ok hc
    rw [e3, e4, h] at this; cases this
  | some c =>
    obtain ⟨h1, h2, h3⟩ := findC_mem h
    have h3 : c.n = n := by omega
    rw [Option.map_some, kvGet_iff R.sorted]
    refine R.mem.2 ⟨c, h1, by rw [h2, h3], rfl⟩
theorem Rel.is (R : Rel width X l L) {sum : ByteArray} {n : Nat} (hn : n < 256) : kvIs (keyB sum n) L = (findC l sum n).isSome := by
  rw [kvIs_get, R.get hn]
  cases findC l sum n <;> rfl
theorem at_split {c : Ct} {i : Nat} (h : l[i]? = some c) : l = l.take i ++ c :: l.drop (i + 1) := by
  obtain ⟨h1, h2⟩ := List.getElem?_eq_some_iff.1 h
  conv => lhs; rw [← List.take_append_drop i l, List.drop_eq_getElem_cons h1, h2]
theorem withC_pos {c : Ct} {i r : Nat} (h : l[i]? = some c) (hr : 0 < r) : withC l i r = l.take i ++ { c with refs := r } :: l.drop (i + 1) := by
  unfold withC
  rw [h]
  simp only []
  rw [if_pos hr, List.append_assoc]; rfl
theorem withC_zero {c : Ct} {i : Nat} (h : l[i]? = some c) : withC l i 0 = l.take i ++ l.drop (i + 1) := by
  unfold withC
  rw [h]
  simp
theorem CtsOk.with_ (ok : CtsOk width l) {c : Ct} {i r : Nat} (h : l[i]? = some c) (hr : r < 4294967296) : CtsOk width (withC l i r) := by
  have hl := at_split h
  by_cases h0 : r = 0
  · subst h0
    rw [withC_zero h]
    have hs : (l.take i ++ l.drop (i + 1)).Sublist l := by
      conv => rhs; rw [hl]
      exact List.Sublist.append (List.Sublist.refl _) (List.sublist_cons_self _ _)
    have hm : ∀ c ∈ l.take i ++ l.drop (i + 1), c ∈ l := fun c hc => hs.subset hc
    exact ⟨fun c hc => ok.sum c (hm c hc), fun c hc => ok.n c (hm c hc), fun c hc => ok.refs c (hm c hc), fun c hc => ok.size c (hm c hc), ok.data.sublist hs, ok.id.sublist hs⟩
  · rw [withC_pos h (by omega)]
    have hc : c ∈ l := List.mem_of_getElem? h
    have hm : ∀ d ∈ l.take i ++ { c with refs := r } :: l.drop (i + 1), ∃ e ∈ l, d.sum = e.sum ∧ d.n = e.n ∧ d.data = e.data ∧ (d.refs = e.refs ∨ d.refs = r) := by
      intro d hd
      rcases List.mem_append.1 hd with hd | hd
      · exact ⟨d, List.mem_of_mem_take hd, rfl, rfl, rfl, .inl rfl⟩
      · rcases List.mem_cons.1 hd with rfl | hd
        · exact ⟨c, hc, rfl, rfl, rfl, .inr rfl⟩
        · exact ⟨d, List.mem_of_mem_drop hd, rfl, rfl, rfl, .inl rfl⟩
    have hp : ∀ {P : Ct → Ct → Prop}, (∀ a b, P a b ↔ P { a with refs := 0 } { b with refs := 0 }) → l.Pairwise P → (l.take i ++ { c with refs := r } :: l.drop (i + 1)).Pairwise P := by
      intro P hP hl'
      rw [hl] at hl'
      have := (List.pairwise_map (f := fun a : Ct => { a with refs := 0 }) (R := P) (l := l.take i ++ c :: l.drop (i + 1))).2 (hl'.imp fun {a b} h => (hP a b).1 h)
      have e : (l.take i ++ c :: l.drop (i + 1)).map (fun a : Ct => { a with refs := 0 }) = (l.take i ++ { c with refs := r } :: l.drop (i + 1)).map (fun a : Ct => { a with refs := 0 }) := by simp
      rw [e] at this
      exact (List.pairwise_map.1 this).imp fun {a b} h => (hP a b).2 h
    refine ⟨fun d hd => ?_, fun d hd => ?_, fun d hd => ?_, fun d hd => ?_, hp (fun a b => Iff.rfl) ok.data, hp (fun a b => Iff.rfl) ok.id⟩
    · obtain ⟨e, he, h1, h2, h3, h4⟩ := hm d hd; rw [h1, h3]; exact ok.sum e he
    · obtain ⟨e, he, h1, h2, h3, h4⟩ := hm d hd; rw [h2]; exact ok.n e he
    · obtain ⟨e, he, h1, h2, h3, h4⟩ := hm d hd
      rcases h4 with h4 | h4
      · rw [h4]; exact ok.refs e he
      · rw [h4]; omega
    · obtain ⟨e, he, h1, h2, h3, h4⟩ := hm d hd; rw [h3]; exact ok.size e he
theorem Rel.with_ (R : Rel width X l L) {c : Ct} {i r : Nat} (h : l[i]? = some c) (h0 : 0 < r) (hr : r < 4294967296) : Rel width X (withC l i r) (kvPut (keyB c.sum c.n) (valB r c.data) L) := by
  have hc : c ∈ l := List.mem_of_getElem? h
  obtain ⟨M, p1, p2, _⟩ := kvPut_old R.sorted (valB r c.data) (R.mem.2 ⟨c, hc, rfl, rfl⟩)
  refine ⟨R.ok.with_ h hr, kvPut_sorted R.sorted _ _, ?_, R.other⟩
  have hl := at_split h
  have q1 : (l.map Ct.entry ++ X).Perm (c.entry :: ((l.take i ++ l.drop (i + 1)).map Ct.entry ++ X)) := by
    conv => lhs; rw [hl]
    rw [List.map_append, List.map_cons, List.append_assoc, List.map_append, List.append_assoc]
    exact List.perm_middle
  have q2 : M.Perm ((l.take i ++ l.drop (i + 1)).map Ct.entry ++ X) := List.Perm.cons_inv (p1.symm.trans (R.perm.trans q1))
  rw [withC_pos h h0]
  refine p2.trans ((List.Perm.cons _ q2).trans ?_)
  have q3 : (l.take i ++ { c with refs := r } :: l.drop (i + 1)).map Ct.entry ++ X = (l.take i).map Ct.entry ++ (keyB c.sum c.n, valB r c.data) :: ((l.drop (i + 1)).map Ct.entry ++ X) := by
    rw [List.map_append, List.map_cons, List.append_assoc]; rfl
  rw [q3, List.map_append, List.append_assoc]
  exact List.perm_middle.symm
theorem Rel.drop (R : Rel width X l L) {c : Ct} {i : Nat} (h : l[i]? = some c) : Rel width X (withC l i 0) (kvDrop (keyB c.sum c.n) L) := by
  have hc : c ∈ l := List.mem_of_getElem? h
  obtain ⟨M, p1, _, p2⟩ := kvPut_old R.sorted (valB 0 c.data) (R.mem.2 ⟨c, hc, rfl, rfl⟩)
  refine ⟨R.ok.with_ h (by decide), kvDrop_sorted R.sorted _, ?_, R.other⟩
  have hl := at_split h
  have q1 : (l.map Ct.entry ++ X).Perm (c.entry :: ((l.take i ++ l.drop (i + 1)).map Ct.entry ++ X)) := by
    conv => lhs; rw [hl]
    rw [List.map_append, List.map_cons, List.append_assoc, List.map_append, List.append_assoc]
    exact List.perm_middle
  have q2 : M.Perm ((l.take i ++ l.drop (i + 1)).map Ct.entry ++ X) := List.Perm.cons_inv (p1.symm.trans (R.perm.trans q1))
  rw [withC_zero h]
  exact p2.trans q2
theorem Rel.new (R : Rel width X l L) {data : ByteArray} {n : Nat} (hn : n < 256) (hf : findC l (digest data width) n = none) (hd : ∀ c ∈ l, c.data ≠ data) (hs : data.size ≤ 128) :
    Rel width X (l ++ [⟨digest data width, n, 1, data⟩]) (kvPut (keyB (digest data width) n) (valB 1 data) L) := by
  have hk : kvIs (keyB (digest data width) n) L = false := by rw [R.is hn, hf]; rfl
  refine ⟨⟨fun c hc => ?_, fun c hc => ?_, fun c hc => ?_, fun c hc => ?_, ?_, ?_⟩, kvPut_sorted R.sorted _ _, ?_, R.other⟩
  · rcases List.mem_append.1 hc with hc | hc
    · exact R.ok.sum c hc
    · rw [List.mem_singleton.1 hc]
  · rcases List.mem_append.1 hc with hc | hc
    · exact R.ok.n c hc
    · rw [List.mem_singleton.1 hc]; exact hn
  · rcases List.mem_append.1 hc with hc | hc
    · exact R.ok.refs c hc
    · rw [List.mem_singleton.1 hc]; exact ⟨Nat.le_refl _, (by show 1 < 4294967296; decide)⟩
  · rcases List.mem_append.1 hc with hc | hc
    · exact R.ok.size c hc
    · rw [List.mem_singleton.1 hc]; exact hs
  · rw [List.pairwise_append]
    exact ⟨R.ok.data, List.pairwise_singleton _ _, fun a ha b hb => by rw [List.mem_singleton.1 hb]; exact hd a ha⟩
  · rw [List.pairwise_append]
    refine ⟨R.ok.id, List.pairwise_singleton _ _, fun a ha b hb => ?_⟩
    rw [List.mem_singleton.1 hb]
    rintro ⟨e1, e2⟩
    have := findC_some R.ok ha
    rw [e1, e2, hf] at this; cases this
  · refine (kvPut_new _ _ hk).trans ((List.Perm.cons _ R.perm).trans ?_)
    rw [List.map_append, List.append_assoc]
    exact List.perm_middle.symm

/-! ### the numbers of a digest's contents -/
def findN (l : List Ct) (sum : ByteArray) : List Nat := (List.range 256).filter fun (n : Nat) => (findC l sum n).isSome
def freeF (ns : List Nat) : Nat := ns.foldl (fun f n => if n = f then f + 1 else f) 0
theorem freeF_snoc (ns : List Nat) (n : Nat) : freeF (ns ++ [n]) = if n = freeF ns then freeF ns + 1 else freeF ns := by
  unfold freeF
  rw [List.foldl_append]; rfl
theorem freeF_law (p : Nat → Bool) : ∀ k, freeF ((List.range k).filter p) ≤ k ∧ (∀ m, m < freeF ((List.range k).filter p) → p m = true) ∧ (freeF ((List.range k).filter p) < k → p (freeF ((List.range k).filter p)) = false)
  | 0 => ⟨Nat.le_refl _, fun m h => by simp [freeF] at h, fun h => by simp at h⟩
  | k + 1 => by
    obtain ⟨h1, h2, h3⟩ := freeF_law p k
    rw [List.range_succ, List.filter_append]
    cases hp : p k with
    | false =>
      rw [List.filter_cons_of_neg (by rw [hp]; decide), List.filter_nil, List.append_nil]
      refine ⟨by omega, h2, fun h => ?_⟩
      by_cases e : freeF ((List.range k).filter p) = k
      · rw [e]; exact hp
      · exact h3 (by omega)
    | true =>
      rw [List.filter_cons_of_pos hp, List.filter_nil, freeF_snoc]
      split
      · rename_i e
        refine ⟨by omega, fun m hm => ?_, fun h => by omega⟩
        by_cases e2 : m = k
        · rw [e2]; exact hp
        · exact h2 m (by omega)
      · exact ⟨by omega, h2, fun h => h3 (by omega)⟩

/-! ### ranges of keys -/
theorem bl_app : ∀ (p x y : List UInt8), Op.bytesLess (p ++ x) (p ++ y) = Op.bytesLess x y
  | [], _, _ => rfl
  | a :: p, x, y => by
    show (decide (a < a) || (a == a && Op.bytesLess (p ++ x) (p ++ y))) = _
    rw [bl_app p x y, decide_eq_false (UInt8.lt_irrefl a)]; simp
theorem bl_one (a b : UInt8) : Op.bytesLess [a] [b] = decide (a < b) := by simp [Op.bytesLess]
theorem bl_app_ne : ∀ {x y : List UInt8} (u v : List UInt8), x.length = y.length → x ≠ y → Op.bytesLess (x ++ u) (y ++ v) = Op.bytesLess x y
  | [], [], _, _, _, h => absurd rfl h
  | [], _ :: _, _, _, h, _ => by simp at h
  | _ :: _, [], _, _, h, _ => by simp at h
  | a :: x, b :: y, u, v, hl, hn => by
    show (decide (a < b) || (a == b && Op.bytesLess (x ++ u) (y ++ v))) = (decide (a < b) || (a == b && Op.bytesLess x y))
    by_cases e : a = b
    · subst e
      rw [bl_app_ne u v (by simpa using hl) (fun h => hn (by rw [h]))]
    · have : (a == b) = false := by simpa using e
      rw [this]; rfl
theorem blt_key {sum : ByteArray} {m n : Nat} (hm : m < 256) (hn : n < 256) : blt (keyB sum m) (keyB sum n) = decide (m < n) := by
  unfold blt
  rw [keyB_list, keyB_list, ← List.cons_append, ← List.cons_append, bl_app, bl_one, decide_eq_decide]
  rw [UInt8.lt_iff_toNat_lt]; simp
  rw [Nat.mod_eq_of_lt hm, Nat.mod_eq_of_lt hn]
theorem blt_key_ne {s t : ByteArray} {m n : Nat} (hs : s.size = t.size) (hn : s ≠ t) : blt (keyB s m) (keyB t n) = blt s t := by
  unfold blt
  rw [keyB_list, keyB_list]
  have e : ∀ x y : List UInt8, Op.bytesLess (99 :: x) (99 :: y) = Op.bytesLess x y := fun x y => bl_app [99] x y
  rw [e, bl_app_ne _ _ (by rw [Array.length_toList, Array.length_toList]; exact hs) fun h => hn (bytes_ext h)]
theorem in_key {sum s : ByteArray} {n : Nat} (v : ByteArray) (hn : n < 256) (hs : s.size = sum.size) : kvIn (keyB sum 0) (keyB sum 255) (keyB s n, v) = decide (s = sum) := by
  unfold kvIn
  by_cases e : s = sum
  · subst e
    rw [decide_eq_true rfl, blt_key hn (by decide), blt_key hn (by decide), decide_eq_false (by omega : ¬ n < 0)]
    by_cases e2 : n = 255
    · subst e2; simp
    · rw [decide_eq_true (by omega : n < 255)]; rfl
  · rw [decide_eq_false e]
    show (!blt (keyB s n) (keyB sum 0) && (blt (keyB s n) (keyB sum 255) || decide (keyB s n = keyB sum 255))) = false
    rw [blt_key_ne hs e, blt_key_ne hs e, decide_eq_false (fun h => e (keyB_inj hn (by decide) h).1)]
    cases blt s sum <;> rfl
theorem in_other {sum k : ByteArray} (v : ByteArray) {a b : Nat} (h : k.data.toList.head? ≠ some 99 ∧ k.data.toList ≠ []) : kvIn (keyB sum a) (keyB sum b) (k, v) = false := by
  unfold kvIn
  obtain ⟨h1, h2⟩ := h
  have hk : k ≠ keyB sum b := fun e => h1 (by rw [e, keyB_list]; rfl)
  show (!blt k (keyB sum a) && (blt k (keyB sum b) || decide (k = keyB sum b))) = false
  rw [decide_eq_false hk, Bool.or_false]
  unfold blt
  rw [keyB_list, keyB_list]
  cases hl : k.data.toList with
  | nil => exact absurd hl h2
  | cons c t =>
    rw [hl] at h1
    have hc : c ≠ 99 := fun e => h1 (by rw [e]; rfl)
    have hb : (c == 99) = false := by simpa using hc
    show (!(decide (c < 99) || (c == 99 && _)) && (decide (c < 99) || (c == 99 && _))) = false
    rw [hb]
    cases decide (c < 99) <;> rfl
/-- The entries of a digest, in order. -/
def entN (l : List Ct) (sum : ByteArray) : List KV := (findN l sum).map fun (n : Nat) => (keyB sum n, ((findC l sum n).map fun c => valB c.refs c.data).getD noBytes)
where noBytes : ByteArray := bytesL []
theorem findN_lt {sum : ByteArray} {n : Nat} (h : n ∈ findN l sum) : n < 256 ∧ (findC l sum n).isSome = true := by
  unfold findN at h
  rw [List.mem_filter, List.mem_range] at h
  exact h
theorem findN_length (l : List Ct) (sum : ByteArray) : (findN l sum).length ≤ 256 := by
  unfold findN
  exact Nat.le_trans (List.length_filter_le _ _) (by rw [List.length_range]; exact Nat.le_refl _)
theorem findN_sorted (l : List Ct) (sum : ByteArray) : (findN l sum).Pairwise (· < ·) := by
  unfold findN
  exact List.Pairwise.sublist List.filter_sublist List.pairwise_lt_range
theorem Rel.range (R : Rel width X l L) {sum : ByteArray} (hw : width ≤ 32) (hs : sum.size = width) : kvRange (keyB sum 0) (keyB sum 255) 256 L = entN l sum := by
  have e : L.filter (kvIn (keyB sum 0) (keyB sum 255)) = entN l sum := by
    refine kvSorted_eq (List.Pairwise.sublist List.filter_sublist R.sorted) ?_ fun p => ?_
    · unfold entN kvSorted
      rw [List.pairwise_map]
      refine (List.pairwise_iff_forall_sublist.2 fun {a b} hab => ?_)
      have ha := findN_lt (hab.subset (by simp : a ∈ [a, b]))
      have hb' := findN_lt (hab.subset (by simp : b ∈ [a, b]))
      have hlt : a < b := List.pairwise_iff_forall_sublist.1 (findN_sorted l sum) hab
      rw [blt_key ha.1 hb'.1, decide_eq_true hlt]
    · rw [List.mem_filter, R.perm.mem_iff, List.mem_append, List.mem_map]
      constructor
      · rintro ⟨h1 | h1, h2⟩
        · obtain ⟨c, hc, rfl⟩ := h1
          have h2 : kvIn (keyB sum 0) (keyB sum 255) (keyB c.sum c.n, valB c.refs c.data) = true := h2
          rw [in_key _ (R.ok.n c hc) (by rw [R.ok.sum c hc, digest_size _ hw, hs])] at h2
          have hcs : c.sum = sum := of_decide_eq_true h2
          have hf := findC_some R.ok hc
          rw [hcs] at hf
          unfold entN
          rw [List.mem_map]
          refine ⟨c.n, ?_, ?_⟩
          · unfold findN
            rw [List.mem_filter, List.mem_range, hf]
            exact ⟨R.ok.n c hc, rfl⟩
          · rw [hf]; unfold Ct.entry; rw [hcs]; rfl
        · rw [show p = (p.1, p.2) from rfl, in_other p.2 (R.other p h1)] at h2; cases h2
      · intro h
        unfold entN at h
        rw [List.mem_map] at h
        obtain ⟨n, hn, rfl⟩ := h
        obtain ⟨h1, h2⟩ := findN_lt hn
        obtain ⟨c, hc⟩ := Option.isSome_iff_exists.1 h2
        obtain ⟨c1, c2, c3⟩ := findC_mem hc
        rw [hc]
        refine ⟨.inl ⟨c, c1, ?_⟩, ?_⟩
        · unfold Ct.entry
          rw [c2, show c.n = n by omega]; rfl
        · rw [in_key _ h1 rfl]; exact decide_eq_true rfl
  unfold kvRange
  rw [e, List.take_of_length_le]
  unfold entN
  rw [List.length_map]
  exact findN_length l sum
/-- The entries whose keys tell contents. -/
theorem Rel.counts (R : Rel width X l L) : ((L.filter (kvIn (bytesL [99]) (bytesL [100]))).filter fun p => decide (p.1 ≠ bytesL [100])).Perm (l.map Ct.entry) := by
  rw [List.filter_filter]
  refine (R.perm.filter _).trans ?_
  rw [List.filter_append]
  have e1 : (l.map Ct.entry).filter (fun p => decide (p.1 ≠ bytesL [100]) && kvIn (bytesL [99]) (bytesL [100]) p) = l.map Ct.entry := by
    rw [List.filter_eq_self]
    intro p hp
    obtain ⟨c, hc, rfl⟩ := List.mem_map.1 hp
    have hk : (keyB c.sum c.n).data.toList = 99 :: (c.sum.data.toList ++ [UInt8.ofNat c.n]) := keyB_list _ _
    have h1 : keyB c.sum c.n ≠ bytesL [100] := fun e => by
      have := congrArg (fun b => b.data.toList) e
      simp only [hk] at this
      have := (List.cons.inj (show 99 :: (c.sum.data.toList ++ [UInt8.ofNat c.n]) = [100] from this)).1
      exact absurd this (by decide)
    rw [Bool.and_eq_true]
    refine ⟨decide_eq_true h1, ?_⟩
    unfold kvIn
    have h2 : blt (keyB c.sum c.n) (bytesL [99]) = false := by
      unfold blt
      rw [hk]
      show Op.bytesLess (99 :: (c.sum.data.toList ++ [UInt8.ofNat c.n])) [99] = false
      have : Op.bytesLess ([99] ++ (c.sum.data.toList ++ [UInt8.ofNat c.n])) ([99] ++ []) = false := by
        rw [bl_app]; cases (c.sum.data.toList ++ [UInt8.ofNat c.n]) <;> rfl
      exact this
    have h3 : blt (keyB c.sum c.n) (bytesL [100]) = true := by
      unfold blt
      rw [hk]; rfl
    show (!blt (keyB c.sum c.n) (bytesL [99]) && (blt (keyB c.sum c.n) (bytesL [100]) || _)) = true
    rw [h2, h3]; rfl
  have e2 : X.filter (fun p => decide (p.1 ≠ bytesL [100]) && kvIn (bytesL [99]) (bytesL [100]) p) = [] := by
    rw [List.filter_eq_nil_iff]
    intro p hp
    obtain ⟨h1, h2⟩ := R.other p hp
    rw [Bool.and_eq_true]
    rintro ⟨g1, g2⟩
    have g1 : p.1 ≠ bytesL [100] := of_decide_eq_true g1
    unfold kvIn at g2
    rw [decide_eq_false g1, Bool.or_false, Bool.and_eq_true] at g2
    unfold blt at g2
    cases hl : p.1.data.toList with
    | nil => exact absurd hl h2
    | cons c t =>
      rw [hl] at h1 g2
      have hc : c ≠ 99 := fun e => h1 (by rw [e]; rfl)
      have hb : (c == 99) = false := by simpa using hc
      have g3 : (!(decide (c < 99) || (c == 99 && Op.bytesLess t []))) = true := g2.1
      have g4 : (decide (c < 100) || (c == 100 && Op.bytesLess t [])) = true := g2.2
      have ht : Op.bytesLess t [] = false := by cases t <;> rfl
      rw [hb, Bool.false_and, Bool.or_false] at g3
      rw [ht, Bool.and_false, Bool.or_false] at g4
      have g3 : ¬ c < 99 := by simpa using g3
      have g4 : c < 100 := by simpa using g4
      rw [UInt8.lt_iff_toNat_lt] at g3 g4
      apply hc
      apply UInt8.toNat_inj.1
      have a1 : (99 : UInt8).toNat = 99 := rfl
      have a2 : (100 : UInt8).toNat = 100 := rfl
      omega
  rw [e1, e2, List.append_nil]
end Go.Proofs.Ytpokejaglmkphaa
