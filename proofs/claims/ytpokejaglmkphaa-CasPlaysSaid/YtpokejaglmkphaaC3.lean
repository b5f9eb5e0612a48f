/- What the functions of package cas that change, list and count make of contents. Conditions: the store stands as it is named, few contents. -/
import Derived.Test.YtpokejaglmkphaaC2
import Derived.Test.YtpokejaglmkphaaGxR
namespace Go.Proofs.Ytpokejaglmkphaa
open Go.Gx
set_option maxRecDepth 100000
set_option linter.unusedVariables false
variable {h : Hp} {sb tb width : Nat} {full : Int} {X : List KV} {l : List Ct} {K : Value → Hp → Prop}

abbrev Id := ByteArray × Int
def idC (p : Id) : List Value := [.string p.1, .int .i64 p.2]
theorem idC_len (p : Id) : (idC p).length = 2 := rfl
theorem idC_plain (p : Id) : plainP (idC p) := plainP_of rfl
def idV (p : Id) : Value := .agg #[.string p.1, .int .i64 p.2]
def Ct.id (c : Ct) : Id := (c.sum, (c.n : Int))
def noId : Id := (noB, 0)
theorem map_rows (L : List KV) : kvCells L = rowC (fun p => [.string p.1, .string p.2]) L := rfl
theorem entN_get {sum : ByteArray} {i : Nat} {n : Nat} (hn : (findN l sum)[i]? = some n) : ∃ v, (entN l sum)[i]? = some (keyB sum n, v) := by
  unfold entN
  rw [List.getElem?_map, hn]
  exact ⟨_, rfl⟩
theorem entN_len (sum : ByteArray) : (entN l sum).length = (findN l sum).length := by unfold entN; rw [List.length_map]
theorem keyB_last (sum : ByteArray) (n : Nat) (hs : sum.size < 4294967296) : (keyB sum n).size = sum.size + 2 ∧ byteAt (keyB sum n) (sum.size + 1) = ((UInt8.ofNat n).toNat : Nat) := by
  have e : (keyB sum n).size = sum.size + 2 := by
    unfold keyB
    rw [app_size, app_size]
    have e1 : (bytesL [99]).size = 1 := rfl
    have e2 : (byteB n).size = 1 := rfl
    omega
  refine ⟨e, ?_⟩
  unfold byteAt
  rw [keyB_list]
  have : sum.data.toList.length = sum.size := by rw [Array.length_toList]; rfl
  rw [List.getElem?_cons_succ, List.getElem?_append_right (by omega), this, Nat.sub_self]
  rfl
theorem findN_none (C : CasAt h sb tb width full X l) {sum : ByteArray} (hs : sum.size ≠ width) : findN l sum = [] := by
  unfold findN
  rw [List.filter_eq_nil_iff]
  intro n _ hc
  obtain ⟨c, hc⟩ := Option.isSome_iff_exists.1 hc
  exact hs (findC_width C hc).1
def idsN (l : List Ct) (sum : ByteArray) : List Id := (findN l sum).map fun (n : Nat) => (sum, (n : Int))
theorem find_spec (C : CasAt h sb tb width full X l) (hl : l.length + X.length < 4294967295) (sum : ByteArray)
    (hK : ∀ h' a c, NewR idC 2 tID h h' a c (idsN l sum) → K (.slice a (idsN l sum).length c) h') :
    CallsH Try.prog cas_Store_Find.id #[.pointer (some ⟨sb, 0, none⟩), .string sum] h K := by
  apply cas_Store_Find.calls
  unfold cas_Store_Find.W
  have C' := C
  obtain ⟨⟨L, S, R⟩, w1, w2⟩ := C'
  have hL : L.length < 4294967296 := by have := R.length; omega
  refine ⟨_, S.blk.cell' 1 rfl, split_ne (fun e => ?_) (fun e => ?_)⟩
  · have e0 : idsN l sum = [] := by unfold idsN; rw [findN_none C fun h => e (by show ((sum.size : Nat) : Int) = (width : Int); omega)]; rfl
    rw [e0] at hK
    exact hK h none 0 (NewR.nil _ _)
  have e : sum.size = width := by have : ((sum.size : Nat) : Int) = (width : Int) := e; omega
  refine ⟨_, S.blk.cell' 0 rfl, key_spec sum 0 (by omega) fun h1 s1 => ⟨_, rfl, s1, key_spec sum 255 (by omega) fun h2 s2 => ⟨_, rfl, s1.trans s2, _, rfl, tableRange_spec (S.table.sub (s1.trans s2)) hL _ _ 256 fun h3 a c N => ?_⟩⟩⟩
  have s3 : Sub h h3 := (s1.trans s2).trans N.1
  rw [R.range w2 e] at N ⊢
  have hlen := entN_len (l := l) sum
  refine ⟨_, _, _, rfl, fun a' l' c' i x m => ∃ j : Nat, i = (j : Int) ∧ j ≤ (findN l sum).length ∧ j = l' ∧ m = (findN l sum).length - j ∧ NewR idC 2 tID h3 x a' c' ((idsN l sum).take j),
    ⟨_, 0, rfl, by omega, rfl, rfl, ?_⟩, ?_⟩
  · rw [List.take_zero]
    exact NewR.nil tID h3
  rintro a' l' c' i x m ⟨j, rfl, hj, rfl, rfl, N'⟩
  rw [hlen]
  have hil : (idsN l sum).length = (findN l sum).length := by unfold idsN; rw [List.length_map]
  have fl := findN_length l sum
  refine split_dec (fun g => ?_) (fun g => ?_)
  · have g1 : j < (findN l sum).length := by have : (j : Int) < ((findN l sum).length : Int) := g; omega
    have hn : (findN l sum)[j]? = some (findN l sum)[j] := List.getElem?_eq_getElem g1
    generalize (findN l sum)[j] = n at hn
    obtain ⟨v, hv⟩ := entN_get hn
    obtain ⟨b, o, ea, c1, c2⟩ := kv_cell (N.2.2.slice.sub N'.sub) hv
    obtain ⟨k1, k2⟩ := keyB_last sum n (by omega)
    have hn256 := (findN_lt (List.mem_of_getElem? hn)).1
    refine ⟨by omega, g, b, o, ea, _, c1, _, c2, ?_, ?_, fun k hk => ?_⟩
    · rw [k1, wid (by simp; omega) (by simp; omega)]; simp; omega
    · rw [k1, wid (by simp; omega) (by simp; omega)]; simp; omega
    have e1 : (IntKind.i64.wrap (Int.ofNat (keyB sum n).size - 1)).toNat = sum.size + 1 := by
      rw [k1, wid (by simp; omega) (by simp; omega)]; simp; omega
    have e2 : IntKind.i64.wrap (((UInt8.ofNat n).toNat : Nat) : Int) = (n : Int) := by
      have : (UInt8.ofNat n).toNat = n := by simp; omega
      rw [this, wid (by omega) (by omega)]
    rw [e1, k2, e2]
    have ht : (idsN l sum).take (j + 1) = (idsN l sum).take j ++ [(sum, (n : Int))] := by
      rw [List.take_add_one]
      unfold idsN
      rw [List.getElem?_map, hn]; rfl
    refine ⟨idC (sum, (n : Int)), (Blk.new _ _ _ (idC (sum, (n : Int)))).slice rfl, fun a2 c2 y => NewR idC 2 tID h3 y a2 c2 ((idsN l sum).take (j + 1)), ?_, ?_⟩
    · intro a2 c2 y hy
      exact ⟨_, by omega, j + 1, by rw [wid (by omega) (by omega)]; omega, by omega, rfl, rfl, hy⟩
    · have := findN_length l sum
      refine append_row appTI idC_len idC_plain (L := (idsN l sum).take j) (M := [(sum, (n : Int))]) (N'.upd (Sub.upd hk _)) ?_ rfl (rowC_one _).symm ?_ fun a2 c2 y g1' => ?_
      · rw [List.length_take]; omega
      · rw [List.length_take, List.length_cons, List.length_nil]; omega
      · rw [ht]; exact g1'
  · have : j = (findN l sum).length := by
      have : ¬ (j : Int) < ((findN l sum).length : Int) := g
      omega
    subst this
    rw [← hil, List.take_length] at N'
    rw [← hil]
    exact hK x a' c' (N'.back s3)

/-! ### references -/
theorem atI {c : Ct} (hc : c ∈ l) : ∃ i : Nat, l[i]? = some c := List.mem_iff_getElem?.1 hc
theorem again_spec (C : CasAt h sb tb width full X l) (hl : l.length + X.length < 4294967295) (sum : ByteArray) (n : Int)
    (h0 : findC l sum n = none → ∀ h', Sub h h' → K (.int .i64 6) h')
    (h1 : ∀ (i : Nat) (c : Ct), l[i]? = some c → c.id = (sum, n) → c.refs = 4294967295 → ∀ h', Sub h h' → K (.int .i64 5) h')
    (h2 : ∀ (i : Nat) (c : Ct), l[i]? = some c → c.id = (sum, n) → c.refs < 4294967295 → ∀ h', Keep (fun b => b = tb) h h' → CasAt h' sb tb width full X (withC l i (c.refs + 1)) → K (.int .i64 0) h') :
    CallsH Try.prog cas_Store_Again.id #[.pointer (some ⟨sb, 0, none⟩), .agg #[.string sum, .int .i64 n]] h K := by
  apply cas_Store_Again.calls
  unfold cas_Store_Again.W
  refine look_spec C hl sum n fun x1 s1 => ⟨_, _, rfl, ?_⟩
  cases hf : findC l sum n with
  | none => exact split_eq (fun _ => h0 hf x1 s1) fun e => absurd rfl e
  | some c =>
    obtain ⟨c1, c2, c3⟩ := findC_mem hf
    obtain ⟨i, hi⟩ := atI c1
    have hid : c.id = (sum, n) := by unfold Ct.id; rw [c2, c3]
    have hr := C.ok.refs c c1
    have hsz := C.ok.size c c1
    have hn := C.ok.n c c1
    have hw := (findC_width C hf).1
    have C' := C
    obtain ⟨⟨L, S, R⟩, w1, w2⟩ := C'
    have hL : L.length < 4294967296 := by have := R.length; omega
    refine split_eq (fun e => ?_) (fun _ => split_eq (fun e => ?_) (fun e => ?_))
    · have e : (c.refs : Int) = 0 := e; omega
    · have e : (c.refs : Int) = 4294967295 := e
      exact h1 i c hi hid (by omega) x1 s1
    · have e : ¬ (c.refs : Int) = 4294967295 := e
      subst c2; subst c3
      refine ⟨_, S.blk.sub s1 |>.cell' 0 rfl, key_spec c.sum c.n (by omega) fun x2 s2 => ⟨_, rfl, s2, ?_⟩⟩
      have ew : IntKind.i64.wrap ((((Option.map Ct.refs (some c)).getD 0 : Nat) : Int) + 1) = ((c.refs + 1 : Nat) : Int) := by
        show IntKind.i64.wrap ((c.refs : Int) + 1) = _
        rw [wid (by omega) (by omega)]; omega
      rw [ew]
      refine value_spec (c.refs + 1) (by omega) c.data (by omega) fun x3 s3 => ⟨_, rfl, s2.trans s3, _, rfl, ?_⟩
      have s := (s1.trans s2).trans s3
      have hk : kvIs (keyB c.sum c.n) L = true := by rw [R.is hn, hf]; rfl
      refine tablePut_spec (S.table.sub s) hL _ _ (fun e => by rw [hk] at e; cases e) fun _ x4 k4 T4 => ⟨_, rfl, ?_⟩
      have k : Keep (fun b => b = tb) h x4 := (s.keep _).trans k4
      exact h2 i c hi hid (by omega) x4 k ⟨⟨_, S.keep k T4, R.with_ hi (by omega) (by omega)⟩, w1, w2⟩
theorem take_spec (C : CasAt h sb tb width full X l) (hl : l.length + X.length < 4294967295) (sum : ByteArray) (n : Int)
    (h0 : findC l sum n = none → ∀ h', Sub h h' → K (.int .i64 6) h')
    (h2 : ∀ (i : Nat) (c : Ct), l[i]? = some c → c.id = (sum, n) → ∀ h', Keep (fun b => b = tb) h h' → CasAt h' sb tb width full X (withC l i (c.refs - 1)) → K (.int .i64 0) h') :
    CallsH Try.prog cas_Store_Take.id #[.pointer (some ⟨sb, 0, none⟩), .agg #[.string sum, .int .i64 n]] h K := by
  apply cas_Store_Take.calls
  unfold cas_Store_Take.W
  refine look_spec C hl sum n fun x1 s1 => ⟨_, _, rfl, ?_⟩
  cases hf : findC l sum n with
  | none => exact split_eq (fun _ => h0 hf x1 s1) fun e => absurd rfl e
  | some c =>
    obtain ⟨c1, c2, c3⟩ := findC_mem hf
    obtain ⟨i, hi⟩ := atI c1
    have hid : c.id = (sum, n) := by unfold Ct.id; rw [c2, c3]
    have hr := C.ok.refs c c1
    have hsz := C.ok.size c c1
    have hn := C.ok.n c c1
    have hw := (findC_width C hf).1
    have C' := C
    obtain ⟨⟨L, S, R⟩, w1, w2⟩ := C'
    have hL : L.length < 4294967296 := by have := R.length; omega
    subst c2; subst c3
    refine split_eq (fun e => ?_) (fun _ => split_eq (fun e => ?_) (fun e => ?_))
    · have e : (c.refs : Int) = 0 := e; omega
    · have e : (c.refs : Int) = 1 := e
      have e : c.refs - 1 = 0 := by omega
      refine ⟨_, S.blk.sub s1 |>.cell' 0 rfl, key_spec c.sum c.n (by omega) fun x2 s2 => ⟨_, rfl, s2, _, rfl, tableDrop_spec (S.table.sub (s1.trans s2)) hL _ fun x3 k3 T3 => ⟨_, rfl, ?_⟩⟩⟩
      have k : Keep (fun b => b = tb) h x3 := ((s1.trans s2).keep _).trans k3
      refine h2 i c hi hid x3 k ⟨⟨_, S.keep k T3, ?_⟩, w1, w2⟩
      rw [e]
      exact R.drop hi
    · have e : ¬ (c.refs : Int) = 1 := e
      refine ⟨_, S.blk.sub s1 |>.cell' 0 rfl, key_spec c.sum c.n (by omega) fun x2 s2 => ⟨_, rfl, s2, ?_⟩⟩
      have ew : IntKind.i64.wrap ((((Option.map Ct.refs (some c)).getD 0 : Nat) : Int) - 1) = ((c.refs - 1 : Nat) : Int) := by
        show IntKind.i64.wrap ((c.refs : Int) - 1) = _
        rw [wid (by omega) (by omega)]; omega
      rw [ew]
      refine value_spec (c.refs - 1) (by omega) c.data (by omega) fun x3 s3 => ⟨_, rfl, s2.trans s3, _, rfl, ?_⟩
      have s := (s1.trans s2).trans s3
      have hk : kvIs (keyB c.sum c.n) L = true := by rw [R.is hn, hf]; rfl
      refine tablePut_spec (S.table.sub s) hL _ _ (fun e => by rw [hk] at e; cases e) fun _ x4 k4 T4 => ⟨_, rfl, ?_⟩
      have k : Keep (fun b => b = tb) h x4 := (s.keep _).trans k4
      exact h2 i c hi hid x4 k ⟨⟨_, S.keep k T4, R.with_ hi (by omega) (by omega)⟩, w1, w2⟩

/-! ### putting -/
theorem freeF_full (k : Nat) (ns : List Nat) (h : ∀ m, m < k → m ∈ ns) : k ≤ ns.length := by
  induction k generalizing ns with
  | zero => exact Nat.zero_le _
  | succ k ih =>
    have hk := h k (by omega)
    have := ih (ns.erase k) fun m hm => (List.mem_erase_of_ne (by omega)).2 (h m (by omega))
    rw [List.length_erase_of_mem hk] at this
    have : 0 < ns.length := List.length_pos_of_mem hk
    omega
theorem free_le (sum : ByteArray) : freeF (findN l sum) ≤ l.length := by
  have h := (freeF_law (fun n => (findC l sum (n : Nat)).isSome) 256).2.1
  have := freeF_full (freeF (findN l sum)) (l.map (·.n)) fun m hm => by
    have := h m hm
    obtain ⟨c, hc⟩ := Option.isSome_iff_exists.1 this
    obtain ⟨c1, c2, c3⟩ := findC_mem hc
    exact List.mem_map.2 ⟨c, c1, by omega⟩
  rwa [List.length_map] at this
theorem freeF_take (ns : List Nat) (i : Nat) (n : Nat) (hn : ns[i]? = some n) : freeF (ns.take (i + 1)) = if n = freeF (ns.take i) then freeF (ns.take i) + 1 else freeF (ns.take i) := by
  rw [List.take_add_one, hn]
  exact freeF_snoc _ _
theorem freeF_le : ∀ (ns : List Nat) (i : Nat), freeF (ns.take i) ≤ i
  | ns, 0 => by simp [freeF]
  | ns, i + 1 => by
    cases hn : ns[i]? with
    | none =>
      have h1 := List.getElem?_eq_none_iff.1 hn
      have := freeF_le ns i
      rw [List.take_of_length_le (by omega)] at this ⊢
      omega
    | some n =>
      rw [freeF_take ns i n hn]
      have := freeF_le ns i
      split <;> omega
/-- What putting answers. -/
structure PutOk (h : Hp) (sb tb width : Nat) (full : Int) (X : List KV) (l : List Ct) (data : ByteArray) (K : Value → Hp → Prop) : Prop where
  old : ∀ (i : Nat) (c : Ct), l[i]? = some c → c.data = data → c.refs < 4294967295 → ∀ h', Keep (fun b => b = tb) h h' → CasAt h' sb tb width full X (withC l i (c.refs + 1)) → K (.tuple #[idV c.id, .int .i64 0]) h'
  many : ∀ (i : Nat) (c : Ct), l[i]? = some c → c.data = data → c.refs = 4294967295 → ∀ h', Sub h h' → K (.tuple #[idV noId, .int .i64 5]) h'
  new : (∀ c ∈ l, c.data ≠ data) → freeF (findN l (digest data width)) < 256 → (full < 0 ∨ ((l.length + X.length : Nat) : Int) < full) → ∀ h', Keep (fun b => b = tb) h h' →
    CasAt h' sb tb width full X (l ++ [⟨digest data width, freeF (findN l (digest data width)), 1, data⟩]) → K (.tuple #[idV (digest data width, (freeF (findN l (digest data width)) : Nat)), .int .i64 0]) h'
  full : (∀ c ∈ l, c.data ≠ data) → (freeF (findN l (digest data width)) = 256 ∨ 0 ≤ full ∧ full ≤ ((l.length + X.length : Nat) : Int)) → ∀ h', Sub h h' → K (.tuple #[idV noId, .int .i64 5]) h'
theorem put_spec (C : CasAt h sb tb width full X l) (hl : l.length + X.length < 4294967295) (data : ByteArray) (hd : data.size ≤ 128) (P : PutOk h sb tb width full X l data K) :
    CallsH Try.prog cas_Store_Put.id #[.pointer (some ⟨sb, 0, none⟩), .string data] h K := by
  apply cas_Store_Put.calls
  unfold cas_Store_Put.W
  refine split_dec (fun e => by have e : ((data.size : Nat) : Int) > 128 := e; omega) fun _ => ?_
  refine digest_spec C data (by omega) fun x1 s1 => ⟨_, rfl, find_spec (C.sub s1) hl _ fun x2 a c N => ⟨_, _, _, rfl, ?_⟩⟩
  have C' := C
  obtain ⟨⟨L, S, R⟩, w1, w2⟩ := C'
  have hds := digest_size data w2
  have hlen : (idsN l (digest data width)).length = (findN l (digest data width)).length := by unfold idsN; rw [List.length_map]
  have fl := findN_length l (digest data width)
  refine ⟨fun f i s n x m => ∃ j : Nat, i = (j : Int) ∧ j ≤ (findN l (digest data width)).length ∧ m = (findN l (digest data width)).length - j ∧ f = (freeF ((findN l (digest data width)).take j) : Nat) ∧ Sub x2 x ∧
      ∀ k, k < j → ∀ q, (findN l (digest data width))[k]? = some q → ∀ d, findC l (digest data width) (q : Nat) = some d → d.data ≠ data,
    ⟨_, 0, rfl, by omega, rfl, by simp [freeF], Sub.refl _, fun k hk => by omega⟩, ?_⟩
  rintro f i s n x m ⟨j, rfl, hj, rfl, rfl, sx, hno⟩
  have fj := freeF_le (findN l (digest data width)) j
  rw [hlen]
  have sA : Sub h x := (s1.trans N.sub).trans sx
  have CA := C.sub sA
  refine split_dec (fun g => ?_) (fun g => ?_)
  · have g1 : j < (findN l (digest data width)).length := by have : (j : Int) < ((findN l (digest data width)).length : Int) := g; omega
    have hn : (findN l (digest data width))[j]? = some (findN l (digest data width))[j] := List.getElem?_eq_getElem g1
    generalize (findN l (digest data width))[j] = q at hn
    have hid : (idsN l (digest data width))[j]? = some (digest data width, (q : Int)) := by unfold idsN; rw [List.getElem?_map, hn]; rfl
    obtain ⟨b, o, ea, hc⟩ := (N.own.row.sub sx).get idC_len (by decide) hid
    obtain ⟨hq, hsome⟩ := findN_lt (List.mem_of_getElem? hn)
    obtain ⟨d, hd'⟩ := Option.isSome_iff_exists.1 hsome
    obtain ⟨d1, d2, d3⟩ := findC_mem hd'
    have hr := C.ok.refs d d1
    refine ⟨by omega, g, b, o, ea, _, hc 0 _ rfl, _, hc 1 _ rfl, look_spec CA hl _ _ fun x3 s3 => ⟨_, _, rfl, ?_⟩⟩
    rw [hd']
    have next : d.data ≠ data → cond (ieq (q : Int) ((freeF ((findN l (digest data width)).take j) : Nat) : Int)) (∃ k, k < (findN l (digest data width)).length - j ∧ ∃ j' : Nat, IntKind.i64.wrap ((j : Int) + 1) = (j' : Int) ∧ j' ≤ (findN l (digest data width)).length ∧ k = (findN l (digest data width)).length - j' ∧ IntKind.i64.wrap (((freeF ((findN l (digest data width)).take j) : Nat) : Int) + 1) = (freeF ((findN l (digest data width)).take j') : Nat) ∧ Sub x2 x3 ∧ ∀ k, k < j' → ∀ q, (findN l (digest data width))[k]? = some q → ∀ d, findC l (digest data width) (q : Nat) = some d → d.data ≠ data)
        (∃ k, k < (findN l (digest data width)).length - j ∧ ∃ j' : Nat, IntKind.i64.wrap ((j : Int) + 1) = (j' : Int) ∧ j' ≤ (findN l (digest data width)).length ∧ k = (findN l (digest data width)).length - j' ∧ ((freeF ((findN l (digest data width)).take j) : Nat) : Int) = (freeF ((findN l (digest data width)).take j') : Nat) ∧ Sub x2 x3 ∧ ∀ k, k < j' → ∀ q, (findN l (digest data width))[k]? = some q → ∀ d, findC l (digest data width) (q : Nat) = some d → d.data ≠ data) := by
      intro hne
      have hno' : ∀ k, k < j + 1 → ∀ q, (findN l (digest data width))[k]? = some q → ∀ d, findC l (digest data width) (q : Nat) = some d → d.data ≠ data := by
        intro k hk q' hq' d' hd2
        by_cases e : k = j
        · subst e; rw [hn] at hq'; cases hq'; rw [hd'] at hd2; cases hd2; exact hne
        · exact hno k (by omega) q' hq' d' hd2
      have hft := freeF_take (findN l (digest data width)) j q hn
      refine split_eq (fun e => ?_) (fun e => ?_)
      · refine ⟨_, ?_, j + 1, by rw [wid (by omega) (by omega)]; omega, by omega, rfl, ?_, sx.trans s3, hno'⟩
        · omega
        · rw [hft, if_pos (by omega), wid (by omega) (by omega)]; omega
      · refine ⟨_, ?_, j + 1, by rw [wid (by omega) (by omega)]; omega, by omega, rfl, ?_, sx.trans s3, hno'⟩
        · omega
        · rw [hft, if_neg (by omega)]
    refine split_dec (fun _ => ?_) (fun e => by have e : ¬ (d.refs : Int) > 0 := e; omega)
    refine split_beqS (fun e => ?_) (fun e => next e)
    have e : d.data = data := e
    refine again_spec (CA.sub s3) hl _ _ (fun e => by rw [hd'] at e; cases e) (fun i c hi hid2 hmax x4 s4 => ⟨_, rfl, split_ne (fun _ => ?_) (fun e => by cases e)⟩) (fun i c hi hid2 hlt x4 k4 C4 => ⟨_, rfl, split_ne (fun e => absurd rfl e) (fun _ => ?_)⟩)
    · have : c = d := id_unique C.ok (List.mem_of_getElem? hi) d1 ⟨by rw [d2]; exact congrArg Prod.fst hid2, by have := congrArg Prod.snd hid2; unfold Ct.id at this; simp at this; omega⟩
      subst this
      exact P.many i c hi e hmax x4 (sA.trans (s3.trans s4))
    · have : c = d := id_unique C.ok (List.mem_of_getElem? hi) d1 ⟨by rw [d2]; exact congrArg Prod.fst hid2, by have := congrArg Prod.snd hid2; unfold Ct.id at this; simp at this; omega⟩
      subst this
      have := P.old i c hi e hlt x4 (((sA.trans s3).keep _).trans k4) C4
      rw [hid2] at this
      exact this
  · have : j = (findN l (digest data width)).length := by
      have : ¬ (j : Int) < ((findN l (digest data width)).length : Int) := g
      omega
    subst this
    rw [List.take_length] at fj ⊢
    have hnone : ∀ c ∈ l, c.data ≠ data := by
      intro c hc e
      have hs := C.ok.sum c hc
      rw [e] at hs
      have hf := findC_some C.ok hc
      rw [hs] at hf
      have hm : c.n ∈ findN l (digest data width) := by
        unfold findN
        rw [List.mem_filter, List.mem_range, hf]
        exact ⟨C.ok.n c hc, rfl⟩
      obtain ⟨k, hk⟩ := List.mem_iff_getElem?.1 hm
      exact hno k (List.getElem?_eq_some_iff.1 hk).1 c.n hk c hf e
    obtain ⟨f1, f2, f3⟩ := freeF_law (fun n => (findC l (digest data width) (n : Nat)).isSome) 256
    have f1 : freeF (findN l (digest data width)) ≤ 256 := f1
    refine split_dec (fun e => ?_) (fun e => ?_)
    · have e : ((freeF (findN l (digest data width)) : Nat) : Int) > 255 := e
      exact P.full hnone (.inl (by omega)) x sA
    · have e : ¬ ((freeF (findN l (digest data width)) : Nat) : Int) > 255 := e
      have hfree : findC l (digest data width) ((freeF (findN l (digest data width)) : Nat) : Int) = none := by
        have := f3 (show freeF (findN l (digest data width)) < 256 by omega)
        cases hf : findC l (digest data width) ((freeF (findN l (digest data width)) : Nat) : Int) with
        | none => rfl
        | some c =>
          have h2 : (findC l (digest data width) ((freeF (findN l (digest data width)) : Nat) : Int)).isSome = false := this
          rw [hf] at h2; cases h2
      have hL : L.length < 4294967296 := by have := R.length; omega
      refine ⟨_, S.blk.sub sA |>.cell' 0 rfl, key_spec _ _ (by omega) fun x2 s2 => ⟨_, rfl, s2, value_spec 1 (by decide) data (by omega) fun x3 s3 => ⟨_, rfl, s2.trans s3, _, rfl, ?_⟩⟩⟩
      have s := (sA.trans s2).trans s3
      have hk : kvIs (keyB (digest data width) (freeF (findN l (digest data width)))) L = false := by rw [R.is (by omega), hfree]; rfl
      have hlen2 := R.length
      refine tablePut_spec (S.table.sub s) hL _ _ (fun _ g1 g2 => ⟨_, rfl, split_ne (fun _ => ?_) (fun e => by cases e)⟩) (fun g x4 k4 T4 => ⟨_, rfl, split_ne (fun e => absurd rfl e) (fun _ => ?_)⟩)
      · exact P.full hnone (.inr ⟨g1, by omega⟩) x3 s
      · have k : Keep (fun b => b = tb) h x4 := (s.keep _).trans k4
        refine P.new hnone (by omega) ?_ x4 k ⟨⟨_, S.keep k T4, R.new (by omega) hfree hnone hd⟩, w1, w2⟩
        rcases g with g | g | g
        · rw [hk] at g; cases g
        · exact .inl g
        · exact .inr (by omega)
end Go.Proofs.Ytpokejaglmkphaa
