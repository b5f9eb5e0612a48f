/- What the functions of package ledger make of a tenant's ledger in a plain table. Conditions: the ledger stands as it is named, few entries. -/
import Derived.Test.YtlklpdedppgkfaaFL
import Derived.Test.YtlklpdedppgkfaaT1
import Derived.Test.YtlklpdedppgkfaaP2
namespace Go.Proofs.Ytlklpdedppgkfaa
open Go.Gx
set_option maxRecDepth 100000
set_option linter.unusedVariables false

abbrev tLedger : TypeId := 67
variable {h : Hp} {lb tb t : Nat} {full : Int} {L : List KV} {x : Led} {K : Value → Hp → Prop}
def LdAt (h : Hp) (lb tb t : Nat) : Prop := Blk h lb tLedger [.iface 27 (.pointer (some ⟨tb, 0, none⟩)), .int .i64 t]
theorem LdAt.sub {h' : Hp} (B : LdAt h lb tb t) (s : Sub h h') : LdAt h' lb tb t := Blk.sub B s
theorem LdAt.ne (B : LdAt h lb tb t) (T : TableAt h tb full L) : lb ≠ tb := by
  obtain ⟨a, c, h1, _⟩ := T
  intro e
  unfold LdAt at B
  rw [e] at B
  exact absurd (Blk.inj B h1).1 (by decide)
theorem LdAt.keep {h' : Hp} (B : LdAt h lb tb t) (T : TableAt h tb full L) (k : Keep (fun b => b = tb) h h') : LdAt h' lb tb t := Blk.keep B k (B.ne T)
theorem bsz (l : List Nat) : (bytesL l).size = l.length := by unfold bytesL; simp [ByteArray.size]
theorem sl1 {k n : Nat} (H : Blk h k 5 [.int .u8 (IntKind.u8.wrap (n : Int))]) : SliceAt h (some ⟨k, 0, none⟩) 1 (bytesV (bytesL [n])) := by
  have e : bytesV (bytesL [n]) = [.int .u8 (IntKind.u8.wrap (n : Int))] := by
    rw [u8c]
    show [Value.int .u8 (((UInt8.ofNat n).toNat : Nat) : Int)] = _
    simp
  rw [e]; exact H.slice rfl
theorem sl2 {k m n : Nat} (H : Blk h k 5 [.int .u8 (IntKind.u8.wrap (m : Int)), .int .u8 (IntKind.u8.wrap (n : Int))]) : SliceAt h (some ⟨k, 0, none⟩) 2 (bytesV (bytesL [m, n])) := by
  have e : bytesV (bytesL [m, n]) = [.int .u8 (IntKind.u8.wrap (m : Int)), .int .u8 (IntKind.u8.wrap (n : Int))] := by
    rw [u8c, u8c]
    show [Value.int .u8 (((UInt8.ofNat m).toNat : Nat) : Int), Value.int .u8 (((UInt8.ofNat n).toNat : Nat) : Int)] = _
    simp
  rw [e]; exact H.slice rfl
theorem qkey_spec (B : LdAt h lb tb t) (hK : ∀ h', Sub h h' → K (.string (quotaKey t)) h') : CallsH Try.prog ledger_Ledger_key.id #[.pointer (some ⟨lb, 0, none⟩)] h K := by
  apply ledger_Ledger_key.calls
  unfold ledger_Ledger_key.W
  exact ⟨_, Blk.cell' B 1 rfl, fun k hk => ⟨bytesL [t], sl1 (Blk.new _ _ _ _), (by rw [bsz, bsz]; show 1 + 1 ≤ 9223372036854775807; decide), hK _ (Sub.upd hk _)⟩⟩
theorem held_spec (B : LdAt h lb tb t) (sum : ByteArray) (n : Nat) (hs : sum.size < 4294967296) (hK : ∀ h', Sub h h' → K (.string (heldKey t sum n)) h') :
    CallsH Try.prog ledger_Ledger_held.id #[.pointer (some ⟨lb, 0, none⟩), .agg #[.string sum, .int .i64 n]] h K := by
  apply ledger_Ledger_held.calls
  unfold ledger_Ledger_held.W
  refine ⟨_, Blk.cell' B 1 rfl, ?_⟩
  repeat' first
    | exact hK _ (Sub.upd (by assumption) _)
    | exact hK _ ((Sub.upd (by assumption) _).trans (Sub.upd (by assumption) _))
    | exact Sub.upd (by assumption) _
    | exact (Sub.upd (by assumption) _).trans (Sub.upd (by assumption) _)
    | (simp only [app_size, bsz, List.length_cons, List.length_nil]; omega)
    | refine ⟨bytesL [n], sl1 (Blk.new _ _ _ _), ?_⟩
    | refine ⟨bytesL [n], sl1 ((Blk.new _ _ _ _).upd (by assumption) _), ?_⟩
    | refine ⟨bytesL [t, sum.size], sl2 (Blk.new _ _ _ _), ?_⟩
    | refine ⟨bytesL [t, sum.size], sl2 ((Blk.new _ _ _ _).upd (by assumption) _), ?_⟩
    | refine fun k hk => ?_
    | refine ⟨?_, ?_⟩
theorem quotaMay_spec (q : Int) (hK : K (.bool (decide (0 ≤ q ∧ q ≤ 1048576))) h) : CallsH Try.prog ledger_quotaMay.id #[.int .i64 q] h K := by
  apply ledger_quotaMay.calls
  unfold ledger_quotaMay.W
  refine split_dec (fun e => ?_) (fun e => ?_)
  · rw [hb_eq]
    by_cases e2 : q ≤ 1048576
    · rw [decide_eq_true ⟨e, e2⟩] at hK; rw [decide_eq_true e2]; exact hK
    · rw [decide_eq_false (fun h => e2 h.2)] at hK; rw [decide_eq_false e2]; exact hK
  · rw [decide_eq_false (fun h => e h.1)] at hK; exact hK
theorem may_spec (sum : ByteArray) (n : Int) (hK : K (.bool (mayI sum n)) h) : CallsH Try.prog ledger_may.id #[.agg #[.string sum, .int .i64 n]] h K := by
  apply ledger_may.calls
  unfold ledger_may.W
  unfold mayI at hK
  have f : ∀ {p : Prop} [Decidable p], ¬ p → K (.bool (decide p)) h → K (.bool false) h := fun hp hk => by rw [decide_eq_false hp] at hk; exact hk
  refine split_dec (fun e1 => split_dec (fun e2 => split_dec (fun e3 => ?_) fun e => f (fun h => e h.2.2.1) hK) fun e => f (fun h => e (by show ((sum.size : Nat) : Int) ≤ 32; omega)) hK) fun e => f (fun h => e (by show ((sum.size : Nat) : Int) ≥ 1; omega)) hK
  have e1 : ((sum.size : Nat) : Int) ≥ 1 := e1
  have e2 : ((sum.size : Nat) : Int) ≤ 32 := e2
  rw [hb_eq]
  by_cases e4 : n ≤ 255
  · rw [decide_eq_true ⟨by omega, by omega, e3, e4⟩] at hK; rw [decide_eq_true e4]; exact hK
  · rw [decide_eq_false (fun h => e4 h.2.2.2)] at hK; rw [decide_eq_false e4]; exact hK
theorem used_spec (x : Led) (ok : LedOk x) (hK : K (.int .i64 (x.used : Nat)) h) : CallsH Try.prog ledger_account_used.id #[.agg #[.int .i64 x.quota, .int .i64 (sizesH x.l : Nat), .int .i64 x.records]] h K := by
  apply ledger_account_used.calls
  unfold ledger_account_used.W
  have h1 := ok.used
  have h2 := ok.quota
  unfold Led.used at h1 hK
  rw [wid (x := 64 * (x.records : Int)) (by omega) (by omega), wid (by omega) (by omega)]
  have e : ((sizesH x.l : Nat) : Int) + 64 * (x.records : Int) = ((sizesH x.l + 64 * x.records : Nat) : Int) := by omega
  rw [e]; exact hK
theorem nat2_row {k : Nat} {h : Hp} (a b : Nat) : RowAt intC 1 (h.upd k (.cells #[.int .i64 (a : Int), .int .i64 (b : Int)] 3 (0, 0))) (some ⟨k, 0, none⟩) (natI [a, b]) := RowAt.blk (Blk.new _ _ _ (rowC intC (natI [a, b]))) intC_len
theorem nat3_row {k : Nat} {h : Hp} (a b c : Nat) : RowAt intC 1 (h.upd k (.cells #[.int .i64 (a : Int), .int .i64 (b : Int), .int .i64 (c : Int)] 3 (0, 0))) (some ⟨k, 0, none⟩) (natI [a, b, c]) := RowAt.blk (Blk.new _ _ _ (rowC intC (natI [a, b, c]))) intC_len
theorem write_led_spec (B : LdAt h lb tb t) (T : TableAt h tb full L) (hL : L.length < 4294967296) (a b c : Nat) (ha : a < 9223372036854775808) (hb' : b < 9223372036854775808) (hc : c < 9223372036854775808)
    (h1 : kvIs (quotaKey t) L = false → 0 ≤ full → full ≤ (L.length : Nat) → ∀ h', Sub h h' → K (.int .i64 5) h')
    (h2 : (kvIs (quotaKey t) L = true ∨ full < 0 ∨ ((L.length : Nat) : Int) < full) → ∀ h', Keep (fun b => b = tb) h h' → TableAt h' tb full (kvPut (quotaKey t) (textB [a, b, c]) L) → K (.int .i64 0) h') :
    CallsH Try.prog ledger_Ledger_write.id #[.pointer (some ⟨lb, 0, none⟩), .agg #[.int .i64 a, .int .i64 b, .int .i64 c]] h K := by
  apply ledger_Ledger_write.calls
  unfold ledger_Ledger_write.W
  have hns : ∀ n ∈ [a, b, c], n < 9223372036854775808 := by
    intro n hn
    simp at hn
    rcases hn with rfl | rfl | rfl <;> assumption
  refine ⟨_, Blk.cell' B 0 rfl, qkey_spec B fun x1 s1 => ⟨_, rfl, s1, fun k hk => ⟨s1.trans (Sub.upd hk _), text_spec (nat3_row a b c) hns (by show 3 < 1000000; decide) fun x2 s2 => ⟨_, rfl, (s1.trans (Sub.upd hk _)).trans s2, _, rfl, ?_⟩⟩⟩,
    fun k hk => ⟨Sub.upd hk _, qkey_spec (B.sub (Sub.upd hk _)) fun x1 s1 => ⟨_, rfl, (Sub.upd hk _).trans s1, text_spec ((nat3_row a b c).sub s1) hns (by show 3 < 1000000; decide) fun x2 s2 => ⟨_, rfl, ((Sub.upd hk _).trans s1).trans s2, _, rfl, ?_⟩⟩⟩⟩
  · have s := (s1.trans (Sub.upd hk _)).trans s2
    exact tablePut_spec (T.sub s) hL _ _ (fun e1 e2 e3 => ⟨_, rfl, h1 e1 e2 e3 _ s⟩) fun e x3 k3 T3 => ⟨_, rfl, h2 e _ ((s.keep _).trans k3) T3⟩
  · have s := ((Sub.upd hk (.cells #[.int .i64 (a : Int), .int .i64 (b : Int), .int .i64 (c : Int)] 3 (0, 0))).trans s1).trans s2
    exact tablePut_spec (T.sub s) hL _ _ (fun e1 e2 e3 => ⟨_, rfl, h1 e1 e2 e3 _ s⟩) fun e x3 k3 T3 => ⟨_, rfl, h2 e _ ((s.keep _).trans k3) T3⟩

/-- A ledger in a table. -/
structure At (h : Hp) (lb tb t : Nat) (full : Int) (x : Led) (L : List KV) : Prop where
  ld : LdAt h lb tb t
  table : TableAt h tb full L
  has : Has t x L
  t1 : 1 ≤ t
  t2 : t ≤ 8
  len : L.length < 2147483648
theorem At.sub {h' : Hp} (A : At h lb tb t full x L) (s : Sub h h') : At h' lb tb t full x L := ⟨A.ld.sub s, A.table.sub s, A.has, A.t1, A.t2, A.len⟩
theorem acc_lt (ok : LedOk x) : ∀ n ∈ x.acc, n < 9223372036854775808 := by
  intro n hn
  have h1 := ok.used
  have h2 := ok.quota
  unfold Led.used at h1
  unfold Led.acc at hn
  simp at hn
  rcases hn with rfl | rfl | rfl <;> omega
theorem account_spec (A : At h lb tb t full x L) (hK : ∀ h', Sub h h' → K (.tuple #[.agg #[.int .i64 (if x.is then (x.quota : Int) else 0), .int .i64 (if x.is then ((sizesH x.l : Nat) : Int) else 0), .int .i64 (if x.is then (x.records : Int) else 0)], .bool x.is]) h') :
    CallsH Try.prog ledger_Ledger_account.id #[.pointer (some ⟨lb, 0, none⟩)] h K := by
  apply ledger_Ledger_account.calls
  unfold ledger_Ledger_account.W
  have ht2 := A.t2
  have hlen := A.len
  have hq := A.has.quota (by omega)
  refine ⟨_, Blk.cell' A.ld 0 rfl, qkey_spec A.ld fun x1 s1 => ⟨_, rfl, s1, _, rfl, tableGet_spec (A.table.sub s1) (by omega) _ ⟨_, _, rfl, ?_⟩⟩⟩
  rw [kvIs_get, hq]
  cases his : x.is with
  | false =>
    rw [his] at hK
    exact hK x1 s1
  | true =>
    rw [his] at hK
    refine split_not (fun e => by cases e) fun _ => numbers_spec (ns := x.acc) (acc_lt A.has.ok) (by show 3 < 1000000; decide) fun x2 a c N => ⟨_, _, _, rfl, ?_⟩
    obtain ⟨b, o, e, h0⟩ := N.own.row.get intC_len (by decide) (i := 0) rfl
    obtain ⟨b1, o1, e1, h1⟩ := N.own.row.get intC_len (by decide) (i := 1) rfl
    obtain ⟨b2, o2, e2, h2⟩ := N.own.row.get intC_len (by decide) (i := 2) rfl
    exact ⟨b, o, e, _, h0 0 _ rfl, b1, o1, e1, _, h1 0 _ rfl, b2, o2, e2, _, h2 0 _ rfl, hK x2 (s1.trans N.sub)⟩
theorem begun_spec (A : At h lb tb t full x L) (h1 : x.is = false → ∀ h', Sub h h' → K (.tuple #[.agg #[.int .i64 0, .int .i64 0, .int .i64 0], .int .i64 6]) h')
    (h2 : x.is = true → ∀ h', Sub h h' → K (.tuple #[.agg #[.int .i64 (x.quota : Int), .int .i64 (sizesH x.l : Nat), .int .i64 (x.records : Int)], .int .i64 0]) h') :
    CallsH Try.prog ledger_Ledger_begun.id #[.pointer (some ⟨lb, 0, none⟩)] h K := by
  apply ledger_Ledger_begun.calls
  unfold ledger_Ledger_begun.W
  refine account_spec A fun h' s => ⟨_, _, _, _, rfl, ?_⟩
  cases his : x.is with
  | false => exact h1 his h' s
  | true => exact h2 his h' s
def lookL (o : Option Hd) : Value := .tuple #[.int .i64 (((o.map Hd.count).getD 0 : Nat) : Int), .int .i64 (((o.map Hd.size).getD 0 : Nat) : Int)]
theorem atH_may (ok : LedOk x) {sum : ByteArray} {n : Int} {d : Hd} (h : atH x.l sum n = some d) : mayI sum n = true := by
  obtain ⟨h1, h2, h3⟩ := atH_mem h
  have := ok.may d h1
  rw [h2] at this
  exact decide_eq_true ⟨this.1, this.2.1, by omega, by omega⟩
theorem look_led_spec (A : At h lb tb t full x L) (hc : ∀ d ∈ x.l, d.count < 9223372036854775808) (sum : ByteArray) (n : Int) (hK : ∀ h', Sub h h' → K (lookL (atH x.l sum n)) h') :
    CallsH Try.prog ledger_Ledger_look.id #[.pointer (some ⟨lb, 0, none⟩), .agg #[.string sum, .int .i64 n]] h K := by
  apply ledger_Ledger_look.calls
  unfold ledger_Ledger_look.W
  have ht2 := A.t2
  have hlen := A.len
  refine may_spec sum n ⟨_, rfl, split_not (fun e => ?_) (fun e => ?_)⟩
  · cases hf : atH x.l sum n with
    | some d => rw [atH_may A.has.ok hf] at e; cases e
    | none => rw [hf] at hK; exact hK h (Sub.refl h)
  · have e := of_decide_eq_true e
    obtain ⟨m, rfl⟩ : ∃ m : Nat, n = (m : Int) := ⟨n.toNat, by omega⟩
    have hg := A.has.held (by omega) (sum := sum) (n := m) (by omega) (by omega)
    refine ⟨_, Blk.cell' A.ld 0 rfl, held_spec A.ld sum m (by omega) fun x1 s1 => ⟨_, rfl, s1, _, rfl, tableGet_spec (A.table.sub s1) (by omega) _ ⟨_, _, rfl, ?_⟩⟩⟩
    rw [kvIs_get, hg]
    cases hf : atH x.l sum (m : Int) with
    | none => rw [hf] at hK; exact hK x1 s1
    | some d =>
      rw [hf] at hK
      have hd := (atH_mem hf).1
      have h3 := A.has.ok.size d hd
      refine split_not (fun e => by cases e) fun _ => numbers_spec (ns := [d.count, d.size]) (fun n hn => ?_) (by show 2 < 1000000; decide) fun x2 a c N => ⟨_, _, _, rfl, ?_⟩
      · simp at hn
        rcases hn with rfl | rfl
        · exact hc d hd
        · omega
      · obtain ⟨b, o, e, h0⟩ := N.own.row.get intC_len (by decide) (i := 0) rfl
        obtain ⟨b1, o1, e1, h1⟩ := N.own.row.get intC_len (by decide) (i := 1) rfl
        exact ⟨b, o, e, _, h0 0 _ rfl, b1, o1, e1, _, h1 0 _ rfl, hK x2 (s1.trans N.sub)⟩
end Go.Proofs.Ytlklpdedppgkfaa
