/- What the calls of a ledger make of it and of its table. Conditions: the ledger stands as it is named, few entries, few references. -/
import Derived.Test.YtlklpdedppgkfaaL1
import Derived.Test.YtlklpdedppgkfaaP3
namespace Go.Proofs.Ytlklpdedppgkfaa
open Go.Gx
set_option maxRecDepth 100000
set_option linter.unusedVariables false
variable {h : Hp} {lb tb t : Nat} {full : Int} {L : List KV} {x : Led} {K : Value → Hp → Prop}
def roomy (full : Int) (L : List KV) : Bool := decide (full < 0 ∨ ((L.length : Nat) : Int) < full)
/-- What may be relied on behind a call that changes a ledger. -/
def Next (h : Hp) (lb tb t : Nat) (full : Int) (L : List KV) (r : Led × Int) (K : Value → Hp → Prop) : Prop :=
  ∀ h' L', Keep (fun b => b = tb) h h' → At h' lb tb t full r.1 L' → Own1 t L L' → L'.length ≤ L.length + 2 → K (.int .i64 r.2) h'
theorem Next.same (A : At h lb tb t full x L) {e : Int} (N : Next h lb tb t full L (x, e) K) {h' : Hp} (s : Sub h h') : K (.int .i64 e) h' :=
  N h' L (s.keep _) (A.sub s) (Own1.refl A.has.sorted) (by omega)
theorem At.next {h' : Hp} (A : At h lb tb t full x L) (k : Keep (fun b => b = tb) h h') {y : Led} {L' : List KV} (T : TableAt h' tb full L') (H : Has t y L') (hl : L'.length ≤ L.length + 2) (hL : L.length + 2 < 2147483648) : At h' lb tb t full y L' :=
  ⟨A.ld.keep A.table k, T, H, A.t1, A.t2, by omega⟩
theorem led_is (ok : LedOk x) : (if x.is then (x.quota : Int) else 0) = x.quota ∧ (if x.is then ((sizesH x.l : Nat) : Int) else 0) = (sizesH x.l : Nat) ∧ (if x.is then (x.records : Int) else 0) = x.records := by
  cases h : x.is with
  | true => exact ⟨rfl, rfl, rfl⟩
  | false =>
    obtain ⟨h1, h2, h3⟩ := ok.not h
    rw [h1, h2, h3]; exact ⟨rfl, rfl, rfl⟩
theorem account_spec' (A : At h lb tb t full x L) (hK : ∀ h', Sub h h' → K (.tuple #[.agg #[.int .i64 x.quota, .int .i64 (sizesH x.l : Nat), .int .i64 x.records], .bool x.is]) h') :
    CallsH Try.prog ledger_Ledger_account.id #[.pointer (some ⟨lb, 0, none⟩)] h K := by
  obtain ⟨e1, e2, e3⟩ := led_is A.has.ok
  refine account_spec A fun h' s => ?_
  rw [e1, e2, e3]
  exact hK h' s
theorem exists_spec (A : At h lb tb t full x L) (hK : ∀ h', Sub h h' → K (.bool x.is) h') : CallsH Try.prog ledger_Ledger_Exists.id #[.pointer (some ⟨lb, 0, none⟩)] h K := by
  apply ledger_Ledger_Exists.calls
  exact account_spec' A fun h' s => ⟨_, _, _, _, rfl, hK h' s⟩
theorem quota_spec (A : At h lb tb t full x L) (hK : ∀ h', Sub h h' → K (.int .i64 x.quota) h') : CallsH Try.prog ledger_Ledger_Quota.id #[.pointer (some ⟨lb, 0, none⟩)] h K := by
  apply ledger_Ledger_Quota.calls
  exact account_spec' A fun h' s => ⟨_, _, _, _, rfl, hK h' s⟩
theorem bytes_spec (A : At h lb tb t full x L) (hK : ∀ h', Sub h h' → K (.int .i64 (sizesH x.l : Nat)) h') : CallsH Try.prog ledger_Ledger_Bytes.id #[.pointer (some ⟨lb, 0, none⟩)] h K := by
  apply ledger_Ledger_Bytes.calls
  exact account_spec' A fun h' s => ⟨_, _, _, _, rfl, hK h' s⟩
theorem records_spec (A : At h lb tb t full x L) (hK : ∀ h', Sub h h' → K (.int .i64 x.records) h') : CallsH Try.prog ledger_Ledger_Records.id #[.pointer (some ⟨lb, 0, none⟩)] h K := by
  apply ledger_Ledger_Records.calls
  exact account_spec' A fun h' s => ⟨_, _, _, _, rfl, hK h' s⟩
theorem usedL_spec (A : At h lb tb t full x L) (hK : ∀ h', Sub h h' → K (.int .i64 (x.used : Nat)) h') : CallsH Try.prog ledger_Ledger_Used.id #[.pointer (some ⟨lb, 0, none⟩)] h K := by
  apply ledger_Ledger_Used.calls
  exact account_spec' A fun h' s => ⟨_, _, _, _, rfl, used_spec x A.has.ok ⟨_, rfl, hK h' s⟩⟩
theorem countL_spec (A : At h lb tb t full x L) (hc : ∀ d ∈ x.l, d.count < 9223372036854775808) (sum : ByteArray) (n : Int) (hK : ∀ h', Sub h h' → K (.int .i64 ((((atH x.l sum n).map Hd.count).getD 0 : Nat) : Int)) h') :
    CallsH Try.prog ledger_Ledger_Count.id #[.pointer (some ⟨lb, 0, none⟩), .agg #[.string sum, .int .i64 n]] h K := by
  apply ledger_Ledger_Count.calls
  exact look_led_spec A hc sum n fun h' s => ⟨_, _, rfl, hK h' s⟩
theorem own1_q (A : At h lb tb t full x L) (v : ByteArray) : Own1 t L (kvPut (quotaKey t) v L) := (Own1.refl A.has.sorted).put v (own_q (by have := A.t2; omega))
/-- Writing another account of the same contents. -/
theorem writeL_spec (A : At h lb tb t full x L) (hL : L.length + 2 < 2147483648) {y : Led} (ok : LedOk y) (hl : y.l = x.l) (his : y.is = true)
    (h1 : x.is = false → roomy full L = false → ∀ h', Sub h h' → K (.int .i64 5) h')
    (h2 : x.is = true ∨ roomy full L = true → ∀ h' L', Keep (fun b => b = tb) h h' → At h' lb tb t full y L' → Own1 t L L' → L'.length ≤ L.length + 2 → K (.int .i64 0) h') :
    CallsH Try.prog ledger_Ledger_write.id #[.pointer (some ⟨lb, 0, none⟩), .agg #[.int .i64 y.quota, .int .i64 (sizesH y.l : Nat), .int .i64 y.records]] h K := by
  have ht : t < 256 := by have := A.t2; omega
  have hq := A.has.quota ht
  have hi : kvIs (quotaKey t) L = x.is := by
    rw [kvIs_get, hq]
    cases x.is <;> rfl
  have ha := acc_lt ok
  refine write_led_spec A.ld A.table (by omega) y.quota (sizesH y.l) y.records (ha _ (by simp [Led.acc])) (ha _ (by simp [Led.acc])) (ha _ (by simp [Led.acc])) (fun e e1 e2 h' s => ?_) fun e h' k T => ?_
  · rw [hi] at e
    exact h1 e (decide_eq_false (by omega)) h' s
  · have hlen := put_len (L := L) (quotaKey t) (textB y.acc)
    refine h2 ?_ h' _ k (A.next k T (A.has.acc ht ok hl his) (by show (kvPut _ (textB y.acc) _).length ≤ _; omega) hL) (own1_q A _) (by show (kvPut _ (textB y.acc) _).length ≤ _; omega)
    rcases e with e | e | e
    · rw [hi] at e; exact .inl e
    · exact .inr (decide_eq_true (.inl e))
    · exact .inr (decide_eq_true (.inr e))
theorem create_spec (A : At h lb tb t full x L) (hL : L.length + 2 < 2147483648) (q : Int) (N : Next h lb tb t full L (x.create q (roomy full L)) K) :
    CallsH Try.prog ledger_Ledger_Create.id #[.pointer (some ⟨lb, 0, none⟩), .int .i64 q] h K := by
  apply ledger_Ledger_Create.calls
  unfold ledger_Ledger_Create.W
  unfold Led.create at N
  refine quotaMay_spec q ⟨_, rfl, split_not (fun e => ?_) (fun e => account_spec' A fun h1 s1 => ⟨_, _, _, _, rfl, split_cond (fun e2 => ?_) fun e2 => ?_⟩)⟩
  · rw [if_pos (show okQ q = false from e)] at N
    exact N.same A (Sub.refl h)
  · rw [if_neg (by unfold okQ; rw [e]; decide), if_pos e2] at N
    exact N.same A s1
  · have e' : okQ q = true := e
    rw [if_neg (by rw [e']; decide), if_neg (by rw [e2]; decide)] at N
    have hnot := A.has.ok.not e2
    have ok' := LedOk.create (q := q) e'
    have hq := of_decide_eq_true e'
    have := writeL_spec (K := fun v h' => ∃ n, v = .int .i64 n ∧ K (.int .i64 n) h') (A.sub s1) hL (y := ⟨true, q.toNat, 0, []⟩) ok' hnot.1.symm rfl (fun _ hr h' s => ⟨_, rfl, ?_⟩) fun hr h' L' k A' O hl => ⟨_, rfl, ?_⟩
    · have e3 : ((q.toNat : Nat) : Int) = q := by omega
      have e4 : (((⟨true, q.toNat, 0, []⟩ : Led).quota : Nat) : Int) = q := e3
      rw [e4] at this
      exact this
    · rw [if_neg (by rw [hr]; decide)] at N
      exact N.same A (s1.trans s)
    · have hr : roomy full L = true := by
        rcases hr with hr | hr
        · rw [e2] at hr; cases hr
        · exact hr
      rw [if_pos hr] at N
      exact N h' L' ((s1.keep _).trans k) A' O hl
theorem resize_spec (A : At h lb tb t full x L) (hL : L.length + 2 < 2147483648) (q : Int) (N : Next h lb tb t full L (x.resize q) K) :
    CallsH Try.prog ledger_Ledger_Resize.id #[.pointer (some ⟨lb, 0, none⟩), .int .i64 q] h K := by
  apply ledger_Ledger_Resize.calls
  unfold ledger_Ledger_Resize.W
  unfold Led.resize at N
  refine begun_spec A (fun his h1 s1 => ⟨_, _, _, _, rfl, split_ne (fun _ => ?_) fun e => by cases e⟩) fun his h1 s1 => ⟨_, _, _, _, rfl, split_ne (fun e => absurd rfl e) fun _ => quotaMay_spec q ⟨_, rfl, split_not (fun e => ?_) fun e => ?_⟩⟩
  · rw [if_pos his] at N; exact N.same A s1
  · rw [if_neg (by rw [his]; decide), if_pos (show okQ q = false from e)] at N
    exact N.same A s1
  · have e' : okQ q = true := e
    have hq := of_decide_eq_true e'
    rw [if_neg (by rw [his]; decide), if_neg (by rw [e']; decide)] at N
    refine used_spec x A.has.ok ⟨_, rfl, split_dec (fun e2 => ?_) fun e2 => ?_⟩
    · rw [if_pos e2] at N; exact N.same A s1
    · rw [if_neg e2] at N
      have := writeL_spec (K := fun v h' => ∃ n, v = .int .i64 n ∧ K (.int .i64 n) h') (A.sub s1) hL (y := { x with quota := q.toNat }) (A.has.ok.resize his e' e2) rfl his (fun e3 _ _ _ => by rw [his] at e3; cases e3) fun hr h' L' k A' O hl => ⟨_, rfl, N h' L' ((s1.keep _).trans k) A' O hl⟩
      have e4 : ((({ x with quota := q.toNat } : Led).quota : Nat) : Int) = q := by show ((q.toNat : Nat) : Int) = q; omega
      rw [e4] at this
      exact this
theorem record_spec (A : At h lb tb t full x L) (hL : L.length + 2 < 2147483648) (n : Int) (hn : -9223372036854775808 ≤ n ∧ n ≤ 9223372036854775807) (N : Next h lb tb t full L (x.record n) K) :
    CallsH Try.prog ledger_Ledger_Record.id #[.pointer (some ⟨lb, 0, none⟩), .int .i64 n] h K := by
  apply ledger_Ledger_Record.calls
  unfold ledger_Ledger_Record.W
  unfold Led.record at N
  have hu := A.has.ok.used
  have hq := A.has.ok.quota
  unfold Led.used at hu
  refine begun_spec A (fun his h1 s1 => ⟨_, _, _, _, rfl, fun _ => False, fun x hx => hx.elim, split_ne (fun _ => ?_) fun e => by cases e⟩) fun his h1 s1 => ⟨_, _, _, _, rfl, fun y => y = h1 ∧ ¬ n < -(x.records : Int) ∧ ¬ (n > 0 ∧ (n > 1048576 ∨ (x.used : Int) + 64 * n > x.quota)), ?_, split_ne (fun e => absurd rfl e) fun _ => ?_⟩
  · rw [if_pos his] at N; exact N.same A s1
  · rintro y ⟨rfl, g1, g2⟩
    rw [if_neg (by rw [his]; decide), if_neg g1, if_neg g2] at N
    have ok' := A.has.ok.record his g1 g2
    have := writeL_spec (K := fun v h' => ∃ n, v = .int .i64 n ∧ K (.int .i64 n) h') (A.sub s1) hL (y := { x with records := (x.records + n).toNat }) ok' rfl his (fun e3 _ _ _ => by rw [his] at e3; cases e3) fun hr h' L' k A' O hl => ⟨_, rfl, N h' L' ((s1.keep _).trans k) A' O hl⟩
    have hu' := ok'.used
    unfold Led.used at hu'
    have hu' : sizesH x.l + 64 * (x.records + n).toNat ≤ x.quota := hu'
    have e4 : ((({ x with records := (x.records + n).toNat } : Led).records : Nat) : Int) = IntKind.i64.wrap ((x.records : Int) + n) := by
      show (((x.records + n).toNat : Nat) : Int) = _
      rw [wid (by omega) (by omega)]; omega
    rw [e4] at this
    exact this
  · have w1 : IntKind.i64.wrap (0 - (x.records : Int)) = -(x.records : Int) := by rw [wid (by omega) (by omega)]; omega
    rw [if_neg (by rw [his]; decide)] at N
    rw [w1]
    refine split_dec (fun g => ?_) fun g => ?_
    · rw [if_pos g] at N; exact N.same A s1
    · rw [if_neg g] at N
      refine split_dec (fun g2 => split_dec (fun g3 => ⟨Sub.refl _, ?_⟩) fun g3 => used_spec x A.has.ok ⟨_, rfl, Sub.refl _, split_dec (fun g4 => ?_) fun g4 => ⟨rfl, g, ?_⟩⟩) fun g2 => ⟨Sub.refl _, rfl, g, ?_⟩
      · rw [if_pos ⟨g2, .inl g3⟩] at N; exact N.same A s1
      · rw [wid (x := 64 * n) (by omega) (by omega), wid (by unfold Led.used; omega) (by unfold Led.used; omega)] at g4
        rw [if_pos ⟨g2, .inr g4⟩] at N; exact N.same A s1
      · rw [wid (x := 64 * n) (by omega) (by omega), wid (by unfold Led.used; omega) (by unfold Led.used; omega)] at g4
        rintro ⟨_, g5 | g5⟩
        · exact g3 g5
        · exact g4 g5
      · rintro ⟨g5, _⟩
        exact g2 g5
theorem drop_spec (A : At h lb tb t full x L) (hL : L.length + 2 < 2147483648) (hc : ∀ d ∈ x.l, d.count < 2147483648) (sum : ByteArray) (n : Int) (N : Next h lb tb t full L (x.drop sum n) K) :
    CallsH Try.prog ledger_Ledger_Drop.id #[.pointer (some ⟨lb, 0, none⟩), .agg #[.string sum, .int .i64 n]] h K := by
  apply ledger_Ledger_Drop.calls
  unfold ledger_Ledger_Drop.W
  unfold Led.drop at N
  have ht : t < 256 := by have := A.t2; omega
  refine begun_spec A (fun his h1 s1 => ⟨_, _, _, _, rfl, split_ne (fun _ => ?_) fun e => by cases e⟩) fun his h1 s1 => ⟨_, _, _, _, rfl, split_ne (fun e => absurd rfl e) fun _ => ?_⟩
  · have : atH x.l sum n = none := by unfold atH; rw [(A.has.ok.not his).1]; rfl
    rw [this] at N
    exact N.same A s1
  · refine look_led_spec (A.sub s1) (fun d hd => Nat.lt_trans (hc d hd) (by decide)) sum n fun h2 s2 => ⟨_, _, rfl, ?_⟩
    have A2 := (A.sub s1).sub s2
    cases hf : atH x.l sum n with
    | none =>
      rw [hf] at N
      exact split_eq (fun _ => N.same A (s1.trans s2)) fun e => absurd rfl e
    | some d =>
      rw [hf] at N
      have hd := (atH_mem hf).1
      have hsum := (atH_mem hf).2.1
      have hnn := (atH_mem hf).2.2
      have hco := A.has.ok.count d hd
      have hcl := hc d hd
      have hsz := A.has.ok.size d hd
      have hmay := A.has.ok.may d hd
      have hix := atH_ix hf
      subst hsum; subst hnn
      have hdz := dropH_sizes hix
      have hin : kvIs (heldKey t d.sum d.n) L = true := by
        rw [kvIs_get, A.has.held ht (by omega) (by omega), hf]; rfl
      refine split_eq (fun e => by have e : (d.count : Int) = 0 := e; omega) fun _ => split_eq (fun e => ?_) fun e => ?_
      · have e : d.count = 1 := by have e : (d.count : Int) = 1 := e; omega
        have N : Next h lb tb t full L (if d.count = 1 then (x.del (ixH x.l d.sum d.n), 0) else (x.set (ixH x.l d.sum d.n) (d.count - 1), 0)) K := N
        rw [if_pos e] at N
        refine ⟨_, Blk.cell' A2.ld 0 rfl, held_spec A2.ld d.sum d.n (by omega) fun h3 s3 => ⟨_, rfl, s3, _, rfl, tableDrop_spec (A2.table.sub s3) (by omega) _ fun h4 k4 T4 => ⟨_, rfl, ?_⟩⟩⟩
        have sA := (s1.trans s2).trans s3
        have kA : Keep (fun b => b = tb) h h4 := (sA.keep _).trans k4
        have e1 : IntKind.i64.wrap (((sizesH x.l : Nat) : Int) - (((Option.map Hd.size (some d)).getD 0 : Nat) : Int)) = ((sizesH (x.del (ixH x.l d.sum d.n)).l : Nat) : Int) := by
          show IntKind.i64.wrap (((sizesH x.l : Nat) : Int) - (d.size : Int)) = ((sizesH (dropH x.l (ixH x.l d.sum d.n)) : Nat) : Int)
          have hu := A.has.ok.used
          have hq := A.has.ok.quota
          unfold Led.used at hu
          rw [wid (by omega) (by omega)]; omega
        rw [e1]
        have ok' := A.has.ok.del hix
        have ha := acc_lt ok'
        have hlen := drop_len (L := L) (heldKey t d.sum d.n)
        have hlen2 := put_len (L := kvDrop (heldKey t d.sum d.n) L) (quotaKey t) (textB (x.del (ixH x.l d.sum d.n)).acc)
        have hqd : kvIs (quotaKey t) (kvDrop (heldKey t d.sum d.n) L) = true := by
          rw [kvIs_iff (kvDrop_sorted A.has.sorted _)]
          refine ⟨textB x.acc, (kvDrop_mem A.has.sorted _ _).2 ⟨?_, fun e => held_ne_quota t d.sum d.n e.symm⟩⟩
          have := A.has.quota ht
          rw [his] at this
          exact (kvGet_iff A.has.sorted _ _).1 this
        refine write_led_spec (A.ld.keep A.table kA) T4 (by omega) x.quota _ x.records (ha _ (List.mem_cons_self)) (ha (sizesH (x.del (ixH x.l d.sum d.n)).l) (List.mem_cons_of_mem _ (List.mem_cons_self))) (ha x.records (List.mem_cons_of_mem _ (List.mem_cons_of_mem _ (List.mem_cons_self)))) (fun e2 _ _ _ _ => by rw [hqd] at e2; cases e2) fun _ h5 k5 T5 => ⟨_, rfl, ?_⟩
        exact N h5 _ (kA.trans k5) (A.next (kA.trans k5) T5 (A.has.del ht hix) (by show (kvPut _ (textB (x.del (ixH x.l d.sum d.n)).acc) _).length ≤ _; omega) hL) (((Own1.refl A.has.sorted).drop (own_h ht _ _)).put _ (own_q ht)) (by show (kvPut _ (textB (x.del (ixH x.l d.sum d.n)).acc) _).length ≤ _; omega)
      · have e : d.count ≠ 1 := fun h => e (by show (d.count : Int) = 1; omega)
        have N : Next h lb tb t full L (if d.count = 1 then (x.del (ixH x.l d.sum d.n), 0) else (x.set (ixH x.l d.sum d.n) (d.count - 1), 0)) K := N
        rw [if_neg e] at N
        have ew : IntKind.i64.wrap ((((Option.map Hd.count (some d)).getD 0 : Nat) : Int) - 1) = ((d.count - 1 : Nat) : Int) := by
          show IntKind.i64.wrap ((d.count : Int) - 1) = _
          rw [wid (by omega) (by omega)]; omega
        have hns : ∀ m ∈ [d.count - 1, d.size], m < 9223372036854775808 := by
          intro m hm
          simp at hm
          rcases hm with rfl | rfl <;> omega
        have fin : ∀ h3, Sub h h3 → CallsH Try.prog law22_table_Put.id #[.pointer (some ⟨tb, 0, none⟩), .string (heldKey t d.sum d.n), .string (textB [d.count - 1, d.size])] h3 (fun v h' => ∃ n, v = .int .i64 n ∧ K (.int .i64 n) h') := by
          intro h3 s3
          have hlen := put_len (L := L) (heldKey t d.sum d.n) (textB [d.count - 1, d.size])
          refine tablePut_spec (A.table.sub s3) (by omega) _ _ (fun e2 _ _ => by rw [hin] at e2; cases e2) fun _ h4 k4 T4 => ⟨_, rfl, ?_⟩
          have kA : Keep (fun b => b = tb) h h4 := (s3.keep _).trans k4
          exact N h4 _ kA (A.next kA T4 (A.has.set ht hix (by omega)) (by omega) hL) ((Own1.refl A.has.sorted).put _ (own_h ht _ _)) (by omega)
        rw [ew]
        refine ⟨_, Blk.cell' A2.ld 0 rfl, held_spec A2.ld d.sum d.n (by omega) fun h3 s3 => ⟨_, rfl, s3, fun k hk => ⟨s3.trans (Sub.upd hk _), text_spec (nat2_row (d.count - 1) d.size) hns (by show 2 < 1000000; decide) fun h4 s4 => ⟨_, rfl, (s3.trans (Sub.upd hk _)).trans s4, _, rfl, fin h4 ((((s1.trans s2).trans s3).trans (Sub.upd hk _)).trans s4)⟩⟩⟩,
          fun k hk => ⟨Sub.upd hk _, held_spec (A2.ld.sub (Sub.upd hk _)) d.sum d.n (by omega) fun h3 s3 => ⟨_, rfl, (Sub.upd hk _).trans s3, text_spec ((nat2_row (d.count - 1) d.size).sub s3) hns (by show 2 < 1000000; decide) fun h4 s4 => ⟨_, rfl, ((Sub.upd hk _).trans s3).trans s4, _, rfl, fin h4 ((((s1.trans s2).trans (Sub.upd hk _)).trans s3).trans s4)⟩⟩⟩⟩
theorem add_spec (A : At h lb tb t full x L) (hL : L.length + 2 < 2147483648) (hc : ∀ d ∈ x.l, d.count < 2147483648) (sum : ByteArray) (n size : Int) (N : Next h lb tb t full L (x.add sum n size (roomy full L)) K) :
    CallsH Try.prog ledger_Ledger_Add.id #[.pointer (some ⟨lb, 0, none⟩), .agg #[.string sum, .int .i64 n], .int .i64 size] h K := by
  apply ledger_Ledger_Add.calls
  unfold ledger_Ledger_Add.W
  unfold Led.add at N
  have ht : t < 256 := by have := A.t2; omega
  have hu := A.has.ok.used
  have hq := A.has.ok.quota
  refine begun_spec A (fun his h1 s1 => ⟨_, _, _, _, rfl, split_ne (fun _ => ?_) fun e => by cases e⟩) fun his h1 s1 => ⟨_, _, _, _, rfl, split_ne (fun e => absurd rfl e) fun _ => ?_⟩
  · rw [if_pos his] at N; exact N.same A s1
  rw [if_neg (by rw [his]; decide)] at N
  refine ⟨fun y => y = h1 ∧ ¬ (mayI sum n = false ∨ size < 0 ∨ size > 128), ?_, may_spec sum n ⟨_, rfl, split_not (fun e => ?_) fun e => split_dec (fun e2 => ?_) fun e2 => split_dec (fun e3 => ?_) fun e3 => ⟨rfl, ?_⟩⟩⟩
  rotate_left
  · rw [if_pos (.inl e)] at N; exact N.same A s1
  · rw [if_pos (.inr (.inl e2))] at N; exact N.same A s1
  · rw [if_pos (.inr (.inr e3))] at N; exact N.same A s1
  · rintro (g | g | g)
    · rw [e] at g; cases g
    · exact e2 g
    · exact e3 g
  rintro y ⟨rfl, g⟩
  rw [if_neg g] at N
  have hmay : mayI sum n = true := by
    cases h : mayI sum n with
    | true => rfl
    | false => exact absurd (.inl h) g
  have hmay := of_decide_eq_true hmay
  have hs0 : 0 ≤ size := by
    rcases Int.lt_or_le size 0 with h | h
    · exact absurd (.inr (.inl h)) g
    · exact h
  have hs1 : size ≤ 128 := by
    rcases Int.lt_or_le 128 size with h | h
    · exact absurd (.inr (.inr h)) g
    · exact h
  obtain ⟨m, rfl⟩ : ∃ m : Nat, n = (m : Int) := ⟨n.toNat, by omega⟩
  obtain ⟨z, rfl⟩ : ∃ z : Nat, size = (z : Int) := ⟨size.toNat, by omega⟩
  have hheld := A.has.held ht (sum := sum) (n := m) (by omega) (by omega)
  refine look_led_spec (A.sub s1) (fun d hd => Nat.lt_trans (hc d hd) (by decide)) sum m fun h2 s2 => ⟨_, _, rfl, ?_⟩
  have A2 := (A.sub s1).sub s2
  cases hf : atH x.l sum (m : Int) with
  | some d =>
    rw [hf] at N hheld
    obtain ⟨hd, hsum, hnn⟩ := atH_mem hf
    have hco := A.has.ok.count d hd
    have hcl := hc d hd
    have hsz := A.has.ok.size d hd
    have hix := atH_ix hf
    have hnm : d.n = m := by omega
    subst hsum; subst hnm
    have hin : kvIs (heldKey t d.sum d.n) L = true := by rw [kvIs_get, hheld]; rfl
    refine ⟨fun y => y = h2 ∧ d.size = z, ?_, split_dec (fun _ => split_ne (fun e => ?_) fun e => split_eq (fun e2 => by have e2 : (d.count : Int) = 0 := e2; omega) fun _ => ⟨Sub.refl _, split_eq (fun e2 => by have e2 : (d.count : Int) = 2147483648 := e2; omega) fun _ => ⟨rfl, by have e : (d.size : Int) = (z : Int) := e; omega⟩⟩) fun e => by have e : ¬ (d.count : Int) > 0 := e; omega⟩
    rotate_left
    · have N : Next h lb tb t full L (if (d.size : Int) ≠ (z : Int) then (x, (8 : Int)) else (x.set (ixH x.l d.sum d.n) (d.count + 1), 0)) K := N
      rw [if_pos (show (d.size : Int) ≠ (z : Int) from e)] at N
      exact N.same A (s1.trans s2)
    rintro y ⟨rfl, hz⟩
    have N : Next h lb tb t full L (if (d.size : Int) ≠ (z : Int) then (x, (8 : Int)) else (x.set (ixH x.l d.sum d.n) (d.count + 1), 0)) K := N
    rw [if_neg (by omega)] at N
    have ew : IntKind.i64.wrap ((((Option.map Hd.count (some d)).getD 0 : Nat) : Int) + 1) = ((d.count + 1 : Nat) : Int) := by
      show IntKind.i64.wrap ((d.count : Int) + 1) = _
      rw [wid (by omega) (by omega)]; omega
    have hns : ∀ m ∈ [d.count + 1, z], m < 9223372036854775808 := by
      intro m hm
      simp at hm
      rcases hm with rfl | rfl <;> omega
    have fin : ∀ (R : Int → Hp → Prop) h3, Sub h h3 → CallsH Try.prog law22_table_Put.id #[.pointer (some ⟨tb, 0, none⟩), .string (heldKey t d.sum d.n), .string (textB [d.count + 1, z])] h3 (fun v h' => ∃ n, v = .int .i64 n ∧ cond (hb (n != 0)) (K (.int .i64 n) h') (cond (hb (decide ((((Option.map Hd.count (some d)).getD 0 : Nat) : Int) > 0))) (K (.int .i64 n) h') (R n h'))) := by
      intro R h3 s3
      have hlen := put_len (L := L) (heldKey t d.sum d.n) (textB [d.count + 1, z])
      refine tablePut_spec (A.table.sub s3) (by omega) _ _ (fun e2 _ _ => by rw [hin] at e2; cases e2) fun _ h4 k4 T4 => ⟨_, rfl, split_ne (fun e => absurd rfl e) fun _ => split_dec (fun _ => ?_) fun e => by have e : ¬ (d.count : Int) > 0 := e; omega⟩
      have kA : Keep (fun b => b = tb) h h4 := (s3.keep _).trans k4
      have T4' := T4
      rw [← hz] at T4' hlen
      exact N h4 _ kA (A.next kA T4' (A.has.set ht hix (by omega)) (by omega) hL) ((Own1.refl A.has.sorted).put _ (own_h ht _ _)) (by omega)
    rw [ew]
    refine ⟨_, Blk.cell' A2.ld 0 rfl, held_spec A2.ld d.sum d.n (by omega) fun h3 s3 => ⟨_, rfl, s3, fun k hk => ⟨s3.trans (Sub.upd hk _), text_spec (nat2_row (d.count + 1) z) hns (by show 2 < 1000000; decide) fun h4 s4 => ⟨_, rfl, (s3.trans (Sub.upd hk _)).trans s4, _, rfl, fin _ h4 ((((s1.trans s2).trans s3).trans (Sub.upd hk _)).trans s4)⟩⟩⟩,
      fun k hk => ⟨Sub.upd hk _, held_spec (A2.ld.sub (Sub.upd hk _)) d.sum d.n (by omega) fun h3 s3 => ⟨_, rfl, (Sub.upd hk _).trans s3, text_spec ((nat2_row (d.count + 1) z).sub s3) hns (by show 2 < 1000000; decide) fun h4 s4 => ⟨_, rfl, ((Sub.upd hk _).trans s3).trans s4, _, rfl, fin _ h4 ((((s1.trans s2).trans (Sub.upd hk _)).trans s3).trans s4)⟩⟩⟩⟩
  | none =>
    rw [hf] at N hheld
    have N : Next h lb tb t full L (if (x.used : Int) + z > x.quota then (x, 5) else if roomy full L = true then (x.ins ⟨sum, m, 1, z⟩, 0) else (x, 5)) K := N
    have hin : kvIs (heldKey t sum m) L = false := by rw [kvIs_get, hheld]; rfl
    have hno := atH_none hf
    have hw : IntKind.i64.wrap ((x.used : Int) + (z : Int)) = (x.used : Int) + z := wid (by omega) (by omega)
    refine ⟨fun y => y = h2 ∧ ¬ (x.used : Int) + z > x.quota, ?_, split_dec (fun e => by have e : (0 : Int) > 0 := e; omega) fun _ => split_eq (fun _ => used_spec x A.has.ok ⟨_, rfl, Sub.refl _, ?_⟩) fun e => absurd rfl e⟩
    rotate_left
    · rw [hw]
      refine split_dec (fun e => split_dec (fun _ => ?_) fun e2 => absurd e e2) fun e => split_eq (fun e2 => by cases e2) fun _ => ⟨rfl, e⟩
      rw [if_pos e] at N
      exact N.same A (s1.trans s2)
    rintro y ⟨rfl, hroom⟩
    rw [if_neg hroom] at N
    have hns : ∀ q ∈ [1, z], q < 9223372036854775808 := by
      intro q hq
      simp at hq
      rcases hq with rfl | rfl <;> omega
    have ok' : LedOk (x.ins ⟨sum, m, 1, z⟩) := A.has.ok.ins his hno ⟨by show 1 ≤ sum.size; omega, by show sum.size ≤ 32; omega, by show m < 256; omega⟩ (by show 1 ≤ 1; omega) (by show z ≤ 128; omega) (by show x.used + z ≤ x.quota; omega)
    have ha := acc_lt ok'
    have hsz : sizesH (x.ins ⟨sum, m, 1, z⟩).l = sizesH x.l + z := insH_sizes _ _
    have ew2 : IntKind.i64.wrap (((sizesH x.l : Nat) : Int) + (z : Int)) = ((sizesH (x.ins ⟨sum, m, 1, z⟩).l : Nat) : Int) := by
      unfold Led.used at hu
      rw [hsz, wid (by omega) (by omega)]; omega
    have fin : ∀ h3, Sub h h3 → CallsH Try.prog law22_table_Put.id #[.pointer (some ⟨tb, 0, none⟩), .string (heldKey t sum m), .string (textB [1, z])] h3 (fun v h' => ∃ n, v = .int .i64 n ∧ cond (hb (n != 0)) (K (.int .i64 n) h') (cond (hb (decide ((((Option.map Hd.count (none : Option Hd)).getD 0 : Nat) : Int) > 0))) (K (.int .i64 n) h')
        (CallsH Try.prog ledger_Ledger_write.id #[.pointer (some ⟨lb, 0, none⟩), .agg #[.int .i64 x.quota, .int .i64 (IntKind.i64.wrap (((sizesH x.l : Nat) : Int) + (z : Int))), .int .i64 x.records]] h' fun v h'' => ∃ n, v = .int .i64 n ∧ K (.int .i64 n) h''))) := by
      intro h3 s3
      have hlen := put_len (L := L) (heldKey t sum m) (textB [1, z])
      have hlen2 := put_len (L := kvPut (heldKey t sum m) (textB [1, z]) L) (quotaKey t) (textB (x.ins ⟨sum, m, 1, z⟩).acc)
      refine tablePut_spec (A.table.sub s3) (by omega) _ _ (fun _ g1 g2 => ⟨_, rfl, split_ne (fun _ => ?_) fun e => by cases e⟩) fun hr h4 k4 T4 => ⟨_, rfl, split_ne (fun e => absurd rfl e) fun _ => split_dec (fun e => by have e : (0 : Int) > 0 := e; omega) fun _ => ?_⟩
      · rw [if_neg (by unfold roomy; rw [decide_eq_false (by omega)]; decide)] at N
        exact N.same A s3
      · have hr : roomy full L = true := by
          rcases hr with hr | hr | hr
          · rw [hin] at hr; cases hr
          · exact decide_eq_true (.inl hr)
          · exact decide_eq_true (.inr hr)
        rw [if_pos hr] at N
        have kA : Keep (fun b => b = tb) h h4 := (s3.keep _).trans k4
        have hqd : kvIs (quotaKey t) (kvPut (heldKey t sum m) (textB [1, z]) L) = true := by
          rw [kvIs_iff (kvPut_sorted A.has.sorted _ _)]
          refine ⟨textB x.acc, (kvPut_mem A.has.sorted _ _ _).2 (.inr ⟨?_, fun e => held_ne_quota t sum m e.symm⟩)⟩
          have := A.has.quota ht
          rw [his] at this
          exact (kvGet_iff A.has.sorted _ _).1 this
        rw [ew2]
        refine write_led_spec (A.ld.keep A.table kA) T4 (by omega) x.quota _ x.records (ha _ (List.mem_cons_self)) (ha (sizesH (x.ins ⟨sum, m, 1, z⟩).l) (List.mem_cons_of_mem _ (List.mem_cons_self))) (ha x.records (List.mem_cons_of_mem _ (List.mem_cons_of_mem _ (List.mem_cons_self)))) (fun e2 _ _ _ _ => by rw [hqd] at e2; cases e2) fun _ h5 k5 T5 => ⟨_, rfl, ?_⟩
        exact N h5 _ (kA.trans k5) (A.next (kA.trans k5) T5 (A.has.ins ht ok' his hno) (by show (kvPut _ (textB (x.ins ⟨sum, m, 1, z⟩).acc) _).length ≤ _; omega) hL) (((Own1.refl A.has.sorted).put _ (own_h ht _ _)).put _ (own_q ht)) (by show (kvPut _ (textB (x.ins ⟨sum, m, 1, z⟩).acc) _).length ≤ _; omega)
    have e0 : IntKind.i64.wrap ((((Option.map Hd.count (none : Option Hd)).getD 0 : Nat) : Int) + 1) = ((1 : Nat) : Int) := by
      show IntKind.i64.wrap (0 + 1) = 1
      exact wid (by decide) (by decide)
    rw [e0]
    refine ⟨_, Blk.cell' A2.ld 0 rfl, held_spec A2.ld sum m (by omega) fun h3 s3 => ⟨_, rfl, s3, fun k hk => ⟨s3.trans (Sub.upd hk _), text_spec (nat2_row 1 z) hns (by show 2 < 1000000; decide) fun h4 s4 => ⟨_, rfl, (s3.trans (Sub.upd hk _)).trans s4, _, rfl, fin h4 ((((s1.trans s2).trans s3).trans (Sub.upd hk _)).trans s4)⟩⟩⟩,
      fun k hk => ⟨Sub.upd hk _, held_spec (A2.ld.sub (Sub.upd hk _)) sum m (by omega) fun h3 s3 => ⟨_, rfl, (Sub.upd hk _).trans s3, text_spec ((nat2_row 1 z).sub s3) hns (by show 2 < 1000000; decide) fun h4 s4 => ⟨_, rfl, ((Sub.upd hk _).trans s3).trans s4, _, rfl, fin h4 ((((s1.trans s2).trans (Sub.upd hk _)).trans s3).trans s4)⟩⟩⟩⟩
end Go.Proofs.Ytlklpdedppgkfaa
