/- A table that has no room refuses a ledger: LedgerFull; ledgers of several tenants in one table: LedgerApart; over heaps. Conditions: none beyond the arguments' reading. -/
import Derived.Test.YtlklpdedppgkfaaL6
namespace Go.Proofs.Ytlklpdedppgkfaa
open Go.Gx
set_option maxRecDepth 100000
set_option linter.unusedVariables false
variable {h : Hp} {lb tb t : Nat} {full : Int} {L : List KV} {x : Led} {K : Value → Hp → Prop} {a : Option Addr} {c : Nat}

/-! ### no room -/
theorem step_is (his : x.is = true) (kind n : Int) (sum : ByteArray) (i : Int) (room : Bool) : (x.step kind n sum i room).1.is = true := by
  unfold Led.step
  split
  · unfold Led.create
    by_cases h1 : okQ n = false
    · rw [if_pos h1]; exact his
    · rw [if_neg h1, if_pos his]; exact his
  split
  · unfold Led.resize
    split
    · exact his
    split
    · exact his
    split
    · exact his
    · exact his
  split
  · unfold Led.add
    split
    · exact his
    split
    · exact his
    split
    · split
      · exact his
      · exact his
    · split
      · exact his
      split
      · exact his
      · exact his
  split
  · unfold Led.drop
    split
    · exact his
    · split
      · exact his
      · exact his
  split
  · unfold Led.record
    split
    · exact his
    split
    · exact his
    split
    · exact his
    · exact his
  · exact his
def fresh (x : Led) (o : Op5) : Bool := decide (o.kind = 2) && mayI o.sum o.i && (atH x.l o.sum o.i).isNone && decide (0 ≤ o.n ∧ o.n ≤ 128)
theorem step_room (his : x.is = true) (o : Op5) (r : Bool) (h : fresh x o = false ∨ r = true) : x.step o.kind o.n o.sum o.i r = x.step o.kind o.n o.sum o.i true := by
  rcases h with h | h
  · unfold Led.step
    by_cases k0 : o.kind = 0
    · rw [if_pos k0, if_pos k0]
      unfold Led.create
      by_cases q : okQ o.n = false
      · rw [if_pos q, if_pos q]
      · rw [if_neg q, if_neg q, if_pos his, if_pos his]
    rw [if_neg k0, if_neg k0]
    by_cases k1 : o.kind = 1
    · rw [if_pos k1, if_pos k1]
    rw [if_neg k1, if_neg k1]
    by_cases k2 : o.kind = 2
    · rw [if_pos k2, if_pos k2]
      unfold Led.add
      rw [if_neg (c := x.is = false) (by rw [his]; decide), if_neg (c := x.is = false) (by rw [his]; decide)]
      by_cases hm : mayI o.sum o.i = false ∨ o.n < 0 ∨ o.n > 128
      · rw [if_pos hm, if_pos hm]
      · rw [if_neg hm, if_neg hm]
        cases ha : atH x.l o.sum o.i with
        | some d => rfl
        | none =>
          exfalso
          unfold fresh at h
          rw [ha, decide_eq_true k2] at h
          have h1 : mayI o.sum o.i = true := by
            cases h2 : mayI o.sum o.i with
            | true => rfl
            | false => exact absurd (.inl h2) hm
          have h2 : decide (0 ≤ o.n ∧ o.n ≤ 128) = true := decide_eq_true (by omega)
          rw [h1, h2] at h
          cases h
    · rw [if_neg k2, if_neg k2]
  · rw [h]
theorem add_full (his : x.is = true) (o : Op5) (h : fresh x o = true) : x.add o.sum o.i o.n false = (x, 5) := by
  unfold fresh at h
  simp only [Bool.and_eq_true, decide_eq_true_eq] at h
  obtain ⟨⟨⟨h1, h2⟩, h3⟩, h4⟩ := h
  unfold Led.add
  have ha : atH x.l o.sum o.i = none := by
    cases hx : atH x.l o.sum o.i with
    | none => rfl
    | some d => rw [hx] at h3; cases h3
  rw [if_neg (by rw [his]; decide), if_neg (by rw [h2]; intro hc; rcases hc with hc | hc | hc; (· cases hc); (· omega); (· omega)), ha]
  simp only []
  by_cases hq : (x.used : Int) + o.n > x.quota
  · rw [if_pos hq]
  · rw [if_neg hq]; rfl
theorem full_core (full : Int) (oa : Option Addr) (oc : Nat) (os : List Op5) (hr : RowAt opC 5 h oa os) (hok : ∀ o ∈ os, o.ok) :
    CallsH Try.prog 6 #[.int .i64 full, .slice oa os.length oc] h fun v h' => v = .bool true ∧ Sub h h' := by
  apply law22_LedgerFull.calls
  unfold law22_LedgerFull.W
  intro k hk
  refine open_spec (table_new hk full) 1 List.Pairwise.nil (fun _ _ => rfl) (by decide) (fun e => absurd (by decide) e) fun t et t1 t2 lb h1 s1 hlb A => ⟨_, _, rfl, ?_⟩
  have s1 : Sub h h1 := (Sub.upd hk _).trans s1
  refine ⟨fun y => y = h1 ∧ 1 ≤ full ∧ full ≤ 30, ?_, split_cond (fun e => by cases e) fun _ => split_dec (fun _ => split_not (fun _ => live_ok s1) fun e => by cases e) fun f1 => split_dec (fun _ => split_not (fun _ => live_ok s1) fun e => by cases e) fun f2 => ⟨rfl, by omega, by omega⟩⟩
  rintro y ⟨rfl, f1, f2⟩
  have hroom0 : roomy full [] = true := decide_eq_true (.inr (by show (0 : Int) < full; omega))
  refine create_spec A (by decide) 1048576 fun h2 L2 k2 A2 O2 l2 => ⟨_, rfl, ?_⟩
  have s2 : Sub h h2 := k2.sub s1 fun b hb => by rw [hb]; exact hk
  have r := create_ok A hroom0 (q := 1048576) rfl
  rw [r] at A2 ⊢
  refine split_ne (fun e => absurd rfl e) fun _ => ?_
  have hR : RefAt h2 ⟨true, (1048576 : Int).toNat, 0, []⟩ none 0 := ⟨RowAt.nil _ _, Nat.le_refl _, LedOk.create rfl, by show 0 < 1073741824; decide⟩
  refine ⟨fun i b q r a l c y m => ∃ (j : Nat) (x : Led) (L : List KV), i = (j : Int) ∧ j ≤ 40 ∧ j ≤ os.length ∧ m = 40 - j ∧ b = x.is ∧ q = (x.quota : Int) ∧ r = (x.records : Int) ∧ l = x.l.length ∧ x.is = true ∧ Both h y lb k t full x L a c j,
    ⟨_, 0, ⟨true, (1048576 : Int).toNat, 0, []⟩, L2, rfl, by decide, by omega, rfl, rfl, rfl, rfl, rfl, rfl, s2, hk, A2, hR, fun b ⟨o, s, e⟩ => (by cases e), fun d hd => (by cases hd), by have : L2.length ≤ 2 := l2; omega⟩, ?_⟩
  rintro i b q r a l c y m ⟨j, x, L, rfl, hj, hjo, rfl, rfl, rfl, rfl, rfl, his, B⟩
  refine split_dec (fun g => split_dec (fun g2 => ?_) fun _ => live_ok B.sub) fun _ => live_ok B.sub
  have g : j < os.length := by have : (j : Int) < (os.length : Int) := g; omega
  have ho : os[j]? = some os[j] := List.getElem?_eq_getElem g
  generalize os[j] = o at ho
  obtain ⟨b1, o1, ea, c0, c1, c2, c3, c4⟩ := op_at hr B.sub ho
  have hb : (j : Int) < Int.ofNat os.length := by show (j : Int) < (os.length : Int); omega
  refine ⟨by omega, hb, b1, o1, ea, _, c0, _, c1, _, c2, _, c3, _, c4, light_spec o ⟨_, rfl, split_not (fun _ => live_ok B.sub) fun _ => ?_⟩⟩
  have hBl := B.len
  have hxl := B.ref.len
  -- the step on both
  have stepped : fresh x o = false ∨ roomy full L = true → CallsH Try.prog law22_step.id #[.pointer (some ⟨lb, 0, none⟩), .agg #[.bool x.is, .int .i64 x.quota, .int .i64 x.records, .slice a x.l.length c], .agg #[.int .i64 o.kind, .int .i64 o.n, .int .i64 o.who, .string o.sum, .int .i64 o.i]] y (fun v48 h49 => ∃ (b50 : Bool) (n51 n52 : Int) (a53 : Option Addr) (k54 k55 : Nat) (b56 : Bool), v48 = .tuple #[.agg #[.bool b50, .int .i64 n51, .int .i64 n52, .slice a53 k54 k55], .bool b56] ∧
      cond (!b56) ((fun (v : Value) (h' : Hp) => v = .bool true ∧ Sub h h') (.bool false) h49) (CallsH Try.prog law22_alike.id #[.pointer (some ⟨lb, 0, none⟩), .agg #[.bool b50, .int .i64 n51, .int .i64 n52, .slice a53 k54 k55], .agg #[.string o.sum, .int .i64 o.i]] h49 fun v57 h58 => ∃ b59, v57 = .bool b59 ∧ cond (!b59) ((fun (v : Value) (h' : Hp) => v = .bool true ∧ Sub h h') (.bool false) h58)
        (∃ k60, k60 < 40 - j ∧ ∃ (j' : Nat) (x : Led) (L : List KV), IntKind.i64.wrap ((j : Int) + 1) = (j' : Int) ∧ j' ≤ 40 ∧ j' ≤ os.length ∧ k60 = 40 - j' ∧ b50 = x.is ∧ n51 = (x.quota : Int) ∧ n52 = (x.records : Int) ∧ k54 = x.l.length ∧ x.is = true ∧ Both h h58 lb k t full x L a53 k55 j'))) := by
    intro hfr
    refine B.step (by omega) o (hok o (List.mem_of_getElem? ho)) (step_room his o _ hfr) fun z L' a' c' B' O' => ⟨_, _, _, _, _, _, _, rfl, split_not (fun e => by cases e) fun _ => ?_⟩
    refine B'.alike (by omega) _ _ fun w B'' => ⟨_, rfl, split_not (fun e => by cases e) fun _ => ⟨_, ?_, j + 1, _, L', by rw [wid (by omega) (by omega)]; omega, by omega, by omega, rfl, rfl, rfl, rfl, rfl, step_is his _ _ _ _ _, B''⟩⟩
    omega
  refine ⟨fun b z => z = y ∧ b = fresh x o, ?_, ?_⟩
  · rintro b z ⟨rfl, rfl⟩
    refine split_cond (fun hf => ?_) fun hf => stepped (.inl hf)
    obtain ⟨ta, tc, tb1, tb2⟩ := B.led.table
    refine ⟨_, _, _, tb1.cell' 0 rfl, split_dec (fun hge => ?_) fun hlt => stepped (.inr (decide_eq_true (.inr (by have : ¬ ((L.length : Nat) : Int) ≥ full := hlt; omega))))⟩
    have hge : ((L.length : Nat) : Int) ≥ full := hge
    have hroom : roomy full L = false := decide_eq_false (by omega)
    have hadd := add_full his o hf
    refine add_spec B.led (by omega) (fun d hd => by have := B.few d hd; omega) o.sum o.i o.n fun w L' k' A' O' hl' => ⟨_, rfl, ?_⟩
    rw [hroom, hadd] at A' ⊢
    refine split_ne (fun e => absurd rfl e) fun _ => ?_
    have B' : Both h w lb k t full x L' a c (j + 1) := ⟨k'.sub B.sub fun b hb => by rw [hb]; exact hk, hk, A', B.ref.keep k' B.apart, B.apart, fun d hd => by have := B.few d hd; omega, by omega⟩
    refine B'.alike (by omega) _ _ fun w2 B2 => ⟨_, rfl, split_not (fun e => by cases e) fun _ => ⟨_, ?_, j + 1, x, L', by rw [wid (by omega) (by omega)]; omega, by omega, by omega, rfl, rfl, rfl, rfl, rfl, his, B2⟩⟩
    omega
  · have hfr : ∀ b : Bool, (b = fresh x o) → (y = y ∧ b = fresh x o) := fun b e => ⟨rfl, e⟩
    refine split_eq (fun e2 => mayR_spec o.sum o.i ⟨_, rfl, split_cond (fun em => at_spec B.ref.row (by omega) o.sum o.i ⟨_, rfl, ?_⟩) fun em => ⟨rfl, ?_⟩⟩) fun e2 => ⟨rfl, ?_⟩
    · cases hf : atH x.l o.sum o.i with
      | some d =>
        have hv := (atV_some hf).1
        rw [hv]
        refine split_dec (fun e => by omega) fun _ => ⟨rfl, ?_⟩
        unfold fresh
        rw [hf]; simp
      | none =>
        rw [atV_none hf]
        refine split_dec (fun _ => split_dec (fun e3 => ⟨rfl, ?_⟩) fun e3 => ⟨rfl, ?_⟩) fun e => absurd (by decide) e
        · unfold fresh
          rw [hf, decide_eq_true e2, em, hb_eq]
          simp only [Option.isNone_none, Bool.true_and]
          rw [decide_eq_decide]
          exact ⟨fun h => ⟨e3, h⟩, fun h => h.2⟩
        · unfold fresh
          rw [decide_eq_false (p := 0 ≤ o.n ∧ o.n ≤ 128) (fun h => e3 h.1)]; simp
    · unfold fresh
      rw [em]; simp
    · unfold fresh
      rw [decide_eq_false e2]; simp
end Go.Proofs.Ytlklpdedppgkfaa
