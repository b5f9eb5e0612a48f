/- What the document's ledger makes of its lists. Conditions: the lists lie in memory as they are named, and are of ordinary length. -/
import Derived.Test.YtlklpdedppgkfaaFG
import Derived.Test.YtlklpdedppgkfaaL2
namespace Go.Proofs.Ytlklpdedppgkfaa
open Go.Gx
set_option maxRecDepth 100000
set_option linter.unusedVariables false
abbrev tHeld : TypeId := 54
theorem appTHeld : AppT Try.prog tHeld 4 40 := AppT.of (by kernel_rfl)
def hdC (d : Hd) : List Value := [.string d.sum, .int .i64 d.n, .int .i64 d.count, .int .i64 d.size]
theorem hdC_len (d : Hd) : (hdC d).length = 4 := rfl
theorem hdC_plain (d : Hd) : plainP (hdC d) := plainP_of rfl
variable {h : Hp} {x : Led} {K : Value → Hp → Prop} {a : Option Addr} {c : Nat} {l : List Hd}
theorem idEq (a b : ByteArray) (m n : Int) : (beqS a b && (hb (m == n) && true)) = decide ((a, m) = (b, n)) := by
  rw [beqS_val, hb_eq, Bool.and_true]
  by_cases h1 : a = b
  · by_cases h2 : m = n
    · subst h1; subst h2; simp
    · simp [h1, h2]
  · simp [h1]
def atV (l : List Hd) (sum : ByteArray) (n : Int) : Int := if ixH l sum n < l.length then (ixH l sum n : Nat) else -1
theorem at_spec (H : RowAt hdC 4 h a l) (hl : l.length < 4294967296) (sum : ByteArray) (n : Int) (hK : K (.int .i64 (atV l sum n)) h) : CallsH Try.prog ref22_At.id #[.slice a l.length c, .agg #[.string sum, .int .i64 n]] h K := by
  apply ref22_At.calls
  unfold ref22_At.W
  have hle : ixH l sum n ≤ l.length := List.findIdx_le_length
  refine ⟨fun i y m => y = h ∧ ∃ j : Nat, i = (j : Int) ∧ j ≤ ixH l sum n ∧ m = l.length - j, ⟨_, rfl, 0, rfl, by omega, rfl⟩, ?_⟩
  rintro i y m ⟨rfl, j, rfl, hj, rfl⟩
  refine split_dec (fun g => ?_) (fun g => ?_)
  · have g1 : j < l.length := by have : (j : Int) < (l.length : Int) := g; omega
    have hd : l[j]? = some l[j] := List.getElem?_eq_getElem g1
    obtain ⟨b, o, e, hc⟩ := H.get hdC_len (by decide) hd
    refine ⟨by omega, g, b, o, e, _, hc 0 _ rfl, _, hc 1 _ rfl, ?_⟩
    rw [idEq]
    refine split_cond (fun e1 => ?_) (fun e1 => ⟨_, ?_, rfl, j + 1, by rw [wid (by omega) (by omega)]; omega, ?_, rfl⟩)
    · have e1 := of_decide_eq_true e1
      have hix : ixH l sum n = j := by
        refine Nat.le_antisymm ?_ hj
        by_cases hlt : j < ixH l sum n
        · have := List.not_of_lt_findIdx hlt
          exfalso
          have h2 : isH sum n l[j] = true := decide_eq_true ⟨congrArg Prod.fst e1, congrArg Prod.snd e1⟩
          rw [h2] at this; cases this
        · omega
      unfold atV at hK
      rw [hix, if_pos g1] at hK
      exact hK
    · omega
    · have e1 := of_decide_eq_false e1
      by_cases hlt : j < ixH l sum n
      · omega
      · exfalso
        have hje : j = ixH l sum n := by omega
        have h3 := List.findIdx_getElem (xs := l) (p := isH sum n) (w := by show ixH l sum n < _; omega)
        apply e1
        have h4 : isH sum n l[j] = true := by
          have : l[j] = l[List.findIdx (isH sum n) l]'(by show ixH l sum n < _; omega) := by congr 1
          rw [this]; exact h3
        have h5 := of_decide_eq_true h4
        exact Prod.ext h5.1 h5.2
  · have g1 : ¬ j < l.length := by intro hc; apply g; show (j : Int) < (l.length : Int); omega
    unfold atV at hK
    rw [if_neg (by omega)] at hK
    exact hK
theorem atV_some {sum : ByteArray} {n : Int} {d : Hd} (h : atH l sum n = some d) : atV l sum n = (ixH l sum n : Nat) ∧ ixH l sum n < l.length := by
  have h1 := (List.getElem?_eq_some_iff.1 (show l[ixH l sum n]? = some d from h)).1
  exact ⟨if_pos h1, h1⟩
theorem atV_none {sum : ByteArray} {n : Int} (h : atH l sum n = none) : atV l sum n = -1 := by
  have h1 := List.getElem?_eq_none_iff.1 (show l[ixH l sum n]? = none from h)
  exact if_neg (by omega)
theorem mayR_spec (sum : ByteArray) (n : Int) (hK : K (.bool (mayI sum n)) h) : CallsH Try.prog ref22_May.id #[.agg #[.string sum, .int .i64 n]] h K := by
  apply ref22_May.calls
  unfold ref22_May.W
  unfold mayI at hK
  have f : ∀ {p : Prop} [Decidable p], ¬ p → K (.bool (decide p)) h → K (.bool false) h := fun hp hk => by rw [decide_eq_false hp] at hk; exact hk
  refine split_dec (fun e1 => split_dec (fun e2 => split_dec (fun e3 => ?_) fun e => f (fun h => e h.2.2.1) hK) fun e => f (fun h => e (by show ((sum.size : Nat) : Int) ≤ 32; omega)) hK) fun e => f (fun h => e (by show ((sum.size : Nat) : Int) ≥ 1; omega)) hK
  have e1 : ((sum.size : Nat) : Int) ≥ 1 := e1
  have e2 : ((sum.size : Nat) : Int) ≤ 32 := e2
  rw [hb_eq]
  by_cases e4 : n ≤ 255
  · rw [decide_eq_true ⟨by omega, by omega, e3, e4⟩] at hK; rw [decide_eq_true e4]; exact hK
  · rw [decide_eq_false (fun h => e4 h.2.2.2)] at hK; rw [decide_eq_false e4]; exact hK
theorem sizes_le : ∀ l : List Hd, (∀ d ∈ l, d.size ≤ 128) → sizesH l ≤ 128 * l.length
  | [], _ => by simp [sizesH]
  | d :: l, h => by
    have h1 := sizes_le l fun e he => h e (List.mem_cons_of_mem _ he)
    have h2 := h d (List.mem_cons_self)
    unfold sizesH at h1 ⊢
    rw [List.map_cons, List.sum_cons, List.length_cons]; omega
theorem sizes_snoc (l : List Hd) (d : Hd) : sizesH (l ++ [d]) = sizesH l + d.size := by unfold sizesH; simp
def refV (x : Led) (a : Option Addr) (c : Nat) : Value := .agg #[.bool x.is, .int .i64 x.quota, .int .i64 x.records, .slice a x.l.length c]
/-- The document's ledger in memory. -/
structure RefAt (h : Hp) (x : Led) (a : Option Addr) (c : Nat) : Prop where
  row : RowAt hdC 4 h a x.l
  cap : x.l.length ≤ c
  ok : LedOk x
  len : x.l.length < 1073741824
theorem RefAt.sub {h' : Hp} (R : RefAt h x a c) (s : Sub h h') : RefAt h' x a c := ⟨R.row.sub s, R.cap, R.ok, R.len⟩
theorem bytesR_spec (R : RefAt h x a c) (hK : K (.int .i64 (sizesH x.l : Nat)) h) : CallsH Try.prog ref22_Bytes.id #[refV x a c] h K := by
  apply ref22_Bytes.calls
  unfold ref22_Bytes.W
  have hl := R.len
  refine ⟨fun n i y m => y = h ∧ ∃ j : Nat, i = (j : Int) ∧ j ≤ x.l.length ∧ m = x.l.length - j ∧ n = (sizesH (x.l.take j) : Nat), ⟨_, rfl, 0, rfl, by omega, rfl, rfl⟩, ?_⟩
  rintro n i y m ⟨rfl, j, rfl, hj, rfl, rfl⟩
  refine split_dec (fun g => ?_) (fun g => ?_)
  · have g1 : j < x.l.length := by have : (j : Int) < (x.l.length : Int) := g; omega
    have hd : x.l[j]? = some x.l[j] := List.getElem?_eq_getElem g1
    generalize x.l[j] = d at hd
    have hds := R.ok.size d (List.mem_of_getElem? hd)
    have hs := sizes_le (x.l.take j) fun d hd => R.ok.size d (List.mem_of_mem_take hd)
    rw [List.length_take] at hs
    obtain ⟨b, o, e, hc⟩ := R.row.get hdC_len (by decide) hd
    refine ⟨by omega, g, b, o, e, _, hc 3 _ rfl, _, ?_, rfl, j + 1, by rw [wid (by omega) (by omega)]; omega, by omega, rfl, ?_⟩
    · omega
    · rw [List.take_add_one, hd, Option.toList_some, sizes_snoc, wid (by omega) (by omega)]; omega
  · have : j = x.l.length := by
      have : ¬ (j : Int) < (x.l.length : Int) := g
      omega
    subst this
    rw [List.take_length]
    exact hK
theorem usedR_spec (R : RefAt h x a c) (hK : K (.int .i64 (x.used : Nat)) h) : CallsH Try.prog ref22_Used.id #[refV x a c] h K := by
  apply ref22_Used.calls
  unfold ref22_Used.W
  have h1 := R.ok.used
  have h2 := R.ok.quota
  unfold Led.used at h1 hK
  refine bytesR_spec R ⟨_, rfl, Sub.refl _, ?_⟩
  rw [wid (x := 64 * (x.records : Int)) (by omega) (by omega), wid (by omega) (by omega)]
  have e : ((sizesH x.l : Nat) : Int) + 64 * (x.records : Int) = ((sizesH x.l + 64 * x.records : Nat) : Int) := by omega
  rw [e]; exact hK
theorem sameR_spec {b : Option Addr} {e : Nat} (H : RowAt hdC 4 h a l) (G : RowAt hdC 4 h b l) (hl : l.length < 4294967296) (hK : K (.bool true) h) : CallsH Try.prog ref22_Same.id #[.slice a l.length c, .slice b l.length e] h K := by
  apply ref22_Same.calls
  unfold ref22_Same.W
  refine split_ne (fun e => absurd rfl e) fun _ => ⟨fun i y m => y = h ∧ ∃ j : Nat, i = (j : Int) ∧ j ≤ l.length ∧ m = l.length - j, ⟨_, rfl, 0, rfl, by omega, rfl⟩, ?_⟩
  rintro i y m ⟨rfl, j, rfl, hj, rfl⟩
  refine split_dec (fun g => ?_) (fun g => hK)
  have g1 : j < l.length := by have : (j : Int) < (l.length : Int) := g; omega
  have hd : l[j]? = some l[j] := List.getElem?_eq_getElem g1
  obtain ⟨b1, o1, e1, hc⟩ := H.get hdC_len (by decide) hd
  obtain ⟨b2, o2, e2, hc2⟩ := G.get hdC_len (by decide) hd
  refine ⟨by omega, g, b1, o1, e1, _, hc 0 _ rfl, _, hc 1 _ rfl, _, hc 2 _ rfl, _, hc 3 _ rfl, by omega, g, b2, o2, e2, _, hc2 0 _ rfl, _, hc2 1 _ rfl, _, hc2 2 _ rfl, _, hc2 3 _ rfl, ?_⟩
  rw [beqS_val]
  refine split_not (fun e => ?_) fun _ => ⟨_, ?_, rfl, j + 1, by rw [wid (by omega) (by omega)]; omega, by omega, rfl⟩
  · simp [hb_eq] at e
  · omega
theorem before_spec (p q : ByteArray × Nat) (hK : K (.bool (bef p q)) h) : CallsH Try.prog ref22_before.id #[.agg #[.string p.1, .int .i64 p.2], .agg #[.string q.1, .int .i64 q.2]] h K := by
  apply ref22_before.calls
  unfold ref22_before.W
  unfold bef at hK
  refine split_ne (fun e => ?_) (fun e => ?_)
  · have e : p.1.size ≠ q.1.size := fun h => e (by show ((p.1.size : Nat) : Int) = (q.1.size : Int); omega)
    rw [if_pos e] at hK
    rw [hb_eq]
    have : decide (Int.ofNat p.1.size < Int.ofNat q.1.size) = decide (p.1.size < q.1.size) := by
      rw [decide_eq_decide]
      show ((p.1.size : Nat) : Int) < (q.1.size : Int) ↔ _
      omega
    rw [this]; exact hK
  · have e : p.1.size = q.1.size := by have : ((p.1.size : Nat) : Int) = (q.1.size : Int) := e; omega
    rw [if_neg (fun h => h e)] at hK
    rw [bltS_val]
    refine split_cond (fun e2 => ?_) (fun e2 => split_beqS (fun e3 => ?_) fun e3 => ?_)
    · rw [e2] at hK; exact hK
    · rw [e2, decide_eq_true e3] at hK
      rw [hb_eq]
      have : decide ((p.2 : Int) < (q.2 : Int)) = decide (p.2 < q.2) := by rw [decide_eq_decide]; omega
      rw [this]; exact hK
    · rw [e2, decide_eq_false e3] at hK; exact hK

/-! ### the calls -/
/-- What may be relied on behind a call of the document's. -/
def NextR (h : Hp) (a : Option Addr) (r : Led × Int) (K : Value → Hp → Prop) : Prop :=
  ∀ h' a' c', Sub h h' → RefAt h' r.1 a' c' → (∀ b, blkOf a' b → blkOf a b ∨ h b = none) → K (.tuple #[refV r.1 a' c', .int .i64 r.2]) h'
theorem NextR.same (R : RefAt h x a c) {e : Int} (N : NextR h a (x, e) K) {h' : Hp} (s : Sub h h') : K (.tuple #[refV x a c, .int .i64 e]) h' :=
  N h' a c s (R.sub s) fun b hb => .inl hb
theorem createR_spec (R : RefAt h x a c) (q : Int) (N : NextR h a (x.create q true) K) : CallsH Try.prog ref22_Create.id #[refV x a c, .int .i64 q] h K := by
  apply ref22_Create.calls
  unfold ref22_Create.W
  unfold Led.create at N
  have hq : okQ q = decide (0 ≤ q ∧ q ≤ 1048576) := rfl
  refine split_dec (fun e => ?_) fun e => split_dec (fun e2 => ?_) fun e2 => split_cond (fun e3 => ?_) fun e3 => ?_
  · rw [if_pos (by rw [hq]; exact decide_eq_false (by omega))] at N; exact N.same R (Sub.refl h)
  · rw [if_pos (by rw [hq]; exact decide_eq_false (by omega))] at N; exact N.same R (Sub.refl h)
  · rw [if_neg (by rw [hq, decide_eq_true (by omega)]; decide), if_pos e3] at N; exact N.same R (Sub.refl h)
  · have hqt : okQ q = true := by rw [hq]; exact decide_eq_true (by omega)
    rw [if_neg (by rw [hqt]; decide), if_neg (by rw [e3]; decide), if_pos rfl] at N
    have := N h none 0 (Sub.refl h) ⟨RowAt.nil _ _, Nat.le_refl _, LedOk.create hqt, by show 0 < 1073741824; decide⟩ fun b ⟨o, s, e⟩ => by cases e
    have e4 : ((q.toNat : Nat) : Int) = q := by omega
    unfold refV at this
    rw [show (((⟨true, q.toNat, 0, []⟩ : Led).quota : Nat) : Int) = q from e4] at this
    exact this
theorem resizeR_spec (R : RefAt h x a c) (q : Int) (N : NextR h a (x.resize q) K) : CallsH Try.prog ref22_Resize.id #[refV x a c, .int .i64 q] h K := by
  apply ref22_Resize.calls
  unfold ref22_Resize.W
  unfold Led.resize at N
  have hq : okQ q = decide (0 ≤ q ∧ q ≤ 1048576) := rfl
  refine split_not (fun e0 => ?_) fun e0 => split_dec (fun e => ?_) fun e => split_dec (fun e2 => ?_) fun e2 => usedR_spec R ⟨_, rfl, split_dec (fun e3 => ?_) fun e3 => ?_⟩
  · rw [if_pos e0] at N; exact N.same R (Sub.refl h)
  · rw [if_neg (by rw [e0]; decide), if_pos (by rw [hq]; exact decide_eq_false (by omega))] at N; exact N.same R (Sub.refl h)
  · rw [if_neg (by rw [e0]; decide), if_pos (by rw [hq]; exact decide_eq_false (by omega))] at N; exact N.same R (Sub.refl h)
  · rw [if_neg (by rw [e0]; decide), if_neg (by rw [hq, decide_eq_true (by omega)]; decide), if_pos e3] at N; exact N.same R (Sub.refl h)
  · have hqt : okQ q = true := by rw [hq]; exact decide_eq_true (by omega)
    rw [if_neg (by rw [e0]; decide), if_neg (by rw [hqt]; decide), if_neg e3] at N
    have := N h a c (Sub.refl h) ⟨R.row, R.cap, R.ok.resize e0 hqt e3, R.len⟩ fun b hb => .inl hb
    unfold refV at this
    rw [show ((({ x with quota := q.toNat } : Led).quota : Nat) : Int) = q by show ((q.toNat : Nat) : Int) = q; omega] at this
    exact this
theorem recordR_spec (R : RefAt h x a c) (n : Int) (hn : -9223372036854775808 ≤ n ∧ n ≤ 9223372036854775807) (N : NextR h a (x.record n) K) : CallsH Try.prog ref22_Record.id #[refV x a c, .int .i64 n] h K := by
  apply ref22_Record.calls
  unfold ref22_Record.W
  unfold Led.record at N
  have hu := R.ok.used
  have hq := R.ok.quota
  unfold Led.used at hu
  refine split_not (fun e0 => ?_) fun e0 => ?_
  · rw [if_pos e0] at N; exact N.same R (Sub.refl h)
  rw [if_neg (by rw [e0]; decide)] at N
  have w1 : IntKind.i64.wrap (0 - (x.records : Int)) = -(x.records : Int) := by rw [wid (by omega) (by omega)]; omega
  rw [w1]
  have fin : ¬ n < -(x.records : Int) → ¬ (n > 0 ∧ (n > 1048576 ∨ (x.used : Int) + 64 * n > x.quota)) → K (.tuple #[.agg #[.bool x.is, .int .i64 x.quota, .int .i64 (IntKind.i64.wrap ((x.records : Int) + n)), .slice a x.l.length c], .int .i64 0]) h := by
    intro g1 g2
    rw [if_neg g1, if_neg g2] at N
    have ok' := R.ok.record e0 g1 g2
    have hu' := ok'.used
    unfold Led.used at hu'
    have hu' : sizesH x.l + 64 * (x.records + n).toNat ≤ x.quota := hu'
    have := N h a c (Sub.refl h) ⟨R.row, R.cap, ok', R.len⟩ fun b hb => .inl hb
    unfold refV at this
    rw [show ((({ x with records := (x.records + n).toNat } : Led).records : Nat) : Int) = IntKind.i64.wrap ((x.records : Int) + n) by
      show (((x.records + n).toNat : Nat) : Int) = _
      rw [wid (by omega) (by omega)]; omega] at this
    exact this
  have rest : ¬ n < -(x.records : Int) → ∃ J : Bool → Int → Int → Option Addr → Nat → Nat → Hp → Prop, (∀ b n3 n4 a5 k6 k7 x8, J b n3 n4 a5 k6 k7 x8 → K (.tuple #[.agg #[.bool x.is, .int .i64 x.quota, .int .i64 (IntKind.i64.wrap ((x.records : Int) + n)), .slice a x.l.length c], .int .i64 0]) x8) ∧
      cond (hb (decide (n > 0))) (cond (hb (decide (n > 1048576))) (Sub h h ∧ K (.tuple #[refV x a c, .int .i64 5]) h) (CallsH Try.prog ref22_Used.id #[refV x a c] h fun v h10 => ∃ n11, v = .int .i64 n11 ∧ Sub h h10 ∧ cond (hb (decide (IntKind.i64.wrap (n11 + IntKind.i64.wrap (64 * n)) > (x.quota : Int)))) (K (.tuple #[refV x a c, .int .i64 5]) h10) (J false 0 0 none 0 0 h10))) (Sub h h ∧ J false 0 0 none 0 0 h) := by
    intro g1
    rw [if_neg g1] at N
    refine ⟨fun _ _ _ _ _ _ y => y = h ∧ ¬ (n > 0 ∧ (n > 1048576 ∨ (x.used : Int) + 64 * n > x.quota)), ?_, ?_⟩
    · rintro _ _ _ _ _ _ y ⟨rfl, g2⟩
      exact fin g1 g2
    · refine split_dec (fun g2 => split_dec (fun g3 => ⟨Sub.refl _, ?_⟩) fun g3 => usedR_spec R ⟨_, rfl, Sub.refl _, split_dec (fun g4 => ?_) fun g4 => ⟨rfl, ?_⟩⟩) fun g2 => ⟨Sub.refl _, rfl, ?_⟩
      · rw [if_pos ⟨g2, .inl g3⟩] at N; exact N.same R (Sub.refl h)
      · rw [wid (x := 64 * n) (by omega) (by omega), wid (by unfold Led.used; omega) (by unfold Led.used; omega)] at g4
        rw [if_pos ⟨g2, .inr g4⟩] at N; exact N.same R (Sub.refl h)
      · rw [wid (x := 64 * n) (by omega) (by omega), wid (by unfold Led.used; omega) (by unfold Led.used; omega)] at g4
        rintro ⟨_, g5 | g5⟩
        · exact g3 g5
        · exact g4 g5
      · rintro ⟨g5, _⟩
        exact g2 g5
  refine split_dec (fun g0 => split_dec (fun g1 => ?_) fun g1 => rest g1) fun g0 => rest (by omega)
  rw [if_pos g1] at N; exact N.same R (Sub.refl h)
theorem cell_sub {h h' : Hp} {b o : Nat} {v : Value} (e : h.cell b o = some v) (s : Sub h h') : h'.cell b o = some v := by
  unfold Hp.cell at e ⊢
  split at e
  · rename_i hb; rw [s _ _ hb]; exact e
  · cases e
theorem _root_.Go.Gx.NewR.refAt {h' : Hp} {a' : Option Addr} {c' : Nat} {y : Led} (N : NewR hdC 4 tHeld h h' a' c' y.l) (ok : LedOk y) (hl : y.l.length < 1073741824) : RefAt h' y a' c' := ⟨N.own.row, N.own.le, ok, hl⟩
theorem dropR_spec (R : RefAt h x a c) (hl : x.l.length < 1000000) (sum : ByteArray) (n : Int) (hcnt : ∀ d ∈ x.l, d.count < 9223372036854775807) (N : NextR h a (x.drop sum n) K) : CallsH Try.prog ref22_Drop.id #[refV x a c, .agg #[.string sum, .int .i64 n]] h K := by
  apply ref22_Drop.calls
  unfold ref22_Drop.W
  unfold Led.drop at N
  refine at_spec R.row (by omega) sum n ⟨_, rfl, ?_⟩
  cases hf : atH x.l sum n with
  | none =>
    rw [hf] at N
    rw [atV_none hf]
    exact split_not (fun _ => N.same R (Sub.refl h)) fun _ => split_dec (fun _ => N.same R (Sub.refl h)) fun e => absurd (by decide) e
  | some d =>
    rw [hf] at N
    obtain ⟨e1, hlt⟩ := atV_some hf
    rw [e1]
    obtain ⟨hd, hsum, hnn⟩ := atH_mem hf
    have hix := atH_ix hf
    have his := is_of R.ok hd
    have hco := R.ok.count d hd
    have hcn := hcnt d hd
    generalize ixH x.l sum n = i at hlt hix N
    have hcap := R.cap
    have w1 : IntKind.i64.wrap ((i : Int) + 1) = ((i + 1 : Nat) : Int) := by rw [wid (by omega) (by omega)]; omega
    have t1 : ((i + 1 : Nat) : Int).toNat = i + 1 := rfl
    have t0 : ((i : Nat) : Int).toNat = i := rfl
    have hp1 := R.row.part hdC_len (c := c) (i := 0) (n := i) hcap (by omega)
    have hp2 := R.row.part hdC_len (c := c) (i := i + 1) (n := x.l.length - (i + 1)) hcap (by omega)
    rw [List.drop_zero] at hp1
    rw [List.take_of_length_le (by rw [List.length_drop]; exact Nat.le_refl _)] at hp2
    unfold RowAt at hp1 hp2
    rw [List.length_take, Nat.min_eq_left (by omega)] at hp1
    rw [List.length_drop] at hp2
    obtain ⟨b, o, ea, hc⟩ := R.row.get hdC_len (by decide) hix
    refine split_not (fun e => by rw [his] at e; cases e) fun _ => split_dec (fun e => by omega) fun _ => ⟨by omega, by show (i : Int) ≤ (c : Int); omega, _, hp1, ?_⟩
    rw [w1, t1, t0]
    have fin : ∀ (y : Led) (M : List Hd), LedOk y → y.l = M ++ x.l.drop (i + 1) → M.length ≤ x.l.length → NextR h a (y, 0) K → y.is = x.is → y.quota = x.quota → y.records = x.records → ∀ a' l' c' z, l' = M.length → NewR hdC 4 tHeld h z a' c' M →
        (0 ≤ ((i + 1 : Nat) : Int) ∧ ((i + 1 : Nat) : Int) ≤ Int.ofNat x.l.length ∧ ∃ xs, SliceAt z (slA c (i + 1) 4 a) ((x.l.length - (i + 1)) * 4) xs ∧ ∃ J : Option Addr → Nat → Hp → Prop, (∀ a2 c2 z2, J a2 c2 z2 → K (.tuple #[.agg #[.bool x.is, .int .i64 x.quota, .int .i64 x.records, .slice a2 (l' + (x.l.length - (i + 1))) c2], .int .i64 0]) z2) ∧ appendC Try.prog 54 a' l' c' z xs (x.l.length - (i + 1)) J) := by
      intro y M ok hy hM NN g1 g2 g3 a' l' c' z hl' Nz
      refine ⟨by omega, by show ((i + 1 : Nat) : Int) ≤ (x.l.length : Int); omega, _, hp2.sub Nz.sub, fun a2 c2 z2 => NewR hdC 4 tHeld h z2 a2 c2 y.l, fun a2 c2 z2 N2 => ?_, ?_⟩
      · have hlen : y.l.length = l' + (x.l.length - (i + 1)) := by rw [hy, List.length_append, List.length_drop, hl']
        have := NN z2 a2 c2 N2.sub (N2.refAt ok (by omega)) fun b hb => .inr (N2.new b hb)
        unfold refV at this
        simp only [g1, g2, g3, hlen] at this
        exact this
      · refine append_row appTHeld hdC_len hdC_plain (L := M) (M := x.l.drop (i + 1)) Nz hl' (by rw [List.length_drop]) rfl (by rw [List.length_drop]; omega) fun a2 c2 z2 N2 => ?_
        rw [hy]; exact N2
    refine ⟨fun a' c' z => NewR hdC 4 tHeld h z a' c' (x.l.take i), fun a' c' z Nz => ?_, append_row appTHeld hdC_len hdC_plain (L := []) (M := x.l.take i) (NewR.nil _ _) rfl (by rw [List.length_take]; omega) rfl (by rw [List.length_take, List.length_nil]; omega) fun a' c' z Nz => Nz⟩
    have hlt' : (x.l.take i).length = i := by rw [List.length_take]; omega
    have N' : NextR h a (if d.count = 1 then (x.del i, 0) else (x.set i (d.count - 1), 0)) K := N
    refine ⟨fun a' l' c' z => (d.count = 1 ∧ l' = i ∧ NewR hdC 4 tHeld h z a' c' (x.l.take i)) ∨ (d.count ≠ 1 ∧ l' = i + 1 ∧ NewR hdC 4 tHeld h z a' c' (x.l.take i ++ [{ d with count := d.count - 1 }])), ?_, by omega, by show (i : Int) < (x.l.length : Int); omega, b, o, ea, _, cell_sub (hc 2 _ rfl) Nz.sub, split_dec (fun e => ?_) fun e => ?_⟩
    · rintro a' l' c' z (⟨g1, rfl, Nz⟩ | ⟨g1, rfl, Nz⟩)
      · rw [if_pos g1] at N'
        exact fin (x.del l') (x.l.take l') (R.ok.del hix) rfl (by rw [List.length_take]; omega) N' rfl rfl rfl a' _ c' z (by rw [hlt']) Nz
      · rw [if_neg g1] at N'
        exact fin (x.set i (d.count - 1)) _ (R.ok.set hix (by omega)) (by show setH x.l i _ = _; rw [setH_is hix, List.append_assoc]; rfl) (by rw [List.length_append, List.length_take]; simp; omega) N' rfl rfl rfl a' _ c' z (by rw [List.length_append, hlt']; rfl) Nz
    · have e : d.count ≠ 1 := by have e : (d.count : Int) > 1 := e; omega
      refine ⟨by omega, by show (i : Int) < (x.l.length : Int); omega, b, o, ea, _, cell_sub (hc 2 _ rfl) Nz.sub, by omega, by show (i : Int) < (x.l.length : Int); omega, b, o, ea, _, cell_sub (hc 3 _ rfl) Nz.sub, fun k hk => ⟨hdC { d with count := d.count - 1 }, ?_, fun a2 c2 z2 => NewR hdC 4 tHeld h z2 a2 c2 (x.l.take i ++ [{ d with count := d.count - 1 }]), fun a2 c2 z2 N2 => .inr ⟨e, by omega, N2⟩, ?_⟩⟩
      · have w2 : IntKind.i64.wrap ((d.count : Int) - 1) = ((d.count - 1 : Nat) : Int) := by rw [wid (by omega) (by omega)]; omega
        rw [w2, ← hsum, ← hnn]
        exact (Blk.new _ _ _ (hdC { d with count := d.count - 1 })).slice rfl
      · exact append_row appTHeld hdC_len hdC_plain (M := [{ d with count := d.count - 1 }]) (Nz.upd (Sub.upd hk _)) (by rw [hlt']; omega) rfl (rowC_one _).symm (by rw [hlt']; simp; omega) fun a2 c2 z2 N2 => N2
    · have e : d.count = 1 := by have e : ¬ (d.count : Int) > 1 := e; omega
      exact .inl ⟨e, by omega, Nz⟩
end Go.Proofs.Ytlklpdedppgkfaa
