/- The functions of package limit on single buckets, and those of the document: what they compute, in plain formulas. Conditions: the ranges that each contract names. -/
import Derived.Test.YtiohianbhjjolaaL1
namespace Go.Proofs.Ytiohianbhjjolaa
open Go.Gx

theorem on_min {r p u c t now : Int} (h : ltB r p u c t) (hn : t ≤ now) : onC r p u c t now = if c + (now - t) * r > u * p then u * p else c + (now - t) * r := by
  obtain ⟨hm, ht, hc1, hc2⟩ := h
  have hr := hm.1
  unfold onC
  by_cases h1 : now ≤ t
  · have e : now - t = 0 := by omega
    rw [if_pos h1, e, Int.zero_mul, Int.add_zero, if_neg (by omega)]
  · rw [if_neg h1]
    have hx : (u * p - c).tdiv r = (u * p - c) / r := Int.tdiv_eq_ediv_of_nonneg (by omega)
    rw [hx]
    have key : (u * p - c) / r < now - t ↔ u * p - c < (now - t) * r := Int.ediv_lt_iff_lt_mul (by omega)
    by_cases h2 : u * p - c < (now - t) * r
    · rw [if_pos (key.2 h2), if_pos (by omega)]
    · rw [if_neg (fun h => h2 (key.1 h)), if_neg (by omega)]
theorem on_more {r p u c t now k : Int} (h : ltB r p u c t) (hn : t ≤ now) (hk : 0 ≤ k) : onC r p u c t (now + k) = if onC r p u c t now + k * r > u * p then u * p else onC r p u c t now + k * r := by
  rw [on_min h hn, on_min h (show t ≤ now + k by omega)]
  obtain ⟨hm, ht, hc1, hc2⟩ := h
  have hr := hm.1
  have e : (now + k - t) * r = (now - t) * r + k * r := by rw [← Int.add_mul]; congr 1; omega
  have hk' : 0 ≤ k * r := Int.mul_nonneg hk (by omega)
  rw [e]
  split <;> split <;> split <;> omega
def unt (r p u c t now : Int) : Int := if ltB r p u c t ∧ now ≤ 1099511627776 then (onC r p u c t now).tdiv p else 0
theorem per_div {p u : Int} {r c t now : Int} (h : ltB r p u c t) (hn : now ≤ 1099511627776) : 0 ≤ (onC r p u c t now).tdiv p ∧ (onC r p u c t now).tdiv p ≤ 1099511627776 ∧ (∀ n, (onC r p u c t now).tdiv p < n ↔ onC r p u c t now < n * p) := by
  have hl := on_law h hn
  have hb := up_bound h.1
  have hp := h.1.2.1
  rw [Int.tdiv_eq_ediv_of_nonneg hl.1]
  refine ⟨Int.ediv_nonneg hl.1 (by omega), ?_, fun n => Int.ediv_lt_iff_lt_mul (by omega)⟩
  have := Int.ediv_le_self p hl.1
  omega
theorem units_spec (r p u c t now : Int) {h : Hp} {K : Value → Hp → Prop} (hK : K (.int .i64 (unt r p u c t now)) h) :
    CallsH Try.prog 15 #[.agg #[.int .i64 r, .int .i64 p, .int .i64 u, .int .i64 c, .int .i64 t], .int .i64 now] h K := by
  apply limit_Units.calls
  unfold limit_Units.W
  refine may_spec _ _ _ _ _ ⟨_, rfl, split_cond (fun e1 => ?_) (fun e1 => split_cond (fun e2 => ?_) (fun e2 => ?_))⟩
  · have : unt r p u c t now = 0 := if_neg fun hx => by simp [hx.1] at e1
    rw [this] at hK; exact hK
  · have e2 := of_decide_eq_true e2
    have : unt r p u c t now = 0 := if_neg fun hx => by omega
    rw [this] at hK; exact hK
  · have e1 : ltB r p u c t := by simpa using e1
    have e2 : now ≤ 1099511627776 := by simpa using e2
    have : unt r p u c t now = (onC r p u c t now).tdiv p := if_pos ⟨e1, e2⟩
    rw [this] at hK
    refine on_spec e1 e2 ⟨_, _, _, _, _, rfl, fun _ _ e => e, fun h0 => ?_, ?_⟩
    · have := e1.1.2.1; omega
    · have := per_div e1 e2
      rw [wid (by omega) (by omega)]; exact hK
/-- What Give makes of it. -/
def gvC (p u n C : Int) : Int := if C + (if n > u then u else n) * p > u * p then u * p else C + (if n > u then u else n) * p
def giv (r p u c t n now : Int) (F : Value → Int → Prop) : Prop :=
  if chk r p u c t n now ≠ 0 then F zeroB (chk r p u c t n now) else F (mkB r p u (gvC p u n (onC r p u c t now)) (onT t now)) 0
theorem chk_zero {r p u c t n now : Int} (e : chk r p u c t n now = 0) : ltB r p u c t ∧ 0 ≤ n ∧ ltT now ∧ t ≤ now := by
  unfold chk at e
  by_cases hx : ltB r p u c t ∧ 0 ≤ n ∧ ltT now
  · rw [if_neg (fun h => h hx)] at e
    by_cases h2 : now < t
    · rw [if_pos h2] at e; cases e
    · exact ⟨hx.1, hx.2.1, hx.2.2, by omega⟩
  · rw [if_pos hx] at e; cases e
theorem gv_bound {r p u c t n now : Int} (h : ltB r p u c t) (hn : 0 ≤ n) (_ : now ≤ 1099511627776) : 0 ≤ (if n > u then u else n) * p ∧ (if n > u then u else n) * p ≤ u * p := by
  have hp := h.1.2.1
  have hu := h.1.2.2
  split
  · exact ⟨Int.mul_nonneg (by omega) (by omega), Int.le_refl _⟩
  · exact ⟨Int.mul_nonneg hn (by omega), Int.mul_le_mul_of_nonneg_right (by omega) (by omega)⟩
theorem give_spec (r p u c t n now : Int) {h : Hp} {K : Value → Hp → Prop} (hK : giv r p u c t n now fun b e => K (.tuple #[b, .int .i64 e]) h) :
    CallsH Try.prog 17 #[.agg #[.int .i64 r, .int .i64 p, .int .i64 u, .int .i64 c, .int .i64 t], .int .i64 n, .int .i64 now] h K := by
  unfold giv at hK
  apply limit_Give.calls
  unfold limit_Give.W
  refine check_spec _ _ _ _ _ _ _ ⟨_, rfl, split_cond (fun e1 => ?_) (fun e1 => ?_)⟩
  · have e1 : chk r p u c t n now ≠ 0 := by simpa using e1
    rw [if_pos e1] at hK; exact hK
  · have e1 : chk r p u c t n now = 0 := by simpa using e1
    rw [if_neg (by simp [e1])] at hK
    obtain ⟨hB, hn, hT, _⟩ := chk_zero e1
    have hl := on_law hB hT.2
    refine on_spec hB hT.2 ⟨_, _, _, _, _, rfl, ?_⟩
    have hb := up_bound hB.1
    have hg := gv_bound hB hn hT.2
    have ei : (if u < n then u else n) = if n > u then u else n := rfl
    rw [ei, wid (x := (if n > u then u else n) * p) (by omega) (by omega), wid (x := u * p) (by omega) (by omega), wid (by omega) (by omega)]
    exact hK
def wai (r p u c t n now : Int) (F : Int → Int → Prop) : Prop :=
  if chk r p u c t n now ≠ 0 then F 0 (chk r p u c t n now) else if n > u then F 0 9 else
  if ((if 0 > n * p - onC r p u c t now then 0 else n * p - onC r p u c t now) + r - 1) / r > 1099511627776 - now then F 0 5 else F (((if 0 > n * p - onC r p u c t now then 0 else n * p - onC r p u c t now) + r - 1) / r) 0
theorem wait_spec (r p u c t n now : Int) {h : Hp} {K : Value → Hp → Prop} (hK : wai r p u c t n now fun d e => K (.tuple #[.int .i64 d, .int .i64 e]) h) :
    CallsH Try.prog 21 #[.agg #[.int .i64 r, .int .i64 p, .int .i64 u, .int .i64 c, .int .i64 t], .int .i64 n, .int .i64 now] h K := by
  unfold wai at hK
  apply limit_Wait.calls
  unfold limit_Wait.W
  refine check_spec _ _ _ _ _ _ _ ⟨_, rfl, split_cond (fun e1 => ?_) (fun e1 => split_cond (fun e2 => ?_) (fun e2 => ?_))⟩
  · have e1 : chk r p u c t n now ≠ 0 := by simpa using e1
    rw [if_pos e1] at hK; exact hK
  · have e1 : chk r p u c t n now = 0 := by simpa using e1
    have e2 := of_decide_eq_true e2
    rw [if_neg (by simp [e1]), if_pos e2] at hK; exact hK
  · have e1 : chk r p u c t n now = 0 := by simpa using e1
    have e2 := of_decide_eq_false e2
    rw [if_neg (by simp [e1]), if_neg e2] at hK
    obtain ⟨hB, hn, hT, _⟩ := chk_zero e1
    have hl := on_law hB hT.2
    refine on_spec hB hT.2 ⟨_, _, _, _, _, rfl, (fun _ _ e => e), fun h0 => ?_, ?_⟩
    · have := hB.1.1; omega
    have hb := up_bound hB.1
    have hp := hB.1.2.1
    have hr := hB.1.1
    have h3 : n * p ≤ u * p := Int.mul_le_mul_of_nonneg_right (by omega) (by omega)
    have h4 : 0 ≤ n * p := Int.mul_nonneg hn (by omega)
    have hT1 := hT.1
    have hT2 := hT.2
    rw [wid (x := n * p) (by omega) (by omega), wid (x := n * p - onC r p u c t now) (by omega) (by omega)]
    generalize hlk : (if 0 > n * p - onC r p u c t now then 0 else n * p - onC r p u c t now) = lack at hK ⊢
    have hlk1 : 0 ≤ lack ∧ lack ≤ 1099511627776 := by
      subst hlk; split <;> omega
    have hd1 : 0 ≤ (lack + r - 1) / r := Int.ediv_nonneg (by omega) (by omega)
    have hd2 : (lack + r - 1) / r ≤ lack + r - 1 := Int.ediv_le_self _ (by omega)
    rw [wid (x := lack + r) (by omega) (by omega), wid (x := lack + r - 1) (by omega) (by omega), Int.tdiv_eq_ediv_of_nonneg (show 0 ≤ lack + r - 1 by omega), wid (x := (lack + r - 1) / r) (by omega) (by omega), wid (x := 1099511627776 - now) (by omega) (by omega)]
    refine split_cond (fun e3 => ?_) (fun e3 => ?_)
    · have e3 := of_decide_eq_true e3
      rw [if_pos e3] at hK; exact hK
    · have e3 := of_decide_eq_false e3
      rw [if_neg e3] at hK; exact hK

/-! ### the document's -/
theorem right_spec (r p u : Int) {h : Hp} {K : Value → Hp → Prop} (hK : K (.bool (decide (ltM r p u))) h) : CallsH Try.prog 12 #[.int .i64 r, .int .i64 p, .int .i64 u] h K := by
  apply ref24_Right.calls
  unfold ref24_Right.W
  refine split_cond (fun h1 => split_cond (fun h2 => split_cond (fun h3 => split_cond (fun h4 => split_cond (fun h5 => ?_) (fun h5 => ?_)) (fun h4 => ?_)) (fun h3 => ?_)) (fun h2 => ?_)) (fun h1 => ?_)
  all_goals simp only [decide_eq_true_eq, decide_eq_false_iff_not] at *
  · have e : decide (u ≤ 1048576) = decide (ltM r p u) := decide_eq_decide.2 ⟨fun h6 => ⟨⟨h1, h2⟩, ⟨h3, h4⟩, h5, h6⟩, fun hx => hx.2.2.2⟩
    rw [e]; exact hK
  all_goals
    have e : decide (ltM r p u) = false := decide_eq_false fun hx => by have h1 := hx.1; have h2 := hx.2; omega
    rw [e] at hK; exact hK
theorem rtick_spec (t : Int) {h : Hp} {K : Value → Hp → Prop} (hK : K (.bool (decide (ltT t))) h) : CallsH Try.prog 13 #[.int .i64 t] h K := by
  apply ref24_Tick.calls
  unfold ref24_Tick.W
  refine split_cond (fun h1 => ?_) (fun h1 => ?_)
  all_goals simp only [decide_eq_true_eq, decide_eq_false_iff_not] at *
  · have e : decide (t ≤ 1099511627776) = decide (ltT t) := decide_eq_decide.2 ⟨fun h6 => ⟨h1, h6⟩, fun hx => hx.2⟩
    rw [e]; exact hK
  · have e : decide (ltT t) = false := decide_eq_false fun hx => by have h1 := hx.1; omega
    rw [e] at hK; exact hK
theorem rmay_spec (r p u c t : Int) {h : Hp} {K : Value → Hp → Prop} (hK : K (.bool (decide (ltB r p u c t))) h) : CallsH Try.prog 14 #[.agg #[.int .i64 r, .int .i64 p, .int .i64 u, .int .i64 c, .int .i64 t]] h K := by
  apply ref24_May.calls
  unfold ref24_May.W
  refine right_spec _ _ _ ⟨_, rfl, split_cond (fun h1 => rtick_spec _ ⟨_, rfl, split_cond (fun h2 => split_cond (fun h3 => ?_) (fun h3 => ?_)) (fun h2 => ?_)⟩) (fun h1 => ?_)⟩
  all_goals simp only [decide_eq_true_eq, decide_eq_false_iff_not] at *
  · have hb := up_bound h1
    rw [wid (by omega) (by omega)]
    have e : decide (c ≤ u * p) = decide (ltB r p u c t) := by
      simp only [decide_eq_decide]; exact ⟨fun h4 => ⟨h1, h2, h3, h4⟩, fun hx => hx.2.2.2⟩
    rw [e]; exact hK
  · have e : decide (ltB r p u c t) = false := decide_eq_false fun hx => h3 hx.2.2.1
    rw [e] at hK; exact hK
  · have e : decide (ltB r p u c t) = false := decide_eq_false fun hx => h2 hx.2.1
    rw [e] at hK; exact hK
  · have e : decide (ltB r p u c t) = false := decide_eq_false fun hx => h1 hx.1
    rw [e] at hK; exact hK
theorem ron_spec {r p u c t now : Int} (hB : ltB r p u c t) (hn : now ≤ 1099511627776) {h : Hp} {K : Value → Hp → Prop} (hK : K (mkB r p u (onC r p u c t now) (onT t now)) h) :
    CallsH Try.prog 29 #[.agg #[.int .i64 r, .int .i64 p, .int .i64 u, .int .i64 c, .int .i64 t], .int .i64 now] h K := by
  apply ref24_On.calls
  unfold ref24_On.W
  refine split_cond (fun h1 => ?_) (fun h1 => ?_)
  · have h1 := of_decide_eq_true h1
    have e1 : onC r p u c t now = c := if_pos h1
    have e2 : onT t now = t := if_pos h1
    rw [e1, e2] at hK; exact hK
  · have h1 := of_decide_eq_false h1
    have e2 : onT t now = now := if_neg h1
    rw [e2, on_min hB (by omega)] at hK
    obtain ⟨hm, ht, hc1, hc2⟩ := hB
    have hb := up_bound hm
    have hr := hm.1
    have ht1 : 0 ≤ t := ht.1
    have h3 : 0 ≤ (now - t) * r := Int.mul_nonneg (by omega) (by omega)
    have h4 : (now - t) * r ≤ 1099511627776 * 1048576 := Int.mul_le_mul (by omega) (by omega) (by omega) (by omega)
    rw [wid (x := now - t) (by omega) (by omega), wid (x := (now - t) * r) (by omega) (by omega), wid (x := c + (now - t) * r) (by omega) (by omega), wid (x := u * p) (by omega) (by omega)]
    refine split_cond (fun e3 => ?_) (fun e3 => ?_)
    · have e3 := of_decide_eq_true e3
      rw [if_pos e3] at hK; exact hK
    · have e3 := of_decide_eq_false e3
      rw [if_neg e3] at hK; exact hK
theorem runits_spec (r p u c t now : Int) {h : Hp} {K : Value → Hp → Prop} (hK : K (.int .i64 (unt r p u c t now)) h) :
    CallsH Try.prog 20 #[.agg #[.int .i64 r, .int .i64 p, .int .i64 u, .int .i64 c, .int .i64 t], .int .i64 now] h K := by
  apply ref24_Units.calls
  unfold ref24_Units.W
  refine rmay_spec _ _ _ _ _ ⟨_, rfl, split_cond (fun e1 => ?_) (fun e1 => split_cond (fun e2 => ?_) (fun e2 => ?_))⟩
  · have : unt r p u c t now = 0 := if_neg fun hx => by simp [hx.1] at e1
    rw [this] at hK; exact hK
  · have e2 := of_decide_eq_true e2
    have : unt r p u c t now = 0 := if_neg fun hx => by omega
    rw [this] at hK; exact hK
  · have e1 : ltB r p u c t := by simpa using e1
    have e2 : now ≤ 1099511627776 := by simpa using e2
    have : unt r p u c t now = (onC r p u c t now).tdiv p := if_pos ⟨e1, e2⟩
    rw [this] at hK
    refine ron_spec e1 e2 ⟨_, _, _, _, _, rfl, fun _ _ e => e, fun h0 => ?_, ?_⟩
    · have := e1.1.2.1; omega
    · have := per_div e1 e2
      rw [wid (by omega) (by omega)]; exact hK
theorem why_spec (r p u c t n now : Int) {h : Hp} {K : Value → Hp → Prop} (hK : K (.int .i64 (chk r p u c t n now)) h) :
    CallsH Try.prog 28 #[.agg #[.int .i64 r, .int .i64 p, .int .i64 u, .int .i64 c, .int .i64 t], .int .i64 n, .int .i64 now] h K := by
  apply ref24_why.calls
  unfold ref24_why.W
  refine rmay_spec _ _ _ _ _ ⟨_, rfl, split_cond (fun e1 => ?_) (fun e1 => split_cond (fun e2 => ?_) (fun e2 => rtick_spec _ ⟨_, rfl, split_cond (fun e3 => ?_) (fun e3 => split_cond (fun e4 => ?_) (fun e4 => ?_))⟩))⟩
  · have : chk r p u c t n now = 1 := if_pos fun hx => by simp [hx.1] at e1
    rw [this] at hK; exact hK
  · have e2 := of_decide_eq_true e2
    have : chk r p u c t n now = 1 := if_pos fun hx => by omega
    rw [this] at hK; exact hK
  · have : chk r p u c t n now = 1 := if_pos fun hx => by simp [hx.2.2] at e3
    rw [this] at hK; exact hK
  all_goals
    have e1 : ltB r p u c t := by simpa using e1
    have e2 := of_decide_eq_false e2
    have e3 : ltT now := by simpa using e3
    have h0 : chk r p u c t n now = if now < t then 8 else 0 := if_neg fun hx => hx ⟨e1, by omega, e3⟩
  · have e4 := of_decide_eq_true e4
    rw [h0, if_pos e4] at hK; exact hK
  · have e4 := of_decide_eq_false e4
    rw [h0, if_neg e4] at hK; exact hK
theorem rtake_spec (r p u c t n now : Int) {h : Hp} {K : Value → Hp → Prop} (hK : tak r p u c t n now fun b e => K (.tuple #[b, .int .i64 e]) h) :
    CallsH Try.prog 16 #[.agg #[.int .i64 r, .int .i64 p, .int .i64 u, .int .i64 c, .int .i64 t], .int .i64 n, .int .i64 now] h K := by
  unfold tak at hK
  apply ref24_Take.calls
  unfold ref24_Take.W
  refine why_spec _ _ _ _ _ _ _ ⟨_, rfl, fun e x => x = h ∧ ((chk r p u c t n now ≠ 0 ∧ e = chk r p u c t n now) ∨ (chk r p u c t n now = 0 ∧ n > u ∧ e = 9) ∨ (chk r p u c t n now = 0 ∧ n ≤ u ∧ e = 0)), fun e x hJ => ?_, ?_⟩
  · obtain ⟨rfl, hJ⟩ := hJ
    rcases hJ with ⟨e1, rfl⟩ | ⟨e1, e2, rfl⟩ | ⟨e1, e2, rfl⟩
    · refine split_cond (fun _ => ?_) (fun hx => absurd (by simpa using hx) e1)
      rw [if_pos e1] at hK; exact hK
    · refine split_cond (fun _ => ?_) (fun hx => absurd hx (by decide))
      rw [if_neg (by simp [e1]), if_pos e2] at hK; exact hK
    · refine split_cond (fun hx => absurd hx (by decide)) (fun _ => ?_)
      rw [if_neg (by simp [e1]), if_neg (by omega)] at hK
      obtain ⟨hB, hn, hT, _⟩ := chk_zero e1
      have hl := on_law hB hT.2
      refine ron_spec hB hT.2 ⟨_, _, _, _, _, rfl, fun h0 => ?_, ?_⟩
      · have := hB.1.2.1; omega
      have hb := up_bound hB.1
      have hp := hB.1.2.1
      have h3 : n * p ≤ u * p := Int.mul_le_mul_of_nonneg_right (by omega) (by omega)
      have h4 : 0 ≤ n * p := Int.mul_nonneg hn (by omega)
      have hd := per_div hB hT.2
      rw [wid (x := (onC r p u c t now).tdiv p) (by omega) (by omega), wid (x := n * p) (by omega) (by omega), wid (x := onC r p u c t now - n * p) (by omega) (by omega)]
      refine split_cond (fun e3 => ?_) (fun e3 => ?_)
      · have e3 := (hd.2.2 n).1 (of_decide_eq_true e3)
        rw [if_pos e3] at hK; exact hK
      · have e3 := fun x => of_decide_eq_false e3 ((hd.2.2 n).2 x)
        rw [if_neg e3] at hK; exact hK
  · refine split_cond (fun e1 => split_cond (fun e2 => ?_) (fun e2 => ?_)) (fun e1 => ?_)
    · exact ⟨rfl, .inr (.inl ⟨by simpa using e1, of_decide_eq_true e2, rfl⟩)⟩
    · have e1 : chk r p u c t n now = 0 := by simpa using e1
      exact ⟨rfl, .inr (.inr ⟨e1, by simpa using e2, e1⟩)⟩
    · exact ⟨rfl, .inl ⟨by simpa using e1, rfl⟩⟩
theorem rgive_spec (r p u c t n now : Int) {h : Hp} {K : Value → Hp → Prop} (hK : giv r p u c t n now fun b e => K (.tuple #[b, .int .i64 e]) h) :
    CallsH Try.prog 18 #[.agg #[.int .i64 r, .int .i64 p, .int .i64 u, .int .i64 c, .int .i64 t], .int .i64 n, .int .i64 now] h K := by
  unfold giv at hK
  apply ref24_Give.calls
  unfold ref24_Give.W
  refine why_spec _ _ _ _ _ _ _ ⟨_, rfl, split_cond (fun e1 => ?_) (fun e1 => ?_)⟩
  · have e1 : chk r p u c t n now ≠ 0 := by simpa using e1
    rw [if_pos e1] at hK; exact hK
  · have e1 : chk r p u c t n now = 0 := by simpa using e1
    rw [if_neg (by simp [e1])] at hK
    obtain ⟨hB, hn, hT, _⟩ := chk_zero e1
    have hl := on_law hB hT.2
    have hb := up_bound hB.1
    have hg := gv_bound hB hn hT.2
    refine ron_spec hB hT.2 ⟨_, _, _, _, _, rfl, fun m x => m = (if n > u then u else n) ∧ x = h, fun m x hJ => ?_, ?_⟩
    · obtain ⟨rfl, rfl⟩ := hJ
      unfold gvC at hK
      generalize hm : (if n > u then u else n) = m at hK hg ⊢
      rw [wid (x := m * p) (by omega) (by omega), wid (x := u * p) (by omega) (by omega), wid (by omega) (by omega)]
      refine split_cond (fun e3 => ?_) (fun e3 => ?_)
      · have e3 := of_decide_eq_true e3
        rw [if_pos e3] at hK; exact hK
      · have e3 := of_decide_eq_false e3
        rw [if_neg e3] at hK; exact hK
    · refine split_cond (fun e2 => ?_) (fun e2 => ?_)
      · have e2 := of_decide_eq_true e2
        exact ⟨(if_pos e2).symm, rfl⟩
      · have e2 := of_decide_eq_false e2
        exact ⟨(if_neg e2).symm, rfl⟩
theorem rwait_spec {r p u c t n now d : Int} (_ : ltB r p u c t) (hT : ltT now) (hd : 0 ≤ d) (hd2 : d ≤ 1099511627776 - now) {h : Hp} {K : Value → Hp → Prop}
    (h1 : n ≤ unt r p u c t (now + d)) (h2 : d = 0 ∨ unt r p u c t (now + d - 1) < n) (hK : K (.bool true) h) :
    CallsH Try.prog 22 #[.agg #[.int .i64 r, .int .i64 p, .int .i64 u, .int .i64 c, .int .i64 t], .int .i64 n, .int .i64 now, .int .i64 d] h K := by
  have hT1 := hT.1
  have hT2 := hT.2
  apply ref24_Wait.calls
  unfold ref24_Wait.W
  rw [wid (x := 1099511627776 - now) (by omega) (by omega), wid (x := now + d) (by omega) (by omega), wid (x := now + d - 1) (by omega) (by omega)]
  refine split_cond (fun _ => split_cond (fun _ => runits_spec _ _ _ _ _ _ ⟨_, rfl, split_cond (fun _ => split_cond (fun e => hK) (fun e => runits_spec _ _ _ _ _ _ ⟨_, rfl, ?_⟩)) (fun e => absurd h1 (of_decide_eq_false e))⟩) (fun e => absurd hd2 (of_decide_eq_false e))) (fun e => absurd hd (of_decide_eq_false e))
  have e : d ≠ 0 := by simpa using e
  have : decide (unt r p u c t (now + d - 1) < n) = true := decide_eq_true (by rcases h2 with h2 | h2; exact absurd h2 e; exact h2)
  rw [this]; exact hK
theorem mine_spec (r p u c t : Int) {h : Hp} {K : Value → Hp → Prop} (hK : K (mkB r p u c t) h) : CallsH Try.prog 11 #[.agg #[.int .i64 r, .int .i64 p, .int .i64 u, .int .i64 c, .int .i64 t]] h K := by
  apply law24_mine.calls
  exact hK
theorem theirs_spec (r p u c t : Int) {h : Hp} {K : Value → Hp → Prop} (hK : K (mkB r p u c t) h) : CallsH Try.prog 19 #[.agg #[.int .i64 r, .int .i64 p, .int .i64 u, .int .i64 c, .int .i64 t]] h K := by
  apply law24_theirs.calls
  exact hK
end Go.Proofs.Ytiohianbhjjolaa
