/- The functions of package limit on single buckets compute what plain formulas say. Conditions: the ranges that each contract names. -/
import Derived.Test.YtagglohkipioiaaFL2
import Derived.Test.YtagglohkipioiaaN2
namespace Go.Proofs.Ytagglohkipioiaa
open Go.Gx

def ltM (r p u : Int) : Prop := (1 ≤ r ∧ r ≤ 1048576) ∧ (1 ≤ p ∧ p ≤ 1048576) ∧ 1 ≤ u ∧ u ≤ 1048576
instance (r p u : Int) : Decidable (ltM r p u) := by unfold ltM; infer_instance
def ltT (t : Int) : Prop := 0 ≤ t ∧ t ≤ 1099511627776
instance (t : Int) : Decidable (ltT t) := by unfold ltT; infer_instance
def ltB (r p u c t : Int) : Prop := ltM r p u ∧ ltT t ∧ 0 ≤ c ∧ c ≤ u * p
instance (r p u c t : Int) : Decidable (ltB r p u c t) := by unfold ltB; infer_instance
theorem up_bound {r p u : Int} (h : ltM r p u) : 1 ≤ u * p ∧ u * p ≤ 1099511627776 := by
  obtain ⟨_, ⟨p1, p2⟩, u1, u2⟩ := h
  have h1 : 1 * 1 ≤ u * p := Int.mul_le_mul u1 p1 (by omega) (by omega)
  have h2 : u * p ≤ 1048576 * 1048576 := Int.mul_le_mul u2 p2 (by omega) (by omega)
  omega

theorem within_spec (n f t : Int) {h : Hp} {K : Value → Hp → Prop} (hK : K (.bool (decide (f ≤ n ∧ n ≤ t))) h) : CallsH Try.prog limit_within.id #[.int .i64 n, .int .i64 f, .int .i64 t] h K := by
  apply limit_within.calls
  unfold limit_within.W
  try simp only [hb_eq]
  refine split_cond (fun hc => ?_) (fun hc => ?_)
  · have hc := of_decide_eq_true hc
    have e : decide (n ≤ t) = decide (f ≤ n ∧ n ≤ t) := by simp; omega
    rw [e]; exact hK
  · have hc := of_decide_eq_false hc
    have e : false = decide (f ≤ n ∧ n ≤ t) := by simp; omega
    rw [e]; exact hK
theorem tick_spec (t : Int) {h : Hp} {K : Value → Hp → Prop} (hK : K (.bool (decide (ltT t))) h) : CallsH Try.prog limit_tick.id #[.int .i64 t] h K := by
  apply limit_tick.calls
  unfold limit_tick.W
  try simp only [hb_eq]
  exact within_spec _ _ _ ⟨_, rfl, hK⟩
theorem mmay_spec (r p u : Int) {h : Hp} {K : Value → Hp → Prop} (hK : K (.bool (decide (ltM r p u))) h) : CallsH Try.prog limit_Measure_may.id #[.agg #[.int .i64 r, .int .i64 p, .int .i64 u]] h K := by
  apply limit_Measure_may.calls
  unfold limit_Measure_may.W
  try simp only [hb_eq]
  refine within_spec _ _ _ ⟨_, rfl, split_cond (fun h1 => within_spec _ _ _ ⟨_, rfl, split_cond (fun h2 => within_spec _ _ _ ⟨_, rfl, ?_⟩) (fun h2 => ?_)⟩) (fun h1 => ?_)⟩
  · have h1 := of_decide_eq_true h1
    have h2 := of_decide_eq_true h2
    have e : decide (1 ≤ u ∧ u ≤ 1048576) = decide (ltM r p u) := by simp [ltM, h1, h2]
    rw [e]; exact hK
  · have h2 := of_decide_eq_false h2
    have e : false = decide (ltM r p u) := (decide_eq_false fun hx : ltM r p u => h2 hx.2.1).symm
    rw [e]; exact hK
  · have h1 := of_decide_eq_false h1
    have e : false = decide (ltM r p u) := (decide_eq_false fun hx : ltM r p u => h1 hx.1).symm
    rw [e]; exact hK
theorem may_spec (r p u c t : Int) {h : Hp} {K : Value → Hp → Prop} (hK : K (.bool (decide (ltB r p u c t))) h) : CallsH Try.prog limit_May.id #[.agg #[.int .i64 r, .int .i64 p, .int .i64 u, .int .i64 c, .int .i64 t]] h K := by
  apply limit_May.calls
  unfold limit_May.W
  try simp only [hb_eq]
  refine mmay_spec _ _ _ ⟨_, rfl, split_cond (fun h1 => tick_spec _ ⟨_, rfl, split_cond (fun h2 => within_spec _ _ _ ⟨_, rfl, ?_⟩) (fun h2 => ?_)⟩) (fun h1 => ?_)⟩
  · have h1 := of_decide_eq_true h1
    have h2 := of_decide_eq_true h2
    have hb := up_bound h1
    rw [wid (by omega) (by omega)]
    have e : decide (0 ≤ c ∧ c ≤ u * p) = decide (ltB r p u c t) := by simp [ltB, h1, h2]
    rw [e]; exact hK
  · have h2 := of_decide_eq_false h2
    have e : false = decide (ltB r p u c t) := by simp [ltB, h2]
    rw [e]; exact hK
  · have h1 := of_decide_eq_false h1
    have e : false = decide (ltB r p u c t) := by simp [ltB, h1]
    rw [e]; exact hK
def zeroB : Value := .agg #[.int .i64 0, .int .i64 0, .int .i64 0, .int .i64 0, .int .i64 0]
def mkB (r p u c t : Int) : Value := .agg #[.int .i64 r, .int .i64 p, .int .i64 u, .int .i64 c, .int .i64 t]
theorem new_spec (r p u t : Int) {h : Hp} {K : Value → Hp → Prop} (h1 : ltM r p u → ltT t → K (.tuple #[mkB r p u (u * p) t, .int .i64 0]) h) (h2 : ¬ (ltM r p u ∧ ltT t) → K (.tuple #[zeroB, .int .i64 1]) h) :
    CallsH Try.prog limit_New.id #[.agg #[.int .i64 r, .int .i64 p, .int .i64 u], .int .i64 t] h K := by
  apply limit_New.calls
  unfold limit_New.W
  try simp only [hb_eq]
  refine mmay_spec _ _ _ ⟨_, rfl, split_cond (fun e1 => ?_) (fun e1 => tick_spec _ ⟨_, rfl, split_cond (fun e2 => ?_) (fun e2 => ?_)⟩)⟩
  · exact h2 fun hx => by simp [hx.1] at e1
  · exact h2 fun hx => by simp [hx.2] at e2
  · have e1 : ltM r p u := by simpa using e1
    have e2 : ltT t := by simpa using e2
    have hb := up_bound e1
    rw [wid (by omega) (by omega)]
    exact h1 e1 e2
def onC (r p u c t now : Int) : Int := if now ≤ t then c else if now - t > (u * p - c).tdiv r then u * p else c + (now - t) * r
def onT (t now : Int) : Int := if now ≤ t then t else now
/-- What the credit is bounded by as time goes on. -/
theorem on_law {r p u c t now : Int} (h : ltB r p u c t) (hn : now ≤ 1099511627776) : 0 ≤ onC r p u c t now ∧ onC r p u c t now ≤ u * p ∧ onC r p u c t now ≤ c + (onT t now - t) * r ∧ ltT (onT t now) ∧ c ≤ onC r p u c t now := by
  obtain ⟨hm, ht, hc1, hc2⟩ := h
  have hb := up_bound hm
  have hr := hm.1
  have ht' : 0 ≤ t ∧ t ≤ 1099511627776 := ht
  unfold onC onT
  by_cases h1 : now ≤ t
  · rw [if_pos h1, if_pos h1]
    refine ⟨hc1, hc2, ?_, ht, Int.le_refl _⟩
    simp
  · rw [if_neg h1, if_neg h1]
    have hd : 0 < now - t := by omega
    have hx : (u * p - c).tdiv r = (u * p - c) / r := Int.tdiv_eq_ediv_of_nonneg (by omega)
    rw [hx]
    have hdiv := Int.mul_ediv_add_emod (u * p - c) r
    have hmod := Int.emod_nonneg (u * p - c) (by omega : r ≠ 0)
    have hmod2 := Int.emod_lt_of_pos (u * p - c) (by omega : 0 < r)
    generalize hq : (u * p - c) / r = q at *
    generalize (u * p - c) % r = m at *
    have hT : ltT now := ⟨by omega, hn⟩
    by_cases h2 : now - t > q
    · rw [if_pos h2]
      have : (q + 1) * r ≤ (now - t) * r := Int.mul_le_mul_of_nonneg_right (by omega) (by omega)
      have e : (q + 1) * r = r * q + r := by rw [Int.add_mul, Int.one_mul, Int.mul_comm]
      exact ⟨by omega, Int.le_refl _, by omega, hT, hc2⟩
    · rw [if_neg h2]
      have h3 : (now - t) * r ≤ q * r := Int.mul_le_mul_of_nonneg_right (by omega) (by omega)
      have e : q * r = r * q := Int.mul_comm _ _
      have h4 : 0 ≤ (now - t) * r := Int.mul_nonneg (by omega) (by omega)
      exact ⟨by omega, by omega, Int.le_refl _, hT, by omega⟩
theorem on_spec {r p u c t now : Int} (hB : ltB r p u c t) (hn : now ≤ 1099511627776) {h : Hp} {K : Value → Hp → Prop} (hK : K (mkB r p u (onC r p u c t now) (onT t now)) h) :
    CallsH Try.prog limit_on.id #[.agg #[.int .i64 r, .int .i64 p, .int .i64 u, .int .i64 c, .int .i64 t], .int .i64 now] h K := by
  have hl := on_law hB hn
  obtain ⟨hm, ht, hc1, hc2⟩ := hB
  have hb := up_bound hm
  have hr := hm.1
  have ht' : 0 ≤ t ∧ t ≤ 1099511627776 := ht
  apply limit_on.calls
  unfold limit_on.W
  try simp only [hb_eq]
  refine split_cond (fun h1 => ?_) (fun h1 => ⟨fun h0 => by omega, ?_⟩)
  · have h1 := of_decide_eq_true h1
    have e1 : onC r p u c t now = c := if_pos h1
    have e2 : onT t now = t := if_pos h1
    rw [e1, e2] at hK; exact hK
  · have h1 := of_decide_eq_false h1
    have e2 : onT t now = now := if_neg h1
    have ec : onC r p u c t now = if now - t > (u * p - c).tdiv r then u * p else c + (now - t) * r := if_neg h1
    rw [e2] at hK hl
    have w1 : IntKind.i64.wrap (u * p) = u * p := wid (by omega) (by omega)
    have w2 : IntKind.i64.wrap (u * p - c) = u * p - c := wid (by omega) (by omega)
    have hx : (u * p - c).tdiv r = (u * p - c) / r := Int.tdiv_eq_ediv_of_nonneg (by omega)
    have hq1 : 0 ≤ (u * p - c) / r := Int.ediv_nonneg (by omega) (by omega)
    have hq2 : (u * p - c) / r ≤ u * p - c := Int.ediv_le_self _ (by omega)
    have w3 : IntKind.i64.wrap ((u * p - c).tdiv r) = (u * p - c).tdiv r := wid (by omega) (by omega)
    have w4 : IntKind.i64.wrap (now - t) = now - t := wid (by omega) (by omega)
    have w5 : IntKind.i64.wrap (c + (u * p - c)) = u * p := by rw [wid (by omega) (by omega)]; omega
    rw [w1, w2, w3, w4, w5]
    refine split_cond (fun h2 => ?_) (fun h2 => ?_)
    · have h2 := of_decide_eq_true h2
      rw [if_pos h2] at ec
      rw [ec] at hK; exact hK
    · have h2 := of_decide_eq_false h2
      rw [if_neg h2] at ec
      rw [ec] at hK hl
      have w6 : IntKind.i64.wrap ((now - t) * r) = (now - t) * r := wid (by omega) (by omega)
      have w7 : IntKind.i64.wrap (c + (now - t) * r) = c + (now - t) * r := wid (by omega) (by omega)
      rw [w6, w7]; exact hK
/-- Why nothing can be done. -/
def chk (r p u c t n now : Int) : Int := if ¬ (ltB r p u c t ∧ 0 ≤ n ∧ ltT now) then 1 else if now < t then 8 else 0
theorem check_spec (r p u c t n now : Int) {h : Hp} {K : Value → Hp → Prop} (hK : K (.int .i64 (chk r p u c t n now)) h) :
    CallsH Try.prog limit_check.id #[.agg #[.int .i64 r, .int .i64 p, .int .i64 u, .int .i64 c, .int .i64 t], .int .i64 n, .int .i64 now] h K := by
  apply limit_check.calls
  unfold limit_check.W
  try simp only [hb_eq]
  refine may_spec _ _ _ _ _ ⟨_, rfl, split_cond (fun e1 => ?_) (fun e1 => split_cond (fun e2 => ?_) (fun e2 => tick_spec _ ⟨_, rfl, split_cond (fun e3 => ?_) (fun e3 => split_cond (fun e4 => ?_) (fun e4 => ?_))⟩))⟩
  · have : chk r p u c t n now = 1 := if_pos fun hx => by simp [hx.1] at e1
    rw [this] at hK; exact hK
  · have e2 := of_decide_eq_true e2
    have : chk r p u c t n now = 1 := if_pos fun hx => by omega
    rw [this] at hK; exact hK
  · have : chk r p u c t n now = 1 := if_pos fun hx => by simp [hx.2.2] at e3
    rw [this] at hK; exact hK
  all_goals
    have e1 : ltB r p u c t := by simpa using e1
    have e2 := of_decide_eq_false e2
    have e3 : ltT now := by simpa using e3
    have h0 : chk r p u c t n now = if now < t then 8 else 0 := if_neg fun hx => hx ⟨e1, by omega, e3⟩
  · have e4 := of_decide_eq_true e4
    rw [h0, if_pos e4] at hK; exact hK
  · have e4 := of_decide_eq_false e4
    rw [h0, if_neg e4] at hK; exact hK
/-- What Take answers. -/
def tak (r p u c t n now : Int) (F : Value → Int → Prop) : Prop :=
  if chk r p u c t n now ≠ 0 then F zeroB (chk r p u c t n now) else if n > u then F zeroB 9 else
  if onC r p u c t now < n * p then F (mkB r p u (onC r p u c t now) (onT t now)) 5 else F (mkB r p u (onC r p u c t now - n * p) (onT t now)) 0
theorem take_spec (r p u c t n now : Int) {h : Hp} {K : Value → Hp → Prop} (hK : tak r p u c t n now fun b e => K (.tuple #[b, .int .i64 e]) h) :
    CallsH Try.prog limit_Take.id #[.agg #[.int .i64 r, .int .i64 p, .int .i64 u, .int .i64 c, .int .i64 t], .int .i64 n, .int .i64 now] h K := by
  unfold tak at hK
  apply limit_Take.calls
  unfold limit_Take.W
  try simp only [hb_eq]
  refine check_spec _ _ _ _ _ _ _ ⟨_, rfl, split_cond (fun e1 => ?_) (fun e1 => split_cond (fun e2 => ?_) (fun e2 => ?_))⟩
  · have e1 : chk r p u c t n now ≠ 0 := by simpa using e1
    rw [if_pos e1] at hK; exact hK
  · have e1 : chk r p u c t n now = 0 := by simpa using e1
    have e2 := of_decide_eq_true e2
    rw [if_neg (by simp [e1]), if_pos e2] at hK; exact hK
  · have e1 : chk r p u c t n now = 0 := by simpa using e1
    have e2 := of_decide_eq_false e2
    rw [if_neg (by simp [e1]), if_neg e2] at hK
    have hc : ltB r p u c t ∧ 0 ≤ n ∧ ltT now := by
      unfold chk at e1
      by_cases hx : ltB r p u c t ∧ 0 ≤ n ∧ ltT now
      · exact hx
      · rw [if_pos hx] at e1; cases e1
    obtain ⟨hB, hn, hT⟩ := hc
    have hl := on_law hB hT.2
    refine on_spec hB hT.2 ⟨_, _, _, _, _, rfl, ?_⟩
    have hb := up_bound hB.1
    have hp := hB.1.2.1
    have h3 : n * p ≤ u * p := Int.mul_le_mul_of_nonneg_right (by omega) (by omega)
    have h4 : 0 ≤ n * p := Int.mul_nonneg hn (by omega)
    rw [wid (by omega) (by omega)]
    refine split_cond (fun e3 => ?_) (fun e3 => ?_)
    · have e3 := of_decide_eq_true e3
      rw [if_pos e3] at hK; exact hK
    · have e3 := of_decide_eq_false e3
      rw [if_neg e3] at hK
      rw [wid (by omega) (by omega)]; exact hK
theorem lives_spec {h : Hp} {K : Value → Hp → Prop} (hK : K (.bool true) h) : CallsH Try.prog law24_lives.id #[] h K := by
  apply law24_lives.calls
  unfold law24_lives.W
  refine new_spec _ _ _ _ (fun _ _ => ⟨_, _, _, _, _, _, rfl, ?_⟩) (fun hx => absurd ⟨by decide, by decide⟩ hx)
  refine take_spec _ _ _ _ _ _ _ ?_
  show tak 1 2 3 6 0 3 0 _
  refine (show tak 1 2 3 6 0 3 0 _ ↔ _ from Iff.rfl).2 ?_
  unfold tak
  rw [if_neg (by decide), if_neg (by decide), if_neg (by decide)]
  refine ⟨_, _, _, _, _, _, rfl, take_spec _ _ _ _ _ _ _ ?_⟩
  unfold tak
  rw [if_neg (by decide), if_neg (by decide), if_pos (by decide)]
  refine ⟨_, _, _, _, _, _, rfl, take_spec _ _ _ _ _ _ _ ?_⟩
  unfold tak
  rw [if_neg (by decide), if_neg (by decide), if_neg (by decide)]
  refine ⟨_, _, _, _, _, _, rfl, ?_⟩
  simp only [hb_eq]
  exact hK
end Go.Proofs.Ytagglohkipioiaa
