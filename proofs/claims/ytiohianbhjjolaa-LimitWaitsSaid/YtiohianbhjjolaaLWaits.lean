/- LimitWaits over any memory: the law returns true. Condition: none beyond the memory. -/
import Derived.Test.YtiohianbhjjolaaL2
namespace Go.Proofs.Ytiohianbhjjolaa
open Go.Gx

theorem chk_vals (r p u c t n now : Int) : chk r p u c t n now = 0 ∨ chk r p u c t n now = 1 ∨ chk r p u c t n now = 8 := by
  unfold chk; split
  · exact .inr (.inl rfl)
  · split
    · exact .inr (.inr rfl)
    · exact .inl rfl
theorem ceil_law {l r : Int} (hr : 1 ≤ r) (_ : 0 ≤ l) : l ≤ (l + r - 1) / r * r ∧ ((l + r - 1) / r - 1) * r < l := by
  have h1 := Int.mul_ediv_add_emod (l + r - 1) r
  have h2 := Int.emod_nonneg (l + r - 1) (by omega : r ≠ 0)
  have h3 := Int.emod_lt_of_pos (l + r - 1) (by omega : 0 < r)
  generalize (l + r - 1) / r = q at *
  generalize (l + r - 1) % r = m at *
  have e1 : q * r = r * q := Int.mul_comm _ _
  have e2 : (q - 1) * r = r * q - r := by rw [Int.sub_mul, Int.one_mul, e1]
  omega
theorem waits_core (r p u c t n now : Int) (h : Hp) : CallsH Try.prog 6 #[.agg #[.int .i64 r, .int .i64 p, .int .i64 u, .int .i64 c, .int .i64 t], .int .i64 n, .int .i64 now] h fun v h' => v = .bool true ∧ h' = h := by
  apply law24_LimitWaits.calls
  unfold law24_LimitWaits.W
  have hK : Value.bool true = .bool true ∧ h = h := ⟨rfl, rfl⟩
  refine mine_spec _ _ _ _ _ ⟨_, _, _, _, _, rfl, wait_spec _ _ _ _ _ _ _ ?_⟩
  unfold wai
  by_cases e1 : chk r p u c t n now ≠ 0
  · rw [if_pos e1]
    refine ⟨_, _, rfl, rtake_spec _ _ _ _ _ _ _ ?_⟩
    unfold tak
    rw [if_pos e1]
    refine ⟨_, _, _, _, _, _, rfl, split_cond (fun _ => split_cond (fun _ => split_cond (fun _ => split_cond (fun _ => lives_spec ⟨_, rfl, hK⟩) (fun e => by simp at e)) (fun e => by simp at e)) (fun e => ?_)) (fun e => absurd (by simpa using e) e1)⟩
    rcases chk_vals r p u c t n now with e2 | e2 | e2 <;> rw [e2] at e <;> cases e
  rw [if_neg e1]
  by_cases e2 : n > u
  · rw [if_pos e2]
    refine ⟨_, _, rfl, rtake_spec _ _ _ _ _ _ _ ?_⟩
    unfold tak
    rw [if_neg e1, if_pos e2]
    exact ⟨_, _, _, _, _, _, rfl, split_cond (fun _ => split_cond (fun _ => split_cond (fun _ => split_cond (fun _ => lives_spec ⟨_, rfl, hK⟩) (fun e => by simp at e)) (fun e => by simp at e)) (fun e => absurd e (by decide))) (fun e => absurd e (by decide))⟩
  rw [if_neg e2]
  have e1' : chk r p u c t n now = 0 := by omega
  obtain ⟨hB, hn, hT, htn⟩ := chk_zero e1'
  have hT1 := hT.1
  have hT2 := hT.2
  have hb := up_bound hB.1
  have hp := hB.1.2.1
  have hr := hB.1.1
  have hl := on_law hB hT2
  have h3 : n * p ≤ u * p := Int.mul_le_mul_of_nonneg_right (by omega) (by omega)
  generalize hlk : (if 0 > n * p - onC r p u c t now then 0 else n * p - onC r p u c t now) = lack
  have hlk0 : 0 ≤ lack := by subst hlk; split <;> omega
  have hlk1 : n * p - onC r p u c t now ≤ lack := by subst hlk; split <;> omega
  have hlk2 : 0 < lack → lack = n * p - onC r p u c t now := by subst hlk; split <;> omega
  have hce := ceil_law hr.1 hlk0
  have hd0 : 0 ≤ (lack + r - 1) / r := Int.ediv_nonneg (by omega) (by omega)
  generalize (lack + r - 1) / r = d at hce hd0 ⊢
  have un : ∀ k, 0 ≤ k → now + k ≤ 1099511627776 → unt r p u c t (now + k) = (onC r p u c t (now + k)).tdiv p := fun k h1 h2 => if_pos ⟨hB, h2⟩
  have take2 : ∀ F : Value → Int → Prop, (∀ x1 x2 x3 x4 x5 f, f = 0 ∨ f = 5 → F (mkB x1 x2 x3 x4 x5) f) → tak r p u c t n now F := by
    intro F hF
    unfold tak
    rw [if_neg e1, if_neg e2]
    split
    · exact hF _ _ _ _ _ _ (.inr rfl)
    · exact hF _ _ _ _ _ _ (.inl rfl)
  by_cases e3 : d > 1099511627776 - now
  · rw [if_pos e3]
    have hlt : unt r p u c t 1099511627776 < n := by
      have e := un (1099511627776 - now) (by omega) (by omega)
      have e4 : now + (1099511627776 - now) = 1099511627776 := by omega
      rw [e4] at e
      rw [e]
      refine ((per_div hB (by omega)).2.2 n).2 ?_
      have hm := on_more hB htn (show 0 ≤ 1099511627776 - now by omega)
      rw [e4] at hm
      rw [hm]
      have h5 : (1099511627776 - now) * r ≤ (d - 1) * r := Int.mul_le_mul_of_nonneg_right (by omega) (by omega)
      have h6 : 0 ≤ (1099511627776 - now) * r := Int.mul_nonneg (by omega) (by omega)
      have := hlk2 (by omega)
      split <;> omega
    refine ⟨_, _, rfl, rtake_spec _ _ _ _ _ _ _ (take2 _ fun x1 x2 x3 x4 x5 f hf => ⟨_, _, _, _, _, _, rfl, ?_⟩)⟩
    have fin : CallsH Try.prog 20 #[.agg #[.int .i64 r, .int .i64 p, .int .i64 u, .int .i64 c, .int .i64 t], .int .i64 1099511627776] h fun v23 h24 => ∃ n25, v23 = .int .i64 n25 ∧ (bif decide (n25 < n) then (CallsH Try.prog 8 (#[]) (h24) (fun (v26 : Value) (h27 : Hp) => (∃ (b28 : Bool), ((v26 = Value.bool b28) ∧ (Value.bool b28 = .bool true ∧ h27 = h))))) else (Value.bool false = .bool true ∧ h24 = h)) :=
      runits_spec _ _ _ _ _ _ ⟨_, rfl, split_cond (fun _ => lives_spec ⟨_, rfl, hK⟩) (fun e => absurd hlt (of_decide_eq_false e))⟩
    exact split_cond (fun _ => split_cond (fun e => by rcases hf with rfl | rfl <;> simp_all) (fun _ => split_cond (fun _ => split_cond (fun _ => fin) (fun e => absurd e (by decide))) (fun e => absurd e (by decide)))) (fun _ => split_cond (fun _ => split_cond (fun _ => fin) (fun e => absurd e (by decide))) (fun e => absurd e (by decide)))
  · rw [if_neg e3]
    have hge : n ≤ unt r p u c t (now + d) := by
      rw [un d hd0 (by omega)]
      have h5 := (per_div hB (show now + d ≤ 1099511627776 by omega)).2.2 n
      have h6 : ¬ onC r p u c t (now + d) < n * p := by
        rw [on_more hB htn hd0]
        split <;> omega
      have h7 := fun x => h6 (h5.1 x)
      omega
    have hlo : d = 0 ∨ unt r p u c t (now + d - 1) < n := by
      by_cases h0 : d = 0
      · exact .inl h0
      · right
        have e4 : now + d - 1 = now + (d - 1) := by omega
        rw [e4, un (d - 1) (by omega) (by omega)]
        refine ((per_div hB (by omega)).2.2 n).2 ?_
        rw [on_more hB htn (by omega)]
        have h6 : 0 ≤ (d - 1) * r := Int.mul_nonneg (by omega) (by omega)
        have := hlk2 (by omega)
        split <;> omega
    refine ⟨_, _, rfl, rtake_spec _ _ _ _ _ _ _ (take2 _ fun x1 x2 x3 x4 x5 f hf => ⟨_, _, _, _, _, _, rfl, ?_⟩)⟩
    have fin : CallsH Try.prog 22 #[.agg #[.int .i64 r, .int .i64 p, .int .i64 u, .int .i64 c, .int .i64 t], .int .i64 n, .int .i64 now, .int .i64 d] h fun v23 h24 => ∃ b25, v23 = .bool b25 ∧ (bif b25 then (CallsH Try.prog 8 (#[]) (h24) (fun (v26 : Value) (h27 : Hp) => (∃ (b28 : Bool), ((v26 = Value.bool b28) ∧ (Value.bool b28 = .bool true ∧ h27 = h))))) else (Value.bool false = .bool true ∧ h24 = h)) :=
      rwait_spec hB hT hd0 (by omega) hge hlo ⟨_, rfl, lives_spec ⟨_, rfl, hK⟩⟩
    exact split_cond (fun _ => split_cond (fun e => by rcases hf with rfl | rfl <;> simp_all) (fun _ => split_cond (fun e => absurd e (by decide)) (fun _ => split_cond (fun _ => fin) (fun e => absurd e (by decide))))) (fun _ => split_cond (fun e => absurd e (by decide)) (fun _ => split_cond (fun _ => fin) (fun e => absurd e (by decide))))
end Go.Proofs.Ytiohianbhjjolaa
