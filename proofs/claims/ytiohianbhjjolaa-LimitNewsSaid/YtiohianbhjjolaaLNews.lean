/- LimitNews over any memory: the law returns true. Condition: none beyond the memory. -/
import Derived.Test.YtiohianbhjjolaaL2
namespace Go.Proofs.Ytiohianbhjjolaa
open Go.Gx

theorem unt_full {r p u t : Int} (hm : ltM r p u) (ht : ltT t) : unt r p u (u * p) t t = u := by
  have hb := up_bound hm
  have hp := hm.2.1
  unfold unt
  rw [if_pos ⟨⟨hm, ht, by omega, Int.le_refl _⟩, ht.2⟩]
  have e : onC r p u (u * p) t t = u * p := if_pos (Int.le_refl _)
  rw [e]; exact Int.mul_tdiv_cancel _ (by omega)
theorem nb (b : Bool) : (!(b == b)) = false := by cases b <;> rfl
local macro "news_tail" hK:term : tactic => `(tactic| (
  refine new_spec _ _ _ _ (fun hm ht => ?_) (fun hx => ?_)
  · refine ⟨_, _, _, _, _, _, rfl, fun b x => b = true ∧ x = _, ?_, right_spec _ _ _ ⟨_, rfl, split_cond (fun _ => rtick_spec _ ⟨_, rfl, by simp [ht], rfl⟩) (fun e => absurd hm (by simpa using e))⟩⟩
    intro b x hJ
    have e1 := hJ.1
    have e2 := hJ.2
    clear hJ
    subst e1 e2
    refine split_cond (fun e => absurd e (by decide)) (fun _ => mine_spec _ _ _ _ _ ⟨_, _, _, _, _, rfl, (fun _ _ e => e), may_spec _ _ _ _ _ ⟨_, rfl, (fun _ _ e => e), rmay_spec _ _ _ _ _ ⟨_, rfl, split_cond (fun e => by rw [nb] at e; cases e) (fun _ => split_cond (fun e => absurd e (by decide)) (fun _ => ?_))⟩⟩⟩)
    have hb := up_bound hm
    rw [wid (by omega) (by omega)]
    refine split_cond (fun _ => split_cond (fun _ => units_spec _ _ _ _ _ _ ⟨_, rfl, (fun _ _ e => e), split_cond (fun _ => lives_spec ⟨_, rfl, $hK⟩) (fun e => absurd (unt_full hm ht) (by simpa using e))⟩) (fun e => by simp at e)) (fun e => by simp at e)
  · refine ⟨_, _, _, _, _, _, rfl, fun b x => b = false ∧ x = _, ?_, right_spec _ _ _ ⟨_, rfl, split_cond (fun e => rtick_spec _ ⟨_, rfl, ?_, rfl⟩) (fun _ => ⟨rfl, rfl⟩)⟩⟩
    · intro b x hJ
      have e1 := hJ.1
      have e2 := hJ.2
      clear hJ
      subst e1 e2
      exact split_cond (fun e => absurd e (by decide)) (fun _ => mine_spec _ _ _ _ _ ⟨_, _, _, _, _, rfl, (fun _ _ e => e), may_spec _ _ _ _ _ ⟨_, rfl, (fun _ _ e => e), rmay_spec _ _ _ _ _ ⟨_, rfl, split_cond (fun e => by rw [nb] at e; cases e) (fun _ => split_cond (fun _ => split_cond (fun _ => split_cond (fun _ => lives_spec ⟨_, rfl, $hK⟩) (fun e => absurd e (by decide))) (fun e => absurd e (by decide))) (fun e => absurd e (by decide)))⟩⟩⟩)
    · have hm : ltM _ _ _ := of_decide_eq_true e
      exact decide_eq_false fun ht => hx ⟨hm, ht⟩))
theorem news_core (r p u c t : Int) (h : Hp) : CallsH Try.prog 4 #[.agg #[.int .i64 r, .int .i64 p, .int .i64 u, .int .i64 c, .int .i64 t]] h fun v h' => v = .bool true ∧ h' = h := by
  apply law24_LimitNews.calls
  unfold law24_LimitNews.W
  have hK : Value.bool true = .bool true ∧ h = h := ⟨rfl, rfl⟩
  refine ⟨mine_spec _ _ _ _ _ ⟨_, _, _, _, _, rfl, (fun _ _ e => e), ?_, (fun _ _ e => e), ?_⟩, (fun _ _ e => e), mine_spec _ _ _ _ _ ⟨_, _, _, _, _, rfl, (fun _ _ e => e), ?_⟩⟩
  · news_tail hK
  · news_tail hK
  · news_tail hK
end Go.Proofs.Ytiohianbhjjolaa
