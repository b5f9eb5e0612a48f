/- LimitTakes over any memory: the law returns true. Condition: none beyond the memory. -/
import Derived.Test.YtiohianbhjjolaaL2
namespace Go.Proofs.Ytiohianbhjjolaa
open Go.Gx

theorem takes_core (r p u c t n now : Int) (h : Hp) : CallsH Try.prog 5 #[.agg #[.int .i64 r, .int .i64 p, .int .i64 u, .int .i64 c, .int .i64 t], .int .i64 n, .int .i64 now] h fun v h' => v = .bool true ∧ h' = h := by
  apply law24_LimitTakes.calls
  unfold law24_LimitTakes.W
  have hK : Value.bool true = .bool true ∧ h = h := ⟨rfl, rfl⟩
  have s : Sub h h := fun _ _ e => e
  have eqt : ∀ a b c d e : Int, (a == a && (b == b && (c == c && (d == d && (e == e && true))))) = true := fun a b c d e => by simp
  refine mine_spec _ _ _ _ _ ⟨_, _, _, _, _, rfl, take_spec _ _ _ _ _ _ _ ?_⟩
  have T : ∃ x1 x2 x3 x4 x5 e, ∀ F : Value → Int → Prop, F (mkB x1 x2 x3 x4 x5) e → tak r p u c t n now F := by
    unfold tak
    by_cases e1 : chk r p u c t n now ≠ 0
    · exact ⟨0, 0, 0, 0, 0, _, fun F hF => by rw [if_pos e1]; exact hF⟩
    by_cases e2 : n > u
    · exact ⟨0, 0, 0, 0, 0, _, fun F hF => by rw [if_neg e1, if_pos e2]; exact hF⟩
    by_cases e3 : onC r p u c t now < n * p
    · exact ⟨_, _, _, _, _, _, fun F hF => by rw [if_neg e1, if_neg e2, if_pos e3]; exact hF⟩
    · exact ⟨_, _, _, _, _, _, fun F hF => by rw [if_neg e1, if_neg e2, if_neg e3]; exact hF⟩
  have G : ∃ x1 x2 x3 x4 x5 e, ∀ F : Value → Int → Prop, F (mkB x1 x2 x3 x4 x5) e → giv r p u c t n now F := by
    unfold giv
    by_cases e1 : chk r p u c t n now ≠ 0
    · exact ⟨0, 0, 0, 0, 0, _, fun F hF => by rw [if_pos e1]; exact hF⟩
    · exact ⟨_, _, _, _, _, _, fun F hF => by rw [if_neg e1]; exact hF⟩
  obtain ⟨x1, x2, x3, x4, x5, e, hT⟩ := T
  obtain ⟨y1, y2, y3, y4, y5, f, hG⟩ := G
  refine hT _ ⟨_, _, _, _, _, _, rfl, rtake_spec _ _ _ _ _ _ _ (hT _ ⟨_, _, _, _, _, _, rfl, mine_spec _ _ _ _ _ ⟨_, _, _, _, _, rfl, give_spec _ _ _ _ _ _ _ (hG _ ⟨_, _, _, _, _, _, rfl, rgive_spec _ _ _ _ _ _ _ (hG _ ⟨_, _, _, _, _, _, rfl, theirs_spec _ _ _ _ _ ⟨_, _, _, _, _, rfl, s, split_cond (fun _ => ?_) (fun e => by rw [eqt] at e; cases e)⟩⟩)⟩)⟩⟩)⟩
  refine split_cond (fun _ => theirs_spec _ _ _ _ _ ⟨_, _, _, _, _, rfl, s, split_cond (fun _ => ?_) (fun e => by rw [eqt] at e; cases e)⟩) (fun e => by simp at e)
  refine split_cond (fun _ => mine_spec _ _ _ _ _ ⟨_, _, _, _, _, rfl, s, units_spec _ _ _ _ _ _ ⟨_, rfl, s, runits_spec _ _ _ _ _ _ ⟨_, rfl, split_cond (fun _ => lives_spec ⟨_, rfl, hK⟩) (fun e => by simp at e)⟩⟩⟩) (fun e => by simp at e)
end Go.Proofs.Ytiohianbhjjolaa
