/- The law LimitNever holds of any asks that lie in memory: the call returns true and what lay in memory lies there. Condition: each ask's cells can be read. -/
import Derived.Test.YtiohianbhjjolaaL1
namespace Go.Proofs.Ytiohianbhjjolaa
open Go.Gx

/-- The asks' cells. -/
def AskRow (h : Hp) (a : Option Addr) (l : Nat) : Prop := ∀ i, i < l → ∃ b o, a = some ⟨b, o, none⟩ ∧ ∃ (x y z : Int) (s : ByteArray),
  h.cell b (o + i * 4) = some (.int .i64 x) ∧ h.cell b (o + i * 4 + 1) = some (.int .i64 y) ∧ h.cell b (o + i * 4 + 1 + 1) = some (.int .i64 z) ∧ h.cell b (o + i * 4 + 1 + 1 + 1) = some (.string s)
/-- What was taken since the first tick that counts. -/
def NevInv (r p u c t tk fs : Int) : Prop := (fs = -1 ∧ tk = 0) ∨ (0 ≤ fs ∧ fs ≤ t ∧ c + tk * p ≤ u * p + (t - fs) * r)
theorem nev_on {r p u c t tk fs c' t' : Int} (h : NevInv r p u c t tk fs) (ht : t ≤ t') (hc : c' ≤ c + (t' - t) * r) : NevInv r p u c' t' tk fs := by
  rcases h with h | ⟨h1, h2, h3⟩
  · exact .inl h
  · refine .inr ⟨h1, by omega, ?_⟩
    have e : (t' - fs) * r = (t' - t) * r + (t - fs) * r := by rw [← Int.add_mul]; congr 1; omega
    omega
theorem onT_le (t now : Int) : t ≤ onT t now := by unfold onT; split <;> omega
theorem never_core (m0 m1 m2 : Int) (a : Option Addr) (l c0 : Nat) (fr : Int) (h : Hp) (hrow : AskRow h a l) :
    CallsH Try.prog 3 #[.agg #[.int .i64 m0, .int .i64 m1, .int .i64 m2], .slice a l c0, .int .i64 fr] h fun v h' => v = .bool true ∧ h' = h := by
  apply law24_LimitNever.calls
  unfold law24_LimitNever.W
  refine new_spec _ _ _ _ (fun hM hT => ⟨_, _, _, _, _, _, rfl, ?_⟩) (fun _ => ⟨_, _, _, _, _, _, rfl, lives_spec ⟨_, rfl, rfl, rfl⟩⟩)
  have hb := up_bound hM
  have hfin : ∀ c t, ltB m0 m1 m2 c t → CallsH Try.prog 10 #[Value.agg #[Value.int IntKind.i64 m0, Value.int IntKind.i64 m1, Value.int IntKind.i64 m2, Value.int IntKind.i64 c, Value.int IntKind.i64 t]] h fun v51 h52 =>
      ∃ b53, v51 = Value.bool b53 ∧ (bif b53 then CallsH Try.prog 8 #[] h52 fun v54 h55 => ∃ b56, v54 = Value.bool b56 ∧ (Value.bool b56 = Value.bool true ∧ h55 = h) else (Value.bool false = Value.bool true ∧ h52 = h)) := by
    intro c t hB
    refine may_spec _ _ _ _ _ ⟨_, rfl, ?_⟩
    rw [decide_eq_true hB]
    exact lives_spec ⟨_, rfl, rfl, rfl⟩
  refine ⟨fun tk fs i r p u c t h' m => h' = h ∧ 0 ≤ i ∧ i ≤ 60 ∧ m = (60 - i).toNat ∧ r = m0 ∧ p = m1 ∧ u = m2 ∧ ltB m0 m1 m2 c t ∧ 0 ≤ tk ∧ tk ≤ i * 1048576 ∧ NevInv m0 m1 m2 c t tk fs,
    ⟨60, rfl, by omega, by omega, by decide, rfl, rfl, rfl, ⟨hM, hT, by omega, by omega⟩, by omega, by omega, .inl ⟨rfl, rfl⟩⟩, ?_⟩
  rintro tk fs i r p u c t h' m ⟨rfl, hi0, hi, rfl, rfl, rfl, rfl, hB, htk0, htk, hinv⟩
  refine split_cond (fun e1 => split_cond (fun e2 => ?_) (fun e2 => hfin c t hB)) (fun e1 => hfin c t hB)
  have e1 := of_decide_eq_true e1
  have e2 := of_decide_eq_true e2
  have e1' : i.toNat < l := by
    have : i < (l : Int) := e1
    omega
  obtain ⟨b, o, ha, x, n, now, s, c1, c2, c3, c4⟩ := hrow i.toNat e1'
  refine ⟨hi0, e1, b, o, ha, x, c1, n, c2, now, c3, s, c4, take_spec _ _ _ _ _ _ _ ?_⟩
  have hw : IntKind.i64.wrap (i + 1) = i + 1 := wid (by omega) (by omega)
  have hr := hB.1.1
  have hp := hB.1.2.1
  have hu := hB.1.2.2
  -- the next round
  have next : ∀ c' t', ltB r p u c' t' → NevInv r p u c' t' tk fs → ∃ k, k < (60 - i).toNat ∧ (h' = h' ∧ 0 ≤ IntKind.i64.wrap (i + 1) ∧ IntKind.i64.wrap (i + 1) ≤ 60 ∧ k = (60 - IntKind.i64.wrap (i + 1)).toNat ∧ r = r ∧ p = p ∧ u = u ∧ ltB r p u c' t' ∧ 0 ≤ tk ∧ tk ≤ IntKind.i64.wrap (i + 1) * 1048576 ∧ NevInv r p u c' t' tk fs) := by
    intro c' t' hB' hN'
    rw [hw]
    exact ⟨_, by omega, rfl, by omega, by omega, rfl, rfl, rfl, rfl, hB', htk0, by omega, hN'⟩
  unfold tak
  by_cases hk : chk r p u c t n now ≠ 0
  · rw [if_pos hk]
    have h5 : chk r p u c t n now ≠ 5 := by unfold chk; split <;> (try split) <;> decide
    refine ⟨_, _, _, _, _, _, rfl, fun r' p' u' c' t' x => x = h' ∧ r' = r ∧ p' = p ∧ u' = u ∧ c' = c ∧ t' = t, ?_, ?_⟩
    · rintro r' p' u' c' t' x ⟨rfl, rfl, rfl, rfl, rfl, rfl⟩
      rw [show (chk r' p' u' c' t' n now != 0) = true by simpa using hk]
      exact next _ _ hB hinv
    · rw [show (chk r p u c t n now == 0) = false by simpa using hk, show (chk r p u c t n now == 5) = false by simpa using h5]
      exact ⟨rfl, rfl, rfl, rfl, rfl, rfl⟩
  · rw [if_neg hk]
    have hk : chk r p u c t n now = 0 := by omega
    have hc : (ltB r p u c t ∧ 0 ≤ n ∧ ltT now) ∧ ¬ now < t := by
      unfold chk at hk
      by_cases hx : ltB r p u c t ∧ 0 ≤ n ∧ ltT now
      · rw [if_neg (fun h => h hx)] at hk
        refine ⟨hx, fun hlt => ?_⟩
        rw [if_pos hlt] at hk; cases hk
      · rw [if_pos hx] at hk; cases hk
    obtain ⟨⟨_, hn0, hT'⟩, hnt⟩ := hc
    have hl := on_law hB hT'.2
    have hTn : onT t now = now := by unfold onT; split <;> omega
    rw [hTn] at hl ⊢
    by_cases hu2 : n > u
    · rw [if_pos hu2]
      refine ⟨_, _, _, _, _, _, rfl, fun r' p' u' c' t' x => x = h' ∧ r' = r ∧ p' = p ∧ u' = u ∧ c' = c ∧ t' = t, ?_, ⟨rfl, rfl, rfl, rfl, rfl, rfl⟩⟩
      rintro r' p' u' c' t' x ⟨rfl, rfl, rfl, rfl, rfl, rfl⟩
      exact next _ _ hB hinv
    · rw [if_neg hu2]
      have hN := nev_on hinv (by omega : t ≤ now) hl.2.2.1
      have hB1 : ltB r p u (onC r p u c t now) now := ⟨hB.1, hT', hl.1, hl.2.1⟩
      by_cases hlow : onC r p u c t now < n * p
      · rw [if_pos hlow]
        refine ⟨_, _, _, _, _, _, rfl, fun r' p' u' c' t' x => x = h' ∧ r' = r ∧ p' = p ∧ u' = u ∧ c' = onC r p u c t now ∧ t' = now, ?_, ⟨rfl, rfl, rfl, rfl, rfl, rfl⟩⟩
        rintro r' p' u' c' t' x ⟨rfl, rfl, rfl, rfl, rfl, rfl⟩
        exact next _ _ hB1 hN
      · rw [if_neg hlow]
        have hnp : 0 ≤ n * p := Int.mul_nonneg hn0 (by omega)
        have hB2 : ltB r p u (onC r p u c t now - n * p) now := ⟨hB.1, hT', by omega, by omega⟩
        refine ⟨_, _, _, _, _, _, rfl, fun r' p' u' c' t' x => x = h' ∧ r' = r ∧ p' = p ∧ u' = u ∧ c' = onC r p u c t now - n * p ∧ t' = now, ?_, ⟨rfl, rfl, rfl, rfl, rfl, rfl⟩⟩
        rintro r' p' u' c' t' x ⟨rfl, rfl, rfl, rfl, rfl, rfl⟩
        have hT2 : 0 ≤ t' ∧ t' ≤ 1099511627776 := hT'
        refine split_cond (fun e0 => absurd e0 (by decide)) (fun _ => split_cond (fun e3 => ?_) (fun e3 => ?_))
        · have e3 := of_decide_eq_true e3
          refine next _ _ hB2 ?_
          rcases hN with h | ⟨g1, g2, g3⟩
          · exact .inl h
          · exact .inr ⟨g1, g2, by omega⟩
        · have e3 := of_decide_eq_false e3
          have hadd : (tk + n) * p' = tk * p' + n * p' := Int.add_mul _ _ _
          have wtk : IntKind.i64.wrap (tk + n) = tk + n := wid (by omega) (by omega)
          rw [wtk]
          have fin : ∀ fs', 0 ≤ fs' → fs' ≤ t' → (onC r' p' u' c t t' - n * p') + (tk + n) * p' ≤ u' * p' + (t' - fs') * r' →
              (bif decide (IntKind.i64.wrap (IntKind.i64.wrap (tk + n - u') * p') > IntKind.i64.wrap (IntKind.i64.wrap (t' - fs') * r')) then (Value.bool false = Value.bool true ∧ x = x) else
                ∃ k, k < (60 - i).toNat ∧ (x = x ∧ 0 ≤ IntKind.i64.wrap (i + 1) ∧ IntKind.i64.wrap (i + 1) ≤ 60 ∧ k = (60 - IntKind.i64.wrap (i + 1)).toNat ∧ r' = r' ∧ p' = p' ∧ u' = u' ∧ ltB r' p' u' (onC r' p' u' c t t' - n * p') t' ∧ 0 ≤ tk + n ∧ tk + n ≤ IntKind.i64.wrap (i + 1) * 1048576 ∧ NevInv r' p' u' (onC r' p' u' c t t' - n * p') t' (tk + n) fs')) := by
            intro fs' g1 g2 g3
            have w1 : IntKind.i64.wrap (tk + n - u') = tk + n - u' := wid (by omega) (by omega)
            have w2 : IntKind.i64.wrap (t' - fs') = t' - fs' := wid (by omega) (by omega)
            have hsub : (tk + n - u') * p' = (tk + n) * p' - u' * p' := Int.sub_mul _ _ _
            have b1 : (tk + n) * p' ≤ 99614720 * 1048576 := Int.mul_le_mul (by omega) (by omega) (by omega) (by omega)
            have b2 : 0 ≤ (tk + n) * p' := Int.mul_nonneg (by omega) (by omega)
            have b3 : (t' - fs') * r' ≤ 1099511627776 * 1048576 := Int.mul_le_mul (by omega) (by omega) (by omega) (by omega)
            have b4 : 0 ≤ (t' - fs') * r' := Int.mul_nonneg (by omega) (by omega)
            rw [w1, w2, wid (x := (tk + n - u') * p') (by omega) (by omega), wid (x := (t' - fs') * r') (by omega) (by omega)]
            rw [show decide ((tk + n - u') * p' > (t' - fs') * r') = false by rw [decide_eq_false_iff_not]; omega]
            rw [hw]
            exact ⟨_, by omega, rfl, by omega, by omega, rfl, rfl, rfl, rfl, hB2, by omega, by omega, .inr ⟨g1, g2, g3⟩⟩
          refine ⟨fun fs' x' => x' = x ∧ 0 ≤ fs' ∧ fs' ≤ t' ∧ (onC r' p' u' c t t' - n * p') + (tk + n) * p' ≤ u' * p' + (t' - fs') * r', ?_, ?_⟩
          · rintro fs' x' ⟨rfl, g1, g2, g3⟩
            exact fin fs' g1 g2 g3
          · refine split_cond (fun e4 => ?_) (fun e4 => ?_)
            · have e4 := of_decide_eq_true e4
              refine ⟨rfl, by omega, Int.le_refl _, ?_⟩
              rcases hN with ⟨_, h0⟩ | ⟨g1, _, _⟩
              · subst h0
                have z : (t' - t') * r' = 0 := by rw [Int.sub_self, Int.zero_mul]
                rw [hadd, z, Int.zero_mul]; omega
              · omega
            · have e4 := of_decide_eq_false e4
              rcases hN with ⟨h0, _⟩ | ⟨g1, g2, g3⟩
              · omega
              · exact ⟨rfl, g1, g2, by rw [hadd]; omega⟩
end Go.Proofs.Ytiohianbhjjolaa
