/- Soundness of the executor, fourth part: operators, conversions, builtins. -/
import Derived.Test.YtagglohkipioiaaGreatGxS3
import Derived.Lib.ConvBytes
namespace Go.Gx

theorem guard_easy {P : Program} {op : BinOp} {t : TypeId} {x y : Operand} {a b : Value} (h1 : ∀ p q, a = .agg p → b = .agg q → False) (h2 : a = .nilIface → b = .nilIface → False) (w : World) : (eqGuard op t x y a b).run P w = .ok () w := by
  cases op <;> first
    | rfl
    | (unfold eqGuard
       simp only [Bool.not_true, Bool.false_eq_true, if_false]
       first
         | rfl
         | (split
            · exact (h2 rfl rfl).elim
            · exact (h1 _ _ rfl rfl).elim
            · rfl))
theorem guard_nil {P : Program} {op : BinOp} {t : TypeId} {x y : Operand} (hx : (Region.isConst x || Region.isConst y) = true) (w : World) : (eqGuard op t x y .nilIface .nilIface).run P w = .ok () w := by
  cases op <;> first
    | rfl
    | (unfold eqGuard
       simp only [Bool.not_true, Bool.false_eq_true, if_false]
       cases x <;> cases y <;> first | rfl | (simp [Region.isConst] at hx))
theorem eq_run {P : Program} {op : BinOp} {t : TypeId} {x y : Operand} {a b : Value} {F : Bool → Prop} (H : eqW P t (Region.isConst x || Region.isConst y) a b F) :
    ∃ r, F r ∧ ∀ w, (eqGuard op t x y a b).run P w = .ok () w ∧ (binOp .eql t a b).run P w = .ok (.bool r) w ∧ (binOp .neq t a b).run P w = .ok (.bool !r) w := by
  obtain ⟨r, hF, hr⟩ := eqW_spec H
  refine ⟨r, hF, fun w => ⟨?_, ?_, ?_⟩⟩
  · unfold eqW at H
    split at H
    · exact guard_easy (fun _ _ h => by cases h) (fun h => by cases h) w
    · cases e : P.eqGuardType P.depth t with
      | true => rw [e] at H; exact H.elim
      | false => exact run_eqGuard_agg w op t x y _ _ e
    · exact guard_easy (fun _ _ h => by cases h) (fun h => by cases h) w
    · exact guard_easy (fun _ _ h => by cases h) (fun h => by cases h) w
    · exact guard_easy (fun _ _ h => by cases h) (fun h => by cases h) w
    · exact guard_easy (fun _ _ h => by cases h) (fun h => by cases h) w
    · split at H
      · cases e : (Region.isConst x || Region.isConst y) with
        | true => exact guard_nil e w
        | false => rw [e] at H; exact H.elim
      · exact H.elim
    · exact H.elim
  all_goals
    unfold eqW at H
    split at H
    all_goals first
      | exact H.elim
      | (simp only [binOp, Sem.run_bind, hr, Result.andThen_ok]; rfl)
theorem binW_spec {P : Program} {op : BinOp} {t : TypeId} {x y : Operand} {a b : Value} {F : Value → Prop} (H : binW P op t (Region.isConst x || Region.isConst y) a b F) :
    ∃ v, F v ∧ ∀ w, (do eqGuard op t x y a b; binOp op t a b : Sem Value).run P w = .ok v w := by
  unfold binW at H
  split at H
  · rename_i k a k' b
    have main : ∀ v w, (binOp op t (.int k a) (.int k' b)).run P w = .ok v w → (do eqGuard op t x y (.int k a) (.int k' b); binOp op t (.int k a) (.int k' b) : Sem Value).run P w = .ok v w := fun v w h => by
      rw [Sem.run_bind, guard_easy (fun _ _ h => by cases h) (fun h => by cases h) w]; exact h
    split at H
    · obtain ⟨hb, H⟩ := H
      have hb : 0 ≤ b := hb
      exact ⟨_, H, fun w => main _ w (by simp only [binOp, Op.shift, if_neg (show ¬ b < 0 by omega)]; rfl)⟩
    · obtain ⟨hb, H⟩ := H
      have hb : 0 ≤ b := hb
      exact ⟨_, H, fun w => main _ w (by simp only [binOp, Op.shift, if_neg (show ¬ b < 0 by omega)]; rfl)⟩
    · rename_i h1 h2
      cases e : ikEq k k' with
      | false => rw [e] at H; exact H.elim
      | true =>
        rw [e] at H
        have := ikEq_spec e
        subst this
        obtain ⟨v, H, hv⟩ := binInt_spec H h1 h2 t
        exact ⟨v, H, fun w => main v w (hv w)⟩
  · rename_i a b
    obtain ⟨v, H, hv⟩ := binStr_spec H t
    exact ⟨v, H, fun w => by rw [Sem.run_bind, guard_easy (fun _ _ h => by cases h) (fun h => by cases h) w]; exact hv w⟩
  · split at H
    · obtain ⟨r, hF, hr⟩ := eq_run (op := .eql) (x := x) (y := y) H
      exact ⟨_, hF, fun w => by rw [Sem.run_bind, (hr w).1]; exact (hr w).2.1⟩
    · obtain ⟨r, hF, hr⟩ := eq_run (op := .neq) (x := x) (y := y) H
      exact ⟨_, hF, fun w => by rw [Sem.run_bind, (hr w).1]; exact (hr w).2.2⟩
    · exact H.elim
theorem unW_spec {P : Program} {op : UnOp} {x : Value} {F : Value → Prop} (H : unW op x F) : ∃ v, F v ∧ ∀ w, (Op.unary op x).run P w = .ok v w := by
  unfold unW at H
  split at H
  · exact ⟨_, H, fun w => by simp [Op.unary, Op.intArith]⟩
  · exact ⟨_, H, fun w => rfl⟩
  · exact ⟨_, H, fun w => by simp [Op.unary]⟩
  · exact H.elim
theorem HeapR.of_heap {w0 : World} {h0 : Hp} {ρ : Nat → Nat} {st : St} {h : Hp} {w w' : World} (H : HeapR w0 h0 ρ st h w) (e : w'.heap = w.heap) (e1 : w'.os = w.os) (e2 : w'.tape = w.tape) (e3 : w'.output = w.output) : HeapR w0 h0 ρ st h w' :=
  ⟨fun b o hb => e ▸ H.holds b o hb, ⟨e1.trans H.kept.os, e2.trans H.kept.tape, e3.trans H.kept.output, e ▸ H.kept.size, fun b o hb hn => e ▸ H.kept.block b o hb hn⟩, fun l cs t hl => e ▸ H.loc l cs t hl, H.inj, H.top⟩
theorem HeapR.push {w0 : World} {h0 : Hp} {ρ : Nat → Nat} {st : St} {h : Hp} {w w' : World} (H : HeapR w0 h0 ρ st h w) {o : Obj} (e : w'.heap = w.heap.push o) (e1 : w'.os = w.os) (e2 : w'.tape = w.tape) (e3 : w'.output = w.output) : HeapR w0 h0 ρ st (h.upd w.heap.size o) w' :=
  (H.alloc o).of_heap e e1 e2 e3
/-- A told block that is written. -/
theorem HeapR.setB {w0 : World} {h0 : Hp} {ρ : Nat → Nat} {st : St} {h : Hp} {w : World} (H : HeapR w0 h0 ρ st h w) {b : Nat} {x : Obj} (hb : h b = some x) (o : Obj) : HeapR w0 h0 ρ st (h.upd b o) (w.setB b o) := by
  have hlt := get_lt (H.holds b x hb)
  refine ⟨fun c y hc => ?_, ⟨H.kept.os, H.kept.tape, H.kept.output, Nat.le_trans H.kept.size (by simp [World.setB]), fun c y hc hn => ?_⟩, fun l cs t hl => ?_, H.inj, H.top⟩
  · rw [setB_get _ _ _ _ hlt]
    by_cases e : c = b
    · subst e; rw [Hp.upd_same] at hc; rw [if_pos rfl]; exact hc
    · rw [Hp.upd_ne _ _ e] at hc; rw [if_neg e]; exact H.holds c y hc
  · obtain ⟨h1, h2⟩ := H.kept.block c y hc hn
    have e : c ≠ b := fun e => by subst e; rw [hb] at h2; cases h2
    rw [setB_get _ _ _ _ hlt, if_neg e, Hp.upd_ne _ _ e]; exact ⟨h1, h2⟩
  · obtain ⟨h1, h2, h3⟩ := H.loc l cs t hl
    have e : ρ l ≠ b := fun e => by rw [e, hb] at h2; cases h2
    rw [setB_get _ _ _ _ hlt, if_neg e, Hp.upd_ne _ _ e]; exact ⟨h1, h2, h3⟩
/-- A local block that is written. -/
theorem HeapR.setL {w0 : World} {h0 : Hp} {ρ : Nat → Nat} {st : St} {h : Hp} {w : World} (H : HeapR w0 h0 ρ st h w) {l : Nat} {cs ds : List Value} {t : TypeId} (hl : st.L l = some (cs, t)) :
    HeapR w0 h0 ρ (st.setL l ds t) h (w.setB (ρ l) (.cells ds.toArray t (0, 0))) := by
  obtain ⟨g1, g2, g3⟩ := H.loc l cs t hl
  have hlt := get_lt g1
  have key : ∀ m x, (st.setL l ds t).L m = some x → (m = l ∧ x = (ds, t)) ∨ (m ≠ l ∧ st.L m = some x) := by
    intro m x e
    simp only [St.setL] at e
    by_cases hm : m = l
    · subst hm; rw [nbeq_self] at e; cases e; exact .inl ⟨rfl, rfl⟩
    · rw [nbeq_ne hm] at e; exact .inr ⟨hm, e⟩
  have any : ∀ m x, (st.setL l ds t).L m = some x → ∃ y, st.L m = some y := by
    intro m x e
    rcases key m x e with ⟨rfl, _⟩ | ⟨_, h⟩
    · exact ⟨_, hl⟩
    · exact ⟨_, h⟩
  refine ⟨fun c y hc => ?_, ⟨H.kept.os, H.kept.tape, H.kept.output, Nat.le_trans H.kept.size (by simp [World.setB]), fun c y hc hn => ?_⟩, fun m ds' u hm => ?_, fun m n x y e1 e2 e3 => ?_, fun m hm => ?_⟩
  · have e : c ≠ ρ l := fun e => by rw [e, g2] at hc; cases hc
    rw [setB_get _ _ _ _ hlt, if_neg e]; exact H.holds c y hc
  · obtain ⟨h1, h2⟩ := H.kept.block c y hc hn
    have e : c ≠ ρ l := fun e => by rw [e] at hc hn; exact g3 y hc hn
    rw [setB_get _ _ _ _ hlt, if_neg e]; exact ⟨h1, h2⟩
  · rcases key m _ hm with ⟨rfl, hx⟩ | ⟨hne, hx⟩
    · cases hx
      exact ⟨by rw [setB_get _ _ _ _ hlt]; exact if_pos rfl, g2, g3⟩
    · obtain ⟨h1, h2, h3⟩ := H.loc m ds' u hx
      have e : ρ m ≠ ρ l := fun e => hne (H.inj m l _ _ hx hl e)
      rw [setB_get _ _ _ _ hlt, if_neg e]; exact ⟨h1, h2, h3⟩
  · obtain ⟨x', hx⟩ := any m x e1
    obtain ⟨y', hy⟩ := any n y e2
    exact H.inj m n _ _ hx hy e3
  · have hm' : st.n ≤ m := hm
    have e : m ≠ l := fun e => by rw [← e, H.top m hm'] at hl; cases hl
    simp only [St.setL]; rw [nbeq_ne e]; exact H.top m hm'
theorem Ext.setL {ρ : Nat → Nat} {st : St} {l : Nat} {cs : List Value} {t : TypeId} : Ext ρ ρ st (st.setL l cs t) := by
  refine ⟨Nat.le_refl _, fun _ _ => rfl, fun m _ => ?_, rfl⟩
  by_cases e : m = l
  · subst e; simp only [St.setL, nbeq_self, cond_true]; exact ⟨by omega, fun h => by omega⟩
  · simp only [St.setL, nbeq_ne e, cond_false]; exact ⟨Nat.le_refl _, fun _ => trivial⟩
end Go.Gx
