/- Soundness of the executor, third part: the operations that touch no heap, and loads. -/
import Derived.Test.YtagglohkipioiaaGreatGxS2
namespace Go.Gx

def Nx (w0 : World) (h0 : Hp) (ρ : Nat → Nat) (st : St) (a : Act) (dst : Option Tmp) (K : SV → St → Hp → Prop) (next : Act → World → Prop) : Prop :=
  ∀ sv v st' h' w' ρ', K sv st' h' → SVr ρ' st'.n sv v → HeapR w0 h0 ρ' st' h' w' → Ext ρ ρ' st st' → st'.e = st.e → next (a.put dst v) w'
theorem Nx.pure {w0 : World} {h0 : Hp} {ρ : Nat → Nat} {st : St} {a : Act} {dst : Option Tmp} {K : SV → St → Hp → Prop} {next : Act → World → Prop} {h : Hp} {w : World} {sv : SV} {v : Value}
    (n : Nx w0 h0 ρ st a dst K next) (k : K sv st h) (r : SVr ρ st.n sv v) (hh : HeapR w0 h0 ρ st h w) : next (a.put dst v) w := n _ _ _ _ _ ρ k r hh (Ext.refl ρ st) rfl

theorem run_v {P : Program} {s : Sem Value} {w w' : World} {v : Value} (h : s.run P w = .ok v w') : (do pure (Next.value (← s)) : Sem Next).run P w = .ok (.value v) w' := by
  rw [Sem.run_bind, h]; rfl
theorem ikEq_spec {j k : IntKind} (h : ikEq j k = true) : j = k := by
  cases j <;> cases k <;> first | rfl | (revert h; decide)
theorem at_spec {ρ : Nat → Nat} {n : Nat} {s : SV} {v : Value} {F : Pl → Prop} (h : s.at F) (r : SVr ρ n s v) :
    (∃ l o, s = .loc l o ∧ l < n ∧ v = .pointer (some ⟨ρ l, o, none⟩) ∧ F (.loc l o)) ∨ ∃ b o, v = .pointer (some ⟨b, o, none⟩) ∧ F (.ptr b o) := by
  cases s with
  | loc l o => exact .inl ⟨l, o, rfl, r.1, r.2, h⟩
  | ptr b o => exact .inr ⟨b, o, r, h⟩
  | dead => exact h.elim
  | val u =>
    have r' : v = u := r
    subst r'
    cases v with
    | pointer x =>
      obtain ⟨b, o, e, h⟩ := h
      subst e
      exact .inr ⟨b, o, rfl, h⟩
    | _ => exact h.elim
theorem part_spec {P : Program} {t : TypeId} {cs : List Value} {o : Nat} {F : Value → Prop} (H : loadL P t cs o F) : ∃ v, F v ∧ ∀ w, (part t cs.toArray o).run P w = .ok v w := by
  unfold loadL at H
  cases e : aggT P t with
  | true =>
    rw [e] at H; simp only [cond_true] at H
    cases e2 : Nat.ble (o + szT P t) cs.length with
    | false => rw [e2] at H; exact H.elim
    | true =>
      rw [e2] at H; simp only [cond_true] at H
      have hu : ∃ d, P.underlying t = some d := by
        unfold aggT at e
        cases hd : tdesc P t <;> rw [hd] at e <;> first | (cases e; done) | exact ⟨_, tdesc_some hd (by simp)⟩
      obtain ⟨d, hu⟩ := hu
      refine ⟨_, H, fun w => ?_⟩
      unfold part
      rw [Sem.run_bind, run_agg hu, e]
      simp only [Result.andThen_ok, if_true, Sem.run_bind, run_size (okT_of_under hu)]
      simp
  | false =>
    rw [e] at H; simp only [cond_false] at H
    cases e2 : okU P t with
    | false => rw [e2] at H; exact H.elim
    | true =>
      rw [e2] at H; simp only [cond_true] at H
      cases e3 : cs[o]? with
      | none => rw [e3] at H; exact H.elim
      | some v =>
        rw [e3] at H
        refine ⟨v, H, fun w => ?_⟩
        unfold part
        rw [Sem.run_bind, run_agg (okU_some e2), e]
        simp [e3]
/-- A local block's load. -/
theorem loadL_spec {P : Program} {t u : TypeId} {cs : List Value} {b o : Nat} {F : Value → Prop} (H : loadL P t cs o F) :
    ∃ v, F v ∧ ∀ w : World, w.heap[b]? = some (.cells cs.toArray u (0, 0)) → (loadVar t ⟨b, o, none⟩).run P w = .ok v w := by
  have hc : ∀ w : World, w.heap[b]? = some (.cells cs.toArray u (0, 0)) → ∀ j (hj : j < cs.length), w.cell? ⟨b, j, none⟩ = some cs[j] := fun w hb j hj => by simp [World.cell?, hb, hj]
  unfold loadL at H
  cases e : aggT P t with
  | true =>
    rw [e] at H; simp only [cond_true] at H
    cases e2 : Nat.ble (o + szT P t) cs.length with
    | false => rw [e2] at H; exact H.elim
    | true =>
      rw [e2] at H; simp only [cond_true] at H
      have hle : o + szT P t ≤ cs.length := Nat.le_of_ble_eq_true e2
      have hu : ∃ d, P.underlying t = some d := by
        unfold aggT at e
        cases hd : tdesc P t <;> rw [hd] at e <;> first | (cases e; done) | exact ⟨_, tdesc_some hd (by simp)⟩
      obtain ⟨d, hu⟩ := hu
      refine ⟨_, H, fun w hb => ?_⟩
      unfold loadVar
      rw [Sem.run_bind, run_agg hu, e]
      simp only [Result.andThen_ok, if_true, Sem.run_bind, run_size (okT_of_under hu)]
      rw [run_loadCells ((cs.drop o).take (szT P t)) (fun j hj => by
        simp only [List.length_take, List.length_drop] at hj
        rw [hc w hb (o + j) (by omega)]; simp) (by simp; omega)]
      rfl
  | false =>
    rw [e] at H; simp only [cond_false] at H
    cases e2 : okU P t with
    | false => rw [e2] at H; exact H.elim
    | true =>
      rw [e2] at H; simp only [cond_true] at H
      cases e3 : cs[o]? with
      | none => rw [e3] at H; exact H.elim
      | some v =>
        rw [e3] at H
        refine ⟨v, H, fun w hb => ?_⟩
        unfold loadVar
        rw [Sem.run_bind, run_agg (okU_some e2), e]
        simp only [Result.andThen_ok, Bool.false_eq_true, if_false]
        obtain ⟨hlt, hx⟩ := List.getElem?_eq_some_iff.1 e3
        exact run_load (by rw [hc w hb o hlt, hx])

/-! ### arithmetic -/
theorem binInt_spec {P : Program} {op : BinOp} {k : IntKind} {a b : Int} {F : Value → Prop} (H : binInt op k a b F) (hs : op ≠ .shl) (hr : op ≠ .shr) (t : TypeId) : ∃ v, F v ∧ ∀ w, (binOp op t (.int k a) (.int k b)).run P w = .ok v w := by
  cases op <;> simp only [binInt, ieq, ine, ilt, ile, igt, ige, hb_eq] at H <;> first
    | exact H.elim
    | exact absurd rfl hs
    | exact absurd rfl hr
    | (obtain ⟨hb, H⟩ := H; exact ⟨_, H, fun w => by simp [binOp, Op.intDiv, hb]⟩)
    | exact ⟨_, H, fun w => by (simp only [binOp, Op.intArith, Op.intBits, Op.intCmp, ne_eq, not_true, if_false]; rfl)⟩
theorem binStr_spec {P : Program} {op : BinOp} {x y : ByteArray} {F : Value → Prop} (H : binStr op x y F) (t : TypeId) : ∃ v, F v ∧ ∀ w, (binOp op t (.string x) (.string y)).run P w = .ok v w := by
  cases op <;> simp only [binStr, beqS, bltS, hb_eq] at H <;> first
    | exact H.elim
    | (obtain ⟨hb, H⟩ := H
       have hn : ¬ ((x.size + y.size : Nat) : Int) > IntKind.i64.max := by
         have : IntKind.i64.max = 9223372036854775807 := by decide
         have hb : x.size + y.size ≤ 9223372036854775807 := hb
         omega
       exact ⟨_, H, fun w => by simp only [binOp, Op.stringOp, if_neg hn]; rfl⟩)
    | exact ⟨_, H, fun w => by simp [binOp, Op.stringOp]⟩
theorem bne_of (n : Field) (h : (n.name == "_") = false) : n.name ≠ "_" := by simpa using h
theorem eqFsW_spec {P : Program} {eq : TypeId → Value → Value → (Bool → Prop) → Prop} {d : Nat} (heq : ∀ t x y F, eq t x y F → ∃ r, F r ∧ ∀ w, (Op.equalIn d t x y).run P w = .ok r w) {xs ys : List Value} :
    ∀ {fs : List Field} {F : Bool → Prop}, eqFsW P eq xs ys fs F → ∃ r, F r ∧ ∀ w, (Op.eqFields d xs.toArray ys.toArray fs).run P w = .ok r w
  | [], F, H => ⟨true, H, fun w => by simp [Op.eqFields]⟩
  | f :: fs, F, H => by
    unfold eqFsW at H
    cases e : f.name == "_" with
    | true => rw [e] at H; exact H.elim
    | false =>
      rw [e] at H; simp only [cond_false] at H
      obtain ⟨va, H, ra⟩ := part_spec H
      obtain ⟨vb, H, rb⟩ := part_spec H
      obtain ⟨r, H, rr⟩ := heq _ _ _ _ H
      obtain ⟨s, H, rs⟩ := eqFsW_spec heq H
      refine ⟨r && s, H, fun w => ?_⟩
      simp only [Op.eqFields, bne_of f e, ne_eq, not_false_eq_true, if_true, Sem.run_bind, ra, rb, rr, Result.andThen_ok]
      cases r
      · simp
      · simp [rs]
theorem eqTy_spec {P : Program} : ∀ (d n : Nat) (_ : d ≤ n) (t : TypeId) (x y : Value) (F : Bool → Prop), eqTy P d t x y F → ∃ r, F r ∧ ∀ w, (Op.equalIn n t x y).run P w = .ok r w
  | 0, _, _, _, _, _, _, H => H.elim
  | d + 1, 0, hn, _, _, _, _, _ => by omega
  | d + 1, n + 1, hn, t, x, y, F, H => by
    unfold eqTy at H
    split at H
    · rename_i e
      cases e2 : ikEq _ _ with
      | false => rw [e2] at H; exact H.elim
      | true =>
        rw [e2] at H
        have := ikEq_spec e2
        subst this
        simp only [ieq, hb_eq, cond_true] at H
        exact ⟨_, H, fun w => run_equalIn_int w n t _ _ _ _ (tdesc_some e (by simp))⟩
    · rename_i e; exact ⟨_, H, fun w => run_equalIn_bool w n t _ _ (tdesc_some e (by simp))⟩
    · rename_i e
      simp only [beqS, hb_eq] at H
      exact ⟨_, H, fun w => run_equalIn_string w n t _ _ (tdesc_some e (by simp))⟩
    · rename_i fs xs ys e
      cases e2 : P.stoodInHeld t with
      | true => rw [e2] at H; exact H.elim
      | false =>
        rw [e2] at H; simp only [cond_false] at H
        have hu := tdesc_some e (by simp)
        have hf : P.fieldsOf t = fs := by unfold Program.fieldsOf; rw [hu]
        obtain ⟨r, hF, hr⟩ := eqFsW_spec (fun t x y F h => eqTy_spec d n (by omega) t x y F h) H
        refine ⟨r, hF, fun w => ?_⟩
        rw [run_equalIn_struct w n t xs ys (by rw [hf]; exact hu) e2, hf]
        simpa using hr w
    · exact H.elim
theorem eqW_spec {P : Program} {t : TypeId} {c : Bool} {x y : Value} {F : Bool → Prop} (H : eqW P t c x y F) : ∃ r, F r ∧ ∀ w, (Op.equal t x y).run P w = .ok r w := by
  unfold Op.equal
  obtain ⟨n, hn, h7, h5⟩ : ∃ n, Op.maxDepth = n + 1 ∧ 7 ≤ n ∧ 5 ≤ n + 1 := ⟨9999, rfl, by omega, by omega⟩
  rw [hn]
  clear hn
  unfold eqW at H
  split at H
  · exact eqTy_spec 1 _ (by omega) _ _ _ _ H
  · cases e : P.eqGuardType P.depth t with
    | true => rw [e] at H; exact H.elim
    | false =>
      rw [e] at H
      cases eB : litT P t with
      | false => rw [eB] at H; exact eqTy_spec 5 _ h5 _ _ _ _ H
      | true =>
        rw [eB] at H
        simp only [cond_true, cond_false] at H
        cases eK : P.keyTypeAt 8 t with
        | false => rw [eK] at H; exact H.elim
        | true =>
          rw [eK] at H
          obtain ⟨ls, ms, ⟨z1, D, h1⟩, ⟨z2, D', h2⟩, H⟩ := H
          have ea : aggT P t = true := by
            unfold litT at eB
            split at eB
            · rename_i e5; unfold aggT; rw [e5]
            · unfold blobT at eB
              exact (Bool.and_eq_true_iff.1 (Bool.and_eq_true_iff.1 eB).1).1
          have hf : ∀ zs : Array Value, zs.toList.length = P.cellsOf t → Value.formed P t (.agg zs) = true := by
            intro zs hz
            have hz : (zs.size == P.cellsOf t) = true := by rw [← hz]; simp
            unfold aggT at ea
            cases hd : tdesc P t <;> rw [hd] at ea <;> first | (cases ea; done) | (unfold Value.formed; rw [tdesc_some hd (by simp)]; exact hz)
          refine ⟨_, H, fun w => ?_⟩
          obtain ⟨r, hr, hiff⟩ := run_equalIn_deep (P := P) (n - 7) 8 t eK w D D' (.agg _) (.agg _) ls ms (hf _ z1) (hf _ z2) h1 h2
          rw [show n - 7 + 8 = n + 1 by omega] at hr
          rw [hr]
          congr 1
          unfold leqL
          rw [hb_eq]
          cases r
          · have : ¬ ls = ms := fun e => by have := hiff.2 e; cases this
            simp [this]
          · simp [hiff.1 rfl]
  · split at H
    · rename_i he
      refine ⟨_, H, fun w => ?_⟩
      cases ‹Option Addr› <;> simp only [Op.equalIn, Sem.run_bind, run_under (tdesc_some he (by simp)), Result.andThen_ok] <;> rfl
    · exact H.elim
  · split at H
    · rename_i he
      refine ⟨_, H, fun w => ?_⟩
      cases ‹Option Addr› <;> simp only [Op.equalIn, Sem.run_bind, run_under (tdesc_some he (by simp)), Result.andThen_ok] <;> rfl
    · exact H.elim
  · split at H
    · rename_i he
      refine ⟨_, H, fun w => ?_⟩
      cases ‹Option Nat› <;> simp only [Op.equalIn, Sem.run_bind, run_under (tdesc_some he (by simp)), Result.andThen_ok] <;> rfl
    · exact H.elim
  · split at H
    · rename_i he
      refine ⟨_, H, fun w => ?_⟩
      simp only [Op.equalIn, Sem.run_bind, run_under (tdesc_some he (by simp)), Result.andThen_ok]; rfl
    · exact H.elim
  · split at H
    · rename_i he
      cases c with
      | false => exact H.elim
      | true =>
        refine ⟨_, H, fun w => ?_⟩
        simp only [Op.equalIn, Sem.run_bind, run_under (tdesc_some he (by simp)), Result.andThen_ok]; rfl
    · exact H.elim
  · exact H.elim
end Go.Gx
