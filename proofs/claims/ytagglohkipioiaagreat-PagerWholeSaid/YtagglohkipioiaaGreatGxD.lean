/- Soundness of the executor: regions whose operations may come up in more than one order. -/
import Derived.Test.YtagglohkipioiaaGreatGxO
namespace Go.Gx

section
variable {P : Program} {ops : Array Oper} {Q : Exit → Act → World → Prop} {S : Array Bool → World → Prop}

/-- What is listed has behind it what it waits for. -/
def Closed (ops : Array Oper) (L : Array Bool) : Prop := ∀ j o, ops[j]? = some o → L.getD j false = true → ∀ e ∈ o.after, Region.binds .any e = true → L.getD e.on false = true
theorem Closed.start : Closed ops (Array.replicate ops.size false) := fun j o _ h => by
  rw [Array.getD_eq_getD_getElem?, Array.getElem?_replicate] at h
  split at h <;> simp at h
theorem Closed.step {L : Array Bool} {i : Nat} (h : Closed ops L) (hi : i ∈ Region.ready .any ops L) : Closed ops (L.setIfInBounds i true) := fun j o hj hl e he hb => by
  by_cases e1 : j = i
  · subst e1
    obtain ⟨_, o', ho', hall⟩ := mem_ready.1 hi
    rw [hj] at ho'; cases ho'
    exact getD_set_true (hall e he hb)
  · rw [getD_set_ne false (Ne.symm e1)] at hl
    exact getD_set_true (h j o hj hl e he hb)
theorem unlisted {L : Array Bool} {i : Nat} (h : L.getD i true = false) (h' : L.getD i false = true) : False := by
  rw [Array.getD_eq_getD_getElem?] at h h'
  cases e : L[i]? with
  | none => rw [e] at h; simp at h
  | some b => rw [e] at h h'; simp at h h'; rw [h] at h'; cases h'
theorem ancs_spec {L : Array Bool} (hc : Closed ops L) : ∀ (l m : List Nat), (∀ j ∈ m, L.getD j false = true) → ∀ j ∈ ancs ops m l, L.getD j false = true
  | [], _, hm => hm
  | k :: l, m, hm => by
    refine ancs_spec hc l _ ?_
    cases e : m.any (Nat.beq k) with
    | false => exact hm
    | true =>
      obtain ⟨k', hk, hb⟩ := List.any_eq_true.1 e
      have := Nat.eq_of_beq_eq_true hb
      subst this
      simp only [cond_true]
      cases eo : ops[k]? with
      | none => exact hm
      | some o =>
        intro j hj
        rcases List.mem_append.1 hj with hj | hj
        · obtain ⟨ed, hd, rfl⟩ := List.mem_map.1 hj
          obtain ⟨h1, h2⟩ := List.mem_filter.1 hd
          exact hc k o eo (hm k hk) ed (by simpa using h1) h2
        · exact hm j hj

/-- Whatever order is picked from here on, with a condition behind every operation. -/
def wpX (P : Program) (ops : Array Oper) (Q : Exit → Act → World → Prop) (S : Array Bool → World → Prop) : Nat → Array Bool → Act → World → Prop
  | 0, L, a, w => Region.ready .any ops L = [] ∧ Q .normal a w
  | n + 1, L, a, w => (Region.ready .any ops L = [] → Q .normal a w) ∧
      ∀ i ∈ Region.ready .any ops L, wpOp P ops Q i (fun a' w' => S (L.setIfInBounds i true) w' ∧ wpX P ops Q S n (L.setIfInBounds i true) a' w') a w
theorem wpX_any : ∀ (n : Nat) (L : Array Bool) (a : Act) (w : World), wpX P ops Q S n L a w → wpAny P .any ops Q n L a w
  | 0, _, _, _, h => h
  | n + 1, _, _, _, h => ⟨h.1, fun i hi => wpOp_mono (fun a' w' h' => wpX_any n _ a' w' h'.2) (h.2 i hi)⟩
theorem wpX_done {L : Array Bool} {a : Act} {w : World} (hr : Region.ready .any ops L = []) (h : Q .normal a w) : ∀ n, wpX P ops Q S n L a w
  | 0 => ⟨hr, h⟩
  | _ + 1 => ⟨fun _ => h, by rw [hr]; simp⟩
theorem wpX_first {i : Nat} {oi : Oper} {v : Value} (hi : ops[i]? = some oi) (hsel : Region.noSelect ops = true)
    (hQ : ∀ c a w, Q (.panic c) (a.put oi.dst v) w → Q (.panic c) a w) (hS' : ∀ L w, S L w → S (L.setIfInBounds i true) w) (hS : ∀ L w, Closed ops L → L.getD i true = false → S (L.setIfInBounds i true) w → S L w) :
    ∀ (n : Nat) (L : Array Bool) (a : Act) (w : World), Closed ops L →
      (∀ j oj, ops[j]? = some oj → j ≠ i → L.getD j true = false → (∀ e ∈ oj.after, Region.binds .any e = true → e.on ≠ i) → oi.apart ops oj = true) →
      i ∈ Region.ready .any ops L → YieldsIf P ops (fun w => ∃ L, Closed ops L ∧ L.getD i true = false ∧ S L w) oi v a → S L w →
      wpX P ops Q S n (L.setIfInBounds i true) (a.put oi.dst v) w → wpX P ops Q S (n + 1) L a w := by
  have take : ∀ (n : Nat) (L : Array Bool) (a : Act) (w : World), Closed ops L → i ∈ Region.ready .any ops L → YieldsIf P ops (fun w => ∃ L, Closed ops L ∧ L.getD i true = false ∧ S L w) oi v a → S L w →
      wpX P ops Q S n (L.setIfInBounds i true) (a.put oi.dst v) w → wpOp P ops Q i (fun a' w' => S (L.setIfInBounds i true) w' ∧ wpX P ops Q S n (L.setIfInBounds i true) a' w') a w := fun n L a w hc hr hy hs H =>
    hy.wpOp hi ⟨L, hc, (mem_ready.1 hr).1, hs⟩ ⟨hS' L w hs, H⟩
  intro n
  induction n with
  | zero =>
    intro L a w hc _ hr hy hs H
    refine ⟨fun h => (by rw [h] at hr; cases hr), fun j hj => ?_⟩
    by_cases e : j = i
    · subst e; exact take 0 L a w hc hr hy hs H
    · have h0 := ready_mono hj e
      rw [H.1] at h0; cases h0
  | succ n ih =>
    intro L a w hc hf hr hy hs H
    refine ⟨fun h => (by rw [h] at hr; cases hr), fun j hj => ?_⟩
    by_cases e : j = i
    · subst e; exact take (n + 1) L a w hc hr hy hs H
    · obtain ⟨hju, oj, hoj, hall⟩ := mem_ready.1 hj
      have hiu := (mem_ready.1 hr).1
      have hno : ∀ ed ∈ oj.after, Region.binds .any ed = true → ed.on ≠ i := fun ed he hb heq => unlisted hiu (heq ▸ hall ed he hb)
      refine wpOp_mono (fun a' w' h => ?_) (wpOp_putIf hoj (hf j oj hoj e hju hno) (fun cs b => Region.noSelect_spec hsel i oi cs b hi) (fun cs b => Region.noSelect_spec hsel j oj cs b hoj) hQ hy (H.2 j (ready_mono hj e)))
      obtain ⟨hy', hs', H'⟩ := h
      have hiu' : (L.setIfInBounds j true).getD i true = false := by rw [getD_set_ne true e]; exact hiu
      rw [Array.setIfInBounds_comm _ _ (Ne.symm e)] at hs' H'
      have hs1 := hS _ _ (hc.step hj) hiu' hs'
      refine ⟨hs1, ih _ a' w' (hc.step hj) (fun k ok hk hki hku hkn => hf k ok hk hki ?_ hkn) (ready_mono hr (Ne.symm e)) hy' hs1 H'⟩
      by_cases ek : j = k
      · subst ek; exact hju
      · rw [getD_set_ne true ek] at hku; exact hku
end

section
variable {P : Program} {H : Hints} {w0 : World} {h0 : Hp}
theorem opQ_spec {ops : Array Oper} {o : Oper} {L : Nat → Option (List Value × TypeId)} {st : St} {h hl : Hp} {K : St → Prop} {a : Act} {ρ : Nat → Nat} (hW : opQ P H ops o L st h hl K) (hq : quietOp P o.op = true)
    (he : EnvR ρ st a.tmps) (hN : a.tmps.size = H.N) :
    ∃ v st', K st' ∧ EnvR ρ st' (a.put o.dst v).tmps ∧ (∀ w, HeapR w0 h0 ρ st h w → HeapR w0 h0 ρ st' h w) ∧ Ext ρ ρ st st' ∧ YieldsIf P ops (fun w => Holds hl w ∧ LocR ρ { st with L := L } w) o v a := by
  have main : ∀ st1 : St, EnvR ρ st1 a.tmps → (∀ w, HeapR w0 h0 ρ st h w → HeapR w0 h0 ρ st1 h w) → Ext ρ ρ st st1 → Region.wanted o (yielded ops a.tmps) = true →
      opW P H o { st1 with L := L } h hl (fun s _ _ => K (st1.put H.N o.dst s)) →
      ∃ v st', K st' ∧ EnvR ρ st' (a.put o.dst v).tmps ∧ (∀ w, HeapR w0 h0 ρ st h w → HeapR w0 h0 ρ st' h w) ∧ Ext ρ ρ st st' ∧ YieldsIf P ops (fun w => Holds hl w ∧ LocR ρ { st1 with L := L } w) o v a := by
    intro st1 he1 hh1 hx1 hw hW
    obtain ⟨sv, v, hk, hs, hr⟩ := quiet_spec hq hW (show EnvR ρ { st1 with L := L } a.tmps from he1)
    exact ⟨v, _, hk, he1.put hN hs, fun w hh => (hh1 w hh).put _ _ _, hx1.trans (Ext.put _ _ _ _ _), .inl ⟨hw, fun w ⟨h1, h2⟩ => hr w h1 h2⟩⟩
  have skip : ∀ st1 : St, EnvR ρ st1 a.tmps → (∀ w, HeapR w0 h0 ρ st h w → HeapR w0 h0 ρ st1 h w) → Ext ρ ρ st st1 → Region.wanted o (yielded ops a.tmps) = false → K (st1.put H.N o.dst (.val undef)) →
      ∃ v st', K st' ∧ EnvR ρ st' (a.put o.dst v).tmps ∧ (∀ w, HeapR w0 h0 ρ st h w → HeapR w0 h0 ρ st' h w) ∧ Ext ρ ρ st st' ∧ YieldsIf P ops (fun w => Holds hl w ∧ LocR ρ { st with L := L } w) o v a := by
    intro st1 he1 hh1 hx1 hw hk
    exact ⟨undef, _, hk, he1.put hN rfl, fun w hh => (hh1 w hh).put _ _ _, hx1.trans (Ext.put _ _ _ _ _), .inr ⟨hw, rfl⟩⟩
  unfold opQ at hW
  cases hg : o.guard with
  | none =>
    rw [hg] at hW
    exact main st he (fun _ h => h) (Ext.refl _ _) (by simp only [Region.wanted, hg]) hW
  | some jw =>
    obtain ⟨j, want⟩ := jw
    rw [hg] at hW
    simp only [] at hW
    cases hd : (ops[j]?).bind (·.dst) with
    | none => rw [hd] at hW; exact hW.elim
    | some d =>
      rw [hd] at hW
      simp only [] at hW
      have hed := he d
      split at hW
      · rename_i b eb
        rw [eb] at hed
        have hed' : a.tmps.getD d undef = .bool b := hed
        have hy : yielded ops a.tmps j = some b := by
          unfold yielded
          simp only [hd, Option.bind_some, getD_some hed' (by intro h; cases h)]
        have he' : EnvR ρ (st.set d (.val (.bool b))) a.tmps := he.setBool hed'
        have hw : Region.wanted o (yielded ops a.tmps) = (b == want) := by
          simp only [Region.wanted, hg]; rw [hy]; cases b <;> cases want <;> rfl
        cases b <;> cases want <;> simp only [cond_true, cond_false] at hW
        · exact main (st.set d (.val (.bool _))) he' (fun _ hh => hh.set _ _) (Ext.set _ _ _ _) hw hW
        · exact skip (st.set d (.val (.bool _))) he' (fun _ hh => hh.set _ _) (Ext.set _ _ _ _) hw hW
        · exact skip (st.set d (.val (.bool _))) he' (fun _ hh => hh.set _ _) (Ext.set _ _ _ _) hw hW
        · exact main (st.set d (.val (.bool _))) he' (fun _ hh => hh.set _ _) (Ext.set _ _ _ _) hw hW
      · rename_i vs eb
        rw [eb] at hed
        have hed' : a.tmps.getD d undef = .tuple vs := hed
        have hy : yielded ops a.tmps j = none := by
          unfold yielded
          simp only [hd, Option.bind_some]
          rw [Array.getD_eq_getD_getElem?] at hed'
          cases e : a.tmps[d]? with
          | none => rfl
          | some x => rw [e] at hed'; simp at hed'; rw [hed']
        have hw : Region.wanted o (yielded ops a.tmps) = false := by
          simp only [Region.wanted, hg]; rw [hy]; cases want <;> rfl
        exact skip _ he (fun _ h => h) (Ext.refl _ _) hw hW
      · exact hW.elim
def offX (x : Option Nat) (L : Array Bool) : Prop := ∃ y, x = some y ∧ L.getD y false = true
theorem offX_set {x : Option Nat} {L : Array Bool} {i : Nat} (h : offX x L) : offX x (L.setIfInBounds i true) := by
  obtain ⟨y, e, h⟩ := h
  exact ⟨y, e, getD_set_true h⟩
theorem offX_unset {x : Option Nat} {L : Array Bool} {i : Nat} (hi : isX x i = false) (h : offX x (L.setIfInBounds i true)) : offX x L := by
  obtain ⟨y, rfl, h⟩ := h
  refine ⟨y, rfl, ?_⟩
  have : i ≠ y := fun e => by subst e; unfold isX at hi; simp only [nbeq_self] at hi; cases hi
  rwa [getD_set_ne false this] at h
theorem ready_lt {md : Region.Mode} {ops : Array Oper} {L : Array Bool} {i : Nat} (h : i ∈ Region.ready md ops L) : i < L.size := by
  have h := (mem_ready.1 h).1
  rw [Array.getD_eq_getD_getElem?] at h
  rcases Nat.lt_or_ge i L.size with h' | h'
  · exact h'
  · rw [Array.getElem?_eq_none h'] at h; cases h
theorem ordW_sound {hS : Hp} {ops : Array Oper} {x : Option Nat} {m : List Nat} {st0 : St} {ρ0 : Nat → Nat} {hl : Hp} {Q : Exit → Act → World → Prop} {KK : St → Hp → Prop} {wS : World} (hS0 : HeapR w0 h0 ρ0 st0 hS wS)
    (hsel : Region.noSelect ops = true) (hm : ∀ L, Closed ops L → ∀ y, x = some y → L.getD y false = true → ∀ j ∈ m, L.getD j false = true) (hQ : ∀ c a w, ¬ Q (.panic c) a w) {a0 : Act} :
    ∀ (tr : Tr) {off : Bool} {st : St} {h : Hp} {a : Act} {w : World} {ρ : Nat → Nat} {L : Array Bool} {n : Nat} {hd : Bool}, ordW P H ops x m st0 hl tr off st h KK → orderOk P ops x m hd tr n L = true → Closed ops L → (off = true → offX x L) → (off = false → Holds hl w ∧ LocR ρ0 st0 w) →
      EnvR ρ st a.tmps → a.tmps.size = H.N → HeapR w0 h0 ρ st h w → Ext ρ0 ρ st0 st → a.defers = a0.defers → (∀ t, opsAsg ops.toList t = false → a.tmps[t]? = a0.tmps[t]?) →
      (∀ a' w', (∃ st' h' ρ', KK st' h' ∧ EnvR ρ' st' a'.tmps ∧ HeapR w0 h0 ρ' st' h' w' ∧ Ext ρ0 ρ' st0 st') → a'.tmps.size = H.N → a'.defers = a0.defers → (∀ t, opsAsg ops.toList t = false → a'.tmps[t]? = a0.tmps[t]?) → Q .normal a' w') →
      (hd = true → wpX P ops Q (fun L w => offX x L ∨ (Holds hl w ∧ LocR ρ0 st0 w)) n L a w) ∧
      ∀ k, n = k + 1 → ∀ i ∈ tr.alts, i ∈ Region.ready .any ops L → wpOp P ops Q i (fun a' w' => (offX x (L.setIfInBounds i true) ∨ (Holds hl w' ∧ LocR ρ0 st0 w')) ∧ wpX P ops Q (fun L w => offX x L ∨ (Holds hl w ∧ LocR ρ0 st0 w)) k (L.setIfInBounds i true) a' w') a w := by
  have hasg : ∀ i o, ops[i]? = some o → ∀ t, opsAsg ops.toList t = false → dstIs o t = false := fun i o ho t ht => by
    have : o ∈ ops.toList := by
      have := Array.mem_of_getElem? ho
      simpa using this
    unfold opsAsg at ht
    have := List.any_eq_false.1 ht o this
    unfold dstIs
    simpa using this
  intro tr
  induction tr with
  | done =>
    intro off st h a w ρ L n hd hW hO _ _ _ he hN hh hx hd' hf hn
    obtain ⟨_, hO⟩ := Bool.and_eq_true_iff.1 (show (hd && (Region.ready .any ops L).isEmpty) = true by unfold orderOk at hO; exact hO)
    exact ⟨fun _ => wpX_done (List.isEmpty_iff.1 hO) (hn _ _ ⟨st, h, ρ, hW, he, hh, hx⟩ hN hd' hf) _, fun _ _ i hi => by cases hi⟩
  | e =>
    intro off st h a w ρ L n hd hW hO _ _ _ he hN hh hx hd' hf hn
    unfold orderOk at hO
    exact ⟨(fun e => by subst e; cases hO), fun _ _ i hi => (by cases hi)⟩
  | q i t ih =>
    intro off st h a w ρ L n hd hW hO hc hoff hon he hN hh hx hd' hf hn
    refine ⟨fun ehd => ?_, fun _ _ i hi => by cases hi⟩
    cases n with
    | zero => unfold orderOk at hO; cases hO
    | succ n =>
    unfold orderOk at hO
    obtain ⟨hO, hO'⟩ := Bool.and_eq_true_iff.1 hO
    obtain ⟨_, hO⟩ := Bool.and_eq_true_iff.1 hO
    unfold ordW at hW
    cases ho : ops[i]? with
    | none => rw [ho] at hW; exact hW.elim
    | some o =>
      rw [ho] at hW hO
      simp only [] at hW hO
      have hS : offX x L ∨ (Holds hl w ∧ LocR ρ0 st0 w) := by
        cases off with
        | true => exact .inl (hoff rfl)
        | false => exact .inr (hon rfl)
      obtain ⟨hO1, hO2⟩ := Bool.and_eq_true_iff.1 hO
      obtain ⟨hfi, hO1⟩ := Bool.and_eq_true_iff.1 hO1
      obtain ⟨i', hi', hb⟩ := List.any_eq_true.1 hO1
      have := Nat.eq_of_beq_eq_true hb
      subst this
      obtain ⟨hq, hix⟩ := Bool.and_eq_true_iff.1 hfi
      obtain ⟨hq, hq2⟩ := Bool.and_eq_true_iff.1 hq
      have key : ∃ v st', ordW P H ops x m st0 hl t off st' h KK ∧ EnvR ρ st' (a.put o.dst v).tmps ∧ (∀ w, HeapR w0 h0 ρ st h w → HeapR w0 h0 ρ st' h w) ∧ Ext ρ ρ st st' ∧
          YieldsIf P ops (fun w => ∃ L, Closed ops L ∧ L.getD i true = false ∧ (offX x L ∨ (Holds hl w ∧ LocR ρ0 st0 w))) o v a := by
        cases hon : onI x m i with
        | true =>
          rw [hon] at hW
          simp only [cond_true] at hW
          obtain ⟨v, st', k1, k2, k3, k4, k5⟩ := opQ_spec (w0 := w0) (h0 := h0) hW hq he hN
          refine ⟨v, st', k1, k2, k3, k4, k5.imp (fun ⟨y1, y2⟩ => ⟨y1, fun w ⟨L', c', u', s'⟩ => y2 w ?_⟩) id⟩
          have : Holds hl w ∧ LocR ρ0 st0 w := by
            rcases s' with ⟨y, e, hy⟩ | s'
            · exfalso
              subst e
              unfold onI at hon
              obtain ⟨o1, _⟩ := Bool.and_eq_true_iff.1 hon
              obtain ⟨i2, hi2, hb2⟩ := List.any_eq_true.1 o1
              have := Nat.eq_of_beq_eq_true hb2
              subst this
              exact unlisted u' (hm L' c' y rfl hy i hi2)
            · exact s'
          refine ⟨this.1, fun b cs t e => ?_⟩
          have hlt : b < st0.n := by
            rcases Nat.lt_or_ge b st0.n with h' | h'
            · exact h'
            · have := hS0.top b h'
              rw [this] at e; cases e
          rw [hx.rho b hlt]
          exact this.2 b cs t e
        | false =>
          rw [hon] at hW
          simp only [cond_false] at hW
          obtain ⟨v, st', k1, k2, k3, k4, k5⟩ := opQ_spec (w0 := w0) (h0 := h0) hW hq he hN
          exact ⟨v, st', k1, k2, k3, k4, k5.imp (fun ⟨y1, y2⟩ => ⟨y1, fun w _ => y2 w ⟨(fun _ _ e => by cases e), (fun _ _ _ e => by cases e)⟩⟩) id⟩
      obtain ⟨v, st', k1, k2, k3, k4, k5⟩ := key
      have hix : isX x i = false := by simpa using hix
      refine wpX_first ho hsel (fun c a w h => (hQ _ _ _ h).elim) (fun L w h => h.imp offX_set id) (fun L w _ _ h => h.imp (offX_unset hix) id) n L a w hc (Region.free_spec ho hO2) hi' k5 hS ?_
      exact (ih k1 hO' (hc.step hi') (fun e => offX_set (hoff e)) hon k2 ((put_size _ _ _).trans hN) (k3 w hh) (hx.trans k4) ((put_defers _ _ _).trans hd') (fun t ht => (put_other _ _ _ (dst_ne (hasg i o ho t ht))).trans (hf t ht)) hn).1 rfl
  | f i t u iht ihu =>
    intro off st h a w ρ L n hd hW hO hc hoff hon he hN hh hx hd' hf hn
    cases n with
    | zero => unfold orderOk at hO; cases hO
    | succ n =>
    unfold orderOk at hO
    obtain ⟨hO, hOu⟩ := Bool.and_eq_true_iff.1 hO
    obtain ⟨hO, hOt⟩ := Bool.and_eq_true_iff.1 hO
    unfold ordW at hW
    have hW' : (match ops[i]? with
      | none => False
      | some o => opG P H ops o st h h fun st' h' => bif off || isX x i then ordW P H ops x m st0 hl t true st' h' KK else
        bif verOk [] st0 st' st0.n then Sub hl h' ∧ ordW P H ops x m st0 hl t false st' h' KK else False) ∧ (u.isE = false → ordW P H ops x m st0 hl u off st h KK) := by
      cases e : u.isE with
      | true => rw [e] at hW; exact ⟨hW, fun h => by cases h⟩
      | false => rw [e] at hW; exact ⟨hW.1, fun _ => hW.2⟩
    clear hW
    obtain ⟨hW, hU⟩ := hW'
    have B : ∀ k, n + 1 = k + 1 → ∀ j ∈ (Tr.f i t u).alts, j ∈ Region.ready .any ops L → wpOp P ops Q j (fun a' w' => (offX x (L.setIfInBounds j true) ∨ (Holds hl w' ∧ LocR ρ0 st0 w')) ∧ wpX P ops Q (fun L w => offX x L ∨ (Holds hl w ∧ LocR ρ0 st0 w)) k (L.setIfInBounds j true) a' w') a w := by
      intro k ek j hj hi'
      have ek : n = k := by omega
      subst ek
      rcases List.mem_cons.1 (show j ∈ i :: u.alts from hj) with rfl | hj
      · cases ho : ops[j]? with
        | none => rw [ho] at hW; exact hW.elim
        | some o =>
          rw [ho] at hW
          simp only [] at hW
          unfold wpOp
          simp only [ho]
          refine opG_sound _ hW he hN hh hh.holds fun a1 w1 ⟨⟨st1, h1, ρ1, hW1, he1, hh1, hx1⟩, hs1, hd1, hf1⟩ => ?_
          have fr : ∀ t, opsAsg ops.toList t = false → a1.tmps[t]? = a0.tmps[t]? := fun t ht => (hf1 t (hasg j o ho t ht)).trans (hf t ht)
          cases eo : (off || isX x j) with
          | true =>
            rw [eo] at hW1
            have hoff' : offX x (L.setIfInBounds j true) := by
              rcases Bool.or_eq_true_iff.1 eo with e | e
              · exact offX_set (hoff e)
              · cases x with
                | none => cases e
                | some y =>
                  have := Nat.eq_of_beq_eq_true e
                  subst this
                  refine ⟨y, rfl, ?_⟩
                  rw [Array.getD_eq_getD_getElem?, Array.getElem?_setIfInBounds_self_of_lt (ready_lt hi')]; rfl
            exact ⟨.inl hoff', (iht hW1 hOt (hc.step hi') (fun _ => hoff') (fun e => by cases e) he1 (hs1.trans hN) hh1 (hx.trans hx1) (hd1.trans hd') fr hn).1 rfl⟩
          | false =>
            rw [eo] at hW1
            simp only [cond_false] at hW1
            cases ev : verOk [] st0 st1 st0.n with
            | false => rw [ev] at hW1; exact hW1.elim
            | true =>
              rw [ev] at hW1
              obtain ⟨hsub, hW1⟩ := hW1
              have hx2 := hx.trans hx1
              have hs' : Holds hl w1 ∧ LocR ρ0 st0 w1 := by
                refine ⟨fun b ob e => hh1.holds b ob (hsub b ob e), fun b cs t e => ?_⟩
                have hlt : b < st0.n := by
                  rcases Nat.lt_or_ge b st0.n with h' | h'
                  · exact h'
                  · have := hS0.top b h'
                    rw [this] at e; cases e
                have h1 := (hx2.ver b hlt).2 ((verOk_spec ev b hlt).2 rfl)
                rw [← hx2.rho b hlt]
                exact (hh1.loc b cs t (by rw [h1]; exact e)).1
              have eoff : off = false := (Bool.or_eq_false_iff.1 eo).1
              exact ⟨.inr hs', (iht hW1 hOt (hc.step hi') (fun e => by cases e) (fun _ => hs') he1 (hs1.trans hN) hh1 hx2 (hd1.trans hd') fr hn).1 rfl⟩
      · have hu : u.isE = false := by
          cases u with
          | e => cases hj
          | _ => rfl
        exact (ihu (hU hu) hOu hc hoff hon he hN hh hx hd' hf hn).2 n rfl j hj hi'
    refine ⟨fun ehd => ?_, B⟩
    subst ehd
    have hsub : ∀ j ∈ Region.ready .any ops L, j ∈ (Tr.f i t u).alts := fun j hj => by
      have := List.all_eq_true.1 (Bool.and_eq_true_iff.1 (show ((Region.ready .any ops L).any (Nat.beq i) && (Region.ready .any ops L).all fun j => (Nat.beq i j || u.alts.any fun k => Nat.beq k j)) = true from by simpa using hO)).2 j hj
      rcases Bool.or_eq_true_iff.1 this with e | e
      · rw [Nat.eq_of_beq_eq_true e]; exact List.mem_cons_self
      · obtain ⟨k, hk, hb⟩ := List.any_eq_true.1 e
        rw [← Nat.eq_of_beq_eq_true hb]
        exact List.mem_cons_of_mem _ hk
    refine ⟨fun h0 => ?_, fun j hj => B n rfl j (hsub j hj) hj⟩
    obtain ⟨i', hi', _⟩ := List.any_eq_true.1 (Bool.and_eq_true_iff.1 (show ((Region.ready .any ops L).any (Nat.beq i) && (Region.ready .any ops L).all fun j => (Nat.beq i j || u.alts.any fun k => Nat.beq k j)) = true from by simpa using hO)).1
    rw [h0] at hi'; cases hi'
theorem drawW_sound {id : Nat} {ops : Array Oper} {st : St} {h : Hp} {K : St → Hp → Prop} {a : Act} {w : World} {ρ : Nat → Nat} (hW : drawW P H id ops st h K) (he : EnvR ρ st a.tmps) (hN : a.tmps.size = H.N) (hh : HeapR w0 h0 ρ st h w) :
    P.follows .mixedOrders = true ∧ wpAny P .any ops (fun e a' w' => e = .normal ∧ Left P H w0 h0 ρ st a (opsAsg ops.toList) K a' w') ops.size (Array.replicate ops.size false) a { w with drawn := w.drawn + 1 } := by
  unfold drawW at hW
  split at hW
  · exact hW.elim
  · rename_i x ex ord tr _
    cases ed : drawOk P ops x (befores ops ord x) tr with
    | false => rw [ed] at hW; exact hW.elim
    | true =>
      rw [ed] at hW
      simp only [cond_true] at hW
      unfold drawOk at ed
      obtain ⟨ed, d4⟩ := Bool.and_eq_true_iff.1 ed
      obtain ⟨d2, d3⟩ := Bool.and_eq_true_iff.1 ed
      have hW' : ∃ hl, Sub hl h ∧ ordW P H ops x (befores ops ord x) st hl tr false st h K := by
        cases ex with
        | true => exact hW
        | false => exact ⟨h, fun _ _ e => e, hW⟩
      obtain ⟨hl, hsub, hW'⟩ := hW'
      have hh' : HeapR w0 h0 ρ st h { w with drawn := w.drawn + 1 } := hh.of_heap rfl rfl rfl rfl
      refine ⟨d3, wpX_any _ _ _ _ (S := fun L w => offX x L ∨ (Holds hl w ∧ LocR ρ st w)) ?_⟩
      refine (ordW_sound (a0 := a) hh' d2 (fun L hc y hx hy => ?_) (fun c a w h => by cases h.1) tr hW' (fastOk_spec tr (Bits.start _) d4) Closed.start (fun e => by cases e) (fun _ => ⟨fun b o e => hh'.holds b o (hsub b o e), hh'.locR⟩) he hN hh' (Ext.refl _ _) rfl (fun _ _ => rfl) (fun a' w' ex hs hd hf => ⟨rfl, ⟨ex, hs.trans hN.symm, hd, hf⟩⟩)).1 rfl
      subst hx
      exact ancs_spec hc _ _ (fun j hj => by rw [List.mem_singleton.1 hj]; exact hy)
end
end Go.Gx
