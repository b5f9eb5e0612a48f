/- Soundness of the executor, last part: code, loops, functions. -/
import Derived.Test.YtagglohkipioiaaGxD
namespace Go.Gx

theorem wp_loop_rel {P : Program} {Q : Exit → Act → World → Prop} {c : Code} (I : Nat → Act → World → Prop) {a : Act} {w : World} {m : Nat} (h₀ : I m a w)
    (round : ∀ m a w, I m a w → c.wp P (Exit.then (fun a' w' => ∃ m', m' < m ∧ I m' a' w') Q) a w) : (Code.loop c).wp P Q a w := by
  intro b k cs
  have key : ∀ n a w, I n a w → ∃ e a' w', Q e a' w' ∧ Arrives P (lone (b.at a (.code c :: .inLoop c :: k)) cs w) b k cs e a' w' := by
    intro n
    induction n using Nat.strongRecOn with
    | _ n ih =>
      intro a w hI
      obtain ⟨e, a₁, w₁, hq, harr⟩ := round n a w hI b (.inLoop c :: k) cs
      cases e with
      | normal =>
        obtain ⟨m', hlt, hI₁⟩ := hq
        obtain ⟨e₂, a₂, w₂, hq₂, harr₂⟩ := ih m' hlt a₁ w₁ hI₁
        exact ⟨e₂, a₂, w₂, hq₂, .of_steps (Steps.trans harr (.one step_inLoop)) harr₂⟩
      | exit id => exact ⟨_, a₁, w₁, hq, .pass (x := .inLoop c) rfl (fun _ _ => .inl (by simp)) harr⟩
      | goto l => exact ⟨_, a₁, w₁, hq, .pass (x := .inLoop c) rfl (fun _ _ => .inl (by simp)) harr⟩
      | ret => exact ⟨_, a₁, w₁, hq, .pass (x := .inLoop c) rfl (fun _ _ => .inl (by simp)) harr⟩
      | panic ch => exact ⟨_, a₁, w₁, hq, .pass (x := .inLoop c) rfl (fun _ _ => .inl (by simp)) harr⟩
      | outgrown => exact ⟨_, a₁, w₁, hq, .pass (x := .inLoop c) rfl (fun _ _ => .inl (by simp)) harr⟩
  obtain ⟨e, a', w', hq, harr⟩ := key m a w h₀
  exact ⟨e, a', w', hq, .of_steps (.one step_loop) harr⟩

def Ex.to : Ex → Exit
  | .normal => .normal
  | .exit i => .exit i
  | .ret => .ret
section
variable {P : Program} {H : Hints} {w0 : World} {h0 : Hp}

/-- What a piece of code leaves. -/
structure Post (H : Hints) (w0 : World) (h0 : Hp) (ρ : Nat → Nat) (st : St) (a : Act) (C : Nat → Bool) (K : Ex → St → Hp → Prop) (e : Exit) (a' : Act) (w' : World) : Prop where
  ex : ∃ x st' h' ρ', x.to = e ∧ K x st' h' ∧ EnvR ρ' st' a'.tmps ∧ HeapR w0 h0 ρ' st' h' w' ∧ Ext ρ ρ' st st'
  size : a'.tmps.size = H.N
  defers : a'.defers = []
  frame : ∀ t, C t = false → a'.tmps[t]? = a.tmps[t]?
theorem carried_rel {ks : List Cv} {st sb st' st1 : St} {ρ ρ' : Nat → Nat} {a a' : Act} {h : Hp} {w' : World} {c : Code}
    (hc : Carried ks (st.head c) st' st1) (he : EnvR ρ st a.tmps) (he' : EnvR ρ' st' a'.tmps) (hh' : HeapR w0 h0 ρ' st' h w') (hst : ∀ l, st.n ≤ l → st.L l = none)
    (_ : st.n ≤ st'.n) (hr : ∀ l, l < st.n → ρ' l = ρ l) (hf : ∀ t, c.asg t = false → a'.tmps[t]? = a.tmps[t]?) (hl : lblOk ks st.n = true)
    (hT : ∀ l, carries ks l = true → st'.cellT l = st.cellT l) (hL : ∀ l, l < st.n → carries ks l = false → st'.L l = st.L l) (_ : sb = sb) :
    EnvR ρ' st1 a'.tmps ∧ HeapR w0 h0 ρ' st1 h w' ∧ Ext ρ ρ' st st1 ∧ st1.n = st.n ∧ (∀ l, st1.cellT l = st.cellT l) ∧ (∀ l, carries ks l = false → st1.L l = st.L l) := by
  have hn1 : st1.n = st.n := hc.n
  have key : ∀ l x, st1.L l = some x → st'.L l = some x := by
    intro l x e
    cases ec : carries ks l with
    | true =>
      obtain ⟨cs, T, h1, h2⟩ := hc.yes l ec
      rw [h2] at e
      have hT' := hT l ec
      have : st'.cellT l = T := by simp [St.cellT, h1]
      have h3 : (st.head c).cellT l = st.cellT l := rfl
      rw [h3, ← hT', this] at e
      rw [h1]; exact e
    | false =>
      have h1 := hc.no l ec
      have h2 : (st.head c).L l = st.L l := rfl
      rw [h1, h2] at e
      rcases Nat.lt_or_ge l st.n with hlt | hge
      · rw [hL l hlt ec]; exact e
      · rw [hst l hge] at e; cases e
  refine ⟨fun t => ?_, ⟨hh'.holds, hh'.kept, fun l cs T e => hh'.loc l cs T (key l _ e), fun l m x y e1 e2 e3 => hh'.inj l m x y (key l _ e1) (key m _ e2) e3, fun l hl' => ?_⟩, ⟨by omega, hr, fun l hl' => ⟨?_, fun e => ?_⟩⟩, hn1, fun l => ?_, fun l e => hc.no l e⟩
  · rcases hc.e t with e | ⟨v, e, ev⟩
    · rw [e]
      simp only [St.head]
      cases ea : c.asg t with
      | true => exact trivial
      | false =>
        simp only [cond_false]
        have h1 := he t
        rw [Array.getD_eq_getD_getElem?] at h1 ⊢
        rw [hf t ea]
        exact h1.mono (by omega) hr
    · rw [e]
      exact (he' t).toV ev
  · rw [hn1] at hl'
    cases e : st1.L l with
    | none => rfl
    | some x =>
      cases ec : carries ks l with
      | true => have := lblOk_spec hl ec; omega
      | false =>
        have h1 := hc.no l ec
        have h2 : (st.head c).L l = st.L l := rfl
        rw [h1, h2, hst l hl'] at e; cases e
  · exact hc.ver l
  · cases ec : carries ks l with
    | true =>
      have h1 := hc.verY l ec
      have h2 : (st.head c).ver l = st.ver l := rfl
      omega
    | false => exact hc.no l ec
  · cases ec : carries ks l with
    | true =>
      obtain ⟨cs, T, h1, h2⟩ := hc.yes l ec
      simp only [St.cellT, h2]; rfl
    | false => simp only [St.cellT, hc.no l ec]; rfl

theorem W_sound : ∀ (c : Code) {st : St} {h : Hp} {K : Ex → St → Hp → Prop} {a : Act} {w : World} {ρ : Nat → Nat},
    W P H c st h K → EnvR ρ st a.tmps → a.tmps.size = H.N → a.defers = [] → HeapR w0 h0 ρ st h w → c.wp P (Post H w0 h0 ρ st a c.asg K) a w := by
  intro c
  induction c with
  | skip => intro st h K a w ρ hW he hN hd hh; exact wp_skip ⟨⟨.normal, st, h, ρ, rfl, hW, he, hh, Ext.refl _ _⟩, hN, hd, fun _ _ => rfl⟩
  | ret => intro st h K a w ρ hW he hN hd hh; exact wp_ret ⟨⟨.ret, st, h, ρ, rfl, hW, he, hh, Ext.refl _ _⟩, hN, hd, fun _ _ => rfl⟩
  | exit id => intro st h K a w ρ hW he hN hd hh; exact wp_exit ⟨⟨.exit id, st, h, ρ, rfl, hW, he, hh, Ext.refl _ _⟩, hN, hd, fun _ _ => rfl⟩
  | region id ops draw =>
    intro st h K a w ρ hW he hN hd hh
    cases draw with
    | true =>
      refine wp_mono (drawW_sound (K := fun st' h' => K .normal st' h') (show drawW P H id ops st h _ from hW) he hN hh) fun e a' w' ⟨ee, ⟨st', h', ρ', k, e1, e2, e3⟩, s1, s2, s3⟩ => ?_
      exact ⟨⟨.normal, st', h', ρ', ee.symm, k, e1, e2, e3⟩, s1.trans hN, s2.trans hd, s3⟩
    | false =>
      refine wp_region_list (opsW_sound ops.toList (show opsW P H ops ops.toList st h _ from hW) he hN hh fun a' w' ⟨⟨st', h', ρ', k, e1, e2, e3⟩, s1, s2, s3⟩ => ⟨⟨.normal, st', h', ρ', rfl, k, e1, e2, e3⟩, s1.trans hN, s2.trans hd, s3⟩)
  | seq x y ihx ihy =>
    intro st h K a w ρ hW he hN hd hh
    refine wp_seq ?_
    have fin : ∀ (e : Exit) (a1 : Act) (w1 : World) (x0 : Ex) (st1 : St) (h1 : Hp) (ρ1 : Nat → Nat), x0 ≠ .normal → x0.to = e → K x0 st1 h1 → EnvR ρ1 st1 a1.tmps → HeapR w0 h0 ρ1 st1 h1 w1 → Ext ρ ρ1 st st1 → a1.tmps.size = H.N → a1.defers = [] →
        (∀ t, x.asg t = false → a1.tmps[t]? = a.tmps[t]?) → Exit.then (y.wp P (Post H w0 h0 ρ st a (Code.asg (.seq x y)) K)) (Post H w0 h0 ρ st a (Code.asg (.seq x y)) K) e a1 w1 := by
      intro e a1 w1 x0 st1 h1 ρ1 hx hxe k e1 e2 e3 s1 s2 s3
      subst hxe
      have post : Post H w0 h0 ρ st a (Code.asg (.seq x y)) K x0.to a1 w1 := ⟨⟨x0, st1, h1, ρ1, rfl, k, e1, e2, e3⟩, s1, s2, fun t ht => s3 t (by
        have : (x.asg t || y.asg t) = false := ht
        exact (Bool.or_eq_false_iff.1 this).1)⟩
      cases x0 with
      | normal => exact absurd rfl hx
      | exit i => exact post
      | ret => exact post
    have go : ∀ (a1 : Act) (w1 : World) (st1 : St) (h1 : Hp) (ρ1 : Nat → Nat), W P H y st1 h1 K → EnvR ρ1 st1 a1.tmps → HeapR w0 h0 ρ1 st1 h1 w1 → Ext ρ ρ1 st st1 → a1.tmps.size = H.N → a1.defers = [] →
        (∀ t, x.asg t = false → a1.tmps[t]? = a.tmps[t]?) → y.wp P (Post H w0 h0 ρ st a (Code.asg (.seq x y)) K) a1 w1 := by
      intro a1 w1 st1 h1 ρ1 hy e1 e2 e3 s1 s2 s3
      refine wp_mono (ihy hy e1 s1 s2 e2) fun e a2 w2 ⟨⟨x0, st2, h2, ρ2, ee, k, g1, g2, g3⟩, r1, r2, r3⟩ => ⟨⟨x0, st2, h2, ρ2, ee, k, g1, g2, e3.trans g3⟩, r1, r2, fun t ht => ?_⟩
      have : (x.asg t || y.asg t) = false := ht
      obtain ⟨t1, t2⟩ := Bool.or_eq_false_iff.1 this
      rw [r3 t t2, s3 t t1]
    unfold W at hW
    split at hW
    · refine wp_mono (ihx hW he hN hd hh) fun e a1 w1 ⟨⟨x0, st1, h1, ρ1, ee, k, e1, e2, e3⟩, s1, s2, s3⟩ => ?_
      cases x0 with
      | normal => subst ee; exact go a1 w1 st1 h1 ρ1 k e1 e2 e3 s1 s2 s3
      | exit i => exact fin e a1 w1 (.exit i) st1 h1 ρ1 (by simp) ee k e1 e2 e3 s1 s2 s3
      | ret => exact fin e a1 w1 .ret st1 h1 ρ1 (by simp) ee k e1 e2 e3 s1 s2 s3
    · rename_i ks _
      obtain ⟨J, hJ, hW⟩ := hW
      refine wp_mono (ihx hW he hN hd hh) fun e a1 w1 ⟨⟨x0, st1, h1, ρ1, ee, k, e1, e2, e3⟩, s1, s2, s3⟩ => ?_
      cases x0 with
      | exit i => exact fin e a1 w1 (.exit i) st1 h1 ρ1 (by simp) ee k e1 e2 e3 s1 s2 s3
      | ret => exact fin e a1 w1 .ret st1 h1 ρ1 (by simp) ee k e1 e2 e3 s1 s2 s3
      | normal =>
        subst ee
        simp only [] at k
        cases eo : (verOk ks st st1 st.n && lblOk ks st.n) with
        | false => rw [eo] at k; exact k.elim
        | true =>
          rw [eo] at k
          obtain ⟨o1, o2⟩ := Bool.and_eq_true_iff.1 eo
          obtain ⟨st2, j, g1, g2, gc⟩ := carry ks hJ k
          have hv := verOk_spec o1
          obtain ⟨r1, r2, r3, _⟩ := carried_rel (sb := st) gc he e1 e2 hh.top e3.n e3.rho s3 o2 (fun l hl => (hv l (lblOk_spec o2 hl)).1 hl) (fun l hl hc => (e3.ver l hl).2 ((hv l hl).2 hc)) rfl
          exact go a1 w1 st2 h1 ρ1 (g1 h1 g2) r1 r2 r3 s1 s2 s3
  | cond c x y ihx ihy =>
    intro st h K a w ρ hW he hN hd hh
    unfold W at hW
    split at hW
    · rename_i v ev
      have hv : a.eval c = .bool v := ev_val he ev
      have wid : ∀ (C : Nat → Bool), (∀ t, Code.asg (.cond c x y) t = false → C t = false) → ∀ e a1 w1, Post H w0 h0 ρ st a C K e a1 w1 → Post H w0 h0 ρ st a (Code.asg (.cond c x y)) K e a1 w1 := fun C hC e a1 w1 p => ⟨p.ex, p.size, p.defers, fun t ht => p.frame t (hC t ht)⟩
      cases v with
      | true => exact wp_cond hv (wp_mono (ihx hW he hN hd hh) (wid _ fun t ht => (Bool.or_eq_false_iff.1 (show (x.asg t || y.asg t) = false from ht)).1))
      | false => exact wp_cond hv (wp_mono (ihy hW he hN hd hh) (wid _ fun t ht => (Bool.or_eq_false_iff.1 (show (x.asg t || y.asg t) = false from ht)).2))
    · exact hW.elim
  | block id c ih =>
    intro st h K a w ρ hW he hN hd hh
    refine wp_block (wp_mono (ih (show W P H c st h _ from hW) he hN hd hh) fun e a1 w1 ⟨⟨x0, st1, h1, ρ1, ee, k, e1, e2, e3⟩, s1, s2, s3⟩ => ?_)
    subst ee
    cases x0 with
    | normal => exact ⟨⟨.normal, st1, h1, ρ1, rfl, k, e1, e2, e3⟩, s1, s2, s3⟩
    | ret => exact ⟨⟨.ret, st1, h1, ρ1, rfl, k, e1, e2, e3⟩, s1, s2, s3⟩
    | exit i =>
      simp only [Ex.to, Exit.inBlock]
      simp only [] at k
      by_cases ei : i = id
      · subst ei
        rw [nbeq_self] at k
        rw [if_pos rfl]
        exact ⟨⟨.normal, st1, h1, ρ1, rfl, k, e1, e2, e3⟩, s1, s2, s3⟩
      · rw [nbeq_ne ei] at k
        rw [if_neg ei]
        exact ⟨⟨.exit i, st1, h1, ρ1, rfl, k, e1, e2, e3⟩, s1, s2, s3⟩
  | loop c ih =>
    intro st h K a w ρ hW he hN hd hh
    unfold W at hW
    split at hW
    · exact hW.elim
    · rename_i ks _
      cases eo : lblOk ks st.n with
      | false => rw [eo] at hW; exact hW.elim
      | true =>
        rw [eo] at hW
        obtain ⟨I, ⟨m0, hI⟩, hR⟩ := hW
        refine wp_loop_rel (fun m a1 w1 => ∃ (st1 : St) (r : Hp → Nat → Prop) (h1 : Hp) (ρ1 : Nat → Nat), (∀ h1 m, r h1 m → W P H c st1 h1 fun x st' h' => match x with
            | .normal => bif verOk ks st1 st' st.n then capC ks st' I fun j => ∃ m', m' < m ∧ j h' m' else False
            | .exit i => K (.exit i) st' h'
            | .ret => K .ret st' h') ∧ r h1 m ∧ EnvR ρ1 st1 a1.tmps ∧ HeapR w0 h0 ρ1 st1 h1 w1 ∧ Ext ρ ρ1 st st1 ∧ st1.n = st.n ∧ (∀ l, st1.cellT l = st.cellT l) ∧ (∀ l, carries ks l = false → st1.L l = st.L l) ∧
            a1.tmps.size = H.N ∧ a1.defers = [] ∧ ∀ t, c.asg t = false → a1.tmps[t]? = a.tmps[t]?) (m := m0) ?_ ?_
        · obtain ⟨st1, r, g1, g2, gc⟩ := carry ks hR hI
          obtain ⟨r1, r2, r3, r4, r5, r6⟩ := carried_rel (sb := st) (ρ := ρ) (a := a) gc he he hh hh.top (Nat.le_refl _) (fun _ _ => rfl) (fun _ _ => rfl) eo (fun _ _ => rfl) (fun _ _ _ => rfl) rfl
          exact ⟨st1, r, h, ρ, g1, g2, r1, r2, r3, r4, r5, r6, hN, hd, fun _ _ => rfl⟩
        · rintro m a1 w1 ⟨st1, r, h1, ρ1, g1, g2, e1, e2, e3, hn1, hT1, hL1, s1, s2, s3⟩
          refine wp_mono (ih (g1 h1 m g2) e1 s1 s2 e2) fun e a2 w2 ⟨⟨x0, st2, h2, ρ2, ee, k, f1, f2, f3⟩, t1, t2, t3⟩ => ?_
          have fr : ∀ t, c.asg t = false → a2.tmps[t]? = a.tmps[t]? := fun t ht => by rw [t3 t ht, s3 t ht]
          subst ee
          cases x0 with
          | exit i => exact ⟨⟨.exit i, st2, h2, ρ2, rfl, k, f1, f2, e3.trans f3⟩, t1, t2, fr⟩
          | ret => exact ⟨⟨.ret, st2, h2, ρ2, rfl, k, f1, f2, e3.trans f3⟩, t1, t2, fr⟩
          | normal =>
            simp only [] at k
            cases ev : verOk ks st1 st2 st.n with
            | false => rw [ev] at k; exact k.elim
            | true =>
              rw [ev] at k
              obtain ⟨st3, r3, k1, k2, gc⟩ := carry ks hR k
              have hv := verOk_spec ev
              have hx := e3.trans f3
              obtain ⟨q1, q2, q3, q4, q5, q6⟩ := carried_rel (sb := st) gc he f1 f2 hh.top hx.n hx.rho fr eo (fun l hl => by rw [(hv l (lblOk_spec eo hl)).1 hl, hT1]) (fun l hl hc => by
                rw [(f3.ver l (by omega)).2 ((hv l hl).2 hc), hL1 l hc]) rfl
              obtain ⟨m', hm, hj⟩ := k2
              exact ⟨m', hm, st3, r3, h2, ρ2, k1, hj, q1, q2, q3, q4, q5, q6, t1, t2, fr⟩
  | rangeFunc f ps x y _ _ => intro st h K a w ρ hW; exact (show False from hW).elim
  | scope c _ => intro st h K a w ρ hW; exact (show False from hW).elim
  | label l => intro st h K a w ρ hW; exact (show False from hW).elim
  | goto l => intro st h K a w ρ hW; exact (show False from hW).elim
  | refuse s => intro st h K a w ρ hW; exact (show False from hW).elim
theorem run_asAddr (a : Addr) (w : World) : (asAddr (.pointer (some a))).run P w = .ok a w := rfl
theorem resW_spec {st : St} {h : Hp} {ρ : Nat → Nat} {w : World} {a : Act} (he : EnvR ρ st a.tmps) (hh : HeapR w0 h0 ρ st h w) : ∀ {rs : List ResultVar} {F : List Value → Prop}, resW P st h rs F →
    ∃ vs, F vs ∧ (rs.mapM fun
      | .tmp t => pure (a.tmps.getD t undef)
      | .cell x t => do loadVar t (← asAddr (a.tmps.getD x undef)) : Sem (List Value)).run P w = .ok vs w
  | [], F, H => ⟨[], H, rfl⟩
  | .tmp t :: rs, F, H => by
    simp only [resW] at H
    cases e : (st.e t).toV with
    | none => rw [e] at H; exact H.elim
    | some v =>
      rw [e] at H
      obtain ⟨vs, h1, h2⟩ := resW_spec he hh H
      refine ⟨v :: vs, h1, ?_⟩
      have := (he t).toV e
      simp only [List.mapM_cons, Sem.run_bind, Sem.run_pure, Result.andThen_ok, this, h2]
  | .cell x t :: rs, F, H => by
    simp only [resW] at H
    rcases at_spec H (he x) with ⟨l, o, e1, e2, e3, H⟩ | ⟨b, o, e3, H⟩
    · simp only [] at H
      split at H
      · rename_i cs u e4
        obtain ⟨v, H, hr⟩ := loadL_spec (b := ρ l) (u := u) H
        have hr := hr w (hh.loc l cs u e4).1
        obtain ⟨vs, h1, h2⟩ := resW_spec he hh H
        refine ⟨v :: vs, h1, ?_⟩
        simp only [List.mapM_cons, Sem.run_bind, Sem.run_pure, Result.andThen_ok, e3, run_asAddr, hr, h2]
      · exact H.elim
    · obtain ⟨v, H, hr⟩ := loadH_spec H
      have hr := hr w hh.holds
      obtain ⟨vs, h1, h2⟩ := resW_spec he hh H
      refine ⟨v :: vs, h1, ?_⟩
      simp only [List.mapM_cons, Sem.run_bind, Sem.run_pure, Result.andThen_ok, e3, run_asAddr, hr, h2]
theorem results_spec {fn : Func} {st : St} {h : Hp} {ρ : Nat → Nat} {w : World} {a : Act} (he : EnvR ρ st a.tmps) (hh : HeapR w0 h0 ρ st h w) {F : List Value → Prop} (H : resW P st h fn.results.toList F) :
    ∃ vs, F vs ∧ (results fn a.tmps).run P w = .ok (oneOf vs) w := by
  obtain ⟨vs, h1, h2⟩ := resW_spec he hh H
  refine ⟨vs, h1, ?_⟩
  unfold results
  rw [Array.mapM_eq_mapM_toList]
  simp only [Sem.run_bind, Sem.run_map]
  refine Eq.trans (congrArg (fun r => (Result.andThen (Result.andThen r fun (a : List Value) w' => Result.ok a.toArray w') fun (a : Array Value) w' => (pure (if h : a.size = 1 then a[0] else Value.tuple a) : Sem Value).run P w')) h2) ?_
  simp only [Result.andThen_ok, Sem.run_pure]
  congr 1
  match vs with
  | [] => rfl
  | [v] => rfl
  | v :: u :: vs => simp [oneOf]
def toVs : List SV → Option (List Value)
  | [] => some []
  | s :: ss => match s.toV, toVs ss with
    | some v, some vs => some (v :: vs)
    | _, _ => none
theorem toVs_rel : ∀ {ss : List SV} {vs : List Value}, toVs ss = some vs → ∀ (t : Nat) (ρ : Nat → Nat) (n : Nat), SVr ρ n ((ss[t]?).getD (.val undef)) ((vs[t]?).getD undef)
  | [], vs, h, t, ρ, n => by simp [toVs] at h; subst h; exact rfl
  | s :: ss, vs, h, t, ρ, n => by
    unfold toVs at h
    split at h
    · rename_i v us e1 e2
      cases h
      cases t with
      | zero =>
        simp only [List.getElem?_cons_zero, Option.getD_some]
        cases s with
        | val x => simp [SV.toV] at e1; subst e1; exact rfl
        | ptr b o => simp [SV.toV] at e1; subst e1; exact rfl
        | loc l o => simp [SV.toV] at e1
        | dead => simp [SV.toV] at e1
      | succ t => simp only [List.getElem?_cons_succ]; exact toVs_rel e2 t ρ n
    · cases h
theorem calls_of_body {P : Program} {H : Hints} {f : FuncId} {fn : Func} {args : List SV} {vs : List Value} {h : Hp} {Q : Value → Hp → Prop} (hf : P.funcs[f]? = some fn) (hN : fn.ntmps = H.N) (hv : toVs args = some vs) (hlen : Nat.ble vs.length H.N = true)
    (hW : bodyW P H fn args h Q) : CallsH P f vs.toArray h Q := by
  intro w hw
  unfold bodyW at hW
  cases hb : fn.body with
  | none => rw [hb] at hW; exact hW.elim
  | some c =>
    rw [hb] at hW
    refine calls_of_wp hf hb (wp_mono (W_sound (w0 := w) (h0 := h) (ρ := fun _ => 0) c hW (a := { tmps := vs.toArray ++ Array.replicate (fn.ntmps - vs.toArray.size) undef, defers := [] }) ?_ ?_ rfl ?_) ?_)
    · intro t
      have h1 := toVs_rel hv t (fun _ => 0) 0
      simp only [st0]
      rw [Array.getD_eq_getD_getElem?]
      rcases Nat.lt_or_ge t vs.length with hlt | hge
      · rw [Array.getElem?_append_left (by simpa using hlt)]
        simpa using h1
      · have e1 : vs[t]? = none := List.getElem?_eq_none hge
        rw [e1] at h1
        rw [Array.getElem?_append_right (by simpa using hge)]
        have e2 : ((Array.replicate (fn.ntmps - vs.toArray.size) undef)[t - vs.toArray.size]?).getD undef = undef := by
          rw [Array.getElem?_replicate]; split <;> rfl
        rw [e2]; exact h1
    · have := Nat.le_of_ble_eq_true hlen
      simp; omega
    · exact ⟨hw, Kept.refl h w, (fun l cs t e => by cases e), (fun l m x y e => by cases e), fun _ _ => rfl⟩
    · intro e a' w' ⟨⟨x, st', h', ρ', ee, k, e1, e2, e3⟩, s1, s2, s3⟩
      subst ee
      cases x with
      | exit i => exact k.elim
      | normal =>
        obtain ⟨us, hq, hr⟩ := results_spec e1 e2 k
        exact ⟨s2, _, hr, _, h', rfl, hq, e2.holds, e2.kept⟩
      | ret =>
        obtain ⟨us, hq, hr⟩ := results_spec e1 e2 k
        exact ⟨s2, _, hr, _, h', rfl, hq, e2.holds, e2.kept⟩
theorem CallsH.mono {P : Program} {f : FuncId} {args : Array Value} {h : Hp} {Q Q' : Value → Hp → Prop} (H : CallsH P f args h Q) (hq : ∀ v h', Q v h' → Q' v h') : CallsH P f args h Q' :=
  fun w hw => Calls.mono (H w hw) fun _ _ ⟨v, h', e, q, a, b⟩ => ⟨v, h', e, hq _ _ q, a, b⟩
end
end Go.Gx
