/- Soundness of the executor, last part: code, loops, functions. -/
import Derived.Test.YtagglohkipioiaaGreatGxSE
namespace Go.Gx
section
variable {P : Program} {H : Hints}
theorem W_sound : ∀ (c : Code) {w0 : World} {h0 : Hp} {r : Option Nat} {n : Nat} {st : St} {h : Hp} {K : Ex → St → Hp → Prop} {a : Act} {w : World} {ρ : Nat → Nat},
    (r = none ∨ c.calm = true) → W P H c st h K → EnvR ρ st a.tmps → a.tmps.size = H.N → a.defers = st.marks.map markD → HeapR w0 h0 ρ st h w → c.wpIn (FR r) n P (Post H w0 h0 ρ st a c.asg K) a w := by
  intro c
  induction c with
  | skip => intro w0 h0 r n st h K a w ρ hr hW he hN hd hh; exact wpIn_skip ⟨⟨.normal, st, h, ρ, rfl, hW, he, hh, (Ext.refl _ _).toD hd⟩, hN, fun _ _ => rfl⟩
  | ret => intro w0 h0 r n st h K a w ρ hr hW he hN hd hh; exact wpIn_ret ⟨⟨.ret, st, h, ρ, rfl, hW, he, hh, (Ext.refl _ _).toD hd⟩, hN, fun _ _ => rfl⟩
  | exit id => intro w0 h0 r n st h K a w ρ hr hW he hN hd hh; exact wpIn_exit ⟨⟨.exit id, st, h, ρ, rfl, hW, he, hh, (Ext.refl _ _).toD hd⟩, hN, fun _ _ => rfl⟩
  | region id ops draw =>
    intro w0 h0 r n st h K a w ρ hr hW he hN hd hh
    cases draw with
    | true =>
      obtain ⟨hm, hany⟩ := drawW_sound (K := fun st' h' => K .normal st' h') (id := id) (w := w) (show drawW P H id ops st h _ from hW) he hN hh
      refine wpIn_mono (wpIn_region_any hm (any_fr (fun ⟨_, _, h⟩ => by cases h.1) hr _ _ _ _ hany)) fun e a' w' ⟨ee, ⟨st', h', ρ', k, e1, e2, e3⟩, s1, s2, s3⟩ => ?_
      exact ⟨⟨.normal, st', h', ρ', ee.symm, k, e1, e2, e3.toD (s2.trans hd)⟩, s1.trans hN, s3⟩
    | false =>
      exact wpIn_region_list (opsW_sound ops.toList hr (show opsW P H ops ops.toList st h _ from hW) he hN hh fun a' w' ⟨⟨st', h', ρ', k, e1, e2, e3⟩, s1, s2, s3⟩ => ⟨⟨.normal, st', h', ρ', rfl, k, e1, e2, e3.toD (s2.trans hd)⟩, s1.trans hN, s3⟩)
  | seq x y ihx ihy =>
    intro w0 h0 r n st h K a w ρ hr hW he hN hd hh
    have hrx : r = none ∨ x.calm = true := hr.imp id fun h => (Bool.and_eq_true_iff.1 (show (x.calm && y.calm) = true from h)).1
    have hry : r = none ∨ y.calm = true := hr.imp id fun h => (Bool.and_eq_true_iff.1 (show (x.calm && y.calm) = true from h)).2
    refine wpIn_seq ?_
    have fin : ∀ (e : Exit) (a1 : Act) (w1 : World) (x0 : Ex) (st1 : St) (h1 : Hp) (ρ1 : Nat → Nat), x0 ≠ .normal → x0.to = e → K x0 st1 h1 → EnvR ρ1 st1 a1.tmps → HeapR w0 h0 ρ1 st1 h1 w1 → ExtD a1 ρ ρ1 st st1 → a1.tmps.size = H.N →
        (∀ t, x.asg t = false → a1.tmps[t]? = a.tmps[t]?) → Exit.then (y.wpIn (FR r) n P (Post H w0 h0 ρ st a (Code.asg (.seq x y)) K)) (Post H w0 h0 ρ st a (Code.asg (.seq x y)) K) e a1 w1 := by
      intro e a1 w1 x0 st1 h1 ρ1 hx hxe k e1 e2 e3 s1 s3
      subst hxe
      have post : Post H w0 h0 ρ st a (Code.asg (.seq x y)) K x0.to a1 w1 := ⟨⟨x0, st1, h1, ρ1, rfl, k, e1, e2, e3⟩, s1, fun t ht => s3 t (by
        have : (x.asg t || y.asg t) = false := ht
        exact (Bool.or_eq_false_iff.1 this).1)⟩
      cases x0 with
      | normal => exact absurd rfl hx
      | exit i => exact post
      | ret => exact post
    have go : ∀ (a1 : Act) (w1 : World) (st1 : St) (h1 : Hp) (ρ1 : Nat → Nat), W P H y st1 h1 K → EnvR ρ1 st1 a1.tmps → HeapR w0 h0 ρ1 st1 h1 w1 → ExtD a1 ρ ρ1 st st1 → a1.tmps.size = H.N →
        (∀ t, x.asg t = false → a1.tmps[t]? = a.tmps[t]?) → y.wpIn (FR r) n P (Post H w0 h0 ρ st a (Code.asg (.seq x y)) K) a1 w1 := by
      intro a1 w1 st1 h1 ρ1 hy e1 e2 e3 s1 s3
      refine wpIn_mono (ihy hry hy e1 s1 e3.defers e2) fun e a2 w2 ⟨⟨x0, st2, h2, ρ2, ee, k, g1, g2, g3⟩, r1, r3⟩ => ⟨⟨x0, st2, h2, ρ2, ee, k, g1, g2, e3.trans g3⟩, r1, fun t ht => ?_⟩
      have : (x.asg t || y.asg t) = false := ht
      obtain ⟨t1, t2⟩ := Bool.or_eq_false_iff.1 this
      rw [r3 t t2, s3 t t1]
    unfold W at hW
    split at hW
    · refine wpIn_mono (ihx hrx hW he hN hd hh) fun e a1 w1 ⟨⟨x0, st1, h1, ρ1, ee, k, e1, e2, e3⟩, s1, s3⟩ => ?_
      cases x0 with
      | normal => subst ee; exact go a1 w1 st1 h1 ρ1 k e1 e2 e3 s1 s3
      | exit i => exact fin e a1 w1 (.exit i) st1 h1 ρ1 (by simp) ee k e1 e2 e3 s1 s3
      | ret => exact fin e a1 w1 .ret st1 h1 ρ1 (by simp) ee k e1 e2 e3 s1 s3
    · rename_i ks _
      obtain ⟨J, hJ, hW⟩ := hW
      refine wpIn_mono (ihx hrx hW he hN hd hh) fun e a1 w1 ⟨⟨x0, st1, h1, ρ1, ee, k, e1, e2, e3⟩, s1, s3⟩ => ?_
      cases x0 with
      | exit i => exact fin e a1 w1 (.exit i) st1 h1 ρ1 (by simp) ee k e1 e2 e3 s1 s3
      | ret => exact fin e a1 w1 .ret st1 h1 ρ1 (by simp) ee k e1 e2 e3 s1 s3
      | normal =>
        subst ee
        simp only [] at k
        cases eo : (verOk ks st st1 st.n && lblOk ks st.n) with
        | false => rw [eo] at k; exact k.elim
        | true =>
          rw [eo] at k
          obtain ⟨o1, o2⟩ := Bool.and_eq_true_iff.1 eo
          obtain ⟨st2, j, g1, g2, gc⟩ := carry ks hJ k
          have hv := verOk_spec o1
          obtain ⟨r1, r2, r3, _⟩ := carried_rel (sb := st) gc he e1 e2 hh.top e3.n e3.rho s3 o2 (fun l hl => (hv l (lblOk_spec o2 hl)).1 hl) (fun l hl hc => (e3.ver l hl).2 ((hv l hl).2 hc)) rfl
          exact go a1 w1 st2 h1 ρ1 (g1 h1 g2) r1 r2 (r3.toD (e3.same (verOk_marks o1))) s1 s3
  | cond c x y ihx ihy =>
    intro w0 h0 r n st h K a w ρ hr hW he hN hd hh
    have hrx : r = none ∨ x.calm = true := hr.imp id fun h => (Bool.and_eq_true_iff.1 (show (x.calm && y.calm) = true from h)).1
    have hry : r = none ∨ y.calm = true := hr.imp id fun h => (Bool.and_eq_true_iff.1 (show (x.calm && y.calm) = true from h)).2
    unfold W at hW
    split at hW
    · rename_i v ev
      have hv : a.eval c = .bool v := ev_val he ev
      have wid : ∀ (C : Nat → Bool), (∀ t, Code.asg (.cond c x y) t = false → C t = false) → ∀ e a1 w1, Post H w0 h0 ρ st a C K e a1 w1 → Post H w0 h0 ρ st a (Code.asg (.cond c x y)) K e a1 w1 := fun C hC e a1 w1 p => ⟨p.ex, p.size, fun t ht => p.frame t (hC t ht)⟩
      cases v with
      | true => exact wpIn_cond hv (wpIn_mono (ihx hrx hW he hN hd hh) (wid _ fun t ht => (Bool.or_eq_false_iff.1 (show (x.asg t || y.asg t) = false from ht)).1))
      | false => exact wpIn_cond hv (wpIn_mono (ihy hry hW he hN hd hh) (wid _ fun t ht => (Bool.or_eq_false_iff.1 (show (x.asg t || y.asg t) = false from ht)).2))
    · exact hW.elim
  | block id c ih =>
    intro w0 h0 r n st h K a w ρ hr hW he hN hd hh
    refine wpIn_block (wpIn_mono (ih hr (show W P H c st h _ from hW) he hN hd hh) fun e a1 w1 ⟨⟨x0, st1, h1, ρ1, ee, k, e1, e2, e3⟩, s1, s3⟩ => ?_)
    subst ee
    cases x0 with
    | normal => exact ⟨⟨.normal, st1, h1, ρ1, rfl, k, e1, e2, e3⟩, s1, s3⟩
    | ret => exact ⟨⟨.ret, st1, h1, ρ1, rfl, k, e1, e2, e3⟩, s1, s3⟩
    | exit i =>
      simp only [Ex.to, Exit.inBlock]
      simp only [] at k
      by_cases ei : i = id
      · subst ei
        rw [nbeq_self] at k
        rw [if_pos rfl]
        exact ⟨⟨.normal, st1, h1, ρ1, rfl, k, e1, e2, e3⟩, s1, s3⟩
      · rw [nbeq_ne ei] at k
        rw [if_neg ei]
        exact ⟨⟨.exit i, st1, h1, ρ1, rfl, k, e1, e2, e3⟩, s1, s3⟩
  | loop c ih =>
    intro w0 h0 r n st h K a w ρ hr hW he hN hd hh
    unfold W at hW
    split at hW
    · exact hW.elim
    · rename_i ks _
      cases eo : lblOk ks st.n with
      | false => rw [eo] at hW; exact hW.elim
      | true =>
        rw [eo] at hW
        obtain ⟨I, ⟨m0, hI⟩, hR⟩ := hW
        refine wpIn_loop_rel (fun m a1 w1 => ∃ (st1 : St) (r : Hp → Nat → Prop) (h1 : Hp) (ρ1 : Nat → Nat), (∀ h1 m, r h1 m → W P H c st1 h1 fun x st' h' => match x with
            | .normal => bif verOk ks st1 st' st.n then capC ks st' I fun j => ∃ m', m' < m ∧ j h' m' else False
            | .exit i => K (.exit i) st' h'
            | .ret => K .ret st' h') ∧ r h1 m ∧ EnvR ρ1 st1 a1.tmps ∧ HeapR w0 h0 ρ1 st1 h1 w1 ∧ ExtD a1 ρ ρ1 st st1 ∧ st1.n = st.n ∧ (∀ l, st1.cellT l = st.cellT l) ∧ (∀ l, carries ks l = false → st1.L l = st.L l) ∧
            a1.tmps.size = H.N ∧ st1.marks = st.marks ∧ ∀ t, c.asg t = false → a1.tmps[t]? = a.tmps[t]?) (m := m0) ?_ ?_
        · obtain ⟨st1, r, g1, g2, gc⟩ := carry ks hR hI
          obtain ⟨r1, r2, r3, r4, r5, r6⟩ := carried_rel (sb := st) (ρ := ρ) (a := a) gc he he hh hh.top (Nat.le_refl _) (fun _ _ => rfl) (fun _ _ => rfl) eo (fun _ _ => rfl) (fun _ _ _ => rfl) rfl
          exact ⟨st1, r, h, ρ, g1, g2, r1, r2, r3.toD hd, r4, r5, r6, hN, gc.marks, fun _ _ => rfl⟩
        · rintro m a1 w1 ⟨st1, r, h1, ρ1, g1, g2, e1, e2, e3, hn1, hT1, hL1, s1, s2, s3⟩
          refine wpIn_mono (ih hr (g1 h1 m g2) e1 s1 e3.defers e2) fun e a2 w2 ⟨⟨x0, st2, h2, ρ2, ee, k, f1, f2, f3⟩, t1, t3⟩ => ?_
          have fr : ∀ t, c.asg t = false → a2.tmps[t]? = a.tmps[t]? := fun t ht => by rw [t3 t ht, s3 t ht]
          subst ee
          cases x0 with
          | exit i => exact ⟨⟨.exit i, st2, h2, ρ2, rfl, k, f1, f2, e3.trans f3⟩, t1, fr⟩
          | ret => exact ⟨⟨.ret, st2, h2, ρ2, rfl, k, f1, f2, e3.trans f3⟩, t1, fr⟩
          | normal =>
            simp only [] at k
            cases ev : verOk ks st1 st2 st.n with
            | false => rw [ev] at k; exact k.elim
            | true =>
              rw [ev] at k
              obtain ⟨st3, r3, k1, k2, gc⟩ := carry ks hR k
              have hv := verOk_spec ev
              have hx := e3.trans f3
              obtain ⟨q1, q2, q3, q4, q5, q6⟩ := carried_rel (sb := st) gc he f1 f2 hh.top hx.n hx.rho fr eo (fun l hl => by rw [(hv l (lblOk_spec eo hl)).1 hl, hT1]) (fun l hl hc => by
                rw [(f3.ver l (by omega)).2 ((hv l hl).2 hc), hL1 l hc]) rfl
              obtain ⟨m', hm, hj⟩ := k2
              exact ⟨m', hm, st3, r3, h2, ρ2, k1, hj, q1, q2, q3.toD (hx.same (by rw [verOk_marks ev, s2])), q4, q5, q6, t1, gc.marks, fr⟩
  | rangeFunc g ps x y ihx ihy => exact range_sound ihx ihy
  | scope c _ => intro w0 h0 r n st h K a w ρ hr hW; exact (show False from hW).elim
  | label l => intro w0 h0 r n st h K a w ρ hr hW; exact (show False from hW).elim
  | goto l => intro w0 h0 r n st h K a w ρ hr hW; exact (show False from hW).elim
  | refuse s => intro w0 h0 r n st h K a w ρ hr hW; exact (show False from hW).elim
variable {w0 : World} {h0 : Hp}
theorem run_asAddr (a : Addr) (w : World) : (asAddr (.pointer (some a))).run P w = .ok a w := rfl
theorem resW_spec {st : St} {h : Hp} {ρ : Nat → Nat} {w : World} {a : Act} (he : EnvR ρ st a.tmps) (hh : HeapR w0 h0 ρ st h w) : ∀ {rs : List ResultVar} {F : List Value → Prop}, resW P st h rs F →
    ∃ vs, F vs ∧ (rs.mapM fun
      | .tmp t => pure (a.tmps.getD t undef)
      | .cell x t => do loadVar t (← asAddr (a.tmps.getD x undef)) : Sem (List Value)).run P w = .ok vs w
  | [], F, H => ⟨[], H, rfl⟩
  | .tmp t :: rs, F, H => by
    simp only [resW] at H
    cases e : (st.e t).toV with
    | none => rw [e] at H; exact H.elim
    | some v =>
      rw [e] at H
      obtain ⟨vs, h1, h2⟩ := resW_spec he hh H
      refine ⟨v :: vs, h1, ?_⟩
      have := (he t).toV e
      simp only [List.mapM_cons, Sem.run_bind, Sem.run_pure, Result.andThen_ok, this, h2]
  | .cell x t :: rs, F, H => by
    simp only [resW] at H
    rcases at_spec H (he x) with ⟨l, o, e1, e2, e3, H⟩ | ⟨b, o, e3, H⟩
    · simp only [] at H
      split at H
      · rename_i cs u e4
        obtain ⟨v, H, hr⟩ := loadL_spec (b := ρ l) (u := u) H
        have hr := hr w (hh.loc l cs u e4).1
        obtain ⟨vs, h1, h2⟩ := resW_spec he hh H
        refine ⟨v :: vs, h1, ?_⟩
        simp only [List.mapM_cons, Sem.run_bind, Sem.run_pure, Result.andThen_ok, e3, run_asAddr, hr, h2]
      · exact H.elim
    · obtain ⟨v, H, hr⟩ := loadH_spec H
      have hr := hr w hh.holds
      obtain ⟨vs, h1, h2⟩ := resW_spec he hh H
      refine ⟨v :: vs, h1, ?_⟩
      simp only [List.mapM_cons, Sem.run_bind, Sem.run_pure, Result.andThen_ok, e3, run_asAddr, hr, h2]
theorem results_spec {fn : Func} {st : St} {h : Hp} {ρ : Nat → Nat} {w : World} {a : Act} (he : EnvR ρ st a.tmps) (hh : HeapR w0 h0 ρ st h w) {F : List Value → Prop} (H : resW P st h fn.results.toList F) :
    ∃ vs, F vs ∧ (results fn a.tmps).run P w = .ok (oneOf vs) w := by
  obtain ⟨vs, h1, h2⟩ := resW_spec he hh H
  refine ⟨vs, h1, ?_⟩
  unfold results
  rw [Array.mapM_eq_mapM_toList]
  simp only [Sem.run_bind, Sem.run_map]
  refine Eq.trans (congrArg (fun r => (Result.andThen (Result.andThen r fun (a : List Value) w' => Result.ok a.toArray w') fun (a : Array Value) w' => (pure (if h : a.size = 1 then a[0] else Value.tuple a) : Sem Value).run P w')) h2) ?_
  simp only [Result.andThen_ok, Sem.run_pure]
  congr 1
  match vs with
  | [] => rfl
  | [v] => rfl
  | v :: u :: vs => simp [oneOf]
def toVs : List SV → Option (List Value)
  | [] => some []
  | s :: ss => match s.toV, toVs ss with
    | some v, some vs => some (v :: vs)
    | _, _ => none
theorem toVs_rel : ∀ {ss : List SV} {vs : List Value}, toVs ss = some vs → ∀ (t : Nat) (ρ : Nat → Nat) (n : Nat), SVr ρ n ((ss[t]?).getD (.val undef)) ((vs[t]?).getD undef)
  | [], vs, h, t, ρ, n => by simp [toVs] at h; subst h; exact rfl
  | s :: ss, vs, h, t, ρ, n => by
    unfold toVs at h
    split at h
    · rename_i v us e1 e2
      cases h
      cases t with
      | zero =>
        simp only [List.getElem?_cons_zero, Option.getD_some]
        cases s with
        | val x => simp [SV.toV] at e1; subst e1; exact rfl
        | ptr b o => simp [SV.toV] at e1; subst e1; exact rfl
        | loc l o => simp [SV.toV] at e1
        | dead => simp [SV.toV] at e1
      | succ t => simp only [List.getElem?_cons_succ]; exact toVs_rel e2 t ρ n
    · cases h
theorem marksW_spec {n : Nat} {fn : Func} {tmps : Array Value} {R : Ending → World → Prop} {st : St} {ρ : Nat → Nat} {F : Hp → Prop}
    (hR : ∀ h w, F h → HeapR w0 h0 ρ st h w → LeavesInM Fence.wide n P fn tmps R [] .returning w) : ∀ (ds : List Nat) (h : Hp) (w : World), marksW ds h F → HeapR w0 h0 ρ st h w → LeavesInM Fence.wide n P fn tmps R (ds.map markD) .returning w
  | [], h, w, hm, hh => hR h w hm hh
  | D :: ds, h, w, hm, hh => by
    obtain ⟨hD, hm⟩ := hm
    have hwD := hh.holds D _ hD
    have hsz := get_lt hwD
    refine ⟨by simp, .inl ⟨D, _, rfl, run_takeDeferred hwD, ?_⟩⟩
    refine marksW_spec hR ds (h.del D) (w.putObj D (.deferred none)) hm ?_
    refine ⟨fun c o hc => ?_, ⟨hh.kept.os, hh.kept.tape, hh.kept.output, by have := hh.kept.size; simpa using this, fun b o hb hn => ?_⟩, fun m cs t e => ?_, hh.inj, hh.top⟩
    · unfold Hp.del at hc
      by_cases hcD : c = D
      · rw [if_pos hcD] at hc; cases hc
      · rw [if_neg hcD] at hc
        rw [World.putObj_heap_other hcD]; exact hh.holds c o hc
    · obtain ⟨q1, q2⟩ := hh.kept.block b o hb hn
      have hbD : b ≠ D := fun e => by rw [e, hD] at q2; cases q2
      refine ⟨by rw [World.putObj_heap_other hbD]; exact q1, ?_⟩
      unfold Hp.del
      rw [if_neg hbD]; exact q2
    · obtain ⟨q1, q2, q3⟩ := hh.loc m cs t e
      have hmD : ρ m ≠ D := fun e => by rw [e, hD] at q2; cases q2
      refine ⟨by rw [World.putObj_heap_other hmD]; exact q1, ?_, q3⟩
      unfold Hp.del
      rw [if_neg hmD]; exact q2
theorem calls_of_body {P : Program} {H : Hints} {f : FuncId} {fn : Func} {args : List SV} {vs : List Value} {h : Hp} {Q : Value → Hp → Prop} (hf : P.funcs[f]? = some fn) (hN : fn.ntmps = H.N) (hv : toVs args = some vs) (hlen : Nat.ble vs.length fn.ntmps = true)
    (hW : bodyW P H fn args h Q) : CallsH P f vs.toArray h Q := by
  intro w hw
  unfold bodyW at hW
  cases hb : fn.body with
  | none => rw [hb] at hW; exact hW.elim
  | some c =>
    rw [hb] at hW
    refine callsIn_wide.1 (callsIn_of_wp_marks (F := Fence.wide) (n := 0) hf hb trivial (wpIn_mono (W_sound (w0 := w) (h0 := h) (r := none) (n := 0) (ρ := fun _ => 0) c (.inl rfl) hW (a := { tmps := vs.toArray ++ Array.replicate (fn.ntmps - vs.toArray.size) undef, defers := [] }) ?_ ?_ rfl ?_) ?_))
    · intro t
      have h1 := toVs_rel hv t (fun _ => 0) 0
      simp only [st0]
      rw [Array.getD_eq_getD_getElem?]
      rcases Nat.lt_or_ge t vs.length with hlt | hge
      · rw [Array.getElem?_append_left (by simpa using hlt)]
        simpa using h1
      · have e1 : vs[t]? = none := List.getElem?_eq_none hge
        rw [e1] at h1
        rw [Array.getElem?_append_right (by simpa using hge)]
        have e2 : ((Array.replicate (fn.ntmps - vs.toArray.size) undef)[t - vs.toArray.size]?).getD undef = undef := by
          rw [Array.getElem?_replicate]; split <;> rfl
        rw [e2]; exact h1
    · have := Nat.le_of_ble_eq_true hlen
      simp; omega
    · exact ⟨hw, Kept.refl h w, (fun l cs t e => by cases e), (fun l m x y e => by cases e), fun _ _ => rfl⟩
    · intro e a' w' ⟨⟨x, st', h', ρ', ee, k, e1, e2, e3⟩, s1, s3⟩
      subst ee
      have fin : (marksW st'.marks h' fun h'' => resW P st' h'' fn.results.toList fun vs => Q (oneOf vs) h'') → LeavesInM Fence.wide 0 P fn a'.tmps (fun e w' => ∃ v h'_1, e = .returned v ∧ Q v h'_1 ∧ Holds h'_1 w' ∧ Kept h w h'_1 w') a'.defers .returning w' := by
        intro hm
        rw [e3.defers]
        refine marksW_spec (w0 := w) (h0 := h) (st := st') (ρ := ρ') (fun h2 w2 hF hh2 => ?_) _ h' w' hm e2
        obtain ⟨us, hq, hr⟩ := results_spec e1 hh2 hF
        exact ⟨_, hr, _, h2, rfl, hq, hh2.holds, hh2.kept⟩
      cases x with
      | exit i => exact k.elim
      | normal => exact fin k
      | ret => exact fin k
theorem CallsH.mono {P : Program} {f : FuncId} {args : Array Value} {h : Hp} {Q Q' : Value → Hp → Prop} (H : CallsH P f args h Q) (hq : ∀ v h', Q v h' → Q' v h') : CallsH P f args h Q' :=
  fun w hw => Calls.mono (H w hw) fun _ _ ⟨v, h', e, q, a, b⟩ => ⟨v, h', e, hq _ _ q, a, b⟩
end
end Go.Gx
