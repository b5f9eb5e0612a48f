/- Soundness of the executor: a range over a function. -/
import Derived.Test.YtagglohkipioiaaGreatGxSC
namespace Go.Gx
section
variable {P : Program} {H : Hints}
theorem range_sound {g : Operand} {ps : Array Tmp} {x y : Code}
    (ihx : ∀ {w0 : World} {h0 : Hp} {r : Option Nat} {n : Nat} {st : St} {h : Hp} {K : Ex → St → Hp → Prop} {a : Act} {w : World} {ρ : Nat → Nat}, (r = none ∨ x.calm = true) → W P H x st h K → EnvR ρ st a.tmps → a.tmps.size = H.N → a.defers = st.marks.map markD → HeapR w0 h0 ρ st h w → x.wpIn (FR r) n P (Post H w0 h0 ρ st a x.asg K) a w)
    (ihy : ∀ {w0 : World} {h0 : Hp} {r : Option Nat} {n : Nat} {st : St} {h : Hp} {K : Ex → St → Hp → Prop} {a : Act} {w : World} {ρ : Nat → Nat}, (r = none ∨ y.calm = true) → W P H y st h K → EnvR ρ st a.tmps → a.tmps.size = H.N → a.defers = st.marks.map markD → HeapR w0 h0 ρ st h w → y.wpIn (FR r) n P (Post H w0 h0 ρ st a y.asg K) a w) :
    ∀ {w0 : World} {h0 : Hp} {r : Option Nat} {n : Nat} {st : St} {h : Hp} {K : Ex → St → Hp → Prop} {a : Act} {w : World} {ρ : Nat → Nat},
    (r = none ∨ (Code.rangeFunc g ps x y).calm = true) → W P H (.rangeFunc g ps x y) st h K → EnvR ρ st a.tmps → a.tmps.size = H.N → a.defers = st.marks.map markD → HeapR w0 h0 ρ st h w → (Code.rangeFunc g ps x y).wpIn (FR r) n P (Post H w0 h0 ρ st a (Code.asg (.rangeFunc g ps x y)) K) a w := by
  intro w0 h0 r n st h K a w ρ hr hW he hN hd hh
  have hr : r = none := by
    rcases hr with h | h
    · exact h
    · cases h
  subst hr
  unfold W at hW
  cases e0 : (x.calm && y.calm && Nat.beq st.n 0) with
  | false => rw [e0] at hW; exact hW.elim
  | true =>
  rw [e0] at hW
  simp only [Bool.not_true, cond_false] at hW
  obtain ⟨e1, e2⟩ := Bool.and_eq_true_iff.1 e0
  obtain ⟨cx, cy⟩ := Bool.and_eq_true_iff.1 e1
  have hn0 : st.n = 0 := Nat.eq_of_beq_eq_true e2
  have hL : ∀ l, st.L l = none := fun l => hh.top l (by omega)
  have hW : ∃ gf lb, a.eval g = .func (.func gf) #[] lb ∧ rangeB P gf lb.toList ps H.N y.exits (fun st h K => W P H x st h K) (fun st h K => W P H y st h K) st h K := by
    cases ei : Nat.beq H.iter 0 with
    | true =>
      rw [ei] at hW
      simp only [cond_true] at hW
      split at hW
      · rename_i gf fst lb eg
        cases e6 : fst.isEmpty with
        | false => rw [e6] at hW; exact hW.elim
        | true =>
          rw [e6] at hW
          have hfst : fst = #[] := by simpa using e6
          subst hfst
          exact ⟨gf, lb, ev_val he eg, hW⟩
      · exact hW.elim
    | false =>
      rw [ei] at hW
      simp only [cond_false] at hW
      obtain ⟨lb, e8, hW⟩ := evV_spec he hW
      exact ⟨H.iter, lb.toArray, e8, hW⟩
  obtain ⟨gf, lb, hg, hW⟩ := hW
  · unfold rangeB at hW
    cases e3 : (funcOk P gf && Nat.beq (yieldVts P gf).length ps.size) with
    | false => rw [e3] at hW; exact hW.elim
    | true =>
    rw [e3] at hW
    simp only [Bool.not_true, cond_false] at hW
    obtain ⟨e7, e5⟩ := Bool.and_eq_true_iff.1 e3
    have hps : (yieldVts P gf).length = ps.size := Nat.eq_of_beq_eq_true e5
    obtain ⟨X, E, Pre, J, Jx, hI, hPre, hJP, hJ0, hX, hR, hE, hRet, hEx⟩ := hW
    refine wpIn_rangeFunc ?_
    intro fn hfn
    obtain ⟨D, hDe⟩ : ∃ D, D = w.heap.size := ⟨_, rfl⟩
    obtain ⟨l, hle⟩ : ∃ l, l = D + 1 := ⟨_, rfl⟩
    have hDl : D ≠ l := by omega
    obtain ⟨rec, hrec⟩ : ∃ rec : LoopState → Option Code → Loop, rec = fun st pe => { state := st, pending := pe, fn, tmps := a.tmps, params := ps, assign := x, body := y, defers := D } := ⟨_, rfl⟩
    obtain ⟨W1, hW1⟩ : ∃ W1, (w.alloc (.deferred (some []))).alloc (.loop (rec .ready none)) = W1 := ⟨_, rfl⟩
    have hL1 : W1.heap[l]? = some (.loop (rec .ready none)) := by
      rw [← hW1, hle, hDe]; have := World.alloc_heap_new (w.alloc (.deferred (some []))) (.loop (rec .ready none)); rwa [World.size_alloc] at this
    have hK1 : W1.heap[D]? = some (.deferred (some [])) := by
      rw [← hW1, hDe]; exact (Go.RowKit.Below.heap_alloc _ _ _ (by simp)).trans (World.alloc_heap_new w _)
    have hb1 : Go.RowKit.Below w.heap.size w W1 := by
      rw [← hW1]; exact ((Go.RowKit.Below.refl _ w).alloc (Nat.le_refl _) _).alloc (by simp) _
    have hhD : h D = none := hh.holds.fresh (by omega)
    have hhl : h l = none := hh.holds.fresh (by omega)
    have hvs : ∀ k vs, X k vs → vs.length = ps.size := fun k vs hx => by
      obtain ⟨us, h1, h2⟩ := exL_length (hX k vs hx)
      rw [h2, h1, hps]
    have hput : ∀ (W : World) (o : Obj) (b : Nat), b ≠ l → (W.putObj l o).heap[b]? = W.heap[b]? := fun W o b hb => World.putObj_heap_other hb
    refine ⟨l, [markD D], W1, { target := .fn (.func gf) lb, args := #[.func (.yield l) #[] #[]] }, W1, gf, #[.func (.yield l) #[] #[]] ++ lb, W1, ?_, ?_, fun _ _ => trivial, ?_, (fun h => by cases h), ?_⟩
    · rw [← hW1, hrec, hle, hDe]; exact run_enterLoop_outer _ _ _ _ _
    · simp only [resolve, hg]
      simp [go_sem]
    · have := run_callFunc e7 (#[.func (.yield l) #[] #[]] ++ lb) W1
      simp [invoke, go_sem, this]
    · have e8 : #[Value.func (.yield l) #[] #[]] ++ lb = (Value.func (.yield l) #[] #[] :: lb.toList).toArray := by
        apply Array.toList_inj.1; simp
      rw [e8]
      -- a round
      have hyield : ∀ k vs g, (∃ h1, J k h1 ∧ h1 D = none ∧ h1 l = none ∧ g = rangeG h1 D l (rec .ready none)) → X k vs → YieldH P l vs g fun v g' => (v = .bool true ∧ ∃ h1, J (k + 1) h1 ∧ h1 D = none ∧ h1 l = none ∧ g' = rangeG h1 D l (rec .ready none)) ∨
          (v = .bool false ∧ ∃ c h1, Jx c h1 ∧ (c = 0 ∨ ∃ i ∈ y.exits, c = i + 1) ∧ h1 D = none ∧ h1 l = none ∧ g' = rangeG h1 D l (rec .done (some (jumpOf c)))) := by
        rintro k vs g ⟨h1, hJ, h1D, h1l, rfl⟩ hx W hW
        have gl : ∀ c, c ≠ l → c ≠ D → rangeG h1 D l (rec .ready none) c = h1 c := fun c a b => by rw [rangeG_get, if_neg a, if_neg b]
        have hrl : W.heap[l]? = some (.loop (rec .ready none)) := hW l _ (by rw [rangeG_get, if_pos rfl])
        have hrD : W.heap[D]? = some (.deferred (some [])) := hW D _ (by rw [rangeG_get, if_neg hDl, if_pos rfl])
        have hll : l < W.heap.size := (Array.getElem?_eq_some_iff.1 hrl).1
        have hh1 : Holds h1 W := fun b o hb => hW b o (by rw [gl b (fun e => by rw [e, h1l] at hb; cases hb) (fun e => by rw [e, h1D] at hb; cases hb)]; exact hb)
        have hlen := hvs k vs hx
        obtain ⟨us, hWr, rfl⟩ := Vt.univL_spec (hR k) (hX k vs hx)
        have hWr := hWr hx h1 hJ
        obtain ⟨p1, p2, p3, p4, p5, p6⟩ := params_env (N := H.N) (ρ := ρ) (ps := ps.toList) (vs := vs) (st := { st with marks := [] }) (tmps := a.tmps) (fun t => he t) hN (by simpa using hlen.symm)
        have hfold : (ps.zip vs.toArray).foldl (fun t (x : Nat × Value) => t.setIfInBounds x.1 x.2) a.tmps = (ps.toList.zip vs).foldl (fun t (x : Nat × Value) => t.setIfInBounds x.1 x.2) a.tmps := by
          rw [← Array.foldl_toList, Array.toList_zip]
        have hy := run_yield (P := P) (args := vs.toArray) hrl (by rw [hrec]; simpa using hlen)
        rw [hrec] at hy
        refine ⟨fn, _, x, y, hy, roundIn_of_wpIn (F := Fence.wide) trivial ?_⟩
        have hHR : HeapR W h1 ρ (({ st with marks := [] } : St).params H.N ps.toList vs) h1 W := ⟨hh1, Kept.refl h1 W, (fun m cs t e => by rw [p3] at e; rw [show ({ st with marks := [] } : St).L m = none from hL m] at e; cases e), (fun m q u v e => by rw [p3] at e; rw [show ({ st with marks := [] } : St).L m = none from hL m] at e; cases e), (fun m _ => by rw [p3]; exact hL m)⟩
        refine wpIn_mono (ihx (w0 := W) (h0 := h1) (r := some l) (.inr cx) hWr (by rw [← hfold] at p1; exact p1) (by rw [← hfold] at p2; exact p2) (by rw [p5]; rfl) hHR) ?_
        rintro e a1 w1 ⟨⟨x0, st1, h2, ρ1, ee, k1, g1, g2, g3⟩, s1, s3⟩
        subst ee
        cases x0 with
        | exit i => exact k1.elim
        | ret => exact k1.elim
        | normal =>
        obtain ⟨hrl1, h2l⟩ := g2.kept.block l _ hrl h1l
        refine ⟨_, run_beginRound hrl1 (by rw [hrec]), ?_⟩
        have hll1 : l < w1.heap.size := (Array.getElem?_eq_some_iff.1 hrl1).1
        have hb1 : (W.putObj l (.loop { rec .ready none with state := .busy })).heap[l]? = some (.loop { rec .ready none with state := .busy }) := World.putObj_heap_same hll
        have hKept2 : Kept h1 (W.putObj l (.loop { rec .ready none with state := .busy })) h2 (w1.putObj l (.loop { rec .ready none with state := .busy })) := by
          refine ⟨g2.kept.os, g2.kept.tape, g2.kept.output, by simpa using g2.kept.size, fun b o hb hn => ?_⟩
          by_cases hbl : b = l
          · subst hbl
            rw [hb1] at hb
            cases hb
            exact ⟨World.putObj_heap_same hll1, h2l⟩
          · rw [hput _ _ _ hbl] at hb ⊢
            exact g2.kept.block b o hb hn
        have hHR2 : HeapR (W.putObj l (.loop { rec .ready none with state := .busy })) h1 ρ1 st1 h2 (w1.putObj l (.loop { rec .ready none with state := .busy })) := by
          refine ⟨fun b o hb => ?_, hKept2, fun m cs t e => ?_, g2.inj, g2.top⟩
          · rw [hput _ _ _ (fun e => by rw [e, h2l] at hb; cases hb)]; exact g2.holds b o hb
          · obtain ⟨q1, q2, q3⟩ := g2.loc m cs t e
            have hml : ρ1 m ≠ l := fun e' => q3 _ (by rw [e']; exact hrl) (by rw [e']; exact h1l)
            exact ⟨by rw [hput _ _ _ hml]; exact q1, q2, fun o ho => q3 o (by rw [hput _ _ _ hml] at ho; exact ho)⟩
        refine wpIn_mono (ihy (w0 := _) (h0 := h1) (r := some l) (.inr cy) k1 g1 s1 g3.defers hHR2) ?_
        rintro e a2 w3 ⟨⟨x0, st2, h3, ρ2, ee, k2, f1, f2, f3⟩, t1, t3⟩
        subst ee
        obtain ⟨hrl3, h3l⟩ := f2.kept.block l _ hb1 h1l
        obtain ⟨hrD3, h3D⟩ := f2.kept.block D _ (by rw [hput _ _ _ hDl]; exact hrD) h1D
        have hll3 : l < w3.heap.size := (Array.getElem?_eq_some_iff.1 hrl3).1
        have fin : ∀ (jump : Option Code) (rc : Loop), rc = { rec .ready none with state := if jump.isNone then .ready else .done, pending := jump } → ∀ QQ : Value → Hp → Prop, QQ (.bool jump.isNone) (rangeG h3 D l rc) →
            ∃ v w', (Instr.endRound l jump).run P w3 = .ok v w' ∧ ∃ v' h', Ending.returned v = .returned v' ∧ QQ v' h' ∧ Holds h' w' ∧ Kept (rangeG h1 D l (rec .ready none)) W h' w' := by
          intro jump rc hrc QQ hQ
          refine ⟨_, _, run_endRound jump hrl3, _, _, rfl, hQ, fun c o hc => ?_, ⟨f2.kept.os, f2.kept.tape, f2.kept.output, by have := f2.kept.size; simpa using this, fun b o hb hn => ?_⟩⟩
          · rw [rangeG_get] at hc
            by_cases hcl : c = l
            · rw [if_pos hcl] at hc
              cases hc
              rw [hcl, World.putObj_heap_same hll3, hrc]
            · rw [if_neg hcl] at hc
              rw [hput _ _ _ hcl]
              by_cases hcD : c = D
              · rw [if_pos hcD] at hc
                cases hc
                rw [hcD]; exact hrD3
              · rw [if_neg hcD] at hc
                exact f2.holds c o hc
          · rw [rangeG_get] at hn ⊢
            by_cases hbl : b = l
            · rw [if_pos hbl] at hn; cases hn
            · rw [if_neg hbl] at hn ⊢
              by_cases hbD : b = D
              · rw [if_pos hbD] at hn; cases hn
              · rw [if_neg hbD] at hn ⊢
                rw [hput _ _ _ hbl]
                exact f2.kept.block b o (by rw [hput _ _ _ hbl]; exact hb) hn
        cases x0 with
        | normal => exact fin none (rec .ready none) (by rw [hrec]; rfl) _ (.inl ⟨rfl, h3, k2, h3D, h3l, rfl⟩)
        | ret => exact fin (some .ret) (rec .done (some .ret)) (by rw [hrec]; rfl) _ (.inr ⟨rfl, 0, h3, k2, .inl rfl, h3D, h3l, rfl⟩)
        | exit i =>
          simp only [] at k2
          cases ei : y.exits.any (Nat.beq i) with
          | false => rw [ei] at k2; exact k2.elim
          | true =>
            rw [ei] at k2
            obtain ⟨i', hi', hb⟩ := List.any_eq_true.1 ei
            rw [← Nat.eq_of_beq_eq_true hb] at hi'
            exact fin (some (.exit i)) (rec .done (some (.exit i))) (by rw [hrec]; rfl) _ (.inr ⟨rfl, i + 1, h3, k2, .inr ⟨i, hi', rfl⟩, h3D, h3l, rfl⟩)
      have hstab : ∀ h1 (o1 : Obj), h1 D = none → h1 l = none → Pre h1 → ∀ rc, Pre (rangeG h1 D l rc) := fun h1 _ h1D h1l hp rc => by
        unfold rangeG
        refine hPre _ _ _ ?_ (hPre _ _ _ h1D hp)
        rw [Hp.upd_ne _ _ (Ne.symm hDl)]; exact h1l
      have hHolds1 : Holds (rangeG h D l (rec .ready none)) W1 := fun c o hc => by
        rw [rangeG_get] at hc
        by_cases hcl : c = l
        · rw [if_pos hcl] at hc; cases hc; rw [hcl]; exact hL1
        · rw [if_neg hcl] at hc
          by_cases hcD : c = D
          · rw [if_pos hcD] at hc; cases hc; rw [hcD]; exact hK1
          · rw [if_neg hcD] at hc
            have := hh.holds c o hc
            rw [hb1.block c (get_lt this)]; exact this
      refine calls_fr (Calls.mono (hI l (fun k g => ∃ h1, J k h1 ∧ h1 D = none ∧ h1 l = none ∧ g = rangeG h1 D l (rec .ready none)) (fun g => ∃ c h1, Jx c h1 ∧ (c = 0 ∨ ∃ i ∈ y.exits, c = i + 1) ∧ h1 D = none ∧ h1 l = none ∧ g = rangeG h1 D l (rec .done (some (jumpOf c))))
        (fun k g ⟨h1, hJ, h1D, h1l, eg⟩ => by rw [eg]; exact hstab h1 (.deferred none) h1D h1l (hJP k h1 hJ) _) hyield _ ⟨h, hJ0, hhD, hhl, rfl⟩ W1 hHolds1) ?_)
      rintro e W2 ⟨v, g2, rfl, hpost, hg2, hk2⟩
      -- behind it
      have hback : ∀ (h2 : Hp) (rc : Loop), h2 D = none → h2 l = none → g2 = rangeG h2 D l rc → ∀ (o : Obj) (x0 : Ex), K x0 { st with marks := D :: st.marks } (h2.upd D (.deferred (some []))) →
          Post H w0 h0 ρ st a (Code.asg (.rangeFunc g ps x y)) K x0.to { a with defers := [markD D] ++ a.defers } (W2.putObj l o) := by
        intro h2 rc h2D h2l eg2 o x0 hK
        subst eg2
        have g2D : W2.heap[D]? = some (.deferred (some [])) := hg2 D _ (by rw [rangeG_get, if_neg hDl, if_pos rfl])
        refine ⟨⟨x0, { st with marks := D :: st.marks }, _, ρ, rfl, hK, fun t => he t, ⟨fun c o' hc => ?_, hh.kept.trans ⟨?_, ?_, ?_, ?_, fun b o' hb hn => ?_⟩, fun m cs t e' => ?_, fun m q u v e' => ?_, fun m _ => hL m⟩, ⟨Nat.le_refl _, fun _ _ => rfl, fun _ _ => ⟨Nat.le_refl _, fun _ => rfl⟩, ⟨[D], rfl⟩, ?_⟩⟩, hN, fun _ _ => rfl⟩
        · by_cases hcD : c = D
          · rw [hcD, Hp.upd_same] at hc
            cases hc
            rw [hcD, hput _ _ _ hDl]; exact g2D
          · rw [Hp.upd_ne _ _ hcD] at hc
            have hcl : c ≠ l := fun e => by rw [e, h2l] at hc; cases hc
            rw [hput _ _ _ hcl]
            exact hg2 c o' (by rw [rangeG_get, if_neg hcl, if_neg hcD]; exact hc)
        · exact hk2.os.trans hb1.os
        · exact hk2.tape.trans hb1.tape
        · exact hk2.output.trans hb1.output
        · have := Nat.le_trans hb1.size hk2.size
          simpa using this
        · have hbs := get_lt hb
          have hbl : b ≠ l := by omega
          have hbD : b ≠ D := by omega
          obtain ⟨q1, q2⟩ := hk2.block b o' (by rw [hb1.block b hbs]; exact hb) (by rw [rangeG_get, if_neg hbl, if_neg hbD]; exact hn)
          rw [rangeG_get, if_neg hbl, if_neg hbD] at q2
          exact ⟨by rw [hput _ _ _ hbl]; exact q1, by rw [Hp.upd_ne _ _ hbD]; exact q2⟩
        · rw [show ({ st with marks := D :: st.marks } : St).L m = none from hL m] at e'; cases e'
        · rw [show ({ st with marks := D :: st.marks } : St).L m = none from hL m] at e'; cases e'
        · show [markD D] ++ a.defers = (D :: st.marks).map markD
          rw [hd]; rfl
      rcases hpost with ⟨k, hEk, h2, hJ2, h2D, h2l, eg2⟩ | ⟨c, h2, hJ2, hc, h2D, h2l, eg2⟩
      · have hrl2 : W2.heap[l]? = some (.loop (rec .ready none)) := hg2 l _ (by rw [eg2, rangeG_get, if_pos rfl])
        refine ⟨none, _, ?_, hback h2 _ h2D h2l eg2 (.loop { rec .ready none with state := .exhausted }) .normal (hE k h2 hJ2 hEk D h2D)⟩
        have := run_endLoop (P := P) hrl2 (by rw [hrec]; simp)
        rw [hrec] at this ⊢; exact this
      · have hrl2 : W2.heap[l]? = some (.loop (rec .done (some (jumpOf c)))) := hg2 l _ (by rw [eg2, rangeG_get, if_pos rfl])
        refine ⟨some (jumpOf c), W2.putObj l (.loop { rec .done (some (jumpOf c)) with state := .exhausted }), ?_, ?_⟩
        · have := run_endLoop (P := P) hrl2 (by rw [hrec]; simp)
          rw [hrec] at this ⊢; exact this
        · simp only []
          rcases hc with rfl | ⟨i, hi, rfl⟩
          · exact wpIn_ret (hback h2 _ h2D h2l eg2 _ .ret (hRet h2 hJ2 D h2D))
          · exact wpIn_exit (hback h2 _ h2D h2l eg2 _ (.exit i) (exW_spec hEx i hi h2 hJ2 D h2D))
end
end Go.Gx
