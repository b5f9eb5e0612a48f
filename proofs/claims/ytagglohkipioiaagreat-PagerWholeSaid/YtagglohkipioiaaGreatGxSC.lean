/- Soundness of the executor, last part: code, loops, functions. -/
import Derived.Test.YtagglohkipioiaaGreatGxD
namespace Go.Gx

/-! ### in a round as everywhere -/
abbrev FR (r : Option Nat) : Fence := { Fence.wide with round := r }
theorem calls_fr {r : Option Nat} {m : Nat} {P : Program} {f : FuncId} {args : Array Value} {w : World} {R : Ending → World → Prop} (h : Calls P f args w R) : CallsIn (FR r) m P f args w R := by
  cases r with
  | none => exact callsIn_wide.2 h
  | some l => exact CallsIn.inRound l (callsIn_wide.2 h)
theorem rows_fr {r : Option Nat} {m : Nat} {P : Program} {row : String} {args : Array Value} {w : World} {R : Value → World → Prop} (h : Rows P row args w R) : RowsIn (FR r) m P row args w R := fun c cs _ =>
  let ⟨v, w', q, s⟩ := h c cs
  ⟨v, w', q, (stepsIn_wide (P := P)).2 s⟩
theorem wp_fr {r : Option Nat} {n : Nat} {P : Program} {o : Oper} {a : Act} {w : World} {next : Act → World → Prop} {Q : Exit → Act → World → Prop} (hd : r = none ∨ ∀ c, o.op ≠ .defer c) (h : o.wp P a w next Q) : o.wpIn (FR r) n P a w next Q := by
  refine ⟨fun _ _ => trivial, ?_⟩
  have e : o.semAt (FR r).round a.eval = execOp a.eval o := by
    rcases hd with rfl | hd
    · rfl
    · cases r with
      | none => rfl
      | some l => exact Oper.semAt_some l a.eval o hd
  rw [e]
  unfold Oper.wp at h
  generalize (execOp a.eval o).run P w = res at h
  cases res with
  | ok x w' =>
    cases x with
    | enter f args => exact ⟨(fun h => by cases h), calls_fr h⟩
    | row row args => exact ⟨(fun h => by cases h), rows_fr h⟩
    | value v => exact h
    | skip => exact h
    | defer d => exact h
    | _ => exact h.elim
  | halt x w' =>
    cases x <;> first | exact h | exact (show False from h).elim
def notDefer (o : Oper) : Bool := match o.op with
  | .defer _ => false
  | _ => true
theorem notDefer_spec {o : Oper} (h : notDefer o = true) : ∀ c, o.op ≠ .defer c := fun c e => by unfold notDefer at h; rw [e] at h; cases h
theorem list_fr {r : Option Nat} {n : Nat} {P : Program} {ops : Array Oper} {Q : Exit → Act → World → Prop} (hq : ¬ LetsOut Q) : ∀ (l : List Oper) (a : Act) (w : World), (r = none ∨ l.all notDefer = true) → wpList P ops Q l a w → wpListIn (FR r) n P ops Q l a w
  | [], _, _, _, h => h
  | o :: l, a, w, hd, h => by
    have hd1 : r = none ∨ ∀ c, o.op ≠ .defer c := hd.imp id fun h => notDefer_spec (Bool.and_eq_true_iff.1 (by rw [List.all_cons] at h; exact h)).1
    have hd2 : r = none ∨ l.all notDefer = true := hd.imp id fun h => (Bool.and_eq_true_iff.1 (by rw [List.all_cons] at h; exact h)).2
    unfold wpList at h
    unfold wpListIn
    split
    · rename_i hw
      rw [if_pos hw] at h
      rcases h with h | h
      · exact wp_fr hd1 (Oper.wp_mono (fun a w => list_fr hq l a w hd2) h)
      · exact absurd h.2 hq
    · rename_i hw
      rw [if_neg hw] at h
      exact ⟨fun _ _ => trivial, list_fr hq l _ w hd2 h⟩
theorem round_fr {r : Option Nat} {n m : Nat} {P : Program} {l : Nat} {f : FuncId} {tmps : Array Value} {assign body : Code} {w : World} {R : Ending → World → Prop} (h : RoundIn Fence.wide m P l f tmps assign body w R) : RoundIn (FR r) n P l f tmps assign body w R :=
  ⟨trivial, fun c cs _ => h.2 c cs (room_wide _)⟩
theorem isYield_spec {st : St} {o : Oper} {yl : Nat} {xs : List Operand} (h : isYield st o = some (yl, xs)) : ∃ c f, o.op = .call c ∧ c.callee = .value f ∧ st.ev f = .val (.func (.yield yl) #[] #[]) ∧ xs = c.args.toList := by
  unfold isYield at h
  split at h
  · rename_i c ec
    split at h
    · rename_i f ef
      split at h
      · rename_i l fst cap ev
        cases e : (fst.isEmpty && cap.isEmpty) with
        | false => rw [e] at h; cases h
        | true =>
          rw [e] at h
          obtain ⟨e1, e2⟩ := Bool.and_eq_true_iff.1 e
          have e1 : fst = #[] := by simpa using e1
          have e2 : cap = #[] := by simpa using e2
          subst e1; subst e2
          cases h
          exact ⟨c, f, ec, ef, ev, rfl⟩
      · cases h
    · cases h
  · cases h
section
variable {P : Program} {H : Hints} {w0 : World} {h0 : Hp}
theorem yield_left {r : Option Nat} {n : Nat} {o : Oper} {st st1 : St} {h : Hp} {K : St → Hp → Prop} {a : Act} {w : World} {next : Act → World → Prop} {Q : Exit → Act → World → Prop} {ρ : Nat → Nat} {st0 : St} {yl : Nat} {xs : List Operand}
    (hy : isYield st1 o = some (yl, xs)) (he1 : EnvR ρ st1 a.tmps) (hW : yieldW P st yl xs h fun s st' h' => K (st'.put H.N o.dst s) h') (he : EnvR ρ st a.tmps) (hN : a.tmps.size = H.N) (hh : HeapR w0 h0 ρ st h w) (hx : Ext ρ ρ st0 st)
    (hn : ∀ a' w', Left P H w0 h0 ρ st0 a (dstIs o) K a' w' → next a' w') : o.wpIn (FR r) n P a w next Q := by
  obtain ⟨c, f, ec, ef, ev, rfl⟩ := isYield_spec hy
  have hv : a.eval f = .func (.yield yl) #[] #[] := ev_val he1 ev
  have hW := evVs_spec he hW
  obtain ⟨fn, tmps, assign, body, hyr, hR⟩ := hW w hh.holds
  refine ⟨fun _ _ => trivial, ?_⟩
  have e : o.semAt (FR r).round a.eval = execOp a.eval o := by
    cases r with
    | none => rfl
    | some l => exact Oper.semAt_some l a.eval o fun c' e' => by rw [ec] at e'; cases e'
  have hrun : (execOp a.eval o).run P w = .ok (.round yl fn tmps assign body) w := by
    simp only [execOp, ec, Sem.run_bind, resolve, ef, hv, Deferred.ofValue, Sem.run_pure, Result.andThen_ok, invoke]
    have e2 : (c.args.map a.eval) = (List.map a.eval c.args.toList).toArray := by apply Array.ext'; simp
    simp only [Array.empty_append]
    rw [e2]; exact hyr
  rw [e, hrun]
  refine ⟨(fun h => by cases h), round_fr (RoundIn.mono hR ?_)⟩
  rintro e w' ⟨v, h', rfl, ⟨b, rfl, hk⟩, hh', hk'⟩
  refine hn _ _ ⟨⟨_, h', ρ, hk, he.put hN rfl, (hh.call hh' hk').put _ _ _, hx.trans (Ext.put _ _ _ _ _)⟩, put_size _ _ _, put_defers _ _ _, fun _ ht => put_other _ _ _ (dst_ne ht)⟩
theorem opGY_sound {r : Option Nat} {n : Nat} {ops : Array Oper} {o : Oper} {st : St} {h : Hp} {K : St → Hp → Prop} {a : Act} {w : World} {next : Act → World → Prop} {Q : Exit → Act → World → Prop} {ρ : Nat → Nat} {yl : Nat} {xs : List Operand} (hyl : isYield st o = some (yl, xs))
    (hW : opGY P H ops o yl xs st h K) (he : EnvR ρ st a.tmps) (hN : a.tmps.size = H.N) (hh : HeapR w0 h0 ρ st h w)
    (hn : ∀ a' w', Left P H w0 h0 ρ st a (dstIs o) K a' w' → next a' w') :
    if Region.wanted o (yielded ops a.tmps) then o.wpIn (FR r) n P a w next Q else next (a.put o.dst undef) w := by
  unfold opGY at hW
  cases hg : o.guard with
  | none =>
    rw [hg] at hW
    simp only [Region.wanted, hg, if_true]
    exact yield_left hyl he hW he hN hh (Ext.refl _ _) hn
  | some jw =>
    obtain ⟨j, want⟩ := jw
    rw [hg] at hW
    simp only [] at hW
    cases hd : (ops[j]?).bind (·.dst) with
    | none => rw [hd] at hW; exact hW.elim
    | some d =>
      rw [hd] at hW
      simp only [] at hW
      have hed := he d
      simp only [Region.wanted, hg]
      split at hW
      · rename_i b eb
        rw [eb] at hed
        have hed' : a.tmps.getD d undef = .bool b := hed
        have hy : yielded ops a.tmps j = some b := by
          unfold yielded
          simp only [hd, Option.bind_some, getD_some hed' (by intro h; cases h)]
        have he' : EnvR ρ (st.set d (.val (.bool b))) a.tmps := he.setBool hed'
        cases b <;> cases want <;> simp only [cond_true, cond_false] at hW
        · rw [hy, if_pos (by decide)]; exact yield_left hyl he hW he' hN (hh.set _ _) (Ext.set _ _ _ _) hn
        · rw [hy, if_neg (by decide)]; exact hn _ _ (skip_left hW he' hN (hh.set _ _) (Ext.set _ _ _ _))
        · rw [hy, if_neg (by decide)]; exact hn _ _ (skip_left hW he' hN (hh.set _ _) (Ext.set _ _ _ _))
        · rw [hy, if_pos (by decide)]; exact yield_left hyl he hW he' hN (hh.set _ _) (Ext.set _ _ _ _) hn
      · rename_i vs eb
        rw [eb] at hed
        have hed' : a.tmps.getD d undef = .tuple vs := hed
        have hy : yielded ops a.tmps j = none := by
          unfold yielded
          simp only [hd, Option.bind_some]
          rw [Array.getD_eq_getD_getElem?] at hed'
          cases e : a.tmps[d]? with
          | none => rfl
          | some x => rw [e] at hed'; simp at hed'; rw [hed']
        rw [hy, if_neg (by cases want <;> decide)]
        exact hn _ _ (skip_left hW he hN hh (Ext.refl _ _))
      · exact hW.elim
theorem opsW_sound {r : Option Nat} {n : Nat} {ops : Array Oper} {Q : Exit → Act → World → Prop} : ∀ (l : List Oper) {st : St} {h : Hp} {K : St → Hp → Prop} {a : Act} {w : World} {ρ : Nat → Nat},
    (r = none ∨ l.all notDefer = true) → opsW P H ops l st h K → EnvR ρ st a.tmps → a.tmps.size = H.N → HeapR w0 h0 ρ st h w → (∀ a' w', Left P H w0 h0 ρ st a (opsAsg l) K a' w' → Q .normal a' w') → wpListIn (FR r) n P ops Q l a w
  | [], st, h, K, a, w, ρ, _, hW, he, hN, hh, hn => hn _ _ ⟨⟨st, h, ρ, hW, he, hh, Ext.refl _ _⟩, rfl, rfl, fun _ _ => rfl⟩
  | o :: l, st, h, K, a, w, ρ, hd, hW, he, hN, hh, hn => by
    have hd1 : r = none ∨ ∀ c, o.op ≠ .defer c := hd.imp id fun h => notDefer_spec (Bool.and_eq_true_iff.1 (by rw [List.all_cons] at h; exact h)).1
    have hd2 : r = none ∨ l.all notDefer = true := hd.imp id fun h => (Bool.and_eq_true_iff.1 (by rw [List.all_cons] at h; exact h)).2
    have next : ∀ a1 w1, Left P H w0 h0 ρ st a (dstIs o) (fun st' h' => opsW P H ops l st' h' K) a1 w1 → wpListIn (FR r) n P ops Q l a1 w1 := by
      rintro a1 w1 ⟨⟨st1, h1, ρ1, hW1, he1, hh1, hx1⟩, hs1, hd1', hf1⟩
      refine opsW_sound l hd2 hW1 he1 (hs1.trans hN) hh1 fun a2 w2 ⟨⟨st2, h2, ρ2, hK2, he2, hh2, hx2⟩, hs2, hd2', hf2⟩ => hn _ _ ⟨⟨st2, h2, ρ2, hK2, he2, hh2, hx1.trans hx2⟩, hs2.trans hs1, hd2'.trans hd1', fun t ht => ?_⟩
      have ht' : (dstIs o t || opsAsg l t) = false := ht
      obtain ⟨t1, t2⟩ := Bool.or_eq_false_iff.1 ht'
      rw [hf2 t t2, hf1 t t1]
    unfold wpListIn
    unfold opsW at hW
    split at hW
    · have := opG_sound (Q := Q) False hW he hN hh hh.holds next
      split
      · rename_i hw
        rw [if_pos hw] at this
        exact wp_fr hd1 (this.resolve_right id)
      · rename_i hw
        rw [if_neg hw] at this
        exact ⟨fun _ _ => trivial, this⟩
    · rename_i yl xs hyl
      have := opGY_sound (r := r) (n := n) (Q := Q) hyl hW he hN hh next
      split
      · rename_i hw
        rw [if_pos hw] at this
        exact this
      · rename_i hw
        rw [if_neg hw] at this
        exact ⟨fun _ _ => trivial, this⟩
end
theorem any_fr {r : Option Nat} {n : Nat} {P : Program} {ops : Array Oper} {Q : Exit → Act → World → Prop} {md : Region.Mode} (hq : ¬ LetsOut Q) (hd : r = none ∨ ops.toList.all notDefer = true) : ∀ (fuel : Nat) (L : Array Bool) (a : Act) (w : World), wpAny P md ops Q fuel L a w → wpAnyIn (FR r) n P md ops Q fuel L a w
  | 0, _, _, _, h => h
  | fuel + 1, L, a, w, h => ⟨h.1, fun i hi => by
    have h := h.2 i hi
    unfold wpOp at h
    unfold wpOpIn
    split
    · rename_i e
      rw [e] at h
      exact any_fr hq hd fuel _ a w h
    · rename_i o e
      rw [e] at h
      simp only [] at h
      have hd1 : r = none ∨ ∀ c, o.op ≠ .defer c := hd.imp id fun h => notDefer_spec (List.all_eq_true.1 h o (Array.mem_toList_iff.2 (Array.mem_of_getElem? e)))
      split
      · rename_i hw
        rw [if_pos hw] at h
        rcases h with h | h
        · exact wp_fr hd1 (Oper.wp_mono (fun a w => any_fr hq hd fuel _ a w) h)
        · exact absurd h.2 hq
      · rename_i hw
        rw [if_neg hw] at h
        exact ⟨fun _ _ => trivial, any_fr hq hd fuel _ _ w h⟩⟩
theorem wpIn_loop_rel {F : Fence} {n : Nat} {P : Program} {Q : Exit → Act → World → Prop} {c : Code} (I : Nat → Act → World → Prop) {a : Act} {w : World} {m : Nat} (h₀ : I m a w)
    (round : ∀ m a w, I m a w → c.wpIn F n P (Exit.then (fun a' w' => ∃ m', m' < m ∧ I m' a' w') Q) a w) : (Code.loop c).wpIn F n P Q a w := by
  intro b k cs hro hb hr
  have key : ∀ m a w, I m a w → ∃ e a' w', Q e a' w' ∧ ArrivesIn (Machine.fenced P F) P (lone (b.atR a (.code c :: .inLoop c :: k)) cs w) b k cs e a' w' := by
    intro m
    induction m using Nat.strongRecOn with
    | _ m ih =>
      intro a w hI
      obtain ⟨e, a₁, w₁, hq, harr⟩ := round m a w hI b (.inLoop c :: k) cs hro hb hr
      cases e with
      | normal =>
        obtain ⟨m', hlt, hI₁⟩ := hq
        obtain ⟨e₂, a₂, w₂, hq₂, harr₂⟩ := ih m' hlt a₁ w₁ hI₁
        exact ⟨e₂, a₂, w₂, hq₂, .of_steps (StepsIn.trans harr (.one (fenced_calm hb hr rfl) stepR_inLoop)) harr₂⟩
      | exit id => exact ⟨_, a₁, w₁, hq, .pass (x := .inLoop c) rfl (fun _ _ => .inl (by simp)) harr⟩
      | goto l => exact ⟨_, a₁, w₁, hq, .pass (x := .inLoop c) rfl (fun _ _ => .inl (by simp)) harr⟩
      | ret => exact ⟨_, a₁, w₁, hq, .pass (x := .inLoop c) rfl (fun _ _ => .inl (by simp)) harr⟩
      | panic ch => exact ⟨_, a₁, w₁, hq, .pass (x := .inLoop c) rfl (fun _ _ => .inl (by simp)) harr⟩
      | outgrown => exact ⟨_, a₁, w₁, hq, .pass (x := .inLoop c) rfl (fun _ _ => .inl (by simp)) harr⟩
  obtain ⟨e, a', w', hq, harr⟩ := key m a w h₀
  exact ⟨e, a', w', hq, .of_steps (.one (fenced_calm hb hr rfl) stepR_loop) harr⟩

def Ex.to : Ex → Exit
  | .normal => .normal
  | .exit i => .exit i
  | .ret => .ret
def markD (D : Nat) : Deferred := { target := .collected D, args := #[] }
structure ExtD (a' : Act) (ρ ρ' : Nat → Nat) (st st' : St) : Prop where
  n : st.n ≤ st'.n
  rho : ∀ l, l < st.n → ρ' l = ρ l
  ver : ∀ l, l < st.n → st.ver l ≤ st'.ver l ∧ (st'.ver l = st.ver l → st'.L l = st.L l)
  marks : ∃ l, st'.marks = l ++ st.marks
  defers : a'.defers = st'.marks.map markD
theorem Ext.toD {a' : Act} {ρ ρ' : Nat → Nat} {st st' : St} (x : Ext ρ ρ' st st') (hd : a'.defers = st.marks.map markD) : ExtD a' ρ ρ' st st' := ⟨x.n, x.rho, x.ver, ⟨[], x.marks⟩, by rw [hd, x.marks]⟩
theorem ExtD.trans {a1 a2 : Act} {ρ ρ' ρ'' : Nat → Nat} {a b c : St} (x : ExtD a1 ρ ρ' a b) (y : ExtD a2 ρ' ρ'' b c) : ExtD a2 ρ ρ'' a c := by
  refine ⟨Nat.le_trans x.n y.n, fun l hl => by rw [y.rho l (Nat.lt_of_lt_of_le hl x.n), x.rho l hl], fun l hl => ?_, ?_, y.defers⟩
  · have h1 := x.ver l hl
    have h2 := y.ver l (Nat.lt_of_lt_of_le hl x.n)
    refine ⟨Nat.le_trans h1.1 h2.1, fun e => ?_⟩
    have e1 : b.ver l = a.ver l := by omega
    have e2 : c.ver l = b.ver l := by omega
    rw [h2.2 e2, h1.2 e1]
  · obtain ⟨l, hl⟩ := x.marks
    obtain ⟨m, hm⟩ := y.marks
    exact ⟨m ++ l, by rw [hm, hl, List.append_assoc]⟩
theorem ExtD.same {a' : Act} {ρ ρ' : Nat → Nat} {st st' : St} (x : ExtD a' ρ ρ' st st') (h : st'.marks.length = st.marks.length) : a'.defers = st.marks.map markD := by
  obtain ⟨l, hl⟩ := x.marks
  have : l = [] := by rw [hl, List.length_append] at h; exact List.eq_nil_of_length_eq_zero (by omega)
  rw [x.defers, hl, this]; rfl
section
variable {P : Program} {H : Hints}

/-- What a piece of code leaves. -/
structure Post (H : Hints) (w0 : World) (h0 : Hp) (ρ : Nat → Nat) (st : St) (a : Act) (C : Nat → Bool) (K : Ex → St → Hp → Prop) (e : Exit) (a' : Act) (w' : World) : Prop where
  ex : ∃ x st' h' ρ', x.to = e ∧ K x st' h' ∧ EnvR ρ' st' a'.tmps ∧ HeapR w0 h0 ρ' st' h' w' ∧ ExtD a' ρ ρ' st st'
  size : a'.tmps.size = H.N
  frame : ∀ t, C t = false → a'.tmps[t]? = a.tmps[t]?
theorem Post.in {w0 : World} {h0 : Hp} {ρ : Nat → Nat} {st : St} {a : Act} {C : Nat → Bool} {K : Ex → St → Hp → Prop} : ¬ LetsOut (Post H w0 h0 ρ st a C K) := fun ⟨_, _, h⟩ => by
  obtain ⟨x, _, _, _, e, _⟩ := h.ex
  cases x <;> cases e
theorem carried_rel {w0 : World} {h0 : Hp} {ks : List Cv} {st sb st' st1 : St} {ρ ρ' : Nat → Nat} {a a' : Act} {h : Hp} {w' : World} {c : Code}
    (hc : Carried ks (st.head c) st' st1) (he : EnvR ρ st a.tmps) (he' : EnvR ρ' st' a'.tmps) (hh' : HeapR w0 h0 ρ' st' h w') (hst : ∀ l, st.n ≤ l → st.L l = none)
    (_ : st.n ≤ st'.n) (hr : ∀ l, l < st.n → ρ' l = ρ l) (hf : ∀ t, c.asg t = false → a'.tmps[t]? = a.tmps[t]?) (hl : lblOk ks st.n = true)
    (hT : ∀ l, carries ks l = true → st'.cellT l = st.cellT l) (hL : ∀ l, l < st.n → carries ks l = false → st'.L l = st.L l) (_ : sb = sb) :
    EnvR ρ' st1 a'.tmps ∧ HeapR w0 h0 ρ' st1 h w' ∧ Ext ρ ρ' st st1 ∧ st1.n = st.n ∧ (∀ l, st1.cellT l = st.cellT l) ∧ (∀ l, carries ks l = false → st1.L l = st.L l) := by
  have hn1 : st1.n = st.n := hc.n
  have key : ∀ l x, st1.L l = some x → st'.L l = some x := by
    intro l x e
    cases ec : carries ks l with
    | true =>
      obtain ⟨cs, T, h1, h2⟩ := hc.yes l ec
      rw [h2] at e
      have hT' := hT l ec
      have : st'.cellT l = T := by simp [St.cellT, h1]
      have h3 : (st.head c).cellT l = st.cellT l := rfl
      rw [h3, ← hT', this] at e
      rw [h1]; exact e
    | false =>
      have h1 := hc.no l ec
      have h2 : (st.head c).L l = st.L l := rfl
      rw [h1, h2] at e
      rcases Nat.lt_or_ge l st.n with hlt | hge
      · rw [hL l hlt ec]; exact e
      · rw [hst l hge] at e; cases e
  refine ⟨fun t => ?_, ⟨hh'.holds, hh'.kept, fun l cs T e => hh'.loc l cs T (key l _ e), fun l m x y e1 e2 e3 => hh'.inj l m x y (key l _ e1) (key m _ e2) e3, fun l hl' => ?_⟩, ⟨by omega, hr, fun l hl' => ⟨?_, fun e => ?_⟩, hc.marks⟩, hn1, fun l => ?_, fun l e => hc.no l e⟩
  · rcases hc.e t with e | ⟨v, e, ev⟩
    · rw [e]
      simp only [St.head]
      cases ea : c.asg t with
      | true => exact trivial
      | false =>
        simp only [cond_false]
        have h1 := he t
        rw [Array.getD_eq_getD_getElem?] at h1 ⊢
        rw [hf t ea]
        exact h1.mono (by omega) hr
    · rw [e]
      exact (he' t).toV ev
  · rw [hn1] at hl'
    cases e : st1.L l with
    | none => rfl
    | some x =>
      cases ec : carries ks l with
      | true => have := lblOk_spec hl ec; omega
      | false =>
        have h1 := hc.no l ec
        have h2 : (st.head c).L l = st.L l := rfl
        rw [h1, h2, hst l hl'] at e; cases e
  · exact hc.ver l
  · cases ec : carries ks l with
    | true =>
      have h1 := hc.verY l ec
      have h2 : (st.head c).ver l = st.ver l := rfl
      omega
    | false => exact hc.no l ec
  · cases ec : carries ks l with
    | true =>
      obtain ⟨cs, T, h1, h2⟩ := hc.yes l ec
      simp only [St.cellT, h2]; rfl
    | false => simp only [St.cellT, hc.no l ec]; rfl

/-- What stands behind a loop's entry: the block for its rounds' deferred calls, and its record. -/
def rangeG (h : Hp) (D l : Nat) (rec : Loop) : Hp := (h.upd D (.deferred (some []))).upd l (.loop rec)
theorem rangeG_get {h : Hp} {D l : Nat} {rec : Loop} (c : Nat) : rangeG h D l rec c = if c = l then some (.loop rec) else if c = D then some (.deferred (some [])) else h c := by
  unfold rangeG Hp.upd
  split <;> rfl
theorem params_env {N : Nat} {ρ : Nat → Nat} : ∀ {ps : List Nat} {vs : List Value} {st : St} {tmps : Array Value}, EnvR ρ st tmps → tmps.size = N → ps.length = vs.length →
    EnvR ρ (st.params N ps vs) ((ps.zip vs).foldl (fun t (x : Nat × Value) => t.setIfInBounds x.1 x.2) tmps) ∧ ((ps.zip vs).foldl (fun t (x : Nat × Value) => t.setIfInBounds x.1 x.2) tmps).size = N ∧ (st.params N ps vs).L = st.L ∧ (st.params N ps vs).n = st.n ∧ (st.params N ps vs).marks = st.marks ∧ (st.params N ps vs).ver = st.ver
  | [], vs, st, tmps, he, hN, _ => by
    have : st.params N [] vs = st := by unfold St.params; rfl
    rw [this]; exact ⟨he, hN, rfl, rfl, rfl, rfl⟩
  | p :: ps, [], st, tmps, _, _, hl => by simp at hl
  | p :: ps, v :: vs, st, tmps, he, hN, hl => by
    have h1 : EnvR ρ (st.put N (some p) (.val v)) (tmps.setIfInBounds p v) := by
      intro t
      have h0 := he t
      rw [Array.getD_eq_getD_getElem?] at h0 ⊢
      rw [Array.getElem?_setIfInBounds]
      unfold St.put
      simp only [St.set]
      by_cases e : p = t
      · subst e
        rw [nbeq_self]
        simp only [cond_true]
        cases hb : Nat.blt p N with
        | true =>
          have hb : p < tmps.size := by rw [hN]; exact Nat.le_of_ble_eq_true hb
          simp [hb, SVr]
        | false => exact trivial
      · rw [if_neg e, nbeq_ne (Ne.symm e)]; exact h0
    have := params_env (ps := ps) (vs := vs) h1 (by simpa using hN) (by simpa using hl)
    exact this
theorem exL_length : ∀ {ts : List Vt} {F : List Value → Prop}, Vt.exL ts F → ∃ vs, vs.length = ts.length ∧ F vs
  | [], F, h => ⟨[], rfl, by simpa [Vt.exL] using h⟩
  | t :: ts, F, h => by
    simp only [Vt.exL] at h
    obtain ⟨v, h⟩ := Vt.ex_spec h
    obtain ⟨vs, e, h⟩ := exL_length h
    exact ⟨v :: vs, by simp [e], h⟩
theorem Kd.univ_spec {k : Kd} {F G : Value → Prop} (h1 : k.univ F) (h2 : k.ex G) : ∃ v, F v ∧ G v := by
  cases k <;> simp only [Kd.univ, Kd.ex] at h1 h2
  case slice => obtain ⟨a, l, c, h⟩ := h2; exact ⟨_, h1 a l c, h⟩
  all_goals (obtain ⟨x, h⟩ := h2; exact ⟨_, h1 x, h⟩)
theorem kdsUniv_spec : ∀ {ks : List Kd} {F G : List Value → Prop}, kdsUniv ks F → kdsEx ks G → ∃ vs, F vs ∧ G vs
  | [], _, _, h1, h2 => ⟨[], h1, h2⟩
  | _ :: _, _, _, h1, h2 => by
    obtain ⟨v, h1, h2⟩ := Kd.univ_spec h1 h2
    obtain ⟨vs, h1, h2⟩ := kdsUniv_spec h1 h2
    exact ⟨_, h1, h2⟩
theorem Vt.univ_spec : ∀ {t : Vt} {F G : Value → Prop}, t.univ F → t.ex G → ∃ v, F v ∧ G v
  | .one k, F, G, h1, h2 => Kd.univ_spec (k := k) h1 (by simpa [Vt.ex] using h2)
  | .agg ks, F, G, h1, h2 => by
    simp only [Vt.ex] at h2
    obtain ⟨vs, h1, h2⟩ := kdsUniv_spec h1 h2
    exact ⟨_, h1, h2⟩
  | .big n k, F, G, h1, h2 => by
    simp only [Vt.ex] at h2
    obtain ⟨ns, e, h2⟩ := h2
    exact ⟨_, h1 ns e, h2⟩
  | .blob n, F, G, h1, h2 => by
    simp only [Vt.ex] at h2
    obtain ⟨ns, e, h2⟩ := h2
    exact ⟨_, h1 ns e, h2⟩
  | .tup l, F, G, h1, h2 => by
    obtain ⟨v, h2⟩ := Vt.ex_spec h2
    exact ⟨v, h1 v, h2⟩
theorem Vt.univL_spec : ∀ {ts : List Vt} {F G : List Value → Prop}, Vt.univL ts F → Vt.exL ts G → ∃ vs, F vs ∧ G vs
  | [], F, G, h1, h2 => ⟨[], h1, by simpa [Vt.exL] using h2⟩
  | t :: ts, F, G, h1, h2 => by
    simp only [Vt.exL] at h2
    obtain ⟨v, h1, h2⟩ := Vt.univ_spec h1 h2
    obtain ⟨vs, h1, h2⟩ := Vt.univL_spec h1 h2
    exact ⟨_, h1, h2⟩
theorem exW_spec : ∀ {l : List Nat} {F : Nat → Prop}, exW l F → ∀ i ∈ l, F i
  | _ :: _, F, h, i, hi => by
    rcases List.mem_cons.1 hi with rfl | hi
    · exact h.1
    · exact exW_spec h.2 i hi
/-- A round's way out, as code. -/
def jumpOf : Nat → Code
  | 0 => .ret
  | i + 1 => .exit i
end
end Go.Gx
