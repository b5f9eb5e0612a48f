/- Soundness of the executor, tenth part: guards, regions, what is carried. -/
import Derived.Test.YtagglohkipioiaaGreatGxS9
namespace Go.Gx

theorem getD_some {tmps : Array Value} {d : Nat} {v : Value} (h : tmps.getD d undef = v) (hv : v ≠ undef) : tmps[d]? = some v := by
  rw [Array.getD_eq_getD_getElem?] at h
  cases e : tmps[d]? with
  | none => rw [e] at h; exact absurd h.symm hv
  | some x => rw [e] at h; simp at h; rw [h]
theorem put_size (a : Act) (dst : Option Tmp) (v : Value) : (a.put dst v).tmps.size = a.tmps.size := by
  cases dst <;> simp [Act.put]
theorem put_defers (a : Act) (dst : Option Tmp) (v : Value) : (a.put dst v).defers = a.defers := by
  cases dst <;> rfl
theorem put_other (a : Act) (dst : Option Tmp) (v : Value) {t : Nat} (h : dst ≠ some t) : (a.put dst v).tmps[t]? = a.tmps[t]? := by
  cases dst with
  | none => rfl
  | some d =>
    have : d ≠ t := fun e => h (by rw [e])
    simp [Act.put, Array.getElem?_setIfInBounds_ne this]
theorem EnvR.put {ρ : Nat → Nat} {st : St} {a : Act} (he : EnvR ρ st a.tmps) {N : Nat} (hN : a.tmps.size = N) {dst : Option Tmp} {s : SV} {v : Value} (hs : SVr ρ st.n s v) : EnvR ρ (st.put N dst s) (a.put dst v).tmps := by
  cases dst with
  | none => exact he
  | some d =>
    intro t
    simp only [St.put, St.set, Act.put]
    by_cases e : t = d
    · subst e
      rw [nbeq_self, cond_true]
      cases e2 : Nat.blt t N with
      | false => exact trivial
      | true =>
        have : t < a.tmps.size := by rw [hN]; exact Nat.le_of_ble_eq_true e2
        simp only [cond_true]
        rw [Array.getD_eq_getD_getElem?]
        simp [this]; exact hs
    · rw [nbeq_ne e, cond_false]
      have := he t
      rw [Array.getD_eq_getD_getElem?] at this ⊢
      rw [Array.getElem?_setIfInBounds_ne (Ne.symm e)]; exact this
theorem EnvR.ext {ρ ρ' : Nat → Nat} {st st' : St} {tmps : Array Value} (he : EnvR ρ st tmps) (hx : Ext ρ ρ' st st') (hs : st'.e = st.e) : EnvR ρ' st' tmps := by
  intro t
  rw [hs]
  exact (he t).mono hx.n hx.rho
theorem EnvR.setBool {ρ : Nat → Nat} {st : St} {tmps : Array Value} (he : EnvR ρ st tmps) {d : Nat} {s : SV} (h : SVr ρ st.n s (tmps.getD d undef)) : EnvR ρ (st.set d s) tmps := by
  intro t
  by_cases e : t = d
  · subst e; simp only [St.set, nbeq_self, cond_true]; exact h
  · simp only [St.set, nbeq_ne e, cond_false]; exact he t
theorem HeapR.set {w0 : World} {h0 : Hp} {ρ : Nat → Nat} {st : St} {h : Hp} {w : World} (H : HeapR w0 h0 ρ st h w) (d : Nat) (s : SV) : HeapR w0 h0 ρ (st.set d s) h w := ⟨H.holds, H.kept, H.loc, H.inj, H.top⟩
theorem HeapR.put {w0 : World} {h0 : Hp} {ρ : Nat → Nat} {st : St} {h : Hp} {w : World} (H : HeapR w0 h0 ρ st h w) (N : Nat) (d : Option Tmp) (s : SV) : HeapR w0 h0 ρ (st.put N d s) h w := by
  cases d with
  | none => exact H
  | some d => exact H.set d _
theorem Ext.set (ρ : Nat → Nat) (st : St) (d : Nat) (s : SV) : Ext ρ ρ st (st.set d s) := ⟨Nat.le_refl _, fun _ _ => rfl, fun _ _ => ⟨Nat.le_refl _, fun _ => rfl⟩, rfl⟩
theorem Ext.put (ρ : Nat → Nat) (st : St) (N : Nat) (d : Option Tmp) (s : SV) : Ext ρ ρ st (st.put N d s) := by
  cases d with
  | none => exact Ext.refl _ _
  | some d => exact Ext.set ρ st d _

section
variable {P : Program} {H : Hints} {w0 : World} {h0 : Hp}

/-- What an operation under its guard leaves. -/
structure Left (P : Program) (H : Hints) (w0 : World) (h0 : Hp) (ρ : Nat → Nat) (st : St) (a : Act) (C : Nat → Bool) (K : St → Hp → Prop) (a' : Act) (w' : World) : Prop where
  ex : ∃ st' h' ρ', K st' h' ∧ EnvR ρ' st' a'.tmps ∧ HeapR w0 h0 ρ' st' h' w' ∧ Ext ρ ρ' st st'
  size : a'.tmps.size = a.tmps.size
  defers : a'.defers = a.defers
  frame : ∀ t, C t = false → a'.tmps[t]? = a.tmps[t]?
def dstIs (o : Oper) (t : Nat) : Bool := match o.dst with
  | some d => Nat.beq d t
  | none => false
theorem dst_ne {o : Oper} {t : Nat} (h : dstIs o t = false) : o.dst ≠ some t := fun e => by
  unfold dstIs at h; rw [e] at h; simp only [nbeq_self] at h; cases h
theorem opW_left {o : Oper} {st : St} {h hl : Hp} {K : St → Hp → Prop} {a : Act} {w : World} {next : Act → World → Prop} {Q : Exit → Act → World → Prop} {ρ : Nat → Nat} {st0 : St}
    (hW : opW P H o st h hl fun s st' h' => K (st'.put H.N o.dst s) h') (he : EnvR ρ st a.tmps) (hN : a.tmps.size = H.N) (hh : HeapR w0 h0 ρ st h w) (hl' : Holds hl w) (hx : Ext ρ ρ st0 st)
    (hn : ∀ a' w', Left P H w0 h0 ρ st0 a (dstIs o) K a' w' → next a' w') : o.wp P a w next Q := by
  refine opW_sound hW he hh hl' fun sv v st' h' w' ρ' hk hs hh' hxt hse => hn _ _ ⟨⟨_, h', ρ', hk, ?_, hh'.put _ _ _, (hx.trans hxt).trans (Ext.put _ _ _ _ _)⟩, put_size _ _ _, put_defers _ _ _, fun _ ht => put_other _ _ _ (dst_ne ht)⟩
  exact (he.ext hxt hse).put hN hs
theorem skip_left {o : Oper} {st : St} {h : Hp} {K : St → Hp → Prop} {a : Act} {w : World} {ρ : Nat → Nat} {st0 : St} (hK : K (st.put H.N o.dst (.val undef)) h) (he : EnvR ρ st a.tmps) (hN : a.tmps.size = H.N) (hh : HeapR w0 h0 ρ st h w) (hx : Ext ρ ρ st0 st) :
    Left P H w0 h0 ρ st0 a (dstIs o) K (a.put o.dst undef) w :=
  ⟨⟨_, h, ρ, hK, he.put hN rfl, hh.put _ _ _, hx.trans (Ext.put _ _ _ _ _)⟩, put_size _ _ _, put_defers _ _ _, fun _ ht => put_other _ _ _ (dst_ne ht)⟩
theorem opG_sound {ops : Array Oper} {o : Oper} {st : St} {h hl : Hp} {K : St → Hp → Prop} {a : Act} {w : World} {next : Act → World → Prop} {Q : Exit → Act → World → Prop} {ρ : Nat → Nat} (R : Prop)
    (hW : opG P H ops o st h hl K) (he : EnvR ρ st a.tmps) (hN : a.tmps.size = H.N) (hh : HeapR w0 h0 ρ st h w) (hl' : Holds hl w)
    (hn : ∀ a' w', Left P H w0 h0 ρ st a (dstIs o) K a' w' → next a' w') :
    if Region.wanted o (yielded ops a.tmps) then o.wp P a w next Q ∨ R else next (a.put o.dst undef) w := by
  unfold opG at hW
  cases hg : o.guard with
  | none =>
    rw [hg] at hW
    simp only [Region.wanted, hg, if_true]
    exact .inl (opW_left hW he hN hh hl' (Ext.refl _ _) hn)
  | some jw =>
    obtain ⟨j, want⟩ := jw
    rw [hg] at hW
    simp only [] at hW
    cases hd : (ops[j]?).bind (·.dst) with
    | none => rw [hd] at hW; exact hW.elim
    | some d =>
      rw [hd] at hW
      simp only [] at hW
      have hed := he d
      simp only [Region.wanted, hg]
      split at hW
      · rename_i b eb
        rw [eb] at hed
        have hed' : a.tmps.getD d undef = .bool b := hed
        have hy : yielded ops a.tmps j = some b := by
          unfold yielded
          simp only [hd, Option.bind_some, getD_some hed' (by intro h; cases h)]
        have he' : EnvR ρ (st.set d (.val (.bool b))) a.tmps := he.setBool hed'
        cases b <;> cases want <;> simp only [cond_true, cond_false] at hW
        · rw [hy, if_pos (by decide)]; exact .inl (opW_left hW he' hN (hh.set _ _) hl' (Ext.set _ _ _ _) hn)
        · rw [hy, if_neg (by decide)]; exact hn _ _ (skip_left hW he' hN (hh.set _ _) (Ext.set _ _ _ _))
        · rw [hy, if_neg (by decide)]; exact hn _ _ (skip_left hW he' hN (hh.set _ _) (Ext.set _ _ _ _))
        · rw [hy, if_pos (by decide)]; exact .inl (opW_left hW he' hN (hh.set _ _) hl' (Ext.set _ _ _ _) hn)
      · rename_i vs eb
        rw [eb] at hed
        have hed' : a.tmps.getD d undef = .tuple vs := hed
        have hy : yielded ops a.tmps j = none := by
          unfold yielded
          simp only [hd, Option.bind_some]
          rw [Array.getD_eq_getD_getElem?] at hed'
          cases e : a.tmps[d]? with
          | none => rfl
          | some x => rw [e] at hed'; simp at hed'; rw [hed']
        rw [hy, if_neg (by cases want <;> decide)]
        exact hn _ _ (skip_left hW he hN hh (Ext.refl _ _))
      · exact hW.elim
def opsAsg (l : List Oper) (t : Nat) : Bool := l.any fun o => match o.dst with | some d => Nat.beq d t | none => false
end

/-! ### what is carried -/
theorem Kd.carry {R : Type} {k : Kd} {f : k.Fn R} {G : Value → R → Prop} {v : Value} {F : R → Prop} (h1 : k.all f G) (h2 : k.cap f v F) : ∃ r, G v r ∧ F r := by
  cases k with
  | int k =>
    simp only [Kd.all, Kd.cap] at h1 h2
    cases v <;> first | exact h2.elim | skip
    rename_i k' n
    simp only [] at h2
    cases e : ikEq k k' with
    | false => rw [e] at h2; exact h2.elim
    | true =>
      rw [e] at h2
      have := ikEq_spec e
      subst this
      exact ⟨_, h1 n, h2⟩
  | any => exact ⟨_, h1 v, h2⟩
  | slice =>
    simp only [Kd.all, Kd.cap] at h1 h2
    cases v <;> first | exact h2.elim | exact ⟨_, h1 _ _ _, h2⟩
  | _ =>
    simp only [Kd.all, Kd.cap] at h1 h2
    cases v <;> first | exact h2.elim | exact ⟨_, h1 _, h2⟩
theorem kcarry {R : Type} : ∀ {ks : List Kd} {f : KFn R ks} {G : List Value → R → Prop} {vs : List Value} {F : R → Prop}, kAll ks f G → kCap ks f vs F → ∃ r, G vs r ∧ F r
  | [], f, G, vs, F, h1, h2 => by
    cases vs with
    | nil => exact ⟨_, h1, h2⟩
    | cons v vs => exact h2.elim
  | k :: ks, f, G, vs, F, h1, h2 => by
    cases vs with
    | nil => exact h2.elim
    | cons v vs =>
      obtain ⟨r, g1, g2⟩ := Kd.carry h1 h2
      exact kcarry (G := fun vs s => G (v :: vs) s) g1 g2
/-- What a carried state is. -/
structure Carried (ks : List Cv) (sb st' st1 : St) : Prop where
  n : st1.n = sb.n
  e : ∀ t, st1.e t = sb.e t ∨ ∃ v, st1.e t = .val v ∧ (st'.e t).toV = some v
  yes : ∀ l, carries ks l = true → ∃ cs T, st'.L l = some (cs, T) ∧ st1.L l = some (cs, sb.cellT l)
  no : ∀ l, carries ks l = false → st1.L l = sb.L l
  ver : ∀ l, sb.ver l ≤ st1.ver l
  verY : ∀ l, carries ks l = true → sb.ver l < st1.ver l
  marks : st1.marks = sb.marks
theorem cellT_set (st : St) (t : Nat) (s : SV) (l : Nat) : (st.set t s).cellT l = st.cellT l := rfl
theorem cellT_setL (st : St) (m : Nat) (cs : List Value) (l : Nat) : (st.setL m cs (st.cellT m)).cellT l = st.cellT l := by
  unfold St.cellT
  by_cases e : l = m
  · subst e; simp [St.setL]
  · simp [St.setL, nbeq_ne e]
theorem Carried.setL {ks : List Cv} {sb st' st1 : St} {c : Cv} {l : Nat} {cs : List Value} {T : TypeId} (hc : ∀ m, c.isBlk m = Nat.beq l m) (hl : st'.L l = some (cs, T)) (h : Carried ks (sb.setL l cs (sb.cellT l)) st' st1) : Carried (c :: ks) sb st' st1 := by
  have hcs : ∀ m, carries (c :: ks) m = (Nat.beq l m || carries ks m) := fun m => by simp [carries, hc]
  refine ⟨h.n, h.e, fun m hm => ?_, fun m hm => ?_, fun m => ?_, fun m hm => ?_, h.marks⟩
  · cases e : carries ks m with
    | true =>
      obtain ⟨cs', T', h1, h2⟩ := h.yes m e
      exact ⟨cs', T', h1, by rw [h2, cellT_setL]⟩
    | false =>
      rw [hcs, e, Bool.or_false] at hm
      have := Nat.eq_of_beq_eq_true hm
      subst this
      exact ⟨cs, T, hl, by rw [h.no l e]; simp only [St.setL, nbeq_self, cond_true]⟩
  · rw [hcs] at hm
    obtain ⟨m1, m2⟩ := Bool.or_eq_false_iff.1 hm
    have : m ≠ l := fun e => by subst e; rw [nbeq_self] at m1; cases m1
    rw [h.no m m2]; simp only [St.setL, nbeq_ne this, cond_false]
  · have := h.ver m
    by_cases e : m = l
    · subst e; simp only [St.setL, nbeq_self, cond_true] at this; omega
    · simp only [St.setL, nbeq_ne e, cond_false] at this; exact this
  · by_cases e : m = l
    · subst e
      have := h.ver m
      simp only [St.setL, nbeq_self, cond_true] at this; omega
    · have hm' : carries ks m = true := by rw [hcs, nbeq_ne (Ne.symm e)] at hm; simpa using hm
      have := h.verY m hm'
      simp only [St.setL, nbeq_ne e, cond_false] at this; exact this
theorem carry {R : Type} : ∀ (ks : List Cv) {sb st' : St} {f : Fn R ks} {G : St → R → Prop} {F : R → Prop}, allC ks sb f G → capC ks st' f F → ∃ st1 r, G st1 r ∧ F r ∧ Carried ks sb st' st1
  | [], sb, st', f, G, F, h1, h2 => ⟨sb, f, h1, h2, rfl, fun _ => .inl rfl, fun l h => by simp [carries] at h, fun _ _ => rfl, fun _ => Nat.le_refl _, fun l h => by simp [carries] at h, rfl⟩
  | .slot t k :: ks, sb, st', f, G, F, h1, h2 => by
    simp only [capC] at h2
    cases e : (st'.e t).toV with
    | none => rw [e] at h2; exact h2.elim
    | some v =>
      rw [e] at h2
      obtain ⟨r, g1, g2⟩ := Kd.carry h1 h2
      obtain ⟨st1, r1, k1, k2, c⟩ := carry ks g1 g2
      have hcs : ∀ m, carries (Cv.slot t k :: ks) m = carries ks m := fun m => by simp [carries, Cv.isBlk]
      refine ⟨st1, r1, k1, k2, c.n, fun u => ?_, fun l h => c.yes l (by rw [← hcs]; exact h), fun l h => c.no l (by rw [← hcs]; exact h), c.ver, fun l h => c.verY l (by rw [← hcs]; exact h), c.marks⟩
      rcases c.e u with h | h
      · by_cases eu : u = t
        · subst eu
          refine .inr ⟨v, ?_, e⟩
          rw [h]; simp only [St.set, nbeq_self, cond_true]
        · refine .inl ?_
          rw [h]; simp only [St.set, nbeq_ne eu, cond_false]
      · exact .inr h
  | .blk l kk :: ks, sb, st', f, G, F, h1, h2 => by
    simp only [capC] at h2
    cases e : st'.L l with
    | none => rw [e] at h2; exact h2.elim
    | some x =>
      obtain ⟨cs, T⟩ := x
      rw [e] at h2
      obtain ⟨r, g1, g2⟩ := kcarry h1 h2
      obtain ⟨st1, r1, k1, k2, c⟩ := carry ks g1 g2
      exact ⟨st1, r1, k1, k2, c.setL (fun m => rfl) e⟩
  | .arr l :: ks, sb, st', f, G, F, h1, h2 => by
    simp only [capC] at h2
    cases e : st'.L l with
    | none => rw [e] at h2; exact h2.elim
    | some x =>
      obtain ⟨cs, T⟩ := x
      rw [e] at h2
      obtain ⟨st1, r1, k1, k2, c⟩ := carry ks (h1 cs) h2
      exact ⟨st1, r1, k1, k2, c.setL (fun m => rfl) e⟩
theorem verOk_spec {ks : List Cv} {st st' : St} : ∀ {n : Nat}, verOk ks st st' n = true → ∀ l, l < n → (carries ks l = true → st'.cellT l = st.cellT l) ∧ (carries ks l = false → st'.ver l = st.ver l)
  | 0, _, l, hl => by omega
  | n + 1, h, l, hl => by
    unfold verOk at h
    obtain ⟨h1, h2⟩ := Bool.and_eq_true_iff.1 h
    by_cases e : l = n
    · subst e
      cases ec : carries ks l with
      | true => rw [ec] at h1; exact ⟨fun _ => Nat.eq_of_beq_eq_true h1, (fun h => by cases h)⟩
      | false => rw [ec] at h1; exact ⟨(fun h => by cases h), fun _ => Nat.eq_of_beq_eq_true h1⟩
    · exact verOk_spec h2 l (by omega)
theorem verOk_marks {ks : List Cv} {st st' : St} : ∀ {n : Nat}, verOk ks st st' n = true → st'.marks.length = st.marks.length
  | 0, h => Nat.eq_of_beq_eq_true h
  | n + 1, h => by
    unfold verOk at h
    exact verOk_marks (Bool.and_eq_true_iff.1 h).2
theorem lblOk_spec {ks : List Cv} {n l : Nat} (h : lblOk ks n = true) (hc : carries ks l = true) : l < n := by
  unfold lblOk at h; unfold carries at hc
  obtain ⟨c, hm, hb⟩ := List.any_eq_true.1 hc
  have := List.all_eq_true.1 h c hm
  cases c with
  | slot t k => cases hb
  | blk m kk =>
    have e : m = l := Nat.eq_of_beq_eq_true hb
    subst e
    exact Nat.le_of_ble_eq_true this
  | arr m =>
    have e : m = l := Nat.eq_of_beq_eq_true hb
    subst e
    exact Nat.le_of_ble_eq_true this
end Go.Gx
