/- Soundness of the executor, tenth part: guards, regions, what is carried. The quick check of a region's order is the plain one's. Soundness of the executor: regions whose operations may come up in more than one order. Soundness of the executor, last part: code, loops, functions. Soundness of the executor: a range over a function. Soundness of the executor, last part: code, loops, functions. The formulas of functions of the program, as the executor computes them, and that a call does what its formula says. Printed by a tool of ours (wip/tool). Heaps as partial maps: blocks that are known whole, slices that are owned, what an append leaves; tests. Conditions: those that each lemma names. Rows of elements of several cells in memory. Conditions: those that each lemma names. Plain laws of maps as lists of entries. Conditions: those that each lemma names. A disk in memory, and what its functions do to it. Conditions: it stands as it is named; the power is on where it says so. A journal on a disk: what its reading and laying do. Conditions: it stands as it is named, with room. A journal on a disk: what its writing does. Conditions: it stands as it is named, with room. -/
import Derived.Test.YthbogjbcecmopaaGreatDoorPw01
import Derived.Orders
import Derived.Test.YthbogjbcecmopaaGreatDoorProg
import Derived.KernelRfl
namespace Go.Gx

theorem getD_some {tmps : Array Value} {d : Nat} {v : Value} (h : tmps.getD d undef = v) (hv : v ≠ undef) : tmps[d]? = some v := by
  rw [Array.getD_eq_getD_getElem?] at h
  cases e : tmps[d]? with
  | none => rw [e] at h; exact absurd h.symm hv
  | some x => rw [e] at h; simp at h; rw [h]
theorem put_size (a : Act) (dst : Option Tmp) (v : Value) : (a.put dst v).tmps.size = a.tmps.size := by
  cases dst <;> simp [Act.put]
theorem put_defers (a : Act) (dst : Option Tmp) (v : Value) : (a.put dst v).defers = a.defers := by
  cases dst <;> rfl
theorem put_other (a : Act) (dst : Option Tmp) (v : Value) {t : Nat} (h : dst ≠ some t) : (a.put dst v).tmps[t]? = a.tmps[t]? := by
  cases dst with
  | none => rfl
  | some d =>
    have : d ≠ t := fun e => h (by rw [e])
    simp [Act.put, Array.getElem?_setIfInBounds_ne this]
theorem EnvR.put {ρ : Nat → Nat} {st : St} {a : Act} (he : EnvR ρ st a.tmps) {N : Nat} (hN : a.tmps.size = N) {dst : Option Tmp} {s : SV} {v : Value} (hs : SVr ρ st.n s v) : EnvR ρ (st.put N dst s) (a.put dst v).tmps := by
  cases dst with
  | none => exact he
  | some d =>
    intro t
    simp only [St.put, St.set, Act.put]
    by_cases e : t = d
    · subst e
      rw [nbeq_self, cond_true]
      cases e2 : Nat.blt t N with
      | false => exact trivial
      | true =>
        have : t < a.tmps.size := by rw [hN]; exact Nat.le_of_ble_eq_true e2
        simp only [cond_true]
        rw [Array.getD_eq_getD_getElem?]
        simp [this]; exact hs
    · rw [nbeq_ne e, cond_false]
      have := he t
      rw [Array.getD_eq_getD_getElem?] at this ⊢
      rw [Array.getElem?_setIfInBounds_ne (Ne.symm e)]; exact this
theorem EnvR.ext {ρ ρ' : Nat → Nat} {st st' : St} {tmps : Array Value} (he : EnvR ρ st tmps) (hx : Ext ρ ρ' st st') (hs : st'.e = st.e) : EnvR ρ' st' tmps := by
  intro t
  rw [hs]
  exact (he t).mono hx.n hx.rho
theorem EnvR.setBool {ρ : Nat → Nat} {st : St} {tmps : Array Value} (he : EnvR ρ st tmps) {d : Nat} {s : SV} (h : SVr ρ st.n s (tmps.getD d undef)) : EnvR ρ (st.set d s) tmps := by
  intro t
  by_cases e : t = d
  · subst e; simp only [St.set, nbeq_self, cond_true]; exact h
  · simp only [St.set, nbeq_ne e, cond_false]; exact he t
theorem HeapR.set {w0 : World} {h0 : Hp} {ρ : Nat → Nat} {st : St} {h : Hp} {w : World} (H : HeapR w0 h0 ρ st h w) (d : Nat) (s : SV) : HeapR w0 h0 ρ (st.set d s) h w := ⟨H.holds, H.kept, H.loc, H.inj, H.top⟩
theorem HeapR.put {w0 : World} {h0 : Hp} {ρ : Nat → Nat} {st : St} {h : Hp} {w : World} (H : HeapR w0 h0 ρ st h w) (N : Nat) (d : Option Tmp) (s : SV) : HeapR w0 h0 ρ (st.put N d s) h w := by
  cases d with
  | none => exact H
  | some d => exact H.set d _
theorem Ext.set (ρ : Nat → Nat) (st : St) (d : Nat) (s : SV) : Ext ρ ρ st (st.set d s) := ⟨Nat.le_refl _, fun _ _ => rfl, fun _ _ => ⟨Nat.le_refl _, fun _ => rfl⟩, rfl⟩
theorem Ext.put (ρ : Nat → Nat) (st : St) (N : Nat) (d : Option Tmp) (s : SV) : Ext ρ ρ st (st.put N d s) := by
  cases d with
  | none => exact Ext.refl _ _
  | some d => exact Ext.set ρ st d _

section
variable {P : Program} {H : Hints} {w0 : World} {h0 : Hp}

structure Left (P : Program) (H : Hints) (w0 : World) (h0 : Hp) (ρ : Nat → Nat) (st : St) (a : Act) (C : Nat → Bool) (K : St → Hp → Prop) (a' : Act) (w' : World) : Prop where
  ex : ∃ st' h' ρ', K st' h' ∧ EnvR ρ' st' a'.tmps ∧ HeapR w0 h0 ρ' st' h' w' ∧ Ext ρ ρ' st st'
  size : a'.tmps.size = a.tmps.size
  defers : a'.defers = a.defers
  frame : ∀ t, C t = false → a'.tmps[t]? = a.tmps[t]?
def dstIs (o : Oper) (t : Nat) : Bool := match o.dst with
  | some d => Nat.beq d t
  | none => false
theorem dst_ne {o : Oper} {t : Nat} (h : dstIs o t = false) : o.dst ≠ some t := fun e => by
  unfold dstIs at h; rw [e] at h; simp only [nbeq_self] at h; cases h
theorem opW_left {o : Oper} {st : St} {h hl : Hp} {K : St → Hp → Prop} {a : Act} {w : World} {next : Act → World → Prop} {Q : Exit → Act → World → Prop} {ρ : Nat → Nat} {st0 : St}
    (hW : opW P H o st h hl fun s st' h' => K (st'.put H.N o.dst s) h') (he : EnvR ρ st a.tmps) (hN : a.tmps.size = H.N) (hh : HeapR w0 h0 ρ st h w) (hl' : Holds hl w) (hx : Ext ρ ρ st0 st)
    (hn : ∀ a' w', Left P H w0 h0 ρ st0 a (dstIs o) K a' w' → next a' w') : o.wp P a w next Q := by
  refine opW_sound hW he hh hl' fun sv v st' h' w' ρ' hk hs hh' hxt hse => hn _ _ ⟨⟨_, h', ρ', hk, ?_, hh'.put _ _ _, (hx.trans hxt).trans (Ext.put _ _ _ _ _)⟩, put_size _ _ _, put_defers _ _ _, fun _ ht => put_other _ _ _ (dst_ne ht)⟩
  exact (he.ext hxt hse).put hN hs
theorem skip_left {o : Oper} {st : St} {h : Hp} {K : St → Hp → Prop} {a : Act} {w : World} {ρ : Nat → Nat} {st0 : St} (hK : K (st.put H.N o.dst (.val undef)) h) (he : EnvR ρ st a.tmps) (hN : a.tmps.size = H.N) (hh : HeapR w0 h0 ρ st h w) (hx : Ext ρ ρ st0 st) :
    Left P H w0 h0 ρ st0 a (dstIs o) K (a.put o.dst undef) w :=
  ⟨⟨_, h, ρ, hK, he.put hN rfl, hh.put _ _ _, hx.trans (Ext.put _ _ _ _ _)⟩, put_size _ _ _, put_defers _ _ _, fun _ ht => put_other _ _ _ (dst_ne ht)⟩
theorem opG_sound {ops : Array Oper} {o : Oper} {st : St} {h hl : Hp} {K : St → Hp → Prop} {a : Act} {w : World} {next : Act → World → Prop} {Q : Exit → Act → World → Prop} {ρ : Nat → Nat} (R : Prop)
    (hW : opG P H ops o st h hl K) (he : EnvR ρ st a.tmps) (hN : a.tmps.size = H.N) (hh : HeapR w0 h0 ρ st h w) (hl' : Holds hl w)
    (hn : ∀ a' w', Left P H w0 h0 ρ st a (dstIs o) K a' w' → next a' w') :
    if Region.wanted o (yielded ops a.tmps) then o.wp P a w next Q ∨ R else next (a.put o.dst undef) w := by
  unfold opG at hW
  cases hg : o.guard with
  | none =>
    rw [hg] at hW
    simp only [Region.wanted, hg, if_true]
    exact .inl (opW_left hW he hN hh hl' (Ext.refl _ _) hn)
  | some jw =>
    obtain ⟨j, want⟩ := jw
    rw [hg] at hW
    simp only [] at hW
    cases hd : (ops[j]?).bind (·.dst) with
    | none => rw [hd] at hW; exact hW.elim
    | some d =>
      rw [hd] at hW
      simp only [] at hW
      have hed := he d
      simp only [Region.wanted, hg]
      split at hW
      · rename_i b eb
        rw [eb] at hed
        have hed' : a.tmps.getD d undef = .bool b := hed
        have hy : yielded ops a.tmps j = some b := by
          unfold yielded
          simp only [hd, Option.bind_some, getD_some hed' (by intro h; cases h)]
        have he' : EnvR ρ (st.set d (.val (.bool b))) a.tmps := he.setBool hed'
        cases b <;> cases want <;> simp only [cond_true, cond_false] at hW
        · rw [hy, if_pos (by decide)]; exact .inl (opW_left hW he' hN (hh.set _ _) hl' (Ext.set _ _ _ _) hn)
        · rw [hy, if_neg (by decide)]; exact hn _ _ (skip_left hW he' hN (hh.set _ _) (Ext.set _ _ _ _))
        · rw [hy, if_neg (by decide)]; exact hn _ _ (skip_left hW he' hN (hh.set _ _) (Ext.set _ _ _ _))
        · rw [hy, if_pos (by decide)]; exact .inl (opW_left hW he' hN (hh.set _ _) hl' (Ext.set _ _ _ _) hn)
      · rename_i vs eb
        rw [eb] at hed
        have hed' : a.tmps.getD d undef = .tuple vs := hed
        have hy : yielded ops a.tmps j = none := by
          unfold yielded
          simp only [hd, Option.bind_some]
          rw [Array.getD_eq_getD_getElem?] at hed'
          cases e : a.tmps[d]? with
          | none => rfl
          | some x => rw [e] at hed'; simp at hed'; rw [hed']
        rw [hy, if_neg (by cases want <;> decide)]
        exact hn _ _ (skip_left hW he hN hh (Ext.refl _ _))
      · exact hW.elim
def opsAsg (l : List Oper) (t : Nat) : Bool := l.any fun o => match o.dst with | some d => Nat.beq d t | none => false
end

theorem Kd.carry {R : Type} {k : Kd} {f : k.Fn R} {G : Value → R → Prop} {v : Value} {F : R → Prop} (h1 : k.all f G) (h2 : k.cap f v F) : ∃ r, G v r ∧ F r := by
  cases k with
  | int k =>
    simp only [Kd.all, Kd.cap] at h1 h2
    cases v <;> first | exact h2.elim | skip
    rename_i k' n
    simp only [] at h2
    cases e : ikEq k k' with
    | false => rw [e] at h2; exact h2.elim
    | true =>
      rw [e] at h2
      have := ikEq_spec e
      subst this
      exact ⟨_, h1 n, h2⟩
  | any => exact ⟨_, h1 v, h2⟩
  | slice =>
    simp only [Kd.all, Kd.cap] at h1 h2
    cases v <;> first | exact h2.elim | exact ⟨_, h1 _ _ _, h2⟩
  | _ =>
    simp only [Kd.all, Kd.cap] at h1 h2
    cases v <;> first | exact h2.elim | exact ⟨_, h1 _, h2⟩
theorem kcarry {R : Type} : ∀ {ks : List Kd} {f : KFn R ks} {G : List Value → R → Prop} {vs : List Value} {F : R → Prop}, kAll ks f G → kCap ks f vs F → ∃ r, G vs r ∧ F r
  | [], f, G, vs, F, h1, h2 => by
    cases vs with
    | nil => exact ⟨_, h1, h2⟩
    | cons v vs => exact h2.elim
  | k :: ks, f, G, vs, F, h1, h2 => by
    cases vs with
    | nil => exact h2.elim
    | cons v vs =>
      obtain ⟨r, g1, g2⟩ := Kd.carry h1 h2
      exact kcarry (G := fun vs s => G (v :: vs) s) g1 g2
structure Carried (ks : List Cv) (sb st' st1 : St) : Prop where
  n : st1.n = sb.n
  e : ∀ t, st1.e t = sb.e t ∨ ∃ v, st1.e t = .val v ∧ (st'.e t).toV = some v
  yes : ∀ l, carries ks l = true → ∃ cs T, st'.L l = some (cs, T) ∧ st1.L l = some (cs, sb.cellT l)
  no : ∀ l, carries ks l = false → st1.L l = sb.L l
  ver : ∀ l, sb.ver l ≤ st1.ver l
  verY : ∀ l, carries ks l = true → sb.ver l < st1.ver l
  marks : st1.marks = sb.marks
theorem cellT_setL (st : St) (m : Nat) (cs : List Value) (l : Nat) : (st.setL m cs (st.cellT m)).cellT l = st.cellT l := by
  unfold St.cellT
  by_cases e : l = m
  · subst e; simp [St.setL]
  · simp [St.setL, nbeq_ne e]
theorem Carried.setL {ks : List Cv} {sb st' st1 : St} {c : Cv} {l : Nat} {cs : List Value} {T : TypeId} (hc : ∀ m, c.isBlk m = Nat.beq l m) (hl : st'.L l = some (cs, T)) (h : Carried ks (sb.setL l cs (sb.cellT l)) st' st1) : Carried (c :: ks) sb st' st1 := by
  have hcs : ∀ m, carries (c :: ks) m = (Nat.beq l m || carries ks m) := fun m => by simp [carries, hc]
  refine ⟨h.n, h.e, fun m hm => ?_, fun m hm => ?_, fun m => ?_, fun m hm => ?_, h.marks⟩
  · cases e : carries ks m with
    | true =>
      obtain ⟨cs', T', h1, h2⟩ := h.yes m e
      exact ⟨cs', T', h1, by rw [h2, cellT_setL]⟩
    | false =>
      rw [hcs, e, Bool.or_false] at hm
      have := Nat.eq_of_beq_eq_true hm
      subst this
      exact ⟨cs, T, hl, by rw [h.no l e]; simp only [St.setL, nbeq_self, cond_true]⟩
  · rw [hcs] at hm
    obtain ⟨m1, m2⟩ := Bool.or_eq_false_iff.1 hm
    have : m ≠ l := fun e => by subst e; rw [nbeq_self] at m1; cases m1
    rw [h.no m m2]; simp only [St.setL, nbeq_ne this, cond_false]
  · have := h.ver m
    by_cases e : m = l
    · subst e; simp only [St.setL, nbeq_self, cond_true] at this; omega
    · simp only [St.setL, nbeq_ne e, cond_false] at this; exact this
  · by_cases e : m = l
    · subst e
      have := h.ver m
      simp only [St.setL, nbeq_self, cond_true] at this; omega
    · have hm' : carries ks m = true := by rw [hcs, nbeq_ne (Ne.symm e)] at hm; simpa using hm
      have := h.verY m hm'
      simp only [St.setL, nbeq_ne e, cond_false] at this; exact this
theorem carry {R : Type} : ∀ (ks : List Cv) {sb st' : St} {f : Fn R ks} {G : St → R → Prop} {F : R → Prop}, allC ks sb f G → capC ks st' f F → ∃ st1 r, G st1 r ∧ F r ∧ Carried ks sb st' st1
  | [], sb, st', f, G, F, h1, h2 => ⟨sb, f, h1, h2, rfl, fun _ => .inl rfl, fun l h => by simp [carries] at h, fun _ _ => rfl, fun _ => Nat.le_refl _, fun l h => by simp [carries] at h, rfl⟩
  | .slot t k :: ks, sb, st', f, G, F, h1, h2 => by
    simp only [capC] at h2
    cases e : (st'.e t).toV with
    | none => rw [e] at h2; exact h2.elim
    | some v =>
      rw [e] at h2
      obtain ⟨r, g1, g2⟩ := Kd.carry h1 h2
      obtain ⟨st1, r1, k1, k2, c⟩ := carry ks g1 g2
      have hcs : ∀ m, carries (Cv.slot t k :: ks) m = carries ks m := fun m => by simp [carries, Cv.isBlk]
      refine ⟨st1, r1, k1, k2, c.n, fun u => ?_, fun l h => c.yes l (by rw [← hcs]; exact h), fun l h => c.no l (by rw [← hcs]; exact h), c.ver, fun l h => c.verY l (by rw [← hcs]; exact h), c.marks⟩
      rcases c.e u with h | h
      · by_cases eu : u = t
        · subst eu
          refine .inr ⟨v, ?_, e⟩
          rw [h]; simp only [St.set, nbeq_self, cond_true]
        · refine .inl ?_
          rw [h]; simp only [St.set, nbeq_ne eu, cond_false]
      · exact .inr h
  | .blk l kk :: ks, sb, st', f, G, F, h1, h2 => by
    simp only [capC] at h2
    cases e : st'.L l with
    | none => rw [e] at h2; exact h2.elim
    | some x =>
      obtain ⟨cs, T⟩ := x
      rw [e] at h2
      obtain ⟨r, g1, g2⟩ := kcarry h1 h2
      obtain ⟨st1, r1, k1, k2, c⟩ := carry ks g1 g2
      exact ⟨st1, r1, k1, k2, c.setL (fun m => rfl) e⟩
  | .arr l :: ks, sb, st', f, G, F, h1, h2 => by
    simp only [capC] at h2
    cases e : st'.L l with
    | none => rw [e] at h2; exact h2.elim
    | some x =>
      obtain ⟨cs, T⟩ := x
      rw [e] at h2
      obtain ⟨st1, r1, k1, k2, c⟩ := carry ks (h1 cs) h2
      exact ⟨st1, r1, k1, k2, c.setL (fun m => rfl) e⟩
theorem verOk_spec {ks : List Cv} {st st' : St} : ∀ {n : Nat}, verOk ks st st' n = true → ∀ l, l < n → (carries ks l = true → st'.cellT l = st.cellT l) ∧ (carries ks l = false → st'.ver l = st.ver l)
  | 0, _, l, hl => by omega
  | n + 1, h, l, hl => by
    unfold verOk at h
    obtain ⟨h1, h2⟩ := Bool.and_eq_true_iff.1 h
    by_cases e : l = n
    · subst e
      cases ec : carries ks l with
      | true => rw [ec] at h1; exact ⟨fun _ => Nat.eq_of_beq_eq_true h1, (fun h => by cases h)⟩
      | false => rw [ec] at h1; exact ⟨(fun h => by cases h), fun _ => Nat.eq_of_beq_eq_true h1⟩
    · exact verOk_spec h2 l (by omega)
theorem verOk_marks {ks : List Cv} {st st' : St} : ∀ {n : Nat}, verOk ks st st' n = true → st'.marks.length = st.marks.length
  | 0, h => Nat.eq_of_beq_eq_true h
  | n + 1, h => by
    unfold verOk at h
    exact verOk_marks (Bool.and_eq_true_iff.1 h).2
theorem lblOk_spec {ks : List Cv} {n l : Nat} (h : lblOk ks n = true) (hc : carries ks l = true) : l < n := by
  unfold lblOk at h; unfold carries at hc
  obtain ⟨c, hm, hb⟩ := List.any_eq_true.1 hc
  have := List.all_eq_true.1 h c hm
  cases c with
  | slot t k => cases hb
  | blk m kk =>
    have e : m = l := Nat.eq_of_beq_eq_true hb
    subst e
    exact Nat.le_of_ble_eq_true this
  | arr m =>
    have e : m = l := Nat.eq_of_beq_eq_true hb
    subst e
    exact Nat.le_of_ble_eq_true this
end Go.Gx
namespace Go.Gx
theorem bitM_eq (l j : Nat) : bitM l j = l.testBit j := by
  unfold bitM Nat.testBit
  show Nat.beq ((l >>> j) &&& 1) 1 = _
  rw [Nat.and_comm]
  have h : 1 &&& (l >>> j) = 0 ∨ 1 &&& (l >>> j) = 1 := by
    have : 1 &&& (l >>> j) ≤ 1 := Nat.and_le_left
    omega
  rcases h with h | h <;> rw [h] <;> rfl
theorem subM_bits {a b : Nat} (h : subM a b = true) (i : Nat) (hi : a.testBit i = true) : b.testBit i = true := by
  have h : a &&& b = a := Nat.eq_of_beq_eq_true h
  rw [← h, Nat.testBit_and] at hi
  exact (Bool.and_eq_true_iff.1 hi).2
theorem subM_of {a b : Nat} (h : ∀ i, a.testBit i = true → b.testBit i = true) : subM a b = true := by
  have : a &&& b = a := Nat.eq_of_testBit_eq fun i => by
    rw [Nat.testBit_and]
    cases ha : a.testBit i with
    | false => rfl
    | true => rw [h i ha]; rfl
  unfold subM
  show Nat.beq (a &&& b) a = true
  rw [this]
  exact Nat.beq_refl a
theorem bit_lor (a i k : Nat) : (Nat.lor a (Nat.shiftLeft 1 i)).testBit k = (a.testBit k || decide (k = i)) := by
  show (a ||| (1 <<< i)).testBit k = _
  rw [Nat.testBit_or, Nat.one_shiftLeft, Nat.testBit_two_pow]
  congr 1
  exact decide_eq_decide.2 ⟨fun h => h.symm, fun h => h.symm⟩
theorem bit_rol (a i k : Nat) : (Nat.lor (Nat.shiftLeft 1 i) a).testBit k = (decide (k = i) || a.testBit k) := by
  show ((1 <<< i) ||| a).testBit k = _
  rw [Nat.testBit_or, Nat.one_shiftLeft, Nat.testBit_two_pow]
  congr 1
  exact decide_eq_decide.2 ⟨fun h => h.symm, fun h => h.symm⟩
theorem maskOf_bit (f : Nat → Bool) (i : Nat) : ∀ n, (maskOf f n).testBit i = (decide (i < n) && f i)
  | 0 => by simp [maskOf]
  | n + 1 => by
    have ih := maskOf_bit f i n
    unfold maskOf
    cases hf : f n with
    | true =>
      rw [cond_true, bit_rol, ih]
      by_cases h : i = n
      · subst h; simp [hf]
      · simp only [h, decide_false, Bool.false_or]
        congr 1
        exact decide_eq_decide.2 ⟨fun h' => by omega, fun h' => by omega⟩
    | false =>
      rw [cond_false, ih]
      by_cases h : i = n
      · subst h; simp [hf]
      · congr 1
        exact decide_eq_decide.2 ⟨fun h' => by omega, fun h' => by omega⟩
theorem depL_bit (k : Nat) : ∀ es : List Edge, (depL es).testBit k = true ↔ ∃ e ∈ es, Region.binds .any e = true ∧ e.on = k
  | [] => by simp [depL]
  | e :: es => by
    have ih := depL_bit k es
    unfold depL
    cases hb : Region.binds .any e with
    | true =>
      rw [cond_true, bit_rol, Bool.or_eq_true, decide_eq_true_eq, ih]
      constructor
      · rintro (rfl | ⟨e', h1, h2⟩)
        · exact ⟨e, List.mem_cons_self, hb, rfl⟩
        · exact ⟨e', List.mem_cons_of_mem _ h1, h2⟩
      · rintro ⟨e', h1, h2, h3⟩
        rcases List.mem_cons.1 h1 with rfl | h1
        · exact .inl h3.symm
        · exact .inr ⟨e', h1, h2, h3⟩
    | false =>
      rw [cond_false, ih]
      constructor
      · rintro ⟨e', h1, h2⟩
        exact ⟨e', List.mem_cons_of_mem _ h1, h2⟩
      · rintro ⟨e', h1, h2, h3⟩
        rcases List.mem_cons.1 h1 with rfl | h1
        · rw [hb] at h2; cases h2
        · exact ⟨e', h1, h2, h3⟩
def Bits (n : Nat) (L : Array Bool) (l : Nat) : Prop := L.size = n ∧ ∀ i, L.getD i false = l.testBit i
theorem Bits.start (n : Nat) : Bits n (Array.replicate n false) 0 := ⟨Array.size_replicate, fun i => by
  rw [Array.getD_eq_getD_getElem?, Array.getElem?_replicate, Nat.zero_testBit]
  split <;> rfl⟩
variable {ops : Array Oper} {L : Array Bool} {l : Nat}
theorem Bits.get (B : Bits ops.size L l) {i : Nat} (hi : i < ops.size) : L.getD i true = l.testBit i := by
  rw [← B.2 i, Array.getD_eq_getD_getElem?, Array.getD_eq_getD_getElem?, Array.getElem?_eq_getElem (by rw [B.1]; exact hi)]; rfl
theorem Bits.set (B : Bits ops.size L l) {i : Nat} (hi : i < ops.size) : Bits ops.size (L.setIfInBounds i true) (Nat.lor l (Nat.shiftLeft 1 i)) := ⟨by rw [Array.size_setIfInBounds]; exact B.1, fun k => by
  rw [bit_lor, ← B.2 k, Array.getD_eq_getD_getElem?, Array.getD_eq_getD_getElem?]
  by_cases h : k = i
  · subst h
    rw [Array.getElem?_setIfInBounds_self_of_lt (by rw [B.1]; exact hi)]; simp
  · rw [Array.getElem?_setIfInBounds_ne (fun e => h e.symm)]
    simp [h]⟩
theorem rdy_mem (B : Bits ops.size L l) {i : Nat} (h : rdyM ops l i = true) : i ∈ Region.ready .any ops L := by
  unfold rdyM at h
  cases ho : ops[i]? with
  | none => rw [ho] at h; cases h
  | some o =>
    rw [ho] at h
    obtain ⟨h1, h2⟩ := Bool.and_eq_true_iff.1 h
    have hi : i < ops.size := (Array.getElem?_eq_some_iff.1 ho).1
    unfold Region.ready
    rw [List.mem_filter, List.mem_range]
    refine ⟨hi, ?_⟩
    rw [B.get hi, ← bitM_eq, h1, Bool.true_and, ho, Option.map_some, Option.getD_some, Array.all_eq_true_iff_forall_mem]
    intro e he
    cases hb : Region.binds .any e with
    | false => rfl
    | true =>
      have := subM_bits h2 e.on ((depL_bit _ _).2 ⟨e, Array.mem_toList_iff.2 he, hb, rfl⟩)
      rw [B.2, this]; rfl
theorem mem_rdy (B : Bits ops.size L l) {i : Nat} (h : i ∈ Region.ready .any ops L) : ∃ o, ops[i]? = some o ∧ l.testBit i = false ∧ subM (depM o) l = true := by
  unfold Region.ready at h
  rw [List.mem_filter, List.mem_range] at h
  obtain ⟨hi, h⟩ := h
  rw [Bool.and_eq_true, B.get hi] at h
  obtain ⟨h1, h2⟩ := h
  have ho : ops[i]? = some ops[i] := Array.getElem?_eq_getElem hi
  rw [ho, Option.map_some, Option.getD_some, Array.all_eq_true_iff_forall_mem] at h2
  refine ⟨_, ho, by simpa using h1, subM_of fun k hk => ?_⟩
  obtain ⟨e, he, hb, rfl⟩ := (depL_bit k _).1 hk
  have := h2 e (Array.mem_toList_iff.1 he)
  rw [hb, B.2] at this
  simpa using this
theorem noOther_spec {al : List Nat} : ∀ (os : List Oper) (j : Nat), noOther l al os j = true → ∀ k o, os[k]? = some o → l.testBit (j + k) = false → subM (depM o) l = true → al.any (Nat.beq (j + k)) = true
  | [], _, _, k, o, h, _, _ => by simp at h
  | o :: os, j, h, k, o', hk, h1, h2 => by
    unfold noOther at h
    obtain ⟨h3, h4⟩ := Bool.and_eq_true_iff.1 h
    cases k with
    | zero =>
      have : o = o' := by simpa using hk
      subst this
      rw [Nat.add_zero] at h1 ⊢
      rw [bitM_eq, h1, h2] at h3
      simpa using h3
    | succ k =>
      have := noOther_spec os (j + 1) h4 k o' (by simpa using hk) (by rw [show j + 1 + k = j + (k + 1) by omega]; exact h1) h2
      rw [show j + 1 + k = j + (k + 1) by omega] at this; exact this
theorem noOther_ready (B : Bits ops.size L l) {al : List Nat} (h : noOther l al ops.toList 0 = true) {i : Nat} (hi : i ∈ Region.ready .any ops L) : al.any (Nat.beq i) = true := by
  obtain ⟨o, ho, h1, h2⟩ := mem_rdy B hi
  have := noOther_spec _ 0 h i o (by rw [Array.getElem?_toList]; exact ho) (by rw [Nat.zero_add]; exact h1) h2
  rwa [Nat.zero_add] at this
theorem beqN (a b : Nat) : (a == b) = Nat.beq a b := by
  by_cases h : a = b
  · subst h; rw [beq_self_eq_true, Nat.beq_refl]
  · rw [beq_eq_false_iff_ne.2 h]
    exact (Bool.eq_false_iff.2 fun e => h (Nat.eq_of_beq_eq_true e)).symm
theorem free_of (B : Bits ops.size L l) {i : Nat} {o : Oper} (ho : ops[i]? = some o) (h : subM (confM ops i o) l = true) : Region.free .any ops L i = true := by
  unfold Region.free
  rw [ho]
  rw [List.all_eq_true]
  intro j hj
  have hj := List.mem_range.1 hj
  cases hc : (confM ops i o).testBit j with
  | true =>
    have := subM_bits h j hc
    rw [B.get hj, this]; simp
  | false =>
    unfold confM at hc
    rw [maskOf_bit, decide_eq_true hj, Bool.true_and, Bool.not_eq_false'] at hc
    have e1 : (j == i) = Nat.beq j i := beqN j i
    have oj : ops[j]? = some ops[j] := Array.getElem?_eq_getElem hj
    rw [oj] at hc ⊢
    simp only [] at hc ⊢
    have e2 : ∀ e : Edge, (e.on == i) = Nat.beq e.on i := fun _ => beqN _ _
    simp only [e1, e2]
    cases hb : Nat.beq j i with
    | true => rfl
    | false =>
      rw [hb, Bool.false_or] at hc
      rw [hc]; simp
theorem fastOk_spec {P : Program} {x : Option Nat} {m : List Nat} : ∀ (t : Tr) {hd : Bool} {n : Nat} {L : Array Bool} {l : Nat}, Bits ops.size L l → fastOk P ops x m hd t n l = true → orderOk P ops x m hd t n L = true := by
  intro t
  induction t with
  | done =>
    intro hd n L l B h
    unfold fastOk at h
    unfold orderOk
    obtain ⟨h1, h2⟩ := Bool.and_eq_true_iff.1 h
    rw [h1, Bool.true_and, List.isEmpty_iff]
    cases hr : Region.ready .any ops L with
    | nil => rfl
    | cons i r =>
      have := noOther_ready B h2 (i := i) (by rw [hr]; exact List.mem_cons_self)
      cases this
  | e => intro hd n L l B h; unfold fastOk at h; unfold orderOk; exact h
  | q i t ih =>
    intro hd n L l B h
    cases n with
    | zero => unfold fastOk at h; cases h
    | succ n =>
    unfold fastOk at h
    unfold orderOk
    obtain ⟨h, h2⟩ := Bool.and_eq_true_iff.1 h
    obtain ⟨h1, h⟩ := Bool.and_eq_true_iff.1 h
    cases ho : ops[i]? with
    | none => rw [ho] at h; cases h
    | some o =>
      rw [ho] at h
      simp only [] at h ⊢
      obtain ⟨h, h5⟩ := Bool.and_eq_true_iff.1 h
      obtain ⟨h3, h4⟩ := Bool.and_eq_true_iff.1 h
      have hm := rdy_mem B h4
      have hany : (Region.ready .any ops L).any (Nat.beq i) = true := List.any_eq_true.2 ⟨i, hm, Nat.beq_refl i⟩
      have hi : i < ops.size := (Array.getElem?_eq_some_iff.1 ho).1
      rw [h1, h3, hany, free_of B ho h5, ih (B.set hi) h2]; rfl
  | f i t u iht ihu =>
    intro hd n L l B h
    cases n with
    | zero => unfold fastOk at h; cases h
    | succ n =>
    unfold fastOk at h
    unfold orderOk
    obtain ⟨h, h2⟩ := Bool.and_eq_true_iff.1 h
    obtain ⟨h, h3⟩ := Bool.and_eq_true_iff.1 h
    obtain ⟨h0, h1⟩ := Bool.and_eq_true_iff.1 h
    have hm := rdy_mem B h0
    have hi : i < ops.size := by
      unfold Region.ready at hm
      exact List.mem_range.1 (List.mem_filter.1 hm).1
    rw [iht (B.set hi) h3, ihu B h2, Bool.and_true, Bool.and_true]
    cases hd with
    | false => rfl
    | true =>
      have h1 : noOther l (i :: u.alts) ops.toList 0 = true := h1
      have hany : (Region.ready .any ops L).any (Nat.beq i) = true := List.any_eq_true.2 ⟨i, hm, Nat.beq_refl i⟩
      rw [hany, Bool.true_and, Bool.not_true, Bool.false_or, List.all_eq_true]
      intro j hj
      have := noOther_ready B h1 hj
      rw [List.any_cons] at this
      rcases Bool.or_eq_true_iff.1 this with e | e
      · rw [Nat.eq_of_beq_eq_true e, Nat.beq_refl]; rfl
      · have : (u.alts.any fun k => Nat.beq k j) = true := by
          obtain ⟨k, hk, hb⟩ := List.any_eq_true.1 e
          exact List.any_eq_true.2 ⟨k, hk, by rw [Nat.eq_of_beq_eq_true hb]; exact Nat.beq_refl k⟩
        rw [this, Bool.or_true]
end Go.Gx
namespace Go.Gx

section
variable {P : Program} {ops : Array Oper} {Q : Exit → Act → World → Prop} {S : Array Bool → World → Prop}

def Closed (ops : Array Oper) (L : Array Bool) : Prop := ∀ j o, ops[j]? = some o → L.getD j false = true → ∀ e ∈ o.after, Region.binds .any e = true → L.getD e.on false = true
theorem Closed.start : Closed ops (Array.replicate ops.size false) := fun j o _ h => by
  rw [Array.getD_eq_getD_getElem?, Array.getElem?_replicate] at h
  split at h <;> simp at h
theorem Closed.step {L : Array Bool} {i : Nat} (h : Closed ops L) (hi : i ∈ Region.ready .any ops L) : Closed ops (L.setIfInBounds i true) := fun j o hj hl e he hb => by
  by_cases e1 : j = i
  · subst e1
    obtain ⟨_, o', ho', hall⟩ := mem_ready.1 hi
    rw [hj] at ho'; cases ho'
    exact getD_set_true (hall e he hb)
  · rw [getD_set_ne false (Ne.symm e1)] at hl
    exact getD_set_true (h j o hj hl e he hb)
theorem unlisted {L : Array Bool} {i : Nat} (h : L.getD i true = false) (h' : L.getD i false = true) : False := by
  rw [Array.getD_eq_getD_getElem?] at h h'
  cases e : L[i]? with
  | none => rw [e] at h; simp at h
  | some b => rw [e] at h h'; simp at h h'; rw [h] at h'; cases h'
theorem ancs_spec {L : Array Bool} (hc : Closed ops L) : ∀ (l m : List Nat), (∀ j ∈ m, L.getD j false = true) → ∀ j ∈ ancs ops m l, L.getD j false = true
  | [], _, hm => hm
  | k :: l, m, hm => by
    refine ancs_spec hc l _ ?_
    cases e : m.any (Nat.beq k) with
    | false => exact hm
    | true =>
      obtain ⟨k', hk, hb⟩ := List.any_eq_true.1 e
      have := Nat.eq_of_beq_eq_true hb
      subst this
      simp only [cond_true]
      cases eo : ops[k]? with
      | none => exact hm
      | some o =>
        intro j hj
        rcases List.mem_append.1 hj with hj | hj
        · obtain ⟨ed, hd, rfl⟩ := List.mem_map.1 hj
          obtain ⟨h1, h2⟩ := List.mem_filter.1 hd
          exact hc k o eo (hm k hk) ed (by simpa using h1) h2
        · exact hm j hj

def wpX (P : Program) (ops : Array Oper) (Q : Exit → Act → World → Prop) (S : Array Bool → World → Prop) : Nat → Array Bool → Act → World → Prop
  | 0, L, a, w => Region.ready .any ops L = [] ∧ Q .normal a w
  | n + 1, L, a, w => (Region.ready .any ops L = [] → Q .normal a w) ∧
      ∀ i ∈ Region.ready .any ops L, wpOp P ops Q i (fun a' w' => S (L.setIfInBounds i true) w' ∧ wpX P ops Q S n (L.setIfInBounds i true) a' w') a w
theorem wpX_any : ∀ (n : Nat) (L : Array Bool) (a : Act) (w : World), wpX P ops Q S n L a w → wpAny P .any ops Q n L a w
  | 0, _, _, _, h => h
  | n + 1, _, _, _, h => ⟨h.1, fun i hi => wpOp_mono (fun a' w' h' => wpX_any n _ a' w' h'.2) (h.2 i hi)⟩
theorem wpX_done {L : Array Bool} {a : Act} {w : World} (hr : Region.ready .any ops L = []) (h : Q .normal a w) : ∀ n, wpX P ops Q S n L a w
  | 0 => ⟨hr, h⟩
  | _ + 1 => ⟨fun _ => h, by rw [hr]; simp⟩
theorem wpX_first {i : Nat} {oi : Oper} {v : Value} (hi : ops[i]? = some oi) (hsel : Region.noSelect ops = true)
    (hQ : ∀ c a w, Q (.panic c) (a.put oi.dst v) w → Q (.panic c) a w) (hS' : ∀ L w, S L w → S (L.setIfInBounds i true) w) (hS : ∀ L w, Closed ops L → L.getD i true = false → S (L.setIfInBounds i true) w → S L w) :
    ∀ (n : Nat) (L : Array Bool) (a : Act) (w : World), Closed ops L →
      (∀ j oj, ops[j]? = some oj → j ≠ i → L.getD j true = false → (∀ e ∈ oj.after, Region.binds .any e = true → e.on ≠ i) → oi.apart ops oj = true) →
      i ∈ Region.ready .any ops L → YieldsIf P ops (fun w => ∃ L, Closed ops L ∧ L.getD i true = false ∧ S L w) oi v a → S L w →
      wpX P ops Q S n (L.setIfInBounds i true) (a.put oi.dst v) w → wpX P ops Q S (n + 1) L a w := by
  have take : ∀ (n : Nat) (L : Array Bool) (a : Act) (w : World), Closed ops L → i ∈ Region.ready .any ops L → YieldsIf P ops (fun w => ∃ L, Closed ops L ∧ L.getD i true = false ∧ S L w) oi v a → S L w →
      wpX P ops Q S n (L.setIfInBounds i true) (a.put oi.dst v) w → wpOp P ops Q i (fun a' w' => S (L.setIfInBounds i true) w' ∧ wpX P ops Q S n (L.setIfInBounds i true) a' w') a w := fun n L a w hc hr hy hs H =>
    hy.wpOp hi ⟨L, hc, (mem_ready.1 hr).1, hs⟩ ⟨hS' L w hs, H⟩
  intro n
  induction n with
  | zero =>
    intro L a w hc _ hr hy hs H
    refine ⟨fun h => (by rw [h] at hr; cases hr), fun j hj => ?_⟩
    by_cases e : j = i
    · subst e; exact take 0 L a w hc hr hy hs H
    · have h0 := ready_mono hj e
      rw [H.1] at h0; cases h0
  | succ n ih =>
    intro L a w hc hf hr hy hs H
    refine ⟨fun h => (by rw [h] at hr; cases hr), fun j hj => ?_⟩
    by_cases e : j = i
    · subst e; exact take (n + 1) L a w hc hr hy hs H
    · obtain ⟨hju, oj, hoj, hall⟩ := mem_ready.1 hj
      have hiu := (mem_ready.1 hr).1
      have hno : ∀ ed ∈ oj.after, Region.binds .any ed = true → ed.on ≠ i := fun ed he hb heq => unlisted hiu (heq ▸ hall ed he hb)
      refine wpOp_mono (fun a' w' h => ?_) (wpOp_putIf hoj (hf j oj hoj e hju hno) (fun cs b => Region.noSelect_spec hsel i oi cs b hi) (fun cs b => Region.noSelect_spec hsel j oj cs b hoj) hQ hy (H.2 j (ready_mono hj e)))
      obtain ⟨hy', hs', H'⟩ := h
      have hiu' : (L.setIfInBounds j true).getD i true = false := by rw [getD_set_ne true e]; exact hiu
      rw [Array.setIfInBounds_comm _ _ (Ne.symm e)] at hs' H'
      have hs1 := hS _ _ (hc.step hj) hiu' hs'
      refine ⟨hs1, ih _ a' w' (hc.step hj) (fun k ok hk hki hku hkn => hf k ok hk hki ?_ hkn) (ready_mono hr (Ne.symm e)) hy' hs1 H'⟩
      by_cases ek : j = k
      · subst ek; exact hju
      · rw [getD_set_ne true ek] at hku; exact hku
end

section
variable {P : Program} {H : Hints} {w0 : World} {h0 : Hp}
theorem opQ_spec {ops : Array Oper} {o : Oper} {L : Nat → Option (List Value × TypeId)} {st : St} {h hl : Hp} {K : St → Prop} {a : Act} {ρ : Nat → Nat} (hW : opQ P H ops o L st h hl K) (hq : quietOp P o.op = true)
    (he : EnvR ρ st a.tmps) (hN : a.tmps.size = H.N) :
    ∃ v st', K st' ∧ EnvR ρ st' (a.put o.dst v).tmps ∧ (∀ w, HeapR w0 h0 ρ st h w → HeapR w0 h0 ρ st' h w) ∧ Ext ρ ρ st st' ∧ YieldsIf P ops (fun w => Holds hl w ∧ LocR ρ { st with L := L } w) o v a := by
  have main : ∀ st1 : St, EnvR ρ st1 a.tmps → (∀ w, HeapR w0 h0 ρ st h w → HeapR w0 h0 ρ st1 h w) → Ext ρ ρ st st1 → Region.wanted o (yielded ops a.tmps) = true →
      opW P H o { st1 with L := L } h hl (fun s _ _ => K (st1.put H.N o.dst s)) →
      ∃ v st', K st' ∧ EnvR ρ st' (a.put o.dst v).tmps ∧ (∀ w, HeapR w0 h0 ρ st h w → HeapR w0 h0 ρ st' h w) ∧ Ext ρ ρ st st' ∧ YieldsIf P ops (fun w => Holds hl w ∧ LocR ρ { st1 with L := L } w) o v a := by
    intro st1 he1 hh1 hx1 hw hW
    obtain ⟨sv, v, hk, hs, hr⟩ := quiet_spec hq hW (show EnvR ρ { st1 with L := L } a.tmps from he1)
    exact ⟨v, _, hk, he1.put hN hs, fun w hh => (hh1 w hh).put _ _ _, hx1.trans (Ext.put _ _ _ _ _), .inl ⟨hw, fun w ⟨h1, h2⟩ => hr w h1 h2⟩⟩
  have skip : ∀ st1 : St, EnvR ρ st1 a.tmps → (∀ w, HeapR w0 h0 ρ st h w → HeapR w0 h0 ρ st1 h w) → Ext ρ ρ st st1 → Region.wanted o (yielded ops a.tmps) = false → K (st1.put H.N o.dst (.val undef)) →
      ∃ v st', K st' ∧ EnvR ρ st' (a.put o.dst v).tmps ∧ (∀ w, HeapR w0 h0 ρ st h w → HeapR w0 h0 ρ st' h w) ∧ Ext ρ ρ st st' ∧ YieldsIf P ops (fun w => Holds hl w ∧ LocR ρ { st with L := L } w) o v a := by
    intro st1 he1 hh1 hx1 hw hk
    exact ⟨undef, _, hk, he1.put hN rfl, fun w hh => (hh1 w hh).put _ _ _, hx1.trans (Ext.put _ _ _ _ _), .inr ⟨hw, rfl⟩⟩
  unfold opQ at hW
  cases hg : o.guard with
  | none =>
    rw [hg] at hW
    exact main st he (fun _ h => h) (Ext.refl _ _) (by simp only [Region.wanted, hg]) hW
  | some jw =>
    obtain ⟨j, want⟩ := jw
    rw [hg] at hW
    simp only [] at hW
    cases hd : (ops[j]?).bind (·.dst) with
    | none => rw [hd] at hW; exact hW.elim
    | some d =>
      rw [hd] at hW
      simp only [] at hW
      have hed := he d
      split at hW
      · rename_i b eb
        rw [eb] at hed
        have hed' : a.tmps.getD d undef = .bool b := hed
        have hy : yielded ops a.tmps j = some b := by
          unfold yielded
          simp only [hd, Option.bind_some, getD_some hed' (by intro h; cases h)]
        have he' : EnvR ρ (st.set d (.val (.bool b))) a.tmps := he.setBool hed'
        have hw : Region.wanted o (yielded ops a.tmps) = (b == want) := by
          simp only [Region.wanted, hg]; rw [hy]; cases b <;> cases want <;> rfl
        cases b <;> cases want <;> simp only [cond_true, cond_false] at hW
        · exact main (st.set d (.val (.bool _))) he' (fun _ hh => hh.set _ _) (Ext.set _ _ _ _) hw hW
        · exact skip (st.set d (.val (.bool _))) he' (fun _ hh => hh.set _ _) (Ext.set _ _ _ _) hw hW
        · exact skip (st.set d (.val (.bool _))) he' (fun _ hh => hh.set _ _) (Ext.set _ _ _ _) hw hW
        · exact main (st.set d (.val (.bool _))) he' (fun _ hh => hh.set _ _) (Ext.set _ _ _ _) hw hW
      · rename_i vs eb
        rw [eb] at hed
        have hed' : a.tmps.getD d undef = .tuple vs := hed
        have hy : yielded ops a.tmps j = none := by
          unfold yielded
          simp only [hd, Option.bind_some]
          rw [Array.getD_eq_getD_getElem?] at hed'
          cases e : a.tmps[d]? with
          | none => rfl
          | some x => rw [e] at hed'; simp at hed'; rw [hed']
        have hw : Region.wanted o (yielded ops a.tmps) = false := by
          simp only [Region.wanted, hg]; rw [hy]; cases want <;> rfl
        exact skip _ he (fun _ h => h) (Ext.refl _ _) hw hW
      · exact hW.elim
def offX (x : Option Nat) (L : Array Bool) : Prop := ∃ y, x = some y ∧ L.getD y false = true
theorem offX_set {x : Option Nat} {L : Array Bool} {i : Nat} (h : offX x L) : offX x (L.setIfInBounds i true) := by
  obtain ⟨y, e, h⟩ := h
  exact ⟨y, e, getD_set_true h⟩
theorem offX_unset {x : Option Nat} {L : Array Bool} {i : Nat} (hi : isX x i = false) (h : offX x (L.setIfInBounds i true)) : offX x L := by
  obtain ⟨y, rfl, h⟩ := h
  refine ⟨y, rfl, ?_⟩
  have : i ≠ y := fun e => by subst e; unfold isX at hi; simp only [nbeq_self] at hi; cases hi
  rwa [getD_set_ne false this] at h
theorem ready_lt {md : Region.Mode} {ops : Array Oper} {L : Array Bool} {i : Nat} (h : i ∈ Region.ready md ops L) : i < L.size := by
  have h := (mem_ready.1 h).1
  rw [Array.getD_eq_getD_getElem?] at h
  rcases Nat.lt_or_ge i L.size with h' | h'
  · exact h'
  · rw [Array.getElem?_eq_none h'] at h; cases h
theorem ordW_sound {hS : Hp} {ops : Array Oper} {x : Option Nat} {m : List Nat} {st0 : St} {ρ0 : Nat → Nat} {hl : Hp} {Q : Exit → Act → World → Prop} {KK : St → Hp → Prop} {wS : World} (hS0 : HeapR w0 h0 ρ0 st0 hS wS)
    (hsel : Region.noSelect ops = true) (hm : ∀ L, Closed ops L → ∀ y, x = some y → L.getD y false = true → ∀ j ∈ m, L.getD j false = true) (hQ : ∀ c a w, ¬ Q (.panic c) a w) {a0 : Act} :
    ∀ (tr : Tr) {off : Bool} {st : St} {h : Hp} {a : Act} {w : World} {ρ : Nat → Nat} {L : Array Bool} {n : Nat} {hd : Bool}, ordW P H ops x m st0 hl tr off st h KK → orderOk P ops x m hd tr n L = true → Closed ops L → (off = true → offX x L) → (off = false → Holds hl w ∧ LocR ρ0 st0 w) →
      EnvR ρ st a.tmps → a.tmps.size = H.N → HeapR w0 h0 ρ st h w → Ext ρ0 ρ st0 st → a.defers = a0.defers → (∀ t, opsAsg ops.toList t = false → a.tmps[t]? = a0.tmps[t]?) →
      (∀ a' w', (∃ st' h' ρ', KK st' h' ∧ EnvR ρ' st' a'.tmps ∧ HeapR w0 h0 ρ' st' h' w' ∧ Ext ρ0 ρ' st0 st') → a'.tmps.size = H.N → a'.defers = a0.defers → (∀ t, opsAsg ops.toList t = false → a'.tmps[t]? = a0.tmps[t]?) → Q .normal a' w') →
      (hd = true → wpX P ops Q (fun L w => offX x L ∨ (Holds hl w ∧ LocR ρ0 st0 w)) n L a w) ∧
      ∀ k, n = k + 1 → ∀ i ∈ tr.alts, i ∈ Region.ready .any ops L → wpOp P ops Q i (fun a' w' => (offX x (L.setIfInBounds i true) ∨ (Holds hl w' ∧ LocR ρ0 st0 w')) ∧ wpX P ops Q (fun L w => offX x L ∨ (Holds hl w ∧ LocR ρ0 st0 w)) k (L.setIfInBounds i true) a' w') a w := by
  have hasg : ∀ i o, ops[i]? = some o → ∀ t, opsAsg ops.toList t = false → dstIs o t = false := fun i o ho t ht => by
    have : o ∈ ops.toList := by
      have := Array.mem_of_getElem? ho
      simpa using this
    unfold opsAsg at ht
    have := List.any_eq_false.1 ht o this
    unfold dstIs
    simpa using this
  intro tr
  induction tr with
  | done =>
    intro off st h a w ρ L n hd hW hO _ _ _ he hN hh hx hd' hf hn
    obtain ⟨_, hO⟩ := Bool.and_eq_true_iff.1 (show (hd && (Region.ready .any ops L).isEmpty) = true by unfold orderOk at hO; exact hO)
    exact ⟨fun _ => wpX_done (List.isEmpty_iff.1 hO) (hn _ _ ⟨st, h, ρ, hW, he, hh, hx⟩ hN hd' hf) _, fun _ _ i hi => by cases hi⟩
  | e =>
    intro off st h a w ρ L n hd hW hO _ _ _ he hN hh hx hd' hf hn
    unfold orderOk at hO
    exact ⟨(fun e => by subst e; cases hO), fun _ _ i hi => (by cases hi)⟩
  | q i t ih =>
    intro off st h a w ρ L n hd hW hO hc hoff hon he hN hh hx hd' hf hn
    refine ⟨fun ehd => ?_, fun _ _ i hi => by cases hi⟩
    cases n with
    | zero => unfold orderOk at hO; cases hO
    | succ n =>
    unfold orderOk at hO
    obtain ⟨hO, hO'⟩ := Bool.and_eq_true_iff.1 hO
    obtain ⟨_, hO⟩ := Bool.and_eq_true_iff.1 hO
    unfold ordW at hW
    cases ho : ops[i]? with
    | none => rw [ho] at hW; exact hW.elim
    | some o =>
      rw [ho] at hW hO
      simp only [] at hW hO
      have hS : offX x L ∨ (Holds hl w ∧ LocR ρ0 st0 w) := by
        cases off with
        | true => exact .inl (hoff rfl)
        | false => exact .inr (hon rfl)
      obtain ⟨hO1, hO2⟩ := Bool.and_eq_true_iff.1 hO
      obtain ⟨hfi, hO1⟩ := Bool.and_eq_true_iff.1 hO1
      obtain ⟨i', hi', hb⟩ := List.any_eq_true.1 hO1
      have := Nat.eq_of_beq_eq_true hb
      subst this
      obtain ⟨hq, hix⟩ := Bool.and_eq_true_iff.1 hfi
      obtain ⟨hq, hq2⟩ := Bool.and_eq_true_iff.1 hq
      have key : ∃ v st', ordW P H ops x m st0 hl t off st' h KK ∧ EnvR ρ st' (a.put o.dst v).tmps ∧ (∀ w, HeapR w0 h0 ρ st h w → HeapR w0 h0 ρ st' h w) ∧ Ext ρ ρ st st' ∧
          YieldsIf P ops (fun w => ∃ L, Closed ops L ∧ L.getD i true = false ∧ (offX x L ∨ (Holds hl w ∧ LocR ρ0 st0 w))) o v a := by
        cases hon : onI x m i with
        | true =>
          rw [hon] at hW
          simp only [cond_true] at hW
          obtain ⟨v, st', k1, k2, k3, k4, k5⟩ := opQ_spec (w0 := w0) (h0 := h0) hW hq he hN
          refine ⟨v, st', k1, k2, k3, k4, k5.imp (fun ⟨y1, y2⟩ => ⟨y1, fun w ⟨L', c', u', s'⟩ => y2 w ?_⟩) id⟩
          have : Holds hl w ∧ LocR ρ0 st0 w := by
            rcases s' with ⟨y, e, hy⟩ | s'
            · exfalso
              subst e
              unfold onI at hon
              obtain ⟨o1, _⟩ := Bool.and_eq_true_iff.1 hon
              obtain ⟨i2, hi2, hb2⟩ := List.any_eq_true.1 o1
              have := Nat.eq_of_beq_eq_true hb2
              subst this
              exact unlisted u' (hm L' c' y rfl hy i hi2)
            · exact s'
          refine ⟨this.1, fun b cs t e => ?_⟩
          have hlt : b < st0.n := by
            rcases Nat.lt_or_ge b st0.n with h' | h'
            · exact h'
            · have := hS0.top b h'
              rw [this] at e; cases e
          rw [hx.rho b hlt]
          exact this.2 b cs t e
        | false =>
          rw [hon] at hW
          simp only [cond_false] at hW
          obtain ⟨v, st', k1, k2, k3, k4, k5⟩ := opQ_spec (w0 := w0) (h0 := h0) hW hq he hN
          exact ⟨v, st', k1, k2, k3, k4, k5.imp (fun ⟨y1, y2⟩ => ⟨y1, fun w _ => y2 w ⟨(fun _ _ e => by cases e), (fun _ _ _ e => by cases e)⟩⟩) id⟩
      obtain ⟨v, st', k1, k2, k3, k4, k5⟩ := key
      have hix : isX x i = false := by simpa using hix
      refine wpX_first ho hsel (fun c a w h => (hQ _ _ _ h).elim) (fun L w h => h.imp offX_set id) (fun L w _ _ h => h.imp (offX_unset hix) id) n L a w hc (Region.free_spec ho hO2) hi' k5 hS ?_
      exact (ih k1 hO' (hc.step hi') (fun e => offX_set (hoff e)) hon k2 ((put_size _ _ _).trans hN) (k3 w hh) (hx.trans k4) ((put_defers _ _ _).trans hd') (fun t ht => (put_other _ _ _ (dst_ne (hasg i o ho t ht))).trans (hf t ht)) hn).1 rfl
  | f i t u iht ihu =>
    intro off st h a w ρ L n hd hW hO hc hoff hon he hN hh hx hd' hf hn
    cases n with
    | zero => unfold orderOk at hO; cases hO
    | succ n =>
    unfold orderOk at hO
    obtain ⟨hO, hOu⟩ := Bool.and_eq_true_iff.1 hO
    obtain ⟨hO, hOt⟩ := Bool.and_eq_true_iff.1 hO
    unfold ordW at hW
    have hW' : (match ops[i]? with
      | none => False
      | some o => opG P H ops o st h h fun st' h' => bif off || isX x i then ordW P H ops x m st0 hl t true st' h' KK else
        bif verOk [] st0 st' st0.n then Sub hl h' ∧ ordW P H ops x m st0 hl t false st' h' KK else False) ∧ (u.isE = false → ordW P H ops x m st0 hl u off st h KK) := by
      cases e : u.isE with
      | true => rw [e] at hW; exact ⟨hW, fun h => by cases h⟩
      | false => rw [e] at hW; exact ⟨hW.1, fun _ => hW.2⟩
    clear hW
    obtain ⟨hW, hU⟩ := hW'
    have B : ∀ k, n + 1 = k + 1 → ∀ j ∈ (Tr.f i t u).alts, j ∈ Region.ready .any ops L → wpOp P ops Q j (fun a' w' => (offX x (L.setIfInBounds j true) ∨ (Holds hl w' ∧ LocR ρ0 st0 w')) ∧ wpX P ops Q (fun L w => offX x L ∨ (Holds hl w ∧ LocR ρ0 st0 w)) k (L.setIfInBounds j true) a' w') a w := by
      intro k ek j hj hi'
      have ek : n = k := by omega
      subst ek
      rcases List.mem_cons.1 (show j ∈ i :: u.alts from hj) with rfl | hj
      · cases ho : ops[j]? with
        | none => rw [ho] at hW; exact hW.elim
        | some o =>
          rw [ho] at hW
          simp only [] at hW
          unfold wpOp
          simp only [ho]
          refine opG_sound _ hW he hN hh hh.holds fun a1 w1 ⟨⟨st1, h1, ρ1, hW1, he1, hh1, hx1⟩, hs1, hd1, hf1⟩ => ?_
          have fr : ∀ t, opsAsg ops.toList t = false → a1.tmps[t]? = a0.tmps[t]? := fun t ht => (hf1 t (hasg j o ho t ht)).trans (hf t ht)
          cases eo : (off || isX x j) with
          | true =>
            rw [eo] at hW1
            have hoff' : offX x (L.setIfInBounds j true) := by
              rcases Bool.or_eq_true_iff.1 eo with e | e
              · exact offX_set (hoff e)
              · cases x with
                | none => cases e
                | some y =>
                  have := Nat.eq_of_beq_eq_true e
                  subst this
                  refine ⟨y, rfl, ?_⟩
                  rw [Array.getD_eq_getD_getElem?, Array.getElem?_setIfInBounds_self_of_lt (ready_lt hi')]; rfl
            exact ⟨.inl hoff', (iht hW1 hOt (hc.step hi') (fun _ => hoff') (fun e => by cases e) he1 (hs1.trans hN) hh1 (hx.trans hx1) (hd1.trans hd') fr hn).1 rfl⟩
          | false =>
            rw [eo] at hW1
            simp only [cond_false] at hW1
            cases ev : verOk [] st0 st1 st0.n with
            | false => rw [ev] at hW1; exact hW1.elim
            | true =>
              rw [ev] at hW1
              obtain ⟨hsub, hW1⟩ := hW1
              have hx2 := hx.trans hx1
              have hs' : Holds hl w1 ∧ LocR ρ0 st0 w1 := by
                refine ⟨fun b ob e => hh1.holds b ob (hsub b ob e), fun b cs t e => ?_⟩
                have hlt : b < st0.n := by
                  rcases Nat.lt_or_ge b st0.n with h' | h'
                  · exact h'
                  · have := hS0.top b h'
                    rw [this] at e; cases e
                have h1 := (hx2.ver b hlt).2 ((verOk_spec ev b hlt).2 rfl)
                rw [← hx2.rho b hlt]
                exact (hh1.loc b cs t (by rw [h1]; exact e)).1
              have eoff : off = false := (Bool.or_eq_false_iff.1 eo).1
              exact ⟨.inr hs', (iht hW1 hOt (hc.step hi') (fun e => by cases e) (fun _ => hs') he1 (hs1.trans hN) hh1 hx2 (hd1.trans hd') fr hn).1 rfl⟩
      · have hu : u.isE = false := by
          cases u with
          | e => cases hj
          | _ => rfl
        exact (ihu (hU hu) hOu hc hoff hon he hN hh hx hd' hf hn).2 n rfl j hj hi'
    refine ⟨fun ehd => ?_, B⟩
    subst ehd
    have hsub : ∀ j ∈ Region.ready .any ops L, j ∈ (Tr.f i t u).alts := fun j hj => by
      have := List.all_eq_true.1 (Bool.and_eq_true_iff.1 (show ((Region.ready .any ops L).any (Nat.beq i) && (Region.ready .any ops L).all fun j => (Nat.beq i j || u.alts.any fun k => Nat.beq k j)) = true from by simpa using hO)).2 j hj
      rcases Bool.or_eq_true_iff.1 this with e | e
      · rw [Nat.eq_of_beq_eq_true e]; exact List.mem_cons_self
      · obtain ⟨k, hk, hb⟩ := List.any_eq_true.1 e
        rw [← Nat.eq_of_beq_eq_true hb]
        exact List.mem_cons_of_mem _ hk
    refine ⟨fun h0 => ?_, fun j hj => B n rfl j (hsub j hj) hj⟩
    obtain ⟨i', hi', _⟩ := List.any_eq_true.1 (Bool.and_eq_true_iff.1 (show ((Region.ready .any ops L).any (Nat.beq i) && (Region.ready .any ops L).all fun j => (Nat.beq i j || u.alts.any fun k => Nat.beq k j)) = true from by simpa using hO)).1
    rw [h0] at hi'; cases hi'
theorem drawW_sound {id : Nat} {ops : Array Oper} {st : St} {h : Hp} {K : St → Hp → Prop} {a : Act} {w : World} {ρ : Nat → Nat} (hW : drawW P H id ops st h K) (he : EnvR ρ st a.tmps) (hN : a.tmps.size = H.N) (hh : HeapR w0 h0 ρ st h w) :
    P.follows .mixedOrders = true ∧ wpAny P .any ops (fun e a' w' => e = .normal ∧ Left P H w0 h0 ρ st a (opsAsg ops.toList) K a' w') ops.size (Array.replicate ops.size false) a { w with drawn := w.drawn + 1 } := by
  unfold drawW at hW
  split at hW
  · exact hW.elim
  · rename_i x ex ord tr _
    cases ed : drawOk P ops x (befores ops ord x) tr with
    | false => rw [ed] at hW; exact hW.elim
    | true =>
      rw [ed] at hW
      simp only [cond_true] at hW
      unfold drawOk at ed
      obtain ⟨ed, d4⟩ := Bool.and_eq_true_iff.1 ed
      obtain ⟨d2, d3⟩ := Bool.and_eq_true_iff.1 ed
      have hW' : ∃ hl, Sub hl h ∧ ordW P H ops x (befores ops ord x) st hl tr false st h K := by
        cases ex with
        | true => exact hW
        | false => exact ⟨h, fun _ _ e => e, hW⟩
      obtain ⟨hl, hsub, hW'⟩ := hW'
      have hh' : HeapR w0 h0 ρ st h { w with drawn := w.drawn + 1 } := hh.of_heap rfl rfl rfl rfl
      refine ⟨d3, wpX_any _ _ _ _ (S := fun L w => offX x L ∨ (Holds hl w ∧ LocR ρ st w)) ?_⟩
      refine (ordW_sound (a0 := a) hh' d2 (fun L hc y hx hy => ?_) (fun c a w h => by cases h.1) tr hW' (fastOk_spec tr (Bits.start _) d4) Closed.start (fun e => by cases e) (fun _ => ⟨fun b o e => hh'.holds b o (hsub b o e), hh'.locR⟩) he hN hh' (Ext.refl _ _) rfl (fun _ _ => rfl) (fun a' w' ex hs hd hf => ⟨rfl, ⟨ex, hs.trans hN.symm, hd, hf⟩⟩)).1 rfl
      subst hx
      exact ancs_spec hc _ _ (fun j hj => by rw [List.mem_singleton.1 hj]; exact hy)
end
end Go.Gx
namespace Go.Gx

abbrev FR (r : Option Nat) : Fence := { Fence.wide with round := r }
theorem calls_fr {r : Option Nat} {m : Nat} {P : Program} {f : FuncId} {args : Array Value} {w : World} {R : Ending → World → Prop} (h : Calls P f args w R) : CallsIn (FR r) m P f args w R := by
  cases r with
  | none => exact callsIn_wide.2 h
  | some l => exact CallsIn.inRound l (callsIn_wide.2 h)
theorem rows_fr {r : Option Nat} {m : Nat} {P : Program} {row : String} {args : Array Value} {w : World} {R : Value → World → Prop} (h : Rows P row args w R) : RowsIn (FR r) m P row args w R := fun c cs _ =>
  let ⟨v, w', q, s⟩ := h c cs
  ⟨v, w', q, (stepsIn_wide (P := P)).2 s⟩
theorem wp_fr {r : Option Nat} {n : Nat} {P : Program} {o : Oper} {a : Act} {w : World} {next : Act → World → Prop} {Q : Exit → Act → World → Prop} (hd : r = none ∨ ∀ c, o.op ≠ .defer c) (h : o.wp P a w next Q) : o.wpIn (FR r) n P a w next Q := by
  refine ⟨fun _ _ => trivial, ?_⟩
  have e : o.semAt (FR r).round a.eval = execOp a.eval o := by
    rcases hd with rfl | hd
    · rfl
    · cases r with
      | none => rfl
      | some l => exact Oper.semAt_some l a.eval o hd
  rw [e]
  unfold Oper.wp at h
  generalize (execOp a.eval o).run P w = res at h
  cases res with
  | ok x w' =>
    cases x with
    | enter f args => exact ⟨(fun h => by cases h), calls_fr h⟩
    | row row args => exact ⟨(fun h => by cases h), rows_fr h⟩
    | value v => exact h
    | skip => exact h
    | defer d => exact h
    | _ => exact h.elim
  | halt x w' =>
    cases x <;> first | exact h | exact (show False from h).elim
def notDefer (o : Oper) : Bool := match o.op with
  | .defer _ => false
  | _ => true
theorem notDefer_spec {o : Oper} (h : notDefer o = true) : ∀ c, o.op ≠ .defer c := fun c e => by unfold notDefer at h; rw [e] at h; cases h
theorem round_fr {r : Option Nat} {n m : Nat} {P : Program} {l : Nat} {f : FuncId} {tmps : Array Value} {assign body : Code} {w : World} {R : Ending → World → Prop} (h : RoundIn Fence.wide m P l f tmps assign body w R) : RoundIn (FR r) n P l f tmps assign body w R :=
  ⟨trivial, fun c cs _ => h.2 c cs (room_wide _)⟩
theorem isYield_spec {st : St} {o : Oper} {yl : Nat} {xs : List Operand} (h : isYield st o = some (yl, xs)) : ∃ c f, o.op = .call c ∧ c.callee = .value f ∧ st.ev f = .val (.func (.yield yl) #[] #[]) ∧ xs = c.args.toList := by
  unfold isYield at h
  split at h
  · rename_i c ec
    split at h
    · rename_i f ef
      split at h
      · rename_i l fst cap ev
        cases e : (fst.isEmpty && cap.isEmpty) with
        | false => rw [e] at h; cases h
        | true =>
          rw [e] at h
          obtain ⟨e1, e2⟩ := Bool.and_eq_true_iff.1 e
          have e1 : fst = #[] := by simpa using e1
          have e2 : cap = #[] := by simpa using e2
          subst e1; subst e2
          cases h
          exact ⟨c, f, ec, ef, ev, rfl⟩
      · cases h
    · cases h
  · cases h
section
variable {P : Program} {H : Hints} {w0 : World} {h0 : Hp}
theorem isYieldH_some {H : Hints} {st : St} {o : Oper} {x : Nat × List Operand} (h : isYieldH H st o = some x) : isYield st o = some x := by
  unfold isYieldH at h
  cases hc : H.clo with
  | true => rw [hc] at h; cases h
  | false => rw [hc] at h; exact h
theorem yield_left {r : Option Nat} {n : Nat} {o : Oper} {st st1 : St} {h : Hp} {K : St → Hp → Prop} {a : Act} {w : World} {next : Act → World → Prop} {Q : Exit → Act → World → Prop} {ρ : Nat → Nat} {st0 : St} {yl : Nat} {xs : List Operand}
    (hy : isYield st1 o = some (yl, xs)) (he1 : EnvR ρ st1 a.tmps) (hW : yieldW P st yl xs h fun s st' h' => K (st'.put H.N o.dst s) h') (he : EnvR ρ st a.tmps) (hN : a.tmps.size = H.N) (hh : HeapR w0 h0 ρ st h w) (hx : Ext ρ ρ st0 st)
    (hn : ∀ a' w', Left P H w0 h0 ρ st0 a (dstIs o) K a' w' → next a' w') : o.wpIn (FR r) n P a w next Q := by
  obtain ⟨c, f, ec, ef, ev, rfl⟩ := isYield_spec hy
  have hv : a.eval f = .func (.yield yl) #[] #[] := ev_val he1 ev
  have hW := evVs_spec he hW
  obtain ⟨fn, tmps, assign, body, hyr, hR⟩ := hW w hh.holds
  refine ⟨fun _ _ => trivial, ?_⟩
  have e : o.semAt (FR r).round a.eval = execOp a.eval o := by
    cases r with
    | none => rfl
    | some l => exact Oper.semAt_some l a.eval o fun c' e' => by rw [ec] at e'; cases e'
  have hrun : (execOp a.eval o).run P w = .ok (.round yl fn tmps assign body) w := by
    simp only [execOp, ec, Sem.run_bind, resolve, ef, hv, Deferred.ofValue, Sem.run_pure, Result.andThen_ok, invoke]
    have e2 : (c.args.map a.eval) = (List.map a.eval c.args.toList).toArray := by apply Array.ext'; simp
    simp only [Array.empty_append]
    rw [e2]; exact hyr
  rw [e, hrun]
  refine ⟨(fun h => by cases h), round_fr (RoundIn.mono hR ?_)⟩
  rintro e w' ⟨v, h', rfl, ⟨b, rfl, hk⟩, hh', hk'⟩
  refine hn _ _ ⟨⟨_, h', ρ, hk, he.put hN rfl, (hh.call hh' hk').put _ _ _, hx.trans (Ext.put _ _ _ _ _)⟩, put_size _ _ _, put_defers _ _ _, fun _ ht => put_other _ _ _ (dst_ne ht)⟩
theorem opGY_sound {r : Option Nat} {n : Nat} {ops : Array Oper} {o : Oper} {st : St} {h : Hp} {K : St → Hp → Prop} {a : Act} {w : World} {next : Act → World → Prop} {Q : Exit → Act → World → Prop} {ρ : Nat → Nat} {yl : Nat} {xs : List Operand} (hyl : isYield st o = some (yl, xs))
    (hW : opGY P H ops o yl xs st h K) (he : EnvR ρ st a.tmps) (hN : a.tmps.size = H.N) (hh : HeapR w0 h0 ρ st h w)
    (hn : ∀ a' w', Left P H w0 h0 ρ st a (dstIs o) K a' w' → next a' w') :
    if Region.wanted o (yielded ops a.tmps) then o.wpIn (FR r) n P a w next Q else next (a.put o.dst undef) w := by
  unfold opGY at hW
  cases hg : o.guard with
  | none =>
    rw [hg] at hW
    simp only [Region.wanted, hg, if_true]
    exact yield_left hyl he hW he hN hh (Ext.refl _ _) hn
  | some jw =>
    obtain ⟨j, want⟩ := jw
    rw [hg] at hW
    simp only [] at hW
    cases hd : (ops[j]?).bind (·.dst) with
    | none => rw [hd] at hW; exact hW.elim
    | some d =>
      rw [hd] at hW
      simp only [] at hW
      have hed := he d
      simp only [Region.wanted, hg]
      split at hW
      · rename_i b eb
        rw [eb] at hed
        have hed' : a.tmps.getD d undef = .bool b := hed
        have hy : yielded ops a.tmps j = some b := by
          unfold yielded
          simp only [hd, Option.bind_some, getD_some hed' (by intro h; cases h)]
        have he' : EnvR ρ (st.set d (.val (.bool b))) a.tmps := he.setBool hed'
        cases b <;> cases want <;> simp only [cond_true, cond_false] at hW
        · rw [hy, if_pos (by decide)]; exact yield_left hyl he hW he' hN (hh.set _ _) (Ext.set _ _ _ _) hn
        · rw [hy, if_neg (by decide)]; exact hn _ _ (skip_left hW he' hN (hh.set _ _) (Ext.set _ _ _ _))
        · rw [hy, if_neg (by decide)]; exact hn _ _ (skip_left hW he' hN (hh.set _ _) (Ext.set _ _ _ _))
        · rw [hy, if_pos (by decide)]; exact yield_left hyl he hW he' hN (hh.set _ _) (Ext.set _ _ _ _) hn
      · rename_i vs eb
        rw [eb] at hed
        have hed' : a.tmps.getD d undef = .tuple vs := hed
        have hy : yielded ops a.tmps j = none := by
          unfold yielded
          simp only [hd, Option.bind_some]
          rw [Array.getD_eq_getD_getElem?] at hed'
          cases e : a.tmps[d]? with
          | none => rfl
          | some x => rw [e] at hed'; simp at hed'; rw [hed']
        rw [hy, if_neg (by cases want <;> decide)]
        exact hn _ _ (skip_left hW he hN hh (Ext.refl _ _))
      · exact hW.elim
theorem opsW_sound {r : Option Nat} {n : Nat} {ops : Array Oper} {Q : Exit → Act → World → Prop} : ∀ (l : List Oper) {st : St} {h : Hp} {K : St → Hp → Prop} {a : Act} {w : World} {ρ : Nat → Nat},
    (r = none ∨ l.all notDefer = true) → opsW P H ops l st h K → EnvR ρ st a.tmps → a.tmps.size = H.N → HeapR w0 h0 ρ st h w → (∀ a' w', Left P H w0 h0 ρ st a (opsAsg l) K a' w' → Q .normal a' w') → wpListIn (FR r) n P ops Q l a w
  | [], st, h, K, a, w, ρ, _, hW, he, hN, hh, hn => hn _ _ ⟨⟨st, h, ρ, hW, he, hh, Ext.refl _ _⟩, rfl, rfl, fun _ _ => rfl⟩
  | o :: l, st, h, K, a, w, ρ, hd, hW, he, hN, hh, hn => by
    have hd1 : r = none ∨ ∀ c, o.op ≠ .defer c := hd.imp id fun h => notDefer_spec (Bool.and_eq_true_iff.1 (by rw [List.all_cons] at h; exact h)).1
    have hd2 : r = none ∨ l.all notDefer = true := hd.imp id fun h => (Bool.and_eq_true_iff.1 (by rw [List.all_cons] at h; exact h)).2
    have next : ∀ a1 w1, Left P H w0 h0 ρ st a (dstIs o) (fun st' h' => opsW P H ops l st' h' K) a1 w1 → wpListIn (FR r) n P ops Q l a1 w1 := by
      rintro a1 w1 ⟨⟨st1, h1, ρ1, hW1, he1, hh1, hx1⟩, hs1, hd1', hf1⟩
      refine opsW_sound l hd2 hW1 he1 (hs1.trans hN) hh1 fun a2 w2 ⟨⟨st2, h2, ρ2, hK2, he2, hh2, hx2⟩, hs2, hd2', hf2⟩ => hn _ _ ⟨⟨st2, h2, ρ2, hK2, he2, hh2, hx1.trans hx2⟩, hs2.trans hs1, hd2'.trans hd1', fun t ht => ?_⟩
      have ht' : (dstIs o t || opsAsg l t) = false := ht
      obtain ⟨t1, t2⟩ := Bool.or_eq_false_iff.1 ht'
      rw [hf2 t t2, hf1 t t1]
    unfold wpListIn
    unfold opsW at hW
    split at hW
    · have := opG_sound (Q := Q) False hW he hN hh hh.holds next
      split
      · rename_i hw
        rw [if_pos hw] at this
        exact wp_fr hd1 (this.resolve_right id)
      · rename_i hw
        rw [if_neg hw] at this
        exact ⟨fun _ _ => trivial, this⟩
    · rename_i yl xs hyl
      have := opGY_sound (r := r) (n := n) (Q := Q) (isYieldH_some hyl) hW he hN hh next
      split
      · rename_i hw
        rw [if_pos hw] at this
        exact this
      · rename_i hw
        rw [if_neg hw] at this
        exact ⟨fun _ _ => trivial, this⟩
end
theorem any_fr {r : Option Nat} {n : Nat} {P : Program} {ops : Array Oper} {Q : Exit → Act → World → Prop} {md : Region.Mode} (hq : ¬ LetsOut Q) (hd : r = none ∨ ops.toList.all notDefer = true) : ∀ (fuel : Nat) (L : Array Bool) (a : Act) (w : World), wpAny P md ops Q fuel L a w → wpAnyIn (FR r) n P md ops Q fuel L a w
  | 0, _, _, _, h => h
  | fuel + 1, L, a, w, h => ⟨h.1, fun i hi => by
    have h := h.2 i hi
    unfold wpOp at h
    unfold wpOpIn
    split
    · rename_i e
      rw [e] at h
      exact any_fr hq hd fuel _ a w h
    · rename_i o e
      rw [e] at h
      simp only [] at h
      have hd1 : r = none ∨ ∀ c, o.op ≠ .defer c := hd.imp id fun h => notDefer_spec (List.all_eq_true.1 h o (Array.mem_toList_iff.2 (Array.mem_of_getElem? e)))
      split
      · rename_i hw
        rw [if_pos hw] at h
        rcases h with h | h
        · exact wp_fr hd1 (Oper.wp_mono (fun a w => any_fr hq hd fuel _ a w) h)
        · exact absurd h.2 hq
      · rename_i hw
        rw [if_neg hw] at h
        exact ⟨fun _ _ => trivial, any_fr hq hd fuel _ _ w h⟩⟩
theorem wpIn_loop_rel {F : Fence} {n : Nat} {P : Program} {Q : Exit → Act → World → Prop} {c : Code} (I : Nat → Act → World → Prop) {a : Act} {w : World} {m : Nat} (h₀ : I m a w)
    (round : ∀ m a w, I m a w → c.wpIn F n P (Exit.then (fun a' w' => ∃ m', m' < m ∧ I m' a' w') Q) a w) : (Code.loop c).wpIn F n P Q a w := by
  intro b k cs hro hb hr
  have key : ∀ m a w, I m a w → ∃ e a' w', Q e a' w' ∧ ArrivesIn (Machine.fenced P F) P (lone (b.atR a (.code c :: .inLoop c :: k)) cs w) b k cs e a' w' := by
    intro m
    induction m using Nat.strongRecOn with
    | _ m ih =>
      intro a w hI
      obtain ⟨e, a₁, w₁, hq, harr⟩ := round m a w hI b (.inLoop c :: k) cs hro hb hr
      cases e with
      | normal =>
        obtain ⟨m', hlt, hI₁⟩ := hq
        obtain ⟨e₂, a₂, w₂, hq₂, harr₂⟩ := ih m' hlt a₁ w₁ hI₁
        exact ⟨e₂, a₂, w₂, hq₂, .of_steps (StepsIn.trans harr (.one (fenced_calm hb hr rfl) stepR_inLoop)) harr₂⟩
      | exit id => exact ⟨_, a₁, w₁, hq, .pass (x := .inLoop c) rfl (fun _ _ => .inl (by simp)) harr⟩
      | goto l => exact ⟨_, a₁, w₁, hq, .pass (x := .inLoop c) rfl (fun _ _ => .inl (by simp)) harr⟩
      | ret => exact ⟨_, a₁, w₁, hq, .pass (x := .inLoop c) rfl (fun _ _ => .inl (by simp)) harr⟩
      | panic ch => exact ⟨_, a₁, w₁, hq, .pass (x := .inLoop c) rfl (fun _ _ => .inl (by simp)) harr⟩
      | outgrown => exact ⟨_, a₁, w₁, hq, .pass (x := .inLoop c) rfl (fun _ _ => .inl (by simp)) harr⟩
  obtain ⟨e, a', w', hq, harr⟩ := key m a w h₀
  exact ⟨e, a', w', hq, .of_steps (.one (fenced_calm hb hr rfl) stepR_loop) harr⟩

def Ex.to : Ex → Exit
  | .normal => .normal
  | .exit i => .exit i
  | .ret => .ret
def markD (D : Nat) : Deferred := { target := .collected D, args := #[] }
structure ExtD (a' : Act) (ρ ρ' : Nat → Nat) (st st' : St) : Prop where
  n : st.n ≤ st'.n
  rho : ∀ l, l < st.n → ρ' l = ρ l
  ver : ∀ l, l < st.n → st.ver l ≤ st'.ver l ∧ (st'.ver l = st.ver l → st'.L l = st.L l)
  marks : ∃ l, st'.marks = l ++ st.marks
  defers : a'.defers = st'.marks.map markD
theorem Ext.toD {a' : Act} {ρ ρ' : Nat → Nat} {st st' : St} (x : Ext ρ ρ' st st') (hd : a'.defers = st.marks.map markD) : ExtD a' ρ ρ' st st' := ⟨x.n, x.rho, x.ver, ⟨[], x.marks⟩, by rw [hd, x.marks]⟩
theorem ExtD.trans {a1 a2 : Act} {ρ ρ' ρ'' : Nat → Nat} {a b c : St} (x : ExtD a1 ρ ρ' a b) (y : ExtD a2 ρ' ρ'' b c) : ExtD a2 ρ ρ'' a c := by
  refine ⟨Nat.le_trans x.n y.n, fun l hl => by rw [y.rho l (Nat.lt_of_lt_of_le hl x.n), x.rho l hl], fun l hl => ?_, ?_, y.defers⟩
  · have h1 := x.ver l hl
    have h2 := y.ver l (Nat.lt_of_lt_of_le hl x.n)
    refine ⟨Nat.le_trans h1.1 h2.1, fun e => ?_⟩
    have e1 : b.ver l = a.ver l := by omega
    have e2 : c.ver l = b.ver l := by omega
    rw [h2.2 e2, h1.2 e1]
  · obtain ⟨l, hl⟩ := x.marks
    obtain ⟨m, hm⟩ := y.marks
    exact ⟨m ++ l, by rw [hm, hl, List.append_assoc]⟩
theorem ExtD.same {a' : Act} {ρ ρ' : Nat → Nat} {st st' : St} (x : ExtD a' ρ ρ' st st') (h : st'.marks.length = st.marks.length) : a'.defers = st.marks.map markD := by
  obtain ⟨l, hl⟩ := x.marks
  have : l = [] := by rw [hl, List.length_append] at h; exact List.eq_nil_of_length_eq_zero (by omega)
  rw [x.defers, hl, this]; rfl
section
variable {P : Program} {H : Hints}

structure Post (H : Hints) (w0 : World) (h0 : Hp) (ρ : Nat → Nat) (st : St) (a : Act) (C : Nat → Bool) (K : Ex → St → Hp → Prop) (e : Exit) (a' : Act) (w' : World) : Prop where
  ex : ∃ x st' h' ρ', x.to = e ∧ K x st' h' ∧ EnvR ρ' st' a'.tmps ∧ HeapR w0 h0 ρ' st' h' w' ∧ ExtD a' ρ ρ' st st'
  size : a'.tmps.size = H.N
  frame : ∀ t, C t = false → a'.tmps[t]? = a.tmps[t]?
theorem carried_rel {w0 : World} {h0 : Hp} {ks : List Cv} {st sb st' st1 : St} {ρ ρ' : Nat → Nat} {a a' : Act} {h : Hp} {w' : World} {c : Code}
    (hc : Carried ks (st.head c) st' st1) (he : EnvR ρ st a.tmps) (he' : EnvR ρ' st' a'.tmps) (hh' : HeapR w0 h0 ρ' st' h w') (hst : ∀ l, st.n ≤ l → st.L l = none)
    (_ : st.n ≤ st'.n) (hr : ∀ l, l < st.n → ρ' l = ρ l) (hf : ∀ t, c.asg t = false → a'.tmps[t]? = a.tmps[t]?) (hl : lblOk ks st.n = true)
    (hT : ∀ l, carries ks l = true → st'.cellT l = st.cellT l) (hL : ∀ l, l < st.n → carries ks l = false → st'.L l = st.L l) (_ : sb = sb) :
    EnvR ρ' st1 a'.tmps ∧ HeapR w0 h0 ρ' st1 h w' ∧ Ext ρ ρ' st st1 ∧ st1.n = st.n ∧ (∀ l, st1.cellT l = st.cellT l) ∧ (∀ l, carries ks l = false → st1.L l = st.L l) := by
  have hn1 : st1.n = st.n := hc.n
  have key : ∀ l x, st1.L l = some x → st'.L l = some x := by
    intro l x e
    cases ec : carries ks l with
    | true =>
      obtain ⟨cs, T, h1, h2⟩ := hc.yes l ec
      rw [h2] at e
      have hT' := hT l ec
      have : st'.cellT l = T := by simp [St.cellT, h1]
      have h3 : (st.head c).cellT l = st.cellT l := rfl
      rw [h3, ← hT', this] at e
      rw [h1]; exact e
    | false =>
      have h1 := hc.no l ec
      have h2 : (st.head c).L l = st.L l := rfl
      rw [h1, h2] at e
      rcases Nat.lt_or_ge l st.n with hlt | hge
      · rw [hL l hlt ec]; exact e
      · rw [hst l hge] at e; cases e
  refine ⟨fun t => ?_, ⟨hh'.holds, hh'.kept, fun l cs T e => hh'.loc l cs T (key l _ e), fun l m x y e1 e2 e3 => hh'.inj l m x y (key l _ e1) (key m _ e2) e3, fun l hl' => ?_⟩, ⟨by omega, hr, fun l hl' => ⟨?_, fun e => ?_⟩, hc.marks⟩, hn1, fun l => ?_, fun l e => hc.no l e⟩
  · rcases hc.e t with e | ⟨v, e, ev⟩
    · rw [e]
      simp only [St.head]
      cases ea : c.asg t with
      | true => exact trivial
      | false =>
        simp only [cond_false]
        have h1 := he t
        rw [Array.getD_eq_getD_getElem?] at h1 ⊢
        rw [hf t ea]
        exact h1.mono (by omega) hr
    · rw [e]
      exact (he' t).toV ev
  · rw [hn1] at hl'
    cases e : st1.L l with
    | none => rfl
    | some x =>
      cases ec : carries ks l with
      | true => have := lblOk_spec hl ec; omega
      | false =>
        have h1 := hc.no l ec
        have h2 : (st.head c).L l = st.L l := rfl
        rw [h1, h2, hst l hl'] at e; cases e
  · exact hc.ver l
  · cases ec : carries ks l with
    | true =>
      have h1 := hc.verY l ec
      have h2 : (st.head c).ver l = st.ver l := rfl
      omega
    | false => exact hc.no l ec
  · cases ec : carries ks l with
    | true =>
      obtain ⟨cs, T, h1, h2⟩ := hc.yes l ec
      simp only [St.cellT, h2]; rfl
    | false => simp only [St.cellT, hc.no l ec]; rfl

def rangeG (h : Hp) (D l : Nat) (rec : Loop) : Hp := (h.upd D (.deferred (some []))).upd l (.loop rec)
theorem rangeG_get {h : Hp} {D l : Nat} {rec : Loop} (c : Nat) : rangeG h D l rec c = if c = l then some (.loop rec) else if c = D then some (.deferred (some [])) else h c := by
  unfold rangeG Hp.upd
  split <;> rfl
theorem params_env {N : Nat} {ρ : Nat → Nat} : ∀ {ps : List Nat} {vs : List Value} {st : St} {tmps : Array Value}, EnvR ρ st tmps → tmps.size = N → ps.length = vs.length →
    EnvR ρ (st.params N ps vs) ((ps.zip vs).foldl (fun t (x : Nat × Value) => t.setIfInBounds x.1 x.2) tmps) ∧ ((ps.zip vs).foldl (fun t (x : Nat × Value) => t.setIfInBounds x.1 x.2) tmps).size = N ∧ (st.params N ps vs).L = st.L ∧ (st.params N ps vs).n = st.n ∧ (st.params N ps vs).marks = st.marks ∧ (st.params N ps vs).ver = st.ver
  | [], vs, st, tmps, he, hN, _ => by
    have : st.params N [] vs = st := by unfold St.params; rfl
    rw [this]; exact ⟨he, hN, rfl, rfl, rfl, rfl⟩
  | p :: ps, [], st, tmps, _, _, hl => by simp at hl
  | p :: ps, v :: vs, st, tmps, he, hN, hl => by
    have h1 : EnvR ρ (st.put N (some p) (.val v)) (tmps.setIfInBounds p v) := by
      intro t
      have h0 := he t
      rw [Array.getD_eq_getD_getElem?] at h0 ⊢
      rw [Array.getElem?_setIfInBounds]
      unfold St.put
      simp only [St.set]
      by_cases e : p = t
      · subst e
        rw [nbeq_self]
        simp only [cond_true]
        cases hb : Nat.blt p N with
        | true =>
          have hb : p < tmps.size := by rw [hN]; exact Nat.le_of_ble_eq_true hb
          simp [hb, SVr]
        | false => exact trivial
      · rw [if_neg e, nbeq_ne (Ne.symm e)]; exact h0
    have := params_env (ps := ps) (vs := vs) h1 (by simpa using hN) (by simpa using hl)
    exact this
theorem exL_length : ∀ {ts : List Vt} {F : List Value → Prop}, Vt.exL ts F → ∃ vs, vs.length = ts.length ∧ F vs
  | [], F, h => ⟨[], rfl, by simpa [Vt.exL] using h⟩
  | t :: ts, F, h => by
    simp only [Vt.exL] at h
    obtain ⟨v, h⟩ := Vt.ex_spec h
    obtain ⟨vs, e, h⟩ := exL_length h
    exact ⟨v :: vs, by simp [e], h⟩
theorem Kd.univ_spec {k : Kd} {F G : Value → Prop} (h1 : k.univ F) (h2 : k.ex G) : ∃ v, F v ∧ G v := by
  cases k <;> simp only [Kd.univ, Kd.ex] at h1 h2
  case slice => obtain ⟨a, l, c, h⟩ := h2; exact ⟨_, h1 a l c, h⟩
  all_goals (obtain ⟨x, h⟩ := h2; exact ⟨_, h1 x, h⟩)
theorem kdsUniv_spec : ∀ {ks : List Kd} {F G : List Value → Prop}, kdsUniv ks F → kdsEx ks G → ∃ vs, F vs ∧ G vs
  | [], _, _, h1, h2 => ⟨[], h1, h2⟩
  | _ :: _, _, _, h1, h2 => by
    obtain ⟨v, h1, h2⟩ := Kd.univ_spec h1 h2
    obtain ⟨vs, h1, h2⟩ := kdsUniv_spec h1 h2
    exact ⟨_, h1, h2⟩
theorem Vt.univ_spec : ∀ {t : Vt} {F G : Value → Prop}, t.univ F → t.ex G → ∃ v, F v ∧ G v
  | .one k, F, G, h1, h2 => Kd.univ_spec (k := k) h1 (by simpa [Vt.ex] using h2)
  | .agg ks, F, G, h1, h2 => by
    simp only [Vt.ex] at h2
    obtain ⟨vs, h1, h2⟩ := kdsUniv_spec h1 h2
    exact ⟨_, h1, h2⟩
  | .big n k, F, G, h1, h2 => by
    simp only [Vt.ex] at h2
    obtain ⟨ns, e, h2⟩ := h2
    exact ⟨_, h1 ns e, h2⟩
  | .blob n, F, G, h1, h2 => by
    simp only [Vt.ex] at h2
    obtain ⟨ns, e, h2⟩ := h2
    exact ⟨_, h1 ns e, h2⟩
  | .tup l, F, G, h1, h2 => by
    obtain ⟨v, h2⟩ := Vt.ex_spec h2
    exact ⟨v, h1 v, h2⟩
theorem Vt.univL_spec : ∀ {ts : List Vt} {F G : List Value → Prop}, Vt.univL ts F → Vt.exL ts G → ∃ vs, F vs ∧ G vs
  | [], F, G, h1, h2 => ⟨[], h1, by simpa [Vt.exL] using h2⟩
  | t :: ts, F, G, h1, h2 => by
    simp only [Vt.exL] at h2
    obtain ⟨v, h1, h2⟩ := Vt.univ_spec h1 h2
    obtain ⟨vs, h1, h2⟩ := Vt.univL_spec h1 h2
    exact ⟨_, h1, h2⟩
theorem exW_spec : ∀ {l : List Nat} {F : Nat → Prop}, exW l F → ∀ i ∈ l, F i
  | _ :: _, F, h, i, hi => by
    rcases List.mem_cons.1 hi with rfl | hi
    · exact h.1
    · exact exW_spec h.2 i hi
def jumpOf : Nat → Code
  | 0 => .ret
  | i + 1 => .exit i
end
end Go.Gx
namespace Go.Gx
section
variable {P : Program} {H : Hints}
theorem range_sound {g : Operand} {ps : Array Tmp} {x y : Code}
    (ihx : ∀ {w0 : World} {h0 : Hp} {r : Option Nat} {n : Nat} {st : St} {h : Hp} {K : Ex → St → Hp → Prop} {a : Act} {w : World} {ρ : Nat → Nat}, (r = none ∨ x.calm = true) → W P H x st h K → EnvR ρ st a.tmps → a.tmps.size = H.N → a.defers = st.marks.map markD → HeapR w0 h0 ρ st h w → x.wpIn (FR r) n P (Post H w0 h0 ρ st a x.asg K) a w)
    (ihy : ∀ {w0 : World} {h0 : Hp} {r : Option Nat} {n : Nat} {st : St} {h : Hp} {K : Ex → St → Hp → Prop} {a : Act} {w : World} {ρ : Nat → Nat}, (r = none ∨ y.calm = true) → W P H y st h K → EnvR ρ st a.tmps → a.tmps.size = H.N → a.defers = st.marks.map markD → HeapR w0 h0 ρ st h w → y.wpIn (FR r) n P (Post H w0 h0 ρ st a y.asg K) a w) :
    ∀ {w0 : World} {h0 : Hp} {r : Option Nat} {n : Nat} {st : St} {h : Hp} {K : Ex → St → Hp → Prop} {a : Act} {w : World} {ρ : Nat → Nat},
    (r = none ∨ (Code.rangeFunc g ps x y).calm = true) → W P H (.rangeFunc g ps x y) st h K → EnvR ρ st a.tmps → a.tmps.size = H.N → a.defers = st.marks.map markD → HeapR w0 h0 ρ st h w → (Code.rangeFunc g ps x y).wpIn (FR r) n P (Post H w0 h0 ρ st a (Code.asg (.rangeFunc g ps x y)) K) a w := by
  intro w0 h0 r n st h K a w ρ hr hW he hN hd hh
  have hr : r = none := by
    rcases hr with h | h
    · exact h
    · cases h
  subst hr
  unfold W at hW
  cases e0 : (x.calm && y.calm && Nat.beq st.n 0) with
  | false => rw [e0] at hW; exact hW.elim
  | true =>
  rw [e0] at hW
  simp only [Bool.not_true, cond_false] at hW
  obtain ⟨e1, e2⟩ := Bool.and_eq_true_iff.1 e0
  obtain ⟨cx, cy⟩ := Bool.and_eq_true_iff.1 e1
  have hn0 : st.n = 0 := Nat.eq_of_beq_eq_true e2
  have hL : ∀ l, st.L l = none := fun l => hh.top l (by omega)
  have hW : ∃ gf lb, a.eval g = .func (.func gf) #[] lb ∧ rangeB P gf lb.toList ps H.N y.exits (fun st h K => W P H x st h K) (fun st h K => W P H y st h K) st h K := by
    cases ei : Nat.beq H.iter 0 with
    | true =>
      rw [ei] at hW
      simp only [cond_true] at hW
      split at hW
      · rename_i gf fst lb eg
        cases e6 : fst.isEmpty with
        | false => rw [e6] at hW; exact hW.elim
        | true =>
          rw [e6] at hW
          have hfst : fst = #[] := by simpa using e6
          subst hfst
          exact ⟨gf, lb, ev_val he eg, hW⟩
      · exact hW.elim
    | false =>
      rw [ei] at hW
      simp only [cond_false] at hW
      obtain ⟨lb, e8, hW⟩ := evV_spec he hW
      exact ⟨H.iter, lb.toArray, e8, hW⟩
  obtain ⟨gf, lb, hg, hW⟩ := hW
  · unfold rangeB at hW
    cases e3 : (funcOk P gf && Nat.beq (yieldVts P gf).length ps.size) with
    | false => rw [e3] at hW; exact hW.elim
    | true =>
    rw [e3] at hW
    simp only [Bool.not_true, cond_false] at hW
    obtain ⟨e7, e5⟩ := Bool.and_eq_true_iff.1 e3
    have hps : (yieldVts P gf).length = ps.size := Nat.eq_of_beq_eq_true e5
    obtain ⟨X, E, Pre, J, Jx, hI, hPre, hJP, hJ0, hX, hR, hE, hRet, hEx⟩ := hW
    refine wpIn_rangeFunc ?_
    intro fn hfn
    obtain ⟨D, hDe⟩ : ∃ D, D = w.heap.size := ⟨_, rfl⟩
    obtain ⟨l, hle⟩ : ∃ l, l = D + 1 := ⟨_, rfl⟩
    have hDl : D ≠ l := by omega
    obtain ⟨rec, hrec⟩ : ∃ rec : LoopState → Option Code → Loop, rec = fun st pe => { state := st, pending := pe, fn, tmps := a.tmps, params := ps, assign := x, body := y, defers := D } := ⟨_, rfl⟩
    obtain ⟨W1, hW1⟩ : ∃ W1, (w.alloc (.deferred (some []))).alloc (.loop (rec .ready none)) = W1 := ⟨_, rfl⟩
    have hL1 : W1.heap[l]? = some (.loop (rec .ready none)) := by
      rw [← hW1, hle, hDe]; have := World.alloc_heap_new (w.alloc (.deferred (some []))) (.loop (rec .ready none)); rwa [World.size_alloc] at this
    have hK1 : W1.heap[D]? = some (.deferred (some [])) := by
      rw [← hW1, hDe]; exact (Go.RowKit.Below.heap_alloc _ _ _ (by simp)).trans (World.alloc_heap_new w _)
    have hb1 : Go.RowKit.Below w.heap.size w W1 := by
      rw [← hW1]; exact ((Go.RowKit.Below.refl _ w).alloc (Nat.le_refl _) _).alloc (by simp) _
    have hhD : h D = none := hh.holds.fresh (by omega)
    have hhl : h l = none := hh.holds.fresh (by omega)
    have hvs : ∀ k vs, X k vs → vs.length = ps.size := fun k vs hx => by
      obtain ⟨us, h1, h2⟩ := exL_length (hX k vs hx)
      rw [h2, h1, hps]
    have hput : ∀ (W : World) (o : Obj) (b : Nat), b ≠ l → (W.putObj l o).heap[b]? = W.heap[b]? := fun W o b hb => World.putObj_heap_other hb
    refine ⟨l, [markD D], W1, { target := .fn (.func gf) lb, args := #[.func (.yield l) #[] #[]] }, W1, gf, #[.func (.yield l) #[] #[]] ++ lb, W1, ?_, ?_, fun _ _ => trivial, ?_, (fun h => by cases h), ?_⟩
    · rw [← hW1, hrec, hle, hDe]; exact run_enterLoop_outer _ _ _ _ _
    · simp only [resolve, hg]
      simp [go_sem]
    · have := run_callFunc e7 (#[.func (.yield l) #[] #[]] ++ lb) W1
      simp [invoke, go_sem, this]
    · have e8 : #[Value.func (.yield l) #[] #[]] ++ lb = (Value.func (.yield l) #[] #[] :: lb.toList).toArray := by
        apply Array.toList_inj.1; simp
      rw [e8]
      -- a round
      have hyield : ∀ k vs g, (∃ h1, J k h1 ∧ h1 D = none ∧ h1 l = none ∧ g = rangeG h1 D l (rec .ready none)) → X k vs → YieldH P l vs g fun v g' => (v = .bool true ∧ ∃ h1, J (k + 1) h1 ∧ h1 D = none ∧ h1 l = none ∧ g' = rangeG h1 D l (rec .ready none)) ∨
          (v = .bool false ∧ ∃ c h1, Jx c h1 ∧ (c = 0 ∨ ∃ i ∈ y.exits, c = i + 1) ∧ h1 D = none ∧ h1 l = none ∧ g' = rangeG h1 D l (rec .done (some (jumpOf c)))) := by
        rintro k vs g ⟨h1, hJ, h1D, h1l, rfl⟩ hx W hW
        have gl : ∀ c, c ≠ l → c ≠ D → rangeG h1 D l (rec .ready none) c = h1 c := fun c a b => by rw [rangeG_get, if_neg a, if_neg b]
        have hrl : W.heap[l]? = some (.loop (rec .ready none)) := hW l _ (by rw [rangeG_get, if_pos rfl])
        have hrD : W.heap[D]? = some (.deferred (some [])) := hW D _ (by rw [rangeG_get, if_neg hDl, if_pos rfl])
        have hll : l < W.heap.size := (Array.getElem?_eq_some_iff.1 hrl).1
        have hh1 : Holds h1 W := fun b o hb => hW b o (by rw [gl b (fun e => by rw [e, h1l] at hb; cases hb) (fun e => by rw [e, h1D] at hb; cases hb)]; exact hb)
        have hlen := hvs k vs hx
        obtain ⟨us, hWr, rfl⟩ := Vt.univL_spec (hR k) (hX k vs hx)
        have hWr := hWr hx h1 hJ
        obtain ⟨p1, p2, p3, p4, p5, p6⟩ := params_env (N := H.N) (ρ := ρ) (ps := ps.toList) (vs := vs) (st := { st with marks := [] }) (tmps := a.tmps) (fun t => he t) hN (by simpa using hlen.symm)
        have hfold : (ps.zip vs.toArray).foldl (fun t (x : Nat × Value) => t.setIfInBounds x.1 x.2) a.tmps = (ps.toList.zip vs).foldl (fun t (x : Nat × Value) => t.setIfInBounds x.1 x.2) a.tmps := by
          rw [← Array.foldl_toList, Array.toList_zip]
        have hy := run_yield (P := P) (args := vs.toArray) hrl (by rw [hrec]; simpa using hlen)
        rw [hrec] at hy
        refine ⟨fn, _, x, y, hy, roundIn_of_wpIn (F := Fence.wide) trivial ?_⟩
        have hHR : HeapR W h1 ρ (({ st with marks := [] } : St).params H.N ps.toList vs) h1 W := ⟨hh1, Kept.refl h1 W, (fun m cs t e => by rw [p3] at e; rw [show ({ st with marks := [] } : St).L m = none from hL m] at e; cases e), (fun m q u v e => by rw [p3] at e; rw [show ({ st with marks := [] } : St).L m = none from hL m] at e; cases e), (fun m _ => by rw [p3]; exact hL m)⟩
        refine wpIn_mono (ihx (w0 := W) (h0 := h1) (r := some l) (.inr cx) hWr (by rw [← hfold] at p1; exact p1) (by rw [← hfold] at p2; exact p2) (by rw [p5]; rfl) hHR) ?_
        rintro e a1 w1 ⟨⟨x0, st1, h2, ρ1, ee, k1, g1, g2, g3⟩, s1, s3⟩
        subst ee
        cases x0 with
        | exit i => exact k1.elim
        | ret => exact k1.elim
        | normal =>
        obtain ⟨hrl1, h2l⟩ := g2.kept.block l _ hrl h1l
        refine ⟨_, run_beginRound hrl1 (by rw [hrec]), ?_⟩
        have hll1 : l < w1.heap.size := (Array.getElem?_eq_some_iff.1 hrl1).1
        have hb1 : (W.putObj l (.loop { rec .ready none with state := .busy })).heap[l]? = some (.loop { rec .ready none with state := .busy }) := World.putObj_heap_same hll
        have hKept2 : Kept h1 (W.putObj l (.loop { rec .ready none with state := .busy })) h2 (w1.putObj l (.loop { rec .ready none with state := .busy })) := by
          refine ⟨g2.kept.os, g2.kept.tape, g2.kept.output, by simpa using g2.kept.size, fun b o hb hn => ?_⟩
          by_cases hbl : b = l
          · subst hbl
            rw [hb1] at hb
            cases hb
            exact ⟨World.putObj_heap_same hll1, h2l⟩
          · rw [hput _ _ _ hbl] at hb ⊢
            exact g2.kept.block b o hb hn
        have hHR2 : HeapR (W.putObj l (.loop { rec .ready none with state := .busy })) h1 ρ1 st1 h2 (w1.putObj l (.loop { rec .ready none with state := .busy })) := by
          refine ⟨fun b o hb => ?_, hKept2, fun m cs t e => ?_, g2.inj, g2.top⟩
          · rw [hput _ _ _ (fun e => by rw [e, h2l] at hb; cases hb)]; exact g2.holds b o hb
          · obtain ⟨q1, q2, q3⟩ := g2.loc m cs t e
            have hml : ρ1 m ≠ l := fun e' => q3 _ (by rw [e']; exact hrl) (by rw [e']; exact h1l)
            exact ⟨by rw [hput _ _ _ hml]; exact q1, q2, fun o ho => q3 o (by rw [hput _ _ _ hml] at ho; exact ho)⟩
        refine wpIn_mono (ihy (w0 := _) (h0 := h1) (r := some l) (.inr cy) k1 g1 s1 g3.defers hHR2) ?_
        rintro e a2 w3 ⟨⟨x0, st2, h3, ρ2, ee, k2, f1, f2, f3⟩, t1, t3⟩
        subst ee
        obtain ⟨hrl3, h3l⟩ := f2.kept.block l _ hb1 h1l
        obtain ⟨hrD3, h3D⟩ := f2.kept.block D _ (by rw [hput _ _ _ hDl]; exact hrD) h1D
        have hll3 : l < w3.heap.size := (Array.getElem?_eq_some_iff.1 hrl3).1
        have fin : ∀ (jump : Option Code) (rc : Loop), rc = { rec .ready none with state := if jump.isNone then .ready else .done, pending := jump } → ∀ QQ : Value → Hp → Prop, QQ (.bool jump.isNone) (rangeG h3 D l rc) →
            ∃ v w', (Instr.endRound l jump).run P w3 = .ok v w' ∧ ∃ v' h', Ending.returned v = .returned v' ∧ QQ v' h' ∧ Holds h' w' ∧ Kept (rangeG h1 D l (rec .ready none)) W h' w' := by
          intro jump rc hrc QQ hQ
          refine ⟨_, _, run_endRound jump hrl3, _, _, rfl, hQ, fun c o hc => ?_, ⟨f2.kept.os, f2.kept.tape, f2.kept.output, by have := f2.kept.size; simpa using this, fun b o hb hn => ?_⟩⟩
          · rw [rangeG_get] at hc
            by_cases hcl : c = l
            · rw [if_pos hcl] at hc
              cases hc
              rw [hcl, World.putObj_heap_same hll3, hrc]
            · rw [if_neg hcl] at hc
              rw [hput _ _ _ hcl]
              by_cases hcD : c = D
              · rw [if_pos hcD] at hc
                cases hc
                rw [hcD]; exact hrD3
              · rw [if_neg hcD] at hc
                exact f2.holds c o hc
          · rw [rangeG_get] at hn ⊢
            by_cases hbl : b = l
            · rw [if_pos hbl] at hn; cases hn
            · rw [if_neg hbl] at hn ⊢
              by_cases hbD : b = D
              · rw [if_pos hbD] at hn; cases hn
              · rw [if_neg hbD] at hn ⊢
                rw [hput _ _ _ hbl]
                exact f2.kept.block b o (by rw [hput _ _ _ hbl]; exact hb) hn
        cases x0 with
        | normal => exact fin none (rec .ready none) (by rw [hrec]; rfl) _ (.inl ⟨rfl, h3, k2, h3D, h3l, rfl⟩)
        | ret => exact fin (some .ret) (rec .done (some .ret)) (by rw [hrec]; rfl) _ (.inr ⟨rfl, 0, h3, k2, .inl rfl, h3D, h3l, rfl⟩)
        | exit i =>
          simp only [] at k2
          cases ei : y.exits.any (Nat.beq i) with
          | false => rw [ei] at k2; exact k2.elim
          | true =>
            rw [ei] at k2
            obtain ⟨i', hi', hb⟩ := List.any_eq_true.1 ei
            rw [← Nat.eq_of_beq_eq_true hb] at hi'
            exact fin (some (.exit i)) (rec .done (some (.exit i))) (by rw [hrec]; rfl) _ (.inr ⟨rfl, i + 1, h3, k2, .inr ⟨i, hi', rfl⟩, h3D, h3l, rfl⟩)
      have hstab : ∀ h1 (o1 : Obj), h1 D = none → h1 l = none → Pre h1 → ∀ rc, Pre (rangeG h1 D l rc) := fun h1 _ h1D h1l hp rc => by
        unfold rangeG
        refine hPre _ _ _ ?_ (hPre _ _ _ h1D hp)
        rw [Hp.upd_ne _ _ (Ne.symm hDl)]; exact h1l
      have hHolds1 : Holds (rangeG h D l (rec .ready none)) W1 := fun c o hc => by
        rw [rangeG_get] at hc
        by_cases hcl : c = l
        · rw [if_pos hcl] at hc; cases hc; rw [hcl]; exact hL1
        · rw [if_neg hcl] at hc
          by_cases hcD : c = D
          · rw [if_pos hcD] at hc; cases hc; rw [hcD]; exact hK1
          · rw [if_neg hcD] at hc
            have := hh.holds c o hc
            rw [hb1.block c (get_lt this)]; exact this
      refine calls_fr (Calls.mono (hI l (fun k g => ∃ h1, J k h1 ∧ h1 D = none ∧ h1 l = none ∧ g = rangeG h1 D l (rec .ready none)) (fun g => ∃ c h1, Jx c h1 ∧ (c = 0 ∨ ∃ i ∈ y.exits, c = i + 1) ∧ h1 D = none ∧ h1 l = none ∧ g = rangeG h1 D l (rec .done (some (jumpOf c))))
        (fun k g ⟨h1, hJ, h1D, h1l, eg⟩ => by rw [eg]; exact hstab h1 (.deferred none) h1D h1l (hJP k h1 hJ) _) hyield _ ⟨h, hJ0, hhD, hhl, rfl⟩ W1 hHolds1) ?_)
      rintro e W2 ⟨v, g2, rfl, hpost, hg2, hk2⟩
      -- behind it
      have hback : ∀ (h2 : Hp) (rc : Loop), h2 D = none → h2 l = none → g2 = rangeG h2 D l rc → ∀ (o : Obj) (x0 : Ex), K x0 { st with marks := D :: st.marks } (h2.upd D (.deferred (some []))) →
          Post H w0 h0 ρ st a (Code.asg (.rangeFunc g ps x y)) K x0.to { a with defers := [markD D] ++ a.defers } (W2.putObj l o) := by
        intro h2 rc h2D h2l eg2 o x0 hK
        subst eg2
        have g2D : W2.heap[D]? = some (.deferred (some [])) := hg2 D _ (by rw [rangeG_get, if_neg hDl, if_pos rfl])
        refine ⟨⟨x0, { st with marks := D :: st.marks }, _, ρ, rfl, hK, fun t => he t, ⟨fun c o' hc => ?_, hh.kept.trans ⟨?_, ?_, ?_, ?_, fun b o' hb hn => ?_⟩, fun m cs t e' => ?_, fun m q u v e' => ?_, fun m _ => hL m⟩, ⟨Nat.le_refl _, fun _ _ => rfl, fun _ _ => ⟨Nat.le_refl _, fun _ => rfl⟩, ⟨[D], rfl⟩, ?_⟩⟩, hN, fun _ _ => rfl⟩
        · by_cases hcD : c = D
          · rw [hcD, Hp.upd_same] at hc
            cases hc
            rw [hcD, hput _ _ _ hDl]; exact g2D
          · rw [Hp.upd_ne _ _ hcD] at hc
            have hcl : c ≠ l := fun e => by rw [e, h2l] at hc; cases hc
            rw [hput _ _ _ hcl]
            exact hg2 c o' (by rw [rangeG_get, if_neg hcl, if_neg hcD]; exact hc)
        · exact hk2.os.trans hb1.os
        · exact hk2.tape.trans hb1.tape
        · exact hk2.output.trans hb1.output
        · have := Nat.le_trans hb1.size hk2.size
          simpa using this
        · have hbs := get_lt hb
          have hbl : b ≠ l := by omega
          have hbD : b ≠ D := by omega
          obtain ⟨q1, q2⟩ := hk2.block b o' (by rw [hb1.block b hbs]; exact hb) (by rw [rangeG_get, if_neg hbl, if_neg hbD]; exact hn)
          rw [rangeG_get, if_neg hbl, if_neg hbD] at q2
          exact ⟨by rw [hput _ _ _ hbl]; exact q1, by rw [Hp.upd_ne _ _ hbD]; exact q2⟩
        · rw [show ({ st with marks := D :: st.marks } : St).L m = none from hL m] at e'; cases e'
        · rw [show ({ st with marks := D :: st.marks } : St).L m = none from hL m] at e'; cases e'
        · show [markD D] ++ a.defers = (D :: st.marks).map markD
          rw [hd]; rfl
      rcases hpost with ⟨k, hEk, h2, hJ2, h2D, h2l, eg2⟩ | ⟨c, h2, hJ2, hc, h2D, h2l, eg2⟩
      · have hrl2 : W2.heap[l]? = some (.loop (rec .ready none)) := hg2 l _ (by rw [eg2, rangeG_get, if_pos rfl])
        refine ⟨none, _, ?_, hback h2 _ h2D h2l eg2 (.loop { rec .ready none with state := .exhausted }) .normal (hE k h2 hJ2 hEk D h2D)⟩
        have := run_endLoop (P := P) hrl2 (by rw [hrec]; simp)
        rw [hrec] at this ⊢; exact this
      · have hrl2 : W2.heap[l]? = some (.loop (rec .done (some (jumpOf c)))) := hg2 l _ (by rw [eg2, rangeG_get, if_pos rfl])
        refine ⟨some (jumpOf c), W2.putObj l (.loop { rec .done (some (jumpOf c)) with state := .exhausted }), ?_, ?_⟩
        · have := run_endLoop (P := P) hrl2 (by rw [hrec]; simp)
          rw [hrec] at this ⊢; exact this
        · simp only []
          rcases hc with rfl | ⟨i, hi, rfl⟩
          · exact wpIn_ret (hback h2 _ h2D h2l eg2 _ .ret (hRet h2 hJ2 D h2D))
          · exact wpIn_exit (hback h2 _ h2D h2l eg2 _ (.exit i) (exW_spec hEx i hi h2 hJ2 D h2D))
end
end Go.Gx
namespace Go.Gx
section
variable {P : Program} {H : Hints}
theorem W_sound : ∀ (c : Code) {w0 : World} {h0 : Hp} {r : Option Nat} {n : Nat} {st : St} {h : Hp} {K : Ex → St → Hp → Prop} {a : Act} {w : World} {ρ : Nat → Nat},
    (r = none ∨ c.calm = true) → W P H c st h K → EnvR ρ st a.tmps → a.tmps.size = H.N → a.defers = st.marks.map markD → HeapR w0 h0 ρ st h w → c.wpIn (FR r) n P (Post H w0 h0 ρ st a c.asg K) a w := by
  intro c
  induction c with
  | skip => intro w0 h0 r n st h K a w ρ hr hW he hN hd hh; exact wpIn_skip ⟨⟨.normal, st, h, ρ, rfl, hW, he, hh, (Ext.refl _ _).toD hd⟩, hN, fun _ _ => rfl⟩
  | ret => intro w0 h0 r n st h K a w ρ hr hW he hN hd hh; exact wpIn_ret ⟨⟨.ret, st, h, ρ, rfl, hW, he, hh, (Ext.refl _ _).toD hd⟩, hN, fun _ _ => rfl⟩
  | exit id => intro w0 h0 r n st h K a w ρ hr hW he hN hd hh; exact wpIn_exit ⟨⟨.exit id, st, h, ρ, rfl, hW, he, hh, (Ext.refl _ _).toD hd⟩, hN, fun _ _ => rfl⟩
  | region id ops draw =>
    intro w0 h0 r n st h K a w ρ hr hW he hN hd hh
    cases draw with
    | true =>
      obtain ⟨hm, hany⟩ := drawW_sound (K := fun st' h' => K .normal st' h') (id := id) (w := w) (show drawW P H id ops st h _ from hW) he hN hh
      refine wpIn_mono (wpIn_region_any hm (any_fr (fun ⟨_, _, h⟩ => by cases h.1) hr _ _ _ _ hany)) fun e a' w' ⟨ee, ⟨st', h', ρ', k, e1, e2, e3⟩, s1, s2, s3⟩ => ?_
      exact ⟨⟨.normal, st', h', ρ', ee.symm, k, e1, e2, e3.toD (s2.trans hd)⟩, s1.trans hN, s3⟩
    | false =>
      exact wpIn_region_list (opsW_sound ops.toList hr (show opsW P H ops ops.toList st h _ from hW) he hN hh fun a' w' ⟨⟨st', h', ρ', k, e1, e2, e3⟩, s1, s2, s3⟩ => ⟨⟨.normal, st', h', ρ', rfl, k, e1, e2, e3.toD (s2.trans hd)⟩, s1.trans hN, s3⟩)
  | seq x y ihx ihy =>
    intro w0 h0 r n st h K a w ρ hr hW he hN hd hh
    have hrx : r = none ∨ x.calm = true := hr.imp id fun h => (Bool.and_eq_true_iff.1 (show (x.calm && y.calm) = true from h)).1
    have hry : r = none ∨ y.calm = true := hr.imp id fun h => (Bool.and_eq_true_iff.1 (show (x.calm && y.calm) = true from h)).2
    refine wpIn_seq ?_
    have fin : ∀ (e : Exit) (a1 : Act) (w1 : World) (x0 : Ex) (st1 : St) (h1 : Hp) (ρ1 : Nat → Nat), x0 ≠ .normal → x0.to = e → K x0 st1 h1 → EnvR ρ1 st1 a1.tmps → HeapR w0 h0 ρ1 st1 h1 w1 → ExtD a1 ρ ρ1 st st1 → a1.tmps.size = H.N →
        (∀ t, x.asg t = false → a1.tmps[t]? = a.tmps[t]?) → Exit.then (y.wpIn (FR r) n P (Post H w0 h0 ρ st a (Code.asg (.seq x y)) K)) (Post H w0 h0 ρ st a (Code.asg (.seq x y)) K) e a1 w1 := by
      intro e a1 w1 x0 st1 h1 ρ1 hx hxe k e1 e2 e3 s1 s3
      subst hxe
      have post : Post H w0 h0 ρ st a (Code.asg (.seq x y)) K x0.to a1 w1 := ⟨⟨x0, st1, h1, ρ1, rfl, k, e1, e2, e3⟩, s1, fun t ht => s3 t (by
        have : (x.asg t || y.asg t) = false := ht
        exact (Bool.or_eq_false_iff.1 this).1)⟩
      cases x0 with
      | normal => exact absurd rfl hx
      | exit i => exact post
      | ret => exact post
    have go : ∀ (a1 : Act) (w1 : World) (st1 : St) (h1 : Hp) (ρ1 : Nat → Nat), W P H y st1 h1 K → EnvR ρ1 st1 a1.tmps → HeapR w0 h0 ρ1 st1 h1 w1 → ExtD a1 ρ ρ1 st st1 → a1.tmps.size = H.N →
        (∀ t, x.asg t = false → a1.tmps[t]? = a.tmps[t]?) → y.wpIn (FR r) n P (Post H w0 h0 ρ st a (Code.asg (.seq x y)) K) a1 w1 := by
      intro a1 w1 st1 h1 ρ1 hy e1 e2 e3 s1 s3
      refine wpIn_mono (ihy hry hy e1 s1 e3.defers e2) fun e a2 w2 ⟨⟨x0, st2, h2, ρ2, ee, k, g1, g2, g3⟩, r1, r3⟩ => ⟨⟨x0, st2, h2, ρ2, ee, k, g1, g2, e3.trans g3⟩, r1, fun t ht => ?_⟩
      have : (x.asg t || y.asg t) = false := ht
      obtain ⟨t1, t2⟩ := Bool.or_eq_false_iff.1 this
      rw [r3 t t2, s3 t t1]
    unfold W at hW
    split at hW
    · refine wpIn_mono (ihx hrx hW he hN hd hh) fun e a1 w1 ⟨⟨x0, st1, h1, ρ1, ee, k, e1, e2, e3⟩, s1, s3⟩ => ?_
      cases x0 with
      | normal => subst ee; exact go a1 w1 st1 h1 ρ1 k e1 e2 e3 s1 s3
      | exit i => exact fin e a1 w1 (.exit i) st1 h1 ρ1 (by simp) ee k e1 e2 e3 s1 s3
      | ret => exact fin e a1 w1 .ret st1 h1 ρ1 (by simp) ee k e1 e2 e3 s1 s3
    · rename_i ks _
      obtain ⟨J, hJ, hW⟩ := hW
      refine wpIn_mono (ihx hrx hW he hN hd hh) fun e a1 w1 ⟨⟨x0, st1, h1, ρ1, ee, k, e1, e2, e3⟩, s1, s3⟩ => ?_
      cases x0 with
      | exit i => exact fin e a1 w1 (.exit i) st1 h1 ρ1 (by simp) ee k e1 e2 e3 s1 s3
      | ret => exact fin e a1 w1 .ret st1 h1 ρ1 (by simp) ee k e1 e2 e3 s1 s3
      | normal =>
        subst ee
        simp only [] at k
        cases eo : (verOk ks st st1 st.n && lblOk ks st.n) with
        | false => rw [eo] at k; exact k.elim
        | true =>
          rw [eo] at k
          obtain ⟨o1, o2⟩ := Bool.and_eq_true_iff.1 eo
          obtain ⟨st2, j, g1, g2, gc⟩ := carry ks hJ k
          have hv := verOk_spec o1
          obtain ⟨r1, r2, r3, _⟩ := carried_rel (sb := st) gc he e1 e2 hh.top e3.n e3.rho s3 o2 (fun l hl => (hv l (lblOk_spec o2 hl)).1 hl) (fun l hl hc => (e3.ver l hl).2 ((hv l hl).2 hc)) rfl
          exact go a1 w1 st2 h1 ρ1 (g1 h1 g2) r1 r2 (r3.toD (e3.same (verOk_marks o1))) s1 s3
  | cond c x y ihx ihy =>
    intro w0 h0 r n st h K a w ρ hr hW he hN hd hh
    have hrx : r = none ∨ x.calm = true := hr.imp id fun h => (Bool.and_eq_true_iff.1 (show (x.calm && y.calm) = true from h)).1
    have hry : r = none ∨ y.calm = true := hr.imp id fun h => (Bool.and_eq_true_iff.1 (show (x.calm && y.calm) = true from h)).2
    unfold W at hW
    split at hW
    · rename_i v ev
      have hv : a.eval c = .bool v := ev_val he ev
      have wid : ∀ (C : Nat → Bool), (∀ t, Code.asg (.cond c x y) t = false → C t = false) → ∀ e a1 w1, Post H w0 h0 ρ st a C K e a1 w1 → Post H w0 h0 ρ st a (Code.asg (.cond c x y)) K e a1 w1 := fun C hC e a1 w1 p => ⟨p.ex, p.size, fun t ht => p.frame t (hC t ht)⟩
      cases v with
      | true => exact wpIn_cond hv (wpIn_mono (ihx hrx hW he hN hd hh) (wid _ fun t ht => (Bool.or_eq_false_iff.1 (show (x.asg t || y.asg t) = false from ht)).1))
      | false => exact wpIn_cond hv (wpIn_mono (ihy hry hW he hN hd hh) (wid _ fun t ht => (Bool.or_eq_false_iff.1 (show (x.asg t || y.asg t) = false from ht)).2))
    · exact hW.elim
  | block id c ih =>
    intro w0 h0 r n st h K a w ρ hr hW he hN hd hh
    refine wpIn_block (wpIn_mono (ih hr (show W P H c st h _ from hW) he hN hd hh) fun e a1 w1 ⟨⟨x0, st1, h1, ρ1, ee, k, e1, e2, e3⟩, s1, s3⟩ => ?_)
    subst ee
    cases x0 with
    | normal => exact ⟨⟨.normal, st1, h1, ρ1, rfl, k, e1, e2, e3⟩, s1, s3⟩
    | ret => exact ⟨⟨.ret, st1, h1, ρ1, rfl, k, e1, e2, e3⟩, s1, s3⟩
    | exit i =>
      simp only [Ex.to, Exit.inBlock]
      simp only [] at k
      by_cases ei : i = id
      · subst ei
        rw [nbeq_self] at k
        rw [if_pos rfl]
        exact ⟨⟨.normal, st1, h1, ρ1, rfl, k, e1, e2, e3⟩, s1, s3⟩
      · rw [nbeq_ne ei] at k
        rw [if_neg ei]
        exact ⟨⟨.exit i, st1, h1, ρ1, rfl, k, e1, e2, e3⟩, s1, s3⟩
  | loop c ih =>
    intro w0 h0 r n st h K a w ρ hr hW he hN hd hh
    unfold W at hW
    split at hW
    · exact hW.elim
    · rename_i ks _
      cases eo : lblOk ks st.n with
      | false => rw [eo] at hW; exact hW.elim
      | true =>
        rw [eo] at hW
        obtain ⟨I, ⟨m0, hI⟩, hR⟩ := hW
        refine wpIn_loop_rel (fun m a1 w1 => ∃ (st1 : St) (r : Hp → Nat → Prop) (h1 : Hp) (ρ1 : Nat → Nat), (∀ h1 m, r h1 m → W P H c st1 h1 fun x st' h' => match x with
            | .normal => bif verOk ks st1 st' st.n then capC ks st' I fun j => ∃ m', m' < m ∧ j h' m' else False
            | .exit i => K (.exit i) st' h'
            | .ret => K .ret st' h') ∧ r h1 m ∧ EnvR ρ1 st1 a1.tmps ∧ HeapR w0 h0 ρ1 st1 h1 w1 ∧ ExtD a1 ρ ρ1 st st1 ∧ st1.n = st.n ∧ (∀ l, st1.cellT l = st.cellT l) ∧ (∀ l, carries ks l = false → st1.L l = st.L l) ∧
            a1.tmps.size = H.N ∧ st1.marks = st.marks ∧ ∀ t, c.asg t = false → a1.tmps[t]? = a.tmps[t]?) (m := m0) ?_ ?_
        · obtain ⟨st1, r, g1, g2, gc⟩ := carry ks hR hI
          obtain ⟨r1, r2, r3, r4, r5, r6⟩ := carried_rel (sb := st) (ρ := ρ) (a := a) gc he he hh hh.top (Nat.le_refl _) (fun _ _ => rfl) (fun _ _ => rfl) eo (fun _ _ => rfl) (fun _ _ _ => rfl) rfl
          exact ⟨st1, r, h, ρ, g1, g2, r1, r2, r3.toD hd, r4, r5, r6, hN, gc.marks, fun _ _ => rfl⟩
        · rintro m a1 w1 ⟨st1, r, h1, ρ1, g1, g2, e1, e2, e3, hn1, hT1, hL1, s1, s2, s3⟩
          refine wpIn_mono (ih hr (g1 h1 m g2) e1 s1 e3.defers e2) fun e a2 w2 ⟨⟨x0, st2, h2, ρ2, ee, k, f1, f2, f3⟩, t1, t3⟩ => ?_
          have fr : ∀ t, c.asg t = false → a2.tmps[t]? = a.tmps[t]? := fun t ht => by rw [t3 t ht, s3 t ht]
          subst ee
          cases x0 with
          | exit i => exact ⟨⟨.exit i, st2, h2, ρ2, rfl, k, f1, f2, e3.trans f3⟩, t1, fr⟩
          | ret => exact ⟨⟨.ret, st2, h2, ρ2, rfl, k, f1, f2, e3.trans f3⟩, t1, fr⟩
          | normal =>
            simp only [] at k
            cases ev : verOk ks st1 st2 st.n with
            | false => rw [ev] at k; exact k.elim
            | true =>
              rw [ev] at k
              obtain ⟨st3, r3, k1, k2, gc⟩ := carry ks hR k
              have hv := verOk_spec ev
              have hx := e3.trans f3
              obtain ⟨q1, q2, q3, q4, q5, q6⟩ := carried_rel (sb := st) gc he f1 f2 hh.top hx.n hx.rho fr eo (fun l hl => by rw [(hv l (lblOk_spec eo hl)).1 hl, hT1]) (fun l hl hc => by
                rw [(f3.ver l (by omega)).2 ((hv l hl).2 hc), hL1 l hc]) rfl
              obtain ⟨m', hm, hj⟩ := k2
              exact ⟨m', hm, st3, r3, h2, ρ2, k1, hj, q1, q2, q3.toD (hx.same (by rw [verOk_marks ev, s2])), q4, q5, q6, t1, gc.marks, fr⟩
  | rangeFunc g ps x y ihx ihy => exact range_sound ihx ihy
  | scope c _ => intro w0 h0 r n st h K a w ρ hr hW; exact (show False from hW).elim
  | label l => intro w0 h0 r n st h K a w ρ hr hW; exact (show False from hW).elim
  | goto l => intro w0 h0 r n st h K a w ρ hr hW; exact (show False from hW).elim
  | refuse s => intro w0 h0 r n st h K a w ρ hr hW; exact (show False from hW).elim
variable {w0 : World} {h0 : Hp}
theorem run_asAddr (a : Addr) (w : World) : (asAddr (.pointer (some a))).run P w = .ok a w := rfl
theorem resW_spec {st : St} {h : Hp} {ρ : Nat → Nat} {w : World} {a : Act} (he : EnvR ρ st a.tmps) (hh : HeapR w0 h0 ρ st h w) : ∀ {rs : List ResultVar} {F : List Value → Prop}, resW P st h rs F →
    ∃ vs, F vs ∧ (rs.mapM fun
      | .tmp t => pure (a.tmps.getD t undef)
      | .cell x t => do loadVar t (← asAddr (a.tmps.getD x undef)) : Sem (List Value)).run P w = .ok vs w
  | [], F, H => ⟨[], H, rfl⟩
  | .tmp t :: rs, F, H => by
    simp only [resW] at H
    cases e : (st.e t).toV with
    | none => rw [e] at H; exact H.elim
    | some v =>
      rw [e] at H
      obtain ⟨vs, h1, h2⟩ := resW_spec he hh H
      refine ⟨v :: vs, h1, ?_⟩
      have := (he t).toV e
      simp only [List.mapM_cons, Sem.run_bind, Sem.run_pure, Result.andThen_ok, this, h2]
  | .cell x t :: rs, F, H => by
    simp only [resW] at H
    rcases at_spec H (he x) with ⟨l, o, e1, e2, e3, H⟩ | ⟨b, o, e3, H⟩
    · simp only [] at H
      split at H
      · rename_i cs u e4
        obtain ⟨v, H, hr⟩ := loadL_spec (b := ρ l) (u := u) H
        have hr := hr w (hh.loc l cs u e4).1
        obtain ⟨vs, h1, h2⟩ := resW_spec he hh H
        refine ⟨v :: vs, h1, ?_⟩
        simp only [List.mapM_cons, Sem.run_bind, Sem.run_pure, Result.andThen_ok, e3, run_asAddr, hr, h2]
      · exact H.elim
    · obtain ⟨v, H, hr⟩ := loadH_spec H
      have hr := hr w hh.holds
      obtain ⟨vs, h1, h2⟩ := resW_spec he hh H
      refine ⟨v :: vs, h1, ?_⟩
      simp only [List.mapM_cons, Sem.run_bind, Sem.run_pure, Result.andThen_ok, e3, run_asAddr, hr, h2]
theorem results_spec {fn : Func} {st : St} {h : Hp} {ρ : Nat → Nat} {w : World} {a : Act} (he : EnvR ρ st a.tmps) (hh : HeapR w0 h0 ρ st h w) {F : List Value → Prop} (H : resW P st h fn.results.toList F) :
    ∃ vs, F vs ∧ (results fn a.tmps).run P w = .ok (oneOf vs) w := by
  obtain ⟨vs, h1, h2⟩ := resW_spec he hh H
  refine ⟨vs, h1, ?_⟩
  unfold results
  rw [Array.mapM_eq_mapM_toList]
  simp only [Sem.run_bind, Sem.run_map]
  refine Eq.trans (congrArg (fun r => (Result.andThen (Result.andThen r fun (a : List Value) w' => Result.ok a.toArray w') fun (a : Array Value) w' => (pure (if h : a.size = 1 then a[0] else Value.tuple a) : Sem Value).run P w')) h2) ?_
  simp only [Result.andThen_ok, Sem.run_pure]
  congr 1
  match vs with
  | [] => rfl
  | [v] => rfl
  | v :: u :: vs => simp [oneOf]
def toVs : List SV → Option (List Value)
  | [] => some []
  | s :: ss => match s.toV, toVs ss with
    | some v, some vs => some (v :: vs)
    | _, _ => none
theorem toVs_rel : ∀ {ss : List SV} {vs : List Value}, toVs ss = some vs → ∀ (t : Nat) (ρ : Nat → Nat) (n : Nat), SVr ρ n ((ss[t]?).getD (.val undef)) ((vs[t]?).getD undef)
  | [], vs, h, t, ρ, n => by simp [toVs] at h; subst h; exact rfl
  | s :: ss, vs, h, t, ρ, n => by
    unfold toVs at h
    split at h
    · rename_i v us e1 e2
      cases h
      cases t with
      | zero =>
        simp only [List.getElem?_cons_zero, Option.getD_some]
        cases s with
        | val x => simp [SV.toV] at e1; subst e1; exact rfl
        | ptr b o => simp [SV.toV] at e1; subst e1; exact rfl
        | loc l o => simp [SV.toV] at e1
        | dead => simp [SV.toV] at e1
      | succ t => simp only [List.getElem?_cons_succ]; exact toVs_rel e2 t ρ n
    · cases h
theorem marksW_spec {n : Nat} {fn : Func} {tmps : Array Value} {R : Ending → World → Prop} {st : St} {ρ : Nat → Nat} {F : Hp → Prop}
    (hR : ∀ h w, F h → HeapR w0 h0 ρ st h w → LeavesInM Fence.wide n P fn tmps R [] .returning w) : ∀ (ds : List Nat) (h : Hp) (w : World), marksW ds h F → HeapR w0 h0 ρ st h w → LeavesInM Fence.wide n P fn tmps R (ds.map markD) .returning w
  | [], h, w, hm, hh => hR h w hm hh
  | D :: ds, h, w, hm, hh => by
    obtain ⟨hD, hm⟩ := hm
    have hwD := hh.holds D _ hD
    have hsz := get_lt hwD
    refine ⟨by simp, .inl ⟨D, _, rfl, run_takeDeferred hwD, ?_⟩⟩
    refine marksW_spec hR ds (h.del D) (w.putObj D (.deferred none)) hm ?_
    refine ⟨fun c o hc => ?_, ⟨hh.kept.os, hh.kept.tape, hh.kept.output, by have := hh.kept.size; simpa using this, fun b o hb hn => ?_⟩, fun m cs t e => ?_, hh.inj, hh.top⟩
    · unfold Hp.del at hc
      by_cases hcD : c = D
      · rw [if_pos hcD] at hc; cases hc
      · rw [if_neg hcD] at hc
        rw [World.putObj_heap_other hcD]; exact hh.holds c o hc
    · obtain ⟨q1, q2⟩ := hh.kept.block b o hb hn
      have hbD : b ≠ D := fun e => by rw [e, hD] at q2; cases q2
      refine ⟨by rw [World.putObj_heap_other hbD]; exact q1, ?_⟩
      unfold Hp.del
      rw [if_neg hbD]; exact q2
    · obtain ⟨q1, q2, q3⟩ := hh.loc m cs t e
      have hmD : ρ m ≠ D := fun e => by rw [e, hD] at q2; cases q2
      refine ⟨by rw [World.putObj_heap_other hmD]; exact q1, ?_, q3⟩
      unfold Hp.del
      rw [if_neg hmD]; exact q2
theorem calls_of_body {P : Program} {H : Hints} {f : FuncId} {fn : Func} {args : List SV} {vs : List Value} {h : Hp} {Q : Value → Hp → Prop} (hf : P.funcs[f]? = some fn) (hN : fn.ntmps = H.N) (hv : toVs args = some vs) (hlen : Nat.ble vs.length fn.ntmps = true)
    (hW : bodyW P H fn args h Q) : CallsH P f vs.toArray h Q := by
  intro w hw
  unfold bodyW at hW
  cases hb : fn.body with
  | none => rw [hb] at hW; exact hW.elim
  | some c =>
    rw [hb] at hW
    refine callsIn_wide.1 (callsIn_of_wp_marks (F := Fence.wide) (n := 0) hf hb trivial (wpIn_mono (W_sound (w0 := w) (h0 := h) (r := none) (n := 0) (ρ := fun _ => 0) c (.inl rfl) hW (a := { tmps := vs.toArray ++ Array.replicate (fn.ntmps - vs.toArray.size) undef, defers := [] }) ?_ ?_ rfl ?_) ?_))
    · intro t
      have h1 := toVs_rel hv t (fun _ => 0) 0
      simp only [st0]
      rw [Array.getD_eq_getD_getElem?]
      rcases Nat.lt_or_ge t vs.length with hlt | hge
      · rw [Array.getElem?_append_left (by simpa using hlt)]
        simpa using h1
      · have e1 : vs[t]? = none := List.getElem?_eq_none hge
        rw [e1] at h1
        rw [Array.getElem?_append_right (by simpa using hge)]
        have e2 : ((Array.replicate (fn.ntmps - vs.toArray.size) undef)[t - vs.toArray.size]?).getD undef = undef := by
          rw [Array.getElem?_replicate]; split <;> rfl
        rw [e2]; exact h1
    · have := Nat.le_of_ble_eq_true hlen
      simp; omega
    · exact ⟨hw, Kept.refl h w, (fun l cs t e => by cases e), (fun l m x y e => by cases e), fun _ _ => rfl⟩
    · intro e a' w' ⟨⟨x, st', h', ρ', ee, k, e1, e2, e3⟩, s1, s3⟩
      subst ee
      have fin : (marksW st'.marks h' fun h'' => resW P st' h'' fn.results.toList fun vs => Q (oneOf vs) h'') → LeavesInM Fence.wide 0 P fn a'.tmps (fun e w' => ∃ v h'_1, e = .returned v ∧ Q v h'_1 ∧ Holds h'_1 w' ∧ Kept h w h'_1 w') a'.defers .returning w' := by
        intro hm
        rw [e3.defers]
        refine marksW_spec (w0 := w) (h0 := h) (st := st') (ρ := ρ') (fun h2 w2 hF hh2 => ?_) _ h' w' hm e2
        obtain ⟨us, hq, hr⟩ := results_spec e1 hh2 hF
        exact ⟨_, hr, _, h2, rfl, hq, hh2.holds, hh2.kept⟩
      cases x with
      | exit i => exact k.elim
      | normal => exact fin k
      | ret => exact fin k
theorem CallsH.mono {P : Program} {f : FuncId} {args : Array Value} {h : Hp} {Q Q' : Value → Hp → Prop} (H : CallsH P f args h Q) (hq : ∀ v h', Q v h' → Q' v h') : CallsH P f args h Q' :=
  fun w hw => Calls.mono (H w hw) fun _ _ ⟨v, h', e, q, a, b⟩ => ⟨v, h', e, hq _ _ q, a, b⟩
end
end Go.Gx
namespace Go.Proofs.YthbogjbcecmopaaGreatDoor
open Go.Gx
set_option maxRecDepth 100000
set_option linter.unusedVariables false

abbrev law15_BtreeWhole.id : FuncId := 5
abbrev law15_opened.id : FuncId := 7
abbrev law15_lives.id : FuncId := 8
abbrev pager_Pager_Alloc.id : FuncId := 9
abbrev pager_Pager_Write.id : FuncId := 10
abbrev pager_Pager_Point.id : FuncId := 11
abbrev btree_Open.id : FuncId := 12
abbrev law15_all.id : FuncId := 13
abbrev btree_Tree_Get.id : FuncId := 14
abbrev law15_light.id : FuncId := 18
abbrev btree_Tree_Put.id : FuncId := 22
abbrev btree_Tree_Drop.id : FuncId := 23
abbrev btree_Tree_Range.id : FuncId := 24
abbrev btree_Tree_Height.id : FuncId := 25
abbrev btree_Tree_Check.id : FuncId := 26
abbrev law15_value.id : FuncId := 27
abbrev pager_Pager_Commit.id : FuncId := 28
abbrev disk_Disk_Fuse.id : FuncId := 29
abbrev disk_Disk_Fail.id : FuncId := 30
abbrev disk_Disk_Start.id : FuncId := 31
abbrev journal_Open.id : FuncId := 32
abbrev pager_Open.id : FuncId := 33
abbrev ref08_Same.id : FuncId := 34
abbrev pager_Pager_Free.id : FuncId := 36
abbrev disk_New.id : FuncId := 43
abbrev pager_Pager_Pages.id : FuncId := 44
abbrev pager_Pager_use.id : FuncId := 45
abbrev law15_top.id : FuncId := 46
abbrev pager_Pager_Root.id : FuncId := 47
abbrev btree_Tree_load.id : FuncId := 48
abbrev btree_node_place.id : FuncId := 49
abbrev btree_node_kid.id : FuncId := 50
abbrev btree_node_below.id : FuncId := 51
abbrev pager_Pager_Give.id : FuncId := 58
abbrev btree_may.id : FuncId := 59
abbrev btree_Tree_store.id : FuncId := 60
abbrev btree_Tree_insert.id : FuncId := 61
abbrev btree_Tree_remove.id : FuncId := 62
abbrev pager_Pager_Used.id : FuncId := 65
abbrev btree_node_keys.id : FuncId := 66
abbrev journal_Journal_Read.id : FuncId := 67
abbrev pager_Pager_Changed.id : FuncId := 68
abbrev pager_head_bytes.id : FuncId := 69
abbrev journal_Journal_Commit.id : FuncId := 70
abbrev disk_Disk_use.id : FuncId := 71
abbrev disk_Disk_settle.id : FuncId := 72
abbrev disk_Disk_Fail_1.id : FuncId := 73
abbrev journal_Need.id : FuncId := 74
abbrev disk_Disk_Size.id : FuncId := 75
abbrev disk_Disk_Read.id : FuncId := 76
abbrev journal_Journal_look.id : FuncId := 78
abbrev journal_Journal_lay.id : FuncId := 79
abbrev journal_Journal_own.id : FuncId := 80
abbrev journal_Journal_flushed.id : FuncId := 81
abbrev disk_Disk_Write.id : FuncId := 82
abbrev journal_Journal_Pages.id : FuncId := 83
abbrev pager_read.id : FuncId := 84
abbrev pager_Pager_Read.id : FuncId := 87
abbrev btree_parse.id : FuncId := 88
abbrev sort_Search.id : FuncId := 89
abbrev slices_Contains_int_int_.id : FuncId := 99
abbrev btree_node_bytes.id : FuncId := 100
abbrev btree_node_put.id : FuncId := 101
abbrev btree_node_size.id : FuncId := 102
abbrev btree_Tree_part.id : FuncId := 103
abbrev btree_Tree_join.id : FuncId := 104
abbrev journal_Journal_check.id : FuncId := 107
abbrev disk_Disk_Up.id : FuncId := 108
abbrev journal_Journal_layAll.id : FuncId := 112
abbrev disk_Disk_Flush.id : FuncId := 115
abbrev btree_two.id : FuncId := 117
abbrev strings_Trim.id : FuncId := 118
abbrev strings_trimLeftByte.id : FuncId := 132
abbrev strings_trimRightByte.id : FuncId := 133
def disk_New.H : Hints := { N := 31, loc := (fun _ => false), join := (fun _ => none), loop := (fun i => bif Nat.beq i 6 then some [.slot 17 (.int .i64)] else none), ifc := 0, order := (fun _ => none) }
def disk_New.W (sectors : Int) (h : Hp) (Q : Value → Hp → Prop) : Prop :=
  (bif hb (decide (sectors < 1)) then (Q (.tuple #[.pointer none, .int .i64 1]) h) else (bif hb (decide (sectors > 2048)) then (Q (.tuple #[.pointer none, .int .i64 1]) h) else (∀ (k1 : Nat), ((h k1 = none) → ((Int.ofNat 0 ≤ 256) ∧ (Int.ofNat 256 ≤ 256) ∧ (Int.ofNat 1 * 256 ≤ 281474976710656) ∧ (Int.ofNat 256 ≤ 9223372036854775807) ∧ ∀ (k2 : Nat), ((h.upd k1 (.cells #[.slice none 0 0, .slice none 0 0, .int .i64 0, .int .i64 0, .bool false] 128 (0, 0)) k2 = none) → (∃ s3, (SliceAt ((h.upd k1 (.cells #[.slice none 0 0, .slice none 0 0, .int .i64 0, .int .i64 0, .bool false] 128 (0, 0))).upd k2 (.cells (repV 256 [.int .u8 0]).toArray 5 (0, 0))) (some ⟨k2, 0, none⟩) (256) (bytesV s3)) ∧ ∃ (J4 : Int → Hp → Nat → Prop), (∃ k5, J4 0 ((h.upd k1 (.cells #[.slice none 0 0, .slice none 0 0, .int .i64 0, .int .i64 0, .bool false] 128 (0, 0))).upd k2 (.cells (repV 256 [.int .u8 0]).toArray 5 (0, 0))) k5) ∧ ∀ (n6 : Int), ∀ (x7 : Hp), ∀ (k8 : Nat), (J4 n6 x7 k8) → (bif hb (decide (n6 < sectors)) then (∃ a9, ∃ k10, ∃ k11, (x7.cell k1 0 = some (.slice a9 k10 k11)) ∧ ∀ (k12 : Nat), (x7 k12 = none) → (∃ (xs13 : List Value), (SliceAt (x7.upd k12 (.cells #[.string s3] 9 (0, 0))) (some ⟨k12, 0, none⟩) (1) (xs13)) ∧ ∃ (J14 : Option Addr → Nat → Hp → Prop), (∀ (a15 : Option Addr), ∀ (k16 : Nat), ∀ (x17 : Hp), (J14 a15 k16 x17) → ((StoreOk x17 k1 0 1) ∧ ∃ k18, (k18 < k8) ∧ J4 (IntKind.i64.wrap (n6 + 1)) (x17.put k1 0 [.slice a15 (k10 + 1) k16]) k18)) ∧ appendC Tryz.prog 9 a9 k10 k11 (x7.upd k12 (.cells #[.string s3] 9 (0, 0))) xs13 1 J14)) else (Q (.tuple #[.pointer (some ⟨k1, 0, none⟩), .int .i64 0]) x7)))))))))
theorem disk_New.calls (sectors : Int) {h : Hp} {Q : Value → Hp → Prop} (hW : disk_New.W sectors h Q) : CallsH Tryz.prog 43 #[.int .i64 sectors] h Q := by
  have hE_ : bodyW Tryz.prog disk_New.H Tryz.f43 [.val (.int .i64 sectors)] h Q = disk_New.W sectors h Q := by kernel_rfl
  rw [← hE_] at hW
  exact calls_of_body (H := disk_New.H) (args := [.val (.int .i64 sectors)]) Tryz.func43 Tryz.ntmps43 rfl rfl hW

def disk_Disk_Size.H : Hints := { N := 10, loc := (fun _ => false), join := (fun _ => none), loop := (fun _ => none), ifc := 0, order := (fun _ => none) }
def disk_Disk_Size.W (d_b d_o : Nat) (h : Hp) (Q : Value → Hp → Prop) : Prop :=
  (∃ a1, ∃ k2, ∃ k3, (h.cell d_b d_o = some (.slice a1 k2 k3)) ∧ Q (.int .i64 (Int.ofNat k2)) h)
theorem disk_Disk_Size.calls (d_b d_o : Nat) {h : Hp} {Q : Value → Hp → Prop} (hW : disk_Disk_Size.W d_b d_o h Q) : CallsH Tryz.prog 75 #[.pointer (some ⟨d_b, d_o, none⟩)] h Q := by
  have hE_ : bodyW Tryz.prog disk_Disk_Size.H Tryz.f75 [.ptr d_b d_o] h Q = disk_Disk_Size.W d_b d_o h Q := by kernel_rfl
  rw [← hE_] at hW
  exact calls_of_body (H := disk_Disk_Size.H) (args := [.ptr d_b d_o]) Tryz.func75 Tryz.ntmps75 rfl rfl hW

def disk_Disk_use.H : Hints := { N := 25, loc := (fun _ => false), join := (fun _ => none), loop := (fun _ => none), ifc := 0, order := (fun _ => none) }
def disk_Disk_use.W (d_b d_o : Nat) (p1 : Int) (h : Hp) (Q : Value → Hp → Prop) : Prop :=
  (∃ b1, (h.cell d_b (d_o + 4) = some (.bool b1)) ∧ bif b1 then (Q (.int .i64 10) h) else (bif hb (decide (p1 < 0)) then (Q (.int .i64 9) h) else (∃ a2, ∃ k3, ∃ k4, (h.cell d_b d_o = some (.slice a2 k3 k4)) ∧ bif hb (decide (p1 ≥ Int.ofNat k3)) then (Q (.int .i64 9) h) else (Q (.int .i64 0) h))))
theorem disk_Disk_use.calls (d_b d_o : Nat) (p1 : Int) {h : Hp} {Q : Value → Hp → Prop} (hW : disk_Disk_use.W d_b d_o p1 h Q) : CallsH Tryz.prog 71 #[.pointer (some ⟨d_b, d_o, none⟩), .int .i64 p1] h Q := by
  have hE_ : bodyW Tryz.prog disk_Disk_use.H Tryz.f71 [.ptr d_b d_o, .val (.int .i64 p1)] h Q = disk_Disk_use.W d_b d_o p1 h Q := by kernel_rfl
  rw [← hE_] at hW
  exact calls_of_body (H := disk_Disk_use.H) (args := [.ptr d_b d_o, .val (.int .i64 p1)]) Tryz.func71 Tryz.ntmps71 rfl rfl hW

def disk_Disk_Read.H : Hints := { N := 42, loc := (fun i => Nat.beq i 9 || false), join := (fun _ => none), loop := (fun i => bif Nat.beq i 6 then some [.slot 7 (.str), .slot 28 (.int .i64)] else none), ifc := 0, order := (fun _ => none) }
def disk_Disk_Read.W (d_b d_o : Nat) (p1 : Int) (h : Hp) (Q : Value → Hp → Prop) : Prop :=
  (CallsH Tryz.prog 71 (#[.pointer (some ⟨d_b, d_o, none⟩), .int .i64 p1]) (h) (fun v1 h2 => ∃ n3, (v1 = .int .i64 n3) ∧ bif hb (n3 != 0) then (Q (.tuple #[.string (bytesL []), .int .i64 n3]) h2) else (∃ a4, ∃ k5, ∃ k6, (h2.cell d_b d_o = some (.slice a4 k5 k6)) ∧ (0 ≤ p1) ∧ (p1 < Int.ofNat k5) ∧ ∃ k7, ∃ k8, (a4 = some ⟨k7, k8, none⟩) ∧ ∃ s9, (h2.cell k7 (k8 + p1.toNat * 1) = some (.string s9)) ∧ ∃ a10, ∃ k11, ∃ k12, (h2.cell d_b (d_o + 1) = some (.slice a10 k11 k12)) ∧ ∃ (J13 : ByteArray → Int → Hp → Nat → Prop), (∃ k14, J13 s9 0 h2 k14) ∧ ∀ (s15 : ByteArray), ∀ (n16 : Int), ∀ (x17 : Hp), ∀ (k18 : Nat), (J13 s15 n16 x17 k18) → (bif hb (decide (n16 < Int.ofNat k11)) then ((0 ≤ n16) ∧ (n16 < Int.ofNat k11) ∧ ∃ k19, ∃ k20, (a10 = some ⟨k19, k20, none⟩) ∧ ∃ n21, (x17.cell k19 (k20 + n16.toNat * 2) = some (.int .i64 n21)) ∧ ∃ s22, (x17.cell k19 (k20 + n16.toNat * 2 + 1) = some (.string s22)) ∧ bif hb (n21 == p1) && (beqS s22 s22 && true) then (∃ k23, (k23 < k18) ∧ J13 s22 (IntKind.i64.wrap (n16 + 1)) x17 k23) else (∃ k24, (k24 < k18) ∧ J13 s15 (IntKind.i64.wrap (n16 + 1)) x17 k24)) else (Q (.tuple #[.string s15, .int .i64 0]) x17)))))
theorem disk_Disk_Read.calls (d_b d_o : Nat) (p1 : Int) {h : Hp} {Q : Value → Hp → Prop} (hW : disk_Disk_Read.W d_b d_o p1 h Q) : CallsH Tryz.prog 76 #[.pointer (some ⟨d_b, d_o, none⟩), .int .i64 p1] h Q := by
  have hE_ : bodyW Tryz.prog disk_Disk_Read.H Tryz.f76 [.ptr d_b d_o, .val (.int .i64 p1)] h Q = disk_Disk_Read.W d_b d_o p1 h Q := by kernel_rfl
  rw [← hE_] at hW
  exact calls_of_body (H := disk_Disk_Read.H) (args := [.ptr d_b d_o, .val (.int .i64 p1)]) Tryz.func76 Tryz.ntmps76 rfl rfl hW

def disk_Disk_Write.H : Hints := { N := 56, loc := (fun _ => false), join := (fun _ => none), loop := (fun _ => none), ifc := 0, order := (fun _ => none) }
def disk_Disk_Write.W (d_b d_o : Nat) (p1 : Int) (s : ByteArray) (h : Hp) (Q : Value → Hp → Prop) : Prop :=
  (CallsH Tryz.prog 71 (#[.pointer (some ⟨d_b, d_o, none⟩), .int .i64 p1]) (h) (fun v1 h2 => ∃ n3, (v1 = .int .i64 n3) ∧ bif hb (n3 != 0) then (Q (.int .i64 n3) h2) else (bif hb (Int.ofNat s.size != 256) then (Q (.int .i64 1) h2) else (∃ a4, ∃ k5, ∃ k6, (h2.cell d_b (d_o + 1) = some (.slice a4 k5 k6)) ∧ ∀ (k7 : Nat), (h2 k7 = none) → (∃ (xs8 : List Value), (SliceAt (h2.upd k7 (.cells #[.int .i64 p1, .string s] 168 (0, 0))) (some ⟨k7, 0, none⟩) (2) (xs8)) ∧ ∃ (J9 : Option Addr → Nat → Hp → Prop), (∀ (a10 : Option Addr), ∀ (k11 : Nat), ∀ (x12 : Hp), (J9 a10 k11 x12) → ((StoreOk x12 d_b (d_o + 1) 1) ∧ ∃ n13, ((x12.put d_b (d_o + 1) [.slice a10 (k5 + 1) k11]).cell d_b (d_o + 3) = some (.int .i64 n13)) ∧ (StoreOk (x12.put d_b (d_o + 1) [.slice a10 (k5 + 1) k11]) d_b (d_o + 3) 1) ∧ ∃ n14, (((x12.put d_b (d_o + 1) [.slice a10 (k5 + 1) k11]).put d_b (d_o + 3) [.int .i64 (IntKind.i64.wrap (n13 + 1))]).cell d_b (d_o + 2) = some (.int .i64 n14)) ∧ bif hb (decide (n14 > 0)) then (∃ n15, (((x12.put d_b (d_o + 1) [.slice a10 (k5 + 1) k11]).put d_b (d_o + 3) [.int .i64 (IntKind.i64.wrap (n13 + 1))]).cell d_b (d_o + 2) = some (.int .i64 n15)) ∧ (StoreOk ((x12.put d_b (d_o + 1) [.slice a10 (k5 + 1) k11]).put d_b (d_o + 3) [.int .i64 (IntKind.i64.wrap (n13 + 1))]) d_b (d_o + 2) 1) ∧ ∃ n16, ((((x12.put d_b (d_o + 1) [.slice a10 (k5 + 1) k11]).put d_b (d_o + 3) [.int .i64 (IntKind.i64.wrap (n13 + 1))]).put d_b (d_o + 2) [.int .i64 (IntKind.i64.wrap (n15 - 1))]).cell d_b (d_o + 2) = some (.int .i64 n16)) ∧ (StoreOk (((x12.put d_b (d_o + 1) [.slice a10 (k5 + 1) k11]).put d_b (d_o + 3) [.int .i64 (IntKind.i64.wrap (n13 + 1))]).put d_b (d_o + 2) [.int .i64 (IntKind.i64.wrap (n15 - 1))]) d_b (d_o + 4) 1) ∧ Q (.int .i64 0) ((((x12.put d_b (d_o + 1) [.slice a10 (k5 + 1) k11]).put d_b (d_o + 3) [.int .i64 (IntKind.i64.wrap (n13 + 1))]).put d_b (d_o + 2) [.int .i64 (IntKind.i64.wrap (n15 - 1))]).put d_b (d_o + 4) [.bool (hb (n16 == 0))])) else (Q (.int .i64 0) ((x12.put d_b (d_o + 1) [.slice a10 (k5 + 1) k11]).put d_b (d_o + 3) [.int .i64 (IntKind.i64.wrap (n13 + 1))])))) ∧ appendC Tryz.prog 168 a4 k5 k6 (h2.upd k7 (.cells #[.int .i64 p1, .string s] 168 (0, 0))) xs8 1 J9)))))
theorem disk_Disk_Write.calls (d_b d_o : Nat) (p1 : Int) (s : ByteArray) {h : Hp} {Q : Value → Hp → Prop} (hW : disk_Disk_Write.W d_b d_o p1 s h Q) : CallsH Tryz.prog 82 #[.pointer (some ⟨d_b, d_o, none⟩), .int .i64 p1, .string s] h Q := by
  have hE_ : bodyW Tryz.prog disk_Disk_Write.H Tryz.f82 [.ptr d_b d_o, .val (.int .i64 p1), .val (.string s)] h Q = disk_Disk_Write.W d_b d_o p1 s h Q := by kernel_rfl
  rw [← hE_] at hW
  exact calls_of_body (H := disk_Disk_Write.H) (args := [.ptr d_b d_o, .val (.int .i64 p1), .val (.string s)]) Tryz.func82 Tryz.ntmps82 rfl rfl hW

def disk_Disk_Up.H : Hints := { N := 12, loc := (fun _ => false), join := (fun _ => none), loop := (fun _ => none), ifc := 0, order := (fun _ => none) }
def disk_Disk_Up.W (d_b d_o : Nat) (h : Hp) (Q : Value → Hp → Prop) : Prop :=
  (∃ b1, (h.cell d_b (d_o + 4) = some (.bool b1)) ∧ Q (.bool !b1) h)
theorem disk_Disk_Up.calls (d_b d_o : Nat) {h : Hp} {Q : Value → Hp → Prop} (hW : disk_Disk_Up.W d_b d_o h Q) : CallsH Tryz.prog 108 #[.pointer (some ⟨d_b, d_o, none⟩)] h Q := by
  have hE_ : bodyW Tryz.prog disk_Disk_Up.H Tryz.f108 [.ptr d_b d_o] h Q = disk_Disk_Up.W d_b d_o h Q := by kernel_rfl
  rw [← hE_] at hW
  exact calls_of_body (H := disk_Disk_Up.H) (args := [.ptr d_b d_o]) Tryz.func108 Tryz.ntmps108 rfl rfl hW

def disk_Disk_Flush.H : Hints := { N := 11, loc := (fun _ => false), join := (fun _ => none), loop := (fun _ => none), ifc := 0, order := (fun _ => none) }
def disk_Disk_Flush.W (d_b d_o : Nat) (h : Hp) (Q : Value → Hp → Prop) : Prop :=
  (CallsH Tryz.prog 71 (#[.pointer (some ⟨d_b, d_o, none⟩), .int .i64 0]) (h) (fun v1 h2 => ∃ n3, (v1 = .int .i64 n3) ∧ bif hb (n3 != 0) then (Q (.int .i64 n3) h2) else (CallsH Tryz.prog 72 (#[.pointer (some ⟨d_b, d_o, none⟩), .func (Fn.func 131) #[] #[]]) (h2) (fun v4 h5 => (v4 = .tuple #[]) ∧ Q (.int .i64 0) h5))))
theorem disk_Disk_Flush.calls (d_b d_o : Nat) {h : Hp} {Q : Value → Hp → Prop} (hW : disk_Disk_Flush.W d_b d_o h Q) : CallsH Tryz.prog 115 #[.pointer (some ⟨d_b, d_o, none⟩)] h Q := by
  have hE_ : bodyW Tryz.prog disk_Disk_Flush.H Tryz.f115 [.ptr d_b d_o] h Q = disk_Disk_Flush.W d_b d_o h Q := by kernel_rfl
  rw [← hE_] at hW
  exact calls_of_body (H := disk_Disk_Flush.H) (args := [.ptr d_b d_o]) Tryz.func115 Tryz.ntmps115 rfl rfl hW

def disk_Disk_Flush_1.H : Hints := { N := 3, loc := (fun _ => false), join := (fun _ => none), loop := (fun _ => none), ifc := 0, order := (fun _ => none) }
def disk_Disk_Flush_1.W (p0 : Int) (h : Hp) (Q : Value → Hp → Prop) : Prop :=
  (Q (.bool true) h)
theorem disk_Disk_Flush_1.calls (p0 : Int) {h : Hp} {Q : Value → Hp → Prop} (hW : disk_Disk_Flush_1.W p0 h Q) : CallsH Tryz.prog 131 #[.int .i64 p0] h Q := by
  have hE_ : bodyW Tryz.prog disk_Disk_Flush_1.H Tryz.f131 [.val (.int .i64 p0)] h Q = disk_Disk_Flush_1.W p0 h Q := by kernel_rfl
  rw [← hE_] at hW
  exact calls_of_body (H := disk_Disk_Flush_1.H) (args := [.val (.int .i64 p0)]) Tryz.func131 Tryz.ntmps131 rfl rfl hW

def disk_Disk_settle_1f131.H : Hints := { N := 32, loc := (fun i => Nat.beq i 5 || false), join := (fun _ => none), loop := (fun i => bif Nat.beq i 1 then some [.slot 11 (.int .i64)] else none), ifc := 0, order := (fun i => bif Nat.beq i 4 then some (some 9, false, [0, 1, 2, 3, 4, 5, 6, 7, 8, 9], .q 0 (.q 1 (.q 2 (.q 3 (.q 4 (.q 5 (.q 6 (.q 7 (.q 8 (.f 9 (.done) .e)))))))))) else none) }
def disk_Disk_settle_1f131.W (d_b d_o : Nat) (h : Hp) (Q : Value → Hp → Prop) : Prop :=
  (∃ a1, ∃ k2, ∃ k3, (h.cell d_b (d_o + 1) = some (.slice a1 k2 k3)) ∧ ∃ (J4 : Int → Hp → Nat → Prop), (∃ k5, J4 0 h k5) ∧ ∀ (n6 : Int), ∀ (x7 : Hp), ∀ (k8 : Nat), (J4 n6 x7 k8) → (bif hb (decide (n6 < Int.ofNat k2)) then ((0 ≤ n6) ∧ (n6 < Int.ofNat k2) ∧ ∃ k9, ∃ k10, (a1 = some ⟨k9, k10, none⟩) ∧ ∃ n11, (x7.cell k9 (k10 + n6.toNat * 2) = some (.int .i64 n11)) ∧ ∃ s12, (x7.cell k9 (k10 + n6.toNat * 2 + 1) = some (.string s12)) ∧ CallsH Tryz.prog 131 (#[.int .i64 n6]) (x7) (fun v13 h14 => ∃ b15, (v13 = .bool b15) ∧ bif b15 then (∃ a16, ∃ k17, ∃ k18, (h14.cell d_b d_o = some (.slice a16 k17 k18)) ∧ (0 ≤ n11) ∧ (n11 < Int.ofNat k17) ∧ ∃ k19, ∃ k20, (a16 = some ⟨k19, k20, none⟩) ∧ (StoreOk h14 k19 (k20 + n11.toNat * 1) 1) ∧ ∃ k21, (k21 < k8) ∧ J4 (IntKind.i64.wrap (n6 + 1)) (h14.put k19 (k20 + n11.toNat * 1) [.string s12]) k21) else (∃ k22, (k22 < k8) ∧ J4 (IntKind.i64.wrap (n6 + 1)) h14 k22))) else ((StoreOk x7 d_b (d_o + 1) 1) ∧ Q (.tuple #[]) (x7.put d_b (d_o + 1) [.slice none 0 0]))))
theorem disk_Disk_settle_1f131.calls (d_b d_o : Nat) {h : Hp} {Q : Value → Hp → Prop} (hW : disk_Disk_settle_1f131.W d_b d_o h Q) : CallsH Tryz.prog 72 #[.pointer (some ⟨d_b, d_o, none⟩), .func (.func 131) #[] #[]] h Q := by
  have hE_ : bodyW Tryz.prog disk_Disk_settle_1f131.H Tryz.f72 [.ptr d_b d_o, .val (.func (.func 131) #[] #[])] h Q = disk_Disk_settle_1f131.W d_b d_o h Q := by kernel_rfl
  rw [← hE_] at hW
  exact calls_of_body (H := disk_Disk_settle_1f131.H) (args := [.ptr d_b d_o, .val (.func (.func 131) #[] #[])]) Tryz.func72 Tryz.ntmps72 rfl rfl hW

def journal_Need.H : Hints := { N := 12, loc := (fun _ => false), join := (fun _ => none), loop := (fun _ => none), ifc := 0, order := (fun _ => none) }
def journal_Need.W (pages : Int) (h : Hp) (Q : Value → Hp → Prop) : Prop :=
  (bif hb (decide (pages < 1)) then (Q (.int .i64 0) h) else (bif hb (decide (pages > 128)) then (Q (.int .i64 0) h) else (Q (.int .i64 (IntKind.i64.wrap (IntKind.i64.wrap (8 * pages) + 1))) h)))
theorem journal_Need.calls (pages : Int) {h : Hp} {Q : Value → Hp → Prop} (hW : journal_Need.W pages h Q) : CallsH Tryz.prog 74 #[.int .i64 pages] h Q := by
  have hE_ : bodyW Tryz.prog journal_Need.H Tryz.f74 [.val (.int .i64 pages)] h Q = journal_Need.W pages h Q := by kernel_rfl
  rw [← hE_] at hW
  exact calls_of_body (H := journal_Need.H) (args := [.val (.int .i64 pages)]) Tryz.func74 Tryz.ntmps74 rfl rfl hW

def journal_Journal_own.H : Hints := { N := 13, loc := (fun _ => false), join := (fun _ => none), loop := (fun _ => none), ifc := 0, order := (fun _ => none) }
def journal_Journal_own.W (j_b j_o : Nat) (i : Int) (h : Hp) (Q : Value → Hp → Prop) : Prop :=
  (∃ n1, (h.cell j_b (j_o + 1) = some (.int .i64 n1)) ∧ Q (.int .i64 (IntKind.i64.wrap (1 + IntKind.i64.wrap (4 * IntKind.i64.wrap (n1 + i))))) h)
theorem journal_Journal_own.calls (j_b j_o : Nat) (i : Int) {h : Hp} {Q : Value → Hp → Prop} (hW : journal_Journal_own.W j_b j_o i h Q) : CallsH Tryz.prog 80 #[.pointer (some ⟨j_b, j_o, none⟩), .int .i64 i] h Q := by
  have hE_ : bodyW Tryz.prog journal_Journal_own.H Tryz.f80 [.ptr j_b j_o, .val (.int .i64 i)] h Q = journal_Journal_own.W j_b j_o i h Q := by kernel_rfl
  rw [← hE_] at hW
  exact calls_of_body (H := journal_Journal_own.H) (args := [.ptr j_b j_o, .val (.int .i64 i)]) Tryz.func80 Tryz.ntmps80 rfl rfl hW

def journal_Journal_Pages.H : Hints := { N := 9, loc := (fun _ => false), join := (fun _ => none), loop := (fun _ => none), ifc := 0, order := (fun _ => none) }
def journal_Journal_Pages.W (j_b j_o : Nat) (h : Hp) (Q : Value → Hp → Prop) : Prop :=
  (∃ n1, (h.cell j_b (j_o + 1) = some (.int .i64 n1)) ∧ Q (.int .i64 n1) h)
theorem journal_Journal_Pages.calls (j_b j_o : Nat) {h : Hp} {Q : Value → Hp → Prop} (hW : journal_Journal_Pages.W j_b j_o h Q) : CallsH Tryz.prog 83 #[.pointer (some ⟨j_b, j_o, none⟩)] h Q := by
  have hE_ : bodyW Tryz.prog journal_Journal_Pages.H Tryz.f83 [.ptr j_b j_o] h Q = journal_Journal_Pages.W j_b j_o h Q := by kernel_rfl
  rw [← hE_] at hW
  exact calls_of_body (H := journal_Journal_Pages.H) (args := [.ptr j_b j_o]) Tryz.func83 Tryz.ntmps83 rfl rfl hW

def journal_Journal_Read.H : Hints := { N := 25, loc := (fun _ => false), join := (fun _ => none), loop := (fun _ => none), ifc := 0, order := (fun _ => none) }
def journal_Journal_Read.W (j_b j_o : Nat) (page : Int) (h : Hp) (Q : Value → Hp → Prop) : Prop :=
  (bif hb (decide (page < 0)) then (Q (.tuple #[.string (bytesL []), .int .i64 9]) h) else (∃ n1, (h.cell j_b (j_o + 1) = some (.int .i64 n1)) ∧ bif hb (decide (page ≥ n1)) then (Q (.tuple #[.string (bytesL []), .int .i64 9]) h) else (CallsH Tryz.prog 80 (#[.pointer (some ⟨j_b, j_o, none⟩), .int .i64 page]) (h) (fun v2 h3 => ∃ n4, (v2 = .int .i64 n4) ∧ CallsH Tryz.prog 78 (#[.pointer (some ⟨j_b, j_o, none⟩), .int .i64 n4]) (h3) (fun v5 h6 => ∃ s7, ∃ n8, (v5 = .tuple #[.string s7, .int .i64 n8]) ∧ Q (.tuple #[.string s7, .int .i64 n8]) h6)))))
theorem journal_Journal_Read.calls (j_b j_o : Nat) (page : Int) {h : Hp} {Q : Value → Hp → Prop} (hW : journal_Journal_Read.W j_b j_o page h Q) : CallsH Tryz.prog 67 #[.pointer (some ⟨j_b, j_o, none⟩), .int .i64 page] h Q := by
  have hE_ : bodyW Tryz.prog journal_Journal_Read.H Tryz.f67 [.ptr j_b j_o, .val (.int .i64 page)] h Q = journal_Journal_Read.W j_b j_o page h Q := by kernel_rfl
  rw [← hE_] at hW
  exact calls_of_body (H := journal_Journal_Read.H) (args := [.ptr j_b j_o, .val (.int .i64 page)]) Tryz.func67 Tryz.ntmps67 rfl rfl hW

def journal_Journal_look.H : Hints := { N := 33, loc := (fun _ => false), join := (fun _ => none), loop := (fun i => bif Nat.beq i 3 then some [.slot 6 (.slice), .slot 10 (.int .i64)] else none), ifc := 0, order := (fun _ => none) }
def journal_Journal_look.W (j_b j_o : Nat) (p1 : Int) (h : Hp) (Q : Value → Hp → Prop) : Prop :=
  (∃ (J1 : Option Addr → Nat → Nat → Int → Hp → Nat → Prop), (∃ k2, J1 none 0 0 0 h k2) ∧ ∀ (a3 : Option Addr), ∀ (k4 : Nat), ∀ (k5 : Nat), ∀ (n6 : Int), ∀ (x7 : Hp), ∀ (k8 : Nat), (J1 a3 k4 k5 n6 x7 k8) → (bif hb (decide (n6 < 4)) then (∃ a9, (x7.cell j_b j_o = some (.pointer a9)) ∧ CallsH Tryz.prog 76 (#[.pointer a9, .int .i64 (IntKind.i64.wrap (p1 + n6))]) (x7) (fun v10 h11 => ∃ s12, ∃ n13, (v10 = .tuple #[.string s12, .int .i64 n13]) ∧ bif hb (n13 != 0) then (Q (.tuple #[.string (bytesL []), .int .i64 n13]) h11) else (∃ (J14 : Option Addr → Nat → Hp → Prop), (∀ (a15 : Option Addr), ∀ (k16 : Nat), ∀ (x17 : Hp), (J14 a15 k16 x17) → (∃ k18, (k18 < k8) ∧ J1 a15 (k4 + s12.size) k16 (IntKind.i64.wrap (n6 + 1)) x17 k18)) ∧ appendC Tryz.prog 5 a3 k4 k5 h11 (bytesV s12) s12.size J14))) else (∃ s19, (SliceAt (x7) (a3) (k4) (bytesV s19)) ∧ Q (.tuple #[.string s19, .int .i64 0]) x7)))
theorem journal_Journal_look.calls (j_b j_o : Nat) (p1 : Int) {h : Hp} {Q : Value → Hp → Prop} (hW : journal_Journal_look.W j_b j_o p1 h Q) : CallsH Tryz.prog 78 #[.pointer (some ⟨j_b, j_o, none⟩), .int .i64 p1] h Q := by
  have hE_ : bodyW Tryz.prog journal_Journal_look.H Tryz.f78 [.ptr j_b j_o, .val (.int .i64 p1)] h Q = journal_Journal_look.W j_b j_o p1 h Q := by kernel_rfl
  rw [← hE_] at hW
  exact calls_of_body (H := journal_Journal_look.H) (args := [.ptr j_b j_o, .val (.int .i64 p1)]) Tryz.func78 Tryz.ntmps78 rfl rfl hW

def journal_Journal_lay.H : Hints := { N := 31, loc := (fun _ => false), join := (fun _ => none), loop := (fun i => bif Nat.beq i 2 then some [.slot 9 (.int .i64)] else none), ifc := 0, order := (fun i => bif Nat.beq i 4 then some (some 14, false, [0, 1, 2, 3, 4, 5, 6, 7, 8, 9, 10, 11, 12, 13, 14, 15], .q 0 (.q 1 (.q 2 (.q 3 (.q 4 (.q 5 (.q 6 (.q 7 (.q 8 (.q 9 (.q 10 (.q 11 (.q 12 (.q 13 (.f 14 (.q 15 .done) .e))))))))))))))) else none) }
def journal_Journal_lay.W (j_b j_o : Nat) (p1 : Int) (s : ByteArray) (h : Hp) (Q : Value → Hp → Prop) : Prop :=
  (∃ (J1 : Int → Hp → Nat → Prop), (∃ k2, J1 0 h k2) ∧ ∀ (n3 : Int), ∀ (x4 : Hp), ∀ (k5 : Nat), (J1 n3 x4 k5) → (bif hb (decide (n3 < 4)) then (∃ a6, (x4.cell j_b j_o = some (.pointer a6)) ∧ (0 ≤ IntKind.i64.wrap (IntKind.i64.wrap (n3 + 1) * 256)) ∧ (IntKind.i64.wrap (IntKind.i64.wrap (n3 + 1) * 256) ≤ Int.ofNat s.size) ∧ (0 ≤ IntKind.i64.wrap (n3 * 256)) ∧ (IntKind.i64.wrap (n3 * 256) ≤ Int.ofNat (IntKind.i64.wrap (IntKind.i64.wrap (n3 + 1) * 256)).toNat) ∧ CallsH Tryz.prog 82 (#[.pointer a6, .int .i64 (IntKind.i64.wrap (p1 + n3)), .string (s.extract (IntKind.i64.wrap (n3 * 256)).toNat (IntKind.i64.wrap (IntKind.i64.wrap (n3 + 1) * 256)).toNat)]) (x4) (fun v7 h8 => ∃ n9, (v7 = .int .i64 n9) ∧ bif hb (n9 != 0) then (Q (.int .i64 n9) h8) else (∃ k10, (k10 < k5) ∧ J1 (IntKind.i64.wrap (n3 + 1)) h8 k10))) else (Q (.int .i64 0) x4)))
theorem journal_Journal_lay.calls (j_b j_o : Nat) (p1 : Int) (s : ByteArray) {h : Hp} {Q : Value → Hp → Prop} (hW : journal_Journal_lay.W j_b j_o p1 s h Q) : CallsH Tryz.prog 79 #[.pointer (some ⟨j_b, j_o, none⟩), .int .i64 p1, .string s] h Q := by
  have hE_ : bodyW Tryz.prog journal_Journal_lay.H Tryz.f79 [.ptr j_b j_o, .val (.int .i64 p1), .val (.string s)] h Q = journal_Journal_lay.W j_b j_o p1 s h Q := by kernel_rfl
  rw [← hE_] at hW
  exact calls_of_body (H := journal_Journal_lay.H) (args := [.ptr j_b j_o, .val (.int .i64 p1), .val (.string s)]) Tryz.func79 Tryz.ntmps79 rfl rfl hW

def journal_Journal_flushed.H : Hints := { N := 13, loc := (fun _ => false), join := (fun _ => none), loop := (fun _ => none), ifc := 0, order := (fun _ => none) }
def journal_Journal_flushed.W (j_b j_o : Nat) (e : Int) (h : Hp) (Q : Value → Hp → Prop) : Prop :=
  (bif hb (e != 0) then (Q (.int .i64 e) h) else (∃ a1, (h.cell j_b j_o = some (.pointer a1)) ∧ CallsH Tryz.prog 115 (#[.pointer a1]) (h) (fun v2 h3 => ∃ n4, (v2 = .int .i64 n4) ∧ Q (.int .i64 n4) h3)))
theorem journal_Journal_flushed.calls (j_b j_o : Nat) (e : Int) {h : Hp} {Q : Value → Hp → Prop} (hW : journal_Journal_flushed.W j_b j_o e h Q) : CallsH Tryz.prog 81 #[.pointer (some ⟨j_b, j_o, none⟩), .int .i64 e] h Q := by
  have hE_ : bodyW Tryz.prog journal_Journal_flushed.H Tryz.f81 [.ptr j_b j_o, .val (.int .i64 e)] h Q = journal_Journal_flushed.W j_b j_o e h Q := by kernel_rfl
  rw [← hE_] at hW
  exact calls_of_body (H := journal_Journal_flushed.H) (args := [.ptr j_b j_o, .val (.int .i64 e)]) Tryz.func81 Tryz.ntmps81 rfl rfl hW

def journal_Journal_check.H : Hints := { N := 57, loc := (fun i => Nat.beq i 11 || Nat.beq i 9 || Nat.beq i 7 || false), join := (fun _ => none), loop := (fun i => bif Nat.beq i 3 then some [.slot 15 (.int .i64)] else bif Nat.beq i 9 then some [.slot 34 (.int .i64)] else bif Nat.beq i 16 then some [.slot 48 (.int .i64)] else none), ifc := 0, order := (fun i => bif Nat.beq i 5 then some (none, false, [0, 1, 2, 3, 4, 5, 6, 7, 8, 9, 10, 11], .q 0 (.q 1 (.q 2 (.q 3 (.q 4 (.q 5 (.q 6 (.q 7 (.q 8 (.q 9 (.q 10 (.q 11 .done)))))))))))) else none) }
def journal_Journal_check.W (j_b j_o : Nat) (la : Option Addr) (ll lc : Nat) (h : Hp) (Q : Value → Hp → Prop) : Prop :=
  (∀ (k1 : Nat), ((h k1 = none) → (((zeroL Tryz.prog 81).length = 128) ∧ (plainP (zeroL Tryz.prog 81)) ∧ (StoreOk (h.upd k1 (.cells (zeroL Tryz.prog 81).toArray 81 (0, 0))) k1 0 (zeroL Tryz.prog 81).length) ∧ ∃ (J2 : Int → Hp → Nat → Prop), (∃ k3, J2 0 ((h.upd k1 (.cells (zeroL Tryz.prog 81).toArray 81 (0, 0))).put k1 0 (zeroL Tryz.prog 81)) k3) ∧ ∀ (n4 : Int), ∀ (x5 : Hp), ∀ (k6 : Nat), (J2 n4 x5 k6) → (bif hb (decide (n4 < Int.ofNat ll)) then ((0 ≤ n4) ∧ (n4 < Int.ofNat ll) ∧ ∃ k7, ∃ k8, (la = some ⟨k7, k8, none⟩) ∧ ∃ n9, (x5.cell k7 (k8 + n4.toNat * 2) = some (.int .i64 n9)) ∧ ∃ s10, (x5.cell k7 (k8 + n4.toNat * 2 + 1) = some (.string s10)) ∧ bif hb (decide (n9 < 0)) then (Q (.int .i64 9) x5) else (∃ n11, (x5.cell j_b (j_o + 1) = some (.int .i64 n11)) ∧ bif hb (decide (n9 ≥ n11)) then (Q (.int .i64 9) x5) else (∃ k12, (k12 < k6) ∧ J2 (IntKind.i64.wrap (n4 + 1)) x5 k12))) else (∃ (J13 : Int → Hp → Nat → Prop), (∃ k14, J13 0 x5 k14) ∧ ∀ (n15 : Int), ∀ (x16 : Hp), ∀ (k17 : Nat), (J13 n15 x16 k17) → (bif hb (decide (n15 < Int.ofNat ll)) then ((0 ≤ n15) ∧ (n15 < Int.ofNat ll) ∧ ∃ k18, ∃ k19, (la = some ⟨k18, k19, none⟩) ∧ ∃ n20, (x16.cell k18 (k19 + n15.toNat * 2) = some (.int .i64 n20)) ∧ ∃ s21, (x16.cell k18 (k19 + n15.toNat * 2 + 1) = some (.string s21)) ∧ (0 ≤ n20) ∧ (n20 < 128) ∧ ∃ b22, (x16.cell k1 (0 + n20.toNat * 1) = some (.bool b22)) ∧ bif b22 then (Q (.int .i64 7) x16) else ((0 ≤ n20) ∧ (n20 < 128) ∧ (StoreOk x16 k1 (0 + n20.toNat * 1) 1) ∧ ∃ k23, (k23 < k17) ∧ J13 (IntKind.i64.wrap (n15 + 1)) (x16.put k1 (0 + n20.toNat * 1) [.bool true]) k23)) else (∃ (J24 : Int → Hp → Nat → Prop), (∃ k25, J24 0 x16 k25) ∧ ∀ (n26 : Int), ∀ (x27 : Hp), ∀ (k28 : Nat), (J24 n26 x27 k28) → (bif hb (decide (n26 < Int.ofNat ll)) then ((0 ≤ n26) ∧ (n26 < Int.ofNat ll) ∧ ∃ k29, ∃ k30, (la = some ⟨k29, k30, none⟩) ∧ ∃ n31, (x27.cell k29 (k30 + n26.toNat * 2) = some (.int .i64 n31)) ∧ ∃ s32, (x27.cell k29 (k30 + n26.toNat * 2 + 1) = some (.string s32)) ∧ bif hb (Int.ofNat s32.size != 1024) then (Q (.int .i64 1) x27) else (∃ k33, (k33 < k28) ∧ J24 (IntKind.i64.wrap (n26 + 1)) x27 k33)) else (Q (.int .i64 0) x27)))))))))
theorem journal_Journal_check.calls (j_b j_o : Nat) (la : Option Addr) (ll lc : Nat) {h : Hp} {Q : Value → Hp → Prop} (hW : journal_Journal_check.W j_b j_o la ll lc h Q) : CallsH Tryz.prog 107 #[.pointer (some ⟨j_b, j_o, none⟩), .slice la ll lc] h Q := by
  have hE_ : bodyW Tryz.prog journal_Journal_check.H Tryz.f107 [.ptr j_b j_o, .val (.slice la ll lc)] h Q = journal_Journal_check.W j_b j_o la ll lc h Q := by kernel_rfl
  rw [← hE_] at hW
  exact calls_of_body (H := journal_Journal_check.H) (args := [.ptr j_b j_o, .val (.slice la ll lc)]) Tryz.func107 Tryz.ntmps107 rfl rfl hW

def journal_Journal_Commit_2.H : Hints := { N := 6, loc := (fun _ => false), join := (fun _ => none), loop := (fun _ => none), ifc := 0, order := (fun _ => none) }
def journal_Journal_Commit_2.W (i : Int) (h : Hp) (Q : Value → Hp → Prop) : Prop :=
  (Q (.int .i64 (IntKind.i64.wrap (1 + IntKind.i64.wrap (4 * i)))) h)
theorem journal_Journal_Commit_2.calls (i : Int) {h : Hp} {Q : Value → Hp → Prop} (hW : journal_Journal_Commit_2.W i h Q) : CallsH Tryz.prog 113 #[.int .i64 i] h Q := by
  have hE_ : bodyW Tryz.prog journal_Journal_Commit_2.H Tryz.f113 [.val (.int .i64 i)] h Q = journal_Journal_Commit_2.W i h Q := by kernel_rfl
  rw [← hE_] at hW
  exact calls_of_body (H := journal_Journal_Commit_2.H) (args := [.val (.int .i64 i)]) Tryz.func113 Tryz.ntmps113 rfl rfl hW

def journal_Journal_layAll_2f113.H : Hints := { N := 28, loc := (fun i => Nat.beq i 8 || false), join := (fun _ => none), loop := (fun i => bif Nat.beq i 2 then some [.slot 12 (.int .i64)] else none), ifc := 0, order := (fun i => bif Nat.beq i 4 then some (some 7, false, [0, 1, 2, 3, 5, 6, 4, 7, 8], .q 0 (.q 1 (.q 2 (.q 3 (.q 5 (.q 6 (.f 4 (.f 7 (.q 8 .done) .e) .e))))))) else none) }
def journal_Journal_layAll_2f113.W (j_b j_o : Nat) (la : Option Addr) (ll lc : Nat) (h : Hp) (Q : Value → Hp → Prop) : Prop :=
  (∃ (J1 : Int → Hp → Nat → Prop), (∃ k2, J1 0 h k2) ∧ ∀ (n3 : Int), ∀ (x4 : Hp), ∀ (k5 : Nat), (J1 n3 x4 k5) → (bif hb (decide (n3 < Int.ofNat ll)) then ((0 ≤ n3) ∧ (n3 < Int.ofNat ll) ∧ ∃ k6, ∃ k7, (la = some ⟨k6, k7, none⟩) ∧ ∃ n8, (x4.cell k6 (k7 + n3.toNat * 2) = some (.int .i64 n8)) ∧ ∃ s9, (x4.cell k6 (k7 + n3.toNat * 2 + 1) = some (.string s9)) ∧ CallsH Tryz.prog 113 (#[.int .i64 n8]) (x4) (fun v10 h11 => ∃ n12, (v10 = .int .i64 n12) ∧ (Gx.Sub x4 h11) ∧ CallsH Tryz.prog 79 (#[.pointer (some ⟨j_b, j_o, none⟩), .int .i64 n12, .string s9]) (h11) (fun v13 h14 => ∃ n15, (v13 = .int .i64 n15) ∧ bif hb (n15 != 0) then (Q (.int .i64 n15) h14) else (∃ k16, (k16 < k5) ∧ J1 (IntKind.i64.wrap (n3 + 1)) h14 k16)))) else (Q (.int .i64 0) x4)))
theorem journal_Journal_layAll_2f113.calls (j_b j_o : Nat) (la : Option Addr) (ll lc : Nat) {h : Hp} {Q : Value → Hp → Prop} (hW : journal_Journal_layAll_2f113.W j_b j_o la ll lc h Q) : CallsH Tryz.prog 112 #[.pointer (some ⟨j_b, j_o, none⟩), .slice la ll lc, .func (.func 113) #[] #[]] h Q := by
  have hE_ : bodyW Tryz.prog journal_Journal_layAll_2f113.H Tryz.f112 [.ptr j_b j_o, .val (.slice la ll lc), .val (.func (.func 113) #[] #[])] h Q = journal_Journal_layAll_2f113.W j_b j_o la ll lc h Q := by kernel_rfl
  rw [← hE_] at hW
  exact calls_of_body (H := journal_Journal_layAll_2f113.H) (args := [.ptr j_b j_o, .val (.slice la ll lc), .val (.func (.func 113) #[] #[])]) Tryz.func112 Tryz.ntmps112 rfl rfl hW

def journal_Journal_layAll_2m80.H : Hints := { N := 28, loc := (fun i => Nat.beq i 8 || false), join := (fun _ => none), loop := (fun i => bif Nat.beq i 2 then some [.slot 12 (.int .i64)] else none), ifc := 0, order := (fun i => bif Nat.beq i 4 then some (some 7, false, [0, 1, 2, 3, 5, 6, 4, 7, 8], .q 0 (.q 1 (.q 2 (.q 3 (.q 5 (.q 6 (.f 4 (.f 7 (.q 8 .done) .e) .e))))))) else none) }
def journal_Journal_layAll_2m80.W (j_b j_o : Nat) (la : Option Addr) (ll lc : Nat) (place_0_b place_0_o : Nat) (h : Hp) (Q : Value → Hp → Prop) : Prop :=
  (∃ (J1 : Int → Hp → Nat → Prop), (∃ k2, J1 0 h k2) ∧ ∀ (n3 : Int), ∀ (x4 : Hp), ∀ (k5 : Nat), (J1 n3 x4 k5) → (bif hb (decide (n3 < Int.ofNat ll)) then ((0 ≤ n3) ∧ (n3 < Int.ofNat ll) ∧ ∃ k6, ∃ k7, (la = some ⟨k6, k7, none⟩) ∧ ∃ n8, (x4.cell k6 (k7 + n3.toNat * 2) = some (.int .i64 n8)) ∧ ∃ s9, (x4.cell k6 (k7 + n3.toNat * 2 + 1) = some (.string s9)) ∧ CallsH Tryz.prog 80 (#[.pointer (some ⟨place_0_b, place_0_o, none⟩), .int .i64 n8]) (x4) (fun v10 h11 => ∃ n12, (v10 = .int .i64 n12) ∧ (Gx.Sub x4 h11) ∧ CallsH Tryz.prog 79 (#[.pointer (some ⟨j_b, j_o, none⟩), .int .i64 n12, .string s9]) (h11) (fun v13 h14 => ∃ n15, (v13 = .int .i64 n15) ∧ bif hb (n15 != 0) then (Q (.int .i64 n15) h14) else (∃ k16, (k16 < k5) ∧ J1 (IntKind.i64.wrap (n3 + 1)) h14 k16)))) else (Q (.int .i64 0) x4)))
theorem journal_Journal_layAll_2m80.calls (j_b j_o : Nat) (la : Option Addr) (ll lc : Nat) (place_0_b place_0_o : Nat) {h : Hp} {Q : Value → Hp → Prop} (hW : journal_Journal_layAll_2m80.W j_b j_o la ll lc place_0_b place_0_o h Q) : CallsH Tryz.prog 112 #[.pointer (some ⟨j_b, j_o, none⟩), .slice la ll lc, .func (.func 80) #[.pointer (some ⟨place_0_b, place_0_o, none⟩)] #[]] h Q := by
  have hE_ : bodyW Tryz.prog journal_Journal_layAll_2m80.H Tryz.f112 [.ptr j_b j_o, .val (.slice la ll lc), .val (.func (.func 80) #[.pointer (some ⟨place_0_b, place_0_o, none⟩)] #[])] h Q = journal_Journal_layAll_2m80.W j_b j_o la ll lc place_0_b place_0_o h Q := by kernel_rfl
  rw [← hE_] at hW
  exact calls_of_body (H := journal_Journal_layAll_2m80.H) (args := [.ptr j_b j_o, .val (.slice la ll lc), .val (.func (.func 80) #[.pointer (some ⟨place_0_b, place_0_o, none⟩)] #[])]) Tryz.func112 Tryz.ntmps112 rfl rfl hW

def journal_told.H : Hints := { N := 4, loc := (fun _ => false), join := (fun _ => none), loop := (fun _ => none), ifc := 0, order := (fun _ => none) }
def journal_told.W (mark : ByteArray) (h : Hp) (Q : Value → Hp → Prop) : Prop :=
  (∀ (k1 : Nat), ((h k1 = none) → (Q (.func (Fn.func 114) #[] #[.pointer (some ⟨k1, 0, none⟩)]) (h.upd k1 (.cells #[.string mark] 9 (0, 0))))))
theorem journal_told.calls (mark : ByteArray) {h : Hp} {Q : Value → Hp → Prop} (hW : journal_told.W mark h Q) : CallsH Tryz.prog 77 #[.string mark] h Q := by
  have hE_ : bodyW Tryz.prog journal_told.H Tryz.f77 [.val (.string mark)] h Q = journal_told.W mark h Q := by kernel_rfl
  rw [← hE_] at hW
  exact calls_of_body (H := journal_told.H) (args := [.val (.string mark)]) Tryz.func77 Tryz.ntmps77 rfl rfl hW

end Go.Proofs.YthbogjbcecmopaaGreatDoor
namespace Go.Gx

theorem split_cond {b : Bool} {A B : Prop} (h1 : b = true → A) (h2 : b = false → B) : cond b A B := by
  cases b
  · exact h2 rfl
  · exact h1 rfl
theorem split_hb {b : Bool} {A B : Prop} (h1 : b = true → A) (h2 : b = false → B) : cond (hb b) A B := by
  rw [hb_eq]; exact split_cond h1 h2
theorem split_dec {p : Prop} [Decidable p] {A B : Prop} (h1 : p → A) (h2 : ¬ p → B) : cond (hb (decide p)) A B :=
  split_hb (fun h => h1 (of_decide_eq_true h)) (fun h => h2 (of_decide_eq_false h))
theorem split_eq {a b : Int} {A B : Prop} (h1 : a = b → A) (h2 : a ≠ b → B) : cond (hb (a == b)) A B :=
  split_hb (fun h => h1 (by simpa using h)) (fun h => h2 (by simpa using h))
theorem split_ne {a b : Int} {A B : Prop} (h1 : a ≠ b → A) (h2 : a = b → B) : cond (hb (a != b)) A B :=
  split_hb (fun h => h1 (by simpa using h)) (fun h => h2 (by simpa using h))
theorem bytes_ext {s t : ByteArray} (h : s.data.toList = t.data.toList) : s = t := by
  cases s; cases t; congr 1; exact Array.ext' h
theorem toList_eq_data (s : ByteArray) : s.toList = s.data.toList := by
  have key : ∀ (n i : Nat) (r : List UInt8), s.size - i = n → ByteArray.toList.loop s i r = r.reverse ++ s.data.toList.drop i := by
    intro n
    induction n with
    | zero =>
      intro i r h
      rw [ByteArray.toList.loop.eq_def, if_neg (by omega)]
      have : s.data.toList.drop i = [] := List.drop_eq_nil_of_le (by show s.data.toList.length ≤ i; rw [Array.length_toList]; show s.size ≤ i; omega)
      rw [this, List.append_nil]
    | succ n ih =>
      intro i r h
      rw [ByteArray.toList.loop.eq_def, if_pos (by omega)]
      have hi : i < s.data.toList.length := by rw [Array.length_toList]; show i < s.size; omega
      rw [ih (i + 1) (s.get! i :: r) (by omega), List.drop_eq_getElem_cons hi]
      have e : s.get! i = s.data.toList[i] := by
        unfold ByteArray.get!
        have : i < s.data.size := by simpa using hi
        rw [Array.getElem_toList]
        exact getElem!_pos s.data i this
      rw [e]; simp
  unfold ByteArray.toList
  rw [key _ 0 [] rfl]; simp
theorem beqS_iff {s t : ByteArray} : (s.toList == t.toList) = true ↔ s = t := by
  rw [toList_eq_data, toList_eq_data, beq_iff_eq]
  exact ⟨bytes_ext, fun h => by rw [h]⟩
theorem split_beqS {s t : ByteArray} {A B : Prop} (h1 : s = t → A) (h2 : s ≠ t → B) : cond (beqS s t) A B :=
  split_hb (fun h => h1 (beqS_iff.1 h)) (fun h => h2 fun e => by rw [beqS_iff.2 e] at h; cases h)
theorem split_not {b : Bool} {A B : Prop} (h1 : b = false → A) (h2 : b = true → B) : cond (!b) A B := by
  cases b
  · exact h1 rfl
  · exact h2 rfl
theorem beqS_val (s t : ByteArray) : beqS s t = decide (s = t) := by
  unfold beqS
  rw [hb_eq]
  by_cases h : s = t
  · rw [beqS_iff.2 h, decide_eq_true h]
  · rw [decide_eq_false h]
    cases e : (s.toList == t.toList) with
    | false => rfl
    | true => exact absurd (beqS_iff.1 e) h

theorem wid {x : Int} (h1 : -9223372036854775808 ≤ x) (h2 : x ≤ 9223372036854775807) : IntKind.i64.wrap x = x := by
  unfold IntKind.wrap IntKind.signed IntKind.bits
  simp only [Bool.true_and]
  by_cases h : 0 ≤ x
  · have e : x % 2 ^ 64 = x := Int.emod_eq_of_lt h (by omega)
    rw [e, if_neg (by simp; omega)]
  · have e : x % 2 ^ 64 = x + 2 ^ 64 := by omega
    rw [e, if_pos (by simp; omega)]; omega
theorem wrap8 (x : Int) : IntKind.u8.wrap x = x % 256 := by unfold IntKind.wrap; simp [IntKind.signed, IntKind.bits]
theorem wrap64 (x : Int) : IntKind.u64.wrap x = x % 18446744073709551616 := by unfold IntKind.wrap; simp [IntKind.signed, IntKind.bits]

def Blk (h : Hp) (b : Nat) (t : TypeId) (vs : List Value) : Prop := h b = some (.cells vs.toArray t (0, 0))
def Keep (S : Nat → Prop) (h h' : Hp) : Prop := ∀ c o, h c = some o → ¬ S c → h' c = some o
theorem Sub.refl (h : Hp) : Sub h h := fun _ _ e => e
theorem Sub.trans {a b c : Hp} (x : Sub a b) (y : Sub b c) : Sub a c := fun _ _ e => y _ _ (x _ _ e)
theorem Keep.refl (S : Nat → Prop) (h : Hp) : Keep S h h := fun _ _ e _ => e
theorem Keep.trans {S : Nat → Prop} {a b c : Hp} (x : Keep S a b) (y : Keep S b c) : Keep S a c := fun _ _ e n => y _ _ (x _ _ e n) n
theorem Keep.mono {S T : Nat → Prop} {a b : Hp} (x : Keep S a b) (st : ∀ c, S c → T c) : Keep T a b := fun c o e n => x c o e fun s => n (st c s)
theorem Keep.sub {S : Nat → Prop} {h0 a b : Hp} (x : Keep S a b) (s : Sub h0 a) (hS : ∀ c, S c → h0 c = none) : Sub h0 b :=
  fun c o e => x c o (s c o e) fun sc => by rw [hS c sc] at e; cases e
theorem Sub.keep {a b : Hp} (x : Sub a b) (S : Nat → Prop) : Keep S a b := fun _ _ e _ => x _ _ e
theorem Sub.upd {h : Hp} {k : Nat} (hk : h k = none) (o : Obj) : Sub h (h.upd k o) := fun c x e => by
  rw [Hp.upd_ne _ _ (fun e' => by rw [e', hk] at e; cases e)]; exact e
theorem Sub.none {h h' : Hp} (s : Sub h h') {k : Nat} (hk : h' k = none) : h k = none := by
  cases e : h k with
  | none => rfl
  | some o => rw [s _ _ e] at hk; cases hk
theorem Keep.upd {S : Nat → Prop} {h : Hp} {k : Nat} (o : Obj) (hk : S k ∨ h k = none) : Keep S h (h.upd k o) := fun c x e n => by
  rw [Hp.upd_ne _ _ (fun e' => by
    subst e'
    rcases hk with hk | hk
    · exact n hk
    · rw [hk] at e; cases e)]
  exact e
theorem Blk.get {h : Hp} {b : Nat} {t : TypeId} {vs : List Value} (H : Blk h b t vs) : h b = some (.cells vs.toArray t (0, 0)) := H
theorem Blk.sub {h h' : Hp} {b : Nat} {t : TypeId} {vs : List Value} (H : Blk h b t vs) (s : Sub h h') : Blk h' b t vs := s _ _ H
theorem Blk.keep {S : Nat → Prop} {h h' : Hp} {b : Nat} {t : TypeId} {vs : List Value} (H : Blk h b t vs) (s : Keep S h h') (n : ¬ S b) : Blk h' b t vs := s _ _ H n
theorem Blk.cell {h : Hp} {b : Nat} {t : TypeId} {vs : List Value} (H : Blk h b t vs) (i : Nat) : h.cell b i = vs[i]? := by
  unfold Hp.cell
  rw [H.get]; simp
theorem Blk.cell' {h : Hp} {b : Nat} {t : TypeId} {vs : List Value} (H : Blk h b t vs) (i : Nat) {v : Value} (e : vs[i]? = some v) : h.cell b i = some v := (H.cell i).trans e
theorem Blk.ne {h : Hp} {b k : Nat} {t : TypeId} {vs : List Value} (H : Blk h b t vs) (hk : h k = none) : b ≠ k := fun e => by
  have := H.get
  rw [e, hk] at this; cases this
theorem Blk.new (h : Hp) (b : Nat) (t : TypeId) (vs : List Value) : Blk (h.upd b (.cells vs.toArray t (0, 0))) b t vs := Hp.upd_same _ _ _
theorem Blk.upd {h : Hp} {b k : Nat} {t : TypeId} {vs : List Value} (H : Blk h b t vs) (hk : h k = none) (o : Obj) : Blk (h.upd k o) b t vs := H.sub (Sub.upd hk o)
theorem Blk.store {h : Hp} {b o n : Nat} {t : TypeId} {vs : List Value} (H : Blk h b t vs) (hn : o + n ≤ vs.length) : StoreOk h b o n :=
  ⟨_, _, _, _, H.get, by simpa using hn, .inl (Nat.zero_le _)⟩
theorem put_get {h : Hp} {b o : Nat} {t : TypeId} {vs us : List Value} (H : Blk h b t vs) : h.put b o us = h.upd b (.cells (setL vs o us).toArray t (0, 0)) := by
  unfold Hp.put
  rw [H.get]
  simp only []
  rw [setL_eq]
theorem Blk.put {h : Hp} {b : Nat} {t : TypeId} {vs : List Value} (H : Blk h b t vs) (o : Nat) (us : List Value) : Blk (h.put b o us) b t (setL vs o us) := by
  rw [put_get H]; exact Blk.new _ _ _ _
theorem put_ne (h : Hp) {b c : Nat} (o : Nat) (us : List Value) (e : c ≠ b) : h.put b o us c = h c := by
  unfold Hp.put
  cases h b with
  | none => rfl
  | some x => cases x <;> first | rfl | exact Hp.upd_ne _ _ e
theorem Keep.put (S : Nat → Prop) (h : Hp) {b : Nat} (o : Nat) (us : List Value) (hb : S b) : Keep S h (h.put b o us) := fun c x e n => by
  rw [put_ne _ _ _ fun e' => n (by rw [e']; exact hb)]; exact e
theorem Blk.put_ne {h : Hp} {b c : Nat} {t : TypeId} {vs : List Value} (H : Blk h b t vs) (o : Nat) (us : List Value) (e : b ≠ c) : Blk (h.put c o us) b t vs :=
  (Go.Gx.put_ne h o us e).trans H
theorem Blk.inj {h : Hp} {b : Nat} {t t' : TypeId} {vs vs' : List Value} (H : Blk h b t vs) (H' : Blk h b t' vs') : t = t' ∧ vs = vs' := by
  have := H.get.symm.trans H'.get
  simpa [and_comm] using this
theorem setL_get {vs : List Value} {o : Nat} {v : Value} (i : Nat) : (setL vs o [v])[i]? = if i = o ∧ o < vs.length then some v else vs[i]? := by
  simp only [setL, List.getElem?_set]
  by_cases e : o = i
  · subst e
    by_cases hl : o < vs.length
    · simp [hl]
    · simp [hl]
  · rw [if_neg e, if_neg (fun h => e h.1.symm)]
theorem setL_append {al bs us : List Value} {n : Nat} (hn : al.length = n) (hl : us.length ≤ bs.length) : setL (al ++ bs) n us = al ++ us ++ bs.drop us.length := by
  induction us generalizing al bs n with
  | nil => simp [setL]
  | cons u us ih =>
    cases bs with
    | nil => simp at hl
    | cons b bs =>
      simp only [setL]
      have : (al ++ b :: bs).set n u = (al ++ [u]) ++ bs := by
        subst hn
        rw [List.set_append_right _ _ (Nat.le_refl _)]; simp
      rw [this, ih (by simp [hn]) (by simpa using hl)]
      simp

theorem CellsAt.sub {h h' : Hp} {b o : Nat} {xs : List Value} (H : CellsAt h b o xs) (s : Sub h h') : CellsAt h' b o xs := fun i hi => by
  have := H i hi
  unfold Hp.cell at this ⊢
  split at this
  · rename_i hb; rw [s _ _ hb]; exact this
  · cases this
theorem CellsAt.keep {S : Nat → Prop} {h h' : Hp} {b o : Nat} {xs : List Value} (H : CellsAt h b o xs) (s : Keep S h h') (n : ¬ S b) : CellsAt h' b o xs := fun i hi => by
  have := H i hi
  unfold Hp.cell at this ⊢
  split at this
  · rename_i hb; rw [s _ _ hb n]; exact this
  · cases this
theorem SliceAt.sub {h h' : Hp} {a : Option Addr} {n : Nat} {xs : List Value} (H : SliceAt h a n xs) (s : Sub h h') : SliceAt h' a n xs := by
  obtain ⟨h1, h2⟩ := H
  refine ⟨h1, ?_⟩
  rcases h2 with h2 | ⟨b, o, e, h2⟩
  · exact .inl h2
  · exact .inr ⟨b, o, e, h2.sub s⟩
def blkOf (a : Option Addr) (c : Nat) : Prop := ∃ o s, a = some ⟨c, o, s⟩
theorem SliceAt.keep {S : Nat → Prop} {h h' : Hp} {a : Option Addr} {n : Nat} {xs : List Value} (H : SliceAt h a n xs) (s : Keep S h h') (hn : ∀ c, blkOf a c → ¬ S c) : SliceAt h' a n xs := by
  obtain ⟨h1, h2⟩ := H
  refine ⟨h1, ?_⟩
  rcases h2 with h2 | ⟨b, o, e, h2⟩
  · exact .inl h2
  · exact .inr ⟨b, o, e, h2.keep s (hn b ⟨o, none, e⟩)⟩
theorem Blk.cellsAt {h : Hp} {b : Nat} {t : TypeId} {vs : List Value} (H : Blk h b t vs) {o : Nat} {xs : List Value} (hx : ∀ i, i < xs.length → vs[o + i]? = xs[i]?) : CellsAt h b o xs := fun i hi => by
  rw [H.cell, hx i hi]; exact List.getElem?_eq_getElem hi
theorem Blk.slice {h : Hp} {b : Nat} {t : TypeId} {vs : List Value} (H : Blk h b t vs) {n : Nat} (hn : vs.length = n) : SliceAt h (some ⟨b, 0, none⟩) n vs :=
  ⟨hn, .inr ⟨b, 0, rfl, H.cellsAt fun i _ => by rw [Nat.zero_add]⟩⟩
theorem slice_nil (h : Hp) (a : Option Addr) : SliceAt h a 0 [] := ⟨rfl, .inl rfl⟩
theorem SliceAt.cell {h : Hp} {a : Option Addr} {n : Nat} {xs : List Value} (H : SliceAt h a n xs) {i : Nat} (hi : i < n) : ∃ b o, a = some ⟨b, o, none⟩ ∧ ∃ v, xs[i]? = some v ∧ h.cell b (o + i) = some v := by
  obtain ⟨h1, h2⟩ := H
  rcases h2 with h2 | ⟨b, o, e, h2⟩
  · omega
  · exact ⟨b, o, e, xs[i], List.getElem?_eq_getElem (by omega), h2 i (by omega)⟩
theorem SliceAt.part {h : Hp} {a : Option Addr} {n : Nat} {xs : List Value} (H : SliceAt h a n xs) {m l k sz : Nat} (hk : l * sz + k ≤ n) (hm : m = l → k = 0) : SliceAt h (slA m l sz a) k ((xs.drop (l * sz)).take k) := by
  obtain ⟨h1, h2⟩ := H
  refine ⟨by simp; omega, ?_⟩
  by_cases k0 : k = 0
  · exact .inl k0
  · rcases h2 with h2 | ⟨b, o, e, h2⟩
    · omega
    · refine .inr ⟨b, o + l * sz, ?_, fun i hi => ?_⟩
      · unfold slA
        rw [if_neg (fun e' => k0 (hm e')), e, Option.map_some, add_mk]
      · simp only [List.length_take, List.length_drop] at hi
        have := h2 (l * sz + i) (by omega)
        rw [Nat.add_assoc, this]
        simp

structure AppT (P : Program) (e : TypeId) (z b : Nat) : Prop where
  ok : okT P e = true
  sz : szT P e = z
  by_ : byT P e = b
  pos : 0 < z
  bpos : 0 < b
  zero : ∃ v, zeroT P e = some v ∧ (cellsOfV v).length = z
def appB (P : Program) (e : TypeId) (sz b : Nat) : Bool :=
  okT P e && Nat.beq (szT P e) sz && Nat.beq (byT P e) b && Nat.blt 0 sz && Nat.blt 0 b && (match zeroT P e with
    | some v => Nat.beq (cellsOfV v).length sz
    | none => false)
theorem AppT.of {P : Program} {e : TypeId} {sz b : Nat} (h : appB P e sz b = true) : AppT P e sz b := by
  unfold appB at h
  simp only [Bool.and_eq_true] at h
  obtain ⟨⟨⟨⟨⟨h1, h2⟩, h3⟩, h4⟩, h5⟩, h6⟩ := h
  refine ⟨h1, Nat.eq_of_beq_eq_true h2, Nat.eq_of_beq_eq_true h3, Nat.le_of_ble_eq_true h4, Nat.le_of_ble_eq_true h5, ?_⟩
  split at h6
  · rename_i v hv; exact ⟨v, hv, Nat.eq_of_beq_eq_true h6⟩
  · cases h6
def Own (h : Hp) (e : TypeId) (sz : Nat) (a : Option Addr) (l c : Nat) (xs : List Value) : Prop :=
  xs.length = l * sz ∧ l ≤ c ∧ ((a = none ∧ c = 0) ∨ ∃ b rest, a = some ⟨b, 0, none⟩ ∧ Blk h b e (xs ++ rest) ∧ rest.length = (c - l) * sz)
theorem Own.nil (h : Hp) (e : TypeId) (sz : Nat) : Own h e sz none 0 0 [] := ⟨by simp, Nat.le_refl _, .inl ⟨rfl, rfl⟩⟩
theorem Own.keep {S : Nat → Prop} {h h' : Hp} {e : TypeId} {sz : Nat} {a : Option Addr} {l c : Nat} {xs : List Value} (H : Own h e sz a l c xs) (s : Keep S h h') (hn : ∀ c, blkOf a c → ¬ S c) : Own h' e sz a l c xs := by
  obtain ⟨h1, h2, h3⟩ := H
  refine ⟨h1, h2, ?_⟩
  rcases h3 with h3 | ⟨b, rest, e1, h3, h4⟩
  · exact .inl h3
  · exact .inr ⟨b, rest, e1, h3.keep s (hn b ⟨0, none, e1⟩), h4⟩
theorem Own.sub {h h' : Hp} {e : TypeId} {sz : Nat} {a : Option Addr} {l c : Nat} {xs : List Value} (H : Own h e sz a l c xs) (s : Sub h h') : Own h' e sz a l c xs :=
  H.keep (S := fun _ => False) (s.keep _) fun _ _ h => h
theorem Own.slice {h : Hp} {e : TypeId} {sz : Nat} {a : Option Addr} {l c : Nat} {xs : List Value} (H : Own h e sz a l c xs) : SliceAt h a (l * sz) xs := by
  obtain ⟨h1, h2, h3⟩ := H
  refine ⟨h1, ?_⟩
  rcases h3 with ⟨_, rfl⟩ | ⟨b, rest, e1, h3, h4⟩
  · left
    have : l = 0 := by omega
    subst this; simp
  · exact .inr ⟨b, 0, e1, h3.cellsAt fun i hi => by rw [Nat.zero_add, List.getElem?_append_left hi]⟩
theorem Own.take {h : Hp} {e : TypeId} {sz : Nat} {a : Option Addr} {l c : Nat} {xs : List Value} (H : Own h e sz a l c xs) {k : Nat} (hk : k ≤ l) : Own h e sz a k c (xs.take (k * sz)) := by
  obtain ⟨h1, h2, h3⟩ := H
  have hks : k * sz ≤ l * sz := Nat.mul_le_mul_right _ hk
  refine ⟨by simp; omega, by omega, ?_⟩
  rcases h3 with h3 | ⟨b, rest, e1, h3, h4⟩
  · exact .inl h3
  · refine .inr ⟨b, xs.drop (k * sz) ++ rest, e1, by rw [← List.append_assoc, List.take_append_drop]; exact h3, ?_⟩
    simp only [List.length_append, List.length_drop, h1, h4, Nat.sub_mul]
    have : l * sz ≤ c * sz := Nat.mul_le_mul_right _ h2
    omega
theorem Own.in_heap {h : Hp} {e : TypeId} {sz : Nat} {a : Option Addr} {l c : Nat} {xs : List Value} (H : Own h e sz a l c xs) {b : Nat} (hb : blkOf a b) : h b ≠ none := by
  obtain ⟨o, s, hb⟩ := hb
  rcases H.2.2 with ⟨e1, _⟩ | ⟨b', rest, e1, h3, h4⟩
  · rw [e1] at hb; cases hb
  · rw [e1] at hb; cases hb
    rw [h3.get]; simp
theorem plain_plainW : ∀ {vs : List Value} {F : Prop}, plainP vs → F → plainW vs F
  | [], _, _, hF => hF
  | v :: vs, F, hp, hF => by
    have h1 := hp v (by simp)
    have h2 := plain_plainW (vs := vs) (fun u hu => hp u (by simp [hu])) hF
    unfold plainW
    cases v <;> first | exact h2 | exact absurd rfl (h1.1 _) | exact absurd rfl (h1.2 _)
theorem append_own {P : Program} {e : TypeId} {sz by_ : Nat} (T : AppT P e sz by_) {h : Hp} {a : Option Addr} {l c n : Nat} {xs ys : List Value} {J : Option Addr → Nat → Hp → Prop} (H : Own h e sz a l c xs) (hy : ys.length = n * sz)
    (hp : plainP ys) (hb : (2 * (l + n) + 768) * by_ ≤ 281474976710656)
    (hJ : ∀ a' c' h', Own h' e sz a' (l + n) c' (xs ++ ys) → Keep (blkOf a) h h' → (∀ b, blkOf a' b → blkOf a b ∨ h b = none) → (∀ b, h' b = none → h b = none) → J a' c' h') : appendC P e a l c h ys n J := by
  unfold appendC appendI
  have hok : (okT P e && Nat.blt 0 (byT P e)) = true := by
    rw [T.ok, T.by_]
    have := T.bpos
    simp [Nat.blt, Nat.ble_eq]; omega
  rw [hok]
  simp only [Bool.not_true, cond_false, T.sz, T.by_, leN, ltN, nadd, nmul, nsub]
  have hnone : ∀ {h h' : Hp}, (∀ b, h b ≠ none → h' b ≠ none) → ∀ b, h' b = none → h b = none := fun hx b hb' => Classical.byContradiction fun hc => hx b hc hb'
  obtain ⟨h1, h2, h3⟩ := H
  refine ⟨fun hc => ?_, fun hc => ⟨hb, xs, (Own.slice ⟨h1, h2, h3⟩), fun nc hnc => ?_⟩⟩
  · rcases h3 with ⟨rfl, rfl⟩ | ⟨b, rest, e1, h3, h4⟩
    · have hl : l = 0 := by omega
      have hn : n = 0 := by omega
      subst hl; subst hn
      have hy : ys = [] := List.length_eq_zero_iff.1 (by simpa using hy)
      have hx : xs = [] := List.length_eq_zero_iff.1 (by simpa using h1)
      subst hy; subst hx
      exact .inl ⟨rfl, rfl, _, _, rfl, hJ _ _ _ (Own.nil _ _ _) (Keep.refl _ _) (fun b hb => .inl hb) (fun b hb => hb)⟩
    · refine .inr ⟨b, 0, e1, plain_plainW hp ?_⟩
      have hle : n * sz ≤ (c - l) * sz := Nat.mul_le_mul_right _ (by omega)
      unfold storeH
      rw [Nat.zero_add]
      refine ⟨h3.store (by simp only [List.length_append, h1, hy]; omega), _, _, rfl, ?_⟩
      have hset : setL (xs ++ rest) (l * sz) ys = xs ++ ys ++ rest.drop ys.length := setL_append h1 (by omega)
      have hb2 := h3.put (l * sz) ys
      rw [hset] at hb2
      refine hJ _ _ _ ⟨by simp [h1, hy, Nat.add_mul], hc, .inr ⟨b, _, rfl, hb2, ?_⟩⟩ ?_ ?_ ?_
      · simp only [List.length_drop, h4, hy, Nat.sub_mul, Nat.add_mul]; omega
      · exact Keep.put _ _ _ _ ⟨0, none, e1⟩
      · rintro b' ⟨o, s, e2⟩; cases e2; exact .inl ⟨0, none, e1⟩
      · intro b' hb'
        by_cases e2 : b' = b
        · subst e2; rw [hb2.get] at hb'; cases hb'
        · rw [put_ne _ _ _ e2] at hb'; exact hb'
  · unfold zeroCs
    obtain ⟨z, hz, hzl⟩ := T.zero
    rw [hz]
    simp only []
    have : Nat.beq (cellsOfV z).length (szT P e) = true := by rw [hzl, T.sz]; exact Nat.beq_refl _
    rw [this]
    simp only [cond_true]
    intro k hk
    refine ⟨_, _, rfl, ?_⟩
    have hblk := Blk.new h k e (xs ++ ys ++ (List.replicate (nc - (l + n)) (cellsOfV z)).flatten)
    refine hJ _ _ _ ⟨by simp [h1, hy, Nat.add_mul], hnc, .inr ⟨k, _, rfl, hblk, by simp [hzl]⟩⟩ (Keep.upd _ (.inr hk)) (fun b ⟨o, s, e2⟩ => ?_) (fun b hb' => ?_)
    · cases e2; exact .inr hk
    · exact (Sub.upd hk _).none hb'
theorem append_new {P : Program} {e : TypeId} {sz by_ : Nat} (T : AppT P e sz by_) {h0 h : Hp} {a : Option Addr} {l c n : Nat} {xs ys : List Value} {J : Option Addr → Nat → Hp → Prop} (hs : Sub h0 h) (hf : ∀ b, blkOf a b → h0 b = none) (H : Own h e sz a l c xs) (hy : ys.length = n * sz)
    (hp : plainP ys) (hb : (2 * (l + n) + 768) * by_ ≤ 281474976710656)
    (hJ : ∀ a' c' h', Sub h0 h' → (∀ b, blkOf a' b → h0 b = none) → Own h' e sz a' (l + n) c' (xs ++ ys) → J a' c' h') : appendC P e a l c h ys n J :=
  append_own T H hy hp hb fun a' c' h' o k n _ => hJ a' c' h' (k.sub hs hf) (fun b hb => (n b hb).elim (hf b) fun x => hs.none x) o
end Go.Gx
namespace Go.Gx
set_option linter.unusedVariables false
variable {α : Type} {f : α → List Value} {sz : Nat}
def rowC (f : α → List Value) (L : List α) : List Value := L.flatMap f
theorem rowC_nil : rowC f [] = [] := rfl
theorem rowC_cons (x : α) (L : List α) : rowC f (x :: L) = f x ++ rowC f L := rfl
theorem rowC_append (L M : List α) : rowC f (L ++ M) = rowC f L ++ rowC f M := List.flatMap_append
theorem rowC_one (x : α) : rowC f [x] = f x := by rw [rowC_cons, rowC_nil, List.append_nil]
theorem rowC_length (hf : ∀ x, (f x).length = sz) : ∀ L : List α, (rowC f L).length = L.length * sz
  | [] => by simp [rowC]
  | x :: L => by rw [rowC_cons, List.length_append, hf, rowC_length hf L, List.length_cons, Nat.add_mul]; omega
theorem rowC_get (hf : ∀ x, (f x).length = sz) : ∀ (L : List α) (i : Nat) (x : α), L[i]? = some x → ∀ j, j < sz → (rowC f L)[i * sz + j]? = (f x)[j]?
  | [], _, _, h, _, _ => by simp at h
  | y :: L, 0, x, h, j, hj => by
    simp at h; subst h
    rw [rowC_cons, Nat.zero_mul, Nat.zero_add, List.getElem?_append_left (by rw [hf]; exact hj)]
  | y :: L, i + 1, x, h, j, hj => by
    have := rowC_get hf L i x (by simpa using h) j hj
    rw [rowC_cons, List.getElem?_append_right (by rw [hf, Nat.add_mul]; omega), hf, ← this]
    congr 1
    rw [Nat.add_mul]; omega
theorem rowC_plain (hp : ∀ x, plainP (f x)) (L : List α) : plainP (rowC f L) := fun v hv => by
  unfold rowC at hv
  rw [List.mem_flatMap] at hv
  obtain ⟨x, _, hv⟩ := hv
  exact hp x v hv
theorem rowC_drop (hf : ∀ x, (f x).length = sz) : ∀ (L : List α) (i : Nat), (rowC f L).drop (i * sz) = rowC f (L.drop i)
  | L, 0 => by simp
  | [], i + 1 => by simp [rowC]
  | x :: L, i + 1 => by
    rw [rowC_cons, show (i + 1) * sz = (f x).length + i * sz by rw [hf, Nat.add_mul]; omega, List.drop_append, List.drop_eq_nil_of_le (by omega), Nat.add_sub_cancel_left, List.nil_append]
    exact rowC_drop hf L i
theorem rowC_take (hf : ∀ x, (f x).length = sz) (L : List α) (i : Nat) : (rowC f L).take (i * sz) = rowC f (L.take i) := by
  by_cases h : i ≤ L.length
  · have : rowC f L = rowC f (L.take i) ++ rowC f (L.drop i) := by rw [← rowC_append, List.take_append_drop]
    rw [this, List.take_append_of_le_length (by rw [rowC_length hf, List.length_take, Nat.min_eq_left h]; exact Nat.le_refl _), List.take_of_length_le]
    rw [rowC_length hf, List.length_take, Nat.min_eq_left h]; exact Nat.le_refl _
  · rw [List.take_of_length_le, List.take_of_length_le (by omega)]
    rw [rowC_length hf]; exact Nat.mul_le_mul_right _ (by omega)
def RowAt (f : α → List Value) (sz : Nat) (h : Hp) (a : Option Addr) (L : List α) : Prop := SliceAt h a (L.length * sz) (rowC f L)
theorem RowAt.nil (h : Hp) (a : Option Addr) : RowAt f sz h a [] := by unfold RowAt; simp; exact slice_nil h a
theorem RowAt.sub {h h' : Hp} {a : Option Addr} {L : List α} (H : RowAt f sz h a L) (s : Sub h h') : RowAt f sz h' a L := SliceAt.sub H s
theorem RowAt.keep {S : Nat → Prop} {h h' : Hp} {a : Option Addr} {L : List α} (H : RowAt f sz h a L) (s : Keep S h h') (hn : ∀ c, blkOf a c → ¬ S c) : RowAt f sz h' a L := SliceAt.keep H s hn
theorem RowAt.get (hf : ∀ x, (f x).length = sz) (hz : 0 < sz) {h : Hp} {a : Option Addr} {L : List α} (H : RowAt f sz h a L) {i : Nat} {x : α} (hx : L[i]? = some x) :
    ∃ b o, a = some ⟨b, o, none⟩ ∧ ∀ j v, (f x)[j]? = some v → h.cell b (o + i * sz + j) = some v := by
  have hi := (List.getElem?_eq_some_iff.1 hx).1
  have hle : i * sz + sz ≤ L.length * sz := by have := Nat.mul_le_mul_right sz (show i + 1 ≤ L.length by omega); rw [Nat.add_mul] at this; omega
  obtain ⟨b, o, e, _⟩ := SliceAt.cell H (i := i * sz) (by omega)
  refine ⟨b, o, e, fun j v hv => ?_⟩
  have hj : j < sz := by have := (List.getElem?_eq_some_iff.1 hv).1; rw [hf] at this; exact this
  obtain ⟨b', o', e', v', hv', hc⟩ := SliceAt.cell H (i := i * sz + j) (by omega)
  rw [e] at e'
  cases e'
  rw [rowC_get hf L i x hx j hj, hv] at hv'
  cases hv'
  rw [Nat.add_assoc]; exact hc
theorem RowAt.part (hf : ∀ x, (f x).length = sz) {h : Hp} {a : Option Addr} {L : List α} (H : RowAt f sz h a L) {c i n : Nat} (hc : L.length ≤ c) (hi : i + n ≤ L.length) : RowAt f sz h (slA c i sz a) ((L.drop i).take n) := by
  have hle : i * sz + n * sz ≤ L.length * sz := by have := Nat.mul_le_mul_right sz hi; rw [Nat.add_mul] at this; exact this
  have := SliceAt.part H (m := c) (l := i) (k := n * sz) (sz := sz) hle (fun e => by
    have : n = 0 := by omega
    rw [this, Nat.zero_mul])
  rw [rowC_drop hf, rowC_take hf] at this
  unfold RowAt
  rw [List.length_take, List.length_drop, Nat.min_eq_left (by omega)]
  exact this
theorem RowAt.blk {h : Hp} {b : Nat} {t : TypeId} {L : List α} (H : Blk h b t (rowC f L)) (hf : ∀ x, (f x).length = sz) : RowAt f sz h (some ⟨b, 0, none⟩) L := H.slice (rowC_length hf L)
def OwnR (f : α → List Value) (sz : Nat) (h : Hp) (e : TypeId) (a : Option Addr) (c : Nat) (L : List α) : Prop := Own h e sz a L.length c (rowC f L)
theorem OwnR.nil (h : Hp) (e : TypeId) : OwnR f sz h e none 0 [] := Own.nil _ _ _
theorem OwnR.row {h : Hp} {e : TypeId} {a : Option Addr} {c : Nat} {L : List α} (H : OwnR f sz h e a c L) : RowAt f sz h a L := Own.slice H
theorem OwnR.le {h : Hp} {e : TypeId} {a : Option Addr} {c : Nat} {L : List α} (H : OwnR f sz h e a c L) : L.length ≤ c := H.2.1
theorem OwnR.sub {h h' : Hp} {e : TypeId} {a : Option Addr} {c : Nat} {L : List α} (H : OwnR f sz h e a c L) (s : Sub h h') : OwnR f sz h' e a c L := Own.sub H s
theorem OwnR.keep {S : Nat → Prop} {h h' : Hp} {e : TypeId} {a : Option Addr} {c : Nat} {L : List α} (H : OwnR f sz h e a c L) (s : Keep S h h') (hn : ∀ c, blkOf a c → ¬ S c) : OwnR f sz h' e a c L := Own.keep H s hn
structure NewR (f : α → List Value) (sz : Nat) (e : TypeId) (h h' : Hp) (a : Option Addr) (c : Nat) (L : List α) : Prop where
  sub : Sub h h'
  new : ∀ b, blkOf a b → h b = none
  own : OwnR f sz h' e a c L
theorem NewR.nil (e : TypeId) (h : Hp) : NewR f sz e h h none 0 [] := ⟨Sub.refl h, (by rintro b ⟨o, s, e⟩; cases e), OwnR.nil h e⟩
theorem NewR.upd {e : TypeId} {h h' : Hp} {a : Option Addr} {c : Nat} {L : List α} (N : NewR f sz e h h' a c L) {h2 : Hp} (s : Sub h' h2) : NewR f sz e h h2 a c L := ⟨N.sub.trans s, N.new, N.own.sub s⟩
theorem NewR.back {e : TypeId} {h h0 h' : Hp} {a : Option Addr} {c : Nat} {L : List α} (N : NewR f sz e h h' a c L) (s : Sub h0 h) : NewR f sz e h0 h' a c L := ⟨s.trans N.sub, fun b hb => s.none (N.new b hb), N.own⟩
theorem append_row {P : Program} {e : TypeId} {by_ : Nat} (T : AppT P e sz by_) (hf : ∀ x, (f x).length = sz) (hp : ∀ x, plainP (f x)) {h0 h : Hp} {a : Option Addr} {c : Nat} {L M : List α} {l n : Nat} {ys : List Value} {J : Option Addr → Nat → Hp → Prop} (N : NewR f sz e h0 h a c L)
    (hl : l = L.length) (hn : n = M.length) (hy : ys = rowC f M) (hb : (2 * (L.length + M.length) + 768) * by_ ≤ 281474976710656)
    (hJ : ∀ a' c' h', NewR f sz e h0 h' a' c' (L ++ M) → J a' c' h') : appendC P e a l c h ys n J := by
  subst hl; subst hn; subst hy
  refine append_new T N.sub N.new N.own (rowC_length hf M) (rowC_plain hp M) hb fun a' c' h' g1 g2 g3 => hJ a' c' h' ⟨g1, g2, ?_⟩
  unfold OwnR
  rw [List.length_append, rowC_append]
  exact g3
theorem append_ownR {P : Program} {e : TypeId} {by_ : Nat} (T : AppT P e sz by_) (hf : ∀ x, (f x).length = sz) (hp : ∀ x, plainP (f x)) {h : Hp} {a : Option Addr} {c : Nat} {L M : List α} {l n : Nat} {ys : List Value} {J : Option Addr → Nat → Hp → Prop} (N : OwnR f sz h e a c L)
    (hl : l = L.length) (hn : n = M.length) (hy : ys = rowC f M) (hb : (2 * (L.length + M.length) + 768) * by_ ≤ 281474976710656)
    (hJ : ∀ a' c' h', OwnR f sz h' e a' c' (L ++ M) → Keep (blkOf a) h h' → (∀ b, blkOf a' b → blkOf a b ∨ h b = none) → J a' c' h') : appendC P e a l c h ys n J := by
  subst hl; subst hn; subst hy
  refine append_own T N (rowC_length hf M) (rowC_plain hp M) hb fun a' c' h' g1 g2 g3 _ => hJ a' c' h' ?_ g2 g3
  unfold OwnR
  rw [List.length_append, rowC_append]
  exact g1
theorem setL_left : ∀ (us : List Value) (A B : List Value) (j : Nat), j + us.length ≤ A.length → setL (A ++ B) j us = setL A j us ++ B
  | [], _, _, _, _ => rfl
  | u :: us, A, B, j, h => by
    simp only [List.length_cons] at h
    unfold setL
    rw [List.set_append_left _ _ (by omega), setL_left us _ B (j + 1) (by rw [List.length_set]; omega)]
theorem setL_right : ∀ (us : List Value) (A B : List Value) (j : Nat), setL (A ++ B) (A.length + j) us = A ++ setL B j us
  | [], _, _, _ => rfl
  | u :: us, A, B, j => by
    unfold setL
    rw [List.set_append_right _ _ (by omega), Nat.add_sub_cancel_left, Nat.add_assoc, setL_right us A _ (j + 1)]
theorem setL_row (hf : ∀ x, (f x).length = sz) {L : List α} {i j : Nat} {x y : α} {vs rest : List Value} (hx : L[i]? = some x) (hj : j + vs.length ≤ sz) (hy : setL (f x) j vs = f y) : setL (rowC f L ++ rest) (i * sz + j) vs = rowC f (L.set i y) ++ rest := by
  obtain ⟨h1, h2⟩ := List.getElem?_eq_some_iff.1 hx
  have hl : L = L.take i ++ x :: L.drop (i + 1) := by
    conv => lhs; rw [← List.take_append_drop i L, List.drop_eq_getElem_cons h1, h2]
  have hs : L.set i y = L.take i ++ y :: L.drop (i + 1) := List.set_eq_take_append_cons_drop ▸ if_pos h1
  have e : (rowC f (L.take i)).length = i * sz := by rw [rowC_length hf, List.length_take, Nat.min_eq_left (by omega)]
  rw [hs]
  conv => lhs; rw [hl]
  rw [rowC_append, rowC_append, rowC_cons, rowC_cons, List.append_assoc, List.append_assoc, ← e, setL_right, List.append_assoc, setL_left _ _ _ _ (by rw [hf]; exact hj), hy, List.append_assoc]
theorem OwnR.put (hf : ∀ x, (f x).length = sz) {h : Hp} {e : TypeId} {a : Option Addr} {c : Nat} {L : List α} (O : OwnR f sz h e a c L) {i j : Nat} {x y : α} {vs : List Value} (hx : L[i]? = some x) (hz : 0 < sz) (hj : j + vs.length ≤ sz) (hy : setL (f x) j vs = f y) :
    ∃ b, a = some ⟨b, 0, none⟩ ∧ StoreOk h b (0 + i * sz + j) vs.length ∧ OwnR f sz (h.put b (0 + i * sz + j) vs) e a c (L.set i y) := by
  have h1 := (List.getElem?_eq_some_iff.1 hx).1
  obtain ⟨g1, g2, g3⟩ := O
  rcases g3 with ⟨rfl, rfl⟩ | ⟨b, rest, rfl, g3, g4⟩
  · omega
  · have hle : i * sz + sz ≤ L.length * sz := by have := Nat.mul_le_mul_right sz (show i + 1 ≤ L.length by omega); rw [Nat.add_mul] at this; omega
    rw [Nat.zero_add]
    refine ⟨b, rfl, g3.store (by rw [List.length_append, rowC_length hf]; omega), ⟨by rw [rowC_length hf], by rw [List.length_set]; exact g2, .inr ⟨b, rest, rfl, ?_, by rw [List.length_set]; exact g4⟩⟩⟩
    have := g3.put (i * sz + j) vs
    rw [setL_row hf hx hj hy] at this
    exact this
theorem NewR.put (hf : ∀ x, (f x).length = sz) {e : TypeId} {h0 h : Hp} {a : Option Addr} {c : Nat} {L : List α} (N : NewR f sz e h0 h a c L) {i j : Nat} {x y : α} {vs : List Value} (hx : L[i]? = some x) (hz : 0 < sz) (hj : j + vs.length ≤ sz) (hy : setL (f x) j vs = f y) :
    ∃ b, a = some ⟨b, 0, none⟩ ∧ StoreOk h b (0 + i * sz + j) vs.length ∧ NewR f sz e h0 (h.put b (0 + i * sz + j) vs) a c (L.set i y) := by
  obtain ⟨b, h1, h2, h3⟩ := N.own.put hf hx hz hj hy
  refine ⟨b, h1, h2, ⟨?_, N.new, h3⟩⟩
  exact (Keep.put (fun c => c = b) h _ vs rfl).sub N.sub fun c hc => N.new c (by rw [hc]; exact ⟨0, none, h1⟩)
theorem RowAt.own_get (hf : ∀ x, (f x).length = sz) (hz : 0 < sz) {h : Hp} {e : TypeId} {a : Option Addr} {c : Nat} {L : List α} (H : OwnR f sz h e a c L) {i : Nat} {x : α} (hx : L[i]? = some x) :
    ∃ b, a = some ⟨b, 0, none⟩ ∧ ∀ j v, (f x)[j]? = some v → h.cell b (0 + i * sz + j) = some v := by
  obtain ⟨b, o, e1, h1⟩ := H.row.get hf hz hx
  rcases H.2.2 with ⟨e2, _⟩ | ⟨b', r, e2, _⟩
  · rw [e1] at e2; cases e2
  · rw [e1] at e2; cases e2; exact ⟨b, e1, h1⟩
theorem plainP_of {vs : List Value} (h : vs.all (fun v => match v with | .agg _ => false | .tuple _ => false | _ => true) = true) : plainP vs := fun v hv => by
  have := List.all_eq_true.1 h v hv
  constructor
  · intro c e; subst e; cases this
  · intro c e; subst e; cases this
end Go.Gx
namespace Go.Gx
theorem mget_mset (m : List (Value × Value)) (k v k' : Value) : (k' = k → mget (mset m k v) k' = some v) ∧ (k' ≠ k → mget (mset m k v) k' = mget m k') := by
  unfold mset
  cases h : mget m k with
  | some u =>
    simp only []
    constructor
    · rintro rfl
      unfold mget at h ⊢
      induction m with
      | nil => simp at h
      | cons e m ih =>
        rw [List.map_cons]
        by_cases he : e.1 = k'
        · rw [if_pos he, List.find?_cons_of_pos (by simp)]; rfl
        · rw [if_neg he, List.find?_cons_of_neg (by simpa using he)]
          rw [List.find?_cons_of_neg (by simpa using he)] at h
          exact ih h
    · intro hn
      clear h
      unfold mget
      congr 1
      have : ∀ m : List (Value × Value), (m.map fun e => @ite _ (e.1 = k) (Classical.propDecidable _) (k, v) e).find? (fun e => @decide (e.1 = k') (Classical.propDecidable _)) = m.find? (fun e => @decide (e.1 = k') (Classical.propDecidable _)) := by
        intro m
        induction m with
        | nil => rfl
        | cons e m ih =>
          rw [List.map_cons]
          by_cases he : e.1 = k
          · rw [if_pos he, List.find?_cons_of_neg (by simpa using fun h => hn h.symm), List.find?_cons_of_neg (by simpa using fun h => hn (h.symm.trans he)), ih]
          · rw [if_neg he]
            by_cases hk : e.1 = k'
            · rw [List.find?_cons_of_pos (by simpa using hk), List.find?_cons_of_pos (by simpa using hk)]
            · rw [List.find?_cons_of_neg (by simpa using hk), List.find?_cons_of_neg (by simpa using hk), ih]
      rw [this]
  | none =>
    simp only []
    constructor
    · rintro rfl
      unfold mget at h ⊢
      rw [Option.map_eq_none_iff] at h
      rw [List.find?_append, h]
      simp
    · intro hn
      unfold mget
      rw [List.find?_append]
      have : [(k, v)].find? (fun e => @decide (e.1 = k') (Classical.propDecidable _)) = none := by
        rw [List.find?_cons_of_neg (by simpa using fun h => hn h.symm)]; rfl
      rw [this]; simp
theorem YieldH.mono {P : Program} {l : Nat} {args : List Value} {h : Hp} {Q Q' : Value → Hp → Prop} (H : YieldH P l args h Q) (hq : ∀ v h', Q v h' → Q' v h') : YieldH P l args h Q' := fun w hw =>
  let ⟨fn, t, a, b, h1, h2⟩ := H w hw
  ⟨fn, t, a, b, h1, RoundIn.mono h2 fun _ _ ⟨v, h', e, q, r, s⟩ => ⟨v, h', e, hq v h' q, r, s⟩⟩
theorem Sub.own {h x : Hp} (s : Sub h x) {b : Nat} (hb : h b = Option.none) (o : Obj) : Sub h (x.upd b o) := fun c y e => by
  rw [Hp.upd_ne _ _ (fun e' => by rw [e', hb] at e; cases e)]
  exact s c y e
end Go.Gx
namespace Go.Proofs.YthbogjbcecmopaaGreatDoor
open Go.Gx
set_option maxRecDepth 100000
set_option linter.unusedVariables false

def Step (S : Nat → Prop) (h : Hp) (S' : Nat → Prop) (h' : Hp) : Prop := Keep S h h' ∧ ∀ c, S' c → S c ∨ h c = none
theorem Step.refl (S : Nat → Prop) (h : Hp) : Step S h S h := ⟨Keep.refl S h, fun _ h => .inl h⟩
theorem Step.trans {S S1 S2 : Nat → Prop} {h h1 h2 : Hp} (a : Step S h S1 h1) (b : Step S1 h1 S2 h2) : Step S h S2 h2 := by
  refine ⟨fun c o hc hn => b.1 c o (a.1 c o hc hn) fun h1 => ?_, fun c hc => ?_⟩
  · rcases a.2 c h1 with h | h
    · exact hn h
    · rw [h] at hc; cases hc
  · rcases b.2 c hc with h | h
    · exact a.2 c h
    · by_cases hS : S c
      · exact .inl hS
      · exact .inr (Option.eq_none_iff_forall_ne_some.2 fun o e4 => by rw [a.1 c o e4 hS] at h; cases h)
theorem Step.sub {S : Nat → Prop} {h h' : Hp} (s : Sub h h') : Step S h S h' := ⟨s.keep S, fun _ h => .inl h⟩
theorem Step.out {S S' : Nat → Prop} {h h' : Hp} (s : Step S h S' h') {c : Nat} {o : Obj} (hc : h c = some o) (hn : ¬ S c) : h' c = some o ∧ ¬ S' c := ⟨s.1 c o hc hn, fun h => by
  rcases s.2 c h with h | h
  · exact hn h
  · rw [h] at hc; cases hc⟩
def strC (s : ByteArray) : List Value := [.string s]
theorem strC_len (s : ByteArray) : (strC s).length = 1 := rfl
theorem strC_plain (s : ByteArray) : plainP (strC s) := plainP_of rfl
def wrC (w : Nat × ByteArray) : List Value := [.int .i64 (w.1 : Nat), .string w.2]
theorem wrC_len (w : Nat × ByteArray) : (wrC w).length = 2 := rfl
theorem wrC_plain (w : Nat × ByteArray) : plainP (wrC w) := plainP_of rfl
theorem appTStr : AppT Tryz.prog 9 1 16 := AppT.of (by kernel_rfl)
theorem appTWr : AppT Tryz.prog 168 2 24 := AppT.of (by kernel_rfl)
theorem appTByte : AppT Tryz.prog 5 1 1 := AppT.of (by kernel_rfl)
def byteC (b : UInt8) : List Value := [.int .u8 (b.toNat : Nat)]
theorem byteC_len (b : UInt8) : (byteC b).length = 1 := rfl
theorem byteC_plain (b : UInt8) : plainP (byteC b) := plainP_of rfl
theorem rowC_bytes (s : ByteArray) : rowC byteC s.data.toList = bytesV s := by
  unfold rowC bytesV byteC
  generalize s.data.toList = l
  induction l with
  | nil => rfl
  | cons b l ih => rw [List.flatMap_cons, ih]; rfl
theorem size_len (s : ByteArray) : s.data.toList.length = s.size := by rw [Array.length_toList]; rfl
structure Dk where
  l : List ByteArray
  ws : List (Nat × ByteArray)
  fuse : Nat
  down : Bool
def Dk.use (D : Dk) (at_ : Int) : Int := if D.down then 10 else if at_ < 0 then 9 else if at_ ≥ (D.l.length : Int) then 9 else 0
theorem Dk.use_ok {D : Dk} {i : Nat} (hd : D.down = false) (hi : i < D.l.length) : D.use (i : Nat) = 0 := by
  unfold Dk.use
  rw [hd, if_neg (by simp), if_neg (by omega), if_neg (by omega)]
def pick (i : Nat) (s : ByteArray) (w : Nat × ByteArray) : ByteArray := if w.1 = i then w.2 else s
def Dk.read (D : Dk) (i : Nat) : ByteArray := D.ws.foldl (pick i) (D.l.getD i (bytesL []))
def Dk.write (D : Dk) (i : Nat) (s : ByteArray) : Dk := { D with ws := D.ws ++ [(i, s)], fuse := D.fuse - 1, down := if D.fuse > 0 then decide (D.fuse = 1) else D.down }
def settleL (l : List ByteArray) (ws : List (Nat × ByteArray)) : List ByteArray := ws.foldl (fun l w => l.set w.1 w.2) l
theorem settleL_len : ∀ (ws : List (Nat × ByteArray)) (l : List ByteArray), (settleL l ws).length = l.length
  | [], _ => rfl
  | w :: ws, l => by
    show (settleL (l.set w.1 w.2) ws).length = _
    rw [settleL_len ws, List.length_set]
theorem settleL_sz : ∀ (ws : List (Nat × ByteArray)) (l : List ByteArray), (∀ s ∈ l, s.size = 256) → (∀ w ∈ ws, w.2.size = 256) → ∀ s ∈ settleL l ws, s.size = 256
  | [], _, h, _ => h
  | w :: ws, l, h, hw => settleL_sz ws (l.set w.1 w.2) (fun s hs => by
    rcases List.mem_or_eq_of_mem_set hs with h' | h'
    · exact h s h'
    · rw [h']; exact hw w List.mem_cons_self) fun w' hw' => hw w' (List.mem_cons_of_mem _ hw')
def Dk.flush (D : Dk) : Dk := { D with l := settleL D.l D.ws, ws := [] }
structure DkAt (h : Hp) (db : Nat) (S : Nat → Prop) (D : Dk) : Prop where
  at_ : ∃ la lc wa wc, ∃ n : Int, Blk h db 128 [.slice la D.l.length lc, .slice wa D.ws.length wc, .int .i64 (D.fuse : Nat), .int .i64 n, .bool D.down] ∧ OwnR strC 1 h 9 la lc D.l ∧ OwnR wrC 2 h 168 wa wc D.ws ∧
    (∀ c, blkOf la c → c ≠ db ∧ ¬ blkOf wa c) ∧ (∀ c, blkOf wa c → c ≠ db) ∧ ∀ c, S c ↔ (c = db ∨ blkOf la c ∨ blkOf wa c)
  idx : ∀ w ∈ D.ws, w.1 < D.l.length ∧ w.2.size = 256
  len : D.l.length ≤ 2048
  lsz : ∀ s ∈ D.l, s.size = 256
  wlen : D.ws.length ≤ 4096
  fuse : D.fuse < 9223372036854775808
variable {h : Hp} {db : Nat} {S : Nat → Prop} {D : Dk} {K : Value → Hp → Prop}
theorem DkAt.out {S' : Nat → Prop} {h' : Hp} (H : DkAt h db S D) (s : Keep S' h h') (hn : ∀ c, S c → ¬ S' c) : DkAt h' db S D := by
  obtain ⟨la, lc, wa, wc, n, h1, h2, h3, h4, h5, h6⟩ := H.at_
  exact ⟨⟨la, lc, wa, wc, n, h1.keep s (hn _ ((h6 _).2 (.inl rfl))), h2.keep s fun c hc => hn c ((h6 c).2 (.inr (.inl hc))), h3.keep s fun c hc => hn c ((h6 c).2 (.inr (.inr hc))), h4, h5, h6⟩, H.idx, H.len, H.lsz, H.wlen, H.fuse⟩
theorem DkAt.sub {h' : Hp} (H : DkAt h db S D) (s : Sub h h') : DkAt h' db S D := H.out (S' := fun _ => False) (s.keep _) fun _ _ h => h
theorem DkAt.in_heap (H : DkAt h db S D) {c : Nat} (hc : S c) : h c ≠ none := by
  obtain ⟨la, lc, wa, wc, n, h1, h2, h3, h4, h5, h6⟩ := H.at_
  rcases (h6 c).1 hc with rfl | hc | hc
  · intro e; unfold Blk at h1; rw [h1] at e; cases e
  · exact Own.in_heap h2 hc
  · exact Own.in_heap h3 hc
theorem DkAt.read_sz (H : DkAt h db S D) {i : Nat} (hi : i < D.l.length) : (D.read i).size = 256 := by
  unfold Dk.read
  have : ∀ (ws : List (Nat × ByteArray)) (s : ByteArray), s.size = 256 → (∀ w ∈ ws, w.2.size = 256) → (ws.foldl (pick i) s).size = 256 := by
    intro ws
    induction ws with
    | nil => intro s h _; exact h
    | cons w ws ih =>
      intro s h hw
      refine ih _ ?_ fun w' h' => hw w' (List.mem_cons_of_mem _ h')
      unfold pick
      split
      · exact hw w List.mem_cons_self
      · exact h
  refine this _ _ ?_ fun w hw => (H.idx w hw).2
  rw [List.getD_eq_getElem?_getD, List.getElem?_eq_getElem hi]
  exact H.lsz _ (List.getElem_mem hi)
theorem use_spec (H : DkAt h db S D) (at_ : Int) (hK : K (.int .i64 (D.use at_)) h) : CallsH Tryz.prog disk_Disk_use.id #[.pointer (some ⟨db, 0, none⟩), .int .i64 at_] h K := by
  obtain ⟨la, lc, wa, wc, n, h1, h2, h3, h4, h5, h6⟩ := H.at_
  apply disk_Disk_use.calls
  unfold disk_Disk_use.W
  unfold Dk.use at hK
  refine ⟨_, h1.cell' 4 rfl, split_cond (fun e1 => ?_) fun e1 => split_dec (fun e2 => ?_) fun e2 => ⟨_, _, _, h1.cell' 0 rfl, split_dec (fun e3 => ?_) fun e3 => ?_⟩⟩
  · rw [e1, if_pos rfl] at hK; exact hK
  · rw [e1, if_neg (by simp), if_pos e2] at hK; exact hK
  · have e3 : at_ ≥ (D.l.length : Int) := e3
    rw [e1, if_neg (by simp), if_neg e2, if_pos e3] at hK; exact hK
  · have e3 : ¬ at_ ≥ (D.l.length : Int) := e3
    rw [e1, if_neg (by simp), if_neg e2, if_neg e3] at hK; exact hK
theorem size_spec (H : DkAt h db S D) (hK : K (.int .i64 (D.l.length : Nat)) h) : CallsH Tryz.prog disk_Disk_Size.id #[.pointer (some ⟨db, 0, none⟩)] h K := by
  obtain ⟨la, lc, wa, wc, n, h1, h2, h3, h4, h5, h6⟩ := H.at_
  apply disk_Disk_Size.calls
  unfold disk_Disk_Size.W
  exact ⟨_, _, _, h1.cell' 0 rfl, hK⟩
theorem up_spec (H : DkAt h db S D) (hK : K (.bool !D.down) h) : CallsH Tryz.prog disk_Disk_Up.id #[.pointer (some ⟨db, 0, none⟩)] h K := by
  obtain ⟨la, lc, wa, wc, n, h1, h2, h3, h4, h5, h6⟩ := H.at_
  apply disk_Disk_Up.calls
  unfold disk_Disk_Up.W
  exact ⟨_, h1.cell' 4 rfl, hK⟩
theorem read_spec (H : DkAt h db S D) {i : Nat} (hi : i < D.l.length) (hd : D.down = false) (hK : K (.tuple #[.string (D.read i), .int .i64 0]) h) : CallsH Tryz.prog disk_Disk_Read.id #[.pointer (some ⟨db, 0, none⟩), .int .i64 (i : Nat)] h K := by
  apply disk_Disk_Read.calls
  unfold disk_Disk_Read.W
  have hw := H.wlen
  have hll := H.len
  refine use_spec H _ ⟨_, rfl, split_ne (fun e => absurd (Dk.use_ok hd hi) e) fun _ => ?_⟩
  obtain ⟨la, lc, wa, wc, n, h1, h2, h3, h4, h5, h6⟩ := H.at_
  have hq : D.l[i]? = some D.l[i] := List.getElem?_eq_getElem hi
  obtain ⟨b, o, ea, hc⟩ := h2.row.get strC_len (by decide) hq
  refine ⟨_, _, _, h1.cell' 0 rfl, by omega, by show (i : Int) < (D.l.length : Int); omega, b, o, ea, _, hc 0 _ rfl, _, _, _, h1.cell' 1 rfl, ?_⟩
  refine ⟨fun s k x m => ∃ j : Nat, k = (j : Int) ∧ j ≤ D.ws.length ∧ m = D.ws.length - j ∧ x = h ∧ s = (D.ws.take j).foldl (pick i) (D.l.getD i (bytesL [])), ⟨_, 0, rfl, Nat.zero_le _, rfl, rfl, ?_⟩, ?_⟩
  · rw [List.take_zero, List.foldl_nil, List.getD_eq_getElem?_getD, hq]; rfl
  · rintro s k x m ⟨j, rfl, hj, rfl, rfl, rfl⟩
    refine split_dec (fun g => ?_) fun g => ?_
    · have g : j < D.ws.length := by have : (j : Int) < (D.ws.length : Int) := g; omega
      have hw2 : D.ws[j]? = some D.ws[j] := List.getElem?_eq_getElem g
      generalize D.ws[j] = w at hw2
      obtain ⟨b2, o2, ea2, hc2⟩ := h3.row.get wrC_len (by decide) hw2
      have ht : (D.ws.take (j + 1)).foldl (pick i) (D.l.getD i (bytesL [])) = pick i ((D.ws.take j).foldl (pick i) (D.l.getD i (bytesL []))) w := by
        rw [List.take_add_one, hw2, List.foldl_append]; rfl
      refine ⟨by omega, by show (j : Int) < (D.ws.length : Int); omega, b2, o2, ea2, _, hc2 0 _ rfl, _, hc2 1 _ rfl, ?_⟩
      have hb : beqS w.2 w.2 = true := by rw [beqS_val]; simp
      rw [hb, hb_eq]
      refine split_cond (fun e => ?_) fun e => ?_
      · have e : (w.1 : Int) = (i : Int) := by simpa using e
        refine ⟨D.ws.length - (j + 1), by omega, j + 1, by rw [wid (by omega) (by omega)]; omega, by omega, rfl, rfl, ?_⟩
        rw [ht]; unfold pick; rw [if_pos (by omega)]
      · have e : ¬ (w.1 : Int) = (i : Int) := by simpa using e
        refine ⟨D.ws.length - (j + 1), by omega, j + 1, by rw [wid (by omega) (by omega)]; omega, by omega, rfl, rfl, ?_⟩
        rw [ht]; unfold pick; rw [if_neg (by omega)]
    · have : j = D.ws.length := by
        have : ¬ (j : Int) < (D.ws.length : Int) := g
        omega
      subst this
      rw [List.take_length]
      exact hK
theorem write_bad (H : DkAt h db S D) (at_ : Int) (s : ByteArray) (hu : D.use at_ ≠ 0) (hK : K (.int .i64 (D.use at_)) h) : CallsH Tryz.prog disk_Disk_Write.id #[.pointer (some ⟨db, 0, none⟩), .int .i64 at_, .string s] h K := by
  apply disk_Disk_Write.calls
  unfold disk_Disk_Write.W
  exact use_spec H at_ ⟨_, rfl, split_ne (fun _ => hK) fun e => absurd e hu⟩
theorem write_spec (H : DkAt h db S D) {i : Nat} (hi : i < D.l.length) (hd : D.down = false) (s : ByteArray) (hs : s.size = 256) (hw : D.ws.length < 4096)
    (hK : ∀ h' S', DkAt h' db S' (D.write i s) → Step S h S' h' → K (.int .i64 0) h') : CallsH Tryz.prog disk_Disk_Write.id #[.pointer (some ⟨db, 0, none⟩), .int .i64 (i : Nat), .string s] h K := by
  apply disk_Disk_Write.calls
  unfold disk_Disk_Write.W
  have hll := H.len
  refine use_spec H _ ⟨_, rfl, split_ne (fun e => absurd (Dk.use_ok hd hi) e) fun _ => split_ne (fun e => absurd (by show (s.size : Int) = 256; omega) e) fun _ => ?_⟩
  obtain ⟨la, lc, wa, wc, n, h1, h2, h3, h4, h5, h6⟩ := H.at_
  refine ⟨_, _, _, h1.cell' 1 rfl, fun k7 hk7 => ?_⟩
  have s7 := Sub.upd hk7 (.cells #[.int .i64 (i : Nat), .string s] 168 (0, 0))
  have hx : SliceAt (h.upd k7 (.cells #[.int .i64 (i : Nat), .string s] 168 (0, 0))) (some ⟨k7, 0, none⟩) 2 (wrC (i, s)) := (Blk.new h k7 168 (wrC (i, s))).slice rfl
  refine ⟨_, hx, fun a' c' y => OwnR wrC 2 y 168 a' c' (D.ws ++ [(i, s)]) ∧ Keep (blkOf wa) h y ∧ ∀ b, blkOf a' b → blkOf wa b ∨ h b = none, ?_, ?_⟩
  · rintro a' c' y ⟨o1, o2, o3⟩
    have B0 := h1.keep o2 fun hc => h5 _ hc rfl
    have L0 := h2.keep o2 fun c hc => (h4 c hc).2
    have hdb : ∀ b, blkOf a' b → b ≠ db := fun b hb e => by
      rcases o3 b hb with h | h
      · exact h5 b h e
      · rw [e] at h; unfold Blk at h1; rw [h1] at h; cases h
    have hla : ∀ b, blkOf la b → ¬ blkOf a' b := fun b hb hb' => by
      rcases o3 b hb' with h | h
      · exact (h4 b hb).2 h
      · exact Own.in_heap h2 hb h
    have B1 : Blk (y.put db (0 + 1) [.slice a' (D.ws.length + 1) c']) db 128 [.slice la D.l.length lc, .slice a' (D.ws.length + 1) c', .int .i64 (D.fuse : Nat), .int .i64 n, .bool D.down] := B0.put 1 _
    have B2 : Blk ((y.put db (0 + 1) [.slice a' (D.ws.length + 1) c']).put db (0 + 3) [.int .i64 (IntKind.i64.wrap (n + 1))]) db 128 [.slice la D.l.length lc, .slice a' (D.ws.length + 1) c', .int .i64 (D.fuse : Nat), .int .i64 (IntKind.i64.wrap (n + 1)), .bool D.down] := B1.put 3 _
    have fin : ∀ (z : Hp) (f : Nat) (d : Bool), Keep (fun c => c = db) y z → Blk z db 128 [.slice la D.l.length lc, .slice a' (D.ws.length + 1) c', .int .i64 (f : Nat), .int .i64 (IntKind.i64.wrap (n + 1)), .bool d] → f = (D.write i s).fuse → d = (D.write i s).down → K (.int .i64 0) z := by
      intro z f d kz Bz ef ed
      have hlen : (D.ws ++ [(i, s)]).length = D.ws.length + 1 := by simp
      refine hK z (fun c => c = db ∨ blkOf la c ∨ blkOf a' c) ⟨⟨la, lc, a', c', _, by subst ef; subst ed; rw [show (D.write i s).ws.length = D.ws.length + 1 from hlen]; exact Bz, L0.keep kz fun c hc e => (h4 c hc).1 e, o1.keep kz fun c hc e => hdb c hc e, fun c hc => ⟨(h4 c hc).1, hla c hc⟩, hdb, fun c => Iff.rfl⟩, ?_, hll, H.lsz, by rw [show (D.write i s).ws.length = D.ws.length + 1 from hlen]; omega, ?_⟩ ⟨?_, ?_⟩
      · intro w hw'
        rcases List.mem_append.1 hw' with h | h
        · exact H.idx w h
        · rw [List.mem_singleton] at h; rw [h]; exact ⟨hi, hs⟩
      · have := H.fuse
        show D.fuse - 1 < _
        omega
      · exact ((o2.mono fun c hc => (h6 c).2 (.inr (.inr hc))).trans (kz.mono fun c hc => (h6 c).2 (.inl hc)))
      · rintro c (rfl | hc | hc)
        · exact .inl ((h6 _).2 (.inl rfl))
        · exact .inl ((h6 _).2 (.inr (.inl hc)))
        · rcases o3 c hc with h | h
          · exact .inl ((h6 _).2 (.inr (.inr h)))
          · exact .inr h
    have kp : ∀ (z : Hp) (o : Nat) (vs : List Value), Keep (fun c => c = db) z (z.put db o vs) := fun z o vs => Keep.put _ z o vs rfl
    have hf := H.fuse
    refine ⟨B0.store (by show 1 + 1 ≤ 5; omega), _, B1.cell' 3 rfl, B1.store (by show 3 + 1 ≤ 5; omega), _, B2.cell' 2 rfl, split_dec (fun g => ?_) fun g => ?_⟩
    · have g : 0 < D.fuse := by have : (D.fuse : Int) > 0 := g; omega
      have ew : IntKind.i64.wrap ((D.fuse : Int) - 1) = ((D.fuse - 1 : Nat) : Int) := by rw [wid (by omega) (by omega)]; omega
      refine ⟨_, B2.cell' 2 rfl, B2.store (by show 2 + 1 ≤ 5; omega), ?_⟩
      rw [ew]
      have B3 : Blk (((y.put db (0 + 1) [.slice a' (D.ws.length + 1) c']).put db (0 + 3) [.int .i64 (IntKind.i64.wrap (n + 1))]).put db (0 + 2) [.int .i64 ((D.fuse - 1 : Nat) : Int)]) db 128 [.slice la D.l.length lc, .slice a' (D.ws.length + 1) c', .int .i64 ((D.fuse - 1 : Nat) : Int), .int .i64 (IntKind.i64.wrap (n + 1)), .bool D.down] := B2.put 2 _
      refine ⟨_, B3.cell' 2 rfl, B3.store (by show 4 + 1 ≤ 5; omega), fin _ (D.fuse - 1) (hb (((D.fuse - 1 : Nat) : Int) == 0)) ((((kp _ _ _).trans (kp _ _ _)).trans (kp _ _ _)).trans (kp _ _ _)) (B3.put 4 _) rfl ?_⟩
      rw [hb_eq]
      show _ = if D.fuse > 0 then decide (D.fuse = 1) else D.down
      rw [if_pos g]
      by_cases e : D.fuse = 1
      · rw [e]; rfl
      · have h0 : ¬ ((D.fuse - 1 : Nat) : Int) = 0 := by omega
        rw [decide_eq_false e]
        exact beq_false_of_ne h0
    · have g : D.fuse = 0 := by have : ¬ (D.fuse : Int) > 0 := g; omega
      refine fin _ D.fuse D.down ((kp _ _ _).trans (kp _ _ _)) B2 ?_ ?_
      · show D.fuse = D.fuse - 1
        omega
      · show _ = if D.fuse > 0 then decide (D.fuse = 1) else D.down
        rw [if_neg (by omega)]
  · refine append_ownR appTWr wrC_len wrC_plain (M := [(i, s)]) (h3.sub s7) rfl rfl (rowC_one _).symm (by simp; omega) fun a' c' y o k nw => ⟨o, fun c o' hc hn => k c o' (s7 c o' hc) hn, fun b hb => ?_⟩
    rcases nw b hb with h | h
    · exact .inl h
    · exact .inr (s7.none h)
theorem settle_spec (H : DkAt h db S D) (hK : ∀ h' S', DkAt h' db S' D.flush → Step S h S' h' → K (.tuple #[]) h') : CallsH Tryz.prog disk_Disk_settle.id #[.pointer (some ⟨db, 0, none⟩), .func (.func 131) #[] #[]] h K := by
  apply disk_Disk_settle_1f131.calls
  unfold disk_Disk_settle_1f131.W
  have hw := H.wlen
  obtain ⟨la, lc, wa, wc, n, h1, h2, h3, h4, h5, h6⟩ := H.at_
  refine ⟨_, _, _, h1.cell' 1 rfl, fun k x m => ∃ j : Nat, k = (j : Int) ∧ j ≤ D.ws.length ∧ m = D.ws.length - j ∧ Keep (blkOf la) h x ∧ OwnR strC 1 x 9 la lc (settleL D.l (D.ws.take j)), ⟨_, 0, rfl, Nat.zero_le _, rfl, Keep.refl _ _, h2⟩, ?_⟩
  rintro k x m ⟨j, rfl, hj, rfl, kx, ox⟩
  have Bx := h1.keep kx fun hc => (h4 _ hc).1 rfl
  have wx := h3.keep kx fun c hc hc' => (h4 c hc').2 hc
  refine split_dec (fun g => ?_) fun g => ?_
  · have g : j < D.ws.length := by have : (j : Int) < (D.ws.length : Int) := g; omega
    have hw2 : D.ws[j]? = some D.ws[j] := List.getElem?_eq_getElem g
    have hwi := (H.idx D.ws[j] (List.getElem_mem g)).1
    generalize D.ws[j] = w at hw2 hwi
    obtain ⟨b2, o2, ea2, hc2⟩ := wx.row.get wrC_len (by decide) hw2
    have ht : settleL D.l (D.ws.take (j + 1)) = (settleL D.l (D.ws.take j)).set w.1 w.2 := by
      unfold settleL
      rw [List.take_add_one, hw2, List.foldl_append]; rfl
    have hsl := settleL_len (D.ws.take j) D.l
    obtain ⟨b, eb, so, op⟩ := ox.put strC_len (i := w.1) (j := 0) (x := (settleL D.l (D.ws.take j))[w.1]'(by omega)) (y := w.2) (vs := [.string w.2]) (List.getElem?_eq_getElem (by omega)) (by decide) (Nat.le_refl 1) rfl
    refine ⟨by omega, by show (j : Int) < (D.ws.length : Int); omega, b2, o2, ea2, _, hc2 0 _ rfl, _, hc2 1 _ rfl, disk_Disk_Flush_1.calls _ ⟨_, rfl, ?_⟩⟩
    refine ⟨_, _, _, Bx.cell' 0 rfl, by omega, by show (w.1 : Int) < (D.l.length : Int); omega, b, 0, eb, ?_, ?_⟩
    · have e : 0 + w.1 * 1 + 0 = 0 + (w.1 : Int).toNat * 1 := by rw [Int.toNat_natCast]; omega
      rw [← e]; exact so
    · have e : 0 + w.1 * 1 + 0 = 0 + (w.1 : Int).toNat * 1 := by rw [Int.toNat_natCast]; omega
      rw [← e]
      refine ⟨D.ws.length - (j + 1), by omega, j + 1, by rw [wid (by omega) (by omega)]; omega, by omega, rfl, kx.trans (Keep.put _ _ _ _ ⟨0, none, eb⟩), ?_⟩
      rw [ht]; exact op
  · have : j = D.ws.length := by
      have : ¬ (j : Int) < (D.ws.length : Int) := g
      omega
    subst this
    rw [List.take_length] at ox
    have hl := settleL_len D.ws D.l
    have B2 : Blk (x.put db (0 + 1) [.slice none 0 0]) db 128 [.slice la D.l.length lc, .slice none 0 0, .int .i64 (D.fuse : Nat), .int .i64 n, .bool D.down] := Bx.put 1 _
    have kd : Keep (fun c => c = db) x (x.put db (0 + 1) [.slice none 0 0]) := Keep.put _ x _ _ rfl
    refine ⟨Bx.store (by show 1 + 1 ≤ 5; omega), hK _ (fun c => c = db ∨ blkOf la c) ⟨⟨la, lc, none, 0, n, ?_, ox.keep kd fun c hc e => (h4 c hc).1 e, OwnR.nil _ _, fun c hc => ⟨(h4 c hc).1, fun ⟨o, s, e⟩ => by cases e⟩, (fun c ⟨o, s, e⟩ => by cases e), fun c => ⟨fun hc => hc.imp id .inl, fun hc => hc.imp id fun hc => hc.elim id fun ⟨o, s, e⟩ => by cases e⟩⟩, (fun w hw => by cases hw), ?_, settleL_sz _ _ H.lsz (fun w hw => (H.idx w hw).2), Nat.zero_le _, H.fuse⟩ ⟨?_, fun c hc => .inl ((h6 c).2 (hc.imp id .inl))⟩⟩
    · show Blk _ db 128 [.slice la (settleL D.l D.ws).length lc, .slice none 0 0, .int .i64 (D.fuse : Nat), .int .i64 n, .bool D.down]
      rw [hl]; exact B2
    · show (settleL D.l D.ws).length ≤ 2048
      rw [hl]; exact H.len
    · exact (kx.mono fun c hc => (h6 c).2 (.inr (.inl hc))).trans (kd.mono fun c hc => (h6 c).2 (.inl hc))
theorem flush_bad (H : DkAt h db S D) (hu : D.use 0 ≠ 0) (hK : K (.int .i64 (D.use 0)) h) : CallsH Tryz.prog disk_Disk_Flush.id #[.pointer (some ⟨db, 0, none⟩)] h K := by
  apply disk_Disk_Flush.calls
  unfold disk_Disk_Flush.W
  exact use_spec H 0 ⟨_, rfl, split_ne (fun _ => hK) fun e => absurd e hu⟩
theorem flush_spec (H : DkAt h db S D) (hl : 0 < D.l.length) (hd : D.down = false) (hK : ∀ h' S', DkAt h' db S' D.flush → Step S h S' h' → K (.int .i64 0) h') : CallsH Tryz.prog disk_Disk_Flush.id #[.pointer (some ⟨db, 0, none⟩)] h K := by
  apply disk_Disk_Flush.calls
  unfold disk_Disk_Flush.W
  have hu : D.use 0 = 0 := Dk.use_ok (i := 0) hd hl
  exact use_spec H 0 ⟨_, rfl, split_ne (fun e => absurd hu e) fun _ => settle_spec H fun h' S' H' st => ⟨rfl, hK h' S' H' st⟩⟩
def zeroB (n : Nat) : ByteArray := ⟨(List.replicate n 0).toArray⟩
theorem zeroB_size (n : Nat) : (zeroB n).size = n := by show (List.replicate n (0 : UInt8)).toArray.size = n; simp
theorem zeroB_bytes (n : Nat) : bytesV (zeroB n) = repV n [.int .u8 0] := by
  unfold bytesV repV
  show (List.replicate n (0 : UInt8)).map _ = _
  induction n with
  | zero => rfl
  | succ n ih => rw [List.replicate_succ, List.map_cons, ih, List.replicate_succ, List.flatten_cons]; rfl
theorem zero_slice {h : Hp} {k : Nat} {t : TypeId} {n : Nat} (H : h k = some (.cells (repV n [.int .u8 0]).toArray t (0, 0))) : SliceAt h (some ⟨k, 0, none⟩) n (bytesV (zeroB n)) := by
  rw [zeroB_bytes]
  refine Blk.slice (t := t) H ?_
  unfold repV; simp
def Dk.new (n : Nat) : Dk := ⟨List.replicate n (zeroB 256), [], 0, false⟩
theorem dnew_spec (n : Nat) (h1 : 1 ≤ n) (h2 : n ≤ 2048) (hK : ∀ h' db S, DkAt h' db S (Dk.new n) → Sub h h' → (∀ c, S c → h c = none) → K (.tuple #[.pointer (some ⟨db, 0, none⟩), .int .i64 0]) h') : CallsH Tryz.prog disk_New.id #[.int .i64 (n : Nat)] h K := by
  apply disk_New.calls
  unfold disk_New.W
  refine split_dec (fun e => by have e : (n : Int) < 1 := e; omega) fun _ => split_dec (fun e => by have e : (n : Int) > 2048 := e; omega) fun _ => ?_
  intro k1 hk1
  refine ⟨by decide, by decide, by decide, by decide, fun k2 hk2 => ⟨zeroB 256, zero_slice (Hp.upd_same _ _ _), ?_⟩⟩
  have hne : k2 ≠ k1 := fun e => by rw [e, Hp.upd_same] at hk2; cases hk2
  rw [Hp.upd_ne _ _ hne] at hk2
  have B0 : Blk ((h.upd k1 (.cells #[.slice none 0 0, .slice none 0 0, .int .i64 0, .int .i64 0, .bool false] 128 (0, 0))).upd k2 (.cells (repV 256 [.int .u8 0]).toArray 5 (0, 0))) k1 128 [.slice none 0 0, .slice none 0 0, .int .i64 0, .int .i64 0, .bool false] :=
    (Blk.new h k1 128 _).upd (by rw [Hp.upd_ne _ _ hne]; exact hk2) _
  have s0 : Sub h ((h.upd k1 (.cells #[.slice none 0 0, .slice none 0 0, .int .i64 0, .int .i64 0, .bool false] 128 (0, 0))).upd k2 (.cells (repV 256 [.int .u8 0]).toArray 5 (0, 0))) :=
    (Sub.upd hk1 _).trans (Sub.upd (by rw [Hp.upd_ne _ _ hne]; exact hk2) _)
  generalize (h.upd k1 (.cells #[.slice none 0 0, .slice none 0 0, .int .i64 0, .int .i64 0, .bool false] 128 (0, 0))).upd k2 (.cells (repV 256 [.int .u8 0]).toArray 5 (0, 0)) = h1' at B0 s0
  refine ⟨fun i x m => ∃ (j : Nat) (la : Option Addr) (lc : Nat), i = (j : Int) ∧ j ≤ n ∧ m = n - j ∧ Sub h x ∧ Blk x k1 128 [.slice la j lc, .slice none 0 0, .int .i64 0, .int .i64 0, .bool false] ∧ OwnR strC 1 x 9 la lc (List.replicate j (zeroB 256)) ∧ ∀ c, blkOf la c → c ≠ k1 ∧ h c = none,
    ⟨_, 0, none, 0, rfl, Nat.zero_le _, rfl, s0, B0, OwnR.nil _ _, fun c ⟨o, s, e⟩ => by cases e⟩, ?_⟩
  rintro i x m ⟨j, la, lc, rfl, hj, rfl, sx, Bx, ox, nx⟩
  refine split_dec (fun g => ?_) fun g => ?_
  · have g : j < n := by have : (j : Int) < (n : Int) := g; omega
    refine ⟨_, _, _, Bx.cell' 0 rfl, fun k hk => ⟨_, (Blk.new x k 9 (strC (zeroB 256))).slice rfl, fun a' c' y => OwnR strC 1 y 9 a' c' (List.replicate (j + 1) (zeroB 256)) ∧ Keep (blkOf la) x y ∧ ∀ b, blkOf a' b → blkOf la b ∨ x b = none, ?_, ?_⟩⟩
    · rintro a' c' y ⟨o1, o2, o3⟩
      have By := Bx.keep o2 fun hc => (nx _ hc).1 rfl
      have sy : Sub h y := o2.sub sx fun c hc => (nx c hc).2
      have hk1' : ∀ c, blkOf a' c → c ≠ k1 ∧ h c = none := fun c hc => by
        rcases o3 c hc with h' | h'
        · exact nx c h'
        · exact ⟨(fun e => by rw [e] at h'; unfold Blk at Bx; rw [Bx] at h'; cases h'), sx.none h'⟩
      have kp : Keep (fun c => c = k1) y (y.put k1 0 [.slice a' (j + 1) c']) := Keep.put _ y _ _ rfl
      exact ⟨By.store (by show 0 + 1 ≤ 5; omega), n - (j + 1), by omega, j + 1, a', c', by rw [wid (by omega) (by omega)]; omega, by omega, rfl, kp.sub sy (fun c e => by rw [e]; exact hk1), By.put 0 _, o1.keep kp fun c hc e => (hk1' c hc).1 e, hk1'⟩
    · refine append_ownR appTStr strC_len strC_plain (M := [zeroB 256]) (ox.sub (Sub.upd hk _)) (by simp) rfl (rowC_one _).symm (by simp; omega) fun a' c' y o k' nw => ⟨by rw [List.replicate_succ']; exact o, fun c o' hc hn => k' c o' (Sub.upd hk _ c o' hc) hn, fun b hb => ?_⟩
      rcases nw b hb with h | h
      · exact .inl h
      · exact .inr ((Sub.upd hk _).none h)
  · have : j = n := by
      have : ¬ (j : Int) < (n : Int) := g
      omega
    subst this
    refine hK x k1 (fun c => c = k1 ∨ blkOf la c) ⟨⟨la, lc, none, 0, 0, ?_, ox, OwnR.nil _ _, fun c hc => ⟨(nx c hc).1, fun ⟨o, s, e⟩ => by cases e⟩, (fun c ⟨o, s, e⟩ => by cases e), fun c => ⟨fun hc => hc.imp id .inl, fun hc => hc.imp id fun hc => hc.elim id fun ⟨o, s, e⟩ => by cases e⟩⟩, (fun w hw => by cases hw), ?_, (fun s hs => by rw [(List.mem_replicate.1 hs).2]; exact zeroB_size 256), Nat.zero_le _, (by show 0 < 9223372036854775808; omega)⟩ sx fun c hc => ?_
    · show Blk x k1 128 [.slice la (List.replicate j (zeroB 256)).length lc, .slice none 0 0, .int .i64 0, .int .i64 0, .bool false]
      rw [List.length_replicate]; exact Bx
    · show (List.replicate j (zeroB 256)).length ≤ 2048
      rw [List.length_replicate]; exact h2
    · rcases hc with rfl | hc
      · exact hk1
      · exact (nx c hc).2
end Go.Proofs.YthbogjbcecmopaaGreatDoor
namespace Go.Proofs.YthbogjbcecmopaaGreatDoor
open Go.Gx
set_option maxRecDepth 100000
set_option linter.unusedVariables false

structure JAt (h : Hp) (jb db : Nat) (S : Nat → Prop) (n : Nat) (D : Dk) : Prop where
  ex : ∃ S0, Blk h jb 131 [.pointer (some ⟨db, 0, none⟩), .int .i64 (n : Nat)] ∧ DkAt h db S0 D ∧ ¬ S0 jb ∧ ∀ c, S c ↔ (c = jb ∨ S0 c)
  n1 : 1 ≤ n
  n2 : n ≤ 128
  len : 8 * n + 1 ≤ D.l.length
variable {h : Hp} {jb db n : Nat} {S : Nat → Prop} {D : Dk} {K : Value → Hp → Prop}
theorem JAt.out {S' : Nat → Prop} {h' : Hp} (J : JAt h jb db S n D) (s : Keep S' h h') (hn : ∀ c, S c → ¬ S' c) : JAt h' jb db S n D := by
  obtain ⟨S0, h1, h2, h3, h4⟩ := J.ex
  exact ⟨⟨S0, h1.keep s (hn _ ((h4 _).2 (.inl rfl))), h2.out s fun c hc => hn c ((h4 c).2 (.inr hc)), h3, h4⟩, J.n1, J.n2, J.len⟩
theorem JAt.sub {h' : Hp} (J : JAt h jb db S n D) (s : Sub h h') : JAt h' jb db S n D := J.out (S' := fun _ => False) (s.keep _) fun _ _ h => h
theorem JAt.in_heap (J : JAt h jb db S n D) {c : Nat} (hc : S c) : h c ≠ none := by
  obtain ⟨S0, h1, h2, h3, h4⟩ := J.ex
  rcases (h4 c).1 hc with rfl | hc
  · intro e; unfold Blk at h1; rw [h1] at e; cases e
  · exact h2.in_heap hc
theorem JAt.step (J : JAt h jb db S n D) : ∃ S0, DkAt h db S0 D ∧ Blk h jb 131 [.pointer (some ⟨db, 0, none⟩), .int .i64 (n : Nat)] ∧
    ∀ h' S1 D', DkAt h' db S1 D' → Step S0 h S1 h' → D'.l.length = D.l.length → ∃ S', JAt h' jb db S' n D' ∧ Step S h S' h' := by
  obtain ⟨S0, h1, h2, h3, h4⟩ := J.ex
  refine ⟨S0, h2, h1, fun h' S1 D' H' st hl => ⟨fun c => c = jb ∨ S1 c, ⟨⟨S1, h1.keep st.1 h3, H', ?_, fun c => Iff.rfl⟩, J.n1, J.n2, by rw [hl]; exact J.len⟩, ⟨st.1.mono fun c hc => (h4 c).2 (.inr hc), ?_⟩⟩⟩
  · exact (st.out h1 h3).2
  · rintro c (rfl | hc)
    · exact .inl ((h4 _).2 (.inl rfl))
    · rcases st.2 c hc with h | h
      · exact .inl ((h4 _).2 (.inr h))
      · exact .inr h
theorem jown_spec (J : JAt h jb db S n D) (i : Nat) (hi : i < 1000) (hK : K (.int .i64 ((1 + 4 * (n + i) : Nat) : Int)) h) : CallsH Tryz.prog journal_Journal_own.id #[.pointer (some ⟨jb, 0, none⟩), .int .i64 (i : Nat)] h K := by
  obtain ⟨S0, h1, h2, h3, h4⟩ := J.ex
  have := J.n2
  apply journal_Journal_own.calls
  unfold journal_Journal_own.W
  refine ⟨_, h1.cell' 1 rfl, ?_⟩
  have e : IntKind.i64.wrap (1 + IntKind.i64.wrap (4 * IntKind.i64.wrap ((n : Int) + (i : Int)))) = ((1 + 4 * (n + i) : Nat) : Int) := by
    rw [wid (x := (n : Int) + (i : Int)) (by omega) (by omega), wid (x := 4 * ((n : Int) + (i : Int))) (by omega) (by omega), wid (by omega) (by omega)]; omega
  rw [e]; exact hK
def Dk.look (D : Dk) (at_ : Nat) : Nat → List UInt8
  | 0 => []
  | i + 1 => D.look at_ i ++ (D.read (at_ + i)).data.toList
def Dk.page (D : Dk) (at_ : Nat) : ByteArray := ⟨(D.look at_ 4).toArray⟩
theorem look_len (H : DkAt h db S D) {at_ : Nat} : ∀ i, at_ + i ≤ D.l.length → (D.look at_ i).length = 256 * i
  | 0, _ => rfl
  | i + 1, hi => by
    unfold Dk.look
    rw [List.length_append, look_len H i (by omega), size_len, H.read_sz (by omega)]; omega
theorem look_spec (J : JAt h jb db S n D) (at_ : Nat) (hat : at_ + 4 ≤ D.l.length) (hd : D.down = false) (hK : ∀ h', Sub h h' → K (.tuple #[.string (D.page at_), .int .i64 0]) h') :
    CallsH Tryz.prog journal_Journal_look.id #[.pointer (some ⟨jb, 0, none⟩), .int .i64 (at_ : Nat)] h K := by
  obtain ⟨S0, h1, h2, h3, h4⟩ := J.ex
  have hll := h2.len
  apply journal_Journal_look.calls
  unfold journal_Journal_look.W
  refine ⟨fun a l c i x m => ∃ j : Nat, i = (j : Int) ∧ j ≤ 4 ∧ m = 4 - j ∧ l = (D.look at_ j).length ∧ NewR byteC 1 5 h x a c (D.look at_ j), ⟨_, 0, rfl, by decide, rfl, rfl, NewR.nil _ _⟩, ?_⟩
  rintro a l c i x m ⟨j, rfl, hj, rfl, rfl, N⟩
  refine split_dec (fun g => ?_) fun g => ?_
  · have g : j < 4 := by have : (j : Int) < 4 := g; omega
    have ew : IntKind.i64.wrap ((at_ : Int) + (j : Int)) = ((at_ + j : Nat) : Int) := by rw [wid (by omega) (by omega)]; omega
    rw [ew]
    have hsz := h2.read_sz (i := at_ + j) (by omega)
    have hlk := look_len h2 (at_ := at_) j (by omega)
    refine ⟨_, (h1.sub N.sub).cell' 0 rfl, read_spec (h2.sub N.sub) (by omega) hd ⟨_, _, rfl, split_ne (fun e => absurd rfl e) fun _ => ⟨fun a' c' y => NewR byteC 1 5 h y a' c' (D.look at_ (j + 1)), fun a' c' y hy => ⟨4 - (j + 1), by omega, j + 1, by rw [wid (by omega) (by omega)]; omega, by omega, rfl, ?_, hy⟩, ?_⟩⟩⟩
    · show (D.look at_ j).length + _ = (D.look at_ j ++ (D.read (at_ + j)).data.toList).length
      rw [List.length_append, size_len]
    · exact append_row appTByte byteC_len byteC_plain (M := (D.read (at_ + j)).data.toList) N rfl (size_len _).symm (rowC_bytes _).symm (by rw [size_len, hsz, hlk]; omega) fun a' c' y hy => hy
  · have : j = 4 := by
      have : ¬ (j : Int) < 4 := g
      omega
    subst this
    refine ⟨D.page at_, ?_, hK x N.sub⟩
    have := N.own.row
    unfold RowAt at this
    rw [Nat.mul_one] at this
    rw [← rowC_bytes]; exact this
def Dk.own (D : Dk) (n i : Nat) : ByteArray := D.page (1 + 4 * (n + i))
theorem jread_spec (J : JAt h jb db S n D) {i : Nat} (hi : i < n) (hd : D.down = false) (hK : ∀ h', Sub h h' → K (.tuple #[.string (D.own n i), .int .i64 0]) h') : CallsH Tryz.prog journal_Journal_Read.id #[.pointer (some ⟨jb, 0, none⟩), .int .i64 (i : Nat)] h K := by
  obtain ⟨S0, h1, h2, h3, h4⟩ := J.ex
  have := J.n2
  have := J.len
  apply journal_Journal_Read.calls
  unfold journal_Journal_Read.W
  refine split_dec (fun e => by have e : (i : Int) < 0 := e; omega) fun _ => ⟨_, h1.cell' 1 rfl, split_dec (fun e => by have e : (i : Int) ≥ (n : Int) := e; omega) fun _ => ?_⟩
  exact jown_spec J i (by omega) ⟨_, rfl, look_spec J _ (by omega) hd fun h' s => ⟨_, _, rfl, hK h' s⟩⟩
theorem jpages_spec (J : JAt h jb db S n D) (hK : K (.int .i64 (n : Nat)) h) : CallsH Tryz.prog journal_Journal_Pages.id #[.pointer (some ⟨jb, 0, none⟩)] h K := by
  obtain ⟨S0, h1, h2, h3, h4⟩ := J.ex
  apply journal_Journal_Pages.calls
  unfold journal_Journal_Pages.W
  exact ⟨_, h1.cell' 1 rfl, hK⟩
end Go.Proofs.YthbogjbcecmopaaGreatDoor
namespace Go.Proofs.YthbogjbcecmopaaGreatDoor
open Go.Gx
set_option maxRecDepth 100000
set_option linter.unusedVariables false

def wrs : Dk → List (Nat × ByteArray) → Dk × Int
  | D, [] => (D, 0)
  | D, w :: l => if D.down then (D, 10) else wrs (D.write w.1 w.2) l
theorem wrs_cons (D : Dk) (w : Nat × ByteArray) (l : List (Nat × ByteArray)) : wrs D (w :: l) = if D.down then (D, 10) else wrs (D.write w.1 w.2) l := rfl
theorem wrs_append : ∀ (a b : List (Nat × ByteArray)) (D : Dk), wrs D (a ++ b) = if (wrs D a).2 = 0 then wrs (wrs D a).1 b else wrs D a
  | [], b, D => by simp [wrs]
  | w :: a, b, D => by
    rw [List.cons_append, wrs_cons, wrs_cons]
    cases hd : D.down with
    | true => simp
    | false => simp only [Bool.false_eq_true, if_false]; exact wrs_append a b _
theorem wrs_l : ∀ (a : List (Nat × ByteArray)) (D : Dk), (wrs D a).1.l = D.l
  | [], D => rfl
  | w :: a, D => by
    unfold wrs
    cases hd : D.down with
    | true => rfl
    | false => simp only [Bool.false_eq_true, if_false]; exact wrs_l a _
theorem wrs_ws : ∀ (a : List (Nat × ByteArray)) (D : Dk), (wrs D a).1.ws.length ≤ D.ws.length + a.length
  | [], D => by simp [wrs]
  | w :: a, D => by
    unfold wrs
    cases hd : D.down with
    | true => simp
    | false =>
      simp only [Bool.false_eq_true, if_false]
      have := wrs_ws a (D.write w.1 w.2)
      have e : (D.write w.1 w.2).ws.length = D.ws.length + 1 := by show (D.ws ++ [_]).length = _; simp
      simp only [List.length_cons]; omega
def parts (at_ : Nat) (s : ByteArray) : List (Nat × ByteArray) := (List.range 4).map fun i => (at_ + i, s.extract (i * 256) ((i + 1) * 256))
theorem parts_len (at_ : Nat) (s : ByteArray) : (parts at_ s).length = 4 := by unfold parts; simp
theorem parts_get {at_ : Nat} {s : ByteArray} {j : Nat} (hj : j < 4) : (parts at_ s)[j]? = some (at_ + j, s.extract (j * 256) ((j + 1) * 256)) := by
  unfold parts
  rw [List.getElem?_map, List.getElem?_range hj]; rfl
def flD (r : Dk × Int) : Dk × Int := if r.2 ≠ 0 then r else if r.1.down then (r.1, 10) else (r.1.flush, 0)
variable {h : Hp} {jb db n : Nat} {S : Nat → Prop} {D : Dk} {K : Value → Hp → Prop}
theorem use_down {i : Nat} (hd : D.down = true) : D.use (i : Nat) = 10 := by unfold Dk.use; rw [hd, if_pos rfl]
theorem jwrite_spec (J : JAt h jb db S n D) {i : Nat} (hi : i < D.l.length) (s : ByteArray) (hs : s.size = 256) (hw : D.ws.length < 4096)
    (hK : ∀ h' S', JAt h' jb db S' n (wrs D [(i, s)]).1 → Step S h S' h' → K (.int .i64 (wrs D [(i, s)]).2) h') : CallsH Tryz.prog disk_Disk_Write.id #[.pointer (some ⟨db, 0, none⟩), .int .i64 (i : Nat), .string s] h K := by
  obtain ⟨S0, h1, h2, h3⟩ := J.step
  cases hd : D.down with
  | true =>
    have e : wrs D [(i, s)] = (D, 10) := by unfold wrs; rw [hd, if_pos rfl]
    rw [e] at hK
    refine write_bad h1 _ _ (by rw [use_down hd]; decide) ?_
    rw [use_down hd]
    exact hK h S J (Step.refl _ _)
  | false =>
    have e : wrs D [(i, s)] = (D.write i s, 0) := by unfold wrs; rw [hd]; rfl
    rw [e] at hK
    refine write_spec h1 hi hd s hs hw fun h' S' H' st => ?_
    obtain ⟨S2, J2, st2⟩ := h3 h' S' _ H' st rfl
    exact hK h' S2 J2 st2
theorem lay_spec (J : JAt h jb db S n D) {at_ : Nat} (hat : at_ + 4 ≤ D.l.length) (s : ByteArray) (hs : s.size = 1024) (hw : D.ws.length + 4 ≤ 4096)
    (hK : ∀ h' S', JAt h' jb db S' n (wrs D (parts at_ s)).1 → Step S h S' h' → K (.int .i64 (wrs D (parts at_ s)).2) h') : CallsH Tryz.prog journal_Journal_lay.id #[.pointer (some ⟨jb, 0, none⟩), .int .i64 (at_ : Nat), .string s] h K := by
  apply journal_Journal_lay.calls
  unfold journal_Journal_lay.W
  have hll : D.l.length ≤ 2048 := by obtain ⟨S0, h1, h2, h3⟩ := J.step; exact h1.len
  refine ⟨fun i x m => ∃ (j : Nat) (S' : Nat → Prop), i = (j : Int) ∧ j ≤ 4 ∧ m = 4 - j ∧ JAt x jb db S' n (wrs D ((parts at_ s).take j)).1 ∧ Step S h S' x ∧ (wrs D ((parts at_ s).take j)).2 = 0, ⟨_, 0, S, rfl, by decide, rfl, J, Step.refl _ _, rfl⟩, ?_⟩
  rintro i x m ⟨j, S', rfl, hj, rfl, Jx, st, e0⟩
  refine split_dec (fun g => ?_) fun g => ?_
  · have g : j < 4 := by have : (j : Int) < 4 := g; omega
    have hp := parts_get (at_ := at_) (s := s) g
    have ht : (parts at_ s).take (j + 1) = (parts at_ s).take j ++ [(at_ + j, s.extract (j * 256) ((j + 1) * 256))] := by rw [List.take_add_one, hp]; rfl
    have hw1 : wrs D ((parts at_ s).take (j + 1)) = wrs (wrs D ((parts at_ s).take j)).1 [(at_ + j, s.extract (j * 256) ((j + 1) * 256))] := by rw [ht, wrs_append, if_pos e0]
    have hall : (parts at_ s) = (parts at_ s).take (j + 1) ++ (parts at_ s).drop (j + 1) := (List.take_append_drop _ _).symm
    obtain ⟨S0, h1, h2, h3⟩ := Jx.step
    have hl := wrs_l ((parts at_ s).take j) D
    have hws := wrs_ws ((parts at_ s).take j) D
    have hpl : ((parts at_ s).take j).length = j := by rw [List.length_take, parts_len]; omega
    have e1 : IntKind.i64.wrap ((j : Int) * 256) = ((j * 256 : Nat) : Int) := by rw [wid (by omega) (by omega)]; omega
    have e2 : IntKind.i64.wrap (IntKind.i64.wrap ((j : Int) + 1) * 256) = (((j + 1) * 256 : Nat) : Int) := by
      rw [wid (x := (j : Int) + 1) (by omega) (by omega), wid (by omega) (by omega)]; omega
    have e3 : IntKind.i64.wrap ((at_ : Int) + (j : Int)) = ((at_ + j : Nat) : Int) := by rw [wid (by omega) (by omega)]; omega
    rw [e1, e2, e3]
    refine ⟨_, h2.cell' 0 rfl, by omega, by show (((j + 1) * 256 : Nat) : Int) ≤ (s.size : Int); omega, by omega, by show ((j * 256 : Nat) : Int) ≤ ((((j + 1) * 256 : Nat) : Int).toNat : Int); omega, ?_⟩
    rw [Int.toNat_natCast, Int.toNat_natCast]
    refine jwrite_spec Jx (by rw [hl]; omega) _ (by rw [ByteArray.size_extract]; omega) (by omega) fun h' S2 J2 st2 => ⟨_, rfl, ?_⟩
    rw [← hw1] at J2 ⊢
    refine split_ne (fun e => ?_) fun e => ⟨4 - (j + 1), by omega, j + 1, S2, by rw [wid (by omega) (by omega)]; omega, by omega, rfl, J2, st.trans st2, e⟩
    have e' : wrs D (parts at_ s) = wrs D ((parts at_ s).take (j + 1)) := by
      conv => lhs; rw [hall, wrs_append, if_neg e]
    have := hK h' S2
    rw [e'] at this
    exact this J2 (st.trans st2)
  · have : j = 4 := by
      have : ¬ (j : Int) < 4 := g
      omega
    subst this
    rw [List.take_of_length_le (by rw [parts_len]; exact Nat.le_refl _)] at Jx e0
    have := hK x S' Jx st
    rw [e0] at this
    exact this
theorem flushed_spec (J : JAt h jb db S n D) (e : Int) (hK : ∀ h' S', JAt h' jb db S' n (flD (D, e)).1 → Step S h S' h' → K (.int .i64 (flD (D, e)).2) h') : CallsH Tryz.prog journal_Journal_flushed.id #[.pointer (some ⟨jb, 0, none⟩), .int .i64 e] h K := by
  obtain ⟨S0, h1, h2, h3⟩ := J.step
  have := J.len
  apply journal_Journal_flushed.calls
  unfold journal_Journal_flushed.W
  refine split_ne (fun he => ?_) fun he => ⟨_, h2.cell' 0 rfl, ?_⟩
  · have e1 : flD (D, e) = (D, e) := if_pos he
    rw [e1] at hK
    exact hK h S J (Step.refl _ _)
  · subst he
    cases hd : D.down with
    | true =>
      have e1 : flD (D, 0) = (D, 10) := by unfold flD; rw [if_neg (by simp), if_pos hd]
      rw [e1] at hK
      have h0 : D.use 0 = 10 := use_down (i := 0) hd
      refine flush_bad h1 (by rw [h0]; decide) ⟨_, rfl, ?_⟩
      rw [h0]
      exact hK h S J (Step.refl _ _)
    | false =>
      have e1 : flD (D, 0) = (D.flush, 0) := by unfold flD; rw [if_neg (by simp), if_neg (by simp [hd])]
      rw [e1] at hK
      refine flush_spec h1 (by omega) hd fun h' S' H' st => ⟨_, rfl, ?_⟩
      obtain ⟨S2, J2, st2⟩ := h3 h' S' _ H' st (settleL_len _ _)
      exact hK h' S2 J2 st2
def logW (cs : List (Nat × ByteArray)) : List (Nat × ByteArray) := cs.flatMap fun c => parts (1 + 4 * c.1) c.2
def ownW (n : Nat) (cs : List (Nat × ByteArray)) : List (Nat × ByteArray) := cs.flatMap fun c => parts (1 + 4 * (n + c.1)) c.2
theorem flatW_len (f : Nat × ByteArray → List (Nat × ByteArray)) (hf : ∀ c, (f c).length = 4) : ∀ cs : List (Nat × ByteArray), (cs.flatMap f).length = 4 * cs.length
  | [] => rfl
  | c :: cs => by rw [List.flatMap_cons, List.length_append, hf, flatW_len f hf cs, List.length_cons]; omega
theorem layAll_log (J : JAt h jb db S n D) {la : Option Addr} {lc : Nat} {cs : List (Nat × ByteArray)} (R : RowAt wrC 2 h la cs) (hla : ∀ c, blkOf la c → ¬ S c) (hc : ∀ c ∈ cs, c.1 < n ∧ c.2.size = 1024) (hcl : cs.length ≤ 128) (hw : D.ws.length ≤ 2048)
    (hK : ∀ h' S', JAt h' jb db S' n (wrs D (logW cs)).1 → Step S h S' h' → K (.int .i64 (wrs D (logW cs)).2) h') :
    CallsH Tryz.prog journal_Journal_layAll.id #[.pointer (some ⟨jb, 0, none⟩), .slice la cs.length lc, .func (.func 113) #[] #[]] h K := by
  apply journal_Journal_layAll_2f113.calls
  unfold journal_Journal_layAll_2f113.W
  have hn2 := J.n2
  have hln := J.len
  refine ⟨fun i x m => ∃ (j : Nat) (S' : Nat → Prop), i = (j : Int) ∧ j ≤ cs.length ∧ m = cs.length - j ∧ JAt x jb db S' n (wrs D (logW (cs.take j))).1 ∧ Step S h S' x ∧ (wrs D (logW (cs.take j))).2 = 0, ⟨_, 0, S, rfl, Nat.zero_le _, rfl, J, Step.refl _ _, rfl⟩, ?_⟩
  rintro i x m ⟨j, S', rfl, hj, rfl, Jx, st, e0⟩
  refine split_dec (fun g => ?_) fun g => ?_
  · have g : j < cs.length := by have : (j : Int) < (cs.length : Int) := g; omega
    have hq : cs[j]? = some cs[j] := List.getElem?_eq_getElem g
    have hcj := hc cs[j] (List.getElem_mem g)
    have hdr : cs = cs.take (j + 1) ++ cs.drop (j + 1) := (List.take_append_drop _ _).symm
    generalize cs[j] = c at hq hcj
    obtain ⟨b, o, ea, hcell⟩ := (R.keep st.1 hla).get wrC_len (by decide) hq
    have ht : logW (cs.take (j + 1)) = logW (cs.take j) ++ parts (1 + 4 * c.1) c.2 := by
      unfold logW
      rw [List.take_add_one, hq, List.flatMap_append]; simp
    have hw1 : wrs D (logW (cs.take (j + 1))) = wrs (wrs D (logW (cs.take j))).1 (parts (1 + 4 * c.1) c.2) := by rw [ht, wrs_append, if_pos e0]
    have hl := wrs_l (logW (cs.take j)) D
    have hws := wrs_ws (logW (cs.take j)) D
    have hpl : (logW (cs.take j)).length = 4 * j := by
      unfold logW
      rw [flatW_len _ (fun c => parts_len _ _), List.length_take]; omega
    have e1 : IntKind.i64.wrap (1 + IntKind.i64.wrap (4 * (c.1 : Int))) = ((1 + 4 * c.1 : Nat) : Int) := by
      rw [wid (x := 4 * (c.1 : Int)) (by omega) (by omega), wid (by omega) (by omega)]; omega
    refine ⟨by omega, by show (j : Int) < (cs.length : Int); omega, b, o, ea, _, hcell 0 _ rfl, _, hcell 1 _ rfl, journal_Journal_Commit_2.calls _ ⟨_, rfl, Sub.refl _, ?_⟩⟩
    rw [e1]
    refine lay_spec Jx (by rw [hl]; omega) c.2 hcj.2 (by omega) fun h' S2 J2 st2 => ⟨_, rfl, ?_⟩
    rw [← hw1] at J2 ⊢
    refine split_ne (fun e => ?_) fun e => ⟨cs.length - (j + 1), by omega, j + 1, S2, by rw [wid (by omega) (by omega)]; omega, by omega, rfl, J2, st.trans st2, e⟩
    have e' : wrs D (logW cs) = wrs D (logW (cs.take (j + 1))) := by
      have e2 : logW cs = logW (cs.take (j + 1)) ++ logW (cs.drop (j + 1)) := by
        conv => lhs; rw [hdr]
        unfold logW; rw [List.flatMap_append]
      rw [e2, wrs_append, if_neg e]
    have := hK h' S2
    rw [e'] at this
    exact this J2 (st.trans st2)
  · have : j = cs.length := by
      have : ¬ (j : Int) < (cs.length : Int) := g
      omega
    subst this
    rw [List.take_length] at Jx e0
    have := hK x S' Jx st
    rw [e0] at this
    exact this
theorem layAll_own (J : JAt h jb db S n D) {la : Option Addr} {lc : Nat} {cs : List (Nat × ByteArray)} (R : RowAt wrC 2 h la cs) (hla : ∀ c, blkOf la c → ¬ S c) (hc : ∀ c ∈ cs, c.1 < n ∧ c.2.size = 1024) (hcl : cs.length ≤ 128) (hw : D.ws.length ≤ 2048)
    (hK : ∀ h' S', JAt h' jb db S' n (wrs D (ownW n cs)).1 → Step S h S' h' → K (.int .i64 (wrs D (ownW n cs)).2) h') :
    CallsH Tryz.prog journal_Journal_layAll.id #[.pointer (some ⟨jb, 0, none⟩), .slice la cs.length lc, .func (.func 80) #[.pointer (some ⟨jb, 0, none⟩)] #[]] h K := by
  apply journal_Journal_layAll_2m80.calls
  unfold journal_Journal_layAll_2m80.W
  have hn2 := J.n2
  have hln := J.len
  refine ⟨fun i x m => ∃ (j : Nat) (S' : Nat → Prop), i = (j : Int) ∧ j ≤ cs.length ∧ m = cs.length - j ∧ JAt x jb db S' n (wrs D (ownW n (cs.take j))).1 ∧ Step S h S' x ∧ (wrs D (ownW n (cs.take j))).2 = 0, ⟨_, 0, S, rfl, Nat.zero_le _, rfl, J, Step.refl _ _, rfl⟩, ?_⟩
  rintro i x m ⟨j, S', rfl, hj, rfl, Jx, st, e0⟩
  refine split_dec (fun g => ?_) fun g => ?_
  · have g : j < cs.length := by have : (j : Int) < (cs.length : Int) := g; omega
    have hq : cs[j]? = some cs[j] := List.getElem?_eq_getElem g
    have hcj := hc cs[j] (List.getElem_mem g)
    have hdr : cs = cs.take (j + 1) ++ cs.drop (j + 1) := (List.take_append_drop _ _).symm
    generalize cs[j] = c at hq hcj
    obtain ⟨b, o, ea, hcell⟩ := (R.keep st.1 hla).get wrC_len (by decide) hq
    have ht : ownW n (cs.take (j + 1)) = ownW n (cs.take j) ++ parts (1 + 4 * (n + c.1)) c.2 := by
      unfold ownW
      rw [List.take_add_one, hq, List.flatMap_append]; simp
    have hw1 : wrs D (ownW n (cs.take (j + 1))) = wrs (wrs D (ownW n (cs.take j))).1 (parts (1 + 4 * (n + c.1)) c.2) := by rw [ht, wrs_append, if_pos e0]
    have hl := wrs_l (ownW n (cs.take j)) D
    have hws := wrs_ws (ownW n (cs.take j)) D
    have hpl : (ownW n (cs.take j)).length = 4 * j := by
      unfold ownW
      rw [flatW_len _ (fun c => parts_len _ _), List.length_take]; omega
    refine ⟨by omega, by show (j : Int) < (cs.length : Int); omega, b, o, ea, _, hcell 0 _ rfl, _, hcell 1 _ rfl, jown_spec Jx c.1 (by omega) ⟨_, rfl, Sub.refl _, ?_⟩⟩
    refine lay_spec Jx (by rw [hl]; omega) c.2 hcj.2 (by omega) fun h' S2 J2 st2 => ⟨_, rfl, ?_⟩
    rw [← hw1] at J2 ⊢
    refine split_ne (fun e => ?_) fun e => ⟨cs.length - (j + 1), by omega, j + 1, S2, by rw [wid (by omega) (by omega)]; omega, by omega, rfl, J2, st.trans st2, e⟩
    have e' : wrs D (ownW n cs) = wrs D (ownW n (cs.take (j + 1))) := by
      have e2 : ownW n cs = ownW n (cs.take (j + 1)) ++ ownW n (cs.drop (j + 1)) := by
        conv => lhs; rw [hdr]
        unfold ownW; rw [List.flatMap_append]
      rw [e2, wrs_append, if_neg e]
    have := hK h' S2
    rw [e'] at this
    exact this J2 (st.trans st2)
  · have : j = cs.length := by
      have : ¬ (j : Int) < (cs.length : Int) := g
      omega
    subst this
    rw [List.take_length] at Jx e0
    have := hK x S' Jx st
    rw [e0] at this
    exact this
end Go.Proofs.YthbogjbcecmopaaGreatDoor
