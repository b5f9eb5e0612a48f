/- Soundness of the executor, tenth part: guards, regions, what is carried. The quick check of a region's order is the plain one's. Soundness of the executor: regions whose operations may come up in more than one order. Soundness of the executor, last part: code, loops, functions. Soundness of the executor: a range over a function. Soundness of the executor, last part: code, loops, functions. From a contract over heaps to a law's row: what a reading of arguments says of their cells, and what a call that keeps the old heap leaves. Heaps as partial maps: blocks that are known whole, slices that are owned, what an append leaves; tests. Conditions: those that each lemma names. Rows of elements of several cells in memory. Conditions: those that each lemma names. From a slice that a law is given to a row of elements. Conditions: the elements are of a type of numbers, bools, texts. The lengths of the texts in a slice that a law is given: at most what one machine can hold. Conditions: those that each lemma names. The formulas of functions of the program, as the executor computes them, and that a call does what its formula says. Printed by a tool of ours (wip/tool). The formulas of functions of the program, as the executor computes them, and that a call does what its formula says. Printed by a tool of ours (wip/tool). The formulas of functions of the program, as the executor computes them, and that a call does what its formula says. Printed by a tool of ours (wip/tool). -/
import Derived.Test.YthbogjbcecmopaaDoorPd01
import Derived.Orders
import Derived.ProofKit
import Derived.OpenShut
import Derived.ChangeOld
import Derived.Below
import Derived.Carry
import Derived.Deep.Slices
import Derived.SizedLaws
import Derived.Test.YthbogjbcecmopaaDoorProg
import Derived.KernelRfl
namespace Go.Gx

theorem getD_some {tmps : Array Value} {d : Nat} {v : Value} (h : tmps.getD d undef = v) (hv : v ≠ undef) : tmps[d]? = some v := by
  rw [Array.getD_eq_getD_getElem?] at h
  cases e : tmps[d]? with
  | none => rw [e] at h; exact absurd h.symm hv
  | some x => rw [e] at h; simp at h; rw [h]
theorem put_size (a : Act) (dst : Option Tmp) (v : Value) : (a.put dst v).tmps.size = a.tmps.size := by
  cases dst <;> simp [Act.put]
theorem put_defers (a : Act) (dst : Option Tmp) (v : Value) : (a.put dst v).defers = a.defers := by
  cases dst <;> rfl
theorem put_other (a : Act) (dst : Option Tmp) (v : Value) {t : Nat} (h : dst ≠ some t) : (a.put dst v).tmps[t]? = a.tmps[t]? := by
  cases dst with
  | none => rfl
  | some d =>
    have : d ≠ t := fun e => h (by rw [e])
    simp [Act.put, Array.getElem?_setIfInBounds_ne this]
theorem EnvR.put {ρ : Nat → Nat} {st : St} {a : Act} (he : EnvR ρ st a.tmps) {N : Nat} (hN : a.tmps.size = N) {dst : Option Tmp} {s : SV} {v : Value} (hs : SVr ρ st.n s v) : EnvR ρ (st.put N dst s) (a.put dst v).tmps := by
  cases dst with
  | none => exact he
  | some d =>
    intro t
    simp only [St.put, St.set, Act.put]
    by_cases e : t = d
    · subst e
      rw [nbeq_self, cond_true]
      cases e2 : Nat.blt t N with
      | false => exact trivial
      | true =>
        have : t < a.tmps.size := by rw [hN]; exact Nat.le_of_ble_eq_true e2
        simp only [cond_true]
        rw [Array.getD_eq_getD_getElem?]
        simp [this]; exact hs
    · rw [nbeq_ne e, cond_false]
      have := he t
      rw [Array.getD_eq_getD_getElem?] at this ⊢
      rw [Array.getElem?_setIfInBounds_ne (Ne.symm e)]; exact this
theorem EnvR.ext {ρ ρ' : Nat → Nat} {st st' : St} {tmps : Array Value} (he : EnvR ρ st tmps) (hx : Ext ρ ρ' st st') (hs : st'.e = st.e) : EnvR ρ' st' tmps := by
  intro t
  rw [hs]
  exact (he t).mono hx.n hx.rho
theorem EnvR.setBool {ρ : Nat → Nat} {st : St} {tmps : Array Value} (he : EnvR ρ st tmps) {d : Nat} {s : SV} (h : SVr ρ st.n s (tmps.getD d undef)) : EnvR ρ (st.set d s) tmps := by
  intro t
  by_cases e : t = d
  · subst e; simp only [St.set, nbeq_self, cond_true]; exact h
  · simp only [St.set, nbeq_ne e, cond_false]; exact he t
theorem HeapR.set {w0 : World} {h0 : Hp} {ρ : Nat → Nat} {st : St} {h : Hp} {w : World} (H : HeapR w0 h0 ρ st h w) (d : Nat) (s : SV) : HeapR w0 h0 ρ (st.set d s) h w := ⟨H.holds, H.kept, H.loc, H.inj, H.top⟩
theorem HeapR.put {w0 : World} {h0 : Hp} {ρ : Nat → Nat} {st : St} {h : Hp} {w : World} (H : HeapR w0 h0 ρ st h w) (N : Nat) (d : Option Tmp) (s : SV) : HeapR w0 h0 ρ (st.put N d s) h w := by
  cases d with
  | none => exact H
  | some d => exact H.set d _
theorem Ext.set (ρ : Nat → Nat) (st : St) (d : Nat) (s : SV) : Ext ρ ρ st (st.set d s) := ⟨Nat.le_refl _, fun _ _ => rfl, fun _ _ => ⟨Nat.le_refl _, fun _ => rfl⟩, rfl⟩
theorem Ext.put (ρ : Nat → Nat) (st : St) (N : Nat) (d : Option Tmp) (s : SV) : Ext ρ ρ st (st.put N d s) := by
  cases d with
  | none => exact Ext.refl _ _
  | some d => exact Ext.set ρ st d _

section
variable {P : Program} {H : Hints} {w0 : World} {h0 : Hp}

structure Left (P : Program) (H : Hints) (w0 : World) (h0 : Hp) (ρ : Nat → Nat) (st : St) (a : Act) (C : Nat → Bool) (K : St → Hp → Prop) (a' : Act) (w' : World) : Prop where
  ex : ∃ st' h' ρ', K st' h' ∧ EnvR ρ' st' a'.tmps ∧ HeapR w0 h0 ρ' st' h' w' ∧ Ext ρ ρ' st st'
  size : a'.tmps.size = a.tmps.size
  defers : a'.defers = a.defers
  frame : ∀ t, C t = false → a'.tmps[t]? = a.tmps[t]?
def dstIs (o : Oper) (t : Nat) : Bool := match o.dst with
  | some d => Nat.beq d t
  | none => false
theorem dst_ne {o : Oper} {t : Nat} (h : dstIs o t = false) : o.dst ≠ some t := fun e => by
  unfold dstIs at h; rw [e] at h; simp only [nbeq_self] at h; cases h
theorem opW_left {o : Oper} {st : St} {h hl : Hp} {K : St → Hp → Prop} {a : Act} {w : World} {next : Act → World → Prop} {Q : Exit → Act → World → Prop} {ρ : Nat → Nat} {st0 : St}
    (hW : opW P H o st h hl fun s st' h' => K (st'.put H.N o.dst s) h') (he : EnvR ρ st a.tmps) (hN : a.tmps.size = H.N) (hh : HeapR w0 h0 ρ st h w) (hl' : Holds hl w) (hx : Ext ρ ρ st0 st)
    (hn : ∀ a' w', Left P H w0 h0 ρ st0 a (dstIs o) K a' w' → next a' w') : o.wp P a w next Q := by
  refine opW_sound hW he hh hl' fun sv v st' h' w' ρ' hk hs hh' hxt hse => hn _ _ ⟨⟨_, h', ρ', hk, ?_, hh'.put _ _ _, (hx.trans hxt).trans (Ext.put _ _ _ _ _)⟩, put_size _ _ _, put_defers _ _ _, fun _ ht => put_other _ _ _ (dst_ne ht)⟩
  exact (he.ext hxt hse).put hN hs
theorem skip_left {o : Oper} {st : St} {h : Hp} {K : St → Hp → Prop} {a : Act} {w : World} {ρ : Nat → Nat} {st0 : St} (hK : K (st.put H.N o.dst (.val undef)) h) (he : EnvR ρ st a.tmps) (hN : a.tmps.size = H.N) (hh : HeapR w0 h0 ρ st h w) (hx : Ext ρ ρ st0 st) :
    Left P H w0 h0 ρ st0 a (dstIs o) K (a.put o.dst undef) w :=
  ⟨⟨_, h, ρ, hK, he.put hN rfl, hh.put _ _ _, hx.trans (Ext.put _ _ _ _ _)⟩, put_size _ _ _, put_defers _ _ _, fun _ ht => put_other _ _ _ (dst_ne ht)⟩
theorem opG_sound {ops : Array Oper} {o : Oper} {st : St} {h hl : Hp} {K : St → Hp → Prop} {a : Act} {w : World} {next : Act → World → Prop} {Q : Exit → Act → World → Prop} {ρ : Nat → Nat} (R : Prop)
    (hW : opG P H ops o st h hl K) (he : EnvR ρ st a.tmps) (hN : a.tmps.size = H.N) (hh : HeapR w0 h0 ρ st h w) (hl' : Holds hl w)
    (hn : ∀ a' w', Left P H w0 h0 ρ st a (dstIs o) K a' w' → next a' w') :
    if Region.wanted o (yielded ops a.tmps) then o.wp P a w next Q ∨ R else next (a.put o.dst undef) w := by
  unfold opG at hW
  cases hg : o.guard with
  | none =>
    rw [hg] at hW
    simp only [Region.wanted, hg, if_true]
    exact .inl (opW_left hW he hN hh hl' (Ext.refl _ _) hn)
  | some jw =>
    obtain ⟨j, want⟩ := jw
    rw [hg] at hW
    simp only [] at hW
    cases hd : (ops[j]?).bind (·.dst) with
    | none => rw [hd] at hW; exact hW.elim
    | some d =>
      rw [hd] at hW
      simp only [] at hW
      have hed := he d
      simp only [Region.wanted, hg]
      split at hW
      · rename_i b eb
        rw [eb] at hed
        have hed' : a.tmps.getD d undef = .bool b := hed
        have hy : yielded ops a.tmps j = some b := by
          unfold yielded
          simp only [hd, Option.bind_some, getD_some hed' (by intro h; cases h)]
        have he' : EnvR ρ (st.set d (.val (.bool b))) a.tmps := he.setBool hed'
        cases b <;> cases want <;> simp only [cond_true, cond_false] at hW
        · rw [hy, if_pos (by decide)]; exact .inl (opW_left hW he' hN (hh.set _ _) hl' (Ext.set _ _ _ _) hn)
        · rw [hy, if_neg (by decide)]; exact hn _ _ (skip_left hW he' hN (hh.set _ _) (Ext.set _ _ _ _))
        · rw [hy, if_neg (by decide)]; exact hn _ _ (skip_left hW he' hN (hh.set _ _) (Ext.set _ _ _ _))
        · rw [hy, if_pos (by decide)]; exact .inl (opW_left hW he' hN (hh.set _ _) hl' (Ext.set _ _ _ _) hn)
      · rename_i vs eb
        rw [eb] at hed
        have hed' : a.tmps.getD d undef = .tuple vs := hed
        have hy : yielded ops a.tmps j = none := by
          unfold yielded
          simp only [hd, Option.bind_some]
          rw [Array.getD_eq_getD_getElem?] at hed'
          cases e : a.tmps[d]? with
          | none => rfl
          | some x => rw [e] at hed'; simp at hed'; rw [hed']
        rw [hy, if_neg (by cases want <;> decide)]
        exact hn _ _ (skip_left hW he hN hh (Ext.refl _ _))
      · exact hW.elim
def opsAsg (l : List Oper) (t : Nat) : Bool := l.any fun o => match o.dst with | some d => Nat.beq d t | none => false
end

theorem Kd.carry {R : Type} {k : Kd} {f : k.Fn R} {G : Value → R → Prop} {v : Value} {F : R → Prop} (h1 : k.all f G) (h2 : k.cap f v F) : ∃ r, G v r ∧ F r := by
  cases k with
  | int k =>
    simp only [Kd.all, Kd.cap] at h1 h2
    cases v <;> first | exact h2.elim | skip
    rename_i k' n
    simp only [] at h2
    cases e : ikEq k k' with
    | false => rw [e] at h2; exact h2.elim
    | true =>
      rw [e] at h2
      have := ikEq_spec e
      subst this
      exact ⟨_, h1 n, h2⟩
  | any => exact ⟨_, h1 v, h2⟩
  | slice =>
    simp only [Kd.all, Kd.cap] at h1 h2
    cases v <;> first | exact h2.elim | exact ⟨_, h1 _ _ _, h2⟩
  | _ =>
    simp only [Kd.all, Kd.cap] at h1 h2
    cases v <;> first | exact h2.elim | exact ⟨_, h1 _, h2⟩
theorem kcarry {R : Type} : ∀ {ks : List Kd} {f : KFn R ks} {G : List Value → R → Prop} {vs : List Value} {F : R → Prop}, kAll ks f G → kCap ks f vs F → ∃ r, G vs r ∧ F r
  | [], f, G, vs, F, h1, h2 => by
    cases vs with
    | nil => exact ⟨_, h1, h2⟩
    | cons v vs => exact h2.elim
  | k :: ks, f, G, vs, F, h1, h2 => by
    cases vs with
    | nil => exact h2.elim
    | cons v vs =>
      obtain ⟨r, g1, g2⟩ := Kd.carry h1 h2
      exact kcarry (G := fun vs s => G (v :: vs) s) g1 g2
structure Carried (ks : List Cv) (sb st' st1 : St) : Prop where
  n : st1.n = sb.n
  e : ∀ t, st1.e t = sb.e t ∨ ∃ v, st1.e t = .val v ∧ (st'.e t).toV = some v
  yes : ∀ l, carries ks l = true → ∃ cs T, st'.L l = some (cs, T) ∧ st1.L l = some (cs, sb.cellT l)
  no : ∀ l, carries ks l = false → st1.L l = sb.L l
  ver : ∀ l, sb.ver l ≤ st1.ver l
  verY : ∀ l, carries ks l = true → sb.ver l < st1.ver l
  marks : st1.marks = sb.marks
theorem cellT_setL (st : St) (m : Nat) (cs : List Value) (l : Nat) : (st.setL m cs (st.cellT m)).cellT l = st.cellT l := by
  unfold St.cellT
  by_cases e : l = m
  · subst e; simp [St.setL]
  · simp [St.setL, nbeq_ne e]
theorem Carried.setL {ks : List Cv} {sb st' st1 : St} {c : Cv} {l : Nat} {cs : List Value} {T : TypeId} (hc : ∀ m, c.isBlk m = Nat.beq l m) (hl : st'.L l = some (cs, T)) (h : Carried ks (sb.setL l cs (sb.cellT l)) st' st1) : Carried (c :: ks) sb st' st1 := by
  have hcs : ∀ m, carries (c :: ks) m = (Nat.beq l m || carries ks m) := fun m => by simp [carries, hc]
  refine ⟨h.n, h.e, fun m hm => ?_, fun m hm => ?_, fun m => ?_, fun m hm => ?_, h.marks⟩
  · cases e : carries ks m with
    | true =>
      obtain ⟨cs', T', h1, h2⟩ := h.yes m e
      exact ⟨cs', T', h1, by rw [h2, cellT_setL]⟩
    | false =>
      rw [hcs, e, Bool.or_false] at hm
      have := Nat.eq_of_beq_eq_true hm
      subst this
      exact ⟨cs, T, hl, by rw [h.no l e]; simp only [St.setL, nbeq_self, cond_true]⟩
  · rw [hcs] at hm
    obtain ⟨m1, m2⟩ := Bool.or_eq_false_iff.1 hm
    have : m ≠ l := fun e => by subst e; rw [nbeq_self] at m1; cases m1
    rw [h.no m m2]; simp only [St.setL, nbeq_ne this, cond_false]
  · have := h.ver m
    by_cases e : m = l
    · subst e; simp only [St.setL, nbeq_self, cond_true] at this; omega
    · simp only [St.setL, nbeq_ne e, cond_false] at this; exact this
  · by_cases e : m = l
    · subst e
      have := h.ver m
      simp only [St.setL, nbeq_self, cond_true] at this; omega
    · have hm' : carries ks m = true := by rw [hcs, nbeq_ne (Ne.symm e)] at hm; simpa using hm
      have := h.verY m hm'
      simp only [St.setL, nbeq_ne e, cond_false] at this; exact this
theorem carry {R : Type} : ∀ (ks : List Cv) {sb st' : St} {f : Fn R ks} {G : St → R → Prop} {F : R → Prop}, allC ks sb f G → capC ks st' f F → ∃ st1 r, G st1 r ∧ F r ∧ Carried ks sb st' st1
  | [], sb, st', f, G, F, h1, h2 => ⟨sb, f, h1, h2, rfl, fun _ => .inl rfl, fun l h => by simp [carries] at h, fun _ _ => rfl, fun _ => Nat.le_refl _, fun l h => by simp [carries] at h, rfl⟩
  | .slot t k :: ks, sb, st', f, G, F, h1, h2 => by
    simp only [capC] at h2
    cases e : (st'.e t).toV with
    | none => rw [e] at h2; exact h2.elim
    | some v =>
      rw [e] at h2
      obtain ⟨r, g1, g2⟩ := Kd.carry h1 h2
      obtain ⟨st1, r1, k1, k2, c⟩ := carry ks g1 g2
      have hcs : ∀ m, carries (Cv.slot t k :: ks) m = carries ks m := fun m => by simp [carries, Cv.isBlk]
      refine ⟨st1, r1, k1, k2, c.n, fun u => ?_, fun l h => c.yes l (by rw [← hcs]; exact h), fun l h => c.no l (by rw [← hcs]; exact h), c.ver, fun l h => c.verY l (by rw [← hcs]; exact h), c.marks⟩
      rcases c.e u with h | h
      · by_cases eu : u = t
        · subst eu
          refine .inr ⟨v, ?_, e⟩
          rw [h]; simp only [St.set, nbeq_self, cond_true]
        · refine .inl ?_
          rw [h]; simp only [St.set, nbeq_ne eu, cond_false]
      · exact .inr h
  | .blk l kk :: ks, sb, st', f, G, F, h1, h2 => by
    simp only [capC] at h2
    cases e : st'.L l with
    | none => rw [e] at h2; exact h2.elim
    | some x =>
      obtain ⟨cs, T⟩ := x
      rw [e] at h2
      obtain ⟨r, g1, g2⟩ := kcarry h1 h2
      obtain ⟨st1, r1, k1, k2, c⟩ := carry ks g1 g2
      exact ⟨st1, r1, k1, k2, c.setL (fun m => rfl) e⟩
  | .arr l :: ks, sb, st', f, G, F, h1, h2 => by
    simp only [capC] at h2
    cases e : st'.L l with
    | none => rw [e] at h2; exact h2.elim
    | some x =>
      obtain ⟨cs, T⟩ := x
      rw [e] at h2
      obtain ⟨st1, r1, k1, k2, c⟩ := carry ks (h1 cs) h2
      exact ⟨st1, r1, k1, k2, c.setL (fun m => rfl) e⟩
theorem verOk_spec {ks : List Cv} {st st' : St} : ∀ {n : Nat}, verOk ks st st' n = true → ∀ l, l < n → (carries ks l = true → st'.cellT l = st.cellT l) ∧ (carries ks l = false → st'.ver l = st.ver l)
  | 0, _, l, hl => by omega
  | n + 1, h, l, hl => by
    unfold verOk at h
    obtain ⟨h1, h2⟩ := Bool.and_eq_true_iff.1 h
    by_cases e : l = n
    · subst e
      cases ec : carries ks l with
      | true => rw [ec] at h1; exact ⟨fun _ => Nat.eq_of_beq_eq_true h1, (fun h => by cases h)⟩
      | false => rw [ec] at h1; exact ⟨(fun h => by cases h), fun _ => Nat.eq_of_beq_eq_true h1⟩
    · exact verOk_spec h2 l (by omega)
theorem verOk_marks {ks : List Cv} {st st' : St} : ∀ {n : Nat}, verOk ks st st' n = true → st'.marks.length = st.marks.length
  | 0, h => Nat.eq_of_beq_eq_true h
  | n + 1, h => by
    unfold verOk at h
    exact verOk_marks (Bool.and_eq_true_iff.1 h).2
theorem lblOk_spec {ks : List Cv} {n l : Nat} (h : lblOk ks n = true) (hc : carries ks l = true) : l < n := by
  unfold lblOk at h; unfold carries at hc
  obtain ⟨c, hm, hb⟩ := List.any_eq_true.1 hc
  have := List.all_eq_true.1 h c hm
  cases c with
  | slot t k => cases hb
  | blk m kk =>
    have e : m = l := Nat.eq_of_beq_eq_true hb
    subst e
    exact Nat.le_of_ble_eq_true this
  | arr m =>
    have e : m = l := Nat.eq_of_beq_eq_true hb
    subst e
    exact Nat.le_of_ble_eq_true this
end Go.Gx
namespace Go.Gx
theorem bitM_eq (l j : Nat) : bitM l j = l.testBit j := by
  unfold bitM Nat.testBit
  show Nat.beq ((l >>> j) &&& 1) 1 = _
  rw [Nat.and_comm]
  have h : 1 &&& (l >>> j) = 0 ∨ 1 &&& (l >>> j) = 1 := by
    have : 1 &&& (l >>> j) ≤ 1 := Nat.and_le_left
    omega
  rcases h with h | h <;> rw [h] <;> rfl
theorem subM_bits {a b : Nat} (h : subM a b = true) (i : Nat) (hi : a.testBit i = true) : b.testBit i = true := by
  have h : a &&& b = a := Nat.eq_of_beq_eq_true h
  rw [← h, Nat.testBit_and] at hi
  exact (Bool.and_eq_true_iff.1 hi).2
theorem subM_of {a b : Nat} (h : ∀ i, a.testBit i = true → b.testBit i = true) : subM a b = true := by
  have : a &&& b = a := Nat.eq_of_testBit_eq fun i => by
    rw [Nat.testBit_and]
    cases ha : a.testBit i with
    | false => rfl
    | true => rw [h i ha]; rfl
  unfold subM
  show Nat.beq (a &&& b) a = true
  rw [this]
  exact Nat.beq_refl a
theorem bit_lor (a i k : Nat) : (Nat.lor a (Nat.shiftLeft 1 i)).testBit k = (a.testBit k || decide (k = i)) := by
  show (a ||| (1 <<< i)).testBit k = _
  rw [Nat.testBit_or, Nat.one_shiftLeft, Nat.testBit_two_pow]
  congr 1
  exact decide_eq_decide.2 ⟨fun h => h.symm, fun h => h.symm⟩
theorem bit_rol (a i k : Nat) : (Nat.lor (Nat.shiftLeft 1 i) a).testBit k = (decide (k = i) || a.testBit k) := by
  show ((1 <<< i) ||| a).testBit k = _
  rw [Nat.testBit_or, Nat.one_shiftLeft, Nat.testBit_two_pow]
  congr 1
  exact decide_eq_decide.2 ⟨fun h => h.symm, fun h => h.symm⟩
theorem maskOf_bit (f : Nat → Bool) (i : Nat) : ∀ n, (maskOf f n).testBit i = (decide (i < n) && f i)
  | 0 => by simp [maskOf]
  | n + 1 => by
    have ih := maskOf_bit f i n
    unfold maskOf
    cases hf : f n with
    | true =>
      rw [cond_true, bit_rol, ih]
      by_cases h : i = n
      · subst h; simp [hf]
      · simp only [h, decide_false, Bool.false_or]
        congr 1
        exact decide_eq_decide.2 ⟨fun h' => by omega, fun h' => by omega⟩
    | false =>
      rw [cond_false, ih]
      by_cases h : i = n
      · subst h; simp [hf]
      · congr 1
        exact decide_eq_decide.2 ⟨fun h' => by omega, fun h' => by omega⟩
theorem depL_bit (k : Nat) : ∀ es : List Edge, (depL es).testBit k = true ↔ ∃ e ∈ es, Region.binds .any e = true ∧ e.on = k
  | [] => by simp [depL]
  | e :: es => by
    have ih := depL_bit k es
    unfold depL
    cases hb : Region.binds .any e with
    | true =>
      rw [cond_true, bit_rol, Bool.or_eq_true, decide_eq_true_eq, ih]
      constructor
      · rintro (rfl | ⟨e', h1, h2⟩)
        · exact ⟨e, List.mem_cons_self, hb, rfl⟩
        · exact ⟨e', List.mem_cons_of_mem _ h1, h2⟩
      · rintro ⟨e', h1, h2, h3⟩
        rcases List.mem_cons.1 h1 with rfl | h1
        · exact .inl h3.symm
        · exact .inr ⟨e', h1, h2, h3⟩
    | false =>
      rw [cond_false, ih]
      constructor
      · rintro ⟨e', h1, h2⟩
        exact ⟨e', List.mem_cons_of_mem _ h1, h2⟩
      · rintro ⟨e', h1, h2, h3⟩
        rcases List.mem_cons.1 h1 with rfl | h1
        · rw [hb] at h2; cases h2
        · exact ⟨e', h1, h2, h3⟩
def Bits (n : Nat) (L : Array Bool) (l : Nat) : Prop := L.size = n ∧ ∀ i, L.getD i false = l.testBit i
theorem Bits.start (n : Nat) : Bits n (Array.replicate n false) 0 := ⟨Array.size_replicate, fun i => by
  rw [Array.getD_eq_getD_getElem?, Array.getElem?_replicate, Nat.zero_testBit]
  split <;> rfl⟩
variable {ops : Array Oper} {L : Array Bool} {l : Nat}
theorem Bits.get (B : Bits ops.size L l) {i : Nat} (hi : i < ops.size) : L.getD i true = l.testBit i := by
  rw [← B.2 i, Array.getD_eq_getD_getElem?, Array.getD_eq_getD_getElem?, Array.getElem?_eq_getElem (by rw [B.1]; exact hi)]; rfl
theorem Bits.set (B : Bits ops.size L l) {i : Nat} (hi : i < ops.size) : Bits ops.size (L.setIfInBounds i true) (Nat.lor l (Nat.shiftLeft 1 i)) := ⟨by rw [Array.size_setIfInBounds]; exact B.1, fun k => by
  rw [bit_lor, ← B.2 k, Array.getD_eq_getD_getElem?, Array.getD_eq_getD_getElem?]
  by_cases h : k = i
  · subst h
    rw [Array.getElem?_setIfInBounds_self_of_lt (by rw [B.1]; exact hi)]; simp
  · rw [Array.getElem?_setIfInBounds_ne (fun e => h e.symm)]
    simp [h]⟩
theorem rdy_mem (B : Bits ops.size L l) {i : Nat} (h : rdyM ops l i = true) : i ∈ Region.ready .any ops L := by
  unfold rdyM at h
  cases ho : ops[i]? with
  | none => rw [ho] at h; cases h
  | some o =>
    rw [ho] at h
    obtain ⟨h1, h2⟩ := Bool.and_eq_true_iff.1 h
    have hi : i < ops.size := (Array.getElem?_eq_some_iff.1 ho).1
    unfold Region.ready
    rw [List.mem_filter, List.mem_range]
    refine ⟨hi, ?_⟩
    rw [B.get hi, ← bitM_eq, h1, Bool.true_and, ho, Option.map_some, Option.getD_some, Array.all_eq_true_iff_forall_mem]
    intro e he
    cases hb : Region.binds .any e with
    | false => rfl
    | true =>
      have := subM_bits h2 e.on ((depL_bit _ _).2 ⟨e, Array.mem_toList_iff.2 he, hb, rfl⟩)
      rw [B.2, this]; rfl
theorem mem_rdy (B : Bits ops.size L l) {i : Nat} (h : i ∈ Region.ready .any ops L) : ∃ o, ops[i]? = some o ∧ l.testBit i = false ∧ subM (depM o) l = true := by
  unfold Region.ready at h
  rw [List.mem_filter, List.mem_range] at h
  obtain ⟨hi, h⟩ := h
  rw [Bool.and_eq_true, B.get hi] at h
  obtain ⟨h1, h2⟩ := h
  have ho : ops[i]? = some ops[i] := Array.getElem?_eq_getElem hi
  rw [ho, Option.map_some, Option.getD_some, Array.all_eq_true_iff_forall_mem] at h2
  refine ⟨_, ho, by simpa using h1, subM_of fun k hk => ?_⟩
  obtain ⟨e, he, hb, rfl⟩ := (depL_bit k _).1 hk
  have := h2 e (Array.mem_toList_iff.1 he)
  rw [hb, B.2] at this
  simpa using this
theorem noOther_spec {al : List Nat} : ∀ (os : List Oper) (j : Nat), noOther l al os j = true → ∀ k o, os[k]? = some o → l.testBit (j + k) = false → subM (depM o) l = true → al.any (Nat.beq (j + k)) = true
  | [], _, _, k, o, h, _, _ => by simp at h
  | o :: os, j, h, k, o', hk, h1, h2 => by
    unfold noOther at h
    obtain ⟨h3, h4⟩ := Bool.and_eq_true_iff.1 h
    cases k with
    | zero =>
      have : o = o' := by simpa using hk
      subst this
      rw [Nat.add_zero] at h1 ⊢
      rw [bitM_eq, h1, h2] at h3
      simpa using h3
    | succ k =>
      have := noOther_spec os (j + 1) h4 k o' (by simpa using hk) (by rw [show j + 1 + k = j + (k + 1) by omega]; exact h1) h2
      rw [show j + 1 + k = j + (k + 1) by omega] at this; exact this
theorem noOther_ready (B : Bits ops.size L l) {al : List Nat} (h : noOther l al ops.toList 0 = true) {i : Nat} (hi : i ∈ Region.ready .any ops L) : al.any (Nat.beq i) = true := by
  obtain ⟨o, ho, h1, h2⟩ := mem_rdy B hi
  have := noOther_spec _ 0 h i o (by rw [Array.getElem?_toList]; exact ho) (by rw [Nat.zero_add]; exact h1) h2
  rwa [Nat.zero_add] at this
theorem beqN (a b : Nat) : (a == b) = Nat.beq a b := by
  by_cases h : a = b
  · subst h; rw [beq_self_eq_true, Nat.beq_refl]
  · rw [beq_eq_false_iff_ne.2 h]
    exact (Bool.eq_false_iff.2 fun e => h (Nat.eq_of_beq_eq_true e)).symm
theorem free_of (B : Bits ops.size L l) {i : Nat} {o : Oper} (ho : ops[i]? = some o) (h : subM (confM ops i o) l = true) : Region.free .any ops L i = true := by
  unfold Region.free
  rw [ho]
  rw [List.all_eq_true]
  intro j hj
  have hj := List.mem_range.1 hj
  cases hc : (confM ops i o).testBit j with
  | true =>
    have := subM_bits h j hc
    rw [B.get hj, this]; simp
  | false =>
    unfold confM at hc
    rw [maskOf_bit, decide_eq_true hj, Bool.true_and, Bool.not_eq_false'] at hc
    have e1 : (j == i) = Nat.beq j i := beqN j i
    have oj : ops[j]? = some ops[j] := Array.getElem?_eq_getElem hj
    rw [oj] at hc ⊢
    simp only [] at hc ⊢
    have e2 : ∀ e : Edge, (e.on == i) = Nat.beq e.on i := fun _ => beqN _ _
    simp only [e1, e2]
    cases hb : Nat.beq j i with
    | true => rfl
    | false =>
      rw [hb, Bool.false_or] at hc
      rw [hc]; simp
theorem fastOk_spec {P : Program} {x : Option Nat} {m : List Nat} : ∀ (t : Tr) {hd : Bool} {n : Nat} {L : Array Bool} {l : Nat}, Bits ops.size L l → fastOk P ops x m hd t n l = true → orderOk P ops x m hd t n L = true := by
  intro t
  induction t with
  | done =>
    intro hd n L l B h
    unfold fastOk at h
    unfold orderOk
    obtain ⟨h1, h2⟩ := Bool.and_eq_true_iff.1 h
    rw [h1, Bool.true_and, List.isEmpty_iff]
    cases hr : Region.ready .any ops L with
    | nil => rfl
    | cons i r =>
      have := noOther_ready B h2 (i := i) (by rw [hr]; exact List.mem_cons_self)
      cases this
  | e => intro hd n L l B h; unfold fastOk at h; unfold orderOk; exact h
  | q i t ih =>
    intro hd n L l B h
    cases n with
    | zero => unfold fastOk at h; cases h
    | succ n =>
    unfold fastOk at h
    unfold orderOk
    obtain ⟨h, h2⟩ := Bool.and_eq_true_iff.1 h
    obtain ⟨h1, h⟩ := Bool.and_eq_true_iff.1 h
    cases ho : ops[i]? with
    | none => rw [ho] at h; cases h
    | some o =>
      rw [ho] at h
      simp only [] at h ⊢
      obtain ⟨h, h5⟩ := Bool.and_eq_true_iff.1 h
      obtain ⟨h3, h4⟩ := Bool.and_eq_true_iff.1 h
      have hm := rdy_mem B h4
      have hany : (Region.ready .any ops L).any (Nat.beq i) = true := List.any_eq_true.2 ⟨i, hm, Nat.beq_refl i⟩
      have hi : i < ops.size := (Array.getElem?_eq_some_iff.1 ho).1
      rw [h1, h3, hany, free_of B ho h5, ih (B.set hi) h2]; rfl
  | f i t u iht ihu =>
    intro hd n L l B h
    cases n with
    | zero => unfold fastOk at h; cases h
    | succ n =>
    unfold fastOk at h
    unfold orderOk
    obtain ⟨h, h2⟩ := Bool.and_eq_true_iff.1 h
    obtain ⟨h, h3⟩ := Bool.and_eq_true_iff.1 h
    obtain ⟨h0, h1⟩ := Bool.and_eq_true_iff.1 h
    have hm := rdy_mem B h0
    have hi : i < ops.size := by
      unfold Region.ready at hm
      exact List.mem_range.1 (List.mem_filter.1 hm).1
    rw [iht (B.set hi) h3, ihu B h2, Bool.and_true, Bool.and_true]
    cases hd with
    | false => rfl
    | true =>
      have h1 : noOther l (i :: u.alts) ops.toList 0 = true := h1
      have hany : (Region.ready .any ops L).any (Nat.beq i) = true := List.any_eq_true.2 ⟨i, hm, Nat.beq_refl i⟩
      rw [hany, Bool.true_and, Bool.not_true, Bool.false_or, List.all_eq_true]
      intro j hj
      have := noOther_ready B h1 hj
      rw [List.any_cons] at this
      rcases Bool.or_eq_true_iff.1 this with e | e
      · rw [Nat.eq_of_beq_eq_true e, Nat.beq_refl]; rfl
      · have : (u.alts.any fun k => Nat.beq k j) = true := by
          obtain ⟨k, hk, hb⟩ := List.any_eq_true.1 e
          exact List.any_eq_true.2 ⟨k, hk, by rw [Nat.eq_of_beq_eq_true hb]; exact Nat.beq_refl k⟩
        rw [this, Bool.or_true]
end Go.Gx
namespace Go.Gx

section
variable {P : Program} {ops : Array Oper} {Q : Exit → Act → World → Prop} {S : Array Bool → World → Prop}

def Closed (ops : Array Oper) (L : Array Bool) : Prop := ∀ j o, ops[j]? = some o → L.getD j false = true → ∀ e ∈ o.after, Region.binds .any e = true → L.getD e.on false = true
theorem Closed.start : Closed ops (Array.replicate ops.size false) := fun j o _ h => by
  rw [Array.getD_eq_getD_getElem?, Array.getElem?_replicate] at h
  split at h <;> simp at h
theorem Closed.step {L : Array Bool} {i : Nat} (h : Closed ops L) (hi : i ∈ Region.ready .any ops L) : Closed ops (L.setIfInBounds i true) := fun j o hj hl e he hb => by
  by_cases e1 : j = i
  · subst e1
    obtain ⟨_, o', ho', hall⟩ := mem_ready.1 hi
    rw [hj] at ho'; cases ho'
    exact getD_set_true (hall e he hb)
  · rw [getD_set_ne false (Ne.symm e1)] at hl
    exact getD_set_true (h j o hj hl e he hb)
theorem unlisted {L : Array Bool} {i : Nat} (h : L.getD i true = false) (h' : L.getD i false = true) : False := by
  rw [Array.getD_eq_getD_getElem?] at h h'
  cases e : L[i]? with
  | none => rw [e] at h; simp at h
  | some b => rw [e] at h h'; simp at h h'; rw [h] at h'; cases h'
theorem ancs_spec {L : Array Bool} (hc : Closed ops L) : ∀ (l m : List Nat), (∀ j ∈ m, L.getD j false = true) → ∀ j ∈ ancs ops m l, L.getD j false = true
  | [], _, hm => hm
  | k :: l, m, hm => by
    refine ancs_spec hc l _ ?_
    cases e : m.any (Nat.beq k) with
    | false => exact hm
    | true =>
      obtain ⟨k', hk, hb⟩ := List.any_eq_true.1 e
      have := Nat.eq_of_beq_eq_true hb
      subst this
      simp only [cond_true]
      cases eo : ops[k]? with
      | none => exact hm
      | some o =>
        intro j hj
        rcases List.mem_append.1 hj with hj | hj
        · obtain ⟨ed, hd, rfl⟩ := List.mem_map.1 hj
          obtain ⟨h1, h2⟩ := List.mem_filter.1 hd
          exact hc k o eo (hm k hk) ed (by simpa using h1) h2
        · exact hm j hj

def wpX (P : Program) (ops : Array Oper) (Q : Exit → Act → World → Prop) (S : Array Bool → World → Prop) : Nat → Array Bool → Act → World → Prop
  | 0, L, a, w => Region.ready .any ops L = [] ∧ Q .normal a w
  | n + 1, L, a, w => (Region.ready .any ops L = [] → Q .normal a w) ∧
      ∀ i ∈ Region.ready .any ops L, wpOp P ops Q i (fun a' w' => S (L.setIfInBounds i true) w' ∧ wpX P ops Q S n (L.setIfInBounds i true) a' w') a w
theorem wpX_any : ∀ (n : Nat) (L : Array Bool) (a : Act) (w : World), wpX P ops Q S n L a w → wpAny P .any ops Q n L a w
  | 0, _, _, _, h => h
  | n + 1, _, _, _, h => ⟨h.1, fun i hi => wpOp_mono (fun a' w' h' => wpX_any n _ a' w' h'.2) (h.2 i hi)⟩
theorem wpX_done {L : Array Bool} {a : Act} {w : World} (hr : Region.ready .any ops L = []) (h : Q .normal a w) : ∀ n, wpX P ops Q S n L a w
  | 0 => ⟨hr, h⟩
  | _ + 1 => ⟨fun _ => h, by rw [hr]; simp⟩
theorem wpX_first {i : Nat} {oi : Oper} {v : Value} (hi : ops[i]? = some oi) (hsel : Region.noSelect ops = true)
    (hQ : ∀ c a w, Q (.panic c) (a.put oi.dst v) w → Q (.panic c) a w) (hS' : ∀ L w, S L w → S (L.setIfInBounds i true) w) (hS : ∀ L w, Closed ops L → L.getD i true = false → S (L.setIfInBounds i true) w → S L w) :
    ∀ (n : Nat) (L : Array Bool) (a : Act) (w : World), Closed ops L →
      (∀ j oj, ops[j]? = some oj → j ≠ i → L.getD j true = false → (∀ e ∈ oj.after, Region.binds .any e = true → e.on ≠ i) → oi.apart ops oj = true) →
      i ∈ Region.ready .any ops L → YieldsIf P ops (fun w => ∃ L, Closed ops L ∧ L.getD i true = false ∧ S L w) oi v a → S L w →
      wpX P ops Q S n (L.setIfInBounds i true) (a.put oi.dst v) w → wpX P ops Q S (n + 1) L a w := by
  have take : ∀ (n : Nat) (L : Array Bool) (a : Act) (w : World), Closed ops L → i ∈ Region.ready .any ops L → YieldsIf P ops (fun w => ∃ L, Closed ops L ∧ L.getD i true = false ∧ S L w) oi v a → S L w →
      wpX P ops Q S n (L.setIfInBounds i true) (a.put oi.dst v) w → wpOp P ops Q i (fun a' w' => S (L.setIfInBounds i true) w' ∧ wpX P ops Q S n (L.setIfInBounds i true) a' w') a w := fun n L a w hc hr hy hs H =>
    hy.wpOp hi ⟨L, hc, (mem_ready.1 hr).1, hs⟩ ⟨hS' L w hs, H⟩
  intro n
  induction n with
  | zero =>
    intro L a w hc _ hr hy hs H
    refine ⟨fun h => (by rw [h] at hr; cases hr), fun j hj => ?_⟩
    by_cases e : j = i
    · subst e; exact take 0 L a w hc hr hy hs H
    · have h0 := ready_mono hj e
      rw [H.1] at h0; cases h0
  | succ n ih =>
    intro L a w hc hf hr hy hs H
    refine ⟨fun h => (by rw [h] at hr; cases hr), fun j hj => ?_⟩
    by_cases e : j = i
    · subst e; exact take (n + 1) L a w hc hr hy hs H
    · obtain ⟨hju, oj, hoj, hall⟩ := mem_ready.1 hj
      have hiu := (mem_ready.1 hr).1
      have hno : ∀ ed ∈ oj.after, Region.binds .any ed = true → ed.on ≠ i := fun ed he hb heq => unlisted hiu (heq ▸ hall ed he hb)
      refine wpOp_mono (fun a' w' h => ?_) (wpOp_putIf hoj (hf j oj hoj e hju hno) (fun cs b => Region.noSelect_spec hsel i oi cs b hi) (fun cs b => Region.noSelect_spec hsel j oj cs b hoj) hQ hy (H.2 j (ready_mono hj e)))
      obtain ⟨hy', hs', H'⟩ := h
      have hiu' : (L.setIfInBounds j true).getD i true = false := by rw [getD_set_ne true e]; exact hiu
      rw [Array.setIfInBounds_comm _ _ (Ne.symm e)] at hs' H'
      have hs1 := hS _ _ (hc.step hj) hiu' hs'
      refine ⟨hs1, ih _ a' w' (hc.step hj) (fun k ok hk hki hku hkn => hf k ok hk hki ?_ hkn) (ready_mono hr (Ne.symm e)) hy' hs1 H'⟩
      by_cases ek : j = k
      · subst ek; exact hju
      · rw [getD_set_ne true ek] at hku; exact hku
end

section
variable {P : Program} {H : Hints} {w0 : World} {h0 : Hp}
theorem opQ_spec {ops : Array Oper} {o : Oper} {L : Nat → Option (List Value × TypeId)} {st : St} {h hl : Hp} {K : St → Prop} {a : Act} {ρ : Nat → Nat} (hW : opQ P H ops o L st h hl K) (hq : quietOp P o.op = true)
    (he : EnvR ρ st a.tmps) (hN : a.tmps.size = H.N) :
    ∃ v st', K st' ∧ EnvR ρ st' (a.put o.dst v).tmps ∧ (∀ w, HeapR w0 h0 ρ st h w → HeapR w0 h0 ρ st' h w) ∧ Ext ρ ρ st st' ∧ YieldsIf P ops (fun w => Holds hl w ∧ LocR ρ { st with L := L } w) o v a := by
  have main : ∀ st1 : St, EnvR ρ st1 a.tmps → (∀ w, HeapR w0 h0 ρ st h w → HeapR w0 h0 ρ st1 h w) → Ext ρ ρ st st1 → Region.wanted o (yielded ops a.tmps) = true →
      opW P H o { st1 with L := L } h hl (fun s _ _ => K (st1.put H.N o.dst s)) →
      ∃ v st', K st' ∧ EnvR ρ st' (a.put o.dst v).tmps ∧ (∀ w, HeapR w0 h0 ρ st h w → HeapR w0 h0 ρ st' h w) ∧ Ext ρ ρ st st' ∧ YieldsIf P ops (fun w => Holds hl w ∧ LocR ρ { st1 with L := L } w) o v a := by
    intro st1 he1 hh1 hx1 hw hW
    obtain ⟨sv, v, hk, hs, hr⟩ := quiet_spec hq hW (show EnvR ρ { st1 with L := L } a.tmps from he1)
    exact ⟨v, _, hk, he1.put hN hs, fun w hh => (hh1 w hh).put _ _ _, hx1.trans (Ext.put _ _ _ _ _), .inl ⟨hw, fun w ⟨h1, h2⟩ => hr w h1 h2⟩⟩
  have skip : ∀ st1 : St, EnvR ρ st1 a.tmps → (∀ w, HeapR w0 h0 ρ st h w → HeapR w0 h0 ρ st1 h w) → Ext ρ ρ st st1 → Region.wanted o (yielded ops a.tmps) = false → K (st1.put H.N o.dst (.val undef)) →
      ∃ v st', K st' ∧ EnvR ρ st' (a.put o.dst v).tmps ∧ (∀ w, HeapR w0 h0 ρ st h w → HeapR w0 h0 ρ st' h w) ∧ Ext ρ ρ st st' ∧ YieldsIf P ops (fun w => Holds hl w ∧ LocR ρ { st with L := L } w) o v a := by
    intro st1 he1 hh1 hx1 hw hk
    exact ⟨undef, _, hk, he1.put hN rfl, fun w hh => (hh1 w hh).put _ _ _, hx1.trans (Ext.put _ _ _ _ _), .inr ⟨hw, rfl⟩⟩
  unfold opQ at hW
  cases hg : o.guard with
  | none =>
    rw [hg] at hW
    exact main st he (fun _ h => h) (Ext.refl _ _) (by simp only [Region.wanted, hg]) hW
  | some jw =>
    obtain ⟨j, want⟩ := jw
    rw [hg] at hW
    simp only [] at hW
    cases hd : (ops[j]?).bind (·.dst) with
    | none => rw [hd] at hW; exact hW.elim
    | some d =>
      rw [hd] at hW
      simp only [] at hW
      have hed := he d
      split at hW
      · rename_i b eb
        rw [eb] at hed
        have hed' : a.tmps.getD d undef = .bool b := hed
        have hy : yielded ops a.tmps j = some b := by
          unfold yielded
          simp only [hd, Option.bind_some, getD_some hed' (by intro h; cases h)]
        have he' : EnvR ρ (st.set d (.val (.bool b))) a.tmps := he.setBool hed'
        have hw : Region.wanted o (yielded ops a.tmps) = (b == want) := by
          simp only [Region.wanted, hg]; rw [hy]; cases b <;> cases want <;> rfl
        cases b <;> cases want <;> simp only [cond_true, cond_false] at hW
        · exact main (st.set d (.val (.bool _))) he' (fun _ hh => hh.set _ _) (Ext.set _ _ _ _) hw hW
        · exact skip (st.set d (.val (.bool _))) he' (fun _ hh => hh.set _ _) (Ext.set _ _ _ _) hw hW
        · exact skip (st.set d (.val (.bool _))) he' (fun _ hh => hh.set _ _) (Ext.set _ _ _ _) hw hW
        · exact main (st.set d (.val (.bool _))) he' (fun _ hh => hh.set _ _) (Ext.set _ _ _ _) hw hW
      · rename_i vs eb
        rw [eb] at hed
        have hed' : a.tmps.getD d undef = .tuple vs := hed
        have hy : yielded ops a.tmps j = none := by
          unfold yielded
          simp only [hd, Option.bind_some]
          rw [Array.getD_eq_getD_getElem?] at hed'
          cases e : a.tmps[d]? with
          | none => rfl
          | some x => rw [e] at hed'; simp at hed'; rw [hed']
        have hw : Region.wanted o (yielded ops a.tmps) = false := by
          simp only [Region.wanted, hg]; rw [hy]; cases want <;> rfl
        exact skip _ he (fun _ h => h) (Ext.refl _ _) hw hW
      · exact hW.elim
def offX (x : Option Nat) (L : Array Bool) : Prop := ∃ y, x = some y ∧ L.getD y false = true
theorem offX_set {x : Option Nat} {L : Array Bool} {i : Nat} (h : offX x L) : offX x (L.setIfInBounds i true) := by
  obtain ⟨y, e, h⟩ := h
  exact ⟨y, e, getD_set_true h⟩
theorem offX_unset {x : Option Nat} {L : Array Bool} {i : Nat} (hi : isX x i = false) (h : offX x (L.setIfInBounds i true)) : offX x L := by
  obtain ⟨y, rfl, h⟩ := h
  refine ⟨y, rfl, ?_⟩
  have : i ≠ y := fun e => by subst e; unfold isX at hi; simp only [nbeq_self] at hi; cases hi
  rwa [getD_set_ne false this] at h
theorem ready_lt {md : Region.Mode} {ops : Array Oper} {L : Array Bool} {i : Nat} (h : i ∈ Region.ready md ops L) : i < L.size := by
  have h := (mem_ready.1 h).1
  rw [Array.getD_eq_getD_getElem?] at h
  rcases Nat.lt_or_ge i L.size with h' | h'
  · exact h'
  · rw [Array.getElem?_eq_none h'] at h; cases h
theorem ordW_sound {hS : Hp} {ops : Array Oper} {x : Option Nat} {m : List Nat} {st0 : St} {ρ0 : Nat → Nat} {hl : Hp} {Q : Exit → Act → World → Prop} {KK : St → Hp → Prop} {wS : World} (hS0 : HeapR w0 h0 ρ0 st0 hS wS)
    (hsel : Region.noSelect ops = true) (hm : ∀ L, Closed ops L → ∀ y, x = some y → L.getD y false = true → ∀ j ∈ m, L.getD j false = true) (hQ : ∀ c a w, ¬ Q (.panic c) a w) {a0 : Act} :
    ∀ (tr : Tr) {off : Bool} {st : St} {h : Hp} {a : Act} {w : World} {ρ : Nat → Nat} {L : Array Bool} {n : Nat} {hd : Bool}, ordW P H ops x m st0 hl tr off st h KK → orderOk P ops x m hd tr n L = true → Closed ops L → (off = true → offX x L) → (off = false → Holds hl w ∧ LocR ρ0 st0 w) →
      EnvR ρ st a.tmps → a.tmps.size = H.N → HeapR w0 h0 ρ st h w → Ext ρ0 ρ st0 st → a.defers = a0.defers → (∀ t, opsAsg ops.toList t = false → a.tmps[t]? = a0.tmps[t]?) →
      (∀ a' w', (∃ st' h' ρ', KK st' h' ∧ EnvR ρ' st' a'.tmps ∧ HeapR w0 h0 ρ' st' h' w' ∧ Ext ρ0 ρ' st0 st') → a'.tmps.size = H.N → a'.defers = a0.defers → (∀ t, opsAsg ops.toList t = false → a'.tmps[t]? = a0.tmps[t]?) → Q .normal a' w') →
      (hd = true → wpX P ops Q (fun L w => offX x L ∨ (Holds hl w ∧ LocR ρ0 st0 w)) n L a w) ∧
      ∀ k, n = k + 1 → ∀ i ∈ tr.alts, i ∈ Region.ready .any ops L → wpOp P ops Q i (fun a' w' => (offX x (L.setIfInBounds i true) ∨ (Holds hl w' ∧ LocR ρ0 st0 w')) ∧ wpX P ops Q (fun L w => offX x L ∨ (Holds hl w ∧ LocR ρ0 st0 w)) k (L.setIfInBounds i true) a' w') a w := by
  have hasg : ∀ i o, ops[i]? = some o → ∀ t, opsAsg ops.toList t = false → dstIs o t = false := fun i o ho t ht => by
    have : o ∈ ops.toList := by
      have := Array.mem_of_getElem? ho
      simpa using this
    unfold opsAsg at ht
    have := List.any_eq_false.1 ht o this
    unfold dstIs
    simpa using this
  intro tr
  induction tr with
  | done =>
    intro off st h a w ρ L n hd hW hO _ _ _ he hN hh hx hd' hf hn
    obtain ⟨_, hO⟩ := Bool.and_eq_true_iff.1 (show (hd && (Region.ready .any ops L).isEmpty) = true by unfold orderOk at hO; exact hO)
    exact ⟨fun _ => wpX_done (List.isEmpty_iff.1 hO) (hn _ _ ⟨st, h, ρ, hW, he, hh, hx⟩ hN hd' hf) _, fun _ _ i hi => by cases hi⟩
  | e =>
    intro off st h a w ρ L n hd hW hO _ _ _ he hN hh hx hd' hf hn
    unfold orderOk at hO
    exact ⟨(fun e => by subst e; cases hO), fun _ _ i hi => (by cases hi)⟩
  | q i t ih =>
    intro off st h a w ρ L n hd hW hO hc hoff hon he hN hh hx hd' hf hn
    refine ⟨fun ehd => ?_, fun _ _ i hi => by cases hi⟩
    cases n with
    | zero => unfold orderOk at hO; cases hO
    | succ n =>
    unfold orderOk at hO
    obtain ⟨hO, hO'⟩ := Bool.and_eq_true_iff.1 hO
    obtain ⟨_, hO⟩ := Bool.and_eq_true_iff.1 hO
    unfold ordW at hW
    cases ho : ops[i]? with
    | none => rw [ho] at hW; exact hW.elim
    | some o =>
      rw [ho] at hW hO
      simp only [] at hW hO
      have hS : offX x L ∨ (Holds hl w ∧ LocR ρ0 st0 w) := by
        cases off with
        | true => exact .inl (hoff rfl)
        | false => exact .inr (hon rfl)
      obtain ⟨hO1, hO2⟩ := Bool.and_eq_true_iff.1 hO
      obtain ⟨hfi, hO1⟩ := Bool.and_eq_true_iff.1 hO1
      obtain ⟨i', hi', hb⟩ := List.any_eq_true.1 hO1
      have := Nat.eq_of_beq_eq_true hb
      subst this
      obtain ⟨hq, hix⟩ := Bool.and_eq_true_iff.1 hfi
      obtain ⟨hq, hq2⟩ := Bool.and_eq_true_iff.1 hq
      have key : ∃ v st', ordW P H ops x m st0 hl t off st' h KK ∧ EnvR ρ st' (a.put o.dst v).tmps ∧ (∀ w, HeapR w0 h0 ρ st h w → HeapR w0 h0 ρ st' h w) ∧ Ext ρ ρ st st' ∧
          YieldsIf P ops (fun w => ∃ L, Closed ops L ∧ L.getD i true = false ∧ (offX x L ∨ (Holds hl w ∧ LocR ρ0 st0 w))) o v a := by
        cases hon : onI x m i with
        | true =>
          rw [hon] at hW
          simp only [cond_true] at hW
          obtain ⟨v, st', k1, k2, k3, k4, k5⟩ := opQ_spec (w0 := w0) (h0 := h0) hW hq he hN
          refine ⟨v, st', k1, k2, k3, k4, k5.imp (fun ⟨y1, y2⟩ => ⟨y1, fun w ⟨L', c', u', s'⟩ => y2 w ?_⟩) id⟩
          have : Holds hl w ∧ LocR ρ0 st0 w := by
            rcases s' with ⟨y, e, hy⟩ | s'
            · exfalso
              subst e
              unfold onI at hon
              obtain ⟨o1, _⟩ := Bool.and_eq_true_iff.1 hon
              obtain ⟨i2, hi2, hb2⟩ := List.any_eq_true.1 o1
              have := Nat.eq_of_beq_eq_true hb2
              subst this
              exact unlisted u' (hm L' c' y rfl hy i hi2)
            · exact s'
          refine ⟨this.1, fun b cs t e => ?_⟩
          have hlt : b < st0.n := by
            rcases Nat.lt_or_ge b st0.n with h' | h'
            · exact h'
            · have := hS0.top b h'
              rw [this] at e; cases e
          rw [hx.rho b hlt]
          exact this.2 b cs t e
        | false =>
          rw [hon] at hW
          simp only [cond_false] at hW
          obtain ⟨v, st', k1, k2, k3, k4, k5⟩ := opQ_spec (w0 := w0) (h0 := h0) hW hq he hN
          exact ⟨v, st', k1, k2, k3, k4, k5.imp (fun ⟨y1, y2⟩ => ⟨y1, fun w _ => y2 w ⟨(fun _ _ e => by cases e), (fun _ _ _ e => by cases e)⟩⟩) id⟩
      obtain ⟨v, st', k1, k2, k3, k4, k5⟩ := key
      have hix : isX x i = false := by simpa using hix
      refine wpX_first ho hsel (fun c a w h => (hQ _ _ _ h).elim) (fun L w h => h.imp offX_set id) (fun L w _ _ h => h.imp (offX_unset hix) id) n L a w hc (Region.free_spec ho hO2) hi' k5 hS ?_
      exact (ih k1 hO' (hc.step hi') (fun e => offX_set (hoff e)) hon k2 ((put_size _ _ _).trans hN) (k3 w hh) (hx.trans k4) ((put_defers _ _ _).trans hd') (fun t ht => (put_other _ _ _ (dst_ne (hasg i o ho t ht))).trans (hf t ht)) hn).1 rfl
  | f i t u iht ihu =>
    intro off st h a w ρ L n hd hW hO hc hoff hon he hN hh hx hd' hf hn
    cases n with
    | zero => unfold orderOk at hO; cases hO
    | succ n =>
    unfold orderOk at hO
    obtain ⟨hO, hOu⟩ := Bool.and_eq_true_iff.1 hO
    obtain ⟨hO, hOt⟩ := Bool.and_eq_true_iff.1 hO
    unfold ordW at hW
    have hW' : (match ops[i]? with
      | none => False
      | some o => opG P H ops o st h h fun st' h' => bif off || isX x i then ordW P H ops x m st0 hl t true st' h' KK else
        bif verOk [] st0 st' st0.n then Sub hl h' ∧ ordW P H ops x m st0 hl t false st' h' KK else False) ∧ (u.isE = false → ordW P H ops x m st0 hl u off st h KK) := by
      cases e : u.isE with
      | true => rw [e] at hW; exact ⟨hW, fun h => by cases h⟩
      | false => rw [e] at hW; exact ⟨hW.1, fun _ => hW.2⟩
    clear hW
    obtain ⟨hW, hU⟩ := hW'
    have B : ∀ k, n + 1 = k + 1 → ∀ j ∈ (Tr.f i t u).alts, j ∈ Region.ready .any ops L → wpOp P ops Q j (fun a' w' => (offX x (L.setIfInBounds j true) ∨ (Holds hl w' ∧ LocR ρ0 st0 w')) ∧ wpX P ops Q (fun L w => offX x L ∨ (Holds hl w ∧ LocR ρ0 st0 w)) k (L.setIfInBounds j true) a' w') a w := by
      intro k ek j hj hi'
      have ek : n = k := by omega
      subst ek
      rcases List.mem_cons.1 (show j ∈ i :: u.alts from hj) with rfl | hj
      · cases ho : ops[j]? with
        | none => rw [ho] at hW; exact hW.elim
        | some o =>
          rw [ho] at hW
          simp only [] at hW
          unfold wpOp
          simp only [ho]
          refine opG_sound _ hW he hN hh hh.holds fun a1 w1 ⟨⟨st1, h1, ρ1, hW1, he1, hh1, hx1⟩, hs1, hd1, hf1⟩ => ?_
          have fr : ∀ t, opsAsg ops.toList t = false → a1.tmps[t]? = a0.tmps[t]? := fun t ht => (hf1 t (hasg j o ho t ht)).trans (hf t ht)
          cases eo : (off || isX x j) with
          | true =>
            rw [eo] at hW1
            have hoff' : offX x (L.setIfInBounds j true) := by
              rcases Bool.or_eq_true_iff.1 eo with e | e
              · exact offX_set (hoff e)
              · cases x with
                | none => cases e
                | some y =>
                  have := Nat.eq_of_beq_eq_true e
                  subst this
                  refine ⟨y, rfl, ?_⟩
                  rw [Array.getD_eq_getD_getElem?, Array.getElem?_setIfInBounds_self_of_lt (ready_lt hi')]; rfl
            exact ⟨.inl hoff', (iht hW1 hOt (hc.step hi') (fun _ => hoff') (fun e => by cases e) he1 (hs1.trans hN) hh1 (hx.trans hx1) (hd1.trans hd') fr hn).1 rfl⟩
          | false =>
            rw [eo] at hW1
            simp only [cond_false] at hW1
            cases ev : verOk [] st0 st1 st0.n with
            | false => rw [ev] at hW1; exact hW1.elim
            | true =>
              rw [ev] at hW1
              obtain ⟨hsub, hW1⟩ := hW1
              have hx2 := hx.trans hx1
              have hs' : Holds hl w1 ∧ LocR ρ0 st0 w1 := by
                refine ⟨fun b ob e => hh1.holds b ob (hsub b ob e), fun b cs t e => ?_⟩
                have hlt : b < st0.n := by
                  rcases Nat.lt_or_ge b st0.n with h' | h'
                  · exact h'
                  · have := hS0.top b h'
                    rw [this] at e; cases e
                have h1 := (hx2.ver b hlt).2 ((verOk_spec ev b hlt).2 rfl)
                rw [← hx2.rho b hlt]
                exact (hh1.loc b cs t (by rw [h1]; exact e)).1
              have eoff : off = false := (Bool.or_eq_false_iff.1 eo).1
              exact ⟨.inr hs', (iht hW1 hOt (hc.step hi') (fun e => by cases e) (fun _ => hs') he1 (hs1.trans hN) hh1 hx2 (hd1.trans hd') fr hn).1 rfl⟩
      · have hu : u.isE = false := by
          cases u with
          | e => cases hj
          | _ => rfl
        exact (ihu (hU hu) hOu hc hoff hon he hN hh hx hd' hf hn).2 n rfl j hj hi'
    refine ⟨fun ehd => ?_, B⟩
    subst ehd
    have hsub : ∀ j ∈ Region.ready .any ops L, j ∈ (Tr.f i t u).alts := fun j hj => by
      have := List.all_eq_true.1 (Bool.and_eq_true_iff.1 (show ((Region.ready .any ops L).any (Nat.beq i) && (Region.ready .any ops L).all fun j => (Nat.beq i j || u.alts.any fun k => Nat.beq k j)) = true from by simpa using hO)).2 j hj
      rcases Bool.or_eq_true_iff.1 this with e | e
      · rw [Nat.eq_of_beq_eq_true e]; exact List.mem_cons_self
      · obtain ⟨k, hk, hb⟩ := List.any_eq_true.1 e
        rw [← Nat.eq_of_beq_eq_true hb]
        exact List.mem_cons_of_mem _ hk
    refine ⟨fun h0 => ?_, fun j hj => B n rfl j (hsub j hj) hj⟩
    obtain ⟨i', hi', _⟩ := List.any_eq_true.1 (Bool.and_eq_true_iff.1 (show ((Region.ready .any ops L).any (Nat.beq i) && (Region.ready .any ops L).all fun j => (Nat.beq i j || u.alts.any fun k => Nat.beq k j)) = true from by simpa using hO)).1
    rw [h0] at hi'; cases hi'
theorem drawW_sound {id : Nat} {ops : Array Oper} {st : St} {h : Hp} {K : St → Hp → Prop} {a : Act} {w : World} {ρ : Nat → Nat} (hW : drawW P H id ops st h K) (he : EnvR ρ st a.tmps) (hN : a.tmps.size = H.N) (hh : HeapR w0 h0 ρ st h w) :
    P.follows .mixedOrders = true ∧ wpAny P .any ops (fun e a' w' => e = .normal ∧ Left P H w0 h0 ρ st a (opsAsg ops.toList) K a' w') ops.size (Array.replicate ops.size false) a { w with drawn := w.drawn + 1 } := by
  unfold drawW at hW
  split at hW
  · exact hW.elim
  · rename_i x ex ord tr _
    cases ed : drawOk P ops x (befores ops ord x) tr with
    | false => rw [ed] at hW; exact hW.elim
    | true =>
      rw [ed] at hW
      simp only [cond_true] at hW
      unfold drawOk at ed
      obtain ⟨ed, d4⟩ := Bool.and_eq_true_iff.1 ed
      obtain ⟨d2, d3⟩ := Bool.and_eq_true_iff.1 ed
      have hW' : ∃ hl, Sub hl h ∧ ordW P H ops x (befores ops ord x) st hl tr false st h K := by
        cases ex with
        | true => exact hW
        | false => exact ⟨h, fun _ _ e => e, hW⟩
      obtain ⟨hl, hsub, hW'⟩ := hW'
      have hh' : HeapR w0 h0 ρ st h { w with drawn := w.drawn + 1 } := hh.of_heap rfl rfl rfl rfl
      refine ⟨d3, wpX_any _ _ _ _ (S := fun L w => offX x L ∨ (Holds hl w ∧ LocR ρ st w)) ?_⟩
      refine (ordW_sound (a0 := a) hh' d2 (fun L hc y hx hy => ?_) (fun c a w h => by cases h.1) tr hW' (fastOk_spec tr (Bits.start _) d4) Closed.start (fun e => by cases e) (fun _ => ⟨fun b o e => hh'.holds b o (hsub b o e), hh'.locR⟩) he hN hh' (Ext.refl _ _) rfl (fun _ _ => rfl) (fun a' w' ex hs hd hf => ⟨rfl, ⟨ex, hs.trans hN.symm, hd, hf⟩⟩)).1 rfl
      subst hx
      exact ancs_spec hc _ _ (fun j hj => by rw [List.mem_singleton.1 hj]; exact hy)
end
end Go.Gx
namespace Go.Gx

abbrev FR (r : Option Nat) : Fence := { Fence.wide with round := r }
theorem calls_fr {r : Option Nat} {m : Nat} {P : Program} {f : FuncId} {args : Array Value} {w : World} {R : Ending → World → Prop} (h : Calls P f args w R) : CallsIn (FR r) m P f args w R := by
  cases r with
  | none => exact callsIn_wide.2 h
  | some l => exact CallsIn.inRound l (callsIn_wide.2 h)
theorem rows_fr {r : Option Nat} {m : Nat} {P : Program} {row : String} {args : Array Value} {w : World} {R : Value → World → Prop} (h : Rows P row args w R) : RowsIn (FR r) m P row args w R := fun c cs _ =>
  let ⟨v, w', q, s⟩ := h c cs
  ⟨v, w', q, (stepsIn_wide (P := P)).2 s⟩
theorem wp_fr {r : Option Nat} {n : Nat} {P : Program} {o : Oper} {a : Act} {w : World} {next : Act → World → Prop} {Q : Exit → Act → World → Prop} (hd : r = none ∨ ∀ c, o.op ≠ .defer c) (h : o.wp P a w next Q) : o.wpIn (FR r) n P a w next Q := by
  refine ⟨fun _ _ => trivial, ?_⟩
  have e : o.semAt (FR r).round a.eval = execOp a.eval o := by
    rcases hd with rfl | hd
    · rfl
    · cases r with
      | none => rfl
      | some l => exact Oper.semAt_some l a.eval o hd
  rw [e]
  unfold Oper.wp at h
  generalize (execOp a.eval o).run P w = res at h
  cases res with
  | ok x w' =>
    cases x with
    | enter f args => exact ⟨(fun h => by cases h), calls_fr h⟩
    | row row args => exact ⟨(fun h => by cases h), rows_fr h⟩
    | value v => exact h
    | skip => exact h
    | defer d => exact h
    | _ => exact h.elim
  | halt x w' =>
    cases x <;> first | exact h | exact (show False from h).elim
def notDefer (o : Oper) : Bool := match o.op with
  | .defer _ => false
  | _ => true
theorem notDefer_spec {o : Oper} (h : notDefer o = true) : ∀ c, o.op ≠ .defer c := fun c e => by unfold notDefer at h; rw [e] at h; cases h
theorem round_fr {r : Option Nat} {n m : Nat} {P : Program} {l : Nat} {f : FuncId} {tmps : Array Value} {assign body : Code} {w : World} {R : Ending → World → Prop} (h : RoundIn Fence.wide m P l f tmps assign body w R) : RoundIn (FR r) n P l f tmps assign body w R :=
  ⟨trivial, fun c cs _ => h.2 c cs (room_wide _)⟩
theorem isYield_spec {st : St} {o : Oper} {yl : Nat} {xs : List Operand} (h : isYield st o = some (yl, xs)) : ∃ c f, o.op = .call c ∧ c.callee = .value f ∧ st.ev f = .val (.func (.yield yl) #[] #[]) ∧ xs = c.args.toList := by
  unfold isYield at h
  split at h
  · rename_i c ec
    split at h
    · rename_i f ef
      split at h
      · rename_i l fst cap ev
        cases e : (fst.isEmpty && cap.isEmpty) with
        | false => rw [e] at h; cases h
        | true =>
          rw [e] at h
          obtain ⟨e1, e2⟩ := Bool.and_eq_true_iff.1 e
          have e1 : fst = #[] := by simpa using e1
          have e2 : cap = #[] := by simpa using e2
          subst e1; subst e2
          cases h
          exact ⟨c, f, ec, ef, ev, rfl⟩
      · cases h
    · cases h
  · cases h
section
variable {P : Program} {H : Hints} {w0 : World} {h0 : Hp}
theorem isYieldH_some {H : Hints} {st : St} {o : Oper} {x : Nat × List Operand} (h : isYieldH H st o = some x) : isYield st o = some x := by
  unfold isYieldH at h
  cases hc : H.clo with
  | true => rw [hc] at h; cases h
  | false => rw [hc] at h; exact h
theorem yield_left {r : Option Nat} {n : Nat} {o : Oper} {st st1 : St} {h : Hp} {K : St → Hp → Prop} {a : Act} {w : World} {next : Act → World → Prop} {Q : Exit → Act → World → Prop} {ρ : Nat → Nat} {st0 : St} {yl : Nat} {xs : List Operand}
    (hy : isYield st1 o = some (yl, xs)) (he1 : EnvR ρ st1 a.tmps) (hW : yieldW P st yl xs h fun s st' h' => K (st'.put H.N o.dst s) h') (he : EnvR ρ st a.tmps) (hN : a.tmps.size = H.N) (hh : HeapR w0 h0 ρ st h w) (hx : Ext ρ ρ st0 st)
    (hn : ∀ a' w', Left P H w0 h0 ρ st0 a (dstIs o) K a' w' → next a' w') : o.wpIn (FR r) n P a w next Q := by
  obtain ⟨c, f, ec, ef, ev, rfl⟩ := isYield_spec hy
  have hv : a.eval f = .func (.yield yl) #[] #[] := ev_val he1 ev
  have hW := evVs_spec he hW
  obtain ⟨fn, tmps, assign, body, hyr, hR⟩ := hW w hh.holds
  refine ⟨fun _ _ => trivial, ?_⟩
  have e : o.semAt (FR r).round a.eval = execOp a.eval o := by
    cases r with
    | none => rfl
    | some l => exact Oper.semAt_some l a.eval o fun c' e' => by rw [ec] at e'; cases e'
  have hrun : (execOp a.eval o).run P w = .ok (.round yl fn tmps assign body) w := by
    simp only [execOp, ec, Sem.run_bind, resolve, ef, hv, Deferred.ofValue, Sem.run_pure, Result.andThen_ok, invoke]
    have e2 : (c.args.map a.eval) = (List.map a.eval c.args.toList).toArray := by apply Array.ext'; simp
    simp only [Array.empty_append]
    rw [e2]; exact hyr
  rw [e, hrun]
  refine ⟨(fun h => by cases h), round_fr (RoundIn.mono hR ?_)⟩
  rintro e w' ⟨v, h', rfl, ⟨b, rfl, hk⟩, hh', hk'⟩
  refine hn _ _ ⟨⟨_, h', ρ, hk, he.put hN rfl, (hh.call hh' hk').put _ _ _, hx.trans (Ext.put _ _ _ _ _)⟩, put_size _ _ _, put_defers _ _ _, fun _ ht => put_other _ _ _ (dst_ne ht)⟩
theorem opGY_sound {r : Option Nat} {n : Nat} {ops : Array Oper} {o : Oper} {st : St} {h : Hp} {K : St → Hp → Prop} {a : Act} {w : World} {next : Act → World → Prop} {Q : Exit → Act → World → Prop} {ρ : Nat → Nat} {yl : Nat} {xs : List Operand} (hyl : isYield st o = some (yl, xs))
    (hW : opGY P H ops o yl xs st h K) (he : EnvR ρ st a.tmps) (hN : a.tmps.size = H.N) (hh : HeapR w0 h0 ρ st h w)
    (hn : ∀ a' w', Left P H w0 h0 ρ st a (dstIs o) K a' w' → next a' w') :
    if Region.wanted o (yielded ops a.tmps) then o.wpIn (FR r) n P a w next Q else next (a.put o.dst undef) w := by
  unfold opGY at hW
  cases hg : o.guard with
  | none =>
    rw [hg] at hW
    simp only [Region.wanted, hg, if_true]
    exact yield_left hyl he hW he hN hh (Ext.refl _ _) hn
  | some jw =>
    obtain ⟨j, want⟩ := jw
    rw [hg] at hW
    simp only [] at hW
    cases hd : (ops[j]?).bind (·.dst) with
    | none => rw [hd] at hW; exact hW.elim
    | some d =>
      rw [hd] at hW
      simp only [] at hW
      have hed := he d
      simp only [Region.wanted, hg]
      split at hW
      · rename_i b eb
        rw [eb] at hed
        have hed' : a.tmps.getD d undef = .bool b := hed
        have hy : yielded ops a.tmps j = some b := by
          unfold yielded
          simp only [hd, Option.bind_some, getD_some hed' (by intro h; cases h)]
        have he' : EnvR ρ (st.set d (.val (.bool b))) a.tmps := he.setBool hed'
        cases b <;> cases want <;> simp only [cond_true, cond_false] at hW
        · rw [hy, if_pos (by decide)]; exact yield_left hyl he hW he' hN (hh.set _ _) (Ext.set _ _ _ _) hn
        · rw [hy, if_neg (by decide)]; exact hn _ _ (skip_left hW he' hN (hh.set _ _) (Ext.set _ _ _ _))
        · rw [hy, if_neg (by decide)]; exact hn _ _ (skip_left hW he' hN (hh.set _ _) (Ext.set _ _ _ _))
        · rw [hy, if_pos (by decide)]; exact yield_left hyl he hW he' hN (hh.set _ _) (Ext.set _ _ _ _) hn
      · rename_i vs eb
        rw [eb] at hed
        have hed' : a.tmps.getD d undef = .tuple vs := hed
        have hy : yielded ops a.tmps j = none := by
          unfold yielded
          simp only [hd, Option.bind_some]
          rw [Array.getD_eq_getD_getElem?] at hed'
          cases e : a.tmps[d]? with
          | none => rfl
          | some x => rw [e] at hed'; simp at hed'; rw [hed']
        rw [hy, if_neg (by cases want <;> decide)]
        exact hn _ _ (skip_left hW he hN hh (Ext.refl _ _))
      · exact hW.elim
theorem opsW_sound {r : Option Nat} {n : Nat} {ops : Array Oper} {Q : Exit → Act → World → Prop} : ∀ (l : List Oper) {st : St} {h : Hp} {K : St → Hp → Prop} {a : Act} {w : World} {ρ : Nat → Nat},
    (r = none ∨ l.all notDefer = true) → opsW P H ops l st h K → EnvR ρ st a.tmps → a.tmps.size = H.N → HeapR w0 h0 ρ st h w → (∀ a' w', Left P H w0 h0 ρ st a (opsAsg l) K a' w' → Q .normal a' w') → wpListIn (FR r) n P ops Q l a w
  | [], st, h, K, a, w, ρ, _, hW, he, hN, hh, hn => hn _ _ ⟨⟨st, h, ρ, hW, he, hh, Ext.refl _ _⟩, rfl, rfl, fun _ _ => rfl⟩
  | o :: l, st, h, K, a, w, ρ, hd, hW, he, hN, hh, hn => by
    have hd1 : r = none ∨ ∀ c, o.op ≠ .defer c := hd.imp id fun h => notDefer_spec (Bool.and_eq_true_iff.1 (by rw [List.all_cons] at h; exact h)).1
    have hd2 : r = none ∨ l.all notDefer = true := hd.imp id fun h => (Bool.and_eq_true_iff.1 (by rw [List.all_cons] at h; exact h)).2
    have next : ∀ a1 w1, Left P H w0 h0 ρ st a (dstIs o) (fun st' h' => opsW P H ops l st' h' K) a1 w1 → wpListIn (FR r) n P ops Q l a1 w1 := by
      rintro a1 w1 ⟨⟨st1, h1, ρ1, hW1, he1, hh1, hx1⟩, hs1, hd1', hf1⟩
      refine opsW_sound l hd2 hW1 he1 (hs1.trans hN) hh1 fun a2 w2 ⟨⟨st2, h2, ρ2, hK2, he2, hh2, hx2⟩, hs2, hd2', hf2⟩ => hn _ _ ⟨⟨st2, h2, ρ2, hK2, he2, hh2, hx1.trans hx2⟩, hs2.trans hs1, hd2'.trans hd1', fun t ht => ?_⟩
      have ht' : (dstIs o t || opsAsg l t) = false := ht
      obtain ⟨t1, t2⟩ := Bool.or_eq_false_iff.1 ht'
      rw [hf2 t t2, hf1 t t1]
    unfold wpListIn
    unfold opsW at hW
    split at hW
    · have := opG_sound (Q := Q) False hW he hN hh hh.holds next
      split
      · rename_i hw
        rw [if_pos hw] at this
        exact wp_fr hd1 (this.resolve_right id)
      · rename_i hw
        rw [if_neg hw] at this
        exact ⟨fun _ _ => trivial, this⟩
    · rename_i yl xs hyl
      have := opGY_sound (r := r) (n := n) (Q := Q) (isYieldH_some hyl) hW he hN hh next
      split
      · rename_i hw
        rw [if_pos hw] at this
        exact this
      · rename_i hw
        rw [if_neg hw] at this
        exact ⟨fun _ _ => trivial, this⟩
end
theorem any_fr {r : Option Nat} {n : Nat} {P : Program} {ops : Array Oper} {Q : Exit → Act → World → Prop} {md : Region.Mode} (hq : ¬ LetsOut Q) (hd : r = none ∨ ops.toList.all notDefer = true) : ∀ (fuel : Nat) (L : Array Bool) (a : Act) (w : World), wpAny P md ops Q fuel L a w → wpAnyIn (FR r) n P md ops Q fuel L a w
  | 0, _, _, _, h => h
  | fuel + 1, L, a, w, h => ⟨h.1, fun i hi => by
    have h := h.2 i hi
    unfold wpOp at h
    unfold wpOpIn
    split
    · rename_i e
      rw [e] at h
      exact any_fr hq hd fuel _ a w h
    · rename_i o e
      rw [e] at h
      simp only [] at h
      have hd1 : r = none ∨ ∀ c, o.op ≠ .defer c := hd.imp id fun h => notDefer_spec (List.all_eq_true.1 h o (Array.mem_toList_iff.2 (Array.mem_of_getElem? e)))
      split
      · rename_i hw
        rw [if_pos hw] at h
        rcases h with h | h
        · exact wp_fr hd1 (Oper.wp_mono (fun a w => any_fr hq hd fuel _ a w) h)
        · exact absurd h.2 hq
      · rename_i hw
        rw [if_neg hw] at h
        exact ⟨fun _ _ => trivial, any_fr hq hd fuel _ _ w h⟩⟩
theorem wpIn_loop_rel {F : Fence} {n : Nat} {P : Program} {Q : Exit → Act → World → Prop} {c : Code} (I : Nat → Act → World → Prop) {a : Act} {w : World} {m : Nat} (h₀ : I m a w)
    (round : ∀ m a w, I m a w → c.wpIn F n P (Exit.then (fun a' w' => ∃ m', m' < m ∧ I m' a' w') Q) a w) : (Code.loop c).wpIn F n P Q a w := by
  intro b k cs hro hb hr
  have key : ∀ m a w, I m a w → ∃ e a' w', Q e a' w' ∧ ArrivesIn (Machine.fenced P F) P (lone (b.atR a (.code c :: .inLoop c :: k)) cs w) b k cs e a' w' := by
    intro m
    induction m using Nat.strongRecOn with
    | _ m ih =>
      intro a w hI
      obtain ⟨e, a₁, w₁, hq, harr⟩ := round m a w hI b (.inLoop c :: k) cs hro hb hr
      cases e with
      | normal =>
        obtain ⟨m', hlt, hI₁⟩ := hq
        obtain ⟨e₂, a₂, w₂, hq₂, harr₂⟩ := ih m' hlt a₁ w₁ hI₁
        exact ⟨e₂, a₂, w₂, hq₂, .of_steps (StepsIn.trans harr (.one (fenced_calm hb hr rfl) stepR_inLoop)) harr₂⟩
      | exit id => exact ⟨_, a₁, w₁, hq, .pass (x := .inLoop c) rfl (fun _ _ => .inl (by simp)) harr⟩
      | goto l => exact ⟨_, a₁, w₁, hq, .pass (x := .inLoop c) rfl (fun _ _ => .inl (by simp)) harr⟩
      | ret => exact ⟨_, a₁, w₁, hq, .pass (x := .inLoop c) rfl (fun _ _ => .inl (by simp)) harr⟩
      | panic ch => exact ⟨_, a₁, w₁, hq, .pass (x := .inLoop c) rfl (fun _ _ => .inl (by simp)) harr⟩
      | outgrown => exact ⟨_, a₁, w₁, hq, .pass (x := .inLoop c) rfl (fun _ _ => .inl (by simp)) harr⟩
  obtain ⟨e, a', w', hq, harr⟩ := key m a w h₀
  exact ⟨e, a', w', hq, .of_steps (.one (fenced_calm hb hr rfl) stepR_loop) harr⟩

def Ex.to : Ex → Exit
  | .normal => .normal
  | .exit i => .exit i
  | .ret => .ret
def markD (D : Nat) : Deferred := { target := .collected D, args := #[] }
structure ExtD (a' : Act) (ρ ρ' : Nat → Nat) (st st' : St) : Prop where
  n : st.n ≤ st'.n
  rho : ∀ l, l < st.n → ρ' l = ρ l
  ver : ∀ l, l < st.n → st.ver l ≤ st'.ver l ∧ (st'.ver l = st.ver l → st'.L l = st.L l)
  marks : ∃ l, st'.marks = l ++ st.marks
  defers : a'.defers = st'.marks.map markD
theorem Ext.toD {a' : Act} {ρ ρ' : Nat → Nat} {st st' : St} (x : Ext ρ ρ' st st') (hd : a'.defers = st.marks.map markD) : ExtD a' ρ ρ' st st' := ⟨x.n, x.rho, x.ver, ⟨[], x.marks⟩, by rw [hd, x.marks]⟩
theorem ExtD.trans {a1 a2 : Act} {ρ ρ' ρ'' : Nat → Nat} {a b c : St} (x : ExtD a1 ρ ρ' a b) (y : ExtD a2 ρ' ρ'' b c) : ExtD a2 ρ ρ'' a c := by
  refine ⟨Nat.le_trans x.n y.n, fun l hl => by rw [y.rho l (Nat.lt_of_lt_of_le hl x.n), x.rho l hl], fun l hl => ?_, ?_, y.defers⟩
  · have h1 := x.ver l hl
    have h2 := y.ver l (Nat.lt_of_lt_of_le hl x.n)
    refine ⟨Nat.le_trans h1.1 h2.1, fun e => ?_⟩
    have e1 : b.ver l = a.ver l := by omega
    have e2 : c.ver l = b.ver l := by omega
    rw [h2.2 e2, h1.2 e1]
  · obtain ⟨l, hl⟩ := x.marks
    obtain ⟨m, hm⟩ := y.marks
    exact ⟨m ++ l, by rw [hm, hl, List.append_assoc]⟩
theorem ExtD.same {a' : Act} {ρ ρ' : Nat → Nat} {st st' : St} (x : ExtD a' ρ ρ' st st') (h : st'.marks.length = st.marks.length) : a'.defers = st.marks.map markD := by
  obtain ⟨l, hl⟩ := x.marks
  have : l = [] := by rw [hl, List.length_append] at h; exact List.eq_nil_of_length_eq_zero (by omega)
  rw [x.defers, hl, this]; rfl
section
variable {P : Program} {H : Hints}

structure Post (H : Hints) (w0 : World) (h0 : Hp) (ρ : Nat → Nat) (st : St) (a : Act) (C : Nat → Bool) (K : Ex → St → Hp → Prop) (e : Exit) (a' : Act) (w' : World) : Prop where
  ex : ∃ x st' h' ρ', x.to = e ∧ K x st' h' ∧ EnvR ρ' st' a'.tmps ∧ HeapR w0 h0 ρ' st' h' w' ∧ ExtD a' ρ ρ' st st'
  size : a'.tmps.size = H.N
  frame : ∀ t, C t = false → a'.tmps[t]? = a.tmps[t]?
theorem carried_rel {w0 : World} {h0 : Hp} {ks : List Cv} {st sb st' st1 : St} {ρ ρ' : Nat → Nat} {a a' : Act} {h : Hp} {w' : World} {c : Code}
    (hc : Carried ks (st.head c) st' st1) (he : EnvR ρ st a.tmps) (he' : EnvR ρ' st' a'.tmps) (hh' : HeapR w0 h0 ρ' st' h w') (hst : ∀ l, st.n ≤ l → st.L l = none)
    (_ : st.n ≤ st'.n) (hr : ∀ l, l < st.n → ρ' l = ρ l) (hf : ∀ t, c.asg t = false → a'.tmps[t]? = a.tmps[t]?) (hl : lblOk ks st.n = true)
    (hT : ∀ l, carries ks l = true → st'.cellT l = st.cellT l) (hL : ∀ l, l < st.n → carries ks l = false → st'.L l = st.L l) (_ : sb = sb) :
    EnvR ρ' st1 a'.tmps ∧ HeapR w0 h0 ρ' st1 h w' ∧ Ext ρ ρ' st st1 ∧ st1.n = st.n ∧ (∀ l, st1.cellT l = st.cellT l) ∧ (∀ l, carries ks l = false → st1.L l = st.L l) := by
  have hn1 : st1.n = st.n := hc.n
  have key : ∀ l x, st1.L l = some x → st'.L l = some x := by
    intro l x e
    cases ec : carries ks l with
    | true =>
      obtain ⟨cs, T, h1, h2⟩ := hc.yes l ec
      rw [h2] at e
      have hT' := hT l ec
      have : st'.cellT l = T := by simp [St.cellT, h1]
      have h3 : (st.head c).cellT l = st.cellT l := rfl
      rw [h3, ← hT', this] at e
      rw [h1]; exact e
    | false =>
      have h1 := hc.no l ec
      have h2 : (st.head c).L l = st.L l := rfl
      rw [h1, h2] at e
      rcases Nat.lt_or_ge l st.n with hlt | hge
      · rw [hL l hlt ec]; exact e
      · rw [hst l hge] at e; cases e
  refine ⟨fun t => ?_, ⟨hh'.holds, hh'.kept, fun l cs T e => hh'.loc l cs T (key l _ e), fun l m x y e1 e2 e3 => hh'.inj l m x y (key l _ e1) (key m _ e2) e3, fun l hl' => ?_⟩, ⟨by omega, hr, fun l hl' => ⟨?_, fun e => ?_⟩, hc.marks⟩, hn1, fun l => ?_, fun l e => hc.no l e⟩
  · rcases hc.e t with e | ⟨v, e, ev⟩
    · rw [e]
      simp only [St.head]
      cases ea : c.asg t with
      | true => exact trivial
      | false =>
        simp only [cond_false]
        have h1 := he t
        rw [Array.getD_eq_getD_getElem?] at h1 ⊢
        rw [hf t ea]
        exact h1.mono (by omega) hr
    · rw [e]
      exact (he' t).toV ev
  · rw [hn1] at hl'
    cases e : st1.L l with
    | none => rfl
    | some x =>
      cases ec : carries ks l with
      | true => have := lblOk_spec hl ec; omega
      | false =>
        have h1 := hc.no l ec
        have h2 : (st.head c).L l = st.L l := rfl
        rw [h1, h2, hst l hl'] at e; cases e
  · exact hc.ver l
  · cases ec : carries ks l with
    | true =>
      have h1 := hc.verY l ec
      have h2 : (st.head c).ver l = st.ver l := rfl
      omega
    | false => exact hc.no l ec
  · cases ec : carries ks l with
    | true =>
      obtain ⟨cs, T, h1, h2⟩ := hc.yes l ec
      simp only [St.cellT, h2]; rfl
    | false => simp only [St.cellT, hc.no l ec]; rfl

def rangeG (h : Hp) (D l : Nat) (rec : Loop) : Hp := (h.upd D (.deferred (some []))).upd l (.loop rec)
theorem rangeG_get {h : Hp} {D l : Nat} {rec : Loop} (c : Nat) : rangeG h D l rec c = if c = l then some (.loop rec) else if c = D then some (.deferred (some [])) else h c := by
  unfold rangeG Hp.upd
  split <;> rfl
theorem params_env {N : Nat} {ρ : Nat → Nat} : ∀ {ps : List Nat} {vs : List Value} {st : St} {tmps : Array Value}, EnvR ρ st tmps → tmps.size = N → ps.length = vs.length →
    EnvR ρ (st.params N ps vs) ((ps.zip vs).foldl (fun t (x : Nat × Value) => t.setIfInBounds x.1 x.2) tmps) ∧ ((ps.zip vs).foldl (fun t (x : Nat × Value) => t.setIfInBounds x.1 x.2) tmps).size = N ∧ (st.params N ps vs).L = st.L ∧ (st.params N ps vs).n = st.n ∧ (st.params N ps vs).marks = st.marks ∧ (st.params N ps vs).ver = st.ver
  | [], vs, st, tmps, he, hN, _ => by
    have : st.params N [] vs = st := by unfold St.params; rfl
    rw [this]; exact ⟨he, hN, rfl, rfl, rfl, rfl⟩
  | p :: ps, [], st, tmps, _, _, hl => by simp at hl
  | p :: ps, v :: vs, st, tmps, he, hN, hl => by
    have h1 : EnvR ρ (st.put N (some p) (.val v)) (tmps.setIfInBounds p v) := by
      intro t
      have h0 := he t
      rw [Array.getD_eq_getD_getElem?] at h0 ⊢
      rw [Array.getElem?_setIfInBounds]
      unfold St.put
      simp only [St.set]
      by_cases e : p = t
      · subst e
        rw [nbeq_self]
        simp only [cond_true]
        cases hb : Nat.blt p N with
        | true =>
          have hb : p < tmps.size := by rw [hN]; exact Nat.le_of_ble_eq_true hb
          simp [hb, SVr]
        | false => exact trivial
      · rw [if_neg e, nbeq_ne (Ne.symm e)]; exact h0
    have := params_env (ps := ps) (vs := vs) h1 (by simpa using hN) (by simpa using hl)
    exact this
theorem exL_length : ∀ {ts : List Vt} {F : List Value → Prop}, Vt.exL ts F → ∃ vs, vs.length = ts.length ∧ F vs
  | [], F, h => ⟨[], rfl, by simpa [Vt.exL] using h⟩
  | t :: ts, F, h => by
    simp only [Vt.exL] at h
    obtain ⟨v, h⟩ := Vt.ex_spec h
    obtain ⟨vs, e, h⟩ := exL_length h
    exact ⟨v :: vs, by simp [e], h⟩
theorem Kd.univ_spec {k : Kd} {F G : Value → Prop} (h1 : k.univ F) (h2 : k.ex G) : ∃ v, F v ∧ G v := by
  cases k <;> simp only [Kd.univ, Kd.ex] at h1 h2
  case slice => obtain ⟨a, l, c, h⟩ := h2; exact ⟨_, h1 a l c, h⟩
  all_goals (obtain ⟨x, h⟩ := h2; exact ⟨_, h1 x, h⟩)
theorem kdsUniv_spec : ∀ {ks : List Kd} {F G : List Value → Prop}, kdsUniv ks F → kdsEx ks G → ∃ vs, F vs ∧ G vs
  | [], _, _, h1, h2 => ⟨[], h1, h2⟩
  | _ :: _, _, _, h1, h2 => by
    obtain ⟨v, h1, h2⟩ := Kd.univ_spec h1 h2
    obtain ⟨vs, h1, h2⟩ := kdsUniv_spec h1 h2
    exact ⟨_, h1, h2⟩
theorem Vt.univ_spec : ∀ {t : Vt} {F G : Value → Prop}, t.univ F → t.ex G → ∃ v, F v ∧ G v
  | .one k, F, G, h1, h2 => Kd.univ_spec (k := k) h1 (by simpa [Vt.ex] using h2)
  | .agg ks, F, G, h1, h2 => by
    simp only [Vt.ex] at h2
    obtain ⟨vs, h1, h2⟩ := kdsUniv_spec h1 h2
    exact ⟨_, h1, h2⟩
  | .big n k, F, G, h1, h2 => by
    simp only [Vt.ex] at h2
    obtain ⟨ns, e, h2⟩ := h2
    exact ⟨_, h1 ns e, h2⟩
  | .blob n, F, G, h1, h2 => by
    simp only [Vt.ex] at h2
    obtain ⟨ns, e, h2⟩ := h2
    exact ⟨_, h1 ns e, h2⟩
  | .tup l, F, G, h1, h2 => by
    obtain ⟨v, h2⟩ := Vt.ex_spec h2
    exact ⟨v, h1 v, h2⟩
theorem Vt.univL_spec : ∀ {ts : List Vt} {F G : List Value → Prop}, Vt.univL ts F → Vt.exL ts G → ∃ vs, F vs ∧ G vs
  | [], F, G, h1, h2 => ⟨[], h1, by simpa [Vt.exL] using h2⟩
  | t :: ts, F, G, h1, h2 => by
    simp only [Vt.exL] at h2
    obtain ⟨v, h1, h2⟩ := Vt.univ_spec h1 h2
    obtain ⟨vs, h1, h2⟩ := Vt.univL_spec h1 h2
    exact ⟨_, h1, h2⟩
theorem exW_spec : ∀ {l : List Nat} {F : Nat → Prop}, exW l F → ∀ i ∈ l, F i
  | _ :: _, F, h, i, hi => by
    rcases List.mem_cons.1 hi with rfl | hi
    · exact h.1
    · exact exW_spec h.2 i hi
def jumpOf : Nat → Code
  | 0 => .ret
  | i + 1 => .exit i
end
end Go.Gx
namespace Go.Gx
section
variable {P : Program} {H : Hints}
theorem range_sound {g : Operand} {ps : Array Tmp} {x y : Code}
    (ihx : ∀ {w0 : World} {h0 : Hp} {r : Option Nat} {n : Nat} {st : St} {h : Hp} {K : Ex → St → Hp → Prop} {a : Act} {w : World} {ρ : Nat → Nat}, (r = none ∨ x.calm = true) → W P H x st h K → EnvR ρ st a.tmps → a.tmps.size = H.N → a.defers = st.marks.map markD → HeapR w0 h0 ρ st h w → x.wpIn (FR r) n P (Post H w0 h0 ρ st a x.asg K) a w)
    (ihy : ∀ {w0 : World} {h0 : Hp} {r : Option Nat} {n : Nat} {st : St} {h : Hp} {K : Ex → St → Hp → Prop} {a : Act} {w : World} {ρ : Nat → Nat}, (r = none ∨ y.calm = true) → W P H y st h K → EnvR ρ st a.tmps → a.tmps.size = H.N → a.defers = st.marks.map markD → HeapR w0 h0 ρ st h w → y.wpIn (FR r) n P (Post H w0 h0 ρ st a y.asg K) a w) :
    ∀ {w0 : World} {h0 : Hp} {r : Option Nat} {n : Nat} {st : St} {h : Hp} {K : Ex → St → Hp → Prop} {a : Act} {w : World} {ρ : Nat → Nat},
    (r = none ∨ (Code.rangeFunc g ps x y).calm = true) → W P H (.rangeFunc g ps x y) st h K → EnvR ρ st a.tmps → a.tmps.size = H.N → a.defers = st.marks.map markD → HeapR w0 h0 ρ st h w → (Code.rangeFunc g ps x y).wpIn (FR r) n P (Post H w0 h0 ρ st a (Code.asg (.rangeFunc g ps x y)) K) a w := by
  intro w0 h0 r n st h K a w ρ hr hW he hN hd hh
  have hr : r = none := by
    rcases hr with h | h
    · exact h
    · cases h
  subst hr
  unfold W at hW
  cases e0 : (x.calm && y.calm && Nat.beq st.n 0) with
  | false => rw [e0] at hW; exact hW.elim
  | true =>
  rw [e0] at hW
  simp only [Bool.not_true, cond_false] at hW
  obtain ⟨e1, e2⟩ := Bool.and_eq_true_iff.1 e0
  obtain ⟨cx, cy⟩ := Bool.and_eq_true_iff.1 e1
  have hn0 : st.n = 0 := Nat.eq_of_beq_eq_true e2
  have hL : ∀ l, st.L l = none := fun l => hh.top l (by omega)
  have hW : ∃ gf lb, a.eval g = .func (.func gf) #[] lb ∧ rangeB P gf lb.toList ps H.N y.exits (fun st h K => W P H x st h K) (fun st h K => W P H y st h K) st h K := by
    cases ei : Nat.beq H.iter 0 with
    | true =>
      rw [ei] at hW
      simp only [cond_true] at hW
      split at hW
      · rename_i gf fst lb eg
        cases e6 : fst.isEmpty with
        | false => rw [e6] at hW; exact hW.elim
        | true =>
          rw [e6] at hW
          have hfst : fst = #[] := by simpa using e6
          subst hfst
          exact ⟨gf, lb, ev_val he eg, hW⟩
      · exact hW.elim
    | false =>
      rw [ei] at hW
      simp only [cond_false] at hW
      obtain ⟨lb, e8, hW⟩ := evV_spec he hW
      exact ⟨H.iter, lb.toArray, e8, hW⟩
  obtain ⟨gf, lb, hg, hW⟩ := hW
  · unfold rangeB at hW
    cases e3 : (funcOk P gf && Nat.beq (yieldVts P gf).length ps.size) with
    | false => rw [e3] at hW; exact hW.elim
    | true =>
    rw [e3] at hW
    simp only [Bool.not_true, cond_false] at hW
    obtain ⟨e7, e5⟩ := Bool.and_eq_true_iff.1 e3
    have hps : (yieldVts P gf).length = ps.size := Nat.eq_of_beq_eq_true e5
    obtain ⟨X, E, Pre, J, Jx, hI, hPre, hJP, hJ0, hX, hR, hE, hRet, hEx⟩ := hW
    refine wpIn_rangeFunc ?_
    intro fn hfn
    obtain ⟨D, hDe⟩ : ∃ D, D = w.heap.size := ⟨_, rfl⟩
    obtain ⟨l, hle⟩ : ∃ l, l = D + 1 := ⟨_, rfl⟩
    have hDl : D ≠ l := by omega
    obtain ⟨rec, hrec⟩ : ∃ rec : LoopState → Option Code → Loop, rec = fun st pe => { state := st, pending := pe, fn, tmps := a.tmps, params := ps, assign := x, body := y, defers := D } := ⟨_, rfl⟩
    obtain ⟨W1, hW1⟩ : ∃ W1, (w.alloc (.deferred (some []))).alloc (.loop (rec .ready none)) = W1 := ⟨_, rfl⟩
    have hL1 : W1.heap[l]? = some (.loop (rec .ready none)) := by
      rw [← hW1, hle, hDe]; have := World.alloc_heap_new (w.alloc (.deferred (some []))) (.loop (rec .ready none)); rwa [World.size_alloc] at this
    have hK1 : W1.heap[D]? = some (.deferred (some [])) := by
      rw [← hW1, hDe]; exact (Go.RowKit.Below.heap_alloc _ _ _ (by simp)).trans (World.alloc_heap_new w _)
    have hb1 : Go.RowKit.Below w.heap.size w W1 := by
      rw [← hW1]; exact ((Go.RowKit.Below.refl _ w).alloc (Nat.le_refl _) _).alloc (by simp) _
    have hhD : h D = none := hh.holds.fresh (by omega)
    have hhl : h l = none := hh.holds.fresh (by omega)
    have hvs : ∀ k vs, X k vs → vs.length = ps.size := fun k vs hx => by
      obtain ⟨us, h1, h2⟩ := exL_length (hX k vs hx)
      rw [h2, h1, hps]
    have hput : ∀ (W : World) (o : Obj) (b : Nat), b ≠ l → (W.putObj l o).heap[b]? = W.heap[b]? := fun W o b hb => World.putObj_heap_other hb
    refine ⟨l, [markD D], W1, { target := .fn (.func gf) lb, args := #[.func (.yield l) #[] #[]] }, W1, gf, #[.func (.yield l) #[] #[]] ++ lb, W1, ?_, ?_, fun _ _ => trivial, ?_, (fun h => by cases h), ?_⟩
    · rw [← hW1, hrec, hle, hDe]; exact run_enterLoop_outer _ _ _ _ _
    · simp only [resolve, hg]
      simp [go_sem]
    · have := run_callFunc e7 (#[.func (.yield l) #[] #[]] ++ lb) W1
      simp [invoke, go_sem, this]
    · have e8 : #[Value.func (.yield l) #[] #[]] ++ lb = (Value.func (.yield l) #[] #[] :: lb.toList).toArray := by
        apply Array.toList_inj.1; simp
      rw [e8]
      -- a round
      have hyield : ∀ k vs g, (∃ h1, J k h1 ∧ h1 D = none ∧ h1 l = none ∧ g = rangeG h1 D l (rec .ready none)) → X k vs → YieldH P l vs g fun v g' => (v = .bool true ∧ ∃ h1, J (k + 1) h1 ∧ h1 D = none ∧ h1 l = none ∧ g' = rangeG h1 D l (rec .ready none)) ∨
          (v = .bool false ∧ ∃ c h1, Jx c h1 ∧ (c = 0 ∨ ∃ i ∈ y.exits, c = i + 1) ∧ h1 D = none ∧ h1 l = none ∧ g' = rangeG h1 D l (rec .done (some (jumpOf c)))) := by
        rintro k vs g ⟨h1, hJ, h1D, h1l, rfl⟩ hx W hW
        have gl : ∀ c, c ≠ l → c ≠ D → rangeG h1 D l (rec .ready none) c = h1 c := fun c a b => by rw [rangeG_get, if_neg a, if_neg b]
        have hrl : W.heap[l]? = some (.loop (rec .ready none)) := hW l _ (by rw [rangeG_get, if_pos rfl])
        have hrD : W.heap[D]? = some (.deferred (some [])) := hW D _ (by rw [rangeG_get, if_neg hDl, if_pos rfl])
        have hll : l < W.heap.size := (Array.getElem?_eq_some_iff.1 hrl).1
        have hh1 : Holds h1 W := fun b o hb => hW b o (by rw [gl b (fun e => by rw [e, h1l] at hb; cases hb) (fun e => by rw [e, h1D] at hb; cases hb)]; exact hb)
        have hlen := hvs k vs hx
        obtain ⟨us, hWr, rfl⟩ := Vt.univL_spec (hR k) (hX k vs hx)
        have hWr := hWr hx h1 hJ
        obtain ⟨p1, p2, p3, p4, p5, p6⟩ := params_env (N := H.N) (ρ := ρ) (ps := ps.toList) (vs := vs) (st := { st with marks := [] }) (tmps := a.tmps) (fun t => he t) hN (by simpa using hlen.symm)
        have hfold : (ps.zip vs.toArray).foldl (fun t (x : Nat × Value) => t.setIfInBounds x.1 x.2) a.tmps = (ps.toList.zip vs).foldl (fun t (x : Nat × Value) => t.setIfInBounds x.1 x.2) a.tmps := by
          rw [← Array.foldl_toList, Array.toList_zip]
        have hy := run_yield (P := P) (args := vs.toArray) hrl (by rw [hrec]; simpa using hlen)
        rw [hrec] at hy
        refine ⟨fn, _, x, y, hy, roundIn_of_wpIn (F := Fence.wide) trivial ?_⟩
        have hHR : HeapR W h1 ρ (({ st with marks := [] } : St).params H.N ps.toList vs) h1 W := ⟨hh1, Kept.refl h1 W, (fun m cs t e => by rw [p3] at e; rw [show ({ st with marks := [] } : St).L m = none from hL m] at e; cases e), (fun m q u v e => by rw [p3] at e; rw [show ({ st with marks := [] } : St).L m = none from hL m] at e; cases e), (fun m _ => by rw [p3]; exact hL m)⟩
        refine wpIn_mono (ihx (w0 := W) (h0 := h1) (r := some l) (.inr cx) hWr (by rw [← hfold] at p1; exact p1) (by rw [← hfold] at p2; exact p2) (by rw [p5]; rfl) hHR) ?_
        rintro e a1 w1 ⟨⟨x0, st1, h2, ρ1, ee, k1, g1, g2, g3⟩, s1, s3⟩
        subst ee
        cases x0 with
        | exit i => exact k1.elim
        | ret => exact k1.elim
        | normal =>
        obtain ⟨hrl1, h2l⟩ := g2.kept.block l _ hrl h1l
        refine ⟨_, run_beginRound hrl1 (by rw [hrec]), ?_⟩
        have hll1 : l < w1.heap.size := (Array.getElem?_eq_some_iff.1 hrl1).1
        have hb1 : (W.putObj l (.loop { rec .ready none with state := .busy })).heap[l]? = some (.loop { rec .ready none with state := .busy }) := World.putObj_heap_same hll
        have hKept2 : Kept h1 (W.putObj l (.loop { rec .ready none with state := .busy })) h2 (w1.putObj l (.loop { rec .ready none with state := .busy })) := by
          refine ⟨g2.kept.os, g2.kept.tape, g2.kept.output, by simpa using g2.kept.size, fun b o hb hn => ?_⟩
          by_cases hbl : b = l
          · subst hbl
            rw [hb1] at hb
            cases hb
            exact ⟨World.putObj_heap_same hll1, h2l⟩
          · rw [hput _ _ _ hbl] at hb ⊢
            exact g2.kept.block b o hb hn
        have hHR2 : HeapR (W.putObj l (.loop { rec .ready none with state := .busy })) h1 ρ1 st1 h2 (w1.putObj l (.loop { rec .ready none with state := .busy })) := by
          refine ⟨fun b o hb => ?_, hKept2, fun m cs t e => ?_, g2.inj, g2.top⟩
          · rw [hput _ _ _ (fun e => by rw [e, h2l] at hb; cases hb)]; exact g2.holds b o hb
          · obtain ⟨q1, q2, q3⟩ := g2.loc m cs t e
            have hml : ρ1 m ≠ l := fun e' => q3 _ (by rw [e']; exact hrl) (by rw [e']; exact h1l)
            exact ⟨by rw [hput _ _ _ hml]; exact q1, q2, fun o ho => q3 o (by rw [hput _ _ _ hml] at ho; exact ho)⟩
        refine wpIn_mono (ihy (w0 := _) (h0 := h1) (r := some l) (.inr cy) k1 g1 s1 g3.defers hHR2) ?_
        rintro e a2 w3 ⟨⟨x0, st2, h3, ρ2, ee, k2, f1, f2, f3⟩, t1, t3⟩
        subst ee
        obtain ⟨hrl3, h3l⟩ := f2.kept.block l _ hb1 h1l
        obtain ⟨hrD3, h3D⟩ := f2.kept.block D _ (by rw [hput _ _ _ hDl]; exact hrD) h1D
        have hll3 : l < w3.heap.size := (Array.getElem?_eq_some_iff.1 hrl3).1
        have fin : ∀ (jump : Option Code) (rc : Loop), rc = { rec .ready none with state := if jump.isNone then .ready else .done, pending := jump } → ∀ QQ : Value → Hp → Prop, QQ (.bool jump.isNone) (rangeG h3 D l rc) →
            ∃ v w', (Instr.endRound l jump).run P w3 = .ok v w' ∧ ∃ v' h', Ending.returned v = .returned v' ∧ QQ v' h' ∧ Holds h' w' ∧ Kept (rangeG h1 D l (rec .ready none)) W h' w' := by
          intro jump rc hrc QQ hQ
          refine ⟨_, _, run_endRound jump hrl3, _, _, rfl, hQ, fun c o hc => ?_, ⟨f2.kept.os, f2.kept.tape, f2.kept.output, by have := f2.kept.size; simpa using this, fun b o hb hn => ?_⟩⟩
          · rw [rangeG_get] at hc
            by_cases hcl : c = l
            · rw [if_pos hcl] at hc
              cases hc
              rw [hcl, World.putObj_heap_same hll3, hrc]
            · rw [if_neg hcl] at hc
              rw [hput _ _ _ hcl]
              by_cases hcD : c = D
              · rw [if_pos hcD] at hc
                cases hc
                rw [hcD]; exact hrD3
              · rw [if_neg hcD] at hc
                exact f2.holds c o hc
          · rw [rangeG_get] at hn ⊢
            by_cases hbl : b = l
            · rw [if_pos hbl] at hn; cases hn
            · rw [if_neg hbl] at hn ⊢
              by_cases hbD : b = D
              · rw [if_pos hbD] at hn; cases hn
              · rw [if_neg hbD] at hn ⊢
                rw [hput _ _ _ hbl]
                exact f2.kept.block b o (by rw [hput _ _ _ hbl]; exact hb) hn
        cases x0 with
        | normal => exact fin none (rec .ready none) (by rw [hrec]; rfl) _ (.inl ⟨rfl, h3, k2, h3D, h3l, rfl⟩)
        | ret => exact fin (some .ret) (rec .done (some .ret)) (by rw [hrec]; rfl) _ (.inr ⟨rfl, 0, h3, k2, .inl rfl, h3D, h3l, rfl⟩)
        | exit i =>
          simp only [] at k2
          cases ei : y.exits.any (Nat.beq i) with
          | false => rw [ei] at k2; exact k2.elim
          | true =>
            rw [ei] at k2
            obtain ⟨i', hi', hb⟩ := List.any_eq_true.1 ei
            rw [← Nat.eq_of_beq_eq_true hb] at hi'
            exact fin (some (.exit i)) (rec .done (some (.exit i))) (by rw [hrec]; rfl) _ (.inr ⟨rfl, i + 1, h3, k2, .inr ⟨i, hi', rfl⟩, h3D, h3l, rfl⟩)
      have hstab : ∀ h1 (o1 : Obj), h1 D = none → h1 l = none → Pre h1 → ∀ rc, Pre (rangeG h1 D l rc) := fun h1 _ h1D h1l hp rc => by
        unfold rangeG
        refine hPre _ _ _ ?_ (hPre _ _ _ h1D hp)
        rw [Hp.upd_ne _ _ (Ne.symm hDl)]; exact h1l
      have hHolds1 : Holds (rangeG h D l (rec .ready none)) W1 := fun c o hc => by
        rw [rangeG_get] at hc
        by_cases hcl : c = l
        · rw [if_pos hcl] at hc; cases hc; rw [hcl]; exact hL1
        · rw [if_neg hcl] at hc
          by_cases hcD : c = D
          · rw [if_pos hcD] at hc; cases hc; rw [hcD]; exact hK1
          · rw [if_neg hcD] at hc
            have := hh.holds c o hc
            rw [hb1.block c (get_lt this)]; exact this
      refine calls_fr (Calls.mono (hI l (fun k g => ∃ h1, J k h1 ∧ h1 D = none ∧ h1 l = none ∧ g = rangeG h1 D l (rec .ready none)) (fun g => ∃ c h1, Jx c h1 ∧ (c = 0 ∨ ∃ i ∈ y.exits, c = i + 1) ∧ h1 D = none ∧ h1 l = none ∧ g = rangeG h1 D l (rec .done (some (jumpOf c))))
        (fun k g ⟨h1, hJ, h1D, h1l, eg⟩ => by rw [eg]; exact hstab h1 (.deferred none) h1D h1l (hJP k h1 hJ) _) hyield _ ⟨h, hJ0, hhD, hhl, rfl⟩ W1 hHolds1) ?_)
      rintro e W2 ⟨v, g2, rfl, hpost, hg2, hk2⟩
      -- behind it
      have hback : ∀ (h2 : Hp) (rc : Loop), h2 D = none → h2 l = none → g2 = rangeG h2 D l rc → ∀ (o : Obj) (x0 : Ex), K x0 { st with marks := D :: st.marks } (h2.upd D (.deferred (some []))) →
          Post H w0 h0 ρ st a (Code.asg (.rangeFunc g ps x y)) K x0.to { a with defers := [markD D] ++ a.defers } (W2.putObj l o) := by
        intro h2 rc h2D h2l eg2 o x0 hK
        subst eg2
        have g2D : W2.heap[D]? = some (.deferred (some [])) := hg2 D _ (by rw [rangeG_get, if_neg hDl, if_pos rfl])
        refine ⟨⟨x0, { st with marks := D :: st.marks }, _, ρ, rfl, hK, fun t => he t, ⟨fun c o' hc => ?_, hh.kept.trans ⟨?_, ?_, ?_, ?_, fun b o' hb hn => ?_⟩, fun m cs t e' => ?_, fun m q u v e' => ?_, fun m _ => hL m⟩, ⟨Nat.le_refl _, fun _ _ => rfl, fun _ _ => ⟨Nat.le_refl _, fun _ => rfl⟩, ⟨[D], rfl⟩, ?_⟩⟩, hN, fun _ _ => rfl⟩
        · by_cases hcD : c = D
          · rw [hcD, Hp.upd_same] at hc
            cases hc
            rw [hcD, hput _ _ _ hDl]; exact g2D
          · rw [Hp.upd_ne _ _ hcD] at hc
            have hcl : c ≠ l := fun e => by rw [e, h2l] at hc; cases hc
            rw [hput _ _ _ hcl]
            exact hg2 c o' (by rw [rangeG_get, if_neg hcl, if_neg hcD]; exact hc)
        · exact hk2.os.trans hb1.os
        · exact hk2.tape.trans hb1.tape
        · exact hk2.output.trans hb1.output
        · have := Nat.le_trans hb1.size hk2.size
          simpa using this
        · have hbs := get_lt hb
          have hbl : b ≠ l := by omega
          have hbD : b ≠ D := by omega
          obtain ⟨q1, q2⟩ := hk2.block b o' (by rw [hb1.block b hbs]; exact hb) (by rw [rangeG_get, if_neg hbl, if_neg hbD]; exact hn)
          rw [rangeG_get, if_neg hbl, if_neg hbD] at q2
          exact ⟨by rw [hput _ _ _ hbl]; exact q1, by rw [Hp.upd_ne _ _ hbD]; exact q2⟩
        · rw [show ({ st with marks := D :: st.marks } : St).L m = none from hL m] at e'; cases e'
        · rw [show ({ st with marks := D :: st.marks } : St).L m = none from hL m] at e'; cases e'
        · show [markD D] ++ a.defers = (D :: st.marks).map markD
          rw [hd]; rfl
      rcases hpost with ⟨k, hEk, h2, hJ2, h2D, h2l, eg2⟩ | ⟨c, h2, hJ2, hc, h2D, h2l, eg2⟩
      · have hrl2 : W2.heap[l]? = some (.loop (rec .ready none)) := hg2 l _ (by rw [eg2, rangeG_get, if_pos rfl])
        refine ⟨none, _, ?_, hback h2 _ h2D h2l eg2 (.loop { rec .ready none with state := .exhausted }) .normal (hE k h2 hJ2 hEk D h2D)⟩
        have := run_endLoop (P := P) hrl2 (by rw [hrec]; simp)
        rw [hrec] at this ⊢; exact this
      · have hrl2 : W2.heap[l]? = some (.loop (rec .done (some (jumpOf c)))) := hg2 l _ (by rw [eg2, rangeG_get, if_pos rfl])
        refine ⟨some (jumpOf c), W2.putObj l (.loop { rec .done (some (jumpOf c)) with state := .exhausted }), ?_, ?_⟩
        · have := run_endLoop (P := P) hrl2 (by rw [hrec]; simp)
          rw [hrec] at this ⊢; exact this
        · simp only []
          rcases hc with rfl | ⟨i, hi, rfl⟩
          · exact wpIn_ret (hback h2 _ h2D h2l eg2 _ .ret (hRet h2 hJ2 D h2D))
          · exact wpIn_exit (hback h2 _ h2D h2l eg2 _ (.exit i) (exW_spec hEx i hi h2 hJ2 D h2D))
end
end Go.Gx
namespace Go.Gx
section
variable {P : Program} {H : Hints}
theorem W_sound : ∀ (c : Code) {w0 : World} {h0 : Hp} {r : Option Nat} {n : Nat} {st : St} {h : Hp} {K : Ex → St → Hp → Prop} {a : Act} {w : World} {ρ : Nat → Nat},
    (r = none ∨ c.calm = true) → W P H c st h K → EnvR ρ st a.tmps → a.tmps.size = H.N → a.defers = st.marks.map markD → HeapR w0 h0 ρ st h w → c.wpIn (FR r) n P (Post H w0 h0 ρ st a c.asg K) a w := by
  intro c
  induction c with
  | skip => intro w0 h0 r n st h K a w ρ hr hW he hN hd hh; exact wpIn_skip ⟨⟨.normal, st, h, ρ, rfl, hW, he, hh, (Ext.refl _ _).toD hd⟩, hN, fun _ _ => rfl⟩
  | ret => intro w0 h0 r n st h K a w ρ hr hW he hN hd hh; exact wpIn_ret ⟨⟨.ret, st, h, ρ, rfl, hW, he, hh, (Ext.refl _ _).toD hd⟩, hN, fun _ _ => rfl⟩
  | exit id => intro w0 h0 r n st h K a w ρ hr hW he hN hd hh; exact wpIn_exit ⟨⟨.exit id, st, h, ρ, rfl, hW, he, hh, (Ext.refl _ _).toD hd⟩, hN, fun _ _ => rfl⟩
  | region id ops draw =>
    intro w0 h0 r n st h K a w ρ hr hW he hN hd hh
    cases draw with
    | true =>
      obtain ⟨hm, hany⟩ := drawW_sound (K := fun st' h' => K .normal st' h') (id := id) (w := w) (show drawW P H id ops st h _ from hW) he hN hh
      refine wpIn_mono (wpIn_region_any hm (any_fr (fun ⟨_, _, h⟩ => by cases h.1) hr _ _ _ _ hany)) fun e a' w' ⟨ee, ⟨st', h', ρ', k, e1, e2, e3⟩, s1, s2, s3⟩ => ?_
      exact ⟨⟨.normal, st', h', ρ', ee.symm, k, e1, e2, e3.toD (s2.trans hd)⟩, s1.trans hN, s3⟩
    | false =>
      exact wpIn_region_list (opsW_sound ops.toList hr (show opsW P H ops ops.toList st h _ from hW) he hN hh fun a' w' ⟨⟨st', h', ρ', k, e1, e2, e3⟩, s1, s2, s3⟩ => ⟨⟨.normal, st', h', ρ', rfl, k, e1, e2, e3.toD (s2.trans hd)⟩, s1.trans hN, s3⟩)
  | seq x y ihx ihy =>
    intro w0 h0 r n st h K a w ρ hr hW he hN hd hh
    have hrx : r = none ∨ x.calm = true := hr.imp id fun h => (Bool.and_eq_true_iff.1 (show (x.calm && y.calm) = true from h)).1
    have hry : r = none ∨ y.calm = true := hr.imp id fun h => (Bool.and_eq_true_iff.1 (show (x.calm && y.calm) = true from h)).2
    refine wpIn_seq ?_
    have fin : ∀ (e : Exit) (a1 : Act) (w1 : World) (x0 : Ex) (st1 : St) (h1 : Hp) (ρ1 : Nat → Nat), x0 ≠ .normal → x0.to = e → K x0 st1 h1 → EnvR ρ1 st1 a1.tmps → HeapR w0 h0 ρ1 st1 h1 w1 → ExtD a1 ρ ρ1 st st1 → a1.tmps.size = H.N →
        (∀ t, x.asg t = false → a1.tmps[t]? = a.tmps[t]?) → Exit.then (y.wpIn (FR r) n P (Post H w0 h0 ρ st a (Code.asg (.seq x y)) K)) (Post H w0 h0 ρ st a (Code.asg (.seq x y)) K) e a1 w1 := by
      intro e a1 w1 x0 st1 h1 ρ1 hx hxe k e1 e2 e3 s1 s3
      subst hxe
      have post : Post H w0 h0 ρ st a (Code.asg (.seq x y)) K x0.to a1 w1 := ⟨⟨x0, st1, h1, ρ1, rfl, k, e1, e2, e3⟩, s1, fun t ht => s3 t (by
        have : (x.asg t || y.asg t) = false := ht
        exact (Bool.or_eq_false_iff.1 this).1)⟩
      cases x0 with
      | normal => exact absurd rfl hx
      | exit i => exact post
      | ret => exact post
    have go : ∀ (a1 : Act) (w1 : World) (st1 : St) (h1 : Hp) (ρ1 : Nat → Nat), W P H y st1 h1 K → EnvR ρ1 st1 a1.tmps → HeapR w0 h0 ρ1 st1 h1 w1 → ExtD a1 ρ ρ1 st st1 → a1.tmps.size = H.N →
        (∀ t, x.asg t = false → a1.tmps[t]? = a.tmps[t]?) → y.wpIn (FR r) n P (Post H w0 h0 ρ st a (Code.asg (.seq x y)) K) a1 w1 := by
      intro a1 w1 st1 h1 ρ1 hy e1 e2 e3 s1 s3
      refine wpIn_mono (ihy hry hy e1 s1 e3.defers e2) fun e a2 w2 ⟨⟨x0, st2, h2, ρ2, ee, k, g1, g2, g3⟩, r1, r3⟩ => ⟨⟨x0, st2, h2, ρ2, ee, k, g1, g2, e3.trans g3⟩, r1, fun t ht => ?_⟩
      have : (x.asg t || y.asg t) = false := ht
      obtain ⟨t1, t2⟩ := Bool.or_eq_false_iff.1 this
      rw [r3 t t2, s3 t t1]
    unfold W at hW
    split at hW
    · refine wpIn_mono (ihx hrx hW he hN hd hh) fun e a1 w1 ⟨⟨x0, st1, h1, ρ1, ee, k, e1, e2, e3⟩, s1, s3⟩ => ?_
      cases x0 with
      | normal => subst ee; exact go a1 w1 st1 h1 ρ1 k e1 e2 e3 s1 s3
      | exit i => exact fin e a1 w1 (.exit i) st1 h1 ρ1 (by simp) ee k e1 e2 e3 s1 s3
      | ret => exact fin e a1 w1 .ret st1 h1 ρ1 (by simp) ee k e1 e2 e3 s1 s3
    · rename_i ks _
      obtain ⟨J, hJ, hW⟩ := hW
      refine wpIn_mono (ihx hrx hW he hN hd hh) fun e a1 w1 ⟨⟨x0, st1, h1, ρ1, ee, k, e1, e2, e3⟩, s1, s3⟩ => ?_
      cases x0 with
      | exit i => exact fin e a1 w1 (.exit i) st1 h1 ρ1 (by simp) ee k e1 e2 e3 s1 s3
      | ret => exact fin e a1 w1 .ret st1 h1 ρ1 (by simp) ee k e1 e2 e3 s1 s3
      | normal =>
        subst ee
        simp only [] at k
        cases eo : (verOk ks st st1 st.n && lblOk ks st.n) with
        | false => rw [eo] at k; exact k.elim
        | true =>
          rw [eo] at k
          obtain ⟨o1, o2⟩ := Bool.and_eq_true_iff.1 eo
          obtain ⟨st2, j, g1, g2, gc⟩ := carry ks hJ k
          have hv := verOk_spec o1
          obtain ⟨r1, r2, r3, _⟩ := carried_rel (sb := st) gc he e1 e2 hh.top e3.n e3.rho s3 o2 (fun l hl => (hv l (lblOk_spec o2 hl)).1 hl) (fun l hl hc => (e3.ver l hl).2 ((hv l hl).2 hc)) rfl
          exact go a1 w1 st2 h1 ρ1 (g1 h1 g2) r1 r2 (r3.toD (e3.same (verOk_marks o1))) s1 s3
  | cond c x y ihx ihy =>
    intro w0 h0 r n st h K a w ρ hr hW he hN hd hh
    have hrx : r = none ∨ x.calm = true := hr.imp id fun h => (Bool.and_eq_true_iff.1 (show (x.calm && y.calm) = true from h)).1
    have hry : r = none ∨ y.calm = true := hr.imp id fun h => (Bool.and_eq_true_iff.1 (show (x.calm && y.calm) = true from h)).2
    unfold W at hW
    split at hW
    · rename_i v ev
      have hv : a.eval c = .bool v := ev_val he ev
      have wid : ∀ (C : Nat → Bool), (∀ t, Code.asg (.cond c x y) t = false → C t = false) → ∀ e a1 w1, Post H w0 h0 ρ st a C K e a1 w1 → Post H w0 h0 ρ st a (Code.asg (.cond c x y)) K e a1 w1 := fun C hC e a1 w1 p => ⟨p.ex, p.size, fun t ht => p.frame t (hC t ht)⟩
      cases v with
      | true => exact wpIn_cond hv (wpIn_mono (ihx hrx hW he hN hd hh) (wid _ fun t ht => (Bool.or_eq_false_iff.1 (show (x.asg t || y.asg t) = false from ht)).1))
      | false => exact wpIn_cond hv (wpIn_mono (ihy hry hW he hN hd hh) (wid _ fun t ht => (Bool.or_eq_false_iff.1 (show (x.asg t || y.asg t) = false from ht)).2))
    · exact hW.elim
  | block id c ih =>
    intro w0 h0 r n st h K a w ρ hr hW he hN hd hh
    refine wpIn_block (wpIn_mono (ih hr (show W P H c st h _ from hW) he hN hd hh) fun e a1 w1 ⟨⟨x0, st1, h1, ρ1, ee, k, e1, e2, e3⟩, s1, s3⟩ => ?_)
    subst ee
    cases x0 with
    | normal => exact ⟨⟨.normal, st1, h1, ρ1, rfl, k, e1, e2, e3⟩, s1, s3⟩
    | ret => exact ⟨⟨.ret, st1, h1, ρ1, rfl, k, e1, e2, e3⟩, s1, s3⟩
    | exit i =>
      simp only [Ex.to, Exit.inBlock]
      simp only [] at k
      by_cases ei : i = id
      · subst ei
        rw [nbeq_self] at k
        rw [if_pos rfl]
        exact ⟨⟨.normal, st1, h1, ρ1, rfl, k, e1, e2, e3⟩, s1, s3⟩
      · rw [nbeq_ne ei] at k
        rw [if_neg ei]
        exact ⟨⟨.exit i, st1, h1, ρ1, rfl, k, e1, e2, e3⟩, s1, s3⟩
  | loop c ih =>
    intro w0 h0 r n st h K a w ρ hr hW he hN hd hh
    unfold W at hW
    split at hW
    · exact hW.elim
    · rename_i ks _
      cases eo : lblOk ks st.n with
      | false => rw [eo] at hW; exact hW.elim
      | true =>
        rw [eo] at hW
        obtain ⟨I, ⟨m0, hI⟩, hR⟩ := hW
        refine wpIn_loop_rel (fun m a1 w1 => ∃ (st1 : St) (r : Hp → Nat → Prop) (h1 : Hp) (ρ1 : Nat → Nat), (∀ h1 m, r h1 m → W P H c st1 h1 fun x st' h' => match x with
            | .normal => bif verOk ks st1 st' st.n then capC ks st' I fun j => ∃ m', m' < m ∧ j h' m' else False
            | .exit i => K (.exit i) st' h'
            | .ret => K .ret st' h') ∧ r h1 m ∧ EnvR ρ1 st1 a1.tmps ∧ HeapR w0 h0 ρ1 st1 h1 w1 ∧ ExtD a1 ρ ρ1 st st1 ∧ st1.n = st.n ∧ (∀ l, st1.cellT l = st.cellT l) ∧ (∀ l, carries ks l = false → st1.L l = st.L l) ∧
            a1.tmps.size = H.N ∧ st1.marks = st.marks ∧ ∀ t, c.asg t = false → a1.tmps[t]? = a.tmps[t]?) (m := m0) ?_ ?_
        · obtain ⟨st1, r, g1, g2, gc⟩ := carry ks hR hI
          obtain ⟨r1, r2, r3, r4, r5, r6⟩ := carried_rel (sb := st) (ρ := ρ) (a := a) gc he he hh hh.top (Nat.le_refl _) (fun _ _ => rfl) (fun _ _ => rfl) eo (fun _ _ => rfl) (fun _ _ _ => rfl) rfl
          exact ⟨st1, r, h, ρ, g1, g2, r1, r2, r3.toD hd, r4, r5, r6, hN, gc.marks, fun _ _ => rfl⟩
        · rintro m a1 w1 ⟨st1, r, h1, ρ1, g1, g2, e1, e2, e3, hn1, hT1, hL1, s1, s2, s3⟩
          refine wpIn_mono (ih hr (g1 h1 m g2) e1 s1 e3.defers e2) fun e a2 w2 ⟨⟨x0, st2, h2, ρ2, ee, k, f1, f2, f3⟩, t1, t3⟩ => ?_
          have fr : ∀ t, c.asg t = false → a2.tmps[t]? = a.tmps[t]? := fun t ht => by rw [t3 t ht, s3 t ht]
          subst ee
          cases x0 with
          | exit i => exact ⟨⟨.exit i, st2, h2, ρ2, rfl, k, f1, f2, e3.trans f3⟩, t1, fr⟩
          | ret => exact ⟨⟨.ret, st2, h2, ρ2, rfl, k, f1, f2, e3.trans f3⟩, t1, fr⟩
          | normal =>
            simp only [] at k
            cases ev : verOk ks st1 st2 st.n with
            | false => rw [ev] at k; exact k.elim
            | true =>
              rw [ev] at k
              obtain ⟨st3, r3, k1, k2, gc⟩ := carry ks hR k
              have hv := verOk_spec ev
              have hx := e3.trans f3
              obtain ⟨q1, q2, q3, q4, q5, q6⟩ := carried_rel (sb := st) gc he f1 f2 hh.top hx.n hx.rho fr eo (fun l hl => by rw [(hv l (lblOk_spec eo hl)).1 hl, hT1]) (fun l hl hc => by
                rw [(f3.ver l (by omega)).2 ((hv l hl).2 hc), hL1 l hc]) rfl
              obtain ⟨m', hm, hj⟩ := k2
              exact ⟨m', hm, st3, r3, h2, ρ2, k1, hj, q1, q2, q3.toD (hx.same (by rw [verOk_marks ev, s2])), q4, q5, q6, t1, gc.marks, fr⟩
  | rangeFunc g ps x y ihx ihy => exact range_sound ihx ihy
  | scope c _ => intro w0 h0 r n st h K a w ρ hr hW; exact (show False from hW).elim
  | label l => intro w0 h0 r n st h K a w ρ hr hW; exact (show False from hW).elim
  | goto l => intro w0 h0 r n st h K a w ρ hr hW; exact (show False from hW).elim
  | refuse s => intro w0 h0 r n st h K a w ρ hr hW; exact (show False from hW).elim
variable {w0 : World} {h0 : Hp}
theorem run_asAddr (a : Addr) (w : World) : (asAddr (.pointer (some a))).run P w = .ok a w := rfl
theorem resW_spec {st : St} {h : Hp} {ρ : Nat → Nat} {w : World} {a : Act} (he : EnvR ρ st a.tmps) (hh : HeapR w0 h0 ρ st h w) : ∀ {rs : List ResultVar} {F : List Value → Prop}, resW P st h rs F →
    ∃ vs, F vs ∧ (rs.mapM fun
      | .tmp t => pure (a.tmps.getD t undef)
      | .cell x t => do loadVar t (← asAddr (a.tmps.getD x undef)) : Sem (List Value)).run P w = .ok vs w
  | [], F, H => ⟨[], H, rfl⟩
  | .tmp t :: rs, F, H => by
    simp only [resW] at H
    cases e : (st.e t).toV with
    | none => rw [e] at H; exact H.elim
    | some v =>
      rw [e] at H
      obtain ⟨vs, h1, h2⟩ := resW_spec he hh H
      refine ⟨v :: vs, h1, ?_⟩
      have := (he t).toV e
      simp only [List.mapM_cons, Sem.run_bind, Sem.run_pure, Result.andThen_ok, this, h2]
  | .cell x t :: rs, F, H => by
    simp only [resW] at H
    rcases at_spec H (he x) with ⟨l, o, e1, e2, e3, H⟩ | ⟨b, o, e3, H⟩
    · simp only [] at H
      split at H
      · rename_i cs u e4
        obtain ⟨v, H, hr⟩ := loadL_spec (b := ρ l) (u := u) H
        have hr := hr w (hh.loc l cs u e4).1
        obtain ⟨vs, h1, h2⟩ := resW_spec he hh H
        refine ⟨v :: vs, h1, ?_⟩
        simp only [List.mapM_cons, Sem.run_bind, Sem.run_pure, Result.andThen_ok, e3, run_asAddr, hr, h2]
      · exact H.elim
    · obtain ⟨v, H, hr⟩ := loadH_spec H
      have hr := hr w hh.holds
      obtain ⟨vs, h1, h2⟩ := resW_spec he hh H
      refine ⟨v :: vs, h1, ?_⟩
      simp only [List.mapM_cons, Sem.run_bind, Sem.run_pure, Result.andThen_ok, e3, run_asAddr, hr, h2]
theorem results_spec {fn : Func} {st : St} {h : Hp} {ρ : Nat → Nat} {w : World} {a : Act} (he : EnvR ρ st a.tmps) (hh : HeapR w0 h0 ρ st h w) {F : List Value → Prop} (H : resW P st h fn.results.toList F) :
    ∃ vs, F vs ∧ (results fn a.tmps).run P w = .ok (oneOf vs) w := by
  obtain ⟨vs, h1, h2⟩ := resW_spec he hh H
  refine ⟨vs, h1, ?_⟩
  unfold results
  rw [Array.mapM_eq_mapM_toList]
  simp only [Sem.run_bind, Sem.run_map]
  refine Eq.trans (congrArg (fun r => (Result.andThen (Result.andThen r fun (a : List Value) w' => Result.ok a.toArray w') fun (a : Array Value) w' => (pure (if h : a.size = 1 then a[0] else Value.tuple a) : Sem Value).run P w')) h2) ?_
  simp only [Result.andThen_ok, Sem.run_pure]
  congr 1
  match vs with
  | [] => rfl
  | [v] => rfl
  | v :: u :: vs => simp [oneOf]
def toVs : List SV → Option (List Value)
  | [] => some []
  | s :: ss => match s.toV, toVs ss with
    | some v, some vs => some (v :: vs)
    | _, _ => none
theorem toVs_rel : ∀ {ss : List SV} {vs : List Value}, toVs ss = some vs → ∀ (t : Nat) (ρ : Nat → Nat) (n : Nat), SVr ρ n ((ss[t]?).getD (.val undef)) ((vs[t]?).getD undef)
  | [], vs, h, t, ρ, n => by simp [toVs] at h; subst h; exact rfl
  | s :: ss, vs, h, t, ρ, n => by
    unfold toVs at h
    split at h
    · rename_i v us e1 e2
      cases h
      cases t with
      | zero =>
        simp only [List.getElem?_cons_zero, Option.getD_some]
        cases s with
        | val x => simp [SV.toV] at e1; subst e1; exact rfl
        | ptr b o => simp [SV.toV] at e1; subst e1; exact rfl
        | loc l o => simp [SV.toV] at e1
        | dead => simp [SV.toV] at e1
      | succ t => simp only [List.getElem?_cons_succ]; exact toVs_rel e2 t ρ n
    · cases h
theorem marksW_spec {n : Nat} {fn : Func} {tmps : Array Value} {R : Ending → World → Prop} {st : St} {ρ : Nat → Nat} {F : Hp → Prop}
    (hR : ∀ h w, F h → HeapR w0 h0 ρ st h w → LeavesInM Fence.wide n P fn tmps R [] .returning w) : ∀ (ds : List Nat) (h : Hp) (w : World), marksW ds h F → HeapR w0 h0 ρ st h w → LeavesInM Fence.wide n P fn tmps R (ds.map markD) .returning w
  | [], h, w, hm, hh => hR h w hm hh
  | D :: ds, h, w, hm, hh => by
    obtain ⟨hD, hm⟩ := hm
    have hwD := hh.holds D _ hD
    have hsz := get_lt hwD
    refine ⟨by simp, .inl ⟨D, _, rfl, run_takeDeferred hwD, ?_⟩⟩
    refine marksW_spec hR ds (h.del D) (w.putObj D (.deferred none)) hm ?_
    refine ⟨fun c o hc => ?_, ⟨hh.kept.os, hh.kept.tape, hh.kept.output, by have := hh.kept.size; simpa using this, fun b o hb hn => ?_⟩, fun m cs t e => ?_, hh.inj, hh.top⟩
    · unfold Hp.del at hc
      by_cases hcD : c = D
      · rw [if_pos hcD] at hc; cases hc
      · rw [if_neg hcD] at hc
        rw [World.putObj_heap_other hcD]; exact hh.holds c o hc
    · obtain ⟨q1, q2⟩ := hh.kept.block b o hb hn
      have hbD : b ≠ D := fun e => by rw [e, hD] at q2; cases q2
      refine ⟨by rw [World.putObj_heap_other hbD]; exact q1, ?_⟩
      unfold Hp.del
      rw [if_neg hbD]; exact q2
    · obtain ⟨q1, q2, q3⟩ := hh.loc m cs t e
      have hmD : ρ m ≠ D := fun e => by rw [e, hD] at q2; cases q2
      refine ⟨by rw [World.putObj_heap_other hmD]; exact q1, ?_, q3⟩
      unfold Hp.del
      rw [if_neg hmD]; exact q2
theorem calls_of_body {P : Program} {H : Hints} {f : FuncId} {fn : Func} {args : List SV} {vs : List Value} {h : Hp} {Q : Value → Hp → Prop} (hf : P.funcs[f]? = some fn) (hN : fn.ntmps = H.N) (hv : toVs args = some vs) (hlen : Nat.ble vs.length fn.ntmps = true)
    (hW : bodyW P H fn args h Q) : CallsH P f vs.toArray h Q := by
  intro w hw
  unfold bodyW at hW
  cases hb : fn.body with
  | none => rw [hb] at hW; exact hW.elim
  | some c =>
    rw [hb] at hW
    refine callsIn_wide.1 (callsIn_of_wp_marks (F := Fence.wide) (n := 0) hf hb trivial (wpIn_mono (W_sound (w0 := w) (h0 := h) (r := none) (n := 0) (ρ := fun _ => 0) c (.inl rfl) hW (a := { tmps := vs.toArray ++ Array.replicate (fn.ntmps - vs.toArray.size) undef, defers := [] }) ?_ ?_ rfl ?_) ?_))
    · intro t
      have h1 := toVs_rel hv t (fun _ => 0) 0
      simp only [st0]
      rw [Array.getD_eq_getD_getElem?]
      rcases Nat.lt_or_ge t vs.length with hlt | hge
      · rw [Array.getElem?_append_left (by simpa using hlt)]
        simpa using h1
      · have e1 : vs[t]? = none := List.getElem?_eq_none hge
        rw [e1] at h1
        rw [Array.getElem?_append_right (by simpa using hge)]
        have e2 : ((Array.replicate (fn.ntmps - vs.toArray.size) undef)[t - vs.toArray.size]?).getD undef = undef := by
          rw [Array.getElem?_replicate]; split <;> rfl
        rw [e2]; exact h1
    · have := Nat.le_of_ble_eq_true hlen
      simp; omega
    · exact ⟨hw, Kept.refl h w, (fun l cs t e => by cases e), (fun l m x y e => by cases e), fun _ _ => rfl⟩
    · intro e a' w' ⟨⟨x, st', h', ρ', ee, k, e1, e2, e3⟩, s1, s3⟩
      subst ee
      have fin : (marksW st'.marks h' fun h'' => resW P st' h'' fn.results.toList fun vs => Q (oneOf vs) h'') → LeavesInM Fence.wide 0 P fn a'.tmps (fun e w' => ∃ v h'_1, e = .returned v ∧ Q v h'_1 ∧ Holds h'_1 w' ∧ Kept h w h'_1 w') a'.defers .returning w' := by
        intro hm
        rw [e3.defers]
        refine marksW_spec (w0 := w) (h0 := h) (st := st') (ρ := ρ') (fun h2 w2 hF hh2 => ?_) _ h' w' hm e2
        obtain ⟨us, hq, hr⟩ := results_spec e1 hh2 hF
        exact ⟨_, hr, _, h2, rfl, hq, hh2.holds, hh2.kept⟩
      cases x with
      | exit i => exact k.elim
      | normal => exact fin k
      | ret => exact fin k
theorem CallsH.mono {P : Program} {f : FuncId} {args : Array Value} {h : Hp} {Q Q' : Value → Hp → Prop} (H : CallsH P f args h Q) (hq : ∀ v h', Q v h' → Q' v h') : CallsH P f args h Q' :=
  fun w hw => Calls.mono (H w hw) fun _ _ ⟨v, h', e, q, a, b⟩ => ⟨v, h', e, hq _ _ q, a, b⟩
end
end Go.Gx
namespace Go.Gx
open Go.RowKit

def heapOf (W : World) : Hp := fun b => W.heap[b]?
theorem heapOf_holds (W : World) : Holds (heapOf W) W := fun _ _ h => h
theorem heapOf_cell {W : World} {b o : Nat} {v : Value} (h : W.cell? ⟨b, o, none⟩ = some v) : (heapOf W).cell b o = some v := by
  unfold World.cell? at h
  unfold Hp.cell heapOf
  split at h
  · rename_i c t f hb
    simp only [Option.isSome_none, Bool.false_eq_true, if_false] at h
    rw [hb]; exact h
  · cases h
theorem calls_below {P : Program} {f : FuncId} {args : Array Value} {W : World} (H : CallsH P f args (heapOf W) fun v h' => v = .bool true ∧ Sub (heapOf W) h') :
    Calls P f args W fun e W' => e = .returned (.bool true) ∧ Below W.heap.size W W' := by
  refine Calls.mono (H W (heapOf_holds W)) fun e W' ⟨v, h', he, ⟨hv, hs⟩, hh, hk⟩ => ⟨by rw [he, hv], ⟨hk.os, hk.tape, hk.output, hk.size, fun k hlt => ?_⟩⟩
  have h1 : W.heap[k]? = some W.heap[k] := Array.getElem?_eq_getElem hlt
  rw [h1]
  exact hh k _ (hs k _ h1)

def KdOk : Kd → Value → Prop
  | .int k, v => ∃ n, v = .int k n ∧ (Lit.int k n).wf = true
  | .bool, v => ∃ b, v = .bool b
  | .str, v => ∃ s, v = .string s ∧ s.size ≤ maxLen
  | .slice, v => ∃ a l c, v = .slice a l c ∧ l ≤ c
  | .ptr, v => ∃ a, v = .pointer a
  | .map, v => ∃ r, v = .map r
  | .any, _ => True
def KdsOk : List Kd → List Value → Prop
  | [], [] => True
  | k :: ks, v :: vs => KdOk k v ∧ KdsOk ks vs
  | _, _ => False
theorem KdsOk.append : ∀ {ks ks' : List Kd} {vs vs' : List Value}, KdsOk ks vs → KdsOk ks' vs' → KdsOk (ks ++ ks') (vs ++ vs')
  | [], _, [], _, _, h' => h'
  | [], _, _ :: _, _, h, _ => h.elim
  | _ :: _, _, [], _, h, _ => h.elim
  | _ :: _, _, _ :: _, _, h, h' => ⟨h.1, KdsOk.append h.2 h'⟩
def laySegs (P : Program) (d : Nat) (lay : TypeId → Bool) : List (Nat × TypeId) → Nat → Bool
  | [], _ => true
  | (o, t) :: l, n => Nat.beq o n && Nat.beq (kdsIn P d t).length (P.cellsOf t) && lay t && laySegs P d lay l (n + P.cellsOf t)
def segsOf (P : Program) : TypeDesc → List (Nat × TypeId)
  | .struct fs => fs.toList.map fun f => (f.offset, f.type)
  | .array n e => (List.range n).map fun i => (i * P.cellsOf e, e)
  | _ => []
def layOk (P : Program) : Nat → TypeId → Bool
  | 0, _ => false
  | d + 1, t => laySegs P d (layOk P d) (segsOf P (tdesc P t)) 0 && Nat.beq (P.cellsOf t) (kdsIn P (d + 1) t).length
theorem kdsIn_succ (P : Program) (d : Nat) (t : TypeId) : kdsIn P (d + 1) t = match tdesc P t with
    | .struct fs => fs.toList.flatMap fun f => kdsIn P d f.type
    | .array n e => (List.replicate n (kdsIn P d e)).flatten
    | u => [kd1 u] := rfl
theorem kdsIn_segs {P : Program} {d : Nat} {t : TypeId} (h : aggT P t = true) : kdsIn P (d + 1) t = (segsOf P (tdesc P t)).flatMap fun x => kdsIn P d x.2 := by
  rw [kdsIn_succ]
  unfold aggT at h
  split at h
  · rename_i fs e
    rw [e]
    simp only [segsOf]
    rw [List.flatMap_map]
  · rename_i n e' e
    rw [e]
    simp only [segsOf]
    rw [List.flatMap_map]
    clear e h
    change (List.replicate n (kdsIn P d e')).flatten = (List.range n).flatMap fun _ => kdsIn P d e'
    generalize kdsIn P d e' = ks
    induction n with
    | zero => rfl
    | succ n ih => rw [List.replicate_succ', List.flatten_append, List.range_succ, List.flatMap_append, ih]; simp
  · cases h
section
variable {H : Type} {enc : TypeId × Value → H} {P : Program} {w : World} {sp : Nat → Bool}
theorem segs_ok {d fuel : Nat} (ih : ∀ t cs x, DataW.trod enc P w 0 sp true fuel t cs = some x → layOk P d t = true → KdsOk (kdsIn P d t) cs) (cs : List Value) :
    ∀ (l : List (Nat × TypeId)) (n : Nat) (xs), laySegs P d (layOk P d) l n = true → l.mapM (fun x => DataW.trod enc P w 0 sp true fuel x.2 ((cs.drop x.1).take (P.cellsOf x.2))) = some xs →
      cs.length = n + (l.flatMap fun x => kdsIn P d x.2).length → KdsOk (l.flatMap fun x => kdsIn P d x.2) (cs.drop n)
  | [], n, xs, _, _, hl => by
    have : cs.drop n = [] := List.drop_eq_nil_of_le (by simp at hl; omega)
    rw [this]; exact trivial
  | (o, t) :: l, n, xs, hlay, hm, hl => by
    unfold laySegs at hlay
    obtain ⟨h1, h2⟩ := Bool.and_eq_true_iff.1 hlay
    obtain ⟨h3, h4⟩ := Bool.and_eq_true_iff.1 h1
    obtain ⟨h5, h6⟩ := Bool.and_eq_true_iff.1 h3
    have h5 := Nat.eq_of_beq_eq_true h5
    have h6 := Nat.eq_of_beq_eq_true h6
    subst h5
    rw [List.mapM_cons] at hm
    cases hx : DataW.trod enc P w 0 sp true fuel t ((cs.drop o).take (P.cellsOf t)) with
    | none => simp [hx] at hm
    | some x =>
      simp only [hx] at hm
      cases hr : l.mapM (fun x => DataW.trod enc P w 0 sp true fuel x.2 ((cs.drop x.1).take (P.cellsOf x.2))) with
      | none => simp [hr] at hm
      | some ys =>
        rw [List.flatMap_cons, List.length_append] at hl
        have hl : cs.length = o + ((kdsIn P d t).length + (l.flatMap fun x => kdsIn P d x.2).length) := hl
        have g := segs_ok ih cs l (o + P.cellsOf t) ys h2 hr (by omega)
        have e : cs.drop o = (cs.drop o).take (P.cellsOf t) ++ cs.drop (o + P.cellsOf t) := by
          rw [← List.drop_drop]; exact (List.take_append_drop _ _).symm
        rw [List.flatMap_cons, e]
        exact (ih t _ x hx h4).append g
theorem trod_kds : ∀ (d fuel : Nat) (t : TypeId) (cs : List Value) (x : DataW H × List MemPlace), DataW.trod enc P w 0 sp true fuel t cs = some x → layOk P d t = true → KdsOk (kdsIn P d t) cs
  | 0, _, _, _, _, _, h => by cases h
  | d + 1, 0, _, _, _, h, _ => by cases h
  | d + 1, fuel + 1, t, cs, x, h, hlay => by
    unfold layOk at hlay
    obtain ⟨h1, h2⟩ := Bool.and_eq_true_iff.1 hlay
    have h2 := Nat.eq_of_beq_eq_true h2
    have ih := trod_kds d fuel
    cases ha : aggT P t with
    | true =>
      have ek := kdsIn_segs (P := P) (d := d) ha
      rw [ek] at h2 ⊢
      unfold aggT at ha
      unfold DataW.trod at h
      split at ha
      · rename_i fs e
        rw [tdesc_some e (by simp)] at h
        simp only [] at h
        split at h
        · rename_i hlen
          obtain ⟨ys, hm, _⟩ := Option.map_eq_some_iff.1 h
          have hm' : (segsOf P (tdesc P t)).mapM (fun x => DataW.trod enc P w 0 sp true fuel x.2 ((cs.drop x.1).take (P.cellsOf x.2))) = some ys := by
            rw [e]; simp only [segsOf]; rw [List.mapM_map]; exact hm
          have := segs_ok ih cs _ 0 ys h1 hm' (by omega)
          simpa using this
        · cases h
      · rename_i n e' e
        rw [tdesc_some e (by simp)] at h
        simp only [] at h
        split at h
        · rename_i hlen
          obtain ⟨ys, hm, _⟩ := Option.map_eq_some_iff.1 h
          have hm' : (segsOf P (tdesc P t)).mapM (fun x => DataW.trod enc P w 0 sp true fuel x.2 ((cs.drop x.1).take (P.cellsOf x.2))) = some ys := by
            rw [e]; simp only [segsOf]; rw [List.mapM_map]; exact hm
          have := segs_ok ih cs _ 0 ys h1 hm' (by omega)
          simpa using this
        · cases h
      · cases ha
    | false =>
      have ek : kdsIn P (d + 1) t = [kd1 (tdesc P t)] := by
        rw [kdsIn_succ]
        unfold aggT at ha
        split <;> first | rfl | (rename_i e; rw [e] at ha; cases ha)
      rw [ek]
      unfold aggT at ha
      simp only [DataW.trod] at h
      cases hu : P.underlying t with
      | none => rw [hu] at h; cases h
      | some u =>
        have et : tdesc P t = u := by unfold tdesc; rw [hu]; rfl
        rw [hu] at h
        rw [et] at ha ⊢
        match cs, h with
        | [], h => cases u <;> first | (cases ha; done) | (simp at h)
        | c :: c' :: cs, h => cases u <;> first | (cases ha; done) | (simp at h)
        | [c], h =>
          refine ⟨?_, trivial⟩
          cases u <;> first
            | (cases ha; done)
            | exact trivial
            | skip
          all_goals (cases c <;> first | (simp at h; done) | skip)
          · exact ⟨_, rfl⟩
          · rename_i k k' n
            simp only [] at h
            split at h
            · rename_i hk; obtain ⟨rfl, hw⟩ := hk; exact ⟨_, rfl, hw⟩
            · cases h
          · rename_i s
            simp only [] at h
            split at h
            · rename_i hk; exact ⟨_, rfl, hk⟩
            · cases h
          · exact ⟨_, rfl⟩
          · rename_i a l c
            cases a with
            | none =>
              match l, c, h with
              | 0, 0, _ => exact ⟨_, _, _, rfl, Nat.le_refl _⟩
              | 0, c + 1, h => simp at h
              | l + 1, c, h => simp at h
            | some ad =>
              simp only [] at h
              split at h
              · rename_i hk; exact ⟨_, _, _, rfl, hk.2.1⟩
              · cases h
          · exact ⟨_, rfl⟩
theorem cells?_get {base : Nat} {a : Addr} {n : Nat} {cs : List Value} (h : w.cells? base a n = some cs) : cs.length = n ∧ ∀ j (hj : j < cs.length), w.cell? (a.add j) = some cs[j] := by
  unfold World.cells? at h
  split at h
  · have key : ∀ (l : List Nat) (cs : List Value), l.mapM (fun i => w.cell? (a.add i)) = some cs → cs.length = l.length ∧ ∀ j (hj : j < cs.length) (hl : j < l.length), w.cell? (a.add l[j]) = some cs[j] := by
      intro l
      induction l with
      | nil => intro cs h; simp at h; subst h; exact ⟨rfl, fun j hj => by simp at hj⟩
      | cons i l ih =>
        intro cs h
        rw [List.mapM_cons] at h
        cases h1 : w.cell? (a.add i) with
        | none => simp [h1] at h
        | some v =>
          cases h2 : l.mapM (fun i => w.cell? (a.add i)) with
          | none => simp [h1, h2] at h
          | some vs =>
            simp [h1, h2] at h
            subst h
            obtain ⟨g1, g2⟩ := ih vs h2
            refine ⟨by simp [g1], fun j hj hl => ?_⟩
            cases j with
            | zero => exact h1
            | succ j => exact g2 j (by simpa using hj) (by simpa using hl)
    obtain ⟨g1, g2⟩ := key _ _ h
    rw [List.length_range] at g1
    refine ⟨g1, fun j hj => ?_⟩
    have := g2 j hj (by rw [List.length_range]; omega)
    rw [List.getElem_range] at this; exact this
  · cases h
theorem spot_none {a : Addr} {j : Nat} {v : Value} (h : w.cell? (a.add j) = some v) : (a.add j).spot = none := by
  unfold World.cell? at h
  split at h
  · cases e : (a.add j).spot with
    | none => rfl
    | some s => rw [e] at h; simp at h
  · cases h
def RowOk (P : Program) (w : World) (e : TypeId) (a : Option Addr) (l : Nat) : Prop :=
  ∀ i, i < l → ∃ b o, a = some ⟨b, o, none⟩ ∧ ∃ cs, KdsOk (kds P e) cs ∧ ∀ j (hj : j < cs.length), (heapOf w).cell b (o + i * P.cellsOf e + j) = some cs[j]
theorem row_ok {t e : TypeId} {v : Value} {d : DataW H} {ps : List MemPlace} {a : Option Addr} {l c : Nat} (ht : P.underlying t = some (.slice e)) (hlay : layOk P 8 e = true) (hpos : Nat.blt 0 (P.cellsOf e) = true) (hv : v = .slice a l c)
    (h : DataW.Trod enc P w 0 sp true t v d ps) : RowOk P w e a l ∧ l ≤ c ∧ c ≤ maxLen ∧ (a = none → l = 0 ∧ c = 0) := by
  subst hv
  obtain ⟨fuel, hf⟩ := h
  rcases Deep.open_slice ht hf with ⟨hcs, _⟩ | ⟨ad, len, cap, m, n, D, Pl, hcs, _, hl, hm, hmm, _, hel⟩
  · simp [Value.cells] at hcs
    obtain ⟨rfl, rfl, rfl⟩ := hcs
    exact ⟨fun i hi => by omega, Nat.le_refl _, Nat.zero_le _, fun _ => ⟨rfl, rfl⟩⟩
  · simp [Value.cells] at hcs
    obtain ⟨rfl, rfl, rfl⟩ := hcs
    refine ⟨fun i hi => ?_, hl, hm, fun h => by cases h⟩
    have him : i < m := by
      have : l ≤ m := by rw [hmm]; split <;> omega
      omega
    obtain ⟨cs, h1, h2⟩ := hel i him
    obtain ⟨g1, g2⟩ := cells?_get h1
    have hk := trod_kds 8 n e cs _ h2 hlay
    have hp : 0 < P.cellsOf e := Nat.le_of_ble_eq_true hpos
    have h0 := g2 0 (by omega)
    have hs : ad.spot = none := by
      obtain ⟨cs0, k1, k2⟩ := hel 0 (by omega)
      have := (cells?_get k1)
      have g3 := this.2 0 (by omega)
      have := spot_none g3
      simpa [Addr.add] using this
    obtain ⟨b, o, s⟩ := ad
    simp only at hs
    subst hs
    refine ⟨b, o, rfl, cs, hk, fun j hj => ?_⟩
    have := g2 j hj
    rw [add_mk, add_mk] at this
    exact heapOf_cell this
theorem KdsOk.nil_eq {vs : List Value} (h : KdsOk [] vs) : vs = [] := by cases vs with | nil => rfl | cons _ _ => exact h.elim
theorem KdsOk.cons_eq {k : Kd} {ks : List Kd} {vs : List Value} (h : KdsOk (k :: ks) vs) : ∃ v us, vs = v :: us ∧ KdOk k v ∧ KdsOk ks us := by
  cases vs with
  | nil => exact h.elim
  | cons v us => exact ⟨v, us, rfl, h.1, h.2⟩
end
end Go.Gx
namespace Go.Gx

theorem split_cond {b : Bool} {A B : Prop} (h1 : b = true → A) (h2 : b = false → B) : cond b A B := by
  cases b
  · exact h2 rfl
  · exact h1 rfl
theorem split_hb {b : Bool} {A B : Prop} (h1 : b = true → A) (h2 : b = false → B) : cond (hb b) A B := by
  rw [hb_eq]; exact split_cond h1 h2
theorem split_dec {p : Prop} [Decidable p] {A B : Prop} (h1 : p → A) (h2 : ¬ p → B) : cond (hb (decide p)) A B :=
  split_hb (fun h => h1 (of_decide_eq_true h)) (fun h => h2 (of_decide_eq_false h))
theorem split_eq {a b : Int} {A B : Prop} (h1 : a = b → A) (h2 : a ≠ b → B) : cond (hb (a == b)) A B :=
  split_hb (fun h => h1 (by simpa using h)) (fun h => h2 (by simpa using h))
theorem split_ne {a b : Int} {A B : Prop} (h1 : a ≠ b → A) (h2 : a = b → B) : cond (hb (a != b)) A B :=
  split_hb (fun h => h1 (by simpa using h)) (fun h => h2 (by simpa using h))
theorem bytes_ext {s t : ByteArray} (h : s.data.toList = t.data.toList) : s = t := by
  cases s; cases t; congr 1; exact Array.ext' h
theorem toList_eq_data (s : ByteArray) : s.toList = s.data.toList := by
  have key : ∀ (n i : Nat) (r : List UInt8), s.size - i = n → ByteArray.toList.loop s i r = r.reverse ++ s.data.toList.drop i := by
    intro n
    induction n with
    | zero =>
      intro i r h
      rw [ByteArray.toList.loop.eq_def, if_neg (by omega)]
      have : s.data.toList.drop i = [] := List.drop_eq_nil_of_le (by show s.data.toList.length ≤ i; rw [Array.length_toList]; show s.size ≤ i; omega)
      rw [this, List.append_nil]
    | succ n ih =>
      intro i r h
      rw [ByteArray.toList.loop.eq_def, if_pos (by omega)]
      have hi : i < s.data.toList.length := by rw [Array.length_toList]; show i < s.size; omega
      rw [ih (i + 1) (s.get! i :: r) (by omega), List.drop_eq_getElem_cons hi]
      have e : s.get! i = s.data.toList[i] := by
        unfold ByteArray.get!
        have : i < s.data.size := by simpa using hi
        rw [Array.getElem_toList]
        exact getElem!_pos s.data i this
      rw [e]; simp
  unfold ByteArray.toList
  rw [key _ 0 [] rfl]; simp
theorem beqS_iff {s t : ByteArray} : (s.toList == t.toList) = true ↔ s = t := by
  rw [toList_eq_data, toList_eq_data, beq_iff_eq]
  exact ⟨bytes_ext, fun h => by rw [h]⟩
theorem split_beqS {s t : ByteArray} {A B : Prop} (h1 : s = t → A) (h2 : s ≠ t → B) : cond (beqS s t) A B :=
  split_hb (fun h => h1 (beqS_iff.1 h)) (fun h => h2 fun e => by rw [beqS_iff.2 e] at h; cases h)
theorem split_not {b : Bool} {A B : Prop} (h1 : b = false → A) (h2 : b = true → B) : cond (!b) A B := by
  cases b
  · exact h1 rfl
  · exact h2 rfl
theorem beqS_val (s t : ByteArray) : beqS s t = decide (s = t) := by
  unfold beqS
  rw [hb_eq]
  by_cases h : s = t
  · rw [beqS_iff.2 h, decide_eq_true h]
  · rw [decide_eq_false h]
    cases e : (s.toList == t.toList) with
    | false => rfl
    | true => exact absurd (beqS_iff.1 e) h

theorem wid {x : Int} (h1 : -9223372036854775808 ≤ x) (h2 : x ≤ 9223372036854775807) : IntKind.i64.wrap x = x := by
  unfold IntKind.wrap IntKind.signed IntKind.bits
  simp only [Bool.true_and]
  by_cases h : 0 ≤ x
  · have e : x % 2 ^ 64 = x := Int.emod_eq_of_lt h (by omega)
    rw [e, if_neg (by simp; omega)]
  · have e : x % 2 ^ 64 = x + 2 ^ 64 := by omega
    rw [e, if_pos (by simp; omega)]; omega
theorem wrap8 (x : Int) : IntKind.u8.wrap x = x % 256 := by unfold IntKind.wrap; simp [IntKind.signed, IntKind.bits]
theorem wrap64 (x : Int) : IntKind.u64.wrap x = x % 18446744073709551616 := by unfold IntKind.wrap; simp [IntKind.signed, IntKind.bits]

def Blk (h : Hp) (b : Nat) (t : TypeId) (vs : List Value) : Prop := h b = some (.cells vs.toArray t (0, 0))
def Keep (S : Nat → Prop) (h h' : Hp) : Prop := ∀ c o, h c = some o → ¬ S c → h' c = some o
theorem Sub.refl (h : Hp) : Sub h h := fun _ _ e => e
theorem Sub.trans {a b c : Hp} (x : Sub a b) (y : Sub b c) : Sub a c := fun _ _ e => y _ _ (x _ _ e)
theorem Keep.refl (S : Nat → Prop) (h : Hp) : Keep S h h := fun _ _ e _ => e
theorem Keep.trans {S : Nat → Prop} {a b c : Hp} (x : Keep S a b) (y : Keep S b c) : Keep S a c := fun _ _ e n => y _ _ (x _ _ e n) n
theorem Keep.mono {S T : Nat → Prop} {a b : Hp} (x : Keep S a b) (st : ∀ c, S c → T c) : Keep T a b := fun c o e n => x c o e fun s => n (st c s)
theorem Keep.sub {S : Nat → Prop} {h0 a b : Hp} (x : Keep S a b) (s : Sub h0 a) (hS : ∀ c, S c → h0 c = none) : Sub h0 b :=
  fun c o e => x c o (s c o e) fun sc => by rw [hS c sc] at e; cases e
theorem Sub.keep {a b : Hp} (x : Sub a b) (S : Nat → Prop) : Keep S a b := fun _ _ e _ => x _ _ e
theorem Sub.upd {h : Hp} {k : Nat} (hk : h k = none) (o : Obj) : Sub h (h.upd k o) := fun c x e => by
  rw [Hp.upd_ne _ _ (fun e' => by rw [e', hk] at e; cases e)]; exact e
theorem Sub.none {h h' : Hp} (s : Sub h h') {k : Nat} (hk : h' k = none) : h k = none := by
  cases e : h k with
  | none => rfl
  | some o => rw [s _ _ e] at hk; cases hk
theorem Keep.upd {S : Nat → Prop} {h : Hp} {k : Nat} (o : Obj) (hk : S k ∨ h k = none) : Keep S h (h.upd k o) := fun c x e n => by
  rw [Hp.upd_ne _ _ (fun e' => by
    subst e'
    rcases hk with hk | hk
    · exact n hk
    · rw [hk] at e; cases e)]
  exact e
theorem Blk.get {h : Hp} {b : Nat} {t : TypeId} {vs : List Value} (H : Blk h b t vs) : h b = some (.cells vs.toArray t (0, 0)) := H
theorem Blk.sub {h h' : Hp} {b : Nat} {t : TypeId} {vs : List Value} (H : Blk h b t vs) (s : Sub h h') : Blk h' b t vs := s _ _ H
theorem Blk.keep {S : Nat → Prop} {h h' : Hp} {b : Nat} {t : TypeId} {vs : List Value} (H : Blk h b t vs) (s : Keep S h h') (n : ¬ S b) : Blk h' b t vs := s _ _ H n
theorem Blk.cell {h : Hp} {b : Nat} {t : TypeId} {vs : List Value} (H : Blk h b t vs) (i : Nat) : h.cell b i = vs[i]? := by
  unfold Hp.cell
  rw [H.get]; simp
theorem Blk.cell' {h : Hp} {b : Nat} {t : TypeId} {vs : List Value} (H : Blk h b t vs) (i : Nat) {v : Value} (e : vs[i]? = some v) : h.cell b i = some v := (H.cell i).trans e
theorem Blk.ne {h : Hp} {b k : Nat} {t : TypeId} {vs : List Value} (H : Blk h b t vs) (hk : h k = none) : b ≠ k := fun e => by
  have := H.get
  rw [e, hk] at this; cases this
theorem Blk.new (h : Hp) (b : Nat) (t : TypeId) (vs : List Value) : Blk (h.upd b (.cells vs.toArray t (0, 0))) b t vs := Hp.upd_same _ _ _
theorem Blk.upd {h : Hp} {b k : Nat} {t : TypeId} {vs : List Value} (H : Blk h b t vs) (hk : h k = none) (o : Obj) : Blk (h.upd k o) b t vs := H.sub (Sub.upd hk o)
theorem Blk.store {h : Hp} {b o n : Nat} {t : TypeId} {vs : List Value} (H : Blk h b t vs) (hn : o + n ≤ vs.length) : StoreOk h b o n :=
  ⟨_, _, _, _, H.get, by simpa using hn, .inl (Nat.zero_le _)⟩
theorem put_get {h : Hp} {b o : Nat} {t : TypeId} {vs us : List Value} (H : Blk h b t vs) : h.put b o us = h.upd b (.cells (setL vs o us).toArray t (0, 0)) := by
  unfold Hp.put
  rw [H.get]
  simp only []
  rw [setL_eq]
theorem Blk.put {h : Hp} {b : Nat} {t : TypeId} {vs : List Value} (H : Blk h b t vs) (o : Nat) (us : List Value) : Blk (h.put b o us) b t (setL vs o us) := by
  rw [put_get H]; exact Blk.new _ _ _ _
theorem put_ne (h : Hp) {b c : Nat} (o : Nat) (us : List Value) (e : c ≠ b) : h.put b o us c = h c := by
  unfold Hp.put
  cases h b with
  | none => rfl
  | some x => cases x <;> first | rfl | exact Hp.upd_ne _ _ e
theorem Keep.put (S : Nat → Prop) (h : Hp) {b : Nat} (o : Nat) (us : List Value) (hb : S b) : Keep S h (h.put b o us) := fun c x e n => by
  rw [put_ne _ _ _ fun e' => n (by rw [e']; exact hb)]; exact e
theorem Blk.put_ne {h : Hp} {b c : Nat} {t : TypeId} {vs : List Value} (H : Blk h b t vs) (o : Nat) (us : List Value) (e : b ≠ c) : Blk (h.put c o us) b t vs :=
  (Go.Gx.put_ne h o us e).trans H
theorem Blk.inj {h : Hp} {b : Nat} {t t' : TypeId} {vs vs' : List Value} (H : Blk h b t vs) (H' : Blk h b t' vs') : t = t' ∧ vs = vs' := by
  have := H.get.symm.trans H'.get
  simpa [and_comm] using this
theorem setL_get {vs : List Value} {o : Nat} {v : Value} (i : Nat) : (setL vs o [v])[i]? = if i = o ∧ o < vs.length then some v else vs[i]? := by
  simp only [setL, List.getElem?_set]
  by_cases e : o = i
  · subst e
    by_cases hl : o < vs.length
    · simp [hl]
    · simp [hl]
  · rw [if_neg e, if_neg (fun h => e h.1.symm)]
theorem setL_append {al bs us : List Value} {n : Nat} (hn : al.length = n) (hl : us.length ≤ bs.length) : setL (al ++ bs) n us = al ++ us ++ bs.drop us.length := by
  induction us generalizing al bs n with
  | nil => simp [setL]
  | cons u us ih =>
    cases bs with
    | nil => simp at hl
    | cons b bs =>
      simp only [setL]
      have : (al ++ b :: bs).set n u = (al ++ [u]) ++ bs := by
        subst hn
        rw [List.set_append_right _ _ (Nat.le_refl _)]; simp
      rw [this, ih (by simp [hn]) (by simpa using hl)]
      simp

theorem CellsAt.sub {h h' : Hp} {b o : Nat} {xs : List Value} (H : CellsAt h b o xs) (s : Sub h h') : CellsAt h' b o xs := fun i hi => by
  have := H i hi
  unfold Hp.cell at this ⊢
  split at this
  · rename_i hb; rw [s _ _ hb]; exact this
  · cases this
theorem CellsAt.keep {S : Nat → Prop} {h h' : Hp} {b o : Nat} {xs : List Value} (H : CellsAt h b o xs) (s : Keep S h h') (n : ¬ S b) : CellsAt h' b o xs := fun i hi => by
  have := H i hi
  unfold Hp.cell at this ⊢
  split at this
  · rename_i hb; rw [s _ _ hb n]; exact this
  · cases this
theorem SliceAt.sub {h h' : Hp} {a : Option Addr} {n : Nat} {xs : List Value} (H : SliceAt h a n xs) (s : Sub h h') : SliceAt h' a n xs := by
  obtain ⟨h1, h2⟩ := H
  refine ⟨h1, ?_⟩
  rcases h2 with h2 | ⟨b, o, e, h2⟩
  · exact .inl h2
  · exact .inr ⟨b, o, e, h2.sub s⟩
def blkOf (a : Option Addr) (c : Nat) : Prop := ∃ o s, a = some ⟨c, o, s⟩
theorem SliceAt.keep {S : Nat → Prop} {h h' : Hp} {a : Option Addr} {n : Nat} {xs : List Value} (H : SliceAt h a n xs) (s : Keep S h h') (hn : ∀ c, blkOf a c → ¬ S c) : SliceAt h' a n xs := by
  obtain ⟨h1, h2⟩ := H
  refine ⟨h1, ?_⟩
  rcases h2 with h2 | ⟨b, o, e, h2⟩
  · exact .inl h2
  · exact .inr ⟨b, o, e, h2.keep s (hn b ⟨o, none, e⟩)⟩
theorem Blk.cellsAt {h : Hp} {b : Nat} {t : TypeId} {vs : List Value} (H : Blk h b t vs) {o : Nat} {xs : List Value} (hx : ∀ i, i < xs.length → vs[o + i]? = xs[i]?) : CellsAt h b o xs := fun i hi => by
  rw [H.cell, hx i hi]; exact List.getElem?_eq_getElem hi
theorem Blk.slice {h : Hp} {b : Nat} {t : TypeId} {vs : List Value} (H : Blk h b t vs) {n : Nat} (hn : vs.length = n) : SliceAt h (some ⟨b, 0, none⟩) n vs :=
  ⟨hn, .inr ⟨b, 0, rfl, H.cellsAt fun i _ => by rw [Nat.zero_add]⟩⟩
theorem slice_nil (h : Hp) (a : Option Addr) : SliceAt h a 0 [] := ⟨rfl, .inl rfl⟩
theorem SliceAt.cell {h : Hp} {a : Option Addr} {n : Nat} {xs : List Value} (H : SliceAt h a n xs) {i : Nat} (hi : i < n) : ∃ b o, a = some ⟨b, o, none⟩ ∧ ∃ v, xs[i]? = some v ∧ h.cell b (o + i) = some v := by
  obtain ⟨h1, h2⟩ := H
  rcases h2 with h2 | ⟨b, o, e, h2⟩
  · omega
  · exact ⟨b, o, e, xs[i], List.getElem?_eq_getElem (by omega), h2 i (by omega)⟩
theorem SliceAt.part {h : Hp} {a : Option Addr} {n : Nat} {xs : List Value} (H : SliceAt h a n xs) {m l k sz : Nat} (hk : l * sz + k ≤ n) (hm : m = l → k = 0) : SliceAt h (slA m l sz a) k ((xs.drop (l * sz)).take k) := by
  obtain ⟨h1, h2⟩ := H
  refine ⟨by simp; omega, ?_⟩
  by_cases k0 : k = 0
  · exact .inl k0
  · rcases h2 with h2 | ⟨b, o, e, h2⟩
    · omega
    · refine .inr ⟨b, o + l * sz, ?_, fun i hi => ?_⟩
      · unfold slA
        rw [if_neg (fun e' => k0 (hm e')), e, Option.map_some, add_mk]
      · simp only [List.length_take, List.length_drop] at hi
        have := h2 (l * sz + i) (by omega)
        rw [Nat.add_assoc, this]
        simp

structure AppT (P : Program) (e : TypeId) (z b : Nat) : Prop where
  ok : okT P e = true
  sz : szT P e = z
  by_ : byT P e = b
  pos : 0 < z
  bpos : 0 < b
  zero : ∃ v, zeroT P e = some v ∧ (cellsOfV v).length = z
def appB (P : Program) (e : TypeId) (sz b : Nat) : Bool :=
  okT P e && Nat.beq (szT P e) sz && Nat.beq (byT P e) b && Nat.blt 0 sz && Nat.blt 0 b && (match zeroT P e with
    | some v => Nat.beq (cellsOfV v).length sz
    | none => false)
theorem AppT.of {P : Program} {e : TypeId} {sz b : Nat} (h : appB P e sz b = true) : AppT P e sz b := by
  unfold appB at h
  simp only [Bool.and_eq_true] at h
  obtain ⟨⟨⟨⟨⟨h1, h2⟩, h3⟩, h4⟩, h5⟩, h6⟩ := h
  refine ⟨h1, Nat.eq_of_beq_eq_true h2, Nat.eq_of_beq_eq_true h3, Nat.le_of_ble_eq_true h4, Nat.le_of_ble_eq_true h5, ?_⟩
  split at h6
  · rename_i v hv; exact ⟨v, hv, Nat.eq_of_beq_eq_true h6⟩
  · cases h6
def Own (h : Hp) (e : TypeId) (sz : Nat) (a : Option Addr) (l c : Nat) (xs : List Value) : Prop :=
  xs.length = l * sz ∧ l ≤ c ∧ ((a = none ∧ c = 0) ∨ ∃ b rest, a = some ⟨b, 0, none⟩ ∧ Blk h b e (xs ++ rest) ∧ rest.length = (c - l) * sz)
theorem Own.nil (h : Hp) (e : TypeId) (sz : Nat) : Own h e sz none 0 0 [] := ⟨by simp, Nat.le_refl _, .inl ⟨rfl, rfl⟩⟩
theorem Own.keep {S : Nat → Prop} {h h' : Hp} {e : TypeId} {sz : Nat} {a : Option Addr} {l c : Nat} {xs : List Value} (H : Own h e sz a l c xs) (s : Keep S h h') (hn : ∀ c, blkOf a c → ¬ S c) : Own h' e sz a l c xs := by
  obtain ⟨h1, h2, h3⟩ := H
  refine ⟨h1, h2, ?_⟩
  rcases h3 with h3 | ⟨b, rest, e1, h3, h4⟩
  · exact .inl h3
  · exact .inr ⟨b, rest, e1, h3.keep s (hn b ⟨0, none, e1⟩), h4⟩
theorem Own.sub {h h' : Hp} {e : TypeId} {sz : Nat} {a : Option Addr} {l c : Nat} {xs : List Value} (H : Own h e sz a l c xs) (s : Sub h h') : Own h' e sz a l c xs :=
  H.keep (S := fun _ => False) (s.keep _) fun _ _ h => h
theorem Own.slice {h : Hp} {e : TypeId} {sz : Nat} {a : Option Addr} {l c : Nat} {xs : List Value} (H : Own h e sz a l c xs) : SliceAt h a (l * sz) xs := by
  obtain ⟨h1, h2, h3⟩ := H
  refine ⟨h1, ?_⟩
  rcases h3 with ⟨_, rfl⟩ | ⟨b, rest, e1, h3, h4⟩
  · left
    have : l = 0 := by omega
    subst this; simp
  · exact .inr ⟨b, 0, e1, h3.cellsAt fun i hi => by rw [Nat.zero_add, List.getElem?_append_left hi]⟩
theorem Own.take {h : Hp} {e : TypeId} {sz : Nat} {a : Option Addr} {l c : Nat} {xs : List Value} (H : Own h e sz a l c xs) {k : Nat} (hk : k ≤ l) : Own h e sz a k c (xs.take (k * sz)) := by
  obtain ⟨h1, h2, h3⟩ := H
  have hks : k * sz ≤ l * sz := Nat.mul_le_mul_right _ hk
  refine ⟨by simp; omega, by omega, ?_⟩
  rcases h3 with h3 | ⟨b, rest, e1, h3, h4⟩
  · exact .inl h3
  · refine .inr ⟨b, xs.drop (k * sz) ++ rest, e1, by rw [← List.append_assoc, List.take_append_drop]; exact h3, ?_⟩
    simp only [List.length_append, List.length_drop, h1, h4, Nat.sub_mul]
    have : l * sz ≤ c * sz := Nat.mul_le_mul_right _ h2
    omega
theorem Own.in_heap {h : Hp} {e : TypeId} {sz : Nat} {a : Option Addr} {l c : Nat} {xs : List Value} (H : Own h e sz a l c xs) {b : Nat} (hb : blkOf a b) : h b ≠ none := by
  obtain ⟨o, s, hb⟩ := hb
  rcases H.2.2 with ⟨e1, _⟩ | ⟨b', rest, e1, h3, h4⟩
  · rw [e1] at hb; cases hb
  · rw [e1] at hb; cases hb
    rw [h3.get]; simp
theorem plain_plainW : ∀ {vs : List Value} {F : Prop}, plainP vs → F → plainW vs F
  | [], _, _, hF => hF
  | v :: vs, F, hp, hF => by
    have h1 := hp v (by simp)
    have h2 := plain_plainW (vs := vs) (fun u hu => hp u (by simp [hu])) hF
    unfold plainW
    cases v <;> first | exact h2 | exact absurd rfl (h1.1 _) | exact absurd rfl (h1.2 _)
theorem append_own {P : Program} {e : TypeId} {sz by_ : Nat} (T : AppT P e sz by_) {h : Hp} {a : Option Addr} {l c n : Nat} {xs ys : List Value} {J : Option Addr → Nat → Hp → Prop} (H : Own h e sz a l c xs) (hy : ys.length = n * sz)
    (hp : plainP ys) (hb : (2 * (l + n) + 768) * by_ ≤ 281474976710656)
    (hJ : ∀ a' c' h', Own h' e sz a' (l + n) c' (xs ++ ys) → Keep (blkOf a) h h' → (∀ b, blkOf a' b → blkOf a b ∨ h b = none) → (∀ b, h' b = none → h b = none) → J a' c' h') : appendC P e a l c h ys n J := by
  unfold appendC appendI
  have hok : (okT P e && Nat.blt 0 (byT P e)) = true := by
    rw [T.ok, T.by_]
    have := T.bpos
    simp [Nat.blt, Nat.ble_eq]; omega
  rw [hok]
  simp only [Bool.not_true, cond_false, T.sz, T.by_, leN, ltN, nadd, nmul, nsub]
  have hnone : ∀ {h h' : Hp}, (∀ b, h b ≠ none → h' b ≠ none) → ∀ b, h' b = none → h b = none := fun hx b hb' => Classical.byContradiction fun hc => hx b hc hb'
  obtain ⟨h1, h2, h3⟩ := H
  refine ⟨fun hc => ?_, fun hc => ⟨hb, xs, (Own.slice ⟨h1, h2, h3⟩), fun nc hnc => ?_⟩⟩
  · rcases h3 with ⟨rfl, rfl⟩ | ⟨b, rest, e1, h3, h4⟩
    · have hl : l = 0 := by omega
      have hn : n = 0 := by omega
      subst hl; subst hn
      have hy : ys = [] := List.length_eq_zero_iff.1 (by simpa using hy)
      have hx : xs = [] := List.length_eq_zero_iff.1 (by simpa using h1)
      subst hy; subst hx
      exact .inl ⟨rfl, rfl, _, _, rfl, hJ _ _ _ (Own.nil _ _ _) (Keep.refl _ _) (fun b hb => .inl hb) (fun b hb => hb)⟩
    · refine .inr ⟨b, 0, e1, plain_plainW hp ?_⟩
      have hle : n * sz ≤ (c - l) * sz := Nat.mul_le_mul_right _ (by omega)
      unfold storeH
      rw [Nat.zero_add]
      refine ⟨h3.store (by simp only [List.length_append, h1, hy]; omega), _, _, rfl, ?_⟩
      have hset : setL (xs ++ rest) (l * sz) ys = xs ++ ys ++ rest.drop ys.length := setL_append h1 (by omega)
      have hb2 := h3.put (l * sz) ys
      rw [hset] at hb2
      refine hJ _ _ _ ⟨by simp [h1, hy, Nat.add_mul], hc, .inr ⟨b, _, rfl, hb2, ?_⟩⟩ ?_ ?_ ?_
      · simp only [List.length_drop, h4, hy, Nat.sub_mul, Nat.add_mul]; omega
      · exact Keep.put _ _ _ _ ⟨0, none, e1⟩
      · rintro b' ⟨o, s, e2⟩; cases e2; exact .inl ⟨0, none, e1⟩
      · intro b' hb'
        by_cases e2 : b' = b
        · subst e2; rw [hb2.get] at hb'; cases hb'
        · rw [put_ne _ _ _ e2] at hb'; exact hb'
  · unfold zeroCs
    obtain ⟨z, hz, hzl⟩ := T.zero
    rw [hz]
    simp only []
    have : Nat.beq (cellsOfV z).length (szT P e) = true := by rw [hzl, T.sz]; exact Nat.beq_refl _
    rw [this]
    simp only [cond_true]
    intro k hk
    refine ⟨_, _, rfl, ?_⟩
    have hblk := Blk.new h k e (xs ++ ys ++ (List.replicate (nc - (l + n)) (cellsOfV z)).flatten)
    refine hJ _ _ _ ⟨by simp [h1, hy, Nat.add_mul], hnc, .inr ⟨k, _, rfl, hblk, by simp [hzl]⟩⟩ (Keep.upd _ (.inr hk)) (fun b ⟨o, s, e2⟩ => ?_) (fun b hb' => ?_)
    · cases e2; exact .inr hk
    · exact (Sub.upd hk _).none hb'
theorem append_new {P : Program} {e : TypeId} {sz by_ : Nat} (T : AppT P e sz by_) {h0 h : Hp} {a : Option Addr} {l c n : Nat} {xs ys : List Value} {J : Option Addr → Nat → Hp → Prop} (hs : Sub h0 h) (hf : ∀ b, blkOf a b → h0 b = none) (H : Own h e sz a l c xs) (hy : ys.length = n * sz)
    (hp : plainP ys) (hb : (2 * (l + n) + 768) * by_ ≤ 281474976710656)
    (hJ : ∀ a' c' h', Sub h0 h' → (∀ b, blkOf a' b → h0 b = none) → Own h' e sz a' (l + n) c' (xs ++ ys) → J a' c' h') : appendC P e a l c h ys n J :=
  append_own T H hy hp hb fun a' c' h' o k n _ => hJ a' c' h' (k.sub hs hf) (fun b hb => (n b hb).elim (hf b) fun x => hs.none x) o
end Go.Gx
namespace Go.Gx
set_option linter.unusedVariables false
variable {α : Type} {f : α → List Value} {sz : Nat}
def rowC (f : α → List Value) (L : List α) : List Value := L.flatMap f
theorem rowC_nil : rowC f [] = [] := rfl
theorem rowC_cons (x : α) (L : List α) : rowC f (x :: L) = f x ++ rowC f L := rfl
theorem rowC_append (L M : List α) : rowC f (L ++ M) = rowC f L ++ rowC f M := List.flatMap_append
theorem rowC_one (x : α) : rowC f [x] = f x := by rw [rowC_cons, rowC_nil, List.append_nil]
theorem rowC_length (hf : ∀ x, (f x).length = sz) : ∀ L : List α, (rowC f L).length = L.length * sz
  | [] => by simp [rowC]
  | x :: L => by rw [rowC_cons, List.length_append, hf, rowC_length hf L, List.length_cons, Nat.add_mul]; omega
theorem rowC_get (hf : ∀ x, (f x).length = sz) : ∀ (L : List α) (i : Nat) (x : α), L[i]? = some x → ∀ j, j < sz → (rowC f L)[i * sz + j]? = (f x)[j]?
  | [], _, _, h, _, _ => by simp at h
  | y :: L, 0, x, h, j, hj => by
    simp at h; subst h
    rw [rowC_cons, Nat.zero_mul, Nat.zero_add, List.getElem?_append_left (by rw [hf]; exact hj)]
  | y :: L, i + 1, x, h, j, hj => by
    have := rowC_get hf L i x (by simpa using h) j hj
    rw [rowC_cons, List.getElem?_append_right (by rw [hf, Nat.add_mul]; omega), hf, ← this]
    congr 1
    rw [Nat.add_mul]; omega
theorem rowC_plain (hp : ∀ x, plainP (f x)) (L : List α) : plainP (rowC f L) := fun v hv => by
  unfold rowC at hv
  rw [List.mem_flatMap] at hv
  obtain ⟨x, _, hv⟩ := hv
  exact hp x v hv
theorem rowC_drop (hf : ∀ x, (f x).length = sz) : ∀ (L : List α) (i : Nat), (rowC f L).drop (i * sz) = rowC f (L.drop i)
  | L, 0 => by simp
  | [], i + 1 => by simp [rowC]
  | x :: L, i + 1 => by
    rw [rowC_cons, show (i + 1) * sz = (f x).length + i * sz by rw [hf, Nat.add_mul]; omega, List.drop_append, List.drop_eq_nil_of_le (by omega), Nat.add_sub_cancel_left, List.nil_append]
    exact rowC_drop hf L i
theorem rowC_take (hf : ∀ x, (f x).length = sz) (L : List α) (i : Nat) : (rowC f L).take (i * sz) = rowC f (L.take i) := by
  by_cases h : i ≤ L.length
  · have : rowC f L = rowC f (L.take i) ++ rowC f (L.drop i) := by rw [← rowC_append, List.take_append_drop]
    rw [this, List.take_append_of_le_length (by rw [rowC_length hf, List.length_take, Nat.min_eq_left h]; exact Nat.le_refl _), List.take_of_length_le]
    rw [rowC_length hf, List.length_take, Nat.min_eq_left h]; exact Nat.le_refl _
  · rw [List.take_of_length_le, List.take_of_length_le (by omega)]
    rw [rowC_length hf]; exact Nat.mul_le_mul_right _ (by omega)
def RowAt (f : α → List Value) (sz : Nat) (h : Hp) (a : Option Addr) (L : List α) : Prop := SliceAt h a (L.length * sz) (rowC f L)
theorem RowAt.nil (h : Hp) (a : Option Addr) : RowAt f sz h a [] := by unfold RowAt; simp; exact slice_nil h a
theorem RowAt.sub {h h' : Hp} {a : Option Addr} {L : List α} (H : RowAt f sz h a L) (s : Sub h h') : RowAt f sz h' a L := SliceAt.sub H s
theorem RowAt.keep {S : Nat → Prop} {h h' : Hp} {a : Option Addr} {L : List α} (H : RowAt f sz h a L) (s : Keep S h h') (hn : ∀ c, blkOf a c → ¬ S c) : RowAt f sz h' a L := SliceAt.keep H s hn
theorem RowAt.get (hf : ∀ x, (f x).length = sz) (hz : 0 < sz) {h : Hp} {a : Option Addr} {L : List α} (H : RowAt f sz h a L) {i : Nat} {x : α} (hx : L[i]? = some x) :
    ∃ b o, a = some ⟨b, o, none⟩ ∧ ∀ j v, (f x)[j]? = some v → h.cell b (o + i * sz + j) = some v := by
  have hi := (List.getElem?_eq_some_iff.1 hx).1
  have hle : i * sz + sz ≤ L.length * sz := by have := Nat.mul_le_mul_right sz (show i + 1 ≤ L.length by omega); rw [Nat.add_mul] at this; omega
  obtain ⟨b, o, e, _⟩ := SliceAt.cell H (i := i * sz) (by omega)
  refine ⟨b, o, e, fun j v hv => ?_⟩
  have hj : j < sz := by have := (List.getElem?_eq_some_iff.1 hv).1; rw [hf] at this; exact this
  obtain ⟨b', o', e', v', hv', hc⟩ := SliceAt.cell H (i := i * sz + j) (by omega)
  rw [e] at e'
  cases e'
  rw [rowC_get hf L i x hx j hj, hv] at hv'
  cases hv'
  rw [Nat.add_assoc]; exact hc
theorem RowAt.part (hf : ∀ x, (f x).length = sz) {h : Hp} {a : Option Addr} {L : List α} (H : RowAt f sz h a L) {c i n : Nat} (hc : L.length ≤ c) (hi : i + n ≤ L.length) : RowAt f sz h (slA c i sz a) ((L.drop i).take n) := by
  have hle : i * sz + n * sz ≤ L.length * sz := by have := Nat.mul_le_mul_right sz hi; rw [Nat.add_mul] at this; exact this
  have := SliceAt.part H (m := c) (l := i) (k := n * sz) (sz := sz) hle (fun e => by
    have : n = 0 := by omega
    rw [this, Nat.zero_mul])
  rw [rowC_drop hf, rowC_take hf] at this
  unfold RowAt
  rw [List.length_take, List.length_drop, Nat.min_eq_left (by omega)]
  exact this
theorem RowAt.blk {h : Hp} {b : Nat} {t : TypeId} {L : List α} (H : Blk h b t (rowC f L)) (hf : ∀ x, (f x).length = sz) : RowAt f sz h (some ⟨b, 0, none⟩) L := H.slice (rowC_length hf L)
def OwnR (f : α → List Value) (sz : Nat) (h : Hp) (e : TypeId) (a : Option Addr) (c : Nat) (L : List α) : Prop := Own h e sz a L.length c (rowC f L)
theorem OwnR.nil (h : Hp) (e : TypeId) : OwnR f sz h e none 0 [] := Own.nil _ _ _
theorem OwnR.row {h : Hp} {e : TypeId} {a : Option Addr} {c : Nat} {L : List α} (H : OwnR f sz h e a c L) : RowAt f sz h a L := Own.slice H
theorem OwnR.le {h : Hp} {e : TypeId} {a : Option Addr} {c : Nat} {L : List α} (H : OwnR f sz h e a c L) : L.length ≤ c := H.2.1
theorem OwnR.sub {h h' : Hp} {e : TypeId} {a : Option Addr} {c : Nat} {L : List α} (H : OwnR f sz h e a c L) (s : Sub h h') : OwnR f sz h' e a c L := Own.sub H s
theorem OwnR.keep {S : Nat → Prop} {h h' : Hp} {e : TypeId} {a : Option Addr} {c : Nat} {L : List α} (H : OwnR f sz h e a c L) (s : Keep S h h') (hn : ∀ c, blkOf a c → ¬ S c) : OwnR f sz h' e a c L := Own.keep H s hn
structure NewR (f : α → List Value) (sz : Nat) (e : TypeId) (h h' : Hp) (a : Option Addr) (c : Nat) (L : List α) : Prop where
  sub : Sub h h'
  new : ∀ b, blkOf a b → h b = none
  own : OwnR f sz h' e a c L
theorem NewR.nil (e : TypeId) (h : Hp) : NewR f sz e h h none 0 [] := ⟨Sub.refl h, (by rintro b ⟨o, s, e⟩; cases e), OwnR.nil h e⟩
theorem NewR.upd {e : TypeId} {h h' : Hp} {a : Option Addr} {c : Nat} {L : List α} (N : NewR f sz e h h' a c L) {h2 : Hp} (s : Sub h' h2) : NewR f sz e h h2 a c L := ⟨N.sub.trans s, N.new, N.own.sub s⟩
theorem NewR.back {e : TypeId} {h h0 h' : Hp} {a : Option Addr} {c : Nat} {L : List α} (N : NewR f sz e h h' a c L) (s : Sub h0 h) : NewR f sz e h0 h' a c L := ⟨s.trans N.sub, fun b hb => s.none (N.new b hb), N.own⟩
theorem append_row {P : Program} {e : TypeId} {by_ : Nat} (T : AppT P e sz by_) (hf : ∀ x, (f x).length = sz) (hp : ∀ x, plainP (f x)) {h0 h : Hp} {a : Option Addr} {c : Nat} {L M : List α} {l n : Nat} {ys : List Value} {J : Option Addr → Nat → Hp → Prop} (N : NewR f sz e h0 h a c L)
    (hl : l = L.length) (hn : n = M.length) (hy : ys = rowC f M) (hb : (2 * (L.length + M.length) + 768) * by_ ≤ 281474976710656)
    (hJ : ∀ a' c' h', NewR f sz e h0 h' a' c' (L ++ M) → J a' c' h') : appendC P e a l c h ys n J := by
  subst hl; subst hn; subst hy
  refine append_new T N.sub N.new N.own (rowC_length hf M) (rowC_plain hp M) hb fun a' c' h' g1 g2 g3 => hJ a' c' h' ⟨g1, g2, ?_⟩
  unfold OwnR
  rw [List.length_append, rowC_append]
  exact g3
theorem append_ownR {P : Program} {e : TypeId} {by_ : Nat} (T : AppT P e sz by_) (hf : ∀ x, (f x).length = sz) (hp : ∀ x, plainP (f x)) {h : Hp} {a : Option Addr} {c : Nat} {L M : List α} {l n : Nat} {ys : List Value} {J : Option Addr → Nat → Hp → Prop} (N : OwnR f sz h e a c L)
    (hl : l = L.length) (hn : n = M.length) (hy : ys = rowC f M) (hb : (2 * (L.length + M.length) + 768) * by_ ≤ 281474976710656)
    (hJ : ∀ a' c' h', OwnR f sz h' e a' c' (L ++ M) → Keep (blkOf a) h h' → (∀ b, blkOf a' b → blkOf a b ∨ h b = none) → J a' c' h') : appendC P e a l c h ys n J := by
  subst hl; subst hn; subst hy
  refine append_own T N (rowC_length hf M) (rowC_plain hp M) hb fun a' c' h' g1 g2 g3 _ => hJ a' c' h' ?_ g2 g3
  unfold OwnR
  rw [List.length_append, rowC_append]
  exact g1
theorem setL_left : ∀ (us : List Value) (A B : List Value) (j : Nat), j + us.length ≤ A.length → setL (A ++ B) j us = setL A j us ++ B
  | [], _, _, _, _ => rfl
  | u :: us, A, B, j, h => by
    simp only [List.length_cons] at h
    unfold setL
    rw [List.set_append_left _ _ (by omega), setL_left us _ B (j + 1) (by rw [List.length_set]; omega)]
theorem setL_right : ∀ (us : List Value) (A B : List Value) (j : Nat), setL (A ++ B) (A.length + j) us = A ++ setL B j us
  | [], _, _, _ => rfl
  | u :: us, A, B, j => by
    unfold setL
    rw [List.set_append_right _ _ (by omega), Nat.add_sub_cancel_left, Nat.add_assoc, setL_right us A _ (j + 1)]
theorem setL_row (hf : ∀ x, (f x).length = sz) {L : List α} {i j : Nat} {x y : α} {vs rest : List Value} (hx : L[i]? = some x) (hj : j + vs.length ≤ sz) (hy : setL (f x) j vs = f y) : setL (rowC f L ++ rest) (i * sz + j) vs = rowC f (L.set i y) ++ rest := by
  obtain ⟨h1, h2⟩ := List.getElem?_eq_some_iff.1 hx
  have hl : L = L.take i ++ x :: L.drop (i + 1) := by
    conv => lhs; rw [← List.take_append_drop i L, List.drop_eq_getElem_cons h1, h2]
  have hs : L.set i y = L.take i ++ y :: L.drop (i + 1) := List.set_eq_take_append_cons_drop ▸ if_pos h1
  have e : (rowC f (L.take i)).length = i * sz := by rw [rowC_length hf, List.length_take, Nat.min_eq_left (by omega)]
  rw [hs]
  conv => lhs; rw [hl]
  rw [rowC_append, rowC_append, rowC_cons, rowC_cons, List.append_assoc, List.append_assoc, ← e, setL_right, List.append_assoc, setL_left _ _ _ _ (by rw [hf]; exact hj), hy, List.append_assoc]
theorem OwnR.put (hf : ∀ x, (f x).length = sz) {h : Hp} {e : TypeId} {a : Option Addr} {c : Nat} {L : List α} (O : OwnR f sz h e a c L) {i j : Nat} {x y : α} {vs : List Value} (hx : L[i]? = some x) (hz : 0 < sz) (hj : j + vs.length ≤ sz) (hy : setL (f x) j vs = f y) :
    ∃ b, a = some ⟨b, 0, none⟩ ∧ StoreOk h b (0 + i * sz + j) vs.length ∧ OwnR f sz (h.put b (0 + i * sz + j) vs) e a c (L.set i y) := by
  have h1 := (List.getElem?_eq_some_iff.1 hx).1
  obtain ⟨g1, g2, g3⟩ := O
  rcases g3 with ⟨rfl, rfl⟩ | ⟨b, rest, rfl, g3, g4⟩
  · omega
  · have hle : i * sz + sz ≤ L.length * sz := by have := Nat.mul_le_mul_right sz (show i + 1 ≤ L.length by omega); rw [Nat.add_mul] at this; omega
    rw [Nat.zero_add]
    refine ⟨b, rfl, g3.store (by rw [List.length_append, rowC_length hf]; omega), ⟨by rw [rowC_length hf], by rw [List.length_set]; exact g2, .inr ⟨b, rest, rfl, ?_, by rw [List.length_set]; exact g4⟩⟩⟩
    have := g3.put (i * sz + j) vs
    rw [setL_row hf hx hj hy] at this
    exact this
theorem NewR.put (hf : ∀ x, (f x).length = sz) {e : TypeId} {h0 h : Hp} {a : Option Addr} {c : Nat} {L : List α} (N : NewR f sz e h0 h a c L) {i j : Nat} {x y : α} {vs : List Value} (hx : L[i]? = some x) (hz : 0 < sz) (hj : j + vs.length ≤ sz) (hy : setL (f x) j vs = f y) :
    ∃ b, a = some ⟨b, 0, none⟩ ∧ StoreOk h b (0 + i * sz + j) vs.length ∧ NewR f sz e h0 (h.put b (0 + i * sz + j) vs) a c (L.set i y) := by
  obtain ⟨b, h1, h2, h3⟩ := N.own.put hf hx hz hj hy
  refine ⟨b, h1, h2, ⟨?_, N.new, h3⟩⟩
  exact (Keep.put (fun c => c = b) h _ vs rfl).sub N.sub fun c hc => N.new c (by rw [hc]; exact ⟨0, none, h1⟩)
theorem plainP_of {vs : List Value} (h : vs.all (fun v => match v with | .agg _ => false | .tuple _ => false | _ => true) = true) : plainP vs := fun v hv => by
  have := List.all_eq_true.1 h v hv
  constructor
  · intro c e; subst e; cases this
  · intro c e; subst e; cases this
end Go.Gx
namespace Go.Gx
theorem RowOk.row {α : Type} {f : α → List Value} {sz : Nat} {p : α → Prop} {P : Program} {w : World} {e : TypeId} {a : Option Addr} {l : Nat} (H : RowOk P w e a l) (hf : ∀ x, (f x).length = sz) (hz : 0 < sz) (es : P.cellsOf e = sz)
    (hd : ∀ cs, KdsOk (kds P e) cs → ∃ x, cs = f x ∧ p x) : ∃ L : List α, L.length = l ∧ RowAt f sz (heapOf w) a L ∧ ∀ x ∈ L, p x := by
  by_cases hl : l = 0
  · subst hl
    exact ⟨[], rfl, RowAt.nil _ _, fun x hx => by cases hx⟩
  have ex : ∀ i, i < l → ∃ x : α, p x ∧ ∃ b o, a = some ⟨b, o, none⟩ ∧ ∀ j (hj : j < (f x).length), (heapOf w).cell b (o + i * sz + j) = some (f x)[j] := by
    intro i hi
    obtain ⟨b, o, ea, cs, hk, hc⟩ := H i hi
    obtain ⟨x, rfl, hp⟩ := hd cs hk
    rw [es] at hc
    exact ⟨x, hp, b, o, ea, hc⟩
  obtain ⟨_, _, b, o, ea, _⟩ := ex 0 (by omega)
  have all : ∀ n, n ≤ l → ∃ L : List α, L.length = n ∧ CellsAt (heapOf w) b o (rowC f L) ∧ ∀ x ∈ L, p x := by
    intro n
    induction n with
    | zero => exact fun _ => ⟨[], rfl, fun i hi => by simp [rowC] at hi, fun x hx => by cases hx⟩
    | succ n ih =>
      intro hn
      obtain ⟨L, h1, h2, h3⟩ := ih (by omega)
      obtain ⟨x, hp, b', o', ea', hc⟩ := ex n (by omega)
      rw [ea] at ea'; cases ea'
      refine ⟨L ++ [x], by simp [h1], fun i hi => ?_, fun y hy => ?_⟩
      · have hlen := rowC_length hf L
        have hg : (rowC f (L ++ [x]))[i]? = some (rowC f (L ++ [x]))[i] := List.getElem?_eq_getElem hi
        rw [← hg]
        rw [rowC_length hf, List.length_append, List.length_singleton, h1, Nat.add_mul] at hi
        rw [rowC_append, rowC_one]
        by_cases hc' : i < (rowC f L).length
        · rw [List.getElem?_append_left hc', List.getElem?_eq_getElem hc']; exact h2 i hc'
        · rw [List.getElem?_append_right (by omega)]
          have hj : i - (rowC f L).length < (f x).length := by rw [hf]; rw [hlen, h1]; omega
          have := hc _ hj
          rw [List.getElem?_eq_getElem hj, ← this]
          congr 1
          rw [hlen, h1] at hc' ⊢; omega
      · rcases List.mem_append.1 hy with hy | hy
        · exact h3 y hy
        · rw [List.mem_singleton.1 hy]; exact hp
  obtain ⟨L, h1, h2, h3⟩ := all l (Nat.le_refl _)
  exact ⟨L, h1, ⟨rowC_length hf L, .inr ⟨b, o, ea, h2⟩⟩, h3⟩
end Go.Gx
namespace Go.Gx
section
variable {H : Type} {enc : TypeId × Value → H} {P : Program} {w : World} {sp : Nat → Bool}
def RowOkB (P : Program) (w : World) (e : TypeId) (N : Nat) (a : Option Addr) (l : Nat) : Prop :=
  ∀ i, i < l → ∃ b o, a = some ⟨b, o, none⟩ ∧ ∃ cs, KdsOk (kds P e) cs ∧ (∀ s, Value.string s ∈ cs → s.size ≤ N) ∧ ∀ j (hj : j < cs.length), (heapOf w).cell b (o + i * P.cellsOf e + j) = some cs[j]
theorem RowOkB.row {α : Type} {f : α → List Value} {sz N : Nat} {p : α → Prop} {e : TypeId} {a : Option Addr} {l : Nat} (B : RowOkB P w e N a l) (hf : ∀ x, (f x).length = sz) (hz : 0 < sz) (es : P.cellsOf e = sz)
    (hd : ∀ cs, KdsOk (kds P e) cs → (∀ s, Value.string s ∈ cs → s.size ≤ N) → ∃ x, cs = f x ∧ p x) : ∃ L : List α, L.length = l ∧ RowAt f sz (heapOf w) a L ∧ ∀ x ∈ L, p x := by
  by_cases hl : l = 0
  · subst hl
    exact ⟨[], rfl, RowAt.nil _ _, fun x hx => by cases hx⟩
  have ex : ∀ i, i < l → ∃ x : α, p x ∧ ∃ b o, a = some ⟨b, o, none⟩ ∧ ∀ j (hj : j < (f x).length), (heapOf w).cell b (o + i * sz + j) = some (f x)[j] := by
    intro i hi
    obtain ⟨b, o, ea, cs, hk, hs, hc⟩ := B i hi
    obtain ⟨x, rfl, hp⟩ := hd cs hk hs
    rw [es] at hc
    exact ⟨x, hp, b, o, ea, hc⟩
  obtain ⟨_, _, b, o, ea, _⟩ := ex 0 (by omega)
  have all : ∀ n, n ≤ l → ∃ L : List α, L.length = n ∧ CellsAt (heapOf w) b o (rowC f L) ∧ ∀ x ∈ L, p x := by
    intro n
    induction n with
    | zero => exact fun _ => ⟨[], rfl, fun i hi => by simp [rowC] at hi, fun x hx => by cases hx⟩
    | succ n ih =>
      intro hn
      obtain ⟨L, h1, h2, h3⟩ := ih (by omega)
      obtain ⟨x, hp, b', o', ea', hc⟩ := ex n (by omega)
      rw [ea] at ea'; cases ea'
      refine ⟨L ++ [x], by simp [h1], fun i hi => ?_, fun y hy => ?_⟩
      · have hlen := rowC_length hf L
        have hg : (rowC f (L ++ [x]))[i]? = some (rowC f (L ++ [x]))[i] := List.getElem?_eq_getElem hi
        rw [← hg]
        rw [rowC_length hf, List.length_append, List.length_singleton, h1, Nat.add_mul] at hi
        rw [rowC_append, rowC_one]
        by_cases hc' : i < (rowC f L).length
        · rw [List.getElem?_append_left hc', List.getElem?_eq_getElem hc']; exact h2 i hc'
        · rw [List.getElem?_append_right (by omega)]
          have hj : i - (rowC f L).length < (f x).length := by rw [hf]; rw [hlen, h1]; omega
          have := hc _ hj
          rw [List.getElem?_eq_getElem hj, ← this]
          congr 1
          rw [hlen, h1] at hc' ⊢; omega
      · rcases List.mem_append.1 hy with hy | hy
        · exact h3 y hy
        · rw [List.mem_singleton.1 hy]; exact hp
  obtain ⟨L, h1, h2, h3⟩ := all l (Nat.le_refl _)
  exact ⟨L, h1, ⟨rowC_length hf L, .inr ⟨b, o, ea, h2⟩⟩, h3⟩
end
end Go.Gx
namespace Go.Proofs.YthbogjbcecmopaaDoor
open Go.Gx
set_option maxRecDepth 100000
set_option linter.unusedVariables false

abbrev law15_BtreeEmpty.id : FuncId := 3
abbrev law15_BtreeTwo.id : FuncId := 4
abbrev law15_opened.id : FuncId := 5
abbrev law15_light.id : FuncId := 6
abbrev law15_lives.id : FuncId := 7
abbrev btree_Tree_Drop.id : FuncId := 8
abbrev btree_Tree_Put.id : FuncId := 9
abbrev law15_value.id : FuncId := 10
abbrev btree_Tree_Len.id : FuncId := 11
abbrev pager_Pager_Free.id : FuncId := 12
abbrev law15_all.id : FuncId := 13
abbrev btree_Tree_Check.id : FuncId := 14
abbrev btree_Tree_Height.id : FuncId := 15
abbrev pager_Pager_Root.id : FuncId := 16
abbrev btree_Open.id : FuncId := 17
abbrev ref08_Drop.id : FuncId := 18
abbrev law15_put.id : FuncId := 19
abbrev ref08_Same.id : FuncId := 20
abbrev btree_Tree_Clear.id : FuncId := 21
abbrev disk_New.id : FuncId := 22
abbrev journal_Open.id : FuncId := 23
abbrev pager_Open.id : FuncId := 24
abbrev btree_Tree_Get.id : FuncId := 25
abbrev btree_Tree_remove.id : FuncId := 26
abbrev btree_Tree_load.id : FuncId := 27
abbrev pager_Pager_Point.id : FuncId := 28
abbrev pager_Pager_Give.id : FuncId := 29
abbrev btree_may.id : FuncId := 30
abbrev pager_Pager_Alloc.id : FuncId := 31
abbrev btree_Tree_store.id : FuncId := 32
abbrev btree_Tree_insert.id : FuncId := 33
abbrev btree_Tree_each.id : FuncId := 34
abbrev pager_Pager_Pages.id : FuncId := 36
abbrev btree_Tree_Range.id : FuncId := 37
abbrev law15_top.id : FuncId := 38
abbrev pager_Pager_Used.id : FuncId := 40
abbrev btree_node_keys.id : FuncId := 41
abbrev btree_node_kid.id : FuncId := 42
abbrev ref08_Find.id : FuncId := 43
abbrev ref08_May.id : FuncId := 44
abbrev ref08_Put.id : FuncId := 45
abbrev journal_Need.id : FuncId := 47
abbrev disk_Disk_Size.id : FuncId := 48
abbrev disk_Disk_Read.id : FuncId := 49
abbrev journal_Journal_look.id : FuncId := 51
abbrev journal_Journal_own.id : FuncId := 53
abbrev journal_Journal_Pages.id : FuncId := 56
abbrev journal_Journal_Read.id : FuncId := 57
abbrev pager_read.id : FuncId := 58
abbrev btree_node_place.id : FuncId := 59
abbrev btree_node_below.id : FuncId := 60
abbrev btree_Tree_join.id : FuncId := 61
abbrev pager_Pager_Read.id : FuncId := 62
abbrev btree_parse.id : FuncId := 63
abbrev pager_Pager_use.id : FuncId := 64
abbrev slices_Contains_int_int_.id : FuncId := 65
abbrev pager_Pager_Write.id : FuncId := 66
abbrev btree_node_bytes.id : FuncId := 67
abbrev btree_node_put.id : FuncId := 68
abbrev btree_node_size.id : FuncId := 69
abbrev btree_Tree_part.id : FuncId := 70
abbrev disk_Disk_use.id : FuncId := 73
abbrev pager_head_bytes.id : FuncId := 76
abbrev sort_Search.id : FuncId := 77
abbrev btree_two.id : FuncId := 80
abbrev strings_Trim.id : FuncId := 81
abbrev disk_Disk_settle.id : FuncId := 83
abbrev strings_trimLeftByte.id : FuncId := 85
abbrev strings_trimRightByte.id : FuncId := 86
def disk_New.H : Hints := { N := 31, loc := (fun _ => false), join := (fun _ => none), loop := (fun i => bif Nat.beq i 6 then some [.slot 17 (.int .i64)] else none), ifc := 0, order := (fun _ => none) }
def disk_New.W (sectors : Int) (h : Hp) (Q : Value → Hp → Prop) : Prop :=
  (bif hb (decide (sectors < 1)) then (Q (.tuple #[.pointer none, .int .i64 1]) h) else (bif hb (decide (sectors > 2048)) then (Q (.tuple #[.pointer none, .int .i64 1]) h) else (∀ (k1 : Nat), ((h k1 = none) → ((Int.ofNat 0 ≤ 256) ∧ (Int.ofNat 256 ≤ 256) ∧ (Int.ofNat 1 * 256 ≤ 281474976710656) ∧ (Int.ofNat 256 ≤ 9223372036854775807) ∧ ∀ (k2 : Nat), ((h.upd k1 (.cells #[.slice none 0 0, .slice none 0 0, .int .i64 0, .int .i64 0, .bool false] 105 (0, 0)) k2 = none) → (∃ s3, (SliceAt ((h.upd k1 (.cells #[.slice none 0 0, .slice none 0 0, .int .i64 0, .int .i64 0, .bool false] 105 (0, 0))).upd k2 (.cells (repV 256 [.int .u8 0]).toArray 5 (0, 0))) (some ⟨k2, 0, none⟩) (256) (bytesV s3)) ∧ ∃ (J4 : Int → Hp → Nat → Prop), (∃ k5, J4 0 ((h.upd k1 (.cells #[.slice none 0 0, .slice none 0 0, .int .i64 0, .int .i64 0, .bool false] 105 (0, 0))).upd k2 (.cells (repV 256 [.int .u8 0]).toArray 5 (0, 0))) k5) ∧ ∀ (n6 : Int), ∀ (x7 : Hp), ∀ (k8 : Nat), (J4 n6 x7 k8) → (bif hb (decide (n6 < sectors)) then (∃ a9, ∃ k10, ∃ k11, (x7.cell k1 0 = some (.slice a9 k10 k11)) ∧ ∀ (k12 : Nat), (x7 k12 = none) → (∃ (xs13 : List Value), (SliceAt (x7.upd k12 (.cells #[.string s3] 9 (0, 0))) (some ⟨k12, 0, none⟩) (1) (xs13)) ∧ ∃ (J14 : Option Addr → Nat → Hp → Prop), (∀ (a15 : Option Addr), ∀ (k16 : Nat), ∀ (x17 : Hp), (J14 a15 k16 x17) → ((StoreOk x17 k1 0 1) ∧ ∃ k18, (k18 < k8) ∧ J4 (IntKind.i64.wrap (n6 + 1)) (x17.put k1 0 [.slice a15 (k10 + 1) k16]) k18)) ∧ appendC Tryd.prog 9 a9 k10 k11 (x7.upd k12 (.cells #[.string s3] 9 (0, 0))) xs13 1 J14)) else (Q (.tuple #[.pointer (some ⟨k1, 0, none⟩), .int .i64 0]) x7)))))))))
theorem disk_New.calls (sectors : Int) {h : Hp} {Q : Value → Hp → Prop} (hW : disk_New.W sectors h Q) : CallsH Tryd.prog 22 #[.int .i64 sectors] h Q := by
  have hE_ : bodyW Tryd.prog disk_New.H Tryd.f22 [.val (.int .i64 sectors)] h Q = disk_New.W sectors h Q := by kernel_rfl
  rw [← hE_] at hW
  exact calls_of_body (H := disk_New.H) (args := [.val (.int .i64 sectors)]) Tryd.func22 Tryd.ntmps22 rfl rfl hW

def disk_Disk_Size.H : Hints := { N := 10, loc := (fun _ => false), join := (fun _ => none), loop := (fun _ => none), ifc := 0, order := (fun _ => none) }
def disk_Disk_Size.W (d_b d_o : Nat) (h : Hp) (Q : Value → Hp → Prop) : Prop :=
  (∃ a1, ∃ k2, ∃ k3, (h.cell d_b d_o = some (.slice a1 k2 k3)) ∧ Q (.int .i64 (Int.ofNat k2)) h)
theorem disk_Disk_Size.calls (d_b d_o : Nat) {h : Hp} {Q : Value → Hp → Prop} (hW : disk_Disk_Size.W d_b d_o h Q) : CallsH Tryd.prog 48 #[.pointer (some ⟨d_b, d_o, none⟩)] h Q := by
  have hE_ : bodyW Tryd.prog disk_Disk_Size.H Tryd.f48 [.ptr d_b d_o] h Q = disk_Disk_Size.W d_b d_o h Q := by kernel_rfl
  rw [← hE_] at hW
  exact calls_of_body (H := disk_Disk_Size.H) (args := [.ptr d_b d_o]) Tryd.func48 Tryd.ntmps48 rfl rfl hW

def disk_Disk_use.H : Hints := { N := 25, loc := (fun _ => false), join := (fun _ => none), loop := (fun _ => none), ifc := 0, order := (fun _ => none) }
def disk_Disk_use.W (d_b d_o : Nat) (p1 : Int) (h : Hp) (Q : Value → Hp → Prop) : Prop :=
  (∃ b1, (h.cell d_b (d_o + 4) = some (.bool b1)) ∧ bif b1 then (Q (.int .i64 10) h) else (bif hb (decide (p1 < 0)) then (Q (.int .i64 9) h) else (∃ a2, ∃ k3, ∃ k4, (h.cell d_b d_o = some (.slice a2 k3 k4)) ∧ bif hb (decide (p1 ≥ Int.ofNat k3)) then (Q (.int .i64 9) h) else (Q (.int .i64 0) h))))
theorem disk_Disk_use.calls (d_b d_o : Nat) (p1 : Int) {h : Hp} {Q : Value → Hp → Prop} (hW : disk_Disk_use.W d_b d_o p1 h Q) : CallsH Tryd.prog 73 #[.pointer (some ⟨d_b, d_o, none⟩), .int .i64 p1] h Q := by
  have hE_ : bodyW Tryd.prog disk_Disk_use.H Tryd.f73 [.ptr d_b d_o, .val (.int .i64 p1)] h Q = disk_Disk_use.W d_b d_o p1 h Q := by kernel_rfl
  rw [← hE_] at hW
  exact calls_of_body (H := disk_Disk_use.H) (args := [.ptr d_b d_o, .val (.int .i64 p1)]) Tryd.func73 Tryd.ntmps73 rfl rfl hW

def disk_Disk_Read.H : Hints := { N := 42, loc := (fun i => Nat.beq i 9 || false), join := (fun _ => none), loop := (fun i => bif Nat.beq i 6 then some [.slot 7 (.str), .slot 28 (.int .i64)] else none), ifc := 0, order := (fun _ => none) }
def disk_Disk_Read.W (d_b d_o : Nat) (p1 : Int) (h : Hp) (Q : Value → Hp → Prop) : Prop :=
  (CallsH Tryd.prog 73 (#[.pointer (some ⟨d_b, d_o, none⟩), .int .i64 p1]) (h) (fun v1 h2 => ∃ n3, (v1 = .int .i64 n3) ∧ bif hb (n3 != 0) then (Q (.tuple #[.string (bytesL []), .int .i64 n3]) h2) else (∃ a4, ∃ k5, ∃ k6, (h2.cell d_b d_o = some (.slice a4 k5 k6)) ∧ (0 ≤ p1) ∧ (p1 < Int.ofNat k5) ∧ ∃ k7, ∃ k8, (a4 = some ⟨k7, k8, none⟩) ∧ ∃ s9, (h2.cell k7 (k8 + p1.toNat * 1) = some (.string s9)) ∧ ∃ a10, ∃ k11, ∃ k12, (h2.cell d_b (d_o + 1) = some (.slice a10 k11 k12)) ∧ ∃ (J13 : ByteArray → Int → Hp → Nat → Prop), (∃ k14, J13 s9 0 h2 k14) ∧ ∀ (s15 : ByteArray), ∀ (n16 : Int), ∀ (x17 : Hp), ∀ (k18 : Nat), (J13 s15 n16 x17 k18) → (bif hb (decide (n16 < Int.ofNat k11)) then ((0 ≤ n16) ∧ (n16 < Int.ofNat k11) ∧ ∃ k19, ∃ k20, (a10 = some ⟨k19, k20, none⟩) ∧ ∃ n21, (x17.cell k19 (k20 + n16.toNat * 2) = some (.int .i64 n21)) ∧ ∃ s22, (x17.cell k19 (k20 + n16.toNat * 2 + 1) = some (.string s22)) ∧ bif hb (n21 == p1) && (beqS s22 s22 && true) then (∃ k23, (k23 < k18) ∧ J13 s22 (IntKind.i64.wrap (n16 + 1)) x17 k23) else (∃ k24, (k24 < k18) ∧ J13 s15 (IntKind.i64.wrap (n16 + 1)) x17 k24)) else (Q (.tuple #[.string s15, .int .i64 0]) x17)))))
theorem disk_Disk_Read.calls (d_b d_o : Nat) (p1 : Int) {h : Hp} {Q : Value → Hp → Prop} (hW : disk_Disk_Read.W d_b d_o p1 h Q) : CallsH Tryd.prog 49 #[.pointer (some ⟨d_b, d_o, none⟩), .int .i64 p1] h Q := by
  have hE_ : bodyW Tryd.prog disk_Disk_Read.H Tryd.f49 [.ptr d_b d_o, .val (.int .i64 p1)] h Q = disk_Disk_Read.W d_b d_o p1 h Q := by kernel_rfl
  rw [← hE_] at hW
  exact calls_of_body (H := disk_Disk_Read.H) (args := [.ptr d_b d_o, .val (.int .i64 p1)]) Tryd.func49 Tryd.ntmps49 rfl rfl hW

def disk_Disk_Flush_1.H : Hints := { N := 3, loc := (fun _ => false), join := (fun _ => none), loop := (fun _ => none), ifc := 0, order := (fun _ => none) }
def disk_Disk_Flush_1.W (p0 : Int) (h : Hp) (Q : Value → Hp → Prop) : Prop :=
  (Q (.bool true) h)
theorem disk_Disk_Flush_1.calls (p0 : Int) {h : Hp} {Q : Value → Hp → Prop} (hW : disk_Disk_Flush_1.W p0 h Q) : CallsH Tryd.prog 84 #[.int .i64 p0] h Q := by
  have hE_ : bodyW Tryd.prog disk_Disk_Flush_1.H Tryd.f84 [.val (.int .i64 p0)] h Q = disk_Disk_Flush_1.W p0 h Q := by kernel_rfl
  rw [← hE_] at hW
  exact calls_of_body (H := disk_Disk_Flush_1.H) (args := [.val (.int .i64 p0)]) Tryd.func84 Tryd.ntmps84 rfl rfl hW

def disk_Disk_settle_1f84.H : Hints := { N := 32, loc := (fun i => Nat.beq i 5 || false), join := (fun _ => none), loop := (fun i => bif Nat.beq i 1 then some [.slot 11 (.int .i64)] else none), ifc := 0, order := (fun i => bif Nat.beq i 4 then some (some 9, false, [0, 1, 2, 3, 4, 5, 6, 7, 8, 9], .q 0 (.q 1 (.q 2 (.q 3 (.q 4 (.q 5 (.q 6 (.q 7 (.q 8 (.f 9 (.done) .e)))))))))) else none) }
def disk_Disk_settle_1f84.W (d_b d_o : Nat) (h : Hp) (Q : Value → Hp → Prop) : Prop :=
  (∃ a1, ∃ k2, ∃ k3, (h.cell d_b (d_o + 1) = some (.slice a1 k2 k3)) ∧ ∃ (J4 : Int → Hp → Nat → Prop), (∃ k5, J4 0 h k5) ∧ ∀ (n6 : Int), ∀ (x7 : Hp), ∀ (k8 : Nat), (J4 n6 x7 k8) → (bif hb (decide (n6 < Int.ofNat k2)) then ((0 ≤ n6) ∧ (n6 < Int.ofNat k2) ∧ ∃ k9, ∃ k10, (a1 = some ⟨k9, k10, none⟩) ∧ ∃ n11, (x7.cell k9 (k10 + n6.toNat * 2) = some (.int .i64 n11)) ∧ ∃ s12, (x7.cell k9 (k10 + n6.toNat * 2 + 1) = some (.string s12)) ∧ CallsH Tryd.prog 84 (#[.int .i64 n6]) (x7) (fun v13 h14 => ∃ b15, (v13 = .bool b15) ∧ bif b15 then (∃ a16, ∃ k17, ∃ k18, (h14.cell d_b d_o = some (.slice a16 k17 k18)) ∧ (0 ≤ n11) ∧ (n11 < Int.ofNat k17) ∧ ∃ k19, ∃ k20, (a16 = some ⟨k19, k20, none⟩) ∧ (StoreOk h14 k19 (k20 + n11.toNat * 1) 1) ∧ ∃ k21, (k21 < k8) ∧ J4 (IntKind.i64.wrap (n6 + 1)) (h14.put k19 (k20 + n11.toNat * 1) [.string s12]) k21) else (∃ k22, (k22 < k8) ∧ J4 (IntKind.i64.wrap (n6 + 1)) h14 k22))) else ((StoreOk x7 d_b (d_o + 1) 1) ∧ Q (.tuple #[]) (x7.put d_b (d_o + 1) [.slice none 0 0]))))
theorem disk_Disk_settle_1f84.calls (d_b d_o : Nat) {h : Hp} {Q : Value → Hp → Prop} (hW : disk_Disk_settle_1f84.W d_b d_o h Q) : CallsH Tryd.prog 83 #[.pointer (some ⟨d_b, d_o, none⟩), .func (.func 84) #[] #[]] h Q := by
  have hE_ : bodyW Tryd.prog disk_Disk_settle_1f84.H Tryd.f83 [.ptr d_b d_o, .val (.func (.func 84) #[] #[])] h Q = disk_Disk_settle_1f84.W d_b d_o h Q := by kernel_rfl
  rw [← hE_] at hW
  exact calls_of_body (H := disk_Disk_settle_1f84.H) (args := [.ptr d_b d_o, .val (.func (.func 84) #[] #[])]) Tryd.func83 Tryd.ntmps83 rfl rfl hW

def journal_Need.H : Hints := { N := 12, loc := (fun _ => false), join := (fun _ => none), loop := (fun _ => none), ifc := 0, order := (fun _ => none) }
def journal_Need.W (pages : Int) (h : Hp) (Q : Value → Hp → Prop) : Prop :=
  (bif hb (decide (pages < 1)) then (Q (.int .i64 0) h) else (bif hb (decide (pages > 128)) then (Q (.int .i64 0) h) else (Q (.int .i64 (IntKind.i64.wrap (IntKind.i64.wrap (8 * pages) + 1))) h)))
theorem journal_Need.calls (pages : Int) {h : Hp} {Q : Value → Hp → Prop} (hW : journal_Need.W pages h Q) : CallsH Tryd.prog 47 #[.int .i64 pages] h Q := by
  have hE_ : bodyW Tryd.prog journal_Need.H Tryd.f47 [.val (.int .i64 pages)] h Q = journal_Need.W pages h Q := by kernel_rfl
  rw [← hE_] at hW
  exact calls_of_body (H := journal_Need.H) (args := [.val (.int .i64 pages)]) Tryd.func47 Tryd.ntmps47 rfl rfl hW

def journal_Journal_own.H : Hints := { N := 13, loc := (fun _ => false), join := (fun _ => none), loop := (fun _ => none), ifc := 0, order := (fun _ => none) }
def journal_Journal_own.W (j_b j_o : Nat) (i : Int) (h : Hp) (Q : Value → Hp → Prop) : Prop :=
  (∃ n1, (h.cell j_b (j_o + 1) = some (.int .i64 n1)) ∧ Q (.int .i64 (IntKind.i64.wrap (1 + IntKind.i64.wrap (4 * IntKind.i64.wrap (n1 + i))))) h)
theorem journal_Journal_own.calls (j_b j_o : Nat) (i : Int) {h : Hp} {Q : Value → Hp → Prop} (hW : journal_Journal_own.W j_b j_o i h Q) : CallsH Tryd.prog 53 #[.pointer (some ⟨j_b, j_o, none⟩), .int .i64 i] h Q := by
  have hE_ : bodyW Tryd.prog journal_Journal_own.H Tryd.f53 [.ptr j_b j_o, .val (.int .i64 i)] h Q = journal_Journal_own.W j_b j_o i h Q := by kernel_rfl
  rw [← hE_] at hW
  exact calls_of_body (H := journal_Journal_own.H) (args := [.ptr j_b j_o, .val (.int .i64 i)]) Tryd.func53 Tryd.ntmps53 rfl rfl hW

def journal_Journal_Pages.H : Hints := { N := 9, loc := (fun _ => false), join := (fun _ => none), loop := (fun _ => none), ifc := 0, order := (fun _ => none) }
def journal_Journal_Pages.W (j_b j_o : Nat) (h : Hp) (Q : Value → Hp → Prop) : Prop :=
  (∃ n1, (h.cell j_b (j_o + 1) = some (.int .i64 n1)) ∧ Q (.int .i64 n1) h)
theorem journal_Journal_Pages.calls (j_b j_o : Nat) {h : Hp} {Q : Value → Hp → Prop} (hW : journal_Journal_Pages.W j_b j_o h Q) : CallsH Tryd.prog 56 #[.pointer (some ⟨j_b, j_o, none⟩)] h Q := by
  have hE_ : bodyW Tryd.prog journal_Journal_Pages.H Tryd.f56 [.ptr j_b j_o] h Q = journal_Journal_Pages.W j_b j_o h Q := by kernel_rfl
  rw [← hE_] at hW
  exact calls_of_body (H := journal_Journal_Pages.H) (args := [.ptr j_b j_o]) Tryd.func56 Tryd.ntmps56 rfl rfl hW

def journal_Journal_Read.H : Hints := { N := 25, loc := (fun _ => false), join := (fun _ => none), loop := (fun _ => none), ifc := 0, order := (fun _ => none) }
def journal_Journal_Read.W (j_b j_o : Nat) (page : Int) (h : Hp) (Q : Value → Hp → Prop) : Prop :=
  (bif hb (decide (page < 0)) then (Q (.tuple #[.string (bytesL []), .int .i64 9]) h) else (∃ n1, (h.cell j_b (j_o + 1) = some (.int .i64 n1)) ∧ bif hb (decide (page ≥ n1)) then (Q (.tuple #[.string (bytesL []), .int .i64 9]) h) else (CallsH Tryd.prog 53 (#[.pointer (some ⟨j_b, j_o, none⟩), .int .i64 page]) (h) (fun v2 h3 => ∃ n4, (v2 = .int .i64 n4) ∧ CallsH Tryd.prog 51 (#[.pointer (some ⟨j_b, j_o, none⟩), .int .i64 n4]) (h3) (fun v5 h6 => ∃ s7, ∃ n8, (v5 = .tuple #[.string s7, .int .i64 n8]) ∧ Q (.tuple #[.string s7, .int .i64 n8]) h6)))))
theorem journal_Journal_Read.calls (j_b j_o : Nat) (page : Int) {h : Hp} {Q : Value → Hp → Prop} (hW : journal_Journal_Read.W j_b j_o page h Q) : CallsH Tryd.prog 57 #[.pointer (some ⟨j_b, j_o, none⟩), .int .i64 page] h Q := by
  have hE_ : bodyW Tryd.prog journal_Journal_Read.H Tryd.f57 [.ptr j_b j_o, .val (.int .i64 page)] h Q = journal_Journal_Read.W j_b j_o page h Q := by kernel_rfl
  rw [← hE_] at hW
  exact calls_of_body (H := journal_Journal_Read.H) (args := [.ptr j_b j_o, .val (.int .i64 page)]) Tryd.func57 Tryd.ntmps57 rfl rfl hW

def journal_Journal_look.H : Hints := { N := 33, loc := (fun _ => false), join := (fun _ => none), loop := (fun i => bif Nat.beq i 3 then some [.slot 6 (.slice), .slot 10 (.int .i64)] else none), ifc := 0, order := (fun _ => none) }
def journal_Journal_look.W (j_b j_o : Nat) (p1 : Int) (h : Hp) (Q : Value → Hp → Prop) : Prop :=
  (∃ (J1 : Option Addr → Nat → Nat → Int → Hp → Nat → Prop), (∃ k2, J1 none 0 0 0 h k2) ∧ ∀ (a3 : Option Addr), ∀ (k4 : Nat), ∀ (k5 : Nat), ∀ (n6 : Int), ∀ (x7 : Hp), ∀ (k8 : Nat), (J1 a3 k4 k5 n6 x7 k8) → (bif hb (decide (n6 < 4)) then (∃ a9, (x7.cell j_b j_o = some (.pointer a9)) ∧ CallsH Tryd.prog 49 (#[.pointer a9, .int .i64 (IntKind.i64.wrap (p1 + n6))]) (x7) (fun v10 h11 => ∃ s12, ∃ n13, (v10 = .tuple #[.string s12, .int .i64 n13]) ∧ bif hb (n13 != 0) then (Q (.tuple #[.string (bytesL []), .int .i64 n13]) h11) else (∃ (J14 : Option Addr → Nat → Hp → Prop), (∀ (a15 : Option Addr), ∀ (k16 : Nat), ∀ (x17 : Hp), (J14 a15 k16 x17) → (∃ k18, (k18 < k8) ∧ J1 a15 (k4 + s12.size) k16 (IntKind.i64.wrap (n6 + 1)) x17 k18)) ∧ appendC Tryd.prog 5 a3 k4 k5 h11 (bytesV s12) s12.size J14))) else (∃ s19, (SliceAt (x7) (a3) (k4) (bytesV s19)) ∧ Q (.tuple #[.string s19, .int .i64 0]) x7)))
theorem journal_Journal_look.calls (j_b j_o : Nat) (p1 : Int) {h : Hp} {Q : Value → Hp → Prop} (hW : journal_Journal_look.W j_b j_o p1 h Q) : CallsH Tryd.prog 51 #[.pointer (some ⟨j_b, j_o, none⟩), .int .i64 p1] h Q := by
  have hE_ : bodyW Tryd.prog journal_Journal_look.H Tryd.f51 [.ptr j_b j_o, .val (.int .i64 p1)] h Q = journal_Journal_look.W j_b j_o p1 h Q := by kernel_rfl
  rw [← hE_] at hW
  exact calls_of_body (H := journal_Journal_look.H) (args := [.ptr j_b j_o, .val (.int .i64 p1)]) Tryd.func51 Tryd.ntmps51 rfl rfl hW

def journal_told.H : Hints := { N := 4, loc := (fun _ => false), join := (fun _ => none), loop := (fun _ => none), ifc := 0, order := (fun _ => none) }
def journal_told.W (mark : ByteArray) (h : Hp) (Q : Value → Hp → Prop) : Prop :=
  (∀ (k1 : Nat), ((h k1 = none) → (Q (.func (Fn.func 74) #[] #[.pointer (some ⟨k1, 0, none⟩)]) (h.upd k1 (.cells #[.string mark] 9 (0, 0))))))
theorem journal_told.calls (mark : ByteArray) {h : Hp} {Q : Value → Hp → Prop} (hW : journal_told.W mark h Q) : CallsH Tryd.prog 50 #[.string mark] h Q := by
  have hE_ : bodyW Tryd.prog journal_told.H Tryd.f50 [.val (.string mark)] h Q = journal_told.W mark h Q := by kernel_rfl
  rw [← hE_] at hW
  exact calls_of_body (H := journal_told.H) (args := [.val (.string mark)]) Tryd.func50 Tryd.ntmps50 rfl rfl hW

end Go.Proofs.YthbogjbcecmopaaDoor
namespace Go.Proofs.YthbogjbcecmopaaDoor
open Go.Gx
set_option maxRecDepth 100000
set_option linter.unusedVariables false

def journal_Open.H : Hints := { N := 78, loc := (fun _ => false), join := (fun _ => none), loop := (fun _ => none), ifc := 0, order := (fun i => bif Nat.beq i 1 then some (some 7, false, [0, 1, 2, 3, 4, 6, 5, 7, 8, 9], .q 0 (.f 1 (.q 2 (.q 3 (.q 4 (.q 6 (.f 5 (.f 7 (.q 8 (.q 9 .done)) .e) .e))))) .e)) else bif Nat.beq i 14 then some (some 5, false, [0, 1, 2, 4, 3, 5, 6], .q 0 (.q 1 (.q 2 (.q 4 (.f 3 (.f 5 (.q 6 .done) .e) .e))))) else bif Nat.beq i 21 then some (some 5, true, [0, 1, 2, 3, 4, 5, 6], .q 0 (.q 1 (.f 2 (.f 3 (.f 4 (.f 5 (.q 6 .done) .e) .e) .e) .e))) else none), iter := 74 }
def journal_Open.W (d_b d_o : Nat) (pages : Int) (h : Hp) (Q : Value → Hp → Prop) : Prop :=
  (∀ (k1 : Nat), ((h k1 = none) → (∀ (k2 : Nat), ((h.upd k1 (.cells #[.int .i64 pages] 3 (0, 0)) k2 = none) → (∀ (k3 : Nat), (((h.upd k1 (.cells #[.int .i64 pages] 3 (0, 0))).upd k2 (.cells #[.pointer none] 54 (0, 0)) k3 = none) → (∃ n4, ((((h.upd k1 (.cells #[.int .i64 pages] 3 (0, 0))).upd k2 (.cells #[.pointer none] 54 (0, 0))).upd k3 (.cells #[.int .i64 0] 34 (0, 0))).cell k1 0 = some (.int .i64 n4)) ∧ CallsH Tryd.prog 47 (#[.int .i64 n4]) (((h.upd k1 (.cells #[.int .i64 pages] 3 (0, 0))).upd k2 (.cells #[.pointer none] 54 (0, 0))).upd k3 (.cells #[.int .i64 0] 34 (0, 0))) (fun v5 h6 => ∃ n7, (v5 = .int .i64 n7) ∧ (Gx.Sub (((h.upd k1 (.cells #[.int .i64 pages] 3 (0, 0))).upd k2 (.cells #[.pointer none] 54 (0, 0))).upd k3 (.cells #[.int .i64 0] 34 (0, 0))) h6) ∧ bif hb (n7 == 0) then ((Gx.Sub (((h.upd k1 (.cells #[.int .i64 pages] 3 (0, 0))).upd k2 (.cells #[.pointer none] 54 (0, 0))).upd k3 (.cells #[.int .i64 0] 34 (0, 0))) h6) ∧ (StoreOk h6 k2 0 1) ∧ (StoreOk (h6.put k2 0 [.pointer none]) k3 0 1) ∧ ∃ a8, (((h6.put k2 0 [.pointer none]).put k3 0 [.int .i64 1]).cell k2 0 = some (.pointer a8)) ∧ ∃ n9, (((h6.put k2 0 [.pointer none]).put k3 0 [.int .i64 1]).cell k3 0 = some (.int .i64 n9)) ∧ Q (.tuple #[.pointer a8, .int .i64 n9]) ((h6.put k2 0 [.pointer none]).put k3 0 [.int .i64 1])) else (∃ n10, ((((h.upd k1 (.cells #[.int .i64 pages] 3 (0, 0))).upd k2 (.cells #[.pointer none] 54 (0, 0))).upd k3 (.cells #[.int .i64 0] 34 (0, 0))).cell k1 0 = some (.int .i64 n10)) ∧ CallsH Tryd.prog 48 (#[.pointer (some ⟨d_b, d_o, none⟩)]) (h6) (fun v11 h12 => ∃ n13, (v11 = .int .i64 n13) ∧ (Gx.Sub (((h.upd k1 (.cells #[.int .i64 pages] 3 (0, 0))).upd k2 (.cells #[.pointer none] 54 (0, 0))).upd k3 (.cells #[.int .i64 0] 34 (0, 0))) h12) ∧ CallsH Tryd.prog 47 (#[.int .i64 n10]) (h12) (fun v14 h15 => ∃ n16, (v14 = .int .i64 n16) ∧ bif hb (decide (n13 < n16)) then ((StoreOk h15 k2 0 1) ∧ (StoreOk (h15.put k2 0 [.pointer none]) k3 0 1) ∧ ∃ a17, (((h15.put k2 0 [.pointer none]).put k3 0 [.int .i64 1]).cell k2 0 = some (.pointer a17)) ∧ ∃ n18, (((h15.put k2 0 [.pointer none]).put k3 0 [.int .i64 1]).cell k3 0 = some (.int .i64 n18)) ∧ Q (.tuple #[.pointer a17, .int .i64 n18]) ((h15.put k2 0 [.pointer none]).put k3 0 [.int .i64 1])) else (CallsH Tryd.prog 49 (#[.pointer (some ⟨d_b, d_o, none⟩), .int .i64 0]) (h15) (fun v19 h20 => ∃ s21, ∃ n22, (v19 = .tuple #[.string s21, .int .i64 n22]) ∧ bif hb (n22 != 0) then ((StoreOk h20 k2 0 1) ∧ (StoreOk (h20.put k2 0 [.pointer none]) k3 0 1) ∧ ∃ a23, (((h20.put k2 0 [.pointer none]).put k3 0 [.int .i64 n22]).cell k2 0 = some (.pointer a23)) ∧ ∃ n24, (((h20.put k2 0 [.pointer none]).put k3 0 [.int .i64 n22]).cell k3 0 = some (.int .i64 n24)) ∧ Q (.tuple #[.pointer a23, .int .i64 n24]) ((h20.put k2 0 [.pointer none]).put k3 0 [.int .i64 n22])) else (∃ n25, (h20.cell k1 0 = some (.int .i64 n25)) ∧ ∀ (k26 : Nat), (h20 k26 = none) → (∀ (k27 : Nat), (h20.upd k26 (.cells (setL (setL [.pointer none, .int .i64 0] 0 [.pointer (some ⟨d_b, d_o, none⟩)]) 1 [.int .i64 n25]).toArray 109 (0, 0)) k27 = none) → ((StoreOk ((h20.upd k26 (.cells #[.pointer (some ⟨d_b, d_o, none⟩), .int .i64 n25] 109 (0, 0))).upd k27 (.cells #[.pointer none] 54 (0, 0))) k27 0 1) ∧ ∀ (k28 : Nat), (((h20.upd k26 (.cells (setL (setL [.pointer none, .int .i64 0] 0 [.pointer (some ⟨d_b, d_o, none⟩)]) 1 [.int .i64 n25]).toArray 109 (0, 0))).upd k27 (.cells #[.pointer none] 54 (0, 0))).put k27 0 [.pointer (some ⟨k26, 0, none⟩)] k28 = none) → ((StoreOk ((((h20.upd k26 (.cells #[.pointer (some ⟨d_b, d_o, none⟩), .int .i64 n25] 109 (0, 0))).upd k27 (.cells #[.pointer none] 54 (0, 0))).put k27 0 [.pointer (some ⟨k26, 0, none⟩)]).upd k28 (.cells #[.bool false] 4 (0, 0))) k28 0 1) ∧ CallsH Tryd.prog 50 (#[.string s21]) (((((h20.upd k26 (.cells #[.pointer (some ⟨d_b, d_o, none⟩), .int .i64 n25] 109 (0, 0))).upd k27 (.cells #[.pointer none] 54 (0, 0))).put k27 0 [.pointer (some ⟨k26, 0, none⟩)]).upd k28 (.cells #[.bool false] 4 (0, 0))).put k28 0 [.bool false]) (fun v29 h30 => ∃ (v31 : Value), (v29 = v31) ∧ ∃ (xs32 : List Value), (v31 = .func (Fn.func 74) #[] xs32.toArray) ∧ ∃ (J33 : Nat → List Value → Prop), ∃ (J34 : Nat → Prop), ∃ (J35 : Hp → Prop), ∃ (J36 : Nat → Hp → Prop), ∃ (J37 : Nat → Hp → Prop), (IterH Tryd.prog 74 xs32 J33 J34 J35) ∧ (∀ (x38 : Hp), ∀ (k39 : Nat), ∀ (x40 : Obj), (x38 k39 = none) → ((J35 x38) → (J35 (x38.upd k39 x40)))) ∧ (∀ (k41 : Nat), ∀ (x42 : Hp), (J36 k41 x42) → (J35 x42)) ∧ (J36 0 h30) ∧ (∀ (k43 : Nat), ∀ (xs44 : List Value), (J33 k43 xs44) → (∃ n45, xs44 = [.int .i64 n45])) ∧ (∀ (k46 : Nat), ∀ (n47 : Int), (J33 k46 [.int .i64 n47]) → (∀ (x48 : Hp), (J36 k46 x48) → (∃ n49, (x48.cell k1 0 = some (.int .i64 n49)) ∧ bif hb (decide (n47 ≥ n49)) then (J36 (k46 + 1) x48) else ((StoreOk x48 k28 0 1) ∧ ∃ a50, ((x48.put k28 0 [.bool true]).cell k27 0 = some (.pointer a50)) ∧ CallsH Tryd.prog 51 (#[.pointer a50, .int .i64 (IntKind.i64.wrap (1 + IntKind.i64.wrap (4 * n47)))]) (x48.put k28 0 [.bool true]) (fun v51 h52 => ∃ s53, ∃ n54, (v51 = .tuple #[.string s53, .int .i64 n54]) ∧ bif hb (n54 == 0) then (∃ a55, (h52.cell k27 0 = some (.pointer a55)) ∧ ∃ a56, (h52.cell k27 0 = some (.pointer a56)) ∧ CallsH Tryd.prog 53 (#[.pointer a56, .int .i64 n47]) (h52) (fun v57 h58 => ∃ n59, (v57 = .int .i64 n59) ∧ (Gx.Sub h52 h58) ∧ CallsH Tryd.prog 52 (#[.pointer a55, .int .i64 n59, .string s53]) (h58) (fun v60 h61 => ∃ n62, (v60 = .int .i64 n62) ∧ bif hb (n62 != 0) then ((StoreOk h61 k2 0 1) ∧ (StoreOk (h61.put k2 0 [.pointer none]) k3 0 1) ∧ J37 0 ((h61.put k2 0 [.pointer none]).put k3 0 [.int .i64 n62])) else (J36 (k46 + 1) h61)))) else (bif hb (n54 != 0) then ((StoreOk h52 k2 0 1) ∧ (StoreOk (h52.put k2 0 [.pointer none]) k3 0 1) ∧ J37 0 ((h52.put k2 0 [.pointer none]).put k3 0 [.int .i64 n54])) else (J36 (k46 + 1) h52))))))) ∧ (∀ (k63 : Nat), ∀ (x64 : Hp), (J36 k63 x64) → ((J34 k63) → (∀ (k65 : Nat), (x64 k65 = none) → (∃ b66, ((x64.upd k65 (Obj.deferred (some []))).cell k28 0 = some (.bool b66)) ∧ bif b66 then (∃ a67, ((x64.upd k65 (Obj.deferred (some []))).cell k27 0 = some (.pointer a67)) ∧ CallsH Tryd.prog 54 (#[.pointer a67, .int .i64 0]) (x64.upd k65 (Obj.deferred (some []))) (fun v68 h69 => ∃ n70, (v68 = .int .i64 n70) ∧ bif hb (n70 != 0) then ((StoreOk h69 k2 0 1) ∧ (StoreOk (h69.put k2 0 [.pointer none]) k3 0 1) ∧ ((h69.put k2 0 [.pointer none]).put k3 0 [.int .i64 n70] k65 = some (Obj.deferred (some []))) ∧ ∃ a71, ((((h69.put k2 0 [.pointer none]).put k3 0 [.int .i64 n70]).del k65).cell k2 0 = some (.pointer a71)) ∧ ∃ n72, ((((h69.put k2 0 [.pointer none]).put k3 0 [.int .i64 n70]).del k65).cell k3 0 = some (.int .i64 n72)) ∧ Q (.tuple #[.pointer a71, .int .i64 n72]) (((h69.put k2 0 [.pointer none]).put k3 0 [.int .i64 n70]).del k65)) else (∃ (J73 : Hp), (Gx.Sub J73 h69) ∧ ∃ a74, (J73.cell k27 0 = some (.pointer a74)) ∧ (Int.ofNat 0 ≤ 256) ∧ (Int.ofNat 256 ≤ 256) ∧ (Int.ofNat 1 * 256 ≤ 281474976710656) ∧ (Int.ofNat 256 ≤ 9223372036854775807) ∧ ∀ (k75 : Nat), (h69 k75 = none) → ((Gx.Sub J73 (h69.upd k75 (.cells (repV 256 [.int .u8 0]).toArray 5 (0, 0)))) ∧ ∃ s76, (SliceAt (h69.upd k75 (.cells (repV 256 [.int .u8 0]).toArray 5 (0, 0))) (some ⟨k75, 0, none⟩) (256) (bytesV s76)) ∧ (Gx.Sub J73 (h69.upd k75 (.cells (repV 256 [.int .u8 0]).toArray 5 (0, 0)))) ∧ CallsH Tryd.prog 55 (#[.pointer (some ⟨d_b, d_o, none⟩), .int .i64 0, .string s76]) (h69.upd k75 (.cells (repV 256 [.int .u8 0]).toArray 5 (0, 0))) (fun v77 h78 => ∃ n79, (v77 = .int .i64 n79) ∧ (Gx.Sub J73 h78) ∧ CallsH Tryd.prog 54 (#[.pointer a74, .int .i64 n79]) (h78) (fun v80 h81 => ∃ n82, (v80 = .int .i64 n82) ∧ bif hb (n82 != 0) then ((StoreOk h81 k2 0 1) ∧ (StoreOk (h81.put k2 0 [.pointer none]) k3 0 1) ∧ ((h81.put k2 0 [.pointer none]).put k3 0 [.int .i64 n82] k65 = some (Obj.deferred (some []))) ∧ ∃ a83, ((((h81.put k2 0 [.pointer none]).put k3 0 [.int .i64 n82]).del k65).cell k2 0 = some (.pointer a83)) ∧ ∃ n84, ((((h81.put k2 0 [.pointer none]).put k3 0 [.int .i64 n82]).del k65).cell k3 0 = some (.int .i64 n84)) ∧ Q (.tuple #[.pointer a83, .int .i64 n84]) (((h81.put k2 0 [.pointer none]).put k3 0 [.int .i64 n82]).del k65)) else (∃ a85, (h81.cell k27 0 = some (.pointer a85)) ∧ (StoreOk h81 k2 0 1) ∧ (StoreOk (h81.put k2 0 [.pointer a85]) k3 0 1) ∧ ((h81.put k2 0 [.pointer a85]).put k3 0 [.int .i64 0] k65 = some (Obj.deferred (some []))) ∧ ∃ a86, ((((h81.put k2 0 [.pointer a85]).put k3 0 [.int .i64 0]).del k65).cell k2 0 = some (.pointer a86)) ∧ ∃ n87, ((((h81.put k2 0 [.pointer a85]).put k3 0 [.int .i64 0]).del k65).cell k3 0 = some (.int .i64 n87)) ∧ Q (.tuple #[.pointer a86, .int .i64 n87]) (((h81.put k2 0 [.pointer a85]).put k3 0 [.int .i64 0]).del k65)))))))) else (∃ a88, ((x64.upd k65 (Obj.deferred (some []))).cell k27 0 = some (.pointer a88)) ∧ (StoreOk (x64.upd k65 (Obj.deferred (some []))) k2 0 1) ∧ (StoreOk ((x64.upd k65 (Obj.deferred (some []))).put k2 0 [.pointer a88]) k3 0 1) ∧ (((x64.upd k65 (Obj.deferred (some []))).put k2 0 [.pointer a88]).put k3 0 [.int .i64 0] k65 = some (Obj.deferred (some []))) ∧ ∃ a89, (((((x64.upd k65 (Obj.deferred (some []))).put k2 0 [.pointer a88]).put k3 0 [.int .i64 0]).del k65).cell k2 0 = some (.pointer a89)) ∧ ∃ n90, (((((x64.upd k65 (Obj.deferred (some []))).put k2 0 [.pointer a88]).put k3 0 [.int .i64 0]).del k65).cell k3 0 = some (.int .i64 n90)) ∧ Q (.tuple #[.pointer a89, .int .i64 n90]) ((((x64.upd k65 (Obj.deferred (some []))).put k2 0 [.pointer a88]).put k3 0 [.int .i64 0]).del k65)))))) ∧ (∀ (x91 : Hp), (J37 0 x91) → (∀ (k92 : Nat), (x91 k92 = none) → ((x91.upd k92 (Obj.deferred (some [])) k92 = some (Obj.deferred (some []))) ∧ ∃ a93, (((x91.upd k92 (Obj.deferred (some []))).del k92).cell k2 0 = some (.pointer a93)) ∧ ∃ n94, (((x91.upd k92 (Obj.deferred (some []))).del k92).cell k3 0 = some (.int .i64 n94)) ∧ Q (.tuple #[.pointer a93, .int .i64 n94]) ((x91.upd k92 (Obj.deferred (some []))).del k92)))) ∧ (∀ (x95 : Hp), (J37 2 x95) → (∀ (k96 : Nat), (x95 k96 = none) → False)) ∧ True))))))))))))))))))
theorem journal_Open.calls (d_b d_o : Nat) (pages : Int) {h : Hp} {Q : Value → Hp → Prop} (hW : journal_Open.W d_b d_o pages h Q) : CallsH Tryd.prog 23 #[.pointer (some ⟨d_b, d_o, none⟩), .int .i64 pages] h Q := by
  have hE_ : bodyW Tryd.prog journal_Open.H Tryd.f23 [.ptr d_b d_o, .val (.int .i64 pages)] h Q = journal_Open.W d_b d_o pages h Q := by kernel_rfl
  rw [← hE_] at hW
  exact calls_of_body (H := journal_Open.H) (args := [.ptr d_b d_o, .val (.int .i64 pages)]) Tryd.func23 Tryd.ntmps23 rfl rfl hW

def journal_told_1_0y.H : Hints := { N := 23, loc := (fun _ => false), join := (fun _ => none), loop := (fun i => bif Nat.beq i 1 then some [.slot 4 (.int .i64)] else none), ifc := 0, order := (fun _ => none) }
def journal_told_1_0y.W (yield_l : Nat) (p1_b p1_o : Nat) (h : Hp) (Q : Value → Hp → Prop) : Prop :=
  (∃ (J1 : Int → Hp → Nat → Prop), (∃ k2, J1 0 h k2) ∧ ∀ (n3 : Int), ∀ (x4 : Hp), ∀ (k5 : Nat), (J1 n3 x4 k5) → (bif hb (decide (n3 < 128)) then (∃ s6, (x4.cell p1_b p1_o = some (.string s6)) ∧ (((8 : Int) = 0) → False) ∧ (0 ≤ IntKind.i64.wrap (n3.tdiv 8)) ∧ (IntKind.i64.wrap (n3.tdiv 8) < Int.ofNat s6.size) ∧ (((8 : Int) = 0) → False) ∧ (0 ≤ n3.tmod 8) ∧ bif hb (IntKind.u8.wrap (iand IntKind.u8 (ishr IntKind.u8 (byteAt s6 (IntKind.i64.wrap (n3.tdiv 8)).toNat) (n3.tmod 8)) 1) == 1) then (YieldH Tryd.prog yield_l ([.int .i64 n3]) (x4) (fun v7 h8 => ∃ b9, (v7 = .bool b9) ∧ bif !b9 then (Q (.tuple #[]) h8) else (∃ k10, (k10 < k5) ∧ J1 (IntKind.i64.wrap (n3 + 1)) h8 k10))) else (∃ k11, (k11 < k5) ∧ J1 (IntKind.i64.wrap (n3 + 1)) x4 k11)) else (Q (.tuple #[]) x4)))
theorem journal_told_1_0y.calls (yield_l : Nat) (p1_b p1_o : Nat) {h : Hp} {Q : Value → Hp → Prop} (hW : journal_told_1_0y.W yield_l p1_b p1_o h Q) : CallsH Tryd.prog 74 #[.func (.yield yield_l) #[] #[], .pointer (some ⟨p1_b, p1_o, none⟩)] h Q := by
  have hE_ : bodyW Tryd.prog journal_told_1_0y.H Tryd.f74 [.val (.func (.yield yield_l) #[] #[]), .ptr p1_b p1_o] h Q = journal_told_1_0y.W yield_l p1_b p1_o h Q := by kernel_rfl
  rw [← hE_] at hW
  exact calls_of_body (H := journal_told_1_0y.H) (args := [.val (.func (.yield yield_l) #[] #[]), .ptr p1_b p1_o]) Tryd.func74 Tryd.ntmps74 rfl rfl hW

end Go.Proofs.YthbogjbcecmopaaDoor
namespace Go.Proofs.YthbogjbcecmopaaDoor
open Go.Gx
set_option maxRecDepth 100000
set_option linter.unusedVariables false

def pager_Open.H : Hints := { N := 34, loc := (fun _ => false), join := (fun _ => none), loop := (fun _ => none), ifc := 0, order := (fun _ => none) }
def pager_Open.W (j_b j_o : Nat) (h : Hp) (Q : Value → Hp → Prop) : Prop :=
  (CallsH Tryd.prog 56 (#[.pointer (some ⟨j_b, j_o, none⟩)]) (h) (fun v1 h2 => ∃ n3, (v1 = .int .i64 n3) ∧ bif hb (decide (n3 < 2)) then (Q (.tuple #[.pointer none, .int .i64 1]) h2) else (CallsH Tryd.prog 57 (#[.pointer (some ⟨j_b, j_o, none⟩), .int .i64 0]) (h2) (fun v4 h5 => ∃ s6, ∃ n7, (v4 = .tuple #[.string s6, .int .i64 n7]) ∧ bif hb (n7 != 0) then (Q (.tuple #[.pointer none, .int .i64 n7]) h5) else (CallsH Tryd.prog 56 (#[.pointer (some ⟨j_b, j_o, none⟩)]) (h5) (fun v8 h9 => ∃ n10, (v8 = .int .i64 n10) ∧ CallsH Tryd.prog 58 (#[.string s6, .int .i64 n10]) (h9) (fun v11 h12 => ∃ (xs13 : List Value), (xs13.length = 133) ∧ ∃ b14, (v11 = .tuple #[.agg xs13.toArray, .bool b14]) ∧ ∀ (k15 : Nat), (h12 k15 = none) → ((xs13.length = 133) ∧ (plainP xs13) ∧ (StoreOk (h12.upd k15 (.cells (zeroL Tryd.prog 87).toArray 87 (0, 0))) k15 0 xs13.length) ∧ bif !b14 then (Q (.tuple #[.pointer none, .int .i64 4]) ((h12.upd k15 (.cells (zeroL Tryd.prog 87).toArray 87 (0, 0))).put k15 0 xs13)) else (∃ (xs16 : List Value), (xs16.length = 133) ∧ (CellsAt ((h12.upd k15 (.cells (zeroL Tryd.prog 87).toArray 87 (0, 0))).put k15 0 xs13) k15 0 xs16) ∧ ∃ (xs17 : List Value), (xs17.length = 133) ∧ (CellsAt ((h12.upd k15 (.cells (zeroL Tryd.prog 87).toArray 87 (0, 0))).put k15 0 xs13) k15 0 xs17) ∧ ∀ (k18 : Nat), ((h12.upd k15 (.cells (zeroL Tryd.prog 87).toArray 87 (0, 0))).put k15 0 xs13 k18 = none) → (∀ (x19 : Obj), (MapObj Tryd.prog 3 x19 []) → ((1 = 1) ∧ (xs16.length = 133) ∧ (xs17.length = 133) ∧ (1 = 1) ∧ ∀ (k20 : Nat), (((h12.upd k15 (.cells (zeroL Tryd.prog 87).toArray 87 (0, 0))).put k15 0 xs13).upd k18 x19 k20 = none) → (Q (.tuple #[.pointer (some ⟨k20, 0, none⟩), .int .i64 0]) ((((h12.upd k15 (.cells (zeroL Tryd.prog 87).toArray 87 (0, 0))).put k15 0 xs13).upd k18 x19).upd k20 (.cells (setL (setL (setL (setL (zeroL Tryd.prog 91) 0 [.pointer (some ⟨j_b, j_o, none⟩)]) 1 xs16) 134 xs17) 267 [.map (some k18)]).toArray 91 (0, 0)))))))))))))))
theorem pager_Open.calls (j_b j_o : Nat) {h : Hp} {Q : Value → Hp → Prop} (hW : pager_Open.W j_b j_o h Q) : CallsH Tryd.prog 24 #[.pointer (some ⟨j_b, j_o, none⟩)] h Q := by
  have hE_ : bodyW Tryd.prog pager_Open.H Tryd.f24 [.ptr j_b j_o] h Q = pager_Open.W j_b j_o h Q := by kernel_rfl
  rw [← hE_] at hW
  exact calls_of_body (H := pager_Open.H) (args := [.ptr j_b j_o]) Tryd.func24 Tryd.ntmps24 rfl rfl hW

def pager_Pager_Read.H : Hints := { N := 34, loc := (fun _ => false), join := (fun _ => none), loop := (fun _ => none), ifc := 0, order := (fun _ => none) }
def pager_Pager_Read.W (p_b p_o : Nat) (id : Int) (h : Hp) (Q : Value → Hp → Prop) : Prop :=
  (CallsH Tryd.prog 64 (#[.pointer (some ⟨p_b, p_o, none⟩), .int .i64 id]) (h) (fun v1 h2 => ∃ n3, (v1 = .int .i64 n3) ∧ bif hb (n3 != 0) then (Q (.tuple #[.string (bytesL []), .int .i64 n3]) h2) else (∃ (a4 : Option Nat), (h2.cell p_b (p_o + 267) = some (.map a4)) ∧ ∃ k5, ∃ (x6 : Obj), ∃ (xs7 : List (Value × Value)), (a4 = some k5) ∧ (h2 k5 = some x6) ∧ (MapObj Tryd.prog 3 x6 xs7) ∧ ∃ s8, ∃ b9, (LookOk xs7 (.int .i64 id) (.string (bytesL [])) (.string s8) b9) ∧ bif b9 then (Q (.tuple #[.string s8, .int .i64 0]) h2) else (∃ a10, (h2.cell p_b p_o = some (.pointer a10)) ∧ CallsH Tryd.prog 57 (#[.pointer a10, .int .i64 id]) (h2) (fun v11 h12 => ∃ s13, ∃ n14, (v11 = .tuple #[.string s13, .int .i64 n14]) ∧ Q (.tuple #[.string s13, .int .i64 n14]) h12)))))
theorem pager_Pager_Read.calls (p_b p_o : Nat) (id : Int) {h : Hp} {Q : Value → Hp → Prop} (hW : pager_Pager_Read.W p_b p_o id h Q) : CallsH Tryd.prog 62 #[.pointer (some ⟨p_b, p_o, none⟩), .int .i64 id] h Q := by
  have hE_ : bodyW Tryd.prog pager_Pager_Read.H Tryd.f62 [.ptr p_b p_o, .val (.int .i64 id)] h Q = pager_Pager_Read.W p_b p_o id h Q := by kernel_rfl
  rw [← hE_] at hW
  exact calls_of_body (H := pager_Pager_Read.H) (args := [.ptr p_b p_o, .val (.int .i64 id)]) Tryd.func62 Tryd.ntmps62 rfl rfl hW

def pager_Pager_Alloc.H : Hints := { N := 35, loc := (fun _ => false), join := (fun _ => none), loop := (fun i => bif Nat.beq i 4 then some [.slot 4 (.int .i64)] else none), ifc := 0, order := (fun i => bif Nat.beq i 8 then some (some 7, false, [0, 1, 2, 3, 4, 5, 6, 7], .q 0 (.q 1 (.q 2 (.q 3 (.q 4 (.f 5 (.f 6 (.f 7 (.done) .e) .e) .e)))))) else none) }
def pager_Pager_Alloc.W (p_b p_o : Nat) (h : Hp) (Q : Value → Hp → Prop) : Prop :=
  (∃ (J1 : Int → Hp → Nat → Prop), (∃ k2, J1 1 h k2) ∧ ∀ (n3 : Int), ∀ (x4 : Hp), ∀ (k5 : Nat), (J1 n3 x4 k5) → (CallsH Tryd.prog 36 (#[.pointer (some ⟨p_b, p_o, none⟩)]) (x4) (fun v6 h7 => ∃ n8, (v6 = .int .i64 n8) ∧ bif hb (decide (n3 < n8)) then ((0 ≤ n3) ∧ (n3 < 128) ∧ ∃ b9, (h7.cell p_b (p_o + 134 + 5 + n3.toNat * 1) = some (.bool b9)) ∧ bif !b9 then ((0 ≤ n3) ∧ (n3 < 128) ∧ (StoreOk h7 p_b (p_o + 134 + 5 + n3.toNat * 1) 1) ∧ ∃ (a10 : Option Nat), ((h7.put p_b (p_o + 134 + 5 + n3.toNat * 1) [.bool true]).cell p_b (p_o + 267) = some (.map a10)) ∧ (Int.ofNat 0 ≤ 1024) ∧ (Int.ofNat 1024 ≤ 1024) ∧ (Int.ofNat 1 * 1024 ≤ 281474976710656) ∧ (Int.ofNat 1024 ≤ 9223372036854775807) ∧ ∀ (k11 : Nat), (h7.put p_b (p_o + 134 + 5 + n3.toNat * 1) [.bool true] k11 = none) → ((Gx.Sub (h7.put p_b (p_o + 134 + 5 + n3.toNat * 1) [.bool true]) ((h7.put p_b (p_o + 134 + 5 + n3.toNat * 1) [.bool true]).upd k11 (.cells (repV 1024 [.int .u8 0]).toArray 5 (0, 0)))) ∧ ∃ s12, (SliceAt ((h7.put p_b (p_o + 134 + 5 + n3.toNat * 1) [.bool true]).upd k11 (.cells (repV 1024 [.int .u8 0]).toArray 5 (0, 0))) (some ⟨k11, 0, none⟩) (1024) (bytesV s12)) ∧ (Gx.Sub (h7.put p_b (p_o + 134 + 5 + n3.toNat * 1) [.bool true]) ((h7.put p_b (p_o + 134 + 5 + n3.toNat * 1) [.bool true]).upd k11 (.cells (repV 1024 [.int .u8 0]).toArray 5 (0, 0)))) ∧ ∃ k13, ∃ (x14 : Obj), ∃ (xs15 : List (Value × Value)), (a10 = some k13) ∧ ((h7.put p_b (p_o + 134 + 5 + n3.toNat * 1) [.bool true]).upd k11 (.cells (repV 1024 [.int .u8 0]).toArray 5 (0, 0)) k13 = some x14) ∧ (MapObj Tryd.prog 3 x14 xs15) ∧ ∀ (x16 : Obj), (MapObj Tryd.prog 3 x16 (mset xs15 (.int .i64 n3) (.string s12))) → (Q (.tuple #[.int .i64 n3, .int .i64 0]) (((h7.put p_b (p_o + 134 + 5 + n3.toNat * 1) [.bool true]).upd k11 (.cells (repV 1024 [.int .u8 0]).toArray 5 (0, 0))).upd k13 x16)))) else (∃ k17, (k17 < k5) ∧ J1 (IntKind.i64.wrap (n3 + 1)) h7 k17)) else (Q (.tuple #[.int .i64 0, .int .i64 5]) h7))))
theorem pager_Pager_Alloc.calls (p_b p_o : Nat) {h : Hp} {Q : Value → Hp → Prop} (hW : pager_Pager_Alloc.W p_b p_o h Q) : CallsH Tryd.prog 31 #[.pointer (some ⟨p_b, p_o, none⟩)] h Q := by
  have hE_ : bodyW Tryd.prog pager_Pager_Alloc.H Tryd.f31 [.ptr p_b p_o] h Q = pager_Pager_Alloc.W p_b p_o h Q := by kernel_rfl
  rw [← hE_] at hW
  exact calls_of_body (H := pager_Pager_Alloc.H) (args := [.ptr p_b p_o]) Tryd.func31 Tryd.ntmps31 rfl rfl hW

def pager_Pager_Pages.H : Hints := { N := 10, loc := (fun _ => false), join := (fun _ => none), loop := (fun _ => none), ifc := 0, order := (fun _ => none) }
def pager_Pager_Pages.W (p_b p_o : Nat) (h : Hp) (Q : Value → Hp → Prop) : Prop :=
  (∃ a1, (h.cell p_b p_o = some (.pointer a1)) ∧ CallsH Tryd.prog 56 (#[.pointer a1]) (h) (fun v2 h3 => ∃ n4, (v2 = .int .i64 n4) ∧ Q (.int .i64 n4) h3))
theorem pager_Pager_Pages.calls (p_b p_o : Nat) {h : Hp} {Q : Value → Hp → Prop} (hW : pager_Pager_Pages.W p_b p_o h Q) : CallsH Tryd.prog 36 #[.pointer (some ⟨p_b, p_o, none⟩)] h Q := by
  have hE_ : bodyW Tryd.prog pager_Pager_Pages.H Tryd.f36 [.ptr p_b p_o] h Q = pager_Pager_Pages.W p_b p_o h Q := by kernel_rfl
  rw [← hE_] at hW
  exact calls_of_body (H := pager_Pager_Pages.H) (args := [.ptr p_b p_o]) Tryd.func36 Tryd.ntmps36 rfl rfl hW

def pager_Pager_Free.H : Hints := { N := 22, loc := (fun _ => false), join := (fun _ => none), loop := (fun i => bif Nat.beq i 3 then some [.slot 3 (.int .i64), .slot 7 (.int .i64)] else none), ifc := 0, order := (fun _ => none) }
def pager_Pager_Free.W (p_b p_o : Nat) (h : Hp) (Q : Value → Hp → Prop) : Prop :=
  (CallsH Tryd.prog 36 (#[.pointer (some ⟨p_b, p_o, none⟩)]) (h) (fun v1 h2 => ∃ n3, (v1 = .int .i64 n3) ∧ ∃ (J4 : Int → Int → Hp → Nat → Prop), (∃ k5, J4 0 0 h2 k5) ∧ ∀ (n6 : Int), ∀ (n7 : Int), ∀ (x8 : Hp), ∀ (k9 : Nat), (J4 n6 n7 x8 k9) → (bif hb (decide (n7 < n3)) then ((0 ≤ n7) ∧ (n7 < 128) ∧ ∃ b10, (x8.cell p_b (p_o + 134 + 5 + n7.toNat * 1) = some (.bool b10)) ∧ bif !b10 then (∃ k11, (k11 < k9) ∧ J4 (IntKind.i64.wrap (n6 + 1)) (IntKind.i64.wrap (n7 + 1)) x8 k11) else (∃ k12, (k12 < k9) ∧ J4 n6 (IntKind.i64.wrap (n7 + 1)) x8 k12)) else (Q (.int .i64 n6) x8))))
theorem pager_Pager_Free.calls (p_b p_o : Nat) {h : Hp} {Q : Value → Hp → Prop} (hW : pager_Pager_Free.W p_b p_o h Q) : CallsH Tryd.prog 12 #[.pointer (some ⟨p_b, p_o, none⟩)] h Q := by
  have hE_ : bodyW Tryd.prog pager_Pager_Free.H Tryd.f12 [.ptr p_b p_o] h Q = pager_Pager_Free.W p_b p_o h Q := by kernel_rfl
  rw [← hE_] at hW
  exact calls_of_body (H := pager_Pager_Free.H) (args := [.ptr p_b p_o]) Tryd.func12 Tryd.ntmps12 rfl rfl hW

def pager_Pager_Root.H : Hints := { N := 22, loc := (fun _ => false), join := (fun i => bif Nat.beq i 3 then some [] else none), loop := (fun _ => none), ifc := 0, order := (fun _ => none) }
def pager_Pager_Root.W (p_b p_o : Nat) (k : Int) (h : Hp) (Q : Value → Hp → Prop) : Prop :=
  (∃ (J1 : Hp → Prop), (∀ (x2 : Hp), (J1 x2) → ((0 ≤ k) ∧ (k < 4) ∧ ∃ n3, (x2.cell p_b (p_o + 134 + 1 + k.toNat * 1) = some (.int .i64 n3)) ∧ Q (.int .i64 n3) x2)) ∧ bif hb (decide (k < 0)) then (Q (.int .i64 0) h) else (bif hb (decide (k ≥ 4)) then (Q (.int .i64 0) h) else (J1 h)))
theorem pager_Pager_Root.calls (p_b p_o : Nat) (k : Int) {h : Hp} {Q : Value → Hp → Prop} (hW : pager_Pager_Root.W p_b p_o k h Q) : CallsH Tryd.prog 16 #[.pointer (some ⟨p_b, p_o, none⟩), .int .i64 k] h Q := by
  have hE_ : bodyW Tryd.prog pager_Pager_Root.H Tryd.f16 [.ptr p_b p_o, .val (.int .i64 k)] h Q = pager_Pager_Root.W p_b p_o k h Q := by kernel_rfl
  rw [← hE_] at hW
  exact calls_of_body (H := pager_Pager_Root.H) (args := [.ptr p_b p_o, .val (.int .i64 k)]) Tryd.func16 Tryd.ntmps16 rfl rfl hW

def pager_Pager_Used.H : Hints := { N := 22, loc := (fun _ => false), join := (fun _ => none), loop := (fun _ => none), ifc := 0, order := (fun _ => none) }
def pager_Pager_Used.W (p_b p_o : Nat) (id : Int) (h : Hp) (Q : Value → Hp → Prop) : Prop :=
  (bif hb (decide (id ≥ 0)) then (CallsH Tryd.prog 36 (#[.pointer (some ⟨p_b, p_o, none⟩)]) (h) (fun v1 h2 => ∃ n3, (v1 = .int .i64 n3) ∧ bif hb (decide (id < n3)) then ((0 ≤ id) ∧ (id < 128) ∧ ∃ b4, (h2.cell p_b (p_o + 134 + 5 + id.toNat * 1) = some (.bool b4)) ∧ Q (.bool b4) h2) else (Q (.bool false) h2))) else (Q (.bool false) h))
theorem pager_Pager_Used.calls (p_b p_o : Nat) (id : Int) {h : Hp} {Q : Value → Hp → Prop} (hW : pager_Pager_Used.W p_b p_o id h Q) : CallsH Tryd.prog 40 #[.pointer (some ⟨p_b, p_o, none⟩), .int .i64 id] h Q := by
  have hE_ : bodyW Tryd.prog pager_Pager_Used.H Tryd.f40 [.ptr p_b p_o, .val (.int .i64 id)] h Q = pager_Pager_Used.W p_b p_o id h Q := by kernel_rfl
  rw [← hE_] at hW
  exact calls_of_body (H := pager_Pager_Used.H) (args := [.ptr p_b p_o, .val (.int .i64 id)]) Tryd.func40 Tryd.ntmps40 rfl rfl hW

def pager_Pager_Write.H : Hints := { N := 23, loc := (fun _ => false), join := (fun _ => none), loop := (fun _ => none), ifc := 0, order := (fun _ => none) }
def pager_Pager_Write.W (p_b p_o : Nat) (id : Int) (s : ByteArray) (h : Hp) (Q : Value → Hp → Prop) : Prop :=
  (CallsH Tryd.prog 64 (#[.pointer (some ⟨p_b, p_o, none⟩), .int .i64 id]) (h) (fun v1 h2 => ∃ n3, (v1 = .int .i64 n3) ∧ bif hb (n3 != 0) then (Q (.int .i64 n3) h2) else (bif hb (Int.ofNat s.size != 1024) then (Q (.int .i64 1) h2) else (∃ (a4 : Option Nat), (h2.cell p_b (p_o + 267) = some (.map a4)) ∧ ∃ k5, ∃ (x6 : Obj), ∃ (xs7 : List (Value × Value)), (a4 = some k5) ∧ (h2 k5 = some x6) ∧ (MapObj Tryd.prog 3 x6 xs7) ∧ ∀ (x8 : Obj), (MapObj Tryd.prog 3 x8 (mset xs7 (.int .i64 id) (.string s))) → (Q (.int .i64 0) (h2.upd k5 x8))))))
theorem pager_Pager_Write.calls (p_b p_o : Nat) (id : Int) (s : ByteArray) {h : Hp} {Q : Value → Hp → Prop} (hW : pager_Pager_Write.W p_b p_o id s h Q) : CallsH Tryd.prog 66 #[.pointer (some ⟨p_b, p_o, none⟩), .int .i64 id, .string s] h Q := by
  have hE_ : bodyW Tryd.prog pager_Pager_Write.H Tryd.f66 [.ptr p_b p_o, .val (.int .i64 id), .val (.string s)] h Q = pager_Pager_Write.W p_b p_o id s h Q := by kernel_rfl
  rw [← hE_] at hW
  exact calls_of_body (H := pager_Pager_Write.H) (args := [.ptr p_b p_o, .val (.int .i64 id), .val (.string s)]) Tryd.func66 Tryd.ntmps66 rfl rfl hW

def pager_Pager_Give.H : Hints := { N := 30, loc := (fun _ => false), join := (fun _ => none), loop := (fun _ => none), ifc := 0, order := (fun _ => none) }
def pager_Pager_Give.W (p_b p_o : Nat) (id : Int) (h : Hp) (Q : Value → Hp → Prop) : Prop :=
  (CallsH Tryd.prog 64 (#[.pointer (some ⟨p_b, p_o, none⟩), .int .i64 id]) (h) (fun v1 h2 => ∃ n3, (v1 = .int .i64 n3) ∧ bif hb (n3 != 0) then (Q (.int .i64 n3) h2) else (∃ k4, ∃ k5, ((some ⟨p_b, p_o + 134 + 1, none⟩ : Option Addr) = some ⟨k4, k5, none⟩) ∧ CallsH Tryd.prog 65 (#[.slice (slA 4 0 1 (some ⟨k4, k5, none⟩)) 4 4, .int .i64 id]) (h2) (fun v6 h7 => ∃ b8, (v6 = .bool b8) ∧ bif b8 then (Q (.int .i64 8) h7) else ((0 ≤ id) ∧ (id < 128) ∧ (StoreOk h7 p_b (p_o + 134 + 5 + id.toNat * 1) 1) ∧ ∃ (a9 : Option Nat), ((h7.put p_b (p_o + 134 + 5 + id.toNat * 1) [.bool false]).cell p_b (p_o + 267) = some (.map a9)) ∧ ∃ k10, ∃ (x11 : Obj), ∃ (xs12 : List (Value × Value)), (a9 = some k10) ∧ (h7.put p_b (p_o + 134 + 5 + id.toNat * 1) [.bool false] k10 = some x11) ∧ (MapObj Tryd.prog 3 x11 xs12) ∧ ∀ (x13 : Obj), (MapObj Tryd.prog 3 x13 (mdel xs12 (.int .i64 id))) → (Q (.int .i64 0) ((h7.put p_b (p_o + 134 + 5 + id.toNat * 1) [.bool false]).upd k10 x13)))))))
theorem pager_Pager_Give.calls (p_b p_o : Nat) (id : Int) {h : Hp} {Q : Value → Hp → Prop} (hW : pager_Pager_Give.W p_b p_o id h Q) : CallsH Tryd.prog 29 #[.pointer (some ⟨p_b, p_o, none⟩), .int .i64 id] h Q := by
  have hE_ : bodyW Tryd.prog pager_Pager_Give.H Tryd.f29 [.ptr p_b p_o, .val (.int .i64 id)] h Q = pager_Pager_Give.W p_b p_o id h Q := by kernel_rfl
  rw [← hE_] at hW
  exact calls_of_body (H := pager_Pager_Give.H) (args := [.ptr p_b p_o, .val (.int .i64 id)]) Tryd.func29 Tryd.ntmps29 rfl rfl hW

def pager_Pager_Point.H : Hints := { N := 31, loc := (fun _ => false), join := (fun i => bif Nat.beq i 9 then some [] else none), loop := (fun _ => none), ifc := 0, order := (fun _ => none) }
def pager_Pager_Point.W (p_b p_o : Nat) (k : Int) (id : Int) (h : Hp) (Q : Value → Hp → Prop) : Prop :=
  (bif hb (decide (k < 0)) then (Q (.int .i64 9) h) else (bif hb (decide (k ≥ 4)) then (Q (.int .i64 9) h) else (∃ (J1 : Hp → Prop), (∀ (x2 : Hp), (J1 x2) → ((0 ≤ k) ∧ (k < 4) ∧ (StoreOk x2 p_b (p_o + 134 + 1 + k.toNat * 1) 1) ∧ Q (.int .i64 0) (x2.put p_b (p_o + 134 + 1 + k.toNat * 1) [.int .i64 id]))) ∧ bif hb (id != 0) then (CallsH Tryd.prog 64 (#[.pointer (some ⟨p_b, p_o, none⟩), .int .i64 id]) (h) (fun v3 h4 => ∃ n5, (v3 = .int .i64 n5) ∧ bif hb (n5 != 0) then (Q (.int .i64 n5) h4) else (J1 h4))) else (J1 h))))
theorem pager_Pager_Point.calls (p_b p_o : Nat) (k : Int) (id : Int) {h : Hp} {Q : Value → Hp → Prop} (hW : pager_Pager_Point.W p_b p_o k id h Q) : CallsH Tryd.prog 28 #[.pointer (some ⟨p_b, p_o, none⟩), .int .i64 k, .int .i64 id] h Q := by
  have hE_ : bodyW Tryd.prog pager_Pager_Point.H Tryd.f28 [.ptr p_b p_o, .val (.int .i64 k), .val (.int .i64 id)] h Q = pager_Pager_Point.W p_b p_o k id h Q := by kernel_rfl
  rw [← hE_] at hW
  exact calls_of_body (H := pager_Pager_Point.H) (args := [.ptr p_b p_o, .val (.int .i64 k), .val (.int .i64 id)]) Tryd.func28 Tryd.ntmps28 rfl rfl hW

def pager_read.H : Hints := { N := 126, loc := (fun _ => false), join := (fun _ => none), loop := (fun i => bif Nat.beq i 7 then some [.slot 21 (.int .i64)] else bif Nat.beq i 13 then some [.slot 38 (.int .i64)] else bif Nat.beq i 19 then some [.slot 64 (.int .i64)] else bif Nat.beq i 26 then some [.slot 94 (.int .i64)] else none), ifc := 0, order := (fun i => bif Nat.beq i 9 then some (some 11, false, [0, 1, 2, 3, 4, 5, 6, 7, 8, 9, 10, 11], .q 0 (.q 1 (.q 2 (.q 3 (.q 4 (.q 5 (.q 6 (.q 7 (.q 8 (.q 9 (.q 10 (.f 11 (.done) .e)))))))))))) else bif Nat.beq i 15 then some (some 20, false, [0, 1, 2, 3, 4, 5, 6, 7, 8, 9, 10, 11, 12, 13, 14, 15, 16, 17, 18, 19, 20], .q 0 (.q 1 (.q 2 (.q 3 (.q 4 (.q 5 (.q 6 (.q 7 (.q 8 (.q 9 (.q 10 (.q 11 (.q 12 (.q 13 (.q 14 (.q 15 (.q 16 (.q 17 (.q 18 (.q 19 (.f 20 (.done) .e))))))))))))))))))))) else bif Nat.beq i 31 then some (some 14, false, [0, 1, 2, 3, 4, 5, 6, 7, 8, 9, 11, 10, 12, 13, 14, 15], .q 0 (.q 1 (.q 2 (.q 3 (.q 4 (.q 5 (.q 6 (.q 7 (.q 8 (.q 9 (.q 11 (.f 10 (.q 12 (.q 13 (.f 14 (.q 15 .done) .e))) .e)))))))))))) else none) }
def pager_read.W (b : ByteArray) (pages : Int) (h : Hp) (Q : Value → Hp → Prop) : Prop :=
  (∀ (k1 : Nat), ((h k1 = none) → (∀ (k2 : Nat), ((h.upd k1 (.cells (zeroL Tryd.prog 87).toArray 87 (0, 0)) k2 = none) → (((zeroL Tryd.prog 87).length = 133) ∧ (plainP (zeroL Tryd.prog 87)) ∧ (StoreOk ((h.upd k1 (.cells (zeroL Tryd.prog 87).toArray 87 (0, 0))).upd k2 (.cells (zeroL Tryd.prog 87).toArray 87 (0, 0))) k2 0 (zeroL Tryd.prog 87).length) ∧ (StoreOk (((h.upd k1 (.cells (zeroL Tryd.prog 87).toArray 87 (0, 0))).upd k2 (.cells (zeroL Tryd.prog 87).toArray 87 (0, 0))).put k2 0 (zeroL Tryd.prog 87)) k2 5 1) ∧ (Int.ofNat 0 ≤ 1024) ∧ (Int.ofNat 1024 ≤ 1024) ∧ (Int.ofNat 1 * 1024 ≤ 281474976710656) ∧ (Int.ofNat 1024 ≤ 9223372036854775807) ∧ ∀ (k3 : Nat), (((((h.upd k1 (.cells (zeroL Tryd.prog 87).toArray 87 (0, 0))).upd k2 (.cells (zeroL Tryd.prog 87).toArray 87 (0, 0))).put k2 0 (zeroL Tryd.prog 87)).put k2 5 [.bool true] k3 = none) → (∃ s4, (SliceAt (((((h.upd k1 (.cells (zeroL Tryd.prog 87).toArray 87 (0, 0))).upd k2 (.cells (zeroL Tryd.prog 87).toArray 87 (0, 0))).put k2 0 (zeroL Tryd.prog 87)).put k2 5 [.bool true]).upd k3 (.cells (repV 1024 [.int .u8 0]).toArray 5 (0, 0))) (some ⟨k3, 0, none⟩) (1024) (bytesV s4)) ∧ bif beqS b s4 then (∃ (xs5 : List Value), (xs5.length = 133) ∧ (CellsAt (((((h.upd k1 (.cells (zeroL Tryd.prog 87).toArray 87 (0, 0))).upd k2 (.cells (zeroL Tryd.prog 87).toArray 87 (0, 0))).put k2 0 (zeroL Tryd.prog 87)).put k2 5 [.bool true]).upd k3 (.cells (repV 1024 [.int .u8 0]).toArray 5 (0, 0))) k2 0 xs5) ∧ (xs5.length = 133) ∧ (plainP xs5) ∧ (StoreOk (((((h.upd k1 (.cells (zeroL Tryd.prog 87).toArray 87 (0, 0))).upd k2 (.cells (zeroL Tryd.prog 87).toArray 87 (0, 0))).put k2 0 (zeroL Tryd.prog 87)).put k2 5 [.bool true]).upd k3 (.cells (repV 1024 [.int .u8 0]).toArray 5 (0, 0))) k1 0 xs5.length) ∧ ∃ (xs6 : List Value), (xs6.length = 133) ∧ (CellsAt ((((((h.upd k1 (.cells (zeroL Tryd.prog 87).toArray 87 (0, 0))).upd k2 (.cells (zeroL Tryd.prog 87).toArray 87 (0, 0))).put k2 0 (zeroL Tryd.prog 87)).put k2 5 [.bool true]).upd k3 (.cells (repV 1024 [.int .u8 0]).toArray 5 (0, 0))).put k1 0 xs5) k1 0 xs6) ∧ Q (.tuple #[.agg xs6.toArray, .bool true]) ((((((h.upd k1 (.cells (zeroL Tryd.prog 87).toArray 87 (0, 0))).upd k2 (.cells (zeroL Tryd.prog 87).toArray 87 (0, 0))).put k2 0 (zeroL Tryd.prog 87)).put k2 5 [.bool true]).upd k3 (.cells (repV 1024 [.int .u8 0]).toArray 5 (0, 0))).put k1 0 xs5)) else (∃ (J7 : Int → Hp → Nat → Prop), (∃ k8, J7 0 (((((h.upd k1 (.cells (zeroL Tryd.prog 87).toArray 87 (0, 0))).upd k2 (.cells (zeroL Tryd.prog 87).toArray 87 (0, 0))).put k2 0 (zeroL Tryd.prog 87)).put k2 5 [.bool true]).upd k3 (.cells (repV 1024 [.int .u8 0]).toArray 5 (0, 0))) k8) ∧ ∀ (n9 : Int), ∀ (x10 : Hp), ∀ (k11 : Nat), (J7 n9 x10 k11) → (bif hb (decide (n9 < 8)) then (∃ n12, (x10.cell k2 0 = some (.int .u64 n12)) ∧ (Int.ofNat 0 ≤ 8) ∧ (0 ≤ IntKind.i64.wrap (10 + n9)) ∧ (IntKind.i64.wrap (10 + n9) < Int.ofNat b.size) ∧ (StoreOk x10 k2 0 1) ∧ ∃ k13, (k13 < k11) ∧ J7 (IntKind.i64.wrap (n9 + 1)) (x10.put k2 0 [.int .u64 (IntKind.u64.wrap (ior IntKind.u64 (IntKind.u64.wrap (ishl IntKind.u64 n12 8)) (IntKind.u64.wrap (byteAt b (IntKind.i64.wrap (10 + n9)).toNat))))]) k13) else (∃ (J14 : Int → Hp → Nat → Prop), (∃ k15, J14 0 x10 k15) ∧ ∀ (n16 : Int), ∀ (x17 : Hp), ∀ (k18 : Nat), (J14 n16 x17 k18) → (bif hb (decide (n16 < 4)) then ((0 ≤ IntKind.i64.wrap (IntKind.i64.wrap (Int.ofNat 10 + 8) + IntKind.i64.wrap (2 * n16))) ∧ (IntKind.i64.wrap (IntKind.i64.wrap (Int.ofNat 10 + 8) + IntKind.i64.wrap (2 * n16)) < Int.ofNat b.size) ∧ (Int.ofNat 0 ≤ 8) ∧ (0 ≤ IntKind.i64.wrap (IntKind.i64.wrap (IntKind.i64.wrap (Int.ofNat 10 + 8) + IntKind.i64.wrap (2 * n16)) + 1)) ∧ (IntKind.i64.wrap (IntKind.i64.wrap (IntKind.i64.wrap (Int.ofNat 10 + 8) + IntKind.i64.wrap (2 * n16)) + 1) < Int.ofNat b.size) ∧ (0 ≤ n16) ∧ (n16 < 4) ∧ (StoreOk x17 k2 (1 + n16.toNat * 1) 1) ∧ ∃ k19, (k19 < k18) ∧ J14 (IntKind.i64.wrap (n16 + 1)) (x17.put k2 (1 + n16.toNat * 1) [.int .i64 (IntKind.i64.wrap (ior IntKind.i64 (IntKind.i64.wrap (ishl IntKind.i64 (IntKind.i64.wrap (byteAt b (IntKind.i64.wrap (IntKind.i64.wrap (Int.ofNat 10 + 8) + IntKind.i64.wrap (2 * n16))).toNat)) 8)) (IntKind.i64.wrap (byteAt b (IntKind.i64.wrap (IntKind.i64.wrap (IntKind.i64.wrap (Int.ofNat 10 + 8) + IntKind.i64.wrap (2 * n16)) + 1)).toNat))))]) k19) else (∃ (J20 : Int → Hp → Nat → Prop), (∃ k21, J20 0 x17 k21) ∧ ∀ (n22 : Int), ∀ (x23 : Hp), ∀ (k24 : Nat), (J20 n22 x23 k24) → (bif hb (decide (n22 < 128)) then ((((8 : Int) = 0) → False) ∧ (0 ≤ IntKind.i64.wrap (IntKind.i64.wrap (IntKind.i64.wrap (Int.ofNat 10 + 8) + 8) + IntKind.i64.wrap (n22.tdiv 8))) ∧ (IntKind.i64.wrap (IntKind.i64.wrap (IntKind.i64.wrap (Int.ofNat 10 + 8) + 8) + IntKind.i64.wrap (n22.tdiv 8)) < Int.ofNat b.size) ∧ (((8 : Int) = 0) → False) ∧ (0 ≤ n22.tmod 8) ∧ (0 ≤ n22) ∧ (n22 < 128) ∧ (StoreOk x23 k2 (5 + n22.toNat * 1) 1) ∧ (0 ≤ n22) ∧ (n22 < 128) ∧ ∃ b25, ((x23.put k2 (5 + n22.toNat * 1) [.bool (hb (IntKind.u8.wrap (iand IntKind.u8 (ishr IntKind.u8 (byteAt b (IntKind.i64.wrap (IntKind.i64.wrap (IntKind.i64.wrap (Int.ofNat 10 + 8) + 8) + IntKind.i64.wrap (n22.tdiv 8))).toNat) (n22.tmod 8)) 1) == 1))]).cell k2 (5 + n22.toNat * 1) = some (.bool b25)) ∧ bif b25 then (bif hb (decide (n22 ≥ pages)) then (((zeroL Tryd.prog 87).length = 133) ∧ (plainP (zeroL Tryd.prog 87)) ∧ (StoreOk (x23.put k2 (5 + n22.toNat * 1) [.bool (hb (IntKind.u8.wrap (iand IntKind.u8 (ishr IntKind.u8 (byteAt b (IntKind.i64.wrap (IntKind.i64.wrap (IntKind.i64.wrap (Int.ofNat 10 + 8) + 8) + IntKind.i64.wrap (n22.tdiv 8))).toNat) (n22.tmod 8)) 1) == 1))]) k1 0 (zeroL Tryd.prog 87).length) ∧ ∃ (xs26 : List Value), (xs26.length = 133) ∧ (CellsAt ((x23.put k2 (5 + n22.toNat * 1) [.bool (hb (IntKind.u8.wrap (iand IntKind.u8 (ishr IntKind.u8 (byteAt b (IntKind.i64.wrap (IntKind.i64.wrap (IntKind.i64.wrap (Int.ofNat 10 + 8) + 8) + IntKind.i64.wrap (n22.tdiv 8))).toNat) (n22.tmod 8)) 1) == 1))]).put k1 0 (zeroL Tryd.prog 87)) k1 0 xs26) ∧ Q (.tuple #[.agg xs26.toArray, .bool false]) ((x23.put k2 (5 + n22.toNat * 1) [.bool (hb (IntKind.u8.wrap (iand IntKind.u8 (ishr IntKind.u8 (byteAt b (IntKind.i64.wrap (IntKind.i64.wrap (IntKind.i64.wrap (Int.ofNat 10 + 8) + 8) + IntKind.i64.wrap (n22.tdiv 8))).toNat) (n22.tmod 8)) 1) == 1))]).put k1 0 (zeroL Tryd.prog 87))) else (∃ k27, (k27 < k24) ∧ J20 (IntKind.i64.wrap (n22 + 1)) (x23.put k2 (5 + n22.toNat * 1) [.bool (hb (IntKind.u8.wrap (iand IntKind.u8 (ishr IntKind.u8 (byteAt b (IntKind.i64.wrap (IntKind.i64.wrap (IntKind.i64.wrap (Int.ofNat 10 + 8) + 8) + IntKind.i64.wrap (n22.tdiv 8))).toNat) (n22.tmod 8)) 1) == 1))]) k27)) else (∃ k28, (k28 < k24) ∧ J20 (IntKind.i64.wrap (n22 + 1)) (x23.put k2 (5 + n22.toNat * 1) [.bool (hb (IntKind.u8.wrap (iand IntKind.u8 (ishr IntKind.u8 (byteAt b (IntKind.i64.wrap (IntKind.i64.wrap (IntKind.i64.wrap (Int.ofNat 10 + 8) + 8) + IntKind.i64.wrap (n22.tdiv 8))).toNat) (n22.tmod 8)) 1) == 1))]) k28)) else (∃ n29, (x23.cell k2 1 = some (.int .i64 n29)) ∧ ∃ n30, (x23.cell k2 2 = some (.int .i64 n30)) ∧ ∃ n31, (x23.cell k2 3 = some (.int .i64 n31)) ∧ ∃ n32, (x23.cell k2 4 = some (.int .i64 n32)) ∧ ∃ (J33 : Int → Hp → Nat → Prop), (∃ k34, J33 0 x23 k34) ∧ ∀ (n35 : Int), ∀ (x36 : Hp), ∀ (k37 : Nat), (J33 n35 x36 k37) → (bif hb (decide (n35 < 4)) then ((0 ≤ n35) ∧ (n35 < 4) ∧ ∃ n38, (lget [.int .i64 n29, .int .i64 n30, .int .i64 n31, .int .i64 n32] (n35.toNat * 1) = some (.int .i64 n38)) ∧ bif hb (decide (n38 ≥ 128)) then (((zeroL Tryd.prog 87).length = 133) ∧ (plainP (zeroL Tryd.prog 87)) ∧ (StoreOk x36 k1 0 (zeroL Tryd.prog 87).length) ∧ ∃ (xs39 : List Value), (xs39.length = 133) ∧ (CellsAt (x36.put k1 0 (zeroL Tryd.prog 87)) k1 0 xs39) ∧ Q (.tuple #[.agg xs39.toArray, .bool false]) (x36.put k1 0 (zeroL Tryd.prog 87))) else (bif hb (n38 != 0) then ((0 ≤ n38) ∧ (n38 < 128) ∧ ∃ b40, (x36.cell k2 (5 + n38.toNat * 1) = some (.bool b40)) ∧ bif !b40 then (((zeroL Tryd.prog 87).length = 133) ∧ (plainP (zeroL Tryd.prog 87)) ∧ (StoreOk x36 k1 0 (zeroL Tryd.prog 87).length) ∧ ∃ (xs41 : List Value), (xs41.length = 133) ∧ (CellsAt (x36.put k1 0 (zeroL Tryd.prog 87)) k1 0 xs41) ∧ Q (.tuple #[.agg xs41.toArray, .bool false]) (x36.put k1 0 (zeroL Tryd.prog 87))) else (∃ k42, (k42 < k37) ∧ J33 (IntKind.i64.wrap (n35 + 1)) x36 k42)) else (∃ k43, (k43 < k37) ∧ J33 (IntKind.i64.wrap (n35 + 1)) x36 k43))) else (∃ (xs44 : List Value), (xs44.length = 133) ∧ (CellsAt x36 k2 0 xs44) ∧ ∃ b45, (x36.cell k2 5 = some (.bool b45)) ∧ bif b45 then (∃ n46, (x36.cell k2 0 = some (.int .u64 n46)) ∧ bif hb (decide (n46 ≤ 9223372036854775807)) then (CallsH Tryd.prog 76 (#[.pointer (some ⟨k2, 0, none⟩)]) (x36) (fun v47 h48 => ∃ s49, (v47 = .string s49) ∧ (Gx.Sub x36 h48) ∧ (xs44.length = 133) ∧ (plainP xs44) ∧ (StoreOk h48 k1 0 xs44.length) ∧ ∃ (xs50 : List Value), (xs50.length = 133) ∧ (CellsAt (h48.put k1 0 xs44) k1 0 xs50) ∧ Q (.tuple #[.agg xs50.toArray, .bool (beqS s49 b)]) (h48.put k1 0 xs44))) else ((Gx.Sub x36 x36) ∧ (xs44.length = 133) ∧ (plainP xs44) ∧ (StoreOk x36 k1 0 xs44.length) ∧ ∃ (xs51 : List Value), (xs51.length = 133) ∧ (CellsAt (x36.put k1 0 xs44) k1 0 xs51) ∧ Q (.tuple #[.agg xs51.toArray, .bool false]) (x36.put k1 0 xs44))) else ((Gx.Sub x36 x36) ∧ (xs44.length = 133) ∧ (plainP xs44) ∧ (StoreOk x36 k1 0 xs44.length) ∧ ∃ (xs52 : List Value), (xs52.length = 133) ∧ (CellsAt (x36.put k1 0 xs44) k1 0 xs52) ∧ Q (.tuple #[.agg xs52.toArray, .bool false]) (x36.put k1 0 xs44))))))))))))))))))
theorem pager_read.calls (b : ByteArray) (pages : Int) {h : Hp} {Q : Value → Hp → Prop} (hW : pager_read.W b pages h Q) : CallsH Tryd.prog 58 #[.string b, .int .i64 pages] h Q := by
  have hE_ : bodyW Tryd.prog pager_read.H Tryd.f58 [.val (.string b), .val (.int .i64 pages)] h Q = pager_read.W b pages h Q := by kernel_rfl
  rw [← hE_] at hW
  exact calls_of_body (H := pager_read.H) (args := [.val (.string b), .val (.int .i64 pages)]) Tryd.func58 Tryd.ntmps58 rfl rfl hW

def pager_Pager_use.H : Hints := { N := 26, loc := (fun _ => false), join := (fun _ => none), loop := (fun _ => none), ifc := 0, order := (fun _ => none) }
def pager_Pager_use.W (p_b p_o : Nat) (id : Int) (h : Hp) (Q : Value → Hp → Prop) : Prop :=
  (bif hb (decide (id < 1)) then (Q (.int .i64 9) h) else (CallsH Tryd.prog 36 (#[.pointer (some ⟨p_b, p_o, none⟩)]) (h) (fun v1 h2 => ∃ n3, (v1 = .int .i64 n3) ∧ bif hb (decide (id ≥ n3)) then (Q (.int .i64 9) h2) else ((0 ≤ id) ∧ (id < 128) ∧ ∃ b4, (h2.cell p_b (p_o + 134 + 5 + id.toNat * 1) = some (.bool b4)) ∧ bif !b4 then (Q (.int .i64 6) h2) else (Q (.int .i64 0) h2)))))
theorem pager_Pager_use.calls (p_b p_o : Nat) (id : Int) {h : Hp} {Q : Value → Hp → Prop} (hW : pager_Pager_use.W p_b p_o id h Q) : CallsH Tryd.prog 64 #[.pointer (some ⟨p_b, p_o, none⟩), .int .i64 id] h Q := by
  have hE_ : bodyW Tryd.prog pager_Pager_use.H Tryd.f64 [.ptr p_b p_o, .val (.int .i64 id)] h Q = pager_Pager_use.W p_b p_o id h Q := by kernel_rfl
  rw [← hE_] at hW
  exact calls_of_body (H := pager_Pager_use.H) (args := [.ptr p_b p_o, .val (.int .i64 id)]) Tryd.func64 Tryd.ntmps64 rfl rfl hW

def pager_head_bytes.H : Hints := { N := 86, loc := (fun _ => false), join := (fun _ => none), loop := (fun i => bif Nat.beq i 4 then some [.slot 13 (.int .i64)] else bif Nat.beq i 10 then some [.slot 37 (.int .i64)] else bif Nat.beq i 16 then some [.slot 66 (.int .i64)] else none), ifc := 0, order := (fun i => bif Nat.beq i 19 then some (some 12, false, [0, 1, 2, 3, 4, 5, 6, 7, 8, 9, 10, 11, 12], .q 0 (.q 1 (.q 2 (.q 3 (.q 4 (.q 5 (.q 6 (.q 7 (.q 8 (.q 9 (.q 10 (.q 11 (.f 12 (.done) .e))))))))))))) else none) }
def pager_head_bytes.W (p0_b p0_o : Nat) (h : Hp) (Q : Value → Hp → Prop) : Prop :=
  ((Int.ofNat 0 ≤ 1024) ∧ (Int.ofNat 1024 ≤ 1024) ∧ (Int.ofNat 1 * 1024 ≤ 281474976710656) ∧ (Int.ofNat 1024 ≤ 9223372036854775807) ∧ ∀ (k1 : Nat), ((h k1 = none) → (∃ (J2 : Hp → Prop), (∀ (x3 : Hp), (J2 x3) → (∃ (J4 : Int → Hp → Nat → Prop), (∃ k5, J4 0 x3 k5) ∧ ∀ (n6 : Int), ∀ (x7 : Hp), ∀ (k8 : Nat), (J4 n6 x7 k8) → (bif hb (decide (n6 < 8)) then (∃ n9, (x7.cell p0_b p0_o = some (.int .u64 n9)) ∧ (0 ≤ IntKind.i64.wrap (56 - IntKind.i64.wrap (8 * n6))) ∧ (0 ≤ IntKind.i64.wrap (cpyN (bytesL [115, 116, 114, 111, 110, 103, 114, 111, 111, 109]) 1024 + n6)) ∧ (IntKind.i64.wrap (cpyN (bytesL [115, 116, 114, 111, 110, 103, 114, 111, 111, 109]) 1024 + n6) < 1024) ∧ ∃ k10, ∃ k11, ((some ⟨k1, 0, none⟩ : Option Addr) = some ⟨k10, k11, none⟩) ∧ (StoreOk x7 k10 (k11 + (IntKind.i64.wrap (cpyN (bytesL [115, 116, 114, 111, 110, 103, 114, 111, 111, 109]) 1024 + n6)).toNat * 1) 1) ∧ ∃ k12, (k12 < k8) ∧ J4 (IntKind.i64.wrap (n6 + 1)) (x7.put k10 (k11 + (IntKind.i64.wrap (cpyN (bytesL [115, 116, 114, 111, 110, 103, 114, 111, 111, 109]) 1024 + n6)).toNat * 1) [.int .u8 (IntKind.u8.wrap (ishr IntKind.u64 n9 (IntKind.i64.wrap (56 - IntKind.i64.wrap (8 * n6)))))]) k12) else (∃ n13, (x7.cell p0_b (p0_o + 1) = some (.int .i64 n13)) ∧ ∃ n14, (x7.cell p0_b (p0_o + 1 + 1) = some (.int .i64 n14)) ∧ ∃ n15, (x7.cell p0_b (p0_o + 1 + 1 + 1) = some (.int .i64 n15)) ∧ ∃ n16, (x7.cell p0_b (p0_o + 1 + 1 + 1 + 1) = some (.int .i64 n16)) ∧ ∃ (J17 : Int → Hp → Nat → Prop), (∃ k18, J17 0 x7 k18) ∧ ∀ (n19 : Int), ∀ (x20 : Hp), ∀ (k21 : Nat), (J17 n19 x20 k21) → (bif hb (decide (n19 < 4)) then ((0 ≤ n19) ∧ (n19 < 4) ∧ ∃ n22, (lget [.int .i64 n13, .int .i64 n14, .int .i64 n15, .int .i64 n16] (n19.toNat * 1) = some (.int .i64 n22)) ∧ (Int.ofNat 0 ≤ 8) ∧ (0 ≤ IntKind.i64.wrap (IntKind.i64.wrap (cpyN (bytesL [115, 116, 114, 111, 110, 103, 114, 111, 111, 109]) 1024 + 8) + IntKind.i64.wrap (2 * n19))) ∧ (IntKind.i64.wrap (IntKind.i64.wrap (cpyN (bytesL [115, 116, 114, 111, 110, 103, 114, 111, 111, 109]) 1024 + 8) + IntKind.i64.wrap (2 * n19)) < 1024) ∧ ∃ k23, ∃ k24, ((some ⟨k1, 0, none⟩ : Option Addr) = some ⟨k23, k24, none⟩) ∧ (StoreOk x20 k23 (k24 + (IntKind.i64.wrap (IntKind.i64.wrap (cpyN (bytesL [115, 116, 114, 111, 110, 103, 114, 111, 111, 109]) 1024 + 8) + IntKind.i64.wrap (2 * n19))).toNat * 1) 1) ∧ (0 ≤ IntKind.i64.wrap (IntKind.i64.wrap (IntKind.i64.wrap (cpyN (bytesL [115, 116, 114, 111, 110, 103, 114, 111, 111, 109]) 1024 + 8) + IntKind.i64.wrap (2 * n19)) + 1)) ∧ (IntKind.i64.wrap (IntKind.i64.wrap (IntKind.i64.wrap (cpyN (bytesL [115, 116, 114, 111, 110, 103, 114, 111, 111, 109]) 1024 + 8) + IntKind.i64.wrap (2 * n19)) + 1) < 1024) ∧ ∃ k25, ∃ k26, ((some ⟨k1, 0, none⟩ : Option Addr) = some ⟨k25, k26, none⟩) ∧ (StoreOk (x20.put k23 (k24 + (IntKind.i64.wrap (IntKind.i64.wrap (cpyN (bytesL [115, 116, 114, 111, 110, 103, 114, 111, 111, 109]) 1024 + 8) + IntKind.i64.wrap (2 * n19))).toNat * 1) [.int .u8 (IntKind.u8.wrap (ishr IntKind.i64 n22 8))]) k25 (k26 + (IntKind.i64.wrap (IntKind.i64.wrap (IntKind.i64.wrap (cpyN (bytesL [115, 116, 114, 111, 110, 103, 114, 111, 111, 109]) 1024 + 8) + IntKind.i64.wrap (2 * n19)) + 1)).toNat * 1) 1) ∧ ∃ k27, (k27 < k21) ∧ J17 (IntKind.i64.wrap (n19 + 1)) ((x20.put k23 (k24 + (IntKind.i64.wrap (IntKind.i64.wrap (cpyN (bytesL [115, 116, 114, 111, 110, 103, 114, 111, 111, 109]) 1024 + 8) + IntKind.i64.wrap (2 * n19))).toNat * 1) [.int .u8 (IntKind.u8.wrap (ishr IntKind.i64 n22 8))]).put k25 (k26 + (IntKind.i64.wrap (IntKind.i64.wrap (IntKind.i64.wrap (cpyN (bytesL [115, 116, 114, 111, 110, 103, 114, 111, 111, 109]) 1024 + 8) + IntKind.i64.wrap (2 * n19)) + 1)).toNat * 1) [.int .u8 (IntKind.u8.wrap n22)]) k27) else (∃ (xs28 : List Value), (xs28.length = 128) ∧ (CellsAt x20 p0_b (p0_o + 5) xs28) ∧ ∃ (J29 : Int → Hp → Nat → Prop), (∃ k30, J29 0 x20 k30) ∧ ∀ (n31 : Int), ∀ (x32 : Hp), ∀ (k33 : Nat), (J29 n31 x32 k33) → (bif hb (decide (n31 < 128)) then ((0 ≤ n31) ∧ (n31 < 128) ∧ ∃ b34, (lget xs28 (n31.toNat * 1) = some (.bool b34)) ∧ bif b34 then ((((8 : Int) = 0) → False) ∧ (0 ≤ IntKind.i64.wrap (IntKind.i64.wrap (IntKind.i64.wrap (cpyN (bytesL [115, 116, 114, 111, 110, 103, 114, 111, 111, 109]) 1024 + 8) + 8) + IntKind.i64.wrap (n31.tdiv 8))) ∧ (IntKind.i64.wrap (IntKind.i64.wrap (IntKind.i64.wrap (cpyN (bytesL [115, 116, 114, 111, 110, 103, 114, 111, 111, 109]) 1024 + 8) + 8) + IntKind.i64.wrap (n31.tdiv 8)) < 1024) ∧ ∃ k35, ∃ k36, ((some ⟨k1, 0, none⟩ : Option Addr) = some ⟨k35, k36, none⟩) ∧ ∃ n37, (x32.cell k35 (k36 + (IntKind.i64.wrap (IntKind.i64.wrap (IntKind.i64.wrap (cpyN (bytesL [115, 116, 114, 111, 110, 103, 114, 111, 111, 109]) 1024 + 8) + 8) + IntKind.i64.wrap (n31.tdiv 8))).toNat * 1) = some (.int .u8 n37)) ∧ (((8 : Int) = 0) → False) ∧ (0 ≤ n31.tmod 8) ∧ (0 ≤ IntKind.i64.wrap (IntKind.i64.wrap (IntKind.i64.wrap (cpyN (bytesL [115, 116, 114, 111, 110, 103, 114, 111, 111, 109]) 1024 + 8) + 8) + IntKind.i64.wrap (n31.tdiv 8))) ∧ (IntKind.i64.wrap (IntKind.i64.wrap (IntKind.i64.wrap (cpyN (bytesL [115, 116, 114, 111, 110, 103, 114, 111, 111, 109]) 1024 + 8) + 8) + IntKind.i64.wrap (n31.tdiv 8)) < 1024) ∧ ∃ k38, ∃ k39, ((some ⟨k1, 0, none⟩ : Option Addr) = some ⟨k38, k39, none⟩) ∧ (StoreOk x32 k38 (k39 + (IntKind.i64.wrap (IntKind.i64.wrap (IntKind.i64.wrap (cpyN (bytesL [115, 116, 114, 111, 110, 103, 114, 111, 111, 109]) 1024 + 8) + 8) + IntKind.i64.wrap (n31.tdiv 8))).toNat * 1) 1) ∧ ∃ k40, (k40 < k33) ∧ J29 (IntKind.i64.wrap (n31 + 1)) (x32.put k38 (k39 + (IntKind.i64.wrap (IntKind.i64.wrap (IntKind.i64.wrap (cpyN (bytesL [115, 116, 114, 111, 110, 103, 114, 111, 111, 109]) 1024 + 8) + 8) + IntKind.i64.wrap (n31.tdiv 8))).toNat * 1) [.int .u8 (IntKind.u8.wrap (ior IntKind.u8 n37 (IntKind.u8.wrap (ishl IntKind.u8 1 (n31.tmod 8)))))]) k40) else (∃ k41, (k41 < k33) ∧ J29 (IntKind.i64.wrap (n31 + 1)) x32 k41)) else (∃ s42, (SliceAt (x32) (some ⟨k1, 0, none⟩) (1024) (bytesV s42)) ∧ Q (.string s42) x32)))))))) ∧ copyC (h.upd k1 (.cells (repV 1024 [.int .u8 0]).toArray 5 (0, 0))) (some ⟨k1, 0, none⟩) (cpyV (bytesL [115, 116, 114, 111, 110, 103, 114, 111, 111, 109]) 1024) J2)))
theorem pager_head_bytes.calls (p0_b p0_o : Nat) {h : Hp} {Q : Value → Hp → Prop} (hW : pager_head_bytes.W p0_b p0_o h Q) : CallsH Tryd.prog 76 #[.pointer (some ⟨p0_b, p0_o, none⟩)] h Q := by
  have hE_ : bodyW Tryd.prog pager_head_bytes.H Tryd.f76 [.ptr p0_b p0_o] h Q = pager_head_bytes.W p0_b p0_o h Q := by kernel_rfl
  rw [← hE_] at hW
  exact calls_of_body (H := pager_head_bytes.H) (args := [.ptr p0_b p0_o]) Tryd.func76 Tryd.ntmps76 rfl rfl hW

def slices_Contains_int_int_.H : Hints := { N := 9, loc := (fun _ => false), join := (fun _ => none), loop := (fun _ => none), ifc := 0, order := (fun _ => none) }
def slices_Contains_int_int_.W (sa : Option Addr) (sl sc : Nat) (v : Int) (h : Hp) (Q : Value → Hp → Prop) : Prop :=
  (CallsH Tryd.prog 82 (#[.slice sa sl sc, .int .i64 v]) (h) (fun v1 h2 => ∃ n3, (v1 = .int .i64 n3) ∧ Q (.bool (hb (decide (n3 ≥ 0)))) h2))
theorem slices_Contains_int_int_.calls (sa : Option Addr) (sl sc : Nat) (v : Int) {h : Hp} {Q : Value → Hp → Prop} (hW : slices_Contains_int_int_.W sa sl sc v h Q) : CallsH Tryd.prog 65 #[.slice sa sl sc, .int .i64 v] h Q := by
  have hE_ : bodyW Tryd.prog slices_Contains_int_int_.H Tryd.f65 [.val (.slice sa sl sc), .val (.int .i64 v)] h Q = slices_Contains_int_int_.W sa sl sc v h Q := by kernel_rfl
  rw [← hE_] at hW
  exact calls_of_body (H := slices_Contains_int_int_.H) (args := [.val (.slice sa sl sc), .val (.int .i64 v)]) Tryd.func65 Tryd.ntmps65 rfl rfl hW

def slices_Index_int_int_.H : Hints := { N := 19, loc := (fun _ => false), join := (fun _ => none), loop := (fun i => bif Nat.beq i 2 then some [.slot 8 (.int .i64)] else none), ifc := 0, order := (fun _ => none) }
def slices_Index_int_int_.W (sa : Option Addr) (sl sc : Nat) (v : Int) (h : Hp) (Q : Value → Hp → Prop) : Prop :=
  (∃ (J1 : Int → Hp → Nat → Prop), (∃ k2, J1 0 h k2) ∧ ∀ (n3 : Int), ∀ (x4 : Hp), ∀ (k5 : Nat), (J1 n3 x4 k5) → (bif hb (decide (n3 < Int.ofNat sl)) then ((0 ≤ n3) ∧ (n3 < Int.ofNat sl) ∧ ∃ k6, ∃ k7, (sa = some ⟨k6, k7, none⟩) ∧ ∃ n8, (x4.cell k6 (k7 + n3.toNat * 1) = some (.int .i64 n8)) ∧ bif hb (v == n8) then (Q (.int .i64 n3) x4) else (∃ k9, (k9 < k5) ∧ J1 (IntKind.i64.wrap (n3 + 1)) x4 k9)) else (Q (.int .i64 (-1)) x4)))
theorem slices_Index_int_int_.calls (sa : Option Addr) (sl sc : Nat) (v : Int) {h : Hp} {Q : Value → Hp → Prop} (hW : slices_Index_int_int_.W sa sl sc v h Q) : CallsH Tryd.prog 82 #[.slice sa sl sc, .int .i64 v] h Q := by
  have hE_ : bodyW Tryd.prog slices_Index_int_int_.H Tryd.f82 [.val (.slice sa sl sc), .val (.int .i64 v)] h Q = slices_Index_int_int_.W sa sl sc v h Q := by kernel_rfl
  rw [← hE_] at hW
  exact calls_of_body (H := slices_Index_int_int_.H) (args := [.val (.slice sa sl sc), .val (.int .i64 v)]) Tryd.func82 Tryd.ntmps82 rfl rfl hW

end Go.Proofs.YthbogjbcecmopaaDoor
