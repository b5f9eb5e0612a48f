/- Soundness of the executor, first part: relations, and the laws of single operations. -/
import Derived.Test.YtagglohkipioiaaGreatGx
namespace Go.Gx

theorem nbeq_ne {a b : Nat} (h : a ≠ b) : Nat.beq a b = false := by
  cases e : Nat.beq a b with
  | false => rfl
  | true => exact absurd (Nat.eq_of_beq_eq_true e) h
theorem nbeq_self (a : Nat) : Nat.beq a a = true := Nat.beq_refl a

/-! ### relations -/
def SVr (ρ : Nat → Nat) (n : Nat) : SV → Value → Prop
  | .val v, u => u = v
  | .ptr b o, u => u = .pointer (some ⟨b, o, none⟩)
  | .loc l o, u => l < n ∧ u = .pointer (some ⟨ρ l, o, none⟩)
  | .dead, _ => True
def EnvR (ρ : Nat → Nat) (st : St) (tmps : Array Value) : Prop := ∀ t, SVr ρ st.n (st.e t) (tmps.getD t undef)
structure HeapR (w0 : World) (h0 : Hp) (ρ : Nat → Nat) (st : St) (h : Hp) (w : World) : Prop where
  holds : Holds h w
  kept : Kept h0 w0 h w
  loc : ∀ l cs t, st.L l = some (cs, t) → w.heap[ρ l]? = some (.cells cs.toArray t (0, 0)) ∧ h (ρ l) = none ∧ ∀ o, w0.heap[ρ l]? = some o → h0 (ρ l) = none → False
  inj : ∀ l m x y, st.L l = some x → st.L m = some y → ρ l = ρ m → l = m
  top : ∀ l, st.n ≤ l → st.L l = none
structure Ext (ρ ρ' : Nat → Nat) (st st' : St) : Prop where
  n : st.n ≤ st'.n
  rho : ∀ l, l < st.n → ρ' l = ρ l
  ver : ∀ l, l < st.n → st.ver l ≤ st'.ver l ∧ (st'.ver l = st.ver l → st'.L l = st.L l)
  marks : st'.marks = st.marks
theorem Ext.refl (ρ : Nat → Nat) (st : St) : Ext ρ ρ st st := ⟨Nat.le_refl _, fun _ _ => rfl, fun _ _ => ⟨Nat.le_refl _, fun _ => rfl⟩, rfl⟩
theorem Ext.trans {ρ ρ' ρ'' : Nat → Nat} {a b c : St} (x : Ext ρ ρ' a b) (y : Ext ρ' ρ'' b c) : Ext ρ ρ'' a c := by
  refine ⟨Nat.le_trans x.n y.n, fun l hl => by rw [y.rho l (Nat.lt_of_lt_of_le hl x.n), x.rho l hl], fun l hl => ?_, y.marks.trans x.marks⟩
  have h1 := x.ver l hl
  have h2 := y.ver l (Nat.lt_of_lt_of_le hl x.n)
  refine ⟨Nat.le_trans h1.1 h2.1, fun e => ?_⟩
  have e1 : b.ver l = a.ver l := by omega
  have e2 : c.ver l = b.ver l := by omega
  rw [h2.2 e2, h1.2 e1]
theorem SVr.mono {ρ ρ' : Nat → Nat} {n n' : Nat} {s : SV} {v : Value} (h : SVr ρ n s v) (hn : n ≤ n') (hr : ∀ l, l < n → ρ' l = ρ l) : SVr ρ' n' s v := by
  cases s with
  | loc l o => exact ⟨Nat.lt_of_lt_of_le h.1 hn, by rw [hr l h.1]; exact h.2⟩
  | _ => exact h
theorem SVr.toV {ρ : Nat → Nat} {n : Nat} {s : SV} {u v : Value} (h : SVr ρ n s u) (e : s.toV = some v) : u = v := by
  cases s with
  | val x => simp [SV.toV] at e; rw [← e]; exact h
  | ptr b o => simp [SV.toV] at e; rw [← e]; exact h
  | loc l o => simp [SV.toV] at e
  | dead => simp [SV.toV] at e
theorem ev_spec {ρ : Nat → Nat} {st : St} {a : Act} (he : EnvR ρ st a.tmps) (x : Operand) : SVr ρ st.n (st.ev x) (a.eval x) := by
  cases x with
  | tmp t => exact he t
  | const v => exact rfl
  | global g => exact rfl
  | func f => exact rfl
theorem evV_spec {ρ : Nat → Nat} {st : St} {a : Act} (he : EnvR ρ st a.tmps) {x : Operand} {F : Value → Prop} (h : st.evV x F) : F (a.eval x) := by
  unfold St.evV at h
  cases e : (st.ev x).toV with
  | none => rw [e] at h; exact h.elim
  | some v => rw [e] at h; rw [(ev_spec he x).toV e]; exact h
theorem evVs_spec {ρ : Nat → Nat} {st : St} {a : Act} (he : EnvR ρ st a.tmps) : ∀ {xs : List Operand} {F : List Value → Prop}, st.evVs xs F → F (xs.map a.eval)
  | [], _, h => h
  | x :: _, F, h => evVs_spec he (F := fun vs => F (a.eval x :: vs)) (evV_spec he h)

/-! ### heaps -/
theorem Holds.cell {h : Hp} {w : World} (H : Holds h w) {b o : Nat} {v : Value} (e : h.cell b o = some v) : w.cell? ⟨b, o, none⟩ = some v := by
  unfold Hp.cell at e
  split at e
  · rename_i c t f hb
    simp only [World.cell?, H b _ hb]
    simpa using e
  · cases e
theorem Hp.upd_same (h : Hp) (b : Nat) (o : Obj) : h.upd b o b = some o := by simp [Hp.upd]
theorem Hp.upd_ne (h : Hp) {b c : Nat} (o : Obj) (e : c ≠ b) : h.upd b o c = h c := by simp [Hp.upd, e]
theorem Holds.fresh {h : Hp} {w : World} (H : Holds h w) {b : Nat} (hb : w.heap.size ≤ b) : h b = none := by
  cases e : h b with
  | none => rfl
  | some o => have := H b o e; rw [Array.getElem?_eq_none hb] at this; cases this
theorem Holds.alloc {h : Hp} {w : World} (H : Holds h w) (o : Obj) : Holds (h.upd w.heap.size o) { w with heap := w.heap.push o } := by
  intro b x hb
  by_cases e : b = w.heap.size
  · subst e; rw [Hp.upd_same] at hb; cases hb; simp
  · rw [Hp.upd_ne _ _ e] at hb
    have h1 := H b x hb
    have hlt : b < w.heap.size := by
      rcases Nat.lt_or_ge b w.heap.size with h' | h'
      · exact h'
      · rw [Array.getElem?_eq_none h'] at h1; cases h1
    simp only [Array.getElem?_push]
    rw [if_neg e]; exact h1
theorem Kept.refl (h : Hp) (w : World) : Kept h w h w := ⟨rfl, rfl, rfl, Nat.le_refl _, fun _ _ a b => ⟨a, b⟩⟩
theorem Kept.trans {h h1 h2 : Hp} {w w1 w2 : World} (a : Kept h w h1 w1) (b : Kept h1 w1 h2 w2) : Kept h w h2 w2 :=
  ⟨b.os.trans a.os, b.tape.trans a.tape, b.output.trans a.output, Nat.le_trans a.size b.size, fun c o hc hn => let ⟨x, y⟩ := a.block c o hc hn; b.block c o x y⟩
theorem get_lt {α : Type} {a : Array α} {i : Nat} {x : α} (h : a[i]? = some x) : i < a.size := by
  rcases Nat.lt_or_ge i a.size with h' | h'
  · exact h'
  · rw [Array.getElem?_eq_none h'] at h; cases h
theorem Kept.alloc (h : Hp) (w : World) (o : Obj) : Kept h w (h.upd w.heap.size o) { w with heap := w.heap.push o } := by
  refine ⟨rfl, rfl, rfl, by simp, fun b x hb hn => ?_⟩
  have hlt := get_lt hb
  refine ⟨?_, by rw [Hp.upd_ne _ _ (by omega)]; exact hn⟩
  simp only [Array.getElem?_push]; rw [if_neg (by omega)]; exact hb
/-- The heap's part of a step that makes a block that is told. -/
theorem HeapR.alloc {w0 : World} {h0 : Hp} {ρ : Nat → Nat} {st : St} {h : Hp} {w : World} (H : HeapR w0 h0 ρ st h w) (o : Obj) :
    HeapR w0 h0 ρ st (h.upd w.heap.size o) { w with heap := w.heap.push o } := by
  refine ⟨H.holds.alloc o, H.kept.trans (Kept.alloc h w o), fun l cs t e => ?_, H.inj, H.top⟩
  obtain ⟨a, b, c⟩ := H.loc l cs t e
  have hlt := get_lt a
  refine ⟨?_, by rw [Hp.upd_ne _ _ (by omega)]; exact b, c⟩
  simp only [Array.getElem?_push]; rw [if_neg (by omega)]; exact a
/-- A step that makes a block that is not told. -/
theorem HeapR.allocHid {w0 : World} {h0 : Hp} {ρ : Nat → Nat} {st : St} {h : Hp} {w : World} (H : HeapR w0 h0 ρ st h w) (o : Obj) :
    HeapR w0 h0 ρ st h { w with heap := w.heap.push o } := by
  refine ⟨fun b x hb => ?_, ⟨H.kept.os, H.kept.tape, H.kept.output, Nat.le_trans H.kept.size (by simp), fun b x hb hn => ?_⟩, fun l cs t e => ?_, H.inj, H.top⟩
  · have h1 := H.holds b x hb
    have := get_lt h1
    simp only [Array.getElem?_push]; rw [if_neg (by omega)]; exact h1
  · obtain ⟨h1, h2⟩ := H.kept.block b x hb hn
    have := get_lt h1
    refine ⟨?_, h2⟩
    simp only [Array.getElem?_push]; rw [if_neg (by omega)]; exact h1
  · obtain ⟨a, b, c⟩ := H.loc l cs t e
    have hlt := get_lt a
    refine ⟨?_, b, c⟩
    simp only [Array.getElem?_push]; rw [if_neg (by omega)]; exact a
/-- A new local block. -/
theorem HeapR.newL {w0 : World} {h0 : Hp} {ρ : Nat → Nat} {st : St} {h : Hp} {w : World} (H : HeapR w0 h0 ρ st h w) (cs : List Value) (t : TypeId) :
    HeapR w0 h0 (fun l => if l = st.n then w.heap.size else ρ l) (st.newL cs t) h { w with heap := w.heap.push (.cells cs.toArray t (0, 0)) } := by
  have G := H.allocHid (.cells cs.toArray t (0, 0))
  have key : ∀ l x, (st.newL cs t).L l = some x → (l = st.n ∧ x = (cs, t)) ∨ (l ≠ st.n ∧ st.L l = some x) := by
    intro l x e
    simp only [St.newL] at e
    by_cases hl : l = st.n
    · subst hl; rw [nbeq_self] at e; cases e; exact .inl ⟨rfl, rfl⟩
    · rw [nbeq_ne hl] at e; exact .inr ⟨hl, e⟩
  refine ⟨G.holds, G.kept, fun l c u e => ?_, fun l m x y e1 e2 e3 => ?_, fun l hl => ?_⟩
  · rcases key l _ e with ⟨rfl, hx⟩ | ⟨hl, hx⟩
    · cases hx
      simp only [if_true]
      refine ⟨by simp, H.holds.fresh (Nat.le_refl _), fun o h1 h2 => ?_⟩
      have := get_lt (H.kept.block _ o h1 h2).1; omega
    · simp only [if_neg hl]; exact G.loc l c u hx
  · rcases key l _ e1 with ⟨rfl, hx⟩ | ⟨hl, hx⟩ <;> rcases key m _ e2 with ⟨rfl, hy⟩ | ⟨hm, hy⟩
    · rfl
    · simp only [if_true, if_neg hm] at e3
      have := get_lt (H.loc m y.1 y.2 hy).1; omega
    · simp only [if_true, if_neg hl] at e3
      have := get_lt (H.loc l x.1 x.2 hx).1; omega
    · simp only [if_neg hl, if_neg hm] at e3; exact H.inj l m x y hx hy e3
  · simp only [St.newL] at hl ⊢
    rw [nbeq_ne (by omega)]; exact H.top l (by omega)
theorem Ext.newL {ρ : Nat → Nat} (st : St) (n : Nat) (cs : List Value) (t : TypeId) : Ext ρ (fun l => if l = st.n then n else ρ l) st (st.newL cs t) := by
  refine ⟨by simp [St.newL], fun l hl => by simp; omega, fun l hl => ⟨by simp [St.newL], fun _ => ?_⟩, rfl⟩
  simp only [St.newL]
  rw [nbeq_ne (by omega)]; rfl

end Go.Gx
