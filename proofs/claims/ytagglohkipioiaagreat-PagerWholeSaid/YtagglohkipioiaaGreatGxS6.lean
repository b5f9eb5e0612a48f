/- Soundness of the executor, sixth part: builtins and calls. -/
import Derived.Test.YtagglohkipioiaaGreatGxS5
namespace Go.Gx

theorem zeroCs_spec {P : Program} {t : TypeId} {F : List Value → Prop} (H : zeroCs P t F) : ∃ v, zeroT P t = some v ∧ (cellsOfV v).length = szT P t ∧ F (cellsOfV v) := by
  unfold zeroCs at H
  cases e : zeroT P t with
  | none => rw [e] at H; exact H.elim
  | some v =>
    rw [e] at H
    cases e2 : Nat.beq (cellsOfV v).length (szT P t) with
    | false => simp only [e2] at H; exact H.elim
    | true => simp only [e2] at H; exact ⟨v, rfl, Nat.eq_of_beq_eq_true e2, H⟩
theorem zeroCells_list (z : Array Value) : ∀ n, (Builtin.zeroCells z n).toList = (List.replicate n z.toList).flatten
  | 0 => by simp [Builtin.zeroCells]
  | n + 1 => by
    have ih := zeroCells_list z n
    rw [List.replicate_succ', List.flatten_append, ← ih]
    unfold Builtin.zeroCells
    rw [Nat.succ_mul]
    simp only [Array.toList_map, Array.toList_range, List.range_add, List.map_append, List.map_map, List.flatten_singleton]
    congr 1
    apply List.ext_getElem
    · simp
    · intro i h1 h2
      simp at h1 h2
      have : (n * z.size + i) % z.size = i := by rw [Nat.mul_comm, Nat.mul_add_mod]; exact Nat.mod_eq_of_lt h1
      simp [this, h1]
theorem growBy_le : ∀ (r c n : Nat), c ≤ 2 * n + 768 → Builtin.growBy n r c ≤ 2 * n + 768
  | 0, c, n, h => by simpa [Builtin.growBy] using h
  | r + 1, c, n, h => by
    unfold Builtin.growBy
    split
    · exact h
    · exact growBy_le r _ n (by omega)
theorem nextcap_le {need cap : Nat} (h : cap < need) : Builtin.nextslicecap need cap ≤ 2 * need + 768 := by
  unfold Builtin.nextslicecap
  split
  · omega
  · split
    · omega
    · exact growBy_le _ _ _ (by omega)
theorem run_first_slice {P : Program} {h : Hp} {w : World} (hw : Holds h w) {a : Option Addr} {size n cap m : Nat} {xs : List Value} (hs : SliceAt h a (n * size) xs) : (Builtin.firstCells size n (.slice a m cap)).run P w = .ok xs.toArray w := by
  obtain ⟨hl, hc⟩ := hs
  cases a with
  | none =>
    have h0 : n * size = 0 := by
      rcases hc with hc | ⟨b, o, hc, _⟩
      · exact hc
      · cases hc
    have : xs = [] := List.length_eq_zero_iff.1 (by omega)
    subst this; rfl
  | some ad =>
    show (loadCells ad (n * size)).run P w = _
    rcases hc with hc | ⟨b, o, hc, hcs⟩
    · have : xs = [] := List.length_eq_zero_iff.1 (by omega)
      subst this; rw [hc]; rfl
    · cases hc
      exact SliceAt_cells hw hl hcs
theorem appendI_spec {P : Program} {e t u : TypeId} {d : TypeDesc} {a : Option Addr} {len cap n : Nat} {h : Hp} {xs : List Value} {F : Value → Hp → Prop} {x : Value} {ty : TypeId} {rest : List TypeId} (ht : P.underlying t = some (.slice e)) (hu : P.underlying u = some d) (hd : ∀ k, d ≠ .int k)
    (H : appendI P e a len cap h xs n F) {w0 : World} {h0 : Hp} {ρ : Nat → Nat} {st : St} {w : World} (hh : HeapR w0 h0 ρ st h w)
    (hn : (Builtin.lenOf x).run P w = .ok n w) (hf : ∀ w', Holds h w' → (Builtin.firstCells (szT P e) n x).run P w' = .ok xs.toArray w') :
    ∃ v w' h', F v h' ∧ (Builtin.append_ (t :: u :: rest).toArray ty #[.slice a len cap, x]).run P w = .ok v w' ∧ HeapR w0 h0 ρ st h' w' := by
  unfold appendI at H
  cases hok : (okT P e && Nat.blt 0 (byT P e)) with
  | false => rw [hok] at H; exact H.elim
  | true =>
    rw [hok] at H
    simp only [Bool.not_true, cond_false] at H
    obtain ⟨hE, hB⟩ := Bool.and_eq_true_iff.1 hok
    have hB' : 0 < byT P e := by
      have := Nat.le_of_ble_eq_true hB; omega
    obtain ⟨H1, H2⟩ := H
    simp only [leN, ltN, nadd, nmul, nsub] at H1 H2
    unfold Builtin.append_
    simp only [List.getElem?_toArray, List.getElem?_cons_zero, List.getElem?_cons_succ, Sem.run_bind, run_under ht, run_under hu, Result.andThen_ok, run_size hE, Sem.run_pure, Bool.false_eq_true, if_false, hn, Bool.not_false, if_true]
    by_cases hc : len + n ≤ cap
    · rw [if_pos hc]
      simp only [Sem.run_bind, hf w hh.holds, Result.andThen_ok]
      rcases H1 hc with ⟨rfl, rfl, H⟩ | ⟨b, o, rfl, H⟩
      · exact ⟨_, w, h, H, rfl, hh⟩
      · obtain ⟨hp, H⟩ := plainW_spec H
        obtain ⟨cs, t', lo, hi, g1, g2, g3, H⟩ := storeH_elim H
        refine ⟨_, _, _, H, ?_, hh.setB g1 _⟩
        simp only [add_mk]
        rw [Sem.run_bind, run_storeCells xs 0 w cs (hh.holds _ _ g1) (by simpa using g2) (by simpa using g3) hp]
        rfl
    · rw [if_neg hc]
      simp only [Sem.run_bind, run_info hE, Result.andThen_ok]
      obtain ⟨g1, old, g2, H⟩ := H2 (by omega)
      have hcap := grownCap_ge w (len + n) cap e
      have hno : ¬ (((len + n : Nat) : Int) > IntKind.i64.max ∧ (False ∨ (tinfo P e).bytes = 0)) := by
        intro hx
        have : byT P e = 0 := by rcases hx.2 with h | h; exact h.elim; exact h
        omega
      have hbig : ¬ (Builtin.nextslicecap (len + n) cap * (tinfo P e).bytes > 2 ^ 48) := by
        have h1 := Nat.mul_le_mul_right (byT P e) (nextcap_le (need := len + n) (cap := cap) (by omega))
        have h2 : (tinfo P e).bytes = byT P e := rfl
        rw [h2]; omega
      obtain ⟨z, hz1, hz2, H⟩ := zeroCs_spec (H _ hcap)
      have hx := H w.heap.size (hh.holds.fresh (Nat.le_refl _))
      refine ⟨_, { w with drawn := w.drawn + 1, heap := w.heap.push _ }, _, hx, ?_, hh.push rfl rfl rfl rfl⟩
      rw [if_neg (by simpa using hno), Sem.run_bind, run_info hE]
      simp only [Result.andThen_ok]
      rw [if_neg hbig]
      have hfz : (Question.appendCap (len + n) cap e).forced = false := rfl
      have hw1 : Holds h { w with drawn := w.drawn + 1 } := hh.holds
      simp only [Sem.run_bind, run_choose, hfz, Bool.false_eq_true, if_false, Result.andThen_ok, run_info hE, run_askRoom, run_first_slice hw1 g2, hf _ hw1, run_zero hz1, newRow, run_newObj, Sem.run_pure]
      have hzc : Builtin.zeroCells z.cells (grownCap w (len + n) cap e - (len + n)) = ((List.replicate (grownCap w (len + n) cap e - (len + n)) (cellsOfV z)).flatten).toArray := by
        apply Array.ext'
        rw [zeroCells_list, cells_toList]
      have e1 : (Question.appendCap (len + n) cap e).cut (w.tape w.drawn (Question.appendCap (len + n) cap e)) = grownCap w (len + n) cap e := rfl
      rw [e1, hzc]
      simp only [List.append_toArray, grown]
theorem appendW_spec {P : Program} {e t u : TypeId} {d : TypeDesc} {a : Option Addr} {len cap n : Nat} {h : Hp} {xs : List Value} {F : Value → Hp → Prop} {x : Value} {ty : TypeId} {rest : List TypeId} (ht : P.underlying t = some (.slice e)) (hu : P.underlying u = some d) (hd : ∀ k, d ≠ .int k)
    (H : appendW P e a len cap h xs n F) {w0 : World} {h0 : Hp} {ρ : Nat → Nat} {st : St} {w : World} (hh : HeapR w0 h0 ρ st h w)
    (hn : (Builtin.lenOf x).run P w = .ok n w) (hf : ∀ w', Holds h w' → (Builtin.firstCells (szT P e) n x).run P w' = .ok xs.toArray w') :
    ∃ v w' h', F v h' ∧ (Builtin.append_ (t :: u :: rest).toArray ty #[.slice a len cap, x]).run P w = .ok v w' ∧ HeapR w0 h0 ρ st h' w' := by
  obtain ⟨J, hJ, hC⟩ := H
  obtain ⟨v, w', h', ⟨a', c', rfl, hj⟩, h2⟩ := appendI_spec ht hu hd hC hh ‹_› ‹_›
  exact ⟨_, w', h', hJ a' c' h' hj, h2⟩
end Go.Gx
