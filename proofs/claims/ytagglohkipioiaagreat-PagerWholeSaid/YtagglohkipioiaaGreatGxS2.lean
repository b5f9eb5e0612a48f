/- Soundness of the executor, second part: reading and writing memory, types. -/
import Derived.Test.YtagglohkipioiaaGreatGxS1
namespace Go.Gx

theorem wp_value {P : Program} {o : Oper} {a : Act} {w w' : World} {next : Act → World → Prop} {Q : Exit → Act → World → Prop} {v : Value}
    (hr : (execOp a.eval o).run P w = .ok (.value v) w') (hn : next (a.put o.dst v) w') : o.wp P a w next Q := by
  unfold Oper.wp; rw [hr]; exact hn
theorem wp_unit {P : Program} {o : Oper} {a : Act} {w w' : World} {next : Act → World → Prop} {Q : Exit → Act → World → Prop}
    (hr : (execOp a.eval o).run P w = .ok .skip w') (hn : next (a.put o.dst undef) w') : o.wp P a w next Q := by
  unfold Oper.wp; rw [hr]; exact hn
theorem wp_enter {P : Program} {o : Oper} {a : Act} {w w' : World} {next : Act → World → Prop} {Q : Exit → Act → World → Prop} {f : FuncId} {args : Array Value}
    (hr : (execOp a.eval o).run P w = .ok (.enter f args) w') {R : Ending → World → Prop} (hc : Calls P f args w' R) (hn : ∀ e w'', R e w'' → ∃ v, e = .returned v ∧ next (a.put o.dst v) w'') : o.wp P a w next Q := by
  unfold Oper.wp; rw [hr]
  refine Calls.mono hc fun e w'' h => ?_
  obtain ⟨v, rfl, hv⟩ := hn e w'' h
  exact hv

/-! ### types -/
theorem tdesc_some {P : Program} {t : TypeId} {d : TypeDesc} (h : tdesc P t = d) (hd : d ≠ .invalid) : P.underlying t = some d := by
  unfold tdesc at h
  cases e : P.underlying t with
  | none => rw [e] at h; exact absurd h.symm hd
  | some x => rw [e] at h; simp at h; rw [h]
theorem okT_some {P : Program} {t : TypeId} (h : okT P t = true) : P.info? t = some (tinfo P t) := by
  unfold okT at h; unfold tinfo
  cases e : P.info? t with
  | none => rw [e] at h; cases h
  | some i => rfl
theorem okU_some {P : Program} {t : TypeId} (h : okU P t = true) : P.underlying t = some (tdesc P t) := by
  unfold okU at h; unfold tdesc
  cases e : P.underlying t with
  | none => rw [e] at h; cases h
  | some i => rfl
theorem okT_of_under {P : Program} {t : TypeId} {d : TypeDesc} (h : P.underlying t = some d) : okT P t = true := by
  unfold Program.underlying at h; unfold okT
  cases e : P.info? t with
  | none => rw [e] at h; cases h
  | some i => rfl
theorem okT_of_sz {P : Program} {t : TypeId} (h : szT P t ≠ 0) : okT P t = true := by
  unfold szT tinfo at h; unfold okT
  cases e : P.info? t with
  | none => rw [e] at h; exact absurd rfl h
  | some i => rfl
theorem okT_of_zero {P : Program} {t : TypeId} {v : Value} (h : zeroT P t = some v) : okT P t = true := by
  unfold zeroT tinfo at h; unfold okT
  cases e : P.info? t with
  | none => rw [e] at h; cases h
  | some i => rfl
theorem run_under {P : Program} {t : TypeId} {d : TypeDesc} (h : P.underlying t = some d) (w : World) : (underlying t).run P w = .ok d w := by
  unfold underlying program
  show (match P.underlying t with | some d => (pure d : Sem TypeDesc) | none => stuck "no such type").run P w = _
  rw [h]; rfl
theorem run_info {P : Program} {t : TypeId} (h : okT P t = true) (w : World) : (typeInfo t).run P w = .ok (tinfo P t) w := by
  unfold typeInfo program
  show (match P.info? t with | some d => (pure d : Sem TypeInfo) | none => stuck "no such type").run P w = _
  rw [okT_some h]; rfl
theorem run_size {P : Program} {t : TypeId} (h : okT P t = true) (w : World) : (sizeOf t).run P w = .ok (szT P t) w := by
  unfold sizeOf; rw [Sem.run_bind, run_info h]; rfl
theorem run_zero {P : Program} {t : TypeId} {v : Value} (h : zeroT P t = some v) (w : World) : (zeroValue t).run P w = .ok v w := by
  unfold zeroValue; rw [Sem.run_bind, run_info (okT_of_zero h)]
  have : (tinfo P t).zero = some v := h
  simp only [Result.andThen_ok, this]; rfl
theorem run_agg {P : Program} {t : TypeId} {d : TypeDesc} (h : P.underlying t = some d) (w : World) : (isAgg t).run P w = .ok (aggT P t) w := by
  unfold isAgg; rw [Sem.run_bind, run_under h]
  have e : tdesc P t = d := by unfold tdesc; rw [h]; rfl
  simp only [Result.andThen_ok, aggT, e]
  cases d <;> rfl

/-! ### addresses and cells -/
theorem add_mk (b o n : Nat) : (Addr.mk b o none).add n = ⟨b, o + n, none⟩ := by
  unfold Addr.add; split
  · rename_i h; subst h; rfl
  · rfl
theorem run_load {P : Program} {w : World} {a : Addr} {v : Value} (h : w.cell? a = some v) : (load a).run P w = .ok v w := by
  simp only [load, Sem.run, h]
theorem run_loadCellsFrom {P : Program} {w : World} {b o : Nat} : ∀ (vs : List Value) (i : Nat) (acc : Array Value), (∀ j (hj : j < vs.length), w.cell? ⟨b, o + i + j, none⟩ = some vs[j]) →
    (loadCellsFrom ⟨b, o, none⟩ i vs.length acc).run P w = .ok (acc ++ vs.toArray) w
  | [], i, acc, _ => by simp [loadCellsFrom, pure]
  | v :: vs, i, acc, h => by
    have h0 := h 0 (by simp)
    simp only [List.length_cons, loadCellsFrom, Sem.run_bind, add_mk]
    rw [run_load (by simpa using h0)]
    simp only [Result.andThen_ok]
    rw [run_loadCellsFrom vs (i + 1) (acc.push v) fun j hj => by
      have := h (j + 1) (by simp; omega)
      rw [show o + (i + 1) + j = o + i + (j + 1) by omega]; simpa using this]
    simp
theorem run_loadCells {P : Program} {w : World} {b o : Nat} (vs : List Value) (h : ∀ j (hj : j < vs.length), w.cell? ⟨b, o + j, none⟩ = some vs[j]) {n : Nat} (hn : vs.length = n) :
    (loadCells ⟨b, o, none⟩ n).run P w = .ok vs.toArray w := by
  subst hn
  unfold loadCells
  rw [run_loadCellsFrom vs 0 #[] (by simpa using h)]; simp
theorem Kd.ex_spec {k : Kd} {F : Value → Prop} (h : k.ex F) : ∃ v, F v := by
  cases k <;> simp only [Kd.ex] at h
  case slice => obtain ⟨a, l, c, h⟩ := h; exact ⟨_, h⟩
  all_goals (obtain ⟨x, h⟩ := h; exact ⟨_, h⟩)
theorem kdsEx_spec : ∀ {ks : List Kd} {F : List Value → Prop}, kdsEx ks F → ∃ vs, vs.length = ks.length ∧ F vs
  | [], _, h => ⟨[], rfl, h⟩
  | _ :: _, _, h => by
    obtain ⟨v, h⟩ := Kd.ex_spec h
    obtain ⟨vs, e, h⟩ := kdsEx_spec h
    exact ⟨v :: vs, by simp [e], h⟩
mutual
theorem Vt.ex_spec : ∀ {t : Vt} {F : Value → Prop}, t.ex F → ∃ v, F v
  | .one k, F, h => Kd.ex_spec (k := k) (by simpa [Vt.ex] using h)
  | .agg ks, F, h => by
    simp only [Vt.ex] at h
    obtain ⟨vs, _, h⟩ := kdsEx_spec h
    exact ⟨_, h⟩
  | .big n k, F, h => by
    simp only [Vt.ex] at h
    obtain ⟨ns, _, h⟩ := h
    exact ⟨_, h⟩
  | .blob n, F, h => by
    simp only [Vt.ex] at h
    obtain ⟨vs, _, h⟩ := h
    exact ⟨_, h⟩
  | .tup l, F, h => by
    simp only [Vt.ex] at h
    obtain ⟨vs, h⟩ := Vt.exL_spec h
    exact ⟨_, h⟩
theorem Vt.exL_spec : ∀ {l : List Vt} {F : List Value → Prop}, Vt.exL l F → ∃ vs, F vs
  | [], F, h => ⟨[], by simpa [Vt.exL] using h⟩
  | t :: ts, F, h => by
    simp only [Vt.exL] at h
    obtain ⟨v, h⟩ := Vt.ex_spec h
    obtain ⟨vs, h⟩ := Vt.exL_spec h
    exact ⟨_, h⟩
end
theorem loadKs_spec {h : Hp} {b : Nat} : ∀ {ks : List Kd} {o : Nat} {F : List Value → Prop}, loadKs h b o ks F → ∃ vs, vs.length = ks.length ∧ (∀ j (hj : j < vs.length), h.cell b (o + j) = some vs[j]) ∧ F vs
  | [], _, _, H => ⟨[], rfl, fun j hj => by simp at hj, H⟩
  | _ :: _, o, _, H => by
    obtain ⟨v, hv, H⟩ := Kd.ex_spec H
    obtain ⟨vs, e, hc, H⟩ := loadKs_spec H
    refine ⟨v :: vs, by simp [e], fun j hj => ?_, H⟩
    cases j with
    | zero => simpa using hv
    | succ j => rw [show o + (j + 1) = o + 1 + j by omega]; simpa using hc j (by simpa using hj)
theorem loadH_spec {P : Program} {t : TypeId} {h : Hp} {b o : Nat} {F : Value → Prop} (H : loadH P t h b o F) :
    ∃ v, F v ∧ ∀ w, Holds h w → (loadVar t ⟨b, o, none⟩).run P w = .ok v w := by
  unfold loadH at H
  cases eb : bigT P t with
  | some nk =>
    obtain ⟨n, k⟩ := nk
    rw [eb] at H
    simp only [] at H
    cases e2 : Nat.beq n (szT P t) with
    | false => rw [e2] at H; exact H.elim
    | true =>
    rw [e2] at H
    obtain ⟨ns, hl, hc, H⟩ := H
    have hu : ∃ m el, P.underlying t = some (.array m el) := by
      unfold bigT at eb
      split at eb
      · rename_i m el hd; exact ⟨m, el, tdesc_some hd (by simp)⟩
      · cases eb
    obtain ⟨m, el, hu⟩ := hu
    have ea : aggT P t = true := by unfold aggT tdesc; rw [hu]; rfl
    refine ⟨_, H, fun w hw => ?_⟩
    unfold loadVar
    rw [Sem.run_bind, run_agg hu, ea]
    simp only [Result.andThen_ok, if_true, Sem.run_bind, run_size (okT_of_under hu)]
    rw [run_loadCells (bigV k ns) (fun j hj => hw.cell (hc j hj)) (by rw [bigV, List.length_map, hl]; exact Nat.eq_of_beq_eq_true e2)]
    rfl
  | none =>
  rw [eb] at H
  simp only [] at H
  cases eB : blobT P t with
  | true =>
    rw [eB] at H
    obtain ⟨vs, hl, hc, H⟩ := H
    have ea : aggT P t = true := by
      unfold blobT at eB
      exact (Bool.and_eq_true_iff.1 (Bool.and_eq_true_iff.1 eB).1).1
    have hu : ∃ d, P.underlying t = some d := by
      unfold aggT at ea
      cases hd : tdesc P t <;> rw [hd] at ea <;> first | (cases ea; done) | exact ⟨_, tdesc_some hd (by simp)⟩
    obtain ⟨d, hu⟩ := hu
    refine ⟨_, H, fun w hw => ?_⟩
    unfold loadVar
    rw [Sem.run_bind, run_agg hu, ea]
    simp only [Result.andThen_ok, if_true, Sem.run_bind, run_size (okT_of_under hu)]
    rw [run_loadCells vs (fun j hj => hw.cell (hc j hj)) hl]
    rfl
  | false =>
  rw [eB] at H
  simp only [cond_false] at H
  cases e : aggT P t with
  | true =>
    rw [e] at H; simp only [cond_true] at H
    cases e2 : Nat.beq (kds P t).length (szT P t) with
    | false => rw [e2] at H; exact H.elim
    | true =>
      rw [e2] at H; simp only [cond_true] at H
      obtain ⟨vs, hl, hc, H⟩ := loadKs_spec H
      have hu : ∃ d, P.underlying t = some d := by
        unfold aggT at e
        cases hd : tdesc P t <;> rw [hd] at e <;> first | (cases e; done) | exact ⟨_, tdesc_some hd (by simp)⟩
      obtain ⟨d, hu⟩ := hu
      refine ⟨_, H, fun w hw => ?_⟩
      unfold loadVar
      rw [Sem.run_bind, run_agg hu, e]
      simp only [Result.andThen_ok, if_true, Sem.run_bind, run_size (okT_of_under hu)]
      rw [run_loadCells vs (fun j hj => hw.cell (hc j hj)) (hl.trans (Nat.eq_of_beq_eq_true e2))]
      rfl
  | false =>
    rw [e] at H; simp only [cond_false] at H
    cases e2 : okU P t with
    | false => rw [e2] at H; exact H.elim
    | true =>
      rw [e2] at H; simp only [cond_true] at H
      obtain ⟨v, hv, H⟩ := Kd.ex_spec H
      refine ⟨v, H, fun w hw => ?_⟩
      unfold loadVar
      rw [Sem.run_bind, run_agg (okU_some e2), e]
      simp only [Result.andThen_ok, Bool.false_eq_true, if_false]
      exact run_load (hw.cell hv)

/-! ### writing -/
def _root_.Go.World.setB (w : World) (b : Nat) (o : Obj) : World := { w with heap := w.heap.setIfInBounds b o }
theorem setB_get (w : World) (b c : Nat) (o : Obj) (hb : b < w.heap.size) : (w.setB b o).heap[c]? = if c = b then some o else w.heap[c]? := by
  unfold World.setB
  by_cases e : c = b
  · subst e; simp [hb]
  · rw [if_neg e]; simp [Ne.symm e]
theorem setCell_eq {w : World} {b o : Nat} {cs : Array Value} {t : TypeId} {fz : Nat × Nat} (h : w.heap[b]? = some (.cells cs t fz)) (v : Value) :
    w.setCell ⟨b, o, none⟩ v = w.setB b (.cells (cs.setIfInBounds o v) t fz) := by
  unfold World.setCell World.setB
  congr 1
  apply Array.ext_getElem?
  intro i
  have hb := get_lt h
  rw [Array.getElem?_modify, Array.getElem?_setIfInBounds]
  by_cases e : b = i
  · subst e
    have h' : w.heap[b] = .cells cs t fz := by
      rw [Array.getElem?_eq_getElem hb] at h; exact Option.some.inj h
    simp [hb, h']
  · simp [e]
theorem setB_setB (w : World) (b : Nat) (x y : Obj) : (w.setB b x).setB b y = w.setB b y := by
  unfold World.setB; simp
theorem plainW_spec : ∀ {vs : List Value} {F : Prop}, plainW vs F → (∀ v ∈ vs, (∀ c, v ≠ .agg c) ∧ (∀ c, v ≠ .tuple c)) ∧ F
  | [], _, h => ⟨fun _ h => by simp at h, h⟩
  | v :: vs, F, h => by
    have hv : (∀ c, v ≠ .agg c) ∧ (∀ c, v ≠ .tuple c) ∧ plainW vs F := by
      cases v <;> first | exact h.elim | exact ⟨(fun c h => by cases h), (fun c h => by cases h), h⟩
    obtain ⟨h1, h2⟩ := plainW_spec hv.2.2
    exact ⟨fun u hu => by rcases List.mem_cons.1 hu with rfl | hu; exact ⟨hv.1, hv.2.1⟩; exact h1 u hu, h2⟩
theorem idxMul_eq (x : Operand) (n s : Nat) : idxMul x n s = n * s := by cases x <;> rfl
theorem isZeros_eq {k : IntKind} : ∀ {l : List Value}, isZeros k l = true → l = bigV k (List.replicate l.length 0)
  | [], _ => rfl
  | v :: l, h => by
    unfold isZeros at h
    split at h
    · rename_i heq; cases heq
    · rename_i k' l' heq
      cases heq
      obtain ⟨h1, h2⟩ := Bool.and_eq_true_iff.1 h
      have e : k = k' := by cases k <;> cases k' <;> first | rfl | cases h1
      subst e
      have := isZeros_eq h2
      rw [List.length_cons, List.replicate_succ]
      show Value.int k (Int.ofNat 0) :: l = Value.int k 0 :: bigV k (List.replicate l.length 0)
      rw [← this]; rfl
    · cases h
theorem storeH_elim {h : Hp} {b o : Nat} {vs : List Value} {F : Hp → Prop} (H : storeH h b o vs F) :
    ∃ cs t lo hi, h b = some (.cells cs t (lo, hi)) ∧ o + vs.length ≤ cs.size ∧ (hi ≤ o ∨ o + vs.length ≤ lo) ∧ F (h.upd b (.cells (setCells cs o vs) t (lo, hi))) := by
  obtain ⟨⟨cs, t, lo, hi, h1, h2, h3⟩, hF⟩ := H
  refine ⟨cs, t, lo, hi, h1, h2, h3, ?_⟩
  unfold Hp.put at hF
  rw [h1] at hF
  exact hF
theorem run_store {P : Program} {w : World} {b o : Nat} {cs : Array Value} {t : TypeId} {lo hi : Nat} {v : Value} (h : w.heap[b]? = some (.cells cs t (lo, hi))) (ho : o < cs.size) (hf : hi ≤ o ∨ o < lo)
    (hv : (∀ c, v ≠ .agg c) ∧ (∀ c, v ≠ .tuple c)) : (store ⟨b, o, none⟩ v).run P w = .ok () (w.setB b (.cells (cs.setIfInBounds o v) t (lo, hi))) := by
  have hc : w.cell? ⟨b, o, none⟩ = some cs[o] := by simp [World.cell?, h, ho]
  have hz : w.frozen? ⟨b, o, none⟩ = false := by simp [World.frozen?, h]; omega
  unfold store
  cases v with
  | agg c => exact absurd rfl (hv.1 c)
  | tuple c => exact absurd rfl (hv.2 c)
  | _ => simp only [Sem.run, hc, hz, Bool.false_eq_true, if_false, setCell_eq h]
theorem size_setCells : ∀ (vs : List Value) (cs : Array Value) (o : Nat), (setCells cs o vs).size = cs.size
  | [], _, _ => rfl
  | v :: vs, cs, o => by rw [setCells, size_setCells vs]; simp
theorem run_storeCells {P : Program} {b o : Nat} {t : TypeId} {lo hi : Nat} : ∀ (vs : List Value) (i : Nat) (w : World) (cs : Array Value), w.heap[b]? = some (.cells cs t (lo, hi)) → o + i + vs.length ≤ cs.size →
    (hi ≤ o + i ∨ o + i + vs.length ≤ lo) → (∀ v ∈ vs, (∀ c, v ≠ .agg c) ∧ (∀ c, v ≠ .tuple c)) →
    (storeCells ⟨b, o, none⟩ vs i).run P w = .ok () (w.setB b (.cells (setCells cs (o + i) vs) t (lo, hi)))
  | [], i, w, cs, h, _, _, _ => by
    have : w.setB b (.cells cs t (lo, hi)) = w := by
      unfold World.setB
      have : w.heap.setIfInBounds b (.cells cs t (lo, hi)) = w.heap := by
        apply Array.ext_getElem?
        intro j
        rw [Array.getElem?_setIfInBounds]
        by_cases e : b = j
        · subst e
          have hb := get_lt h
          rw [Array.getElem?_eq_getElem hb] at h
          simp [hb, Option.some.inj h]
        · simp [e]
      rw [this]
    simp only [storeCells, setCells, this]; rfl
  | v :: vs, i, w, cs, h, h1, h2, h3 => by
    simp only [List.length_cons] at h1 h2
    simp only [storeCells, Sem.run_bind, add_mk]
    rw [run_store h (by omega) (by omega) (h3 v (by simp))]
    simp only [Result.andThen_ok]
    rw [run_storeCells (t := t) (lo := lo) (hi := hi) vs (i + 1) _ (cs.setIfInBounds (o + i) v) (by rw [setB_get _ _ _ _ (get_lt h)]; simp) (by simp; omega) (by omega) fun u hu => h3 u (by simp [hu])]
    simp only [setB_setB, setCells]; rfl
theorem cells_toList (v : Value) : v.cells.toList = cellsOfV v := by cases v <;> rfl
theorem run_storeVar {P : Program} {b o : Nat} {t u : TypeId} {lo hi : Nat} {w : World} {cs : Array Value} {v : Value} (ht : okT P t = true) (hs : (cellsOfV v).length = szT P t) (h : w.heap[b]? = some (.cells cs u (lo, hi)))
    (h1 : o + (cellsOfV v).length ≤ cs.size) (h2 : hi ≤ o ∨ o + (cellsOfV v).length ≤ lo) (h3 : ∀ x ∈ cellsOfV v, (∀ c, x ≠ .agg c) ∧ (∀ c, x ≠ .tuple c)) :
    (storeVar t ⟨b, o, none⟩ v).run P w = .ok () (w.setB b (.cells (setCells cs o (cellsOfV v)) u (lo, hi))) := by
  unfold storeVar
  rw [Sem.run_bind, run_size ht]
  have hsz : v.cells.size = szT P t := by rw [← hs, ← cells_toList]; simp
  simp only [Result.andThen_ok, hsz, ne_eq, not_true, if_false, cells_toList]
  exact (run_storeCells (cellsOfV v) 0 w cs h (by simpa using h1) (by simpa using h2) h3).trans (by simp)

end Go.Gx
