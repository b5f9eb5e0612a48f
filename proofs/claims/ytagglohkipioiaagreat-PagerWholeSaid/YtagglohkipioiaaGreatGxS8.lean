/- Soundness of the executor, eighth part: each operation. -/
import Derived.Test.YtagglohkipioiaaGreatGxS7
namespace Go.Gx

section
variable {P : Program} {H : Hints} {st : St} {h hl : Hp} {K : SV → St → Hp → Prop} {a : Act} {w : World} {next : Act → World → Prop} {Q : Exit → Act → World → Prop} {w0 : World} {h0 : Hp} {ρ : Nat → Nat}
  {dst : Option Tmp} {ty : TypeId} {pos : String} {after : Array Edge} {guard : Option (Nat × Bool)}

theorem idxW_spec {x : Operand} {v : Value} {len : Nat} {F : Nat → Prop} (H : idxW x v len F) : ∃ k n, v = .int k n ∧ 0 ≤ n ∧ n < len ∧ F n.toNat := by
  unfold idxW at H
  split at H
  · rename_i k n
    split at H
    · cases e : (decide (0 ≤ n) && Nat.blt n.toNat len) with
      | false => rw [e] at H; exact H.elim
      | true =>
        rw [e] at H
        obtain ⟨e1, e2⟩ := Bool.and_eq_true_iff.1 e
        have h1 : 0 ≤ n := of_decide_eq_true e1
        have h2 : n.toNat < len := Nat.le_of_ble_eq_true e2
        exact ⟨k, n, rfl, h1, by omega, H⟩
    · exact ⟨k, n, rfl, H.1, H.2.1, H.2.2⟩
  · exact H.elim
theorem boundW_spec {x : Option Operand} {d top : Nat} {F : Nat → Prop} (he : EnvR ρ st a.tmps) (H : boundW st x d top F) :
    ∃ n, F n ∧ ((x = none ∧ n = d) ∨ ∃ (o : Operand) (k : IntKind) (i : Int), x = some o ∧ a.eval o = .int k i ∧ 0 ≤ i ∧ i ≤ top ∧ n = i.toNat) := by
  unfold boundW at H
  split at H
  · exact ⟨d, H, .inl ⟨rfl, rfl⟩⟩
  · rename_i o
    have H := evV_spec he H
    split at H
    · rename_i k i e
      exact ⟨_, H.2.2, .inr ⟨o, k, i, rfl, e, H.1, H.2.1, rfl⟩⟩
    · exact H.elim
theorem setL_eq : ∀ (vs cs : List Value) (o : Nat), setCells cs.toArray o vs = (setL cs o vs).toArray
  | [], _, _ => rfl
  | v :: vs, cs, o => by
    simp only [setCells, setL]
    rw [show cs.toArray.setIfInBounds o v = (cs.set o v).toArray by simp]
    exact setL_eq vs _ _
theorem fold_setL (off : Nat) : ∀ (vs : List Value) (cs : Array Value) (j : Nat), (vs.zipIdx j).foldl (fun cs (x : Value × Nat) => cs.setIfInBounds (off + x.2) x.1) cs = setCells cs (off + j) vs
  | [], _, _ => rfl
  | v :: vs, cs, j => by
    simp only [List.zipIdx_cons, List.foldl_cons, setCells]
    exact fold_setL off vs _ (j + 1)
theorem length_setL : ∀ (vs cs : List Value) (o : Nat), (setL cs o vs).length = cs.length
  | [], _, _ => rfl
  | v :: vs, cs, o => by rw [setL, length_setL vs]; simp
theorem partsW_spec (he : EnvR ρ st a.tmps) {place : Nat → Option (Nat × Nat)} : ∀ {ps : List (Nat × Operand)} {cells : List Value} {F : List Value → Prop}, partsW P st place cells ps F →
    ∃ cs, F cs ∧ Instr.fill place cells.toArray (ps.map fun (i, x) => (i, a.eval x)) = some cs.toArray
  | [], cells, F, H => ⟨cells, H, rfl⟩
  | (i, x) :: ps, cells, F, H => by
    unfold partsW at H
    split at H
    · rename_i off size e
      have H := evV_spec he H
      cases e2 : (Nat.beq (cellsOfV (a.eval x)).length size && Nat.ble (off + size) cells.length) with
      | false => rw [e2] at H; exact H.elim
      | true =>
        rw [e2] at H
        obtain ⟨e3, e4⟩ := Bool.and_eq_true_iff.1 e2
        have e3 := Nat.eq_of_beq_eq_true e3
        have e4 := Nat.le_of_ble_eq_true e4
        obtain ⟨cs, h1, h2⟩ := partsW_spec he (ps := ps) H
        refine ⟨cs, h1, ?_⟩
        simp only [List.map_cons, Instr.fill, e]
        have hsz : (a.eval x).cells.size = (cellsOfV (a.eval x)).length := by rw [← cells_toList]; simp
        rw [if_neg (by rw [hsz]; simp; omega), ← h2]
        congr 1
        rw [← setL_eq]
        have := fold_setL off (cellsOfV (a.eval x)) cells.toArray 0
        rw [Nat.add_zero] at this
        rw [← this, ← cells_toList, ← Array.foldl_toList, Array.toList_zipIdx]
    · exact H.elim
theorem ev_val (he : EnvR ρ st a.tmps) {x : Operand} {v : Value} (h : st.ev x = .val v) : a.eval x = v := by
  have := ev_spec he x; rw [h] at this; exact this

/-- The blocks of the local ones. -/
def LocR (ρ : Nat → Nat) (st : St) (w : World) : Prop := ∀ l cs t, st.L l = some (cs, t) → w.heap[ρ l]? = some (.cells cs.toArray t (0, 0))
/-- One value in every world that holds what is known, and that world is left alone. -/
def QSpec (P : Program) (o : Oper) (st : St) (h hl : Hp) (K : SV → St → Hp → Prop) (a : Act) (ρ : Nat → Nat) : Prop :=
  ∃ sv v, K sv st h ∧ SVr ρ st.n sv v ∧ ∀ w, Holds hl w → LocR ρ st w → (execOp a.eval o).run P w = .ok (.value v) w
theorem HeapR.locR (hh : HeapR w0 h0 ρ st h w) : LocR ρ st w := fun l cs t e => (hh.loc l cs t e).1
theorem QSpec.wp {o : Oper} (hq : QSpec P o st h hl K a ρ) (hh : HeapR w0 h0 ρ st h w) (hl' : Holds hl w) (hn : Nx w0 h0 ρ st a o.dst K next) : o.wp P a w next Q := by
  obtain ⟨sv, v, hk, hs, hr⟩ := hq
  exact wp_value (hr w hl' hh.locR) (hn.pure hk hs hh)
theorem op_pick {c x y : Operand} (hW : opW P H ⟨dst, .pick c x y, ty, pos, after, guard⟩ st h hl K) (he : EnvR ρ st a.tmps) : QSpec P ⟨dst, (.pick c x y), ty, pos, after, guard⟩ st h hl K a ρ := by
  simp only [opW] at hW
  have hW := evV_spec he hW
  split at hW
  · rename_i cv ec
    have hrun : ∀ w, (execOp a.eval ⟨dst, .pick c x y, ty, pos, after, guard⟩).run P w = .ok (.value (if cv = true then a.eval x else a.eval y)) w := fun w => by
      simp only [execOp, Sem.run_bind, ec, asBool, Sem.run_pure, Result.andThen_ok]
    split at hW
    · rename_i bx bye e1 e2
      refine ⟨_, _, hW, ?_, fun w _ _ => hrun w⟩
      rw [ev_val he e1, ev_val he e2]
      cases cv <;> rfl
    · cases cv
      · exact ⟨_, _, hW, ev_spec he y, fun w _ _ => hrun w⟩
      · exact ⟨_, _, hW, ev_spec he x, fun w _ _ => hrun w⟩
  · exact hW.elim
theorem zeroL_spec {P : Program} {t : TypeId} (h : zeroLOk P t = true) : ∃ v, zeroT P t = some v ∧ zeroL P t = cellsOfV v ∧ (cellsOfV v).length = szT P t := by
  unfold zeroLOk at h
  unfold zeroL
  cases e : zeroT P t with
  | none => rw [e] at h; cases h
  | some v => rw [e] at h; exact ⟨v, rfl, rfl, Nat.eq_of_beq_eq_true h⟩
theorem setL_length : ∀ (us vs : List Value) (o : Nat), (setL vs o us).length = vs.length
  | [], _, _ => rfl
  | u :: us, vs, o => by rw [setL, setL_length us]; simp
theorem partsB_spec (he : EnvR ρ st a.tmps) {n : Nat} {place : Nat → Option (Nat × Nat)} : ∀ {ps : List (Nat × Operand)} {cells : List Value} {F : List Value → Prop}, cells.length = n → partsB P st n place cells ps F →
    ∃ cs, F cs ∧ Instr.fill place cells.toArray (ps.map fun (i, x) => (i, a.eval x)) = some cs.toArray
  | [], cells, F, _, H => ⟨cells, H, rfl⟩
  | (i, x) :: ps, cells, F, hl, H => by
    unfold partsB at H
    split at H
    · rename_i off size e
      have H := evV_spec he H
      cases e4 : Nat.ble (off + size) n with
      | false => rw [e4] at H; exact H.elim
      | true =>
        rw [e4] at H
        obtain ⟨e3, H⟩ := H
        have e4 := Nat.le_of_ble_eq_true e4
        have hlen : (setL cells off (cellsOfV (a.eval x))).length = n := by rw [setL_length]; exact hl
        obtain ⟨cs, h1, h2⟩ := partsB_spec he (ps := ps) hlen H
        refine ⟨cs, h1, ?_⟩
        simp only [List.map_cons, Instr.fill, e]
        have hsz : (a.eval x).cells.size = (cellsOfV (a.eval x)).length := by rw [← cells_toList]; simp
        rw [if_neg (by rw [hsz]; simp; omega), ← h2]
        congr 1
        rw [← setL_eq]
        have := fold_setL off (cellsOfV (a.eval x)) cells.toArray 0
        rw [Nat.add_zero] at this
        rw [← this, ← cells_toList, ← Array.foldl_toList, Array.toList_zipIdx]
    · exact H.elim
theorem op_alloc {e : TypeId} (hW : opW P H ⟨dst, .alloc e, ty, pos, after, guard⟩ st h hl K) (hh : HeapR w0 h0 ρ st h w) (hn : Nx w0 h0 ρ st a dst K next) : (Oper.mk dst (.alloc e) ty pos after guard).wp P a w next Q := by
  simp only [opW] at hW
  cases eb : bigT P e with
  | some nk =>
    obtain ⟨n, k⟩ := nk
    rw [eb] at hW
    simp only [] at hW
    cases ez : zeroBig P e n k with
    | false => rw [ez] at hW; exact hW.elim
    | true =>
      rw [ez] at hW
      have hW : newH h (.cells (bigV k (List.replicate n 0)).toArray e (0, 0)) fun b h' => K (.ptr b 0) st h' := hW
      unfold zeroBig at ez
      split at ez
      · rename_i z hz
        obtain ⟨e1, e2⟩ := Bool.and_eq_true_iff.1 ez
        obtain ⟨e3, e4⟩ := Bool.and_eq_true_iff.1 e1
        have e5 := isZeros_eq e2
        rw [Nat.eq_of_beq_eq_true e4] at e5
        rw [← e5] at hW
        have hrun : (execOp a.eval ⟨dst, .alloc e, ty, pos, after, guard⟩).run P w = .ok (.value (.pointer (some ⟨w.heap.size, 0, none⟩))) { w with heap := w.heap.push (.cells (cellsOfV z).toArray e (0, 0)) } := by
          refine run_v ?_
          simp only [Instr.alloc, Sem.run_bind, run_zero hz, Result.andThen_ok, newVar, newRow, run_newObj, Sem.run_pure, ← cells_toList]
        refine wp_value hrun ?_
        exact hn _ _ _ _ _ ρ (hW w.heap.size (hh.holds.fresh (Nat.le_refl _))) rfl (hh.push rfl rfl rfl rfl) (Ext.refl _ _) rfl
      · cases ez
  | none =>
  rw [eb] at hW
  simp only [] at hW
  cases eB : blobT P e with
  | true =>
    rw [eB] at hW
    simp only [cond_true] at hW
    cases ez : zeroLOk P e with
    | false => rw [ez] at hW; exact hW.elim
    | true =>
      rw [ez] at hW
      simp only [cond_true] at hW
      obtain ⟨z, hz, e1, _⟩ := zeroL_spec ez
      rw [e1] at hW
      have hrun : (execOp a.eval ⟨dst, .alloc e, ty, pos, after, guard⟩).run P w = .ok (.value (.pointer (some ⟨w.heap.size, 0, none⟩))) { w with heap := w.heap.push (.cells (cellsOfV z).toArray e (0, 0)) } := by
        refine run_v ?_
        simp only [Instr.alloc, Sem.run_bind, run_zero hz, Result.andThen_ok, newVar, newRow, run_newObj, Sem.run_pure, ← cells_toList]
      refine wp_value hrun ?_
      exact hn _ _ _ _ _ ρ (hW w.heap.size (hh.holds.fresh (Nat.le_refl _))) rfl (hh.push rfl rfl rfl rfl) (Ext.refl _ _) rfl
  | false =>
  rw [eB] at hW
  simp only [cond_false] at hW
  obtain ⟨z, hz, _, hW⟩ := zeroCs_spec hW
  have hrun : (execOp a.eval ⟨dst, .alloc e, ty, pos, after, guard⟩).run P w = .ok (.value (.pointer (some ⟨w.heap.size, 0, none⟩))) { w with heap := w.heap.push (.cells (cellsOfV z).toArray e (0, 0)) } := by
    refine run_v ?_
    simp only [Instr.alloc, Sem.run_bind, run_zero hz, Result.andThen_ok, newVar, newRow, run_newObj, Sem.run_pure, ← cells_toList]
  refine wp_value hrun ?_
  cases dst with
  | none => exact hW.elim
  | some d =>
    simp only [] at hW
    cases hd : H.loc d with
    | true =>
      rw [hd] at hW
      exact hn _ _ _ _ _ _ hW ⟨by simp [St.newL], by simp⟩ (hh.newL _ _) (Ext.newL _ _ _ _) rfl
    | false =>
      rw [hd] at hW
      exact hn _ _ _ _ _ ρ (hW w.heap.size (hh.holds.fresh (Nat.le_refl _))) rfl (hh.push rfl rfl rfl rfl) (Ext.refl _ _) rfl
theorem op_box {e : TypeId} {x : Operand} (hW : opW P H ⟨dst, .box e x, ty, pos, after, guard⟩ st h hl K) (he : EnvR ρ st a.tmps) (hh : HeapR w0 h0 ρ st h w) (hn : Nx w0 h0 ρ st a dst K next) : (Oper.mk dst (.box e x) ty pos after guard).wp P a w next Q := by
  simp only [opW] at hW
  have hW := evV_spec he hW
  have hrun : (execOp a.eval ⟨dst, .box e x, ty, pos, after, guard⟩).run P w = .ok (.value (.pointer (some ⟨w.heap.size, 0, none⟩))) { w with heap := w.heap.push (.cells (cellsOfV (a.eval x)).toArray e (0, 0)) } := by
    refine run_v ?_
    simp only [Instr.box, Sem.run_bind, Result.andThen_ok, newVar, newRow, run_newObj, Sem.run_pure, ← cells_toList]
  refine wp_value hrun ?_
  cases dst with
  | none => exact hW.elim
  | some d =>
    simp only [] at hW
    cases hd : H.loc d with
    | true =>
      rw [hd] at hW
      exact hn _ _ _ _ _ _ hW ⟨by simp [St.newL], by simp⟩ (hh.newL _ _) (Ext.newL _ _ _ _) rfl
    | false =>
      rw [hd] at hW
      exact hn _ _ _ _ _ ρ (hW w.heap.size (hh.holds.fresh (Nat.le_refl _))) rfl (hh.push rfl rfl rfl rfl) (Ext.refl _ _) rfl
theorem mapM_places {P : Program} : ∀ (fs : List Field), (fs.all fun f => okT P f.type) = true → fs.mapM (fun f => (P.info? f.type).map fun i => (f.offset, i.size)) = some (fs.map fun f => (f.offset, szT P f.type))
  | [], _ => rfl
  | f :: fs, h => by
    simp only [List.all_cons, Bool.and_eq_true] at h
    simp only [List.mapM_cons, okT_some h.1, mapM_places fs h.2, Option.map_some]
    rfl
theorem op_build {t : TypeId} {ps : Array (Nat × Operand)} (hW : opW P H ⟨dst, .build t ps, ty, pos, after, guard⟩ st h hl K) (he : EnvR ρ st a.tmps) : QSpec P ⟨dst, (.build t ps), ty, pos, after, guard⟩ st h hl K a ρ := by
  simp only [opW] at hW
  cases eB : blobT P t with
  | true =>
    rw [eB] at hW
    simp only [cond_true] at hW
    cases ez : zeroLOk P t with
    | false => rw [ez] at hW; exact hW.elim
    | true =>
    rw [ez] at hW
    simp only [Bool.not_true, cond_false] at hW
    obtain ⟨z, hz, e1, e2⟩ := zeroL_spec ez
    have hI := okT_some (okT_of_zero hz)
    have hz' : (tinfo P t).zero = some z := hz
    have hmap : (ps.map fun (i, x) => (i, a.eval x)).toList = ps.toList.map fun (i, x) => (i, a.eval x) := by simp
    have hzc : z.cells = (cellsOfV z).toArray := by rw [← cells_toList]
    split at hW
    · rename_i fs e
      cases e3 : (fs.toList.all fun f => okT P f.type) with
      | false => rw [e3] at hW; exact hW.elim
      | true =>
        rw [e3] at hW
        simp only [Bool.not_true, cond_false] at hW
        obtain ⟨cs, h1, h2⟩ := partsB_spec he (by rw [e1]; exact e2) hW
        refine ⟨_, _, h1, rfl, fun w _ _ => run_v (run_build w t _ cs.toArray ?_)⟩
        unfold Program.built
        rw [hI, tdesc_some e (by simp)]
        simp only [hz', mapM_places _ e3, hmap, hzc]
        rw [← h2, e1]
        congr 1
        funext i
        simp
    · rename_i n e' e
      cases e3 : okT P e' with
      | false => rw [e3] at hW; exact hW.elim
      | true =>
        rw [e3] at hW
        simp only [Bool.not_true, cond_false] at hW
        obtain ⟨cs, h1, h2⟩ := partsB_spec he (by rw [e1]; exact e2) hW
        refine ⟨_, _, h1, rfl, fun w _ _ => run_v (run_build w t _ cs.toArray ?_)⟩
        unfold Program.built
        rw [hI, tdesc_some e (by simp)]
        simp only [hz', okT_some e3, hmap, hzc]
        rw [e1] at h2; exact h2
    · exact hW.elim
  | false =>
  rw [eB] at hW
  simp only [cond_false] at hW
  obtain ⟨z, hz, _, hW⟩ := zeroCs_spec hW
  have hI := okT_some (okT_of_zero hz)
  have hz' : (tinfo P t).zero = some z := hz
  have hmap : (ps.map fun (i, x) => (i, a.eval x)).toList = ps.toList.map fun (i, x) => (i, a.eval x) := by simp
  have hzc : z.cells = (cellsOfV z).toArray := by rw [← cells_toList]
  split at hW
  · rename_i fs e
    cases e2 : (fs.toList.all fun f => okT P f.type) with
    | false => rw [e2] at hW; exact hW.elim
    | true =>
      rw [e2] at hW
      simp only [Bool.not_true, cond_false] at hW
      obtain ⟨cs, h1, h2⟩ := partsW_spec he hW
      refine ⟨_, _, h1, rfl, fun w _ _ => run_v (run_build w t _ cs.toArray ?_)⟩
      unfold Program.built
      rw [hI, tdesc_some e (by simp)]
      simp only [hz', mapM_places _ e2, hmap, hzc]
      rw [← h2]
      congr 1
      funext i
      simp
  · rename_i n e' e
    cases e2 : okT P e' with
    | false => rw [e2] at hW; exact hW.elim
    | true =>
      rw [e2] at hW
      simp only [Bool.not_true, cond_false] at hW
      obtain ⟨cs, h1, h2⟩ := partsW_spec he hW
      refine ⟨_, _, h1, rfl, fun w _ _ => run_v (run_build w t _ cs.toArray ?_)⟩
      unfold Program.built
      rw [hI, tdesc_some e (by simp)]
      simp only [hz', okT_some e2, hmap, hzc]
      exact h2
  · exact hW.elim
theorem flat_get {z : List Value} {m : Nat} (hz : z.length = m) : ∀ len, ((Array.range (len * m)).map (fun i => z.toArray[i % z.toArray.size]!)) = (List.replicate len z).flatten.toArray := by
  intro len
  have := zeroCells_list z.toArray len
  apply Array.ext'
  rw [← this]
  simp [Builtin.zeroCells, hz]
theorem op_buildSlice {t : TypeId} {len : Nat} {ps : Array (Nat × Operand)} (hW : opW P H ⟨dst, .buildSlice t len ps, ty, pos, after, guard⟩ st h hl K) (he : EnvR ρ st a.tmps) (hh : HeapR w0 h0 ρ st h w) (hn : Nx w0 h0 ρ st a dst K next) : (Oper.mk dst (.buildSlice t len ps) ty pos after guard).wp P a w next Q := by
  simp only [opW] at hW
  split at hW
  · rename_i e hd
    cases e2 : (Nat.blt (len * szT P e) 16777216 && Nat.blt 0 (szT P e)) with
    | false => simp only [e2] at hW; exact hW.elim
    | true =>
      simp only [e2, cond_true] at hW
      obtain ⟨e3, e4⟩ := Bool.and_eq_true_iff.1 e2
      have e3 : len * szT P e < 16777216 := Nat.le_of_ble_eq_true e3
      have e4 : 0 < szT P e := Nat.le_of_ble_eq_true e4
      have hW : ∃ z, zeroT P e = some z ∧ (cellsOfV z).length = szT P e ∧ ∃ cs : List Value, (newH h (.cells cs.toArray e (0, 0)) fun b h' => K (.val (.slice (some ⟨b, 0, none⟩) len len)) st h') ∧
          Instr.fill (fun i => some (i * szT P e, szT P e)) (List.replicate len (cellsOfV z)).flatten.toArray (ps.toList.map fun (i, x) => (i, a.eval x)) = some cs.toArray := by
        cases eB : blobT P e with
        | true =>
          rw [eB] at hW
          simp only [cond_true] at hW
          cases ez : zeroLOk P e with
          | false => rw [ez] at hW; exact hW.elim
          | true =>
            rw [ez] at hW
            simp only [Bool.not_true, cond_false] at hW
            obtain ⟨z, hz, f1, f2⟩ := zeroL_spec ez
            have hln : (zeroRow P e len).length = len * szT P e := by
              unfold zeroRow; rw [f1]; simp [f2]
            obtain ⟨cs, h1, h2⟩ := partsB_spec he hln hW
            refine ⟨z, hz, f2, cs, h1, ?_⟩
            unfold zeroRow at h2; rw [f1] at h2; exact h2
        | false =>
          rw [eB] at hW
          simp only [cond_false] at hW
          obtain ⟨z, hz, hzl, hW⟩ := zeroCs_spec hW
          obtain ⟨cs, h1, h2⟩ := partsW_spec he hW
          exact ⟨z, hz, hzl, cs, h1, h2⟩
      obtain ⟨z, hz, hzl, cs, h1, h2⟩ := hW
      have hmap : (ps.map fun (i, x) => (i, a.eval x)).toList = ps.toList.map fun (i, x) => (i, a.eval x) := by simp
      have hzc : z.cells = (cellsOfV z).toArray := by rw [← cells_toList]
      have hrun : (execOp a.eval ⟨dst, .buildSlice t len ps, ty, pos, after, guard⟩).run P w = .ok (.value (.slice (some ⟨w.heap.size, 0, none⟩) len len)) { w with heap := w.heap.push (.cells cs.toArray e (0, 0)) } := by
        refine run_v ?_
        unfold Instr.buildSlice
        simp only [Sem.run_bind, run_under (tdesc_some hd (by simp)), Result.andThen_ok, run_size (okT_of_zero hz)]
        rw [if_neg (by omega)]
        by_cases h0 : len * szT P e = 0
        · have hlen : len = 0 := by
            rcases Nat.mul_eq_zero.1 h0 with h | h
            · exact h
            · omega
          have hfill : (Array.range (len * szT P e)).map (fun x => (#[] : Array Value)[x % (#[] : Array Value).size]!) = (List.replicate len (cellsOfV z)).flatten.toArray := by
            rw [hlen]; simp
          rw [if_pos h0]
          simp only [Sem.run_bind, Sem.run_pure, Result.andThen_ok, hfill, hmap, h2, newRow, run_newObj]
        · have hfill : (Array.range (len * szT P e)).map (fun x => z.cells[x % z.cells.size]!) = (List.replicate len (cellsOfV z)).flatten.toArray := by
            rw [hzc]; exact flat_get hzl len
          rw [if_neg h0]
          simp only [Sem.run_bind, run_zero hz, Sem.run_pure, Result.andThen_ok, hfill, hmap, h2, newRow, run_newObj]
      refine wp_value hrun ?_
      exact hn _ _ _ _ _ ρ (h1 w.heap.size (hh.holds.fresh (Nat.le_refl _))) rfl (hh.push rfl rfl rfl rfl) (Ext.refl _ _) rfl
  · exact hW.elim
theorem op_load {t : TypeId} {x : Operand} (hW : opW P H ⟨dst, .load t x, ty, pos, after, guard⟩ st h hl K) (he : EnvR ρ st a.tmps) : QSpec P ⟨dst, (.load t x), ty, pos, after, guard⟩ st h hl K a ρ := by
  simp only [opW] at hW
  rcases at_spec hW (ev_spec he x) with ⟨l, o, e1, e2, e3, hW⟩ | ⟨b, o, e3, hW⟩
  · simp only [] at hW
    split at hW
    · rename_i cs u e4
      obtain ⟨v, hW, hr⟩ := loadL_spec (b := ρ l) (u := u) hW
      refine ⟨_, v, hW, rfl, fun w _ hlr => run_v ?_⟩
      rw [e3]; exact hr w (hlr l cs u e4)
    · exact hW.elim
  · have hW : loadH P t hl b o fun v => K (.val v) st h := by
      simp only [] at hW
      cases ei : (ifcT P t && !Nat.beq H.ifc 0) with
      | false => rw [ei] at hW; exact hW
      | true =>
        rw [ei] at hW
        obtain ⟨ad, e4, hk⟩ := hW
        have hi := (Bool.and_eq_true_iff.1 ei).1
        unfold ifcT at hi
        split at hi
        · rename_i ms ed
          have e5 : aggT P t = false := by unfold aggT; rw [ed]
          have e6 : okU P t = true := by unfold okU; rw [tdesc_some ed (by simp)]; rfl
          have e7 : bigT P t = none := by unfold bigT; rw [ed]
          have e8 : blobT P t = false := by unfold blobT; rw [e5]; rfl
          unfold loadH
          rw [e7]
          simp only []
          rw [e8, e5, e6]
          simp only [cond_true, cond_false]
          rw [ed]
          exact ⟨_, e4, hk⟩
        · cases hi
    obtain ⟨v, hW, hr⟩ := loadH_spec hW
    refine ⟨_, v, hW, rfl, fun w hw _ => run_v ?_⟩
    rw [e3]; exact hr w hw
theorem run_u {P : Program} {s : Sem Unit} {w w' : World} (h : s.run P w = .ok () w') : (do s; pure Next.skip : Sem Next).run P w = .ok .skip w' := by
  rw [Sem.run_bind, h]; rfl
theorem op_store {t : TypeId} {y x : Operand} (hW : opW P H ⟨dst, .store t y x, ty, pos, after, guard⟩ st h hl K) (he : EnvR ρ st a.tmps) (hh : HeapR w0 h0 ρ st h w) (hn : Nx w0 h0 ρ st a dst K next) : (Oper.mk dst (.store t y x) ty pos after guard).wp P a w next Q := by
  simp only [opW] at hW
  have hW := evV_spec he hW
  cases eb : (bif blobT P t then some (0, IntKind.u8) else bigT P t) with
  | some nk =>
    rw [eb] at hW
    simp only [] at hW
    cases g1 : okT P t with
    | false => rw [g1] at hW; exact hW.elim
    | true =>
      rw [g1] at hW
      obtain ⟨g2, hp, hW⟩ := hW
      rcases at_spec hW (ev_spec he y) with ⟨l, o, e1, e2, e3, hW⟩ | ⟨b, o, e3, hW⟩
      · exact hW.elim
      · simp only [] at hW
        obtain ⟨cs, u, lo, hi, k1, k2, k3, hW⟩ := storeH_elim hW
        refine wp_unit (run_u ?_) (hn _ _ _ _ _ ρ hW rfl (hh.setB k1 _) (Ext.refl _ _) rfl)
        rw [e3]
        exact run_storeVar g1 g2 (hh.holds _ _ k1) k2 k3 hp
  | none =>
  rw [eb] at hW
  simp only [] at hW
  cases e0 : (okT P t && Nat.beq (cellsOfV (a.eval x)).length (szT P t)) with
  | false => rw [e0] at hW; exact hW.elim
  | true =>
    rw [e0] at hW
    simp only [cond_true] at hW
    obtain ⟨g1, g2⟩ := Bool.and_eq_true_iff.1 e0
    have g2 := Nat.eq_of_beq_eq_true g2
    rcases at_spec hW (ev_spec he y) with ⟨l, o, e1, e2, e3, hW⟩ | ⟨b, o, e3, hW⟩
    · simp only [] at hW
      split at hW
      · rename_i cs u e4
        cases e5 : Nat.ble (o + (cellsOfV (a.eval x)).length) cs.length with
        | false => rw [e5] at hW; exact hW.elim
        | true =>
          rw [e5] at hW
          have e5 := Nat.le_of_ble_eq_true e5
          obtain ⟨hp, hW⟩ := plainW_spec hW
          refine wp_unit (w' := w.setB (ρ l) (.cells (setL cs o (cellsOfV (a.eval x))).toArray u (0, 0))) (run_u ?_) (hn _ _ _ _ _ ρ hW rfl (hh.setL e4) Ext.setL rfl)
          rw [e3]
          rw [← setL_eq]
          exact run_storeVar g1 g2 (hh.loc l cs u e4).1 (by simpa using e5) (.inl (Nat.zero_le _)) hp
      · exact hW.elim
    · simp only [] at hW
      obtain ⟨hp, hW⟩ := plainW_spec hW
      obtain ⟨cs, u, lo, hi, k1, k2, k3, hW⟩ := storeH_elim hW
      refine wp_unit (run_u ?_) (hn _ _ _ _ _ ρ hW rfl (hh.setB k1 _) (Ext.refl _ _) rfl)
      rw [e3]
      exact run_storeVar g1 g2 (hh.holds _ _ k1) k2 k3 hp
theorem op_nilCheck {x : Operand} (hW : opW P H ⟨dst, .nilCheck x, ty, pos, after, guard⟩ st h hl K) (he : EnvR ρ st a.tmps) : QSpec P ⟨dst, (.nilCheck x), ty, pos, after, guard⟩ st h hl K a ρ := by
  simp only [opW] at hW
  have hx := ev_spec he x
  split at hW
  · rename_i b off e
    rw [e] at hx
    have hx : a.eval x = _ := hx
    exact ⟨_, a.eval x, hW, hx, fun w _ _ => by simp only [execOp, hx]; rfl⟩
  · rename_i l off e
    rw [e] at hx
    exact ⟨_, a.eval x, hW, hx, fun w _ _ => by simp only [execOp, hx.2]; rfl⟩
  · rename_i p e
    rw [e] at hx
    have hx : a.eval x = _ := hx
    obtain ⟨b, off, rfl, hW⟩ := hW
    exact ⟨_, a.eval x, hW, hx, fun w _ _ => by simp only [execOp, hx]; rfl⟩
  · rename_i t v e
    rw [e] at hx
    have hx : a.eval x = _ := hx
    exact ⟨_, a.eval x, hW, hx, fun w _ _ => by simp only [execOp, hx]; rfl⟩
  · rename_i f fst cap e
    rw [e] at hx
    have hx : a.eval x = _ := hx
    exact ⟨_, a.eval x, hW, hx, fun w _ _ => by simp only [execOp, hx]; rfl⟩
  · exact hW.elim
theorem op_makeFunc {fn : _root_.Go.Fn} {first captured : Array Operand} (hW : opW P H ⟨dst, .makeFunc fn first captured, ty, pos, after, guard⟩ st h hl K) (he : EnvR ρ st a.tmps) : QSpec P ⟨dst, (.makeFunc fn first captured), ty, pos, after, guard⟩ st h hl K a ρ := by
  simp only [opW] at hW
  cases fn with
  | func f =>
    have hW := evVs_spec he hW
    have hW := evVs_spec he hW
    refine ⟨_, _, hW, rfl, fun w _ _ => run_v ?_⟩
    unfold Instr.makeFunc
    have e : ∀ xs : Array Operand, xs.map a.eval = (xs.toList.map a.eval).toArray := fun xs => by apply Array.toList_inj.1; rw [Array.toList_map]
    rw [e first, e captured]
    rfl
  | _ => exact hW.elim
theorem op_makeInterface {t : TypeId} {x : Operand} (hW : opW P H ⟨dst, .makeInterface t x, ty, pos, after, guard⟩ st h hl K) (he : EnvR ρ st a.tmps) : QSpec P ⟨dst, (.makeInterface t x), ty, pos, after, guard⟩ st h hl K a ρ := by
  simp only [opW] at hW
  split at hW
  · exact hW.elim
  · exact hW.elim
  · rename_i h1 h2
    have hW := evV_spec he hW
    have hu : P.underlying t = some (tdesc P t) := tdesc_some rfl h2
    refine ⟨_, _, hW, rfl, fun w _ _ => run_v ?_⟩
    unfold Instr.makeInterface
    rw [Sem.run_bind, run_under hu]
    simp only [Result.andThen_ok]
    cases e : tdesc P t <;> first | rfl | exact absurd e (h1 _)
theorem pl_sv {n o : Nat} {pl : Pl} {v : Value} (h : (∃ l, pl = .loc l o ∧ l < st.n ∧ v = .pointer (some ⟨ρ l, o, none⟩)) ∨ ∃ b, pl = .ptr b o ∧ v = .pointer (some ⟨b, o, none⟩)) :
    ∃ ad : Addr, v = .pointer (some ad) ∧ ad.spot = none ∧ SVr ρ st.n (pl.sv n) (.pointer (some (ad.add n))) := by
  rcases h with ⟨l, rfl, h2, rfl⟩ | ⟨b, rfl, rfl⟩
  · exact ⟨_, rfl, rfl, by rw [add_mk]; exact ⟨h2, rfl⟩⟩
  · exact ⟨_, rfl, rfl, by rw [add_mk]; exact rfl⟩
theorem at_place {s : SV} {v : Value} {F : Pl → Prop} (hW : s.at F) (r : SVr ρ st.n s v) : ∃ pl, F pl ∧ ∃ b o, v = .pointer (some ⟨b, o, none⟩) ∧ ∀ n, SVr ρ st.n (pl.sv n) (.pointer (some ⟨b, o + n, none⟩)) := by
  rcases at_spec hW r with ⟨l, o, _, e2, e3, hW⟩ | ⟨b, o, e3, hW⟩
  · exact ⟨_, hW, ρ l, o, e3, fun n => ⟨e2, rfl⟩⟩
  · exact ⟨_, hW, b, o, e3, fun n => rfl⟩
theorem op_fieldAddr {s : TypeId} {x : Operand} {f : Nat} (hW : opW P H ⟨dst, .fieldAddr s x f, ty, pos, after, guard⟩ st h hl K) (he : EnvR ρ st a.tmps) : QSpec P ⟨dst, (.fieldAddr s x f), ty, pos, after, guard⟩ st h hl K a ρ := by
  simp only [opW] at hW
  split at hW
  · rename_i fs e
    split at hW
    · rename_i fd e1
      cases e2 : Nat.beq (szT P fd.type) 0 with
      | true => rw [e2] at hW; exact hW.elim
      | false =>
        rw [e2] at hW
        simp only [cond_false] at hW
        have hz : szT P fd.type ≠ 0 := fun h => by rw [h] at e2; cases e2
        obtain ⟨pl, hW, b, o, e3, e4⟩ := at_place hW (ev_spec he x)
        have hf : fs[f]? = some fd := by simpa using e1
        refine ⟨_, _, hW, e4 _, fun w _ _ => run_v ?_⟩
        simp only [Instr.fieldAt, Sem.run_bind, run_under (tdesc_some e (by simp)), Result.andThen_ok, hf, e3, Instr.sureAddr, Sem.run_pure, fieldPlace, run_size (okT_of_sz hz), if_neg hz, add_mk]
    · exact hW.elim
  · exact hW.elim
theorem op_indexAddr {t : TypeId} {x i : Operand} (hW : opW P H ⟨dst, .indexAddr t x i, ty, pos, after, guard⟩ st h hl K) (he : EnvR ρ st a.tmps) : QSpec P ⟨dst, (.indexAddr t x i), ty, pos, after, guard⟩ st h hl K a ρ := by
  simp only [opW] at hW
  have hW := evV_spec he hW
  split at hW
  · rename_i e ed
    cases e1 : okT P e with
    | false => rw [e1] at hW; exact hW.elim
    | true =>
      rw [e1] at hW
      have hW := evV_spec he hW
      split at hW
      · rename_i ad len cap ex
        obtain ⟨k, n, ei, h1, h2, b, off, hx, hK⟩ := idxW_spec hW
        subst hx
        refine ⟨_, _, hK, rfl, fun w _ _ => run_v ?_⟩
        simp [Instr.indexAt, asIntOf, ei, ex, run_under (tdesc_some ed (by simp)), h1, h2, run_size e1, add_mk]
      · exact hW.elim
  · rename_i len e ed
    cases e1 : okT P e with
    | false => rw [e1] at hW; exact hW.elim
    | true =>
      rw [e1] at hW
      simp only [cond_true] at hW
      obtain ⟨k, n, ei, h1, h2, hW⟩ := idxW_spec hW
      rw [idxMul_eq] at hW
      obtain ⟨pl, hW, b, o, e3, e4⟩ := at_place hW (ev_spec he x)
      refine ⟨_, _, hW, e4 _, fun w _ _ => run_v ?_⟩
      simp [Instr.indexAt, asIntOf, ei, e3, Instr.sureAddr, run_under (tdesc_some ed (by simp)), h1, h2, run_size e1, add_mk]
  · exact hW.elim
theorem byteAt_get {s : ByteArray} {n : Nat} (h : n < s.size) : ∃ b : UInt8, s[n]? = some b ∧ byteAt s n = (b.toNat : Nat) := by
  refine ⟨s[n], by simp [h], ?_⟩
  have h' : n < s.data.toList.length := by simpa using h
  unfold byteAt
  rw [List.getElem?_eq_getElem h']
  rfl
theorem part_cells {t : TypeId} {cs : Array Value} {o : Nat} {F : Value → Prop} (H : loadL P t cs.toList o F) : ∃ v, F v ∧ ∀ w : World, (part t cs o).run P w = .ok v w := by
  unfold loadL at H
  cases e : aggT P t with
  | true =>
    rw [e] at H; simp only [cond_true] at H
    cases e2 : Nat.ble (o + szT P t) cs.toList.length with
    | false => rw [e2] at H; exact H.elim
    | true =>
      rw [e2] at H; simp only [cond_true] at H
      have hu : ∃ d, P.underlying t = some d := by
        unfold aggT at e
        cases hd : tdesc P t <;> rw [hd] at e <;> first | (cases e; done) | exact ⟨_, tdesc_some hd (by simp)⟩
      obtain ⟨d, hu⟩ := hu
      refine ⟨_, H, fun w => ?_⟩
      unfold part
      rw [Sem.run_bind, run_agg hu, e]
      simp only [Result.andThen_ok, if_true, Sem.run_bind, run_size (okT_of_under hu), Sem.run_pure]
      congr 2
      apply Array.toList_inj.1
      rw [Array.toList_extract, List.toList_toArray, List.extract_eq_take_drop]
      congr 1; omega
  | false =>
    rw [e] at H; simp only [cond_false] at H
    cases e2 : okU P t with
    | false => rw [e2] at H; exact H.elim
    | true =>
      rw [e2] at H; simp only [cond_true] at H
      split at H
      · rename_i v ev
        refine ⟨_, H, fun w => ?_⟩
        have hv : cs[o]? = some v := by simpa using ev
        simp [part, run_agg (okU_some e2), e, hv]
      · exact H.elim
theorem cellsKs_spec {cs : List Value} : ∀ {ks : List Kd} {o : Nat} {F : List Value → Prop}, cellsKs cs o ks F → ∃ vs, vs.length = ks.length ∧ (∀ j (hj : j < vs.length), cs[o + j]? = some vs[j]) ∧ F vs
  | [], _, _, H => ⟨[], rfl, fun j hj => by simp at hj, H⟩
  | _ :: _, o, _, H => by
    obtain ⟨v, hv, H⟩ := Kd.ex_spec H
    obtain ⟨vs, e, hc, H⟩ := cellsKs_spec H
    refine ⟨v :: vs, by simp [e], fun j hj => ?_, H⟩
    cases j with
    | zero => simpa [lget] using hv
    | succ j => rw [show o + (j + 1) = o + 1 + j by omega]; simpa using hc j (by simpa using hj)
theorem part_take {P : Program} {t : TypeId} (e : aggT P t = true) (cs : Array Value) (o : Nat) (w : World) : (part t cs o).run P w = .ok (.agg ((cs.toList.drop o).take (szT P t)).toArray) w := by
  have hu : ∃ d, P.underlying t = some d := by
    unfold aggT at e
    cases hd : tdesc P t <;> rw [hd] at e <;> first | (cases e; done) | exact ⟨_, tdesc_some hd (by simp)⟩
  obtain ⟨d, hu⟩ := hu
  unfold part
  rw [Sem.run_bind, run_agg hu, e]
  simp only [Result.andThen_ok, if_true, Sem.run_bind, run_size (okT_of_under hu), Sem.run_pure]
  congr 2
  apply Array.toList_inj.1
  rw [Array.toList_extract, List.toList_toArray, List.extract_eq_take_drop]
  congr 1; omega
theorem fieldB_spec {t : TypeId} {n : Nat} {cs : Array Value} {o : Nat} {F : Value → Prop} (H : fieldB P t n cs.toList o F) : ∃ v, F v ∧ ∀ w : World, (part t cs o).run P w = .ok v w := by
  unfold fieldB at H
  cases e1 : Nat.ble (o + szT P t) n with
  | false => rw [e1] at H; exact H.elim
  | true =>
  rw [e1] at H
  simp only [Bool.not_true, cond_false] at H
  have e1 := Nat.le_of_ble_eq_true e1
  obtain ⟨hn, H⟩ := H
  split at H
  · rename_i m k eb
    have ea : aggT P t = true := by
      unfold bigT at eb
      unfold aggT
      split at eb
      · rename_i hd; rw [hd]
      · cases eb
    cases e2 : Nat.beq m (szT P t) with
    | false => rw [e2] at H; exact H.elim
    | true =>
      rw [e2] at H
      obtain ⟨ns, _, e3, H⟩ := H
      have e2 := Nat.eq_of_beq_eq_true e2
      subst e2
      refine ⟨_, H, fun w => ?_⟩
      rw [part_take ea, e3]
  · cases eB : blobT P t with
    | true =>
      rw [eB] at H
      have ea : aggT P t = true := by
        unfold blobT at eB
        exact (Bool.and_eq_true_iff.1 (Bool.and_eq_true_iff.1 eB).1).1
      exact ⟨_, H, fun w => part_take ea cs o w⟩
    | false =>
      rw [eB] at H
      simp only [cond_false] at H
      cases e : aggT P t with
      | true =>
        rw [e] at H; simp only [cond_true] at H
        cases e2 : Nat.beq (kds P t).length (szT P t) with
        | false => rw [e2] at H; exact H.elim
        | true =>
          rw [e2] at H; simp only [cond_true] at H
          obtain ⟨vs, hl, hc, H⟩ := cellsKs_spec H
          refine ⟨_, H, fun w => ?_⟩
          rw [part_take e]
          have e2 := Nat.eq_of_beq_eq_true e2
          have : (cs.toList.drop o).take (szT P t) = vs := by
            refine List.ext_getElem? fun j => ?_
            by_cases hj : j < vs.length
            · rw [List.getElem?_take_of_lt (by omega), List.getElem?_drop, hc j hj, List.getElem?_eq_getElem hj]
            · rw [List.getElem?_eq_none (by simp; omega), List.getElem?_eq_none (by omega)]
          rw [this]
      | false =>
        rw [e] at H; simp only [cond_false] at H
        cases e2 : okU P t with
        | false => rw [e2] at H; exact H.elim
        | true =>
          rw [e2] at H; simp only [cond_true] at H
          obtain ⟨v, hv, H⟩ := Kd.ex_spec H
          refine ⟨_, H, fun w => ?_⟩
          have hv : cs[o]? = some v := by simpa [lget] using hv
          simp [part, run_agg (okU_some e2), e, hv]
theorem op_field {t : TypeId} {x : Operand} {f : Nat} (hW : opW P H ⟨dst, .field t x f, ty, pos, after, guard⟩ st h hl K) (he : EnvR ρ st a.tmps) : QSpec P ⟨dst, (.field t x f), ty, pos, after, guard⟩ st h hl K a ρ := by
  simp only [opW] at hW
  split at hW
  · rename_i fs ed
    split at hW
    · rename_i fd ef
      have hW := evV_spec he hW
      split at hW
      · rename_i cs ex
        have hW : ∃ v, K (.val v) st h ∧ ∀ w : World, (part fd.type cs fd.offset).run P w = .ok v w := by
          cases eB : blobT P t with
          | true => rw [eB] at hW; exact fieldB_spec hW
          | false => rw [eB] at hW; exact part_cells hW
        obtain ⟨v, hk, hr⟩ := hW
        refine ⟨_, v, hk, rfl, fun w _ _ => run_v ?_⟩
        have hf : fs[f]? = some fd := by simpa using ef
        simp only [Instr.field, Sem.run_bind, run_under (tdesc_some ed (by simp)), Result.andThen_ok, hf, ex, asAgg, Sem.run_pure, hr w]
      · exact hW.elim
    · exact hW.elim
  · exact hW.elim
theorem op_index {t : TypeId} {x i : Operand} (hW : opW P H ⟨dst, .index t x i, ty, pos, after, guard⟩ st h hl K) (he : EnvR ρ st a.tmps) : QSpec P ⟨dst, (.index t x i), ty, pos, after, guard⟩ st h hl K a ρ := by
  simp only [opW] at hW
  have hW := evV_spec he hW
  have hW := evV_spec he hW
  split at hW
  · rename_i s ed ex
    obtain ⟨k, n, ei, h1, h2, hW⟩ := idxW_spec hW
    have h2 : n < (s.size : Int) := h2
    obtain ⟨b, hb1, hb2⟩ := byteAt_get (s := s) (n := n.toNat) (by omega)
    refine ⟨_, _, hW, rfl, fun w _ _ => run_v ?_⟩
    simp [Instr.index, asIntOf, ei, ex, run_under (tdesc_some ed (by simp)), h1, hb1, hb2]
  · rename_i len e cs ed ex
    cases e1 : (aggT P e || !okU P e || !okT P e) with
    | true => rw [e1] at hW; exact hW.elim
    | false =>
      rw [e1] at hW
      simp only [cond_false] at hW
      have e2 : aggT P e = false := by cases h : aggT P e <;> simp_all
      have e3 : okU P e = true := by cases h : okU P e <;> simp_all
      have e4 : okT P e = true := by cases h : okT P e <;> simp_all
      obtain ⟨k, n, ei, h1, h2, hW⟩ := idxW_spec hW
      rw [idxMul_eq] at hW
      obtain ⟨v, ev, hW⟩ := Kd.ex_spec hW
      have hv : cs[n.toNat * szT P e]? = some v := by simpa [lget] using ev
      refine ⟨_, _, hW, rfl, fun w _ _ => run_v ?_⟩
      simp [Instr.index, asIntOf, ei, ex, run_under (tdesc_some ed (by simp)), h1, h2, run_size e4, part, run_agg (okU_some e3), e2, hv]
  · exact hW.elim
end
end Go.Gx
